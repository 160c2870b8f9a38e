/- RES, part B: lives of layer 17; the runs of ResolverTimes (printed by a small program out of the runs themselves). -/
import Derived.Test.YtbipkkebonohjaaReA
set_option maxRecDepth 100000
namespace Go.HM.Re
open Go.Proofs Go.HM.Kec

def K7 (f : FuncId) (ts : List T) : Option (List T) := if Nat.beq f 28 then match ts with | [] => some [terms16] | _ => none else K5 f ts
theorem K7_ok : ∀ f ts rs, K7 f ts = some rs → PCall Try.prog f ts rs := by
  intro f ts rs h
  unfold K7 at h
  split at h
  · rename_i hf
    have hf' : f = 28 := by simpa using hf
    subst hf'
    split at h
    · injection h with h; subst h; exact terms16_ok
    · cases h
  · exact K5_ok f ts rs h

theorem lives17_run : runK (Cr K7) 30 30 [] [] = some ([.bool true], []) := by kernel_rfl
theorem lives17_ok : PCall Try.prog 30 [] [.bool true] := runK_sound (Cr_ok K7_ok) lives17_run trivial

def K6 (f : FuncId) (ts : List T) : Option (List T) := if Nat.beq f 30 then match ts with | [] => some [.bool true] | _ => none else K7 f ts
theorem K6_ok : ∀ f ts rs, K6 f ts = some rs → PCall Try.prog f ts rs := by
  intro f ts rs h
  unfold K6 at h
  split at h
  · rename_i hf
    have hf' : f = 30 := by simpa using hf
    subst hf'
    split at h
    · injection h with h; subst h; exact lives17_ok
    · cases h
  · exact K7_ok f ts rs h

theorem times_0_true (ex he : Int): runK (Cr K6) 30 4 [.int .i64 ex, .int .i64 he, .bool true] [(82, false), (0, false), (0, false), (0, false), (302, false), (114, true), (18, false), (101, false), (328, true)] = some ([.bool true], [decide (ex > he) = true, decide (he ≥ ex) = false, decide (0 > he) = false, decide (ex > he) = true, decide (0 > he) = false, decide (he > 2000) = false, decide (he < 0) = false, decide (ex > 1000) = false, decide (ex < 0) = false]) := by kernel_rfl
theorem times_0_false (ex he : Int): runK (Cr K6) 30 4 [.int .i64 ex, .int .i64 he, .bool false] [(82, false), (0, false), (0, false), (0, false), (302, false), (114, true), (15, false), (323, true)] = some ([.bool true], [decide (ex > he) = true, decide (he ≥ ex) = false, decide (ex > he) = true, decide (0 > he) = false, decide (he > 2000) = false, decide (he < 0) = false, decide (ex > 1000) = false, decide (ex < 0) = false]) := by kernel_rfl
theorem times_1_true (ex he : Int): runK (Cr K6) 30 4 [.int .i64 ex, .int .i64 he, .bool true] [(82, false), (0, false), (0, false), (0, false), (302, false), (114, false), (118, false), (101, true)] = some ([.bool true], [decide (he ≥ ex) = true, decide (0 > he) = false, decide (ex > he) = false, decide (0 > he) = false, decide (he > 2000) = false, decide (he < 0) = false, decide (ex > 1000) = false, decide (ex < 0) = false]) := by kernel_rfl
theorem times_1_false (ex he : Int): runK (Cr K6) 30 4 [.int .i64 ex, .int .i64 he, .bool false] [(82, false), (0, false), (0, false), (0, false), (302, false), (114, false), (115, true)] = some ([.bool true], [decide (he ≥ ex) = true, decide (ex > he) = false, decide (0 > he) = false, decide (he > 2000) = false, decide (he < 0) = false, decide (ex > 1000) = false, decide (ex < 0) = false]) := by kernel_rfl
theorem times_2_true (ex he : Int): runK (Cr K6) 30 4 [.int .i64 ex, .int .i64 he, .bool true] [(82, true)] = some ([.bool true], [decide (ex < 0) = true]) := by kernel_rfl
theorem times_2_false (ex he : Int): runK (Cr K6) 30 4 [.int .i64 ex, .int .i64 he, .bool false] [(82, true)] = some ([.bool true], [decide (ex < 0) = true]) := by kernel_rfl
theorem times_3_true (ex he : Int): runK (Cr K6) 30 4 [.int .i64 ex, .int .i64 he, .bool true] [(82, false), (0, true)] = some ([.bool true], [decide (ex > 1000) = true, decide (ex < 0) = false]) := by kernel_rfl
theorem times_3_false (ex he : Int): runK (Cr K6) 30 4 [.int .i64 ex, .int .i64 he, .bool false] [(82, false), (0, true)] = some ([.bool true], [decide (ex > 1000) = true, decide (ex < 0) = false]) := by kernel_rfl
theorem times_4_true (ex he : Int): runK (Cr K6) 30 4 [.int .i64 ex, .int .i64 he, .bool true] [(82, false), (0, false), (0, true)] = some ([.bool true], [decide (he < 0) = true, decide (ex > 1000) = false, decide (ex < 0) = false]) := by kernel_rfl
theorem times_4_false (ex he : Int): runK (Cr K6) 30 4 [.int .i64 ex, .int .i64 he, .bool false] [(82, false), (0, false), (0, true)] = some ([.bool true], [decide (he < 0) = true, decide (ex > 1000) = false, decide (ex < 0) = false]) := by kernel_rfl
theorem times_5_true (ex he : Int): runK (Cr K6) 30 4 [.int .i64 ex, .int .i64 he, .bool true] [(82, false), (0, false), (0, false), (0, true)] = some ([.bool true], [decide (he > 2000) = true, decide (he < 0) = false, decide (ex > 1000) = false, decide (ex < 0) = false]) := by kernel_rfl
theorem times_5_false (ex he : Int): runK (Cr K6) 30 4 [.int .i64 ex, .int .i64 he, .bool false] [(82, false), (0, false), (0, false), (0, true)] = some ([.bool true], [decide (he > 2000) = true, decide (he < 0) = false, decide (ex > 1000) = false, decide (ex < 0) = false]) := by kernel_rfl
end Go.HM.Re
