/- SPLIT: 'lives' gives true; SplitNobody, run on whatever comes. -/
import Derived.Test.YtaghnihkkofmnaaGreatHnL
import Derived.Test.YtaghnihkkofmnaaGreatSpK
import Derived.Test.YtaghnihkkofmnaaGreatGlobT
import Derived.Test.YtaghnihkkofmnaaGreatHmRow
set_option maxRecDepth 100000
namespace Go.HM.Sp
open Go.Proofs Go.HM.Kec

def exF : List Nat := [5, 6, 7, 8, 10, 11, 12, 13, 16, 17, 18, 19, 21, 22, 23, 25, 26, 27, 33, 35, 36, 38, 44, 45, 46, 47, 48, 55, 58, 61, 64, 66, 67, 69, 70, 77, 86, 87, 88, 89, 90, 91, 100, 109, 110, 111, 112, 148, 62, 73, 42, 20, 32]
noncomputable def prS : Oper → Bool := pureCall Tryz.prog exF [] [("graph.go:191", 143), ("split.go:93", 50), ("split.go:113", 30), ("split.go:140", 30)]
/-- What is written is made in memory of its own; Keccak is known. -/
noncomputable def Cs (K : FuncId → List T → Option (List T)) : GCtx := { P := Tryz.prog, pr := prS, K, keep := fun _ _ => false, frz := fun _ _ => [], item := fun _ => some (.res false), glob := globOf globT, KG := fun _ _ _ => none, fuel := 1000, vec := appAt ["graph.go:215", "slices.go:145", "slices.go:362", "split.go:93", "split.go:113", "split.go:140"], al := fun ops => !balFirst prS ops.toList && !indepG (apS ops) (tch prS) ops }
theorem Cs_ok {K : FuncId → List T → Option (List T)} (h : ∀ f ts rs, K f ts = some rs → PCall Tryz.prog f ts rs) : KOk (Cs K) := ⟨names_ok, h, fun _ _ _ _ _ h => (by cases h)⟩

def K0 (f : FuncId) (ts : List T) : Option (List T) := if Nat.beq f 49 then KSumN ts else none
theorem K0_ok : ∀ f ts rs, K0 f ts = some rs → PCall Tryz.prog f ts rs := by
  intro f ts rs h
  unfold K0 at h
  split at h
  · rename_i hf
    have hf' : f = 49 := by simpa using hf
    subst hf'
    exact KSumN_ok h
  · cases h

theorem lives23_run : runK (Cs K0) 30 9 [] [] = some ([.bool true], []) := by kernel_rfl
theorem lives23_ok : PCall Tryz.prog 9 [] [.bool true] := runK_sound (Cs_ok K0_ok) lives23_run trivial

/-- lives is known, too. -/
def K1 (f : FuncId) (ts : List T) : Option (List T) := if Nat.beq f 9 then match ts with | [] => some [.bool true] | _ => none else K0 f ts
theorem K1_ok : ∀ f ts rs, K1 f ts = some rs → PCall Tryz.prog f ts rs := by
  intro f ts rs h
  unfold K1 at h
  split at h
  · rename_i hf
    have hf' : f = 9 := by simpa using hf
    subst hf'
    split at h
    · injection h with h; subst h; exact lives23_ok
    · cases h
  · exact K0_ok f ts rs h
end Go.HM.Sp

set_option maxRecDepth 100000
namespace Go.HM.Sp
open Go.Proofs

theorem nobody_run (ino iki iam iex k mo nu ho re he ti : Int) (s : ByteArray) (b1 b2 b3 b4 : List Int) :
    runK (Cs K1) 30 3 [.agg [.int .i64 k, .agg [.int .i64 ino, .int .i64 iki, .ba 32 b1, .ba 32 b2, .int .i64 iam, .int .i64 iex, .str s], .int .i64 mo, .ba 32 b3, .int .i64 nu, .int .i64 ho, .int .i64 re, .ba 32 b4, .int .i64 he, .int .i64 ti]] [] = some ([.bool true], []) := by kernel_rfl

def invSh : Sh := .struct [.int .i64, .int .i64, .bytes 32, .bytes 32, .int .i64, .int .i64, .str]
def opSh : Sh := .struct [.int .i64, invSh, .int .i64, .bytes 32, .int .i64, .int .i64, .int .i64, .bytes 32, .int .i64, .int .i64]

theorem nobody_args {xs : List T} (h : HasShs [opSh] xs) : PCall Tryz.prog 3 xs [.bool true] := by
  obtain ⟨_, _, rfl, ⟨_, rfl, _, _, rfl, ⟨k, rfl, _⟩, _, _, rfl, ⟨_, rfl, _, _, rfl, ⟨ino, rfl, _⟩, _, _, rfl, ⟨iki, rfl, _⟩, _, _, rfl, ⟨b1, rfl, _, _⟩, _, _, rfl, ⟨b2, rfl, _, _⟩, _, _, rfl, ⟨iam, rfl, _⟩, _, _, rfl, ⟨iex, rfl, _⟩, _, _, rfl, ⟨s, rfl, _⟩, rfl⟩, _, _, rfl, ⟨mo, rfl, _⟩, _, _, rfl, ⟨b3, rfl, _, _⟩, _, _, rfl, ⟨nu, rfl, _⟩, _, _, rfl, ⟨ho, rfl, _⟩, _, _, rfl, ⟨re, rfl, _⟩, _, _, rfl, ⟨b4, rfl, _, _⟩, _, _, rfl, ⟨he, rfl, _⟩, _, _, rfl, ⟨ti, rfl, _⟩, rfl⟩, rfl⟩ := h
  exact runK_sound (Cs_ok K1_ok) (nobody_run ino iki iam iex k mo nu ho re he ti s b1 b2 b3 b4) trivial
end Go.HM.Sp
