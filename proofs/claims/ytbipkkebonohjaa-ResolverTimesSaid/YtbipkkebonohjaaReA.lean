/- RES, part A: what is known of calls; the terms of layer 16; lives of layer 17. -/
import Derived.Test.YtbipkkebonohjaaKecR
set_option maxRecDepth 100000
namespace Go.HM.Re
open Go.Proofs Go.HM.Kec

noncomputable def Cr (K : FuncId → List T → Option (List T)) : GCtx := { P := Try.prog, pr := fun o => callTo [174, 180] o || pureCall Try.prog [60, 27, 87, 132, 75, 82, 29, 15, 21, 32, 33, 78, 81, 77] [] [("resolver.go:146", 58), ("law.go:21", 27)] o, K, keep := fun _ _ => false, frz := fun _ _ => [], item := fun _ => some (.res false), glob := globOf globT, KG := fun _ _ _ => none, fuel := 1000, vec := appAt ["ref.go:118", "slices.go:362", "resolver.go:146"] }
theorem Cr_ok {K : FuncId → List T → Option (List T)} (h : ∀ f ts rs, K f ts = some rs → PCall Try.prog f ts rs) : KOk (Cr K) := ⟨names_ok, h, fun _ _ _ _ _ h => (by cases h)⟩

def K5 (f : FuncId) (ts : List T) : Option (List T) := if Nat.beq f 120 then KSumN ts else KRef f ts
theorem K5_ok : ∀ f ts rs, K5 f ts = some rs → PCall Try.prog f ts rs := by
  intro f ts rs h
  unfold K5 at h
  split at h
  · rename_i hf
    have hf' : f = 120 := by simpa using hf
    subst hf'
    exact KSumN_ok h
  · exact KRef_ok f ts rs h

def terms16 : T := .agg [.int .i64 1, .int .i64 0, .int .i64 1, .agg [.ba 32 [183, 88, 42, 1, 155, 170, 175, 82, 21, 193, 130, 49, 40, 234, 65, 183, 80, 201, 140, 153, 185, 212, 46, 24, 108, 141, 225, 200, 22, 92, 32, 185], .int .i64 0], .int .i64 1000, .int .i64 700, .int .i64 3, .int .i64 1, .int .i64 10, .int .i64 5, .int .i64 900]
theorem terms16_run : runK (Cr K5) 30 28 [] [] = some ([terms16], []) := by kernel_rfl
theorem terms16_ok : PCall Try.prog 28 [] [terms16] := runK_sound (Cr_ok K5_ok) terms16_run trivial
end Go.HM.Re
