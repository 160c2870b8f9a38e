/- REG, part A: the contexts of layer 20's runs; its lives. -/
import Derived.Test.YtaopgmkjeimpiaaHnL
import Derived.Test.YtaopgmkjeimpiaaKecN
import Derived.Test.YtaopgmkjeimpiaaGlobT
set_option maxRecDepth 100000
namespace Go.HM.Rg
open Go.Proofs Go.HM.Kec

/-- Registry: what is made in memory that is written; Keccak is known. -/
noncomputable def Cg (K : FuncId → List T → Option (List T)) : GCtx := { P := Try.prog, pr := pureCall Try.prog [87, 47, 84] [] [("registry.go:84", 101), ("policy.go:36", 193), ("policy.go:61", 193), ("registry.go:186", 109)], K, keep := fun _ _ => false, frz := fun _ _ => [], item := fun _ => some (.res false), glob := globOf globT, KG := fun _ _ _ => none, fuel := 1000, vec := appAt ["registry.go:84", "registry.go:186", "policy.go:61"] }
theorem Cg_ok {K : FuncId → List T → Option (List T)} (h : ∀ f ts rs, K f ts = some rs → PCall Try.prog f ts rs) : KOk (Cg K) := ⟨names_ok, h, fun _ _ _ _ _ h => (by cases h)⟩

def K0 (f : FuncId) (ts : List T) : Option (List T) := if Nat.beq f 35 then KSumN ts else none
theorem K0_ok : ∀ f ts rs, K0 f ts = some rs → PCall Try.prog f ts rs := by
  intro f ts rs h
  unfold K0 at h
  split at h
  · rename_i hf
    have hf' : f = 35 := by simpa using hf
    subst hf'
    exact KSumN_ok h
  · cases h

theorem lives20_run : runK (Cg K0) 30 9 [] [] = some ([.bool true], []) := by kernel_rfl
theorem lives20_ok : PCall Try.prog 9 [] [.bool true] := runK_sound (Cg_ok K0_ok) lives20_run trivial

/-- lives is known, too. -/
def K1 (f : FuncId) (ts : List T) : Option (List T) := if Nat.beq f 9 then match ts with | [] => some [.bool true] | _ => none else K0 f ts
theorem K1_ok : ∀ f ts rs, K1 f ts = some rs → PCall Try.prog f ts rs := by
  intro f ts rs h
  unfold K1 at h
  split at h
  · rename_i hf
    have hf' : f = 9 := by simpa using hf
    subst hf'
    split at h
    · injection h with h; subst h; exact lives20_ok
    · cases h
  · exact K0_ok f ts rs h
end Go.HM.Rg
