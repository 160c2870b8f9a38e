/- NEAR, part A: the contexts of this seat's runs. -/
import Derived.Test.YtbipkkebonohjaaHnG
import Derived.Test.YtbipkkebonohjaaKecE
import Derived.Test.YtbipkkebonohjaaGlobT
set_option maxRecDepth 100000
namespace Go.HM.Ne
open Go.Proofs Go.HM.Kec

/-- Updates: what is made in memory that is written; Keccak is known. -/
noncomputable def Cu (K : FuncId → List T → Option (List T)) : GCtx := { P := Try.prog, pr := pureCall Try.prog [167] [] [], K, keep := fun _ _ => false, frz := fun _ _ => [], item := fun _ => some (.res false), glob := globOf globT, KG := fun _ _ _ => none, fuel := 1000, vec := appAt ["slices.go:428"] }

def K0 (f : FuncId) (ts : List T) : Option (List T) := if Nat.beq f 120 then KSum ts else none
theorem K0_ok : ∀ f ts rs, K0 f ts = some rs → PCall Try.prog f ts rs := by
  intro f ts rs h
  unfold K0 at h
  split at h
  · rename_i hf
    have hf' : f = 120 := by simpa using hf
    subst hf'
    exact KSum_ok h
  · cases h

theorem Cu_ok {K : FuncId → List T → Option (List T)} (h : ∀ f ts rs, K f ts = some rs → PCall Try.prog f ts rs) : KOk (Cu K) := ⟨names_ok, h, fun _ _ _ _ _ h => (by cases h)⟩

theorem lives15_run : runK (Cu K0) 30 49 [] [] = some ([.bool true], []) := by kernel_rfl
theorem lives15_ok : PCall Try.prog 49 [] [.bool true] := runK_sound (Cu_ok K0_ok) lives15_run trivial

/-- lives is known, too. -/
def K1 (f : FuncId) (ts : List T) : Option (List T) := if Nat.beq f 49 then match ts with | [] => some [.bool true] | _ => none else K0 f ts
theorem K1_ok : ∀ f ts rs, K1 f ts = some rs → PCall Try.prog f ts rs := by
  intro f ts rs h
  unfold K1 at h
  split at h
  · rename_i hf
    have hf' : f = 49 := by simpa using hf
    subst hf'
    split at h
    · injection h with h; subst h; exact lives15_ok
    · cases h
  · exact K0_ok f ts rs h
end Go.HM.Ne
