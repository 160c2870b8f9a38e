/- CHAIN, part B: lives. -/
import Derived.Test.YtppikmabofeoeaaChA
import Derived.Test.YtppikmabofeoeaaKecE
set_option maxRecDepth 100000
namespace Go.HM.Ch
open Go.Proofs Go.HM.Kec

def KCl (e : Nat) (ts : List T) : Option (List T) := match ts with
  | [.lst x e' l] => if Nat.beq e' e && Nat.ble l.length 4294967296 then some [.lst false e l] else none
  | _ => none

def Kc (f : FuncId) (ts : List T) : Option (List T) :=
  if Nat.beq f 54 then KSum ts else if Nat.beq f 65 then KCl 130 ts else if Nat.beq f 82 then KCl 37 ts else none

theorem KCl_spec {e : Nat} {ts rs : List T} (h : KCl e ts = some rs) : ∃ x l, ts = [.lst x e l] ∧ rs = [.lst false e l] ∧ l.length ≤ 4294967296 := by
  unfold KCl at h
  split at h
  · rename_i x e' l
    split at h
    · rename_i hc
      simp only [Bool.and_eq_true, Nat.beq_eq, Nat.ble_eq] at hc
      injection h with h
      exact ⟨x, l, by rw [hc.1], h.symm, hc.2⟩
    · cases h
  · cases h

theorem Kc_ok : ∀ f ts rs, Kc f ts = some rs → PCall Try.prog f ts rs := by
  intro f ts rs h
  unfold Kc at h
  split at h
  · rename_i hf
    have hf' : f = 54 := by simpa using hf
    subst hf'
    exact KSum_ok h
  · split at h
    · rename_i hf
      have hf' : f = 65 := by simpa using hf
      subst hf'
      obtain ⟨x, l, rfl, rfl, hl⟩ := KCl_spec h
      exact ins_ok x l hl
    · split at h
      · rename_i hf
        have hf' : f = 82 := by simpa using hf
        subst hf'
        obtain ⟨x, l, rfl, rfl, hl⟩ := KCl_spec h
        exact paths_ok x l hl
      · cases h

noncomputable def Cl : GCtx := { P := Try.prog, pr := pureCall Try.prog [43, 24, 36, 31, 65] [] [("law.go:35", 40)], K := Kc, keep := fun _ _ => false, frz := fun f r => if Nat.beq f 76 && Nat.beq r 11 then [5, 12] else [], item := fun _ => some (.res false), glob := fun _ => none, KG := fun _ _ _ => none, fuel := 1000 }

theorem Cl_ok : KOk Cl := ⟨names_ok, Kc_ok, fun _ _ _ _ _ h => (by cases h)⟩

theorem lives_run : runC Cl 30 9 [] [] = some ([.bool true], []) := by kernel_rfl

theorem lives_ok : PCall Try.prog 9 [] [.bool true] := runC_sound Cl_ok lives_run trivial
end Go.HM.Ch
