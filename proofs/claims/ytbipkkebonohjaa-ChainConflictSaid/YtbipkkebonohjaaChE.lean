/- CHAIN, part E: what is known of calls; lives. -/
import Derived.Test.YtbipkkebonohjaaChA
import Derived.Test.YtbipkkebonohjaaKecN
import Derived.Test.YtbipkkebonohjaaGlobT
set_option maxRecDepth 100000
namespace Go.HM.Ch
open Go.Proofs Go.HM.Kec

def KCl (e : Nat) (ts : List T) : Option (List T) := match ts with
  | [.lst x e' l] => if Nat.beq e' e && Nat.ble l.length 4294967296 then some [.lst false e l] else none
  | _ => none

theorem KCl_spec {e : Nat} {ts rs : List T} (h : KCl e ts = some rs) : ∃ x l, ts = [.lst x e l] ∧ rs = [.lst false e l] ∧ l.length ≤ 4294967296 := by
  unfold KCl at h
  split at h
  · rename_i x e' l
    split at h
    · rename_i hc
      simp only [Bool.and_eq_true, Nat.beq_eq, Nat.ble_eq] at hc
      injection h with h
      exact ⟨x, l, by rw [hc.1], h.symm, hc.2⟩
    · cases h
  · cases h

/-- The digest, clones; 'q': digests are reckoned. -/
def K3 (q : Bool) (f : FuncId) (ts : List T) : Option (List T) :=
  if Nat.beq f 120 then (match q with | true => KSumN ts | false => KSum ts) else if Nat.beq f 132 then KCl 130 ts else if Nat.beq f 163 then KCl 37 ts else none

theorem K3_ok (q : Bool) : ∀ f ts rs, K3 q f ts = some rs → PCall Try.prog f ts rs := by
  intro f ts rs h
  unfold K3 at h
  split at h
  · rename_i hf
    have hf' : f = 120 := by simpa using hf
    subst hf'
    cases q with
    | true => exact KSumN_ok h
    | false => exact KSum_ok h
  · split at h
    · rename_i hf
      have hf' : f = 132 := by simpa using hf
      subst hf'
      obtain ⟨x, l, rfl, rfl, hl⟩ := KCl_spec h
      exact ins_ok x l hl
    · split at h
      · rename_i hf
        have hf' : f = 163 := by simpa using hf
        subst hf'
        obtain ⟨x, l, rfl, rfl, hl⟩ := KCl_spec h
        exact paths_ok x l hl
      · cases h

noncomputable def Cv (K : FuncId → List T → Option (List T)) : GCtx := { P := Try.prog, pr := pureCall Try.prog [60, 27, 87, 132, 75] [] [("law.go:35", 31), ("more.go:23", 31)], K, keep := fun _ _ => false, frz := fun _ _ => [], item := fun _ => some (.res false), glob := globOf globT, KG := fun _ _ _ => none, fuel := 1000, vec := appAt ["chain.go:309"] }
theorem Cv_ok {K : FuncId → List T → Option (List T)} (h : ∀ f ts rs, K f ts = some rs → PCall Try.prog f ts rs) : KOk (Cv K) := ⟨names_ok, h, fun _ _ _ _ _ h => (by cases h)⟩

/-- The same; that some boxes stay as they are is owed. -/
noncomputable def Cw (K : FuncId → List T → Option (List T)) : GCtx := { Cv K with owe := oweAt [("more.go:25", [(1, 6), (5, 6)]), ("chain.go:243", [(8, 9)]), ("chain.go:246", [(1, 6), (5, 6)]), ("chain.go:294", [(4, 6), (5, 6), (7, 6)]), ("chain.go:195", [(1, 2), (4, 2)])] }
theorem Cw_ok {K : FuncId → List T → Option (List T)} (h : ∀ f ts rs, K f ts = some rs → PCall Try.prog f ts rs) : KOk (Cw K) := ⟨names_ok, h, fun _ _ _ _ _ h => (by cases h)⟩

theorem lives13_run : runK (Cv (K3 true)) 30 35 [] [] = some ([.bool true], []) := by kernel_rfl
theorem lives13_ok : PCall Try.prog 35 [] [.bool true] := runK_sound (Cv_ok (K3_ok true)) lives13_run trivial

def K4 (f : FuncId) (ts : List T) : Option (List T) := if Nat.beq f 35 then match ts with | [] => some [.bool true] | _ => none else K3 false f ts
theorem K4_ok : ∀ f ts rs, K4 f ts = some rs → PCall Try.prog f ts rs := by
  intro f ts rs h
  unfold K4 at h
  split at h
  · rename_i hf
    have hf' : f = 35 := by simpa using hf
    subst hf'
    split at h
    · injection h with h; subst h; exact lives13_ok
    · cases h
  · exact K3_ok false f ts rs h
end Go.HM.Ch
