/- HN, part G: a slice is nil, or is not: both ways told, it is told. -/
import Derived.Test.YtaghnihkkofmnaaGreatHnF
namespace Go.HM
variable {P : Program}

theorem TV.sl_cases {w : World} {ok : Nat → Nat → Prop} {x : Bool} {e : Nat} {ts : List T} {v : Value} (h : TV w ok (.lst x e ts) v) :
    (ts = [] ∧ TV w ok (.sl true (.lst x e [])) v) ∨ TV w ok (.sl false (.lst x e ts)) v := by
  have h1 := h.cell rfl
  cases h1 with
  | lstnil => exact .inl ⟨rfl, .of_cells (.sl .lstnil rfl rfl) rfl⟩
  | lst0 q => exact .inr (.of_cells (.sl (.lst0 q) rfl rfl) rfl)
  | lst a b c d f g => exact .inr (.of_cells (.sl (.lst a b c d f g) rfl rfl) rfl)

theorem PCall.sl_cases {f : FuncId} {x : Bool} {e : Nat} {ts rs : List T} (h1 : ts = [] → PCall P f [.sl true (.lst x e [])] rs) (h2 : PCall P f [.sl false (.lst x e ts)] rs) : PCall P f [.lst x e ts] rs := by
  refine ⟨h2.1, fun U w vals hU hF => ?_⟩
  cases hF with
  | cons hv hn =>
    cases hn
    rcases hv.sl_cases with ⟨h0, hv⟩ | hv
    · exact (h1 h0).2 U w _ hU (.cons hv .nil)
    · exact h2.2 U w _ hU (.cons hv .nil)

theorem Tc.unx {w : World} {ok : Nat → Nat → Prop} {x : Bool} {e : Nat} {ts : List T} {cs : List Value} (h : Tc w ok (.lst x e ts) cs) : Tc w ok (.lst false e ts) cs := by
  cases h with
  | lstnil => exact .lstnil
  | lst0 q => exact .lst0 (fun h => by cases h)
  | lst a b c d f g => exact .lst a b (fun h => by cases h) d f g

/-- The flag of a result may be let go. -/
theorem PCall.unx {f : FuncId} {x : Bool} {e : Nat} {as ts : List T} (h : PCall P f as [.lst x e ts]) : PCall P f as [.lst false e ts] := by
  refine ⟨h.1, fun U w vals hU hF => (h.2 U w vals hU hF).mono ?_⟩
  rintro e' w' ⟨v, rfl, hv, hk⟩
  have h1 : TV w' U (.lst x e ts) v := hv
  exact ⟨v, rfl, (⟨h1.1.unx, h1.2⟩ : TV w' U (.lst false e ts) v), hk⟩

end Go.HM
