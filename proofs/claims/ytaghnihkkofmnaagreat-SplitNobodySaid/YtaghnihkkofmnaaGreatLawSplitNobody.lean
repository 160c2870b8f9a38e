/- The law SplitNobody holds for every input: nil payments start nothing, fail nothing, have paid nothing and know of nothing; the arguments read as before. No condition. -/
import Derived.Test.YtaghnihkkofmnaaGreatRows
import Derived.Test.YtaghnihkkofmnaaGreatSpM
import Derived.Handed
import Derived.JoinedOf
import Derived.JoinedAt
namespace Go.Proofs.YtaghnihkkofmnaaGreat.splitNobody
open Go.ChangeShapes Go.WideShapes Go.ChangeAt Go.RowKit

theorem own : ownKnob Tryz.prog.godebug = none := by kernel_rfl
noncomputable def zv (t : TypeId) : Value := ((Tryz.prog.info? t).bind (·.zero)).getD (.bool false)

set_option maxRecDepth 100000 in
theorem contract (H : Type) (enc : TypeId × Value → H) (W : World) (base : Nat) (args : Array Value) (ds gs : List (DataW H)) (before : List MemPlace)
    (hval : ∀ (j : Nat) t v, Tryz.f3.params[j]? = some t → args[j]? = some v → Value.okWide Tryz.prog W .any base t v)
    (hW : DataW.Whole enc Tryz.prog Tryz.f3.params.toList Rows.splitNobodySpec.vars false W args.toList ds gs before) :
    Calls Tryz.prog 3 args W fun e W' => ∃ v, e = .returned v ∧ Rows.splitNobodySpec.post enc Tryz.prog Tryz.f3 false true false false W args v W' :=
  HM.law_contract (ss := [HM.Sp.opSh]) (bt := 4) (n := 1) (by kernel_rfl) (by kernel_rfl) (by kernel_rfl) (by kernel_rfl) (by kernel_rfl) (by kernel_rfl) rfl
    (fun H ds h => match ds, h with | [_], _ => ⟨rfl, rfl, rfl⟩)
    (fun xs hx => HM.Sp.nobody_args hx) hval hW

set_option maxRecDepth 100000 in
theorem lifted (os : Os) (started : os.Started) (H : Type) (enc : TypeId × Value → H) :
    ReturnsInHanded {} Tryz.checked os 3 .any (Rows.splitNobodySpec.pre6 enc Tryz.prog Tryz.f3 Rows.splitNobodyRow.domain false) (Rows.splitNobodySpec.post enc Tryz.prog Tryz.f3 false true false false) := by
  refine returnsInHanded_of_change (C := Tryz.checked) own started (by kernel_rfl) Tryz.func3
    (ChangeSpec.witness6 (enc := enc) (C := Tryz.checked) false ⟨#[], Tryz.f3.params.map zv, []⟩ 12 (by kernel_rfl) (by kernel_rfl) (by kernel_rfl) (by kernel_rfl)) ?_
  intro W base args ds gs before hval hW _ _
  exact contract H enc W base args ds gs before hval hW

theorem over : Rows.splitNobodyRow.holds Tryz.pinned (OpenSpec.ofChange Rows.splitNobodySpec) :=
  OpenClaim.holds_of_wide 3 Tryz.f3 rfl rfl rfl rfl rfl rfl rfl ⟨rfl, rfl, rfl, rfl, rfl⟩ rfl rfl rfl rfl rfl (by kernel_rfl) Tryz.func3 (by kernel_rfl)
    (of_decide_eq_true (by kernel_rfl)) (by unfold Func.isWrapper; first | (rw [if_pos (by decide +kernel)]; kernel_rfl) | (rw [if_neg (by decide +kernel)]; exact ⟨rfl, rfl⟩))
    (fun os started H enc _ => lifted os started H enc)

theorem proved : Rows.SplitNobodySaid := over
end Go.Proofs.YtaghnihkkofmnaaGreat.splitNobody
