/- The law GraphNobody holds for every input: a nil graph has no edges, finds no way, takes nothing and learns nothing; the arguments read as before. No condition. -/
import Derived.Test.YtaghnihkkofmnaaRows
import Derived.Test.YtaghnihkkofmnaaGrB
import Derived.Handed
import Derived.JoinedOf
import Derived.JoinedAt
namespace Go.Proofs.Ytaghnihkkofmnaa.graphNobody
open Go.ChangeShapes Go.WideShapes Go.ChangeAt Go.RowKit

theorem own : ownKnob Try.prog.godebug = none := by kernel_rfl
noncomputable def zv (t : TypeId) : Value := ((Try.prog.info? t).bind (·.zero)).getD (.bool false)

set_option maxRecDepth 100000 in
theorem contract (H : Type) (enc : TypeId × Value → H) (W : World) (base : Nat) (args : Array Value) (ds gs : List (DataW H)) (before : List MemPlace)
    (hval : ∀ (j : Nat) t v, Try.f3.params[j]? = some t → args[j]? = some v → Value.okWide Try.prog W .any base t v)
    (hW : DataW.Whole enc Try.prog Try.f3.params.toList Rows.graphNobodySpec.vars false W args.toList ds gs before) :
    Calls Try.prog 3 args W fun e W' => ∃ v, e = .returned v ∧ Rows.graphNobodySpec.post enc Try.prog Try.f3 false true false false W args v W' :=
  HM.law_contract (ss := [HM.Gr.opSh, HM.Gr.wantSh]) (bt := 4) (n := 2) (by kernel_rfl) (by kernel_rfl) (by kernel_rfl) (by kernel_rfl) (by kernel_rfl) (by kernel_rfl) rfl
    (fun H ds h => match ds, h with | [_, _], _ => ⟨rfl, rfl, rfl⟩)
    (fun xs hx => HM.Gr.nobody_args hx) hval hW

set_option maxRecDepth 100000 in
theorem lifted (os : Os) (started : os.Started) (H : Type) (enc : TypeId × Value → H) :
    ReturnsInHanded {} Try.checked os 3 .any (Rows.graphNobodySpec.pre6 enc Try.prog Try.f3 Rows.graphNobodyRow.domain false) (Rows.graphNobodySpec.post enc Try.prog Try.f3 false true false false) := by
  refine returnsInHanded_of_change (C := Try.checked) own started (by kernel_rfl) Try.func3
    (ChangeSpec.witness6 (enc := enc) (C := Try.checked) false ⟨#[], Try.f3.params.map zv, []⟩ 12 (by kernel_rfl) (by kernel_rfl) (by kernel_rfl) (by kernel_rfl)) ?_
  intro W base args ds gs before hval hW _ _
  exact contract H enc W base args ds gs before hval hW

theorem over : Rows.graphNobodyRow.holds Try.pinned (OpenSpec.ofChange Rows.graphNobodySpec) :=
  OpenClaim.holds_of_wide 3 Try.f3 rfl rfl rfl rfl rfl rfl rfl ⟨rfl, rfl, rfl, rfl, rfl⟩ rfl rfl rfl rfl rfl (by kernel_rfl) Try.func3 (by kernel_rfl)
    (of_decide_eq_true (by kernel_rfl)) (by unfold Func.isWrapper; first | (rw [if_pos (by decide +kernel)]; kernel_rfl) | (rw [if_neg (by decide +kernel)]; exact ⟨rfl, rfl⟩))
    (fun os started H enc _ => lifted os started H enc)

theorem proved : Rows.GraphNobodySaid := over
end Go.Proofs.Ytaghnihkkofmnaa.graphNobody
