/- The law RegistryNobody holds for every input: a nil registry knows of nothing, takes nothing and gives nothing; the arguments read as before. No condition. -/
import Derived.Test.YtaopgmkjeimpiaaRows
import Derived.Test.YtaopgmkjeimpiaaRgB
import Derived.Handed
import Derived.JoinedOf
import Derived.JoinedAt
namespace Go.Proofs.Ytaopgmkjeimpiaa.registryNobody
open Go.ChangeShapes Go.WideShapes Go.ChangeAt Go.RowKit

theorem own : ownKnob Try.prog.godebug = none := by kernel_rfl
noncomputable def zv (t : TypeId) : Value := ((Try.prog.info? t).bind (·.zero)).getD (.bool false)

set_option maxRecDepth 100000 in
theorem contract (H : Type) (enc : TypeId × Value → H) (W : World) (base : Nat) (args : Array Value) (ds gs : List (DataW H)) (before : List MemPlace)
    (hval : ∀ (j : Nat) t v, Try.f6.params[j]? = some t → args[j]? = some v → Value.okWide Try.prog W .any base t v)
    (hW : DataW.Whole enc Try.prog Try.f6.params.toList Rows.registryNobodySpec.vars false W args.toList ds gs before) :
    Calls Try.prog 6 args W fun e W' => ∃ v, e = .returned v ∧ Rows.registryNobodySpec.post enc Try.prog Try.f6 false true false false W args v W' :=
  HM.law_contract (ss := [HM.Rg.opSh]) (bt := 4) (n := 1) (by kernel_rfl) (by kernel_rfl) (by kernel_rfl) (by kernel_rfl) (by kernel_rfl) (by kernel_rfl) rfl
    (fun H ds h => match ds, h with | [_], _ => ⟨rfl, rfl, rfl⟩)
    (fun xs hx => HM.Rg.nobody_args hx) hval hW

set_option maxRecDepth 100000 in
theorem lifted (os : Os) (started : os.Started) (H : Type) (enc : TypeId × Value → H) :
    ReturnsInHanded {} Try.checked os 6 .any (Rows.registryNobodySpec.pre6 enc Try.prog Try.f6 Rows.registryNobodyRow.domain false) (Rows.registryNobodySpec.post enc Try.prog Try.f6 false true false false) := by
  refine returnsInHanded_of_change (C := Try.checked) own started (by kernel_rfl) Try.func6
    (ChangeSpec.witness6 (enc := enc) (C := Try.checked) false ⟨#[], Try.f6.params.map zv, []⟩ 12 (by kernel_rfl) (by kernel_rfl) (by kernel_rfl) (by kernel_rfl)) ?_
  intro W base args ds gs before hval hW _ _
  exact contract H enc W base args ds gs before hval hW

theorem over : Rows.registryNobodyRow.holds Try.pinned (OpenSpec.ofChange Rows.registryNobodySpec) :=
  OpenClaim.holds_of_wide 6 Try.f6 rfl rfl rfl rfl rfl rfl rfl ⟨rfl, rfl, rfl, rfl, rfl⟩ rfl rfl rfl rfl rfl (by kernel_rfl) Try.func6 (by kernel_rfl)
    (of_decide_eq_true (by kernel_rfl)) (by unfold Func.isWrapper; first | (rw [if_pos (by decide +kernel)]; kernel_rfl) | (rw [if_neg (by decide +kernel)]; exact ⟨rfl, rfl⟩))
    (fun os started H enc _ => lifted os started H enc)

theorem proved : Rows.RegistryNobodySaid := over
end Go.Proofs.Ytaopgmkjeimpiaa.registryNobody
