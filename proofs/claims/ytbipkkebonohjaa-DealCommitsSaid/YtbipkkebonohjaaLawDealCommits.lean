/- The law DealCommits holds for every input: the commitment of any terms, holder, point and view is the document's; the view stays as it was; the arguments read as before. No condition. -/
import Derived.Test.YtbipkkebonohjaaRows
import Derived.Test.YtbipkkebonohjaaDcK
import Derived.Handed
import Derived.JoinedOf
import Derived.JoinedAt
namespace Go.Proofs.Ytbipkkebonohjaa.dealCommits
open Go.ChangeShapes Go.WideShapes Go.ChangeAt Go.RowKit

theorem own : ownKnob Try.prog.godebug = none := by kernel_rfl
noncomputable def zv (t : TypeId) : Value := ((Try.prog.info? t).bind (·.zero)).getD (.bool false)

set_option maxRecDepth 100000 in
theorem contract (H : Type) (enc : TypeId × Value → H) (W : World) (base : Nat) (args : Array Value) (ds gs : List (DataW H)) (before : List MemPlace)
    (hval : ∀ (j : Nat) t v, Try.f3.params[j]? = some t → args[j]? = some v → Value.okWide Try.prog W .any base t v)
    (hW : DataW.Whole enc Try.prog Try.f3.params.toList Rows.dealCommitsSpec.vars false W args.toList ds gs before)
    (hw : (DataW.weightsEach Try.prog (Try.f3.params.toList ++ Rows.dealCommitsSpec.plain.varTypes Try.prog) (ds ++ gs)).all (· ≤ reachBytes) = true) :
    Calls Try.prog 3 args W fun e W' => ∃ v, e = .returned v ∧ Rows.dealCommitsSpec.post enc Try.prog Try.f3 false true false false W args v W' :=
  HM.law_contract2 (ss := HM.Deal.dealShs) (bt := 4) (n := 4) (by kernel_rfl) (by kernel_rfl) (by kernel_rfl) (by kernel_rfl) (by kernel_rfl) (by kernel_rfl) rfl
    (fun H ds h => match ds, h with | [_, _, _, _], _ => ⟨rfl, rfl, rfl⟩)
    (fun xs pl hx hF hA => by
      obtain ⟨t, hd, p, v, f, rfl, hr⟩ := HM.Deal.deal_args2 hx
      refine HM.Deal.dealCommits_flag t hd p v f hr ?_
      have hp : Try.f3.params.toList = [26, 3, 22, 29] := by kernel_rfl
      rw [hp] at hA hw
      obtain ⟨v0, vs0, d0, ds0, p0, q0, e0, rfl, _, _, hA⟩ := trodAll_cons hA
      obtain ⟨v1, vs1, d1, ds1, p1, q1, rfl, rfl, _, _, hA⟩ := trodAll_cons hA
      obtain ⟨v2, vs2, d2, ds2, p2, q2, rfl, rfl, _, _, hA⟩ := trodAll_cons hA
      obtain ⟨v3, vs3, d3, ds3, p3, q3, rfl, rfl, _, ⟨fuel, h3⟩, hA⟩ := trodAll_cons hA
      rw [e0] at hF
      cases hF with | cons _ hF => cases hF with | cons _ hF => cases hF with | cons _ hF => cases hF with | cons h4 hF =>
        refine HM.Deal.view_len h3 (fun n hn => ?_) h4.1
        have := List.all_eq_true.1 hw n (DataW.weights_mem_each (j := 3) (t := 29) (d := d3) (by simp) (by simp) n hn)
        simpa using this) hval hW

set_option maxRecDepth 100000 in
theorem lifted (os : Os) (started : os.Started) (H : Type) (enc : TypeId × Value → H) :
    ReturnsInHanded {} Try.checked os 3 .any (Rows.dealCommitsSpec.pre6 enc Try.prog Try.f3 Rows.dealCommitsRow.domain false) (Rows.dealCommitsSpec.post enc Try.prog Try.f3 false true false false) := by
  refine returnsInHanded_of_change_sized (C := Try.checked) own started (by kernel_rfl) Try.func3
    (ChangeSpec.witness6 (enc := enc) (C := Try.checked) false ⟨#[], Try.f3.params.map zv, []⟩ 12 (by kernel_rfl) (by kernel_rfl) (by kernel_rfl) (by kernel_rfl)) ?_
  intro W base args ds gs before hval hW _ hw _
  exact contract H enc W base args ds gs before hval hW hw

theorem over : Rows.dealCommitsRow.holds Try.pinned (OpenSpec.ofChange Rows.dealCommitsSpec) :=
  OpenClaim.holds_of_wide 3 Try.f3 rfl rfl rfl rfl rfl rfl rfl ⟨rfl, rfl, rfl, rfl, rfl⟩ rfl rfl rfl rfl rfl (by kernel_rfl) Try.func3 (by kernel_rfl)
    (of_decide_eq_true (by kernel_rfl)) (by unfold Func.isWrapper; first | (rw [if_pos (by decide +kernel)]; kernel_rfl) | (rw [if_neg (by decide +kernel)]; exact ⟨rfl, rfl⟩))
    (fun os started H enc _ => lifted os started H enc)

theorem proved : Rows.DealCommitsSaid := over
end Go.Proofs.Ytbipkkebonohjaa.dealCommits
