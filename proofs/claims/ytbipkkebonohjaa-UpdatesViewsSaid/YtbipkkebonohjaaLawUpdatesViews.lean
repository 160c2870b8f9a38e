/- The law UpdatesViews holds for every input: the view of any updates is the one the document says, and it fits its terms; the arguments read as before. No condition. -/
import Derived.Test.YtbipkkebonohjaaRows
import Derived.Test.YtbipkkebonohjaaUvM3
import Derived.Handed
import Derived.JoinedOf
import Derived.JoinedAt
namespace Go.Proofs.Ytbipkkebonohjaa.updatesViews
open Go.ChangeShapes Go.WideShapes Go.ChangeAt Go.RowKit

theorem own : ownKnob Try.prog.godebug = none := by kernel_rfl
noncomputable def zv (t : TypeId) : Value := ((Try.prog.info? t).bind (·.zero)).getD (.bool false)

set_option maxRecDepth 100000 in
theorem contract (H : Type) (enc : TypeId × Value → H) (W : World) (base : Nat) (args : Array Value) (ds gs : List (DataW H)) (before : List MemPlace)
    (hval : ∀ (j : Nat) t v, Try.f6.params[j]? = some t → args[j]? = some v → Value.okWide Try.prog W .any base t v)
    (hW : DataW.Whole enc Try.prog Try.f6.params.toList Rows.updatesViewsSpec.vars false W args.toList ds gs before)
    (hw : (DataW.weightsEach Try.prog (Try.f6.params.toList ++ Rows.updatesViewsSpec.plain.varTypes Try.prog) (ds ++ gs)).all (· ≤ reachBytes) = true) :
    Calls Try.prog 6 args W fun e W' => ∃ v, e = .returned v ∧ Rows.updatesViewsSpec.post enc Try.prog Try.f6 false true false false W args v W' :=
  HM.law_contract2 (ss := HM.Up.sumsShs) (bt := 4) (n := 5) (by kernel_rfl) (by kernel_rfl) (by kernel_rfl) (by kernel_rfl) (by kernel_rfl) (by kernel_rfl) rfl
    (fun H ds h => match ds, h with | [_, _, _, _, _], _ => ⟨rfl, rfl, rfl⟩)
    (fun xs pl hx hF hA => by
      obtain ⟨t, a, b, xa, xb, n, k, rfl, r1, r2, r3, ra, rb⟩ := HM.Up.sums_args hx
      have hp : Try.f6.params.toList = [26, 89, 89, 3, 3] := by kernel_rfl
      rw [hp] at hA hw
      obtain ⟨v0, vs0, d0, ds0, p0, q0, e0, rfl, _, _, hA⟩ := trodAll_cons hA
      obtain ⟨v1, vs1, d1, ds1, p1, q1, rfl, rfl, _, ⟨fuel1, h1⟩, hA⟩ := trodAll_cons hA
      obtain ⟨v2, vs2, d2, ds2, p2, q2, rfl, rfl, _, ⟨fuel2, h2⟩, hA⟩ := trodAll_cons hA
      obtain ⟨v3, vs3, d3, ds3, p3, q3, rfl, rfl, _, _, hA⟩ := trodAll_cons hA
      obtain ⟨v4, vs4, d4, ds4, p4, q4, rfl, rfl, _, _, hA⟩ := trodAll_cons hA
      rw [e0] at hF
      cases hF with | cons _ hF => cases hF with | cons g1 hF => cases hF with | cons g2 hF =>
        have l1 := HM.Up.lst_len (v := v1) h1 (fun n hn => by
          have := List.all_eq_true.1 hw n (DataW.weights_mem_each (j := 1) (t := 89) (d := d1) (by simp) (by simp) n hn)
          simpa using this) g1.1
        have l2 := HM.Up.lst_len (v := v2) h2 (fun n hn => by
          have := List.all_eq_true.1 hw n (DataW.weights_mem_each (j := 2) (t := 89) (d := d2) (by simp) (by simp) n hn)
          simpa using this) g2.1
        rw [List.length_map] at l1 l2
        exact HM.Up.updatesViews_ok t a b xa xb n k l1 l2 r1 r2 r3 ra rb) hval hW

set_option maxRecDepth 100000 in
theorem lifted (os : Os) (started : os.Started) (H : Type) (enc : TypeId × Value → H) :
    ReturnsInHanded {} Try.checked os 6 .any (Rows.updatesViewsSpec.pre6 enc Try.prog Try.f6 Rows.updatesViewsRow.domain false) (Rows.updatesViewsSpec.post enc Try.prog Try.f6 false true false false) := by
  refine returnsInHanded_of_change_sized (C := Try.checked) own started (by kernel_rfl) Try.func6
    (ChangeSpec.witness6 (enc := enc) (C := Try.checked) false ⟨#[], Try.f6.params.map zv, []⟩ 12 (by kernel_rfl) (by kernel_rfl) (by kernel_rfl) (by kernel_rfl)) ?_
  intro W base args ds gs before hval hW _ hw _
  exact contract H enc W base args ds gs before hval hW hw

theorem over : Rows.updatesViewsRow.holds Try.pinned (OpenSpec.ofChange Rows.updatesViewsSpec) :=
  OpenClaim.holds_of_wide 6 Try.f6 rfl rfl rfl rfl rfl rfl rfl ⟨rfl, rfl, rfl, rfl, rfl⟩ rfl rfl rfl rfl rfl (by kernel_rfl) Try.func6 (by kernel_rfl)
    (of_decide_eq_true (by kernel_rfl)) (by unfold Func.isWrapper; first | (rw [if_pos (by decide +kernel)]; kernel_rfl) | (rw [if_neg (by decide +kernel)]; exact ⟨rfl, rfl⟩))
    (fun os started H enc _ => lifted os started H enc)

theorem proved : Rows.UpdatesViewsSaid := over
end Go.Proofs.Ytbipkkebonohjaa.updatesViews
