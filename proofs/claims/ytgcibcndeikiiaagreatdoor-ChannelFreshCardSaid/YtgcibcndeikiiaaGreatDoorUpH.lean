/- UP, part H: slices.Grow of an empty list of Htlcs without room, by the shelf's contract. -/
import Derived.Shelf.Spec.SlicesGrow
import Derived.Test.YtgcibcndeikiiaaGreatDoorHnFr
import Derived.Test.YtgcibcndeikiiaaGreatDoorHmZ
import Derived.Test.YtgcibcndeikiiaaGreatDoorProg
namespace Go.HM.Up
open Go.Proofs

def growRen : Go.Shelf.Ren := ⟨fun | 4 => 153 | n => n, fun | 22 => 38 | 25 => 162 | n => n, fun n => n⟩
theorem growLay : Lays8.n4 Tryz.prog growRen :=
  { mixed := by kernel_rfl, f4 := ⟨Tryz.f153.name, by decide, Tryz.func153.trans (congrArg some (by kernel_rfl))⟩,
    t0 := Tryz.underlying0, a0 := Tryz.isAgg0, z0 := Tryz.sizeOf0, v0 := Tryz.zeroValue0, t3 := Tryz.underlying3, a3 := Tryz.isAgg3, z3 := Tryz.sizeOf3, v3 := Tryz.zeroValue3, t4 := Tryz.underlying4, a4 := Tryz.isAgg4, z4 := Tryz.sizeOf4, v4 := Tryz.zeroValue4, t9 := Tryz.underlying9, a9 := Tryz.isAgg9, z9 := Tryz.sizeOf9, v9 := Tryz.zeroValue9, t20 := Tryz.underlying20, a20 := Tryz.isAgg20, z20 := Tryz.sizeOf20, v20 := Tryz.zeroValue20,
    t22 := Tryz.underlying38, a22 := Tryz.isAgg38, z22 := Tryz.sizeOf38, v22 := Tryz.zeroValue38 }
theorem grow_callable : Callable Tryz.prog 153 := ⟨Tryz.f153, Tryz.func153, by decide, by kernel_rfl⟩

theorem grow_args {U : Nat → Nat → Prop} {κ : List Place} {s : List SObj} {w : World} {n : Int} {vals : List Value} (h : F2 (VV1 U κ s w) [.p (.lst true 36 []), .p (.int .i64 n)] vals) : ∃ base, vals = [.slice base 0 0, .int .i64 n] := by
  cases h with | cons hx h => cases h with | cons hy h => cases h with | nil =>
    obtain ⟨base, cap, cs, rfl, _, _, _, hc⟩ := slice_parts (e := 36) (n := 0) (VV_p (VV_of1 hx)) rfl rfl
    obtain rfl := TV_int (VV_p (VV_of1 hy))
    obtain rfl := hc rfl
    exact ⟨base, rfl⟩

theorem grow_none (s : List SObj) : GCall Tryz.prog 153 s [.p (.lst true 36 []), .p (.int .i64 0)] s [.p (.lst true 36 [])] := by
  refine ⟨grow_callable, fun U κ w vals hS hA => ?_⟩
  obtain ⟨base, hv⟩ := grow_args hA
  subst hv
  have hx : VV1 U κ s w (.p (.lst true 36 [])) (.slice base 0 0) := by cases hA with | cons hx _ => exact hx
  refine (Any8.slices_Grow_room growLay base 0 0 0 w (Nat.le_refl _) (by omega) (by omega) (by omega)).mono ?_
  rintro e w' ⟨rfl, rfl⟩
  exact ⟨_, κ, rfl, hS, hx, Step.refl U κ w', Ext.refl κ s⟩

theorem grow_some (s : List SObj) (n : Nat) (h0 : 0 < n) (hb : n * 64 ≤ 140737488355328) :
    GCall Tryz.prog 153 s [.p (.lst true 36 []), .p (.int .i64 (n : Int))] (s ++ [.row 0 36]) [.row s.length 0 (.lst false 36 [])] := by
  refine ⟨grow_callable, fun U κ w vals hS hA => ?_⟩
  obtain ⟨base, rfl⟩ := grow_args hA
  obtain ⟨z, hz⟩ := Option.isSome_iff_exists.1 (show (zeroOf Tryz.prog 162).isSome = true by kernel_rfl)
  obtain ⟨i0, zv, z1, z2, z3, z4⟩ := zeroOf_spec (w := w) (ok := okOf U κ) hz
  have hsz : i0.size = 36 := by
    have h : (Tryz.prog.info? 162).map (·.size) = some 36 := by kernel_rfl
    rw [z1] at h; simpa using h
  have hby : i0.bytes = 64 := by
    have h : (Tryz.prog.info? 162).map (·.bytes) = some 64 := by kernel_rfl
    rw [z1] at h; simpa using h
  have hzl : zv.cells.size = 36 := by have := z3.1.len; rw [z4, hsz] at this; simpa using this
  refine (Any8.slices_Grow_grow growLay i0 zv z1 z2 (by rw [hsz]; omega) base 0 0 n [] w (Nat.le_refl _) (by omega) (by rw [hby]; simpa using hb) (by omega) (by simp) (fun _ => rfl) (by simp)).mono ?_
  rintro e w' ⟨rfl, rfl⟩
  generalize hc : (([] : List Value).toArray ++ Builtin.zeroCells zv.cells (0 + n - 0) ++ Builtin.zeroCells zv.cells (grownCap w (0 + n) 0 (growRen.t 25) - (0 + n))) = cs
  have hcs : cs.size = grownCap w (0 + n) 0 (growRen.t 25) * 36 := by
    have hg : 0 + n ≤ grownCap w (0 + n) 0 (growRen.t 25) := grownCap_ge w _ _ _
    rw [← hc]
    simp only [Array.size_append, List.size_toArray, List.length_nil, size_zeroCells, hzl]
    generalize grownCap w (0 + n) 0 (growRen.t 25) = G at hg ⊢
    omega
  obtain ⟨g1, g2, g3⟩ := hS.rowNew cs (growRen.t 25) 0 36
  refine ⟨_, _, rfl, g1, ?_, g2, Ext.append hS.len _ _⟩
  refine VV1_of_cell (.row (cur := 0) (e := 36) ?_ (by simp) (Nat.le_refl _) (fun _ => .inr ⟨⟨w.heap.size, 0, cs.size, true⟩, 0, ?_, rfl, rfl, by simp, by simp [hcs]⟩)) rfl
  · exact .lst0 (fun h => by cases h)
  · rw [← hS.len]; simp

end Go.HM.Up
