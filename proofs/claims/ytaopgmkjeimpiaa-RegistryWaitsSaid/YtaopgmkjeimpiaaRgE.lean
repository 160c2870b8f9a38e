/- REG, part E: RegistryHolds, joined. -/
import Derived.Test.YtaopgmkjeimpiaaRgD
set_option maxRecDepth 100000
namespace Go.HM.Rg
open Go.Proofs Go.HM.Kec

theorem TV.unx {w : World} {ok : Nat → Nat → Prop} {x : Bool} {e : Nat} {ts : List T} {v : Value} (h : TV w ok (.lst x e ts) v) : TV w ok (.lst false e ts) v := ⟨h.1.unx, h.2⟩

theorem holdsF (s : List Int) (l : List Int) (hz : ((hashF s) == Zb) = false) : PCall Try.prog 4 [.ba 32 s, .lst false 1 (l.map (T.int .i64)), .bool false] [.bool true] := by
  rcases lawA_false s l trivial _ 0 rfl (by omega) (by omega) with ⟨k', g⟩ | ⟨k', sm, tt, x, y, L, g1, g2, g3, g4, g5⟩
  · exact (topK_sound (Ch_ok _ _) (tailA_false s (l.map (T.int .i64)) k') ⟨LoopG.preE (by omega) (by omega) [1, 2, 3, 7, 9, 10, 11, 12] (m := 0) (k := 10) (by kernel_rfl) g, rfl, rfl, rfl, rfl, hz, hz, trivial⟩).pure (k := 64) rfl
  · have w0 : IntKind.i64.wrap (0 + sm) = sm := by rw [w64 (by omega) (by omega)]; omega
    rcases g4 with ⟨rfl, hs⟩ | ⟨rfl, hs⟩
    · have c3 := topK_sound (Ch_ok _ _) (lets_T0 s (L.map (pP s)) (((x, y) :: L).map (actF s)) (L.map eP) [] sm x y ((L.length : Int) + 1)) ⟨LoopG.preE (by omega) (by omega) [0, 2, 7, 11, 12, 13] (m := 18) (k := 18) (by kernel_rfl) (lets_ok_T0 s sm x y L (by omega)), trivial⟩
      have c2 := topK_sound (Ch_ok _ _) (call2_T0 s (L.map (pP s)) (((x, y) :: L).map (actF s)) (L.map eP) [] sm x y) ⟨by simp; omega, c3, trivial⟩
      have c1 := topK_sound (Ch_ok _ _) (call1_T0 s (L.map (pP s)) (((x, y) :: L).map (actF s)) (L.map eP) [] sm x y) ⟨c2, trivial⟩
      exact (topK_sound (Ch_ok _ _) (tail_T0 s (l.map (T.int .i64)) (L.map (pP s)) (((x, y) :: L).map (actF s)) (L.map eP) [] k' sm ((L.length : Int) + 1) x y) ⟨by simp, c1, by simp; omega, by simp, by rw [w0]; simp, LoopG.preE (by omega) (by omega) [1, 2, 3, 7, 9, 10, 11, 12] (m := 0) (k := 10) (by kernel_rfl) g5, rfl, rfl, rfl, rfl, hz, hz, trivial⟩).pure (k := 64) rfl
    · have c3 := topK_sound (Ch_ok _ _) (lets_T2 s (L.map (pP s)) (((x, y) :: L).map (actF s)) (L.map eP) [] sm x y ((L.length : Int) + 1)) ⟨LoopG.preE (by omega) (by omega) [0, 2, 7, 11, 12, 13] (m := 18) (k := 18) (by kernel_rfl) (lets_ok_T2 s sm x y L (by omega)), trivial⟩
      have c2 := topK_sound (Ch_ok _ _) (call2_T2 s (L.map (pP s)) (((x, y) :: L).map (actF s)) (L.map eP) [] sm x y) ⟨by simp; omega, c3, trivial⟩
      have c1 := topK_sound (Ch_ok _ _) (call1_T2 s (L.map (pP s)) (((x, y) :: L).map (actF s)) (L.map eP) [] sm x y) ⟨c2, trivial⟩
      exact (topK_sound (Ch_ok _ _) (tail_T2 s (l.map (T.int .i64)) (L.map (pP s)) (((x, y) :: L).map (actF s)) (L.map eP) [] k' sm ((L.length : Int) + 1) x y) ⟨by simp, c1, by simp; omega, by simp, by rw [w0]; simp, LoopG.preE (by omega) (by omega) [1, 2, 3, 7, 9, 10, 11, 12] (m := 0) (k := 10) (by kernel_rfl) g5, rfl, rfl, rfl, rfl, hz, hz, trivial⟩).pure (k := 64) rfl

theorem holdsT (s : List Int) (l : List Int) (hz : ((hashF s) == Zb) = false) : PCall Try.prog 4 [.ba 32 s, .lst false 1 (l.map (T.int .i64)), .bool true] [.bool true] := by
  rcases lawA_true s l trivial _ 0 rfl (by omega) (by omega) with ⟨k', g⟩ | ⟨k', sm, tt, x, y, L, g1, g2, g3, g4, g5⟩
  · exact (topK_sound (Ch_ok _ _) (tailA_true s (l.map (T.int .i64)) k') ⟨by simp, LoopG.preE (by omega) (by omega) [1, 2, 3, 7, 9, 10, 11, 12] (m := 0) (k := 10) (by kernel_rfl) g, rfl, rfl, rfl, rfl, hz, hz, trivial⟩).pure (k := 64) rfl
  · have w0 : IntKind.i64.wrap (0 + sm) = sm := by rw [w64 (by omega) (by omega)]; omega
    rcases g4 with ⟨rfl, hs⟩ | ⟨rfl, hs⟩
    · exact (topK_sound (Ch_ok _ _) (tail_T1 s (l.map (T.int .i64)) (L.map (pP s)) (L.map eP) k' sm ((L.length : Int) + 1) x y) ⟨by simp, by simpa using hs, by simp, by simp; omega, by simp, by rw [w0]; simp, LoopG.preE (by omega) (by omega) [1, 2, 3, 7, 9, 10, 11, 12] (m := 0) (k := 10) (by kernel_rfl) g5, rfl, rfl, rfl, rfl, hz, hz, trivial⟩).pure (k := 64) rfl
    · have c3 := topK_sound (Ch_ok _ _) (lets_T3 s (L.map (pP s)) (((x, y) :: L).map (actP s)) (L.map eP) [] sm x y ((L.length : Int) + 1)) ⟨LoopG.preE (by omega) (by omega) [0, 2, 7, 11, 12, 13] (m := 20) (k := 20) (by kernel_rfl) (lets_ok_T3 s sm x y L (by omega)), trivial⟩
      have c2 := topK_sound (Ch_ok _ _) (call2_T3 s (L.map (pP s)) (((x, y) :: L).map (actP s)) (L.map eP) [] sm x y) ⟨by simp; omega, c3, trivial⟩
      have c1 := topK_sound (Ch_ok _ _) (call1_T3 s (L.map (pP s)) (((x, y) :: L).map (actP s)) (L.map eP) [] sm x y) ⟨c2, by simp, by simp, trivial⟩
      exact (topK_sound (Ch_ok _ _) (tail_T3 s (l.map (T.int .i64)) (L.map (pP s)) (((x, y) :: L).map (actP s)) (L.map eP) [] k' sm ((L.length : Int) + 1) x y) ⟨by simp, by simp, by simp; omega, c1, by simp; omega, by simp, by rw [w0]; simp, LoopG.preE (by omega) (by omega) [1, 2, 3, 7, 9, 10, 11, 12] (m := 0) (k := 10) (by kernel_rfl) g5, rfl, rfl, rfl, rfl, hz, hz, trivial⟩).pure (k := 64) rfl

theorem holds_ok (s : List Int) (l : List Int) (b : Bool) : PCall Try.prog 4 [.ba 32 s, .lst false 1 (l.map (T.int .i64)), .bool b] [.bool true] := by
  by_cases hz : ((hashF s) == Zb) = true
  · cases b
    · exact (topK_sound (Ch_ok _ _) (zero_false s (l.map (T.int .i64))) ⟨hz, trivial⟩).pure (k := 64) rfl
    · exact (topK_sound (Ch_ok _ _) (zero_true s (l.map (T.int .i64))) ⟨hz, trivial⟩).pure (k := 64) rfl
  · have hz' : ((hashF s) == Zb) = false := by simpa using hz
    cases b
    · exact holdsF s l hz'
    · exact holdsT s l hz'

theorem ints_of {xs : List T} (h : ∀ y ∈ xs, HasSh (.int .i64) y) : ∃ l : List Int, xs = l.map (T.int .i64) := by
  induction xs with
  | nil => exact ⟨[], rfl⟩
  | cons x r ih =>
    obtain ⟨l, rfl⟩ := ih (fun y hy => h y (by simp [hy]))
    obtain ⟨n, rfl, _⟩ := h x (by simp)
    exact ⟨n :: l, rfl⟩

theorem holds_args {xs : List T} (h : HasShs [.bytes 32, .slice 1 (.int .i64), .bool] xs) : PCall Try.prog 4 xs [.bool true] := by
  obtain ⟨_, _, rfl, ⟨s, rfl, _, _⟩, _, _, rfl, ⟨f, ys, rfl, _, hy⟩, _, _, rfl, ⟨b, rfl⟩, rfl⟩ := h
  obtain ⟨l, rfl⟩ := ints_of hy
  have h0 := holds_ok s l b
  refine ⟨h0.1, fun U w vals hU hF => h0.2 U w vals hU ?_⟩
  cases hF with | cons h1 hF => cases hF with | cons h2 hF => exact .cons h1 (.cons (TV.unx h2) hF)
end Go.HM.Rg
