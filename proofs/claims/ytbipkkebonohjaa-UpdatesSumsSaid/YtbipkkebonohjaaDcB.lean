/- DEAL, part B: cmp.Or, amount.Sum, slices.IndexFunc. -/
import Derived.Test.YtbipkkebonohjaaDcP
set_option maxRecDepth 100000
namespace Go.HM.Deal
open Go.Proofs

def orStep (f : Bool) (l : List Int) (_ : Unit) (i : Nat) (x : Int) : Unit ⊕ (Ex × St) := bif !(x == 0) then .inr (Ex.ret, orS f l x i) else .inl ()




def sumStep1 (f : Bool) (l : List Int) (_ : Unit) (i : Nat) (x : Int) : Unit ⊕ (Ex × St) := bif decide (x < 0) then .inr (Ex.ret, sumS f l 0 1 i) else .inl ()
def sumStep2 (f : Bool) (l : List Int) (s : Int) (i : Nat) (x : Int) : Int ⊕ (Ex × St) := bif !((add s x).2 == 0) then .inr (Ex.ret, sumS2 f l 0 (add s x).2 s i) else .inl (add s x).1

theorem sum_loop1 (f : Bool) (l : List Int) (hl : l.length ≤ 4294967296) :
    LoopR Try.prog (loopAt Try.f70 0) (sumS f l 0 0 0) (runL (sumStep1 f l) (fun _ => (Ex.exit 0, sumS f l 0 0 l.length)) l 0 ()).1 (runL (sumStep1 f l) (fun _ => (Ex.exit 0, sumS f l 0 0 l.length)) l 0 ()).2 := by
  refine loop_list l (fun _ i => sumS f l 0 0 i) (sumStep1 f l) (fun _ => (Ex.exit 0, sumS f l 0 0 l.length)) (fun _ i => i ≤ l.length) ?_ ?_ ?_ () (Nat.zero_le _)
  · intro s i x s' hI hx hs
    unfold sumStep1 at hs
    cases hc : (decide (x < 0)) with
    | true => rw [hc] at hs; cases hs
    | false =>
      have hlt := getElem?_lt hx
      have h := evB_sound (sumA_1 f l i x) ⟨hc, el_map hx, lt_len hx, trivial⟩
      rw [wrap64 (by omega) (by omega)] at h
      exact ⟨hlt, h⟩
  · intro s i x o hI hx hs
    unfold sumStep1 at hs
    cases hc : (decide (x < 0)) with
    | true =>
      rw [hc] at hs; injection hs with hs; subst hs
      exact ⟨nofun, evB_sound (sumA_0 f l i x) ⟨hc, el_map hx, lt_len hx, trivial⟩⟩
    | false => rw [hc] at hs; cases hs
  · intro s hI
    exact ⟨nofun, evB_sound (sumA_2 f l l.length 0) ⟨by simp, trivial⟩⟩

theorem sum_run1 (f : Bool) (l : List Int) : ∀ (r : List Int) (i : Nat),
    (r.any (fun x => decide (x < 0)) = true ∧ ∃ j, runL (sumStep1 f l) (fun _ => (Ex.exit 0, sumS f l 0 0 l.length)) r i () = (Ex.ret, sumS f l 0 1 j)) ∨
    (r.any (fun x => decide (x < 0)) = false ∧ runL (sumStep1 f l) (fun _ => (Ex.exit 0, sumS f l 0 0 l.length)) r i () = (Ex.exit 0, sumS f l 0 0 l.length))
  | [], i => .inr ⟨rfl, rfl⟩
  | x :: r, i => by
    simp only [runL, sumStep1, List.any_cons]
    cases hc : (decide (x < 0)) with
    | true => exact .inl ⟨rfl, i, rfl⟩
    | false => exact sum_run1 f l r (i + 1)

theorem sum_loop2 (f : Bool) (l : List Int) (hl : l.length ≤ 4294967296) :
    LoopR Try.prog (loopAt Try.f70 1) (sumS2 f l 0 0 0 0) (runL (sumStep2 f l) (fun s => (Ex.exit 2, sumS2 f l 0 0 s l.length)) l 0 0).1 (runL (sumStep2 f l) (fun s => (Ex.exit 2, sumS2 f l 0 0 s l.length)) l 0 0).2 := by
  refine loop_list l (fun s i => sumS2 f l 0 0 s i) (sumStep2 f l) (fun s => (Ex.exit 2, sumS2 f l 0 0 s l.length)) (fun _ i => i ≤ l.length) ?_ ?_ ?_ 0 (Nat.zero_le _)
  · intro s i x s' hI hx hs
    unfold sumStep2 at hs
    cases hc : (!((add s x).2 == 0)) with
    | true => rw [hc] at hs; cases hs
    | false =>
      rw [hc] at hs; injection hs with hs; subst hs
      have hlt := getElem?_lt hx
      have h := evB_sound (sumB_1 f l s i x) ⟨hc, add_ok s x, el_map hx, lt_len hx, trivial⟩
      rw [wrap64 (by omega) (by omega)] at h
      exact ⟨hlt, h⟩
  · intro s i x o hI hx hs
    unfold sumStep2 at hs
    cases hc : (!((add s x).2 == 0)) with
    | true =>
      rw [hc] at hs; injection hs with hs; subst hs
      exact ⟨nofun, evB_sound (sumB_0 f l s i x) ⟨hc, add_ok s x, el_map hx, lt_len hx, trivial⟩⟩
    | false => rw [hc] at hs; cases hs
  · intro s hI
    exact ⟨nofun, evB_sound (sumB_2 f l s l.length 0) ⟨by simp, trivial⟩⟩

theorem sum_run2 (f : Bool) (l : List Int) : ∀ (r : List Int) (i : Nat) (s : Int),
    (∃ s' e j, runL (sumStep2 f l) (fun s => (Ex.exit 2, sumS2 f l 0 0 s l.length)) r i s = (Ex.ret, sumS2 f l 0 e s' j) ∧ sumGo r s = (0, e)) ∨
    (∃ s', runL (sumStep2 f l) (fun s => (Ex.exit 2, sumS2 f l 0 0 s l.length)) r i s = (Ex.exit 2, sumS2 f l 0 0 s' l.length) ∧ sumGo r s = (s', 0))
  | [], i, s => .inr ⟨s, rfl, rfl⟩
  | x :: r, i, s => by
    simp only [runL, sumStep2, sumGo]
    cases hc : (!((add s x).2 == 0)) with
    | true => exact .inl ⟨s, _, i, rfl, rfl⟩
    | false => exact sum_run2 f l r (i + 1) (add s x).1

theorem sum_ok (f : Bool) (l : List Int) (hl : l.length ≤ 4294967296) : PCall Try.prog 70 [lsI f l] [i64 (sum l).1, i64 (sum l).2] := by
  have h := sum_loop1 f l hl
  rcases sum_run1 f l l 0 with ⟨hb, j, e⟩ | ⟨hb, e⟩
  · rw [e] at h
    unfold sum; rw [hb]
    exact evF_sound Try.func70 (by rfl) (sum1_0 f l j) ⟨h, trivial⟩
  · rw [e] at h
    unfold sum; rw [hb]
    have h2 := sum_loop2 f l hl
    rcases sum_run2 f l l 0 0 with ⟨s', e', j, q, p⟩ | ⟨s', q, p⟩
    · rw [q] at h2
      simp only [cond_false, p]
      exact evF_sound Try.func70 (by rfl) (sum2_0 f l l.length e' s' j) ⟨h2, h, trivial⟩
    · rw [q] at h2
      simp only [cond_false, p]
      exact evF_sound Try.func70 (by rfl) (sum3_0 f l l.length s' l.length) ⟨h2, h, trivial⟩

/-- slices.IndexFunc -/
def ixGo (b k : Int) : List Htlc → Nat → Int
  | [], _ => -1
  | h :: r, i => bif (h.By == b && h.Id == k) then i else ixGo b k r (i + 1)
def ixStep (f : Bool) (l : List Htlc) (b k : Int) (_ : Unit) (i : Nat) (h : Htlc) : Unit ⊕ (Ex × St) := bif (h.By == b && h.Id == k) then .inr (Ex.ret, ixS f l b k i i) else .inl ()




end Go.HM.Deal
