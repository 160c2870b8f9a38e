/- DEAL, part G: the reference's Outs, where it says yes. -/
import Derived.Test.YtknieknidaikmaaDealU
namespace Go.HM.Deal
open Go.Proofs

theorem in_loop (n : Int) (x : Bool) (l : List Out) (s : Int) (i : Nat) (u : Out) (hu : l[i]? = some u) (hl : u.Paths.length ≤ 4) (hp : ∀ p ∈ u.Paths, pathOk n p = true) :
    LoopR Try.prog (loopAt Try.f9 1) (inS n x l s i 0) (.exit 2) (inS n x l s i u.Paths.length) := by
  have h := loop_list (P := Try.prog) (c := loopAt Try.f9 1) u.Paths (fun (_ : Unit) k => inS n x l s i k) (fun _ _ _ => .inl ()) (fun _ => (.exit 2, inS n x l s i u.Paths.length)) (fun _ k => k ≤ u.Paths.length) ?_ ?_ ?_ () (Nat.zero_le _)
  · have hr : ∀ (r : List Path) (k : Nat), runL (σ := Unit) (fun _ _ _ => .inl ()) (fun _ => (Ex.exit 2, inS n x l s i u.Paths.length)) r k () = (Ex.exit 2, inS n x l s i u.Paths.length) := by
      intro r
      induction r with
      | nil => intro k; rfl
      | cons a r ih => intro k; exact ih (k + 1)
    rw [hr] at h
    exact h
  · intro _ k p _ hI hpk _
    have hlt := getElem?_lt hpk
    have hok : (!pathOk n p) = false := by rw [hp p (List.mem_of_getElem? hpk)]; rfl
    have hh := evB_sound (inA_1 n x l s i k u p) ⟨hok, path_ok n p, el_map hpk, el_map hu, lt_len hpk, el_map hu, trivial⟩
    rw [wrap64 (by omega) (by omega)] at hh
    exact ⟨hlt, hh⟩
  · intro _ k p o _ _ hs; cases hs
  · intro _ _
    exact ⟨nofun, evB_sound (inA_2 n x l s i u.Paths.length u ⟨0, 0, false, 0, 0, []⟩) ⟨by simp, el_map hu, trivial⟩⟩

def goodOut (n : Int) (u : Out) : Prop := 1 ≤ u.Paths.length ∧ u.Paths.length ≤ 4 ∧ ∀ p ∈ u.Paths, pathOk n p = true

theorem outs_ok (n : Int) (x : Bool) (l : List Out) (S : Int) (h1 : 1 ≤ l.length) (h2 : l.length ≤ 64) (hg : ∀ u ∈ l, goodOut n u) (hS : sumGo (l.map Out.Amount) 0 = (S, 0)) :
    PCall Try.prog 9 [i64 n, .lst x 2 (l.map Out.t)] [i64 S, .bool true] := by
  have h := loop_list (P := Try.prog) (c := loopAt Try.f9 0) l (fun (s : Int) i => outS n x l 0 s i false) (fun s _ u => .inl (add s u.Amount).1) (fun _ => (.exit 0, outS n x l 0 S l.length false))
    (fun s i => i ≤ l.length ∧ sumGo ((l.drop i).map Out.Amount) s = (S, 0)) ?_ ?_ ?_ 0 ⟨Nat.zero_le _, by simpa using hS⟩
  · have hr : ∀ (r : List Out) (k : Nat) (s : Int), runL (σ := Int) (fun s _ u => .inl (add s u.Amount).1) (fun _ => (Ex.exit 0, outS n x l 0 S l.length false)) r k s = (Ex.exit 0, outS n x l 0 S l.length false) := by
      intro r
      induction r with
      | nil => intro k s; rfl
      | cons a r ih => intro k s; exact ih (k + 1) _
    rw [hr] at h
    exact evF_sound Try.func9 (by rfl) (outF_1 n x l S l.length) ⟨h, by simp; omega, trivial⟩
  · intro s i u s' hI hu hs
    injection hs with hs; subst hs
    have hlt := getElem?_lt hu
    obtain ⟨g1, g2, g3⟩ := hg u (List.mem_of_getElem? hu)
    have hd : l.drop i = u :: l.drop (i + 1) := by
      rw [List.drop_eq_getElem_cons hlt]
      rw [List.getElem?_eq_getElem hlt] at hu
      injection hu with hu
      rw [hu]
    have hI2 := hI.2
    rw [hd] at hI2
    simp only [List.map_cons, sumGo] at hI2
    cases hc : (!((add s u.Amount).2 == 0)) with
    | true =>
      rw [hc] at hI2
      simp only [cond_true, Prod.mk.injEq] at hI2
      rw [hI2.2] at hc
      cases hc
    | false =>
      rw [hc] at hI2
      have hh := evB_sound (outA_3 n x l s i u u.Paths.length) ⟨hc, radd_ok s u.Amount, el_map hu, in_loop n x l s i u hu g2 g3, by simp; omega, el_map hu, by simp; omega, el_map hu, lt_len hu, trivial⟩
      rw [wrap64 (by omega) (by omega)] at hh
      exact ⟨⟨hlt, hI2⟩, hh⟩
  · intro s i u o _ _ hs; cases hs
  · intro s hI
    have e : s = S := by
      have := hI.2
      rw [List.drop_length] at this
      simp only [List.map_nil, sumGo, Prod.mk.injEq] at this
      exact this.1
    subst e
    exact ⟨nofun, evB_sound (outA_4 n x l s l.length ⟨0, false, []⟩ 0) ⟨by simp, trivial⟩⟩

end Go.HM.Deal
