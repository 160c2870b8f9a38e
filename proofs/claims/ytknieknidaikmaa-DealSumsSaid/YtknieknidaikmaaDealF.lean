/- DEAL, part F: DealPlaces: true. -/
import Derived.Test.YtknieknidaikmaaDealR
namespace Go.HM.Deal
open Go.Proofs

def lex (y h : Htlc) : Prop := y.By < h.By ∨ (y.By = h.By ∧ y.Id < h.Id)

theorem c3_lex {y h : Htlc} (hc : c3 y h = false) : lex y h := by
  have h1 : ¬ order y h ≥ 0 := by simpa [c3] using hc
  unfold order cmpI at h1
  unfold lex
  by_cases a : y.By < h.By
  · exact .inl a
  · by_cases b : y.By > h.By
    · simp [orInt, a, b] at h1
    · have e : y.By = h.By := by omega
      by_cases c : y.Id < h.Id
      · exact .inr ⟨e, c⟩
      · by_cases d : y.Id > h.Id
        · simp [orInt, a, b, c, d] at h1
        · simp [orInt, a, b, c, d] at h1

theorem fitGo_lex (t : Terms) : ∀ (l : List Htlc) (y : Option Htlc), fitGo t y l = true → l.Pairwise lex ∧ (∀ y0, y = some y0 → ∀ z ∈ l, lex y0 z)
  | [], y, _ => ⟨.nil, by simp⟩
  | h :: r, y, hf => by
    simp only [fitGo] at hf
    cases h1 : c1 t h with
    | true => rw [h1] at hf; cases hf
    | false =>
      cases h2 : c2 h with
      | true => rw [h1, h2] at hf; cases hf
      | false =>
        rw [h1, h2] at hf
        simp only [cond_false] at hf
        have key : fitGo t (some h) r = true ∧ (∀ y0, y = some y0 → lex y0 h) := by
          cases y with
          | none => exact ⟨hf, by simp⟩
          | some y0 =>
            simp only at hf
            cases h3 : c3 y0 h with
            | true => rw [h3] at hf; cases hf
            | false =>
              rw [h3] at hf
              exact ⟨hf, fun y1 e => by injection e with e; subst e; exact c3_lex h3⟩
        obtain ⟨p, q⟩ := fitGo_lex t r (some h) key.1
        refine ⟨.cons (fun z hz => q h rfl z hz) p, fun y0 e z hz => ?_⟩
        rcases List.mem_cons.1 hz with rfl | hz
        · exact key.2 y0 e
        · have a := key.2 y0 e
          have b := q h rfl z hz
          unfold lex at *
          omega

theorem ixGo_at : ∀ (l : List Htlc) (i j : Nat) (h : Htlc), l.Pairwise lex → l[j]? = some h → ixGo h.By h.Id l i = ((i + j : Nat) : Int)
  | [], i, j, h, _, hj => by simp at hj
  | x :: r, i, 0, h, _, hj => by
    simp at hj; subst hj
    simp [ixGo]
  | x :: r, i, j + 1, h, hp, hj => by
    have hj' : r[j]? = some h := by simpa using hj
    have hl : lex x h := (List.pairwise_cons.1 hp).1 h (List.mem_of_getElem? hj')
    have hc : (x.By == h.By && x.Id == h.Id) = false := by
      unfold lex at hl
      rcases hl with a | ⟨a, b⟩
      · have : ¬ x.By = h.By := by omega
        simp [this]
      · have : ¬ x.Id = h.Id := by omega
        simp [this]
    simp only [ixGo, hc, cond_false]
    rw [ixGo_at r (i + 1) j h (List.pairwise_cons.1 hp).2 hj']
    congr 1; omega

theorem fits_go {t : Terms} {v : View} (h : Deal.fits t v = true) : may t = true ∧ fitGo t none v.Htlcs = true ∧ (sum (allOfV v)).2 = 0 ∧ (sum (allOfV v)).1 = IntKind.i64.wrap (t.StartA + t.StartB) := by
  unfold Deal.fits at h
  cases h0 : (!may t || decide (((v.Htlcs.map Htlc.t).length : Int) > 32)) with
  | true => rw [h0] at h; cases h
  | false =>
    rw [h0] at h
    simp only [cond_false] at h
    cases h1 : fitGo t none v.Htlcs with
    | false => rw [h1] at h; cases h
    | true =>
      rw [h1] at h
      simp only [cond_true, Bool.and_eq_true, beq_iff_eq] at h
      refine ⟨?_, rfl, h.1, h.2⟩
      have := (Bool.or_eq_false_iff.1 h0).1
      simpa using this

theorem may_AB {t : Terms} (h : may t = true) : t.A < t.B := by
  unfold may at h
  cases h0 : (!within t.Channel 1 65535 || decide (t.A < 0) || decide (t.A ≥ t.B) || decide (t.B ≥ 8) || decide (t.Fund.Out < 0)) with
  | true => rw [h0] at h; cases h
  | false =>
    simp only [Bool.or_eq_false_iff, decide_eq_false_iff_not] at h0
    omega

theorem other_A (t : Terms) : other t t.A = t.B := by
  unfold other; rw [show (t.A == t.A) = true from beq_self_eq_true _]; rfl
theorem other_B (t : Terms) (h : t.A < t.B) : other t t.B = t.A := by
  unfold other
  rw [show (t.B == t.A) = false from beq_eq_false_iff_ne.2 (by omega), show (t.B == t.B) = true from beq_self_eq_true _]; rfl

theorem other_other {t : Terms} {hd : Int} (h : t.A < t.B) (ho : (other t hd == -1) = false) : other t (other t hd) = hd := by
  by_cases a : hd = t.A
  · subst a; rw [other_A, other_B t h]
  · by_cases b : hd = t.B
    · subst b; rw [other_B t h, other_A]
    · exfalso
      unfold other at ho
      rw [show (hd == t.A) = false from beq_eq_false_iff_ne.2 a, show (hd == t.B) = false from beq_eq_false_iff_ne.2 b] at ho
      cases ho

theorem comBad_false {t : Terms} {hd : Int} {p : List Int} {v : View} (h : comBad t hd p v = false) : Deal.fits t v = true ∧ (other t hd == -1) = false := by
  unfold comBad at h
  simp only [Bool.or_eq_false_iff] at h
  exact ⟨by simpa using h.1.1, h.1.2⟩

theorem comAll_len (t : Terms) (hd : Int) (p : List Int) (v : View) : (comAll t hd p v).length = v.Htlcs.length + 2 := by
  simp [comAll, comOuts]

theorem comAll_at {t : Terms} {hd : Int} {p : List Int} {v : View} {i : Nat} {h : Htlc} (hi : v.Htlcs[i]? = some h) : (comAll t hd p v)[2 + i]? = some (comOut t hd (other t hd) p h) := by
  unfold comAll
  rw [List.getElem?_append_right (by simp [comOuts])]
  rw [show 2 + i - (comOuts t hd (other t hd) p (ownIts t hd v).1 (ownIts t hd v).2).length = i by simp [comOuts]]
  simp [hi]

theorem comOut_amount (t : Terms) (hd o : Int) (p : List Int) (h : Htlc) : (comOut t hd o p h).Amount = h.Amount ∧ (comOut t hd o p h).Paths.length = 3 := by
  cases hc : (h.By == hd) with
  | true => rw [com_out1 t hd o p h hc]; exact ⟨rfl, rfl⟩
  | false => rw [com_out2 t hd o p h hc]; exact ⟨rfl, rfl⟩

theorem pl_loop (t : Terms) (hd : Int) (p : List Int) (v : View) (f x : Bool) (hb : comBad t hd p v = false) :
    LoopR Try.prog (loopAt Try.f4 0) (plS t hd p v f x (comAll t hd p v) 0) (.exit 0) (plS t hd p v f x (comAll t hd p v) v.Htlcs.length) := by
  obtain ⟨hf, ho⟩ := comBad_false hb
  have hl := fits_len hf
  obtain ⟨hm, hg, _, _⟩ := fits_go hf
  have hpw := (fitGo_lex t v.Htlcs none hg).1
  have h := loop_list (P := Try.prog) (c := loopAt Try.f4 0) v.Htlcs (fun (_ : Unit) i => plS t hd p v f x (comAll t hd p v) i) (fun _ _ _ => .inl ()) (fun _ => (.exit 0, plS t hd p v f x (comAll t hd p v) v.Htlcs.length)) (fun _ i => i ≤ v.Htlcs.length) ?_ ?_ ?_ () (Nat.zero_le _)
  · have hr : ∀ (r : List Htlc) (i : Nat), runL (σ := Unit) (fun _ _ _ => .inl ()) (fun _ => (Ex.exit 0, plS t hd p v f x (comAll t hd p v) v.Htlcs.length)) r i () = (Ex.exit 0, plS t hd p v f x (comAll t hd p v) v.Htlcs.length) := by
      intro r
      induction r with
      | nil => intro i; rfl
      | cons a r ih => intro i; exact ih (i + 1)
    rw [hr] at h
    exact h
  · intro s i y s' hI hy hs
    have hlt := getElem?_lt hy
    have hix : ixGo y.By y.Id v.Htlcs 0 = (i : Int) := by rw [ixGo_at v.Htlcs 0 i y hpw hy]; simp
    have hpl : place v y.By y.Id = (((2 + i : Nat) : Int), true) := by
      unfold place
      rw [hix]
      have : decide ((i : Int) < 0) = false := by simp
      rw [this]
      simp only [cond_false]
      rw [wrap64 (by omega) (by omega)]
      congr 1
    have hp := place_ok v y.By y.Id f (by omega)
    rw [hpl] at hp
    have hat := comAll_at (t := t) (hd := hd) (p := p) hy
    obtain ⟨ha, hb3⟩ := comOut_amount t hd (other t hd) p y
    have hel : 0 ≤ ((2 + i : Nat) : Int) ∧ (List.map Out.t (comAll t hd p v))[((2 + i : Nat) : Int).toNat]? = some (comOut t hd (other t hd) p y).t := el_map hat
    have h3 : (!((List.map Path.t (comOut t hd (other t hd) p y).Paths).length : Int) == 3) = false := by simp [hb3]
    have h2 : (!(comOut t hd (other t hd) p y).Amount == y.Amount) = false := by simp [ha]
    have h1 : (false || !((2 + i : Nat) : Int) == IntKind.i64.wrap (2 + (i : Int)) || decide (((2 + i : Nat) : Int) ≥ ((List.map Out.t (comAll t hd p v)).length : Int))) = false := by
      rw [wrap64 (by omega) (by omega)]
      have e : ((2 + i : Nat) : Int) = 2 + (i : Int) := by omega
      rw [e]
      simp [comAll_len]
      omega
    have hh := evB_sound (plA_3 t hd p v f x (comAll t hd p v) i y ((2 + i : Nat) : Int) (comOut t hd (other t hd) p y)) ⟨h3, hel, h2, hel, h1, hp, el_map hy, lt_len hy, trivial⟩
    rw [wrap64 (by omega) (by omega)] at hh
    exact ⟨hlt, hh⟩
  · intro s i y o hI hy hs
    cases hs
  · intro s hI
    exact ⟨nofun, evB_sound (plA_4 t hd p v f x (comAll t hd p v) v.Htlcs.length ⟨0, 0, 0, [], 0⟩ 0 ⟨0, false, []⟩) ⟨by simp, trivial⟩⟩

/-- DealPlaces -/
theorem dealPlaces_ok (t : Terms) (hd : Int) (p : List Int) (v : View) (f : Bool) : PCall Try.prog 4 [t.t, i64 hd, .ba 32 p, v.t f] [.bool true] := by
  have hc := commit_ok t hd p v f
  unfold commit at hc
  cases hb : comBad t hd p v with
  | true =>
    rw [hb] at hc
    exact evF_sound Try.func4 (by rfl) (pl3_0 t hd p v f) ⟨lives_ok, rfl, lives_ok, hc, trivial⟩
  | false =>
    rw [hb] at hc
    obtain ⟨hf, ho⟩ := comBad_false hb
    have h := evF_sound Try.func4 (by rfl) (pl2_0 t hd p v f v.Htlcs.isEmpty (comAll t hd p v) v.Htlcs.length 0 0)
      ⟨other_ok t (other t hd), other_ok t hd, pl_loop t hd p v f v.Htlcs.isEmpty hb, rfl, lives_ok, hc, trivial⟩
    rw [other_other (may_AB (fits_go hf).1) ho] at h
    simpa using h

end Go.HM.Deal
