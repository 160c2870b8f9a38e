/- DC, part H: the plain law. -/
import Derived.Test.YtbipkkebonohjaaDcG
import Derived.Test.YtbipkkebonohjaaHmRow
set_option maxRecDepth 100000
namespace Go.HM.Deal
open Go.Proofs

theorem fits_go {t : Terms} {v : View} (h : Deal.fits t v = true) : may t = true ∧ fitGo t none v.Htlcs = true ∧ (sum (allOfV v)).2 = 0 ∧ (sum (allOfV v)).1 = IntKind.i64.wrap (t.StartA + t.StartB) := by
  unfold Deal.fits at h
  cases h0 : (!may t || decide (((v.Htlcs.map Htlc.t).length : Int) > 32)) with
  | true => rw [h0] at h; cases h
  | false =>
    rw [h0] at h
    simp only [cond_false] at h
    cases h1 : fitGo t none v.Htlcs with
    | false => rw [h1] at h; cases h
    | true =>
      rw [h1] at h
      simp only [cond_true, Bool.and_eq_true, beq_iff_eq] at h
      refine ⟨?_, rfl, h.1, h.2⟩
      have := (Bool.or_eq_false_iff.1 h0).1
      simpa using this

theorem may_AB {t : Terms} (h : may t = true) : t.A < t.B := by
  unfold may at h
  cases h0 : (!within t.Channel 1 65535 || decide (t.A < 0) || decide (t.A ≥ t.B) || decide (t.B ≥ 8) || decide (t.Fund.Out < 0)) with
  | true => rw [h0] at h; cases h
  | false =>
    simp only [Bool.or_eq_false_iff, decide_eq_false_iff_not] at h0
    omega

theorem other_A (t : Terms) : other t t.A = t.B := by
  unfold other; rw [show (t.A == t.A) = true from beq_self_eq_true _]; rfl

theorem other_B (t : Terms) (h : t.A < t.B) : other t t.B = t.A := by
  unfold other
  rw [show (t.B == t.A) = false from beq_eq_false_iff_ne.2 (by omega), show (t.B == t.B) = true from beq_self_eq_true _]; rfl

theorem comBad_false {t : Terms} {hd : Int} {p : List Int} {v : View} (h : comBad t hd p v = false) : Deal.fits t v = true ∧ (other t hd == -1) = false := by
  unfold comBad at h
  simp only [Bool.or_eq_false_iff] at h
  exact ⟨by simpa using h.1.1, h.1.2⟩

theorem comAll_len (t : Terms) (hd : Int) (p : List Int) (v : View) : (comAll t hd p v).length = v.Htlcs.length + 2 := by
  simp [comAll, comOuts]

theorem comOut_amount (t : Terms) (hd o : Int) (p : List Int) (h : Htlc) : (comOut t hd o p h).Amount = h.Amount ∧ (comOut t hd o p h).Paths.length = 3 := by
  cases hc : (h.By == hd) with
  | true => rw [com_out1 t hd o p h hc]; exact ⟨rfl, rfl⟩
  | false => rw [com_out2 t hd o p h hc]; exact ⟨rfl, rfl⟩

def rng (n : Int) : Prop := -9223372036854775808 ≤ n ∧ n ≤ 9223372036854775807

theorem add_spec {a b : Int} (h0 : 0 ≤ a) (h1 : a ≤ 9223372036854775807) (hb : rng b) (h : (!((add a b).2 == 0)) = false) : 0 ≤ b ∧ a + b ≤ 9223372036854775807 ∧ (add a b).1 = a + b := by
  unfold rng at hb
  unfold add at h ⊢
  cases c1 : (decide (a < 0) || decide (b < 0)) with
  | true => rw [c1] at h; cases h
  | false =>
    rw [c1] at h
    simp only [Bool.or_eq_false_iff, decide_eq_false_iff_not] at c1
    rw [wrap64 (x := 9223372036854775807 - b) (by omega) (by omega)] at h ⊢
    cases c2 : decide (a > 9223372036854775807 - b) with
    | true => rw [c2] at h; cases h
    | false =>
      simp only [decide_eq_false_iff_not] at c2
      simp only [cond_false]
      rw [wrap64 (by omega) (by omega)]
      exact ⟨by omega, by omega, rfl⟩

theorem add_mk {a b : Int} (h0 : 0 ≤ a) (hb : 0 ≤ b) (h : a + b ≤ 9223372036854775807) : add a b = (a + b, 0) := by
  unfold add
  rw [show (decide (a < 0) || decide (b < 0)) = false by simp; omega]
  rw [wrap64 (x := 9223372036854775807 - b) (by omega) (by omega)]
  rw [show decide (a > 9223372036854775807 - b) = false by simp; omega]
  rw [wrap64 (by omega) (by omega)]
  rfl

theorem sumGo_spec : ∀ (l : List Int) (s S : Int), 0 ≤ s → s ≤ 9223372036854775807 → (∀ x ∈ l, rng x) → sumGo l s = (S, 0) → S = s + l.sum ∧ S ≤ 9223372036854775807 ∧ ∀ x ∈ l, 0 ≤ x
  | [], s, S, h0, h1, _, h => by
    simp only [sumGo, Prod.mk.injEq] at h
    simp [← h.1, h1]
  | x :: l, s, S, h0, h1, hr, h => by
    simp only [sumGo] at h
    cases hc : (!((add s x).2 == 0)) with
    | true =>
      rw [hc] at h
      simp only [cond_true, Prod.mk.injEq] at h
      rw [h.2] at hc; cases hc
    | false =>
      rw [hc] at h
      obtain ⟨a1, a2, a3⟩ := add_spec h0 h1 (hr x (by simp)) hc
      rw [a3] at h
      obtain ⟨b1, b2, b3⟩ := sumGo_spec l (s + x) S (by omega) a2 (fun y hy => hr y (by simp [hy])) h
      refine ⟨by rw [b1, List.sum_cons]; omega, b2, fun y hy => ?_⟩
      rcases List.mem_cons.1 hy with rfl | hy
      · exact a1
      · exact b3 y hy

theorem sum_nonneg : ∀ (l : List Int), (∀ x ∈ l, 0 ≤ x) → 0 ≤ l.sum
  | [], _ => by simp
  | x :: l, h => by
    have := h x (by simp)
    have := sum_nonneg l (fun y hy => h y (by simp [hy]))
    rw [List.sum_cons]; omega

theorem sumGo_mk : ∀ (l : List Int) (s : Int), 0 ≤ s → (∀ x ∈ l, 0 ≤ x) → s + l.sum ≤ 9223372036854775807 → sumGo l s = (s + l.sum, 0)
  | [], s, _, _, _ => by simp [sumGo]
  | x :: l, s, h0, hp, h => by
    have hx := hp x (by simp)
    have hl := sum_nonneg l (fun y hy => hp y (by simp [hy]))
    rw [List.sum_cons] at h ⊢
    simp only [sumGo]
    rw [add_mk h0 hx (by omega)]
    simp only [beq_self_eq_true, Bool.not_true, cond_false]
    rw [sumGo_mk l (s + x) (by omega) (fun y hy => hp y (by simp [hy])) (by omega)]
    congr 1; omega

structure Ranges (t : Terms) (v : View) : Prop where
  sa : rng t.StartA
  sb : rng t.StartB
  fee : rng t.Fee
  a : rng v.A
  b : rng v.B
  am : ∀ h ∈ v.Htlcs, rng h.Amount

theorem sum_all {l : List Int} (hr : ∀ x ∈ l, rng x) (h : (sum l).2 = 0) : (sum l).1 = l.sum ∧ l.sum ≤ 9223372036854775807 ∧ ∀ x ∈ l, 0 ≤ x := by
  unfold sum at h ⊢
  cases hc : l.any (fun x => decide (x < 0)) with
  | true => rw [hc] at h; cases h
  | false =>
    rw [hc] at h
    simp only [cond_false] at h ⊢
    have e : sumGo l 0 = ((sumGo l 0).1, 0) := Prod.ext rfl h
    obtain ⟨a, b, c⟩ := sumGo_spec l 0 _ (by omega) (by omega) hr e
    exact ⟨by omega, by omega, c⟩

theorem may_more {t : Terms} {v : View} (hr : Ranges t v) (h : may t = true) :
    0 ≤ t.A ∧ t.A < t.B ∧ t.B < 8 ∧ 1 ≤ t.Delay ∧ t.Delay ≤ 1000 ∧ 0 ≤ t.Fee ∧ 0 ≤ t.StartA ∧ 0 ≤ t.StartB ∧ t.StartA + t.StartB ≤ 9223372036854775807 := by
  unfold may at h
  cases h0 : (!within t.Channel 1 65535 || decide (t.A < 0) || decide (t.A ≥ t.B) || decide (t.B ≥ 8) || decide (t.Fund.Out < 0)) with
  | true => rw [h0] at h; cases h
  | false =>
    rw [h0] at h
    cases h1 : (!within t.Delay 1 1000) with
    | true => rw [h1] at h; cases h
    | false =>
      rw [h1] at h
      cases h2 : (!within t.Slots 1 16) with
      | true => rw [h2] at h; cases h
      | false =>
        rw [h2] at h
        cases h3 : ((sum [t.Fee, t.Reserve]).2 == 1 || decide (t.Flight < 0)) with
        | true => rw [h3] at h; cases h
        | false =>
          rw [h3] at h
          simp only [cond_false, beq_iff_eq] at h
          simp only [Bool.or_eq_false_iff, decide_eq_false_iff_not] at h0 h3
          have hd : 1 ≤ t.Delay ∧ t.Delay ≤ 1000 := by
            simp [within] at h1
            omega
          have hf : 0 ≤ t.Fee := by
            have h4 := h3.1
            unfold sum at h4
            cases hc : [t.Fee, t.Reserve].any (fun x => decide (x < 0)) with
            | true => rw [hc] at h4; cases h4
            | false =>
              simp at hc
              omega
          have hs : 0 ≤ t.StartA ∧ 0 ≤ t.StartB ∧ t.StartA + t.StartB ≤ 9223372036854775807 := by
            have hsa := hr.sa
            unfold rng at hsa
            by_cases q : 0 ≤ t.StartA
            · have := add_spec q hsa.2 hr.sb (by rw [h]; rfl)
              omega
            · exfalso
              unfold add at h
              rw [show (decide (t.StartA < 0) || decide (t.StartB < 0)) = true by simp; omega] at h
              cases h
          omega

theorem own_its (t : Terms) (hd : Int) (v : View) (hA : 0 ≤ v.A) (hB : 0 ≤ v.B) (hA2 : v.A ≤ 9223372036854775807) (hf : 0 ≤ t.Fee) (hf2 : t.Fee ≤ 9223372036854775807) :
    0 ≤ (ownIts t hd v).1 ∧ 0 ≤ (ownIts t hd v).2 ∧ (ownIts t hd v).1 + (ownIts t hd v).2 ≤ v.A + v.B ∧ v.A + v.B ≤ (ownIts t hd v).1 + (ownIts t hd v).2 + t.Fee := by
  have hw : IntKind.i64.wrap (v.A - t.Fee) = v.A - t.Fee := wrap64 (by omega) (by omega)
  have hm : mx0 (v.A - t.Fee) = (if v.A - t.Fee < 0 then 0 else v.A - t.Fee) := rfl
  unfold ownIts
  rw [hw, hm]
  cases hd == t.B <;> simp only [cond_true, cond_false] <;> split <;> omega

theorem comAll_sum (t : Terms) (hd : Int) (p : List Int) (v : View) : (comAll t hd p v).map Out.Amount = (ownIts t hd v).1 :: (ownIts t hd v).2 :: v.Htlcs.map Htlc.Amount := by
  unfold comAll comOuts
  simp only [List.map_append, List.map_cons, List.map_nil, List.map_map, List.cons_append, List.nil_append]
  congr 2
  apply List.map_congr_left
  intro h _
  exact (comOut_amount t hd (other t hd) p h).1

theorem fitGo_each (t : Terms) : ∀ (l : List Htlc) (y : Option Htlc), fitGo t y l = true → ∀ h ∈ l, c2 h = false
  | [], y, _ => by simp
  | h :: r, y, hf => by
    simp only [fitGo] at hf
    cases h1 : c1 t h with
    | true => rw [h1] at hf; cases hf
    | false =>
      cases h2 : c2 h with
      | true => rw [h1, h2] at hf; cases hf
      | false =>
        rw [h1, h2] at hf
        simp only [cond_false] at hf
        have key : fitGo t (some h) r = true := by
          cases y with
          | none => exact hf
          | some y0 =>
            simp only at hf
            cases h3 : c3 y0 h with
            | true => rw [h3] at hf; cases hf
            | false => rw [h3] at hf; exact hf
        intro z hz
        rcases List.mem_cons.1 hz with rfl | hz
        · exact h2
        · exact fitGo_each t r (some h) key z hz

theorem hd_range {t : Terms} {hd : Int} (h : t.A < t.B) (h0 : 0 ≤ t.A) (h8 : t.B < 8) (ho : (other t hd == -1) = false) : (0 ≤ hd ∧ hd < 8) ∧ (0 ≤ other t hd ∧ other t hd < 8) := by
  by_cases a : hd = t.A
  · subst a; rw [other_A]; omega
  · by_cases b : hd = t.B
    · subst b; rw [other_B t h]; omega
    · exfalso
      unfold other at ho
      rw [show (hd == t.A) = false from beq_eq_false_iff_ne.2 a, show (hd == t.B) = false from beq_eq_false_iff_ne.2 b] at ho
      cases ho

def dealShs : List Sh := [.struct [.int .i64, .int .i64, .int .i64, .struct [.bytes 32, .int .i64], .int .i64, .int .i64, .int .i64, .int .i64, .int .i64, .int .i64, .int .i64], .int .i64, .bytes 32,
  .struct [.int .i64, .int .i64, .slice 36 (.struct [.int .i64, .int .i64, .int .i64, .bytes 32, .int .i64])]]

theorem sh_int {k : IntKind} {x : T} (h : HasSh (.int k) x) : ∃ n, x = .int k n := let ⟨n, e, _⟩ := h; ⟨n, e⟩

theorem wf_rng {n : Int} (h : (Lit.int .i64 n).wf = true) : rng n := by
  simpa [Lit.wf, IntKind.min, IntKind.max, IntKind.signed, IntKind.bits, rng] using h

theorem sh_htlc2 {x : T} (h : HasSh (.struct [.int .i64, .int .i64, .int .i64, .bytes 32, .int .i64]) x) : ∃ h : Htlc, x = h.t ∧ rng h.Amount := by
  obtain ⟨xs, rfl, a, r1, rfl, ⟨n1, rfl, _⟩, b, r2, rfl, ⟨n2, rfl, _⟩, c, r3, rfl, ⟨n3, rfl, w3⟩, d, r4, rfl, ⟨bs, rfl, _, _⟩, e, r5, rfl, ⟨n5, rfl, _⟩, rfl⟩ := h
  exact ⟨⟨n1, n2, n3, bs, n5⟩, rfl, wf_rng w3⟩

theorem sh_htlcs2 : ∀ (xs : List T), (∀ y ∈ xs, HasSh (.struct [.int .i64, .int .i64, .int .i64, .bytes 32, .int .i64]) y) → ∃ hs : List Htlc, xs = hs.map Htlc.t ∧ ∀ h ∈ hs, rng h.Amount
  | [], _ => ⟨[], rfl, by simp⟩
  | x :: xs, h => by
    obtain ⟨a, rfl, ha⟩ := sh_htlc2 (h x (by simp))
    obtain ⟨l, rfl, hl⟩ := sh_htlcs2 xs (fun y hy => h y (by simp [hy]))
    refine ⟨a :: l, rfl, fun z hz => ?_⟩
    rcases List.mem_cons.1 hz with rfl | hz
    · exact ha
    · exact hl z hz

theorem deal_args2 {xs : List T} (h : HasShs dealShs xs) : ∃ (t : Terms) (hd : Int) (p : List Int) (v : View) (f : Bool), xs = [t.t, i64 hd, .ba 32 p, v.t f] ∧ Ranges t v := by
  obtain ⟨x1, r1, rfl, ⟨ts, rfl, a1, q1, rfl, ⟨n1, rfl, _⟩, a2, q2, rfl, ⟨n2, rfl, _⟩, a3, q3, rfl, ⟨n3, rfl, _⟩, a4, q4, rfl, ⟨rs, rfl, b1, s1, rfl, ⟨tx, rfl, _, _⟩, b2, s2, rfl, ⟨m2, rfl, _⟩, rfl⟩,
    a5, q5, rfl, ⟨n5, rfl, w5⟩, a6, q6, rfl, ⟨n6, rfl, w6⟩, a7, q7, rfl, ⟨n7, rfl, _⟩, a8, q8, rfl, ⟨n8, rfl, w8⟩, a9, q9, rfl, ⟨n9, rfl, _⟩, a10, q10, rfl, ⟨n10, rfl, _⟩, a11, q11, rfl, ⟨n11, rfl, _⟩, rfl⟩,
    x2, r2, rfl, ⟨hd, rfl, _⟩, x3, r3, rfl, ⟨p, rfl, _, _⟩, x4, r4, rfl, ⟨vs, rfl, c1, u1, rfl, ⟨k1, rfl, wk1⟩, c2, u2, rfl, ⟨k2, rfl, wk2⟩, c3, u3, rfl, ⟨f, hs, rfl, _, hh⟩, rfl⟩, rfl⟩ := h
  obtain ⟨l, rfl, hl⟩ := sh_htlcs2 hs hh
  exact ⟨⟨n1, n2, n3, ⟨tx, m2⟩, n5, n6, n7, n8, n9, n10, n11⟩, hd, p, ⟨k1, k2, l⟩, f, rfl, ⟨wf_rng w5, wf_rng w6, wf_rng w8, wf_rng wk1, wf_rng wk2, hl⟩⟩

theorem rmay_eq {t : Terms} {v : View} (hr : Ranges t v) : rmayG t = may t := by
  have e1 : ((sum [t.Fee, t.Reserve]).2 == 1) = (decide (t.Fee < 0) || decide (t.Reserve < 0)) := by
    have hf := hr.fee
    unfold rng at hf
    unfold sum
    by_cases h : t.Fee < 0 ∨ t.Reserve < 0
    · rw [show ([t.Fee, t.Reserve].any fun x => decide (x < 0)) = true by simpa using h]
      simpa using h
    · rw [show ([t.Fee, t.Reserve].any fun x => decide (x < 0)) = false by simp; omega]
      rw [show (decide (t.Fee < 0) || decide (t.Reserve < 0)) = false by simp; omega]
      simp only [cond_false, sumGo]
      rw [add_mk (a := 0) (by omega) (by omega) (by omega)]
      simp only [beq_self_eq_true, Bool.not_true, cond_false]
      unfold add
      rw [show (decide (0 + t.Fee < 0) || decide (t.Reserve < 0)) = false by simp; omega]
      cases decide (0 + t.Fee > IntKind.i64.wrap (9223372036854775807 - t.Reserve)) <;> simp
  unfold rmayG may
  rw [e1]
  cases (add t.StartA t.StartB).2 == 0 with
  | false => simp
  | true =>
    rw [Bool.eq_iff_iff]
    simp [within]
    omega

theorem bad2_eq (y h : Htlc) : bad2 y h = c3 y h := by
  unfold bad2 c3 order orInt orInt orInt cmpI
  rw [Bool.eq_iff_iff]
  by_cases h1 : y.By < h.By
  · have h2 : ¬ y.By > h.By := by omega
    have h3 : ¬ y.By = h.By := by omega
    simp [h1, h2, h3]
  · by_cases h2 : y.By > h.By
    · have h3 : ¬ y.By = h.By := by omega
      simp [h1, h2]
    · have h3 : y.By = h.By := by omega
      by_cases h4 : y.Id < h.Id
      · simp [h1, h2, h3, h4]
      · by_cases h5 : y.Id > h.Id
        · simp [h1, h2, h3, h4, h5]; omega
        · simp [h1, h2, h3, h4, h5]; omega

theorem bad1_eq {t : Terms} (h0 : 0 ≤ t.A) (h1 : t.A < t.B) (h : Htlc) : bad1 t h = (c1 t h || c2 h) := by
  unfold bad1 c1 c2 other within
  by_cases a : h.By = t.A
  · have e : ¬ t.B = -1 := by omega
    rw [show (h.By == t.A) = true by simpa using a, show (h.By != t.A) = false by simp [a]]
    simp only [cond_true, Bool.false_and, Bool.false_or]
    cases (h.Hash == zeros) with
    | true => simp
    | false => rw [Bool.eq_iff_iff]; simp [e]; omega
  · rw [show (h.By == t.A) = false by simpa using a, show (h.By != t.A) = true by simp [a]]
    by_cases b : h.By = t.B
    · have e : ¬ t.A = -1 := by omega
      rw [show (h.By == t.B) = true by simpa using b, show (h.By != t.B) = false by simp [b]]
      simp only [cond_true, cond_false, Bool.and_false, Bool.false_or]
      cases (h.Hash == zeros) with
      | true => simp
      | false => rw [Bool.eq_iff_iff]; simp [e]; omega
    · rw [show (h.By == t.B) = false by simpa using b, show (h.By != t.B) = true by simp [b]]
      simp

theorem fitGo_cons {t : Terms} (h0 : 0 ≤ t.A) (h1 : t.A < t.B) (y : Option Htlc) (h : Htlc) (r : List Htlc) : fitGo t y (h :: r) = bif badR t y h then false else fitGo t (some h) r := by
  simp only [fitGo, badR]
  rw [bad1_eq h0 h1]
  cases c1 t h with
  | true => rfl
  | false =>
    cases c2 h with
    | true => rfl
    | false =>
      cases y with
      | none => rfl
      | some y0 =>
        simp only [bad2_eq, Bool.false_or, cond_false]

theorem rgo_bad (t : Terms) (K : Int) (y : Option Htlc) (r : List Htlc) (s e : Int) (he : (e == 0) = false) : (match rgo t y r s e with | none => false | some (s2, e2) => (e2 == 0) && (s2 == K)) = false := by
  cases r with
  | nil => simp only [rgo, he, Bool.false_and]
  | cons h r => simp only [rgo, he, Bool.not_false, cond_true, Bool.false_and]

theorem rgo_eq {t : Terms} (h0 : 0 ≤ t.A) (h1 : t.A < t.B) (K : Int) : ∀ (r : List Htlc) (y : Option Htlc) (s : Int), (match rgo t y r s 0 with | none => false | some (s2, e2) => (e2 == 0) && (s2 == K)) = (fitGo t y r && ((sumGo (r.map Htlc.Amount) s).2 == 0 && (sumGo (r.map Htlc.Amount) s).1 == K))
  | [], y, s => by simp [rgo, fitGo, sumGo]
  | h :: r, y, s => by
    rw [fitGo_cons h0 h1]
    simp only [rgo, beq_self_eq_true, Bool.not_true, cond_false, List.map_cons, sumGo]
    cases badR t y h with
    | true => rfl
    | false =>
      simp only [cond_false]
      cases he : ((add s h.Amount).2 == 0) with
      | true =>
        have e0 : (add s h.Amount).2 = 0 := by simpa using he
        rw [e0]
        simp only [Bool.not_true, cond_false]
        exact rgo_eq h0 h1 K r (some h) (add s h.Amount).1
      | false =>
        rw [rgo_bad t K (some h) r _ _ he]
        simp only [Bool.not_false, cond_true, he, Bool.false_and, Bool.and_false]

theorem sumGo_neg : ∀ (l : List Int) (s : Int), l.any (fun x => decide (x < 0)) = true → ((sumGo l s).2 == 0) = false
  | [], s, h => by cases h
  | x :: l, s, h => by
    simp only [sumGo]
    cases he : ((add s x).2 == 0) with
    | false => simp only [Bool.not_false, cond_true, he]
    | true =>
      simp only [Bool.not_true, cond_false]
      refine sumGo_neg l _ ?_
      have hx : ¬ x < 0 := by
        intro hx
        unfold add at he
        rw [show (decide (s < 0) || decide (x < 0)) = true by simp [hx]] at he
        cases he
      simpa [List.any_cons, hx] using h

theorem sum_sumGo (l : List Int) (K : Int) : ((sum l).2 == 0 && (sum l).1 == K) = ((sumGo l 0).2 == 0 && (sumGo l 0).1 == K) := by
  unfold sum
  cases h : l.any (fun x => decide (x < 0)) with
  | false => rfl
  | true => rw [sumGo_neg l 0 h]; rfl

theorem rfits_eq {t : Terms} {v : View} (hr : Ranges t v) : rfits t v = fits t v := by
  unfold rfits fits
  rw [rmay_eq hr]
  cases hm : may t with
  | false => rfl
  | true =>
    have mm := may_more hr hm
    simp only [Bool.not_true, cond_false, Bool.false_or]
    cases decide (((v.Htlcs.map Htlc.t).length : Int) > 32) with
    | true => rfl
    | false =>
      simp only [cond_false]
      have hb : ∀ (a b : Bool), (bif a then b else false) = (a && b) := by intro a b; cases a <;> rfl
      rw [hb, sum_sumGo]
      have hra := hr.a
      unfold rng at hra
      by_cases hA : v.A < 0
      · have e1 : add v.A v.B = (0, 1) := by unfold add; rw [show (decide (v.A < 0) || decide (v.B < 0)) = true by simp [hA]]; rfl
        rw [e1]
        refine (rgo_bad t (IntKind.i64.wrap (t.StartA + t.StartB)) none v.Htlcs 0 1 rfl).trans ?_
        have e2 : ((sumGo (allOfV v) 0).2 == 0) = false := sumGo_neg _ _ (by simp [allOfV, hA])
        rw [e2]
        simp
      · have e0 : add 0 v.A = (0 + v.A, 0) := add_mk (by omega) (by omega) (by omega)
        have e2 : sumGo (allOfV v) 0 = bif !((add v.A v.B).2 == 0) then (0, (add v.A v.B).2) else sumGo (v.Htlcs.map Htlc.Amount) (add v.A v.B).1 := by
          unfold allOfV
          simp only [sumGo]
          rw [e0]
          simp only [beq_self_eq_true, Bool.not_true, cond_false, Int.zero_add]
        rw [e2]
        cases he : ((add v.A v.B).2 == 0) with
        | false =>
          refine (rgo_bad t (IntKind.i64.wrap (t.StartA + t.StartB)) none v.Htlcs _ _ he).trans ?_
          simp only [Bool.not_false, cond_true, he, Bool.false_and, Bool.and_false]
        | true =>
          have e3 : (add v.A v.B).2 = 0 := by simpa using he
          rw [e3]
          simp only [Bool.not_true, cond_false]
          exact rgo_eq mm.1 mm.2.1 _ v.Htlcs none _

theorem rcomBad_eq {t : Terms} {v : View} (hr : Ranges t v) (hd : Int) (p : List Int) : rcomBad t hd p v = comBad t hd p v := by
  unfold rcomBad comBad
  rw [rfits_eq hr, rmay_eq hr]
  cases hm : may t with
  | false =>
    have : fits t v = false := by unfold fits; rw [hm]; rfl
    rw [this]; rfl
  | true =>
    have mm := may_more hr hm
    simp only [Bool.not_true, Bool.false_or]
    have e : ((hd != t.A) && (hd != t.B)) = (other t hd == -1) := by
      unfold other
      by_cases a : hd = t.A
      · have h1 : ¬ t.B = -1 := by omega
        rw [show (hd == t.A) = true by simpa using a, show (hd != t.A) = false by simp [a]]
        simp [h1]
      · rw [show (hd == t.A) = false by simpa using a, show (hd != t.A) = true by simp [a]]
        by_cases b : hd = t.B
        · have h1 : ¬ t.A = -1 := by omega
          rw [show (hd == t.B) = true by simpa using b, show (hd != t.B) = false by simp [b]]
          simp [h1]
        · rw [show (hd == t.B) = false by simpa using b, show (hd != t.B) = true by simp [b]]
          simp
    rw [e]
    cases fits t v <;> cases (other t hd == -1) <;> rfl

theorem rcomAll_eq {t : Terms} {v : View} (hr : Ranges t v) (hd : Int) (p : List Int) (hA : 0 ≤ v.A) (hf : 0 ≤ t.Fee) : rcomAll t hd p v = (comAll t hd p v).map setX := by
  have h1 := hr.a
  have h2 := hr.fee
  unfold rng at h1 h2
  have hl : less v.A t.Fee = mx0 (IntKind.i64.wrap (v.A - t.Fee)) := by
    unfold less
    rw [w64 (by omega) (by omega)]
    unfold mx0
    by_cases h : v.A ≤ t.Fee
    · rw [show decide (v.A ≤ t.Fee) = true by simpa using h]
      simp only [cond_true]
      split <;> omega
    · rw [show decide (v.A ≤ t.Fee) = false by simpa using h]
      simp only [cond_false]
      split <;> omega
  unfold rcomAll comAll comOuts ownIts
  rw [hl]
  have e : v.Htlcs.map (rout t hd (other t hd) p) = (v.Htlcs.map (comOut t hd (other t hd) p)).map setX := by
    rw [List.map_map]
    apply List.map_congr_left
    intro h _
    have := (comOut_amount t hd (other t hd) p h).1
    simp only [rout, Function.comp, setX, this]
  rw [e]
  cases hd == t.B <;> rfl

theorem dc_sum {t : Terms} {hd : Int} {v : View} (hr : Ranges t v) (hA : 0 ≤ v.A) (hB : 0 ≤ v.B) (hf : 0 ≤ t.Fee) (hz : (sum (allOfV v)).2 = 0) : (sum ((ownIts t hd v).1 :: (ownIts t hd v).2 :: v.Htlcs.map Htlc.Amount)).2 = 0 := by
  have h1 := hr.a
  have h2 := hr.fee
  unfold rng at h1 h2
  have hall : ∀ x ∈ allOfV v, rng x := by
    intro x hx
    unfold allOfV at hx
    rcases List.mem_cons.1 hx with rfl | hx
    · exact hr.a
    · rcases List.mem_cons.1 hx with rfl | hx
      · exact hr.b
      · obtain ⟨h, hh, rfl⟩ := List.mem_map.1 hx
        exact hr.am h hh
  obtain ⟨s1, s2, s3⟩ := sum_all hall hz
  obtain ⟨o1, o2, o3, o4⟩ := own_its t hd v hA hB (by omega) hf (by omega)
  have hn : ∀ x ∈ (ownIts t hd v).1 :: (ownIts t hd v).2 :: v.Htlcs.map Htlc.Amount, 0 ≤ x := by
    intro x hx
    rcases List.mem_cons.1 hx with rfl | hx
    · exact o1
    · rcases List.mem_cons.1 hx with rfl | hx
      · exact o2
      · exact s3 x (by unfold allOfV; simp only [List.mem_cons]; exact .inr (.inr hx))
  unfold sum
  rw [show ((ownIts t hd v).1 :: (ownIts t hd v).2 :: v.Htlcs.map Htlc.Amount).any (fun x => decide (x < 0)) = false by
    rw [List.any_eq_false]
    intro x hx
    have := hn x hx
    simp; omega]
  simp only [cond_false]
  rw [sumGo_mk _ 0 (by omega) hn (by
    unfold allOfV at s2
    simp only [List.sum_cons] at s2 ⊢
    omega)]

theorem comAll_pok {t : Terms} {hd : Int} {p : List Int} {v : View} (h0 : 0 ≤ hd ∧ hd < 8) (h1 : 0 ≤ other t hd ∧ other t hd < 8) (hdl : 1 ≤ t.Delay ∧ t.Delay ≤ 1000) (he : ∀ h ∈ v.Htlcs, c2 h = false) : ∀ o ∈ v.Htlcs.map (comOut t hd (other t hd) p), three o := by
  intro o ho
  obtain ⟨h, hh, rfl⟩ := List.mem_map.1 ho
  have hx : 0 ≤ h.Expiry ∧ h.Expiry ≤ 2147483647 := by
    have := he h hh
    simp [c2, within] at this
    omega
  cases hc : (h.By == hd) with
  | true =>
    rw [com_out1 t hd (other t hd) p h hc]
    exact ⟨_, _, _, rfl, by simp [pOk]; omega, by simp [pOk]; omega, by simp [pOk]; omega⟩
  | false =>
    rw [com_out2 t hd (other t hd) p h hc]
    exact ⟨_, _, _, rfl, by simp [pOk]; omega, by simp [pOk]; omega, by simp [pOk]; omega⟩

theorem may_out {t : Terms} (h : may t = true) : 0 ≤ t.Fund.Out := by
  unfold may at h
  cases h0 : (!within t.Channel 1 65535 || decide (t.A < 0) || decide (t.A ≥ t.B) || decide (t.B ≥ 8) || decide (t.Fund.Out < 0)) with
  | true => rw [h0] at h; cases h
  | false =>
    simp only [Bool.or_eq_false_iff, decide_eq_false_iff_not] at h0
    omega

/-- Where the commitment may be, the chain may take it. -/
theorem dc_may {t : Terms} {hd : Int} {p : List Int} {v : View} (hr : Ranges t v) (hb : comBad t hd p v = false) : PCall Try.prog 27 [i64 8, txT t.Fund v.Htlcs.isEmpty (comAll t hd p v)] [.bool true] ∧ rcomAll t hd p v = (comAll t hd p v).map setX := by
  obtain ⟨hf, ho⟩ := comBad_false hb
  obtain ⟨hm, hgo, hz, _⟩ := fits_go hf
  have mm := may_more hr hm
  have hall : ∀ x ∈ allOfV v, rng x := by
    intro x hx
    unfold allOfV at hx
    rcases List.mem_cons.1 hx with rfl | hx
    · exact hr.a
    · rcases List.mem_cons.1 hx with rfl | hx
      · exact hr.b
      · obtain ⟨h, hh, rfl⟩ := List.mem_map.1 hx
        exact hr.am h hh
  obtain ⟨s1, s2, s3⟩ := sum_all hall hz
  have hA : 0 ≤ v.A := s3 _ (by simp [allOfV])
  have hB : 0 ≤ v.B := s3 _ (by simp [allOfV])
  have hfee : 0 ≤ t.Fee := mm.2.2.2.2.2.1
  refine ⟨?_, rcomAll_eq hr hd p hA hfee⟩
  obtain ⟨r1, r2⟩ := hd_range mm.2.1 mm.1 mm.2.2.1 ho
  have hlen := fits_len hf
  have hs := csum_ok (ownIts t hd v).1 (ownIts t hd v).2 ⟨hd, 0, false, 0, t.Delay, zeros⟩ ⟨other t hd, 0, false, 0, 0, p⟩ ⟨other t hd, 0, false, 0, 0, zeros⟩ false true v.Htlcs.isEmpty (v.Htlcs.map (comOut t hd (other t hd) p)) (by simp; omega) (by simp [pOk]; omega) (by simp [pOk]; omega) (by simp [pOk]; omega) (comAll_pok r1 r2 ⟨mm.2.2.2.1, mm.2.2.2.2.1⟩ (fitGo_each t v.Htlcs none hgo)) (by
    have e : (v.Htlcs.map (comOut t hd (other t hd) p)).map Out.Amount = v.Htlcs.map Htlc.Amount := by
      rw [List.map_map]
      apply List.map_congr_left
      intro h _
      exact (comOut_amount t hd (other t hd) p h).1
    rw [e]
    exact dc_sum hr hA hB hfee hz)
  exact cmay_ok t.Fund _ _ _ hs (may_out hm)

end Go.HM.Deal
