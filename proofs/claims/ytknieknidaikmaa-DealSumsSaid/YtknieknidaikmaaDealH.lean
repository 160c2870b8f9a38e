/- DEAL, part H: DealSums: true. -/
import Derived.Test.YtknieknidaikmaaDealV
import Derived.Test.YtknieknidaikmaaDealG
namespace Go.HM.Deal
open Go.Proofs

def rng (n : Int) : Prop := -9223372036854775808 ≤ n ∧ n ≤ 9223372036854775807

theorem add_spec {a b : Int} (h0 : 0 ≤ a) (h1 : a ≤ 9223372036854775807) (hb : rng b) (h : (!((add a b).2 == 0)) = false) : 0 ≤ b ∧ a + b ≤ 9223372036854775807 ∧ (add a b).1 = a + b := by
  unfold rng at hb
  unfold add at h ⊢
  cases c1 : (decide (a < 0) || decide (b < 0)) with
  | true => rw [c1] at h; cases h
  | false =>
    rw [c1] at h
    simp only [Bool.or_eq_false_iff, decide_eq_false_iff_not] at c1
    rw [wrap64 (x := 9223372036854775807 - b) (by omega) (by omega)] at h ⊢
    cases c2 : decide (a > 9223372036854775807 - b) with
    | true => rw [c2] at h; cases h
    | false =>
      simp only [decide_eq_false_iff_not] at c2
      simp only [cond_false]
      rw [wrap64 (by omega) (by omega)]
      exact ⟨by omega, by omega, rfl⟩

theorem add_mk {a b : Int} (h0 : 0 ≤ a) (hb : 0 ≤ b) (h : a + b ≤ 9223372036854775807) : add a b = (a + b, 0) := by
  unfold add
  rw [show (decide (a < 0) || decide (b < 0)) = false by simp; omega]
  rw [wrap64 (x := 9223372036854775807 - b) (by omega) (by omega)]
  rw [show decide (a > 9223372036854775807 - b) = false by simp; omega]
  rw [wrap64 (by omega) (by omega)]
  rfl

theorem sumGo_spec : ∀ (l : List Int) (s S : Int), 0 ≤ s → s ≤ 9223372036854775807 → (∀ x ∈ l, rng x) → sumGo l s = (S, 0) → S = s + l.sum ∧ S ≤ 9223372036854775807 ∧ ∀ x ∈ l, 0 ≤ x
  | [], s, S, h0, h1, _, h => by
    simp only [sumGo, Prod.mk.injEq] at h
    simp [← h.1, h1]
  | x :: l, s, S, h0, h1, hr, h => by
    simp only [sumGo] at h
    cases hc : (!((add s x).2 == 0)) with
    | true =>
      rw [hc] at h
      simp only [cond_true, Prod.mk.injEq] at h
      rw [h.2] at hc; cases hc
    | false =>
      rw [hc] at h
      obtain ⟨a1, a2, a3⟩ := add_spec h0 h1 (hr x (by simp)) hc
      rw [a3] at h
      obtain ⟨b1, b2, b3⟩ := sumGo_spec l (s + x) S (by omega) a2 (fun y hy => hr y (by simp [hy])) h
      refine ⟨by rw [b1, List.sum_cons]; omega, b2, fun y hy => ?_⟩
      rcases List.mem_cons.1 hy with rfl | hy
      · exact a1
      · exact b3 y hy

theorem sum_nonneg : ∀ (l : List Int), (∀ x ∈ l, 0 ≤ x) → 0 ≤ l.sum
  | [], _ => by simp
  | x :: l, h => by
    have := h x (by simp)
    have := sum_nonneg l (fun y hy => h y (by simp [hy]))
    rw [List.sum_cons]; omega

theorem sumGo_mk : ∀ (l : List Int) (s : Int), 0 ≤ s → (∀ x ∈ l, 0 ≤ x) → s + l.sum ≤ 9223372036854775807 → sumGo l s = (s + l.sum, 0)
  | [], s, _, _, _ => by simp [sumGo]
  | x :: l, s, h0, hp, h => by
    have hx := hp x (by simp)
    have hl := sum_nonneg l (fun y hy => hp y (by simp [hy]))
    rw [List.sum_cons] at h ⊢
    simp only [sumGo]
    rw [add_mk h0 hx (by omega)]
    simp only [beq_self_eq_true, Bool.not_true, cond_false]
    rw [sumGo_mk l (s + x) (by omega) (fun y hy => hp y (by simp [hy])) (by omega)]
    congr 1; omega

structure Ranges (t : Terms) (v : View) : Prop where
  sa : rng t.StartA
  sb : rng t.StartB
  fee : rng t.Fee
  a : rng v.A
  b : rng v.B
  am : ∀ h ∈ v.Htlcs, rng h.Amount

theorem sum_all {l : List Int} (hr : ∀ x ∈ l, rng x) (h : (sum l).2 = 0) : (sum l).1 = l.sum ∧ l.sum ≤ 9223372036854775807 ∧ ∀ x ∈ l, 0 ≤ x := by
  unfold sum at h ⊢
  cases hc : l.any (fun x => decide (x < 0)) with
  | true => rw [hc] at h; cases h
  | false =>
    rw [hc] at h
    simp only [cond_false] at h ⊢
    have e : sumGo l 0 = ((sumGo l 0).1, 0) := Prod.ext rfl h
    obtain ⟨a, b, c⟩ := sumGo_spec l 0 _ (by omega) (by omega) hr e
    exact ⟨by omega, by omega, c⟩

theorem may_more {t : Terms} {v : View} (hr : Ranges t v) (h : may t = true) :
    0 ≤ t.A ∧ t.A < t.B ∧ t.B < 8 ∧ 1 ≤ t.Delay ∧ t.Delay ≤ 1000 ∧ 0 ≤ t.Fee ∧ 0 ≤ t.StartA ∧ 0 ≤ t.StartB ∧ t.StartA + t.StartB ≤ 9223372036854775807 := by
  unfold may at h
  cases h0 : (!within t.Channel 1 65535 || decide (t.A < 0) || decide (t.A ≥ t.B) || decide (t.B ≥ 8) || decide (t.Fund.Out < 0)) with
  | true => rw [h0] at h; cases h
  | false =>
    rw [h0] at h
    cases h1 : (!within t.Delay 1 1000) with
    | true => rw [h1] at h; cases h
    | false =>
      rw [h1] at h
      cases h2 : (!within t.Slots 1 16) with
      | true => rw [h2] at h; cases h
      | false =>
        rw [h2] at h
        cases h3 : ((sum [t.Fee, t.Reserve]).2 == 1 || decide (t.Flight < 0)) with
        | true => rw [h3] at h; cases h
        | false =>
          rw [h3] at h
          simp only [cond_false, beq_iff_eq] at h
          simp only [Bool.or_eq_false_iff, decide_eq_false_iff_not] at h0 h3
          have hd : 1 ≤ t.Delay ∧ t.Delay ≤ 1000 := by
            simp [within] at h1
            omega
          have hf : 0 ≤ t.Fee := by
            have h4 := h3.1
            unfold sum at h4
            cases hc : [t.Fee, t.Reserve].any (fun x => decide (x < 0)) with
            | true => rw [hc] at h4; cases h4
            | false =>
              simp at hc
              omega
          have hs : 0 ≤ t.StartA ∧ 0 ≤ t.StartB ∧ t.StartA + t.StartB ≤ 9223372036854775807 := by
            have hsa := hr.sa
            unfold rng at hsa
            by_cases q : 0 ≤ t.StartA
            · have := add_spec q hsa.2 hr.sb (by rw [h]; rfl)
              omega
            · exfalso
              unfold add at h
              rw [show (decide (t.StartA < 0) || decide (t.StartB < 0)) = true by simp; omega] at h
              cases h
          omega

theorem own_its (t : Terms) (hd : Int) (v : View) (hA : 0 ≤ v.A) (hB : 0 ≤ v.B) (hA2 : v.A ≤ 9223372036854775807) (hf : 0 ≤ t.Fee) (hf2 : t.Fee ≤ 9223372036854775807) :
    0 ≤ (ownIts t hd v).1 ∧ 0 ≤ (ownIts t hd v).2 ∧ (ownIts t hd v).1 + (ownIts t hd v).2 ≤ v.A + v.B ∧ v.A + v.B ≤ (ownIts t hd v).1 + (ownIts t hd v).2 + t.Fee := by
  have hw : IntKind.i64.wrap (v.A - t.Fee) = v.A - t.Fee := wrap64 (by omega) (by omega)
  have hm : mx0 (v.A - t.Fee) = (if v.A - t.Fee < 0 then 0 else v.A - t.Fee) := rfl
  unfold ownIts
  rw [hw, hm]
  cases hd == t.B <;> simp only [cond_true, cond_false] <;> split <;> omega

theorem comAll_sum (t : Terms) (hd : Int) (p : List Int) (v : View) : (comAll t hd p v).map Out.Amount = (ownIts t hd v).1 :: (ownIts t hd v).2 :: v.Htlcs.map Htlc.Amount := by
  unfold comAll comOuts
  simp only [List.map_append, List.map_cons, List.map_nil, List.map_map, List.cons_append, List.nil_append]
  congr 2
  apply List.map_congr_left
  intro h _
  exact (comOut_amount t hd (other t hd) p h).1

theorem fitGo_each (t : Terms) : ∀ (l : List Htlc) (y : Option Htlc), fitGo t y l = true → ∀ h ∈ l, c2 h = false
  | [], y, _ => by simp
  | h :: r, y, hf => by
    simp only [fitGo] at hf
    cases h1 : c1 t h with
    | true => rw [h1] at hf; cases hf
    | false =>
      cases h2 : c2 h with
      | true => rw [h1, h2] at hf; cases hf
      | false =>
        rw [h1, h2] at hf
        simp only [cond_false] at hf
        have key : fitGo t (some h) r = true := by
          cases y with
          | none => exact hf
          | some y0 =>
            simp only at hf
            cases h3 : c3 y0 h with
            | true => rw [h3] at hf; cases hf
            | false => rw [h3] at hf; exact hf
        intro z hz
        rcases List.mem_cons.1 hz with rfl | hz
        · exact h2
        · exact fitGo_each t r (some h) key z hz

theorem pathOk_mk {q : Path} (h1 : 0 ≤ q.A) (h2 : q.A < 8) (h3 : q.B = 0) (h4 : 0 ≤ q.Height) (h5 : q.Height ≤ 2147483647) (h6 : 0 ≤ q.Delay) (h7 : q.Delay ≤ 2147483647) : pathOk 8 q = true := by
  unfold pathOk
  simp [h3]
  omega

theorem comAll_good {t : Terms} {hd : Int} {p : List Int} {v : View} (h0 : 0 ≤ hd ∧ hd < 8) (h1 : 0 ≤ other t hd ∧ other t hd < 8) (hdl : 1 ≤ t.Delay ∧ t.Delay ≤ 1000) (he : ∀ h ∈ v.Htlcs, c2 h = false) :
    ∀ u ∈ comAll t hd p v, goodOut 8 u := by
  intro u hu
  unfold comAll comOuts at hu
  rcases List.mem_append.1 hu with hu | hu
  · simp only [List.mem_cons, List.not_mem_nil, or_false] at hu
    rcases hu with rfl | rfl
    · refine ⟨by simp [rev], by simp [rev], fun q hq => ?_⟩
      simp only [rev, List.mem_append, List.mem_cons, List.not_mem_nil, or_false] at hq
      rcases hq with rfl | rfl <;> apply pathOk_mk <;> simp <;> omega
    · refine ⟨by simp, by simp, fun q hq => ?_⟩
      simp only [List.mem_cons, List.not_mem_nil, or_false] at hq
      subst hq
      apply pathOk_mk <;> simp <;> omega
  · obtain ⟨h, hh, rfl⟩ := List.mem_map.1 hu
    have hx : 0 ≤ h.Expiry ∧ h.Expiry ≤ 2147483647 := by
      have := he h hh
      simp [c2, within] at this
      omega
    cases hc : (h.By == hd) with
    | true =>
      rw [com_out1 t hd (other t hd) p h hc]
      refine ⟨by simp [rev], by simp [rev], fun q hq => ?_⟩
      simp only [rev, List.mem_append, List.mem_cons, List.not_mem_nil, or_false] at hq
      rcases hq with (rfl | rfl) | rfl <;> apply pathOk_mk <;> simp <;> omega
    | false =>
      rw [com_out2 t hd (other t hd) p h hc]
      refine ⟨by simp [rev], by simp [rev], fun q hq => ?_⟩
      simp only [rev, List.mem_append, List.mem_cons, List.not_mem_nil, or_false] at hq
      rcases hq with (rfl | rfl) | rfl <;> apply pathOk_mk <;> simp <;> omega

theorem hd_range {t : Terms} {hd : Int} (h : t.A < t.B) (h0 : 0 ≤ t.A) (h8 : t.B < 8) (ho : (other t hd == -1) = false) : (0 ≤ hd ∧ hd < 8) ∧ (0 ≤ other t hd ∧ other t hd < 8) := by
  by_cases a : hd = t.A
  · subst a; rw [other_A]; omega
  · by_cases b : hd = t.B
    · subst b; rw [other_B t h]; omega
    · exfalso
      unfold other at ho
      rw [show (hd == t.A) = false from beq_eq_false_iff_ne.2 a, show (hd == t.B) = false from beq_eq_false_iff_ne.2 b] at ho
      cases ho

/-- DealSums -/
theorem dealSums_ok (t : Terms) (hd : Int) (p : List Int) (v : View) (f : Bool) (hr : Ranges t v) : PCall Try.prog 3 [t.t, i64 hd, .ba 32 p, v.t f] [.bool true] := by
  have hc := commit_ok t hd p v f
  unfold commit at hc
  cases hb : comBad t hd p v with
  | true =>
    rw [hb] at hc
    exact evF_sound Try.func3 (by rfl) (sm2_0 t hd p v f) ⟨lives_ok, rfl, lives_ok, hc, trivial⟩
  | false =>
    rw [hb] at hc
    obtain ⟨hf, ho⟩ := comBad_false hb
    have hl := fits_len hf
    obtain ⟨hm, hg, hs2, hs1⟩ := fits_go hf
    obtain ⟨m1, m2, m3, m4, m5, m6, m7, m8, m9⟩ := may_more hr hm
    obtain ⟨g1, g2⟩ := hd_range m2 m1 m3 ho
    have hall : ∀ x ∈ allOfV v, rng x := by
      intro x hx
      unfold allOfV at hx
      rcases List.mem_cons.1 hx with rfl | hx
      · exact hr.a
      · rcases List.mem_cons.1 hx with rfl | hx
        · exact hr.b
        · obtain ⟨h, hh, rfl⟩ := List.mem_map.1 hx
          exact hr.am h hh
    obtain ⟨s1, s2, s3⟩ := sum_all hall hs2
    rw [wrap64 (by omega) (by omega)] at hs1
    have hsum : (allOfV v).sum = v.A + (v.B + (v.Htlcs.map Htlc.Amount).sum) := by simp [allOfV]
    have hA := s3 v.A (by simp [allOfV])
    have hB := s3 v.B (by simp [allOfV])
    have hM := sum_nonneg (v.Htlcs.map Htlc.Amount) (fun x hx => s3 x (by unfold allOfV; simp only [List.mem_cons]; exact .inr (.inr hx)))
    have hfe := hr.fee
    have hra := hr.a
    unfold rng at hfe hra
    obtain ⟨o1, o2, o3, o4⟩ := own_its t hd v hA hB hra.2 m6 hfe.2
    have hS : sumGo ((comAll t hd p v).map Out.Amount) 0 = ((ownIts t hd v).1 + ((ownIts t hd v).2 + (v.Htlcs.map Htlc.Amount).sum), 0) := by
      rw [comAll_sum]
      rw [sumGo_mk _ 0 (by omega) (fun x hx => ?_) (by simp only [List.sum_cons]; omega)]
      · simp only [List.sum_cons]; congr 1; omega
      · rcases List.mem_cons.1 hx with rfl | hx
        · exact o1
        · rcases List.mem_cons.1 hx with rfl | hx
          · exact o2
          · exact s3 x (by unfold allOfV; simp only [List.mem_cons]; exact .inr (.inr hx))
    have hlen := comAll_len t hd p v
    have hout := outs_ok 8 v.Htlcs.isEmpty (comAll t hd p v) _ (by omega) (by omega) (comAll_good g1 g2 ⟨m4, m5⟩ (fitGo_each t v.Htlcs none hg)) hS
    have w1 : IntKind.i64.wrap (t.StartA + t.StartB) = t.StartA + t.StartB := wrap64 (by omega) (by omega)
    have h := evF_sound Try.func3 (by rfl) (sm1_0 t hd p v f v.Htlcs.isEmpty (comAll t hd p v) _)
      ⟨by rw [w1, wrap64 (by simp; omega) (by simp; omega)]; simp [hlen]; omega, hout, rfl, lives_ok, hc, trivial⟩
    rw [w1, wrap64 (x := t.StartA + t.StartB - t.Fee) (by omega) (by omega)] at h
    have hfin : (decide (t.Fee > t.StartA + t.StartB) || decide ((ownIts t hd v).1 + ((ownIts t hd v).2 + (v.Htlcs.map Htlc.Amount).sum) ≥ t.StartA + t.StartB - t.Fee)) = true := by
      simp; omega
    rw [hfin] at h
    exact h

end Go.HM.Deal
