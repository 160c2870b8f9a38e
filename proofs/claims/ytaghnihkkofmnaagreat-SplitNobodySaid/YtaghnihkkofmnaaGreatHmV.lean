/- HM, part V: a region whose order is drawn comes to what its text's order comes to. -/
import Derived.Test.YtaghnihkkofmnaaGreatHmU
namespace Go.HM

variable {P : Program} {U : Nat → Nat → Prop} {κ : List Place} {s : List SObj} {w : World} {ok : Nat → Nat → Prop}

/-- The steps of a run in the text's order. -/
structure Trace (P : Program) (ops : Array Oper) (n : Nat) (k m : Nat) (t : Nat → List (Nat × V)) (s : Nat → List SObj) (v : Nat → V) : Prop where
  step : ∀ i, k ≤ i → i < k + m → ∃ o, ops[i]? = some o ∧ StepF P ops o (t i) (s i) (v i) (s (i + 1)) ∧ setDst ⟨n, t i, s (i + 1)⟩ o.dst (v i) = some ⟨n, t (i + 1), s (i + 1)⟩

theorem setDst_n {st st' : St} {d : Option Nat} {v : V} (h : setDst st d v = some st') : st'.n = st.n := by
  unfold setDst at h
  split at h
  · injection h with h; rw [h]
  · split at h
    · injection h with h; rw [← h]
    · cases h

theorem trace_of_run {rid : Nat} {ops : Array Oper} : ∀ (m k : Nat) {r r' : Run}, evOps P rid ops (List.range' k m) r = some r' → allOf r'.obs →
    ∃ t s v, Trace P ops r.st.n k m t s v ∧ t k = r.st.t ∧ s k = r.st.s ∧ r'.st = ⟨r.st.n, t (k + m), s (k + m)⟩
  | 0, k, r, r', h, ho => by
    simp only [List.range'_zero, evOps, Option.some.injEq] at h
    subst h
    exact ⟨fun _ => r.st.t, fun _ => r.st.s, fun _ => .bad, ⟨fun i a b => by omega⟩, rfl, rfl, rfl⟩
  | m + 1, k, r, r', h, ho => by
    rw [List.range'_succ] at h
    simp only [evOps] at h
    split at h
    · rename_i r1 h1
      have ho1 := evOps_obs h ho
      obtain ⟨o, v0, s0, a1, a2, a3⟩ := stepOp_F h1 ho1
      obtain ⟨t, s, v, b1, b2, b3, b4⟩ := trace_of_run m (k + 1) h ho
      have hn := setDst_n a3
      have hs0 := setDst_s a3
      simp only at hn hs0
      refine ⟨fun i => if i = k then r.st.t else t i, fun i => if i = k then r.st.s else s i, fun i => if i = k then v0 else v i, ⟨fun i hi1 hi2 => ?_⟩, by simp, by simp, ?_⟩
      · by_cases hik : i = k
        · subst hik
          refine ⟨o, a1, ?_, ?_⟩
          · simp only [if_true, show ¬ (i + 1 = i) by omega, if_false, b3, hs0]; exact a2
          · simp only [if_true, show ¬ (i + 1 = i) by omega, if_false, b2, b3, hs0]
            have e1 : r1.st = ⟨r.st.n, r1.st.t, s0⟩ := by rw [← hn, ← hs0]
            rw [← e1]; exact a3
        · obtain ⟨o', c1, c2, c3⟩ := b1.step i (by omega) (by omega)
          refine ⟨o', c1, ?_, ?_⟩
          · simp only [hik, show ¬ (i + 1 = k) by omega, if_false]; exact c2
          · simp only [hik, show ¬ (i + 1 = k) by omega, if_false]; rw [← hn]; exact c3
      · rw [b4, hn]
        simp only [show ¬ (k + (m + 1) = k) by omega, if_false]
        rw [show k + 1 + m = k + (m + 1) by omega]
    · cases h

theorem stepF_still {ops : Array Oper} {o : Oper} {t : List (Nat × V)} {s s1 : List SObj} {v : V} (h : StepF P ops o t s v s1) (ht : touch o.op < 2) : s1 = s := by
  cases h with
  | skip => rfl
  | run hg hq _ _ => exact hopC_still ht hq
  | told hg hq _ _ => exact hopC_still ht hq
  | spec => rfl

theorem touch_le (o : Oper) : touch o.op ≤ 2 := by
  obtain ⟨dst, op, type, pos, after, guard⟩ := o
  cases op <;> simp [touch]
  all_goals (first | (split <;> simp; done) | (split <;> first | simp | (split <;> simp)))

theorem stepF_wh {ops : Array Oper} {o : Oper} {t : List (Nat × V)} {s s1 : List SObj} {d : Nat} {want : Bool} {u : V} (h : StepF P ops o t s (.wh d want u) s1) : ∃ g b og, o.guard = some (g, b) ∧ ops[g]? = some og ∧ og.dst = some d := by
  generalize hv : V.wh d want u = v at h
  cases h with
  | skip => cases hv
  | run hg hq _ hnw => rw [← hv] at hnw; cases hnw
  | told => cases hv
  | spec hg hq hdst hp ht =>
    injection hv with h1 h2 h3
    subst h1 h2 h3
    unfold guardOf at hg
    split at hg
    · cases hg
    · rename_i j want' e
      split at hg
      · rename_i d' hd
        split at hg
        · split at hg <;> cases hg
        · injection hg with hg; injection hg with hg; injection hg with hg; injection hg with g1 g2
          subst g1
          simp only [Option.bind_eq_some_iff] at hd
          obtain ⟨og, h1, h2⟩ := hd
          exact ⟨j, want', og, e, h1, h2⟩
        · cases hg
        · cases hg
      · cases hg

/-- The slots of a run in the text's order. -/
theorem trace_get {ops : Array Oper} {anc : Nat → Nat → Prop} (hI : Indep ops anc) {n m : Nat} {t : Nat → List (Nat × V)} {s : Nat → List SObj} {v : Nat → V} (hT : Trace P ops n 0 m t s v) (h0 : ∀ x d want u, getT (t 0) x ≠ some (.wh d want u)) :
    ∀ i, i ≤ m → (∀ x d want u, getT (t i) x = some (.wh d want u) → ∃ j o, j < i ∧ ops[j]? = some o ∧ o.dst = some d) ∧
      (∀ x j o, j < i → ops[j]? = some o → o.dst = some x → getT (t i) x = some (v j)) ∧ (∀ x, (∀ j o, j < i → ops[j]? = some o → o.dst ≠ some x) → getT (t i) x = getT (t 0) x)
  | 0, _ => ⟨fun x d want u h => absurd h (h0 x d want u), fun x j o h => by omega, fun x _ => rfl⟩
  | i + 1, hi => by
    obtain ⟨w1, w2, w3⟩ := trace_get hI hT h0 i (by omega)
    obtain ⟨o, a1, a2, a3⟩ := hT.step i (Nat.zero_le _) (by omega)
    have hget := (setDst_get (st := ⟨n, t i, s (i + 1)⟩) (s' := s (i + 1)) a3 (fun x dd want u hd hw => by
      obtain ⟨j, oj, j1, j2, j3⟩ := w1 x dd want u hw
      exact hI.dst i j o oj dd (by omega) a1 j2 hd j3)).2.2
    simp only at hget
    refine ⟨fun x d want u hx => ?_, fun x j oj hj ho hd => ?_, fun x hx => ?_⟩
    · rw [hget] at hx
      split at hx
      · injection hx with hx
        rw [hx] at a2
        obtain ⟨g, b, og, g1, g2, g3⟩ := stepF_wh a2
        exact ⟨g, og, by have := hI.guard i o g b a1 g1; omega, g2, g3⟩
      · obtain ⟨j, oj, j1, j2, j3⟩ := w1 x d want u hx
        exact ⟨j, oj, by omega, j2, j3⟩
    · rw [hget]
      by_cases hji : j = i
      · subst hji
        rw [a1] at ho; injection ho with ho; subst ho
        simp [hd]
      · have : o.dst ≠ some x := fun e => hI.dst i j o oj x (by omega) a1 ho e hd
        simp [this]
        exact w2 x j oj (by omega) ho hd
    · rw [hget, if_neg (hx i o (by omega) a1)]
      exact w3 x (fun j oj hj => hx j oj (by omega))

def Lst (listed : Array Bool) (k : Nat) : Prop := listed.getD k false = true

structure Inv (P : Program) (ops : Array Oper) (t : Nat → List (Nat × V)) (s : Nat → List SObj) (v : Nat → V) (listed : Array Bool) (st : St) : Prop where
  size : listed.size = ops.size
  down : ∀ k o e, Lst listed k → ops[k]? = some o → e ∈ o.after → Region.binds .any e = true → Lst listed e.on
  wh : ∀ x d want u, getT st.t x = some (.wh d want u) → ∃ j o, Lst listed j ∧ ops[j]? = some o ∧ o.dst = some d
  put : ∀ x j o, Lst listed j → ops[j]? = some o → o.dst = some x → getT st.t x = some (v j)
  old : ∀ x, (∀ j o, Lst listed j → ops[j]? = some o → o.dst ≠ some x) → getT st.t x = getT (t 0) x
  store : ∀ m, m ≤ ops.size → (∀ k o, ops[k]? = some o → touch o.op = 2 → (Lst listed k ↔ k < m)) → st.s = s m

theorem lst_lt {listed : Array Bool} {k : Nat} (h : Lst listed k) : k < listed.size := by
  unfold Lst at h
  rcases Nat.lt_or_ge k listed.size with q | q
  · exact q
  · simp [Array.getD, Nat.not_lt.2 q] at h

theorem lst_set {listed : Array Bool} {i k : Nat} (hi : i < listed.size) : Lst (listed.setIfInBounds i true) k ↔ k = i ∨ Lst listed k := by
  unfold Lst
  by_cases hk : k = i
  · subst hk; simp [Array.getD, hi]
  · simp only [Array.getD_eq_getD_getElem?, Array.getElem?_setIfInBounds_ne (Ne.symm hk), hk, false_or]

theorem ready_iff {ops : Array Oper} {listed : Array Bool} (hsz : listed.size = ops.size) {i : Nat} : i ∈ Region.ready .any ops listed ↔ ∃ o, ops[i]? = some o ∧ ¬ Lst listed i ∧ ∀ e ∈ o.after, Region.binds .any e = true → Lst listed e.on := by
  unfold Region.ready
  simp only [List.mem_filter, List.mem_range, Bool.and_eq_true, Bool.not_eq_true']
  constructor
  · rintro ⟨h1, h2, h3⟩
    have ho : ops[i]? = some ops[i] := Array.getElem?_eq_getElem h1
    rw [ho] at h3
    simp only [Option.map_some, Option.getD_some, Array.all_eq_true', Bool.or_eq_true, Bool.not_eq_true'] at h3
    refine ⟨ops[i], ho, fun hL => ?_, fun e he hb => ?_⟩
    · unfold Lst at hL
      have hi2 : i < listed.size := by omega
      simp [Array.getD, hi2] at hL h2
      rw [hL] at h2; cases h2
    · rcases h3 e he with q | q
      · rw [hb] at q; cases q
      · exact q
  · rintro ⟨o, ho, h2, h3⟩
    have h1 : i < ops.size := by
      rcases Nat.lt_or_ge i ops.size with q | q
      · exact q
      · simp [Array.getElem?_eq_none q] at ho
    refine ⟨h1, ?_, ?_⟩
    · have hi2 : i < listed.size := by omega
      unfold Lst at h2
      simp [Array.getD, hi2] at h2 ⊢
      exact h2
    · rw [ho]
      simp only [Option.map_some, Option.getD_some, Array.all_eq_true', Bool.or_eq_true, Bool.not_eq_true']
      intro e he
      cases hb : Region.binds .any e
      · exact .inl rfl
      · exact .inr (h3 e he hb)

end Go.HM
