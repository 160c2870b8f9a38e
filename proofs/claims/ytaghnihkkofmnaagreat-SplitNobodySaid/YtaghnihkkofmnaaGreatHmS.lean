/- HM, part S: one step of a region; a region in its text's order. -/
import Derived.Test.YtaghnihkkofmnaaGreatHmR
namespace Go.HM

variable {P : Program} {U : Nat → Nat → Prop} {κ : List Place} {s : List SObj} {w : World} {ok : Nat → Nat → Prop}

theorem setDst_s {st st' : St} {d : Option Nat} {v : V} (h : setDst st d v = some st') : st'.s = st.s := by
  unfold setDst at h
  split at h
  · injection h with h; rw [h]
  · split at h
    · injection h with h; rw [← h]
    · cases h

theorem setDst_bad {st : St} {a : Act} (h : Rel U κ st a w) {d : Option Nat} {st' : St} {x : Value} (hs : setDst st d .bad = some st') : Rel U κ st' (a.put d x) w := by
  have : ({ st with s := st.s } : St) = st := rfl
  exact setDst_rel (st := st) (s' := st.s) h hs (.inl rfl)

/-- What the step leaves owed includes what was. -/
theorem resolve1_obs {rid idx : Nat} {v v' : V} {orc os : List Orc} {obs obs' : List Prop} (h : resolve1 rid idx v orc obs = some (v', os, obs')) (ha : allOf obs') : allOf obs := by
  unfold resolve1 at h
  split at h
  · split at h
    · injection h with h; injection h with h1 h2; injection h2 with h2 h3; subst h3; exact ha.2
    · injection h with h; injection h with h1 h2; injection h2 with h2 h3; subst h3; exact ha
    · cases h
  · injection h with h; injection h with h1 h2; injection h2 with h2 h3; subst h3; exact ha

theorem stepOp_obs {rid : Nat} {ops : Array Oper} {i : Nat} {r r' : Run} (h : stepOp P rid ops i r = some r') (ha : allOf r'.obs) : allOf r.obs := by
  unfold stepOp at h
  split at h
  · cases h
  · rename_i o ho
    split at h
    · simp only [Option.map_eq_some_iff] at h
      obtain ⟨st, _, rfl⟩ := h
      exact ha
    · split at h
      rename_i it os hnx
      split at h
      · rename_i q hq
        split at h
        · rename_i v os' obs' hr
          split at h
          · cases h
          split at h
          · injection h with h; subst h
            have : allOf (q.obs ++ r.obs) := by
              split at hr <;> exact resolve1_obs hr ha
            exact (allOf_append.1 this).2
          · cases h
        · cases h
      · cases h
    · split at h
      · split at h
        · simp only [Option.map_eq_some_iff] at h
          obtain ⟨st, _, rfl⟩ := h
          exact ha
        · cases h
      · cases h
    · cases h

/-- ONE STEP. -/
theorem step_sound {rid : Nat} {ops : Array Oper} {i : Nat} {r r' : Run} (hs : stepOp P rid ops i r = some r') (hobs : allOf r'.obs) {a : Act} (h : Rel U κ r.st a w) {Q : Exit → Act → World → Prop} :
    wpOp P ops Q i (fun a' w' => ∃ κ', Rel U κ' r'.st a' w' ∧ Step U κ w κ' w') a w := by
  unfold stepOp at hs
  split at hs
  · cases hs
  · rename_i o ho
    unfold wpOp
    rw [ho]
    simp only
    split at hs
    · rename_i hg
      have hw := guard_spec h hg
      simp only at hw
      rw [hw]
      simp only [Bool.false_eq_true, if_false]
      simp only [Option.map_eq_some_iff] at hs
      obtain ⟨st, hst, rfl⟩ := hs
      exact ⟨κ, setDst_rel (s' := r.st.s) (x := undef) h hst (.inr ⟨[], rfl, .nil⟩), .refl _ _ _⟩
    · rename_i hg
      have hw := guard_spec h hg
      simp only at hw
      rw [hw]
      simp only [if_true]
      left
      split at hs
      rename_i it os hnx
      split at hs
      · rename_i q hq
        split at hs
        · rename_i v os' obs' hr
          split at hs
          · cases hs
          split at hs
          · rename_i st' hst
            injection hs with hs; subst hs
            have hall : allOf (q.obs ++ r.obs) := by split at hr <;> exact resolve1_obs hr hobs
            have hq' : ∃ it', hopC P r.st.t r.st.s none o it' = some q := by split at hq <;> exact ⟨_, hq⟩
            obtain ⟨it', hq'⟩ := hq'
            refine hopC_wp h (g := none) (fun _ _ e => by cases e) hq' (allOf_mem (allOf_append.1 hall).1) (fun x w' κ' hv hrel hstep => ?_)
            refine ⟨κ', setDst_rel hrel hst ?_, hstep⟩
            rcases hv with hv | hv
            · right; split at hr <;> exact (resolve1_spec hr hobs hv).2
            · left; rw [hv] at hr; split at hr <;> exact (resolve1_bad hr).1
          · cases hs
        · cases hs
      · cases hs
    · rename_i d want hg
      obtain ⟨b, hb, hw⟩ := guard_spec h hg
      split at hs
      · rename_i v s' x hq hdst
        split at hs
        · rename_i hc
          simp only [Bool.and_eq_true, Nat.blt_eq] at hc
          have hs' := hop_still hc.2 hq
          simp only at hs'
          subst hs'
          simp only [Option.map_eq_some_iff] at hs
          obtain ⟨st', hst, rfl⟩ := hs
          have hput : ∀ (w' : World) (κ' : List Place) (y : Value), Rel U κ' r.st a w' → (b = want → VV U κ' r.st.s w' v y) → (b ≠ want → y = undef) → Rel U κ' st' (a.put o.dst y) w' := by
            intro w' κ' y hrel hv hund
            rw [hdst]
            unfold setDst at hst
            simp only at hst
            split at hst
            · rename_i hlt
              have hlt' : x < r.st.n := by simpa [Nat.blt_eq] using hlt
              injection hst with hst; subst hst
              refine hrel.put hlt' (fun hd => ⟨y, put_get_same (by rw [hrel.size]; exact hlt'), ?_⟩)
              by_cases hdx : d = x
              · subst hdx
                rw [put_get_same (by rw [hrel.size]; exact hlt')] at hd
                by_cases hbw : b = want
                · exact hv hbw
                · rw [hund hbw] at hd; simp [undef] at hd
              · rw [put_get_other hdx, hb] at hd
                injection hd with hd; injection hd with hd
                exact hv hd
            · cases hst
          by_cases hbw : b = want
          · subst hbw
            rw [hw]
            simp only [BEq.rfl, if_true]
            left
            obtain ⟨nx, w', κ', h1, h2, h3, h4, h5⟩ := hop_sound h (g := some (d, b)) (fun d' want' e => by injection e with e; injection e with e1 e2; subst e1 e2; exact hb) hq (by simp)
            have hrel := h.carry h3 h4 h5
            unfold Oper.wp
            rw [h1]
            rcases h2 with ⟨y, rfl, hv⟩ | ⟨rfl, hv⟩
            · exact ⟨κ', hput w' κ' y hrel (fun _ => hv) (fun e => absurd rfl e), h4⟩
            · simp only at hv; rw [hv] at hc; simp [okPart] at hc
          · have : (b == want) = false := by simpa using hbw
            rw [hw, this]
            simp only [Bool.false_eq_true, if_false]
            exact ⟨κ, hput w κ undef h (fun e => absurd e hbw) (fun _ => rfl), .refl _ _ _⟩
        · cases hs
      · cases hs
    · cases hs


/-- A region's operations in a row. -/
theorem evOps_sound {rid : Nat} {ops : Array Oper} {Q : Exit → Act → World → Prop} : ∀ {is : List Nat} {r r' : Run} {κ : List Place} {a : Act} {w : World}, evOps P rid ops is r = some r' → allOf r'.obs → Rel U κ r.st a w →
    (∀ κ' a' w', Rel U κ' r'.st a' w' → Step U κ w κ' w' → Q .normal a' w') → wpOps P ops Q is a w
  | [], r, r', κ, a, w, h, ho, hr, hQ => by
    simp only [evOps, Option.some.injEq] at h
    subst h
    exact hQ κ a w hr (.refl _ _ _)
  | i :: is, r, r', κ, a, w, h, ho, hr, hQ => by
    simp only [evOps] at h
    split at h
    · rename_i r1 h1
      have ho1 : allOf r1.obs := by
        have key : ∀ {is : List Nat} {r r' : Run}, evOps P rid ops is r = some r' → allOf r'.obs → allOf r.obs := by
          intro is
          induction is with
          | nil => intro r r' h ho; simp only [evOps, Option.some.injEq] at h; rw [h]; exact ho
          | cons j js ih =>
            intro r r' h ho
            simp only [evOps] at h
            split at h
            · rename_i r2 h2; exact stepOp_obs h2 (ih h ho)
            · cases h
        exact key h ho
      rw [wpOps_cons]
      refine wpOp_mono (fun a' w' hK => ?_) (step_sound h1 ho1 hr)
      obtain ⟨κ1, hr1, hs1⟩ := hK
      exact evOps_sound h ho hr1 (fun κ2 a2 w2 hr2 hs2 => hQ κ2 a2 w2 hr2 (hs1.trans hs2))
    · cases h

theorem evOps_obs {rid : Nat} {ops : Array Oper} : ∀ {is : List Nat} {r r' : Run}, evOps P rid ops is r = some r' → allOf r'.obs → allOf r.obs
  | [], r, r', h, ho => by simp only [evOps, Option.some.injEq] at h; rw [h]; exact ho
  | i :: is, r, r', h, ho => by
    simp only [evOps] at h
    split at h
    · rename_i r2 h2; exact stepOp_obs h2 (evOps_obs h ho)
    · cases h

end Go.HM
