/- HM, part W: the drawn region. -/
import Derived.Test.YtaghnihkkofmnaaGreatHmV
namespace Go.HM

variable {P : Program} {U : Nat → Nat → Prop} {κ : List Place} {s : List SObj} {w : World} {ok : Nat → Nat → Prop}

/-- Who is listed has all that it waits for. -/
theorem Inv.anc {ops : Array Oper} {anc : Nat → Nat → Prop} (hI : Indep ops anc) {t : Nat → List (Nat × V)} {s : Nat → List SObj} {v : Nat → V} {listed : Array Bool} {st : St} (h : Inv P ops t s v listed st) : ∀ k i, anc i k → Lst listed k → Lst listed i := by
  intro k
  induction k using Nat.strongRecOn with
  | _ k ih =>
    intro i hi hk
    obtain ⟨o, e, a1, a2, a3, a4⟩ := hI.up i k hi
    have he := h.down k o e hk a1 a2 a3
    rcases a4 with rfl | a4
    · exact he
    · exact ih e.on (hI.back k o e a1 a2 a3) i a4 he

theorem anc_ready {ops : Array Oper} {anc : Nat → Nat → Prop} (hI : Indep ops anc) {t : Nat → List (Nat × V)} {s : Nat → List SObj} {v : Nat → V} {listed : Array Bool} {st : St} (h : Inv P ops t s v listed st) {i : Nat} {o : Oper} (ho : ops[i]? = some o) (hr : ∀ e ∈ o.after, Region.binds .any e = true → Lst listed e.on) {j : Nat} (hj : anc j i) : Lst listed j := by
  obtain ⟨o', e, a1, a2, a3, a4⟩ := hI.up j i hj
  rw [ho] at a1; injection a1 with a1; subst a1
  have he := hr e a2 a3
  rcases a4 with rfl | a4
  · exact he
  · exact h.anc hI e.on j a4 he

theorem clash_rw {ops : Array Oper} {x y : Oper} {d : Nat} (hd : x.dst = some d) (hr : d ∈ reads ops y) : clash ops x y = true ∧ clash ops y x = true := by
  have := memN_iff.2 hr
  unfold clash
  simp [hd, this]

theorem clash_touch {ops : Array Oper} {x y : Oper} (hx : touch x.op = 2) (hy : touch y.op ≠ 0) : clash ops x y = true ∧ clash ops y x = true := by
  have : (touch y.op != 0) = true := by simpa using hy
  unfold clash
  simp [hx, this]

theorem store_const {ops : Array Oper} {n : Nat} {t : Nat → List (Nat × V)} {s : Nat → List SObj} {v : Nat → V} (hT : Trace P ops n 0 ops.size t s v) : ∀ d a, a + d ≤ ops.size → (∀ k o, a ≤ k → k < a + d → ops[k]? = some o → touch o.op ≠ 2) → s (a + d) = s a
  | 0, a, _, _ => rfl
  | d + 1, a, hle, h => by
    obtain ⟨o, a1, a2, a3⟩ := hT.step (a + d) (Nat.zero_le _) (by omega)
    have := stepF_still a2 (by have := touch_le o; have := h (a + d) o (by omega) (by omega) a1; omega)
    rw [show a + (d + 1) = a + d + 1 by omega, this]
    exact store_const hT d a (by omega) (fun k o h1 h2 => h k o h1 (by omega))

/-- One more operation, whichever is ready. -/
theorem inv_step {ops : Array Oper} {anc : Nat → Nat → Prop} (hI : Indep ops anc) {n : Nat} {t : Nat → List (Nat × V)} {s : Nat → List SObj} {v : Nat → V} (hT : Trace P ops n 0 ops.size t s v) (h0 : ∀ x d want u, getT (t 0) x ≠ some (.wh d want u))
    {listed : Array Bool} {st : St} (h : Inv P ops t s v listed st) (hn : st.n = n) {i : Nat} (hi : i ∈ Region.ready .any ops listed) :
    ∃ o s1 st', ops[i]? = some o ∧ StepF P ops o st.t st.s (v i) s1 ∧ setDst { st with s := s1 } o.dst (v i) = some st' ∧ st'.n = n ∧ Inv P ops t s v (listed.setIfInBounds i true) st' := by
  obtain ⟨o, ho, hnl, hr⟩ := (ready_iff h.size).1 hi
  have hilt : i < ops.size := by
    rcases Nat.lt_or_ge i ops.size with q | q
    · exact q
    · simp [Array.getElem?_eq_none q] at ho
  obtain ⟨o', a1, a2, a3⟩ := hT.step i (Nat.zero_le _) (by omega)
  rw [ho] at a1; injection a1 with a1; subst a1
  have hget := trace_get hI hT h0 i (by omega)
  have hanc : ∀ j, anc j i → Lst listed j := fun j hj => anc_ready hI h ho hr hj
  have hnanc : ∀ j, anc i j → ¬ Lst listed j := fun j hj hL => hnl (h.anc hI j i hj hL)
  -- the slots that it names
  have hagree : Agree (reads ops o) (t i) st.t := by
    intro x hx
    by_cases hw : ∃ (j : Nat) (oj : Oper), ops[j]? = some oj ∧ oj.dst = some x
    · obtain ⟨j, oj, hj, hjd⟩ := hw
      have huniq : ∀ j' o', ops[j']? = some o' → o'.dst = some x → j' = j := fun j' o' h1 h2 => by
        by_cases he : j' = j
        · exact he
        · exact absurd hjd (hI.dst j' j o' oj x he h1 hj h2)
      rcases Nat.lt_trichotomy j i with hlt | heq | hgt
      · have hL := hanc j (hI.clash j i oj o hlt hj ho (clash_rw hjd hx).1)
        rw [hget.2.1 x j oj hlt hj hjd, h.put x j oj hL hj hjd]
      · rw [hget.2.2 x (fun j' o' hlt' h1 h2 => by have := huniq j' o' h1 h2; omega), h.old x (fun j' o' hL h1 h2 => by have := huniq j' o' h1 h2; rw [this, heq] at hL; exact hnl hL)]
      · have hNL := hnanc j (hI.clash i j o oj hgt ho hj (clash_rw hjd hx).2)
        rw [hget.2.2 x (fun j' o' hlt' h1 h2 => by have := huniq j' o' h1 h2; omega), h.old x (fun j' o' hL h1 h2 => by have := huniq j' o' h1 h2; rw [this] at hL; exact hNL hL)]
    · rw [hget.2.2 x (fun j' o' _ h1 h2 => hw ⟨j', o', h1, h2⟩), h.old x (fun j' o' _ h1 h2 => hw ⟨j', o', h1, h2⟩)]
  -- the store
  have hstore : touch o.op ≠ 0 → s i = st.s := by
    intro ht
    refine (h.store i (by omega) (fun k ok hk hk2 => ?_)).symm
    rcases Nat.lt_trichotomy k i with hlt | heq | hgt
    · exact ⟨fun _ => hlt, fun _ => hanc k (hI.clash k i ok o hlt hk ho (clash_touch hk2 ht).1)⟩
    · subst heq; exact ⟨fun hL => absurd hL hnl, fun hlt => by omega⟩
    · exact ⟨fun hL => absurd hL (hnanc k (hI.clash i k o ok hgt ho hk (clash_touch hk2 ht).2)), fun hlt => by omega⟩
  have hF := a2.agree hagree hstore
  obtain ⟨st', hst'⟩ := setDst_ok (v' := v i) a3 (st2 := { st with s := if touch o.op = 2 then s (i + 1) else st.s }) hn
  have hnowh : ∀ x dd want u, o.dst = some dd → getT st.t x ≠ some (.wh dd want u) := fun x dd want u hd hw => by
    obtain ⟨j, oj, j1, j2, j3⟩ := h.wh x dd want u hw
    by_cases hji : j = i
    · rw [hji] at j1; exact hnl j1
    · exact hI.dst j i oj o dd hji j2 ho j3 hd
  obtain ⟨g1, g2, g3⟩ := setDst_get hst' hnowh
  have hisz : i < listed.size := by rw [h.size]; exact hilt
  refine ⟨o, _, st', ho, hF, hst', by rw [g1]; exact hn, ⟨by simp [h.size], fun k ok e hk hok he hb => ?_, fun x d want u hx => ?_, fun x j oj hj hoj hd => ?_, fun x hx => ?_, fun m hm hE => ?_⟩⟩
  · rw [lst_set hisz] at hk ⊢
    rcases hk with rfl | hk
    · rw [ho] at hok; injection hok with hok; subst hok
      exact .inr (hr e he hb)
    · exact .inr (h.down k ok e hk hok he hb)
  · rw [g3] at hx
    split at hx
    · injection hx with hx
      rw [hx] at a2
      obtain ⟨g, b, og, q1, q2, q3⟩ := stepF_wh a2
      have hgi := hI.guard i o g b ho q1
      have hrd : d ∈ reads ops o := by unfold reads; rw [q1]; simp [q2, q3]
      exact ⟨g, og, (lst_set hisz).2 (.inr (hanc g (hI.clash g i og o hgi q2 ho (clash_rw q3 hrd).1))), q2, q3⟩
    · obtain ⟨j, oj, j1, j2, j3⟩ := h.wh x d want u hx
      exact ⟨j, oj, (lst_set hisz).2 (.inr j1), j2, j3⟩
  · rw [g3]
    rcases (lst_set hisz).1 hj with rfl | hj
    · rw [ho] at hoj; injection hoj with hoj; subst hoj
      simp [hd]
    · have hji : j ≠ i := fun e => by rw [e] at hj; exact hnl hj
      have : o.dst ≠ some x := fun e => hI.dst i j o oj x (Ne.symm hji) ho hoj e hd
      simp [this]
      exact h.put x j oj hj hoj hd
  · rw [g3, if_neg (hx i o ((lst_set hisz).2 (.inl rfl)) ho)]
    exact h.old x (fun j oj hj => hx j oj ((lst_set hisz).2 (.inr hj)))
  · rw [g2]
    by_cases ht : touch o.op = 2
    · rw [if_pos ht]
      have him : i < m := (hE i o ho ht).1 ((lst_set hisz).2 (.inl rfl))
      have := store_const hT (m - (i + 1)) (i + 1) (by omega) (fun k ok h1 h2 hok hk2 => by
        have hL := (lst_set hisz).1 ((hE k ok hok hk2).2 (by omega))
        rcases hL with hL | hL
        · omega
        · exact hnanc k (hI.clash i k o ok (by omega) ho hok (clash_touch ht (by omega)).1) hL)
      rw [show i + 1 + (m - (i + 1)) = m by omega] at this
      exact this.symm
    · rw [if_neg ht]
      refine h.store m hm (fun k ok hok hk2 => ?_)
      rw [← hE k ok hok hk2, lst_set hisz]
      constructor
      · exact .inr
      · rintro (rfl | q)
        · rw [ho] at hok; injection hok with hok; subst hok; exact absurd hk2 ht
        · exact q

def unl (listed : Array Bool) (n : Nat) : List Nat := (List.range n).filter fun k => !listed.getD k false

theorem unl_set {listed : Array Bool} {n i : Nat} (hi : i < listed.size) (hin : i < n) (hl : ¬ Lst listed i) : (unl (listed.setIfInBounds i true) n).length + 1 = (unl listed n).length := by
  have e : unl (listed.setIfInBounds i true) n = (unl listed n).filter (fun k => k != i) := by
    unfold unl
    rw [List.filter_filter]
    apply List.filter_congr
    intro k _
    by_cases hk : k = i
    · subst hk; simp [Array.getD, hi]
    · simp only [Array.getD_eq_getD_getElem?, Array.getElem?_setIfInBounds_ne (Ne.symm hk)]
      have : (k != i) = true := by simpa using hk
      rw [this, Bool.true_and]
  have hnd : (unl listed n).Nodup := List.Pairwise.filter _ List.nodup_range
  have hmem : i ∈ unl listed n := by
    unfold unl
    simp only [List.mem_filter, List.mem_range]
    refine ⟨hin, ?_⟩
    unfold Lst at hl
    simpa using hl
  rw [e, ← hnd.erase_eq_filter, List.length_erase_of_mem hmem]
  have := List.length_pos_of_mem hmem
  omega

/-- WHATEVER ORDER. -/
theorem drawn_any {ops : Array Oper} {anc : Nat → Nat → Prop} (hI : Indep ops anc) {n : Nat} {t : Nat → List (Nat × V)} {s : Nat → List SObj} {v : Nat → V} (hT : Trace P ops n 0 ops.size t s v) (h0 : ∀ x d want u, getT (t 0) x ≠ some (.wh d want u)) {Q : Exit → Act → World → Prop} :
    ∀ (fuel : Nat) {listed : Array Bool} {st : St} {κ : List Place} {a : Act} {w : World}, (unl listed ops.size).length = fuel → Inv P ops t s v listed st → st.n = n → Rel U κ st a w →
      (∀ κ' a' w', Rel U κ' ⟨n, t ops.size, s ops.size⟩ a' w' → Step U κ w κ' w' → Q .normal a' w') → wpAny P .any ops Q fuel listed a w := by
  have fin : ∀ {listed : Array Bool} {st : St} {κ : List Place} {a : Act} {w : World}, (unl listed ops.size).length = 0 → Inv P ops t s v listed st → st.n = n → Rel U κ st a w → Rel U κ ⟨n, t ops.size, s ops.size⟩ a w := by
    intro listed st κ a w hu h hn hr
    have hall : ∀ k, k < ops.size → Lst listed k := fun k hk => by
      by_cases hL : Lst listed k
      · exact hL
      · exfalso
        have : k ∈ unl listed ops.size := by
          unfold unl
          simp only [List.mem_filter, List.mem_range]
          refine ⟨hk, ?_⟩
          unfold Lst at hL
          simpa using hL
        have := List.length_pos_of_mem this
        omega
    have hlt : ∀ j (o : Oper), ops[j]? = some o → j < ops.size := fun j o ho => by
      rcases Nat.lt_or_ge j ops.size with q | q
      · exact q
      · simp [Array.getElem?_eq_none q] at ho
    have hg := trace_get hI hT h0 ops.size (Nat.le_refl _)
    refine hr.congr hn.symm (h.store ops.size (Nat.le_refl _) (fun k o ho _ => ⟨fun _ => hlt k o ho, fun hk => hall k hk⟩)).symm (fun x => ?_)
    simp only
    by_cases hw : ∃ (j : Nat) (oj : Oper), ops[j]? = some oj ∧ oj.dst = some x
    · obtain ⟨j, oj, hj, hd⟩ := hw
      rw [hg.2.1 x j oj (hlt j oj hj) hj hd, h.put x j oj (hall j (hlt j oj hj)) hj hd]
    · rw [hg.2.2 x (fun j o _ h1 h2 => hw ⟨j, o, h1, h2⟩), h.old x (fun j o _ h1 h2 => hw ⟨j, o, h1, h2⟩)]
  intro fuel
  induction fuel with
  | zero =>
    intro listed st κ a w hu h hn hr hQ
    refine ⟨?_, hQ κ a w (fin hu h hn hr) (.refl _ _ _)⟩
    have : ∀ i, i ∉ Region.ready .any ops listed := fun i hi => by
      obtain ⟨o, ho, hnl, _⟩ := (ready_iff h.size).1 hi
      have : i ∈ unl listed ops.size := by
        unfold unl
        simp only [List.mem_filter, List.mem_range]
        refine ⟨by rcases Nat.lt_or_ge i ops.size with q | q; exact q; simp [Array.getElem?_eq_none q] at ho, ?_⟩
        unfold Lst at hnl
        simpa using hnl
      have := List.length_pos_of_mem this
      omega
    exact List.eq_nil_iff_forall_not_mem.2 this
  | succ fuel ih =>
    intro listed st κ a w hu h hn hr hQ
    refine ⟨fun hnil => ?_, fun i hi => ?_⟩
    · -- the first that is not listed is ready
      exfalso
      have hex : ∃ k, k ∈ unl listed ops.size := by
        cases hc : unl listed ops.size with
        | nil => rw [hc] at hu; simp at hu
        | cons x xs => exact ⟨x, by simp⟩
      have key : ∀ k, k < ops.size → ¬ Lst listed k → False := by
        intro k
        induction k using Nat.strongRecOn with
        | _ k ihk =>
          intro hk hL
          have ho : ops[k]? = some ops[k] := Array.getElem?_eq_getElem hk
          have : k ∈ Region.ready .any ops listed := (ready_iff h.size).2 ⟨ops[k], ho, hL, fun e he hb => by
            have hlt := hI.back k _ e ho he hb
            by_cases hLe : Lst listed e.on
            · exact hLe
            · exact (ihk e.on hlt (by omega) hLe).elim⟩
          rw [hnil] at this
          simp at this
      obtain ⟨k, hk⟩ := hex
      unfold unl at hk
      simp only [List.mem_filter, List.mem_range] at hk
      exact key k hk.1 (by unfold Lst; simpa using hk.2)
    · obtain ⟨o, s1, st', b1, b2, b3, b4, b5⟩ := inv_step hI hT h0 h hn hi
      obtain ⟨o2, ho2, hnl, _⟩ := (ready_iff h.size).1 hi
      have hilt : i < ops.size := by
        rcases Nat.lt_or_ge i ops.size with q | q
        · exact q
        · simp [Array.getElem?_eq_none q] at ho2
      refine wpOp_mono (fun a' w' hK => ?_) (stepF_sound b1 b2 b3 hr)
      obtain ⟨κ', hr', hs'⟩ := hK
      have := unl_set (listed := listed) (n := ops.size) (i := i) (by rw [h.size]; exact hilt) hilt hnl
      exact ih (by omega) b5 b4 hr' (fun κ2 a2 w2 h2 hs2 => hQ κ2 a2 w2 h2 (hs'.trans hs2))

/-- A REGION. -/
theorem region_sound {rid : Nat} {ops : Array Oper} {draw : Bool} {r r' : Run} (h : evReg P rid ops draw r = some r') (ho : allOf r'.obs) {a : Act} (hr : Rel U κ r.st a w) :
    (Code.region rid ops draw).wp P (fun x a' w' => x = .normal ∧ ∃ κ', Rel U κ' r'.st a' w' ∧ Step U κ w κ' w') a w := by
  unfold evReg at h
  split at h
  · rename_i hd
    subst hd
    split at h
    · rename_i hc
      simp only [Bool.and_eq_true] at hc
      obtain ⟨anc, hI⟩ := indep_spec hc.1
      have h' := h
      rw [List.range_eq_range'] at h'
      obtain ⟨t, s, v, q1, q2, q3, q4⟩ := trace_of_run ops.size 0 h' ho
      simp only at q1 q2 q3 q4
      simp only [Nat.zero_add] at q4
      have h0 : ∀ x d want u, getT (t 0) x ≠ some (.wh d want u) := fun x d want u => by rw [q2]; exact noWh_ne
      refine wp_region_any hc.2 ?_
      have hr0 : Rel U κ { r.st with t := noWh r.st.t } a { w with drawn := w.drawn + 1 } := (hr.noWh).drew _
      have hunl : (unl (Array.replicate ops.size false) ops.size).length = ops.size := by
        have : unl (Array.replicate ops.size false) ops.size = List.range ops.size := by
          unfold unl
          rw [List.filter_eq_self]
          intro k hk
          have : k < ops.size := by simpa using hk
          simp [Array.getD, this]
        rw [this]; simp
      have hnone : ∀ k, ¬ Lst (Array.replicate ops.size false) k := fun k hk => by
        unfold Lst at hk
        simp [Array.getD] at hk
      refine drawn_any hI q1 h0 ops.size hunl (st := { r.st with t := noWh r.st.t }) ⟨by simp, fun k o e hk => absurd hk (hnone k), fun x d want u hx => absurd hx noWh_ne, fun x j o hk => absurd hk (hnone j), fun x _ => by rw [q2], fun m hm hE => ?_⟩ rfl hr0 (fun κ' a' w' hr' hs' => ⟨rfl, κ', by rw [q4]; exact hr', ?_⟩)
      · have := store_const q1 m 0 (by omega) (fun k o _ hk ho2 ht => hnone k ((hE k o ho2 ht).2 (by omega)))
        simp only [Nat.zero_add] at this
        rw [this, q3]
      · exact (Kept.step0 (U := U) (κ := κ) (w := w) (w' := { w with drawn := w.drawn + 1 }) ⟨rfl, rfl, rfl, Nat.le_refl _, fun _ _ _ => rfl⟩).trans hs'
    · cases h
  · rename_i hd
    have hd' : draw = false := by simpa using hd
    subst hd'
    exact wp_region (evOps_sound h ho hr (fun κ' a' w' h1 h2 => ⟨rfl, κ', h1, h2⟩))

end Go.HM
