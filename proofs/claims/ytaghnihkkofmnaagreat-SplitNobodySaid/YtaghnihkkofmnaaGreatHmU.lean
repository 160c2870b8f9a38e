/- HM, part U: whatever order is drawn, the text's order tells what comes of it. -/
import Derived.Test.YtaghnihkkofmnaaGreatHmT
namespace Go.HM

variable {P : Program} {U : Nat → Nat → Prop} {κ : List Place} {s : List SObj} {w : World} {ok : Nat → Nat → Prop}

theorem memN_iff {x : Nat} : ∀ {l : List Nat}, memN x l = true ↔ x ∈ l
  | [] => by simp [memN]
  | y :: ys => by simp [memN, memN_iff (l := ys)]

/-- Two states that read alike. -/
theorem Rel.congr {st st' : St} {a : Act} (h : Rel U κ st a w) (hn : st'.n = st.n) (hs : st'.s = st.s) (ht : ∀ x, getT st'.t x = getT st.t x) : Rel U κ st' a w :=
  ⟨by rw [hs]; exact h.store, by rw [hn]; exact h.size, h.defers, fun x v hg => by rw [ht] at hg; rw [hs]; exact h.slot x v hg⟩

theorem noWh_get : ∀ (t : List (Nat × V)) (x : Nat), getT (noWh t) x = (match getT t x with | some (.wh _ _ _) => some .bad | v => v)
  | [], x => rfl
  | (y, v) :: r, x => by
    cases v <;> simp only [noWh, getT_nil, getT_cons] <;> (split <;> first | rfl | exact noWh_get r x)

theorem Rel.noWh {st : St} {a : Act} (h : Rel U κ st a w) : Rel U κ { st with t := noWh st.t } a w :=
  ⟨h.store, h.size, h.defers, fun x v hg => by
    simp only [noWh_get] at hg
    split at hg
    · injection hg with hg; subst hg; trivial
    · exact h.slot x v hg⟩

theorem noWh_ne {t : List (Nat × V)} {x d : Nat} {want : Bool} {u : V} : getT (noWh t) x ≠ some (.wh d want u) := by
  rw [noWh_get]
  split
  · simp
  · rename_i hn; intro h; exact hn _ _ _ h

theorem getT_dropW_ne {t : List (Nat × V)} {d : Nat} (h : ∀ x want u, getT t x ≠ some (.wh d want u)) : ∀ x, getT (dropW t d) x = getT t x := by
  induction t with
  | nil => intro x; rfl
  | cons p r ih =>
    obtain ⟨y, v⟩ := p
    intro x
    by_cases hyx : y = x
    · subst hyx
      cases v with
      | wh d' want u =>
        simp only [dropW]
        have hne : ¬ (d' == d) = true := by
          intro e
          have e' : d' = d := by simpa using e
          subst e'
          exact h y want u (by simp [getT_nil, getT_cons])
        rw [if_neg hne]
        simp [getT_nil, getT_cons]
      | _ => simp [dropW, getT_nil, getT_cons]
    · have hb : (y == x) = false := by simpa using hyx
      -- the rest may hold entries that are hidden behind this one
      have key : getT (dropW r d) x = getT r x := by
        clear ih
        have hx := h x
        simp only [getT_nil, getT_cons, hb] at hx
        have gen : ∀ (r : List (Nat × V)), (∀ want u, getT r x ≠ some (.wh d want u)) → getT (dropW r d) x = getT r x := by
          intro r
          induction r with
          | nil => intro _; rfl
          | cons q r ih =>
            obtain ⟨z, v'⟩ := q
            intro hh
            by_cases hz : z = x
            · subst hz
              cases v' with
              | wh d' want u =>
                simp only [dropW]
                have hne : ¬ (d' == d) = true := by
                  intro e
                  have e' : d' = d := by simpa using e
                  subst e'
                  exact hh want u (by simp [getT_nil, getT_cons])
                rw [if_neg hne]
                simp [getT_nil, getT_cons]
              | _ => simp [dropW, getT_nil, getT_cons]
            · have hzb : (z == x) = false := by simpa using hz
              have := ih (by intro want u; have := hh want u; simpa [getT_nil, getT_cons, hzb] using this)
              cases v' with
              | wh d' want u => simp only [dropW]; split <;> simp [getT_nil, getT_cons, hzb, this]
              | _ => simp [dropW, getT_nil, getT_cons, hzb, this]
        exact gen r (by intro want u; simpa using hx want u)
      cases v with
      | wh d' want u => simp only [dropW]; split <;> simp [getT_nil, getT_cons, hb, key]
      | _ => simp [dropW, getT_nil, getT_cons, hb, key]

theorem setDst_get {st st' : St} {s' : List SObj} {d : Option Nat} {v : V} (h : setDst { st with s := s' } d v = some st') (hw : ∀ x dd want u, d = some dd → getT st.t x ≠ some (.wh dd want u)) :
    st'.n = st.n ∧ st'.s = s' ∧ ∀ x, getT st'.t x = if d = some x then some v else getT st.t x := by
  unfold setDst at h
  split at h
  · injection h with h; subst h; exact ⟨rfl, rfl, fun x => by simp⟩
  · rename_i dd
    split at h
    · injection h with h; subst h
      refine ⟨rfl, rfl, fun x => ?_⟩
      by_cases hx : dd = x
      · subst hx; simp [getT_setT_same]
      · rw [getT_setT_other _ _ _ _ (Ne.symm hx), getT_dropW_ne (fun x want u => hw x dd want u rfl)]
        simp [hx]
    · cases h

theorem setDst_ok {st st1 : St} {d : Option Nat} {v v' : V} (h : setDst st d v = some st1) {st2 : St} (hn : st2.n = st.n) : ∃ st3, setDst st2 d v' = some st3 := by
  unfold setDst at h ⊢
  split at h
  · exact ⟨_, rfl⟩
  · split at h
    · rename_i hlt; rw [hn]; exact ⟨_, if_pos hlt⟩
    · cases h

/-- What 'indep' says. -/
structure Indep (ops : Array Oper) (anc : Nat → Nat → Prop) : Prop where
  back : ∀ (k : Nat) (o : Oper) (e : Edge), ops[k]? = some o → e ∈ o.after → Region.binds .any e = true → e.on < k
  up : ∀ i k, anc i k → ∃ (o : Oper) (e : Edge), ops[k]? = some o ∧ e ∈ o.after ∧ Region.binds .any e = true ∧ (e.on = i ∨ anc i e.on)
  dst : ∀ (i j : Nat) (x y : Oper) (d : Tmp), i ≠ j → ops[i]? = some x → ops[j]? = some y → x.dst = some d → y.dst ≠ some d
  guard : ∀ (k : Nat) (o : Oper) (g : Nat) (b : Bool), ops[k]? = some o → o.guard = some (g, b) → g < k
  clash : ∀ (i j : Nat) (x y : Oper), i < j → ops[i]? = some x → ops[j]? = some y → Go.HM.clash ops x y = true → anc i j

theorem ancsGo_spec (ops : Array Oper) : ∀ (os : List Oper) (acc : List (List Nat)) (pre : List Oper), ops.toList = pre ++ os → acc.length = pre.length →
    (∀ k, k < acc.length → ∀ i, i ∈ acc.getD k [] → ∃ o e, ops[k]? = some o ∧ e ∈ o.after ∧ Region.binds .any e = true ∧ e.on < k ∧ (e.on = i ∨ i ∈ acc.getD e.on [])) →
    ∃ res, ancsGo os acc = res ∧ res.length = ops.size ∧ ∀ k, k < res.length → ∀ i, i ∈ res.getD k [] → ∃ o e, ops[k]? = some o ∧ e ∈ o.after ∧ Region.binds .any e = true ∧ e.on < k ∧ (e.on = i ∨ i ∈ res.getD e.on [])
  | [], acc, pre, hops, hl, h => by
    refine ⟨acc, rfl, ?_, h⟩
    have := congrArg List.length hops
    simp at this
    omega
  | o :: os, acc, pre, hops, hl, h => by
    simp only [ancsGo]
    refine ancsGo_spec ops os _ (pre ++ [o]) (by simp [hops]) (by simp [hl]) (fun k hk i hi => ?_)
    simp at hk
    have hgetD : ∀ k, k < acc.length → (acc ++ [o.after.toList.flatMap fun e => if (Region.binds .any e && Nat.blt e.on acc.length) = true then e.on :: acc.getD e.on [] else []]).getD k [] = acc.getD k [] := fun k hk => by
      simp [List.getD, List.getElem?_append_left hk]
    by_cases hlt : k < acc.length
    · rw [hgetD k hlt] at hi
      obtain ⟨o', e, a1, a2, a3, a4, a5⟩ := h k hlt i hi
      refine ⟨o', e, a1, a2, a3, a4, ?_⟩
      rcases a5 with a5 | a5
      · exact .inl a5
      · exact .inr (by rw [hgetD _ (by omega)]; exact a5)
    · have hke : k = acc.length := by omega
      subst hke
      have hlast : (acc ++ [o.after.toList.flatMap fun e => if (Region.binds .any e && Nat.blt e.on acc.length) = true then e.on :: acc.getD e.on [] else []]).getD acc.length [] = o.after.toList.flatMap fun e => if (Region.binds .any e && Nat.blt e.on acc.length) = true then e.on :: acc.getD e.on [] else [] := by
        simp [List.getD]
      rw [hlast] at hi
      obtain ⟨e, he, hi⟩ := List.mem_flatMap.1 hi
      have ho : ops[acc.length]? = some o := by
        rw [← Array.getElem?_toList, hops, hl]; simp
      split at hi
      · rename_i hc
        simp only [Bool.and_eq_true, Nat.blt_eq] at hc
        refine ⟨o, e, ho, by simpa using he, hc.1, hc.2, ?_⟩
        rcases List.mem_cons.1 hi with hi | hi
        · exact .inl hi.symm
        · exact .inr (by rw [hgetD _ hc.2]; exact hi)
      · simp at hi

theorem indepGo_spec (ops : Array Oper) (ancs : List (List Nat)) : ∀ (ys : List Oper) (j0 : Nat) (pre : List Oper), ops.toList = pre ++ ys → j0 = pre.length → indepGo ops ancs ys j0 = true →
    ∀ j y, j0 ≤ j → ops[j]? = some y → (∀ i x, i < j → ops[i]? = some x → (clash ops x y = true → i ∈ ancs.getD j []) ∧ (∀ d, x.dst = some d → y.dst ≠ some d)) ∧ (∀ e ∈ y.after, Region.binds .any e = true → e.on < j) ∧ (∀ g b, y.guard = some (g, b) → g < j)
  | [], j0, pre, hops, hj, h, j, y, hle, hy => by
    exfalso
    have := congrArg List.length hops
    simp at this
    have := (Array.getElem?_eq_some_iff.1 hy).1
    omega
  | y0 :: ys, j0, pre, hops, hj, h, j, y, hle, hy => by
    simp only [indepGo, Bool.and_eq_true] at h
    obtain ⟨⟨⟨h1, h2⟩, h2g⟩, h3⟩ := h
    by_cases hjj : j = j0
    · subst hjj
      have hy0 : y = y0 := by
        rw [← Array.getElem?_toList, hops, hj] at hy
        simpa using hy.symm
      subst hy0
      refine ⟨fun i x hi hx => ?_, fun e he hb => ?_, fun g b hg => by rw [hg] at h2g; simpa [Nat.blt_eq] using h2g⟩
      · have := List.all_eq_true.1 h1 i (by simpa using hi)
        simp only [hx, Bool.and_eq_true, Bool.or_eq_true, Bool.not_eq_true', memN_iff] at this
        refine ⟨fun hc => this.1.resolve_left (by rw [hc]; simp), fun d hd hyd => ?_⟩
        rcases this.2 with q | q
        · rw [hd] at q; simp at q
        · rw [hd, hyd] at q; simp at q
      · have := List.all_eq_true.1 h2 e (by simpa using he)
        simp only [Bool.or_eq_true, Bool.not_eq_true', Nat.blt_eq] at this
        rcases this with q | q
        · rw [hb] at q; cases q
        · exact q
    · exact indepGo_spec ops ancs ys (j0 + 1) (pre ++ [y0]) (by simp [hops]) (by simp [hj]) h3 j y (by omega) hy

theorem indep_spec {ops : Array Oper} (h : indep ops = true) : ∃ anc, Indep ops anc := by
  unfold indep at h
  obtain ⟨res, e, hl, hr⟩ := ancsGo_spec ops ops.toList [] [] rfl rfl (by intro k hk; simp at hk)
  rw [e] at h
  have hs := indepGo_spec ops res ops.toList 0 [] rfl rfl h
  refine ⟨fun i k => i ∈ res.getD k [], ⟨fun k o e ho he hb => (hs k o (Nat.zero_le _) ho).2.1 e he hb, fun i k hi => ?_, fun i j x y d hne hx hy hd => ?_, fun k o g b ho hg => (hs k o (Nat.zero_le _) ho).2.2 g b hg, fun i j x y hij hx hy hc => ((hs j y (Nat.zero_le _) hy).1 i x hij hx).1 hc⟩⟩
  · have hk : k < res.length := by
      rcases Nat.lt_or_ge k res.length with q | q
      · exact q
      · simp [List.getD, List.getElem?_eq_none q] at hi
    obtain ⟨o, e, a1, a2, a3, a4, a5⟩ := hr k hk i hi
    exact ⟨o, e, a1, a2, a3, a5⟩
  · rcases Nat.lt_or_gt_of_ne hne with q | q
    · exact ((hs j y (Nat.zero_le _) hy).1 i x q hx).2 d hd
    · intro hyd; exact ((hs i x (Nat.zero_le _) hx).1 j y q hy).2 d hyd hd

end Go.HM
