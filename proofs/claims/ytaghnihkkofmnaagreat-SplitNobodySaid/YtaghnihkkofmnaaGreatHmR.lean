/- HM, part R: calls, one operation in a region, a region in its text's order. -/
import Derived.Test.YtaghnihkkofmnaaGreatHmQ
namespace Go.HM

variable {P : Program} {U : Nat → Nat → Prop} {κ : List Place} {s : List SObj} {w : World} {ok : Nat → Nat → Prop}

theorem allOf_append {l m : List Prop} : allOf (l ++ m) ↔ allOf l ∧ allOf m := by
  induction l with
  | nil => simp [allOf]
  | cons p l ih => simp only [List.cons_append, allOf, ih, and_assoc]

theorem allOf_mem {l : List Prop} (h : allOf l) : ∀ p ∈ l, p := by
  induction l with
  | nil => simp
  | cons q l ih =>
    intro p hp
    rcases List.mem_cons.1 hp with rfl | hp
    · exact h.1
    · exact ih h.2 p hp

theorem tcs_one : ∀ {ts : List T} {cs : List Value}, Tcs w ok ts cs → (∀ t ∈ ts, t.isAgg = false) → F2 (TV w ok) ts cs
  | [], _, .nil, _ => .nil
  | t :: ts, _, .cons h1 h2, hn => by
    have ht := hn t (by simp)
    have hl := h1.len
    rw [T.isAgg_false_sz ht] at hl
    rename_i c1 c2
    obtain ⟨x, rfl⟩ : ∃ x, c1 = [x] := by
      cases c1 with
      | nil => simp at hl
      | cons x r => cases r with
        | nil => exact ⟨x, rfl⟩
        | cons y r => simp at hl
    exact .cons (.of_cells h1 ht) (tcs_one h2 (fun t ht => hn t (by simp [ht])))

theorem F2.append {α β : Type} {R : α → β → Prop} : ∀ {l l' : List α} {m m' : List β}, F2 R l m → F2 R l' m' → F2 R (l ++ l') (m ++ m')
  | _, _, _, _, .nil, h => h
  | _, _, _, _, .cons a b, h => .cons a (b.append h)

theorem F2.map_left {α β γ : Type} {R : γ → β → Prop} {f : α → γ} : ∀ {l : List α} {m : List β}, F2 (fun a b => R (f a) b) l m → F2 R (l.map f) m
  | _, _, .nil => .nil
  | _, _, .cons a b => .cons a b.map_left

theorem VV_tupOf {rs : List T} {v : Value} (h : RVs (okOf U κ) w rs v) : VV U κ s w (tupOf rs) v := by
  unfold tupOf
  split
  · exact VV_of h
  · rename_i ts hn
    cases rs with
    | nil => obtain ⟨vs, a, b⟩ := h; exact ⟨vs, a, F2.map_left (forall₂_mono (fun _ _ c => VV1_of c) b)⟩
    | cons t r =>
      cases r with
      | nil => exact absurd rfl (hn t)
      | cons t' r => obtain ⟨vs, a, b⟩ := h; exact ⟨vs, a, F2.map_left (forall₂_mono (fun _ _ c => VV1_of c) b)⟩

theorem tupOf_ne_bad (rs : List T) : tupOf rs ≠ .bad := by
  unfold tupOf; split <;> simp

/-- A CALL ON TREES, in the model. -/
theorem call_wp {st : St} {a : Act} (h : Rel U κ st a w) {g : Option (Nat × Bool)} (hg : GuardOk a g) {o : Oper} {f : FuncId} {ts rs : List T} (hc : callee P st.t g o = some (f, ts)) (hp : PCall P f ts rs) {K : Act → World → Prop} {Q : Exit → Act → World → Prop}
    (hK : ∀ x w', Kept [] w w' → VV U κ st.s w' (tupOf rs) x → K (a.put o.dst x) w') : o.wp P a w K Q := by
  unfold callee at hc
  split at hc
  · rename_i c ho
    split at hc
    · rename_i fo hfo
      split at hc
      · rename_i fv vs e1 e2
        split at hc
        · rename_i f' caps ts' e3 e4
          injection hc with hc; injection hc with hc1 hc2
          subst hc1 hc2
          have hf := (toT_VV e3 (evalO_spec h hg e1)).cell rfl
          have hargs := toTs_F2 e4 (evalOs_spec h hg e2)
          generalize hfe : a.eval fo = fx at hf
          cases hf with
          | clo q1 q2 =>
            rename_i cs
            obtain ⟨⟨fn, p1, p2, p3⟩, p4⟩ := hp
            have hrun : (execOp a.eval o).run P w = .ok (.enter f' (c.args.map a.eval ++ cs.toArray)) w := by
              unfold execOp
              simp only [ho]
              simp only [resolve, hfo, Sem.run_bind, hfe, Deferred.ofValue, Sem.run_pure, Result.andThen_ok, invoke, Array.empty_append, callFunc, run_program, p1, p2, p3]
              simp
            unfold Oper.wp
            rw [hrun]
            simp only [Oper.upon]
            have hU : UpG (okOf U κ) w := ⟨fun b o hb => ⟨h.store.up b o hb, fun pl hpl hh => by have := h.store.below pl hpl hh.2.2.2; have := hh.1; omega⟩, h.store.glob⟩
            have := p4 (okOf U κ) w (c.args.toList.map a.eval ++ cs) hU (hargs.append (tcs_one q1 q2))
            have harr : (c.args.toList.map a.eval ++ cs).toArray = c.args.map a.eval ++ cs.toArray := by
              apply Array.ext'; simp
            rw [harr] at this
            refine this.mono ?_
            rintro e w' ⟨v, rfl, hv, hk⟩
            exact hK v w' hk (VV_tupOf hv)
        · cases hc
      · cases hc
    · cases hc
  · cases hc

theorem okPart_notWh {v : V} (h : okPart v = true) : ∀ d want u, v ≠ .wh d want u := by
  rintro d want u rfl; cases h

/-- The slot behind an operation. -/
theorem setDst_rel {st : St} {a : Act} {s' : List SObj} {κ' : List Place} {w' : World} (h : Rel U κ' { st with s := s' } a w') {d : Option Nat} {v : V} {st' : St} {x : Value} (hs : setDst { st with s := s' } d v = some st')
    (hv : v = .bad ∨ VV U κ' s' w' v x) : Rel U κ' st' (a.put d x) w' := by
  unfold setDst at hs
  split at hs
  · injection hs with hs; subst hs; exact h
  · rename_i d
    split at hs
    · rename_i hd
      injection hs with hs; subst hs
      have hd' : d < st.n := by simpa [Nat.blt_eq] using hd
      rcases hv with rfl | hv
      · exact h.putBad hd' x
      · exact h.putV hd' hv
    · cases hs

theorem setDst_none_put {a : Act} {x : Value} : a.put none x = a := rfl

/-- What a told bool leaves. -/
theorem resolve1_spec {rid idx : Nat} {v v' : V} {orc os : List Orc} {obs obs' : List Prop} (h : resolve1 rid idx v orc obs = some (v', os, obs')) (ha : allOf obs') {x : Value} (hv : VV U κ s w v x) : allOf obs ∧ VV U κ s w v' x := by
  unfold resolve1 at h
  split at h
  · split at h
    · rename_i b
      injection h with h; injection h with h1 h2; injection h2 with h2 h3
      subst h1 h3
      obtain ⟨e, ha⟩ := ha
      refine ⟨ha, ?_⟩
      have := VV_bool hv
      subst this
      rw [e]
      exact VV_of1 (VV1_of_cell (.rb _) rfl)
    · injection h with h; injection h with h1 h2; injection h2 with h2 h3
      subst h1 h3
      exact ⟨ha, hv⟩
    · cases h
  · injection h with h; injection h with h1 h2; injection h2 with h2 h3
    subst h1 h3
    exact ⟨ha, hv⟩

theorem resolve1_bad {rid idx : Nat} {v' : V} {orc os : List Orc} {obs obs' : List Prop} (h : resolve1 rid idx .bad orc obs = some (v', os, obs')) : v' = .bad ∧ obs' = obs := by
  unfold resolve1 at h
  split at h
  · simp at h
  · injection h with h; injection h with h1 h2; injection h2 with h2 h3; exact ⟨h1.symm, h3.symm⟩

/-- What an operation or a call comes to, with what follows. -/
theorem hopC_wp {st : St} {a : Act} (h : Rel U κ st a w) {g : Option (Nat × Bool)} (hg : GuardOk a g) {o : Oper} {it : Option Item} {q : OpR} (hq : hopC P st.t st.s g o it = some q) (hobs : ∀ p ∈ q.obs, p) {K : Act → World → Prop} {Q : Exit → Act → World → Prop}
    (hK : ∀ x w' κ', (VV U κ' q.s w' q.v x ∨ q.v = .bad) → Rel U κ' { st with s := q.s } a w' → Step U κ w κ' w' → K (a.put o.dst x) w') : o.wp P a w K Q := by
  unfold hopC at hq
  split at hq
  · split at hq
    · rename_i rs f ts e1
      injection hq with hq; subst hq
      exact call_wp h hg e1 (hobs _ (by simp)) (fun x w' hk hv => hK x w' κ (.inl hv) (h.kept0 hk) hk.step0)
    · cases hq
  · obtain ⟨nx, w', κ', h1, h2, h3, h4, h5⟩ := hop_sound h hg hq hobs
    have hrel := h.carry h3 h4 h5
    unfold Oper.wp
    rw [h1]
    rcases h2 with ⟨x, rfl, hv⟩ | ⟨rfl, hv⟩
    · exact hK x w' κ' (.inl hv) hrel h4
    · exact hK undef w' κ' (.inr hv) hrel h4

theorem getT_slot {st : St} {a : Act} (h : Rel U κ st a w) {d : Nat} {v : V} {b : Bool} (hg : getT st.t d = some v) (hv : v = .rb b ∨ v = .p (.bool b)) : a.tmps[d]? = some (.bool b) := by
  rcases hv with rfl | rfl
  · obtain ⟨y, p, q⟩ := h.getSlot hg (by intro _ _ _ k; cases k) (by intro k; cases k)
    rw [p, VV_rb q]
  · obtain ⟨y, p, q⟩ := h.getSlot hg (by intro _ _ _ k; cases k) (by intro k; cases k)
    rw [p, VV_bool q]

theorem guard_spec {st : St} {a : Act} (h : Rel U κ st a w) {ops : Array Oper} {o : Oper} {gd : Guard} (hg : guardOf ops st.t o = some gd) :
    match gd with
    | .skip => Region.wanted o (yielded ops a.tmps) = false
    | .run none => Region.wanted o (yielded ops a.tmps) = true
    | .run (some (d, want)) => ∃ b, a.tmps[d]? = some (.bool b) ∧ Region.wanted o (yielded ops a.tmps) = (b == want) := by
  unfold guardOf at hg
  split at hg
  · rename_i e; injection hg with hg; subst hg; simp [Region.wanted, e]
  · rename_i j want e
    split at hg
    · rename_i d hd
      have hy : ∀ b, a.tmps[d]? = some (.bool b) → yielded ops a.tmps j = some b := fun b hb => by
        unfold yielded; rw [hd]; simp [hb]
      split at hg
      · rename_i b hb
        have h1 := getT_slot h hb (.inl rfl)
        split at hg
        · rename_i hbw
          injection hg with hg; subst hg
          simp only [Region.wanted, e, hy b h1]
          simpa using hbw
        · rename_i hbw
          injection hg with hg; subst hg
          simp only [Region.wanted, e, hy b h1]
          simpa using hbw
      · rename_i b hb
        have h1 := getT_slot h hb (.inr rfl)
        injection hg with hg; subst hg
        exact ⟨b, h1, by simp only [Region.wanted, e, hy b h1]; cases b <;> cases want <;> rfl⟩
      · rename_i hb
        injection hg with hg; subst hg
        obtain ⟨y, p, q⟩ := h.getSlot hb (by intro _ _ _ k; cases k) (by intro k; cases k)
        obtain ⟨xs, rfl, q2⟩ := q
        have hn : yielded ops a.tmps j = none := by unfold yielded; rw [hd]; simp [p]
        simp [Region.wanted, e, hn]
      · cases hg
    · cases hg

theorem appV_touch {e : TypeId} {x y : V} {q : OpR} : True := trivial

/-- What does not write leaves the store. -/
theorem hop_still {t : List (Nat × V)} {g : Option (Nat × Bool)} {o : Oper} {it : Option Item} {q : OpR} (ht : touch o.op < 2) (hq : hop P t s g o it = some q) : q.s = s := by
  unfold hop at hq
  split at hq
  · split at hq
    · injection hq with hq; rw [← hq]
    · cases hq
  · rename_i h0
    obtain ⟨dst, op, type, pos, after, guard⟩ := o
    simp only at ht h0
    have h1 : touch op = 1 := by
      generalize touch op = k at ht h0
      match k, ht, h0 with
      | 0, _, h0 => exact absurd rfl h0
      | 1, _, _ => rfl
    unfold hopA at hq
    cases op with
    | load ty x =>
      simp only [hop0, hop2] at hq
      split at hq
      · rename_i q0 hq0
        injection hq with hq; subst hq
        split at hq0
        · split at hq0
          · obtain ⟨x, _, rfl⟩ := opmap hq0; rfl
          · cases hq0
        · obtain ⟨x, _, rfl⟩ := opmap hq0; rfl
        · cases hq0
      · split at hq
        · split at hq
          · obtain ⟨x, _, rfl⟩ := opmap hq; rfl
          · cases hq
        · cases hq
    | lookup ty x k ok =>
      simp only [hop0, hop1, hop2] at hq
      split at hq
      · rename_i q0 hq0
        injection hq with hq; subst hq
        split at hq0
        · split at hq0
          · split at hq0
            · split at hq0
              · obtain ⟨x, _, rfl⟩ := opmap hq0; rfl
              · cases hq0
            · obtain ⟨x, _, rfl⟩ := opmap hq0; rfl
            · cases hq0
          · cases hq0
        · cases hq0
      · cases hq
    | convert a b x =>
      simp only [touch] at h1
      split at h1
      · cases h1
      · split at h1 <;> simp at h1
    | buildSlice a b x =>
      simp only [touch] at h1
      split at h1 <;> simp at h1
    | call c =>
      simp only [touch] at h1
      split at h1 <;> cases h1
    | _ => simp [touch] at h1

end Go.HM
