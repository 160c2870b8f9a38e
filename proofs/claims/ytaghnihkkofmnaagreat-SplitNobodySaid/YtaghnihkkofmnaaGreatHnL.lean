/- HN, part L: loops over lists, told by their rounds. -/
import Derived.Test.YtaghnihkkofmnaaGreatHnK
namespace Go.HM
variable {P : Program}

/-! Letting go, in a loop: objects made in a round; versions begin anew. -/

section norm
variable {U : Nat → Nat → Prop} {κ : List Place} {s : List SObj} {w : World}

mutual
/-- The objects from 'k' on are let go; the versions of those from 'm' on begin anew. -/
def V.norm (m k : Nat) (s : List SObj) : V → V
  | .rb b => .p (.bool b)
  | .ptr id off => if Nat.blt id k then .ptr id off else .bad
  | .row id ver t => if Nat.blt id k then (if Nat.ble m id then (if (match s[id]? with | some (.row cur _) => ver == cur | _ => false) then .row id 0 t else rowP t) else .row id ver t) else rowP t
  | .map id => if Nat.blt id k then .map id else .bad
  | .view id off n => if Nat.blt id k then .view id off n else .bad
  | .cv id ver off n e => if Nat.blt id k then (if Nat.ble m id then (if (match s[id]? with | some (.vec cur _) => ver == cur | _ => false) then .cv id 0 off n e else .bad) else .cv id ver off n e) else .bad
  | .ep id ver off => if Nat.blt id k then (if Nat.ble m id then (if (match s[id]? with | some (.vec cur _) => ver == cur | _ => false) then .ep id 0 off else .bad) else .ep id ver off) else .bad
  | .agg vs => mkAgg (V.norms m k s vs)
  | .clo f vs => .clo f (V.norms m k s vs)
  | .yld _ => .bad
  | .tup _ => .bad
  | .wh _ _ _ => .bad
  | .bad => .bad
  | .p t => .p t
def V.norms (m k : Nat) (s : List SObj) : List V → List V
  | [] => []
  | v :: vs => v.norm m k s :: V.norms m k s vs
end

def SObj.norm (m k : Nat) (s : List SObj) (i : Nat) : SObj → SObj
  | .box v => .box (v.norm m k s)
  | .row c e => if Nat.ble m i then .row 0 e else .row c e
  | .vec c v => if Nat.ble m i then .vec 0 (v.norm m k s) else .vec c (v.norm m k s)
  | o => o

def normS (m k : Nat) (s : List SObj) : Nat → List SObj → List SObj
  | _, [] => []
  | i, o :: r => if Nat.blt i k then o.norm m k s i :: normS m k s (i + 1) r else []

/-- No loop over a function is under way. -/
def noLp : List SObj → Bool
  | [] => true
  | .lp .. :: _ => false
  | .dfr :: _ => false
  | _ :: r => noLp r

theorem noLp_lp {ls : LoopState} {pd : Option Code} {d : Nat} {f : FuncId} {m : Nat} {t : List (Nat × V)} {ps : Array Tmp} {as bd : Code} : ∀ {s : List SObj}, noLp s = true → SObj.lp ls pd d f m t ps as bd ∉ s
  | [], _, h => by simp at h
  | o :: r, hb, h => by
    rcases List.mem_cons.1 h with h | h
    · subst h; simp [noLp] at hb
    · exact noLp_lp (s := r) (by cases o <;> simp [noLp] at hb <;> exact hb) h
theorem noLp_dfr : ∀ {s : List SObj}, noLp s = true → SObj.dfr ∉ s
  | [], _, h => by simp at h
  | o :: r, hb, h => by
    rcases List.mem_cons.1 h with h | h
    · subst h; simp [noLp] at hb
    · exact noLp_dfr (s := r) (by cases o <;> simp [noLp] at hb <;> exact hb) h

def St.norm0 (m k : Nat) (keep : List Nat) (st : St) : St :=
  { n := st.n, t := keep.filterMap fun x => (getT st.t x).map fun v => (x, v.norm m k st.s), s := normS m k st.s 0 st.s }

def St.norm (m k : Nat) (keep : List Nat) (st : St) : St := match noLp st.s with
  | true => st.norm0 m k keep
  | false => st

theorem normS_get {m k : Nat} {s0 : List SObj} : ∀ {l : List SObj} {i j : Nat}, (normS m k s0 i l)[j]? = if i + j < k then (l[j]?).map (SObj.norm m k s0 (i + j)) else none
  | [], i, j => by simp [normS]
  | o :: r, i, 0 => by
    simp only [normS, Nat.add_zero]
    by_cases h : i < k
    · have : Nat.blt i k = true := by simpa [Nat.blt_eq] using h
      simp [this, h]
    · have : Nat.blt i k = false := by rw [Bool.eq_false_iff]; simpa [Nat.blt_eq] using h
      simp [this, h]
  | o :: r, i, j + 1 => by
    simp only [normS]
    by_cases h : i < k
    · have : Nat.blt i k = true := by simpa [Nat.blt_eq] using h
      simp only [this, if_true, List.getElem?_cons_succ]
      rw [normS_get (l := r) (i := i + 1) (j := j), show i + 1 + j = i + (j + 1) by omega]
    · have : Nat.blt i k = false := by rw [Bool.eq_false_iff]; simpa [Nat.blt_eq] using h
      have h2 : ¬ (i + (j + 1) < k) := by omega
      simp [this, h2]

theorem normS_at {m k id : Nat} {o : SObj} (h : s[id]? = some o) (hi : id < k) : (normS m k s 0 s)[id]? = some (o.norm m k s id) := by
  rw [normS_get]
  simp [hi, h]

theorem normS_len {m k : Nat} {s0 : List SObj} : ∀ {l : List SObj} {i : Nat}, i ≤ k → (normS m k s0 i l).length = min (k - i) l.length
  | [], i, _ => by simp [normS]
  | o :: r, i, hik => by
    simp only [normS]
    by_cases h : i < k
    · have : Nat.blt i k = true := by simpa [Nat.blt_eq] using h
      simp only [this, if_true, List.length_cons]
      rw [normS_len (l := r) (i := i + 1) h]
      omega
    · have : Nat.blt i k = false := by rw [Bool.eq_false_iff]; simpa [Nat.blt_eq] using h
      simp [this]; omega

mutual
theorem Vc.norm {m k : Nat} (hp : Pres w (okOf U κ) w (okOf U (κ.take k))) : ∀ {v : V} {cs : List Value}, Vc U κ s w v cs → Vc U (κ.take k) (normS m k s 0 s) w (v.norm m k s) cs ∧ (v.norm m k s).isAgg = v.isAgg
  | _, _, .p h => ⟨.p (h.pres hp), rfl⟩
  | _, _, .rb b => ⟨.p (.bool b), rfl⟩
  | .ptr id off, _, .ptr h q => by
    simp only [V.norm]
    split
    · rename_i hlt
      have hlt' : id < k := by simpa [Nat.blt_eq] using hlt
      exact ⟨.ptr (normS_at h hlt') (take_get q hlt'), rfl⟩
    · exact ⟨.bad (by simp [Value.oneCell']), rfl⟩
  | .row id ver t, _, .row h q l r => by
    simp only [V.norm, q]
    split
    · rename_i hlt
      have hlt' : id < k := by simpa [Nat.blt_eq] using hlt
      have hg := normS_at (m := m) q hlt'
      split
      · rename_i hm
        split
        · rename_i hc
          have hc' := eq_of_beq hc
          refine ⟨.row (cur := 0) (h.pres hp) (by rw [hg]; simp only [SObj.norm, hm, if_true]; rfl) (Nat.le_refl _) (fun _ => ?_), rfl⟩
          rcases r hc' with q' | ⟨pl, o, q1, q2⟩
          · exact .inl q'
          · exact .inr ⟨pl, o, take_get q1 hlt', q2⟩
        · exact rowP_spec (h.pres hp)
      · rename_i hm
        refine ⟨.row (h.pres hp) (by rw [hg]; simp only [SObj.norm, hm]; rfl) l (fun e => ?_), rfl⟩
        rcases r e with q' | ⟨pl, o, q1, q2⟩
        · exact .inl q'
        · exact .inr ⟨pl, o, take_get q1 hlt', q2⟩
    · exact rowP_spec (h.pres hp)
  | .map id, _, .map h q => by
    simp only [V.norm]
    split
    · rename_i hlt
      have hlt' : id < k := by simpa [Nat.blt_eq] using hlt
      exact ⟨.map (normS_at h hlt') (take_get q hlt'), rfl⟩
    · exact ⟨.bad (by simp [Value.oneCell']), rfl⟩
  | .view id off n, _, .view h q => by
    simp only [V.norm]
    split
    · rename_i hlt
      have hlt' : id < k := by simpa [Nat.blt_eq] using hlt
      exact ⟨.view (normS_at h hlt') (take_get q hlt'), rfl⟩
    · exact ⟨.bad (by simp [Value.oneCell']), rfl⟩
  | .cv id ver off n e, _, .cv h l hn q => by
    simp only [V.norm, h]
    split
    · rename_i hlt
      have hlt' : id < k := by simpa [Nat.blt_eq] using hlt
      have hg := normS_at (m := m) h hlt'
      split
      · rename_i hm
        split
        · rename_i hc
          have hc' := eq_of_beq hc
          obtain ⟨pl, q1, q2⟩ := q hc'
          exact ⟨.cv (cur := 0) (by rw [hg]; simp only [SObj.norm, hm, if_true]; rfl) (Nat.le_refl _) hn (fun _ => ⟨pl, take_get q1 hlt', q2⟩), rfl⟩
        · exact ⟨.bad (by simp [Value.oneCell']), rfl⟩
      · rename_i hm
        exact ⟨.cv (by rw [hg]; simp only [SObj.norm, hm]; rfl) l hn (fun e => by obtain ⟨pl, q1, q2⟩ := q e; exact ⟨pl, take_get q1 hlt', q2⟩), rfl⟩
    · exact ⟨.bad (by simp [Value.oneCell']), rfl⟩
  | .ep id ver off, _, .ep h l q => by
    simp only [V.norm, h]
    split
    · rename_i hlt
      have hlt' : id < k := by simpa [Nat.blt_eq] using hlt
      have hg := normS_at (m := m) h hlt'
      split
      · rename_i hm
        split
        · rename_i hc
          have hc' := eq_of_beq hc
          obtain ⟨pl, q1, q2⟩ := q hc'
          exact ⟨.ep (cur := 0) (by rw [hg]; simp only [SObj.norm, hm, if_true]; rfl) (Nat.le_refl _) (fun _ => ⟨pl, take_get q1 hlt', q2⟩), rfl⟩
        · exact ⟨.bad (by simp [Value.oneCell']), rfl⟩
      · rename_i hm
        exact ⟨.ep (by rw [hg]; simp only [SObj.norm, hm]; rfl) l (fun e => by obtain ⟨pl, q1, q2⟩ := q e; exact ⟨pl, take_get q1 hlt', q2⟩), rfl⟩
    · exact ⟨.bad (by simp [Value.oneCell']), rfl⟩
  | .yld id, _, .yld h q => ⟨.bad (by simp [Value.oneCell']), rfl⟩
  | .agg vs, _, .agg h => ⟨by simp only [V.norm]; exact mkAgg_spec (Vcs.norm hp h).1, by simp only [V.norm]; rw [mkAgg_isAgg]; rfl⟩
  | .clo f vs, _, .clo h q => ⟨by simp only [V.norm]; exact .clo (Vcs.norm hp h).1 ((Vcs.norm hp h).2 q), rfl⟩
  | _, _, .bad h => ⟨.bad h, rfl⟩
theorem Vcs.norm {m k : Nat} (hp : Pres w (okOf U κ) w (okOf U (κ.take k))) : ∀ {vs : List V} {cs : List Value}, Vcs U κ s w vs cs → Vcs U (κ.take k) (normS m k s 0 s) w (V.norms m k s vs) cs ∧ ((∀ v ∈ vs, v.isAgg = false) → ∀ v ∈ V.norms m k s vs, v.isAgg = false)
  | _, _, .nil => ⟨.nil, by simp [V.norms]⟩
  | _, _, .cons h q => ⟨.cons (Vc.norm hp h).1 (Vcs.norm hp q).1, fun hn v hv => by
    simp only [V.norms] at hv
    rcases List.mem_cons.1 hv with rfl | hv
    · rw [(Vc.norm hp h).2]; exact hn _ (by simp)
    · exact (Vcs.norm hp q).2 (fun v hv => hn v (by simp [hv])) v hv⟩
end

theorem norm_t_get {m k : Nat} : ∀ {L : List Nat} {t : List (Nat × V)} {x : Nat} {v : V}, getT (L.filterMap fun x => (getT t x).map fun v => (x, v.norm m k s)) x = some v → ∃ u, getT t x = some u ∧ v = u.norm m k s
  | [], t, x, v, h => by simp [getT_nil, getT_cons] at h
  | y :: L, t, x, v, h => by
    rw [List.filterMap_cons] at h
    cases hy : getT t y with
    | none => simp only [hy, Option.map_none] at h; exact norm_t_get h
    | some u =>
      simp only [hy, Option.map_some, getT_nil, getT_cons] at h
      split at h
      · rename_i hxy
        have : y = x := by simpa using hxy
        subst this
        injection h with h
        exact ⟨u, hy, h.symm⟩
      · exact norm_t_get h

theorem norm_rel0 {st : St} {a : Act} (h : Rel U κ st a w) (m k : Nat) (keep : List Nat) (hl : noLp st.s = true) : Rel U (κ.take k) (st.norm0 m k keep) a w ∧ Step U κ w (κ.take k) w := by
  have hp : Pres w (okOf U κ) w (okOf U (κ.take k)) := fun b o v hv ho => ⟨hv, ho.1, fun pl hpl => ho.2 pl (List.mem_of_mem_take hpl)⟩
  refine ⟨⟨⟨h.store.up, by simp [St.norm0, normS_len (Nat.zero_le k), h.store.len], fun id o pl a' b => ?_, fun i j p p' hi hj => ?_, fun pl hpl => h.store.below pl (List.mem_of_mem_take hpl), fun pl hpl => h.store.mine pl (List.mem_of_mem_take hpl), h.store.glob.pres hp⟩, h.size, h.defers.sub (fun pl hpl hl => ⟨pl, List.mem_of_mem_take hpl, hl, rfl⟩), fun x v hg => ?_⟩, ⟨.refl _ _, fun pl hpl hl => .inl ⟨pl, List.mem_of_mem_take hpl, hl, rfl⟩, hp⟩⟩
  · simp only [St.norm0] at a'
    rw [normS_get, Nat.zero_add] at a'
    rw [List.getElem?_take] at b
    split at b
    · rename_i hlt
      rw [if_pos hlt] at a'
      simp only [Option.map_eq_some_iff] at a'
      obtain ⟨o', ho', rfl⟩ := a'
      have hob := h.store.obj id o' pl ho' b
      cases o' with
      | box v =>
        obtain ⟨x0, x1, x2, x3, cells, elem, x4, x5⟩ := hob
        have hw := Vc.norm (m := m) hp x5
        refine ⟨x0, x1, ?_, x3, cells, elem, x4, hw.1⟩
        rw [x2]
        have e1 := x5.len
        have e2 := hw.1.len
        omega
      | row ver e => simp only [SObj.norm]; split <;> exact hob
      | map es =>
        obtain ⟨x0, x3, ents, clock, x4, x5⟩ := hob
        exact ⟨x0, x3, ents, clock, x4, x5.pres hp⟩
      | vec c v =>
        obtain ⟨x0, x1, x3, cells, elem, ⟨cs', more, q1, q2⟩, x4, x5⟩ := hob
        simp only [SObj.norm]
        split <;> exact ⟨x0, x1, x3, cells, elem, ⟨cs', more, q1, (Vc.norm hp q2).1⟩, x4, x5⟩
      | dead => exact hob
      | lp ls pd d f n t ps as bd => exact absurd (List.mem_of_getElem? ho') (noLp_lp hl)
      | dfr => exact absurd (List.mem_of_getElem? ho') (noLp_dfr hl)
    · cases b
  · rw [List.getElem?_take] at hi hj
    split at hi
    · split at hj
      · exact h.store.apart i j p p' hi hj
      · cases hj
    · cases hi
  · obtain ⟨u, hu, rfl⟩ := norm_t_get hg
    have hs := h.slot x u hu
    have fin : ∀ y, a.tmps[x]? = some y → VV1 U κ st.s w u y → Slot U (κ.take k) (st.norm0 m k keep).s w a x (u.norm m k st.s) := by
      intro y hy hv
      have hw := Vc.norm (m := m) hp hv.1
      have h1 : VV1 U (κ.take k) (st.norm0 m k keep).s w (u.norm m k st.s) y := ⟨hw.1, by rw [hw.2]; exact hv.2⟩
      generalize u.norm m k st.s = u' at h1
      cases u' with
      | wh d want z => exact absurd h1.1 (by intro q; cases q)
      | bad => trivial
      | tup vs => exact absurd h1.1 (by intro q; cases q)
      | _ => exact ⟨y, hy, h1⟩
    cases u with
    | tup vs => simp only [V.norm]; trivial
    | wh d want z => simp only [V.norm]; trivial
    | bad => simp only [V.norm]; trivial
    | p t => obtain ⟨y, p, q⟩ := hs; exact fin y p q
    | rb b => obtain ⟨y, p, q⟩ := hs; exact fin y p q
    | ptr _ _ => obtain ⟨y, p, q⟩ := hs; exact fin y p q
    | row _ _ _ => obtain ⟨y, p, q⟩ := hs; exact fin y p q
    | map _ => obtain ⟨y, p, q⟩ := hs; exact fin y p q
    | view _ _ _ => obtain ⟨y, p, q⟩ := hs; exact fin y p q
    | cv _ _ _ _ _ => obtain ⟨y, p, q⟩ := hs; exact fin y p q
    | ep _ _ _ => obtain ⟨y, p, q⟩ := hs; exact fin y p q
    | yld _ => obtain ⟨y, p, q⟩ := hs; exact fin y p q
    | agg _ => obtain ⟨y, p, q⟩ := hs; exact fin y p q
    | clo _ _ => obtain ⟨y, p, q⟩ := hs; exact fin y p q

theorem norm_ext {n m k : Nat} (hm : n ≤ m) (hk : n ≤ k) (hl : noLp s = true) : ExtN n κ s (κ.take k) (normS m k s 0 s) := by
  refine ⟨fun id v pl hn a b => ?_, fun id es pl hn a b => ?_, fun id cur e hn a => ?_, fun id cur v hn a => ?_, fun id ls pd d f m t ps as bd pl hn a b => absurd (List.mem_of_getElem? a) (noLp_lp hl), fun id pl hn a b => absurd (List.mem_of_getElem? a) (noLp_dfr hl)⟩
  · exact ⟨_, pl, by rw [normS_at a (by omega)]; rfl, take_get b (by omega), rfl⟩
  · exact ⟨_, pl, by rw [normS_at a (by omega)]; rfl, take_get b (by omega), rfl⟩
  · have : Nat.ble m id = false := by rw [Bool.eq_false_iff]; simp only [ne_eq, Nat.ble_eq]; omega
    exact ⟨cur, by rw [normS_at a (by omega)]; simp only [SObj.norm, this]; rfl, Nat.le_refl _, fun _ => by rw [List.getElem?_take, if_pos (by omega)]⟩
  · have : Nat.ble m id = false := by rw [Bool.eq_false_iff]; simp only [ne_eq, Nat.ble_eq]; omega
    exact ⟨cur, _, by rw [normS_at a (by omega)]; simp only [SObj.norm, this]; rfl, Nat.le_refl _, fun _ => by rw [List.getElem?_take, if_pos (by omega)]⟩

theorem norm_rel {n m k : Nat} {st : St} {a : Act} (h : Rel U κ st a w) (hm : n ≤ m) (hk : n ≤ k) (keep : List Nat) : ∃ κ', Rel U κ' (st.norm m k keep) a w ∧ Step U κ w κ' w ∧ ExtN n κ st.s κ' (st.norm m k keep).s := by
  unfold St.norm
  split
  · rename_i hl
    obtain ⟨r1, r2⟩ := norm_rel0 h m k keep hl
    exact ⟨_, r1, r2, norm_ext hm hk hl⟩
  · exact ⟨κ, h, .refl _ _ _, .of (.refl _ _)⟩

theorem CodeG.norm {n m k : Nat} {c : Code} {st st' : St} {e : Ex} (h : CodeG P n c st e st') (hm : n ≤ m) (hk : n ≤ k) (keep : List Nat) : CodeG P n c st e (st'.norm m k keep) := by
  intro ro hro U κ a w hr
  refine wpIn_mono (h ro hro U κ a w hr) (fun x a' w' hq => ?_)
  obtain ⟨q1, κ', q2, q3, q4⟩ := hq
  obtain ⟨κ2, r1, r2, r3⟩ := norm_rel q2 hm hk keep
  exact ⟨q1, κ2, r1, q3.trans r2, q4.trans r3⟩

theorem LoopG.pre {n m k : Nat} {c : Code} {st st' : St} {e : Ex} (hm : n ≤ m) (hk : n ≤ k) (keep : List Nat) (h : LoopG P n c (st.norm m k keep) e st') : LoopG P n c st e st' := by
  obtain ⟨j, h⟩ := h
  refine ⟨j, fun ro hro U κ a w hr => ?_⟩
  obtain ⟨κ2, r1, r2, r3⟩ := norm_rel hr hm hk keep
  refine roundsIn_mono (fun x a' w' hq => ?_) (h ro hro U _ a w r1)
  obtain ⟨q1, κ', q2, q3, q4⟩ := hq
  exact ⟨q1, κ', q2, r2.trans q3, r3.trans q4⟩
end norm

/-- A run over a list: on, or out. -/
def runS {α σ ρ : Type} (step : σ → α → σ ⊕ ρ) : List α → σ → ρ ⊕ σ
  | [], s => .inr s
  | x :: r, s => match step s x with
    | .inl s' => runS step r s'
    | .inr q => .inl q

def outS {α σ ρ : Type} (step : σ → α → σ ⊕ ρ) (X : ρ → Ex × St) (Y : σ → Ex × St) (l : List α) (s : σ) : Ex × St := match runS step l s with
  | .inl q => X q
  | .inr s' => Y s'

theorem loopG_run {α σ ρ : Type} {n : Nat} {c : Code} (l : List α) (S : Nat → σ → St) (step : σ → α → σ ⊕ ρ) (X : ρ → Ex × St) (Y : σ → Ex × St) (Inv : Nat → σ → Prop)
    (hgo : ∀ i s x s', Inv i s → i < l.length → l[i]? = some x → step s x = .inl s' → Inv (i + 1) s' ∧ CodeG P n c (S i s) .normal (S (i + 1) s'))
    (hst : ∀ i s x q, Inv i s → i < l.length → l[i]? = some x → step s x = .inr q → (X q).1.out = true ∧ CodeG P n c (S i s) (X q).1 (X q).2)
    (hend : ∀ s, Inv l.length s → (Y s).1.out = true ∧ CodeG P n c (S l.length s) (Y s).1 (Y s).2) :
    ∀ s, Inv 0 s → LoopG P n c (S 0 s) (outS step X Y l s).1 (outS step X Y l s).2 := by
  have key : ∀ (r : List α) (i : Nat) (s : σ), l.drop i = r → i ≤ l.length → Inv i s → LoopG P n c (S i s) (outS step X Y r s).1 (outS step X Y r s).2 := by
    intro r
    induction r with
    | nil =>
      intro i s h hi hI
      have : i = l.length := by
        have := congrArg List.length h
        simp at this
        omega
      subst this
      obtain ⟨a, b⟩ := hend s hI
      exact LoopG.leave b a
    | cons x r ih =>
      intro i s h hi hI
      have hx : l[i]? = some x := by
        have := congrArg (·[0]?) h
        simpa using this
      have hlt : i < l.length := by
        rcases Nat.lt_or_ge i l.length with q | q
        · exact q
        · rw [List.getElem?_eq_none q] at hx; cases hx
      unfold outS
      simp only [runS]
      cases hs : step s x with
      | inl s' =>
        obtain ⟨a, b⟩ := hgo i s x s' hI hlt hx hs
        refine LoopG.next b (ih (i + 1) s' ?_ hlt a)
        have := congrArg List.tail h
        simpa [List.tail_drop] using this
      | inr q =>
        obtain ⟨a, b⟩ := hst i s x q hI hlt hx hs
        exact LoopG.leave b a
  exact fun s hI => key l 0 s rfl (Nat.zero_le _) hI

/-- An element of a list that was turned to trees. -/
theorem el_at {α : Type} {f : α → T} {l : List α} {i : Nat} {x : α} (h : l[i]? = some x) : 0 ≤ (i : Int) ∧ (l.map f)[(i : Int).toNat]? = some (f x) := by
  simp [h]

theorem lt_at {α : Type} {f : α → T} {l : List α} {i : Nat} (h : i < l.length) : decide ((i : Int) < (((l.map f).length : Nat) : Int)) = true := by
  simp; omega

theorem nlt_at {α : Type} {f : α → T} {l : List α} : decide ((l.length : Int) < (((l.map f).length : Nat) : Int)) = false := by simp

theorem wi {i : Nat} {m : Nat} (h : i < m) (hm : m ≤ 4294967296) : IntKind.i64.wrap ((i : Int) + 1) = ((i + 1 : Nat) : Int) := by
  rw [w64 (by omega) (by omega)]; simp

end Go.HM
