/- HN, part Ba: a region whose order is drawn, in which more than one object is made. -/
import Derived.Test.YtaghnihkkofmnaaGreatHnB
namespace Go.HM

variable {P : Program} {U : Nat → Nat → Prop} {κ : List Place} {s : List SObj} {w : World} {ok : Nat → Nat → Prop} {pr : Oper → Bool}

/-- It makes a box, whatever comes. -/
def bal (o : Oper) : Bool := match o.op, o.guard, o.dst with
  | .alloc _, none, some _ => true
  | _, _, _ => false

def tcA (pr : Oper → Bool) (o : Oper) : Nat := if bal o then 1 else tch pr o

/-- What makes a box looks at what nobody leaves alone. -/
def apA (ap : Nat → Nat → Bool) (ops : Array Oper) (i k : Nat) : Bool := ap i k && (match ops[i]? with | some o => !bal o | none => false)

def touchB (pr : Oper → Bool) (o : Oper) : Bool := (tch pr o == 2) && !bal o

/-- The boxes are made ahead of all else that writes. -/
def balFirst (pr : Oper → Bool) : List Oper → Bool
  | [] => true
  | o :: os => if touchB pr o then (o :: os).all (fun o => !bal o) else balFirst pr os

def indepA (ap : Nat → Nat → Bool) (pr : Oper → Bool) (ops : Array Oper) : Bool := balFirst pr ops.toList && indepG (apA ap ops) (tcA pr) ops

theorem balFirst_spec : ∀ {os : List Oper}, balFirst pr os = true → ∃ f, f ≤ os.length ∧ (∀ k o, k < f → os[k]? = some o → touchB pr o = false) ∧ (∀ k o, f ≤ k → os[k]? = some o → bal o = false)
  | [], _ => ⟨0, by simp, fun k o h => by omega, fun k o _ h => by simp at h⟩
  | o :: os, h => by
    unfold balFirst at h
    split at h
    · refine ⟨0, by simp, fun k o h => by omega, fun k o' _ hk => ?_⟩
      have := List.all_eq_true.1 h o' (List.mem_of_getElem? hk)
      simpa using this
    · rename_i hn
      obtain ⟨f, h1, h2, h3⟩ := balFirst_spec h
      refine ⟨f + 1, by simp; omega, fun k o' hk ho => ?_, fun k o' hk ho => ?_⟩
      · cases k with
        | zero => simp at ho; subst ho; simpa using hn
        | succ k => simp at ho; exact h2 k o' (by omega) ho
      · cases k with
        | zero => omega
        | succ k => simp at ho; exact h3 k o' (by omega) ho

theorem bal_op {o : Oper} (h : bal o = true) : ∃ e d, o.op = .alloc e ∧ o.guard = none ∧ o.dst = some d := by
  unfold bal at h
  split at h
  · rename_i e d h1 h2 h3; exact ⟨e, d, h1, h2, h3⟩
  · cases h

theorem bal_tch {o : Oper} (h : bal o = true) : tch pr o = 2 := by
  obtain ⟨e, d, h1, h2, h3⟩ := bal_op h
  obtain ⟨dst, op, type, pos, after, guard⟩ := o
  simp only at h1; subst h1
  simp [tch, isCall, isBS, touch]

theorem tcA_bal {o : Oper} (h : bal o = true) : tcA pr o = 1 := by unfold tcA; rw [if_pos h]
theorem tcA_not {o : Oper} (h : bal o = false) : tcA pr o = tch pr o := by unfold tcA; rw [h]; rfl

/-- What the making of a box comes to. -/
theorem bal_step {ops : Array Oper} {o : Oper} {t : List (Nat × V)} {s s1 : List SObj} {v : V} (h : StepG P pr ops o t s v s1) (ha : bal o = true) :
    ∃ e z, o.op = .alloc e ∧ zeroOf P e = some z ∧ s1 = s ++ [.box (.p z)] ∧ v = .ptr s.length 0 := by
  obtain ⟨e, d, h1, h2, h3⟩ := bal_op ha
  have hc0 : isCall o = false := by unfold isCall; rw [h1]
  have hb0 : isBS o = false := by unfold isBS; rw [h1]
  induction h with
  | skip hg => unfold guardOf at hg; rw [h2] at hg; cases hg
  | run hg hc hbs hq hob hnw =>
    obtain ⟨dst, op, type, pos, after, guard⟩ := o
    simp only at h1; subst h1
    unfold hop at hq
    simp only [touch, hopA, hop0, hop2] at hq
    split at hq
    · rename_i q0 e1
      obtain ⟨z, hz, rfl⟩ := opmap e1
      injection hq with hq; subst hq; exact ⟨e, z, rfl, hz, rfl, rfl⟩
    · cases hq
  | vrun hg hc hbs hq hnw =>
    obtain ⟨dst, op, type, pos, after, guard⟩ := o
    simp only at h1; subst h1
    simp [hopW, hopW0, hopW1, hopW2] at hq
  | pcall hg hc => rw [hc0] at hc; cases hc
  | gcall hg hc => rw [hc0] at hc; cases hc
  | bview hg hc => rw [hb0] at hc; cases hc
  | told _ ih => obtain ⟨_, _, _, _, _, e⟩ := ih; cases e

/-- A box comes to lie where nothing lay. -/
theorem alloc_revive {st : St} {a : Act} (h : Rel U κ st a w) {o : Oper} {e : TypeId} (ho : o.op = .alloc e) {z : T} (hz : zeroOf P e = some z) {id : Nat} (hd : st.s[id]? = some .dead) :
    OpOk P U κ st.s a w o ⟨.ptr id 0, st.s.set id (.box (.p z)), []⟩ := by
  obtain ⟨i, v, h1, h2, h3, h4⟩ := zeroOf_spec (w := w) (ok := okOf U κ) hz
  have hlt := getElem?_lt hd
  have hltk : id < κ.length := by rw [h.store.len]; exact hlt
  have hk0 : κ[id]? = some κ[id] := List.getElem?_eq_getElem hltk
  have hoff : (κ[id]).on = false := h.store.obj id _ _ hd hk0
  generalize hpl0 : (⟨w.heap.size, 0, z.sz, true⟩ : Place) = pl
  have hblk : pl.blk = w.heap.size := by rw [← hpl0]
  have hpon : pl.on = true := by rw [← hpl0]
  have hmem : ∀ p ∈ κ.set id pl, p = pl ∨ ∃ j, j ≠ id ∧ κ[j]? = some p := fun p hp => mem_set_cases hp
  have hpres : Pres w (okOf U κ) { w with heap := w.heap.push (.cells v.cells e) } (okOf U (κ.set id pl)) := pres_push _ (fun p hp => by
    rcases hmem p hp with rfl | ⟨j, _, hj⟩
    · exact .inr (by omega)
    · exact .inl (List.mem_of_getElem? hj))
  have hext : Ext κ st.s (κ.set id pl) (st.s.set id (.box (.p z))) := by
    refine ⟨fun j x p a b => ?_, fun j x p a b => ?_, fun j c e a => ?_, fun j c x a => ?_, fun j ls pd d f n t ps as bd p a b => ?_, fun j p a b => ?_⟩ <;> by_cases hj : j = id
    · subst hj; rw [hd] at a; cases a
    · exact ⟨x, p, by rw [List.getElem?_set_ne (Ne.symm hj)]; exact a, by rw [List.getElem?_set_ne (Ne.symm hj)]; exact b, rfl⟩
    · subst hj; rw [hd] at a; cases a
    · exact ⟨x, p, by rw [List.getElem?_set_ne (Ne.symm hj)]; exact a, by rw [List.getElem?_set_ne (Ne.symm hj)]; exact b, rfl⟩
    · subst hj; rw [hd] at a; cases a
    · exact ⟨c, by rw [List.getElem?_set_ne (Ne.symm hj)]; exact a, Nat.le_refl _, fun _ => by rw [List.getElem?_set_ne (Ne.symm hj)]⟩
    · subst hj; rw [hd] at a; cases a
    · exact ⟨c, x, by rw [List.getElem?_set_ne (Ne.symm hj)]; exact a, Nat.le_refl _, fun _ => by rw [List.getElem?_set_ne (Ne.symm hj)]⟩
    · subst hj; rw [hd] at a; cases a
    · exact ⟨ls, pd, t, p, by rw [List.getElem?_set_ne (Ne.symm hj)]; exact a, by rw [List.getElem?_set_ne (Ne.symm hj)]; exact b, rfl⟩
    · subst hj; rw [hd] at a; cases a
    · exact ⟨p, by rw [List.getElem?_set_ne (Ne.symm hj)]; exact a, by rw [List.getElem?_set_ne (Ne.symm hj)]; exact b, rfl⟩
  have hstep : Step U κ w (κ.set id pl) { w with heap := w.heap.push (.cells v.cells e) } := ⟨kept_push κ w _, fun p hp hl => by
    rcases hmem p hp with rfl | ⟨j, _, hj⟩
    · exact .inr (by omega)
    · exact .inl ⟨p, List.mem_of_getElem? hj, hl, rfl⟩, hpres⟩
  have hv : Vc U (κ.set id pl) (st.s.set id (.box (.p z))) { w with heap := w.heap.push (.cells v.cells e) } (.p z) v.cells.toList := (Vc.p h3.1).ext hpres hext
  have hget : ({ w with heap := w.heap.push (.cells v.cells e) } : World).heap[w.heap.size]? = some (.cells v.cells e (0, 0)) := by simp
  have hrel : RelS U (κ.set id pl) (st.s.set id (.box (.p z))) { w with heap := w.heap.push (.cells v.cells e) } := by
    refine ⟨fun b x hb' => h.store.up b x (by simp at hb'; omega), by simp [h.store.len], fun j o' p a b => ?_, fun i j p p' hi hj hne hl hl' => ?_, fun p hp hl => ?_, fun p hp hl o => ?_, h.store.glob.pres hpres⟩
    · by_cases hj : j = id
      · subst hj
        simp [hltk] at b
        simp [hlt] at a
        subst a b
        refine ⟨hpon, by rw [← hpl0], by rw [← hpl0]; rfl, by rw [hblk]; simp, v.cells, e, ?_, hv⟩
        rw [hblk]
        exact BoxAt.plain hget
      · rw [List.getElem?_set_ne (Ne.symm hj)] at a b
        have hob := h.store.obj j o' p a b
        cases o' with
        | box x =>
          obtain ⟨x0, x1, x2, x3, cells, elem, x4, x5⟩ := hob
          exact ⟨x0, x1, x2, by simp; omega, cells, elem, x4.of_eq (heap_push_lt w _ x3), x5.ext hpres hext⟩
        | row ver e' =>
          intro x0
          obtain ⟨x3, x4⟩ := hob x0
          exact ⟨by simp; omega, fun q q1 q2 => by rw [cell_heap (heap_push_lt w _ x3), frozen_heap (heap_push_lt w _ x3)]; exact x4 q q1 q2⟩
        | map es =>
          obtain ⟨x0, x3, ents, clock, x4, x5⟩ := hob
          exact ⟨x0, by simp; omega, ents, clock, by rw [heap_push_lt w _ x3]; exact x4, x5.pres hpres⟩
        | vec c x =>
          obtain ⟨x0, x1, x3, cs, el, ⟨cs', more, q1, q2⟩, x4, x5⟩ := hob
          exact ⟨x0, x1, by simp; omega, cs, el, ⟨cs', more, q1, q2.ext hpres hext⟩, x4.of_eq (heap_push_lt w _ x3), x5⟩
        | dead => exact hob
        | lp ls pd d f n t ps as bd => exact ObjR.lpMove hpres hext (by simp) (fun x0 => heap_push_lt w _ hob.2.2.2.1) hob
        | dfr => exact ObjR.dfrMove (by simp) (fun x0 => heap_push_lt w _ hob.2.2.2.1) hob
    · have key : ∀ (i : Nat) (q : Place), (κ.set id pl)[i]? = some q → (i ≠ id ∧ κ[i]? = some q) ∨ (i = id ∧ q = pl) := fun i q hq => by
        by_cases hi : i = id
        · subst hi; simp [hltk] at hq; exact .inr ⟨rfl, hq.symm⟩
        · rw [List.getElem?_set_ne (Ne.symm hi)] at hq; exact .inl ⟨hi, hq⟩
      rcases key i p hi with ⟨_, a⟩ | ⟨ai, a⟩ <;> rcases key j p' hj with ⟨_, b⟩ | ⟨bi, b⟩
      · exact h.store.apart i j p p' a b hne hl hl'
      · subst b; have := h.store.below p (List.mem_of_getElem? a) hl; omega
      · subst a; have := h.store.below p' (List.mem_of_getElem? b) hl'; omega
      · omega
    · rcases hmem p hp with rfl | ⟨j, _, hj⟩
      · simp; omega
      · have := h.store.below p (List.mem_of_getElem? hj) hl; simp; omega
    · rcases hmem p hp with rfl | ⟨j, _, hj⟩
      · exact h.store.up _ o (by omega)
      · exact h.store.mine p (List.mem_of_getElem? hj) hl o
  refine ⟨.value (.pointer (some ⟨w.heap.size, 0, none⟩)), _, _, ?_, .inl ⟨_, rfl, VV_of1 (VV1_of_cell ?_ rfl)⟩, hrel, hstep, hext⟩
  · unfold execOp
    simp only [ho]
    exact run_v _ (by simp [Instr.alloc, run_zero h1 h2, Result.andThen, newVar, newRow])
  · rw [← hblk]
    exact .ptr (v := .p z) (pl := pl) (by simp [hlt]) (by simp [hltk])

theorem bal_keep {ops : Array Oper} {o : Oper} {t : List (Nat × V)} {s s1 : List SObj} {v : V} (h : StepG P pr ops o t s v s1) (ha : bal o = true) {id : Nat} (hid : id < s.length) : s1[id]? = s[id]? := by
  obtain ⟨_, _, _, _, rfl, _⟩ := bal_step h ha
  rw [List.getElem?_append_left hid]

/-- How far a drawn run is: who is listed; the store, with what is still to be made. -/
structure InvA (P : Program) (pr : Oper → Bool) (ops : Array Oper) (f : Nat) (t : Nat → List (Nat × V)) (s : Nat → List SObj) (v : Nat → V) (listed : Array Bool) (st : St) : Prop where
  size : listed.size = ops.size
  down : ∀ k o e, Lst listed k → ops[k]? = some o → e ∈ o.after → Region.binds .any e = true → Lst listed e.on
  wh : ∀ x d want u, getT st.t x = some (.wh d want u) → ∃ j o, Lst listed j ∧ ops[j]? = some o ∧ o.dst = some d
  put : ∀ x j o, Lst listed j → ops[j]? = some o → o.dst = some x → getT st.t x = some (v j)
  old : ∀ x, (∀ j o, Lst listed j → ops[j]? = some o → o.dst ≠ some x) → getT st.t x = getT (t 0) x
  store : ∀ m, f ≤ m → m ≤ ops.size → (∀ k o, ops[k]? = some o → touchB pr o = true → (Lst listed k ↔ k < m)) →
    st.s.length = (s m).length ∧ (∀ k o, ops[k]? = some o → bal o = true → ¬ Lst listed k → st.s[(s k).length]? = some .dead) ∧ (∀ id, (∀ k o, ops[k]? = some o → bal o = true → ¬ Lst listed k → (s k).length ≠ id) → st.s[id]? = (s m)[id]?)

/-- A box that need not be made ahead of the i-th operation. -/
def UnB (ops : Array Oper) (anc : Nat → Nat → Prop) (s : Nat → List SObj) (i id : Nat) : Prop := ∃ k o, ops[k]? = some o ∧ bal o = true ∧ ¬ anc k i ∧ (s k).length = id

/-- What writes does so as well where such boxes are not made yet, and leaves them alone. -/
structure FrA (P : Program) (pr : Oper → Bool) (ops : Array Oper) (anc : Nat → Nat → Prop) (t : Nat → List (Nat × V)) (s : Nat → List SObj) (v : Nat → V) : Prop where
  step : ∀ i o, ops[i]? = some o → touchB pr o = true → ∀ S, S.length = (s i).length → (∀ id, S[id]? = (s i)[id]? ∨ (S[id]? = some .dead ∧ UnB ops anc s i id)) →
    ∃ S', StepG P pr ops o (t i) S (v i) S' ∧ S'.length = (s (i + 1)).length ∧ (∀ id, UnB ops anc s i id → S'[id]? = S[id]?) ∧ ∀ id, ¬ UnB ops anc s i id → S'[id]? = (s (i + 1))[id]?
  keep : ∀ i o, ops[i]? = some o → touchB pr o = true → ∀ id, UnB ops anc s i id → (s (i + 1))[id]? = (s i)[id]?

theorem touchB_not {o : Oper} (h : touchB pr o = false) (hb : bal o = false) : tch pr o ≠ 2 := by
  unfold touchB at h
  simpa [hb] using h
theorem touchB_iff {o : Oper} : touchB pr o = true ↔ tch pr o = 2 ∧ bal o = false := by
  unfold touchB
  simp

theorem bounds {ops : Array Oper} {k : Nat} {o : Oper} (h : ops[k]? = some o) : k < ops.size := by
  rcases Nat.lt_or_ge k ops.size with q | q
  · exact q
  · simp [Array.getElem?_eq_none q] at h

/-- No step makes the store shorter ahead of 'f'. -/
theorem pre_len {ops : Array Oper} {n f : Nat} {t : Nat → List (Nat × V)} {s : Nat → List SObj} {v : Nat → V} (hT : TraceG P pr ops n 0 ops.size t s v) (hf : f ≤ ops.size) (hf1 : ∀ k o, k < f → ops[k]? = some o → touchB pr o = false) :
    ∀ d a, a + d ≤ f → (s a).length ≤ (s (a + d)).length ∧ ∀ id, id < (s a).length → (s (a + d))[id]? = (s a)[id]?
  | 0, a, _ => ⟨Nat.le_refl _, fun _ _ => rfl⟩
  | d + 1, a, h => by
    obtain ⟨h1, h2⟩ := pre_len hT hf hf1 d a (by omega)
    obtain ⟨o, a1, a2, _⟩ := hT.step (a + d) (Nat.zero_le _) (by omega)
    rw [show a + (d + 1) = a + d + 1 by omega]
    cases hb : bal o with
    | true =>
      obtain ⟨_, _, _, _, e, _⟩ := bal_step a2 hb
      refine ⟨by rw [e]; simp; omega, fun id hid => ?_⟩
      rw [e, List.getElem?_append_left (by omega)]
      exact h2 id hid
    | false =>
      have ht := touchB_not (hf1 _ o (by omega) a1) hb
      have e := stepF_stillG a2 (by have := touch_leG (pr := pr) o; omega)
      rw [e]
      exact ⟨h1, h2⟩

/-- Places of boxes differ. -/
theorem bal_ids {ops : Array Oper} {n f : Nat} {t : Nat → List (Nat × V)} {s : Nat → List SObj} {v : Nat → V} (hT : TraceG P pr ops n 0 ops.size t s v) (hf : f ≤ ops.size) (hf1 : ∀ k o, k < f → ops[k]? = some o → touchB pr o = false)
    (hf2 : ∀ k o, f ≤ k → ops[k]? = some o → bal o = false) {i j : Nat} {oi oj : Oper} (hij : i < j) (hi : ops[i]? = some oi) (hj : ops[j]? = some oj) (bi : bal oi = true) (bj : bal oj = true) : (s i).length < (s j).length := by
  have hjf : j < f := Classical.byContradiction fun h => by rw [hf2 j oj (by omega) hj] at bj; cases bj
  obtain ⟨o, a1, a2, _⟩ := hT.step i (Nat.zero_le _) (by omega)
  rw [hi] at a1; injection a1 with a1; subst a1
  obtain ⟨_, _, _, _, e, _⟩ := bal_step a2 bi
  have := (pre_len hT hf hf1 (j - (i + 1)) (i + 1) (by omega)).1
  rw [show i + 1 + (j - (i + 1)) = j by omega, e] at this
  simp at this
  omega

theorem InvA.anc {ap : Nat → Nat → Bool} {tc : Oper → Nat} {ops : Array Oper} {f : Nat} {anc : Nat → Nat → Prop} (hI : IndepG ap tc ops anc) {t : Nat → List (Nat × V)} {s : Nat → List SObj} {v : Nat → V} {listed : Array Bool} {st : St} (h : InvA P pr ops f t s v listed st) : ∀ k i, anc i k → Lst listed k → Lst listed i := by
  intro k
  induction k using Nat.strongRecOn with
  | _ k ih =>
    intro i hi hk
    obtain ⟨o, e, a1, a2, a3, a4⟩ := hI.up i k hi
    have he := h.down k o e hk a1 a2 a3
    rcases a4 with rfl | a4
    · exact he
    · exact ih e.on (hI.back k o e a1 a2 a3) i a4 he

theorem anc_readyA {ap : Nat → Nat → Bool} {tc : Oper → Nat} {ops : Array Oper} {f : Nat} {anc : Nat → Nat → Prop} (hI : IndepG ap tc ops anc) {t : Nat → List (Nat × V)} {s : Nat → List SObj} {v : Nat → V} {listed : Array Bool} {st : St} (h : InvA P pr ops f t s v listed st) {i : Nat} {o : Oper} (ho : ops[i]? = some o) (hr : ∀ e ∈ o.after, Region.binds .any e = true → Lst listed e.on) {j : Nat} (hj : anc j i) : Lst listed j := by
  obtain ⟨o', e, a1, a2, a3, a4⟩ := hI.up j i hj
  rw [ho] at a1; injection a1 with a1; subst a1
  have he := hr e a2 a3
  rcases a4 with rfl | a4
  · exact he
  · exact h.anc hI e.on j a4 he

/-- The first place of which something holds. -/
theorem first_of {p : Nat → Prop} {k : Nat} (h : p k) : ∃ m, p m ∧ ∀ j, j < m → ¬ p j := by
  induction k using Nat.strongRecOn with
  | _ k ih =>
    by_cases hb : ∃ j, j < k ∧ p j
    · obtain ⟨j, hj, hp⟩ := hb
      exact ih j hj hp
    · exact ⟨k, h, fun j hj hp => hb ⟨j, hj, hp⟩⟩

theorem inv_stepA {ro : Option Nat} {ops : Array Oper} {ap ap' : Nat → Nat → Bool} (hsub : ∀ i k o, ops[i]? = some o → bal o = false → ap' i k = true → ap i k = true) {anc : Nat → Nat → Prop} {f : Nat} (hI : IndepG ap' (tcA pr) ops anc) {n : Nat} {t : Nat → List (Nat × V)} {s : Nat → List SObj} {v : Nat → V} (hT : TraceG P pr ops n 0 ops.size t s v) (h0 : ∀ x d want u, getT (t 0) x ≠ some (.wh d want u))
    (hf : f ≤ ops.size) (hf1 : ∀ k o, k < f → ops[k]? = some o → touchB pr o = false) (hf2 : ∀ k o, f ≤ k → ops[k]? = some o → bal o = false)
    {listed : Array Bool} {st : St} (h : InvA P pr ops f t s v listed st) (hn : st.n = n) (hap : ApOk P pr ops ap t s) (hfr : FrA P pr ops anc t s v) {a : Act} {w : World} (hrel : Rel U κ st a w) {i : Nat} (hi : i ∈ Region.ready .any ops listed) :
    ∃ st', st'.n = n ∧ InvA P pr ops f t s v (listed.setIfInBounds i true) st' ∧ ∀ Q, wpOpIn (FW ro) 0 P ops Q i (fun a' w' => ∃ κ', Rel U κ' st' a' w' ∧ Step U κ w κ' w' ∧ Ext κ st.s κ' st'.s) a w := by
  obtain ⟨o, ho, hnl, hr⟩ := (ready_iff h.size).1 hi
  have hilt := bounds ho
  obtain ⟨o', a1, a2, a3⟩ := hT.step i (Nat.zero_le _) (by omega)
  rw [ho] at a1; injection a1 with a1; subst a1
  have hget := trace_getG hI hT h0 i (by omega)
  have hanc : ∀ j, anc j i → Lst listed j := fun j hj => anc_readyA hI h ho hr hj
  have hnanc : ∀ j, anc i j → ¬ Lst listed j := fun j hj hL => hnl (h.anc hI j i hj hL)
  have hisz : i < listed.size := by rw [h.size]; exact hilt
  -- the slots that it names
  have hagree : Agree (reads ops o) (t i) st.t := by
    intro x hx
    by_cases hw : ∃ (j : Nat) (oj : Oper), ops[j]? = some oj ∧ oj.dst = some x
    · obtain ⟨j, oj, hj, hjd⟩ := hw
      have huniq : ∀ j' o', ops[j']? = some o' → o'.dst = some x → j' = j := fun j' o' h1 h2 => by
        by_cases he : j' = j
        · exact he
        · exact absurd hjd (hI.dst j' j o' oj x he h1 hj h2)
      rcases Nat.lt_trichotomy j i with hlt | heq | hgt
      · have hL := hanc j (hI.clash j i oj o hlt hj ho (clash_rwG hjd hx).1)
        rw [hget.2.1 x j oj hlt hj hjd, h.put x j oj hL hj hjd]
      · rw [hget.2.2 x (fun j' o' hlt' h1 h2 => by have := huniq j' o' h1 h2; omega), h.old x (fun j' o' hL h1 h2 => by have := huniq j' o' h1 h2; rw [this, heq] at hL; exact hnl hL)]
      · have hNL := hnanc j (hI.clash i j o oj hgt ho hj (clash_rwG hjd hx).2)
        rw [hget.2.2 x (fun j' o' hlt' h1 h2 => by have := huniq j' o' h1 h2; omega), h.old x (fun j' o' hL h1 h2 => by have := huniq j' o' h1 h2; rw [this] at hL; exact hNL hL)]
    · rw [hget.2.2 x (fun j' o' _ h1 h2 => hw ⟨j', o', h1, h2⟩), h.old x (fun j' o' _ h1 h2 => hw ⟨j', o', h1, h2⟩)]
  -- how far the writes are
  have hm : ∃ m, f ≤ m ∧ m ≤ ops.size ∧ ∀ k ok, ops[k]? = some ok → touchB pr ok = true → (Lst listed k ↔ k < m) := by
    by_cases hex : ∃ k ok, ops[k]? = some ok ∧ touchB pr ok = true ∧ ¬ Lst listed k
    · obtain ⟨k0, hk0⟩ := hex
      obtain ⟨m, ⟨om, hm1, hm2, hm3⟩, hm4⟩ := first_of (p := fun k => ∃ ok, ops[k]? = some ok ∧ touchB pr ok = true ∧ ¬ Lst listed k) hk0
      have hml := bounds hm1
      refine ⟨m, Classical.byContradiction (fun q => by rw [hf1 m om (by omega) hm1] at hm2; cases hm2), by omega, fun k ok hk hk2 => ⟨fun hL => ?_, fun hlt => ?_⟩⟩
      · rcases Nat.lt_trichotomy k m with q | q | q
        · exact q
        · subst q; exact absurd hL hm3
        · have c1 := touchB_iff.1 hm2
          have c2 := touchB_iff.1 hk2
          exact absurd (h.anc hI k m (hI.clash m k om ok q hm1 hk (clash_touchG (by rw [tcA_not c1.2]; exact c1.1) (by rw [tcA_not c2.2]; omega) (fun q => by rw [tcA_not c2.2] at q; omega)).1) hL) hm3
      · exact Classical.byContradiction fun hL => hm4 k hlt ⟨ok, hk, hk2, hL⟩
    · exact ⟨ops.size, hf, Nat.le_refl _, fun k ok hk hk2 => ⟨fun _ => bounds hk, fun _ => Classical.byContradiction fun hL => hex ⟨k, ok, hk, hk2, hL⟩⟩⟩
  obtain ⟨m, hfm, hms, hmm⟩ := hm
  obtain ⟨slen, sun, sli⟩ := h.store m hfm hms hmm
  -- what is put behind the step, but for the store
  have hrest : ∀ {s1 : List SObj} {st' : St}, setDst { st with s := s1 } o.dst (v i) = some st' → st'.n = n ∧ st'.s = s1 ∧
      (∀ k o e, Lst (listed.setIfInBounds i true) k → ops[k]? = some o → e ∈ o.after → Region.binds .any e = true → Lst (listed.setIfInBounds i true) e.on) ∧
      (∀ x d want u, getT st'.t x = some (.wh d want u) → ∃ j o, Lst (listed.setIfInBounds i true) j ∧ ops[j]? = some o ∧ o.dst = some d) ∧
      (∀ x j o, Lst (listed.setIfInBounds i true) j → ops[j]? = some o → o.dst = some x → getT st'.t x = some (v j)) ∧
      (∀ x, (∀ j o, Lst (listed.setIfInBounds i true) j → ops[j]? = some o → o.dst ≠ some x) → getT st'.t x = getT (t 0) x) := by
    intro s1 st' hst'
    have hnowh : ∀ x dd want u, o.dst = some dd → getT st.t x ≠ some (.wh dd want u) := fun x dd want u hd hw => by
      obtain ⟨j, oj, j1, j2, j3⟩ := h.wh x dd want u hw
      by_cases hji : j = i
      · rw [hji] at j1; exact hnl j1
      · exact hI.dst j i oj o dd hji j2 ho j3 hd
    obtain ⟨g1, g2, g3⟩ := setDst_get hst' hnowh
    refine ⟨by rw [g1]; exact hn, g2, fun k ok e hk hok he hb => ?_, fun x d want u hx => ?_, fun x j oj hj hoj hd => ?_, fun x hx => ?_⟩
    · rw [lst_set hisz] at hk ⊢
      rcases hk with rfl | hk
      · rw [ho] at hok; injection hok with hok; subst hok
        exact .inr (hr e he hb)
      · exact .inr (h.down k ok e hk hok he hb)
    · rw [g3] at hx
      split at hx
      · injection hx with hx
        rw [hx] at a2
        exact absurd rfl (stepF_noWh a2 d want u)
      · obtain ⟨j, oj, j1, j2, j3⟩ := h.wh x d want u hx
        exact ⟨j, oj, (lst_set hisz).2 (.inr j1), j2, j3⟩
    · rw [g3]
      rcases (lst_set hisz).1 hj with rfl | hj
      · rw [ho] at hoj; injection hoj with hoj; subst hoj
        simp [hd]
      · have hji : j ≠ i := fun e => by rw [e] at hj; exact hnl hj
        have : o.dst ≠ some x := fun e => hI.dst i j o oj x (Ne.symm hji) ho hoj e hd
        simp [this]
        exact h.put x j oj hj hoj hd
    · rw [g3, if_neg (hx i o ((lst_set hisz).2 (.inl rfl)) ho)]
      exact h.old x (fun j oj hj => hx j oj ((lst_set hisz).2 (.inr hj)))
  cases hb : bal o with
  | true =>
    obtain ⟨e, z, ho1, hz, hs1, hv⟩ := bal_step a2 hb
    have hif : i < f := Classical.byContradiction fun q => by rw [hf2 i o (by omega) ho] at hb; cases hb
    have hd := sun i o ho hb hnl
    obtain ⟨st', hst'⟩ := setDst_ok (v' := v i) a3 (st2 := { st with s := st.s.set (s i).length (.box (.p z)) }) hn
    obtain ⟨r1, r2, r3, r4, r5, r6⟩ := hrest hst'
    have hne : ∀ k ok, ops[k]? = some ok → bal ok = true → k ≠ i → (s k).length ≠ (s i).length := fun k ok hk bk hki => by
      rcases Nat.lt_or_gt_of_ne hki with q | q
      · have := bal_ids hT hf hf1 hf2 q hk ho bk hb; omega
      · have := bal_ids hT hf hf1 hf2 q ho hk hb bk; omega
    refine ⟨st', r1, ⟨by simp [h.size], r3, r4, r5, r6, fun m' hfm' hms' hmm' => ?_⟩, fun Q => ?_⟩
    · have hold : ∀ k ok, ops[k]? = some ok → touchB pr ok = true → (Lst listed k ↔ k < m') := fun k ok hk tk => by
        rw [← hmm' k ok hk tk, lst_set hisz]
        constructor
        · exact .inr
        · rintro (rfl | q)
          · rw [ho] at hk; injection hk with hk; subst hk
            rw [(touchB_iff.1 tk).2] at hb; cases hb
          · exact q
      obtain ⟨l1, l2, l3⟩ := h.store m' hfm' hms' hold
      refine ⟨by rw [r2]; simp; exact l1, fun k ok hk bk hkl => ?_, fun id hid => ?_⟩
      · rw [lst_set hisz] at hkl
        have hki : k ≠ i := fun e => hkl (.inl e)
        rw [r2, List.getElem?_set_ne (Ne.symm (hne k ok hk bk hki))]
        exact l2 k ok hk bk (fun q => hkl (.inr q))
      · rw [r2]
        by_cases hidi : id = (s i).length
        · subst hidi
          have hlt : (s i).length < st.s.length := getElem?_lt hd
          rw [List.getElem?_set_self hlt]
          have h1 := (pre_len hT hf hf1 (f - (i + 1)) (i + 1) (by omega)).2 (s i).length (by rw [hs1]; simp)
          have h2 := (pre_len hT hf hf1 (f - (i + 1)) (i + 1) (by omega)).1
          rw [show i + 1 + (f - (i + 1)) = f by omega] at h1 h2
          have h3 := store_keep hT (id := (s i).length) (m' - f) f (by omega) (fun k ok q1 q2 hk hk2 _ => by
            have bk := hf2 k ok q1 hk
            have tk : touchB pr ok = true := touchB_iff.2 ⟨hk2, bk⟩
            refine hfr.keep k ok hk tk _ ⟨i, o, ho, hb, fun q => ?_, rfl⟩
            exact hnanc k q ((hold k ok hk tk).2 (by omega))) (by rw [hs1] at h2; simp at h2; omega)
          rw [show f + (m' - f) = m' by omega] at h3
          rw [h3, h1, hs1]
          simp
        · rw [List.getElem?_set_ne (Ne.symm hidi)]
          refine l3 id (fun k ok hk bk hkl => ?_)
          by_cases hki : k = i
          · subst hki; exact Ne.symm hidi
          · exact hid k ok hk bk (fun q => by rcases (lst_set hisz).1 q with q | q; exact hki q; exact hkl q)
    · obtain ⟨e', d, _, hg, _⟩ := bal_op hb
      have hg' : guardOf ops st.t o = some (.run none) := by unfold guardOf; rw [hg]
      have hw := guard_spec hrel hg'
      simp only at hw
      unfold wpOpIn
      rw [ho]
      simp only
      rw [hw]
      simp only [if_true]
      obtain ⟨nx, w', κ', q1, q2, q3, q4, q5⟩ := alloc_revive hrel ho1 hz hd
      have hrel' := hrel.carry q3 q4 q5
      refine oper_in (not_defer q1 (by rcases q2 with ⟨x, e, _⟩ | ⟨e, _⟩; exact .inl ⟨x, e⟩; exact .inr e)) ?_
      unfold Oper.wp
      rw [q1]
      rw [hv] at hst'
      rcases q2 with ⟨x, rfl, hvx⟩ | ⟨_, hvx⟩
      · exact ⟨κ', setDst_rel hrel' hst' (.inr hvx), q4, by rw [r2]; exact q5⟩
      · cases hvx
  | false =>
    have htc : tcA pr o = tch pr o := tcA_not hb
    by_cases ht : tch pr o = 2
    · have tB : touchB pr o = true := touchB_iff.2 ⟨ht, hb⟩
      have hfi : f ≤ i := Classical.byContradiction fun q => by rw [hf1 i o (by omega) ho] at tB; cases tB
      have hcond : ∀ k ok, ops[k]? = some ok → touchB pr ok = true → (Lst listed k ↔ k < i) := fun k ok hk tk => by
        have t2 := touchB_iff.1 tk
        rcases Nat.lt_trichotomy k i with hlt | heq | hgt
        · exact ⟨fun _ => hlt, fun _ => hanc k (hI.clash k i ok o hlt hk ho (clash_touchG (by rw [tcA_not t2.2]; exact t2.1) (by rw [htc]; omega) (fun q => by rw [htc] at q; omega)).1)⟩
        · subst heq; exact ⟨fun hL => absurd hL hnl, fun hlt => by omega⟩
        · exact ⟨fun hL => absurd hL (hnanc k (hI.clash i k o ok hgt ho hk (clash_touchG (x := ok) (y := o) (by rw [tcA_not t2.2]; exact t2.1) (by rw [htc]; omega) (fun q => by rw [htc] at q; omega)).2)), fun hlt => by omega⟩
      obtain ⟨l1, l2, l3⟩ := h.store i hfi (by omega) hcond
      obtain ⟨S', f1, f2, f3, f4⟩ := hfr.step i o ho tB st.s l1 (fun id => by
        by_cases hid : ∀ k ok, ops[k]? = some ok → bal ok = true → ¬ Lst listed k → (s k).length ≠ id
        · exact .inl (l3 id hid)
        · refine .inr ?_
          have ⟨k, hk⟩ := Classical.not_forall.1 hid
          have ⟨ok, hk⟩ := Classical.not_forall.1 hk
          have ⟨k1, hk⟩ := Classical.not_forall.1 hk
          have ⟨k2, hk⟩ := Classical.not_forall.1 hk
          have ⟨k3, hk⟩ := Classical.not_forall.1 hk
          have hk := Classical.not_not.1 hk
          exact ⟨by rw [← hk]; exact l2 k ok k1 k2 k3, k, ok, k1, k2, fun q => k3 (hanc k q), hk⟩)
      have hF := f1.agree hagree (fun _ => rfl)
      rw [if_pos ht] at hF
      obtain ⟨st', hst'⟩ := setDst_ok (v' := v i) a3 (st2 := { st with s := S' }) hn
      obtain ⟨r1, r2, r3, r4, r5, r6⟩ := hrest hst'
      refine ⟨st', r1, ⟨by simp [h.size], r3, r4, r5, r6, fun m' hfm' hms' hmm' => ?_⟩, fun Q => stepG_sound ho hF hst' hrel⟩
      have him : i < m' := (hmm' i o ho tB).1 ((lst_set hisz).2 (.inl rfl))
      have hsm := store_constG hT (m' - (i + 1)) (i + 1) (by omega) (fun k ok h1 h2 hok hk2 => by
        have bk := hf2 k ok (by omega) hok
        have tk : touchB pr ok = true := touchB_iff.2 ⟨hk2, bk⟩
        have hL := (lst_set hisz).1 ((hmm' k ok hok tk).2 (by omega))
        rcases hL with hL | hL
        · omega
        · exact hnanc k (hI.clash i k o ok (by omega) ho hok (clash_touchG (by rw [htc]; exact ht) (by rw [tcA_not bk]; omega) (fun q => by rw [tcA_not bk] at q; omega)).1) hL)
      rw [show i + 1 + (m' - (i + 1)) = m' by omega] at hsm
      have hun : ∀ k ok, ops[k]? = some ok → bal ok = true → (¬ Lst (listed.setIfInBounds i true) k ↔ ¬ Lst listed k) := fun k ok hk bk => by
        rw [lst_set hisz]
        constructor
        · exact fun q q2 => q (.inr q2)
        · rintro q (rfl | q2)
          · rw [ho] at hk; injection hk with hk; subst hk; rw [hb] at bk; cases bk
          · exact q q2
      rw [hsm, r2]
      refine ⟨f2, fun k ok hk bk hkl => ?_, fun id hid => ?_⟩
      · have hkl := (hun k ok hk bk).1 hkl
        rw [f3 _ ⟨k, ok, hk, bk, fun q => hkl (hanc k q), rfl⟩]
        exact l2 k ok hk bk hkl
      · have hid' : ∀ k ok, ops[k]? = some ok → bal ok = true → ¬ Lst listed k → (s k).length ≠ id := fun k ok hk bk hkl => hid k ok hk bk ((hun k ok hk bk).2 hkl)
        by_cases hu : UnB ops anc s i id
        · rw [f3 id hu, l3 id hid', hfr.keep i o ho tB id hu]
        · exact f4 id hu
    · -- the store
      have hF : StepG P pr ops o st.t st.s (v i) st.s := by
        by_cases h1 : tch pr o = 1
        · have hF0 := a2.agree (s' := s i) hagree (fun _ => rfl)
          rw [if_neg (by omega)] at hF0
          have hidof : ∀ id, fpL P st.t o = some id → ∃ y, st.s[id]? = some y ∧ y ≠ .dead := by
            intro id hid
            obtain ⟨dst, op, type, pos, after, guard⟩ := o
            unfold fpL at hid
            simp only at hid
            split at hid
            · split at hid
              · rename_i id0 off0 e0
                injection hid with hid; subst hid
                obtain ⟨pl, v0, e1, _, _⟩ := VV_ptr (evalO_spec hrel (g := none) (fun _ _ e => by cases e) e0)
                exact ⟨_, e1, by intro q; cases q⟩
              · rename_i id0 ver0 off0 e0
                injection hid with hid; subst hid
                obtain ⟨b0, cur0, v0, _, e1, _⟩ := VV_ep (evalO_spec hrel (g := none) (fun _ _ e => by cases e) e0)
                exact ⟨_, e1, by intro q; cases q⟩
              · cases hid
            · split at hid
              · rename_i id0 e0
                injection hid with hid; subst hid
                obtain ⟨es, pl, e1, _, _⟩ := VV_map (evalO_spec hrel (g := none) (fun _ _ e => by cases e) e0)
                exact ⟨_, e1, by intro q; cases q⟩
              · cases hid
            · cases hid
          have hfp : ∀ id, fpL P st.t o = some id → fpL P (t i) o = some id := by
            intro id hid
            rw [← hid]
            obtain ⟨dst, op, type, pos, after, guard⟩ := o
            have hL : op.operands.toList.filterMap tmpOf ⊆ reads ops ⟨dst, op, type, pos, after, guard⟩ := fun x hx => by unfold reads; exact List.mem_append.2 (.inl hx)
            cases op with
            | load ty x => simp only [fpL, evalO_agree hagree hL (x := x) (by simp [Op.operands])]
            | lookup ty x k ok => simp only [fpL, evalO_agree hagree hL (x := x) (by simp [Op.operands])]
            | _ => rfl
          have hclk : ∀ k ok, ops[k]? = some ok → touchB pr ok = true → ap i k = false → (k < i → anc k i) ∧ (i < k → anc i k) := fun k ok hk tk hna => by
            have t2 := touchB_iff.1 tk
            have hc := clash_touchG (ap := ap') (tc := tcA pr) (ops := ops) (x := ok) (y := o) (i := k) (j := i) (by rw [tcA_not t2.2]; exact t2.1) (by rw [htc]; omega) (fun _ => by
              rw [Bool.eq_false_iff]
              intro q
              rw [hsub i k o ho hb q] at hna
              cases hna)
            exact ⟨fun hlt => hI.clash k i ok o hlt hk ho hc.1, fun hlt => hI.clash i k o ok hlt ho hk hc.2⟩
          refine hF0.look h1 (fun id hid0 hex => ?_)
          have hid : fpL P st.t o = some id := hid0
          have hid' := hfp id hid
          obtain ⟨y0, hy0, hyd⟩ := hidof id hid
          have hsm : st.s[id]? = (s m)[id]? := sli id (fun k ok hk bk hkl e => by
            have := sun k ok hk bk hkl
            rw [e, hy0] at this
            injection this with this
            exact hyd this)
          rcases Nat.le_total m i with hmi | him
          · have := store_keep hT (id := id) (i - m) m (by omega) (fun k ok h1' h2' hk hk2 hlk => by
              have bk := hf2 k ok (by omega) hk
              have tk : touchB pr ok = true := touchB_iff.2 ⟨hk2, bk⟩
              have hkm : ¬ Lst listed k := fun hL => by have := (hmm k ok hk tk).1 hL; omega
              have hapk : ap i k = true := Classical.byContradiction fun hna => hkm (hanc k ((hclk k ok hk tk (by simpa using hna)).1 (by omega)))
              exact hap i k o ok hapk ho hk id hid' hlk) (by rw [← slen]; exact getElem?_lt hy0)
            rw [show m + (i - m) = i by omega] at this
            rw [hsm, this]
          · obtain ⟨y, hy⟩ := hex
            have := store_keep hT (id := id) (m - i) i (by omega) (fun k ok h1' h2' hk hk2 hlk => by
              cases bk : bal ok with
              | true =>
                obtain ⟨_, b1, b2, _⟩ := hT.step k (Nat.zero_le _) (by omega)
                rw [hk] at b1; injection b1 with b1; subst b1
                exact bal_keep b2 bk hlk
              | false =>
                have tk : touchB pr ok = true := touchB_iff.2 ⟨hk2, bk⟩
                have hkm : Lst listed k := (hmm k ok hk tk).2 (by omega)
                have hki : k ≠ i := by rintro rfl; rw [ho] at hk; injection hk with hk; subst hk; omega
                have hapk : ap i k = true := Classical.byContradiction fun hna => hnanc k ((hclk k ok hk tk (by simpa using hna)).2 (by omega)) hkm
                exact hap i k o ok hapk ho hk id hid' hlk) (getElem?_lt hy)
            rw [show i + (m - i) = m by omega] at this
            rw [hsm, this]
        · have := a2.agree (s' := st.s) hagree (fun q => by have := touch_leG (pr := pr) o; omega)
          rwa [if_neg ht] at this
      obtain ⟨st', hst'⟩ := setDst_ok (v' := v i) a3 (st2 := { st with s := st.s }) hn
      obtain ⟨r1, r2, r3, r4, r5, r6⟩ := hrest hst'
      refine ⟨st', r1, ⟨by simp [h.size], r3, r4, r5, r6, fun m' hfm' hms' hmm' => ?_⟩, fun Q => stepG_sound ho hF hst' hrel⟩
      have hsame : ∀ k ok, ops[k]? = some ok → (touchB pr ok = true ∨ bal ok = true) → (Lst (listed.setIfInBounds i true) k ↔ Lst listed k) := fun k ok hk hc => by
        rw [lst_set hisz]
        constructor
        · rintro (rfl | q)
          · rw [ho] at hk; injection hk with hk; subst hk
            rcases hc with hc | hc
            · exact absurd (touchB_iff.1 hc).1 ht
            · rw [hb] at hc; cases hc
          · exact q
        · exact .inr
      obtain ⟨l1, l2, l3⟩ := h.store m' hfm' hms' (fun k ok hk tk => by rw [← hmm' k ok hk tk, hsame k ok hk (.inl tk)])
      rw [r2]
      exact ⟨l1, fun k ok hk bk hkl => l2 k ok hk bk (fun q => hkl ((hsame k ok hk (.inr bk)).2 q)), fun id hid => l3 id (fun k ok hk bk hkl => hid k ok hk bk (fun q => hkl ((hsame k ok hk (.inr bk)).1 q)))⟩

/-- WHATEVER ORDER. -/
theorem drawn_anyA {ro : Option Nat} {ops : Array Oper} {ap ap' : Nat → Nat → Bool} (hsub : ∀ i k o, ops[i]? = some o → bal o = false → ap' i k = true → ap i k = true) {anc : Nat → Nat → Prop} {f : Nat} (hI : IndepG ap' (tcA pr) ops anc) {n : Nat} {t : Nat → List (Nat × V)} {s : Nat → List SObj} {v : Nat → V} (hT : TraceG P pr ops n 0 ops.size t s v) (h0 : ∀ x d want u, getT (t 0) x ≠ some (.wh d want u))
    (hf : f ≤ ops.size) (hf1 : ∀ k o, k < f → ops[k]? = some o → touchB pr o = false) (hf2 : ∀ k o, f ≤ k → ops[k]? = some o → bal o = false) (hap : ApOk P pr ops ap t s) (hfr : FrA P pr ops anc t s v) {Q : Exit → Act → World → Prop} :
    ∀ (fuel : Nat) {listed : Array Bool} {st : St} {κ : List Place} {a : Act} {w : World}, (unl listed ops.size).length = fuel → InvA P pr ops f t s v listed st → st.n = n → Rel U κ st a w →
      (∀ κ' a' w', Rel U κ' ⟨n, t ops.size, s ops.size⟩ a' w' → Step U κ w κ' w' → Ext κ st.s κ' (s ops.size) → Q .normal a' w') → wpAnyIn (FW ro) 0 P .any ops Q fuel listed a w := by
  have hallOf : ∀ {listed : Array Bool}, (unl listed ops.size).length = 0 → ∀ k, k < ops.size → Lst listed k := by
    intro listed hu k hk
    by_cases hL : Lst listed k
    · exact hL
    · exfalso
      have : k ∈ unl listed ops.size := by
        unfold unl
        simp only [List.mem_filter, List.mem_range]
        refine ⟨hk, ?_⟩
        unfold Lst at hL
        simpa using hL
      have := List.length_pos_of_mem this
      omega
  have hfinS : ∀ {listed : Array Bool} {st : St}, (unl listed ops.size).length = 0 → InvA P pr ops f t s v listed st → st.s = s ops.size := by
    intro listed st hu h
    have hall := hallOf hu
    obtain ⟨_, _, l3⟩ := h.store ops.size hf (Nat.le_refl _) (fun k o ho _ => ⟨fun _ => bounds ho, fun hk => hall k hk⟩)
    exact List.ext_getElem? fun id => l3 id (fun k ok hk bk hkl => absurd (hall k (bounds hk)) hkl)
  have fin : ∀ {listed : Array Bool} {st : St} {κ : List Place} {a : Act} {w : World}, (unl listed ops.size).length = 0 → InvA P pr ops f t s v listed st → st.n = n → Rel U κ st a w → Rel U κ ⟨n, t ops.size, s ops.size⟩ a w := by
    intro listed st κ a w hu h hn hr
    have hall := hallOf hu
    have hg := trace_getG hI hT h0 ops.size (Nat.le_refl _)
    refine hr.congr hn.symm (hfinS hu h).symm (fun x => ?_)
    simp only
    by_cases hw : ∃ (j : Nat) (oj : Oper), ops[j]? = some oj ∧ oj.dst = some x
    · obtain ⟨j, oj, hj, hd⟩ := hw
      rw [hg.2.1 x j oj (bounds hj) hj hd, h.put x j oj (hall j (bounds hj)) hj hd]
    · rw [hg.2.2 x (fun j o _ h1 h2 => hw ⟨j, o, h1, h2⟩), h.old x (fun j o _ h1 h2 => hw ⟨j, o, h1, h2⟩)]
  intro fuel
  induction fuel with
  | zero =>
    intro listed st κ a w hu h hn hr hQ
    refine ⟨?_, hQ κ a w (fin hu h hn hr) (.refl _ _ _) (by rw [show st.s = s ops.size from hfinS hu h]; exact .refl _ _)⟩
    have : ∀ i, i ∉ Region.ready .any ops listed := fun i hi => by
      obtain ⟨o, ho, hnl, _⟩ := (ready_iff h.size).1 hi
      have : i ∈ unl listed ops.size := by
        unfold unl
        simp only [List.mem_filter, List.mem_range]
        refine ⟨bounds ho, ?_⟩
        unfold Lst at hnl
        simpa using hnl
      have := List.length_pos_of_mem this
      omega
    exact List.eq_nil_iff_forall_not_mem.2 this
  | succ fuel ih =>
    intro listed st κ a w hu h hn hr hQ
    refine ⟨fun hnil => ?_, fun i hi => ?_⟩
    · exfalso
      have hex : ∃ k, k ∈ unl listed ops.size := by
        cases hc : unl listed ops.size with
        | nil => rw [hc] at hu; simp at hu
        | cons x xs => exact ⟨x, by simp⟩
      have key : ∀ k, k < ops.size → ¬ Lst listed k → False := by
        intro k
        induction k using Nat.strongRecOn with
        | _ k ihk =>
          intro hk hL
          have ho : ops[k]? = some ops[k] := Array.getElem?_eq_getElem hk
          have : k ∈ Region.ready .any ops listed := (ready_iff h.size).2 ⟨ops[k], ho, hL, fun e he hb => by
            have hlt := hI.back k _ e ho he hb
            by_cases hLe : Lst listed e.on
            · exact hLe
            · exact (ihk e.on hlt (by omega) hLe).elim⟩
          rw [hnil] at this
          simp at this
      obtain ⟨k, hk⟩ := hex
      unfold unl at hk
      simp only [List.mem_filter, List.mem_range] at hk
      exact key k hk.1 (by unfold Lst; simpa using hk.2)
    · obtain ⟨st', b4, b5, b6⟩ := inv_stepA hsub hI hT h0 hf hf1 hf2 h hn hap hfr hr hi
      obtain ⟨o2, ho2, hnl, _⟩ := (ready_iff h.size).1 hi
      refine wpOpIn_mono (fun a' w' hK => ?_) (b6 _)
      obtain ⟨κ', hr', hs', hx'⟩ := hK
      have := unl_set (listed := listed) (n := ops.size) (i := i) (by rw [h.size]; exact bounds ho2) (bounds ho2) hnl
      exact ih (by omega) b5 b4 hr' (fun κ2 a2 w2 h2 hs2 hx2 => hQ κ2 a2 w2 h2 (hs'.trans hs2) (hx'.trans hx2))

/-- Room for what is still to be made. -/
def deads : Nat → List SObj
  | 0 => []
  | k + 1 => .dead :: deads k
def offs : Nat → List Place
  | 0 => []
  | k + 1 => ⟨0, 0, 0, false⟩ :: offs k

theorem deads_len : ∀ k, (deads k).length = k
  | 0 => rfl
  | k + 1 => by simp [deads, deads_len k]
theorem offs_len : ∀ k, (offs k).length = k
  | 0 => rfl
  | k + 1 => by simp [offs, offs_len k]
theorem deads_mem : ∀ {k : Nat} {o : SObj}, o ∈ deads k → o = .dead
  | k + 1, o, h => by simp only [deads, List.mem_cons] at h; rcases h with h | h; exact h; exact deads_mem h
theorem offs_mem : ∀ {k : Nat} {p : Place}, p ∈ offs k → p.on = false
  | k + 1, p, h => by simp only [offs, List.mem_cons] at h; rcases h with h | h; (subst h; rfl); exact offs_mem h

theorem get_deads (s : List SObj) (k id : Nat) (h1 : s.length ≤ id) (h2 : id < s.length + k) : (s ++ deads k)[id]? = some .dead := by
  rw [List.getElem?_append_right h1]
  have hlt : id - s.length < (deads k).length := by rw [deads_len]; omega
  rw [List.getElem?_eq_getElem hlt]
  congr 1
  exact deads_mem (List.getElem_mem hlt)

theorem Ext.deads {κ : List Place} {s : List SObj} (hl : κ.length = s.length) (k : Nat) : Ext κ s (κ ++ offs k) (s ++ deads k) where
  box := fun id v p h q => ⟨v, p, by rw [List.getElem?_append_left (getElem?_lt h)]; exact h, by rw [List.getElem?_append_left (getElem?_lt q)]; exact q, rfl⟩
  map := fun id v p h q => ⟨v, p, by rw [List.getElem?_append_left (getElem?_lt h)]; exact h, by rw [List.getElem?_append_left (getElem?_lt q)]; exact q, rfl⟩
  row := fun id cur e h => ⟨cur, by rw [List.getElem?_append_left (getElem?_lt h)]; exact h, Nat.le_refl _, fun _ => by rw [List.getElem?_append_left (by rw [hl]; exact getElem?_lt h)]⟩
  vec := fun id cur v h => ⟨cur, v, by rw [List.getElem?_append_left (getElem?_lt h)]; exact h, Nat.le_refl _, fun _ => by rw [List.getElem?_append_left (by rw [hl]; exact getElem?_lt h)]⟩
  lp := fun id ls pd d f n t ps as bd p h q => ⟨ls, pd, t, p, by rw [List.getElem?_append_left (getElem?_lt h)]; exact h, by rw [List.getElem?_append_left (getElem?_lt q)]; exact q, rfl⟩
  dfr := fun id p h q => ⟨p, by rw [List.getElem?_append_left (getElem?_lt h)]; exact h, by rw [List.getElem?_append_left (getElem?_lt q)]; exact q, rfl⟩

/-- The store, with room. -/
theorem Rel.room {st : St} {a : Act} (h : Rel U κ st a w) (k : Nat) : Rel U (κ ++ offs k) { st with s := st.s ++ deads k } a w ∧ Step U κ w (κ ++ offs k) w := by
  have hon : ∀ p ∈ κ ++ offs k, p.on = true → p ∈ κ := fun p hp ho => by
    rcases List.mem_append.1 hp with q | q
    · exact q
    · rw [offs_mem q] at ho; cases ho
  have hpres : Pres w (okOf U κ) w (okOf U (κ ++ offs k)) := fun b o x hx ho => ⟨hx, ho.1, fun p hp hh => ho.2 p (hon p hp hh.2.2.2) hh⟩
  have hext := Ext.deads h.store.len k
  have hs : RelS U (κ ++ offs k) (st.s ++ deads k) w := by
    have key : ∀ (i : Nat) (p : Place), (κ ++ offs k)[i]? = some p → p.on = true → κ[i]? = some p := fun i p hi hp => by
      rcases Nat.lt_or_ge i κ.length with q | q
      · rwa [List.getElem?_append_left q] at hi
      · rw [List.getElem?_append_right q] at hi
        rw [offs_mem (List.mem_of_getElem? hi)] at hp; cases hp
    refine ⟨h.store.up, by simp [h.store.len, deads_len, offs_len], fun id o p a b => ?_, fun i j p p' hi hj hne hl hl' => h.store.apart i j p p' (key i p hi hl) (key j p' hj hl') hne hl hl', fun p hp hl => h.store.below p (hon p hp hl) hl, fun p hp hl => h.store.mine p (hon p hp hl) hl, h.store.glob.pres hpres⟩
    rcases Nat.lt_or_ge id st.s.length with q | q
    · rw [List.getElem?_append_left q] at a
      rw [List.getElem?_append_left (by rw [h.store.len]; exact q)] at b
      have hob := h.store.obj id o p a b
      cases o with
      | box x =>
        obtain ⟨x0, x1, x2, x3, cells, elem, x4, x5⟩ := hob
        exact ⟨x0, x1, x2, x3, cells, elem, x4, x5.ext hpres hext⟩
      | row ver e' => exact hob
      | map es =>
        obtain ⟨x0, x3, ents, clock, x4, x5⟩ := hob
        exact ⟨x0, x3, ents, clock, x4, x5.pres hpres⟩
      | vec c x =>
        obtain ⟨x0, x1, x3, cs, el, ⟨cs', more, q1, q2⟩, x4, x5⟩ := hob
        exact ⟨x0, x1, x3, cs, el, ⟨cs', more, q1, q2.ext hpres hext⟩, x4, x5⟩
      | dead => exact hob
      | lp ls pd d f n t ps as bd => exact ObjR.lpMove hpres hext (Nat.le_refl _) (fun _ => rfl) hob
      | dfr => exact ObjR.dfrMove (Nat.le_refl _) (fun _ => rfl) hob
    · rw [List.getElem?_append_right q] at a
      rw [List.getElem?_append_right (by rw [h.store.len]; exact q)] at b
      rw [deads_mem (List.mem_of_getElem? a)]
      exact offs_mem (List.mem_of_getElem? b)
  exact ⟨h.carry hs ⟨.refl _ _, fun p hp hl => .inl ⟨p, hon p hp hl, hl, rfl⟩, hpres⟩ hext, .refl _ _, fun p hp hl => .inl ⟨p, hon p hp hl, hl, rfl⟩, hpres⟩

/-- At the beginning nothing is listed. -/
theorem InvA.first {ops : Array Oper} {f n : Nat} {t : Nat → List (Nat × V)} {s : Nat → List SObj} {v : Nat → V} (hT : TraceG P pr ops n 0 ops.size t s v) (h0 : ∀ x d want u, getT (t 0) x ≠ some (.wh d want u)) (hf : f ≤ ops.size) (hf1 : ∀ k o, k < f → ops[k]? = some o → touchB pr o = false)
    (hf2 : ∀ k o, f ≤ k → ops[k]? = some o → bal o = false) {listed : Array Bool} (hsz : listed.size = ops.size) (hnone : ∀ k, ¬ Lst listed k) : InvA P pr ops f t s v listed ⟨n, t 0, s 0 ++ deads ((s f).length - (s 0).length)⟩ := by
  have hle := (pre_len hT hf hf1 f 0 (by omega)).1
  simp only [Nat.zero_add] at hle
  refine ⟨hsz, fun k o e hk => absurd hk (hnone k), fun x d want u hx => absurd hx (h0 x d want u), fun x j o hk => absurd hk (hnone j), fun x _ => rfl, fun m hfm hms hmm => ?_⟩
  have hsm := store_constG hT (m - f) f (by omega) (fun k o h1 h2 hk hk2 => hnone k ((hmm k o hk (touchB_iff.2 ⟨hk2, hf2 k o h1 hk⟩)).2 (by omega)))
  rw [show f + (m - f) = m by omega] at hsm
  rw [hsm]
  refine ⟨?_, fun k o hk bk _ => ?_, fun id hid => ?_⟩
  · simp [deads_len]; omega
  · have hkf : k < f := Classical.byContradiction fun q => by rw [hf2 k o (by omega) hk] at bk; cases bk
    have l1 := (pre_len hT hf hf1 k 0 (by omega)).1
    simp only [Nat.zero_add] at l1
    have l2 := (pre_len hT hf hf1 (f - (k + 1)) (k + 1) (by omega)).1
    obtain ⟨o', a1, a2, _⟩ := hT.step k (Nat.zero_le _) (by omega)
    rw [hk] at a1; injection a1 with a1; subst a1
    obtain ⟨_, _, _, _, e, _⟩ := bal_step a2 bk
    rw [show k + 1 + (f - (k + 1)) = f by omega, e] at l2
    simp at l2
    exact get_deads _ _ _ l1 (by omega)
  · -- every place behind the first is a box's
    rcases Nat.lt_or_ge id (s 0).length with q | q
    · show (s 0 ++ deads _)[id]? = _
      rw [List.getElem?_append_left q]
      have := (pre_len hT hf hf1 f 0 (by omega)).2 id q
      simpa using this.symm
    · rcases Nat.lt_or_ge id (s f).length with q2 | q2
      · exfalso
        have key : ∀ m, m ≤ f → id < (s m).length → ∃ k o, ops[k]? = some o ∧ bal o = true ∧ (s k).length = id := by
          intro m
          induction m with
          | zero => intro _ h; omega
          | succ m ih =>
            intro hm h
            rcases Nat.lt_or_ge id (s m).length with q3 | q3
            · exact ih (by omega) q3
            · obtain ⟨o, a1, a2, _⟩ := hT.step m (Nat.zero_le _) (by omega)
              cases hb : bal o with
              | true =>
                obtain ⟨_, _, _, _, e, _⟩ := bal_step a2 hb
                rw [e] at h
                simp at h
                exact ⟨m, o, a1, hb, by omega⟩
              | false =>
                have ht := touchB_not (hf1 _ o (by omega) a1) hb
                have e := stepF_stillG a2 (by have := touch_leG (pr := pr) o; omega)
                rw [e] at h
                omega
        obtain ⟨k, o, h1, h2, h3⟩ := key f (Nat.le_refl _) q2
        exact hid k o h1 h2 (hnone k) h3
      · show (s 0 ++ deads _)[id]? = _
        rw [List.getElem?_eq_none q2, List.getElem?_eq_none (by simp [deads_len]; omega)]

/-! A drawn region, its operations listed in another order. -/

def idxN (i : Nat) : List Nat → Nat
  | [] => 0
  | x :: l => if Nat.beq x i then 0 else idxN i l + 1

def remap (l : List Nat) (n j : Nat) : Nat := if Nat.blt j n then idxN j l else j

def reGuard (l : List Nat) (n : Nat) : Option (Nat × Bool) → Option (Nat × Bool)
  | none => none
  | some (j, b) => some (remap l n j, b)

def reOp (l : List Nat) (n : Nat) (o : Oper) : Oper := { o with after := o.after.map fun e => { e with on := remap l n e.on }, guard := reGuard l n o.guard }

def reOps (ops : Array Oper) (l : List Nat) : Array Oper := (l.map fun i => reOp l ops.size (ops.getD i default)).toArray

def permOk (n : Nat) (l : List Nat) : Bool := Nat.beq l.length n && (List.range n).all fun i => (match l[remap l n i]? with | some j => Nat.beq j i | none => false) && (match l[i]? with | some j => Nat.blt j n && Nat.beq (remap l n j) i | none => false)

/-- The same operations, in another order. -/
structure PermOf (ops ops' : Array Oper) (π : Nat → Nat) : Prop where
  size : ops'.size = ops.size
  get : ∀ i o, ops[i]? = some o → ∃ o', ops'[π i]? = some o' ∧ (∃ af g, o' = { o with after := af, guard := g } ∧ (g = match o.guard with | none => none | some (j, b) => some (π j, b)) ∧ (∀ e ∈ af, Region.binds .any e = true → ∃ e0 ∈ o.after, Region.binds .any e0 = true ∧ e.on = π e0.on))
  onto : ∀ k, k < ops.size → ∃ i, i < ops.size ∧ π i = k
  inj : ∀ i j, i < ops.size → j < ops.size → π i = π j → i = j
  out : ∀ i, ops.size ≤ i → π i = i
  keep : ∀ i o, ops[i]? = some o → ∀ o', ops'[π i]? = some o' → ∀ e0 ∈ o.after, Region.binds .any e0 = true → ∃ e ∈ o'.after, Region.binds .any e = true ∧ e.on = π e0.on

theorem PermOf.refl (ops : Array Oper) : PermOf ops ops id where
  size := rfl
  get := fun i o h => ⟨o, h, o.after, o.guard, rfl, by cases o.guard <;> rfl, fun e he hb => ⟨e, he, hb, rfl⟩⟩
  onto := fun k h => ⟨k, h, rfl⟩
  inj := fun _ _ _ _ h => h
  out := fun _ _ => rfl
  keep := fun i o h o' h' e0 he hb => by
    simp only [id] at h'
    rw [h] at h'; injection h' with h'; subst h'
    exact ⟨e0, he, hb, rfl⟩

theorem permOk_spec {ops : Array Oper} {l : List Nat} (h : permOk ops.size l = true) : PermOf ops (reOps ops l) (remap l ops.size) := by
  unfold permOk at h
  simp only [Bool.and_eq_true, List.all_eq_true, List.mem_range] at h
  obtain ⟨h1, h2⟩ := h
  have h1 : l.length = ops.size := Nat.eq_of_beq_eq_true h1
  have hl : ∀ i, i < ops.size → l[remap l ops.size i]? = some i := fun i hi => by
    have := (h2 i hi).1
    split at this
    · rename_i j e; rw [e, Nat.eq_of_beq_eq_true this]
    · cases this
  have hr : ∀ i, i < ops.size → ∃ j, j < ops.size ∧ remap l ops.size j = i := fun i hi => by
    have := (h2 i hi).2
    split at this
    · rename_i j e
      simp only [Bool.and_eq_true] at this
      exact ⟨j, by have := this.1; unfold Nat.blt at this; exact Nat.le_of_ble_eq_true this, Nat.eq_of_beq_eq_true this.2⟩
    · cases this
  have hget : ∀ i o, ops[i]? = some o → (reOps ops l)[remap l ops.size i]? = some (reOp l ops.size o) := fun i o ho => by
    have hi := bounds ho
    unfold reOps
    rw [List.getElem?_toArray, List.getElem?_map, hl i hi, Option.map_some]
    have : ops.getD i default = o := by
      rw [Array.getD_eq_getD_getElem?, ho]; rfl
    rw [this]
  refine ⟨by simp [reOps, h1], fun i o ho => ⟨_, hget i o ho, _, _, rfl, by unfold reGuard; cases o.guard <;> rfl, fun e he hb => ?_⟩, hr, fun i j hi hj e => ?_, fun i hi => ?_, fun i o ho o' ho' e0 he hb => ?_⟩
  · obtain ⟨e0, he0, rfl⟩ := Array.mem_map.1 he
    exact ⟨e0, he0, hb, rfl⟩
  · have a := hl i hi
    rw [e, hl j hj] at a
    injection a with a; exact a.symm
  · unfold remap
    rw [if_neg]
    unfold Nat.blt
    intro q
    have := Nat.le_of_ble_eq_true q
    omega
  · rw [hget i o ho] at ho'
    injection ho' with ho'; subst ho'
    exact ⟨{ e0 with on := remap l ops.size e0.on }, Array.mem_map.2 ⟨e0, he, rfl⟩, hb, rfl⟩

theorem PermOf.lt {ops ops' : Array Oper} {π : Nat → Nat} (h : PermOf ops ops' π) {i : Nat} (hi : i < ops.size) : π i < ops.size := by
  obtain ⟨o', h1, _⟩ := h.get i _ (Array.getElem?_eq_getElem hi)
  have := bounds h1
  rwa [h.size] at this

theorem PermOf.yielded {ops ops' : Array Oper} {π : Nat → Nat} (h : PermOf ops ops' π) (tmps : Array Value) (j : Nat) : yielded ops' tmps (π j) = yielded ops tmps j := by
  unfold Go.yielded
  rcases Nat.lt_or_ge j ops.size with q | q
  · obtain ⟨o', h1, af, g, rfl, _, _⟩ := h.get j _ (Array.getElem?_eq_getElem q)
    rw [h1, Array.getElem?_eq_getElem q]
    rfl
  · rw [h.out j q, Array.getElem?_eq_none (by rw [h.size]; exact q), Array.getElem?_eq_none q]

theorem PermOf.wpOp {ro : Option Nat} {ops ops' : Array Oper} {π : Nat → Nat} (h : PermOf ops ops' π) {Q : Exit → Act → World → Prop} {K : Act → World → Prop} {i : Nat} {a : Act} {w : World} (hi : i < ops.size) (hh : wpOpIn (FW ro) 0 P ops' Q (π i) K a w) : wpOpIn (FW ro) 0 P ops Q i K a w := by
  unfold wpOpIn at hh ⊢
  obtain ⟨o', h1, af, g, rfl, h2, _⟩ := h.get i _ (Array.getElem?_eq_getElem hi)
  rw [h1] at hh
  rw [Array.getElem?_eq_getElem hi]
  simp only at hh ⊢
  generalize ops[i] = o at *
  have hw : Region.wanted { o with after := af, guard := g } (Go.yielded ops' a.tmps) = Region.wanted o (Go.yielded ops a.tmps) := by
    unfold Region.wanted
    rw [h2]
    obtain ⟨dst, op, type, pos, after, guard⟩ := o
    cases guard with
    | none => rfl
    | some x =>
      obtain ⟨j, b⟩ := x
      simp only [h.yielded]
  rw [hw] at hh
  split
  · rename_i hc
    rw [if_pos hc] at hh
    exact hh
  · rename_i hc
    rw [if_neg hc] at hh
    exact hh

/-- WHATEVER ORDER holds of the operations in another order: so it holds. -/
theorem wpAny_perm {ro : Option Nat} {ops ops' : Array Oper} {π : Nat → Nat} (h : PermOf ops ops' π) {Q : Exit → Act → World → Prop} : ∀ (fuel : Nat) {listed listed' : Array Bool} {a : Act} {w : World}, listed.size = ops.size → listed'.size = ops.size →
    (∀ k, k < ops.size → (Lst listed' (π k) ↔ Lst listed k)) → wpAnyIn (FW ro) 0 P .any ops' Q fuel listed' a w → wpAnyIn (FW ro) 0 P .any ops Q fuel listed a w := by
  have fwd : ∀ {listed listed' : Array Bool}, listed.size = ops.size → listed'.size = ops.size → (∀ k, k < ops.size → (Lst listed' (π k) ↔ Lst listed k)) → ∀ i, i ∈ Region.ready .any ops listed → π i ∈ Region.ready .any ops' listed' := by
    intro listed listed' hs hs' hL i hi
    obtain ⟨o, ho, hn, ha⟩ := (ready_iff hs).1 hi
    obtain ⟨o', h1, af, g, rfl, h2, h3⟩ := h.get i o ho
    refine (ready_iff (by rw [hs', h.size])).2 ⟨_, h1, fun q => hn ((hL i (bounds ho)).1 q), fun e he hb => ?_⟩
    obtain ⟨e0, he0, hb0, q⟩ := h3 e he hb
    have := ha e0 he0 hb0
    rw [q]
    exact (hL e0.on (by have := lst_lt this; rwa [hs] at this)).2 this
  have bwd : ∀ {listed listed' : Array Bool}, listed.size = ops.size → listed'.size = ops.size → (∀ k, k < ops.size → (Lst listed' (π k) ↔ Lst listed k)) → Region.ready .any ops listed = [] → Region.ready .any ops' listed' = [] := by
    intro listed listed' hs hs' hL hnil
    refine List.eq_nil_iff_forall_not_mem.2 fun k hk => ?_
    obtain ⟨o', ho', hn, ha⟩ := (ready_iff (by rw [hs', h.size])).1 hk
    have hk' := bounds ho'
    rw [h.size] at hk'
    obtain ⟨i, hi, rfl⟩ := h.onto k hk'
    have hget : ops[i]? = some ops[i] := Array.getElem?_eq_getElem hi
    have : i ∈ Region.ready .any ops listed := (ready_iff hs).2 ⟨_, hget, fun q => hn ((hL i hi).2 q), fun e0 he0 hb0 => by
      obtain ⟨e, he, hb, q⟩ := h.keep i _ hget o' ho' e0 he0 hb0
      have := ha e he hb
      rw [q] at this
      rcases Nat.lt_or_ge e0.on ops.size with q2 | q2
      · exact (hL _ q2).1 this
      · rw [h.out _ q2] at this
        have := lst_lt this
        omega⟩
    rw [hnil] at this
    cases this
  intro fuel
  induction fuel with
  | zero =>
    intro listed listed' a w hs hs' hL hh
    refine ⟨List.eq_nil_iff_forall_not_mem.2 fun i hi => ?_, hh.2⟩
    have := fwd hs hs' hL i hi
    rw [hh.1] at this
    cases this
  | succ fuel ih =>
    intro listed listed' a w hs hs' hL hh
    refine ⟨fun hnil => hh.1 (bwd hs hs' hL hnil), fun i hi => ?_⟩
    have hb : i < ops.size := by
      obtain ⟨o, ho, _⟩ := (ready_iff hs).1 hi
      exact bounds ho
    refine h.wpOp hb (wpOpIn_mono (fun a' w' hq => ih (by simp [hs]) (by simp [hs']) (fun k hk => ?_) hq) (hh.2 _ (fwd hs hs' hL i hi)))
    rw [lst_set (by rw [hs']; exact h.lt hb), lst_set (by rw [hs]; exact hb), hL k hk]
    constructor
    · rintro (q | q)
      · exact .inl (h.inj k i hk hb q)
      · exact .inr q
    · rintro (q | q)
      · exact .inl (by rw [q])
      · exact .inr q

/-- The makings of boxes ahead, all else behind, each as it stands. -/
def firstL (ops : Array Oper) : List Nat := (List.range ops.size).filter (fun i => match ops[i]? with | some o => bal o | none => false) ++ (List.range ops.size).filter (fun i => match ops[i]? with | some o => !bal o | none => true)

/-- In which order a region's operations are run. -/
def ordO (pm draw : Bool) (ops : Array Oper) : Array Oper := match pm && draw with
  | true => match firstL ops with
    | l => match permOk ops.size l with
      | true => reOps ops l
      | false => ops
  | false => ops

theorem ordO_spec (pm draw : Bool) (ops : Array Oper) : (draw = false → ordO pm draw ops = ops) ∧ ∃ π, PermOf ops (ordO pm draw ops) π := by
  refine ⟨fun hd => ?_, ?_⟩
  · unfold ordO
    rw [hd, Bool.and_false]
  · unfold ordO
    split
    · simp only
      split
      · rename_i h; exact ⟨_, permOk_spec h⟩
      · exact ⟨_, .refl _⟩
    · exact ⟨_, .refl _⟩

/-! Calls that are made whether or not some boxes stand. -/

/-- As 'apA', but for the pairs of a box and a call that leaves it alone. -/
def apR (fr : List (Nat × Nat)) (ap : Nat → Nat → Bool) (ops : Array Oper) (i k : Nat) : Bool := match ops[i]? with
  | some o => match bal o with
    | true => fr.any fun p => Nat.beq p.1 i && Nat.beq p.2 k
    | false => ap i k
  | none => false

/-- The boxes are the first operations. -/
def balHead : Nat → List Oper → Bool
  | 0, os => os.all fun o => !bal o
  | n + 1, o :: os => bal o && balHead n os
  | _ + 1, [] => false

def balNum : List Oper → Nat
  | o :: os => match bal o with
    | true => balNum os + 1
    | false => 0
  | [] => 0

theorem balHead_spec : ∀ {n : Nat} {os : List Oper}, balHead n os = true → ∀ k o, os[k]? = some o → (bal o = true ↔ k < n)
  | 0, os, h, k, o, hk => by
    have := List.all_eq_true.1 h o (List.mem_of_getElem? hk)
    simp only [Bool.not_eq_true'] at this
    simp [this]
  | n + 1, o' :: os, h, k, o, hk => by
    simp only [balHead, Bool.and_eq_true] at h
    cases k with
    | zero => simp at hk; subst hk; simp [h.1]
    | succ k => simp at hk; rw [balHead_spec h.2 k o hk]; omega
  | n + 1, [], h, _, _, _ => by cases h

def indepR (fr : List (Nat × Nat)) (ap : Nat → Nat → Bool) (pr : Oper → Bool) (ops : Array Oper) : Bool := balHead (balNum ops.toList) ops.toList && balFirst pr ops.toList && indepG (apR fr ap ops) (tcA pr) ops

/-- The boxes that a call leaves alone. -/
def frIds (n : Nat) (i : Nat) : List (Nat × Nat) → List Nat
  | [] => []
  | (k, j) :: r => match Nat.beq j i with
    | true => (n + k) :: frIds n i r
    | false => frIds n i r

theorem frIds_mem {n i k : Nat} : ∀ {fr : List (Nat × Nat)}, (fr.any fun p => Nat.beq p.1 k && Nat.beq p.2 i) = true → n + k ∈ frIds n i fr
  | [], h => by cases h
  | (k', j) :: r, h => by
    simp only [List.any_cons, Bool.or_eq_true, Bool.and_eq_true, Nat.beq_eq] at h
    unfold frIds
    rcases h with ⟨rfl, rfl⟩ | h
    · rw [Nat.beq_refl]; simp
    · split
      · exact List.mem_cons_of_mem _ (frIds_mem h)
      · exact frIds_mem h

/-- A step that is made whether or not the boxes L stand. -/
def FrStep (P : Program) (pr : Oper → Bool) (ops : Array Oper) (o : Oper) (t : List (Nat × V)) (L : List Nat) (s : List SObj) (v : V) (s' : List SObj) : Prop :=
  (∀ S : List SObj, S.length = s.length → (∀ id, S[id]? = s[id]? ∨ (S[id]? = some .dead ∧ id ∈ L)) → ∃ S', StepG P pr ops o t S v S' ∧ S'.length = s'.length ∧ (∀ id, id ∈ L → S'[id]? = S[id]?) ∧ ∀ id, id ∉ L → S'[id]? = s'[id]?) ∧ ∀ id, id ∈ L → s'[id]? = s[id]?

def FrCall (P : Program) (f : FuncId) (L : List Nat) (s : List SObj) (vs : List V) (s' : List SObj) (rs : List V) : Prop :=
  (∀ S : List SObj, S.length = s.length → (∀ id, S[id]? = s[id]? ∨ (S[id]? = some .dead ∧ id ∈ L)) → ∃ S', GCall P f S vs S' rs ∧ S'.length = s'.length ∧ (∀ id, id ∈ L → S'[id]? = S[id]?) ∧ ∀ id, id ∉ L → S'[id]? = s'[id]?) ∧ ∀ id, id ∈ L → s'[id]? = s[id]?

theorem FrStep.nil {ops : Array Oper} {o : Oper} {t : List (Nat × V)} {s s' : List SObj} {v : V} (h : StepG P pr ops o t s v s') : FrStep P pr ops o t [] s v s' := by
  refine ⟨fun S hl hS => ⟨s', ?_, rfl, fun id hid => (by cases hid), fun id _ => rfl⟩, fun id hid => (by cases hid)⟩
  have : S = s := List.ext_getElem? fun id => by
    rcases hS id with q | q
    · exact q
    · cases q.2
  rw [this]; exact h

theorem FrStep.eqv {ops : Array Oper} {o : Oper} {t t' : List (Nat × V)} {L : List Nat} {s s' : List SObj} {v : V} (h : FrStep P pr ops o t L s v s') (ht : ∀ x, getT t x = getT t' x) : FrStep P pr ops o t' L s v s' := by
  refine ⟨fun S hl hS => ?_, h.2⟩
  obtain ⟨S', h1, h2, h3, h4⟩ := h.1 S hl hS
  refine ⟨S', ?_, h2, h3, h4⟩
  have h1' := h1.agree (t' := t') (s' := S) (fun x _ => ht x) (fun _ => rfl)
  have hs' : (if tch pr o = 2 then S' else S) = S' := by
    split
    · rfl
    · exact (stepF_stillG h1 (by have := touch_leG (pr := pr) o; omega)).symm
  rwa [hs'] at h1'

theorem FrStep.call {ops : Array Oper} {o : Oper} {t : List (Nat × V)} {L : List Nat} {s s' : List SObj} {f : FuncId} {vs rs : List V} (hg : guardOf ops t o = some (.run none)) (hc : isCall o = true) (hp : pr o = false) (he : calleeV P t o = some (f, vs)) (hy : Nat.ble yB f = false) (hok : okParts rs = true) (h : FrCall P f L s vs s' rs) : FrStep P pr ops o t L s (tupV rs) s' := by
  refine ⟨fun S hl hS => ?_, h.2⟩
  obtain ⟨S', h1, h2⟩ := h.1 S hl hS
  exact ⟨S', .gcall hg hc hp he (.of hy h1) hok, h2⟩

theorem FrStep.told {ops : Array Oper} {o : Oper} {t : List (Nat × V)} {L : List Nat} {s s' : List SObj} {b : Bool} (h : FrStep P pr ops o t L s (.p (.bool b)) s') : FrStep P pr ops o t L s (.rb b) s' := by
  refine ⟨fun S hl hS => ?_, h.2⟩
  obtain ⟨S', h1, h2⟩ := h.1 S hl hS
  exact ⟨S', .told h1, h2⟩

theorem FrStep.skip {ops : Array Oper} {o : Oper} {t : List (Nat × V)} {L : List Nat} {s : List SObj} (h : guardOf ops t o = some .skip) : FrStep P pr ops o t L s (.tup []) s := by
  refine ⟨fun S hl hS => ⟨S, .skip h, hl, fun _ _ => rfl, fun id hid => ?_⟩, fun _ _ => rfl⟩
  rcases hS id with q | q
  · exact q
  · exact absurd q.2 hid

/-- Where every step is so, the run is. -/
theorem frA_of {ap : Nat → Nat → Bool} {ops : Array Oper} {anc : Nat → Nat → Prop} {fr : List (Nat × Nat)} (hI : IndepG (apR fr ap ops) (tcA pr) ops anc) {n : Nat} {t : Nat → List (Nat × V)} {s : Nat → List SObj} {v : Nat → V} (hT : TraceG P pr ops n 0 ops.size t s v) {f : Nat} (hf1 : ∀ k o, k < f → ops[k]? = some o → touchB pr o = false) (hf2 : ∀ k o, f ≤ k → ops[k]? = some o → bal o = false) {nb : Nat} (hnb : ∀ k o, ops[k]? = some o → (bal o = true ↔ k < nb))
    (hfr : ∀ i o, ops[i]? = some o → FrStep P pr ops o (t i) (frIds (s 0).length i fr) (s i) (v i) (s (i + 1))) : FrA P pr ops anc t s v := by
  have hrank : ∀ k, k < ops.size → k ≤ nb → (s k).length = (s 0).length + k := by
    intro k
    induction k with
    | zero => intro _ _; rfl
    | succ k ih =>
      intro h1 h2
      obtain ⟨o, a1, a2, _⟩ := hT.step k (Nat.zero_le _) (by omega)
      obtain ⟨_, _, _, _, e, _⟩ := bal_step a2 ((hnb k o a1).2 (by omega))
      rw [e]
      simp only [List.length_append, List.length_cons, List.length_nil, ih (by omega) (by omega)]
      omega
  have hsub : ∀ i oi, ops[i]? = some oi → touchB pr oi = true → ∀ id, UnB ops anc s i id → id ∈ frIds (s 0).length i fr := by
    rintro i oi hi ti id ⟨k, o, hk, bk, hna, rfl⟩
    have hkn := (hnb k o hk).1 bk
    rw [hrank k (bounds hk) (by omega)]
    refine frIds_mem ?_
    have hkf : k < f := Classical.byContradiction fun q => by rw [hf2 k o (by omega) hk] at bk; cases bk
    have hif : f ≤ i := Classical.byContradiction fun q => by rw [hf1 i oi (by omega) hi] at ti; cases ti
    have t2 := touchB_iff.1 ti
    refine Classical.byContradiction fun hno => hna ?_
    refine hI.clash k i o oi (by omega) hk hi (clash_touchG (x := oi) (y := o) (i := i) (j := k) (by rw [tcA_not t2.2]; exact t2.1) (by rw [tcA_bal bk]; decide) (fun _ => ?_)).2
    unfold apR
    rw [hk]
    simp only [bk]
    exact Bool.eq_false_iff.2 hno
  refine ⟨fun i o ho to S hl hS => ?_, fun i o ho to id hu => (hfr i o ho).2 id (hsub i o ho to id hu)⟩
  obtain ⟨S', h1, h2, h3, h4⟩ := (hfr i o ho).1 S hl (fun id => (hS id).imp (fun q => q) fun q => ⟨q.1, hsub i o ho to id q.2⟩)
  refine ⟨S', h1, h2, fun id hu => h3 id (hsub i o ho to id hu), fun id hu => ?_⟩
  by_cases hid : id ∈ frIds (s 0).length i fr
  · rw [h3 id hid, (hfr i o ho).2 id hid]
    rcases hS id with q | q
    · exact q
    · exact absurd q.2 hu
  · exact h4 id hid

/-- Where the boxes are made ahead of all that writes. -/
theorem frA_none {ap : Nat → Nat → Bool} {ops : Array Oper} {anc : Nat → Nat → Prop} (hI : IndepG (apA ap ops) (tcA pr) ops anc) {n : Nat} {t : Nat → List (Nat × V)} {s : Nat → List SObj} {v : Nat → V} (hT : TraceG P pr ops n 0 ops.size t s v) {f : Nat} (hf1 : ∀ k o, k < f → ops[k]? = some o → touchB pr o = false) (hf2 : ∀ k o, f ≤ k → ops[k]? = some o → bal o = false) : FrA P pr ops anc t s v := by
  have hno : ∀ i oi, ops[i]? = some oi → touchB pr oi = true → ∀ id, ¬ UnB ops anc s i id := by
    rintro i oi hi ti id ⟨k, o, hk, bk, hna, rfl⟩
    have hkf : k < f := Classical.byContradiction fun q => by rw [hf2 k o (by omega) hk] at bk; cases bk
    have hif : f ≤ i := Classical.byContradiction fun q => by rw [hf1 i oi (by omega) hi] at ti; cases ti
    have t2 := touchB_iff.1 ti
    refine hna (hI.clash k i o oi (by omega) hk hi (clash_touchG (x := oi) (y := o) (i := i) (j := k) (by rw [tcA_not t2.2]; exact t2.1) (by rw [tcA_bal bk]; decide) (fun _ => ?_)).2)
    unfold apA
    rw [hk]
    simp [bk]
  refine ⟨fun i o ho to S hl hS => ⟨s (i + 1), ?_, rfl, fun id hu => absurd hu (hno i o ho to id), fun id _ => rfl⟩, fun i o ho to id hu => absurd hu (hno i o ho to id)⟩
  obtain ⟨o', a1, a2, _⟩ := hT.step i (Nat.zero_le _) (by have := bounds ho; omega)
  rw [ho] at a1; injection a1 with a1; subst a1
  have : S = s i := List.ext_getElem? fun id => by
    rcases hS id with q | q
    · exact q
    · exact absurd q.2 (hno i o ho to id)
  rw [this]; exact a2
end Go.HM
