/- HN, part B: a region whose order is drawn, with calls that take memory. -/
import Derived.Test.YtaghnihkkofmnaaGreatHnA
import Derived.Test.YtaghnihkkofmnaaGreatHmW
namespace Go.HM

variable {P : Program} {U : Nat → Nat → Prop} {κ : List Place} {s : List SObj} {w : World} {ok : Nat → Nat → Prop} {pr : Oper → Bool}

/-- It makes a new object, and does nothing else to what is there. -/
def alo (o : Oper) : Bool := match o.op with
  | .alloc _ | .makeMap _ _ => true
  | _ => false

/-- What the op looks at: an object of the store's; none: none. -/
def fpL (P : Program) (t : List (Nat × V)) (o : Oper) : Option Nat := match o.op with
  | .load _ a => match evalO P t none 0 a with | some (.ptr id _) => some id | some (.ep id _ _) => some id | _ => none
  | .lookup ty x _ _ => match evalO P t none ty x with | some (.map id) => some id | _ => none
  | _ => none

/-- The one object that the op writes; none: who knows. -/
def fpS (P : Program) (t : List (Nat × V)) (o : Oper) : Option Nat := match o.op with
  | .store _ a _ => match evalO P t none 0 a with | some (.ptr id _) => some id | some (.ep id _ _) => some id | _ => none
  | _ => none

/-- 'ap i k': what i looks at, k leaves alone. -/
def clashG (ap : Nat → Nat → Bool) (tc : Oper → Nat) (ops : Array Oper) (i j : Nat) (x y : Oper) : Bool :=
  (match x.dst with | some d => memN d (reads ops y) || y.dst == some d | none => false) ||
  (match y.dst with | some d => memN d (reads ops x) | none => false) ||
  ((tc x == 2) && (tc y != 0) && !((tc y == 1) && ap j i)) || ((tc y == 2) && (tc x != 0) && !((tc x == 1) && ap i j))

def indepGoG (ap : Nat → Nat → Bool) (tc : Oper → Nat) (ops : Array Oper) (ancs : List (List Nat)) : List Oper → Nat → Bool
  | [], _ => true
  | y :: ys, j => ((List.range j).all fun i => match ops[i]? with | some x => (!clashG ap tc ops i j x y || memN i (ancs.getD j [])) && (x.dst.isNone || x.dst != y.dst) | none => true) && (y.after.toList.all fun e => !Region.binds .any e || Nat.blt e.on j) && (match y.guard with | some (g, _) => Nat.blt g j | none => true) && indepGoG ap tc ops ancs ys (j + 1)

def indepL (ap : Nat → Nat → Bool) (tc : Oper → Nat) (ops : Array Oper) : Bool := indepGoG ap tc ops (ancsGo ops.toList []) ops.toList 0

/-! The same, quick: those ahead as bits -/

def bitE (acc : List Nat) (m : Nat) (e : Edge) : Nat := if Region.binds .any e && Nat.blt e.on acc.length then Nat.lor (Nat.lor m (acc.getD e.on 0)) (Nat.shiftLeft 1 e.on) else m

def ancsB : List Oper → List Nat → List Nat
  | [], acc => acc
  | o :: os, acc => ancsB os (acc ++ [o.after.toList.foldl (bitE acc) 0])

def indepGoB (ap : Nat → Nat → Bool) (tc : Oper → Nat) (ops : Array Oper) (ancs : List Nat) : List Oper → Nat → Bool
  | [], _ => true
  | y :: ys, j => ((List.range j).all fun i => Nat.testBit (ancs.getD j 0) i || (match ops[i]? with | some x => !clashG ap tc ops i j x y | none => true)) && ((List.range j).all fun i => match ops[i]? with | some x => x.dst.isNone || x.dst != y.dst | none => true) && (y.after.toList.all fun e => !Region.binds .any e || Nat.blt e.on j) && (match y.guard with | some (g, _) => Nat.blt g j | none => true) && indepGoB ap tc ops ancs ys (j + 1)

def indepG (ap : Nat → Nat → Bool) (tc : Oper → Nat) (ops : Array Oper) : Bool := indepGoB ap tc ops (ancsB ops.toList []) ops.toList 0

theorem getD_appL {α : Type} {l m : List α} {d : α} {k : Nat} (h : k < l.length) : (l ++ m).getD k d = l.getD k d := by simp [List.getD_eq_getElem?_getD, List.getElem?_append_left h]
theorem getD_appR {α : Type} {l m : List α} {d : α} {k : Nat} (h : l.length ≤ k) : (l ++ m).getD k d = m.getD (k - l.length) d := by simp [List.getD_eq_getElem?_getD, List.getElem?_append_right h]

theorem fold_sub {accB : List Nat} {accL : List (List Nat)} (hlen : accB.length = accL.length) (hsub : ∀ k i, Nat.testBit (accB.getD k 0) i = true → i ∈ accL.getD k []) : ∀ (l : List Edge) (m i : Nat), Nat.testBit (l.foldl (bitE accB) m) i = true →
    Nat.testBit m i = true ∨ i ∈ l.flatMap fun e => if Region.binds .any e && Nat.blt e.on accL.length then e.on :: accL.getD e.on [] else []
  | [], m, i, h => .inl h
  | e :: l, m, i, h => by
    rw [List.foldl_cons] at h
    rcases fold_sub hlen hsub l _ i h with q | q
    · unfold bitE at q
      rw [hlen] at q
      split at q
      · rename_i hc
        have q' : (m ||| accB.getD e.on 0 ||| (1 <<< e.on)).testBit i = true := q
        rw [Nat.testBit_or, Nat.testBit_or, Bool.or_eq_true, Bool.or_eq_true] at q'
        rcases q' with (q' | q') | q'
        · exact .inl q'
        · right
          rw [List.flatMap_cons, if_pos hc]
          exact List.mem_append_left _ (List.mem_cons_of_mem _ (hsub _ _ q'))
        · right
          rw [List.flatMap_cons, if_pos hc]
          rw [Nat.testBit_shiftLeft] at q'
          simp only [Bool.and_eq_true, decide_eq_true_eq, Nat.testBit_one_eq_true_iff_self_eq_zero] at q'
          have : i = e.on := by omega
          subst this
          exact List.mem_append_left _ (List.mem_cons_self ..)
      · exact .inl q
    · right
      rw [List.flatMap_cons]
      exact List.mem_append_right _ q

theorem ancsB_sub : ∀ (os : List Oper) (accB : List Nat) (accL : List (List Nat)), accB.length = accL.length → (∀ k i, Nat.testBit (accB.getD k 0) i = true → i ∈ accL.getD k []) →
    ∀ k i, Nat.testBit ((ancsB os accB).getD k 0) i = true → i ∈ (ancsGo os accL).getD k []
  | [], accB, accL, hl, hs => hs
  | o :: os, accB, accL, hl, hs => by
    simp only [ancsB, ancsGo]
    refine ancsB_sub os _ _ (by simp [hl]) (fun k i h => ?_)
    rcases Nat.lt_trichotomy k accB.length with q | q | q
    · rw [getD_appL q] at h
      rw [getD_appL (by omega)]
      exact hs k i h
    · subst q
      rw [getD_appR (Nat.le_refl _)] at h
      rw [getD_appR (by omega), show accB.length - accL.length = 0 by omega]
      simp only [Nat.sub_self, List.getD_cons_zero] at h ⊢
      rcases fold_sub hl hs _ _ _ h with r | r
      · simp at r
      · exact r
    · rw [getD_appR (by omega)] at h
      have : k - accB.length ≠ 0 := by omega
      obtain ⟨n, hn⟩ := Nat.exists_eq_succ_of_ne_zero this
      rw [hn] at h
      simp at h

theorem indepGoB_L {ap : Nat → Nat → Bool} {tc : Oper → Nat} {ops : Array Oper} {aB : List Nat} {aL : List (List Nat)} (hs : ∀ k i, Nat.testBit (aB.getD k 0) i = true → i ∈ aL.getD k []) : ∀ (os : List Oper) (j : Nat), indepGoB ap tc ops aB os j = true → indepGoG ap tc ops aL os j = true
  | [], j, h => rfl
  | y :: ys, j, h => by
    simp only [indepGoB, Bool.and_eq_true] at h
    simp only [indepGoG, Bool.and_eq_true]
    refine ⟨⟨⟨?_, h.1.1.2⟩, h.1.2⟩, indepGoB_L hs ys (j + 1) h.2⟩
    refine List.all_eq_true.2 fun i hi => ?_
    have h1 := List.all_eq_true.1 h.1.1.1.1 i hi
    have h2 := List.all_eq_true.1 h.1.1.1.2 i hi
    cases hx : ops[i]? with
    | none => rfl
    | some x =>
      rw [hx] at h1 h2
      simp only [Bool.and_eq_true]
      refine ⟨?_, h2⟩
      rw [Bool.or_eq_true] at h1 ⊢
      rcases h1 with q | q
      · exact .inr (memN_iff.2 (hs j i q))
      · exact .inl q

theorem indepG_L {ap : Nat → Nat → Bool} {tc : Oper → Nat} {ops : Array Oper} (h : indepG ap tc ops = true) : indepL ap tc ops = true :=
  indepGoB_L (ancsB_sub ops.toList [] [] rfl (fun k i q => by simp at q)) ops.toList 0 h

/-- Without a look at the run. -/
def apS (ops : Array Oper) (_ k : Nat) : Bool := match ops[k]? with | some o => alo o | none => false

/-! Objects that are the same -/

mutual
def T.same : T → T → Bool
  | .int k n, .int k' n' => decide (k = k') && decide (n = n')
  | .bool b, .bool b' => b == b'
  | .str s, .str s' => decide (s.data = s'.data)
  | .flt k n, .flt k' n' => decide (k = k') && Nat.beq n n'
  | .ba n bs, .ba n' bs' => Nat.beq n n' && decide (bs = bs')
  | .agg ts, .agg ts' => T.sames ts ts'
  | .bl x bs, .bl x' bs' => (x == x') && decide (bs = bs')
  | .lst x e ts, .lst x' e' ts' => (x == x') && Nat.beq e e' && T.sames ts ts'
  | .rp t n, .rp t' n' => Nat.beq n n' && T.same t t'
  | .nilP, .nilP => true
  | .nilM, .nilM => true
  | .nilF, .nilF => true
  | .nilI, .nilI => true
  | .clo f ts, .clo f' ts' => Nat.beq f f' && T.sames ts ts'
  | .sl b t, .sl b' t' => (b == b') && T.same t t'
  | _, _ => false
def T.sames : List T → List T → Bool
  | [], [] => true
  | t :: ts, t' :: ts' => T.same t t' && T.sames ts ts'
  | _, _ => false
end

mutual
theorem T.same_eq : ∀ {a b : T}, T.same a b = true → a = b
  | .int k n, b, h => by cases b <;> simp [T.same] at h; simp [h]
  | .bool x, b, h => by cases b <;> simp [T.same] at h; simp [h]
  | .str x, b, h => by
    cases b <;> simp [T.same] at h
    rename_i y
    cases x; cases y; simp_all
  | .flt k n, b, h => by cases b <;> simp [T.same] at h; simp [h]
  | .ba k n, b, h => by cases b <;> simp [T.same] at h; simp [h]
  | .agg ts, b, h => by cases b <;> simp [T.same] at h; rw [T.sames_eq h]
  | .bl x bs, b, h => by cases b <;> simp [T.same] at h; simp [h]
  | .lst x e ts, b, h => by cases b <;> simp [T.same] at h; rw [T.sames_eq h.2, h.1.1, h.1.2]
  | .rp t n, b, h => by cases b <;> simp [T.same] at h; rw [T.same_eq h.2, h.1]
  | .nilP, b, h => by cases b <;> simp [T.same] at h; rfl
  | .nilM, b, h => by cases b <;> simp [T.same] at h; rfl
  | .nilF, b, h => by cases b <;> simp [T.same] at h; rfl
  | .nilI, b, h => by cases b <;> simp [T.same] at h; rfl
  | .clo f ts, b, h => by cases b <;> simp [T.same] at h; rw [T.sames_eq h.2, h.1]
  | .sl x t, b, h => by cases b <;> simp [T.same] at h; rw [T.same_eq h.2, h.1]
theorem T.sames_eq : ∀ {a b : List T}, T.sames a b = true → a = b
  | [], b, h => by cases b <;> simp [T.sames] at h; rfl
  | t :: ts, b, h => by cases b <;> simp [T.sames] at h; rw [T.same_eq h.1, T.sames_eq h.2]
end

mutual
def V.same : V → V → Bool
  | .p t, .p t' => T.same t t'
  | .rb b, .rb b' => b == b'
  | .ptr i o, .ptr i' o' => Nat.beq i i' && Nat.beq o o'
  | .row i n t, .row i' n' t' => Nat.beq i i' && Nat.beq n n' && T.same t t'
  | .map i, .map i' => Nat.beq i i'
  | .view i o n, .view i' o' n' => Nat.beq i i' && Nat.beq o o' && Nat.beq n n'
  | .cv i v o n e, .cv i' v' o' n' e' => Nat.beq i i' && Nat.beq v v' && Nat.beq o o' && Nat.beq n n' && Nat.beq e e'
  | .ep i v o, .ep i' v' o' => Nat.beq i i' && Nat.beq v v' && Nat.beq o o'
  | .agg vs, .agg vs' => V.sames vs vs'
  | .clo f vs, .clo f' vs' => Nat.beq f f' && V.sames vs vs'
  | _, _ => false
def V.sames : List V → List V → Bool
  | [], [] => true
  | t :: ts, t' :: ts' => V.same t t' && V.sames ts ts'
  | _, _ => false
end

mutual
theorem V.same_eq : ∀ {a b : V}, V.same a b = true → a = b
  | .p t, b, h => by cases b <;> simp [V.same] at h; rw [T.same_eq h]
  | .rb x, b, h => by cases b <;> simp [V.same] at h; simp [h]
  | .ptr i o, b, h => by cases b <;> simp [V.same] at h; simp [h]
  | .row i n t, b, h => by cases b <;> simp [V.same] at h; rw [T.same_eq h.2, h.1.1, h.1.2]
  | .map i, b, h => by cases b <;> simp [V.same] at h; simp [h]
  | .view i o n, b, h => by cases b <;> simp [V.same] at h; simp [h]
  | .cv i v o n e, b, h => by cases b <;> simp [V.same] at h; simp [h]
  | .ep i v o, b, h => by cases b <;> simp [V.same] at h; simp [h]
  | .agg vs, b, h => by cases b <;> simp [V.same] at h; rw [V.sames_eq h]
  | .clo f vs, b, h => by cases b <;> simp [V.same] at h; rw [V.sames_eq h.2, h.1]
  | .tup _, b, h => by cases b <;> simp [V.same] at h
  | .wh _ _ _, b, h => by cases b <;> simp [V.same] at h
  | .bad, b, h => by cases b <;> simp [V.same] at h
theorem V.sames_eq : ∀ {a b : List V}, V.sames a b = true → a = b
  | [], b, h => by cases b <;> simp [V.sames] at h; rfl
  | t :: ts, b, h => by cases b <;> simp [V.sames] at h; rw [V.same_eq h.1, V.sames_eq h.2]
end

def sameEs : List (T × T) → List (T × T) → Bool
  | [], [] => true
  | (a, b) :: r, (a', b') :: r' => T.same a a' && T.same b b' && sameEs r r'
  | _, _ => false

theorem sameEs_eq : ∀ {a b : List (T × T)}, sameEs a b = true → a = b
  | [], b, h => by cases b <;> simp [sameEs] at h; rfl
  | (x, y) :: r, b, h => by
    cases b with
    | nil => simp [sameEs] at h
    | cons p r' =>
      obtain ⟨x', y'⟩ := p
      simp only [sameEs, Bool.and_eq_true] at h
      rw [T.same_eq h.1.1, T.same_eq h.1.2, sameEs_eq h.2]

def sameO : Option SObj → Option SObj → Bool
  | some (.box v), some (.box v') => V.same v v'
  | some (.map es), some (.map es') => sameEs es es'
  | some (.vec c v), some (.vec c' v') => Nat.beq c c' && V.same v v'
  | _, _ => false

theorem sameO_eq {a b : Option SObj} (h : sameO a b = true) : a = b := by
  unfold sameO at h
  split at h
  · rw [V.same_eq h]
  · rw [sameEs_eq h]
  · simp only [Bool.and_eq_true, Nat.beq_eq] at h; rw [h.1, V.same_eq h.2]
  · cases h

/-- What a call of memory found and left. -/
def fpC (pr : Oper → Bool) (o : Oper) (s s' : List SObj) : Option (List SObj × List SObj) := if (isCall o && !pr o) || Nat.beq (tch pr o) 2 then some (s, s') else none

abbrev FP := Option Nat × Option Nat × Option (List SObj × List SObj)

/-- With a look at what the ops touched in the run. -/
def apD (ops : Array Oper) (fs : List FP) (i k : Nat) : Bool :=
  apS ops i k || (match fs[i]?, fs[k]? with
    | some (none, _, _), _ => true
    | some (some a, _, _), some (_, some b, _) => !(a == b)
    | some (some a, _, _), some (_, _, some (s, s')) => sameO s[a]? s'[a]?
    | _, _ => false)

theorem touch_leX (o : Oper) : touch o.op ≤ 2 := by
  obtain ⟨dst, op, type, pos, after, guard⟩ := o
  cases op <;> simp [touch]
  all_goals (first | (split <;> simp; done) | (split <;> first | simp | (split <;> simp)))

theorem tch_run {o : Oper} (h : isCall o = false) (hb : (isBS o && pr o) = false) : tch pr o = touch o.op := by unfold tch; simp only [h, hb]; rfl
theorem notBS {o : Oper} (h : isCall o = true) : isBS o = false := by
  unfold isCall at h; unfold isBS
  split at h
  · rename_i c e
    rw [e]
    simp only
    split at h
    · rename_i e2; rw [e2]
    · cases h
  · cases h
theorem tch_bview {o : Oper} (h : isBS o = true) (hp : pr o = true) : tch pr o = 2 := by unfold tch; simp [h, hp]
theorem tch_pcall {o : Oper} (h : isCall o = true) (hp : pr o = true) : tch pr o = 0 := by unfold tch; simp [hp, isCall_touch h, notBS h]
theorem tch_gcall {o : Oper} (h : isCall o = true) (hp : pr o = false) : tch pr o = 2 := by unfold tch; simp [hp, h]

theorem calleeV_t {L : List Nat} {t t' : List (Nat × V)} (ha : Agree L t t') {o : Oper} (hL : o.op.operands.toList.filterMap tmpOf ⊆ L) : calleeV P t o = calleeV P t' o := by
  obtain ⟨dst, op, type, pos, after, guard⟩ := o
  cases op with
  | call c =>
    have hc : ∀ f, c.callee = .value f → evalO P t none 0 f = evalO P t' none 0 f ∧ evalOs P t none c.argTypes.toList c.args.toList = evalOs P t' none c.argTypes.toList c.args.toList := fun f hf => by
      refine ⟨evalO_agree ha hL (x := f) (by simp [Op.operands, Call.operands, hf]), evalOs_agree ha (fun d hd => hL ?_)⟩
      obtain ⟨y, h1, h2⟩ := List.mem_filterMap.1 hd
      exact List.mem_filterMap.2 ⟨y, by simp [Op.operands, Call.operands, hf]; right; simpa using h1, h2⟩
    simp only [calleeV]
    split
    · rename_i f hf
      rw [(hc f hf).1, (hc f hf).2]
    · rfl
  | _ => rfl

theorem buildBx_t {L : List Nat} {t t' : List (Nat × V)} (ha : Agree L t t') {o : Oper} (hL : o.op.operands.toList.filterMap tmpOf ⊆ L) : buildBx P t s o = buildBx P t' s o := by
  obtain ⟨dst, op, type, pos, after, guard⟩ := o
  cases op with
  | buildSlice ty len parts =>
    have : ∀ p ∈ parts.toList, ∀ ty, evalO P t none ty p.2 = evalO P t' none ty p.2 := fun p hp ty => evalO_agree ha hL (x := p.2) (by simp [Op.operands]; exact ⟨p.1, by simpa using hp⟩)
    simp only [buildBx, buildBx0, lenMap, strBx, setParts_agree this]
  | convert src dst x => simp only [buildBx, buildBx0, lenMap, strBx, evalO_agree ha hL (x := x) (by simp [Op.operands])]
  | call c =>
    have hA : ∀ x ∈ c.args.toList, ∀ g ty, evalO P t g ty x = evalO P t' g ty x := fun x hx g ty => evalO_agree ha hL (by simp [Op.operands, Call.operands]; right; simpa using hx)
    simp only [buildBx, buildBx0, lenMap, strBx]
    have e : ∀ {a b : Option OpR}, a = b → (match a with | some q => some q | none => (none : Option OpR)) = (match b with | some q => some q | none => none) := fun e => by rw [e]
    refine e ?_
    split
    · split
      · rename_i x ty e1 e2
        simp only [hA x (by rw [e1]; simp)]
      · rfl
    · rfl
  | _ => rfl

/-- A step, from another state that agrees. -/
theorem StepG.agree {ops : Array Oper} {o : Oper} {t t' : List (Nat × V)} {s s' s1 : List SObj} {v : V} (ha : Agree (reads ops o) t t') (hs : tch pr o ≠ 0 → s = s') (h : StepG P pr ops o t s v s1) : StepG P pr ops o t' s' v (if tch pr o = 2 then s1 else s') := by
  have hL : o.op.operands.toList.filterMap tmpOf ⊆ reads ops o := fun x hx => by unfold reads; exact List.mem_append.2 (.inl hx)
  induction h with
  | skip hg =>
    have := StepG.skip (P := P) (pr := pr) (s := s') (by rw [← guardOf_t ha (fun x hx => hx)]; exact hg)
    split
    · rename_i h2; rw [hs (by omega)]; exact this
    · exact this
  | run hg hc hbs hq hob hnw =>
    rename_i it q
    have hC : ∃ q', hop P t' s' none o it = some q' ∧ q'.v = q.v ∧ q'.obs = q.obs ∧ q'.s = (if tch pr o = 2 then q.s else s') := by
      rw [hop_t ha hL] at hq
      by_cases h0 : touch o.op = 0
      · exact ⟨_, hop_s h0 hq, rfl, rfl, by rw [tch_run hc hbs]; simp [h0]⟩
      · rw [hs (by rw [tch_run hc hbs]; exact h0)] at hq
        refine ⟨q, hq, rfl, rfl, ?_⟩
        split
        · rfl
        · rename_i h2
          exact hop_still (by have := touch_leX o; rw [tch_run hc hbs] at h2; omega) hq
    obtain ⟨q', p1, p2, p3, p4⟩ := hC
    have := StepG.run (P := P) (pr := pr) (by rw [← guardOf_t ha (fun x hx => hx)]; exact hg) hc hbs p1 (by rw [p3]; exact hob) (by rw [p2]; exact hnw)
    rw [p2, p4] at this
    exact this
  | vrun hg hc hbs hq hnw =>
    rename_i q
    have hC : ∃ q', hopW P t' s' o = some q' ∧ q'.v = q.v ∧ q'.s = (if tch pr o = 2 then q.s else s') := by
      rw [hopW_t ha hL] at hq
      by_cases h0 : touch o.op = 0
      · exact ⟨_, hopW_s h0 hq, rfl, by rw [tch_run hc hbs]; simp [h0]⟩
      · rw [hs (by rw [tch_run hc hbs]; exact h0)] at hq
        refine ⟨q, hq, rfl, ?_⟩
        split
        · rfl
        · rename_i h2
          exact hopW_still (by have := touch_leX o; rw [tch_run hc hbs] at h2; omega) hq
    obtain ⟨q', p1, p2, p4⟩ := hC
    have := StepG.vrun (P := P) (pr := pr) (by rw [← guardOf_t ha (fun x hx => hx)]; exact hg) hc hbs p1 (by rw [p2]; exact hnw)
    rw [p2, p4] at this
    exact this
  | pcall hg hc hpr hcl hp =>
    rw [tch_pcall hc hpr]
    simp only [show ¬ ((0 : Nat) = 2) by omega, if_false]
    exact StepG.pcall (by rw [← guardOf_t ha (fun x hx => hx)]; exact hg) hc hpr (by rw [← callee_t ha hL]; exact hcl) hp
  | gcall hg hc hpr hcl hp hok =>
    have h2 := tch_gcall hc hpr
    have := hs (by omega)
    subst this
    rw [h2]
    simp only [if_true]
    exact StepG.gcall (by rw [← guardOf_t ha (fun x hx => hx)]; exact hg) hc hpr (by rw [← calleeV_t ha hL]; exact hcl) hp hok
  | bview hg hc hpr hq =>
    have h2 := tch_bview hc hpr
    have := hs (by omega)
    subst this
    rw [h2]
    simp only [if_true]
    exact StepG.bview (by rw [← guardOf_t ha (fun x hx => hx)]; exact hg) hc hpr (by rw [← buildBx_t ha hL]; exact hq)
  | told hb ih => exact .told ih

/-- What 'indep' says. -/
structure IndepG (ap : Nat → Nat → Bool) (tc : Oper → Nat) (ops : Array Oper) (anc : Nat → Nat → Prop) : Prop where
  back : ∀ (k : Nat) (o : Oper) (e : Edge), ops[k]? = some o → e ∈ o.after → Region.binds .any e = true → e.on < k
  up : ∀ i k, anc i k → ∃ (o : Oper) (e : Edge), ops[k]? = some o ∧ e ∈ o.after ∧ Region.binds .any e = true ∧ (e.on = i ∨ anc i e.on)
  dst : ∀ (i j : Nat) (x y : Oper) (d : Tmp), i ≠ j → ops[i]? = some x → ops[j]? = some y → x.dst = some d → y.dst ≠ some d
  guard : ∀ (k : Nat) (o : Oper) (g : Nat) (b : Bool), ops[k]? = some o → o.guard = some (g, b) → g < k
  clash : ∀ (i j : Nat) (x y : Oper), i < j → ops[i]? = some x → ops[j]? = some y → Go.HM.clashG ap tc ops i j x y = true → anc i j

theorem indepGo_specG {ap : Nat → Nat → Bool} {tc : Oper → Nat} (ops : Array Oper) (ancs : List (List Nat)) : ∀ (ys : List Oper) (j0 : Nat) (pre : List Oper), ops.toList = pre ++ ys → j0 = pre.length → indepGoG ap tc ops ancs ys j0 = true →
    ∀ j y, j0 ≤ j → ops[j]? = some y → (∀ i x, i < j → ops[i]? = some x → (clashG ap tc ops i j x y = true → i ∈ ancs.getD j []) ∧ (∀ d, x.dst = some d → y.dst ≠ some d)) ∧ (∀ e ∈ y.after, Region.binds .any e = true → e.on < j) ∧ (∀ g b, y.guard = some (g, b) → g < j)
  | [], j0, pre, hops, hj, h, j, y, hle, hy => by
    exfalso
    have := congrArg List.length hops
    simp at this
    have := (Array.getElem?_eq_some_iff.1 hy).1
    omega
  | y0 :: ys, j0, pre, hops, hj, h, j, y, hle, hy => by
    simp only [indepGoG, Bool.and_eq_true] at h
    obtain ⟨⟨⟨h1, h2⟩, h2g⟩, h3⟩ := h
    by_cases hjj : j = j0
    · subst hjj
      have hy0 : y = y0 := by
        rw [← Array.getElem?_toList, hops, hj] at hy
        simpa using hy.symm
      subst hy0
      refine ⟨fun i x hi hx => ?_, fun e he hb => ?_, fun g b hg => by rw [hg] at h2g; simpa [Nat.blt_eq] using h2g⟩
      · have := List.all_eq_true.1 h1 i (by simpa using hi)
        simp only [hx, Bool.and_eq_true, Bool.or_eq_true, Bool.not_eq_true', memN_iff] at this
        refine ⟨fun hc => this.1.resolve_left (by rw [hc]; simp), fun d hd hyd => ?_⟩
        rcases this.2 with q | q
        · rw [hd] at q; simp at q
        · rw [hd, hyd] at q; simp at q
      · have := List.all_eq_true.1 h2 e (by simpa using he)
        simp only [Bool.or_eq_true, Bool.not_eq_true', Nat.blt_eq] at this
        rcases this with q | q
        · rw [hb] at q; cases q
        · exact q
    · exact indepGo_specG ops ancs ys (j0 + 1) (pre ++ [y0]) (by simp [hops]) (by simp [hj]) h3 j y (by omega) hy

theorem indep_specG {ap : Nat → Nat → Bool} {tc : Oper → Nat} {ops : Array Oper} (h' : indepG ap tc ops = true) : ∃ anc, IndepG ap tc ops anc := by
  have h := indepG_L h'
  unfold indepL at h
  obtain ⟨res, e, hl, hr⟩ := ancsGo_spec ops ops.toList [] [] rfl rfl (by intro k hk; simp at hk)
  rw [e] at h
  have hs := indepGo_specG ops res ops.toList 0 [] rfl rfl h
  refine ⟨fun i k => i ∈ res.getD k [], ⟨fun k o e ho he hb => (hs k o (Nat.zero_le _) ho).2.1 e he hb, fun i k hi => ?_, fun i j x y d hne hx hy hd => ?_, fun k o g b ho hg => (hs k o (Nat.zero_le _) ho).2.2 g b hg, fun i j x y hij hx hy hc => ((hs j y (Nat.zero_le _) hy).1 i x hij hx).1 hc⟩⟩
  · have hk : k < res.length := by
      rcases Nat.lt_or_ge k res.length with q | q
      · exact q
      · simp [List.getD, List.getElem?_eq_none q] at hi
    obtain ⟨o, e, a1, a2, a3, a4, a5⟩ := hr k hk i hi
    exact ⟨o, e, a1, a2, a3, a5⟩
  · rcases Nat.lt_or_gt_of_ne hne with q | q
    · exact ((hs j y (Nat.zero_le _) hy).1 i x q hx).2 d hd
    · intro hyd; exact ((hs i x (Nat.zero_le _) hx).1 j y q hy).2 d hyd hd

/-- The steps of a run in the text's order. -/
structure TraceG (P : Program) (pr : Oper → Bool) (ops : Array Oper) (n : Nat) (k m : Nat) (t : Nat → List (Nat × V)) (s : Nat → List SObj) (v : Nat → V) : Prop where
  step : ∀ i, k ≤ i → i < k + m → ∃ o, ops[i]? = some o ∧ StepG P pr ops o (t i) (s i) (v i) (s (i + 1)) ∧ setDst ⟨n, t i, s (i + 1)⟩ o.dst (v i) = some ⟨n, t (i + 1), s (i + 1)⟩

theorem stepF_stillG {ops : Array Oper} {o : Oper} {t : List (Nat × V)} {s s1 : List SObj} {v : V} (h : StepG P pr ops o t s v s1) (ht : tch pr o < 2) : s1 = s := by
  induction h with
  | skip => rfl
  | run hg hc hbs hq _ _ => rw [tch_run hc hbs] at ht; exact hop_still ht hq
  | vrun hg hc hbs hq _ => rw [tch_run hc hbs] at ht; exact hopW_still ht hq
  | pcall => rfl
  | gcall hg hc hpr _ _ _ => rw [tch_gcall hc hpr] at ht; omega
  | bview hg hc hpr hq => rw [tch_bview hc hpr] at ht; omega
  | told _ ih => exact ih

theorem touch_leG (o : Oper) : tch pr o ≤ 2 := by
  unfold tch
  split
  · omega
  · exact touch_leX o

theorem tupV_notWh {rs : List V} (h : okParts rs = true) {d : Nat} {want : Bool} {u : V} : tupV rs ≠ .wh d want u := by
  match rs with
  | [] => intro e; cases e
  | [v] => intro e; simp only [tupV] at e; subst e; simp [okParts, okPart] at h
  | v :: v' :: r => intro e; cases e

theorem buildBx0_v {t : List (Nat × V)} {o : Oper} {q : OpR} (hq : buildBx0 P t s o = some q) : ∃ n l, q.v = .view s.length 0 n ∧ q.s = s ++ l := by
  unfold buildBx0 at hq
  split at hq
  · split at hq
    · split at hq
      · split at hq
        · split at hq
          · injection hq with hq; subst hq; exact ⟨_, _, rfl, rfl⟩
          · cases hq
        · cases hq
      · cases hq
    · cases hq
  · cases hq

theorem lenMap_v {t : List (Nat × V)} {o : Oper} {q : OpR} (hq : lenMap P t s o = some q) : ∃ n, q.v = .p (.int .i64 n) ∧ q.s = s := by
  unfold lenMap at hq
  split at hq
  · split at hq
    · split at hq
      · split at hq
        · split at hq
          · injection hq with hq; subst hq; exact ⟨_, rfl, rfl⟩
          · cases hq
        · injection hq with hq; subst hq; exact ⟨_, rfl, rfl⟩
        · cases hq
      · cases hq
    · cases hq
  · cases hq

theorem strBx_v {t : List (Nat × V)} {o : Oper} {q : OpR} (hq : strBx P t s o = some q) : ∃ u l, q.v = .row s.length 0 u ∧ q.s = s ++ l := by
  unfold strBx at hq
  split at hq
  · split at hq
    · split at hq
      · injection hq with hq; subst hq; exact ⟨_, _, rfl, rfl⟩
      · cases hq
    · cases hq
  · cases hq

theorem buildBx_v {t : List (Nat × V)} {o : Oper} {q : OpR} (hq : buildBx P t s o = some q) : ∃ l, ((∃ n, q.v = .view s.length 0 n) ∨ (∃ n, q.v = .p (.int .i64 n)) ∨ ∃ u, q.v = .row s.length 0 u) ∧ q.s = s ++ l := by
  unfold buildBx at hq
  split at hq
  · rename_i e; injection hq with hq; subst hq
    obtain ⟨n, l, h1, h2⟩ := buildBx0_v e
    exact ⟨l, .inl ⟨n, h1⟩, h2⟩
  · split at hq
    · rename_i e; injection hq with hq; subst hq
      obtain ⟨n, h1, h2⟩ := lenMap_v e
      exact ⟨[], .inr (.inl ⟨n, h1⟩), by simp [h2]⟩
    · obtain ⟨u, l, h1, h2⟩ := strBx_v hq
      exact ⟨l, .inr (.inr ⟨u, h1⟩), h2⟩

theorem buildBx_notWh {t : List (Nat × V)} {o : Oper} {q : OpR} (hq : buildBx P t s o = some q) (d : Nat) (want : Bool) (u : V) : q.v ≠ .wh d want u := by
  obtain ⟨l, ⟨n, e⟩ | ⟨n, e⟩ | ⟨n, e⟩, _⟩ := buildBx_v hq <;> (rw [e]; intro k; cases k)

theorem stepF_noWh {ops : Array Oper} {o : Oper} {t : List (Nat × V)} {s s1 : List SObj} {v : V} (h : StepG P pr ops o t s v s1) : ∀ d want u, v ≠ .wh d want u := by
  induction h with
  | skip => intro _ _ _ e; cases e
  | run hg hc hbs hq _ hnw => intro d want u e; rw [e] at hnw; cases hnw
  | vrun hg hc hbs hq hnw => intro d want u e; rw [e] at hnw; cases hnw
  | pcall => intro d want u e; unfold tupOf at e; split at e <;> cases e
  | gcall hg hc hpr _ _ hok => intro d want u e; exact tupV_notWh hok e
  | bview hg hc hpr hq => intro d want u e; exact buildBx_notWh hq d want u e
  | told => intro _ _ _ e; cases e

theorem stepF_whG {ops : Array Oper} {o : Oper} {t : List (Nat × V)} {s s1 : List SObj} {d : Nat} {want : Bool} {u : V} (h : StepG P pr ops o t s (.wh d want u) s1) : ∃ g b og, o.guard = some (g, b) ∧ ops[g]? = some og ∧ og.dst = some d := absurd rfl (stepF_noWh h d want u)

/-- The slots of a run in the text's order. -/
theorem trace_getG {ap : Nat → Nat → Bool} {tc : Oper → Nat} {ops : Array Oper} {anc : Nat → Nat → Prop} (hI : IndepG ap tc ops anc) {n m : Nat} {t : Nat → List (Nat × V)} {s : Nat → List SObj} {v : Nat → V} (hT : TraceG P pr ops n 0 m t s v) (h0 : ∀ x d want u, getT (t 0) x ≠ some (.wh d want u)) :
    ∀ i, i ≤ m → (∀ x d want u, getT (t i) x = some (.wh d want u) → ∃ j o, j < i ∧ ops[j]? = some o ∧ o.dst = some d) ∧
      (∀ x j o, j < i → ops[j]? = some o → o.dst = some x → getT (t i) x = some (v j)) ∧ (∀ x, (∀ j o, j < i → ops[j]? = some o → o.dst ≠ some x) → getT (t i) x = getT (t 0) x)
  | 0, _ => ⟨fun x d want u h => absurd h (h0 x d want u), fun x j o h => by omega, fun x _ => rfl⟩
  | i + 1, hi => by
    obtain ⟨w1, w2, w3⟩ := trace_getG hI hT h0 i (by omega)
    obtain ⟨o, a1, a2, a3⟩ := hT.step i (Nat.zero_le _) (by omega)
    have hget := (setDst_get (st := ⟨n, t i, s (i + 1)⟩) (s' := s (i + 1)) a3 (fun x dd want u hd hw => by
      obtain ⟨j, oj, j1, j2, j3⟩ := w1 x dd want u hw
      exact hI.dst i j o oj dd (by omega) a1 j2 hd j3)).2.2
    simp only at hget
    refine ⟨fun x d want u hx => ?_, fun x j oj hj ho hd => ?_, fun x hx => ?_⟩
    · rw [hget] at hx
      split at hx
      · injection hx with hx
        rw [hx] at a2
        obtain ⟨g, b, og, g1, g2, g3⟩ := stepF_whG a2
        exact ⟨g, og, by have := hI.guard i o g b a1 g1; omega, g2, g3⟩
      · obtain ⟨j, oj, j1, j2, j3⟩ := w1 x d want u hx
        exact ⟨j, oj, by omega, j2, j3⟩
    · rw [hget]
      by_cases hji : j = i
      · subst hji
        rw [a1] at ho; injection ho with ho; subst ho
        simp [hd]
      · have : o.dst ≠ some x := fun e => hI.dst i j o oj x (by omega) a1 ho e hd
        simp [this]
        exact w2 x j oj (by omega) ho hd
    · rw [hget, if_neg (hx i o (by omega) a1)]
      exact w3 x (fun j oj hj => hx j oj (by omega))

structure InvG (P : Program) (pr : Oper → Bool) (ops : Array Oper) (t : Nat → List (Nat × V)) (s : Nat → List SObj) (v : Nat → V) (listed : Array Bool) (st : St) : Prop where
  size : listed.size = ops.size
  down : ∀ k o e, Lst listed k → ops[k]? = some o → e ∈ o.after → Region.binds .any e = true → Lst listed e.on
  wh : ∀ x d want u, getT st.t x = some (.wh d want u) → ∃ j o, Lst listed j ∧ ops[j]? = some o ∧ o.dst = some d
  put : ∀ x j o, Lst listed j → ops[j]? = some o → o.dst = some x → getT st.t x = some (v j)
  old : ∀ x, (∀ j o, Lst listed j → ops[j]? = some o → o.dst ≠ some x) → getT st.t x = getT (t 0) x
  store : ∀ m, m ≤ ops.size → (∀ k o, ops[k]? = some o → tch pr o = 2 → (Lst listed k ↔ k < m)) → st.s = s m

/-- Who is listed has all that it waits for. -/
theorem InvG.anc {ap : Nat → Nat → Bool} {ops : Array Oper} {anc : Nat → Nat → Prop} (hI : IndepG ap (tch pr) ops anc) {t : Nat → List (Nat × V)} {s : Nat → List SObj} {v : Nat → V} {listed : Array Bool} {st : St} (h : InvG P pr ops t s v listed st) : ∀ k i, anc i k → Lst listed k → Lst listed i := by
  intro k
  induction k using Nat.strongRecOn with
  | _ k ih =>
    intro i hi hk
    obtain ⟨o, e, a1, a2, a3, a4⟩ := hI.up i k hi
    have he := h.down k o e hk a1 a2 a3
    rcases a4 with rfl | a4
    · exact he
    · exact ih e.on (hI.back k o e a1 a2 a3) i a4 he

theorem anc_readyG {ap : Nat → Nat → Bool} {ops : Array Oper} {anc : Nat → Nat → Prop} (hI : IndepG ap (tch pr) ops anc) {t : Nat → List (Nat × V)} {s : Nat → List SObj} {v : Nat → V} {listed : Array Bool} {st : St} (h : InvG P pr ops t s v listed st) {i : Nat} {o : Oper} (ho : ops[i]? = some o) (hr : ∀ e ∈ o.after, Region.binds .any e = true → Lst listed e.on) {j : Nat} (hj : anc j i) : Lst listed j := by
  obtain ⟨o', e, a1, a2, a3, a4⟩ := hI.up j i hj
  rw [ho] at a1; injection a1 with a1; subst a1
  have he := hr e a2 a3
  rcases a4 with rfl | a4
  · exact he
  · exact h.anc hI e.on j a4 he

theorem clash_rwG {ap : Nat → Nat → Bool} {tc : Oper → Nat} {ops : Array Oper} {i j : Nat} {x y : Oper} {d : Nat} (hd : x.dst = some d) (hr : d ∈ reads ops y) : clashG ap tc ops i j x y = true ∧ clashG ap tc ops j i y x = true := by
  have := memN_iff.2 hr
  unfold clashG
  simp [hd, this]

theorem clash_touchG {ap : Nat → Nat → Bool} {tc : Oper → Nat} {ops : Array Oper} {i j : Nat} {x y : Oper} (hx : tc x = 2) (hy : tc y ≠ 0) (hna : tc y = 1 → ap j i = false) : clashG ap tc ops i j x y = true ∧ clashG ap tc ops j i y x = true := by
  have h1 : (tc y != 0) = true := by simpa using hy
  have h2 : (!((tc y == 1) && ap j i)) = true := by
    cases hc : (tc y == 1)
    · rfl
    · rw [hna (by simpa using hc)]; rfl
  unfold clashG
  simp only [hx, h1, h2]
  simp

theorem store_constG {ops : Array Oper} {n : Nat} {t : Nat → List (Nat × V)} {s : Nat → List SObj} {v : Nat → V} (hT : TraceG P pr ops n 0 ops.size t s v) : ∀ d a, a + d ≤ ops.size → (∀ k o, a ≤ k → k < a + d → ops[k]? = some o → tch pr o ≠ 2) → s (a + d) = s a
  | 0, a, _, _ => rfl
  | d + 1, a, hle, h => by
    obtain ⟨o, a1, a2, a3⟩ := hT.step (a + d) (Nat.zero_le _) (by omega)
    have := stepF_stillG a2 (by have := touch_leG (pr := pr) o; have := h (a + d) o (by omega) (by omega) a1; omega)
    rw [show a + (d + 1) = a + d + 1 by omega, this]
    exact store_constG hT d a (by omega) (fun k o h1 h2 => h k o h1 (by omega))

theorem touch_one {op : Op} (h : touch op = 1) : (∃ ty x, op = .load ty x) ∨ ∃ ty x k ok, op = .lookup ty x k ok := by
  cases op with
  | load ty x => exact .inl ⟨ty, x, rfl⟩
  | lookup ty x k ok => exact .inr ⟨ty, x, k, ok, rfl⟩
  | call c => simp only [touch] at h; split at h <;> cases h
  | convert a b x => simp only [touch] at h; split at h <;> first | cases h | (split at h <;> simp at h)
  | buildSlice a b x => simp only [touch] at h; split at h <;> simp at h
  | _ => simp [touch] at h

/-- What only looks sees what is there, whatever is done beside it. -/
theorem hop_look {t : List (Nat × V)} {s s' : List SObj} {o : Oper} {it : Option Item} {q : OpR} (ht : touch o.op = 1) (hq : hop P t s none o it = some q)
    (hf : ∀ id, fpL P t o = some id → (∃ v, s[id]? = some v) → s'[id]? = s[id]?) : hop P t s' none o it = some { q with s := s' } := by
  unfold hop at hq ⊢
  rw [ht] at hq ⊢
  simp only at hq ⊢
  obtain ⟨dst, op, type, pos, after, guard⟩ := o
  rcases touch_one ht with ⟨ty, x, rfl⟩ | ⟨ty, x, k, ok, rfl⟩
  · unfold hopA at hq ⊢
    simp only [hop0, hop2] at hq ⊢
    split at hq
    · rename_i q0 hq0
      injection hq with hq; subst hq
      split at hq0
      · rename_i id off n ag e1 e2 e3
        split at hq0
        · rename_i v hb
          obtain ⟨u, hu, rfl⟩ := opmap hq0
          simp only [e1, e2, e3, hf id (by simp [fpL, e1]) ⟨_, hb⟩, hb, hu, Option.map_some]
        · cases hq0
      · rename_i u off n ag e1 e2 e3
        obtain ⟨u', hu, rfl⟩ := opmap hq0
        simp only [e1, e2, e3, hu, Option.map_some]
      · cases hq0
    · rename_i hn0
      split at hq
      · rename_i id off n e1 e2 e3
        split at hq
        · rename_i v hb
          obtain ⟨u, hu, rfl⟩ := opmap hq
          have hb' := hf id (by simp [fpL, e1]) ⟨_, hb⟩
          rw [hb] at hb'
          simp only [e1, e2, e3, hb] at hn0
          simp only [e1, e2, e3, hb', hn0, hu, Option.map_some]
          cases hv : V.at' v off n true with
          | none => simp
          | some z => rw [hv] at hn0; simp at hn0
        · cases hq
      · cases hq
  · unfold hopA at hq ⊢
    simp only [hop0, hop1, hop2] at hq ⊢
    split at hq
    · rename_i q0 hq0
      injection hq with hq; subst hq
      split at hq0
      · rename_i kt vt xv e1 e2
        split at hq0
        · rename_i kk e3
          split at hq0
          · rename_i id
            split at hq0
            · rename_i es e4
              obtain ⟨u, hu, rfl⟩ := opmap hq0
              simp only [e1, e2, e3, hf id (by simp [fpL, e2]) ⟨_, e4⟩, e4, hu, Option.map_some]
            · cases hq0
          · obtain ⟨u, hu, rfl⟩ := opmap hq0
            simp only [e1, e2, e3, hu, Option.map_some]
          · cases hq0
        · cases hq0
      · cases hq0
    · cases hq

theorem StepG.look {ops : Array Oper} {o : Oper} {t : List (Nat × V)} {s s' s1 : List SObj} {v : V} (h : StepG P pr ops o t s v s1) (ht : tch pr o = 1)
    (hf : ∀ id, fpL P t o = some id → (∃ v, s[id]? = some v) → s'[id]? = s[id]?) : StepG P pr ops o t s' v s' := by
  induction h with
  | skip hg => exact .skip hg
  | run hg hc hbs hq hob hnw =>
    rw [tch_run hc hbs] at ht
    exact StepG.run (q := { v := _, s := s', obs := _ }) hg hc hbs (hop_look ht hq hf) hob hnw
  | vrun hg hc hbs hq hnw =>
    rw [tch_run hc hbs] at ht
    refine StepG.vrun (q := { v := _, s := s', obs := _ }) hg hc hbs (?_ : hopW P t s' o = some { v := _, s := s', obs := [] }) hnw
    unfold hopW at hq ⊢
    split at hq
    · rename_i e; have := hopW0_touch e; omega
    · rename_i e0
      split at hq
      · rename_i v1 e1
        injection hq with hq; subst hq
        have e1' : hopW1 P t s' o = some v1 := by
          obtain ⟨dst, op, type, pos, after, guard⟩ := o
          cases op with
          | load ty x =>
            simp only [hopW1] at e1 ⊢
            split at e1
            · rename_i id ver off n ag q1 q2 q3
              split at e1
              · rename_i cur v hb
                simp only [hf id (by simp [fpL, q1]) ⟨_, hb⟩, hb]
                exact e1
              · cases e1
            · cases e1
          | _ => simp [hopW1] at e1
        rw [e1']
      · have := hopW2_touch hq; omega
  | pcall hg hc hpr hcl hp => exact .pcall hg hc hpr hcl hp
  | gcall hg hc hpr _ _ _ => rw [tch_gcall hc hpr] at ht; omega
  | bview hg hc hpr hq => rw [tch_bview hc hpr] at ht; omega
  | told _ ih => exact .told ih

theorem alo_step {ops : Array Oper} {o : Oper} {t : List (Nat × V)} {s s1 : List SObj} {v : V} (h : StepG P pr ops o t s v s1) (ha : alo o = true) : ∃ l, s1 = s ++ l := by
  induction h with
  | skip hg => exact ⟨[], by simp⟩
  | run hg hc hbs hq hob hnw =>
    obtain ⟨dst, op, type, pos, after, guard⟩ := o
    unfold hop at hq
    cases op with
    | alloc e =>
      simp only [touch, hopA, hop0, hop2] at hq
      split at hq
      · rename_i q0 e1
        obtain ⟨z, _, rfl⟩ := opmap e1
        injection hq with hq; subst hq; exact ⟨_, rfl⟩
      · cases hq
    | makeMap e r =>
      simp only [touch, hopA, hop0, hop1, hop2] at hq
      split at hq
      · rename_i q0 e1
        split at e1
        · injection e1 with e1; subst e1
          injection hq with hq; subst hq; exact ⟨_, rfl⟩
        · cases e1
      · cases hq
    | _ => simp [alo] at ha
  | vrun hg hc hbs hq hnw =>
    obtain ⟨dst, op, type, pos, after, guard⟩ := o
    cases op with
    | alloc e => simp [hopW, hopW0, hopW1, hopW2] at hq
    | makeMap e r => simp [hopW, hopW0, hopW1, hopW2] at hq
    | _ => simp [alo] at ha
  | pcall => exact ⟨[], by simp⟩
  | gcall hg hc _ _ _ _ => unfold isCall at hc; unfold alo at ha; split at hc <;> simp_all
  | bview hg hc hpr hq => obtain ⟨l, _, e⟩ := buildBx_v hq; exact ⟨l, e⟩
  | told _ ih => exact ih

/-- A store leaves all other objects alone. -/
theorem store_step {ops : Array Oper} {o : Oper} {t : List (Nat × V)} {s s1 : List SObj} {v : V} (h : StepG P pr ops o t s v s1) {b : Nat} (hb : fpS P t o = some b) : ∀ id, id ≠ b → s1[id]? = s[id]? := by
  induction h with
  | skip hg => intro _ _; rfl
  | run hg hc hbs hq hob hnw =>
    intro id hid
    obtain ⟨dst, op, type, pos, after, guard⟩ := o
    unfold hop at hq
    cases op with
    | store ty a x =>
      simp only [fpS] at hb
      split at hb
      · rename_i id0 off0 e0
        injection hb with hb
        simp only [touch, hopA, hop0, hop2] at hq
        split at hq
        · rename_i q0 e1
          injection hq with hq; subst hq
          split at e1
          · rename_i id' off' u e2 e3
            rw [e0] at e2
            injection e2 with e2; injection e2 with e2 e2'
            subst e2
            split at e1
            · split at e1
              · split at e1
                · injection e1 with e1; subst e1
                  rw [List.getElem?_set_ne (by omega)]
                · cases e1
              · cases e1
            · cases e1
          · cases e1
        · cases hq
      · rename_i id0 ver0 off0 e0
        simp only [touch, hopA, hop0, hop2, e0] at hq
        simp at hq
      · cases hb
    | _ => simp [fpS] at hb
  | vrun hg hc hbs hq hnw =>
    intro id hid
    obtain ⟨dst, op, type, pos, after, guard⟩ := o
    cases op with
    | store ty a x =>
      simp only [hopW, hopW0, hopW1, hopW2] at hq
      split at hq
      · rename_i id' ver' off' u e2 e3
        simp only [fpS, e2] at hb
        injection hb with hb
        split at hq
        · split at hq
          · split at hq
            · injection hq with hq; subst hq
              rw [List.getElem?_set_ne (by omega)]
            · cases hq
          · cases hq
        · cases hq
      · cases hq
    | _ => simp [fpS] at hb
  | pcall => intro _ _; rfl
  | gcall hg hc _ _ _ _ => unfold isCall at hc; unfold fpS at hb; split at hc <;> simp_all
  | bview hg hc hpr hq => obtain ⟨dst, op, type, pos, after, guard⟩ := o; cases op <;> first | (simp [isBS] at hc; done) | (simp [fpS] at hb; done)
  | told _ ih => exact ih

theorem store_keep {ops : Array Oper} {n : Nat} {t : Nat → List (Nat × V)} {s : Nat → List SObj} {v : Nat → V} (hT : TraceG P pr ops n 0 ops.size t s v) {id : Nat} : ∀ d a, a + d ≤ ops.size →
    (∀ k o, a ≤ k → k < a + d → ops[k]? = some o → tch pr o = 2 → id < (s k).length → (s (k + 1))[id]? = (s k)[id]?) → id < (s a).length → (s (a + d))[id]? = (s a)[id]?
  | 0, a, _, _, _ => rfl
  | d + 1, a, hle, h, hl => by
    have ih := store_keep hT d a (by omega) (fun k o h1 h2 => h k o h1 (by omega)) hl
    obtain ⟨o, a1, a2, a3⟩ := hT.step (a + d) (Nat.zero_le _) (by omega)
    have hlen : id < (s (a + d)).length := by
      rcases Nat.lt_or_ge id (s (a + d)).length with q | q
      · exact q
      · rw [List.getElem?_eq_none q, List.getElem?_eq_getElem hl] at ih; cases ih
    rw [show a + (d + 1) = a + d + 1 by omega, ← ih]
    by_cases h2 : tch pr o = 2
    · exact h (a + d) o (by omega) (by omega) a1 h2 hlen
    · rw [stepF_stillG a2 (by have := touch_leG (pr := pr) o; omega)]

/-- What 'ap' says of a run. -/
def ApOk (P : Program) (pr : Oper → Bool) (ops : Array Oper) (ap : Nat → Nat → Bool) (t : Nat → List (Nat × V)) (s : Nat → List SObj) : Prop :=
  ∀ i k o ok, ap i k = true → ops[i]? = some o → ops[k]? = some ok → ∀ id, fpL P (t i) o = some id → id < (s k).length → (s (k + 1))[id]? = (s k)[id]?

theorem apS_ok {ops : Array Oper} {n : Nat} {t : Nat → List (Nat × V)} {s : Nat → List SObj} {v : Nat → V} (hT : TraceG P pr ops n 0 ops.size t s v) : ApOk P pr ops (apS ops) t s := by
  intro i k o ok ha ho hok id _ hl
  have hk : k < ops.size := by
    rcases Nat.lt_or_ge k ops.size with q | q
    · exact q
    · simp [Array.getElem?_eq_none q] at hok
  obtain ⟨o', a1, a2, a3⟩ := hT.step k (Nat.zero_le _) (by omega)
  rw [hok] at a1; injection a1 with a1; subst a1
  unfold apS at ha
  rw [hok] at ha
  obtain ⟨l, hl'⟩ := alo_step a2 ha
  rw [hl', List.getElem?_append_left hl]

theorem apD_ok {ops : Array Oper} {n : Nat} {t : Nat → List (Nat × V)} {s : Nat → List SObj} {v : Nat → V} (hT : TraceG P pr ops n 0 ops.size t s v) {fs : List FP} (hfs : ∀ i o x, ops[i]? = some o → fs[i]? = some x → x = (fpL P (t i) o, fpS P (t i) o, fpC pr o (s i) (s (i + 1)))) : ApOk P pr ops (apD ops fs) t s := by
  intro i k o ok ha ho hok id hid hl
  unfold apD at ha
  rw [Bool.or_eq_true] at ha
  rcases ha with ha | ha
  · exact apS_ok hT i k o ok ha ho hok id hid hl
  · have hk : k < ops.size := by
      rcases Nat.lt_or_ge k ops.size with q | q
      · exact q
      · simp [Array.getElem?_eq_none q] at hok
    obtain ⟨o', a1, a2, a3⟩ := hT.step k (Nat.zero_le _) (by omega)
    rw [hok] at a1; injection a1 with a1; subst a1
    split at ha
    · rename_i e1
      have := hfs i o _ ho e1
      simp only [Prod.mk.injEq] at this
      rw [hid] at this; cases this.1
    · rename_i a _ _ _ b _ e1 e2
      have h1 := hfs i o _ ho e1
      have h2 := hfs k ok _ hok e2
      simp only [Prod.mk.injEq] at h1 h2
      have q1 := h1.1
      rw [hid] at q1
      injection q1 with q1
      refine store_step a2 h2.2.1.symm id ?_
      have : a ≠ b := by simpa using ha
      omega
    · rename_i a _ _ _ _ sa sb e1 e2
      have h1 := hfs i o _ ho e1
      have h2 := hfs k ok _ hok e2
      simp only [Prod.mk.injEq] at h1 h2
      have q1 := h1.1
      rw [hid] at q1
      injection q1 with q1
      subst q1
      have q2 := h2.2.2
      unfold fpC at q2
      split at q2
      · injection q2 with q2
        simp only [Prod.mk.injEq] at q2
        rw [← q2.1, ← q2.2]
        exact (sameO_eq ha).symm
      · cases q2
    · cases ha

/-- One more operation, whichever is ready. -/
theorem inv_stepG {ap : Nat → Nat → Bool} {ops : Array Oper} {anc : Nat → Nat → Prop} (hI : IndepG ap (tch pr) ops anc) {n : Nat} {t : Nat → List (Nat × V)} {s : Nat → List SObj} {v : Nat → V} (hT : TraceG P pr ops n 0 ops.size t s v) (h0 : ∀ x d want u, getT (t 0) x ≠ some (.wh d want u))
    {listed : Array Bool} {st : St} (h : InvG P pr ops t s v listed st) (hn : st.n = n) (hap : ApOk P pr ops ap t s) {a : Act} {w : World} (hrel : Rel U κ st a w) {i : Nat} (hi : i ∈ Region.ready .any ops listed) :
    ∃ o s1 st', ops[i]? = some o ∧ StepG P pr ops o st.t st.s (v i) s1 ∧ setDst { st with s := s1 } o.dst (v i) = some st' ∧ st'.n = n ∧ InvG P pr ops t s v (listed.setIfInBounds i true) st' := by
  obtain ⟨o, ho, hnl, hr⟩ := (ready_iff h.size).1 hi
  have hilt : i < ops.size := by
    rcases Nat.lt_or_ge i ops.size with q | q
    · exact q
    · simp [Array.getElem?_eq_none q] at ho
  obtain ⟨o', a1, a2, a3⟩ := hT.step i (Nat.zero_le _) (by omega)
  rw [ho] at a1; injection a1 with a1; subst a1
  have hget := trace_getG hI hT h0 i (by omega)
  have hanc : ∀ j, anc j i → Lst listed j := fun j hj => anc_readyG hI h ho hr hj
  have hnanc : ∀ j, anc i j → ¬ Lst listed j := fun j hj hL => hnl (h.anc hI j i hj hL)
  -- the slots that it names
  have hagree : Agree (reads ops o) (t i) st.t := by
    intro x hx
    by_cases hw : ∃ (j : Nat) (oj : Oper), ops[j]? = some oj ∧ oj.dst = some x
    · obtain ⟨j, oj, hj, hjd⟩ := hw
      have huniq : ∀ j' o', ops[j']? = some o' → o'.dst = some x → j' = j := fun j' o' h1 h2 => by
        by_cases he : j' = j
        · exact he
        · exact absurd hjd (hI.dst j' j o' oj x he h1 hj h2)
      rcases Nat.lt_trichotomy j i with hlt | heq | hgt
      · have hL := hanc j (hI.clash j i oj o hlt hj ho (clash_rwG hjd hx).1)
        rw [hget.2.1 x j oj hlt hj hjd, h.put x j oj hL hj hjd]
      · rw [hget.2.2 x (fun j' o' hlt' h1 h2 => by have := huniq j' o' h1 h2; omega), h.old x (fun j' o' hL h1 h2 => by have := huniq j' o' h1 h2; rw [this, heq] at hL; exact hnl hL)]
      · have hNL := hnanc j (hI.clash i j o oj hgt ho hj (clash_rwG hjd hx).2)
        rw [hget.2.2 x (fun j' o' hlt' h1 h2 => by have := huniq j' o' h1 h2; omega), h.old x (fun j' o' hL h1 h2 => by have := huniq j' o' h1 h2; rw [this] at hL; exact hNL hL)]
    · rw [hget.2.2 x (fun j' o' _ h1 h2 => hw ⟨j', o', h1, h2⟩), h.old x (fun j' o' _ h1 h2 => hw ⟨j', o', h1, h2⟩)]
  -- the store
  have hF : StepG P pr ops o st.t st.s (v i) (if tch pr o = 2 then s (i + 1) else st.s) := by
    by_cases h1 : tch pr o = 1
    · -- what only looks
      have hF0 := a2.agree (s' := s i) hagree (fun _ => rfl)
      rw [if_neg (by omega)] at hF0 ⊢
      have hm : ∃ m, m ≤ ops.size ∧ ∀ k ok, ops[k]? = some ok → tch pr ok = 2 → (Lst listed k ↔ k < m) := by
        by_cases hex : ∃ k ok, ops[k]? = some ok ∧ tch pr ok = 2 ∧ ¬ Lst listed k
        · have hmin : ∃ m, (∃ ok, ops[m]? = some ok ∧ tch pr ok = 2 ∧ ¬ Lst listed m) ∧ ∀ k, k < m → ¬ ∃ ok, ops[k]? = some ok ∧ tch pr ok = 2 ∧ ¬ Lst listed k := by
            obtain ⟨k0, hk0⟩ := hex
            have key : ∀ k, (∃ ok, ops[k]? = some ok ∧ tch pr ok = 2 ∧ ¬ Lst listed k) → ∃ m, (∃ ok, ops[m]? = some ok ∧ tch pr ok = 2 ∧ ¬ Lst listed m) ∧ ∀ k, k < m → ¬ ∃ ok, ops[k]? = some ok ∧ tch pr ok = 2 ∧ ¬ Lst listed k := by
              intro k
              induction k using Nat.strongRecOn with
              | _ k ih =>
                intro hk
                by_cases hb : ∃ j, j < k ∧ ∃ ok, ops[j]? = some ok ∧ tch pr ok = 2 ∧ ¬ Lst listed j
                · obtain ⟨j, hj, hjj⟩ := hb
                  exact ih j hj hjj
                · exact ⟨k, hk, fun j hj hjj => hb ⟨j, hj, hjj⟩⟩
            exact key k0 hk0
          obtain ⟨m, ⟨om, hm1, hm2, hm3⟩, hm4⟩ := hmin
          have hml : m < ops.size := by
            rcases Nat.lt_or_ge m ops.size with q | q
            · exact q
            · simp [Array.getElem?_eq_none q] at hm1
          refine ⟨m, by omega, fun k ok hk hk2 => ⟨fun hL => ?_, fun hlt => ?_⟩⟩
          · rcases Nat.lt_trichotomy k m with q | q | q
            · exact q
            · subst q; exact absurd hL hm3
            · exact absurd (h.anc hI k m (hI.clash m k om ok q hm1 hk (clash_touchG hm2 (by omega) (by omega)).1) hL) hm3
          · exact Classical.byContradiction fun hL => hm4 k hlt ⟨ok, hk, hk2, hL⟩
        · exact ⟨ops.size, Nat.le_refl _, fun k ok hk hk2 => ⟨fun _ => by
            rcases Nat.lt_or_ge k ops.size with q | q
            · exact q
            · simp [Array.getElem?_eq_none q] at hk, fun _ => Classical.byContradiction fun hL => hex ⟨k, ok, hk, hk2, hL⟩⟩⟩
      obtain ⟨m, hms, hmm⟩ := hm
      have hsm := h.store m hms hmm
      refine hF0.look h1 (fun id hid hex => ?_)
      have hid' : fpL P (t i) o = some id := by
        rw [← hid]
        obtain ⟨dst, op, type, pos, after, guard⟩ := o
        have hL : op.operands.toList.filterMap tmpOf ⊆ reads ops ⟨dst, op, type, pos, after, guard⟩ := fun x hx => by unfold reads; exact List.mem_append.2 (.inl hx)
        cases op with
        | load ty x => simp only [fpL, evalO_agree hagree hL (x := x) (by simp [Op.operands])]
        | lookup ty x k ok => simp only [fpL, evalO_agree hagree hL (x := x) (by simp [Op.operands])]
        | _ => rfl
      rcases Nat.le_total m i with hmi | him
      · -- the store is shorter
        have hl : id < (s m).length := by
          rw [← hsm]
          obtain ⟨dst, op, type, pos, after, guard⟩ := o
          unfold fpL at hid
          simp only at hid
          split at hid
          · split at hid
            · rename_i id0 off0 e0
              injection hid with hid; subst hid
              obtain ⟨pl, v0, e1, _, _⟩ := VV_ptr (evalO_spec hrel (g := none) (fun _ _ e => by cases e) e0)
              exact getElem?_lt e1
            · rename_i id0 ver0 off0 e0
              injection hid with hid; subst hid
              obtain ⟨b0, cur0, v0, _, e1, _⟩ := VV_ep (evalO_spec hrel (g := none) (fun _ _ e => by cases e) e0)
              exact getElem?_lt e1
            · cases hid
          · split at hid
            · rename_i id0 e0
              injection hid with hid; subst hid
              obtain ⟨es, pl, e1, _, _⟩ := VV_map (evalO_spec hrel (g := none) (fun _ _ e => by cases e) e0)
              exact getElem?_lt e1
            · cases hid
          · cases hid
        have := store_keep hT (id := id) (i - m) m (by omega) (fun k ok h1' h2' hk hk2 hlk => by
          have hkm : ¬ Lst listed k := fun hL => by have := (hmm k ok hk hk2).1 hL; omega
          have hapk : ap i k = true := Classical.byContradiction fun hna => hkm (hanc k (hI.clash k i ok o (by omega) hk ho (clash_touchG hk2 (by omega) (fun _ => by simpa using hna)).1))
          exact hap i k o ok hapk ho hk id hid' hlk) hl
        rw [show m + (i - m) = i by omega] at this
        rw [hsm, this]
      · -- the store is longer
        obtain ⟨y, hy⟩ := hex
        have := store_keep hT (id := id) (m - i) i (by omega) (fun k ok h1' h2' hk hk2 hlk => by
          have hkm : Lst listed k := (hmm k ok hk hk2).2 (by omega)
          have hki : k ≠ i := by rintro rfl; rw [ho] at hk; injection hk with hk; subst hk; omega
          have hapk : ap i k = true := Classical.byContradiction fun hna => hnanc k (hI.clash i k o ok (by omega) ho hk (clash_touchG hk2 (by omega) (fun _ => by simpa using hna)).2) hkm
          exact hap i k o ok hapk ho hk id hid' hlk) (getElem?_lt hy)
        rw [show i + (m - i) = m by omega] at this
        rw [hsm, this]
    · have hstore : tch pr o ≠ 0 → s i = st.s := by
        intro ht
        refine (h.store i (by omega) (fun k ok hk hk2 => ?_)).symm
        rcases Nat.lt_trichotomy k i with hlt | heq | hgt
        · exact ⟨fun _ => hlt, fun _ => hanc k (hI.clash k i ok o hlt hk ho (clash_touchG hk2 ht (fun e => absurd e h1)).1)⟩
        · subst heq; exact ⟨fun hL => absurd hL hnl, fun hlt => by omega⟩
        · exact ⟨fun hL => absurd hL (hnanc k (hI.clash i k o ok hgt ho hk (clash_touchG hk2 ht (fun e => absurd e h1)).2)), fun hlt => by omega⟩
      exact a2.agree hagree hstore
  obtain ⟨st', hst'⟩ := setDst_ok (v' := v i) a3 (st2 := { st with s := if tch pr o = 2 then s (i + 1) else st.s }) hn
  have hnowh : ∀ x dd want u, o.dst = some dd → getT st.t x ≠ some (.wh dd want u) := fun x dd want u hd hw => by
    obtain ⟨j, oj, j1, j2, j3⟩ := h.wh x dd want u hw
    by_cases hji : j = i
    · rw [hji] at j1; exact hnl j1
    · exact hI.dst j i oj o dd hji j2 ho j3 hd
  obtain ⟨g1, g2, g3⟩ := setDst_get hst' hnowh
  have hisz : i < listed.size := by rw [h.size]; exact hilt
  refine ⟨o, _, st', ho, hF, hst', by rw [g1]; exact hn, ⟨by simp [h.size], fun k ok e hk hok he hb => ?_, fun x d want u hx => ?_, fun x j oj hj hoj hd => ?_, fun x hx => ?_, fun m hm hE => ?_⟩⟩
  · rw [lst_set hisz] at hk ⊢
    rcases hk with rfl | hk
    · rw [ho] at hok; injection hok with hok; subst hok
      exact .inr (hr e he hb)
    · exact .inr (h.down k ok e hk hok he hb)
  · rw [g3] at hx
    split at hx
    · injection hx with hx
      rw [hx] at a2
      obtain ⟨g, b, og, q1, q2, q3⟩ := stepF_whG a2
      have hgi := hI.guard i o g b ho q1
      have hrd : d ∈ reads ops o := by unfold reads; rw [q1]; simp [q2, q3]
      exact ⟨g, og, (lst_set hisz).2 (.inr (hanc g (hI.clash g i og o hgi q2 ho (clash_rwG q3 hrd).1))), q2, q3⟩
    · obtain ⟨j, oj, j1, j2, j3⟩ := h.wh x d want u hx
      exact ⟨j, oj, (lst_set hisz).2 (.inr j1), j2, j3⟩
  · rw [g3]
    rcases (lst_set hisz).1 hj with rfl | hj
    · rw [ho] at hoj; injection hoj with hoj; subst hoj
      simp [hd]
    · have hji : j ≠ i := fun e => by rw [e] at hj; exact hnl hj
      have : o.dst ≠ some x := fun e => hI.dst i j o oj x (Ne.symm hji) ho hoj e hd
      simp [this]
      exact h.put x j oj hj hoj hd
  · rw [g3, if_neg (hx i o ((lst_set hisz).2 (.inl rfl)) ho)]
    exact h.old x (fun j oj hj => hx j oj ((lst_set hisz).2 (.inr hj)))
  · rw [g2]
    by_cases ht : tch pr o = 2
    · rw [if_pos ht]
      have him : i < m := (hE i o ho ht).1 ((lst_set hisz).2 (.inl rfl))
      have := store_constG hT (m - (i + 1)) (i + 1) (by omega) (fun k ok h1 h2 hok hk2 => by
        have hL := (lst_set hisz).1 ((hE k ok hok hk2).2 (by omega))
        rcases hL with hL | hL
        · omega
        · exact hnanc k (hI.clash i k o ok (by omega) ho hok (clash_touchG ht (by omega) (by omega)).1) hL)
      rw [show i + 1 + (m - (i + 1)) = m by omega] at this
      exact this.symm
    · rw [if_neg ht]
      refine h.store m hm (fun k ok hok hk2 => ?_)
      rw [← hE k ok hok hk2, lst_set hisz]
      constructor
      · exact .inr
      · rintro (rfl | q)
        · rw [ho] at hok; injection hok with hok; subst hok; exact absurd hk2 ht
        · exact q

/-- WHATEVER ORDER. -/
theorem drawn_anyG {ro : Option Nat} {ap : Nat → Nat → Bool} {ops : Array Oper} {anc : Nat → Nat → Prop} (hI : IndepG ap (tch pr) ops anc) {n : Nat} {t : Nat → List (Nat × V)} {s : Nat → List SObj} {v : Nat → V} (hT : TraceG P pr ops n 0 ops.size t s v) (h0 : ∀ x d want u, getT (t 0) x ≠ some (.wh d want u)) (hap : ApOk P pr ops ap t s) {Q : Exit → Act → World → Prop} :
    ∀ (fuel : Nat) {listed : Array Bool} {st : St} {κ : List Place} {a : Act} {w : World}, (unl listed ops.size).length = fuel → InvG P pr ops t s v listed st → st.n = n → Rel U κ st a w →
      (∀ κ' a' w', Rel U κ' ⟨n, t ops.size, s ops.size⟩ a' w' → Step U κ w κ' w' → Ext κ st.s κ' (s ops.size) → Q .normal a' w') → wpAnyIn (FW ro) 0 P .any ops Q fuel listed a w := by
  have fin : ∀ {listed : Array Bool} {st : St} {κ : List Place} {a : Act} {w : World}, (unl listed ops.size).length = 0 → InvG P pr ops t s v listed st → st.n = n → Rel U κ st a w → Rel U κ ⟨n, t ops.size, s ops.size⟩ a w := by
    intro listed st κ a w hu h hn hr
    have hall : ∀ k, k < ops.size → Lst listed k := fun k hk => by
      by_cases hL : Lst listed k
      · exact hL
      · exfalso
        have : k ∈ unl listed ops.size := by
          unfold unl
          simp only [List.mem_filter, List.mem_range]
          refine ⟨hk, ?_⟩
          unfold Lst at hL
          simpa using hL
        have := List.length_pos_of_mem this
        omega
    have hlt : ∀ j (o : Oper), ops[j]? = some o → j < ops.size := fun j o ho => by
      rcases Nat.lt_or_ge j ops.size with q | q
      · exact q
      · simp [Array.getElem?_eq_none q] at ho
    have hg := trace_getG hI hT h0 ops.size (Nat.le_refl _)
    refine hr.congr hn.symm (h.store ops.size (Nat.le_refl _) (fun k o ho _ => ⟨fun _ => hlt k o ho, fun hk => hall k hk⟩)).symm (fun x => ?_)
    simp only
    by_cases hw : ∃ (j : Nat) (oj : Oper), ops[j]? = some oj ∧ oj.dst = some x
    · obtain ⟨j, oj, hj, hd⟩ := hw
      rw [hg.2.1 x j oj (hlt j oj hj) hj hd, h.put x j oj (hall j (hlt j oj hj)) hj hd]
    · rw [hg.2.2 x (fun j o _ h1 h2 => hw ⟨j, o, h1, h2⟩), h.old x (fun j o _ h1 h2 => hw ⟨j, o, h1, h2⟩)]
  have hfinS : ∀ {listed : Array Bool} {st : St}, (unl listed ops.size).length = 0 → InvG P pr ops t s v listed st → st.s = s ops.size := by
    intro listed st hu h
    have hall : ∀ k, k < ops.size → Lst listed k := fun k hk => by
      by_cases hL : Lst listed k
      · exact hL
      · exfalso
        have : k ∈ unl listed ops.size := by
          unfold unl
          simp only [List.mem_filter, List.mem_range]
          refine ⟨hk, ?_⟩
          unfold Lst at hL
          simpa using hL
        have := List.length_pos_of_mem this
        omega
    have hlt : ∀ j (o : Oper), ops[j]? = some o → j < ops.size := fun j o ho => by
      rcases Nat.lt_or_ge j ops.size with q | q
      · exact q
      · simp [Array.getElem?_eq_none q] at ho
    exact h.store ops.size (Nat.le_refl _) (fun k o ho _ => ⟨fun _ => hlt k o ho, fun hk => hall k hk⟩)
  intro fuel
  induction fuel with
  | zero =>
    intro listed st κ a w hu h hn hr hQ
    refine ⟨?_, hQ κ a w (fin hu h hn hr) (.refl _ _ _) (by have := fin hu h hn hr; rw [show st.s = s ops.size from hfinS hu h]; exact .refl _ _)⟩
    have : ∀ i, i ∉ Region.ready .any ops listed := fun i hi => by
      obtain ⟨o, ho, hnl, _⟩ := (ready_iff h.size).1 hi
      have : i ∈ unl listed ops.size := by
        unfold unl
        simp only [List.mem_filter, List.mem_range]
        refine ⟨by rcases Nat.lt_or_ge i ops.size with q | q; exact q; simp [Array.getElem?_eq_none q] at ho, ?_⟩
        unfold Lst at hnl
        simpa using hnl
      have := List.length_pos_of_mem this
      omega
    exact List.eq_nil_iff_forall_not_mem.2 this
  | succ fuel ih =>
    intro listed st κ a w hu h hn hr hQ
    refine ⟨fun hnil => ?_, fun i hi => ?_⟩
    · -- the first that is not listed is ready
      exfalso
      have hex : ∃ k, k ∈ unl listed ops.size := by
        cases hc : unl listed ops.size with
        | nil => rw [hc] at hu; simp at hu
        | cons x xs => exact ⟨x, by simp⟩
      have key : ∀ k, k < ops.size → ¬ Lst listed k → False := by
        intro k
        induction k using Nat.strongRecOn with
        | _ k ihk =>
          intro hk hL
          have ho : ops[k]? = some ops[k] := Array.getElem?_eq_getElem hk
          have : k ∈ Region.ready .any ops listed := (ready_iff h.size).2 ⟨ops[k], ho, hL, fun e he hb => by
            have hlt := hI.back k _ e ho he hb
            by_cases hLe : Lst listed e.on
            · exact hLe
            · exact (ihk e.on hlt (by omega) hLe).elim⟩
          rw [hnil] at this
          simp at this
      obtain ⟨k, hk⟩ := hex
      unfold unl at hk
      simp only [List.mem_filter, List.mem_range] at hk
      exact key k hk.1 (by unfold Lst; simpa using hk.2)
    · obtain ⟨o, s1, st', b1, b2, b3, b4, b5⟩ := inv_stepG hI hT h0 h hn hap hr hi
      obtain ⟨o2, ho2, hnl, _⟩ := (ready_iff h.size).1 hi
      have hilt : i < ops.size := by
        rcases Nat.lt_or_ge i ops.size with q | q
        · exact q
        · simp [Array.getElem?_eq_none q] at ho2
      refine wpOpIn_mono (fun a' w' hK => ?_) (stepG_sound b1 b2 b3 hr)
      obtain ⟨κ', hr', hs', hx'⟩ := hK
      have := unl_set (listed := listed) (n := ops.size) (i := i) (by rw [h.size]; exact hilt) hilt hnl
      exact ih (by omega) b5 b4 hr' (fun κ2 a2 w2 h2 hs2 hx2 => hQ κ2 a2 w2 h2 (hs'.trans hs2) (hx'.trans hx2))


end Go.HM
