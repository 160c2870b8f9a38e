/- HN, part K: the evaluator made ready ahead: what hangs on the code alone is looked at once. It comes to the same. -/
import Derived.Test.YtaghnihkkofmnaaGreatHnG
namespace Go.HM

/-- Pairs that are owed, by the place of a region's first operation. -/
def oweAt : List (String × List (Nat × Nat)) → Array Oper → List (Nat × Nat)
  | [], _ => []
  | (p, l) :: r, ops => match ops[0]? with
    | some o => if decide (p = o.pos) then l else oweAt r ops
    | none => []

/-- A table of what lives where. -/
def globId (id : Nat) : List (Nat × List Nat) → Option (List Nat)
  | [] => none
  | (i, l) :: r => match Nat.beq i id with
    | true => some l
    | false => globId id r

def globOf : List (Nat × List (Nat × List Nat)) → FuncId → Nat → Option (List Nat)
  | [], _, _ => none
  | (g, l) :: r, f, id => match Nat.beq g f with
    | true => globId id l
    | false => globOf r f id

/-- A step, made ready. -/
structure SF where
  f : PFn → GFn → GR → Option GR

structure OF where
  f : List (Nat × V) → Option V

structure CF where
  f : PFn → GFn → Nat → GR → Option (Ex × GR)

/-- A slot's value, as an operand. -/
def slotV (t : List (Nat × V)) (x : Nat) : Option V := match getT t x with
  | some (.wh _ _ _) => none
  | some .bad => none
  | r => r

def opK (P : Program) (ty : TypeId) : Operand → OF
  | .tmp x => ⟨fun t => slotV t x⟩
  | .const v => match constV P ty v with
    | some u => ⟨fun _ => some u⟩
    | none => ⟨fun _ => none⟩
  | .func f => ⟨fun _ => some (.p (.clo f []))⟩
  | .global g => ⟨fun _ => (lookG gtab g).map fun t => .p (.rp t 0)⟩

theorem opK_eq (P : Program) (ty : TypeId) (x : Operand) (t : List (Nat × V)) : (opK P ty x).f t = evalO P t none ty x := by
  cases x with
  | tmp x =>
    simp only [opK, evalO, slotV]
    cases getT t x with
    | none => rfl
    | some v => cases v <;> rfl
  | const v =>
    simp only [opK, evalO]
    split <;> simp_all
  | func f => rfl
  | global g => rfl

/-- What comes of two whole numbers of one kind. -/
def intOp (op : BinOp) (k : IntKind) (a b : Int) : Option V := match op with
  | .add => some (.p (.int k (k.wrap (a + b))))
  | .sub => some (.p (.int k (k.wrap (a - b))))
  | .mul => some (.p (.int k (k.wrap (a * b))))
  | .eql => some (.p (.bool (a == b)))
  | .neq => some (.p (.bool (a != b)))
  | .lss => some (.p (.bool (a < b)))
  | .leq => some (.p (.bool (a ≤ b)))
  | .gtr => some (.p (.bool (a > b)))
  | .geq => some (.p (.bool (a ≥ b)))
  | _ => none

def intOps (op : BinOp) : Bool := match op with
  | .add | .sub | .mul | .eql | .neq | .lss | .leq | .gtr | .geq => true
  | _ => false

def sameKind : IntKind → IntKind → Bool
  | .i64, .i64 => true
  | .u64, .u64 => true
  | .u8, .u8 => true
  | _, _ => false

theorem sameKind_spec {k k' : IntKind} (h : sameKind k k' = true) : k = k' := by
  cases k <;> cases k' <;> first | rfl | cases h

/-- A value is put. -/
def finK (d : Option Nat) (v : V) (r : GR) : Option GR := match isWh v with
  | true => none
  | false => putG r r.st d (resolveG v r.D r.obs)

/-- An operation that is no call of a function, and none that makes what may be written. -/
def plainO (C : GCtx) (o : Oper) : Bool := !isCall o && !(isBS o && C.pr o) && !C.vec o && !C.tw o

theorem step_plain {C : GCtx} {pf : PFn} {gf : GFn} {ops : Array Oper} {o : Oper} {r : GR} {v : V} (hp : plainO C o = true) (hg : guardOf ops r.st.t o = some (.run none))
    (hM : hopM C.P r.st.t r.st.s o r.D r.obs = none) (hh : hop C.P r.st.t r.st.s none o (C.item o) = some ⟨v, r.st.s, []⟩) :
    stepC C pf gf ops o r = finK o.dst v r := by
  unfold plainO at hp
  simp only [Bool.and_eq_true, Bool.not_eq_true'] at hp
  obtain ⟨⟨⟨h1, h2⟩, h3⟩, h4⟩ := hp
  unfold stepC
  simp only [hg, h1, h2, h3, h4, hM, hh, Bool.false_eq_true, if_false]
  unfold finK
  cases isWh v <;> rfl

theorem hop_0 {P : Program} {t : List (Nat × V)} {s : List SObj} {o : Oper} {it : Option Item} {v : V} (ht : touch o.op = 0) (h : hop0 P t [] none o it = some ⟨v, [], []⟩) : hop P t s none o it = some ⟨v, s, []⟩ := by
  unfold hop
  simp only [ht]
  unfold hopA
  simp only [h]

theorem hop_1 {P : Program} {t : List (Nat × V)} {s : List SObj} {o : Oper} {it : Option Item} {v : V} (ht : touch o.op = 1) (h : hop0 P t s none o it = some ⟨v, s, []⟩) : hop P t s none o it = some ⟨v, s, []⟩ := by
  unfold hop
  simp only [ht]
  unfold hopA
  simp only [h]

/-- What a step that goes on comes to, if it is known. -/
def Quick (C : GCtx) (ops : Array Oper) (o : Oper) (q : SF) : Prop := ∀ pf gf r, guardOf ops r.st.t o = some (.run none) → q.f pf gf r = stepC C pf gf ops o r

def slow (C : GCtx) (ops : Array Oper) (o : Oper) : SF := ⟨fun pf gf r => stepC C pf gf ops o r⟩

theorem slow_ok (C : GCtx) (ops : Array Oper) (o : Oper) : Quick C ops o (slow C ops o) := fun _ _ _ _ => rfl

/-- A value, or slowly. -/
def orSlow (C : GCtx) (ops : Array Oper) (o : Oper) (g : GR → Option V) : SF := ⟨fun pf gf r => match g r with
  | some v => finK o.dst v r
  | none => stepC C pf gf ops o r⟩

theorem orSlow_ok {C : GCtx} {ops : Array Oper} {o : Oper} {g : GR → Option V} (hp : plainO C o = true) (hM : ∀ r : GR, hopM C.P r.st.t r.st.s o r.D r.obs = none)
    (hg : ∀ r v, g r = some v → hop C.P r.st.t r.st.s none o (C.item o) = some ⟨v, r.st.s, []⟩) : Quick C ops o (orSlow C ops o g) := by
  intro pf gf r hgd
  show (match g r with | some v => finK o.dst v r | none => stepC C pf gf ops o r) = _
  cases h : g r with
  | none => rfl
  | some v => exact (step_plain hp hgd (hM r) (hg r v h)).symm

/-! The single operations -/

def kMove (C : GCtx) (ops : Array Oper) (o : Oper) (x : Operand) : SF := match opK C.P o.type x with
  | ⟨e⟩ => orSlow C ops o fun r => e r.st.t

theorem kMove_ok {C : GCtx} {ops : Array Oper} {o : Oper} {x : Operand} (hp : plainO C o = true) (ho : o.op = .move x ∨ o.op = .assign x) : Quick C ops o (kMove C ops o x) := by
  have h : ∀ t, (opK C.P o.type x).f t = evalO C.P t none o.type x := opK_eq C.P o.type x
  unfold kMove
  generalize opK C.P o.type x = e at h
  obtain ⟨e⟩ := e
  refine orSlow_ok hp (fun r => by rcases ho with ho | ho <;> unfold hopM <;> simp only [ho]) (fun r v hv => ?_)
  have hv' : evalO C.P r.st.t none o.type x = some v := by rw [← h]; exact hv
  refine hop_0 (by rcases ho with ho | ho <;> simp only [ho, touch]) ?_
  unfold hop0
  rcases ho with ho | ho <;> simp only [ho, hv', Option.map_some]

def kBin (C : GCtx) (ops : Array Oper) (o : Oper) (op : BinOp) (xT : TypeId) (x y : Operand) : SF := match opK C.P xT x, opK C.P xT y with
  | ⟨e⟩, ⟨e'⟩ => orSlow C ops o fun r => match e r.st.t with
    | some (.p (.int k a)) => match e' r.st.t with
      | some (.p (.int k' b)) => match sameKind k k' with
        | true => intOp op k a b
        | false => none
      | _ => none
    | _ => none

theorem scOp_int {P : Program} {ρ : Operand → Option V} {o : Oper} {op : BinOp} {xT yT : TypeId} {x y : Operand} {k : IntKind} {a b : Int} {v : V} (ho : o.op = .binOp op xT x y yT)
    (hx : ρ x = some (.p (.int k a))) (hy : ρ y = some (.p (.int k b))) (hv : intOp op k a b = some v) : scOp P ρ o = some v := by
  cases op <;> simp only [intOp, reduceCtorEq, Option.some.injEq] at hv
  all_goals
    subst hv
    unfold scOp execOp
    simp only [ho, scOf, hx, hy]
    cases k <;> rfl

theorem kBin_ok {C : GCtx} {ops : Array Oper} {o : Oper} {op : BinOp} {xT yT : TypeId} {x y : Operand} (hp : plainO C o = true) (ho : o.op = .binOp op xT x y yT) : Quick C ops o (kBin C ops o op xT x y) := by
  have h : ∀ t, (opK C.P xT x).f t = evalO C.P t none xT x := opK_eq C.P xT x
  have h' : ∀ t, (opK C.P xT y).f t = evalO C.P t none xT y := opK_eq C.P xT y
  unfold kBin
  generalize opK C.P xT x = e at h
  generalize opK C.P xT y = e' at h'
  obtain ⟨e⟩ := e
  obtain ⟨e'⟩ := e'
  refine orSlow_ok hp (fun r => by unfold hopM; simp only [ho]) (fun r v hv => ?_)
  split at hv
  · rename_i k a e1
    split at hv
    · rename_i k' b e2
      split at hv
      · rename_i hk
        have hk' := sameKind_spec hk
        subst hk'
        have e1' : evalO C.P r.st.t none xT x = some (.p (.int k a)) := by rw [← h]; exact e1
        have e2' : evalO C.P r.st.t none xT y = some (.p (.int k b)) := by rw [← h']; exact e2
        refine hop_0 (by simp only [ho, touch]) ?_
        unfold hop0
        simp only [ho, e1', e2', V.toT]
        cases op <;> simp only [V.sc, T.sc, Option.isSome_some, Bool.and_self, if_true, scOp_int ho e1' e2' hv, Option.map_some]
      · cases hv
    · cases hv
  · cases hv

def kLoad (C : GCtx) (ops : Array Oper) (o : Oper) (ty : TypeId) (a : Operand) : SF := match opK C.P 0 a, tySz C.P ty, tyAg C.P ty with
  | ⟨e⟩, some n, some ag => orSlow C ops o fun r => match e r.st.t with
    | some (.ptr id off) => match r.st.s[id]? with
      | some (.box v) => V.at' v off n ag
      | _ => none
    | some (.p (.rp u off)) => match T.at' u off n ag with | some t => some (.p t) | none => none
    | _ => none
  | _, _, _ => slow C ops o

theorem kLoad_ok {C : GCtx} {ops : Array Oper} {o : Oper} {ty : TypeId} {a : Operand} (hp : plainO C o = true) (ho : o.op = .load ty a) : Quick C ops o (kLoad C ops o ty a) := by
  have h : ∀ t, (opK C.P 0 a).f t = evalO C.P t none 0 a := opK_eq C.P 0 a
  unfold kLoad
  generalize opK C.P 0 a = e at h
  split
  · rename_i e n ag hn hag
    refine orSlow_ok hp (fun r => by unfold hopM; simp only [ho]) (fun r v hv => ?_)
    refine hop_1 (by simp only [ho, touch]) ?_
    unfold hop0
    split at hv
    · rename_i id off e1
      have e1' : evalO C.P r.st.t none 0 a = some (.ptr id off) := by rw [← h]; exact e1
      simp only [ho, e1', hn, hag]
      split at hv
      · rename_i u e2
        simp only [e2, hv, Option.map_some]
      · cases hv
    · rename_i u off e1
      have e1' : evalO C.P r.st.t none 0 a = some (.p (.rp u off)) := by rw [← h]; exact e1
      simp only [ho, e1', hn, hag]
      split at hv
      · rename_i t e2
        injection hv with hv; subst hv
        simp only [e2, Option.map_some]
      · cases hv
    · cases hv
  · exact slow_ok C ops o

def kField (C : GCtx) (ops : Array Oper) (o : Oper) (ty : TypeId) (x : Operand) (f : Nat) : SF := match opK C.P 0 x, C.P.underlying ty with
  | ⟨e⟩, some (.struct fs) => match fs[f]? with
    | some fd => match tySz C.P fd.type with
      | some (_ + 1) => orSlow C ops o fun r => match e r.st.t with
        | some (.ptr id off) => some (.ptr id (off + fd.offset))
        | some (.p (.rp u off)) => some (.p (.rp u (off + fd.offset)))
        | _ => none
      | _ => slow C ops o
    | none => slow C ops o
  | _, _ => slow C ops o

theorem kField_ok {C : GCtx} {ops : Array Oper} {o : Oper} {ty : TypeId} {x : Operand} {f : Nat} (hp : plainO C o = true) (ho : o.op = .fieldAddr ty x f) : Quick C ops o (kField C ops o ty x f) := by
  have h : ∀ t, (opK C.P 0 x).f t = evalO C.P t none 0 x := opK_eq C.P 0 x
  unfold kField
  generalize opK C.P 0 x = e at h
  split
  · rename_i e fs hu
    split
    · rename_i fd hfd
      split
      · rename_i n hn
        refine orSlow_ok hp (fun r => by unfold hopM; simp only [ho]) (fun r v hv => ?_)
        refine hop_0 (by simp only [ho, touch]) ?_
        unfold hop0
        split at hv
        · rename_i id off e1
          have e1' : evalO C.P r.st.t none 0 x = some (.ptr id off) := by rw [← h]; exact e1
          injection hv with hv; subst hv
          simp only [ho, e1', hu, hfd, hn]
        · rename_i u off e1
          have e1' : evalO C.P r.st.t none 0 x = some (.p (.rp u off)) := by rw [← h]; exact e1
          injection hv with hv; subst hv
          simp only [ho, e1', hu, hfd, hn]
        · cases hv
      · exact slow_ok C ops o
    · exact slow_ok C ops o
  · exact slow_ok C ops o

def kExtract (C : GCtx) (ops : Array Oper) (o : Oper) (x : Operand) (i : Nat) : SF := match opK C.P 0 x with
  | ⟨e⟩ => orSlow C ops o fun r => match e r.st.t with
    | some (.tup vs) => vs[i]?
    | _ => none

theorem kExtract_ok {C : GCtx} {ops : Array Oper} {o : Oper} {x : Operand} {i : Nat} (hp : plainO C o = true) (ho : o.op = .extract x i) : Quick C ops o (kExtract C ops o x i) := by
  have h : ∀ t, (opK C.P 0 x).f t = evalO C.P t none 0 x := opK_eq C.P 0 x
  unfold kExtract
  generalize opK C.P 0 x = e at h
  obtain ⟨e⟩ := e
  refine orSlow_ok hp (fun r => by unfold hopM; simp only [ho]) (fun r v hv => ?_)
  refine hop_0 (by simp only [ho, touch]) ?_
  unfold hop0
  split at hv
  · rename_i vs e1
    have e1' : evalO C.P r.st.t none 0 x = some (.tup vs) := by rw [← h]; exact e1
    simp only [ho, e1', hv, Option.map_some]
  · cases hv

def kPick (C : GCtx) (ops : Array Oper) (o : Oper) (c a b : Operand) : SF := match tmpOf c, opK C.P o.type c, opK C.P o.type a, opK C.P o.type b with
  | some _, ⟨e⟩, ⟨ea⟩, ⟨eb⟩ => orSlow C ops o fun r => match e r.st.t with
    | some (.rb true) => ea r.st.t
    | some (.rb false) => eb r.st.t
    | _ => none
  | none, _, _, _ => slow C ops o

theorem kPick_ok {C : GCtx} {ops : Array Oper} {o : Oper} {c a b : Operand} (hp : plainO C o = true) (ho : o.op = .pick c a b) : Quick C ops o (kPick C ops o c a b) := by
  have h : ∀ t, (opK C.P o.type c).f t = evalO C.P t none o.type c := opK_eq C.P o.type c
  have ha : ∀ t, (opK C.P o.type a).f t = evalO C.P t none o.type a := opK_eq C.P o.type a
  have hb : ∀ t, (opK C.P o.type b).f t = evalO C.P t none o.type b := opK_eq C.P o.type b
  unfold kPick
  generalize opK C.P o.type c = e at h
  generalize opK C.P o.type a = ea at ha
  generalize opK C.P o.type b = eb at hb
  split
  · rename_i d e ea eb hd
    refine orSlow_ok hp (fun r => by unfold hopM; simp only [ho]) (fun r v hv => ?_)
    refine hop_0 (by simp only [ho, touch]) ?_
    unfold hop0
    split at hv
    · rename_i e1
      have e1' : evalO C.P r.st.t none o.type c = some (.rb true) := by rw [← h]; exact e1
      have e2' : evalO C.P r.st.t none o.type a = some v := by rw [← ha]; exact hv
      simp only [ho, e1', e2', hd, pickV, Option.map_some]
    · rename_i e1
      have e1' : evalO C.P r.st.t none o.type c = some (.rb false) := by rw [← h]; exact e1
      have e2' : evalO C.P r.st.t none o.type b = some v := by rw [← hb]; exact hv
      simp only [ho, e1', e2', hd, pickV, Option.map_some]
    · cases hv
  · exact slow_ok C ops o

def kNil (C : GCtx) (ops : Array Oper) (o : Oper) (x : Operand) : SF := match opK C.P o.type x with
  | ⟨e⟩ => orSlow C ops o fun r => match e r.st.t with
    | some (.ptr id off) => some (.ptr id off)
    | some (.p (.rp u off)) => some (.p (.rp u off))
    | _ => none

theorem kNil_ok {C : GCtx} {ops : Array Oper} {o : Oper} {x : Operand} (hp : plainO C o = true) (ho : o.op = .nilCheck x) : Quick C ops o (kNil C ops o x) := by
  have h : ∀ t, (opK C.P o.type x).f t = evalO C.P t none o.type x := opK_eq C.P o.type x
  unfold kNil
  generalize opK C.P o.type x = e at h
  obtain ⟨e⟩ := e
  refine orSlow_ok hp (fun r => by unfold hopM; simp only [ho]) (fun r v hv => ?_)
  refine hop_0 (by simp only [ho, touch]) ?_
  unfold hop0
  split at hv
  · rename_i id off e1
    have e1' : evalO C.P r.st.t none o.type x = some (.ptr id off) := by rw [← h]; exact e1
    injection hv with hv; subst hv
    simp only [ho, e1']
  · rename_i u off e1
    have e1' : evalO C.P r.st.t none o.type x = some (.p (.rp u off)) := by rw [← h]; exact e1
    injection hv with hv; subst hv
    simp only [ho, e1']
  · cases hv

def itemEl : Option Item → Bool
  | some (.el _) => true
  | _ => false

def kIndex (C : GCtx) (ops : Array Oper) (o : Oper) (ty : TypeId) (x ix : Operand) : SF := match itemEl (C.item o), C.P.underlying ty with
  | false, some (.slice e) => match tySz C.P e, opK C.P ty x, opK C.P 0 ix with
    | some (n + 1), ⟨ex⟩, ⟨ei⟩ => orSlow C ops o fun r => match ex r.st.t with
      | some xv => match ei r.st.t with
        | some (.p (.int _ i)) => match xv.slice?.bind T.elems with
          | some ts => match (intNat i).bind (ts[·]?) with
            | some u => match Nat.beq u.sz (n + 1) with
              | true => some (.p (.rp u 0))
              | false => none
            | none => none
          | none => none
        | _ => none
      | none => none
    | _, _, _ => slow C ops o
  | _, _ => slow C ops o

theorem kIndex_ok {C : GCtx} {ops : Array Oper} {o : Oper} {ty : TypeId} {x ix : Operand} (hp : plainO C o = true) (ho : o.op = .indexAddr ty x ix) : Quick C ops o (kIndex C ops o ty x ix) := by
  have h : ∀ t, (opK C.P ty x).f t = evalO C.P t none ty x := opK_eq C.P ty x
  have h' : ∀ t, (opK C.P 0 ix).f t = evalO C.P t none 0 ix := opK_eq C.P 0 ix
  unfold kIndex
  generalize opK C.P ty x = ex at h
  generalize opK C.P 0 ix = ei at h'
  split
  · rename_i e hit hu
    split
    · rename_i n ex ei hn
      refine orSlow_ok hp (fun r => by unfold hopM; simp only [ho]) (fun r v hv => ?_)
      refine hop_0 (by simp only [ho, touch]) ?_
      unfold hop0
      split at hv
      · rename_i xv e1
        split at hv
        · rename_i k i e2
          split at hv
          · rename_i ts e3
            split at hv
            · rename_i u e4
              split at hv
              · rename_i e5
                injection hv with hv; subst hv
                have e1' : evalO C.P r.st.t none ty x = some xv := by rw [← h]; exact e1
                have e2' : evalO C.P r.st.t none 0 ix = some (.p (.int k i)) := by rw [← h']; exact e2
                have e5' : (u.sz == n + 1) = true := by simpa using e5
                simp only [ho, hu, e1', e2', e3, hn]
                split
                · rename_i q; rw [q] at hit; cases hit
                · simp only [e4, e5', if_true]
              · cases hv
            · cases hv
          · cases hv
        · cases hv
      · cases hv
    · exact slow_ok C ops o
  · exact slow_ok C ops o

def kLen (C : GCtx) (ops : Array Oper) (o : Oper) (c : Call) : SF := match c.args.toList, c.argTypes.toList with
  | [x], [ty] => match C.P.underlying ty, opK C.P ty x with
    | some (.slice _), ⟨e⟩ => orSlow C ops o fun r => match e r.st.t with
      | some xv => match xv.slice?.bind T.len with
        | some n => some (.p (.int .i64 n))
        | none => none
      | none => none
    | _, _ => slow C ops o
  | _, _ => slow C ops o

theorem kLen_ok {C : GCtx} {ops : Array Oper} {o : Oper} {c : Call} (hp : plainO C o = true) (ho : o.op = .call c) (hc : c.callee = .builtin .len) : Quick C ops o (kLen C ops o c) := by
  unfold kLen
  split
  · rename_i x ty ha ht
    have h : ∀ t, (opK C.P ty x).f t = evalO C.P t none ty x := opK_eq C.P ty x
    generalize opK C.P ty x = e at h
    split
    · rename_i el e hu
      refine orSlow_ok hp (fun r => by unfold hopM; simp only [ho]) (fun r v hv => ?_)
      refine hop_0 (by simp only [ho, touch, hc]) ?_
      unfold hop0
      split at hv
      · rename_i xv e1
        have e1' : evalO C.P r.st.t none ty x = some xv := by rw [← h]; exact e1
        split at hv
        · rename_i n e2
          injection hv with hv; subst hv
          simp only [ho, hc, ha, ht, hu, e1', e2]
        · cases hv
      · cases hv
    · exact slow_ok C ops o
  · exact slow_ok C ops o

/-- A step behind its guard. -/
def innerK (C : GCtx) (ops : Array Oper) (o : Oper) : SF := match plainO C o with
  | true => match o.op with
    | .move x => kMove C ops o x
    | .assign x => kMove C ops o x
    | .binOp op xT x y _ => kBin C ops o op xT x y
    | .load ty a => kLoad C ops o ty a
    | .fieldAddr ty x f => kField C ops o ty x f
    | .extract x i => kExtract C ops o x i
    | .pick c a b => kPick C ops o c a b
    | .nilCheck x => kNil C ops o x
    | .indexAddr ty x ix => kIndex C ops o ty x ix
    | .call c => match c.callee with
      | .builtin .len => kLen C ops o c
      | _ => slow C ops o
    | _ => slow C ops o
  | false => slow C ops o

theorem innerK_ok (C : GCtx) (ops : Array Oper) (o : Oper) : Quick C ops o (innerK C ops o) := by
  unfold innerK
  split
  · rename_i hp
    split
    · rename_i ho; exact kMove_ok hp (.inl ho)
    · rename_i ho; exact kMove_ok hp (.inr ho)
    · rename_i ho; exact kBin_ok hp ho
    · rename_i ho; exact kLoad_ok hp ho
    · rename_i ho; exact kField_ok hp ho
    · rename_i ho; exact kExtract_ok hp ho
    · rename_i ho; exact kPick_ok hp ho
    · rename_i ho; exact kNil_ok hp ho
    · rename_i ho; exact kIndex_ok hp ho
    · rename_i c ho
      split
      · rename_i hc; exact kLen_ok hp ho hc
      · exact slow_ok C ops o
    · exact slow_ok C ops o
  · exact slow_ok C ops o

/-- A step. -/
def stepK (C : GCtx) (ops : Array Oper) (o : Oper) : SF := match o.guard with
  | none => innerK C ops o
  | some (j, want) => match (ops[j]?).bind (·.dst), innerK C ops o with
    | some d, ⟨q⟩ => ⟨fun pf gf r => match getT r.st.t d with
      | some (.rb b) => match b, want with
        | true, true => q pf gf r
        | false, false => q pf gf r
        | _, _ => putG r r.st o.dst (.tup [], r.D, r.obs)
      | _ => stepC C pf gf ops o r⟩
    | none, _ => slow C ops o

theorem stepK_eq (C : GCtx) (ops : Array Oper) (o : Oper) (pf : PFn) (gf : GFn) (r : GR) : (stepK C ops o).f pf gf r = stepC C pf gf ops o r := by
  have hq := innerK_ok C ops o pf gf r
  unfold stepK
  split
  · rename_i hg
    exact hq (by unfold guardOf; simp only [hg])
  · rename_i j want hg
    generalize innerK C ops o = q at hq
    split
    · rename_i d q hd
      have hgd : ∀ b, getT r.st.t d = some (.rb b) → guardOf ops r.st.t o = if b == want then some (.run none) else some .skip := by
        intro b hb
        unfold guardOf
        simp only [hg, hd, hb]
      show (match getT r.st.t d with
        | some (.rb b) => match b, want with
          | true, true => q pf gf r
          | false, false => q pf gf r
          | _, _ => putG r r.st o.dst (.tup [], r.D, r.obs)
        | _ => stepC C pf gf ops o r) = _
      split
      · rename_i b hb
        replace hgd := hgd b hb
        have sk : guardOf ops r.st.t o = some .skip → putG r r.st o.dst (.tup [], r.D, r.obs) = stepC C pf gf ops o r := by
          intro h
          unfold stepC
          simp only [h]
        cases b <;> cases want
        · exact hq hgd
        · exact sk hgd
        · exact sk hgd
        · exact hq hgd
      · rfl
    · rfl

/-! Regions, code -/

def runSF (pf : PFn) (gf : GFn) : List SF → GR → Option GR
  | [], r => some r
  | q :: l, r => match q.f pf gf r with
    | some r' => runSF pf gf l r'
    | none => none

theorem runSF_eq (C : GCtx) (ops : Array Oper) (pf : PFn) (gf : GFn) : ∀ (os : List Oper) (r : GR), runSF pf gf (os.map (stepK C ops)) r = (opsC C pf gf ops os r).map (·.1)
  | [], r => rfl
  | o :: os, r => by
    simp only [List.map_cons, runSF, opsC, stepK_eq]
    cases stepC C pf gf ops o r with
    | none => rfl
    | some r' =>
      simp only [runSF_eq C ops pf gf os r']
      cases opsC C pf gf ops os r' with
      | none => rfl
      | some x => rfl

def regOk (C : GCtx) (ops : Array Oper) (draw : Bool) : Bool := !draw || (indepG (apS ops) (tch C.pr) ops && C.P.follows .mixedOrders)

def noOwe : List (Nat × Nat) → Bool
  | [] => true
  | _ => false

def regK0 (C : GCtx) (ops : Array Oper) (draw : Bool) : SF := match regOk C ops draw && noOwe (C.owe ops) with
  | true => match ops.toList.map (stepK C ops) with
    | l => ⟨fun pf gf r => runSF pf gf l r⟩
  | false => ⟨fun pf gf r => regC0 C pf gf ops draw r⟩

theorem regK0_eq (C : GCtx) (ops : Array Oper) (draw : Bool) (pf : PFn) (gf : GFn) (r : GR) : (regK0 C ops draw).f pf gf r = regC0 C pf gf ops draw r := by
  unfold regK0
  split
  · rename_i hok
    rw [Bool.and_eq_true] at hok
    obtain ⟨hok, hno⟩ := hok
    have hno' : C.owe ops = [] := by cases h : C.owe ops with
      | nil => rfl
      | cons a l => rw [h] at hno; cases hno
    show runSF pf gf (ops.toList.map (stepK C ops)) r = _
    rw [runSF_eq]
    unfold regC0
    cases opsC C pf gf ops ops.toList r with
    | none => rfl
    | some x =>
      obtain ⟨r', fs⟩ := x
      unfold regOk at hok
      simp only [hno', owedP, List.nil_append]
      cases draw with
      | false => rfl
      | true =>
        simp only [Bool.not_true, Bool.false_or, Bool.and_eq_true] at hok
        simp only [Bool.not_true, Bool.false_or, hok.1, hok.2, Bool.true_or, Bool.true_and, if_true]
        rfl
  · rfl

def regK (C : GCtx) (ops : Array Oper) (draw : Bool) : SF := match draw && C.al ops with
  | true => match ordO true true ops with
    | ops' => match frPairs C.pr ops' with
      | fr => ⟨fun pf gf r => regA C pf gf ops' fr r⟩
  | false => regK0 C ops draw

theorem regK_eq (C : GCtx) (ops : Array Oper) (draw : Bool) (pf : PFn) (gf : GFn) (r : GR) : (regK C ops draw).f pf gf r = regC C pf gf ops draw r := by
  unfold regK regC
  cases draw && C.al ops with
  | true => rfl
  | false => exact regK0_eq C ops draw pf gf r

def frzList (C : GCtx) (f : FuncId) (id : Nat) (ops : Array Oper) : List Nat := if C.keep f id then C.frz f id else C.frz f id ++ sliced C.P C.pr ops.toList ops.toList

theorem frzSlots_append (n : Nat) : ∀ (l m : List Nat) (st : St), frzSlots n (l ++ m) st = frzSlots n m (frzSlots n l st)
  | [], m, st => rfl
  | x :: l, m, st => by
    simp only [List.cons_append, frzSlots]
    repeat' split
    all_goals exact frzSlots_append n l m _

theorem frzC_eq (C : GCtx) (f : FuncId) (n id : Nat) (ops : Array Oper) (r : GR) : frzC C f n id ops r = { r with st := frzSlots n (frzList C f id ops) r.st } := by
  unfold frzC frzList
  split
  · rfl
  · rw [frzSlots_append]

def frzK (C : GCtx) (f : FuncId) (id : Nat) (ops : Array Oper) : Nat → GR → GR := match frzList C f id ops with
  | [] => fun _ r => r
  | x :: l => fun n r => { r with st := frzSlots n (x :: l) r.st }

theorem frzK_eq (C : GCtx) (f : FuncId) (n id : Nat) (ops : Array Oper) (r : GR) : frzK C f id ops n r = frzC C f n id ops r := by
  rw [frzC_eq]
  unfold frzK
  generalize frzList C f id ops = l
  cases l <;> rfl

def evK (C : GCtx) (f : FuncId) : Code → CF
  | .skip => ⟨fun _ _ _ r => some (.normal, r)⟩
  | .label _ => ⟨fun _ _ _ r => some (.normal, r)⟩
  | .region id ops draw => match regK C ops draw, C.glob f id, frzList C f id ops with
    | ⟨q⟩, none, [] => ⟨fun pf gf _ r => match q pf gf r with
      | some r' => some (.normal, r')
      | none => none⟩
    | ⟨q⟩, some l, [] => ⟨fun pf gf _ r => match q pf gf { r with st := { r.st with t := selT l r.st.t } } with
      | some r' => some (.normal, r')
      | none => none⟩
    | ⟨q⟩, _, _ => ⟨fun pf gf n r => match q pf gf (frzC C f n id ops (cutR C f id r)) with
      | some r' => some (.normal, r')
      | none => none⟩
  | .seq a b => ⟨fun pf gf n r => match (evK C f a).f pf gf n r with
    | some (.normal, r') => (evK C f b).f pf gf n r'
    | x => x⟩
  | .cond c x y => match opK C.P 0 c with
    | ⟨e⟩ => ⟨fun pf gf n r => match e r.st.t with
      | some (.rb true) => (evK C f x).f pf gf n r
      | some (.rb false) => (evK C f y).f pf gf n r
      | some (.p (.bool b)) => match tellB b r.D r.obs with
        | (true, D, ob) => (evK C f x).f pf gf n { r with D, obs := ob }
        | (false, D, ob) => (evK C f y).f pf gf n { r with D, obs := ob }
      | _ => none⟩
  | .block id c => ⟨fun pf gf n r => match (evK C f c).f pf gf n r with
    | some (.exit j, r') => match Nat.beq j id with
      | true => some (.normal, r')
      | false => some (.exit j, r')
    | x => x⟩
  | .loop c => ⟨fun pf gf n r => match r.L with
    | some (k, e, st') :: ls => if e.out && noWhB st'.t then some (e, { st := st', D := r.D, L := ls, Q := r.Q, QP := r.QP, W := r.W, obs := LoopG C.P n c { r.st with t := cutT' k r.st.t } e st' :: r.obs }) else none
    | none :: ls => iterC ((evK C f c).f pf gf n) C.fuel { r with L := ls }
    | [] => iterC ((evK C f c).f pf gf n) C.fuel r⟩
  | .scope c => evK C f c
  | .exit id => ⟨fun _ _ _ r => some (.exit id, r)⟩
  | .ret => ⟨fun _ _ _ r => some (.ret, r)⟩
  | .rangeFunc g ps as bd => ⟨fun pf gf n r => evC C pf gf f n (.rangeFunc g ps as bd) r⟩
  | _ => ⟨fun _ _ _ _ => none⟩

theorem evK_eq (C : GCtx) (f : FuncId) (pf : PFn) (gf : GFn) (n : Nat) : ∀ (c : Code) (r : GR), (evK C f c).f pf gf n r = evC C pf gf f n c r
  | .skip, r => rfl
  | .label _, r => rfl
  | .region id ops draw, r => by
    have hq := regK_eq C ops draw pf gf
    simp only [evK, evC]
    generalize regK C ops draw = q at hq
    obtain ⟨q⟩ := q
    simp only at hq
    cases hg : C.glob f id with
    | none =>
      have hcut : cutR C f id r = r := by unfold cutR cutG; rw [hg]
      cases hl : frzList C f id ops with
      | nil =>
        simp only
        rw [hcut, show frzC C f n id ops r = r by rw [frzC_eq, hl]; rfl, ← hq]
        rfl
      | cons x l =>
        simp only
        rw [← hq]
        rfl
    | some gl =>
      have hcut : cutR C f id r = { r with st := { r.st with t := selT gl r.st.t } } := by unfold cutR cutG; rw [hg]
      cases hl : frzList C f id ops with
      | nil =>
        simp only
        rw [show frzC C f n id ops (cutR C f id r) = cutR C f id r by rw [frzC_eq, hl]; rfl, hcut, ← hq]
        rfl
      | cons x l =>
        simp only
        rw [← hq]
        rfl
  | .seq a b, r => by
    simp only [evK, evC, evK_eq C f pf gf n a, evK_eq C f pf gf n b]
    repeat' split
    all_goals simp_all
  | .cond c x y, r => by
    have he := opK_eq C.P 0 c r.st.t
    simp only [evK, evC]
    generalize opK C.P 0 c = e at he
    obtain ⟨e⟩ := e
    simp only at he
    simp only [he, evK_eq C f pf gf n x, evK_eq C f pf gf n y]
    repeat' split
    all_goals simp_all
  | .block id c, r => by
    simp only [evK, evC, evK_eq C f pf gf n c]
    cases evC C pf gf f n c r with
    | none => rfl
    | some x =>
      obtain ⟨e, r'⟩ := x
      cases e with
      | exit j =>
        have hb : (j == id) = Nat.beq j id := by rw [Bool.eq_iff_iff]; simp
        simp only [hb]
        cases Nat.beq j id <;> rfl
      | _ => rfl
  | .loop c, r => by
    have hf : (evK C f c).f pf gf n = evC C pf gf f n c := funext (evK_eq C f pf gf n c)
    simp only [evK, evC, hf]
    repeat' split
    all_goals simp_all
  | .scope c, r => by
    simp only [evK, evC]
    exact evK_eq C f pf gf n c r
  | .exit id, r => rfl
  | .ret, r => rfl
  | .rangeFunc .., r => by simp only [evK]
  | .goto _, r => rfl
  | .refuse _, r => rfl

def funK (C : GCtx) (pf : PFn) (gf : GFn) (f : FuncId) (s : List SObj) (vs : List V) (D : List (Nat × Bool)) (L : List (Option (List Nat × Ex × St))) (ob : List Prop) (Q : List (List V × List SObj) := []) (QP : List (List T) := []) (W : List Told := []) : Option (List V × List SObj × List (Nat × Bool) × List Prop) :=
  match C.P.funcs[f]? with
  | some fn => match fn.body with
    | some c => if (vs.length == fn.params.size + fn.nfree) && Nat.ble vs.length fn.ntmps && okParts vs then
        match evK C f c with
        | ⟨q⟩ => match (forceN s.length fun n => forceN fn.ntmps fun k => q pf gf n { st := { n := k, t := argsV 0 vs, s }, D, obs := ob, L, Q, QP, W }) with
          | some (.normal, r) => finC C fn s.length r
          | some (.ret, r) => finC C fn s.length r
          | _ => none
      else none
    | none => none
  | none => none

theorem funK_eq (C : GCtx) (pf : PFn) (gf : GFn) (f : FuncId) (s : List SObj) (vs : List V) (D : List (Nat × Bool)) (L : List (Option (List Nat × Ex × St))) (ob : List Prop) (Q : List (List V × List SObj)) (QP : List (List T)) (W : List Told) :
    funK C pf gf f s vs D L ob Q QP W = funC C pf gf f s vs D L ob Q QP W := by
  unfold funK funC
  simp only [forceN_eq]
  cases C.P.funcs[f]? with
  | none => rfl
  | some fn =>
    cases hb : fn.body with
    | none => simp only [hb]
    | some c =>
      simp only [hb]
      have he := evK_eq C f pf gf s.length c
      generalize evK C f c = q at he
      obtain ⟨q⟩ := q
      simp only at he
      simp only [he]
      rfl

/-- As 'roundC'. -/
def roundK (C : GCtx) (pf : PFn) (gf : GFn) (id : Nat) (s : List SObj) (vs : List V) (D : List (Nat × Bool)) (ob : List Prop) : Option (List V × List SObj × List (Nat × Bool) × List Prop) :=
  match s[id]? with
  | some (.lp _ _ _ f m t ps as bd) => if Nat.beq vs.length ps.size && okParts vs && noRF as && noRF bd && noWhB t && allLt m ps.toList then
      match evK C f as, evK C f bd, s.length with
      | ⟨qa⟩, ⟨qb⟩, n => match qa pf gf n { st := { n := m, t := lpArgs ps.toList vs t, s }, D, obs := ob } with
        | some (.normal, r1) => match r1.st.s[id]? with
          | some (.lp .ready pd1 d1 f1 m1 t1 ps1 as1 bd1) =>
            match qb pf gf n { r1 with st := { r1.st with s := r1.st.s.set id (.lp .busy pd1 d1 f1 m1 t1 ps1 as1 bd1) } } with
            | some (.normal, r2) => roundEnd id n .ready none true r2
            | some (.exit j, r2) => roundEnd id n .done (some (.exit j)) false r2
            | some (.ret, r2) => roundEnd id n .done (some .ret) false r2
            | none => none
          | _ => none
        | _ => none
    else none
  | _ => none

theorem roundK_eq (C : GCtx) (pf : PFn) (gf : GFn) (id : Nat) (s : List SObj) (vs : List V) (D : List (Nat × Bool)) (ob : List Prop) : roundK C pf gf id s vs D ob = roundC C pf gf id s vs D ob := by
  unfold roundK roundC
  cases s[id]? with
  | none => rfl
  | some o =>
    cases o with
    | lp ls pend d f m t ps as bd =>
      have h1 := evK_eq C f pf gf s.length as
      have h2 := evK_eq C f pf gf s.length bd
      simp only
      generalize evK C f as = qa at h1
      generalize evK C f bd = qb at h2
      obtain ⟨qa⟩ := qa
      obtain ⟨qb⟩ := qb
      simp only at h1 h2
      simp only [h1, h2]
      rfl
    | _ => rfl

def callK (C : GCtx) : Nat → GFn
  | 0, _, _, _, _, _ => none
  | d + 1, f, s, vs, D, ob => match Nat.ble yB f with
    | true => roundK C (pureC C (callK C d)) (callK C d) (f - yB) s vs D ob
    | false => match C.KG f s vs with
      | some (rs, s') => some (rs, s', D, ob)
      | none => match (allP vs).bind (C.K f) with
        | some rs => some (rs.map .p, s, D, ob)
        | none => funK C (pureC C (callK C d)) (callK C d) f s vs D [] ob

theorem callK_eq (C : GCtx) : ∀ d, callK C d = callC C d
  | 0 => rfl
  | d + 1 => by
    funext f s vs D ob
    simp only [callK, callC, callK_eq C d, funK_eq, roundK_eq]
    rfl

/-- As 'topC'. -/
def topK (C : GCtx) (d : Nat) (f : FuncId) (s : List SObj) (vs : List V) (D : List (Nat × Bool)) (L : List (Option (List Nat × Ex × St))) (Q : List (List V × List SObj) := []) (QP : List (List T) := []) (W : List Told := []) : Option (List V × List SObj × List Prop) :=
  match funK C (pureC C (callK C d)) (callK C d) f s vs D L [] Q QP W with
  | some (rs, s', [], ob) => some (rs, s', ob)
  | _ => none

theorem topK_eq (C : GCtx) (d : Nat) (f : FuncId) (s : List SObj) (vs : List V) (D : List (Nat × Bool)) (L : List (Option (List Nat × Ex × St))) (Q : List (List V × List SObj)) (QP : List (List T)) (W : List Told) : topK C d f s vs D L Q QP W = topC C d f s vs D L Q QP W := by
  unfold topK topC
  rw [callK_eq, funK_eq]
  rfl

/-- As 'bodyC'. -/
def bodyK (C : GCtx) (d : Nat) (f : FuncId) (n : Nat) (c : Code) (st : St) (D : List (Nat × Bool)) (L : List (Option (List Nat × Ex × St))) (k : List Nat) (Q : List (List V × List SObj) := []) (QP : List (List T) := []) (W : List Told := []) : Option (Ex × St × List Prop) :=
  match (evK C f c).f (pureC C (callK C d)) (callK C d) n { st, D, obs := [], L, Q, QP, W } with
  | some (e, r) => match r.D, r.L with
    | [], [] => if noWhB st.t then some (e, { r.st with t := cutT' k r.st.t }, r.obs) else none
    | _, _ => none
  | none => none

theorem bodyK_eq (C : GCtx) (d : Nat) (f : FuncId) (n : Nat) (c : Code) (st : St) (D : List (Nat × Bool)) (L : List (Option (List Nat × Ex × St))) (k : List Nat) (Q : List (List V × List SObj)) (QP : List (List T)) (W : List Told) : bodyK C d f n c st D L k Q QP W = bodyC C d f n c st D L k Q QP W := by
  unfold bodyK bodyC
  rw [callK_eq, evK_eq]
  rfl

/-- As 'runC'. -/
def runK (C : GCtx) (d : Nat) (f : FuncId) (ts : List T) (D : List (Nat × Bool)) : Option (List T × List Prop) :=
  match callK C d f [] (ts.map .p) D [] with
  | some (rs, s', [], ob) => match (match Nat.ble yB f with | true => none | false => unplace 64 s' rs) with
    | some ts' => some (ts', ob)
    | none => none
  | _ => none

theorem runK_eq (C : GCtx) (d : Nat) (f : FuncId) (ts : List T) (D : List (Nat × Bool)) : runK C d f ts D = runC C d f ts D := by
  unfold runK runC
  rw [callK_eq]
  rfl

theorem runK_sound {C : GCtx} (hC : KOk C) {d : Nat} {f : FuncId} {ts rs : List T} {D : List (Nat × Bool)} {ob : List Prop} (h : runK C d f ts D = some (rs, ob)) (ho : allOf ob) : PCall C.P f ts rs :=
  runC_sound hC (by rw [← runK_eq]; exact h) ho

theorem topK_sound {C : GCtx} (hC : KOk C) {d : Nat} {f : FuncId} {s s' : List SObj} {vs rs : List V} {D : List (Nat × Bool)} {L : List (Option (List Nat × Ex × St))} {Q : List (List V × List SObj)} {QP : List (List T)} {W : List Told} {ob : List Prop} (h : topK C d f s vs D L Q QP W = some (rs, s', ob)) (ho : allOf ob) : GCall C.P f s vs s' rs :=
  topC_sound hC (by rw [← topK_eq]; exact h) ho

theorem bodyK_sound {C : GCtx} (hC : KOk C) {d : Nat} {f : FuncId} {n : Nat} {c : Code} {st st' : St} {D : List (Nat × Bool)} {L : List (Option (List Nat × Ex × St))} {k : List Nat} {Q : List (List V × List SObj)} {QP : List (List T)} {W : List Told} {e : Ex} {ob : List Prop} (h : bodyK C d f n c st D L k Q QP W = some (e, st', ob)) (ho : allOf ob) : CodeG C.P n c st e st' :=
  bodyC_sound hC (by rw [← bodyK_eq]; exact h) ho

/-- A closed run of a function, its told calls on trees in a list. -/
def runQ (C : GCtx) (d : Nat) (f : FuncId) (ts : List T) (D : List (Nat × Bool)) (QP : List (List T)) : Option (List T × List Prop) :=
  match topK C d f [] (ts.map .p) D [] [] QP with
  | some (rs, s', ob) => match unplace 64 s' rs with
    | some ts' => some (ts', ob)
    | none => none
  | none => none

theorem runQ_sound {C : GCtx} (hC : KOk C) {d : Nat} {f : FuncId} {ts rs : List T} {D : List (Nat × Bool)} {QP : List (List T)} {ob : List Prop} (h : runQ C d f ts D QP = some (rs, ob)) (ho : allOf ob) : PCall C.P f ts rs := by
  unfold runQ at h
  split at h
  · rename_i rs' s' ob' e
    split at h
    · rename_i ts' hu
      injection h with h; simp only [Prod.mk.injEq] at h; obtain ⟨rfl, rfl⟩ := h
      exact (topK_sound hC e ho).pure hu
    · cases h
  · cases h

theorem w64 {n : Int} (h1 : -9223372036854775808 ≤ n) (h2 : n ≤ 9223372036854775807) : IntKind.i64.wrap n = n := by
  unfold IntKind.wrap
  simp [IntKind.signed, IntKind.bits, BitVec.toInt_ofInt]
  omega

theorem lit64 {n : Int} (h : (Lit.int .i64 n).wf = true) : -9223372036854775808 ≤ n ∧ n ≤ 9223372036854775807 := by
  simpa [Lit.wf, IntKind.min, IntKind.max, IntKind.signed, IntKind.bits] using h

end Go.HM
