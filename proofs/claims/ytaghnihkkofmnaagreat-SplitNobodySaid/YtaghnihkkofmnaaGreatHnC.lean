/- HN, part C: the evaluator that runs calls too. -/
import Derived.Test.YtaghnihkkofmnaaGreatHnRf
namespace Go.HM

/-- How a run is done: which calls are made on trees; what is known of calls; in which regions nothing is let go ahead; how many rounds at most. -/
structure GCtx where
  P : Program
  pr : Oper → Bool
  K : FuncId → List T → Option (List T)
  keep : FuncId → Nat → Bool
  frz : FuncId → Nat → List Nat
  item : Oper → Option Item
  glob : FuncId → Nat → Option (List Nat)
  KG : FuncId → List SObj → List V → Option (List V × List SObj)
  told : FuncId → Bool := fun _ => false
  vec : Oper → Bool := fun _ => false
  fuel : Nat
  owe : Array Oper → List (Nat × Nat) := fun _ => []
  tw : Oper → Bool := fun _ => false
  al : Array Oper → Bool := fun _ => false

/-- What is told of an operation on things of which not all is known: a slice's bounds; a look into a map that finds, or does not. -/
inductive Told where
  | cut (l h : Nat)
  | hit (i : Nat) (v : T)
  | miss

def bndP (ev : Operand → Option V) (d k : Nat) : Option Operand → Option Prop
  | none => some (d = k)
  | some x => match ev x with
    | some (.p (.int _ a)) => some (a = (k : Int))
    | _ => none

/-- An operation as told, and what is owed for it. -/
def hopT (P : Program) (t : List (Nat × V)) (s : List SObj) (o : Oper) (w : Told) : Option (OpR × List Prop) := match o.op with
  | .slice ty x lo hi none => match w with
    | .cut l h => match P.underlying ty, evalO P t none ty x with
      | some (.slice e), some xv => match xv.slice? with
        | some u => match u.len, tySz P e with
          | some n, some sz => match kindB sz u, bndP (evalO P t none 0) 0 l lo, bndP (evalO P t none 0) n h hi, cutT u (l, h, none) with
            | true, some p, some q, some u' => some (⟨.p u', s, []⟩, [p, q, l ≤ h, h ≤ n])
            | _, _, _, _ => none
          | _, _ => none
        | none => none
      | _, _ => none
    | _ => none
  | .lookup ty x k ok => match P.underlying ty, evalO P t none ty x with
    | some (.map kt vt), some (.map id) => match (evalO P t none kt k).bind V.toT, s[id]?, zeroOf P vt with
      | some kk, some (.map es), some z => match w with
        | .hit i v => some (⟨if ok then .tup [.p v, .rb true] else .p v, s, []⟩, [(fits P 10 kt kk && keysOk P kt es) = true, findT kk es 0 = some (i, v)])
        | .miss => some (⟨if ok then .tup [.p z, .rb false] else .p z, s, []⟩, [(fits P 10 kt kk && keysOk P kt es) = true, findT kk es 0 = none])
        | _ => none
      | _, _, _ => none
    | _, _ => none
  | .mapUpdate ty x k v | .insert ty x k v => match P.underlying ty, evalO P t none ty x with
    | some (.map kt vt), some (.map id) => match (evalO P t none kt k).bind V.toT, (evalO P t none vt v).bind V.toT, s[id]? with
      | some kk, some vv, some (.map es) => match w with
        | .hit i u => some (⟨.bad, s.set id (.map (setEnt es i kk vv)), []⟩, [(fits P 10 kt kk && keysOk P kt es) = true, findT kk es 0 = some (i, u)])
        | .miss => some (⟨.bad, s.set id (.map (es ++ [(kk, vv)])), []⟩, [(fits P 10 kt kk && keysOk P kt es) = true, findT kk es 0 = none])
        | _ => none
      | _, _, _ => none
    | _, _ => none
  | .call c => match c.callee with
    | .builtin .delete => match c.args.toList, c.argTypes.toList with
      | [x, k], [tx, _] => match P.underlying tx, evalO P t none tx x with
        | some (.map kt _), some (.map id) => match (evalO P t none kt k).bind V.toT, s[id]? with
          | some kk, some (.map es) => match w with
            | .hit i u => some (⟨.tup [], s.set id (.map (es.eraseIdx i)), []⟩, [(fits P 10 kt kk && keysOk P kt es) = true, findT kk es 0 = some (i, u)])
            | .miss => some (⟨.tup [], s.set id (.map es), []⟩, [(fits P 10 kt kk && keysOk P kt es) = true, findT kk es 0 = none])
            | _ => none
          | _, _ => none
        | _, _ => none
      | _, _ => none
    | _ => none
  | _ => none

structure GR where
  st : St
  D : List (Nat × Bool)
  obs : List Prop
  L : List (Option (List Nat × Ex × St)) := []
  Q : List (List V × List SObj) := []
  QP : List (List T) := []
  W : List Told := []

/-- A bool is decided: as it is, or as it is told. -/
def tellB (b : Bool) : List (Nat × Bool) → List Prop → Bool × List (Nat × Bool) × List Prop
  | [], ob => (b, [], ob)
  | (0, d) :: r, ob => (d, r, (b = d) :: ob)
  | (k + 1, d) :: r, ob => (b, (k, d) :: r, ob)

def resolveG (v : V) (D : List (Nat × Bool)) (ob : List Prop) : V × List (Nat × Bool) × List Prop := match v with
  | .p (.bool b) => match tellB b D ob with | (b', D', ob') => (.rb b', D', ob')
  | v => (v, D, ob)

abbrev PFn := FuncId → List T → List (Nat × Bool) → List Prop → Option (List T × List (Nat × Bool) × List Prop)
abbrev GFn := FuncId → List SObj → List V → List (Nat × Bool) → List Prop → Option (List V × List SObj × List (Nat × Bool) × List Prop)

/-- A number, looked at first: the kernel then keeps no way to it. -/
def forceN {α : Type} (n : Nat) (k : Nat → α) : α := match n with
  | 0 => k 0
  | m + 1 => k (m + 1)

def forceL {α β : Type} (l : List β) (k : List β → α) : α := match l with
  | [] => k []
  | x :: r => k (x :: r)

theorem forceN_eq {α : Type} (n : Nat) (k : Nat → α) : forceN n k = k n := by cases n <;> rfl
theorem forceL_eq {α β : Type} (l : List β) (k : List β → α) : forceL l k = k l := by cases l <;> rfl

/-- A slot is written: the newest stands ahead. -/
def putL (st : St) (d : Option Nat) (v : V) : Option St := match d with
  | none => some st
  | some d => if Nat.blt d st.n then forceN st.n fun n => forceL st.s fun s => some { n, t := (d, v) :: st.t, s } else none

theorem putL_eq (st : St) (d : Option Nat) (v : V) : putL st d v = match d with
    | none => some st
    | some d => if Nat.blt d st.n then some { st with t := (d, v) :: st.t } else none := by
  unfold putL
  split
  · rfl
  · rw [forceN_eq, forceL_eq]

def putG (r : GR) (st : St) (d : Option Nat) (x : V × List (Nat × Bool) × List Prop) : Option GR := match x with
  | (v, D, ob) => match putL st d v with | some st' => some ⟨st', D, ob, r.L, r.Q, r.QP, r.W⟩ | none => none

/-- A key is looked for; each look is told. -/
def findD (k : T) : List (T × T) → Nat → List (Nat × Bool) → List Prop → Option (Nat × T) × List (Nat × Bool) × List Prop
  | [], _, D, ob => (none, D, ob)
  | (a, v) :: r, i, D, ob => match tellB (T.eqB k a) D ob with
    | (true, D', ob') => (some (i, v), D', ob')
    | (false, D', ob') => findD k r (i + 1) D' ob'

def lookD (P : Program) (kt vt : TypeId) (ok : Bool) (k : T) (es : List (T × T)) (D : List (Nat × Bool)) (ob : List Prop) : Option (V × List (Nat × Bool) × List Prop) :=
  if fits P 10 kt k && keysOk P kt es then match zeroOf P vt with
    | some z => match findD k es 0 D ob with
      | (some (_, v), D', ob') => some (if ok then .tup [.p v, .rb true] else .p v, D', ob')
      | (none, D', ob') => some (if ok then .tup [.p z, .rb false] else .p z, D', ob')
    | none => none
  else none

def putD (P : Program) (kt : TypeId) (k v : T) (es : List (T × T)) (D : List (Nat × Bool)) (ob : List Prop) : Option (List (T × T) × List (Nat × Bool) × List Prop) :=
  if fits P 10 kt k && keysOk P kt es then match findD k es 0 D ob with
    | (some (i, _), D', ob') => some (setEnt es i k v, D', ob')
    | (none, D', ob') => some (es ++ [(k, v)], D', ob')
  else none

/-- Maps. -/
def hopM (P : Program) (t : List (Nat × V)) (s : List SObj) (o : Oper) (D : List (Nat × Bool)) (ob : List Prop) : Option (OpR × List (Nat × Bool) × List Prop) := match o.op with
  | .lookup ty x k ok => match P.underlying ty, evalO P t none ty x with
    | some (.map kt vt), some (.map id) => match (evalO P t none kt k).bind V.toT, s[id]? with
      | some kk, some (.map es) => match lookD P kt vt ok kk es D ob with
        | some (v, D', ob') => some (⟨v, s, []⟩, D', ob')
        | none => none
      | _, _ => none
    | _, _ => none
  | .mapUpdate ty x k v | .insert ty x k v => match P.underlying ty, evalO P t none ty x with
    | some (.map kt vt), some (.map id) => match (evalO P t none kt k).bind V.toT, (evalO P t none vt v).bind V.toT, s[id]? with
      | some kk, some vv, some (.map es) => match putD P kt kk vv es D ob with
        | some (es', D', ob') => some (⟨.bad, s.set id (.map es'), []⟩, D', ob')
        | none => none
      | _, _, _ => none
    | _, _ => none
  | _ => none

def stepC (C : GCtx) (pf : PFn) (gf : GFn) (ops : Array Oper) (o : Oper) (r : GR) : Option GR :=
  match guardOf ops r.st.t o with
  | some .skip => putG r r.st o.dst (.tup [], r.D, r.obs)
  | some (.run none) =>
    if isCall o then
      if C.pr o then match callee C.P r.st.t none o with
        | some (f, ts) => match C.told f, r.QP with
          | true, rs :: q => putG { r with QP := q } r.st o.dst (resolveG (tupOf rs) r.D (PCall C.P f ts rs :: r.obs))
          | _, _ => match pf f ts r.D r.obs with
            | some (rs, D, ob) => putG r r.st o.dst (resolveG (tupOf rs) D ob)
            | none => none
        | none => none
      else match calleeV C.P r.st.t o with
        | some (f, vs) => match C.told f && !Nat.ble yB f, r.Q with
          | true, (rs, s') :: q => if okParts rs then putG { r with Q := q } { r.st with s := s' } o.dst (resolveG (tupV rs) r.D (GCall C.P f r.st.s vs s' rs :: r.obs)) else none
          | _, _ => match gf f r.st.s vs r.D r.obs with
            | some (rs, s', D, ob) => if okParts rs then putG r { r.st with s := s' } o.dst (resolveG (tupV rs) D ob) else none
            | none => none
        | none => none
    else if isBS o && C.pr o then match buildBx C.P r.st.t r.st.s o with
      | some q => putG r { r.st with s := q.s } o.dst (q.v, r.D, r.obs)
      | none => none
    else match C.tw o, r.W with
    | true, w :: ws => match hopT C.P r.st.t r.st.s o w with
      | some (q, ps) => if isWh q.v then none else putG { r with W := ws } { r.st with s := q.s } o.dst (resolveG q.v r.D (ps ++ r.obs))
      | none => none
    | _, _ => match hopM C.P r.st.t r.st.s o r.D r.obs with
      | some (q, D, ob) => if isWh q.v then none else putG r { r.st with s := q.s } o.dst (resolveG q.v D ob)
      | none => match (if C.vec o then none else hop C.P r.st.t r.st.s none o (C.item o)) with
        | some q => if isWh q.v then none else putG r { r.st with s := q.s } o.dst (resolveG q.v r.D (q.obs ++ r.obs))
        | none => match hopW C.P r.st.t r.st.s o with
          | some q => if isWh q.v then none else putG r { r.st with s := q.s } o.dst (resolveG q.v r.D r.obs)
          | none => none
  | _ => none

/-- The operations in a row; with what each touched. -/
def opsC (C : GCtx) (pf : PFn) (gf : GFn) (ops : Array Oper) : List Oper → GR → Option (GR × List FP)
  | [], r => some (r, [])
  | o :: os, r => match stepC C pf gf ops o r with
    | some r' => match opsC C pf gf ops os r' with
      | some (r'', fs) => some (r'', (fpL C.P r.st.t o, fpS C.P r.st.t o, fpC C.pr o r.st.s r'.st.s) :: fs)
      | none => none
    | none => none

/-- Pairs of which it is owed that the second leaves alone what the first looks at. -/
def memP (i k : Nat) : List (Nat × Nat) → Bool
  | [] => false
  | (a, b) :: r => (Nat.beq a i && Nat.beq b k) || memP i k r

def isOwed (fs : List FP) (i k : Nat) : Bool := match fs[i]?, fs[k]? with
  | some (some _, _, _), some (_, _, some (_, _)) => true
  | _, _ => false

def apT (ops : Array Oper) (fs : List FP) (l : List (Nat × Nat)) (i k : Nat) : Bool := (memP i k l && isOwed fs i k) || apD ops fs i k

def owedP (fs : List FP) : List (Nat × Nat) → List Prop
  | [] => []
  | (i, k) :: r => match fs[i]?, fs[k]? with
    | some (some a, _, _), some (_, _, some (s, s')) => (s[a]? = s'[a]?) :: owedP fs r
    | _, _ => owedP fs r

def regC0 (C : GCtx) (pf : PFn) (gf : GFn) (ops : Array Oper) (draw : Bool) (r : GR) : Option GR :=
  match opsC C pf gf ops ops.toList r with
  | some (r', fs) => if !draw || ((indepG (apS ops) (tch C.pr) ops || indepG (apT ops fs (C.owe ops)) (tch C.pr) ops || indepA (apT ops fs (C.owe ops)) C.pr ops) && C.P.follows .mixedOrders) then some { r' with obs := owedP fs (C.owe ops) ++ r'.obs } else none
  | none => none

/-- A call, made without some objects. -/
def gfD (L : List Nat) (gf : GFn) : GFn := fun f S vs D ob => match keepIds L S.length with
  | σs => match smallS σs S, V.rens (rnk S.length σs) vs with
    | s1, vs1 => match gf f s1 vs1 D ob with
      | some (rs, s1', D', ob') =>
        if (L.all fun x => Nat.blt x S.length) && Nat.ble σs.length s1'.length && (s1.all fun o => o.blw σs.length) && V.blws σs.length vs1 && !Nat.ble yB f then
          some (V.rens (sigF S.length σs) rs, mrg (tauF S.length σs) SObj.dead (S.length + (s1'.length - σs.length)) S s1' (SObj.ren (sigF S.length σs)), D', ob')
        else none
      | none => none

/-- It makes a slice. -/
def isMk (P : Program) (t : List (Nat × V)) (o : Oper) : Bool := match o.op with
  | .makeSlice _ _ _ => true
  | .call c => match c.callee with
    | .builtin .append => match c.args.toList, c.argTypes.toList with
      | [x, y], [tx, ty] => match P.underlying tx, P.underlying ty, evalO P t none tx x, evalO P t none ty y with
        | some (.slice _), some (.slice _), some (.p (.lst true _ _)), some (.p (.lst _ _ _)) => true
        | _, _, _, _ => false
      | _, _ => false
    | _ => false
  | _ => false

/-- A step that leaves alone some boxes, made or not. -/
def stepFr (C : GCtx) (gf : GFn) (L : List Nat) (ops : Array Oper) (o : Oper) (r : GR) : Option GR :=
  match guardOf ops r.st.t o with
  | some .skip => putG r r.st o.dst (.tup [], r.D, r.obs)
  | some (.run none) =>
    if isCall o && !C.pr o then match calleeV C.P r.st.t o with
      | some (f, vs) => match gfD L gf f r.st.s vs r.D r.obs with
        | some (rs, s', D, ob) => if okParts rs then putG r { r.st with s := s' } o.dst (resolveG (tupV rs) D ob) else none
        | none => none
      | none => none
    else if isMk C.P r.st.t o && (L.all fun x => Nat.blt x r.st.s.length) then match hop C.P r.st.t r.st.s none o (C.item o) with
      | some q => if isWh q.v then none else putG r { r.st with s := q.s } o.dst (q.v, r.D, q.obs ++ r.obs)
      | none => none
    else none
  | _ => none

def stepA (C : GCtx) (pf : PFn) (gf : GFn) (ops : Array Oper) (L : List Nat) (o : Oper) (r : GR) : Option GR := match L with
  | [] => stepC C pf gf ops o r
  | _ :: _ => stepFr C gf L ops o r

def opsA (C : GCtx) (pf : PFn) (gf : GFn) (ops : Array Oper) (fr : List (Nat × Nat)) (n0 : Nat) : Nat → List Oper → GR → Option (GR × List FP)
  | _, [], r => some (r, [])
  | i, o :: os, r => match stepA C pf gf ops (frIds n0 i fr) o r with
    | some r' => match opsA C pf gf ops fr n0 (i + 1) os r' with
      | some (r'', fs) => some (r'', (fpL C.P r.st.t o, fpS C.P r.st.t o, fpC C.pr o r.st.s r'.st.s) :: fs)
      | none => none
    | none => none

/-- The boxes and the calls that no edge orders. -/
def frPairs (pr : Oper → Bool) (ops : Array Oper) : List (Nat × Nat) := match ancsB ops.toList [], balNum ops.toList with
  | an, nb => (List.range ops.size).flatMap fun k => match ops[k]? with
    | some o => match touchB pr o with
      | true => (List.range nb).filterMap fun i => match Nat.testBit (an.getD k 0) i with
        | true => none
        | false => some (i, k)
      | false => []
    | none => []

def regA (C : GCtx) (pf : PFn) (gf : GFn) (ops : Array Oper) (fr : List (Nat × Nat)) (r : GR) : Option GR :=
  match opsA C pf gf ops fr r.st.s.length 0 ops.toList r with
  | some (r', fs) => if indepR fr (apT ops fs (C.owe ops)) C.pr ops && C.P.follows .mixedOrders then some { r' with obs := owedP fs (C.owe ops) ++ r'.obs } else none
  | none => none

/-- A region: where 'al' says so, what makes boxes is run ahead. -/
def regC (C : GCtx) (pf : PFn) (gf : GFn) (ops : Array Oper) (draw : Bool) (r : GR) : Option GR := match draw && C.al ops with
  | true => match ordO true true ops with
    | ops' => regA C pf gf ops' (frPairs C.pr ops') r
  | false => regC0 C pf gf ops draw r

/-- The slots that live on. -/
def cutT' (l : List Nat) : List (Nat × V) → List (Nat × V)
  | [] => []
  | (x, v) :: r => if memN x l then (x, v) :: cutT' (l.erase x) r else cutT' l r

/-- Some slots, and no others. -/
def selT : List Nat → List (Nat × V) → List (Nat × V)
  | [], _ => []
  | x :: l, t => match getT t x with
    | some v => (x, v) :: selT l t
    | none => selT l t

def cutG (C : GCtx) (f : FuncId) (id : Nat) (st : St) : St := match C.glob f id with
  | some l => { st with t := selT l st.t }
  | none => st

def cutR (C : GCtx) (f : FuncId) (id : Nat) (r : GR) : GR := { r with st := cutG C f id r.st }

mutual
/-- The first box that a value points to. -/
def V.ref1 : V → Option Nat
  | .ptr id _ => some id
  | .view id _ _ => some id
  | .cv id _ _ _ _ => some id
  | .ep id _ _ => some id
  | .agg vs => V.ref1s vs
  | .clo _ vs => V.ref1s vs
  | _ => none
def V.ref1s : List V → Option Nat
  | [] => none
  | v :: vs => match v.ref1 with | some i => some i | none => V.ref1s vs
end

/-! Letting go ahead of a region: what is sliced there is written no more. -/

def opOf (x : Nat) : List Oper → Option Op
  | [] => none
  | o :: os => if o.dst == some x then some o.op else opOf x os

def rootOf (ops : List Oper) : Nat → Operand → Option Nat
  | k + 1, .tmp x => match opOf x ops with
    | some (.fieldAddr _ y _) | some (.indexAddr _ y _) | some (.nilCheck y) | some (.move y) | some (.assign y) => rootOf ops k y
    | some _ => none
    | none => some x
  | _, _ => none

def sliced (P : Program) (pr : Oper → Bool) (ops : List Oper) : List Oper → List Nat
  | [] => []
  | o :: os => match o.op with
    | .slice ty x _ _ _ => match P.underlying ty with
      | some (.array _ _) => match rootOf ops 8 x with | some y => y :: sliced P pr ops os | none => sliced P pr ops os
      | _ => sliced P pr ops os
    | .call c => if isCall o && pr o then c.args.toList.filterMap (rootOf ops 8) ++ sliced P pr ops os else sliced P pr ops os
    | _ => sliced P pr ops os

def frzSlots (n : Nat) : List Nat → St → St
  | [], st => st
  | x :: xs, st => match (getT st.t x).bind V.ref1 with
    | some id => if Nat.ble n id then match st.frz id with
        | some st' => frzSlots n xs st'
        | none => frzSlots n xs st
      else frzSlots n xs st
    | none => frzSlots n xs st

def frzIds (n : Nat) : List Nat → St → St
  | [], st => st
  | k :: ks, st => match st.frz (n + k) with
    | some st' => frzIds n ks st'
    | none => frzIds n ks st

def frzC (C : GCtx) (f : FuncId) (n id : Nat) (ops : Array Oper) (r : GR) : GR :=
  if C.keep f id then { r with st := frzSlots n (C.frz f id) r.st } else { r with st := frzSlots n (sliced C.P C.pr ops.toList ops.toList) (frzSlots n (C.frz f id) r.st) }

/-- What comes behind. -/
def GPost (U : Nat → Nat → Prop) (n : Nat) (κ : List Place) (s : List SObj) (w : World) (e : Ex) (st' : St) (x : Exit) (a' : Act) (w' : World) : Prop :=
  x = e.to ∧ ∃ κ', Rel U κ' st' a' w' ∧ Step U κ w κ' w' ∧ ExtN n κ s κ' st'.s

def CodeG (P : Program) (n : Nat) (c : Code) (st : St) (e : Ex) (st' : St) : Prop :=
  ∀ ro : Option Nat, (ro = none ∨ noRF c = true) → ∀ (U : Nat → Nat → Prop) (κ : List Place) (a : Act) (w : World), Rel U κ st a w → c.wpIn (FW ro) 0 P (GPost U n κ st.s w e st') a w

/-- A loop, in some number of rounds. -/
def LoopG (P : Program) (n : Nat) (c : Code) (st : St) (e : Ex) (st' : St) : Prop :=
  ∃ k, ∀ ro : Option Nat, (ro = none ∨ noRF c = true) → ∀ (U : Nat → Nat → Prop) (κ : List Place) (a : Act) (w : World), Rel U κ st a w → Code.roundsIn (FW ro) 0 P c (GPost U n κ st.s w e st') k a w

def noWhB : List (Nat × V) → Bool
  | [] => true
  | (_, v) :: r => !isWh v && noWhB r

def Ex.out : Ex → Bool
  | .normal => false
  | _ => true

def iterC (b : GR → Option (Ex × GR)) : Nat → GR → Option (Ex × GR)
  | 0, _ => none
  | k + 1, r => match b r with
    | some (.normal, r') => iterC b k r'
    | x => x

def cloV : V → Option (FuncId × List V)
  | .p (.clo f caps) => some (f, caps.map .p)
  | .clo f caps => some (f, caps)
  | _ => none

/-- A range over a function is over: its record is let go, if nothing speaks of it. -/
def rfEnd (id : Nat) (t : List (Nat × V)) (s : List SObj) : Option (Option Code × List SObj) := match s[id]? with
  | some (.lp ls pd d f m _ ps as bd) => match ls with
    | .busy => none
    | _ => match noYT id t && noYO id (s.set id .dead) with
      | true => some (pd, s.set id .dead)
      | false => some (pd, s.set id (.lp .exhausted pd d f m [] ps as bd))
  | _ => none

def evC (C : GCtx) (pf : PFn) (gf : GFn) (f : FuncId) (n : Nat) : Code → GR → Option (Ex × GR)
  | .skip, r => some (.normal, r)
  | .label _, r => some (.normal, r)
  | .region id ops draw, r => match regC C pf gf ops draw (frzC C f n id ops (cutR C f id r)) with
    | some r' => some (.normal, r')
    | none => none
  | .seq a b, r => match evC C pf gf f n a r with
    | some (.normal, r') => evC C pf gf f n b r'
    | x => x
  | .cond c x y, r => match evalO C.P r.st.t none 0 c with
    | some (.rb true) => evC C pf gf f n x r
    | some (.rb false) => evC C pf gf f n y r
    | some (.p (.bool b)) => match tellB b r.D r.obs with
      | (true, D, ob) => evC C pf gf f n x { r with D, obs := ob }
      | (false, D, ob) => evC C pf gf f n y { r with D, obs := ob }
    | _ => none
  | .block id c, r => match evC C pf gf f n c r with
    | some (.exit j, r') => if j == id then some (.normal, r') else some (.exit j, r')
    | x => x
  | .loop c, r => match r.L with
    | some (k, e, st') :: ls => if e.out && noWhB st'.t then some (e, { st := st', D := r.D, L := ls, Q := r.Q, QP := r.QP, W := r.W, obs := LoopG C.P n c { r.st with t := cutT' k r.st.t } e st' :: r.obs }) else none
    | none :: ls => iterC (evC C pf gf f n c) C.fuel { r with L := ls }
    | [] => iterC (evC C pf gf f n c) C.fuel r
  | .scope c, r => evC C pf gf f n c r
  | .exit id, r => some (.exit id, r)
  | .ret, r => some (.ret, r)
  | .rangeFunc g ps as bd, r => match (evalO C.P r.st.t none 0 g).bind cloV with
    | some (f', caps) => match !Nat.ble yB f' && Nat.ble n r.st.s.length, gf f' (r.st.s ++ [.lp .ready none 0 f r.st.n (noWh r.st.t) ps as bd]) (.yld r.st.s.length :: caps) r.D r.obs with
      | true, some (_, s2, D, ob) => match rfEnd r.st.s.length r.st.t s2 with
        | some (none, s3) => some (.normal, { r with st := { r.st with s := s3 }, D, obs := ob })
        | some (some (.exit j), s3) => some (.exit j, { r with st := { r.st with s := s3 }, D, obs := ob })
        | some (some .ret, s3) => some (.ret, { r with st := { r.st with s := s3 }, D, obs := ob })
        | _ => none
      | _, _ => none
    | none => none
  | _, _ => none

/-! Functions -/

def argsV : Nat → List V → List (Nat × V)
  | _, [] => []
  | i, v :: vs => (i, v) :: argsV (i + 1) vs

def resC (P : Program) (st : St) : List ResultVar → Option (List V)
  | [] => some []
  | r :: rs => match (match r with
      | .tmp x => getT st.t x
      | .cell x ty => match getT st.t x, tySz P ty, tyAg P ty with
        | some (.ptr id off), some n, some ag => match st.s[id]? with
          | some (.box v) => V.at' v off n ag
          | _ => none
        | some (.p (.rp u off)), some n, some ag => (T.at' u off n ag).map .p
        | _, _, _ => none), resC P st rs with
    | some v, some vs => if okPart v then some (v :: vs) else none
    | _, _ => none

def pickR (s : List SObj) : Nat → Nat → Option Nat
  | 0, _ => none
  | k + 1, id => match s[id]? with
    | some (.box v) => match v.ref1 with
      | none => some id
      | some j => pickR s k j
    | some (.vec _ v) => match v.ref1 with
      | none => some id
      | some j => pickR s k j
    | _ => none

/-- Values whose places are let go. -/
def unplace : Nat → List SObj → List V → Option (List T)
  | 0, _, _ => none
  | k + 1, s, rs => if okParts rs then match V.toTs rs with
    | some ts => some ts
    | none => match (V.ref1s rs).bind (pickR s 8) with
      | some id => match s[id]? with
        | some (.box v) => match v.toT with
          | some t => unplace k ((s.map (SObj.frz id (t, 0))).set id .dead) (V.frzs id (t, 0) rs)
          | none => none
        | some (.vec c v) => match v.toT with
          | some t => unplace k ((s.map (SObj.frz id (t, c))).set id .dead) (V.frzs id (t, c) rs)
          | none => none
        | _ => none
      | none => none
    else none

def pureC (C : GCtx) (g : GFn) : PFn := fun f ts D ob => match C.K f ts with
  | some rs => some (rs, D, ob)
  | none => match g f [] (ts.map .p) D ob with
    | some (rs, s', D', ob') => match (match Nat.ble yB f with | true => none | false => unplace 64 s' rs) with
      | some ts' => some (ts', D', ob')
      | none => none
    | none => none

mutual
def V.under (n : Nat) : V → Bool
  | .ptr id _ => Nat.blt id n
  | .row id _ _ => Nat.blt id n
  | .map id => Nat.blt id n
  | .view id _ _ => Nat.blt id n
  | .cv id _ _ _ _ => Nat.blt id n
  | .ep id _ _ => Nat.blt id n
  | .yld id => Nat.blt id n
  | .agg vs => V.unders n vs
  | .clo _ vs => V.unders n vs
  | .tup _ => false
  | .wh _ _ _ => false
  | _ => true
def V.unders (n : Nat) : List V → Bool
  | [] => true
  | v :: vs => v.under n && V.unders n vs
end

def underT (n : Nat) : List (Nat × V) → Bool
  | [] => true
  | p :: r => p.2.under n && underT n r

def belowS (n : Nat) : List SObj → Bool
  | [] => true
  | .box v :: r => v.under n && belowS n r
  | .vec _ v :: r => v.under n && belowS n r
  | .lp _ _ d _ _ t _ _ _ :: r => Nat.blt d n && underT n t && belowS n r
  | _ :: r => belowS n r

/-- What a function made for itself is let go. -/
def trimS (n : Nat) (rs : List V) (s : List SObj) : List SObj := if V.unders n rs && belowS n (s.take n) then s.take n else s

def finC (C : GCtx) (fn : Func) (n : Nat) (r : GR) : Option (List V × List SObj × List (Nat × Bool) × List Prop) :=
  match resC C.P r.st fn.results.toList with
  | some rs => some (rs, trimS n rs r.st.s, r.D, r.obs)
  | none => none

/-- A function's run, by who makes its calls. -/
def funC (C : GCtx) (pf : PFn) (gf : GFn) (f : FuncId) (s : List SObj) (vs : List V) (D : List (Nat × Bool)) (L : List (Option (List Nat × Ex × St))) (ob : List Prop) (Q : List (List V × List SObj) := []) (QP : List (List T) := []) (W : List Told := []) : Option (List V × List SObj × List (Nat × Bool) × List Prop) :=
  match C.P.funcs[f]? with
  | some fn => match fn.body with
    | some c => if (vs.length == fn.params.size + fn.nfree) && Nat.ble vs.length fn.ntmps && okParts vs then
        match evC C pf gf f s.length c { st := { n := fn.ntmps, t := argsV 0 vs, s }, D, obs := ob, L, Q, QP, W } with
        | some (.normal, r) => finC C fn s.length r
        | some (.ret, r) => finC C fn s.length r
        | _ => none
      else none
    | none => none
  | none => none

/-! A round -/

def lpArgs : List Tmp → List V → List (Nat × V) → List (Nat × V)
  | p :: ps, v :: vs, t => lpArgs ps vs ((p, v) :: t)
  | _, _, t => t

def allLt (m : Nat) : List Tmp → Bool
  | [] => true
  | p :: r => Nat.blt p m && allLt m r

def roundEnd (id n : Nat) (ls : LoopState) (pd : Option Code) (b : Bool) (r : GR) : Option (List V × List SObj × List (Nat × Bool) × List Prop) := match r.st.s[id]? with
  | some (.lp _ _ d f m t ps as bd) => some ([.p (.bool b)], trimS n [] (r.st.s.set id (.lp ls pd d f m t ps as bd)), r.D, r.obs)
  | _ => none

/-- A round of a range over a function. -/
def roundC (C : GCtx) (pf : PFn) (gf : GFn) (id : Nat) (s : List SObj) (vs : List V) (D : List (Nat × Bool)) (ob : List Prop) : Option (List V × List SObj × List (Nat × Bool) × List Prop) :=
  match s[id]? with
  | some (.lp _ _ _ f m t ps as bd) => if Nat.beq vs.length ps.size && okParts vs && noRF as && noRF bd && noWhB t && allLt m ps.toList then
      match evC C pf gf f s.length as { st := { n := m, t := lpArgs ps.toList vs t, s }, D, obs := ob } with
      | some (.normal, r1) => match r1.st.s[id]? with
        | some (.lp .ready pd1 d1 f1 m1 t1 ps1 as1 bd1) =>
          match evC C pf gf f s.length bd { r1 with st := { r1.st with s := r1.st.s.set id (.lp .busy pd1 d1 f1 m1 t1 ps1 as1 bd1) } } with
          | some (.normal, r2) => roundEnd id s.length .ready none true r2
          | some (.exit j, r2) => roundEnd id s.length .done (some (.exit j)) false r2
          | some (.ret, r2) => roundEnd id s.length .done (some .ret) false r2
          | none => none
        | _ => none
      | _ => none
    else none
  | _ => none

def callC (C : GCtx) : Nat → GFn
  | 0, _, _, _, _, _ => none
  | d + 1, f, s, vs, D, ob => match Nat.ble yB f with
    | true => roundC C (pureC C (callC C d)) (callC C d) (f - yB) s vs D ob
    | false => match C.KG f s vs with
      | some (rs, s') => some (rs, s', D, ob)
      | none => match (allP vs).bind (C.K f) with
        | some rs => some (rs.map .p, s, D, ob)
        | none => funC C (pureC C (callC C d)) (callC C d) f s vs D [] ob

end Go.HM
