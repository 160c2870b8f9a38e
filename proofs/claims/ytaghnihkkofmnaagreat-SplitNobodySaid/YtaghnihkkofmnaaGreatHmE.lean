/- HM, part E: the evaluator: a function of the code, the state and what is told of calls, branches and loops; it hands out what is owed. -/
import Derived.Test.YtaghnihkkofmnaaGreatHmD
namespace Go.HM

def RVs (U : Nat → Nat → Prop) (w : World) : List T → Value → Prop
  | [t], v => TV w U t v
  | rs, v => ∃ vs : List Value, v = .tuple vs.toArray ∧ F2 (TV w U) rs vs

def Callable (P : Program) (f : FuncId) : Prop := ∃ fn, P.funcs[f]? = some fn ∧ (fn.name == "runtime.NumGoroutine") = false ∧ fn.body.isNone = false

def UpG (U : Nat → Nat → Prop) (w : World) : Prop := (∀ b o, w.heap.size ≤ b → U b o) ∧ GlobU w U

/-- A CALL ON TREES: from these trees it gives those, and all that there was is as it was. -/
def PCall (P : Program) (f : FuncId) (args rs : List T) : Prop :=
  Callable P f ∧ ∀ (U : Nat → Nat → Prop) (w : World) (vals : List Value), UpG U w → F2 (TV w U) args vals →
    Calls P f vals.toArray w (fun e w' => ∃ v, e = .returned v ∧ RVs U w' rs v ∧ Kept [] w w')

inductive Ex where
  | normal
  | exit (id : Nat)
  | ret
  deriving Inhabited

def Ex.to : Ex → Exit
  | .normal => .normal
  | .exit id => .exit id
  | .ret => .ret

/-- What comes behind a piece of code. -/
def Post (U : Nat → Nat → Prop) (κ : List Place) (w : World) (e : Ex) (st' : St) (x : Exit) (a' : Act) (w' : World) : Prop := x = e.to ∧ ∃ κ', Rel U κ' st' a' w' ∧ Step U κ w κ' w'

/-- A LOOP: in some number of rounds. -/
def LoopR (P : Program) (c : Code) (st : St) (e : Ex) (st' : St) : Prop :=
  ∃ n, ∀ (U : Nat → Nat → Prop) (κ : List Place) (a : Act) (w : World), Rel U κ st a w → Code.rounds P c (Post U κ w e st') n a w

/-- A PIECE OF CODE: from any world in which 'st' lies it comes, by 'e', to one in which 'st'' does. -/
def CodeR (P : Program) (c : Code) (st : St) (e : Ex) (st' : St) : Prop :=
  ∀ (U : Nat → Nat → Prop) (κ : List Place) (a : Act) (w : World), Rel U κ st a w →
    c.wp P (Post U κ w e st') a w

/-- Letting go: the slots that are kept; the objects that are kept; versions begin anew; decided bools are bools. -/
structure Keep where
  slots : List Nat
  objs : Nat
  own : List Nat := []

inductive Item where
  | res (d : Bool)
  | el (t : T)
  | call (rs : List T)
  deriving Inhabited

inductive Orc where
  | op (rid idx : Nat) (i : Item)
  | br (d : Bool)
  | loop (k : Keep) (e : Ex) (st' : St)
  | frz (rid id : Nat)

mutual
def V.toT : V → Option T
  | .p t => some t
  | .rb b => some (.bool b)
  | .row _ _ (.lst x e ts) => some (.lst x e ts)
  | .row _ _ (.bl x bs) => some (.bl x bs)
  | .agg vs => match V.toTs vs with | some ts => some (.agg ts) | none => none
  | .clo f vs => match V.toTs vs with | some ts => some (.clo f ts) | none => none
  | _ => none
def V.toTs : List V → Option (List T)
  | [] => some []
  | v :: vs => match v.toT, V.toTs vs with | some t, some ts => some (t :: ts) | _, _ => none
end

def rowP : T → V
  | .lst x e ts => .p (.lst x e ts)
  | .bl x bs => .p (.bl x bs)
  | _ => .bad

mutual
def V.weak (n : Nat) (s : List SObj) : V → V
  | .rb b => .p (.bool b)
  | .ptr id off => if Nat.blt id n then .ptr id off else .bad
  | .row id ver t => if Nat.blt id n && (match s[id]? with | some (.row cur _) => ver == cur | _ => false) then .row id 0 t else rowP t
  | .map id => if Nat.blt id n then .map id else .bad
  | .view id off m => if Nat.blt id n then .view id off m else .bad
  | .cv id ver off m e => if Nat.blt id n then .cv id ver off m e else .bad
  | .ep id ver off => if Nat.blt id n then .ep id ver off else .bad
  | .yld _ => .bad
  | .agg vs => mkAgg (V.weaks n s vs)
  | .clo f vs => .clo f (V.weaks n s vs)
  | .tup _ => .bad
  | .wh _ _ _ => .bad
  | .bad => .bad
  | .p t => .p t
def V.weaks (n : Nat) (s : List SObj) : List V → List V
  | [] => []
  | v :: vs => v.weak n s :: V.weaks n s vs
end

def SObj.weak (n : Nat) (s : List SObj) : SObj → SObj
  | .box v => .box (v.weak n s)
  | .row _ e => .row 0 e
  | .vec c v => .vec c (v.weak n s)
  | .lp .. => .row 0 0
  | .dfr => .row 0 0
  | o => o

def St.weak (k : Keep) (st : St) : St :=
  { n := st.n, t := k.slots.filterMap fun x => (getT st.t x).map fun v => (x, v.weak k.objs st.s), s := (st.s.take k.objs).map (SObj.weak k.objs st.s) }

/-! Freezing: a box that is written no more is memory that stays as it is. -/

/-- A slice over a part of a tree that stays. -/
def viewT : T → Nat → Nat → V
  | .ba m bs, off, n => if Nat.ble (off + n) m then .p (.bl true ((bs.drop off).take n)) else .bad
  | .agg ts, off, n => match ts with
    | [] => .bad
    | t0 :: _ => if Nat.blt 0 t0.sz && (off / t0.sz * t0.sz == off) && Nat.ble (off / t0.sz + n) ts.length && ts.all (fun t => t.sz == t0.sz) then .p (.lst true t0.sz ((ts.drop (off / t0.sz)).take n)) else .bad
  | _, _, _ => .bad

/-- A slice of a growing array, of which nothing is written any more. -/
def cvT : T → Nat → Nat → Nat → V
  | .agg ts, off, n, e => if Nat.blt 0 e && (off / e * e == off) && Nat.ble (off / e + n) ts.length && ts.all (fun t => t.sz == e) then .p (.lst false e ((ts.drop (off / e)).take n)) else .bad
  | _, _, _, _ => .bad

mutual
def V.frz (id : Nat) (t : T × Nat) : V → V
  | .ptr i off => if i == id then .p (.rp t.1 off) else .ptr i off
  | .view i off n => if i == id then viewT t.1 off n else .view i off n
  | .cv i ver off n e => if i == id then (if ver == t.2 then cvT t.1 off n e else .bad) else .cv i ver off n e
  | .ep i ver off => if i == id then (if ver == t.2 then .p (.rp t.1 off) else .bad) else .ep i ver off
  | .agg vs => .agg (V.frzs id t vs)
  | .clo f vs => .clo f (V.frzs id t vs)
  | .tup _ => .bad
  | .wh _ _ _ => .bad
  | v => v
def V.frzs (id : Nat) (t : T × Nat) : List V → List V
  | [] => []
  | v :: vs => v.frz id t :: V.frzs id t vs
end

def frzT (id : Nat) (u : T × Nat) : List (Nat × V) → List (Nat × V)
  | [] => []
  | (x, v) :: r => (x, v.frz id u) :: frzT id u r

def SObj.frz (id : Nat) (t : T × Nat) : SObj → SObj
  | .box v => .box (v.frz id t)
  | .vec c v => .vec c (v.frz id t)
  | .lp ls pd d f n ts ps as bd => .lp ls pd d f n (frzT id t ts) ps as bd
  | o => o

def St.frz (id : Nat) (st : St) : Option St := match st.s[id]? with
  | some (.box v) => match v.toT with
    | some t => some { st with t := frzT id (t, 0) st.t, s := (st.s.map (SObj.frz id (t, 0))).set id .dead }
    | none => none
  | some (.vec c v) => match v.toT with
    | some t => some { st with t := frzT id (t, c) st.t, s := (st.s.map (SObj.frz id (t, c))).set id .dead }
    | none => none
  | _ => none

/-! Types -/

def tySz (P : Program) (t : TypeId) : Option Nat := match P.info? t with | some i => some i.size | none => none
def tyAg (P : Program) (t : TypeId) : Option Bool := match P.underlying t with | some (.struct _) => some true | some (.array _ _) => some true | some _ => some false | none => none
def isByte (P : Program) (t : TypeId) : Bool := match P.underlying t with | some (.int .u8) => true | _ => false

def nilS (P : Program) (e : TypeId) : Option T := if isByte P e then some (.bl true []) else (tySz P e).map fun n => .lst true n []

def zeroFs (f : TypeId → Option T) : List Field → Option (List T)
  | [] => some []
  | x :: r => match f x.type, zeroFs f r with | some z, some zs => some (z :: zs) | _, _ => none

def zeroT (P : Program) : Nat → TypeId → Option T
  | 0, _ => none
  | d + 1, t => match P.underlying t with
    | some .bool => some (.bool false)
    | some (.int k) => some (.int k 0)
    | some (.float k) => some (.flt k 0)
    | some .string => some (.str .empty)
    | some (.pointer _) => some .nilP
    | some (.slice e) => nilS P e
    | some (.map _ _) => some .nilM
    | some (.func _ _ _) => some .nilF
    | some (.interface _) => some .nilI
    | some (.array n e) => if isByte P e then some (.ba n (List.replicate n 0)) else (zeroT P d e).map fun z => .agg (List.replicate n z)
    | some (.struct fs) => (zeroFs (zeroT P d) fs.toList).map .agg
    | _ => none

def chkBytes : List Int → List Value → Option (List Value)
  | [], cs => some cs
  | b :: bs, .int .u8 c :: cs => if b == c then chkBytes bs cs else none
  | _, _ => none

def chk1 (p : Value → Bool) : List Value → Option (List Value)
  | c :: cs => if p c then some cs else none
  | [] => none

mutual
/-- The cells of a tree without memory, taken off a list. -/
def T.chk : T → List Value → Option (List Value)
  | .int k n, cs => chk1 (fun c => match c with | .int k' m => decide (k = k') && (n == m) | _ => false) cs
  | .bool b, cs => chk1 (fun c => match c with | .bool b' => b == b' | _ => false) cs
  | .str s, cs => chk1 (fun c => match c with | .string u => decide (s.data = u.data) | _ => false) cs
  | .flt k n, cs => chk1 (fun c => match c with | .float k' m => decide (k = k') && (n == m) | _ => false) cs
  | .nilP, cs => chk1 (fun c => match c with | .pointer none => true | _ => false) cs
  | .nilM, cs => chk1 (fun c => match c with | .map none => true | _ => false) cs
  | .nilF, cs => chk1 (fun c => match c with | .nilFunc => true | _ => false) cs
  | .nilI, cs => chk1 (fun c => match c with | .nilIface => true | _ => false) cs
  | .bl _ [], cs => chk1 (fun c => match c with | .slice none 0 0 => true | _ => false) cs
  | .lst _ _ [], cs => chk1 (fun c => match c with | .slice none 0 0 => true | _ => false) cs
  | .ba n bs, cs => if bs.length == n then chkBytes bs cs else none
  | .agg ts, cs => T.chks ts cs
  | _, _ => none
def T.chks : List T → List Value → Option (List Value)
  | [], cs => some cs
  | t :: ts, cs => match T.chk t cs with | some r => T.chks ts r | none => none
end

def zeroOf (P : Program) (t : TypeId) : Option T :=
  match zeroT P 10 t, P.info? t with
  | some z, some i => match i.zero with
    | some v => match T.chk z v.cells.toList with
      | some [] => if (isAggV v == z.isAgg) && (z.sz == i.size) then some z else none
      | _ => none
    | none => none
  | _, _ => none

/-! Operands -/

def T.sc : T → Option Value
  | .int k n => some (.int k n)
  | .bool b => some (.bool b)
  | .str s => some (.string s)
  | .flt k n => some (.float k n)
  | _ => none

def scT : Value → Option T
  | .int k n => some (.int k n)
  | .bool b => some (.bool b)
  | .string s => some (.str s)
  | .float k n => some (.flt k n)
  | _ => none

def constV (P : Program) (ty : TypeId) : Value → Option V
  | .bool b => some (.rb b)
  | .int k n => some (.p (.int k n))
  | .string s => some (.p (.str s))
  | .float k n => some (.p (.flt k n))
  | .pointer none => some (.p .nilP)
  | .map none => some (.p .nilM)
  | .nilFunc => some (.p .nilF)
  | .nilIface => some (.p .nilI)
  | .slice none 0 0 => match P.underlying ty with | some (.slice e) => (nilS P e).map .p | _ => none
  | _ => none

def evalO (P : Program) (t : List (Nat × V)) (g : Option (Nat × Bool)) (ty : TypeId) : Operand → Option V
  | .tmp x => match getT t x with
    | some (.wh d want u) => match g with
      | some (d', want') => if (d == d') && (want == want') then some u else none
      | none => none
    | some .bad => none
    | r => r
  | .const v => constV P ty v
  | .func f => some (.p (.clo f []))
  | .global g => (lookG gtab g).map fun t => .p (.rp t 0)

def evalOs (P : Program) (t : List (Nat × V)) (g : Option (Nat × Bool)) : List TypeId → List Operand → Option (List V)
  | _, [] => some []
  | tys, x :: xs => match evalO P t g (tys.headD 0) x, evalOs P t g tys.tail xs with | some v, some vs => some (v :: vs) | _, _ => none

/-- What worldless operations give. -/
def calm (P : Program) {α : Type} : Sem α → Option α
  | .pure a => some a
  | .program k => calm P (k P)
  | .mark _ k => calm P k
  | _ => none

def V.sc : V → Option Value
  | .p t => t.sc
  | .rb b => some (.bool b)
  | _ => none

/-! Equality of trees -/

def listEqB (f : T → T → Bool) : List T → List T → Bool
  | [], [] => true
  | a :: l, b :: m => f a b && listEqB f l m
  | _, _ => false

mutual
/-- Trees of one type that may be held against each other. -/
def T.eqB : T → T → Bool
  | .int _ a, .int _ b => a == b
  | .bool a, .bool b => a == b
  | .str a, .str b => a.toList == b.toList
  | .ba _ a, .ba _ b => a == b
  | .agg a, .agg b => T.eqsB a b
  | _, _ => false
def T.eqsB : List T → List T → Bool
  | [], [] => true
  | [a], [b] => T.eqB a b
  | a :: l, b :: m => T.eqB a b && T.eqsB l m
  | _, _ => false
end

def fitsFs (P : Program) (f : TypeId → T → Bool) : Nat → List Field → List T → Bool
  | _, [], [] => true
  | off, x :: r, t :: ts => f x.type t && (x.name != "_") && (x.offset == off) && (tySz P x.type == some t.sz) && fitsFs P f (off + t.sz) r ts
  | _, _, _ => false

/-- A tree of a type whose values may be held against each other. -/
def fits (P : Program) : Nat → TypeId → T → Bool
  | 0, _, _ => false
  | d + 1, t, x => match P.underlying t, x with
    | some .bool, .bool _ => true
    | some (.int k), .int k' _ => k = k'
    | some .string, .str _ => true
    | some (.array n e), .ba m _ => (n == m) && isByte P e && (tySz P e == some 1)
    | some (.array n e), .agg ts => ((n == ts.length) && Nat.blt 0 n) && !isByte P e && ts.all fun u => fits P d e u && (tySz P e == some u.sz)
    | some (.struct fs), .agg ts => !P.stoodInHeld t && fitsFs P (fits P d) 0 fs.toList ts
    | _, _ => false

end Go.HM
