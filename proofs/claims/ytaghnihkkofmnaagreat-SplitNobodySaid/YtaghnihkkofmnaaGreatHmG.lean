/- HM, part G: the evaluator: regions whose order is drawn, code, functions. -/
import Derived.Test.YtaghnihkkofmnaaGreatHmF
namespace Go.HM

/-! Regions that draw their order: what touches one thing is ordered. -/

def ancsGo : List Oper → List (List Nat) → List (List Nat)
  | [], acc => acc
  | o :: os, acc => ancsGo os (acc ++ [o.after.toList.flatMap fun e => if Region.binds .any e && Nat.blt e.on acc.length then e.on :: acc.getD e.on [] else []])

def reads (ops : Array Oper) (o : Oper) : List Nat :=
  (o.op.operands.toList.filterMap tmpOf) ++ (match o.guard with | some (g, _) => ((ops[g]?).bind (·.dst)).toList | none => [])

def memN (x : Nat) : List Nat → Bool
  | [] => false
  | y :: ys => (x == y) || memN x ys

def clash (ops : Array Oper) (x y : Oper) : Bool :=
  (match x.dst with | some d => memN d (reads ops y) || y.dst == some d | none => false) ||
  (match y.dst with | some d => memN d (reads ops x) | none => false) ||
  ((touch x.op == 2) && (touch y.op != 0)) || ((touch y.op == 2) && (touch x.op != 0))

def indepGo (ops : Array Oper) (ancs : List (List Nat)) : List Oper → Nat → Bool
  | [], _ => true
  | y :: ys, j => ((List.range j).all fun i => match ops[i]? with | some x => (!clash ops x y || memN i (ancs.getD j [])) && (x.dst.isNone || x.dst != y.dst) | none => true) && (y.after.toList.all fun e => !Region.binds .any e || Nat.blt e.on j) && (match y.guard with | some (g, _) => Nat.blt g j | none => true) && indepGo ops ancs ys (j + 1)

/-- Every two operations that clash are ordered, as in the text; no slot is written twice. -/
def indep (ops : Array Oper) : Bool := indepGo ops (ancsGo ops.toList []) ops.toList 0

def noWh : List (Nat × V) → List (Nat × V)
  | [] => []
  | (x, .wh _ _ _) :: r => (x, .bad) :: noWh r
  | (x, v) :: r => (x, v) :: noWh r

def evReg (P : Program) (rid : Nat) (ops : Array Oper) (draw : Bool) (r : Run) : Option Run :=
  if draw then if indep ops && P.follows .mixedOrders then evOps P rid ops (List.range ops.size) { r with st := { r.st with t := noWh r.st.t } } else none
  else evOps P rid ops (List.range ops.size) r

def frzAll (rid : Nat) : St → List Orc → Option (St × List Orc)
  | st, .frz r id :: os => if r == rid then match st.frz id with | some st' => frzAll rid st' os | none => none else some (st, .frz r id :: os)
  | st, os => some (st, os)

def ev (P : Program) : Code → Run → Option (Ex × Run)
  | .skip, r => some (.normal, r)
  | .label _, r => some (.normal, r)
  | .region id ops draw, r => match frzAll id r.st r.orc with
    | some (st, os) => (evReg P id ops draw { r with st, orc := os }).map (.normal, ·)
    | none => none
  | .seq a b, r => match ev P a r with
    | some (.normal, r') => ev P b r'
    | x => x
  | .cond c x y, r => match evalO P r.st.t none 0 c with
    | some (.rb true) => ev P x r
    | some (.rb false) => ev P y r
    | some (.p (.bool b)) => match r.orc with
      | .br true :: os => ev P x { r with orc := os, obs := (b = true) :: r.obs }
      | .br false :: os => ev P y { r with orc := os, obs := (b = false) :: r.obs }
      | _ => none
    | _ => none
  | .block id c, r => match ev P c r with
    | some (.exit j, r') => if j == id then some (.normal, r') else some (.exit j, r')
    | x => x
  | .loop c, r => match r.orc with
    | .loop k e st' :: os => match e with
      | .normal => none
      | e => some (e, { st := st', orc := os, obs := LoopR P c (r.st.weak k) e st' :: r.obs })
    | _ => none
  | .scope c, r => ev P c r
  | .exit id, r => some (.exit id, r)
  | .ret, r => some (.ret, r)
  | _, _ => none

def allOf : List Prop → Prop
  | [] => True
  | p :: ps => p ∧ allOf ps

/-! Functions -/

def argsT : Nat → List T → List (Nat × V)
  | _, [] => []
  | i, t :: ts => (i, .p t) :: argsT (i + 1) ts

def resT (P : Program) (st : St) : List ResultVar → Option (List T)
  | [] => some []
  | r :: rs => match (match r with
      | .tmp x => (getT st.t x).bind V.toT
      | .cell x ty => match getT st.t x, tySz P ty, tyAg P ty with
        | some (.ptr id off), some n, some ag => match st.s[id]? with
          | some (.box v) => (V.at' v off n ag).bind V.toT
          | _ => none
        | _, _, _ => none), resT P st rs with
    | some t, some ts => some (t :: ts)
    | _, _ => none

/-- A function, on trees: what it gives, and what is owed for it. -/
def evF (P : Program) (fn : Func) (args : List T) (orc : List Orc) : Option (List T × List Prop) :=
  match fn.body with
  | some c => if (args.length == fn.params.size + fn.nfree) && Nat.ble args.length fn.ntmps then
      match ev P c { st := { n := fn.ntmps, t := argsT 0 args, s := [] }, orc, obs := [] } with
      | some (.normal, r) => match r.orc with | [] => (resT P r.st fn.results.toList).map fun ts => (ts, r.obs) | _ => none
      | some (.ret, r) => match r.orc with | [] => (resT P r.st fn.results.toList).map fun ts => (ts, r.obs) | _ => none
      | _ => none
    else none
  | none => none

/-- What is owed, where it comes out at 'rs'. -/
def Owes (P : Program) (fn : Func) (args : List T) (orc : List Orc) (rs : List T) (obs : List Prop) : Prop := evF P fn args orc = some (rs, obs)

end Go.HM
