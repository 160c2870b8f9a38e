/- HN, part F: which calls are made on trees: by the types of what they take and give. -/
import Derived.Test.YtaghnihkkofmnaaGreatHnE
namespace Go.HM

/-- A type whose values bear no place that may be written through. -/
def pureTy (P : Program) : Nat → TypeId → Bool
  | 0, _ => false
  | d + 1, t => match P.underlying t with
    | some .bool | some (.int _) | some (.float _) | some .string => true
    | some (.slice e) => pureTy P d e
    | some (.array _ e) => pureTy P d e
    | some (.struct fs) => fs.toList.all fun f => pureTy P d f.type
    | some (.tuple ts) => ts.toList.all fun t => pureTy P d t
    | _ => false

/-- A call of pure types: of a named function that is none of 'ex', or of a closure at one of the places 'cl'. -/
def pureCall (P : Program) (ex : List FuncId) (cl : List String) (bv : List (String × TypeId)) (o : Oper) : Bool := match o.op with
  | .call c => match c.callee with
    | .value (.func f) => !memN f ex && c.argTypes.toList.all (pureTy P 8) && pureTy P 8 o.type
    | .value (.tmp _) => match cl with
      | [] => false
      | cl => cl.any (fun s => decide (s = o.pos)) && c.argTypes.toList.all (pureTy P 8)
    | .builtin .len => match c.argTypes.toList with
      | [ty] => match P.underlying ty with
        | some (.map _ _) => true
        | _ => false
      | _ => false
    | _ => false
  | .convert src dst (.tmp _) => match P.underlying src, P.underlying dst with
    | some .string, some (.slice _) => true
    | _, _ => false
  | .buildSlice ty _ _ => match bv with
    | [] => false
    | bv => bv.any (fun s => Nat.beq s.2 ty && decide (s.1 = o.pos))
  | _ => false

/-- An append at one of some places: it makes an array that may be written. -/
def appAt (l : List String) (o : Oper) : Bool := match o.op with
  | .call c => match c.callee with
    | .builtin .append => l.any (fun p => decide (p = o.pos))
    | _ => false
  | _ => false

end Go.HM
