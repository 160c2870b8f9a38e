/- HM, part F: the evaluator: operations, regions, code. -/
import Derived.Test.YtaghnihkkofmnaaGreatHmE
namespace Go.HM

structure OpR where
  v : V
  s : List SObj
  obs : List Prop := []

/-- Where a part lies: its type, its place among the cells, its size. -/
def fieldPlaces (P : Program) : List Field → Option (List (TypeId × Nat × Nat))
  | [] => some []
  | f :: fs => match tySz P f.type, fieldPlaces P fs with | some n, some r => some ((f.type, f.offset, n) :: r) | _, _ => none

def setIdx : List V → Nat → Nat → V → Option (List V)
  | [], _, _, _ => none
  | v :: vs, 0, off, u => if off == 0 && (v.sz == u.sz) && (v.isAgg == u.isAgg) then some (u :: vs) else none
  | v :: vs, i + 1, off, u => if Nat.ble v.sz off then (setIdx vs i (off - v.sz) u).map (v :: ·) else none

def okPart : V → Bool
  | .tup _ | .wh _ _ _ | .bad => false
  | _ => true

def V.plain : V → V
  | .rb b => .p (.bool b)
  | v => v

def setParts (places : Nat → Option (TypeId × Nat × Nat)) (ev : TypeId → Operand → Option V) : List V → List (Nat × Operand) → Option (List V)
  | vs, [] => some vs
  | vs, (i, x) :: r => match places i with
    | some (ty, off, n) => match ev ty x with
      | some u => if okPart u && (u.plain.sz == n) then match setIdx vs i off u.plain with | some vs' => setParts places ev vs' r | none => none else none
      | none => none
    | none => none

def setBytes (ev : TypeId → Operand → Option V) (e : TypeId) : List Int → List (Nat × Operand) → Option (List Int)
  | bs, [] => some bs
  | bs, (i, x) :: r => match ev e x with
    | some (.p (.int .u8 b)) => if Nat.blt i bs.length then setBytes ev e (bs.set i b) r else none
    | _ => none

def buildV (P : Program) (t : TypeId) (ev : TypeId → Operand → Option V) (parts : List (Nat × Operand)) : Option V :=
  match zeroOf P t, P.underlying t with
  | some (.agg zs), some (.struct fs) => match fieldPlaces P fs.toList with
    | some pl => (setParts (pl[·]?) ev (zs.map .p) parts).map mkAgg
    | none => none
  | some (.agg zs), some (.array _ e) => match tySz P e with
    | some n => (setParts (fun i => some (e, i * n, n)) ev (zs.map .p) parts).map mkAgg
    | none => none
  | some (.ba n bs), some (.array _ e) => if tySz P e == some 1 then (setBytes ev e bs parts).map fun bs => .p (.ba n bs) else none
  | _, _ => none

def allBytes : List V → Option (List Int)
  | [] => some []
  | .p (.int .u8 b) :: vs => (allBytes vs).map (b :: ·)
  | _ :: _ => none

/-- The elements of a slice made in one: a tree. -/
def buildSl (P : Program) (t : TypeId) (len : Nat) (ev : TypeId → Operand → Option V) (parts : List (Nat × Operand)) : Option V :=
  match P.underlying t with
  | some (.slice e) => match zeroOf P e, tySz P e with
    | some z, some n =>
      if Nat.ble (len * n) 16777216 && (z.sz == n) && Nat.blt 0 n then
        match setParts (fun i => some (e, i * n, n)) ev (List.replicate len (.p z)) parts with
        | some vs => if isByte P e then (allBytes vs).map fun bs => .p (.bl true bs) else (V.toTs vs).map fun ts => .p (.lst true n ts)
        | none => none
      else none
    | _, _ => none
  | _ => none

def intNat : Int → Option Nat
  | .ofNat n => some n
  | .negSucc _ => none

/-- What a slice holds, as trees. -/
def T.elems : T → Option (List T)
  | .lst _ _ ts => some ts
  | .bl _ bs => some (bs.map (T.int .u8))
  | _ => none

def V.slice? : V → Option T
  | .p (.sl _ t) => some t
  | .p t => some t
  | .row _ _ (.lst x e ts) => some (.lst x e ts)
  | .row _ _ (.bl x bs) => some (.bl x bs)
  | _ => none

def T.len : T → Option Nat
  | .lst _ _ ts => some ts.length
  | .bl _ bs => some bs.length
  | _ => none

def appT (t u : T) : Option T := match t, u with
  | .lst _ e ts, .lst _ e' us => if e == e' then some (.lst false e (ts ++ us)) else none
  | .bl _ bs, .bl _ cs => some (.bl false (bs ++ cs))
  | _, _ => none

def kindB (n : Nat) : T → Bool
  | .lst _ e _ => e == n
  | .bl _ _ => n == 1
  | _ => false

/-- Are the numbers looked at here? -/
def decOf : Option Item → Bool
  | some (.res _) => true
  | _ => false

/-- append, of what is read. -/
def appU (P : Program) (s : List SObj) (e : TypeId) (dec : Bool) (x : V) (u : T) : Option OpR :=
  match tySz P e, P.info? e with
  | some n, some i =>
    if Nat.ble i.bytes 4096 && (zeroOf P e).isSome && Nat.blt 0 n then
      match x with
      | .row id ver t => match s[id]?, appT t u, t.len, u.len with
        | some (.row cur n'), some t', some a, some b => if ver == cur && (n == n') && kindB n t && (!dec || Nat.ble (a + b) 4294967296) then some ⟨.row id (cur + 1) t', s.set id (.row (cur + 1) n), if dec then [] else [a + b ≤ 4294967296 ∨ (a + b ≤ 9223372036854775807 ∧ (a + b) * i.bytes ≤ 140737488355328)]⟩ else none
        | _, _, _, _ => none
      | .p (.lst true n' ts) => if (n == n') then match appT (.lst true n' ts) u, u.len with
        | some t', some b => if !dec || Nat.ble (ts.length + b) 4294967296 then some ⟨.row s.length 0 t', s ++ [.row 0 n], if dec then [] else [ts.length + b ≤ 4294967296 ∨ (ts.length + b ≤ 9223372036854775807 ∧ (ts.length + b) * i.bytes ≤ 140737488355328)]⟩ else none
        | _, _ => none
        else none
      | .p (.bl true bs) => match appT (.bl true bs) u, u.len with
        | some t', some b => if (n == 1) && (!dec || Nat.ble (bs.length + b) 4294967296) then some ⟨.row s.length 0 t', s ++ [.row 0 1], if dec then [] else [bs.length + b ≤ 4294967296]⟩ else none
        | _, _ => none
      | _ => none
    else none
  | _, _ => none

/-- append onto a view that is full. -/
def appW (P : Program) (s : List SObj) (e : TypeId) (dec : Bool) (id off n : Nat) (u : T) : Option OpR :=
  match P.info? e, s[id]? with
  | some i, some (.box v) => match v.toT, u with
    | some (.ba m bs), .bl _ (c :: cs) => if Nat.ble i.bytes 4096 && (zeroOf P e).isSome && (tySz P e == some 1) && Nat.ble (off + n) m && (!dec || Nat.ble (n + (cs.length + 1)) 4294967296) then
        some ⟨.row s.length 0 (.bl false ((bs.drop off).take n ++ (c :: cs))), s ++ [.row 0 1], if dec then [] else [n + (cs.length + 1) ≤ 4294967296]⟩ else none
    | _, _ => none
  | _, _ => none

/-- append -/
def appV (P : Program) (s : List SObj) (e : TypeId) (dec : Bool) (x y : V) : Option OpR := match y.slice? with
  | some u => appU P s e dec x u
  | none => none

def pickV (c : Operand) (cv : V) (a b : Option V) (ta tb : Option V) : Option V :=
  match cv with
  | .rb true => a
  | .rb false => b
  | .p (.bool x) => match ta, tb with
    | some (.rb true), some (.p (.bool y)) => some (.p (.bool (x || y)))
    | some (.p (.bool y)), some (.rb false) => some (.p (.bool (x && y)))
    | some (.p (.bool y)), some (.p (.bool z)) => some (.p (.bool (cond x y z)))
    | some (.rb y), some (.p (.bool z)) => some (.p (.bool (cond x y z)))
    | some (.p (.bool y)), some (.rb z) => some (.p (.bool (cond x y z)))
    | some (.rb y), some (.rb z) => some (.p (.bool (cond x y z)))
    | _, _ => none
  | _ => none

def tmpOf : Operand → Option Nat
  | .tmp x => some x
  | _ => none

def scOf : Option V → Value
  | some v => v.sc.getD undef
  | none => undef

/-- The worldless operations on scalars. -/
def scOp (P : Program) (ρ : Operand → Option V) (o : Oper) : Option V :=
  match calm P (execOp (fun x => scOf (ρ x)) o) with
  | some (.value r) => (scT r).map .p
  | _ => none

def scalarOperands (ρ : Operand → Option V) : List Operand → Bool
  | [] => true
  | x :: xs => (match ρ x with | some v => v.sc.isSome | none => false) && scalarOperands ρ xs

/-! Maps, parts of slices, made slices -/

def findT (k : T) : List (T × T) → Nat → Option (Nat × T)
  | [], _ => none
  | (a, v) :: r, i => if T.eqB k a then some (i, v) else findT k r (i + 1)

def keysOk (P : Program) (kt : TypeId) : List (T × T) → Bool
  | [] => true
  | (a, _) :: r => fits P 10 kt a && keysOk P kt r

def setEnt : List (T × T) → Nat → T → T → List (T × T)
  | [], _, _, _ => []
  | _ :: r, 0, k, v => (k, v) :: r
  | e :: r, i + 1, k, v => e :: setEnt r i k v

/-- A bound of a slice: what is not said, or a number. -/
def bndOf (ev : Operand → Option V) : Option Operand → Option (Option Nat)
  | none => some none
  | some x => match ev x with
    | some (.p (.int _ i)) => (intNat i).map some
    | _ => none

def bndM (m : Option Nat) (h n : Nat) : Bool := match m with | some k => Nat.ble h k && Nat.ble k n | none => true
def cutX (m : Option Nat) (x : Bool) (h n : Nat) : Bool := match m with | some k => k == h | none => x && (h == n)

def bnds (ev : Operand → Option V) (n : Nat) (lo hi mx : Option Operand) : Option (Nat × Nat × Option Nat) :=
  match bndOf ev lo, bndOf ev hi, bndOf ev mx with
  | some l, some h, some m => if (mx.isNone || hi.isSome) && Nat.ble (l.getD 0) (h.getD n) && Nat.ble (h.getD n) n && bndM m (h.getD n) n then some (l.getD 0, h.getD n, m) else none
  | _, _, _ => none

def cutT : T → Nat × Nat × Option Nat → Option T
  | .bl x bs, (l, h, m) => some (.bl (cutX m x h bs.length) ((bs.take h).drop l))
  | .lst x e ts, (l, h, m) => some (.lst (cutX m x h ts.length) e ((ts.take h).drop l))
  | _, _ => none

/-- A map looked into. -/
def lookV (P : Program) (kt vt : TypeId) (ok : Bool) (k : T) (es : List (T × T)) : Option V :=
  if fits P 10 kt k && keysOk P kt es then match zeroOf P vt with
    | some z => match findT k es 0 with
      | some (_, v) => some (if ok then .tup [.p v, .rb true] else .p v)
      | none => some (if ok then .tup [.p z, .rb false] else .p z)
    | none => none
  else none

def putM (P : Program) (kt : TypeId) (k v : T) (es : List (T × T)) : Option (List (T × T)) :=
  if fits P 10 kt k && keysOk P kt es then match findT k es 0 with
    | some (i, _) => some (setEnt es i k v)
    | none => some (es ++ [(k, v)])
  else none

/-- Are there parts, each a constant? -/
def constParts : List (Nat × Operand) → Bool
  | [] => false
  | [(_, .const _)] => true
  | (_, .const _) :: r => constParts r
  | _ => false

/-- What an operation does to the store: 0 nothing, 1 it looks, 2 it writes or makes. -/
def touch (op : Op) : Nat := match op with
  | .move _ | .assign _ | .pick _ _ _ | .build _ _ | .nilCheck _ | .fieldAddr _ _ _ | .indexAddr _ _ _ | .field _ _ _ | .extract _ _ | .makeFunc _ _ _ | .binOp _ _ _ _ _ | .unOp _ _ _ => 0
  | .buildSlice _ _ parts => if constParts parts.toList then 2 else 0
  | .convert src dst x => match x with | .const (.string _) => 2 | _ => if Nat.beq src dst then 2 else 0
  | .index _ _ _ | .slice _ _ _ _ _ | .sliceToArrayPointer _ _ => 0
  | .load _ _ => 1
  | .lookup _ _ _ _ => 1
  | .call c => match c.callee with | .value _ => 0 | .builtin .len => 0 | .builtin .max => 0 | .builtin .min => 0 | _ => 2
  | _ => 2

/-- More operations. -/
def hop1 (P : Program) (t : List (Nat × V)) (s : List SObj) (g : Option (Nat × Bool)) (o : Oper) (it : Option Item) : Option OpR :=
  let ev := evalO P t g
  match o.op with
  | .index ty x ix => match P.underlying ty, ev ty x, ev 0 ix with
    | some (.array len e), some xv, some (.p (.int _ i)) => match intNat i, tySz P e, tyAg P e with
      | some j, some n, some ag => if Nat.blt j len && xv.isAgg then (V.at' xv (j * n) n ag).map fun v => ⟨v, s, []⟩ else none
      | _, _, _ => none
    | some .string, some (.p (.str b)), some (.p (.int _ i)) => match intNat i with
      | some j => match b[j]? with | some c => some ⟨.p (.int .u8 c.toNat), s, []⟩ | none => none
      | none => none
    | _, _, _ => none
  | .makeMap _ r => match r with
    | none => some ⟨.map s.length, s ++ [.map []], []⟩
    | some _ => none
  | .lookup ty x k ok => match P.underlying ty, ev ty x with
    | some (.map kt vt), some xv => match (ev kt k).bind V.toT with
      | some kk => match xv with
        | .map id => match s[id]? with
          | some (.map es) => (lookV P kt vt ok kk es).map fun v => ⟨v, s, []⟩
          | _ => none
        | .p .nilM => (lookV P kt vt ok kk []).map fun v => ⟨v, s, []⟩
        | _ => none
      | none => none
    | _, _ => none
  | .mapUpdate ty x k v | .insert ty x k v => match P.underlying ty, ev ty x with
    | some (.map kt vt), some (.map id) => match (ev kt k).bind V.toT, (ev vt v).bind V.toT, s[id]? with
      | some kk, some vv, some (.map es) => (putM P kt kk vv es).map fun es' => ⟨.bad, s.set id (.map es'), []⟩
      | _, _, _ => none
    | _, _ => none
  | .slice ty x lo hi mx => match P.underlying ty, ev ty x with
    | some (.slice e), some xv => match xv.slice? with
      | some u => match u.len, tySz P e with
        | some n, some sz => if kindB sz u then match bnds (ev 0) n lo hi mx with
          | some b => (cutT u b).map fun t => ⟨.p t, s, []⟩
          | none => none
          else none
        | _, _ => none
      | none => none
    | some (.array len e), some (.p (.rp u off)) => match tySz P e, bnds (ev 0) len lo hi mx with
      | some n, some (l, h, m) => if Nat.blt l h && ((m.getD len) == h) then match (T.at' u off (len * n) true).map (fun sub => viewT sub (l * n) (h - l)) with
        | some (.p (.bl x bs)) => some ⟨.p (.bl x bs), s, []⟩
        | some (.p (.lst x e' ts)) => some ⟨.p (.lst x e' ts), s, []⟩
        | _ => none
        else none
      | _, _ => none
    | some (.array len e), some (.ptr id off) => match tySz P e, bnds (ev 0) len lo hi mx with
      | some n, some (l, h, m) => if Nat.blt l h && ((m.getD len) == h) then some ⟨.view id (off + l * n) (h - l), s, []⟩ else
        if (l == h) && !((m.getD len) == l) then match zeroOf P e with
          | some (.int .u8 _) => some ⟨.p (.bl false []), s, []⟩
          | some z => some ⟨.p (.lst false z.sz []), s, []⟩
          | none => none
        else none
      | _, _ => none
    | _, _ => none
  | _ => none

/-- ONE OPERATION (a call of a function aside). -/
def hop0 (P : Program) (t : List (Nat × V)) (s : List SObj) (g : Option (Nat × Bool)) (o : Oper) (it : Option Item) : Option OpR :=
  let ev := evalO P t g
  let pure (v : Option V) : Option OpR := v.map fun v => ⟨v, s, []⟩
  match o.op with
  | .move x | .assign x => pure (ev o.type x)
  | .pick c a b => match ev o.type c, tmpOf c with
    | some cv, some d => pure (pickV c cv (evalO P t g o.type a) (evalO P t g o.type b) (evalO P t (some (d, true)) o.type a) (evalO P t (some (d, false)) o.type b))
    | _, _ => none
  | .alloc e => (zeroOf P e).map fun z => ⟨.ptr s.length 0, s ++ [.box (.p z)], []⟩
  | .box e x => match ev e x with
    | some v => if okPart v then some ⟨.ptr s.length 0, s ++ [.box v.plain], []⟩ else none
    | none => none
  | .build ty parts => pure (buildV P ty ev parts.toList)
  | .buildSlice ty len parts => match buildSl P ty len ev parts.toList with
    | some (.p (.bl x bs)) => if constParts parts.toList then some ⟨.view s.length 0 bs.length, s ++ [.box (.p (.ba bs.length bs))], []⟩ else some ⟨.p (.bl x bs), s, []⟩
    | some v => some ⟨v, s, []⟩
    | none => none
  | .load ty a => match ev 0 a, tySz P ty, tyAg P ty with
    | some (.ptr id off), some n, some ag => match s[id]? with
      | some (.box v) => pure (V.at' v off n ag)
      | _ => none
    | some (.p (.rp u off)), some n, some ag => pure ((T.at' u off n ag).map .p)
    | _, _, _ => none
  | .store ty a x => match ev 0 a, ev ty x with
    | some (.ptr id off), some u => match s[id]? with
      | some (.box v) => if okPart u && (tySz P ty == some u.plain.sz) then match V.set' 12 v off u.plain with
        | some v' => some ⟨.bad, s.set id (.box v'), []⟩
        | none => none
        else none
      | _ => none
    | _, _ => none
  | .nilCheck x => match ev o.type x with
    | some (.ptr id off) => some ⟨.ptr id off, s, []⟩
    | some (.p (.rp u off)) => some ⟨.p (.rp u off), s, []⟩
    | some (.p (.clo f c)) => some ⟨.p (.clo f c), s, []⟩
    | some (.clo f c) => some ⟨.clo f c, s, []⟩
    | _ => none
  | .fieldAddr ty x f => match P.underlying ty, ev 0 x with
    | some (.struct fs), some v => match fs[f]? with
      | some fd => match tySz P fd.type, v with
        | some (_ + 1), .ptr id off => some ⟨.ptr id (off + fd.offset), s, []⟩
        | some (_ + 1), .p (.rp u off) => some ⟨.p (.rp u (off + fd.offset)), s, []⟩
        | _, _ => none
      | none => none
    | _, _ => none
  | .indexAddr ty x ix => match P.underlying ty, ev ty x, ev 0 ix with
    | some (.slice e), some xv, some (.p (.int _ i)) => match xv.slice?.bind T.elems, tySz P e with
      | some ts, some (n + 1) => match it with
        | some (.el u) => if u.sz == n + 1 then some ⟨.p (.rp u 0), s, [0 ≤ i ∧ ts[i.toNat]? = some u]⟩ else none
        | _ => match (intNat i).bind (ts[·]?) with
          | some u => if u.sz == n + 1 then some ⟨.p (.rp u 0), s, []⟩ else none
          | none => none
      | _, _ => none
    | some (.array len e), some xv, some (.p (.int _ i)) => match intNat i, tySz P e, xv with
      | some j, some (n + 1), .ptr id off => if Nat.blt j len then some ⟨.ptr id (off + j * (n + 1)), s, []⟩ else none
      | some j, some (n + 1), .p (.rp u off) => if Nat.blt j len then some ⟨.p (.rp u (off + j * (n + 1))), s, []⟩ else none
      | _, _, _ => none
    | _, _, _ => none
  | .field ty x f => match P.underlying ty, ev ty x with
    | some (.struct fs), some v => match fs[f]? with
      | some fd => match tySz P fd.type, tyAg P fd.type with
        | some n, some ag => if v.isAgg then pure (V.at' v fd.offset n ag) else none
        | _, _ => none
      | none => none
    | _, _ => none
  | .extract x i => match ev 0 x with
    | some (.tup vs) => pure (vs[i]?)
    | _ => none
  | .makeFunc (.func f) first caps => if first.isEmpty then match evalOs P t g [] caps.toList with
      | some vs => if vs.all fun v => okPart v && !v.isAgg then some ⟨.clo f vs, s, []⟩ else none
      | none => none
    else none
  | .binOp op xT x y _ => match ev xT x, ev xT y with
    | some xv, some yv => match xv.toT, yv.toT, op with
      | some (.agg a), some (.agg b), .eql => if fits P 10 xT (.agg a) && fits P 10 xT (.agg b) && !P.eqGuardType P.depth xT then pure (some (.p (.bool (T.eqB (.agg a) (.agg b))))) else none
      | some (.agg a), some (.agg b), .neq => if fits P 10 xT (.agg a) && fits P 10 xT (.agg b) && !P.eqGuardType P.depth xT then pure (some (.p (.bool (!T.eqB (.agg a) (.agg b))))) else none
      | some (.ba m a), some (.ba n b), .eql => if fits P 10 xT (.ba m a) && fits P 10 xT (.ba n b) && !P.eqGuardType P.depth xT then pure (some (.p (.bool (a == b)))) else none
      | some (.ba m a), some (.ba n b), .neq => if fits P 10 xT (.ba m a) && fits P 10 xT (.ba n b) && !P.eqGuardType P.depth xT then pure (some (.p (.bool (!(a == b))))) else none
      | _, _, _ => if xv.sc.isSome && yv.sc.isSome then pure (scOp P (ev xT) o) else none
    | _, _ => none
  | .unOp op ty x => match ev ty x with
    | some (.rb b) => match op with | .not => some ⟨.rb (!b), s, []⟩ | _ => none
    | some xv => if xv.sc.isSome then pure (scOp P (ev ty) o) else none
    | none => none
  | .convert src dst x => match ev src x with
    | some xv => if xv.sc.isSome then pure (scOp P (ev src) o) else none
    | none => none
  | .call c => match c.callee with
    | .builtin .len => match c.args.toList, c.argTypes.toList with
      | [x], [ty] => match P.underlying ty, ev ty x with
        | some (.slice _), some xv => match xv.slice?.bind T.len with
          | some n => some ⟨.p (.int .i64 n), s, []⟩
          | none => none
        | some (.array n _), some _ => some ⟨.p (.int .i64 n), s, []⟩
        | some .string, some xv => if xv.sc.isSome then pure (scOp P (ev ty) o) else none
        | _, _ => none
      | _, _ => none
    | .builtin .append => match c.args.toList, c.argTypes.toList with
      | [x, y], [tx, ty] => match P.underlying tx, P.underlying ty, ev tx x, ev ty y with
        | some (.slice e), some (.slice _), some xv, some yv => if tx == ty then appV P s e (decOf it) xv yv else none
        | _, _, _, _ => none
      | _, _ => none
    | .builtin .max | .builtin .min => if scalarOperands (ev o.type) c.args.toList then pure (scOp P (ev o.type) o) else none
    | _ => none
  | _ => hop1 P t s g o it

/-- The zeros of a made slice. -/
def zerosT (z : T) (n : Nat) : T := match z with
  | .int .u8 _ => .ba n (List.replicate n 0)
  | z => .agg (List.replicate n z)
def zerosS (z : T) (n : Nat) (x : Bool) : T := match z with
  | .int .u8 _ => .bl x (List.replicate n 0)
  | z => .lst x z.sz (List.replicate n z)

def bytesOf (b : ByteArray) : List Int := b.data.toList.map fun c => (c.toNat : Int)

/-- Is it nil? -/
def nilPtr : V → Option Bool
  | .ptr _ _ => some false
  | .p (.rp _ _) => some false
  | .p .nilP => some true
  | _ => none
def nilMap : V → Option Bool
  | .map _ => some false
  | .p .nilM => some true
  | _ => none
def nilSl : V → Option Bool
  | .view _ _ _ => some false
  | .row _ _ (.lst _ _ (_ :: _)) => some false
  | .row _ _ (.bl _ (_ :: _)) => some false
  | .p (.sl b _) => some b
  | .p (.lst _ _ (_ :: _)) => some false
  | .p (.bl _ (_ :: _)) => some false
  | _ => none

def nilFn : V → Option Bool
  | .clo _ _ => some false
  | .p (.clo _ _) => some false
  | .p .nilF => some true
  | _ => none

def nilK (P : Program) (t : TypeId) (y : Value) (v : V) : Option Bool := match P.underlying t, y with
  | some (.func _ _ _), .nilFunc => nilFn v
  | some (.pointer _), .pointer none => nilPtr v
  | some (.map _ _), .map none => nilMap v
  | some (.slice _), .slice none 0 0 => nilSl v
  | _, _ => none

/-- The bytes of a slice, now. -/
def srcB (s : List SObj) (n : Nat) : V → Option T
  | .view id off k => match s[id]? with
    | some (.box v) => match v.toT with
      | some (.ba m bs) => if Nat.ble (off + k) m then some (.bl true ((bs.drop off).take k)) else none
      | some (.agg ts) => if (off / n * n == off) && Nat.ble (off / n + k) ts.length && ts.all (fun t => t.sz == n) then some (.lst true n ((ts.drop (off / n)).take k)) else none
      | _ => none
    | _ => none
  | y => y.slice?

/-- Still more: views, made slices, strings' bytes, nil. -/
def hop2 (P : Program) (t : List (Nat × V)) (s : List SObj) (g : Option (Nat × Bool)) (o : Oper) (it : Option Item) : Option OpR :=
  let ev := evalO P t g
  match o.op with
  | .binOp op xT x (.const y) _ => match (ev xT x).bind (nilK P xT y) with
    | some b => match op with
      | .eql => some ⟨.rb b, s, []⟩
      | .neq => some ⟨.rb !b, s, []⟩
      | _ => none
    | none => none
  | .indexAddr ty x ix => match P.underlying ty, ev ty x, ev 0 ix with
    | some (.slice e), some (.view id off m), some (.p (.int _ i)) => match intNat i, tySz P e with
      | some j, some (n + 1) => if Nat.blt j m then some ⟨.ptr id (off + j * (n + 1)), s, []⟩ else none
      | _, _ => none
    | _, _, _ => none
  | .load ty a => match ev 0 a, tySz P ty, tyAg P ty with
    | some (.ptr id off), some n, some true => match s[id]? with
      | some (.box v) => (v.toT.bind fun u => T.seg u off n).map fun u => ⟨.p u, s, []⟩
      | _ => none
    | _, _, _ => none
  | .sliceToArrayPointer ty x => match P.underlying ty, ev 0 x with
    | some (.array len _), some (.view id off n) => if Nat.ble len n then some ⟨.ptr id off, s, []⟩ else none
    | _, _ => none
  | .makeSlice ty l c => match P.underlying ty, ev 0 l, ev 0 c with
    | some (.slice e), some (.p (.int _ li)), some (.p (.int _ ci)) => match intNat li, intNat ci, zeroOf P e, P.info? e with
      | some ln, some cn, some z, some i => if Nat.ble ln cn && Nat.ble (i.bytes * cn) 281474976710656 && Nat.ble cn 9223372036854775807 && Nat.blt 0 z.sz && (z.sz == i.size) then
          if ln == cn then match it with
            | some (.res true) => some ⟨.p (zerosS z cn true), s, []⟩
            | _ => some ⟨.view s.length 0 cn, s ++ [.box (.p (zerosT z cn))], []⟩
          else some ⟨.row s.length 0 (zerosS z ln false), s ++ [.row 0 z.sz], []⟩
        else none
      | _, _, _, _ => none
    | _, _, _ => none
  | .convert src dst x => match P.underlying src, P.underlying dst, x with
    | some .string, some (.slice e), .const (.string b) => if isByte P e then some ⟨.row s.length 0 (.bl false (bytesOf b)), s ++ [.row 0 1], []⟩ else none
    | some (.slice _), some (.slice e), .tmp y => if isByte P e && Nat.beq src dst then match ev src (.tmp y) with
        | some (.view id off n) => some ⟨.view id off n, s, []⟩
        | _ => none
      else none
    | _, _, _ => none
  | .call c => match c.callee with
    | .builtin .len => match c.args.toList, c.argTypes.toList with
      | [x], [ty] => match P.underlying ty, ev ty x with
        | some (.slice _), some (.view _ _ n) => some ⟨.p (.int .i64 n), s, []⟩
        | _, _ => none
      | _, _ => none
    | .builtin .append => match c.args.toList, c.argTypes.toList with
      | [x, y], [tx, ty] => match P.underlying tx, P.underlying ty, ev tx x, ev ty y with
        | some (.slice e), some .string, some xv, some (.p (.str b)) => if isByte P e && (tySz P e == some 1) then appU P s e (decOf it) xv (.bl true (bytesOf b)) else none
        | some (.slice e), some (.slice _), some xv, some yv => if tx == ty then match srcB s ((tySz P e).getD 0) yv with
            | some u => match xv with
              | .view id off n => appW P s e (decOf it) id off n u
              | xv => appU P s e (decOf it) xv u
            | none => none
            else none
        | _, _, _, _ => none
      | _, _ => none
    | _ => none
  | _ => none

/-- How many entries a map has. -/
def lenMap (P : Program) (t : List (Nat × V)) (s : List SObj) (o : Oper) : Option OpR := match o.op with
  | .call c => match c.callee with
    | .builtin .len => match c.args.toList, c.argTypes.toList with
      | [x], [ty] => match P.underlying ty, evalO P t none ty x with
        | some (.map _ _), some (.map id) => match s[id]? with
          | some (.map es) => some ⟨.p (.int .i64 es.length), s, []⟩
          | _ => none
        | some (.map _ _), some (.p .nilM) => some ⟨.p (.int .i64 0), s, []⟩
        | _, _ => none
      | _, _ => none
    | _ => none
  | _ => none

/-- A slice made in one that will be written: a box, and a view of it. -/
def buildBx0 (P : Program) (t : List (Nat × V)) (s : List SObj) (o : Oper) : Option OpR := match o.op with
  | .buildSlice ty len parts => match P.underlying ty with
    | some (.slice e) => match zeroOf P e, tySz P e with
      | some z, some n =>
        if Nat.ble (len * n) 16777216 && (z.sz == n) && Nat.blt 0 n && Nat.blt 0 len then
          match setParts (fun i => some (e, i * n, n)) (fun ty x => evalO P t none ty x) (List.replicate len (.p z)) parts.toList with
          | some vs => some ⟨.view s.length 0 len, s ++ [.box (.agg vs)], []⟩
          | none => none
        else none
      | _, _ => none
    | _ => none
  | _ => none

/-- A string's bytes. -/
def strBx (P : Program) (t : List (Nat × V)) (s : List SObj) (o : Oper) : Option OpR := match o.op with
  | .convert src dst x => match P.underlying src, P.underlying dst, evalO P t none src x with
    | some .string, some (.slice e), some (.p (.str b)) => if isByte P e then some ⟨.row s.length 0 (.bl false (bytesOf b)), s ++ [.row 0 1], []⟩ else none
    | _, _, _ => none
  | _ => none

/-- What is made so, or a map's length, or a string's bytes. -/
def buildBx (P : Program) (t : List (Nat × V)) (s : List SObj) (o : Oper) : Option OpR := match buildBx0 P t s o with
  | some q => some q
  | none => match lenMap P t s o with
    | some q => some q
    | none => strBx P t s o

def isBS (o : Oper) : Bool := match o.op with
  | .buildSlice _ _ _ => true
  | .convert _ _ _ => true
  | .call c => match c.callee with
    | .builtin .len => true
    | _ => false
  | _ => false

def hopA (P : Program) (t : List (Nat × V)) (s : List SObj) (g : Option (Nat × Bool)) (o : Oper) (it : Option Item) : Option OpR :=
  match hop0 P t s g o it with
  | some q => some q
  | none => hop2 P t s g o it

/-- One operation; what does not touch the store is not shown it. -/
def hop (P : Program) (t : List (Nat × V)) (s : List SObj) (g : Option (Nat × Bool)) (o : Oper) (it : Option Item) : Option OpR :=
  match touch o.op with
  | 0 => match hopA P t [] g o it with | some q => some ⟨q.v, s, q.obs⟩ | none => none
  | _ => hopA P t s g o it

/-- A call of a function, on trees: who is called, with what. -/
def callee (P : Program) (t : List (Nat × V)) (g : Option (Nat × Bool)) (o : Oper) : Option (FuncId × List T) :=
  match o.op with
  | .call c => match c.callee with
    | .value f => match evalO P t g 0 f, evalOs P t g c.argTypes.toList c.args.toList with
      | some fv, some vs => match fv.toT, V.toTs vs with
        | some (.clo f caps), some ts => some (f, ts ++ caps)
        | _, _ => none
      | _, _ => none
    | _ => none
  | _ => none

def tupOf : List T → V
  | [t] => .p t
  | ts => .tup (ts.map .p)

def isCall (o : Oper) : Bool := match o.op with
  | .call c => match c.callee with | .value _ => true | _ => false
  | _ => false

/-- One operation or one call. -/
def hopC (P : Program) (t : List (Nat × V)) (s : List SObj) (g : Option (Nat × Bool)) (o : Oper) (it : Option Item) : Option OpR :=
  if isCall o then match it, callee P t g o with
    | some (.call rs), some (f, ts) => some ⟨tupOf rs, s, [PCall P f ts rs]⟩
    | _, _ => none
  else hop P t s g o it

def setDst (st : St) (d : Option Nat) (v : V) : Option St := match d with
  | none => some st
  | some d => if Nat.blt d st.n then some { st with t := setT (dropW st.t d) d v } else none

/-- The next told thing, if it is of this operation. -/
def nextItem (rid idx : Nat) : List Orc → Option Item × List Orc
  | .op r i it :: os => if (r == rid) && (i == idx) then (some it, os) else (none, .op r i it :: os)
  | os => (none, os)

structure Run where
  st : St
  orc : List Orc
  obs : List Prop

/-- A bool may be told. -/
def resolve1 (rid idx : Nat) (v : V) (orc : List Orc) (obs : List Prop) : Option (V × List Orc × List Prop) :=
  match nextItem rid idx orc with
  | (some (.res d), os) => match v with
    | .p (.bool b) => some (.rb d, os, (b = d) :: obs)
    | .rb b => some (.rb b, os, obs)
    | _ => none
  | (_, os) => some (v, orc, obs)

inductive Guard where
  | run (g : Option (Nat × Bool))   -- done; under this guard, undecided
  | skip

def guardOf (ops : Array Oper) (t : List (Nat × V)) (o : Oper) : Option Guard := match o.guard with
  | none => some (.run none)
  | some (j, want) => match (ops[j]?).bind (·.dst) with
    | some d => match getT t d with
      | some (.rb b) => if b == want then some (.run none) else some .skip
      | some (.p (.bool _)) => some (.run (some (d, want)))
      | some (.tup []) => some .skip
      | _ => none
    | none => none

def isWh : V → Bool
  | .wh _ _ _ => true
  | _ => false

def stepOp (P : Program) (rid : Nat) (ops : Array Oper) (i : Nat) (r : Run) : Option Run :=
  match ops[i]? with
  | none => none
  | some o => match guardOf ops r.st.t o with
    | some .skip => (setDst r.st o.dst (.tup [])).map fun st => { r with st }
    | some (.run none) =>
      match nextItem rid i r.orc with
      | (it, os) =>
        match (match it with | some (.res _) => hopC P r.st.t r.st.s none o none | it => hopC P r.st.t r.st.s none o it) with
        | some q => match (match it with | some (.res _) => resolve1 rid i q.v r.orc (q.obs ++ r.obs) | _ => resolve1 rid i q.v os (q.obs ++ r.obs)) with
          | some (v, os', obs') => if isWh v then none else match setDst { r.st with s := q.s } o.dst v with
            | some st => some ⟨st, os', obs'⟩
            | none => none
          | none => none
        | none => none
    | some (.run (some (d, want))) => match hop P r.st.t r.st.s (some (d, want)) o none, o.dst with
      | some ⟨v, _, []⟩, some x => if okPart v && Nat.blt (touch o.op) 2 then (setDst r.st (some x) (.wh d want v)).map fun st => { r with st } else none
      | _, _ => none
    | none => none

def evOps (P : Program) (rid : Nat) (ops : Array Oper) : List Nat → Run → Option Run
  | [], r => some r
  | i :: is, r => match stepOp P rid ops i r with
    | some r' => evOps P rid ops is r'
    | none => none

end Go.HM
