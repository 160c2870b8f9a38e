/- DEAL, part A: the data and what the functions compute. -/
import Derived.Test.YtbipkkebonohjaaHmZ
set_option maxRecDepth 100000
namespace Go.HM.Deal

def i64 (n : Int) : T := .int .i64 n
structure Ref where
  Tx : List Int
  Out : Int
structure Terms where
  Channel : Int
  A : Int
  B : Int
  Fund : Ref
  StartA : Int
  StartB : Int
  Delay : Int
  Fee : Int
  Reserve : Int
  Slots : Int
  Flight : Int
structure Htlc where
  By : Int
  Id : Int
  Amount : Int
  Hash : List Int
  Expiry : Int
structure View where
  A : Int
  B : Int
  Htlcs : List Htlc
structure Path where
  A : Int
  B : Int
  Two : Bool
  Height : Int
  Delay : Int
  Hash : List Int
structure Out where
  Amount : Int
  X : Bool
  Paths : List Path
def Ref.t (r : Ref) : T := .agg [.ba 32 r.Tx, i64 r.Out]
def Terms.t (x : Terms) : T := .agg [i64 x.Channel, i64 x.A, i64 x.B, x.Fund.t, i64 x.StartA, i64 x.StartB, i64 x.Delay, i64 x.Fee, i64 x.Reserve, i64 x.Slots, i64 x.Flight]
def Htlc.t (h : Htlc) : T := .agg [i64 h.By, i64 h.Id, i64 h.Amount, .ba 32 h.Hash, i64 h.Expiry]
def View.t (f : Bool) (v : View) : T := .agg [i64 v.A, i64 v.B, .lst f 36 (v.Htlcs.map Htlc.t)]
def Path.t (p : Path) : T := .agg [i64 p.A, i64 p.B, .bool p.Two, i64 p.Height, i64 p.Delay, .ba 32 p.Hash]
def Out.t (o : Out) : T := .agg [i64 o.Amount, .lst o.X 37 (o.Paths.map Path.t)]

def within (n l m : Int) : Bool := decide (n ≥ l) && decide (n ≤ m)
def big : Int := 9223372036854775807
/-- amount.Add -/
def add (a b : Int) : Int × Int := bif (decide (a < 0) || decide (b < 0)) then (0, 1) else bif decide (a > IntKind.i64.wrap (9223372036854775807 - b)) then (0, 20) else (IntKind.i64.wrap (a + b), 0)
/-- amount.Sum -/
def sumGo : List Int → Int → Int × Int
  | [], s => (s, 0)
  | x :: l, s => bif !((add s x).2 == 0) then (0, (add s x).2) else sumGo l (add s x).1
def sum (l : List Int) : Int × Int := bif l.any (fun x => decide (x < 0)) then (0, 1) else sumGo l 0
def other (t : Terms) (n : Int) : Int := bif n == t.A then t.B else bif n == t.B then t.A else -1
def cmpI (a b : Int) : Int := bif decide (a < b) then -1 else bif decide (a > b) then 1 else 0
def orInt : List Int → Int
  | [] => 0
  | x :: l => bif !(x == 0) then x else orInt l
def order (a b : Htlc) : Int := orInt [cmpI a.By b.By, cmpI a.Id b.Id]
def lsI (f : Bool) (l : List Int) : T := .lst f 1 (l.map i64)
/-- amount.Sum, first loop -/
def sumS (f : Bool) (l : List Int) (r e : Int) (i : Int) : St := { n := 38, t := [(0, .p (lsI f l)), (2, .p (i64 r)), (3, .p (i64 e)), (11, .p (lsI f l)), (12, .p (i64 (l.map i64).length)), (13, .p (i64 i))], s := [] }
def sumK : Keep := ⟨[0, 2, 3, 11, 12, 13], 0, []⟩
/-- its second -/
def sumS2 (f : Bool) (l : List Int) (r e s i : Int) : St := { n := 38, t := [(2, .p (i64 r)), (3, .p (i64 e)), (6, .p (i64 s)), (20, .p (lsI f l)), (21, .p (i64 (l.map i64).length)), (22, .p (i64 i))], s := [] }
def sumK2 : Keep := ⟨[2, 3, 6, 20, 21, 22], 0, []⟩
def orS (f : Bool) (l : List Int) (r i : Int) : St := { n := 18, t := [(2, .p (i64 r)), (3, .p (i64 0)), (6, .p (lsI f l)), (7, .p (i64 (l.map i64).length)), (8, .p (i64 i))], s := [] }
def orK : Keep := ⟨[2, 3, 6, 7, 8], 0, []⟩
def zeros : List Int := [0, 0, 0, 0, 0, 0, 0, 0, 0, 0, 0, 0, 0, 0, 0, 0, 0, 0, 0, 0, 0, 0, 0, 0, 0, 0, 0, 0, 0, 0, 0, 0]
def may (t : Terms) : Bool :=
  bif (!within t.Channel 1 65535 || decide (t.A < 0) || decide (t.A ≥ t.B) || decide (t.B ≥ 8) || decide (t.Fund.Out < 0)) then false else
  bif !within t.Delay 1 1000 then false else bif !within t.Slots 1 16 then false else
  bif (sum [t.Fee, t.Reserve]).2 == 1 || decide (t.Flight < 0) then false else (add t.StartA t.StartB).2 == 0
/-- deal.Fits, the loop: state at a round -/
def fitS (t : Terms) (v : View) (f : Bool) (b : Bool) (i : Int) : St := { n := 89, t := [(2, .ptr 0 0), (3, .ptr 1 0), (4, .p (.bool b)), (5, .p (.lst true 1 [i64 v.A, i64 v.B])), (25, .p (.lst f 36 (v.Htlcs.map Htlc.t))), (26, .p (i64 (v.Htlcs.map Htlc.t).length)), (27, .p (i64 i))], s := [.box (.p t.t), .box (.p (v.t f))] }
def fitS' (t : Terms) (v : View) (f : Bool) (b : Bool) (g : Htlc) (acc : List Int) (i : Int) : St := { n := 89, t := [(2, .ptr 0 0), (3, .ptr 1 0), (4, .p (.bool b)), (5, .row 3 0 (.lst false 1 (acc.map i64))), (25, .p (.lst f 36 (v.Htlcs.map Htlc.t))), (26, .p (i64 (v.Htlcs.map Htlc.t).length)), (27, .p (i64 i))], s := [.box (.p t.t), .box (.p (v.t f)), .box (.p g.t), .row 0 1] }
def fitK : Keep := ⟨[2, 3, 4, 5, 25, 26, 27], 4, []⟩
/-- slices.IndexFunc -/
def ixS (f : Bool) (l : List Htlc) (b k r : Int) (i : Int) : St := { n := 19, t := [(0, .p (.lst f 36 (l.map Htlc.t))), (1, .p (.clo 125 [.rp (i64 b) 0, .rp (i64 k) 0])), (4, .p (i64 r)), (6, .p (.lst f 36 (l.map Htlc.t))), (7, .p (i64 (l.map Htlc.t).length)), (8, .p (i64 i))], s := [] }
def ixK : Keep := ⟨[0, 1, 4, 6, 7, 8], 0, []⟩
def rev (l : List Path) (o : Int) (p : List Int) : List Path := l ++ [⟨o, 0, false, 0, 0, p⟩]
/-- deal.Commit, the loop -/
def comOut (t : Terms) (hd o : Int) (p : List Int) (h : Htlc) : Out := bif h.By == hd then ⟨h.Amount, false, rev [⟨o, 0, false, 0, 0, h.Hash⟩, ⟨hd, 0, false, h.Expiry, t.Delay, zeros⟩] o p⟩
  else ⟨h.Amount, false, rev [⟨hd, 0, false, 0, t.Delay, h.Hash⟩, ⟨o, 0, false, h.Expiry, 0, zeros⟩] o p⟩
def comOuts (t : Terms) (hd o : Int) (p : List Int) (own its : Int) : List Out := [⟨own, false, rev [⟨hd, 0, false, 0, t.Delay, zeros⟩] o p⟩, ⟨its, true, [⟨o, 0, false, 0, 0, zeros⟩]⟩]
def mx0 (x : Int) : Int := if x < 0 then 0 else x
def emptyTx : T := .agg [.lst true 130 [], .lst true 2 []]
def comS (t : Terms) (hd o : Int) (p : List Int) (v : View) (f : Bool) (outs : List Out) (i : Int) : St :=
  { n := 121, t := [(1, .p (i64 hd)), (4, .ptr 0 0), (8, .ptr 3 0), (9, .p (i64 0)), (10, .p (.rp (i64 o) 0)), (14, .clo 66 [.p (.rp (i64 o) 0), .p (.rp (.ba 32 p) 0)]), (15, .p (.lst true 2 (outs.map Out.t))), (69, .p (.lst f 36 (v.Htlcs.map Htlc.t))), (70, .p (i64 (v.Htlcs.map Htlc.t).length)), (71, .p (i64 i))],
    s := [.box (.p t.t), .dead, .box (.p (v.t f)), .box (.p emptyTx), .dead] }
def comS' (t : Terms) (hd o : Int) (p : List Int) (v : View) (f : Bool) (outs : List Out) (g : Htlc) (u : Out) (i : Int) : St :=
  { n := 121, t := [(1, .p (i64 hd)), (4, .ptr 0 0), (8, .ptr 3 0), (9, .p (i64 0)), (10, .p (.rp (i64 o) 0)), (14, .clo 66 [.p (.rp (i64 o) 0), .p (.rp (.ba 32 p) 0)]), (15, .row 7 0 (.lst false 2 (outs.map Out.t))), (69, .p (.lst f 36 (v.Htlcs.map Htlc.t))), (70, .p (i64 (v.Htlcs.map Htlc.t).length)), (71, .p (i64 i))],
    s := [.box (.p t.t), .dead, .box (.p (v.t f)), .box (.p emptyTx), .dead, .box (.p g.t), .box (.p u.t), .row 0 2] }
def comK : Keep := ⟨[1, 4, 8, 9, 10, 14, 15, 69, 70, 71], 8, []⟩
/-- the reference's Outs -/
def pathOk (n : Int) (p : Path) : Bool := bif (decide (p.A ≥ 0) && decide (p.A < n) && decide (p.B ≥ 0) && decide (p.B < n)) then ((p.Two || p.B == 0) && decide (p.Height ≥ 0) && decide (p.Height ≤ 2147483647) && decide (p.Delay ≥ 0) && decide (p.Delay ≤ 2147483647)) else false
end Go.HM.Deal
