/- DEAL, first part: deal.May, deal.Fits and what they call (runs printed by a small program out of the runs themselves). -/
import Derived.Test.YtbipkkebonohjaaHmZ
import Derived.Test.YtbipkkebonohjaaProg
set_option maxRecDepth 100000
namespace Go.HM.Deal
def i64 (n : Int) : T := .int .i64 n
structure Ref where
 Tx : List Int
 Out : Int
structure Terms where
 Channel : Int
 A : Int
 B : Int
 Fund : Ref
 StartA : Int
 StartB : Int
 Delay : Int
 Fee : Int
 Reserve : Int
 Slots : Int
 Flight : Int
structure Htlc where
 By : Int
 Id : Int
 Amount : Int
 Hash : List Int
 Expiry : Int
structure View where
 A : Int
 B : Int
 Htlcs : List Htlc
structure Path where
 A : Int
 B : Int
 Two : Bool
 Height : Int
 Delay : Int
 Hash : List Int
structure Out where
 Amount : Int
 X : Bool
 Paths : List Path
def Ref.t (r : Ref) : T := .agg [.ba 32 r.Tx, i64 r.Out]
def Terms.t (x : Terms) : T := .agg [i64 x.Channel, i64 x.A, i64 x.B, x.Fund.t, i64 x.StartA, i64 x.StartB, i64 x.Delay, i64 x.Fee, i64 x.Reserve, i64 x.Slots, i64 x.Flight]
def Htlc.t (h : Htlc) : T := .agg [i64 h.By, i64 h.Id, i64 h.Amount, .ba 32 h.Hash, i64 h.Expiry]
def View.t (f : Bool) (v : View) : T := .agg [i64 v.A, i64 v.B, .lst f 36 (v.Htlcs.map Htlc.t)]
def Path.t (p : Path) : T := .agg [i64 p.A, i64 p.B, .bool p.Two, i64 p.Height, i64 p.Delay, .ba 32 p.Hash]
def Out.t (o : Out) : T := .agg [i64 o.Amount, .lst o.X 37 (o.Paths.map Path.t)]
def within (n l m : Int) : Bool := decide (n ≥ l) && decide (n ≤ m)
def add (a b : Int) : Int × Int := bif (decide (a < 0) || decide (b < 0)) then (0, 1) else bif decide (a > IntKind.i64.wrap (9223372036854775807 - b)) then (0, 20) else (IntKind.i64.wrap (a + b), 0)
def sumGo : List Int → Int → Int × Int
 | [], s => (s, 0)
 | x :: l, s => bif !((add s x).2 == 0) then (0, (add s x).2) else sumGo l (add s x).1
def sum (l : List Int) : Int × Int := bif l.any (fun x => decide (x < 0)) then (0, 1) else sumGo l 0
def other (t : Terms) (n : Int) : Int := bif n == t.A then t.B else bif n == t.B then t.A else -1
def cmpI (a b : Int) : Int := bif decide (a < b) then -1 else bif decide (a > b) then 1 else 0
def orInt : List Int → Int
 | [] => 0
 | x :: l => bif !(x == 0) then x else orInt l
def order (a b : Htlc) : Int := orInt [cmpI a.By b.By, cmpI a.Id b.Id]
def lsI (f : Bool) (l : List Int) : T := .lst f 1 (l.map i64)
def sumS (f : Bool) (l : List Int) (r e : Int) (i : Int) : St := { n := 38, t := [(0, .p (lsI f l)), (2, .p (i64 r)), (3, .p (i64 e)), (11, .p (lsI f l)), (12, .p (i64 (l.map i64).length)), (13, .p (i64 i))], s := [] }
def sumK : Keep := ⟨[0, 2, 3, 11, 12, 13], 0, []⟩
def sumS2 (f : Bool) (l : List Int) (r e s i : Int) : St := { n := 38, t := [(2, .p (i64 r)), (3, .p (i64 e)), (6, .p (i64 s)), (20, .p (lsI f l)), (21, .p (i64 (l.map i64).length)), (22, .p (i64 i))], s := [] }
def sumK2 : Keep := ⟨[2, 3, 6, 20, 21, 22], 0, []⟩
def zeros : List Int := [0, 0, 0, 0, 0, 0, 0, 0, 0, 0, 0, 0, 0, 0, 0, 0, 0, 0, 0, 0, 0, 0, 0, 0, 0, 0, 0, 0, 0, 0, 0, 0]
def may (t : Terms) : Bool :=
 bif (!within t.Channel 1 65535 || decide (t.A < 0) || decide (t.A ≥ t.B) || decide (t.B ≥ 8) || decide (t.Fund.Out < 0)) then false else
 bif !within t.Delay 1 1000 then false else bif !within t.Slots 1 16 then false else
 bif (sum [t.Fee, t.Reserve]).2 == 1 || decide (t.Flight < 0) then false else (add t.StartA t.StartB).2 == 0
end Go.HM.Deal
set_option maxRecDepth 100000
namespace Go.HM.Deal
open Go.Proofs
theorem within_0 (n : Int) (l : Int) (m : Int) :
  evF Try.prog Try.f69 [i64 n, i64 l, i64 m] [] =
   some ([T.bool (decide (n ≥ l) && decide (n ≤ m))], []) := by kernel_rfl
theorem within_ok (n : Int) (l : Int) (m : Int) : PCall Try.prog 69 [i64 n, i64 l, i64 m] [.bool (within n l m)] := by
 unfold within
 exact evF_sound Try.func69 (by rfl) (within_0 n l m) (by repeat first | exact trivial | refine And.intro (by first | assumption | rfl) ?_)
theorem add_0 (n : Int) (l : Int) :
  evF Try.prog Try.f71 [i64 n, i64 l] [Orc.br true] =
   some ([T.int IntKind.i64 0, T.int IntKind.i64 1], [(decide (n < 0) || decide (l < 0)) = true]) := by kernel_rfl
theorem add_1 (n : Int) (l : Int) :
  evF Try.prog Try.f71 [i64 n, i64 l] [Orc.br false, Orc.br true] =
   some ([T.int IntKind.i64 0, T.int IntKind.i64 20], [decide (n > IntKind.i64.wrap (9223372036854775807 - l)) = true, (decide (n < 0) || decide (l < 0)) = false]) := by kernel_rfl
theorem add_2 (n : Int) (l : Int) :
  evF Try.prog Try.f71 [i64 n, i64 l] [Orc.br false, Orc.br false] =
   some ([T.int IntKind.i64 (IntKind.i64.wrap (n + l)), T.int IntKind.i64 0], [decide (n > IntKind.i64.wrap (9223372036854775807 - l)) = false, (decide (n < 0) || decide (l < 0)) = false]) := by kernel_rfl
theorem add_ok (n : Int) (l : Int) : PCall Try.prog 71 [i64 n, i64 l] [i64 (add n l).1, i64 (add n l).2] := by
 unfold add
 cases h0 : (decide (n < 0) || decide (l < 0)) with
 | true =>
  exact evF_sound Try.func71 (by rfl) (add_0 n l) (by repeat first | exact trivial | refine And.intro (by first | assumption | rfl) ?_)
 | false =>
  cases h1 : (decide (n > IntKind.i64.wrap (9223372036854775807 - l))) with
  | true =>
   exact evF_sound Try.func71 (by rfl) (add_1 n l) (by repeat first | exact trivial | refine And.intro (by first | assumption | rfl) ?_)
  | false =>
   exact evF_sound Try.func71 (by rfl) (add_2 n l) (by repeat first | exact trivial | refine And.intro (by first | assumption | rfl) ?_)
theorem radd_0 (n : Int) (l : Int) :
  evF Try.prog Try.f72 [i64 n, i64 l] [Orc.br true] =
   some ([T.int IntKind.i64 0, T.int IntKind.i64 1], [(decide (n < 0) || decide (l < 0)) = true]) := by kernel_rfl
theorem radd_1 (n : Int) (l : Int) :
  evF Try.prog Try.f72 [i64 n, i64 l] [Orc.br false, Orc.br true] =
   some ([T.int IntKind.i64 0, T.int IntKind.i64 20], [decide (n > IntKind.i64.wrap (9223372036854775807 - l)) = true, (decide (n < 0) || decide (l < 0)) = false]) := by kernel_rfl
theorem radd_2 (n : Int) (l : Int) :
  evF Try.prog Try.f72 [i64 n, i64 l] [Orc.br false, Orc.br false] =
   some ([T.int IntKind.i64 (IntKind.i64.wrap (n + l)), T.int IntKind.i64 0], [decide (n > IntKind.i64.wrap (9223372036854775807 - l)) = false, (decide (n < 0) || decide (l < 0)) = false]) := by kernel_rfl
theorem radd_ok (n : Int) (l : Int) : PCall Try.prog 72 [i64 n, i64 l] [i64 (add n l).1, i64 (add n l).2] := by
 unfold add
 cases h0 : (decide (n < 0) || decide (l < 0)) with
 | true =>
  exact evF_sound Try.func72 (by rfl) (radd_0 n l) (by repeat first | exact trivial | refine And.intro (by first | assumption | rfl) ?_)
 | false =>
  cases h1 : (decide (n > IntKind.i64.wrap (9223372036854775807 - l))) with
  | true =>
   exact evF_sound Try.func72 (by rfl) (radd_1 n l) (by repeat first | exact trivial | refine And.intro (by first | assumption | rfl) ?_)
  | false =>
   exact evF_sound Try.func72 (by rfl) (radd_2 n l) (by repeat first | exact trivial | refine And.intro (by first | assumption | rfl) ?_)
theorem sumA_0 (f : Bool) (l : List Int) (i : Int) (x : Int) :
  evB Try.prog (loopAt Try.f70 0) (sumS f l 0 0 i) [Orc.br true, Orc.op 3 0 (Item.el (i64 x)), Orc.br true] sumK =
   some (Ex.ret, { n := 38, t := [(0, V.p (lsI f l)), (2, V.p (T.int IntKind.i64 0)), (3, V.p (T.int IntKind.i64 1)), (11, V.p (lsI f l)), (12, V.p (i64 ↑(List.map i64 l).length)), (13, V.p (i64 i))], s := [] }, [decide (x < 0) = true, 0 ≤ i ∧ (List.map i64 l)[i.toNat]? = some (i64 x), decide (i < ↑(List.map i64 l).length) = true]) := by kernel_rfl
theorem sumA_1 (f : Bool) (l : List Int) (i : Int) (x : Int) :
  evB Try.prog (loopAt Try.f70 0) (sumS f l 0 0 i) [Orc.br true, Orc.op 3 0 (Item.el (i64 x)), Orc.br false] sumK =
   some (Ex.normal, { n := 38, t := [(0, V.p (lsI f l)), (2, V.p (i64 0)), (3, V.p (i64 0)), (11, V.p (lsI f l)), (12, V.p (i64 ↑(List.map i64 l).length)), (13, V.p (T.int IntKind.i64 (IntKind.i64.wrap (i + 1))))], s := [] }, [decide (x < 0) = false, 0 ≤ i ∧ (List.map i64 l)[i.toNat]? = some (i64 x), decide (i < ↑(List.map i64 l).length) = true]) := by kernel_rfl
theorem sumA_2 (f : Bool) (l : List Int) (i : Int) (x : Int) :
  evB Try.prog (loopAt Try.f70 0) (sumS f l 0 0 i) [Orc.br false] sumK =
   some (Ex.exit 0, { n := 38, t := [(0, V.p (lsI f l)), (2, V.p (i64 0)), (3, V.p (i64 0)), (11, V.p (lsI f l)), (12, V.p (i64 ↑(List.map i64 l).length)), (13, V.p (i64 i))], s := [] }, [decide (i < ↑(List.map i64 l).length) = false]) := by kernel_rfl
theorem sumB_0 (f : Bool) (l : List Int) (s : Int) (i : Int) (x : Int) :
  evB Try.prog (loopAt Try.f70 1) (sumS2 f l 0 0 s i) [Orc.br true, Orc.op 10 0 (Item.el (i64 x)), Orc.op 11 2 (HM.Item.call [i64 (add s x).1, i64 (add s x).2]), Orc.br true] sumK2 =
   some (Ex.ret, { n := 38, t := [(2, V.p (T.int IntKind.i64 0)), (3, V.p (i64 (add s x).2)), (6, V.p (i64 s)), (20, V.p (lsI f l)), (21, V.p (i64 ↑(List.map i64 l).length)), (22, V.p (i64 i))], s := [] }, [(!(add s x).2 == 0) = true, PCall Try.prog 71 [i64 s, T.int IntKind.i64 x] [i64 (add s x).1, i64 (add s x).2], 0 ≤ i ∧ (List.map i64 l)[i.toNat]? = some (i64 x), decide (i < ↑(List.map i64 l).length) = true]) := by kernel_rfl
theorem sumB_1 (f : Bool) (l : List Int) (s : Int) (i : Int) (x : Int) :
  evB Try.prog (loopAt Try.f70 1) (sumS2 f l 0 0 s i) [Orc.br true, Orc.op 10 0 (Item.el (i64 x)), Orc.op 11 2 (HM.Item.call [i64 (add s x).1, i64 (add s x).2]), Orc.br false] sumK2 =
   some (Ex.normal, { n := 38, t := [(2, V.p (i64 0)), (3, V.p (i64 0)), (6, V.p (i64 (add s x).1)), (20, V.p (lsI f l)), (21, V.p (i64 ↑(List.map i64 l).length)), (22, V.p (T.int IntKind.i64 (IntKind.i64.wrap (i + 1))))], s := [] }, [(!(add s x).2 == 0) = false, PCall Try.prog 71 [i64 s, T.int IntKind.i64 x] [i64 (add s x).1, i64 (add s x).2], 0 ≤ i ∧ (List.map i64 l)[i.toNat]? = some (i64 x), decide (i < ↑(List.map i64 l).length) = true]) := by kernel_rfl
theorem sumB_2 (f : Bool) (l : List Int) (s : Int) (i : Int) (x : Int) :
  evB Try.prog (loopAt Try.f70 1) (sumS2 f l 0 0 s i) [Orc.br false] sumK2 =
   some (Ex.exit 2, { n := 38, t := [(2, V.p (i64 0)), (3, V.p (i64 0)), (6, V.p (i64 s)), (20, V.p (lsI f l)), (21, V.p (i64 ↑(List.map i64 l).length)), (22, V.p (i64 i))], s := [] }, [decide (i < ↑(List.map i64 l).length) = false]) := by kernel_rfl
theorem sum1_0 (f : Bool) (l : List Int) (i : Int) :
  evF Try.prog Try.f70 [lsI f l] [Orc.loop sumK Ex.ret (sumS f l 0 1 i)] =
   some ([i64 0, i64 1], [LoopR Try.prog (loopAt Try.f70 0) { n := 38, t := [(0, V.p (lsI f l)), (2, V.p (T.int IntKind.i64 0)), (3, V.p (T.int IntKind.i64 0)), (11, V.p (lsI f l)), (12, V.p (T.int IntKind.i64 ↑(List.map i64 l).length)), (13, V.p (T.int IntKind.i64 0))], s := [] } Ex.ret (sumS f l 0 1 i)]) := by kernel_rfl
theorem sum2_0 (f : Bool) (l : List Int) (i : Int) (e : Int) (s : Int) (j : Int) :
  evF Try.prog Try.f70 [lsI f l] [Orc.loop sumK (Ex.exit 0) (sumS f l 0 0 i), Orc.loop sumK2 Ex.ret (sumS2 f l 0 e s j)] =
   some ([i64 0, i64 e], [LoopR Try.prog (loopAt Try.f70 1) { n := 38, t := [(2, V.p (i64 0)), (3, V.p (i64 0)), (6, V.p (T.int IntKind.i64 0)), (20, V.p (lsI f l)), (21, V.p (T.int IntKind.i64 ↑(List.map i64 l).length)), (22, V.p (T.int IntKind.i64 0))], s := [] } Ex.ret (sumS2 f l 0 e s j), LoopR Try.prog (loopAt Try.f70 0) { n := 38, t := [(0, V.p (lsI f l)), (2, V.p (T.int IntKind.i64 0)), (3, V.p (T.int IntKind.i64 0)), (11, V.p (lsI f l)), (12, V.p (T.int IntKind.i64 ↑(List.map i64 l).length)), (13, V.p (T.int IntKind.i64 0))], s := [] } (Ex.exit 0) (sumS f l 0 0 i)]) := by kernel_rfl
theorem sum3_0 (f : Bool) (l : List Int) (i : Int) (s : Int) (j : Int) :
  evF Try.prog Try.f70 [lsI f l] [Orc.loop sumK (Ex.exit 0) (sumS f l 0 0 i), Orc.loop sumK2 (Ex.exit 2) (sumS2 f l 0 0 s j)] =
   some ([i64 s, T.int IntKind.i64 0], [LoopR Try.prog (loopAt Try.f70 1) { n := 38, t := [(2, V.p (i64 0)), (3, V.p (i64 0)), (6, V.p (T.int IntKind.i64 0)), (20, V.p (lsI f l)), (21, V.p (T.int IntKind.i64 ↑(List.map i64 l).length)), (22, V.p (T.int IntKind.i64 0))], s := [] } (Ex.exit 2) (sumS2 f l 0 0 s j), LoopR Try.prog (loopAt Try.f70 0) { n := 38, t := [(0, V.p (lsI f l)), (2, V.p (T.int IntKind.i64 0)), (3, V.p (T.int IntKind.i64 0)), (11, V.p (lsI f l)), (12, V.p (T.int IntKind.i64 ↑(List.map i64 l).length)), (13, V.p (T.int IntKind.i64 0))], s := [] } (Ex.exit 0) (sumS f l 0 0 i)]) := by kernel_rfl
end Go.HM.Deal
set_option maxRecDepth 100000
namespace Go.HM.Deal
open Go.Proofs
def sumStep1 (f : Bool) (l : List Int) (_ : Unit) (i : Nat) (x : Int) : Unit ⊕ (Ex × St) := bif decide (x < 0) then .inr (Ex.ret, sumS f l 0 1 i) else .inl ()
def sumStep2 (f : Bool) (l : List Int) (s : Int) (i : Nat) (x : Int) : Int ⊕ (Ex × St) := bif !((add s x).2 == 0) then .inr (Ex.ret, sumS2 f l 0 (add s x).2 s i) else .inl (add s x).1
theorem sum_loop1 (f : Bool) (l : List Int) (hl : l.length ≤ 4294967296) :
  LoopR Try.prog (loopAt Try.f70 0) (sumS f l 0 0 0) (runL (sumStep1 f l) (fun _ => (Ex.exit 0, sumS f l 0 0 l.length)) l 0 ()).1 (runL (sumStep1 f l) (fun _ => (Ex.exit 0, sumS f l 0 0 l.length)) l 0 ()).2 := by
 refine loop_list l (fun _ i => sumS f l 0 0 i) (sumStep1 f l) (fun _ => (Ex.exit 0, sumS f l 0 0 l.length)) (fun _ i => i ≤ l.length) ?_ ?_ ?_ () (Nat.zero_le _)
 ·intro s i x s' hI hx hs
  unfold sumStep1 at hs
  cases hc : (decide (x < 0)) with
  | true => rw [hc] at hs; cases hs
  | false =>
   have hlt := getElem?_lt hx
   have h := evB_sound (sumA_1 f l i x) ⟨hc, el_map hx, lt_len hx, trivial⟩
   rw [wrap64 (by omega) (by omega)] at h
   exact ⟨hlt, h⟩
 ·intro s i x o hI hx hs
  unfold sumStep1 at hs
  cases hc : (decide (x < 0)) with
  | true =>
   rw [hc] at hs; injection hs with hs; subst hs
   exact ⟨nofun, evB_sound (sumA_0 f l i x) ⟨hc, el_map hx, lt_len hx, trivial⟩⟩
  | false => rw [hc] at hs; cases hs
 ·intro s hI
  exact ⟨nofun, evB_sound (sumA_2 f l l.length 0) ⟨by simp, trivial⟩⟩
theorem sum_run1 (f : Bool) (l : List Int) : ∀ (r : List Int) (i : Nat),
  (r.any (fun x => decide (x < 0)) = true ∧ ∃ j, runL (sumStep1 f l) (fun _ => (Ex.exit 0, sumS f l 0 0 l.length)) r i () = (Ex.ret, sumS f l 0 1 j)) ∨
  (r.any (fun x => decide (x < 0)) = false ∧ runL (sumStep1 f l) (fun _ => (Ex.exit 0, sumS f l 0 0 l.length)) r i () = (Ex.exit 0, sumS f l 0 0 l.length))
 | [], i => .inr ⟨rfl, rfl⟩
 | x :: r, i => by
  simp only [runL, sumStep1, List.any_cons]
  cases hc : (decide (x < 0)) with
  | true => exact .inl ⟨rfl, i, rfl⟩
  | false => exact sum_run1 f l r (i + 1)
theorem sum_loop2 (f : Bool) (l : List Int) (hl : l.length ≤ 4294967296) :
  LoopR Try.prog (loopAt Try.f70 1) (sumS2 f l 0 0 0 0) (runL (sumStep2 f l) (fun s => (Ex.exit 2, sumS2 f l 0 0 s l.length)) l 0 0).1 (runL (sumStep2 f l) (fun s => (Ex.exit 2, sumS2 f l 0 0 s l.length)) l 0 0).2 := by
 refine loop_list l (fun s i => sumS2 f l 0 0 s i) (sumStep2 f l) (fun s => (Ex.exit 2, sumS2 f l 0 0 s l.length)) (fun _ i => i ≤ l.length) ?_ ?_ ?_ 0 (Nat.zero_le _)
 ·intro s i x s' hI hx hs
  unfold sumStep2 at hs
  cases hc : (!((add s x).2 == 0)) with
  | true => rw [hc] at hs; cases hs
  | false =>
   rw [hc] at hs; injection hs with hs; subst hs
   have hlt := getElem?_lt hx
   have h := evB_sound (sumB_1 f l s i x) ⟨hc, add_ok s x, el_map hx, lt_len hx, trivial⟩
   rw [wrap64 (by omega) (by omega)] at h
   exact ⟨hlt, h⟩
 ·intro s i x o hI hx hs
  unfold sumStep2 at hs
  cases hc : (!((add s x).2 == 0)) with
  | true =>
   rw [hc] at hs; injection hs with hs; subst hs
   exact ⟨nofun, evB_sound (sumB_0 f l s i x) ⟨hc, add_ok s x, el_map hx, lt_len hx, trivial⟩⟩
  | false => rw [hc] at hs; cases hs
 ·intro s hI
  exact ⟨nofun, evB_sound (sumB_2 f l s l.length 0) ⟨by simp, trivial⟩⟩
theorem sum_run2 (f : Bool) (l : List Int) : ∀ (r : List Int) (i : Nat) (s : Int),
  (∃ s' e j, runL (sumStep2 f l) (fun s => (Ex.exit 2, sumS2 f l 0 0 s l.length)) r i s = (Ex.ret, sumS2 f l 0 e s' j) ∧ sumGo r s = (0, e)) ∨
  (∃ s', runL (sumStep2 f l) (fun s => (Ex.exit 2, sumS2 f l 0 0 s l.length)) r i s = (Ex.exit 2, sumS2 f l 0 0 s' l.length) ∧ sumGo r s = (s', 0))
 | [], i, s => .inr ⟨s, rfl, rfl⟩
 | x :: r, i, s => by
  simp only [runL, sumStep2, sumGo]
  cases hc : (!((add s x).2 == 0)) with
  | true => exact .inl ⟨s, _, i, rfl, rfl⟩
  | false => exact sum_run2 f l r (i + 1) (add s x).1
theorem sum_ok (f : Bool) (l : List Int) (hl : l.length ≤ 4294967296) : PCall Try.prog 70 [lsI f l] [i64 (sum l).1, i64 (sum l).2] := by
 have h := sum_loop1 f l hl
 rcases sum_run1 f l l 0 with ⟨hb, j, e⟩ | ⟨hb, e⟩
 ·rw [e] at h
  unfold sum; rw [hb]
  exact evF_sound Try.func70 (by rfl) (sum1_0 f l j) ⟨h, trivial⟩
 ·rw [e] at h
  unfold sum; rw [hb]
  have h2 := sum_loop2 f l hl
  rcases sum_run2 f l l 0 0 with ⟨s', e', j, q, p⟩ | ⟨s', q, p⟩
  ·rw [q] at h2
   simp only [cond_false, p]
   exact evF_sound Try.func70 (by rfl) (sum2_0 f l l.length e' s' j) ⟨h2, h, trivial⟩
  ·rw [q] at h2
   simp only [cond_false, p]
   exact evF_sound Try.func70 (by rfl) (sum3_0 f l l.length s' l.length) ⟨h2, h, trivial⟩
def ixGo (b k : Int) : List Htlc → Nat → Int
 | [], _ => -1
 | h :: r, i => bif (h.By == b && h.Id == k) then i else ixGo b k r (i + 1)
end Go.HM.Deal
set_option maxRecDepth 100000
namespace Go.HM.Deal
open Go.Proofs
theorem may_0 (t : Terms) (y : Htlc) :
  evF Try.prog Try.f18 [t.t] [Orc.op 1 2 (HM.Item.call [T.bool (within t.1 1 65535)]), Orc.br true] =
   some ([T.bool false], [(!within t.1 1 65535 || decide (t.2 < 0) || decide (t.2 ≥ t.3) || decide (t.3 ≥ 8) || decide (t.Fund.2 < 0)) = true, PCall Try.prog 69 [T.int IntKind.i64 t.1, T.int IntKind.i64 1, T.int IntKind.i64 65535] [T.bool (within t.1 1 65535)]]) := by kernel_rfl
theorem may_1 (t : Terms) (y : Htlc) :
  evF Try.prog Try.f18 [t.t] [Orc.op 1 2 (HM.Item.call [T.bool (within t.1 1 65535)]), Orc.br false, Orc.op 3 2 (HM.Item.call [T.bool (within t.7 1 1000)]), Orc.op 3 4 (Item.res true)] =
   some ([T.bool false], [(!within t.7 1 1000) = true, PCall Try.prog 69 [T.int IntKind.i64 t.7, T.int IntKind.i64 1, T.int IntKind.i64 1000] [T.bool (within t.7 1 1000)], (!within t.1 1 65535 || decide (t.2 < 0) || decide (t.2 ≥ t.3) || decide (t.3 ≥ 8) || decide (t.Fund.2 < 0)) = false, PCall Try.prog 69 [T.int IntKind.i64 t.1, T.int IntKind.i64 1, T.int IntKind.i64 65535] [T.bool (within t.1 1 65535)]]) := by kernel_rfl
theorem may_2 (t : Terms) (y : Htlc) :
  evF Try.prog Try.f18 [t.t] [Orc.op 1 2 (HM.Item.call [T.bool (within t.1 1 65535)]), Orc.br false, Orc.op 3 2 (HM.Item.call [T.bool (within t.7 1 1000)]), Orc.op 3 4 (Item.res false), Orc.op 3 7 (HM.Item.call [T.bool (within t.10 1 16)]), Orc.br true] =
   some ([T.bool false], [(!within t.10 1 16) = true, PCall Try.prog 69 [T.int IntKind.i64 t.10, T.int IntKind.i64 1, T.int IntKind.i64 16] [T.bool (within t.10 1 16)], (!within t.7 1 1000) = false, PCall Try.prog 69 [T.int IntKind.i64 t.7, T.int IntKind.i64 1, T.int IntKind.i64 1000] [T.bool (within t.7 1 1000)], (!within t.1 1 65535 || decide (t.2 < 0) || decide (t.2 ≥ t.3) || decide (t.3 ≥ 8) || decide (t.Fund.2 < 0)) = false, PCall Try.prog 69 [T.int IntKind.i64 t.1, T.int IntKind.i64 1, T.int IntKind.i64 65535] [T.bool (within t.1 1 65535)]]) := by kernel_rfl
theorem may_3 (t : Terms) (y : Htlc) :
  evF Try.prog Try.f18 [t.t] [Orc.op 1 2 (HM.Item.call [T.bool (within t.1 1 65535)]), Orc.br false, Orc.op 3 2 (HM.Item.call [T.bool (within t.7 1 1000)]), Orc.op 3 4 (Item.res false), Orc.op 3 7 (HM.Item.call [T.bool (within t.10 1 16)]), Orc.br false, Orc.op 5 5 (HM.Item.call [i64 (sum [t.Fee, t.Reserve]).1, i64 (sum [t.Fee, t.Reserve]).2]), Orc.br true] =
   some ([T.bool false], [((sum [t.Fee, t.Reserve]).2 == 1 || decide (t.11 < 0)) = true, PCall Try.prog 70 [T.lst true 1 [T.int IntKind.i64 t.8, T.int IntKind.i64 t.9]] [i64 (sum [t.Fee, t.Reserve]).1, i64 (sum [t.Fee, t.Reserve]).2], (!within t.10 1 16) = false, PCall Try.prog 69 [T.int IntKind.i64 t.10, T.int IntKind.i64 1, T.int IntKind.i64 16] [T.bool (within t.10 1 16)], (!within t.7 1 1000) = false, PCall Try.prog 69 [T.int IntKind.i64 t.7, T.int IntKind.i64 1, T.int IntKind.i64 1000] [T.bool (within t.7 1 1000)], (!within t.1 1 65535 || decide (t.2 < 0) || decide (t.2 ≥ t.3) || decide (t.3 ≥ 8) || decide (t.Fund.2 < 0)) = false, PCall Try.prog 69 [T.int IntKind.i64 t.1, T.int IntKind.i64 1, T.int IntKind.i64 65535] [T.bool (within t.1 1 65535)]]) := by kernel_rfl
theorem may_4 (t : Terms) (y : Htlc) :
  evF Try.prog Try.f18 [t.t] [Orc.op 1 2 (HM.Item.call [T.bool (within t.1 1 65535)]), Orc.br false, Orc.op 3 2 (HM.Item.call [T.bool (within t.7 1 1000)]), Orc.op 3 4 (Item.res false), Orc.op 3 7 (HM.Item.call [T.bool (within t.10 1 16)]), Orc.br false, Orc.op 5 5 (HM.Item.call [i64 (sum [t.Fee, t.Reserve]).1, i64 (sum [t.Fee, t.Reserve]).2]), Orc.br false, Orc.op 8 4 (HM.Item.call [i64 (add t.StartA t.StartB).1, i64 (add t.StartA t.StartB).2])] =
   some ([T.bool ((add t.StartA t.StartB).2 == 0)], [PCall Try.prog 71 [T.int IntKind.i64 t.5, T.int IntKind.i64 t.6] [i64 (add t.StartA t.StartB).1, i64 (add t.StartA t.StartB).2], ((sum [t.Fee, t.Reserve]).2 == 1 || decide (t.11 < 0)) = false, PCall Try.prog 70 [T.lst true 1 [T.int IntKind.i64 t.8, T.int IntKind.i64 t.9]] [i64 (sum [t.Fee, t.Reserve]).1, i64 (sum [t.Fee, t.Reserve]).2], (!within t.10 1 16) = false, PCall Try.prog 69 [T.int IntKind.i64 t.10, T.int IntKind.i64 1, T.int IntKind.i64 16] [T.bool (within t.10 1 16)], (!within t.7 1 1000) = false, PCall Try.prog 69 [T.int IntKind.i64 t.7, T.int IntKind.i64 1, T.int IntKind.i64 1000] [T.bool (within t.7 1 1000)], (!within t.1 1 65535 || decide (t.2 < 0) || decide (t.2 ≥ t.3) || decide (t.3 ≥ 8) || decide (t.Fund.2 < 0)) = false, PCall Try.prog 69 [T.int IntKind.i64 t.1, T.int IntKind.i64 1, T.int IntKind.i64 65535] [T.bool (within t.1 1 65535)]]) := by kernel_rfl
theorem may_ok (t : Terms) (y : Htlc) : PCall Try.prog 18 [t.t] [.bool (may t)] := by
 unfold may
 cases h0 : (!within t.1 1 65535 || decide (t.2 < 0) || decide (t.2 ≥ t.3) || decide (t.3 ≥ 8) || decide (t.Fund.2 < 0)) with
 | true =>
  exact evF_sound Try.func18 (by rfl) (may_0 t y) (by repeat first | exact trivial | refine And.intro (by first | assumption | rfl | exact within_ok _ _ _ | exact add_ok _ _ | exact sum_ok _ [_, _] (by simp)) ?_)
 | false =>
  cases h1 : (!within t.7 1 1000) with
  | true =>
   exact evF_sound Try.func18 (by rfl) (may_1 t y) (by repeat first | exact trivial | refine And.intro (by first | assumption | rfl | exact within_ok _ _ _ | exact add_ok _ _ | exact sum_ok _ [_, _] (by simp)) ?_)
  | false =>
   cases h2 : (!within t.10 1 16) with
   | true =>
    exact evF_sound Try.func18 (by rfl) (may_2 t y) (by repeat first | exact trivial | refine And.intro (by first | assumption | rfl | exact within_ok _ _ _ | exact add_ok _ _ | exact sum_ok _ [_, _] (by simp)) ?_)
   | false =>
    cases h3 : ((sum [t.Fee, t.Reserve]).2 == 1 || decide (t.11 < 0)) with
    | true =>
     exact evF_sound Try.func18 (by rfl) (may_3 t y) (by repeat first | exact trivial | refine And.intro (by first | assumption | rfl | exact within_ok _ _ _ | exact add_ok _ _ | exact sum_ok _ [_, _] (by simp)) ?_)
    | false =>
     exact evF_sound Try.func18 (by rfl) (may_4 t y) (by repeat first | exact trivial | refine And.intro (by first | assumption | rfl | exact within_ok _ _ _ | exact add_ok _ _ | exact sum_ok _ [_, _] (by simp)) ?_)
end Go.HM.Deal
set_option maxRecDepth 100000
namespace Go.HM.Deal
open Go.Proofs
def c1 (t : Terms) (h : Htlc) : Bool := other t h.By == -1 || decide (h.Id < 0)
def c2 (h : Htlc) : Bool := !within h.Expiry 0 2147483647 || h.Hash == zeros
def c3 (y h : Htlc) : Bool := decide (order y h ≥ 0)
def fitGo (t : Terms) : Option Htlc → List Htlc → Bool
 | _, [] => true
 | y, h :: r => bif c1 t h then false else bif c2 h then false else match y with
  | none => fitGo t (some h) r
  | some y => bif c3 y h then false else fitGo t (some h) r
def allOfV (v : View) : List Int := v.A :: v.B :: v.Htlcs.map Htlc.Amount
def fits (t : Terms) (v : View) : Bool :=
 bif !may t || decide (((v.Htlcs.map Htlc.t).length : Int) > 32) then false else
 bif fitGo t none v.Htlcs then ((sum (allOfV v)).2 == 0 && (sum (allOfV v)).1 == IntKind.i64.wrap (t.StartA + t.StartB)) else false
def place (v : View) (b i : Int) : Int × Bool := bif decide (ixGo b i v.Htlcs 0 < 0) then (0, false) else (IntKind.i64.wrap (2 + ixGo b i v.Htlcs 0), true)
end Go.HM.Deal
set_option maxRecDepth 100000
namespace Go.HM.Deal
open Go.Proofs
end Go.HM.Deal
set_option maxRecDepth 100000
namespace Go.HM.Deal
open Go.Proofs
def t0 : Terms := ⟨1, 0, 1, ⟨zeros, 0⟩, 1000, 500, 3, 1, 10, 4, 800⟩
def p5 : List Int := 5 :: zeros.tail
def v0 : View := ⟨900, 500, [⟨0, 0, 100, 1 :: zeros.tail, 9⟩]⟩
def outS (n : Int) (x : Bool) (l : List Out) (r s i : Int) (b : Bool) : St := { n := 76, t := [(0, .p (i64 n)), (1, .p (.lst x 2 (l.map Out.t))), (4, .p (i64 r)), (5, .p (.bool b)), (6, .p (i64 s)), (7, .p (i64 i))], s := [] }
def outK : Keep := ⟨[0, 1, 4, 5, 6, 7], 0, []⟩
def inS (n : Int) (x : Bool) (l : List Out) (s i k : Int) : St := { n := 76, t := [(0, .p (i64 n)), (1, .p (.lst x 2 (l.map Out.t))), (4, .p (i64 0)), (5, .p (.bool false)), (6, .p (i64 s)), (7, .p (i64 i)), (8, .p (i64 k))], s := [] }
def inK : Keep := ⟨[0, 1, 4, 5, 6, 7, 8], 0, []⟩
end Go.HM.Deal
