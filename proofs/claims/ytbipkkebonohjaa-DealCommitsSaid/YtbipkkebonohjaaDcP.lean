/- DEAL, part P: the paths (printed by a program of ours). -/
import Derived.Test.YtbipkkebonohjaaDcA
import Derived.Test.YtbipkkebonohjaaProg
set_option maxRecDepth 100000
namespace Go.HM.Deal
open Go.Proofs
theorem isNaN_0 (n : Int) :
    evF Try.prog Try.f162 [i64 n] [] =
      some ([T.bool !n == n], []) := by kernel_rfl
theorem isNaN_ok (n : Int) : PCall Try.prog 162 [i64 n] [.bool false] := by
  have h := evF_sound Try.func162 (by rfl) (isNaN_0 n) trivial
  have e : (!n == n) = false := by simp
  rw [e] at h
  exact h
theorem within_0 (n : Int) (l : Int) (m : Int) :
    evF Try.prog Try.f69 [i64 n, i64 l, i64 m] [] =
      some ([T.bool (decide (n ≥ l) && decide (n ≤ m))], []) := by kernel_rfl
theorem within_ok (n : Int) (l : Int) (m : Int) : PCall Try.prog 69 [i64 n, i64 l, i64 m] [.bool (within n l m)] := by
  unfold within
  exact evF_sound Try.func69 (by rfl) (within_0 n l m) (by repeat first | exact trivial | refine And.intro (by first | assumption | rfl) ?_)
theorem cmp_0 (n : Int) (l : Int) :
    evF Try.prog Try.f127 [i64 n, i64 l] [Orc.op 1 1 (HM.Item.call [T.bool false]), Orc.op 2 1 (HM.Item.call [T.bool false]), Orc.br false, Orc.br false, Orc.br true] =
      some ([T.int IntKind.i64 (-1)], [decide (n < l) = true, false = false, false = false, PCall Try.prog 162 [i64 l] [T.bool false], PCall Try.prog 162 [i64 n] [T.bool false]]) := by kernel_rfl
theorem cmp_1 (n : Int) (l : Int) :
    evF Try.prog Try.f127 [i64 n, i64 l] [Orc.op 1 1 (HM.Item.call [T.bool false]), Orc.op 2 1 (HM.Item.call [T.bool false]), Orc.br false, Orc.br false, Orc.br false, Orc.br true] =
      some ([T.int IntKind.i64 1], [decide (n > l) = true, decide (n < l) = false, false = false, false = false, PCall Try.prog 162 [i64 l] [T.bool false], PCall Try.prog 162 [i64 n] [T.bool false]]) := by kernel_rfl
theorem cmp_2 (n : Int) (l : Int) :
    evF Try.prog Try.f127 [i64 n, i64 l] [Orc.op 1 1 (HM.Item.call [T.bool false]), Orc.op 2 1 (HM.Item.call [T.bool false]), Orc.br false, Orc.br false, Orc.br false, Orc.br false] =
      some ([T.int IntKind.i64 0], [decide (n > l) = false, decide (n < l) = false, false = false, false = false, PCall Try.prog 162 [i64 l] [T.bool false], PCall Try.prog 162 [i64 n] [T.bool false]]) := by kernel_rfl
theorem cmp_ok (n : Int) (l : Int) : PCall Try.prog 127 [i64 n, i64 l] [i64 (cmpI n l)] := by
  unfold cmpI
  cases h0 : (decide (n < l)) with
  | true =>
    exact evF_sound Try.func127 (by rfl) (cmp_0 n l) (by repeat first | exact trivial | refine And.intro (by first | assumption | rfl | exact isNaN_ok _) ?_)
  | false =>
    cases h1 : (decide (n > l)) with
    | true =>
      exact evF_sound Try.func127 (by rfl) (cmp_1 n l) (by repeat first | exact trivial | refine And.intro (by first | assumption | rfl | exact isNaN_ok _) ?_)
    | false =>
      exact evF_sound Try.func127 (by rfl) (cmp_2 n l) (by repeat first | exact trivial | refine And.intro (by first | assumption | rfl | exact isNaN_ok _) ?_)
theorem add_0 (n : Int) (l : Int) :
    evF Try.prog Try.f71 [i64 n, i64 l] [Orc.br true] =
      some ([T.int IntKind.i64 0, T.int IntKind.i64 1], [(decide (n < 0) || decide (l < 0)) = true]) := by kernel_rfl
theorem add_1 (n : Int) (l : Int) :
    evF Try.prog Try.f71 [i64 n, i64 l] [Orc.br false, Orc.br true] =
      some ([T.int IntKind.i64 0, T.int IntKind.i64 20], [decide (n > IntKind.i64.wrap (9223372036854775807 - l)) = true, (decide (n < 0) || decide (l < 0)) = false]) := by kernel_rfl
theorem add_2 (n : Int) (l : Int) :
    evF Try.prog Try.f71 [i64 n, i64 l] [Orc.br false, Orc.br false] =
      some ([T.int IntKind.i64 (IntKind.i64.wrap (n + l)), T.int IntKind.i64 0], [decide (n > IntKind.i64.wrap (9223372036854775807 - l)) = false, (decide (n < 0) || decide (l < 0)) = false]) := by kernel_rfl
theorem add_ok (n : Int) (l : Int) : PCall Try.prog 71 [i64 n, i64 l] [i64 (add n l).1, i64 (add n l).2] := by
  unfold add
  cases h0 : (decide (n < 0) || decide (l < 0)) with
  | true =>
    exact evF_sound Try.func71 (by rfl) (add_0 n l) (by repeat first | exact trivial | refine And.intro (by first | assumption | rfl) ?_)
  | false =>
    cases h1 : (decide (n > IntKind.i64.wrap (9223372036854775807 - l))) with
    | true =>
      exact evF_sound Try.func71 (by rfl) (add_1 n l) (by repeat first | exact trivial | refine And.intro (by first | assumption | rfl) ?_)
    | false =>
      exact evF_sound Try.func71 (by rfl) (add_2 n l) (by repeat first | exact trivial | refine And.intro (by first | assumption | rfl) ?_)
theorem radd_0 (n : Int) (l : Int) :
    evF Try.prog Try.f72 [i64 n, i64 l] [Orc.br true] =
      some ([T.int IntKind.i64 0, T.int IntKind.i64 1], [(decide (n < 0) || decide (l < 0)) = true]) := by kernel_rfl
theorem radd_1 (n : Int) (l : Int) :
    evF Try.prog Try.f72 [i64 n, i64 l] [Orc.br false, Orc.br true] =
      some ([T.int IntKind.i64 0, T.int IntKind.i64 20], [decide (n > IntKind.i64.wrap (9223372036854775807 - l)) = true, (decide (n < 0) || decide (l < 0)) = false]) := by kernel_rfl
theorem radd_2 (n : Int) (l : Int) :
    evF Try.prog Try.f72 [i64 n, i64 l] [Orc.br false, Orc.br false] =
      some ([T.int IntKind.i64 (IntKind.i64.wrap (n + l)), T.int IntKind.i64 0], [decide (n > IntKind.i64.wrap (9223372036854775807 - l)) = false, (decide (n < 0) || decide (l < 0)) = false]) := by kernel_rfl
theorem radd_ok (n : Int) (l : Int) : PCall Try.prog 72 [i64 n, i64 l] [i64 (add n l).1, i64 (add n l).2] := by
  unfold add
  cases h0 : (decide (n < 0) || decide (l < 0)) with
  | true =>
    exact evF_sound Try.func72 (by rfl) (radd_0 n l) (by repeat first | exact trivial | refine And.intro (by first | assumption | rfl) ?_)
  | false =>
    cases h1 : (decide (n > IntKind.i64.wrap (9223372036854775807 - l))) with
    | true =>
      exact evF_sound Try.func72 (by rfl) (radd_1 n l) (by repeat first | exact trivial | refine And.intro (by first | assumption | rfl) ?_)
    | false =>
      exact evF_sound Try.func72 (by rfl) (radd_2 n l) (by repeat first | exact trivial | refine And.intro (by first | assumption | rfl) ?_)
theorem other_0 (t : Terms) (n : Int) :
    evF Try.prog Try.f22 [t.t, i64 n] [Orc.br true] =
      some ([T.int IntKind.i64 t.3], [(n == t.2) = true]) := by kernel_rfl
theorem other_1 (t : Terms) (n : Int) :
    evF Try.prog Try.f22 [t.t, i64 n] [Orc.br false, Orc.br true] =
      some ([T.int IntKind.i64 t.2], [(n == t.3) = true, (n == t.2) = false]) := by kernel_rfl
theorem other_2 (t : Terms) (n : Int) :
    evF Try.prog Try.f22 [t.t, i64 n] [Orc.br false, Orc.br false] =
      some ([T.int IntKind.i64 (-1)], [(n == t.3) = false, (n == t.2) = false]) := by kernel_rfl
theorem other_ok (t : Terms) (n : Int) : PCall Try.prog 22 [t.t, i64 n] [i64 (other t n)] := by
  unfold other
  cases h0 : (n == t.2) with
  | true =>
    exact evF_sound Try.func22 (by rfl) (other_0 t n) (by repeat first | exact trivial | refine And.intro (by first | assumption | rfl) ?_)
  | false =>
    cases h1 : (n == t.3) with
    | true =>
      exact evF_sound Try.func22 (by rfl) (other_1 t n) (by repeat first | exact trivial | refine And.intro (by first | assumption | rfl) ?_)
    | false =>
      exact evF_sound Try.func22 (by rfl) (other_2 t n) (by repeat first | exact trivial | refine And.intro (by first | assumption | rfl) ?_)
theorem path_0 (n : Int) (p : Path) :
    evF Try.prog Try.f135 [i64 n, p.t] [Orc.op 1 20 (Item.res true)] =
      some ([T.bool ((p.3 || p.2 == 0) && decide (p.4 ≥ 0) && decide (p.4 ≤ 2147483647) && decide (p.5 ≥ 0) && decide (p.5 ≤ 2147483647))], [(decide (p.1 ≥ 0) && decide (p.1 < n) && decide (p.2 ≥ 0) && decide (p.2 < n)) = true]) := by kernel_rfl
theorem path_1 (n : Int) (p : Path) :
    evF Try.prog Try.f135 [i64 n, p.t] [Orc.op 1 20 (Item.res false)] =
      some ([T.bool false], [(decide (p.1 ≥ 0) && decide (p.1 < n) && decide (p.2 ≥ 0) && decide (p.2 < n)) = false]) := by kernel_rfl
theorem path_ok (n : Int) (p : Path) : PCall Try.prog 135 [i64 n, p.t] [.bool (pathOk n p)] := by
  unfold pathOk
  cases h0 : (decide (p.1 ≥ 0) && decide (p.1 < n) && decide (p.2 ≥ 0) && decide (p.2 < n)) with
  | true =>
    exact evF_sound Try.func135 (by rfl) (path_0 n p) (by repeat first | exact trivial | refine And.intro (by first | assumption | rfl) ?_)
  | false =>
    exact evF_sound Try.func135 (by rfl) (path_1 n p) (by repeat first | exact trivial | refine And.intro (by first | assumption | rfl) ?_)
theorem orA_0 (f : Bool) (l : List Int) (i : Int) (x : Int) :
    evB Try.prog (loopAt Try.f126 0) (orS f l 0 i) [Orc.br true, Orc.op 4 0 (Item.el (i64 x)), Orc.br true] orK =
      some (Ex.ret, { n := 18, t := [(2, V.p (T.int IntKind.i64 x)), (3, V.p (i64 0)), (6, V.p (lsI f l)), (7, V.p (i64 ↑(List.map i64 l).length)), (8, V.p (i64 i))], s := [] }, [(!x == 0) = true, 0 ≤ i ∧ (List.map i64 l)[i.toNat]? = some (i64 x), decide (i < ↑(List.map i64 l).length) = true]) := by kernel_rfl
theorem orA_1 (f : Bool) (l : List Int) (i : Int) (x : Int) :
    evB Try.prog (loopAt Try.f126 0) (orS f l 0 i) [Orc.br true, Orc.op 4 0 (Item.el (i64 x)), Orc.br false] orK =
      some (Ex.normal, { n := 18, t := [(2, V.p (i64 0)), (3, V.p (i64 0)), (6, V.p (lsI f l)), (7, V.p (i64 ↑(List.map i64 l).length)), (8, V.p (T.int IntKind.i64 (IntKind.i64.wrap (i + 1))))], s := [] }, [(!x == 0) = false, 0 ≤ i ∧ (List.map i64 l)[i.toNat]? = some (i64 x), decide (i < ↑(List.map i64 l).length) = true]) := by kernel_rfl
theorem orA_2 (f : Bool) (l : List Int) (i : Int) (x : Int) :
    evB Try.prog (loopAt Try.f126 0) (orS f l 0 i) [Orc.br false] orK =
      some (Ex.exit 0, { n := 18, t := [(2, V.p (i64 0)), (3, V.p (i64 0)), (6, V.p (lsI f l)), (7, V.p (i64 ↑(List.map i64 l).length)), (8, V.p (i64 i))], s := [] }, [decide (i < ↑(List.map i64 l).length) = false]) := by kernel_rfl
theorem or1_0 (f : Bool) (l : List Int) (i : Int) (x : Int) :
    evF Try.prog Try.f126 [lsI f l] [Orc.loop orK Ex.ret (orS f l x i)] =
      some ([i64 x], [LoopR Try.prog (loopAt Try.f126 0) { n := 18, t := [(2, V.p (T.int IntKind.i64 0)), (3, V.p (T.int IntKind.i64 0)), (6, V.p (lsI f l)), (7, V.p (T.int IntKind.i64 ↑(List.map i64 l).length)), (8, V.p (T.int IntKind.i64 0))], s := [] } Ex.ret (orS f l x i)]) := by kernel_rfl
theorem or2_0 (f : Bool) (l : List Int) (i : Int) (x : Int) :
    evF Try.prog Try.f126 [lsI f l] [Orc.loop orK (Ex.exit 0) (orS f l 0 i)] =
      some ([i64 0], [LoopR Try.prog (loopAt Try.f126 0) { n := 18, t := [(2, V.p (T.int IntKind.i64 0)), (3, V.p (T.int IntKind.i64 0)), (6, V.p (lsI f l)), (7, V.p (T.int IntKind.i64 ↑(List.map i64 l).length)), (8, V.p (T.int IntKind.i64 0))], s := [] } (Ex.exit 0) (orS f l 0 i)]) := by kernel_rfl
theorem sumA_0 (f : Bool) (l : List Int) (i : Int) (x : Int) :
    evB Try.prog (loopAt Try.f70 0) (sumS f l 0 0 i) [Orc.br true, Orc.op 3 0 (Item.el (i64 x)), Orc.br true] sumK =
      some (Ex.ret, { n := 38, t := [(0, V.p (lsI f l)), (2, V.p (T.int IntKind.i64 0)), (3, V.p (T.int IntKind.i64 1)), (11, V.p (lsI f l)), (12, V.p (i64 ↑(List.map i64 l).length)), (13, V.p (i64 i))], s := [] }, [decide (x < 0) = true, 0 ≤ i ∧ (List.map i64 l)[i.toNat]? = some (i64 x), decide (i < ↑(List.map i64 l).length) = true]) := by kernel_rfl
theorem sumA_1 (f : Bool) (l : List Int) (i : Int) (x : Int) :
    evB Try.prog (loopAt Try.f70 0) (sumS f l 0 0 i) [Orc.br true, Orc.op 3 0 (Item.el (i64 x)), Orc.br false] sumK =
      some (Ex.normal, { n := 38, t := [(0, V.p (lsI f l)), (2, V.p (i64 0)), (3, V.p (i64 0)), (11, V.p (lsI f l)), (12, V.p (i64 ↑(List.map i64 l).length)), (13, V.p (T.int IntKind.i64 (IntKind.i64.wrap (i + 1))))], s := [] }, [decide (x < 0) = false, 0 ≤ i ∧ (List.map i64 l)[i.toNat]? = some (i64 x), decide (i < ↑(List.map i64 l).length) = true]) := by kernel_rfl
theorem sumA_2 (f : Bool) (l : List Int) (i : Int) (x : Int) :
    evB Try.prog (loopAt Try.f70 0) (sumS f l 0 0 i) [Orc.br false] sumK =
      some (Ex.exit 0, { n := 38, t := [(0, V.p (lsI f l)), (2, V.p (i64 0)), (3, V.p (i64 0)), (11, V.p (lsI f l)), (12, V.p (i64 ↑(List.map i64 l).length)), (13, V.p (i64 i))], s := [] }, [decide (i < ↑(List.map i64 l).length) = false]) := by kernel_rfl
theorem sumB_0 (f : Bool) (l : List Int) (s : Int) (i : Int) (x : Int) :
    evB Try.prog (loopAt Try.f70 1) (sumS2 f l 0 0 s i) [Orc.br true, Orc.op 10 0 (Item.el (i64 x)), Orc.op 11 2 (HM.Item.call [i64 (add s x).1, i64 (add s x).2]), Orc.br true] sumK2 =
      some (Ex.ret, { n := 38, t := [(2, V.p (T.int IntKind.i64 0)), (3, V.p (i64 (add s x).2)), (6, V.p (i64 s)), (20, V.p (lsI f l)), (21, V.p (i64 ↑(List.map i64 l).length)), (22, V.p (i64 i))], s := [] }, [(!(add s x).2 == 0) = true, PCall Try.prog 71 [i64 s, T.int IntKind.i64 x] [i64 (add s x).1, i64 (add s x).2], 0 ≤ i ∧ (List.map i64 l)[i.toNat]? = some (i64 x), decide (i < ↑(List.map i64 l).length) = true]) := by kernel_rfl
theorem sumB_1 (f : Bool) (l : List Int) (s : Int) (i : Int) (x : Int) :
    evB Try.prog (loopAt Try.f70 1) (sumS2 f l 0 0 s i) [Orc.br true, Orc.op 10 0 (Item.el (i64 x)), Orc.op 11 2 (HM.Item.call [i64 (add s x).1, i64 (add s x).2]), Orc.br false] sumK2 =
      some (Ex.normal, { n := 38, t := [(2, V.p (i64 0)), (3, V.p (i64 0)), (6, V.p (i64 (add s x).1)), (20, V.p (lsI f l)), (21, V.p (i64 ↑(List.map i64 l).length)), (22, V.p (T.int IntKind.i64 (IntKind.i64.wrap (i + 1))))], s := [] }, [(!(add s x).2 == 0) = false, PCall Try.prog 71 [i64 s, T.int IntKind.i64 x] [i64 (add s x).1, i64 (add s x).2], 0 ≤ i ∧ (List.map i64 l)[i.toNat]? = some (i64 x), decide (i < ↑(List.map i64 l).length) = true]) := by kernel_rfl
theorem sumB_2 (f : Bool) (l : List Int) (s : Int) (i : Int) (x : Int) :
    evB Try.prog (loopAt Try.f70 1) (sumS2 f l 0 0 s i) [Orc.br false] sumK2 =
      some (Ex.exit 2, { n := 38, t := [(2, V.p (i64 0)), (3, V.p (i64 0)), (6, V.p (i64 s)), (20, V.p (lsI f l)), (21, V.p (i64 ↑(List.map i64 l).length)), (22, V.p (i64 i))], s := [] }, [decide (i < ↑(List.map i64 l).length) = false]) := by kernel_rfl
theorem sum1_0 (f : Bool) (l : List Int) (i : Int) :
    evF Try.prog Try.f70 [lsI f l] [Orc.loop sumK Ex.ret (sumS f l 0 1 i)] =
      some ([i64 0, i64 1], [LoopR Try.prog (loopAt Try.f70 0) { n := 38, t := [(0, V.p (lsI f l)), (2, V.p (T.int IntKind.i64 0)), (3, V.p (T.int IntKind.i64 0)), (11, V.p (lsI f l)), (12, V.p (T.int IntKind.i64 ↑(List.map i64 l).length)), (13, V.p (T.int IntKind.i64 0))], s := [] } Ex.ret (sumS f l 0 1 i)]) := by kernel_rfl
theorem sum2_0 (f : Bool) (l : List Int) (i : Int) (e : Int) (s : Int) (j : Int) :
    evF Try.prog Try.f70 [lsI f l] [Orc.loop sumK (Ex.exit 0) (sumS f l 0 0 i), Orc.loop sumK2 Ex.ret (sumS2 f l 0 e s j)] =
      some ([i64 0, i64 e], [LoopR Try.prog (loopAt Try.f70 1) { n := 38, t := [(2, V.p (i64 0)), (3, V.p (i64 0)), (6, V.p (T.int IntKind.i64 0)), (20, V.p (lsI f l)), (21, V.p (T.int IntKind.i64 ↑(List.map i64 l).length)), (22, V.p (T.int IntKind.i64 0))], s := [] } Ex.ret (sumS2 f l 0 e s j), LoopR Try.prog (loopAt Try.f70 0) { n := 38, t := [(0, V.p (lsI f l)), (2, V.p (T.int IntKind.i64 0)), (3, V.p (T.int IntKind.i64 0)), (11, V.p (lsI f l)), (12, V.p (T.int IntKind.i64 ↑(List.map i64 l).length)), (13, V.p (T.int IntKind.i64 0))], s := [] } (Ex.exit 0) (sumS f l 0 0 i)]) := by kernel_rfl
theorem sum3_0 (f : Bool) (l : List Int) (i : Int) (s : Int) (j : Int) :
    evF Try.prog Try.f70 [lsI f l] [Orc.loop sumK (Ex.exit 0) (sumS f l 0 0 i), Orc.loop sumK2 (Ex.exit 2) (sumS2 f l 0 0 s j)] =
      some ([i64 s, T.int IntKind.i64 0], [LoopR Try.prog (loopAt Try.f70 1) { n := 38, t := [(2, V.p (i64 0)), (3, V.p (i64 0)), (6, V.p (T.int IntKind.i64 0)), (20, V.p (lsI f l)), (21, V.p (T.int IntKind.i64 ↑(List.map i64 l).length)), (22, V.p (T.int IntKind.i64 0))], s := [] } (Ex.exit 2) (sumS2 f l 0 0 s j), LoopR Try.prog (loopAt Try.f70 0) { n := 38, t := [(0, V.p (lsI f l)), (2, V.p (T.int IntKind.i64 0)), (3, V.p (T.int IntKind.i64 0)), (11, V.p (lsI f l)), (12, V.p (T.int IntKind.i64 ↑(List.map i64 l).length)), (13, V.p (T.int IntKind.i64 0))], s := [] } (Ex.exit 0) (sumS f l 0 0 i)]) := by kernel_rfl
theorem pl1_0 (h : Htlc) (b : Int) (i : Int) :
    evF Try.prog Try.f125 [h.t, (i64 b).rp 0, (i64 i).rp 0] [] =
      some ([T.bool (h.1 == b && h.2 == i)], []) := by kernel_rfl
theorem pl1_ok (h : Htlc) (b : Int) (i : Int) : PCall Try.prog 125 [h.t, (i64 b).rp 0, (i64 i).rp 0] [.bool (h.By == b && h.Id == i)] := by
  skip
  exact evF_sound Try.func125 (by rfl) (pl1_0 h b i) (by repeat first | exact trivial | refine And.intro (by first | assumption | rfl) ?_)
theorem ixA_0 (f : Bool) (l : List Htlc) (b : Int) (k : Int) (i : Int) (h : Htlc) :
    evB Try.prog (loopAt Try.f115 0) (ixS f l b k 0 i) [Orc.br true, Orc.op 4 3 (Item.el h.t), Orc.op 4 5 (HM.Item.call [T.bool (h.1 == b && h.2 == k)]), Orc.br true] ixK =
      some (Ex.ret, { n := 19, t := [(0, V.p (T.lst f 36 (List.map Htlc.t l))), (1, V.p (T.clo 125 [(i64 b).rp 0, (i64 k).rp 0])), (4, V.p (i64 i)), (6, V.p (T.lst f 36 (List.map Htlc.t l))), (7, V.p (i64 ↑(List.map Htlc.t l).length)), (8, V.p (i64 i))], s := [] }, [(h.1 == b && h.2 == k) = true, PCall Try.prog 125 [T.agg [i64 h.1, i64 h.2, i64 h.3, T.ba 32 h.4, i64 h.5], (i64 b).rp 0, (i64 k).rp 0] [T.bool (h.1 == b && h.2 == k)], 0 ≤ i ∧ (List.map Htlc.t l)[i.toNat]? = some h.t, decide (i < ↑(List.map Htlc.t l).length) = true]) := by kernel_rfl
theorem ixA_1 (f : Bool) (l : List Htlc) (b : Int) (k : Int) (i : Int) (h : Htlc) :
    evB Try.prog (loopAt Try.f115 0) (ixS f l b k 0 i) [Orc.br true, Orc.op 4 3 (Item.el h.t), Orc.op 4 5 (HM.Item.call [T.bool (h.1 == b && h.2 == k)]), Orc.br false] ixK =
      some (Ex.normal, { n := 19, t := [(0, V.p (T.lst f 36 (List.map Htlc.t l))), (1, V.p (T.clo 125 [(i64 b).rp 0, (i64 k).rp 0])), (4, V.p (i64 0)), (6, V.p (T.lst f 36 (List.map Htlc.t l))), (7, V.p (i64 ↑(List.map Htlc.t l).length)), (8, V.p (T.int IntKind.i64 (IntKind.i64.wrap (i + 1))))], s := [] }, [(h.1 == b && h.2 == k) = false, PCall Try.prog 125 [T.agg [i64 h.1, i64 h.2, i64 h.3, T.ba 32 h.4, i64 h.5], (i64 b).rp 0, (i64 k).rp 0] [T.bool (h.1 == b && h.2 == k)], 0 ≤ i ∧ (List.map Htlc.t l)[i.toNat]? = some h.t, decide (i < ↑(List.map Htlc.t l).length) = true]) := by kernel_rfl
theorem ixA_2 (f : Bool) (l : List Htlc) (b : Int) (k : Int) (i : Int) (h : Htlc) :
    evB Try.prog (loopAt Try.f115 0) (ixS f l b k 0 i) [Orc.br false] ixK =
      some (Ex.exit 0, { n := 19, t := [(0, V.p (T.lst f 36 (List.map Htlc.t l))), (1, V.p (T.clo 125 [(i64 b).rp 0, (i64 k).rp 0])), (4, V.p (i64 0)), (6, V.p (T.lst f 36 (List.map Htlc.t l))), (7, V.p (i64 ↑(List.map Htlc.t l).length)), (8, V.p (i64 i))], s := [] }, [decide (i < ↑(List.map Htlc.t l).length) = false]) := by kernel_rfl
theorem ix1_0 (f : Bool) (l : List Htlc) (b : Int) (k : Int) (i : Int) (r : Int) :
    evF Try.prog Try.f115 [T.lst f 36 (List.map Htlc.t l), T.clo 125 [(i64 b).rp 0, (i64 k).rp 0]] [Orc.loop ixK Ex.ret (ixS f l b k r i)] =
      some ([i64 r], [LoopR Try.prog (loopAt Try.f115 0) { n := 19, t := [(0, V.p (T.lst f 36 (List.map Htlc.t l))), (1, V.p (T.clo 125 [(i64 b).rp 0, (i64 k).rp 0])), (4, V.p (T.int IntKind.i64 0)), (6, V.p (T.lst f 36 (List.map Htlc.t l))), (7, V.p (T.int IntKind.i64 ↑(List.map Htlc.t l).length)), (8, V.p (T.int IntKind.i64 0))], s := [] } Ex.ret (ixS f l b k r i)]) := by kernel_rfl
theorem ix2_0 (f : Bool) (l : List Htlc) (b : Int) (k : Int) (i : Int) :
    evF Try.prog Try.f115 [T.lst f 36 (List.map Htlc.t l), T.clo 125 [(i64 b).rp 0, (i64 k).rp 0]] [Orc.loop ixK (Ex.exit 0) (ixS f l b k 0 i)] =
      some ([T.int IntKind.i64 (-1)], [LoopR Try.prog (loopAt Try.f115 0) { n := 19, t := [(0, V.p (T.lst f 36 (List.map Htlc.t l))), (1, V.p (T.clo 125 [(i64 b).rp 0, (i64 k).rp 0])), (4, V.p (T.int IntKind.i64 0)), (6, V.p (T.lst f 36 (List.map Htlc.t l))), (7, V.p (T.int IntKind.i64 ↑(List.map Htlc.t l).length)), (8, V.p (T.int IntKind.i64 0))], s := [] } (Ex.exit 0) (ixS f l b k 0 i)]) := by kernel_rfl
end Go.HM.Deal
