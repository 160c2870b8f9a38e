/- DEAL, part P: the paths (printed by a program of ours). -/
import Derived.Test.YtbipkkebonohjaaDcA
import Derived.Test.YtbipkkebonohjaaProg
set_option maxRecDepth 100000
namespace Go.HM.Deal
open Go.Proofs
theorem within_0 (n : Int) (l : Int) (m : Int) :
    evF Try.prog Try.f69 [i64 n, i64 l, i64 m] [] =
      some ([T.bool (decide (n ≥ l) && decide (n ≤ m))], []) := by kernel_rfl
theorem within_ok (n : Int) (l : Int) (m : Int) : PCall Try.prog 69 [i64 n, i64 l, i64 m] [.bool (within n l m)] := by
  unfold within
  exact evF_sound Try.func69 (by rfl) (within_0 n l m) (by repeat first | exact trivial | refine And.intro (by first | assumption | rfl) ?_)
theorem add_0 (n : Int) (l : Int) :
    evF Try.prog Try.f71 [i64 n, i64 l] [Orc.br true] =
      some ([T.int IntKind.i64 0, T.int IntKind.i64 1], [(decide (n < 0) || decide (l < 0)) = true]) := by kernel_rfl
theorem add_1 (n : Int) (l : Int) :
    evF Try.prog Try.f71 [i64 n, i64 l] [Orc.br false, Orc.br true] =
      some ([T.int IntKind.i64 0, T.int IntKind.i64 20], [decide (n > IntKind.i64.wrap (9223372036854775807 - l)) = true, (decide (n < 0) || decide (l < 0)) = false]) := by kernel_rfl
theorem add_2 (n : Int) (l : Int) :
    evF Try.prog Try.f71 [i64 n, i64 l] [Orc.br false, Orc.br false] =
      some ([T.int IntKind.i64 (IntKind.i64.wrap (n + l)), T.int IntKind.i64 0], [decide (n > IntKind.i64.wrap (9223372036854775807 - l)) = false, (decide (n < 0) || decide (l < 0)) = false]) := by kernel_rfl
theorem add_ok (n : Int) (l : Int) : PCall Try.prog 71 [i64 n, i64 l] [i64 (add n l).1, i64 (add n l).2] := by
  unfold add
  cases h0 : (decide (n < 0) || decide (l < 0)) with
  | true =>
    exact evF_sound Try.func71 (by rfl) (add_0 n l) (by repeat first | exact trivial | refine And.intro (by first | assumption | rfl) ?_)
  | false =>
    cases h1 : (decide (n > IntKind.i64.wrap (9223372036854775807 - l))) with
    | true =>
      exact evF_sound Try.func71 (by rfl) (add_1 n l) (by repeat first | exact trivial | refine And.intro (by first | assumption | rfl) ?_)
    | false =>
      exact evF_sound Try.func71 (by rfl) (add_2 n l) (by repeat first | exact trivial | refine And.intro (by first | assumption | rfl) ?_)
theorem sumA_0 (f : Bool) (l : List Int) (i : Int) (x : Int) :
    evB Try.prog (loopAt Try.f70 0) (sumS f l 0 0 i) [Orc.br true, Orc.op 3 0 (Item.el (i64 x)), Orc.br true] sumK =
      some (Ex.ret, { n := 38, t := [(0, V.p (lsI f l)), (2, V.p (T.int IntKind.i64 0)), (3, V.p (T.int IntKind.i64 1)), (11, V.p (lsI f l)), (12, V.p (i64 ↑(List.map i64 l).length)), (13, V.p (i64 i))], s := [] }, [decide (x < 0) = true, 0 ≤ i ∧ (List.map i64 l)[i.toNat]? = some (i64 x), decide (i < ↑(List.map i64 l).length) = true]) := by kernel_rfl
theorem sumA_1 (f : Bool) (l : List Int) (i : Int) (x : Int) :
    evB Try.prog (loopAt Try.f70 0) (sumS f l 0 0 i) [Orc.br true, Orc.op 3 0 (Item.el (i64 x)), Orc.br false] sumK =
      some (Ex.normal, { n := 38, t := [(0, V.p (lsI f l)), (2, V.p (i64 0)), (3, V.p (i64 0)), (11, V.p (lsI f l)), (12, V.p (i64 ↑(List.map i64 l).length)), (13, V.p (T.int IntKind.i64 (IntKind.i64.wrap (i + 1))))], s := [] }, [decide (x < 0) = false, 0 ≤ i ∧ (List.map i64 l)[i.toNat]? = some (i64 x), decide (i < ↑(List.map i64 l).length) = true]) := by kernel_rfl
theorem sumA_2 (f : Bool) (l : List Int) (i : Int) (x : Int) :
    evB Try.prog (loopAt Try.f70 0) (sumS f l 0 0 i) [Orc.br false] sumK =
      some (Ex.exit 0, { n := 38, t := [(0, V.p (lsI f l)), (2, V.p (i64 0)), (3, V.p (i64 0)), (11, V.p (lsI f l)), (12, V.p (i64 ↑(List.map i64 l).length)), (13, V.p (i64 i))], s := [] }, [decide (i < ↑(List.map i64 l).length) = false]) := by kernel_rfl
theorem sumB_0 (f : Bool) (l : List Int) (s : Int) (i : Int) (x : Int) :
    evB Try.prog (loopAt Try.f70 1) (sumS2 f l 0 0 s i) [Orc.br true, Orc.op 10 0 (Item.el (i64 x)), Orc.op 11 2 (HM.Item.call [i64 (add s x).1, i64 (add s x).2]), Orc.br true] sumK2 =
      some (Ex.ret, { n := 38, t := [(2, V.p (T.int IntKind.i64 0)), (3, V.p (i64 (add s x).2)), (6, V.p (i64 s)), (20, V.p (lsI f l)), (21, V.p (i64 ↑(List.map i64 l).length)), (22, V.p (i64 i))], s := [] }, [(!(add s x).2 == 0) = true, PCall Try.prog 71 [i64 s, T.int IntKind.i64 x] [i64 (add s x).1, i64 (add s x).2], 0 ≤ i ∧ (List.map i64 l)[i.toNat]? = some (i64 x), decide (i < ↑(List.map i64 l).length) = true]) := by kernel_rfl
theorem sumB_1 (f : Bool) (l : List Int) (s : Int) (i : Int) (x : Int) :
    evB Try.prog (loopAt Try.f70 1) (sumS2 f l 0 0 s i) [Orc.br true, Orc.op 10 0 (Item.el (i64 x)), Orc.op 11 2 (HM.Item.call [i64 (add s x).1, i64 (add s x).2]), Orc.br false] sumK2 =
      some (Ex.normal, { n := 38, t := [(2, V.p (i64 0)), (3, V.p (i64 0)), (6, V.p (i64 (add s x).1)), (20, V.p (lsI f l)), (21, V.p (i64 ↑(List.map i64 l).length)), (22, V.p (T.int IntKind.i64 (IntKind.i64.wrap (i + 1))))], s := [] }, [(!(add s x).2 == 0) = false, PCall Try.prog 71 [i64 s, T.int IntKind.i64 x] [i64 (add s x).1, i64 (add s x).2], 0 ≤ i ∧ (List.map i64 l)[i.toNat]? = some (i64 x), decide (i < ↑(List.map i64 l).length) = true]) := by kernel_rfl
theorem sumB_2 (f : Bool) (l : List Int) (s : Int) (i : Int) (x : Int) :
    evB Try.prog (loopAt Try.f70 1) (sumS2 f l 0 0 s i) [Orc.br false] sumK2 =
      some (Ex.exit 2, { n := 38, t := [(2, V.p (i64 0)), (3, V.p (i64 0)), (6, V.p (i64 s)), (20, V.p (lsI f l)), (21, V.p (i64 ↑(List.map i64 l).length)), (22, V.p (i64 i))], s := [] }, [decide (i < ↑(List.map i64 l).length) = false]) := by kernel_rfl
theorem sum1_0 (f : Bool) (l : List Int) (i : Int) :
    evF Try.prog Try.f70 [lsI f l] [Orc.loop sumK Ex.ret (sumS f l 0 1 i)] =
      some ([i64 0, i64 1], [LoopR Try.prog (loopAt Try.f70 0) { n := 38, t := [(0, V.p (lsI f l)), (2, V.p (T.int IntKind.i64 0)), (3, V.p (T.int IntKind.i64 0)), (11, V.p (lsI f l)), (12, V.p (T.int IntKind.i64 ↑(List.map i64 l).length)), (13, V.p (T.int IntKind.i64 0))], s := [] } Ex.ret (sumS f l 0 1 i)]) := by kernel_rfl
theorem sum2_0 (f : Bool) (l : List Int) (i : Int) (e : Int) (s : Int) (j : Int) :
    evF Try.prog Try.f70 [lsI f l] [Orc.loop sumK (Ex.exit 0) (sumS f l 0 0 i), Orc.loop sumK2 Ex.ret (sumS2 f l 0 e s j)] =
      some ([i64 0, i64 e], [LoopR Try.prog (loopAt Try.f70 1) { n := 38, t := [(2, V.p (i64 0)), (3, V.p (i64 0)), (6, V.p (T.int IntKind.i64 0)), (20, V.p (lsI f l)), (21, V.p (T.int IntKind.i64 ↑(List.map i64 l).length)), (22, V.p (T.int IntKind.i64 0))], s := [] } Ex.ret (sumS2 f l 0 e s j), LoopR Try.prog (loopAt Try.f70 0) { n := 38, t := [(0, V.p (lsI f l)), (2, V.p (T.int IntKind.i64 0)), (3, V.p (T.int IntKind.i64 0)), (11, V.p (lsI f l)), (12, V.p (T.int IntKind.i64 ↑(List.map i64 l).length)), (13, V.p (T.int IntKind.i64 0))], s := [] } (Ex.exit 0) (sumS f l 0 0 i)]) := by kernel_rfl
theorem sum3_0 (f : Bool) (l : List Int) (i : Int) (s : Int) (j : Int) :
    evF Try.prog Try.f70 [lsI f l] [Orc.loop sumK (Ex.exit 0) (sumS f l 0 0 i), Orc.loop sumK2 (Ex.exit 2) (sumS2 f l 0 0 s j)] =
      some ([i64 s, T.int IntKind.i64 0], [LoopR Try.prog (loopAt Try.f70 1) { n := 38, t := [(2, V.p (i64 0)), (3, V.p (i64 0)), (6, V.p (T.int IntKind.i64 0)), (20, V.p (lsI f l)), (21, V.p (T.int IntKind.i64 ↑(List.map i64 l).length)), (22, V.p (T.int IntKind.i64 0))], s := [] } (Ex.exit 2) (sumS2 f l 0 0 s j), LoopR Try.prog (loopAt Try.f70 0) { n := 38, t := [(0, V.p (lsI f l)), (2, V.p (T.int IntKind.i64 0)), (3, V.p (T.int IntKind.i64 0)), (11, V.p (lsI f l)), (12, V.p (T.int IntKind.i64 ↑(List.map i64 l).length)), (13, V.p (T.int IntKind.i64 0))], s := [] } (Ex.exit 0) (sumS f l 0 0 i)]) := by kernel_rfl
end Go.HM.Deal
