/- NEAR, part B: UpdatesBack. -/
import Derived.Test.YtbipkkebonohjaaNeA
import Derived.Test.YtbipkkebonohjaaHmRow
set_option maxRecDepth 100000
namespace Go.HM.Ne
open Go.Proofs Go.HM.Kec

theorem w64 {n : Int} (h1 : -9223372036854775808 ≤ n) (h2 : n ≤ 9223372036854775807) : IntKind.i64.wrap n = n := by
  unfold IntKind.wrap
  simp [IntKind.signed, IntKind.bits, BitVec.toInt_ofInt]
  omega

theorem lit64 {n : Int} (h : (Lit.int .i64 n).wf = true) : -9223372036854775808 ≤ n ∧ n ≤ 9223372036854775807 := by
  simpa [Lit.wf, IntKind.min, IntKind.max, IntKind.signed, IntKind.bits] using h

theorem back_neg (a : Int) (b : Bool) : runC (Cu K1) 30 9 [.int .i64 a, .bool b] [(302, true)] = some ([T.bool true], [decide (a < 0) = true]) := by kernel_rfl

theorem back_zero (a : Int) (b : Bool) : runC (Cu K1) 30 9 [.int .i64 a, .bool b] [(302, false), (16, true)] = some ([T.bool true], [(a == 0) = true, decide (a < 0) = false]) := by kernel_rfl

theorem back_t (a : Int) : runC (Cu K1) 30 9 [.int .i64 a, .bool true] [(302, false), (16, false), (3, false), (0, false), (5, false), (13, false), (0, false), (4, false), (1, false), (1, false), (4, false), (49, false), (0, false), (6, true), (11, false), (259, false), (49, false), (0, false), (6, true), (11, false), (260, false)] = some ([T.bool true], [decide (a < 1) = false, decide (IntKind.i64.wrap (IntKind.i64.wrap (1000 - IntKind.i64.wrap (0 + a)) + 0) < 0) = false, decide (IntKind.i64.wrap (1000 - IntKind.i64.wrap (0 + a)) > 0) = true, decide (0 > IntKind.i64.wrap (9223372036854775807 - a)) = false, decide (a < 0) = false, decide (a < 1) = false, decide (IntKind.i64.wrap (IntKind.i64.wrap (1000 - IntKind.i64.wrap (0 + a)) + 0) < 0) = false, decide (IntKind.i64.wrap (1000 - IntKind.i64.wrap (0 + a)) > 0) = true, decide (0 > IntKind.i64.wrap (9223372036854775807 - a)) = false, decide (a < 0) = false, decide (a < 1) = false, decide (IntKind.i64.wrap (0 + a) < 0) = false, decide (IntKind.i64.wrap (11 + a) > 1000) = false, decide (a > 800) = false, decide (11 > IntKind.i64.wrap (9223372036854775807 - a)) = false, decide (a < 0) = false, decide (a < 0) = false, decide (0 > IntKind.i64.wrap (9223372036854775807 - a)) = false, decide (a < 0) = false, (a == 0) = false, decide (a < 0) = false]) := by kernel_rfl

theorem back_f (a : Int) : runC (Cu K1) 30 9 [.int .i64 a, .bool false] [(302, false), (16, false), (3, false), (0, false), (5, false), (13, false), (0, false), (4, false), (1, false), (1, false), (4, false), (49, false), (0, false), (6, true), (11, false), (260, false), (49, false), (0, false), (6, true), (11, false), (260, false), (57, false), (0, false), (6, true), (11, false), (0, false), (0, false), (0, false), (0, false), (0, false), (0, false), (0, true), (0, true)] = some ([T.bool true], [(IntKind.i64.wrap (500 + IntKind.i64.wrap (0 + a)) == IntKind.i64.wrap (500 + a)) = true, (IntKind.i64.wrap (IntKind.i64.wrap (1000 - IntKind.i64.wrap (0 + a)) + 0) == IntKind.i64.wrap (1000 - a)) = true, false = false, false = false, false = false, false = false, false = false, decide (IntKind.i64.wrap (500 + IntKind.i64.wrap (0 + a)) < 0) = false, decide (IntKind.i64.wrap (IntKind.i64.wrap (1000 - IntKind.i64.wrap (0 + a)) + 0) < 0) = false, decide (IntKind.i64.wrap (1000 - IntKind.i64.wrap (0 + a)) > 0) = true, decide (0 > IntKind.i64.wrap (9223372036854775807 - a)) = false, decide (a < 0) = false, decide (a < 1) = false, decide (IntKind.i64.wrap (IntKind.i64.wrap (1000 - IntKind.i64.wrap (0 + a)) + 0) < 0) = false, decide (IntKind.i64.wrap (1000 - IntKind.i64.wrap (0 + a)) > 0) = true, decide (0 > IntKind.i64.wrap (9223372036854775807 - a)) = false, decide (a < 0) = false, decide (a < 1) = false, decide (IntKind.i64.wrap (IntKind.i64.wrap (1000 - IntKind.i64.wrap (0 + a)) + 0) < 0) = false, decide (IntKind.i64.wrap (1000 - IntKind.i64.wrap (0 + a)) > 0) = true, decide (0 > IntKind.i64.wrap (9223372036854775807 - a)) = false, decide (a < 0) = false, decide (a < 1) = false, decide (IntKind.i64.wrap (0 + a) < 0) = false, decide (IntKind.i64.wrap (11 + a) > 1000) = false, decide (a > 800) = false, decide (11 > IntKind.i64.wrap (9223372036854775807 - a)) = false, decide (a < 0) = false, decide (a < 0) = false, decide (0 > IntKind.i64.wrap (9223372036854775807 - a)) = false, decide (a < 0) = false, (a == 0) = false, decide (a < 0) = false]) := by kernel_rfl

theorem back_big (a : Int) (b : Bool) : runC (Cu K1) 30 9 [.int .i64 a, .bool b] [(302, false), (16, false), (3, false), (0, false), (5, false), (13, false), (0, false), (4, true)] = some ([T.bool true], [decide (a > 800) = true, decide (11 > IntKind.i64.wrap (9223372036854775807 - a)) = false, decide (a < 0) = false, decide (a < 0) = false, decide (0 > IntKind.i64.wrap (9223372036854775807 - a)) = false, decide (a < 0) = false, (a == 0) = false, decide (a < 0) = false]) := by kernel_rfl

theorem back_max (a : Int) (b : Bool) : runC (Cu K1) 30 9 [.int .i64 a, .bool b] [(302, false), (16, false), (3, false), (0, false), (5, false), (13, false), (0, true), (3, true)] = some ([T.bool true], [decide (a > 800) = true, decide (11 > IntKind.i64.wrap (9223372036854775807 - a)) = true, decide (a < 0) = false, decide (a < 0) = false, decide (0 > IntKind.i64.wrap (9223372036854775807 - a)) = false, decide (a < 0) = false, (a == 0) = false, decide (a < 0) = false]) := by kernel_rfl

theorem back_ok (a : Int) (b : Bool) (h : (Lit.int .i64 a).wf = true) : PCall Try.prog 9 [.int .i64 a, .bool b] [.bool true] := by
  obtain ⟨h1, h2⟩ := lit64 h
  by_cases c1 : a < 0
  · refine runC_sound (Cu_ok K1_ok) (back_neg a b) ?_
    and_intros <;> first | trivial | (simp (disch := omega) [w64]; try omega)
  by_cases c2 : a = 0
  · refine runC_sound (Cu_ok K1_ok) (back_zero a b) ?_
    and_intros <;> first | trivial | (simp (disch := omega) [w64]; try omega)
  by_cases c3 : a ≤ 800
  · cases b with
    | true =>
      refine runC_sound (Cu_ok K1_ok) (back_t a) ?_
      and_intros <;> first | trivial | (simp (disch := omega) [w64]; try omega)
    | false =>
      refine runC_sound (Cu_ok K1_ok) (back_f a) ?_
      and_intros <;> first | trivial | (simp (disch := omega) [w64]; try omega)
  by_cases c4 : 9223372036854775807 - a < 11
  · refine runC_sound (Cu_ok K1_ok) (back_max a b) ?_
    and_intros <;> first | trivial | (simp (disch := omega) [w64]; try omega)
  · refine runC_sound (Cu_ok K1_ok) (back_big a b) ?_
    and_intros <;> first | trivial | (simp (disch := omega) [w64]; try omega)

theorem back_args {xs : List T} (h : HasShs [.int .i64, .bool] xs) : PCall Try.prog 9 xs [.bool true] := by
  obtain ⟨_, _, rfl, ⟨a, rfl, ha⟩, _, _, rfl, ⟨b, rfl⟩, rfl⟩ := h
  exact back_ok a b ha
end Go.HM.Ne
