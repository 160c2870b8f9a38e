/- RES, part C: ResolverTimes. -/
import Derived.Test.YtbipkkebonohjaaReB
import Derived.Test.YtbipkkebonohjaaHmRow
set_option maxRecDepth 100000
namespace Go.HM.Re
open Go.Proofs Go.HM.Kec

theorem times_ok (ex he : Int) (k : Bool) : PCall Try.prog 4 [.int .i64 ex, .int .i64 he, .bool k] [.bool true] := by
  cases k
  · by_cases c2 : ex < 0
    · refine runK_sound (Cr_ok K6_ok) (times_2_false ex he) ?_
      repeat first | exact True.intro | refine And.intro (by simp; omega) ?_
    by_cases c3 : ex > 1000
    · refine runK_sound (Cr_ok K6_ok) (times_3_false ex he) ?_
      repeat first | exact True.intro | refine And.intro (by simp; omega) ?_
    by_cases c4 : he < 0
    · refine runK_sound (Cr_ok K6_ok) (times_4_false ex he) ?_
      repeat first | exact True.intro | refine And.intro (by simp; omega) ?_
    by_cases c5 : he > 2000
    · refine runK_sound (Cr_ok K6_ok) (times_5_false ex he) ?_
      repeat first | exact True.intro | refine And.intro (by simp; omega) ?_
    by_cases c1 : ex ≤ he
    · refine runK_sound (Cr_ok K6_ok) (times_1_false ex he) ?_
      repeat first | exact True.intro | refine And.intro (by simp; omega) ?_
    refine runK_sound (Cr_ok K6_ok) (times_0_false ex he) ?_
    repeat first | exact True.intro | refine And.intro (by simp; omega) ?_
  · by_cases c2 : ex < 0
    · refine runK_sound (Cr_ok K6_ok) (times_2_true ex he) ?_
      repeat first | exact True.intro | refine And.intro (by simp; omega) ?_
    by_cases c3 : ex > 1000
    · refine runK_sound (Cr_ok K6_ok) (times_3_true ex he) ?_
      repeat first | exact True.intro | refine And.intro (by simp; omega) ?_
    by_cases c4 : he < 0
    · refine runK_sound (Cr_ok K6_ok) (times_4_true ex he) ?_
      repeat first | exact True.intro | refine And.intro (by simp; omega) ?_
    by_cases c5 : he > 2000
    · refine runK_sound (Cr_ok K6_ok) (times_5_true ex he) ?_
      repeat first | exact True.intro | refine And.intro (by simp; omega) ?_
    by_cases c1 : ex ≤ he
    · refine runK_sound (Cr_ok K6_ok) (times_1_true ex he) ?_
      repeat first | exact True.intro | refine And.intro (by simp; omega) ?_
    refine runK_sound (Cr_ok K6_ok) (times_0_true ex he) ?_
    repeat first | exact True.intro | refine And.intro (by simp; omega) ?_

theorem times_args {xs : List T} (h : HasShs [.int .i64, .int .i64, .bool] xs) : PCall Try.prog 4 xs [.bool true] := by
  obtain ⟨_, _, rfl, ⟨a, rfl, _⟩, _, _, rfl, ⟨b, rfl, _⟩, _, _, rfl, ⟨c, rfl⟩, rfl⟩ := h
  exact times_ok a b c
end Go.HM.Re
