/- NEAR, part D: UpdatesLimits. -/
import Derived.Test.YtbipkkebonohjaaNeC
import Derived.Test.YtbipkkebonohjaaHmRow
set_option maxRecDepth 100000
namespace Go.HM.Ne
open Go.Proofs Go.HM.Kec

theorem wm_ok {id am : Int} (h1 : 0 ≤ id) (h2 : id ≤ 2147483647) (h3 : 0 ≤ am) : PCall Try.prog 110 [mT id am] [.bool true] := by
  refine runK_sound (Cu_ok K2_ok) (wm_run id am) ?_
  and_intros <;> first | trivial | (simp; omega)

theorem mOk_0 {sl fl re : Int} (h1 : 0 < sl) (h2 : sl ≤ 16) (h3 : 16 ≤ fl) (h4 : fl ≤ 900) (h5 : 0 ≤ re) (h6 : re ≤ 90) : PCall Try.prog 53 [tT sl fl re, .lst true 137 [], .lst true 137 [], .int .i64 0, mT 0 1] [.int .i64 0] := by
  refine runQ_sound Cm_ok (mayOk_0 sl fl re) ?_
  repeat first | exact trivial | refine And.intro (by first | exact wm_ok (by omega) (by omega) (by omega) | (simp (disch := omega) [w64]; done) | (simp (disch := omega) [w64]; omega)) ?_

theorem mOk_1 {sl fl re : Int} (h1 : 1 < sl) (h2 : sl ≤ 16) (h3 : 16 ≤ fl) (h4 : fl ≤ 900) (h5 : 0 ≤ re) (h6 : re ≤ 90) : PCall Try.prog 53 [tT sl fl re, .lst false 137 [mT 0 1], .lst true 137 [], .int .i64 0, mT 1 1] [.int .i64 0] := by
  refine runQ_sound Cm_ok (mayOk_1 sl fl re) ?_
  repeat first | exact trivial | refine And.intro (by first | exact wm_ok (by omega) (by omega) (by omega) | (simp (disch := omega) [w64]; done) | (simp (disch := omega) [w64]; omega)) ?_

theorem mOk_2 {sl fl re : Int} (h1 : 2 < sl) (h2 : sl ≤ 16) (h3 : 16 ≤ fl) (h4 : fl ≤ 900) (h5 : 0 ≤ re) (h6 : re ≤ 90) : PCall Try.prog 53 [tT sl fl re, .lst false 137 [mT 0 1, mT 1 1], .lst true 137 [], .int .i64 0, mT 2 1] [.int .i64 0] := by
  refine runQ_sound Cm_ok (mayOk_2 sl fl re) ?_
  repeat first | exact trivial | refine And.intro (by first | exact wm_ok (by omega) (by omega) (by omega) | (simp (disch := omega) [w64]; done) | (simp (disch := omega) [w64]; omega)) ?_

theorem mOk_3 {sl fl re : Int} (h1 : 3 < sl) (h2 : sl ≤ 16) (h3 : 16 ≤ fl) (h4 : fl ≤ 900) (h5 : 0 ≤ re) (h6 : re ≤ 90) : PCall Try.prog 53 [tT sl fl re, .lst false 137 [mT 0 1, mT 1 1, mT 2 1], .lst true 137 [], .int .i64 0, mT 3 1] [.int .i64 0] := by
  refine runQ_sound Cm_ok (mayOk_3 sl fl re) ?_
  repeat first | exact trivial | refine And.intro (by first | exact wm_ok (by omega) (by omega) (by omega) | (simp (disch := omega) [w64]; done) | (simp (disch := omega) [w64]; omega)) ?_

theorem mOk_4 {sl fl re : Int} (h1 : 4 < sl) (h2 : sl ≤ 16) (h3 : 16 ≤ fl) (h4 : fl ≤ 900) (h5 : 0 ≤ re) (h6 : re ≤ 90) : PCall Try.prog 53 [tT sl fl re, .lst false 137 [mT 0 1, mT 1 1, mT 2 1, mT 3 1], .lst true 137 [], .int .i64 0, mT 4 1] [.int .i64 0] := by
  refine runQ_sound Cm_ok (mayOk_4 sl fl re) ?_
  repeat first | exact trivial | refine And.intro (by first | exact wm_ok (by omega) (by omega) (by omega) | (simp (disch := omega) [w64]; done) | (simp (disch := omega) [w64]; omega)) ?_

theorem mOk_5 {sl fl re : Int} (h1 : 5 < sl) (h2 : sl ≤ 16) (h3 : 16 ≤ fl) (h4 : fl ≤ 900) (h5 : 0 ≤ re) (h6 : re ≤ 90) : PCall Try.prog 53 [tT sl fl re, .lst false 137 [mT 0 1, mT 1 1, mT 2 1, mT 3 1, mT 4 1], .lst true 137 [], .int .i64 0, mT 5 1] [.int .i64 0] := by
  refine runQ_sound Cm_ok (mayOk_5 sl fl re) ?_
  repeat first | exact trivial | refine And.intro (by first | exact wm_ok (by omega) (by omega) (by omega) | (simp (disch := omega) [w64]; done) | (simp (disch := omega) [w64]; omega)) ?_

theorem mOk_6 {sl fl re : Int} (h1 : 6 < sl) (h2 : sl ≤ 16) (h3 : 16 ≤ fl) (h4 : fl ≤ 900) (h5 : 0 ≤ re) (h6 : re ≤ 90) : PCall Try.prog 53 [tT sl fl re, .lst false 137 [mT 0 1, mT 1 1, mT 2 1, mT 3 1, mT 4 1, mT 5 1], .lst true 137 [], .int .i64 0, mT 6 1] [.int .i64 0] := by
  refine runQ_sound Cm_ok (mayOk_6 sl fl re) ?_
  repeat first | exact trivial | refine And.intro (by first | exact wm_ok (by omega) (by omega) (by omega) | (simp (disch := omega) [w64]; done) | (simp (disch := omega) [w64]; omega)) ?_

theorem mOk_7 {sl fl re : Int} (h1 : 7 < sl) (h2 : sl ≤ 16) (h3 : 16 ≤ fl) (h4 : fl ≤ 900) (h5 : 0 ≤ re) (h6 : re ≤ 90) : PCall Try.prog 53 [tT sl fl re, .lst false 137 [mT 0 1, mT 1 1, mT 2 1, mT 3 1, mT 4 1, mT 5 1, mT 6 1], .lst true 137 [], .int .i64 0, mT 7 1] [.int .i64 0] := by
  refine runQ_sound Cm_ok (mayOk_7 sl fl re) ?_
  repeat first | exact trivial | refine And.intro (by first | exact wm_ok (by omega) (by omega) (by omega) | (simp (disch := omega) [w64]; done) | (simp (disch := omega) [w64]; omega)) ?_

theorem mOk_8 {sl fl re : Int} (h1 : 8 < sl) (h2 : sl ≤ 16) (h3 : 16 ≤ fl) (h4 : fl ≤ 900) (h5 : 0 ≤ re) (h6 : re ≤ 90) : PCall Try.prog 53 [tT sl fl re, .lst false 137 [mT 0 1, mT 1 1, mT 2 1, mT 3 1, mT 4 1, mT 5 1, mT 6 1, mT 7 1], .lst true 137 [], .int .i64 0, mT 8 1] [.int .i64 0] := by
  refine runQ_sound Cm_ok (mayOk_8 sl fl re) ?_
  repeat first | exact trivial | refine And.intro (by first | exact wm_ok (by omega) (by omega) (by omega) | (simp (disch := omega) [w64]; done) | (simp (disch := omega) [w64]; omega)) ?_

theorem mOk_9 {sl fl re : Int} (h1 : 9 < sl) (h2 : sl ≤ 16) (h3 : 16 ≤ fl) (h4 : fl ≤ 900) (h5 : 0 ≤ re) (h6 : re ≤ 90) : PCall Try.prog 53 [tT sl fl re, .lst false 137 [mT 0 1, mT 1 1, mT 2 1, mT 3 1, mT 4 1, mT 5 1, mT 6 1, mT 7 1, mT 8 1], .lst true 137 [], .int .i64 0, mT 9 1] [.int .i64 0] := by
  refine runQ_sound Cm_ok (mayOk_9 sl fl re) ?_
  repeat first | exact trivial | refine And.intro (by first | exact wm_ok (by omega) (by omega) (by omega) | (simp (disch := omega) [w64]; done) | (simp (disch := omega) [w64]; omega)) ?_

theorem mOk_10 {sl fl re : Int} (h1 : 10 < sl) (h2 : sl ≤ 16) (h3 : 16 ≤ fl) (h4 : fl ≤ 900) (h5 : 0 ≤ re) (h6 : re ≤ 90) : PCall Try.prog 53 [tT sl fl re, .lst false 137 [mT 0 1, mT 1 1, mT 2 1, mT 3 1, mT 4 1, mT 5 1, mT 6 1, mT 7 1, mT 8 1, mT 9 1], .lst true 137 [], .int .i64 0, mT 10 1] [.int .i64 0] := by
  refine runQ_sound Cm_ok (mayOk_10 sl fl re) ?_
  repeat first | exact trivial | refine And.intro (by first | exact wm_ok (by omega) (by omega) (by omega) | (simp (disch := omega) [w64]; done) | (simp (disch := omega) [w64]; omega)) ?_

theorem mOk_11 {sl fl re : Int} (h1 : 11 < sl) (h2 : sl ≤ 16) (h3 : 16 ≤ fl) (h4 : fl ≤ 900) (h5 : 0 ≤ re) (h6 : re ≤ 90) : PCall Try.prog 53 [tT sl fl re, .lst false 137 [mT 0 1, mT 1 1, mT 2 1, mT 3 1, mT 4 1, mT 5 1, mT 6 1, mT 7 1, mT 8 1, mT 9 1, mT 10 1], .lst true 137 [], .int .i64 0, mT 11 1] [.int .i64 0] := by
  refine runQ_sound Cm_ok (mayOk_11 sl fl re) ?_
  repeat first | exact trivial | refine And.intro (by first | exact wm_ok (by omega) (by omega) (by omega) | (simp (disch := omega) [w64]; done) | (simp (disch := omega) [w64]; omega)) ?_

theorem mOk_12 {sl fl re : Int} (h1 : 12 < sl) (h2 : sl ≤ 16) (h3 : 16 ≤ fl) (h4 : fl ≤ 900) (h5 : 0 ≤ re) (h6 : re ≤ 90) : PCall Try.prog 53 [tT sl fl re, .lst false 137 [mT 0 1, mT 1 1, mT 2 1, mT 3 1, mT 4 1, mT 5 1, mT 6 1, mT 7 1, mT 8 1, mT 9 1, mT 10 1, mT 11 1], .lst true 137 [], .int .i64 0, mT 12 1] [.int .i64 0] := by
  refine runQ_sound Cm_ok (mayOk_12 sl fl re) ?_
  repeat first | exact trivial | refine And.intro (by first | exact wm_ok (by omega) (by omega) (by omega) | (simp (disch := omega) [w64]; done) | (simp (disch := omega) [w64]; omega)) ?_

theorem mOk_13 {sl fl re : Int} (h1 : 13 < sl) (h2 : sl ≤ 16) (h3 : 16 ≤ fl) (h4 : fl ≤ 900) (h5 : 0 ≤ re) (h6 : re ≤ 90) : PCall Try.prog 53 [tT sl fl re, .lst false 137 [mT 0 1, mT 1 1, mT 2 1, mT 3 1, mT 4 1, mT 5 1, mT 6 1, mT 7 1, mT 8 1, mT 9 1, mT 10 1, mT 11 1, mT 12 1], .lst true 137 [], .int .i64 0, mT 13 1] [.int .i64 0] := by
  refine runQ_sound Cm_ok (mayOk_13 sl fl re) ?_
  repeat first | exact trivial | refine And.intro (by first | exact wm_ok (by omega) (by omega) (by omega) | (simp (disch := omega) [w64]; done) | (simp (disch := omega) [w64]; omega)) ?_

theorem mOk_14 {sl fl re : Int} (h1 : 14 < sl) (h2 : sl ≤ 16) (h3 : 16 ≤ fl) (h4 : fl ≤ 900) (h5 : 0 ≤ re) (h6 : re ≤ 90) : PCall Try.prog 53 [tT sl fl re, .lst false 137 [mT 0 1, mT 1 1, mT 2 1, mT 3 1, mT 4 1, mT 5 1, mT 6 1, mT 7 1, mT 8 1, mT 9 1, mT 10 1, mT 11 1, mT 12 1, mT 13 1], .lst true 137 [], .int .i64 0, mT 14 1] [.int .i64 0] := by
  refine runQ_sound Cm_ok (mayOk_14 sl fl re) ?_
  repeat first | exact trivial | refine And.intro (by first | exact wm_ok (by omega) (by omega) (by omega) | (simp (disch := omega) [w64]; done) | (simp (disch := omega) [w64]; omega)) ?_

theorem mOk_15 {sl fl re : Int} (h1 : 15 < sl) (h2 : sl ≤ 16) (h3 : 16 ≤ fl) (h4 : fl ≤ 900) (h5 : 0 ≤ re) (h6 : re ≤ 90) : PCall Try.prog 53 [tT sl fl re, .lst false 137 [mT 0 1, mT 1 1, mT 2 1, mT 3 1, mT 4 1, mT 5 1, mT 6 1, mT 7 1, mT 8 1, mT 9 1, mT 10 1, mT 11 1, mT 12 1, mT 13 1, mT 14 1], .lst true 137 [], .int .i64 0, mT 15 1] [.int .i64 0] := by
  refine runQ_sound Cm_ok (mayOk_15 sl fl re) ?_
  repeat first | exact trivial | refine And.intro (by first | exact wm_ok (by omega) (by omega) (by omega) | (simp (disch := omega) [w64]; done) | (simp (disch := omega) [w64]; omega)) ?_

theorem mSl_1 {fl re : Int} (h3 : 16 ≤ fl) (h4 : fl ≤ 900) (h5 : 0 ≤ re) (h6 : re ≤ 90) : PCall Try.prog 53 [tT 1 fl re, .lst false 137 [mT 0 1], .lst true 137 [], .int .i64 0, mT 1 1] [.int .i64 150] := by
  refine runQ_sound Cm_ok (maySlots_1 fl re) ?_
  repeat first | exact trivial | refine And.intro (by first | exact wm_ok (by omega) (by omega) (by omega) | (simp (disch := omega) [w64]; done) | (simp (disch := omega) [w64]; omega)) ?_

theorem mSl_2 {fl re : Int} (h3 : 16 ≤ fl) (h4 : fl ≤ 900) (h5 : 0 ≤ re) (h6 : re ≤ 90) : PCall Try.prog 53 [tT 2 fl re, .lst false 137 [mT 0 1, mT 1 1], .lst true 137 [], .int .i64 0, mT 2 1] [.int .i64 150] := by
  refine runQ_sound Cm_ok (maySlots_2 fl re) ?_
  repeat first | exact trivial | refine And.intro (by first | exact wm_ok (by omega) (by omega) (by omega) | (simp (disch := omega) [w64]; done) | (simp (disch := omega) [w64]; omega)) ?_

theorem mSl_3 {fl re : Int} (h3 : 16 ≤ fl) (h4 : fl ≤ 900) (h5 : 0 ≤ re) (h6 : re ≤ 90) : PCall Try.prog 53 [tT 3 fl re, .lst false 137 [mT 0 1, mT 1 1, mT 2 1], .lst true 137 [], .int .i64 0, mT 3 1] [.int .i64 150] := by
  refine runQ_sound Cm_ok (maySlots_3 fl re) ?_
  repeat first | exact trivial | refine And.intro (by first | exact wm_ok (by omega) (by omega) (by omega) | (simp (disch := omega) [w64]; done) | (simp (disch := omega) [w64]; omega)) ?_

theorem mSl_4 {fl re : Int} (h3 : 16 ≤ fl) (h4 : fl ≤ 900) (h5 : 0 ≤ re) (h6 : re ≤ 90) : PCall Try.prog 53 [tT 4 fl re, .lst false 137 [mT 0 1, mT 1 1, mT 2 1, mT 3 1], .lst true 137 [], .int .i64 0, mT 4 1] [.int .i64 150] := by
  refine runQ_sound Cm_ok (maySlots_4 fl re) ?_
  repeat first | exact trivial | refine And.intro (by first | exact wm_ok (by omega) (by omega) (by omega) | (simp (disch := omega) [w64]; done) | (simp (disch := omega) [w64]; omega)) ?_

theorem mSl_5 {fl re : Int} (h3 : 16 ≤ fl) (h4 : fl ≤ 900) (h5 : 0 ≤ re) (h6 : re ≤ 90) : PCall Try.prog 53 [tT 5 fl re, .lst false 137 [mT 0 1, mT 1 1, mT 2 1, mT 3 1, mT 4 1], .lst true 137 [], .int .i64 0, mT 5 1] [.int .i64 150] := by
  refine runQ_sound Cm_ok (maySlots_5 fl re) ?_
  repeat first | exact trivial | refine And.intro (by first | exact wm_ok (by omega) (by omega) (by omega) | (simp (disch := omega) [w64]; done) | (simp (disch := omega) [w64]; omega)) ?_

theorem mSl_6 {fl re : Int} (h3 : 16 ≤ fl) (h4 : fl ≤ 900) (h5 : 0 ≤ re) (h6 : re ≤ 90) : PCall Try.prog 53 [tT 6 fl re, .lst false 137 [mT 0 1, mT 1 1, mT 2 1, mT 3 1, mT 4 1, mT 5 1], .lst true 137 [], .int .i64 0, mT 6 1] [.int .i64 150] := by
  refine runQ_sound Cm_ok (maySlots_6 fl re) ?_
  repeat first | exact trivial | refine And.intro (by first | exact wm_ok (by omega) (by omega) (by omega) | (simp (disch := omega) [w64]; done) | (simp (disch := omega) [w64]; omega)) ?_

theorem mSl_7 {fl re : Int} (h3 : 16 ≤ fl) (h4 : fl ≤ 900) (h5 : 0 ≤ re) (h6 : re ≤ 90) : PCall Try.prog 53 [tT 7 fl re, .lst false 137 [mT 0 1, mT 1 1, mT 2 1, mT 3 1, mT 4 1, mT 5 1, mT 6 1], .lst true 137 [], .int .i64 0, mT 7 1] [.int .i64 150] := by
  refine runQ_sound Cm_ok (maySlots_7 fl re) ?_
  repeat first | exact trivial | refine And.intro (by first | exact wm_ok (by omega) (by omega) (by omega) | (simp (disch := omega) [w64]; done) | (simp (disch := omega) [w64]; omega)) ?_

theorem mSl_8 {fl re : Int} (h3 : 16 ≤ fl) (h4 : fl ≤ 900) (h5 : 0 ≤ re) (h6 : re ≤ 90) : PCall Try.prog 53 [tT 8 fl re, .lst false 137 [mT 0 1, mT 1 1, mT 2 1, mT 3 1, mT 4 1, mT 5 1, mT 6 1, mT 7 1], .lst true 137 [], .int .i64 0, mT 8 1] [.int .i64 150] := by
  refine runQ_sound Cm_ok (maySlots_8 fl re) ?_
  repeat first | exact trivial | refine And.intro (by first | exact wm_ok (by omega) (by omega) (by omega) | (simp (disch := omega) [w64]; done) | (simp (disch := omega) [w64]; omega)) ?_

theorem mSl_9 {fl re : Int} (h3 : 16 ≤ fl) (h4 : fl ≤ 900) (h5 : 0 ≤ re) (h6 : re ≤ 90) : PCall Try.prog 53 [tT 9 fl re, .lst false 137 [mT 0 1, mT 1 1, mT 2 1, mT 3 1, mT 4 1, mT 5 1, mT 6 1, mT 7 1, mT 8 1], .lst true 137 [], .int .i64 0, mT 9 1] [.int .i64 150] := by
  refine runQ_sound Cm_ok (maySlots_9 fl re) ?_
  repeat first | exact trivial | refine And.intro (by first | exact wm_ok (by omega) (by omega) (by omega) | (simp (disch := omega) [w64]; done) | (simp (disch := omega) [w64]; omega)) ?_

theorem mSl_10 {fl re : Int} (h3 : 16 ≤ fl) (h4 : fl ≤ 900) (h5 : 0 ≤ re) (h6 : re ≤ 90) : PCall Try.prog 53 [tT 10 fl re, .lst false 137 [mT 0 1, mT 1 1, mT 2 1, mT 3 1, mT 4 1, mT 5 1, mT 6 1, mT 7 1, mT 8 1, mT 9 1], .lst true 137 [], .int .i64 0, mT 10 1] [.int .i64 150] := by
  refine runQ_sound Cm_ok (maySlots_10 fl re) ?_
  repeat first | exact trivial | refine And.intro (by first | exact wm_ok (by omega) (by omega) (by omega) | (simp (disch := omega) [w64]; done) | (simp (disch := omega) [w64]; omega)) ?_

theorem mSl_11 {fl re : Int} (h3 : 16 ≤ fl) (h4 : fl ≤ 900) (h5 : 0 ≤ re) (h6 : re ≤ 90) : PCall Try.prog 53 [tT 11 fl re, .lst false 137 [mT 0 1, mT 1 1, mT 2 1, mT 3 1, mT 4 1, mT 5 1, mT 6 1, mT 7 1, mT 8 1, mT 9 1, mT 10 1], .lst true 137 [], .int .i64 0, mT 11 1] [.int .i64 150] := by
  refine runQ_sound Cm_ok (maySlots_11 fl re) ?_
  repeat first | exact trivial | refine And.intro (by first | exact wm_ok (by omega) (by omega) (by omega) | (simp (disch := omega) [w64]; done) | (simp (disch := omega) [w64]; omega)) ?_

theorem mSl_12 {fl re : Int} (h3 : 16 ≤ fl) (h4 : fl ≤ 900) (h5 : 0 ≤ re) (h6 : re ≤ 90) : PCall Try.prog 53 [tT 12 fl re, .lst false 137 [mT 0 1, mT 1 1, mT 2 1, mT 3 1, mT 4 1, mT 5 1, mT 6 1, mT 7 1, mT 8 1, mT 9 1, mT 10 1, mT 11 1], .lst true 137 [], .int .i64 0, mT 12 1] [.int .i64 150] := by
  refine runQ_sound Cm_ok (maySlots_12 fl re) ?_
  repeat first | exact trivial | refine And.intro (by first | exact wm_ok (by omega) (by omega) (by omega) | (simp (disch := omega) [w64]; done) | (simp (disch := omega) [w64]; omega)) ?_

theorem mSl_13 {fl re : Int} (h3 : 16 ≤ fl) (h4 : fl ≤ 900) (h5 : 0 ≤ re) (h6 : re ≤ 90) : PCall Try.prog 53 [tT 13 fl re, .lst false 137 [mT 0 1, mT 1 1, mT 2 1, mT 3 1, mT 4 1, mT 5 1, mT 6 1, mT 7 1, mT 8 1, mT 9 1, mT 10 1, mT 11 1, mT 12 1], .lst true 137 [], .int .i64 0, mT 13 1] [.int .i64 150] := by
  refine runQ_sound Cm_ok (maySlots_13 fl re) ?_
  repeat first | exact trivial | refine And.intro (by first | exact wm_ok (by omega) (by omega) (by omega) | (simp (disch := omega) [w64]; done) | (simp (disch := omega) [w64]; omega)) ?_

theorem mSl_14 {fl re : Int} (h3 : 16 ≤ fl) (h4 : fl ≤ 900) (h5 : 0 ≤ re) (h6 : re ≤ 90) : PCall Try.prog 53 [tT 14 fl re, .lst false 137 [mT 0 1, mT 1 1, mT 2 1, mT 3 1, mT 4 1, mT 5 1, mT 6 1, mT 7 1, mT 8 1, mT 9 1, mT 10 1, mT 11 1, mT 12 1, mT 13 1], .lst true 137 [], .int .i64 0, mT 14 1] [.int .i64 150] := by
  refine runQ_sound Cm_ok (maySlots_14 fl re) ?_
  repeat first | exact trivial | refine And.intro (by first | exact wm_ok (by omega) (by omega) (by omega) | (simp (disch := omega) [w64]; done) | (simp (disch := omega) [w64]; omega)) ?_

theorem mSl_15 {fl re : Int} (h3 : 16 ≤ fl) (h4 : fl ≤ 900) (h5 : 0 ≤ re) (h6 : re ≤ 90) : PCall Try.prog 53 [tT 15 fl re, .lst false 137 [mT 0 1, mT 1 1, mT 2 1, mT 3 1, mT 4 1, mT 5 1, mT 6 1, mT 7 1, mT 8 1, mT 9 1, mT 10 1, mT 11 1, mT 12 1, mT 13 1, mT 14 1], .lst true 137 [], .int .i64 0, mT 15 1] [.int .i64 150] := by
  refine runQ_sound Cm_ok (maySlots_15 fl re) ?_
  repeat first | exact trivial | refine And.intro (by first | exact wm_ok (by omega) (by omega) (by omega) | (simp (disch := omega) [w64]; done) | (simp (disch := omega) [w64]; omega)) ?_

theorem mSl_16 {fl re : Int} (h3 : 16 ≤ fl) (h4 : fl ≤ 900) (h5 : 0 ≤ re) (h6 : re ≤ 90) : PCall Try.prog 53 [tT 16 fl re, .lst false 137 [mT 0 1, mT 1 1, mT 2 1, mT 3 1, mT 4 1, mT 5 1, mT 6 1, mT 7 1, mT 8 1, mT 9 1, mT 10 1, mT 11 1, mT 12 1, mT 13 1, mT 14 1, mT 15 1], .lst true 137 [], .int .i64 0, mT 16 1] [.int .i64 150] := by
  refine runQ_sound Cm_ok (maySlots_16 fl re) ?_
  repeat first | exact trivial | refine And.intro (by first | exact wm_ok (by omega) (by omega) (by omega) | (simp (disch := omega) [w64]; done) | (simp (disch := omega) [w64]; omega)) ?_

theorem mFl {sl fl re : Int} (h1 : 0 < sl) (h2 : sl ≤ 16) (h3 : 16 ≤ fl) (h4 : fl ≤ 900) (h5 : 0 ≤ re) (h6 : re ≤ 90) : PCall Try.prog 53 [tT sl fl re, .lst true 137 [], .lst true 137 [], .int .i64 0, mT 0 fl] [.int .i64 0] := by
  refine runQ_sound Cm_ok (mayFl sl fl re) ?_
  repeat first | exact trivial | refine And.intro (by first | exact wm_ok (by omega) (by omega) (by first | omega | (simp (disch := omega) only [w64]; omega)) | (simp (disch := omega) [w64]; done) | (simp (disch := omega) [w64]; omega)) ?_

theorem mFl1 {sl fl re : Int} (h1 : 0 < sl) (h2 : sl ≤ 16) (h3 : 16 ≤ fl) (h4 : fl ≤ 900) (h5 : 0 ≤ re) (h6 : re ≤ 90) : PCall Try.prog 53 [tT sl fl re, .lst true 137 [], .lst true 137 [], .int .i64 0, mT 0 (IntKind.i64.wrap (fl + 1))] [.int .i64 151] := by
  refine runQ_sound Cm_ok (mayFl1 sl fl re) ?_
  repeat first | exact trivial | refine And.intro (by first | exact wm_ok (by omega) (by omega) (by first | omega | (simp (disch := omega) only [w64]; omega)) | (simp (disch := omega) [w64]; done) | (simp (disch := omega) [w64]; omega)) ?_

theorem mMost {sl fl re : Int} (h1 : 0 < sl) (h2 : sl ≤ 16) (h3 : 16 ≤ fl) (h4 : fl ≤ 900) (h5 : 0 ≤ re) (h6 : re ≤ 90) : PCall Try.prog 53 [tT sl 2000 re, .lst true 137 [], .lst true 137 [], .int .i64 0, mT 0 (IntKind.i64.wrap (IntKind.i64.wrap (1000 - re) - 1))] [.int .i64 0] := by
  refine runQ_sound Cm_ok (mayMost sl re) ?_
  repeat first | exact trivial | refine And.intro (by first | exact wm_ok (by omega) (by omega) (by first | omega | (simp (disch := omega) only [w64]; omega)) | (simp (disch := omega) [w64]; done) | (simp (disch := omega) [w64]; omega)) ?_

theorem mMost1 {sl fl re : Int} (h1 : 0 < sl) (h2 : sl ≤ 16) (h3 : 16 ≤ fl) (h4 : fl ≤ 900) (h5 : 0 ≤ re) (h6 : re ≤ 90) : PCall Try.prog 53 [tT sl 2000 re, .lst true 137 [], .lst true 137 [], .int .i64 0, mT 0 (IntKind.i64.wrap (IntKind.i64.wrap (IntKind.i64.wrap (1000 - re) - 1) + 1))] [.int .i64 152] := by
  refine runQ_sound Cm_ok (mayMost1 sl re) ?_
  repeat first | exact trivial | refine And.intro (by first | exact wm_ok (by omega) (by omega) (by first | omega | (simp (disch := omega) only [w64]; omega)) | (simp (disch := omega) [w64]; done) | (simp (disch := omega) [w64]; omega)) ?_

theorem law_1 {fl re : Int} (h3 : 16 ≤ fl) (h4 : fl ≤ 900) (h5 : 0 ≤ re) (h6 : re ≤ 90) : PCall Try.prog 10 [.int .i64 1, .int .i64 fl, .int .i64 re] [.bool true] := by
  refine runQ_sound Cq_ok (lim_1 fl re) ⟨mMost1 (fl := fl) (by omega) (by omega) h3 h4 h5 h6, mMost (fl := fl) (by omega) (by omega) h3 h4 h5 h6, mFl1 (by omega) (by omega) h3 h4 h5 h6, mFl (by omega) (by omega) h3 h4 h5 h6, mSl_1 h3 h4 h5 h6, mOk_0 (by omega) (by omega) h3 h4 h5 h6, ?_⟩
  and_intros <;> first | trivial | (simp; omega)

theorem law_2 {fl re : Int} (h3 : 16 ≤ fl) (h4 : fl ≤ 900) (h5 : 0 ≤ re) (h6 : re ≤ 90) : PCall Try.prog 10 [.int .i64 2, .int .i64 fl, .int .i64 re] [.bool true] := by
  refine runQ_sound Cq_ok (lim_2 fl re) ⟨mMost1 (fl := fl) (by omega) (by omega) h3 h4 h5 h6, mMost (fl := fl) (by omega) (by omega) h3 h4 h5 h6, mFl1 (by omega) (by omega) h3 h4 h5 h6, mFl (by omega) (by omega) h3 h4 h5 h6, mSl_2 h3 h4 h5 h6, mOk_1 (by omega) (by omega) h3 h4 h5 h6, mOk_0 (by omega) (by omega) h3 h4 h5 h6, ?_⟩
  and_intros <;> first | trivial | (simp; omega)

theorem law_3 {fl re : Int} (h3 : 16 ≤ fl) (h4 : fl ≤ 900) (h5 : 0 ≤ re) (h6 : re ≤ 90) : PCall Try.prog 10 [.int .i64 3, .int .i64 fl, .int .i64 re] [.bool true] := by
  refine runQ_sound Cq_ok (lim_3 fl re) ⟨mMost1 (fl := fl) (by omega) (by omega) h3 h4 h5 h6, mMost (fl := fl) (by omega) (by omega) h3 h4 h5 h6, mFl1 (by omega) (by omega) h3 h4 h5 h6, mFl (by omega) (by omega) h3 h4 h5 h6, mSl_3 h3 h4 h5 h6, mOk_2 (by omega) (by omega) h3 h4 h5 h6, mOk_1 (by omega) (by omega) h3 h4 h5 h6, mOk_0 (by omega) (by omega) h3 h4 h5 h6, ?_⟩
  and_intros <;> first | trivial | (simp; omega)

theorem law_4 {fl re : Int} (h3 : 16 ≤ fl) (h4 : fl ≤ 900) (h5 : 0 ≤ re) (h6 : re ≤ 90) : PCall Try.prog 10 [.int .i64 4, .int .i64 fl, .int .i64 re] [.bool true] := by
  refine runQ_sound Cq_ok (lim_4 fl re) ⟨mMost1 (fl := fl) (by omega) (by omega) h3 h4 h5 h6, mMost (fl := fl) (by omega) (by omega) h3 h4 h5 h6, mFl1 (by omega) (by omega) h3 h4 h5 h6, mFl (by omega) (by omega) h3 h4 h5 h6, mSl_4 h3 h4 h5 h6, mOk_3 (by omega) (by omega) h3 h4 h5 h6, mOk_2 (by omega) (by omega) h3 h4 h5 h6, mOk_1 (by omega) (by omega) h3 h4 h5 h6, mOk_0 (by omega) (by omega) h3 h4 h5 h6, ?_⟩
  and_intros <;> first | trivial | (simp; omega)

theorem law_5 {fl re : Int} (h3 : 16 ≤ fl) (h4 : fl ≤ 900) (h5 : 0 ≤ re) (h6 : re ≤ 90) : PCall Try.prog 10 [.int .i64 5, .int .i64 fl, .int .i64 re] [.bool true] := by
  refine runQ_sound Cq_ok (lim_5 fl re) ⟨mMost1 (fl := fl) (by omega) (by omega) h3 h4 h5 h6, mMost (fl := fl) (by omega) (by omega) h3 h4 h5 h6, mFl1 (by omega) (by omega) h3 h4 h5 h6, mFl (by omega) (by omega) h3 h4 h5 h6, mSl_5 h3 h4 h5 h6, mOk_4 (by omega) (by omega) h3 h4 h5 h6, mOk_3 (by omega) (by omega) h3 h4 h5 h6, mOk_2 (by omega) (by omega) h3 h4 h5 h6, mOk_1 (by omega) (by omega) h3 h4 h5 h6, mOk_0 (by omega) (by omega) h3 h4 h5 h6, ?_⟩
  and_intros <;> first | trivial | (simp; omega)

theorem law_6 {fl re : Int} (h3 : 16 ≤ fl) (h4 : fl ≤ 900) (h5 : 0 ≤ re) (h6 : re ≤ 90) : PCall Try.prog 10 [.int .i64 6, .int .i64 fl, .int .i64 re] [.bool true] := by
  refine runQ_sound Cq_ok (lim_6 fl re) ⟨mMost1 (fl := fl) (by omega) (by omega) h3 h4 h5 h6, mMost (fl := fl) (by omega) (by omega) h3 h4 h5 h6, mFl1 (by omega) (by omega) h3 h4 h5 h6, mFl (by omega) (by omega) h3 h4 h5 h6, mSl_6 h3 h4 h5 h6, mOk_5 (by omega) (by omega) h3 h4 h5 h6, mOk_4 (by omega) (by omega) h3 h4 h5 h6, mOk_3 (by omega) (by omega) h3 h4 h5 h6, mOk_2 (by omega) (by omega) h3 h4 h5 h6, mOk_1 (by omega) (by omega) h3 h4 h5 h6, mOk_0 (by omega) (by omega) h3 h4 h5 h6, ?_⟩
  and_intros <;> first | trivial | (simp; omega)

theorem law_7 {fl re : Int} (h3 : 16 ≤ fl) (h4 : fl ≤ 900) (h5 : 0 ≤ re) (h6 : re ≤ 90) : PCall Try.prog 10 [.int .i64 7, .int .i64 fl, .int .i64 re] [.bool true] := by
  refine runQ_sound Cq_ok (lim_7 fl re) ⟨mMost1 (fl := fl) (by omega) (by omega) h3 h4 h5 h6, mMost (fl := fl) (by omega) (by omega) h3 h4 h5 h6, mFl1 (by omega) (by omega) h3 h4 h5 h6, mFl (by omega) (by omega) h3 h4 h5 h6, mSl_7 h3 h4 h5 h6, mOk_6 (by omega) (by omega) h3 h4 h5 h6, mOk_5 (by omega) (by omega) h3 h4 h5 h6, mOk_4 (by omega) (by omega) h3 h4 h5 h6, mOk_3 (by omega) (by omega) h3 h4 h5 h6, mOk_2 (by omega) (by omega) h3 h4 h5 h6, mOk_1 (by omega) (by omega) h3 h4 h5 h6, mOk_0 (by omega) (by omega) h3 h4 h5 h6, ?_⟩
  and_intros <;> first | trivial | (simp; omega)

theorem law_8 {fl re : Int} (h3 : 16 ≤ fl) (h4 : fl ≤ 900) (h5 : 0 ≤ re) (h6 : re ≤ 90) : PCall Try.prog 10 [.int .i64 8, .int .i64 fl, .int .i64 re] [.bool true] := by
  refine runQ_sound Cq_ok (lim_8 fl re) ⟨mMost1 (fl := fl) (by omega) (by omega) h3 h4 h5 h6, mMost (fl := fl) (by omega) (by omega) h3 h4 h5 h6, mFl1 (by omega) (by omega) h3 h4 h5 h6, mFl (by omega) (by omega) h3 h4 h5 h6, mSl_8 h3 h4 h5 h6, mOk_7 (by omega) (by omega) h3 h4 h5 h6, mOk_6 (by omega) (by omega) h3 h4 h5 h6, mOk_5 (by omega) (by omega) h3 h4 h5 h6, mOk_4 (by omega) (by omega) h3 h4 h5 h6, mOk_3 (by omega) (by omega) h3 h4 h5 h6, mOk_2 (by omega) (by omega) h3 h4 h5 h6, mOk_1 (by omega) (by omega) h3 h4 h5 h6, mOk_0 (by omega) (by omega) h3 h4 h5 h6, ?_⟩
  and_intros <;> first | trivial | (simp; omega)

theorem law_9 {fl re : Int} (h3 : 16 ≤ fl) (h4 : fl ≤ 900) (h5 : 0 ≤ re) (h6 : re ≤ 90) : PCall Try.prog 10 [.int .i64 9, .int .i64 fl, .int .i64 re] [.bool true] := by
  refine runQ_sound Cq_ok (lim_9 fl re) ⟨mMost1 (fl := fl) (by omega) (by omega) h3 h4 h5 h6, mMost (fl := fl) (by omega) (by omega) h3 h4 h5 h6, mFl1 (by omega) (by omega) h3 h4 h5 h6, mFl (by omega) (by omega) h3 h4 h5 h6, mSl_9 h3 h4 h5 h6, mOk_8 (by omega) (by omega) h3 h4 h5 h6, mOk_7 (by omega) (by omega) h3 h4 h5 h6, mOk_6 (by omega) (by omega) h3 h4 h5 h6, mOk_5 (by omega) (by omega) h3 h4 h5 h6, mOk_4 (by omega) (by omega) h3 h4 h5 h6, mOk_3 (by omega) (by omega) h3 h4 h5 h6, mOk_2 (by omega) (by omega) h3 h4 h5 h6, mOk_1 (by omega) (by omega) h3 h4 h5 h6, mOk_0 (by omega) (by omega) h3 h4 h5 h6, ?_⟩
  and_intros <;> first | trivial | (simp; omega)

theorem law_10 {fl re : Int} (h3 : 16 ≤ fl) (h4 : fl ≤ 900) (h5 : 0 ≤ re) (h6 : re ≤ 90) : PCall Try.prog 10 [.int .i64 10, .int .i64 fl, .int .i64 re] [.bool true] := by
  refine runQ_sound Cq_ok (lim_10 fl re) ⟨mMost1 (fl := fl) (by omega) (by omega) h3 h4 h5 h6, mMost (fl := fl) (by omega) (by omega) h3 h4 h5 h6, mFl1 (by omega) (by omega) h3 h4 h5 h6, mFl (by omega) (by omega) h3 h4 h5 h6, mSl_10 h3 h4 h5 h6, mOk_9 (by omega) (by omega) h3 h4 h5 h6, mOk_8 (by omega) (by omega) h3 h4 h5 h6, mOk_7 (by omega) (by omega) h3 h4 h5 h6, mOk_6 (by omega) (by omega) h3 h4 h5 h6, mOk_5 (by omega) (by omega) h3 h4 h5 h6, mOk_4 (by omega) (by omega) h3 h4 h5 h6, mOk_3 (by omega) (by omega) h3 h4 h5 h6, mOk_2 (by omega) (by omega) h3 h4 h5 h6, mOk_1 (by omega) (by omega) h3 h4 h5 h6, mOk_0 (by omega) (by omega) h3 h4 h5 h6, ?_⟩
  and_intros <;> first | trivial | (simp; omega)

theorem law_11 {fl re : Int} (h3 : 16 ≤ fl) (h4 : fl ≤ 900) (h5 : 0 ≤ re) (h6 : re ≤ 90) : PCall Try.prog 10 [.int .i64 11, .int .i64 fl, .int .i64 re] [.bool true] := by
  refine runQ_sound Cq_ok (lim_11 fl re) ⟨mMost1 (fl := fl) (by omega) (by omega) h3 h4 h5 h6, mMost (fl := fl) (by omega) (by omega) h3 h4 h5 h6, mFl1 (by omega) (by omega) h3 h4 h5 h6, mFl (by omega) (by omega) h3 h4 h5 h6, mSl_11 h3 h4 h5 h6, mOk_10 (by omega) (by omega) h3 h4 h5 h6, mOk_9 (by omega) (by omega) h3 h4 h5 h6, mOk_8 (by omega) (by omega) h3 h4 h5 h6, mOk_7 (by omega) (by omega) h3 h4 h5 h6, mOk_6 (by omega) (by omega) h3 h4 h5 h6, mOk_5 (by omega) (by omega) h3 h4 h5 h6, mOk_4 (by omega) (by omega) h3 h4 h5 h6, mOk_3 (by omega) (by omega) h3 h4 h5 h6, mOk_2 (by omega) (by omega) h3 h4 h5 h6, mOk_1 (by omega) (by omega) h3 h4 h5 h6, mOk_0 (by omega) (by omega) h3 h4 h5 h6, ?_⟩
  and_intros <;> first | trivial | (simp; omega)

theorem law_12 {fl re : Int} (h3 : 16 ≤ fl) (h4 : fl ≤ 900) (h5 : 0 ≤ re) (h6 : re ≤ 90) : PCall Try.prog 10 [.int .i64 12, .int .i64 fl, .int .i64 re] [.bool true] := by
  refine runQ_sound Cq_ok (lim_12 fl re) ⟨mMost1 (fl := fl) (by omega) (by omega) h3 h4 h5 h6, mMost (fl := fl) (by omega) (by omega) h3 h4 h5 h6, mFl1 (by omega) (by omega) h3 h4 h5 h6, mFl (by omega) (by omega) h3 h4 h5 h6, mSl_12 h3 h4 h5 h6, mOk_11 (by omega) (by omega) h3 h4 h5 h6, mOk_10 (by omega) (by omega) h3 h4 h5 h6, mOk_9 (by omega) (by omega) h3 h4 h5 h6, mOk_8 (by omega) (by omega) h3 h4 h5 h6, mOk_7 (by omega) (by omega) h3 h4 h5 h6, mOk_6 (by omega) (by omega) h3 h4 h5 h6, mOk_5 (by omega) (by omega) h3 h4 h5 h6, mOk_4 (by omega) (by omega) h3 h4 h5 h6, mOk_3 (by omega) (by omega) h3 h4 h5 h6, mOk_2 (by omega) (by omega) h3 h4 h5 h6, mOk_1 (by omega) (by omega) h3 h4 h5 h6, mOk_0 (by omega) (by omega) h3 h4 h5 h6, ?_⟩
  and_intros <;> first | trivial | (simp; omega)

theorem law_13 {fl re : Int} (h3 : 16 ≤ fl) (h4 : fl ≤ 900) (h5 : 0 ≤ re) (h6 : re ≤ 90) : PCall Try.prog 10 [.int .i64 13, .int .i64 fl, .int .i64 re] [.bool true] := by
  refine runQ_sound Cq_ok (lim_13 fl re) ⟨mMost1 (fl := fl) (by omega) (by omega) h3 h4 h5 h6, mMost (fl := fl) (by omega) (by omega) h3 h4 h5 h6, mFl1 (by omega) (by omega) h3 h4 h5 h6, mFl (by omega) (by omega) h3 h4 h5 h6, mSl_13 h3 h4 h5 h6, mOk_12 (by omega) (by omega) h3 h4 h5 h6, mOk_11 (by omega) (by omega) h3 h4 h5 h6, mOk_10 (by omega) (by omega) h3 h4 h5 h6, mOk_9 (by omega) (by omega) h3 h4 h5 h6, mOk_8 (by omega) (by omega) h3 h4 h5 h6, mOk_7 (by omega) (by omega) h3 h4 h5 h6, mOk_6 (by omega) (by omega) h3 h4 h5 h6, mOk_5 (by omega) (by omega) h3 h4 h5 h6, mOk_4 (by omega) (by omega) h3 h4 h5 h6, mOk_3 (by omega) (by omega) h3 h4 h5 h6, mOk_2 (by omega) (by omega) h3 h4 h5 h6, mOk_1 (by omega) (by omega) h3 h4 h5 h6, mOk_0 (by omega) (by omega) h3 h4 h5 h6, ?_⟩
  and_intros <;> first | trivial | (simp; omega)

theorem law_14 {fl re : Int} (h3 : 16 ≤ fl) (h4 : fl ≤ 900) (h5 : 0 ≤ re) (h6 : re ≤ 90) : PCall Try.prog 10 [.int .i64 14, .int .i64 fl, .int .i64 re] [.bool true] := by
  refine runQ_sound Cq_ok (lim_14 fl re) ⟨mMost1 (fl := fl) (by omega) (by omega) h3 h4 h5 h6, mMost (fl := fl) (by omega) (by omega) h3 h4 h5 h6, mFl1 (by omega) (by omega) h3 h4 h5 h6, mFl (by omega) (by omega) h3 h4 h5 h6, mSl_14 h3 h4 h5 h6, mOk_13 (by omega) (by omega) h3 h4 h5 h6, mOk_12 (by omega) (by omega) h3 h4 h5 h6, mOk_11 (by omega) (by omega) h3 h4 h5 h6, mOk_10 (by omega) (by omega) h3 h4 h5 h6, mOk_9 (by omega) (by omega) h3 h4 h5 h6, mOk_8 (by omega) (by omega) h3 h4 h5 h6, mOk_7 (by omega) (by omega) h3 h4 h5 h6, mOk_6 (by omega) (by omega) h3 h4 h5 h6, mOk_5 (by omega) (by omega) h3 h4 h5 h6, mOk_4 (by omega) (by omega) h3 h4 h5 h6, mOk_3 (by omega) (by omega) h3 h4 h5 h6, mOk_2 (by omega) (by omega) h3 h4 h5 h6, mOk_1 (by omega) (by omega) h3 h4 h5 h6, mOk_0 (by omega) (by omega) h3 h4 h5 h6, ?_⟩
  and_intros <;> first | trivial | (simp; omega)

theorem law_15 {fl re : Int} (h3 : 16 ≤ fl) (h4 : fl ≤ 900) (h5 : 0 ≤ re) (h6 : re ≤ 90) : PCall Try.prog 10 [.int .i64 15, .int .i64 fl, .int .i64 re] [.bool true] := by
  refine runQ_sound Cq_ok (lim_15 fl re) ⟨mMost1 (fl := fl) (by omega) (by omega) h3 h4 h5 h6, mMost (fl := fl) (by omega) (by omega) h3 h4 h5 h6, mFl1 (by omega) (by omega) h3 h4 h5 h6, mFl (by omega) (by omega) h3 h4 h5 h6, mSl_15 h3 h4 h5 h6, mOk_14 (by omega) (by omega) h3 h4 h5 h6, mOk_13 (by omega) (by omega) h3 h4 h5 h6, mOk_12 (by omega) (by omega) h3 h4 h5 h6, mOk_11 (by omega) (by omega) h3 h4 h5 h6, mOk_10 (by omega) (by omega) h3 h4 h5 h6, mOk_9 (by omega) (by omega) h3 h4 h5 h6, mOk_8 (by omega) (by omega) h3 h4 h5 h6, mOk_7 (by omega) (by omega) h3 h4 h5 h6, mOk_6 (by omega) (by omega) h3 h4 h5 h6, mOk_5 (by omega) (by omega) h3 h4 h5 h6, mOk_4 (by omega) (by omega) h3 h4 h5 h6, mOk_3 (by omega) (by omega) h3 h4 h5 h6, mOk_2 (by omega) (by omega) h3 h4 h5 h6, mOk_1 (by omega) (by omega) h3 h4 h5 h6, mOk_0 (by omega) (by omega) h3 h4 h5 h6, ?_⟩
  and_intros <;> first | trivial | (simp; omega)

theorem law_16 {fl re : Int} (h3 : 16 ≤ fl) (h4 : fl ≤ 900) (h5 : 0 ≤ re) (h6 : re ≤ 90) : PCall Try.prog 10 [.int .i64 16, .int .i64 fl, .int .i64 re] [.bool true] := by
  refine runQ_sound Cq_ok (lim_16 fl re) ⟨mMost1 (fl := fl) (by omega) (by omega) h3 h4 h5 h6, mMost (fl := fl) (by omega) (by omega) h3 h4 h5 h6, mFl1 (by omega) (by omega) h3 h4 h5 h6, mFl (by omega) (by omega) h3 h4 h5 h6, mSl_16 h3 h4 h5 h6, mOk_15 (by omega) (by omega) h3 h4 h5 h6, mOk_14 (by omega) (by omega) h3 h4 h5 h6, mOk_13 (by omega) (by omega) h3 h4 h5 h6, mOk_12 (by omega) (by omega) h3 h4 h5 h6, mOk_11 (by omega) (by omega) h3 h4 h5 h6, mOk_10 (by omega) (by omega) h3 h4 h5 h6, mOk_9 (by omega) (by omega) h3 h4 h5 h6, mOk_8 (by omega) (by omega) h3 h4 h5 h6, mOk_7 (by omega) (by omega) h3 h4 h5 h6, mOk_6 (by omega) (by omega) h3 h4 h5 h6, mOk_5 (by omega) (by omega) h3 h4 h5 h6, mOk_4 (by omega) (by omega) h3 h4 h5 h6, mOk_3 (by omega) (by omega) h3 h4 h5 h6, mOk_2 (by omega) (by omega) h3 h4 h5 h6, mOk_1 (by omega) (by omega) h3 h4 h5 h6, mOk_0 (by omega) (by omega) h3 h4 h5 h6, ?_⟩
  and_intros <;> first | trivial | (simp; omega)

theorem limits_ok {sl fl re : Int} : PCall Try.prog 10 [.int .i64 sl, .int .i64 fl, .int .i64 re] [.bool true] := by
  by_cases c0 : sl < 1
  · exact runQ_sound Cq_ok (limX_0 sl fl re) ⟨by simpa using c0, trivial⟩
  by_cases c1 : sl > 16
  · refine runQ_sound Cq_ok (limX_1 sl fl re) ?_
    and_intros <;> first | trivial | (simp; omega)
  by_cases c2 : fl < 16
  · refine runQ_sound Cq_ok (limX_2 sl fl re) ?_
    and_intros <;> first | trivial | (simp; omega)
  by_cases c3 : fl > 900
  · refine runQ_sound Cq_ok (limX_3 sl fl re) ?_
    and_intros <;> first | trivial | (simp; omega)
  by_cases c4 : re < 0
  · refine runQ_sound Cq_ok (limX_4 sl fl re) ?_
    and_intros <;> first | trivial | (simp; omega)
  by_cases c5 : re > 90
  · refine runQ_sound Cq_ok (limX_5 sl fl re) ?_
    and_intros <;> first | trivial | (simp; omega)
  have hs : sl = 1 ∨ sl = 2 ∨ sl = 3 ∨ sl = 4 ∨ sl = 5 ∨ sl = 6 ∨ sl = 7 ∨ sl = 8 ∨ sl = 9 ∨ sl = 10 ∨ sl = 11 ∨ sl = 12 ∨ sl = 13 ∨ sl = 14 ∨ sl = 15 ∨ sl = 16 := by omega
  rcases hs with rfl | rfl | rfl | rfl | rfl | rfl | rfl | rfl | rfl | rfl | rfl | rfl | rfl | rfl | rfl | rfl
  · exact law_1 (by omega) (by omega) (by omega) (by omega)
  · exact law_2 (by omega) (by omega) (by omega) (by omega)
  · exact law_3 (by omega) (by omega) (by omega) (by omega)
  · exact law_4 (by omega) (by omega) (by omega) (by omega)
  · exact law_5 (by omega) (by omega) (by omega) (by omega)
  · exact law_6 (by omega) (by omega) (by omega) (by omega)
  · exact law_7 (by omega) (by omega) (by omega) (by omega)
  · exact law_8 (by omega) (by omega) (by omega) (by omega)
  · exact law_9 (by omega) (by omega) (by omega) (by omega)
  · exact law_10 (by omega) (by omega) (by omega) (by omega)
  · exact law_11 (by omega) (by omega) (by omega) (by omega)
  · exact law_12 (by omega) (by omega) (by omega) (by omega)
  · exact law_13 (by omega) (by omega) (by omega) (by omega)
  · exact law_14 (by omega) (by omega) (by omega) (by omega)
  · exact law_15 (by omega) (by omega) (by omega) (by omega)
  · exact law_16 (by omega) (by omega) (by omega) (by omega)

theorem limits_args {xs : List T} (h : HasShs [.int .i64, .int .i64, .int .i64] xs) : PCall Try.prog 10 xs [.bool true] := by
  obtain ⟨_, _, rfl, ⟨a, rfl, _⟩, _, _, rfl, ⟨b, rfl, _⟩, _, _, rfl, ⟨c, rfl, _⟩, rfl⟩ := h
  exact limits_ok
end Go.HM.Ne
