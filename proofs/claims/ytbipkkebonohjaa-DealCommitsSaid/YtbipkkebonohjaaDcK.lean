/- DC, part K: DealCommits, joined, and the size of what it is handed (runs printed by a small program out of the runs themselves). -/
import Derived.Test.YtbipkkebonohjaaDcH
import Derived.SizedLaws
set_option maxRecDepth 100000
namespace Go.HM.Deal
open Go.Proofs

theorem dcB_g (hd ot fa i : Int) (p : List Int) (os qt fq : List T) (xo yo fx fy : Bool) (ch a b out sa sb de fe re sl fl va vb : Int) (tx : List Int) (hs : List T) (hb hi ha he : Int) (hh : List Int): bodyK (Cd [((27, 87), hT hb hi ha hh he), ((27, 92), hT hb hi ha hh he)] []) 30 3 0 (loopAt Try.f3 0) ⟨103, [(7, .ptr 2 0), (9, .ptr 3 0), (10, .ptr 4 0), (13, .p (.int .i64 0)), (14, .p (.int .i64 i))], [.box (.p (tT ch a b out sa sb de fe re sl fl tx)), .box (.p (.ba 32 (p))), .box (.p (.agg [.int .i64 va, .int .i64 vb, .lst false 36 hs])), .box (.p (.agg [.int .i64 va, .int .i64 vb, .lst false 36 hs])), .box (.p (.agg [.lst true 130 [.agg [.agg [.ba 32 (tx), .int .i64 out], .int .i64 0, .ba 32 zeros, .ba 32 zeros, .ba 32 zeros]], .lst xo 2 os])), .box (.p (.agg [.lst true 130 [.agg [.agg [.ba 32 (tx), .int .i64 out], .int .i64 0, .ba 32 zeros, .ba 32 zeros, .ba 32 zeros]], .lst yo 2 qt]))]⟩ [(0, true), (0, false)] [] [7, 9, 10, 13, 14] [] [] [] = some (.normal, ⟨103, [(14, .p (.int .i64 (IntKind.i64.wrap (i + 1)))), (7, .ptr 2 0), (9, .ptr 3 0), (13, .p (.int .i64 0)), (10, .ptr 4 0)], [.box (.p (tT ch a b out sa sb de fe re sl fl tx)), .box (.p (.ba 32 (p))), .box (.p (.agg [.int .i64 va, .int .i64 vb, .lst false 36 hs])), .box (.p (.agg [.int .i64 va, .int .i64 vb, .lst false 36 hs])), .box (.p (.agg [.lst true 130 [.agg [.agg [.ba 32 (tx), .int .i64 out], .int .i64 0, .ba 32 zeros, .ba 32 zeros, .ba 32 zeros]], .lst xo 2 os])), .box (.p (.agg [.lst true 130 [.agg [.agg [.ba 32 (tx), .int .i64 out], .int .i64 0, .ba 32 zeros, .ba 32 zeros, .ba 32 zeros]], .lst yo 2 qt]))]⟩, [(!T.eqB (hT hb hi ha hh he) (hT hb hi ha hh he)) = false, (0 : Int) ≤ i ∧ hs[(i : Int).toNat]? = some (hT hb hi ha hh he), (0 : Int) ≤ i ∧ hs[(i : Int).toNat]? = some (hT hb hi ha hh he), decide (i < ((hs).length : Int)) = true]) := by kernel_rfl
theorem dcE_g (hd ot fa i : Int) (p : List Int) (os qt fq : List T) (xo yo fx fy : Bool) (ch a b out sa sb de fe re sl fl va vb : Int) (tx : List Int) (hs : List T): bodyK (Cd [] []) 30 3 0 (loopAt Try.f3 0) ⟨103, [(7, .ptr 2 0), (9, .ptr 3 0), (10, .ptr 4 0), (13, .p (.int .i64 0)), (14, .p (.int .i64 i))], [.box (.p (tT ch a b out sa sb de fe re sl fl tx)), .box (.p (.ba 32 (p))), .box (.p (.agg [.int .i64 va, .int .i64 vb, .lst false 36 hs])), .box (.p (.agg [.int .i64 va, .int .i64 vb, .lst false 36 hs])), .box (.p (.agg [.lst true 130 [.agg [.agg [.ba 32 (tx), .int .i64 out], .int .i64 0, .ba 32 zeros, .ba 32 zeros, .ba 32 zeros]], .lst xo 2 os])), .box (.p (.agg [.lst true 130 [.agg [.agg [.ba 32 (tx), .int .i64 out], .int .i64 0, .ba 32 zeros, .ba 32 zeros, .ba 32 zeros]], .lst yo 2 qt]))]⟩ [(0, false)] [] [7, 9, 10, 13, 14] [] [] [] = some (.exit 0, ⟨103, [(14, .p (.int .i64 i)), (7, .ptr 2 0), (9, .ptr 3 0), (13, .p (.int .i64 0)), (10, .ptr 4 0)], [.box (.p (tT ch a b out sa sb de fe re sl fl tx)), .box (.p (.ba 32 (p))), .box (.p (.agg [.int .i64 va, .int .i64 vb, .lst false 36 hs])), .box (.p (.agg [.int .i64 va, .int .i64 vb, .lst false 36 hs])), .box (.p (.agg [.lst true 130 [.agg [.agg [.ba 32 (tx), .int .i64 out], .int .i64 0, .ba 32 zeros, .ba 32 zeros, .ba 32 zeros]], .lst xo 2 os])), .box (.p (.agg [.lst true 130 [.agg [.agg [.ba 32 (tx), .int .i64 out], .int .i64 0, .ba 32 zeros, .ba 32 zeros, .ba 32 zeros]], .lst yo 2 qt]))]⟩, [decide (i < ((hs).length : Int)) = false]) := by kernel_rfl
theorem dcT_g (hd ot fa i : Int) (p : List Int) (os qt fq : List T) (xo yo fx fy : Bool) (ch a b out sa sb de fe re sl fl va vb : Int) (tx : List Int) (hs : List T): topK (Cd [] [13, 14, 15, 16, 17, 18, 19, 20, 21, 22, 23, 25, 26, 24, 27]) 30 3 [] [.p (tT ch a b out sa sb de fe re sl fl tx), .p (.int .i64 hd), .p (.ba 32 (p)), .p (.agg [.int .i64 va, .int .i64 vb, .lst false 36 hs])] [(9, false)] [some ([7, 9, 10, 13, 14], .exit 0, ⟨103, [(7, .ptr 2 0), (9, .ptr 3 0), (10, .ptr 4 0), (13, .p (.int .i64 0)), (14, .p (.int .i64 i))], [.box (.p (tT ch a b out sa sb de fe re sl fl tx)), .box (.p (.ba 32 (p))), .box (.p (.agg [.int .i64 va, .int .i64 vb, .lst false 36 hs])), .box (.p (.agg [.int .i64 va, .int .i64 vb, .lst false 36 hs])), .box (.p (.agg [.lst true 130 [.agg [.agg [.ba 32 (tx), .int .i64 out], .int .i64 0, .ba 32 zeros, .ba 32 zeros, .ba 32 zeros]], .lst xo 2 os])), .box (.p (.agg [.lst true 130 [.agg [.agg [.ba 32 (tx), .int .i64 out], .int .i64 0, .ba 32 zeros, .ba 32 zeros, .ba 32 zeros]], .lst yo 2 qt]))]⟩)] [] [[.agg [.int .i64 va, .int .i64 vb, .lst false 36 hs]], [.agg [.lst true 130 [.agg [.agg [.ba 32 (tx), .int .i64 out], .int .i64 0, .ba 32 zeros, .ba 32 zeros, .ba 32 zeros]], .lst xo 2 os], .int .i64 0], [.agg [.lst true 130 [.agg [.agg [.ba 32 (tx), .int .i64 out], .int .i64 0, .ba 32 zeros, .ba 32 zeros, .ba 32 zeros]], .lst yo 2 qt], .int .i64 0], [.bool true], [.bool true], [.bool true], [.bool true], [.bool true], [.bool true], [.int .i64 ot], [.int .i64 ot], [.agg [.int .i64 fa, .lst fx 37 fq]], [.agg [.int .i64 fa, .lst fy 37 fq]], [.bool true], [.bool true]] [] = some ([.rb true], [], [PCall Try.prog 27 [.int .i64 8, .agg [.lst true 130 [.agg [.agg [.ba 32 (tx), .int .i64 out], .int .i64 0, .ba 32 zeros, .ba 32 zeros, .ba 32 zeros]], .lst xo 2 os]] [.bool true], LoopG Try.prog 0 (loopAt Try.f3 0) ⟨103, [(14, .p (.int .i64 0)), (10, .ptr 4 0), (13, .p (.int .i64 0)), (9, .ptr 3 0), (7, .ptr 2 0)], [.box (.p (tT ch a b out sa sb de fe re sl fl tx)), .box (.p (.ba 32 (p))), .box (.p (.agg [.int .i64 va, .int .i64 vb, .lst false 36 hs])), .box (.p (.agg [.int .i64 va, .int .i64 vb, .lst false 36 hs])), .box (.p (.agg [.lst true 130 [.agg [.agg [.ba 32 (tx), .int .i64 out], .int .i64 0, .ba 32 zeros, .ba 32 zeros, .ba 32 zeros]], .lst xo 2 os])), .box (.p (.agg [.lst true 130 [.agg [.agg [.ba 32 (tx), .int .i64 out], .int .i64 0, .ba 32 zeros, .ba 32 zeros, .ba 32 zeros]], .lst yo 2 qt]))]⟩ (.exit 0) ⟨103, [(7, .ptr 2 0), (9, .ptr 3 0), (10, .ptr 4 0), (13, .p (.int .i64 0)), (14, .p (.int .i64 i))], [.box (.p (tT ch a b out sa sb de fe re sl fl tx)), .box (.p (.ba 32 (p))), .box (.p (.agg [.int .i64 va, .int .i64 vb, .lst false 36 hs])), .box (.p (.agg [.int .i64 va, .int .i64 vb, .lst false 36 hs])), .box (.p (.agg [.lst true 130 [.agg [.agg [.ba 32 (tx), .int .i64 out], .int .i64 0, .ba 32 zeros, .ba 32 zeros, .ba 32 zeros]], .lst xo 2 os])), .box (.p (.agg [.lst true 130 [.agg [.agg [.ba 32 (tx), .int .i64 out], .int .i64 0, .ba 32 zeros, .ba 32 zeros, .ba 32 zeros]], .lst yo 2 qt]))]⟩, PCall Try.prog 24 [.agg [.int .i64 fa, .lst fx 37 fq], .agg [.int .i64 fa, .lst fy 37 fq]] [.bool true], PCall Try.prog 26 [tT ch a b out sa sb de fe re sl fl tx] [.agg [.int .i64 fa, .lst fy 37 fq]], PCall Try.prog 25 [tT ch a b out sa sb de fe re sl fl tx] [.agg [.int .i64 fa, .lst fx 37 fq]], (ot != ot) = false, PCall Try.prog 23 [tT ch a b out sa sb de fe re sl fl tx, .int .i64 hd] [.int .i64 ot], PCall Try.prog 22 [tT ch a b out sa sb de fe re sl fl tx, .int .i64 hd] [.int .i64 ot], PCall Try.prog 21 [tT ch a b out sa sb de fe re sl fl tx, .agg [.int .i64 va, .int .i64 vb, .lst false 36 hs]] [.bool true], PCall Try.prog 20 [tT ch a b out sa sb de fe re sl fl tx, .agg [.int .i64 va, .int .i64 vb, .lst false 36 hs]] [.bool true], PCall Try.prog 19 [tT ch a b out sa sb de fe re sl fl tx] [.bool true], PCall Try.prog 18 [tT ch a b out sa sb de fe re sl fl tx] [.bool true], PCall Try.prog 17 [.agg [.lst true 130 [.agg [.agg [.ba 32 (tx), .int .i64 out], .int .i64 0, .ba 32 zeros, .ba 32 zeros, .ba 32 zeros]], .lst xo 2 os], .agg [.lst true 130 [.agg [.agg [.ba 32 (tx), .int .i64 out], .int .i64 0, .ba 32 zeros, .ba 32 zeros, .ba 32 zeros]], .lst yo 2 qt]] [.bool true], PCall Try.prog 16 [] [.bool true], PCall Try.prog 15 [tT ch a b out sa sb de fe re sl fl tx, .int .i64 hd, .ba 32 (p), .agg [.int .i64 va, .int .i64 vb, .lst false 36 hs]] [.agg [.lst true 130 [.agg [.agg [.ba 32 (tx), .int .i64 out], .int .i64 0, .ba 32 zeros, .ba 32 zeros, .ba 32 zeros]], .lst yo 2 qt], .int .i64 0], PCall Try.prog 14 [tT ch a b out sa sb de fe re sl fl tx, .int .i64 hd, .ba 32 (p), .agg [.int .i64 va, .int .i64 vb, .lst false 36 hs]] [.agg [.lst true 130 [.agg [.agg [.ba 32 (tx), .int .i64 out], .int .i64 0, .ba 32 zeros, .ba 32 zeros, .ba 32 zeros]], .lst xo 2 os], .int .i64 0], PCall Try.prog 13 [.agg [.int .i64 va, .int .i64 vb, .lst false 36 hs]] [.agg [.int .i64 va, .int .i64 vb, .lst false 36 hs]]]) := by kernel_rfl
theorem dcB_b1 (hd ot fa i : Int) (p : List Int) (os qt fq : List T) (xo yo fx fy : Bool) (ch a b out sa sb de fe re sl fl va vb : Int) (tx : List Int) (hs : List T) (hb hi ha he : Int) (hh : List Int): bodyK (Cd [((27, 87), hT hb hi ha hh he), ((27, 92), hT hb hi ha hh he)] []) 30 3 0 (loopAt Try.f3 0) ⟨103, [(7, .ptr 2 0), (9, .ptr 3 0), (10, .ptr 4 0), (13, .p (.int .i64 1)), (14, .p (.int .i64 i))], [.box (.p (tT ch a b out sa sb de fe re sl fl tx)), .box (.p (.ba 32 (p))), .box (.p (.agg [.int .i64 va, .int .i64 vb, .lst false 36 hs])), .box (.p (.agg [.int .i64 va, .int .i64 vb, .lst false 36 hs])), .box (.p (.agg [.lst true 130 [], .lst true 2 []])), .box (.p (.agg [.lst true 130 [], .lst true 2 []]))]⟩ [(0, true), (0, false)] [] [7, 9, 10, 13, 14] [] [] [] = some (.normal, ⟨103, [(14, .p (.int .i64 (IntKind.i64.wrap (i + 1)))), (7, .ptr 2 0), (9, .ptr 3 0), (13, .p (.int .i64 1)), (10, .ptr 4 0)], [.box (.p (tT ch a b out sa sb de fe re sl fl tx)), .box (.p (.ba 32 (p))), .box (.p (.agg [.int .i64 va, .int .i64 vb, .lst false 36 hs])), .box (.p (.agg [.int .i64 va, .int .i64 vb, .lst false 36 hs])), .box (.p (.agg [.lst true 130 [], .lst true 2 []])), .box (.p (.agg [.lst true 130 [], .lst true 2 []]))]⟩, [(!T.eqB (hT hb hi ha hh he) (hT hb hi ha hh he)) = false, (0 : Int) ≤ i ∧ hs[(i : Int).toNat]? = some (hT hb hi ha hh he), (0 : Int) ≤ i ∧ hs[(i : Int).toNat]? = some (hT hb hi ha hh he), decide (i < ((hs).length : Int)) = true]) := by kernel_rfl
theorem dcE_b1 (hd ot fa i : Int) (p : List Int) (os qt fq : List T) (xo yo fx fy : Bool) (ch a b out sa sb de fe re sl fl va vb : Int) (tx : List Int) (hs : List T): bodyK (Cd [] []) 30 3 0 (loopAt Try.f3 0) ⟨103, [(7, .ptr 2 0), (9, .ptr 3 0), (10, .ptr 4 0), (13, .p (.int .i64 1)), (14, .p (.int .i64 i))], [.box (.p (tT ch a b out sa sb de fe re sl fl tx)), .box (.p (.ba 32 (p))), .box (.p (.agg [.int .i64 va, .int .i64 vb, .lst false 36 hs])), .box (.p (.agg [.int .i64 va, .int .i64 vb, .lst false 36 hs])), .box (.p (.agg [.lst true 130 [], .lst true 2 []])), .box (.p (.agg [.lst true 130 [], .lst true 2 []]))]⟩ [(0, false)] [] [7, 9, 10, 13, 14] [] [] [] = some (.exit 0, ⟨103, [(14, .p (.int .i64 i)), (7, .ptr 2 0), (9, .ptr 3 0), (13, .p (.int .i64 1)), (10, .ptr 4 0)], [.box (.p (tT ch a b out sa sb de fe re sl fl tx)), .box (.p (.ba 32 (p))), .box (.p (.agg [.int .i64 va, .int .i64 vb, .lst false 36 hs])), .box (.p (.agg [.int .i64 va, .int .i64 vb, .lst false 36 hs])), .box (.p (.agg [.lst true 130 [], .lst true 2 []])), .box (.p (.agg [.lst true 130 [], .lst true 2 []]))]⟩, [decide (i < ((hs).length : Int)) = false]) := by kernel_rfl
theorem dcT_b1 (hd ot fa i : Int) (p : List Int) (os qt fq : List T) (xo yo fx fy : Bool) (ch a b out sa sb de fe re sl fl va vb : Int) (tx : List Int) (hs : List T): topK (Cd [] [13, 14, 15, 16, 17, 18, 19, 20, 21, 22, 23, 25, 26, 24, 27]) 30 3 [] [.p (tT ch a b out sa sb de fe re sl fl tx), .p (.int .i64 hd), .p (.ba 32 (p)), .p (.agg [.int .i64 va, .int .i64 vb, .lst false 36 hs])] [(9, false)] [some ([7, 9, 10, 13, 14], .exit 0, ⟨103, [(7, .ptr 2 0), (9, .ptr 3 0), (10, .ptr 4 0), (13, .p (.int .i64 1)), (14, .p (.int .i64 i))], [.box (.p (tT ch a b out sa sb de fe re sl fl tx)), .box (.p (.ba 32 (p))), .box (.p (.agg [.int .i64 va, .int .i64 vb, .lst false 36 hs])), .box (.p (.agg [.int .i64 va, .int .i64 vb, .lst false 36 hs])), .box (.p (.agg [.lst true 130 [], .lst true 2 []])), .box (.p (.agg [.lst true 130 [], .lst true 2 []]))]⟩)] [] [[.agg [.int .i64 va, .int .i64 vb, .lst false 36 hs]], [.agg [.lst true 130 [], .lst true 2 []], .int .i64 1], [.agg [.lst true 130 [], .lst true 2 []], .int .i64 1], [.bool true], [.bool true], [.bool true], [.bool true], [.bool true], [.bool true], [.int .i64 ot], [.int .i64 ot], [.agg [.int .i64 fa, .lst fx 37 fq]], [.agg [.int .i64 fa, .lst fy 37 fq]], [.bool true], [.bool true]] [] = some ([.rb true], [], [LoopG Try.prog 0 (loopAt Try.f3 0) ⟨103, [(14, .p (.int .i64 0)), (10, .ptr 4 0), (13, .p (.int .i64 1)), (9, .ptr 3 0), (7, .ptr 2 0)], [.box (.p (tT ch a b out sa sb de fe re sl fl tx)), .box (.p (.ba 32 (p))), .box (.p (.agg [.int .i64 va, .int .i64 vb, .lst false 36 hs])), .box (.p (.agg [.int .i64 va, .int .i64 vb, .lst false 36 hs])), .box (.p (.agg [.lst true 130 [], .lst true 2 []])), .box (.p (.agg [.lst true 130 [], .lst true 2 []]))]⟩ (.exit 0) ⟨103, [(7, .ptr 2 0), (9, .ptr 3 0), (10, .ptr 4 0), (13, .p (.int .i64 1)), (14, .p (.int .i64 i))], [.box (.p (tT ch a b out sa sb de fe re sl fl tx)), .box (.p (.ba 32 (p))), .box (.p (.agg [.int .i64 va, .int .i64 vb, .lst false 36 hs])), .box (.p (.agg [.int .i64 va, .int .i64 vb, .lst false 36 hs])), .box (.p (.agg [.lst true 130 [], .lst true 2 []])), .box (.p (.agg [.lst true 130 [], .lst true 2 []]))]⟩, PCall Try.prog 24 [.agg [.int .i64 fa, .lst fx 37 fq], .agg [.int .i64 fa, .lst fy 37 fq]] [.bool true], PCall Try.prog 26 [tT ch a b out sa sb de fe re sl fl tx] [.agg [.int .i64 fa, .lst fy 37 fq]], PCall Try.prog 25 [tT ch a b out sa sb de fe re sl fl tx] [.agg [.int .i64 fa, .lst fx 37 fq]], (ot != ot) = false, PCall Try.prog 23 [tT ch a b out sa sb de fe re sl fl tx, .int .i64 hd] [.int .i64 ot], PCall Try.prog 22 [tT ch a b out sa sb de fe re sl fl tx, .int .i64 hd] [.int .i64 ot], PCall Try.prog 21 [tT ch a b out sa sb de fe re sl fl tx, .agg [.int .i64 va, .int .i64 vb, .lst false 36 hs]] [.bool true], PCall Try.prog 20 [tT ch a b out sa sb de fe re sl fl tx, .agg [.int .i64 va, .int .i64 vb, .lst false 36 hs]] [.bool true], PCall Try.prog 19 [tT ch a b out sa sb de fe re sl fl tx] [.bool true], PCall Try.prog 18 [tT ch a b out sa sb de fe re sl fl tx] [.bool true], PCall Try.prog 17 [.agg [.lst true 130 [], .lst true 2 []], .agg [.lst true 130 [], .lst true 2 []]] [.bool true], PCall Try.prog 16 [] [.bool true], PCall Try.prog 15 [tT ch a b out sa sb de fe re sl fl tx, .int .i64 hd, .ba 32 (p), .agg [.int .i64 va, .int .i64 vb, .lst false 36 hs]] [.agg [.lst true 130 [], .lst true 2 []], .int .i64 1], PCall Try.prog 14 [tT ch a b out sa sb de fe re sl fl tx, .int .i64 hd, .ba 32 (p), .agg [.int .i64 va, .int .i64 vb, .lst false 36 hs]] [.agg [.lst true 130 [], .lst true 2 []], .int .i64 1], PCall Try.prog 13 [.agg [.int .i64 va, .int .i64 vb, .lst false 36 hs]] [.agg [.int .i64 va, .int .i64 vb, .lst false 36 hs]]]) := by kernel_rfl
theorem dcT_b2 (hd ot fa i : Int) (p : List Int) (os qt fq : List T) (xo yo fx fy : Bool) (ch a b out sa sb de fe re sl fl va vb : Int) (tx : List Int) (hs : List T): topK (Cd [] [13, 14, 15, 16, 17, 18, 19, 20, 21, 22, 23, 25, 26, 24, 27]) 30 3 [] [.p (tT ch a b out sa sb de fe re sl fl tx), .p (.int .i64 hd), .p (.ba 32 (p)), .p (.agg [.int .i64 va, .int .i64 vb, .lst false 36 hs])] [(9, false)] [some ([7, 9, 10, 13, 14], .exit 0, ⟨103, [(7, .ptr 2 0), (9, .ptr 3 0), (10, .ptr 4 0), (13, .p (.int .i64 1)), (14, .p (.int .i64 i))], [.box (.p (tT ch a b out sa sb de fe re sl fl tx)), .box (.p (.ba 32 (p))), .box (.p (.agg [.int .i64 va, .int .i64 vb, .lst false 36 hs])), .box (.p (.agg [.int .i64 va, .int .i64 vb, .lst false 36 hs])), .box (.p (.agg [.lst true 130 [], .lst true 2 []])), .box (.p (.agg [.lst true 130 [], .lst true 2 []]))]⟩)] [] [[.agg [.int .i64 va, .int .i64 vb, .lst false 36 hs]], [.agg [.lst true 130 [], .lst true 2 []], .int .i64 1], [.agg [.lst true 130 [], .lst true 2 []], .int .i64 1], [.bool true], [.bool true], [.bool true], [.bool true], [.bool false], [.bool false], [.int .i64 ot], [.int .i64 ot], [.agg [.int .i64 fa, .lst fx 37 fq]], [.agg [.int .i64 fa, .lst fy 37 fq]], [.bool true], [.bool true]] [] = some ([.rb true], [], [LoopG Try.prog 0 (loopAt Try.f3 0) ⟨103, [(14, .p (.int .i64 0)), (10, .ptr 4 0), (13, .p (.int .i64 1)), (9, .ptr 3 0), (7, .ptr 2 0)], [.box (.p (tT ch a b out sa sb de fe re sl fl tx)), .box (.p (.ba 32 (p))), .box (.p (.agg [.int .i64 va, .int .i64 vb, .lst false 36 hs])), .box (.p (.agg [.int .i64 va, .int .i64 vb, .lst false 36 hs])), .box (.p (.agg [.lst true 130 [], .lst true 2 []])), .box (.p (.agg [.lst true 130 [], .lst true 2 []]))]⟩ (.exit 0) ⟨103, [(7, .ptr 2 0), (9, .ptr 3 0), (10, .ptr 4 0), (13, .p (.int .i64 1)), (14, .p (.int .i64 i))], [.box (.p (tT ch a b out sa sb de fe re sl fl tx)), .box (.p (.ba 32 (p))), .box (.p (.agg [.int .i64 va, .int .i64 vb, .lst false 36 hs])), .box (.p (.agg [.int .i64 va, .int .i64 vb, .lst false 36 hs])), .box (.p (.agg [.lst true 130 [], .lst true 2 []])), .box (.p (.agg [.lst true 130 [], .lst true 2 []]))]⟩, PCall Try.prog 24 [.agg [.int .i64 fa, .lst fx 37 fq], .agg [.int .i64 fa, .lst fy 37 fq]] [.bool true], PCall Try.prog 26 [tT ch a b out sa sb de fe re sl fl tx] [.agg [.int .i64 fa, .lst fy 37 fq]], PCall Try.prog 25 [tT ch a b out sa sb de fe re sl fl tx] [.agg [.int .i64 fa, .lst fx 37 fq]], (ot != ot) = false, PCall Try.prog 23 [tT ch a b out sa sb de fe re sl fl tx, .int .i64 hd] [.int .i64 ot], PCall Try.prog 22 [tT ch a b out sa sb de fe re sl fl tx, .int .i64 hd] [.int .i64 ot], PCall Try.prog 21 [tT ch a b out sa sb de fe re sl fl tx, .agg [.int .i64 va, .int .i64 vb, .lst false 36 hs]] [.bool false], PCall Try.prog 20 [tT ch a b out sa sb de fe re sl fl tx, .agg [.int .i64 va, .int .i64 vb, .lst false 36 hs]] [.bool false], PCall Try.prog 19 [tT ch a b out sa sb de fe re sl fl tx] [.bool true], PCall Try.prog 18 [tT ch a b out sa sb de fe re sl fl tx] [.bool true], PCall Try.prog 17 [.agg [.lst true 130 [], .lst true 2 []], .agg [.lst true 130 [], .lst true 2 []]] [.bool true], PCall Try.prog 16 [] [.bool true], PCall Try.prog 15 [tT ch a b out sa sb de fe re sl fl tx, .int .i64 hd, .ba 32 (p), .agg [.int .i64 va, .int .i64 vb, .lst false 36 hs]] [.agg [.lst true 130 [], .lst true 2 []], .int .i64 1], PCall Try.prog 14 [tT ch a b out sa sb de fe re sl fl tx, .int .i64 hd, .ba 32 (p), .agg [.int .i64 va, .int .i64 vb, .lst false 36 hs]] [.agg [.lst true 130 [], .lst true 2 []], .int .i64 1], PCall Try.prog 13 [.agg [.int .i64 va, .int .i64 vb, .lst false 36 hs]] [.agg [.int .i64 va, .int .i64 vb, .lst false 36 hs]]]) := by kernel_rfl
theorem dcT_b3 (hd ot fa i : Int) (p : List Int) (os qt fq : List T) (xo yo fx fy : Bool) (ch a b out sa sb de fe re sl fl va vb : Int) (tx : List Int) (hs : List T): topK (Cd [] [13, 14, 15, 16, 17, 18, 19, 20, 21, 22, 23, 25, 26, 24, 27]) 30 3 [] [.p (tT ch a b out sa sb de fe re sl fl tx), .p (.int .i64 hd), .p (.ba 32 (p)), .p (.agg [.int .i64 va, .int .i64 vb, .lst false 36 hs])] [(9, false)] [some ([7, 9, 10, 13, 14], .exit 0, ⟨103, [(7, .ptr 2 0), (9, .ptr 3 0), (10, .ptr 4 0), (13, .p (.int .i64 1)), (14, .p (.int .i64 i))], [.box (.p (tT ch a b out sa sb de fe re sl fl tx)), .box (.p (.ba 32 (p))), .box (.p (.agg [.int .i64 va, .int .i64 vb, .lst false 36 hs])), .box (.p (.agg [.int .i64 va, .int .i64 vb, .lst false 36 hs])), .box (.p (.agg [.lst true 130 [], .lst true 2 []])), .box (.p (.agg [.lst true 130 [], .lst true 2 []]))]⟩)] [] [[.agg [.int .i64 va, .int .i64 vb, .lst false 36 hs]], [.agg [.lst true 130 [], .lst true 2 []], .int .i64 1], [.agg [.lst true 130 [], .lst true 2 []], .int .i64 1], [.bool true], [.bool true], [.bool false], [.bool false], [.bool false], [.bool false], [.int .i64 ot], [.int .i64 ot], [.agg [.int .i64 fa, .lst fx 37 fq]], [.agg [.int .i64 fa, .lst fy 37 fq]], [.bool true], [.bool true]] [] = some ([.rb true], [], [LoopG Try.prog 0 (loopAt Try.f3 0) ⟨103, [(14, .p (.int .i64 0)), (10, .ptr 4 0), (13, .p (.int .i64 1)), (9, .ptr 3 0), (7, .ptr 2 0)], [.box (.p (tT ch a b out sa sb de fe re sl fl tx)), .box (.p (.ba 32 (p))), .box (.p (.agg [.int .i64 va, .int .i64 vb, .lst false 36 hs])), .box (.p (.agg [.int .i64 va, .int .i64 vb, .lst false 36 hs])), .box (.p (.agg [.lst true 130 [], .lst true 2 []])), .box (.p (.agg [.lst true 130 [], .lst true 2 []]))]⟩ (.exit 0) ⟨103, [(7, .ptr 2 0), (9, .ptr 3 0), (10, .ptr 4 0), (13, .p (.int .i64 1)), (14, .p (.int .i64 i))], [.box (.p (tT ch a b out sa sb de fe re sl fl tx)), .box (.p (.ba 32 (p))), .box (.p (.agg [.int .i64 va, .int .i64 vb, .lst false 36 hs])), .box (.p (.agg [.int .i64 va, .int .i64 vb, .lst false 36 hs])), .box (.p (.agg [.lst true 130 [], .lst true 2 []])), .box (.p (.agg [.lst true 130 [], .lst true 2 []]))]⟩, PCall Try.prog 24 [.agg [.int .i64 fa, .lst fx 37 fq], .agg [.int .i64 fa, .lst fy 37 fq]] [.bool true], PCall Try.prog 26 [tT ch a b out sa sb de fe re sl fl tx] [.agg [.int .i64 fa, .lst fy 37 fq]], PCall Try.prog 25 [tT ch a b out sa sb de fe re sl fl tx] [.agg [.int .i64 fa, .lst fx 37 fq]], (ot != ot) = false, PCall Try.prog 23 [tT ch a b out sa sb de fe re sl fl tx, .int .i64 hd] [.int .i64 ot], PCall Try.prog 22 [tT ch a b out sa sb de fe re sl fl tx, .int .i64 hd] [.int .i64 ot], PCall Try.prog 21 [tT ch a b out sa sb de fe re sl fl tx, .agg [.int .i64 va, .int .i64 vb, .lst false 36 hs]] [.bool false], PCall Try.prog 20 [tT ch a b out sa sb de fe re sl fl tx, .agg [.int .i64 va, .int .i64 vb, .lst false 36 hs]] [.bool false], PCall Try.prog 19 [tT ch a b out sa sb de fe re sl fl tx] [.bool false], PCall Try.prog 18 [tT ch a b out sa sb de fe re sl fl tx] [.bool false], PCall Try.prog 17 [.agg [.lst true 130 [], .lst true 2 []], .agg [.lst true 130 [], .lst true 2 []]] [.bool true], PCall Try.prog 16 [] [.bool true], PCall Try.prog 15 [tT ch a b out sa sb de fe re sl fl tx, .int .i64 hd, .ba 32 (p), .agg [.int .i64 va, .int .i64 vb, .lst false 36 hs]] [.agg [.lst true 130 [], .lst true 2 []], .int .i64 1], PCall Try.prog 14 [tT ch a b out sa sb de fe re sl fl tx, .int .i64 hd, .ba 32 (p), .agg [.int .i64 va, .int .i64 vb, .lst false 36 hs]] [.agg [.lst true 130 [], .lst true 2 []], .int .i64 1], PCall Try.prog 13 [.agg [.int .i64 va, .int .i64 vb, .lst false 36 hs]] [.agg [.int .i64 va, .int .i64 vb, .lst false 36 hs]]]) := by kernel_rfl
def SD_g (t : Terms) (v : View) (hd : Int) (p : List Int) (os qt : List T) (xo yo : Bool) (i : Int) : St := ⟨103, [(7, .ptr 2 0), (9, .ptr 3 0), (10, .ptr 4 0), (13, .p (.int .i64 0)), (14, .p (.int .i64 i))], [.box (.p (tT t.Channel t.A t.B t.Fund.Out t.StartA t.StartB t.Delay t.Fee t.Reserve t.Slots t.Flight t.Fund.Tx)), .box (.p (.ba 32 (p))), .box (.p (.agg [.int .i64 v.A, .int .i64 v.B, .lst false 36 (v.Htlcs.map Htlc.t)])), .box (.p (.agg [.int .i64 v.A, .int .i64 v.B, .lst false 36 (v.Htlcs.map Htlc.t)])), .box (.p (.agg [.lst true 130 [.agg [.agg [.ba 32 (t.Fund.Tx), .int .i64 t.Fund.Out], .int .i64 0, .ba 32 zeros, .ba 32 zeros, .ba 32 zeros]], .lst xo 2 os])), .box (.p (.agg [.lst true 130 [.agg [.agg [.ba 32 (t.Fund.Tx), .int .i64 t.Fund.Out], .int .i64 0, .ba 32 zeros, .ba 32 zeros, .ba 32 zeros]], .lst yo 2 qt]))]⟩

theorem dc_loop_g (t : Terms) (v : View) (hd : Int) (p : List Int) (os qt : List T) (xo yo : Bool) (hl : v.Htlcs.length * 64 ≤ 140737488355328) : ∀ (r pre : List Htlc), v.Htlcs = pre ++ r →
    LoopG Try.prog 0 (loopAt Try.f3 0) (SD_g t v hd p os qt xo yo (pre.length : Int)) (.exit 0) (SD_g t v hd p os qt xo yo (v.Htlcs.length : Int))
  | [], pre, he => by
    have hp : pre = v.Htlcs := by rw [he]; simp
    rw [hp]
    exact LoopG.leave (CodeG.normE (bodyK_sound (Cd_ok _ _) (dcE_g hd 0 0 (v.Htlcs.length : Int) p os qt [] xo yo true true t.Channel t.A t.B t.Fund.Out t.StartA t.StartB t.Delay t.Fee t.Reserve t.Slots t.Flight v.A v.B t.Fund.Tx (v.Htlcs.map Htlc.t)) ⟨by simp, trivial⟩) (by omega) (by omega) [7, 9, 10, 13, 14] (m := 0) (k := 6) (by kernel_rfl)) rfl
  | h :: r, pre, he => by
    have hx : (0 : Int) ≤ (pre.length : Int) ∧ (v.Htlcs.map Htlc.t)[((pre.length : Int)).toNat]? = some h.t := ⟨by omega, by rw [he]; simp⟩
    have hlen : pre.length + (r.length + 1) = v.Htlcs.length := by rw [he]; simp
    have hlt : decide ((pre.length : Int) < ((v.Htlcs.map Htlc.t).length : Int)) = true := by rw [he]; simp; omega
    have wi : IntKind.i64.wrap ((pre.length : Int) + 1) = (pre.length : Int) + 1 := w64 (by omega) (by omega)
    have ih := dc_loop_g t v hd p os qt xo yo hl r (pre ++ [h]) (by rw [he]; simp)
    rw [show (((pre ++ [h]).length : Nat) : Int) = (pre.length : Int) + 1 by simp] at ih
    have q := CodeG.normE (bodyK_sound (Cd_ok _ _) (dcB_g hd 0 0 (pre.length : Int) p os qt [] xo yo true true t.Channel t.A t.B t.Fund.Out t.StartA t.StartB t.Delay t.Fee t.Reserve t.Slots t.Flight v.A v.B t.Fund.Tx (v.Htlcs.map Htlc.t) h.By h.Id h.Amount h.Expiry h.Hash) ⟨by simp [hT, T.eqB, T.eqsB], hx, hx, hlt, trivial⟩) (by omega) (by omega) [7, 9, 10, 13, 14] (m := 0) (k := 6) (st2 := SD_g t v hd p os qt xo yo (IntKind.i64.wrap ((pre.length : Int) + 1))) (by kernel_rfl)
    rw [wi] at q
    exact LoopG.next q ih

def SD_b1 (t : Terms) (v : View) (hd : Int) (p : List Int) (os qt : List T) (xo yo : Bool) (i : Int) : St := ⟨103, [(7, .ptr 2 0), (9, .ptr 3 0), (10, .ptr 4 0), (13, .p (.int .i64 1)), (14, .p (.int .i64 i))], [.box (.p (tT t.Channel t.A t.B t.Fund.Out t.StartA t.StartB t.Delay t.Fee t.Reserve t.Slots t.Flight t.Fund.Tx)), .box (.p (.ba 32 (p))), .box (.p (.agg [.int .i64 v.A, .int .i64 v.B, .lst false 36 (v.Htlcs.map Htlc.t)])), .box (.p (.agg [.int .i64 v.A, .int .i64 v.B, .lst false 36 (v.Htlcs.map Htlc.t)])), .box (.p (.agg [.lst true 130 [], .lst true 2 []])), .box (.p (.agg [.lst true 130 [], .lst true 2 []]))]⟩

theorem dc_loop_b1 (t : Terms) (v : View) (hd : Int) (p : List Int) (os qt : List T) (xo yo : Bool) (hl : v.Htlcs.length * 64 ≤ 140737488355328) : ∀ (r pre : List Htlc), v.Htlcs = pre ++ r →
    LoopG Try.prog 0 (loopAt Try.f3 0) (SD_b1 t v hd p os qt xo yo (pre.length : Int)) (.exit 0) (SD_b1 t v hd p os qt xo yo (v.Htlcs.length : Int))
  | [], pre, he => by
    have hp : pre = v.Htlcs := by rw [he]; simp
    rw [hp]
    exact LoopG.leave (CodeG.normE (bodyK_sound (Cd_ok _ _) (dcE_b1 hd 0 0 (v.Htlcs.length : Int) p os qt [] xo yo true true t.Channel t.A t.B t.Fund.Out t.StartA t.StartB t.Delay t.Fee t.Reserve t.Slots t.Flight v.A v.B t.Fund.Tx (v.Htlcs.map Htlc.t)) ⟨by simp, trivial⟩) (by omega) (by omega) [7, 9, 10, 13, 14] (m := 0) (k := 6) (by kernel_rfl)) rfl
  | h :: r, pre, he => by
    have hx : (0 : Int) ≤ (pre.length : Int) ∧ (v.Htlcs.map Htlc.t)[((pre.length : Int)).toNat]? = some h.t := ⟨by omega, by rw [he]; simp⟩
    have hlen : pre.length + (r.length + 1) = v.Htlcs.length := by rw [he]; simp
    have hlt : decide ((pre.length : Int) < ((v.Htlcs.map Htlc.t).length : Int)) = true := by rw [he]; simp; omega
    have wi : IntKind.i64.wrap ((pre.length : Int) + 1) = (pre.length : Int) + 1 := w64 (by omega) (by omega)
    have ih := dc_loop_b1 t v hd p os qt xo yo hl r (pre ++ [h]) (by rw [he]; simp)
    rw [show (((pre ++ [h]).length : Nat) : Int) = (pre.length : Int) + 1 by simp] at ih
    have q := CodeG.normE (bodyK_sound (Cd_ok _ _) (dcB_b1 hd 0 0 (pre.length : Int) p os qt [] xo yo true true t.Channel t.A t.B t.Fund.Out t.StartA t.StartB t.Delay t.Fee t.Reserve t.Slots t.Flight v.A v.B t.Fund.Tx (v.Htlcs.map Htlc.t) h.By h.Id h.Amount h.Expiry h.Hash) ⟨by simp [hT, T.eqB, T.eqsB], hx, hx, hlt, trivial⟩) (by omega) (by omega) [7, 9, 10, 13, 14] (m := 0) (k := 6) (st2 := SD_b1 t v hd p os qt xo yo (IntKind.i64.wrap ((pre.length : Int) + 1))) (by kernel_rfl)
    rw [wi] at q
    exact LoopG.next q ih


theorem dealCommits_ok (t : Terms) (hd : Int) (p : List Int) (v : View) (hr : Ranges t v) (hl : v.Htlcs.length * 64 ≤ 140737488355328) : PCall Try.prog 3 [t.t, i64 hd, .ba 32 p, v.t false] [.bool true] := by
  have hcom := commit_ok t hd p v false
  have hrcom := rcommit_ok t hd p v
  have hmay := may_ok' t
  have hrmay := rmay_ok0 t
  have hfits := fits_ok t v false
  have hrfits := rfits_ok0 t v
  have hfund : PCall Try.prog 26 [t.t] [(fundO t).t] := by
    have h := rfund_ok t
    unfold rfundO at h
    rw [rmay_eq hr] at h
    exact h
  rw [rmay_eq hr] at hrmay
  rw [rfits_eq hr] at hrfits
  unfold commit at hcom
  unfold rcommit at hrcom
  rw [rcomBad_eq hr] at hrcom
  cases hb : comBad t hd p v with
  | false =>
    rw [hb] at hcom hrcom
    obtain ⟨hmy, hall⟩ := dc_may hr hb
    rw [hall] at hrcom
    obtain ⟨hf, _⟩ := comBad_false hb
    obtain ⟨hm, _, _, _⟩ := fits_go hf
    rw [hm] at hmay hrmay
    rw [hf] at hfits hrfits
    have hlen := fits_len hf
    have hsame := same_true t.Fund v.Htlcs.isEmpty false (comAll t hd p v) (by rw [comAll_len]; omega) (fun o ho => by
      unfold comAll comOuts at ho
      rcases List.mem_append.1 ho with ho | ho
      · simp only [List.mem_cons, List.not_mem_nil, or_false] at ho
        rcases ho with rfl | rfl <;> simp [rev]
      · obtain ⟨h, _, rfl⟩ := List.mem_map.1 ho
        rw [(comOut_amount t hd (other t hd) p h).2]; omega)
    have lp := dc_loop_g t v hd p ((comAll t hd p v).map Out.t) (((comAll t hd p v).map setX).map Out.t) v.Htlcs.isEmpty false hl v.Htlcs [] rfl
    exact (topK_sound (Cd_ok _ _) (dcT_g hd (other t hd) (fundO t).Amount (v.Htlcs.length : Int) p ((comAll t hd p v).map Out.t) (((comAll t hd p v).map setX).map Out.t) ((fundO t).Paths.map Path.t) v.Htlcs.isEmpty false (fundO t).X (fundO t).X t.Channel t.A t.B t.Fund.Out t.StartA t.StartB t.Delay t.Fee t.Reserve t.Slots t.Flight v.A v.B t.Fund.Tx (v.Htlcs.map Htlc.t)) ⟨hmy, LoopG.preE (by omega) (by omega) [7, 9, 10, 13, 14] (m := 0) (k := 6) (by kernel_rfl) lp, sameOut_ok _ _ _ _ (by unfold fundO; cases may t <;> simp), hfund, fund_ok t, by simp, rother_ok t hd, other_ok t hd, hrfits, hfits, hrmay, hmay, hsame, lives_ok, hrcom, hcom, copied_ok v hl, trivial⟩).pure (k := 64) rfl
  | true =>
    rw [hb] at hcom hrcom
    have hsame := same_false true true [] (by simp) (by simp)
    have lp := dc_loop_b1 t v hd p [] [] true true hl v.Htlcs [] rfl
    cases hm : may t with
    | false =>
      have hf : fits t v = false := by unfold fits; rw [hm]; rfl
      rw [hm] at hmay hrmay
      rw [hf] at hfits hrfits
      exact (topK_sound (Cd_ok _ _) (dcT_b3 hd (other t hd) (fundO t).Amount (v.Htlcs.length : Int) p [] [] ((fundO t).Paths.map Path.t) true true (fundO t).X (fundO t).X t.Channel t.A t.B t.Fund.Out t.StartA t.StartB t.Delay t.Fee t.Reserve t.Slots t.Flight v.A v.B t.Fund.Tx (v.Htlcs.map Htlc.t)) ⟨LoopG.preE (by omega) (by omega) [7, 9, 10, 13, 14] (m := 0) (k := 6) (by kernel_rfl) lp, sameOut_ok _ _ _ _ (by unfold fundO; cases may t <;> simp), hfund, fund_ok t, by simp, rother_ok t hd, other_ok t hd, hrfits, hfits, hrmay, hmay, hsame, lives_ok, hrcom, hcom, copied_ok v hl, trivial⟩).pure (k := 64) rfl
    | true =>
      rw [hm] at hmay hrmay
      cases hf : fits t v with
      | false =>
        rw [hf] at hfits hrfits
        exact (topK_sound (Cd_ok _ _) (dcT_b2 hd (other t hd) (fundO t).Amount (v.Htlcs.length : Int) p [] [] ((fundO t).Paths.map Path.t) true true (fundO t).X (fundO t).X t.Channel t.A t.B t.Fund.Out t.StartA t.StartB t.Delay t.Fee t.Reserve t.Slots t.Flight v.A v.B t.Fund.Tx (v.Htlcs.map Htlc.t)) ⟨LoopG.preE (by omega) (by omega) [7, 9, 10, 13, 14] (m := 0) (k := 6) (by kernel_rfl) lp, sameOut_ok _ _ _ _ (by unfold fundO; cases may t <;> simp), hfund, fund_ok t, by simp, rother_ok t hd, other_ok t hd, hrfits, hfits, hrmay, hmay, hsame, lives_ok, hrcom, hcom, copied_ok v hl, trivial⟩).pure (k := 64) rfl
      | true =>
        rw [hf] at hfits hrfits
        exact (topK_sound (Cd_ok _ _) (dcT_b1 hd (other t hd) (fundO t).Amount (v.Htlcs.length : Int) p [] [] ((fundO t).Paths.map Path.t) true true (fundO t).X (fundO t).X t.Channel t.A t.B t.Fund.Out t.StartA t.StartB t.Delay t.Fee t.Reserve t.Slots t.Flight v.A v.B t.Fund.Tx (v.Htlcs.map Htlc.t)) ⟨LoopG.preE (by omega) (by omega) [7, 9, 10, 13, 14] (m := 0) (k := 6) (by kernel_rfl) lp, sameOut_ok _ _ _ _ (by unfold fundO; cases may t <;> simp), hfund, fund_ok t, by simp, rother_ok t hd, other_ok t hd, hrfits, hfits, hrmay, hmay, hsame, lives_ok, hrcom, hcom, copied_ok v hl, trivial⟩).pure (k := 64) rfl

theorem view_unx {w : World} {ok : Nat → Nat → Prop} {v : View} {f : Bool} {cs : List Value} (q : Tc w ok (v.t f) cs) : Tc w ok (v.t false) cs := by
  unfold View.t at q ⊢
  cases q with | agg q => cases q with | cons a q => cases q with | cons b q => cases q with | cons c q =>
    exact .agg (.cons a (.cons b (.cons c.unx q)))

theorem dealCommits_flag (t : Terms) (hd : Int) (p : List Int) (v : View) (f : Bool) (hr : Ranges t v) (hl : v.Htlcs.length * 64 ≤ 140737488355328) : PCall Try.prog 3 [t.t, i64 hd, .ba 32 p, v.t f] [.bool true] := by
  have h0 := dealCommits_ok t hd p v hr hl
  refine ⟨h0.1, fun U w vals hU hF => h0.2 U w vals hU ?_⟩
  cases hF with | cons h1 hF => cases hF with | cons h2 hF => cases hF with | cons h3 hF => cases hF with | cons h4 hF =>
    exact .cons h1 (.cons h2 (.cons h3 (.cons ⟨view_unx h4.1, h4.2⟩ hF)))

end Go.HM.Deal

namespace Go.HM
open Go.ChangeShapes Go.WideShapes Go.ChangeAt Go.RowKit
section
variable {H : Type} {enc : TypeId × Value → H} {P : Program} {W : World} {base : Nat}

/-- The contract of a law that looks at the size of what it is handed. -/
theorem law_contract2 {K : FuncId} {fn : Func} {s : ChangeSpec} {ss : List Sh} {bt : TypeId} {n : Nat} (hl : laidOutB P = true) (hsh : shsOf P fn.params.toList = some ss)
    (hrd : (fn.params.toList.all fun t => P.readableRec t && decide (t < P.types.size)) = true) (hn : fn.params.toList.length = n) (hres : fn.resultTypes = #[bt]) (hbt : P.underlying bt = some .bool) (hvars : s.vars = [])
    (hfn : ∀ (H : Type) (ds : List (DataW H)), ds.length = n → (s.fn H (ds ++ [])).results = [.lit (.bool true)] ∧ (s.fn H (ds ++ [])).args = ds ∧ (s.fn H (ds ++ [])).vars = [])
    {args : Array Value} {ds gs : List (DataW H)} {before : List MemPlace}
    (hP : ∀ xs p, HasShs ss xs → F2 (TV W okAll) xs args.toList → DataW.TrodAll enc P W 0 (fun _ => true) true fn.params.toList args.toList ds p → PCall P K xs [.bool true])
    (hval : ∀ (j : Nat) t v, fn.params[j]? = some t → args[j]? = some v → Value.okWide P W .any base t v)
    (hW : DataW.Whole enc P fn.params.toList s.vars false W args.toList ds gs before) :
    Calls P K args W fun e W' => ∃ v, e = .returned v ∧ s.post enc P fn false true false false W args v W' := by
  have hW' := hW
  obtain ⟨p, q, hA, hV, rfl, hfz, hnd⟩ := hW
  rw [hvars] at hV
  obtain ⟨rfl, rfl⟩ := trodVars_none hV
  obtain ⟨xs, hx, hF⟩ := args_trees (base := base) hA hsh (fun j t v ht hv => hval j t v (by simpa using ht) (by simpa using hv))
  have hlen : ds.length = n := by rw [trodAll_len hA, hn]
  obtain ⟨f1, f2, f3⟩ := hfn H ds hlen
  have hc := (hP xs p hx hF hA).2 okAll W args.toList (fun _ _ _ => trivial) hF
  rw [show args.toList.toArray = args by simp] at hc
  refine hc.mono fun e W' ⟨v, he, hr, hk⟩ => ?_
  have hv : v = .bool true := by
    have h1 : TV W' okAll (.bool true) v := hr
    have h2 := h1.cell rfl
    cases h2
    rfl
  subst hv
  have hb := Kept.below hk
  have hlt : ∀ x ∈ p, x.block < W.heap.size := fun x hx => hW'.lt x (by simp [hx])
  refine ⟨_, he, post_below (pa := p) (pv := []) hW' ?_ ?_ ?_ rfl hb (ok_one hres rfl (okWide_bool_mk hbt _))⟩
  · intro b sp hd
    rw [f1, hres]
    exact trodAll_mk1 (shut_bool hbt true)
  · intro sp hsp
    rw [f2]
    exact trodAll_stays hl hb hrd hA hlt (fun x hx => hsp x (by simp [hx]))
  · intro sp _
    rw [f3, hvars]
    rfl

end

namespace Deal
open Go.Proofs
theorem view_len {H : Type} {enc : TypeId × Value → H} {W : World} {sp : Nat → Bool} {held : Bool} {fuel : Nat} {cs : List Value} {x : DataW H × List MemPlace} (h : DataW.trod enc Try.prog W 0 sp held fuel 29 cs = some x) (hw : ∀ n ∈ x.1.weights Try.prog 29, n ≤ reachBytes) {U : Nat → Nat → Prop} {v : View} {f : Bool} (q : Tc W U (v.t f) cs) : v.Htlcs.length * 64 ≤ 140737488355328 := by
  have hk : ((Try.prog.underlying 29).bind fun d => match d with
    | .struct fs => (fs[2]?).map (fun f => (f.type, f.offset))
    | _ => none) = some (27, 2) := by kernel_rfl
  have hu2 : Try.prog.underlying 27 = some (.slice 49) := by kernel_rfl
  have hby : Try.prog.bytesOf 49 = 64 := by kernel_rfl
  have hco : Try.prog.cellsOf 27 = 1 := by kernel_rfl
  have hR := reachBytes_lt
  cases hu : Try.prog.underlying 29 with
  | none => rw [hu] at hk; cases hk
  | some d =>
    rw [hu] at hk
    cases d with
    | struct fs =>
      simp only [Option.bind_some, Option.map_eq_some_iff] at hk
      obtain ⟨fl, hf, e⟩ := hk
      injection e with e1 e2
      obtain ⟨xs, n, rfl, rfl, hl, hxl, hg⟩ := DataW.trod_struct hu h
      have g := hg 2 fl hf
      rw [e1, e2, hco] at g
      have h2 : 2 < fs.size := by
        rcases Nat.lt_or_ge 2 fs.size with q | q
        · exact q
        · rw [Array.getElem?_eq_none q] at hf; cases hf
      obtain ⟨y, hy⟩ : ∃ y, xs[2]? = some y := ⟨xs[2]'(by omega), List.getElem?_eq_getElem (by omega)⟩
      rw [hy] at g
      unfold View.t at q
      cases q with | agg q => cases q with | cons a q => cases q with | cons b q => cases q with | cons c q =>
        cases q
        cases a
        cases b
        simp only [List.cons_append, List.nil_append, List.drop_succ_cons, List.drop_zero, List.append_nil] at g
        have hc : v.Htlcs.length = 0 ∨ ∃ bs cap cs', cs' = [Value.slice bs (v.Htlcs.map Htlc.t).length cap] ∧ DataW.trod enc Try.prog W 0 sp held n 27 cs' = some y := by
          generalize hts : v.Htlcs.map Htlc.t = ts at c
          have hlen : ts.length = v.Htlcs.length := by rw [← hts]; simp
          cases c with
          | lstnil => exact .inl (by simpa using hlen.symm)
          | lst0 _ => exact .inl (by simpa using hlen.symm)
          | lst h1 _ _ _ _ _ => exact .inr ⟨_, _, _, by rw [h1], by simpa using g⟩
        rcases hc with hc | ⟨bs, cap, cs', rfl, g'⟩
        · omega
        · rcases DataW.trod_slice hu2 g' with ⟨e, _⟩ | ⟨a, len, cap', elems, rest, m, _, e, ey, _, _, _, hlen, _⟩
          · injection e with e _
            injection e with _ e3 _
            simp at e3
            rw [e3]; simp
          · injection e with e _
            injection e with _ e3 _
            have hmem : ((elems.map (·.1)).length + (rest.map (·.1)).length) * Try.prog.bytesOf 49 ∈ (DataW.agg (xs.map (·.1))).weights Try.prog 29 := by
              simp only [DataW.weights, hu]
              refine DataW.weights_mem_each (j := 2) (t := 27) (d := y.1) ?_ ?_ _ ?_
              · have hf' : fs.toList[2]? = some fl := by simpa using hf
                rw [List.getElem?_map, hf', Option.map_some, e1]
              · rw [List.getElem?_map, hy, Option.map_some]
              · rw [ey]
                simp only [DataW.weights, hu2, List.mem_cons, true_or]
            have hle := hw _ hmem
            rw [hby] at hle
            simp only [List.length_map] at hle e3
            have e4 : v.Htlcs.length = elems.length := by
              have : (v.Htlcs.length : Int) = len := by first | exact_mod_cast e3 | omega
              omega
            omega
    | _ => cases hk
end Deal
end Go.HM
