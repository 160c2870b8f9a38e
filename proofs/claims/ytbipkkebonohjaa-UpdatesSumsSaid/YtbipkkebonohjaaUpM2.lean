/- UP, second part: look, Find, Grow, Concat, view, View, the plain law, the law joined (runs printed by a small program out of the runs themselves). -/
import Derived.Test.YtbipkkebonohjaaUpM1
import Derived.Shelf.Spec.SlicesGrow
import Derived.Test.YtbipkkebonohjaaHnFr
import Derived.Test.YtbipkkebonohjaaHmZ
import Derived.Test.YtbipkkebonohjaaProg
import Derived.Test.YtbipkkebonohjaaDcB
import Derived.Test.YtbipkkebonohjaaKecM
import Derived.Test.YtbipkkebonohjaaHmRow
import Derived.SizedLaws
set_option maxRecDepth 100000
namespace Go.HM.Up
open Go.Proofs

def trT (tc ta tb to ts te td tf tr tl tg : Int) (tx : List Int) : T := .agg [.int .i64 tc, .int .i64 ta, .int .i64 tb, .agg [.ba 32 tx, .int .i64 to], .int .i64 ts, .int .i64 te, .int .i64 td, .int .i64 tf, .int .i64 tr, .int .i64 tl, .int .i64 tg]
def qD0 (tc ta tb to ts te td tf tr tl tg : Int) (tx : List Int) (ha : List T) (pda ala : Int) (ua : List T) (mp : List (T × T)) (g2 : T) (ub : List T) (mq : List (T × T)) (g3 g4 : T) (hb : List T) (pdb alb : Int) (g5 : T) : List SObj := [.box (.p ((trT tc ta tb to ts te td tf tr tl tg tx))), .box (.agg [.row 20 0 (.lst false 36 ha), .p (.int .i64 pda), .p (.int .i64 ala)]), .box (.p (.agg [.lst true 36 [], .int .i64 0, .int .i64 0])), .box (.agg [.row 7 0 (.lst false 137 ua), .map 4]), .map mp, .box (.agg [.row 7 0 (.lst false 137 ua), .map 4]), .box (.p g2), .row 0 137, .box (.agg [.row 7 0 (.lst false 137 ua), .map 4]), .box (.agg [.row 13 0 (.lst false 137 ub), .map 10]), .map mq, .box (.agg [.row 13 0 (.lst false 137 ub), .map 10]), .box (.p g3), .row 0 137, .box (.agg [.row 13 0 (.lst false 137 ub), .map 10]), .box (.agg [.row 7 0 (.lst false 137 ua), .map 4]), .box (.agg [.row 13 0 (.lst false 137 ub), .map 10]), .box (.agg [.row 20 0 (.lst false 36 ha), .p (.int .i64 pda), .p (.int .i64 ala)]), .box (.agg [.row 20 0 (.lst false 36 ha), .p (.int .i64 pda), .p (.int .i64 ala)]), .box (.p g4), .row 0 36, .box (.agg [.row 13 0 (.lst false 137 ub), .map 10]), .box (.agg [.row 7 0 (.lst false 137 ua), .map 4]), .box (.agg [.row 26 0 (.lst false 36 hb), .p (.int .i64 pdb), .p (.int .i64 alb)]), .box (.agg [.row 26 0 (.lst false 36 hb), .p (.int .i64 pdb), .p (.int .i64 alb)]), .box (.p g5), .row 0 36]
def qD1 (tc ta tb to ts te td tf tr tl tg : Int) (tx : List Int) (ha : List T) (pda ala : Int) (ua : List T) (mp : List (T × T)) (g2 : T) (ub : List T) (mq : List (T × T)) (g3 g4 : T) : List SObj := [.box (.p ((trT tc ta tb to ts te td tf tr tl tg tx))), .box (.agg [.row 20 0 (.lst false 36 ha), .p (.int .i64 pda), .p (.int .i64 ala)]), .box (.p (.agg [.lst true 36 [], .int .i64 0, .int .i64 0])), .box (.agg [.row 7 0 (.lst false 137 ua), .map 4]), .map mp, .box (.agg [.row 7 0 (.lst false 137 ua), .map 4]), .box (.p g2), .row 0 137, .box (.agg [.row 7 0 (.lst false 137 ua), .map 4]), .box (.agg [.row 13 0 (.lst false 137 ub), .map 10]), .map mq, .box (.agg [.row 13 0 (.lst false 137 ub), .map 10]), .box (.p g3), .row 0 137, .box (.agg [.row 13 0 (.lst false 137 ub), .map 10]), .box (.agg [.row 7 0 (.lst false 137 ua), .map 4]), .box (.agg [.row 13 0 (.lst false 137 ub), .map 10]), .box (.agg [.row 20 0 (.lst false 36 ha), .p (.int .i64 pda), .p (.int .i64 ala)]), .box (.agg [.row 20 0 (.lst false 36 ha), .p (.int .i64 pda), .p (.int .i64 ala)]), .box (.p g4), .row 0 36]
def qD2 (tc ta tb to ts te td tf tr tl tg : Int) (tx : List Int) (pda ala : Int) (ua : List T) (mp : List (T × T)) (g2 : T) (ub : List T) (mq : List (T × T)) (g3 : T) (hb : List T) (pdb alb : Int) (g5 : T) : List SObj := [.box (.p ((trT tc ta tb to ts te td tf tr tl tg tx))), .box (.p (.agg [.lst true 36 [], .int .i64 pda, .int .i64 ala])), .box (.p (.agg [.lst true 36 [], .int .i64 0, .int .i64 0])), .box (.agg [.row 7 0 (.lst false 137 ua), .map 4]), .map mp, .box (.agg [.row 7 0 (.lst false 137 ua), .map 4]), .box (.p g2), .row 0 137, .box (.agg [.row 7 0 (.lst false 137 ua), .map 4]), .box (.agg [.row 13 0 (.lst false 137 ub), .map 10]), .map mq, .box (.agg [.row 13 0 (.lst false 137 ub), .map 10]), .box (.p g3), .row 0 137, .box (.agg [.row 13 0 (.lst false 137 ub), .map 10]), .box (.agg [.row 13 0 (.lst false 137 ub), .map 10]), .box (.agg [.row 7 0 (.lst false 137 ua), .map 4]), .box (.agg [.row 20 0 (.lst false 36 hb), .p (.int .i64 pdb), .p (.int .i64 alb)]), .box (.agg [.row 20 0 (.lst false 36 hb), .p (.int .i64 pdb), .p (.int .i64 alb)]), .box (.p g5), .row 0 36]
def qD3 (tc ta tb to ts te td tf tr tl tg : Int) (tx : List Int) (ua : List T) (mp : List (T × T)) (g2 : T) (ub : List T) (mq : List (T × T)) (g3 : T) (ha : List T) (pda ala : Int) (g4 : T) : List SObj := [.box (.p ((trT tc ta tb to ts te td tf tr tl tg tx))), .box (.p (.agg [.lst true 36 [], .int .i64 0, .int .i64 0])), .box (.p (.agg [.lst true 36 [], .int .i64 0, .int .i64 0])), .box (.agg [.row 7 0 (.lst false 137 ua), .map 4]), .map mp, .box (.agg [.row 7 0 (.lst false 137 ua), .map 4]), .box (.p g2), .row 0 137, .box (.agg [.row 7 0 (.lst false 137 ua), .map 4]), .box (.agg [.row 13 0 (.lst false 137 ub), .map 10]), .map mq, .box (.agg [.row 13 0 (.lst false 137 ub), .map 10]), .box (.p g3), .row 0 137, .box (.agg [.row 13 0 (.lst false 137 ub), .map 10]), .box (.agg [.row 7 0 (.lst false 137 ua), .map 4]), .box (.agg [.row 13 0 (.lst false 137 ub), .map 10]), .box (.agg [.row 20 0 (.lst false 36 ha), .p (.int .i64 pda), .p (.int .i64 ala)]), .box (.agg [.row 20 0 (.lst false 36 ha), .p (.int .i64 pda), .p (.int .i64 ala)]), .box (.p g4), .row 0 36]
def qD4 (tc ta tb to ts te td tf tr tl tg : Int) (tx : List Int) (ha : List T) (pda ala : Int) (ua : List T) (mp : List (T × T)) (g2 : T) (mq : List (T × T)) (g4 : T) : List SObj := [.box (.p ((trT tc ta tb to ts te td tf tr tl tg tx))), .box (.agg [.row 18 0 (.lst false 36 ha), .p (.int .i64 pda), .p (.int .i64 ala)]), .box (.p (.agg [.lst true 36 [], .int .i64 0, .int .i64 0])), .box (.agg [.row 7 0 (.lst false 137 ua), .map 4]), .map mp, .box (.agg [.row 7 0 (.lst false 137 ua), .map 4]), .box (.p g2), .row 0 137, .box (.agg [.row 7 0 (.lst false 137 ua), .map 4]), .box (.agg [.p (.lst true 137 []), .map 10]), .map mq, .box (.agg [.p (.lst true 137 []), .map 10]), .box (.agg [.p (.lst true 137 []), .map 10]), .box (.agg [.row 7 0 (.lst false 137 ua), .map 4]), .box (.agg [.p (.lst true 137 []), .map 10]), .box (.agg [.row 18 0 (.lst false 36 ha), .p (.int .i64 pda), .p (.int .i64 ala)]), .box (.agg [.row 18 0 (.lst false 36 ha), .p (.int .i64 pda), .p (.int .i64 ala)]), .box (.p g4), .row 0 36]
def qD5 (tc ta tb to ts te td tf tr tl tg : Int) (tx : List Int) (pda ala : Int) (mp : List (T × T)) (ub : List T) (mq : List (T × T)) (g3 : T) (hb : List T) (pdb alb : Int) (g5 : T) : List SObj := [.box (.p ((trT tc ta tb to ts te td tf tr tl tg tx))), .box (.p (.agg [.lst true 36 [], .int .i64 pda, .int .i64 ala])), .box (.p (.agg [.lst true 36 [], .int .i64 0, .int .i64 0])), .box (.agg [.p (.lst true 137 []), .map 4]), .map mp, .box (.agg [.p (.lst true 137 []), .map 4]), .box (.agg [.p (.lst true 137 []), .map 4]), .box (.agg [.row 11 0 (.lst false 137 ub), .map 8]), .map mq, .box (.agg [.row 11 0 (.lst false 137 ub), .map 8]), .box (.p g3), .row 0 137, .box (.agg [.row 11 0 (.lst false 137 ub), .map 8]), .box (.agg [.row 11 0 (.lst false 137 ub), .map 8]), .box (.agg [.p (.lst true 137 []), .map 4]), .box (.agg [.row 18 0 (.lst false 36 hb), .p (.int .i64 pdb), .p (.int .i64 alb)]), .box (.agg [.row 18 0 (.lst false 36 hb), .p (.int .i64 pdb), .p (.int .i64 alb)]), .box (.p g5), .row 0 36]
def qD6 (tc ta tb to ts te td tf tr tl tg : Int) (tx : List Int) (ua : List T) (mp : List (T × T)) (g2 : T) (mq : List (T × T)) (ha : List T) (pda ala : Int) (g4 : T) : List SObj := [.box (.p ((trT tc ta tb to ts te td tf tr tl tg tx))), .box (.p (.agg [.lst true 36 [], .int .i64 0, .int .i64 0])), .box (.p (.agg [.lst true 36 [], .int .i64 0, .int .i64 0])), .box (.agg [.row 7 0 (.lst false 137 ua), .map 4]), .map mp, .box (.agg [.row 7 0 (.lst false 137 ua), .map 4]), .box (.p g2), .row 0 137, .box (.agg [.row 7 0 (.lst false 137 ua), .map 4]), .box (.agg [.p (.lst true 137 []), .map 10]), .map mq, .box (.agg [.p (.lst true 137 []), .map 10]), .box (.agg [.p (.lst true 137 []), .map 10]), .box (.agg [.row 7 0 (.lst false 137 ua), .map 4]), .box (.agg [.p (.lst true 137 []), .map 10]), .box (.agg [.row 18 0 (.lst false 36 ha), .p (.int .i64 pda), .p (.int .i64 ala)]), .box (.agg [.row 18 0 (.lst false 36 ha), .p (.int .i64 pda), .p (.int .i64 ala)]), .box (.p g4), .row 0 36]
def qD7 (tc ta tb to ts te td tf tr tl tg : Int) (tx : List Int) (pda ala : Int) (ua : List T) (mp : List (T × T)) (g2 : T) (ub : List T) (mq : List (T × T)) (g3 : T) : List SObj := [.box (.p ((trT tc ta tb to ts te td tf tr tl tg tx))), .box (.p (.agg [.lst true 36 [], .int .i64 pda, .int .i64 ala])), .box (.p (.agg [.lst true 36 [], .int .i64 0, .int .i64 0])), .box (.agg [.row 7 0 (.lst false 137 ua), .map 4]), .map mp, .box (.agg [.row 7 0 (.lst false 137 ua), .map 4]), .box (.p g2), .row 0 137, .box (.agg [.row 7 0 (.lst false 137 ua), .map 4]), .box (.agg [.row 13 0 (.lst false 137 ub), .map 10]), .map mq, .box (.agg [.row 13 0 (.lst false 137 ub), .map 10]), .box (.p g3), .row 0 137, .box (.agg [.row 13 0 (.lst false 137 ub), .map 10])]
def qD8 (tc ta tb to ts te td tf tr tl tg : Int) (tx : List Int) (ua : List T) (mx : List (T × T)) (g2 : T) (ub : List T) (g3 : T) : List SObj := [.box (.p ((trT tc ta tb to ts te td tf tr tl tg tx))), .box (.p (.agg [.lst true 36 [], .int .i64 0, .int .i64 0])), .box (.p (.agg [.lst true 36 [], .int .i64 0, .int .i64 0])), .box (.agg [.row 7 0 (.lst false 137 ua), .map 4]), .map mx, .box (.agg [.row 7 0 (.lst false 137 ua), .map 4]), .box (.p g2), .row 0 137, .box (.agg [.row 7 0 (.lst false 137 ua), .map 4]), .box (.agg [.row 13 0 (.lst false 137 ub), .map 10]), .map [], .box (.agg [.row 13 0 (.lst false 137 ub), .map 10]), .box (.p g3), .row 0 137, .box (.agg [.row 13 0 (.lst false 137 ub), .map 10])]
def qD9 (tc ta tb to ts te td tf tr tl tg : Int) (tx : List Int) (ua : List T) (g2 : T) (ub : List T) (g3 : T) : List SObj := [.box (.p ((trT tc ta tb to ts te td tf tr tl tg tx))), .box (.p (.agg [.lst true 36 [], .int .i64 0, .int .i64 0])), .box (.p (.agg [.lst true 36 [], .int .i64 0, .int .i64 0])), .box (.agg [.row 7 0 (.lst false 137 ua), .map 4]), .map [], .box (.agg [.row 7 0 (.lst false 137 ua), .map 4]), .box (.p g2), .row 0 137, .box (.agg [.row 7 0 (.lst false 137 ua), .map 4]), .box (.agg [.row 13 0 (.lst false 137 ub), .map 10]), .map [], .box (.agg [.row 13 0 (.lst false 137 ub), .map 10]), .box (.p g3), .row 0 137, .box (.agg [.row 13 0 (.lst false 137 ub), .map 10])]
def qD10 (tc ta tb to ts te td tf tr tl tg : Int) (tx : List Int) (ua : List T) (mp : List (T × T)) (g2 : T) (ub : List T) (g3 : T) : List SObj := [.box (.p ((trT tc ta tb to ts te td tf tr tl tg tx))), .box (.p (.agg [.lst true 36 [], .int .i64 0, .int .i64 0])), .box (.p (.agg [.lst true 36 [], .int .i64 0, .int .i64 0])), .box (.agg [.row 7 0 (.lst false 137 ua), .map 4]), .map mp, .box (.agg [.row 7 0 (.lst false 137 ua), .map 4]), .box (.p g2), .row 0 137, .box (.agg [.row 7 0 (.lst false 137 ua), .map 4]), .box (.agg [.row 13 0 (.lst false 137 ub), .map 10]), .map [], .box (.agg [.row 13 0 (.lst false 137 ub), .map 10]), .box (.p g3), .row 0 137, .box (.agg [.row 13 0 (.lst false 137 ub), .map 10])]
def qD11 (tc ta tb to ts te td tf tr tl tg : Int) (tx : List Int) (ua : List T) (mp : List (T × T)) (g2 : T) (ub : List T) (my : List (T × T)) (g3 : T) : List SObj := [.box (.p ((trT tc ta tb to ts te td tf tr tl tg tx))), .box (.p (.agg [.lst true 36 [], .int .i64 0, .int .i64 0])), .box (.p (.agg [.lst true 36 [], .int .i64 0, .int .i64 0])), .box (.agg [.row 7 0 (.lst false 137 ua), .map 4]), .map mp, .box (.agg [.row 7 0 (.lst false 137 ua), .map 4]), .box (.p g2), .row 0 137, .box (.agg [.row 7 0 (.lst false 137 ua), .map 4]), .box (.agg [.row 13 0 (.lst false 137 ub), .map 10]), .map my, .box (.agg [.row 13 0 (.lst false 137 ub), .map 10]), .box (.p g3), .row 0 137, .box (.agg [.row 13 0 (.lst false 137 ub), .map 10])]
def qD12 (tc ta tb to ts te td tf tr tl tg : Int) (tx : List Int) (ua : List T) (mp : List (T × T)) (g2 : T) (ub : List T) (mq : List (T × T)) (g3 : T) : List SObj := [.box (.p ((trT tc ta tb to ts te td tf tr tl tg tx))), .box (.p (.agg [.lst true 36 [], .int .i64 0, .int .i64 0])), .box (.p (.agg [.lst true 36 [], .int .i64 0, .int .i64 0])), .box (.agg [.row 7 0 (.lst false 137 ua), .map 4]), .map mp, .box (.agg [.row 7 0 (.lst false 137 ua), .map 4]), .box (.p g2), .row 0 137, .box (.agg [.row 7 0 (.lst false 137 ua), .map 4]), .box (.agg [.row 13 0 (.lst false 137 ub), .map 10]), .map mq, .box (.agg [.row 13 0 (.lst false 137 ub), .map 10]), .box (.p g3), .row 0 137, .box (.agg [.row 13 0 (.lst false 137 ub), .map 10])]
def qD13 (tc ta tb to ts te td tf tr tl tg : Int) (tx : List Int) (pda ala : Int) (mp : List (T × T)) (ub : List T) (mq : List (T × T)) (g3 : T) : List SObj := [.box (.p ((trT tc ta tb to ts te td tf tr tl tg tx))), .box (.p (.agg [.lst true 36 [], .int .i64 pda, .int .i64 ala])), .box (.p (.agg [.lst true 36 [], .int .i64 0, .int .i64 0])), .box (.agg [.p (.lst true 137 []), .map 4]), .map mp, .box (.agg [.p (.lst true 137 []), .map 4]), .box (.agg [.p (.lst true 137 []), .map 4]), .box (.agg [.row 11 0 (.lst false 137 ub), .map 8]), .map mq, .box (.agg [.row 11 0 (.lst false 137 ub), .map 8]), .box (.p g3), .row 0 137, .box (.agg [.row 11 0 (.lst false 137 ub), .map 8])]
def qD14 (tc ta tb to ts te td tf tr tl tg : Int) (tx : List Int) (pda ala : Int) (ua : List T) (mp : List (T × T)) (g2 : T) (mq : List (T × T)) : List SObj := [.box (.p ((trT tc ta tb to ts te td tf tr tl tg tx))), .box (.p (.agg [.lst true 36 [], .int .i64 pda, .int .i64 ala])), .box (.p (.agg [.lst true 36 [], .int .i64 0, .int .i64 0])), .box (.agg [.row 7 0 (.lst false 137 ua), .map 4]), .map mp, .box (.agg [.row 7 0 (.lst false 137 ua), .map 4]), .box (.p g2), .row 0 137, .box (.agg [.row 7 0 (.lst false 137 ua), .map 4]), .box (.agg [.p (.lst true 137 []), .map 10]), .map mq, .box (.agg [.p (.lst true 137 []), .map 10]), .box (.agg [.p (.lst true 137 []), .map 10])]
def qD15 (tc ta tb to ts te td tf tr tl tg : Int) (tx : List Int) (mx : List (T × T)) (ub : List T) (g3 : T) : List SObj := [.box (.p ((trT tc ta tb to ts te td tf tr tl tg tx))), .box (.p (.agg [.lst true 36 [], .int .i64 0, .int .i64 0])), .box (.p (.agg [.lst true 36 [], .int .i64 0, .int .i64 0])), .box (.agg [.p (.lst true 137 []), .map 4]), .map mx, .box (.agg [.p (.lst true 137 []), .map 4]), .box (.agg [.p (.lst true 137 []), .map 4]), .box (.agg [.row 11 0 (.lst false 137 ub), .map 8]), .map [], .box (.agg [.row 11 0 (.lst false 137 ub), .map 8]), .box (.p g3), .row 0 137, .box (.agg [.row 11 0 (.lst false 137 ub), .map 8])]
def qD16 (tc ta tb to ts te td tf tr tl tg : Int) (tx : List Int) (ub : List T) (g3 : T) : List SObj := [.box (.p ((trT tc ta tb to ts te td tf tr tl tg tx))), .box (.p (.agg [.lst true 36 [], .int .i64 0, .int .i64 0])), .box (.p (.agg [.lst true 36 [], .int .i64 0, .int .i64 0])), .box (.agg [.p (.lst true 137 []), .map 4]), .map [], .box (.agg [.p (.lst true 137 []), .map 4]), .box (.agg [.p (.lst true 137 []), .map 4]), .box (.agg [.row 11 0 (.lst false 137 ub), .map 8]), .map [], .box (.agg [.row 11 0 (.lst false 137 ub), .map 8]), .box (.p g3), .row 0 137, .box (.agg [.row 11 0 (.lst false 137 ub), .map 8])]
def qD17 (tc ta tb to ts te td tf tr tl tg : Int) (tx : List Int) (mp : List (T × T)) (ub : List T) (g3 : T) : List SObj := [.box (.p ((trT tc ta tb to ts te td tf tr tl tg tx))), .box (.p (.agg [.lst true 36 [], .int .i64 0, .int .i64 0])), .box (.p (.agg [.lst true 36 [], .int .i64 0, .int .i64 0])), .box (.agg [.p (.lst true 137 []), .map 4]), .map mp, .box (.agg [.p (.lst true 137 []), .map 4]), .box (.agg [.p (.lst true 137 []), .map 4]), .box (.agg [.row 11 0 (.lst false 137 ub), .map 8]), .map [], .box (.agg [.row 11 0 (.lst false 137 ub), .map 8]), .box (.p g3), .row 0 137, .box (.agg [.row 11 0 (.lst false 137 ub), .map 8])]
def qD18 (tc ta tb to ts te td tf tr tl tg : Int) (tx : List Int) (mp : List (T × T)) (ub : List T) (my : List (T × T)) (g3 : T) : List SObj := [.box (.p ((trT tc ta tb to ts te td tf tr tl tg tx))), .box (.p (.agg [.lst true 36 [], .int .i64 0, .int .i64 0])), .box (.p (.agg [.lst true 36 [], .int .i64 0, .int .i64 0])), .box (.agg [.p (.lst true 137 []), .map 4]), .map mp, .box (.agg [.p (.lst true 137 []), .map 4]), .box (.agg [.p (.lst true 137 []), .map 4]), .box (.agg [.row 11 0 (.lst false 137 ub), .map 8]), .map my, .box (.agg [.row 11 0 (.lst false 137 ub), .map 8]), .box (.p g3), .row 0 137, .box (.agg [.row 11 0 (.lst false 137 ub), .map 8])]
def qD19 (tc ta tb to ts te td tf tr tl tg : Int) (tx : List Int) (mp : List (T × T)) (ub : List T) (mq : List (T × T)) (g3 : T) : List SObj := [.box (.p ((trT tc ta tb to ts te td tf tr tl tg tx))), .box (.p (.agg [.lst true 36 [], .int .i64 0, .int .i64 0])), .box (.p (.agg [.lst true 36 [], .int .i64 0, .int .i64 0])), .box (.agg [.p (.lst true 137 []), .map 4]), .map mp, .box (.agg [.p (.lst true 137 []), .map 4]), .box (.agg [.p (.lst true 137 []), .map 4]), .box (.agg [.row 11 0 (.lst false 137 ub), .map 8]), .map mq, .box (.agg [.row 11 0 (.lst false 137 ub), .map 8]), .box (.p g3), .row 0 137, .box (.agg [.row 11 0 (.lst false 137 ub), .map 8])]
def qD20 (tc ta tb to ts te td tf tr tl tg : Int) (tx : List Int) (ua : List T) (mx : List (T × T)) (g2 : T) : List SObj := [.box (.p ((trT tc ta tb to ts te td tf tr tl tg tx))), .box (.p (.agg [.lst true 36 [], .int .i64 0, .int .i64 0])), .box (.p (.agg [.lst true 36 [], .int .i64 0, .int .i64 0])), .box (.agg [.row 7 0 (.lst false 137 ua), .map 4]), .map mx, .box (.agg [.row 7 0 (.lst false 137 ua), .map 4]), .box (.p g2), .row 0 137, .box (.agg [.row 7 0 (.lst false 137 ua), .map 4]), .box (.agg [.p (.lst true 137 []), .map 10]), .map [], .box (.agg [.p (.lst true 137 []), .map 10]), .box (.agg [.p (.lst true 137 []), .map 10])]
def qD21 (tc ta tb to ts te td tf tr tl tg : Int) (tx : List Int) (ua : List T) (g2 : T) : List SObj := [.box (.p ((trT tc ta tb to ts te td tf tr tl tg tx))), .box (.p (.agg [.lst true 36 [], .int .i64 0, .int .i64 0])), .box (.p (.agg [.lst true 36 [], .int .i64 0, .int .i64 0])), .box (.agg [.row 7 0 (.lst false 137 ua), .map 4]), .map [], .box (.agg [.row 7 0 (.lst false 137 ua), .map 4]), .box (.p g2), .row 0 137, .box (.agg [.row 7 0 (.lst false 137 ua), .map 4]), .box (.agg [.p (.lst true 137 []), .map 10]), .map [], .box (.agg [.p (.lst true 137 []), .map 10]), .box (.agg [.p (.lst true 137 []), .map 10])]
def qD22 (tc ta tb to ts te td tf tr tl tg : Int) (tx : List Int) (ua : List T) (mp : List (T × T)) (g2 : T) : List SObj := [.box (.p ((trT tc ta tb to ts te td tf tr tl tg tx))), .box (.p (.agg [.lst true 36 [], .int .i64 0, .int .i64 0])), .box (.p (.agg [.lst true 36 [], .int .i64 0, .int .i64 0])), .box (.agg [.row 7 0 (.lst false 137 ua), .map 4]), .map mp, .box (.agg [.row 7 0 (.lst false 137 ua), .map 4]), .box (.p g2), .row 0 137, .box (.agg [.row 7 0 (.lst false 137 ua), .map 4]), .box (.agg [.p (.lst true 137 []), .map 10]), .map [], .box (.agg [.p (.lst true 137 []), .map 10]), .box (.agg [.p (.lst true 137 []), .map 10])]
def qD23 (tc ta tb to ts te td tf tr tl tg : Int) (tx : List Int) (ua : List T) (mp : List (T × T)) (g2 : T) (my : List (T × T)) : List SObj := [.box (.p ((trT tc ta tb to ts te td tf tr tl tg tx))), .box (.p (.agg [.lst true 36 [], .int .i64 0, .int .i64 0])), .box (.p (.agg [.lst true 36 [], .int .i64 0, .int .i64 0])), .box (.agg [.row 7 0 (.lst false 137 ua), .map 4]), .map mp, .box (.agg [.row 7 0 (.lst false 137 ua), .map 4]), .box (.p g2), .row 0 137, .box (.agg [.row 7 0 (.lst false 137 ua), .map 4]), .box (.agg [.p (.lst true 137 []), .map 10]), .map my, .box (.agg [.p (.lst true 137 []), .map 10]), .box (.agg [.p (.lst true 137 []), .map 10])]
def qD24 (tc ta tb to ts te td tf tr tl tg : Int) (tx : List Int) (ua : List T) (mp : List (T × T)) (g2 : T) (mq : List (T × T)) : List SObj := [.box (.p ((trT tc ta tb to ts te td tf tr tl tg tx))), .box (.p (.agg [.lst true 36 [], .int .i64 0, .int .i64 0])), .box (.p (.agg [.lst true 36 [], .int .i64 0, .int .i64 0])), .box (.agg [.row 7 0 (.lst false 137 ua), .map 4]), .map mp, .box (.agg [.row 7 0 (.lst false 137 ua), .map 4]), .box (.p g2), .row 0 137, .box (.agg [.row 7 0 (.lst false 137 ua), .map 4]), .box (.agg [.p (.lst true 137 []), .map 10]), .map mq, .box (.agg [.p (.lst true 137 []), .map 10]), .box (.agg [.p (.lst true 137 []), .map 10])]
def qD25 (tc ta tb to ts te td tf tr tl tg : Int) (tx : List Int) (ua : List T) (g2 : T) (ub : List T) (g3 : T) : List SObj := [.box (.p ((trT tc ta tb to ts te td tf tr tl tg tx))), .box (.p (.agg [.lst true 36 [], .int .i64 0, .int .i64 0])), .box (.p (.agg [.lst true 36 [], .int .i64 0, .int .i64 0])), .box (.agg [.row 7 0 (.lst false 137 ua), .map 4]), .map [], .box (.agg [.row 7 0 (.lst false 137 ua), .map 4]), .box (.p g2), .row 0 137, .box (.agg [.row 7 0 (.lst false 137 ua), .map 4]), .box (.agg [.row 13 0 (.lst false 137 ub), .map 10]), .map [], .box (.agg [.row 13 0 (.lst false 137 ub), .map 10]), .box (.p g3), .row 0 137]
def qD26 (tc ta tb to ts te td tf tr tl tg : Int) (tx : List Int) (pda ala : Int) (mp mq : List (T × T)) : List SObj := [.box (.p ((trT tc ta tb to ts te td tf tr tl tg tx))), .box (.p (.agg [.lst true 36 [], .int .i64 pda, .int .i64 ala])), .box (.p (.agg [.lst true 36 [], .int .i64 0, .int .i64 0])), .box (.agg [.p (.lst true 137 []), .map 4]), .map mp, .box (.agg [.p (.lst true 137 []), .map 4]), .box (.agg [.p (.lst true 137 []), .map 4]), .box (.agg [.p (.lst true 137 []), .map 8]), .map mq, .box (.agg [.p (.lst true 137 []), .map 8]), .box (.agg [.p (.lst true 137 []), .map 8])]
def qD27 (tc ta tb to ts te td tf tr tl tg : Int) (tx : List Int) (ua : List T) (g2 : T) : List SObj := [.box (.p ((trT tc ta tb to ts te td tf tr tl tg tx))), .box (.p (.agg [.lst true 36 [], .int .i64 0, .int .i64 0])), .box (.p (.agg [.lst true 36 [], .int .i64 0, .int .i64 0])), .box (.agg [.row 7 0 (.lst false 137 ua), .map 4]), .map [], .box (.agg [.row 7 0 (.lst false 137 ua), .map 4]), .box (.p g2), .row 0 137, .box (.agg [.row 7 0 (.lst false 137 ua), .map 4]), .box (.agg [.p (.lst true 137 []), .map 10]), .map [], .box (.agg [.p (.lst true 137 []), .map 10])]
def qD28 (tc ta tb to ts te td tf tr tl tg : Int) (tx : List Int) (mx : List (T × T)) : List SObj := [.box (.p ((trT tc ta tb to ts te td tf tr tl tg tx))), .box (.p (.agg [.lst true 36 [], .int .i64 0, .int .i64 0])), .box (.p (.agg [.lst true 36 [], .int .i64 0, .int .i64 0])), .box (.agg [.p (.lst true 137 []), .map 4]), .map mx, .box (.agg [.p (.lst true 137 []), .map 4]), .box (.agg [.p (.lst true 137 []), .map 4]), .box (.agg [.p (.lst true 137 []), .map 8]), .map [], .box (.agg [.p (.lst true 137 []), .map 8]), .box (.agg [.p (.lst true 137 []), .map 8])]
def qD29 (tc ta tb to ts te td tf tr tl tg : Int) (tx : List Int) : List SObj := [.box (.p ((trT tc ta tb to ts te td tf tr tl tg tx))), .box (.p (.agg [.lst true 36 [], .int .i64 0, .int .i64 0])), .box (.p (.agg [.lst true 36 [], .int .i64 0, .int .i64 0])), .box (.agg [.p (.lst true 137 []), .map 4]), .map [], .box (.agg [.p (.lst true 137 []), .map 4]), .box (.agg [.p (.lst true 137 []), .map 4]), .box (.agg [.p (.lst true 137 []), .map 8]), .map [], .box (.agg [.p (.lst true 137 []), .map 8]), .box (.agg [.p (.lst true 137 []), .map 8])]
def qD30 (tc ta tb to ts te td tf tr tl tg : Int) (tx : List Int) (mp : List (T × T)) : List SObj := [.box (.p ((trT tc ta tb to ts te td tf tr tl tg tx))), .box (.p (.agg [.lst true 36 [], .int .i64 0, .int .i64 0])), .box (.p (.agg [.lst true 36 [], .int .i64 0, .int .i64 0])), .box (.agg [.p (.lst true 137 []), .map 4]), .map mp, .box (.agg [.p (.lst true 137 []), .map 4]), .box (.agg [.p (.lst true 137 []), .map 4]), .box (.agg [.p (.lst true 137 []), .map 8]), .map [], .box (.agg [.p (.lst true 137 []), .map 8]), .box (.agg [.p (.lst true 137 []), .map 8])]
def qD31 (tc ta tb to ts te td tf tr tl tg : Int) (tx : List Int) (mp my : List (T × T)) : List SObj := [.box (.p ((trT tc ta tb to ts te td tf tr tl tg tx))), .box (.p (.agg [.lst true 36 [], .int .i64 0, .int .i64 0])), .box (.p (.agg [.lst true 36 [], .int .i64 0, .int .i64 0])), .box (.agg [.p (.lst true 137 []), .map 4]), .map mp, .box (.agg [.p (.lst true 137 []), .map 4]), .box (.agg [.p (.lst true 137 []), .map 4]), .box (.agg [.p (.lst true 137 []), .map 8]), .map my, .box (.agg [.p (.lst true 137 []), .map 8]), .box (.agg [.p (.lst true 137 []), .map 8])]
def qD32 (tc ta tb to ts te td tf tr tl tg : Int) (tx : List Int) (mp mq : List (T × T)) : List SObj := [.box (.p ((trT tc ta tb to ts te td tf tr tl tg tx))), .box (.p (.agg [.lst true 36 [], .int .i64 0, .int .i64 0])), .box (.p (.agg [.lst true 36 [], .int .i64 0, .int .i64 0])), .box (.agg [.p (.lst true 137 []), .map 4]), .map mp, .box (.agg [.p (.lst true 137 []), .map 4]), .box (.agg [.p (.lst true 137 []), .map 4]), .box (.agg [.p (.lst true 137 []), .map 8]), .map mq, .box (.agg [.p (.lst true 137 []), .map 8]), .box (.agg [.p (.lst true 137 []), .map 8])]
def qD33 (tc ta tb to ts te td tf tr tl tg : Int) (tx : List Int) (ub : List T) (g3 : T) : List SObj := [.box (.p ((trT tc ta tb to ts te td tf tr tl tg tx))), .box (.p (.agg [.lst true 36 [], .int .i64 0, .int .i64 0])), .box (.p (.agg [.lst true 36 [], .int .i64 0, .int .i64 0])), .box (.agg [.p (.lst true 137 []), .map 4]), .map [], .box (.agg [.p (.lst true 137 []), .map 4]), .box (.agg [.p (.lst true 137 []), .map 4]), .box (.agg [.row 11 0 (.lst false 137 ub), .map 8]), .map [], .box (.agg [.row 11 0 (.lst false 137 ub), .map 8]), .box (.p g3), .row 0 137]
def qD34 (tc ta tb to ts te td tf tr tl tg : Int) (tx : List Int) : List SObj := [.box (.p ((trT tc ta tb to ts te td tf tr tl tg tx))), .box (.p (.agg [.lst true 36 [], .int .i64 0, .int .i64 0])), .box (.p (.agg [.lst true 36 [], .int .i64 0, .int .i64 0])), .box (.agg [.p (.lst true 137 []), .map 4]), .map [], .box (.agg [.p (.lst true 137 []), .map 4]), .box (.agg [.p (.lst true 137 []), .map 4]), .box (.agg [.p (.lst true 137 []), .map 8]), .map [], .box (.agg [.p (.lst true 137 []), .map 8])]
def qD35 (tc ta tb to ts te td tf tr tl tg : Int) (tx : List Int) (ua : List T) (g2 : T) : List SObj := [.box (.p ((trT tc ta tb to ts te td tf tr tl tg tx))), .box (.p (.agg [.lst true 36 [], .int .i64 0, .int .i64 0])), .box (.p (.agg [.lst true 36 [], .int .i64 0, .int .i64 0])), .box (.agg [.row 7 0 (.lst false 137 ua), .map 4]), .map [], .box (.agg [.row 7 0 (.lst false 137 ua), .map 4]), .box (.p g2), .row 0 137, .box (.agg [.row 7 0 (.lst false 137 ua), .map 4])]
def qD36 (tc ta tb to ts te td tf tr tl tg : Int) (tx : List Int) (ub : List T) (g3 : T) : List SObj := [.box (.p ((trT tc ta tb to ts te td tf tr tl tg tx))), .box (.p (.agg [.lst true 36 [], .int .i64 0, .int .i64 0])), .box (.p (.agg [.lst true 36 [], .int .i64 0, .int .i64 0])), .box (.p (.agg [.lst true 137 [], .nilM])), .box (.agg [.row 8 0 (.lst false 137 ub), .map 5]), .map [], .box (.agg [.row 8 0 (.lst false 137 ub), .map 5]), .box (.p g3), .row 0 137]
def qD37 (tc ta tb to ts te td tf tr tl tg : Int) (tx : List Int) : List SObj := [.box (.p ((trT tc ta tb to ts te td tf tr tl tg tx))), .box (.p (.agg [.lst true 36 [], .int .i64 0, .int .i64 0])), .box (.p (.agg [.lst true 36 [], .int .i64 0, .int .i64 0])), .box (.agg [.p (.lst true 137 []), .map 4]), .map [], .box (.agg [.p (.lst true 137 []), .map 4]), .box (.agg [.p (.lst true 137 []), .map 4])]
def qD38 (tc ta tb to ts te td tf tr tl tg : Int) (tx : List Int) : List SObj := [.box (.p ((trT tc ta tb to ts te td tf tr tl tg tx))), .box (.p (.agg [.lst true 36 [], .int .i64 0, .int .i64 0])), .box (.p (.agg [.lst true 36 [], .int .i64 0, .int .i64 0])), .box (.p (.agg [.lst true 137 [], .nilM])), .box (.agg [.p (.lst true 137 []), .map 5]), .map [], .box (.agg [.p (.lst true 137 []), .map 5])]
def qD39 (tc ta tb to ts te td tf tr tl tg : Int) (tx : List Int) (ua : List T) (g2 : T) : List SObj := [.box (.p ((trT tc ta tb to ts te td tf tr tl tg tx))), .box (.p (.agg [.lst true 36 [], .int .i64 0, .int .i64 0])), .box (.p (.agg [.lst true 36 [], .int .i64 0, .int .i64 0])), .box (.agg [.row 7 0 (.lst false 137 ua), .map 4]), .map [], .box (.agg [.row 7 0 (.lst false 137 ua), .map 4]), .box (.p g2), .row 0 137]
def qD40 (tc ta tb to ts te td tf tr tl tg : Int) (tx : List Int) : List SObj := [.box (.p ((trT tc ta tb to ts te td tf tr tl tg tx))), .box (.p (.agg [.lst true 36 [], .int .i64 0, .int .i64 0])), .box (.p (.agg [.lst true 36 [], .int .i64 0, .int .i64 0])), .box (.agg [.p (.lst true 137 []), .map 4]), .map [], .box (.agg [.p (.lst true 137 []), .map 4])]
def qD41 (tc ta tb to ts te td tf tr tl tg : Int) (tx : List Int) : List SObj := [.box (.p ((trT tc ta tb to ts te td tf tr tl tg tx))), .box (.p (.agg [.lst true 36 [], .int .i64 0, .int .i64 0])), .box (.p (.agg [.lst true 36 [], .int .i64 0, .int .i64 0])), .box (.p (.agg [.lst true 137 [], .nilM]))]
def qD42 (tc ta tb to ts te td tf tr tl tg : Int) (tx : List Int) : List SObj := [.box (.p ((trT tc ta tb to ts te td tf tr tl tg tx))), .box (.p (.agg [.lst true 36 [], .int .i64 0, .int .i64 0])), .box (.p (.agg [.lst true 36 [], .int .i64 0, .int .i64 0]))]
theorem look00F (tc ta tb to ts te td tf tr tl tg pda ala pdb alb : Int) (tx : List Int) (la lb ua ub ha hb : List T) (mx mp my mq : List (T × T)) (g2 g3 g4 g5 : T) (xa xb : Bool): topK (Cd [] [146, 18, 147, 148]) 30 104 [] [.p ((trT tc ta tb to ts te td tf tr tl tg tx)), .p (.lst xa 137 la), .p (.lst xb 137 lb)] [] [] [([.p (.agg [.lst true 137 [], .nilM]), .p (.bool false)], (qD42 tc ta tb to ts te td tf tr tl tg tx)), ([.p (.agg [.lst true 137 [], .nilM]), .p (.bool false)], (qD41 tc ta tb to ts te td tf tr tl tg tx))] [[.bool false]] [] = some ([.p (.agg [.lst true 36 [], .int .i64 0, .int .i64 0]), .p (.agg [.lst true 36 [], .int .i64 0, .int .i64 0]), .p (.int .i64 1)], [], [PCall Try.prog 18 [(trT tc ta tb to ts te td tf tr tl tg tx)] [.bool false], GCall Try.prog 146 (qD41 tc ta tb to ts te td tf tr tl tg tx) [.p (.lst xb 137 lb)] (qD41 tc ta tb to ts te td tf tr tl tg tx) [.p (.agg [.lst true 137 [], .nilM]), .p (.bool false)], GCall Try.prog 146 (qD42 tc ta tb to ts te td tf tr tl tg tx) [.p (.lst xa 137 la)] (qD42 tc ta tb to ts te td tf tr tl tg tx) [.p (.agg [.lst true 137 [], .nilM]), .p (.bool false)]]) := by kernel_rfl
theorem look00T (tc ta tb to ts te td tf tr tl tg pda ala pdb alb : Int) (tx : List Int) (la lb ua ub ha hb : List T) (mx mp my mq : List (T × T)) (g2 g3 g4 g5 : T) (xa xb : Bool): topK (Cd [] [146, 18, 147, 148]) 30 104 [] [.p ((trT tc ta tb to ts te td tf tr tl tg tx)), .p (.lst xa 137 la), .p (.lst xb 137 lb)] [] [] [([.p (.agg [.lst true 137 [], .nilM]), .p (.bool false)], (qD42 tc ta tb to ts te td tf tr tl tg tx)), ([.p (.agg [.lst true 137 [], .nilM]), .p (.bool false)], (qD41 tc ta tb to ts te td tf tr tl tg tx))] [[.bool true]] [] = some ([.p (.agg [.lst true 36 [], .int .i64 0, .int .i64 0]), .p (.agg [.lst true 36 [], .int .i64 0, .int .i64 0]), .p (.int .i64 1)], [], [PCall Try.prog 18 [(trT tc ta tb to ts te td tf tr tl tg tx)] [.bool true], GCall Try.prog 146 (qD41 tc ta tb to ts te td tf tr tl tg tx) [.p (.lst xb 137 lb)] (qD41 tc ta tb to ts te td tf tr tl tg tx) [.p (.agg [.lst true 137 [], .nilM]), .p (.bool false)], GCall Try.prog 146 (qD42 tc ta tb to ts te td tf tr tl tg tx) [.p (.lst xa 137 la)] (qD42 tc ta tb to ts te td tf tr tl tg tx) [.p (.agg [.lst true 137 [], .nilM]), .p (.bool false)]]) := by kernel_rfl
theorem look01F (tc ta tb to ts te td tf tr tl tg pda ala pdb alb : Int) (tx : List Int) (la lb ua ub ha hb : List T) (mx mp my mq : List (T × T)) (g2 g3 g4 g5 : T) (xa xb : Bool): topK (Cd [] [146, 18, 147, 148]) 30 104 [] [.p ((trT tc ta tb to ts te td tf tr tl tg tx)), .p (.lst xa 137 la), .p (.lst xb 137 lb)] [] [] [([.p (.agg [.lst true 137 [], .nilM]), .p (.bool false)], (qD42 tc ta tb to ts te td tf tr tl tg tx)), ([.agg [.p (.lst true 137 []), .map 5], .rb true], (qD38 tc ta tb to ts te td tf tr tl tg tx))] [[.bool false]] [] = some ([.p (.agg [.lst true 36 [], .int .i64 0, .int .i64 0]), .p (.agg [.lst true 36 [], .int .i64 0, .int .i64 0]), .p (.int .i64 1)], [], [PCall Try.prog 18 [(trT tc ta tb to ts te td tf tr tl tg tx)] [.bool false], GCall Try.prog 146 (qD41 tc ta tb to ts te td tf tr tl tg tx) [.p (.lst xb 137 lb)] (qD38 tc ta tb to ts te td tf tr tl tg tx) [.agg [.p (.lst true 137 []), .map 5], .rb true], GCall Try.prog 146 (qD42 tc ta tb to ts te td tf tr tl tg tx) [.p (.lst xa 137 la)] (qD42 tc ta tb to ts te td tf tr tl tg tx) [.p (.agg [.lst true 137 [], .nilM]), .p (.bool false)]]) := by kernel_rfl
theorem look01T (tc ta tb to ts te td tf tr tl tg pda ala pdb alb : Int) (tx : List Int) (la lb ua ub ha hb : List T) (mx mp my mq : List (T × T)) (g2 g3 g4 g5 : T) (xa xb : Bool): topK (Cd [] [146, 18, 147, 148]) 30 104 [] [.p ((trT tc ta tb to ts te td tf tr tl tg tx)), .p (.lst xa 137 la), .p (.lst xb 137 lb)] [] [] [([.p (.agg [.lst true 137 [], .nilM]), .p (.bool false)], (qD42 tc ta tb to ts te td tf tr tl tg tx)), ([.agg [.p (.lst true 137 []), .map 5], .rb true], (qD38 tc ta tb to ts te td tf tr tl tg tx))] [[.bool true]] [] = some ([.p (.agg [.lst true 36 [], .int .i64 0, .int .i64 0]), .p (.agg [.lst true 36 [], .int .i64 0, .int .i64 0]), .p (.int .i64 1)], [], [PCall Try.prog 18 [(trT tc ta tb to ts te td tf tr tl tg tx)] [.bool true], GCall Try.prog 146 (qD41 tc ta tb to ts te td tf tr tl tg tx) [.p (.lst xb 137 lb)] (qD38 tc ta tb to ts te td tf tr tl tg tx) [.agg [.p (.lst true 137 []), .map 5], .rb true], GCall Try.prog 146 (qD42 tc ta tb to ts te td tf tr tl tg tx) [.p (.lst xa 137 la)] (qD42 tc ta tb to ts te td tf tr tl tg tx) [.p (.agg [.lst true 137 [], .nilM]), .p (.bool false)]]) := by kernel_rfl
theorem look02F (tc ta tb to ts te td tf tr tl tg pda ala pdb alb : Int) (tx : List Int) (la lb ua ub ha hb : List T) (mx mp my mq : List (T × T)) (g2 g3 g4 g5 : T) (xa xb : Bool): topK (Cd [] [146, 18, 147, 148]) 30 104 [] [.p ((trT tc ta tb to ts te td tf tr tl tg tx)), .p (.lst xa 137 la), .p (.lst xb 137 lb)] [] [] [([.p (.agg [.lst true 137 [], .nilM]), .p (.bool false)], (qD42 tc ta tb to ts te td tf tr tl tg tx)), ([.agg [.row 8 0 (.lst false 137 ub), .map 5], .rb true], (qD36 tc ta tb to ts te td tf tr tl tg tx ub g3))] [[.bool false]] [] = some ([.p (.agg [.lst true 36 [], .int .i64 0, .int .i64 0]), .p (.agg [.lst true 36 [], .int .i64 0, .int .i64 0]), .p (.int .i64 1)], [], [PCall Try.prog 18 [(trT tc ta tb to ts te td tf tr tl tg tx)] [.bool false], GCall Try.prog 146 (qD41 tc ta tb to ts te td tf tr tl tg tx) [.p (.lst xb 137 lb)] (qD36 tc ta tb to ts te td tf tr tl tg tx ub g3) [.agg [.row 8 0 (.lst false 137 ub), .map 5], .rb true], GCall Try.prog 146 (qD42 tc ta tb to ts te td tf tr tl tg tx) [.p (.lst xa 137 la)] (qD42 tc ta tb to ts te td tf tr tl tg tx) [.p (.agg [.lst true 137 [], .nilM]), .p (.bool false)]]) := by kernel_rfl
theorem look02T (tc ta tb to ts te td tf tr tl tg pda ala pdb alb : Int) (tx : List Int) (la lb ua ub ha hb : List T) (mx mp my mq : List (T × T)) (g2 g3 g4 g5 : T) (xa xb : Bool): topK (Cd [] [146, 18, 147, 148]) 30 104 [] [.p ((trT tc ta tb to ts te td tf tr tl tg tx)), .p (.lst xa 137 la), .p (.lst xb 137 lb)] [] [] [([.p (.agg [.lst true 137 [], .nilM]), .p (.bool false)], (qD42 tc ta tb to ts te td tf tr tl tg tx)), ([.agg [.row 8 0 (.lst false 137 ub), .map 5], .rb true], (qD36 tc ta tb to ts te td tf tr tl tg tx ub g3))] [[.bool true]] [] = some ([.p (.agg [.lst true 36 [], .int .i64 0, .int .i64 0]), .p (.agg [.lst true 36 [], .int .i64 0, .int .i64 0]), .p (.int .i64 1)], [], [PCall Try.prog 18 [(trT tc ta tb to ts te td tf tr tl tg tx)] [.bool true], GCall Try.prog 146 (qD41 tc ta tb to ts te td tf tr tl tg tx) [.p (.lst xb 137 lb)] (qD36 tc ta tb to ts te td tf tr tl tg tx ub g3) [.agg [.row 8 0 (.lst false 137 ub), .map 5], .rb true], GCall Try.prog 146 (qD42 tc ta tb to ts te td tf tr tl tg tx) [.p (.lst xa 137 la)] (qD42 tc ta tb to ts te td tf tr tl tg tx) [.p (.agg [.lst true 137 [], .nilM]), .p (.bool false)]]) := by kernel_rfl
theorem look10F (tc ta tb to ts te td tf tr tl tg pda ala pdb alb : Int) (tx : List Int) (la lb ua ub ha hb : List T) (mx mp my mq : List (T × T)) (g2 g3 g4 g5 : T) (xa xb : Bool): topK (Cd [] [146, 18, 147, 148]) 30 104 [] [.p ((trT tc ta tb to ts te td tf tr tl tg tx)), .p (.lst xa 137 la), .p (.lst xb 137 lb)] [] [] [([.agg [.p (.lst true 137 []), .map 4], .rb true], (qD40 tc ta tb to ts te td tf tr tl tg tx)), ([.p (.agg [.lst true 137 [], .nilM]), .p (.bool false)], (qD37 tc ta tb to ts te td tf tr tl tg tx))] [[.bool false]] [] = some ([.p (.agg [.lst true 36 [], .int .i64 0, .int .i64 0]), .p (.agg [.lst true 36 [], .int .i64 0, .int .i64 0]), .p (.int .i64 1)], [], [PCall Try.prog 18 [(trT tc ta tb to ts te td tf tr tl tg tx)] [.bool false], GCall Try.prog 146 (qD37 tc ta tb to ts te td tf tr tl tg tx) [.p (.lst xb 137 lb)] (qD37 tc ta tb to ts te td tf tr tl tg tx) [.p (.agg [.lst true 137 [], .nilM]), .p (.bool false)], GCall Try.prog 146 (qD42 tc ta tb to ts te td tf tr tl tg tx) [.p (.lst xa 137 la)] (qD40 tc ta tb to ts te td tf tr tl tg tx) [.agg [.p (.lst true 137 []), .map 4], .rb true]]) := by kernel_rfl
theorem look10T (tc ta tb to ts te td tf tr tl tg pda ala pdb alb : Int) (tx : List Int) (la lb ua ub ha hb : List T) (mx mp my mq : List (T × T)) (g2 g3 g4 g5 : T) (xa xb : Bool): topK (Cd [] [146, 18, 147, 148]) 30 104 [] [.p ((trT tc ta tb to ts te td tf tr tl tg tx)), .p (.lst xa 137 la), .p (.lst xb 137 lb)] [] [] [([.agg [.p (.lst true 137 []), .map 4], .rb true], (qD40 tc ta tb to ts te td tf tr tl tg tx)), ([.p (.agg [.lst true 137 [], .nilM]), .p (.bool false)], (qD37 tc ta tb to ts te td tf tr tl tg tx))] [[.bool true]] [] = some ([.p (.agg [.lst true 36 [], .int .i64 0, .int .i64 0]), .p (.agg [.lst true 36 [], .int .i64 0, .int .i64 0]), .p (.int .i64 1)], [], [PCall Try.prog 18 [(trT tc ta tb to ts te td tf tr tl tg tx)] [.bool true], GCall Try.prog 146 (qD37 tc ta tb to ts te td tf tr tl tg tx) [.p (.lst xb 137 lb)] (qD37 tc ta tb to ts te td tf tr tl tg tx) [.p (.agg [.lst true 137 [], .nilM]), .p (.bool false)], GCall Try.prog 146 (qD42 tc ta tb to ts te td tf tr tl tg tx) [.p (.lst xa 137 la)] (qD40 tc ta tb to ts te td tf tr tl tg tx) [.agg [.p (.lst true 137 []), .map 4], .rb true]]) := by kernel_rfl
theorem look11F (tc ta tb to ts te td tf tr tl tg pda ala pdb alb : Int) (tx : List Int) (la lb ua ub ha hb : List T) (mx mp my mq : List (T × T)) (g2 g3 g4 g5 : T) (xa xb : Bool): topK (Cd [] [146, 18, 147, 148]) 30 104 [] [.p ((trT tc ta tb to ts te td tf tr tl tg tx)), .p (.lst xa 137 la), .p (.lst xb 137 lb)] [] [] [([.agg [.p (.lst true 137 []), .map 4], .rb true], (qD40 tc ta tb to ts te td tf tr tl tg tx)), ([.agg [.p (.lst true 137 []), .map 8], .rb true], (qD34 tc ta tb to ts te td tf tr tl tg tx))] [[.bool false]] [] = some ([.p (.agg [.lst true 36 [], .int .i64 0, .int .i64 0]), .p (.agg [.lst true 36 [], .int .i64 0, .int .i64 0]), .p (.int .i64 1)], [], [PCall Try.prog 18 [(trT tc ta tb to ts te td tf tr tl tg tx)] [.bool false], GCall Try.prog 146 (qD37 tc ta tb to ts te td tf tr tl tg tx) [.p (.lst xb 137 lb)] (qD34 tc ta tb to ts te td tf tr tl tg tx) [.agg [.p (.lst true 137 []), .map 8], .rb true], GCall Try.prog 146 (qD42 tc ta tb to ts te td tf tr tl tg tx) [.p (.lst xa 137 la)] (qD40 tc ta tb to ts te td tf tr tl tg tx) [.agg [.p (.lst true 137 []), .map 4], .rb true]]) := by kernel_rfl
theorem look11n (tc ta tb to ts te td tf tr tl tg pda ala pdb alb : Int) (tx : List Int) (la lb ua ub ha hb : List T) (mx mp my mq : List (T × T)) (g2 g3 g4 g5 : T) (xa xb : Bool): topK (Cd [] [146, 18, 147, 148]) 30 104 [] [.p ((trT tc ta tb to ts te td tf tr tl tg tx)), .p (.lst xa 137 la), .p (.lst xb 137 lb)] [] [] [([.agg [.p (.lst true 137 []), .map 4], .rb true], (qD40 tc ta tb to ts te td tf tr tl tg tx)), ([.agg [.p (.lst true 137 []), .map 8], .rb true], (qD34 tc ta tb to ts te td tf tr tl tg tx)), ([.p (.bool false)], (qD28 tc ta tb to ts te td tf tr tl tg tx mx))] [[.bool true]] [] = some ([.p (.agg [.lst true 36 [], .int .i64 0, .int .i64 0]), .p (.agg [.lst true 36 [], .int .i64 0, .int .i64 0]), .p (.int .i64 4)], [], [GCall Try.prog 147 (qD29 tc ta tb to ts te td tf tr tl tg tx) [.ptr 6 0, .p (.lst xa 137 la), .agg [.p (.lst true 137 []), .map 8]] (qD28 tc ta tb to ts te td tf tr tl tg tx mx) [.p (.bool false)], PCall Try.prog 18 [(trT tc ta tb to ts te td tf tr tl tg tx)] [.bool true], GCall Try.prog 146 (qD37 tc ta tb to ts te td tf tr tl tg tx) [.p (.lst xb 137 lb)] (qD34 tc ta tb to ts te td tf tr tl tg tx) [.agg [.p (.lst true 137 []), .map 8], .rb true], GCall Try.prog 146 (qD42 tc ta tb to ts te td tf tr tl tg tx) [.p (.lst xa 137 la)] (qD40 tc ta tb to ts te td tf tr tl tg tx) [.agg [.p (.lst true 137 []), .map 4], .rb true]]) := by kernel_rfl
theorem look11sn (tc ta tb to ts te td tf tr tl tg pda ala pdb alb : Int) (tx : List Int) (la lb ua ub ha hb : List T) (mx mp my mq : List (T × T)) (g2 g3 g4 g5 : T) (xa xb : Bool): topK (Cd [] [146, 18, 147, 148]) 30 104 [] [.p ((trT tc ta tb to ts te td tf tr tl tg tx)), .p (.lst xa 137 la), .p (.lst xb 137 lb)] [] [] [([.agg [.p (.lst true 137 []), .map 4], .rb true], (qD40 tc ta tb to ts te td tf tr tl tg tx)), ([.agg [.p (.lst true 137 []), .map 8], .rb true], (qD34 tc ta tb to ts te td tf tr tl tg tx)), ([.rb true], (qD30 tc ta tb to ts te td tf tr tl tg tx mp)), ([.p (.bool false)], (qD31 tc ta tb to ts te td tf tr tl tg tx mp my))] [[.bool true]] [] = some ([.p (.agg [.lst true 36 [], .int .i64 0, .int .i64 0]), .p (.agg [.lst true 36 [], .int .i64 0, .int .i64 0]), .p (.int .i64 4)], [], [GCall Try.prog 147 (qD30 tc ta tb to ts te td tf tr tl tg tx mp) [.ptr 10 0, .p (.lst xb 137 lb), .agg [.p (.lst true 137 []), .map 4]] (qD31 tc ta tb to ts te td tf tr tl tg tx mp my) [.p (.bool false)], GCall Try.prog 147 (qD29 tc ta tb to ts te td tf tr tl tg tx) [.ptr 6 0, .p (.lst xa 137 la), .agg [.p (.lst true 137 []), .map 8]] (qD30 tc ta tb to ts te td tf tr tl tg tx mp) [.rb true], PCall Try.prog 18 [(trT tc ta tb to ts te td tf tr tl tg tx)] [.bool true], GCall Try.prog 146 (qD37 tc ta tb to ts te td tf tr tl tg tx) [.p (.lst xb 137 lb)] (qD34 tc ta tb to ts te td tf tr tl tg tx) [.agg [.p (.lst true 137 []), .map 8], .rb true], GCall Try.prog 146 (qD42 tc ta tb to ts te td tf tr tl tg tx) [.p (.lst xa 137 la)] (qD40 tc ta tb to ts te td tf tr tl tg tx) [.agg [.p (.lst true 137 []), .map 4], .rb true]]) := by kernel_rfl
theorem look11ss11 (tc ta tb to ts te td tf tr tl tg pda ala pdb alb : Int) (tx : List Int) (la lb ua ub ha hb : List T) (mx mp my mq : List (T × T)) (g2 g3 g4 g5 : T) (xa xb : Bool): topK (Cd [] [146, 18, 147, 148]) 30 104 [] [.p ((trT tc ta tb to ts te td tf tr tl tg tx)), .p (.lst xa 137 la), .p (.lst xb 137 lb)] [] [] [([.agg [.p (.lst true 137 []), .map 4], .rb true], (qD40 tc ta tb to ts te td tf tr tl tg tx)), ([.agg [.p (.lst true 137 []), .map 8], .rb true], (qD34 tc ta tb to ts te td tf tr tl tg tx)), ([.rb true], (qD30 tc ta tb to ts te td tf tr tl tg tx mp)), ([.rb true], (qD32 tc ta tb to ts te td tf tr tl tg tx mp mq)), ([.p (.agg [.lst true 36 [], .int .i64 pda, .int .i64 ala]), .p (.int .i64 0)], (qD32 tc ta tb to ts te td tf tr tl tg tx mp mq)), ([.p (.agg [.lst true 36 [], .int .i64 pdb, .int .i64 alb]), .p (.int .i64 0)], (qD26 tc ta tb to ts te td tf tr tl tg tx pda ala mp mq))] [[.bool true]] [] = some ([.p (.agg [.lst true 36 [], .int .i64 pda, .int .i64 ala]), .p (.agg [.lst true 36 [], .int .i64 pdb, .int .i64 alb]), .p (.int .i64 0)], [], [GCall Try.prog 148 (qD26 tc ta tb to ts te td tf tr tl tg tx pda ala mp mq) [.agg [.p (.lst true 137 []), .map 8], .agg [.p (.lst true 137 []), .map 4], .p (.int .i64 tb)] (qD26 tc ta tb to ts te td tf tr tl tg tx pda ala mp mq) [.p (.agg [.lst true 36 [], .int .i64 pdb, .int .i64 alb]), .p (.int .i64 0)], GCall Try.prog 148 (qD32 tc ta tb to ts te td tf tr tl tg tx mp mq) [.agg [.p (.lst true 137 []), .map 4], .agg [.p (.lst true 137 []), .map 8], .p (.int .i64 ta)] (qD32 tc ta tb to ts te td tf tr tl tg tx mp mq) [.p (.agg [.lst true 36 [], .int .i64 pda, .int .i64 ala]), .p (.int .i64 0)], GCall Try.prog 147 (qD30 tc ta tb to ts te td tf tr tl tg tx mp) [.ptr 10 0, .p (.lst xb 137 lb), .agg [.p (.lst true 137 []), .map 4]] (qD32 tc ta tb to ts te td tf tr tl tg tx mp mq) [.rb true], GCall Try.prog 147 (qD29 tc ta tb to ts te td tf tr tl tg tx) [.ptr 6 0, .p (.lst xa 137 la), .agg [.p (.lst true 137 []), .map 8]] (qD30 tc ta tb to ts te td tf tr tl tg tx mp) [.rb true], PCall Try.prog 18 [(trT tc ta tb to ts te td tf tr tl tg tx)] [.bool true], GCall Try.prog 146 (qD37 tc ta tb to ts te td tf tr tl tg tx) [.p (.lst xb 137 lb)] (qD34 tc ta tb to ts te td tf tr tl tg tx) [.agg [.p (.lst true 137 []), .map 8], .rb true], GCall Try.prog 146 (qD42 tc ta tb to ts te td tf tr tl tg tx) [.p (.lst xa 137 la)] (qD40 tc ta tb to ts te td tf tr tl tg tx) [.agg [.p (.lst true 137 []), .map 4], .rb true]]) := by kernel_rfl
theorem look12F (tc ta tb to ts te td tf tr tl tg pda ala pdb alb : Int) (tx : List Int) (la lb ua ub ha hb : List T) (mx mp my mq : List (T × T)) (g2 g3 g4 g5 : T) (xa xb : Bool): topK (Cd [] [146, 18, 147, 148]) 30 104 [] [.p ((trT tc ta tb to ts te td tf tr tl tg tx)), .p (.lst xa 137 la), .p (.lst xb 137 lb)] [] [] [([.agg [.p (.lst true 137 []), .map 4], .rb true], (qD40 tc ta tb to ts te td tf tr tl tg tx)), ([.agg [.row 11 0 (.lst false 137 ub), .map 8], .rb true], (qD33 tc ta tb to ts te td tf tr tl tg tx ub g3))] [[.bool false]] [] = some ([.p (.agg [.lst true 36 [], .int .i64 0, .int .i64 0]), .p (.agg [.lst true 36 [], .int .i64 0, .int .i64 0]), .p (.int .i64 1)], [], [PCall Try.prog 18 [(trT tc ta tb to ts te td tf tr tl tg tx)] [.bool false], GCall Try.prog 146 (qD37 tc ta tb to ts te td tf tr tl tg tx) [.p (.lst xb 137 lb)] (qD33 tc ta tb to ts te td tf tr tl tg tx ub g3) [.agg [.row 11 0 (.lst false 137 ub), .map 8], .rb true], GCall Try.prog 146 (qD42 tc ta tb to ts te td tf tr tl tg tx) [.p (.lst xa 137 la)] (qD40 tc ta tb to ts te td tf tr tl tg tx) [.agg [.p (.lst true 137 []), .map 4], .rb true]]) := by kernel_rfl
theorem look12n (tc ta tb to ts te td tf tr tl tg pda ala pdb alb : Int) (tx : List Int) (la lb ua ub ha hb : List T) (mx mp my mq : List (T × T)) (g2 g3 g4 g5 : T) (xa xb : Bool): topK (Cd [] [146, 18, 147, 148]) 30 104 [] [.p ((trT tc ta tb to ts te td tf tr tl tg tx)), .p (.lst xa 137 la), .p (.lst xb 137 lb)] [] [] [([.agg [.p (.lst true 137 []), .map 4], .rb true], (qD40 tc ta tb to ts te td tf tr tl tg tx)), ([.agg [.row 11 0 (.lst false 137 ub), .map 8], .rb true], (qD33 tc ta tb to ts te td tf tr tl tg tx ub g3)), ([.p (.bool false)], (qD15 tc ta tb to ts te td tf tr tl tg tx mx ub g3))] [[.bool true]] [] = some ([.p (.agg [.lst true 36 [], .int .i64 0, .int .i64 0]), .p (.agg [.lst true 36 [], .int .i64 0, .int .i64 0]), .p (.int .i64 4)], [], [GCall Try.prog 147 (qD16 tc ta tb to ts te td tf tr tl tg tx ub g3) [.ptr 6 0, .p (.lst xa 137 la), .agg [.row 11 0 (.lst false 137 ub), .map 8]] (qD15 tc ta tb to ts te td tf tr tl tg tx mx ub g3) [.p (.bool false)], PCall Try.prog 18 [(trT tc ta tb to ts te td tf tr tl tg tx)] [.bool true], GCall Try.prog 146 (qD37 tc ta tb to ts te td tf tr tl tg tx) [.p (.lst xb 137 lb)] (qD33 tc ta tb to ts te td tf tr tl tg tx ub g3) [.agg [.row 11 0 (.lst false 137 ub), .map 8], .rb true], GCall Try.prog 146 (qD42 tc ta tb to ts te td tf tr tl tg tx) [.p (.lst xa 137 la)] (qD40 tc ta tb to ts te td tf tr tl tg tx) [.agg [.p (.lst true 137 []), .map 4], .rb true]]) := by kernel_rfl
theorem look12sn (tc ta tb to ts te td tf tr tl tg pda ala pdb alb : Int) (tx : List Int) (la lb ua ub ha hb : List T) (mx mp my mq : List (T × T)) (g2 g3 g4 g5 : T) (xa xb : Bool): topK (Cd [] [146, 18, 147, 148]) 30 104 [] [.p ((trT tc ta tb to ts te td tf tr tl tg tx)), .p (.lst xa 137 la), .p (.lst xb 137 lb)] [] [] [([.agg [.p (.lst true 137 []), .map 4], .rb true], (qD40 tc ta tb to ts te td tf tr tl tg tx)), ([.agg [.row 11 0 (.lst false 137 ub), .map 8], .rb true], (qD33 tc ta tb to ts te td tf tr tl tg tx ub g3)), ([.rb true], (qD17 tc ta tb to ts te td tf tr tl tg tx mp ub g3)), ([.p (.bool false)], (qD18 tc ta tb to ts te td tf tr tl tg tx mp ub my g3))] [[.bool true]] [] = some ([.p (.agg [.lst true 36 [], .int .i64 0, .int .i64 0]), .p (.agg [.lst true 36 [], .int .i64 0, .int .i64 0]), .p (.int .i64 4)], [], [GCall Try.prog 147 (qD17 tc ta tb to ts te td tf tr tl tg tx mp ub g3) [.ptr 12 0, .p (.lst xb 137 lb), .agg [.p (.lst true 137 []), .map 4]] (qD18 tc ta tb to ts te td tf tr tl tg tx mp ub my g3) [.p (.bool false)], GCall Try.prog 147 (qD16 tc ta tb to ts te td tf tr tl tg tx ub g3) [.ptr 6 0, .p (.lst xa 137 la), .agg [.row 11 0 (.lst false 137 ub), .map 8]] (qD17 tc ta tb to ts te td tf tr tl tg tx mp ub g3) [.rb true], PCall Try.prog 18 [(trT tc ta tb to ts te td tf tr tl tg tx)] [.bool true], GCall Try.prog 146 (qD37 tc ta tb to ts te td tf tr tl tg tx) [.p (.lst xb 137 lb)] (qD33 tc ta tb to ts te td tf tr tl tg tx ub g3) [.agg [.row 11 0 (.lst false 137 ub), .map 8], .rb true], GCall Try.prog 146 (qD42 tc ta tb to ts te td tf tr tl tg tx) [.p (.lst xa 137 la)] (qD40 tc ta tb to ts te td tf tr tl tg tx) [.agg [.p (.lst true 137 []), .map 4], .rb true]]) := by kernel_rfl
theorem look12ss10 (tc ta tb to ts te td tf tr tl tg pda ala pdb alb : Int) (tx : List Int) (la lb ua ub ha hb : List T) (mx mp my mq : List (T × T)) (g2 g3 g4 g5 : T) (xa xb : Bool): topK (Cd [] [146, 18, 147, 148]) 30 104 [] [.p ((trT tc ta tb to ts te td tf tr tl tg tx)), .p (.lst xa 137 la), .p (.lst xb 137 lb)] [] [] [([.agg [.p (.lst true 137 []), .map 4], .rb true], (qD40 tc ta tb to ts te td tf tr tl tg tx)), ([.agg [.row 11 0 (.lst false 137 ub), .map 8], .rb true], (qD33 tc ta tb to ts te td tf tr tl tg tx ub g3)), ([.rb true], (qD17 tc ta tb to ts te td tf tr tl tg tx mp ub g3)), ([.rb true], (qD19 tc ta tb to ts te td tf tr tl tg tx mp ub mq g3)), ([.p (.agg [.lst true 36 [], .int .i64 pda, .int .i64 ala]), .p (.int .i64 0)], (qD19 tc ta tb to ts te td tf tr tl tg tx mp ub mq g3)), ([.p (.agg [.lst true 36 [], .int .i64 0, .int .i64 0]), .p (.int .i64 20)], (qD13 tc ta tb to ts te td tf tr tl tg tx pda ala mp ub mq g3))] [[.bool true]] [] = some ([.p (.agg [.lst true 36 [], .int .i64 pda, .int .i64 ala]), .p (.agg [.lst true 36 [], .int .i64 0, .int .i64 0]), .p (.int .i64 20)], [], [GCall Try.prog 148 (qD13 tc ta tb to ts te td tf tr tl tg tx pda ala mp ub mq g3) [.agg [.row 11 0 (.lst false 137 ub), .map 8], .agg [.p (.lst true 137 []), .map 4], .p (.int .i64 tb)] (qD13 tc ta tb to ts te td tf tr tl tg tx pda ala mp ub mq g3) [.p (.agg [.lst true 36 [], .int .i64 0, .int .i64 0]), .p (.int .i64 20)], GCall Try.prog 148 (qD19 tc ta tb to ts te td tf tr tl tg tx mp ub mq g3) [.agg [.p (.lst true 137 []), .map 4], .agg [.row 11 0 (.lst false 137 ub), .map 8], .p (.int .i64 ta)] (qD19 tc ta tb to ts te td tf tr tl tg tx mp ub mq g3) [.p (.agg [.lst true 36 [], .int .i64 pda, .int .i64 ala]), .p (.int .i64 0)], GCall Try.prog 147 (qD17 tc ta tb to ts te td tf tr tl tg tx mp ub g3) [.ptr 12 0, .p (.lst xb 137 lb), .agg [.p (.lst true 137 []), .map 4]] (qD19 tc ta tb to ts te td tf tr tl tg tx mp ub mq g3) [.rb true], GCall Try.prog 147 (qD16 tc ta tb to ts te td tf tr tl tg tx ub g3) [.ptr 6 0, .p (.lst xa 137 la), .agg [.row 11 0 (.lst false 137 ub), .map 8]] (qD17 tc ta tb to ts te td tf tr tl tg tx mp ub g3) [.rb true], PCall Try.prog 18 [(trT tc ta tb to ts te td tf tr tl tg tx)] [.bool true], GCall Try.prog 146 (qD37 tc ta tb to ts te td tf tr tl tg tx) [.p (.lst xb 137 lb)] (qD33 tc ta tb to ts te td tf tr tl tg tx ub g3) [.agg [.row 11 0 (.lst false 137 ub), .map 8], .rb true], GCall Try.prog 146 (qD42 tc ta tb to ts te td tf tr tl tg tx) [.p (.lst xa 137 la)] (qD40 tc ta tb to ts te td tf tr tl tg tx) [.agg [.p (.lst true 137 []), .map 4], .rb true]]) := by kernel_rfl
theorem look12ss11 (tc ta tb to ts te td tf tr tl tg pda ala pdb alb : Int) (tx : List Int) (la lb ua ub ha hb : List T) (mx mp my mq : List (T × T)) (g2 g3 g4 g5 : T) (xa xb : Bool): topK (Cd [] [146, 18, 147, 148]) 30 104 [] [.p ((trT tc ta tb to ts te td tf tr tl tg tx)), .p (.lst xa 137 la), .p (.lst xb 137 lb)] [] [] [([.agg [.p (.lst true 137 []), .map 4], .rb true], (qD40 tc ta tb to ts te td tf tr tl tg tx)), ([.agg [.row 11 0 (.lst false 137 ub), .map 8], .rb true], (qD33 tc ta tb to ts te td tf tr tl tg tx ub g3)), ([.rb true], (qD17 tc ta tb to ts te td tf tr tl tg tx mp ub g3)), ([.rb true], (qD19 tc ta tb to ts te td tf tr tl tg tx mp ub mq g3)), ([.p (.agg [.lst true 36 [], .int .i64 pda, .int .i64 ala]), .p (.int .i64 0)], (qD19 tc ta tb to ts te td tf tr tl tg tx mp ub mq g3)), ([.p (.agg [.lst true 36 [], .int .i64 pdb, .int .i64 alb]), .p (.int .i64 0)], (qD13 tc ta tb to ts te td tf tr tl tg tx pda ala mp ub mq g3))] [[.bool true]] [] = some ([.p (.agg [.lst true 36 [], .int .i64 pda, .int .i64 ala]), .p (.agg [.lst true 36 [], .int .i64 pdb, .int .i64 alb]), .p (.int .i64 0)], [], [GCall Try.prog 148 (qD13 tc ta tb to ts te td tf tr tl tg tx pda ala mp ub mq g3) [.agg [.row 11 0 (.lst false 137 ub), .map 8], .agg [.p (.lst true 137 []), .map 4], .p (.int .i64 tb)] (qD13 tc ta tb to ts te td tf tr tl tg tx pda ala mp ub mq g3) [.p (.agg [.lst true 36 [], .int .i64 pdb, .int .i64 alb]), .p (.int .i64 0)], GCall Try.prog 148 (qD19 tc ta tb to ts te td tf tr tl tg tx mp ub mq g3) [.agg [.p (.lst true 137 []), .map 4], .agg [.row 11 0 (.lst false 137 ub), .map 8], .p (.int .i64 ta)] (qD19 tc ta tb to ts te td tf tr tl tg tx mp ub mq g3) [.p (.agg [.lst true 36 [], .int .i64 pda, .int .i64 ala]), .p (.int .i64 0)], GCall Try.prog 147 (qD17 tc ta tb to ts te td tf tr tl tg tx mp ub g3) [.ptr 12 0, .p (.lst xb 137 lb), .agg [.p (.lst true 137 []), .map 4]] (qD19 tc ta tb to ts te td tf tr tl tg tx mp ub mq g3) [.rb true], GCall Try.prog 147 (qD16 tc ta tb to ts te td tf tr tl tg tx ub g3) [.ptr 6 0, .p (.lst xa 137 la), .agg [.row 11 0 (.lst false 137 ub), .map 8]] (qD17 tc ta tb to ts te td tf tr tl tg tx mp ub g3) [.rb true], PCall Try.prog 18 [(trT tc ta tb to ts te td tf tr tl tg tx)] [.bool true], GCall Try.prog 146 (qD37 tc ta tb to ts te td tf tr tl tg tx) [.p (.lst xb 137 lb)] (qD33 tc ta tb to ts te td tf tr tl tg tx ub g3) [.agg [.row 11 0 (.lst false 137 ub), .map 8], .rb true], GCall Try.prog 146 (qD42 tc ta tb to ts te td tf tr tl tg tx) [.p (.lst xa 137 la)] (qD40 tc ta tb to ts te td tf tr tl tg tx) [.agg [.p (.lst true 137 []), .map 4], .rb true]]) := by kernel_rfl
theorem look12ss12 (tc ta tb to ts te td tf tr tl tg pda ala pdb alb : Int) (tx : List Int) (la lb ua ub ha hb : List T) (mx mp my mq : List (T × T)) (g2 g3 g4 g5 : T) (xa xb : Bool): topK (Cd [] [146, 18, 147, 148]) 30 104 [] [.p ((trT tc ta tb to ts te td tf tr tl tg tx)), .p (.lst xa 137 la), .p (.lst xb 137 lb)] [] [] [([.agg [.p (.lst true 137 []), .map 4], .rb true], (qD40 tc ta tb to ts te td tf tr tl tg tx)), ([.agg [.row 11 0 (.lst false 137 ub), .map 8], .rb true], (qD33 tc ta tb to ts te td tf tr tl tg tx ub g3)), ([.rb true], (qD17 tc ta tb to ts te td tf tr tl tg tx mp ub g3)), ([.rb true], (qD19 tc ta tb to ts te td tf tr tl tg tx mp ub mq g3)), ([.p (.agg [.lst true 36 [], .int .i64 pda, .int .i64 ala]), .p (.int .i64 0)], (qD19 tc ta tb to ts te td tf tr tl tg tx mp ub mq g3)), ([.agg [.row 18 0 (.lst false 36 hb), .p (.int .i64 pdb), .p (.int .i64 alb)], .p (.int .i64 0)], (qD5 tc ta tb to ts te td tf tr tl tg tx pda ala mp ub mq g3 hb pdb alb g5))] [[.bool true]] [] = some ([.p (.agg [.lst true 36 [], .int .i64 pda, .int .i64 ala]), .agg [.row 18 0 (.lst false 36 hb), .p (.int .i64 pdb), .p (.int .i64 alb)], .p (.int .i64 0)], [.box (.p ((trT tc ta tb to ts te td tf tr tl tg tx))), .box (.p (.agg [.lst true 36 [], .int .i64 pda, .int .i64 ala])), .box (.agg [.row 18 0 (.lst false 36 hb), .p (.int .i64 pdb), .p (.int .i64 alb)]), .box (.agg [.p (.lst true 137 []), .map 4]), .map mp, .box (.agg [.p (.lst true 137 []), .map 4]), .box (.agg [.p (.lst true 137 []), .map 4]), .box (.agg [.row 11 0 (.lst false 137 ub), .map 8]), .map mq, .box (.agg [.row 11 0 (.lst false 137 ub), .map 8]), .box (.p g3), .row 0 137, .box (.agg [.row 11 0 (.lst false 137 ub), .map 8]), .box (.agg [.row 11 0 (.lst false 137 ub), .map 8]), .box (.agg [.p (.lst true 137 []), .map 4]), .box (.agg [.row 18 0 (.lst false 36 hb), .p (.int .i64 pdb), .p (.int .i64 alb)]), .box (.agg [.row 18 0 (.lst false 36 hb), .p (.int .i64 pdb), .p (.int .i64 alb)]), .box (.p g5), .row 0 36], [GCall Try.prog 148 (qD13 tc ta tb to ts te td tf tr tl tg tx pda ala mp ub mq g3) [.agg [.row 11 0 (.lst false 137 ub), .map 8], .agg [.p (.lst true 137 []), .map 4], .p (.int .i64 tb)] (qD5 tc ta tb to ts te td tf tr tl tg tx pda ala mp ub mq g3 hb pdb alb g5) [.agg [.row 18 0 (.lst false 36 hb), .p (.int .i64 pdb), .p (.int .i64 alb)], .p (.int .i64 0)], GCall Try.prog 148 (qD19 tc ta tb to ts te td tf tr tl tg tx mp ub mq g3) [.agg [.p (.lst true 137 []), .map 4], .agg [.row 11 0 (.lst false 137 ub), .map 8], .p (.int .i64 ta)] (qD19 tc ta tb to ts te td tf tr tl tg tx mp ub mq g3) [.p (.agg [.lst true 36 [], .int .i64 pda, .int .i64 ala]), .p (.int .i64 0)], GCall Try.prog 147 (qD17 tc ta tb to ts te td tf tr tl tg tx mp ub g3) [.ptr 12 0, .p (.lst xb 137 lb), .agg [.p (.lst true 137 []), .map 4]] (qD19 tc ta tb to ts te td tf tr tl tg tx mp ub mq g3) [.rb true], GCall Try.prog 147 (qD16 tc ta tb to ts te td tf tr tl tg tx ub g3) [.ptr 6 0, .p (.lst xa 137 la), .agg [.row 11 0 (.lst false 137 ub), .map 8]] (qD17 tc ta tb to ts te td tf tr tl tg tx mp ub g3) [.rb true], PCall Try.prog 18 [(trT tc ta tb to ts te td tf tr tl tg tx)] [.bool true], GCall Try.prog 146 (qD37 tc ta tb to ts te td tf tr tl tg tx) [.p (.lst xb 137 lb)] (qD33 tc ta tb to ts te td tf tr tl tg tx ub g3) [.agg [.row 11 0 (.lst false 137 ub), .map 8], .rb true], GCall Try.prog 146 (qD42 tc ta tb to ts te td tf tr tl tg tx) [.p (.lst xa 137 la)] (qD40 tc ta tb to ts te td tf tr tl tg tx) [.agg [.p (.lst true 137 []), .map 4], .rb true]]) := by kernel_rfl
theorem look20F (tc ta tb to ts te td tf tr tl tg pda ala pdb alb : Int) (tx : List Int) (la lb ua ub ha hb : List T) (mx mp my mq : List (T × T)) (g2 g3 g4 g5 : T) (xa xb : Bool): topK (Cd [] [146, 18, 147, 148]) 30 104 [] [.p ((trT tc ta tb to ts te td tf tr tl tg tx)), .p (.lst xa 137 la), .p (.lst xb 137 lb)] [] [] [([.agg [.row 7 0 (.lst false 137 ua), .map 4], .rb true], (qD39 tc ta tb to ts te td tf tr tl tg tx ua g2)), ([.p (.agg [.lst true 137 [], .nilM]), .p (.bool false)], (qD35 tc ta tb to ts te td tf tr tl tg tx ua g2))] [[.bool false]] [] = some ([.p (.agg [.lst true 36 [], .int .i64 0, .int .i64 0]), .p (.agg [.lst true 36 [], .int .i64 0, .int .i64 0]), .p (.int .i64 1)], [], [PCall Try.prog 18 [(trT tc ta tb to ts te td tf tr tl tg tx)] [.bool false], GCall Try.prog 146 (qD35 tc ta tb to ts te td tf tr tl tg tx ua g2) [.p (.lst xb 137 lb)] (qD35 tc ta tb to ts te td tf tr tl tg tx ua g2) [.p (.agg [.lst true 137 [], .nilM]), .p (.bool false)], GCall Try.prog 146 (qD42 tc ta tb to ts te td tf tr tl tg tx) [.p (.lst xa 137 la)] (qD39 tc ta tb to ts te td tf tr tl tg tx ua g2) [.agg [.row 7 0 (.lst false 137 ua), .map 4], .rb true]]) := by kernel_rfl
theorem look20T (tc ta tb to ts te td tf tr tl tg pda ala pdb alb : Int) (tx : List Int) (la lb ua ub ha hb : List T) (mx mp my mq : List (T × T)) (g2 g3 g4 g5 : T) (xa xb : Bool): topK (Cd [] [146, 18, 147, 148]) 30 104 [] [.p ((trT tc ta tb to ts te td tf tr tl tg tx)), .p (.lst xa 137 la), .p (.lst xb 137 lb)] [] [] [([.agg [.row 7 0 (.lst false 137 ua), .map 4], .rb true], (qD39 tc ta tb to ts te td tf tr tl tg tx ua g2)), ([.p (.agg [.lst true 137 [], .nilM]), .p (.bool false)], (qD35 tc ta tb to ts te td tf tr tl tg tx ua g2))] [[.bool true]] [] = some ([.p (.agg [.lst true 36 [], .int .i64 0, .int .i64 0]), .p (.agg [.lst true 36 [], .int .i64 0, .int .i64 0]), .p (.int .i64 1)], [], [PCall Try.prog 18 [(trT tc ta tb to ts te td tf tr tl tg tx)] [.bool true], GCall Try.prog 146 (qD35 tc ta tb to ts te td tf tr tl tg tx ua g2) [.p (.lst xb 137 lb)] (qD35 tc ta tb to ts te td tf tr tl tg tx ua g2) [.p (.agg [.lst true 137 [], .nilM]), .p (.bool false)], GCall Try.prog 146 (qD42 tc ta tb to ts te td tf tr tl tg tx) [.p (.lst xa 137 la)] (qD39 tc ta tb to ts te td tf tr tl tg tx ua g2) [.agg [.row 7 0 (.lst false 137 ua), .map 4], .rb true]]) := by kernel_rfl
theorem look21F (tc ta tb to ts te td tf tr tl tg pda ala pdb alb : Int) (tx : List Int) (la lb ua ub ha hb : List T) (mx mp my mq : List (T × T)) (g2 g3 g4 g5 : T) (xa xb : Bool): topK (Cd [] [146, 18, 147, 148]) 30 104 [] [.p ((trT tc ta tb to ts te td tf tr tl tg tx)), .p (.lst xa 137 la), .p (.lst xb 137 lb)] [] [] [([.agg [.row 7 0 (.lst false 137 ua), .map 4], .rb true], (qD39 tc ta tb to ts te td tf tr tl tg tx ua g2)), ([.agg [.p (.lst true 137 []), .map 10], .rb true], (qD27 tc ta tb to ts te td tf tr tl tg tx ua g2))] [[.bool false]] [] = some ([.p (.agg [.lst true 36 [], .int .i64 0, .int .i64 0]), .p (.agg [.lst true 36 [], .int .i64 0, .int .i64 0]), .p (.int .i64 1)], [], [PCall Try.prog 18 [(trT tc ta tb to ts te td tf tr tl tg tx)] [.bool false], GCall Try.prog 146 (qD35 tc ta tb to ts te td tf tr tl tg tx ua g2) [.p (.lst xb 137 lb)] (qD27 tc ta tb to ts te td tf tr tl tg tx ua g2) [.agg [.p (.lst true 137 []), .map 10], .rb true], GCall Try.prog 146 (qD42 tc ta tb to ts te td tf tr tl tg tx) [.p (.lst xa 137 la)] (qD39 tc ta tb to ts te td tf tr tl tg tx ua g2) [.agg [.row 7 0 (.lst false 137 ua), .map 4], .rb true]]) := by kernel_rfl
theorem look21n (tc ta tb to ts te td tf tr tl tg pda ala pdb alb : Int) (tx : List Int) (la lb ua ub ha hb : List T) (mx mp my mq : List (T × T)) (g2 g3 g4 g5 : T) (xa xb : Bool): topK (Cd [] [146, 18, 147, 148]) 30 104 [] [.p ((trT tc ta tb to ts te td tf tr tl tg tx)), .p (.lst xa 137 la), .p (.lst xb 137 lb)] [] [] [([.agg [.row 7 0 (.lst false 137 ua), .map 4], .rb true], (qD39 tc ta tb to ts te td tf tr tl tg tx ua g2)), ([.agg [.p (.lst true 137 []), .map 10], .rb true], (qD27 tc ta tb to ts te td tf tr tl tg tx ua g2)), ([.p (.bool false)], (qD20 tc ta tb to ts te td tf tr tl tg tx ua mx g2))] [[.bool true]] [] = some ([.p (.agg [.lst true 36 [], .int .i64 0, .int .i64 0]), .p (.agg [.lst true 36 [], .int .i64 0, .int .i64 0]), .p (.int .i64 4)], [], [GCall Try.prog 147 (qD21 tc ta tb to ts te td tf tr tl tg tx ua g2) [.ptr 8 0, .p (.lst xa 137 la), .agg [.p (.lst true 137 []), .map 10]] (qD20 tc ta tb to ts te td tf tr tl tg tx ua mx g2) [.p (.bool false)], PCall Try.prog 18 [(trT tc ta tb to ts te td tf tr tl tg tx)] [.bool true], GCall Try.prog 146 (qD35 tc ta tb to ts te td tf tr tl tg tx ua g2) [.p (.lst xb 137 lb)] (qD27 tc ta tb to ts te td tf tr tl tg tx ua g2) [.agg [.p (.lst true 137 []), .map 10], .rb true], GCall Try.prog 146 (qD42 tc ta tb to ts te td tf tr tl tg tx) [.p (.lst xa 137 la)] (qD39 tc ta tb to ts te td tf tr tl tg tx ua g2) [.agg [.row 7 0 (.lst false 137 ua), .map 4], .rb true]]) := by kernel_rfl
theorem look21sn (tc ta tb to ts te td tf tr tl tg pda ala pdb alb : Int) (tx : List Int) (la lb ua ub ha hb : List T) (mx mp my mq : List (T × T)) (g2 g3 g4 g5 : T) (xa xb : Bool): topK (Cd [] [146, 18, 147, 148]) 30 104 [] [.p ((trT tc ta tb to ts te td tf tr tl tg tx)), .p (.lst xa 137 la), .p (.lst xb 137 lb)] [] [] [([.agg [.row 7 0 (.lst false 137 ua), .map 4], .rb true], (qD39 tc ta tb to ts te td tf tr tl tg tx ua g2)), ([.agg [.p (.lst true 137 []), .map 10], .rb true], (qD27 tc ta tb to ts te td tf tr tl tg tx ua g2)), ([.rb true], (qD22 tc ta tb to ts te td tf tr tl tg tx ua mp g2)), ([.p (.bool false)], (qD23 tc ta tb to ts te td tf tr tl tg tx ua mp g2 my))] [[.bool true]] [] = some ([.p (.agg [.lst true 36 [], .int .i64 0, .int .i64 0]), .p (.agg [.lst true 36 [], .int .i64 0, .int .i64 0]), .p (.int .i64 4)], [], [GCall Try.prog 147 (qD22 tc ta tb to ts te td tf tr tl tg tx ua mp g2) [.ptr 12 0, .p (.lst xb 137 lb), .agg [.row 7 0 (.lst false 137 ua), .map 4]] (qD23 tc ta tb to ts te td tf tr tl tg tx ua mp g2 my) [.p (.bool false)], GCall Try.prog 147 (qD21 tc ta tb to ts te td tf tr tl tg tx ua g2) [.ptr 8 0, .p (.lst xa 137 la), .agg [.p (.lst true 137 []), .map 10]] (qD22 tc ta tb to ts te td tf tr tl tg tx ua mp g2) [.rb true], PCall Try.prog 18 [(trT tc ta tb to ts te td tf tr tl tg tx)] [.bool true], GCall Try.prog 146 (qD35 tc ta tb to ts te td tf tr tl tg tx ua g2) [.p (.lst xb 137 lb)] (qD27 tc ta tb to ts te td tf tr tl tg tx ua g2) [.agg [.p (.lst true 137 []), .map 10], .rb true], GCall Try.prog 146 (qD42 tc ta tb to ts te td tf tr tl tg tx) [.p (.lst xa 137 la)] (qD39 tc ta tb to ts te td tf tr tl tg tx ua g2) [.agg [.row 7 0 (.lst false 137 ua), .map 4], .rb true]]) := by kernel_rfl
theorem look21ss0 (tc ta tb to ts te td tf tr tl tg pda ala pdb alb : Int) (tx : List Int) (la lb ua ub ha hb : List T) (mx mp my mq : List (T × T)) (g2 g3 g4 g5 : T) (xa xb : Bool): topK (Cd [] [146, 18, 147, 148]) 30 104 [] [.p ((trT tc ta tb to ts te td tf tr tl tg tx)), .p (.lst xa 137 la), .p (.lst xb 137 lb)] [] [] [([.agg [.row 7 0 (.lst false 137 ua), .map 4], .rb true], (qD39 tc ta tb to ts te td tf tr tl tg tx ua g2)), ([.agg [.p (.lst true 137 []), .map 10], .rb true], (qD27 tc ta tb to ts te td tf tr tl tg tx ua g2)), ([.rb true], (qD22 tc ta tb to ts te td tf tr tl tg tx ua mp g2)), ([.rb true], (qD24 tc ta tb to ts te td tf tr tl tg tx ua mp g2 mq)), ([.p (.agg [.lst true 36 [], .int .i64 0, .int .i64 0]), .p (.int .i64 20)], (qD24 tc ta tb to ts te td tf tr tl tg tx ua mp g2 mq))] [[.bool true]] [] = some ([.p (.agg [.lst true 36 [], .int .i64 0, .int .i64 0]), .p (.agg [.lst true 36 [], .int .i64 0, .int .i64 0]), .p (.int .i64 20)], [], [GCall Try.prog 148 (qD24 tc ta tb to ts te td tf tr tl tg tx ua mp g2 mq) [.agg [.row 7 0 (.lst false 137 ua), .map 4], .agg [.p (.lst true 137 []), .map 10], .p (.int .i64 ta)] (qD24 tc ta tb to ts te td tf tr tl tg tx ua mp g2 mq) [.p (.agg [.lst true 36 [], .int .i64 0, .int .i64 0]), .p (.int .i64 20)], GCall Try.prog 147 (qD22 tc ta tb to ts te td tf tr tl tg tx ua mp g2) [.ptr 12 0, .p (.lst xb 137 lb), .agg [.row 7 0 (.lst false 137 ua), .map 4]] (qD24 tc ta tb to ts te td tf tr tl tg tx ua mp g2 mq) [.rb true], GCall Try.prog 147 (qD21 tc ta tb to ts te td tf tr tl tg tx ua g2) [.ptr 8 0, .p (.lst xa 137 la), .agg [.p (.lst true 137 []), .map 10]] (qD22 tc ta tb to ts te td tf tr tl tg tx ua mp g2) [.rb true], PCall Try.prog 18 [(trT tc ta tb to ts te td tf tr tl tg tx)] [.bool true], GCall Try.prog 146 (qD35 tc ta tb to ts te td tf tr tl tg tx ua g2) [.p (.lst xb 137 lb)] (qD27 tc ta tb to ts te td tf tr tl tg tx ua g2) [.agg [.p (.lst true 137 []), .map 10], .rb true], GCall Try.prog 146 (qD42 tc ta tb to ts te td tf tr tl tg tx) [.p (.lst xa 137 la)] (qD39 tc ta tb to ts te td tf tr tl tg tx ua g2) [.agg [.row 7 0 (.lst false 137 ua), .map 4], .rb true]]) := by kernel_rfl
theorem look21ss11 (tc ta tb to ts te td tf tr tl tg pda ala pdb alb : Int) (tx : List Int) (la lb ua ub ha hb : List T) (mx mp my mq : List (T × T)) (g2 g3 g4 g5 : T) (xa xb : Bool): topK (Cd [] [146, 18, 147, 148]) 30 104 [] [.p ((trT tc ta tb to ts te td tf tr tl tg tx)), .p (.lst xa 137 la), .p (.lst xb 137 lb)] [] [] [([.agg [.row 7 0 (.lst false 137 ua), .map 4], .rb true], (qD39 tc ta tb to ts te td tf tr tl tg tx ua g2)), ([.agg [.p (.lst true 137 []), .map 10], .rb true], (qD27 tc ta tb to ts te td tf tr tl tg tx ua g2)), ([.rb true], (qD22 tc ta tb to ts te td tf tr tl tg tx ua mp g2)), ([.rb true], (qD24 tc ta tb to ts te td tf tr tl tg tx ua mp g2 mq)), ([.p (.agg [.lst true 36 [], .int .i64 pda, .int .i64 ala]), .p (.int .i64 0)], (qD24 tc ta tb to ts te td tf tr tl tg tx ua mp g2 mq)), ([.p (.agg [.lst true 36 [], .int .i64 pdb, .int .i64 alb]), .p (.int .i64 0)], (qD14 tc ta tb to ts te td tf tr tl tg tx pda ala ua mp g2 mq))] [[.bool true]] [] = some ([.p (.agg [.lst true 36 [], .int .i64 pda, .int .i64 ala]), .p (.agg [.lst true 36 [], .int .i64 pdb, .int .i64 alb]), .p (.int .i64 0)], [], [GCall Try.prog 148 (qD14 tc ta tb to ts te td tf tr tl tg tx pda ala ua mp g2 mq) [.agg [.p (.lst true 137 []), .map 10], .agg [.row 7 0 (.lst false 137 ua), .map 4], .p (.int .i64 tb)] (qD14 tc ta tb to ts te td tf tr tl tg tx pda ala ua mp g2 mq) [.p (.agg [.lst true 36 [], .int .i64 pdb, .int .i64 alb]), .p (.int .i64 0)], GCall Try.prog 148 (qD24 tc ta tb to ts te td tf tr tl tg tx ua mp g2 mq) [.agg [.row 7 0 (.lst false 137 ua), .map 4], .agg [.p (.lst true 137 []), .map 10], .p (.int .i64 ta)] (qD24 tc ta tb to ts te td tf tr tl tg tx ua mp g2 mq) [.p (.agg [.lst true 36 [], .int .i64 pda, .int .i64 ala]), .p (.int .i64 0)], GCall Try.prog 147 (qD22 tc ta tb to ts te td tf tr tl tg tx ua mp g2) [.ptr 12 0, .p (.lst xb 137 lb), .agg [.row 7 0 (.lst false 137 ua), .map 4]] (qD24 tc ta tb to ts te td tf tr tl tg tx ua mp g2 mq) [.rb true], GCall Try.prog 147 (qD21 tc ta tb to ts te td tf tr tl tg tx ua g2) [.ptr 8 0, .p (.lst xa 137 la), .agg [.p (.lst true 137 []), .map 10]] (qD22 tc ta tb to ts te td tf tr tl tg tx ua mp g2) [.rb true], PCall Try.prog 18 [(trT tc ta tb to ts te td tf tr tl tg tx)] [.bool true], GCall Try.prog 146 (qD35 tc ta tb to ts te td tf tr tl tg tx ua g2) [.p (.lst xb 137 lb)] (qD27 tc ta tb to ts te td tf tr tl tg tx ua g2) [.agg [.p (.lst true 137 []), .map 10], .rb true], GCall Try.prog 146 (qD42 tc ta tb to ts te td tf tr tl tg tx) [.p (.lst xa 137 la)] (qD39 tc ta tb to ts te td tf tr tl tg tx ua g2) [.agg [.row 7 0 (.lst false 137 ua), .map 4], .rb true]]) := by kernel_rfl
theorem look21ss21 (tc ta tb to ts te td tf tr tl tg pda ala pdb alb : Int) (tx : List Int) (la lb ua ub ha hb : List T) (mx mp my mq : List (T × T)) (g2 g3 g4 g5 : T) (xa xb : Bool): topK (Cd [] [146, 18, 147, 148]) 30 104 [] [.p ((trT tc ta tb to ts te td tf tr tl tg tx)), .p (.lst xa 137 la), .p (.lst xb 137 lb)] [] [] [([.agg [.row 7 0 (.lst false 137 ua), .map 4], .rb true], (qD39 tc ta tb to ts te td tf tr tl tg tx ua g2)), ([.agg [.p (.lst true 137 []), .map 10], .rb true], (qD27 tc ta tb to ts te td tf tr tl tg tx ua g2)), ([.rb true], (qD22 tc ta tb to ts te td tf tr tl tg tx ua mp g2)), ([.rb true], (qD24 tc ta tb to ts te td tf tr tl tg tx ua mp g2 mq)), ([.agg [.row 18 0 (.lst false 36 ha), .p (.int .i64 pda), .p (.int .i64 ala)], .p (.int .i64 0)], (qD6 tc ta tb to ts te td tf tr tl tg tx ua mp g2 mq ha pda ala g4)), ([.p (.agg [.lst true 36 [], .int .i64 pdb, .int .i64 alb]), .p (.int .i64 0)], (qD4 tc ta tb to ts te td tf tr tl tg tx ha pda ala ua mp g2 mq g4))] [[.bool true]] [] = some ([.agg [.row 18 0 (.lst false 36 ha), .p (.int .i64 pda), .p (.int .i64 ala)], .p (.agg [.lst true 36 [], .int .i64 pdb, .int .i64 alb]), .p (.int .i64 0)], [.box (.p ((trT tc ta tb to ts te td tf tr tl tg tx))), .box (.agg [.row 18 0 (.lst false 36 ha), .p (.int .i64 pda), .p (.int .i64 ala)]), .box (.p (.agg [.lst true 36 [], .int .i64 pdb, .int .i64 alb])), .box (.agg [.row 7 0 (.lst false 137 ua), .map 4]), .map mp, .box (.agg [.row 7 0 (.lst false 137 ua), .map 4]), .box (.p g2), .row 0 137, .box (.agg [.row 7 0 (.lst false 137 ua), .map 4]), .box (.agg [.p (.lst true 137 []), .map 10]), .map mq, .box (.agg [.p (.lst true 137 []), .map 10]), .box (.agg [.p (.lst true 137 []), .map 10]), .box (.agg [.row 7 0 (.lst false 137 ua), .map 4]), .box (.agg [.p (.lst true 137 []), .map 10]), .box (.agg [.row 18 0 (.lst false 36 ha), .p (.int .i64 pda), .p (.int .i64 ala)]), .box (.agg [.row 18 0 (.lst false 36 ha), .p (.int .i64 pda), .p (.int .i64 ala)]), .box (.p g4), .row 0 36], [GCall Try.prog 148 (qD4 tc ta tb to ts te td tf tr tl tg tx ha pda ala ua mp g2 mq g4) [.agg [.p (.lst true 137 []), .map 10], .agg [.row 7 0 (.lst false 137 ua), .map 4], .p (.int .i64 tb)] (qD4 tc ta tb to ts te td tf tr tl tg tx ha pda ala ua mp g2 mq g4) [.p (.agg [.lst true 36 [], .int .i64 pdb, .int .i64 alb]), .p (.int .i64 0)], GCall Try.prog 148 (qD24 tc ta tb to ts te td tf tr tl tg tx ua mp g2 mq) [.agg [.row 7 0 (.lst false 137 ua), .map 4], .agg [.p (.lst true 137 []), .map 10], .p (.int .i64 ta)] (qD6 tc ta tb to ts te td tf tr tl tg tx ua mp g2 mq ha pda ala g4) [.agg [.row 18 0 (.lst false 36 ha), .p (.int .i64 pda), .p (.int .i64 ala)], .p (.int .i64 0)], GCall Try.prog 147 (qD22 tc ta tb to ts te td tf tr tl tg tx ua mp g2) [.ptr 12 0, .p (.lst xb 137 lb), .agg [.row 7 0 (.lst false 137 ua), .map 4]] (qD24 tc ta tb to ts te td tf tr tl tg tx ua mp g2 mq) [.rb true], GCall Try.prog 147 (qD21 tc ta tb to ts te td tf tr tl tg tx ua g2) [.ptr 8 0, .p (.lst xa 137 la), .agg [.p (.lst true 137 []), .map 10]] (qD22 tc ta tb to ts te td tf tr tl tg tx ua mp g2) [.rb true], PCall Try.prog 18 [(trT tc ta tb to ts te td tf tr tl tg tx)] [.bool true], GCall Try.prog 146 (qD35 tc ta tb to ts te td tf tr tl tg tx ua g2) [.p (.lst xb 137 lb)] (qD27 tc ta tb to ts te td tf tr tl tg tx ua g2) [.agg [.p (.lst true 137 []), .map 10], .rb true], GCall Try.prog 146 (qD42 tc ta tb to ts te td tf tr tl tg tx) [.p (.lst xa 137 la)] (qD39 tc ta tb to ts te td tf tr tl tg tx ua g2) [.agg [.row 7 0 (.lst false 137 ua), .map 4], .rb true]]) := by kernel_rfl
theorem look22F (tc ta tb to ts te td tf tr tl tg pda ala pdb alb : Int) (tx : List Int) (la lb ua ub ha hb : List T) (mx mp my mq : List (T × T)) (g2 g3 g4 g5 : T) (xa xb : Bool): topK (Cd [] [146, 18, 147, 148]) 30 104 [] [.p ((trT tc ta tb to ts te td tf tr tl tg tx)), .p (.lst xa 137 la), .p (.lst xb 137 lb)] [] [] [([.agg [.row 7 0 (.lst false 137 ua), .map 4], .rb true], (qD39 tc ta tb to ts te td tf tr tl tg tx ua g2)), ([.agg [.row 13 0 (.lst false 137 ub), .map 10], .rb true], (qD25 tc ta tb to ts te td tf tr tl tg tx ua g2 ub g3))] [[.bool false]] [] = some ([.p (.agg [.lst true 36 [], .int .i64 0, .int .i64 0]), .p (.agg [.lst true 36 [], .int .i64 0, .int .i64 0]), .p (.int .i64 1)], [], [PCall Try.prog 18 [(trT tc ta tb to ts te td tf tr tl tg tx)] [.bool false], GCall Try.prog 146 (qD35 tc ta tb to ts te td tf tr tl tg tx ua g2) [.p (.lst xb 137 lb)] (qD25 tc ta tb to ts te td tf tr tl tg tx ua g2 ub g3) [.agg [.row 13 0 (.lst false 137 ub), .map 10], .rb true], GCall Try.prog 146 (qD42 tc ta tb to ts te td tf tr tl tg tx) [.p (.lst xa 137 la)] (qD39 tc ta tb to ts te td tf tr tl tg tx ua g2) [.agg [.row 7 0 (.lst false 137 ua), .map 4], .rb true]]) := by kernel_rfl
theorem look22n (tc ta tb to ts te td tf tr tl tg pda ala pdb alb : Int) (tx : List Int) (la lb ua ub ha hb : List T) (mx mp my mq : List (T × T)) (g2 g3 g4 g5 : T) (xa xb : Bool): topK (Cd [] [146, 18, 147, 148]) 30 104 [] [.p ((trT tc ta tb to ts te td tf tr tl tg tx)), .p (.lst xa 137 la), .p (.lst xb 137 lb)] [] [] [([.agg [.row 7 0 (.lst false 137 ua), .map 4], .rb true], (qD39 tc ta tb to ts te td tf tr tl tg tx ua g2)), ([.agg [.row 13 0 (.lst false 137 ub), .map 10], .rb true], (qD25 tc ta tb to ts te td tf tr tl tg tx ua g2 ub g3)), ([.p (.bool false)], (qD8 tc ta tb to ts te td tf tr tl tg tx ua mx g2 ub g3))] [[.bool true]] [] = some ([.p (.agg [.lst true 36 [], .int .i64 0, .int .i64 0]), .p (.agg [.lst true 36 [], .int .i64 0, .int .i64 0]), .p (.int .i64 4)], [], [GCall Try.prog 147 (qD9 tc ta tb to ts te td tf tr tl tg tx ua g2 ub g3) [.ptr 8 0, .p (.lst xa 137 la), .agg [.row 13 0 (.lst false 137 ub), .map 10]] (qD8 tc ta tb to ts te td tf tr tl tg tx ua mx g2 ub g3) [.p (.bool false)], PCall Try.prog 18 [(trT tc ta tb to ts te td tf tr tl tg tx)] [.bool true], GCall Try.prog 146 (qD35 tc ta tb to ts te td tf tr tl tg tx ua g2) [.p (.lst xb 137 lb)] (qD25 tc ta tb to ts te td tf tr tl tg tx ua g2 ub g3) [.agg [.row 13 0 (.lst false 137 ub), .map 10], .rb true], GCall Try.prog 146 (qD42 tc ta tb to ts te td tf tr tl tg tx) [.p (.lst xa 137 la)] (qD39 tc ta tb to ts te td tf tr tl tg tx ua g2) [.agg [.row 7 0 (.lst false 137 ua), .map 4], .rb true]]) := by kernel_rfl
theorem look22sn (tc ta tb to ts te td tf tr tl tg pda ala pdb alb : Int) (tx : List Int) (la lb ua ub ha hb : List T) (mx mp my mq : List (T × T)) (g2 g3 g4 g5 : T) (xa xb : Bool): topK (Cd [] [146, 18, 147, 148]) 30 104 [] [.p ((trT tc ta tb to ts te td tf tr tl tg tx)), .p (.lst xa 137 la), .p (.lst xb 137 lb)] [] [] [([.agg [.row 7 0 (.lst false 137 ua), .map 4], .rb true], (qD39 tc ta tb to ts te td tf tr tl tg tx ua g2)), ([.agg [.row 13 0 (.lst false 137 ub), .map 10], .rb true], (qD25 tc ta tb to ts te td tf tr tl tg tx ua g2 ub g3)), ([.rb true], (qD10 tc ta tb to ts te td tf tr tl tg tx ua mp g2 ub g3)), ([.p (.bool false)], (qD11 tc ta tb to ts te td tf tr tl tg tx ua mp g2 ub my g3))] [[.bool true]] [] = some ([.p (.agg [.lst true 36 [], .int .i64 0, .int .i64 0]), .p (.agg [.lst true 36 [], .int .i64 0, .int .i64 0]), .p (.int .i64 4)], [], [GCall Try.prog 147 (qD10 tc ta tb to ts te td tf tr tl tg tx ua mp g2 ub g3) [.ptr 14 0, .p (.lst xb 137 lb), .agg [.row 7 0 (.lst false 137 ua), .map 4]] (qD11 tc ta tb to ts te td tf tr tl tg tx ua mp g2 ub my g3) [.p (.bool false)], GCall Try.prog 147 (qD9 tc ta tb to ts te td tf tr tl tg tx ua g2 ub g3) [.ptr 8 0, .p (.lst xa 137 la), .agg [.row 13 0 (.lst false 137 ub), .map 10]] (qD10 tc ta tb to ts te td tf tr tl tg tx ua mp g2 ub g3) [.rb true], PCall Try.prog 18 [(trT tc ta tb to ts te td tf tr tl tg tx)] [.bool true], GCall Try.prog 146 (qD35 tc ta tb to ts te td tf tr tl tg tx ua g2) [.p (.lst xb 137 lb)] (qD25 tc ta tb to ts te td tf tr tl tg tx ua g2 ub g3) [.agg [.row 13 0 (.lst false 137 ub), .map 10], .rb true], GCall Try.prog 146 (qD42 tc ta tb to ts te td tf tr tl tg tx) [.p (.lst xa 137 la)] (qD39 tc ta tb to ts te td tf tr tl tg tx ua g2) [.agg [.row 7 0 (.lst false 137 ua), .map 4], .rb true]]) := by kernel_rfl
theorem look22ss0 (tc ta tb to ts te td tf tr tl tg pda ala pdb alb : Int) (tx : List Int) (la lb ua ub ha hb : List T) (mx mp my mq : List (T × T)) (g2 g3 g4 g5 : T) (xa xb : Bool): topK (Cd [] [146, 18, 147, 148]) 30 104 [] [.p ((trT tc ta tb to ts te td tf tr tl tg tx)), .p (.lst xa 137 la), .p (.lst xb 137 lb)] [] [] [([.agg [.row 7 0 (.lst false 137 ua), .map 4], .rb true], (qD39 tc ta tb to ts te td tf tr tl tg tx ua g2)), ([.agg [.row 13 0 (.lst false 137 ub), .map 10], .rb true], (qD25 tc ta tb to ts te td tf tr tl tg tx ua g2 ub g3)), ([.rb true], (qD10 tc ta tb to ts te td tf tr tl tg tx ua mp g2 ub g3)), ([.rb true], (qD12 tc ta tb to ts te td tf tr tl tg tx ua mp g2 ub mq g3)), ([.p (.agg [.lst true 36 [], .int .i64 0, .int .i64 0]), .p (.int .i64 20)], (qD12 tc ta tb to ts te td tf tr tl tg tx ua mp g2 ub mq g3))] [[.bool true]] [] = some ([.p (.agg [.lst true 36 [], .int .i64 0, .int .i64 0]), .p (.agg [.lst true 36 [], .int .i64 0, .int .i64 0]), .p (.int .i64 20)], [], [GCall Try.prog 148 (qD12 tc ta tb to ts te td tf tr tl tg tx ua mp g2 ub mq g3) [.agg [.row 7 0 (.lst false 137 ua), .map 4], .agg [.row 13 0 (.lst false 137 ub), .map 10], .p (.int .i64 ta)] (qD12 tc ta tb to ts te td tf tr tl tg tx ua mp g2 ub mq g3) [.p (.agg [.lst true 36 [], .int .i64 0, .int .i64 0]), .p (.int .i64 20)], GCall Try.prog 147 (qD10 tc ta tb to ts te td tf tr tl tg tx ua mp g2 ub g3) [.ptr 14 0, .p (.lst xb 137 lb), .agg [.row 7 0 (.lst false 137 ua), .map 4]] (qD12 tc ta tb to ts te td tf tr tl tg tx ua mp g2 ub mq g3) [.rb true], GCall Try.prog 147 (qD9 tc ta tb to ts te td tf tr tl tg tx ua g2 ub g3) [.ptr 8 0, .p (.lst xa 137 la), .agg [.row 13 0 (.lst false 137 ub), .map 10]] (qD10 tc ta tb to ts te td tf tr tl tg tx ua mp g2 ub g3) [.rb true], PCall Try.prog 18 [(trT tc ta tb to ts te td tf tr tl tg tx)] [.bool true], GCall Try.prog 146 (qD35 tc ta tb to ts te td tf tr tl tg tx ua g2) [.p (.lst xb 137 lb)] (qD25 tc ta tb to ts te td tf tr tl tg tx ua g2 ub g3) [.agg [.row 13 0 (.lst false 137 ub), .map 10], .rb true], GCall Try.prog 146 (qD42 tc ta tb to ts te td tf tr tl tg tx) [.p (.lst xa 137 la)] (qD39 tc ta tb to ts te td tf tr tl tg tx ua g2) [.agg [.row 7 0 (.lst false 137 ua), .map 4], .rb true]]) := by kernel_rfl
theorem look22ss10 (tc ta tb to ts te td tf tr tl tg pda ala pdb alb : Int) (tx : List Int) (la lb ua ub ha hb : List T) (mx mp my mq : List (T × T)) (g2 g3 g4 g5 : T) (xa xb : Bool): topK (Cd [] [146, 18, 147, 148]) 30 104 [] [.p ((trT tc ta tb to ts te td tf tr tl tg tx)), .p (.lst xa 137 la), .p (.lst xb 137 lb)] [] [] [([.agg [.row 7 0 (.lst false 137 ua), .map 4], .rb true], (qD39 tc ta tb to ts te td tf tr tl tg tx ua g2)), ([.agg [.row 13 0 (.lst false 137 ub), .map 10], .rb true], (qD25 tc ta tb to ts te td tf tr tl tg tx ua g2 ub g3)), ([.rb true], (qD10 tc ta tb to ts te td tf tr tl tg tx ua mp g2 ub g3)), ([.rb true], (qD12 tc ta tb to ts te td tf tr tl tg tx ua mp g2 ub mq g3)), ([.p (.agg [.lst true 36 [], .int .i64 pda, .int .i64 ala]), .p (.int .i64 0)], (qD12 tc ta tb to ts te td tf tr tl tg tx ua mp g2 ub mq g3)), ([.p (.agg [.lst true 36 [], .int .i64 0, .int .i64 0]), .p (.int .i64 20)], (qD7 tc ta tb to ts te td tf tr tl tg tx pda ala ua mp g2 ub mq g3))] [[.bool true]] [] = some ([.p (.agg [.lst true 36 [], .int .i64 pda, .int .i64 ala]), .p (.agg [.lst true 36 [], .int .i64 0, .int .i64 0]), .p (.int .i64 20)], [], [GCall Try.prog 148 (qD7 tc ta tb to ts te td tf tr tl tg tx pda ala ua mp g2 ub mq g3) [.agg [.row 13 0 (.lst false 137 ub), .map 10], .agg [.row 7 0 (.lst false 137 ua), .map 4], .p (.int .i64 tb)] (qD7 tc ta tb to ts te td tf tr tl tg tx pda ala ua mp g2 ub mq g3) [.p (.agg [.lst true 36 [], .int .i64 0, .int .i64 0]), .p (.int .i64 20)], GCall Try.prog 148 (qD12 tc ta tb to ts te td tf tr tl tg tx ua mp g2 ub mq g3) [.agg [.row 7 0 (.lst false 137 ua), .map 4], .agg [.row 13 0 (.lst false 137 ub), .map 10], .p (.int .i64 ta)] (qD12 tc ta tb to ts te td tf tr tl tg tx ua mp g2 ub mq g3) [.p (.agg [.lst true 36 [], .int .i64 pda, .int .i64 ala]), .p (.int .i64 0)], GCall Try.prog 147 (qD10 tc ta tb to ts te td tf tr tl tg tx ua mp g2 ub g3) [.ptr 14 0, .p (.lst xb 137 lb), .agg [.row 7 0 (.lst false 137 ua), .map 4]] (qD12 tc ta tb to ts te td tf tr tl tg tx ua mp g2 ub mq g3) [.rb true], GCall Try.prog 147 (qD9 tc ta tb to ts te td tf tr tl tg tx ua g2 ub g3) [.ptr 8 0, .p (.lst xa 137 la), .agg [.row 13 0 (.lst false 137 ub), .map 10]] (qD10 tc ta tb to ts te td tf tr tl tg tx ua mp g2 ub g3) [.rb true], PCall Try.prog 18 [(trT tc ta tb to ts te td tf tr tl tg tx)] [.bool true], GCall Try.prog 146 (qD35 tc ta tb to ts te td tf tr tl tg tx ua g2) [.p (.lst xb 137 lb)] (qD25 tc ta tb to ts te td tf tr tl tg tx ua g2 ub g3) [.agg [.row 13 0 (.lst false 137 ub), .map 10], .rb true], GCall Try.prog 146 (qD42 tc ta tb to ts te td tf tr tl tg tx) [.p (.lst xa 137 la)] (qD39 tc ta tb to ts te td tf tr tl tg tx ua g2) [.agg [.row 7 0 (.lst false 137 ua), .map 4], .rb true]]) := by kernel_rfl
theorem look22ss11 (tc ta tb to ts te td tf tr tl tg pda ala pdb alb : Int) (tx : List Int) (la lb ua ub ha hb : List T) (mx mp my mq : List (T × T)) (g2 g3 g4 g5 : T) (xa xb : Bool): topK (Cd [] [146, 18, 147, 148]) 30 104 [] [.p ((trT tc ta tb to ts te td tf tr tl tg tx)), .p (.lst xa 137 la), .p (.lst xb 137 lb)] [] [] [([.agg [.row 7 0 (.lst false 137 ua), .map 4], .rb true], (qD39 tc ta tb to ts te td tf tr tl tg tx ua g2)), ([.agg [.row 13 0 (.lst false 137 ub), .map 10], .rb true], (qD25 tc ta tb to ts te td tf tr tl tg tx ua g2 ub g3)), ([.rb true], (qD10 tc ta tb to ts te td tf tr tl tg tx ua mp g2 ub g3)), ([.rb true], (qD12 tc ta tb to ts te td tf tr tl tg tx ua mp g2 ub mq g3)), ([.p (.agg [.lst true 36 [], .int .i64 pda, .int .i64 ala]), .p (.int .i64 0)], (qD12 tc ta tb to ts te td tf tr tl tg tx ua mp g2 ub mq g3)), ([.p (.agg [.lst true 36 [], .int .i64 pdb, .int .i64 alb]), .p (.int .i64 0)], (qD7 tc ta tb to ts te td tf tr tl tg tx pda ala ua mp g2 ub mq g3))] [[.bool true]] [] = some ([.p (.agg [.lst true 36 [], .int .i64 pda, .int .i64 ala]), .p (.agg [.lst true 36 [], .int .i64 pdb, .int .i64 alb]), .p (.int .i64 0)], [], [GCall Try.prog 148 (qD7 tc ta tb to ts te td tf tr tl tg tx pda ala ua mp g2 ub mq g3) [.agg [.row 13 0 (.lst false 137 ub), .map 10], .agg [.row 7 0 (.lst false 137 ua), .map 4], .p (.int .i64 tb)] (qD7 tc ta tb to ts te td tf tr tl tg tx pda ala ua mp g2 ub mq g3) [.p (.agg [.lst true 36 [], .int .i64 pdb, .int .i64 alb]), .p (.int .i64 0)], GCall Try.prog 148 (qD12 tc ta tb to ts te td tf tr tl tg tx ua mp g2 ub mq g3) [.agg [.row 7 0 (.lst false 137 ua), .map 4], .agg [.row 13 0 (.lst false 137 ub), .map 10], .p (.int .i64 ta)] (qD12 tc ta tb to ts te td tf tr tl tg tx ua mp g2 ub mq g3) [.p (.agg [.lst true 36 [], .int .i64 pda, .int .i64 ala]), .p (.int .i64 0)], GCall Try.prog 147 (qD10 tc ta tb to ts te td tf tr tl tg tx ua mp g2 ub g3) [.ptr 14 0, .p (.lst xb 137 lb), .agg [.row 7 0 (.lst false 137 ua), .map 4]] (qD12 tc ta tb to ts te td tf tr tl tg tx ua mp g2 ub mq g3) [.rb true], GCall Try.prog 147 (qD9 tc ta tb to ts te td tf tr tl tg tx ua g2 ub g3) [.ptr 8 0, .p (.lst xa 137 la), .agg [.row 13 0 (.lst false 137 ub), .map 10]] (qD10 tc ta tb to ts te td tf tr tl tg tx ua mp g2 ub g3) [.rb true], PCall Try.prog 18 [(trT tc ta tb to ts te td tf tr tl tg tx)] [.bool true], GCall Try.prog 146 (qD35 tc ta tb to ts te td tf tr tl tg tx ua g2) [.p (.lst xb 137 lb)] (qD25 tc ta tb to ts te td tf tr tl tg tx ua g2 ub g3) [.agg [.row 13 0 (.lst false 137 ub), .map 10], .rb true], GCall Try.prog 146 (qD42 tc ta tb to ts te td tf tr tl tg tx) [.p (.lst xa 137 la)] (qD39 tc ta tb to ts te td tf tr tl tg tx ua g2) [.agg [.row 7 0 (.lst false 137 ua), .map 4], .rb true]]) := by kernel_rfl
theorem look22ss12 (tc ta tb to ts te td tf tr tl tg pda ala pdb alb : Int) (tx : List Int) (la lb ua ub ha hb : List T) (mx mp my mq : List (T × T)) (g2 g3 g4 g5 : T) (xa xb : Bool): topK (Cd [] [146, 18, 147, 148]) 30 104 [] [.p ((trT tc ta tb to ts te td tf tr tl tg tx)), .p (.lst xa 137 la), .p (.lst xb 137 lb)] [] [] [([.agg [.row 7 0 (.lst false 137 ua), .map 4], .rb true], (qD39 tc ta tb to ts te td tf tr tl tg tx ua g2)), ([.agg [.row 13 0 (.lst false 137 ub), .map 10], .rb true], (qD25 tc ta tb to ts te td tf tr tl tg tx ua g2 ub g3)), ([.rb true], (qD10 tc ta tb to ts te td tf tr tl tg tx ua mp g2 ub g3)), ([.rb true], (qD12 tc ta tb to ts te td tf tr tl tg tx ua mp g2 ub mq g3)), ([.p (.agg [.lst true 36 [], .int .i64 pda, .int .i64 ala]), .p (.int .i64 0)], (qD12 tc ta tb to ts te td tf tr tl tg tx ua mp g2 ub mq g3)), ([.agg [.row 20 0 (.lst false 36 hb), .p (.int .i64 pdb), .p (.int .i64 alb)], .p (.int .i64 0)], (qD2 tc ta tb to ts te td tf tr tl tg tx pda ala ua mp g2 ub mq g3 hb pdb alb g5))] [[.bool true]] [] = some ([.p (.agg [.lst true 36 [], .int .i64 pda, .int .i64 ala]), .agg [.row 20 0 (.lst false 36 hb), .p (.int .i64 pdb), .p (.int .i64 alb)], .p (.int .i64 0)], [.box (.p ((trT tc ta tb to ts te td tf tr tl tg tx))), .box (.p (.agg [.lst true 36 [], .int .i64 pda, .int .i64 ala])), .box (.agg [.row 20 0 (.lst false 36 hb), .p (.int .i64 pdb), .p (.int .i64 alb)]), .box (.agg [.row 7 0 (.lst false 137 ua), .map 4]), .map mp, .box (.agg [.row 7 0 (.lst false 137 ua), .map 4]), .box (.p g2), .row 0 137, .box (.agg [.row 7 0 (.lst false 137 ua), .map 4]), .box (.agg [.row 13 0 (.lst false 137 ub), .map 10]), .map mq, .box (.agg [.row 13 0 (.lst false 137 ub), .map 10]), .box (.p g3), .row 0 137, .box (.agg [.row 13 0 (.lst false 137 ub), .map 10]), .box (.agg [.row 13 0 (.lst false 137 ub), .map 10]), .box (.agg [.row 7 0 (.lst false 137 ua), .map 4]), .box (.agg [.row 20 0 (.lst false 36 hb), .p (.int .i64 pdb), .p (.int .i64 alb)]), .box (.agg [.row 20 0 (.lst false 36 hb), .p (.int .i64 pdb), .p (.int .i64 alb)]), .box (.p g5), .row 0 36], [GCall Try.prog 148 (qD7 tc ta tb to ts te td tf tr tl tg tx pda ala ua mp g2 ub mq g3) [.agg [.row 13 0 (.lst false 137 ub), .map 10], .agg [.row 7 0 (.lst false 137 ua), .map 4], .p (.int .i64 tb)] (qD2 tc ta tb to ts te td tf tr tl tg tx pda ala ua mp g2 ub mq g3 hb pdb alb g5) [.agg [.row 20 0 (.lst false 36 hb), .p (.int .i64 pdb), .p (.int .i64 alb)], .p (.int .i64 0)], GCall Try.prog 148 (qD12 tc ta tb to ts te td tf tr tl tg tx ua mp g2 ub mq g3) [.agg [.row 7 0 (.lst false 137 ua), .map 4], .agg [.row 13 0 (.lst false 137 ub), .map 10], .p (.int .i64 ta)] (qD12 tc ta tb to ts te td tf tr tl tg tx ua mp g2 ub mq g3) [.p (.agg [.lst true 36 [], .int .i64 pda, .int .i64 ala]), .p (.int .i64 0)], GCall Try.prog 147 (qD10 tc ta tb to ts te td tf tr tl tg tx ua mp g2 ub g3) [.ptr 14 0, .p (.lst xb 137 lb), .agg [.row 7 0 (.lst false 137 ua), .map 4]] (qD12 tc ta tb to ts te td tf tr tl tg tx ua mp g2 ub mq g3) [.rb true], GCall Try.prog 147 (qD9 tc ta tb to ts te td tf tr tl tg tx ua g2 ub g3) [.ptr 8 0, .p (.lst xa 137 la), .agg [.row 13 0 (.lst false 137 ub), .map 10]] (qD10 tc ta tb to ts te td tf tr tl tg tx ua mp g2 ub g3) [.rb true], PCall Try.prog 18 [(trT tc ta tb to ts te td tf tr tl tg tx)] [.bool true], GCall Try.prog 146 (qD35 tc ta tb to ts te td tf tr tl tg tx ua g2) [.p (.lst xb 137 lb)] (qD25 tc ta tb to ts te td tf tr tl tg tx ua g2 ub g3) [.agg [.row 13 0 (.lst false 137 ub), .map 10], .rb true], GCall Try.prog 146 (qD42 tc ta tb to ts te td tf tr tl tg tx) [.p (.lst xa 137 la)] (qD39 tc ta tb to ts te td tf tr tl tg tx ua g2) [.agg [.row 7 0 (.lst false 137 ua), .map 4], .rb true]]) := by kernel_rfl
theorem look22ss20 (tc ta tb to ts te td tf tr tl tg pda ala pdb alb : Int) (tx : List Int) (la lb ua ub ha hb : List T) (mx mp my mq : List (T × T)) (g2 g3 g4 g5 : T) (xa xb : Bool): topK (Cd [] [146, 18, 147, 148]) 30 104 [] [.p ((trT tc ta tb to ts te td tf tr tl tg tx)), .p (.lst xa 137 la), .p (.lst xb 137 lb)] [] [] [([.agg [.row 7 0 (.lst false 137 ua), .map 4], .rb true], (qD39 tc ta tb to ts te td tf tr tl tg tx ua g2)), ([.agg [.row 13 0 (.lst false 137 ub), .map 10], .rb true], (qD25 tc ta tb to ts te td tf tr tl tg tx ua g2 ub g3)), ([.rb true], (qD10 tc ta tb to ts te td tf tr tl tg tx ua mp g2 ub g3)), ([.rb true], (qD12 tc ta tb to ts te td tf tr tl tg tx ua mp g2 ub mq g3)), ([.agg [.row 20 0 (.lst false 36 ha), .p (.int .i64 pda), .p (.int .i64 ala)], .p (.int .i64 0)], (qD3 tc ta tb to ts te td tf tr tl tg tx ua mp g2 ub mq g3 ha pda ala g4)), ([.p (.agg [.lst true 36 [], .int .i64 0, .int .i64 0]), .p (.int .i64 20)], (qD1 tc ta tb to ts te td tf tr tl tg tx ha pda ala ua mp g2 ub mq g3 g4))] [[.bool true]] [] = some ([.agg [.row 20 0 (.lst false 36 ha), .p (.int .i64 pda), .p (.int .i64 ala)], .p (.agg [.lst true 36 [], .int .i64 0, .int .i64 0]), .p (.int .i64 20)], (qD1 tc ta tb to ts te td tf tr tl tg tx ha pda ala ua mp g2 ub mq g3 g4), [GCall Try.prog 148 (qD1 tc ta tb to ts te td tf tr tl tg tx ha pda ala ua mp g2 ub mq g3 g4) [.agg [.row 13 0 (.lst false 137 ub), .map 10], .agg [.row 7 0 (.lst false 137 ua), .map 4], .p (.int .i64 tb)] (qD1 tc ta tb to ts te td tf tr tl tg tx ha pda ala ua mp g2 ub mq g3 g4) [.p (.agg [.lst true 36 [], .int .i64 0, .int .i64 0]), .p (.int .i64 20)], GCall Try.prog 148 (qD12 tc ta tb to ts te td tf tr tl tg tx ua mp g2 ub mq g3) [.agg [.row 7 0 (.lst false 137 ua), .map 4], .agg [.row 13 0 (.lst false 137 ub), .map 10], .p (.int .i64 ta)] (qD3 tc ta tb to ts te td tf tr tl tg tx ua mp g2 ub mq g3 ha pda ala g4) [.agg [.row 20 0 (.lst false 36 ha), .p (.int .i64 pda), .p (.int .i64 ala)], .p (.int .i64 0)], GCall Try.prog 147 (qD10 tc ta tb to ts te td tf tr tl tg tx ua mp g2 ub g3) [.ptr 14 0, .p (.lst xb 137 lb), .agg [.row 7 0 (.lst false 137 ua), .map 4]] (qD12 tc ta tb to ts te td tf tr tl tg tx ua mp g2 ub mq g3) [.rb true], GCall Try.prog 147 (qD9 tc ta tb to ts te td tf tr tl tg tx ua g2 ub g3) [.ptr 8 0, .p (.lst xa 137 la), .agg [.row 13 0 (.lst false 137 ub), .map 10]] (qD10 tc ta tb to ts te td tf tr tl tg tx ua mp g2 ub g3) [.rb true], PCall Try.prog 18 [(trT tc ta tb to ts te td tf tr tl tg tx)] [.bool true], GCall Try.prog 146 (qD35 tc ta tb to ts te td tf tr tl tg tx ua g2) [.p (.lst xb 137 lb)] (qD25 tc ta tb to ts te td tf tr tl tg tx ua g2 ub g3) [.agg [.row 13 0 (.lst false 137 ub), .map 10], .rb true], GCall Try.prog 146 (qD42 tc ta tb to ts te td tf tr tl tg tx) [.p (.lst xa 137 la)] (qD39 tc ta tb to ts te td tf tr tl tg tx ua g2) [.agg [.row 7 0 (.lst false 137 ua), .map 4], .rb true]]) := by kernel_rfl
theorem look22ss21 (tc ta tb to ts te td tf tr tl tg pda ala pdb alb : Int) (tx : List Int) (la lb ua ub ha hb : List T) (mx mp my mq : List (T × T)) (g2 g3 g4 g5 : T) (xa xb : Bool): topK (Cd [] [146, 18, 147, 148]) 30 104 [] [.p ((trT tc ta tb to ts te td tf tr tl tg tx)), .p (.lst xa 137 la), .p (.lst xb 137 lb)] [] [] [([.agg [.row 7 0 (.lst false 137 ua), .map 4], .rb true], (qD39 tc ta tb to ts te td tf tr tl tg tx ua g2)), ([.agg [.row 13 0 (.lst false 137 ub), .map 10], .rb true], (qD25 tc ta tb to ts te td tf tr tl tg tx ua g2 ub g3)), ([.rb true], (qD10 tc ta tb to ts te td tf tr tl tg tx ua mp g2 ub g3)), ([.rb true], (qD12 tc ta tb to ts te td tf tr tl tg tx ua mp g2 ub mq g3)), ([.agg [.row 20 0 (.lst false 36 ha), .p (.int .i64 pda), .p (.int .i64 ala)], .p (.int .i64 0)], (qD3 tc ta tb to ts te td tf tr tl tg tx ua mp g2 ub mq g3 ha pda ala g4)), ([.p (.agg [.lst true 36 [], .int .i64 pdb, .int .i64 alb]), .p (.int .i64 0)], (qD1 tc ta tb to ts te td tf tr tl tg tx ha pda ala ua mp g2 ub mq g3 g4))] [[.bool true]] [] = some ([.agg [.row 20 0 (.lst false 36 ha), .p (.int .i64 pda), .p (.int .i64 ala)], .p (.agg [.lst true 36 [], .int .i64 pdb, .int .i64 alb]), .p (.int .i64 0)], [.box (.p ((trT tc ta tb to ts te td tf tr tl tg tx))), .box (.agg [.row 20 0 (.lst false 36 ha), .p (.int .i64 pda), .p (.int .i64 ala)]), .box (.p (.agg [.lst true 36 [], .int .i64 pdb, .int .i64 alb])), .box (.agg [.row 7 0 (.lst false 137 ua), .map 4]), .map mp, .box (.agg [.row 7 0 (.lst false 137 ua), .map 4]), .box (.p g2), .row 0 137, .box (.agg [.row 7 0 (.lst false 137 ua), .map 4]), .box (.agg [.row 13 0 (.lst false 137 ub), .map 10]), .map mq, .box (.agg [.row 13 0 (.lst false 137 ub), .map 10]), .box (.p g3), .row 0 137, .box (.agg [.row 13 0 (.lst false 137 ub), .map 10]), .box (.agg [.row 7 0 (.lst false 137 ua), .map 4]), .box (.agg [.row 13 0 (.lst false 137 ub), .map 10]), .box (.agg [.row 20 0 (.lst false 36 ha), .p (.int .i64 pda), .p (.int .i64 ala)]), .box (.agg [.row 20 0 (.lst false 36 ha), .p (.int .i64 pda), .p (.int .i64 ala)]), .box (.p g4), .row 0 36], [GCall Try.prog 148 (qD1 tc ta tb to ts te td tf tr tl tg tx ha pda ala ua mp g2 ub mq g3 g4) [.agg [.row 13 0 (.lst false 137 ub), .map 10], .agg [.row 7 0 (.lst false 137 ua), .map 4], .p (.int .i64 tb)] (qD1 tc ta tb to ts te td tf tr tl tg tx ha pda ala ua mp g2 ub mq g3 g4) [.p (.agg [.lst true 36 [], .int .i64 pdb, .int .i64 alb]), .p (.int .i64 0)], GCall Try.prog 148 (qD12 tc ta tb to ts te td tf tr tl tg tx ua mp g2 ub mq g3) [.agg [.row 7 0 (.lst false 137 ua), .map 4], .agg [.row 13 0 (.lst false 137 ub), .map 10], .p (.int .i64 ta)] (qD3 tc ta tb to ts te td tf tr tl tg tx ua mp g2 ub mq g3 ha pda ala g4) [.agg [.row 20 0 (.lst false 36 ha), .p (.int .i64 pda), .p (.int .i64 ala)], .p (.int .i64 0)], GCall Try.prog 147 (qD10 tc ta tb to ts te td tf tr tl tg tx ua mp g2 ub g3) [.ptr 14 0, .p (.lst xb 137 lb), .agg [.row 7 0 (.lst false 137 ua), .map 4]] (qD12 tc ta tb to ts te td tf tr tl tg tx ua mp g2 ub mq g3) [.rb true], GCall Try.prog 147 (qD9 tc ta tb to ts te td tf tr tl tg tx ua g2 ub g3) [.ptr 8 0, .p (.lst xa 137 la), .agg [.row 13 0 (.lst false 137 ub), .map 10]] (qD10 tc ta tb to ts te td tf tr tl tg tx ua mp g2 ub g3) [.rb true], PCall Try.prog 18 [(trT tc ta tb to ts te td tf tr tl tg tx)] [.bool true], GCall Try.prog 146 (qD35 tc ta tb to ts te td tf tr tl tg tx ua g2) [.p (.lst xb 137 lb)] (qD25 tc ta tb to ts te td tf tr tl tg tx ua g2 ub g3) [.agg [.row 13 0 (.lst false 137 ub), .map 10], .rb true], GCall Try.prog 146 (qD42 tc ta tb to ts te td tf tr tl tg tx) [.p (.lst xa 137 la)] (qD39 tc ta tb to ts te td tf tr tl tg tx ua g2) [.agg [.row 7 0 (.lst false 137 ua), .map 4], .rb true]]) := by kernel_rfl
theorem look22ss22 (tc ta tb to ts te td tf tr tl tg pda ala pdb alb : Int) (tx : List Int) (la lb ua ub ha hb : List T) (mx mp my mq : List (T × T)) (g2 g3 g4 g5 : T) (xa xb : Bool): topK (Cd [] [146, 18, 147, 148]) 30 104 [] [.p ((trT tc ta tb to ts te td tf tr tl tg tx)), .p (.lst xa 137 la), .p (.lst xb 137 lb)] [] [] [([.agg [.row 7 0 (.lst false 137 ua), .map 4], .rb true], (qD39 tc ta tb to ts te td tf tr tl tg tx ua g2)), ([.agg [.row 13 0 (.lst false 137 ub), .map 10], .rb true], (qD25 tc ta tb to ts te td tf tr tl tg tx ua g2 ub g3)), ([.rb true], (qD10 tc ta tb to ts te td tf tr tl tg tx ua mp g2 ub g3)), ([.rb true], (qD12 tc ta tb to ts te td tf tr tl tg tx ua mp g2 ub mq g3)), ([.agg [.row 20 0 (.lst false 36 ha), .p (.int .i64 pda), .p (.int .i64 ala)], .p (.int .i64 0)], (qD3 tc ta tb to ts te td tf tr tl tg tx ua mp g2 ub mq g3 ha pda ala g4)), ([.agg [.row 26 0 (.lst false 36 hb), .p (.int .i64 pdb), .p (.int .i64 alb)], .p (.int .i64 0)], (qD0 tc ta tb to ts te td tf tr tl tg tx ha pda ala ua mp g2 ub mq g3 g4 hb pdb alb g5))] [[.bool true]] [] = some ([.agg [.row 20 0 (.lst false 36 ha), .p (.int .i64 pda), .p (.int .i64 ala)], .agg [.row 26 0 (.lst false 36 hb), .p (.int .i64 pdb), .p (.int .i64 alb)], .p (.int .i64 0)], [.box (.p ((trT tc ta tb to ts te td tf tr tl tg tx))), .box (.agg [.row 20 0 (.lst false 36 ha), .p (.int .i64 pda), .p (.int .i64 ala)]), .box (.agg [.row 26 0 (.lst false 36 hb), .p (.int .i64 pdb), .p (.int .i64 alb)]), .box (.agg [.row 7 0 (.lst false 137 ua), .map 4]), .map mp, .box (.agg [.row 7 0 (.lst false 137 ua), .map 4]), .box (.p g2), .row 0 137, .box (.agg [.row 7 0 (.lst false 137 ua), .map 4]), .box (.agg [.row 13 0 (.lst false 137 ub), .map 10]), .map mq, .box (.agg [.row 13 0 (.lst false 137 ub), .map 10]), .box (.p g3), .row 0 137, .box (.agg [.row 13 0 (.lst false 137 ub), .map 10]), .box (.agg [.row 7 0 (.lst false 137 ua), .map 4]), .box (.agg [.row 13 0 (.lst false 137 ub), .map 10]), .box (.agg [.row 20 0 (.lst false 36 ha), .p (.int .i64 pda), .p (.int .i64 ala)]), .box (.agg [.row 20 0 (.lst false 36 ha), .p (.int .i64 pda), .p (.int .i64 ala)]), .box (.p g4), .row 0 36, .box (.agg [.row 13 0 (.lst false 137 ub), .map 10]), .box (.agg [.row 7 0 (.lst false 137 ua), .map 4]), .box (.agg [.row 26 0 (.lst false 36 hb), .p (.int .i64 pdb), .p (.int .i64 alb)]), .box (.agg [.row 26 0 (.lst false 36 hb), .p (.int .i64 pdb), .p (.int .i64 alb)]), .box (.p g5), .row 0 36], [GCall Try.prog 148 (qD1 tc ta tb to ts te td tf tr tl tg tx ha pda ala ua mp g2 ub mq g3 g4) [.agg [.row 13 0 (.lst false 137 ub), .map 10], .agg [.row 7 0 (.lst false 137 ua), .map 4], .p (.int .i64 tb)] (qD0 tc ta tb to ts te td tf tr tl tg tx ha pda ala ua mp g2 ub mq g3 g4 hb pdb alb g5) [.agg [.row 26 0 (.lst false 36 hb), .p (.int .i64 pdb), .p (.int .i64 alb)], .p (.int .i64 0)], GCall Try.prog 148 (qD12 tc ta tb to ts te td tf tr tl tg tx ua mp g2 ub mq g3) [.agg [.row 7 0 (.lst false 137 ua), .map 4], .agg [.row 13 0 (.lst false 137 ub), .map 10], .p (.int .i64 ta)] (qD3 tc ta tb to ts te td tf tr tl tg tx ua mp g2 ub mq g3 ha pda ala g4) [.agg [.row 20 0 (.lst false 36 ha), .p (.int .i64 pda), .p (.int .i64 ala)], .p (.int .i64 0)], GCall Try.prog 147 (qD10 tc ta tb to ts te td tf tr tl tg tx ua mp g2 ub g3) [.ptr 14 0, .p (.lst xb 137 lb), .agg [.row 7 0 (.lst false 137 ua), .map 4]] (qD12 tc ta tb to ts te td tf tr tl tg tx ua mp g2 ub mq g3) [.rb true], GCall Try.prog 147 (qD9 tc ta tb to ts te td tf tr tl tg tx ua g2 ub g3) [.ptr 8 0, .p (.lst xa 137 la), .agg [.row 13 0 (.lst false 137 ub), .map 10]] (qD10 tc ta tb to ts te td tf tr tl tg tx ua mp g2 ub g3) [.rb true], PCall Try.prog 18 [(trT tc ta tb to ts te td tf tr tl tg tx)] [.bool true], GCall Try.prog 146 (qD35 tc ta tb to ts te td tf tr tl tg tx ua g2) [.p (.lst xb 137 lb)] (qD25 tc ta tb to ts te td tf tr tl tg tx ua g2 ub g3) [.agg [.row 13 0 (.lst false 137 ub), .map 10], .rb true], GCall Try.prog 146 (qD42 tc ta tb to ts te td tf tr tl tg tx) [.p (.lst xa 137 la)] (qD39 tc ta tb to ts te td tf tr tl tg tx ua g2) [.agg [.row 7 0 (.lst false 137 ua), .map 4], .rb true]]) := by kernel_rfl
end Go.HM.Up

set_option maxRecDepth 100000
namespace Go.HM.Up
open Go.Proofs

def zS : T := .agg [.lst true 36 [], .int .i64 0, .int .i64 0]
def sdT (wh : Int) (hs : List Msg) (pd al : Int) : T := match hs with
  | [] => .agg [.lst true 36 [], .int .i64 pd, .int .i64 al]
  | g :: r => .agg [.lst false 36 ((g :: r).map (hT wh)), .int .i64 pd, .int .i64 al]
def errT (e : Int) : List T := [zS, zS, .int .i64 e]
/-- What look gives: both sides, and why not. -/
def lookR (m : Bool) (ta tb : Int) (a b : List Msg) : List T := match m, rd a [], rd b [] with
  | true, some p, some q => match stl ((q.map Msg.t).length : Int) a [] with
    | none => errT 4
    | some mp => match stl ((p.map Msg.t).length : Int) b [] with
      | none => errT 4
      | some mq => match ofG mq ta p [] 0 0 with
        | none => errT 20
        | some (hs, pd, al) => match ofG mp tb q [] 0 0 with
          | none => [sdT ta hs pd al, zS, .int .i64 20]
          | some (h2, pd2, al2) => [sdT ta hs pd al, sdT tb h2 pd2 al2, .int .i64 0]
  | _, _, _ => errT 1

theorem rd_le : ∀ (r acc : List Msg), ∀ vs, rd r acc = some vs → vs.length ≤ acc.length + r.length
  | [], acc, vs, h => by simp only [rd, Option.some.injEq] at h; rw [← h]; simp
  | m :: r, acc, vs, h => by
    simp only [rd] at h
    cases h1 : m.kd == 1 with
    | true =>
      rw [h1] at h
      cases hb : badM m acc.length with
      | true => simp only [hb, cond_true] at h; cases h
      | false =>
        simp only [hb, cond_true, cond_false] at h
        have := rd_le r _ vs h
        simp at this ⊢
        omega
    | false =>
      rw [h1] at h
      cases hk : (m.kd == 2 || m.kd == 3) with
      | true => simp only [hk, cond_true, cond_false] at h; have := rd_le r acc vs h; simp; omega
      | false => simp only [hk, cond_false] at h; cases h
theorem rd_len (l : List Msg) (hl : l.length * 232 ≤ 140737488355328) {vs : List Msg} (h : rd l [] = some vs) : vs.length * 232 ≤ 140737488355328 := by
  have := rd_le l [] vs h
  simp at this
  omega
theorem look_ok (tc ta tb to ts te td tf tr tl tg : Int) (tx : List Int) (a b : List Msg) (xa xb m : Bool) (ha : a.length * 232 ≤ 140737488355328) (hb : b.length * 232 ≤ 140737488355328)
    (hm : PCall Try.prog 18 [trT tc ta tb to ts te td tf tr tl tg tx] [.bool m]) :
    PCall Try.prog 104 [trT tc ta tb to ts te td tf tr tl tg tx, .lst xa 137 (a.map Msg.t), .lst xb 137 (b.map Msg.t)] (lookR m ta tb a b) := by
  have r1 := read_ok a xa ha
  have r2 := read_ok b xb hb
  unfold lookR
  cases ea : rd a [] with
  | none =>
    rw [ea] at r1
    cases eb : rd b [] with
    | none =>
      rw [eb] at r2
      cases m with
      | false =>
        exact (topK_sound (Cd_ok _ _) (look00F tc ta tb to ts te td tf tr tl tg 0 0 0 0 tx (a.map Msg.t) (b.map Msg.t) [] [] [] [] [] [] [] [] .nilP .nilP .nilP .nilP xa xb) ⟨hm, GCall.at r2 [] (by kernel_rfl) (by kernel_rfl) (by kernel_rfl) (by kernel_rfl) (by kernel_rfl), GCall.at r1 [] (by kernel_rfl) (by kernel_rfl) (by kernel_rfl) (by kernel_rfl) (by kernel_rfl), trivial⟩).pure (k := 64) rfl
      | true =>
        exact (topK_sound (Cd_ok _ _) (look00T tc ta tb to ts te td tf tr tl tg 0 0 0 0 tx (a.map Msg.t) (b.map Msg.t) [] [] [] [] [] [] [] [] .nilP .nilP .nilP .nilP xa xb) ⟨hm, GCall.at r2 [] (by kernel_rfl) (by kernel_rfl) (by kernel_rfl) (by kernel_rfl) (by kernel_rfl), GCall.at r1 [] (by kernel_rfl) (by kernel_rfl) (by kernel_rfl) (by kernel_rfl) (by kernel_rfl), trivial⟩).pure (k := 64) rfl
    | some q =>
      rw [eb] at r2
      cases q with
      | nil =>
        cases m with
        | false =>
          exact (topK_sound (Cd_ok _ _) (look01F tc ta tb to ts te td tf tr tl tg 0 0 0 0 tx (a.map Msg.t) (b.map Msg.t) [] [] [] [] [] [] [] [] .nilP .nilP .nilP .nilP xa xb) ⟨hm, GCall.at r2 [] (by kernel_rfl) (by kernel_rfl) (by kernel_rfl) (by kernel_rfl) (by kernel_rfl), GCall.at r1 [] (by kernel_rfl) (by kernel_rfl) (by kernel_rfl) (by kernel_rfl) (by kernel_rfl), trivial⟩).pure (k := 64) rfl
        | true =>
          exact (topK_sound (Cd_ok _ _) (look01T tc ta tb to ts te td tf tr tl tg 0 0 0 0 tx (a.map Msg.t) (b.map Msg.t) [] [] [] [] [] [] [] [] .nilP .nilP .nilP .nilP xa xb) ⟨hm, GCall.at r2 [] (by kernel_rfl) (by kernel_rfl) (by kernel_rfl) (by kernel_rfl) (by kernel_rfl), GCall.at r1 [] (by kernel_rfl) (by kernel_rfl) (by kernel_rfl) (by kernel_rfl) (by kernel_rfl), trivial⟩).pure (k := 64) rfl
      | cons g3 ub =>
        cases m with
        | false =>
          exact (topK_sound (Cd_ok _ _) (look02F tc ta tb to ts te td tf tr tl tg 0 0 0 0 tx (a.map Msg.t) (b.map Msg.t) [] ((g3 :: ub).map Msg.t) [] [] [] [] [] [] .nilP g3.t .nilP .nilP xa xb) ⟨hm, GCall.at r2 [] (by kernel_rfl) (by kernel_rfl) (by kernel_rfl) (by kernel_rfl) (by kernel_rfl), GCall.at r1 [] (by kernel_rfl) (by kernel_rfl) (by kernel_rfl) (by kernel_rfl) (by kernel_rfl), trivial⟩).pure (k := 64) rfl
        | true =>
          exact (topK_sound (Cd_ok _ _) (look02T tc ta tb to ts te td tf tr tl tg 0 0 0 0 tx (a.map Msg.t) (b.map Msg.t) [] ((g3 :: ub).map Msg.t) [] [] [] [] [] [] .nilP g3.t .nilP .nilP xa xb) ⟨hm, GCall.at r2 [] (by kernel_rfl) (by kernel_rfl) (by kernel_rfl) (by kernel_rfl) (by kernel_rfl), GCall.at r1 [] (by kernel_rfl) (by kernel_rfl) (by kernel_rfl) (by kernel_rfl) (by kernel_rfl), trivial⟩).pure (k := 64) rfl
  | some p =>
    rw [ea] at r1
    cases p with
    | nil =>
      cases eb : rd b [] with
      | none =>
        rw [eb] at r2
        cases m with
        | false =>
          exact (topK_sound (Cd_ok _ _) (look10F tc ta tb to ts te td tf tr tl tg 0 0 0 0 tx (a.map Msg.t) (b.map Msg.t) [] [] [] [] [] [] [] [] .nilP .nilP .nilP .nilP xa xb) ⟨hm, GCall.at r2 [] (by kernel_rfl) (by kernel_rfl) (by kernel_rfl) (by kernel_rfl) (by kernel_rfl), GCall.at r1 [] (by kernel_rfl) (by kernel_rfl) (by kernel_rfl) (by kernel_rfl) (by kernel_rfl), trivial⟩).pure (k := 64) rfl
        | true =>
          exact (topK_sound (Cd_ok _ _) (look10T tc ta tb to ts te td tf tr tl tg 0 0 0 0 tx (a.map Msg.t) (b.map Msg.t) [] [] [] [] [] [] [] [] .nilP .nilP .nilP .nilP xa xb) ⟨hm, GCall.at r2 [] (by kernel_rfl) (by kernel_rfl) (by kernel_rfl) (by kernel_rfl) (by kernel_rfl), GCall.at r1 [] (by kernel_rfl) (by kernel_rfl) (by kernel_rfl) (by kernel_rfl) (by kernel_rfl), trivial⟩).pure (k := 64) rfl
      | some q =>
        rw [eb] at r2
        cases q with
        | nil =>
          cases m with
          | false =>
            exact (topK_sound (Cd_ok _ _) (look11F tc ta tb to ts te td tf tr tl tg 0 0 0 0 tx (a.map Msg.t) (b.map Msg.t) [] [] [] [] [] [] [] [] .nilP .nilP .nilP .nilP xa xb) ⟨hm, GCall.at r2 [] (by kernel_rfl) (by kernel_rfl) (by kernel_rfl) (by kernel_rfl) (by kernel_rfl), GCall.at r1 [] (by kernel_rfl) (by kernel_rfl) (by kernel_rfl) (by kernel_rfl) (by kernel_rfl), trivial⟩).pure (k := 64) rfl
          | true =>
            have s1 := settleNN a [] [] [] [] xa ha
            simp only
            cases e1 : stl (((([] : List Msg).map Msg.t).length : Nat) : Int) a [] with
            | none =>
              rw [show stl 0 a [] = none from e1] at s1
              obtain ⟨mt, s1⟩ := s1
              exact (topK_sound (Cd_ok _ _) (look11n tc ta tb to ts te td tf tr tl tg 0 0 0 0 tx (a.map Msg.t) (b.map Msg.t) [] [] [] [] (mt.map eP) [] [] [] .nilP .nilP .nilP .nilP xa xb) ⟨GCall.at s1 [6, 4, 8] (by kernel_rfl) (by kernel_rfl) (by kernel_rfl) (by kernel_rfl) (by kernel_rfl), hm, GCall.at r2 [] (by kernel_rfl) (by kernel_rfl) (by kernel_rfl) (by kernel_rfl) (by kernel_rfl), GCall.at r1 [] (by kernel_rfl) (by kernel_rfl) (by kernel_rfl) (by kernel_rfl) (by kernel_rfl), trivial⟩).pure (k := 64) rfl
            | some mp =>
              rw [show stl 0 a [] = some mp from e1] at s1
              have s2 := settleNN b [] [] [] (mp.map eP) xb hb
              simp only
              cases e2 : stl (((([] : List Msg).map Msg.t).length : Nat) : Int) b [] with
              | none =>
                rw [show stl 0 b [] = none from e2] at s2
                obtain ⟨mt, s2⟩ := s2
                exact (topK_sound (Cd_ok _ _) (look11sn tc ta tb to ts te td tf tr tl tg 0 0 0 0 tx (a.map Msg.t) (b.map Msg.t) [] [] [] [] [] (mp.map eP) (mt.map eP) [] .nilP .nilP .nilP .nilP xa xb) ⟨GCall.at s2 [10, 8, 4] (by kernel_rfl) (by kernel_rfl) (by kernel_rfl) (by kernel_rfl) (by kernel_rfl), GCall.at s1 [6, 4, 8] (by kernel_rfl) (by kernel_rfl) (by kernel_rfl) (by kernel_rfl) (by kernel_rfl), hm, GCall.at r2 [] (by kernel_rfl) (by kernel_rfl) (by kernel_rfl) (by kernel_rfl) (by kernel_rfl), GCall.at r1 [] (by kernel_rfl) (by kernel_rfl) (by kernel_rfl) (by kernel_rfl) (by kernel_rfl), trivial⟩).pure (k := 64) rfl
              | some mq =>
                rw [show stl 0 b [] = some mq from e2] at s2
                have o1 := ofNN [] (mp.map eP) (mq.map eP) ta
                have o2 := ofNN [] (mq.map eP) (mp.map eP) tb
                exact (topK_sound (Cd_ok _ _) (look11ss11 tc ta tb to ts te td tf tr tl tg 0 0 0 0 tx (a.map Msg.t) (b.map Msg.t) [] [] [] [] [] (mp.map eP) [] (mq.map eP) .nilP .nilP .nilP .nilP xa xb) ⟨GCall.at o2 [8, 4] (by kernel_rfl) (by kernel_rfl) (by kernel_rfl) (by kernel_rfl) (by kernel_rfl), GCall.at o1 [4, 8] (by kernel_rfl) (by kernel_rfl) (by kernel_rfl) (by kernel_rfl) (by kernel_rfl), GCall.at s2 [10, 8, 4] (by kernel_rfl) (by kernel_rfl) (by kernel_rfl) (by kernel_rfl) (by kernel_rfl), GCall.at s1 [6, 4, 8] (by kernel_rfl) (by kernel_rfl) (by kernel_rfl) (by kernel_rfl) (by kernel_rfl), hm, GCall.at r2 [] (by kernel_rfl) (by kernel_rfl) (by kernel_rfl) (by kernel_rfl) (by kernel_rfl), GCall.at r1 [] (by kernel_rfl) (by kernel_rfl) (by kernel_rfl) (by kernel_rfl) (by kernel_rfl), trivial⟩).pure (k := 64) rfl
        | cons g3 ub =>
          cases m with
          | false =>
            exact (topK_sound (Cd_ok _ _) (look12F tc ta tb to ts te td tf tr tl tg 0 0 0 0 tx (a.map Msg.t) (b.map Msg.t) [] ((g3 :: ub).map Msg.t) [] [] [] [] [] [] .nilP g3.t .nilP .nilP xa xb) ⟨hm, GCall.at r2 [] (by kernel_rfl) (by kernel_rfl) (by kernel_rfl) (by kernel_rfl) (by kernel_rfl), GCall.at r1 [] (by kernel_rfl) (by kernel_rfl) (by kernel_rfl) (by kernel_rfl) (by kernel_rfl), trivial⟩).pure (k := 64) rfl
          | true =>
            have s1 := settleNR a [] ((g3 :: ub).map Msg.t) [] [] xa ha
            simp only
            cases e1 : stl ((((g3 :: ub).map Msg.t).length : Nat) : Int) a [] with
            | none =>
              rw [show stl ((((g3 :: ub).map Msg.t).length : Nat) : Int) a [] = none from e1] at s1
              obtain ⟨mt, s1⟩ := s1
              exact (topK_sound (Cd_ok _ _) (look12n tc ta tb to ts te td tf tr tl tg 0 0 0 0 tx (a.map Msg.t) (b.map Msg.t) [] ((g3 :: ub).map Msg.t) [] [] (mt.map eP) [] [] [] .nilP g3.t .nilP .nilP xa xb) ⟨GCall.at s1 [6, 4, 8, 11] (by kernel_rfl) (by kernel_rfl) (by kernel_rfl) (by kernel_rfl) (by kernel_rfl), hm, GCall.at r2 [] (by kernel_rfl) (by kernel_rfl) (by kernel_rfl) (by kernel_rfl) (by kernel_rfl), GCall.at r1 [] (by kernel_rfl) (by kernel_rfl) (by kernel_rfl) (by kernel_rfl) (by kernel_rfl), trivial⟩).pure (k := 64) rfl
            | some mp =>
              rw [show stl ((((g3 :: ub).map Msg.t).length : Nat) : Int) a [] = some mp from e1] at s1
              have s2 := settleRN b ((g3 :: ub).map Msg.t) [] [] (mp.map eP) xb hb
              simp only
              cases e2 : stl (((([] : List Msg).map Msg.t).length : Nat) : Int) b [] with
              | none =>
                rw [show stl 0 b [] = none from e2] at s2
                obtain ⟨mt, s2⟩ := s2
                exact (topK_sound (Cd_ok _ _) (look12sn tc ta tb to ts te td tf tr tl tg 0 0 0 0 tx (a.map Msg.t) (b.map Msg.t) [] ((g3 :: ub).map Msg.t) [] [] [] (mp.map eP) (mt.map eP) [] .nilP g3.t .nilP .nilP xa xb) ⟨GCall.at s2 [12, 8, 4, 11] (by kernel_rfl) (by kernel_rfl) (by kernel_rfl) (by kernel_rfl) (by kernel_rfl), GCall.at s1 [6, 4, 8, 11] (by kernel_rfl) (by kernel_rfl) (by kernel_rfl) (by kernel_rfl) (by kernel_rfl), hm, GCall.at r2 [] (by kernel_rfl) (by kernel_rfl) (by kernel_rfl) (by kernel_rfl) (by kernel_rfl), GCall.at r1 [] (by kernel_rfl) (by kernel_rfl) (by kernel_rfl) (by kernel_rfl) (by kernel_rfl), trivial⟩).pure (k := 64) rfl
              | some mq =>
                rw [show stl 0 b [] = some mq from e2] at s2
                have o1 := ofNR ((g3 :: ub).map Msg.t) (mp.map eP) (mq.map eP) ta
                have o2 := ofRN (g3 :: ub) [] (mq.map eP) mp tb (rd_len b hb eb)
                simp only
                cases e4 : ofG mp tb (g3 :: ub) [] 0 0 with
                | none =>
                  rw [e4] at o2
                  exact (topK_sound (Cd_ok _ _) (look12ss10 tc ta tb to ts te td tf tr tl tg 0 0 0 0 tx (a.map Msg.t) (b.map Msg.t) [] ((g3 :: ub).map Msg.t) [] [] [] (mp.map eP) [] (mq.map eP) .nilP g3.t .nilP .nilP xa xb) ⟨GCall.at o2 [8, 4, 11] (by kernel_rfl) (by kernel_rfl) (by kernel_rfl) (by kernel_rfl) (by kernel_rfl), GCall.at o1 [4, 8, 11] (by kernel_rfl) (by kernel_rfl) (by kernel_rfl) (by kernel_rfl) (by kernel_rfl), GCall.at s2 [12, 8, 4, 11] (by kernel_rfl) (by kernel_rfl) (by kernel_rfl) (by kernel_rfl) (by kernel_rfl), GCall.at s1 [6, 4, 8, 11] (by kernel_rfl) (by kernel_rfl) (by kernel_rfl) (by kernel_rfl) (by kernel_rfl), hm, GCall.at r2 [] (by kernel_rfl) (by kernel_rfl) (by kernel_rfl) (by kernel_rfl) (by kernel_rfl), GCall.at r1 [] (by kernel_rfl) (by kernel_rfl) (by kernel_rfl) (by kernel_rfl) (by kernel_rfl), trivial⟩).pure (k := 64) rfl
                | some w =>
                  obtain ⟨h2, pd2, al2⟩ := w
                  rw [e4] at o2
                  cases h2 with
                  | nil =>
                    exact (topK_sound (Cd_ok _ _) (look12ss11 tc ta tb to ts te td tf tr tl tg 0 0 pd2 al2 tx (a.map Msg.t) (b.map Msg.t) [] ((g3 :: ub).map Msg.t) [] [] [] (mp.map eP) [] (mq.map eP) .nilP g3.t .nilP .nilP xa xb) ⟨GCall.at o2 [8, 4, 11] (by kernel_rfl) (by kernel_rfl) (by kernel_rfl) (by kernel_rfl) (by kernel_rfl), GCall.at o1 [4, 8, 11] (by kernel_rfl) (by kernel_rfl) (by kernel_rfl) (by kernel_rfl) (by kernel_rfl), GCall.at s2 [12, 8, 4, 11] (by kernel_rfl) (by kernel_rfl) (by kernel_rfl) (by kernel_rfl) (by kernel_rfl), GCall.at s1 [6, 4, 8, 11] (by kernel_rfl) (by kernel_rfl) (by kernel_rfl) (by kernel_rfl) (by kernel_rfl), hm, GCall.at r2 [] (by kernel_rfl) (by kernel_rfl) (by kernel_rfl) (by kernel_rfl) (by kernel_rfl), GCall.at r1 [] (by kernel_rfl) (by kernel_rfl) (by kernel_rfl) (by kernel_rfl) (by kernel_rfl), trivial⟩).pure (k := 64) rfl
                  | cons g5 hb =>
                    exact (topK_sound (Cd_ok _ _) (look12ss12 tc ta tb to ts te td tf tr tl tg 0 0 pd2 al2 tx (a.map Msg.t) (b.map Msg.t) [] ((g3 :: ub).map Msg.t) [] ((g5 :: hb).map (hT tb)) [] (mp.map eP) [] (mq.map eP) .nilP g3.t .nilP g5.t xa xb) ⟨GCall.at o2 [8, 4, 11] (by kernel_rfl) (by kernel_rfl) (by kernel_rfl) (by kernel_rfl) (by kernel_rfl), GCall.at o1 [4, 8, 11] (by kernel_rfl) (by kernel_rfl) (by kernel_rfl) (by kernel_rfl) (by kernel_rfl), GCall.at s2 [12, 8, 4, 11] (by kernel_rfl) (by kernel_rfl) (by kernel_rfl) (by kernel_rfl) (by kernel_rfl), GCall.at s1 [6, 4, 8, 11] (by kernel_rfl) (by kernel_rfl) (by kernel_rfl) (by kernel_rfl) (by kernel_rfl), hm, GCall.at r2 [] (by kernel_rfl) (by kernel_rfl) (by kernel_rfl) (by kernel_rfl) (by kernel_rfl), GCall.at r1 [] (by kernel_rfl) (by kernel_rfl) (by kernel_rfl) (by kernel_rfl) (by kernel_rfl), trivial⟩).pure (k := 64) rfl
    | cons g2 ua =>
      cases eb : rd b [] with
      | none =>
        rw [eb] at r2
        cases m with
        | false =>
          exact (topK_sound (Cd_ok _ _) (look20F tc ta tb to ts te td tf tr tl tg 0 0 0 0 tx (a.map Msg.t) (b.map Msg.t) ((g2 :: ua).map Msg.t) [] [] [] [] [] [] [] g2.t .nilP .nilP .nilP xa xb) ⟨hm, GCall.at r2 [] (by kernel_rfl) (by kernel_rfl) (by kernel_rfl) (by kernel_rfl) (by kernel_rfl), GCall.at r1 [] (by kernel_rfl) (by kernel_rfl) (by kernel_rfl) (by kernel_rfl) (by kernel_rfl), trivial⟩).pure (k := 64) rfl
        | true =>
          exact (topK_sound (Cd_ok _ _) (look20T tc ta tb to ts te td tf tr tl tg 0 0 0 0 tx (a.map Msg.t) (b.map Msg.t) ((g2 :: ua).map Msg.t) [] [] [] [] [] [] [] g2.t .nilP .nilP .nilP xa xb) ⟨hm, GCall.at r2 [] (by kernel_rfl) (by kernel_rfl) (by kernel_rfl) (by kernel_rfl) (by kernel_rfl), GCall.at r1 [] (by kernel_rfl) (by kernel_rfl) (by kernel_rfl) (by kernel_rfl) (by kernel_rfl), trivial⟩).pure (k := 64) rfl
      | some q =>
        rw [eb] at r2
        cases q with
        | nil =>
          cases m with
          | false =>
            exact (topK_sound (Cd_ok _ _) (look21F tc ta tb to ts te td tf tr tl tg 0 0 0 0 tx (a.map Msg.t) (b.map Msg.t) ((g2 :: ua).map Msg.t) [] [] [] [] [] [] [] g2.t .nilP .nilP .nilP xa xb) ⟨hm, GCall.at r2 [] (by kernel_rfl) (by kernel_rfl) (by kernel_rfl) (by kernel_rfl) (by kernel_rfl), GCall.at r1 [] (by kernel_rfl) (by kernel_rfl) (by kernel_rfl) (by kernel_rfl) (by kernel_rfl), trivial⟩).pure (k := 64) rfl
          | true =>
            have s1 := settleRN a ((g2 :: ua).map Msg.t) [] [] [] xa ha
            simp only
            cases e1 : stl (((([] : List Msg).map Msg.t).length : Nat) : Int) a [] with
            | none =>
              rw [show stl 0 a [] = none from e1] at s1
              obtain ⟨mt, s1⟩ := s1
              exact (topK_sound (Cd_ok _ _) (look21n tc ta tb to ts te td tf tr tl tg 0 0 0 0 tx (a.map Msg.t) (b.map Msg.t) ((g2 :: ua).map Msg.t) [] [] [] (mt.map eP) [] [] [] g2.t .nilP .nilP .nilP xa xb) ⟨GCall.at s1 [8, 4, 10, 7] (by kernel_rfl) (by kernel_rfl) (by kernel_rfl) (by kernel_rfl) (by kernel_rfl), hm, GCall.at r2 [] (by kernel_rfl) (by kernel_rfl) (by kernel_rfl) (by kernel_rfl) (by kernel_rfl), GCall.at r1 [] (by kernel_rfl) (by kernel_rfl) (by kernel_rfl) (by kernel_rfl) (by kernel_rfl), trivial⟩).pure (k := 64) rfl
            | some mp =>
              rw [show stl 0 a [] = some mp from e1] at s1
              have s2 := settleNR b [] ((g2 :: ua).map Msg.t) [] (mp.map eP) xb hb
              simp only
              cases e2 : stl ((((g2 :: ua).map Msg.t).length : Nat) : Int) b [] with
              | none =>
                rw [show stl ((((g2 :: ua).map Msg.t).length : Nat) : Int) b [] = none from e2] at s2
                obtain ⟨mt, s2⟩ := s2
                exact (topK_sound (Cd_ok _ _) (look21sn tc ta tb to ts te td tf tr tl tg 0 0 0 0 tx (a.map Msg.t) (b.map Msg.t) ((g2 :: ua).map Msg.t) [] [] [] [] (mp.map eP) (mt.map eP) [] g2.t .nilP .nilP .nilP xa xb) ⟨GCall.at s2 [12, 10, 4, 7] (by kernel_rfl) (by kernel_rfl) (by kernel_rfl) (by kernel_rfl) (by kernel_rfl), GCall.at s1 [8, 4, 10, 7] (by kernel_rfl) (by kernel_rfl) (by kernel_rfl) (by kernel_rfl) (by kernel_rfl), hm, GCall.at r2 [] (by kernel_rfl) (by kernel_rfl) (by kernel_rfl) (by kernel_rfl) (by kernel_rfl), GCall.at r1 [] (by kernel_rfl) (by kernel_rfl) (by kernel_rfl) (by kernel_rfl) (by kernel_rfl), trivial⟩).pure (k := 64) rfl
              | some mq =>
                rw [show stl ((((g2 :: ua).map Msg.t).length : Nat) : Int) b [] = some mq from e2] at s2
                have o1 := ofRN (g2 :: ua) [] (mp.map eP) mq ta (rd_len a ha ea)
                simp only
                cases e3 : ofG mq ta (g2 :: ua) [] 0 0 with
                | none =>
                  rw [e3] at o1
                  exact (topK_sound (Cd_ok _ _) (look21ss0 tc ta tb to ts te td tf tr tl tg 0 0 0 0 tx (a.map Msg.t) (b.map Msg.t) ((g2 :: ua).map Msg.t) [] [] [] [] (mp.map eP) [] (mq.map eP) g2.t .nilP .nilP .nilP xa xb) ⟨GCall.at o1 [4, 10, 7] (by kernel_rfl) (by kernel_rfl) (by kernel_rfl) (by kernel_rfl) (by kernel_rfl), GCall.at s2 [12, 10, 4, 7] (by kernel_rfl) (by kernel_rfl) (by kernel_rfl) (by kernel_rfl) (by kernel_rfl), GCall.at s1 [8, 4, 10, 7] (by kernel_rfl) (by kernel_rfl) (by kernel_rfl) (by kernel_rfl) (by kernel_rfl), hm, GCall.at r2 [] (by kernel_rfl) (by kernel_rfl) (by kernel_rfl) (by kernel_rfl) (by kernel_rfl), GCall.at r1 [] (by kernel_rfl) (by kernel_rfl) (by kernel_rfl) (by kernel_rfl) (by kernel_rfl), trivial⟩).pure (k := 64) rfl
                | some w =>
                  obtain ⟨h1, pd, al⟩ := w
                  rw [e3] at o1
                  cases h1 with
                  | nil =>
                    have o2 := ofNR ((g2 :: ua).map Msg.t) (mq.map eP) (mp.map eP) tb
                    exact (topK_sound (Cd_ok _ _) (look21ss11 tc ta tb to ts te td tf tr tl tg pd al 0 0 tx (a.map Msg.t) (b.map Msg.t) ((g2 :: ua).map Msg.t) [] [] [] [] (mp.map eP) [] (mq.map eP) g2.t .nilP .nilP .nilP xa xb) ⟨GCall.at o2 [10, 4, 7] (by kernel_rfl) (by kernel_rfl) (by kernel_rfl) (by kernel_rfl) (by kernel_rfl), GCall.at o1 [4, 10, 7] (by kernel_rfl) (by kernel_rfl) (by kernel_rfl) (by kernel_rfl) (by kernel_rfl), GCall.at s2 [12, 10, 4, 7] (by kernel_rfl) (by kernel_rfl) (by kernel_rfl) (by kernel_rfl) (by kernel_rfl), GCall.at s1 [8, 4, 10, 7] (by kernel_rfl) (by kernel_rfl) (by kernel_rfl) (by kernel_rfl) (by kernel_rfl), hm, GCall.at r2 [] (by kernel_rfl) (by kernel_rfl) (by kernel_rfl) (by kernel_rfl) (by kernel_rfl), GCall.at r1 [] (by kernel_rfl) (by kernel_rfl) (by kernel_rfl) (by kernel_rfl) (by kernel_rfl), trivial⟩).pure (k := 64) rfl
                  | cons g4 ha =>
                    have o2 := ofNR ((g2 :: ua).map Msg.t) (mq.map eP) (mp.map eP) tb
                    exact (topK_sound (Cd_ok _ _) (look21ss21 tc ta tb to ts te td tf tr tl tg pd al 0 0 tx (a.map Msg.t) (b.map Msg.t) ((g2 :: ua).map Msg.t) [] ((g4 :: ha).map (hT ta)) [] [] (mp.map eP) [] (mq.map eP) g2.t .nilP g4.t .nilP xa xb) ⟨GCall.at o2 [10, 4, 7] (by kernel_rfl) (by kernel_rfl) (by kernel_rfl) (by kernel_rfl) (by kernel_rfl), GCall.at o1 [4, 10, 7] (by kernel_rfl) (by kernel_rfl) (by kernel_rfl) (by kernel_rfl) (by kernel_rfl), GCall.at s2 [12, 10, 4, 7] (by kernel_rfl) (by kernel_rfl) (by kernel_rfl) (by kernel_rfl) (by kernel_rfl), GCall.at s1 [8, 4, 10, 7] (by kernel_rfl) (by kernel_rfl) (by kernel_rfl) (by kernel_rfl) (by kernel_rfl), hm, GCall.at r2 [] (by kernel_rfl) (by kernel_rfl) (by kernel_rfl) (by kernel_rfl) (by kernel_rfl), GCall.at r1 [] (by kernel_rfl) (by kernel_rfl) (by kernel_rfl) (by kernel_rfl) (by kernel_rfl), trivial⟩).pure (k := 64) rfl
        | cons g3 ub =>
          cases m with
          | false =>
            exact (topK_sound (Cd_ok _ _) (look22F tc ta tb to ts te td tf tr tl tg 0 0 0 0 tx (a.map Msg.t) (b.map Msg.t) ((g2 :: ua).map Msg.t) ((g3 :: ub).map Msg.t) [] [] [] [] [] [] g2.t g3.t .nilP .nilP xa xb) ⟨hm, GCall.at r2 [] (by kernel_rfl) (by kernel_rfl) (by kernel_rfl) (by kernel_rfl) (by kernel_rfl), GCall.at r1 [] (by kernel_rfl) (by kernel_rfl) (by kernel_rfl) (by kernel_rfl) (by kernel_rfl), trivial⟩).pure (k := 64) rfl
          | true =>
            have s1 := settleRR a ((g2 :: ua).map Msg.t) ((g3 :: ub).map Msg.t) [] [] xa ha
            simp only
            cases e1 : stl ((((g3 :: ub).map Msg.t).length : Nat) : Int) a [] with
            | none =>
              rw [show stl ((((g3 :: ub).map Msg.t).length : Nat) : Int) a [] = none from e1] at s1
              obtain ⟨mt, s1⟩ := s1
              exact (topK_sound (Cd_ok _ _) (look22n tc ta tb to ts te td tf tr tl tg 0 0 0 0 tx (a.map Msg.t) (b.map Msg.t) ((g2 :: ua).map Msg.t) ((g3 :: ub).map Msg.t) [] [] (mt.map eP) [] [] [] g2.t g3.t .nilP .nilP xa xb) ⟨GCall.at s1 [8, 4, 10, 7, 13] (by kernel_rfl) (by kernel_rfl) (by kernel_rfl) (by kernel_rfl) (by kernel_rfl), hm, GCall.at r2 [] (by kernel_rfl) (by kernel_rfl) (by kernel_rfl) (by kernel_rfl) (by kernel_rfl), GCall.at r1 [] (by kernel_rfl) (by kernel_rfl) (by kernel_rfl) (by kernel_rfl) (by kernel_rfl), trivial⟩).pure (k := 64) rfl
            | some mp =>
              rw [show stl ((((g3 :: ub).map Msg.t).length : Nat) : Int) a [] = some mp from e1] at s1
              have s2 := settleRR b ((g3 :: ub).map Msg.t) ((g2 :: ua).map Msg.t) [] (mp.map eP) xb hb
              simp only
              cases e2 : stl ((((g2 :: ua).map Msg.t).length : Nat) : Int) b [] with
              | none =>
                rw [show stl ((((g2 :: ua).map Msg.t).length : Nat) : Int) b [] = none from e2] at s2
                obtain ⟨mt, s2⟩ := s2
                exact (topK_sound (Cd_ok _ _) (look22sn tc ta tb to ts te td tf tr tl tg 0 0 0 0 tx (a.map Msg.t) (b.map Msg.t) ((g2 :: ua).map Msg.t) ((g3 :: ub).map Msg.t) [] [] [] (mp.map eP) (mt.map eP) [] g2.t g3.t .nilP .nilP xa xb) ⟨GCall.at s2 [14, 10, 4, 13, 7] (by kernel_rfl) (by kernel_rfl) (by kernel_rfl) (by kernel_rfl) (by kernel_rfl), GCall.at s1 [8, 4, 10, 7, 13] (by kernel_rfl) (by kernel_rfl) (by kernel_rfl) (by kernel_rfl) (by kernel_rfl), hm, GCall.at r2 [] (by kernel_rfl) (by kernel_rfl) (by kernel_rfl) (by kernel_rfl) (by kernel_rfl), GCall.at r1 [] (by kernel_rfl) (by kernel_rfl) (by kernel_rfl) (by kernel_rfl) (by kernel_rfl), trivial⟩).pure (k := 64) rfl
              | some mq =>
                rw [show stl ((((g2 :: ua).map Msg.t).length : Nat) : Int) b [] = some mq from e2] at s2
                have o1 := ofRR (g2 :: ua) ((g3 :: ub).map Msg.t) (mp.map eP) mq ta (rd_len a ha ea)
                simp only
                cases e3 : ofG mq ta (g2 :: ua) [] 0 0 with
                | none =>
                  rw [e3] at o1
                  exact (topK_sound (Cd_ok _ _) (look22ss0 tc ta tb to ts te td tf tr tl tg 0 0 0 0 tx (a.map Msg.t) (b.map Msg.t) ((g2 :: ua).map Msg.t) ((g3 :: ub).map Msg.t) [] [] [] (mp.map eP) [] (mq.map eP) g2.t g3.t .nilP .nilP xa xb) ⟨GCall.at o1 [4, 10, 7, 13] (by kernel_rfl) (by kernel_rfl) (by kernel_rfl) (by kernel_rfl) (by kernel_rfl), GCall.at s2 [14, 10, 4, 13, 7] (by kernel_rfl) (by kernel_rfl) (by kernel_rfl) (by kernel_rfl) (by kernel_rfl), GCall.at s1 [8, 4, 10, 7, 13] (by kernel_rfl) (by kernel_rfl) (by kernel_rfl) (by kernel_rfl) (by kernel_rfl), hm, GCall.at r2 [] (by kernel_rfl) (by kernel_rfl) (by kernel_rfl) (by kernel_rfl) (by kernel_rfl), GCall.at r1 [] (by kernel_rfl) (by kernel_rfl) (by kernel_rfl) (by kernel_rfl) (by kernel_rfl), trivial⟩).pure (k := 64) rfl
                | some w =>
                  obtain ⟨h1, pd, al⟩ := w
                  rw [e3] at o1
                  cases h1 with
                  | nil =>
                    have o2 := ofRR (g3 :: ub) ((g2 :: ua).map Msg.t) (mq.map eP) mp tb (rd_len b hb eb)
                    simp only
                    cases e4 : ofG mp tb (g3 :: ub) [] 0 0 with
                    | none =>
                      rw [e4] at o2
                      exact (topK_sound (Cd_ok _ _) (look22ss10 tc ta tb to ts te td tf tr tl tg pd al 0 0 tx (a.map Msg.t) (b.map Msg.t) ((g2 :: ua).map Msg.t) ((g3 :: ub).map Msg.t) [] [] [] (mp.map eP) [] (mq.map eP) g2.t g3.t .nilP .nilP xa xb) ⟨GCall.at o2 [10, 4, 13, 7] (by kernel_rfl) (by kernel_rfl) (by kernel_rfl) (by kernel_rfl) (by kernel_rfl), GCall.at o1 [4, 10, 7, 13] (by kernel_rfl) (by kernel_rfl) (by kernel_rfl) (by kernel_rfl) (by kernel_rfl), GCall.at s2 [14, 10, 4, 13, 7] (by kernel_rfl) (by kernel_rfl) (by kernel_rfl) (by kernel_rfl) (by kernel_rfl), GCall.at s1 [8, 4, 10, 7, 13] (by kernel_rfl) (by kernel_rfl) (by kernel_rfl) (by kernel_rfl) (by kernel_rfl), hm, GCall.at r2 [] (by kernel_rfl) (by kernel_rfl) (by kernel_rfl) (by kernel_rfl) (by kernel_rfl), GCall.at r1 [] (by kernel_rfl) (by kernel_rfl) (by kernel_rfl) (by kernel_rfl) (by kernel_rfl), trivial⟩).pure (k := 64) rfl
                    | some w =>
                      obtain ⟨h2, pd2, al2⟩ := w
                      rw [e4] at o2
                      cases h2 with
                      | nil =>
                        exact (topK_sound (Cd_ok _ _) (look22ss11 tc ta tb to ts te td tf tr tl tg pd al pd2 al2 tx (a.map Msg.t) (b.map Msg.t) ((g2 :: ua).map Msg.t) ((g3 :: ub).map Msg.t) [] [] [] (mp.map eP) [] (mq.map eP) g2.t g3.t .nilP .nilP xa xb) ⟨GCall.at o2 [10, 4, 13, 7] (by kernel_rfl) (by kernel_rfl) (by kernel_rfl) (by kernel_rfl) (by kernel_rfl), GCall.at o1 [4, 10, 7, 13] (by kernel_rfl) (by kernel_rfl) (by kernel_rfl) (by kernel_rfl) (by kernel_rfl), GCall.at s2 [14, 10, 4, 13, 7] (by kernel_rfl) (by kernel_rfl) (by kernel_rfl) (by kernel_rfl) (by kernel_rfl), GCall.at s1 [8, 4, 10, 7, 13] (by kernel_rfl) (by kernel_rfl) (by kernel_rfl) (by kernel_rfl) (by kernel_rfl), hm, GCall.at r2 [] (by kernel_rfl) (by kernel_rfl) (by kernel_rfl) (by kernel_rfl) (by kernel_rfl), GCall.at r1 [] (by kernel_rfl) (by kernel_rfl) (by kernel_rfl) (by kernel_rfl) (by kernel_rfl), trivial⟩).pure (k := 64) rfl
                      | cons g5 hb =>
                        exact (topK_sound (Cd_ok _ _) (look22ss12 tc ta tb to ts te td tf tr tl tg pd al pd2 al2 tx (a.map Msg.t) (b.map Msg.t) ((g2 :: ua).map Msg.t) ((g3 :: ub).map Msg.t) [] ((g5 :: hb).map (hT tb)) [] (mp.map eP) [] (mq.map eP) g2.t g3.t .nilP g5.t xa xb) ⟨GCall.at o2 [10, 4, 13, 7] (by kernel_rfl) (by kernel_rfl) (by kernel_rfl) (by kernel_rfl) (by kernel_rfl), GCall.at o1 [4, 10, 7, 13] (by kernel_rfl) (by kernel_rfl) (by kernel_rfl) (by kernel_rfl) (by kernel_rfl), GCall.at s2 [14, 10, 4, 13, 7] (by kernel_rfl) (by kernel_rfl) (by kernel_rfl) (by kernel_rfl) (by kernel_rfl), GCall.at s1 [8, 4, 10, 7, 13] (by kernel_rfl) (by kernel_rfl) (by kernel_rfl) (by kernel_rfl) (by kernel_rfl), hm, GCall.at r2 [] (by kernel_rfl) (by kernel_rfl) (by kernel_rfl) (by kernel_rfl) (by kernel_rfl), GCall.at r1 [] (by kernel_rfl) (by kernel_rfl) (by kernel_rfl) (by kernel_rfl) (by kernel_rfl), trivial⟩).pure (k := 64) rfl
                  | cons g4 ha =>
                    have o2 := ofRR (g3 :: ub) ((g2 :: ua).map Msg.t) (mq.map eP) mp tb (rd_len b hb eb)
                    simp only
                    cases e4 : ofG mp tb (g3 :: ub) [] 0 0 with
                    | none =>
                      rw [e4] at o2
                      exact (topK_sound (Cd_ok _ _) (look22ss20 tc ta tb to ts te td tf tr tl tg pd al 0 0 tx (a.map Msg.t) (b.map Msg.t) ((g2 :: ua).map Msg.t) ((g3 :: ub).map Msg.t) ((g4 :: ha).map (hT ta)) [] [] (mp.map eP) [] (mq.map eP) g2.t g3.t g4.t .nilP xa xb) ⟨GCall.at o2 [10, 4, 13, 7] (by kernel_rfl) (by kernel_rfl) (by kernel_rfl) (by kernel_rfl) (by kernel_rfl), GCall.at o1 [4, 10, 7, 13] (by kernel_rfl) (by kernel_rfl) (by kernel_rfl) (by kernel_rfl) (by kernel_rfl), GCall.at s2 [14, 10, 4, 13, 7] (by kernel_rfl) (by kernel_rfl) (by kernel_rfl) (by kernel_rfl) (by kernel_rfl), GCall.at s1 [8, 4, 10, 7, 13] (by kernel_rfl) (by kernel_rfl) (by kernel_rfl) (by kernel_rfl) (by kernel_rfl), hm, GCall.at r2 [] (by kernel_rfl) (by kernel_rfl) (by kernel_rfl) (by kernel_rfl) (by kernel_rfl), GCall.at r1 [] (by kernel_rfl) (by kernel_rfl) (by kernel_rfl) (by kernel_rfl) (by kernel_rfl), trivial⟩).pure (k := 64) rfl
                    | some w =>
                      obtain ⟨h2, pd2, al2⟩ := w
                      rw [e4] at o2
                      cases h2 with
                      | nil =>
                        exact (topK_sound (Cd_ok _ _) (look22ss21 tc ta tb to ts te td tf tr tl tg pd al pd2 al2 tx (a.map Msg.t) (b.map Msg.t) ((g2 :: ua).map Msg.t) ((g3 :: ub).map Msg.t) ((g4 :: ha).map (hT ta)) [] [] (mp.map eP) [] (mq.map eP) g2.t g3.t g4.t .nilP xa xb) ⟨GCall.at o2 [10, 4, 13, 7] (by kernel_rfl) (by kernel_rfl) (by kernel_rfl) (by kernel_rfl) (by kernel_rfl), GCall.at o1 [4, 10, 7, 13] (by kernel_rfl) (by kernel_rfl) (by kernel_rfl) (by kernel_rfl) (by kernel_rfl), GCall.at s2 [14, 10, 4, 13, 7] (by kernel_rfl) (by kernel_rfl) (by kernel_rfl) (by kernel_rfl) (by kernel_rfl), GCall.at s1 [8, 4, 10, 7, 13] (by kernel_rfl) (by kernel_rfl) (by kernel_rfl) (by kernel_rfl) (by kernel_rfl), hm, GCall.at r2 [] (by kernel_rfl) (by kernel_rfl) (by kernel_rfl) (by kernel_rfl) (by kernel_rfl), GCall.at r1 [] (by kernel_rfl) (by kernel_rfl) (by kernel_rfl) (by kernel_rfl) (by kernel_rfl), trivial⟩).pure (k := 64) rfl
                      | cons g5 hb =>
                        exact (topK_sound (Cd_ok _ _) (look22ss22 tc ta tb to ts te td tf tr tl tg pd al pd2 al2 tx (a.map Msg.t) (b.map Msg.t) ((g2 :: ua).map Msg.t) ((g3 :: ub).map Msg.t) ((g4 :: ha).map (hT ta)) ((g5 :: hb).map (hT tb)) [] (mp.map eP) [] (mq.map eP) g2.t g3.t g4.t g5.t xa xb) ⟨GCall.at o2 [10, 4, 13, 7] (by kernel_rfl) (by kernel_rfl) (by kernel_rfl) (by kernel_rfl) (by kernel_rfl), GCall.at o1 [4, 10, 7, 13] (by kernel_rfl) (by kernel_rfl) (by kernel_rfl) (by kernel_rfl) (by kernel_rfl), GCall.at s2 [14, 10, 4, 13, 7] (by kernel_rfl) (by kernel_rfl) (by kernel_rfl) (by kernel_rfl) (by kernel_rfl), GCall.at s1 [8, 4, 10, 7, 13] (by kernel_rfl) (by kernel_rfl) (by kernel_rfl) (by kernel_rfl) (by kernel_rfl), hm, GCall.at r2 [] (by kernel_rfl) (by kernel_rfl) (by kernel_rfl) (by kernel_rfl) (by kernel_rfl), GCall.at r1 [] (by kernel_rfl) (by kernel_rfl) (by kernel_rfl) (by kernel_rfl) (by kernel_rfl), trivial⟩).pure (k := 64) rfl
end Go.HM.Up

set_option maxRecDepth 100000
namespace Go.HM.Up
open Go.Proofs

structure H where
  hb : Int
  hi : Int
  hm : Int
  hh : List Int
  he : Int
def H.t (h : H) : T := .agg [.int .i64 h.hb, .int .i64 h.hi, .int .i64 h.hm, .ba 32 h.hh, .int .i64 h.he]

theorem findY (va vb wh id r hb hi hm he : Int) (hh : List Int) (ls : List T) (f : Bool): topK (Cd [((27, 17), (H.t ⟨hb, hi, hm, hh, he⟩))] [115]) 30 55 [] [.p (.agg [.int .i64 va, .int .i64 vb, .lst f 36 ls]), .p (.int .i64 wh), .p (.int .i64 id)] [(0, false)] [] [([.p (.int .i64 r)], [.box (.p (.agg [.int .i64 va, .int .i64 vb, .lst f 36 ls])), .box (.p (.int .i64 wh)), .box (.p (.int .i64 id)), .box (.p (.agg [.int .i64 0, .int .i64 0, .int .i64 0, .ba 32 zeros, .int .i64 0]))])] [] [] = some ([.p ((H.t ⟨hb, hi, hm, hh, he⟩)), .rb true], [], [(0 : Int) ≤ r ∧ ls[(r : Int).toNat]? = some ((H.t ⟨hb, hi, hm, hh, he⟩)), decide (r < 0) = false, GCall Try.prog 115 [.box (.p (.agg [.int .i64 va, .int .i64 vb, .lst f 36 ls])), .box (.p (.int .i64 wh)), .box (.p (.int .i64 id)), .box (.p (.agg [.int .i64 0, .int .i64 0, .int .i64 0, .ba 32 zeros, .int .i64 0]))] [.p (.lst f 36 ls), .clo 116 [.ptr 1 0, .ptr 2 0]] [.box (.p (.agg [.int .i64 va, .int .i64 vb, .lst f 36 ls])), .box (.p (.int .i64 wh)), .box (.p (.int .i64 id)), .box (.p (.agg [.int .i64 0, .int .i64 0, .int .i64 0, .ba 32 zeros, .int .i64 0]))] [.p (.int .i64 r)]]) := by kernel_rfl
theorem findN (va vb wh id r hb hi hm he : Int) (hh : List Int) (ls : List T) (f : Bool): topK (Cd [((27, 17), (H.t ⟨hb, hi, hm, hh, he⟩))] [115]) 30 55 [] [.p (.agg [.int .i64 va, .int .i64 vb, .lst f 36 ls]), .p (.int .i64 wh), .p (.int .i64 id)] [(0, true)] [] [([.p (.int .i64 r)], [.box (.p (.agg [.int .i64 va, .int .i64 vb, .lst f 36 ls])), .box (.p (.int .i64 wh)), .box (.p (.int .i64 id)), .box (.p (.agg [.int .i64 0, .int .i64 0, .int .i64 0, .ba 32 zeros, .int .i64 0]))])] [] [] = some ([.p (.agg [.int .i64 0, .int .i64 0, .int .i64 0, .ba 32 zeros, .int .i64 0]), .rb false], [], [decide (r < 0) = true, GCall Try.prog 115 [.box (.p (.agg [.int .i64 va, .int .i64 vb, .lst f 36 ls])), .box (.p (.int .i64 wh)), .box (.p (.int .i64 id)), .box (.p (.agg [.int .i64 0, .int .i64 0, .int .i64 0, .ba 32 zeros, .int .i64 0]))] [.p (.lst f 36 ls), .clo 116 [.ptr 1 0, .ptr 2 0]] [.box (.p (.agg [.int .i64 va, .int .i64 vb, .lst f 36 ls])), .box (.p (.int .i64 wh)), .box (.p (.int .i64 id)), .box (.p (.agg [.int .i64 0, .int .i64 0, .int .i64 0, .ba 32 zeros, .int .i64 0]))] [.p (.int .i64 r)]]) := by kernel_rfl
theorem fiB_0 (va vb wh id r hb hi hm he : Int) (hh : List Int) (ls : List T) (f : Bool) (i : Int): bodyK (Cd [((27, 12), (H.t ⟨hb, hi, hm, hh, he⟩))] []) 30 115 4 (loopAt Try.f115 0) ⟨19, [(0, .p (.lst f 36 ls)), (1, .clo 116 [.ptr 1 0, .ptr 2 0]), (7, .p (.int .i64 ((ls).length : Int))), (8, .p (.int .i64 i))], [.box (.p (.agg [.int .i64 va, .int .i64 vb, .lst f 36 ls])), .box (.p (.int .i64 wh)), .box (.p (.int .i64 id)), .box (.p (.agg [.int .i64 0, .int .i64 0, .int .i64 0, .ba 32 zeros, .int .i64 0]))]⟩ [(0, true), (0, true), (0, true)] [] [0, 1, 4, 7, 8] [] [] [] = some (.ret, ⟨19, [(4, .p (.int .i64 i)), (7, .p (.int .i64 ((ls).length : Int))), (8, .p (.int .i64 i)), (0, .p (.lst f 36 ls)), (1, .clo 116 [.ptr 1 0, .ptr 2 0])], [.box (.p (.agg [.int .i64 va, .int .i64 vb, .lst f 36 ls])), .box (.p (.int .i64 wh)), .box (.p (.int .i64 id)), .box (.p (.agg [.int .i64 0, .int .i64 0, .int .i64 0, .ba 32 zeros, .int .i64 0]))]⟩, [(hi == id) = true, (hb == wh) = true, (0 : Int) ≤ i ∧ ls[(i : Int).toNat]? = some ((H.t ⟨hb, hi, hm, hh, he⟩)), decide (i < ((ls).length : Int)) = true]) := by kernel_rfl
theorem fiB_1 (va vb wh id r hb hi hm he : Int) (hh : List Int) (ls : List T) (f : Bool) (i : Int): bodyK (Cd [((27, 12), (H.t ⟨hb, hi, hm, hh, he⟩))] []) 30 115 4 (loopAt Try.f115 0) ⟨19, [(0, .p (.lst f 36 ls)), (1, .clo 116 [.ptr 1 0, .ptr 2 0]), (7, .p (.int .i64 ((ls).length : Int))), (8, .p (.int .i64 i))], [.box (.p (.agg [.int .i64 va, .int .i64 vb, .lst f 36 ls])), .box (.p (.int .i64 wh)), .box (.p (.int .i64 id)), .box (.p (.agg [.int .i64 0, .int .i64 0, .int .i64 0, .ba 32 zeros, .int .i64 0]))]⟩ [(0, false)] [] [0, 1, 4, 7, 8] [] [] [] = some (.exit 0, ⟨19, [(7, .p (.int .i64 ((ls).length : Int))), (8, .p (.int .i64 i)), (0, .p (.lst f 36 ls)), (1, .clo 116 [.ptr 1 0, .ptr 2 0])], [.box (.p (.agg [.int .i64 va, .int .i64 vb, .lst f 36 ls])), .box (.p (.int .i64 wh)), .box (.p (.int .i64 id)), .box (.p (.agg [.int .i64 0, .int .i64 0, .int .i64 0, .ba 32 zeros, .int .i64 0]))]⟩, [decide (i < ((ls).length : Int)) = false]) := by kernel_rfl
theorem fiB_2 (va vb wh id r hb hi hm he : Int) (hh : List Int) (ls : List T) (f : Bool) (i : Int): bodyK (Cd [((27, 12), (H.t ⟨hb, hi, hm, hh, he⟩))] []) 30 115 4 (loopAt Try.f115 0) ⟨19, [(0, .p (.lst f 36 ls)), (1, .clo 116 [.ptr 1 0, .ptr 2 0]), (7, .p (.int .i64 ((ls).length : Int))), (8, .p (.int .i64 i))], [.box (.p (.agg [.int .i64 va, .int .i64 vb, .lst f 36 ls])), .box (.p (.int .i64 wh)), .box (.p (.int .i64 id)), .box (.p (.agg [.int .i64 0, .int .i64 0, .int .i64 0, .ba 32 zeros, .int .i64 0]))]⟩ [(0, true), (0, false)] [] [0, 1, 4, 7, 8] [] [] [] = some (.normal, ⟨19, [(8, .p (.int .i64 (IntKind.i64.wrap (i + 1)))), (7, .p (.int .i64 ((ls).length : Int))), (0, .p (.lst f 36 ls)), (1, .clo 116 [.ptr 1 0, .ptr 2 0])], [.box (.p (.agg [.int .i64 va, .int .i64 vb, .lst f 36 ls])), .box (.p (.int .i64 wh)), .box (.p (.int .i64 id)), .box (.p (.agg [.int .i64 0, .int .i64 0, .int .i64 0, .ba 32 zeros, .int .i64 0]))]⟩, [(hb == wh) = false, (0 : Int) ≤ i ∧ ls[(i : Int).toNat]? = some ((H.t ⟨hb, hi, hm, hh, he⟩)), decide (i < ((ls).length : Int)) = true]) := by kernel_rfl
theorem fiB_3 (va vb wh id r hb hi hm he : Int) (hh : List Int) (ls : List T) (f : Bool) (i : Int): bodyK (Cd [((27, 12), (H.t ⟨hb, hi, hm, hh, he⟩))] []) 30 115 4 (loopAt Try.f115 0) ⟨19, [(0, .p (.lst f 36 ls)), (1, .clo 116 [.ptr 1 0, .ptr 2 0]), (7, .p (.int .i64 ((ls).length : Int))), (8, .p (.int .i64 i))], [.box (.p (.agg [.int .i64 va, .int .i64 vb, .lst f 36 ls])), .box (.p (.int .i64 wh)), .box (.p (.int .i64 id)), .box (.p (.agg [.int .i64 0, .int .i64 0, .int .i64 0, .ba 32 zeros, .int .i64 0]))]⟩ [(0, true), (0, true), (0, false)] [] [0, 1, 4, 7, 8] [] [] [] = some (.normal, ⟨19, [(8, .p (.int .i64 (IntKind.i64.wrap (i + 1)))), (7, .p (.int .i64 ((ls).length : Int))), (0, .p (.lst f 36 ls)), (1, .clo 116 [.ptr 1 0, .ptr 2 0])], [.box (.p (.agg [.int .i64 va, .int .i64 vb, .lst f 36 ls])), .box (.p (.int .i64 wh)), .box (.p (.int .i64 id)), .box (.p (.agg [.int .i64 0, .int .i64 0, .int .i64 0, .ba 32 zeros, .int .i64 0]))]⟩, [(hi == id) = false, (hb == wh) = true, (0 : Int) ≤ i ∧ ls[(i : Int).toNat]? = some ((H.t ⟨hb, hi, hm, hh, he⟩)), decide (i < ((ls).length : Int)) = true]) := by kernel_rfl
theorem fiE (va vb wh id r hb hi hm he : Int) (hh : List Int) (ls : List T) (f : Bool) (i : Int): topK (Cd [] []) 30 115 [.box (.p (.agg [.int .i64 va, .int .i64 vb, .lst f 36 ls])), .box (.p (.int .i64 wh)), .box (.p (.int .i64 id)), .box (.p (.agg [.int .i64 0, .int .i64 0, .int .i64 0, .ba 32 zeros, .int .i64 0]))] [.p (.lst f 36 ls), .clo 116 [.ptr 1 0, .ptr 2 0]] [] [some ([0, 1, 7, 8], .exit 0, ⟨19, [(0, .p (.lst f 36 ls)), (1, .clo 116 [.ptr 1 0, .ptr 2 0]), (7, .p (.int .i64 ((ls).length : Int))), (8, .p (.int .i64 i))], [.box (.p (.agg [.int .i64 va, .int .i64 vb, .lst f 36 ls])), .box (.p (.int .i64 wh)), .box (.p (.int .i64 id)), .box (.p (.agg [.int .i64 0, .int .i64 0, .int .i64 0, .ba 32 zeros, .int .i64 0]))]⟩)] [] [] [] = some ([.p (.int .i64 (-1))], [.box (.p (.agg [.int .i64 va, .int .i64 vb, .lst f 36 ls])), .box (.p (.int .i64 wh)), .box (.p (.int .i64 id)), .box (.p (.agg [.int .i64 0, .int .i64 0, .int .i64 0, .ba 32 zeros, .int .i64 0]))], [LoopG Try.prog 4 (loopAt Try.f115 0) ⟨19, [(8, .p (.int .i64 0)), (7, .p (.int .i64 ((ls).length : Int))), (0, .p (.lst f 36 ls)), (1, .clo 116 [.ptr 1 0, .ptr 2 0])], [.box (.p (.agg [.int .i64 va, .int .i64 vb, .lst f 36 ls])), .box (.p (.int .i64 wh)), .box (.p (.int .i64 id)), .box (.p (.agg [.int .i64 0, .int .i64 0, .int .i64 0, .ba 32 zeros, .int .i64 0]))]⟩ (.exit 0) ⟨19, [(0, .p (.lst f 36 ls)), (1, .clo 116 [.ptr 1 0, .ptr 2 0]), (7, .p (.int .i64 ((ls).length : Int))), (8, .p (.int .i64 i))], [.box (.p (.agg [.int .i64 va, .int .i64 vb, .lst f 36 ls])), .box (.p (.int .i64 wh)), .box (.p (.int .i64 id)), .box (.p (.agg [.int .i64 0, .int .i64 0, .int .i64 0, .ba 32 zeros, .int .i64 0]))]⟩]) := by kernel_rfl
theorem fiR (va vb wh id r hb hi hm he : Int) (hh : List Int) (ls : List T) (f : Bool) (i : Int): topK (Cd [] []) 30 115 [.box (.p (.agg [.int .i64 va, .int .i64 vb, .lst f 36 ls])), .box (.p (.int .i64 wh)), .box (.p (.int .i64 id)), .box (.p (.agg [.int .i64 0, .int .i64 0, .int .i64 0, .ba 32 zeros, .int .i64 0]))] [.p (.lst f 36 ls), .clo 116 [.ptr 1 0, .ptr 2 0]] [] [some ([0, 1, 7, 8], .ret, ⟨19, [(4, .p (.int .i64 r))], [.box (.p (.agg [.int .i64 va, .int .i64 vb, .lst f 36 ls])), .box (.p (.int .i64 wh)), .box (.p (.int .i64 id)), .box (.p (.agg [.int .i64 0, .int .i64 0, .int .i64 0, .ba 32 zeros, .int .i64 0]))]⟩)] [] [] [] = some ([.p (.int .i64 r)], [.box (.p (.agg [.int .i64 va, .int .i64 vb, .lst f 36 ls])), .box (.p (.int .i64 wh)), .box (.p (.int .i64 id)), .box (.p (.agg [.int .i64 0, .int .i64 0, .int .i64 0, .ba 32 zeros, .int .i64 0]))], [LoopG Try.prog 4 (loopAt Try.f115 0) ⟨19, [(8, .p (.int .i64 0)), (7, .p (.int .i64 ((ls).length : Int))), (0, .p (.lst f 36 ls)), (1, .clo 116 [.ptr 1 0, .ptr 2 0])], [.box (.p (.agg [.int .i64 va, .int .i64 vb, .lst f 36 ls])), .box (.p (.int .i64 wh)), .box (.p (.int .i64 id)), .box (.p (.agg [.int .i64 0, .int .i64 0, .int .i64 0, .ba 32 zeros, .int .i64 0]))]⟩ (.ret) ⟨19, [(4, .p (.int .i64 r))], [.box (.p (.agg [.int .i64 va, .int .i64 vb, .lst f 36 ls])), .box (.p (.int .i64 wh)), .box (.p (.int .i64 id)), .box (.p (.agg [.int .i64 0, .int .i64 0, .int .i64 0, .ba 32 zeros, .int .i64 0]))]⟩]) := by kernel_rfl
def SF (va vb wh id : Int) (ls : List T) (f : Bool) : List SObj := [.box (.p (.agg [.int .i64 va, .int .i64 vb, .lst f 36 ls])), .box (.p (.int .i64 wh)), .box (.p (.int .i64 id)), .box (.p (.agg [.int .i64 0, .int .i64 0, .int .i64 0, .ba 32 zeros, .int .i64 0]))]
def LF (va vb wh id : Int) (ls : List T) (f : Bool) (i : Int) : St := ⟨19, [(0, .p (.lst f 36 ls)), (1, .clo 116 [.ptr 1 0, .ptr 2 0]), (7, .p (.int .i64 ((ls).length : Int))), (8, .p (.int .i64 i))], [.box (.p (.agg [.int .i64 va, .int .i64 vb, .lst f 36 ls])), .box (.p (.int .i64 wh)), .box (.p (.int .i64 id)), .box (.p (.agg [.int .i64 0, .int .i64 0, .int .i64 0, .ba 32 zeros, .int .i64 0]))]⟩

def isH (wh id : Int) (h : H) : Bool := (h.hb == wh) && (h.hi == id)
/-- Where the first lies that is meant. -/
def fnd (wh id : Int) : List H → Nat → Option Nat
  | [], _ => none
  | h :: r, i => bif isH wh id h then some i else fnd wh id r (i + 1)
theorem firound (va vb wh id : Int) (ls : List H) (f : Bool) (i : Int) (h : H) (hx : 0 ≤ i ∧ (ls.map H.t)[i.toNat]? = some h.t) (hlt : i < ls.length) (hi : i < 9223372036854775807) :
    (isH wh id h = true ∧ CodeG Try.prog 4 (loopAt Try.f115 0) (LF va vb wh id (ls.map H.t) f i) .ret ⟨19, [(4, .p (.int .i64 i))], SF va vb wh id (ls.map H.t) f⟩) ∨ (isH wh id h = false ∧ CodeG Try.prog 4 (loopAt Try.f115 0) (LF va vb wh id (ls.map H.t) f i) .normal (LF va vb wh id (ls.map H.t) f (i + 1))) := by
  have hlt' : decide (i < ((ls.map H.t).length : Int)) = true := by simpa using hlt
  have wi : IntKind.i64.wrap (i + 1) = i + 1 := w64 (by omega) (by omega)
  cases c0 : (h.hb == wh) with
  | true =>
    cases c1 : (h.hi == id) with
    | true =>
      exact .inl ⟨by simp only [isH, c0, c1, Bool.and_self, Bool.and_true, Bool.and_false, Bool.false_and, Bool.true_and], CodeG.normE (bodyK_sound (Cd_ok _ _) (fiB_0 va vb wh id 0 h.hb h.hi h.hm h.he h.hh (ls.map H.t) f i) ⟨c1, c0, hx, hlt', trivial⟩) (by omega) (by omega) [4] (m := 4) (k := 4) (by kernel_rfl)⟩
    | false =>
      have r := CodeG.normE (bodyK_sound (Cd_ok _ _) (fiB_3 va vb wh id 0 h.hb h.hi h.hm h.he h.hh (ls.map H.t) f i) ⟨c1, c0, hx, hlt', trivial⟩) (by omega) (by omega) [0, 1, 7, 8] (m := 4) (k := 4) (st2 := LF va vb wh id (ls.map H.t) f (IntKind.i64.wrap (i + 1))) (by kernel_rfl)
      rw [wi] at r
      exact .inr ⟨by simp only [isH, c0, c1, Bool.and_self, Bool.and_true, Bool.and_false, Bool.false_and, Bool.true_and], r⟩
  | false =>
    have r := CodeG.normE (bodyK_sound (Cd_ok _ _) (fiB_2 va vb wh id 0 h.hb h.hi h.hm h.he h.hh (ls.map H.t) f i) ⟨c0, hx, hlt', trivial⟩) (by omega) (by omega) [0, 1, 7, 8] (m := 4) (k := 4) (st2 := LF va vb wh id (ls.map H.t) f (IntKind.i64.wrap (i + 1))) (by kernel_rfl)
    rw [wi] at r
    exact .inr ⟨by simp only [isH, c0, Bool.and_self, Bool.and_true, Bool.and_false, Bool.false_and, Bool.true_and], r⟩

theorem fi_loop (va vb wh id : Int) (ls : List H) (f : Bool) (hl : ls.length ≤ 1000000000000) : ∀ (r pre : List H), ls = pre ++ r →
    match fnd wh id r pre.length with
    | some j => LoopG Try.prog 4 (loopAt Try.f115 0) (LF va vb wh id (ls.map H.t) f (pre.length : Int)) .ret ⟨19, [(4, .p (.int .i64 (j : Int)))], SF va vb wh id (ls.map H.t) f⟩
    | none => LoopG Try.prog 4 (loopAt Try.f115 0) (LF va vb wh id (ls.map H.t) f (pre.length : Int)) (.exit 0) (LF va vb wh id (ls.map H.t) f (ls.length : Int))
  | [], pre, he => by
    have hp : pre = ls := by rw [he]; simp
    simp only [fnd]
    rw [hp]
    exact LoopG.leave (CodeG.normE (bodyK_sound (Cd_ok _ _) (fiB_1 va vb wh id 0 0 0 0 0 [] (ls.map H.t) f (ls.length : Int)) ⟨by simp, trivial⟩) (by omega) (by omega) [0, 1, 7, 8] (m := 4) (k := 4) (by kernel_rfl)) rfl
  | h :: r, pre, he => by
    have hlen : pre.length + (r.length + 1) = ls.length := by rw [he]; simp
    have hx : (0 : Int) ≤ (pre.length : Int) ∧ (ls.map H.t)[((pre.length : Int)).toNat]? = some h.t := ⟨by omega, by rw [he]; simp⟩
    have ih := fi_loop va vb wh id ls f hl r (pre ++ [h]) (by rw [he]; simp)
    rw [show (((pre ++ [h]).length : Nat) : Int) = (pre.length : Int) + 1 by simp, show (pre ++ [h]).length = pre.length + 1 by simp] at ih
    simp only [fnd]
    rcases firound va vb wh id ls f (pre.length : Int) h hx (by omega) (by omega) with ⟨k1, k⟩ | ⟨k1, k⟩
    · rw [k1]; exact LoopG.leave k rfl
    · rw [k1]
      simp only [cond_false]
      revert ih
      cases fnd wh id r (pre.length + 1) with
      | some j => exact fun ih => LoopG.next k ih
      | none => exact fun ih => LoopG.next k ih
theorem fnd_get (wh id : Int) : ∀ (r : List H) (i j : Nat), fnd wh id r i = some j → ∃ h, i ≤ j ∧ r[j - i]? = some h ∧ isH wh id h = true
  | [], i, j, h => by cases h
  | x :: r, i, j, h => by
    simp only [fnd] at h
    cases e : isH wh id x with
    | true => rw [e] at h; simp at h; subst h; exact ⟨x, by omega, by simp, e⟩
    | false =>
      rw [e] at h
      obtain ⟨y, a, b, c⟩ := fnd_get wh id r (i + 1) j h
      refine ⟨y, by omega, ?_, c⟩
      rw [show j - i = (j - (i + 1)) + 1 by omega]
      simpa using b
def zH : T := .agg [.int .i64 0, .int .i64 0, .int .i64 0, .ba 32 zeros, .int .i64 0]
theorem find_ok (va vb wh id : Int) (ls : List H) (f : Bool) (hl : ls.length ≤ 1000000000000) :
    match fnd wh id ls 0 with
    | some j => ∃ h, ls[j]? = some h ∧ isH wh id h = true ∧ PCall Try.prog 55 [.agg [.int .i64 va, .int .i64 vb, .lst f 36 (ls.map H.t)], .int .i64 wh, .int .i64 id] [h.t, .bool true]
    | none => PCall Try.prog 55 [.agg [.int .i64 va, .int .i64 vb, .lst f 36 (ls.map H.t)], .int .i64 wh, .int .i64 id] [zH, .bool false] := by
  have lp := fi_loop va vb wh id ls f hl ls [] rfl
  have hg := fnd_get wh id ls 0
  revert lp hg
  simp only [List.length_nil]
  cases fnd wh id ls 0 with
  | some j =>
    intro lp hg
    obtain ⟨h, _, a, b⟩ := hg j rfl
    simp only [Nat.sub_zero] at a
    refine ⟨h, a, b, ?_⟩
    have g := topK_sound (Cd_ok _ _) (fiR va vb wh id (j : Int) 0 0 0 0 [] (ls.map H.t) f 0) ⟨LoopG.preE (by omega) (by omega) [0, 1, 7, 8] (m := 4) (k := 4) (by kernel_rfl) lp, trivial⟩
    have el : (0 : Int) ≤ (j : Int) ∧ (ls.map H.t)[((j : Int)).toNat]? = some h.t := ⟨by omega, by simp [a]⟩
    exact (topK_sound (Cd_ok _ _) (findY va vb wh id (j : Int) h.hb h.hi h.hm h.he h.hh (ls.map H.t) f) ⟨el, by simp, g, trivial⟩).pure (k := 64) rfl
  | none =>
    intro lp _
    have g := topK_sound (Cd_ok _ _) (fiE va vb wh id 0 0 0 0 0 [] (ls.map H.t) f (ls.length : Int)) ⟨LoopG.preE (by omega) (by omega) [0, 1, 7, 8] (m := 4) (k := 4) (by kernel_rfl) lp, trivial⟩
    exact (topK_sound (Cd_ok _ _) (findN va vb wh id (-1) 0 0 0 0 [] (ls.map H.t) f) ⟨by simp, g, trivial⟩).pure (k := 64) rfl

end Go.HM.Up

namespace Go.HM.Up
open Go.Proofs

def growRen : Go.Shelf.Ren := ⟨fun | 4 => 167 | n => n, fun | 22 => 27 | 25 => 49 | n => n, fun n => n⟩
theorem growLay : Lays8.n4 Try.prog growRen :=
  { mixed := by kernel_rfl, f4 := ⟨Try.f167.name, by decide, Try.func167.trans (congrArg some (by kernel_rfl))⟩,
    t0 := Try.underlying0, a0 := Try.isAgg0, z0 := Try.sizeOf0, v0 := Try.zeroValue0, t3 := Try.underlying3, a3 := Try.isAgg3, z3 := Try.sizeOf3, v3 := Try.zeroValue3, t4 := Try.underlying4, a4 := Try.isAgg4, z4 := Try.sizeOf4, v4 := Try.zeroValue4, t9 := Try.underlying9, a9 := Try.isAgg9, z9 := Try.sizeOf9, v9 := Try.zeroValue9, t20 := Try.underlying20, a20 := Try.isAgg20, z20 := Try.sizeOf20, v20 := Try.zeroValue20,
    t22 := Try.underlying27, a22 := Try.isAgg27, z22 := Try.sizeOf27, v22 := Try.zeroValue27 }
theorem grow_callable : Callable Try.prog 167 := ⟨Try.f167, Try.func167, by decide, by kernel_rfl⟩

theorem grow_args {U : Nat → Nat → Prop} {κ : List Place} {s : List SObj} {w : World} {n : Int} {vals : List Value} (h : F2 (VV1 U κ s w) [.p (.lst true 36 []), .p (.int .i64 n)] vals) : ∃ base, vals = [.slice base 0 0, .int .i64 n] := by
  cases h with | cons hx h => cases h with | cons hy h => cases h with | nil =>
    obtain ⟨base, cap, cs, rfl, _, _, _, hc⟩ := slice_parts (e := 36) (n := 0) (VV_p (VV_of1 hx)) rfl rfl
    obtain rfl := TV_int (VV_p (VV_of1 hy))
    obtain rfl := hc rfl
    exact ⟨base, rfl⟩

theorem grow_none (s : List SObj) : GCall Try.prog 167 s [.p (.lst true 36 []), .p (.int .i64 0)] s [.p (.lst true 36 [])] := by
  refine ⟨grow_callable, fun U κ w vals hS hA => ?_⟩
  obtain ⟨base, hv⟩ := grow_args hA
  subst hv
  have hx : VV1 U κ s w (.p (.lst true 36 [])) (.slice base 0 0) := by cases hA with | cons hx _ => exact hx
  refine (Any8.slices_Grow_room growLay base 0 0 0 w (Nat.le_refl _) (by omega) (by omega) (by omega)).mono ?_
  rintro e w' ⟨rfl, rfl⟩
  exact ⟨_, κ, rfl, hS, hx, Step.refl U κ w', Ext.refl κ s⟩

theorem grow_some (s : List SObj) (n : Nat) (h0 : 0 < n) (hb : n * 64 ≤ 140737488355328) :
    GCall Try.prog 167 s [.p (.lst true 36 []), .p (.int .i64 (n : Int))] (s ++ [.row 0 36]) [.row s.length 0 (.lst false 36 [])] := by
  refine ⟨grow_callable, fun U κ w vals hS hA => ?_⟩
  obtain ⟨base, rfl⟩ := grow_args hA
  obtain ⟨z, hz⟩ := Option.isSome_iff_exists.1 (show (zeroOf Try.prog 49).isSome = true by kernel_rfl)
  obtain ⟨i0, zv, z1, z2, z3, z4⟩ := zeroOf_spec (w := w) (ok := okOf U κ) hz
  have hsz : i0.size = 36 := by
    have h : (Try.prog.info? 49).map (·.size) = some 36 := by kernel_rfl
    rw [z1] at h; simpa using h
  have hby : i0.bytes = 64 := by
    have h : (Try.prog.info? 49).map (·.bytes) = some 64 := by kernel_rfl
    rw [z1] at h; simpa using h
  have hzl : zv.cells.size = 36 := by have := z3.1.len; rw [z4, hsz] at this; simpa using this
  refine (Any8.slices_Grow_grow growLay i0 zv z1 z2 (by rw [hsz]; omega) base 0 0 n [] w (Nat.le_refl _) (by omega) (by rw [hby]; simpa using hb) (by omega) (by simp) (fun _ => rfl) (by simp)).mono ?_
  rintro e w' ⟨rfl, rfl⟩
  generalize hc : (([] : List Value).toArray ++ Builtin.zeroCells zv.cells (0 + n - 0) ++ Builtin.zeroCells zv.cells (grownCap w (0 + n) 0 (growRen.t 25) - (0 + n))) = cs
  have hcs : cs.size = grownCap w (0 + n) 0 (growRen.t 25) * 36 := by
    have hg : 0 + n ≤ grownCap w (0 + n) 0 (growRen.t 25) := grownCap_ge w _ _ _
    rw [← hc]
    simp only [Array.size_append, List.size_toArray, List.length_nil, size_zeroCells, hzl]
    generalize grownCap w (0 + n) 0 (growRen.t 25) = G at hg ⊢
    omega
  obtain ⟨g1, g2, g3⟩ := hS.rowNew cs (growRen.t 25) 0 36
  refine ⟨_, _, rfl, g1, ?_, g2, Ext.append hS.len _ _⟩
  refine VV1_of_cell (.row (cur := 0) (e := 36) ?_ (by simp) (Nat.le_refl _) (fun _ => .inr ⟨⟨w.heap.size, 0, cs.size, true⟩, 0, ?_, rfl, rfl, by simp, by simp [hcs]⟩)) rfl
  · exact .lst0 (fun h => by cases h)
  · rw [← hS.len]; simp

end Go.HM.Up

set_option maxRecDepth 100000
namespace Go.HM.Up
open Go.Proofs

def twS (o : Oper) : Bool := match o.op with
  | .slice ty _ _ _ _ => Nat.beq ty 89
  | _ => false
noncomputable def Ch (els : List ((Nat × Nat) × T)) (tl : List Nat) : GCtx := { P := Try.prog, pr := pureCall Try.prog [167] [] [], K := fun _ _ => none, keep := fun _ _ => false, frz := fun _ _ => [], item := elD els, glob := globOf globT, KG := fun _ _ _ => none, fuel := 1000, vec := appAt [], tw := twS, told := fun f => memN f tl, owe := oweAt [("updates.go:135", [(0, 14), (0, 15)])] }
theorem Ch_ok (els : List ((Nat × Nat) × T)) (tl : List Nat) : KOk (Ch els tl) := ⟨names_ok, fun _ _ _ h => (by cases h), fun _ _ _ _ _ h => (by cases h)⟩

theorem conS (hx hy : List T) (fx fy : Bool): topK (Ch [] [167]) 30 150 [] [.p (.lst true 1 [.lst fx 36 hx, .lst fy 36 hy])] [(1, false), (1, false)] [] [([.row 0 0 (.lst false 36 [])], [.row 0 36])] [] [] = some ([.row 0 2 (.lst false 36 (hx ++ hy))], [.row 2 36], [((hx).length + (hy).length ≤ 4294967296 ∨ ((hx).length + (hy).length ≤ 9223372036854775807 ∧ ((hx).length + (hy).length) * 64 ≤ 140737488355328)), (0 + (hx).length ≤ 4294967296 ∨ (0 + (hx).length ≤ 9223372036854775807 ∧ (0 + (hx).length) * 64 ≤ 140737488355328)), GCall Try.prog 167 [] [.p (.lst true 36 []), .p (.int .i64 (IntKind.i64.wrap ((IntKind.i64.wrap (0 + ((hx).length : Int))) + ((hy).length : Int))))] [.row 0 36] [.row 0 0 (.lst false 36 [])], decide ((IntKind.i64.wrap ((IntKind.i64.wrap (0 + ((hx).length : Int))) + ((hy).length : Int))) < 0) = false, decide ((IntKind.i64.wrap (0 + ((hx).length : Int))) < 0) = false]) := by kernel_rfl
theorem conN (fx fy : Bool): topK (Ch [] [167]) 30 150 [] [.p (.lst true 1 [.lst fx 36 [], .lst fy 36 []])] [] [] [([.p (.lst true 36 [])], [])] [] [] = some ([.row 0 1 (.lst false 36 [])], [.row 1 36], [(0 + 0 ≤ 4294967296 ∨ (0 + 0 ≤ 9223372036854775807 ∧ (0 + 0) * 64 ≤ 140737488355328)), (0 + 0 ≤ 4294967296 ∨ (0 + 0 ≤ 9223372036854775807 ∧ (0 + 0) * 64 ≤ 140737488355328)), GCall Try.prog 167 [] [.p (.lst true 36 []), .p (.int .i64 0)] [] [.p (.lst true 36 [])]]) := by kernel_rfl
theorem view_0 (tc ta tb to ts te td tf tr tl tg pda ala pdb alb : Int) (tx : List Int) (la lb hz : List T) (fx fy : Bool): topK (Ch [] [150]) 30 105 [] [.p (trT tc ta tb to ts te td tf tr tl tg tx), .p (.agg [.lst fx 36 la, .int .i64 pda, .int .i64 ala]), .p (.agg [.lst fy 36 lb, .int .i64 pdb, .int .i64 alb])] [(0, true), (0, true), (0, false), (0, false), (0, false), (0, false)] [] [] [[.lst false 36 hz]] [] = some ([.p (.agg [.int .i64 (IntKind.i64.wrap ((IntKind.i64.wrap (ts - ala)) + pdb)), .int .i64 (IntKind.i64.wrap ((IntKind.i64.wrap (te - alb)) + pda)), .lst false 36 hz]), .p (.int .i64 0)], [], [decide (((lb).length : Int) > 16) = false, decide (((la).length : Int) > 16) = false, decide ((IntKind.i64.wrap ((IntKind.i64.wrap (te - alb)) + pda)) < 0) = false, decide ((IntKind.i64.wrap ((IntKind.i64.wrap (ts - ala)) + pdb)) < 0) = false, PCall Try.prog 150 [.lst true 1 [.lst fx 36 la, .lst fy 36 lb]] [.lst false 36 hz], decide ((IntKind.i64.wrap (te - alb)) > 0) = true, decide ((IntKind.i64.wrap (ts - ala)) > 0) = true]) := by kernel_rfl
theorem view_1 (tc ta tb to ts te td tf tr tl tg pda ala pdb alb : Int) (tx : List Int) (la lb hz : List T) (fx fy : Bool): topK (Ch [] [150]) 30 105 [] [.p (trT tc ta tb to ts te td tf tr tl tg tx), .p (.agg [.lst fx 36 la, .int .i64 pda, .int .i64 ala]), .p (.agg [.lst fy 36 lb, .int .i64 pdb, .int .i64 alb])] [(0, false), (0, true), (0, false), (0, false), (0, false), (0, false)] [] [] [[.lst false 36 hz]] [] = some ([.p (.agg [.int .i64 (IntKind.i64.wrap (pdb + (IntKind.i64.wrap (ts - ala)))), .int .i64 (IntKind.i64.wrap ((IntKind.i64.wrap (te - alb)) + pda)), .lst false 36 hz]), .p (.int .i64 0)], [], [decide (((lb).length : Int) > 16) = false, decide (((la).length : Int) > 16) = false, decide ((IntKind.i64.wrap ((IntKind.i64.wrap (te - alb)) + pda)) < 0) = false, decide ((IntKind.i64.wrap (pdb + (IntKind.i64.wrap (ts - ala)))) < 0) = false, PCall Try.prog 150 [.lst true 1 [.lst fx 36 la, .lst fy 36 lb]] [.lst false 36 hz], decide ((IntKind.i64.wrap (te - alb)) > 0) = true, decide ((IntKind.i64.wrap (ts - ala)) > 0) = false]) := by kernel_rfl
theorem view_2 (tc ta tb to ts te td tf tr tl tg pda ala pdb alb : Int) (tx : List Int) (la lb hz : List T) (fx fy : Bool): topK (Ch [] [150]) 30 105 [] [.p (trT tc ta tb to ts te td tf tr tl tg tx), .p (.agg [.lst fx 36 la, .int .i64 pda, .int .i64 ala]), .p (.agg [.lst fy 36 lb, .int .i64 pdb, .int .i64 alb])] [(0, false), (0, false), (0, false), (0, false), (0, false), (0, false)] [] [] [[.lst false 36 hz]] [] = some ([.p (.agg [.int .i64 (IntKind.i64.wrap (pdb + (IntKind.i64.wrap (ts - ala)))), .int .i64 (IntKind.i64.wrap (pda + (IntKind.i64.wrap (te - alb)))), .lst false 36 hz]), .p (.int .i64 0)], [], [decide (((lb).length : Int) > 16) = false, decide (((la).length : Int) > 16) = false, decide ((IntKind.i64.wrap (pda + (IntKind.i64.wrap (te - alb)))) < 0) = false, decide ((IntKind.i64.wrap (pdb + (IntKind.i64.wrap (ts - ala)))) < 0) = false, PCall Try.prog 150 [.lst true 1 [.lst fx 36 la, .lst fy 36 lb]] [.lst false 36 hz], decide ((IntKind.i64.wrap (te - alb)) > 0) = false, decide ((IntKind.i64.wrap (ts - ala)) > 0) = false]) := by kernel_rfl
theorem view_3 (tc ta tb to ts te td tf tr tl tg pda ala pdb alb : Int) (tx : List Int) (la lb hz : List T) (fx fy : Bool): topK (Ch [] [150]) 30 105 [] [.p (trT tc ta tb to ts te td tf tr tl tg tx), .p (.agg [.lst fx 36 la, .int .i64 pda, .int .i64 ala]), .p (.agg [.lst fy 36 lb, .int .i64 pdb, .int .i64 alb])] [(0, false), (0, false), (0, true)] [] [] [[.lst false 36 hz]] [] = some ([.p (.agg [.int .i64 0, .int .i64 0, .lst true 36 []]), .p (.int .i64 152)], [], [decide ((IntKind.i64.wrap (pdb + (IntKind.i64.wrap (ts - ala)))) < 0) = true, PCall Try.prog 150 [.lst true 1 [.lst fx 36 la, .lst fy 36 lb]] [.lst false 36 hz], decide ((IntKind.i64.wrap (te - alb)) > 0) = false, decide ((IntKind.i64.wrap (ts - ala)) > 0) = false]) := by kernel_rfl
theorem view_4 (tc ta tb to ts te td tf tr tl tg pda ala pdb alb : Int) (tx : List Int) (la lb hz : List T) (fx fy : Bool): topK (Ch [] [150]) 30 105 [] [.p (trT tc ta tb to ts te td tf tr tl tg tx), .p (.agg [.lst fx 36 la, .int .i64 pda, .int .i64 ala]), .p (.agg [.lst fy 36 lb, .int .i64 pdb, .int .i64 alb])] [(0, false), (0, false), (0, false), (0, true)] [] [] [[.lst false 36 hz]] [] = some ([.p (.agg [.int .i64 0, .int .i64 0, .lst true 36 []]), .p (.int .i64 152)], [], [decide ((IntKind.i64.wrap (pda + (IntKind.i64.wrap (te - alb)))) < 0) = true, decide ((IntKind.i64.wrap (pdb + (IntKind.i64.wrap (ts - ala)))) < 0) = false, PCall Try.prog 150 [.lst true 1 [.lst fx 36 la, .lst fy 36 lb]] [.lst false 36 hz], decide ((IntKind.i64.wrap (te - alb)) > 0) = false, decide ((IntKind.i64.wrap (ts - ala)) > 0) = false]) := by kernel_rfl
theorem view_5 (tc ta tb to ts te td tf tr tl tg pda ala pdb alb : Int) (tx : List Int) (la lb hz : List T) (fx fy : Bool): topK (Ch [] [150]) 30 105 [] [.p (trT tc ta tb to ts te td tf tr tl tg tx), .p (.agg [.lst fx 36 la, .int .i64 pda, .int .i64 ala]), .p (.agg [.lst fy 36 lb, .int .i64 pdb, .int .i64 alb])] [(0, false), (0, false), (0, false), (0, false), (0, true)] [] [] [[.lst false 36 hz]] [] = some ([.p (.agg [.int .i64 0, .int .i64 0, .lst true 36 []]), .p (.int .i64 150)], [], [decide (((la).length : Int) > 16) = true, decide ((IntKind.i64.wrap (pda + (IntKind.i64.wrap (te - alb)))) < 0) = false, decide ((IntKind.i64.wrap (pdb + (IntKind.i64.wrap (ts - ala)))) < 0) = false, PCall Try.prog 150 [.lst true 1 [.lst fx 36 la, .lst fy 36 lb]] [.lst false 36 hz], decide ((IntKind.i64.wrap (te - alb)) > 0) = false, decide ((IntKind.i64.wrap (ts - ala)) > 0) = false]) := by kernel_rfl
theorem view_6 (tc ta tb to ts te td tf tr tl tg pda ala pdb alb : Int) (tx : List Int) (la lb hz : List T) (fx fy : Bool): topK (Ch [] [150]) 30 105 [] [.p (trT tc ta tb to ts te td tf tr tl tg tx), .p (.agg [.lst fx 36 la, .int .i64 pda, .int .i64 ala]), .p (.agg [.lst fy 36 lb, .int .i64 pdb, .int .i64 alb])] [(0, false), (0, false), (0, false), (0, false), (0, false), (0, true)] [] [] [[.lst false 36 hz]] [] = some ([.p (.agg [.int .i64 0, .int .i64 0, .lst true 36 []]), .p (.int .i64 150)], [], [decide (((lb).length : Int) > 16) = true, decide (((la).length : Int) > 16) = false, decide ((IntKind.i64.wrap (pda + (IntKind.i64.wrap (te - alb)))) < 0) = false, decide ((IntKind.i64.wrap (pdb + (IntKind.i64.wrap (ts - ala)))) < 0) = false, PCall Try.prog 150 [.lst true 1 [.lst fx 36 la, .lst fy 36 lb]] [.lst false 36 hz], decide ((IntKind.i64.wrap (te - alb)) > 0) = false, decide ((IntKind.i64.wrap (ts - ala)) > 0) = false]) := by kernel_rfl
theorem view_7 (tc ta tb to ts te td tf tr tl tg pda ala pdb alb : Int) (tx : List Int) (la lb hz : List T) (fx fy : Bool): topK (Ch [] [150]) 30 105 [] [.p (trT tc ta tb to ts te td tf tr tl tg tx), .p (.agg [.lst fx 36 la, .int .i64 pda, .int .i64 ala]), .p (.agg [.lst fy 36 lb, .int .i64 pdb, .int .i64 alb])] [(0, false), (0, true), (0, true)] [] [] [[.lst false 36 hz]] [] = some ([.p (.agg [.int .i64 0, .int .i64 0, .lst true 36 []]), .p (.int .i64 152)], [], [decide ((IntKind.i64.wrap (pdb + (IntKind.i64.wrap (ts - ala)))) < 0) = true, PCall Try.prog 150 [.lst true 1 [.lst fx 36 la, .lst fy 36 lb]] [.lst false 36 hz], decide ((IntKind.i64.wrap (te - alb)) > 0) = true, decide ((IntKind.i64.wrap (ts - ala)) > 0) = false]) := by kernel_rfl
theorem view_8 (tc ta tb to ts te td tf tr tl tg pda ala pdb alb : Int) (tx : List Int) (la lb hz : List T) (fx fy : Bool): topK (Ch [] [150]) 30 105 [] [.p (trT tc ta tb to ts te td tf tr tl tg tx), .p (.agg [.lst fx 36 la, .int .i64 pda, .int .i64 ala]), .p (.agg [.lst fy 36 lb, .int .i64 pdb, .int .i64 alb])] [(0, false), (0, true), (0, false), (0, true)] [] [] [[.lst false 36 hz]] [] = some ([.p (.agg [.int .i64 0, .int .i64 0, .lst true 36 []]), .p (.int .i64 152)], [], [decide ((IntKind.i64.wrap ((IntKind.i64.wrap (te - alb)) + pda)) < 0) = true, decide ((IntKind.i64.wrap (pdb + (IntKind.i64.wrap (ts - ala)))) < 0) = false, PCall Try.prog 150 [.lst true 1 [.lst fx 36 la, .lst fy 36 lb]] [.lst false 36 hz], decide ((IntKind.i64.wrap (te - alb)) > 0) = true, decide ((IntKind.i64.wrap (ts - ala)) > 0) = false]) := by kernel_rfl
theorem view_9 (tc ta tb to ts te td tf tr tl tg pda ala pdb alb : Int) (tx : List Int) (la lb hz : List T) (fx fy : Bool): topK (Ch [] [150]) 30 105 [] [.p (trT tc ta tb to ts te td tf tr tl tg tx), .p (.agg [.lst fx 36 la, .int .i64 pda, .int .i64 ala]), .p (.agg [.lst fy 36 lb, .int .i64 pdb, .int .i64 alb])] [(0, false), (0, true), (0, false), (0, false), (0, true)] [] [] [[.lst false 36 hz]] [] = some ([.p (.agg [.int .i64 0, .int .i64 0, .lst true 36 []]), .p (.int .i64 150)], [], [decide (((la).length : Int) > 16) = true, decide ((IntKind.i64.wrap ((IntKind.i64.wrap (te - alb)) + pda)) < 0) = false, decide ((IntKind.i64.wrap (pdb + (IntKind.i64.wrap (ts - ala)))) < 0) = false, PCall Try.prog 150 [.lst true 1 [.lst fx 36 la, .lst fy 36 lb]] [.lst false 36 hz], decide ((IntKind.i64.wrap (te - alb)) > 0) = true, decide ((IntKind.i64.wrap (ts - ala)) > 0) = false]) := by kernel_rfl
theorem view_10 (tc ta tb to ts te td tf tr tl tg pda ala pdb alb : Int) (tx : List Int) (la lb hz : List T) (fx fy : Bool): topK (Ch [] [150]) 30 105 [] [.p (trT tc ta tb to ts te td tf tr tl tg tx), .p (.agg [.lst fx 36 la, .int .i64 pda, .int .i64 ala]), .p (.agg [.lst fy 36 lb, .int .i64 pdb, .int .i64 alb])] [(0, false), (0, true), (0, false), (0, false), (0, false), (0, true)] [] [] [[.lst false 36 hz]] [] = some ([.p (.agg [.int .i64 0, .int .i64 0, .lst true 36 []]), .p (.int .i64 150)], [], [decide (((lb).length : Int) > 16) = true, decide (((la).length : Int) > 16) = false, decide ((IntKind.i64.wrap ((IntKind.i64.wrap (te - alb)) + pda)) < 0) = false, decide ((IntKind.i64.wrap (pdb + (IntKind.i64.wrap (ts - ala)))) < 0) = false, PCall Try.prog 150 [.lst true 1 [.lst fx 36 la, .lst fy 36 lb]] [.lst false 36 hz], decide ((IntKind.i64.wrap (te - alb)) > 0) = true, decide ((IntKind.i64.wrap (ts - ala)) > 0) = false]) := by kernel_rfl
theorem view_11 (tc ta tb to ts te td tf tr tl tg pda ala pdb alb : Int) (tx : List Int) (la lb hz : List T) (fx fy : Bool): topK (Ch [] [150]) 30 105 [] [.p (trT tc ta tb to ts te td tf tr tl tg tx), .p (.agg [.lst fx 36 la, .int .i64 pda, .int .i64 ala]), .p (.agg [.lst fy 36 lb, .int .i64 pdb, .int .i64 alb])] [(0, true), (0, false), (0, false), (0, false), (0, false), (0, false)] [] [] [[.lst false 36 hz]] [] = some ([.p (.agg [.int .i64 (IntKind.i64.wrap ((IntKind.i64.wrap (ts - ala)) + pdb)), .int .i64 (IntKind.i64.wrap (pda + (IntKind.i64.wrap (te - alb)))), .lst false 36 hz]), .p (.int .i64 0)], [], [decide (((lb).length : Int) > 16) = false, decide (((la).length : Int) > 16) = false, decide ((IntKind.i64.wrap (pda + (IntKind.i64.wrap (te - alb)))) < 0) = false, decide ((IntKind.i64.wrap ((IntKind.i64.wrap (ts - ala)) + pdb)) < 0) = false, PCall Try.prog 150 [.lst true 1 [.lst fx 36 la, .lst fy 36 lb]] [.lst false 36 hz], decide ((IntKind.i64.wrap (te - alb)) > 0) = false, decide ((IntKind.i64.wrap (ts - ala)) > 0) = true]) := by kernel_rfl
theorem view_12 (tc ta tb to ts te td tf tr tl tg pda ala pdb alb : Int) (tx : List Int) (la lb hz : List T) (fx fy : Bool): topK (Ch [] [150]) 30 105 [] [.p (trT tc ta tb to ts te td tf tr tl tg tx), .p (.agg [.lst fx 36 la, .int .i64 pda, .int .i64 ala]), .p (.agg [.lst fy 36 lb, .int .i64 pdb, .int .i64 alb])] [(0, true), (0, false), (0, true)] [] [] [[.lst false 36 hz]] [] = some ([.p (.agg [.int .i64 0, .int .i64 0, .lst true 36 []]), .p (.int .i64 152)], [], [decide ((IntKind.i64.wrap ((IntKind.i64.wrap (ts - ala)) + pdb)) < 0) = true, PCall Try.prog 150 [.lst true 1 [.lst fx 36 la, .lst fy 36 lb]] [.lst false 36 hz], decide ((IntKind.i64.wrap (te - alb)) > 0) = false, decide ((IntKind.i64.wrap (ts - ala)) > 0) = true]) := by kernel_rfl
theorem view_13 (tc ta tb to ts te td tf tr tl tg pda ala pdb alb : Int) (tx : List Int) (la lb hz : List T) (fx fy : Bool): topK (Ch [] [150]) 30 105 [] [.p (trT tc ta tb to ts te td tf tr tl tg tx), .p (.agg [.lst fx 36 la, .int .i64 pda, .int .i64 ala]), .p (.agg [.lst fy 36 lb, .int .i64 pdb, .int .i64 alb])] [(0, true), (0, false), (0, false), (0, true)] [] [] [[.lst false 36 hz]] [] = some ([.p (.agg [.int .i64 0, .int .i64 0, .lst true 36 []]), .p (.int .i64 152)], [], [decide ((IntKind.i64.wrap (pda + (IntKind.i64.wrap (te - alb)))) < 0) = true, decide ((IntKind.i64.wrap ((IntKind.i64.wrap (ts - ala)) + pdb)) < 0) = false, PCall Try.prog 150 [.lst true 1 [.lst fx 36 la, .lst fy 36 lb]] [.lst false 36 hz], decide ((IntKind.i64.wrap (te - alb)) > 0) = false, decide ((IntKind.i64.wrap (ts - ala)) > 0) = true]) := by kernel_rfl
theorem view_14 (tc ta tb to ts te td tf tr tl tg pda ala pdb alb : Int) (tx : List Int) (la lb hz : List T) (fx fy : Bool): topK (Ch [] [150]) 30 105 [] [.p (trT tc ta tb to ts te td tf tr tl tg tx), .p (.agg [.lst fx 36 la, .int .i64 pda, .int .i64 ala]), .p (.agg [.lst fy 36 lb, .int .i64 pdb, .int .i64 alb])] [(0, true), (0, false), (0, false), (0, false), (0, true)] [] [] [[.lst false 36 hz]] [] = some ([.p (.agg [.int .i64 0, .int .i64 0, .lst true 36 []]), .p (.int .i64 150)], [], [decide (((la).length : Int) > 16) = true, decide ((IntKind.i64.wrap (pda + (IntKind.i64.wrap (te - alb)))) < 0) = false, decide ((IntKind.i64.wrap ((IntKind.i64.wrap (ts - ala)) + pdb)) < 0) = false, PCall Try.prog 150 [.lst true 1 [.lst fx 36 la, .lst fy 36 lb]] [.lst false 36 hz], decide ((IntKind.i64.wrap (te - alb)) > 0) = false, decide ((IntKind.i64.wrap (ts - ala)) > 0) = true]) := by kernel_rfl
theorem view_15 (tc ta tb to ts te td tf tr tl tg pda ala pdb alb : Int) (tx : List Int) (la lb hz : List T) (fx fy : Bool): topK (Ch [] [150]) 30 105 [] [.p (trT tc ta tb to ts te td tf tr tl tg tx), .p (.agg [.lst fx 36 la, .int .i64 pda, .int .i64 ala]), .p (.agg [.lst fy 36 lb, .int .i64 pdb, .int .i64 alb])] [(0, true), (0, false), (0, false), (0, false), (0, false), (0, true)] [] [] [[.lst false 36 hz]] [] = some ([.p (.agg [.int .i64 0, .int .i64 0, .lst true 36 []]), .p (.int .i64 150)], [], [decide (((lb).length : Int) > 16) = true, decide (((la).length : Int) > 16) = false, decide ((IntKind.i64.wrap (pda + (IntKind.i64.wrap (te - alb)))) < 0) = false, decide ((IntKind.i64.wrap ((IntKind.i64.wrap (ts - ala)) + pdb)) < 0) = false, PCall Try.prog 150 [.lst true 1 [.lst fx 36 la, .lst fy 36 lb]] [.lst false 36 hz], decide ((IntKind.i64.wrap (te - alb)) > 0) = false, decide ((IntKind.i64.wrap (ts - ala)) > 0) = true]) := by kernel_rfl
theorem view_16 (tc ta tb to ts te td tf tr tl tg pda ala pdb alb : Int) (tx : List Int) (la lb hz : List T) (fx fy : Bool): topK (Ch [] [150]) 30 105 [] [.p (trT tc ta tb to ts te td tf tr tl tg tx), .p (.agg [.lst fx 36 la, .int .i64 pda, .int .i64 ala]), .p (.agg [.lst fy 36 lb, .int .i64 pdb, .int .i64 alb])] [(0, true), (0, true), (0, true)] [] [] [[.lst false 36 hz]] [] = some ([.p (.agg [.int .i64 0, .int .i64 0, .lst true 36 []]), .p (.int .i64 152)], [], [decide ((IntKind.i64.wrap ((IntKind.i64.wrap (ts - ala)) + pdb)) < 0) = true, PCall Try.prog 150 [.lst true 1 [.lst fx 36 la, .lst fy 36 lb]] [.lst false 36 hz], decide ((IntKind.i64.wrap (te - alb)) > 0) = true, decide ((IntKind.i64.wrap (ts - ala)) > 0) = true]) := by kernel_rfl
theorem view_17 (tc ta tb to ts te td tf tr tl tg pda ala pdb alb : Int) (tx : List Int) (la lb hz : List T) (fx fy : Bool): topK (Ch [] [150]) 30 105 [] [.p (trT tc ta tb to ts te td tf tr tl tg tx), .p (.agg [.lst fx 36 la, .int .i64 pda, .int .i64 ala]), .p (.agg [.lst fy 36 lb, .int .i64 pdb, .int .i64 alb])] [(0, true), (0, true), (0, false), (0, true)] [] [] [[.lst false 36 hz]] [] = some ([.p (.agg [.int .i64 0, .int .i64 0, .lst true 36 []]), .p (.int .i64 152)], [], [decide ((IntKind.i64.wrap ((IntKind.i64.wrap (te - alb)) + pda)) < 0) = true, decide ((IntKind.i64.wrap ((IntKind.i64.wrap (ts - ala)) + pdb)) < 0) = false, PCall Try.prog 150 [.lst true 1 [.lst fx 36 la, .lst fy 36 lb]] [.lst false 36 hz], decide ((IntKind.i64.wrap (te - alb)) > 0) = true, decide ((IntKind.i64.wrap (ts - ala)) > 0) = true]) := by kernel_rfl
theorem view_18 (tc ta tb to ts te td tf tr tl tg pda ala pdb alb : Int) (tx : List Int) (la lb hz : List T) (fx fy : Bool): topK (Ch [] [150]) 30 105 [] [.p (trT tc ta tb to ts te td tf tr tl tg tx), .p (.agg [.lst fx 36 la, .int .i64 pda, .int .i64 ala]), .p (.agg [.lst fy 36 lb, .int .i64 pdb, .int .i64 alb])] [(0, true), (0, true), (0, false), (0, false), (0, true)] [] [] [[.lst false 36 hz]] [] = some ([.p (.agg [.int .i64 0, .int .i64 0, .lst true 36 []]), .p (.int .i64 150)], [], [decide (((la).length : Int) > 16) = true, decide ((IntKind.i64.wrap ((IntKind.i64.wrap (te - alb)) + pda)) < 0) = false, decide ((IntKind.i64.wrap ((IntKind.i64.wrap (ts - ala)) + pdb)) < 0) = false, PCall Try.prog 150 [.lst true 1 [.lst fx 36 la, .lst fy 36 lb]] [.lst false 36 hz], decide ((IntKind.i64.wrap (te - alb)) > 0) = true, decide ((IntKind.i64.wrap (ts - ala)) > 0) = true]) := by kernel_rfl
theorem view_19 (tc ta tb to ts te td tf tr tl tg pda ala pdb alb : Int) (tx : List Int) (la lb hz : List T) (fx fy : Bool): topK (Ch [] [150]) 30 105 [] [.p (trT tc ta tb to ts te td tf tr tl tg tx), .p (.agg [.lst fx 36 la, .int .i64 pda, .int .i64 ala]), .p (.agg [.lst fy 36 lb, .int .i64 pdb, .int .i64 alb])] [(0, true), (0, true), (0, false), (0, false), (0, false), (0, true)] [] [] [[.lst false 36 hz]] [] = some ([.p (.agg [.int .i64 0, .int .i64 0, .lst true 36 []]), .p (.int .i64 150)], [], [decide (((lb).length : Int) > 16) = true, decide (((la).length : Int) > 16) = false, decide ((IntKind.i64.wrap ((IntKind.i64.wrap (te - alb)) + pda)) < 0) = false, decide ((IntKind.i64.wrap ((IntKind.i64.wrap (ts - ala)) + pdb)) < 0) = false, PCall Try.prog 150 [.lst true 1 [.lst fx 36 la, .lst fy 36 lb]] [.lst false 36 hz], decide ((IntKind.i64.wrap (te - alb)) > 0) = true, decide ((IntKind.i64.wrap (ts - ala)) > 0) = true]) := by kernel_rfl
theorem Vw_0 (tc ta tb to ts te td tf tr tl tg pda ala pdb alb ra rb n k e f : Int) (tx : List Int) (la lb rh ma mb : List T) (fx fy fr xa xb : Bool): topK (Ch [] [104, 105]) 30 47 [] [.p (trT tc ta tb to ts te td tf tr tl tg tx), .p (.lst xa 137 ma), .p (.lst xb 137 mb), .p (.int .i64 n), .p (.int .i64 k)] [(0, false), (0, false), (0, false), (0, false), (0, false)] [] [] [[.agg [.lst fx 36 la, .int .i64 pda, .int .i64 ala], .agg [.lst fy 36 lb, .int .i64 pdb, .int .i64 alb], .int .i64 e], [.agg [.int .i64 ra, .int .i64 rb, .lst fr 36 rh], .int .i64 f]] [.cut 0 n.toNat, .cut 0 k.toNat] = some ([.p (.agg [.int .i64 ra, .int .i64 rb, .lst fr 36 rh]), .p (.int .i64 f)], [], [PCall Try.prog 105 [trT tc ta tb to ts te td tf tr tl tg tx, .agg [.lst fx 36 la, .int .i64 pda, .int .i64 ala], .agg [.lst fy 36 lb, .int .i64 pdb, .int .i64 alb]] [.agg [.int .i64 ra, .int .i64 rb, .lst fr 36 rh], .int .i64 f], (e != 0) = false, (some (.box (.p (trT tc ta tb to ts te td tf tr tl tg tx))) : Option SObj) = (some (.box (.p (trT tc ta tb to ts te td tf tr tl tg tx))) : Option SObj), (some (.box (.p (trT tc ta tb to ts te td tf tr tl tg tx))) : Option SObj) = (some (.box (.p (trT tc ta tb to ts te td tf tr tl tg tx))) : Option SObj), PCall Try.prog 104 [trT tc ta tb to ts te td tf tr tl tg tx, .lst (xa && (n.toNat == ma.length)) 137 (List.drop 0 (List.take n.toNat ma)), .lst (xb && (k.toNat == mb.length)) 137 (List.drop 0 (List.take k.toNat mb))] [.agg [.lst fx 36 la, .int .i64 pda, .int .i64 ala], .agg [.lst fy 36 lb, .int .i64 pdb, .int .i64 alb], .int .i64 e], (0 : Nat) = 0, k = ((k.toNat : Nat) : Int), 0 ≤ k.toNat, k.toNat ≤ mb.length, (0 : Nat) = 0, n = ((n.toNat : Nat) : Int), 0 ≤ n.toNat, n.toNat ≤ ma.length, decide (k > ((mb).length : Int)) = false, decide (k < 0) = false, decide (n > ((ma).length : Int)) = false, decide (n < 0) = false]) := by kernel_rfl
theorem Vw_1 (tc ta tb to ts te td tf tr tl tg pda ala pdb alb ra rb n k e f : Int) (tx : List Int) (la lb rh ma mb : List T) (fx fy fr xa xb : Bool): topK (Ch [] [104, 105]) 30 47 [] [.p (trT tc ta tb to ts te td tf tr tl tg tx), .p (.lst xa 137 ma), .p (.lst xb 137 mb), .p (.int .i64 n), .p (.int .i64 k)] [(0, true)] [] [] [[.agg [.lst fx 36 la, .int .i64 pda, .int .i64 ala], .agg [.lst fy 36 lb, .int .i64 pdb, .int .i64 alb], .int .i64 e], [.agg [.int .i64 ra, .int .i64 rb, .lst fr 36 rh], .int .i64 f]] [.cut 0 n.toNat, .cut 0 k.toNat] = some ([.p (.agg [.int .i64 0, .int .i64 0, .lst true 36 []]), .p (.int .i64 1)], [], [decide (n < 0) = true]) := by kernel_rfl
theorem Vw_2 (tc ta tb to ts te td tf tr tl tg pda ala pdb alb ra rb n k e f : Int) (tx : List Int) (la lb rh ma mb : List T) (fx fy fr xa xb : Bool): topK (Ch [] [104, 105]) 30 47 [] [.p (trT tc ta tb to ts te td tf tr tl tg tx), .p (.lst xa 137 ma), .p (.lst xb 137 mb), .p (.int .i64 n), .p (.int .i64 k)] [(0, false), (0, true)] [] [] [[.agg [.lst fx 36 la, .int .i64 pda, .int .i64 ala], .agg [.lst fy 36 lb, .int .i64 pdb, .int .i64 alb], .int .i64 e], [.agg [.int .i64 ra, .int .i64 rb, .lst fr 36 rh], .int .i64 f]] [.cut 0 n.toNat, .cut 0 k.toNat] = some ([.p (.agg [.int .i64 0, .int .i64 0, .lst true 36 []]), .p (.int .i64 1)], [], [decide (n > ((ma).length : Int)) = true, decide (n < 0) = false]) := by kernel_rfl
theorem Vw_3 (tc ta tb to ts te td tf tr tl tg pda ala pdb alb ra rb n k e f : Int) (tx : List Int) (la lb rh ma mb : List T) (fx fy fr xa xb : Bool): topK (Ch [] [104, 105]) 30 47 [] [.p (trT tc ta tb to ts te td tf tr tl tg tx), .p (.lst xa 137 ma), .p (.lst xb 137 mb), .p (.int .i64 n), .p (.int .i64 k)] [(0, false), (0, false), (0, true)] [] [] [[.agg [.lst fx 36 la, .int .i64 pda, .int .i64 ala], .agg [.lst fy 36 lb, .int .i64 pdb, .int .i64 alb], .int .i64 e], [.agg [.int .i64 ra, .int .i64 rb, .lst fr 36 rh], .int .i64 f]] [.cut 0 n.toNat, .cut 0 k.toNat] = some ([.p (.agg [.int .i64 0, .int .i64 0, .lst true 36 []]), .p (.int .i64 1)], [], [decide (k < 0) = true, decide (n > ((ma).length : Int)) = false, decide (n < 0) = false]) := by kernel_rfl
theorem Vw_4 (tc ta tb to ts te td tf tr tl tg pda ala pdb alb ra rb n k e f : Int) (tx : List Int) (la lb rh ma mb : List T) (fx fy fr xa xb : Bool): topK (Ch [] [104, 105]) 30 47 [] [.p (trT tc ta tb to ts te td tf tr tl tg tx), .p (.lst xa 137 ma), .p (.lst xb 137 mb), .p (.int .i64 n), .p (.int .i64 k)] [(0, false), (0, false), (0, false), (0, true)] [] [] [[.agg [.lst fx 36 la, .int .i64 pda, .int .i64 ala], .agg [.lst fy 36 lb, .int .i64 pdb, .int .i64 alb], .int .i64 e], [.agg [.int .i64 ra, .int .i64 rb, .lst fr 36 rh], .int .i64 f]] [.cut 0 n.toNat, .cut 0 k.toNat] = some ([.p (.agg [.int .i64 0, .int .i64 0, .lst true 36 []]), .p (.int .i64 1)], [], [decide (k > ((mb).length : Int)) = true, decide (k < 0) = false, decide (n > ((ma).length : Int)) = false, decide (n < 0) = false]) := by kernel_rfl
theorem Vw_5 (tc ta tb to ts te td tf tr tl tg pda ala pdb alb ra rb n k e f : Int) (tx : List Int) (la lb rh ma mb : List T) (fx fy fr xa xb : Bool): topK (Ch [] [104, 105]) 30 47 [] [.p (trT tc ta tb to ts te td tf tr tl tg tx), .p (.lst xa 137 ma), .p (.lst xb 137 mb), .p (.int .i64 n), .p (.int .i64 k)] [(0, false), (0, false), (0, false), (0, false), (0, true)] [] [] [[.agg [.lst fx 36 la, .int .i64 pda, .int .i64 ala], .agg [.lst fy 36 lb, .int .i64 pdb, .int .i64 alb], .int .i64 e], [.agg [.int .i64 ra, .int .i64 rb, .lst fr 36 rh], .int .i64 f]] [.cut 0 n.toNat, .cut 0 k.toNat] = some ([.p (.agg [.int .i64 0, .int .i64 0, .lst true 36 []]), .p (.int .i64 e)], [], [(e != 0) = true, (some (.box (.p (trT tc ta tb to ts te td tf tr tl tg tx))) : Option SObj) = (some (.box (.p (trT tc ta tb to ts te td tf tr tl tg tx))) : Option SObj), (some (.box (.p (trT tc ta tb to ts te td tf tr tl tg tx))) : Option SObj) = (some (.box (.p (trT tc ta tb to ts te td tf tr tl tg tx))) : Option SObj), PCall Try.prog 104 [trT tc ta tb to ts te td tf tr tl tg tx, .lst (xa && (n.toNat == ma.length)) 137 (List.drop 0 (List.take n.toNat ma)), .lst (xb && (k.toNat == mb.length)) 137 (List.drop 0 (List.take k.toNat mb))] [.agg [.lst fx 36 la, .int .i64 pda, .int .i64 ala], .agg [.lst fy 36 lb, .int .i64 pdb, .int .i64 alb], .int .i64 e], (0 : Nat) = 0, k = ((k.toNat : Nat) : Int), 0 ≤ k.toNat, k.toNat ≤ mb.length, (0 : Nat) = 0, n = ((n.toNat : Nat) : Int), 0 ≤ n.toNat, n.toNat ≤ ma.length, decide (k > ((mb).length : Int)) = false, decide (k < 0) = false, decide (n > ((ma).length : Int)) = false, decide (n < 0) = false]) := by kernel_rfl
theorem sumZ (tc ta tb to ts te td tf tr tl tg ra rb n k e : Int) (tx : List Int) (rh ma mb : List T) (fr xa xb : Bool): topK (Ch [] [47, 49]) 30 8 [] [.p (trT tc ta tb to ts te td tf tr tl tg tx), .p (.lst xa 137 ma), .p (.lst xb 137 mb), .p (.int .i64 n), .p (.int .i64 k)] [(1, true)] [] [] [[.agg [.int .i64 ra, .int .i64 rb, .lst fr 36 rh], .int .i64 e], [.bool true], [.bool true]] [] = some ([.rb true], [], [PCall Try.prog 49 [] [.bool true], (e != 0) = true, PCall Try.prog 49 [] [.bool true], PCall Try.prog 47 [trT tc ta tb to ts te td tf tr tl tg tx, .lst xa 137 ma, .lst xb 137 mb, .int .i64 n, .int .i64 k] [.agg [.int .i64 ra, .int .i64 rb, .lst fr 36 rh], .int .i64 e]]) := by kernel_rfl
theorem sumB (tc ta tb to ts te td tf tr tl tg ra rb i lf hb hi hm he : Int) (tx hh : List Int) (rh : List T) (fr : Bool): bodyK (Ch [((27, 69), H.t ⟨hb, hi, hm, hh, he⟩), ((27, 75), H.t ⟨hb, hi, hm, hh, he⟩), ((27, 88), H.t ⟨hb, hi, hm, hh, he⟩)] [55]) 30 8 0 (loopAt Try.f8 0) ⟨111, [(11, .ptr 1 0), (13, .p (.int .i64 lf)), (14, .p (.int .i64 i))], [.box (.p (trT tc ta tb to ts te td tf tr tl tg tx)), .box (.p (.agg [.int .i64 ra, .int .i64 rb, .lst fr 36 rh]))]⟩ [(0, true), (1, false), (0, false), (0, false)] [] [11, 13, 14] [] [[H.t ⟨hb, hi, hm, hh, he⟩, .bool true]] [] = some (.normal, ⟨111, [(14, .p (.int .i64 (IntKind.i64.wrap (i + 1)))), (11, .ptr 1 0), (13, .p (.int .i64 (IntKind.i64.wrap (lf - hm))))], [.box (.p (trT tc ta tb to ts te td tf tr tl tg tx)), .box (.p (.agg [.int .i64 ra, .int .i64 rb, .lst fr 36 rh])), .box (.p (H.t ⟨hb, hi, hm, hh, he⟩))]⟩, [decide (hm < 1) = false, decide (hm > lf) = false, (!T.eqB (H.t ⟨hb, hi, hm, hh, he⟩) (H.t ⟨hb, hi, hm, hh, he⟩)) = false, (0 : Int) ≤ i ∧ rh[(i : Int).toNat]? = some (H.t ⟨hb, hi, hm, hh, he⟩), PCall Try.prog 55 [.agg [.int .i64 ra, .int .i64 rb, .lst fr 36 rh], .int .i64 hb, .int .i64 hi] [H.t ⟨hb, hi, hm, hh, he⟩, .bool true], (0 : Int) ≤ i ∧ rh[(i : Int).toNat]? = some (H.t ⟨hb, hi, hm, hh, he⟩), (0 : Int) ≤ i ∧ rh[(i : Int).toNat]? = some (H.t ⟨hb, hi, hm, hh, he⟩), decide (i < ((rh).length : Int)) = true]) := by kernel_rfl
theorem sumX (tc ta tb to ts te td tf tr tl tg ra rb i lf : Int) (tx : List Int) (rh : List T) (fr : Bool): bodyK (Ch [] []) 30 8 0 (loopAt Try.f8 0) ⟨111, [(11, .ptr 1 0), (13, .p (.int .i64 lf)), (14, .p (.int .i64 i))], [.box (.p (trT tc ta tb to ts te td tf tr tl tg tx)), .box (.p (.agg [.int .i64 ra, .int .i64 rb, .lst fr 36 rh]))]⟩ [(0, false)] [] [11, 13, 14] [] [] [] = some (.exit 0, ⟨111, [(14, .p (.int .i64 i)), (11, .ptr 1 0), (13, .p (.int .i64 lf))], [.box (.p (trT tc ta tb to ts te td tf tr tl tg tx)), .box (.p (.agg [.int .i64 ra, .int .i64 rb, .lst fr 36 rh]))]⟩, [decide (i < ((rh).length : Int)) = false]) := by kernel_rfl
theorem sumT (tc ta tb to ts te td tf tr tl tg ra rb n k i : Int) (tx : List Int) (rh ma mb : List T) (fr xa xb : Bool): topK (Ch [] [47, 49]) 30 8 [] [.p (trT tc ta tb to ts te td tf tr tl tg tx), .p (.lst xa 137 ma), .p (.lst xb 137 mb), .p (.int .i64 n), .p (.int .i64 k)] [(2, false), (0, false), (0, false)] [some ([11, 13, 14], .exit 0, ⟨111, [(11, .ptr 1 0), (13, .p (.int .i64 0)), (14, .p (.int .i64 i))], [.box (.p (trT tc ta tb to ts te td tf tr tl tg tx)), .box (.p (.agg [.int .i64 ra, .int .i64 rb, .lst fr 36 rh]))]⟩)] [] [[.agg [.int .i64 ra, .int .i64 rb, .lst fr 36 rh], .int .i64 0], [.bool true]] [] = some ([.rb true], [], [LoopG Try.prog 0 (loopAt Try.f8 0) ⟨111, [(14, .p (.int .i64 0)), (13, .p (.int .i64 (IntKind.i64.wrap ((IntKind.i64.wrap ((IntKind.i64.wrap (ts + te)) - ra)) - rb)))), (11, .ptr 1 0)], [.box (.p (trT tc ta tb to ts te td tf tr tl tg tx)), .box (.p (.agg [.int .i64 ra, .int .i64 rb, .lst fr 36 rh]))]⟩ (.exit 0) ⟨111, [(11, .ptr 1 0), (13, .p (.int .i64 0)), (14, .p (.int .i64 i))], [.box (.p (trT tc ta tb to ts te td tf tr tl tg tx)), .box (.p (.agg [.int .i64 ra, .int .i64 rb, .lst fr 36 rh]))]⟩, decide (rb > (IntKind.i64.wrap ((IntKind.i64.wrap (ts + te)) - ra))) = false, decide (rb < 0) = false, decide (ra < 0) = false, PCall Try.prog 49 [] [.bool true], PCall Try.prog 47 [trT tc ta tb to ts te td tf tr tl tg tx, .lst xa 137 ma, .lst xb 137 mb, .int .i64 n, .int .i64 k] [.agg [.int .i64 ra, .int .i64 rb, .lst fr 36 rh], .int .i64 0]]) := by kernel_rfl

/-- slices.Concat of two lists. -/
theorem concat_ok (hx hy : List T) (fx fy : Bool) (hb : (hx.length + hy.length) * 64 ≤ 140737488355328) : PCall Try.prog 150 [.lst true 1 [.lst fx 36 hx, .lst fy 36 hy]] [.lst false 36 (hx ++ hy)] := by
  have w1 : IntKind.i64.wrap (0 + (hx.length : Int)) = (hx.length : Int) := by rw [Int.zero_add]; exact w64 (by omega) (by omega)
  have w2 : IntKind.i64.wrap ((hx.length : Int) + (hy.length : Int)) = ((hx.length + hy.length : Nat) : Int) := by rw [← Int.natCast_add]; exact w64 (by omega) (by omega)
  rcases Nat.eq_zero_or_pos (hx.length + hy.length) with h0 | h0
  · obtain rfl : hx = [] := List.eq_nil_of_length_eq_zero (by omega)
    obtain rfl : hy = [] := List.eq_nil_of_length_eq_zero (by omega)
    exact (topK_sound (Ch_ok _ _) (conN fx fy) ⟨by omega, by omega, grow_none [], trivial⟩).pure (k := 64) rfl
  · refine (topK_sound (Ch_ok _ _) (conS hx hy fx fy) ⟨by omega, by omega, ?_, ?_, ?_, trivial⟩).pure (k := 64) rfl
    · rw [w1, w2]; exact grow_some [] _ h0 hb
    · rw [w1, w2]; simp <;> omega
    · rw [w1]; simp <;> omega


def zV : T := .agg [.int .i64 0, .int .i64 0, .lst true 36 []]
def leftI (st al pd : Int) : Int := bif decide (IntKind.i64.wrap (st - al) > 0) then IntKind.i64.wrap (IntKind.i64.wrap (st - al) + pd) else IntKind.i64.wrap (pd + IntKind.i64.wrap (st - al))
/-- What view gives. -/
def viewE (va vb : Int) (la lb : List T) : List T :=
  bif decide (va < 0) then [zV, .int .i64 152] else bif decide (vb < 0) then [zV, .int .i64 152] else
  bif decide ((la.length : Int) > 16) then [zV, .int .i64 150] else bif decide ((lb.length : Int) > 16) then [zV, .int .i64 150] else
  [.agg [.int .i64 va, .int .i64 vb, .lst false 36 (la ++ lb)], .int .i64 0]
def viewR (ts te : Int) (la lb : List T) (pda ala pdb alb : Int) : List T := viewE (leftI ts ala pdb) (leftI te alb pda) la lb
theorem view_ok (tc ta tb to ts te td tf tr tl tg : Int) (tx : List Int) (la lb : List T) (fx fy : Bool) (pda ala pdb alb : Int) (hb : (la.length + lb.length) * 64 ≤ 140737488355328) :
    PCall Try.prog 105 [trT tc ta tb to ts te td tf tr tl tg tx, .agg [.lst fx 36 la, .int .i64 pda, .int .i64 ala], .agg [.lst fy 36 lb, .int .i64 pdb, .int .i64 alb]] (viewR ts te la lb pda ala pdb alb) := by
  have hc := concat_ok la lb fx fy hb
  unfold viewR leftI
  cases c0 : decide ((IntKind.i64.wrap (ts - ala)) > 0) with
  | true =>
    cases c1 : decide ((IntKind.i64.wrap (te - alb)) > 0) with
    | true =>
      cases c2 : decide ((IntKind.i64.wrap ((IntKind.i64.wrap (ts - ala)) + pdb)) < 0) with
      | true =>
        simp only [c0, c1, c2, viewE, cond_true, cond_false]
        exact (topK_sound (Ch_ok _ _) (view_16 tc ta tb to ts te td tf tr tl tg pda ala pdb alb tx la lb (la ++ lb) fx fy) ⟨c2, hc, c1, c0, trivial⟩).pure (k := 64) rfl
      | false =>
        cases c3 : decide ((IntKind.i64.wrap ((IntKind.i64.wrap (te - alb)) + pda)) < 0) with
        | true =>
          simp only [c0, c1, c2, c3, viewE, cond_true, cond_false]
          exact (topK_sound (Ch_ok _ _) (view_17 tc ta tb to ts te td tf tr tl tg pda ala pdb alb tx la lb (la ++ lb) fx fy) ⟨c3, c2, hc, c1, c0, trivial⟩).pure (k := 64) rfl
        | false =>
          cases c4 : decide (((la).length : Int) > 16) with
          | true =>
            simp only [c0, c1, c2, c3, c4, viewE, cond_true, cond_false]
            exact (topK_sound (Ch_ok _ _) (view_18 tc ta tb to ts te td tf tr tl tg pda ala pdb alb tx la lb (la ++ lb) fx fy) ⟨c4, c3, c2, hc, c1, c0, trivial⟩).pure (k := 64) rfl
          | false =>
            cases c5 : decide (((lb).length : Int) > 16) with
            | true =>
              simp only [c0, c1, c2, c3, c4, c5, viewE, cond_true, cond_false]
              exact (topK_sound (Ch_ok _ _) (view_19 tc ta tb to ts te td tf tr tl tg pda ala pdb alb tx la lb (la ++ lb) fx fy) ⟨c5, c4, c3, c2, hc, c1, c0, trivial⟩).pure (k := 64) rfl
            | false =>
              simp only [c0, c1, c2, c3, c4, c5, viewE, cond_true, cond_false]
              exact (topK_sound (Ch_ok _ _) (view_0 tc ta tb to ts te td tf tr tl tg pda ala pdb alb tx la lb (la ++ lb) fx fy) ⟨c5, c4, c3, c2, hc, c1, c0, trivial⟩).pure (k := 64) rfl
    | false =>
      cases c2 : decide ((IntKind.i64.wrap ((IntKind.i64.wrap (ts - ala)) + pdb)) < 0) with
      | true =>
        simp only [c0, c1, c2, viewE, cond_true, cond_false]
        exact (topK_sound (Ch_ok _ _) (view_12 tc ta tb to ts te td tf tr tl tg pda ala pdb alb tx la lb (la ++ lb) fx fy) ⟨c2, hc, c1, c0, trivial⟩).pure (k := 64) rfl
      | false =>
        cases c3 : decide ((IntKind.i64.wrap (pda + (IntKind.i64.wrap (te - alb)))) < 0) with
        | true =>
          simp only [c0, c1, c2, c3, viewE, cond_true, cond_false]
          exact (topK_sound (Ch_ok _ _) (view_13 tc ta tb to ts te td tf tr tl tg pda ala pdb alb tx la lb (la ++ lb) fx fy) ⟨c3, c2, hc, c1, c0, trivial⟩).pure (k := 64) rfl
        | false =>
          cases c4 : decide (((la).length : Int) > 16) with
          | true =>
            simp only [c0, c1, c2, c3, c4, viewE, cond_true, cond_false]
            exact (topK_sound (Ch_ok _ _) (view_14 tc ta tb to ts te td tf tr tl tg pda ala pdb alb tx la lb (la ++ lb) fx fy) ⟨c4, c3, c2, hc, c1, c0, trivial⟩).pure (k := 64) rfl
          | false =>
            cases c5 : decide (((lb).length : Int) > 16) with
            | true =>
              simp only [c0, c1, c2, c3, c4, c5, viewE, cond_true, cond_false]
              exact (topK_sound (Ch_ok _ _) (view_15 tc ta tb to ts te td tf tr tl tg pda ala pdb alb tx la lb (la ++ lb) fx fy) ⟨c5, c4, c3, c2, hc, c1, c0, trivial⟩).pure (k := 64) rfl
            | false =>
              simp only [c0, c1, c2, c3, c4, c5, viewE, cond_true, cond_false]
              exact (topK_sound (Ch_ok _ _) (view_11 tc ta tb to ts te td tf tr tl tg pda ala pdb alb tx la lb (la ++ lb) fx fy) ⟨c5, c4, c3, c2, hc, c1, c0, trivial⟩).pure (k := 64) rfl
  | false =>
    cases c1 : decide ((IntKind.i64.wrap (te - alb)) > 0) with
    | true =>
      cases c2 : decide ((IntKind.i64.wrap (pdb + (IntKind.i64.wrap (ts - ala)))) < 0) with
      | true =>
        simp only [c0, c1, c2, viewE, cond_true, cond_false]
        exact (topK_sound (Ch_ok _ _) (view_7 tc ta tb to ts te td tf tr tl tg pda ala pdb alb tx la lb (la ++ lb) fx fy) ⟨c2, hc, c1, c0, trivial⟩).pure (k := 64) rfl
      | false =>
        cases c3 : decide ((IntKind.i64.wrap ((IntKind.i64.wrap (te - alb)) + pda)) < 0) with
        | true =>
          simp only [c0, c1, c2, c3, viewE, cond_true, cond_false]
          exact (topK_sound (Ch_ok _ _) (view_8 tc ta tb to ts te td tf tr tl tg pda ala pdb alb tx la lb (la ++ lb) fx fy) ⟨c3, c2, hc, c1, c0, trivial⟩).pure (k := 64) rfl
        | false =>
          cases c4 : decide (((la).length : Int) > 16) with
          | true =>
            simp only [c0, c1, c2, c3, c4, viewE, cond_true, cond_false]
            exact (topK_sound (Ch_ok _ _) (view_9 tc ta tb to ts te td tf tr tl tg pda ala pdb alb tx la lb (la ++ lb) fx fy) ⟨c4, c3, c2, hc, c1, c0, trivial⟩).pure (k := 64) rfl
          | false =>
            cases c5 : decide (((lb).length : Int) > 16) with
            | true =>
              simp only [c0, c1, c2, c3, c4, c5, viewE, cond_true, cond_false]
              exact (topK_sound (Ch_ok _ _) (view_10 tc ta tb to ts te td tf tr tl tg pda ala pdb alb tx la lb (la ++ lb) fx fy) ⟨c5, c4, c3, c2, hc, c1, c0, trivial⟩).pure (k := 64) rfl
            | false =>
              simp only [c0, c1, c2, c3, c4, c5, viewE, cond_true, cond_false]
              exact (topK_sound (Ch_ok _ _) (view_1 tc ta tb to ts te td tf tr tl tg pda ala pdb alb tx la lb (la ++ lb) fx fy) ⟨c5, c4, c3, c2, hc, c1, c0, trivial⟩).pure (k := 64) rfl
    | false =>
      cases c2 : decide ((IntKind.i64.wrap (pdb + (IntKind.i64.wrap (ts - ala)))) < 0) with
      | true =>
        simp only [c0, c1, c2, viewE, cond_true, cond_false]
        exact (topK_sound (Ch_ok _ _) (view_3 tc ta tb to ts te td tf tr tl tg pda ala pdb alb tx la lb (la ++ lb) fx fy) ⟨c2, hc, c1, c0, trivial⟩).pure (k := 64) rfl
      | false =>
        cases c3 : decide ((IntKind.i64.wrap (pda + (IntKind.i64.wrap (te - alb)))) < 0) with
        | true =>
          simp only [c0, c1, c2, c3, viewE, cond_true, cond_false]
          exact (topK_sound (Ch_ok _ _) (view_4 tc ta tb to ts te td tf tr tl tg pda ala pdb alb tx la lb (la ++ lb) fx fy) ⟨c3, c2, hc, c1, c0, trivial⟩).pure (k := 64) rfl
        | false =>
          cases c4 : decide (((la).length : Int) > 16) with
          | true =>
            simp only [c0, c1, c2, c3, c4, viewE, cond_true, cond_false]
            exact (topK_sound (Ch_ok _ _) (view_5 tc ta tb to ts te td tf tr tl tg pda ala pdb alb tx la lb (la ++ lb) fx fy) ⟨c4, c3, c2, hc, c1, c0, trivial⟩).pure (k := 64) rfl
          | false =>
            cases c5 : decide (((lb).length : Int) > 16) with
            | true =>
              simp only [c0, c1, c2, c3, c4, c5, viewE, cond_true, cond_false]
              exact (topK_sound (Ch_ok _ _) (view_6 tc ta tb to ts te td tf tr tl tg pda ala pdb alb tx la lb (la ++ lb) fx fy) ⟨c5, c4, c3, c2, hc, c1, c0, trivial⟩).pure (k := 64) rfl
            | false =>
              simp only [c0, c1, c2, c3, c4, c5, viewE, cond_true, cond_false]
              exact (topK_sound (Ch_ok _ _) (view_2 tc ta tb to ts te td tf tr tl tg pda ala pdb alb tx la lb (la ++ lb) fx fy) ⟨c5, c4, c3, c2, hc, c1, c0, trivial⟩).pure (k := 64) rfl

theorem ViewR_arg (tc ta tb to ts te td tf tr tl tg n k : Int) (tx : List Int) (ma mb : List T) (xa xb : Bool) (h : n < 0 ∨ n > (ma.length : Int) ∨ k < 0 ∨ k > (mb.length : Int)) :
    PCall Try.prog 47 [trT tc ta tb to ts te td tf tr tl tg tx, .lst xa 137 ma, .lst xb 137 mb, .int .i64 n, .int .i64 k] [zV, .int .i64 1] := by
  cases c0 : decide (n < 0) with
  | true =>
    exact (topK_sound (Ch_ok _ _) (Vw_1 tc ta tb to ts te td tf tr tl tg 0 0 0 0 0 0 n k 0 0 tx [] [] [] ma mb true true true xa xb) ⟨c0, trivial⟩).pure (k := 64) rfl
  | false =>
    cases c1 : decide (n > ((ma).length : Int)) with
    | true =>
      exact (topK_sound (Ch_ok _ _) (Vw_2 tc ta tb to ts te td tf tr tl tg 0 0 0 0 0 0 n k 0 0 tx [] [] [] ma mb true true true xa xb) ⟨c1, c0, trivial⟩).pure (k := 64) rfl
    | false =>
      cases c2 : decide (k < 0) with
      | true =>
        exact (topK_sound (Ch_ok _ _) (Vw_3 tc ta tb to ts te td tf tr tl tg 0 0 0 0 0 0 n k 0 0 tx [] [] [] ma mb true true true xa xb) ⟨c2, c1, c0, trivial⟩).pure (k := 64) rfl
      | false =>
        cases c3 : decide (k > ((mb).length : Int)) with
        | true =>
          exact (topK_sound (Ch_ok _ _) (Vw_4 tc ta tb to ts te td tf tr tl tg 0 0 0 0 0 0 n k 0 0 tx [] [] [] ma mb true true true xa xb) ⟨c3, c2, c1, c0, trivial⟩).pure (k := 64) rfl
        | false =>
          simp only [decide_eq_false_iff_not] at c0 c1 c2 c3
          omega

theorem ViewR_err (tc ta tb to ts te td tf tr tl tg n k e : Int) (tx : List Int) (ma mb : List T) (xa xb fx fy : Bool) (la lb : List T) (pda ala pdb alb : Int) (h1 : 0 ≤ n) (h2 : n ≤ (ma.length : Int)) (h3 : 0 ≤ k) (h4 : k ≤ (mb.length : Int)) (he : (e != 0) = true)
    (hl : PCall Try.prog 104 [trT tc ta tb to ts te td tf tr tl tg tx, .lst (xa && (n.toNat == ma.length)) 137 (ma.take n.toNat), .lst (xb && (k.toNat == mb.length)) 137 (mb.take k.toNat)] [.agg [.lst fx 36 la, .int .i64 pda, .int .i64 ala], .agg [.lst fy 36 lb, .int .i64 pdb, .int .i64 alb], .int .i64 e]) :
    PCall Try.prog 47 [trT tc ta tb to ts te td tf tr tl tg tx, .lst xa 137 ma, .lst xb 137 mb, .int .i64 n, .int .i64 k] [zV, .int .i64 e] :=
  (topK_sound (Ch_ok _ _) (Vw_5 tc ta tb to ts te td tf tr tl tg pda ala pdb alb 0 0 n k e 0 tx la lb [] ma mb fx fy true xa xb) ⟨he, rfl, rfl, hl, rfl, (by omega), (by omega), (by omega), rfl, (by omega), (by omega), (by omega), (by simp; omega), (by simp; omega), (by simp; omega), (by simp; omega), trivial⟩).pure (k := 64) rfl

theorem ViewR_go (tc ta tb to ts te td tf tr tl tg n k : Int) (tx : List Int) (ma mb : List T) (xa xb fx fy fr : Bool) (la lb rh : List T) (pda ala pdb alb ra rb f : Int) (h1 : 0 ≤ n) (h2 : n ≤ (ma.length : Int)) (h3 : 0 ≤ k) (h4 : k ≤ (mb.length : Int))
    (hl : PCall Try.prog 104 [trT tc ta tb to ts te td tf tr tl tg tx, .lst (xa && (n.toNat == ma.length)) 137 (ma.take n.toNat), .lst (xb && (k.toNat == mb.length)) 137 (mb.take k.toNat)] [.agg [.lst fx 36 la, .int .i64 pda, .int .i64 ala], .agg [.lst fy 36 lb, .int .i64 pdb, .int .i64 alb], .int .i64 0])
    (hv : PCall Try.prog 105 [trT tc ta tb to ts te td tf tr tl tg tx, .agg [.lst fx 36 la, .int .i64 pda, .int .i64 ala], .agg [.lst fy 36 lb, .int .i64 pdb, .int .i64 alb]] [.agg [.int .i64 ra, .int .i64 rb, .lst fr 36 rh], .int .i64 f]) :
    PCall Try.prog 47 [trT tc ta tb to ts te td tf tr tl tg tx, .lst xa 137 ma, .lst xb 137 mb, .int .i64 n, .int .i64 k] [.agg [.int .i64 ra, .int .i64 rb, .lst fr 36 rh], .int .i64 f] :=
  have he : ((0 : Int) != 0) = false := rfl
  (topK_sound (Ch_ok _ _) (Vw_0 tc ta tb to ts te td tf tr tl tg pda ala pdb alb ra rb n k 0 f tx la lb rh ma mb fx fy fr xa xb) ⟨hv, he, rfl, rfl, hl, rfl, (by omega), (by omega), (by omega), rfl, (by omega), (by omega), (by omega), (by simp; omega), (by simp; omega), (by simp; omega), (by simp; omega), trivial⟩).pure (k := 64) rfl

end Go.HM.Up

namespace Go.HM.Up
open Go.Proofs

structure Sd where
  hs : List Msg
  pd : Int
  al : Int
def Sd.z : Sd := ⟨[], 0, 0⟩
def Sd.t (wh : Int) (s : Sd) : T := sdT wh s.hs s.pd s.al
theorem sdT_eq (wh : Int) (hs : List Msg) (pd al : Int) : sdT wh hs pd al = .agg [.lst hs.isEmpty 36 (hs.map (hT wh)), .int .i64 pd, .int .i64 al] := by cases hs <;> rfl

/-- What look finds: why not; both sides. -/
def lookS (m : Bool) (ta tb : Int) (a b : List Msg) : Int × Sd × Sd := match m, rd a [], rd b [] with
  | true, some p, some q => match stl ((q.map Msg.t).length : Int) a [] with
    | none => (4, .z, .z)
    | some mp => match stl ((p.map Msg.t).length : Int) b [] with
      | none => (4, .z, .z)
      | some mq => match ofG mq ta p [] 0 0 with
        | none => (20, .z, .z)
        | some (hs, pd, al) => match ofG mp tb q [] 0 0 with
          | none => (20, ⟨hs, pd, al⟩, .z)
          | some (h2, pd2, al2) => (0, ⟨hs, pd, al⟩, ⟨h2, pd2, al2⟩)
  | _, _, _ => (1, .z, .z)
theorem lookR_eq (m : Bool) (ta tb : Int) (a b : List Msg) : lookR m ta tb a b = [(lookS m ta tb a b).2.1.t ta, (lookS m ta tb a b).2.2.t tb, .int .i64 (lookS m ta tb a b).1] := by
  unfold lookR lookS
  cases m with
  | false => rfl
  | true => cases rd a [] with
    | none => rfl
    | some p => cases rd b [] with
      | none => rfl
      | some q =>
        simp only
        cases stl ((q.map Msg.t).length : Int) a [] with
        | none => rfl
        | some mp =>
          simp only
          cases stl ((p.map Msg.t).length : Int) b [] with
          | none => rfl
          | some mq =>
            simp only
            cases ofG mq ta p [] 0 0 with
            | none => rfl
            | some x =>
              obtain ⟨hs, pd, al⟩ := x
              simp only
              cases ofG mp tb q [] 0 0 with
              | none => rfl
              | some y => rfl

def hH (wh : Int) (m : Msg) : H := ⟨wh, m.id, m.am, m.hh, m.ex⟩
theorem hT_map (wh : Int) (l : List Msg) : l.map (hT wh) = (l.map (hH wh)).map H.t := by rw [List.map_map]; rfl


theorem ofG_le (ns : List (Int × Int)) (wh : Int) : ∀ (us hs : List Msg) (pd al : Int) (r : List Msg × Int × Int), ofG ns wh us hs pd al = some r → r.1.length ≤ hs.length + us.length
  | [], hs, pd, al, r, h => by simp only [ofG, Option.some.injEq] at h; subst h; simp
  | m :: us, hs, pd, al, r, h => by
    simp only [ofG] at h
    cases c1 : look ns m.id == 3 with
    | true => rw [c1] at h; have := ofG_le ns wh us _ _ _ _ h; simp; omega
    | false =>
      rw [c1] at h
      cases c2 : (Deal.add al m.am).2 != 0 with
      | true => rw [c2] at h; cases h
      | false =>
        rw [c2] at h
        cases c3 : look ns m.id == 2 with
        | true => rw [c3] at h; have := ofG_le ns wh us _ _ _ _ h; simp; omega
        | false => rw [c3] at h; have := ofG_le ns wh us _ _ _ _ h; simp at this ⊢; omega

theorem lookS_le (m : Bool) (ta tb : Int) (a b : List Msg) : (lookS m ta tb a b).2.1.hs.length ≤ a.length ∧ (lookS m ta tb a b).2.2.hs.length ≤ b.length := by
  unfold lookS
  cases m with
  | false => simp [Sd.z]
  | true => cases ea : rd a [] with
    | none => simp [Sd.z]
    | some p => cases eb : rd b [] with
      | none => simp [Sd.z]
      | some q =>
        have hp := rd_le a [] p ea
        have hq := rd_le b [] q eb
        simp only
        cases stl ((q.map Msg.t).length : Int) a [] with
        | none => simp [Sd.z]
        | some mp =>
          simp only
          cases stl ((p.map Msg.t).length : Int) b [] with
          | none => simp [Sd.z]
          | some mq =>
            simp only
            cases e1 : ofG mq ta p [] 0 0 with
            | none => simp [Sd.z]
            | some x =>
              have h1 := ofG_le _ _ _ _ _ _ _ e1
              obtain ⟨hs, pd, al⟩ := x
              simp only
              cases e2 : ofG mp tb q [] 0 0 with
              | none => simp [Sd.z] at *; omega
              | some y =>
                have h2 := ofG_le _ _ _ _ _ _ _ e2
                obtain ⟨h2', pd2, al2⟩ := y
                simp at *
                omega

/-- What view finds: why not; what both have. -/
def viewS (ts te : Int) (x y : Sd) : Int × Int × Int :=
  bif decide (leftI ts x.al y.pd < 0) then (152, 0, 0) else bif decide (leftI te y.al x.pd < 0) then (152, 0, 0) else
  bif decide ((x.hs.length : Int) > 16) then (150, 0, 0) else bif decide ((y.hs.length : Int) > 16) then (150, 0, 0) else (0, leftI ts x.al y.pd, leftI te y.al x.pd)
/-- What View gives: why not; what both have; what is on its way. -/
def vwS (m : Bool) (ta tb ts te : Int) (a b : List Msg) (n k : Int) : Int × Int × Int × List H :=
  bif decide (n < 0) || decide (n > (a.length : Int)) || decide (k < 0) || decide (k > (b.length : Int)) then (1, 0, 0, []) else
  bif (lookS m ta tb (a.take n.toNat) (b.take k.toNat)).1 != 0 then ((lookS m ta tb (a.take n.toNat) (b.take k.toNat)).1, 0, 0, []) else
  bif (viewS ts te (lookS m ta tb (a.take n.toNat) (b.take k.toNat)).2.1 (lookS m ta tb (a.take n.toNat) (b.take k.toNat)).2.2).1 != 0 then ((viewS ts te (lookS m ta tb (a.take n.toNat) (b.take k.toNat)).2.1 (lookS m ta tb (a.take n.toNat) (b.take k.toNat)).2.2).1, 0, 0, []) else
  (0, (viewS ts te (lookS m ta tb (a.take n.toNat) (b.take k.toNat)).2.1 (lookS m ta tb (a.take n.toNat) (b.take k.toNat)).2.2).2.1, (viewS ts te (lookS m ta tb (a.take n.toNat) (b.take k.toNat)).2.1 (lookS m ta tb (a.take n.toNat) (b.take k.toNat)).2.2).2.2,
    (lookS m ta tb (a.take n.toNat) (b.take k.toNat)).2.1.hs.map (hH ta) ++ (lookS m ta tb (a.take n.toNat) (b.take k.toNat)).2.2.hs.map (hH tb))
def vwT (r : Int × Int × Int × List H) : List T := [.agg [.int .i64 r.2.1, .int .i64 r.2.2.1, .lst (r.1 != 0) 36 (r.2.2.2.map H.t)], .int .i64 r.1]

theorem View_ok (tc ta tb to ts te td tf tr tl tg n k : Int) (tx : List Int) (a b : List Msg) (xa xb m : Bool) (ha : a.length * 232 ≤ 140737488355328) (hb : b.length * 232 ≤ 140737488355328)
    (hm : PCall Try.prog 18 [trT tc ta tb to ts te td tf tr tl tg tx] [.bool m]) :
    PCall Try.prog 47 [trT tc ta tb to ts te td tf tr tl tg tx, .lst xa 137 (a.map Msg.t), .lst xb 137 (b.map Msg.t), .int .i64 n, .int .i64 k] (vwT (vwS m ta tb ts te a b n k)) := by
  unfold vwS
  cases c1 : (decide (n < 0) || decide (n > (a.length : Int)) || decide (k < 0) || decide (k > (b.length : Int))) with
  | true =>
    simp only [cond_true]
    refine ViewR_arg tc ta tb to ts te td tf tr tl tg n k tx (a.map Msg.t) (b.map Msg.t) xa xb ?_
    simp at c1 ⊢
    omega
  | false =>
    simp only [cond_false]
    simp only [Bool.or_eq_false_iff, decide_eq_false_iff_not] at c1
    obtain ⟨⟨⟨h1, h2⟩, h3⟩, h4⟩ := c1
    have la : (a.take n.toNat).length * 232 ≤ 140737488355328 := by simp [List.length_take]; omega
    have lb : (b.take k.toNat).length * 232 ≤ 140737488355328 := by simp [List.length_take]; omega
    have hl := look_ok tc ta tb to ts te td tf tr tl tg tx (a.take n.toNat) (b.take k.toNat) (xa && (n.toNat == (a.map Msg.t).length)) (xb && (k.toNat == (b.map Msg.t).length)) m la lb hm
    have hle := lookS_le m ta tb (a.take n.toNat) (b.take k.toNat)
    rw [lookR_eq, List.map_take, List.map_take] at hl
    generalize lookS m ta tb (a.take n.toNat) (b.take k.toNat) = r at hl hle ⊢
    obtain ⟨e, ⟨hs, pd, al⟩, ⟨h2', pd2, al2⟩⟩ := r
    simp only [Sd.t, sdT_eq] at hl hle ⊢
    cases he : e != 0 with
    | true =>
      simp only [cond_true, vwT, he]
      exact ViewR_err tc ta tb to ts te td tf tr tl tg n k e tx (a.map Msg.t) (b.map Msg.t) xa xb _ _ _ _ pd al pd2 al2 (by omega) (by simp; omega) (by omega) (by simp; omega) he hl
    | false =>
      obtain rfl : e = 0 := by simpa using he
      have hlen : ((hs.map (hT ta)).length + (h2'.map (hT tb)).length) * 64 ≤ 140737488355328 := by simp only [List.length_map]; omega
      have hv := view_ok tc ta tb to ts te td tf tr tl tg tx (hs.map (hT ta)) (h2'.map (hT tb)) hs.isEmpty h2'.isEmpty pd al pd2 al2 hlen
      have go : ∀ (ra rb f : Int) (fr : Bool) (rh : List T), viewR ts te (hs.map (hT ta)) (h2'.map (hT tb)) pd al pd2 al2 = [.agg [.int .i64 ra, .int .i64 rb, .lst fr 36 rh], .int .i64 f] →
          PCall Try.prog 47 [trT tc ta tb to ts te td tf tr tl tg tx, .lst xa 137 (a.map Msg.t), .lst xb 137 (b.map Msg.t), .int .i64 n, .int .i64 k] [.agg [.int .i64 ra, .int .i64 rb, .lst fr 36 rh], .int .i64 f] := fun ra rb f fr rh e1 => by
        rw [e1] at hv
        exact ViewR_go tc ta tb to ts te td tf tr tl tg n k tx (a.map Msg.t) (b.map Msg.t) xa xb _ _ fr _ _ rh pd al pd2 al2 ra rb f (by omega) (by simp; omega) (by omega) (by simp; omega) hl hv
      unfold viewR viewE at go
      unfold viewS
      simp only [List.length_map] at go
      simp only [cond_false]
      cases c1 : decide (leftI ts al pd2 < 0) with
      | true => rw [c1] at go; exact go 0 0 152 true [] rfl
      | false =>
        rw [c1] at go
        cases c2 : decide (leftI te al2 pd < 0) with
        | true => rw [c2] at go; exact go 0 0 152 true [] rfl
        | false =>
          rw [c2] at go
          cases c3 : decide ((hs.length : Int) > 16) with
          | true => rw [c3] at go; exact go 0 0 150 true [] rfl
          | false =>
            rw [c3] at go
            cases c4 : decide ((h2'.length : Int) > 16) with
            | true => rw [c4] at go; exact go 0 0 150 true [] rfl
            | false =>
              rw [c4] at go
              have g := go _ _ _ _ _ rfl
              rw [hT_map, hT_map, ← List.map_append] at g
              exact g
end Go.HM.Up

set_option maxRecDepth 100000
namespace Go.HM.Up
open Go.Proofs

def okU (us : List Msg) : Prop := ∀ (i : Nat) (m : Msg), us[i]? = some m → m.id = (i : Int) ∧ 1 ≤ m.am ∧ m.am ≤ 9223372036854775807
theorem okU_snoc {us : List Msg} {m : Msg} (h : okU us) (h1 : m.id = (us.length : Int)) (h2 : 1 ≤ m.am) (h3 : m.am ≤ 9223372036854775807) : okU (us ++ [m]) := by
  intro i x hx
  rcases Nat.lt_trichotomy i us.length with q | q | q
  · rw [List.getElem?_append_left q] at hx; exact h i x hx
  · subst q; simp at hx; subst hx; exact ⟨h1, h2, h3⟩
  · rw [List.getElem?_eq_none (by simp; omega)] at hx; cases hx
theorem rd_ok : ∀ (r acc vs : List Msg), (∀ m ∈ r, m.am ≤ 9223372036854775807) → okU acc → rd r acc = some vs → okU vs
  | [], acc, vs, _, ho, h => by simp only [rd, Option.some.injEq] at h; rw [← h]; exact ho
  | m :: r, acc, vs, hr, ho, h => by
    simp only [rd] at h
    cases c1 : m.kd == 1 with
    | true =>
      rw [c1] at h
      cases c2 : badM m acc.length with
      | true => simp only [c2, cond_true] at h; cases h
      | false =>
        simp only [c2, cond_true, cond_false] at h
        simp only [badM, Bool.or_eq_false_iff, decide_eq_false_iff_not, bne_eq_false_iff_eq] at c2
        exact rd_ok r _ vs (fun x hx => hr x (by simp [hx])) (okU_snoc ho c2.2 (by omega) (hr m (by simp))) h
    | false =>
      rw [c1] at h
      cases c2 : (m.kd == 2 || m.kd == 3) with
      | true => simp only [c2, cond_true, cond_false] at h; exact rd_ok r acc vs (fun x hx => hr x (by simp [hx])) ho h
      | false => simp only [c2, cond_false] at h; cases h
theorem okU_pw {us : List Msg} (h : okU us) : us.Pairwise (fun x y => x.id < y.id) := by
  rw [List.pairwise_iff_getElem]
  intro i j hi hj hij
  have a := h i us[i] (List.getElem?_eq_getElem hi)
  have b := h j us[j] (List.getElem?_eq_getElem hj)
  omega
theorem okU_mem {us : List Msg} (h : okU us) : ∀ m ∈ us, 1 ≤ m.am ∧ m.am ≤ 9223372036854775807 := by
  intro m hm
  obtain ⟨i, hi, e⟩ := List.getElem_of_mem hm
  exact (h i m (by rw [List.getElem?_eq_getElem hi, e])).2

def sumA (l : List Msg) : Int := (l.map (·.am)).sum
theorem sumA_nonneg : ∀ (l : List Msg), (∀ m ∈ l, 1 ≤ m.am) → 0 ≤ sumA l
  | [], _ => by simp [sumA]
  | m :: l, h => by
    have := h m (by simp)
    have := sumA_nonneg l (fun y hy => h y (by simp [hy]))
    simp only [sumA, List.map_cons, List.sum_cons] at *
    omega
theorem sumA_snoc (l : List Msg) (m : Msg) : sumA (l ++ [m]) = sumA l + m.am := by simp [sumA]

theorem add_of {a b : Int} (h0 : 0 ≤ a) (h1 : a ≤ 9223372036854775807) (hb0 : 1 ≤ b) (hb1 : b ≤ 9223372036854775807) (h : ((Deal.add a b).2 != 0) = false) : a + b ≤ 9223372036854775807 ∧ (Deal.add a b).1 = a + b := by
  unfold Deal.add at h ⊢
  rw [show (decide (a < 0) || decide (b < 0)) = false by simp; omega] at h ⊢
  rw [w64 (n := 9223372036854775807 - b) (by omega) (by omega)] at h ⊢
  cases c2 : decide (a > 9223372036854775807 - b) with
  | true => rw [c2] at h; cases h
  | false =>
    simp only [decide_eq_false_iff_not] at c2
    refine ⟨by omega, ?_⟩
    simp only [cond_false]
    exact w64 (by omega) (by omega)

theorem ofG_facts (ns : List (Int × Int)) (wh : Int) : ∀ (us hs : List Msg) (pd al : Int) (r : List Msg × Int × Int), (∀ m ∈ us, 1 ≤ m.am ∧ m.am ≤ 9223372036854775807) → (∀ m ∈ hs, 1 ≤ m.am) → 0 ≤ pd → al = pd + sumA hs → al ≤ 9223372036854775807 →
    ofG ns wh us hs pd al = some r → 0 ≤ r.2.1 ∧ r.2.2 = r.2.1 + sumA r.1 ∧ r.2.2 ≤ 9223372036854775807 ∧ (∃ L, r.1 = hs ++ L ∧ L.Sublist us) ∧ ∀ m ∈ r.1, 1 ≤ m.am
  | [], hs, pd, al, r, _, hh, h0, he, hM, h => by
    simp only [ofG, Option.some.injEq] at h
    subst h
    exact ⟨h0, he, hM, ⟨[], by simp, List.Sublist.slnil⟩, hh⟩
  | m :: us, hs, pd, al, r, hu, hh, h0, he, hM, h => by
    have hm := hu m (by simp)
    have hu' : ∀ x ∈ us, 1 ≤ x.am ∧ x.am ≤ 9223372036854775807 := fun x hx => hu x (by simp [hx])
    have hs0 := sumA_nonneg hs hh
    simp only [ofG] at h
    cases c1 : look ns m.id == 3 with
    | true =>
      rw [c1] at h
      obtain ⟨a, b, c, ⟨L, d, e⟩, f⟩ := ofG_facts ns wh us hs pd al r hu' hh h0 he hM h
      exact ⟨a, b, c, ⟨L, d, e.cons m⟩, f⟩
    | false =>
      rw [c1] at h
      cases c2 : (Deal.add al m.am).2 != 0 with
      | true => rw [c2] at h; cases h
      | false =>
        rw [c2] at h
        obtain ⟨k1, k2⟩ := add_of (by omega) hM hm.1 hm.2 c2
        rw [k2] at h
        cases c3 : look ns m.id == 2 with
        | true =>
          rw [c3] at h
          simp only [cond_false, cond_true] at h
          rw [w64 (n := pd + m.am) (by omega) (by omega)] at h
          obtain ⟨a, b, c, ⟨L, d, e⟩, f⟩ := ofG_facts ns wh us hs (pd + m.am) (al + m.am) r hu' hh (by omega) (by omega) k1 h
          exact ⟨a, b, c, ⟨L, d, e.cons m⟩, f⟩
        | false =>
          rw [c3] at h
          simp only [cond_false] at h
          obtain ⟨a, b, c, ⟨L, d, e⟩, f⟩ := ofG_facts ns wh us (hs ++ [m]) pd (al + m.am) r hu' (fun x hx => by
            rcases List.mem_append.1 hx with q | q
            · exact hh x q
            · simp at q; subst q; exact hm.1) h0 (by rw [sumA_snoc]; omega) k1 h
          exact ⟨a, b, c, ⟨m :: L, by rw [d]; simp, e.cons_cons m⟩, f⟩

/-- One's side as look finds it. -/
structure SdOk (s : Sd) : Prop where
  pd : 0 ≤ s.pd
  al : s.al = s.pd + sumA s.hs
  most : s.al ≤ 9223372036854775807
  pw : s.hs.Pairwise (fun x y => x.id < y.id)
  pos : ∀ m ∈ s.hs, 1 ≤ m.am
theorem sdOk_of {ns : List (Int × Int)} {wh : Int} {us : List Msg} {r : List Msg × Int × Int} (hu : okU us) (h : ofG ns wh us [] 0 0 = some r) : SdOk ⟨r.1, r.2.1, r.2.2⟩ := by
  obtain ⟨a, b, c, ⟨L, d, e⟩, f⟩ := ofG_facts ns wh us [] 0 0 r (okU_mem hu) (by simp) (by omega) (by simp [sumA]) (by omega) h
  simp only [List.nil_append] at d
  exact ⟨a, b, c, by rw [d]; exact (okU_pw hu).sublist e, f⟩
theorem lookS_ok {m : Bool} {ta tb : Int} {a b : List Msg} (ha : ∀ x ∈ a, x.am ≤ 9223372036854775807) (hb : ∀ x ∈ b, x.am ≤ 9223372036854775807) (h : (lookS m ta tb a b).1 = 0) :
    m = true ∧ SdOk (lookS m ta tb a b).2.1 ∧ SdOk (lookS m ta tb a b).2.2 := by
  unfold lookS at h ⊢
  cases m with
  | false => cases h
  | true => cases ea : rd a [] with
    | none => rw [ea] at h; cases h
    | some p => cases eb : rd b [] with
      | none => rw [ea, eb] at h; cases h
      | some q =>
        rw [ea, eb] at h
        simp only at h ⊢
        have hp := rd_ok a [] p ha (fun i m e => by simp at e) ea
        have hq := rd_ok b [] q hb (fun i m e => by simp at e) eb
        revert h
        cases stl ((q.map Msg.t).length : Int) a [] with
        | none => intro h; cases h
        | some mp =>
          simp only
          cases stl ((p.map Msg.t).length : Int) b [] with
          | none => intro h; cases h
          | some mq =>
            simp only
            cases e1 : ofG mq ta p [] 0 0 with
            | none => intro h; cases h
            | some x =>
              have k1 := sdOk_of hp e1
              obtain ⟨hs, pd, al⟩ := x
              simp only
              cases e2 : ofG mp tb q [] 0 0 with
              | none => intro h; cases h
              | some y =>
                have k2 := sdOk_of hq e2
                obtain ⟨h2, pd2, al2⟩ := y
                exact fun _ => ⟨trivial, k1, k2⟩

def sumH (l : List H) : Int := (l.map (·.hm)).sum
theorem sumH_app (l r : List H) : sumH (l ++ r) = sumH l + sumH r := by simp [sumH]
theorem sumH_hH (wh : Int) (l : List Msg) : sumH (l.map (hH wh)) = sumA l := by simp only [sumH, sumA, List.map_map]; rfl
theorem sumH_nonneg : ∀ (l : List H), (∀ m ∈ l, 1 ≤ m.hm) → 0 ≤ sumH l
  | [], _ => by simp [sumH]
  | m :: l, h => by
    have := h m (by simp)
    have := sumH_nonneg l (fun y hy => h y (by simp [hy]))
    simp only [sumH, List.map_cons, List.sum_cons] at *
    omega

theorem leftI_eq {st al pd : Int} (h0 : 0 ≤ st) (h1 : st ≤ 9223372036854775807) (ha : 0 ≤ al) (ha1 : al ≤ 9223372036854775807) (hp : 0 ≤ pd) (hp1 : pd ≤ 9223372036854775807) (h : (decide (leftI st al pd < 0)) = false) : leftI st al pd = st - al + pd := by
  simp only [decide_eq_false_iff_not] at h
  unfold leftI at h ⊢
  rw [w64 (n := st - al) (by omega) (by omega)] at h ⊢
  cases c : decide (st - al > 0) with
  | true =>
    simp only [decide_eq_true_eq] at c
    rw [show decide (st - al > 0) = true by simpa using c] at h
    simp only [cond_true] at h ⊢
    rw [IntKind.wrap_i64] at h ⊢
    omega
  | false =>
    simp only [decide_eq_false_iff_not] at c
    simp only [cond_false]
    rw [w64 (by omega) (by omega)]
    omega

/-- No two of one by one Id. -/
def keyD (z : List H) : Prop := z.Pairwise (fun x y => ¬ (x.hb = y.hb ∧ x.hi = y.hi))
structure ViewOk (ts te ra rb : Int) (z : List H) : Prop where
  a : 0 ≤ ra
  b : 0 ≤ rb
  sum : ra + rb + sumH z = ts + te
  key : keyD z
  pos : ∀ h ∈ z, 1 ≤ h.hm
  few : z.length ≤ 32
theorem vwS_ok {m : Bool} {ta tb ts te n k : Int} {a b : List Msg} (ha : ∀ x ∈ a, x.am ≤ 9223372036854775807) (hb : ∀ x ∈ b, x.am ≤ 9223372036854775807)
    (hmay : m = true → ta < tb ∧ 0 ≤ ts ∧ 0 ≤ te ∧ ts + te ≤ 9223372036854775807) (h : (vwS m ta tb ts te a b n k).1 = 0) :
    m = true ∧ ViewOk ts te (vwS m ta tb ts te a b n k).2.1 (vwS m ta tb ts te a b n k).2.2.1 (vwS m ta tb ts te a b n k).2.2.2 := by
  unfold vwS at h ⊢
  cases c1 : (decide (n < 0) || decide (n > (a.length : Int)) || decide (k < 0) || decide (k > (b.length : Int))) with
  | true => rw [c1] at h; cases h
  | false =>
    rw [c1] at h
    simp only [cond_false] at h ⊢
    have hl := lookS_ok (m := m) (ta := ta) (tb := tb) (a := a.take n.toNat) (b := b.take k.toNat) (fun x hx => ha x (List.mem_of_mem_take hx)) (fun x hx => hb x (List.mem_of_mem_take hx))
    generalize lookS m ta tb (a.take n.toNat) (b.take k.toNat) = r at h hl ⊢
    obtain ⟨e, x, y⟩ := r
    simp only at h hl ⊢
    cases c2 : e != 0 with
    | true => rw [c2] at h; simp only [cond_true] at h; subst h; cases c2
    | false =>
      rw [c2] at h
      simp only [cond_false] at h ⊢
      obtain ⟨hm, hx, hy⟩ := hl (by simpa using c2)
      obtain ⟨m1, m2, m3, m4⟩ := hmay hm
      refine ⟨hm, ?_⟩
      have sx := sumA_nonneg x.hs hx.pos
      have sy := sumA_nonneg y.hs hy.pos
      have x1 := hx.pd; have x2 := hx.al; have x3 := hx.most
      have y1 := hy.pd; have y2 := hy.al; have y3 := hy.most
      unfold viewS at h ⊢
      cases d1 : decide (leftI ts x.al y.pd < 0) with
      | true => rw [d1] at h; cases h
      | false =>
        rw [d1] at h
        cases d2 : decide (leftI te y.al x.pd < 0) with
        | true => rw [d2] at h; cases h
        | false =>
          rw [d2] at h
          cases d3 : decide ((x.hs.length : Int) > 16) with
          | true => rw [d3] at h; cases h
          | false =>
            rw [d3] at h
            cases d4 : decide ((y.hs.length : Int) > 16) with
            | true => rw [d4] at h; cases h
            | false =>
              have e1 := leftI_eq (by omega) (by omega) (by omega) x3 y1 (by omega) d1
              have e2 := leftI_eq (by omega) (by omega) (by omega) y3 x1 (by omega) d2
              simp only [decide_eq_false_iff_not] at d1 d2 d3 d4
              simp only [cond_false]
              refine ⟨show 0 ≤ leftI ts x.al y.pd by omega, show 0 ≤ leftI te y.al x.pd by omega, ?_, ?_, ?_, ?_⟩
              · show leftI ts x.al y.pd + leftI te y.al x.pd + sumH (x.hs.map (hH ta) ++ y.hs.map (hH tb)) = ts + te
                rw [sumH_app, sumH_hH, sumH_hH, e1, e2]
                omega
              · show keyD (x.hs.map (hH ta) ++ y.hs.map (hH tb))
                refine List.pairwise_append.2 ⟨List.pairwise_map.2 (hx.pw.imp fun q w => ?_), List.pairwise_map.2 (hy.pw.imp fun q w => ?_), fun p hp q hq w => ?_⟩
                · have := w.2; simp only [hH] at this; omega
                · have := w.2; simp only [hH] at this; omega
                · obtain ⟨p', _, rfl⟩ := List.mem_map.1 hp
                  obtain ⟨q', _, rfl⟩ := List.mem_map.1 hq
                  have := w.1; simp only [hH] at this; omega
              · intro p hp
                rcases List.mem_append.1 hp with hp | hp
                · obtain ⟨p', hp', rfl⟩ := List.mem_map.1 hp; exact hx.pos p' hp'
                · obtain ⟨p', hp', rfl⟩ := List.mem_map.1 hp; exact hy.pos p' hp'
              · show (x.hs.map (hH ta) ++ y.hs.map (hH tb)).length ≤ 32
                simp only [List.length_append, List.length_map]
                omega

theorem fnd_at : ∀ (pre : List H) (h : H) (r : List H) (k : Nat), (∀ x ∈ pre, ¬ (x.hb = h.hb ∧ x.hi = h.hi)) → fnd h.hb h.hi (pre ++ h :: r) k = some (k + pre.length)
  | [], h, r, k, _ => by simp [fnd, isH]
  | x :: pre, h, r, k, hk => by
    have hx := hk x (by simp)
    have : isH h.hb h.hi x = false := by
      unfold isH
      cases e1 : x.hb == h.hb with
      | false => rfl
      | true => cases e2 : x.hi == h.hi with
        | false => rfl
        | true => exact absurd ⟨by simpa using e1, by simpa using e2⟩ hx
    simp only [List.cons_append, fnd, this, cond_false]
    rw [fnd_at pre h r (k + 1) (fun y hy => hk y (by simp [hy]))]
    simp; omega

theorem find_at {z pre r : List H} {h : H} (he : z = pre ++ h :: r) (hk : keyD z) (hl : z.length ≤ 32) (ra rb : Int) (f : Bool) :
    PCall Try.prog 55 [.agg [.int .i64 ra, .int .i64 rb, .lst f 36 (z.map H.t)], .int .i64 h.hb, .int .i64 h.hi] [h.t, .bool true] := by
  have q := find_ok ra rb h.hb h.hi z f (by omega)
  have e : fnd h.hb h.hi z 0 = some pre.length := by
    rw [he, fnd_at pre h r 0 (fun x hx w => ?_)]
    · simp
    · unfold keyD at hk
      rw [he] at hk
      exact (List.pairwise_append.1 hk).2.2 x hx h (by simp) w
  rw [e] at q
  obtain ⟨h', a, b, c⟩ := q
  have : h' = h := by rw [he] at a; simpa using a.symm
  rw [this] at c
  exact c

def SU (tc ta tb to ts te td tf tr tl tg ra rb : Int) (tx : List Int) (z : List T) (f : Bool) (lf i : Int) : St := ⟨111, [(11, .ptr 1 0), (13, .p (.int .i64 lf)), (14, .p (.int .i64 i))], [.box (.p (trT tc ta tb to ts te td tf tr tl tg tx)), .box (.p (.agg [.int .i64 ra, .int .i64 rb, .lst f 36 z]))]⟩

theorem sum_loop (tc ta tb to ts te td tf tr tl tg ra rb : Int) (tx : List Int) (z : List H) (f : Bool) (hk : keyD z) (hp : ∀ h ∈ z, 1 ≤ h.hm) (hl : z.length ≤ 32) (hM : sumH z ≤ 9223372036854775807) : ∀ (r pre : List H), z = pre ++ r →
    LoopG Try.prog 0 (loopAt Try.f8 0) (SU tc ta tb to ts te td tf tr tl tg ra rb tx (z.map H.t) f (sumH r) (pre.length : Int)) (.exit 0) (SU tc ta tb to ts te td tf tr tl tg ra rb tx (z.map H.t) f 0 (z.length : Int))
  | [], pre, he => by
    have e : pre = z := by rw [he]; simp
    rw [e]
    exact LoopG.leave (CodeG.normE (bodyK_sound (Ch_ok _ _) (sumX tc ta tb to ts te td tf tr tl tg ra rb (z.length : Int) 0 tx (z.map H.t) f) ⟨by simp, trivial⟩) (by omega) (by omega) [11, 13, 14] (m := 0) (k := 2) (by kernel_rfl)) rfl
  | h :: r, pre, he => by
    have hx : (0 : Int) ≤ (pre.length : Int) ∧ (z.map H.t)[((pre.length : Int)).toNat]? = some h.t := ⟨by omega, by rw [he]; simp⟩
    have hlen : pre.length + (r.length + 1) = z.length := by rw [he]; simp
    have hlt : decide ((pre.length : Int) < ((z.map H.t).length : Int)) = true := by rw [he]; simp; omega
    have wi : IntKind.i64.wrap ((pre.length : Int) + 1) = (pre.length : Int) + 1 := w64 (by omega) (by omega)
    have h1 : 1 ≤ h.hm := hp h (by rw [he]; simp)
    have hpre := sumH_nonneg pre (fun y hy => hp y (by rw [he]; simp [hy]))
    have hr := sumH_nonneg r (fun y hy => hp y (by rw [he]; simp [hy]))
    have hc : sumH (h :: r) = h.hm + sumH r := by simp [sumH]
    have hz : sumH z = sumH pre + (h.hm + sumH r) := by rw [he, sumH_app, hc]
    have wl : IntKind.i64.wrap (sumH (h :: r) - h.hm) = sumH r := by rw [hc]; rw [w64 (by omega) (by omega)]; omega
    have ih := sum_loop tc ta tb to ts te td tf tr tl tg ra rb tx z f hk hp hl hM r (pre ++ [h]) (by rw [he]; simp)
    rw [show (((pre ++ [h]).length : Nat) : Int) = (pre.length : Int) + 1 by simp] at ih
    have q := CodeG.normE (bodyK_sound (Ch_ok _ _) (sumB tc ta tb to ts te td tf tr tl tg ra rb (pre.length : Int) (sumH (h :: r)) h.hb h.hi h.hm h.he tx h.hh (z.map H.t) f)
      ⟨by simp; omega, by simp; omega, by simp [H.t, T.eqB, T.eqsB], hx, find_at he hk hl ra rb f, hx, hx, hlt, trivial⟩) (by omega) (by omega) [11, 13, 14] (m := 0) (k := 2)
      (st2 := SU tc ta tb to ts te td tf tr tl tg ra rb tx (z.map H.t) f (IntKind.i64.wrap (sumH (h :: r) - h.hm)) (IntKind.i64.wrap ((pre.length : Int) + 1))) (by kernel_rfl)
    rw [wi, wl] at q
    exact LoopG.next q ih

theorem updatesSums_go (tc ta tb to ts te td tf tr tl tg n k : Int) (tx : List Int) (a b : List Msg) (xa xb m : Bool) (ha : a.length * 232 ≤ 140737488355328) (hb : b.length * 232 ≤ 140737488355328)
    (hm : PCall Try.prog 18 [trT tc ta tb to ts te td tf tr tl tg tx] [.bool m]) (hlv : PCall Try.prog 49 [] [.bool true])
    (ra : ∀ x ∈ a, x.am ≤ 9223372036854775807) (rb : ∀ x ∈ b, x.am ≤ 9223372036854775807)
    (hmay : m = true → ta < tb ∧ 0 ≤ ts ∧ 0 ≤ te ∧ ts + te ≤ 9223372036854775807) :
    PCall Try.prog 8 [trT tc ta tb to ts te td tf tr tl tg tx, .lst xa 137 (a.map Msg.t), .lst xb 137 (b.map Msg.t), .int .i64 n, .int .i64 k] [.bool true] := by
  have hv := View_ok tc ta tb to ts te td tf tr tl tg n k tx a b xa xb m ha hb hm
  have ho := vwS_ok (m := m) (ta := ta) (tb := tb) (ts := ts) (te := te) (n := n) (k := k) ra rb hmay
  generalize vwS m ta tb ts te a b n k = r at hv ho
  obtain ⟨e, va, vb, z⟩ := r
  simp only [vwT] at hv ho
  cases he : e != 0 with
  | true =>
    rw [he] at hv
    exact (topK_sound (Ch_ok _ _) (sumZ tc ta tb to ts te td tf tr tl tg va vb n k e tx (z.map H.t) (a.map Msg.t) (b.map Msg.t) true xa xb) ⟨hlv, he, hlv, hv, trivial⟩).pure (k := 64) rfl
  | false =>
    rw [he] at hv
    obtain rfl : e = 0 := by simpa using he
    obtain ⟨hmt, hok⟩ := ho rfl
    obtain ⟨_, m2, m3, m4⟩ := hmay hmt
    have o1 := hok.a; have o2 := hok.b; have o3 := hok.sum
    have o4 := sumH_nonneg z hok.pos
    have w1 : IntKind.i64.wrap (ts + te) = ts + te := w64 (by omega) (by omega)
    have w2 : IntKind.i64.wrap (ts + te - va) = ts + te - va := w64 (by omega) (by omega)
    have w3 : IntKind.i64.wrap (ts + te - va - vb) = sumH z := by rw [w64 (by omega) (by omega)]; omega
    have lp := sum_loop tc ta tb to ts te td tf tr tl tg va vb tx z false hok.key hok.pos hok.few (by omega) z [] rfl
    refine (topK_sound (Ch_ok _ _) (sumT tc ta tb to ts te td tf tr tl tg va vb n k (z.length : Int) tx (z.map H.t) (a.map Msg.t) (b.map Msg.t) false xa xb) ⟨?_, ?_, ?_, ?_, hlv, hv, trivial⟩).pure (k := 64) rfl
    · rw [w1, w2, w3]
      exact LoopG.preE (by omega) (by omega) [11, 13, 14] (m := 0) (k := 2) (by kernel_rfl) lp
    · rw [w1, w2]; simp; omega
    · simp; omega
    · simp; omega
end Go.HM.Up

set_option maxRecDepth 100000
namespace Go.HM.Deal
open Go.Proofs

theorem may_0 (t : Terms) (y : Htlc) :
    evF Try.prog Try.f18 [t.t] [Orc.op 1 2 (HM.Item.call [T.bool (within t.1 1 65535)]), Orc.br true] =
      some ([T.bool false], [(!within t.1 1 65535 || decide (t.2 < 0) || decide (t.2 ≥ t.3) || decide (t.3 ≥ 8) || decide (t.Fund.2 < 0)) = true, PCall Try.prog 69 [T.int IntKind.i64 t.1, T.int IntKind.i64 1, T.int IntKind.i64 65535] [T.bool (within t.1 1 65535)]]) := by kernel_rfl
theorem may_1 (t : Terms) (y : Htlc) :
    evF Try.prog Try.f18 [t.t] [Orc.op 1 2 (HM.Item.call [T.bool (within t.1 1 65535)]), Orc.br false, Orc.op 3 2 (HM.Item.call [T.bool (within t.7 1 1000)]), Orc.op 3 4 (Item.res true)] =
      some ([T.bool false], [(!within t.7 1 1000) = true, PCall Try.prog 69 [T.int IntKind.i64 t.7, T.int IntKind.i64 1, T.int IntKind.i64 1000] [T.bool (within t.7 1 1000)], (!within t.1 1 65535 || decide (t.2 < 0) || decide (t.2 ≥ t.3) || decide (t.3 ≥ 8) || decide (t.Fund.2 < 0)) = false, PCall Try.prog 69 [T.int IntKind.i64 t.1, T.int IntKind.i64 1, T.int IntKind.i64 65535] [T.bool (within t.1 1 65535)]]) := by kernel_rfl
theorem may_2 (t : Terms) (y : Htlc) :
    evF Try.prog Try.f18 [t.t] [Orc.op 1 2 (HM.Item.call [T.bool (within t.1 1 65535)]), Orc.br false, Orc.op 3 2 (HM.Item.call [T.bool (within t.7 1 1000)]), Orc.op 3 4 (Item.res false), Orc.op 3 7 (HM.Item.call [T.bool (within t.10 1 16)]), Orc.br true] =
      some ([T.bool false], [(!within t.10 1 16) = true, PCall Try.prog 69 [T.int IntKind.i64 t.10, T.int IntKind.i64 1, T.int IntKind.i64 16] [T.bool (within t.10 1 16)], (!within t.7 1 1000) = false, PCall Try.prog 69 [T.int IntKind.i64 t.7, T.int IntKind.i64 1, T.int IntKind.i64 1000] [T.bool (within t.7 1 1000)], (!within t.1 1 65535 || decide (t.2 < 0) || decide (t.2 ≥ t.3) || decide (t.3 ≥ 8) || decide (t.Fund.2 < 0)) = false, PCall Try.prog 69 [T.int IntKind.i64 t.1, T.int IntKind.i64 1, T.int IntKind.i64 65535] [T.bool (within t.1 1 65535)]]) := by kernel_rfl
theorem may_3 (t : Terms) (y : Htlc) :
    evF Try.prog Try.f18 [t.t] [Orc.op 1 2 (HM.Item.call [T.bool (within t.1 1 65535)]), Orc.br false, Orc.op 3 2 (HM.Item.call [T.bool (within t.7 1 1000)]), Orc.op 3 4 (Item.res false), Orc.op 3 7 (HM.Item.call [T.bool (within t.10 1 16)]), Orc.br false, Orc.op 5 5 (HM.Item.call [i64 (sum [t.Fee, t.Reserve]).1, i64 (sum [t.Fee, t.Reserve]).2]), Orc.br true] =
      some ([T.bool false], [((sum [t.Fee, t.Reserve]).2 == 1 || decide (t.11 < 0)) = true, PCall Try.prog 70 [T.lst true 1 [T.int IntKind.i64 t.8, T.int IntKind.i64 t.9]] [i64 (sum [t.Fee, t.Reserve]).1, i64 (sum [t.Fee, t.Reserve]).2], (!within t.10 1 16) = false, PCall Try.prog 69 [T.int IntKind.i64 t.10, T.int IntKind.i64 1, T.int IntKind.i64 16] [T.bool (within t.10 1 16)], (!within t.7 1 1000) = false, PCall Try.prog 69 [T.int IntKind.i64 t.7, T.int IntKind.i64 1, T.int IntKind.i64 1000] [T.bool (within t.7 1 1000)], (!within t.1 1 65535 || decide (t.2 < 0) || decide (t.2 ≥ t.3) || decide (t.3 ≥ 8) || decide (t.Fund.2 < 0)) = false, PCall Try.prog 69 [T.int IntKind.i64 t.1, T.int IntKind.i64 1, T.int IntKind.i64 65535] [T.bool (within t.1 1 65535)]]) := by kernel_rfl
theorem may_4 (t : Terms) (y : Htlc) :
    evF Try.prog Try.f18 [t.t] [Orc.op 1 2 (HM.Item.call [T.bool (within t.1 1 65535)]), Orc.br false, Orc.op 3 2 (HM.Item.call [T.bool (within t.7 1 1000)]), Orc.op 3 4 (Item.res false), Orc.op 3 7 (HM.Item.call [T.bool (within t.10 1 16)]), Orc.br false, Orc.op 5 5 (HM.Item.call [i64 (sum [t.Fee, t.Reserve]).1, i64 (sum [t.Fee, t.Reserve]).2]), Orc.br false, Orc.op 8 4 (HM.Item.call [i64 (add t.StartA t.StartB).1, i64 (add t.StartA t.StartB).2])] =
      some ([T.bool ((add t.StartA t.StartB).2 == 0)], [PCall Try.prog 71 [T.int IntKind.i64 t.5, T.int IntKind.i64 t.6] [i64 (add t.StartA t.StartB).1, i64 (add t.StartA t.StartB).2], ((sum [t.Fee, t.Reserve]).2 == 1 || decide (t.11 < 0)) = false, PCall Try.prog 70 [T.lst true 1 [T.int IntKind.i64 t.8, T.int IntKind.i64 t.9]] [i64 (sum [t.Fee, t.Reserve]).1, i64 (sum [t.Fee, t.Reserve]).2], (!within t.10 1 16) = false, PCall Try.prog 69 [T.int IntKind.i64 t.10, T.int IntKind.i64 1, T.int IntKind.i64 16] [T.bool (within t.10 1 16)], (!within t.7 1 1000) = false, PCall Try.prog 69 [T.int IntKind.i64 t.7, T.int IntKind.i64 1, T.int IntKind.i64 1000] [T.bool (within t.7 1 1000)], (!within t.1 1 65535 || decide (t.2 < 0) || decide (t.2 ≥ t.3) || decide (t.3 ≥ 8) || decide (t.Fund.2 < 0)) = false, PCall Try.prog 69 [T.int IntKind.i64 t.1, T.int IntKind.i64 1, T.int IntKind.i64 65535] [T.bool (within t.1 1 65535)]]) := by kernel_rfl
theorem may_ok (t : Terms) (y : Htlc) : PCall Try.prog 18 [t.t] [.bool (may t)] := by
  unfold may
  cases h0 : (!within t.1 1 65535 || decide (t.2 < 0) || decide (t.2 ≥ t.3) || decide (t.3 ≥ 8) || decide (t.Fund.2 < 0)) with
  | true =>
    exact evF_sound Try.func18 (by rfl) (may_0 t y) (by repeat first | exact trivial | refine And.intro (by first | assumption | rfl | exact within_ok _ _ _ | exact add_ok _ _ | exact sum_ok _ [_, _] (by simp)) ?_)
  | false =>
    cases h1 : (!within t.7 1 1000) with
    | true =>
      exact evF_sound Try.func18 (by rfl) (may_1 t y) (by repeat first | exact trivial | refine And.intro (by first | assumption | rfl | exact within_ok _ _ _ | exact add_ok _ _ | exact sum_ok _ [_, _] (by simp)) ?_)
    | false =>
      cases h2 : (!within t.10 1 16) with
      | true =>
        exact evF_sound Try.func18 (by rfl) (may_2 t y) (by repeat first | exact trivial | refine And.intro (by first | assumption | rfl | exact within_ok _ _ _ | exact add_ok _ _ | exact sum_ok _ [_, _] (by simp)) ?_)
      | false =>
        cases h3 : ((sum [t.Fee, t.Reserve]).2 == 1 || decide (t.11 < 0)) with
        | true =>
          exact evF_sound Try.func18 (by rfl) (may_3 t y) (by repeat first | exact trivial | refine And.intro (by first | assumption | rfl | exact within_ok _ _ _ | exact add_ok _ _ | exact sum_ok _ [_, _] (by simp)) ?_)
        | false =>
          exact evF_sound Try.func18 (by rfl) (may_4 t y) (by repeat first | exact trivial | refine And.intro (by first | assumption | rfl | exact within_ok _ _ _ | exact add_ok _ _ | exact sum_ok _ [_, _] (by simp)) ?_)
def rng (n : Int) : Prop := -9223372036854775808 ≤ n ∧ n ≤ 9223372036854775807
theorem wf_rng {n : Int} (h : (Lit.int .i64 n).wf = true) : rng n := by
  simpa [Lit.wf, IntKind.min, IntKind.max, IntKind.signed, IntKind.bits, rng] using h
theorem add_spec {a b : Int} (h0 : 0 ≤ a) (h1 : a ≤ 9223372036854775807) (hb : rng b) (h : (!((add a b).2 == 0)) = false) : 0 ≤ b ∧ a + b ≤ 9223372036854775807 ∧ (add a b).1 = a + b := by
  unfold rng at hb
  unfold add at h ⊢
  cases c1 : (decide (a < 0) || decide (b < 0)) with
  | true => rw [c1] at h; cases h
  | false =>
    rw [c1] at h
    simp only [Bool.or_eq_false_iff, decide_eq_false_iff_not] at c1
    rw [w64 (n := 9223372036854775807 - b) (by omega) (by omega)] at h ⊢
    cases c2 : decide (a > 9223372036854775807 - b) with
    | true => rw [c2] at h; cases h
    | false =>
      simp only [decide_eq_false_iff_not] at c2
      simp only [cond_false]
      rw [w64 (by omega) (by omega)]
      exact ⟨by omega, by omega, rfl⟩

theorem may_more2 {t : Terms} (hsa : rng t.StartA) (hsb : rng t.StartB) (h : may t = true) :
    0 ≤ t.A ∧ t.A < t.B ∧ t.B < 8 ∧ 1 ≤ t.Delay ∧ t.Delay ≤ 1000 ∧ 0 ≤ t.Fee ∧ 0 ≤ t.StartA ∧ 0 ≤ t.StartB ∧ t.StartA + t.StartB ≤ 9223372036854775807 := by
  unfold may at h
  cases h0 : (!within t.Channel 1 65535 || decide (t.A < 0) || decide (t.A ≥ t.B) || decide (t.B ≥ 8) || decide (t.Fund.Out < 0)) with
  | true => rw [h0] at h; cases h
  | false =>
    rw [h0] at h
    cases h1 : (!within t.Delay 1 1000) with
    | true => rw [h1] at h; cases h
    | false =>
      rw [h1] at h
      cases h2 : (!within t.Slots 1 16) with
      | true => rw [h2] at h; cases h
      | false =>
        rw [h2] at h
        cases h3 : ((sum [t.Fee, t.Reserve]).2 == 1 || decide (t.Flight < 0)) with
        | true => rw [h3] at h; cases h
        | false =>
          rw [h3] at h
          simp only [cond_false, beq_iff_eq] at h
          simp only [Bool.or_eq_false_iff, decide_eq_false_iff_not] at h0 h3
          have hd : 1 ≤ t.Delay ∧ t.Delay ≤ 1000 := by
            simp [within] at h1
            omega
          have hf : 0 ≤ t.Fee := by
            have h4 := h3.1
            unfold sum at h4
            cases hc : [t.Fee, t.Reserve].any (fun x => decide (x < 0)) with
            | true => rw [hc] at h4; cases h4
            | false =>
              simp at hc
              omega
          have hs : 0 ≤ t.StartA ∧ 0 ≤ t.StartB ∧ t.StartA + t.StartB ≤ 9223372036854775807 := by
            unfold rng at hsa
            by_cases q : 0 ≤ t.StartA
            · have := add_spec q hsa.2 hsb (by rw [h]; rfl)
              omega
            · exfalso
              unfold add at h
              rw [show (decide (t.StartA < 0) || decide (t.StartB < 0)) = true by simp; omega] at h
              cases h
          omega

end Go.HM.Deal

namespace Go.HM
open Go.ChangeShapes Go.WideShapes Go.ChangeAt Go.RowKit
section
variable {H : Type} {enc : TypeId × Value → H} {P : Program} {W : World} {base : Nat}

/-- The contract of a law that looks at the size of what it is handed. -/
theorem law_contract2 {K : FuncId} {fn : Func} {s : ChangeSpec} {ss : List Sh} {bt : TypeId} {n : Nat} (hl : laidOutB P = true) (hsh : shsOf P fn.params.toList = some ss)
    (hrd : (fn.params.toList.all fun t => P.readableRec t && decide (t < P.types.size)) = true) (hn : fn.params.toList.length = n) (hres : fn.resultTypes = #[bt]) (hbt : P.underlying bt = some .bool) (hvars : s.vars = [])
    (hfn : ∀ (H : Type) (ds : List (DataW H)), ds.length = n → (s.fn H (ds ++ [])).results = [.lit (.bool true)] ∧ (s.fn H (ds ++ [])).args = ds ∧ (s.fn H (ds ++ [])).vars = [])
    {args : Array Value} {ds gs : List (DataW H)} {before : List MemPlace}
    (hP : ∀ xs p, HasShs ss xs → F2 (TV W okAll) xs args.toList → DataW.TrodAll enc P W 0 (fun _ => true) true fn.params.toList args.toList ds p → PCall P K xs [.bool true])
    (hval : ∀ (j : Nat) t v, fn.params[j]? = some t → args[j]? = some v → Value.okWide P W .any base t v)
    (hW : DataW.Whole enc P fn.params.toList s.vars false W args.toList ds gs before) :
    Calls P K args W fun e W' => ∃ v, e = .returned v ∧ s.post enc P fn false true false false W args v W' := by
  have hW' := hW
  obtain ⟨p, q, hA, hV, rfl, hfz, hnd⟩ := hW
  rw [hvars] at hV
  obtain ⟨rfl, rfl⟩ := trodVars_none hV
  obtain ⟨xs, hx, hF⟩ := args_trees (base := base) hA hsh (fun j t v ht hv => hval j t v (by simpa using ht) (by simpa using hv))
  have hlen : ds.length = n := by rw [trodAll_len hA, hn]
  obtain ⟨f1, f2, f3⟩ := hfn H ds hlen
  have hc := (hP xs p hx hF hA).2 okAll W args.toList (fun _ _ _ => trivial) hF
  rw [show args.toList.toArray = args by simp] at hc
  refine hc.mono fun e W' ⟨v, he, hr, hk⟩ => ?_
  have hv : v = .bool true := by
    have h1 : TV W' okAll (.bool true) v := hr
    have h2 := h1.cell rfl
    cases h2
    rfl
  subst hv
  have hb := Kept.below hk
  have hlt : ∀ x ∈ p, x.block < W.heap.size := fun x hx => hW'.lt x (by simp [hx])
  refine ⟨_, he, post_below (pa := p) (pv := []) hW' ?_ ?_ ?_ rfl hb (ok_one hres rfl (okWide_bool_mk hbt _))⟩
  · intro b sp hd
    rw [f1, hres]
    exact trodAll_mk1 (shut_bool hbt true)
  · intro sp hsp
    rw [f2]
    exact trodAll_stays hl hb hrd hA hlt (fun x hx => hsp x (by simp [hx]))
  · intro sp _
    rw [f3, hvars]
    rfl

end
end Go.HM

namespace Go.HM.Up
open Go.Proofs

def msgSh : Sh := .struct [.int .i64, .int .i64, .int .i64, .int .i64, .int .i64, .bytes 32, .sliceB, .bytes 32, .bytes 32, .bytes 32, .int .i64, .int .i64, .sliceB]
def sumsShs : List Sh := [.struct [.int .i64, .int .i64, .int .i64, .struct [.bytes 32, .int .i64], .int .i64, .int .i64, .int .i64, .int .i64, .int .i64, .int .i64, .int .i64], .slice 137 msgSh, .slice 137 msgSh, .int .i64, .int .i64]

theorem sh_msg {x : T} (h : HasSh msgSh x) : ∃ m : Msg, x = m.t ∧ m.am ≤ 9223372036854775807 := by
  obtain ⟨xs, rfl, a1, q1, rfl, ⟨n1, rfl, _⟩, a2, q2, rfl, ⟨n2, rfl, _⟩, a3, q3, rfl, ⟨n3, rfl, _⟩, a4, q4, rfl, ⟨n4, rfl, w4⟩, a5, q5, rfl, ⟨n5, rfl, _⟩, a6, q6, rfl, ⟨b6, rfl, _, _⟩, a7, q7, rfl, ⟨f7, b7, rfl, _, _⟩,
    a8, q8, rfl, ⟨b8, rfl, _, _⟩, a9, q9, rfl, ⟨b9, rfl, _, _⟩, a10, q10, rfl, ⟨b10, rfl, _, _⟩, a11, q11, rfl, ⟨n11, rfl, _⟩, a12, q12, rfl, ⟨n12, rfl, _⟩, a13, q13, rfl, ⟨f13, b13, rfl, _, _⟩, rfl⟩ := h
  exact ⟨⟨n1, n2, n3, n4, n5, b6, f7, b7, b8, b9, b10, n11, n12, f13, b13⟩, rfl, (Deal.wf_rng w4).2⟩
theorem sh_msgs : ∀ (xs : List T), (∀ y ∈ xs, HasSh msgSh y) → ∃ l : List Msg, xs = l.map Msg.t ∧ ∀ m ∈ l, m.am ≤ 9223372036854775807
  | [], _ => ⟨[], rfl, by simp⟩
  | x :: xs, h => by
    obtain ⟨a, rfl, ha⟩ := sh_msg (h x (by simp))
    obtain ⟨l, rfl, hl⟩ := sh_msgs xs (fun y hy => h y (by simp [hy]))
    refine ⟨a :: l, rfl, fun z hz => ?_⟩
    rcases List.mem_cons.1 hz with rfl | hz
    · exact ha
    · exact hl z hz
theorem sums_args {xs : List T} (h : HasShs sumsShs xs) : ∃ (t : Deal.Terms) (a b : List Msg) (xa xb : Bool) (n k : Int), xs = [t.t, .lst xa 137 (a.map Msg.t), .lst xb 137 (b.map Msg.t), .int .i64 n, .int .i64 k] ∧
    Deal.rng t.StartA ∧ Deal.rng t.StartB ∧ (∀ m ∈ a, m.am ≤ 9223372036854775807) ∧ (∀ m ∈ b, m.am ≤ 9223372036854775807) := by
  obtain ⟨x1, r1, rfl, ⟨ts, rfl, a1, q1, rfl, ⟨n1, rfl, _⟩, a2, q2, rfl, ⟨n2, rfl, _⟩, a3, q3, rfl, ⟨n3, rfl, _⟩, a4, q4, rfl, ⟨rs, rfl, b1, s1, rfl, ⟨tx, rfl, _, _⟩, b2, s2, rfl, ⟨m2, rfl, _⟩, rfl⟩,
    a5, q5, rfl, ⟨n5, rfl, w5⟩, a6, q6, rfl, ⟨n6, rfl, w6⟩, a7, q7, rfl, ⟨n7, rfl, _⟩, a8, q8, rfl, ⟨n8, rfl, w8⟩, a9, q9, rfl, ⟨n9, rfl, _⟩, a10, q10, rfl, ⟨n10, rfl, _⟩, a11, q11, rfl, ⟨n11, rfl, _⟩, rfl⟩,
    x2, r2, rfl, ⟨fa, la, rfl, _, ha⟩, x3, r3, rfl, ⟨fb, lb, rfl, _, hb⟩, x4, r4, rfl, ⟨n, rfl, _⟩, x5, r5, rfl, ⟨k, rfl, _⟩, rfl⟩ := h
  obtain ⟨a, rfl, ea⟩ := sh_msgs la ha
  obtain ⟨b, rfl, eb⟩ := sh_msgs lb hb
  exact ⟨⟨n1, n2, n3, ⟨tx, m2⟩, n5, n6, n7, n8, n9, n10, n11⟩, a, b, fa, fb, n, k, rfl, Deal.wf_rng w5, Deal.wf_rng w6, ea, eb⟩

/-- A list that is handed in, by its size. -/
theorem lst_len {H : Type} {enc : TypeId × Value → H} {W : World} {sp : Nat → Bool} {held : Bool} {fuel : Nat} {cs : List Value} {x : DataW H × List MemPlace} {f : Bool} {l : List T} {v : Value} (h : DataW.trod enc Try.prog W 0 sp held fuel 89 cs = some x)
    (hw : ∀ n ∈ x.1.weights Try.prog 89, n ≤ reachBytes) (q : Tc W okAll (.lst f 137 l) cs) : l.length * 232 ≤ 140737488355328 := by
  have hu2 : Try.prog.underlying 89 = some (.slice 97) := by kernel_rfl
  have hby : Try.prog.bytesOf 97 = 232 := by kernel_rfl
  have hR := reachBytes_lt
  cases q with
  | lstnil => simp
  | lst0 _ => simp
  | lst h1 _ _ _ _ _ =>
    rcases DataW.trod_slice hu2 h with ⟨e, _⟩ | ⟨a, len, cap', elems, rest, m, _, e, ey, _, _, _, hlen, _⟩
    · injection e with e _
      injection e with e1 _ _
      cases e1
    · injection e with e _
      injection e with _ e3 _
      have hmem : ((elems.map (·.1)).length + (rest.map (·.1)).length) * Try.prog.bytesOf 97 ∈ x.1.weights Try.prog 89 := by
        rw [ey]
        simp only [DataW.weights, hu2, List.mem_cons, true_or]
      have hle := hw _ hmem
      rw [hby] at hle
      simp only [List.length_map] at hle
      have e4 : l.length = elems.length := by
        omega
      omega

theorem updatesSums_ok (t : Deal.Terms) (a b : List Msg) (xa xb : Bool) (n k : Int) (ha : a.length * 232 ≤ 140737488355328) (hb : b.length * 232 ≤ 140737488355328) (r1 : Deal.rng t.StartA) (r2 : Deal.rng t.StartB)
    (ra : ∀ x ∈ a, x.am ≤ 9223372036854775807) (rb : ∀ x ∈ b, x.am ≤ 9223372036854775807) :
    PCall Try.prog 8 [t.t, .lst xa 137 (a.map Msg.t), .lst xb 137 (b.map Msg.t), .int .i64 n, .int .i64 k] [.bool true] :=
  updatesSums_go t.Channel t.A t.B t.Fund.Out t.StartA t.StartB t.Delay t.Fee t.Reserve t.Slots t.Flight n k t.Fund.Tx a b xa xb (Deal.may t) ha hb (Deal.may_ok t ⟨0, 0, 0, [], 0⟩) Ne.lives15_ok ra rb
    (fun h => by obtain ⟨_, h2, _, _, _, _, h7, h8, h9⟩ := Deal.may_more2 r1 r2 h; exact ⟨h2, h7, h8, h9⟩)
end Go.HM.Up
