/- UP, second part: look, Grow, Concat, view, View (runs printed by a small program out of the runs themselves). -/
import Derived.Test.YtbipkkebonohjaaUvM1
import Derived.Shelf.Spec.SlicesGrow
import Derived.Test.YtbipkkebonohjaaHnFr
import Derived.Test.YtbipkkebonohjaaHmZ
import Derived.Test.YtbipkkebonohjaaProg
set_option maxRecDepth 100000
namespace Go.HM.Up
open Go.Proofs
def trT (tc ta tb to ts te td tf tr tl tg : Int) (tx : List Int) : T := .agg [.int .i64 tc, .int .i64 ta, .int .i64 tb, .agg [.ba 32 tx, .int .i64 to], .int .i64 ts, .int .i64 te, .int .i64 td, .int .i64 tf, .int .i64 tr, .int .i64 tl, .int .i64 tg]
def qD0 (tc ta tb to ts te td tf tr tl tg : Int) (tx : List Int) (ha : List T) (pda ala : Int) (mp : List (T × T)) (ua : List T) (mq : List (T × T)) (ub : List T) : List SObj := [.box (.p ((trT tc ta tb to ts te td tf tr tl tg tx))), .box (.agg [.row 20 0 (.lst false 36 ha), .p (.int .i64 pda), .p (.int .i64 ala)]), .box (.p (.agg [.lst true 36 [], .int .i64 0, .int .i64 0])), .dead, .map mp, .dead, .dead, .row 0 137, .box (.agg [.row 7 0 (.lst false 137 ua), .map 4]), .dead, .map mq, .dead, .dead, .row 0 137, .box (.agg [.row 13 0 (.lst false 137 ub), .map 10]), .dead, .dead, .dead, .dead, .dead, .row 0 36, .dead, .dead, .dead, .dead, .dead, .row 0 36]
def qD1 (tc ta tb to ts te td tf tr tl tg : Int) (tx : List Int) (ha : List T) (pda ala : Int) (mp : List (T × T)) (ua : List T) (mq : List (T × T)) (ub : List T) : List SObj := [.box (.p ((trT tc ta tb to ts te td tf tr tl tg tx))), .box (.agg [.row 20 0 (.lst false 36 ha), .p (.int .i64 pda), .p (.int .i64 ala)]), .box (.p (.agg [.lst true 36 [], .int .i64 0, .int .i64 0])), .dead, .map mp, .dead, .dead, .row 0 137, .box (.agg [.row 7 0 (.lst false 137 ua), .map 4]), .dead, .map mq, .dead, .dead, .row 0 137, .box (.agg [.row 13 0 (.lst false 137 ub), .map 10]), .dead, .dead, .dead, .dead, .dead, .row 0 36]
def qD2 (tc ta tb to ts te td tf tr tl tg : Int) (tx : List Int) (pda ala : Int) (mp : List (T × T)) (ua : List T) (mq : List (T × T)) (ub : List T) : List SObj := [.box (.p ((trT tc ta tb to ts te td tf tr tl tg tx))), .box (.p (.agg [.lst true 36 [], .int .i64 pda, .int .i64 ala])), .box (.p (.agg [.lst true 36 [], .int .i64 0, .int .i64 0])), .dead, .map mp, .dead, .dead, .row 0 137, .box (.agg [.row 7 0 (.lst false 137 ua), .map 4]), .dead, .map mq, .dead, .dead, .row 0 137, .box (.agg [.row 13 0 (.lst false 137 ub), .map 10]), .dead, .dead, .dead, .dead, .dead, .row 0 36]
def qD3 (tc ta tb to ts te td tf tr tl tg : Int) (tx : List Int) (mp : List (T × T)) (ua : List T) (mq : List (T × T)) (ub : List T) : List SObj := [.box (.p ((trT tc ta tb to ts te td tf tr tl tg tx))), .box (.p (.agg [.lst true 36 [], .int .i64 0, .int .i64 0])), .box (.p (.agg [.lst true 36 [], .int .i64 0, .int .i64 0])), .dead, .map mp, .dead, .dead, .row 0 137, .box (.agg [.row 7 0 (.lst false 137 ua), .map 4]), .dead, .map mq, .dead, .dead, .row 0 137, .box (.agg [.row 13 0 (.lst false 137 ub), .map 10]), .dead, .dead, .dead, .dead, .dead, .row 0 36]
def qD4 (tc ta tb to ts te td tf tr tl tg : Int) (tx : List Int) (pda ala : Int) (mp : List (T × T)) (ua : List T) (mq : List (T × T)) (ub : List T) : List SObj := [.box (.p ((trT tc ta tb to ts te td tf tr tl tg tx))), .box (.p (.agg [.lst true 36 [], .int .i64 pda, .int .i64 ala])), .box (.p (.agg [.lst true 36 [], .int .i64 0, .int .i64 0])), .dead, .map mp, .dead, .dead, .row 0 137, .box (.agg [.row 7 0 (.lst false 137 ua), .map 4]), .dead, .map mq, .dead, .dead, .row 0 137, .box (.agg [.row 13 0 (.lst false 137 ub), .map 10])]
def qD5 (tc ta tb to ts te td tf tr tl tg : Int) (tx : List Int) (mx : List (T × T)) (ua ub : List T) : List SObj := [.box (.p ((trT tc ta tb to ts te td tf tr tl tg tx))), .box (.p (.agg [.lst true 36 [], .int .i64 0, .int .i64 0])), .box (.p (.agg [.lst true 36 [], .int .i64 0, .int .i64 0])), .dead, .map mx, .dead, .dead, .row 0 137, .box (.agg [.row 7 0 (.lst false 137 ua), .map 4]), .dead, .map [], .dead, .dead, .row 0 137, .box (.agg [.row 13 0 (.lst false 137 ub), .map 10])]
def qD6 (tc ta tb to ts te td tf tr tl tg : Int) (tx : List Int) (ua ub : List T) : List SObj := [.box (.p ((trT tc ta tb to ts te td tf tr tl tg tx))), .box (.p (.agg [.lst true 36 [], .int .i64 0, .int .i64 0])), .box (.p (.agg [.lst true 36 [], .int .i64 0, .int .i64 0])), .dead, .map [], .dead, .dead, .row 0 137, .box (.agg [.row 7 0 (.lst false 137 ua), .map 4]), .dead, .map [], .dead, .dead, .row 0 137, .box (.agg [.row 13 0 (.lst false 137 ub), .map 10])]
def qD7 (tc ta tb to ts te td tf tr tl tg : Int) (tx : List Int) (mp : List (T × T)) (ua ub : List T) : List SObj := [.box (.p ((trT tc ta tb to ts te td tf tr tl tg tx))), .box (.p (.agg [.lst true 36 [], .int .i64 0, .int .i64 0])), .box (.p (.agg [.lst true 36 [], .int .i64 0, .int .i64 0])), .dead, .map mp, .dead, .dead, .row 0 137, .box (.agg [.row 7 0 (.lst false 137 ua), .map 4]), .dead, .map [], .dead, .dead, .row 0 137, .box (.agg [.row 13 0 (.lst false 137 ub), .map 10])]
def qD8 (tc ta tb to ts te td tf tr tl tg : Int) (tx : List Int) (mp : List (T × T)) (ua : List T) (my : List (T × T)) (ub : List T) : List SObj := [.box (.p ((trT tc ta tb to ts te td tf tr tl tg tx))), .box (.p (.agg [.lst true 36 [], .int .i64 0, .int .i64 0])), .box (.p (.agg [.lst true 36 [], .int .i64 0, .int .i64 0])), .dead, .map mp, .dead, .dead, .row 0 137, .box (.agg [.row 7 0 (.lst false 137 ua), .map 4]), .dead, .map my, .dead, .dead, .row 0 137, .box (.agg [.row 13 0 (.lst false 137 ub), .map 10])]
def qD9 (tc ta tb to ts te td tf tr tl tg : Int) (tx : List Int) (mp : List (T × T)) (ua : List T) (mq : List (T × T)) (ub : List T) : List SObj := [.box (.p ((trT tc ta tb to ts te td tf tr tl tg tx))), .box (.p (.agg [.lst true 36 [], .int .i64 0, .int .i64 0])), .box (.p (.agg [.lst true 36 [], .int .i64 0, .int .i64 0])), .dead, .map mp, .dead, .dead, .row 0 137, .box (.agg [.row 7 0 (.lst false 137 ua), .map 4]), .dead, .map mq, .dead, .dead, .row 0 137, .box (.agg [.row 13 0 (.lst false 137 ub), .map 10])]
def qD10 (tc ta tb to ts te td tf tr tl tg : Int) (tx : List Int) (ua : List T) : List SObj := [.box (.p ((trT tc ta tb to ts te td tf tr tl tg tx))), .box (.p (.agg [.lst true 36 [], .int .i64 0, .int .i64 0])), .box (.p (.agg [.lst true 36 [], .int .i64 0, .int .i64 0])), .dead, .map [], .dead, .dead, .row 0 137, .box (.agg [.row 7 0 (.lst false 137 ua), .map 4]), .dead, .map [], .dead, .dead, .row 0 137]
def qD11 (tc ta tb to ts te td tf tr tl tg : Int) (tx : List Int) (ua : List T) : List SObj := [.box (.p ((trT tc ta tb to ts te td tf tr tl tg tx))), .box (.p (.agg [.lst true 36 [], .int .i64 0, .int .i64 0])), .box (.p (.agg [.lst true 36 [], .int .i64 0, .int .i64 0])), .dead, .map [], .dead, .dead, .row 0 137, .box (.agg [.row 7 0 (.lst false 137 ua), .map 4])]
def qD12 (tc ta tb to ts te td tf tr tl tg : Int) (tx : List Int) : List SObj := [.box (.p ((trT tc ta tb to ts te td tf tr tl tg tx))), .box (.p (.agg [.lst true 36 [], .int .i64 0, .int .i64 0])), .box (.p (.agg [.lst true 36 [], .int .i64 0, .int .i64 0])), .box (.p (.agg [.lst true 137 [], .nilM])), .dead, .map [], .dead, .dead, .row 0 137]
def qD13 (tc ta tb to ts te td tf tr tl tg : Int) (tx : List Int) : List SObj := [.box (.p ((trT tc ta tb to ts te td tf tr tl tg tx))), .box (.p (.agg [.lst true 36 [], .int .i64 0, .int .i64 0])), .box (.p (.agg [.lst true 36 [], .int .i64 0, .int .i64 0])), .box (.p (.agg [.lst true 137 [], .nilM]))]
def qD14 (tc ta tb to ts te td tf tr tl tg : Int) (tx : List Int) : List SObj := [.box (.p ((trT tc ta tb to ts te td tf tr tl tg tx))), .box (.p (.agg [.lst true 36 [], .int .i64 0, .int .i64 0])), .box (.p (.agg [.lst true 36 [], .int .i64 0, .int .i64 0])), .dead, .map [], .dead, .dead, .row 0 137]
def qD15 (tc ta tb to ts te td tf tr tl tg : Int) (tx : List Int) : List SObj := [.box (.p ((trT tc ta tb to ts te td tf tr tl tg tx))), .box (.p (.agg [.lst true 36 [], .int .i64 0, .int .i64 0])), .box (.p (.agg [.lst true 36 [], .int .i64 0, .int .i64 0]))]
theorem look00F (tc ta tb to ts te td tf tr tl tg pda ala pdb alb : Int) (tx : List Int) (la lb ua ub ha hb : List T) (mx mp my mq : List (T × T)) (g2 g3 g4 g5 : T) (xa xb : Bool): topK (Cd [] [146, 18, 147, 148]) 30 104 [] [.p ((trT tc ta tb to ts te td tf tr tl tg tx)), .p (.lst xa 137 la), .p (.lst xb 137 lb)] [] [] [([.p (.agg [.lst true 137 [], .nilM]), .p (.bool false)], (qD15 tc ta tb to ts te td tf tr tl tg tx)), ([.p (.agg [.lst true 137 [], .nilM]), .p (.bool false)], (qD13 tc ta tb to ts te td tf tr tl tg tx))] [[.bool false]] [] = some ([.p (.agg [.lst true 36 [], .int .i64 0, .int .i64 0]), .p (.agg [.lst true 36 [], .int .i64 0, .int .i64 0]), .p (.int .i64 1)], [], [PCall Try.prog 18 [(trT tc ta tb to ts te td tf tr tl tg tx)] [.bool false], GCall Try.prog 146 (qD13 tc ta tb to ts te td tf tr tl tg tx) [.p (.lst xb 137 lb)] (qD13 tc ta tb to ts te td tf tr tl tg tx) [.p (.agg [.lst true 137 [], .nilM]), .p (.bool false)], GCall Try.prog 146 (qD15 tc ta tb to ts te td tf tr tl tg tx) [.p (.lst xa 137 la)] (qD15 tc ta tb to ts te td tf tr tl tg tx) [.p (.agg [.lst true 137 [], .nilM]), .p (.bool false)]]) := by kernel_rfl
theorem look00T (tc ta tb to ts te td tf tr tl tg pda ala pdb alb : Int) (tx : List Int) (la lb ua ub ha hb : List T) (mx mp my mq : List (T × T)) (g2 g3 g4 g5 : T) (xa xb : Bool): topK (Cd [] [146, 18, 147, 148]) 30 104 [] [.p ((trT tc ta tb to ts te td tf tr tl tg tx)), .p (.lst xa 137 la), .p (.lst xb 137 lb)] [] [] [([.p (.agg [.lst true 137 [], .nilM]), .p (.bool false)], (qD15 tc ta tb to ts te td tf tr tl tg tx)), ([.p (.agg [.lst true 137 [], .nilM]), .p (.bool false)], (qD13 tc ta tb to ts te td tf tr tl tg tx))] [[.bool true]] [] = some ([.p (.agg [.lst true 36 [], .int .i64 0, .int .i64 0]), .p (.agg [.lst true 36 [], .int .i64 0, .int .i64 0]), .p (.int .i64 1)], [], [PCall Try.prog 18 [(trT tc ta tb to ts te td tf tr tl tg tx)] [.bool true], GCall Try.prog 146 (qD13 tc ta tb to ts te td tf tr tl tg tx) [.p (.lst xb 137 lb)] (qD13 tc ta tb to ts te td tf tr tl tg tx) [.p (.agg [.lst true 137 [], .nilM]), .p (.bool false)], GCall Try.prog 146 (qD15 tc ta tb to ts te td tf tr tl tg tx) [.p (.lst xa 137 la)] (qD15 tc ta tb to ts te td tf tr tl tg tx) [.p (.agg [.lst true 137 [], .nilM]), .p (.bool false)]]) := by kernel_rfl
theorem look02F (tc ta tb to ts te td tf tr tl tg pda ala pdb alb : Int) (tx : List Int) (la lb ua ub ha hb : List T) (mx mp my mq : List (T × T)) (g2 g3 g4 g5 : T) (xa xb : Bool): topK (Cd [] [146, 18, 147, 148]) 30 104 [] [.p ((trT tc ta tb to ts te td tf tr tl tg tx)), .p (.lst xa 137 la), .p (.lst xb 137 lb)] [] [] [([.p (.agg [.lst true 137 [], .nilM]), .p (.bool false)], (qD15 tc ta tb to ts te td tf tr tl tg tx)), ([.agg [.row 8 0 (.lst false 137 ub), .map 5], .rb true], (qD12 tc ta tb to ts te td tf tr tl tg tx))] [[.bool false]] [] = some ([.p (.agg [.lst true 36 [], .int .i64 0, .int .i64 0]), .p (.agg [.lst true 36 [], .int .i64 0, .int .i64 0]), .p (.int .i64 1)], [], [PCall Try.prog 18 [(trT tc ta tb to ts te td tf tr tl tg tx)] [.bool false], GCall Try.prog 146 (qD13 tc ta tb to ts te td tf tr tl tg tx) [.p (.lst xb 137 lb)] (qD12 tc ta tb to ts te td tf tr tl tg tx) [.agg [.row 8 0 (.lst false 137 ub), .map 5], .rb true], GCall Try.prog 146 (qD15 tc ta tb to ts te td tf tr tl tg tx) [.p (.lst xa 137 la)] (qD15 tc ta tb to ts te td tf tr tl tg tx) [.p (.agg [.lst true 137 [], .nilM]), .p (.bool false)]]) := by kernel_rfl
theorem look02T (tc ta tb to ts te td tf tr tl tg pda ala pdb alb : Int) (tx : List Int) (la lb ua ub ha hb : List T) (mx mp my mq : List (T × T)) (g2 g3 g4 g5 : T) (xa xb : Bool): topK (Cd [] [146, 18, 147, 148]) 30 104 [] [.p ((trT tc ta tb to ts te td tf tr tl tg tx)), .p (.lst xa 137 la), .p (.lst xb 137 lb)] [] [] [([.p (.agg [.lst true 137 [], .nilM]), .p (.bool false)], (qD15 tc ta tb to ts te td tf tr tl tg tx)), ([.agg [.row 8 0 (.lst false 137 ub), .map 5], .rb true], (qD12 tc ta tb to ts te td tf tr tl tg tx))] [[.bool true]] [] = some ([.p (.agg [.lst true 36 [], .int .i64 0, .int .i64 0]), .p (.agg [.lst true 36 [], .int .i64 0, .int .i64 0]), .p (.int .i64 1)], [], [PCall Try.prog 18 [(trT tc ta tb to ts te td tf tr tl tg tx)] [.bool true], GCall Try.prog 146 (qD13 tc ta tb to ts te td tf tr tl tg tx) [.p (.lst xb 137 lb)] (qD12 tc ta tb to ts te td tf tr tl tg tx) [.agg [.row 8 0 (.lst false 137 ub), .map 5], .rb true], GCall Try.prog 146 (qD15 tc ta tb to ts te td tf tr tl tg tx) [.p (.lst xa 137 la)] (qD15 tc ta tb to ts te td tf tr tl tg tx) [.p (.agg [.lst true 137 [], .nilM]), .p (.bool false)]]) := by kernel_rfl
theorem look20F (tc ta tb to ts te td tf tr tl tg pda ala pdb alb : Int) (tx : List Int) (la lb ua ub ha hb : List T) (mx mp my mq : List (T × T)) (g2 g3 g4 g5 : T) (xa xb : Bool): topK (Cd [] [146, 18, 147, 148]) 30 104 [] [.p ((trT tc ta tb to ts te td tf tr tl tg tx)), .p (.lst xa 137 la), .p (.lst xb 137 lb)] [] [] [([.agg [.row 7 0 (.lst false 137 ua), .map 4], .rb true], (qD14 tc ta tb to ts te td tf tr tl tg tx)), ([.p (.agg [.lst true 137 [], .nilM]), .p (.bool false)], (qD11 tc ta tb to ts te td tf tr tl tg tx ua))] [[.bool false]] [] = some ([.p (.agg [.lst true 36 [], .int .i64 0, .int .i64 0]), .p (.agg [.lst true 36 [], .int .i64 0, .int .i64 0]), .p (.int .i64 1)], [], [PCall Try.prog 18 [(trT tc ta tb to ts te td tf tr tl tg tx)] [.bool false], GCall Try.prog 146 (qD11 tc ta tb to ts te td tf tr tl tg tx ua) [.p (.lst xb 137 lb)] (qD11 tc ta tb to ts te td tf tr tl tg tx ua) [.p (.agg [.lst true 137 [], .nilM]), .p (.bool false)], GCall Try.prog 146 (qD15 tc ta tb to ts te td tf tr tl tg tx) [.p (.lst xa 137 la)] (qD14 tc ta tb to ts te td tf tr tl tg tx) [.agg [.row 7 0 (.lst false 137 ua), .map 4], .rb true]]) := by kernel_rfl
theorem look20T (tc ta tb to ts te td tf tr tl tg pda ala pdb alb : Int) (tx : List Int) (la lb ua ub ha hb : List T) (mx mp my mq : List (T × T)) (g2 g3 g4 g5 : T) (xa xb : Bool): topK (Cd [] [146, 18, 147, 148]) 30 104 [] [.p ((trT tc ta tb to ts te td tf tr tl tg tx)), .p (.lst xa 137 la), .p (.lst xb 137 lb)] [] [] [([.agg [.row 7 0 (.lst false 137 ua), .map 4], .rb true], (qD14 tc ta tb to ts te td tf tr tl tg tx)), ([.p (.agg [.lst true 137 [], .nilM]), .p (.bool false)], (qD11 tc ta tb to ts te td tf tr tl tg tx ua))] [[.bool true]] [] = some ([.p (.agg [.lst true 36 [], .int .i64 0, .int .i64 0]), .p (.agg [.lst true 36 [], .int .i64 0, .int .i64 0]), .p (.int .i64 1)], [], [PCall Try.prog 18 [(trT tc ta tb to ts te td tf tr tl tg tx)] [.bool true], GCall Try.prog 146 (qD11 tc ta tb to ts te td tf tr tl tg tx ua) [.p (.lst xb 137 lb)] (qD11 tc ta tb to ts te td tf tr tl tg tx ua) [.p (.agg [.lst true 137 [], .nilM]), .p (.bool false)], GCall Try.prog 146 (qD15 tc ta tb to ts te td tf tr tl tg tx) [.p (.lst xa 137 la)] (qD14 tc ta tb to ts te td tf tr tl tg tx) [.agg [.row 7 0 (.lst false 137 ua), .map 4], .rb true]]) := by kernel_rfl
theorem look22F (tc ta tb to ts te td tf tr tl tg pda ala pdb alb : Int) (tx : List Int) (la lb ua ub ha hb : List T) (mx mp my mq : List (T × T)) (g2 g3 g4 g5 : T) (xa xb : Bool): topK (Cd [] [146, 18, 147, 148]) 30 104 [] [.p ((trT tc ta tb to ts te td tf tr tl tg tx)), .p (.lst xa 137 la), .p (.lst xb 137 lb)] [] [] [([.agg [.row 7 0 (.lst false 137 ua), .map 4], .rb true], (qD14 tc ta tb to ts te td tf tr tl tg tx)), ([.agg [.row 13 0 (.lst false 137 ub), .map 10], .rb true], (qD10 tc ta tb to ts te td tf tr tl tg tx ua))] [[.bool false]] [] = some ([.p (.agg [.lst true 36 [], .int .i64 0, .int .i64 0]), .p (.agg [.lst true 36 [], .int .i64 0, .int .i64 0]), .p (.int .i64 1)], [], [PCall Try.prog 18 [(trT tc ta tb to ts te td tf tr tl tg tx)] [.bool false], GCall Try.prog 146 (qD11 tc ta tb to ts te td tf tr tl tg tx ua) [.p (.lst xb 137 lb)] (qD10 tc ta tb to ts te td tf tr tl tg tx ua) [.agg [.row 13 0 (.lst false 137 ub), .map 10], .rb true], GCall Try.prog 146 (qD15 tc ta tb to ts te td tf tr tl tg tx) [.p (.lst xa 137 la)] (qD14 tc ta tb to ts te td tf tr tl tg tx) [.agg [.row 7 0 (.lst false 137 ua), .map 4], .rb true]]) := by kernel_rfl
theorem look22n (tc ta tb to ts te td tf tr tl tg pda ala pdb alb : Int) (tx : List Int) (la lb ua ub ha hb : List T) (mx mp my mq : List (T × T)) (g2 g3 g4 g5 : T) (xa xb : Bool): topK (Cd [] [146, 18, 147, 148]) 30 104 [] [.p ((trT tc ta tb to ts te td tf tr tl tg tx)), .p (.lst xa 137 la), .p (.lst xb 137 lb)] [] [] [([.agg [.row 7 0 (.lst false 137 ua), .map 4], .rb true], (qD14 tc ta tb to ts te td tf tr tl tg tx)), ([.agg [.row 13 0 (.lst false 137 ub), .map 10], .rb true], (qD10 tc ta tb to ts te td tf tr tl tg tx ua)), ([.p (.bool false)], (qD5 tc ta tb to ts te td tf tr tl tg tx mx ua ub))] [[.bool true]] [] = some ([.p (.agg [.lst true 36 [], .int .i64 0, .int .i64 0]), .p (.agg [.lst true 36 [], .int .i64 0, .int .i64 0]), .p (.int .i64 4)], [], [GCall Try.prog 147 (qD6 tc ta tb to ts te td tf tr tl tg tx ua ub) [.ptr 8 0, .p (.lst xa 137 la), .agg [.row 13 0 (.lst false 137 ub), .map 10]] (qD5 tc ta tb to ts te td tf tr tl tg tx mx ua ub) [.p (.bool false)], PCall Try.prog 18 [(trT tc ta tb to ts te td tf tr tl tg tx)] [.bool true], GCall Try.prog 146 (qD11 tc ta tb to ts te td tf tr tl tg tx ua) [.p (.lst xb 137 lb)] (qD10 tc ta tb to ts te td tf tr tl tg tx ua) [.agg [.row 13 0 (.lst false 137 ub), .map 10], .rb true], GCall Try.prog 146 (qD15 tc ta tb to ts te td tf tr tl tg tx) [.p (.lst xa 137 la)] (qD14 tc ta tb to ts te td tf tr tl tg tx) [.agg [.row 7 0 (.lst false 137 ua), .map 4], .rb true]]) := by kernel_rfl
theorem look22sn (tc ta tb to ts te td tf tr tl tg pda ala pdb alb : Int) (tx : List Int) (la lb ua ub ha hb : List T) (mx mp my mq : List (T × T)) (g2 g3 g4 g5 : T) (xa xb : Bool): topK (Cd [] [146, 18, 147, 148]) 30 104 [] [.p ((trT tc ta tb to ts te td tf tr tl tg tx)), .p (.lst xa 137 la), .p (.lst xb 137 lb)] [] [] [([.agg [.row 7 0 (.lst false 137 ua), .map 4], .rb true], (qD14 tc ta tb to ts te td tf tr tl tg tx)), ([.agg [.row 13 0 (.lst false 137 ub), .map 10], .rb true], (qD10 tc ta tb to ts te td tf tr tl tg tx ua)), ([.rb true], (qD7 tc ta tb to ts te td tf tr tl tg tx mp ua ub)), ([.p (.bool false)], (qD8 tc ta tb to ts te td tf tr tl tg tx mp ua my ub))] [[.bool true]] [] = some ([.p (.agg [.lst true 36 [], .int .i64 0, .int .i64 0]), .p (.agg [.lst true 36 [], .int .i64 0, .int .i64 0]), .p (.int .i64 4)], [], [GCall Try.prog 147 (qD7 tc ta tb to ts te td tf tr tl tg tx mp ua ub) [.ptr 14 0, .p (.lst xb 137 lb), .agg [.row 7 0 (.lst false 137 ua), .map 4]] (qD8 tc ta tb to ts te td tf tr tl tg tx mp ua my ub) [.p (.bool false)], GCall Try.prog 147 (qD6 tc ta tb to ts te td tf tr tl tg tx ua ub) [.ptr 8 0, .p (.lst xa 137 la), .agg [.row 13 0 (.lst false 137 ub), .map 10]] (qD7 tc ta tb to ts te td tf tr tl tg tx mp ua ub) [.rb true], PCall Try.prog 18 [(trT tc ta tb to ts te td tf tr tl tg tx)] [.bool true], GCall Try.prog 146 (qD11 tc ta tb to ts te td tf tr tl tg tx ua) [.p (.lst xb 137 lb)] (qD10 tc ta tb to ts te td tf tr tl tg tx ua) [.agg [.row 13 0 (.lst false 137 ub), .map 10], .rb true], GCall Try.prog 146 (qD15 tc ta tb to ts te td tf tr tl tg tx) [.p (.lst xa 137 la)] (qD14 tc ta tb to ts te td tf tr tl tg tx) [.agg [.row 7 0 (.lst false 137 ua), .map 4], .rb true]]) := by kernel_rfl
theorem look22ss0 (tc ta tb to ts te td tf tr tl tg pda ala pdb alb : Int) (tx : List Int) (la lb ua ub ha hb : List T) (mx mp my mq : List (T × T)) (g2 g3 g4 g5 : T) (xa xb : Bool): topK (Cd [] [146, 18, 147, 148]) 30 104 [] [.p ((trT tc ta tb to ts te td tf tr tl tg tx)), .p (.lst xa 137 la), .p (.lst xb 137 lb)] [] [] [([.agg [.row 7 0 (.lst false 137 ua), .map 4], .rb true], (qD14 tc ta tb to ts te td tf tr tl tg tx)), ([.agg [.row 13 0 (.lst false 137 ub), .map 10], .rb true], (qD10 tc ta tb to ts te td tf tr tl tg tx ua)), ([.rb true], (qD7 tc ta tb to ts te td tf tr tl tg tx mp ua ub)), ([.rb true], (qD9 tc ta tb to ts te td tf tr tl tg tx mp ua mq ub)), ([.p (.agg [.lst true 36 [], .int .i64 0, .int .i64 0]), .p (.int .i64 20)], (qD9 tc ta tb to ts te td tf tr tl tg tx mp ua mq ub))] [[.bool true]] [] = some ([.p (.agg [.lst true 36 [], .int .i64 0, .int .i64 0]), .p (.agg [.lst true 36 [], .int .i64 0, .int .i64 0]), .p (.int .i64 20)], [], [GCall Try.prog 148 (qD9 tc ta tb to ts te td tf tr tl tg tx mp ua mq ub) [.agg [.row 7 0 (.lst false 137 ua), .map 4], .agg [.row 13 0 (.lst false 137 ub), .map 10], .p (.int .i64 ta)] (qD9 tc ta tb to ts te td tf tr tl tg tx mp ua mq ub) [.p (.agg [.lst true 36 [], .int .i64 0, .int .i64 0]), .p (.int .i64 20)], GCall Try.prog 147 (qD7 tc ta tb to ts te td tf tr tl tg tx mp ua ub) [.ptr 14 0, .p (.lst xb 137 lb), .agg [.row 7 0 (.lst false 137 ua), .map 4]] (qD9 tc ta tb to ts te td tf tr tl tg tx mp ua mq ub) [.rb true], GCall Try.prog 147 (qD6 tc ta tb to ts te td tf tr tl tg tx ua ub) [.ptr 8 0, .p (.lst xa 137 la), .agg [.row 13 0 (.lst false 137 ub), .map 10]] (qD7 tc ta tb to ts te td tf tr tl tg tx mp ua ub) [.rb true], PCall Try.prog 18 [(trT tc ta tb to ts te td tf tr tl tg tx)] [.bool true], GCall Try.prog 146 (qD11 tc ta tb to ts te td tf tr tl tg tx ua) [.p (.lst xb 137 lb)] (qD10 tc ta tb to ts te td tf tr tl tg tx ua) [.agg [.row 13 0 (.lst false 137 ub), .map 10], .rb true], GCall Try.prog 146 (qD15 tc ta tb to ts te td tf tr tl tg tx) [.p (.lst xa 137 la)] (qD14 tc ta tb to ts te td tf tr tl tg tx) [.agg [.row 7 0 (.lst false 137 ua), .map 4], .rb true]]) := by kernel_rfl
theorem look22ss10 (tc ta tb to ts te td tf tr tl tg pda ala pdb alb : Int) (tx : List Int) (la lb ua ub ha hb : List T) (mx mp my mq : List (T × T)) (g2 g3 g4 g5 : T) (xa xb : Bool): topK (Cd [] [146, 18, 147, 148]) 30 104 [] [.p ((trT tc ta tb to ts te td tf tr tl tg tx)), .p (.lst xa 137 la), .p (.lst xb 137 lb)] [] [] [([.agg [.row 7 0 (.lst false 137 ua), .map 4], .rb true], (qD14 tc ta tb to ts te td tf tr tl tg tx)), ([.agg [.row 13 0 (.lst false 137 ub), .map 10], .rb true], (qD10 tc ta tb to ts te td tf tr tl tg tx ua)), ([.rb true], (qD7 tc ta tb to ts te td tf tr tl tg tx mp ua ub)), ([.rb true], (qD9 tc ta tb to ts te td tf tr tl tg tx mp ua mq ub)), ([.p (.agg [.lst true 36 [], .int .i64 pda, .int .i64 ala]), .p (.int .i64 0)], (qD9 tc ta tb to ts te td tf tr tl tg tx mp ua mq ub)), ([.p (.agg [.lst true 36 [], .int .i64 0, .int .i64 0]), .p (.int .i64 20)], (qD4 tc ta tb to ts te td tf tr tl tg tx pda ala mp ua mq ub))] [[.bool true]] [] = some ([.p (.agg [.lst true 36 [], .int .i64 pda, .int .i64 ala]), .p (.agg [.lst true 36 [], .int .i64 0, .int .i64 0]), .p (.int .i64 20)], [], [GCall Try.prog 148 (qD4 tc ta tb to ts te td tf tr tl tg tx pda ala mp ua mq ub) [.agg [.row 13 0 (.lst false 137 ub), .map 10], .agg [.row 7 0 (.lst false 137 ua), .map 4], .p (.int .i64 tb)] (qD4 tc ta tb to ts te td tf tr tl tg tx pda ala mp ua mq ub) [.p (.agg [.lst true 36 [], .int .i64 0, .int .i64 0]), .p (.int .i64 20)], GCall Try.prog 148 (qD9 tc ta tb to ts te td tf tr tl tg tx mp ua mq ub) [.agg [.row 7 0 (.lst false 137 ua), .map 4], .agg [.row 13 0 (.lst false 137 ub), .map 10], .p (.int .i64 ta)] (qD9 tc ta tb to ts te td tf tr tl tg tx mp ua mq ub) [.p (.agg [.lst true 36 [], .int .i64 pda, .int .i64 ala]), .p (.int .i64 0)], GCall Try.prog 147 (qD7 tc ta tb to ts te td tf tr tl tg tx mp ua ub) [.ptr 14 0, .p (.lst xb 137 lb), .agg [.row 7 0 (.lst false 137 ua), .map 4]] (qD9 tc ta tb to ts te td tf tr tl tg tx mp ua mq ub) [.rb true], GCall Try.prog 147 (qD6 tc ta tb to ts te td tf tr tl tg tx ua ub) [.ptr 8 0, .p (.lst xa 137 la), .agg [.row 13 0 (.lst false 137 ub), .map 10]] (qD7 tc ta tb to ts te td tf tr tl tg tx mp ua ub) [.rb true], PCall Try.prog 18 [(trT tc ta tb to ts te td tf tr tl tg tx)] [.bool true], GCall Try.prog 146 (qD11 tc ta tb to ts te td tf tr tl tg tx ua) [.p (.lst xb 137 lb)] (qD10 tc ta tb to ts te td tf tr tl tg tx ua) [.agg [.row 13 0 (.lst false 137 ub), .map 10], .rb true], GCall Try.prog 146 (qD15 tc ta tb to ts te td tf tr tl tg tx) [.p (.lst xa 137 la)] (qD14 tc ta tb to ts te td tf tr tl tg tx) [.agg [.row 7 0 (.lst false 137 ua), .map 4], .rb true]]) := by kernel_rfl
theorem look22ss11 (tc ta tb to ts te td tf tr tl tg pda ala pdb alb : Int) (tx : List Int) (la lb ua ub ha hb : List T) (mx mp my mq : List (T × T)) (g2 g3 g4 g5 : T) (xa xb : Bool): topK (Cd [] [146, 18, 147, 148]) 30 104 [] [.p ((trT tc ta tb to ts te td tf tr tl tg tx)), .p (.lst xa 137 la), .p (.lst xb 137 lb)] [] [] [([.agg [.row 7 0 (.lst false 137 ua), .map 4], .rb true], (qD14 tc ta tb to ts te td tf tr tl tg tx)), ([.agg [.row 13 0 (.lst false 137 ub), .map 10], .rb true], (qD10 tc ta tb to ts te td tf tr tl tg tx ua)), ([.rb true], (qD7 tc ta tb to ts te td tf tr tl tg tx mp ua ub)), ([.rb true], (qD9 tc ta tb to ts te td tf tr tl tg tx mp ua mq ub)), ([.p (.agg [.lst true 36 [], .int .i64 pda, .int .i64 ala]), .p (.int .i64 0)], (qD9 tc ta tb to ts te td tf tr tl tg tx mp ua mq ub)), ([.p (.agg [.lst true 36 [], .int .i64 pdb, .int .i64 alb]), .p (.int .i64 0)], (qD4 tc ta tb to ts te td tf tr tl tg tx pda ala mp ua mq ub))] [[.bool true]] [] = some ([.p (.agg [.lst true 36 [], .int .i64 pda, .int .i64 ala]), .p (.agg [.lst true 36 [], .int .i64 pdb, .int .i64 alb]), .p (.int .i64 0)], [], [GCall Try.prog 148 (qD4 tc ta tb to ts te td tf tr tl tg tx pda ala mp ua mq ub) [.agg [.row 13 0 (.lst false 137 ub), .map 10], .agg [.row 7 0 (.lst false 137 ua), .map 4], .p (.int .i64 tb)] (qD4 tc ta tb to ts te td tf tr tl tg tx pda ala mp ua mq ub) [.p (.agg [.lst true 36 [], .int .i64 pdb, .int .i64 alb]), .p (.int .i64 0)], GCall Try.prog 148 (qD9 tc ta tb to ts te td tf tr tl tg tx mp ua mq ub) [.agg [.row 7 0 (.lst false 137 ua), .map 4], .agg [.row 13 0 (.lst false 137 ub), .map 10], .p (.int .i64 ta)] (qD9 tc ta tb to ts te td tf tr tl tg tx mp ua mq ub) [.p (.agg [.lst true 36 [], .int .i64 pda, .int .i64 ala]), .p (.int .i64 0)], GCall Try.prog 147 (qD7 tc ta tb to ts te td tf tr tl tg tx mp ua ub) [.ptr 14 0, .p (.lst xb 137 lb), .agg [.row 7 0 (.lst false 137 ua), .map 4]] (qD9 tc ta tb to ts te td tf tr tl tg tx mp ua mq ub) [.rb true], GCall Try.prog 147 (qD6 tc ta tb to ts te td tf tr tl tg tx ua ub) [.ptr 8 0, .p (.lst xa 137 la), .agg [.row 13 0 (.lst false 137 ub), .map 10]] (qD7 tc ta tb to ts te td tf tr tl tg tx mp ua ub) [.rb true], PCall Try.prog 18 [(trT tc ta tb to ts te td tf tr tl tg tx)] [.bool true], GCall Try.prog 146 (qD11 tc ta tb to ts te td tf tr tl tg tx ua) [.p (.lst xb 137 lb)] (qD10 tc ta tb to ts te td tf tr tl tg tx ua) [.agg [.row 13 0 (.lst false 137 ub), .map 10], .rb true], GCall Try.prog 146 (qD15 tc ta tb to ts te td tf tr tl tg tx) [.p (.lst xa 137 la)] (qD14 tc ta tb to ts te td tf tr tl tg tx) [.agg [.row 7 0 (.lst false 137 ua), .map 4], .rb true]]) := by kernel_rfl
theorem look22ss12 (tc ta tb to ts te td tf tr tl tg pda ala pdb alb : Int) (tx : List Int) (la lb ua ub ha hb : List T) (mx mp my mq : List (T × T)) (g2 g3 g4 g5 : T) (xa xb : Bool): topK (Cd [] [146, 18, 147, 148]) 30 104 [] [.p ((trT tc ta tb to ts te td tf tr tl tg tx)), .p (.lst xa 137 la), .p (.lst xb 137 lb)] [] [] [([.agg [.row 7 0 (.lst false 137 ua), .map 4], .rb true], (qD14 tc ta tb to ts te td tf tr tl tg tx)), ([.agg [.row 13 0 (.lst false 137 ub), .map 10], .rb true], (qD10 tc ta tb to ts te td tf tr tl tg tx ua)), ([.rb true], (qD7 tc ta tb to ts te td tf tr tl tg tx mp ua ub)), ([.rb true], (qD9 tc ta tb to ts te td tf tr tl tg tx mp ua mq ub)), ([.p (.agg [.lst true 36 [], .int .i64 pda, .int .i64 ala]), .p (.int .i64 0)], (qD9 tc ta tb to ts te td tf tr tl tg tx mp ua mq ub)), ([.agg [.row 20 0 (.lst false 36 hb), .p (.int .i64 pdb), .p (.int .i64 alb)], .p (.int .i64 0)], (qD2 tc ta tb to ts te td tf tr tl tg tx pda ala mp ua mq ub))] [[.bool true]] [] = some ([.p (.agg [.lst true 36 [], .int .i64 pda, .int .i64 ala]), .agg [.row 20 0 (.lst false 36 hb), .p (.int .i64 pdb), .p (.int .i64 alb)], .p (.int .i64 0)], [.box (.p ((trT tc ta tb to ts te td tf tr tl tg tx))), .box (.p (.agg [.lst true 36 [], .int .i64 pda, .int .i64 ala])), .box (.agg [.row 20 0 (.lst false 36 hb), .p (.int .i64 pdb), .p (.int .i64 alb)]), .dead, .map mp, .dead, .dead, .row 0 137, .box (.agg [.row 7 0 (.lst false 137 ua), .map 4]), .dead, .map mq, .dead, .dead, .row 0 137, .box (.agg [.row 13 0 (.lst false 137 ub), .map 10]), .dead, .dead, .dead, .dead, .dead, .row 0 36], [GCall Try.prog 148 (qD4 tc ta tb to ts te td tf tr tl tg tx pda ala mp ua mq ub) [.agg [.row 13 0 (.lst false 137 ub), .map 10], .agg [.row 7 0 (.lst false 137 ua), .map 4], .p (.int .i64 tb)] (qD2 tc ta tb to ts te td tf tr tl tg tx pda ala mp ua mq ub) [.agg [.row 20 0 (.lst false 36 hb), .p (.int .i64 pdb), .p (.int .i64 alb)], .p (.int .i64 0)], GCall Try.prog 148 (qD9 tc ta tb to ts te td tf tr tl tg tx mp ua mq ub) [.agg [.row 7 0 (.lst false 137 ua), .map 4], .agg [.row 13 0 (.lst false 137 ub), .map 10], .p (.int .i64 ta)] (qD9 tc ta tb to ts te td tf tr tl tg tx mp ua mq ub) [.p (.agg [.lst true 36 [], .int .i64 pda, .int .i64 ala]), .p (.int .i64 0)], GCall Try.prog 147 (qD7 tc ta tb to ts te td tf tr tl tg tx mp ua ub) [.ptr 14 0, .p (.lst xb 137 lb), .agg [.row 7 0 (.lst false 137 ua), .map 4]] (qD9 tc ta tb to ts te td tf tr tl tg tx mp ua mq ub) [.rb true], GCall Try.prog 147 (qD6 tc ta tb to ts te td tf tr tl tg tx ua ub) [.ptr 8 0, .p (.lst xa 137 la), .agg [.row 13 0 (.lst false 137 ub), .map 10]] (qD7 tc ta tb to ts te td tf tr tl tg tx mp ua ub) [.rb true], PCall Try.prog 18 [(trT tc ta tb to ts te td tf tr tl tg tx)] [.bool true], GCall Try.prog 146 (qD11 tc ta tb to ts te td tf tr tl tg tx ua) [.p (.lst xb 137 lb)] (qD10 tc ta tb to ts te td tf tr tl tg tx ua) [.agg [.row 13 0 (.lst false 137 ub), .map 10], .rb true], GCall Try.prog 146 (qD15 tc ta tb to ts te td tf tr tl tg tx) [.p (.lst xa 137 la)] (qD14 tc ta tb to ts te td tf tr tl tg tx) [.agg [.row 7 0 (.lst false 137 ua), .map 4], .rb true]]) := by kernel_rfl
theorem look22ss20 (tc ta tb to ts te td tf tr tl tg pda ala pdb alb : Int) (tx : List Int) (la lb ua ub ha hb : List T) (mx mp my mq : List (T × T)) (g2 g3 g4 g5 : T) (xa xb : Bool): topK (Cd [] [146, 18, 147, 148]) 30 104 [] [.p ((trT tc ta tb to ts te td tf tr tl tg tx)), .p (.lst xa 137 la), .p (.lst xb 137 lb)] [] [] [([.agg [.row 7 0 (.lst false 137 ua), .map 4], .rb true], (qD14 tc ta tb to ts te td tf tr tl tg tx)), ([.agg [.row 13 0 (.lst false 137 ub), .map 10], .rb true], (qD10 tc ta tb to ts te td tf tr tl tg tx ua)), ([.rb true], (qD7 tc ta tb to ts te td tf tr tl tg tx mp ua ub)), ([.rb true], (qD9 tc ta tb to ts te td tf tr tl tg tx mp ua mq ub)), ([.agg [.row 20 0 (.lst false 36 ha), .p (.int .i64 pda), .p (.int .i64 ala)], .p (.int .i64 0)], (qD3 tc ta tb to ts te td tf tr tl tg tx mp ua mq ub)), ([.p (.agg [.lst true 36 [], .int .i64 0, .int .i64 0]), .p (.int .i64 20)], (qD1 tc ta tb to ts te td tf tr tl tg tx ha pda ala mp ua mq ub))] [[.bool true]] [] = some ([.agg [.row 20 0 (.lst false 36 ha), .p (.int .i64 pda), .p (.int .i64 ala)], .p (.agg [.lst true 36 [], .int .i64 0, .int .i64 0]), .p (.int .i64 20)], (qD1 tc ta tb to ts te td tf tr tl tg tx ha pda ala mp ua mq ub), [GCall Try.prog 148 (qD1 tc ta tb to ts te td tf tr tl tg tx ha pda ala mp ua mq ub) [.agg [.row 13 0 (.lst false 137 ub), .map 10], .agg [.row 7 0 (.lst false 137 ua), .map 4], .p (.int .i64 tb)] (qD1 tc ta tb to ts te td tf tr tl tg tx ha pda ala mp ua mq ub) [.p (.agg [.lst true 36 [], .int .i64 0, .int .i64 0]), .p (.int .i64 20)], GCall Try.prog 148 (qD9 tc ta tb to ts te td tf tr tl tg tx mp ua mq ub) [.agg [.row 7 0 (.lst false 137 ua), .map 4], .agg [.row 13 0 (.lst false 137 ub), .map 10], .p (.int .i64 ta)] (qD3 tc ta tb to ts te td tf tr tl tg tx mp ua mq ub) [.agg [.row 20 0 (.lst false 36 ha), .p (.int .i64 pda), .p (.int .i64 ala)], .p (.int .i64 0)], GCall Try.prog 147 (qD7 tc ta tb to ts te td tf tr tl tg tx mp ua ub) [.ptr 14 0, .p (.lst xb 137 lb), .agg [.row 7 0 (.lst false 137 ua), .map 4]] (qD9 tc ta tb to ts te td tf tr tl tg tx mp ua mq ub) [.rb true], GCall Try.prog 147 (qD6 tc ta tb to ts te td tf tr tl tg tx ua ub) [.ptr 8 0, .p (.lst xa 137 la), .agg [.row 13 0 (.lst false 137 ub), .map 10]] (qD7 tc ta tb to ts te td tf tr tl tg tx mp ua ub) [.rb true], PCall Try.prog 18 [(trT tc ta tb to ts te td tf tr tl tg tx)] [.bool true], GCall Try.prog 146 (qD11 tc ta tb to ts te td tf tr tl tg tx ua) [.p (.lst xb 137 lb)] (qD10 tc ta tb to ts te td tf tr tl tg tx ua) [.agg [.row 13 0 (.lst false 137 ub), .map 10], .rb true], GCall Try.prog 146 (qD15 tc ta tb to ts te td tf tr tl tg tx) [.p (.lst xa 137 la)] (qD14 tc ta tb to ts te td tf tr tl tg tx) [.agg [.row 7 0 (.lst false 137 ua), .map 4], .rb true]]) := by kernel_rfl
theorem look22ss21 (tc ta tb to ts te td tf tr tl tg pda ala pdb alb : Int) (tx : List Int) (la lb ua ub ha hb : List T) (mx mp my mq : List (T × T)) (g2 g3 g4 g5 : T) (xa xb : Bool): topK (Cd [] [146, 18, 147, 148]) 30 104 [] [.p ((trT tc ta tb to ts te td tf tr tl tg tx)), .p (.lst xa 137 la), .p (.lst xb 137 lb)] [] [] [([.agg [.row 7 0 (.lst false 137 ua), .map 4], .rb true], (qD14 tc ta tb to ts te td tf tr tl tg tx)), ([.agg [.row 13 0 (.lst false 137 ub), .map 10], .rb true], (qD10 tc ta tb to ts te td tf tr tl tg tx ua)), ([.rb true], (qD7 tc ta tb to ts te td tf tr tl tg tx mp ua ub)), ([.rb true], (qD9 tc ta tb to ts te td tf tr tl tg tx mp ua mq ub)), ([.agg [.row 20 0 (.lst false 36 ha), .p (.int .i64 pda), .p (.int .i64 ala)], .p (.int .i64 0)], (qD3 tc ta tb to ts te td tf tr tl tg tx mp ua mq ub)), ([.p (.agg [.lst true 36 [], .int .i64 pdb, .int .i64 alb]), .p (.int .i64 0)], (qD1 tc ta tb to ts te td tf tr tl tg tx ha pda ala mp ua mq ub))] [[.bool true]] [] = some ([.agg [.row 20 0 (.lst false 36 ha), .p (.int .i64 pda), .p (.int .i64 ala)], .p (.agg [.lst true 36 [], .int .i64 pdb, .int .i64 alb]), .p (.int .i64 0)], [.box (.p ((trT tc ta tb to ts te td tf tr tl tg tx))), .box (.agg [.row 20 0 (.lst false 36 ha), .p (.int .i64 pda), .p (.int .i64 ala)]), .box (.p (.agg [.lst true 36 [], .int .i64 pdb, .int .i64 alb])), .dead, .map mp, .dead, .dead, .row 0 137, .box (.agg [.row 7 0 (.lst false 137 ua), .map 4]), .dead, .map mq, .dead, .dead, .row 0 137, .box (.agg [.row 13 0 (.lst false 137 ub), .map 10]), .dead, .dead, .dead, .dead, .dead, .row 0 36], [GCall Try.prog 148 (qD1 tc ta tb to ts te td tf tr tl tg tx ha pda ala mp ua mq ub) [.agg [.row 13 0 (.lst false 137 ub), .map 10], .agg [.row 7 0 (.lst false 137 ua), .map 4], .p (.int .i64 tb)] (qD1 tc ta tb to ts te td tf tr tl tg tx ha pda ala mp ua mq ub) [.p (.agg [.lst true 36 [], .int .i64 pdb, .int .i64 alb]), .p (.int .i64 0)], GCall Try.prog 148 (qD9 tc ta tb to ts te td tf tr tl tg tx mp ua mq ub) [.agg [.row 7 0 (.lst false 137 ua), .map 4], .agg [.row 13 0 (.lst false 137 ub), .map 10], .p (.int .i64 ta)] (qD3 tc ta tb to ts te td tf tr tl tg tx mp ua mq ub) [.agg [.row 20 0 (.lst false 36 ha), .p (.int .i64 pda), .p (.int .i64 ala)], .p (.int .i64 0)], GCall Try.prog 147 (qD7 tc ta tb to ts te td tf tr tl tg tx mp ua ub) [.ptr 14 0, .p (.lst xb 137 lb), .agg [.row 7 0 (.lst false 137 ua), .map 4]] (qD9 tc ta tb to ts te td tf tr tl tg tx mp ua mq ub) [.rb true], GCall Try.prog 147 (qD6 tc ta tb to ts te td tf tr tl tg tx ua ub) [.ptr 8 0, .p (.lst xa 137 la), .agg [.row 13 0 (.lst false 137 ub), .map 10]] (qD7 tc ta tb to ts te td tf tr tl tg tx mp ua ub) [.rb true], PCall Try.prog 18 [(trT tc ta tb to ts te td tf tr tl tg tx)] [.bool true], GCall Try.prog 146 (qD11 tc ta tb to ts te td tf tr tl tg tx ua) [.p (.lst xb 137 lb)] (qD10 tc ta tb to ts te td tf tr tl tg tx ua) [.agg [.row 13 0 (.lst false 137 ub), .map 10], .rb true], GCall Try.prog 146 (qD15 tc ta tb to ts te td tf tr tl tg tx) [.p (.lst xa 137 la)] (qD14 tc ta tb to ts te td tf tr tl tg tx) [.agg [.row 7 0 (.lst false 137 ua), .map 4], .rb true]]) := by kernel_rfl
theorem look22ss22 (tc ta tb to ts te td tf tr tl tg pda ala pdb alb : Int) (tx : List Int) (la lb ua ub ha hb : List T) (mx mp my mq : List (T × T)) (g2 g3 g4 g5 : T) (xa xb : Bool): topK (Cd [] [146, 18, 147, 148]) 30 104 [] [.p ((trT tc ta tb to ts te td tf tr tl tg tx)), .p (.lst xa 137 la), .p (.lst xb 137 lb)] [] [] [([.agg [.row 7 0 (.lst false 137 ua), .map 4], .rb true], (qD14 tc ta tb to ts te td tf tr tl tg tx)), ([.agg [.row 13 0 (.lst false 137 ub), .map 10], .rb true], (qD10 tc ta tb to ts te td tf tr tl tg tx ua)), ([.rb true], (qD7 tc ta tb to ts te td tf tr tl tg tx mp ua ub)), ([.rb true], (qD9 tc ta tb to ts te td tf tr tl tg tx mp ua mq ub)), ([.agg [.row 20 0 (.lst false 36 ha), .p (.int .i64 pda), .p (.int .i64 ala)], .p (.int .i64 0)], (qD3 tc ta tb to ts te td tf tr tl tg tx mp ua mq ub)), ([.agg [.row 26 0 (.lst false 36 hb), .p (.int .i64 pdb), .p (.int .i64 alb)], .p (.int .i64 0)], (qD0 tc ta tb to ts te td tf tr tl tg tx ha pda ala mp ua mq ub))] [[.bool true]] [] = some ([.agg [.row 20 0 (.lst false 36 ha), .p (.int .i64 pda), .p (.int .i64 ala)], .agg [.row 26 0 (.lst false 36 hb), .p (.int .i64 pdb), .p (.int .i64 alb)], .p (.int .i64 0)], [.box (.p ((trT tc ta tb to ts te td tf tr tl tg tx))), .box (.agg [.row 20 0 (.lst false 36 ha), .p (.int .i64 pda), .p (.int .i64 ala)]), .box (.agg [.row 26 0 (.lst false 36 hb), .p (.int .i64 pdb), .p (.int .i64 alb)]), .dead, .map mp, .dead, .dead, .row 0 137, .box (.agg [.row 7 0 (.lst false 137 ua), .map 4]), .dead, .map mq, .dead, .dead, .row 0 137, .box (.agg [.row 13 0 (.lst false 137 ub), .map 10]), .dead, .dead, .dead, .dead, .dead, .row 0 36, .dead, .dead, .dead, .dead, .dead, .row 0 36], [GCall Try.prog 148 (qD1 tc ta tb to ts te td tf tr tl tg tx ha pda ala mp ua mq ub) [.agg [.row 13 0 (.lst false 137 ub), .map 10], .agg [.row 7 0 (.lst false 137 ua), .map 4], .p (.int .i64 tb)] (qD0 tc ta tb to ts te td tf tr tl tg tx ha pda ala mp ua mq ub) [.agg [.row 26 0 (.lst false 36 hb), .p (.int .i64 pdb), .p (.int .i64 alb)], .p (.int .i64 0)], GCall Try.prog 148 (qD9 tc ta tb to ts te td tf tr tl tg tx mp ua mq ub) [.agg [.row 7 0 (.lst false 137 ua), .map 4], .agg [.row 13 0 (.lst false 137 ub), .map 10], .p (.int .i64 ta)] (qD3 tc ta tb to ts te td tf tr tl tg tx mp ua mq ub) [.agg [.row 20 0 (.lst false 36 ha), .p (.int .i64 pda), .p (.int .i64 ala)], .p (.int .i64 0)], GCall Try.prog 147 (qD7 tc ta tb to ts te td tf tr tl tg tx mp ua ub) [.ptr 14 0, .p (.lst xb 137 lb), .agg [.row 7 0 (.lst false 137 ua), .map 4]] (qD9 tc ta tb to ts te td tf tr tl tg tx mp ua mq ub) [.rb true], GCall Try.prog 147 (qD6 tc ta tb to ts te td tf tr tl tg tx ua ub) [.ptr 8 0, .p (.lst xa 137 la), .agg [.row 13 0 (.lst false 137 ub), .map 10]] (qD7 tc ta tb to ts te td tf tr tl tg tx mp ua ub) [.rb true], PCall Try.prog 18 [(trT tc ta tb to ts te td tf tr tl tg tx)] [.bool true], GCall Try.prog 146 (qD11 tc ta tb to ts te td tf tr tl tg tx ua) [.p (.lst xb 137 lb)] (qD10 tc ta tb to ts te td tf tr tl tg tx ua) [.agg [.row 13 0 (.lst false 137 ub), .map 10], .rb true], GCall Try.prog 146 (qD15 tc ta tb to ts te td tf tr tl tg tx) [.p (.lst xa 137 la)] (qD14 tc ta tb to ts te td tf tr tl tg tx) [.agg [.row 7 0 (.lst false 137 ua), .map 4], .rb true]]) := by kernel_rfl
end Go.HM.Up
set_option maxRecDepth 100000
namespace Go.HM.Up
open Go.Proofs
def zS : T := .agg [.lst true 36 [], .int .i64 0, .int .i64 0]
def sdT (wh : Int) (hs : List Msg) (pd al : Int) : T := match hs with
 | [] => .agg [.lst true 36 [], .int .i64 pd, .int .i64 al]
 | g :: r => .agg [.lst false 36 ((g :: r).map (hT wh)), .int .i64 pd, .int .i64 al]
def errT (e : Int) : List T := [zS, zS, .int .i64 e]
def lookR (m : Bool) (ta tb : Int) (a b : List Msg) : List T := match m, rd a [], rd b [] with
 | true, some p, some q => match stl ((q.map Msg.t).length : Int) a [] with
  | none => errT 4
  | some mp => match stl ((p.map Msg.t).length : Int) b [] with
   | none => errT 4
   | some mq => match ofG mq ta p [] 0 0 with
    | none => errT 20
    | some (hs, pd, al) => match ofG mp tb q [] 0 0 with
     | none => [sdT ta hs pd al, zS, .int .i64 20]
     | some (h2, pd2, al2) => [sdT ta hs pd al, sdT tb h2 pd2 al2, .int .i64 0]
 | _, _, _ => errT 1
theorem rd_le : ∀ (r acc : List Msg), ∀ vs, rd r acc = some vs → vs.length ≤ acc.length + r.length
 | [], acc, vs, h => by simp only [rd, Option.some.injEq] at h; rw [← h]; simp
 | m :: r, acc, vs, h => by
  simp only [rd] at h
  cases h1 : m.kd == 1 with
  | true =>
   rw [h1] at h
   cases hb : badM m acc.length with
   | true => simp only [hb, cond_true] at h; cases h
   | false =>
    simp only [hb, cond_true, cond_false] at h
    have := rd_le r _ vs h
    simp at this ⊢
    omega
  | false =>
   rw [h1] at h
   cases hk : (m.kd == 2 || m.kd == 3) with
   | true => simp only [hk, cond_true, cond_false] at h; have := rd_le r acc vs h; simp; omega
   | false => simp only [hk, cond_false] at h; cases h
theorem rd_len (l : List Msg) (hl : l.length * 232 ≤ 140737488355328) {vs : List Msg} (h : rd l [] = some vs) : vs.length * 232 ≤ 140737488355328 := by
 have := rd_le l [] vs h
 simp at this
 omega
theorem look_ok (tc ta tb to ts te td tf tr tl tg : Int) (tx : List Int) (a b : List Msg) (xa xb m : Bool) (ha : a.length * 232 ≤ 140737488355328) (hb : b.length * 232 ≤ 140737488355328)
  (hm : PCall Try.prog 18 [trT tc ta tb to ts te td tf tr tl tg tx] [.bool m]) :
  PCall Try.prog 104 [trT tc ta tb to ts te td tf tr tl tg tx, .lst xa 137 (a.map Msg.t), .lst xb 137 (b.map Msg.t)] (lookR m ta tb a b) := by
 have r1 := read_row a xa ha
 have r2 := read_row b xb hb
 unfold lookR
 cases ea : rd a [] with
 | none =>
  rw [ea] at r1
  cases eb : rd b [] with
  | none =>
   rw [eb] at r2
   cases m with
   | false =>
    exact (topK_sound (Cd_ok _ _) (look00F tc ta tb to ts te td tf tr tl tg 0 0 0 0 tx (a.map Msg.t) (b.map Msg.t) [] [] [] [] [] [] [] [] .nilP .nilP .nilP .nilP xa xb) ⟨hm, GCall.at r2 [] (by kernel_rfl) (by kernel_rfl) (by kernel_rfl) (by kernel_rfl) (by kernel_rfl), GCall.at r1 [] (by kernel_rfl) (by kernel_rfl) (by kernel_rfl) (by kernel_rfl) (by kernel_rfl), trivial⟩).pure (k := 64) rfl
   | true =>
    exact (topK_sound (Cd_ok _ _) (look00T tc ta tb to ts te td tf tr tl tg 0 0 0 0 tx (a.map Msg.t) (b.map Msg.t) [] [] [] [] [] [] [] [] .nilP .nilP .nilP .nilP xa xb) ⟨hm, GCall.at r2 [] (by kernel_rfl) (by kernel_rfl) (by kernel_rfl) (by kernel_rfl) (by kernel_rfl), GCall.at r1 [] (by kernel_rfl) (by kernel_rfl) (by kernel_rfl) (by kernel_rfl) (by kernel_rfl), trivial⟩).pure (k := 64) rfl
  | some q =>
   rw [eb] at r2
   cases m with
   | false =>
    exact (topK_sound (Cd_ok _ _) (look02F tc ta tb to ts te td tf tr tl tg 0 0 0 0 tx (a.map Msg.t) (b.map Msg.t) [] (q.map Msg.t) [] [] [] [] [] [] .nilP .nilP .nilP .nilP xa xb) ⟨hm, GCall.at r2 [] (by kernel_rfl) (by kernel_rfl) (by kernel_rfl) (by kernel_rfl) (by kernel_rfl), GCall.at r1 [] (by kernel_rfl) (by kernel_rfl) (by kernel_rfl) (by kernel_rfl) (by kernel_rfl), trivial⟩).pure (k := 64) rfl
   | true =>
    exact (topK_sound (Cd_ok _ _) (look02T tc ta tb to ts te td tf tr tl tg 0 0 0 0 tx (a.map Msg.t) (b.map Msg.t) [] (q.map Msg.t) [] [] [] [] [] [] .nilP .nilP .nilP .nilP xa xb) ⟨hm, GCall.at r2 [] (by kernel_rfl) (by kernel_rfl) (by kernel_rfl) (by kernel_rfl) (by kernel_rfl), GCall.at r1 [] (by kernel_rfl) (by kernel_rfl) (by kernel_rfl) (by kernel_rfl) (by kernel_rfl), trivial⟩).pure (k := 64) rfl
 | some p =>
  rw [ea] at r1
  cases eb : rd b [] with
  | none =>
   rw [eb] at r2
   cases m with
   | false =>
    exact (topK_sound (Cd_ok _ _) (look20F tc ta tb to ts te td tf tr tl tg 0 0 0 0 tx (a.map Msg.t) (b.map Msg.t) (p.map Msg.t) [] [] [] [] [] [] [] .nilP .nilP .nilP .nilP xa xb) ⟨hm, GCall.at r2 [] (by kernel_rfl) (by kernel_rfl) (by kernel_rfl) (by kernel_rfl) (by kernel_rfl), GCall.at r1 [] (by kernel_rfl) (by kernel_rfl) (by kernel_rfl) (by kernel_rfl) (by kernel_rfl), trivial⟩).pure (k := 64) rfl
   | true =>
    exact (topK_sound (Cd_ok _ _) (look20T tc ta tb to ts te td tf tr tl tg 0 0 0 0 tx (a.map Msg.t) (b.map Msg.t) (p.map Msg.t) [] [] [] [] [] [] [] .nilP .nilP .nilP .nilP xa xb) ⟨hm, GCall.at r2 [] (by kernel_rfl) (by kernel_rfl) (by kernel_rfl) (by kernel_rfl) (by kernel_rfl), GCall.at r1 [] (by kernel_rfl) (by kernel_rfl) (by kernel_rfl) (by kernel_rfl) (by kernel_rfl), trivial⟩).pure (k := 64) rfl
  | some q =>
   rw [eb] at r2
   cases m with
   | false =>
    exact (topK_sound (Cd_ok _ _) (look22F tc ta tb to ts te td tf tr tl tg 0 0 0 0 tx (a.map Msg.t) (b.map Msg.t) (p.map Msg.t) (q.map Msg.t) [] [] [] [] [] [] .nilP .nilP .nilP .nilP xa xb) ⟨hm, GCall.at r2 [] (by kernel_rfl) (by kernel_rfl) (by kernel_rfl) (by kernel_rfl) (by kernel_rfl), GCall.at r1 [] (by kernel_rfl) (by kernel_rfl) (by kernel_rfl) (by kernel_rfl) (by kernel_rfl), trivial⟩).pure (k := 64) rfl
   | true =>
    have s1 := settleRR a (p.map Msg.t) (q.map Msg.t) [] [] xa ha
    simp only
    cases e1 : stl (((q.map Msg.t).length : Nat) : Int) a [] with
    | none =>
     rw [e1] at s1
     obtain ⟨mt, s1⟩ := s1
     exact (topK_sound (Cd_ok _ _) (look22n tc ta tb to ts te td tf tr tl tg 0 0 0 0 tx (a.map Msg.t) (b.map Msg.t) (p.map Msg.t) (q.map Msg.t) [] [] (mt.map eP) [] [] [] .nilP .nilP .nilP .nilP xa xb) ⟨GCall.at s1 [8, 4, 10, 7, 13] (by kernel_rfl) (by kernel_rfl) (by kernel_rfl) (by kernel_rfl) (by kernel_rfl), hm, GCall.at r2 [] (by kernel_rfl) (by kernel_rfl) (by kernel_rfl) (by kernel_rfl) (by kernel_rfl), GCall.at r1 [] (by kernel_rfl) (by kernel_rfl) (by kernel_rfl) (by kernel_rfl) (by kernel_rfl), trivial⟩).pure (k := 64) rfl
    | some mp =>
     rw [e1] at s1
     have s2 := settleRR b (q.map Msg.t) (p.map Msg.t) [] (mp.map eP) xb hb
     simp only
     cases e2 : stl (((p.map Msg.t).length : Nat) : Int) b [] with
     | none =>
      rw [e2] at s2
      obtain ⟨mt, s2⟩ := s2
      exact (topK_sound (Cd_ok _ _) (look22sn tc ta tb to ts te td tf tr tl tg 0 0 0 0 tx (a.map Msg.t) (b.map Msg.t) (p.map Msg.t) (q.map Msg.t) [] [] [] (mp.map eP) (mt.map eP) [] .nilP .nilP .nilP .nilP xa xb) ⟨GCall.at s2 [14, 10, 4, 13, 7] (by kernel_rfl) (by kernel_rfl) (by kernel_rfl) (by kernel_rfl) (by kernel_rfl), GCall.at s1 [8, 4, 10, 7, 13] (by kernel_rfl) (by kernel_rfl) (by kernel_rfl) (by kernel_rfl) (by kernel_rfl), hm, GCall.at r2 [] (by kernel_rfl) (by kernel_rfl) (by kernel_rfl) (by kernel_rfl) (by kernel_rfl), GCall.at r1 [] (by kernel_rfl) (by kernel_rfl) (by kernel_rfl) (by kernel_rfl) (by kernel_rfl), trivial⟩).pure (k := 64) rfl
     | some mq =>
      rw [e2] at s2
      have o1 := of_row p (q.map Msg.t) (mp.map eP) mq ta (rd_len a ha ea)
      simp only
      cases e3 : ofG mq ta p [] 0 0 with
      | none =>
       rw [e3] at o1
       exact (topK_sound (Cd_ok _ _) (look22ss0 tc ta tb to ts te td tf tr tl tg 0 0 0 0 tx (a.map Msg.t) (b.map Msg.t) (p.map Msg.t) (q.map Msg.t) [] [] [] (mp.map eP) [] (mq.map eP) .nilP .nilP .nilP .nilP xa xb) ⟨GCall.at o1 [4, 10, 7, 13] (by kernel_rfl) (by kernel_rfl) (by kernel_rfl) (by kernel_rfl) (by kernel_rfl), GCall.at s2 [14, 10, 4, 13, 7] (by kernel_rfl) (by kernel_rfl) (by kernel_rfl) (by kernel_rfl) (by kernel_rfl), GCall.at s1 [8, 4, 10, 7, 13] (by kernel_rfl) (by kernel_rfl) (by kernel_rfl) (by kernel_rfl) (by kernel_rfl), hm, GCall.at r2 [] (by kernel_rfl) (by kernel_rfl) (by kernel_rfl) (by kernel_rfl) (by kernel_rfl), GCall.at r1 [] (by kernel_rfl) (by kernel_rfl) (by kernel_rfl) (by kernel_rfl) (by kernel_rfl), trivial⟩).pure (k := 64) rfl
      | some w =>
       obtain ⟨h1, pd, al⟩ := w
       rw [e3] at o1
       cases h1 with
       | nil =>
        have o2 := of_row q (p.map Msg.t) (mq.map eP) mp tb (rd_len b hb eb)
        simp only
        cases e4 : ofG mp tb q [] 0 0 with
        | none =>
         rw [e4] at o2
         exact (topK_sound (Cd_ok _ _) (look22ss10 tc ta tb to ts te td tf tr tl tg pd al 0 0 tx (a.map Msg.t) (b.map Msg.t) (p.map Msg.t) (q.map Msg.t) [] [] [] (mp.map eP) [] (mq.map eP) .nilP .nilP .nilP .nilP xa xb) ⟨GCall.at o2 [10, 4, 13, 7] (by kernel_rfl) (by kernel_rfl) (by kernel_rfl) (by kernel_rfl) (by kernel_rfl), GCall.at o1 [4, 10, 7, 13] (by kernel_rfl) (by kernel_rfl) (by kernel_rfl) (by kernel_rfl) (by kernel_rfl), GCall.at s2 [14, 10, 4, 13, 7] (by kernel_rfl) (by kernel_rfl) (by kernel_rfl) (by kernel_rfl) (by kernel_rfl), GCall.at s1 [8, 4, 10, 7, 13] (by kernel_rfl) (by kernel_rfl) (by kernel_rfl) (by kernel_rfl) (by kernel_rfl), hm, GCall.at r2 [] (by kernel_rfl) (by kernel_rfl) (by kernel_rfl) (by kernel_rfl) (by kernel_rfl), GCall.at r1 [] (by kernel_rfl) (by kernel_rfl) (by kernel_rfl) (by kernel_rfl) (by kernel_rfl), trivial⟩).pure (k := 64) rfl
        | some w =>
         obtain ⟨h2, pd2, al2⟩ := w
         rw [e4] at o2
         cases h2 with
         | nil =>
          exact (topK_sound (Cd_ok _ _) (look22ss11 tc ta tb to ts te td tf tr tl tg pd al pd2 al2 tx (a.map Msg.t) (b.map Msg.t) (p.map Msg.t) (q.map Msg.t) [] [] [] (mp.map eP) [] (mq.map eP) .nilP .nilP .nilP .nilP xa xb) ⟨GCall.at o2 [10, 4, 13, 7] (by kernel_rfl) (by kernel_rfl) (by kernel_rfl) (by kernel_rfl) (by kernel_rfl), GCall.at o1 [4, 10, 7, 13] (by kernel_rfl) (by kernel_rfl) (by kernel_rfl) (by kernel_rfl) (by kernel_rfl), GCall.at s2 [14, 10, 4, 13, 7] (by kernel_rfl) (by kernel_rfl) (by kernel_rfl) (by kernel_rfl) (by kernel_rfl), GCall.at s1 [8, 4, 10, 7, 13] (by kernel_rfl) (by kernel_rfl) (by kernel_rfl) (by kernel_rfl) (by kernel_rfl), hm, GCall.at r2 [] (by kernel_rfl) (by kernel_rfl) (by kernel_rfl) (by kernel_rfl) (by kernel_rfl), GCall.at r1 [] (by kernel_rfl) (by kernel_rfl) (by kernel_rfl) (by kernel_rfl) (by kernel_rfl), trivial⟩).pure (k := 64) rfl
         | cons g5 hb =>
          exact (topK_sound (Cd_ok _ _) (look22ss12 tc ta tb to ts te td tf tr tl tg pd al pd2 al2 tx (a.map Msg.t) (b.map Msg.t) (p.map Msg.t) (q.map Msg.t) [] ((g5 :: hb).map (hT tb)) [] (mp.map eP) [] (mq.map eP) .nilP .nilP .nilP .nilP xa xb) ⟨GCall.at o2 [10, 4, 13, 7] (by kernel_rfl) (by kernel_rfl) (by kernel_rfl) (by kernel_rfl) (by kernel_rfl), GCall.at o1 [4, 10, 7, 13] (by kernel_rfl) (by kernel_rfl) (by kernel_rfl) (by kernel_rfl) (by kernel_rfl), GCall.at s2 [14, 10, 4, 13, 7] (by kernel_rfl) (by kernel_rfl) (by kernel_rfl) (by kernel_rfl) (by kernel_rfl), GCall.at s1 [8, 4, 10, 7, 13] (by kernel_rfl) (by kernel_rfl) (by kernel_rfl) (by kernel_rfl) (by kernel_rfl), hm, GCall.at r2 [] (by kernel_rfl) (by kernel_rfl) (by kernel_rfl) (by kernel_rfl) (by kernel_rfl), GCall.at r1 [] (by kernel_rfl) (by kernel_rfl) (by kernel_rfl) (by kernel_rfl) (by kernel_rfl), trivial⟩).pure (k := 64) rfl
       | cons g4 ha =>
        have o2 := of_row q (p.map Msg.t) (mq.map eP) mp tb (rd_len b hb eb)
        simp only
        cases e4 : ofG mp tb q [] 0 0 with
        | none =>
         rw [e4] at o2
         exact (topK_sound (Cd_ok _ _) (look22ss20 tc ta tb to ts te td tf tr tl tg pd al 0 0 tx (a.map Msg.t) (b.map Msg.t) (p.map Msg.t) (q.map Msg.t) ((g4 :: ha).map (hT ta)) [] [] (mp.map eP) [] (mq.map eP) .nilP .nilP .nilP .nilP xa xb) ⟨GCall.at o2 [10, 4, 13, 7] (by kernel_rfl) (by kernel_rfl) (by kernel_rfl) (by kernel_rfl) (by kernel_rfl), GCall.at o1 [4, 10, 7, 13] (by kernel_rfl) (by kernel_rfl) (by kernel_rfl) (by kernel_rfl) (by kernel_rfl), GCall.at s2 [14, 10, 4, 13, 7] (by kernel_rfl) (by kernel_rfl) (by kernel_rfl) (by kernel_rfl) (by kernel_rfl), GCall.at s1 [8, 4, 10, 7, 13] (by kernel_rfl) (by kernel_rfl) (by kernel_rfl) (by kernel_rfl) (by kernel_rfl), hm, GCall.at r2 [] (by kernel_rfl) (by kernel_rfl) (by kernel_rfl) (by kernel_rfl) (by kernel_rfl), GCall.at r1 [] (by kernel_rfl) (by kernel_rfl) (by kernel_rfl) (by kernel_rfl) (by kernel_rfl), trivial⟩).pure (k := 64) rfl
        | some w =>
         obtain ⟨h2, pd2, al2⟩ := w
         rw [e4] at o2
         cases h2 with
         | nil =>
          exact (topK_sound (Cd_ok _ _) (look22ss21 tc ta tb to ts te td tf tr tl tg pd al pd2 al2 tx (a.map Msg.t) (b.map Msg.t) (p.map Msg.t) (q.map Msg.t) ((g4 :: ha).map (hT ta)) [] [] (mp.map eP) [] (mq.map eP) .nilP .nilP .nilP .nilP xa xb) ⟨GCall.at o2 [10, 4, 13, 7] (by kernel_rfl) (by kernel_rfl) (by kernel_rfl) (by kernel_rfl) (by kernel_rfl), GCall.at o1 [4, 10, 7, 13] (by kernel_rfl) (by kernel_rfl) (by kernel_rfl) (by kernel_rfl) (by kernel_rfl), GCall.at s2 [14, 10, 4, 13, 7] (by kernel_rfl) (by kernel_rfl) (by kernel_rfl) (by kernel_rfl) (by kernel_rfl), GCall.at s1 [8, 4, 10, 7, 13] (by kernel_rfl) (by kernel_rfl) (by kernel_rfl) (by kernel_rfl) (by kernel_rfl), hm, GCall.at r2 [] (by kernel_rfl) (by kernel_rfl) (by kernel_rfl) (by kernel_rfl) (by kernel_rfl), GCall.at r1 [] (by kernel_rfl) (by kernel_rfl) (by kernel_rfl) (by kernel_rfl) (by kernel_rfl), trivial⟩).pure (k := 64) rfl
         | cons g5 hb =>
          exact (topK_sound (Cd_ok _ _) (look22ss22 tc ta tb to ts te td tf tr tl tg pd al pd2 al2 tx (a.map Msg.t) (b.map Msg.t) (p.map Msg.t) (q.map Msg.t) ((g4 :: ha).map (hT ta)) ((g5 :: hb).map (hT tb)) [] (mp.map eP) [] (mq.map eP) .nilP .nilP .nilP .nilP xa xb) ⟨GCall.at o2 [10, 4, 13, 7] (by kernel_rfl) (by kernel_rfl) (by kernel_rfl) (by kernel_rfl) (by kernel_rfl), GCall.at o1 [4, 10, 7, 13] (by kernel_rfl) (by kernel_rfl) (by kernel_rfl) (by kernel_rfl) (by kernel_rfl), GCall.at s2 [14, 10, 4, 13, 7] (by kernel_rfl) (by kernel_rfl) (by kernel_rfl) (by kernel_rfl) (by kernel_rfl), GCall.at s1 [8, 4, 10, 7, 13] (by kernel_rfl) (by kernel_rfl) (by kernel_rfl) (by kernel_rfl) (by kernel_rfl), hm, GCall.at r2 [] (by kernel_rfl) (by kernel_rfl) (by kernel_rfl) (by kernel_rfl) (by kernel_rfl), GCall.at r1 [] (by kernel_rfl) (by kernel_rfl) (by kernel_rfl) (by kernel_rfl) (by kernel_rfl), trivial⟩).pure (k := 64) rfl
end Go.HM.Up
set_option maxRecDepth 100000
namespace Go.HM.Up
open Go.Proofs
structure H where
 hb : Int
 hi : Int
 hm : Int
 hh : List Int
 he : Int
def H.t (h : H) : T := .agg [.int .i64 h.hb, .int .i64 h.hi, .int .i64 h.hm, .ba 32 h.hh, .int .i64 h.he]
def SF (va vb wh id : Int) (ls : List T) (f : Bool) : List SObj := [.box (.p (.agg [.int .i64 va, .int .i64 vb, .lst f 36 ls])), .box (.p (.int .i64 wh)), .box (.p (.int .i64 id)), .box (.p (.agg [.int .i64 0, .int .i64 0, .int .i64 0, .ba 32 zeros, .int .i64 0]))]
end Go.HM.Up
namespace Go.HM.Up
open Go.Proofs
def growRen : Go.Shelf.Ren := ⟨fun | 4 => 167 | n => n, fun | 22 => 27 | 25 => 49 | n => n, fun n => n⟩
theorem growLay : Lays8.n4 Try.prog growRen :=
  { mixed := by kernel_rfl, f4 := ⟨Try.f167.name, by decide, Try.func167.trans (congrArg some (by kernel_rfl))⟩,
    t0 := Try.underlying0, a0 := Try.isAgg0, z0 := Try.sizeOf0, v0 := Try.zeroValue0, t3 := Try.underlying3, a3 := Try.isAgg3, z3 := Try.sizeOf3, v3 := Try.zeroValue3, t4 := Try.underlying4, a4 := Try.isAgg4, z4 := Try.sizeOf4, v4 := Try.zeroValue4, t9 := Try.underlying9, a9 := Try.isAgg9, z9 := Try.sizeOf9, v9 := Try.zeroValue9, t20 := Try.underlying20, a20 := Try.isAgg20, z20 := Try.sizeOf20, v20 := Try.zeroValue20,
    t22 := Try.underlying27, a22 := Try.isAgg27, z22 := Try.sizeOf27, v22 := Try.zeroValue27 }
theorem grow_callable : Callable Try.prog 167 := ⟨Try.f167, Try.func167, by decide, by kernel_rfl⟩
theorem grow_args {U : Nat → Nat → Prop} {κ : List Place} {s : List SObj} {w : World} {n : Int} {vals : List Value} (h : F2 (VV1 U κ s w) [.p (.lst true 36 []), .p (.int .i64 n)] vals) : ∃ base, vals = [.slice base 0 0, .int .i64 n] := by
 cases h with | cons hx h => cases h with | cons hy h => cases h with | nil =>
  obtain ⟨base, cap, cs, rfl, _, _, _, hc⟩ := slice_parts (e := 36) (n := 0) (VV_p (VV_of1 hx)) rfl rfl
  obtain rfl := TV_int (VV_p (VV_of1 hy))
  obtain rfl := hc rfl
  exact ⟨base, rfl⟩
theorem grow_none (s : List SObj) : GCall Try.prog 167 s [.p (.lst true 36 []), .p (.int .i64 0)] s [.p (.lst true 36 [])] := by
 refine ⟨grow_callable, fun U κ w vals hS hA => ?_⟩
 obtain ⟨base, hv⟩ := grow_args hA
 subst hv
 have hx : VV1 U κ s w (.p (.lst true 36 [])) (.slice base 0 0) := by cases hA with | cons hx _ => exact hx
 refine (Any8.slices_Grow_room growLay base 0 0 0 w (Nat.le_refl _) (by omega) (by omega) (by omega)).mono ?_
 rintro e w' ⟨rfl, rfl⟩
 exact ⟨_, κ, rfl, hS, hx, Step.refl U κ w', Ext.refl κ s⟩
theorem grow_some (s : List SObj) (n : Nat) (h0 : 0 < n) (hb : n * 64 ≤ 140737488355328) :
  GCall Try.prog 167 s [.p (.lst true 36 []), .p (.int .i64 (n : Int))] (s ++ [.row 0 36]) [.row s.length 0 (.lst false 36 [])] := by
 refine ⟨grow_callable, fun U κ w vals hS hA => ?_⟩
 obtain ⟨base, rfl⟩ := grow_args hA
 obtain ⟨z, hz⟩ := Option.isSome_iff_exists.1 (show (zeroOf Try.prog 49).isSome = true by kernel_rfl)
 obtain ⟨i0, zv, z1, z2, z3, z4⟩ := zeroOf_spec (w := w) (ok := okOf U κ) hz
 have hsz : i0.size = 36 := by
  have h : (Try.prog.info? 49).map (·.size) = some 36 := by kernel_rfl
  rw [z1] at h; simpa using h
 have hby : i0.bytes = 64 := by
  have h : (Try.prog.info? 49).map (·.bytes) = some 64 := by kernel_rfl
  rw [z1] at h; simpa using h
 have hzl : zv.cells.size = 36 := by have := z3.1.len; rw [z4, hsz] at this; simpa using this
 refine (Any8.slices_Grow_grow growLay i0 zv z1 z2 (by rw [hsz]; omega) base 0 0 n [] w (Nat.le_refl _) (by omega) (by rw [hby]; simpa using hb) (by omega) (by simp) (fun _ => rfl) (by simp)).mono ?_
 rintro e w' ⟨rfl, rfl⟩
 generalize hc : (([] : List Value).toArray ++ Builtin.zeroCells zv.cells (0 + n - 0) ++ Builtin.zeroCells zv.cells (grownCap w (0 + n) 0 (growRen.t 25) - (0 + n))) = cs
 have hcs : cs.size = grownCap w (0 + n) 0 (growRen.t 25) * 36 := by
  have hg : 0 + n ≤ grownCap w (0 + n) 0 (growRen.t 25) := grownCap_ge w _ _ _
  rw [← hc]
  simp only [Array.size_append, List.size_toArray, List.length_nil, size_zeroCells, hzl]
  generalize grownCap w (0 + n) 0 (growRen.t 25) = G at hg ⊢
  omega
 obtain ⟨g1, g2, g3⟩ := hS.rowNew cs (growRen.t 25) 0 36
 refine ⟨_, _, rfl, g1, ?_, g2, Ext.append hS.len _ _⟩
 refine VV1_of_cell (.row (cur := 0) (e := 36) ?_ (by simp) (Nat.le_refl _) (fun _ => .inr ⟨⟨w.heap.size, 0, cs.size, true⟩, 0, ?_, rfl, rfl, by simp, by simp [hcs]⟩)) rfl
 ·exact .lst0 (fun h => by cases h)
 ·rw [← hS.len]; simp
end Go.HM.Up
set_option maxRecDepth 100000
namespace Go.HM.Up
open Go.Proofs
def twS (o : Oper) : Bool := match o.op with
 | .slice ty _ _ _ _ => Nat.beq ty 89
 | _ => false
noncomputable def Ch (els : List ((Nat × Nat) × T)) (tl : List Nat) : GCtx := { P := Try.prog, pr := pureCall Try.prog [167] [] [], K := fun _ _ => none, keep := fun _ _ => false, frz := fun _ _ => [], item := elD els, glob := globOf globT, KG := fun _ _ _ => none, fuel := 1000, vec := appAt [], tw := twS, told := fun f => memN f tl, owe := oweAt [("updates.go:135", [(0, 14), (0, 15)])] }
theorem Ch_ok (els : List ((Nat × Nat) × T)) (tl : List Nat) : KOk (Ch els tl) := ⟨names_ok, fun _ _ _ h => (by cases h), fun _ _ _ _ _ h => (by cases h)⟩
theorem conS (hx hy : List T) (fx fy : Bool): topK (Ch [] [167]) 30 150 [] [.p (.lst true 1 [.lst fx 36 hx, .lst fy 36 hy])] [(1, false), (1, false)] [] [([.row 0 0 (.lst false 36 [])], [.row 0 36])] [] [] = some ([.row 0 2 (.lst false 36 (hx ++ hy))], [.row 2 36], [((hx).length + (hy).length ≤ 4294967296 ∨ ((hx).length + (hy).length ≤ 9223372036854775807 ∧ ((hx).length + (hy).length) * 64 ≤ 140737488355328)), (0 + (hx).length ≤ 4294967296 ∨ (0 + (hx).length ≤ 9223372036854775807 ∧ (0 + (hx).length) * 64 ≤ 140737488355328)), GCall Try.prog 167 [] [.p (.lst true 36 []), .p (.int .i64 (IntKind.i64.wrap ((IntKind.i64.wrap (0 + ((hx).length : Int))) + ((hy).length : Int))))] [.row 0 36] [.row 0 0 (.lst false 36 [])], decide ((IntKind.i64.wrap ((IntKind.i64.wrap (0 + ((hx).length : Int))) + ((hy).length : Int))) < 0) = false, decide ((IntKind.i64.wrap (0 + ((hx).length : Int))) < 0) = false]) := by kernel_rfl
theorem conN (fx fy : Bool): topK (Ch [] [167]) 30 150 [] [.p (.lst true 1 [.lst fx 36 [], .lst fy 36 []])] [] [] [([.p (.lst true 36 [])], [])] [] [] = some ([.row 0 1 (.lst false 36 [])], [.row 1 36], [(0 + 0 ≤ 4294967296 ∨ (0 + 0 ≤ 9223372036854775807 ∧ (0 + 0) * 64 ≤ 140737488355328)), (0 + 0 ≤ 4294967296 ∨ (0 + 0 ≤ 9223372036854775807 ∧ (0 + 0) * 64 ≤ 140737488355328)), GCall Try.prog 167 [] [.p (.lst true 36 []), .p (.int .i64 0)] [] [.p (.lst true 36 [])]]) := by kernel_rfl
theorem view_0 (tc ta tb to ts te td tf tr tl tg pda ala pdb alb : Int) (tx : List Int) (la lb hz : List T) (fx fy : Bool): topK (Ch [] [150]) 30 105 [] [.p (trT tc ta tb to ts te td tf tr tl tg tx), .p (.agg [.lst fx 36 la, .int .i64 pda, .int .i64 ala]), .p (.agg [.lst fy 36 lb, .int .i64 pdb, .int .i64 alb])] [(0, true), (0, true), (0, false), (0, false), (0, false), (0, false)] [] [] [[.lst false 36 hz]] [] = some ([.p (.agg [.int .i64 (IntKind.i64.wrap ((IntKind.i64.wrap (ts - ala)) + pdb)), .int .i64 (IntKind.i64.wrap ((IntKind.i64.wrap (te - alb)) + pda)), .lst false 36 hz]), .p (.int .i64 0)], [], [decide (((lb).length : Int) > 16) = false, decide (((la).length : Int) > 16) = false, decide ((IntKind.i64.wrap ((IntKind.i64.wrap (te - alb)) + pda)) < 0) = false, decide ((IntKind.i64.wrap ((IntKind.i64.wrap (ts - ala)) + pdb)) < 0) = false, PCall Try.prog 150 [.lst true 1 [.lst fx 36 la, .lst fy 36 lb]] [.lst false 36 hz], decide ((IntKind.i64.wrap (te - alb)) > 0) = true, decide ((IntKind.i64.wrap (ts - ala)) > 0) = true]) := by kernel_rfl
theorem view_1 (tc ta tb to ts te td tf tr tl tg pda ala pdb alb : Int) (tx : List Int) (la lb hz : List T) (fx fy : Bool): topK (Ch [] [150]) 30 105 [] [.p (trT tc ta tb to ts te td tf tr tl tg tx), .p (.agg [.lst fx 36 la, .int .i64 pda, .int .i64 ala]), .p (.agg [.lst fy 36 lb, .int .i64 pdb, .int .i64 alb])] [(0, false), (0, true), (0, false), (0, false), (0, false), (0, false)] [] [] [[.lst false 36 hz]] [] = some ([.p (.agg [.int .i64 (IntKind.i64.wrap (pdb + (IntKind.i64.wrap (ts - ala)))), .int .i64 (IntKind.i64.wrap ((IntKind.i64.wrap (te - alb)) + pda)), .lst false 36 hz]), .p (.int .i64 0)], [], [decide (((lb).length : Int) > 16) = false, decide (((la).length : Int) > 16) = false, decide ((IntKind.i64.wrap ((IntKind.i64.wrap (te - alb)) + pda)) < 0) = false, decide ((IntKind.i64.wrap (pdb + (IntKind.i64.wrap (ts - ala)))) < 0) = false, PCall Try.prog 150 [.lst true 1 [.lst fx 36 la, .lst fy 36 lb]] [.lst false 36 hz], decide ((IntKind.i64.wrap (te - alb)) > 0) = true, decide ((IntKind.i64.wrap (ts - ala)) > 0) = false]) := by kernel_rfl
theorem view_2 (tc ta tb to ts te td tf tr tl tg pda ala pdb alb : Int) (tx : List Int) (la lb hz : List T) (fx fy : Bool): topK (Ch [] [150]) 30 105 [] [.p (trT tc ta tb to ts te td tf tr tl tg tx), .p (.agg [.lst fx 36 la, .int .i64 pda, .int .i64 ala]), .p (.agg [.lst fy 36 lb, .int .i64 pdb, .int .i64 alb])] [(0, false), (0, false), (0, false), (0, false), (0, false), (0, false)] [] [] [[.lst false 36 hz]] [] = some ([.p (.agg [.int .i64 (IntKind.i64.wrap (pdb + (IntKind.i64.wrap (ts - ala)))), .int .i64 (IntKind.i64.wrap (pda + (IntKind.i64.wrap (te - alb)))), .lst false 36 hz]), .p (.int .i64 0)], [], [decide (((lb).length : Int) > 16) = false, decide (((la).length : Int) > 16) = false, decide ((IntKind.i64.wrap (pda + (IntKind.i64.wrap (te - alb)))) < 0) = false, decide ((IntKind.i64.wrap (pdb + (IntKind.i64.wrap (ts - ala)))) < 0) = false, PCall Try.prog 150 [.lst true 1 [.lst fx 36 la, .lst fy 36 lb]] [.lst false 36 hz], decide ((IntKind.i64.wrap (te - alb)) > 0) = false, decide ((IntKind.i64.wrap (ts - ala)) > 0) = false]) := by kernel_rfl
theorem view_3 (tc ta tb to ts te td tf tr tl tg pda ala pdb alb : Int) (tx : List Int) (la lb hz : List T) (fx fy : Bool): topK (Ch [] [150]) 30 105 [] [.p (trT tc ta tb to ts te td tf tr tl tg tx), .p (.agg [.lst fx 36 la, .int .i64 pda, .int .i64 ala]), .p (.agg [.lst fy 36 lb, .int .i64 pdb, .int .i64 alb])] [(0, false), (0, false), (0, true)] [] [] [[.lst false 36 hz]] [] = some ([.p (.agg [.int .i64 0, .int .i64 0, .lst true 36 []]), .p (.int .i64 152)], [], [decide ((IntKind.i64.wrap (pdb + (IntKind.i64.wrap (ts - ala)))) < 0) = true, PCall Try.prog 150 [.lst true 1 [.lst fx 36 la, .lst fy 36 lb]] [.lst false 36 hz], decide ((IntKind.i64.wrap (te - alb)) > 0) = false, decide ((IntKind.i64.wrap (ts - ala)) > 0) = false]) := by kernel_rfl
theorem view_4 (tc ta tb to ts te td tf tr tl tg pda ala pdb alb : Int) (tx : List Int) (la lb hz : List T) (fx fy : Bool): topK (Ch [] [150]) 30 105 [] [.p (trT tc ta tb to ts te td tf tr tl tg tx), .p (.agg [.lst fx 36 la, .int .i64 pda, .int .i64 ala]), .p (.agg [.lst fy 36 lb, .int .i64 pdb, .int .i64 alb])] [(0, false), (0, false), (0, false), (0, true)] [] [] [[.lst false 36 hz]] [] = some ([.p (.agg [.int .i64 0, .int .i64 0, .lst true 36 []]), .p (.int .i64 152)], [], [decide ((IntKind.i64.wrap (pda + (IntKind.i64.wrap (te - alb)))) < 0) = true, decide ((IntKind.i64.wrap (pdb + (IntKind.i64.wrap (ts - ala)))) < 0) = false, PCall Try.prog 150 [.lst true 1 [.lst fx 36 la, .lst fy 36 lb]] [.lst false 36 hz], decide ((IntKind.i64.wrap (te - alb)) > 0) = false, decide ((IntKind.i64.wrap (ts - ala)) > 0) = false]) := by kernel_rfl
theorem view_5 (tc ta tb to ts te td tf tr tl tg pda ala pdb alb : Int) (tx : List Int) (la lb hz : List T) (fx fy : Bool): topK (Ch [] [150]) 30 105 [] [.p (trT tc ta tb to ts te td tf tr tl tg tx), .p (.agg [.lst fx 36 la, .int .i64 pda, .int .i64 ala]), .p (.agg [.lst fy 36 lb, .int .i64 pdb, .int .i64 alb])] [(0, false), (0, false), (0, false), (0, false), (0, true)] [] [] [[.lst false 36 hz]] [] = some ([.p (.agg [.int .i64 0, .int .i64 0, .lst true 36 []]), .p (.int .i64 150)], [], [decide (((la).length : Int) > 16) = true, decide ((IntKind.i64.wrap (pda + (IntKind.i64.wrap (te - alb)))) < 0) = false, decide ((IntKind.i64.wrap (pdb + (IntKind.i64.wrap (ts - ala)))) < 0) = false, PCall Try.prog 150 [.lst true 1 [.lst fx 36 la, .lst fy 36 lb]] [.lst false 36 hz], decide ((IntKind.i64.wrap (te - alb)) > 0) = false, decide ((IntKind.i64.wrap (ts - ala)) > 0) = false]) := by kernel_rfl
theorem view_6 (tc ta tb to ts te td tf tr tl tg pda ala pdb alb : Int) (tx : List Int) (la lb hz : List T) (fx fy : Bool): topK (Ch [] [150]) 30 105 [] [.p (trT tc ta tb to ts te td tf tr tl tg tx), .p (.agg [.lst fx 36 la, .int .i64 pda, .int .i64 ala]), .p (.agg [.lst fy 36 lb, .int .i64 pdb, .int .i64 alb])] [(0, false), (0, false), (0, false), (0, false), (0, false), (0, true)] [] [] [[.lst false 36 hz]] [] = some ([.p (.agg [.int .i64 0, .int .i64 0, .lst true 36 []]), .p (.int .i64 150)], [], [decide (((lb).length : Int) > 16) = true, decide (((la).length : Int) > 16) = false, decide ((IntKind.i64.wrap (pda + (IntKind.i64.wrap (te - alb)))) < 0) = false, decide ((IntKind.i64.wrap (pdb + (IntKind.i64.wrap (ts - ala)))) < 0) = false, PCall Try.prog 150 [.lst true 1 [.lst fx 36 la, .lst fy 36 lb]] [.lst false 36 hz], decide ((IntKind.i64.wrap (te - alb)) > 0) = false, decide ((IntKind.i64.wrap (ts - ala)) > 0) = false]) := by kernel_rfl
theorem view_7 (tc ta tb to ts te td tf tr tl tg pda ala pdb alb : Int) (tx : List Int) (la lb hz : List T) (fx fy : Bool): topK (Ch [] [150]) 30 105 [] [.p (trT tc ta tb to ts te td tf tr tl tg tx), .p (.agg [.lst fx 36 la, .int .i64 pda, .int .i64 ala]), .p (.agg [.lst fy 36 lb, .int .i64 pdb, .int .i64 alb])] [(0, false), (0, true), (0, true)] [] [] [[.lst false 36 hz]] [] = some ([.p (.agg [.int .i64 0, .int .i64 0, .lst true 36 []]), .p (.int .i64 152)], [], [decide ((IntKind.i64.wrap (pdb + (IntKind.i64.wrap (ts - ala)))) < 0) = true, PCall Try.prog 150 [.lst true 1 [.lst fx 36 la, .lst fy 36 lb]] [.lst false 36 hz], decide ((IntKind.i64.wrap (te - alb)) > 0) = true, decide ((IntKind.i64.wrap (ts - ala)) > 0) = false]) := by kernel_rfl
theorem view_8 (tc ta tb to ts te td tf tr tl tg pda ala pdb alb : Int) (tx : List Int) (la lb hz : List T) (fx fy : Bool): topK (Ch [] [150]) 30 105 [] [.p (trT tc ta tb to ts te td tf tr tl tg tx), .p (.agg [.lst fx 36 la, .int .i64 pda, .int .i64 ala]), .p (.agg [.lst fy 36 lb, .int .i64 pdb, .int .i64 alb])] [(0, false), (0, true), (0, false), (0, true)] [] [] [[.lst false 36 hz]] [] = some ([.p (.agg [.int .i64 0, .int .i64 0, .lst true 36 []]), .p (.int .i64 152)], [], [decide ((IntKind.i64.wrap ((IntKind.i64.wrap (te - alb)) + pda)) < 0) = true, decide ((IntKind.i64.wrap (pdb + (IntKind.i64.wrap (ts - ala)))) < 0) = false, PCall Try.prog 150 [.lst true 1 [.lst fx 36 la, .lst fy 36 lb]] [.lst false 36 hz], decide ((IntKind.i64.wrap (te - alb)) > 0) = true, decide ((IntKind.i64.wrap (ts - ala)) > 0) = false]) := by kernel_rfl
theorem view_9 (tc ta tb to ts te td tf tr tl tg pda ala pdb alb : Int) (tx : List Int) (la lb hz : List T) (fx fy : Bool): topK (Ch [] [150]) 30 105 [] [.p (trT tc ta tb to ts te td tf tr tl tg tx), .p (.agg [.lst fx 36 la, .int .i64 pda, .int .i64 ala]), .p (.agg [.lst fy 36 lb, .int .i64 pdb, .int .i64 alb])] [(0, false), (0, true), (0, false), (0, false), (0, true)] [] [] [[.lst false 36 hz]] [] = some ([.p (.agg [.int .i64 0, .int .i64 0, .lst true 36 []]), .p (.int .i64 150)], [], [decide (((la).length : Int) > 16) = true, decide ((IntKind.i64.wrap ((IntKind.i64.wrap (te - alb)) + pda)) < 0) = false, decide ((IntKind.i64.wrap (pdb + (IntKind.i64.wrap (ts - ala)))) < 0) = false, PCall Try.prog 150 [.lst true 1 [.lst fx 36 la, .lst fy 36 lb]] [.lst false 36 hz], decide ((IntKind.i64.wrap (te - alb)) > 0) = true, decide ((IntKind.i64.wrap (ts - ala)) > 0) = false]) := by kernel_rfl
theorem view_10 (tc ta tb to ts te td tf tr tl tg pda ala pdb alb : Int) (tx : List Int) (la lb hz : List T) (fx fy : Bool): topK (Ch [] [150]) 30 105 [] [.p (trT tc ta tb to ts te td tf tr tl tg tx), .p (.agg [.lst fx 36 la, .int .i64 pda, .int .i64 ala]), .p (.agg [.lst fy 36 lb, .int .i64 pdb, .int .i64 alb])] [(0, false), (0, true), (0, false), (0, false), (0, false), (0, true)] [] [] [[.lst false 36 hz]] [] = some ([.p (.agg [.int .i64 0, .int .i64 0, .lst true 36 []]), .p (.int .i64 150)], [], [decide (((lb).length : Int) > 16) = true, decide (((la).length : Int) > 16) = false, decide ((IntKind.i64.wrap ((IntKind.i64.wrap (te - alb)) + pda)) < 0) = false, decide ((IntKind.i64.wrap (pdb + (IntKind.i64.wrap (ts - ala)))) < 0) = false, PCall Try.prog 150 [.lst true 1 [.lst fx 36 la, .lst fy 36 lb]] [.lst false 36 hz], decide ((IntKind.i64.wrap (te - alb)) > 0) = true, decide ((IntKind.i64.wrap (ts - ala)) > 0) = false]) := by kernel_rfl
theorem view_11 (tc ta tb to ts te td tf tr tl tg pda ala pdb alb : Int) (tx : List Int) (la lb hz : List T) (fx fy : Bool): topK (Ch [] [150]) 30 105 [] [.p (trT tc ta tb to ts te td tf tr tl tg tx), .p (.agg [.lst fx 36 la, .int .i64 pda, .int .i64 ala]), .p (.agg [.lst fy 36 lb, .int .i64 pdb, .int .i64 alb])] [(0, true), (0, false), (0, false), (0, false), (0, false), (0, false)] [] [] [[.lst false 36 hz]] [] = some ([.p (.agg [.int .i64 (IntKind.i64.wrap ((IntKind.i64.wrap (ts - ala)) + pdb)), .int .i64 (IntKind.i64.wrap (pda + (IntKind.i64.wrap (te - alb)))), .lst false 36 hz]), .p (.int .i64 0)], [], [decide (((lb).length : Int) > 16) = false, decide (((la).length : Int) > 16) = false, decide ((IntKind.i64.wrap (pda + (IntKind.i64.wrap (te - alb)))) < 0) = false, decide ((IntKind.i64.wrap ((IntKind.i64.wrap (ts - ala)) + pdb)) < 0) = false, PCall Try.prog 150 [.lst true 1 [.lst fx 36 la, .lst fy 36 lb]] [.lst false 36 hz], decide ((IntKind.i64.wrap (te - alb)) > 0) = false, decide ((IntKind.i64.wrap (ts - ala)) > 0) = true]) := by kernel_rfl
theorem view_12 (tc ta tb to ts te td tf tr tl tg pda ala pdb alb : Int) (tx : List Int) (la lb hz : List T) (fx fy : Bool): topK (Ch [] [150]) 30 105 [] [.p (trT tc ta tb to ts te td tf tr tl tg tx), .p (.agg [.lst fx 36 la, .int .i64 pda, .int .i64 ala]), .p (.agg [.lst fy 36 lb, .int .i64 pdb, .int .i64 alb])] [(0, true), (0, false), (0, true)] [] [] [[.lst false 36 hz]] [] = some ([.p (.agg [.int .i64 0, .int .i64 0, .lst true 36 []]), .p (.int .i64 152)], [], [decide ((IntKind.i64.wrap ((IntKind.i64.wrap (ts - ala)) + pdb)) < 0) = true, PCall Try.prog 150 [.lst true 1 [.lst fx 36 la, .lst fy 36 lb]] [.lst false 36 hz], decide ((IntKind.i64.wrap (te - alb)) > 0) = false, decide ((IntKind.i64.wrap (ts - ala)) > 0) = true]) := by kernel_rfl
theorem view_13 (tc ta tb to ts te td tf tr tl tg pda ala pdb alb : Int) (tx : List Int) (la lb hz : List T) (fx fy : Bool): topK (Ch [] [150]) 30 105 [] [.p (trT tc ta tb to ts te td tf tr tl tg tx), .p (.agg [.lst fx 36 la, .int .i64 pda, .int .i64 ala]), .p (.agg [.lst fy 36 lb, .int .i64 pdb, .int .i64 alb])] [(0, true), (0, false), (0, false), (0, true)] [] [] [[.lst false 36 hz]] [] = some ([.p (.agg [.int .i64 0, .int .i64 0, .lst true 36 []]), .p (.int .i64 152)], [], [decide ((IntKind.i64.wrap (pda + (IntKind.i64.wrap (te - alb)))) < 0) = true, decide ((IntKind.i64.wrap ((IntKind.i64.wrap (ts - ala)) + pdb)) < 0) = false, PCall Try.prog 150 [.lst true 1 [.lst fx 36 la, .lst fy 36 lb]] [.lst false 36 hz], decide ((IntKind.i64.wrap (te - alb)) > 0) = false, decide ((IntKind.i64.wrap (ts - ala)) > 0) = true]) := by kernel_rfl
theorem view_14 (tc ta tb to ts te td tf tr tl tg pda ala pdb alb : Int) (tx : List Int) (la lb hz : List T) (fx fy : Bool): topK (Ch [] [150]) 30 105 [] [.p (trT tc ta tb to ts te td tf tr tl tg tx), .p (.agg [.lst fx 36 la, .int .i64 pda, .int .i64 ala]), .p (.agg [.lst fy 36 lb, .int .i64 pdb, .int .i64 alb])] [(0, true), (0, false), (0, false), (0, false), (0, true)] [] [] [[.lst false 36 hz]] [] = some ([.p (.agg [.int .i64 0, .int .i64 0, .lst true 36 []]), .p (.int .i64 150)], [], [decide (((la).length : Int) > 16) = true, decide ((IntKind.i64.wrap (pda + (IntKind.i64.wrap (te - alb)))) < 0) = false, decide ((IntKind.i64.wrap ((IntKind.i64.wrap (ts - ala)) + pdb)) < 0) = false, PCall Try.prog 150 [.lst true 1 [.lst fx 36 la, .lst fy 36 lb]] [.lst false 36 hz], decide ((IntKind.i64.wrap (te - alb)) > 0) = false, decide ((IntKind.i64.wrap (ts - ala)) > 0) = true]) := by kernel_rfl
theorem view_15 (tc ta tb to ts te td tf tr tl tg pda ala pdb alb : Int) (tx : List Int) (la lb hz : List T) (fx fy : Bool): topK (Ch [] [150]) 30 105 [] [.p (trT tc ta tb to ts te td tf tr tl tg tx), .p (.agg [.lst fx 36 la, .int .i64 pda, .int .i64 ala]), .p (.agg [.lst fy 36 lb, .int .i64 pdb, .int .i64 alb])] [(0, true), (0, false), (0, false), (0, false), (0, false), (0, true)] [] [] [[.lst false 36 hz]] [] = some ([.p (.agg [.int .i64 0, .int .i64 0, .lst true 36 []]), .p (.int .i64 150)], [], [decide (((lb).length : Int) > 16) = true, decide (((la).length : Int) > 16) = false, decide ((IntKind.i64.wrap (pda + (IntKind.i64.wrap (te - alb)))) < 0) = false, decide ((IntKind.i64.wrap ((IntKind.i64.wrap (ts - ala)) + pdb)) < 0) = false, PCall Try.prog 150 [.lst true 1 [.lst fx 36 la, .lst fy 36 lb]] [.lst false 36 hz], decide ((IntKind.i64.wrap (te - alb)) > 0) = false, decide ((IntKind.i64.wrap (ts - ala)) > 0) = true]) := by kernel_rfl
theorem view_16 (tc ta tb to ts te td tf tr tl tg pda ala pdb alb : Int) (tx : List Int) (la lb hz : List T) (fx fy : Bool): topK (Ch [] [150]) 30 105 [] [.p (trT tc ta tb to ts te td tf tr tl tg tx), .p (.agg [.lst fx 36 la, .int .i64 pda, .int .i64 ala]), .p (.agg [.lst fy 36 lb, .int .i64 pdb, .int .i64 alb])] [(0, true), (0, true), (0, true)] [] [] [[.lst false 36 hz]] [] = some ([.p (.agg [.int .i64 0, .int .i64 0, .lst true 36 []]), .p (.int .i64 152)], [], [decide ((IntKind.i64.wrap ((IntKind.i64.wrap (ts - ala)) + pdb)) < 0) = true, PCall Try.prog 150 [.lst true 1 [.lst fx 36 la, .lst fy 36 lb]] [.lst false 36 hz], decide ((IntKind.i64.wrap (te - alb)) > 0) = true, decide ((IntKind.i64.wrap (ts - ala)) > 0) = true]) := by kernel_rfl
theorem view_17 (tc ta tb to ts te td tf tr tl tg pda ala pdb alb : Int) (tx : List Int) (la lb hz : List T) (fx fy : Bool): topK (Ch [] [150]) 30 105 [] [.p (trT tc ta tb to ts te td tf tr tl tg tx), .p (.agg [.lst fx 36 la, .int .i64 pda, .int .i64 ala]), .p (.agg [.lst fy 36 lb, .int .i64 pdb, .int .i64 alb])] [(0, true), (0, true), (0, false), (0, true)] [] [] [[.lst false 36 hz]] [] = some ([.p (.agg [.int .i64 0, .int .i64 0, .lst true 36 []]), .p (.int .i64 152)], [], [decide ((IntKind.i64.wrap ((IntKind.i64.wrap (te - alb)) + pda)) < 0) = true, decide ((IntKind.i64.wrap ((IntKind.i64.wrap (ts - ala)) + pdb)) < 0) = false, PCall Try.prog 150 [.lst true 1 [.lst fx 36 la, .lst fy 36 lb]] [.lst false 36 hz], decide ((IntKind.i64.wrap (te - alb)) > 0) = true, decide ((IntKind.i64.wrap (ts - ala)) > 0) = true]) := by kernel_rfl
theorem view_18 (tc ta tb to ts te td tf tr tl tg pda ala pdb alb : Int) (tx : List Int) (la lb hz : List T) (fx fy : Bool): topK (Ch [] [150]) 30 105 [] [.p (trT tc ta tb to ts te td tf tr tl tg tx), .p (.agg [.lst fx 36 la, .int .i64 pda, .int .i64 ala]), .p (.agg [.lst fy 36 lb, .int .i64 pdb, .int .i64 alb])] [(0, true), (0, true), (0, false), (0, false), (0, true)] [] [] [[.lst false 36 hz]] [] = some ([.p (.agg [.int .i64 0, .int .i64 0, .lst true 36 []]), .p (.int .i64 150)], [], [decide (((la).length : Int) > 16) = true, decide ((IntKind.i64.wrap ((IntKind.i64.wrap (te - alb)) + pda)) < 0) = false, decide ((IntKind.i64.wrap ((IntKind.i64.wrap (ts - ala)) + pdb)) < 0) = false, PCall Try.prog 150 [.lst true 1 [.lst fx 36 la, .lst fy 36 lb]] [.lst false 36 hz], decide ((IntKind.i64.wrap (te - alb)) > 0) = true, decide ((IntKind.i64.wrap (ts - ala)) > 0) = true]) := by kernel_rfl
theorem view_19 (tc ta tb to ts te td tf tr tl tg pda ala pdb alb : Int) (tx : List Int) (la lb hz : List T) (fx fy : Bool): topK (Ch [] [150]) 30 105 [] [.p (trT tc ta tb to ts te td tf tr tl tg tx), .p (.agg [.lst fx 36 la, .int .i64 pda, .int .i64 ala]), .p (.agg [.lst fy 36 lb, .int .i64 pdb, .int .i64 alb])] [(0, true), (0, true), (0, false), (0, false), (0, false), (0, true)] [] [] [[.lst false 36 hz]] [] = some ([.p (.agg [.int .i64 0, .int .i64 0, .lst true 36 []]), .p (.int .i64 150)], [], [decide (((lb).length : Int) > 16) = true, decide (((la).length : Int) > 16) = false, decide ((IntKind.i64.wrap ((IntKind.i64.wrap (te - alb)) + pda)) < 0) = false, decide ((IntKind.i64.wrap ((IntKind.i64.wrap (ts - ala)) + pdb)) < 0) = false, PCall Try.prog 150 [.lst true 1 [.lst fx 36 la, .lst fy 36 lb]] [.lst false 36 hz], decide ((IntKind.i64.wrap (te - alb)) > 0) = true, decide ((IntKind.i64.wrap (ts - ala)) > 0) = true]) := by kernel_rfl
theorem Vw_0 (tc ta tb to ts te td tf tr tl tg pda ala pdb alb ra rb n k e f : Int) (tx : List Int) (la lb rh ma mb : List T) (fx fy fr xa xb : Bool): topK (Ch [] [104, 105]) 30 47 [] [.p (trT tc ta tb to ts te td tf tr tl tg tx), .p (.lst xa 137 ma), .p (.lst xb 137 mb), .p (.int .i64 n), .p (.int .i64 k)] [(0, false), (0, false), (0, false), (0, false), (0, false)] [] [] [[.agg [.lst fx 36 la, .int .i64 pda, .int .i64 ala], .agg [.lst fy 36 lb, .int .i64 pdb, .int .i64 alb], .int .i64 e], [.agg [.int .i64 ra, .int .i64 rb, .lst fr 36 rh], .int .i64 f]] [.cut 0 n.toNat, .cut 0 k.toNat] = some ([.p (.agg [.int .i64 ra, .int .i64 rb, .lst fr 36 rh]), .p (.int .i64 f)], [], [PCall Try.prog 105 [trT tc ta tb to ts te td tf tr tl tg tx, .agg [.lst fx 36 la, .int .i64 pda, .int .i64 ala], .agg [.lst fy 36 lb, .int .i64 pdb, .int .i64 alb]] [.agg [.int .i64 ra, .int .i64 rb, .lst fr 36 rh], .int .i64 f], (e != 0) = false, (some (.box (.p (trT tc ta tb to ts te td tf tr tl tg tx))) : Option SObj) = (some (.box (.p (trT tc ta tb to ts te td tf tr tl tg tx))) : Option SObj), (some (.box (.p (trT tc ta tb to ts te td tf tr tl tg tx))) : Option SObj) = (some (.box (.p (trT tc ta tb to ts te td tf tr tl tg tx))) : Option SObj), PCall Try.prog 104 [trT tc ta tb to ts te td tf tr tl tg tx, .lst (xa && (n.toNat == ma.length)) 137 (List.drop 0 (List.take n.toNat ma)), .lst (xb && (k.toNat == mb.length)) 137 (List.drop 0 (List.take k.toNat mb))] [.agg [.lst fx 36 la, .int .i64 pda, .int .i64 ala], .agg [.lst fy 36 lb, .int .i64 pdb, .int .i64 alb], .int .i64 e], (0 : Nat) = 0, k = ((k.toNat : Nat) : Int), 0 ≤ k.toNat, k.toNat ≤ mb.length, (0 : Nat) = 0, n = ((n.toNat : Nat) : Int), 0 ≤ n.toNat, n.toNat ≤ ma.length, decide (k > ((mb).length : Int)) = false, decide (k < 0) = false, decide (n > ((ma).length : Int)) = false, decide (n < 0) = false]) := by kernel_rfl
theorem Vw_1 (tc ta tb to ts te td tf tr tl tg pda ala pdb alb ra rb n k e f : Int) (tx : List Int) (la lb rh ma mb : List T) (fx fy fr xa xb : Bool): topK (Ch [] [104, 105]) 30 47 [] [.p (trT tc ta tb to ts te td tf tr tl tg tx), .p (.lst xa 137 ma), .p (.lst xb 137 mb), .p (.int .i64 n), .p (.int .i64 k)] [(0, true)] [] [] [[.agg [.lst fx 36 la, .int .i64 pda, .int .i64 ala], .agg [.lst fy 36 lb, .int .i64 pdb, .int .i64 alb], .int .i64 e], [.agg [.int .i64 ra, .int .i64 rb, .lst fr 36 rh], .int .i64 f]] [.cut 0 n.toNat, .cut 0 k.toNat] = some ([.p (.agg [.int .i64 0, .int .i64 0, .lst true 36 []]), .p (.int .i64 1)], [], [decide (n < 0) = true]) := by kernel_rfl
theorem Vw_2 (tc ta tb to ts te td tf tr tl tg pda ala pdb alb ra rb n k e f : Int) (tx : List Int) (la lb rh ma mb : List T) (fx fy fr xa xb : Bool): topK (Ch [] [104, 105]) 30 47 [] [.p (trT tc ta tb to ts te td tf tr tl tg tx), .p (.lst xa 137 ma), .p (.lst xb 137 mb), .p (.int .i64 n), .p (.int .i64 k)] [(0, false), (0, true)] [] [] [[.agg [.lst fx 36 la, .int .i64 pda, .int .i64 ala], .agg [.lst fy 36 lb, .int .i64 pdb, .int .i64 alb], .int .i64 e], [.agg [.int .i64 ra, .int .i64 rb, .lst fr 36 rh], .int .i64 f]] [.cut 0 n.toNat, .cut 0 k.toNat] = some ([.p (.agg [.int .i64 0, .int .i64 0, .lst true 36 []]), .p (.int .i64 1)], [], [decide (n > ((ma).length : Int)) = true, decide (n < 0) = false]) := by kernel_rfl
theorem Vw_3 (tc ta tb to ts te td tf tr tl tg pda ala pdb alb ra rb n k e f : Int) (tx : List Int) (la lb rh ma mb : List T) (fx fy fr xa xb : Bool): topK (Ch [] [104, 105]) 30 47 [] [.p (trT tc ta tb to ts te td tf tr tl tg tx), .p (.lst xa 137 ma), .p (.lst xb 137 mb), .p (.int .i64 n), .p (.int .i64 k)] [(0, false), (0, false), (0, true)] [] [] [[.agg [.lst fx 36 la, .int .i64 pda, .int .i64 ala], .agg [.lst fy 36 lb, .int .i64 pdb, .int .i64 alb], .int .i64 e], [.agg [.int .i64 ra, .int .i64 rb, .lst fr 36 rh], .int .i64 f]] [.cut 0 n.toNat, .cut 0 k.toNat] = some ([.p (.agg [.int .i64 0, .int .i64 0, .lst true 36 []]), .p (.int .i64 1)], [], [decide (k < 0) = true, decide (n > ((ma).length : Int)) = false, decide (n < 0) = false]) := by kernel_rfl
theorem Vw_4 (tc ta tb to ts te td tf tr tl tg pda ala pdb alb ra rb n k e f : Int) (tx : List Int) (la lb rh ma mb : List T) (fx fy fr xa xb : Bool): topK (Ch [] [104, 105]) 30 47 [] [.p (trT tc ta tb to ts te td tf tr tl tg tx), .p (.lst xa 137 ma), .p (.lst xb 137 mb), .p (.int .i64 n), .p (.int .i64 k)] [(0, false), (0, false), (0, false), (0, true)] [] [] [[.agg [.lst fx 36 la, .int .i64 pda, .int .i64 ala], .agg [.lst fy 36 lb, .int .i64 pdb, .int .i64 alb], .int .i64 e], [.agg [.int .i64 ra, .int .i64 rb, .lst fr 36 rh], .int .i64 f]] [.cut 0 n.toNat, .cut 0 k.toNat] = some ([.p (.agg [.int .i64 0, .int .i64 0, .lst true 36 []]), .p (.int .i64 1)], [], [decide (k > ((mb).length : Int)) = true, decide (k < 0) = false, decide (n > ((ma).length : Int)) = false, decide (n < 0) = false]) := by kernel_rfl
theorem Vw_5 (tc ta tb to ts te td tf tr tl tg pda ala pdb alb ra rb n k e f : Int) (tx : List Int) (la lb rh ma mb : List T) (fx fy fr xa xb : Bool): topK (Ch [] [104, 105]) 30 47 [] [.p (trT tc ta tb to ts te td tf tr tl tg tx), .p (.lst xa 137 ma), .p (.lst xb 137 mb), .p (.int .i64 n), .p (.int .i64 k)] [(0, false), (0, false), (0, false), (0, false), (0, true)] [] [] [[.agg [.lst fx 36 la, .int .i64 pda, .int .i64 ala], .agg [.lst fy 36 lb, .int .i64 pdb, .int .i64 alb], .int .i64 e], [.agg [.int .i64 ra, .int .i64 rb, .lst fr 36 rh], .int .i64 f]] [.cut 0 n.toNat, .cut 0 k.toNat] = some ([.p (.agg [.int .i64 0, .int .i64 0, .lst true 36 []]), .p (.int .i64 e)], [], [(e != 0) = true, (some (.box (.p (trT tc ta tb to ts te td tf tr tl tg tx))) : Option SObj) = (some (.box (.p (trT tc ta tb to ts te td tf tr tl tg tx))) : Option SObj), (some (.box (.p (trT tc ta tb to ts te td tf tr tl tg tx))) : Option SObj) = (some (.box (.p (trT tc ta tb to ts te td tf tr tl tg tx))) : Option SObj), PCall Try.prog 104 [trT tc ta tb to ts te td tf tr tl tg tx, .lst (xa && (n.toNat == ma.length)) 137 (List.drop 0 (List.take n.toNat ma)), .lst (xb && (k.toNat == mb.length)) 137 (List.drop 0 (List.take k.toNat mb))] [.agg [.lst fx 36 la, .int .i64 pda, .int .i64 ala], .agg [.lst fy 36 lb, .int .i64 pdb, .int .i64 alb], .int .i64 e], (0 : Nat) = 0, k = ((k.toNat : Nat) : Int), 0 ≤ k.toNat, k.toNat ≤ mb.length, (0 : Nat) = 0, n = ((n.toNat : Nat) : Int), 0 ≤ n.toNat, n.toNat ≤ ma.length, decide (k > ((mb).length : Int)) = false, decide (k < 0) = false, decide (n > ((ma).length : Int)) = false, decide (n < 0) = false]) := by kernel_rfl
theorem concat_ok (hx hy : List T) (fx fy : Bool) (hb : (hx.length + hy.length) * 64 ≤ 140737488355328) : PCall Try.prog 150 [.lst true 1 [.lst fx 36 hx, .lst fy 36 hy]] [.lst false 36 (hx ++ hy)] := by
 have w1 : IntKind.i64.wrap (0 + (hx.length : Int)) = (hx.length : Int) := by rw [Int.zero_add]; exact w64 (by omega) (by omega)
 have w2 : IntKind.i64.wrap ((hx.length : Int) + (hy.length : Int)) = ((hx.length + hy.length : Nat) : Int) := by rw [← Int.natCast_add]; exact w64 (by omega) (by omega)
 rcases Nat.eq_zero_or_pos (hx.length + hy.length) with h0 | h0
 ·obtain rfl : hx = [] := List.eq_nil_of_length_eq_zero (by omega)
  obtain rfl : hy = [] := List.eq_nil_of_length_eq_zero (by omega)
  exact (topK_sound (Ch_ok _ _) (conN fx fy) ⟨by omega, by omega, grow_none [], trivial⟩).pure (k := 64) rfl
 ·refine (topK_sound (Ch_ok _ _) (conS hx hy fx fy) ⟨by omega, by omega, ?_, ?_, ?_, trivial⟩).pure (k := 64) rfl
  ·rw [w1, w2]; exact grow_some [] _ h0 hb
  ·rw [w1, w2]; simp <;> omega
  ·rw [w1]; simp <;> omega
def zV : T := .agg [.int .i64 0, .int .i64 0, .lst true 36 []]
def leftI (st al pd : Int) : Int := bif decide (IntKind.i64.wrap (st - al) > 0) then IntKind.i64.wrap (IntKind.i64.wrap (st - al) + pd) else IntKind.i64.wrap (pd + IntKind.i64.wrap (st - al))
def viewE (va vb : Int) (la lb : List T) : List T :=
 bif decide (va < 0) then [zV, .int .i64 152] else bif decide (vb < 0) then [zV, .int .i64 152] else
 bif decide ((la.length : Int) > 16) then [zV, .int .i64 150] else bif decide ((lb.length : Int) > 16) then [zV, .int .i64 150] else
 [.agg [.int .i64 va, .int .i64 vb, .lst false 36 (la ++ lb)], .int .i64 0]
def viewR (ts te : Int) (la lb : List T) (pda ala pdb alb : Int) : List T := viewE (leftI ts ala pdb) (leftI te alb pda) la lb
theorem view_ok (tc ta tb to ts te td tf tr tl tg : Int) (tx : List Int) (la lb : List T) (fx fy : Bool) (pda ala pdb alb : Int) (hb : (la.length + lb.length) * 64 ≤ 140737488355328) :
  PCall Try.prog 105 [trT tc ta tb to ts te td tf tr tl tg tx, .agg [.lst fx 36 la, .int .i64 pda, .int .i64 ala], .agg [.lst fy 36 lb, .int .i64 pdb, .int .i64 alb]] (viewR ts te la lb pda ala pdb alb) := by
 have hc := concat_ok la lb fx fy hb
 unfold viewR leftI
 cases c0 : decide ((IntKind.i64.wrap (ts - ala)) > 0) with
 | true =>
  cases c1 : decide ((IntKind.i64.wrap (te - alb)) > 0) with
  | true =>
   cases c2 : decide ((IntKind.i64.wrap ((IntKind.i64.wrap (ts - ala)) + pdb)) < 0) with
   | true =>
    simp only [c0, c1, c2, viewE, cond_true, cond_false]
    exact (topK_sound (Ch_ok _ _) (view_16 tc ta tb to ts te td tf tr tl tg pda ala pdb alb tx la lb (la ++ lb) fx fy) ⟨c2, hc, c1, c0, trivial⟩).pure (k := 64) rfl
   | false =>
    cases c3 : decide ((IntKind.i64.wrap ((IntKind.i64.wrap (te - alb)) + pda)) < 0) with
    | true =>
     simp only [c0, c1, c2, c3, viewE, cond_true, cond_false]
     exact (topK_sound (Ch_ok _ _) (view_17 tc ta tb to ts te td tf tr tl tg pda ala pdb alb tx la lb (la ++ lb) fx fy) ⟨c3, c2, hc, c1, c0, trivial⟩).pure (k := 64) rfl
    | false =>
     cases c4 : decide (((la).length : Int) > 16) with
     | true =>
      simp only [c0, c1, c2, c3, c4, viewE, cond_true, cond_false]
      exact (topK_sound (Ch_ok _ _) (view_18 tc ta tb to ts te td tf tr tl tg pda ala pdb alb tx la lb (la ++ lb) fx fy) ⟨c4, c3, c2, hc, c1, c0, trivial⟩).pure (k := 64) rfl
     | false =>
      cases c5 : decide (((lb).length : Int) > 16) with
      | true =>
       simp only [c0, c1, c2, c3, c4, c5, viewE, cond_true, cond_false]
       exact (topK_sound (Ch_ok _ _) (view_19 tc ta tb to ts te td tf tr tl tg pda ala pdb alb tx la lb (la ++ lb) fx fy) ⟨c5, c4, c3, c2, hc, c1, c0, trivial⟩).pure (k := 64) rfl
      | false =>
       simp only [c0, c1, c2, c3, c4, c5, viewE, cond_true, cond_false]
       exact (topK_sound (Ch_ok _ _) (view_0 tc ta tb to ts te td tf tr tl tg pda ala pdb alb tx la lb (la ++ lb) fx fy) ⟨c5, c4, c3, c2, hc, c1, c0, trivial⟩).pure (k := 64) rfl
  | false =>
   cases c2 : decide ((IntKind.i64.wrap ((IntKind.i64.wrap (ts - ala)) + pdb)) < 0) with
   | true =>
    simp only [c0, c1, c2, viewE, cond_true, cond_false]
    exact (topK_sound (Ch_ok _ _) (view_12 tc ta tb to ts te td tf tr tl tg pda ala pdb alb tx la lb (la ++ lb) fx fy) ⟨c2, hc, c1, c0, trivial⟩).pure (k := 64) rfl
   | false =>
    cases c3 : decide ((IntKind.i64.wrap (pda + (IntKind.i64.wrap (te - alb)))) < 0) with
    | true =>
     simp only [c0, c1, c2, c3, viewE, cond_true, cond_false]
     exact (topK_sound (Ch_ok _ _) (view_13 tc ta tb to ts te td tf tr tl tg pda ala pdb alb tx la lb (la ++ lb) fx fy) ⟨c3, c2, hc, c1, c0, trivial⟩).pure (k := 64) rfl
    | false =>
     cases c4 : decide (((la).length : Int) > 16) with
     | true =>
      simp only [c0, c1, c2, c3, c4, viewE, cond_true, cond_false]
      exact (topK_sound (Ch_ok _ _) (view_14 tc ta tb to ts te td tf tr tl tg pda ala pdb alb tx la lb (la ++ lb) fx fy) ⟨c4, c3, c2, hc, c1, c0, trivial⟩).pure (k := 64) rfl
     | false =>
      cases c5 : decide (((lb).length : Int) > 16) with
      | true =>
       simp only [c0, c1, c2, c3, c4, c5, viewE, cond_true, cond_false]
       exact (topK_sound (Ch_ok _ _) (view_15 tc ta tb to ts te td tf tr tl tg pda ala pdb alb tx la lb (la ++ lb) fx fy) ⟨c5, c4, c3, c2, hc, c1, c0, trivial⟩).pure (k := 64) rfl
      | false =>
       simp only [c0, c1, c2, c3, c4, c5, viewE, cond_true, cond_false]
       exact (topK_sound (Ch_ok _ _) (view_11 tc ta tb to ts te td tf tr tl tg pda ala pdb alb tx la lb (la ++ lb) fx fy) ⟨c5, c4, c3, c2, hc, c1, c0, trivial⟩).pure (k := 64) rfl
 | false =>
  cases c1 : decide ((IntKind.i64.wrap (te - alb)) > 0) with
  | true =>
   cases c2 : decide ((IntKind.i64.wrap (pdb + (IntKind.i64.wrap (ts - ala)))) < 0) with
   | true =>
    simp only [c0, c1, c2, viewE, cond_true, cond_false]
    exact (topK_sound (Ch_ok _ _) (view_7 tc ta tb to ts te td tf tr tl tg pda ala pdb alb tx la lb (la ++ lb) fx fy) ⟨c2, hc, c1, c0, trivial⟩).pure (k := 64) rfl
   | false =>
    cases c3 : decide ((IntKind.i64.wrap ((IntKind.i64.wrap (te - alb)) + pda)) < 0) with
    | true =>
     simp only [c0, c1, c2, c3, viewE, cond_true, cond_false]
     exact (topK_sound (Ch_ok _ _) (view_8 tc ta tb to ts te td tf tr tl tg pda ala pdb alb tx la lb (la ++ lb) fx fy) ⟨c3, c2, hc, c1, c0, trivial⟩).pure (k := 64) rfl
    | false =>
     cases c4 : decide (((la).length : Int) > 16) with
     | true =>
      simp only [c0, c1, c2, c3, c4, viewE, cond_true, cond_false]
      exact (topK_sound (Ch_ok _ _) (view_9 tc ta tb to ts te td tf tr tl tg pda ala pdb alb tx la lb (la ++ lb) fx fy) ⟨c4, c3, c2, hc, c1, c0, trivial⟩).pure (k := 64) rfl
     | false =>
      cases c5 : decide (((lb).length : Int) > 16) with
      | true =>
       simp only [c0, c1, c2, c3, c4, c5, viewE, cond_true, cond_false]
       exact (topK_sound (Ch_ok _ _) (view_10 tc ta tb to ts te td tf tr tl tg pda ala pdb alb tx la lb (la ++ lb) fx fy) ⟨c5, c4, c3, c2, hc, c1, c0, trivial⟩).pure (k := 64) rfl
      | false =>
       simp only [c0, c1, c2, c3, c4, c5, viewE, cond_true, cond_false]
       exact (topK_sound (Ch_ok _ _) (view_1 tc ta tb to ts te td tf tr tl tg pda ala pdb alb tx la lb (la ++ lb) fx fy) ⟨c5, c4, c3, c2, hc, c1, c0, trivial⟩).pure (k := 64) rfl
  | false =>
   cases c2 : decide ((IntKind.i64.wrap (pdb + (IntKind.i64.wrap (ts - ala)))) < 0) with
   | true =>
    simp only [c0, c1, c2, viewE, cond_true, cond_false]
    exact (topK_sound (Ch_ok _ _) (view_3 tc ta tb to ts te td tf tr tl tg pda ala pdb alb tx la lb (la ++ lb) fx fy) ⟨c2, hc, c1, c0, trivial⟩).pure (k := 64) rfl
   | false =>
    cases c3 : decide ((IntKind.i64.wrap (pda + (IntKind.i64.wrap (te - alb)))) < 0) with
    | true =>
     simp only [c0, c1, c2, c3, viewE, cond_true, cond_false]
     exact (topK_sound (Ch_ok _ _) (view_4 tc ta tb to ts te td tf tr tl tg pda ala pdb alb tx la lb (la ++ lb) fx fy) ⟨c3, c2, hc, c1, c0, trivial⟩).pure (k := 64) rfl
    | false =>
     cases c4 : decide (((la).length : Int) > 16) with
     | true =>
      simp only [c0, c1, c2, c3, c4, viewE, cond_true, cond_false]
      exact (topK_sound (Ch_ok _ _) (view_5 tc ta tb to ts te td tf tr tl tg pda ala pdb alb tx la lb (la ++ lb) fx fy) ⟨c4, c3, c2, hc, c1, c0, trivial⟩).pure (k := 64) rfl
     | false =>
      cases c5 : decide (((lb).length : Int) > 16) with
      | true =>
       simp only [c0, c1, c2, c3, c4, c5, viewE, cond_true, cond_false]
       exact (topK_sound (Ch_ok _ _) (view_6 tc ta tb to ts te td tf tr tl tg pda ala pdb alb tx la lb (la ++ lb) fx fy) ⟨c5, c4, c3, c2, hc, c1, c0, trivial⟩).pure (k := 64) rfl
      | false =>
       simp only [c0, c1, c2, c3, c4, c5, viewE, cond_true, cond_false]
       exact (topK_sound (Ch_ok _ _) (view_2 tc ta tb to ts te td tf tr tl tg pda ala pdb alb tx la lb (la ++ lb) fx fy) ⟨c5, c4, c3, c2, hc, c1, c0, trivial⟩).pure (k := 64) rfl
theorem ViewR_arg (tc ta tb to ts te td tf tr tl tg n k : Int) (tx : List Int) (ma mb : List T) (xa xb : Bool) (h : n < 0 ∨ n > (ma.length : Int) ∨ k < 0 ∨ k > (mb.length : Int)) :
  PCall Try.prog 47 [trT tc ta tb to ts te td tf tr tl tg tx, .lst xa 137 ma, .lst xb 137 mb, .int .i64 n, .int .i64 k] [zV, .int .i64 1] := by
 cases c0 : decide (n < 0) with
 | true =>
  exact (topK_sound (Ch_ok _ _) (Vw_1 tc ta tb to ts te td tf tr tl tg 0 0 0 0 0 0 n k 0 0 tx [] [] [] ma mb true true true xa xb) ⟨c0, trivial⟩).pure (k := 64) rfl
 | false =>
  cases c1 : decide (n > ((ma).length : Int)) with
  | true =>
   exact (topK_sound (Ch_ok _ _) (Vw_2 tc ta tb to ts te td tf tr tl tg 0 0 0 0 0 0 n k 0 0 tx [] [] [] ma mb true true true xa xb) ⟨c1, c0, trivial⟩).pure (k := 64) rfl
  | false =>
   cases c2 : decide (k < 0) with
   | true =>
    exact (topK_sound (Ch_ok _ _) (Vw_3 tc ta tb to ts te td tf tr tl tg 0 0 0 0 0 0 n k 0 0 tx [] [] [] ma mb true true true xa xb) ⟨c2, c1, c0, trivial⟩).pure (k := 64) rfl
   | false =>
    cases c3 : decide (k > ((mb).length : Int)) with
    | true =>
     exact (topK_sound (Ch_ok _ _) (Vw_4 tc ta tb to ts te td tf tr tl tg 0 0 0 0 0 0 n k 0 0 tx [] [] [] ma mb true true true xa xb) ⟨c3, c2, c1, c0, trivial⟩).pure (k := 64) rfl
    | false =>
     simp only [decide_eq_false_iff_not] at c0 c1 c2 c3
     omega
theorem ViewR_err (tc ta tb to ts te td tf tr tl tg n k e : Int) (tx : List Int) (ma mb : List T) (xa xb fx fy : Bool) (la lb : List T) (pda ala pdb alb : Int) (h1 : 0 ≤ n) (h2 : n ≤ (ma.length : Int)) (h3 : 0 ≤ k) (h4 : k ≤ (mb.length : Int)) (he : (e != 0) = true)
  (hl : PCall Try.prog 104 [trT tc ta tb to ts te td tf tr tl tg tx, .lst (xa && (n.toNat == ma.length)) 137 (ma.take n.toNat), .lst (xb && (k.toNat == mb.length)) 137 (mb.take k.toNat)] [.agg [.lst fx 36 la, .int .i64 pda, .int .i64 ala], .agg [.lst fy 36 lb, .int .i64 pdb, .int .i64 alb], .int .i64 e]) :
  PCall Try.prog 47 [trT tc ta tb to ts te td tf tr tl tg tx, .lst xa 137 ma, .lst xb 137 mb, .int .i64 n, .int .i64 k] [zV, .int .i64 e] :=
 (topK_sound (Ch_ok _ _) (Vw_5 tc ta tb to ts te td tf tr tl tg pda ala pdb alb 0 0 n k e 0 tx la lb [] ma mb fx fy true xa xb) ⟨he, rfl, rfl, hl, rfl, (by omega), (by omega), (by omega), rfl, (by omega), (by omega), (by omega), (by simp; omega), (by simp; omega), (by simp; omega), (by simp; omega), trivial⟩).pure (k := 64) rfl
theorem ViewR_go (tc ta tb to ts te td tf tr tl tg n k : Int) (tx : List Int) (ma mb : List T) (xa xb fx fy fr : Bool) (la lb rh : List T) (pda ala pdb alb ra rb f : Int) (h1 : 0 ≤ n) (h2 : n ≤ (ma.length : Int)) (h3 : 0 ≤ k) (h4 : k ≤ (mb.length : Int))
  (hl : PCall Try.prog 104 [trT tc ta tb to ts te td tf tr tl tg tx, .lst (xa && (n.toNat == ma.length)) 137 (ma.take n.toNat), .lst (xb && (k.toNat == mb.length)) 137 (mb.take k.toNat)] [.agg [.lst fx 36 la, .int .i64 pda, .int .i64 ala], .agg [.lst fy 36 lb, .int .i64 pdb, .int .i64 alb], .int .i64 0])
  (hv : PCall Try.prog 105 [trT tc ta tb to ts te td tf tr tl tg tx, .agg [.lst fx 36 la, .int .i64 pda, .int .i64 ala], .agg [.lst fy 36 lb, .int .i64 pdb, .int .i64 alb]] [.agg [.int .i64 ra, .int .i64 rb, .lst fr 36 rh], .int .i64 f]) :
  PCall Try.prog 47 [trT tc ta tb to ts te td tf tr tl tg tx, .lst xa 137 ma, .lst xb 137 mb, .int .i64 n, .int .i64 k] [.agg [.int .i64 ra, .int .i64 rb, .lst fr 36 rh], .int .i64 f] :=
 have he : ((0 : Int) != 0) = false := rfl
 (topK_sound (Ch_ok _ _) (Vw_0 tc ta tb to ts te td tf tr tl tg pda ala pdb alb ra rb n k 0 f tx la lb rh ma mb fx fy fr xa xb) ⟨hv, he, rfl, rfl, hl, rfl, (by omega), (by omega), (by omega), rfl, (by omega), (by omega), (by omega), (by simp; omega), (by simp; omega), (by simp; omega), (by simp; omega), trivial⟩).pure (k := 64) rfl
end Go.HM.Up
namespace Go.HM.Up
open Go.Proofs
structure Sd where
 hs : List Msg
 pd : Int
 al : Int
def Sd.z : Sd := ⟨[], 0, 0⟩
def Sd.t (wh : Int) (s : Sd) : T := sdT wh s.hs s.pd s.al
theorem sdT_eq (wh : Int) (hs : List Msg) (pd al : Int) : sdT wh hs pd al = .agg [.lst hs.isEmpty 36 (hs.map (hT wh)), .int .i64 pd, .int .i64 al] := by cases hs <;> rfl
def lookS (m : Bool) (ta tb : Int) (a b : List Msg) : Int × Sd × Sd := match m, rd a [], rd b [] with
 | true, some p, some q => match stl ((q.map Msg.t).length : Int) a [] with
  | none => (4, .z, .z)
  | some mp => match stl ((p.map Msg.t).length : Int) b [] with
   | none => (4, .z, .z)
   | some mq => match ofG mq ta p [] 0 0 with
    | none => (20, .z, .z)
    | some (hs, pd, al) => match ofG mp tb q [] 0 0 with
     | none => (20, ⟨hs, pd, al⟩, .z)
     | some (h2, pd2, al2) => (0, ⟨hs, pd, al⟩, ⟨h2, pd2, al2⟩)
 | _, _, _ => (1, .z, .z)
theorem lookR_eq (m : Bool) (ta tb : Int) (a b : List Msg) : lookR m ta tb a b = [(lookS m ta tb a b).2.1.t ta, (lookS m ta tb a b).2.2.t tb, .int .i64 (lookS m ta tb a b).1] := by
 unfold lookR lookS
 cases m with
 | false => rfl
 | true => cases rd a [] with
  | none => rfl
  | some p => cases rd b [] with
   | none => rfl
   | some q =>
    simp only
    cases stl ((q.map Msg.t).length : Int) a [] with
    | none => rfl
    | some mp =>
     simp only
     cases stl ((p.map Msg.t).length : Int) b [] with
     | none => rfl
     | some mq =>
      simp only
      cases ofG mq ta p [] 0 0 with
      | none => rfl
      | some x =>
       obtain ⟨hs, pd, al⟩ := x
       simp only
       cases ofG mp tb q [] 0 0 with
       | none => rfl
       | some y => rfl
def hH (wh : Int) (m : Msg) : H := ⟨wh, m.id, m.am, m.hh, m.ex⟩
theorem hT_map (wh : Int) (l : List Msg) : l.map (hT wh) = (l.map (hH wh)).map H.t := by rw [List.map_map]; rfl
theorem ofG_le (ns : List (Int × Int)) (wh : Int) : ∀ (us hs : List Msg) (pd al : Int) (r : List Msg × Int × Int), ofG ns wh us hs pd al = some r → r.1.length ≤ hs.length + us.length
 | [], hs, pd, al, r, h => by simp only [ofG, Option.some.injEq] at h; subst h; simp
 | m :: us, hs, pd, al, r, h => by
  simp only [ofG] at h
  cases c1 : look ns m.id == 3 with
  | true => rw [c1] at h; have := ofG_le ns wh us _ _ _ _ h; simp; omega
  | false =>
   rw [c1] at h
   cases c2 : (Deal.add al m.am).2 != 0 with
   | true => rw [c2] at h; cases h
   | false =>
    rw [c2] at h
    cases c3 : look ns m.id == 2 with
    | true => rw [c3] at h; have := ofG_le ns wh us _ _ _ _ h; simp; omega
    | false => rw [c3] at h; have := ofG_le ns wh us _ _ _ _ h; simp at this ⊢; omega
theorem lookS_le (m : Bool) (ta tb : Int) (a b : List Msg) : (lookS m ta tb a b).2.1.hs.length ≤ a.length ∧ (lookS m ta tb a b).2.2.hs.length ≤ b.length := by
 unfold lookS
 cases m with
 | false => simp [Sd.z]
 | true => cases ea : rd a [] with
  | none => simp [Sd.z]
  | some p => cases eb : rd b [] with
   | none => simp [Sd.z]
   | some q =>
    have hp := rd_le a [] p ea
    have hq := rd_le b [] q eb
    simp only
    cases stl ((q.map Msg.t).length : Int) a [] with
    | none => simp [Sd.z]
    | some mp =>
     simp only
     cases stl ((p.map Msg.t).length : Int) b [] with
     | none => simp [Sd.z]
     | some mq =>
      simp only
      cases e1 : ofG mq ta p [] 0 0 with
      | none => simp [Sd.z]
      | some x =>
       have h1 := ofG_le _ _ _ _ _ _ _ e1
       obtain ⟨hs, pd, al⟩ := x
       simp only
       cases e2 : ofG mp tb q [] 0 0 with
       | none => simp [Sd.z] at *; omega
       | some y =>
        have h2 := ofG_le _ _ _ _ _ _ _ e2
        obtain ⟨h2', pd2, al2⟩ := y
        simp at *
        omega
def viewS (ts te : Int) (x y : Sd) : Int × Int × Int :=
 bif decide (leftI ts x.al y.pd < 0) then (152, 0, 0) else bif decide (leftI te y.al x.pd < 0) then (152, 0, 0) else
 bif decide ((x.hs.length : Int) > 16) then (150, 0, 0) else bif decide ((y.hs.length : Int) > 16) then (150, 0, 0) else (0, leftI ts x.al y.pd, leftI te y.al x.pd)
def vwS (m : Bool) (ta tb ts te : Int) (a b : List Msg) (n k : Int) : Int × Int × Int × List H :=
 bif decide (n < 0) || decide (n > (a.length : Int)) || decide (k < 0) || decide (k > (b.length : Int)) then (1, 0, 0, []) else
 bif (lookS m ta tb (a.take n.toNat) (b.take k.toNat)).1 != 0 then ((lookS m ta tb (a.take n.toNat) (b.take k.toNat)).1, 0, 0, []) else
 bif (viewS ts te (lookS m ta tb (a.take n.toNat) (b.take k.toNat)).2.1 (lookS m ta tb (a.take n.toNat) (b.take k.toNat)).2.2).1 != 0 then ((viewS ts te (lookS m ta tb (a.take n.toNat) (b.take k.toNat)).2.1 (lookS m ta tb (a.take n.toNat) (b.take k.toNat)).2.2).1, 0, 0, []) else
 (0, (viewS ts te (lookS m ta tb (a.take n.toNat) (b.take k.toNat)).2.1 (lookS m ta tb (a.take n.toNat) (b.take k.toNat)).2.2).2.1, (viewS ts te (lookS m ta tb (a.take n.toNat) (b.take k.toNat)).2.1 (lookS m ta tb (a.take n.toNat) (b.take k.toNat)).2.2).2.2,
  (lookS m ta tb (a.take n.toNat) (b.take k.toNat)).2.1.hs.map (hH ta) ++ (lookS m ta tb (a.take n.toNat) (b.take k.toNat)).2.2.hs.map (hH tb))
def vwT (r : Int × Int × Int × List H) : List T := [.agg [.int .i64 r.2.1, .int .i64 r.2.2.1, .lst (r.1 != 0) 36 (r.2.2.2.map H.t)], .int .i64 r.1]
theorem View_ok (tc ta tb to ts te td tf tr tl tg n k : Int) (tx : List Int) (a b : List Msg) (xa xb m : Bool) (ha : a.length * 232 ≤ 140737488355328) (hb : b.length * 232 ≤ 140737488355328)
  (hm : PCall Try.prog 18 [trT tc ta tb to ts te td tf tr tl tg tx] [.bool m]) :
  PCall Try.prog 47 [trT tc ta tb to ts te td tf tr tl tg tx, .lst xa 137 (a.map Msg.t), .lst xb 137 (b.map Msg.t), .int .i64 n, .int .i64 k] (vwT (vwS m ta tb ts te a b n k)) := by
 unfold vwS
 cases c1 : (decide (n < 0) || decide (n > (a.length : Int)) || decide (k < 0) || decide (k > (b.length : Int))) with
 | true =>
  simp only [cond_true]
  refine ViewR_arg tc ta tb to ts te td tf tr tl tg n k tx (a.map Msg.t) (b.map Msg.t) xa xb ?_
  simp at c1 ⊢
  omega
 | false =>
  simp only [cond_false]
  simp only [Bool.or_eq_false_iff, decide_eq_false_iff_not] at c1
  obtain ⟨⟨⟨h1, h2⟩, h3⟩, h4⟩ := c1
  have la : (a.take n.toNat).length * 232 ≤ 140737488355328 := by simp [List.length_take]; omega
  have lb : (b.take k.toNat).length * 232 ≤ 140737488355328 := by simp [List.length_take]; omega
  have hl := look_ok tc ta tb to ts te td tf tr tl tg tx (a.take n.toNat) (b.take k.toNat) (xa && (n.toNat == (a.map Msg.t).length)) (xb && (k.toNat == (b.map Msg.t).length)) m la lb hm
  have hle := lookS_le m ta tb (a.take n.toNat) (b.take k.toNat)
  rw [lookR_eq, List.map_take, List.map_take] at hl
  generalize lookS m ta tb (a.take n.toNat) (b.take k.toNat) = r at hl hle ⊢
  obtain ⟨e, ⟨hs, pd, al⟩, ⟨h2', pd2, al2⟩⟩ := r
  simp only [Sd.t, sdT_eq] at hl hle ⊢
  cases he : e != 0 with
  | true =>
   simp only [cond_true, vwT, he]
   exact ViewR_err tc ta tb to ts te td tf tr tl tg n k e tx (a.map Msg.t) (b.map Msg.t) xa xb _ _ _ _ pd al pd2 al2 (by omega) (by simp; omega) (by omega) (by simp; omega) he hl
  | false =>
   obtain rfl : e = 0 := by simpa using he
   have hlen : ((hs.map (hT ta)).length + (h2'.map (hT tb)).length) * 64 ≤ 140737488355328 := by simp only [List.length_map]; omega
   have hv := view_ok tc ta tb to ts te td tf tr tl tg tx (hs.map (hT ta)) (h2'.map (hT tb)) hs.isEmpty h2'.isEmpty pd al pd2 al2 hlen
   have go : ∀ (ra rb f : Int) (fr : Bool) (rh : List T), viewR ts te (hs.map (hT ta)) (h2'.map (hT tb)) pd al pd2 al2 = [.agg [.int .i64 ra, .int .i64 rb, .lst fr 36 rh], .int .i64 f] →
     PCall Try.prog 47 [trT tc ta tb to ts te td tf tr tl tg tx, .lst xa 137 (a.map Msg.t), .lst xb 137 (b.map Msg.t), .int .i64 n, .int .i64 k] [.agg [.int .i64 ra, .int .i64 rb, .lst fr 36 rh], .int .i64 f] := fun ra rb f fr rh e1 => by
    rw [e1] at hv
    exact ViewR_go tc ta tb to ts te td tf tr tl tg n k tx (a.map Msg.t) (b.map Msg.t) xa xb _ _ fr _ _ rh pd al pd2 al2 ra rb f (by omega) (by simp; omega) (by omega) (by simp; omega) hl hv
   unfold viewR viewE at go
   unfold viewS
   simp only [List.length_map] at go
   simp only [cond_false]
   cases c1 : decide (leftI ts al pd2 < 0) with
   | true => rw [c1] at go; exact go 0 0 152 true [] rfl
   | false =>
    rw [c1] at go
    cases c2 : decide (leftI te al2 pd < 0) with
    | true => rw [c2] at go; exact go 0 0 152 true [] rfl
    | false =>
     rw [c2] at go
     cases c3 : decide ((hs.length : Int) > 16) with
     | true => rw [c3] at go; exact go 0 0 150 true [] rfl
     | false =>
      rw [c3] at go
      cases c4 : decide ((h2'.length : Int) > 16) with
      | true => rw [c4] at go; exact go 0 0 150 true [] rfl
      | false =>
       rw [c4] at go
       have g := go _ _ _ _ _ rfl
       rw [hT_map, hT_map, ← List.map_append] at g
       exact g
end Go.HM.Up
set_option maxRecDepth 100000
namespace Go.HM.Up
open Go.Proofs
def okU (us : List Msg) : Prop := ∀ (i : Nat) (m : Msg), us[i]? = some m → m.id = (i : Int) ∧ 1 ≤ m.am ∧ m.am ≤ 9223372036854775807
theorem okU_snoc {us : List Msg} {m : Msg} (h : okU us) (h1 : m.id = (us.length : Int)) (h2 : 1 ≤ m.am) (h3 : m.am ≤ 9223372036854775807) : okU (us ++ [m]) := by
 intro i x hx
 rcases Nat.lt_trichotomy i us.length with q | q | q
 ·rw [List.getElem?_append_left q] at hx; exact h i x hx
 ·subst q; simp at hx; subst hx; exact ⟨h1, h2, h3⟩
 ·rw [List.getElem?_eq_none (by simp; omega)] at hx; cases hx
theorem rd_ok : ∀ (r acc vs : List Msg), (∀ m ∈ r, m.am ≤ 9223372036854775807) → okU acc → rd r acc = some vs → okU vs
 | [], acc, vs, _, ho, h => by simp only [rd, Option.some.injEq] at h; rw [← h]; exact ho
 | m :: r, acc, vs, hr, ho, h => by
  simp only [rd] at h
  cases c1 : m.kd == 1 with
  | true =>
   rw [c1] at h
   cases c2 : badM m acc.length with
   | true => simp only [c2, cond_true] at h; cases h
   | false =>
    simp only [c2, cond_true, cond_false] at h
    simp only [badM, Bool.or_eq_false_iff, decide_eq_false_iff_not, bne_eq_false_iff_eq] at c2
    exact rd_ok r _ vs (fun x hx => hr x (by simp [hx])) (okU_snoc ho c2.2 (by omega) (hr m (by simp))) h
  | false =>
   rw [c1] at h
   cases c2 : (m.kd == 2 || m.kd == 3) with
   | true => simp only [c2, cond_true, cond_false] at h; exact rd_ok r acc vs (fun x hx => hr x (by simp [hx])) ho h
   | false => simp only [c2, cond_false] at h; cases h
theorem okU_pw {us : List Msg} (h : okU us) : us.Pairwise (fun x y => x.id < y.id) := by
 rw [List.pairwise_iff_getElem]
 intro i j hi hj hij
 have a := h i us[i] (List.getElem?_eq_getElem hi)
 have b := h j us[j] (List.getElem?_eq_getElem hj)
 omega
theorem okU_mem {us : List Msg} (h : okU us) : ∀ m ∈ us, 1 ≤ m.am ∧ m.am ≤ 9223372036854775807 := by
 intro m hm
 obtain ⟨i, hi, e⟩ := List.getElem_of_mem hm
 exact (h i m (by rw [List.getElem?_eq_getElem hi, e])).2
def sumA (l : List Msg) : Int := (l.map (·.am)).sum
theorem sumA_nonneg : ∀ (l : List Msg), (∀ m ∈ l, 1 ≤ m.am) → 0 ≤ sumA l
 | [], _ => by simp [sumA]
 | m :: l, h => by
  have := h m (by simp)
  have := sumA_nonneg l (fun y hy => h y (by simp [hy]))
  simp only [sumA, List.map_cons, List.sum_cons] at *
  omega
theorem sumA_snoc (l : List Msg) (m : Msg) : sumA (l ++ [m]) = sumA l + m.am := by simp [sumA]
theorem add_of {a b : Int} (h0 : 0 ≤ a) (h1 : a ≤ 9223372036854775807) (hb0 : 1 ≤ b) (hb1 : b ≤ 9223372036854775807) (h : ((Deal.add a b).2 != 0) = false) : a + b ≤ 9223372036854775807 ∧ (Deal.add a b).1 = a + b := by
 unfold Deal.add at h ⊢
 rw [show (decide (a < 0) || decide (b < 0)) = false by simp; omega] at h ⊢
 rw [w64 (n := 9223372036854775807 - b) (by omega) (by omega)] at h ⊢
 cases c2 : decide (a > 9223372036854775807 - b) with
 | true => rw [c2] at h; cases h
 | false =>
  simp only [decide_eq_false_iff_not] at c2
  refine ⟨by omega, ?_⟩
  simp only [cond_false]
  exact w64 (by omega) (by omega)
theorem ofG_facts (ns : List (Int × Int)) (wh : Int) : ∀ (us hs : List Msg) (pd al : Int) (r : List Msg × Int × Int), (∀ m ∈ us, 1 ≤ m.am ∧ m.am ≤ 9223372036854775807) → (∀ m ∈ hs, 1 ≤ m.am) → 0 ≤ pd → al = pd + sumA hs → al ≤ 9223372036854775807 →
  ofG ns wh us hs pd al = some r → 0 ≤ r.2.1 ∧ r.2.2 = r.2.1 + sumA r.1 ∧ r.2.2 ≤ 9223372036854775807 ∧ (∃ L, r.1 = hs ++ L ∧ L.Sublist us) ∧ ∀ m ∈ r.1, 1 ≤ m.am
 | [], hs, pd, al, r, _, hh, h0, he, hM, h => by
  simp only [ofG, Option.some.injEq] at h
  subst h
  exact ⟨h0, he, hM, ⟨[], by simp, List.Sublist.slnil⟩, hh⟩
 | m :: us, hs, pd, al, r, hu, hh, h0, he, hM, h => by
  have hm := hu m (by simp)
  have hu' : ∀ x ∈ us, 1 ≤ x.am ∧ x.am ≤ 9223372036854775807 := fun x hx => hu x (by simp [hx])
  have hs0 := sumA_nonneg hs hh
  simp only [ofG] at h
  cases c1 : look ns m.id == 3 with
  | true =>
   rw [c1] at h
   obtain ⟨a, b, c, ⟨L, d, e⟩, f⟩ := ofG_facts ns wh us hs pd al r hu' hh h0 he hM h
   exact ⟨a, b, c, ⟨L, d, e.cons m⟩, f⟩
  | false =>
   rw [c1] at h
   cases c2 : (Deal.add al m.am).2 != 0 with
   | true => rw [c2] at h; cases h
   | false =>
    rw [c2] at h
    obtain ⟨k1, k2⟩ := add_of (by omega) hM hm.1 hm.2 c2
    rw [k2] at h
    cases c3 : look ns m.id == 2 with
    | true =>
     rw [c3] at h
     simp only [cond_false, cond_true] at h
     rw [w64 (n := pd + m.am) (by omega) (by omega)] at h
     obtain ⟨a, b, c, ⟨L, d, e⟩, f⟩ := ofG_facts ns wh us hs (pd + m.am) (al + m.am) r hu' hh (by omega) (by omega) k1 h
     exact ⟨a, b, c, ⟨L, d, e.cons m⟩, f⟩
    | false =>
     rw [c3] at h
     simp only [cond_false] at h
     obtain ⟨a, b, c, ⟨L, d, e⟩, f⟩ := ofG_facts ns wh us (hs ++ [m]) pd (al + m.am) r hu' (fun x hx => by
      rcases List.mem_append.1 hx with q | q
      ·exact hh x q
      ·simp at q; subst q; exact hm.1) h0 (by rw [sumA_snoc]; omega) k1 h
     exact ⟨a, b, c, ⟨m :: L, by rw [d]; simp, e.cons_cons m⟩, f⟩
structure SdOk (s : Sd) : Prop where
 pd : 0 ≤ s.pd
 al : s.al = s.pd + sumA s.hs
 most : s.al ≤ 9223372036854775807
 pw : s.hs.Pairwise (fun x y => x.id < y.id)
 pos : ∀ m ∈ s.hs, 1 ≤ m.am
theorem sdOk_of {ns : List (Int × Int)} {wh : Int} {us : List Msg} {r : List Msg × Int × Int} (hu : okU us) (h : ofG ns wh us [] 0 0 = some r) : SdOk ⟨r.1, r.2.1, r.2.2⟩ := by
 obtain ⟨a, b, c, ⟨L, d, e⟩, f⟩ := ofG_facts ns wh us [] 0 0 r (okU_mem hu) (by simp) (by omega) (by simp [sumA]) (by omega) h
 simp only [List.nil_append] at d
 exact ⟨a, b, c, by rw [d]; exact (okU_pw hu).sublist e, f⟩
theorem lookS_ok {m : Bool} {ta tb : Int} {a b : List Msg} (ha : ∀ x ∈ a, x.am ≤ 9223372036854775807) (hb : ∀ x ∈ b, x.am ≤ 9223372036854775807) (h : (lookS m ta tb a b).1 = 0) :
  m = true ∧ SdOk (lookS m ta tb a b).2.1 ∧ SdOk (lookS m ta tb a b).2.2 := by
 unfold lookS at h ⊢
 cases m with
 | false => cases h
 | true => cases ea : rd a [] with
  | none => rw [ea] at h; cases h
  | some p => cases eb : rd b [] with
   | none => rw [ea, eb] at h; cases h
   | some q =>
    rw [ea, eb] at h
    simp only at h ⊢
    have hp := rd_ok a [] p ha (fun i m e => by simp at e) ea
    have hq := rd_ok b [] q hb (fun i m e => by simp at e) eb
    revert h
    cases stl ((q.map Msg.t).length : Int) a [] with
    | none => intro h; cases h
    | some mp =>
     simp only
     cases stl ((p.map Msg.t).length : Int) b [] with
     | none => intro h; cases h
     | some mq =>
      simp only
      cases e1 : ofG mq ta p [] 0 0 with
      | none => intro h; cases h
      | some x =>
       have k1 := sdOk_of hp e1
       obtain ⟨hs, pd, al⟩ := x
       simp only
       cases e2 : ofG mp tb q [] 0 0 with
       | none => intro h; cases h
       | some y =>
        have k2 := sdOk_of hq e2
        obtain ⟨h2, pd2, al2⟩ := y
        exact fun _ => ⟨trivial, k1, k2⟩
def sumH (l : List H) : Int := (l.map (·.hm)).sum
theorem sumH_app (l r : List H) : sumH (l ++ r) = sumH l + sumH r := by simp [sumH]
theorem sumH_hH (wh : Int) (l : List Msg) : sumH (l.map (hH wh)) = sumA l := by simp only [sumH, sumA, List.map_map]; rfl
theorem sumH_nonneg : ∀ (l : List H), (∀ m ∈ l, 1 ≤ m.hm) → 0 ≤ sumH l
 | [], _ => by simp [sumH]
 | m :: l, h => by
  have := h m (by simp)
  have := sumH_nonneg l (fun y hy => h y (by simp [hy]))
  simp only [sumH, List.map_cons, List.sum_cons] at *
  omega
theorem leftI_eq {st al pd : Int} (h0 : 0 ≤ st) (h1 : st ≤ 9223372036854775807) (ha : 0 ≤ al) (ha1 : al ≤ 9223372036854775807) (hp : 0 ≤ pd) (hp1 : pd ≤ 9223372036854775807) (h : (decide (leftI st al pd < 0)) = false) : leftI st al pd = st - al + pd := by
 simp only [decide_eq_false_iff_not] at h
 unfold leftI at h ⊢
 rw [w64 (n := st - al) (by omega) (by omega)] at h ⊢
 cases c : decide (st - al > 0) with
 | true =>
  simp only [decide_eq_true_eq] at c
  rw [show decide (st - al > 0) = true by simpa using c] at h
  simp only [cond_true] at h ⊢
  rw [IntKind.wrap_i64] at h ⊢
  omega
 | false =>
  simp only [decide_eq_false_iff_not] at c
  simp only [cond_false]
  rw [w64 (by omega) (by omega)]
  omega
def keyD (z : List H) : Prop := z.Pairwise (fun x y => ¬ (x.hb = y.hb ∧ x.hi = y.hi))
structure ViewOk (ts te ra rb : Int) (z : List H) : Prop where
 a : 0 ≤ ra
 b : 0 ≤ rb
 sum : ra + rb + sumH z = ts + te
 key : keyD z
 pos : ∀ h ∈ z, 1 ≤ h.hm
 few : z.length ≤ 32
theorem vwS_ok {m : Bool} {ta tb ts te n k : Int} {a b : List Msg} (ha : ∀ x ∈ a, x.am ≤ 9223372036854775807) (hb : ∀ x ∈ b, x.am ≤ 9223372036854775807)
  (hmay : m = true → ta < tb ∧ 0 ≤ ts ∧ 0 ≤ te ∧ ts + te ≤ 9223372036854775807) (h : (vwS m ta tb ts te a b n k).1 = 0) :
  m = true ∧ ViewOk ts te (vwS m ta tb ts te a b n k).2.1 (vwS m ta tb ts te a b n k).2.2.1 (vwS m ta tb ts te a b n k).2.2.2 := by
 unfold vwS at h ⊢
 cases c1 : (decide (n < 0) || decide (n > (a.length : Int)) || decide (k < 0) || decide (k > (b.length : Int))) with
 | true => rw [c1] at h; cases h
 | false =>
  rw [c1] at h
  simp only [cond_false] at h ⊢
  have hl := lookS_ok (m := m) (ta := ta) (tb := tb) (a := a.take n.toNat) (b := b.take k.toNat) (fun x hx => ha x (List.mem_of_mem_take hx)) (fun x hx => hb x (List.mem_of_mem_take hx))
  generalize lookS m ta tb (a.take n.toNat) (b.take k.toNat) = r at h hl ⊢
  obtain ⟨e, x, y⟩ := r
  simp only at h hl ⊢
  cases c2 : e != 0 with
  | true => rw [c2] at h; simp only [cond_true] at h; subst h; cases c2
  | false =>
   rw [c2] at h
   simp only [cond_false] at h ⊢
   obtain ⟨hm, hx, hy⟩ := hl (by simpa using c2)
   obtain ⟨m1, m2, m3, m4⟩ := hmay hm
   refine ⟨hm, ?_⟩
   have sx := sumA_nonneg x.hs hx.pos
   have sy := sumA_nonneg y.hs hy.pos
   have x1 := hx.pd; have x2 := hx.al; have x3 := hx.most
   have y1 := hy.pd; have y2 := hy.al; have y3 := hy.most
   unfold viewS at h ⊢
   cases d1 : decide (leftI ts x.al y.pd < 0) with
   | true => rw [d1] at h; cases h
   | false =>
    rw [d1] at h
    cases d2 : decide (leftI te y.al x.pd < 0) with
    | true => rw [d2] at h; cases h
    | false =>
     rw [d2] at h
     cases d3 : decide ((x.hs.length : Int) > 16) with
     | true => rw [d3] at h; cases h
     | false =>
      rw [d3] at h
      cases d4 : decide ((y.hs.length : Int) > 16) with
      | true => rw [d4] at h; cases h
      | false =>
       have e1 := leftI_eq (by omega) (by omega) (by omega) x3 y1 (by omega) d1
       have e2 := leftI_eq (by omega) (by omega) (by omega) y3 x1 (by omega) d2
       simp only [decide_eq_false_iff_not] at d1 d2 d3 d4
       simp only [cond_false]
       refine ⟨show 0 ≤ leftI ts x.al y.pd by omega, show 0 ≤ leftI te y.al x.pd by omega, ?_, ?_, ?_, ?_⟩
       ·show leftI ts x.al y.pd + leftI te y.al x.pd + sumH (x.hs.map (hH ta) ++ y.hs.map (hH tb)) = ts + te
        rw [sumH_app, sumH_hH, sumH_hH, e1, e2]
        omega
       ·show keyD (x.hs.map (hH ta) ++ y.hs.map (hH tb))
        refine List.pairwise_append.2 ⟨List.pairwise_map.2 (hx.pw.imp fun q w => ?_), List.pairwise_map.2 (hy.pw.imp fun q w => ?_), fun p hp q hq w => ?_⟩
        ·have := w.2; simp only [hH] at this; omega
        ·have := w.2; simp only [hH] at this; omega
        ·obtain ⟨p', _, rfl⟩ := List.mem_map.1 hp
         obtain ⟨q', _, rfl⟩ := List.mem_map.1 hq
         have := w.1; simp only [hH] at this; omega
       ·intro p hp
        rcases List.mem_append.1 hp with hp | hp
        ·obtain ⟨p', hp', rfl⟩ := List.mem_map.1 hp; exact hx.pos p' hp'
        ·obtain ⟨p', hp', rfl⟩ := List.mem_map.1 hp; exact hy.pos p' hp'
       ·show (x.hs.map (hH ta) ++ y.hs.map (hH tb)).length ≤ 32
        simp only [List.length_append, List.length_map]
        omega
end Go.HM.Up
