/- DEAL, part V: paths of DealSums (printed by a program of ours). -/
import Derived.Test.YtknieknidaikmaaDealF
import Derived.Test.YtknieknidaikmaaProg
namespace Go.HM.Deal
open Go.Proofs
theorem sm1_0 (t : Terms) (hd : Int) (p : List Int) (v : View) (f : Bool) (x : Bool) (outs : List Out) (S : Int) :
    evF Try.prog Try.f3 [t.t, i64 hd, T.ba 32 p, View.t f v] [Orc.op 1 4 (HM.Item.call [txT t.4 x outs, i64 0]), Orc.op 2 0 (HM.Item.call [T.bool true]), Orc.br false, Orc.op 4 2 (HM.Item.call [i64 S, T.bool true]), Orc.op 6 16 (Item.res true)] =
      some ([T.bool (decide (t.8 > IntKind.i64.wrap (t.5 + t.6)) || decide (S ≥ IntKind.i64.wrap (IntKind.i64.wrap (t.5 + t.6) - t.8)))], [(true && (↑(List.map Out.t outs).length : Int) == IntKind.i64.wrap (2 + (↑(List.map Htlc.t v.3).length : Int)) && decide (S ≤ IntKind.i64.wrap (t.5 + t.6))) = true, PCall Try.prog 9 [T.int IntKind.i64 8, T.lst x 2 (List.map Out.t outs)] [i64 S, T.bool true], false = false, PCall Try.prog 8 [] [T.bool true], PCall Try.prog 7 [T.agg [i64 t.1, i64 t.2, i64 t.3, t.4.t, i64 t.5, i64 t.6, i64 t.7, i64 t.8, i64 t.9, i64 t.10, i64 t.11], i64 hd, T.ba 32 p, T.agg [i64 v.1, i64 v.2, T.lst f 36 (List.map Htlc.t v.3)]] [txT t.4 x outs, i64 0]]) := by kernel_rfl
theorem sm1_1 (t : Terms) (hd : Int) (p : List Int) (v : View) (f : Bool) (x : Bool) (outs : List Out) (S : Int) :
    evF Try.prog Try.f3 [t.t, i64 hd, T.ba 32 p, View.t f v] [Orc.op 1 4 (HM.Item.call [txT t.4 x outs, i64 0]), Orc.op 2 0 (HM.Item.call [T.bool true]), Orc.br false, Orc.op 4 2 (HM.Item.call [i64 S, T.bool true]), Orc.op 6 16 (Item.res false)] =
      some ([T.bool false], [(true && (↑(List.map Out.t outs).length : Int) == IntKind.i64.wrap (2 + (↑(List.map Htlc.t v.3).length : Int)) && decide (S ≤ IntKind.i64.wrap (t.5 + t.6))) = false, PCall Try.prog 9 [T.int IntKind.i64 8, T.lst x 2 (List.map Out.t outs)] [i64 S, T.bool true], false = false, PCall Try.prog 8 [] [T.bool true], PCall Try.prog 7 [T.agg [i64 t.1, i64 t.2, i64 t.3, t.4.t, i64 t.5, i64 t.6, i64 t.7, i64 t.8, i64 t.9, i64 t.10, i64 t.11], i64 hd, T.ba 32 p, T.agg [i64 v.1, i64 v.2, T.lst f 36 (List.map Htlc.t v.3)]] [txT t.4 x outs, i64 0]]) := by kernel_rfl
theorem sm2_0 (t : Terms) (hd : Int) (p : List Int) (v : View) (f : Bool) :
    evF Try.prog Try.f3 [t.t, i64 hd, T.ba 32 p, View.t f v] [Orc.op 1 4 (HM.Item.call [emptyTx, i64 1]), Orc.op 2 0 (HM.Item.call [T.bool true]), Orc.br true, Orc.op 3 0 (HM.Item.call [T.bool true])] =
      some ([T.bool true], [PCall Try.prog 8 [] [T.bool true], true = true, PCall Try.prog 8 [] [T.bool true], PCall Try.prog 7 [T.agg [i64 t.1, i64 t.2, i64 t.3, t.4.t, i64 t.5, i64 t.6, i64 t.7, i64 t.8, i64 t.9, i64 t.10, i64 t.11], i64 hd, T.ba 32 p, T.agg [i64 v.1, i64 v.2, T.lst f 36 (List.map Htlc.t v.3)]] [emptyTx, i64 1]]) := by kernel_rfl
end Go.HM.Deal
