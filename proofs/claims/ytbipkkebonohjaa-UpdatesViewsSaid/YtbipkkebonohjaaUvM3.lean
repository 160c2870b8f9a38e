/- UP, third part: the document's functions of layer 15; the plain law; the law joined (runs printed by a small program out of the runs themselves). -/
import Derived.Test.YtbipkkebonohjaaUvM2
import Derived.Test.YtbipkkebonohjaaDcM2
import Derived.Test.YtbipkkebonohjaaKecM
import Derived.Test.YtbipkkebonohjaaHmRow
import Derived.SizedLaws
set_option maxRecDepth 100000
namespace Go.HM.Up
open Go.Proofs
noncomputable def Cv (els : List ((Nat × Nat) × T)) (tl : List Nat) : GCtx := { Ch els tl with owe := oweAt [("ref.go:124", [(3, 12), (3, 13), (8, 12), (8, 13)]), ("ref.go:136", [(4, 5), (4, 8), (4, 10), (7, 5), (7, 8), (7, 10)])] }
theorem Cv_ok (els : List ((Nat × Nat) × T)) (tl : List Nat) : KOk (Cv els tl) := ⟨names_ok, fun _ _ _ h => (by cases h), fun _ _ _ _ _ h => (by cases h)⟩
def mZ : Msg := ⟨0, 0, 0, 0, 0, [], true, [], [], [], [], 0, 0, true, []⟩
def clamp (n : Int) (k : Nat) : Int := if (0 : Int) > (if ((k : Int) : Int) < n then (k : Int) else n) then 0 else (if ((k : Int) : Int) < n then (k : Int) else n)
def qV0 (hs : List T) (pd al : Int) (g : Msg) : List SObj := [.box (.agg [.row 3 0 (.lst false 36 hs), .p (.int .i64 pd), .p (.int .i64 al), .p (.bool true)]), .box (.agg [.row 3 0 (.lst false 36 hs), .p (.int .i64 pd), .p (.int .i64 al), .p (.bool true)]), .box (.p (g.t)), .row 0 36]
def qV1 (hs : List T) (pd al : Int) (g m : Msg) : List SObj := [.box (.p (.agg [.lst true 36 [], .int .i64 0, .int .i64 0, .bool false])), .box (.agg [.row 3 0 (.lst false 36 hs), .p (.int .i64 pd), .p (.int .i64 al), .p (.bool false)]), .box (.p (g.t)), .row 0 36, .box (.p (m.t))]
def qV2 (hs : List T) (pd al : Int) (g : Msg) : List SObj := [.box (.p (.agg [.lst true 36 [], .int .i64 0, .int .i64 0, .bool false])), .box (.agg [.row 3 0 (.lst false 36 hs), .p (.int .i64 pd), .p (.int .i64 al), .p (.bool false)]), .box (.p (g.t)), .row 0 36]
def qV3 (pd al : Int) (m : Msg) : List SObj := [.box (.p (.agg [.lst true 36 [], .int .i64 0, .int .i64 0, .bool false])), .box (.p (.agg [.lst true 36 [], .int .i64 pd, .int .i64 al, .bool false])), .box (.p (m.t))]
def qV4 (pd al : Int) : List SObj := [.box (.p (.agg [.lst true 36 [], .int .i64 0, .int .i64 0, .bool false])), .box (.p (.agg [.lst true 36 [], .int .i64 pd, .int .i64 al, .bool false]))]
def qV5 (pd al : Int) : List SObj := [.box (.p (.agg [.lst true 36 [], .int .i64 pd, .int .i64 al, .bool true])), .box (.p (.agg [.lst true 36 [], .int .i64 pd, .int .i64 al, .bool true]))]
def qV6 : List SObj := [.box (.p (.agg [.lst true 36 [], .int .i64 0, .int .i64 0, .bool false])), .box (.p (.agg [.lst true 36 [], .int .i64 0, .int .i64 0, .bool false]))]
theorem rAddsB_0 (m : Msg) (n k i : Int) (ls : List T) (x : Bool): bodyK (Cv [((89, 18), m.t)] []) 30 52 0 (loopAt Try.f52 0) ⟨27, [(0, .p (.lst x 137 ls)), (1, .p (.int .i64 n)), (5, .p (.int .i64 k)), (6, .p (.int .i64 i))], []⟩ [(0, true), (0, true), (0, true)] [] [0, 1, 5, 6] [] [] [] = some (.normal, ⟨27, [(6, .p (.int .i64 (IntKind.i64.wrap (i + 1)))), (5, .p (.int .i64 (IntKind.i64.wrap (k + 1)))), (1, .p (.int .i64 n)), (0, .p (.lst x 137 ls))], []⟩, [(m.kd == 1) = true, (0 : Int) ≤ i ∧ ls[(i : Int).toNat]? = some (m.t), decide (i < ((ls).length : Int)) = true, decide (i < n) = true]) := by kernel_rfl
theorem rAddsB_1 (m : Msg) (n k i : Int) (ls : List T) (x : Bool): bodyK (Cv [((89, 18), m.t)] []) 30 52 0 (loopAt Try.f52 0) ⟨27, [(0, .p (.lst x 137 ls)), (1, .p (.int .i64 n)), (5, .p (.int .i64 k)), (6, .p (.int .i64 i))], []⟩ [(0, false)] [] [0, 1, 5, 6] [] [] [] = some (.exit 0, ⟨27, [(1, .p (.int .i64 n)), (6, .p (.int .i64 i)), (0, .p (.lst x 137 ls)), (5, .p (.int .i64 k))], []⟩, [decide (i < n) = false]) := by kernel_rfl
theorem rAddsB_2 (m : Msg) (n k i : Int) (ls : List T) (x : Bool): bodyK (Cv [((89, 18), m.t)] []) 30 52 0 (loopAt Try.f52 0) ⟨27, [(0, .p (.lst x 137 ls)), (1, .p (.int .i64 n)), (5, .p (.int .i64 k)), (6, .p (.int .i64 i))], []⟩ [(0, true), (0, false)] [] [0, 1, 5, 6] [] [] [] = some (.exit 0, ⟨27, [(1, .p (.int .i64 n)), (6, .p (.int .i64 i)), (0, .p (.lst x 137 ls)), (5, .p (.int .i64 k))], []⟩, [decide (i < ((ls).length : Int)) = false, decide (i < n) = true]) := by kernel_rfl
theorem rAddsB_3 (m : Msg) (n k i : Int) (ls : List T) (x : Bool): bodyK (Cv [((89, 18), m.t)] []) 30 52 0 (loopAt Try.f52 0) ⟨27, [(0, .p (.lst x 137 ls)), (1, .p (.int .i64 n)), (5, .p (.int .i64 k)), (6, .p (.int .i64 i))], []⟩ [(0, true), (0, true), (0, false)] [] [0, 1, 5, 6] [] [] [] = some (.normal, ⟨27, [(6, .p (.int .i64 (IntKind.i64.wrap (i + 1)))), (1, .p (.int .i64 n)), (0, .p (.lst x 137 ls)), (5, .p (.int .i64 k))], []⟩, [(m.kd == 1) = false, (0 : Int) ≤ i ∧ ls[(i : Int).toNat]? = some (m.t), decide (i < ((ls).length : Int)) = true, decide (i < n) = true]) := by kernel_rfl
theorem rAddsE (n k i : Int) (ls : List T) (x : Bool): topK (Cv [] []) 30 52 [] [.p (.lst x 137 ls), .p (.int .i64 n)] [] [some ([0, 1, 5, 6], .exit 0, ⟨27, [(0, .p (.lst x 137 ls)), (1, .p (.int .i64 n)), (5, .p (.int .i64 k)), (6, .p (.int .i64 i))], []⟩)] [] [] [] = some ([.p (.int .i64 k)], [], [LoopG Try.prog 0 (loopAt Try.f52 0) ⟨27, [(6, .p (.int .i64 0)), (5, .p (.int .i64 0)), (0, .p (.lst x 137 ls)), (1, .p (.int .i64 n))], []⟩ (.exit 0) ⟨27, [(0, .p (.lst x 137 ls)), (1, .p (.int .i64 n)), (5, .p (.int .i64 k)), (6, .p (.int .i64 i))], []⟩]) := by kernel_rfl
theorem AddsB_0 (m : Msg) (k i : Int) (lc : List T) (x : Bool): bodyK (Cv [((89, 14), m.t)] []) 30 51 0 (loopAt Try.f51 0) ⟨27, [(5, .p (.int .i64 k)), (14, .p (.lst x 137 lc)), (15, .p (.int .i64 ((lc).length : Int))), (16, .p (.int .i64 i))], []⟩ [(0, true), (0, true)] [] [4, 5, 14, 15, 16] [] [] [] = some (.normal, ⟨27, [(16, .p (.int .i64 (IntKind.i64.wrap (i + 1)))), (5, .p (.int .i64 (IntKind.i64.wrap (k + 1)))), (15, .p (.int .i64 ((lc).length : Int))), (14, .p (.lst x 137 lc))], [.box (.p (m.t))]⟩, [(m.kd == 1) = true, (0 : Int) ≤ i ∧ lc[(i : Int).toNat]? = some (m.t), decide (i < ((lc).length : Int)) = true]) := by kernel_rfl
theorem AddsB_1 (m : Msg) (k i : Int) (lc : List T) (x : Bool): bodyK (Cv [((89, 14), m.t)] []) 30 51 0 (loopAt Try.f51 0) ⟨27, [(5, .p (.int .i64 k)), (14, .p (.lst x 137 lc)), (15, .p (.int .i64 ((lc).length : Int))), (16, .p (.int .i64 i))], []⟩ [(0, false)] [] [4, 5, 14, 15, 16] [] [] [] = some (.exit 0, ⟨27, [(15, .p (.int .i64 ((lc).length : Int))), (16, .p (.int .i64 i)), (14, .p (.lst x 137 lc)), (5, .p (.int .i64 k))], []⟩, [decide (i < ((lc).length : Int)) = false]) := by kernel_rfl
theorem AddsB_2 (m : Msg) (k i : Int) (lc : List T) (x : Bool): bodyK (Cv [((89, 14), m.t)] []) 30 51 0 (loopAt Try.f51 0) ⟨27, [(5, .p (.int .i64 k)), (14, .p (.lst x 137 lc)), (15, .p (.int .i64 ((lc).length : Int))), (16, .p (.int .i64 i))], []⟩ [(0, true), (0, false)] [] [4, 5, 14, 15, 16] [] [] [] = some (.normal, ⟨27, [(16, .p (.int .i64 (IntKind.i64.wrap (i + 1)))), (15, .p (.int .i64 ((lc).length : Int))), (14, .p (.lst x 137 lc)), (5, .p (.int .i64 k))], [.box (.p (m.t))]⟩, [(m.kd == 1) = false, (0 : Int) ≤ i ∧ lc[(i : Int).toNat]? = some (m.t), decide (i < ((lc).length : Int)) = true]) := by kernel_rfl
theorem AddsE (n k i : Int) (ls : List T) (x : Bool): topK (Cv [] []) 30 51 [] [.p (.lst x 137 ls), .p (.int .i64 n)] [] [some ([5, 14, 15, 16], .exit 0, ⟨27, [(5, .p (.int .i64 k)), (14, .p (.lst (x && ((clamp n ls.length).toNat == ls.length)) 137 (List.drop 0 (List.take (clamp n ls.length).toNat ls)))), (15, .p (.int .i64 (((List.drop 0 (List.take (clamp n ls.length).toNat ls))).length : Int))), (16, .p (.int .i64 i))], []⟩)] [] [] [.cut 0 (clamp n ls.length).toNat] = some ([.p (.int .i64 k)], [], [LoopG Try.prog 0 (loopAt Try.f51 0) ⟨27, [(16, .p (.int .i64 0)), (15, .p (.int .i64 (((List.drop 0 (List.take (clamp n ls.length).toNat ls))).length : Int))), (14, .p (.lst (x && ((clamp n ls.length).toNat == ls.length)) 137 (List.drop 0 (List.take (clamp n ls.length).toNat ls)))), (5, .p (.int .i64 0))], []⟩ (.exit 0) ⟨27, [(5, .p (.int .i64 k)), (14, .p (.lst (x && ((clamp n ls.length).toNat == ls.length)) 137 (List.drop 0 (List.take (clamp n ls.length).toNat ls)))), (15, .p (.int .i64 (((List.drop 0 (List.take (clamp n ls.length).toNat ls))).length : Int))), (16, .p (.int .i64 i))], []⟩, (0 : Nat) = 0, (clamp n ls.length) = (((clamp n ls.length).toNat : Nat) : Int), 0 ≤ (clamp n ls.length).toNat, (clamp n ls.length).toNat ≤ ls.length]) := by kernel_rfl
theorem rightB_0 (m : Msg) (n k i : Int) (ls : List T) (x : Bool): bodyK (Cv [((89, 13), m.t)] []) 30 106 0 (loopAt Try.f106 0) ⟨62, [(0, .p (.lst x 137 ls)), (1, .p (.int .i64 n)), (5, .p (.int .i64 k)), (6, .p (.int .i64 i))], []⟩ [(0, true), (0, false), (0, false), (0, true), (0, false), (0, false), (0, false), (0, false), (0, false), (0, true)] [] [0, 1, 4, 5, 6] [] [] [] = some (.normal, ⟨62, [(6, .p (.int .i64 (IntKind.i64.wrap (i + 1)))), (5, .p (.int .i64 (IntKind.i64.wrap (k + 1)))), (0, .p (.lst x 137 ls)), (1, .p (.int .i64 n))], [.box (.p (m.t))]⟩, [(m.kd == 1) = true, (m.id != k) = false, ((m.hh) == zeros) = false, decide (m.ex > 2147483647) = false, decide (m.ex < 0) = false, decide (m.am < 1) = false, (m.kd == 1) = true, decide (m.kd > 3) = false, decide (m.kd < 1) = false, (0 : Int) ≤ i ∧ ls[(i : Int).toNat]? = some (m.t), decide (i < n) = true]) := by kernel_rfl
theorem rightB_1 (m : Msg) (n k i : Int) (ls : List T) (x : Bool): bodyK (Cv [((89, 13), m.t)] []) 30 106 0 (loopAt Try.f106 0) ⟨62, [(0, .p (.lst x 137 ls)), (1, .p (.int .i64 n)), (5, .p (.int .i64 k)), (6, .p (.int .i64 i))], []⟩ [(0, false)] [] [0, 1, 4, 5, 6] [] [] [] = some (.exit 0, ⟨62, [(0, .p (.lst x 137 ls)), (1, .p (.int .i64 n)), (5, .p (.int .i64 k)), (6, .p (.int .i64 i))], []⟩, [decide (i < n) = false]) := by kernel_rfl
theorem rightB_2 (m : Msg) (n k i : Int) (ls : List T) (x : Bool): bodyK (Cv [((89, 13), m.t)] []) 30 106 0 (loopAt Try.f106 0) ⟨62, [(0, .p (.lst x 137 ls)), (1, .p (.int .i64 n)), (5, .p (.int .i64 k)), (6, .p (.int .i64 i))], []⟩ [(0, true), (0, true)] [] [0, 1, 4, 5, 6] [] [] [] = some (.ret, ⟨62, [(4, .rb false)], [.box (.p (m.t))]⟩, [decide (m.kd < 1) = true, (0 : Int) ≤ i ∧ ls[(i : Int).toNat]? = some (m.t), decide (i < n) = true]) := by kernel_rfl
theorem rightB_3 (m : Msg) (n k i : Int) (ls : List T) (x : Bool): bodyK (Cv [((89, 13), m.t)] []) 30 106 0 (loopAt Try.f106 0) ⟨62, [(0, .p (.lst x 137 ls)), (1, .p (.int .i64 n)), (5, .p (.int .i64 k)), (6, .p (.int .i64 i))], []⟩ [(0, true), (0, false), (0, true)] [] [0, 1, 4, 5, 6] [] [] [] = some (.ret, ⟨62, [(4, .rb false)], [.box (.p (m.t))]⟩, [decide (m.kd > 3) = true, decide (m.kd < 1) = false, (0 : Int) ≤ i ∧ ls[(i : Int).toNat]? = some (m.t), decide (i < n) = true]) := by kernel_rfl
theorem rightB_5 (m : Msg) (n k i : Int) (ls : List T) (x : Bool): bodyK (Cv [((89, 13), m.t)] []) 30 106 0 (loopAt Try.f106 0) ⟨62, [(0, .p (.lst x 137 ls)), (1, .p (.int .i64 n)), (5, .p (.int .i64 k)), (6, .p (.int .i64 i))], []⟩ [(0, true), (0, false), (0, false), (0, false), (0, false)] [] [0, 1, 4, 5, 6] [] [] [] = some (.normal, ⟨62, [(6, .p (.int .i64 (IntKind.i64.wrap (i + 1)))), (0, .p (.lst x 137 ls)), (1, .p (.int .i64 n)), (5, .p (.int .i64 k))], [.box (.p (m.t))]⟩, [(m.kd == 1) = false, (m.kd == 1) = false, decide (m.kd > 3) = false, decide (m.kd < 1) = false, (0 : Int) ≤ i ∧ ls[(i : Int).toNat]? = some (m.t), decide (i < n) = true]) := by kernel_rfl
theorem rightB_6 (m : Msg) (n k i : Int) (ls : List T) (x : Bool): bodyK (Cv [((89, 13), m.t)] []) 30 106 0 (loopAt Try.f106 0) ⟨62, [(0, .p (.lst x 137 ls)), (1, .p (.int .i64 n)), (5, .p (.int .i64 k)), (6, .p (.int .i64 i))], []⟩ [(0, true), (0, false), (0, false), (0, true), (0, true)] [] [0, 1, 4, 5, 6] [] [] [] = some (.ret, ⟨62, [(4, .rb false)], [.box (.p (m.t))]⟩, [decide (m.am < 1) = true, (m.kd == 1) = true, decide (m.kd > 3) = false, decide (m.kd < 1) = false, (0 : Int) ≤ i ∧ ls[(i : Int).toNat]? = some (m.t), decide (i < n) = true]) := by kernel_rfl
theorem rightB_7 (m : Msg) (n k i : Int) (ls : List T) (x : Bool): bodyK (Cv [((89, 13), m.t)] []) 30 106 0 (loopAt Try.f106 0) ⟨62, [(0, .p (.lst x 137 ls)), (1, .p (.int .i64 n)), (5, .p (.int .i64 k)), (6, .p (.int .i64 i))], []⟩ [(0, true), (0, false), (0, false), (0, true), (0, false), (0, true)] [] [0, 1, 4, 5, 6] [] [] [] = some (.ret, ⟨62, [(4, .rb false)], [.box (.p (m.t))]⟩, [decide (m.ex < 0) = true, decide (m.am < 1) = false, (m.kd == 1) = true, decide (m.kd > 3) = false, decide (m.kd < 1) = false, (0 : Int) ≤ i ∧ ls[(i : Int).toNat]? = some (m.t), decide (i < n) = true]) := by kernel_rfl
theorem rightB_8 (m : Msg) (n k i : Int) (ls : List T) (x : Bool): bodyK (Cv [((89, 13), m.t)] []) 30 106 0 (loopAt Try.f106 0) ⟨62, [(0, .p (.lst x 137 ls)), (1, .p (.int .i64 n)), (5, .p (.int .i64 k)), (6, .p (.int .i64 i))], []⟩ [(0, true), (0, false), (0, false), (0, true), (0, false), (0, false), (0, true)] [] [0, 1, 4, 5, 6] [] [] [] = some (.ret, ⟨62, [(4, .rb false)], [.box (.p (m.t))]⟩, [decide (m.ex > 2147483647) = true, decide (m.ex < 0) = false, decide (m.am < 1) = false, (m.kd == 1) = true, decide (m.kd > 3) = false, decide (m.kd < 1) = false, (0 : Int) ≤ i ∧ ls[(i : Int).toNat]? = some (m.t), decide (i < n) = true]) := by kernel_rfl
theorem rightB_9 (m : Msg) (n k i : Int) (ls : List T) (x : Bool): bodyK (Cv [((89, 13), m.t)] []) 30 106 0 (loopAt Try.f106 0) ⟨62, [(0, .p (.lst x 137 ls)), (1, .p (.int .i64 n)), (5, .p (.int .i64 k)), (6, .p (.int .i64 i))], []⟩ [(0, true), (0, false), (0, false), (0, true), (0, false), (0, false), (0, false), (0, true)] [] [0, 1, 4, 5, 6] [] [] [] = some (.ret, ⟨62, [(4, .rb false)], [.box (.p (m.t))]⟩, [((m.hh) == zeros) = true, decide (m.ex > 2147483647) = false, decide (m.ex < 0) = false, decide (m.am < 1) = false, (m.kd == 1) = true, decide (m.kd > 3) = false, decide (m.kd < 1) = false, (0 : Int) ≤ i ∧ ls[(i : Int).toNat]? = some (m.t), decide (i < n) = true]) := by kernel_rfl
theorem rightB_10 (m : Msg) (n k i : Int) (ls : List T) (x : Bool): bodyK (Cv [((89, 13), m.t)] []) 30 106 0 (loopAt Try.f106 0) ⟨62, [(0, .p (.lst x 137 ls)), (1, .p (.int .i64 n)), (5, .p (.int .i64 k)), (6, .p (.int .i64 i))], []⟩ [(0, true), (0, false), (0, false), (0, true), (0, false), (0, false), (0, false), (0, false), (0, true)] [] [0, 1, 4, 5, 6] [] [] [] = some (.ret, ⟨62, [(4, .rb false)], [.box (.p (m.t))]⟩, [(m.id != k) = true, ((m.hh) == zeros) = false, decide (m.ex > 2147483647) = false, decide (m.ex < 0) = false, decide (m.am < 1) = false, (m.kd == 1) = true, decide (m.kd > 3) = false, decide (m.kd < 1) = false, (0 : Int) ≤ i ∧ ls[(i : Int).toNat]? = some (m.t), decide (i < n) = true]) := by kernel_rfl
theorem rightE (n k i : Int) (ls : List T) (x : Bool): topK (Cv [] []) 30 106 [] [.p (.lst x 137 ls), .p (.int .i64 n)] [] [some ([0, 1, 5, 6], .exit 0, ⟨62, [(0, .p (.lst x 137 ls)), (1, .p (.int .i64 n)), (5, .p (.int .i64 k)), (6, .p (.int .i64 i))], []⟩)] [] [] [] = some ([.rb true], [], [LoopG Try.prog 0 (loopAt Try.f106 0) ⟨62, [(6, .p (.int .i64 0)), (5, .p (.int .i64 0)), (0, .p (.lst x 137 ls)), (1, .p (.int .i64 n))], []⟩ (.exit 0) ⟨62, [(0, .p (.lst x 137 ls)), (1, .p (.int .i64 n)), (5, .p (.int .i64 k)), (6, .p (.int .i64 i))], []⟩]) := by kernel_rfl
theorem rightR (n : Int) (ls : List T) (x : Bool): topK (Cv [] []) 30 106 [] [.p (.lst x 137 ls), .p (.int .i64 n)] [] [some ([0, 1, 5, 6], .ret, ⟨62, [(4, .p (.bool false))], []⟩)] [] [] [] = some ([.p (.bool false)], [], [LoopG Try.prog 0 (loopAt Try.f106 0) ⟨62, [(6, .p (.int .i64 0)), (5, .p (.int .i64 0)), (0, .p (.lst x 137 ls)), (1, .p (.int .i64 n))], []⟩ (.ret) ⟨62, [(4, .p (.bool false))], []⟩]) := by kernel_rfl
theorem howB_0 (m : Msg) (n k i c : Int) (ls : List T) (x : Bool): bodyK (Cv [((89, 15), m.t), ((89, 22), m.t), ((89, 32), m.t)] []) 30 151 0 (loopAt Try.f151 0) ⟨41, [(0, .p (.lst x 137 ls)), (1, .p (.int .i64 n)), (6, .p (.int .i64 k)), (7, .p (.int .i64 c)), (8, .p (.int .i64 i))], []⟩ [(0, true), (0, true), (0, true), (0, true)] [] [0, 1, 6, 7, 8] [] [] [] = some (.normal, ⟨41, [(8, .p (.int .i64 (IntKind.i64.wrap (i + 1)))), (7, .p (.int .i64 (IntKind.i64.wrap (c + 1)))), (0, .p (.lst x 137 ls)), (1, .p (.int .i64 n)), (6, .p (.int .i64 m.kd))], []⟩, [(0 : Int) ≤ i ∧ ls[(i : Int).toNat]? = some (m.t), (c == 0) = true, (m.id == n) = true, (0 : Int) ≤ i ∧ ls[(i : Int).toNat]? = some (m.t), (m.kd != 1) = true, (0 : Int) ≤ i ∧ ls[(i : Int).toNat]? = some (m.t), decide (i < ((ls).length : Int)) = true]) := by kernel_rfl
theorem howB_1 (m : Msg) (n k i c : Int) (ls : List T) (x : Bool): bodyK (Cv [((89, 15), m.t), ((89, 22), m.t), ((89, 32), m.t)] []) 30 151 0 (loopAt Try.f151 0) ⟨41, [(0, .p (.lst x 137 ls)), (1, .p (.int .i64 n)), (6, .p (.int .i64 k)), (7, .p (.int .i64 c)), (8, .p (.int .i64 i))], []⟩ [(0, false)] [] [0, 1, 6, 7, 8] [] [] [] = some (.exit 0, ⟨41, [(8, .p (.int .i64 i)), (0, .p (.lst x 137 ls)), (1, .p (.int .i64 n)), (6, .p (.int .i64 k)), (7, .p (.int .i64 c))], []⟩, [decide (i < ((ls).length : Int)) = false]) := by kernel_rfl
theorem howB_2 (m : Msg) (n k i c : Int) (ls : List T) (x : Bool): bodyK (Cv [((89, 15), m.t), ((89, 22), m.t), ((89, 32), m.t)] []) 30 151 0 (loopAt Try.f151 0) ⟨41, [(0, .p (.lst x 137 ls)), (1, .p (.int .i64 n)), (6, .p (.int .i64 k)), (7, .p (.int .i64 c)), (8, .p (.int .i64 i))], []⟩ [(0, true), (0, false)] [] [0, 1, 6, 7, 8] [] [] [] = some (.normal, ⟨41, [(8, .p (.int .i64 (IntKind.i64.wrap (i + 1)))), (0, .p (.lst x 137 ls)), (1, .p (.int .i64 n)), (6, .p (.int .i64 k)), (7, .p (.int .i64 c))], []⟩, [(m.kd != 1) = false, (0 : Int) ≤ i ∧ ls[(i : Int).toNat]? = some (m.t), decide (i < ((ls).length : Int)) = true]) := by kernel_rfl
theorem howB_3 (m : Msg) (n k i c : Int) (ls : List T) (x : Bool): bodyK (Cv [((89, 15), m.t), ((89, 22), m.t), ((89, 32), m.t)] []) 30 151 0 (loopAt Try.f151 0) ⟨41, [(0, .p (.lst x 137 ls)), (1, .p (.int .i64 n)), (6, .p (.int .i64 k)), (7, .p (.int .i64 c)), (8, .p (.int .i64 i))], []⟩ [(0, true), (0, true), (0, false)] [] [0, 1, 6, 7, 8] [] [] [] = some (.normal, ⟨41, [(8, .p (.int .i64 (IntKind.i64.wrap (i + 1)))), (0, .p (.lst x 137 ls)), (1, .p (.int .i64 n)), (6, .p (.int .i64 k)), (7, .p (.int .i64 c))], []⟩, [(m.id == n) = false, (0 : Int) ≤ i ∧ ls[(i : Int).toNat]? = some (m.t), (m.kd != 1) = true, (0 : Int) ≤ i ∧ ls[(i : Int).toNat]? = some (m.t), decide (i < ((ls).length : Int)) = true]) := by kernel_rfl
theorem howB_4 (m : Msg) (n k i c : Int) (ls : List T) (x : Bool): bodyK (Cv [((89, 15), m.t), ((89, 22), m.t), ((89, 32), m.t)] []) 30 151 0 (loopAt Try.f151 0) ⟨41, [(0, .p (.lst x 137 ls)), (1, .p (.int .i64 n)), (6, .p (.int .i64 k)), (7, .p (.int .i64 c)), (8, .p (.int .i64 i))], []⟩ [(0, true), (0, true), (0, true), (0, false)] [] [0, 1, 6, 7, 8] [] [] [] = some (.normal, ⟨41, [(8, .p (.int .i64 (IntKind.i64.wrap (i + 1)))), (7, .p (.int .i64 (IntKind.i64.wrap (c + 1)))), (0, .p (.lst x 137 ls)), (1, .p (.int .i64 n)), (6, .p (.int .i64 k))], []⟩, [(c == 0) = false, (m.id == n) = true, (0 : Int) ≤ i ∧ ls[(i : Int).toNat]? = some (m.t), (m.kd != 1) = true, (0 : Int) ≤ i ∧ ls[(i : Int).toNat]? = some (m.t), decide (i < ((ls).length : Int)) = true]) := by kernel_rfl
theorem howE (n k i c : Int) (ls : List T) (x : Bool): topK (Cv [] []) 30 151 [] [.p (.lst x 137 ls), .p (.int .i64 n)] [] [some ([0, 1, 6, 7, 8], .exit 0, ⟨41, [(0, .p (.lst x 137 ls)), (1, .p (.int .i64 n)), (6, .p (.int .i64 k)), (7, .p (.int .i64 c)), (8, .p (.int .i64 i))], []⟩)] [] [] [] = some ([.p (.int .i64 k), .p (.int .i64 c)], [], [LoopG Try.prog 0 (loopAt Try.f151 0) ⟨41, [(8, .p (.int .i64 0)), (7, .p (.int .i64 0)), (6, .p (.int .i64 0)), (0, .p (.lst x 137 ls)), (1, .p (.int .i64 n))], []⟩ (.exit 0) ⟨41, [(0, .p (.lst x 137 ls)), (1, .p (.int .i64 n)), (6, .p (.int .i64 k)), (7, .p (.int .i64 c)), (8, .p (.int .i64 i))], []⟩]) := by kernel_rfl
theorem namedB_0 (m : Msg) (n k i c : Int) (ls : List T) (x : Bool): bodyK (Cv [((89, 19), m.t), ((89, 25), m.t), ((89, 32), m.t), ((89, 44), m.t)] [52, 151]) 30 107 0 (loopAt Try.f107 0) ⟨54, [(0, .p (.lst x 137 ls)), (5, .p (.int .i64 n)), (6, .p (.int .i64 i))], []⟩ [(0, true), (0, false), (0, false), (0, false), (0, false)] [] [0, 4, 5, 6] [] [[.int .i64 k, .int .i64 c]] [.cut 0 i.toNat] = some (.normal, ⟨54, [(6, .p (.int .i64 (IntKind.i64.wrap (i + 1)))), (5, .p (.int .i64 n)), (0, .p (.lst x 137 ls))], []⟩, [decide (c > 0) = false, PCall Try.prog 151 [.lst (x && (i.toNat == ls.length)) 137 (List.drop 0 (List.take i.toNat ls)), .int .i64 m.id] [.int .i64 k, .int .i64 c], (0 : Int) ≤ i ∧ ls[(i : Int).toNat]? = some (m.t), (0 : Nat) = 0, i = ((i.toNat : Nat) : Int), 0 ≤ i.toNat, i.toNat ≤ ls.length, decide (m.id ≥ n) = false, (0 : Int) ≤ i ∧ ls[(i : Int).toNat]? = some (m.t), decide (m.id < 0) = false, (0 : Int) ≤ i ∧ ls[(i : Int).toNat]? = some (m.t), (m.kd == 1) = false, (0 : Int) ≤ i ∧ ls[(i : Int).toNat]? = some (m.t), decide (i < ((ls).length : Int)) = true]) := by kernel_rfl
theorem namedB_1 (m : Msg) (n k i c : Int) (ls : List T) (x : Bool): bodyK (Cv [((89, 19), m.t), ((89, 25), m.t), ((89, 32), m.t), ((89, 44), m.t)] [52, 151]) 30 107 0 (loopAt Try.f107 0) ⟨54, [(0, .p (.lst x 137 ls)), (5, .p (.int .i64 n)), (6, .p (.int .i64 i))], []⟩ [(0, false)] [] [0, 4, 5, 6] [] [[.int .i64 k, .int .i64 c]] [.cut 0 i.toNat] = some (.exit 0, ⟨54, [(6, .p (.int .i64 i)), (0, .p (.lst x 137 ls)), (5, .p (.int .i64 n))], []⟩, [decide (i < ((ls).length : Int)) = false]) := by kernel_rfl
theorem namedB_2 (m : Msg) (n k i c : Int) (ls : List T) (x : Bool): bodyK (Cv [((89, 19), m.t), ((89, 25), m.t), ((89, 32), m.t), ((89, 44), m.t)] [52, 151]) 30 107 0 (loopAt Try.f107 0) ⟨54, [(0, .p (.lst x 137 ls)), (5, .p (.int .i64 n)), (6, .p (.int .i64 i))], []⟩ [(0, true), (0, true)] [] [0, 4, 5, 6] [] [[.int .i64 k, .int .i64 c]] [.cut 0 i.toNat] = some (.normal, ⟨54, [(6, .p (.int .i64 (IntKind.i64.wrap (i + 1)))), (0, .p (.lst x 137 ls)), (5, .p (.int .i64 n))], []⟩, [(m.kd == 1) = true, (0 : Int) ≤ i ∧ ls[(i : Int).toNat]? = some (m.t), decide (i < ((ls).length : Int)) = true]) := by kernel_rfl
theorem namedB_3 (m : Msg) (n k i c : Int) (ls : List T) (x : Bool): bodyK (Cv [((89, 19), m.t), ((89, 25), m.t), ((89, 32), m.t), ((89, 44), m.t)] [52, 151]) 30 107 0 (loopAt Try.f107 0) ⟨54, [(0, .p (.lst x 137 ls)), (5, .p (.int .i64 n)), (6, .p (.int .i64 i))], []⟩ [(0, true), (0, false), (0, true)] [] [0, 4, 5, 6] [] [[.int .i64 k, .int .i64 c]] [.cut 0 i.toNat] = some (.ret, ⟨54, [(4, .rb false)], []⟩, [decide (m.id < 0) = true, (0 : Int) ≤ i ∧ ls[(i : Int).toNat]? = some (m.t), (m.kd == 1) = false, (0 : Int) ≤ i ∧ ls[(i : Int).toNat]? = some (m.t), decide (i < ((ls).length : Int)) = true]) := by kernel_rfl
theorem namedB_4 (m : Msg) (n k i c : Int) (ls : List T) (x : Bool): bodyK (Cv [((89, 19), m.t), ((89, 25), m.t), ((89, 32), m.t), ((89, 44), m.t)] [52, 151]) 30 107 0 (loopAt Try.f107 0) ⟨54, [(0, .p (.lst x 137 ls)), (5, .p (.int .i64 n)), (6, .p (.int .i64 i))], []⟩ [(0, true), (0, false), (0, false), (0, true)] [] [0, 4, 5, 6] [] [[.int .i64 k, .int .i64 c]] [.cut 0 i.toNat] = some (.ret, ⟨54, [(4, .rb false)], []⟩, [decide (m.id ≥ n) = true, (0 : Int) ≤ i ∧ ls[(i : Int).toNat]? = some (m.t), decide (m.id < 0) = false, (0 : Int) ≤ i ∧ ls[(i : Int).toNat]? = some (m.t), (m.kd == 1) = false, (0 : Int) ≤ i ∧ ls[(i : Int).toNat]? = some (m.t), decide (i < ((ls).length : Int)) = true]) := by kernel_rfl
theorem namedB_5 (m : Msg) (n k i c : Int) (ls : List T) (x : Bool): bodyK (Cv [((89, 19), m.t), ((89, 25), m.t), ((89, 32), m.t), ((89, 44), m.t)] [52, 151]) 30 107 0 (loopAt Try.f107 0) ⟨54, [(0, .p (.lst x 137 ls)), (5, .p (.int .i64 n)), (6, .p (.int .i64 i))], []⟩ [(0, true), (0, false), (0, false), (0, false), (0, true)] [] [0, 4, 5, 6] [] [[.int .i64 k, .int .i64 c]] [.cut 0 i.toNat] = some (.ret, ⟨54, [(4, .rb false), (5, .p (.int .i64 n)), (0, .p (.lst x 137 ls)), (6, .p (.int .i64 i))], []⟩, [decide (c > 0) = true, PCall Try.prog 151 [.lst (x && (i.toNat == ls.length)) 137 (List.drop 0 (List.take i.toNat ls)), .int .i64 m.id] [.int .i64 k, .int .i64 c], (0 : Int) ≤ i ∧ ls[(i : Int).toNat]? = some (m.t), (0 : Nat) = 0, i = ((i.toNat : Nat) : Int), 0 ≤ i.toNat, i.toNat ≤ ls.length, decide (m.id ≥ n) = false, (0 : Int) ≤ i ∧ ls[(i : Int).toNat]? = some (m.t), decide (m.id < 0) = false, (0 : Int) ≤ i ∧ ls[(i : Int).toNat]? = some (m.t), (m.kd == 1) = false, (0 : Int) ≤ i ∧ ls[(i : Int).toNat]? = some (m.t), decide (i < ((ls).length : Int)) = true]) := by kernel_rfl
theorem namedE (n i : Int) (ls lo : List T) (x y : Bool): topK (Cv [] [52, 151]) 30 107 [] [.p (.lst x 137 ls), .p (.lst y 137 lo)] [] [some ([0, 5, 6], .exit 0, ⟨54, [(0, .p (.lst x 137 ls)), (5, .p (.int .i64 n)), (6, .p (.int .i64 i))], []⟩)] [] [[.int .i64 n]] [] = some ([.rb true], [], [LoopG Try.prog 0 (loopAt Try.f107 0) ⟨54, [(6, .p (.int .i64 0)), (5, .p (.int .i64 n)), (0, .p (.lst x 137 ls))], []⟩ (.exit 0) ⟨54, [(0, .p (.lst x 137 ls)), (5, .p (.int .i64 n)), (6, .p (.int .i64 i))], []⟩, PCall Try.prog 52 [.lst y 137 lo, .int .i64 ((lo).length : Int)] [.int .i64 n]]) := by kernel_rfl
theorem namedR (n : Int) (ls lo : List T) (x y : Bool): topK (Cv [] [52, 151]) 30 107 [] [.p (.lst x 137 ls), .p (.lst y 137 lo)] [] [some ([0, 5, 6], .ret, ⟨54, [(4, .p (.bool false))], []⟩)] [] [[.int .i64 n]] [] = some ([.p (.bool false)], [], [LoopG Try.prog 0 (loopAt Try.f107 0) ⟨54, [(6, .p (.int .i64 0)), (5, .p (.int .i64 n)), (0, .p (.lst x 137 ls))], []⟩ (.ret) ⟨54, [(4, .p (.bool false))], []⟩, PCall Try.prog 52 [.lst y 137 lo, .int .i64 ((lo).length : Int)] [.int .i64 n]]) := by kernel_rfl
theorem has_0 (ts ala pdb : Int): topK (Cv [] []) 30 109 [] [.p (.int .i64 ts), .p (.int .i64 ala), .p (.int .i64 pdb)] [(0, true)] [] [] [] [] = some ([.p (.int .i64 (IntKind.i64.wrap ((IntKind.i64.wrap (ts - ala)) + pdb))), .rb true], [], [decide (ala ≤ ts) = true]) := by kernel_rfl
theorem has_1 (ts ala pdb : Int): topK (Cv [] []) 30 109 [] [.p (.int .i64 ts), .p (.int .i64 ala), .p (.int .i64 pdb)] [(0, false), (0, false)] [] [] [] [] = some ([.p (.int .i64 (IntKind.i64.wrap (pdb - (IntKind.i64.wrap (ala - ts))))), .rb true], [], [decide ((IntKind.i64.wrap (ala - ts)) > pdb) = false, decide (ala ≤ ts) = false]) := by kernel_rfl
theorem has_2 (ts ala pdb : Int): topK (Cv [] []) 30 109 [] [.p (.int .i64 ts), .p (.int .i64 ala), .p (.int .i64 pdb)] [(0, false), (0, true)] [] [] [] [] = some ([.p (.int .i64 0), .rb false], [], [decide ((IntKind.i64.wrap (ala - ts)) > pdb) = true, decide (ala ≤ ts) = false]) := by kernel_rfl
theorem rVMay (tc ta tb to ts te td tf tr tl tg n k : Int) (tx : List Int) (ma mb : List T) (xa xb : Bool): topK (Cv [] [19, 106, 107, 108, 109]) 30 48 [] [.p (trT tc ta tb to ts te td tf tr tl tg tx), .p (.lst xa 137 ma), .p (.lst xb 137 mb), .p (.int .i64 n), .p (.int .i64 k)] [] [] [] [[.bool false]] [] = some ([.p (.agg [.int .i64 0, .int .i64 0, .lst true 36 []]), .p (.int .i64 1)], [], [PCall Try.prog 19 [(trT tc ta tb to ts te td tf tr tl tg tx)] [.bool false]]) := by kernel_rfl
theorem rVRa_0 (tc ta tb to ts te td tf tr tl tg n k : Int) (tx : List Int) (ma mb : List T) (xa xb : Bool): topK (Cv [] [19, 106, 107, 108, 109]) 30 48 [] [.p (trT tc ta tb to ts te td tf tr tl tg tx), .p (.lst xa 137 ma), .p (.lst xb 137 mb), .p (.int .i64 n), .p (.int .i64 k)] [(1, false), (0, false), (0, false), (0, false)] [] [] [[.bool true], [.bool false]] [] = some ([.p (.agg [.int .i64 0, .int .i64 0, .lst true 36 []]), .p (.int .i64 1)], [], [PCall Try.prog 106 [.lst xa 137 ma, .int .i64 n] [.bool false], decide (k > ((mb).length : Int)) = false, decide (k < 0) = false, decide (n > ((ma).length : Int)) = false, decide (n < 0) = false, PCall Try.prog 19 [(trT tc ta tb to ts te td tf tr tl tg tx)] [.bool true]]) := by kernel_rfl
theorem rVRa_1 (tc ta tb to ts te td tf tr tl tg n k : Int) (tx : List Int) (ma mb : List T) (xa xb : Bool): topK (Cv [] [19, 106, 107, 108, 109]) 30 48 [] [.p (trT tc ta tb to ts te td tf tr tl tg tx), .p (.lst xa 137 ma), .p (.lst xb 137 mb), .p (.int .i64 n), .p (.int .i64 k)] [(1, true)] [] [] [[.bool true], [.bool false]] [] = some ([.p (.agg [.int .i64 0, .int .i64 0, .lst true 36 []]), .p (.int .i64 1)], [], [decide (n < 0) = true, PCall Try.prog 19 [(trT tc ta tb to ts te td tf tr tl tg tx)] [.bool true]]) := by kernel_rfl
theorem rVRa_2 (tc ta tb to ts te td tf tr tl tg n k : Int) (tx : List Int) (ma mb : List T) (xa xb : Bool): topK (Cv [] [19, 106, 107, 108, 109]) 30 48 [] [.p (trT tc ta tb to ts te td tf tr tl tg tx), .p (.lst xa 137 ma), .p (.lst xb 137 mb), .p (.int .i64 n), .p (.int .i64 k)] [(1, false), (0, true)] [] [] [[.bool true], [.bool false]] [] = some ([.p (.agg [.int .i64 0, .int .i64 0, .lst true 36 []]), .p (.int .i64 1)], [], [decide (n > ((ma).length : Int)) = true, decide (n < 0) = false, PCall Try.prog 19 [(trT tc ta tb to ts te td tf tr tl tg tx)] [.bool true]]) := by kernel_rfl
theorem rVRa_3 (tc ta tb to ts te td tf tr tl tg n k : Int) (tx : List Int) (ma mb : List T) (xa xb : Bool): topK (Cv [] [19, 106, 107, 108, 109]) 30 48 [] [.p (trT tc ta tb to ts te td tf tr tl tg tx), .p (.lst xa 137 ma), .p (.lst xb 137 mb), .p (.int .i64 n), .p (.int .i64 k)] [(1, false), (0, false), (0, true)] [] [] [[.bool true], [.bool false]] [] = some ([.p (.agg [.int .i64 0, .int .i64 0, .lst true 36 []]), .p (.int .i64 1)], [], [decide (k < 0) = true, decide (n > ((ma).length : Int)) = false, decide (n < 0) = false, PCall Try.prog 19 [(trT tc ta tb to ts te td tf tr tl tg tx)] [.bool true]]) := by kernel_rfl
theorem rVRa_4 (tc ta tb to ts te td tf tr tl tg n k : Int) (tx : List Int) (ma mb : List T) (xa xb : Bool): topK (Cv [] [19, 106, 107, 108, 109]) 30 48 [] [.p (trT tc ta tb to ts te td tf tr tl tg tx), .p (.lst xa 137 ma), .p (.lst xb 137 mb), .p (.int .i64 n), .p (.int .i64 k)] [(1, false), (0, false), (0, false), (0, true)] [] [] [[.bool true], [.bool false]] [] = some ([.p (.agg [.int .i64 0, .int .i64 0, .lst true 36 []]), .p (.int .i64 1)], [], [decide (k > ((mb).length : Int)) = true, decide (k < 0) = false, decide (n > ((ma).length : Int)) = false, decide (n < 0) = false, PCall Try.prog 19 [(trT tc ta tb to ts te td tf tr tl tg tx)] [.bool true]]) := by kernel_rfl
theorem rVRb_0 (tc ta tb to ts te td tf tr tl tg n k : Int) (tx : List Int) (ma mb : List T) (xa xb : Bool): topK (Cv [] [19, 106, 107, 108, 109]) 30 48 [] [.p (trT tc ta tb to ts te td tf tr tl tg tx), .p (.lst xa 137 ma), .p (.lst xb 137 mb), .p (.int .i64 n), .p (.int .i64 k)] [(1, false), (0, false), (0, false), (0, false)] [] [] [[.bool true], [.bool true], [.bool false]] [] = some ([.p (.agg [.int .i64 0, .int .i64 0, .lst true 36 []]), .p (.int .i64 1)], [], [PCall Try.prog 106 [.lst xb 137 mb, .int .i64 k] [.bool false], PCall Try.prog 106 [.lst xa 137 ma, .int .i64 n] [.bool true], decide (k > ((mb).length : Int)) = false, decide (k < 0) = false, decide (n > ((ma).length : Int)) = false, decide (n < 0) = false, PCall Try.prog 19 [(trT tc ta tb to ts te td tf tr tl tg tx)] [.bool true]]) := by kernel_rfl
theorem rVNa_0 (tc ta tb to ts te td tf tr tl tg n k : Int) (tx : List Int) (ma mb : List T) (xa xb : Bool): topK (Cv [] [19, 106, 107, 108, 109]) 30 48 [] [.p (trT tc ta tb to ts te td tf tr tl tg tx), .p (.lst xa 137 ma), .p (.lst xb 137 mb), .p (.int .i64 n), .p (.int .i64 k)] [(1, false), (0, false), (0, false), (0, false)] [] [] [[.bool true], [.bool true], [.bool true], [.bool false]] [.cut 0 n.toNat, .cut 0 k.toNat] = some ([.p (.agg [.int .i64 0, .int .i64 0, .lst true 36 []]), .p (.int .i64 4)], [], [PCall Try.prog 107 [.lst (xa && (n.toNat == ma.length)) 137 (List.drop 0 (List.take n.toNat ma)), .lst (xb && (k.toNat == mb.length)) 137 (List.drop 0 (List.take k.toNat mb))] [.bool false], (0 : Nat) = 0, k = ((k.toNat : Nat) : Int), 0 ≤ k.toNat, k.toNat ≤ mb.length, (0 : Nat) = 0, n = ((n.toNat : Nat) : Int), 0 ≤ n.toNat, n.toNat ≤ ma.length, PCall Try.prog 106 [.lst xb 137 mb, .int .i64 k] [.bool true], PCall Try.prog 106 [.lst xa 137 ma, .int .i64 n] [.bool true], decide (k > ((mb).length : Int)) = false, decide (k < 0) = false, decide (n > ((ma).length : Int)) = false, decide (n < 0) = false, PCall Try.prog 19 [(trT tc ta tb to ts te td tf tr tl tg tx)] [.bool true]]) := by kernel_rfl
theorem rVNb_0 (tc ta tb to ts te td tf tr tl tg n k : Int) (tx : List Int) (ma mb : List T) (xa xb : Bool): topK (Cv [] [19, 106, 107, 108, 109]) 30 48 [] [.p (trT tc ta tb to ts te td tf tr tl tg tx), .p (.lst xa 137 ma), .p (.lst xb 137 mb), .p (.int .i64 n), .p (.int .i64 k)] [(1, false), (0, false), (0, false), (0, false)] [] [] [[.bool true], [.bool true], [.bool true], [.bool true], [.bool false]] [.cut 0 n.toNat, .cut 0 k.toNat] = some ([.p (.agg [.int .i64 0, .int .i64 0, .lst true 36 []]), .p (.int .i64 4)], [], [PCall Try.prog 107 [.lst (xb && (k.toNat == mb.length)) 137 (List.drop 0 (List.take k.toNat mb)), .lst (xa && (n.toNat == ma.length)) 137 (List.drop 0 (List.take n.toNat ma))] [.bool false], PCall Try.prog 107 [.lst (xa && (n.toNat == ma.length)) 137 (List.drop 0 (List.take n.toNat ma)), .lst (xb && (k.toNat == mb.length)) 137 (List.drop 0 (List.take k.toNat mb))] [.bool true], (0 : Nat) = 0, k = ((k.toNat : Nat) : Int), 0 ≤ k.toNat, k.toNat ≤ mb.length, (0 : Nat) = 0, n = ((n.toNat : Nat) : Int), 0 ≤ n.toNat, n.toNat ≤ ma.length, PCall Try.prog 106 [.lst xb 137 mb, .int .i64 k] [.bool true], PCall Try.prog 106 [.lst xa 137 ma, .int .i64 n] [.bool true], decide (k > ((mb).length : Int)) = false, decide (k < 0) = false, decide (n > ((ma).length : Int)) = false, decide (n < 0) = false, PCall Try.prog 19 [(trT tc ta tb to ts te td tf tr tl tg tx)] [.bool true]]) := by kernel_rfl
theorem rVOx_0 (tc ta tb to ts te td tf tr tl tg pda ala pdb alb n k : Int) (tx : List Int) (la lb ma mb : List T) (fx fy xa xb : Bool): topK (Cv [] [19, 106, 107, 108, 109]) 30 48 [] [.p (trT tc ta tb to ts te td tf tr tl tg tx), .p (.lst xa 137 ma), .p (.lst xb 137 mb), .p (.int .i64 n), .p (.int .i64 k)] [(1, false), (0, false), (0, false), (0, false)] [] [] [[.bool true], [.bool true], [.bool true], [.bool true], [.bool true], [.agg [.lst fx 36 la, .int .i64 pda, .int .i64 ala, .bool true]], [.agg [.lst fy 36 lb, .int .i64 pdb, .int .i64 alb, .bool false]]] [.cut 0 n.toNat, .cut 0 k.toNat] = some ([.p (.agg [.int .i64 0, .int .i64 0, .lst true 36 []]), .p (.int .i64 20)], [], [(some (.box (.p (trT tc ta tb to ts te td tf tr tl tg tx))) : Option SObj) = (some (.box (.p (trT tc ta tb to ts te td tf tr tl tg tx))) : Option SObj), (some (.box (.p (trT tc ta tb to ts te td tf tr tl tg tx))) : Option SObj) = (some (.box (.p (trT tc ta tb to ts te td tf tr tl tg tx))) : Option SObj), (some (.box (.p (trT tc ta tb to ts te td tf tr tl tg tx))) : Option SObj) = (some (.box (.p (trT tc ta tb to ts te td tf tr tl tg tx))) : Option SObj), (some (.box (.p (trT tc ta tb to ts te td tf tr tl tg tx))) : Option SObj) = (some (.box (.p (trT tc ta tb to ts te td tf tr tl tg tx))) : Option SObj), PCall Try.prog 108 [.lst (xb && (k.toNat == mb.length)) 137 (List.drop 0 (List.take k.toNat mb)), .lst (xa && (n.toNat == ma.length)) 137 (List.drop 0 (List.take n.toNat ma)), .int .i64 tb] [.agg [.lst fy 36 lb, .int .i64 pdb, .int .i64 alb, .bool false]], PCall Try.prog 108 [.lst (xa && (n.toNat == ma.length)) 137 (List.drop 0 (List.take n.toNat ma)), .lst (xb && (k.toNat == mb.length)) 137 (List.drop 0 (List.take k.toNat mb)), .int .i64 ta] [.agg [.lst fx 36 la, .int .i64 pda, .int .i64 ala, .bool true]], PCall Try.prog 107 [.lst (xb && (k.toNat == mb.length)) 137 (List.drop 0 (List.take k.toNat mb)), .lst (xa && (n.toNat == ma.length)) 137 (List.drop 0 (List.take n.toNat ma))] [.bool true], PCall Try.prog 107 [.lst (xa && (n.toNat == ma.length)) 137 (List.drop 0 (List.take n.toNat ma)), .lst (xb && (k.toNat == mb.length)) 137 (List.drop 0 (List.take k.toNat mb))] [.bool true], (0 : Nat) = 0, k = ((k.toNat : Nat) : Int), 0 ≤ k.toNat, k.toNat ≤ mb.length, (0 : Nat) = 0, n = ((n.toNat : Nat) : Int), 0 ≤ n.toNat, n.toNat ≤ ma.length, PCall Try.prog 106 [.lst xb 137 mb, .int .i64 k] [.bool true], PCall Try.prog 106 [.lst xa 137 ma, .int .i64 n] [.bool true], decide (k > ((mb).length : Int)) = false, decide (k < 0) = false, decide (n > ((ma).length : Int)) = false, decide (n < 0) = false, PCall Try.prog 19 [(trT tc ta tb to ts te td tf tr tl tg tx)] [.bool true]]) := by kernel_rfl
theorem rVOz_0 (tc ta tb to ts te td tf tr tl tg pda ala pdb alb n k : Int) (tx : List Int) (la lb ma mb : List T) (fx fy xa xb : Bool): topK (Cv [] [19, 106, 107, 108, 109]) 30 48 [] [.p (trT tc ta tb to ts te td tf tr tl tg tx), .p (.lst xa 137 ma), .p (.lst xb 137 mb), .p (.int .i64 n), .p (.int .i64 k)] [(1, false), (0, false), (0, false), (0, false)] [] [] [[.bool true], [.bool true], [.bool true], [.bool true], [.bool true], [.agg [.lst fx 36 la, .int .i64 pda, .int .i64 ala, .bool true]], [.agg [.lst fy 36 lb, .int .i64 pdb, .int .i64 alb, .bool true]]] [.cut 0 n.toNat, .cut 0 k.toNat] = some ([.p (.agg [.int .i64 0, .int .i64 0, .lst true 36 []]), .p (.int .i64 20)], [], [(some (.box (.p (trT tc ta tb to ts te td tf tr tl tg tx))) : Option SObj) = (some (.box (.p (trT tc ta tb to ts te td tf tr tl tg tx))) : Option SObj), (some (.box (.p (trT tc ta tb to ts te td tf tr tl tg tx))) : Option SObj) = (some (.box (.p (trT tc ta tb to ts te td tf tr tl tg tx))) : Option SObj), (some (.box (.p (trT tc ta tb to ts te td tf tr tl tg tx))) : Option SObj) = (some (.box (.p (trT tc ta tb to ts te td tf tr tl tg tx))) : Option SObj), (some (.box (.p (trT tc ta tb to ts te td tf tr tl tg tx))) : Option SObj) = (some (.box (.p (trT tc ta tb to ts te td tf tr tl tg tx))) : Option SObj), PCall Try.prog 108 [.lst (xb && (k.toNat == mb.length)) 137 (List.drop 0 (List.take k.toNat mb)), .lst (xa && (n.toNat == ma.length)) 137 (List.drop 0 (List.take n.toNat ma)), .int .i64 tb] [.agg [.lst fy 36 lb, .int .i64 pdb, .int .i64 alb, .bool true]], PCall Try.prog 108 [.lst (xa && (n.toNat == ma.length)) 137 (List.drop 0 (List.take n.toNat ma)), .lst (xb && (k.toNat == mb.length)) 137 (List.drop 0 (List.take k.toNat mb)), .int .i64 ta] [.agg [.lst fx 36 la, .int .i64 pda, .int .i64 ala, .bool true]], PCall Try.prog 107 [.lst (xb && (k.toNat == mb.length)) 137 (List.drop 0 (List.take k.toNat mb)), .lst (xa && (n.toNat == ma.length)) 137 (List.drop 0 (List.take n.toNat ma))] [.bool true], PCall Try.prog 107 [.lst (xa && (n.toNat == ma.length)) 137 (List.drop 0 (List.take n.toNat ma)), .lst (xb && (k.toNat == mb.length)) 137 (List.drop 0 (List.take k.toNat mb))] [.bool true], (0 : Nat) = 0, k = ((k.toNat : Nat) : Int), 0 ≤ k.toNat, k.toNat ≤ mb.length, (0 : Nat) = 0, n = ((n.toNat : Nat) : Int), 0 ≤ n.toNat, n.toNat ≤ ma.length, PCall Try.prog 106 [.lst xb 137 mb, .int .i64 k] [.bool true], PCall Try.prog 106 [.lst xa 137 ma, .int .i64 n] [.bool true], decide (k > ((mb).length : Int)) = false, decide (k < 0) = false, decide (n > ((ma).length : Int)) = false, decide (n < 0) = false, PCall Try.prog 19 [(trT tc ta tb to ts te td tf tr tl tg tx)] [.bool true]]) := by kernel_rfl
theorem rVOy_0 (tc ta tb to ts te td tf tr tl tg pda ala pdb alb n k : Int) (tx : List Int) (la lb ma mb : List T) (fx fy xa xb : Bool): topK (Cv [] [19, 106, 107, 108, 109]) 30 48 [] [.p (trT tc ta tb to ts te td tf tr tl tg tx), .p (.lst xa 137 ma), .p (.lst xb 137 mb), .p (.int .i64 n), .p (.int .i64 k)] [(1, false), (0, false), (0, false), (0, false)] [] [] [[.bool true], [.bool true], [.bool true], [.bool true], [.bool true], [.agg [.lst fx 36 la, .int .i64 pda, .int .i64 ala, .bool false]], [.agg [.lst fy 36 lb, .int .i64 pdb, .int .i64 alb, .bool true]]] [.cut 0 n.toNat, .cut 0 k.toNat] = some ([.p (.agg [.int .i64 0, .int .i64 0, .lst true 36 []]), .p (.int .i64 20)], [], [(some (.box (.p (trT tc ta tb to ts te td tf tr tl tg tx))) : Option SObj) = (some (.box (.p (trT tc ta tb to ts te td tf tr tl tg tx))) : Option SObj), (some (.box (.p (trT tc ta tb to ts te td tf tr tl tg tx))) : Option SObj) = (some (.box (.p (trT tc ta tb to ts te td tf tr tl tg tx))) : Option SObj), (some (.box (.p (trT tc ta tb to ts te td tf tr tl tg tx))) : Option SObj) = (some (.box (.p (trT tc ta tb to ts te td tf tr tl tg tx))) : Option SObj), (some (.box (.p (trT tc ta tb to ts te td tf tr tl tg tx))) : Option SObj) = (some (.box (.p (trT tc ta tb to ts te td tf tr tl tg tx))) : Option SObj), PCall Try.prog 108 [.lst (xb && (k.toNat == mb.length)) 137 (List.drop 0 (List.take k.toNat mb)), .lst (xa && (n.toNat == ma.length)) 137 (List.drop 0 (List.take n.toNat ma)), .int .i64 tb] [.agg [.lst fy 36 lb, .int .i64 pdb, .int .i64 alb, .bool true]], PCall Try.prog 108 [.lst (xa && (n.toNat == ma.length)) 137 (List.drop 0 (List.take n.toNat ma)), .lst (xb && (k.toNat == mb.length)) 137 (List.drop 0 (List.take k.toNat mb)), .int .i64 ta] [.agg [.lst fx 36 la, .int .i64 pda, .int .i64 ala, .bool false]], PCall Try.prog 107 [.lst (xb && (k.toNat == mb.length)) 137 (List.drop 0 (List.take k.toNat mb)), .lst (xa && (n.toNat == ma.length)) 137 (List.drop 0 (List.take n.toNat ma))] [.bool true], PCall Try.prog 107 [.lst (xa && (n.toNat == ma.length)) 137 (List.drop 0 (List.take n.toNat ma)), .lst (xb && (k.toNat == mb.length)) 137 (List.drop 0 (List.take k.toNat mb))] [.bool true], (0 : Nat) = 0, k = ((k.toNat : Nat) : Int), 0 ≤ k.toNat, k.toNat ≤ mb.length, (0 : Nat) = 0, n = ((n.toNat : Nat) : Int), 0 ≤ n.toNat, n.toNat ≤ ma.length, PCall Try.prog 106 [.lst xb 137 mb, .int .i64 k] [.bool true], PCall Try.prog 106 [.lst xa 137 ma, .int .i64 n] [.bool true], decide (k > ((mb).length : Int)) = false, decide (k < 0) = false, decide (n > ((ma).length : Int)) = false, decide (n < 0) = false, PCall Try.prog 19 [(trT tc ta tb to ts te td tf tr tl tg tx)] [.bool true]]) := by kernel_rfl
theorem rVHFF_0 (tc ta tb to ts te td tf tr tl tg pda ala pdb alb ra rb n k : Int) (tx : List Int) (la lb ma mb : List T) (fx fy xa xb : Bool): topK (Cv [] [19, 106, 107, 108, 109]) 30 48 [] [.p (trT tc ta tb to ts te td tf tr tl tg tx), .p (.lst xa 137 ma), .p (.lst xb 137 mb), .p (.int .i64 n), .p (.int .i64 k)] [(1, false), (0, false), (0, false), (0, false)] [] [] [[.bool true], [.bool true], [.bool true], [.bool true], [.bool true], [.agg [.lst fx 36 la, .int .i64 pda, .int .i64 ala, .bool false]], [.agg [.lst fy 36 lb, .int .i64 pdb, .int .i64 alb, .bool false]], [.int .i64 ra, .bool false], [.int .i64 rb, .bool false]] [.cut 0 n.toNat, .cut 0 k.toNat] = some ([.p (.agg [.int .i64 0, .int .i64 0, .lst true 36 []]), .p (.int .i64 152)], [], [PCall Try.prog 109 [.int .i64 te, .int .i64 alb, .int .i64 pda] [.int .i64 rb, .bool false], PCall Try.prog 109 [.int .i64 ts, .int .i64 ala, .int .i64 pdb] [.int .i64 ra, .bool false], (some (.box (.p (trT tc ta tb to ts te td tf tr tl tg tx))) : Option SObj) = (some (.box (.p (trT tc ta tb to ts te td tf tr tl tg tx))) : Option SObj), (some (.box (.p (trT tc ta tb to ts te td tf tr tl tg tx))) : Option SObj) = (some (.box (.p (trT tc ta tb to ts te td tf tr tl tg tx))) : Option SObj), (some (.box (.p (trT tc ta tb to ts te td tf tr tl tg tx))) : Option SObj) = (some (.box (.p (trT tc ta tb to ts te td tf tr tl tg tx))) : Option SObj), (some (.box (.p (trT tc ta tb to ts te td tf tr tl tg tx))) : Option SObj) = (some (.box (.p (trT tc ta tb to ts te td tf tr tl tg tx))) : Option SObj), PCall Try.prog 108 [.lst (xb && (k.toNat == mb.length)) 137 (List.drop 0 (List.take k.toNat mb)), .lst (xa && (n.toNat == ma.length)) 137 (List.drop 0 (List.take n.toNat ma)), .int .i64 tb] [.agg [.lst fy 36 lb, .int .i64 pdb, .int .i64 alb, .bool false]], PCall Try.prog 108 [.lst (xa && (n.toNat == ma.length)) 137 (List.drop 0 (List.take n.toNat ma)), .lst (xb && (k.toNat == mb.length)) 137 (List.drop 0 (List.take k.toNat mb)), .int .i64 ta] [.agg [.lst fx 36 la, .int .i64 pda, .int .i64 ala, .bool false]], PCall Try.prog 107 [.lst (xb && (k.toNat == mb.length)) 137 (List.drop 0 (List.take k.toNat mb)), .lst (xa && (n.toNat == ma.length)) 137 (List.drop 0 (List.take n.toNat ma))] [.bool true], PCall Try.prog 107 [.lst (xa && (n.toNat == ma.length)) 137 (List.drop 0 (List.take n.toNat ma)), .lst (xb && (k.toNat == mb.length)) 137 (List.drop 0 (List.take k.toNat mb))] [.bool true], (0 : Nat) = 0, k = ((k.toNat : Nat) : Int), 0 ≤ k.toNat, k.toNat ≤ mb.length, (0 : Nat) = 0, n = ((n.toNat : Nat) : Int), 0 ≤ n.toNat, n.toNat ≤ ma.length, PCall Try.prog 106 [.lst xb 137 mb, .int .i64 k] [.bool true], PCall Try.prog 106 [.lst xa 137 ma, .int .i64 n] [.bool true], decide (k > ((mb).length : Int)) = false, decide (k < 0) = false, decide (n > ((ma).length : Int)) = false, decide (n < 0) = false, PCall Try.prog 19 [(trT tc ta tb to ts te td tf tr tl tg tx)] [.bool true]]) := by kernel_rfl
theorem rVHFT_0 (tc ta tb to ts te td tf tr tl tg pda ala pdb alb ra rb n k : Int) (tx : List Int) (la lb ma mb : List T) (fx fy xa xb : Bool): topK (Cv [] [19, 106, 107, 108, 109]) 30 48 [] [.p (trT tc ta tb to ts te td tf tr tl tg tx), .p (.lst xa 137 ma), .p (.lst xb 137 mb), .p (.int .i64 n), .p (.int .i64 k)] [(1, false), (0, false), (0, false), (0, false)] [] [] [[.bool true], [.bool true], [.bool true], [.bool true], [.bool true], [.agg [.lst fx 36 la, .int .i64 pda, .int .i64 ala, .bool false]], [.agg [.lst fy 36 lb, .int .i64 pdb, .int .i64 alb, .bool false]], [.int .i64 ra, .bool false], [.int .i64 rb, .bool true]] [.cut 0 n.toNat, .cut 0 k.toNat] = some ([.p (.agg [.int .i64 0, .int .i64 0, .lst true 36 []]), .p (.int .i64 152)], [], [PCall Try.prog 109 [.int .i64 te, .int .i64 alb, .int .i64 pda] [.int .i64 rb, .bool true], PCall Try.prog 109 [.int .i64 ts, .int .i64 ala, .int .i64 pdb] [.int .i64 ra, .bool false], (some (.box (.p (trT tc ta tb to ts te td tf tr tl tg tx))) : Option SObj) = (some (.box (.p (trT tc ta tb to ts te td tf tr tl tg tx))) : Option SObj), (some (.box (.p (trT tc ta tb to ts te td tf tr tl tg tx))) : Option SObj) = (some (.box (.p (trT tc ta tb to ts te td tf tr tl tg tx))) : Option SObj), (some (.box (.p (trT tc ta tb to ts te td tf tr tl tg tx))) : Option SObj) = (some (.box (.p (trT tc ta tb to ts te td tf tr tl tg tx))) : Option SObj), (some (.box (.p (trT tc ta tb to ts te td tf tr tl tg tx))) : Option SObj) = (some (.box (.p (trT tc ta tb to ts te td tf tr tl tg tx))) : Option SObj), PCall Try.prog 108 [.lst (xb && (k.toNat == mb.length)) 137 (List.drop 0 (List.take k.toNat mb)), .lst (xa && (n.toNat == ma.length)) 137 (List.drop 0 (List.take n.toNat ma)), .int .i64 tb] [.agg [.lst fy 36 lb, .int .i64 pdb, .int .i64 alb, .bool false]], PCall Try.prog 108 [.lst (xa && (n.toNat == ma.length)) 137 (List.drop 0 (List.take n.toNat ma)), .lst (xb && (k.toNat == mb.length)) 137 (List.drop 0 (List.take k.toNat mb)), .int .i64 ta] [.agg [.lst fx 36 la, .int .i64 pda, .int .i64 ala, .bool false]], PCall Try.prog 107 [.lst (xb && (k.toNat == mb.length)) 137 (List.drop 0 (List.take k.toNat mb)), .lst (xa && (n.toNat == ma.length)) 137 (List.drop 0 (List.take n.toNat ma))] [.bool true], PCall Try.prog 107 [.lst (xa && (n.toNat == ma.length)) 137 (List.drop 0 (List.take n.toNat ma)), .lst (xb && (k.toNat == mb.length)) 137 (List.drop 0 (List.take k.toNat mb))] [.bool true], (0 : Nat) = 0, k = ((k.toNat : Nat) : Int), 0 ≤ k.toNat, k.toNat ≤ mb.length, (0 : Nat) = 0, n = ((n.toNat : Nat) : Int), 0 ≤ n.toNat, n.toNat ≤ ma.length, PCall Try.prog 106 [.lst xb 137 mb, .int .i64 k] [.bool true], PCall Try.prog 106 [.lst xa 137 ma, .int .i64 n] [.bool true], decide (k > ((mb).length : Int)) = false, decide (k < 0) = false, decide (n > ((ma).length : Int)) = false, decide (n < 0) = false, PCall Try.prog 19 [(trT tc ta tb to ts te td tf tr tl tg tx)] [.bool true]]) := by kernel_rfl
theorem rVHTF_0 (tc ta tb to ts te td tf tr tl tg pda ala pdb alb ra rb n k : Int) (tx : List Int) (la lb ma mb : List T) (fx fy xa xb : Bool): topK (Cv [] [19, 106, 107, 108, 109]) 30 48 [] [.p (trT tc ta tb to ts te td tf tr tl tg tx), .p (.lst xa 137 ma), .p (.lst xb 137 mb), .p (.int .i64 n), .p (.int .i64 k)] [(1, false), (0, false), (0, false), (0, false)] [] [] [[.bool true], [.bool true], [.bool true], [.bool true], [.bool true], [.agg [.lst fx 36 la, .int .i64 pda, .int .i64 ala, .bool false]], [.agg [.lst fy 36 lb, .int .i64 pdb, .int .i64 alb, .bool false]], [.int .i64 ra, .bool true], [.int .i64 rb, .bool false]] [.cut 0 n.toNat, .cut 0 k.toNat] = some ([.p (.agg [.int .i64 0, .int .i64 0, .lst true 36 []]), .p (.int .i64 152)], [], [PCall Try.prog 109 [.int .i64 te, .int .i64 alb, .int .i64 pda] [.int .i64 rb, .bool false], PCall Try.prog 109 [.int .i64 ts, .int .i64 ala, .int .i64 pdb] [.int .i64 ra, .bool true], (some (.box (.p (trT tc ta tb to ts te td tf tr tl tg tx))) : Option SObj) = (some (.box (.p (trT tc ta tb to ts te td tf tr tl tg tx))) : Option SObj), (some (.box (.p (trT tc ta tb to ts te td tf tr tl tg tx))) : Option SObj) = (some (.box (.p (trT tc ta tb to ts te td tf tr tl tg tx))) : Option SObj), (some (.box (.p (trT tc ta tb to ts te td tf tr tl tg tx))) : Option SObj) = (some (.box (.p (trT tc ta tb to ts te td tf tr tl tg tx))) : Option SObj), (some (.box (.p (trT tc ta tb to ts te td tf tr tl tg tx))) : Option SObj) = (some (.box (.p (trT tc ta tb to ts te td tf tr tl tg tx))) : Option SObj), PCall Try.prog 108 [.lst (xb && (k.toNat == mb.length)) 137 (List.drop 0 (List.take k.toNat mb)), .lst (xa && (n.toNat == ma.length)) 137 (List.drop 0 (List.take n.toNat ma)), .int .i64 tb] [.agg [.lst fy 36 lb, .int .i64 pdb, .int .i64 alb, .bool false]], PCall Try.prog 108 [.lst (xa && (n.toNat == ma.length)) 137 (List.drop 0 (List.take n.toNat ma)), .lst (xb && (k.toNat == mb.length)) 137 (List.drop 0 (List.take k.toNat mb)), .int .i64 ta] [.agg [.lst fx 36 la, .int .i64 pda, .int .i64 ala, .bool false]], PCall Try.prog 107 [.lst (xb && (k.toNat == mb.length)) 137 (List.drop 0 (List.take k.toNat mb)), .lst (xa && (n.toNat == ma.length)) 137 (List.drop 0 (List.take n.toNat ma))] [.bool true], PCall Try.prog 107 [.lst (xa && (n.toNat == ma.length)) 137 (List.drop 0 (List.take n.toNat ma)), .lst (xb && (k.toNat == mb.length)) 137 (List.drop 0 (List.take k.toNat mb))] [.bool true], (0 : Nat) = 0, k = ((k.toNat : Nat) : Int), 0 ≤ k.toNat, k.toNat ≤ mb.length, (0 : Nat) = 0, n = ((n.toNat : Nat) : Int), 0 ≤ n.toNat, n.toNat ≤ ma.length, PCall Try.prog 106 [.lst xb 137 mb, .int .i64 k] [.bool true], PCall Try.prog 106 [.lst xa 137 ma, .int .i64 n] [.bool true], decide (k > ((mb).length : Int)) = false, decide (k < 0) = false, decide (n > ((ma).length : Int)) = false, decide (n < 0) = false, PCall Try.prog 19 [(trT tc ta tb to ts te td tf tr tl tg tx)] [.bool true]]) := by kernel_rfl
theorem rVHTT_0 (tc ta tb to ts te td tf tr tl tg pda ala pdb alb ra rb n k : Int) (tx : List Int) (la lb ma mb : List T) (fx fy xa xb : Bool): topK (Cv [] [19, 106, 107, 108, 109]) 30 48 [] [.p (trT tc ta tb to ts te td tf tr tl tg tx), .p (.lst xa 137 ma), .p (.lst xb 137 mb), .p (.int .i64 n), .p (.int .i64 k)] [(1, false), (0, false), (0, false), (0, false), (8, false), (0, false)] [] [] [[.bool true], [.bool true], [.bool true], [.bool true], [.bool true], [.agg [.lst fx 36 la, .int .i64 pda, .int .i64 ala, .bool false]], [.agg [.lst fy 36 lb, .int .i64 pdb, .int .i64 alb, .bool false]], [.int .i64 ra, .bool true], [.int .i64 rb, .bool true]] [.cut 0 n.toNat, .cut 0 k.toNat] = some ([.agg [.p (.int .i64 ra), .p (.int .i64 rb), .row 4 1 (.lst false 36 (la ++ lb))], .p (.int .i64 0)], [.box (.p (trT tc ta tb to ts te td tf tr tl tg tx)), .box (.agg [.p (.int .i64 ra), .p (.int .i64 rb), .row 4 1 (.lst false 36 (la ++ lb))]), .box (.p (.agg [.lst fx 36 la, .int .i64 pda, .int .i64 ala, .bool false])), .box (.p (.agg [.lst fy 36 lb, .int .i64 pdb, .int .i64 alb, .bool false])), .row 1 36], [(some (.box (.p (.agg [.lst fx 36 la, .int .i64 pda, .int .i64 ala, .bool false]))) : Option SObj) = (some (.box (.p (.agg [.lst fx 36 la, .int .i64 pda, .int .i64 ala, .bool false]))) : Option SObj), (some (.box (.p (.agg [.lst fx 36 la, .int .i64 pda, .int .i64 ala, .bool false]))) : Option SObj) = (some (.box (.p (.agg [.lst fx 36 la, .int .i64 pda, .int .i64 ala, .bool false]))) : Option SObj), (some (.box (.p (.agg [.lst fx 36 la, .int .i64 pda, .int .i64 ala, .bool false]))) : Option SObj) = (some (.box (.p (.agg [.lst fx 36 la, .int .i64 pda, .int .i64 ala, .bool false]))) : Option SObj), (some (.box (.p (.agg [.lst fy 36 lb, .int .i64 pdb, .int .i64 alb, .bool false]))) : Option SObj) = (some (.box (.p (.agg [.lst fy 36 lb, .int .i64 pdb, .int .i64 alb, .bool false]))) : Option SObj), (some (.box (.p (.agg [.lst fy 36 lb, .int .i64 pdb, .int .i64 alb, .bool false]))) : Option SObj) = (some (.box (.p (.agg [.lst fy 36 lb, .int .i64 pdb, .int .i64 alb, .bool false]))) : Option SObj), (some (.box (.p (.agg [.lst fy 36 lb, .int .i64 pdb, .int .i64 alb, .bool false]))) : Option SObj) = (some (.box (.p (.agg [.lst fy 36 lb, .int .i64 pdb, .int .i64 alb, .bool false]))) : Option SObj), ((la).length + (lb).length ≤ 4294967296 ∨ ((la).length + (lb).length ≤ 9223372036854775807 ∧ ((la).length + (lb).length) * 64 ≤ 140737488355328)), (0 + (la).length ≤ 4294967296 ∨ (0 + (la).length ≤ 9223372036854775807 ∧ (0 + (la).length) * 64 ≤ 140737488355328)), decide (((lb).length : Int) > 16) = false, decide (((la).length : Int) > 16) = false, PCall Try.prog 109 [.int .i64 te, .int .i64 alb, .int .i64 pda] [.int .i64 rb, .bool true], PCall Try.prog 109 [.int .i64 ts, .int .i64 ala, .int .i64 pdb] [.int .i64 ra, .bool true], (some (.box (.p (trT tc ta tb to ts te td tf tr tl tg tx))) : Option SObj) = (some (.box (.p (trT tc ta tb to ts te td tf tr tl tg tx))) : Option SObj), (some (.box (.p (trT tc ta tb to ts te td tf tr tl tg tx))) : Option SObj) = (some (.box (.p (trT tc ta tb to ts te td tf tr tl tg tx))) : Option SObj), (some (.box (.p (trT tc ta tb to ts te td tf tr tl tg tx))) : Option SObj) = (some (.box (.p (trT tc ta tb to ts te td tf tr tl tg tx))) : Option SObj), (some (.box (.p (trT tc ta tb to ts te td tf tr tl tg tx))) : Option SObj) = (some (.box (.p (trT tc ta tb to ts te td tf tr tl tg tx))) : Option SObj), PCall Try.prog 108 [.lst (xb && (k.toNat == mb.length)) 137 (List.drop 0 (List.take k.toNat mb)), .lst (xa && (n.toNat == ma.length)) 137 (List.drop 0 (List.take n.toNat ma)), .int .i64 tb] [.agg [.lst fy 36 lb, .int .i64 pdb, .int .i64 alb, .bool false]], PCall Try.prog 108 [.lst (xa && (n.toNat == ma.length)) 137 (List.drop 0 (List.take n.toNat ma)), .lst (xb && (k.toNat == mb.length)) 137 (List.drop 0 (List.take k.toNat mb)), .int .i64 ta] [.agg [.lst fx 36 la, .int .i64 pda, .int .i64 ala, .bool false]], PCall Try.prog 107 [.lst (xb && (k.toNat == mb.length)) 137 (List.drop 0 (List.take k.toNat mb)), .lst (xa && (n.toNat == ma.length)) 137 (List.drop 0 (List.take n.toNat ma))] [.bool true], PCall Try.prog 107 [.lst (xa && (n.toNat == ma.length)) 137 (List.drop 0 (List.take n.toNat ma)), .lst (xb && (k.toNat == mb.length)) 137 (List.drop 0 (List.take k.toNat mb))] [.bool true], (0 : Nat) = 0, k = ((k.toNat : Nat) : Int), 0 ≤ k.toNat, k.toNat ≤ mb.length, (0 : Nat) = 0, n = ((n.toNat : Nat) : Int), 0 ≤ n.toNat, n.toNat ≤ ma.length, PCall Try.prog 106 [.lst xb 137 mb, .int .i64 k] [.bool true], PCall Try.prog 106 [.lst xa 137 ma, .int .i64 n] [.bool true], decide (k > ((mb).length : Int)) = false, decide (k < 0) = false, decide (n > ((ma).length : Int)) = false, decide (n < 0) = false, PCall Try.prog 19 [(trT tc ta tb to ts te td tf tr tl tg tx)] [.bool true]]) := by kernel_rfl
theorem rVHTT_5 (tc ta tb to ts te td tf tr tl tg pda ala pdb alb ra rb n k : Int) (tx : List Int) (la lb ma mb : List T) (fx fy xa xb : Bool): topK (Cv [] [19, 106, 107, 108, 109]) 30 48 [] [.p (trT tc ta tb to ts te td tf tr tl tg tx), .p (.lst xa 137 ma), .p (.lst xb 137 mb), .p (.int .i64 n), .p (.int .i64 k)] [(1, false), (0, false), (0, false), (0, false), (8, true)] [] [] [[.bool true], [.bool true], [.bool true], [.bool true], [.bool true], [.agg [.lst fx 36 la, .int .i64 pda, .int .i64 ala, .bool false]], [.agg [.lst fy 36 lb, .int .i64 pdb, .int .i64 alb, .bool false]], [.int .i64 ra, .bool true], [.int .i64 rb, .bool true]] [.cut 0 n.toNat, .cut 0 k.toNat] = some ([.p (.agg [.int .i64 0, .int .i64 0, .lst true 36 []]), .p (.int .i64 150)], [], [decide (((la).length : Int) > 16) = true, PCall Try.prog 109 [.int .i64 te, .int .i64 alb, .int .i64 pda] [.int .i64 rb, .bool true], PCall Try.prog 109 [.int .i64 ts, .int .i64 ala, .int .i64 pdb] [.int .i64 ra, .bool true], (some (.box (.p (trT tc ta tb to ts te td tf tr tl tg tx))) : Option SObj) = (some (.box (.p (trT tc ta tb to ts te td tf tr tl tg tx))) : Option SObj), (some (.box (.p (trT tc ta tb to ts te td tf tr tl tg tx))) : Option SObj) = (some (.box (.p (trT tc ta tb to ts te td tf tr tl tg tx))) : Option SObj), (some (.box (.p (trT tc ta tb to ts te td tf tr tl tg tx))) : Option SObj) = (some (.box (.p (trT tc ta tb to ts te td tf tr tl tg tx))) : Option SObj), (some (.box (.p (trT tc ta tb to ts te td tf tr tl tg tx))) : Option SObj) = (some (.box (.p (trT tc ta tb to ts te td tf tr tl tg tx))) : Option SObj), PCall Try.prog 108 [.lst (xb && (k.toNat == mb.length)) 137 (List.drop 0 (List.take k.toNat mb)), .lst (xa && (n.toNat == ma.length)) 137 (List.drop 0 (List.take n.toNat ma)), .int .i64 tb] [.agg [.lst fy 36 lb, .int .i64 pdb, .int .i64 alb, .bool false]], PCall Try.prog 108 [.lst (xa && (n.toNat == ma.length)) 137 (List.drop 0 (List.take n.toNat ma)), .lst (xb && (k.toNat == mb.length)) 137 (List.drop 0 (List.take k.toNat mb)), .int .i64 ta] [.agg [.lst fx 36 la, .int .i64 pda, .int .i64 ala, .bool false]], PCall Try.prog 107 [.lst (xb && (k.toNat == mb.length)) 137 (List.drop 0 (List.take k.toNat mb)), .lst (xa && (n.toNat == ma.length)) 137 (List.drop 0 (List.take n.toNat ma))] [.bool true], PCall Try.prog 107 [.lst (xa && (n.toNat == ma.length)) 137 (List.drop 0 (List.take n.toNat ma)), .lst (xb && (k.toNat == mb.length)) 137 (List.drop 0 (List.take k.toNat mb))] [.bool true], (0 : Nat) = 0, k = ((k.toNat : Nat) : Int), 0 ≤ k.toNat, k.toNat ≤ mb.length, (0 : Nat) = 0, n = ((n.toNat : Nat) : Int), 0 ≤ n.toNat, n.toNat ≤ ma.length, PCall Try.prog 106 [.lst xb 137 mb, .int .i64 k] [.bool true], PCall Try.prog 106 [.lst xa 137 ma, .int .i64 n] [.bool true], decide (k > ((mb).length : Int)) = false, decide (k < 0) = false, decide (n > ((ma).length : Int)) = false, decide (n < 0) = false, PCall Try.prog 19 [(trT tc ta tb to ts te td tf tr tl tg tx)] [.bool true]]) := by kernel_rfl
theorem rVHTT_6 (tc ta tb to ts te td tf tr tl tg pda ala pdb alb ra rb n k : Int) (tx : List Int) (la lb ma mb : List T) (fx fy xa xb : Bool): topK (Cv [] [19, 106, 107, 108, 109]) 30 48 [] [.p (trT tc ta tb to ts te td tf tr tl tg tx), .p (.lst xa 137 ma), .p (.lst xb 137 mb), .p (.int .i64 n), .p (.int .i64 k)] [(1, false), (0, false), (0, false), (0, false), (8, false), (0, true)] [] [] [[.bool true], [.bool true], [.bool true], [.bool true], [.bool true], [.agg [.lst fx 36 la, .int .i64 pda, .int .i64 ala, .bool false]], [.agg [.lst fy 36 lb, .int .i64 pdb, .int .i64 alb, .bool false]], [.int .i64 ra, .bool true], [.int .i64 rb, .bool true]] [.cut 0 n.toNat, .cut 0 k.toNat] = some ([.p (.agg [.int .i64 0, .int .i64 0, .lst true 36 []]), .p (.int .i64 150)], [], [decide (((lb).length : Int) > 16) = true, decide (((la).length : Int) > 16) = false, PCall Try.prog 109 [.int .i64 te, .int .i64 alb, .int .i64 pda] [.int .i64 rb, .bool true], PCall Try.prog 109 [.int .i64 ts, .int .i64 ala, .int .i64 pdb] [.int .i64 ra, .bool true], (some (.box (.p (trT tc ta tb to ts te td tf tr tl tg tx))) : Option SObj) = (some (.box (.p (trT tc ta tb to ts te td tf tr tl tg tx))) : Option SObj), (some (.box (.p (trT tc ta tb to ts te td tf tr tl tg tx))) : Option SObj) = (some (.box (.p (trT tc ta tb to ts te td tf tr tl tg tx))) : Option SObj), (some (.box (.p (trT tc ta tb to ts te td tf tr tl tg tx))) : Option SObj) = (some (.box (.p (trT tc ta tb to ts te td tf tr tl tg tx))) : Option SObj), (some (.box (.p (trT tc ta tb to ts te td tf tr tl tg tx))) : Option SObj) = (some (.box (.p (trT tc ta tb to ts te td tf tr tl tg tx))) : Option SObj), PCall Try.prog 108 [.lst (xb && (k.toNat == mb.length)) 137 (List.drop 0 (List.take k.toNat mb)), .lst (xa && (n.toNat == ma.length)) 137 (List.drop 0 (List.take n.toNat ma)), .int .i64 tb] [.agg [.lst fy 36 lb, .int .i64 pdb, .int .i64 alb, .bool false]], PCall Try.prog 108 [.lst (xa && (n.toNat == ma.length)) 137 (List.drop 0 (List.take n.toNat ma)), .lst (xb && (k.toNat == mb.length)) 137 (List.drop 0 (List.take k.toNat mb)), .int .i64 ta] [.agg [.lst fx 36 la, .int .i64 pda, .int .i64 ala, .bool false]], PCall Try.prog 107 [.lst (xb && (k.toNat == mb.length)) 137 (List.drop 0 (List.take k.toNat mb)), .lst (xa && (n.toNat == ma.length)) 137 (List.drop 0 (List.take n.toNat ma))] [.bool true], PCall Try.prog 107 [.lst (xa && (n.toNat == ma.length)) 137 (List.drop 0 (List.take n.toNat ma)), .lst (xb && (k.toNat == mb.length)) 137 (List.drop 0 (List.take k.toNat mb))] [.bool true], (0 : Nat) = 0, k = ((k.toNat : Nat) : Int), 0 ≤ k.toNat, k.toNat ≤ mb.length, (0 : Nat) = 0, n = ((n.toNat : Nat) : Int), 0 ≤ n.toNat, n.toNat ≤ ma.length, PCall Try.prog 106 [.lst xb 137 mb, .int .i64 k] [.bool true], PCall Try.prog 106 [.lst xa 137 ma, .int .i64 n] [.bool true], decide (k > ((mb).length : Int)) = false, decide (k < 0) = false, decide (n > ((ma).length : Int)) = false, decide (n < 0) = false, PCall Try.prog 19 [(trT tc ta tb to ts te td tf tr tl tg tx)] [.bool true]]) := by kernel_rfl
theorem rofP_0 (m : Msg) (k i c nn ee pd al wh : Int) (ls lo : List T) (x y : Bool): bodyK (Cv [((89, 21), m.t)] [151, 72]) 30 108 0 (loopAt Try.f108 0) ⟨75, [(0, .p (.lst x 137 ls)), (1, .p (.lst y 137 lo)), (2, .p (.int .i64 wh)), (6, .ptr 0 0), (7, .ptr 1 0), (8, .p (.int .i64 i))], (qV4 pd al)⟩ [(0, true), (0, false), (0, false), (0, false), (0, false)] [] [0, 1, 2, 6, 7, 8] [] [[.int .i64 k, .int .i64 c], [.int .i64 nn, .int .i64 ee]] [] = some (.normal, ⟨75, [(8, .p (.int .i64 (IntKind.i64.wrap (i + 1)))), (2, .p (.int .i64 wh)), (1, .p (.lst y 137 lo)), (0, .p (.lst x 137 ls)), (7, .ptr 1 0), (6, .ptr 0 0)], [.box (.p (.agg [.lst true 36 [], .int .i64 0, .int .i64 0, .bool false])), .box (.agg [.row 3 0 (.lst false 36 [(hT wh m)]), .p (.int .i64 pd), .p (.int .i64 nn), .p (.bool false)]), .box (.p (m.t)), .row 0 36]⟩, [(0 + 1 ≤ 4294967296 ∨ (0 + 1 ≤ 9223372036854775807 ∧ (0 + 1) * 64 ≤ 140737488355328)), (k == 2) = false, (ee != 0) = false, PCall Try.prog 72 [.int .i64 al, .int .i64 m.am] [.int .i64 nn, .int .i64 ee], (k == 3) = false, PCall Try.prog 151 [.lst y 137 lo, .int .i64 m.id] [.int .i64 k, .int .i64 c], (m.kd != 1) = false, (0 : Int) ≤ i ∧ ls[(i : Int).toNat]? = some (m.t), decide (i < ((ls).length : Int)) = true]) := by kernel_rfl
theorem rofP_1 (m : Msg) (k i c nn ee pd al wh : Int) (ls lo : List T) (x y : Bool): bodyK (Cv [((89, 21), m.t)] [151, 72]) 30 108 0 (loopAt Try.f108 0) ⟨75, [(0, .p (.lst x 137 ls)), (1, .p (.lst y 137 lo)), (2, .p (.int .i64 wh)), (6, .ptr 0 0), (7, .ptr 1 0), (8, .p (.int .i64 i))], (qV4 pd al)⟩ [(0, false)] [] [0, 1, 2, 6, 7, 8] [] [[.int .i64 k, .int .i64 c], [.int .i64 nn, .int .i64 ee]] [] = some (.exit 0, ⟨75, [(8, .p (.int .i64 i)), (2, .p (.int .i64 wh)), (1, .p (.lst y 137 lo)), (0, .p (.lst x 137 ls)), (7, .ptr 1 0), (6, .ptr 0 0)], (qV4 pd al)⟩, [decide (i < ((ls).length : Int)) = false]) := by kernel_rfl
theorem rofP_2 (m : Msg) (k i c nn ee pd al wh : Int) (ls lo : List T) (x y : Bool): bodyK (Cv [((89, 21), m.t)] [151, 72]) 30 108 0 (loopAt Try.f108 0) ⟨75, [(0, .p (.lst x 137 ls)), (1, .p (.lst y 137 lo)), (2, .p (.int .i64 wh)), (6, .ptr 0 0), (7, .ptr 1 0), (8, .p (.int .i64 i))], (qV4 pd al)⟩ [(0, true), (0, true)] [] [0, 1, 2, 6, 7, 8] [] [[.int .i64 k, .int .i64 c], [.int .i64 nn, .int .i64 ee]] [] = some (.normal, ⟨75, [(8, .p (.int .i64 (IntKind.i64.wrap (i + 1)))), (2, .p (.int .i64 wh)), (1, .p (.lst y 137 lo)), (0, .p (.lst x 137 ls)), (7, .ptr 1 0), (6, .ptr 0 0)], (qV3 pd al m)⟩, [(m.kd != 1) = true, (0 : Int) ≤ i ∧ ls[(i : Int).toNat]? = some (m.t), decide (i < ((ls).length : Int)) = true]) := by kernel_rfl
theorem rofP_3 (m : Msg) (k i c nn ee pd al wh : Int) (ls lo : List T) (x y : Bool): bodyK (Cv [((89, 21), m.t)] [151, 72]) 30 108 0 (loopAt Try.f108 0) ⟨75, [(0, .p (.lst x 137 ls)), (1, .p (.lst y 137 lo)), (2, .p (.int .i64 wh)), (6, .ptr 0 0), (7, .ptr 1 0), (8, .p (.int .i64 i))], (qV4 pd al)⟩ [(0, true), (0, false), (0, true)] [] [0, 1, 2, 6, 7, 8] [] [[.int .i64 k, .int .i64 c], [.int .i64 nn, .int .i64 ee]] [] = some (.normal, ⟨75, [(8, .p (.int .i64 (IntKind.i64.wrap (i + 1)))), (2, .p (.int .i64 wh)), (1, .p (.lst y 137 lo)), (0, .p (.lst x 137 ls)), (7, .ptr 1 0), (6, .ptr 0 0)], (qV3 pd al m)⟩, [(k == 3) = true, PCall Try.prog 151 [.lst y 137 lo, .int .i64 m.id] [.int .i64 k, .int .i64 c], (m.kd != 1) = false, (0 : Int) ≤ i ∧ ls[(i : Int).toNat]? = some (m.t), decide (i < ((ls).length : Int)) = true]) := by kernel_rfl
theorem rofP_4 (m : Msg) (k i c nn ee pd al wh : Int) (ls lo : List T) (x y : Bool): bodyK (Cv [((89, 21), m.t)] [151, 72]) 30 108 0 (loopAt Try.f108 0) ⟨75, [(0, .p (.lst x 137 ls)), (1, .p (.lst y 137 lo)), (2, .p (.int .i64 wh)), (6, .ptr 0 0), (7, .ptr 1 0), (8, .p (.int .i64 i))], (qV4 pd al)⟩ [(0, true), (0, false), (0, false), (0, true)] [] [0, 1, 2, 6, 7, 8] [] [[.int .i64 k, .int .i64 c], [.int .i64 nn, .int .i64 ee]] [] = some (.ret, ⟨75, [(1, .p (.lst y 137 lo)), (0, .p (.lst x 137 ls)), (6, .ptr 0 0), (2, .p (.int .i64 wh)), (7, .ptr 1 0), (8, .p (.int .i64 i))], [.box (.p (.agg [.lst true 36 [], .int .i64 pd, .int .i64 al, .bool true])), .box (.p (.agg [.lst true 36 [], .int .i64 pd, .int .i64 al, .bool true])), .box (.p (m.t))]⟩, [(ee != 0) = true, PCall Try.prog 72 [.int .i64 al, .int .i64 m.am] [.int .i64 nn, .int .i64 ee], (k == 3) = false, PCall Try.prog 151 [.lst y 137 lo, .int .i64 m.id] [.int .i64 k, .int .i64 c], (m.kd != 1) = false, (0 : Int) ≤ i ∧ ls[(i : Int).toNat]? = some (m.t), decide (i < ((ls).length : Int)) = true]) := by kernel_rfl
theorem rofP_5 (m : Msg) (k i c nn ee pd al wh : Int) (ls lo : List T) (x y : Bool): bodyK (Cv [((89, 21), m.t)] [151, 72]) 30 108 0 (loopAt Try.f108 0) ⟨75, [(0, .p (.lst x 137 ls)), (1, .p (.lst y 137 lo)), (2, .p (.int .i64 wh)), (6, .ptr 0 0), (7, .ptr 1 0), (8, .p (.int .i64 i))], (qV4 pd al)⟩ [(0, true), (0, false), (0, false), (0, false), (0, true)] [] [0, 1, 2, 6, 7, 8] [] [[.int .i64 k, .int .i64 c], [.int .i64 nn, .int .i64 ee]] [] = some (.normal, ⟨75, [(8, .p (.int .i64 (IntKind.i64.wrap (i + 1)))), (2, .p (.int .i64 wh)), (1, .p (.lst y 137 lo)), (0, .p (.lst x 137 ls)), (7, .ptr 1 0), (6, .ptr 0 0)], [.box (.p (.agg [.lst true 36 [], .int .i64 0, .int .i64 0, .bool false])), .box (.p (.agg [.lst true 36 [], .int .i64 (IntKind.i64.wrap (pd + m.am)), .int .i64 nn, .bool false])), .box (.p (m.t))]⟩, [(k == 2) = true, (ee != 0) = false, PCall Try.prog 72 [.int .i64 al, .int .i64 m.am] [.int .i64 nn, .int .i64 ee], (k == 3) = false, PCall Try.prog 151 [.lst y 137 lo, .int .i64 m.id] [.int .i64 k, .int .i64 c], (m.kd != 1) = false, (0 : Int) ≤ i ∧ ls[(i : Int).toNat]? = some (m.t), decide (i < ((ls).length : Int)) = true]) := by kernel_rfl
theorem rofQ_0 (m g : Msg) (k i c nn ee pd al wh : Int) (ls lo hs : List T) (x y : Bool): bodyK (Cv [((89, 21), m.t)] [151, 72]) 30 108 0 (loopAt Try.f108 0) ⟨75, [(0, .p (.lst x 137 ls)), (1, .p (.lst y 137 lo)), (2, .p (.int .i64 wh)), (6, .ptr 0 0), (7, .ptr 1 0), (8, .p (.int .i64 i))], (qV2 hs pd al g)⟩ [(0, true), (0, false), (0, false), (0, false), (0, false)] [] [0, 1, 2, 6, 7, 8] [] [[.int .i64 k, .int .i64 c], [.int .i64 nn, .int .i64 ee]] [] = some (.normal, ⟨75, [(8, .p (.int .i64 (IntKind.i64.wrap (i + 1)))), (2, .p (.int .i64 wh)), (1, .p (.lst y 137 lo)), (0, .p (.lst x 137 ls)), (7, .ptr 1 0), (6, .ptr 0 0)], [.box (.p (.agg [.lst true 36 [], .int .i64 0, .int .i64 0, .bool false])), .box (.agg [.row 3 1 (.lst false 36 (hs ++ [(hT wh m)])), .p (.int .i64 pd), .p (.int .i64 nn), .p (.bool false)]), .box (.p (g.t)), .row 1 36, .box (.p (m.t))]⟩, [((hs).length + 1 ≤ 4294967296 ∨ ((hs).length + 1 ≤ 9223372036854775807 ∧ ((hs).length + 1) * 64 ≤ 140737488355328)), (k == 2) = false, (ee != 0) = false, PCall Try.prog 72 [.int .i64 al, .int .i64 m.am] [.int .i64 nn, .int .i64 ee], (k == 3) = false, PCall Try.prog 151 [.lst y 137 lo, .int .i64 m.id] [.int .i64 k, .int .i64 c], (m.kd != 1) = false, (0 : Int) ≤ i ∧ ls[(i : Int).toNat]? = some (m.t), decide (i < ((ls).length : Int)) = true]) := by kernel_rfl
theorem rofQ_1 (m g : Msg) (k i c nn ee pd al wh : Int) (ls lo hs : List T) (x y : Bool): bodyK (Cv [((89, 21), m.t)] [151, 72]) 30 108 0 (loopAt Try.f108 0) ⟨75, [(0, .p (.lst x 137 ls)), (1, .p (.lst y 137 lo)), (2, .p (.int .i64 wh)), (6, .ptr 0 0), (7, .ptr 1 0), (8, .p (.int .i64 i))], (qV2 hs pd al g)⟩ [(0, false)] [] [0, 1, 2, 6, 7, 8] [] [[.int .i64 k, .int .i64 c], [.int .i64 nn, .int .i64 ee]] [] = some (.exit 0, ⟨75, [(8, .p (.int .i64 i)), (2, .p (.int .i64 wh)), (1, .p (.lst y 137 lo)), (0, .p (.lst x 137 ls)), (7, .ptr 1 0), (6, .ptr 0 0)], (qV2 hs pd al g)⟩, [decide (i < ((ls).length : Int)) = false]) := by kernel_rfl
theorem rofQ_2 (m g : Msg) (k i c nn ee pd al wh : Int) (ls lo hs : List T) (x y : Bool): bodyK (Cv [((89, 21), m.t)] [151, 72]) 30 108 0 (loopAt Try.f108 0) ⟨75, [(0, .p (.lst x 137 ls)), (1, .p (.lst y 137 lo)), (2, .p (.int .i64 wh)), (6, .ptr 0 0), (7, .ptr 1 0), (8, .p (.int .i64 i))], (qV2 hs pd al g)⟩ [(0, true), (0, true)] [] [0, 1, 2, 6, 7, 8] [] [[.int .i64 k, .int .i64 c], [.int .i64 nn, .int .i64 ee]] [] = some (.normal, ⟨75, [(8, .p (.int .i64 (IntKind.i64.wrap (i + 1)))), (2, .p (.int .i64 wh)), (1, .p (.lst y 137 lo)), (0, .p (.lst x 137 ls)), (7, .ptr 1 0), (6, .ptr 0 0)], (qV1 hs pd al g m)⟩, [(m.kd != 1) = true, (0 : Int) ≤ i ∧ ls[(i : Int).toNat]? = some (m.t), decide (i < ((ls).length : Int)) = true]) := by kernel_rfl
theorem rofQ_3 (m g : Msg) (k i c nn ee pd al wh : Int) (ls lo hs : List T) (x y : Bool): bodyK (Cv [((89, 21), m.t)] [151, 72]) 30 108 0 (loopAt Try.f108 0) ⟨75, [(0, .p (.lst x 137 ls)), (1, .p (.lst y 137 lo)), (2, .p (.int .i64 wh)), (6, .ptr 0 0), (7, .ptr 1 0), (8, .p (.int .i64 i))], (qV2 hs pd al g)⟩ [(0, true), (0, false), (0, true)] [] [0, 1, 2, 6, 7, 8] [] [[.int .i64 k, .int .i64 c], [.int .i64 nn, .int .i64 ee]] [] = some (.normal, ⟨75, [(8, .p (.int .i64 (IntKind.i64.wrap (i + 1)))), (2, .p (.int .i64 wh)), (1, .p (.lst y 137 lo)), (0, .p (.lst x 137 ls)), (7, .ptr 1 0), (6, .ptr 0 0)], (qV1 hs pd al g m)⟩, [(k == 3) = true, PCall Try.prog 151 [.lst y 137 lo, .int .i64 m.id] [.int .i64 k, .int .i64 c], (m.kd != 1) = false, (0 : Int) ≤ i ∧ ls[(i : Int).toNat]? = some (m.t), decide (i < ((ls).length : Int)) = true]) := by kernel_rfl
theorem rofQ_4 (m g : Msg) (k i c nn ee pd al wh : Int) (ls lo hs : List T) (x y : Bool): bodyK (Cv [((89, 21), m.t)] [151, 72]) 30 108 0 (loopAt Try.f108 0) ⟨75, [(0, .p (.lst x 137 ls)), (1, .p (.lst y 137 lo)), (2, .p (.int .i64 wh)), (6, .ptr 0 0), (7, .ptr 1 0), (8, .p (.int .i64 i))], (qV2 hs pd al g)⟩ [(0, true), (0, false), (0, false), (0, true)] [] [0, 1, 2, 6, 7, 8] [] [[.int .i64 k, .int .i64 c], [.int .i64 nn, .int .i64 ee]] [] = some (.ret, ⟨75, [(1, .p (.lst y 137 lo)), (0, .p (.lst x 137 ls)), (6, .ptr 0 0), (2, .p (.int .i64 wh)), (7, .ptr 1 0), (8, .p (.int .i64 i))], [.box (.agg [.row 3 0 (.lst false 36 hs), .p (.int .i64 pd), .p (.int .i64 al), .p (.bool true)]), .box (.agg [.row 3 0 (.lst false 36 hs), .p (.int .i64 pd), .p (.int .i64 al), .p (.bool true)]), .box (.p (g.t)), .row 0 36, .box (.p (m.t))]⟩, [(ee != 0) = true, PCall Try.prog 72 [.int .i64 al, .int .i64 m.am] [.int .i64 nn, .int .i64 ee], (k == 3) = false, PCall Try.prog 151 [.lst y 137 lo, .int .i64 m.id] [.int .i64 k, .int .i64 c], (m.kd != 1) = false, (0 : Int) ≤ i ∧ ls[(i : Int).toNat]? = some (m.t), decide (i < ((ls).length : Int)) = true]) := by kernel_rfl
theorem rofQ_5 (m g : Msg) (k i c nn ee pd al wh : Int) (ls lo hs : List T) (x y : Bool): bodyK (Cv [((89, 21), m.t)] [151, 72]) 30 108 0 (loopAt Try.f108 0) ⟨75, [(0, .p (.lst x 137 ls)), (1, .p (.lst y 137 lo)), (2, .p (.int .i64 wh)), (6, .ptr 0 0), (7, .ptr 1 0), (8, .p (.int .i64 i))], (qV2 hs pd al g)⟩ [(0, true), (0, false), (0, false), (0, false), (0, true)] [] [0, 1, 2, 6, 7, 8] [] [[.int .i64 k, .int .i64 c], [.int .i64 nn, .int .i64 ee]] [] = some (.normal, ⟨75, [(8, .p (.int .i64 (IntKind.i64.wrap (i + 1)))), (2, .p (.int .i64 wh)), (1, .p (.lst y 137 lo)), (0, .p (.lst x 137 ls)), (7, .ptr 1 0), (6, .ptr 0 0)], [.box (.p (.agg [.lst true 36 [], .int .i64 0, .int .i64 0, .bool false])), .box (.agg [.row 3 0 (.lst false 36 hs), .p (.int .i64 (IntKind.i64.wrap (pd + m.am))), .p (.int .i64 nn), .p (.bool false)]), .box (.p (g.t)), .row 0 36, .box (.p (m.t))]⟩, [(k == 2) = true, (ee != 0) = false, PCall Try.prog 72 [.int .i64 al, .int .i64 m.am] [.int .i64 nn, .int .i64 ee], (k == 3) = false, PCall Try.prog 151 [.lst y 137 lo, .int .i64 m.id] [.int .i64 k, .int .i64 c], (m.kd != 1) = false, (0 : Int) ≤ i ∧ ls[(i : Int).toNat]? = some (m.t), decide (i < ((ls).length : Int)) = true]) := by kernel_rfl
theorem rofTP (i pd al wh : Int) (ls lo : List T) (x y : Bool): topK (Cv [] [151, 72]) 30 108 [] [.p (.lst x 137 ls), .p (.lst y 137 lo), .p (.int .i64 wh)] [] [some ([0, 1, 2, 6, 7, 8], .exit 0, ⟨75, [(0, .p (.lst x 137 ls)), (1, .p (.lst y 137 lo)), (2, .p (.int .i64 wh)), (6, .ptr 0 0), (7, .ptr 1 0), (8, .p (.int .i64 i))], (qV4 pd al)⟩)] [] [] [] = some ([.p (.agg [.lst true 36 [], .int .i64 pd, .int .i64 al, .bool false])], [], [LoopG Try.prog 0 (loopAt Try.f108 0) ⟨75, [(8, .p (.int .i64 0)), (7, .ptr 1 0), (6, .ptr 0 0), (0, .p (.lst x 137 ls)), (1, .p (.lst y 137 lo)), (2, .p (.int .i64 wh))], qV6⟩ (.exit 0) ⟨75, [(0, .p (.lst x 137 ls)), (1, .p (.lst y 137 lo)), (2, .p (.int .i64 wh)), (6, .ptr 0 0), (7, .ptr 1 0), (8, .p (.int .i64 i))], (qV4 pd al)⟩]) := by kernel_rfl
theorem rofTQ (g : Msg) (i pd al wh : Int) (ls lo hs : List T) (x y : Bool): topK (Cv [] [151, 72]) 30 108 [] [.p (.lst x 137 ls), .p (.lst y 137 lo), .p (.int .i64 wh)] [] [some ([0, 1, 2, 6, 7, 8], .exit 0, ⟨75, [(0, .p (.lst x 137 ls)), (1, .p (.lst y 137 lo)), (2, .p (.int .i64 wh)), (6, .ptr 0 0), (7, .ptr 1 0), (8, .p (.int .i64 i))], (qV2 hs pd al g)⟩)] [] [] [] = some ([.agg [.row 3 0 (.lst false 36 hs), .p (.int .i64 pd), .p (.int .i64 al), .p (.bool false)]], [.box (.agg [.row 3 0 (.lst false 36 hs), .p (.int .i64 pd), .p (.int .i64 al), .p (.bool false)]), .box (.agg [.row 3 0 (.lst false 36 hs), .p (.int .i64 pd), .p (.int .i64 al), .p (.bool false)]), .box (.p (g.t)), .row 0 36], [LoopG Try.prog 0 (loopAt Try.f108 0) ⟨75, [(8, .p (.int .i64 0)), (7, .ptr 1 0), (6, .ptr 0 0), (0, .p (.lst x 137 ls)), (1, .p (.lst y 137 lo)), (2, .p (.int .i64 wh))], qV6⟩ (.exit 0) ⟨75, [(0, .p (.lst x 137 ls)), (1, .p (.lst y 137 lo)), (2, .p (.int .i64 wh)), (6, .ptr 0 0), (7, .ptr 1 0), (8, .p (.int .i64 i))], (qV2 hs pd al g)⟩]) := by kernel_rfl
theorem rofRP (pd al wh : Int) (ls lo : List T) (x y : Bool): topK (Cv [] [151, 72]) 30 108 [] [.p (.lst x 137 ls), .p (.lst y 137 lo), .p (.int .i64 wh)] [] [some ([0, 1, 2, 6, 7, 8], .ret, ⟨75, [(6, .ptr 0 0)], (qV5 pd al)⟩)] [] [] [] = some ([.p (.agg [.lst true 36 [], .int .i64 pd, .int .i64 al, .bool true])], [], [LoopG Try.prog 0 (loopAt Try.f108 0) ⟨75, [(8, .p (.int .i64 0)), (7, .ptr 1 0), (6, .ptr 0 0), (0, .p (.lst x 137 ls)), (1, .p (.lst y 137 lo)), (2, .p (.int .i64 wh))], qV6⟩ (.ret) ⟨75, [(6, .ptr 0 0)], (qV5 pd al)⟩]) := by kernel_rfl
theorem rofRQ (g : Msg) (pd al wh : Int) (ls lo hs : List T) (x y : Bool): topK (Cv [] [151, 72]) 30 108 [] [.p (.lst x 137 ls), .p (.lst y 137 lo), .p (.int .i64 wh)] [] [some ([0, 1, 2, 6, 7, 8], .ret, ⟨75, [(6, .ptr 0 0)], (qV0 hs pd al g)⟩)] [] [] [] = some ([.agg [.row 3 0 (.lst false 36 hs), .p (.int .i64 pd), .p (.int .i64 al), .p (.bool true)]], (qV0 hs pd al g), [LoopG Try.prog 0 (loopAt Try.f108 0) ⟨75, [(8, .p (.int .i64 0)), (7, .ptr 1 0), (6, .ptr 0 0), (0, .p (.lst x 137 ls)), (1, .p (.lst y 137 lo)), (2, .p (.int .i64 wh))], qV6⟩ (.ret) ⟨75, [(6, .ptr 0 0)], (qV0 hs pd al g)⟩]) := by kernel_rfl
theorem svB (ra rb i hb hi hm he : Int) (hh : List Int) (rh : List T) (fr : Bool): bodyK (Cv [((27, 35), (H.t ⟨hb, hi, hm, hh, he⟩)), ((27, 40), (H.t ⟨hb, hi, hm, hh, he⟩))] []) 30 50 0 (loopAt Try.f50 0) ⟨45, [(2, .ptr 0 0), (3, .ptr 1 0), (5, .p (.int .i64 i))], [.box (.p (.agg [.int .i64 ra, .int .i64 rb, .lst fr 36 rh])), .box (.p (.agg [.int .i64 ra, .int .i64 rb, .lst fr 36 rh]))]⟩ [(0, true), (0, false)] [] [2, 3, 5] [] [] [] = some (.normal, ⟨45, [(5, .p (.int .i64 (IntKind.i64.wrap (i + 1)))), (3, .ptr 1 0), (2, .ptr 0 0)], [.box (.p (.agg [.int .i64 ra, .int .i64 rb, .lst fr 36 rh])), .box (.p (.agg [.int .i64 ra, .int .i64 rb, .lst fr 36 rh]))]⟩, [(!T.eqB (H.t ⟨hb, hi, hm, hh, he⟩) (H.t ⟨hb, hi, hm, hh, he⟩)) = false, (0 : Int) ≤ i ∧ rh[(i : Int).toNat]? = some (H.t ⟨hb, hi, hm, hh, he⟩), (0 : Int) ≤ i ∧ rh[(i : Int).toNat]? = some (H.t ⟨hb, hi, hm, hh, he⟩), decide (i < ((rh).length : Int)) = true]) := by kernel_rfl
theorem svX (ra rb i : Int) (rh : List T) (fr : Bool): bodyK (Cv [] []) 30 50 0 (loopAt Try.f50 0) ⟨45, [(2, .ptr 0 0), (3, .ptr 1 0), (5, .p (.int .i64 i))], [.box (.p (.agg [.int .i64 ra, .int .i64 rb, .lst fr 36 rh])), .box (.p (.agg [.int .i64 ra, .int .i64 rb, .lst fr 36 rh]))]⟩ [(0, false)] [] [2, 3, 5] [] [] [] = some (.exit 0, ⟨45, [(5, .p (.int .i64 i)), (3, .ptr 1 0), (2, .ptr 0 0)], [.box (.p (.agg [.int .i64 ra, .int .i64 rb, .lst fr 36 rh])), .box (.p (.agg [.int .i64 ra, .int .i64 rb, .lst fr 36 rh]))]⟩, [decide (i < ((rh).length : Int)) = false]) := by kernel_rfl
theorem svT (ra rb i : Int) (rh : List T) (fr : Bool): topK (Cv [] []) 30 50 [] [.p (.agg [.int .i64 ra, .int .i64 rb, .lst fr 36 rh]), .p (.agg [.int .i64 ra, .int .i64 rb, .lst fr 36 rh])] [(0, false), (0, false), (0, false)] [some ([2, 3, 5], .exit 0, ⟨45, [(2, .ptr 0 0), (3, .ptr 1 0), (5, .p (.int .i64 i))], [.box (.p (.agg [.int .i64 ra, .int .i64 rb, .lst fr 36 rh])), .box (.p (.agg [.int .i64 ra, .int .i64 rb, .lst fr 36 rh]))]⟩)] [] [] [] = some ([.rb true], [], [LoopG Try.prog 0 (loopAt Try.f50 0) ⟨45, [(5, .p (.int .i64 0)), (2, .ptr 0 0), (3, .ptr 1 0)], [.box (.p (.agg [.int .i64 ra, .int .i64 rb, .lst fr 36 rh])), .box (.p (.agg [.int .i64 ra, .int .i64 rb, .lst fr 36 rh]))]⟩ (.exit 0) ⟨45, [(2, .ptr 0 0), (3, .ptr 1 0), (5, .p (.int .i64 i))], [.box (.p (.agg [.int .i64 ra, .int .i64 rb, .lst fr 36 rh])), .box (.p (.agg [.int .i64 ra, .int .i64 rb, .lst fr 36 rh]))]⟩, (((rh).length : Int) != ((rh).length : Int)) = false, (rb != rb) = false, (ra != ra) = false]) := by kernel_rfl
theorem lawK (tc ta tb to ts te td tf tr tl tg ra rb n k c : Int) (tx : List Int) (rh ma mb : List T) (fr xa xb : Bool): topK (Cv [] [47, 48, 49, 50, 51, 52, 21]) 30 6 [] [.p (trT tc ta tb to ts te td tf tr tl tg tx), .p (.lst xa 137 ma), .p (.lst xb 137 mb), .p (.int .i64 n), .p (.int .i64 k)] [(3, true)] [] [] [[.agg [.int .i64 ra, .int .i64 rb, .lst fr 36 rh], .int .i64 0], [.agg [.int .i64 ra, .int .i64 rb, .lst fr 36 rh], .int .i64 0], [.bool true], [.bool true], [.int .i64 c], [.int .i64 c], [.bool true]] [] = some ([.rb true], [], [PCall Try.prog 21 [(trT tc ta tb to ts te td tf tr tl tg tx), .agg [.int .i64 ra, .int .i64 rb, .lst fr 36 rh]] [.bool true], (c == c) = true, PCall Try.prog 52 [.lst xa 137 ma, .int .i64 n] [.int .i64 c], PCall Try.prog 51 [.lst xa 137 ma, .int .i64 n] [.int .i64 c], PCall Try.prog 50 [.agg [.int .i64 ra, .int .i64 rb, .lst fr 36 rh], .agg [.int .i64 ra, .int .i64 rb, .lst fr 36 rh]] [.bool true], PCall Try.prog 49 [] [.bool true], PCall Try.prog 48 [(trT tc ta tb to ts te td tf tr tl tg tx), .lst xa 137 ma, .lst xb 137 mb, .int .i64 n, .int .i64 k] [.agg [.int .i64 ra, .int .i64 rb, .lst fr 36 rh], .int .i64 0], PCall Try.prog 47 [(trT tc ta tb to ts te td tf tr tl tg tx), .lst xa 137 ma, .lst xb 137 mb, .int .i64 n, .int .i64 k] [.agg [.int .i64 ra, .int .i64 rb, .lst fr 36 rh], .int .i64 0]]) := by kernel_rfl
theorem lawE (tc ta tb to ts te td tf tr tl tg ra rb n k e c : Int) (tx : List Int) (rh ma mb : List T) (fr xa xb : Bool): topK (Cv [] [47, 48, 49, 50, 51, 52, 21]) 30 6 [] [.p (trT tc ta tb to ts te td tf tr tl tg tx), .p (.lst xa 137 ma), .p (.lst xb 137 mb), .p (.int .i64 n), .p (.int .i64 k)] [(2, true), (0, true), (0, true)] [] [] [[.agg [.int .i64 ra, .int .i64 rb, .lst fr 36 rh], .int .i64 e], [.agg [.int .i64 ra, .int .i64 rb, .lst fr 36 rh], .int .i64 e], [.bool true], [.bool true], [.int .i64 c], [.int .i64 c], [.bool true]] [] = some ([.rb true], [], [(e != 0) = true, (c == c) = true, PCall Try.prog 52 [.lst xa 137 ma, .int .i64 n] [.int .i64 c], PCall Try.prog 51 [.lst xa 137 ma, .int .i64 n] [.int .i64 c], (e == e) = true, PCall Try.prog 50 [.agg [.int .i64 ra, .int .i64 rb, .lst fr 36 rh], .agg [.int .i64 ra, .int .i64 rb, .lst fr 36 rh]] [.bool true], PCall Try.prog 49 [] [.bool true], PCall Try.prog 48 [(trT tc ta tb to ts te td tf tr tl tg tx), .lst xa 137 ma, .lst xb 137 mb, .int .i64 n, .int .i64 k] [.agg [.int .i64 ra, .int .i64 rb, .lst fr 36 rh], .int .i64 e], PCall Try.prog 47 [(trT tc ta tb to ts te td tf tr tl tg tx), .lst xa 137 ma, .lst xb 137 mb, .int .i64 n, .int .i64 k] [.agg [.int .i64 ra, .int .i64 rb, .lst fr 36 rh], .int .i64 e]]) := by kernel_rfl
def SHow (ls : List T) (n : Int) (x : Bool) (k c i : Int) : St := ⟨41, [(0, .p (.lst x 137 ls)), (1, .p (.int .i64 n)), (6, .p (.int .i64 k)), (7, .p (.int .i64 c)), (8, .p (.int .i64 i))], []⟩
def hwG (n : Int) : List Msg → Int → Int → Int × Int
 | [], k, c => (k, c)
 | m :: r, k, c => bif m.kd != 1 then (bif m.id == n then hwG n r (bif c == 0 then m.kd else k) (IntKind.i64.wrap (c + 1)) else hwG n r k c) else hwG n r k c
theorem how_round (ls : List Msg) (n : Int) (x : Bool) (k c i : Int) (m : Msg) (hx : (0 : Int) ≤ i ∧ (ls.map Msg.t)[i.toNat]? = some m.t) (hlt : i < ls.length) (hi : i < 9223372036854775807) :
  CodeG Try.prog 0 (loopAt Try.f151 0) (SHow (ls.map Msg.t) n x k c i) .normal (SHow (ls.map Msg.t) n x (bif m.kd != 1 then (bif m.id == n then (bif c == 0 then m.kd else k) else k) else k) (bif m.kd != 1 then (bif m.id == n then IntKind.i64.wrap (c + 1) else c) else c) (i + 1)) := by
 have hlt' : decide (i < ((ls.map Msg.t).length : Int)) = true := by simpa using hlt
 have wi : IntKind.i64.wrap (i + 1) = i + 1 := w64 (by omega) (by omega)
 cases c0 : (m.kd != 1) with
 | true =>
  cases c1 : (m.id == n) with
  | true =>
   cases c2 : (c == 0) with
   | true =>
    have r := CodeG.normE (bodyK_sound (Cv_ok _ _) (howB_0 m n k i c (ls.map Msg.t) x) ⟨hx, c2, c1, hx, c0, hx, hlt', trivial⟩) (by omega) (by omega) [0, 1, 6, 7, 8] (m := 0) (k := 0) (st2 := SHow (ls.map Msg.t) n x m.kd (IntKind.i64.wrap (c + 1)) (IntKind.i64.wrap (i + 1))) (by kernel_rfl)
    rw [wi] at r
    simp only [c0, c1, c2, cond_true, cond_false]
    exact r
   | false =>
    have r := CodeG.normE (bodyK_sound (Cv_ok _ _) (howB_4 m n k i c (ls.map Msg.t) x) ⟨c2, c1, hx, c0, hx, hlt', trivial⟩) (by omega) (by omega) [0, 1, 6, 7, 8] (m := 0) (k := 0) (st2 := SHow (ls.map Msg.t) n x k (IntKind.i64.wrap (c + 1)) (IntKind.i64.wrap (i + 1))) (by kernel_rfl)
    rw [wi] at r
    simp only [c0, c1, c2, cond_true, cond_false]
    exact r
  | false =>
   have r := CodeG.normE (bodyK_sound (Cv_ok _ _) (howB_3 m n k i c (ls.map Msg.t) x) ⟨c1, hx, c0, hx, hlt', trivial⟩) (by omega) (by omega) [0, 1, 6, 7, 8] (m := 0) (k := 0) (st2 := SHow (ls.map Msg.t) n x k c (IntKind.i64.wrap (i + 1))) (by kernel_rfl)
   rw [wi] at r
   simp only [c0, c1, cond_true, cond_false]
   exact r
 | false =>
  have r := CodeG.normE (bodyK_sound (Cv_ok _ _) (howB_2 m n k i c (ls.map Msg.t) x) ⟨c0, hx, hlt', trivial⟩) (by omega) (by omega) [0, 1, 6, 7, 8] (m := 0) (k := 0) (st2 := SHow (ls.map Msg.t) n x k c (IntKind.i64.wrap (i + 1))) (by kernel_rfl)
  rw [wi] at r
  simp only [c0, cond_true, cond_false]
  exact r
theorem how_loop (ls : List Msg) (n : Int) (x : Bool) (hl : ls.length * 232 ≤ 140737488355328) : ∀ (r pre : List Msg) (k c : Int), ls = pre ++ r →
  LoopG Try.prog 0 (loopAt Try.f151 0) (SHow (ls.map Msg.t) n x k c (pre.length : Int)) (.exit 0) (SHow (ls.map Msg.t) n x (hwG n r k c).1 (hwG n r k c).2 (ls.length : Int))
 | [], pre, k, c, he => by
  have hp : pre = ls := by rw [he]; simp
  rw [hp]
  exact LoopG.leave (CodeG.normE (bodyK_sound (Cv_ok _ _) (howB_1 mZ n k (ls.length : Int) c (ls.map Msg.t) x) ⟨by simp, trivial⟩) (by omega) (by omega) [0, 1, 6, 7, 8] (m := 0) (k := 0) (by kernel_rfl)) rfl
 | m :: r, pre, k, c, he => by
  have hlen : pre.length + (r.length + 1) = ls.length := by rw [he]; simp
  have h := how_round ls n x k c (pre.length : Int) m ⟨by omega, by rw [he]; simp⟩ (by omega) (by omega)
  have ih := how_loop ls n x hl r (pre ++ [m]) (bif m.kd != 1 then (bif m.id == n then (bif c == 0 then m.kd else k) else k) else k) (bif m.kd != 1 then (bif m.id == n then IntKind.i64.wrap (c + 1) else c) else c) (by rw [he]; simp)
  rw [show (((pre ++ [m]).length : Nat) : Int) = (pre.length : Int) + 1 by simp] at ih
  have e : hwG n (m :: r) k c = hwG n r (bif m.kd != 1 then (bif m.id == n then (bif c == 0 then m.kd else k) else k) else k) (bif m.kd != 1 then (bif m.id == n then IntKind.i64.wrap (c + 1) else c) else c) := by
   simp only [hwG]
   cases m.kd != 1 <;> cases m.id == n <;> rfl
  rw [e]
  exact LoopG.next h ih
theorem how_ok (ls : List Msg) (n : Int) (x : Bool) (hl : ls.length * 232 ≤ 140737488355328) : PCall Try.prog 151 [.lst x 137 (ls.map Msg.t), .int .i64 n] [.int .i64 (hwG n ls 0 0).1, .int .i64 (hwG n ls 0 0).2] :=
 (topK_sound (Cv_ok _ _) (howE n (hwG n ls 0 0).1 (ls.length : Int) (hwG n ls 0 0).2 (ls.map Msg.t) x) ⟨LoopG.preE (by omega) (by omega) [0, 1, 6, 7, 8] (m := 0) (k := 0) (by kernel_rfl) (how_loop ls n x hl ls [] 0 0 rfl), trivial⟩).pure (k := 64) rfl
def SRAdd (ls : List T) (n : Int) (x : Bool) (k i : Int) : St := ⟨27, [(0, .p (.lst x 137 ls)), (1, .p (.int .i64 n)), (5, .p (.int .i64 k)), (6, .p (.int .i64 i))], []⟩
def cnG : List Msg → Int → Int
 | [], k => k
 | m :: r, k => bif m.kd == 1 then cnG r (IntKind.i64.wrap (k + 1)) else cnG r k
theorem rAdds_round (ls : List Msg) (n : Int) (x : Bool) (k i : Int) (m : Msg) (hx : (0 : Int) ≤ i ∧ (ls.map Msg.t)[i.toNat]? = some m.t) (hlt : i < ls.length) (hi : i < 9223372036854775807) (hn : decide (i < n) = true) :
  CodeG Try.prog 0 (loopAt Try.f52 0) (SRAdd (ls.map Msg.t) n x k i) .normal (SRAdd (ls.map Msg.t) n x (bif m.kd == 1 then IntKind.i64.wrap (k + 1) else k) (i + 1)) := by
 have hlt' : decide (i < ((ls.map Msg.t).length : Int)) = true := by simpa using hlt
 have wi : IntKind.i64.wrap (i + 1) = i + 1 := w64 (by omega) (by omega)
 cases c0 : (m.kd == 1) with
 | true =>
  have r := CodeG.normE (bodyK_sound (Cv_ok _ _) (rAddsB_0 m n k i (ls.map Msg.t) x) ⟨c0, hx, hlt', hn, trivial⟩) (by omega) (by omega) [0, 1, 5, 6] (m := 0) (k := 0) (st2 := SRAdd (ls.map Msg.t) n x (IntKind.i64.wrap (k + 1)) (IntKind.i64.wrap (i + 1))) (by kernel_rfl)
  rw [wi] at r
  simp only [c0, cond_true, cond_false]
  exact r
 | false =>
  have r := CodeG.normE (bodyK_sound (Cv_ok _ _) (rAddsB_3 m n k i (ls.map Msg.t) x) ⟨c0, hx, hlt', hn, trivial⟩) (by omega) (by omega) [0, 1, 5, 6] (m := 0) (k := 0) (st2 := SRAdd (ls.map Msg.t) n x k (IntKind.i64.wrap (i + 1))) (by kernel_rfl)
  rw [wi] at r
  simp only [c0, cond_true, cond_false]
  exact r
theorem rAdds_loop (ls : List Msg) (n : Int) (x : Bool) (hl : ls.length * 232 ≤ 140737488355328) : ∀ (r pre : List Msg) (k : Int), ls = pre ++ r → (pre.length : Int) ≤ max n 0 →
  ∃ j, LoopG Try.prog 0 (loopAt Try.f52 0) (SRAdd (ls.map Msg.t) n x k (pre.length : Int)) (.exit 0) (SRAdd (ls.map Msg.t) n x (cnG (r.take (n.toNat - pre.length)) k) j)
 | [], pre, k, he, hp => by
  have hp : pre = ls := by rw [he]; simp
  rw [hp]
  refine ⟨(ls.length : Int), ?_⟩
  simp only [List.take_nil, cnG]
  cases hn : decide ((ls.length : Int) < n) with
  | true => exact LoopG.leave (CodeG.normE (bodyK_sound (Cv_ok _ _) (rAddsB_2 mZ n k (ls.length : Int) (ls.map Msg.t) x) ⟨by simp, hn, trivial⟩) (by omega) (by omega) [0, 1, 5, 6] (m := 0) (k := 0) (by kernel_rfl)) rfl
  | false => exact LoopG.leave (CodeG.normE (bodyK_sound (Cv_ok _ _) (rAddsB_1 mZ n k (ls.length : Int) (ls.map Msg.t) x) ⟨hn, trivial⟩) (by omega) (by omega) [0, 1, 5, 6] (m := 0) (k := 0) (by kernel_rfl)) rfl
 | m :: r, pre, k, he, hp => by
  have hlen : pre.length + (r.length + 1) = ls.length := by rw [he]; simp
  cases hn : decide ((pre.length : Int) < n) with
  | false =>
   refine ⟨(pre.length : Int), ?_⟩
   have h0 : n.toNat - pre.length = 0 := by simp only [decide_eq_false_iff_not] at hn; omega
   rw [h0]
   simp only [List.take_zero, cnG]
   exact LoopG.leave (CodeG.normE (bodyK_sound (Cv_ok _ _) (rAddsB_1 mZ n k (pre.length : Int) (ls.map Msg.t) x) ⟨hn, trivial⟩) (by omega) (by omega) [0, 1, 5, 6] (m := 0) (k := 0) (by kernel_rfl)) rfl
  | true =>
   have h := rAdds_round ls n x k (pre.length : Int) m ⟨by omega, by rw [he]; simp⟩ (by omega) (by omega) hn
   simp only [decide_eq_true_eq] at hn
   obtain ⟨j, ih⟩ := rAdds_loop ls n x hl r (pre ++ [m]) (bif m.kd == 1 then IntKind.i64.wrap (k + 1) else k) (by rw [he]; simp) (by simp; omega)
   rw [show (((pre ++ [m]).length : Nat) : Int) = (pre.length : Int) + 1 by simp] at ih
   have e1 : n.toNat - pre.length = (n.toNat - (pre ++ [m]).length) + 1 := by simp; omega
   refine ⟨j, ?_⟩
   rw [e1, List.take_succ_cons]
   have e2 : cnG (m :: r.take (n.toNat - (pre ++ [m]).length)) k = cnG (r.take (n.toNat - (pre ++ [m]).length)) (bif m.kd == 1 then IntKind.i64.wrap (k + 1) else k) := by
    simp only [cnG]
    cases m.kd == 1 <;> rfl
   rw [e2]
   exact LoopG.next h ih
theorem rAdds_ok (ls : List Msg) (n : Int) (x : Bool) (hl : ls.length * 232 ≤ 140737488355328) : PCall Try.prog 52 [.lst x 137 (ls.map Msg.t), .int .i64 n] [.int .i64 (cnG (ls.take n.toNat) 0)] := by
 obtain ⟨j, h⟩ := rAdds_loop ls n x hl ls [] 0 rfl (by simp; omega)
 exact (topK_sound (Cv_ok _ _) (rAddsE n (cnG (ls.take n.toNat) 0) j (ls.map Msg.t) x) ⟨LoopG.preE (by omega) (by omega) [0, 1, 5, 6] (m := 0) (k := 0) (by kernel_rfl) h, trivial⟩).pure (k := 64) rfl
def SAdd (ls : List T) (x : Bool) (k i : Int) : St := ⟨27, [(5, .p (.int .i64 k)), (14, .p (.lst x 137 ls)), (15, .p (.int .i64 ((ls).length : Int))), (16, .p (.int .i64 i))], []⟩
theorem adds_round (ls : List Msg) (x : Bool) (k i : Int) (m : Msg) (hx : (0 : Int) ≤ i ∧ (ls.map Msg.t)[i.toNat]? = some m.t) (hlt : i < ls.length) (hi : i < 9223372036854775807) :
  CodeG Try.prog 0 (loopAt Try.f51 0) (SAdd (ls.map Msg.t) x k i) .normal (SAdd (ls.map Msg.t) x (bif m.kd == 1 then IntKind.i64.wrap (k + 1) else k) (i + 1)) := by
 have hlt' : decide (i < ((ls.map Msg.t).length : Int)) = true := by simpa using hlt
 have wi : IntKind.i64.wrap (i + 1) = i + 1 := w64 (by omega) (by omega)
 cases c0 : (m.kd == 1) with
 | true =>
  have r := CodeG.normE (bodyK_sound (Cv_ok _ _) (AddsB_0 m k i (ls.map Msg.t) x) ⟨c0, hx, hlt', trivial⟩) (by omega) (by omega) [5, 14, 15, 16] (m := 0) (k := 0) (st2 := SAdd (ls.map Msg.t) x (IntKind.i64.wrap (k + 1)) (IntKind.i64.wrap (i + 1))) (by kernel_rfl)
  rw [wi] at r
  simp only [c0, cond_true, cond_false]
  exact r
 | false =>
  have r := CodeG.normE (bodyK_sound (Cv_ok _ _) (AddsB_2 m k i (ls.map Msg.t) x) ⟨c0, hx, hlt', trivial⟩) (by omega) (by omega) [5, 14, 15, 16] (m := 0) (k := 0) (st2 := SAdd (ls.map Msg.t) x k (IntKind.i64.wrap (i + 1))) (by kernel_rfl)
  rw [wi] at r
  simp only [c0, cond_true, cond_false]
  exact r
theorem adds_loop (ls : List Msg) (x : Bool) (hl : ls.length * 232 ≤ 140737488355328) : ∀ (r pre : List Msg) (k : Int), ls = pre ++ r →
  LoopG Try.prog 0 (loopAt Try.f51 0) (SAdd (ls.map Msg.t) x k (pre.length : Int)) (.exit 0) (SAdd (ls.map Msg.t) x (cnG r k) (ls.length : Int))
 | [], pre, k, he => by
  have hp : pre = ls := by rw [he]; simp
  rw [hp]
  exact LoopG.leave (CodeG.normE (bodyK_sound (Cv_ok _ _) (AddsB_1 mZ k (ls.length : Int) (ls.map Msg.t) x) ⟨by simp, trivial⟩) (by omega) (by omega) [5, 14, 15, 16] (m := 0) (k := 0) (by kernel_rfl)) rfl
 | m :: r, pre, k, he => by
  have hlen : pre.length + (r.length + 1) = ls.length := by rw [he]; simp
  have h := adds_round ls x k (pre.length : Int) m ⟨by omega, by rw [he]; simp⟩ (by omega) (by omega)
  have ih := adds_loop ls x hl r (pre ++ [m]) (bif m.kd == 1 then IntKind.i64.wrap (k + 1) else k) (by rw [he]; simp)
  rw [show (((pre ++ [m]).length : Nat) : Int) = (pre.length : Int) + 1 by simp] at ih
  have e2 : cnG (m :: r) k = cnG r (bif m.kd == 1 then IntKind.i64.wrap (k + 1) else k) := by
   simp only [cnG]
   cases m.kd == 1 <;> rfl
  rw [e2]
  exact LoopG.next h ih
theorem adds_ok (ls : List Msg) (n : Int) (x : Bool) (hl : ls.length * 232 ≤ 140737488355328) : PCall Try.prog 51 [.lst x 137 (ls.map Msg.t), .int .i64 n] [.int .i64 (cnG (ls.take n.toNat) 0)] := by
 have e1 : ls.take (clamp n (ls.map Msg.t).length).toNat = ls.take n.toNat := by
  rw [List.length_map]
  have hc : (clamp n ls.length).toNat = min n.toNat ls.length := by unfold clamp; split <;> split <;> omega
  rw [hc]
  rcases Nat.le_total n.toNat ls.length with q | q
  ·rw [Nat.min_eq_left q]
  ·rw [Nat.min_eq_right q, List.take_of_length_le (Nat.le_refl _), List.take_of_length_le q]
 have h := adds_loop (ls.take n.toNat) (x && ((clamp n (ls.map Msg.t).length).toNat == (ls.map Msg.t).length)) (by simp [List.length_take]; omega) (ls.take n.toNat) [] 0 rfl
 rw [← e1, List.map_take, List.length_take] at h
 have g : PCall Try.prog 51 [.lst x 137 (ls.map Msg.t), .int .i64 n] [.int .i64 (cnG (ls.take (clamp n (ls.map Msg.t).length).toNat) 0)] := (topK_sound (Cv_ok _ _) (AddsE n (cnG (ls.take (clamp n (ls.map Msg.t).length).toNat) 0) ((min (clamp n (ls.map Msg.t).length).toNat ls.length : Nat) : Int) (ls.map Msg.t) x) ⟨LoopG.preE (by omega) (by omega) [5, 14, 15, 16] (m := 0) (k := 0) (by kernel_rfl) h, rfl, (by unfold clamp; simp only [List.length_map]; split <;> split <;> omega), (by unfold clamp; simp only [List.length_map]; split <;> split <;> omega), (by unfold clamp; simp only [List.length_map]; split <;> split <;> omega), trivial⟩).pure (k := 64) rfl
 rw [e1] at g
 exact g
end Go.HM.Up
set_option maxRecDepth 100000
namespace Go.HM.Up
open Go.Proofs
def SRt (ls : List T) (n : Int) (x : Bool) (k i : Int) : St := ⟨62, [(0, .p (.lst x 137 ls)), (1, .p (.int .i64 n)), (5, .p (.int .i64 k)), (6, .p (.int .i64 i))], []⟩
def rst (m : Msg) (k : Int) : Option Int := bif decide (m.kd < 1) then none else bif decide (m.kd > 3) then none else bif m.kd == 1 then (bif badM m k then none else some (IntKind.i64.wrap (k + 1))) else some k
def rgt : List Msg → Int → Bool
 | [], _ => true
 | m :: r, k => match rst m k with
  | none => false
  | some k => rgt r k
theorem right_round (ls : List Msg) (n : Int) (x : Bool) (k i : Int) (m : Msg) (hx : (0 : Int) ≤ i ∧ (ls.map Msg.t)[i.toNat]? = some m.t) (hlt : i < ls.length) (hi : i < 9223372036854775807) (hn : decide (i < n) = true) :
  match rst m k with
  | none => CodeG Try.prog 0 (loopAt Try.f106 0) (SRt (ls.map Msg.t) n x k i) .ret ⟨62, [(4, .p (.bool false))], []⟩
  | some k' => CodeG Try.prog 0 (loopAt Try.f106 0) (SRt (ls.map Msg.t) n x k i) .normal (SRt (ls.map Msg.t) n x k' (i + 1)) := by
 have hlt' : decide (i < ((ls.map Msg.t).length : Int)) = true := by simpa using hlt
 have wi : IntKind.i64.wrap (i + 1) = i + 1 := w64 (by omega) (by omega)
 unfold rst badM
 cases c0 : decide (m.kd < 1) with
 | true =>
  simp only [c0, cond_true, cond_false, Bool.true_or, Bool.false_or, Bool.or_true, Bool.or_false]
  exact CodeG.normE (bodyK_sound (Cv_ok _ _) (rightB_2 m n k i (ls.map Msg.t) x) ⟨c0, hx, hn, trivial⟩) (by omega) (by omega) [4] (m := 0) (k := 0) (by kernel_rfl)
 | false =>
  cases c1 : decide (m.kd > 3) with
  | true =>
   simp only [c0, c1, cond_true, cond_false, Bool.true_or, Bool.false_or, Bool.or_true, Bool.or_false]
   exact CodeG.normE (bodyK_sound (Cv_ok _ _) (rightB_3 m n k i (ls.map Msg.t) x) ⟨c1, c0, hx, hn, trivial⟩) (by omega) (by omega) [4] (m := 0) (k := 0) (by kernel_rfl)
  | false =>
   cases c2 : (m.kd == 1) with
   | true =>
    cases c3 : decide (m.am < 1) with
    | true =>
     simp only [c0, c1, c2, c3, cond_true, cond_false, Bool.true_or, Bool.false_or, Bool.or_true, Bool.or_false]
     exact CodeG.normE (bodyK_sound (Cv_ok _ _) (rightB_6 m n k i (ls.map Msg.t) x) ⟨c3, c2, c1, c0, hx, hn, trivial⟩) (by omega) (by omega) [4] (m := 0) (k := 0) (by kernel_rfl)
    | false =>
     cases c4 : decide (m.ex < 0) with
     | true =>
      simp only [c0, c1, c2, c3, c4, cond_true, cond_false, Bool.true_or, Bool.false_or, Bool.or_true, Bool.or_false]
      exact CodeG.normE (bodyK_sound (Cv_ok _ _) (rightB_7 m n k i (ls.map Msg.t) x) ⟨c4, c3, c2, c1, c0, hx, hn, trivial⟩) (by omega) (by omega) [4] (m := 0) (k := 0) (by kernel_rfl)
     | false =>
      cases c5 : decide (m.ex > 2147483647) with
      | true =>
       simp only [c0, c1, c2, c3, c4, c5, cond_true, cond_false, Bool.true_or, Bool.false_or, Bool.or_true, Bool.or_false]
       exact CodeG.normE (bodyK_sound (Cv_ok _ _) (rightB_8 m n k i (ls.map Msg.t) x) ⟨c5, c4, c3, c2, c1, c0, hx, hn, trivial⟩) (by omega) (by omega) [4] (m := 0) (k := 0) (by kernel_rfl)
      | false =>
       cases c6 : ((m.hh) == zeros) with
       | true =>
        simp only [c0, c1, c2, c3, c4, c5, c6, cond_true, cond_false, Bool.true_or, Bool.false_or, Bool.or_true, Bool.or_false]
        exact CodeG.normE (bodyK_sound (Cv_ok _ _) (rightB_9 m n k i (ls.map Msg.t) x) ⟨c6, c5, c4, c3, c2, c1, c0, hx, hn, trivial⟩) (by omega) (by omega) [4] (m := 0) (k := 0) (by kernel_rfl)
       | false =>
        cases c7 : (m.id != k) with
        | true =>
         simp only [c0, c1, c2, c3, c4, c5, c6, c7, cond_true, cond_false, Bool.true_or, Bool.false_or, Bool.or_true, Bool.or_false]
         exact CodeG.normE (bodyK_sound (Cv_ok _ _) (rightB_10 m n k i (ls.map Msg.t) x) ⟨c7, c6, c5, c4, c3, c2, c1, c0, hx, hn, trivial⟩) (by omega) (by omega) [4] (m := 0) (k := 0) (by kernel_rfl)
        | false =>
         have r := CodeG.normE (bodyK_sound (Cv_ok _ _) (rightB_0 m n k i (ls.map Msg.t) x) ⟨c2, c7, c6, c5, c4, c3, c2, c1, c0, hx, hn, trivial⟩) (by omega) (by omega) [0, 1, 5, 6] (m := 0) (k := 0) (st2 := SRt (ls.map Msg.t) n x (IntKind.i64.wrap (k + 1)) (IntKind.i64.wrap (i + 1))) (by kernel_rfl)
         rw [wi] at r
         simp only [c0, c1, c2, c3, c4, c5, c6, c7, cond_true, cond_false, Bool.true_or, Bool.false_or, Bool.or_true, Bool.or_false]
         exact r
   | false =>
    have r := CodeG.normE (bodyK_sound (Cv_ok _ _) (rightB_5 m n k i (ls.map Msg.t) x) ⟨c2, c2, c1, c0, hx, hn, trivial⟩) (by omega) (by omega) [0, 1, 5, 6] (m := 0) (k := 0) (st2 := SRt (ls.map Msg.t) n x k (IntKind.i64.wrap (i + 1))) (by kernel_rfl)
    rw [wi] at r
    simp only [c0, c1, c2, cond_true, cond_false, Bool.true_or, Bool.false_or, Bool.or_true, Bool.or_false]
    exact r
theorem right_loop (ls : List Msg) (n : Int) (x : Bool) (hl : ls.length * 232 ≤ 140737488355328) (d : List Msg) : ∀ (r pre : List Msg) (k : Int), ls = pre ++ (r ++ d) → ((pre.length + r.length : Nat) : Int) = n →
  bif rgt r k then ∃ k', LoopG Try.prog 0 (loopAt Try.f106 0) (SRt (ls.map Msg.t) n x k (pre.length : Int)) (.exit 0) (SRt (ls.map Msg.t) n x k' n) else LoopG Try.prog 0 (loopAt Try.f106 0) (SRt (ls.map Msg.t) n x k (pre.length : Int)) .ret ⟨62, [(4, .p (.bool false))], []⟩
 | [], pre, k, he, hp => by
  simp only [rgt, cond_true]
  have e : (pre.length : Int) = n := by simpa using hp
  rw [e]
  exact ⟨k, LoopG.leave (CodeG.normE (bodyK_sound (Cv_ok _ _) (rightB_1 mZ n k n (ls.map Msg.t) x) ⟨by simp, trivial⟩) (by omega) (by omega) [0, 1, 5, 6] (m := 0) (k := 0) (by kernel_rfl)) rfl⟩
 | m :: r, pre, k, he, hp => by
  have hlen : pre.length + (r.length + 1 + d.length) = ls.length := by rw [he]; simp; omega
  have hn : decide ((pre.length : Int) < n) = true := by rw [← hp]; simp; omega
  have h := right_round ls n x k (pre.length : Int) m ⟨by omega, by rw [he]; simp⟩ (by omega) (by omega) hn
  simp only [rgt]
  revert h
  cases rst m k with
  | none => exact fun h => LoopG.leave h rfl
  | some k' =>
   intro h
   have ih := right_loop ls n x hl d r (pre ++ [m]) k' (by rw [he]; simp) (by rw [← hp]; simp; omega)
   rw [show (((pre ++ [m]).length : Nat) : Int) = (pre.length : Int) + 1 by simp] at ih
   simp only
   revert ih
   cases rgt r k' with
   | true => exact fun ⟨k2, ih⟩ => ⟨k2, LoopG.next h ih⟩
   | false => exact fun ih => LoopG.next h ih
theorem right_ok (ls : List Msg) (n : Int) (x : Bool) (hl : ls.length * 232 ≤ 140737488355328) (h0 : 0 ≤ n) (h1 : n ≤ (ls.length : Int)) : PCall Try.prog 106 [.lst x 137 (ls.map Msg.t), .int .i64 n] [.bool (rgt (ls.take n.toNat) 0)] := by
 have h := right_loop ls n x hl (ls.drop n.toNat) (ls.take n.toNat) [] 0 (by simp) (by simp [List.length_take]; omega)
 revert h
 cases rgt (ls.take n.toNat) 0 with
 | true => exact fun ⟨k, h⟩ => (topK_sound (Cv_ok _ _) (rightE n k n (ls.map Msg.t) x) ⟨LoopG.preE (by omega) (by omega) [0, 1, 5, 6] (m := 0) (k := 0) (by kernel_rfl) h, trivial⟩).pure (k := 64) rfl
 | false => exact fun h => (topK_sound (Cv_ok _ _) (rightR n (ls.map Msg.t) x) ⟨LoopG.preE (by omega) (by omega) [0, 1, 5, 6] (m := 0) (k := 0) (by kernel_rfl) h, trivial⟩).pure (k := 64) rfl
def SNm (ls : List T) (n : Int) (x : Bool) (i : Int) : St := ⟨54, [(0, .p (.lst x 137 ls)), (5, .p (.int .i64 n)), (6, .p (.int .i64 i))], []⟩
def nst (n : Int) (pre : List Msg) (m : Msg) : Bool := bif m.kd == 1 then true else bif decide (m.id < 0) then false else bif decide (m.id ≥ n) then false else !decide ((hwG m.id pre 0 0).2 > 0)
def nmd (n : Int) : List Msg → List Msg → Bool
 | _, [] => true
 | pre, m :: r => nst n pre m && nmd n (pre ++ [m]) r
theorem named_round (ls : List Msg) (n : Int) (x : Bool) (pre : List Msg) (i : Int) (m : Msg) (hx : (0 : Int) ≤ i ∧ (ls.map Msg.t)[i.toNat]? = some m.t) (hlt : i < ls.length) (hi : i < 9223372036854775807) (hi0 : i = (pre.length : Int)) (hh : PCall Try.prog 151 [.lst (x && (i.toNat == (ls.map Msg.t).length)) 137 (List.drop 0 (List.take i.toNat (ls.map Msg.t))), .int .i64 m.id] [.int .i64 (hwG m.id pre 0 0).1, .int .i64 (hwG m.id pre 0 0).2]) :
  bif nst n pre m then CodeG Try.prog 0 (loopAt Try.f107 0) (SNm (ls.map Msg.t) n x i) .normal (SNm (ls.map Msg.t) n x (i + 1)) else CodeG Try.prog 0 (loopAt Try.f107 0) (SNm (ls.map Msg.t) n x i) .ret ⟨54, [(4, .p (.bool false))], []⟩ := by
 have hlt' : decide (i < ((ls.map Msg.t).length : Int)) = true := by simpa using hlt
 have wi : IntKind.i64.wrap (i + 1) = i + 1 := w64 (by omega) (by omega)
 unfold nst
 cases c0 : (m.kd == 1) with
 | true =>
  have r := CodeG.normE (bodyK_sound (Cv_ok _ _) (namedB_2 m n (hwG m.id pre 0 0).1 i (hwG m.id pre 0 0).2 (ls.map Msg.t) x) ⟨c0, hx, hlt', trivial⟩) (by omega) (by omega) [0, 5, 6] (m := 0) (k := 0) (st2 := SNm (ls.map Msg.t) n x (IntKind.i64.wrap (i + 1))) (by kernel_rfl)
  rw [wi] at r
  simp only [c0, cond_true, cond_false, Bool.not_true, Bool.not_false]
  exact r
 | false =>
  cases c1 : decide (m.id < 0) with
  | true =>
   simp only [c0, c1, cond_true, cond_false, Bool.not_true, Bool.not_false]
   exact CodeG.normE (bodyK_sound (Cv_ok _ _) (namedB_3 m n (hwG m.id pre 0 0).1 i (hwG m.id pre 0 0).2 (ls.map Msg.t) x) ⟨c1, hx, c0, hx, hlt', trivial⟩) (by omega) (by omega) [4] (m := 0) (k := 0) (by kernel_rfl)
  | false =>
   cases c2 : decide (m.id ≥ n) with
   | true =>
    simp only [c0, c1, c2, cond_true, cond_false, Bool.not_true, Bool.not_false]
    exact CodeG.normE (bodyK_sound (Cv_ok _ _) (namedB_4 m n (hwG m.id pre 0 0).1 i (hwG m.id pre 0 0).2 (ls.map Msg.t) x) ⟨c2, hx, c1, hx, c0, hx, hlt', trivial⟩) (by omega) (by omega) [4] (m := 0) (k := 0) (by kernel_rfl)
   | false =>
    cases c3 : decide ((hwG m.id pre 0 0).2 > 0) with
    | true =>
     simp only [c0, c1, c2, c3, cond_true, cond_false, Bool.not_true, Bool.not_false]
     exact CodeG.normE (bodyK_sound (Cv_ok _ _) (namedB_5 m n (hwG m.id pre 0 0).1 i (hwG m.id pre 0 0).2 (ls.map Msg.t) x) ⟨c3, hh, hx, rfl, (by omega), (by omega), (by simp only [List.length_map]; omega), c2, hx, c1, hx, c0, hx, hlt', trivial⟩) (by omega) (by omega) [4] (m := 0) (k := 0) (by kernel_rfl)
    | false =>
     have r := CodeG.normE (bodyK_sound (Cv_ok _ _) (namedB_0 m n (hwG m.id pre 0 0).1 i (hwG m.id pre 0 0).2 (ls.map Msg.t) x) ⟨c3, hh, hx, rfl, (by omega), (by omega), (by simp only [List.length_map]; omega), c2, hx, c1, hx, c0, hx, hlt', trivial⟩) (by omega) (by omega) [0, 5, 6] (m := 0) (k := 0) (st2 := SNm (ls.map Msg.t) n x (IntKind.i64.wrap (i + 1))) (by kernel_rfl)
     rw [wi] at r
     simp only [c0, c1, c2, c3, cond_true, cond_false, Bool.not_true, Bool.not_false]
     exact r
theorem named_loop (ls : List Msg) (n : Int) (x : Bool) (hl : ls.length * 232 ≤ 140737488355328) : ∀ (r pre : List Msg), ls = pre ++ r →
  bif nmd n pre r then LoopG Try.prog 0 (loopAt Try.f107 0) (SNm (ls.map Msg.t) n x (pre.length : Int)) (.exit 0) (SNm (ls.map Msg.t) n x (ls.length : Int)) else LoopG Try.prog 0 (loopAt Try.f107 0) (SNm (ls.map Msg.t) n x (pre.length : Int)) .ret ⟨54, [(4, .p (.bool false))], []⟩
 | [], pre, he => by
  simp only [nmd, cond_true]
  have e : pre = ls := by rw [he]; simp
  rw [e]
  exact LoopG.leave (CodeG.normE (bodyK_sound (Cv_ok _ _) (namedB_1 mZ n 0 (ls.length : Int) 0 (ls.map Msg.t) x) ⟨by simp, trivial⟩) (by omega) (by omega) [0, 5, 6] (m := 0) (k := 0) (by kernel_rfl)) rfl
 | m :: r, pre, he => by
  have hlen : pre.length + (r.length + 1) = ls.length := by rw [he]; simp
  have ht : List.drop 0 (List.take ((pre.length : Int)).toNat (ls.map Msg.t)) = pre.map Msg.t := by rw [he]; simp
  have hh := how_ok pre m.id (x && (((pre.length : Int)).toNat == (ls.map Msg.t).length)) (by omega)
  rw [← ht] at hh
  have h := named_round ls n x pre (pre.length : Int) m ⟨by omega, by rw [he]; simp⟩ (by omega) (by omega) rfl hh
  have ih := named_loop ls n x hl r (pre ++ [m]) (by rw [he]; simp)
  rw [show (((pre ++ [m]).length : Nat) : Int) = (pre.length : Int) + 1 by simp] at ih
  simp only [nmd]
  revert h
  cases nst n pre m with
  | false => exact fun h => LoopG.leave h rfl
  | true =>
   intro h
   simp only [Bool.true_and]
   revert ih
   cases nmd n (pre ++ [m]) r with
   | true => exact fun ih => LoopG.next h ih
   | false => exact fun ih => LoopG.next h ih
theorem named_ok (ls lo : List Msg) (x y : Bool) (hl : ls.length * 232 ≤ 140737488355328) (ho : lo.length * 232 ≤ 140737488355328) : PCall Try.prog 107 [.lst x 137 (ls.map Msg.t), .lst y 137 (lo.map Msg.t)] [.bool (nmd (cnG lo 0) [] ls)] := by
 have ha := rAdds_ok lo (lo.length : Int) y ho
 rw [show ((lo.length : Int)).toNat = lo.length by omega, List.take_length] at ha
 rw [show (lo.length : Int) = ((lo.map Msg.t).length : Int) by simp] at ha
 have h := named_loop ls (cnG lo 0) x hl ls [] rfl
 revert h
 cases nmd (cnG lo 0) [] ls with
 | true => exact fun h => (topK_sound (Cv_ok _ _) (namedE (cnG lo 0) (ls.length : Int) (ls.map Msg.t) (lo.map Msg.t) x y) ⟨LoopG.preE (by omega) (by omega) [0, 5, 6] (m := 0) (k := 0) (by kernel_rfl) h, ha, trivial⟩).pure (k := 64) rfl
 | false => exact fun h => (topK_sound (Cv_ok _ _) (namedR (cnG lo 0) (ls.map Msg.t) (lo.map Msg.t) x y) ⟨LoopG.preE (by omega) (by omega) [0, 5, 6] (m := 0) (k := 0) (by kernel_rfl) h, ha, trivial⟩).pure (k := 64) rfl
def RfP (ls lo : List T) (x y : Bool) (wh pd al i : Int) : St := ⟨75, [(0, .p (.lst x 137 ls)), (1, .p (.lst y 137 lo)), (2, .p (.int .i64 wh)), (6, .ptr 0 0), (7, .ptr 1 0), (8, .p (.int .i64 i))], [.box (.p (.agg [.lst true 36 [], .int .i64 0, .int .i64 0, .bool false])), .box (.p (.agg [.lst true 36 [], .int .i64 pd, .int .i64 al, .bool false]))]⟩
def RfQ (ls lo : List T) (x y : Bool) (wh : Int) (g : Msg) (hs : List T) (pd al i : Int) : St := ⟨75, [(0, .p (.lst x 137 ls)), (1, .p (.lst y 137 lo)), (2, .p (.int .i64 wh)), (6, .ptr 0 0), (7, .ptr 1 0), (8, .p (.int .i64 i))], [.box (.p (.agg [.lst true 36 [], .int .i64 0, .int .i64 0, .bool false])), .box (.agg [.row 3 0 (.lst false 36 hs), .p (.int .i64 pd), .p (.int .i64 al), .p (.bool false)]), .box (.p (g.t)), .row 0 36]⟩
def ReP (pd al : Int) : St := ⟨75, [(6, .ptr 0 0)], [.box (.p (.agg [.lst true 36 [], .int .i64 pd, .int .i64 al, .bool true])), .box (.p (.agg [.lst true 36 [], .int .i64 pd, .int .i64 al, .bool true]))]⟩
def ReQ (g : Msg) (hs : List T) (pd al : Int) : St := ⟨75, [(6, .ptr 0 0)], [.box (.agg [.row 3 0 (.lst false 36 hs), .p (.int .i64 pd), .p (.int .i64 al), .p (.bool true)]), .box (.agg [.row 3 0 (.lst false 36 hs), .p (.int .i64 pd), .p (.int .i64 al), .p (.bool true)]), .box (.p (g.t)), .row 0 36]⟩
def RfS (ls lo : List T) (x y : Bool) (wh : Int) (hs : List Msg) (pd al i : Int) : St := match hs with
 | [] => RfP ls lo x y wh pd al i
 | g :: r => RfQ ls lo x y wh g ((g :: r).map (hT wh)) pd al i
def ReS (wh : Int) (hs : List Msg) (pd al : Int) : St := match hs with
 | [] => ReP pd al
 | g :: r => ReQ g ((g :: r).map (hT wh)) pd al
def rofG (os : List Msg) : List Msg → List Msg → Int → Int → List Msg × Int × Int × Bool
 | [], hs, pd, al => (hs, pd, al, false)
 | m :: r, hs, pd, al => bif m.kd != 1 then rofG os r hs pd al else bif (hwG m.id os 0 0).1 == 3 then rofG os r hs pd al else bif (Deal.add al m.am).2 != 0 then (hs, pd, al, true) else
  bif (hwG m.id os 0 0).1 == 2 then rofG os r hs (IntKind.i64.wrap (pd + m.am)) (Deal.add al m.am).1 else rofG os r (hs ++ [m]) pd (Deal.add al m.am).1
theorem rof_round (ls lo : List Msg) (x y : Bool) (wh : Int) (hs : List Msg) (pd al i : Int) (m : Msg) (hx : (0 : Int) ≤ i ∧ (ls.map Msg.t)[i.toNat]? = some m.t) (hlt : i < ls.length) (hi : i < 9223372036854775807) (hq : (hs.length + 1) * 64 ≤ 140737488355328)
  (hh : PCall Try.prog 151 [.lst y 137 (lo.map Msg.t), .int .i64 m.id] [.int .i64 (hwG m.id lo 0 0).1, .int .i64 (hwG m.id lo 0 0).2]) (ha : PCall Try.prog 72 [.int .i64 al, .int .i64 m.am] [.int .i64 (Deal.add al m.am).1, .int .i64 (Deal.add al m.am).2]) :
  bif m.kd != 1 then CodeG Try.prog 0 (loopAt Try.f108 0) (RfS (ls.map Msg.t) (lo.map Msg.t) x y wh hs pd al i) .normal (RfS (ls.map Msg.t) (lo.map Msg.t) x y wh hs pd al (i + 1)) else
  bif (hwG m.id lo 0 0).1 == 3 then CodeG Try.prog 0 (loopAt Try.f108 0) (RfS (ls.map Msg.t) (lo.map Msg.t) x y wh hs pd al i) .normal (RfS (ls.map Msg.t) (lo.map Msg.t) x y wh hs pd al (i + 1)) else
  bif (Deal.add al m.am).2 != 0 then CodeG Try.prog 0 (loopAt Try.f108 0) (RfS (ls.map Msg.t) (lo.map Msg.t) x y wh hs pd al i) .ret (ReS wh hs pd al) else
  bif (hwG m.id lo 0 0).1 == 2 then CodeG Try.prog 0 (loopAt Try.f108 0) (RfS (ls.map Msg.t) (lo.map Msg.t) x y wh hs pd al i) .normal (RfS (ls.map Msg.t) (lo.map Msg.t) x y wh hs (IntKind.i64.wrap (pd + m.am)) (Deal.add al m.am).1 (i + 1)) else
  CodeG Try.prog 0 (loopAt Try.f108 0) (RfS (ls.map Msg.t) (lo.map Msg.t) x y wh hs pd al i) .normal (RfS (ls.map Msg.t) (lo.map Msg.t) x y wh (hs ++ [m]) pd (Deal.add al m.am).1 (i + 1)) := by
 have hlt' : decide (i < ((ls.map Msg.t).length : Int)) = true := by simpa using hlt
 have wi : IntKind.i64.wrap (i + 1) = i + 1 := w64 (by omega) (by omega)
 cases hs with
 | nil =>
  cases c0 : (m.kd != 1) with
  | true =>
   have r := CodeG.normE (bodyK_sound (Cv_ok _ _) (rofP_2 m (hwG m.id lo 0 0).1 i (hwG m.id lo 0 0).2 (Deal.add al m.am).1 (Deal.add al m.am).2 pd al wh (ls.map Msg.t) (lo.map Msg.t) x y) ⟨c0, hx, hlt', trivial⟩) (by omega) (by omega) [0, 1, 2, 6, 7, 8] (m := 0) (k := 2) (st2 := RfP (ls.map Msg.t) (lo.map Msg.t) x y wh pd al (IntKind.i64.wrap (i + 1))) (by kernel_rfl)
   rw [wi] at r
   simp only [c0, cond_true, cond_false]
   exact r
  | false =>
   cases c1 : ((hwG m.id lo 0 0).1 == 3) with
   | true =>
    have r := CodeG.normE (bodyK_sound (Cv_ok _ _) (rofP_3 m (hwG m.id lo 0 0).1 i (hwG m.id lo 0 0).2 (Deal.add al m.am).1 (Deal.add al m.am).2 pd al wh (ls.map Msg.t) (lo.map Msg.t) x y) ⟨c1, hh, c0, hx, hlt', trivial⟩) (by omega) (by omega) [0, 1, 2, 6, 7, 8] (m := 0) (k := 2) (st2 := RfP (ls.map Msg.t) (lo.map Msg.t) x y wh pd al (IntKind.i64.wrap (i + 1))) (by kernel_rfl)
    rw [wi] at r
    simp only [c0, c1, cond_true, cond_false]
    exact r
   | false =>
    cases c2 : ((Deal.add al m.am).2 != 0) with
    | true =>
     simp only [c0, c1, c2, cond_true, cond_false]
     exact CodeG.normE (bodyK_sound (Cv_ok _ _) (rofP_4 m (hwG m.id lo 0 0).1 i (hwG m.id lo 0 0).2 (Deal.add al m.am).1 (Deal.add al m.am).2 pd al wh (ls.map Msg.t) (lo.map Msg.t) x y) ⟨c2, ha, c1, hh, c0, hx, hlt', trivial⟩) (by omega) (by omega) [6] (m := 0) (k := 2) (by kernel_rfl)
    | false =>
     cases c3 : ((hwG m.id lo 0 0).1 == 2) with
     | true =>
      have r := CodeG.normE (bodyK_sound (Cv_ok _ _) (rofP_5 m (hwG m.id lo 0 0).1 i (hwG m.id lo 0 0).2 (Deal.add al m.am).1 (Deal.add al m.am).2 pd al wh (ls.map Msg.t) (lo.map Msg.t) x y) ⟨c3, c2, ha, c1, hh, c0, hx, hlt', trivial⟩) (by omega) (by omega) [0, 1, 2, 6, 7, 8] (m := 0) (k := 2) (st2 := RfP (ls.map Msg.t) (lo.map Msg.t) x y wh (IntKind.i64.wrap (pd + m.am)) (Deal.add al m.am).1 (IntKind.i64.wrap (i + 1))) (by kernel_rfl)
      rw [wi] at r
      simp only [c0, c1, c2, c3, cond_true, cond_false]
      exact r
     | false =>
      have r := CodeG.normE (bodyK_sound (Cv_ok _ _) (rofP_0 m (hwG m.id lo 0 0).1 i (hwG m.id lo 0 0).2 (Deal.add al m.am).1 (Deal.add al m.am).2 pd al wh (ls.map Msg.t) (lo.map Msg.t) x y) ⟨(by omega), c3, c2, ha, c1, hh, c0, hx, hlt', trivial⟩) (by omega) (by omega) [0, 1, 2, 6, 7, 8] (m := 0) (k := 4) (st2 := RfQ (ls.map Msg.t) (lo.map Msg.t) x y wh m [hT wh m] pd (Deal.add al m.am).1 (IntKind.i64.wrap (i + 1))) (by kernel_rfl)
      rw [wi] at r
      simp only [c0, c1, c2, c3, cond_true, cond_false]
      exact r
 | cons g hs =>
  cases c0 : (m.kd != 1) with
  | true =>
   have r := CodeG.normE (bodyK_sound (Cv_ok _ _) (rofQ_2 m g (hwG m.id lo 0 0).1 i (hwG m.id lo 0 0).2 (Deal.add al m.am).1 (Deal.add al m.am).2 pd al wh (ls.map Msg.t) (lo.map Msg.t) ((g :: hs).map (hT wh)) x y) ⟨c0, hx, hlt', trivial⟩) (by omega) (by omega) [0, 1, 2, 6, 7, 8] (m := 0) (k := 4) (st2 := RfQ (ls.map Msg.t) (lo.map Msg.t) x y wh g ((g :: hs).map (hT wh)) pd al (IntKind.i64.wrap (i + 1))) (by kernel_rfl)
   rw [wi] at r
   simp only [c0, cond_true, cond_false]
   exact r
  | false =>
   cases c1 : ((hwG m.id lo 0 0).1 == 3) with
   | true =>
    have r := CodeG.normE (bodyK_sound (Cv_ok _ _) (rofQ_3 m g (hwG m.id lo 0 0).1 i (hwG m.id lo 0 0).2 (Deal.add al m.am).1 (Deal.add al m.am).2 pd al wh (ls.map Msg.t) (lo.map Msg.t) ((g :: hs).map (hT wh)) x y) ⟨c1, hh, c0, hx, hlt', trivial⟩) (by omega) (by omega) [0, 1, 2, 6, 7, 8] (m := 0) (k := 4) (st2 := RfQ (ls.map Msg.t) (lo.map Msg.t) x y wh g ((g :: hs).map (hT wh)) pd al (IntKind.i64.wrap (i + 1))) (by kernel_rfl)
    rw [wi] at r
    simp only [c0, c1, cond_true, cond_false]
    exact r
   | false =>
    cases c2 : ((Deal.add al m.am).2 != 0) with
    | true =>
     simp only [c0, c1, c2, cond_true, cond_false]
     exact CodeG.normE (bodyK_sound (Cv_ok _ _) (rofQ_4 m g (hwG m.id lo 0 0).1 i (hwG m.id lo 0 0).2 (Deal.add al m.am).1 (Deal.add al m.am).2 pd al wh (ls.map Msg.t) (lo.map Msg.t) ((g :: hs).map (hT wh)) x y) ⟨c2, ha, c1, hh, c0, hx, hlt', trivial⟩) (by omega) (by omega) [6] (m := 0) (k := 4) (by kernel_rfl)
    | false =>
     cases c3 : ((hwG m.id lo 0 0).1 == 2) with
     | true =>
      have r := CodeG.normE (bodyK_sound (Cv_ok _ _) (rofQ_5 m g (hwG m.id lo 0 0).1 i (hwG m.id lo 0 0).2 (Deal.add al m.am).1 (Deal.add al m.am).2 pd al wh (ls.map Msg.t) (lo.map Msg.t) ((g :: hs).map (hT wh)) x y) ⟨c3, c2, ha, c1, hh, c0, hx, hlt', trivial⟩) (by omega) (by omega) [0, 1, 2, 6, 7, 8] (m := 0) (k := 4) (st2 := RfQ (ls.map Msg.t) (lo.map Msg.t) x y wh g ((g :: hs).map (hT wh)) (IntKind.i64.wrap (pd + m.am)) (Deal.add al m.am).1 (IntKind.i64.wrap (i + 1))) (by kernel_rfl)
      rw [wi] at r
      simp only [c0, c1, c2, c3, cond_true, cond_false]
      exact r
     | false =>
      have r := CodeG.normE (bodyK_sound (Cv_ok _ _) (rofQ_0 m g (hwG m.id lo 0 0).1 i (hwG m.id lo 0 0).2 (Deal.add al m.am).1 (Deal.add al m.am).2 pd al wh (ls.map Msg.t) (lo.map Msg.t) ((g :: hs).map (hT wh)) x y) ⟨(by simp only [List.length_map, List.length_cons] at hq ⊢; omega), c3, c2, ha, c1, hh, c0, hx, hlt', trivial⟩) (by omega) (by omega) [0, 1, 2, 6, 7, 8] (m := 0) (k := 4) (st2 := RfQ (ls.map Msg.t) (lo.map Msg.t) x y wh g ((g :: hs).map (hT wh) ++ [hT wh m]) pd (Deal.add al m.am).1 (IntKind.i64.wrap (i + 1))) (by kernel_rfl)
      rw [wi] at r
      simp only [c0, c1, c2, c3, cond_true, cond_false]
      rw [show (g :: hs).map (hT wh) ++ [hT wh m] = (g :: (hs ++ [m])).map (hT wh) by simp] at r
      exact r
theorem rof_loop (ls lo : List Msg) (x y : Bool) (wh : Int) (hl : ls.length * 232 ≤ 140737488355328) (ho : lo.length * 232 ≤ 140737488355328) : ∀ (r pre hs : List Msg) (pd al : Int), ls = pre ++ r → hs.length ≤ pre.length →
  bif (rofG lo r hs pd al).2.2.2 then LoopG Try.prog 0 (loopAt Try.f108 0) (RfS (ls.map Msg.t) (lo.map Msg.t) x y wh hs pd al (pre.length : Int)) .ret (ReS wh (rofG lo r hs pd al).1 (rofG lo r hs pd al).2.1 (rofG lo r hs pd al).2.2.1)
  else LoopG Try.prog 0 (loopAt Try.f108 0) (RfS (ls.map Msg.t) (lo.map Msg.t) x y wh hs pd al (pre.length : Int)) (.exit 0) (RfS (ls.map Msg.t) (lo.map Msg.t) x y wh (rofG lo r hs pd al).1 (rofG lo r hs pd al).2.1 (rofG lo r hs pd al).2.2.1 (ls.length : Int))
 | [], pre, hs, pd, al, he, hp => by
  have e : pre = ls := by rw [he]; simp
  rw [e]
  simp only [rofG, cond_false]
  cases hs with
  | nil => exact LoopG.leave (CodeG.normE (bodyK_sound (Cv_ok _ _) (rofP_1 mZ 0 (ls.length : Int) 0 0 0 pd al wh (ls.map Msg.t) (lo.map Msg.t) x y) ⟨by simp, trivial⟩) (by omega) (by omega) [0, 1, 2, 6, 7, 8] (m := 0) (k := 2) (by kernel_rfl)) rfl
  | cons g hs => exact LoopG.leave (CodeG.normE (bodyK_sound (Cv_ok _ _) (rofQ_1 mZ g 0 (ls.length : Int) 0 0 0 pd al wh (ls.map Msg.t) (lo.map Msg.t) ((g :: hs).map (hT wh)) x y) ⟨by simp, trivial⟩) (by omega) (by omega) [0, 1, 2, 6, 7, 8] (m := 0) (k := 4) (by kernel_rfl)) rfl
 | m :: r, pre, hs, pd, al, he, hp => by
  have hlen : pre.length + (r.length + 1) = ls.length := by rw [he]; simp
  have h := rof_round ls lo x y wh hs pd al (pre.length : Int) m ⟨by omega, by rw [he]; simp⟩ (by omega) (by omega) (by omega) (how_ok lo m.id y ho) (Deal.radd_ok al m.am)
  have step : ∀ hs2 pd2 al2, hs2.length ≤ pre.length + 1 → rofG lo (m :: r) hs pd al = rofG lo r hs2 pd2 al2 → CodeG Try.prog 0 (loopAt Try.f108 0) (RfS (ls.map Msg.t) (lo.map Msg.t) x y wh hs pd al (pre.length : Int)) .normal (RfS (ls.map Msg.t) (lo.map Msg.t) x y wh hs2 pd2 al2 ((pre.length : Int) + 1)) →
    bif (rofG lo (m :: r) hs pd al).2.2.2 then LoopG Try.prog 0 (loopAt Try.f108 0) (RfS (ls.map Msg.t) (lo.map Msg.t) x y wh hs pd al (pre.length : Int)) .ret (ReS wh (rofG lo (m :: r) hs pd al).1 (rofG lo (m :: r) hs pd al).2.1 (rofG lo (m :: r) hs pd al).2.2.1)
    else LoopG Try.prog 0 (loopAt Try.f108 0) (RfS (ls.map Msg.t) (lo.map Msg.t) x y wh hs pd al (pre.length : Int)) (.exit 0) (RfS (ls.map Msg.t) (lo.map Msg.t) x y wh (rofG lo (m :: r) hs pd al).1 (rofG lo (m :: r) hs pd al).2.1 (rofG lo (m :: r) hs pd al).2.2.1 (ls.length : Int)) := by
   intro hs2 pd2 al2 hb e hc
   have ih := rof_loop ls lo x y wh hl ho r (pre ++ [m]) hs2 pd2 al2 (by rw [he]; simp) (by simpa using hb)
   rw [show (((pre ++ [m]).length : Nat) : Int) = (pre.length : Int) + 1 by simp] at ih
   rw [e]
   revert ih
   cases (rofG lo r hs2 pd2 al2).2.2.2 with
   | true => exact fun ih => LoopG.next hc ih
   | false => exact fun ih => LoopG.next hc ih
  cases c1 : m.kd != 1 with
  | true => rw [c1] at h; exact step hs pd al (by omega) (by simp only [rofG, c1, cond_true]) h
  | false =>
   rw [c1] at h
   cases c2 : (hwG m.id lo 0 0).1 == 3 with
   | true => rw [c2] at h; exact step hs pd al (by omega) (by simp only [rofG, c1, c2, cond_true, cond_false]) h
   | false =>
    rw [c2] at h
    cases c3 : (Deal.add al m.am).2 != 0 with
    | true =>
     rw [c3] at h
     simp only [rofG, c1, c2, c3, cond_true, cond_false]
     exact LoopG.leave h rfl
    | false =>
     rw [c3] at h
     cases c4 : (hwG m.id lo 0 0).1 == 2 with
     | true => rw [c4] at h; exact step hs _ _ (by omega) (by simp only [rofG, c1, c2, c3, c4, cond_true, cond_false]) h
     | false => rw [c4] at h; exact step (hs ++ [m]) _ _ (by simp; omega) (by simp only [rofG, c1, c2, c3, c4, cond_true, cond_false]) h
def rsT (wh : Int) (hs : List Msg) (pd al : Int) (o : Bool) : T := .agg [.lst hs.isEmpty 36 (hs.map (hT wh)), .int .i64 pd, .int .i64 al, .bool o]
theorem rof_ok (ls lo : List Msg) (x y : Bool) (wh : Int) (hl : ls.length * 232 ≤ 140737488355328) (ho : lo.length * 232 ≤ 140737488355328) :
  PCall Try.prog 108 [.lst x 137 (ls.map Msg.t), .lst y 137 (lo.map Msg.t), .int .i64 wh] [rsT wh (rofG lo ls [] 0 0).1 (rofG lo ls [] 0 0).2.1 (rofG lo ls [] 0 0).2.2.1 (rofG lo ls [] 0 0).2.2.2] := by
 have h := rof_loop ls lo x y wh hl ho ls [] [] 0 0 rfl (Nat.le_refl _)
 generalize rofG lo ls [] 0 0 = q at h ⊢
 obtain ⟨hs, pd, al, ov⟩ := q
 cases ov with
 | true =>
  cases hs with
  | nil => exact (topK_sound (Cv_ok _ _) (rofRP pd al wh (ls.map Msg.t) (lo.map Msg.t) x y) ⟨LoopG.preE (by omega) (by omega) [0, 1, 2, 6, 7, 8] (m := 0) (k := 2) (by kernel_rfl) h, trivial⟩).pure (k := 64) rfl
  | cons g hs => exact (topK_sound (Cv_ok _ _) (rofRQ g pd al wh (ls.map Msg.t) (lo.map Msg.t) ((g :: hs).map (hT wh)) x y) ⟨LoopG.preE (by omega) (by omega) [0, 1, 2, 6, 7, 8] (m := 0) (k := 2) (by kernel_rfl) h, trivial⟩).pure (k := 64) rfl
 | false =>
  cases hs with
  | nil => exact (topK_sound (Cv_ok _ _) (rofTP (ls.length : Int) pd al wh (ls.map Msg.t) (lo.map Msg.t) x y) ⟨LoopG.preE (by omega) (by omega) [0, 1, 2, 6, 7, 8] (m := 0) (k := 2) (by kernel_rfl) h, trivial⟩).pure (k := 64) rfl
  | cons g hs => exact (topK_sound (Cv_ok _ _) (rofTQ g (ls.length : Int) pd al wh (ls.map Msg.t) (lo.map Msg.t) ((g :: hs).map (hT wh)) x y) ⟨LoopG.preE (by omega) (by omega) [0, 1, 2, 6, 7, 8] (m := 0) (k := 2) (by kernel_rfl) h, trivial⟩).pure (k := 64) rfl
end Go.HM.Up
set_option maxRecDepth 100000
namespace Go.HM.Up
open Go.Proofs
def hasS (ts ala pdb : Int) : Int × Bool := bif decide (ala ≤ ts) then (IntKind.i64.wrap (IntKind.i64.wrap (ts - ala) + pdb), true) else bif decide (IntKind.i64.wrap (ala - ts) > pdb) then (0, false) else (IntKind.i64.wrap (pdb - IntKind.i64.wrap (ala - ts)), true)
theorem has_ok (ts ala pdb : Int) : PCall Try.prog 109 [.int .i64 ts, .int .i64 ala, .int .i64 pdb] [.int .i64 (hasS ts ala pdb).1, .bool (hasS ts ala pdb).2] := by
 unfold hasS
 cases c1 : decide (ala ≤ ts) with
 | true => exact (topK_sound (Cv_ok _ _) (has_0 ts ala pdb) ⟨c1, trivial⟩).pure (k := 64) rfl
 | false =>
  cases c2 : decide (IntKind.i64.wrap (ala - ts) > pdb) with
  | true => exact (topK_sound (Cv_ok _ _) (has_2 ts ala pdb) ⟨c2, c1, trivial⟩).pure (k := 64) rfl
  | false => exact (topK_sound (Cv_ok _ _) (has_1 ts ala pdb) ⟨c2, c1, trivial⟩).pure (k := 64) rfl
def rvS (m : Bool) (ta tb ts te : Int) (a b : List Msg) (n k : Int) : Int × Int × Int × List H :=
 bif !m then (1, 0, 0, []) else
 bif decide (n < 0) || decide (n > (a.length : Int)) || decide (k < 0) || decide (k > (b.length : Int)) then (1, 0, 0, []) else
 bif !rgt (a.take n.toNat) 0 then (1, 0, 0, []) else bif !rgt (b.take k.toNat) 0 then (1, 0, 0, []) else
 bif !nmd (cnG (b.take k.toNat) 0) [] (a.take n.toNat) then (4, 0, 0, []) else bif !nmd (cnG (a.take n.toNat) 0) [] (b.take k.toNat) then (4, 0, 0, []) else
 bif (rofG (b.take k.toNat) (a.take n.toNat) [] 0 0).2.2.2 || (rofG (a.take n.toNat) (b.take k.toNat) [] 0 0).2.2.2 then (20, 0, 0, []) else
 bif !(hasS ts (rofG (b.take k.toNat) (a.take n.toNat) [] 0 0).2.2.1 (rofG (a.take n.toNat) (b.take k.toNat) [] 0 0).2.1).2 || !(hasS te (rofG (a.take n.toNat) (b.take k.toNat) [] 0 0).2.2.1 (rofG (b.take k.toNat) (a.take n.toNat) [] 0 0).2.1).2 then (152, 0, 0, []) else
 bif decide (((rofG (b.take k.toNat) (a.take n.toNat) [] 0 0).1.length : Int) > 16) || decide (((rofG (a.take n.toNat) (b.take k.toNat) [] 0 0).1.length : Int) > 16) then (150, 0, 0, []) else
 (0, (hasS ts (rofG (b.take k.toNat) (a.take n.toNat) [] 0 0).2.2.1 (rofG (a.take n.toNat) (b.take k.toNat) [] 0 0).2.1).1, (hasS te (rofG (a.take n.toNat) (b.take k.toNat) [] 0 0).2.2.1 (rofG (b.take k.toNat) (a.take n.toNat) [] 0 0).2.1).1,
  (rofG (b.take k.toNat) (a.take n.toNat) [] 0 0).1.map (hH ta) ++ (rofG (a.take n.toNat) (b.take k.toNat) [] 0 0).1.map (hH tb))
theorem rView_ok (tc ta tb to ts te td tf tr tl tg n k : Int) (tx : List Int) (a b : List Msg) (xa xb : Bool) (m : Bool) (ha : a.length * 232 ≤ 140737488355328) (hb : b.length * 232 ≤ 140737488355328) (hm : PCall Try.prog 19 [trT tc ta tb to ts te td tf tr tl tg tx] [.bool m]) :
  PCall Try.prog 48 [trT tc ta tb to ts te td tf tr tl tg tx, .lst xa 137 (a.map Msg.t), .lst xb 137 (b.map Msg.t), .int .i64 n, .int .i64 k] (vwT (rvS m ta tb ts te a b n k)) := by
 unfold rvS
 cases m with
 | false => exact (topK_sound (Cv_ok _ _) (rVMay tc ta tb to ts te td tf tr tl tg n k tx (a.map Msg.t) (b.map Msg.t) xa xb) ⟨hm, trivial⟩).pure (k := 64) rfl
 | true =>
  simp only [Bool.not_true, cond_false]
  cases q1 : decide (n < 0) with
  | true => exact (topK_sound (Cv_ok _ _) (rVRa_1 tc ta tb to ts te td tf tr tl tg n k tx (a.map Msg.t) (b.map Msg.t) xa xb) ⟨q1, hm, trivial⟩).pure (k := 64) rfl
  | false =>
   cases q2 : decide (n > (a.length : Int)) with
   | true => rw [show decide (n > (a.length : Int)) = decide (n > ((a.map Msg.t).length : Int)) by simp] at q2; exact (topK_sound (Cv_ok _ _) (rVRa_2 tc ta tb to ts te td tf tr tl tg n k tx (a.map Msg.t) (b.map Msg.t) xa xb) ⟨q2, q1, hm, trivial⟩).pure (k := 64) rfl
   | false =>
    rw [show decide (n > (a.length : Int)) = decide (n > ((a.map Msg.t).length : Int)) by simp] at q2
    cases q3 : decide (k < 0) with
    | true => exact (topK_sound (Cv_ok _ _) (rVRa_3 tc ta tb to ts te td tf tr tl tg n k tx (a.map Msg.t) (b.map Msg.t) xa xb) ⟨q3, q2, q1, hm, trivial⟩).pure (k := 64) rfl
    | false =>
     cases q4 : decide (k > (b.length : Int)) with
     | true => rw [show decide (k > (b.length : Int)) = decide (k > ((b.map Msg.t).length : Int)) by simp] at q4; exact (topK_sound (Cv_ok _ _) (rVRa_4 tc ta tb to ts te td tf tr tl tg n k tx (a.map Msg.t) (b.map Msg.t) xa xb) ⟨q4, q3, q2, q1, hm, trivial⟩).pure (k := 64) rfl
     | false =>
      rw [show decide (k > (b.length : Int)) = decide (k > ((b.map Msg.t).length : Int)) by simp] at q4
      simp only [Bool.or_false, cond_false]
      have b1 : 0 ≤ n := by simpa using q1
      have b2 : n ≤ (a.length : Int) := by simpa using q2
      have b3 : 0 ≤ k := by simpa using q3
      have b4 : k ≤ (b.length : Int) := by simpa using q4
      have la : (a.take n.toNat).length * 232 ≤ 140737488355328 := by simp [List.length_take]; omega
      have lb : (b.take k.toNat).length * 232 ≤ 140737488355328 := by simp [List.length_take]; omega
      have hra := right_ok a n xa ha b1 b2
      have hrb := right_ok b k xb hb b3 b4
      have hna := named_ok (a.take n.toNat) (b.take k.toNat) (xa && (n.toNat == (a.map Msg.t).length)) (xb && (k.toNat == (b.map Msg.t).length)) la lb
      have hnb := named_ok (b.take k.toNat) (a.take n.toNat) (xb && (k.toNat == (b.map Msg.t).length)) (xa && (n.toNat == (a.map Msg.t).length)) lb la
      have hoa := rof_ok (a.take n.toNat) (b.take k.toNat) (xa && (n.toNat == (a.map Msg.t).length)) (xb && (k.toNat == (b.map Msg.t).length)) ta la lb
      have hob := rof_ok (b.take k.toNat) (a.take n.toNat) (xb && (k.toNat == (b.map Msg.t).length)) (xa && (n.toNat == (a.map Msg.t).length)) tb lb la
      rw [List.map_take, List.map_take] at hna hnb hoa hob
      cases g1 : rgt (a.take n.toNat) 0 with
      | false => rw [g1] at hra; exact (topK_sound (Cv_ok _ _) (rVRa_0 tc ta tb to ts te td tf tr tl tg n k tx (a.map Msg.t) (b.map Msg.t) xa xb) ⟨hra, q4, q3, q2, q1, hm, trivial⟩).pure (k := 64) rfl
      | true =>
       rw [g1] at hra
       cases g2 : rgt (b.take k.toNat) 0 with
       | false => rw [g2] at hrb; exact (topK_sound (Cv_ok _ _) (rVRb_0 tc ta tb to ts te td tf tr tl tg n k tx (a.map Msg.t) (b.map Msg.t) xa xb) ⟨hrb, hra, q4, q3, q2, q1, hm, trivial⟩).pure (k := 64) rfl
       | true =>
        rw [g2] at hrb
        simp only [Bool.not_true, cond_false]
        cases g3 : nmd (cnG (b.take k.toNat) 0) [] (a.take n.toNat) with
        | false => rw [g3] at hna; exact (topK_sound (Cv_ok _ _) (rVNa_0 tc ta tb to ts te td tf tr tl tg n k tx (a.map Msg.t) (b.map Msg.t) xa xb) ⟨hna, rfl, (by omega), (by omega), (by simp only [List.length_map]; omega), rfl, (by omega), (by omega), (by simp only [List.length_map]; omega), hrb, hra, q4, q3, q2, q1, hm, trivial⟩).pure (k := 64) rfl
        | true =>
         rw [g3] at hna
         cases g4 : nmd (cnG (a.take n.toNat) 0) [] (b.take k.toNat) with
         | false => rw [g4] at hnb; exact (topK_sound (Cv_ok _ _) (rVNb_0 tc ta tb to ts te td tf tr tl tg n k tx (a.map Msg.t) (b.map Msg.t) xa xb) ⟨hnb, hna, rfl, (by omega), (by omega), (by simp only [List.length_map]; omega), rfl, (by omega), (by omega), (by simp only [List.length_map]; omega), hrb, hra, q4, q3, q2, q1, hm, trivial⟩).pure (k := 64) rfl
         | true =>
          rw [g4] at hnb
          simp only [Bool.not_true, cond_false]
          generalize rofG (b.take k.toNat) (a.take n.toNat) [] 0 0 = X at hoa ⊢
          generalize rofG (a.take n.toNat) (b.take k.toNat) [] 0 0 = Y at hob ⊢
          cases o1 : X.2.2.2 with
          | true =>
           rw [o1] at hoa
           cases o2 : Y.2.2.2 with
           | true => rw [o2] at hob; exact (topK_sound (Cv_ok _ _) (rVOz_0 tc ta tb to ts te td tf tr tl tg X.2.1 X.2.2.1 Y.2.1 Y.2.2.1 n k tx (X.1.map (hT ta)) (Y.1.map (hT tb)) (a.map Msg.t) (b.map Msg.t) X.1.isEmpty Y.1.isEmpty xa xb) ⟨rfl, rfl, rfl, rfl, hob, hoa, hnb, hna, rfl, (by omega), (by omega), (by simp only [List.length_map]; omega), rfl, (by omega), (by omega), (by simp only [List.length_map]; omega), hrb, hra, q4, q3, q2, q1, hm, trivial⟩).pure (k := 64) rfl
           | false => rw [o2] at hob; exact (topK_sound (Cv_ok _ _) (rVOx_0 tc ta tb to ts te td tf tr tl tg X.2.1 X.2.2.1 Y.2.1 Y.2.2.1 n k tx (X.1.map (hT ta)) (Y.1.map (hT tb)) (a.map Msg.t) (b.map Msg.t) X.1.isEmpty Y.1.isEmpty xa xb) ⟨rfl, rfl, rfl, rfl, hob, hoa, hnb, hna, rfl, (by omega), (by omega), (by simp only [List.length_map]; omega), rfl, (by omega), (by omega), (by simp only [List.length_map]; omega), hrb, hra, q4, q3, q2, q1, hm, trivial⟩).pure (k := 64) rfl
          | false =>
           rw [o1] at hoa
           cases o2 : Y.2.2.2 with
           | true => rw [o2] at hob; exact (topK_sound (Cv_ok _ _) (rVOy_0 tc ta tb to ts te td tf tr tl tg X.2.1 X.2.2.1 Y.2.1 Y.2.2.1 n k tx (X.1.map (hT ta)) (Y.1.map (hT tb)) (a.map Msg.t) (b.map Msg.t) X.1.isEmpty Y.1.isEmpty xa xb) ⟨rfl, rfl, rfl, rfl, hob, hoa, hnb, hna, rfl, (by omega), (by omega), (by simp only [List.length_map]; omega), rfl, (by omega), (by omega), (by simp only [List.length_map]; omega), hrb, hra, q4, q3, q2, q1, hm, trivial⟩).pure (k := 64) rfl
           | false =>
            rw [o2] at hob
            simp only [Bool.or_false, cond_false]
            have hha := has_ok ts X.2.2.1 Y.2.1
            have hhb := has_ok te Y.2.2.1 X.2.1
            cases p1 : (hasS ts X.2.2.1 Y.2.1).2 with
            | false =>
             rw [p1] at hha
             cases p2 : (hasS te Y.2.2.1 X.2.1).2 with
             | false => rw [p2] at hhb; exact (topK_sound (Cv_ok _ _) (rVHFF_0 tc ta tb to ts te td tf tr tl tg X.2.1 X.2.2.1 Y.2.1 Y.2.2.1 (hasS ts X.2.2.1 Y.2.1).1 (hasS te Y.2.2.1 X.2.1).1 n k tx (X.1.map (hT ta)) (Y.1.map (hT tb)) (a.map Msg.t) (b.map Msg.t) X.1.isEmpty Y.1.isEmpty xa xb) ⟨hhb, hha, rfl, rfl, rfl, rfl, hob, hoa, hnb, hna, rfl, (by omega), (by omega), (by simp only [List.length_map]; omega), rfl, (by omega), (by omega), (by simp only [List.length_map]; omega), hrb, hra, q4, q3, q2, q1, hm, trivial⟩).pure (k := 64) rfl
             | true => rw [p2] at hhb; exact (topK_sound (Cv_ok _ _) (rVHFT_0 tc ta tb to ts te td tf tr tl tg X.2.1 X.2.2.1 Y.2.1 Y.2.2.1 (hasS ts X.2.2.1 Y.2.1).1 (hasS te Y.2.2.1 X.2.1).1 n k tx (X.1.map (hT ta)) (Y.1.map (hT tb)) (a.map Msg.t) (b.map Msg.t) X.1.isEmpty Y.1.isEmpty xa xb) ⟨hhb, hha, rfl, rfl, rfl, rfl, hob, hoa, hnb, hna, rfl, (by omega), (by omega), (by simp only [List.length_map]; omega), rfl, (by omega), (by omega), (by simp only [List.length_map]; omega), hrb, hra, q4, q3, q2, q1, hm, trivial⟩).pure (k := 64) rfl
            | true =>
             rw [p1] at hha
             cases p2 : (hasS te Y.2.2.1 X.2.1).2 with
             | false => rw [p2] at hhb; exact (topK_sound (Cv_ok _ _) (rVHTF_0 tc ta tb to ts te td tf tr tl tg X.2.1 X.2.2.1 Y.2.1 Y.2.2.1 (hasS ts X.2.2.1 Y.2.1).1 (hasS te Y.2.2.1 X.2.1).1 n k tx (X.1.map (hT ta)) (Y.1.map (hT tb)) (a.map Msg.t) (b.map Msg.t) X.1.isEmpty Y.1.isEmpty xa xb) ⟨hhb, hha, rfl, rfl, rfl, rfl, hob, hoa, hnb, hna, rfl, (by omega), (by omega), (by simp only [List.length_map]; omega), rfl, (by omega), (by omega), (by simp only [List.length_map]; omega), hrb, hra, q4, q3, q2, q1, hm, trivial⟩).pure (k := 64) rfl
             | true =>
              rw [p2] at hhb
              simp only [Bool.not_true, Bool.or_false, cond_false]
              cases c16a : decide ((X.1.length : Int) > 16) with
              | true => rw [show decide ((X.1.length : Int) > 16) = decide (((X.1.map (hT ta)).length : Int) > 16) by simp] at c16a; exact (topK_sound (Cv_ok _ _) (rVHTT_5 tc ta tb to ts te td tf tr tl tg X.2.1 X.2.2.1 Y.2.1 Y.2.2.1 (hasS ts X.2.2.1 Y.2.1).1 (hasS te Y.2.2.1 X.2.1).1 n k tx (X.1.map (hT ta)) (Y.1.map (hT tb)) (a.map Msg.t) (b.map Msg.t) X.1.isEmpty Y.1.isEmpty xa xb) ⟨c16a, hhb, hha, rfl, rfl, rfl, rfl, hob, hoa, hnb, hna, rfl, (by omega), (by omega), (by simp only [List.length_map]; omega), rfl, (by omega), (by omega), (by simp only [List.length_map]; omega), hrb, hra, q4, q3, q2, q1, hm, trivial⟩).pure (k := 64) rfl
              | false =>
               rw [show decide ((X.1.length : Int) > 16) = decide (((X.1.map (hT ta)).length : Int) > 16) by simp] at c16a
               cases c16b : decide ((Y.1.length : Int) > 16) with
               | true => rw [show decide ((Y.1.length : Int) > 16) = decide (((Y.1.map (hT tb)).length : Int) > 16) by simp] at c16b; exact (topK_sound (Cv_ok _ _) (rVHTT_6 tc ta tb to ts te td tf tr tl tg X.2.1 X.2.2.1 Y.2.1 Y.2.2.1 (hasS ts X.2.2.1 Y.2.1).1 (hasS te Y.2.2.1 X.2.1).1 n k tx (X.1.map (hT ta)) (Y.1.map (hT tb)) (a.map Msg.t) (b.map Msg.t) X.1.isEmpty Y.1.isEmpty xa xb) ⟨c16b, c16a, hhb, hha, rfl, rfl, rfl, rfl, hob, hoa, hnb, hna, rfl, (by omega), (by omega), (by simp only [List.length_map]; omega), rfl, (by omega), (by omega), (by simp only [List.length_map]; omega), hrb, hra, q4, q3, q2, q1, hm, trivial⟩).pure (k := 64) rfl
               | false =>
                rw [show decide ((Y.1.length : Int) > 16) = decide (((Y.1.map (hT tb)).length : Int) > 16) by simp] at c16b
                have g : PCall Try.prog 48 [trT tc ta tb to ts te td tf tr tl tg tx, .lst xa 137 (a.map Msg.t), .lst xb 137 (b.map Msg.t), .int .i64 n, .int .i64 k] [.agg [.int .i64 (hasS ts X.2.2.1 Y.2.1).1, .int .i64 (hasS te Y.2.2.1 X.2.1).1, .lst false 36 (X.1.map (hT ta) ++ Y.1.map (hT tb))], .int .i64 0] := (topK_sound (Cv_ok _ _) (rVHTT_0 tc ta tb to ts te td tf tr tl tg X.2.1 X.2.2.1 Y.2.1 Y.2.2.1 (hasS ts X.2.2.1 Y.2.1).1 (hasS te Y.2.2.1 X.2.1).1 n k tx (X.1.map (hT ta)) (Y.1.map (hT tb)) (a.map Msg.t) (b.map Msg.t) X.1.isEmpty Y.1.isEmpty xa xb) ⟨rfl, rfl, rfl, rfl, rfl, rfl, (by simp only [List.length_map] at c16a c16b ⊢; simp only [decide_eq_false_iff_not] at c16a c16b; omega), (by simp only [List.length_map] at c16a c16b ⊢; simp only [decide_eq_false_iff_not] at c16a c16b; omega), c16b, c16a, hhb, hha, rfl, rfl, rfl, rfl, hob, hoa, hnb, hna, rfl, (by omega), (by omega), (by simp only [List.length_map]; omega), rfl, (by omega), (by omega), (by simp only [List.length_map]; omega), hrb, hra, q4, q3, q2, q1, hm, trivial⟩).pure (k := 64) rfl
                rw [hT_map, hT_map, ← List.map_append] at g
                exact g
def SSV (ra rb : Int) (rh : List T) (fr : Bool) (i : Int) : St := ⟨45, [(2, .ptr 0 0), (3, .ptr 1 0), (5, .p (.int .i64 i))], [.box (.p (.agg [.int .i64 ra, .int .i64 rb, .lst fr 36 rh])), .box (.p (.agg [.int .i64 ra, .int .i64 rb, .lst fr 36 rh]))]⟩
theorem sv_loop (ra rb : Int) (z : List H) (fr : Bool) (hl : z.length ≤ 1000) : ∀ (r pre : List H), z = pre ++ r →
  LoopG Try.prog 0 (loopAt Try.f50 0) (SSV ra rb (z.map H.t) fr (pre.length : Int)) (.exit 0) (SSV ra rb (z.map H.t) fr (z.length : Int))
 | [], pre, he => by
  have e : pre = z := by rw [he]; simp
  rw [e]
  exact LoopG.leave (CodeG.normE (bodyK_sound (Cv_ok _ _) (svX ra rb (z.length : Int) (z.map H.t) fr) ⟨by simp, trivial⟩) (by omega) (by omega) [2, 3, 5] (m := 0) (k := 2) (by kernel_rfl)) rfl
 | h :: r, pre, he => by
  have hx : (0 : Int) ≤ (pre.length : Int) ∧ (z.map H.t)[((pre.length : Int)).toNat]? = some h.t := ⟨by omega, by rw [he]; simp⟩
  have hlen : pre.length + (r.length + 1) = z.length := by rw [he]; simp
  have hlt : decide ((pre.length : Int) < ((z.map H.t).length : Int)) = true := by rw [he]; simp; omega
  have wi : IntKind.i64.wrap ((pre.length : Int) + 1) = (pre.length : Int) + 1 := w64 (by omega) (by omega)
  have ih := sv_loop ra rb z fr hl r (pre ++ [h]) (by rw [he]; simp)
  rw [show (((pre ++ [h]).length : Nat) : Int) = (pre.length : Int) + 1 by simp] at ih
  have q := CodeG.normE (bodyK_sound (Cv_ok _ _) (svB ra rb (pre.length : Int) h.hb h.hi h.hm h.he h.hh (z.map H.t) fr) ⟨by simp [H.t, T.eqB, T.eqsB], hx, hx, hlt, trivial⟩) (by omega) (by omega) [2, 3, 5] (m := 0) (k := 2) (st2 := SSV ra rb (z.map H.t) fr (IntKind.i64.wrap ((pre.length : Int) + 1))) (by kernel_rfl)
  rw [wi] at q
  exact LoopG.next q ih
theorem same_ok (ra rb : Int) (z : List H) (fr : Bool) (hl : z.length ≤ 1000) : PCall Try.prog 50 [.agg [.int .i64 ra, .int .i64 rb, .lst fr 36 (z.map H.t)], .agg [.int .i64 ra, .int .i64 rb, .lst fr 36 (z.map H.t)]] [.bool true] :=
 (topK_sound (Cv_ok _ _) (svT ra rb (z.length : Int) (z.map H.t) fr) ⟨LoopG.preE (by omega) (by omega) [2, 3, 5] (m := 0) (k := 2) (by kernel_rfl) (sv_loop ra rb z fr hl z [] rfl), by simp, by simp, by simp, trivial⟩).pure (k := 64) rfl
theorem views_ok (tc ta tb to ts te td tf tr tl tg ra rb n k c : Int) (tx : List Int) (rh ma mb : List T) (fr xa xb : Bool)
  (huv : PCall Try.prog 47 [trT tc ta tb to ts te td tf tr tl tg tx, .lst xa 137 ma, .lst xb 137 mb, .int .i64 n, .int .i64 k] [.agg [.int .i64 ra, .int .i64 rb, .lst fr 36 rh], .int .i64 0]) (hrv : PCall Try.prog 48 [trT tc ta tb to ts te td tf tr tl tg tx, .lst xa 137 ma, .lst xb 137 mb, .int .i64 n, .int .i64 k] [.agg [.int .i64 ra, .int .i64 rb, .lst fr 36 rh], .int .i64 0]) (hlv : PCall Try.prog 49 [] [.bool true])
  (hs : PCall Try.prog 50 [.agg [.int .i64 ra, .int .i64 rb, .lst fr 36 rh], .agg [.int .i64 ra, .int .i64 rb, .lst fr 36 rh]] [.bool true]) (hua : PCall Try.prog 51 [.lst xa 137 ma, .int .i64 n] [.int .i64 c]) (hra : PCall Try.prog 52 [.lst xa 137 ma, .int .i64 n] [.int .i64 c])
  (hf : PCall Try.prog 21 [trT tc ta tb to ts te td tf tr tl tg tx, .agg [.int .i64 ra, .int .i64 rb, .lst fr 36 rh]] [.bool true]) :
  PCall Try.prog 6 [trT tc ta tb to ts te td tf tr tl tg tx, .lst xa 137 ma, .lst xb 137 mb, .int .i64 n, .int .i64 k] [.bool true] :=
 (topK_sound (Cv_ok _ _) (lawK tc ta tb to ts te td tf tr tl tg ra rb n k c tx rh ma mb fr xa xb) ⟨hf, (by simp), hra, hua, hs, hlv, hrv, huv, trivial⟩).pure (k := 64) rfl
theorem views_err (tc ta tb to ts te td tf tr tl tg ra rb n k c e : Int) (tx : List Int) (rh ma mb : List T) (fr xa xb : Bool) (he : (e != 0) = true)
    (huv : PCall Try.prog 47 [trT tc ta tb to ts te td tf tr tl tg tx, .lst xa 137 ma, .lst xb 137 mb, .int .i64 n, .int .i64 k] [.agg [.int .i64 ra, .int .i64 rb, .lst fr 36 rh], .int .i64 e]) (hrv : PCall Try.prog 48 [trT tc ta tb to ts te td tf tr tl tg tx, .lst xa 137 ma, .lst xb 137 mb, .int .i64 n, .int .i64 k] [.agg [.int .i64 ra, .int .i64 rb, .lst fr 36 rh], .int .i64 e]) (hlv : PCall Try.prog 49 [] [.bool true])
    (hs : PCall Try.prog 50 [.agg [.int .i64 ra, .int .i64 rb, .lst fr 36 rh], .agg [.int .i64 ra, .int .i64 rb, .lst fr 36 rh]] [.bool true]) (hua : PCall Try.prog 51 [.lst xa 137 ma, .int .i64 n] [.int .i64 c]) (hra : PCall Try.prog 52 [.lst xa 137 ma, .int .i64 n] [.int .i64 c])
     :
    PCall Try.prog 6 [trT tc ta tb to ts te td tf tr tl tg tx, .lst xa 137 ma, .lst xb 137 mb, .int .i64 n, .int .i64 k] [.bool true] :=
  (topK_sound (Cv_ok _ _) (lawE tc ta tb to ts te td tf tr tl tg ra rb n k e c tx rh ma mb fr xa xb) ⟨he, (by simp), hra, hua, (by simp), hs, hlv, hrv, huv, trivial⟩).pure (k := 64) rfl
end Go.HM.Up
set_option maxRecDepth 100000
namespace Go.HM.Up
open Go.Proofs
def adds (l : List Msg) : List Msg := l.filter fun m => m.kd == 1
def outs (l : List Msg) : List (Int × Int) := (l.filter fun m => m.kd != 1).map fun m => (m.id, m.kd)
def cntO (n : Int) : List Msg → Nat
 | [] => 0
 | m :: r => (bif m.kd != 1 && m.id == n then 1 else 0) + cntO n r
theorem rd_adds : ∀ (r acc vs : List Msg), rd r acc = some vs → vs = acc ++ adds r
 | [], acc, vs, h => by simp only [rd, Option.some.injEq] at h; simp [adds, h]
 | m :: r, acc, vs, h => by
  simp only [rd] at h
  cases c1 : m.kd == 1 with
  | true =>
   rw [c1] at h
   cases c2 : badM m acc.length with
   | true => simp only [c2, cond_true] at h; cases h
   | false =>
    simp only [c2, cond_true, cond_false] at h
    have := rd_adds r _ vs h
    rw [this]
    simp [adds, List.filter_cons, c1]
  | false =>
   rw [c1] at h
   cases c2 : (m.kd == 2 || m.kd == 3) with
   | true =>
    simp only [c2, cond_true, cond_false] at h
    have := rd_adds r acc vs h
    rw [this]
    simp [adds, List.filter_cons, c1]
   | false => simp only [c2, cond_false] at h; cases h
theorem rd_rgt : ∀ (r acc : List Msg), acc.length + r.length ≤ 1000000000000 → (rd r acc).isSome = rgt r (acc.length : Int)
 | [], acc, _ => rfl
 | m :: r, acc, hb => by
  simp only [rd, rgt, rst]
  have hb' : acc.length + (r.length + 1) ≤ 1000000000000 := by simpa using hb
  have wk : IntKind.i64.wrap ((acc.length : Int) + 1) = ((acc ++ [m]).length : Int) := by rw [w64 (by omega) (by omega)]; simp
  cases c1 : m.kd == 1 with
  | true =>
   have hk : m.kd = 1 := by simpa using c1
   rw [show decide (m.kd < 1) = false by simp [hk], show decide (m.kd > 3) = false by simp [hk]]
   cases c2 : badM m acc.length with
   | true => rfl
   | false =>
    simp only [cond_true, cond_false]
    rw [wk]
    exact rd_rgt r (acc ++ [m]) (by simp; omega)
  | false =>
   have hk : m.kd ≠ 1 := by simpa using c1
   simp only [cond_false]
   cases c2 : (m.kd == 2 || m.kd == 3) with
   | true =>
    have h23 : m.kd = 2 ∨ m.kd = 3 := by simpa using c2
    rw [show decide (m.kd < 1) = false by simp; omega, show decide (m.kd > 3) = false by simp; omega]
    simp only [cond_true, cond_false]
    exact rd_rgt r acc (by omega)
   | false =>
    have h23 : ¬ (m.kd = 2 ∨ m.kd = 3) := by simpa using c2
    simp only [cond_false]
    by_cases q : m.kd < 1
    ·rw [show decide (m.kd < 1) = true by simpa using q]; rfl
    ·rw [show decide (m.kd < 1) = false by simpa using q, show decide (m.kd > 3) = true by simp; omega]; rfl
theorem cnG_adds : ∀ (l : List Msg) (k : Int), 0 ≤ k → k + l.length ≤ 1000000000000 → cnG l k = k + (adds l).length
 | [], k, _, _ => by simp [cnG, adds]
 | m :: r, k, h0, hb => by
  have hb' : k + ((r.length : Int) + 1) ≤ 1000000000000 := by simpa using hb
  simp only [cnG]
  cases c1 : m.kd == 1 with
  | true =>
   simp only [cond_true]
   rw [w64 (by omega) (by omega), cnG_adds r (k + 1) (by omega) (by omega)]
   simp [adds, List.filter_cons, c1]
   omega
  | false =>
   simp only [cond_false]
   rw [cnG_adds r k h0 (by omega)]
   simp [adds, List.filter_cons, c1]
theorem hw_cnt (n : Int) : ∀ (l : List Msg) (k c : Int), 0 ≤ c → c + l.length ≤ 1000000000000 → (hwG n l k c).2 = c + cntO n l
 | [], k, c, _, _ => by simp [hwG, cntO]
 | m :: r, k, c, h0, hb => by
  have hb' : c + ((r.length : Int) + 1) ≤ 1000000000000 := by simpa using hb
  simp only [hwG, cntO]
  cases c1 : m.kd != 1 with
  | true =>
   cases c2 : m.id == n with
   | true =>
    simp only [cond_true, Bool.and_self]
    rw [w64 (by omega) (by omega), hw_cnt n r _ (c + 1) (by omega) (by omega)]
    simp; omega
   | false => simp only [cond_true, cond_false, Bool.and_false]; rw [hw_cnt n r _ c h0 (by omega)]; simp
  | false => simp only [cond_false, Bool.false_and]; rw [hw_cnt n r _ c h0 (by omega)]; simp
theorem hw_keep (n : Int) : ∀ (l : List Msg) (k c : Int), 1 ≤ c → c + l.length ≤ 1000000000000 → (hwG n l k c).1 = k
 | [], k, c, _, _ => rfl
 | m :: r, k, c, h0, hb => by
  have hb' : c + ((r.length : Int) + 1) ≤ 1000000000000 := by simpa using hb
  simp only [hwG]
  rw [show (c == 0) = false by simp; omega]
  simp only [cond_false]
  cases m.kd != 1 with
  | true =>
   cases m.id == n with
   | true => simp only [cond_true]; rw [w64 (by omega) (by omega)]; exact hw_keep n r k (c + 1) (by omega) (by omega)
   | false => exact hw_keep n r k c h0 (by omega)
  | false => exact hw_keep n r k c h0 (by omega)
theorem hw_look (n : Int) : ∀ (l : List Msg), l.length ≤ 1000000000000 → (hwG n l 0 0).1 = look (outs l) n
  | [], _ => rfl
  | m :: r, hb => by
    have hb' : r.length + 1 ≤ 1000000000000 := by simpa using hb
    have ih := hw_look n r (by omega)
    simp only [hwG]
    cases c1 : m.kd != 1 with
    | true =>
      cases c2 : m.id == n with
      | true =>
        simp only [cond_true, beq_self_eq_true]
        rw [w64 (by omega) (by omega), hw_keep n r m.kd (0 + 1) (by omega) (by omega)]
        have e : n = m.id := by have := eq_of_beq c2; omega
        simp [look, outs, List.filter_cons, c1, e]
      | false =>
        simp only [cond_true, cond_false]
        rw [ih]
        have e : (n == m.id) = false := by have : ¬ m.id = n := by simpa using c2
                                           simp; omega
        simp only [look, outs, List.filter_cons, c1, if_true, List.map_cons, List.find?_cons, e]
    | false =>
      simp only [cond_false]
      rw [ih]
      simp [look, outs, List.filter_cons, c1]
theorem has_cnt (n : Int) : ∀ (l : List Msg), hasK (outs l) n = decide ((cntO n l : Int) > 0)
 | [] => rfl
 | m :: r => by
  have ih := has_cnt n r
  cases c1 : m.kd != 1 with
  | true =>
   have e : hasK (outs (m :: r)) n = ((n == m.id) || hasK (outs r) n) := by simp [hasK, outs, List.filter_cons, c1]
   rw [e, ih]
   simp only [cntO, c1, Bool.true_and]
   cases c2 : m.id == n with
   | true =>
    have e2 : n = m.id := by have := eq_of_beq c2; omega
    rw [show (n == m.id) = true by simpa using e2]
    simp; omega
   | false =>
    have e2 : ¬ m.id = n := by simpa using c2
    rw [show (n == m.id) = false by simp; omega]
    simp
  | false =>
   have e : outs (m :: r) = outs r := by simp [outs, List.filter_cons, c1]
   rw [e, ih]
   simp [cntO, c1]
theorem outs_snoc (pre : List Msg) (m : Msg) : outs (pre ++ [m]) = bif m.kd != 1 then outs pre ++ [(m.id, m.kd)] else outs pre := by
 cases c : m.kd != 1 <;> simp [outs, List.filter_append, List.filter_cons, c]
theorem stl_nmd (B : Int) : ∀ (r pre : List Msg), pre.length + r.length ≤ 1000000000000 → (stl B r (outs pre)).isSome = nmd B pre r
 | [], pre, _ => rfl
 | m :: r, pre, hb => by
  have hb' : pre.length + (r.length + 1) ≤ 1000000000000 := by simpa using hb
  have hc : decide ((hwG m.id pre 0 0).2 > 0) = hasK (outs pre) m.id := by
   rw [hw_cnt m.id pre 0 0 (by omega) (by omega), has_cnt, Int.zero_add]
  simp only [stl, nmd, nst]
  rw [hc]
  cases c1 : m.kd == 1 with
  | true =>
   simp only [cond_true, Bool.true_and]
   have e := outs_snoc pre m
   rw [show (m.kd != 1) = false by simp [bne, c1]] at e
   rw [← show outs (pre ++ [m]) = outs pre from e]
   exact stl_nmd B r (pre ++ [m]) (by simp; omega)
  | false =>
   simp only [cond_false]
   have e := outs_snoc pre m
   rw [show (m.kd != 1) = true by simp [bne, c1]] at e
   cases c2 : hasK (outs pre) m.id with
   | true => cases decide (m.id < 0) <;> cases decide (m.id ≥ B) <;> rfl
   | false =>
    simp only [cond_false]
    cases c3 : decide (m.id < 0) with
    | true => rfl
    | false =>
     cases c4 : decide (m.id ≥ B) with
     | true => rfl
     | false =>
      simp only [Bool.or_self, cond_false, Bool.not_false, Bool.true_and]
      rw [← show outs (pre ++ [m]) = outs pre ++ [(m.id, m.kd)] from e]
      exact stl_nmd B r (pre ++ [m]) (by simp; omega)
theorem stl_outs (B : Int) : ∀ (r : List Msg) (ms ns : List (Int × Int)), stl B r ms = some ns → ns = ms ++ outs r
 | [], ms, ns, h => by simp only [stl, Option.some.injEq] at h; simp [outs, h]
 | m :: r, ms, ns, h => by
  simp only [stl] at h
  cases c1 : m.kd == 1 with
  | true =>
   rw [c1] at h
   have := stl_outs B r ms ns h
   rw [this]
   simp [outs, List.filter_cons, bne, c1]
  | false =>
   rw [c1] at h
   cases c2 : hasK ms m.id with
   | true => rw [c2] at h; cases h
   | false =>
    rw [c2] at h
    cases c3 : (decide (m.id < 0) || decide (m.id ≥ B)) with
    | true => rw [c3] at h; cases h
    | false =>
     rw [c3] at h
     have := stl_outs B r _ ns h
     rw [this]
     simp [outs, List.filter_cons, bne, c1]
theorem of_rof (os : List Msg) (ns : List (Int × Int)) (wh : Int) (hn : ∀ k, look ns k = (hwG k os 0 0).1) : ∀ (r hs : List Msg) (pd al : Int),
  ofG ns wh (adds r) hs pd al = bif (rofG os r hs pd al).2.2.2 then none else some ((rofG os r hs pd al).1, (rofG os r hs pd al).2.1, (rofG os r hs pd al).2.2.1)
 | [], hs, pd, al => rfl
 | m :: r, hs, pd, al => by
  cases c1 : m.kd == 1 with
  | false =>
   have e : adds (m :: r) = adds r := by simp [adds, List.filter_cons, c1]
   rw [e]
   simp only [rofG]
   rw [show (m.kd != 1) = true by simp [bne, c1]]
   simp only [cond_true]
   exact of_rof os ns wh hn r hs pd al
  | true =>
   have e : adds (m :: r) = m :: adds r := by simp [adds, List.filter_cons, c1]
   rw [e]
   simp only [rofG, ofG]
   rw [show (m.kd != 1) = false by simp [bne, c1], hn m.id]
   simp only [cond_false]
   cases c2 : (hwG m.id os 0 0).1 == 3 with
   | true => simp only [cond_true]; exact of_rof os ns wh hn r hs pd al
   | false =>
    simp only [cond_false]
    cases c3 : (Deal.add al m.am).2 != 0 with
    | true => rfl
    | false =>
     simp only [cond_false]
     cases c4 : (hwG m.id os 0 0).1 == 2 with
     | true => simp only [cond_true]; exact of_rof os ns wh hn r hs _ _
     | false => simp only [cond_false]; exact of_rof os ns wh hn r (hs ++ [m]) pd _
theorem hw_not (n : Int) (l : List Msg) (hb : l.length ≤ 1000000000000) : ∀ k, look (outs l) k = (hwG k l 0 0).1 := fun k => (hw_look k l hb).symm
theorem has_left {ts te xa xp ya yp sx sy : Int} (h0 : 0 ≤ ts) (h1 : 0 ≤ te) (h2 : ts + te ≤ 9223372036854775807) (p1 : 0 ≤ xp) (p2 : xa = xp + sx) (p3 : 0 ≤ sx) (p4 : xa ≤ 9223372036854775807) (q1 : 0 ≤ yp) (q2 : ya = yp + sy) (q3 : 0 ≤ sy) (q4 : ya ≤ 9223372036854775807) :
  ((!(hasS ts xa yp).2 || !(hasS te ya xp).2) = (decide (leftI ts xa yp < 0) || decide (leftI te ya xp < 0))) ∧ ((decide (leftI ts xa yp < 0) || decide (leftI te ya xp < 0)) = false → (hasS ts xa yp).1 = leftI ts xa yp ∧ (hasS te ya xp).1 = leftI te ya xp) := by
 have L : ∀ {st al pd : Int}, 0 ≤ st → st ≤ 9223372036854775807 → 0 ≤ al → al ≤ 9223372036854775807 → 0 ≤ pd → pd ≤ 9223372036854775807 → leftI st al pd = IntKind.i64.wrap (st - al + pd) := by
  intro st al pd a1 a2 a3 a4 a5 a6
  unfold leftI
  rw [w64 (n := st - al) (by omega) (by omega)]
  cases decide (st - al > 0) with
  | true => rfl
  | false => rw [cond_false, Int.add_comm]
 have A : ∀ {st al pd : Int}, 0 ≤ st → st ≤ 9223372036854775807 → 0 ≤ al → al ≤ 9223372036854775807 → 0 ≤ pd → pd ≤ 9223372036854775807 → hasS st al pd = bif decide (st - al + pd < 0) then (0, false) else (IntKind.i64.wrap (st - al + pd), true) := by
  intro st al pd a1 a2 a3 a4 a5 a6
  unfold hasS
  rw [w64 (n := st - al) (by omega) (by omega), w64 (n := al - st) (by omega) (by omega)]
  by_cases c : al ≤ st
  ·rw [show decide (al ≤ st) = true by simpa using c, show decide (st - al + pd < 0) = false by simp; omega]; rfl
  ·rw [show decide (al ≤ st) = false by simpa using c]
   simp only [cond_false]
   by_cases d : al - st > pd
   ·rw [show decide (al - st > pd) = true by simpa using d, show decide (st - al + pd < 0) = true by simp; omega]; rfl
   ·rw [show decide (al - st > pd) = false by simpa using d, show decide (st - al + pd < 0) = false by simp; omega]
    simp only [cond_false]
    rw [show pd - (al - st) = st - al + pd by omega]
 rw [L (st := ts) (al := xa) (pd := yp) (by omega) (by omega) (by omega) (by omega) (by omega) (by omega), L (st := te) (al := ya) (pd := xp) (by omega) (by omega) (by omega) (by omega) (by omega) (by omega),
  A (st := ts) (al := xa) (pd := yp) (by omega) (by omega) (by omega) (by omega) (by omega) (by omega), A (st := te) (al := ya) (pd := xp) (by omega) (by omega) (by omega) (by omega) (by omega) (by omega)]
 by_cases c1 : ts - xa + yp < 0
 ·have w1 : IntKind.i64.wrap (ts - xa + yp) = ts - xa + yp := w64 (by omega) (by omega)
  rw [w1, show decide (ts - xa + yp < 0) = true by simpa using c1]
  exact ⟨rfl, fun h => by simp at h⟩
 ·by_cases c2 : te - ya + xp < 0
  ·have w2 : IntKind.i64.wrap (te - ya + xp) = te - ya + xp := w64 (by omega) (by omega)
   rw [w2, show decide (te - ya + xp < 0) = true by simpa using c2]
   exact ⟨by simp, fun h => by simp at h⟩
  ·have w1 : IntKind.i64.wrap (ts - xa + yp) = ts - xa + yp := w64 (by omega) (by omega)
   have w2 : IntKind.i64.wrap (te - ya + xp) = te - ya + xp := w64 (by omega) (by omega)
   rw [w1, w2, show decide (ts - xa + yp < 0) = false by simpa using c1, show decide (te - ya + xp < 0) = false by simpa using c2]
   exact ⟨rfl, fun _ => ⟨rfl, rfl⟩⟩
end Go.HM.Up
set_option maxRecDepth 100000
namespace Go.HM.Up
open Go.Proofs
theorem rv_core {ta tb ts te : Int} {a b : List Msg} (la : a.length ≤ 1000000000000) (lb : b.length ≤ 1000000000000) (ra : ∀ x ∈ a, x.am ≤ 9223372036854775807) (rb : ∀ x ∈ b, x.am ≤ 9223372036854775807)
  (h1 : 0 ≤ ts) (h2 : 0 ≤ te) (h3 : ts + te ≤ 9223372036854775807) :
  (bif !rgt a 0 then (1, 0, 0, []) else bif !rgt b 0 then (1, 0, 0, []) else
   bif !nmd (cnG b 0) [] a then (4, 0, 0, []) else bif !nmd (cnG a 0) [] b then (4, 0, 0, []) else
   bif (rofG b a [] 0 0).2.2.2 || (rofG a b [] 0 0).2.2.2 then (20, 0, 0, []) else
   bif !(hasS ts (rofG b a [] 0 0).2.2.1 (rofG a b [] 0 0).2.1).2 || !(hasS te (rofG a b [] 0 0).2.2.1 (rofG b a [] 0 0).2.1).2 then (152, 0, 0, []) else
   bif decide (((rofG b a [] 0 0).1.length : Int) > 16) || decide (((rofG a b [] 0 0).1.length : Int) > 16) then (150, 0, 0, []) else
   (0, (hasS ts (rofG b a [] 0 0).2.2.1 (rofG a b [] 0 0).2.1).1, (hasS te (rofG a b [] 0 0).2.2.1 (rofG b a [] 0 0).2.1).1, (rofG b a [] 0 0).1.map (hH ta) ++ (rofG a b [] 0 0).1.map (hH tb))) =
  ((bif (lookS true ta tb a b).1 != 0 then ((lookS true ta tb a b).1, 0, 0, []) else
   bif (viewS ts te (lookS true ta tb a b).2.1 (lookS true ta tb a b).2.2).1 != 0 then ((viewS ts te (lookS true ta tb a b).2.1 (lookS true ta tb a b).2.2).1, 0, 0, []) else
   (0, (viewS ts te (lookS true ta tb a b).2.1 (lookS true ta tb a b).2.2).2.1, (viewS ts te (lookS true ta tb a b).2.1 (lookS true ta tb a b).2.2).2.2,
    (lookS true ta tb a b).2.1.hs.map (hH ta) ++ (lookS true ta tb a b).2.2.hs.map (hH tb)) : Int × Int × Int × List H)) := by
 have e1 := rd_rgt a [] (by simpa using la)
 have e2 := rd_rgt b [] (by simpa using lb)
 rw [show (([] : List Msg).length : Int) = 0 from rfl] at e1 e2
 unfold lookS
 cases ea : rd a [] with
 | none => rw [ea] at e1; rw [← e1]; rfl
 | some p =>
  rw [ea] at e1
  rw [← e1]
  cases eb : rd b [] with
  | none => rw [eb] at e2; rw [← e2]; rfl
  | some q =>
   rw [eb] at e2
   rw [← e2]
   have hp : p = adds a := by simpa using rd_adds a [] p ea
   have hq : q = adds b := by simpa using rd_adds b [] q eb
   have op := rd_ok a [] p ra (fun i m e => by simp at e) ea
   have oq := rd_ok b [] q rb (fun i m e => by simp at e) eb
   have ca : cnG a 0 = ((p.map Msg.t).length : Int) := by rw [cnG_adds a 0 (by omega) (by omega), hp]; simp
   have cb : cnG b 0 = ((q.map Msg.t).length : Int) := by rw [cnG_adds b 0 (by omega) (by omega), hq]; simp
   have s1 := stl_nmd (cnG b 0) a [] (by simpa using la)
   have s2 := stl_nmd (cnG a 0) b [] (by simpa using lb)
   rw [show outs [] = [] from rfl] at s1 s2
   rw [← s1, ← s2]
   rw [ca, cb]
   simp only [Option.isSome_some, Bool.not_true, cond_false]
   cases e3 : stl ((q.map Msg.t).length : Int) a [] with
   | none => rfl
   | some mp =>
    cases e4 : stl ((p.map Msg.t).length : Int) b [] with
    | none => rfl
    | some mq =>
     have hmp : mp = outs a := by simpa using stl_outs _ a [] mp e3
     have hmq : mq = outs b := by simpa using stl_outs _ b [] mq e4
     simp only [Option.isSome_some, Bool.not_true, cond_false]
     have f1 := of_rof b (outs b) ta (hw_not 0 b lb) a [] 0 0
     have f2 := of_rof a (outs a) tb (hw_not 0 a la) b [] 0 0
     rw [← hp] at f1
     rw [← hq] at f2
     rw [hmp, hmq]
     generalize rofG b a [] 0 0 = X at f1 ⊢
     generalize rofG a b [] 0 0 = Y at f2 ⊢
     obtain ⟨xh, xp, xa, xo⟩ := X
     obtain ⟨yh, yp, ya, yo⟩ := Y
     simp only at f1 f2 ⊢
     cases xo with
     | true => rw [f1]; rfl
     | false =>
      rw [f1]
      cases yo with
      | true => rw [f2]; rfl
      | false =>
       rw [f2]
       have kx := sdOk_of op f1
       have ky := sdOk_of oq f2
       have sx := sumA_nonneg xh kx.pos
       have sy := sumA_nonneg yh ky.pos
       obtain ⟨g1, g2⟩ := has_left h1 h2 h3 kx.pd kx.al sx kx.most ky.pd ky.al sy ky.most
       simp only [cond_false, Bool.or_self]
       simp only at g1 g2
       rw [g1]
       unfold viewS
       simp only
       cases d1 : decide (leftI ts xa yp < 0) with
       | true => rfl
       | false =>
        cases d2 : decide (leftI te ya xp < 0) with
        | true => rfl
        | false =>
         rw [d1, d2] at g2
         obtain ⟨g3, g4⟩ := g2 rfl
         rw [g3, g4]
         cases decide ((xh.length : Int) > 16) with
         | true => rfl
         | false => cases decide ((yh.length : Int) > 16) <;> rfl
theorem rv_eq {m : Bool} {ta tb ts te n k : Int} {a b : List Msg} (la : a.length ≤ 1000000000000) (lb : b.length ≤ 1000000000000) (ra : ∀ x ∈ a, x.am ≤ 9223372036854775807) (rb : ∀ x ∈ b, x.am ≤ 9223372036854775807)
  (hmay : m = true → ta < tb ∧ 0 ≤ ts ∧ 0 ≤ te ∧ ts + te ≤ 9223372036854775807) : rvS m ta tb ts te a b n k = vwS m ta tb ts te a b n k := by
 unfold rvS vwS
 cases c1 : (decide (n < 0) || decide (n > (a.length : Int)) || decide (k < 0) || decide (k > (b.length : Int))) with
 | true => cases m <;> rfl
 | false =>
  cases m with
  | false => rfl
  | true =>
   obtain ⟨_, h1, h2, h3⟩ := hmay rfl
   simp only [Bool.not_true, cond_false]
   exact rv_core (by simp [List.length_take]; omega) (by simp [List.length_take]; omega) (fun x hx => ra x (List.mem_of_mem_take hx)) (fun x hx => rb x (List.mem_of_mem_take hx)) h1 h2 h3
def fine (m : Msg) : Prop := 0 ≤ m.id ∧ 0 ≤ m.ex ∧ m.ex ≤ 2147483647 ∧ (m.hh == zeros) = false
theorem rd_fine : ∀ (r acc vs : List Msg), (∀ m ∈ acc, fine m) → rd r acc = some vs → ∀ m ∈ vs, fine m
 | [], acc, vs, ho, h => by simp only [rd, Option.some.injEq] at h; rw [← h]; exact ho
 | m :: r, acc, vs, ho, h => by
  simp only [rd] at h
  cases c1 : m.kd == 1 with
  | true =>
   rw [c1] at h
   cases c2 : badM m acc.length with
   | true => simp only [c2, cond_true] at h; cases h
   | false =>
    simp only [c2, cond_true, cond_false] at h
    simp only [badM, Bool.or_eq_false_iff, decide_eq_false_iff_not, bne_eq_false_iff_eq] at c2
    refine rd_fine r _ vs (fun x hx => ?_) h
    rcases List.mem_append.1 hx with q | q
    ·exact ho x q
    ·simp at q; subst q; exact ⟨by omega, by omega, by omega, c2.1.2⟩
  | false =>
   rw [c1] at h
   cases c2 : (m.kd == 2 || m.kd == 3) with
   | true => simp only [c2, cond_true, cond_false] at h; exact rd_fine r acc vs ho h
   | false => simp only [c2, cond_false] at h; cases h
theorem of_sub (ns : List (Int × Int)) (wh : Int) : ∀ (us hs : List Msg) (pd al : Int) (r : List Msg × Int × Int), ofG ns wh us hs pd al = some r → ∀ m ∈ r.1, m ∈ hs ∨ m ∈ us
 | [], hs, pd, al, r, h => by simp only [ofG, Option.some.injEq] at h; subst h; exact fun m hm => .inl hm
 | m :: us, hs, pd, al, r, h => by
  simp only [ofG] at h
  have go : ∀ {hs2 : List Msg} {pd2 al2 : Int}, ofG ns wh us hs2 pd2 al2 = some r → (∀ x ∈ hs2, x ∈ hs ∨ x = m) → ∀ x ∈ r.1, x ∈ hs ∨ x ∈ m :: us := fun h2 hh x hx => by
   rcases of_sub ns wh us _ _ _ r h2 x hx with q | q
   ·rcases hh x q with q | q
    ·exact .inl q
    ·exact .inr (by simp [q])
   ·exact .inr (by simp [q])
  cases c1 : look ns m.id == 3 with
  | true => rw [c1] at h; exact go h (fun x hx => .inl hx)
  | false =>
   rw [c1] at h
   cases c2 : (Deal.add al m.am).2 != 0 with
   | true => rw [c2] at h; cases h
   | false =>
    rw [c2] at h
    cases c3 : look ns m.id == 2 with
    | true => rw [c3] at h; exact go h (fun x hx => .inl hx)
    | false => rw [c3] at h; exact go h (fun x hx => by simpa using hx)
theorem lookS_fine {m : Bool} {ta tb : Int} {a b : List Msg} : (∀ x ∈ (lookS m ta tb a b).2.1.hs, fine x) ∧ (∀ x ∈ (lookS m ta tb a b).2.2.hs, fine x) := by
 unfold lookS
 cases m with
 | false => exact ⟨fun x hx => by simp [Sd.z] at hx, fun x hx => by simp [Sd.z] at hx⟩
 | true => cases ea : rd a [] with
  | none => exact ⟨fun x hx => by simp [Sd.z] at hx, fun x hx => by simp [Sd.z] at hx⟩
  | some p => cases eb : rd b [] with
   | none => exact ⟨fun x hx => by simp [Sd.z] at hx, fun x hx => by simp [Sd.z] at hx⟩
   | some q =>
    have hp := rd_fine a [] p (by simp) ea
    have hq := rd_fine b [] q (by simp) eb
    simp only
    cases stl ((q.map Msg.t).length : Int) a [] with
    | none => exact ⟨fun x hx => by simp [Sd.z] at hx, fun x hx => by simp [Sd.z] at hx⟩
    | some mp =>
     simp only
     cases stl ((p.map Msg.t).length : Int) b [] with
     | none => exact ⟨fun x hx => by simp [Sd.z] at hx, fun x hx => by simp [Sd.z] at hx⟩
     | some mq =>
      simp only
      cases e1 : ofG mq ta p [] 0 0 with
      | none => exact ⟨fun x hx => by simp [Sd.z] at hx, fun x hx => by simp [Sd.z] at hx⟩
      | some x =>
       have k1 := of_sub mq ta p [] 0 0 x e1
       obtain ⟨hs, pd, al⟩ := x
       simp only
       cases e2 : ofG mp tb q [] 0 0 with
       | none => exact ⟨fun x hx => hp x ((k1 x hx).resolve_left (by simp)), fun x hx => by simp [Sd.z] at hx⟩
       | some y =>
        have k2 := of_sub mp tb q [] 0 0 y e2
        obtain ⟨h2, pd2, al2⟩ := y
        exact ⟨fun x hx => hp x ((k1 x hx).resolve_left (by simp)), fun x hx => hq x ((k2 x hx).resolve_left (by simp))⟩
theorem vwS_shape {m : Bool} {ta tb ts te n k : Int} {a b : List Msg} (ha : ∀ x ∈ a, x.am ≤ 9223372036854775807) (hb : ∀ x ∈ b, x.am ≤ 9223372036854775807) (h : (vwS m ta tb ts te a b n k).1 = 0) :
  ∃ xs ys : List Msg, (vwS m ta tb ts te a b n k).2.2.2 = xs.map (hH ta) ++ ys.map (hH tb) ∧ xs.Pairwise (fun x y => x.id < y.id) ∧ ys.Pairwise (fun x y => x.id < y.id) ∧ (∀ x ∈ xs, fine x) ∧ (∀ x ∈ ys, fine x) := by
 unfold vwS at h ⊢
 cases c1 : (decide (n < 0) || decide (n > (a.length : Int)) || decide (k < 0) || decide (k > (b.length : Int))) with
 | true => rw [c1] at h; cases h
 | false =>
  rw [c1] at h
  simp only [cond_false] at h ⊢
  have hl := lookS_ok (m := m) (ta := ta) (tb := tb) (a := a.take n.toNat) (b := b.take k.toNat) (fun x hx => ha x (List.mem_of_mem_take hx)) (fun x hx => hb x (List.mem_of_mem_take hx))
  have hf := lookS_fine (m := m) (ta := ta) (tb := tb) (a := a.take n.toNat) (b := b.take k.toNat)
  generalize lookS m ta tb (a.take n.toNat) (b.take k.toNat) = r at h hl hf ⊢
  obtain ⟨e, x, y⟩ := r
  simp only at h hl hf ⊢
  cases c2 : e != 0 with
  | true => rw [c2] at h; simp only [cond_true] at h; subst h; cases c2
  | false =>
   rw [c2] at h
   simp only [cond_false] at h ⊢
   obtain ⟨_, hx, hy⟩ := hl (by simpa using c2)
   cases c3 : (viewS ts te x y).1 != 0 with
   | true => rw [c3] at h; simp only [cond_true] at h; rw [h] at c3; cases c3
   | false => exact ⟨x.hs, y.hs, rfl, hx.pw, hy.pw, hf.1, hf.2⟩
end Go.HM.Up
set_option maxRecDepth 100000
namespace Go.HM
open Go.ChangeShapes Go.WideShapes Go.ChangeAt Go.RowKit
section
variable {H : Type} {enc : TypeId × Value → H} {P : Program} {W : World} {base : Nat}
theorem law_contract2 {K : FuncId} {fn : Func} {s : ChangeSpec} {ss : List Sh} {bt : TypeId} {n : Nat} (hl : laidOutB P = true) (hsh : shsOf P fn.params.toList = some ss)
  (hrd : (fn.params.toList.all fun t => P.readableRec t && decide (t < P.types.size)) = true) (hn : fn.params.toList.length = n) (hres : fn.resultTypes = #[bt]) (hbt : P.underlying bt = some .bool) (hvars : s.vars = [])
  (hfn : ∀ (H : Type) (ds : List (DataW H)), ds.length = n → (s.fn H (ds ++ [])).results = [.lit (.bool true)] ∧ (s.fn H (ds ++ [])).args = ds ∧ (s.fn H (ds ++ [])).vars = [])
  {args : Array Value} {ds gs : List (DataW H)} {before : List MemPlace}
  (hP : ∀ xs p, HasShs ss xs → F2 (TV W okAll) xs args.toList → DataW.TrodAll enc P W 0 (fun _ => true) true fn.params.toList args.toList ds p → PCall P K xs [.bool true])
  (hval : ∀ (j : Nat) t v, fn.params[j]? = some t → args[j]? = some v → Value.okWide P W .any base t v)
  (hW : DataW.Whole enc P fn.params.toList s.vars false W args.toList ds gs before) (hG : GlobU W okAll := by intro g t h; cases h) :
  Calls P K args W fun e W' => ∃ v, e = .returned v ∧ s.post enc P fn false true false false W args v W' := by
 have hW' := hW
 obtain ⟨p, q, hA, hV, rfl, hfz, hnd⟩ := hW
 rw [hvars] at hV
 obtain ⟨rfl, rfl⟩ := trodVars_none hV
 obtain ⟨xs, hx, hF⟩ := args_trees (base := base) hA hsh (fun j t v ht hv => hval j t v (by simpa using ht) (by simpa using hv))
 have hlen : ds.length = n := by rw [trodAll_len hA, hn]
 obtain ⟨f1, f2, f3⟩ := hfn H ds hlen
 have hc := (hP xs p hx hF hA).2 okAll W args.toList ⟨fun _ _ _ => trivial, hG⟩ hF
 rw [show args.toList.toArray = args by simp] at hc
 refine hc.mono fun e W' ⟨v, he, hr, hk⟩ => ?_
 have hv : v = .bool true := by
  have h1 : TV W' okAll (.bool true) v := hr
  have h2 := h1.cell rfl
  cases h2
  rfl
 subst hv
 have hb := Kept.below hk
 have hlt : ∀ x ∈ p, x.block < W.heap.size := fun x hx => hW'.lt x (by simp [hx])
 refine ⟨_, he, post_below (pa := p) (pv := []) hW' ?_ ?_ ?_ rfl hb (ok_one hres rfl (okWide_bool_mk hbt _))⟩
 ·intro b sp hd
  rw [f1, hres]
  exact trodAll_mk1 (shut_bool hbt true)
 ·intro sp hsp
  rw [f2]
  exact trodAll_stays hl hb hrd hA hlt (fun x hx => hsp x (by simp [hx]))
 ·intro sp _
  rw [f3, hvars]
  rfl
end
end Go.HM
namespace Go.HM.Up
open Go.Proofs
def msgSh : Sh := .struct [.int .i64, .int .i64, .int .i64, .int .i64, .int .i64, .bytes 32, .sliceB, .bytes 32, .bytes 32, .bytes 32, .int .i64, .int .i64, .sliceB]
def sumsShs : List Sh := [.struct [.int .i64, .int .i64, .int .i64, .struct [.bytes 32, .int .i64], .int .i64, .int .i64, .int .i64, .int .i64, .int .i64, .int .i64, .int .i64], .slice 137 msgSh, .slice 137 msgSh, .int .i64, .int .i64]
theorem sh_msg {x : T} (h : HasSh msgSh x) : ∃ m : Msg, x = m.t ∧ m.am ≤ 9223372036854775807 := by
 obtain ⟨xs, rfl, a1, q1, rfl, ⟨n1, rfl, _⟩, a2, q2, rfl, ⟨n2, rfl, _⟩, a3, q3, rfl, ⟨n3, rfl, _⟩, a4, q4, rfl, ⟨n4, rfl, w4⟩, a5, q5, rfl, ⟨n5, rfl, _⟩, a6, q6, rfl, ⟨b6, rfl, _, _⟩, a7, q7, rfl, ⟨f7, b7, rfl, _, _⟩,
  a8, q8, rfl, ⟨b8, rfl, _, _⟩, a9, q9, rfl, ⟨b9, rfl, _, _⟩, a10, q10, rfl, ⟨b10, rfl, _, _⟩, a11, q11, rfl, ⟨n11, rfl, _⟩, a12, q12, rfl, ⟨n12, rfl, _⟩, a13, q13, rfl, ⟨f13, b13, rfl, _, _⟩, rfl⟩ := h
 exact ⟨⟨n1, n2, n3, n4, n5, b6, f7, b7, b8, b9, b10, n11, n12, f13, b13⟩, rfl, (Deal.wf_rng w4).2⟩
theorem sh_msgs : ∀ (xs : List T), (∀ y ∈ xs, HasSh msgSh y) → ∃ l : List Msg, xs = l.map Msg.t ∧ ∀ m ∈ l, m.am ≤ 9223372036854775807
 | [], _ => ⟨[], rfl, by simp⟩
 | x :: xs, h => by
  obtain ⟨a, rfl, ha⟩ := sh_msg (h x (by simp))
  obtain ⟨l, rfl, hl⟩ := sh_msgs xs (fun y hy => h y (by simp [hy]))
  refine ⟨a :: l, rfl, fun z hz => ?_⟩
  rcases List.mem_cons.1 hz with rfl | hz
  ·exact ha
  ·exact hl z hz
theorem sums_args {xs : List T} (h : HasShs sumsShs xs) : ∃ (t : Deal.Terms) (a b : List Msg) (xa xb : Bool) (n k : Int), xs = [t.t, .lst xa 137 (a.map Msg.t), .lst xb 137 (b.map Msg.t), .int .i64 n, .int .i64 k] ∧
  Deal.rng t.StartA ∧ Deal.rng t.StartB ∧ Deal.rng t.Fee ∧ (∀ m ∈ a, m.am ≤ 9223372036854775807) ∧ (∀ m ∈ b, m.am ≤ 9223372036854775807) := by
 obtain ⟨x1, r1, rfl, ⟨ts, rfl, a1, q1, rfl, ⟨n1, rfl, _⟩, a2, q2, rfl, ⟨n2, rfl, _⟩, a3, q3, rfl, ⟨n3, rfl, _⟩, a4, q4, rfl, ⟨rs, rfl, b1, s1, rfl, ⟨tx, rfl, _, _⟩, b2, s2, rfl, ⟨m2, rfl, _⟩, rfl⟩,
  a5, q5, rfl, ⟨n5, rfl, w5⟩, a6, q6, rfl, ⟨n6, rfl, w6⟩, a7, q7, rfl, ⟨n7, rfl, _⟩, a8, q8, rfl, ⟨n8, rfl, w8⟩, a9, q9, rfl, ⟨n9, rfl, _⟩, a10, q10, rfl, ⟨n10, rfl, _⟩, a11, q11, rfl, ⟨n11, rfl, _⟩, rfl⟩,
  x2, r2, rfl, ⟨fa, la, rfl, _, ha⟩, x3, r3, rfl, ⟨fb, lb, rfl, _, hb⟩, x4, r4, rfl, ⟨n, rfl, _⟩, x5, r5, rfl, ⟨k, rfl, _⟩, rfl⟩ := h
 obtain ⟨a, rfl, ea⟩ := sh_msgs la ha
 obtain ⟨b, rfl, eb⟩ := sh_msgs lb hb
 exact ⟨⟨n1, n2, n3, ⟨tx, m2⟩, n5, n6, n7, n8, n9, n10, n11⟩, a, b, fa, fb, n, k, rfl, Deal.wf_rng w5, Deal.wf_rng w6, Deal.wf_rng w8, ea, eb⟩
theorem lst_len {H : Type} {enc : TypeId × Value → H} {W : World} {sp : Nat → Bool} {held : Bool} {fuel : Nat} {cs : List Value} {x : DataW H × List MemPlace} {f : Bool} {l : List T} {v : Value} (h : DataW.trod enc Try.prog W 0 sp held fuel 89 cs = some x)
  (hw : ∀ n ∈ x.1.weights Try.prog 89, n ≤ reachBytes) (q : Tc W okAll (.lst f 137 l) cs) : l.length * 232 ≤ 140737488355328 := by
 have hu2 : Try.prog.underlying 89 = some (.slice 97) := by kernel_rfl
 have hby : Try.prog.bytesOf 97 = 232 := by kernel_rfl
 have hR := reachBytes_lt
 cases q with
 | lstnil => simp
 | lst0 _ => simp
 | lst h1 _ _ _ _ _ =>
  rcases DataW.trod_slice hu2 h with ⟨e, _⟩ | ⟨a, len, cap', elems, rest, m, _, e, ey, _, _, _, hlen, _⟩
  ·injection e with e _
   injection e with e1 _ _
   cases e1
  ·injection e with e _
   injection e with _ e3 _
   have hmem : ((elems.map (·.1)).length + (rest.map (·.1)).length) * Try.prog.bytesOf 97 ∈ x.1.weights Try.prog 89 := by
    rw [ey]
    simp only [DataW.weights, hu2, List.mem_cons, true_or]
   have hle := hw _ hmem
   rw [hby] at hle
   simp only [List.length_map] at hle
   have e4 : l.length = elems.length := by
    omega
   omega
def toD (h : H) : Deal.Htlc := ⟨h.hb, h.hi, h.hm, h.hh, h.he⟩
theorem toD_map (z : List H) : (z.map toD).map Deal.Htlc.t = z.map H.t := by rw [List.map_map]; rfl
def ltD (x y : Deal.Htlc) : Prop := x.By < y.By ∨ (x.By = y.By ∧ x.Id < y.Id)
theorem order_lt {x y : Deal.Htlc} (h : ltD x y) : Deal.c3 x y = false := by
 unfold Deal.c3 Deal.order
 rcases h with h | ⟨h1, h2⟩
 ·have e : Deal.cmpI x.By y.By = -1 := by unfold Deal.cmpI; rw [show decide (x.By < y.By) = true by simpa using h]; rfl
  rw [e]; rfl
 ·have e : Deal.cmpI x.By y.By = 0 := by unfold Deal.cmpI; rw [show decide (x.By < y.By) = false by simp; omega, show decide (x.By > y.By) = false by simp; omega]; rfl
  have f : Deal.cmpI x.Id y.Id = -1 := by unfold Deal.cmpI; rw [show decide (x.Id < y.Id) = true by simpa using h2]; rfl
  rw [e, f]; rfl
theorem fitGo_true (t : Deal.Terms) : ∀ (l : List Deal.Htlc) (y : Option Deal.Htlc), (∀ h ∈ l, Deal.c1 t h = false ∧ Deal.c2 h = false) → l.Pairwise ltD → (∀ y0, y = some y0 → ∀ h ∈ l, ltD y0 h) → Deal.fitGo t y l = true
 | [], y, _, _, _ => rfl
 | h :: r, y, hc, hp, hy => by
  obtain ⟨a, b⟩ := hc h (by simp)
  have ih := fitGo_true t r (some h) (fun x hx => hc x (by simp [hx])) (List.pairwise_cons.1 hp).2 (fun y0 e x hx => by injection e with e; subst e; exact (List.pairwise_cons.1 hp).1 x hx)
  simp only [Deal.fitGo, a, b, cond_false]
  cases y with
  | none => exact ih
  | some y0 => simp only [order_lt (hy y0 rfl h (by simp)), cond_false]; exact ih
theorem sumD (z : List H) : ((z.map toD).map Deal.Htlc.Amount).sum = sumH z := by rw [List.map_map]; rfl
theorem fits_true {t : Deal.Terms} {ra rb : Int} {z : List H} (hm : Deal.may t = true) (h0 : 0 ≤ t.A) (h1 : t.A < t.B) (few : z.length ≤ 32) (hc : ∀ h ∈ z, (h.hb = t.A ∨ h.hb = t.B) ∧ 0 ≤ h.hi ∧ 0 ≤ h.he ∧ h.he ≤ 2147483647 ∧ (h.hh == zeros) = false)
  (hp : (z.map toD).Pairwise ltD) (pos : ∀ h ∈ z, 1 ≤ h.hm) (a0 : 0 ≤ ra) (b0 : 0 ≤ rb) (hs : ra + rb + sumH z = t.StartA + t.StartB) (s0 : 0 ≤ t.StartA + t.StartB) (hM : t.StartA + t.StartB ≤ 9223372036854775807) :
  Deal.fits t ⟨ra, rb, z.map toD⟩ = true := by
 unfold Deal.fits
 rw [hm]
 simp only [Bool.not_true, Bool.false_or]
 rw [show decide ((((z.map toD).map Deal.Htlc.t).length : Int) > 32) = false by simp; omega]
 simp only [cond_false]
 rw [fitGo_true t (z.map toD) none (fun x hx => ?_) hp (fun y0 e => by cases e)]
 ·simp only [cond_true]
  have nn : ∀ x ∈ Deal.allOfV ⟨ra, rb, z.map toD⟩, 0 ≤ x := by
   intro x hx
   simp only [Deal.allOfV, List.mem_cons, List.mem_map] at hx
   rcases hx with rfl | rfl | ⟨y, ⟨w, hw, rfl⟩, rfl⟩
   ·exact a0
   ·exact b0
   ·have := pos w hw; simp only [toD]; omega
  have es : (Deal.allOfV ⟨ra, rb, z.map toD⟩).sum = t.StartA + t.StartB := by
   simp only [Deal.allOfV, List.sum_cons, sumD]
   omega
  unfold Deal.sum
  rw [show (Deal.allOfV ⟨ra, rb, z.map toD⟩).any (fun x => decide (x < 0)) = false by
   rw [List.any_eq_false]
   intro x hx
   have := nn x hx
   simp; omega]
  simp only [cond_false]
  rw [Deal.sumGo_mk _ 0 (by omega) nn (by rw [es]; omega), es, w64 (n := t.StartA + t.StartB) (by omega) (by omega)]
  simp
 ·obtain ⟨w, hw, rfl⟩ := List.mem_map.1 hx
  obtain ⟨c1, c2, c3, c4, c5⟩ := hc w hw
  refine ⟨?_, ?_⟩
  ·show (Deal.other t w.hb == -1 || decide (w.hi < 0)) = false
   rw [show decide (w.hi < 0) = false by simp; omega, Bool.or_false]
   rcases c1 with e | e
   ·rw [e, Deal.other_A]; simp; omega
   ·rw [e, Deal.other_B t h1]; simp; omega
  ·show (!(decide (w.he ≥ 0) && decide (w.he ≤ 2147483647)) || w.hh == zeros) = false
   rw [show decide (w.he ≥ 0) = true by simpa using c3, show decide (w.he ≤ 2147483647) = true by simpa using c4]
   exact c5
theorem vwS_err {m : Bool} {ta tb ts te n k : Int} {a b : List Msg} (h : ((vwS m ta tb ts te a b n k).1 != 0) = true) : (vwS m ta tb ts te a b n k).2.2.2 = [] := by
 unfold vwS at h ⊢
 cases c1 : (decide (n < 0) || decide (n > (a.length : Int)) || decide (k < 0) || decide (k > (b.length : Int))) with
 | true => rfl
 | false =>
  rw [c1] at h
  simp only [cond_false] at h ⊢
  cases c2 : (lookS m ta tb (a.take n.toNat) (b.take k.toNat)).1 != 0 with
  | true => rfl
  | false =>
   rw [c2] at h
   simp only [cond_false] at h ⊢
   cases c3 : (viewS ts te (lookS m ta tb (a.take n.toNat) (b.take k.toNat)).2.1 (lookS m ta tb (a.take n.toNat) (b.take k.toNat)).2.2).1 != 0 with
   | true => rfl
   | false => rw [c3] at h; cases h
theorem updatesViews_ok (t : Deal.Terms) (a b : List Msg) (xa xb : Bool) (n k : Int) (ha : a.length * 232 ≤ 140737488355328) (hb : b.length * 232 ≤ 140737488355328) (r1 : Deal.rng t.StartA) (r2 : Deal.rng t.StartB) (r3 : Deal.rng t.Fee)
  (ra : ∀ x ∈ a, x.am ≤ 9223372036854775807) (rb : ∀ x ∈ b, x.am ≤ 9223372036854775807) :
  PCall Try.prog 6 [t.t, .lst xa 137 (a.map Msg.t), .lst xb 137 (b.map Msg.t), .int .i64 n, .int .i64 k] [.bool true] := by
 have hr0 : Deal.Ranges t ⟨0, 0, []⟩ := ⟨r1, r2, r3, by constructor <;> simp, by constructor <;> simp, by simp⟩
 have hm := Deal.may_ok t ⟨0, 0, 0, [], 0⟩
 have hrm := Deal.rmay_ok0 t
 rw [Deal.rmay_eq hr0] at hrm
 have hmm : Deal.may t = true → _ := fun h => Deal.may_more hr0 h
 have hmay : Deal.may t = true → t.A < t.B ∧ 0 ≤ t.StartA ∧ 0 ≤ t.StartB ∧ t.StartA + t.StartB ≤ 9223372036854775807 := fun h => by
  obtain ⟨_, h2, _, _, _, _, h7, h8, h9⟩ := hmm h; exact ⟨h2, h7, h8, h9⟩
 have huv := View_ok t.Channel t.A t.B t.Fund.Out t.StartA t.StartB t.Delay t.Fee t.Reserve t.Slots t.Flight n k t.Fund.Tx a b xa xb (Deal.may t) ha hb hm
 have hrv := rView_ok t.Channel t.A t.B t.Fund.Out t.StartA t.StartB t.Delay t.Fee t.Reserve t.Slots t.Flight n k t.Fund.Tx a b xa xb (Deal.may t) ha hb hrm
 rw [rv_eq (by omega) (by omega) ra rb hmay] at hrv
 have hok := vwS_ok (m := Deal.may t) (ta := t.A) (tb := t.B) (ts := t.StartA) (te := t.StartB) (n := n) (k := k) ra rb hmay
 have hsh := vwS_shape (m := Deal.may t) (ta := t.A) (tb := t.B) (ts := t.StartA) (te := t.StartB) (n := n) (k := k) ra rb
 have her := vwS_err (m := Deal.may t) (ta := t.A) (tb := t.B) (ts := t.StartA) (te := t.StartB) (n := n) (k := k) (a := a) (b := b)
 have hua := adds_ok a n xa ha
 have hra := rAdds_ok a n xa ha
 generalize vwS (Deal.may t) t.A t.B t.StartA t.StartB a b n k = r at huv hrv hok hsh her
 obtain ⟨e, va, vb, z⟩ := r
 simp only [vwT] at huv hrv hok hsh her
 cases he : e != 0 with
 | true =>
  obtain rfl : z = [] := her he
  rw [he] at huv hrv
  exact views_err t.Channel t.A t.B t.Fund.Out t.StartA t.StartB t.Delay t.Fee t.Reserve t.Slots t.Flight va vb n k (cnG (a.take n.toNat) 0) e t.Fund.Tx (([] : List H).map H.t) (a.map Msg.t) (b.map Msg.t) true xa xb he huv hrv Ne.lives15_ok (same_ok va vb [] true (by simp)) hua hra
 | false =>
  obtain rfl : e = 0 := by simpa using he
  rw [he] at huv hrv
  obtain ⟨hmt, ok⟩ := hok rfl
  obtain ⟨xs, ys, hz, px, py, fx, fy⟩ := hsh rfl
  obtain ⟨m1, m2, m3, m4, m5, m6, m7, m8, m9⟩ := hmm hmt
  have nn := sumH_nonneg z ok.pos
  have oa := ok.a; have ob := ok.b; have os := ok.sum
  have each : ∀ h ∈ z, h.hm ≤ 9223372036854775807 := by
   have key : ∀ (l : List H), (∀ h ∈ l, 1 ≤ h.hm) → ∀ h ∈ l, h.hm ≤ sumH l := by
    intro l
    induction l with
    | nil => intro _ h hh; simp at hh
    | cons x l ih =>
     intro hp h hh
     have := sumH_nonneg l (fun y hy => hp y (by simp [hy]))
     have e : sumH (x :: l) = x.hm + sumH l := by simp [sumH]
     rcases List.mem_cons.1 hh with rfl | hh
     ·omega
     ·have := ih (fun y hy => hp y (by simp [hy])) h hh
      have := hp x (by simp)
      omega
   intro h hh
   have := key z ok.pos h hh
   omega
  have hfit : Deal.fits t ⟨va, vb, z.map toD⟩ = true := by
   refine fits_true hmt m1 m2 ok.few (fun h hh => ?_) ?_ ok.pos oa ob os (by omega) m9
   ·rw [hz] at hh
    rcases List.mem_append.1 hh with q | q
    ·obtain ⟨w, hw, rfl⟩ := List.mem_map.1 q
     obtain ⟨f1, f2, f3, f4⟩ := fx w hw
     exact ⟨.inl rfl, f1, f2, f3, f4⟩
    ·obtain ⟨w, hw, rfl⟩ := List.mem_map.1 q
     obtain ⟨f1, f2, f3, f4⟩ := fy w hw
     exact ⟨.inr rfl, f1, f2, f3, f4⟩
   ·rw [hz, List.map_append, List.map_map, List.map_map]
    refine List.pairwise_append.2 ⟨List.pairwise_map.2 (px.imp fun q => .inr ⟨rfl, q⟩), List.pairwise_map.2 (py.imp fun q => .inr ⟨rfl, q⟩), fun p hp q hq => ?_⟩
    obtain ⟨p', _, rfl⟩ := List.mem_map.1 hp
    obtain ⟨q', _, rfl⟩ := List.mem_map.1 hq
    exact .inl m2
  have hr : Deal.Ranges t ⟨va, vb, z.map toD⟩ := ⟨r1, r2, r3, by constructor <;> simp only <;> omega, by constructor <;> simp only <;> omega, fun h hh => by
   obtain ⟨w, hw, rfl⟩ := List.mem_map.1 hh
   have := ok.pos w hw
   have := each w hw
   constructor <;> simp only [toD] <;> omega⟩
  have hf := Deal.rfits_ok0 t ⟨va, vb, z.map toD⟩
  rw [Deal.rfits_eq hr, hfit] at hf
  unfold Deal.View.t at hf
  simp only [toD_map] at hf
  exact views_ok t.Channel t.A t.B t.Fund.Out t.StartA t.StartB t.Delay t.Fee t.Reserve t.Slots t.Flight va vb n k (cnG (a.take n.toNat) 0) t.Fund.Tx (z.map H.t) (a.map Msg.t) (b.map Msg.t) false xa xb huv hrv Ne.lives15_ok (same_ok va vb z false (by have := ok.few; omega)) hua hra hf
end Go.HM.Up
