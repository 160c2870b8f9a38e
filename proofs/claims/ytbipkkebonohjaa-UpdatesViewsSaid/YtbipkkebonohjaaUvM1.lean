/- UP, first part: read, settle, of (runs printed by a small program out of the runs themselves). -/
import Derived.Test.YtbipkkebonohjaaHnFr
import Derived.Test.YtbipkkebonohjaaHmZ
import Derived.Test.YtbipkkebonohjaaGlobT
import Derived.Test.YtbipkkebonohjaaProg
import Derived.Test.YtbipkkebonohjaaDcM
set_option maxRecDepth 100000
namespace Go.HM.Up
open Go.Proofs
theorem names_b : (Try.prog.funcs.toList.all fun fn => !(fn.name == "runtime.NumGoroutine")) = true := by kernel_rfl
theorem names_ok : NamesOk Try.prog := by
 intro f fn h
 have := List.all_eq_true.1 names_b fn (by rw [← Array.getElem?_toList] at h; exact List.mem_of_getElem? h)
 simpa using this
def lookD : List ((Nat × Nat) × T) → Nat → Nat → Option T
 | [], _, _ => none
 | ((a, b), t) :: r, x, y => if Nat.beq a x && Nat.beq b y then some t else lookD r x y
def elD (l : List ((Nat × Nat) × T)) (o : Oper) : Option HM.Item := match o.op with
 | .indexAddr ty (.tmp b) _ => match lookD l ty b with
  | some t => some (.el t)
  | none => none
 | _ => none
def twU (o : Oper) : Bool := match o.op with
 | .lookup ty _ _ _ => Nat.beq ty 195
 | .mapUpdate ty _ _ _ => Nat.beq ty 195
 | _ => false
noncomputable def Cd (els : List ((Nat × Nat) × T)) (tl : List Nat) : GCtx := { P := Try.prog, pr := pureCall Try.prog [146, 147, 148, 104] [] [], K := fun _ _ => none, keep := fun _ _ => false, frz := fun _ _ => [], item := elD els, glob := globOf globT, KG := fun _ _ _ => none, fuel := 1000, vec := appAt [], tw := twU, told := fun f => memN f tl }
theorem Cd_ok (els : List ((Nat × Nat) × T)) (tl : List Nat) : KOk (Cd els tl) := ⟨names_ok, fun _ _ _ h => (by cases h), fun _ _ _ _ _ h => (by cases h)⟩
theorem CodeG.normE {P : Program} {n m k : Nat} {c : Code} {st st1 st2 : St} {e : Ex} (h : CodeG P n c st e st1) (hm : n ≤ m) (hk : n ≤ k) (keep : List Nat) (e2 : st1.norm m k keep = st2) : CodeG P n c st e st2 := e2 ▸ h.norm hm hk keep
theorem LoopG.preE {P : Program} {n m k : Nat} {c : Code} {st st0 st' : St} {e : Ex} (hm : n ≤ m) (hk : n ≤ k) (keep : List Nat) (e2 : st.norm m k keep = st0) (h : LoopG P n c st0 e st') : LoopG P n c st e st' := LoopG.pre hm hk keep (by rw [e2]; exact h)
def zeros : List Int := [0, 0, 0, 0, 0, 0, 0, 0, 0, 0, 0, 0, 0, 0, 0, 0, 0, 0, 0, 0, 0, 0, 0, 0, 0, 0, 0, 0, 0, 0, 0, 0]
def mT (kd ch id am ex : Int) (hh : List Int) (ox : Bool) (on sc pt tg : List Int) (nu to : Int) (rx : Bool) (rs : List Int) : T := .agg [.int .i64 kd, .int .i64 ch, .int .i64 id, .int .i64 am, .int .i64 ex, .ba 32 hh, .bl ox on, .ba 32 sc, .ba 32 pt, .ba 32 tg, .int .i64 nu, .int .i64 to, .bl rx rs]
structure Msg where
 kd : Int
 ch : Int
 id : Int
 am : Int
 ex : Int
 hh : List Int
 ox : Bool
 on : List Int
 sc : List Int
 pt : List Int
 tg : List Int
 nu : Int
 to : Int
 rx : Bool
 rs : List Int
def Msg.t (m : Msg) : T := mT m.kd m.ch m.id m.am m.ex m.hh m.ox m.on m.sc m.pt m.tg m.nu m.to m.rx m.rs
def m0 : Msg := ⟨0, 0, 0, 0, 0, [], true, [], [], [], [], 0, 0, true, []⟩
def qA0 (us : List T) (g m : Msg) : List SObj := [.box (.p (.agg [.lst true 137 [], .nilM])), .map [], .box (.agg [.row 4 0 (.lst false 137 us), .map 1]), .box (.p ((g.t))), .row 0 137, .box (.p ((m.t)))]
theorem rdA_0 (m : Msg) (i : Int) (l : List T) (x : Bool): bodyK (Cd [((89, 9), m.t)] []) 30 146 0 (loopAt Try.f146 0) ⟨59, [(2, .ptr 0 0), (4, .ptr 2 0), (9, .p (.lst x 137 l)), (10, .p (.int .i64 ((l).length : Int))), (11, .p (.int .i64 i))], [.box (.p (.agg [.lst true 137 [], .nilM])), .map [], .box (.agg [.p (.lst true 137 []), .map 1])]⟩ [(0, true), (0, true), (0, false), (0, false), (0, false), (0, false), (0, false)] [] [2, 3, 4, 9, 10, 11] [] [] [] = some (.normal, ⟨59, [(11, .p (.int .i64 (IntKind.i64.wrap (i + 1)))), (10, .p (.int .i64 ((l).length : Int))), (9, .p (.lst x 137 l)), (2, .ptr 0 0), (4, .ptr 2 0)], [.box (.p (.agg [.lst true 137 [], .nilM])), .map [], .box (.agg [.row 4 0 (.lst false 137 [(m.t)]), .map 1]), .box (.p ((m.t))), .row 0 137]⟩, [(0 + 1 ≤ 4294967296 ∨ (0 + 1 ≤ 9223372036854775807 ∧ (0 + 1) * 232 ≤ 140737488355328)), (m.id != 0) = false, ((m.hh) == zeros) = false, decide (m.ex > 2147483647) = false, decide (m.ex < 0) = false, decide (m.am < 1) = false, (m.kd == 1) = true, (0 : Int) ≤ i ∧ l[(i : Int).toNat]? = some ((m.t)), decide (i < ((l).length : Int)) = true]) := by kernel_rfl
theorem rdA_1 (m : Msg) (i : Int) (l : List T) (x : Bool): bodyK (Cd [((89, 9), m.t)] []) 30 146 0 (loopAt Try.f146 0) ⟨59, [(2, .ptr 0 0), (4, .ptr 2 0), (9, .p (.lst x 137 l)), (10, .p (.int .i64 ((l).length : Int))), (11, .p (.int .i64 i))], [.box (.p (.agg [.lst true 137 [], .nilM])), .map [], .box (.agg [.p (.lst true 137 []), .map 1])]⟩ [(0, false)] [] [2, 3, 4, 9, 10, 11] [] [] [] = some (.exit 0, ⟨59, [(10, .p (.int .i64 ((l).length : Int))), (11, .p (.int .i64 i)), (9, .p (.lst x 137 l)), (4, .ptr 2 0), (2, .ptr 0 0)], [.box (.p (.agg [.lst true 137 [], .nilM])), .map [], .box (.agg [.p (.lst true 137 []), .map 1])]⟩, [decide (i < ((l).length : Int)) = false]) := by kernel_rfl
theorem rdA_2 (m : Msg) (i : Int) (l : List T) (x : Bool): bodyK (Cd [((89, 9), m.t)] []) 30 146 0 (loopAt Try.f146 0) ⟨59, [(2, .ptr 0 0), (4, .ptr 2 0), (9, .p (.lst x 137 l)), (10, .p (.int .i64 ((l).length : Int))), (11, .p (.int .i64 i))], [.box (.p (.agg [.lst true 137 [], .nilM])), .map [], .box (.agg [.p (.lst true 137 []), .map 1])]⟩ [(0, true), (0, false), (0, false), (0, false)] [] [2, 3, 4, 9, 10, 11] [] [] [] = some (.ret, ⟨59, [(3, .rb false), (10, .p (.int .i64 ((l).length : Int))), (11, .p (.int .i64 i)), (9, .p (.lst x 137 l)), (4, .ptr 2 0), (2, .ptr 0 0)], [.box (.p (.agg [.lst true 137 [], .nilM])), .map [], .box (.agg [.p (.lst true 137 []), .map 1]), .box (.p ((m.t)))]⟩, [(m.kd == 3) = false, (m.kd == 2) = false, (m.kd == 1) = false, (0 : Int) ≤ i ∧ l[(i : Int).toNat]? = some ((m.t)), decide (i < ((l).length : Int)) = true]) := by kernel_rfl
theorem rdA_3 (m : Msg) (i : Int) (l : List T) (x : Bool): bodyK (Cd [((89, 9), m.t)] []) 30 146 0 (loopAt Try.f146 0) ⟨59, [(2, .ptr 0 0), (4, .ptr 2 0), (9, .p (.lst x 137 l)), (10, .p (.int .i64 ((l).length : Int))), (11, .p (.int .i64 i))], [.box (.p (.agg [.lst true 137 [], .nilM])), .map [], .box (.agg [.p (.lst true 137 []), .map 1])]⟩ [(0, true), (0, false), (0, true)] [] [2, 3, 4, 9, 10, 11] [] [] [] = some (.normal, ⟨59, [(11, .p (.int .i64 (IntKind.i64.wrap (i + 1)))), (10, .p (.int .i64 ((l).length : Int))), (9, .p (.lst x 137 l)), (4, .ptr 2 0), (2, .ptr 0 0)], [.box (.p (.agg [.lst true 137 [], .nilM])), .map [], .box (.agg [.p (.lst true 137 []), .map 1]), .box (.p ((m.t)))]⟩, [(m.kd == 2) = true, (m.kd == 1) = false, (0 : Int) ≤ i ∧ l[(i : Int).toNat]? = some ((m.t)), decide (i < ((l).length : Int)) = true]) := by kernel_rfl
theorem rdA_4 (m : Msg) (i : Int) (l : List T) (x : Bool): bodyK (Cd [((89, 9), m.t)] []) 30 146 0 (loopAt Try.f146 0) ⟨59, [(2, .ptr 0 0), (4, .ptr 2 0), (9, .p (.lst x 137 l)), (10, .p (.int .i64 ((l).length : Int))), (11, .p (.int .i64 i))], [.box (.p (.agg [.lst true 137 [], .nilM])), .map [], .box (.agg [.p (.lst true 137 []), .map 1])]⟩ [(0, true), (0, false), (0, false), (0, true)] [] [2, 3, 4, 9, 10, 11] [] [] [] = some (.normal, ⟨59, [(11, .p (.int .i64 (IntKind.i64.wrap (i + 1)))), (10, .p (.int .i64 ((l).length : Int))), (9, .p (.lst x 137 l)), (4, .ptr 2 0), (2, .ptr 0 0)], [.box (.p (.agg [.lst true 137 [], .nilM])), .map [], .box (.agg [.p (.lst true 137 []), .map 1]), .box (.p ((m.t)))]⟩, [(m.kd == 3) = true, (m.kd == 2) = false, (m.kd == 1) = false, (0 : Int) ≤ i ∧ l[(i : Int).toNat]? = some ((m.t)), decide (i < ((l).length : Int)) = true]) := by kernel_rfl
theorem rdA_5 (m : Msg) (i : Int) (l : List T) (x : Bool): bodyK (Cd [((89, 9), m.t)] []) 30 146 0 (loopAt Try.f146 0) ⟨59, [(2, .ptr 0 0), (4, .ptr 2 0), (9, .p (.lst x 137 l)), (10, .p (.int .i64 ((l).length : Int))), (11, .p (.int .i64 i))], [.box (.p (.agg [.lst true 137 [], .nilM])), .map [], .box (.agg [.p (.lst true 137 []), .map 1])]⟩ [(0, true), (0, true), (0, true)] [] [2, 3, 4, 9, 10, 11] [] [] [] = some (.ret, ⟨59, [(3, .rb false), (2, .ptr 0 0)], [.box (.p (.agg [.lst true 137 [], .nilM])), .map [], .box (.agg [.p (.lst true 137 []), .map 1]), .box (.p ((m.t)))]⟩, [decide (m.am < 1) = true, (m.kd == 1) = true, (0 : Int) ≤ i ∧ l[(i : Int).toNat]? = some ((m.t)), decide (i < ((l).length : Int)) = true]) := by kernel_rfl
theorem rdA_6 (m : Msg) (i : Int) (l : List T) (x : Bool): bodyK (Cd [((89, 9), m.t)] []) 30 146 0 (loopAt Try.f146 0) ⟨59, [(2, .ptr 0 0), (4, .ptr 2 0), (9, .p (.lst x 137 l)), (10, .p (.int .i64 ((l).length : Int))), (11, .p (.int .i64 i))], [.box (.p (.agg [.lst true 137 [], .nilM])), .map [], .box (.agg [.p (.lst true 137 []), .map 1])]⟩ [(0, true), (0, true), (0, false), (0, true)] [] [2, 3, 4, 9, 10, 11] [] [] [] = some (.ret, ⟨59, [(3, .rb false), (2, .ptr 0 0)], [.box (.p (.agg [.lst true 137 [], .nilM])), .map [], .box (.agg [.p (.lst true 137 []), .map 1]), .box (.p ((m.t)))]⟩, [decide (m.ex < 0) = true, decide (m.am < 1) = false, (m.kd == 1) = true, (0 : Int) ≤ i ∧ l[(i : Int).toNat]? = some ((m.t)), decide (i < ((l).length : Int)) = true]) := by kernel_rfl
theorem rdA_7 (m : Msg) (i : Int) (l : List T) (x : Bool): bodyK (Cd [((89, 9), m.t)] []) 30 146 0 (loopAt Try.f146 0) ⟨59, [(2, .ptr 0 0), (4, .ptr 2 0), (9, .p (.lst x 137 l)), (10, .p (.int .i64 ((l).length : Int))), (11, .p (.int .i64 i))], [.box (.p (.agg [.lst true 137 [], .nilM])), .map [], .box (.agg [.p (.lst true 137 []), .map 1])]⟩ [(0, true), (0, true), (0, false), (0, false), (0, true)] [] [2, 3, 4, 9, 10, 11] [] [] [] = some (.ret, ⟨59, [(3, .rb false), (2, .ptr 0 0)], [.box (.p (.agg [.lst true 137 [], .nilM])), .map [], .box (.agg [.p (.lst true 137 []), .map 1]), .box (.p ((m.t)))]⟩, [decide (m.ex > 2147483647) = true, decide (m.ex < 0) = false, decide (m.am < 1) = false, (m.kd == 1) = true, (0 : Int) ≤ i ∧ l[(i : Int).toNat]? = some ((m.t)), decide (i < ((l).length : Int)) = true]) := by kernel_rfl
theorem rdA_8 (m : Msg) (i : Int) (l : List T) (x : Bool): bodyK (Cd [((89, 9), m.t)] []) 30 146 0 (loopAt Try.f146 0) ⟨59, [(2, .ptr 0 0), (4, .ptr 2 0), (9, .p (.lst x 137 l)), (10, .p (.int .i64 ((l).length : Int))), (11, .p (.int .i64 i))], [.box (.p (.agg [.lst true 137 [], .nilM])), .map [], .box (.agg [.p (.lst true 137 []), .map 1])]⟩ [(0, true), (0, true), (0, false), (0, false), (0, false), (0, true)] [] [2, 3, 4, 9, 10, 11] [] [] [] = some (.ret, ⟨59, [(3, .rb false), (2, .ptr 0 0)], [.box (.p (.agg [.lst true 137 [], .nilM])), .map [], .box (.agg [.p (.lst true 137 []), .map 1]), .box (.p ((m.t)))]⟩, [((m.hh) == zeros) = true, decide (m.ex > 2147483647) = false, decide (m.ex < 0) = false, decide (m.am < 1) = false, (m.kd == 1) = true, (0 : Int) ≤ i ∧ l[(i : Int).toNat]? = some ((m.t)), decide (i < ((l).length : Int)) = true]) := by kernel_rfl
theorem rdA_9 (m : Msg) (i : Int) (l : List T) (x : Bool): bodyK (Cd [((89, 9), m.t)] []) 30 146 0 (loopAt Try.f146 0) ⟨59, [(2, .ptr 0 0), (4, .ptr 2 0), (9, .p (.lst x 137 l)), (10, .p (.int .i64 ((l).length : Int))), (11, .p (.int .i64 i))], [.box (.p (.agg [.lst true 137 [], .nilM])), .map [], .box (.agg [.p (.lst true 137 []), .map 1])]⟩ [(0, true), (0, true), (0, false), (0, false), (0, false), (0, false), (0, true)] [] [2, 3, 4, 9, 10, 11] [] [] [] = some (.ret, ⟨59, [(3, .rb false), (2, .ptr 0 0)], [.box (.p (.agg [.lst true 137 [], .nilM])), .map [], .box (.agg [.p (.lst true 137 []), .map 1]), .box (.p ((m.t)))]⟩, [(m.id != 0) = true, ((m.hh) == zeros) = false, decide (m.ex > 2147483647) = false, decide (m.ex < 0) = false, decide (m.am < 1) = false, (m.kd == 1) = true, (0 : Int) ≤ i ∧ l[(i : Int).toNat]? = some ((m.t)), decide (i < ((l).length : Int)) = true]) := by kernel_rfl
theorem rdB_0 (m : Msg) (i : Int) (l us : List T) (x : Bool) (g : Msg): bodyK (Cd [((89, 9), m.t)] []) 30 146 0 (loopAt Try.f146 0) ⟨59, [(2, .ptr 0 0), (4, .ptr 2 0), (9, .p (.lst x 137 l)), (10, .p (.int .i64 ((l).length : Int))), (11, .p (.int .i64 i))], [.box (.p (.agg [.lst true 137 [], .nilM])), .map [], .box (.agg [.row 4 0 (.lst false 137 us), .map 1]), .box (.p ((g.t))), .row 0 137]⟩ [(0, true), (0, true), (0, false), (0, false), (0, false), (0, false), (0, false)] [] [2, 3, 4, 9, 10, 11] [] [] [] = some (.normal, ⟨59, [(11, .p (.int .i64 (IntKind.i64.wrap (i + 1)))), (10, .p (.int .i64 ((l).length : Int))), (9, .p (.lst x 137 l)), (2, .ptr 0 0), (4, .ptr 2 0)], [.box (.p (.agg [.lst true 137 [], .nilM])), .map [], .box (.agg [.row 4 1 (.lst false 137 (us ++ [(m.t)])), .map 1]), .box (.p ((g.t))), .row 1 137, .box (.p ((m.t)))]⟩, [((us).length + 1 ≤ 4294967296 ∨ ((us).length + 1 ≤ 9223372036854775807 ∧ ((us).length + 1) * 232 ≤ 140737488355328)), (m.id != ((us).length : Int)) = false, ((m.hh) == zeros) = false, decide (m.ex > 2147483647) = false, decide (m.ex < 0) = false, decide (m.am < 1) = false, (m.kd == 1) = true, (0 : Int) ≤ i ∧ l[(i : Int).toNat]? = some ((m.t)), decide (i < ((l).length : Int)) = true]) := by kernel_rfl
theorem rdB_1 (m : Msg) (i : Int) (l us : List T) (x : Bool) (g : Msg): bodyK (Cd [((89, 9), m.t)] []) 30 146 0 (loopAt Try.f146 0) ⟨59, [(2, .ptr 0 0), (4, .ptr 2 0), (9, .p (.lst x 137 l)), (10, .p (.int .i64 ((l).length : Int))), (11, .p (.int .i64 i))], [.box (.p (.agg [.lst true 137 [], .nilM])), .map [], .box (.agg [.row 4 0 (.lst false 137 us), .map 1]), .box (.p ((g.t))), .row 0 137]⟩ [(0, false)] [] [2, 3, 4, 9, 10, 11] [] [] [] = some (.exit 0, ⟨59, [(10, .p (.int .i64 ((l).length : Int))), (11, .p (.int .i64 i)), (9, .p (.lst x 137 l)), (4, .ptr 2 0), (2, .ptr 0 0)], [.box (.p (.agg [.lst true 137 [], .nilM])), .map [], .box (.agg [.row 4 0 (.lst false 137 us), .map 1]), .box (.p ((g.t))), .row 0 137]⟩, [decide (i < ((l).length : Int)) = false]) := by kernel_rfl
theorem rdB_2 (m : Msg) (i : Int) (l us : List T) (x : Bool) (g : Msg): bodyK (Cd [((89, 9), m.t)] []) 30 146 0 (loopAt Try.f146 0) ⟨59, [(2, .ptr 0 0), (4, .ptr 2 0), (9, .p (.lst x 137 l)), (10, .p (.int .i64 ((l).length : Int))), (11, .p (.int .i64 i))], [.box (.p (.agg [.lst true 137 [], .nilM])), .map [], .box (.agg [.row 4 0 (.lst false 137 us), .map 1]), .box (.p ((g.t))), .row 0 137]⟩ [(0, true), (0, false), (0, false), (0, false)] [] [2, 3, 4, 9, 10, 11] [] [] [] = some (.ret, ⟨59, [(3, .rb false), (10, .p (.int .i64 ((l).length : Int))), (11, .p (.int .i64 i)), (9, .p (.lst x 137 l)), (4, .ptr 2 0), (2, .ptr 0 0)], (qA0 us g m)⟩, [(m.kd == 3) = false, (m.kd == 2) = false, (m.kd == 1) = false, (0 : Int) ≤ i ∧ l[(i : Int).toNat]? = some ((m.t)), decide (i < ((l).length : Int)) = true]) := by kernel_rfl
theorem rdB_3 (m : Msg) (i : Int) (l us : List T) (x : Bool) (g : Msg): bodyK (Cd [((89, 9), m.t)] []) 30 146 0 (loopAt Try.f146 0) ⟨59, [(2, .ptr 0 0), (4, .ptr 2 0), (9, .p (.lst x 137 l)), (10, .p (.int .i64 ((l).length : Int))), (11, .p (.int .i64 i))], [.box (.p (.agg [.lst true 137 [], .nilM])), .map [], .box (.agg [.row 4 0 (.lst false 137 us), .map 1]), .box (.p ((g.t))), .row 0 137]⟩ [(0, true), (0, false), (0, true)] [] [2, 3, 4, 9, 10, 11] [] [] [] = some (.normal, ⟨59, [(11, .p (.int .i64 (IntKind.i64.wrap (i + 1)))), (10, .p (.int .i64 ((l).length : Int))), (9, .p (.lst x 137 l)), (4, .ptr 2 0), (2, .ptr 0 0)], (qA0 us g m)⟩, [(m.kd == 2) = true, (m.kd == 1) = false, (0 : Int) ≤ i ∧ l[(i : Int).toNat]? = some ((m.t)), decide (i < ((l).length : Int)) = true]) := by kernel_rfl
theorem rdB_4 (m : Msg) (i : Int) (l us : List T) (x : Bool) (g : Msg): bodyK (Cd [((89, 9), m.t)] []) 30 146 0 (loopAt Try.f146 0) ⟨59, [(2, .ptr 0 0), (4, .ptr 2 0), (9, .p (.lst x 137 l)), (10, .p (.int .i64 ((l).length : Int))), (11, .p (.int .i64 i))], [.box (.p (.agg [.lst true 137 [], .nilM])), .map [], .box (.agg [.row 4 0 (.lst false 137 us), .map 1]), .box (.p ((g.t))), .row 0 137]⟩ [(0, true), (0, false), (0, false), (0, true)] [] [2, 3, 4, 9, 10, 11] [] [] [] = some (.normal, ⟨59, [(11, .p (.int .i64 (IntKind.i64.wrap (i + 1)))), (10, .p (.int .i64 ((l).length : Int))), (9, .p (.lst x 137 l)), (4, .ptr 2 0), (2, .ptr 0 0)], (qA0 us g m)⟩, [(m.kd == 3) = true, (m.kd == 2) = false, (m.kd == 1) = false, (0 : Int) ≤ i ∧ l[(i : Int).toNat]? = some ((m.t)), decide (i < ((l).length : Int)) = true]) := by kernel_rfl
theorem rdB_5 (m : Msg) (i : Int) (l us : List T) (x : Bool) (g : Msg): bodyK (Cd [((89, 9), m.t)] []) 30 146 0 (loopAt Try.f146 0) ⟨59, [(2, .ptr 0 0), (4, .ptr 2 0), (9, .p (.lst x 137 l)), (10, .p (.int .i64 ((l).length : Int))), (11, .p (.int .i64 i))], [.box (.p (.agg [.lst true 137 [], .nilM])), .map [], .box (.agg [.row 4 0 (.lst false 137 us), .map 1]), .box (.p ((g.t))), .row 0 137]⟩ [(0, true), (0, true), (0, true)] [] [2, 3, 4, 9, 10, 11] [] [] [] = some (.ret, ⟨59, [(3, .rb false), (2, .ptr 0 0)], (qA0 us g m)⟩, [decide (m.am < 1) = true, (m.kd == 1) = true, (0 : Int) ≤ i ∧ l[(i : Int).toNat]? = some ((m.t)), decide (i < ((l).length : Int)) = true]) := by kernel_rfl
theorem rdB_6 (m : Msg) (i : Int) (l us : List T) (x : Bool) (g : Msg): bodyK (Cd [((89, 9), m.t)] []) 30 146 0 (loopAt Try.f146 0) ⟨59, [(2, .ptr 0 0), (4, .ptr 2 0), (9, .p (.lst x 137 l)), (10, .p (.int .i64 ((l).length : Int))), (11, .p (.int .i64 i))], [.box (.p (.agg [.lst true 137 [], .nilM])), .map [], .box (.agg [.row 4 0 (.lst false 137 us), .map 1]), .box (.p ((g.t))), .row 0 137]⟩ [(0, true), (0, true), (0, false), (0, true)] [] [2, 3, 4, 9, 10, 11] [] [] [] = some (.ret, ⟨59, [(3, .rb false), (2, .ptr 0 0)], (qA0 us g m)⟩, [decide (m.ex < 0) = true, decide (m.am < 1) = false, (m.kd == 1) = true, (0 : Int) ≤ i ∧ l[(i : Int).toNat]? = some ((m.t)), decide (i < ((l).length : Int)) = true]) := by kernel_rfl
theorem rdB_7 (m : Msg) (i : Int) (l us : List T) (x : Bool) (g : Msg): bodyK (Cd [((89, 9), m.t)] []) 30 146 0 (loopAt Try.f146 0) ⟨59, [(2, .ptr 0 0), (4, .ptr 2 0), (9, .p (.lst x 137 l)), (10, .p (.int .i64 ((l).length : Int))), (11, .p (.int .i64 i))], [.box (.p (.agg [.lst true 137 [], .nilM])), .map [], .box (.agg [.row 4 0 (.lst false 137 us), .map 1]), .box (.p ((g.t))), .row 0 137]⟩ [(0, true), (0, true), (0, false), (0, false), (0, true)] [] [2, 3, 4, 9, 10, 11] [] [] [] = some (.ret, ⟨59, [(3, .rb false), (2, .ptr 0 0)], (qA0 us g m)⟩, [decide (m.ex > 2147483647) = true, decide (m.ex < 0) = false, decide (m.am < 1) = false, (m.kd == 1) = true, (0 : Int) ≤ i ∧ l[(i : Int).toNat]? = some ((m.t)), decide (i < ((l).length : Int)) = true]) := by kernel_rfl
theorem rdB_8 (m : Msg) (i : Int) (l us : List T) (x : Bool) (g : Msg): bodyK (Cd [((89, 9), m.t)] []) 30 146 0 (loopAt Try.f146 0) ⟨59, [(2, .ptr 0 0), (4, .ptr 2 0), (9, .p (.lst x 137 l)), (10, .p (.int .i64 ((l).length : Int))), (11, .p (.int .i64 i))], [.box (.p (.agg [.lst true 137 [], .nilM])), .map [], .box (.agg [.row 4 0 (.lst false 137 us), .map 1]), .box (.p ((g.t))), .row 0 137]⟩ [(0, true), (0, true), (0, false), (0, false), (0, false), (0, true)] [] [2, 3, 4, 9, 10, 11] [] [] [] = some (.ret, ⟨59, [(3, .rb false), (2, .ptr 0 0)], (qA0 us g m)⟩, [((m.hh) == zeros) = true, decide (m.ex > 2147483647) = false, decide (m.ex < 0) = false, decide (m.am < 1) = false, (m.kd == 1) = true, (0 : Int) ≤ i ∧ l[(i : Int).toNat]? = some ((m.t)), decide (i < ((l).length : Int)) = true]) := by kernel_rfl
theorem rdB_9 (m : Msg) (i : Int) (l us : List T) (x : Bool) (g : Msg): bodyK (Cd [((89, 9), m.t)] []) 30 146 0 (loopAt Try.f146 0) ⟨59, [(2, .ptr 0 0), (4, .ptr 2 0), (9, .p (.lst x 137 l)), (10, .p (.int .i64 ((l).length : Int))), (11, .p (.int .i64 i))], [.box (.p (.agg [.lst true 137 [], .nilM])), .map [], .box (.agg [.row 4 0 (.lst false 137 us), .map 1]), .box (.p ((g.t))), .row 0 137]⟩ [(0, true), (0, true), (0, false), (0, false), (0, false), (0, false), (0, true)] [] [2, 3, 4, 9, 10, 11] [] [] [] = some (.ret, ⟨59, [(3, .rb false), (2, .ptr 0 0)], (qA0 us g m)⟩, [(m.id != ((us).length : Int)) = true, ((m.hh) == zeros) = false, decide (m.ex > 2147483647) = false, decide (m.ex < 0) = false, decide (m.am < 1) = false, (m.kd == 1) = true, (0 : Int) ≤ i ∧ l[(i : Int).toNat]? = some ((m.t)), decide (i < ((l).length : Int)) = true]) := by kernel_rfl
theorem rdTA (i : Int) (l : List T) (x : Bool): topK (Cd [] []) 30 146 [] [.p (.lst x 137 l)] [] [some ([2, 4, 9, 10, 11], .exit 0, ⟨59, [(2, .ptr 0 0), (4, .ptr 2 0), (9, .p (.lst x 137 l)), (10, .p (.int .i64 ((l).length : Int))), (11, .p (.int .i64 i))], [.box (.p (.agg [.lst true 137 [], .nilM])), .map [], .box (.agg [.p (.lst true 137 []), .map 1])]⟩)] [] [] [] = some ([.agg [.p (.lst true 137 []), .map 1], .rb true], [.box (.agg [.p (.lst true 137 []), .map 1]), .map [], .box (.agg [.p (.lst true 137 []), .map 1])], [LoopG Try.prog 0 (loopAt Try.f146 0) ⟨59, [(11, .p (.int .i64 0)), (10, .p (.int .i64 ((l).length : Int))), (9, .p (.lst x 137 l)), (4, .ptr 2 0), (2, .ptr 0 0)], [.box (.p (.agg [.lst true 137 [], .nilM])), .map [], .box (.agg [.p (.lst true 137 []), .map 1])]⟩ (.exit 0) ⟨59, [(2, .ptr 0 0), (4, .ptr 2 0), (9, .p (.lst x 137 l)), (10, .p (.int .i64 ((l).length : Int))), (11, .p (.int .i64 i))], [.box (.p (.agg [.lst true 137 [], .nilM])), .map [], .box (.agg [.p (.lst true 137 []), .map 1])]⟩]) := by kernel_rfl
theorem rdTB (i : Int) (l us : List T) (x : Bool) (g : Msg): topK (Cd [] []) 30 146 [] [.p (.lst x 137 l)] [] [some ([2, 4, 9, 10, 11], .exit 0, ⟨59, [(2, .ptr 0 0), (4, .ptr 2 0), (9, .p (.lst x 137 l)), (10, .p (.int .i64 ((l).length : Int))), (11, .p (.int .i64 i))], [.box (.p (.agg [.lst true 137 [], .nilM])), .map [], .box (.agg [.row 4 0 (.lst false 137 us), .map 1]), .box (.p ((g.t))), .row 0 137]⟩)] [] [] [] = some ([.agg [.row 4 0 (.lst false 137 us), .map 1], .rb true], [.box (.agg [.row 4 0 (.lst false 137 us), .map 1]), .map [], .box (.agg [.row 4 0 (.lst false 137 us), .map 1]), .box (.p ((g.t))), .row 0 137], [LoopG Try.prog 0 (loopAt Try.f146 0) ⟨59, [(11, .p (.int .i64 0)), (10, .p (.int .i64 ((l).length : Int))), (9, .p (.lst x 137 l)), (4, .ptr 2 0), (2, .ptr 0 0)], [.box (.p (.agg [.lst true 137 [], .nilM])), .map [], .box (.agg [.p (.lst true 137 []), .map 1])]⟩ (.exit 0) ⟨59, [(2, .ptr 0 0), (4, .ptr 2 0), (9, .p (.lst x 137 l)), (10, .p (.int .i64 ((l).length : Int))), (11, .p (.int .i64 i))], [.box (.p (.agg [.lst true 137 [], .nilM])), .map [], .box (.agg [.row 4 0 (.lst false 137 us), .map 1]), .box (.p ((g.t))), .row 0 137]⟩]) := by kernel_rfl
theorem rdTR (l : List T) (x : Bool): topK (Cd [] []) 30 146 [] [.p (.lst x 137 l)] [] [some ([2, 4, 9, 10, 11], .ret, ⟨59, [(2, .ptr 0 0), (3, .p (.bool false))], [.box (.p (.agg [.lst true 137 [], .nilM]))]⟩)] [] [] [] = some ([.p (.agg [.lst true 137 [], .nilM]), .p (.bool false)], [], [LoopG Try.prog 0 (loopAt Try.f146 0) ⟨59, [(11, .p (.int .i64 0)), (10, .p (.int .i64 ((l).length : Int))), (9, .p (.lst x 137 l)), (4, .ptr 2 0), (2, .ptr 0 0)], [.box (.p (.agg [.lst true 137 [], .nilM])), .map [], .box (.agg [.p (.lst true 137 []), .map 1])]⟩ (.ret) ⟨59, [(2, .ptr 0 0), (3, .p (.bool false))], [.box (.p (.agg [.lst true 137 [], .nilM]))]⟩]) := by kernel_rfl
def RA (l : List T) (x : Bool) (i : Int) : St := ⟨59, [(2, .ptr 0 0), (4, .ptr 2 0), (9, .p (.lst x 137 l)), (10, .p (.int .i64 ((l).length : Int))), (11, .p (.int .i64 i))], [.box (.p (.agg [.lst true 137 [], .nilM])), .map [], .box (.agg [.p (.lst true 137 []), .map 1])]⟩
def RB (g : Msg) (l us : List T) (x : Bool) (i : Int) : St := ⟨59, [(2, .ptr 0 0), (4, .ptr 2 0), (9, .p (.lst x 137 l)), (10, .p (.int .i64 ((l).length : Int))), (11, .p (.int .i64 i))], [.box (.p (.agg [.lst true 137 [], .nilM])), .map [], .box (.agg [.row 4 0 (.lst false 137 us), .map 1]), .box (.p ((mT g.kd g.ch g.id g.am g.ex g.hh g.ox g.on g.sc g.pt g.tg g.nu g.to g.rx g.rs))), .row 0 137]⟩
def RR : St := ⟨59, [(2, .ptr 0 0), (3, .p (.bool false))], [.box (.p (.agg [.lst true 137 [], .nilM]))]⟩
def badM (m : Msg) (n : Int) : Bool := decide (m.am < 1) || decide (m.ex < 0) || decide (m.ex > 2147483647) || (m.hh == zeros) || (m.id != n)
def rd : List Msg → List Msg → Option (List Msg)
 | [], acc => some acc
 | m :: r, acc => bif m.kd == 1 then (bif badM m acc.length then none else rd r (acc ++ [m])) else bif m.kd == 2 || m.kd == 3 then rd r acc else none
theorem rd_pre : ∀ (r : List Msg) (acc : List Msg), ∀ vs, rd r acc = some vs → ∃ ws, vs = acc ++ ws
 | [], acc, vs, h => by simp only [rd, Option.some.injEq] at h; exact ⟨[], by simp [h]⟩
 | m :: r, acc, vs, h => by
  simp only [rd] at h
  cases h1 : m.kd == 1 with
  | true =>
   rw [h1] at h
   cases hb : badM m acc.length with
   | true => simp only [hb, cond_true] at h; cases h
   | false =>
    simp only [hb, cond_true, cond_false] at h
    obtain ⟨ws, rfl⟩ := rd_pre r _ vs h
    exact ⟨m :: ws, by simp⟩
  | false =>
   rw [h1] at h
   cases hk : (m.kd == 2 || m.kd == 3) with
   | true => simp only [hk, cond_true, cond_false] at h; exact rd_pre r _ vs h
   | false => simp only [hk, cond_false] at h; cases h
theorem rroundA (l : List Msg) (x : Bool) (i : Int) (m : Msg) (hl : l.length * 232 ≤ 140737488355328) (hx : 0 ≤ i ∧ (l.map Msg.t)[i.toNat]? = some m.t) (hlt : i < l.length) :
  ((m.kd == 1) = true ∧ badM m 0 = true ∧ CodeG Try.prog 0 (loopAt Try.f146 0) (RA (l.map Msg.t) x i) .ret RR) ∨ ((m.kd == 1) = true ∧ badM m 0 = false ∧ CodeG Try.prog 0 (loopAt Try.f146 0) (RA (l.map Msg.t) x i) .normal (RB m (l.map Msg.t) ([m].map Msg.t) x (i + 1))) ∨ ((m.kd == 1) = false ∧ (m.kd == 2 || m.kd == 3) = true ∧ CodeG Try.prog 0 (loopAt Try.f146 0) (RA (l.map Msg.t) x i) .normal (RA (l.map Msg.t) x (i + 1))) ∨ ((m.kd == 1) = false ∧ (m.kd == 2 || m.kd == 3) = false ∧ CodeG Try.prog 0 (loopAt Try.f146 0) (RA (l.map Msg.t) x i) .ret RR) := by
 have hlt' : decide (i < ((l.map Msg.t).length : Int)) = true := by simpa using hlt
 have wi : IntKind.i64.wrap (i + 1) = i + 1 := w64 (by omega) (by omega)
 cases c0 : (m.kd == 1) with
 | true =>
  cases c1 : decide (m.am < 1) with
  | true =>
   exact .inl ⟨rfl, by simp only [badM, c0, c1, Bool.or_false, Bool.false_or, Bool.or_true, Bool.true_or], CodeG.normE (bodyK_sound (Cd_ok _ _) (rdA_5 m i (l.map Msg.t) x) ⟨c1, c0, hx, hlt', trivial⟩) (by omega) (by omega) [2, 3] (m := 0) (k := 1) (by kernel_rfl)⟩
  | false =>
   cases c2 : decide (m.ex < 0) with
   | true =>
    exact .inl ⟨rfl, by simp only [badM, c0, c1, c2, Bool.or_false, Bool.false_or, Bool.or_true, Bool.true_or], CodeG.normE (bodyK_sound (Cd_ok _ _) (rdA_6 m i (l.map Msg.t) x) ⟨c2, c1, c0, hx, hlt', trivial⟩) (by omega) (by omega) [2, 3] (m := 0) (k := 1) (by kernel_rfl)⟩
   | false =>
    cases c3 : decide (m.ex > 2147483647) with
    | true =>
     exact .inl ⟨rfl, by simp only [badM, c0, c1, c2, c3, Bool.or_false, Bool.false_or, Bool.or_true, Bool.true_or], CodeG.normE (bodyK_sound (Cd_ok _ _) (rdA_7 m i (l.map Msg.t) x) ⟨c3, c2, c1, c0, hx, hlt', trivial⟩) (by omega) (by omega) [2, 3] (m := 0) (k := 1) (by kernel_rfl)⟩
    | false =>
     cases c4 : ((m.hh) == zeros) with
     | true =>
      exact .inl ⟨rfl, by simp only [badM, c0, c1, c2, c3, c4, Bool.or_false, Bool.false_or, Bool.or_true, Bool.true_or], CodeG.normE (bodyK_sound (Cd_ok _ _) (rdA_8 m i (l.map Msg.t) x) ⟨c4, c3, c2, c1, c0, hx, hlt', trivial⟩) (by omega) (by omega) [2, 3] (m := 0) (k := 1) (by kernel_rfl)⟩
     | false =>
      cases c5 : (m.id != 0) with
      | true =>
       exact .inl ⟨rfl, by simp only [badM, c0, c1, c2, c3, c4, c5, Bool.or_false, Bool.false_or, Bool.or_true, Bool.true_or], CodeG.normE (bodyK_sound (Cd_ok _ _) (rdA_9 m i (l.map Msg.t) x) ⟨c5, c4, c3, c2, c1, c0, hx, hlt', trivial⟩) (by omega) (by omega) [2, 3] (m := 0) (k := 1) (by kernel_rfl)⟩
      | false =>
       have r := CodeG.normE (bodyK_sound (Cd_ok _ _) (rdA_0 m i (l.map Msg.t) x) ⟨(by simp), c5, c4, c3, c2, c1, c0, hx, hlt', trivial⟩) (by omega) (by omega) [2, 4, 9, 10, 11] (m := 0) (k := 5) (st2 := RB m (l.map Msg.t) ([m].map Msg.t) x (IntKind.i64.wrap (i + 1))) (by kernel_rfl)
       rw [wi] at r
       exact .inr (.inl ⟨rfl, by simp only [badM, c0, c1, c2, c3, c4, c5, Bool.or_false, Bool.false_or, Bool.or_true, Bool.true_or], r⟩)
 | false =>
  cases c1 : (m.kd == 2) with
  | true =>
   have r := CodeG.normE (bodyK_sound (Cd_ok _ _) (rdA_3 m i (l.map Msg.t) x) ⟨c1, c0, hx, hlt', trivial⟩) (by omega) (by omega) [2, 4, 9, 10, 11] (m := 0) (k := 3) (st2 := RA (l.map Msg.t) x (IntKind.i64.wrap (i + 1))) (by kernel_rfl)
   rw [wi] at r
   exact .inr (.inr (.inl ⟨rfl, by simp only [c0, c1, Bool.or_true, Bool.true_or, Bool.or_false, Bool.false_or], r⟩))
  | false =>
   cases c2 : (m.kd == 3) with
   | true =>
    have r := CodeG.normE (bodyK_sound (Cd_ok _ _) (rdA_4 m i (l.map Msg.t) x) ⟨c2, c1, c0, hx, hlt', trivial⟩) (by omega) (by omega) [2, 4, 9, 10, 11] (m := 0) (k := 3) (st2 := RA (l.map Msg.t) x (IntKind.i64.wrap (i + 1))) (by kernel_rfl)
    rw [wi] at r
    exact .inr (.inr (.inl ⟨rfl, by simp only [c0, c1, c2, Bool.or_true, Bool.true_or, Bool.or_false, Bool.false_or], r⟩))
   | false =>
    exact .inr (.inr (.inr ⟨rfl, by simp only [c0, c1, c2, Bool.or_self], CodeG.normE (bodyK_sound (Cd_ok _ _) (rdA_2 m i (l.map Msg.t) x) ⟨c2, c1, c0, hx, hlt', trivial⟩) (by omega) (by omega) [2, 3] (m := 0) (k := 1) (by kernel_rfl)⟩))
theorem rroundB (l : List Msg) (x : Bool) (g : Msg) (us : List Msg) (i : Int) (m : Msg) (hl : l.length * 232 ≤ 140737488355328) (hus : us.length + 1 ≤ l.length) (hx : 0 ≤ i ∧ (l.map Msg.t)[i.toNat]? = some m.t) (hlt : i < l.length) :
  ((m.kd == 1) = true ∧ badM m (us.length : Int) = true ∧ CodeG Try.prog 0 (loopAt Try.f146 0) (RB g (l.map Msg.t) (us.map Msg.t) x i) .ret RR) ∨ ((m.kd == 1) = true ∧ badM m (us.length : Int) = false ∧ CodeG Try.prog 0 (loopAt Try.f146 0) (RB g (l.map Msg.t) (us.map Msg.t) x i) .normal (RB g (l.map Msg.t) ((us ++ [m]).map Msg.t) x (i + 1))) ∨ ((m.kd == 1) = false ∧ (m.kd == 2 || m.kd == 3) = true ∧ CodeG Try.prog 0 (loopAt Try.f146 0) (RB g (l.map Msg.t) (us.map Msg.t) x i) .normal (RB g (l.map Msg.t) (us.map Msg.t) x (i + 1))) ∨ ((m.kd == 1) = false ∧ (m.kd == 2 || m.kd == 3) = false ∧ CodeG Try.prog 0 (loopAt Try.f146 0) (RB g (l.map Msg.t) (us.map Msg.t) x i) .ret RR) := by
 have hlt' : decide (i < ((l.map Msg.t).length : Int)) = true := by simpa using hlt
 have wi : IntKind.i64.wrap (i + 1) = i + 1 := w64 (by omega) (by omega)
 have hul : ((us.map Msg.t).length : Int) = (us.length : Int) := by simp
 cases c0 : (m.kd == 1) with
 | true =>
  cases c1 : decide (m.am < 1) with
  | true =>
   exact .inl ⟨rfl, by simp only [badM, hul, c0, c1, Bool.or_false, Bool.false_or, Bool.or_true, Bool.true_or], CodeG.normE (bodyK_sound (Cd_ok _ _) (rdB_5 m i (l.map Msg.t) (us.map Msg.t) x g) ⟨c1, c0, hx, hlt', trivial⟩) (by omega) (by omega) [2, 3] (m := 0) (k := 1) (by kernel_rfl)⟩
  | false =>
   cases c2 : decide (m.ex < 0) with
   | true =>
    exact .inl ⟨rfl, by simp only [badM, hul, c0, c1, c2, Bool.or_false, Bool.false_or, Bool.or_true, Bool.true_or], CodeG.normE (bodyK_sound (Cd_ok _ _) (rdB_6 m i (l.map Msg.t) (us.map Msg.t) x g) ⟨c2, c1, c0, hx, hlt', trivial⟩) (by omega) (by omega) [2, 3] (m := 0) (k := 1) (by kernel_rfl)⟩
   | false =>
    cases c3 : decide (m.ex > 2147483647) with
    | true =>
     exact .inl ⟨rfl, by simp only [badM, hul, c0, c1, c2, c3, Bool.or_false, Bool.false_or, Bool.or_true, Bool.true_or], CodeG.normE (bodyK_sound (Cd_ok _ _) (rdB_7 m i (l.map Msg.t) (us.map Msg.t) x g) ⟨c3, c2, c1, c0, hx, hlt', trivial⟩) (by omega) (by omega) [2, 3] (m := 0) (k := 1) (by kernel_rfl)⟩
    | false =>
     cases c4 : ((m.hh) == zeros) with
     | true =>
      exact .inl ⟨rfl, by simp only [badM, hul, c0, c1, c2, c3, c4, Bool.or_false, Bool.false_or, Bool.or_true, Bool.true_or], CodeG.normE (bodyK_sound (Cd_ok _ _) (rdB_8 m i (l.map Msg.t) (us.map Msg.t) x g) ⟨c4, c3, c2, c1, c0, hx, hlt', trivial⟩) (by omega) (by omega) [2, 3] (m := 0) (k := 1) (by kernel_rfl)⟩
     | false =>
      cases c5 : (m.id != (((us.map Msg.t)).length : Int)) with
      | true =>
       have c5' := c5
       rw [hul] at c5'
       exact .inl ⟨rfl, by simp only [badM, hul, c0, c1, c2, c3, c4, c5', Bool.or_false, Bool.false_or, Bool.or_true, Bool.true_or], CodeG.normE (bodyK_sound (Cd_ok _ _) (rdB_9 m i (l.map Msg.t) (us.map Msg.t) x g) ⟨c5, c4, c3, c2, c1, c0, hx, hlt', trivial⟩) (by omega) (by omega) [2, 3] (m := 0) (k := 1) (by kernel_rfl)⟩
      | false =>
       have c5' := c5
       rw [hul] at c5'
       have r := CodeG.normE (bodyK_sound (Cd_ok _ _) (rdB_0 m i (l.map Msg.t) (us.map Msg.t) x g) ⟨(by simp; omega), c5, c4, c3, c2, c1, c0, hx, hlt', trivial⟩) (by omega) (by omega) [2, 4, 9, 10, 11] (m := 0) (k := 5) (st2 := RB g (l.map Msg.t) (us.map Msg.t ++ [m.t]) x (IntKind.i64.wrap (i + 1))) (by kernel_rfl)
       rw [wi] at r
       rw [show us.map Msg.t ++ [m.t] = (us ++ [m]).map Msg.t by simp] at r
       exact .inr (.inl ⟨rfl, by simp only [badM, hul, c0, c1, c2, c3, c4, c5', Bool.or_false, Bool.false_or, Bool.or_true, Bool.true_or], r⟩)
 | false =>
  cases c1 : (m.kd == 2) with
  | true =>
   have r := CodeG.normE (bodyK_sound (Cd_ok _ _) (rdB_3 m i (l.map Msg.t) (us.map Msg.t) x g) ⟨c1, c0, hx, hlt', trivial⟩) (by omega) (by omega) [2, 4, 9, 10, 11] (m := 0) (k := 5) (st2 := RB g (l.map Msg.t) (us.map Msg.t) x (IntKind.i64.wrap (i + 1))) (by kernel_rfl)
   rw [wi] at r
   exact .inr (.inr (.inl ⟨rfl, by simp only [c0, c1, Bool.or_true, Bool.true_or, Bool.or_false, Bool.false_or], r⟩))
  | false =>
   cases c2 : (m.kd == 3) with
   | true =>
    have r := CodeG.normE (bodyK_sound (Cd_ok _ _) (rdB_4 m i (l.map Msg.t) (us.map Msg.t) x g) ⟨c2, c1, c0, hx, hlt', trivial⟩) (by omega) (by omega) [2, 4, 9, 10, 11] (m := 0) (k := 5) (st2 := RB g (l.map Msg.t) (us.map Msg.t) x (IntKind.i64.wrap (i + 1))) (by kernel_rfl)
    rw [wi] at r
    exact .inr (.inr (.inl ⟨rfl, by simp only [c0, c1, c2, Bool.or_true, Bool.true_or, Bool.or_false, Bool.false_or], r⟩))
   | false =>
    exact .inr (.inr (.inr ⟨rfl, by simp only [c0, c1, c2, Bool.or_self], CodeG.normE (bodyK_sound (Cd_ok _ _) (rdB_2 m i (l.map Msg.t) (us.map Msg.t) x g) ⟨c2, c1, c0, hx, hlt', trivial⟩) (by omega) (by omega) [2, 3] (m := 0) (k := 1) (by kernel_rfl)⟩))
theorem rdB_loop (l : List Msg) (x : Bool) (g : Msg) (hl : l.length * 232 ≤ 140737488355328) : ∀ (r pre us : List Msg), l = pre ++ r → us.length ≤ pre.length →
  match rd r us with
  | none => LoopG Try.prog 0 (loopAt Try.f146 0) (RB g (l.map Msg.t) (us.map Msg.t) x (pre.length : Int)) .ret RR
  | some vs => LoopG Try.prog 0 (loopAt Try.f146 0) (RB g (l.map Msg.t) (us.map Msg.t) x (pre.length : Int)) (.exit 0) (RB g (l.map Msg.t) (vs.map Msg.t) x (l.length : Int))
 | [], pre, us, he, hu => by
  have hp : pre = l := by rw [he]; simp
  simp only [rd]
  rw [hp]
  exact LoopG.leave (CodeG.normE (bodyK_sound (Cd_ok _ _) (rdB_1 m0 (l.length : Int) (l.map Msg.t) (us.map Msg.t) x g) ⟨by simp, trivial⟩) (by omega) (by omega) [2, 4, 9, 10, 11] (m := 0) (k := 5) (by kernel_rfl)) rfl
 | m :: r, pre, us, he, hu => by
  have hlen : pre.length + (r.length + 1) = l.length := by rw [he]; simp
  have hx : (0 : Int) ≤ (pre.length : Int) ∧ (l.map Msg.t)[((pre.length : Int)).toNat]? = some m.t := ⟨by omega, by rw [he]; simp⟩
  have ih1 := rdB_loop l x g hl r (pre ++ [m]) (us ++ [m]) (by rw [he]; simp) (by simp; omega)
  have ih2 := rdB_loop l x g hl r (pre ++ [m]) us (by rw [he]; simp) (by simp; omega)
  rw [show (((pre ++ [m]).length : Nat) : Int) = (pre.length : Int) + 1 by simp] at ih1 ih2
  simp only [rd]
  rcases rroundB l x g us (pre.length : Int) m hl (by omega) hx (by omega) with ⟨k1, k2, k3⟩ | ⟨k1, k2, k3⟩ | ⟨k1, k2, k3⟩ | ⟨k1, k2, k3⟩
  ·rw [k1, k2]; exact LoopG.leave k3 rfl
  ·rw [k1, k2]
   simp only [cond_true, cond_false]
   revert ih1
   cases rd r (us ++ [m]) with
   | none => exact fun ih => LoopG.next k3 ih
   | some vs => exact fun ih => LoopG.next k3 ih
  ·rw [k1, k2]
   simp only [cond_true, cond_false]
   revert ih2
   cases rd r us with
   | none => exact fun ih => LoopG.next k3 ih
   | some vs => exact fun ih => LoopG.next k3 ih
  ·rw [k1, k2]; exact LoopG.leave k3 rfl
theorem rdA_loop (l : List Msg) (x : Bool) (hl : l.length * 232 ≤ 140737488355328) : ∀ (r pre : List Msg), l = pre ++ r →
  match rd r [] with
  | none => LoopG Try.prog 0 (loopAt Try.f146 0) (RA (l.map Msg.t) x (pre.length : Int)) .ret RR
  | some [] => LoopG Try.prog 0 (loopAt Try.f146 0) (RA (l.map Msg.t) x (pre.length : Int)) (.exit 0) (RA (l.map Msg.t) x (l.length : Int))
  | some (g :: vs) => LoopG Try.prog 0 (loopAt Try.f146 0) (RA (l.map Msg.t) x (pre.length : Int)) (.exit 0) (RB g (l.map Msg.t) ((g :: vs).map Msg.t) x (l.length : Int))
 | [], pre, he => by
  have hp : pre = l := by rw [he]; simp
  simp only [rd]
  rw [hp]
  exact LoopG.leave (CodeG.normE (bodyK_sound (Cd_ok _ _) (rdA_1 m0 (l.length : Int) (l.map Msg.t) x) ⟨by simp, trivial⟩) (by omega) (by omega) [2, 4, 9, 10, 11] (m := 0) (k := 3) (by kernel_rfl)) rfl
 | m :: r, pre, he => by
  have hlen : pre.length + (r.length + 1) = l.length := by rw [he]; simp
  have hx : (0 : Int) ≤ (pre.length : Int) ∧ (l.map Msg.t)[((pre.length : Int)).toNat]? = some m.t := ⟨by omega, by rw [he]; simp⟩
  have ih1 := rdB_loop l x m hl r (pre ++ [m]) [m] (by rw [he]; simp) (by simp)
  have ih2 := rdA_loop l x hl r (pre ++ [m]) (by rw [he]; simp)
  rw [show (((pre ++ [m]).length : Nat) : Int) = (pre.length : Int) + 1 by simp] at ih1 ih2
  simp only [rd]
  rcases rroundA l x (pre.length : Int) m hl hx (by omega) with ⟨k1, k2, k3⟩ | ⟨k1, k2, k3⟩ | ⟨k1, k2, k3⟩ | ⟨k1, k2, k3⟩
  ·rw [k1, show badM m ((([] : List Msg).length : Nat) : Int) = true from k2]; exact LoopG.leave k3 rfl
  ·rw [k1, show badM m ((([] : List Msg).length : Nat) : Int) = false from k2]
   simp only [cond_true, cond_false, List.nil_append]
   have hpre := rd_pre r [m]
   revert ih1 hpre
   cases rd r [m] with
   | none => exact fun ih _ => LoopG.next k3 ih
   | some vs =>
    intro ih hpre
    obtain ⟨ws, rfl⟩ := hpre vs rfl
    exact LoopG.next k3 ih
  ·rw [k1, k2]
   simp only [cond_true, cond_false]
   revert ih2
   cases rd r [] with
   | none => exact fun ih => LoopG.next k3 ih
   | some vs => cases vs with
    | nil => exact fun ih => LoopG.next k3 ih
    | cons g vs => exact fun ih => LoopG.next k3 ih
  ·rw [k1, k2]; exact LoopG.leave k3 rfl
def sNil : List SObj := [.box (.agg [.p (.lst true 137 []), .map 1]), .map [], .box (.agg [.p (.lst true 137 []), .map 1])]
def sRow (g : Msg) (us : List T) : List SObj := [.box (.agg [.row 4 0 (.lst false 137 us), .map 1]), .map [], .box (.agg [.row 4 0 (.lst false 137 us), .map 1]), .box (.p g.t), .row 0 137]
theorem read_ok (l : List Msg) (x : Bool) (hl : l.length * 232 ≤ 140737488355328) :
  match rd l [] with
  | none => GCall Try.prog 146 [] [.p (.lst x 137 (l.map Msg.t))] [] [.p (.agg [.lst true 137 [], .nilM]), .p (.bool false)]
  | some [] => GCall Try.prog 146 [] [.p (.lst x 137 (l.map Msg.t))] sNil [.agg [.p (.lst true 137 []), .map 1], .rb true]
  | some (g :: us) => GCall Try.prog 146 [] [.p (.lst x 137 (l.map Msg.t))] (sRow g ((g :: us).map Msg.t)) [.agg [.row 4 0 (.lst false 137 ((g :: us).map Msg.t)), .map 1], .rb true] := by
 have h := rdA_loop l x hl l [] rfl
 revert h
 cases rd l [] with
 | none => exact fun h => topK_sound (Cd_ok _ _) (rdTR (l.map Msg.t) x) ⟨LoopG.preE (by omega) (by omega) [2, 4, 9, 10, 11] (m := 0) (k := 3) (by kernel_rfl) h, trivial⟩
 | some vs => cases vs with
  | nil => exact fun h => topK_sound (Cd_ok _ _) (rdTA (l.length : Int) (l.map Msg.t) x) ⟨LoopG.preE (by omega) (by omega) [2, 4, 9, 10, 11] (m := 0) (k := 3) (by kernel_rfl) h, trivial⟩
  | cons g us => exact fun h => topK_sound (Cd_ok _ _) (rdTB (l.length : Int) (l.map Msg.t) ((g :: us).map Msg.t) x g) ⟨LoopG.preE (by omega) (by omega) [2, 4, 9, 10, 11] (m := 0) (k := 3) (by kernel_rfl) h, trivial⟩
end Go.HM.Up
set_option maxRecDepth 100000
namespace Go.HM.Up
open Go.Proofs
def qB0 (us : List T) (ms ns : List (T × T)) (vs : List T) (m : Msg) : List SObj := [.box (.agg [.row 3 0 (.lst false 137 us), .map 1]), .map ms, .map ns, .row 0 137, .row 0 137, .box (.agg [.row 4 0 (.lst false 137 vs), .map 2]), .box (.p ((m.t)))]
def qB1 (ms ns : List (T × T)) (vs : List T) (m : Msg) : List SObj := [.box (.agg [.p (.lst true 137 []), .map 1]), .map ms, .map ns, .row 0 137, .box (.agg [.row 3 0 (.lst false 137 vs), .map 2]), .box (.p ((m.t)))]
def qB2 (us : List T) (ms ns : List (T × T)) (m : Msg) : List SObj := [.box (.agg [.row 3 0 (.lst false 137 us), .map 1]), .map ms, .map ns, .row 0 137, .box (.agg [.p (.lst true 137 []), .map 2]), .box (.p ((m.t)))]
def qB3 (us : List T) (ms ns : List (T × T)) (vs : List T) : List SObj := [.box (.agg [.row 3 0 (.lst false 137 us), .map 1]), .map ms, .map ns, .row 0 137, .row 0 137, .box (.agg [.row 4 0 (.lst false 137 vs), .map 2])]
theorem stMSRR_0 (m : Msg) (i : Int) (l us vs : List T) (ms ns : List (T × T)) (x : Bool): bodyK (Cd [((89, 11), m.t)] []) 30 147 5 (loopAt Try.f147 0) ⟨53, [(0, .ptr 0 0), (5, .ptr 5 0), (11, .p (.lst x 137 l)), (12, .p (.int .i64 ((l).length : Int))), (13, .p (.int .i64 i))], (qB3 us ms ns vs)⟩ [(0, true), (0, false), (0, false), (0, false)] [] [0, 5, 6, 11, 12, 13] [] [] [.miss, .miss] = some (.normal, ⟨53, [(13, .p (.int .i64 (IntKind.i64.wrap (i + 1)))), (12, .p (.int .i64 ((l).length : Int))), (5, .ptr 5 0), (11, .p (.lst x 137 l)), (0, .ptr 0 0)], [.box (.agg [.row 3 0 (.lst false 137 us), .map 1]), .map (ms ++ [(.int .i64 m.id, .int .i64 m.kd)]), .map ns, .row 0 137, .row 0 137, .box (.agg [.row 4 0 (.lst false 137 vs), .map 2]), .box (.p ((m.t)))]⟩, [(fits Try.prog 10 3 (.int .i64 m.id) && keysOk Try.prog 3 ms) = true, findT (.int .i64 m.id) ms 0 = none, decide (m.id ≥ ((vs).length : Int)) = false, decide (m.id < 0) = false, (fits Try.prog 10 3 (.int .i64 m.id) && keysOk Try.prog 3 ms) = true, findT (.int .i64 m.id) ms 0 = none, (m.kd == 1) = false, (0 : Int) ≤ i ∧ l[(i : Int).toNat]? = some ((m.t)), decide (i < ((l).length : Int)) = true]) := by kernel_rfl
theorem stMSRR_1 (m : Msg) (i : Int) (l us vs : List T) (ms ns : List (T × T)) (x : Bool): bodyK (Cd [((89, 11), m.t)] []) 30 147 5 (loopAt Try.f147 0) ⟨53, [(0, .ptr 0 0), (5, .ptr 5 0), (11, .p (.lst x 137 l)), (12, .p (.int .i64 ((l).length : Int))), (13, .p (.int .i64 i))], (qB3 us ms ns vs)⟩ [(0, false)] [] [0, 5, 6, 11, 12, 13] [] [] [.miss, .miss] = some (.exit 0, ⟨53, [(12, .p (.int .i64 ((l).length : Int))), (13, .p (.int .i64 i)), (0, .ptr 0 0), (5, .ptr 5 0), (11, .p (.lst x 137 l))], (qB3 us ms ns vs)⟩, [decide (i < ((l).length : Int)) = false]) := by kernel_rfl
theorem stMSRR_2 (m : Msg) (i : Int) (l us vs : List T) (ms ns : List (T × T)) (x : Bool): bodyK (Cd [((89, 11), m.t)] []) 30 147 5 (loopAt Try.f147 0) ⟨53, [(0, .ptr 0 0), (5, .ptr 5 0), (11, .p (.lst x 137 l)), (12, .p (.int .i64 ((l).length : Int))), (13, .p (.int .i64 i))], (qB3 us ms ns vs)⟩ [(0, true), (0, true)] [] [0, 5, 6, 11, 12, 13] [] [] [.miss, .miss] = some (.normal, ⟨53, [(13, .p (.int .i64 (IntKind.i64.wrap (i + 1)))), (12, .p (.int .i64 ((l).length : Int))), (0, .ptr 0 0), (5, .ptr 5 0), (11, .p (.lst x 137 l))], (qB0 us ms ns vs m)⟩, [(m.kd == 1) = true, (0 : Int) ≤ i ∧ l[(i : Int).toNat]? = some ((m.t)), decide (i < ((l).length : Int)) = true]) := by kernel_rfl
theorem stMSRR_3 (m : Msg) (i : Int) (l us vs : List T) (ms ns : List (T × T)) (x : Bool): bodyK (Cd [((89, 11), m.t)] []) 30 147 5 (loopAt Try.f147 0) ⟨53, [(0, .ptr 0 0), (5, .ptr 5 0), (11, .p (.lst x 137 l)), (12, .p (.int .i64 ((l).length : Int))), (13, .p (.int .i64 i))], (qB3 us ms ns vs)⟩ [(0, true), (0, false), (0, true)] [] [0, 5, 6, 11, 12, 13] [] [] [.miss, .miss] = some (.ret, ⟨53, [(6, .rb false)], (qB0 us ms ns vs m)⟩, [decide (m.id < 0) = true, (fits Try.prog 10 3 (.int .i64 m.id) && keysOk Try.prog 3 ms) = true, findT (.int .i64 m.id) ms 0 = none, (m.kd == 1) = false, (0 : Int) ≤ i ∧ l[(i : Int).toNat]? = some ((m.t)), decide (i < ((l).length : Int)) = true]) := by kernel_rfl
theorem stMSRR_4 (m : Msg) (i : Int) (l us vs : List T) (ms ns : List (T × T)) (x : Bool): bodyK (Cd [((89, 11), m.t)] []) 30 147 5 (loopAt Try.f147 0) ⟨53, [(0, .ptr 0 0), (5, .ptr 5 0), (11, .p (.lst x 137 l)), (12, .p (.int .i64 ((l).length : Int))), (13, .p (.int .i64 i))], (qB3 us ms ns vs)⟩ [(0, true), (0, false), (0, false), (0, true)] [] [0, 5, 6, 11, 12, 13] [] [] [.miss, .miss] = some (.ret, ⟨53, [(6, .rb false)], (qB0 us ms ns vs m)⟩, [decide (m.id ≥ ((vs).length : Int)) = true, decide (m.id < 0) = false, (fits Try.prog 10 3 (.int .i64 m.id) && keysOk Try.prog 3 ms) = true, findT (.int .i64 m.id) ms 0 = none, (m.kd == 1) = false, (0 : Int) ≤ i ∧ l[(i : Int).toNat]? = some ((m.t)), decide (i < ((l).length : Int)) = true]) := by kernel_rfl
theorem stHSRR (m : Msg) (i : Int) (l us vs : List T) (ms ns : List (T × T)) (x : Bool) (j : Nat) (hk : Int): bodyK (Cd [((89, 11), m.t)] []) 30 147 5 (loopAt Try.f147 0) ⟨53, [(0, .ptr 0 0), (5, .ptr 5 0), (11, .p (.lst x 137 l)), (12, .p (.int .i64 ((l).length : Int))), (13, .p (.int .i64 i))], (qB3 us ms ns vs)⟩ [(0, true), (0, false)] [] [0, 5, 6, 11, 12, 13] [] [] [.hit j (.int .i64 hk)] = some (.ret, ⟨53, [(6, .rb false)], (qB0 us ms ns vs m)⟩, [(fits Try.prog 10 3 (.int .i64 m.id) && keysOk Try.prog 3 ms) = true, findT (.int .i64 m.id) ms 0 = some (j, .int .i64 hk), (m.kd == 1) = false, (0 : Int) ≤ i ∧ l[(i : Int).toNat]? = some ((m.t)), decide (i < ((l).length : Int)) = true]) := by kernel_rfl
theorem stTSRR (l us vs : List T) (ms mt ns : List (T × T)) (x : Bool): topK (Cd [] []) 30 147 [.box (.agg [.row 3 0 (.lst false 137 us), .map 1]), .map ms, .map ns, .row 0 137, .row 0 137] [.ptr 0 0, .p (.lst x 137 l), .agg [.row 4 0 (.lst false 137 vs), .map 2]] [] [some ([0, 5, 11, 12, 13], .exit 0, ⟨53, [], [.box (.agg [.row 3 0 (.lst false 137 us), .map 1]), .map mt, .map ns, .row 0 137, .row 0 137]⟩)] [] [] [] = some ([.rb true], [.box (.agg [.row 3 0 (.lst false 137 us), .map 1]), .map mt, .map ns, .row 0 137, .row 0 137], [LoopG Try.prog 5 (loopAt Try.f147 0) ⟨53, [(13, .p (.int .i64 0)), (12, .p (.int .i64 ((l).length : Int))), (11, .p (.lst x 137 l)), (5, .ptr 5 0), (0, .ptr 0 0)], (qB3 us ms ns vs)⟩ (.exit 0) ⟨53, [], [.box (.agg [.row 3 0 (.lst false 137 us), .map 1]), .map mt, .map ns, .row 0 137, .row 0 137]⟩]) := by kernel_rfl
theorem stRSRR (l us vs : List T) (ms mt ns : List (T × T)) (x : Bool): topK (Cd [] []) 30 147 [.box (.agg [.row 3 0 (.lst false 137 us), .map 1]), .map ms, .map ns, .row 0 137, .row 0 137] [.ptr 0 0, .p (.lst x 137 l), .agg [.row 4 0 (.lst false 137 vs), .map 2]] [] [some ([0, 5, 11, 12, 13], .ret, ⟨53, [(6, .p (.bool false))], [.box (.agg [.row 3 0 (.lst false 137 us), .map 1]), .map mt, .map ns, .row 0 137, .row 0 137]⟩)] [] [] [] = some ([.p (.bool false)], [.box (.agg [.row 3 0 (.lst false 137 us), .map 1]), .map mt, .map ns, .row 0 137, .row 0 137], [LoopG Try.prog 5 (loopAt Try.f147 0) ⟨53, [(13, .p (.int .i64 0)), (12, .p (.int .i64 ((l).length : Int))), (11, .p (.lst x 137 l)), (5, .ptr 5 0), (0, .ptr 0 0)], (qB3 us ms ns vs)⟩ (.ret) ⟨53, [(6, .p (.bool false))], [.box (.agg [.row 3 0 (.lst false 137 us), .map 1]), .map mt, .map ns, .row 0 137, .row 0 137]⟩]) := by kernel_rfl
def eP (q : Int × Int) : T × T := (.int .i64 q.1, .int .i64 q.2)
def hasK (ms : List (Int × Int)) (k : Int) : Bool := ms.any fun q => k == q.1
theorem fits_i (u : Int) : fits Try.prog 10 3 (.int .i64 u) = true := by kernel_rfl
theorem keys_i : ∀ L : List (Int × Int), keysOk Try.prog 3 (L.map eP) = true
 | [] => rfl
 | q :: L => by simp only [List.map_cons, eP, keysOk, fits_i, Bool.true_and]; exact keys_i L
theorem fk_i (u : Int) (L : List (Int × Int)) : (fits Try.prog 10 3 (.int .i64 u) && keysOk Try.prog 3 (L.map eP)) = true := by rw [fits_i, keys_i]; rfl
theorem eq_i (a b : Int) : T.eqB (.int .i64 a) (.int .i64 b) = (a == b) := by simp [T.eqB]
theorem find_no (k : Int) : ∀ (L : List (Int × Int)) (i : Nat), hasK L k = false → findT (.int .i64 k) (L.map eP) i = none
 | [], _, _ => rfl
 | q :: L, i, h => by
  simp only [hasK, List.any_cons, Bool.or_eq_false_iff] at h
  simp only [List.map_cons, eP, findT, eq_i, h.1, Bool.false_eq_true, if_false]
  exact find_no k L (i + 1) h.2
theorem find_yes (k : Int) : ∀ (L : List (Int × Int)) (i : Nat), hasK L k = true → ∃ j v, findT (.int .i64 k) (L.map eP) i = some (j, .int .i64 v)
 | [], _, h => by cases h
 | q :: L, i, h => by
  simp only [hasK, List.any_cons] at h
  simp only [List.map_cons, eP, findT, eq_i]
  cases e : (k == q.1) with
  | true => exact ⟨i, q.2, by simp⟩
  | false =>
   rw [e, Bool.false_or] at h
   obtain ⟨j, v, hj⟩ := find_yes k L (i + 1) h
   exact ⟨j, v, by simpa [eP] using hj⟩
def stl (B : Int) : List Msg → List (Int × Int) → Option (List (Int × Int))
 | [], ms => some ms
 | m :: r, ms => bif m.kd == 1 then stl B r ms else bif hasK ms m.id then none else bif decide (m.id < 0) || decide (m.id ≥ B) then none else stl B r (ms ++ [(m.id, m.kd)])
def SRR (us vs : List T) (ms ns : List (T × T)) : List SObj := [.box (.agg [.row 3 0 (.lst false 137 us), .map 1]), .map ms, .map ns, .row 0 137, .row 0 137]
def LRR (l us vs : List T) (ms ns : List (T × T)) (x : Bool) (i : Int) : St := ⟨53, [(0, .ptr 0 0), (5, .ptr 5 0), (11, .p (.lst x 137 l)), (12, .p (.int .i64 ((l).length : Int))), (13, .p (.int .i64 i))], [.box (.agg [.row 3 0 (.lst false 137 us), .map 1]), .map ms, .map ns, .row 0 137, .row 0 137, .box (.agg [.row 4 0 (.lst false 137 vs), .map 2])]⟩
theorem stroundRR (l : List Msg) (us vs : List T) (ms : List (Int × Int)) (ns : List (T × T)) (x : Bool) (i : Int) (m : Msg) (hx : 0 ≤ i ∧ (l.map Msg.t)[i.toNat]? = some m.t) (hlt : i < l.length) (hi : i < 9223372036854775807) :
  ((m.kd == 1) = true ∧ CodeG Try.prog 5 (loopAt Try.f147 0) (LRR (l.map Msg.t) us vs (ms.map eP) ns x i) .normal (LRR (l.map Msg.t) us vs (ms.map eP) ns x (i + 1))) ∨
  ((m.kd == 1) = false ∧ (hasK ms m.id = true ∨ (hasK ms m.id = false ∧ (decide (m.id < 0) || decide (m.id ≥ ((vs).length : Int))) = true)) ∧ CodeG Try.prog 5 (loopAt Try.f147 0) (LRR (l.map Msg.t) us vs (ms.map eP) ns x i) .ret ⟨53, [(6, .p (.bool false))], SRR us vs (ms.map eP) ns⟩) ∨
  ((m.kd == 1) = false ∧ hasK ms m.id = false ∧ (decide (m.id < 0) || decide (m.id ≥ ((vs).length : Int))) = false ∧ CodeG Try.prog 5 (loopAt Try.f147 0) (LRR (l.map Msg.t) us vs (ms.map eP) ns x i) .normal (LRR (l.map Msg.t) us vs ((ms ++ [(m.id, m.kd)]).map eP) ns x (i + 1))) := by
 have hlt' : decide (i < ((l.map Msg.t).length : Int)) = true := by simpa using hlt
 have wi : IntKind.i64.wrap (i + 1) = i + 1 := w64 (by omega) (by omega)
 have hfk := fk_i m.id ms
 cases hk : hasK ms m.id with
 | true =>
  cases c0 : (m.kd == 1) with
  | false =>
   obtain ⟨j, v, hf⟩ := find_yes m.id ms 0 hk
   exact .inr (.inl ⟨rfl, .inl rfl, CodeG.normE (bodyK_sound (Cd_ok _ _) (stHSRR m i (l.map Msg.t) us vs (ms.map eP) ns x j v) ⟨hfk, hf, c0, hx, hlt', trivial⟩) (by omega) (by omega) [6] (m := 5) (k := 5) (by kernel_rfl)⟩)
  | true =>
   have r := CodeG.normE (bodyK_sound (Cd_ok _ _) (stMSRR_2 m i (l.map Msg.t) us vs (ms.map eP) ns x) ⟨c0, hx, hlt', trivial⟩) (by omega) (by omega) [0, 5, 11, 12, 13] (m := 5) (k := 6) (st2 := LRR (l.map Msg.t) us vs (ms.map eP) ns x (IntKind.i64.wrap (i + 1))) (by kernel_rfl)
   rw [wi] at r
   exact .inl ⟨rfl, r⟩
 | false =>
  have hf := find_no m.id ms 0 hk
  cases c0 : (m.kd == 1) with
  | true =>
   have r := CodeG.normE (bodyK_sound (Cd_ok _ _) (stMSRR_2 m i (l.map Msg.t) us vs (ms.map eP) ns x) ⟨c0, hx, hlt', trivial⟩) (by omega) (by omega) [0, 5, 11, 12, 13] (m := 5) (k := 6) (st2 := LRR (l.map Msg.t) us vs (ms.map eP) ns x (IntKind.i64.wrap (i + 1))) (by kernel_rfl)
   rw [wi] at r
   exact .inl ⟨rfl, r⟩
  | false =>
   cases c1 : decide (m.id < 0) with
   | true =>
    exact .inr (.inl ⟨rfl, .inr ⟨rfl, by simp only [c0, c1, Bool.or_true, Bool.true_or, Bool.or_false, Bool.false_or]⟩, CodeG.normE (bodyK_sound (Cd_ok _ _) (stMSRR_3 m i (l.map Msg.t) us vs (ms.map eP) ns x) ⟨c1, hfk, hf, c0, hx, hlt', trivial⟩) (by omega) (by omega) [6] (m := 5) (k := 5) (by kernel_rfl)⟩)
   | false =>
    cases c2 : decide (m.id ≥ ((vs).length : Int)) with
    | true =>
     exact .inr (.inl ⟨rfl, .inr ⟨rfl, by simp only [c0, c1, c2, Bool.or_true, Bool.true_or, Bool.or_false, Bool.false_or]⟩, CodeG.normE (bodyK_sound (Cd_ok _ _) (stMSRR_4 m i (l.map Msg.t) us vs (ms.map eP) ns x) ⟨c2, c1, hfk, hf, c0, hx, hlt', trivial⟩) (by omega) (by omega) [6] (m := 5) (k := 5) (by kernel_rfl)⟩)
    | false =>
     have r := CodeG.normE (bodyK_sound (Cd_ok _ _) (stMSRR_0 m i (l.map Msg.t) us vs (ms.map eP) ns x) ⟨hfk, hf, c2, c1, hfk, hf, c0, hx, hlt', trivial⟩) (by omega) (by omega) [0, 5, 11, 12, 13] (m := 5) (k := 6) (st2 := LRR (l.map Msg.t) us vs (ms.map eP ++ [(.int .i64 m.id, .int .i64 m.kd)]) ns x (IntKind.i64.wrap (i + 1))) (by kernel_rfl)
     rw [wi] at r
     rw [show ms.map eP ++ [(T.int .i64 m.id, T.int .i64 m.kd)] = (ms ++ [(m.id, m.kd)]).map eP by simp [eP]] at r
     exact .inr (.inr ⟨rfl, rfl, by simp only [c0, c1, c2, Bool.or_self], r⟩)
theorem st_loopRR (l : List Msg) (us vs : List T) (ns : List (T × T)) (x : Bool) (hl : l.length * 232 ≤ 140737488355328) : ∀ (r pre : List Msg) (ms : List (Int × Int)), l = pre ++ r →
  match stl ((vs).length : Int) r ms with
  | some mt => LoopG Try.prog 5 (loopAt Try.f147 0) (LRR (l.map Msg.t) us vs (ms.map eP) ns x (pre.length : Int)) (.exit 0) ⟨53, [], SRR us vs (mt.map eP) ns⟩
  | none => ∃ mt : List (Int × Int), LoopG Try.prog 5 (loopAt Try.f147 0) (LRR (l.map Msg.t) us vs (ms.map eP) ns x (pre.length : Int)) .ret ⟨53, [(6, .p (.bool false))], SRR us vs (mt.map eP) ns⟩
 | [], pre, ms, he => by
  have hp : pre = l := by rw [he]; simp
  simp only [stl]
  rw [hp]
  exact LoopG.leave (CodeG.normE (bodyK_sound (Cd_ok _ _) (stMSRR_1 m0 (l.length : Int) (l.map Msg.t) us vs (ms.map eP) ns x) ⟨by simp, trivial⟩) (by omega) (by omega) [] (m := 5) (k := 5) (by kernel_rfl)) rfl
 | m :: r, pre, ms, he => by
  have hlen : pre.length + (r.length + 1) = l.length := by rw [he]; simp
  have hx : (0 : Int) ≤ (pre.length : Int) ∧ (l.map Msg.t)[((pre.length : Int)).toNat]? = some m.t := ⟨by omega, by rw [he]; simp⟩
  have ih1 := st_loopRR l us vs ns x hl r (pre ++ [m]) ms (by rw [he]; simp)
  have ih2 := st_loopRR l us vs ns x hl r (pre ++ [m]) (ms ++ [(m.id, m.kd)]) (by rw [he]; simp)
  rw [show (((pre ++ [m]).length : Nat) : Int) = (pre.length : Int) + 1 by simp] at ih1 ih2
  simp only [stl]
  rcases stroundRR l us vs ms ns x (pre.length : Int) m hx (by omega) (by omega) with ⟨k1, k3⟩ | ⟨k1, k2, k3⟩ | ⟨k1, k2, k2', k3⟩
  ·rw [k1]
   simp only [cond_true]
   revert ih1
   cases stl ((vs).length : Int) r ms with
   | some mt => exact fun ih => LoopG.next k3 ih
   | none => exact fun ⟨mt, ih⟩ => ⟨mt, LoopG.next k3 ih⟩
  ·rcases k2 with k2 | ⟨k2, k2'⟩
   ·rw [k1, k2]; exact ⟨ms, LoopG.leave k3 rfl⟩
   ·rw [k1, k2, k2']; exact ⟨ms, LoopG.leave k3 rfl⟩
  ·rw [k1, k2, k2']
   simp only [cond_false]
   revert ih2
   cases stl ((vs).length : Int) r (ms ++ [(m.id, m.kd)]) with
   | some mt => exact fun ih => LoopG.next k3 ih
   | none => exact fun ⟨mt, ih⟩ => ⟨mt, LoopG.next k3 ih⟩
theorem settleRR (l : List Msg) (us vs : List T) (ms : List (Int × Int)) (ns : List (T × T)) (x : Bool) (hl : l.length * 232 ≤ 140737488355328) :
  match stl ((vs).length : Int) l ms with
  | some mt => GCall Try.prog 147 (SRR us vs (ms.map eP) ns) [.ptr 0 0, .p (.lst x 137 (l.map Msg.t)), .agg [.row 4 0 (.lst false 137 vs), .map 2]] (SRR us vs (mt.map eP) ns) [.rb true]
  | none => ∃ mt : List (Int × Int), GCall Try.prog 147 (SRR us vs (ms.map eP) ns) [.ptr 0 0, .p (.lst x 137 (l.map Msg.t)), .agg [.row 4 0 (.lst false 137 vs), .map 2]] (SRR us vs (mt.map eP) ns) [.p (.bool false)] := by
 have h := st_loopRR l us vs ns x hl l [] ms rfl
 revert h
 cases stl ((vs).length : Int) l ms with
 | some mt => exact fun h => topK_sound (Cd_ok _ _) (stTSRR (l.map Msg.t) us vs (ms.map eP) (mt.map eP) ns x) ⟨LoopG.preE (by omega) (by omega) [0, 5, 11, 12, 13] (m := 5) (k := 6) (by kernel_rfl) h, trivial⟩
 | none => exact fun ⟨mt, h⟩ => ⟨mt, topK_sound (Cd_ok _ _) (stRSRR (l.map Msg.t) us vs (ms.map eP) (mt.map eP) ns x) ⟨LoopG.preE (by omega) (by omega) [0, 5, 11, 12, 13] (m := 5) (k := 6) (by kernel_rfl) h, trivial⟩⟩
end Go.HM.Up
set_option maxRecDepth 100000
namespace Go.HM.Up
open Go.Proofs
def qC0 (ms ns : List (T × T)) (us vs hs : List T) (wh : Int) (m : Msg) (pd nn : Int) (g : Msg) : List SObj := [.map ms, .map ns, .row 0 137, .row 0 137, .box (.agg [.row 2 0 (.lst false 137 us), .map 0]), .box (.agg [.row 3 0 (.lst false 137 vs), .map 1]), .box (.p (.agg [.lst true 36 [], .int .i64 0, .int .i64 0])), .box (.agg [.row 9 1 (.lst false 36 (hs ++ [.agg [.int .i64 wh, .int .i64 m.id, .int .i64 m.am, .ba 32 (m.hh), .int .i64 m.ex]])), .p (.int .i64 pd), .p (.int .i64 nn)]), .box (.p ((g.t))), .row 1 36, .box (.p ((m.t)))]
def qC1 (ms ns : List (T × T)) (us hs : List T) (wh : Int) (m : Msg) (pd nn : Int) (g : Msg) : List SObj := [.map ms, .map ns, .row 0 137, .box (.agg [.row 2 0 (.lst false 137 us), .map 0]), .box (.agg [.p (.lst true 137 []), .map 1]), .box (.p (.agg [.lst true 36 [], .int .i64 0, .int .i64 0])), .box (.agg [.row 8 1 (.lst false 36 (hs ++ [.agg [.int .i64 wh, .int .i64 m.id, .int .i64 m.am, .ba 32 (m.hh), .int .i64 m.ex]])), .p (.int .i64 pd), .p (.int .i64 nn)]), .box (.p ((g.t))), .row 1 36, .box (.p ((m.t)))]
def qC2 (ms ns : List (T × T)) (us vs : List T) (wh : Int) (m : Msg) (pd nn : Int) : List SObj := [.map ms, .map ns, .row 0 137, .row 0 137, .box (.agg [.row 2 0 (.lst false 137 us), .map 0]), .box (.agg [.row 3 0 (.lst false 137 vs), .map 1]), .box (.p (.agg [.lst true 36 [], .int .i64 0, .int .i64 0])), .box (.agg [.row 9 0 (.lst false 36 [.agg [.int .i64 wh, .int .i64 m.id, .int .i64 m.am, .ba 32 (m.hh), .int .i64 m.ex]]), .p (.int .i64 pd), .p (.int .i64 nn)]), .box (.p ((m.t))), .row 0 36]
def qC3 (ms ns : List (T × T)) (us : List T) (wh : Int) (m : Msg) (pd nn : Int) : List SObj := [.map ms, .map ns, .row 0 137, .box (.agg [.row 2 0 (.lst false 137 us), .map 0]), .box (.agg [.p (.lst true 137 []), .map 1]), .box (.p (.agg [.lst true 36 [], .int .i64 0, .int .i64 0])), .box (.agg [.row 8 0 (.lst false 36 [.agg [.int .i64 wh, .int .i64 m.id, .int .i64 m.am, .ba 32 (m.hh), .int .i64 m.ex]]), .p (.int .i64 pd), .p (.int .i64 nn)]), .box (.p ((m.t))), .row 0 36]
def qC4 (ms ns : List (T × T)) (us vs hs : List T) (pd al : Int) (g m : Msg) : List SObj := [.map ms, .map ns, .row 0 137, .row 0 137, .box (.agg [.row 2 0 (.lst false 137 us), .map 0]), .box (.agg [.row 3 0 (.lst false 137 vs), .map 1]), .box (.p (.agg [.lst true 36 [], .int .i64 0, .int .i64 0])), .box (.agg [.row 9 0 (.lst false 36 hs), .p (.int .i64 pd), .p (.int .i64 al)]), .box (.p ((g.t))), .row 0 36, .box (.p ((m.t)))]
def qC5 (ms ns : List (T × T)) (us hs : List T) (pd al : Int) (g m : Msg) : List SObj := [.map ms, .map ns, .row 0 137, .box (.agg [.row 2 0 (.lst false 137 us), .map 0]), .box (.agg [.p (.lst true 137 []), .map 1]), .box (.p (.agg [.lst true 36 [], .int .i64 0, .int .i64 0])), .box (.agg [.row 8 0 (.lst false 36 hs), .p (.int .i64 pd), .p (.int .i64 al)]), .box (.p ((g.t))), .row 0 36, .box (.p ((m.t)))]
def qC6 (ms ns : List (T × T)) (us vs hs : List T) (pd al : Int) (g : Msg) : List SObj := [.map ms, .map ns, .row 0 137, .row 0 137, .box (.agg [.row 2 0 (.lst false 137 us), .map 0]), .box (.agg [.row 3 0 (.lst false 137 vs), .map 1]), .box (.p (.agg [.lst true 36 [], .int .i64 0, .int .i64 0])), .box (.agg [.row 9 0 (.lst false 36 hs), .p (.int .i64 pd), .p (.int .i64 al)]), .box (.p ((g.t))), .row 0 36]
def qC7 (ms ns : List (T × T)) (us hs : List T) (pd al : Int) (g : Msg) : List SObj := [.map ms, .map ns, .row 0 137, .box (.agg [.row 2 0 (.lst false 137 us), .map 0]), .box (.agg [.p (.lst true 137 []), .map 1]), .box (.p (.agg [.lst true 36 [], .int .i64 0, .int .i64 0])), .box (.agg [.row 8 0 (.lst false 36 hs), .p (.int .i64 pd), .p (.int .i64 al)]), .box (.p ((g.t))), .row 0 36]
def qC8 (ms ns : List (T × T)) (us vs : List T) (pd al : Int) (m : Msg) : List SObj := [.map ms, .map ns, .row 0 137, .row 0 137, .box (.agg [.row 2 0 (.lst false 137 us), .map 0]), .box (.agg [.row 3 0 (.lst false 137 vs), .map 1]), .box (.p (.agg [.lst true 36 [], .int .i64 0, .int .i64 0])), .box (.p (.agg [.lst true 36 [], .int .i64 pd, .int .i64 al])), .box (.p ((m.t)))]
def qC9 (ms ns : List (T × T)) (us : List T) (pd al : Int) (m : Msg) : List SObj := [.map ms, .map ns, .row 0 137, .box (.agg [.row 2 0 (.lst false 137 us), .map 0]), .box (.agg [.p (.lst true 137 []), .map 1]), .box (.p (.agg [.lst true 36 [], .int .i64 0, .int .i64 0])), .box (.p (.agg [.lst true 36 [], .int .i64 pd, .int .i64 al])), .box (.p ((m.t)))]
def qC10 (ms ns : List (T × T)) (us vs : List T) (pd al : Int) : List SObj := [.map ms, .map ns, .row 0 137, .row 0 137, .box (.agg [.row 2 0 (.lst false 137 us), .map 0]), .box (.agg [.row 3 0 (.lst false 137 vs), .map 1]), .box (.p (.agg [.lst true 36 [], .int .i64 0, .int .i64 0])), .box (.p (.agg [.lst true 36 [], .int .i64 pd, .int .i64 al]))]
def qC11 (ms ns : List (T × T)) (us vs : List T) : List SObj := [.map ms, .map ns, .row 0 137, .row 0 137, .box (.agg [.row 2 0 (.lst false 137 us), .map 0]), .box (.agg [.row 3 0 (.lst false 137 vs), .map 1]), .box (.p (.agg [.lst true 36 [], .int .i64 0, .int .i64 0])), .box (.p (.agg [.lst true 36 [], .int .i64 0, .int .i64 0]))]
def qC12 (ms ns : List (T × T)) (us : List T) (pd al : Int) : List SObj := [.map ms, .map ns, .row 0 137, .box (.agg [.row 2 0 (.lst false 137 us), .map 0]), .box (.agg [.p (.lst true 137 []), .map 1]), .box (.p (.agg [.lst true 36 [], .int .i64 0, .int .i64 0])), .box (.p (.agg [.lst true 36 [], .int .i64 pd, .int .i64 al]))]
def qC13 (ms ns : List (T × T)) (us : List T) : List SObj := [.map ms, .map ns, .row 0 137, .box (.agg [.row 2 0 (.lst false 137 us), .map 0]), .box (.agg [.p (.lst true 137 []), .map 1]), .box (.p (.agg [.lst true 36 [], .int .i64 0, .int .i64 0])), .box (.p (.agg [.lst true 36 [], .int .i64 0, .int .i64 0]))]
def qC14 (ms ns : List (T × T)) (us vs : List T) : List SObj := [.map ms, .map ns, .row 0 137, .row 0 137, .box (.agg [.row 2 0 (.lst false 137 us), .map 0]), .box (.agg [.row 3 0 (.lst false 137 vs), .map 1]), .box (.p (.agg [.lst true 36 [], .int .i64 0, .int .i64 0]))]
def qC15 (ms ns : List (T × T)) (us : List T) : List SObj := [.map ms, .map ns, .row 0 137, .box (.agg [.row 2 0 (.lst false 137 us), .map 0]), .box (.agg [.p (.lst true 137 []), .map 1]), .box (.p (.agg [.lst true 36 [], .int .i64 0, .int .i64 0]))]
theorem ofPORRM_0 (m : Msg) (pd al i nn ee : Int) (us vs : List T) (ms ns : List (T × T)) (wh : Int): bodyK (Cd [((89, 16), m.t)] [71]) 30 148 4 (loopAt Try.f148 0) ⟨67, [(2, .p (.int .i64 wh)), (4, .ptr 5 0), (6, .ptr 6 0), (8, .ptr 7 0), (16, .row 2 0 (.lst false 137 us)), (17, .p (.int .i64 ((us).length : Int))), (18, .p (.int .i64 i))], (qC10 ms ns us vs pd al)⟩ [(0, true), (1, false)] [] [2, 4, 6, 7, 8, 16, 17, 18] [] [[.int .i64 nn, .int .i64 ee]] [.miss] = some (.normal, ⟨67, [(18, .p (.int .i64 (IntKind.i64.wrap (i + 1)))), (17, .p (.int .i64 ((us).length : Int))), (2, .p (.int .i64 wh)), (4, .ptr 5 0), (16, .row 2 0 (.lst false 137 us)), (8, .ptr 7 0), (6, .ptr 6 0)], (qC2 ms ns us vs wh m pd nn)⟩, [(0 + 1 ≤ 4294967296 ∨ (0 + 1 ≤ 9223372036854775807 ∧ (0 + 1) * 64 ≤ 140737488355328)), (ee != 0) = false, PCall Try.prog 71 [.int .i64 al, .int .i64 m.am] [.int .i64 nn, .int .i64 ee], (fits Try.prog 10 3 (.int .i64 m.id) && keysOk Try.prog 3 ns) = true, findT (.int .i64 m.id) ns 0 = none, (0 : Int) ≤ i ∧ us[(i : Int).toNat]? = some ((m.t)), decide (i < ((us).length : Int)) = true]) := by kernel_rfl
theorem ofPORRM_1 (m : Msg) (pd al i nn ee : Int) (us vs : List T) (ms ns : List (T × T)) (wh : Int): bodyK (Cd [((89, 16), m.t)] [71]) 30 148 4 (loopAt Try.f148 0) ⟨67, [(2, .p (.int .i64 wh)), (4, .ptr 5 0), (6, .ptr 6 0), (8, .ptr 7 0), (16, .row 2 0 (.lst false 137 us)), (17, .p (.int .i64 ((us).length : Int))), (18, .p (.int .i64 i))], (qC10 ms ns us vs pd al)⟩ [(0, false)] [] [2, 4, 6, 7, 8, 16, 17, 18] [] [[.int .i64 nn, .int .i64 ee]] [.miss] = some (.exit 0, ⟨67, [(17, .p (.int .i64 ((us).length : Int))), (18, .p (.int .i64 i)), (2, .p (.int .i64 wh)), (4, .ptr 5 0), (16, .row 2 0 (.lst false 137 us)), (8, .ptr 7 0), (6, .ptr 6 0)], (qC10 ms ns us vs pd al)⟩, [decide (i < ((us).length : Int)) = false]) := by kernel_rfl
theorem ofPORRM_2 (m : Msg) (pd al i nn ee : Int) (us vs : List T) (ms ns : List (T × T)) (wh : Int): bodyK (Cd [((89, 16), m.t)] [71]) 30 148 4 (loopAt Try.f148 0) ⟨67, [(2, .p (.int .i64 wh)), (4, .ptr 5 0), (6, .ptr 6 0), (8, .ptr 7 0), (16, .row 2 0 (.lst false 137 us)), (17, .p (.int .i64 ((us).length : Int))), (18, .p (.int .i64 i))], (qC10 ms ns us vs pd al)⟩ [(0, true), (1, true)] [] [2, 4, 6, 7, 8, 16, 17, 18] [] [[.int .i64 nn, .int .i64 ee]] [.miss] = some (.ret, ⟨67, [(7, .p (.int .i64 20)), (6, .ptr 6 0)], (qC8 ms ns us vs pd al m)⟩, [(ee != 0) = true, PCall Try.prog 71 [.int .i64 al, .int .i64 m.am] [.int .i64 nn, .int .i64 ee], (fits Try.prog 10 3 (.int .i64 m.id) && keysOk Try.prog 3 ns) = true, findT (.int .i64 m.id) ns 0 = none, (0 : Int) ≤ i ∧ us[(i : Int).toNat]? = some ((m.t)), decide (i < ((us).length : Int)) = true]) := by kernel_rfl
theorem ofPORRH_0 (m : Msg) (pd al i nn ee : Int) (us vs : List T) (ms ns : List (T × T)) (wh : Int) (j : Nat) (hk : Int): bodyK (Cd [((89, 16), m.t)] [71]) 30 148 4 (loopAt Try.f148 0) ⟨67, [(2, .p (.int .i64 wh)), (4, .ptr 5 0), (6, .ptr 6 0), (8, .ptr 7 0), (16, .row 2 0 (.lst false 137 us)), (17, .p (.int .i64 ((us).length : Int))), (18, .p (.int .i64 i))], (qC10 ms ns us vs pd al)⟩ [(0, true), (0, false), (0, false), (0, true)] [] [2, 4, 6, 7, 8, 16, 17, 18] [] [[.int .i64 nn, .int .i64 ee]] [.hit j (.int .i64 hk)] = some (.normal, ⟨67, [(18, .p (.int .i64 (IntKind.i64.wrap (i + 1)))), (17, .p (.int .i64 ((us).length : Int))), (2, .p (.int .i64 wh)), (4, .ptr 5 0), (16, .row 2 0 (.lst false 137 us)), (8, .ptr 7 0), (6, .ptr 6 0)], [.map ms, .map ns, .row 0 137, .row 0 137, .box (.agg [.row 2 0 (.lst false 137 us), .map 0]), .box (.agg [.row 3 0 (.lst false 137 vs), .map 1]), .box (.p (.agg [.lst true 36 [], .int .i64 0, .int .i64 0])), .box (.p (.agg [.lst true 36 [], .int .i64 (IntKind.i64.wrap (pd + m.am)), .int .i64 nn])), .box (.p ((m.t)))]⟩, [(hk == 2) = true, (ee != 0) = false, PCall Try.prog 71 [.int .i64 al, .int .i64 m.am] [.int .i64 nn, .int .i64 ee], (hk == 3) = false, (fits Try.prog 10 3 (.int .i64 m.id) && keysOk Try.prog 3 ns) = true, findT (.int .i64 m.id) ns 0 = some (j, .int .i64 hk), (0 : Int) ≤ i ∧ us[(i : Int).toNat]? = some ((m.t)), decide (i < ((us).length : Int)) = true]) := by kernel_rfl
theorem ofPORRH_2 (m : Msg) (pd al i nn ee : Int) (us vs : List T) (ms ns : List (T × T)) (wh : Int) (j : Nat) (hk : Int): bodyK (Cd [((89, 16), m.t)] [71]) 30 148 4 (loopAt Try.f148 0) ⟨67, [(2, .p (.int .i64 wh)), (4, .ptr 5 0), (6, .ptr 6 0), (8, .ptr 7 0), (16, .row 2 0 (.lst false 137 us)), (17, .p (.int .i64 ((us).length : Int))), (18, .p (.int .i64 i))], (qC10 ms ns us vs pd al)⟩ [(0, true), (0, true)] [] [2, 4, 6, 7, 8, 16, 17, 18] [] [[.int .i64 nn, .int .i64 ee]] [.hit j (.int .i64 hk)] = some (.normal, ⟨67, [(18, .p (.int .i64 (IntKind.i64.wrap (i + 1)))), (17, .p (.int .i64 ((us).length : Int))), (2, .p (.int .i64 wh)), (4, .ptr 5 0), (16, .row 2 0 (.lst false 137 us)), (8, .ptr 7 0), (6, .ptr 6 0)], (qC8 ms ns us vs pd al m)⟩, [(hk == 3) = true, (fits Try.prog 10 3 (.int .i64 m.id) && keysOk Try.prog 3 ns) = true, findT (.int .i64 m.id) ns 0 = some (j, .int .i64 hk), (0 : Int) ≤ i ∧ us[(i : Int).toNat]? = some ((m.t)), decide (i < ((us).length : Int)) = true]) := by kernel_rfl
theorem ofPORRH_3 (m : Msg) (pd al i nn ee : Int) (us vs : List T) (ms ns : List (T × T)) (wh : Int) (j : Nat) (hk : Int): bodyK (Cd [((89, 16), m.t)] [71]) 30 148 4 (loopAt Try.f148 0) ⟨67, [(2, .p (.int .i64 wh)), (4, .ptr 5 0), (6, .ptr 6 0), (8, .ptr 7 0), (16, .row 2 0 (.lst false 137 us)), (17, .p (.int .i64 ((us).length : Int))), (18, .p (.int .i64 i))], (qC10 ms ns us vs pd al)⟩ [(0, true), (0, false), (0, true)] [] [2, 4, 6, 7, 8, 16, 17, 18] [] [[.int .i64 nn, .int .i64 ee]] [.hit j (.int .i64 hk)] = some (.ret, ⟨67, [(7, .p (.int .i64 20)), (6, .ptr 6 0)], (qC8 ms ns us vs pd al m)⟩, [(ee != 0) = true, PCall Try.prog 71 [.int .i64 al, .int .i64 m.am] [.int .i64 nn, .int .i64 ee], (hk == 3) = false, (fits Try.prog 10 3 (.int .i64 m.id) && keysOk Try.prog 3 ns) = true, findT (.int .i64 m.id) ns 0 = some (j, .int .i64 hk), (0 : Int) ≤ i ∧ us[(i : Int).toNat]? = some ((m.t)), decide (i < ((us).length : Int)) = true]) := by kernel_rfl
theorem ofPORRH_4 (m : Msg) (pd al i nn ee : Int) (us vs : List T) (ms ns : List (T × T)) (wh : Int) (j : Nat) (hk : Int): bodyK (Cd [((89, 16), m.t)] [71]) 30 148 4 (loopAt Try.f148 0) ⟨67, [(2, .p (.int .i64 wh)), (4, .ptr 5 0), (6, .ptr 6 0), (8, .ptr 7 0), (16, .row 2 0 (.lst false 137 us)), (17, .p (.int .i64 ((us).length : Int))), (18, .p (.int .i64 i))], (qC10 ms ns us vs pd al)⟩ [(0, true), (0, false), (0, false), (0, false)] [] [2, 4, 6, 7, 8, 16, 17, 18] [] [[.int .i64 nn, .int .i64 ee]] [.hit j (.int .i64 hk)] = some (.normal, ⟨67, [(18, .p (.int .i64 (IntKind.i64.wrap (i + 1)))), (17, .p (.int .i64 ((us).length : Int))), (2, .p (.int .i64 wh)), (4, .ptr 5 0), (16, .row 2 0 (.lst false 137 us)), (8, .ptr 7 0), (6, .ptr 6 0)], (qC2 ms ns us vs wh m pd nn)⟩, [(0 + 1 ≤ 4294967296 ∨ (0 + 1 ≤ 9223372036854775807 ∧ (0 + 1) * 64 ≤ 140737488355328)), (hk == 2) = false, (ee != 0) = false, PCall Try.prog 71 [.int .i64 al, .int .i64 m.am] [.int .i64 nn, .int .i64 ee], (hk == 3) = false, (fits Try.prog 10 3 (.int .i64 m.id) && keysOk Try.prog 3 ns) = true, findT (.int .i64 m.id) ns 0 = some (j, .int .i64 hk), (0 : Int) ≤ i ∧ us[(i : Int).toNat]? = some ((m.t)), decide (i < ((us).length : Int)) = true]) := by kernel_rfl
theorem ofQORRM_0 (m : Msg) (pd al i nn ee : Int) (us vs : List T) (ms ns : List (T × T)) (wh : Int) (hs : List T) (g : Msg): bodyK (Cd [((89, 16), m.t)] [71]) 30 148 4 (loopAt Try.f148 0) ⟨67, [(2, .p (.int .i64 wh)), (4, .ptr 5 0), (6, .ptr 6 0), (8, .ptr 7 0), (16, .row 2 0 (.lst false 137 us)), (17, .p (.int .i64 ((us).length : Int))), (18, .p (.int .i64 i))], (qC6 ms ns us vs hs pd al g)⟩ [(0, true), (1, false)] [] [2, 4, 6, 7, 8, 16, 17, 18] [] [[.int .i64 nn, .int .i64 ee]] [.miss] = some (.normal, ⟨67, [(18, .p (.int .i64 (IntKind.i64.wrap (i + 1)))), (17, .p (.int .i64 ((us).length : Int))), (2, .p (.int .i64 wh)), (4, .ptr 5 0), (16, .row 2 0 (.lst false 137 us)), (8, .ptr 7 0), (6, .ptr 6 0)], (qC0 ms ns us vs hs wh m pd nn g)⟩, [((hs).length + 1 ≤ 4294967296 ∨ ((hs).length + 1 ≤ 9223372036854775807 ∧ ((hs).length + 1) * 64 ≤ 140737488355328)), (ee != 0) = false, PCall Try.prog 71 [.int .i64 al, .int .i64 m.am] [.int .i64 nn, .int .i64 ee], (fits Try.prog 10 3 (.int .i64 m.id) && keysOk Try.prog 3 ns) = true, findT (.int .i64 m.id) ns 0 = none, (0 : Int) ≤ i ∧ us[(i : Int).toNat]? = some ((m.t)), decide (i < ((us).length : Int)) = true]) := by kernel_rfl
theorem ofQORRM_1 (m : Msg) (pd al i nn ee : Int) (us vs : List T) (ms ns : List (T × T)) (wh : Int) (hs : List T) (g : Msg): bodyK (Cd [((89, 16), m.t)] [71]) 30 148 4 (loopAt Try.f148 0) ⟨67, [(2, .p (.int .i64 wh)), (4, .ptr 5 0), (6, .ptr 6 0), (8, .ptr 7 0), (16, .row 2 0 (.lst false 137 us)), (17, .p (.int .i64 ((us).length : Int))), (18, .p (.int .i64 i))], (qC6 ms ns us vs hs pd al g)⟩ [(0, false)] [] [2, 4, 6, 7, 8, 16, 17, 18] [] [[.int .i64 nn, .int .i64 ee]] [.miss] = some (.exit 0, ⟨67, [(17, .p (.int .i64 ((us).length : Int))), (18, .p (.int .i64 i)), (2, .p (.int .i64 wh)), (4, .ptr 5 0), (16, .row 2 0 (.lst false 137 us)), (8, .ptr 7 0), (6, .ptr 6 0)], (qC6 ms ns us vs hs pd al g)⟩, [decide (i < ((us).length : Int)) = false]) := by kernel_rfl
theorem ofQORRM_2 (m : Msg) (pd al i nn ee : Int) (us vs : List T) (ms ns : List (T × T)) (wh : Int) (hs : List T) (g : Msg): bodyK (Cd [((89, 16), m.t)] [71]) 30 148 4 (loopAt Try.f148 0) ⟨67, [(2, .p (.int .i64 wh)), (4, .ptr 5 0), (6, .ptr 6 0), (8, .ptr 7 0), (16, .row 2 0 (.lst false 137 us)), (17, .p (.int .i64 ((us).length : Int))), (18, .p (.int .i64 i))], (qC6 ms ns us vs hs pd al g)⟩ [(0, true), (1, true)] [] [2, 4, 6, 7, 8, 16, 17, 18] [] [[.int .i64 nn, .int .i64 ee]] [.miss] = some (.ret, ⟨67, [(7, .p (.int .i64 20)), (6, .ptr 6 0)], (qC4 ms ns us vs hs pd al g m)⟩, [(ee != 0) = true, PCall Try.prog 71 [.int .i64 al, .int .i64 m.am] [.int .i64 nn, .int .i64 ee], (fits Try.prog 10 3 (.int .i64 m.id) && keysOk Try.prog 3 ns) = true, findT (.int .i64 m.id) ns 0 = none, (0 : Int) ≤ i ∧ us[(i : Int).toNat]? = some ((m.t)), decide (i < ((us).length : Int)) = true]) := by kernel_rfl
theorem ofQORRH_0 (m : Msg) (pd al i nn ee : Int) (us vs : List T) (ms ns : List (T × T)) (wh : Int) (hs : List T) (g : Msg) (j : Nat) (hk : Int): bodyK (Cd [((89, 16), m.t)] [71]) 30 148 4 (loopAt Try.f148 0) ⟨67, [(2, .p (.int .i64 wh)), (4, .ptr 5 0), (6, .ptr 6 0), (8, .ptr 7 0), (16, .row 2 0 (.lst false 137 us)), (17, .p (.int .i64 ((us).length : Int))), (18, .p (.int .i64 i))], (qC6 ms ns us vs hs pd al g)⟩ [(0, true), (0, false), (0, false), (0, true)] [] [2, 4, 6, 7, 8, 16, 17, 18] [] [[.int .i64 nn, .int .i64 ee]] [.hit j (.int .i64 hk)] = some (.normal, ⟨67, [(18, .p (.int .i64 (IntKind.i64.wrap (i + 1)))), (17, .p (.int .i64 ((us).length : Int))), (2, .p (.int .i64 wh)), (4, .ptr 5 0), (16, .row 2 0 (.lst false 137 us)), (8, .ptr 7 0), (6, .ptr 6 0)], [.map ms, .map ns, .row 0 137, .row 0 137, .box (.agg [.row 2 0 (.lst false 137 us), .map 0]), .box (.agg [.row 3 0 (.lst false 137 vs), .map 1]), .box (.p (.agg [.lst true 36 [], .int .i64 0, .int .i64 0])), .box (.agg [.row 9 0 (.lst false 36 hs), .p (.int .i64 (IntKind.i64.wrap (pd + m.am))), .p (.int .i64 nn)]), .box (.p ((g.t))), .row 0 36, .box (.p ((m.t)))]⟩, [(hk == 2) = true, (ee != 0) = false, PCall Try.prog 71 [.int .i64 al, .int .i64 m.am] [.int .i64 nn, .int .i64 ee], (hk == 3) = false, (fits Try.prog 10 3 (.int .i64 m.id) && keysOk Try.prog 3 ns) = true, findT (.int .i64 m.id) ns 0 = some (j, .int .i64 hk), (0 : Int) ≤ i ∧ us[(i : Int).toNat]? = some ((m.t)), decide (i < ((us).length : Int)) = true]) := by kernel_rfl
theorem ofQORRH_2 (m : Msg) (pd al i nn ee : Int) (us vs : List T) (ms ns : List (T × T)) (wh : Int) (hs : List T) (g : Msg) (j : Nat) (hk : Int): bodyK (Cd [((89, 16), m.t)] [71]) 30 148 4 (loopAt Try.f148 0) ⟨67, [(2, .p (.int .i64 wh)), (4, .ptr 5 0), (6, .ptr 6 0), (8, .ptr 7 0), (16, .row 2 0 (.lst false 137 us)), (17, .p (.int .i64 ((us).length : Int))), (18, .p (.int .i64 i))], (qC6 ms ns us vs hs pd al g)⟩ [(0, true), (0, true)] [] [2, 4, 6, 7, 8, 16, 17, 18] [] [[.int .i64 nn, .int .i64 ee]] [.hit j (.int .i64 hk)] = some (.normal, ⟨67, [(18, .p (.int .i64 (IntKind.i64.wrap (i + 1)))), (17, .p (.int .i64 ((us).length : Int))), (2, .p (.int .i64 wh)), (4, .ptr 5 0), (16, .row 2 0 (.lst false 137 us)), (8, .ptr 7 0), (6, .ptr 6 0)], (qC4 ms ns us vs hs pd al g m)⟩, [(hk == 3) = true, (fits Try.prog 10 3 (.int .i64 m.id) && keysOk Try.prog 3 ns) = true, findT (.int .i64 m.id) ns 0 = some (j, .int .i64 hk), (0 : Int) ≤ i ∧ us[(i : Int).toNat]? = some ((m.t)), decide (i < ((us).length : Int)) = true]) := by kernel_rfl
theorem ofQORRH_3 (m : Msg) (pd al i nn ee : Int) (us vs : List T) (ms ns : List (T × T)) (wh : Int) (hs : List T) (g : Msg) (j : Nat) (hk : Int): bodyK (Cd [((89, 16), m.t)] [71]) 30 148 4 (loopAt Try.f148 0) ⟨67, [(2, .p (.int .i64 wh)), (4, .ptr 5 0), (6, .ptr 6 0), (8, .ptr 7 0), (16, .row 2 0 (.lst false 137 us)), (17, .p (.int .i64 ((us).length : Int))), (18, .p (.int .i64 i))], (qC6 ms ns us vs hs pd al g)⟩ [(0, true), (0, false), (0, true)] [] [2, 4, 6, 7, 8, 16, 17, 18] [] [[.int .i64 nn, .int .i64 ee]] [.hit j (.int .i64 hk)] = some (.ret, ⟨67, [(7, .p (.int .i64 20)), (6, .ptr 6 0)], (qC4 ms ns us vs hs pd al g m)⟩, [(ee != 0) = true, PCall Try.prog 71 [.int .i64 al, .int .i64 m.am] [.int .i64 nn, .int .i64 ee], (hk == 3) = false, (fits Try.prog 10 3 (.int .i64 m.id) && keysOk Try.prog 3 ns) = true, findT (.int .i64 m.id) ns 0 = some (j, .int .i64 hk), (0 : Int) ≤ i ∧ us[(i : Int).toNat]? = some ((m.t)), decide (i < ((us).length : Int)) = true]) := by kernel_rfl
theorem ofQORRH_4 (m : Msg) (pd al i nn ee : Int) (us vs : List T) (ms ns : List (T × T)) (wh : Int) (hs : List T) (g : Msg) (j : Nat) (hk : Int): bodyK (Cd [((89, 16), m.t)] [71]) 30 148 4 (loopAt Try.f148 0) ⟨67, [(2, .p (.int .i64 wh)), (4, .ptr 5 0), (6, .ptr 6 0), (8, .ptr 7 0), (16, .row 2 0 (.lst false 137 us)), (17, .p (.int .i64 ((us).length : Int))), (18, .p (.int .i64 i))], (qC6 ms ns us vs hs pd al g)⟩ [(0, true), (0, false), (0, false), (0, false)] [] [2, 4, 6, 7, 8, 16, 17, 18] [] [[.int .i64 nn, .int .i64 ee]] [.hit j (.int .i64 hk)] = some (.normal, ⟨67, [(18, .p (.int .i64 (IntKind.i64.wrap (i + 1)))), (17, .p (.int .i64 ((us).length : Int))), (2, .p (.int .i64 wh)), (4, .ptr 5 0), (16, .row 2 0 (.lst false 137 us)), (8, .ptr 7 0), (6, .ptr 6 0)], (qC0 ms ns us vs hs wh m pd nn g)⟩, [((hs).length + 1 ≤ 4294967296 ∨ ((hs).length + 1 ≤ 9223372036854775807 ∧ ((hs).length + 1) * 64 ≤ 140737488355328)), (hk == 2) = false, (ee != 0) = false, PCall Try.prog 71 [.int .i64 al, .int .i64 m.am] [.int .i64 nn, .int .i64 ee], (hk == 3) = false, (fits Try.prog 10 3 (.int .i64 m.id) && keysOk Try.prog 3 ns) = true, findT (.int .i64 m.id) ns 0 = some (j, .int .i64 hk), (0 : Int) ≤ i ∧ us[(i : Int).toNat]? = some ((m.t)), decide (i < ((us).length : Int)) = true]) := by kernel_rfl
theorem ofTPORR (m : Msg) (pd al i nn ee : Int) (us vs : List T) (ms ns : List (T × T)) (wh : Int): topK (Cd [] []) 30 148 [.map ms, .map ns, .row 0 137, .row 0 137] [.agg [.row 2 0 (.lst false 137 us), .map 0], .agg [.row 3 0 (.lst false 137 vs), .map 1], .p (.int .i64 wh)] [] [some ([2, 4, 6, 8, 16, 17, 18], .exit 0, ⟨67, [(2, .p (.int .i64 wh)), (4, .ptr 5 0), (6, .ptr 6 0), (8, .ptr 7 0), (16, .row 2 0 (.lst false 137 us)), (17, .p (.int .i64 ((us).length : Int))), (18, .p (.int .i64 i))], (qC10 ms ns us vs pd al)⟩)] [] [] [] = some ([.p (.agg [.lst true 36 [], .int .i64 pd, .int .i64 al]), .p (.int .i64 0)], [.map ms, .map ns, .row 0 137, .row 0 137], [LoopG Try.prog 4 (loopAt Try.f148 0) ⟨67, [(18, .p (.int .i64 0)), (17, .p (.int .i64 ((us).length : Int))), (16, .row 2 0 (.lst false 137 us)), (8, .ptr 7 0), (6, .ptr 6 0), (4, .ptr 5 0), (2, .p (.int .i64 wh))], (qC11 ms ns us vs)⟩ (.exit 0) ⟨67, [(2, .p (.int .i64 wh)), (4, .ptr 5 0), (6, .ptr 6 0), (8, .ptr 7 0), (16, .row 2 0 (.lst false 137 us)), (17, .p (.int .i64 ((us).length : Int))), (18, .p (.int .i64 i))], (qC10 ms ns us vs pd al)⟩]) := by kernel_rfl
theorem ofTQORR (m : Msg) (pd al i nn ee : Int) (us vs : List T) (ms ns : List (T × T)) (wh : Int) (hs : List T) (g : Msg): topK (Cd [] []) 30 148 [.map ms, .map ns, .row 0 137, .row 0 137] [.agg [.row 2 0 (.lst false 137 us), .map 0], .agg [.row 3 0 (.lst false 137 vs), .map 1], .p (.int .i64 wh)] [] [some ([2, 4, 6, 8, 16, 17, 18], .exit 0, ⟨67, [(2, .p (.int .i64 wh)), (4, .ptr 5 0), (6, .ptr 6 0), (8, .ptr 7 0), (16, .row 2 0 (.lst false 137 us)), (17, .p (.int .i64 ((us).length : Int))), (18, .p (.int .i64 i))], (qC6 ms ns us vs hs pd al g)⟩)] [] [] [] = some ([.agg [.row 9 0 (.lst false 36 hs), .p (.int .i64 pd), .p (.int .i64 al)], .p (.int .i64 0)], [.map ms, .map ns, .row 0 137, .row 0 137, .box (.agg [.row 2 0 (.lst false 137 us), .map 0]), .box (.agg [.row 3 0 (.lst false 137 vs), .map 1]), .box (.agg [.row 9 0 (.lst false 36 hs), .p (.int .i64 pd), .p (.int .i64 al)]), .box (.agg [.row 9 0 (.lst false 36 hs), .p (.int .i64 pd), .p (.int .i64 al)]), .box (.p ((g.t))), .row 0 36], [LoopG Try.prog 4 (loopAt Try.f148 0) ⟨67, [(18, .p (.int .i64 0)), (17, .p (.int .i64 ((us).length : Int))), (16, .row 2 0 (.lst false 137 us)), (8, .ptr 7 0), (6, .ptr 6 0), (4, .ptr 5 0), (2, .p (.int .i64 wh))], (qC11 ms ns us vs)⟩ (.exit 0) ⟨67, [(2, .p (.int .i64 wh)), (4, .ptr 5 0), (6, .ptr 6 0), (8, .ptr 7 0), (16, .row 2 0 (.lst false 137 us)), (17, .p (.int .i64 ((us).length : Int))), (18, .p (.int .i64 i))], (qC6 ms ns us vs hs pd al g)⟩]) := by kernel_rfl
theorem ofTRORR (m : Msg) (pd al i nn ee : Int) (us vs : List T) (ms ns : List (T × T)) (wh : Int): topK (Cd [] []) 30 148 [.map ms, .map ns, .row 0 137, .row 0 137] [.agg [.row 2 0 (.lst false 137 us), .map 0], .agg [.row 3 0 (.lst false 137 vs), .map 1], .p (.int .i64 wh)] [] [some ([2, 4, 6, 8, 16, 17, 18], .ret, ⟨67, [(6, .ptr 6 0), (7, .p (.int .i64 20))], (qC14 ms ns us vs)⟩)] [] [] [] = some ([.p (.agg [.lst true 36 [], .int .i64 0, .int .i64 0]), .p (.int .i64 20)], [.map ms, .map ns, .row 0 137, .row 0 137], [LoopG Try.prog 4 (loopAt Try.f148 0) ⟨67, [(18, .p (.int .i64 0)), (17, .p (.int .i64 ((us).length : Int))), (16, .row 2 0 (.lst false 137 us)), (8, .ptr 7 0), (6, .ptr 6 0), (4, .ptr 5 0), (2, .p (.int .i64 wh))], (qC11 ms ns us vs)⟩ (.ret) ⟨67, [(6, .ptr 6 0), (7, .p (.int .i64 20))], (qC14 ms ns us vs)⟩]) := by kernel_rfl
def look (ms : List (Int × Int)) (k : Int) : Int := match ms.find? fun q => k == q.1 with
 | some q => q.2
 | none => 0
theorem look_no {ms : List (Int × Int)} {k : Int} (h : hasK ms k = false) : look ms k = 0 := by
 unfold look
 cases e : ms.find? (fun q => k == q.1) with
 | none => rfl
 | some q =>
  have h1 := List.find?_some e
  have h2 := List.mem_of_find?_eq_some e
  simp only [hasK, List.any_eq_false] at h
  exact absurd h1 (h q h2)
theorem find_look (k : Int) : ∀ (L : List (Int × Int)) (i : Nat), hasK L k = true → ∃ j, findT (.int .i64 k) (L.map eP) i = some (j, .int .i64 (look L k))
 | [], _, h => by cases h
 | q :: L, i, h => by
  simp only [hasK, List.any_cons] at h
  simp only [List.map_cons, eP, findT, eq_i, look, List.find?_cons]
  cases e : (k == q.1) with
  | true => exact ⟨i, by simp⟩
  | false =>
   rw [e, Bool.false_or] at h
   obtain ⟨j, hj⟩ := find_look k L (i + 1) h
   exact ⟨j, by simpa [eP, look] using hj⟩
def hT (wh : Int) (m : Msg) : T := .agg [.int .i64 wh, .int .i64 m.id, .int .i64 m.am, .ba 32 m.hh, .int .i64 m.ex]
def ofG (ns : List (Int × Int)) (wh : Int) : List Msg → List Msg → Int → Int → Option (List Msg × Int × Int)
 | [], hs, pd, al => some (hs, pd, al)
 | m :: r, hs, pd, al => bif look ns m.id == 3 then ofG ns wh r hs pd al else bif (Deal.add al m.am).2 != 0 then none else bif look ns m.id == 2 then ofG ns wh r hs (IntKind.i64.wrap (pd + m.am)) (Deal.add al m.am).1 else ofG ns wh r (hs ++ [m]) pd (Deal.add al m.am).1
def TRR (ms ns : List (T × T)) : List SObj := [.map ms, .map ns, .row 0 137, .row 0 137]
def PRR (us vs : List T) (ms ns : List (T × T)) (wh pd al i : Int) : St := ⟨67, [(2, .p (.int .i64 wh)), (4, .ptr 5 0), (6, .ptr 6 0), (8, .ptr 7 0), (16, .row 2 0 (.lst false 137 us)), (17, .p (.int .i64 ((us).length : Int))), (18, .p (.int .i64 i))], [.map ms, .map ns, .row 0 137, .row 0 137, .box (.agg [.row 2 0 (.lst false 137 us), .map 0]), .box (.agg [.row 3 0 (.lst false 137 vs), .map 1]), .box (.p (.agg [.lst true 36 [], .int .i64 0, .int .i64 0])), .box (.p (.agg [.lst true 36 [], .int .i64 pd, .int .i64 al]))]⟩
def QRR (g : Msg) (us vs hs : List T) (ms ns : List (T × T)) (wh pd al i : Int) : St := ⟨67, [(2, .p (.int .i64 wh)), (4, .ptr 5 0), (6, .ptr 6 0), (8, .ptr 7 0), (16, .row 2 0 (.lst false 137 us)), (17, .p (.int .i64 ((us).length : Int))), (18, .p (.int .i64 i))], [.map ms, .map ns, .row 0 137, .row 0 137, .box (.agg [.row 2 0 (.lst false 137 us), .map 0]), .box (.agg [.row 3 0 (.lst false 137 vs), .map 1]), .box (.p (.agg [.lst true 36 [], .int .i64 0, .int .i64 0])), .box (.agg [.row 9 0 (.lst false 36 hs), .p (.int .i64 pd), .p (.int .i64 al)]), .box (.p ((mT g.kd g.ch g.id g.am g.ex g.hh g.ox g.on g.sc g.pt g.tg g.nu g.to g.rx g.rs))), .row 0 36]⟩
def ORR (us vs : List T) (ms ns : List (T × T)) : St := ⟨67, [(6, .ptr 6 0), (7, .p (.int .i64 20))], [.map ms, .map ns, .row 0 137, .row 0 137, .box (.agg [.row 2 0 (.lst false 137 us), .map 0]), .box (.agg [.row 3 0 (.lst false 137 vs), .map 1]), .box (.p (.agg [.lst true 36 [], .int .i64 0, .int .i64 0]))]⟩
theorem ofroundPRR (us : List Msg) (vs : List T) (ms : List (T × T)) (ns : List (Int × Int)) (wh pd al i : Int) (m : Msg) (hl : us.length * 232 ≤ 140737488355328) (hx : 0 ≤ i ∧ (us.map Msg.t)[i.toNat]? = some m.t) (hlt : i < us.length) :
  ((look ns m.id == 3) = true ∧ CodeG Try.prog 4 (loopAt Try.f148 0) (PRR (us.map Msg.t) vs ms (ns.map eP) wh pd al i) .normal (PRR (us.map Msg.t) vs ms (ns.map eP) wh pd al (i + 1))) ∨
  ((look ns m.id == 3) = false ∧ ((Deal.add al m.am).2 != 0) = true ∧ CodeG Try.prog 4 (loopAt Try.f148 0) (PRR (us.map Msg.t) vs ms (ns.map eP) wh pd al i) .ret (ORR (us.map Msg.t) vs ms (ns.map eP))) ∨
  ((look ns m.id == 3) = false ∧ ((Deal.add al m.am).2 != 0) = false ∧ (look ns m.id == 2) = true ∧ CodeG Try.prog 4 (loopAt Try.f148 0) (PRR (us.map Msg.t) vs ms (ns.map eP) wh pd al i) .normal (PRR (us.map Msg.t) vs ms (ns.map eP) wh (IntKind.i64.wrap (pd + m.am)) (Deal.add al m.am).1 (i + 1))) ∨
  ((look ns m.id == 3) = false ∧ ((Deal.add al m.am).2 != 0) = false ∧ (look ns m.id == 2) = false ∧ CodeG Try.prog 4 (loopAt Try.f148 0) (PRR (us.map Msg.t) vs ms (ns.map eP) wh pd al i) .normal (QRR m (us.map Msg.t) vs [hT wh m] ms (ns.map eP) wh pd (Deal.add al m.am).1 (i + 1))) := by
 have hlt' : decide (i < ((us.map Msg.t).length : Int)) = true := by simpa using hlt
 have wi : IntKind.i64.wrap (i + 1) = i + 1 := w64 (by omega) (by omega)
 have hfk := fk_i m.id ns
 have hadd := Deal.add_ok al m.am
 cases hk : hasK ns m.id with
 | false =>
  have hf := find_no m.id ns 0 hk
  have hlk := look_no hk
  have l3 : (look ns m.id == 3) = false := by rw [hlk]; rfl
  have l2 : (look ns m.id == 2) = false := by rw [hlk]; rfl
  cases c0 : ((Deal.add al m.am).2 != 0) with
  | true =>
   exact .inr (.inl ⟨l3, rfl, CodeG.normE (bodyK_sound (Cd_ok _ _) (ofPORRM_2 m pd al i (Deal.add al m.am).1 (Deal.add al m.am).2 (us.map Msg.t) vs ms (ns.map eP) wh) ⟨c0, hadd, hfk, hf, hx, hlt', trivial⟩) (by omega) (by omega) [6, 7] (m := 4) (k := 7) (by kernel_rfl)⟩)
  | false =>
   have r := CodeG.normE (bodyK_sound (Cd_ok _ _) (ofPORRM_0 m pd al i (Deal.add al m.am).1 (Deal.add al m.am).2 (us.map Msg.t) vs ms (ns.map eP) wh) ⟨(by simp), c0, hadd, hfk, hf, hx, hlt', trivial⟩) (by omega) (by omega) [2, 4, 6, 8, 16, 17, 18] (m := 4) (k := 10) (st2 := QRR m (us.map Msg.t) vs [hT wh m] ms (ns.map eP) wh pd (Deal.add al m.am).1 (IntKind.i64.wrap (i + 1))) (by kernel_rfl)
   rw [wi] at r
   exact .inr (.inr (.inr ⟨l3, rfl, l2, r⟩))
 | true =>
  obtain ⟨j, hf⟩ := find_look m.id ns 0 hk
  cases c0 : ((look ns m.id) == 3) with
  | true =>
   have r := CodeG.normE (bodyK_sound (Cd_ok _ _) (ofPORRH_2 m pd al i (Deal.add al m.am).1 (Deal.add al m.am).2 (us.map Msg.t) vs ms (ns.map eP) wh j (look ns m.id)) ⟨c0, hfk, hf, hx, hlt', trivial⟩) (by omega) (by omega) [2, 4, 6, 8, 16, 17, 18] (m := 4) (k := 8) (st2 := PRR (us.map Msg.t) vs ms (ns.map eP) wh pd al (IntKind.i64.wrap (i + 1))) (by kernel_rfl)
   rw [wi] at r
   exact .inl ⟨rfl, r⟩
  | false =>
   cases c1 : ((Deal.add al m.am).2 != 0) with
   | true =>
    exact .inr (.inl ⟨rfl, rfl, CodeG.normE (bodyK_sound (Cd_ok _ _) (ofPORRH_3 m pd al i (Deal.add al m.am).1 (Deal.add al m.am).2 (us.map Msg.t) vs ms (ns.map eP) wh j (look ns m.id)) ⟨c1, hadd, c0, hfk, hf, hx, hlt', trivial⟩) (by omega) (by omega) [6, 7] (m := 4) (k := 7) (by kernel_rfl)⟩)
   | false =>
    cases c2 : ((look ns m.id) == 2) with
    | true =>
     have r := CodeG.normE (bodyK_sound (Cd_ok _ _) (ofPORRH_0 m pd al i (Deal.add al m.am).1 (Deal.add al m.am).2 (us.map Msg.t) vs ms (ns.map eP) wh j (look ns m.id)) ⟨c2, c1, hadd, c0, hfk, hf, hx, hlt', trivial⟩) (by omega) (by omega) [2, 4, 6, 8, 16, 17, 18] (m := 4) (k := 8) (st2 := PRR (us.map Msg.t) vs ms (ns.map eP) wh (IntKind.i64.wrap (pd + m.am)) (Deal.add al m.am).1 (IntKind.i64.wrap (i + 1))) (by kernel_rfl)
     rw [wi] at r
     exact .inr (.inr (.inl ⟨rfl, rfl, rfl, r⟩))
    | false =>
     have r := CodeG.normE (bodyK_sound (Cd_ok _ _) (ofPORRH_4 m pd al i (Deal.add al m.am).1 (Deal.add al m.am).2 (us.map Msg.t) vs ms (ns.map eP) wh j (look ns m.id)) ⟨(by simp), c2, c1, hadd, c0, hfk, hf, hx, hlt', trivial⟩) (by omega) (by omega) [2, 4, 6, 8, 16, 17, 18] (m := 4) (k := 10) (st2 := QRR m (us.map Msg.t) vs [hT wh m] ms (ns.map eP) wh pd (Deal.add al m.am).1 (IntKind.i64.wrap (i + 1))) (by kernel_rfl)
     rw [wi] at r
     exact .inr (.inr (.inr ⟨rfl, rfl, rfl, r⟩))
theorem ofroundQRR (g : Msg) (hs : List Msg) (us : List Msg) (vs : List T) (ms : List (T × T)) (ns : List (Int × Int)) (wh pd al i : Int) (m : Msg) (hl : us.length * 232 ≤ 140737488355328) (hhs : hs.length + 1 ≤ us.length) (hx : 0 ≤ i ∧ (us.map Msg.t)[i.toNat]? = some m.t) (hlt : i < us.length) :
  ((look ns m.id == 3) = true ∧ CodeG Try.prog 4 (loopAt Try.f148 0) (QRR g (us.map Msg.t) vs (hs.map (hT wh)) ms (ns.map eP) wh pd al i) .normal (QRR g (us.map Msg.t) vs (hs.map (hT wh)) ms (ns.map eP) wh pd al (i + 1))) ∨
  ((look ns m.id == 3) = false ∧ ((Deal.add al m.am).2 != 0) = true ∧ CodeG Try.prog 4 (loopAt Try.f148 0) (QRR g (us.map Msg.t) vs (hs.map (hT wh)) ms (ns.map eP) wh pd al i) .ret (ORR (us.map Msg.t) vs ms (ns.map eP))) ∨
  ((look ns m.id == 3) = false ∧ ((Deal.add al m.am).2 != 0) = false ∧ (look ns m.id == 2) = true ∧ CodeG Try.prog 4 (loopAt Try.f148 0) (QRR g (us.map Msg.t) vs (hs.map (hT wh)) ms (ns.map eP) wh pd al i) .normal (QRR g (us.map Msg.t) vs (hs.map (hT wh)) ms (ns.map eP) wh (IntKind.i64.wrap (pd + m.am)) (Deal.add al m.am).1 (i + 1))) ∨
  ((look ns m.id == 3) = false ∧ ((Deal.add al m.am).2 != 0) = false ∧ (look ns m.id == 2) = false ∧ CodeG Try.prog 4 (loopAt Try.f148 0) (QRR g (us.map Msg.t) vs (hs.map (hT wh)) ms (ns.map eP) wh pd al i) .normal (QRR g (us.map Msg.t) vs (hs.map (hT wh) ++ [hT wh m]) ms (ns.map eP) wh pd (Deal.add al m.am).1 (i + 1))) := by
 have hlt' : decide (i < ((us.map Msg.t).length : Int)) = true := by simpa using hlt
 have wi : IntKind.i64.wrap (i + 1) = i + 1 := w64 (by omega) (by omega)
 have hfk := fk_i m.id ns
 have hadd := Deal.add_ok al m.am
 cases hk : hasK ns m.id with
 | false =>
  have hf := find_no m.id ns 0 hk
  have hlk := look_no hk
  have l3 : (look ns m.id == 3) = false := by rw [hlk]; rfl
  have l2 : (look ns m.id == 2) = false := by rw [hlk]; rfl
  cases c0 : ((Deal.add al m.am).2 != 0) with
  | true =>
   exact .inr (.inl ⟨l3, rfl, CodeG.normE (bodyK_sound (Cd_ok _ _) (ofQORRM_2 m pd al i (Deal.add al m.am).1 (Deal.add al m.am).2 (us.map Msg.t) vs ms (ns.map eP) wh (hs.map (hT wh)) g) ⟨c0, hadd, hfk, hf, hx, hlt', trivial⟩) (by omega) (by omega) [6, 7] (m := 4) (k := 7) (by kernel_rfl)⟩)
  | false =>
   have r := CodeG.normE (bodyK_sound (Cd_ok _ _) (ofQORRM_0 m pd al i (Deal.add al m.am).1 (Deal.add al m.am).2 (us.map Msg.t) vs ms (ns.map eP) wh (hs.map (hT wh)) g) ⟨(by simp; omega), c0, hadd, hfk, hf, hx, hlt', trivial⟩) (by omega) (by omega) [2, 4, 6, 8, 16, 17, 18] (m := 4) (k := 10) (st2 := QRR g (us.map Msg.t) vs (hs.map (hT wh) ++ [hT wh m]) ms (ns.map eP) wh pd (Deal.add al m.am).1 (IntKind.i64.wrap (i + 1))) (by kernel_rfl)
   rw [wi] at r
   exact .inr (.inr (.inr ⟨l3, rfl, l2, r⟩))
 | true =>
  obtain ⟨j, hf⟩ := find_look m.id ns 0 hk
  cases c0 : ((look ns m.id) == 3) with
  | true =>
   have r := CodeG.normE (bodyK_sound (Cd_ok _ _) (ofQORRH_2 m pd al i (Deal.add al m.am).1 (Deal.add al m.am).2 (us.map Msg.t) vs ms (ns.map eP) wh (hs.map (hT wh)) g j (look ns m.id)) ⟨c0, hfk, hf, hx, hlt', trivial⟩) (by omega) (by omega) [2, 4, 6, 8, 16, 17, 18] (m := 4) (k := 10) (st2 := QRR g (us.map Msg.t) vs (hs.map (hT wh)) ms (ns.map eP) wh pd al (IntKind.i64.wrap (i + 1))) (by kernel_rfl)
   rw [wi] at r
   exact .inl ⟨rfl, r⟩
  | false =>
   cases c1 : ((Deal.add al m.am).2 != 0) with
   | true =>
    exact .inr (.inl ⟨rfl, rfl, CodeG.normE (bodyK_sound (Cd_ok _ _) (ofQORRH_3 m pd al i (Deal.add al m.am).1 (Deal.add al m.am).2 (us.map Msg.t) vs ms (ns.map eP) wh (hs.map (hT wh)) g j (look ns m.id)) ⟨c1, hadd, c0, hfk, hf, hx, hlt', trivial⟩) (by omega) (by omega) [6, 7] (m := 4) (k := 7) (by kernel_rfl)⟩)
   | false =>
    cases c2 : ((look ns m.id) == 2) with
    | true =>
     have r := CodeG.normE (bodyK_sound (Cd_ok _ _) (ofQORRH_0 m pd al i (Deal.add al m.am).1 (Deal.add al m.am).2 (us.map Msg.t) vs ms (ns.map eP) wh (hs.map (hT wh)) g j (look ns m.id)) ⟨c2, c1, hadd, c0, hfk, hf, hx, hlt', trivial⟩) (by omega) (by omega) [2, 4, 6, 8, 16, 17, 18] (m := 4) (k := 10) (st2 := QRR g (us.map Msg.t) vs (hs.map (hT wh)) ms (ns.map eP) wh (IntKind.i64.wrap (pd + m.am)) (Deal.add al m.am).1 (IntKind.i64.wrap (i + 1))) (by kernel_rfl)
     rw [wi] at r
     exact .inr (.inr (.inl ⟨rfl, rfl, rfl, r⟩))
    | false =>
     have r := CodeG.normE (bodyK_sound (Cd_ok _ _) (ofQORRH_4 m pd al i (Deal.add al m.am).1 (Deal.add al m.am).2 (us.map Msg.t) vs ms (ns.map eP) wh (hs.map (hT wh)) g j (look ns m.id)) ⟨(by simp; omega), c2, c1, hadd, c0, hfk, hf, hx, hlt', trivial⟩) (by omega) (by omega) [2, 4, 6, 8, 16, 17, 18] (m := 4) (k := 10) (st2 := QRR g (us.map Msg.t) vs (hs.map (hT wh) ++ [hT wh m]) ms (ns.map eP) wh pd (Deal.add al m.am).1 (IntKind.i64.wrap (i + 1))) (by kernel_rfl)
     rw [wi] at r
     exact .inr (.inr (.inr ⟨rfl, rfl, rfl, r⟩))
theorem ofG_pre (ns : List (Int × Int)) (wh : Int) : ∀ (r hs : List Msg) (pd al : Int), ∀ ws a b, ofG ns wh r hs pd al = some (ws, a, b) → ∃ vs, ws = hs ++ vs
 | [], hs, pd, al, ws, a, b, h => by
  simp only [ofG, Option.some.injEq, Prod.mk.injEq] at h
  exact ⟨[], by simp [h.1]⟩
 | m :: r, hs, pd, al, ws, a, b, h => by
  simp only [ofG] at h
  cases h1 : (look ns m.id == 3) with
  | true => rw [h1] at h; exact ofG_pre ns wh r hs _ _ ws a b h
  | false =>
   rw [h1] at h
   cases h2 : ((Deal.add al m.am).2 != 0) with
   | true => rw [h2] at h; cases h
   | false =>
    rw [h2] at h
    cases h3 : (look ns m.id == 2) with
    | true => rw [h3] at h; exact ofG_pre ns wh r hs _ _ ws a b h
    | false =>
     rw [h3] at h
     obtain ⟨vs, rfl⟩ := ofG_pre ns wh r _ _ _ ws a b h
     exact ⟨m :: vs, by simp⟩
def FRR (g : Msg) (us vs hs : List T) (ms ns : List (T × T)) (pd al : Int) : List SObj := [.map ms, .map ns, .row 0 137, .row 0 137, .box (.agg [.row 2 0 (.lst false 137 us), .map 0]), .box (.agg [.row 3 0 (.lst false 137 vs), .map 1]), .box (.agg [.row 9 0 (.lst false 36 hs), .p (.int .i64 pd), .p (.int .i64 al)]), .box (.agg [.row 9 0 (.lst false 36 hs), .p (.int .i64 pd), .p (.int .i64 al)]), .box (.p ((mT g.kd g.ch g.id g.am g.ex g.hh g.ox g.on g.sc g.pt g.tg g.nu g.to g.rx g.rs))), .row 0 36]
theorem ofQ_loopRR (g : Msg) (us : List Msg) (vs : List T) (ms : List (T × T)) (ns : List (Int × Int)) (wh : Int) (hl : us.length * 232 ≤ 140737488355328) : ∀ (r pre hs : List Msg) (pd al : Int), us = pre ++ r → hs.length ≤ pre.length →
  match ofG ns wh r hs pd al with
  | none => LoopG Try.prog 4 (loopAt Try.f148 0) (QRR g (us.map Msg.t) vs (hs.map (hT wh)) ms (ns.map eP) wh pd al (pre.length : Int)) .ret (ORR (us.map Msg.t) vs ms (ns.map eP))
  | some (ws, pd2, al2) => LoopG Try.prog 4 (loopAt Try.f148 0) (QRR g (us.map Msg.t) vs (hs.map (hT wh)) ms (ns.map eP) wh pd al (pre.length : Int)) (.exit 0) (QRR g (us.map Msg.t) vs (ws.map (hT wh)) ms (ns.map eP) wh pd2 al2 (us.length : Int))
 | [], pre, hs, pd, al, he, hh => by
  have hp : pre = us := by rw [he]; simp
  simp only [ofG]
  rw [hp]
  exact LoopG.leave (CodeG.normE (bodyK_sound (Cd_ok _ _) (ofQORRM_1 m0 pd al (us.length : Int) 0 0 (us.map Msg.t) vs ms (ns.map eP) wh (hs.map (hT wh)) g) ⟨by simp, trivial⟩) (by omega) (by omega) [2, 4, 6, 8, 16, 17, 18] (m := 4) (k := 10) (by kernel_rfl)) rfl
 | m :: r, pre, hs, pd, al, he, hh => by
  have hlen : pre.length + (r.length + 1) = us.length := by rw [he]; simp
  have hx : (0 : Int) ≤ (pre.length : Int) ∧ (us.map Msg.t)[((pre.length : Int)).toNat]? = some m.t := ⟨by omega, by rw [he]; simp⟩
  have ih := fun hs pd al h => ofQ_loopRR g us vs ms ns wh hl r (pre ++ [m]) hs pd al (by rw [he]; simp) h
  rw [show (((pre ++ [m]).length : Nat) : Int) = (pre.length : Int) + 1 by simp] at ih
  simp only [ofG]
  rcases ofroundQRR g hs us vs ms ns wh pd al (pre.length : Int) m hl (by omega) hx (by omega) with ⟨k1, k⟩ | ⟨k1, k2, k⟩ | ⟨k1, k2, k3, k⟩ | ⟨k1, k2, k3, k⟩
  ·rw [k1]
   simp only [cond_true]
   have ih := ih hs pd al (by simp; omega)
   revert ih
   cases ofG ns wh r hs pd al with
   | none => exact fun ih => LoopG.next k ih
   | some q => exact fun ih => LoopG.next k ih
  ·rw [k1, k2]; exact LoopG.leave k rfl
  ·rw [k1, k2, k3]
   simp only [cond_true, cond_false]
   have ih := ih hs (IntKind.i64.wrap (pd + m.am)) (Deal.add al m.am).1 (by simp; omega)
   revert ih
   cases ofG ns wh r hs (IntKind.i64.wrap (pd + m.am)) (Deal.add al m.am).1 with
   | none => exact fun ih => LoopG.next k ih
   | some q => exact fun ih => LoopG.next k ih
  ·rw [k1, k2, k3]
   simp only [cond_false]
   have ih := ih (hs ++ [m]) pd (Deal.add al m.am).1 (by simp; omega)
   rw [show (hs ++ [m]).map (hT wh) = hs.map (hT wh) ++ [hT wh m] by simp] at ih
   revert ih
   cases ofG ns wh r (hs ++ [m]) pd (Deal.add al m.am).1 with
   | none => exact fun ih => LoopG.next k ih
   | some q => exact fun ih => LoopG.next k ih
theorem ofP_loopRR (us : List Msg) (vs : List T) (ms : List (T × T)) (ns : List (Int × Int)) (wh : Int) (hl : us.length * 232 ≤ 140737488355328) : ∀ (r pre : List Msg) (pd al : Int), us = pre ++ r →
  match ofG ns wh r [] pd al with
  | none => LoopG Try.prog 4 (loopAt Try.f148 0) (PRR (us.map Msg.t) vs ms (ns.map eP) wh pd al (pre.length : Int)) .ret (ORR (us.map Msg.t) vs ms (ns.map eP))
  | some ([], pd2, al2) => LoopG Try.prog 4 (loopAt Try.f148 0) (PRR (us.map Msg.t) vs ms (ns.map eP) wh pd al (pre.length : Int)) (.exit 0) (PRR (us.map Msg.t) vs ms (ns.map eP) wh pd2 al2 (us.length : Int))
  | some (g :: ws, pd2, al2) => LoopG Try.prog 4 (loopAt Try.f148 0) (PRR (us.map Msg.t) vs ms (ns.map eP) wh pd al (pre.length : Int)) (.exit 0) (QRR g (us.map Msg.t) vs ((g :: ws).map (hT wh)) ms (ns.map eP) wh pd2 al2 (us.length : Int))
 | [], pre, pd, al, he => by
  have hp : pre = us := by rw [he]; simp
  simp only [ofG]
  rw [hp]
  exact LoopG.leave (CodeG.normE (bodyK_sound (Cd_ok _ _) (ofPORRM_1 m0 pd al (us.length : Int) 0 0 (us.map Msg.t) vs ms (ns.map eP) wh) ⟨by simp, trivial⟩) (by omega) (by omega) [2, 4, 6, 8, 16, 17, 18] (m := 4) (k := 8) (by kernel_rfl)) rfl
 | m :: r, pre, pd, al, he => by
  have hlen : pre.length + (r.length + 1) = us.length := by rw [he]; simp
  have hx : (0 : Int) ≤ (pre.length : Int) ∧ (us.map Msg.t)[((pre.length : Int)).toNat]? = some m.t := ⟨by omega, by rw [he]; simp⟩
  have ih := fun pd al => ofP_loopRR us vs ms ns wh hl r (pre ++ [m]) pd al (by rw [he]; simp)
  rw [show (((pre ++ [m]).length : Nat) : Int) = (pre.length : Int) + 1 by simp] at ih
  simp only [ofG]
  rcases ofroundPRR us vs ms ns wh pd al (pre.length : Int) m hl hx (by omega) with ⟨k1, k⟩ | ⟨k1, k2, k⟩ | ⟨k1, k2, k3, k⟩ | ⟨k1, k2, k3, k⟩
  ·rw [k1]
   simp only [cond_true]
   have ih := ih pd al
   revert ih
   cases ofG ns wh r [] pd al with
   | none => exact fun ih => LoopG.next k ih
   | some q => obtain ⟨ws, a, b⟩ := q; cases ws <;> exact fun ih => LoopG.next k ih
  ·rw [k1, k2]; exact LoopG.leave k rfl
  ·rw [k1, k2, k3]
   simp only [cond_true, cond_false]
   have ih := ih (IntKind.i64.wrap (pd + m.am)) (Deal.add al m.am).1
   revert ih
   cases ofG ns wh r [] (IntKind.i64.wrap (pd + m.am)) (Deal.add al m.am).1 with
   | none => exact fun ih => LoopG.next k ih
   | some q => obtain ⟨ws, a, b⟩ := q; cases ws <;> exact fun ih => LoopG.next k ih
  ·rw [k1, k2, k3]
   simp only [cond_false, List.nil_append]
   have ih := ofQ_loopRR m us vs ms ns wh hl r (pre ++ [m]) [m] pd (Deal.add al m.am).1 (by rw [he]; simp) (by simp)
   rw [show (((pre ++ [m]).length : Nat) : Int) = (pre.length : Int) + 1 by simp] at ih
   have hpre := ofG_pre ns wh r [m] pd (Deal.add al m.am).1
   revert ih hpre
   cases ofG ns wh r [m] pd (Deal.add al m.am).1 with
   | none => exact fun ih _ => LoopG.next k ih
   | some q =>
    obtain ⟨ws, a, b⟩ := q
    intro ih hpre
    obtain ⟨vs', rfl⟩ := hpre ws a b rfl
    exact LoopG.next k ih
theorem ofRR (us : List Msg) (vs : List T) (ms : List (T × T)) (ns : List (Int × Int)) (wh : Int) (hl : us.length * 232 ≤ 140737488355328) :
  match ofG ns wh us [] 0 0 with
  | none => GCall Try.prog 148 (TRR ms (ns.map eP)) [.agg [.row 2 0 (.lst false 137 (us.map Msg.t)), .map 0], .agg [.row 3 0 (.lst false 137 vs), .map 1], .p (.int .i64 wh)] (TRR ms (ns.map eP)) [.p (.agg [.lst true 36 [], .int .i64 0, .int .i64 0]), .p (.int .i64 20)]
  | some ([], pd, al) => GCall Try.prog 148 (TRR ms (ns.map eP)) [.agg [.row 2 0 (.lst false 137 (us.map Msg.t)), .map 0], .agg [.row 3 0 (.lst false 137 vs), .map 1], .p (.int .i64 wh)] (TRR ms (ns.map eP)) [.p (.agg [.lst true 36 [], .int .i64 pd, .int .i64 al]), .p (.int .i64 0)]
  | some (g :: ws, pd, al) => GCall Try.prog 148 (TRR ms (ns.map eP)) [.agg [.row 2 0 (.lst false 137 (us.map Msg.t)), .map 0], .agg [.row 3 0 (.lst false 137 vs), .map 1], .p (.int .i64 wh)] (FRR g (us.map Msg.t) vs ((g :: ws).map (hT wh)) ms (ns.map eP) pd al) [.agg [.row 9 0 (.lst false 36 ((g :: ws).map (hT wh))), .p (.int .i64 pd), .p (.int .i64 al)], .p (.int .i64 0)] := by
 have h := ofP_loopRR us vs ms ns wh hl us [] 0 0 rfl
 revert h
 cases ofG ns wh us [] 0 0 with
 | none => exact fun h => topK_sound (Cd_ok _ _) (ofTRORR m0 0 0 (us.length : Int) 0 0 (us.map Msg.t) vs ms (ns.map eP) wh) ⟨LoopG.preE (by omega) (by omega) [2, 4, 6, 8, 16, 17, 18] (m := 4) (k := 8) (by kernel_rfl) h, trivial⟩
 | some q =>
  obtain ⟨ws, pd, al⟩ := q
  cases ws with
  | nil => exact fun h => topK_sound (Cd_ok _ _) (ofTPORR m0 pd al (us.length : Int) 0 0 (us.map Msg.t) vs ms (ns.map eP) wh) ⟨LoopG.preE (by omega) (by omega) [2, 4, 6, 8, 16, 17, 18] (m := 4) (k := 8) (by kernel_rfl) h, trivial⟩
  | cons g ws => exact fun h => topK_sound (Cd_ok _ _) (ofTQORR m0 pd al (us.length : Int) 0 0 (us.map Msg.t) vs ms (ns.map eP) wh ((g :: ws).map (hT wh)) g) ⟨LoopG.preE (by omega) (by omega) [2, 4, 6, 8, 16, 17, 18] (m := 4) (k := 8) (by kernel_rfl) h, trivial⟩
end Go.HM.Up
set_option maxRecDepth 100000
namespace Go.HM
section
variable {P : Program} {U : Nat → Nat → Prop} {κ : List Place} {s : List SObj} {w : World}
def killS (D : List Nat) : Nat → List SObj → List SObj
 | _, [] => []
 | i, o :: r => (match memN i D with | true => .dead | false => o) :: killS D (i + 1) r
def killK (D : List Nat) : Nat → List Place → List Place
 | _, [] => []
 | i, p :: r => (match memN i D with | true => { p with on := false } | false => p) :: killK D (i + 1) r
theorem killS_get (D : List Nat) : ∀ (s : List SObj) (k i : Nat), (killS D k s)[i]? = s[i]?.map fun o => match memN (k + i) D with | true => .dead | false => o
 | [], k, i => by simp [killS]
 | o :: r, k, 0 => by simp [killS]
 | o :: r, k, i + 1 => by
  simp only [killS, List.getElem?_cons_succ]
  rw [killS_get D r (k + 1) i, show k + 1 + i = k + (i + 1) by omega]
theorem killK_get (D : List Nat) : ∀ (s : List Place) (k i : Nat), (killK D k s)[i]? = s[i]?.map fun p => match memN (k + i) D with | true => { p with on := false } | false => p
 | [], k, i => by simp [killK]
 | o :: r, k, 0 => by simp [killK]
 | o :: r, k, i + 1 => by
  simp only [killK, List.getElem?_cons_succ]
  rw [killK_get D r (k + 1) i, show k + 1 + i = k + (i + 1) by omega]
theorem killS_at {D : List Nat} {i : Nat} {o : SObj} (h : s[i]? = some o) (hd : memN i D = false) : (killS D 0 s)[i]? = some o := by
 rw [killS_get, h, Nat.zero_add]; simp [hd]
theorem killK_at {D : List Nat} {i : Nat} {p : Place} (h : κ[i]? = some p) (hd : memN i D = false) : (killK D 0 κ)[i]? = some p := by
 rw [killK_get, h, Nat.zero_add]; simp [hd]
theorem killS_len (D : List Nat) : ∀ (s : List SObj) (k : Nat), (killS D k s).length = s.length
 | [], _ => rfl
 | _ :: r, k => by simp only [killS, List.length_cons, killS_len D r]
theorem killK_len (D : List Nat) : ∀ (s : List Place) (k : Nat), (killK D k s).length = s.length
 | [], _ => rfl
 | _ :: r, k => by simp only [killK, List.length_cons, killK_len D r]
theorem killK_live {D : List Nat} {i : Nat} {p : Place} (h : (killK D 0 κ)[i]? = some p) (hl : p.on = true) : memN i D = false ∧ κ[i]? = some p := by
 rw [killK_get, Nat.zero_add, Option.map_eq_some_iff] at h
 obtain ⟨q, h1, h2⟩ := h
 cases hd : memN i D with
 | true => rw [hd] at h2; simp only at h2; subst h2; cases hl
 | false => rw [hd] at h2; simp only at h2; subst h2; exact ⟨rfl, h1⟩
theorem killK_mem {D : List Nat} {p : Place} (h : p ∈ killK D 0 κ) (hl : p.on = true) : p ∈ κ := by
 obtain ⟨i, hi⟩ := List.getElem?_of_mem h
 exact List.mem_of_getElem? (killK_live hi hl).2
theorem kill_pres (D : List Nat) : Pres w (okOf U κ) w (okOf U (killK D 0 κ)) := fun b o v hv ho => ⟨hv, ho.1, fun pl hpl hh => ho.2 pl (killK_mem hpl hh.2.2.2) hh⟩
mutual
def V.free (D : List Nat) : V → Bool
 | .ptr id _ => !memN id D
 | .row id _ _ => !memN id D
 | .map id => !memN id D
 | .view id _ _ => !memN id D
 | .cv id _ _ _ _ => !memN id D
 | .ep id _ _ => !memN id D
 | .agg vs => V.frees D vs
 | .clo _ vs => V.frees D vs
 | _ => true
def V.frees (D : List Nat) : List V → Bool
 | [] => true
 | v :: vs => v.free D && V.frees D vs
end
mutual
theorem Vc.kill {D : List Nat} : ∀ {v : V} {cs : List Value}, Vc U κ s w v cs → v.free D = true → Vc U (killK D 0 κ) (killS D 0 s) w v cs
 | _, _, .p h, _ => .p (h.pres (kill_pres D))
 | _, _, .rb b, _ => .rb b
 | _, _, .ptr h k, hf => by
  have hf := by simpa [V.free] using hf
  exact .ptr (killS_at h hf) (killK_at k hf)
 | _, _, .row h k l m, hf => by
  have hf := by simpa [V.free] using hf
  refine .row (h.pres (kill_pres D)) (killS_at k hf) l (fun e => ?_)
  rcases m e with q | ⟨pl, o, q⟩
  ·exact .inl q
  ·exact .inr ⟨pl, o, killK_at q.1 hf, q.2⟩
 | _, _, .map h k, hf => by
  have hf := by simpa [V.free] using hf
  exact .map (killS_at h hf) (killK_at k hf)
 | _, _, .view h k, hf => by
  have hf := by simpa [V.free] using hf
  exact .view (killS_at h hf) (killK_at k hf)
 | _, _, .cv k l n m, hf => by
  have hf := by simpa [V.free] using hf
  exact .cv (killS_at k hf) l n (fun e => by obtain ⟨pl, q⟩ := m e; exact ⟨pl, killK_at q.1 hf, q.2⟩)
 | _, _, .ep k l m, hf => by
  have hf := by simpa [V.free] using hf
  exact .ep (killS_at k hf) l (fun e => by obtain ⟨pl, q⟩ := m e; exact ⟨pl, killK_at q.1 hf, q.2⟩)
 | _, _, .agg h, hf => .agg (Vcs.kill h (by simpa [V.free] using hf))
 | _, _, .clo h k, hf => .clo (Vcs.kill h (by simpa [V.free] using hf)) k
 | _, _, .bad h, _ => .bad h
theorem Vcs.kill {D : List Nat} : ∀ {vs : List V} {cs : List Value}, Vcs U κ s w vs cs → V.frees D vs = true → Vcs U (killK D 0 κ) (killS D 0 s) w vs cs
 | _, _, .nil, _ => .nil
 | _, _, .cons h k, hf => by
  simp only [V.frees, Bool.and_eq_true] at hf
  exact .cons (Vc.kill h hf.1) (Vcs.kill k hf.2)
end
def SObj.flat : SObj → Bool
 | .map _ => true
 | .row _ _ => true
 | .dead => true
 | _ => false
theorem RelS.kill {D : List Nat} (h : RelS U κ s w) (hf : (killS D 0 s).all SObj.flat = true) : RelS U (killK D 0 κ) (killS D 0 s) w where
 up := h.up
 len := by rw [killK_len, killS_len, h.len]
 obj := fun id o pl a b => by
  have hfl := List.all_eq_true.1 hf o (List.mem_of_getElem? a)
  rw [killS_get, Nat.zero_add, Option.map_eq_some_iff] at a
  rw [killK_get, Nat.zero_add, Option.map_eq_some_iff] at b
  obtain ⟨o', a1, a2⟩ := a
  obtain ⟨p', b1, b2⟩ := b
  cases hd : memN id D with
  | true => rw [hd] at a2 b2; simp only at a2 b2; subst a2 b2; rfl
  | false =>
   rw [hd] at a2 b2
   simp only at a2 b2
   subst a2 b2
   have hob := h.obj id o' p' a1 b1
   cases o' with
   | box v => cases hfl
   | row ver e => exact hob
   | map es =>
    obtain ⟨x0, x3, ents, clock, x4, x5⟩ := hob
    exact ⟨x0, x3, ents, clock, x4, x5.pres (kill_pres D)⟩
   | vec c v => cases hfl
   | dead => exact hob
 apart := fun i j p p' hi hj hne hl hl' => h.apart i j p p' (killK_live hi hl).2 (killK_live hj hl').2 hne hl hl'
 below := fun p hp hl => h.below p (killK_mem hp hl) hl
 mine := fun p hp hl o => h.mine p (killK_mem hp hl) hl o
 glob := h.glob.pres (kill_pres D)
def allGe (n : Nat) : List Nat → Bool
 | [] => true
 | x :: r => Nat.ble n x && allGe n r
theorem allGe_not {n : Nat} : ∀ {D : List Nat} {i : Nat}, allGe n D = true → i < n → memN i D = false
 | [], i, _, _ => rfl
 | x :: r, i, h, hi => by
  simp only [allGe, Bool.and_eq_true, Nat.ble_eq] at h
  simp only [memN, Bool.or_eq_false_iff, beq_eq_false_iff_ne]
  exact ⟨by omega, allGe_not h.2 hi⟩
theorem Step.kill {κ0 : List Place} {w0 : World} {D : List Nat} (h : Step U κ0 w0 κ w) : Step U κ0 w0 (killK D 0 κ) w where
 kept := h.kept
 fresh := fun pl hp hl => h.fresh pl (killK_mem hp hl) hl
 pres := fun b o v hv ho => let ⟨a, b⟩ := h.pres b o v hv ho; kill_pres D _ _ _ a b
theorem Ext.kill {κ0 : List Place} {s0 : List SObj} {D : List Nat} (h : Ext κ0 s0 κ s) (hD : allGe s0.length D = true) : Ext κ0 s0 (killK D 0 κ) (killS D 0 s) := by
 have hd : ∀ {id : Nat} {o : SObj}, s0[id]? = some o → memN id D = false := fun e => allGe_not hD (getElem?_lt e)
 refine ⟨fun id v pl a b => ?_, fun id es pl a b => ?_, fun id c e a => ?_, fun id c v a => ?_⟩
 ·obtain ⟨v', pl', x, y, z⟩ := h.box id v pl a b; exact ⟨v', pl', killS_at x (hd a), killK_at y (hd a), z⟩
 ·obtain ⟨v', pl', x, y, z⟩ := h.map id es pl a b; exact ⟨v', pl', killS_at x (hd a), killK_at y (hd a), z⟩
 ·obtain ⟨c', x, y, z⟩ := h.row id c e a
  exact ⟨c', killS_at x (hd a), y, fun q => by rw [← z q, killK_get, Nat.zero_add, hd a]; cases κ[id]? <;> rfl⟩
 ·obtain ⟨c', v', x, y, z⟩ := h.vec id c v a
  exact ⟨c', v', killS_at x (hd a), y, fun q => by rw [← z q, killK_get, Nat.zero_add, hd a]; cases κ[id]? <;> rfl⟩
theorem GCall.kill {f : FuncId} {s' s'' : List SObj} {vs rs : List V} (h : GCall P f s vs s' rs) (D : List Nat) (hD : allGe s.length D = true) (hf : (killS D 0 s').all SObj.flat = true) (hr : V.frees D rs = true) (e : killS D 0 s' = s'') : GCall P f s vs s'' rs := by
  subst e
  refine ⟨h.1, fun U κ w vals hS hA => (h.2 U κ w vals hS hA).mono ?_⟩
  rintro e w' ⟨v, κ', rfl, h1, h2, h3, h4⟩
  have conv : ∀ {rs : List V} {xs : List Value}, V.frees D rs = true → F2 (VV1 U κ' s' w') rs xs → F2 (VV1 U (killK D 0 κ') (killS D 0 s') w') rs xs := by
    intro rs xs hr hx
    induction hx with
    | nil => exact .nil
    | cons a b ih =>
      simp only [V.frees, Bool.and_eq_true] at hr
      exact .cons ⟨Vc.kill a.1 hr.1, a.2⟩ (ih hr.2)
  refine ⟨v, _, rfl, h1.kill hf, ?_, h3.kill, h4.kill hD⟩
  match rs, h2, hr with
  | [], h2, hr => obtain ⟨xs, a, b⟩ := h2; exact ⟨xs, a, conv hr b⟩
  | [r], h2, hr => have := conv hr (F2.cons (R := VV1 U κ' s' w') h2 .nil); cases this with | cons a b => exact a
  | r :: r' :: rest, h2, hr => obtain ⟨xs, a, b⟩ := h2; exact ⟨xs, a, conv hr b⟩
end
end Go.HM
namespace Go.HM.Up
open Go.Proofs
theorem agg_row {U : Nat → Nat → Prop} {κ : List Place} {s : List SObj} {w : World} {cs : List Value} {v : V} (h : Vc U κ s w (.agg [.p (.lst true 137 []), v]) cs) (hr : s[4]? = some (.row 0 137)) : Vc U κ s w (.agg [.row 4 0 (.lst false 137 []), v]) cs := by
 cases h with | agg h => cases h with | cons h1 h2 =>
  refine .agg (.cons ?_ h2)
  cases h1 with | p h1 =>
   cases h1 with
   | lstnil => exact .row .lstnil hr (Nat.le_refl _) (fun _ => .inl rfl)
   | lst0 q => exact .row (.lst0 (fun h => by cases h)) hr (Nat.le_refl _) (fun _ => .inl (q rfl))
   | lst q1 q2 q3 q4 q5 q6 =>
    subst q1
    exact .row (.lst0 (fun h => by cases h)) hr (Nat.le_refl _) (fun _ => .inl (q3 rfl))
theorem nilRow {f : FuncId} {vs : List V} {b : V} (h : GCall Try.prog f [] vs sNil [.agg [.p (.lst true 137 []), .map 1], b]) :
  GCall Try.prog f [] vs (sNil ++ [.row 0 137] ++ [.row 0 137]) [.agg [.row 4 0 (.lst false 137 []), .map 1], b] := by
 refine ⟨h.1, fun U κ w vals hS hA => (h.2 U κ w vals hS hA).mono ?_⟩
 rintro e w' ⟨v, κ', rfl, h1, h2, h3, h4⟩
 obtain ⟨g1, g2⟩ := h1.rowOff 137
 obtain ⟨k1, k2⟩ := g1.rowOff 137
 have e1 := Ext.append h1.len ⟨0, 0, 0, false⟩ (.row 0 137)
 have e2 := Ext.append g1.len ⟨0, 0, 0, false⟩ (.row 0 137)
 obtain ⟨xs, a, b⟩ := h2
 refine ⟨v, _, rfl, k1, ⟨xs, a, ?_⟩, (h3.trans g2).trans k2, (h4.trans e1).trans e2⟩
 cases b with | cons b1 b2 => cases b2 with | cons b2 b3 =>
  cases b3
  refine .cons ?_ (.cons ((b2.ext g2.pres e1).ext k2.pres e2) .nil)
  exact ⟨agg_row ((b1.ext g2.pres e1).ext k2.pres e2).1 rfl, b1.2⟩
def sBook : List SObj := [.dead, .map [], .dead, .dead, .row 0 137]
theorem read_row (l : List Msg) (x : Bool) (hl : l.length * 232 ≤ 140737488355328) :
  match rd l [] with
  | none => GCall Try.prog 146 [] [.p (.lst x 137 (l.map Msg.t))] [] [.p (.agg [.lst true 137 [], .nilM]), .p (.bool false)]
  | some us => GCall Try.prog 146 [] [.p (.lst x 137 (l.map Msg.t))] sBook [.agg [.row 4 0 (.lst false 137 (us.map Msg.t)), .map 1], .rb true] := by
 have h := read_ok l x hl
 revert h
 cases rd l [] with
 | none => exact id
 | some us =>
  cases us with
  | nil => exact fun h => GCall.kill (nilRow h) [0, 2, 3] (by kernel_rfl) (by kernel_rfl) (by kernel_rfl) (by kernel_rfl)
  | cons g us => exact fun h => GCall.kill h [0, 2, 3] (by kernel_rfl) (by kernel_rfl) (by kernel_rfl) (by kernel_rfl)
theorem of_row (us : List Msg) (vs : List T) (ms : List (T × T)) (ns : List (Int × Int)) (wh : Int) (hl : us.length * 232 ≤ 140737488355328) :
  match ofG ns wh us [] 0 0 with
  | none => GCall Try.prog 148 (TRR ms (ns.map eP)) [.agg [.row 2 0 (.lst false 137 (us.map Msg.t)), .map 0], .agg [.row 3 0 (.lst false 137 vs), .map 1], .p (.int .i64 wh)] (TRR ms (ns.map eP)) [.p (.agg [.lst true 36 [], .int .i64 0, .int .i64 0]), .p (.int .i64 20)]
  | some ([], pd, al) => GCall Try.prog 148 (TRR ms (ns.map eP)) [.agg [.row 2 0 (.lst false 137 (us.map Msg.t)), .map 0], .agg [.row 3 0 (.lst false 137 vs), .map 1], .p (.int .i64 wh)] (TRR ms (ns.map eP)) [.p (.agg [.lst true 36 [], .int .i64 pd, .int .i64 al]), .p (.int .i64 0)]
  | some (g :: ws, pd, al) => GCall Try.prog 148 (TRR ms (ns.map eP)) [.agg [.row 2 0 (.lst false 137 (us.map Msg.t)), .map 0], .agg [.row 3 0 (.lst false 137 vs), .map 1], .p (.int .i64 wh)] (TRR ms (ns.map eP) ++ [.dead, .dead, .dead, .dead, .dead, .row 0 36]) [.agg [.row 9 0 (.lst false 36 ((g :: ws).map (hT wh))), .p (.int .i64 pd), .p (.int .i64 al)], .p (.int .i64 0)] := by
 have h := ofRR us vs ms ns wh hl
 revert h
 cases ofG ns wh us [] 0 0 with
 | none => exact id
 | some q =>
  obtain ⟨ws, pd, al⟩ := q
  cases ws with
  | nil => exact id
  | cons g ws => exact fun h => GCall.kill h [4, 5, 6, 7, 8] (by kernel_rfl) (by kernel_rfl) (by kernel_rfl) (by kernel_rfl)
end Go.HM.Up
