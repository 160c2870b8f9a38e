/- REG, part D: RegistryHolds. -/
import Derived.Test.YtaopgmkjeimpiaaRgC
import Derived.Test.YtaopgmkjeimpiaaHmRow
set_option maxRecDepth 100000
namespace Go.HM.Rg
open Go.Proofs Go.HM.Kec

/-- The state ahead of a round, nothing held yet. -/
def SA (s : List Int) (am : List T) (b : Bool) (k : Int) : St := ⟨197, [(1, .p (.lst false 1 am)), (2, .p (.bool b)), (3, .ptr 0 0), (7, .ptr 3 0), (9, .ptr 4 0), (10, .p (.int .i64 0)), (11, .p (.int .i64 0)), (12, .p (.int .i64 k))], [.box (.p (.ba 32 (s))), .box (.p (rulesT)), .map [], .box (.agg [.p (.int .i64 3), .p (rulesT), .p (.int .i64 20), .cv 9 0 0 1 1, .map 2]), .box (.p ((iv s))), .box (.p ((iv s))), .box (.p (.ba 32 Zb)), .box (.p (.agg [(iv s), .ba 32 Zb, .int .i64 1, .lst true 1 [], .int .i64 0])), .box (.agg [.ptr 7 0]), .vec 0 (.agg [.ptr 7 0])]⟩
/-- The state ahead of a round, something held. -/
def SB (s : List Int) (am ps : List T) (es : List (T × T)) (b : Bool) (k sm n tt x y : Int) : St := ⟨197, [(1, .p (.lst false 1 am)), (2, .p (.bool b)), (3, .ptr 0 0), (7, .ptr 3 0), (9, .ptr 4 0), (10, .p (.int .i64 sm)), (11, .p (.int .i64 n)), (12, .p (.int .i64 k))], [.box (.p (.ba 32 (s))), .box (.p (rulesT)), .map (((hk x), .bool true) :: es), .box (.agg [.p (.int .i64 3), .p (rulesT), .p (.int .i64 20), .cv 9 0 0 1 1, .map 2]), .box (.p ((iv s))), .box (.p ((iv s))), .box (.p (.ba 32 Zb)), .box (.agg [.p ((iv s)), .p (.ba 32 Zb), .p (.int .i64 tt), .cv 14 0 0 1 1, .p (.int .i64 0)]), .box (.agg [.ptr 7 0]), .vec 0 (.agg [.ptr 7 0]), .box (.p ((pT s x y))), .box (.p ((pT s x y))), .box (.agg [.p (.ba 32 Zb), .p (.int .i64 1), .row 15 0 (.lst false 137 (((pT s x y)) :: ps)), .p (.int .i64 sm)]), .box (.agg [.ptr 12 0]), .vec 0 (.agg [.ptr 12 0]), .row 0 137]⟩
def LA_T0 (s : List Int) (ps : List T) (es : List (T × T)) (sm x y : Int) : St := ⟨37, [(0, .ptr 3 0), (2, .clo 88 [.ptr 17 0]), (7, .p (.lst true 36 [])), (11, .row 15 0 (.lst false 137 (((pT s x y)) :: ps))), (12, .p (.int .i64 (((((pT s x y)) :: ps)).length : Int))), (13, .p (.int .i64 0))], [.box (.p (.ba 32 (s))), .box (.p (rulesT)), .map (((hk x), .bool true) :: es), .box (.agg [.p (.int .i64 3), .p (rulesT), .p (.int .i64 20), .cv 9 0 0 1 1, .map 2]), .box (.p ((iv s))), .box (.p ((iv s))), .box (.p (.ba 32 Zb)), .box (.agg [.p ((iv s)), .p (.ba 32 Zb), .p (.int .i64 1), .cv 14 0 0 1 1, .p (.int .i64 0)]), .box (.agg [.ptr 7 0]), .vec 0 (.agg [.ptr 7 0]), .box (.p ((pT s x y))), .box (.p ((pT s x y))), .box (.agg [.p (.ba 32 Zb), .p (.int .i64 1), .row 15 0 (.lst false 137 (((pT s x y)) :: ps)), .p (.int .i64 sm)]), .box (.agg [.ptr 12 0]), .vec 0 (.agg [.ptr 12 0]), .row 0 137, .box (.p (.ba 32 E8)), .box (.p (.int .i64 10))]⟩
def LB_T0 (s : List Int) (ps os : List T) (ms : List (T × T)) (sm x y i : Int) : St := ⟨37, [(0, .ptr 3 0), (2, .clo 88 [.ptr 17 0]), (7, .row 20 0 (.lst false 36 os)), (11, .row 15 0 (.lst false 137 (((pT s x y)) :: ps))), (12, .p (.int .i64 (((((pT s x y)) :: ps)).length : Int))), (13, .p (.int .i64 i))], [.box (.p (.ba 32 (s))), .box (.p (rulesT)), .map ms, .box (.agg [.p (.int .i64 3), .p (rulesT), .p (.int .i64 20), .cv 9 0 0 1 1, .map 2]), .box (.p ((iv s))), .box (.p ((iv s))), .box (.p (.ba 32 Zb)), .box (.agg [.p ((iv s)), .p (.ba 32 Zb), .p (.int .i64 1), .cv 14 0 0 1 1, .p (.int .i64 0)]), .box (.agg [.ptr 7 0]), .vec 0 (.agg [.ptr 7 0]), .box (.p ((pT s x y))), .box (.p ((pT s x y))), .box (.agg [.p (.ba 32 Zb), .p (.int .i64 1), .row 15 0 (.lst false 137 (((pT s x y)) :: ps)), .p (.int .i64 sm)]), .box (.agg [.ptr 12 0]), .vec 0 (.agg [.ptr 12 0]), .row 0 137, .box (.p (.ba 32 E8)), .box (.p (.int .i64 10)), .box (.p ((pT s x y))), .box (.p (.agg [(hk x), .bool false, .ba 32 Zb, .int .i64 10])), .row 0 36]⟩
def LA_T2 (s : List Int) (ps : List T) (es : List (T × T)) (sm x y : Int) : St := ⟨37, [(0, .ptr 3 0), (2, .clo 88 [.ptr 17 0]), (7, .p (.lst true 36 [])), (11, .row 15 0 (.lst false 137 (((pT s x y)) :: ps))), (12, .p (.int .i64 (((((pT s x y)) :: ps)).length : Int))), (13, .p (.int .i64 0))], [.box (.p (.ba 32 (s))), .box (.p (rulesT)), .map (((hk x), .bool true) :: es), .box (.agg [.p (.int .i64 3), .p (rulesT), .p (.int .i64 20), .cv 9 0 0 1 1, .map 2]), .box (.p ((iv s))), .box (.p ((iv s))), .box (.p (.ba 32 Zb)), .box (.agg [.p ((iv s)), .p (.ba 32 Zb), .p (.int .i64 2), .cv 14 0 0 1 1, .p (.int .i64 0)]), .box (.agg [.ptr 7 0]), .vec 0 (.agg [.ptr 7 0]), .box (.p ((pT s x y))), .box (.p ((pT s x y))), .box (.agg [.p (.ba 32 Zb), .p (.int .i64 1), .row 15 0 (.lst false 137 (((pT s x y)) :: ps)), .p (.int .i64 sm)]), .box (.agg [.ptr 12 0]), .vec 0 (.agg [.ptr 12 0]), .row 0 137, .box (.p (.ba 32 E8)), .box (.p (.int .i64 10))]⟩
def LB_T2 (s : List Int) (ps os : List T) (ms : List (T × T)) (sm x y i : Int) : St := ⟨37, [(0, .ptr 3 0), (2, .clo 88 [.ptr 17 0]), (7, .row 20 0 (.lst false 36 os)), (11, .row 15 0 (.lst false 137 (((pT s x y)) :: ps))), (12, .p (.int .i64 (((((pT s x y)) :: ps)).length : Int))), (13, .p (.int .i64 i))], [.box (.p (.ba 32 (s))), .box (.p (rulesT)), .map ms, .box (.agg [.p (.int .i64 3), .p (rulesT), .p (.int .i64 20), .cv 9 0 0 1 1, .map 2]), .box (.p ((iv s))), .box (.p ((iv s))), .box (.p (.ba 32 Zb)), .box (.agg [.p ((iv s)), .p (.ba 32 Zb), .p (.int .i64 2), .cv 14 0 0 1 1, .p (.int .i64 0)]), .box (.agg [.ptr 7 0]), .vec 0 (.agg [.ptr 7 0]), .box (.p ((pT s x y))), .box (.p ((pT s x y))), .box (.agg [.p (.ba 32 Zb), .p (.int .i64 1), .row 15 0 (.lst false 137 (((pT s x y)) :: ps)), .p (.int .i64 sm)]), .box (.agg [.ptr 12 0]), .vec 0 (.agg [.ptr 12 0]), .row 0 137, .box (.p (.ba 32 E8)), .box (.p (.int .i64 10)), .box (.p ((pT s x y))), .box (.p (.agg [(hk x), .bool false, .ba 32 Zb, .int .i64 10])), .row 0 36]⟩
def LA_T3 (s : List Int) (ps : List T) (es : List (T × T)) (sm x y : Int) : St := ⟨37, [(0, .ptr 3 0), (2, .clo 89 [.ptr 19 0]), (7, .p (.lst true 36 [])), (11, .row 15 0 (.lst false 137 (((pT s x y)) :: ps))), (12, .p (.int .i64 (((((pT s x y)) :: ps)).length : Int))), (13, .p (.int .i64 0))], [.box (.p (.ba 32 (s))), .box (.p (rulesT)), .map (((hk x), .bool true) :: es), .box (.agg [.p (.int .i64 3), .p (rulesT), .p (.int .i64 20), .cv 9 0 0 1 1, .map 2]), .box (.p ((iv s))), .box (.p ((iv s))), .box (.p (.ba 32 Zb)), .box (.agg [.p ((iv s)), .p (.ba 32 Zb), .p (.int .i64 2), .cv 14 0 0 1 1, .p (.int .i64 0)]), .box (.agg [.ptr 7 0]), .vec 0 (.agg [.ptr 7 0]), .box (.p ((pT s x y))), .box (.p ((pT s x y))), .box (.agg [.p (.ba 32 Zb), .p (.int .i64 1), .row 15 0 (.lst false 137 (((pT s x y)) :: ps)), .p (.int .i64 sm)]), .box (.agg [.ptr 12 0]), .vec 0 (.agg [.ptr 12 0]), .row 0 137, .box (.p (.ba 32 (hashF s))), .box (.p (.ba 32 (s))), .box (.ptr 12 0), .box (.clo 50 [.ptr 17 0])]⟩
def LB_T3 (s : List Int) (ps os : List T) (ms : List (T × T)) (sm x y i : Int) : St := ⟨37, [(0, .ptr 3 0), (2, .clo 89 [.ptr 19 0]), (7, .row 22 0 (.lst false 36 os)), (11, .row 15 0 (.lst false 137 (((pT s x y)) :: ps))), (12, .p (.int .i64 (((((pT s x y)) :: ps)).length : Int))), (13, .p (.int .i64 i))], [.box (.p (.ba 32 (s))), .box (.p (rulesT)), .map ms, .box (.agg [.p (.int .i64 3), .p (rulesT), .p (.int .i64 20), .cv 9 0 0 1 1, .map 2]), .box (.p ((iv s))), .box (.p ((iv s))), .box (.p (.ba 32 Zb)), .box (.agg [.p ((iv s)), .p (.ba 32 Zb), .p (.int .i64 2), .cv 14 0 0 1 1, .p (.int .i64 0)]), .box (.agg [.ptr 7 0]), .vec 0 (.agg [.ptr 7 0]), .box (.p ((pT s x y))), .box (.p ((pT s x y))), .box (.agg [.p (.ba 32 Zb), .p (.int .i64 1), .row 15 0 (.lst false 137 (((pT s x y)) :: ps)), .p (.int .i64 sm)]), .box (.agg [.ptr 12 0]), .vec 0 (.agg [.ptr 12 0]), .row 0 137, .box (.p (.ba 32 (hashF s))), .box (.p (.ba 32 (s))), .box (.ptr 12 0), .box (.clo 50 [.ptr 17 0]), .box (.p ((pT s x y))), .box (.p (.agg [(hk x), .bool true, .ba 32 (s), .int .i64 0])), .row 0 36]⟩

theorem CodeG.normE {P : Program} {n m k : Nat} {c : Code} {st st1 st2 : St} {e : Ex} (h : CodeG P n c st e st1) (hm : n ≤ m) (hk : n ≤ k) (keep : List Nat) (e2 : st1.norm m k keep = st2) : CodeG P n c st e st2 := e2 ▸ h.norm hm hk keep
theorem LoopG.preE {P : Program} {n m k : Nat} {c : Code} {st st0 st' : St} {e : Ex} (hm : n ≤ m) (hk : n ≤ k) (keep : List Nat) (e2 : st.norm m k keep = st0) (h : LoopG P n c st0 e st') : LoopG P n c st e st' := LoopG.pre hm hk keep (by rw [e2]; exact h)

/-- A part, an entry, and what is done with it. -/
def pP (s : List Int) (q : Int × Int) : T := pT s q.1 q.2
def eP (q : Int × Int) : T × T := (hk q.1, .bool true)
def actF (s : List Int) (q : Int × Int) : T := .agg [(hk q.1), .bool false, .ba 32 Zb, .int .i64 10]
def actP (s : List Int) (q : Int × Int) : T := .agg [(hk q.1), .bool true, .ba 32 (s), .int .i64 0]

theorem fits_hk (u : Int) : fits Try.prog 10 39 (hk u) = true := by kernel_rfl
theorem keys_ok : ∀ L : List (Int × Int), keysOk Try.prog 39 (L.map eP) = true
  | [] => rfl
  | q :: L => by simp only [List.map_cons, eP, keysOk, fits_hk, Bool.true_and]; exact keys_ok L
theorem eq_hk (a b : Int) : T.eqB (hk a) (hk b) = (a == b) := by simp [hk, T.eqB, T.eqsB]
theorem find_here (u : Int) (ms : List (T × T)) : findT (hk u) ((hk u, .bool true) :: ms) 0 = some (0, .bool true) := by
  simp only [findT, eq_hk, beq_self_eq_true, if_true]
theorem find_none (k : Int) : ∀ (L : List (Int × Int)) (i : Nat), (∀ q ∈ L, q.1 < k) → findT (hk k) (L.map eP) i = none
  | [], _, _ => rfl
  | q :: L, i, h => by
    have h1 : (k == q.1) = false := by have := h q (by simp); simp; omega
    simp only [List.map_cons, eP, findT, eq_hk, h1, Bool.false_eq_true, if_false]
    exact find_none k L (i + 1) (fun r hr => h r (by simp [hr]))


theorem loop_T0 (s : List Int) (sm : Int) (x y : Int) (L : List (Int × Int)) (hL : L.length < 1000) : ∀ (R pre : List (Int × Int)), (x, y) :: L = pre ++ R → pre ≠ [] →
    LoopG Try.prog 18 (loopAt Try.f87 0) (LB_T0 s (L.map (pP s)) (pre.map (actF s)) (R.map eP) sm x y (pre.length : Int)) (.exit 0) (LB_T0 s (L.map (pP s)) (((x, y) :: L).map (actF s)) [] sm x y ((L.length : Int) + 1))
  | [], pre, he, hn => by
    have hp : pre = (x, y) :: L := by rw [he]; simp
    have hl : (pre.length : Int) = (L.length : Int) + 1 := by rw [hp]; simp
    rw [hl, hp]
    refine LoopG.leave (CodeG.normE (bodyK_sound (Ch_ok _ _) (lets3_T0 s (L.map (pP s)) (((x, y) :: L).map (actF s)) [] sm x y 0 0 ((L.length : Int) + 1)) ?_) (by omega) (by omega) [0, 2, 7, 11, 12, 13] (m := 18) (k := 21) (by kernel_rfl)) rfl
    refine ⟨by simp, trivial⟩
  | q :: R, pre, he, hn => by
    obtain ⟨u, v⟩ := q
    have hlen : pre.length + (R.length + 1) = L.length + 1 := by have := congrArg List.length he; simp at this; omega
    have hget : (pT s x y :: L.map (pP s))[((pre.length : Int) : Int).toNat]? = some (pT s u v) := by
      have : (pT s x y :: L.map (pP s)) = ((x, y) :: L).map (pP s) := rfl
      rw [this, he]
      simp [pP]
    have h1 := CodeG.normE (bodyK_sound (Ch_ok _ _) (lets2_T0 s (L.map (pP s)) (pre.map (actF s)) (R.map eP) sm x y u v (pre.length : Int)) ⟨by simp; omega, by rw [Bool.and_eq_true]; exact ⟨fits_hk u, keys_ok ((u, v) :: R)⟩, find_here u _, ⟨by omega, hget⟩, by simp; omega, trivial⟩) (by omega) (by omega) [0, 2, 7, 11, 12, 13] (m := 18) (k := 21) (st2 := LB_T0 s (L.map (pP s)) (pre.map (actF s) ++ [actF s (u, v)]) (R.map eP) sm x y (IntKind.i64.wrap ((pre.length : Int) + 1))) (by kernel_rfl)
    rw [w64 (by omega) (by omega)] at h1
    have ih := loop_T0 s sm x y L hL R (pre ++ [(u, v)]) (by rw [he]; simp) (by simp)
    simp only [List.map_append, List.map_cons, List.map_nil, List.length_append, List.length_cons, List.length_nil] at ih
    refine LoopG.next h1 ?_
    have hc : (((pre.length + (0 + 1) : Nat)) : Int) = (pre.length : Int) + 1 := by omega
    rw [hc] at ih
    exact ih

theorem lets_ok_T0 (s : List Int) (sm x y : Int) (L : List (Int × Int)) (hL : L.length < 1000) : LoopG Try.prog 18 (loopAt Try.f87 0) (LA_T0 s (L.map (pP s)) (L.map eP) sm x y) (.exit 0) (LB_T0 s (L.map (pP s)) (((x, y) :: L).map (actF s)) [] sm x y ((L.length : Int) + 1)) := by
  have h1 := CodeG.normE (bodyK_sound (Ch_ok _ _) (lets1_T0 s (L.map (pP s)) (L.map eP) sm x y) ⟨by simp, by rw [Bool.and_eq_true]; exact ⟨fits_hk x, keys_ok ((x, y) :: L)⟩, find_here x _, ⟨by omega, rfl⟩, by simp <;> omega, trivial⟩) (by omega) (by omega) [0, 2, 7, 11, 12, 13] (m := 18) (k := 21) (st2 := LB_T0 s (L.map (pP s)) [actF s (x, y)] (L.map eP) sm x y 1) (by kernel_rfl)
  exact LoopG.next h1 (loop_T0 s sm x y L hL L [(x, y)] rfl (by simp))


theorem loop_T2 (s : List Int) (sm : Int) (x y : Int) (L : List (Int × Int)) (hL : L.length < 1000) : ∀ (R pre : List (Int × Int)), (x, y) :: L = pre ++ R → pre ≠ [] →
    LoopG Try.prog 18 (loopAt Try.f87 0) (LB_T2 s (L.map (pP s)) (pre.map (actF s)) (R.map eP) sm x y (pre.length : Int)) (.exit 0) (LB_T2 s (L.map (pP s)) (((x, y) :: L).map (actF s)) [] sm x y ((L.length : Int) + 1))
  | [], pre, he, hn => by
    have hp : pre = (x, y) :: L := by rw [he]; simp
    have hl : (pre.length : Int) = (L.length : Int) + 1 := by rw [hp]; simp
    rw [hl, hp]
    refine LoopG.leave (CodeG.normE (bodyK_sound (Ch_ok _ _) (lets3_T2 s (L.map (pP s)) (((x, y) :: L).map (actF s)) [] sm x y 0 0 ((L.length : Int) + 1)) ?_) (by omega) (by omega) [0, 2, 7, 11, 12, 13] (m := 18) (k := 21) (by kernel_rfl)) rfl
    refine ⟨by simp, trivial⟩
  | q :: R, pre, he, hn => by
    obtain ⟨u, v⟩ := q
    have hlen : pre.length + (R.length + 1) = L.length + 1 := by have := congrArg List.length he; simp at this; omega
    have hget : (pT s x y :: L.map (pP s))[((pre.length : Int) : Int).toNat]? = some (pT s u v) := by
      have : (pT s x y :: L.map (pP s)) = ((x, y) :: L).map (pP s) := rfl
      rw [this, he]
      simp [pP]
    have h1 := CodeG.normE (bodyK_sound (Ch_ok _ _) (lets2_T2 s (L.map (pP s)) (pre.map (actF s)) (R.map eP) sm x y u v (pre.length : Int)) ⟨by simp; omega, by rw [Bool.and_eq_true]; exact ⟨fits_hk u, keys_ok ((u, v) :: R)⟩, find_here u _, ⟨by omega, hget⟩, by simp; omega, trivial⟩) (by omega) (by omega) [0, 2, 7, 11, 12, 13] (m := 18) (k := 21) (st2 := LB_T2 s (L.map (pP s)) (pre.map (actF s) ++ [actF s (u, v)]) (R.map eP) sm x y (IntKind.i64.wrap ((pre.length : Int) + 1))) (by kernel_rfl)
    rw [w64 (by omega) (by omega)] at h1
    have ih := loop_T2 s sm x y L hL R (pre ++ [(u, v)]) (by rw [he]; simp) (by simp)
    simp only [List.map_append, List.map_cons, List.map_nil, List.length_append, List.length_cons, List.length_nil] at ih
    refine LoopG.next h1 ?_
    have hc : (((pre.length + (0 + 1) : Nat)) : Int) = (pre.length : Int) + 1 := by omega
    rw [hc] at ih
    exact ih

theorem lets_ok_T2 (s : List Int) (sm x y : Int) (L : List (Int × Int)) (hL : L.length < 1000) : LoopG Try.prog 18 (loopAt Try.f87 0) (LA_T2 s (L.map (pP s)) (L.map eP) sm x y) (.exit 0) (LB_T2 s (L.map (pP s)) (((x, y) :: L).map (actF s)) [] sm x y ((L.length : Int) + 1)) := by
  have h1 := CodeG.normE (bodyK_sound (Ch_ok _ _) (lets1_T2 s (L.map (pP s)) (L.map eP) sm x y) ⟨by simp, by rw [Bool.and_eq_true]; exact ⟨fits_hk x, keys_ok ((x, y) :: L)⟩, find_here x _, ⟨by omega, rfl⟩, by simp <;> omega, trivial⟩) (by omega) (by omega) [0, 2, 7, 11, 12, 13] (m := 18) (k := 21) (st2 := LB_T2 s (L.map (pP s)) [actF s (x, y)] (L.map eP) sm x y 1) (by kernel_rfl)
  exact LoopG.next h1 (loop_T2 s sm x y L hL L [(x, y)] rfl (by simp))


theorem loop_T3 (s : List Int) (sm : Int) (x y : Int) (L : List (Int × Int)) (hL : L.length < 1000) : ∀ (R pre : List (Int × Int)), (x, y) :: L = pre ++ R → pre ≠ [] →
    LoopG Try.prog 20 (loopAt Try.f87 0) (LB_T3 s (L.map (pP s)) (pre.map (actP s)) (R.map eP) sm x y (pre.length : Int)) (.exit 0) (LB_T3 s (L.map (pP s)) (((x, y) :: L).map (actP s)) [] sm x y ((L.length : Int) + 1))
  | [], pre, he, hn => by
    have hp : pre = (x, y) :: L := by rw [he]; simp
    have hl : (pre.length : Int) = (L.length : Int) + 1 := by rw [hp]; simp
    rw [hl, hp]
    refine LoopG.leave (CodeG.normE (bodyK_sound (Ch_ok _ _) (lets3_T3 s (L.map (pP s)) (((x, y) :: L).map (actP s)) [] sm x y 0 0 ((L.length : Int) + 1)) ?_) (by omega) (by omega) [0, 2, 7, 11, 12, 13] (m := 20) (k := 23) (by kernel_rfl)) rfl
    refine ⟨by simp, trivial⟩
  | q :: R, pre, he, hn => by
    obtain ⟨u, v⟩ := q
    have hlen : pre.length + (R.length + 1) = L.length + 1 := by have := congrArg List.length he; simp at this; omega
    have hget : (pT s x y :: L.map (pP s))[((pre.length : Int) : Int).toNat]? = some (pT s u v) := by
      have : (pT s x y :: L.map (pP s)) = ((x, y) :: L).map (pP s) := rfl
      rw [this, he]
      simp [pP]
    have h1 := CodeG.normE (bodyK_sound (Ch_ok _ _) (lets2_T3 s (L.map (pP s)) (pre.map (actP s)) (R.map eP) sm x y u v (pre.length : Int)) ⟨by simp; omega, by rw [Bool.and_eq_true]; exact ⟨fits_hk u, keys_ok ((u, v) :: R)⟩, find_here u _, ⟨by omega, hget⟩, by simp; omega, trivial⟩) (by omega) (by omega) [0, 2, 7, 11, 12, 13] (m := 20) (k := 23) (st2 := LB_T3 s (L.map (pP s)) (pre.map (actP s) ++ [actP s (u, v)]) (R.map eP) sm x y (IntKind.i64.wrap ((pre.length : Int) + 1))) (by kernel_rfl)
    rw [w64 (by omega) (by omega)] at h1
    have ih := loop_T3 s sm x y L hL R (pre ++ [(u, v)]) (by rw [he]; simp) (by simp)
    simp only [List.map_append, List.map_cons, List.map_nil, List.length_append, List.length_cons, List.length_nil] at ih
    refine LoopG.next h1 ?_
    have hc : (((pre.length + (0 + 1) : Nat)) : Int) = (pre.length : Int) + 1 := by omega
    rw [hc] at ih
    exact ih

theorem lets_ok_T3 (s : List Int) (sm x y : Int) (L : List (Int × Int)) (hL : L.length < 1000) : LoopG Try.prog 20 (loopAt Try.f87 0) (LA_T3 s (L.map (pP s)) (L.map eP) sm x y) (.exit 0) (LB_T3 s (L.map (pP s)) (((x, y) :: L).map (actP s)) [] sm x y ((L.length : Int) + 1)) := by
  have h1 := CodeG.normE (bodyK_sound (Ch_ok _ _) (lets1_T3 s (L.map (pP s)) (L.map eP) sm x y) ⟨by simp, by rw [Bool.and_eq_true]; exact ⟨fits_hk x, keys_ok ((x, y) :: L)⟩, find_here x _, ⟨by omega, rfl⟩, by simp <;> omega, trivial⟩) (by omega) (by omega) [0, 2, 7, 11, 12, 13] (m := 20) (k := 23) (st2 := LB_T3 s (L.map (pP s)) [actP s (x, y)] (L.map eP) sm x y 1) (by kernel_rfl)
  exact LoopG.next h1 (loop_T3 s sm x y L hL L [(x, y)] rfl (by simp))


theorem takes (s : List Int) (k a sm x y : Int) (L : List (Int × Int)) (h1 : 1 ≤ a) (h2 : a ≤ 1000) (h3 : 0 ≤ sm) (h4 : sm < 1000) (hL : L.length < 12) (hk : ∀ q ∈ (x, y) :: L, q.1 < k) : True := trivial


theorem lawB_true (s : List Int) (l : List Int) (hl : True) : ∀ (d : Nat) (k sm tt x y : Int) (L : List (Int × Int)), (12 - k).toNat = d → 0 ≤ k → k ≤ 12 → (L.length : Int) + 1 ≤ k → (∀ q ∈ (x, y) :: L, q.1 < k) → 0 ≤ sm → sm ≤ 2000 → (tt = 1 ∧ sm < 1000 ∨ tt = 2 ∧ 1000 ≤ sm) →
    ∃ (k' sm' tt' : Int) (L' : List (Int × Int)), L'.length < 12 ∧ 0 ≤ sm' ∧ sm' ≤ 2000 ∧ (tt' = 1 ∧ sm' < 1000 ∨ tt' = 2 ∧ 1000 ≤ sm') ∧ LoopG Try.prog 0 (loopAt Try.f4 0) (SB s (l.map (T.int .i64)) (L.map (pP s)) (L.map eP) true k sm ((L.length : Int) + 1) tt x y) (.exit 0) (SB s (l.map (T.int .i64)) (L'.map (pP s)) (L'.map eP) true k' sm' ((L'.length : Int) + 1) tt' x y) := by
  intro d
  induction d with
  | zero =>
    intro k sm tt x y L hd h0 h12 hLk hq hs0 hs1 htt
    have hk : k = 12 := by omega
    subst hk
    refine ⟨12, sm, tt, L, by omega, hs0, hs1, htt, ?_⟩
    by_cases hc : (12 : Int) < l.length
    · exact LoopG.leave (bodyK_sound (Ch_ok _ _) (bodyB5_true s (l.map (T.int .i64)) (L.map (pP s)) (L.map eP) 12 0 sm tt ((L.length : Int) + 1) x y) ⟨by simp, by simp; omega, trivial⟩) rfl
    · exact LoopG.leave (bodyK_sound (Ch_ok _ _) (bodyB4_true s (l.map (T.int .i64)) (L.map (pP s)) (L.map eP) 12 0 sm tt ((L.length : Int) + 1) x y) ⟨by simp; omega, trivial⟩) rfl
  | succ d ih =>
    intro k sm tt x y L hd h0 h12 hLk hq hs0 hs1 htt
    have hk : k < 12 := by omega
    have hL12 : L.length < 12 := by omega
    by_cases hc : k < l.length
    · by_cases hsm : sm < 1000
      · have ht1 : tt = 1 := by omega
        subst ht1
        obtain ⟨a, ha⟩ : ∃ a, l[k.toNat]? = some a := ⟨l[k.toNat]'(by omega), List.getElem?_eq_getElem (by omega)⟩
        have hget : (l.map (T.int .i64))[(k : Int).toNat]? = some (.int .i64 a) := by rw [List.getElem?_map, ha]; rfl
        have hlt : decide (k < (((l.map (T.int .i64)).length : Nat) : Int)) = true := by simp; omega
        have wk : IntKind.i64.wrap (k + 1) = k + 1 := w64 (by omega) (by omega)
        by_cases c1 : a < 1
        · obtain ⟨k', sm', tt', L', g1, g2, g3, g4, g5⟩ := ih (k + 1) sm 1 x y L (by omega) (by omega) (by omega) (by omega) (fun q hq' => by have := hq q hq'; omega) hs0 hs1 htt
          refine ⟨k', sm', tt', L', g1, g2, g3, g4, LoopG.next ?_ g5⟩
          have h1 := CodeG.normE (bodyK_sound (Ch_ok _ _) (bodyB0_true s (l.map (T.int .i64)) (L.map (pP s)) (L.map eP) k a sm 1 ((L.length : Int) + 1) x y) ⟨by simpa using c1, ⟨h0, hget⟩, by simpa using hsm, by simpa using hk, hlt, trivial⟩) (by omega) (by omega) [1, 2, 3, 7, 9, 10, 11, 12] (m := 0) (k := 16) (st2 := SB s (l.map (T.int .i64)) (L.map (pP s)) (L.map eP) true (IntKind.i64.wrap (k + 1)) sm ((L.length : Int) + 1) 1 x y) (by kernel_rfl)
          rw [wk] at h1
          exact h1
        by_cases c2 : a > 1000
        · obtain ⟨k', sm', tt', L', g1, g2, g3, g4, g5⟩ := ih (k + 1) sm 1 x y L (by omega) (by omega) (by omega) (by omega) (fun q hq' => by have := hq q hq'; omega) hs0 hs1 htt
          refine ⟨k', sm', tt', L', g1, g2, g3, g4, LoopG.next ?_ g5⟩
          have h1 := CodeG.normE (bodyK_sound (Ch_ok _ _) (bodyB1_true s (l.map (T.int .i64)) (L.map (pP s)) (L.map eP) k a sm 1 ((L.length : Int) + 1) x y) ⟨by simpa using c2, by simpa using c1, ⟨h0, hget⟩, by simpa using hsm, by simpa using hk, hlt, trivial⟩) (by omega) (by omega) [1, 2, 3, 7, 9, 10, 11, 12] (m := 0) (k := 16) (st2 := SB s (l.map (T.int .i64)) (L.map (pP s)) (L.map eP) true (IntKind.i64.wrap (k + 1)) sm ((L.length : Int) + 1) 1 x y) (by kernel_rfl)
          rw [wk] at h1
          exact h1
        have wsm : IntKind.i64.wrap (sm + a) = sm + a := w64 (by omega) (by omega)
        have w2 : IntKind.i64.wrap (2000 - sm) = 2000 - sm := w64 (by omega) (by omega)
        have wn : IntKind.i64.wrap ((L.length : Int) + 1 + 1) = (L.length : Int) + 1 + 1 := w64 (by omega) (by omega)
        have hfk : (fits Try.prog 10 39 (Rg.hk k) && keysOk Try.prog 39 ((Rg.hk x, T.bool true) :: L.map eP)) = true := by rw [Bool.and_eq_true]; exact ⟨fits_hk k, keys_ok ((x, y) :: L)⟩
        have hfn : findT (Rg.hk k) ((Rg.hk x, T.bool true) :: L.map eP) 0 = none := find_none k ((x, y) :: L) 0 hq
        have hlen1 : (L ++ [(k, a)]).length = L.length + 1 := by simp
        have fin : ∀ (tt2 : Int), CodeG Try.prog 0 (loopAt Try.f4 0) (SB s (l.map (T.int .i64)) (L.map (pP s)) (L.map eP) true k sm ((L.length : Int) + 1) 1 x y) .normal (SB s (l.map (T.int .i64)) (L.map (pP s) ++ [pT s k a]) (L.map eP ++ [(Rg.hk k, T.bool true)]) true (IntKind.i64.wrap (k + 1)) (IntKind.i64.wrap (sm + a)) (IntKind.i64.wrap ((L.length : Int) + 1 + 1)) tt2 x y) → (tt2 = 1 ∧ sm + a < 1000 ∨ tt2 = 2 ∧ 1000 ≤ sm + a) →
            ∃ (k' sm' tt' : Int) (L' : List (Int × Int)), L'.length < 12 ∧ 0 ≤ sm' ∧ sm' ≤ 2000 ∧ (tt' = 1 ∧ sm' < 1000 ∨ tt' = 2 ∧ 1000 ≤ sm') ∧ LoopG Try.prog 0 (loopAt Try.f4 0) (SB s (l.map (T.int .i64)) (L.map (pP s)) (L.map eP) true k sm ((L.length : Int) + 1) 1 x y) (.exit 0) (SB s (l.map (T.int .i64)) (L'.map (pP s)) (L'.map eP) true k' sm' ((L'.length : Int) + 1) tt' x y) := by
          intro tt2 h1 htt2
          obtain ⟨k', sm', tt', L', g1, g2, g3, g4, g5⟩ := ih (k + 1) (sm + a) tt2 x y (L ++ [(k, a)]) (by omega) (by omega) (by omega) (by rw [hlen1]; omega) (fun q hq' => by
            rcases List.mem_cons.1 hq' with rfl | hq'
            · have := hq _ (List.mem_cons_self); omega
            · rcases List.mem_append.1 hq' with hq' | hq'
              · have := hq q (List.mem_cons_of_mem _ hq'); omega
              · simp at hq'; subst hq'; simp; omega) (by omega) (by omega) htt2
          refine ⟨k', sm', tt', L', g1, g2, g3, g4, LoopG.next ?_ g5⟩
          rw [wk, wsm, wn] at h1
          have e1 : (L ++ [(k, a)]).map (pP s) = L.map (pP s) ++ [pT s k a] := by simp [pP]
          have e2 : (L ++ [(k, a)]).map eP = L.map eP ++ [(Rg.hk k, T.bool true)] := by simp [eP]
          have e3 : (((L ++ [(k, a)]).length : Nat) : Int) + 1 = (L.length : Int) + 1 + 1 := by simp
          rw [e1, e2, e3]
          exact h1
        by_cases c3 : sm + a < 1000
        · have ht := topK_sound (Ch_ok _ _) (takeB2 s (L.map (pP s)) (L.map eP) k a sm x y) ⟨by rw [wsm]; simpa using c3, hfk, hfn, by simp; omega, by simp; omega, by rw [w2]; simp; omega, by simp; omega, by simp; omega, by simp; omega, by simp; omega, by simp, by simp; omega, by simp, hfk, hfn, trivial⟩
          exact fin 1 (CodeG.normE (bodyK_sound (Ch_ok _ _) (bodyB2_true s (l.map (T.int .i64)) (L.map (pP s)) (L.map eP) k a sm ((L.length : Int) + 1) x y) ⟨ht, by simpa using c2, by simpa using c1, ⟨h0, hget⟩, by simpa using hsm, by simpa using hk, hlt, trivial⟩) (by omega) (by omega) [1, 2, 3, 7, 9, 10, 11, 12] (m := 0) (k := 16) (by kernel_rfl)) (.inl ⟨rfl, c3⟩)
        · have ht := topK_sound (Ch_ok _ _) (takeB3 s (L.map (pP s)) (L.map eP) k a sm x y) ⟨by rw [wsm]; simpa using c3, hfk, hfn, by simp; omega, by simp; omega, by rw [w2]; simp; omega, by simp; omega, by simp; omega, by simp; omega, by simp; omega, by simp, by simp; omega, by simp, hfk, hfn, trivial⟩
          exact fin 2 (CodeG.normE (bodyK_sound (Ch_ok _ _) (bodyB3_true s (l.map (T.int .i64)) (L.map (pP s)) (L.map eP) k a sm ((L.length : Int) + 1) x y) ⟨ht, by simpa using c2, by simpa using c1, ⟨h0, hget⟩, by simpa using hsm, by simpa using hk, hlt, trivial⟩) (by omega) (by omega) [1, 2, 3, 7, 9, 10, 11, 12] (m := 0) (k := 16) (by kernel_rfl)) (.inr ⟨rfl, by omega⟩)
      · refine ⟨k, sm, tt, L, hL12, hs0, hs1, htt, ?_⟩
        exact LoopG.leave (bodyK_sound (Ch_ok _ _) (bodyB6_true s (l.map (T.int .i64)) (L.map (pP s)) (L.map eP) k 0 sm tt ((L.length : Int) + 1) x y) ⟨by simpa using hsm, by simpa using hk, by simp; omega, trivial⟩) rfl
    · refine ⟨k, sm, tt, L, hL12, hs0, hs1, htt, ?_⟩
      exact LoopG.leave (bodyK_sound (Ch_ok _ _) (bodyB4_true s (l.map (T.int .i64)) (L.map (pP s)) (L.map eP) k 0 sm tt ((L.length : Int) + 1) x y) ⟨by simp; omega, trivial⟩) rfl

theorem lawA_true (s : List Int) (l : List Int) (hl : True) : ∀ (d : Nat) (k : Int), (12 - k).toNat = d → 0 ≤ k → k ≤ 12 →
    (∃ k', LoopG Try.prog 0 (loopAt Try.f4 0) (SA s (l.map (T.int .i64)) true k) (.exit 0) (SA s (l.map (T.int .i64)) true k')) ∨
    ∃ (k' sm' tt' x y : Int) (L' : List (Int × Int)), L'.length < 12 ∧ 0 ≤ sm' ∧ sm' ≤ 2000 ∧ (tt' = 1 ∧ sm' < 1000 ∨ tt' = 2 ∧ 1000 ≤ sm') ∧ LoopG Try.prog 0 (loopAt Try.f4 0) (SA s (l.map (T.int .i64)) true k) (.exit 0) (SB s (l.map (T.int .i64)) (L'.map (pP s)) (L'.map eP) true k' sm' ((L'.length : Int) + 1) tt' x y) := by
  intro d
  induction d with
  | zero =>
    intro k hd h0 h12
    have hk : k = 12 := by omega
    subst hk
    refine .inl ⟨12, ?_⟩
    by_cases hc : (12 : Int) < l.length
    · exact LoopG.leave (bodyK_sound (Ch_ok _ _) (bodyA5_true s (l.map (T.int .i64)) 12 0) ⟨by simp, by simp; omega, trivial⟩) rfl
    · exact LoopG.leave (bodyK_sound (Ch_ok _ _) (bodyA4_true s (l.map (T.int .i64)) 12 0) ⟨by simp; omega, trivial⟩) rfl
  | succ d ih =>
    intro k hd h0 h12
    have hk : k < 12 := by omega
    by_cases hc : k < l.length
    · obtain ⟨a, ha⟩ : ∃ a, l[k.toNat]? = some a := ⟨l[k.toNat]'(by omega), List.getElem?_eq_getElem (by omega)⟩
      have hget : (l.map (T.int .i64))[(k : Int).toNat]? = some (.int .i64 a) := by rw [List.getElem?_map, ha]; rfl
      have hlt : decide (k < (((l.map (T.int .i64)).length : Nat) : Int)) = true := by simp; omega
      have wk : IntKind.i64.wrap (k + 1) = k + 1 := w64 (by omega) (by omega)
      have skip : CodeG Try.prog 0 (loopAt Try.f4 0) (SA s (l.map (T.int .i64)) true k) .normal (SA s (l.map (T.int .i64)) true (IntKind.i64.wrap (k + 1))) → 
          (∃ k', LoopG Try.prog 0 (loopAt Try.f4 0) (SA s (l.map (T.int .i64)) true k) (.exit 0) (SA s (l.map (T.int .i64)) true k')) ∨
          ∃ (k' sm' tt' x y : Int) (L' : List (Int × Int)), L'.length < 12 ∧ 0 ≤ sm' ∧ sm' ≤ 2000 ∧ (tt' = 1 ∧ sm' < 1000 ∨ tt' = 2 ∧ 1000 ≤ sm') ∧ LoopG Try.prog 0 (loopAt Try.f4 0) (SA s (l.map (T.int .i64)) true k) (.exit 0) (SB s (l.map (T.int .i64)) (L'.map (pP s)) (L'.map eP) true k' sm' ((L'.length : Int) + 1) tt' x y) := by
        intro h1
        rw [wk] at h1
        rcases ih (k + 1) (by omega) (by omega) (by omega) with ⟨k', g⟩ | ⟨k', sm', tt', x, y, L', g1, g2, g3, g4, g5⟩
        · exact .inl ⟨k', LoopG.next h1 g⟩
        · exact .inr ⟨k', sm', tt', x, y, L', g1, g2, g3, g4, LoopG.next h1 g5⟩
      by_cases c1 : a < 1
      · exact skip (CodeG.normE (bodyK_sound (Ch_ok _ _) (bodyA0_true s (l.map (T.int .i64)) k a) ⟨by simpa using c1, ⟨h0, hget⟩, by simpa using hk, hlt, trivial⟩) (by omega) (by omega) [1, 2, 3, 7, 9, 10, 11, 12] (m := 0) (k := 10) (by kernel_rfl))
      by_cases c2 : a > 1000
      · exact skip (CodeG.normE (bodyK_sound (Ch_ok _ _) (bodyA1_true s (l.map (T.int .i64)) k a) ⟨by simpa using c2, by simpa using c1, ⟨h0, hget⟩, by simpa using hk, hlt, trivial⟩) (by omega) (by omega) [1, 2, 3, 7, 9, 10, 11, 12] (m := 0) (k := 10) (by kernel_rfl))
      have wsm : IntKind.i64.wrap (0 + a) = a := by rw [w64 (by omega) (by omega)]; omega
      have go : ∀ (tt2 : Int), CodeG Try.prog 0 (loopAt Try.f4 0) (SA s (l.map (T.int .i64)) true k) .normal (SB s (l.map (T.int .i64)) [] [] true (IntKind.i64.wrap (k + 1)) (IntKind.i64.wrap (0 + a)) 1 tt2 k a) → (tt2 = 1 ∧ a < 1000 ∨ tt2 = 2 ∧ 1000 ≤ a) →
          ∃ (k' sm' tt' x y : Int) (L' : List (Int × Int)), L'.length < 12 ∧ 0 ≤ sm' ∧ sm' ≤ 2000 ∧ (tt' = 1 ∧ sm' < 1000 ∨ tt' = 2 ∧ 1000 ≤ sm') ∧ LoopG Try.prog 0 (loopAt Try.f4 0) (SA s (l.map (T.int .i64)) true k) (.exit 0) (SB s (l.map (T.int .i64)) (L'.map (pP s)) (L'.map eP) true k' sm' ((L'.length : Int) + 1) tt' x y) := by
        intro tt2 h1 htt2
        rw [wk, wsm] at h1
        obtain ⟨k', sm', tt', L', g1, g2, g3, g4, g5⟩ := lawB_true s l hl _ (k + 1) a tt2 k a [] rfl (by omega) (by omega) (by simp; omega) (fun q hq => by simp at hq; subst hq; simp; omega) (by omega) (by omega) htt2
        exact ⟨k', sm', tt', k, a, L', g1, g2, g3, g4, LoopG.next h1 g5⟩
      by_cases c3 : a < 1000
      · exact .inr (go 1 (CodeG.normE (bodyK_sound (Ch_ok _ _) (bodyA2_true s (l.map (T.int .i64)) k a) ⟨by rw [wsm]; simpa using c3, by omega, by simp; omega, by simp; omega, by simp; omega, by simp, by simp; omega, by simp, by simpa using c2, by simpa using c1, ⟨h0, hget⟩, by simpa using hk, hlt, trivial⟩) (by omega) (by omega) [1, 2, 3, 7, 9, 10, 11, 12] (m := 0) (k := 16) (by kernel_rfl)) (.inl ⟨rfl, c3⟩))
      · exact .inr (go 2 (CodeG.normE (bodyK_sound (Ch_ok _ _) (bodyA3_true s (l.map (T.int .i64)) k a) ⟨by rw [wsm]; simpa using c3, by omega, by simp; omega, by simp; omega, by simp; omega, by simp, by simp; omega, by simp, by simpa using c2, by simpa using c1, ⟨h0, hget⟩, by simpa using hk, hlt, trivial⟩) (by omega) (by omega) [1, 2, 3, 7, 9, 10, 11, 12] (m := 0) (k := 16) (by kernel_rfl)) (.inr ⟨rfl, by omega⟩))
    · refine .inl ⟨k, ?_⟩
      exact LoopG.leave (bodyK_sound (Ch_ok _ _) (bodyA4_true s (l.map (T.int .i64)) k 0) ⟨by simp; omega, trivial⟩) rfl


theorem lawB_false (s : List Int) (l : List Int) (hl : True) : ∀ (d : Nat) (k sm tt x y : Int) (L : List (Int × Int)), (12 - k).toNat = d → 0 ≤ k → k ≤ 12 → (L.length : Int) + 1 ≤ k → (∀ q ∈ (x, y) :: L, q.1 < k) → 0 ≤ sm → sm ≤ 2000 → (tt = 1 ∧ sm < 1000 ∨ tt = 2 ∧ 1000 ≤ sm) →
    ∃ (k' sm' tt' : Int) (L' : List (Int × Int)), L'.length < 12 ∧ 0 ≤ sm' ∧ sm' ≤ 2000 ∧ (tt' = 1 ∧ sm' < 1000 ∨ tt' = 2 ∧ 1000 ≤ sm') ∧ LoopG Try.prog 0 (loopAt Try.f4 0) (SB s (l.map (T.int .i64)) (L.map (pP s)) (L.map eP) false k sm ((L.length : Int) + 1) tt x y) (.exit 0) (SB s (l.map (T.int .i64)) (L'.map (pP s)) (L'.map eP) false k' sm' ((L'.length : Int) + 1) tt' x y) := by
  intro d
  induction d with
  | zero =>
    intro k sm tt x y L hd h0 h12 hLk hq hs0 hs1 htt
    have hk : k = 12 := by omega
    subst hk
    refine ⟨12, sm, tt, L, by omega, hs0, hs1, htt, ?_⟩
    by_cases hc : (12 : Int) < l.length
    · exact LoopG.leave (bodyK_sound (Ch_ok _ _) (bodyB5_false s (l.map (T.int .i64)) (L.map (pP s)) (L.map eP) 12 0 sm tt ((L.length : Int) + 1) x y) ⟨by simp, by simp; omega, trivial⟩) rfl
    · exact LoopG.leave (bodyK_sound (Ch_ok _ _) (bodyB4_false s (l.map (T.int .i64)) (L.map (pP s)) (L.map eP) 12 0 sm tt ((L.length : Int) + 1) x y) ⟨by simp; omega, trivial⟩) rfl
  | succ d ih =>
    intro k sm tt x y L hd h0 h12 hLk hq hs0 hs1 htt
    have hk : k < 12 := by omega
    have hL12 : L.length < 12 := by omega
    by_cases hc : k < l.length
    · by_cases hsm : sm < 1000
      · have ht1 : tt = 1 := by omega
        subst ht1
        obtain ⟨a, ha⟩ : ∃ a, l[k.toNat]? = some a := ⟨l[k.toNat]'(by omega), List.getElem?_eq_getElem (by omega)⟩
        have hget : (l.map (T.int .i64))[(k : Int).toNat]? = some (.int .i64 a) := by rw [List.getElem?_map, ha]; rfl
        have hlt : decide (k < (((l.map (T.int .i64)).length : Nat) : Int)) = true := by simp; omega
        have wk : IntKind.i64.wrap (k + 1) = k + 1 := w64 (by omega) (by omega)
        by_cases c1 : a < 1
        · obtain ⟨k', sm', tt', L', g1, g2, g3, g4, g5⟩ := ih (k + 1) sm 1 x y L (by omega) (by omega) (by omega) (by omega) (fun q hq' => by have := hq q hq'; omega) hs0 hs1 htt
          refine ⟨k', sm', tt', L', g1, g2, g3, g4, LoopG.next ?_ g5⟩
          have h1 := CodeG.normE (bodyK_sound (Ch_ok _ _) (bodyB0_false s (l.map (T.int .i64)) (L.map (pP s)) (L.map eP) k a sm 1 ((L.length : Int) + 1) x y) ⟨by simpa using c1, ⟨h0, hget⟩, by simpa using hsm, by simpa using hk, hlt, trivial⟩) (by omega) (by omega) [1, 2, 3, 7, 9, 10, 11, 12] (m := 0) (k := 16) (st2 := SB s (l.map (T.int .i64)) (L.map (pP s)) (L.map eP) false (IntKind.i64.wrap (k + 1)) sm ((L.length : Int) + 1) 1 x y) (by kernel_rfl)
          rw [wk] at h1
          exact h1
        by_cases c2 : a > 1000
        · obtain ⟨k', sm', tt', L', g1, g2, g3, g4, g5⟩ := ih (k + 1) sm 1 x y L (by omega) (by omega) (by omega) (by omega) (fun q hq' => by have := hq q hq'; omega) hs0 hs1 htt
          refine ⟨k', sm', tt', L', g1, g2, g3, g4, LoopG.next ?_ g5⟩
          have h1 := CodeG.normE (bodyK_sound (Ch_ok _ _) (bodyB1_false s (l.map (T.int .i64)) (L.map (pP s)) (L.map eP) k a sm 1 ((L.length : Int) + 1) x y) ⟨by simpa using c2, by simpa using c1, ⟨h0, hget⟩, by simpa using hsm, by simpa using hk, hlt, trivial⟩) (by omega) (by omega) [1, 2, 3, 7, 9, 10, 11, 12] (m := 0) (k := 16) (st2 := SB s (l.map (T.int .i64)) (L.map (pP s)) (L.map eP) false (IntKind.i64.wrap (k + 1)) sm ((L.length : Int) + 1) 1 x y) (by kernel_rfl)
          rw [wk] at h1
          exact h1
        have wsm : IntKind.i64.wrap (sm + a) = sm + a := w64 (by omega) (by omega)
        have w2 : IntKind.i64.wrap (2000 - sm) = 2000 - sm := w64 (by omega) (by omega)
        have wn : IntKind.i64.wrap ((L.length : Int) + 1 + 1) = (L.length : Int) + 1 + 1 := w64 (by omega) (by omega)
        have hfk : (fits Try.prog 10 39 (Rg.hk k) && keysOk Try.prog 39 ((Rg.hk x, T.bool true) :: L.map eP)) = true := by rw [Bool.and_eq_true]; exact ⟨fits_hk k, keys_ok ((x, y) :: L)⟩
        have hfn : findT (Rg.hk k) ((Rg.hk x, T.bool true) :: L.map eP) 0 = none := find_none k ((x, y) :: L) 0 hq
        have hlen1 : (L ++ [(k, a)]).length = L.length + 1 := by simp
        have fin : ∀ (tt2 : Int), CodeG Try.prog 0 (loopAt Try.f4 0) (SB s (l.map (T.int .i64)) (L.map (pP s)) (L.map eP) false k sm ((L.length : Int) + 1) 1 x y) .normal (SB s (l.map (T.int .i64)) (L.map (pP s) ++ [pT s k a]) (L.map eP ++ [(Rg.hk k, T.bool true)]) false (IntKind.i64.wrap (k + 1)) (IntKind.i64.wrap (sm + a)) (IntKind.i64.wrap ((L.length : Int) + 1 + 1)) tt2 x y) → (tt2 = 1 ∧ sm + a < 1000 ∨ tt2 = 2 ∧ 1000 ≤ sm + a) →
            ∃ (k' sm' tt' : Int) (L' : List (Int × Int)), L'.length < 12 ∧ 0 ≤ sm' ∧ sm' ≤ 2000 ∧ (tt' = 1 ∧ sm' < 1000 ∨ tt' = 2 ∧ 1000 ≤ sm') ∧ LoopG Try.prog 0 (loopAt Try.f4 0) (SB s (l.map (T.int .i64)) (L.map (pP s)) (L.map eP) false k sm ((L.length : Int) + 1) 1 x y) (.exit 0) (SB s (l.map (T.int .i64)) (L'.map (pP s)) (L'.map eP) false k' sm' ((L'.length : Int) + 1) tt' x y) := by
          intro tt2 h1 htt2
          obtain ⟨k', sm', tt', L', g1, g2, g3, g4, g5⟩ := ih (k + 1) (sm + a) tt2 x y (L ++ [(k, a)]) (by omega) (by omega) (by omega) (by rw [hlen1]; omega) (fun q hq' => by
            rcases List.mem_cons.1 hq' with rfl | hq'
            · have := hq _ (List.mem_cons_self); omega
            · rcases List.mem_append.1 hq' with hq' | hq'
              · have := hq q (List.mem_cons_of_mem _ hq'); omega
              · simp at hq'; subst hq'; simp; omega) (by omega) (by omega) htt2
          refine ⟨k', sm', tt', L', g1, g2, g3, g4, LoopG.next ?_ g5⟩
          rw [wk, wsm, wn] at h1
          have e1 : (L ++ [(k, a)]).map (pP s) = L.map (pP s) ++ [pT s k a] := by simp [pP]
          have e2 : (L ++ [(k, a)]).map eP = L.map eP ++ [(Rg.hk k, T.bool true)] := by simp [eP]
          have e3 : (((L ++ [(k, a)]).length : Nat) : Int) + 1 = (L.length : Int) + 1 + 1 := by simp
          rw [e1, e2, e3]
          exact h1
        by_cases c3 : sm + a < 1000
        · have ht := topK_sound (Ch_ok _ _) (takeB2 s (L.map (pP s)) (L.map eP) k a sm x y) ⟨by rw [wsm]; simpa using c3, hfk, hfn, by simp; omega, by simp; omega, by rw [w2]; simp; omega, by simp; omega, by simp; omega, by simp; omega, by simp; omega, by simp, by simp; omega, by simp, hfk, hfn, trivial⟩
          exact fin 1 (CodeG.normE (bodyK_sound (Ch_ok _ _) (bodyB2_false s (l.map (T.int .i64)) (L.map (pP s)) (L.map eP) k a sm ((L.length : Int) + 1) x y) ⟨ht, by simpa using c2, by simpa using c1, ⟨h0, hget⟩, by simpa using hsm, by simpa using hk, hlt, trivial⟩) (by omega) (by omega) [1, 2, 3, 7, 9, 10, 11, 12] (m := 0) (k := 16) (by kernel_rfl)) (.inl ⟨rfl, c3⟩)
        · have ht := topK_sound (Ch_ok _ _) (takeB3 s (L.map (pP s)) (L.map eP) k a sm x y) ⟨by rw [wsm]; simpa using c3, hfk, hfn, by simp; omega, by simp; omega, by rw [w2]; simp; omega, by simp; omega, by simp; omega, by simp; omega, by simp; omega, by simp, by simp; omega, by simp, hfk, hfn, trivial⟩
          exact fin 2 (CodeG.normE (bodyK_sound (Ch_ok _ _) (bodyB3_false s (l.map (T.int .i64)) (L.map (pP s)) (L.map eP) k a sm ((L.length : Int) + 1) x y) ⟨ht, by simpa using c2, by simpa using c1, ⟨h0, hget⟩, by simpa using hsm, by simpa using hk, hlt, trivial⟩) (by omega) (by omega) [1, 2, 3, 7, 9, 10, 11, 12] (m := 0) (k := 16) (by kernel_rfl)) (.inr ⟨rfl, by omega⟩)
      · refine ⟨k, sm, tt, L, hL12, hs0, hs1, htt, ?_⟩
        exact LoopG.leave (bodyK_sound (Ch_ok _ _) (bodyB6_false s (l.map (T.int .i64)) (L.map (pP s)) (L.map eP) k 0 sm tt ((L.length : Int) + 1) x y) ⟨by simpa using hsm, by simpa using hk, by simp; omega, trivial⟩) rfl
    · refine ⟨k, sm, tt, L, hL12, hs0, hs1, htt, ?_⟩
      exact LoopG.leave (bodyK_sound (Ch_ok _ _) (bodyB4_false s (l.map (T.int .i64)) (L.map (pP s)) (L.map eP) k 0 sm tt ((L.length : Int) + 1) x y) ⟨by simp; omega, trivial⟩) rfl

theorem lawA_false (s : List Int) (l : List Int) (hl : True) : ∀ (d : Nat) (k : Int), (12 - k).toNat = d → 0 ≤ k → k ≤ 12 →
    (∃ k', LoopG Try.prog 0 (loopAt Try.f4 0) (SA s (l.map (T.int .i64)) false k) (.exit 0) (SA s (l.map (T.int .i64)) false k')) ∨
    ∃ (k' sm' tt' x y : Int) (L' : List (Int × Int)), L'.length < 12 ∧ 0 ≤ sm' ∧ sm' ≤ 2000 ∧ (tt' = 1 ∧ sm' < 1000 ∨ tt' = 2 ∧ 1000 ≤ sm') ∧ LoopG Try.prog 0 (loopAt Try.f4 0) (SA s (l.map (T.int .i64)) false k) (.exit 0) (SB s (l.map (T.int .i64)) (L'.map (pP s)) (L'.map eP) false k' sm' ((L'.length : Int) + 1) tt' x y) := by
  intro d
  induction d with
  | zero =>
    intro k hd h0 h12
    have hk : k = 12 := by omega
    subst hk
    refine .inl ⟨12, ?_⟩
    by_cases hc : (12 : Int) < l.length
    · exact LoopG.leave (bodyK_sound (Ch_ok _ _) (bodyA5_false s (l.map (T.int .i64)) 12 0) ⟨by simp, by simp; omega, trivial⟩) rfl
    · exact LoopG.leave (bodyK_sound (Ch_ok _ _) (bodyA4_false s (l.map (T.int .i64)) 12 0) ⟨by simp; omega, trivial⟩) rfl
  | succ d ih =>
    intro k hd h0 h12
    have hk : k < 12 := by omega
    by_cases hc : k < l.length
    · obtain ⟨a, ha⟩ : ∃ a, l[k.toNat]? = some a := ⟨l[k.toNat]'(by omega), List.getElem?_eq_getElem (by omega)⟩
      have hget : (l.map (T.int .i64))[(k : Int).toNat]? = some (.int .i64 a) := by rw [List.getElem?_map, ha]; rfl
      have hlt : decide (k < (((l.map (T.int .i64)).length : Nat) : Int)) = true := by simp; omega
      have wk : IntKind.i64.wrap (k + 1) = k + 1 := w64 (by omega) (by omega)
      have skip : CodeG Try.prog 0 (loopAt Try.f4 0) (SA s (l.map (T.int .i64)) false k) .normal (SA s (l.map (T.int .i64)) false (IntKind.i64.wrap (k + 1))) → 
          (∃ k', LoopG Try.prog 0 (loopAt Try.f4 0) (SA s (l.map (T.int .i64)) false k) (.exit 0) (SA s (l.map (T.int .i64)) false k')) ∨
          ∃ (k' sm' tt' x y : Int) (L' : List (Int × Int)), L'.length < 12 ∧ 0 ≤ sm' ∧ sm' ≤ 2000 ∧ (tt' = 1 ∧ sm' < 1000 ∨ tt' = 2 ∧ 1000 ≤ sm') ∧ LoopG Try.prog 0 (loopAt Try.f4 0) (SA s (l.map (T.int .i64)) false k) (.exit 0) (SB s (l.map (T.int .i64)) (L'.map (pP s)) (L'.map eP) false k' sm' ((L'.length : Int) + 1) tt' x y) := by
        intro h1
        rw [wk] at h1
        rcases ih (k + 1) (by omega) (by omega) (by omega) with ⟨k', g⟩ | ⟨k', sm', tt', x, y, L', g1, g2, g3, g4, g5⟩
        · exact .inl ⟨k', LoopG.next h1 g⟩
        · exact .inr ⟨k', sm', tt', x, y, L', g1, g2, g3, g4, LoopG.next h1 g5⟩
      by_cases c1 : a < 1
      · exact skip (CodeG.normE (bodyK_sound (Ch_ok _ _) (bodyA0_false s (l.map (T.int .i64)) k a) ⟨by simpa using c1, ⟨h0, hget⟩, by simpa using hk, hlt, trivial⟩) (by omega) (by omega) [1, 2, 3, 7, 9, 10, 11, 12] (m := 0) (k := 10) (by kernel_rfl))
      by_cases c2 : a > 1000
      · exact skip (CodeG.normE (bodyK_sound (Ch_ok _ _) (bodyA1_false s (l.map (T.int .i64)) k a) ⟨by simpa using c2, by simpa using c1, ⟨h0, hget⟩, by simpa using hk, hlt, trivial⟩) (by omega) (by omega) [1, 2, 3, 7, 9, 10, 11, 12] (m := 0) (k := 10) (by kernel_rfl))
      have wsm : IntKind.i64.wrap (0 + a) = a := by rw [w64 (by omega) (by omega)]; omega
      have go : ∀ (tt2 : Int), CodeG Try.prog 0 (loopAt Try.f4 0) (SA s (l.map (T.int .i64)) false k) .normal (SB s (l.map (T.int .i64)) [] [] false (IntKind.i64.wrap (k + 1)) (IntKind.i64.wrap (0 + a)) 1 tt2 k a) → (tt2 = 1 ∧ a < 1000 ∨ tt2 = 2 ∧ 1000 ≤ a) →
          ∃ (k' sm' tt' x y : Int) (L' : List (Int × Int)), L'.length < 12 ∧ 0 ≤ sm' ∧ sm' ≤ 2000 ∧ (tt' = 1 ∧ sm' < 1000 ∨ tt' = 2 ∧ 1000 ≤ sm') ∧ LoopG Try.prog 0 (loopAt Try.f4 0) (SA s (l.map (T.int .i64)) false k) (.exit 0) (SB s (l.map (T.int .i64)) (L'.map (pP s)) (L'.map eP) false k' sm' ((L'.length : Int) + 1) tt' x y) := by
        intro tt2 h1 htt2
        rw [wk, wsm] at h1
        obtain ⟨k', sm', tt', L', g1, g2, g3, g4, g5⟩ := lawB_false s l hl _ (k + 1) a tt2 k a [] rfl (by omega) (by omega) (by simp; omega) (fun q hq => by simp at hq; subst hq; simp; omega) (by omega) (by omega) htt2
        exact ⟨k', sm', tt', k, a, L', g1, g2, g3, g4, LoopG.next h1 g5⟩
      by_cases c3 : a < 1000
      · exact .inr (go 1 (CodeG.normE (bodyK_sound (Ch_ok _ _) (bodyA2_false s (l.map (T.int .i64)) k a) ⟨by rw [wsm]; simpa using c3, by omega, by simp; omega, by simp; omega, by simp; omega, by simp, by simp; omega, by simp, by simpa using c2, by simpa using c1, ⟨h0, hget⟩, by simpa using hk, hlt, trivial⟩) (by omega) (by omega) [1, 2, 3, 7, 9, 10, 11, 12] (m := 0) (k := 16) (by kernel_rfl)) (.inl ⟨rfl, c3⟩))
      · exact .inr (go 2 (CodeG.normE (bodyK_sound (Ch_ok _ _) (bodyA3_false s (l.map (T.int .i64)) k a) ⟨by rw [wsm]; simpa using c3, by omega, by simp; omega, by simp; omega, by simp; omega, by simp, by simp; omega, by simp, by simpa using c2, by simpa using c1, ⟨h0, hget⟩, by simpa using hk, hlt, trivial⟩) (by omega) (by omega) [1, 2, 3, 7, 9, 10, 11, 12] (m := 0) (k := 16) (by kernel_rfl)) (.inr ⟨rfl, by omega⟩))
    · refine .inl ⟨k, ?_⟩
      exact LoopG.leave (bodyK_sound (Ch_ok _ _) (bodyA4_false s (l.map (T.int .i64)) k 0) ⟨by simp; omega, trivial⟩) rfl

end Go.HM.Rg
