/- DEAL, second part: the document's May and Fits, and that they are the program's. -/
import Derived.Test.YtbipkkebonohjaaDcM
import Derived.Test.YtbipkkebonohjaaHnL
import Derived.Test.YtbipkkebonohjaaGlobT
import Derived.Test.YtbipkkebonohjaaHmRow
set_option maxRecDepth 100000
namespace Go.HM.Deal
open Go.Proofs
theorem names_b : (Try.prog.funcs.toList.all fun fn => !(fn.name == "runtime.NumGoroutine")) = true := by kernel_rfl
theorem names_ok : NamesOk Try.prog := by
 intro f fn h
 have := List.all_eq_true.1 names_b fn (by rw [← Array.getElem?_toList] at h; exact List.mem_of_getElem? h)
 simpa using this
def lookD : List ((Nat × Nat) × T) → Nat → Nat → Option T
 | [], _, _ => none
 | ((a, b), t) :: r, x, y => if Nat.beq a x && Nat.beq b y then some t else lookD r x y
def elD (l : List ((Nat × Nat) × T)) (o : Oper) : Option HM.Item := match o.op with
 | .indexAddr ty (.tmp b) _ => match lookD l ty b with
  | some t => some (.el t)
  | none => none
 | _ => none
noncomputable def Cd (els : List ((Nat × Nat) × T)) (tl : List Nat) : GCtx := { P := Try.prog, pr := pureCall Try.prog [] [] [], K := fun _ _ => none, keep := fun _ _ => false, frz := fun _ _ => [], item := elD els, glob := globOf globT, KG := fun _ _ _ => none, fuel := 1000, vec := appAt [], told := fun f => memN f tl, owe := oweAt [("law.go:29", [(1, 7), (1, 9), (3, 7), (3, 9), (6, 7), (6, 9)])] }
theorem Cd_ok (els : List ((Nat × Nat) × T)) (tl : List Nat) : KOk (Cd els tl) := ⟨names_ok, fun _ _ _ h => (by cases h), fun _ _ _ _ _ h => (by cases h)⟩
theorem CodeG.normE {P : Program} {n m k : Nat} {c : Code} {st st1 st2 : St} {e : Ex} (h : CodeG P n c st e st1) (hm : n ≤ m) (hk : n ≤ k) (keep : List Nat) (e2 : st1.norm m k keep = st2) : CodeG P n c st e st2 := e2 ▸ h.norm hm hk keep
theorem LoopG.preE {P : Program} {n m k : Nat} {c : Code} {st st0 st' : St} {e : Ex} (hm : n ≤ m) (hk : n ≤ k) (keep : List Nat) (e2 : st.norm m k keep = st0) (h : LoopG P n c st0 e st') : LoopG P n c st e st' := LoopG.pre hm hk keep (by rw [e2]; exact h)
def tT (ch a b out sa sb de fe re sl fl : Int) (tx : List Int) : T := .agg [.int .i64 ch, .int .i64 a, .int .i64 b, .agg [.ba 32 (tx), .int .i64 out], .int .i64 sa, .int .i64 sb, .int .i64 de, .int .i64 fe, .int .i64 re, .int .i64 sl, .int .i64 fl]
def hT (hb hi ha : Int) (hh : List Int) (he : Int) : T := .agg [.int .i64 hb, .int .i64 hi, .int .i64 ha, .ba 32 (hh), .int .i64 he]
theorem rmay_0 (s e : Int) (ch a b out sa sb de fe re sl fl : Int) (tx : List Int): topK (Cd [] [72]) 30 19 [] [.p (tT ch a b out sa sb de fe re sl fl tx)] [(0, false), (0, false), (0, false), (0, false), (0, false), (0, false), (0, false), (0, false), (0, false), (0, false), (0, false), (0, false), (0, false), (0, true)] [] [] [[.int .i64 s, .int .i64 e]] [] = some ([.rb true], [], [(e == 0) = true, PCall Try.prog 72 [.int .i64 sa, .int .i64 sb] [.int .i64 s, .int .i64 e], decide (sl > 16) = false, decide (sl < 1) = false, decide (fl < 0) = false, decide (re < 0) = false, decide (fe < 0) = false, decide (de > 1000) = false, decide (de < 1) = false, decide (out < 0) = false, decide (a ≥ b) = false, decide (b > 7) = false, decide (a < 0) = false, decide (ch > 65535) = false, decide (ch < 1) = false]) := by kernel_rfl
theorem rmay_1 (s e : Int) (ch a b out sa sb de fe re sl fl : Int) (tx : List Int): topK (Cd [] [72]) 30 19 [] [.p (tT ch a b out sa sb de fe re sl fl tx)] [(0, true)] [] [] [[.int .i64 s, .int .i64 e]] [] = some ([.rb false], [], [decide (ch < 1) = true]) := by kernel_rfl
theorem rmay_2 (s e : Int) (ch a b out sa sb de fe re sl fl : Int) (tx : List Int): topK (Cd [] [72]) 30 19 [] [.p (tT ch a b out sa sb de fe re sl fl tx)] [(0, false), (0, true)] [] [] [[.int .i64 s, .int .i64 e]] [] = some ([.rb false], [], [decide (ch > 65535) = true, decide (ch < 1) = false]) := by kernel_rfl
theorem rmay_3 (s e : Int) (ch a b out sa sb de fe re sl fl : Int) (tx : List Int): topK (Cd [] [72]) 30 19 [] [.p (tT ch a b out sa sb de fe re sl fl tx)] [(0, false), (0, false), (0, true)] [] [] [[.int .i64 s, .int .i64 e]] [] = some ([.rb false], [], [decide (a < 0) = true, decide (ch > 65535) = false, decide (ch < 1) = false]) := by kernel_rfl
theorem rmay_4 (s e : Int) (ch a b out sa sb de fe re sl fl : Int) (tx : List Int): topK (Cd [] [72]) 30 19 [] [.p (tT ch a b out sa sb de fe re sl fl tx)] [(0, false), (0, false), (0, false), (0, true)] [] [] [[.int .i64 s, .int .i64 e]] [] = some ([.rb false], [], [decide (b > 7) = true, decide (a < 0) = false, decide (ch > 65535) = false, decide (ch < 1) = false]) := by kernel_rfl
theorem rmay_5 (s e : Int) (ch a b out sa sb de fe re sl fl : Int) (tx : List Int): topK (Cd [] [72]) 30 19 [] [.p (tT ch a b out sa sb de fe re sl fl tx)] [(0, false), (0, false), (0, false), (0, false), (0, true)] [] [] [[.int .i64 s, .int .i64 e]] [] = some ([.rb false], [], [decide (a ≥ b) = true, decide (b > 7) = false, decide (a < 0) = false, decide (ch > 65535) = false, decide (ch < 1) = false]) := by kernel_rfl
theorem rmay_6 (s e : Int) (ch a b out sa sb de fe re sl fl : Int) (tx : List Int): topK (Cd [] [72]) 30 19 [] [.p (tT ch a b out sa sb de fe re sl fl tx)] [(0, false), (0, false), (0, false), (0, false), (0, false), (0, true)] [] [] [[.int .i64 s, .int .i64 e]] [] = some ([.rb false], [], [decide (out < 0) = true, decide (a ≥ b) = false, decide (b > 7) = false, decide (a < 0) = false, decide (ch > 65535) = false, decide (ch < 1) = false]) := by kernel_rfl
theorem rmay_7 (s e : Int) (ch a b out sa sb de fe re sl fl : Int) (tx : List Int): topK (Cd [] [72]) 30 19 [] [.p (tT ch a b out sa sb de fe re sl fl tx)] [(0, false), (0, false), (0, false), (0, false), (0, false), (0, false), (0, true)] [] [] [[.int .i64 s, .int .i64 e]] [] = some ([.rb false], [], [decide (de < 1) = true, decide (out < 0) = false, decide (a ≥ b) = false, decide (b > 7) = false, decide (a < 0) = false, decide (ch > 65535) = false, decide (ch < 1) = false]) := by kernel_rfl
theorem rmay_8 (s e : Int) (ch a b out sa sb de fe re sl fl : Int) (tx : List Int): topK (Cd [] [72]) 30 19 [] [.p (tT ch a b out sa sb de fe re sl fl tx)] [(0, false), (0, false), (0, false), (0, false), (0, false), (0, false), (0, false), (0, true)] [] [] [[.int .i64 s, .int .i64 e]] [] = some ([.rb false], [], [decide (de > 1000) = true, decide (de < 1) = false, decide (out < 0) = false, decide (a ≥ b) = false, decide (b > 7) = false, decide (a < 0) = false, decide (ch > 65535) = false, decide (ch < 1) = false]) := by kernel_rfl
theorem rmay_9 (s e : Int) (ch a b out sa sb de fe re sl fl : Int) (tx : List Int): topK (Cd [] [72]) 30 19 [] [.p (tT ch a b out sa sb de fe re sl fl tx)] [(0, false), (0, false), (0, false), (0, false), (0, false), (0, false), (0, false), (0, false), (0, true)] [] [] [[.int .i64 s, .int .i64 e]] [] = some ([.rb false], [], [decide (fe < 0) = true, decide (de > 1000) = false, decide (de < 1) = false, decide (out < 0) = false, decide (a ≥ b) = false, decide (b > 7) = false, decide (a < 0) = false, decide (ch > 65535) = false, decide (ch < 1) = false]) := by kernel_rfl
theorem rmay_10 (s e : Int) (ch a b out sa sb de fe re sl fl : Int) (tx : List Int): topK (Cd [] [72]) 30 19 [] [.p (tT ch a b out sa sb de fe re sl fl tx)] [(0, false), (0, false), (0, false), (0, false), (0, false), (0, false), (0, false), (0, false), (0, false), (0, true)] [] [] [[.int .i64 s, .int .i64 e]] [] = some ([.rb false], [], [decide (re < 0) = true, decide (fe < 0) = false, decide (de > 1000) = false, decide (de < 1) = false, decide (out < 0) = false, decide (a ≥ b) = false, decide (b > 7) = false, decide (a < 0) = false, decide (ch > 65535) = false, decide (ch < 1) = false]) := by kernel_rfl
theorem rmay_11 (s e : Int) (ch a b out sa sb de fe re sl fl : Int) (tx : List Int): topK (Cd [] [72]) 30 19 [] [.p (tT ch a b out sa sb de fe re sl fl tx)] [(0, false), (0, false), (0, false), (0, false), (0, false), (0, false), (0, false), (0, false), (0, false), (0, false), (0, true)] [] [] [[.int .i64 s, .int .i64 e]] [] = some ([.rb false], [], [decide (fl < 0) = true, decide (re < 0) = false, decide (fe < 0) = false, decide (de > 1000) = false, decide (de < 1) = false, decide (out < 0) = false, decide (a ≥ b) = false, decide (b > 7) = false, decide (a < 0) = false, decide (ch > 65535) = false, decide (ch < 1) = false]) := by kernel_rfl
theorem rmay_12 (s e : Int) (ch a b out sa sb de fe re sl fl : Int) (tx : List Int): topK (Cd [] [72]) 30 19 [] [.p (tT ch a b out sa sb de fe re sl fl tx)] [(0, false), (0, false), (0, false), (0, false), (0, false), (0, false), (0, false), (0, false), (0, false), (0, false), (0, false), (0, true)] [] [] [[.int .i64 s, .int .i64 e]] [] = some ([.rb false], [], [decide (sl < 1) = true, decide (fl < 0) = false, decide (re < 0) = false, decide (fe < 0) = false, decide (de > 1000) = false, decide (de < 1) = false, decide (out < 0) = false, decide (a ≥ b) = false, decide (b > 7) = false, decide (a < 0) = false, decide (ch > 65535) = false, decide (ch < 1) = false]) := by kernel_rfl
theorem rmay_13 (s e : Int) (ch a b out sa sb de fe re sl fl : Int) (tx : List Int): topK (Cd [] [72]) 30 19 [] [.p (tT ch a b out sa sb de fe re sl fl tx)] [(0, false), (0, false), (0, false), (0, false), (0, false), (0, false), (0, false), (0, false), (0, false), (0, false), (0, false), (0, false), (0, true)] [] [] [[.int .i64 s, .int .i64 e]] [] = some ([.rb false], [], [decide (sl > 16) = true, decide (sl < 1) = false, decide (fl < 0) = false, decide (re < 0) = false, decide (fe < 0) = false, decide (de > 1000) = false, decide (de < 1) = false, decide (out < 0) = false, decide (a ≥ b) = false, decide (b > 7) = false, decide (a < 0) = false, decide (ch > 65535) = false, decide (ch < 1) = false]) := by kernel_rfl
theorem rmay_14 (s e : Int) (ch a b out sa sb de fe re sl fl : Int) (tx : List Int): topK (Cd [] [72]) 30 19 [] [.p (tT ch a b out sa sb de fe re sl fl tx)] [(0, false), (0, false), (0, false), (0, false), (0, false), (0, false), (0, false), (0, false), (0, false), (0, false), (0, false), (0, false), (0, false), (0, false)] [] [] [[.int .i64 s, .int .i64 e]] [] = some ([.rb false], [], [(e == 0) = false, PCall Try.prog 72 [.int .i64 sa, .int .i64 sb] [.int .i64 s, .int .i64 e], decide (sl > 16) = false, decide (sl < 1) = false, decide (fl < 0) = false, decide (re < 0) = false, decide (fe < 0) = false, decide (de > 1000) = false, decide (de < 1) = false, decide (out < 0) = false, decide (a ≥ b) = false, decide (b > 7) = false, decide (a < 0) = false, decide (ch > 65535) = false, decide (ch < 1) = false]) := by kernel_rfl
theorem rfitB_0 (s e i s2 e2 hb hi ha he yb yi ya ye : Int) (hh yh : List Int) (ch a b out sa sb de fe re sl fl va vb : Int) (tx : List Int) (hs : List T): bodyK (Cd [((27, 38), hT hb hi ha hh he), ((27, 79), hT yb yi ya yh ye), ((27, 90), hT yb yi ya yh ye), ((27, 101), hT yb yi ya yh ye)] [72]) 30 21 0 (loopAt Try.f21 0) ⟨131, [(2, .ptr 0 0), (3, .ptr 1 0), (4, .p (.bool false)), (5, .p (.int .i64 s)), (6, .p (.int .i64 e)), (7, .p (.int .i64 i))], [.box (.p (tT ch a b out sa sb de fe re sl fl tx)), .box (.p (.agg [.int .i64 va, .int .i64 vb, .lst false 36 hs]))]⟩ [(0, true), (0, true), (0, false), (0, false), (0, false), (0, false), (0, false), (0, true), (0, false), (0, true), (0, false)] [] [2, 3, 4, 5, 6, 7] [] [[.int .i64 s2, .int .i64 e2]] [] = some (.normal, ⟨131, [(7, .p (.int .i64 (IntKind.i64.wrap (i + 1)))), (6, .p (.int .i64 e2)), (5, .p (.int .i64 s2)), (2, .ptr 0 0), (3, .ptr 1 0), (4, .p (.bool false))], [.box (.p (tT ch a b out sa sb de fe re sl fl tx)), .box (.p (.agg [.int .i64 va, .int .i64 vb, .lst false 36 hs])), .box (.p (hT hb hi ha hh he))]⟩, [PCall Try.prog 72 [.int .i64 s, .int .i64 ha] [.int .i64 s2, .int .i64 e2], decide (yi ≥ hi) = false, (0 : Int) ≤ (IntKind.i64.wrap (i - 1)) ∧ hs[((IntKind.i64.wrap (i - 1)) : Int).toNat]? = some (hT yb yi ya yh ye), (yb == hb) = true, (0 : Int) ≤ (IntKind.i64.wrap (i - 1)) ∧ hs[((IntKind.i64.wrap (i - 1)) : Int).toNat]? = some (hT yb yi ya yh ye), decide (yb > hb) = false, (0 : Int) ≤ (IntKind.i64.wrap (i - 1)) ∧ hs[((IntKind.i64.wrap (i - 1)) : Int).toNat]? = some (hT yb yi ya yh ye), decide (i > 0) = true, ((hh) == zeros) = false, decide (he > 2147483647) = false, decide (he < 0) = false, decide (hi < 0) = false, (hb != a) = false, (0 : Int) ≤ i ∧ hs[(i : Int).toNat]? = some (hT hb hi ha hh he), (e == 0) = true, decide (i < ((hs).length : Int)) = true]) := by kernel_rfl
theorem rfitB_1 (s e i s2 e2 hb hi ha he yb yi ya ye : Int) (hh yh : List Int) (ch a b out sa sb de fe re sl fl va vb : Int) (tx : List Int) (hs : List T): bodyK (Cd [((27, 38), hT hb hi ha hh he), ((27, 79), hT yb yi ya yh ye), ((27, 90), hT yb yi ya yh ye), ((27, 101), hT yb yi ya yh ye)] [72]) 30 21 0 (loopAt Try.f21 0) ⟨131, [(2, .ptr 0 0), (3, .ptr 1 0), (4, .p (.bool false)), (5, .p (.int .i64 s)), (6, .p (.int .i64 e)), (7, .p (.int .i64 i))], [.box (.p (tT ch a b out sa sb de fe re sl fl tx)), .box (.p (.agg [.int .i64 va, .int .i64 vb, .lst false 36 hs]))]⟩ [(0, false)] [] [2, 3, 4, 5, 6, 7] [] [[.int .i64 s2, .int .i64 e2]] [] = some (.exit 0, ⟨131, [(2, .ptr 0 0), (3, .ptr 1 0), (4, .p (.bool false)), (5, .p (.int .i64 s)), (6, .p (.int .i64 e)), (7, .p (.int .i64 i))], [.box (.p (tT ch a b out sa sb de fe re sl fl tx)), .box (.p (.agg [.int .i64 va, .int .i64 vb, .lst false 36 hs]))]⟩, [decide (i < ((hs).length : Int)) = false]) := by kernel_rfl
theorem rfitB_2 (s e i s2 e2 hb hi ha he yb yi ya ye : Int) (hh yh : List Int) (ch a b out sa sb de fe re sl fl va vb : Int) (tx : List Int) (hs : List T): bodyK (Cd [((27, 38), hT hb hi ha hh he), ((27, 79), hT yb yi ya yh ye), ((27, 90), hT yb yi ya yh ye), ((27, 101), hT yb yi ya yh ye)] [72]) 30 21 0 (loopAt Try.f21 0) ⟨131, [(2, .ptr 0 0), (3, .ptr 1 0), (4, .p (.bool false)), (5, .p (.int .i64 s)), (6, .p (.int .i64 e)), (7, .p (.int .i64 i))], [.box (.p (tT ch a b out sa sb de fe re sl fl tx)), .box (.p (.agg [.int .i64 va, .int .i64 vb, .lst false 36 hs]))]⟩ [(0, true), (0, false)] [] [2, 3, 4, 5, 6, 7] [] [[.int .i64 s2, .int .i64 e2]] [] = some (.exit 0, ⟨131, [(2, .ptr 0 0), (3, .ptr 1 0), (4, .p (.bool false)), (5, .p (.int .i64 s)), (6, .p (.int .i64 e)), (7, .p (.int .i64 i))], [.box (.p (tT ch a b out sa sb de fe re sl fl tx)), .box (.p (.agg [.int .i64 va, .int .i64 vb, .lst false 36 hs]))]⟩, [(e == 0) = false, decide (i < ((hs).length : Int)) = true]) := by kernel_rfl
theorem rfitB_3 (s e i s2 e2 hb hi ha he yb yi ya ye : Int) (hh yh : List Int) (ch a b out sa sb de fe re sl fl va vb : Int) (tx : List Int) (hs : List T): bodyK (Cd [((27, 38), hT hb hi ha hh he), ((27, 79), hT yb yi ya yh ye), ((27, 90), hT yb yi ya yh ye), ((27, 101), hT yb yi ya yh ye)] [72]) 30 21 0 (loopAt Try.f21 0) ⟨131, [(2, .ptr 0 0), (3, .ptr 1 0), (4, .p (.bool false)), (5, .p (.int .i64 s)), (6, .p (.int .i64 e)), (7, .p (.int .i64 i))], [.box (.p (tT ch a b out sa sb de fe re sl fl tx)), .box (.p (.agg [.int .i64 va, .int .i64 vb, .lst false 36 hs]))]⟩ [(0, true), (0, true), (0, true), (0, true)] [] [2, 3, 4, 5, 6, 7] [] [[.int .i64 s2, .int .i64 e2]] [] = some (.ret, ⟨131, [(4, .rb false)], [.box (.p (tT ch a b out sa sb de fe re sl fl tx)), .box (.p (.agg [.int .i64 va, .int .i64 vb, .lst false 36 hs])), .box (.p (hT hb hi ha hh he))]⟩, [(hb != b) = true, (hb != a) = true, (0 : Int) ≤ i ∧ hs[(i : Int).toNat]? = some (hT hb hi ha hh he), (e == 0) = true, decide (i < ((hs).length : Int)) = true]) := by kernel_rfl
theorem rfitB_4 (s e i s2 e2 hb hi ha he yb yi ya ye : Int) (hh yh : List Int) (ch a b out sa sb de fe re sl fl va vb : Int) (tx : List Int) (hs : List T): bodyK (Cd [((27, 38), hT hb hi ha hh he), ((27, 79), hT yb yi ya yh ye), ((27, 90), hT yb yi ya yh ye), ((27, 101), hT yb yi ya yh ye)] [72]) 30 21 0 (loopAt Try.f21 0) ⟨131, [(2, .ptr 0 0), (3, .ptr 1 0), (4, .p (.bool false)), (5, .p (.int .i64 s)), (6, .p (.int .i64 e)), (7, .p (.int .i64 i))], [.box (.p (tT ch a b out sa sb de fe re sl fl tx)), .box (.p (.agg [.int .i64 va, .int .i64 vb, .lst false 36 hs]))]⟩ [(0, true), (0, true), (0, true), (0, false), (0, false), (0, false), (0, false), (0, false), (0, true), (0, false), (0, true), (0, false)] [] [2, 3, 4, 5, 6, 7] [] [[.int .i64 s2, .int .i64 e2]] [] = some (.normal, ⟨131, [(7, .p (.int .i64 (IntKind.i64.wrap (i + 1)))), (6, .p (.int .i64 e2)), (5, .p (.int .i64 s2)), (2, .ptr 0 0), (3, .ptr 1 0), (4, .p (.bool false))], [.box (.p (tT ch a b out sa sb de fe re sl fl tx)), .box (.p (.agg [.int .i64 va, .int .i64 vb, .lst false 36 hs])), .box (.p (hT hb hi ha hh he))]⟩, [PCall Try.prog 72 [.int .i64 s, .int .i64 ha] [.int .i64 s2, .int .i64 e2], decide (yi ≥ hi) = false, (0 : Int) ≤ (IntKind.i64.wrap (i - 1)) ∧ hs[((IntKind.i64.wrap (i - 1)) : Int).toNat]? = some (hT yb yi ya yh ye), (yb == hb) = true, (0 : Int) ≤ (IntKind.i64.wrap (i - 1)) ∧ hs[((IntKind.i64.wrap (i - 1)) : Int).toNat]? = some (hT yb yi ya yh ye), decide (yb > hb) = false, (0 : Int) ≤ (IntKind.i64.wrap (i - 1)) ∧ hs[((IntKind.i64.wrap (i - 1)) : Int).toNat]? = some (hT yb yi ya yh ye), decide (i > 0) = true, ((hh) == zeros) = false, decide (he > 2147483647) = false, decide (he < 0) = false, decide (hi < 0) = false, (hb != b) = false, (hb != a) = true, (0 : Int) ≤ i ∧ hs[(i : Int).toNat]? = some (hT hb hi ha hh he), (e == 0) = true, decide (i < ((hs).length : Int)) = true]) := by kernel_rfl
theorem rfitB_5 (s e i s2 e2 hb hi ha he yb yi ya ye : Int) (hh yh : List Int) (ch a b out sa sb de fe re sl fl va vb : Int) (tx : List Int) (hs : List T): bodyK (Cd [((27, 38), hT hb hi ha hh he), ((27, 79), hT yb yi ya yh ye), ((27, 90), hT yb yi ya yh ye), ((27, 101), hT yb yi ya yh ye)] [72]) 30 21 0 (loopAt Try.f21 0) ⟨131, [(2, .ptr 0 0), (3, .ptr 1 0), (4, .p (.bool false)), (5, .p (.int .i64 s)), (6, .p (.int .i64 e)), (7, .p (.int .i64 i))], [.box (.p (tT ch a b out sa sb de fe re sl fl tx)), .box (.p (.agg [.int .i64 va, .int .i64 vb, .lst false 36 hs]))]⟩ [(0, true), (0, true), (0, true), (0, false), (0, true)] [] [2, 3, 4, 5, 6, 7] [] [[.int .i64 s2, .int .i64 e2]] [] = some (.ret, ⟨131, [(4, .rb false)], [.box (.p (tT ch a b out sa sb de fe re sl fl tx)), .box (.p (.agg [.int .i64 va, .int .i64 vb, .lst false 36 hs])), .box (.p (hT hb hi ha hh he))]⟩, [decide (hi < 0) = true, (hb != b) = false, (hb != a) = true, (0 : Int) ≤ i ∧ hs[(i : Int).toNat]? = some (hT hb hi ha hh he), (e == 0) = true, decide (i < ((hs).length : Int)) = true]) := by kernel_rfl
theorem rfitB_6 (s e i s2 e2 hb hi ha he yb yi ya ye : Int) (hh yh : List Int) (ch a b out sa sb de fe re sl fl va vb : Int) (tx : List Int) (hs : List T): bodyK (Cd [((27, 38), hT hb hi ha hh he), ((27, 79), hT yb yi ya yh ye), ((27, 90), hT yb yi ya yh ye), ((27, 101), hT yb yi ya yh ye)] [72]) 30 21 0 (loopAt Try.f21 0) ⟨131, [(2, .ptr 0 0), (3, .ptr 1 0), (4, .p (.bool false)), (5, .p (.int .i64 s)), (6, .p (.int .i64 e)), (7, .p (.int .i64 i))], [.box (.p (tT ch a b out sa sb de fe re sl fl tx)), .box (.p (.agg [.int .i64 va, .int .i64 vb, .lst false 36 hs]))]⟩ [(0, true), (0, true), (0, true), (0, false), (0, false), (0, true)] [] [2, 3, 4, 5, 6, 7] [] [[.int .i64 s2, .int .i64 e2]] [] = some (.ret, ⟨131, [(4, .rb false)], [.box (.p (tT ch a b out sa sb de fe re sl fl tx)), .box (.p (.agg [.int .i64 va, .int .i64 vb, .lst false 36 hs])), .box (.p (hT hb hi ha hh he))]⟩, [decide (he < 0) = true, decide (hi < 0) = false, (hb != b) = false, (hb != a) = true, (0 : Int) ≤ i ∧ hs[(i : Int).toNat]? = some (hT hb hi ha hh he), (e == 0) = true, decide (i < ((hs).length : Int)) = true]) := by kernel_rfl
theorem rfitB_7 (s e i s2 e2 hb hi ha he yb yi ya ye : Int) (hh yh : List Int) (ch a b out sa sb de fe re sl fl va vb : Int) (tx : List Int) (hs : List T): bodyK (Cd [((27, 38), hT hb hi ha hh he), ((27, 79), hT yb yi ya yh ye), ((27, 90), hT yb yi ya yh ye), ((27, 101), hT yb yi ya yh ye)] [72]) 30 21 0 (loopAt Try.f21 0) ⟨131, [(2, .ptr 0 0), (3, .ptr 1 0), (4, .p (.bool false)), (5, .p (.int .i64 s)), (6, .p (.int .i64 e)), (7, .p (.int .i64 i))], [.box (.p (tT ch a b out sa sb de fe re sl fl tx)), .box (.p (.agg [.int .i64 va, .int .i64 vb, .lst false 36 hs]))]⟩ [(0, true), (0, true), (0, true), (0, false), (0, false), (0, false), (0, true)] [] [2, 3, 4, 5, 6, 7] [] [[.int .i64 s2, .int .i64 e2]] [] = some (.ret, ⟨131, [(4, .rb false)], [.box (.p (tT ch a b out sa sb de fe re sl fl tx)), .box (.p (.agg [.int .i64 va, .int .i64 vb, .lst false 36 hs])), .box (.p (hT hb hi ha hh he))]⟩, [decide (he > 2147483647) = true, decide (he < 0) = false, decide (hi < 0) = false, (hb != b) = false, (hb != a) = true, (0 : Int) ≤ i ∧ hs[(i : Int).toNat]? = some (hT hb hi ha hh he), (e == 0) = true, decide (i < ((hs).length : Int)) = true]) := by kernel_rfl
theorem rfitB_8 (s e i s2 e2 hb hi ha he yb yi ya ye : Int) (hh yh : List Int) (ch a b out sa sb de fe re sl fl va vb : Int) (tx : List Int) (hs : List T): bodyK (Cd [((27, 38), hT hb hi ha hh he), ((27, 79), hT yb yi ya yh ye), ((27, 90), hT yb yi ya yh ye), ((27, 101), hT yb yi ya yh ye)] [72]) 30 21 0 (loopAt Try.f21 0) ⟨131, [(2, .ptr 0 0), (3, .ptr 1 0), (4, .p (.bool false)), (5, .p (.int .i64 s)), (6, .p (.int .i64 e)), (7, .p (.int .i64 i))], [.box (.p (tT ch a b out sa sb de fe re sl fl tx)), .box (.p (.agg [.int .i64 va, .int .i64 vb, .lst false 36 hs]))]⟩ [(0, true), (0, true), (0, true), (0, false), (0, false), (0, false), (0, false), (0, true)] [] [2, 3, 4, 5, 6, 7] [] [[.int .i64 s2, .int .i64 e2]] [] = some (.ret, ⟨131, [(4, .rb false)], [.box (.p (tT ch a b out sa sb de fe re sl fl tx)), .box (.p (.agg [.int .i64 va, .int .i64 vb, .lst false 36 hs])), .box (.p (hT hb hi ha hh he))]⟩, [((hh) == zeros) = true, decide (he > 2147483647) = false, decide (he < 0) = false, decide (hi < 0) = false, (hb != b) = false, (hb != a) = true, (0 : Int) ≤ i ∧ hs[(i : Int).toNat]? = some (hT hb hi ha hh he), (e == 0) = true, decide (i < ((hs).length : Int)) = true]) := by kernel_rfl
theorem rfitB_9 (s e i s2 e2 hb hi ha he yb yi ya ye : Int) (hh yh : List Int) (ch a b out sa sb de fe re sl fl va vb : Int) (tx : List Int) (hs : List T): bodyK (Cd [((27, 38), hT hb hi ha hh he), ((27, 79), hT yb yi ya yh ye), ((27, 90), hT yb yi ya yh ye), ((27, 101), hT yb yi ya yh ye)] [72]) 30 21 0 (loopAt Try.f21 0) ⟨131, [(2, .ptr 0 0), (3, .ptr 1 0), (4, .p (.bool false)), (5, .p (.int .i64 s)), (6, .p (.int .i64 e)), (7, .p (.int .i64 i))], [.box (.p (tT ch a b out sa sb de fe re sl fl tx)), .box (.p (.agg [.int .i64 va, .int .i64 vb, .lst false 36 hs]))]⟩ [(0, true), (0, true), (0, true), (0, false), (0, false), (0, false), (0, false), (0, false), (0, false)] [] [2, 3, 4, 5, 6, 7] [] [[.int .i64 s2, .int .i64 e2]] [] = some (.normal, ⟨131, [(7, .p (.int .i64 (IntKind.i64.wrap (i + 1)))), (6, .p (.int .i64 e2)), (5, .p (.int .i64 s2)), (2, .ptr 0 0), (3, .ptr 1 0), (4, .p (.bool false))], [.box (.p (tT ch a b out sa sb de fe re sl fl tx)), .box (.p (.agg [.int .i64 va, .int .i64 vb, .lst false 36 hs])), .box (.p (hT hb hi ha hh he))]⟩, [PCall Try.prog 72 [.int .i64 s, .int .i64 ha] [.int .i64 s2, .int .i64 e2], decide (i > 0) = false, ((hh) == zeros) = false, decide (he > 2147483647) = false, decide (he < 0) = false, decide (hi < 0) = false, (hb != b) = false, (hb != a) = true, (0 : Int) ≤ i ∧ hs[(i : Int).toNat]? = some (hT hb hi ha hh he), (e == 0) = true, decide (i < ((hs).length : Int)) = true]) := by kernel_rfl
theorem rfitB_10 (s e i s2 e2 hb hi ha he yb yi ya ye : Int) (hh yh : List Int) (ch a b out sa sb de fe re sl fl va vb : Int) (tx : List Int) (hs : List T): bodyK (Cd [((27, 38), hT hb hi ha hh he), ((27, 79), hT yb yi ya yh ye), ((27, 90), hT yb yi ya yh ye), ((27, 101), hT yb yi ya yh ye)] [72]) 30 21 0 (loopAt Try.f21 0) ⟨131, [(2, .ptr 0 0), (3, .ptr 1 0), (4, .p (.bool false)), (5, .p (.int .i64 s)), (6, .p (.int .i64 e)), (7, .p (.int .i64 i))], [.box (.p (tT ch a b out sa sb de fe re sl fl tx)), .box (.p (.agg [.int .i64 va, .int .i64 vb, .lst false 36 hs]))]⟩ [(0, true), (0, true), (0, true), (0, false), (0, false), (0, false), (0, false), (0, false), (0, true), (0, true)] [] [2, 3, 4, 5, 6, 7] [] [[.int .i64 s2, .int .i64 e2]] [] = some (.ret, ⟨131, [(4, .rb false)], [.box (.p (tT ch a b out sa sb de fe re sl fl tx)), .box (.p (.agg [.int .i64 va, .int .i64 vb, .lst false 36 hs])), .box (.p (hT hb hi ha hh he))]⟩, [decide (yb > hb) = true, (0 : Int) ≤ (IntKind.i64.wrap (i - 1)) ∧ hs[((IntKind.i64.wrap (i - 1)) : Int).toNat]? = some (hT yb yi ya yh ye), decide (i > 0) = true, ((hh) == zeros) = false, decide (he > 2147483647) = false, decide (he < 0) = false, decide (hi < 0) = false, (hb != b) = false, (hb != a) = true, (0 : Int) ≤ i ∧ hs[(i : Int).toNat]? = some (hT hb hi ha hh he), (e == 0) = true, decide (i < ((hs).length : Int)) = true]) := by kernel_rfl
theorem rfitB_11 (s e i s2 e2 hb hi ha he yb yi ya ye : Int) (hh yh : List Int) (ch a b out sa sb de fe re sl fl va vb : Int) (tx : List Int) (hs : List T): bodyK (Cd [((27, 38), hT hb hi ha hh he), ((27, 79), hT yb yi ya yh ye), ((27, 90), hT yb yi ya yh ye), ((27, 101), hT yb yi ya yh ye)] [72]) 30 21 0 (loopAt Try.f21 0) ⟨131, [(2, .ptr 0 0), (3, .ptr 1 0), (4, .p (.bool false)), (5, .p (.int .i64 s)), (6, .p (.int .i64 e)), (7, .p (.int .i64 i))], [.box (.p (tT ch a b out sa sb de fe re sl fl tx)), .box (.p (.agg [.int .i64 va, .int .i64 vb, .lst false 36 hs]))]⟩ [(0, true), (0, true), (0, true), (0, false), (0, false), (0, false), (0, false), (0, false), (0, true), (0, false), (0, false)] [] [2, 3, 4, 5, 6, 7] [] [[.int .i64 s2, .int .i64 e2]] [] = some (.normal, ⟨131, [(7, .p (.int .i64 (IntKind.i64.wrap (i + 1)))), (6, .p (.int .i64 e2)), (5, .p (.int .i64 s2)), (2, .ptr 0 0), (3, .ptr 1 0), (4, .p (.bool false))], [.box (.p (tT ch a b out sa sb de fe re sl fl tx)), .box (.p (.agg [.int .i64 va, .int .i64 vb, .lst false 36 hs])), .box (.p (hT hb hi ha hh he))]⟩, [PCall Try.prog 72 [.int .i64 s, .int .i64 ha] [.int .i64 s2, .int .i64 e2], (yb == hb) = false, (0 : Int) ≤ (IntKind.i64.wrap (i - 1)) ∧ hs[((IntKind.i64.wrap (i - 1)) : Int).toNat]? = some (hT yb yi ya yh ye), decide (yb > hb) = false, (0 : Int) ≤ (IntKind.i64.wrap (i - 1)) ∧ hs[((IntKind.i64.wrap (i - 1)) : Int).toNat]? = some (hT yb yi ya yh ye), decide (i > 0) = true, ((hh) == zeros) = false, decide (he > 2147483647) = false, decide (he < 0) = false, decide (hi < 0) = false, (hb != b) = false, (hb != a) = true, (0 : Int) ≤ i ∧ hs[(i : Int).toNat]? = some (hT hb hi ha hh he), (e == 0) = true, decide (i < ((hs).length : Int)) = true]) := by kernel_rfl
theorem rfitB_12 (s e i s2 e2 hb hi ha he yb yi ya ye : Int) (hh yh : List Int) (ch a b out sa sb de fe re sl fl va vb : Int) (tx : List Int) (hs : List T): bodyK (Cd [((27, 38), hT hb hi ha hh he), ((27, 79), hT yb yi ya yh ye), ((27, 90), hT yb yi ya yh ye), ((27, 101), hT yb yi ya yh ye)] [72]) 30 21 0 (loopAt Try.f21 0) ⟨131, [(2, .ptr 0 0), (3, .ptr 1 0), (4, .p (.bool false)), (5, .p (.int .i64 s)), (6, .p (.int .i64 e)), (7, .p (.int .i64 i))], [.box (.p (tT ch a b out sa sb de fe re sl fl tx)), .box (.p (.agg [.int .i64 va, .int .i64 vb, .lst false 36 hs]))]⟩ [(0, true), (0, true), (0, true), (0, false), (0, false), (0, false), (0, false), (0, false), (0, true), (0, false), (0, true), (0, true)] [] [2, 3, 4, 5, 6, 7] [] [[.int .i64 s2, .int .i64 e2]] [] = some (.ret, ⟨131, [(4, .rb false)], [.box (.p (tT ch a b out sa sb de fe re sl fl tx)), .box (.p (.agg [.int .i64 va, .int .i64 vb, .lst false 36 hs])), .box (.p (hT hb hi ha hh he))]⟩, [decide (yi ≥ hi) = true, (0 : Int) ≤ (IntKind.i64.wrap (i - 1)) ∧ hs[((IntKind.i64.wrap (i - 1)) : Int).toNat]? = some (hT yb yi ya yh ye), (yb == hb) = true, (0 : Int) ≤ (IntKind.i64.wrap (i - 1)) ∧ hs[((IntKind.i64.wrap (i - 1)) : Int).toNat]? = some (hT yb yi ya yh ye), decide (yb > hb) = false, (0 : Int) ≤ (IntKind.i64.wrap (i - 1)) ∧ hs[((IntKind.i64.wrap (i - 1)) : Int).toNat]? = some (hT yb yi ya yh ye), decide (i > 0) = true, ((hh) == zeros) = false, decide (he > 2147483647) = false, decide (he < 0) = false, decide (hi < 0) = false, (hb != b) = false, (hb != a) = true, (0 : Int) ≤ i ∧ hs[(i : Int).toNat]? = some (hT hb hi ha hh he), (e == 0) = true, decide (i < ((hs).length : Int)) = true]) := by kernel_rfl
theorem rfitB_13 (s e i s2 e2 hb hi ha he yb yi ya ye : Int) (hh yh : List Int) (ch a b out sa sb de fe re sl fl va vb : Int) (tx : List Int) (hs : List T): bodyK (Cd [((27, 38), hT hb hi ha hh he), ((27, 79), hT yb yi ya yh ye), ((27, 90), hT yb yi ya yh ye), ((27, 101), hT yb yi ya yh ye)] [72]) 30 21 0 (loopAt Try.f21 0) ⟨131, [(2, .ptr 0 0), (3, .ptr 1 0), (4, .p (.bool false)), (5, .p (.int .i64 s)), (6, .p (.int .i64 e)), (7, .p (.int .i64 i))], [.box (.p (tT ch a b out sa sb de fe re sl fl tx)), .box (.p (.agg [.int .i64 va, .int .i64 vb, .lst false 36 hs]))]⟩ [(0, true), (0, true), (0, false), (0, true)] [] [2, 3, 4, 5, 6, 7] [] [[.int .i64 s2, .int .i64 e2]] [] = some (.ret, ⟨131, [(4, .rb false)], [.box (.p (tT ch a b out sa sb de fe re sl fl tx)), .box (.p (.agg [.int .i64 va, .int .i64 vb, .lst false 36 hs])), .box (.p (hT hb hi ha hh he))]⟩, [decide (hi < 0) = true, (hb != a) = false, (0 : Int) ≤ i ∧ hs[(i : Int).toNat]? = some (hT hb hi ha hh he), (e == 0) = true, decide (i < ((hs).length : Int)) = true]) := by kernel_rfl
theorem rfitB_14 (s e i s2 e2 hb hi ha he yb yi ya ye : Int) (hh yh : List Int) (ch a b out sa sb de fe re sl fl va vb : Int) (tx : List Int) (hs : List T): bodyK (Cd [((27, 38), hT hb hi ha hh he), ((27, 79), hT yb yi ya yh ye), ((27, 90), hT yb yi ya yh ye), ((27, 101), hT yb yi ya yh ye)] [72]) 30 21 0 (loopAt Try.f21 0) ⟨131, [(2, .ptr 0 0), (3, .ptr 1 0), (4, .p (.bool false)), (5, .p (.int .i64 s)), (6, .p (.int .i64 e)), (7, .p (.int .i64 i))], [.box (.p (tT ch a b out sa sb de fe re sl fl tx)), .box (.p (.agg [.int .i64 va, .int .i64 vb, .lst false 36 hs]))]⟩ [(0, true), (0, true), (0, false), (0, false), (0, true)] [] [2, 3, 4, 5, 6, 7] [] [[.int .i64 s2, .int .i64 e2]] [] = some (.ret, ⟨131, [(4, .rb false)], [.box (.p (tT ch a b out sa sb de fe re sl fl tx)), .box (.p (.agg [.int .i64 va, .int .i64 vb, .lst false 36 hs])), .box (.p (hT hb hi ha hh he))]⟩, [decide (he < 0) = true, decide (hi < 0) = false, (hb != a) = false, (0 : Int) ≤ i ∧ hs[(i : Int).toNat]? = some (hT hb hi ha hh he), (e == 0) = true, decide (i < ((hs).length : Int)) = true]) := by kernel_rfl
theorem rfitB_15 (s e i s2 e2 hb hi ha he yb yi ya ye : Int) (hh yh : List Int) (ch a b out sa sb de fe re sl fl va vb : Int) (tx : List Int) (hs : List T): bodyK (Cd [((27, 38), hT hb hi ha hh he), ((27, 79), hT yb yi ya yh ye), ((27, 90), hT yb yi ya yh ye), ((27, 101), hT yb yi ya yh ye)] [72]) 30 21 0 (loopAt Try.f21 0) ⟨131, [(2, .ptr 0 0), (3, .ptr 1 0), (4, .p (.bool false)), (5, .p (.int .i64 s)), (6, .p (.int .i64 e)), (7, .p (.int .i64 i))], [.box (.p (tT ch a b out sa sb de fe re sl fl tx)), .box (.p (.agg [.int .i64 va, .int .i64 vb, .lst false 36 hs]))]⟩ [(0, true), (0, true), (0, false), (0, false), (0, false), (0, true)] [] [2, 3, 4, 5, 6, 7] [] [[.int .i64 s2, .int .i64 e2]] [] = some (.ret, ⟨131, [(4, .rb false)], [.box (.p (tT ch a b out sa sb de fe re sl fl tx)), .box (.p (.agg [.int .i64 va, .int .i64 vb, .lst false 36 hs])), .box (.p (hT hb hi ha hh he))]⟩, [decide (he > 2147483647) = true, decide (he < 0) = false, decide (hi < 0) = false, (hb != a) = false, (0 : Int) ≤ i ∧ hs[(i : Int).toNat]? = some (hT hb hi ha hh he), (e == 0) = true, decide (i < ((hs).length : Int)) = true]) := by kernel_rfl
theorem rfitB_16 (s e i s2 e2 hb hi ha he yb yi ya ye : Int) (hh yh : List Int) (ch a b out sa sb de fe re sl fl va vb : Int) (tx : List Int) (hs : List T): bodyK (Cd [((27, 38), hT hb hi ha hh he), ((27, 79), hT yb yi ya yh ye), ((27, 90), hT yb yi ya yh ye), ((27, 101), hT yb yi ya yh ye)] [72]) 30 21 0 (loopAt Try.f21 0) ⟨131, [(2, .ptr 0 0), (3, .ptr 1 0), (4, .p (.bool false)), (5, .p (.int .i64 s)), (6, .p (.int .i64 e)), (7, .p (.int .i64 i))], [.box (.p (tT ch a b out sa sb de fe re sl fl tx)), .box (.p (.agg [.int .i64 va, .int .i64 vb, .lst false 36 hs]))]⟩ [(0, true), (0, true), (0, false), (0, false), (0, false), (0, false), (0, true)] [] [2, 3, 4, 5, 6, 7] [] [[.int .i64 s2, .int .i64 e2]] [] = some (.ret, ⟨131, [(4, .rb false)], [.box (.p (tT ch a b out sa sb de fe re sl fl tx)), .box (.p (.agg [.int .i64 va, .int .i64 vb, .lst false 36 hs])), .box (.p (hT hb hi ha hh he))]⟩, [((hh) == zeros) = true, decide (he > 2147483647) = false, decide (he < 0) = false, decide (hi < 0) = false, (hb != a) = false, (0 : Int) ≤ i ∧ hs[(i : Int).toNat]? = some (hT hb hi ha hh he), (e == 0) = true, decide (i < ((hs).length : Int)) = true]) := by kernel_rfl
theorem rfitB_17 (s e i s2 e2 hb hi ha he yb yi ya ye : Int) (hh yh : List Int) (ch a b out sa sb de fe re sl fl va vb : Int) (tx : List Int) (hs : List T): bodyK (Cd [((27, 38), hT hb hi ha hh he), ((27, 79), hT yb yi ya yh ye), ((27, 90), hT yb yi ya yh ye), ((27, 101), hT yb yi ya yh ye)] [72]) 30 21 0 (loopAt Try.f21 0) ⟨131, [(2, .ptr 0 0), (3, .ptr 1 0), (4, .p (.bool false)), (5, .p (.int .i64 s)), (6, .p (.int .i64 e)), (7, .p (.int .i64 i))], [.box (.p (tT ch a b out sa sb de fe re sl fl tx)), .box (.p (.agg [.int .i64 va, .int .i64 vb, .lst false 36 hs]))]⟩ [(0, true), (0, true), (0, false), (0, false), (0, false), (0, false), (0, false), (0, false)] [] [2, 3, 4, 5, 6, 7] [] [[.int .i64 s2, .int .i64 e2]] [] = some (.normal, ⟨131, [(7, .p (.int .i64 (IntKind.i64.wrap (i + 1)))), (6, .p (.int .i64 e2)), (5, .p (.int .i64 s2)), (2, .ptr 0 0), (3, .ptr 1 0), (4, .p (.bool false))], [.box (.p (tT ch a b out sa sb de fe re sl fl tx)), .box (.p (.agg [.int .i64 va, .int .i64 vb, .lst false 36 hs])), .box (.p (hT hb hi ha hh he))]⟩, [PCall Try.prog 72 [.int .i64 s, .int .i64 ha] [.int .i64 s2, .int .i64 e2], decide (i > 0) = false, ((hh) == zeros) = false, decide (he > 2147483647) = false, decide (he < 0) = false, decide (hi < 0) = false, (hb != a) = false, (0 : Int) ≤ i ∧ hs[(i : Int).toNat]? = some (hT hb hi ha hh he), (e == 0) = true, decide (i < ((hs).length : Int)) = true]) := by kernel_rfl
theorem rfitB_18 (s e i s2 e2 hb hi ha he yb yi ya ye : Int) (hh yh : List Int) (ch a b out sa sb de fe re sl fl va vb : Int) (tx : List Int) (hs : List T): bodyK (Cd [((27, 38), hT hb hi ha hh he), ((27, 79), hT yb yi ya yh ye), ((27, 90), hT yb yi ya yh ye), ((27, 101), hT yb yi ya yh ye)] [72]) 30 21 0 (loopAt Try.f21 0) ⟨131, [(2, .ptr 0 0), (3, .ptr 1 0), (4, .p (.bool false)), (5, .p (.int .i64 s)), (6, .p (.int .i64 e)), (7, .p (.int .i64 i))], [.box (.p (tT ch a b out sa sb de fe re sl fl tx)), .box (.p (.agg [.int .i64 va, .int .i64 vb, .lst false 36 hs]))]⟩ [(0, true), (0, true), (0, false), (0, false), (0, false), (0, false), (0, false), (0, true), (0, true)] [] [2, 3, 4, 5, 6, 7] [] [[.int .i64 s2, .int .i64 e2]] [] = some (.ret, ⟨131, [(4, .rb false)], [.box (.p (tT ch a b out sa sb de fe re sl fl tx)), .box (.p (.agg [.int .i64 va, .int .i64 vb, .lst false 36 hs])), .box (.p (hT hb hi ha hh he))]⟩, [decide (yb > hb) = true, (0 : Int) ≤ (IntKind.i64.wrap (i - 1)) ∧ hs[((IntKind.i64.wrap (i - 1)) : Int).toNat]? = some (hT yb yi ya yh ye), decide (i > 0) = true, ((hh) == zeros) = false, decide (he > 2147483647) = false, decide (he < 0) = false, decide (hi < 0) = false, (hb != a) = false, (0 : Int) ≤ i ∧ hs[(i : Int).toNat]? = some (hT hb hi ha hh he), (e == 0) = true, decide (i < ((hs).length : Int)) = true]) := by kernel_rfl
theorem rfitB_19 (s e i s2 e2 hb hi ha he yb yi ya ye : Int) (hh yh : List Int) (ch a b out sa sb de fe re sl fl va vb : Int) (tx : List Int) (hs : List T): bodyK (Cd [((27, 38), hT hb hi ha hh he), ((27, 79), hT yb yi ya yh ye), ((27, 90), hT yb yi ya yh ye), ((27, 101), hT yb yi ya yh ye)] [72]) 30 21 0 (loopAt Try.f21 0) ⟨131, [(2, .ptr 0 0), (3, .ptr 1 0), (4, .p (.bool false)), (5, .p (.int .i64 s)), (6, .p (.int .i64 e)), (7, .p (.int .i64 i))], [.box (.p (tT ch a b out sa sb de fe re sl fl tx)), .box (.p (.agg [.int .i64 va, .int .i64 vb, .lst false 36 hs]))]⟩ [(0, true), (0, true), (0, false), (0, false), (0, false), (0, false), (0, false), (0, true), (0, false), (0, false)] [] [2, 3, 4, 5, 6, 7] [] [[.int .i64 s2, .int .i64 e2]] [] = some (.normal, ⟨131, [(7, .p (.int .i64 (IntKind.i64.wrap (i + 1)))), (6, .p (.int .i64 e2)), (5, .p (.int .i64 s2)), (2, .ptr 0 0), (3, .ptr 1 0), (4, .p (.bool false))], [.box (.p (tT ch a b out sa sb de fe re sl fl tx)), .box (.p (.agg [.int .i64 va, .int .i64 vb, .lst false 36 hs])), .box (.p (hT hb hi ha hh he))]⟩, [PCall Try.prog 72 [.int .i64 s, .int .i64 ha] [.int .i64 s2, .int .i64 e2], (yb == hb) = false, (0 : Int) ≤ (IntKind.i64.wrap (i - 1)) ∧ hs[((IntKind.i64.wrap (i - 1)) : Int).toNat]? = some (hT yb yi ya yh ye), decide (yb > hb) = false, (0 : Int) ≤ (IntKind.i64.wrap (i - 1)) ∧ hs[((IntKind.i64.wrap (i - 1)) : Int).toNat]? = some (hT yb yi ya yh ye), decide (i > 0) = true, ((hh) == zeros) = false, decide (he > 2147483647) = false, decide (he < 0) = false, decide (hi < 0) = false, (hb != a) = false, (0 : Int) ≤ i ∧ hs[(i : Int).toNat]? = some (hT hb hi ha hh he), (e == 0) = true, decide (i < ((hs).length : Int)) = true]) := by kernel_rfl
theorem rfitB_20 (s e i s2 e2 hb hi ha he yb yi ya ye : Int) (hh yh : List Int) (ch a b out sa sb de fe re sl fl va vb : Int) (tx : List Int) (hs : List T): bodyK (Cd [((27, 38), hT hb hi ha hh he), ((27, 79), hT yb yi ya yh ye), ((27, 90), hT yb yi ya yh ye), ((27, 101), hT yb yi ya yh ye)] [72]) 30 21 0 (loopAt Try.f21 0) ⟨131, [(2, .ptr 0 0), (3, .ptr 1 0), (4, .p (.bool false)), (5, .p (.int .i64 s)), (6, .p (.int .i64 e)), (7, .p (.int .i64 i))], [.box (.p (tT ch a b out sa sb de fe re sl fl tx)), .box (.p (.agg [.int .i64 va, .int .i64 vb, .lst false 36 hs]))]⟩ [(0, true), (0, true), (0, false), (0, false), (0, false), (0, false), (0, false), (0, true), (0, false), (0, true), (0, true)] [] [2, 3, 4, 5, 6, 7] [] [[.int .i64 s2, .int .i64 e2]] [] = some (.ret, ⟨131, [(4, .rb false)], [.box (.p (tT ch a b out sa sb de fe re sl fl tx)), .box (.p (.agg [.int .i64 va, .int .i64 vb, .lst false 36 hs])), .box (.p (hT hb hi ha hh he))]⟩, [decide (yi ≥ hi) = true, (0 : Int) ≤ (IntKind.i64.wrap (i - 1)) ∧ hs[((IntKind.i64.wrap (i - 1)) : Int).toNat]? = some (hT yb yi ya yh ye), (yb == hb) = true, (0 : Int) ≤ (IntKind.i64.wrap (i - 1)) ∧ hs[((IntKind.i64.wrap (i - 1)) : Int).toNat]? = some (hT yb yi ya yh ye), decide (yb > hb) = false, (0 : Int) ≤ (IntKind.i64.wrap (i - 1)) ∧ hs[((IntKind.i64.wrap (i - 1)) : Int).toNat]? = some (hT yb yi ya yh ye), decide (i > 0) = true, ((hh) == zeros) = false, decide (he > 2147483647) = false, decide (he < 0) = false, decide (hi < 0) = false, (hb != a) = false, (0 : Int) ≤ i ∧ hs[(i : Int).toNat]? = some (hT hb hi ha hh he), (e == 0) = true, decide (i < ((hs).length : Int)) = true]) := by kernel_rfl
theorem rfitsE_0 (s e i s2 e2 : Int) (ch a b out sa sb de fe re sl fl va vb : Int) (tx : List Int) (hs : List T): topK (Cd [] [19, 72]) 30 21 [] [.p (tT ch a b out sa sb de fe re sl fl tx), .p (.agg [.int .i64 va, .int .i64 vb, .lst false 36 hs])] [(1, false), (0, true), (0, true)] [some ([2, 3, 4, 5, 6, 7], .exit 0, ⟨131, [(2, .ptr 0 0), (3, .ptr 1 0), (4, .p (.bool false)), (5, .p (.int .i64 s2)), (6, .p (.int .i64 e2)), (7, .p (.int .i64 i))], [.box (.p (tT ch a b out sa sb de fe re sl fl tx)), .box (.p (.agg [.int .i64 va, .int .i64 vb, .lst false 36 hs]))]⟩)] [] [[.bool true], [.int .i64 s, .int .i64 e]] [] = some ([.rb true], [], [(s2 == (IntKind.i64.wrap (sa + sb))) = true, (e2 == 0) = true, LoopG Try.prog 0 (loopAt Try.f21 0) ⟨131, [(7, .p (.int .i64 0)), (6, .p (.int .i64 e)), (5, .p (.int .i64 s)), (4, .rb false), (3, .ptr 1 0), (2, .ptr 0 0)], [.box (.p (tT ch a b out sa sb de fe re sl fl tx)), .box (.p (.agg [.int .i64 va, .int .i64 vb, .lst false 36 hs]))]⟩ (.exit 0) ⟨131, [(2, .ptr 0 0), (3, .ptr 1 0), (4, .p (.bool false)), (5, .p (.int .i64 s2)), (6, .p (.int .i64 e2)), (7, .p (.int .i64 i))], [.box (.p (tT ch a b out sa sb de fe re sl fl tx)), .box (.p (.agg [.int .i64 va, .int .i64 vb, .lst false 36 hs]))]⟩, PCall Try.prog 72 [.int .i64 va, .int .i64 vb] [.int .i64 s, .int .i64 e], decide (((hs).length : Int) > 32) = false, PCall Try.prog 19 [tT ch a b out sa sb de fe re sl fl tx] [.bool true]]) := by kernel_rfl
theorem rfitsE_1 (s e i s2 e2 : Int) (ch a b out sa sb de fe re sl fl va vb : Int) (tx : List Int) (hs : List T): topK (Cd [] [19, 72]) 30 21 [] [.p (tT ch a b out sa sb de fe re sl fl tx), .p (.agg [.int .i64 va, .int .i64 vb, .lst false 36 hs])] [(1, true)] [some ([2, 3, 4, 5, 6, 7], .exit 0, ⟨131, [(2, .ptr 0 0), (3, .ptr 1 0), (4, .p (.bool false)), (5, .p (.int .i64 s2)), (6, .p (.int .i64 e2)), (7, .p (.int .i64 i))], [.box (.p (tT ch a b out sa sb de fe re sl fl tx)), .box (.p (.agg [.int .i64 va, .int .i64 vb, .lst false 36 hs]))]⟩)] [] [[.bool true], [.int .i64 s, .int .i64 e]] [] = some ([.rb false], [], [decide (((hs).length : Int) > 32) = true, PCall Try.prog 19 [tT ch a b out sa sb de fe re sl fl tx] [.bool true]]) := by kernel_rfl
theorem rfitsE_2 (s e i s2 e2 : Int) (ch a b out sa sb de fe re sl fl va vb : Int) (tx : List Int) (hs : List T): topK (Cd [] [19, 72]) 30 21 [] [.p (tT ch a b out sa sb de fe re sl fl tx), .p (.agg [.int .i64 va, .int .i64 vb, .lst false 36 hs])] [(1, false), (0, false)] [some ([2, 3, 4, 5, 6, 7], .exit 0, ⟨131, [(2, .ptr 0 0), (3, .ptr 1 0), (4, .p (.bool false)), (5, .p (.int .i64 s2)), (6, .p (.int .i64 e2)), (7, .p (.int .i64 i))], [.box (.p (tT ch a b out sa sb de fe re sl fl tx)), .box (.p (.agg [.int .i64 va, .int .i64 vb, .lst false 36 hs]))]⟩)] [] [[.bool true], [.int .i64 s, .int .i64 e]] [] = some ([.rb false], [], [(e2 == 0) = false, LoopG Try.prog 0 (loopAt Try.f21 0) ⟨131, [(7, .p (.int .i64 0)), (6, .p (.int .i64 e)), (5, .p (.int .i64 s)), (4, .rb false), (3, .ptr 1 0), (2, .ptr 0 0)], [.box (.p (tT ch a b out sa sb de fe re sl fl tx)), .box (.p (.agg [.int .i64 va, .int .i64 vb, .lst false 36 hs]))]⟩ (.exit 0) ⟨131, [(2, .ptr 0 0), (3, .ptr 1 0), (4, .p (.bool false)), (5, .p (.int .i64 s2)), (6, .p (.int .i64 e2)), (7, .p (.int .i64 i))], [.box (.p (tT ch a b out sa sb de fe re sl fl tx)), .box (.p (.agg [.int .i64 va, .int .i64 vb, .lst false 36 hs]))]⟩, PCall Try.prog 72 [.int .i64 va, .int .i64 vb] [.int .i64 s, .int .i64 e], decide (((hs).length : Int) > 32) = false, PCall Try.prog 19 [tT ch a b out sa sb de fe re sl fl tx] [.bool true]]) := by kernel_rfl
theorem rfitsE_3 (s e i s2 e2 : Int) (ch a b out sa sb de fe re sl fl va vb : Int) (tx : List Int) (hs : List T): topK (Cd [] [19, 72]) 30 21 [] [.p (tT ch a b out sa sb de fe re sl fl tx), .p (.agg [.int .i64 va, .int .i64 vb, .lst false 36 hs])] [(1, false), (0, true), (0, false)] [some ([2, 3, 4, 5, 6, 7], .exit 0, ⟨131, [(2, .ptr 0 0), (3, .ptr 1 0), (4, .p (.bool false)), (5, .p (.int .i64 s2)), (6, .p (.int .i64 e2)), (7, .p (.int .i64 i))], [.box (.p (tT ch a b out sa sb de fe re sl fl tx)), .box (.p (.agg [.int .i64 va, .int .i64 vb, .lst false 36 hs]))]⟩)] [] [[.bool true], [.int .i64 s, .int .i64 e]] [] = some ([.rb false], [], [(s2 == (IntKind.i64.wrap (sa + sb))) = false, (e2 == 0) = true, LoopG Try.prog 0 (loopAt Try.f21 0) ⟨131, [(7, .p (.int .i64 0)), (6, .p (.int .i64 e)), (5, .p (.int .i64 s)), (4, .rb false), (3, .ptr 1 0), (2, .ptr 0 0)], [.box (.p (tT ch a b out sa sb de fe re sl fl tx)), .box (.p (.agg [.int .i64 va, .int .i64 vb, .lst false 36 hs]))]⟩ (.exit 0) ⟨131, [(2, .ptr 0 0), (3, .ptr 1 0), (4, .p (.bool false)), (5, .p (.int .i64 s2)), (6, .p (.int .i64 e2)), (7, .p (.int .i64 i))], [.box (.p (tT ch a b out sa sb de fe re sl fl tx)), .box (.p (.agg [.int .i64 va, .int .i64 vb, .lst false 36 hs]))]⟩, PCall Try.prog 72 [.int .i64 va, .int .i64 vb] [.int .i64 s, .int .i64 e], decide (((hs).length : Int) > 32) = false, PCall Try.prog 19 [tT ch a b out sa sb de fe re sl fl tx] [.bool true]]) := by kernel_rfl
theorem rfitsN (s e i s2 e2 : Int) (ch a b out sa sb de fe re sl fl va vb : Int) (tx : List Int) (hs : List T): topK (Cd [] [19, 72]) 30 21 [] [.p (tT ch a b out sa sb de fe re sl fl tx), .p (.agg [.int .i64 va, .int .i64 vb, .lst false 36 hs])] [] [] [] [[.bool false]] [] = some ([.rb false], [], [PCall Try.prog 19 [tT ch a b out sa sb de fe re sl fl tx] [.bool false]]) := by kernel_rfl
theorem rfitsR (s e i s2 e2 : Int) (ch a b out sa sb de fe re sl fl va vb : Int) (tx : List Int) (hs : List T): topK (Cd [] [19, 72]) 30 21 [] [.p (tT ch a b out sa sb de fe re sl fl tx), .p (.agg [.int .i64 va, .int .i64 vb, .lst false 36 hs])] [(1, false)] [some ([2, 3, 4, 5, 6, 7], .ret, ⟨131, [(4, .p (.bool false))], [.box (.p (tT ch a b out sa sb de fe re sl fl tx)), .box (.p (.agg [.int .i64 va, .int .i64 vb, .lst false 36 hs]))]⟩)] [] [[.bool true], [.int .i64 s, .int .i64 e]] [] = some ([.p (.bool false)], [], [LoopG Try.prog 0 (loopAt Try.f21 0) ⟨131, [(7, .p (.int .i64 0)), (6, .p (.int .i64 e)), (5, .p (.int .i64 s)), (4, .rb false), (3, .ptr 1 0), (2, .ptr 0 0)], [.box (.p (tT ch a b out sa sb de fe re sl fl tx)), .box (.p (.agg [.int .i64 va, .int .i64 vb, .lst false 36 hs]))]⟩ (.ret) ⟨131, [(4, .p (.bool false))], [.box (.p (tT ch a b out sa sb de fe re sl fl tx)), .box (.p (.agg [.int .i64 va, .int .i64 vb, .lst false 36 hs]))]⟩, PCall Try.prog 72 [.int .i64 va, .int .i64 vb] [.int .i64 s, .int .i64 e], decide (((hs).length : Int) > 32) = false, PCall Try.prog 19 [tT ch a b out sa sb de fe re sl fl tx] [.bool true]]) := by kernel_rfl
def rmayG (t : Terms) : Bool := bif decide (t.Channel < 1) || decide (t.Channel > 65535) || decide (t.A < 0) || decide (t.B > 7) || decide (t.A ≥ t.B) || decide (t.Fund.Out < 0) || decide (t.Delay < 1) || decide (t.Delay > 1000) || decide (t.Fee < 0) || decide (t.Reserve < 0) || decide (t.Flight < 0) || decide (t.Slots < 1) || decide (t.Slots > 16) then false else (add t.StartA t.StartB).2 == 0
theorem rmay_ok0 (t : Terms) : PCall Try.prog 19 [t.t] [.bool (rmayG t)] := by
 unfold rmayG
 cases c0 : decide (t.Channel < 1) with
 | true =>
  have r : PCall Try.prog 19 [t.t] [.bool false] := (topK_sound (Cd_ok _ _) (rmay_1 (add t.StartA t.StartB).1 (add t.StartA t.StartB).2 t.Channel t.A t.B t.Fund.Out t.StartA t.StartB t.Delay t.Fee t.Reserve t.Slots t.Flight t.Fund.Tx) ⟨c0, trivial⟩).pure (k := 64) rfl
  simpa only [c0, Bool.or_false, Bool.false_or, Bool.or_true, Bool.true_or, cond_true, cond_false] using r
 | false =>
  cases c1 : decide (t.Channel > 65535) with
  | true =>
   have r : PCall Try.prog 19 [t.t] [.bool false] := (topK_sound (Cd_ok _ _) (rmay_2 (add t.StartA t.StartB).1 (add t.StartA t.StartB).2 t.Channel t.A t.B t.Fund.Out t.StartA t.StartB t.Delay t.Fee t.Reserve t.Slots t.Flight t.Fund.Tx) ⟨c1, c0, trivial⟩).pure (k := 64) rfl
   simpa only [c0, c1, Bool.or_false, Bool.false_or, Bool.or_true, Bool.true_or, cond_true, cond_false] using r
  | false =>
   cases c2 : decide (t.A < 0) with
   | true =>
    have r : PCall Try.prog 19 [t.t] [.bool false] := (topK_sound (Cd_ok _ _) (rmay_3 (add t.StartA t.StartB).1 (add t.StartA t.StartB).2 t.Channel t.A t.B t.Fund.Out t.StartA t.StartB t.Delay t.Fee t.Reserve t.Slots t.Flight t.Fund.Tx) ⟨c2, c1, c0, trivial⟩).pure (k := 64) rfl
    simpa only [c0, c1, c2, Bool.or_false, Bool.false_or, Bool.or_true, Bool.true_or, cond_true, cond_false] using r
   | false =>
    cases c3 : decide (t.B > 7) with
    | true =>
     have r : PCall Try.prog 19 [t.t] [.bool false] := (topK_sound (Cd_ok _ _) (rmay_4 (add t.StartA t.StartB).1 (add t.StartA t.StartB).2 t.Channel t.A t.B t.Fund.Out t.StartA t.StartB t.Delay t.Fee t.Reserve t.Slots t.Flight t.Fund.Tx) ⟨c3, c2, c1, c0, trivial⟩).pure (k := 64) rfl
     simpa only [c0, c1, c2, c3, Bool.or_false, Bool.false_or, Bool.or_true, Bool.true_or, cond_true, cond_false] using r
    | false =>
     cases c4 : decide (t.A ≥ t.B) with
     | true =>
      have r : PCall Try.prog 19 [t.t] [.bool false] := (topK_sound (Cd_ok _ _) (rmay_5 (add t.StartA t.StartB).1 (add t.StartA t.StartB).2 t.Channel t.A t.B t.Fund.Out t.StartA t.StartB t.Delay t.Fee t.Reserve t.Slots t.Flight t.Fund.Tx) ⟨c4, c3, c2, c1, c0, trivial⟩).pure (k := 64) rfl
      simpa only [c0, c1, c2, c3, c4, Bool.or_false, Bool.false_or, Bool.or_true, Bool.true_or, cond_true, cond_false] using r
     | false =>
      cases c5 : decide (t.Fund.Out < 0) with
      | true =>
       have r : PCall Try.prog 19 [t.t] [.bool false] := (topK_sound (Cd_ok _ _) (rmay_6 (add t.StartA t.StartB).1 (add t.StartA t.StartB).2 t.Channel t.A t.B t.Fund.Out t.StartA t.StartB t.Delay t.Fee t.Reserve t.Slots t.Flight t.Fund.Tx) ⟨c5, c4, c3, c2, c1, c0, trivial⟩).pure (k := 64) rfl
       simpa only [c0, c1, c2, c3, c4, c5, Bool.or_false, Bool.false_or, Bool.or_true, Bool.true_or, cond_true, cond_false] using r
      | false =>
       cases c6 : decide (t.Delay < 1) with
       | true =>
        have r : PCall Try.prog 19 [t.t] [.bool false] := (topK_sound (Cd_ok _ _) (rmay_7 (add t.StartA t.StartB).1 (add t.StartA t.StartB).2 t.Channel t.A t.B t.Fund.Out t.StartA t.StartB t.Delay t.Fee t.Reserve t.Slots t.Flight t.Fund.Tx) ⟨c6, c5, c4, c3, c2, c1, c0, trivial⟩).pure (k := 64) rfl
        simpa only [c0, c1, c2, c3, c4, c5, c6, Bool.or_false, Bool.false_or, Bool.or_true, Bool.true_or, cond_true, cond_false] using r
       | false =>
        cases c7 : decide (t.Delay > 1000) with
        | true =>
         have r : PCall Try.prog 19 [t.t] [.bool false] := (topK_sound (Cd_ok _ _) (rmay_8 (add t.StartA t.StartB).1 (add t.StartA t.StartB).2 t.Channel t.A t.B t.Fund.Out t.StartA t.StartB t.Delay t.Fee t.Reserve t.Slots t.Flight t.Fund.Tx) ⟨c7, c6, c5, c4, c3, c2, c1, c0, trivial⟩).pure (k := 64) rfl
         simpa only [c0, c1, c2, c3, c4, c5, c6, c7, Bool.or_false, Bool.false_or, Bool.or_true, Bool.true_or, cond_true, cond_false] using r
        | false =>
         cases c8 : decide (t.Fee < 0) with
         | true =>
          have r : PCall Try.prog 19 [t.t] [.bool false] := (topK_sound (Cd_ok _ _) (rmay_9 (add t.StartA t.StartB).1 (add t.StartA t.StartB).2 t.Channel t.A t.B t.Fund.Out t.StartA t.StartB t.Delay t.Fee t.Reserve t.Slots t.Flight t.Fund.Tx) ⟨c8, c7, c6, c5, c4, c3, c2, c1, c0, trivial⟩).pure (k := 64) rfl
          simpa only [c0, c1, c2, c3, c4, c5, c6, c7, c8, Bool.or_false, Bool.false_or, Bool.or_true, Bool.true_or, cond_true, cond_false] using r
         | false =>
          cases c9 : decide (t.Reserve < 0) with
          | true =>
           have r : PCall Try.prog 19 [t.t] [.bool false] := (topK_sound (Cd_ok _ _) (rmay_10 (add t.StartA t.StartB).1 (add t.StartA t.StartB).2 t.Channel t.A t.B t.Fund.Out t.StartA t.StartB t.Delay t.Fee t.Reserve t.Slots t.Flight t.Fund.Tx) ⟨c9, c8, c7, c6, c5, c4, c3, c2, c1, c0, trivial⟩).pure (k := 64) rfl
           simpa only [c0, c1, c2, c3, c4, c5, c6, c7, c8, c9, Bool.or_false, Bool.false_or, Bool.or_true, Bool.true_or, cond_true, cond_false] using r
          | false =>
           cases c10 : decide (t.Flight < 0) with
           | true =>
            have r : PCall Try.prog 19 [t.t] [.bool false] := (topK_sound (Cd_ok _ _) (rmay_11 (add t.StartA t.StartB).1 (add t.StartA t.StartB).2 t.Channel t.A t.B t.Fund.Out t.StartA t.StartB t.Delay t.Fee t.Reserve t.Slots t.Flight t.Fund.Tx) ⟨c10, c9, c8, c7, c6, c5, c4, c3, c2, c1, c0, trivial⟩).pure (k := 64) rfl
            simpa only [c0, c1, c2, c3, c4, c5, c6, c7, c8, c9, c10, Bool.or_false, Bool.false_or, Bool.or_true, Bool.true_or, cond_true, cond_false] using r
           | false =>
            cases c11 : decide (t.Slots < 1) with
            | true =>
             have r : PCall Try.prog 19 [t.t] [.bool false] := (topK_sound (Cd_ok _ _) (rmay_12 (add t.StartA t.StartB).1 (add t.StartA t.StartB).2 t.Channel t.A t.B t.Fund.Out t.StartA t.StartB t.Delay t.Fee t.Reserve t.Slots t.Flight t.Fund.Tx) ⟨c11, c10, c9, c8, c7, c6, c5, c4, c3, c2, c1, c0, trivial⟩).pure (k := 64) rfl
             simpa only [c0, c1, c2, c3, c4, c5, c6, c7, c8, c9, c10, c11, Bool.or_false, Bool.false_or, Bool.or_true, Bool.true_or, cond_true, cond_false] using r
            | false =>
             cases c12 : decide (t.Slots > 16) with
             | true =>
              have r : PCall Try.prog 19 [t.t] [.bool false] := (topK_sound (Cd_ok _ _) (rmay_13 (add t.StartA t.StartB).1 (add t.StartA t.StartB).2 t.Channel t.A t.B t.Fund.Out t.StartA t.StartB t.Delay t.Fee t.Reserve t.Slots t.Flight t.Fund.Tx) ⟨c12, c11, c10, c9, c8, c7, c6, c5, c4, c3, c2, c1, c0, trivial⟩).pure (k := 64) rfl
              simpa only [c0, c1, c2, c3, c4, c5, c6, c7, c8, c9, c10, c11, c12, Bool.or_false, Bool.false_or, Bool.or_true, Bool.true_or, cond_true, cond_false] using r
             | false =>
              cases c13 : ((add t.StartA t.StartB).2 == 0) with
              | true =>
               have r : PCall Try.prog 19 [t.t] [.bool true] := (topK_sound (Cd_ok _ _) (rmay_0 (add t.StartA t.StartB).1 (add t.StartA t.StartB).2 t.Channel t.A t.B t.Fund.Out t.StartA t.StartB t.Delay t.Fee t.Reserve t.Slots t.Flight t.Fund.Tx) ⟨c13, radd_ok _ _, c12, c11, c10, c9, c8, c7, c6, c5, c4, c3, c2, c1, c0, trivial⟩).pure (k := 64) rfl
               simpa only [c0, c1, c2, c3, c4, c5, c6, c7, c8, c9, c10, c11, c12, c13, Bool.or_false, Bool.false_or, Bool.or_true, Bool.true_or, cond_true, cond_false] using r
              | false =>
               have r : PCall Try.prog 19 [t.t] [.bool false] := (topK_sound (Cd_ok _ _) (rmay_14 (add t.StartA t.StartB).1 (add t.StartA t.StartB).2 t.Channel t.A t.B t.Fund.Out t.StartA t.StartB t.Delay t.Fee t.Reserve t.Slots t.Flight t.Fund.Tx) ⟨c13, radd_ok _ _, c12, c11, c10, c9, c8, c7, c6, c5, c4, c3, c2, c1, c0, trivial⟩).pure (k := 64) rfl
               simpa only [c0, c1, c2, c3, c4, c5, c6, c7, c8, c9, c10, c11, c12, c13, Bool.or_false, Bool.false_or, Bool.or_true, Bool.true_or, cond_true, cond_false] using r
def less (n k : Int) : Int := bif decide (n ≤ k) then 0 else IntKind.i64.wrap (n - k)
def StF (t : Terms) (v : View) (s e i : Int) : St := ⟨131, [(2, .ptr 0 0), (3, .ptr 1 0), (4, .p (.bool false)), (5, .p (.int .i64 s)), (6, .p (.int .i64 e)), (7, .p (.int .i64 i))], [.box (.p (tT t.Channel t.A t.B t.Fund.Out t.StartA t.StartB t.Delay t.Fee t.Reserve t.Slots t.Flight t.Fund.Tx)), .box (.p (.agg [.int .i64 v.A, .int .i64 v.B, .lst false 36 (v.Htlcs.map Htlc.t)]))]⟩
def StR (t : Terms) (v : View) : St := ⟨131, [(4, .p (.bool false))], [.box (.p (tT t.Channel t.A t.B t.Fund.Out t.StartA t.StartB t.Delay t.Fee t.Reserve t.Slots t.Flight t.Fund.Tx)), .box (.p (.agg [.int .i64 v.A, .int .i64 v.B, .lst false 36 (v.Htlcs.map Htlc.t)]))]⟩
def bad1 (t : Terms) (h : Htlc) : Bool := ((h.By != t.A) && (h.By != t.B)) || decide (h.Id < 0) || decide (h.Expiry < 0) || decide (h.Expiry > 2147483647) || (h.Hash == zeros)
def bad2 (y h : Htlc) : Bool := decide (y.By > h.By) || ((y.By == h.By) && decide (y.Id ≥ h.Id))
def badR (t : Terms) (y : Option Htlc) (h : Htlc) : Bool := bad1 t h || (match y with | none => false | some y => bad2 y h)
theorem rround_none (t : Terms) (v : View) (s i : Int) (h : Htlc) (hi : i = 0) (hl : (v.Htlcs.map Htlc.t).length ≤ 32) (hx : 0 ≤ i ∧ (v.Htlcs.map Htlc.t)[i.toNat]? = some h.t) (hlt : i < (v.Htlcs.map Htlc.t).length) :
  (badR t none h = true ∧ CodeG Try.prog 0 (loopAt Try.f21 0) (StF t v s 0 i) .ret (StR t v)) ∨ (badR t none h = false ∧ CodeG Try.prog 0 (loopAt Try.f21 0) (StF t v s 0 i) .normal (StF t v (add s h.Amount).1 (add s h.Amount).2 (i + 1))) := by
 have hlt' : decide (i < (((v.Htlcs.map Htlc.t)).length : Int)) = true := by simpa using hlt
 have he : ((0 : Int) == 0) = true := rfl
 have wi : IntKind.i64.wrap (i + 1) = i + 1 := w64 (by omega) (by omega)
 have wj : IntKind.i64.wrap (i - 1) = i - 1 := w64 (by omega) (by omega)
 have h0 : decide (i > 0) = false := by simp; omega
 cases c0 : (h.By != t.A) with
 | true =>
  cases c1 : (h.By != t.B) with
  | true =>
   exact .inl ⟨by simp only [badR, bad1, bad2, c0, c1, Bool.or_false, Bool.false_or, Bool.or_true, Bool.true_or, Bool.and_true, Bool.true_and, Bool.and_false, Bool.false_and], CodeG.normE (bodyK_sound (Cd_ok _ _) (rfitB_3 s 0 i (add s h.Amount).1 (add s h.Amount).2 h.By h.Id h.Amount h.Expiry 0 0 0 0 h.Hash [] t.Channel t.A t.B t.Fund.Out t.StartA t.StartB t.Delay t.Fee t.Reserve t.Slots t.Flight v.A v.B t.Fund.Tx (v.Htlcs.map Htlc.t)) ⟨c1, c0, hx, he, hlt', trivial⟩) (by omega) (by omega) [4] (m := 0) (k := 2) (by kernel_rfl)⟩
  | false =>
   cases c2 : decide (h.Id < 0) with
   | true =>
    exact .inl ⟨by simp only [badR, bad1, bad2, c0, c1, c2, Bool.or_false, Bool.false_or, Bool.or_true, Bool.true_or, Bool.and_true, Bool.true_and, Bool.and_false, Bool.false_and], CodeG.normE (bodyK_sound (Cd_ok _ _) (rfitB_5 s 0 i (add s h.Amount).1 (add s h.Amount).2 h.By h.Id h.Amount h.Expiry 0 0 0 0 h.Hash [] t.Channel t.A t.B t.Fund.Out t.StartA t.StartB t.Delay t.Fee t.Reserve t.Slots t.Flight v.A v.B t.Fund.Tx (v.Htlcs.map Htlc.t)) ⟨c2, c1, c0, hx, he, hlt', trivial⟩) (by omega) (by omega) [4] (m := 0) (k := 2) (by kernel_rfl)⟩
   | false =>
    cases c3 : decide (h.Expiry < 0) with
    | true =>
     exact .inl ⟨by simp only [badR, bad1, bad2, c0, c1, c2, c3, Bool.or_false, Bool.false_or, Bool.or_true, Bool.true_or, Bool.and_true, Bool.true_and, Bool.and_false, Bool.false_and], CodeG.normE (bodyK_sound (Cd_ok _ _) (rfitB_6 s 0 i (add s h.Amount).1 (add s h.Amount).2 h.By h.Id h.Amount h.Expiry 0 0 0 0 h.Hash [] t.Channel t.A t.B t.Fund.Out t.StartA t.StartB t.Delay t.Fee t.Reserve t.Slots t.Flight v.A v.B t.Fund.Tx (v.Htlcs.map Htlc.t)) ⟨c3, c2, c1, c0, hx, he, hlt', trivial⟩) (by omega) (by omega) [4] (m := 0) (k := 2) (by kernel_rfl)⟩
    | false =>
     cases c4 : decide (h.Expiry > 2147483647) with
     | true =>
      exact .inl ⟨by simp only [badR, bad1, bad2, c0, c1, c2, c3, c4, Bool.or_false, Bool.false_or, Bool.or_true, Bool.true_or, Bool.and_true, Bool.true_and, Bool.and_false, Bool.false_and], CodeG.normE (bodyK_sound (Cd_ok _ _) (rfitB_7 s 0 i (add s h.Amount).1 (add s h.Amount).2 h.By h.Id h.Amount h.Expiry 0 0 0 0 h.Hash [] t.Channel t.A t.B t.Fund.Out t.StartA t.StartB t.Delay t.Fee t.Reserve t.Slots t.Flight v.A v.B t.Fund.Tx (v.Htlcs.map Htlc.t)) ⟨c4, c3, c2, c1, c0, hx, he, hlt', trivial⟩) (by omega) (by omega) [4] (m := 0) (k := 2) (by kernel_rfl)⟩
     | false =>
      cases c5 : ((h.Hash) == zeros) with
      | true =>
       exact .inl ⟨by simp only [badR, bad1, bad2, c0, c1, c2, c3, c4, c5, Bool.or_false, Bool.false_or, Bool.or_true, Bool.true_or, Bool.and_true, Bool.true_and, Bool.and_false, Bool.false_and], CodeG.normE (bodyK_sound (Cd_ok _ _) (rfitB_8 s 0 i (add s h.Amount).1 (add s h.Amount).2 h.By h.Id h.Amount h.Expiry 0 0 0 0 h.Hash [] t.Channel t.A t.B t.Fund.Out t.StartA t.StartB t.Delay t.Fee t.Reserve t.Slots t.Flight v.A v.B t.Fund.Tx (v.Htlcs.map Htlc.t)) ⟨c5, c4, c3, c2, c1, c0, hx, he, hlt', trivial⟩) (by omega) (by omega) [4] (m := 0) (k := 2) (by kernel_rfl)⟩
      | false =>
       have r := CodeG.normE (bodyK_sound (Cd_ok _ _) (rfitB_9 s 0 i (add s h.Amount).1 (add s h.Amount).2 h.By h.Id h.Amount h.Expiry 0 0 0 0 h.Hash [] t.Channel t.A t.B t.Fund.Out t.StartA t.StartB t.Delay t.Fee t.Reserve t.Slots t.Flight v.A v.B t.Fund.Tx (v.Htlcs.map Htlc.t)) ⟨radd_ok s h.Amount, h0, c5, c4, c3, c2, c1, c0, hx, he, hlt', trivial⟩) (by omega) (by omega) [2, 3, 4, 5, 6, 7] (m := 0) (k := 2) (st2 := StF t v (add s h.Amount).1 (add s h.Amount).2 (IntKind.i64.wrap (i + 1))) (by kernel_rfl)
       rw [wi] at r
       exact .inr ⟨by simp only [badR, bad1, bad2, c0, c1, c2, c3, c4, c5, Bool.or_false, Bool.false_or, Bool.or_true, Bool.true_or, Bool.and_true, Bool.true_and, Bool.and_false, Bool.false_and], r⟩
 | false =>
  cases c1 : decide (h.Id < 0) with
  | true =>
   exact .inl ⟨by simp only [badR, bad1, bad2, c0, c1, Bool.or_false, Bool.false_or, Bool.or_true, Bool.true_or, Bool.and_true, Bool.true_and, Bool.and_false, Bool.false_and], CodeG.normE (bodyK_sound (Cd_ok _ _) (rfitB_13 s 0 i (add s h.Amount).1 (add s h.Amount).2 h.By h.Id h.Amount h.Expiry 0 0 0 0 h.Hash [] t.Channel t.A t.B t.Fund.Out t.StartA t.StartB t.Delay t.Fee t.Reserve t.Slots t.Flight v.A v.B t.Fund.Tx (v.Htlcs.map Htlc.t)) ⟨c1, c0, hx, he, hlt', trivial⟩) (by omega) (by omega) [4] (m := 0) (k := 2) (by kernel_rfl)⟩
  | false =>
   cases c2 : decide (h.Expiry < 0) with
   | true =>
    exact .inl ⟨by simp only [badR, bad1, bad2, c0, c1, c2, Bool.or_false, Bool.false_or, Bool.or_true, Bool.true_or, Bool.and_true, Bool.true_and, Bool.and_false, Bool.false_and], CodeG.normE (bodyK_sound (Cd_ok _ _) (rfitB_14 s 0 i (add s h.Amount).1 (add s h.Amount).2 h.By h.Id h.Amount h.Expiry 0 0 0 0 h.Hash [] t.Channel t.A t.B t.Fund.Out t.StartA t.StartB t.Delay t.Fee t.Reserve t.Slots t.Flight v.A v.B t.Fund.Tx (v.Htlcs.map Htlc.t)) ⟨c2, c1, c0, hx, he, hlt', trivial⟩) (by omega) (by omega) [4] (m := 0) (k := 2) (by kernel_rfl)⟩
   | false =>
    cases c3 : decide (h.Expiry > 2147483647) with
    | true =>
     exact .inl ⟨by simp only [badR, bad1, bad2, c0, c1, c2, c3, Bool.or_false, Bool.false_or, Bool.or_true, Bool.true_or, Bool.and_true, Bool.true_and, Bool.and_false, Bool.false_and], CodeG.normE (bodyK_sound (Cd_ok _ _) (rfitB_15 s 0 i (add s h.Amount).1 (add s h.Amount).2 h.By h.Id h.Amount h.Expiry 0 0 0 0 h.Hash [] t.Channel t.A t.B t.Fund.Out t.StartA t.StartB t.Delay t.Fee t.Reserve t.Slots t.Flight v.A v.B t.Fund.Tx (v.Htlcs.map Htlc.t)) ⟨c3, c2, c1, c0, hx, he, hlt', trivial⟩) (by omega) (by omega) [4] (m := 0) (k := 2) (by kernel_rfl)⟩
    | false =>
     cases c4 : ((h.Hash) == zeros) with
     | true =>
      exact .inl ⟨by simp only [badR, bad1, bad2, c0, c1, c2, c3, c4, Bool.or_false, Bool.false_or, Bool.or_true, Bool.true_or, Bool.and_true, Bool.true_and, Bool.and_false, Bool.false_and], CodeG.normE (bodyK_sound (Cd_ok _ _) (rfitB_16 s 0 i (add s h.Amount).1 (add s h.Amount).2 h.By h.Id h.Amount h.Expiry 0 0 0 0 h.Hash [] t.Channel t.A t.B t.Fund.Out t.StartA t.StartB t.Delay t.Fee t.Reserve t.Slots t.Flight v.A v.B t.Fund.Tx (v.Htlcs.map Htlc.t)) ⟨c4, c3, c2, c1, c0, hx, he, hlt', trivial⟩) (by omega) (by omega) [4] (m := 0) (k := 2) (by kernel_rfl)⟩
     | false =>
      have r := CodeG.normE (bodyK_sound (Cd_ok _ _) (rfitB_17 s 0 i (add s h.Amount).1 (add s h.Amount).2 h.By h.Id h.Amount h.Expiry 0 0 0 0 h.Hash [] t.Channel t.A t.B t.Fund.Out t.StartA t.StartB t.Delay t.Fee t.Reserve t.Slots t.Flight v.A v.B t.Fund.Tx (v.Htlcs.map Htlc.t)) ⟨radd_ok s h.Amount, h0, c4, c3, c2, c1, c0, hx, he, hlt', trivial⟩) (by omega) (by omega) [2, 3, 4, 5, 6, 7] (m := 0) (k := 2) (st2 := StF t v (add s h.Amount).1 (add s h.Amount).2 (IntKind.i64.wrap (i + 1))) (by kernel_rfl)
      rw [wi] at r
      exact .inr ⟨by simp only [badR, bad1, bad2, c0, c1, c2, c3, c4, Bool.or_false, Bool.false_or, Bool.or_true, Bool.true_or, Bool.and_true, Bool.true_and, Bool.and_false, Bool.false_and], r⟩
theorem rround_some (t : Terms) (v : View) (s i : Int) (h y : Htlc) (hi : 0 < i) (hy : (v.Htlcs.map Htlc.t)[(i - 1).toNat]? = some y.t) (hl : (v.Htlcs.map Htlc.t).length ≤ 32) (hx : 0 ≤ i ∧ (v.Htlcs.map Htlc.t)[i.toNat]? = some h.t) (hlt : i < (v.Htlcs.map Htlc.t).length) :
  (badR t (some y) h = true ∧ CodeG Try.prog 0 (loopAt Try.f21 0) (StF t v s 0 i) .ret (StR t v)) ∨ (badR t (some y) h = false ∧ CodeG Try.prog 0 (loopAt Try.f21 0) (StF t v s 0 i) .normal (StF t v (add s h.Amount).1 (add s h.Amount).2 (i + 1))) := by
 have hlt' : decide (i < (((v.Htlcs.map Htlc.t)).length : Int)) = true := by simpa using hlt
 have he : ((0 : Int) == 0) = true := rfl
 have wi : IntKind.i64.wrap (i + 1) = i + 1 := w64 (by omega) (by omega)
 have wj : IntKind.i64.wrap (i - 1) = i - 1 := w64 (by omega) (by omega)
 have h0 : decide (i > 0) = true := by simp; omega
 have hyy : (0 : Int) ≤ IntKind.i64.wrap (i - 1) ∧ (v.Htlcs.map Htlc.t)[(IntKind.i64.wrap (i - 1)).toNat]? = some y.t := by rw [wj]; exact ⟨by omega, hy⟩
 cases c0 : (h.By != t.A) with
 | true =>
  cases c1 : (h.By != t.B) with
  | true =>
   exact .inl ⟨by simp only [badR, bad1, bad2, c0, c1, Bool.or_false, Bool.false_or, Bool.or_true, Bool.true_or, Bool.and_true, Bool.true_and, Bool.and_false, Bool.false_and], CodeG.normE (bodyK_sound (Cd_ok _ _) (rfitB_3 s 0 i (add s h.Amount).1 (add s h.Amount).2 h.By h.Id h.Amount h.Expiry y.By y.Id y.Amount y.Expiry h.Hash y.Hash t.Channel t.A t.B t.Fund.Out t.StartA t.StartB t.Delay t.Fee t.Reserve t.Slots t.Flight v.A v.B t.Fund.Tx (v.Htlcs.map Htlc.t)) ⟨c1, c0, hx, he, hlt', trivial⟩) (by omega) (by omega) [4] (m := 0) (k := 2) (by kernel_rfl)⟩
  | false =>
   cases c2 : decide (h.Id < 0) with
   | true =>
    exact .inl ⟨by simp only [badR, bad1, bad2, c0, c1, c2, Bool.or_false, Bool.false_or, Bool.or_true, Bool.true_or, Bool.and_true, Bool.true_and, Bool.and_false, Bool.false_and], CodeG.normE (bodyK_sound (Cd_ok _ _) (rfitB_5 s 0 i (add s h.Amount).1 (add s h.Amount).2 h.By h.Id h.Amount h.Expiry y.By y.Id y.Amount y.Expiry h.Hash y.Hash t.Channel t.A t.B t.Fund.Out t.StartA t.StartB t.Delay t.Fee t.Reserve t.Slots t.Flight v.A v.B t.Fund.Tx (v.Htlcs.map Htlc.t)) ⟨c2, c1, c0, hx, he, hlt', trivial⟩) (by omega) (by omega) [4] (m := 0) (k := 2) (by kernel_rfl)⟩
   | false =>
    cases c3 : decide (h.Expiry < 0) with
    | true =>
     exact .inl ⟨by simp only [badR, bad1, bad2, c0, c1, c2, c3, Bool.or_false, Bool.false_or, Bool.or_true, Bool.true_or, Bool.and_true, Bool.true_and, Bool.and_false, Bool.false_and], CodeG.normE (bodyK_sound (Cd_ok _ _) (rfitB_6 s 0 i (add s h.Amount).1 (add s h.Amount).2 h.By h.Id h.Amount h.Expiry y.By y.Id y.Amount y.Expiry h.Hash y.Hash t.Channel t.A t.B t.Fund.Out t.StartA t.StartB t.Delay t.Fee t.Reserve t.Slots t.Flight v.A v.B t.Fund.Tx (v.Htlcs.map Htlc.t)) ⟨c3, c2, c1, c0, hx, he, hlt', trivial⟩) (by omega) (by omega) [4] (m := 0) (k := 2) (by kernel_rfl)⟩
    | false =>
     cases c4 : decide (h.Expiry > 2147483647) with
     | true =>
      exact .inl ⟨by simp only [badR, bad1, bad2, c0, c1, c2, c3, c4, Bool.or_false, Bool.false_or, Bool.or_true, Bool.true_or, Bool.and_true, Bool.true_and, Bool.and_false, Bool.false_and], CodeG.normE (bodyK_sound (Cd_ok _ _) (rfitB_7 s 0 i (add s h.Amount).1 (add s h.Amount).2 h.By h.Id h.Amount h.Expiry y.By y.Id y.Amount y.Expiry h.Hash y.Hash t.Channel t.A t.B t.Fund.Out t.StartA t.StartB t.Delay t.Fee t.Reserve t.Slots t.Flight v.A v.B t.Fund.Tx (v.Htlcs.map Htlc.t)) ⟨c4, c3, c2, c1, c0, hx, he, hlt', trivial⟩) (by omega) (by omega) [4] (m := 0) (k := 2) (by kernel_rfl)⟩
     | false =>
      cases c5 : ((h.Hash) == zeros) with
      | true =>
       exact .inl ⟨by simp only [badR, bad1, bad2, c0, c1, c2, c3, c4, c5, Bool.or_false, Bool.false_or, Bool.or_true, Bool.true_or, Bool.and_true, Bool.true_and, Bool.and_false, Bool.false_and], CodeG.normE (bodyK_sound (Cd_ok _ _) (rfitB_8 s 0 i (add s h.Amount).1 (add s h.Amount).2 h.By h.Id h.Amount h.Expiry y.By y.Id y.Amount y.Expiry h.Hash y.Hash t.Channel t.A t.B t.Fund.Out t.StartA t.StartB t.Delay t.Fee t.Reserve t.Slots t.Flight v.A v.B t.Fund.Tx (v.Htlcs.map Htlc.t)) ⟨c5, c4, c3, c2, c1, c0, hx, he, hlt', trivial⟩) (by omega) (by omega) [4] (m := 0) (k := 2) (by kernel_rfl)⟩
      | false =>
       cases c6 : decide (y.By > h.By) with
       | true =>
        exact .inl ⟨by simp only [badR, bad1, bad2, c0, c1, c2, c3, c4, c5, c6, Bool.or_false, Bool.false_or, Bool.or_true, Bool.true_or, Bool.and_true, Bool.true_and, Bool.and_false, Bool.false_and], CodeG.normE (bodyK_sound (Cd_ok _ _) (rfitB_10 s 0 i (add s h.Amount).1 (add s h.Amount).2 h.By h.Id h.Amount h.Expiry y.By y.Id y.Amount y.Expiry h.Hash y.Hash t.Channel t.A t.B t.Fund.Out t.StartA t.StartB t.Delay t.Fee t.Reserve t.Slots t.Flight v.A v.B t.Fund.Tx (v.Htlcs.map Htlc.t)) ⟨c6, hyy, h0, c5, c4, c3, c2, c1, c0, hx, he, hlt', trivial⟩) (by omega) (by omega) [4] (m := 0) (k := 2) (by kernel_rfl)⟩
       | false =>
        cases c7 : (y.By == h.By) with
        | true =>
         cases c8 : decide (y.Id ≥ h.Id) with
         | true =>
          exact .inl ⟨by simp only [badR, bad1, bad2, c0, c1, c2, c3, c4, c5, c6, c7, c8, Bool.or_false, Bool.false_or, Bool.or_true, Bool.true_or, Bool.and_true, Bool.true_and, Bool.and_false, Bool.false_and], CodeG.normE (bodyK_sound (Cd_ok _ _) (rfitB_12 s 0 i (add s h.Amount).1 (add s h.Amount).2 h.By h.Id h.Amount h.Expiry y.By y.Id y.Amount y.Expiry h.Hash y.Hash t.Channel t.A t.B t.Fund.Out t.StartA t.StartB t.Delay t.Fee t.Reserve t.Slots t.Flight v.A v.B t.Fund.Tx (v.Htlcs.map Htlc.t)) ⟨c8, hyy, c7, hyy, c6, hyy, h0, c5, c4, c3, c2, c1, c0, hx, he, hlt', trivial⟩) (by omega) (by omega) [4] (m := 0) (k := 2) (by kernel_rfl)⟩
         | false =>
          have r := CodeG.normE (bodyK_sound (Cd_ok _ _) (rfitB_4 s 0 i (add s h.Amount).1 (add s h.Amount).2 h.By h.Id h.Amount h.Expiry y.By y.Id y.Amount y.Expiry h.Hash y.Hash t.Channel t.A t.B t.Fund.Out t.StartA t.StartB t.Delay t.Fee t.Reserve t.Slots t.Flight v.A v.B t.Fund.Tx (v.Htlcs.map Htlc.t)) ⟨radd_ok s h.Amount, c8, hyy, c7, hyy, c6, hyy, h0, c5, c4, c3, c2, c1, c0, hx, he, hlt', trivial⟩) (by omega) (by omega) [2, 3, 4, 5, 6, 7] (m := 0) (k := 2) (st2 := StF t v (add s h.Amount).1 (add s h.Amount).2 (IntKind.i64.wrap (i + 1))) (by kernel_rfl)
          rw [wi] at r
          exact .inr ⟨by simp only [badR, bad1, bad2, c0, c1, c2, c3, c4, c5, c6, c7, c8, Bool.or_false, Bool.false_or, Bool.or_true, Bool.true_or, Bool.and_true, Bool.true_and, Bool.and_false, Bool.false_and], r⟩
        | false =>
         have r := CodeG.normE (bodyK_sound (Cd_ok _ _) (rfitB_11 s 0 i (add s h.Amount).1 (add s h.Amount).2 h.By h.Id h.Amount h.Expiry y.By y.Id y.Amount y.Expiry h.Hash y.Hash t.Channel t.A t.B t.Fund.Out t.StartA t.StartB t.Delay t.Fee t.Reserve t.Slots t.Flight v.A v.B t.Fund.Tx (v.Htlcs.map Htlc.t)) ⟨radd_ok s h.Amount, c7, hyy, c6, hyy, h0, c5, c4, c3, c2, c1, c0, hx, he, hlt', trivial⟩) (by omega) (by omega) [2, 3, 4, 5, 6, 7] (m := 0) (k := 2) (st2 := StF t v (add s h.Amount).1 (add s h.Amount).2 (IntKind.i64.wrap (i + 1))) (by kernel_rfl)
         rw [wi] at r
         exact .inr ⟨by simp only [badR, bad1, bad2, c0, c1, c2, c3, c4, c5, c6, c7, Bool.or_false, Bool.false_or, Bool.or_true, Bool.true_or, Bool.and_true, Bool.true_and, Bool.and_false, Bool.false_and], r⟩
 | false =>
  cases c1 : decide (h.Id < 0) with
  | true =>
   exact .inl ⟨by simp only [badR, bad1, bad2, c0, c1, Bool.or_false, Bool.false_or, Bool.or_true, Bool.true_or, Bool.and_true, Bool.true_and, Bool.and_false, Bool.false_and], CodeG.normE (bodyK_sound (Cd_ok _ _) (rfitB_13 s 0 i (add s h.Amount).1 (add s h.Amount).2 h.By h.Id h.Amount h.Expiry y.By y.Id y.Amount y.Expiry h.Hash y.Hash t.Channel t.A t.B t.Fund.Out t.StartA t.StartB t.Delay t.Fee t.Reserve t.Slots t.Flight v.A v.B t.Fund.Tx (v.Htlcs.map Htlc.t)) ⟨c1, c0, hx, he, hlt', trivial⟩) (by omega) (by omega) [4] (m := 0) (k := 2) (by kernel_rfl)⟩
  | false =>
   cases c2 : decide (h.Expiry < 0) with
   | true =>
    exact .inl ⟨by simp only [badR, bad1, bad2, c0, c1, c2, Bool.or_false, Bool.false_or, Bool.or_true, Bool.true_or, Bool.and_true, Bool.true_and, Bool.and_false, Bool.false_and], CodeG.normE (bodyK_sound (Cd_ok _ _) (rfitB_14 s 0 i (add s h.Amount).1 (add s h.Amount).2 h.By h.Id h.Amount h.Expiry y.By y.Id y.Amount y.Expiry h.Hash y.Hash t.Channel t.A t.B t.Fund.Out t.StartA t.StartB t.Delay t.Fee t.Reserve t.Slots t.Flight v.A v.B t.Fund.Tx (v.Htlcs.map Htlc.t)) ⟨c2, c1, c0, hx, he, hlt', trivial⟩) (by omega) (by omega) [4] (m := 0) (k := 2) (by kernel_rfl)⟩
   | false =>
    cases c3 : decide (h.Expiry > 2147483647) with
    | true =>
     exact .inl ⟨by simp only [badR, bad1, bad2, c0, c1, c2, c3, Bool.or_false, Bool.false_or, Bool.or_true, Bool.true_or, Bool.and_true, Bool.true_and, Bool.and_false, Bool.false_and], CodeG.normE (bodyK_sound (Cd_ok _ _) (rfitB_15 s 0 i (add s h.Amount).1 (add s h.Amount).2 h.By h.Id h.Amount h.Expiry y.By y.Id y.Amount y.Expiry h.Hash y.Hash t.Channel t.A t.B t.Fund.Out t.StartA t.StartB t.Delay t.Fee t.Reserve t.Slots t.Flight v.A v.B t.Fund.Tx (v.Htlcs.map Htlc.t)) ⟨c3, c2, c1, c0, hx, he, hlt', trivial⟩) (by omega) (by omega) [4] (m := 0) (k := 2) (by kernel_rfl)⟩
    | false =>
     cases c4 : ((h.Hash) == zeros) with
     | true =>
      exact .inl ⟨by simp only [badR, bad1, bad2, c0, c1, c2, c3, c4, Bool.or_false, Bool.false_or, Bool.or_true, Bool.true_or, Bool.and_true, Bool.true_and, Bool.and_false, Bool.false_and], CodeG.normE (bodyK_sound (Cd_ok _ _) (rfitB_16 s 0 i (add s h.Amount).1 (add s h.Amount).2 h.By h.Id h.Amount h.Expiry y.By y.Id y.Amount y.Expiry h.Hash y.Hash t.Channel t.A t.B t.Fund.Out t.StartA t.StartB t.Delay t.Fee t.Reserve t.Slots t.Flight v.A v.B t.Fund.Tx (v.Htlcs.map Htlc.t)) ⟨c4, c3, c2, c1, c0, hx, he, hlt', trivial⟩) (by omega) (by omega) [4] (m := 0) (k := 2) (by kernel_rfl)⟩
     | false =>
      cases c5 : decide (y.By > h.By) with
      | true =>
       exact .inl ⟨by simp only [badR, bad1, bad2, c0, c1, c2, c3, c4, c5, Bool.or_false, Bool.false_or, Bool.or_true, Bool.true_or, Bool.and_true, Bool.true_and, Bool.and_false, Bool.false_and], CodeG.normE (bodyK_sound (Cd_ok _ _) (rfitB_18 s 0 i (add s h.Amount).1 (add s h.Amount).2 h.By h.Id h.Amount h.Expiry y.By y.Id y.Amount y.Expiry h.Hash y.Hash t.Channel t.A t.B t.Fund.Out t.StartA t.StartB t.Delay t.Fee t.Reserve t.Slots t.Flight v.A v.B t.Fund.Tx (v.Htlcs.map Htlc.t)) ⟨c5, hyy, h0, c4, c3, c2, c1, c0, hx, he, hlt', trivial⟩) (by omega) (by omega) [4] (m := 0) (k := 2) (by kernel_rfl)⟩
      | false =>
       cases c6 : (y.By == h.By) with
       | true =>
        cases c7 : decide (y.Id ≥ h.Id) with
        | true =>
         exact .inl ⟨by simp only [badR, bad1, bad2, c0, c1, c2, c3, c4, c5, c6, c7, Bool.or_false, Bool.false_or, Bool.or_true, Bool.true_or, Bool.and_true, Bool.true_and, Bool.and_false, Bool.false_and], CodeG.normE (bodyK_sound (Cd_ok _ _) (rfitB_20 s 0 i (add s h.Amount).1 (add s h.Amount).2 h.By h.Id h.Amount h.Expiry y.By y.Id y.Amount y.Expiry h.Hash y.Hash t.Channel t.A t.B t.Fund.Out t.StartA t.StartB t.Delay t.Fee t.Reserve t.Slots t.Flight v.A v.B t.Fund.Tx (v.Htlcs.map Htlc.t)) ⟨c7, hyy, c6, hyy, c5, hyy, h0, c4, c3, c2, c1, c0, hx, he, hlt', trivial⟩) (by omega) (by omega) [4] (m := 0) (k := 2) (by kernel_rfl)⟩
        | false =>
         have r := CodeG.normE (bodyK_sound (Cd_ok _ _) (rfitB_0 s 0 i (add s h.Amount).1 (add s h.Amount).2 h.By h.Id h.Amount h.Expiry y.By y.Id y.Amount y.Expiry h.Hash y.Hash t.Channel t.A t.B t.Fund.Out t.StartA t.StartB t.Delay t.Fee t.Reserve t.Slots t.Flight v.A v.B t.Fund.Tx (v.Htlcs.map Htlc.t)) ⟨radd_ok s h.Amount, c7, hyy, c6, hyy, c5, hyy, h0, c4, c3, c2, c1, c0, hx, he, hlt', trivial⟩) (by omega) (by omega) [2, 3, 4, 5, 6, 7] (m := 0) (k := 2) (st2 := StF t v (add s h.Amount).1 (add s h.Amount).2 (IntKind.i64.wrap (i + 1))) (by kernel_rfl)
         rw [wi] at r
         exact .inr ⟨by simp only [badR, bad1, bad2, c0, c1, c2, c3, c4, c5, c6, c7, Bool.or_false, Bool.false_or, Bool.or_true, Bool.true_or, Bool.and_true, Bool.true_and, Bool.and_false, Bool.false_and], r⟩
       | false =>
        have r := CodeG.normE (bodyK_sound (Cd_ok _ _) (rfitB_19 s 0 i (add s h.Amount).1 (add s h.Amount).2 h.By h.Id h.Amount h.Expiry y.By y.Id y.Amount y.Expiry h.Hash y.Hash t.Channel t.A t.B t.Fund.Out t.StartA t.StartB t.Delay t.Fee t.Reserve t.Slots t.Flight v.A v.B t.Fund.Tx (v.Htlcs.map Htlc.t)) ⟨radd_ok s h.Amount, c6, hyy, c5, hyy, h0, c4, c3, c2, c1, c0, hx, he, hlt', trivial⟩) (by omega) (by omega) [2, 3, 4, 5, 6, 7] (m := 0) (k := 2) (st2 := StF t v (add s h.Amount).1 (add s h.Amount).2 (IntKind.i64.wrap (i + 1))) (by kernel_rfl)
        rw [wi] at r
        exact .inr ⟨by simp only [badR, bad1, bad2, c0, c1, c2, c3, c4, c5, c6, Bool.or_false, Bool.false_or, Bool.or_true, Bool.true_or, Bool.and_true, Bool.true_and, Bool.and_false, Bool.false_and], r⟩
def rgo (t : Terms) : Option Htlc → List Htlc → Int → Int → Option (Int × Int)
 | _, [], s, e => some (s, e)
 | y, h :: r, s, e => bif !(e == 0) then some (s, e) else bif badR t y h then none else rgo t (some h) r (add s h.Amount).1 (add s h.Amount).2
theorem rfit_loop (t : Terms) (v : View) (hl : v.Htlcs.length ≤ 32) : ∀ (r pre : List Htlc) (s e : Int), v.Htlcs = pre ++ r →
  match rgo t pre.getLast? r s e with
  | none => LoopG Try.prog 0 (loopAt Try.f21 0) (StF t v s e (pre.length : Int)) .ret (StR t v)
  | some (s2, e2) => ∃ j : Int, LoopG Try.prog 0 (loopAt Try.f21 0) (StF t v s e (pre.length : Int)) (.exit 0) (StF t v s2 e2 j)
 | [], pre, s, e, he => by
  simp only [rgo]
  have hp : pre = v.Htlcs := by rw [he]; simp
  refine ⟨(pre.length : Int), LoopG.leave (CodeG.normE (bodyK_sound (Cd_ok _ _) (rfitB_1 s e (pre.length : Int) 0 0 0 0 0 0 0 0 0 0 [] [] t.Channel t.A t.B t.Fund.Out t.StartA t.StartB t.Delay t.Fee t.Reserve t.Slots t.Flight v.A v.B t.Fund.Tx (v.Htlcs.map Htlc.t)) ⟨?_, trivial⟩) (by omega) (by omega) [2, 3, 4, 5, 6, 7] (m := 0) (k := 2) (by kernel_rfl)) rfl⟩
  rw [hp]; simp
 | h :: r, pre, s, e, he => by
  have hlen : pre.length + (r.length + 1) = v.Htlcs.length := by rw [he]; simp
  have hx : (0 : Int) ≤ (pre.length : Int) ∧ (v.Htlcs.map Htlc.t)[((pre.length : Int)).toNat]? = some h.t := ⟨by omega, by rw [he]; simp⟩
  have hlt : (pre.length : Int) < ((v.Htlcs.map Htlc.t).length : Nat) := by simp; omega
  simp only [rgo]
  cases hz : (e == 0) with
  | false =>
   simp only [Bool.not_false, cond_true]
   refine ⟨(pre.length : Int), LoopG.leave (CodeG.normE (bodyK_sound (Cd_ok _ _) (rfitB_2 s e (pre.length : Int) 0 0 0 0 0 0 0 0 0 0 [] [] t.Channel t.A t.B t.Fund.Out t.StartA t.StartB t.Delay t.Fee t.Reserve t.Slots t.Flight v.A v.B t.Fund.Tx (v.Htlcs.map Htlc.t)) ⟨hz, by simpa using hlt, trivial⟩) (by omega) (by omega) [2, 3, 4, 5, 6, 7] (m := 0) (k := 2) (by kernel_rfl)) rfl⟩
  | true =>
   have e0 : e = 0 := by simpa using hz
   subst e0
   simp only [Bool.not_true, cond_false]
   have ih := rfit_loop t v hl r (pre ++ [h]) (add s h.Amount).1 (add s h.Amount).2 (by rw [he]; simp)
   rw [show (pre ++ [h]).getLast? = some h by simp, show (((pre ++ [h]).length : Nat) : Int) = (pre.length : Int) + 1 by simp] at ih
   have key : (badR t pre.getLast? h = true ∧ CodeG Try.prog 0 (loopAt Try.f21 0) (StF t v s 0 (pre.length : Int)) .ret (StR t v)) ∨ (badR t pre.getLast? h = false ∧ CodeG Try.prog 0 (loopAt Try.f21 0) (StF t v s 0 (pre.length : Int)) .normal (StF t v (add s h.Amount).1 (add s h.Amount).2 ((pre.length : Int) + 1))) := by
    rcases List.eq_nil_or_concat pre with hp | ⟨q, y, hp⟩
    ·rw [hp]
     rw [hp] at hx hlt
     exact rround_none t v s _ h rfl (by simpa using hl) hx hlt
    ·have hp' : pre = q ++ [y] := by rw [hp]; simp
     rw [hp']
     rw [hp'] at hx hlt
     rw [show (q ++ [y]).getLast? = some y by simp]
     refine rround_some t v s _ h y (by simp <;> omega) ?_ (by simpa using hl) hx hlt
     rw [he, hp']
     simp
   rcases key with ⟨k1, k2⟩ | ⟨k1, k2⟩
   ·rw [k1]; exact LoopG.leave k2 rfl
   ·rw [k1]
    simp only [cond_false]
    revert ih
    cases rgo t (some h) r (add s h.Amount).1 (add s h.Amount).2 with
    | none => exact fun ih => LoopG.next k2 ih
    | some p => exact fun ⟨j, ih⟩ => ⟨j, LoopG.next k2 ih⟩
def rfits (t : Terms) (v : View) : Bool := bif !rmayG t then false else bif decide (((v.Htlcs.map Htlc.t).length : Int) > 32) then false else match rgo t none v.Htlcs (add v.A v.B).1 (add v.A v.B).2 with
 | none => false
 | some (s, e) => (e == 0) && (s == IntKind.i64.wrap (t.StartA + t.StartB))
theorem rfits_ok0 (t : Terms) (v : View) : PCall Try.prog 21 [t.t, v.t false] [.bool (rfits t v)] := by
 unfold rfits
 cases hm : rmayG t with
 | false =>
  exact (topK_sound (Cd_ok _ _) (rfitsN 0 0 0 0 0 t.Channel t.A t.B t.Fund.Out t.StartA t.StartB t.Delay t.Fee t.Reserve t.Slots t.Flight v.A v.B t.Fund.Tx (v.Htlcs.map Htlc.t)) ⟨hm ▸ rmay_ok0 t, trivial⟩).pure (k := 64) rfl
 | true =>
  simp only [Bool.not_true, cond_false]
  have hmay := rmay_ok0 t
  rw [hm] at hmay
  cases hl : decide (((v.Htlcs.map Htlc.t).length : Int) > 32) with
  | true => exact (topK_sound (Cd_ok _ _) (rfitsE_1 (add v.A v.B).1 (add v.A v.B).2 0 0 0 t.Channel t.A t.B t.Fund.Out t.StartA t.StartB t.Delay t.Fee t.Reserve t.Slots t.Flight v.A v.B t.Fund.Tx (v.Htlcs.map Htlc.t)) ⟨hl, hmay, trivial⟩).pure (k := 64) rfl
  | false =>
   have hl' : v.Htlcs.length ≤ 32 := by simp at hl; omega
   have hlp := rfit_loop t v hl' v.Htlcs [] (add v.A v.B).1 (add v.A v.B).2 rfl
   simp only [List.getLast?_nil] at hlp
   simp only [cond_false]
   revert hlp
   cases rgo t none v.Htlcs (add v.A v.B).1 (add v.A v.B).2 with
   | none => exact fun hlp => (topK_sound (Cd_ok _ _) (rfitsR (add v.A v.B).1 (add v.A v.B).2 0 0 0 t.Channel t.A t.B t.Fund.Out t.StartA t.StartB t.Delay t.Fee t.Reserve t.Slots t.Flight v.A v.B t.Fund.Tx (v.Htlcs.map Htlc.t)) ⟨LoopG.preE (by omega) (by omega) [2, 3, 4, 5, 6, 7] (m := 0) (k := 2) (by kernel_rfl) hlp, radd_ok v.A v.B, hl, hmay, trivial⟩).pure (k := 64) rfl
   | some p =>
    obtain ⟨s2, e2⟩ := p
    rintro ⟨j, hlp⟩
    show PCall Try.prog 21 [t.t, v.t false] [.bool ((e2 == 0) && (s2 == IntKind.i64.wrap (t.StartA + t.StartB)))]
    cases he2 : (e2 == 0) with
    | false => exact (topK_sound (Cd_ok _ _) (rfitsE_2 (add v.A v.B).1 (add v.A v.B).2 j s2 e2 t.Channel t.A t.B t.Fund.Out t.StartA t.StartB t.Delay t.Fee t.Reserve t.Slots t.Flight v.A v.B t.Fund.Tx (v.Htlcs.map Htlc.t)) ⟨he2, LoopG.preE (by omega) (by omega) [2, 3, 4, 5, 6, 7] (m := 0) (k := 2) (by kernel_rfl) hlp, radd_ok v.A v.B, hl, hmay, trivial⟩).pure (k := 64) rfl
    | true =>
     cases hs2 : (s2 == IntKind.i64.wrap (t.StartA + t.StartB)) with
     | false => exact (topK_sound (Cd_ok _ _) (rfitsE_3 (add v.A v.B).1 (add v.A v.B).2 j s2 e2 t.Channel t.A t.B t.Fund.Out t.StartA t.StartB t.Delay t.Fee t.Reserve t.Slots t.Flight v.A v.B t.Fund.Tx (v.Htlcs.map Htlc.t)) ⟨hs2, he2, LoopG.preE (by omega) (by omega) [2, 3, 4, 5, 6, 7] (m := 0) (k := 2) (by kernel_rfl) hlp, radd_ok v.A v.B, hl, hmay, trivial⟩).pure (k := 64) rfl
     | true => exact (topK_sound (Cd_ok _ _) (rfitsE_0 (add v.A v.B).1 (add v.A v.B).2 j s2 e2 t.Channel t.A t.B t.Fund.Out t.StartA t.StartB t.Delay t.Fee t.Reserve t.Slots t.Flight v.A v.B t.Fund.Tx (v.Htlcs.map Htlc.t)) ⟨hs2, he2, LoopG.preE (by omega) (by omega) [2, 3, 4, 5, 6, 7] (m := 0) (k := 2) (by kernel_rfl) hlp, radd_ok v.A v.B, hl, hmay, trivial⟩).pure (k := 64) rfl
end Go.HM.Deal
set_option maxRecDepth 100000
namespace Go.HM.Deal
open Go.Proofs
end Go.HM.Deal
set_option maxRecDepth 100000
namespace Go.HM.Deal
open Go.Proofs
theorem other_A (t : Terms) : other t t.A = t.B := by
 unfold other; rw [show (t.A == t.A) = true from beq_self_eq_true _]; rfl
theorem other_B (t : Terms) (h : t.A < t.B) : other t t.B = t.A := by
 unfold other
 rw [show (t.B == t.A) = false from beq_eq_false_iff_ne.2 (by omega), show (t.B == t.B) = true from beq_self_eq_true _]; rfl
def rng (n : Int) : Prop := -9223372036854775808 ≤ n ∧ n ≤ 9223372036854775807
theorem add_spec {a b : Int} (h0 : 0 ≤ a) (h1 : a ≤ 9223372036854775807) (hb : rng b) (h : (!((add a b).2 == 0)) = false) : 0 ≤ b ∧ a + b ≤ 9223372036854775807 ∧ (add a b).1 = a + b := by
 unfold rng at hb
 unfold add at h ⊢
 cases c1 : (decide (a < 0) || decide (b < 0)) with
 | true => rw [c1] at h; cases h
 | false =>
  rw [c1] at h
  simp only [Bool.or_eq_false_iff, decide_eq_false_iff_not] at c1
  rw [wrap64 (x := 9223372036854775807 - b) (by omega) (by omega)] at h ⊢
  cases c2 : decide (a > 9223372036854775807 - b) with
  | true => rw [c2] at h; cases h
  | false =>
   simp only [decide_eq_false_iff_not] at c2
   simp only [cond_false]
   rw [wrap64 (by omega) (by omega)]
   exact ⟨by omega, by omega, rfl⟩
theorem add_mk {a b : Int} (h0 : 0 ≤ a) (hb : 0 ≤ b) (h : a + b ≤ 9223372036854775807) : add a b = (a + b, 0) := by
 unfold add
 rw [show (decide (a < 0) || decide (b < 0)) = false by simp; omega]
 rw [wrap64 (x := 9223372036854775807 - b) (by omega) (by omega)]
 rw [show decide (a > 9223372036854775807 - b) = false by simp; omega]
 rw [wrap64 (by omega) (by omega)]
 rfl
theorem sum_nonneg : ∀ (l : List Int), (∀ x ∈ l, 0 ≤ x) → 0 ≤ l.sum
 | [], _ => by simp
 | x :: l, h => by
  have := h x (by simp)
  have := sum_nonneg l (fun y hy => h y (by simp [hy]))
  rw [List.sum_cons]; omega
theorem sumGo_mk : ∀ (l : List Int) (s : Int), 0 ≤ s → (∀ x ∈ l, 0 ≤ x) → s + l.sum ≤ 9223372036854775807 → sumGo l s = (s + l.sum, 0)
 | [], s, _, _, _ => by simp [sumGo]
 | x :: l, s, h0, hp, h => by
  have hx := hp x (by simp)
  have hl := sum_nonneg l (fun y hy => hp y (by simp [hy]))
  rw [List.sum_cons] at h ⊢
  simp only [sumGo]
  rw [add_mk h0 hx (by omega)]
  simp only [beq_self_eq_true, Bool.not_true, cond_false]
  rw [sumGo_mk l (s + x) (by omega) (fun y hy => hp y (by simp [hy])) (by omega)]
  congr 1; omega
structure Ranges (t : Terms) (v : View) : Prop where
 sa : rng t.StartA
 sb : rng t.StartB
 fee : rng t.Fee
 a : rng v.A
 b : rng v.B
 am : ∀ h ∈ v.Htlcs, rng h.Amount
theorem may_more {t : Terms} {v : View} (hr : Ranges t v) (h : may t = true) :
  0 ≤ t.A ∧ t.A < t.B ∧ t.B < 8 ∧ 1 ≤ t.Delay ∧ t.Delay ≤ 1000 ∧ 0 ≤ t.Fee ∧ 0 ≤ t.StartA ∧ 0 ≤ t.StartB ∧ t.StartA + t.StartB ≤ 9223372036854775807 := by
 unfold may at h
 cases h0 : (!within t.Channel 1 65535 || decide (t.A < 0) || decide (t.A ≥ t.B) || decide (t.B ≥ 8) || decide (t.Fund.Out < 0)) with
 | true => rw [h0] at h; cases h
 | false =>
  rw [h0] at h
  cases h1 : (!within t.Delay 1 1000) with
  | true => rw [h1] at h; cases h
  | false =>
   rw [h1] at h
   cases h2 : (!within t.Slots 1 16) with
   | true => rw [h2] at h; cases h
   | false =>
    rw [h2] at h
    cases h3 : ((sum [t.Fee, t.Reserve]).2 == 1 || decide (t.Flight < 0)) with
    | true => rw [h3] at h; cases h
    | false =>
     rw [h3] at h
     simp only [cond_false, beq_iff_eq] at h
     simp only [Bool.or_eq_false_iff, decide_eq_false_iff_not] at h0 h3
     have hd : 1 ≤ t.Delay ∧ t.Delay ≤ 1000 := by
      simp [within] at h1
      omega
     have hf : 0 ≤ t.Fee := by
      have h4 := h3.1
      unfold sum at h4
      cases hc : [t.Fee, t.Reserve].any (fun x => decide (x < 0)) with
      | true => rw [hc] at h4; cases h4
      | false =>
       simp at hc
       omega
     have hs : 0 ≤ t.StartA ∧ 0 ≤ t.StartB ∧ t.StartA + t.StartB ≤ 9223372036854775807 := by
      have hsa := hr.sa
      unfold rng at hsa
      by_cases q : 0 ≤ t.StartA
      ·have := add_spec q hsa.2 hr.sb (by rw [h]; rfl)
       omega
      ·exfalso
       unfold add at h
       rw [show (decide (t.StartA < 0) || decide (t.StartB < 0)) = true by simp; omega] at h
       cases h
     omega
theorem wf_rng {n : Int} (h : (Lit.int .i64 n).wf = true) : rng n := by
 simpa [Lit.wf, IntKind.min, IntKind.max, IntKind.signed, IntKind.bits, rng] using h
theorem rmay_eq {t : Terms} {v : View} (hr : Ranges t v) : rmayG t = may t := by
 have e1 : ((sum [t.Fee, t.Reserve]).2 == 1) = (decide (t.Fee < 0) || decide (t.Reserve < 0)) := by
  have hf := hr.fee
  unfold rng at hf
  unfold sum
  by_cases h : t.Fee < 0 ∨ t.Reserve < 0
  ·rw [show ([t.Fee, t.Reserve].any fun x => decide (x < 0)) = true by simpa using h]
   simpa using h
  ·rw [show ([t.Fee, t.Reserve].any fun x => decide (x < 0)) = false by simp; omega]
   rw [show (decide (t.Fee < 0) || decide (t.Reserve < 0)) = false by simp; omega]
   simp only [cond_false, sumGo]
   rw [add_mk (a := 0) (by omega) (by omega) (by omega)]
   simp only [beq_self_eq_true, Bool.not_true, cond_false]
   unfold add
   rw [show (decide (0 + t.Fee < 0) || decide (t.Reserve < 0)) = false by simp; omega]
   cases decide (0 + t.Fee > IntKind.i64.wrap (9223372036854775807 - t.Reserve)) <;> simp
 unfold rmayG may
 rw [e1]
 cases (add t.StartA t.StartB).2 == 0 with
 | false => simp
 | true =>
  rw [Bool.eq_iff_iff]
  simp [within]
  omega
theorem bad2_eq (y h : Htlc) : bad2 y h = c3 y h := by
 unfold bad2 c3 order orInt orInt orInt cmpI
 rw [Bool.eq_iff_iff]
 by_cases h1 : y.By < h.By
 ·have h2 : ¬ y.By > h.By := by omega
  have h3 : ¬ y.By = h.By := by omega
  simp [h1, h2, h3]
 ·by_cases h2 : y.By > h.By
  ·have h3 : ¬ y.By = h.By := by omega
   simp [h1, h2]
  ·have h3 : y.By = h.By := by omega
   by_cases h4 : y.Id < h.Id
   ·simp [h1, h2, h3, h4]
   ·by_cases h5 : y.Id > h.Id
    ·simp [h1, h2, h3, h4, h5]; omega
    ·simp [h1, h2, h3, h4, h5]; omega
theorem bad1_eq {t : Terms} (h0 : 0 ≤ t.A) (h1 : t.A < t.B) (h : Htlc) : bad1 t h = (c1 t h || c2 h) := by
 unfold bad1 c1 c2 other within
 by_cases a : h.By = t.A
 ·have e : ¬ t.B = -1 := by omega
  rw [show (h.By == t.A) = true by simpa using a, show (h.By != t.A) = false by simp [a]]
  simp only [cond_true, Bool.false_and, Bool.false_or]
  cases (h.Hash == zeros) with
  | true => simp
  | false => rw [Bool.eq_iff_iff]; simp [e]; omega
 ·rw [show (h.By == t.A) = false by simpa using a, show (h.By != t.A) = true by simp [a]]
  by_cases b : h.By = t.B
  ·have e : ¬ t.A = -1 := by omega
   rw [show (h.By == t.B) = true by simpa using b, show (h.By != t.B) = false by simp [b]]
   simp only [cond_true, cond_false, Bool.and_false, Bool.false_or]
   cases (h.Hash == zeros) with
   | true => simp
   | false => rw [Bool.eq_iff_iff]; simp [e]; omega
  ·rw [show (h.By == t.B) = false by simpa using b, show (h.By != t.B) = true by simp [b]]
   simp
theorem fitGo_cons {t : Terms} (h0 : 0 ≤ t.A) (h1 : t.A < t.B) (y : Option Htlc) (h : Htlc) (r : List Htlc) : fitGo t y (h :: r) = bif badR t y h then false else fitGo t (some h) r := by
 simp only [fitGo, badR]
 rw [bad1_eq h0 h1]
 cases c1 t h with
 | true => rfl
 | false =>
  cases c2 h with
  | true => rfl
  | false =>
   cases y with
   | none => rfl
   | some y0 =>
    simp only [bad2_eq, Bool.false_or, cond_false]
theorem rgo_bad (t : Terms) (K : Int) (y : Option Htlc) (r : List Htlc) (s e : Int) (he : (e == 0) = false) : (match rgo t y r s e with | none => false | some (s2, e2) => (e2 == 0) && (s2 == K)) = false := by
 cases r with
 | nil => simp only [rgo, he, Bool.false_and]
 | cons h r => simp only [rgo, he, Bool.not_false, cond_true, Bool.false_and]
theorem rgo_eq {t : Terms} (h0 : 0 ≤ t.A) (h1 : t.A < t.B) (K : Int) : ∀ (r : List Htlc) (y : Option Htlc) (s : Int), (match rgo t y r s 0 with | none => false | some (s2, e2) => (e2 == 0) && (s2 == K)) = (fitGo t y r && ((sumGo (r.map Htlc.Amount) s).2 == 0 && (sumGo (r.map Htlc.Amount) s).1 == K))
 | [], y, s => by simp [rgo, fitGo, sumGo]
 | h :: r, y, s => by
  rw [fitGo_cons h0 h1]
  simp only [rgo, beq_self_eq_true, Bool.not_true, cond_false, List.map_cons, sumGo]
  cases badR t y h with
  | true => rfl
  | false =>
   simp only [cond_false]
   cases he : ((add s h.Amount).2 == 0) with
   | true =>
    have e0 : (add s h.Amount).2 = 0 := by simpa using he
    rw [e0]
    simp only [Bool.not_true, cond_false]
    exact rgo_eq h0 h1 K r (some h) (add s h.Amount).1
   | false =>
    rw [rgo_bad t K (some h) r _ _ he]
    simp only [Bool.not_false, cond_true, he, Bool.false_and, Bool.and_false]
theorem sumGo_neg : ∀ (l : List Int) (s : Int), l.any (fun x => decide (x < 0)) = true → ((sumGo l s).2 == 0) = false
 | [], s, h => by cases h
 | x :: l, s, h => by
  simp only [sumGo]
  cases he : ((add s x).2 == 0) with
  | false => simp only [Bool.not_false, cond_true, he]
  | true =>
   simp only [Bool.not_true, cond_false]
   refine sumGo_neg l _ ?_
   have hx : ¬ x < 0 := by
    intro hx
    unfold add at he
    rw [show (decide (s < 0) || decide (x < 0)) = true by simp [hx]] at he
    cases he
   simpa [List.any_cons, hx] using h
theorem sum_sumGo (l : List Int) (K : Int) : ((sum l).2 == 0 && (sum l).1 == K) = ((sumGo l 0).2 == 0 && (sumGo l 0).1 == K) := by
 unfold sum
 cases h : l.any (fun x => decide (x < 0)) with
 | false => rfl
 | true => rw [sumGo_neg l 0 h]; rfl
theorem rfits_eq {t : Terms} {v : View} (hr : Ranges t v) : rfits t v = fits t v := by
 unfold rfits fits
 rw [rmay_eq hr]
 cases hm : may t with
 | false => rfl
 | true =>
  have mm := may_more hr hm
  simp only [Bool.not_true, cond_false, Bool.false_or]
  cases decide (((v.Htlcs.map Htlc.t).length : Int) > 32) with
  | true => rfl
  | false =>
   simp only [cond_false]
   have hb : ∀ (a b : Bool), (bif a then b else false) = (a && b) := by intro a b; cases a <;> rfl
   rw [hb, sum_sumGo]
   have hra := hr.a
   unfold rng at hra
   by_cases hA : v.A < 0
   ·have e1 : add v.A v.B = (0, 1) := by unfold add; rw [show (decide (v.A < 0) || decide (v.B < 0)) = true by simp [hA]]; rfl
    rw [e1]
    refine (rgo_bad t (IntKind.i64.wrap (t.StartA + t.StartB)) none v.Htlcs 0 1 rfl).trans ?_
    have e2 : ((sumGo (allOfV v) 0).2 == 0) = false := sumGo_neg _ _ (by simp [allOfV, hA])
    rw [e2]
    simp
   ·have e0 : add 0 v.A = (0 + v.A, 0) := add_mk (by omega) (by omega) (by omega)
    have e2 : sumGo (allOfV v) 0 = bif !((add v.A v.B).2 == 0) then (0, (add v.A v.B).2) else sumGo (v.Htlcs.map Htlc.Amount) (add v.A v.B).1 := by
     unfold allOfV
     simp only [sumGo]
     rw [e0]
     simp only [beq_self_eq_true, Bool.not_true, cond_false, Int.zero_add]
    rw [e2]
    cases he : ((add v.A v.B).2 == 0) with
    | false =>
     refine (rgo_bad t (IntKind.i64.wrap (t.StartA + t.StartB)) none v.Htlcs _ _ he).trans ?_
     simp only [Bool.not_false, cond_true, he, Bool.false_and, Bool.and_false]
    | true =>
     have e3 : (add v.A v.B).2 = 0 := by simpa using he
     rw [e3]
     simp only [Bool.not_true, cond_false]
     exact rgo_eq mm.1 mm.2.1 _ v.Htlcs none _
end Go.HM.Deal
