/- KEC, part A: Keccak's words and rounds, as the code reckons them; 'mix', 'all'. -/
import Derived.Test.YtaopgmkjeimpiaaHnF
import Derived.Test.YtaopgmkjeimpiaaProg
set_option maxRecDepth 100000
namespace Go.HM.Kec
open Go.Proofs

def i64 (n : Int) : T := .int .i64 n
def u64 (n : Int) : T := .int .u64 n
def u8 (n : Int) : T := .int .u8 n

def byL : List Int := [0, 1, 62, 28, 27, 36, 44, 6, 55, 20, 3, 10, 43, 25, 39, 41, 45, 15, 21, 8, 18, 2, 61, 56, 14]
def toL : List Int := [0, 10, 20, 5, 15, 16, 1, 11, 21, 6, 7, 17, 2, 12, 22, 23, 8, 18, 3, 13, 14, 24, 9, 19, 4]
def csL : List Int := [1, 32898, 9223372036854808714, 9223372039002292224, 32907, 2147483649, 9223372039002292353, 9223372036854808585, 138, 136, 2147516425, 2147483658, 2147516555, 9223372036854775947, 9223372036854808713, 9223372036854808579, 9223372036854808578, 9223372036854775936, 32778, 9223372039002259466, 9223372039002292353, 9223372036854808704, 2147483649, 9223372039002292232]

/-- The sponge: its words, its rate, its place. -/
def sp (ws : List Int) (r a : Int) : V := .p (.agg [.agg (ws.map u64), .agg (byL.map i64), .agg (toL.map i64), .agg (csL.map u64), i64 r, i64 a])

/-- A result that nobody wrote yet. -/
def zs : T := .ba 32 [0, 0, 0, 0, 0, 0, 0, 0, 0, 0, 0, 0, 0, 0, 0, 0, 0, 0, 0, 0, 0, 0, 0, 0, 0, 0, 0, 0, 0, 0, 0, 0]
def Z : SObj := .box (.p zs)

def xorI (a b : Int) : Int := IntKind.u64.wrap (BitVec.ofInt 64 a ^^^ BitVec.ofInt 64 b).toNat
def orI (a b : Int) : Int := IntKind.u64.wrap (BitVec.ofInt 64 a ||| BitVec.ofInt 64 b).toNat
def andnI (a b : Int) : Int := IntKind.u64.wrap (BitVec.ofInt 64 a &&& ~~~(BitVec.ofInt 64 b)).toNat
def shlI (x : Int) (n : Nat) : Int := IntKind.u64.wrap (x * 2 ^ n)
def shrI (x : Int) (n : Nat) : Int := x.fdiv (2 ^ n)
def rotl (x : Int) (k : Nat) : Int := orI (shlI x k) (shrI x (64 - k))
def g (l : List Int) (i : Nat) : Int := l.getD i 0
def colS (w : List Int) (x : Nat) : Int := xorI (xorI (xorI (xorI (g w x) (g w (x + 5))) (g w (x + 10))) (g w (x + 15))) (g w (x + 20))
def sumS (cs : List Int) (x : Nat) : Int := xorI (g cs ((x + 4) % 5)) (rotl (g cs ((x + 1) % 5)) 1)
def frm : List (Nat × Nat) := [(0, 0), (6, 44), (12, 43), (18, 21), (24, 14), (3, 28), (9, 20), (10, 3), (16, 45), (22, 61), (1, 1), (7, 6), (13, 25), (19, 8), (20, 18), (4, 27), (5, 36), (11, 10), (17, 15), (23, 56), (2, 62), (8, 55), (14, 39), (15, 41), (21, 2)]

/-- A round. -/
def mixS (w : List Int) (c : Int) : List Int :=
  let cs := (List.range 5).map (colS w)
  let ss := (List.range 5).map (sumS cs)
  let b := frm.map fun p => rotl (xorI (g w p.1) (g ss (p.1 % 5))) p.2
  let r := (List.range 25).map fun j => xorI (g b j) (andnI (g b (j / 5 * 5 + (j + 2) % 5)) (g b (j / 5 * 5 + (j + 1) % 5)))
  match r with
  | x :: l => xorI x c :: l
  | [] => []

/-- All rounds. -/
def allI (w : List Int) : List Int := csL.foldl mixS w

theorem mixS_len (w : List Int) (c : Int) : (mixS w c).length = 25 := rfl

theorem allI_len {w : List Int} (h : w.length = 25) : (allI w).length = 25 := by
  unfold allI
  have : ∀ (l : List Int) (w : List Int), w.length = 25 → (l.foldl mixS w).length = 25 := by
    intro l
    induction l with
    | nil => intro w h; exact h
    | cons c l ih => intro w h; exact ih _ (mixS_len w c)
  exact this _ _ h

/-- Nothing is known of calls. -/
noncomputable def C0 (keep : FuncId → Nat → Bool) : GCtx := { P := Try.prog, pr := pureCall Try.prog [] [] [], K := fun _ _ => none, keep, frz := fun _ _ => [], item := fun _ => some (.res false), glob := fun _ _ => none, KG := fun _ _ _ => none, fuel := 1000 }

theorem names_b : (Try.prog.funcs.toList.all fun fn => !(fn.name == "runtime.NumGoroutine")) = true := by kernel_rfl

theorem names_ok : NamesOk Try.prog := by
  intro f fn h
  have := List.all_eq_true.1 names_b fn (by rw [← Array.getElem?_toList] at h; exact List.mem_of_getElem? h)
  simpa using this

theorem C0_ok (keep : FuncId → Nat → Bool) : KOk (C0 keep) := ⟨names_ok, fun _ _ _ h => (by cases h), fun _ _ _ _ _ h => (by cases h)⟩

noncomputable def Cm : GCtx := C0 (fun f r => Nat.beq f 143 && Nat.beq r 19)

theorem mix_run (w0 w1 w2 w3 w4 w5 w6 w7 w8 w9 w10 w11 w12 w13 w14 w15 w16 w17 w18 w19 w20 w21 w22 w23 w24 c r a : Int) (bs : List Int) :
    topC Cm 5 143 [Z, .box (.p (.ba 32 bs)), .box (sp [w0, w1, w2, w3, w4, w5, w6, w7, w8, w9, w10, w11, w12, w13, w14, w15, w16, w17, w18, w19, w20, w21, w22, w23, w24] r a)] [.ptr 2 0, .ptr 2 25, .ptr 2 50, .p (u64 c)] [] [] =
      some ([], [Z, .box (.p (.ba 32 bs)), .box (sp (mixS [w0, w1, w2, w3, w4, w5, w6, w7, w8, w9, w10, w11, w12, w13, w14, w15, w16, w17, w18, w19, w20, w21, w22, w23, w24] c) r a)], []) := by kernel_rfl

theorem len25 {α : Type} {l : List α} (h : l.length = 25) : ∃ w0 w1 w2 w3 w4 w5 w6 w7 w8 w9 w10 w11 w12 w13 w14 w15 w16 w17 w18 w19 w20 w21 w22 w23 w24, l = [w0, w1, w2, w3, w4, w5, w6, w7, w8, w9, w10, w11, w12, w13, w14, w15, w16, w17, w18, w19, w20, w21, w22, w23, w24] := by
  match l, h with
  | [w0, w1, w2, w3, w4, w5, w6, w7, w8, w9, w10, w11, w12, w13, w14, w15, w16, w17, w18, w19, w20, w21, w22, w23, w24], _ => exact ⟨w0, w1, w2, w3, w4, w5, w6, w7, w8, w9, w10, w11, w12, w13, w14, w15, w16, w17, w18, w19, w20, w21, w22, w23, w24, rfl⟩

theorem mix_ok {w : List Int} (h : w.length = 25) (c r a : Int) (bs : List Int) :
    GCall Try.prog 143 [Z, .box (.p (.ba 32 bs)), .box (sp w r a)] [.ptr 2 0, .ptr 2 25, .ptr 2 50, .p (u64 c)] [Z, .box (.p (.ba 32 bs)), .box (sp (mixS w c) r a)] [] := by
  obtain ⟨w0, w1, w2, w3, w4, w5, w6, w7, w8, w9, w10, w11, w12, w13, w14, w15, w16, w17, w18, w19, w20, w21, w22, w23, w24, rfl⟩ := len25 h
  exact topC_sound (C0_ok _) (mix_run _ _ _ _ _ _ _ _ _ _ _ _ _ _ _ _ _ _ _ _ _ _ _ _ _ c r a bs) trivial

/-! What is known of calls, in the sponge's memory -/

def unT : T → Int
  | .int _ n => n
  | _ => 0

def isUs : List T → Bool
  | [] => true
  | .int .u64 _ :: r => isUs r
  | _ => false

theorem isUs_map : ∀ {ts : List T}, isUs ts = true → ts = (ts.map unT).map u64
  | [], _ => rfl
  | t :: ts, h => by
    unfold isUs at h
    split at h
    · rename_i e; cases e
    · rename_i n r e
      injection e with e1 e2
      subst e1 e2
      have := isUs_map h
      simp only [List.map_cons, unT, u64]
      exact congrArg _ this
    · cases h

/-- The memory of a sponge: words, rate, place; what is ahead of it. -/
def memOf : List SObj → Option (List Int × List T × Int × Int)
  | [.box (.p z), .box (.p (.ba 32 bs)), .box (.p (.agg [.agg ws, by', to', cs, .int .i64 r, .int .i64 a]))] =>
    if isUs ws && Nat.beq ws.length 25 && T.same by' (.agg (byL.map i64)) && T.same to' (.agg (toL.map i64)) && T.same cs (.agg (csL.map u64)) && T.same z zs then some (bs, ws, r, a) else none
  | _ => none

theorem memOf_spec {s : List SObj} {bs : List Int} {ws : List T} {r a : Int} (h : memOf s = some (bs, ws, r, a)) : s = [Z, .box (.p (.ba 32 bs)), .box (sp (ws.map unT) r a)] ∧ (ws.map unT).length = 25 := by
  unfold memOf at h
  split at h
  · split at h
    · rename_i hc
      simp only [Bool.and_eq_true, Nat.beq_eq] at hc
      obtain ⟨⟨⟨⟨⟨h1, h2⟩, h3⟩, h4⟩, h5⟩, h6⟩ := hc
      simp only [Option.some.injEq, Prod.mk.injEq] at h
      obtain ⟨rfl, rfl, rfl, rfl⟩ := h
      have e1 := isUs_map h1
      rw [T.same_eq h3, T.same_eq h4, T.same_eq h5, T.same_eq h6]
      refine ⟨?_, by simp [h2]⟩
      unfold sp
      rw [← e1]
      rfl
    · cases h
  · cases h

def isPtr (id off : Nat) : V → Bool
  | .ptr i o => Nat.beq i id && Nat.beq o off
  | _ => false

theorem isPtr_spec {id off : Nat} {v : V} (h : isPtr id off v = true) : v = .ptr id off := by
  unfold isPtr at h
  split at h
  · simp only [Bool.and_eq_true, Nat.beq_eq] at h
    rw [h.1, h.2]
  · cases h

def KGm (f : FuncId) (s : List SObj) (vs : List V) : Option (List V × List SObj) :=
  if Nat.beq f 143 then match vs, memOf s with
    | [p0, p1, p2, .p (.int .u64 c)], some (bs, ws, r, a) => if isPtr 2 0 p0 && isPtr 2 25 p1 && isPtr 2 50 p2 then some ([], [Z, .box (.p (.ba 32 bs)), .box (sp (mixS (ws.map unT) c) r a)]) else none
    | _, _ => none
  else none

theorem KGm_ok : ∀ f s vs rs s', KGm f s vs = some (rs, s') → GCall Try.prog f s vs s' rs := by
  intro f s vs rs s' h
  unfold KGm at h
  split at h
  · rename_i hf
    have hf' : f = 143 := by simpa using hf
    subst hf'
    split at h
    · rename_i p0 p1 p2 c bs ws r a hm
      split at h
      · rename_i hp
        simp only [Bool.and_eq_true] at hp
        simp only [Option.some.injEq, Prod.mk.injEq] at h
        obtain ⟨rfl, rfl⟩ := h
        obtain ⟨e1, e2⟩ := memOf_spec hm
        rw [e1, isPtr_spec hp.1.1, isPtr_spec hp.1.2, isPtr_spec hp.2]
        exact mix_ok e2 c r a bs
      · cases h
    · cases h
  · cases h

noncomputable def Ca : GCtx := { C0 (fun _ _ => false) with KG := KGm }
theorem Ca_ok : KOk Ca := ⟨names_ok, fun _ _ _ h => (by cases h), KGm_ok⟩

theorem all_run (w0 w1 w2 w3 w4 w5 w6 w7 w8 w9 w10 w11 w12 w13 w14 w15 w16 w17 w18 w19 w20 w21 w22 w23 w24 r a : Int) (bs : List Int) :
    topC Ca 5 114 [Z, .box (.p (.ba 32 bs)), .box (sp [w0, w1, w2, w3, w4, w5, w6, w7, w8, w9, w10, w11, w12, w13, w14, w15, w16, w17, w18, w19, w20, w21, w22, w23, w24] r a)] [.ptr 2 0] [] [] =
      some ([], [Z, .box (.p (.ba 32 bs)), .box (sp (allI [w0, w1, w2, w3, w4, w5, w6, w7, w8, w9, w10, w11, w12, w13, w14, w15, w16, w17, w18, w19, w20, w21, w22, w23, w24]) r 0)], []) := by kernel_rfl

theorem all_ok {w : List Int} (h : w.length = 25) (r a : Int) (bs : List Int) :
    GCall Try.prog 114 [Z, .box (.p (.ba 32 bs)), .box (sp w r a)] [.ptr 2 0] [Z, .box (.p (.ba 32 bs)), .box (sp (allI w) r 0)] [] := by
  obtain ⟨w0, w1, w2, w3, w4, w5, w6, w7, w8, w9, w10, w11, w12, w13, w14, w15, w16, w17, w18, w19, w20, w21, w22, w23, w24, rfl⟩ := len25 h
  exact topC_sound Ca_ok (all_run _ _ _ _ _ _ _ _ _ _ _ _ _ _ _ _ _ _ _ _ _ _ _ _ _ r a bs) trivial

end Go.HM.Kec
