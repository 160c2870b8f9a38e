/- CN: 'lives' gives true; amount.Add and amount.Sum; how a channel at its beginning is run (paths printed by a small program out of the runs themselves). -/
import Derived.Test.YtgcibcndeikiiaaGreatDoorCnM
import Derived.Test.YtgcibcndeikiiaaGreatDoorHmZ
import Derived.Test.YtgcibcndeikiiaaGreatDoorProg
set_option maxRecDepth 1000000
namespace Go.HM.Cn
open Go.Proofs Go.HM.Kec
theorem lives_run : runK (CT tab59) 30 7 [] [] = some ([.bool true], []) := by kernel_rfl
theorem lives_ok : PCall Tryz.prog 7 [] [.bool true] := runK_sound (CT_ok tab59_ok) lives_run trivial
end Go.HM.Cn

set_option maxRecDepth 100000
namespace Go.HM.Deal
open Go.Proofs

def i64 (n : Int) : T := .int .i64 n

/-- amount.Add -/
def add (a b : Int) : Int × Int := bif (decide (a < 0) || decide (b < 0)) then (0, 1) else bif decide (a > IntKind.i64.wrap (9223372036854775807 - b)) then (0, 20) else (IntKind.i64.wrap (a + b), 0)

/-- amount.Sum -/
def sumGo : List Int → Int → Int × Int
  | [], s => (s, 0)
  | x :: l, s => bif !((add s x).2 == 0) then (0, (add s x).2) else sumGo l (add s x).1

def sum (l : List Int) : Int × Int := bif l.any (fun x => decide (x < 0)) then (0, 1) else sumGo l 0

def lsI (f : Bool) (l : List Int) : T := .lst f 1 (l.map i64)

/-- amount.Sum, first loop -/
def sumS (f : Bool) (l : List Int) (r e : Int) (i : Int) : St := { n := 38, t := [(0, .p (lsI f l)), (2, .p (i64 r)), (3, .p (i64 e)), (11, .p (lsI f l)), (12, .p (i64 (l.map i64).length)), (13, .p (i64 i))], s := [] }

def sumK : Keep := ⟨[0, 2, 3, 11, 12, 13], 0, []⟩

/-- its second -/
def sumS2 (f : Bool) (l : List Int) (r e s i : Int) : St := { n := 38, t := [(2, .p (i64 r)), (3, .p (i64 e)), (6, .p (i64 s)), (20, .p (lsI f l)), (21, .p (i64 (l.map i64).length)), (22, .p (i64 i))], s := [] }

def sumK2 : Keep := ⟨[2, 3, 6, 20, 21, 22], 0, []⟩

theorem add_0 (n : Int) (l : Int) :
    evF Tryz.prog Tryz.f64 [i64 n, i64 l] [Orc.br true] =
      some ([T.int IntKind.i64 0, T.int IntKind.i64 1], [(decide (n < 0) || decide (l < 0)) = true]) := by kernel_rfl

theorem add_1 (n : Int) (l : Int) :
    evF Tryz.prog Tryz.f64 [i64 n, i64 l] [Orc.br false, Orc.br true] =
      some ([T.int IntKind.i64 0, T.int IntKind.i64 20], [decide (n > IntKind.i64.wrap (9223372036854775807 - l)) = true, (decide (n < 0) || decide (l < 0)) = false]) := by kernel_rfl

theorem add_2 (n : Int) (l : Int) :
    evF Tryz.prog Tryz.f64 [i64 n, i64 l] [Orc.br false, Orc.br false] =
      some ([T.int IntKind.i64 (IntKind.i64.wrap (n + l)), T.int IntKind.i64 0], [decide (n > IntKind.i64.wrap (9223372036854775807 - l)) = false, (decide (n < 0) || decide (l < 0)) = false]) := by kernel_rfl

theorem add_ok (n : Int) (l : Int) : PCall Tryz.prog 64 [i64 n, i64 l] [i64 (add n l).1, i64 (add n l).2] := by
  unfold add
  cases h0 : (decide (n < 0) || decide (l < 0)) with
  | true =>
    exact evF_sound Tryz.func64 (by rfl) (add_0 n l) (by repeat first | exact trivial | refine And.intro (by first | assumption | rfl) ?_)
  | false =>
    cases h1 : (decide (n > IntKind.i64.wrap (9223372036854775807 - l))) with
    | true =>
      exact evF_sound Tryz.func64 (by rfl) (add_1 n l) (by repeat first | exact trivial | refine And.intro (by first | assumption | rfl) ?_)
    | false =>
      exact evF_sound Tryz.func64 (by rfl) (add_2 n l) (by repeat first | exact trivial | refine And.intro (by first | assumption | rfl) ?_)

theorem sumA_0 (f : Bool) (l : List Int) (i : Int) (x : Int) :
    evB Tryz.prog (loopAt Tryz.f63 0) (sumS f l 0 0 i) [Orc.br true, Orc.op 3 0 (Item.el (i64 x)), Orc.br true] sumK =
      some (Ex.ret, { n := 38, t := [(0, V.p (lsI f l)), (2, V.p (T.int IntKind.i64 0)), (3, V.p (T.int IntKind.i64 1)), (11, V.p (lsI f l)), (12, V.p (i64 ↑(List.map i64 l).length)), (13, V.p (i64 i))], s := [] }, [decide (x < 0) = true, 0 ≤ i ∧ (List.map i64 l)[i.toNat]? = some (i64 x), decide (i < ↑(List.map i64 l).length) = true]) := by kernel_rfl

theorem sumA_1 (f : Bool) (l : List Int) (i : Int) (x : Int) :
    evB Tryz.prog (loopAt Tryz.f63 0) (sumS f l 0 0 i) [Orc.br true, Orc.op 3 0 (Item.el (i64 x)), Orc.br false] sumK =
      some (Ex.normal, { n := 38, t := [(0, V.p (lsI f l)), (2, V.p (i64 0)), (3, V.p (i64 0)), (11, V.p (lsI f l)), (12, V.p (i64 ↑(List.map i64 l).length)), (13, V.p (T.int IntKind.i64 (IntKind.i64.wrap (i + 1))))], s := [] }, [decide (x < 0) = false, 0 ≤ i ∧ (List.map i64 l)[i.toNat]? = some (i64 x), decide (i < ↑(List.map i64 l).length) = true]) := by kernel_rfl

theorem sumA_2 (f : Bool) (l : List Int) (i : Int) (x : Int) :
    evB Tryz.prog (loopAt Tryz.f63 0) (sumS f l 0 0 i) [Orc.br false] sumK =
      some (Ex.exit 0, { n := 38, t := [(0, V.p (lsI f l)), (2, V.p (i64 0)), (3, V.p (i64 0)), (11, V.p (lsI f l)), (12, V.p (i64 ↑(List.map i64 l).length)), (13, V.p (i64 i))], s := [] }, [decide (i < ↑(List.map i64 l).length) = false]) := by kernel_rfl

theorem sumB_0 (f : Bool) (l : List Int) (s : Int) (i : Int) (x : Int) :
    evB Tryz.prog (loopAt Tryz.f63 1) (sumS2 f l 0 0 s i) [Orc.br true, Orc.op 10 0 (Item.el (i64 x)), Orc.op 11 2 (HM.Item.call [i64 (add s x).1, i64 (add s x).2]), Orc.br true] sumK2 =
      some (Ex.ret, { n := 38, t := [(2, V.p (T.int IntKind.i64 0)), (3, V.p (i64 (add s x).2)), (6, V.p (i64 s)), (20, V.p (lsI f l)), (21, V.p (i64 ↑(List.map i64 l).length)), (22, V.p (i64 i))], s := [] }, [(!(add s x).2 == 0) = true, PCall Tryz.prog 64 [i64 s, T.int IntKind.i64 x] [i64 (add s x).1, i64 (add s x).2], 0 ≤ i ∧ (List.map i64 l)[i.toNat]? = some (i64 x), decide (i < ↑(List.map i64 l).length) = true]) := by kernel_rfl

theorem sumB_1 (f : Bool) (l : List Int) (s : Int) (i : Int) (x : Int) :
    evB Tryz.prog (loopAt Tryz.f63 1) (sumS2 f l 0 0 s i) [Orc.br true, Orc.op 10 0 (Item.el (i64 x)), Orc.op 11 2 (HM.Item.call [i64 (add s x).1, i64 (add s x).2]), Orc.br false] sumK2 =
      some (Ex.normal, { n := 38, t := [(2, V.p (i64 0)), (3, V.p (i64 0)), (6, V.p (i64 (add s x).1)), (20, V.p (lsI f l)), (21, V.p (i64 ↑(List.map i64 l).length)), (22, V.p (T.int IntKind.i64 (IntKind.i64.wrap (i + 1))))], s := [] }, [(!(add s x).2 == 0) = false, PCall Tryz.prog 64 [i64 s, T.int IntKind.i64 x] [i64 (add s x).1, i64 (add s x).2], 0 ≤ i ∧ (List.map i64 l)[i.toNat]? = some (i64 x), decide (i < ↑(List.map i64 l).length) = true]) := by kernel_rfl

theorem sumB_2 (f : Bool) (l : List Int) (s : Int) (i : Int) (x : Int) :
    evB Tryz.prog (loopAt Tryz.f63 1) (sumS2 f l 0 0 s i) [Orc.br false] sumK2 =
      some (Ex.exit 2, { n := 38, t := [(2, V.p (i64 0)), (3, V.p (i64 0)), (6, V.p (i64 s)), (20, V.p (lsI f l)), (21, V.p (i64 ↑(List.map i64 l).length)), (22, V.p (i64 i))], s := [] }, [decide (i < ↑(List.map i64 l).length) = false]) := by kernel_rfl

theorem sum1_0 (f : Bool) (l : List Int) (i : Int) :
    evF Tryz.prog Tryz.f63 [lsI f l] [Orc.loop sumK Ex.ret (sumS f l 0 1 i)] =
      some ([i64 0, i64 1], [LoopR Tryz.prog (loopAt Tryz.f63 0) { n := 38, t := [(0, V.p (lsI f l)), (2, V.p (T.int IntKind.i64 0)), (3, V.p (T.int IntKind.i64 0)), (11, V.p (lsI f l)), (12, V.p (T.int IntKind.i64 ↑(List.map i64 l).length)), (13, V.p (T.int IntKind.i64 0))], s := [] } Ex.ret (sumS f l 0 1 i)]) := by kernel_rfl

theorem sum2_0 (f : Bool) (l : List Int) (i : Int) (e : Int) (s : Int) (j : Int) :
    evF Tryz.prog Tryz.f63 [lsI f l] [Orc.loop sumK (Ex.exit 0) (sumS f l 0 0 i), Orc.loop sumK2 Ex.ret (sumS2 f l 0 e s j)] =
      some ([i64 0, i64 e], [LoopR Tryz.prog (loopAt Tryz.f63 1) { n := 38, t := [(2, V.p (i64 0)), (3, V.p (i64 0)), (6, V.p (T.int IntKind.i64 0)), (20, V.p (lsI f l)), (21, V.p (T.int IntKind.i64 ↑(List.map i64 l).length)), (22, V.p (T.int IntKind.i64 0))], s := [] } Ex.ret (sumS2 f l 0 e s j), LoopR Tryz.prog (loopAt Tryz.f63 0) { n := 38, t := [(0, V.p (lsI f l)), (2, V.p (T.int IntKind.i64 0)), (3, V.p (T.int IntKind.i64 0)), (11, V.p (lsI f l)), (12, V.p (T.int IntKind.i64 ↑(List.map i64 l).length)), (13, V.p (T.int IntKind.i64 0))], s := [] } (Ex.exit 0) (sumS f l 0 0 i)]) := by kernel_rfl

theorem sum3_0 (f : Bool) (l : List Int) (i : Int) (s : Int) (j : Int) :
    evF Tryz.prog Tryz.f63 [lsI f l] [Orc.loop sumK (Ex.exit 0) (sumS f l 0 0 i), Orc.loop sumK2 (Ex.exit 2) (sumS2 f l 0 0 s j)] =
      some ([i64 s, T.int IntKind.i64 0], [LoopR Tryz.prog (loopAt Tryz.f63 1) { n := 38, t := [(2, V.p (i64 0)), (3, V.p (i64 0)), (6, V.p (T.int IntKind.i64 0)), (20, V.p (lsI f l)), (21, V.p (T.int IntKind.i64 ↑(List.map i64 l).length)), (22, V.p (T.int IntKind.i64 0))], s := [] } (Ex.exit 2) (sumS2 f l 0 0 s j), LoopR Tryz.prog (loopAt Tryz.f63 0) { n := 38, t := [(0, V.p (lsI f l)), (2, V.p (T.int IntKind.i64 0)), (3, V.p (T.int IntKind.i64 0)), (11, V.p (lsI f l)), (12, V.p (T.int IntKind.i64 ↑(List.map i64 l).length)), (13, V.p (T.int IntKind.i64 0))], s := [] } (Ex.exit 0) (sumS f l 0 0 i)]) := by kernel_rfl

def sumStep1 (f : Bool) (l : List Int) (_ : Unit) (i : Nat) (x : Int) : Unit ⊕ (Ex × St) := bif decide (x < 0) then .inr (Ex.ret, sumS f l 0 1 i) else .inl ()

def sumStep2 (f : Bool) (l : List Int) (s : Int) (i : Nat) (x : Int) : Int ⊕ (Ex × St) := bif !((add s x).2 == 0) then .inr (Ex.ret, sumS2 f l 0 (add s x).2 s i) else .inl (add s x).1

theorem sum_loop1 (f : Bool) (l : List Int) (hl : l.length ≤ 4294967296) :
    LoopR Tryz.prog (loopAt Tryz.f63 0) (sumS f l 0 0 0) (runL (sumStep1 f l) (fun _ => (Ex.exit 0, sumS f l 0 0 l.length)) l 0 ()).1 (runL (sumStep1 f l) (fun _ => (Ex.exit 0, sumS f l 0 0 l.length)) l 0 ()).2 := by
  refine loop_list l (fun _ i => sumS f l 0 0 i) (sumStep1 f l) (fun _ => (Ex.exit 0, sumS f l 0 0 l.length)) (fun _ i => i ≤ l.length) ?_ ?_ ?_ () (Nat.zero_le _)
  · intro s i x s' hI hx hs
    unfold sumStep1 at hs
    cases hc : (decide (x < 0)) with
    | true => rw [hc] at hs; cases hs
    | false =>
      have hlt := getElem?_lt hx
      have h := evB_sound (sumA_1 f l i x) ⟨hc, el_map hx, lt_len hx, trivial⟩
      rw [wrap64 (by omega) (by omega)] at h
      exact ⟨hlt, h⟩
  · intro s i x o hI hx hs
    unfold sumStep1 at hs
    cases hc : (decide (x < 0)) with
    | true =>
      rw [hc] at hs; injection hs with hs; subst hs
      exact ⟨nofun, evB_sound (sumA_0 f l i x) ⟨hc, el_map hx, lt_len hx, trivial⟩⟩
    | false => rw [hc] at hs; cases hs
  · intro s hI
    exact ⟨nofun, evB_sound (sumA_2 f l l.length 0) ⟨by simp, trivial⟩⟩

theorem sum_run1 (f : Bool) (l : List Int) : ∀ (r : List Int) (i : Nat),
    (r.any (fun x => decide (x < 0)) = true ∧ ∃ j, runL (sumStep1 f l) (fun _ => (Ex.exit 0, sumS f l 0 0 l.length)) r i () = (Ex.ret, sumS f l 0 1 j)) ∨
    (r.any (fun x => decide (x < 0)) = false ∧ runL (sumStep1 f l) (fun _ => (Ex.exit 0, sumS f l 0 0 l.length)) r i () = (Ex.exit 0, sumS f l 0 0 l.length))
  | [], i => .inr ⟨rfl, rfl⟩
  | x :: r, i => by
    simp only [runL, sumStep1, List.any_cons]
    cases hc : (decide (x < 0)) with
    | true => exact .inl ⟨rfl, i, rfl⟩
    | false => exact sum_run1 f l r (i + 1)

theorem sum_loop2 (f : Bool) (l : List Int) (hl : l.length ≤ 4294967296) :
    LoopR Tryz.prog (loopAt Tryz.f63 1) (sumS2 f l 0 0 0 0) (runL (sumStep2 f l) (fun s => (Ex.exit 2, sumS2 f l 0 0 s l.length)) l 0 0).1 (runL (sumStep2 f l) (fun s => (Ex.exit 2, sumS2 f l 0 0 s l.length)) l 0 0).2 := by
  refine loop_list l (fun s i => sumS2 f l 0 0 s i) (sumStep2 f l) (fun s => (Ex.exit 2, sumS2 f l 0 0 s l.length)) (fun _ i => i ≤ l.length) ?_ ?_ ?_ 0 (Nat.zero_le _)
  · intro s i x s' hI hx hs
    unfold sumStep2 at hs
    cases hc : (!((add s x).2 == 0)) with
    | true => rw [hc] at hs; cases hs
    | false =>
      rw [hc] at hs; injection hs with hs; subst hs
      have hlt := getElem?_lt hx
      have h := evB_sound (sumB_1 f l s i x) ⟨hc, add_ok s x, el_map hx, lt_len hx, trivial⟩
      rw [wrap64 (by omega) (by omega)] at h
      exact ⟨hlt, h⟩
  · intro s i x o hI hx hs
    unfold sumStep2 at hs
    cases hc : (!((add s x).2 == 0)) with
    | true =>
      rw [hc] at hs; injection hs with hs; subst hs
      exact ⟨nofun, evB_sound (sumB_0 f l s i x) ⟨hc, add_ok s x, el_map hx, lt_len hx, trivial⟩⟩
    | false => rw [hc] at hs; cases hs
  · intro s hI
    exact ⟨nofun, evB_sound (sumB_2 f l s l.length 0) ⟨by simp, trivial⟩⟩

theorem sum_run2 (f : Bool) (l : List Int) : ∀ (r : List Int) (i : Nat) (s : Int),
    (∃ s' e j, runL (sumStep2 f l) (fun s => (Ex.exit 2, sumS2 f l 0 0 s l.length)) r i s = (Ex.ret, sumS2 f l 0 e s' j) ∧ sumGo r s = (0, e)) ∨
    (∃ s', runL (sumStep2 f l) (fun s => (Ex.exit 2, sumS2 f l 0 0 s l.length)) r i s = (Ex.exit 2, sumS2 f l 0 0 s' l.length) ∧ sumGo r s = (s', 0))
  | [], i, s => .inr ⟨s, rfl, rfl⟩
  | x :: r, i, s => by
    simp only [runL, sumStep2, sumGo]
    cases hc : (!((add s x).2 == 0)) with
    | true => exact .inl ⟨s, _, i, rfl, rfl⟩
    | false => exact sum_run2 f l r (i + 1) (add s x).1

theorem sum_ok (f : Bool) (l : List Int) (hl : l.length ≤ 4294967296) : PCall Tryz.prog 63 [lsI f l] [i64 (sum l).1, i64 (sum l).2] := by
  have h := sum_loop1 f l hl
  rcases sum_run1 f l l 0 with ⟨hb, j, e⟩ | ⟨hb, e⟩
  · rw [e] at h
    unfold sum; rw [hb]
    exact evF_sound Tryz.func63 (by rfl) (sum1_0 f l j) ⟨h, trivial⟩
  · rw [e] at h
    unfold sum; rw [hb]
    have h2 := sum_loop2 f l hl
    rcases sum_run2 f l l 0 0 with ⟨s', e', j, q, p⟩ | ⟨s', q, p⟩
    · rw [q] at h2
      simp only [cond_false, p]
      exact evF_sound Tryz.func63 (by rfl) (sum2_0 f l l.length e' s' j) ⟨h2, h, trivial⟩
    · rw [q] at h2
      simp only [cond_false, p]
      exact evF_sound Tryz.func63 (by rfl) (sum3_0 f l l.length s' l.length) ⟨h2, h, trivial⟩

end Go.HM.Deal

set_option maxRecDepth 100000
namespace Go.HM.Cn
open Go.Proofs Go.HM.Kec

/-! What one has left: one and the same, whether or not it is more than 0. -/

theorem left_pos (s pa aa pb ab : Int) (fa fb : Bool) (la lb : List T) : runK Cc 5 135 [i64 s, .agg [.lst fa 36 la, i64 pa, i64 aa], .agg [.lst fb 36 lb, i64 pb, i64 ab]] [(0, true)] = some ([i64 (IntKind.i64.wrap (IntKind.i64.wrap (s - aa) + pb))], [decide (IntKind.i64.wrap (s - aa) > 0) = true]) := by kernel_rfl
theorem left_neg (s pa aa pb ab : Int) (fa fb : Bool) (la lb : List T) : runK Cc 5 135 [i64 s, .agg [.lst fa 36 la, i64 pa, i64 aa], .agg [.lst fb 36 lb, i64 pb, i64 ab]] [(0, false)] = some ([i64 (IntKind.i64.wrap (pb + IntKind.i64.wrap (s - aa)))], [decide (IntKind.i64.wrap (s - aa) > 0) = false]) := by kernel_rfl

def KLeft (ts : List T) : Option (List T) := match ts with
  | [.int .i64 s, .agg [.lst _ 36 _, .int .i64 _, .int .i64 aa], .agg [.lst _ 36 _, .int .i64 pb, .int .i64 _]] => some [i64 (IntKind.i64.wrap (IntKind.i64.wrap (s - aa) + pb))]
  | _ => none

theorem KLeft_ok {ts rs : List T} (h : KLeft ts = some rs) : PCall Tryz.prog 135 ts rs := by
  unfold KLeft at h
  split at h
  · injection h with h; subst h
    rename_i s fa la pa aa fb lb pb ab
    cases hd : decide (IntKind.i64.wrap (s - aa) > 0) with
    | true => exact runK_sound Cc_ok (left_pos s pa aa pb ab fa fb la lb) ⟨hd, trivial⟩
    | false =>
      have := runK_sound Cc_ok (left_neg s pa aa pb ab fa fb la lb) ⟨hd, trivial⟩
      rwa [Int.add_comm] at this
  · cases h

def intsI : List T → Option (List Int)
  | [] => some []
  | .int .i64 x :: r => match intsI r with
    | some l => some (x :: l)
    | none => none
  | _ => none

theorem intsI_spec : ∀ {ts : List T} {l : List Int}, intsI ts = some l → ts = l.map Deal.i64
  | [], l, h => by simp only [intsI, Option.some.injEq] at h; subst h; rfl
  | t :: ts, l, h => by
    unfold intsI at h
    split at h
    · cases ‹t :: ts = []›
    · rename_i x r e
      injection e with e1 e2
      subst e1; subst e2
      split at h
      · rename_i l' e
        injection h with h; subst h
        rw [intsI_spec e]; rfl
      · cases h
    · cases h

def KAdd (ts : List T) : Option (List T) := match ts with
  | [.int .i64 a, .int .i64 b] => some [i64 (Deal.add a b).1, i64 (Deal.add a b).2]
  | _ => none

theorem KAdd_ok {ts rs : List T} (h : KAdd ts = some rs) : PCall Tryz.prog 64 ts rs := by
  unfold KAdd at h
  split at h
  · injection h with h; subst h; exact Deal.add_ok _ _
  · cases h

def KSumA (ts : List T) : Option (List T) := match ts with
  | [.lst x 1 ps] => match intsI ps with
    | some l => match Nat.ble l.length 4294967296 with
      | true => some [i64 (Deal.sum l).1, i64 (Deal.sum l).2]
      | false => none
    | none => none
  | _ => none

theorem KSumA_ok {ts rs : List T} (h : KSumA ts = some rs) : PCall Tryz.prog 63 ts rs := by
  unfold KSumA at h
  split at h
  · rename_i x ps
    split at h
    · rename_i l e
      split at h
      · rename_i hl
        injection h with h; subst h
        rw [intsI_spec e]
        exact Deal.sum_ok x l (by simpa using hl)
      · cases h
    · cases h
  · cases h

/-- A digest of a transaction, or its tag: of bytes that are not known. -/
def isTx : List T → Bool
  | .bl _ (.ofNat 116 :: .ofNat 120 :: _) :: _ => true
  | .bl _ (.ofNat 2 :: .ofNat 116 :: .ofNat 120 :: _) :: _ => true
  | _ => false

def KDig (ts : List T) : Option (List T) := match ts with
  | [.lst _ 1 ps] => match isTx ps with
    | true => KSum ts
    | false => KSumN ts
  | _ => none

theorem KDig_ok {ts rs : List T} (h : KDig ts = some rs) : PCall Tryz.prog 75 ts rs := by
  unfold KDig at h
  split at h
  · split at h
    · exact KSum_ok h
    · exact KSumN_ok h
  · cases h

def KFr (f : FuncId) (ts : List T) : Option (List T) := match Nat.beq f 75 with
  | true => KDig ts
  | false => match Nat.beq f 63 with
    | true => KSumA ts
    | false => match Nat.beq f 64 with
      | true => KAdd ts
      | false => match Nat.beq f 135 with
        | true => KLeft ts
        | false => match Nat.beq f 7 with
          | true => match ts with
            | [] => some [.bool true]
            | _ => none
          | false => KL f ts

theorem KFr_ok : ∀ f ts rs, KFr f ts = some rs → PCall Tryz.prog f ts rs := by
  intro f ts rs h
  unfold KFr at h
  split at h
  · rename_i hf; rw [Nat.eq_of_beq_eq_true hf]; exact KDig_ok h
  · split at h
    · rename_i hf; rw [Nat.eq_of_beq_eq_true hf]; exact KSumA_ok h
    · split at h
      · rename_i hf; rw [Nat.eq_of_beq_eq_true hf]; exact KAdd_ok h
      · split at h
        · rename_i hf; rw [Nat.eq_of_beq_eq_true hf]; exact KLeft_ok h
        · split at h
          · rename_i hf; rw [Nat.eq_of_beq_eq_true hf]
            split at h
            · injection h with h; subst h; exact lives_ok
            · cases h
          · exact KL_ok h

/-- Besides: what is given a transaction whose inputs are written on. -/
def exG : List Nat := exF ++ [65, 32, 68]
noncomputable def prF (o : Oper) : Bool := pureCall Tryz.prog exG [] [("secrets.go:26", 171), ("deal.go:100", 43)] o || callTo [123, 147] o
noncomputable def Cf : GCtx := { P := Tryz.prog, pr := prF, K := KFr, keep := fun f _ => Nat.beq f 94, frz := fun _ _ => [], item := fun _ => some (.res false), glob := fun _ _ => none, KG := KGw KFr, fuel := 1000, vec := appAt ["ref.go:118", "ref.go:120"], al := fun ops => !balFirst prF ops.toList && !indepG (apS ops) (tch prF) ops, told := fun f => Nat.beq f 6, owe := oweAt [("channel.go:79", [(0, 11), (0, 13)]), ("updates.go:135", [(0, 14), (0, 15)]), ("deal.go:90", [(4, 7), (10, 7)]), ("channel.go:244", [(4, 21), (4, 22), (9, 21), (9, 22), (14, 21), (14, 22), (18, 21), (18, 22), (20, 21), (20, 22)]), ("channel.go:253", [(4, 17), (4, 18), (9, 17), (9, 18), (14, 17), (14, 18), (16, 17), (16, 18)]), ("channel.go:31", [(0, 2), (0, 3), (1, 2), (1, 3)]), ("channel.go:33", [(0, 2), (0, 3), (1, 2), (1, 3)]), ("channel.go:274", [(1, 13), (1, 18), (1, 24), (1, 27), (3, 13), (3, 18), (3, 24), (3, 27), (11, 13), (11, 18), (11, 24), (11, 27), (12, 13), (12, 18), (12, 24), (12, 27), (17, 13), (17, 18), (17, 24), (17, 27)])] }
theorem Cf_ok : KOk Cf := ⟨names_ok, KFr_ok, fun _ _ _ _ _ h => KGw_ok KFr_ok h⟩

end Go.HM.Cn
