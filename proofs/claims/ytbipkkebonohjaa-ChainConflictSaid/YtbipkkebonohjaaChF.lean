/- CHAIN, part F: ChainConflict. -/
import Derived.Test.YtbipkkebonohjaaChD
import Derived.Test.YtbipkkebonohjaaHmRow
set_option maxRecDepth 100000
namespace Go.HM.Ch
open Go.Proofs Go.HM.Kec

def msgN (i n : Nat) : List Nat := [116, 120] ++ firstL.map Int.toNat ++ [0, 0, 0, 0, 0, 0, 0, 0, 255, n, 0, 0, 0, 0, 0, 0, 0, i] ++ List.replicate 50 0 ++ [254]

theorem msg_up : ((List.range 2).all fun i => (List.range 101).all fun n => decide (up (msgN i n) = [116, 120] ++ firstL ++ [0, 0, 0, 0, 0, 0, 0, 0, 255, IntKind.u8.wrap (Int.fdiv (IntKind.u64.wrap n) (2 ^ 0)), IntKind.u8.wrap (Int.fdiv (IntKind.u64.wrap n) (2 ^ 8)), IntKind.u8.wrap (Int.fdiv (IntKind.u64.wrap n) (2 ^ 16)), IntKind.u8.wrap (Int.fdiv (IntKind.u64.wrap n) (2 ^ 24)), IntKind.u8.wrap (Int.fdiv (IntKind.u64.wrap n) (2 ^ 32)), IntKind.u8.wrap (Int.fdiv (IntKind.u64.wrap n) (2 ^ 40)), IntKind.u8.wrap (Int.fdiv (IntKind.u64.wrap n) (2 ^ 48)), IntKind.u8.wrap (Int.fdiv (IntKind.u64.wrap n) (2 ^ 56)), (i : Int)] ++ List.replicate 50 0 ++ [254]) && (msgN i n).all fun b => Nat.blt b 256) = true := by kernel_rfl

def neB (i a : Nat) : Bool := (List.range' a 17).all fun n => !decide (up (shaN (msgN i n)) = firstL)
theorem ne_0_0 : neB 0 0 = true := by kernel_rfl
theorem ne_0_1 : neB 0 17 = true := by kernel_rfl
theorem ne_0_2 : neB 0 34 = true := by kernel_rfl
theorem ne_0_3 : neB 0 51 = true := by kernel_rfl
theorem ne_0_4 : neB 0 68 = true := by kernel_rfl
theorem ne_0_5 : neB 0 85 = true := by kernel_rfl
theorem ne_1_0 : neB 1 0 = true := by kernel_rfl
theorem ne_1_1 : neB 1 17 = true := by kernel_rfl
theorem ne_1_2 : neB 1 34 = true := by kernel_rfl
theorem ne_1_3 : neB 1 51 = true := by kernel_rfl
theorem ne_1_4 : neB 1 68 = true := by kernel_rfl
theorem ne_1_5 : neB 1 85 = true := by kernel_rfl

theorem ne_at {i n : Nat} (hi : i < 2) (hn : n < 101) : up (shaN (msgN i n)) ≠ firstL := by
  have get : ∀ {i a n : Nat}, neB i a = true → a ≤ n → n < a + 17 → up (shaN (msgN i n)) ≠ firstL := fun {i a n} h h1 h2 => by
    have := List.all_eq_true.1 h n (List.mem_range'_1.2 ⟨h1, h2⟩)
    simpa using this
  have hi' : i = 0 ∨ i = 1 := by omega
  have hk : n < 17 ∨ (17 ≤ n ∧ n < 34) ∨ (34 ≤ n ∧ n < 51) ∨ (51 ≤ n ∧ n < 68) ∨ (68 ≤ n ∧ n < 85) ∨ (85 ≤ n ∧ n < 102) := by omega
  rcases hi' with rfl | rfl
  · rcases hk with h | h | h | h | h | h
    · exact get ne_0_0 (by omega) (by omega)
    · exact get ne_0_1 (by omega) (by omega)
    · exact get ne_0_2 (by omega) (by omega)
    · exact get ne_0_3 (by omega) (by omega)
    · exact get ne_0_4 (by omega) (by omega)
    · exact get ne_0_5 (by omega) (by omega)
  · rcases hk with h | h | h | h | h | h
    · exact get ne_1_0 (by omega) (by omega)
    · exact get ne_1_1 (by omega) (by omega)
    · exact get ne_1_2 (by omega) (by omega)
    · exact get ne_1_3 (by omega) (by omega)
    · exact get ne_1_4 (by omega) (by omega)
    · exact get ne_1_5 (by omega) (by omega)

theorem id_ne {i : Nat} {n : Int} (hi : i < 2) (h0 : 0 ≤ n) (h1 : n ≤ 100) : idS i n ≠ firstL := by
  obtain ⟨m, rfl⟩ := Int.eq_ofNat_of_zero_le h0
  have hm : m < 101 := by omega
  have a := List.all_eq_true.1 (List.all_eq_true.1 msg_up i (List.mem_range.2 hi)) m (List.mem_range.2 hm)
  simp only [Bool.and_eq_true, decide_eq_true_eq] at a
  obtain ⟨a1, a2⟩ := a
  have hs : idS i m = sha (up (msgN i m)) := by rw [a1]; rfl
  have hb : ∀ x ∈ msgN i m, x < 256 := fun x hx => by
    have q := List.all_eq_true.1 a2 x hx
    simp [Nat.blt] at q
    omega
  rw [hs, sha_N hb]
  exact ne_at hi hm

theorem eqB_ba (x y : List Int) : T.eqB (.ba 32 x) (.ba 32 y) = (x == y) := by simp [T.eqB]

theorem conflict_ok (a b : Int) (h : Bool) : PCall Try.prog 11 [.int .i64 a, .int .i64 b, .bool h] [.bool true] := by
  by_cases c0 : a < 0
  · cases h
    · exact runK_sound (Cw_ok K4_ok) (confX_0_false a b) ⟨by simpa using c0, trivial⟩
    · exact runK_sound (Cw_ok K4_ok) (confX_0_true a b) ⟨by simpa using c0, trivial⟩
  by_cases c1 : a > 100
  · cases h
    · refine runK_sound (Cw_ok K4_ok) (confX_1_false a b) ?_
      and_intros <;> first | trivial | (simp; omega)
    · refine runK_sound (Cw_ok K4_ok) (confX_1_true a b) ?_
      and_intros <;> first | trivial | (simp; omega)
  by_cases c2 : b < 0
  · cases h
    · refine runK_sound (Cw_ok K4_ok) (confX_2_false a b) ?_
      and_intros <;> first | trivial | (simp; omega)
    · refine runK_sound (Cw_ok K4_ok) (confX_2_true a b) ?_
      and_intros <;> first | trivial | (simp; omega)
  by_cases c3 : b > 100
  · cases h
    · refine runK_sound (Cw_ok K4_ok) (confX_3_false a b) ?_
      and_intros <;> first | trivial | (simp; omega)
    · refine runK_sound (Cw_ok K4_ok) (confX_3_true a b) ?_
      and_intros <;> first | trivial | (simp; omega)
  have ha : idS 0 a ≠ firstL := id_ne (i := 0) (by omega) (by omega) (by omega)
  have hb : idS 1 b ≠ firstL := id_ne (i := 1) (by omega) (by omega) (by omega)
  have h1 := conf_false a b
  have h2 := conf_true a b
  have h3 := confE_false a b
  have h4 := confE_true a b
  revert h1 h2 h3 h4
  generalize idS 0 a = x at ha
  generalize idS 1 b = y at hb
  intro h1 h2 h3 h4
  by_cases e : x = y
  · have e' : y = x := e.symm
    cases h
    · refine runK_sound (Cw_ok K4_ok) h3 ?_
      repeat first | exact True.intro | refine And.intro (by first | exact (Eq.refl (_ : Option SObj)) | (simp only [eqB_ba]; simp [e, ha, hb]; done) | (simp [e, ha, hb]; done) | (simp (disch := omega) [w64]; omega)) ?_
    · refine runK_sound (Cw_ok K4_ok) h4 ?_
      repeat first | exact True.intro | refine And.intro (by first | exact (Eq.refl (_ : Option SObj)) | (simp only [eqB_ba]; simp [e, ha, hb]; done) | (simp [e, ha, hb]; done) | (simp (disch := omega) [w64]; omega)) ?_
  · have e' : ¬ y = x := fun q => e q.symm
    cases h
    · refine runK_sound (Cw_ok K4_ok) h1 ?_
      repeat first | exact True.intro | refine And.intro (by first | exact (Eq.refl (_ : Option SObj)) | (simp only [eqB_ba]; simp [e, e', ha, hb]; done) | (simp [e, e', ha, hb]; done) | (simp (disch := omega) [w64]; omega)) ?_
    · refine runK_sound (Cw_ok K4_ok) h2 ?_
      repeat first | exact True.intro | refine And.intro (by first | exact (Eq.refl (_ : Option SObj)) | (simp only [eqB_ba]; simp [e, e', ha, hb]; done) | (simp [e, e', ha, hb]; done) | (simp (disch := omega) [w64]; omega)) ?_

theorem conflict_args {xs : List T} (h : HasShs [.int .i64, .int .i64, .bool] xs) : PCall Try.prog 11 xs [.bool true] := by
  obtain ⟨_, _, rfl, ⟨a, rfl, _⟩, _, _, rfl, ⟨b, rfl, _⟩, _, _, rfl, ⟨c, rfl⟩, rfl⟩ := h
  exact conflict_ok a b c
end Go.HM.Ch
