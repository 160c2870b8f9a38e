/- KEC: the reference's rounds (printed by a small program). -/
import Derived.Test.YtgcibcndeikiiaaGreatDoorCnK
import Derived.Test.YtgcibcndeikiiaaGreatDoorGlobT
set_option maxRecDepth 100000
namespace Go.HM.Kec
open Go.Proofs

/-- A call of one of some functions. -/
def callTo (l : List FuncId) (o : Oper) : Bool := match o.op with
  | .call c => match c.callee with
    | .value (.func f) => memN f l
    | _ => false
  | _ => false

def andI (a b : Int) : Int := IntKind.u64.wrap (BitVec.ofInt 64 a &&& BitVec.ofInt 64 b).toNat

/-- A round, as the reference reckons it. -/
def mixR (w : List Int) (c : Int) : List Int :=
  let cs := (List.range 5).map (colS w)
  let ss := (List.range 5).map (sumS cs)
  let b := frm.map fun p => rotl (xorI (g w p.1) (g ss (p.1 % 5))) p.2
  let r := (List.range 25).map fun j => xorI (g b j) (andI (xorI 18446744073709551615 (g b (j / 5 * 5 + (j + 1) % 5))) (g b (j / 5 * 5 + (j + 2) % 5)))
  match r with
  | x :: l => xorI x c :: l
  | [] => []

theorem ofInt_wrap (r : BitVec 64) : BitVec.ofInt 64 (IntKind.u64.wrap (r.toNat : Int)) = r := by
  rw [wrapU, ofInt_nat]
  apply BitVec.eq_of_toNat_eq
  have := r.isLt
  simp
  omega

theorem andR_eq (a b : Int) : andI (xorI 18446744073709551615 a) b = andnI b a := by
  unfold andI xorI andnI
  rw [ofInt_wrap]
  congr 3
  apply BitVec.eq_of_getLsbD_eq
  intro i hi
  have h1 : (BitVec.ofInt 64 18446744073709551615).getLsbD i = true := by
    have : BitVec.ofInt 64 18446744073709551615 = BitVec.allOnes 64 := by decide
    rw [this, BitVec.getLsbD_allOnes]; simp [hi]
  simp only [BitVec.getLsbD_and, BitVec.getLsbD_xor, BitVec.getLsbD_not, h1, hi, decide_true, Bool.true_and]
  cases (BitVec.ofInt 64 a).getLsbD i <;> cases (BitVec.ofInt 64 b).getLsbD i <;> rfl

theorem mixR_eq (w : List Int) (c : Int) : mixR w c = mixS w c := by
  unfold mixR mixS
  simp only [andR_eq]
  rfl

noncomputable def Cq : GCtx := { C0 (fun _ _ => false) with pr := fun o => pureCall Tryz.prog [] [] [] o || callTo [123, 147] o, glob := globOf globT }

def tblT : T := .agg [.agg (byL.map i64), .agg (csL.map u64)]
theorem all_tbl : runK (C0 fun _ _ => false) 30 122 [] [] = some ([tblT], []) := by kernel_rfl
theorem Cq_ok : KOk Cq := ⟨names_ok, fun _ _ _ h => (by cases h), fun _ _ _ _ _ h => (by cases h)⟩

def RoundOk (n c : Int) : Prop := ∀ w : List Int, w.length = 25 → PCall Tryz.prog 147 [.rp tblT 0, .agg (w.map u64), i64 n] [.agg ((mixS w c).map u64)]

theorem rdr_0 (w0 w1 w2 w3 w4 w5 w6 w7 w8 w9 w10 w11 w12 w13 w14 w15 w16 w17 w18 w19 w20 w21 w22 w23 w24 : Int) : runK Cq 5 147 [.rp tblT 0, .agg ([w0, w1, w2, w3, w4, w5, w6, w7, w8, w9, w10, w11, w12, w13, w14, w15, w16, w17, w18, w19, w20, w21, w22, w23, w24].map u64), i64 0] [] = some ([.agg ((mixR [w0, w1, w2, w3, w4, w5, w6, w7, w8, w9, w10, w11, w12, w13, w14, w15, w16, w17, w18, w19, w20, w21, w22, w23, w24] 1).map u64)], []) := by kernel_rfl
theorem rd_0 : RoundOk 0 1 := by
  intro w h
  obtain ⟨w0, w1, w2, w3, w4, w5, w6, w7, w8, w9, w10, w11, w12, w13, w14, w15, w16, w17, w18, w19, w20, w21, w22, w23, w24, rfl⟩ := len25 h
  rw [← mixR_eq]
  exact runK_sound Cq_ok (rdr_0 _ _ _ _ _ _ _ _ _ _ _ _ _ _ _ _ _ _ _ _ _ _ _ _ _) trivial
theorem rdr_1 (w0 w1 w2 w3 w4 w5 w6 w7 w8 w9 w10 w11 w12 w13 w14 w15 w16 w17 w18 w19 w20 w21 w22 w23 w24 : Int) : runK Cq 5 147 [.rp tblT 0, .agg ([w0, w1, w2, w3, w4, w5, w6, w7, w8, w9, w10, w11, w12, w13, w14, w15, w16, w17, w18, w19, w20, w21, w22, w23, w24].map u64), i64 1] [] = some ([.agg ((mixR [w0, w1, w2, w3, w4, w5, w6, w7, w8, w9, w10, w11, w12, w13, w14, w15, w16, w17, w18, w19, w20, w21, w22, w23, w24] 32898).map u64)], []) := by kernel_rfl
theorem rd_1 : RoundOk 1 32898 := by
  intro w h
  obtain ⟨w0, w1, w2, w3, w4, w5, w6, w7, w8, w9, w10, w11, w12, w13, w14, w15, w16, w17, w18, w19, w20, w21, w22, w23, w24, rfl⟩ := len25 h
  rw [← mixR_eq]
  exact runK_sound Cq_ok (rdr_1 _ _ _ _ _ _ _ _ _ _ _ _ _ _ _ _ _ _ _ _ _ _ _ _ _) trivial
theorem rdr_2 (w0 w1 w2 w3 w4 w5 w6 w7 w8 w9 w10 w11 w12 w13 w14 w15 w16 w17 w18 w19 w20 w21 w22 w23 w24 : Int) : runK Cq 5 147 [.rp tblT 0, .agg ([w0, w1, w2, w3, w4, w5, w6, w7, w8, w9, w10, w11, w12, w13, w14, w15, w16, w17, w18, w19, w20, w21, w22, w23, w24].map u64), i64 2] [] = some ([.agg ((mixR [w0, w1, w2, w3, w4, w5, w6, w7, w8, w9, w10, w11, w12, w13, w14, w15, w16, w17, w18, w19, w20, w21, w22, w23, w24] 9223372036854808714).map u64)], []) := by kernel_rfl
theorem rd_2 : RoundOk 2 9223372036854808714 := by
  intro w h
  obtain ⟨w0, w1, w2, w3, w4, w5, w6, w7, w8, w9, w10, w11, w12, w13, w14, w15, w16, w17, w18, w19, w20, w21, w22, w23, w24, rfl⟩ := len25 h
  rw [← mixR_eq]
  exact runK_sound Cq_ok (rdr_2 _ _ _ _ _ _ _ _ _ _ _ _ _ _ _ _ _ _ _ _ _ _ _ _ _) trivial
theorem rdr_3 (w0 w1 w2 w3 w4 w5 w6 w7 w8 w9 w10 w11 w12 w13 w14 w15 w16 w17 w18 w19 w20 w21 w22 w23 w24 : Int) : runK Cq 5 147 [.rp tblT 0, .agg ([w0, w1, w2, w3, w4, w5, w6, w7, w8, w9, w10, w11, w12, w13, w14, w15, w16, w17, w18, w19, w20, w21, w22, w23, w24].map u64), i64 3] [] = some ([.agg ((mixR [w0, w1, w2, w3, w4, w5, w6, w7, w8, w9, w10, w11, w12, w13, w14, w15, w16, w17, w18, w19, w20, w21, w22, w23, w24] 9223372039002292224).map u64)], []) := by kernel_rfl
theorem rd_3 : RoundOk 3 9223372039002292224 := by
  intro w h
  obtain ⟨w0, w1, w2, w3, w4, w5, w6, w7, w8, w9, w10, w11, w12, w13, w14, w15, w16, w17, w18, w19, w20, w21, w22, w23, w24, rfl⟩ := len25 h
  rw [← mixR_eq]
  exact runK_sound Cq_ok (rdr_3 _ _ _ _ _ _ _ _ _ _ _ _ _ _ _ _ _ _ _ _ _ _ _ _ _) trivial
theorem rdr_4 (w0 w1 w2 w3 w4 w5 w6 w7 w8 w9 w10 w11 w12 w13 w14 w15 w16 w17 w18 w19 w20 w21 w22 w23 w24 : Int) : runK Cq 5 147 [.rp tblT 0, .agg ([w0, w1, w2, w3, w4, w5, w6, w7, w8, w9, w10, w11, w12, w13, w14, w15, w16, w17, w18, w19, w20, w21, w22, w23, w24].map u64), i64 4] [] = some ([.agg ((mixR [w0, w1, w2, w3, w4, w5, w6, w7, w8, w9, w10, w11, w12, w13, w14, w15, w16, w17, w18, w19, w20, w21, w22, w23, w24] 32907).map u64)], []) := by kernel_rfl
theorem rd_4 : RoundOk 4 32907 := by
  intro w h
  obtain ⟨w0, w1, w2, w3, w4, w5, w6, w7, w8, w9, w10, w11, w12, w13, w14, w15, w16, w17, w18, w19, w20, w21, w22, w23, w24, rfl⟩ := len25 h
  rw [← mixR_eq]
  exact runK_sound Cq_ok (rdr_4 _ _ _ _ _ _ _ _ _ _ _ _ _ _ _ _ _ _ _ _ _ _ _ _ _) trivial
theorem rdr_5 (w0 w1 w2 w3 w4 w5 w6 w7 w8 w9 w10 w11 w12 w13 w14 w15 w16 w17 w18 w19 w20 w21 w22 w23 w24 : Int) : runK Cq 5 147 [.rp tblT 0, .agg ([w0, w1, w2, w3, w4, w5, w6, w7, w8, w9, w10, w11, w12, w13, w14, w15, w16, w17, w18, w19, w20, w21, w22, w23, w24].map u64), i64 5] [] = some ([.agg ((mixR [w0, w1, w2, w3, w4, w5, w6, w7, w8, w9, w10, w11, w12, w13, w14, w15, w16, w17, w18, w19, w20, w21, w22, w23, w24] 2147483649).map u64)], []) := by kernel_rfl
theorem rd_5 : RoundOk 5 2147483649 := by
  intro w h
  obtain ⟨w0, w1, w2, w3, w4, w5, w6, w7, w8, w9, w10, w11, w12, w13, w14, w15, w16, w17, w18, w19, w20, w21, w22, w23, w24, rfl⟩ := len25 h
  rw [← mixR_eq]
  exact runK_sound Cq_ok (rdr_5 _ _ _ _ _ _ _ _ _ _ _ _ _ _ _ _ _ _ _ _ _ _ _ _ _) trivial
theorem rdr_6 (w0 w1 w2 w3 w4 w5 w6 w7 w8 w9 w10 w11 w12 w13 w14 w15 w16 w17 w18 w19 w20 w21 w22 w23 w24 : Int) : runK Cq 5 147 [.rp tblT 0, .agg ([w0, w1, w2, w3, w4, w5, w6, w7, w8, w9, w10, w11, w12, w13, w14, w15, w16, w17, w18, w19, w20, w21, w22, w23, w24].map u64), i64 6] [] = some ([.agg ((mixR [w0, w1, w2, w3, w4, w5, w6, w7, w8, w9, w10, w11, w12, w13, w14, w15, w16, w17, w18, w19, w20, w21, w22, w23, w24] 9223372039002292353).map u64)], []) := by kernel_rfl
theorem rd_6 : RoundOk 6 9223372039002292353 := by
  intro w h
  obtain ⟨w0, w1, w2, w3, w4, w5, w6, w7, w8, w9, w10, w11, w12, w13, w14, w15, w16, w17, w18, w19, w20, w21, w22, w23, w24, rfl⟩ := len25 h
  rw [← mixR_eq]
  exact runK_sound Cq_ok (rdr_6 _ _ _ _ _ _ _ _ _ _ _ _ _ _ _ _ _ _ _ _ _ _ _ _ _) trivial
theorem rdr_7 (w0 w1 w2 w3 w4 w5 w6 w7 w8 w9 w10 w11 w12 w13 w14 w15 w16 w17 w18 w19 w20 w21 w22 w23 w24 : Int) : runK Cq 5 147 [.rp tblT 0, .agg ([w0, w1, w2, w3, w4, w5, w6, w7, w8, w9, w10, w11, w12, w13, w14, w15, w16, w17, w18, w19, w20, w21, w22, w23, w24].map u64), i64 7] [] = some ([.agg ((mixR [w0, w1, w2, w3, w4, w5, w6, w7, w8, w9, w10, w11, w12, w13, w14, w15, w16, w17, w18, w19, w20, w21, w22, w23, w24] 9223372036854808585).map u64)], []) := by kernel_rfl
theorem rd_7 : RoundOk 7 9223372036854808585 := by
  intro w h
  obtain ⟨w0, w1, w2, w3, w4, w5, w6, w7, w8, w9, w10, w11, w12, w13, w14, w15, w16, w17, w18, w19, w20, w21, w22, w23, w24, rfl⟩ := len25 h
  rw [← mixR_eq]
  exact runK_sound Cq_ok (rdr_7 _ _ _ _ _ _ _ _ _ _ _ _ _ _ _ _ _ _ _ _ _ _ _ _ _) trivial
theorem rdr_8 (w0 w1 w2 w3 w4 w5 w6 w7 w8 w9 w10 w11 w12 w13 w14 w15 w16 w17 w18 w19 w20 w21 w22 w23 w24 : Int) : runK Cq 5 147 [.rp tblT 0, .agg ([w0, w1, w2, w3, w4, w5, w6, w7, w8, w9, w10, w11, w12, w13, w14, w15, w16, w17, w18, w19, w20, w21, w22, w23, w24].map u64), i64 8] [] = some ([.agg ((mixR [w0, w1, w2, w3, w4, w5, w6, w7, w8, w9, w10, w11, w12, w13, w14, w15, w16, w17, w18, w19, w20, w21, w22, w23, w24] 138).map u64)], []) := by kernel_rfl
theorem rd_8 : RoundOk 8 138 := by
  intro w h
  obtain ⟨w0, w1, w2, w3, w4, w5, w6, w7, w8, w9, w10, w11, w12, w13, w14, w15, w16, w17, w18, w19, w20, w21, w22, w23, w24, rfl⟩ := len25 h
  rw [← mixR_eq]
  exact runK_sound Cq_ok (rdr_8 _ _ _ _ _ _ _ _ _ _ _ _ _ _ _ _ _ _ _ _ _ _ _ _ _) trivial
theorem rdr_9 (w0 w1 w2 w3 w4 w5 w6 w7 w8 w9 w10 w11 w12 w13 w14 w15 w16 w17 w18 w19 w20 w21 w22 w23 w24 : Int) : runK Cq 5 147 [.rp tblT 0, .agg ([w0, w1, w2, w3, w4, w5, w6, w7, w8, w9, w10, w11, w12, w13, w14, w15, w16, w17, w18, w19, w20, w21, w22, w23, w24].map u64), i64 9] [] = some ([.agg ((mixR [w0, w1, w2, w3, w4, w5, w6, w7, w8, w9, w10, w11, w12, w13, w14, w15, w16, w17, w18, w19, w20, w21, w22, w23, w24] 136).map u64)], []) := by kernel_rfl
theorem rd_9 : RoundOk 9 136 := by
  intro w h
  obtain ⟨w0, w1, w2, w3, w4, w5, w6, w7, w8, w9, w10, w11, w12, w13, w14, w15, w16, w17, w18, w19, w20, w21, w22, w23, w24, rfl⟩ := len25 h
  rw [← mixR_eq]
  exact runK_sound Cq_ok (rdr_9 _ _ _ _ _ _ _ _ _ _ _ _ _ _ _ _ _ _ _ _ _ _ _ _ _) trivial
theorem rdr_10 (w0 w1 w2 w3 w4 w5 w6 w7 w8 w9 w10 w11 w12 w13 w14 w15 w16 w17 w18 w19 w20 w21 w22 w23 w24 : Int) : runK Cq 5 147 [.rp tblT 0, .agg ([w0, w1, w2, w3, w4, w5, w6, w7, w8, w9, w10, w11, w12, w13, w14, w15, w16, w17, w18, w19, w20, w21, w22, w23, w24].map u64), i64 10] [] = some ([.agg ((mixR [w0, w1, w2, w3, w4, w5, w6, w7, w8, w9, w10, w11, w12, w13, w14, w15, w16, w17, w18, w19, w20, w21, w22, w23, w24] 2147516425).map u64)], []) := by kernel_rfl
theorem rd_10 : RoundOk 10 2147516425 := by
  intro w h
  obtain ⟨w0, w1, w2, w3, w4, w5, w6, w7, w8, w9, w10, w11, w12, w13, w14, w15, w16, w17, w18, w19, w20, w21, w22, w23, w24, rfl⟩ := len25 h
  rw [← mixR_eq]
  exact runK_sound Cq_ok (rdr_10 _ _ _ _ _ _ _ _ _ _ _ _ _ _ _ _ _ _ _ _ _ _ _ _ _) trivial
theorem rdr_11 (w0 w1 w2 w3 w4 w5 w6 w7 w8 w9 w10 w11 w12 w13 w14 w15 w16 w17 w18 w19 w20 w21 w22 w23 w24 : Int) : runK Cq 5 147 [.rp tblT 0, .agg ([w0, w1, w2, w3, w4, w5, w6, w7, w8, w9, w10, w11, w12, w13, w14, w15, w16, w17, w18, w19, w20, w21, w22, w23, w24].map u64), i64 11] [] = some ([.agg ((mixR [w0, w1, w2, w3, w4, w5, w6, w7, w8, w9, w10, w11, w12, w13, w14, w15, w16, w17, w18, w19, w20, w21, w22, w23, w24] 2147483658).map u64)], []) := by kernel_rfl
theorem rd_11 : RoundOk 11 2147483658 := by
  intro w h
  obtain ⟨w0, w1, w2, w3, w4, w5, w6, w7, w8, w9, w10, w11, w12, w13, w14, w15, w16, w17, w18, w19, w20, w21, w22, w23, w24, rfl⟩ := len25 h
  rw [← mixR_eq]
  exact runK_sound Cq_ok (rdr_11 _ _ _ _ _ _ _ _ _ _ _ _ _ _ _ _ _ _ _ _ _ _ _ _ _) trivial
theorem rdr_12 (w0 w1 w2 w3 w4 w5 w6 w7 w8 w9 w10 w11 w12 w13 w14 w15 w16 w17 w18 w19 w20 w21 w22 w23 w24 : Int) : runK Cq 5 147 [.rp tblT 0, .agg ([w0, w1, w2, w3, w4, w5, w6, w7, w8, w9, w10, w11, w12, w13, w14, w15, w16, w17, w18, w19, w20, w21, w22, w23, w24].map u64), i64 12] [] = some ([.agg ((mixR [w0, w1, w2, w3, w4, w5, w6, w7, w8, w9, w10, w11, w12, w13, w14, w15, w16, w17, w18, w19, w20, w21, w22, w23, w24] 2147516555).map u64)], []) := by kernel_rfl
theorem rd_12 : RoundOk 12 2147516555 := by
  intro w h
  obtain ⟨w0, w1, w2, w3, w4, w5, w6, w7, w8, w9, w10, w11, w12, w13, w14, w15, w16, w17, w18, w19, w20, w21, w22, w23, w24, rfl⟩ := len25 h
  rw [← mixR_eq]
  exact runK_sound Cq_ok (rdr_12 _ _ _ _ _ _ _ _ _ _ _ _ _ _ _ _ _ _ _ _ _ _ _ _ _) trivial
theorem rdr_13 (w0 w1 w2 w3 w4 w5 w6 w7 w8 w9 w10 w11 w12 w13 w14 w15 w16 w17 w18 w19 w20 w21 w22 w23 w24 : Int) : runK Cq 5 147 [.rp tblT 0, .agg ([w0, w1, w2, w3, w4, w5, w6, w7, w8, w9, w10, w11, w12, w13, w14, w15, w16, w17, w18, w19, w20, w21, w22, w23, w24].map u64), i64 13] [] = some ([.agg ((mixR [w0, w1, w2, w3, w4, w5, w6, w7, w8, w9, w10, w11, w12, w13, w14, w15, w16, w17, w18, w19, w20, w21, w22, w23, w24] 9223372036854775947).map u64)], []) := by kernel_rfl
theorem rd_13 : RoundOk 13 9223372036854775947 := by
  intro w h
  obtain ⟨w0, w1, w2, w3, w4, w5, w6, w7, w8, w9, w10, w11, w12, w13, w14, w15, w16, w17, w18, w19, w20, w21, w22, w23, w24, rfl⟩ := len25 h
  rw [← mixR_eq]
  exact runK_sound Cq_ok (rdr_13 _ _ _ _ _ _ _ _ _ _ _ _ _ _ _ _ _ _ _ _ _ _ _ _ _) trivial
theorem rdr_14 (w0 w1 w2 w3 w4 w5 w6 w7 w8 w9 w10 w11 w12 w13 w14 w15 w16 w17 w18 w19 w20 w21 w22 w23 w24 : Int) : runK Cq 5 147 [.rp tblT 0, .agg ([w0, w1, w2, w3, w4, w5, w6, w7, w8, w9, w10, w11, w12, w13, w14, w15, w16, w17, w18, w19, w20, w21, w22, w23, w24].map u64), i64 14] [] = some ([.agg ((mixR [w0, w1, w2, w3, w4, w5, w6, w7, w8, w9, w10, w11, w12, w13, w14, w15, w16, w17, w18, w19, w20, w21, w22, w23, w24] 9223372036854808713).map u64)], []) := by kernel_rfl
theorem rd_14 : RoundOk 14 9223372036854808713 := by
  intro w h
  obtain ⟨w0, w1, w2, w3, w4, w5, w6, w7, w8, w9, w10, w11, w12, w13, w14, w15, w16, w17, w18, w19, w20, w21, w22, w23, w24, rfl⟩ := len25 h
  rw [← mixR_eq]
  exact runK_sound Cq_ok (rdr_14 _ _ _ _ _ _ _ _ _ _ _ _ _ _ _ _ _ _ _ _ _ _ _ _ _) trivial
theorem rdr_15 (w0 w1 w2 w3 w4 w5 w6 w7 w8 w9 w10 w11 w12 w13 w14 w15 w16 w17 w18 w19 w20 w21 w22 w23 w24 : Int) : runK Cq 5 147 [.rp tblT 0, .agg ([w0, w1, w2, w3, w4, w5, w6, w7, w8, w9, w10, w11, w12, w13, w14, w15, w16, w17, w18, w19, w20, w21, w22, w23, w24].map u64), i64 15] [] = some ([.agg ((mixR [w0, w1, w2, w3, w4, w5, w6, w7, w8, w9, w10, w11, w12, w13, w14, w15, w16, w17, w18, w19, w20, w21, w22, w23, w24] 9223372036854808579).map u64)], []) := by kernel_rfl
theorem rd_15 : RoundOk 15 9223372036854808579 := by
  intro w h
  obtain ⟨w0, w1, w2, w3, w4, w5, w6, w7, w8, w9, w10, w11, w12, w13, w14, w15, w16, w17, w18, w19, w20, w21, w22, w23, w24, rfl⟩ := len25 h
  rw [← mixR_eq]
  exact runK_sound Cq_ok (rdr_15 _ _ _ _ _ _ _ _ _ _ _ _ _ _ _ _ _ _ _ _ _ _ _ _ _) trivial
theorem rdr_16 (w0 w1 w2 w3 w4 w5 w6 w7 w8 w9 w10 w11 w12 w13 w14 w15 w16 w17 w18 w19 w20 w21 w22 w23 w24 : Int) : runK Cq 5 147 [.rp tblT 0, .agg ([w0, w1, w2, w3, w4, w5, w6, w7, w8, w9, w10, w11, w12, w13, w14, w15, w16, w17, w18, w19, w20, w21, w22, w23, w24].map u64), i64 16] [] = some ([.agg ((mixR [w0, w1, w2, w3, w4, w5, w6, w7, w8, w9, w10, w11, w12, w13, w14, w15, w16, w17, w18, w19, w20, w21, w22, w23, w24] 9223372036854808578).map u64)], []) := by kernel_rfl
theorem rd_16 : RoundOk 16 9223372036854808578 := by
  intro w h
  obtain ⟨w0, w1, w2, w3, w4, w5, w6, w7, w8, w9, w10, w11, w12, w13, w14, w15, w16, w17, w18, w19, w20, w21, w22, w23, w24, rfl⟩ := len25 h
  rw [← mixR_eq]
  exact runK_sound Cq_ok (rdr_16 _ _ _ _ _ _ _ _ _ _ _ _ _ _ _ _ _ _ _ _ _ _ _ _ _) trivial
theorem rdr_17 (w0 w1 w2 w3 w4 w5 w6 w7 w8 w9 w10 w11 w12 w13 w14 w15 w16 w17 w18 w19 w20 w21 w22 w23 w24 : Int) : runK Cq 5 147 [.rp tblT 0, .agg ([w0, w1, w2, w3, w4, w5, w6, w7, w8, w9, w10, w11, w12, w13, w14, w15, w16, w17, w18, w19, w20, w21, w22, w23, w24].map u64), i64 17] [] = some ([.agg ((mixR [w0, w1, w2, w3, w4, w5, w6, w7, w8, w9, w10, w11, w12, w13, w14, w15, w16, w17, w18, w19, w20, w21, w22, w23, w24] 9223372036854775936).map u64)], []) := by kernel_rfl
theorem rd_17 : RoundOk 17 9223372036854775936 := by
  intro w h
  obtain ⟨w0, w1, w2, w3, w4, w5, w6, w7, w8, w9, w10, w11, w12, w13, w14, w15, w16, w17, w18, w19, w20, w21, w22, w23, w24, rfl⟩ := len25 h
  rw [← mixR_eq]
  exact runK_sound Cq_ok (rdr_17 _ _ _ _ _ _ _ _ _ _ _ _ _ _ _ _ _ _ _ _ _ _ _ _ _) trivial
theorem rdr_18 (w0 w1 w2 w3 w4 w5 w6 w7 w8 w9 w10 w11 w12 w13 w14 w15 w16 w17 w18 w19 w20 w21 w22 w23 w24 : Int) : runK Cq 5 147 [.rp tblT 0, .agg ([w0, w1, w2, w3, w4, w5, w6, w7, w8, w9, w10, w11, w12, w13, w14, w15, w16, w17, w18, w19, w20, w21, w22, w23, w24].map u64), i64 18] [] = some ([.agg ((mixR [w0, w1, w2, w3, w4, w5, w6, w7, w8, w9, w10, w11, w12, w13, w14, w15, w16, w17, w18, w19, w20, w21, w22, w23, w24] 32778).map u64)], []) := by kernel_rfl
theorem rd_18 : RoundOk 18 32778 := by
  intro w h
  obtain ⟨w0, w1, w2, w3, w4, w5, w6, w7, w8, w9, w10, w11, w12, w13, w14, w15, w16, w17, w18, w19, w20, w21, w22, w23, w24, rfl⟩ := len25 h
  rw [← mixR_eq]
  exact runK_sound Cq_ok (rdr_18 _ _ _ _ _ _ _ _ _ _ _ _ _ _ _ _ _ _ _ _ _ _ _ _ _) trivial
theorem rdr_19 (w0 w1 w2 w3 w4 w5 w6 w7 w8 w9 w10 w11 w12 w13 w14 w15 w16 w17 w18 w19 w20 w21 w22 w23 w24 : Int) : runK Cq 5 147 [.rp tblT 0, .agg ([w0, w1, w2, w3, w4, w5, w6, w7, w8, w9, w10, w11, w12, w13, w14, w15, w16, w17, w18, w19, w20, w21, w22, w23, w24].map u64), i64 19] [] = some ([.agg ((mixR [w0, w1, w2, w3, w4, w5, w6, w7, w8, w9, w10, w11, w12, w13, w14, w15, w16, w17, w18, w19, w20, w21, w22, w23, w24] 9223372039002259466).map u64)], []) := by kernel_rfl
theorem rd_19 : RoundOk 19 9223372039002259466 := by
  intro w h
  obtain ⟨w0, w1, w2, w3, w4, w5, w6, w7, w8, w9, w10, w11, w12, w13, w14, w15, w16, w17, w18, w19, w20, w21, w22, w23, w24, rfl⟩ := len25 h
  rw [← mixR_eq]
  exact runK_sound Cq_ok (rdr_19 _ _ _ _ _ _ _ _ _ _ _ _ _ _ _ _ _ _ _ _ _ _ _ _ _) trivial
theorem rdr_20 (w0 w1 w2 w3 w4 w5 w6 w7 w8 w9 w10 w11 w12 w13 w14 w15 w16 w17 w18 w19 w20 w21 w22 w23 w24 : Int) : runK Cq 5 147 [.rp tblT 0, .agg ([w0, w1, w2, w3, w4, w5, w6, w7, w8, w9, w10, w11, w12, w13, w14, w15, w16, w17, w18, w19, w20, w21, w22, w23, w24].map u64), i64 20] [] = some ([.agg ((mixR [w0, w1, w2, w3, w4, w5, w6, w7, w8, w9, w10, w11, w12, w13, w14, w15, w16, w17, w18, w19, w20, w21, w22, w23, w24] 9223372039002292353).map u64)], []) := by kernel_rfl
theorem rd_20 : RoundOk 20 9223372039002292353 := by
  intro w h
  obtain ⟨w0, w1, w2, w3, w4, w5, w6, w7, w8, w9, w10, w11, w12, w13, w14, w15, w16, w17, w18, w19, w20, w21, w22, w23, w24, rfl⟩ := len25 h
  rw [← mixR_eq]
  exact runK_sound Cq_ok (rdr_20 _ _ _ _ _ _ _ _ _ _ _ _ _ _ _ _ _ _ _ _ _ _ _ _ _) trivial
theorem rdr_21 (w0 w1 w2 w3 w4 w5 w6 w7 w8 w9 w10 w11 w12 w13 w14 w15 w16 w17 w18 w19 w20 w21 w22 w23 w24 : Int) : runK Cq 5 147 [.rp tblT 0, .agg ([w0, w1, w2, w3, w4, w5, w6, w7, w8, w9, w10, w11, w12, w13, w14, w15, w16, w17, w18, w19, w20, w21, w22, w23, w24].map u64), i64 21] [] = some ([.agg ((mixR [w0, w1, w2, w3, w4, w5, w6, w7, w8, w9, w10, w11, w12, w13, w14, w15, w16, w17, w18, w19, w20, w21, w22, w23, w24] 9223372036854808704).map u64)], []) := by kernel_rfl
theorem rd_21 : RoundOk 21 9223372036854808704 := by
  intro w h
  obtain ⟨w0, w1, w2, w3, w4, w5, w6, w7, w8, w9, w10, w11, w12, w13, w14, w15, w16, w17, w18, w19, w20, w21, w22, w23, w24, rfl⟩ := len25 h
  rw [← mixR_eq]
  exact runK_sound Cq_ok (rdr_21 _ _ _ _ _ _ _ _ _ _ _ _ _ _ _ _ _ _ _ _ _ _ _ _ _) trivial
theorem rdr_22 (w0 w1 w2 w3 w4 w5 w6 w7 w8 w9 w10 w11 w12 w13 w14 w15 w16 w17 w18 w19 w20 w21 w22 w23 w24 : Int) : runK Cq 5 147 [.rp tblT 0, .agg ([w0, w1, w2, w3, w4, w5, w6, w7, w8, w9, w10, w11, w12, w13, w14, w15, w16, w17, w18, w19, w20, w21, w22, w23, w24].map u64), i64 22] [] = some ([.agg ((mixR [w0, w1, w2, w3, w4, w5, w6, w7, w8, w9, w10, w11, w12, w13, w14, w15, w16, w17, w18, w19, w20, w21, w22, w23, w24] 2147483649).map u64)], []) := by kernel_rfl
theorem rd_22 : RoundOk 22 2147483649 := by
  intro w h
  obtain ⟨w0, w1, w2, w3, w4, w5, w6, w7, w8, w9, w10, w11, w12, w13, w14, w15, w16, w17, w18, w19, w20, w21, w22, w23, w24, rfl⟩ := len25 h
  rw [← mixR_eq]
  exact runK_sound Cq_ok (rdr_22 _ _ _ _ _ _ _ _ _ _ _ _ _ _ _ _ _ _ _ _ _ _ _ _ _) trivial
theorem rdr_23 (w0 w1 w2 w3 w4 w5 w6 w7 w8 w9 w10 w11 w12 w13 w14 w15 w16 w17 w18 w19 w20 w21 w22 w23 w24 : Int) : runK Cq 5 147 [.rp tblT 0, .agg ([w0, w1, w2, w3, w4, w5, w6, w7, w8, w9, w10, w11, w12, w13, w14, w15, w16, w17, w18, w19, w20, w21, w22, w23, w24].map u64), i64 23] [] = some ([.agg ((mixR [w0, w1, w2, w3, w4, w5, w6, w7, w8, w9, w10, w11, w12, w13, w14, w15, w16, w17, w18, w19, w20, w21, w22, w23, w24] 9223372039002292232).map u64)], []) := by kernel_rfl
theorem rd_23 : RoundOk 23 9223372039002292232 := by
  intro w h
  obtain ⟨w0, w1, w2, w3, w4, w5, w6, w7, w8, w9, w10, w11, w12, w13, w14, w15, w16, w17, w18, w19, w20, w21, w22, w23, w24, rfl⟩ := len25 h
  rw [← mixR_eq]
  exact runK_sound Cq_ok (rdr_23 _ _ _ _ _ _ _ _ _ _ _ _ _ _ _ _ _ _ _ _ _ _ _ _ _) trivial

theorem rds : ∀ n : Nat, n < 24 → RoundOk n (csL.getD n 0)
  | 0, _ => rd_0
  | 1, _ => rd_1
  | 2, _ => rd_2
  | 3, _ => rd_3
  | 4, _ => rd_4
  | 5, _ => rd_5
  | 6, _ => rd_6
  | 7, _ => rd_7
  | 8, _ => rd_8
  | 9, _ => rd_9
  | 10, _ => rd_10
  | 11, _ => rd_11
  | 12, _ => rd_12
  | 13, _ => rd_13
  | 14, _ => rd_14
  | 15, _ => rd_15
  | 16, _ => rd_16
  | 17, _ => rd_17
  | 18, _ => rd_18
  | 19, _ => rd_19
  | 20, _ => rd_20
  | 21, _ => rd_21
  | 22, _ => rd_22
  | 23, _ => rd_23
  | n + 24, h => absurd h (by omega)

def natOf : Int → Nat
  | .ofNat n => n
  | .negSucc _ => 0

/-- Words, as natural numbers. -/
def usN : List T → Option (List Nat)
  | [] => some []
  | .int .u64 (.ofNat n) :: r => match Nat.blt n 18446744073709551616, usN r with
    | true, some l => some (n :: l)
    | _, _ => none
  | _ => none

theorem usN_spec : ∀ {ts : List T} {l : List Nat}, usN ts = some l → ts = (up l).map u64 ∧ lt64 l
  | [], l, h => by simp only [usN, Option.some.injEq] at h; subst h; exact ⟨rfl, by intro x hx; cases hx⟩
  | .int .u64 (.ofNat n) :: r, l, h => by
    simp only [usN] at h
    split at h
    · rename_i l' h1 h2
      injection h with h; subst h
      obtain ⟨a, b⟩ := usN_spec h2
      refine ⟨by rw [a]; rfl, fun x hx => ?_⟩
      rcases List.mem_cons.1 hx with rfl | hx
      · simpa [Nat.blt] using Nat.lt_of_lt_of_le (Nat.lt_succ_of_le (by simpa [Nat.blt] using h1)) (by omega)
      · exact b x hx
    · cases h

/-- The table, and a round, of what is known. -/
def KRef (f : FuncId) (ts : List T) : Option (List T) :=
  if Nat.beq f 147 then match ts with
    | [.rp t 0, .agg ws, .int .i64 (.ofNat n)] => match usN ws with
      | some l => if T.same t tblT && Nat.beq l.length 25 && Nat.blt n 24 then some [.agg (((mixQ l (csN.getD n 0)).map fun n => u64 (Int.ofNat n)))] else none
      | none => none
    | _ => none
  else if Nat.beq f 122 then match ts with
    | [] => some [tblT]
    | _ => none
  else none

theorem KRef_ok : ∀ f ts rs, KRef f ts = some rs → PCall Tryz.prog f ts rs := by
  intro f ts rs h
  unfold KRef at h
  split at h
  · rename_i hf
    have hf' : f = 147 := by simpa using hf
    subst hf'
    split at h
    · rename_i t ws n
      split at h
      · rename_i l hl
        split at h
        · rename_i hc
          simp only [Bool.and_eq_true, Nat.beq_eq] at hc
          obtain ⟨⟨h1, h2⟩, h3⟩ := hc
          have h3' : n < 24 := by simpa [Nat.blt] using Nat.lt_of_lt_of_le (Nat.lt_succ_of_le (by simpa [Nat.blt] using h3)) (by omega)
          injection h with h; subst h
          obtain ⟨rfl, hlt⟩ := usN_spec hl
          rw [T.same_eq h1]
          have hlen : (up l).length = 25 := by simp [up, h2]
          have hr := rds n h3' (up l) hlen
          have hc0 : csN.getD n 0 < 18446744073709551616 := by
            have : ∀ m : Fin 24, csN.getD m.1 0 < 18446744073709551616 := by decide
            exact this ⟨n, h3'⟩
          have hc1 : csL.getD n 0 = ((csN.getD n 0 : Nat) : Int) := by
            have : ∀ m : Fin 24, csL.getD m.1 0 = ((csN.getD m.1 0 : Nat) : Int) := by decide
            exact this ⟨n, h3'⟩
          rw [hc1, (mix_up hlt hc0).1, ← mixQ_eq] at hr
          have he : ((up (mixQ l (csN.getD n 0))).map u64) = (mixQ l (csN.getD n 0)).map fun n => u64 (Int.ofNat n) := by simp [up]
          rw [he] at hr
          exact hr
        · cases h
      · cases h
    · cases h
  · split at h
    · rename_i hf
      have hf' : f = 122 := by simpa using hf
      subst hf'
      split at h
      · injection h with h; subst h; exact runK_sound (C0_ok _) all_tbl trivial
      · cases h
    · cases h
end Go.HM.Kec
