/- CN: the reference's digest of 32, 53 and 63 bytes (printed by a small program). -/
import Derived.Test.YtgcibcndeikiiaaGreatDoorCnKR
set_option maxRecDepth 100000
namespace Go.HM.Cn
open Go.Proofs Go.HM.Kec

/-! all rounds, of words of which nothing is known -/

noncomputable def Cr : GCtx := { Cq with glob := fun _ _ => none, told := fun f => Nat.beq f 147 }
theorem Cr_ok : KOk Cr := ⟨names_ok, fun _ _ _ h => (by cases h), fun _ _ _ _ _ h => (by cases h)⟩
def gU (x : List Int) : List T := (List.range 25).map fun i => u64 (g x i)
theorem gU_eq {x : List Int} (h : x.length = 25) : gU x = x.map u64 := by
  obtain ⟨w0, w1, w2, w3, w4, w5, w6, w7, w8, w9, w10, w11, w12, w13, w14, w15, w16, w17, w18, w19, w20, w21, w22, w23, w24, rfl⟩ := len25 h
  rfl
theorem rounds_run (x0 x1 x2 x3 x4 x5 x6 x7 x8 x9 x10 x11 x12 x13 x14 x15 x16 x17 x18 x19 x20 x21 x22 x23 x24 : List Int) : runQ Cr 5 123 [.rp tblT 0, .agg (gU x0)] [] [[.agg (gU x1)], [.agg (gU x2)], [.agg (gU x3)], [.agg (gU x4)], [.agg (gU x5)], [.agg (gU x6)], [.agg (gU x7)], [.agg (gU x8)], [.agg (gU x9)], [.agg (gU x10)], [.agg (gU x11)], [.agg (gU x12)], [.agg (gU x13)], [.agg (gU x14)], [.agg (gU x15)], [.agg (gU x16)], [.agg (gU x17)], [.agg (gU x18)], [.agg (gU x19)], [.agg (gU x20)], [.agg (gU x21)], [.agg (gU x22)], [.agg (gU x23)], [.agg (gU x24)]] = some ([.agg (gU x24)], [PCall Tryz.prog 147 [.rp tblT 0, .agg (gU x23), i64 23] [.agg (gU x24)], PCall Tryz.prog 147 [.rp tblT 0, .agg (gU x22), i64 22] [.agg (gU x23)], PCall Tryz.prog 147 [.rp tblT 0, .agg (gU x21), i64 21] [.agg (gU x22)], PCall Tryz.prog 147 [.rp tblT 0, .agg (gU x20), i64 20] [.agg (gU x21)], PCall Tryz.prog 147 [.rp tblT 0, .agg (gU x19), i64 19] [.agg (gU x20)], PCall Tryz.prog 147 [.rp tblT 0, .agg (gU x18), i64 18] [.agg (gU x19)], PCall Tryz.prog 147 [.rp tblT 0, .agg (gU x17), i64 17] [.agg (gU x18)], PCall Tryz.prog 147 [.rp tblT 0, .agg (gU x16), i64 16] [.agg (gU x17)], PCall Tryz.prog 147 [.rp tblT 0, .agg (gU x15), i64 15] [.agg (gU x16)], PCall Tryz.prog 147 [.rp tblT 0, .agg (gU x14), i64 14] [.agg (gU x15)], PCall Tryz.prog 147 [.rp tblT 0, .agg (gU x13), i64 13] [.agg (gU x14)], PCall Tryz.prog 147 [.rp tblT 0, .agg (gU x12), i64 12] [.agg (gU x13)], PCall Tryz.prog 147 [.rp tblT 0, .agg (gU x11), i64 11] [.agg (gU x12)], PCall Tryz.prog 147 [.rp tblT 0, .agg (gU x10), i64 10] [.agg (gU x11)], PCall Tryz.prog 147 [.rp tblT 0, .agg (gU x9), i64 9] [.agg (gU x10)], PCall Tryz.prog 147 [.rp tblT 0, .agg (gU x8), i64 8] [.agg (gU x9)], PCall Tryz.prog 147 [.rp tblT 0, .agg (gU x7), i64 7] [.agg (gU x8)], PCall Tryz.prog 147 [.rp tblT 0, .agg (gU x6), i64 6] [.agg (gU x7)], PCall Tryz.prog 147 [.rp tblT 0, .agg (gU x5), i64 5] [.agg (gU x6)], PCall Tryz.prog 147 [.rp tblT 0, .agg (gU x4), i64 4] [.agg (gU x5)], PCall Tryz.prog 147 [.rp tblT 0, .agg (gU x3), i64 3] [.agg (gU x4)], PCall Tryz.prog 147 [.rp tblT 0, .agg (gU x2), i64 2] [.agg (gU x3)], PCall Tryz.prog 147 [.rp tblT 0, .agg (gU x1), i64 1] [.agg (gU x2)], PCall Tryz.prog 147 [.rp tblT 0, .agg (gU x0), i64 0] [.agg (gU x1)]]) := by kernel_rfl

theorem rounds_ok {w : List Int} (h : w.length = 25) : PCall Tryz.prog 123 [.rp tblT 0, .agg (w.map u64)] [.agg ((allI w).map u64)] := by
  have st : ∀ (n : Nat) (w : List Int), n < 24 → w.length = 25 → PCall Tryz.prog 147 [.rp tblT 0, .agg (w.map u64), i64 n] [.agg ((mixS w (csL.getD n 0)).map u64)] := fun n w hn hw => rds n hn w hw
  let f : Nat → List Int := fun n => (csL.take n).foldl mixS w
  have hl : ∀ n, n < 24 → (f n).length = 25 := by
    intro n hn
    cases n with
    | zero => exact h
    | succ n =>
      show ((csL.take (n + 1)).foldl mixS w).length = 25
      rw [List.take_add_one, List.foldl_append]
      have : n < csL.length := by simp [csL]; omega
      rw [List.getElem?_eq_getElem this]
      exact mixS_len _ _
  have hs : ∀ n, n < 24 → mixS (f n) (csL.getD n 0) = f (n + 1) := by
    intro n hn
    show _ = (csL.take (n + 1)).foldl mixS w
    have : n < csL.length := by simp [csL]; omega
    rw [List.take_add_one, List.foldl_append, List.getElem?_eq_getElem this, List.getD_eq_getElem?_getD, List.getElem?_eq_getElem this]
    rfl
  have go : ∀ n, n < 24 → PCall Tryz.prog 147 [.rp tblT 0, .agg (gU (f n)), i64 n] [.agg (gU (f (n + 1)))] := fun n hn => by
    have := st n (f n) hn (hl n hn)
    rw [hs n hn] at this
    rw [gU_eq (hl n hn), gU_eq (by rw [← hs n hn]; exact mixS_len _ _)]
    exact this
  have := runQ_sound Cr_ok (rounds_run (f 0) (f 1) (f 2) (f 3) (f 4) (f 5) (f 6) (f 7) (f 8) (f 9) (f 10) (f 11) (f 12) (f 13) (f 14) (f 15) (f 16) (f 17) (f 18) (f 19) (f 20) (f 21) (f 22) (f 23) (f 24)) ⟨go 23 (by decide), go 22 (by decide), go 21 (by decide), go 20 (by decide), go 19 (by decide), go 18 (by decide), go 17 (by decide), go 16 (by decide), go 15 (by decide), go 14 (by decide), go 13 (by decide), go 12 (by decide), go 11 (by decide), go 10 (by decide), go 9 (by decide), go 8 (by decide), go 7 (by decide), go 6 (by decide), go 5 (by decide), go 4 (by decide), go 3 (by decide), go 2 (by decide), go 1 (by decide), go 0 (by decide), trivial⟩
  rw [gU_eq (hl 0 (by decide)), gU_eq (by rw [← hs 23 (by decide)]; exact mixS_len _ _)] at this
  exact this

def intsU : List T → Option (List Int)
  | [] => some []
  | .int .u64 x :: r => match intsU r with
    | some l => some (x :: l)
    | none => none
  | _ => none

theorem intsU_spec : ∀ {ts : List T} {l : List Int}, intsU ts = some l → ts = l.map u64
  | [], l, h => by simp only [intsU, Option.some.injEq] at h; subst h; rfl
  | t :: ts, l, h => by
    unfold intsU at h
    split at h
    · cases ‹t :: ts = []›
    · rename_i x r e
      injection e with e1 e2
      subst e1; subst e2
      split at h
      · rename_i l' e
        injection h with h; subst h
        rw [intsU_spec e]; rfl
      · cases h
    · cases h

def KRs (f : FuncId) (ts : List T) : Option (List T) := match Nat.beq f 123 with
  | true => match ts with
    | [.rp t 0, .agg ws] => match intsU ws with
      | some l => match T.same t tblT && Nat.beq l.length 25 with
        | true => some [.agg ((List.range 25).map fun i => u64 (g (allI l) i))]
        | false => none
      | none => none
    | _ => none
  | false => KRef f ts

theorem KRs_ok : ∀ f ts rs, KRs f ts = some rs → PCall Tryz.prog f ts rs := by
  intro f ts rs h
  unfold KRs at h
  split at h
  · rename_i hf
    rw [Nat.eq_of_beq_eq_true hf]
    split at h
    · rename_i t ws
      split at h
      · rename_i l hl
        split at h
        · rename_i hc
          simp only [Bool.and_eq_true, Nat.beq_eq] at hc
          injection h with h; subst h
          rw [intsU_spec hl, T.same_eq hc.1]
          have hr := rounds_ok hc.2
          obtain ⟨w0, w1, w2, w3, w4, w5, w6, w7, w8, w9, w10, w11, w12, w13, w14, w15, w16, w17, w18, w19, w20, w21, w22, w23, w24, e⟩ := len25 (allI_len hc.2)
          rw [e] at hr ⊢
          exact hr
        · cases h
      · cases h
    · cases h
  · exact KRef_ok _ _ _ h

/-! what is laid behind the bytes -/

def padB (l : List Int) : List Int := l ++ 6 :: (List.replicate (134 - l.length % 136) 0 ++ [128])

theorem add_zero {w : List Nat} (h : lt64 w) (k : Nat) : addW (up w) k 0 = up w := by
  have := (add_up h k (b := 0) (by decide)).1
  have e : addN w k 0 = w := by
    unfold addN
    have : Nat.xor (gN w (k / 8)) (Nat.shiftLeft 0 (8 * (k % 8))) = gN w (k / 8) := by
      have h0 : Nat.shiftLeft 0 (8 * (k % 8)) = 0 := Nat.zero_shiftLeft _
      rw [h0]; exact Nat.xor_zero _
    rw [this]
    unfold gN
    by_cases hk : k / 8 < w.length
    · rw [List.getD_eq_getElem?_getD, List.getElem?_eq_getElem hk]; simp
    · exact List.set_eq_of_length_le (by omega)
  rw [e] at this
  exact this

theorem zeros_in : ∀ (n : Nat) {w : List Nat} (k : Nat), lt64 w → k + n ≤ 135 → absorb (up w, k) (List.replicate n 0) = (up w, k + n)
  | 0, w, k, _, _ => rfl
  | n + 1, w, k, h, hk => by
    show absorb (stepB (up w, k) 0) (List.replicate n 0) = _
    unfold stepB
    rw [if_neg (by show ¬ k = 135; omega)]
    show absorb (addW (up w) k 0, k + 1) _ = _
    rw [add_zero h, zeros_in n (k + 1) h (by omega)]
    congr 1; omega

theorem step_snd (w : List Nat) (k b : Nat) : (stepN (w, k) b).2 = if k = 135 then 0 else k + 1 := by
  unfold stepN
  simp only [forceN_eq]
  by_cases hk : k = 135
  · subst hk; rfl
  · have hkb : Nat.beq k 135 = false := by
      cases e : Nat.beq k 135 with
      | false => rfl
      | true => exact absurd (Nat.eq_of_beq_eq_true e) hk
    simp only [hk, if_false, hkb]

theorem place_in : ∀ (l : List Nat) (p : List Nat × Nat), p.2 < 136 → (l.foldl stepN p).2 = (p.2 + l.length) % 136
  | [], p, h => (Nat.mod_eq_of_lt h).symm
  | b :: l, (w, k), h => by
    have h : k < 136 := h
    have e := step_snd w k b
    rw [List.foldl_cons, place_in l _ (by rw [e]; split <;> omega), e]
    simp only [List.length_cons]
    split <;> omega

theorem pad_sha {l : List Int} (hb : l.all isByteI = true) (hk : l.length % 136 < 135) : digB (absorb (w0L, 0) (padB l)).1 = sha l := by
  obtain ⟨u1, u2⟩ := up_toNat hb
  generalize l.map Int.toNat = m at u1 u2
  subst u1
  have hl : (up m).length = m.length := by simp [up]
  rw [hl] at hk
  unfold padB sha
  rw [hl, absorb_append]
  have h0 : w0L = up w0N := by decide
  rw [h0]
  obtain ⟨a1, a2⟩ := fold_up m (w := w0N) 0 (by intro x hx; revert x; decide) u2
  have a3 := place_in m (w0N, 0) (by show 0 < 136; decide)
  rw [a1]
  generalize m.foldl stepN (w0N, 0) = p at a2 a3
  obtain ⟨w, k⟩ := p
  simp only at a2 a3 ⊢
  have hk' : k = m.length % 136 := by rw [a3]; simp
  rw [← hk'] at hk ⊢
  obtain ⟨b1, b2⟩ := add_up a2 k (b := 6) (by decide)
  have s1 : absorb (up w, k) (6 :: (List.replicate (134 - k) 0 ++ [128])) = absorb (up (addN w k 6), k + 1) (List.replicate (134 - k) 0 ++ [128]) := by
    show absorb (stepB (up w, k) 6) _ = _
    unfold stepB
    rw [if_neg (by show ¬ k = 135; omega)]
    show absorb (addW (up w) k ((6 : Nat) : Int), k + 1) _ = _
    rw [b1]
  rw [s1, absorb_append, zeros_in _ _ b2 (by omega)]
  have e : k + 1 + (134 - k) = 135 := by omega
  rw [e]
  show digB (stepB (up (addN w k 6), 135) 128).1 = digB (endW (up w) k)
  unfold stepB endW
  rw [if_pos rfl]
  show _ = digB (allI (addW (addW (up w) k ((6 : Nat) : Int)) 135 128))
  rw [b1]

noncomputable def Cs : GCtx := { P := Tryz.prog, pr := fun o => pureCall Tryz.prog [] [] [] o || callTo [123, 147] o, K := KRs, keep := fun _ _ => false, frz := fun _ _ => [], item := fun _ => some (.res false), glob := fun _ _ => none, KG := fun _ _ _ => none, fuel := 1000, vec := appAt ["ref.go:118", "ref.go:120"] }
theorem Cs_ok : KOk Cs := ⟨names_ok, KRs_ok, fun _ _ _ _ _ h => (by cases h)⟩

theorem cons_of {l : List Int} {n : Nat} (h : l.length = n + 1) : ∃ b r, l = b :: r ∧ r.length = n := by
  cases l with
  | nil => cases h
  | cons b r => exact ⟨b, r, rfl, by simpa using h⟩

/-- The digest of lists of one length. -/
noncomputable def SumOk (n : Nat) : Prop := ∀ (x : Bool) (l : List Int), l.length = n → PCall Tryz.prog 72 [.bl x l] [.ba 32 (digB (absorb (w0L, 0) (padB l)).1)]

end Go.HM.Cn

set_option maxRecDepth 1000000
namespace Go.HM.Cn
open Go.Proofs Go.HM.Kec

theorem sum_run_32 (x : Bool) (b0 b1 b2 b3 b4 b5 b6 b7 b8 b9 b10 b11 b12 b13 b14 b15 b16 b17 b18 b19 b20 b21 b22 b23 b24 b25 b26 b27 b28 b29 b30 b31 : Int) : runK Cs 30 72 [.bl x [b0, b1, b2, b3, b4, b5, b6, b7, b8, b9, b10, b11, b12, b13, b14, b15, b16, b17, b18, b19, b20, b21, b22, b23, b24, b25, b26, b27, b28, b29, b30, b31]] [] = some ([.ba 32 (digB (absorb (w0L, 0) (padB [b0, b1, b2, b3, b4, b5, b6, b7, b8, b9, b10, b11, b12, b13, b14, b15, b16, b17, b18, b19, b20, b21, b22, b23, b24, b25, b26, b27, b28, b29, b30, b31])).1)], []) := by kernel_rfl
theorem sum_ok_32 : SumOk 32 := by
  intro x l0 h0
  obtain ⟨b0, l1, rfl, h1⟩ := cons_of h0
  obtain ⟨b1, l2, rfl, h2⟩ := cons_of h1
  obtain ⟨b2, l3, rfl, h3⟩ := cons_of h2
  obtain ⟨b3, l4, rfl, h4⟩ := cons_of h3
  obtain ⟨b4, l5, rfl, h5⟩ := cons_of h4
  obtain ⟨b5, l6, rfl, h6⟩ := cons_of h5
  obtain ⟨b6, l7, rfl, h7⟩ := cons_of h6
  obtain ⟨b7, l8, rfl, h8⟩ := cons_of h7
  obtain ⟨b8, l9, rfl, h9⟩ := cons_of h8
  obtain ⟨b9, l10, rfl, h10⟩ := cons_of h9
  obtain ⟨b10, l11, rfl, h11⟩ := cons_of h10
  obtain ⟨b11, l12, rfl, h12⟩ := cons_of h11
  obtain ⟨b12, l13, rfl, h13⟩ := cons_of h12
  obtain ⟨b13, l14, rfl, h14⟩ := cons_of h13
  obtain ⟨b14, l15, rfl, h15⟩ := cons_of h14
  obtain ⟨b15, l16, rfl, h16⟩ := cons_of h15
  obtain ⟨b16, l17, rfl, h17⟩ := cons_of h16
  obtain ⟨b17, l18, rfl, h18⟩ := cons_of h17
  obtain ⟨b18, l19, rfl, h19⟩ := cons_of h18
  obtain ⟨b19, l20, rfl, h20⟩ := cons_of h19
  obtain ⟨b20, l21, rfl, h21⟩ := cons_of h20
  obtain ⟨b21, l22, rfl, h22⟩ := cons_of h21
  obtain ⟨b22, l23, rfl, h23⟩ := cons_of h22
  obtain ⟨b23, l24, rfl, h24⟩ := cons_of h23
  obtain ⟨b24, l25, rfl, h25⟩ := cons_of h24
  obtain ⟨b25, l26, rfl, h26⟩ := cons_of h25
  obtain ⟨b26, l27, rfl, h27⟩ := cons_of h26
  obtain ⟨b27, l28, rfl, h28⟩ := cons_of h27
  obtain ⟨b28, l29, rfl, h29⟩ := cons_of h28
  obtain ⟨b29, l30, rfl, h30⟩ := cons_of h29
  obtain ⟨b30, l31, rfl, h31⟩ := cons_of h30
  obtain ⟨b31, l32, rfl, h32⟩ := cons_of h31
  obtain rfl := List.eq_nil_of_length_eq_zero h32
  exact runK_sound Cs_ok (sum_run_32 x b0 b1 b2 b3 b4 b5 b6 b7 b8 b9 b10 b11 b12 b13 b14 b15 b16 b17 b18 b19 b20 b21 b22 b23 b24 b25 b26 b27 b28 b29 b30 b31) trivial
end Go.HM.Cn

set_option maxRecDepth 1000000
namespace Go.HM.Cn
open Go.Proofs Go.HM.Kec

theorem sum_run_53 (x : Bool) (b0 b1 b2 b3 b4 b5 b6 b7 b8 b9 b10 b11 b12 b13 b14 b15 b16 b17 b18 b19 b20 b21 b22 b23 b24 b25 b26 b27 b28 b29 b30 b31 b32 b33 b34 b35 b36 b37 b38 b39 b40 b41 b42 b43 b44 b45 b46 b47 b48 b49 b50 b51 b52 : Int) : runK Cs 30 72 [.bl x [b0, b1, b2, b3, b4, b5, b6, b7, b8, b9, b10, b11, b12, b13, b14, b15, b16, b17, b18, b19, b20, b21, b22, b23, b24, b25, b26, b27, b28, b29, b30, b31, b32, b33, b34, b35, b36, b37, b38, b39, b40, b41, b42, b43, b44, b45, b46, b47, b48, b49, b50, b51, b52]] [] = some ([.ba 32 (digB (absorb (w0L, 0) (padB [b0, b1, b2, b3, b4, b5, b6, b7, b8, b9, b10, b11, b12, b13, b14, b15, b16, b17, b18, b19, b20, b21, b22, b23, b24, b25, b26, b27, b28, b29, b30, b31, b32, b33, b34, b35, b36, b37, b38, b39, b40, b41, b42, b43, b44, b45, b46, b47, b48, b49, b50, b51, b52])).1)], []) := by kernel_rfl
theorem sum_ok_53 : SumOk 53 := by
  intro x l0 h0
  obtain ⟨b0, l1, rfl, h1⟩ := cons_of h0
  obtain ⟨b1, l2, rfl, h2⟩ := cons_of h1
  obtain ⟨b2, l3, rfl, h3⟩ := cons_of h2
  obtain ⟨b3, l4, rfl, h4⟩ := cons_of h3
  obtain ⟨b4, l5, rfl, h5⟩ := cons_of h4
  obtain ⟨b5, l6, rfl, h6⟩ := cons_of h5
  obtain ⟨b6, l7, rfl, h7⟩ := cons_of h6
  obtain ⟨b7, l8, rfl, h8⟩ := cons_of h7
  obtain ⟨b8, l9, rfl, h9⟩ := cons_of h8
  obtain ⟨b9, l10, rfl, h10⟩ := cons_of h9
  obtain ⟨b10, l11, rfl, h11⟩ := cons_of h10
  obtain ⟨b11, l12, rfl, h12⟩ := cons_of h11
  obtain ⟨b12, l13, rfl, h13⟩ := cons_of h12
  obtain ⟨b13, l14, rfl, h14⟩ := cons_of h13
  obtain ⟨b14, l15, rfl, h15⟩ := cons_of h14
  obtain ⟨b15, l16, rfl, h16⟩ := cons_of h15
  obtain ⟨b16, l17, rfl, h17⟩ := cons_of h16
  obtain ⟨b17, l18, rfl, h18⟩ := cons_of h17
  obtain ⟨b18, l19, rfl, h19⟩ := cons_of h18
  obtain ⟨b19, l20, rfl, h20⟩ := cons_of h19
  obtain ⟨b20, l21, rfl, h21⟩ := cons_of h20
  obtain ⟨b21, l22, rfl, h22⟩ := cons_of h21
  obtain ⟨b22, l23, rfl, h23⟩ := cons_of h22
  obtain ⟨b23, l24, rfl, h24⟩ := cons_of h23
  obtain ⟨b24, l25, rfl, h25⟩ := cons_of h24
  obtain ⟨b25, l26, rfl, h26⟩ := cons_of h25
  obtain ⟨b26, l27, rfl, h27⟩ := cons_of h26
  obtain ⟨b27, l28, rfl, h28⟩ := cons_of h27
  obtain ⟨b28, l29, rfl, h29⟩ := cons_of h28
  obtain ⟨b29, l30, rfl, h30⟩ := cons_of h29
  obtain ⟨b30, l31, rfl, h31⟩ := cons_of h30
  obtain ⟨b31, l32, rfl, h32⟩ := cons_of h31
  obtain ⟨b32, l33, rfl, h33⟩ := cons_of h32
  obtain ⟨b33, l34, rfl, h34⟩ := cons_of h33
  obtain ⟨b34, l35, rfl, h35⟩ := cons_of h34
  obtain ⟨b35, l36, rfl, h36⟩ := cons_of h35
  obtain ⟨b36, l37, rfl, h37⟩ := cons_of h36
  obtain ⟨b37, l38, rfl, h38⟩ := cons_of h37
  obtain ⟨b38, l39, rfl, h39⟩ := cons_of h38
  obtain ⟨b39, l40, rfl, h40⟩ := cons_of h39
  obtain ⟨b40, l41, rfl, h41⟩ := cons_of h40
  obtain ⟨b41, l42, rfl, h42⟩ := cons_of h41
  obtain ⟨b42, l43, rfl, h43⟩ := cons_of h42
  obtain ⟨b43, l44, rfl, h44⟩ := cons_of h43
  obtain ⟨b44, l45, rfl, h45⟩ := cons_of h44
  obtain ⟨b45, l46, rfl, h46⟩ := cons_of h45
  obtain ⟨b46, l47, rfl, h47⟩ := cons_of h46
  obtain ⟨b47, l48, rfl, h48⟩ := cons_of h47
  obtain ⟨b48, l49, rfl, h49⟩ := cons_of h48
  obtain ⟨b49, l50, rfl, h50⟩ := cons_of h49
  obtain ⟨b50, l51, rfl, h51⟩ := cons_of h50
  obtain ⟨b51, l52, rfl, h52⟩ := cons_of h51
  obtain ⟨b52, l53, rfl, h53⟩ := cons_of h52
  obtain rfl := List.eq_nil_of_length_eq_zero h53
  exact runK_sound Cs_ok (sum_run_53 x b0 b1 b2 b3 b4 b5 b6 b7 b8 b9 b10 b11 b12 b13 b14 b15 b16 b17 b18 b19 b20 b21 b22 b23 b24 b25 b26 b27 b28 b29 b30 b31 b32 b33 b34 b35 b36 b37 b38 b39 b40 b41 b42 b43 b44 b45 b46 b47 b48 b49 b50 b51 b52) trivial
end Go.HM.Cn

set_option maxRecDepth 1000000
namespace Go.HM.Cn
open Go.Proofs Go.HM.Kec

theorem sum_run_63 (x : Bool) (b0 b1 b2 b3 b4 b5 b6 b7 b8 b9 b10 b11 b12 b13 b14 b15 b16 b17 b18 b19 b20 b21 b22 b23 b24 b25 b26 b27 b28 b29 b30 b31 b32 b33 b34 b35 b36 b37 b38 b39 b40 b41 b42 b43 b44 b45 b46 b47 b48 b49 b50 b51 b52 b53 b54 b55 b56 b57 b58 b59 b60 b61 b62 : Int) : runK Cs 30 72 [.bl x [b0, b1, b2, b3, b4, b5, b6, b7, b8, b9, b10, b11, b12, b13, b14, b15, b16, b17, b18, b19, b20, b21, b22, b23, b24, b25, b26, b27, b28, b29, b30, b31, b32, b33, b34, b35, b36, b37, b38, b39, b40, b41, b42, b43, b44, b45, b46, b47, b48, b49, b50, b51, b52, b53, b54, b55, b56, b57, b58, b59, b60, b61, b62]] [] = some ([.ba 32 (digB (absorb (w0L, 0) (padB [b0, b1, b2, b3, b4, b5, b6, b7, b8, b9, b10, b11, b12, b13, b14, b15, b16, b17, b18, b19, b20, b21, b22, b23, b24, b25, b26, b27, b28, b29, b30, b31, b32, b33, b34, b35, b36, b37, b38, b39, b40, b41, b42, b43, b44, b45, b46, b47, b48, b49, b50, b51, b52, b53, b54, b55, b56, b57, b58, b59, b60, b61, b62])).1)], []) := by kernel_rfl
theorem sum_ok_63 : SumOk 63 := by
  intro x l0 h0
  obtain ⟨b0, l1, rfl, h1⟩ := cons_of h0
  obtain ⟨b1, l2, rfl, h2⟩ := cons_of h1
  obtain ⟨b2, l3, rfl, h3⟩ := cons_of h2
  obtain ⟨b3, l4, rfl, h4⟩ := cons_of h3
  obtain ⟨b4, l5, rfl, h5⟩ := cons_of h4
  obtain ⟨b5, l6, rfl, h6⟩ := cons_of h5
  obtain ⟨b6, l7, rfl, h7⟩ := cons_of h6
  obtain ⟨b7, l8, rfl, h8⟩ := cons_of h7
  obtain ⟨b8, l9, rfl, h9⟩ := cons_of h8
  obtain ⟨b9, l10, rfl, h10⟩ := cons_of h9
  obtain ⟨b10, l11, rfl, h11⟩ := cons_of h10
  obtain ⟨b11, l12, rfl, h12⟩ := cons_of h11
  obtain ⟨b12, l13, rfl, h13⟩ := cons_of h12
  obtain ⟨b13, l14, rfl, h14⟩ := cons_of h13
  obtain ⟨b14, l15, rfl, h15⟩ := cons_of h14
  obtain ⟨b15, l16, rfl, h16⟩ := cons_of h15
  obtain ⟨b16, l17, rfl, h17⟩ := cons_of h16
  obtain ⟨b17, l18, rfl, h18⟩ := cons_of h17
  obtain ⟨b18, l19, rfl, h19⟩ := cons_of h18
  obtain ⟨b19, l20, rfl, h20⟩ := cons_of h19
  obtain ⟨b20, l21, rfl, h21⟩ := cons_of h20
  obtain ⟨b21, l22, rfl, h22⟩ := cons_of h21
  obtain ⟨b22, l23, rfl, h23⟩ := cons_of h22
  obtain ⟨b23, l24, rfl, h24⟩ := cons_of h23
  obtain ⟨b24, l25, rfl, h25⟩ := cons_of h24
  obtain ⟨b25, l26, rfl, h26⟩ := cons_of h25
  obtain ⟨b26, l27, rfl, h27⟩ := cons_of h26
  obtain ⟨b27, l28, rfl, h28⟩ := cons_of h27
  obtain ⟨b28, l29, rfl, h29⟩ := cons_of h28
  obtain ⟨b29, l30, rfl, h30⟩ := cons_of h29
  obtain ⟨b30, l31, rfl, h31⟩ := cons_of h30
  obtain ⟨b31, l32, rfl, h32⟩ := cons_of h31
  obtain ⟨b32, l33, rfl, h33⟩ := cons_of h32
  obtain ⟨b33, l34, rfl, h34⟩ := cons_of h33
  obtain ⟨b34, l35, rfl, h35⟩ := cons_of h34
  obtain ⟨b35, l36, rfl, h36⟩ := cons_of h35
  obtain ⟨b36, l37, rfl, h37⟩ := cons_of h36
  obtain ⟨b37, l38, rfl, h38⟩ := cons_of h37
  obtain ⟨b38, l39, rfl, h39⟩ := cons_of h38
  obtain ⟨b39, l40, rfl, h40⟩ := cons_of h39
  obtain ⟨b40, l41, rfl, h41⟩ := cons_of h40
  obtain ⟨b41, l42, rfl, h42⟩ := cons_of h41
  obtain ⟨b42, l43, rfl, h43⟩ := cons_of h42
  obtain ⟨b43, l44, rfl, h44⟩ := cons_of h43
  obtain ⟨b44, l45, rfl, h45⟩ := cons_of h44
  obtain ⟨b45, l46, rfl, h46⟩ := cons_of h45
  obtain ⟨b46, l47, rfl, h47⟩ := cons_of h46
  obtain ⟨b47, l48, rfl, h48⟩ := cons_of h47
  obtain ⟨b48, l49, rfl, h49⟩ := cons_of h48
  obtain ⟨b49, l50, rfl, h50⟩ := cons_of h49
  obtain ⟨b50, l51, rfl, h51⟩ := cons_of h50
  obtain ⟨b51, l52, rfl, h52⟩ := cons_of h51
  obtain ⟨b52, l53, rfl, h53⟩ := cons_of h52
  obtain ⟨b53, l54, rfl, h54⟩ := cons_of h53
  obtain ⟨b54, l55, rfl, h55⟩ := cons_of h54
  obtain ⟨b55, l56, rfl, h56⟩ := cons_of h55
  obtain ⟨b56, l57, rfl, h57⟩ := cons_of h56
  obtain ⟨b57, l58, rfl, h58⟩ := cons_of h57
  obtain ⟨b58, l59, rfl, h59⟩ := cons_of h58
  obtain ⟨b59, l60, rfl, h60⟩ := cons_of h59
  obtain ⟨b60, l61, rfl, h61⟩ := cons_of h60
  obtain ⟨b61, l62, rfl, h62⟩ := cons_of h61
  obtain ⟨b62, l63, rfl, h63⟩ := cons_of h62
  obtain rfl := List.eq_nil_of_length_eq_zero h63
  exact runK_sound Cs_ok (sum_run_63 x b0 b1 b2 b3 b4 b5 b6 b7 b8 b9 b10 b11 b12 b13 b14 b15 b16 b17 b18 b19 b20 b21 b22 b23 b24 b25 b26 b27 b28 b29 b30 b31 b32 b33 b34 b35 b36 b37 b38 b39 b40 b41 b42 b43 b44 b45 b46 b47 b48 b49 b50 b51 b52 b53 b54 b55 b56 b57 b58 b59 b60 b61 b62) trivial
end Go.HM.Cn
