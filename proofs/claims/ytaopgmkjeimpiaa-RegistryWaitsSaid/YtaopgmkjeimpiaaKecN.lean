/- KEC, part N: the digest, reckoned with natural numbers: quick. -/
import Derived.Test.YtaopgmkjeimpiaaKecE
import Derived.Test.YtaopgmkjeimpiaaHnK
set_option maxRecDepth 100000
namespace Go.HM.Kec

def rotN (x k : Nat) : Nat := Nat.lor (Nat.mod (Nat.shiftLeft x k) 18446744073709551616) (Nat.shiftRight x (64 - k))
def andnN (a b : Nat) : Nat := Nat.land a (18446744073709551615 - b)
def gN (l : List Nat) (i : Nat) : Nat := l.getD i 0
def colN (w : List Nat) (x : Nat) : Nat := Nat.xor (Nat.xor (Nat.xor (Nat.xor (gN w x) (gN w (x + 5))) (gN w (x + 10))) (gN w (x + 15))) (gN w (x + 20))
def sumN (cs : List Nat) (x : Nat) : Nat := Nat.xor (gN cs ((x + 4) % 5)) (rotN (gN cs ((x + 1) % 5)) 1)

/-- Numbers, looked at first. -/
def forceNs {α : Type} : List Nat → (List Nat → α) → α
  | [], k => k []
  | x :: l, k => forceN x fun x => forceNs l fun l => k (x :: l)

theorem forceNs_eq {α : Type} : ∀ (l : List Nat) (k : List Nat → α), forceNs l k = k l
  | [], k => rfl
  | x :: l, k => by rw [forceNs, forceN_eq, forceNs_eq l]

def mixN (w : List Nat) (c : Nat) : List Nat :=
  forceNs ((List.range 5).map (colN w)) fun cs =>
  forceNs ((List.range 5).map (sumN cs)) fun ss =>
  forceNs (frm.map fun p => rotN (Nat.xor (gN w p.1) (gN ss (p.1 % 5))) p.2) fun b =>
  forceNs ((List.range 25).map fun j => Nat.xor (gN b j) (andnN (gN b (j / 5 * 5 + (j + 2) % 5)) (gN b (j / 5 * 5 + (j + 1) % 5)))) fun r =>
  match r with
  | x :: l => forceN (Nat.xor x c) fun y => y :: l
  | [] => []

/-- A round, its 25 numbers by name. -/
def mixQ (w : List Nat) (c : Nat) : List Nat := match w with
  | [w0, w1, w2, w3, w4, w5, w6, w7, w8, w9, w10, w11, w12, w13, w14, w15, w16, w17, w18, w19, w20, w21, w22, w23, w24] =>
    forceNs [Nat.xor (Nat.xor (Nat.xor (Nat.xor w0 w5) w10) w15) w20, Nat.xor (Nat.xor (Nat.xor (Nat.xor w1 w6) w11) w16) w21, Nat.xor (Nat.xor (Nat.xor (Nat.xor w2 w7) w12) w17) w22, Nat.xor (Nat.xor (Nat.xor (Nat.xor w3 w8) w13) w18) w23, Nat.xor (Nat.xor (Nat.xor (Nat.xor w4 w9) w14) w19) w24] fun cs => match cs with
    | [c0, c1, c2, c3, c4] =>
      forceNs [Nat.xor c4 (rotN c1 1), Nat.xor c0 (rotN c2 1), Nat.xor c1 (rotN c3 1), Nat.xor c2 (rotN c4 1), Nat.xor c3 (rotN c0 1)] fun ss => match ss with
      | [s0, s1, s2, s3, s4] =>
        forceNs [rotN (Nat.xor w0 s0) 0, rotN (Nat.xor w6 s1) 44, rotN (Nat.xor w12 s2) 43, rotN (Nat.xor w18 s3) 21, rotN (Nat.xor w24 s4) 14, rotN (Nat.xor w3 s3) 28, rotN (Nat.xor w9 s4) 20, rotN (Nat.xor w10 s0) 3, rotN (Nat.xor w16 s1) 45, rotN (Nat.xor w22 s2) 61, rotN (Nat.xor w1 s1) 1, rotN (Nat.xor w7 s2) 6, rotN (Nat.xor w13 s3) 25, rotN (Nat.xor w19 s4) 8, rotN (Nat.xor w20 s0) 18, rotN (Nat.xor w4 s4) 27, rotN (Nat.xor w5 s0) 36, rotN (Nat.xor w11 s1) 10, rotN (Nat.xor w17 s2) 15, rotN (Nat.xor w23 s3) 56, rotN (Nat.xor w2 s2) 62, rotN (Nat.xor w8 s3) 55, rotN (Nat.xor w14 s4) 39, rotN (Nat.xor w15 s0) 41, rotN (Nat.xor w21 s1) 2] fun b => match b with
        | [b0, b1, b2, b3, b4, b5, b6, b7, b8, b9, b10, b11, b12, b13, b14, b15, b16, b17, b18, b19, b20, b21, b22, b23, b24] =>
          forceNs [Nat.xor (Nat.xor b0 (andnN b2 b1)) c, Nat.xor b1 (andnN b3 b2), Nat.xor b2 (andnN b4 b3), Nat.xor b3 (andnN b0 b4), Nat.xor b4 (andnN b1 b0), Nat.xor b5 (andnN b7 b6), Nat.xor b6 (andnN b8 b7), Nat.xor b7 (andnN b9 b8), Nat.xor b8 (andnN b5 b9), Nat.xor b9 (andnN b6 b5), Nat.xor b10 (andnN b12 b11), Nat.xor b11 (andnN b13 b12), Nat.xor b12 (andnN b14 b13), Nat.xor b13 (andnN b10 b14), Nat.xor b14 (andnN b11 b10), Nat.xor b15 (andnN b17 b16), Nat.xor b16 (andnN b18 b17), Nat.xor b17 (andnN b19 b18), Nat.xor b18 (andnN b15 b19), Nat.xor b19 (andnN b16 b15), Nat.xor b20 (andnN b22 b21), Nat.xor b21 (andnN b23 b22), Nat.xor b22 (andnN b24 b23), Nat.xor b23 (andnN b20 b24), Nat.xor b24 (andnN b21 b20)] fun r => r
        | _ => []
      | _ => []
    | _ => []
  | w => mixN w c

theorem mixQ_eq (w : List Nat) (c : Nat) : mixQ w c = mixN w c := by
  unfold mixQ
  split
  · unfold mixN
    simp only [forceNs_eq, forceN_eq]
    kernel_rfl
  · rfl

def csN : List Nat := [1, 32898, 9223372036854808714, 9223372039002292224, 32907, 2147483649, 9223372039002292353, 9223372036854808585, 138, 136, 2147516425, 2147483658, 2147516555, 9223372036854775947, 9223372036854808713, 9223372036854808579, 9223372036854808578, 9223372036854775936, 32778, 9223372039002259466, 9223372039002292353, 9223372036854808704, 2147483649, 9223372039002292232]

def allN (w : List Nat) : List Nat := csN.foldl mixQ w
def addN (w : List Nat) (k b : Nat) : List Nat := w.set (k / 8) (Nat.xor (gN w (k / 8)) (Nat.shiftLeft b (8 * (k % 8))))
def stepN (p : List Nat × Nat) (b : Nat) : List Nat × Nat := match Nat.beq p.2 135 with
  | true => (allN (addN p.1 135 b), 0)
  | false => forceN p.2 fun k => (addN p.1 k b, k + 1)
def endN (w : List Nat) (k : Nat) : List Nat := allN (addN (addN w k 6) 135 128)
def digN (w : List Nat) : List Nat := (List.range 32).map fun i => Nat.mod (Nat.shiftRight (gN w (i / 8)) (8 * (i % 8))) 256
def w0N : List Nat := [0, 0, 0, 0, 0, 0, 0, 0, 0, 0, 0, 0, 0, 0, 0, 0, 0, 0, 0, 0, 0, 0, 0, 0, 0]
def shaN (l : List Nat) : List Nat := match l.foldl stepN (w0N, 0) with
  | (w, k) => forceNs (digN (endN w k)) fun r => r

/-! It comes to the same -/

def up (l : List Nat) : List Int := l.map Int.ofNat
def lt64 (l : List Nat) : Prop := ∀ x ∈ l, x < 18446744073709551616

theorem wrapU {m : Nat} : IntKind.u64.wrap (m : Int) = ((m % 18446744073709551616 : Nat) : Int) := by
  unfold IntKind.wrap
  simp [IntKind.signed, IntKind.bits, BitVec.toNat_ofInt]

theorem g_up (l : List Nat) (i : Nat) : g (up l) i = (gN l i : Int) := by
  unfold g gN up
  simp only [List.getD_eq_getElem?_getD, List.getElem?_map]
  cases l[i]? <;> rfl

theorem gN_lt {l : List Nat} (h : lt64 l) (i : Nat) : gN l i < 18446744073709551616 := by
  unfold gN
  simp only [List.getD_eq_getElem?_getD]
  cases e : l[i]? with
  | none => simp
  | some x => exact h x (List.mem_of_getElem? e)

theorem xor_lt {a b : Nat} (ha : a < 18446744073709551616) (hb : b < 18446744073709551616) : Nat.xor a b < 18446744073709551616 := Nat.xor_lt_two_pow (n := 64) ha hb
theorem or_lt {a b : Nat} (ha : a < 18446744073709551616) (hb : b < 18446744073709551616) : Nat.lor a b < 18446744073709551616 := Nat.or_lt_two_pow (n := 64) ha hb

theorem ofInt_nat (m : Nat) : BitVec.ofInt 64 (m : Int) = BitVec.ofNat 64 m := by
  apply BitVec.eq_of_toNat_eq
  simp

theorem xorI_up {a b : Nat} (ha : a < 18446744073709551616) (hb : b < 18446744073709551616) : xorI (a : Int) (b : Int) = (Nat.xor a b : Int) := by
  unfold xorI
  rw [ofInt_nat, ofInt_nat, wrapU, BitVec.toNat_xor, BitVec.toNat_ofNat, BitVec.toNat_ofNat, Nat.mod_eq_of_lt (a := a) ha, Nat.mod_eq_of_lt (a := b) hb]
  congr 1
  exact Nat.mod_eq_of_lt (xor_lt ha hb)

theorem orI_up {a b : Nat} (ha : a < 18446744073709551616) (hb : b < 18446744073709551616) : orI (a : Int) (b : Int) = (Nat.lor a b : Int) := by
  unfold orI
  rw [ofInt_nat, ofInt_nat, wrapU, BitVec.toNat_or, BitVec.toNat_ofNat, BitVec.toNat_ofNat, Nat.mod_eq_of_lt (a := a) ha, Nat.mod_eq_of_lt (a := b) hb]
  congr 1
  exact Nat.mod_eq_of_lt (or_lt ha hb)

theorem andn_lt {a b : Nat} (ha : a < 18446744073709551616) : andnN a b < 18446744073709551616 := Nat.lt_of_le_of_lt Nat.and_le_left ha

theorem andnI_up {a b : Nat} (ha : a < 18446744073709551616) (hb : b < 18446744073709551616) : andnI (a : Int) (b : Int) = (andnN a b : Int) := by
  unfold andnI
  rw [ofInt_nat, ofInt_nat, wrapU, BitVec.toNat_and, BitVec.toNat_not, BitVec.toNat_ofNat, BitVec.toNat_ofNat, Nat.mod_eq_of_lt (a := a) ha, Nat.mod_eq_of_lt (a := b) hb]
  congr 1
  exact Nat.mod_eq_of_lt (andn_lt ha)

theorem shlI_up (a k : Nat) : shlI (a : Int) k = (Nat.mod (Nat.shiftLeft a k) 18446744073709551616 : Int) := by
  unfold shlI
  have : (a : Int) * 2 ^ k = ((a * 2 ^ k : Nat) : Int) := by simp
  rw [this, wrapU]
  congr 2
  exact (Nat.shiftLeft_eq a k).symm

theorem shrI_up (a k : Nat) : shrI (a : Int) k = (Nat.shiftRight a k : Int) := by
  unfold shrI
  have : (2 : Int) ^ k = ((2 ^ k : Nat) : Int) := by simp
  rw [this, Int.fdiv_eq_ediv_of_nonneg _ (Int.natCast_nonneg _), ← Int.natCast_ediv]
  congr 1
  exact (Nat.shiftRight_eq_div_pow a k).symm

theorem rot_lt {a k : Nat} (ha : a < 18446744073709551616) : rotN a k < 18446744073709551616 :=
  or_lt (Nat.mod_lt _ (by omega)) (Nat.lt_of_le_of_lt (Nat.shiftRight_le a (64 - k)) ha)

theorem rotl_up {a k : Nat} (ha : a < 18446744073709551616) : rotl (a : Int) k = (rotN a k : Int) := by
  unfold rotl rotN
  rw [shlI_up, shrI_up]
  exact orI_up (Nat.mod_lt _ (by omega)) (Nat.lt_of_le_of_lt (Nat.shiftRight_le a (64 - k)) ha)

theorem col_lt {w : List Nat} (h : lt64 w) (x : Nat) : colN w x < 18446744073709551616 :=
  xor_lt (xor_lt (xor_lt (xor_lt (gN_lt h _) (gN_lt h _)) (gN_lt h _)) (gN_lt h _)) (gN_lt h _)

theorem col_up {w : List Nat} (h : lt64 w) (x : Nat) : colS (up w) x = (colN w x : Int) := by
  unfold colS colN
  simp only [g_up]
  rw [xorI_up (gN_lt h _) (gN_lt h _), xorI_up (xor_lt (gN_lt h _) (gN_lt h _)) (gN_lt h _), xorI_up (xor_lt (xor_lt (gN_lt h _) (gN_lt h _)) (gN_lt h _)) (gN_lt h _), xorI_up (xor_lt (xor_lt (xor_lt (gN_lt h _) (gN_lt h _)) (gN_lt h _)) (gN_lt h _)) (gN_lt h _)]

theorem sum_lt {w : List Nat} (h : lt64 w) (x : Nat) : sumN w x < 18446744073709551616 := xor_lt (gN_lt h _) (rot_lt (gN_lt h _))

theorem sum_up {w : List Nat} (h : lt64 w) (x : Nat) : sumS (up w) x = (sumN w x : Int) := by
  unfold sumS sumN
  simp only [g_up]
  rw [rotl_up (gN_lt h _), xorI_up (gN_lt h _) (rot_lt (gN_lt h _))]

theorem up_map {α : Type} {l : List α} {f : α → Int} {f' : α → Nat} (h : ∀ x, f x = (f' x : Int)) : l.map f = up (l.map f') := by
  unfold up
  rw [List.map_map]
  exact List.map_congr_left fun x _ => h x

theorem lt_map {α : Type} {l : List α} {f : α → Nat} (h : ∀ x, f x < 18446744073709551616) : lt64 (l.map f) := by
  intro x hx
  obtain ⟨y, _, rfl⟩ := List.mem_map.1 hx
  exact h y

theorem mix_up {w : List Nat} (h : lt64 w) {c : Nat} (hc : c < 18446744073709551616) : mixS (up w) (c : Int) = up (mixN w c) ∧ lt64 (mixN w c) := by
  unfold mixS mixN
  simp only [forceNs_eq, forceN_eq]
  rw [up_map (col_up h)]
  have hcs := lt_map (l := List.range 5) (col_lt h)
  generalize (List.range 5).map (colN w) = cs at hcs
  rw [up_map (sum_up hcs)]
  have hss := lt_map (l := List.range 5) (sum_lt hcs)
  generalize (List.range 5).map (sumN cs) = ss at hss
  have hb : ∀ p : Nat × Nat, rotl (xorI (g (up w) p.1) (g (up ss) (p.1 % 5))) p.2 = ((rotN (Nat.xor (gN w p.1) (gN ss (p.1 % 5))) p.2 : Nat) : Int) := fun p => by
    simp only [g_up]
    rw [xorI_up (gN_lt h _) (gN_lt hss _), rotl_up (xor_lt (gN_lt h _) (gN_lt hss _))]
  rw [up_map hb]
  have hbs := lt_map (l := frm) (f := fun p => rotN (Nat.xor (gN w p.1) (gN ss (p.1 % 5))) p.2) (fun p => rot_lt (xor_lt (gN_lt h _) (gN_lt hss _)))
  generalize (frm.map fun p => rotN (Nat.xor (gN w p.1) (gN ss (p.1 % 5))) p.2) = b at hbs
  have hr : ∀ j : Nat, xorI (g (up b) j) (andnI (g (up b) (j / 5 * 5 + (j + 2) % 5)) (g (up b) (j / 5 * 5 + (j + 1) % 5))) = ((Nat.xor (gN b j) (andnN (gN b (j / 5 * 5 + (j + 2) % 5)) (gN b (j / 5 * 5 + (j + 1) % 5))) : Nat) : Int) := fun j => by
    simp only [g_up]
    rw [andnI_up (gN_lt hbs _) (gN_lt hbs _), xorI_up (gN_lt hbs _) (andn_lt (gN_lt hbs _))]
  rw [up_map hr]
  have hrs := lt_map (l := List.range 25) (f := fun j => Nat.xor (gN b j) (andnN (gN b (j / 5 * 5 + (j + 2) % 5)) (gN b (j / 5 * 5 + (j + 1) % 5)))) (fun j => xor_lt (gN_lt hbs _) (andn_lt (gN_lt hbs _)))
  generalize ((List.range 25).map fun j => Nat.xor (gN b j) (andnN (gN b (j / 5 * 5 + (j + 2) % 5)) (gN b (j / 5 * 5 + (j + 1) % 5)))) = r at hrs
  cases r with
  | nil => exact ⟨rfl, hrs⟩
  | cons x l =>
    have hx := hrs x (by simp)
    refine ⟨?_, fun y hy => ?_⟩
    · show xorI (x : Int) (c : Int) :: up l = _
      rw [xorI_up hx hc]
      rfl
    · rcases List.mem_cons.1 hy with rfl | hy
      · exact xor_lt hx hc
      · exact hrs y (by simp [hy])

theorem all_up {w : List Nat} (h : lt64 w) : allI (up w) = up (allN w) ∧ lt64 (allN w) := by
  have hcs : csL = up csN := by decide
  unfold allI allN
  rw [show mixQ = mixN from funext fun w => funext fun c => mixQ_eq w c]
  rw [hcs]
  have hlt : lt64 csN := by intro x hx; revert x; decide
  generalize csN = cs at hlt
  induction cs generalizing w with
  | nil => exact ⟨rfl, h⟩
  | cons c cs ih =>
    obtain ⟨a, b⟩ := mix_up h (hlt c (by simp))
    simp only [up, List.map_cons, List.foldl_cons] at *
    rw [show mixS (List.map Int.ofNat w) (Int.ofNat c) = _ from a]
    exact ih b (fun x hx => hlt x (by simp [hx]))

theorem lt_set {w : List Nat} (h : lt64 w) {i x : Nat} (hx : x < 18446744073709551616) : lt64 (w.set i x) := by
  intro y hy
  rcases List.mem_or_eq_of_mem_set hy with hy | rfl
  · exact h y hy
  · exact hx

theorem byte_sh {b : Nat} (hb : b < 256) (k : Nat) : Nat.shiftLeft b (8 * (k % 8)) < 18446744073709551616 := by
  show b <<< (8 * (k % 8)) < _
  rw [Nat.shiftLeft_eq]
  have h1 : 8 * (k % 8) ≤ 56 := by omega
  have h2 : 2 ^ (8 * (k % 8)) ≤ 2 ^ 56 := Nat.pow_le_pow_right (by omega) h1
  calc b * 2 ^ (8 * (k % 8)) ≤ 255 * 2 ^ 56 := Nat.mul_le_mul (by omega) h2
    _ < _ := by decide

theorem add_up {w : List Nat} (h : lt64 w) (k : Nat) {b : Nat} (hb : b < 256) : addW (up w) k (b : Int) = up (addN w k b) ∧ lt64 (addN w k b) := by
  unfold addW addN
  have hs := byte_sh hb k
  have h64 : IntKind.u64.wrap (b : Int) = (b : Int) := by rw [wrapU, Nat.mod_eq_of_lt (by omega)]
  refine ⟨?_, lt_set h (xor_lt (gN_lt h _) hs)⟩
  rw [g_up, h64, shlI_up, show Nat.mod (Nat.shiftLeft b (8 * (k % 8))) 18446744073709551616 = Nat.shiftLeft b (8 * (k % 8)) from Nat.mod_eq_of_lt hs, xorI_up (gN_lt h _) hs]
  unfold up
  rw [List.map_set]
  rfl

theorem step_up {w : List Nat} (h : lt64 w) (k : Nat) {b : Nat} (hb : b < 256) : stepB (up w, k) (b : Int) = (up (stepN (w, k) b).1, (stepN (w, k) b).2) ∧ lt64 (stepN (w, k) b).1 := by
  unfold stepB stepN
  simp only [forceN_eq]
  by_cases hk : k = 135
  · subst hk
    obtain ⟨a1, a2⟩ := add_up h 135 hb
    obtain ⟨b1, b2⟩ := all_up a2
    simp only [if_true]
    rw [show addW (up w) 135 (b : Int) = up (addN w 135 b) from a1, b1]
    exact ⟨rfl, b2⟩
  · obtain ⟨a1, a2⟩ := add_up h k hb
    have hkb : Nat.beq k 135 = false := by
      cases e : Nat.beq k 135 with
      | false => rfl
      | true => exact absurd (Nat.eq_of_beq_eq_true e) hk
    simp only [hk, if_false, hkb]
    exact ⟨by rw [a1], a2⟩

theorem fold_up : ∀ (l : List Nat) {w : List Nat} (k : Nat), lt64 w → (∀ b ∈ l, b < 256) → absorb (up w, k) (up l) = (up (l.foldl stepN (w, k)).1, (l.foldl stepN (w, k)).2) ∧ lt64 (l.foldl stepN (w, k)).1
  | [], w, k, h, _ => ⟨rfl, h⟩
  | b :: l, w, k, h, hl => by
    obtain ⟨a1, a2⟩ := step_up h k (hl b (by simp))
    have hb : absorb (up w, k) (up (b :: l)) = absorb (stepB (up w, k) (b : Int)) (up l) := rfl
    rw [hb, a1, List.foldl_cons]
    generalize stepN (w, k) b = p at a2
    obtain ⟨w', k'⟩ := p
    exact fold_up l k' a2 (fun x hx => hl x (by simp [hx]))

theorem end_up {w : List Nat} (h : lt64 w) (k : Nat) : endW (up w) k = up (endN w k) ∧ lt64 (endN w k) := by
  unfold endW endN
  obtain ⟨a1, a2⟩ := add_up h k (b := 6) (by omega)
  obtain ⟨b1, b2⟩ := add_up a2 135 (b := 128) (by omega)
  rw [show addW (up w) k 6 = up (addN w k 6) from a1, show addW (up (addN w k 6)) 135 128 = _ from b1]
  exact all_up b2

theorem wrap8 {m : Nat} : IntKind.u8.wrap (m : Int) = ((m % 256 : Nat) : Int) := by
  unfold IntKind.wrap
  simp [IntKind.signed, IntKind.bits, BitVec.toNat_ofInt]

theorem dig_up (w : List Nat) : digB (up w) = up (digN w) := by
  unfold digB digN
  exact up_map fun i => by rw [g_up, shrI_up, wrap8]; rfl

/-- THE DIGEST OF BYTES, in natural numbers. -/
theorem sha_N {l : List Nat} (h : ∀ b ∈ l, b < 256) : sha (up l) = up (shaN l) := by
  unfold sha shaN
  have h0 : w0L = up w0N := by decide
  rw [h0]
  obtain ⟨a1, a2⟩ := fold_up l (w := w0N) 0 (by intro x hx; revert x; decide) h
  rw [a1]
  generalize l.foldl stepN (w0N, 0) = p at a2
  obtain ⟨w, k⟩ := p
  obtain ⟨b1, _⟩ := end_up a2 k
  simp only [forceNs_eq]
  rw [b1, dig_up]

def isByteI (b : Int) : Bool := match b with
  | .ofNat n => Nat.blt n 256
  | .negSucc _ => false

theorem up_toNat : ∀ {l : List Int}, l.all isByteI = true → up (l.map Int.toNat) = l ∧ ∀ b ∈ l.map Int.toNat, b < 256
  | [], _ => ⟨rfl, by simp⟩
  | b :: l, h => by
    simp only [List.all_cons, Bool.and_eq_true] at h
    obtain ⟨i1, i2⟩ := up_toNat h.2
    cases b with
    | ofNat n =>
      have hn : n < 256 := by have q := h.1; simp [isByteI, Nat.blt] at q; omega
      refine ⟨by simp only [up, List.map_cons] at *; rw [i1]; rfl, ?_⟩
      intro x hx
      rcases List.mem_cons.1 hx with rfl | hx
      · simpa using hn
      · exact i2 x hx
    | negSucc n => simp [isByteI] at h

/-- The digest of what is known. -/
def KSumN (ts : List T) : Option (List T) := match ts with
  | [.lst x 1 ps] => match partsOf ps with
    | some qs => if Nat.ble qs.length 4294967296 && (bytesP qs).all isByteI then some [.ba 32 (up (shaN ((bytesP qs).map Int.toNat)))] else none
    | none => none
  | _ => none

theorem KSumN_ok {ts rs : List T} (h : KSumN ts = some rs) : PCall Go.Proofs.Try.prog 35 ts rs := by
  unfold KSumN at h
  split at h
  · rename_i x ps
    split at h
    · rename_i qs e
      split at h
      · rename_i hle
        simp only [Bool.and_eq_true] at hle
        injection h with h; subst h
        obtain ⟨rfl, h2⟩ := partsOf_spec e
        obtain ⟨u1, u2⟩ := up_toNat hle.2
        rw [← sha_N u2, u1]
        exact sum_ok x qs (by simpa using hle.1) h2
      · cases h
    · cases h
  · cases h

end Go.HM.Kec
