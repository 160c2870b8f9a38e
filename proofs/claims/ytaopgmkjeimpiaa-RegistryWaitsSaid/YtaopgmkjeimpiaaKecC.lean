/- KEC, part C: all bytes go in: the loops of 'take', and its end. -/
import Derived.Test.YtaopgmkjeimpiaaKecB
set_option maxRecDepth 100000
namespace Go.HM.Kec
open Go.Proofs

/-- One byte, and the place behind it. -/
def stepB (p : List Int × Nat) (b : Int) : List Int × Nat := if p.2 = 135 then (allI (addW p.1 135 b), 0) else (addW p.1 p.2 b, p.2 + 1)

theorem stepB_ok {p : List Int × Nat} (h : p.1.length = 25 ∧ p.2 < 136) (b : Int) : (stepB p b).1.length = 25 ∧ (stepB p b).2 < 136 := by
  unfold stepB
  split
  · exact ⟨allI_len (addW_len h.1 _ _), by simp⟩
  · refine ⟨addW_len h.1 _ _, ?_⟩
    simp only
    omega

def absorb (p : List Int × Nat) (l : List Int) : List Int × Nat := l.foldl stepB p

theorem absorb_ok : ∀ (l : List Int) {p : List Int × Nat}, (p.1.length = 25 ∧ p.2 < 136) → (absorb p l).1.length = 25 ∧ (absorb p l).2 < 136
  | [], p, h => h
  | b :: l, p, h => absorb_ok l (stepB_ok h b)

theorem absorb_append (l m : List Int) (p : List Int × Nat) : absorb p (l ++ m) = absorb (absorb p l) m := by simp [absorb]

theorem bodies : ∀ k : Nat, k < 135 → BodyOk k ((k : Int) + 1) id
  | 0, _ => b0
  | 1, _ => b1
  | 2, _ => b2
  | 3, _ => b3
  | 4, _ => b4
  | 5, _ => b5
  | 6, _ => b6
  | 7, _ => b7
  | 8, _ => b8
  | 9, _ => b9
  | 10, _ => b10
  | 11, _ => b11
  | 12, _ => b12
  | 13, _ => b13
  | 14, _ => b14
  | 15, _ => b15
  | 16, _ => b16
  | 17, _ => b17
  | 18, _ => b18
  | 19, _ => b19
  | 20, _ => b20
  | 21, _ => b21
  | 22, _ => b22
  | 23, _ => b23
  | 24, _ => b24
  | 25, _ => b25
  | 26, _ => b26
  | 27, _ => b27
  | 28, _ => b28
  | 29, _ => b29
  | 30, _ => b30
  | 31, _ => b31
  | 32, _ => b32
  | 33, _ => b33
  | 34, _ => b34
  | 35, _ => b35
  | 36, _ => b36
  | 37, _ => b37
  | 38, _ => b38
  | 39, _ => b39
  | 40, _ => b40
  | 41, _ => b41
  | 42, _ => b42
  | 43, _ => b43
  | 44, _ => b44
  | 45, _ => b45
  | 46, _ => b46
  | 47, _ => b47
  | 48, _ => b48
  | 49, _ => b49
  | 50, _ => b50
  | 51, _ => b51
  | 52, _ => b52
  | 53, _ => b53
  | 54, _ => b54
  | 55, _ => b55
  | 56, _ => b56
  | 57, _ => b57
  | 58, _ => b58
  | 59, _ => b59
  | 60, _ => b60
  | 61, _ => b61
  | 62, _ => b62
  | 63, _ => b63
  | 64, _ => b64
  | 65, _ => b65
  | 66, _ => b66
  | 67, _ => b67
  | 68, _ => b68
  | 69, _ => b69
  | 70, _ => b70
  | 71, _ => b71
  | 72, _ => b72
  | 73, _ => b73
  | 74, _ => b74
  | 75, _ => b75
  | 76, _ => b76
  | 77, _ => b77
  | 78, _ => b78
  | 79, _ => b79
  | 80, _ => b80
  | 81, _ => b81
  | 82, _ => b82
  | 83, _ => b83
  | 84, _ => b84
  | 85, _ => b85
  | 86, _ => b86
  | 87, _ => b87
  | 88, _ => b88
  | 89, _ => b89
  | 90, _ => b90
  | 91, _ => b91
  | 92, _ => b92
  | 93, _ => b93
  | 94, _ => b94
  | 95, _ => b95
  | 96, _ => b96
  | 97, _ => b97
  | 98, _ => b98
  | 99, _ => b99
  | 100, _ => b100
  | 101, _ => b101
  | 102, _ => b102
  | 103, _ => b103
  | 104, _ => b104
  | 105, _ => b105
  | 106, _ => b106
  | 107, _ => b107
  | 108, _ => b108
  | 109, _ => b109
  | 110, _ => b110
  | 111, _ => b111
  | 112, _ => b112
  | 113, _ => b113
  | 114, _ => b114
  | 115, _ => b115
  | 116, _ => b116
  | 117, _ => b117
  | 118, _ => b118
  | 119, _ => b119
  | 120, _ => b120
  | 121, _ => b121
  | 122, _ => b122
  | 123, _ => b123
  | 124, _ => b124
  | 125, _ => b125
  | 126, _ => b126
  | 127, _ => b127
  | 128, _ => b128
  | 129, _ => b129
  | 130, _ => b130
  | 131, _ => b131
  | 132, _ => b132
  | 133, _ => b133
  | 134, _ => b134
  | n + 135, h => absurd h (by omega)

theorem body_step (x : Bool) (l : List Int) (m n j e i b : Int) (pt : T) (bs : List Int) {p : List Int × Nat} (hp : p.1.length = 25 ∧ p.2 < 136) :
    bodyC (Cb b) 5 71 3 (loopAt Try.f71 1) (inS x l m n j e i pt bs p.1 p.2) [(0, true)] [] inK =
      some (.normal, inS x l m n j e (IntKind.i64.wrap (i + 1)) pt bs (stepB p b).1 (stepB p b).2, [0 ≤ i ∧ (l.map (T.int .u8))[i.toNat]? = some (u8 b), decide (i < m) = true]) := by
  obtain ⟨w, k⟩ := p
  obtain ⟨h1, h2⟩ := hp
  simp only at h1 h2
  obtain ⟨w0, w1, w2, w3, w4, w5, w6, w7, w8, w9, w10, w11, w12, w13, w14, w15, w16, w17, w18, w19, w20, w21, w22, w23, w24, rfl⟩ := len25 h1
  unfold stepB
  split
  · rename_i hk
    simp only at hk
    subst hk
    exact b135 x l m n j e i b pt bs w0 w1 w2 w3 w4 w5 w6 w7 w8 w9 w10 w11 w12 w13 w14 w15 w16 w17 w18 w19 w20 w21 w22 w23 w24
  · rename_i hk
    simp only at hk
    exact bodies k (by omega) x l m n j e i b pt bs w0 w1 w2 w3 w4 w5 w6 w7 w8 w9 w10 w11 w12 w13 w14 w15 w16 w17 w18 w19 w20 w21 w22 w23 w24

theorem in_leave (x : Bool) (l : List Int) (m n j e i a : Int) (pt : T) (bs w : List Int) :
    bodyC (Cb 0) 5 71 3 (loopAt Try.f71 1) (inS x l m n j e i pt bs w a) [(0, false)] [] inK = some (.exit 2, inS x l m n j e i pt bs w a, [decide (i < m) = false]) := by kernel_rfl

/-- The inner loop. -/
theorem in_loop (x : Bool) (l : List Int) (n j e : Int) (pt : T) (bs : List Int) (hl : l.length ≤ 4294967296) : ∀ (rest pre : List Int) {p : List Int × Nat}, l = pre ++ rest → (p.1.length = 25 ∧ p.2 < 136) →
    LoopG Try.prog 3 (loopAt Try.f71 1) (inS x l l.length n j e pre.length pt bs p.1 p.2) (.exit 2) (inS x l l.length n j e l.length pt bs (absorb p rest).1 (absorb p rest).2)
  | [], pre, p, hle, hp => by
    have hpl : pre.length = l.length := by rw [hle]; simp
    rw [hpl]
    exact LoopG.leave (bodyC_sound (Cb_ok 0) (in_leave x l l.length n j e l.length p.2 pt bs p.1) ⟨by simp, trivial⟩) rfl
  | b :: rest, pre, p, hle, hp => by
    have hlt : pre.length < l.length := by rw [hle]; simp
    have hw : IntKind.i64.wrap ((pre.length : Int) + 1) = ((pre ++ [b]).length : Int) := by
      rw [wrap64 (by omega) (by omega)]; simp
    have hb := bodyC_sound (Cb_ok b) (body_step x l l.length n j e pre.length b pt bs hp) ⟨⟨by omega, by rw [hle]; simp [u8]⟩, by simpa using hlt, trivial⟩
    rw [hw] at hb
    exact LoopG.next hb (in_loop x l n j e pt bs hl rest (pre ++ [b]) (by rw [hle]; simp) (stepB_ok hp b))

/-! The outer loop -/

def partT (p : Bool × List Int) : T := .bl p.1 p.2
def outS (x : Bool) (ps : List T) (n j e : Int) (bs w : List Int) (a : Int) : St :=
  ⟨65, [(12, .p (i64 j)), (11, .p (i64 n)), (10, .p (.lst x 1 ps)), (0, .ptr 2 0), (2, .p (u8 e))], [Z, .box (.p (.ba 32 bs)), .box (sp w 136 a)]⟩
def outK : List Nat := [12, 11, 10, 0, 2]

noncomputable def Co (t : T) : GCtx := { C0 (fun _ _ => false) with KG := KGa, item := fun o => match o.op with | .indexAddr _ _ _ => some (.el t) | _ => some (.res false) }
theorem Co_ok (t : T) : KOk (Co t) := ⟨names_ok, fun _ _ _ h => (by cases h), KGa_ok⟩

theorem out_step (x : Bool) (ps : List T) (n j e : Int) (bs w w' : List Int) (a a' : Int) (x' : Bool) (l : List Int) :
    bodyC (Co (.bl x' l)) 5 71 3 (loopAt Try.f71 0) (outS x ps n j e bs w a) [(0, true)] [some (inK, .exit 2, inS x' l l.length n j e l.length (.lst x 1 ps) bs w' a')] outK =
      some (.normal, outS x ps n (IntKind.i64.wrap (j + 1)) e bs w' a', [LoopG Try.prog 3 (loopAt Try.f71 1) (inS x' l l.length n j e 0 (.lst x 1 ps) bs w a) (.exit 2) (inS x' l l.length n j e l.length (.lst x 1 ps) bs w' a'), 0 ≤ j ∧ ps[j.toNat]? = some (.bl x' l), decide (j < n) = true]) := by kernel_rfl

theorem out_leave (x : Bool) (ps : List T) (n j e : Int) (bs w : List Int) (a : Int) :
    bodyC (Co .nilP) 5 71 3 (loopAt Try.f71 0) (outS x ps n j e bs w a) [(0, false)] [] outK = some (.exit 0, outS x ps n j e bs w a, [decide (j < n) = false]) := by kernel_rfl

def bytesP (ps : List (Bool × List Int)) : List Int := (ps.map (·.2)).flatten

theorem out_loop (x : Bool) (ps : List (Bool × List Int)) (e : Int) (bs : List Int) (hps : ps.length ≤ 4294967296) (hl : ∀ p ∈ ps, p.2.length ≤ 4294967296) : ∀ (rest pre : List (Bool × List Int)) {p : List Int × Nat}, ps = pre ++ rest → (p.1.length = 25 ∧ p.2 < 136) →
    LoopG Try.prog 3 (loopAt Try.f71 0) (outS x (ps.map partT) ps.length pre.length e bs p.1 p.2) (.exit 0) (outS x (ps.map partT) ps.length ps.length e bs (absorb p (bytesP rest)).1 (absorb p (bytesP rest)).2)
  | [], pre, p, hle, hp => by
    have hpl : pre.length = ps.length := by rw [hle]; simp
    rw [hpl]
    exact LoopG.leave (bodyC_sound (Co_ok .nilP) (out_leave x (ps.map partT) ps.length ps.length e bs p.1 p.2) ⟨by simp, trivial⟩) rfl
  | (x', l) :: rest, pre, p, hle, hp => by
    have hlt : pre.length < ps.length := by rw [hle]; simp
    have hw : IntKind.i64.wrap ((pre.length : Int) + 1) = ((pre ++ [(x', l)]).length : Int) := by
      rw [wrap64 (by omega) (by omega)]; simp
    have hll := hl (x', l) (by rw [hle]; simp)
    have hin := in_loop x' l ps.length pre.length e (.lst x 1 (ps.map partT)) bs hll l [] (by simp) hp
    have hb := bodyC_sound (Co_ok (.bl x' l)) (out_step x (ps.map partT) ps.length pre.length e bs p.1 (absorb p l).1 p.2 (absorb p l).2 x' l) ⟨by simpa using hin, ⟨by omega, by rw [hle]; simp [partT]⟩, by simpa using hlt, trivial⟩
    rw [hw] at hb
    have := LoopG.next hb (out_loop x ps e bs hps hl rest (pre ++ [(x', l)]) (by rw [hle]; simp) (absorb_ok l hp))
    rw [← absorb_append] at this
    exact this

/-! The end -/

noncomputable def Ct : GCtx := { C0 (fun _ _ => false) with KG := KGa }
theorem Ct_ok : KOk Ct := ⟨names_ok, fun _ _ _ h => (by cases h), KGa_ok⟩

def endW (w : List Int) (k : Nat) : List Int := allI (addW (addW w k 6) 135 128)

noncomputable def TailOk (k : Nat) : Prop := ∀ (x : Bool) (ps : List T) (bs wi : List Int) (ai : Int) (w0 w1 w2 w3 w4 w5 w6 w7 w8 w9 w10 w11 w12 w13 w14 w15 w16 w17 w18 w19 w20 w21 w22 w23 w24 : Int),
  topC Ct 5 71 [Z, .box (.p (.ba 32 bs)), .box (sp wi 136 ai)] [.ptr 2 0, .p (.lst x 1 ps), .p (u8 6)] [] [some (outK, .exit 0, outS x ps ps.length ps.length 6 bs [w0, w1, w2, w3, w4, w5, w6, w7, w8, w9, w10, w11, w12, w13, w14, w15, w16, w17, w18, w19, w20, w21, w22, w23, w24] k)] =
    some ([], [Z, .box (.p (.ba 32 bs)), .box (sp (endW [w0, w1, w2, w3, w4, w5, w6, w7, w8, w9, w10, w11, w12, w13, w14, w15, w16, w17, w18, w19, w20, w21, w22, w23, w24] k) 136 0)], [LoopG Try.prog 3 (loopAt Try.f71 0) (outS x ps ps.length 0 6 bs wi ai) (.exit 0) (outS x ps ps.length ps.length 6 bs [w0, w1, w2, w3, w4, w5, w6, w7, w8, w9, w10, w11, w12, w13, w14, w15, w16, w17, w18, w19, w20, w21, w22, w23, w24] k)])
theorem t0 : TailOk 0 := by unfold TailOk; intros; kernel_rfl
theorem t1 : TailOk 1 := by unfold TailOk; intros; kernel_rfl
theorem t2 : TailOk 2 := by unfold TailOk; intros; kernel_rfl
theorem t3 : TailOk 3 := by unfold TailOk; intros; kernel_rfl
theorem t4 : TailOk 4 := by unfold TailOk; intros; kernel_rfl
theorem t5 : TailOk 5 := by unfold TailOk; intros; kernel_rfl
theorem t6 : TailOk 6 := by unfold TailOk; intros; kernel_rfl
theorem t7 : TailOk 7 := by unfold TailOk; intros; kernel_rfl
theorem t8 : TailOk 8 := by unfold TailOk; intros; kernel_rfl
theorem t9 : TailOk 9 := by unfold TailOk; intros; kernel_rfl
theorem t10 : TailOk 10 := by unfold TailOk; intros; kernel_rfl
theorem t11 : TailOk 11 := by unfold TailOk; intros; kernel_rfl
theorem t12 : TailOk 12 := by unfold TailOk; intros; kernel_rfl
theorem t13 : TailOk 13 := by unfold TailOk; intros; kernel_rfl
theorem t14 : TailOk 14 := by unfold TailOk; intros; kernel_rfl
theorem t15 : TailOk 15 := by unfold TailOk; intros; kernel_rfl
theorem t16 : TailOk 16 := by unfold TailOk; intros; kernel_rfl
theorem t17 : TailOk 17 := by unfold TailOk; intros; kernel_rfl
theorem t18 : TailOk 18 := by unfold TailOk; intros; kernel_rfl
theorem t19 : TailOk 19 := by unfold TailOk; intros; kernel_rfl
theorem t20 : TailOk 20 := by unfold TailOk; intros; kernel_rfl
theorem t21 : TailOk 21 := by unfold TailOk; intros; kernel_rfl
theorem t22 : TailOk 22 := by unfold TailOk; intros; kernel_rfl
theorem t23 : TailOk 23 := by unfold TailOk; intros; kernel_rfl
theorem t24 : TailOk 24 := by unfold TailOk; intros; kernel_rfl
theorem t25 : TailOk 25 := by unfold TailOk; intros; kernel_rfl
theorem t26 : TailOk 26 := by unfold TailOk; intros; kernel_rfl
theorem t27 : TailOk 27 := by unfold TailOk; intros; kernel_rfl
theorem t28 : TailOk 28 := by unfold TailOk; intros; kernel_rfl
theorem t29 : TailOk 29 := by unfold TailOk; intros; kernel_rfl
theorem t30 : TailOk 30 := by unfold TailOk; intros; kernel_rfl
theorem t31 : TailOk 31 := by unfold TailOk; intros; kernel_rfl
theorem t32 : TailOk 32 := by unfold TailOk; intros; kernel_rfl
theorem t33 : TailOk 33 := by unfold TailOk; intros; kernel_rfl
theorem t34 : TailOk 34 := by unfold TailOk; intros; kernel_rfl
theorem t35 : TailOk 35 := by unfold TailOk; intros; kernel_rfl
theorem t36 : TailOk 36 := by unfold TailOk; intros; kernel_rfl
theorem t37 : TailOk 37 := by unfold TailOk; intros; kernel_rfl
theorem t38 : TailOk 38 := by unfold TailOk; intros; kernel_rfl
theorem t39 : TailOk 39 := by unfold TailOk; intros; kernel_rfl
theorem t40 : TailOk 40 := by unfold TailOk; intros; kernel_rfl
theorem t41 : TailOk 41 := by unfold TailOk; intros; kernel_rfl
theorem t42 : TailOk 42 := by unfold TailOk; intros; kernel_rfl
theorem t43 : TailOk 43 := by unfold TailOk; intros; kernel_rfl
theorem t44 : TailOk 44 := by unfold TailOk; intros; kernel_rfl
theorem t45 : TailOk 45 := by unfold TailOk; intros; kernel_rfl
theorem t46 : TailOk 46 := by unfold TailOk; intros; kernel_rfl
theorem t47 : TailOk 47 := by unfold TailOk; intros; kernel_rfl
theorem t48 : TailOk 48 := by unfold TailOk; intros; kernel_rfl
theorem t49 : TailOk 49 := by unfold TailOk; intros; kernel_rfl
theorem t50 : TailOk 50 := by unfold TailOk; intros; kernel_rfl
theorem t51 : TailOk 51 := by unfold TailOk; intros; kernel_rfl
theorem t52 : TailOk 52 := by unfold TailOk; intros; kernel_rfl
theorem t53 : TailOk 53 := by unfold TailOk; intros; kernel_rfl
theorem t54 : TailOk 54 := by unfold TailOk; intros; kernel_rfl
theorem t55 : TailOk 55 := by unfold TailOk; intros; kernel_rfl
theorem t56 : TailOk 56 := by unfold TailOk; intros; kernel_rfl
theorem t57 : TailOk 57 := by unfold TailOk; intros; kernel_rfl
theorem t58 : TailOk 58 := by unfold TailOk; intros; kernel_rfl
theorem t59 : TailOk 59 := by unfold TailOk; intros; kernel_rfl
theorem t60 : TailOk 60 := by unfold TailOk; intros; kernel_rfl
theorem t61 : TailOk 61 := by unfold TailOk; intros; kernel_rfl
theorem t62 : TailOk 62 := by unfold TailOk; intros; kernel_rfl
theorem t63 : TailOk 63 := by unfold TailOk; intros; kernel_rfl
theorem t64 : TailOk 64 := by unfold TailOk; intros; kernel_rfl
theorem t65 : TailOk 65 := by unfold TailOk; intros; kernel_rfl
theorem t66 : TailOk 66 := by unfold TailOk; intros; kernel_rfl
theorem t67 : TailOk 67 := by unfold TailOk; intros; kernel_rfl
theorem t68 : TailOk 68 := by unfold TailOk; intros; kernel_rfl
theorem t69 : TailOk 69 := by unfold TailOk; intros; kernel_rfl
theorem t70 : TailOk 70 := by unfold TailOk; intros; kernel_rfl
theorem t71 : TailOk 71 := by unfold TailOk; intros; kernel_rfl
theorem t72 : TailOk 72 := by unfold TailOk; intros; kernel_rfl
theorem t73 : TailOk 73 := by unfold TailOk; intros; kernel_rfl
theorem t74 : TailOk 74 := by unfold TailOk; intros; kernel_rfl
theorem t75 : TailOk 75 := by unfold TailOk; intros; kernel_rfl
theorem t76 : TailOk 76 := by unfold TailOk; intros; kernel_rfl
theorem t77 : TailOk 77 := by unfold TailOk; intros; kernel_rfl
theorem t78 : TailOk 78 := by unfold TailOk; intros; kernel_rfl
theorem t79 : TailOk 79 := by unfold TailOk; intros; kernel_rfl
theorem t80 : TailOk 80 := by unfold TailOk; intros; kernel_rfl
theorem t81 : TailOk 81 := by unfold TailOk; intros; kernel_rfl
theorem t82 : TailOk 82 := by unfold TailOk; intros; kernel_rfl
theorem t83 : TailOk 83 := by unfold TailOk; intros; kernel_rfl
theorem t84 : TailOk 84 := by unfold TailOk; intros; kernel_rfl
theorem t85 : TailOk 85 := by unfold TailOk; intros; kernel_rfl
theorem t86 : TailOk 86 := by unfold TailOk; intros; kernel_rfl
theorem t87 : TailOk 87 := by unfold TailOk; intros; kernel_rfl
theorem t88 : TailOk 88 := by unfold TailOk; intros; kernel_rfl
theorem t89 : TailOk 89 := by unfold TailOk; intros; kernel_rfl
theorem t90 : TailOk 90 := by unfold TailOk; intros; kernel_rfl
theorem t91 : TailOk 91 := by unfold TailOk; intros; kernel_rfl
theorem t92 : TailOk 92 := by unfold TailOk; intros; kernel_rfl
theorem t93 : TailOk 93 := by unfold TailOk; intros; kernel_rfl
theorem t94 : TailOk 94 := by unfold TailOk; intros; kernel_rfl
theorem t95 : TailOk 95 := by unfold TailOk; intros; kernel_rfl
theorem t96 : TailOk 96 := by unfold TailOk; intros; kernel_rfl
theorem t97 : TailOk 97 := by unfold TailOk; intros; kernel_rfl
theorem t98 : TailOk 98 := by unfold TailOk; intros; kernel_rfl
theorem t99 : TailOk 99 := by unfold TailOk; intros; kernel_rfl
theorem t100 : TailOk 100 := by unfold TailOk; intros; kernel_rfl
theorem t101 : TailOk 101 := by unfold TailOk; intros; kernel_rfl
theorem t102 : TailOk 102 := by unfold TailOk; intros; kernel_rfl
theorem t103 : TailOk 103 := by unfold TailOk; intros; kernel_rfl
theorem t104 : TailOk 104 := by unfold TailOk; intros; kernel_rfl
theorem t105 : TailOk 105 := by unfold TailOk; intros; kernel_rfl
theorem t106 : TailOk 106 := by unfold TailOk; intros; kernel_rfl
theorem t107 : TailOk 107 := by unfold TailOk; intros; kernel_rfl
theorem t108 : TailOk 108 := by unfold TailOk; intros; kernel_rfl
theorem t109 : TailOk 109 := by unfold TailOk; intros; kernel_rfl
theorem t110 : TailOk 110 := by unfold TailOk; intros; kernel_rfl
theorem t111 : TailOk 111 := by unfold TailOk; intros; kernel_rfl
theorem t112 : TailOk 112 := by unfold TailOk; intros; kernel_rfl
theorem t113 : TailOk 113 := by unfold TailOk; intros; kernel_rfl
theorem t114 : TailOk 114 := by unfold TailOk; intros; kernel_rfl
theorem t115 : TailOk 115 := by unfold TailOk; intros; kernel_rfl
theorem t116 : TailOk 116 := by unfold TailOk; intros; kernel_rfl
theorem t117 : TailOk 117 := by unfold TailOk; intros; kernel_rfl
theorem t118 : TailOk 118 := by unfold TailOk; intros; kernel_rfl
theorem t119 : TailOk 119 := by unfold TailOk; intros; kernel_rfl
theorem t120 : TailOk 120 := by unfold TailOk; intros; kernel_rfl
theorem t121 : TailOk 121 := by unfold TailOk; intros; kernel_rfl
theorem t122 : TailOk 122 := by unfold TailOk; intros; kernel_rfl
theorem t123 : TailOk 123 := by unfold TailOk; intros; kernel_rfl
theorem t124 : TailOk 124 := by unfold TailOk; intros; kernel_rfl
theorem t125 : TailOk 125 := by unfold TailOk; intros; kernel_rfl
theorem t126 : TailOk 126 := by unfold TailOk; intros; kernel_rfl
theorem t127 : TailOk 127 := by unfold TailOk; intros; kernel_rfl
theorem t128 : TailOk 128 := by unfold TailOk; intros; kernel_rfl
theorem t129 : TailOk 129 := by unfold TailOk; intros; kernel_rfl
theorem t130 : TailOk 130 := by unfold TailOk; intros; kernel_rfl
theorem t131 : TailOk 131 := by unfold TailOk; intros; kernel_rfl
theorem t132 : TailOk 132 := by unfold TailOk; intros; kernel_rfl
theorem t133 : TailOk 133 := by unfold TailOk; intros; kernel_rfl
theorem t134 : TailOk 134 := by unfold TailOk; intros; kernel_rfl
theorem t135 : TailOk 135 := by unfold TailOk; intros; kernel_rfl

theorem tails : ∀ k : Nat, k < 136 → TailOk k
  | 0, _ => t0
  | 1, _ => t1
  | 2, _ => t2
  | 3, _ => t3
  | 4, _ => t4
  | 5, _ => t5
  | 6, _ => t6
  | 7, _ => t7
  | 8, _ => t8
  | 9, _ => t9
  | 10, _ => t10
  | 11, _ => t11
  | 12, _ => t12
  | 13, _ => t13
  | 14, _ => t14
  | 15, _ => t15
  | 16, _ => t16
  | 17, _ => t17
  | 18, _ => t18
  | 19, _ => t19
  | 20, _ => t20
  | 21, _ => t21
  | 22, _ => t22
  | 23, _ => t23
  | 24, _ => t24
  | 25, _ => t25
  | 26, _ => t26
  | 27, _ => t27
  | 28, _ => t28
  | 29, _ => t29
  | 30, _ => t30
  | 31, _ => t31
  | 32, _ => t32
  | 33, _ => t33
  | 34, _ => t34
  | 35, _ => t35
  | 36, _ => t36
  | 37, _ => t37
  | 38, _ => t38
  | 39, _ => t39
  | 40, _ => t40
  | 41, _ => t41
  | 42, _ => t42
  | 43, _ => t43
  | 44, _ => t44
  | 45, _ => t45
  | 46, _ => t46
  | 47, _ => t47
  | 48, _ => t48
  | 49, _ => t49
  | 50, _ => t50
  | 51, _ => t51
  | 52, _ => t52
  | 53, _ => t53
  | 54, _ => t54
  | 55, _ => t55
  | 56, _ => t56
  | 57, _ => t57
  | 58, _ => t58
  | 59, _ => t59
  | 60, _ => t60
  | 61, _ => t61
  | 62, _ => t62
  | 63, _ => t63
  | 64, _ => t64
  | 65, _ => t65
  | 66, _ => t66
  | 67, _ => t67
  | 68, _ => t68
  | 69, _ => t69
  | 70, _ => t70
  | 71, _ => t71
  | 72, _ => t72
  | 73, _ => t73
  | 74, _ => t74
  | 75, _ => t75
  | 76, _ => t76
  | 77, _ => t77
  | 78, _ => t78
  | 79, _ => t79
  | 80, _ => t80
  | 81, _ => t81
  | 82, _ => t82
  | 83, _ => t83
  | 84, _ => t84
  | 85, _ => t85
  | 86, _ => t86
  | 87, _ => t87
  | 88, _ => t88
  | 89, _ => t89
  | 90, _ => t90
  | 91, _ => t91
  | 92, _ => t92
  | 93, _ => t93
  | 94, _ => t94
  | 95, _ => t95
  | 96, _ => t96
  | 97, _ => t97
  | 98, _ => t98
  | 99, _ => t99
  | 100, _ => t100
  | 101, _ => t101
  | 102, _ => t102
  | 103, _ => t103
  | 104, _ => t104
  | 105, _ => t105
  | 106, _ => t106
  | 107, _ => t107
  | 108, _ => t108
  | 109, _ => t109
  | 110, _ => t110
  | 111, _ => t111
  | 112, _ => t112
  | 113, _ => t113
  | 114, _ => t114
  | 115, _ => t115
  | 116, _ => t116
  | 117, _ => t117
  | 118, _ => t118
  | 119, _ => t119
  | 120, _ => t120
  | 121, _ => t121
  | 122, _ => t122
  | 123, _ => t123
  | 124, _ => t124
  | 125, _ => t125
  | 126, _ => t126
  | 127, _ => t127
  | 128, _ => t128
  | 129, _ => t129
  | 130, _ => t130
  | 131, _ => t131
  | 132, _ => t132
  | 133, _ => t133
  | 134, _ => t134
  | 135, _ => t135
  | n + 136, h => absurd h (by omega)

/-- ALL BYTES GO IN. -/
theorem take_ok (x : Bool) (ps : List (Bool × List Int)) (bs : List Int) {p : List Int × Nat} (hp : p.1.length = 25 ∧ p.2 < 136) (hps : ps.length ≤ 4294967296) (hl : ∀ p ∈ ps, p.2.length ≤ 4294967296) :
    GCall Try.prog 71 [Z, .box (.p (.ba 32 bs)), .box (sp p.1 136 p.2)] [.ptr 2 0, .p (.lst x 1 (ps.map partT)), .p (u8 6)]
      [Z, .box (.p (.ba 32 bs)), .box (sp (endW (absorb p (bytesP ps)).1 (absorb p (bytesP ps)).2) 136 0)] [] := by
  have hloop := out_loop x ps 6 bs hps hl ps [] (by simp) hp
  have hq := absorb_ok (bytesP ps) hp
  generalize absorb p (bytesP ps) = q at hloop hq
  obtain ⟨w, k⟩ := q
  obtain ⟨h1, h2⟩ := hq
  simp only at h1 h2 hloop ⊢
  obtain ⟨w0, w1, w2, w3, w4, w5, w6, w7, w8, w9, w10, w11, w12, w13, w14, w15, w16, w17, w18, w19, w20, w21, w22, w23, w24, rfl⟩ := len25 h1
  have := tails k h2 x (ps.map partT) bs p.1 p.2 w0 w1 w2 w3 w4 w5 w6 w7 w8 w9 w10 w11 w12 w13 w14 w15 w16 w17 w18 w19 w20 w21 w22 w23 w24
  simp only [List.length_map] at this
  exact topC_sound Ct_ok this ⟨by simpa using hloop, trivial⟩

end Go.HM.Kec
