/- KEC, part B: one byte goes in, at each place of the sponge. -/
import Derived.Test.YtaopgmkjeimpiaaKecA
import Derived.Test.YtaopgmkjeimpiaaHmZ
set_option maxRecDepth 100000
namespace Go.HM.Kec
open Go.Proofs

/-- A byte goes in at a place. -/
def addW (w : List Int) (k : Nat) (b : Int) : List Int := w.set (k / 8) (xorI (g w (k / 8)) (shlI (IntKind.u64.wrap b) (8 * (k % 8))))

theorem addW_len {w : List Int} (h : w.length = 25) (k : Nat) (b : Int) : (addW w k b).length = 25 := by simp [addW, h]

def KGa (f : FuncId) (s : List SObj) (vs : List V) : Option (List V × List SObj) :=
  if Nat.beq f 114 then match vs, memOf s with
    | [p0], some (bs, ws, r, a) => if isPtr 2 0 p0 then some ([], [Z, .box (.p (.ba 32 bs)), .box (sp (allI (ws.map unT)) r 0)]) else none
    | _, _ => none
  else none

theorem KGa_ok : ∀ f s vs rs s', KGa f s vs = some (rs, s') → GCall Try.prog f s vs s' rs := by
  intro f s vs rs s' h
  unfold KGa at h
  split at h
  · rename_i hf
    have hf' : f = 114 := by simpa using hf
    subst hf'
    split at h
    · rename_i p0 bs ws r a hm
      split at h
      · rename_i hp
        simp only [Option.some.injEq, Prod.mk.injEq] at h
        obtain ⟨rfl, rfl⟩ := h
        obtain ⟨e1, e2⟩ := memOf_spec hm
        rw [e1, isPtr_spec hp]
        exact all_ok e2 r a bs
      · cases h
    · cases h
  · cases h

noncomputable def Cb (b : Int) : GCtx := { C0 (fun _ _ => false) with KG := KGa, item := fun o => match o.op with | .indexAddr _ _ _ => some (.el (u8 b)) | _ => some (.res false) }
theorem Cb_ok (b : Int) : KOk (Cb b) := ⟨names_ok, fun _ _ _ h => (by cases h), KGa_ok⟩

/-- The state in the inner loop. -/
def inS (x : Bool) (l : List Int) (m n j e i : Int) (pt : T) (bs w : List Int) (a : Int) : St :=
  ⟨65, [(18, .p (i64 i)), (17, .p (i64 m)), (16, .p (.bl x l)), (12, .p (i64 j)), (11, .p (i64 n)), (10, .p pt), (0, .ptr 2 0), (2, .p (u8 e))], [Z, .box (.p (.ba 32 bs)), .box (sp w 136 a)]⟩
def inK : List Nat := [18, 17, 16, 12, 11, 10, 0, 2]

noncomputable def BodyOk (k : Nat) (k' : Int) (F : List Int → List Int) : Prop := ∀ (x : Bool) (l : List Int) (m n j e i b : Int) (pt : T) (bs : List Int) (w0 w1 w2 w3 w4 w5 w6 w7 w8 w9 w10 w11 w12 w13 w14 w15 w16 w17 w18 w19 w20 w21 w22 w23 w24 : Int),
  bodyC (Cb b) 5 71 3 (loopAt Try.f71 1) (inS x l m n j e i pt bs [w0, w1, w2, w3, w4, w5, w6, w7, w8, w9, w10, w11, w12, w13, w14, w15, w16, w17, w18, w19, w20, w21, w22, w23, w24] k) [(0, true)] [] inK =
    some (.normal, inS x l m n j e (IntKind.i64.wrap (i + 1)) pt bs (F (addW [w0, w1, w2, w3, w4, w5, w6, w7, w8, w9, w10, w11, w12, w13, w14, w15, w16, w17, w18, w19, w20, w21, w22, w23, w24] k b)) k', [0 ≤ i ∧ (l.map (T.int .u8))[i.toNat]? = some (u8 b), decide (i < m) = true])
theorem b0 : BodyOk 0 1 id := by unfold BodyOk; intros; kernel_rfl
theorem b1 : BodyOk 1 2 id := by unfold BodyOk; intros; kernel_rfl
theorem b2 : BodyOk 2 3 id := by unfold BodyOk; intros; kernel_rfl
theorem b3 : BodyOk 3 4 id := by unfold BodyOk; intros; kernel_rfl
theorem b4 : BodyOk 4 5 id := by unfold BodyOk; intros; kernel_rfl
theorem b5 : BodyOk 5 6 id := by unfold BodyOk; intros; kernel_rfl
theorem b6 : BodyOk 6 7 id := by unfold BodyOk; intros; kernel_rfl
theorem b7 : BodyOk 7 8 id := by unfold BodyOk; intros; kernel_rfl
theorem b8 : BodyOk 8 9 id := by unfold BodyOk; intros; kernel_rfl
theorem b9 : BodyOk 9 10 id := by unfold BodyOk; intros; kernel_rfl
theorem b10 : BodyOk 10 11 id := by unfold BodyOk; intros; kernel_rfl
theorem b11 : BodyOk 11 12 id := by unfold BodyOk; intros; kernel_rfl
theorem b12 : BodyOk 12 13 id := by unfold BodyOk; intros; kernel_rfl
theorem b13 : BodyOk 13 14 id := by unfold BodyOk; intros; kernel_rfl
theorem b14 : BodyOk 14 15 id := by unfold BodyOk; intros; kernel_rfl
theorem b15 : BodyOk 15 16 id := by unfold BodyOk; intros; kernel_rfl
theorem b16 : BodyOk 16 17 id := by unfold BodyOk; intros; kernel_rfl
theorem b17 : BodyOk 17 18 id := by unfold BodyOk; intros; kernel_rfl
theorem b18 : BodyOk 18 19 id := by unfold BodyOk; intros; kernel_rfl
theorem b19 : BodyOk 19 20 id := by unfold BodyOk; intros; kernel_rfl
theorem b20 : BodyOk 20 21 id := by unfold BodyOk; intros; kernel_rfl
theorem b21 : BodyOk 21 22 id := by unfold BodyOk; intros; kernel_rfl
theorem b22 : BodyOk 22 23 id := by unfold BodyOk; intros; kernel_rfl
theorem b23 : BodyOk 23 24 id := by unfold BodyOk; intros; kernel_rfl
theorem b24 : BodyOk 24 25 id := by unfold BodyOk; intros; kernel_rfl
theorem b25 : BodyOk 25 26 id := by unfold BodyOk; intros; kernel_rfl
theorem b26 : BodyOk 26 27 id := by unfold BodyOk; intros; kernel_rfl
theorem b27 : BodyOk 27 28 id := by unfold BodyOk; intros; kernel_rfl
theorem b28 : BodyOk 28 29 id := by unfold BodyOk; intros; kernel_rfl
theorem b29 : BodyOk 29 30 id := by unfold BodyOk; intros; kernel_rfl
theorem b30 : BodyOk 30 31 id := by unfold BodyOk; intros; kernel_rfl
theorem b31 : BodyOk 31 32 id := by unfold BodyOk; intros; kernel_rfl
theorem b32 : BodyOk 32 33 id := by unfold BodyOk; intros; kernel_rfl
theorem b33 : BodyOk 33 34 id := by unfold BodyOk; intros; kernel_rfl
theorem b34 : BodyOk 34 35 id := by unfold BodyOk; intros; kernel_rfl
theorem b35 : BodyOk 35 36 id := by unfold BodyOk; intros; kernel_rfl
theorem b36 : BodyOk 36 37 id := by unfold BodyOk; intros; kernel_rfl
theorem b37 : BodyOk 37 38 id := by unfold BodyOk; intros; kernel_rfl
theorem b38 : BodyOk 38 39 id := by unfold BodyOk; intros; kernel_rfl
theorem b39 : BodyOk 39 40 id := by unfold BodyOk; intros; kernel_rfl
theorem b40 : BodyOk 40 41 id := by unfold BodyOk; intros; kernel_rfl
theorem b41 : BodyOk 41 42 id := by unfold BodyOk; intros; kernel_rfl
theorem b42 : BodyOk 42 43 id := by unfold BodyOk; intros; kernel_rfl
theorem b43 : BodyOk 43 44 id := by unfold BodyOk; intros; kernel_rfl
theorem b44 : BodyOk 44 45 id := by unfold BodyOk; intros; kernel_rfl
theorem b45 : BodyOk 45 46 id := by unfold BodyOk; intros; kernel_rfl
theorem b46 : BodyOk 46 47 id := by unfold BodyOk; intros; kernel_rfl
theorem b47 : BodyOk 47 48 id := by unfold BodyOk; intros; kernel_rfl
theorem b48 : BodyOk 48 49 id := by unfold BodyOk; intros; kernel_rfl
theorem b49 : BodyOk 49 50 id := by unfold BodyOk; intros; kernel_rfl
theorem b50 : BodyOk 50 51 id := by unfold BodyOk; intros; kernel_rfl
theorem b51 : BodyOk 51 52 id := by unfold BodyOk; intros; kernel_rfl
theorem b52 : BodyOk 52 53 id := by unfold BodyOk; intros; kernel_rfl
theorem b53 : BodyOk 53 54 id := by unfold BodyOk; intros; kernel_rfl
theorem b54 : BodyOk 54 55 id := by unfold BodyOk; intros; kernel_rfl
theorem b55 : BodyOk 55 56 id := by unfold BodyOk; intros; kernel_rfl
theorem b56 : BodyOk 56 57 id := by unfold BodyOk; intros; kernel_rfl
theorem b57 : BodyOk 57 58 id := by unfold BodyOk; intros; kernel_rfl
theorem b58 : BodyOk 58 59 id := by unfold BodyOk; intros; kernel_rfl
theorem b59 : BodyOk 59 60 id := by unfold BodyOk; intros; kernel_rfl
theorem b60 : BodyOk 60 61 id := by unfold BodyOk; intros; kernel_rfl
theorem b61 : BodyOk 61 62 id := by unfold BodyOk; intros; kernel_rfl
theorem b62 : BodyOk 62 63 id := by unfold BodyOk; intros; kernel_rfl
theorem b63 : BodyOk 63 64 id := by unfold BodyOk; intros; kernel_rfl
theorem b64 : BodyOk 64 65 id := by unfold BodyOk; intros; kernel_rfl
theorem b65 : BodyOk 65 66 id := by unfold BodyOk; intros; kernel_rfl
theorem b66 : BodyOk 66 67 id := by unfold BodyOk; intros; kernel_rfl
theorem b67 : BodyOk 67 68 id := by unfold BodyOk; intros; kernel_rfl
theorem b68 : BodyOk 68 69 id := by unfold BodyOk; intros; kernel_rfl
theorem b69 : BodyOk 69 70 id := by unfold BodyOk; intros; kernel_rfl
theorem b70 : BodyOk 70 71 id := by unfold BodyOk; intros; kernel_rfl
theorem b71 : BodyOk 71 72 id := by unfold BodyOk; intros; kernel_rfl
theorem b72 : BodyOk 72 73 id := by unfold BodyOk; intros; kernel_rfl
theorem b73 : BodyOk 73 74 id := by unfold BodyOk; intros; kernel_rfl
theorem b74 : BodyOk 74 75 id := by unfold BodyOk; intros; kernel_rfl
theorem b75 : BodyOk 75 76 id := by unfold BodyOk; intros; kernel_rfl
theorem b76 : BodyOk 76 77 id := by unfold BodyOk; intros; kernel_rfl
theorem b77 : BodyOk 77 78 id := by unfold BodyOk; intros; kernel_rfl
theorem b78 : BodyOk 78 79 id := by unfold BodyOk; intros; kernel_rfl
theorem b79 : BodyOk 79 80 id := by unfold BodyOk; intros; kernel_rfl
theorem b80 : BodyOk 80 81 id := by unfold BodyOk; intros; kernel_rfl
theorem b81 : BodyOk 81 82 id := by unfold BodyOk; intros; kernel_rfl
theorem b82 : BodyOk 82 83 id := by unfold BodyOk; intros; kernel_rfl
theorem b83 : BodyOk 83 84 id := by unfold BodyOk; intros; kernel_rfl
theorem b84 : BodyOk 84 85 id := by unfold BodyOk; intros; kernel_rfl
theorem b85 : BodyOk 85 86 id := by unfold BodyOk; intros; kernel_rfl
theorem b86 : BodyOk 86 87 id := by unfold BodyOk; intros; kernel_rfl
theorem b87 : BodyOk 87 88 id := by unfold BodyOk; intros; kernel_rfl
theorem b88 : BodyOk 88 89 id := by unfold BodyOk; intros; kernel_rfl
theorem b89 : BodyOk 89 90 id := by unfold BodyOk; intros; kernel_rfl
theorem b90 : BodyOk 90 91 id := by unfold BodyOk; intros; kernel_rfl
theorem b91 : BodyOk 91 92 id := by unfold BodyOk; intros; kernel_rfl
theorem b92 : BodyOk 92 93 id := by unfold BodyOk; intros; kernel_rfl
theorem b93 : BodyOk 93 94 id := by unfold BodyOk; intros; kernel_rfl
theorem b94 : BodyOk 94 95 id := by unfold BodyOk; intros; kernel_rfl
theorem b95 : BodyOk 95 96 id := by unfold BodyOk; intros; kernel_rfl
theorem b96 : BodyOk 96 97 id := by unfold BodyOk; intros; kernel_rfl
theorem b97 : BodyOk 97 98 id := by unfold BodyOk; intros; kernel_rfl
theorem b98 : BodyOk 98 99 id := by unfold BodyOk; intros; kernel_rfl
theorem b99 : BodyOk 99 100 id := by unfold BodyOk; intros; kernel_rfl
theorem b100 : BodyOk 100 101 id := by unfold BodyOk; intros; kernel_rfl
theorem b101 : BodyOk 101 102 id := by unfold BodyOk; intros; kernel_rfl
theorem b102 : BodyOk 102 103 id := by unfold BodyOk; intros; kernel_rfl
theorem b103 : BodyOk 103 104 id := by unfold BodyOk; intros; kernel_rfl
theorem b104 : BodyOk 104 105 id := by unfold BodyOk; intros; kernel_rfl
theorem b105 : BodyOk 105 106 id := by unfold BodyOk; intros; kernel_rfl
theorem b106 : BodyOk 106 107 id := by unfold BodyOk; intros; kernel_rfl
theorem b107 : BodyOk 107 108 id := by unfold BodyOk; intros; kernel_rfl
theorem b108 : BodyOk 108 109 id := by unfold BodyOk; intros; kernel_rfl
theorem b109 : BodyOk 109 110 id := by unfold BodyOk; intros; kernel_rfl
theorem b110 : BodyOk 110 111 id := by unfold BodyOk; intros; kernel_rfl
theorem b111 : BodyOk 111 112 id := by unfold BodyOk; intros; kernel_rfl
theorem b112 : BodyOk 112 113 id := by unfold BodyOk; intros; kernel_rfl
theorem b113 : BodyOk 113 114 id := by unfold BodyOk; intros; kernel_rfl
theorem b114 : BodyOk 114 115 id := by unfold BodyOk; intros; kernel_rfl
theorem b115 : BodyOk 115 116 id := by unfold BodyOk; intros; kernel_rfl
theorem b116 : BodyOk 116 117 id := by unfold BodyOk; intros; kernel_rfl
theorem b117 : BodyOk 117 118 id := by unfold BodyOk; intros; kernel_rfl
theorem b118 : BodyOk 118 119 id := by unfold BodyOk; intros; kernel_rfl
theorem b119 : BodyOk 119 120 id := by unfold BodyOk; intros; kernel_rfl
theorem b120 : BodyOk 120 121 id := by unfold BodyOk; intros; kernel_rfl
theorem b121 : BodyOk 121 122 id := by unfold BodyOk; intros; kernel_rfl
theorem b122 : BodyOk 122 123 id := by unfold BodyOk; intros; kernel_rfl
theorem b123 : BodyOk 123 124 id := by unfold BodyOk; intros; kernel_rfl
theorem b124 : BodyOk 124 125 id := by unfold BodyOk; intros; kernel_rfl
theorem b125 : BodyOk 125 126 id := by unfold BodyOk; intros; kernel_rfl
theorem b126 : BodyOk 126 127 id := by unfold BodyOk; intros; kernel_rfl
theorem b127 : BodyOk 127 128 id := by unfold BodyOk; intros; kernel_rfl
theorem b128 : BodyOk 128 129 id := by unfold BodyOk; intros; kernel_rfl
theorem b129 : BodyOk 129 130 id := by unfold BodyOk; intros; kernel_rfl
theorem b130 : BodyOk 130 131 id := by unfold BodyOk; intros; kernel_rfl
theorem b131 : BodyOk 131 132 id := by unfold BodyOk; intros; kernel_rfl
theorem b132 : BodyOk 132 133 id := by unfold BodyOk; intros; kernel_rfl
theorem b133 : BodyOk 133 134 id := by unfold BodyOk; intros; kernel_rfl
theorem b134 : BodyOk 134 135 id := by unfold BodyOk; intros; kernel_rfl
theorem b135 : BodyOk 135 0 allI := by unfold BodyOk; intros; kernel_rfl
end Go.HM.Kec
