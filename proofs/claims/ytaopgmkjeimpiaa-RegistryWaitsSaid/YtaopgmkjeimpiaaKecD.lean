/- KEC, part D: bytes come out; the digest of all parts. -/
import Derived.Test.YtaopgmkjeimpiaaKecC
set_option maxRecDepth 100000
namespace Go.HM.Kec
open Go.Proofs

/-- The bytes that come out. -/
def digB (w : List Int) : List Int := (List.range 32).map fun i => IntKind.u8.wrap (shrI (g w (i / 8)) (8 * (i % 8)))

theorem const_run : runC (C0 fun _ _ => false) 30 111 [] [] = some ([.agg (csL.map u64)], []) := by kernel_rfl
theorem turns_run : runC (C0 fun _ _ => false) 30 112 [] [] = some ([.agg (byL.map i64), .agg (toL.map i64)], []) := by kernel_rfl

theorem let_run (w0 w1 w2 w3 w4 w5 w6 w7 w8 w9 w10 w11 w12 w13 w14 w15 w16 w17 w18 w19 w20 w21 w22 w23 w24 : Int) :
    topC Ct 5 72 [Z, Z, .box (sp [w0, w1, w2, w3, w4, w5, w6, w7, w8, w9, w10, w11, w12, w13, w14, w15, w16, w17, w18, w19, w20, w21, w22, w23, w24] 136 0)] [.ptr 2 0, .view 1 0 32] [] [] =
      some ([], [Z, .box (.p (.ba 32 (digB [w0, w1, w2, w3, w4, w5, w6, w7, w8, w9, w10, w11, w12, w13, w14, w15, w16, w17, w18, w19, w20, w21, w22, w23, w24]))), .box (sp [w0, w1, w2, w3, w4, w5, w6, w7, w8, w9, w10, w11, w12, w13, w14, w15, w16, w17, w18, w19, w20, w21, w22, w23, w24] 136 32)], []) := by kernel_rfl

theorem let_ok {w : List Int} (h : w.length = 25) :
    GCall Try.prog 72 [Z, Z, .box (sp w 136 0)] [.ptr 2 0, .view 1 0 32] [Z, .box (.p (.ba 32 (digB w))), .box (sp w 136 32)] [] := by
  obtain ⟨w0, w1, w2, w3, w4, w5, w6, w7, w8, w9, w10, w11, w12, w13, w14, w15, w16, w17, w18, w19, w20, w21, w22, w23, w24, rfl⟩ := len25 h
  exact topC_sound Ct_ok (let_run _ _ _ _ _ _ _ _ _ _ _ _ _ _ _ _ _ _ _ _ _ _ _ _ _) trivial

def Ks (f : FuncId) (ts : List T) : Option (List T) :=
  if Nat.beq f 111 then match ts with | [] => some [.agg (csL.map u64)] | _ => none
  else if Nat.beq f 112 then match ts with | [] => some [.agg (byL.map i64), .agg (toL.map i64)] | _ => none
  else none

theorem Ks_ok : ∀ f ts rs, Ks f ts = some rs → PCall Try.prog f ts rs := by
  intro f ts rs h
  unfold Ks at h
  split at h
  · rename_i hf
    have hf' : f = 111 := by simpa using hf
    subst hf'
    split at h
    · simp only [Option.some.injEq] at h
      subst h
      exact runC_sound (C0_ok _) const_run trivial
    · cases h
  · split at h
    · rename_i hf
      have hf' : f = 112 := by simpa using hf
      subst hf'
      split at h
      · simp only [Option.some.injEq] at h
        subst h
        exact runC_sound (C0_ok _) turns_run trivial
      · cases h
    · cases h

noncomputable def Cs : GCtx := { C0 (fun f r => Nat.beq f 35 && Nat.beq r 4) with pr := pureCall Try.prog [70] [] [], K := Ks, told := fun f => Nat.beq f 71 || Nat.beq f 72 }
theorem Cs_ok : KOk Cs := ⟨names_ok, Ks_ok, fun _ _ _ _ _ h => (by cases h)⟩

def w0L : List Int := [0, 0, 0, 0, 0, 0, 0, 0, 0, 0, 0, 0, 0, 0, 0, 0, 0, 0, 0, 0, 0, 0, 0, 0, 0]

theorem sum_run (x : Bool) (ps : List T) (w : List Int) (o0 o1 o2 o3 o4 o5 o6 o7 o8 o9 o10 o11 o12 o13 o14 o15 o16 o17 o18 o19 o20 o21 o22 o23 o24 o25 o26 o27 o28 o29 o30 o31 : Int) :
    (topC Cs 8 35 [] [.p (.lst x 1 ps)] [] [] [([], [Z, Z, .box (sp w 136 0)]), ([], [Z, .box (.p (.ba 32 [o0, o1, o2, o3, o4, o5, o6, o7, o8, o9, o10, o11, o12, o13, o14, o15, o16, o17, o18, o19, o20, o21, o22, o23, o24, o25, o26, o27, o28, o29, o30, o31])), .box (sp w 136 32)])]).map (fun r => (r.1, r.2.2)) =
      some ([.p (.ba 32 [o0, o1, o2, o3, o4, o5, o6, o7, o8, o9, o10, o11, o12, o13, o14, o15, o16, o17, o18, o19, o20, o21, o22, o23, o24, o25, o26, o27, o28, o29, o30, o31])],
        [GCall Try.prog 72 [Z, Z, .box (sp w 136 0)] [.ptr 2 0, .view 1 0 32] [Z, .box (.p (.ba 32 [o0, o1, o2, o3, o4, o5, o6, o7, o8, o9, o10, o11, o12, o13, o14, o15, o16, o17, o18, o19, o20, o21, o22, o23, o24, o25, o26, o27, o28, o29, o30, o31])), .box (sp w 136 32)] [],
         GCall Try.prog 71 [Z, Z, .box (sp w0L 136 0)] [.ptr 2 0, .p (.lst x 1 ps), .p (u8 6)] [Z, Z, .box (sp w 136 0)] []]) := by kernel_rfl

/-- The digest of bytes. -/
def sha (l : List Int) : List Int := let q := absorb (w0L, 0) l; digB (endW q.1 q.2)

end Go.HM.Kec
