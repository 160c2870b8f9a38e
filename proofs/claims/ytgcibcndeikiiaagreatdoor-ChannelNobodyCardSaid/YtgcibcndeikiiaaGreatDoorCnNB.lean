/- CN: 'lives' gives true; ChannelNobody, run on whatever comes. -/
import Derived.Test.YtgcibcndeikiiaaGreatDoorCnM
import Derived.Test.YtgcibcndeikiiaaGreatDoorHmRow
set_option maxRecDepth 1000000
namespace Go.HM.Cn
open Go.Proofs Go.HM.Kec
theorem lives_run : runK (CT tab59) 30 7 [] [] = some ([.bool true], []) := by kernel_rfl
theorem lives_ok : PCall Tryz.prog 7 [] [.bool true] := runK_sound (CT_ok tab59_ok) lives_run trivial
end Go.HM.Cn

set_option maxRecDepth 100000
namespace Go.HM.Cn
open Go.Proofs Go.HM.Kec

def KLn (f : FuncId) (ts : List T) : Option (List T) := match Nat.beq f 7 with
  | true => match ts with
    | [] => some [.bool true]
    | _ => none
  | false => KL f ts

theorem KLn_ok {f : FuncId} {ts rs : List T} (h : KLn f ts = some rs) : PCall Tryz.prog f ts rs := by
  unfold KLn at h
  split at h
  · rename_i hf; rw [Nat.eq_of_beq_eq_true hf]
    split at h
    · injection h with h; subst h; exact lives_ok
    · cases h
  · exact KL_ok h

noncomputable def Cn : GCtx := { CL with K := KLn }
theorem Cn_ok : KOk Cn := ⟨names_ok, fun _ _ _ h => KLn_ok h, fun _ _ _ _ _ h => KGL_ok h⟩

theorem nobody_run (k by' am ex id n mk mc mi ma me mn mt : Int) (x1 x2 x3 : Bool) (r l1 l2 b1 b2 b3 b4 : List Int) :
    runK Cn 30 4 [.agg [.int .i64 k, .int .i64 by', .int .i64 am, .int .i64 ex, .int .i64 id, .int .i64 n, .bl x1 r, .agg [.int .i64 mk, .int .i64 mc, .int .i64 mi, .int .i64 ma, .int .i64 me, .ba 32 b1, .bl x2 l1, .ba 32 b2, .ba 32 b3, .ba 32 b4, .int .i64 mn, .int .i64 mt, .bl x3 l2]]] [] = some ([.bool true], []) := by kernel_rfl

def msgSh : Sh := .struct [.int .i64, .int .i64, .int .i64, .int .i64, .int .i64, .bytes 32, .sliceB, .bytes 32, .bytes 32, .bytes 32, .int .i64, .int .i64, .sliceB]
def opSh : Sh := .struct [.int .i64, .int .i64, .int .i64, .int .i64, .int .i64, .int .i64, .sliceB, msgSh]

theorem nobody_args {xs : List T} (h : HasShs [opSh] xs) : PCall Tryz.prog 4 xs [.bool true] := by
  obtain ⟨_, _, rfl, ⟨_, rfl, _, _, rfl, ⟨k, rfl, _⟩, _, _, rfl, ⟨by', rfl, _⟩, _, _, rfl, ⟨am, rfl, _⟩, _, _, rfl, ⟨ex, rfl, _⟩, _, _, rfl, ⟨id, rfl, _⟩, _, _, rfl, ⟨n, rfl, _⟩, _, _, rfl, ⟨x1, r, rfl, _, _⟩, _, _, rfl,
    ⟨_, rfl, _, _, rfl, ⟨mk, rfl, _⟩, _, _, rfl, ⟨mc, rfl, _⟩, _, _, rfl, ⟨mi, rfl, _⟩, _, _, rfl, ⟨ma, rfl, _⟩, _, _, rfl, ⟨me, rfl, _⟩, _, _, rfl, ⟨b1, rfl, _, _⟩, _, _, rfl, ⟨x2, l1, rfl, _, _⟩, _, _, rfl, ⟨b2, rfl, _, _⟩, _, _, rfl, ⟨b3, rfl, _, _⟩, _, _, rfl, ⟨b4, rfl, _, _⟩, _, _, rfl, ⟨mn, rfl, _⟩, _, _, rfl, ⟨mt, rfl, _⟩, _, _, rfl, ⟨x3, l2, rfl, _, _⟩, rfl⟩, rfl⟩, rfl⟩ := h
  exact runK_sound Cn_ok (nobody_run k by' am ex id n mk mc mi ma me mn mt x1 x2 x3 r l1 l2 b1 b2 b3 b4) trivial
end Go.HM.Cn
