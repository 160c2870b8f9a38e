/- CHAIN, part C: ChainNobody. -/
import Derived.Test.YtppikmabofeoeaaChB
import Derived.Test.YtppikmabofeoeaaHmRow
set_option maxRecDepth 100000
namespace Go.HM.Ch
open Go.Proofs Go.HM.Kec

noncomputable def Cn : GCtx := { C0 (fun _ _ => false) with K := fun f ts => if Nat.beq f 9 then match ts with | [] => some [.bool true] | _ => none else none }
theorem Kn_ok : ∀ f ts rs, Cn.K f ts = some rs → PCall Try.prog f ts rs := by
  intro f ts rs h
  simp only [Cn] at h
  split at h
  · rename_i hf
    have hf' : f = 9 := by simpa using hf
    subst hf'
    split at h
    · injection h with h; subst h; exact lives_ok
    · cases h
  · cases h
theorem Cn_ok : KOk Cn := ⟨names_ok, Kn_ok, fun _ _ _ _ _ h => (by cases h)⟩

theorem nobody_run (x y : Bool) (ins outs : List T) (bs : List Int) (o : Int) : runC Cn 30 7 [.agg [.lst x 130 ins, .lst y 2 outs], .agg [.ba 32 bs, .int .i64 o]] [] = some ([.bool true], []) := by kernel_rfl

theorem nobody_ok (x y : Bool) (ins outs : List T) (bs : List Int) (o : Int) : PCall Try.prog 7 [.agg [.lst x 130 ins, .lst y 2 outs], .agg [.ba 32 bs, .int .i64 o]] [.bool true] := runC_sound Cn_ok (nobody_run x y ins outs bs o) trivial

def inSh : Sh := .struct [.struct [.bytes 32, .int .i64], .int .i64, .bytes 32, .bytes 32, .bytes 32]
def outSh : Sh := .struct [.int .i64, .slice 37 (.struct [.int .i64, .int .i64, .bool, .int .i64, .int .i64, .bytes 32])]
def txSh : Sh := .struct [.slice 130 inSh, .slice 2 outSh]
def refSh : Sh := .struct [.bytes 32, .int .i64]

theorem nobody_args {xs : List T} (h : HasShs [txSh, refSh] xs) : PCall Try.prog 7 xs [.bool true] := by
  obtain ⟨_, _, rfl, ⟨_, rfl, _, _, rfl, ⟨x, ins, rfl, _, _⟩, _, _, rfl, ⟨y, outs, rfl, _, _⟩, rfl⟩, _, _, rfl, ⟨_, rfl, _, _, rfl, ⟨bs, rfl, _, _⟩, _, _, rfl, ⟨o, rfl, _⟩, rfl⟩, rfl⟩ := h
  exact nobody_ok x y ins outs bs o
end Go.HM.Ch
