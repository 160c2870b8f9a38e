/- CHAIN, part A: clones. -/
import Derived.Test.YtbipkkebonohjaaHnG
import Derived.Test.YtbipkkebonohjaaKecA
set_option maxRecDepth 100000
namespace Go.HM.Ch
open Go.Proofs Go.HM.Kec

noncomputable def Cc : GCtx := { C0 (fun _ _ => false) with item := fun _ => none }
theorem Cc_ok : KOk Cc := ⟨names_ok, fun _ _ _ h => (by cases h), fun _ _ _ _ _ h => (by cases h)⟩

theorem ins_run (x : Bool) (e : Nat) (ts : List T) : runC Cc 5 132 [.sl false (.lst x 130 ts)] [] = some ([.lst false 130 ts], [0 + ts.length ≤ 4294967296]) := by kernel_rfl
theorem paths_run (x : Bool) (e : Nat) (ts : List T) : runC Cc 5 163 [.sl false (.lst x 37 ts)] [] = some ([.lst false 37 ts], [0 + ts.length ≤ 4294967296]) := by kernel_rfl
theorem ins_run0 (x : Bool) : runC Cc 5 132 [.sl true (.lst x 130 [])] [] = some ([.lst true 130 []], []) := by kernel_rfl
theorem paths_run0 (x : Bool) : runC Cc 5 163 [.sl true (.lst x 37 [])] [] = some ([.lst true 37 []], []) := by kernel_rfl

theorem ins_ok (x : Bool) (ts : List T) (h : ts.length ≤ 4294967296) : PCall Try.prog 132 [.lst x 130 ts] [.lst false 130 ts] :=
  PCall.sl_cases (fun h0 => by subst h0; exact (runC_sound Cc_ok (ins_run0 x) trivial).unx) (runC_sound Cc_ok (ins_run x 0 ts) ⟨by omega, trivial⟩)
theorem paths_ok (x : Bool) (ts : List T) (h : ts.length ≤ 4294967296) : PCall Try.prog 163 [.lst x 37 ts] [.lst false 37 ts] :=
  PCall.sl_cases (fun h0 => by subst h0; exact (runC_sound Cc_ok (paths_run0 x) trivial).unx) (runC_sound Cc_ok (paths_run x 0 ts) ⟨by omega, trivial⟩)
end Go.HM.Ch
