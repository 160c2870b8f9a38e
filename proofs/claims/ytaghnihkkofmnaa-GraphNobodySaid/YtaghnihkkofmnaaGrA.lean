/- GRAPH, part A: the context of layer 22's runs; its lives. -/
import Derived.Test.YtaghnihkkofmnaaHnL
import Derived.Test.YtaghnihkkofmnaaGlobT
import Derived.Test.YtaghnihkkofmnaaProg
set_option maxRecDepth 100000
namespace Go.HM.Gr
open Go.Proofs

theorem names_b : (Try.prog.funcs.toList.all fun fn => !(fn.name == "runtime.NumGoroutine")) = true := by kernel_rfl

theorem names_ok : NamesOk Try.prog := by
  intro f fn h
  have := List.all_eq_true.1 names_b fn (by rw [← Array.getElem?_toList] at h; exact List.mem_of_getElem? h)
  simpa using this

def exF : List Nat := [4, 6, 7, 8, 9, 10, 11, 12, 13, 17, 19, 21, 27, 28, 35, 41, 42, 43, 52, 59, 60, 22, 23, 31]
noncomputable def prG : Oper → Bool := pureCall Try.prog exF [] [("graph.go:191", 76)]
/-- Graph: what is made in memory that is written. -/
noncomputable def Cg (K : FuncId → List T → Option (List T)) : GCtx := { P := Try.prog, pr := prG, K, keep := fun _ _ => false, frz := fun _ _ => [], item := fun _ => some (.res false), glob := globOf globT, KG := fun _ _ _ => none, fuel := 1000, vec := appAt ["graph.go:215"], al := fun ops => !balFirst prG ops.toList && !indepG (apS ops) (tch prG) ops }
theorem Cg_ok {K : FuncId → List T → Option (List T)} (h : ∀ f ts rs, K f ts = some rs → PCall Try.prog f ts rs) : KOk (Cg K) := ⟨names_ok, h, fun _ _ _ _ _ h => (by cases h)⟩

def K0 (f : FuncId) (ts : List T) : Option (List T) := none
theorem K0_ok : ∀ f ts rs, K0 f ts = some rs → PCall Try.prog f ts rs := fun _ _ _ h => by cases h

theorem lives22_run : runK (Cg K0) 30 5 [] [] = some ([.bool true], []) := by kernel_rfl
theorem lives22_ok : PCall Try.prog 5 [] [.bool true] := runK_sound (Cg_ok K0_ok) lives22_run trivial

/-- lives is known, too. -/
def K1 (f : FuncId) (ts : List T) : Option (List T) := if Nat.beq f 5 then match ts with | [] => some [.bool true] | _ => none else K0 f ts
theorem K1_ok : ∀ f ts rs, K1 f ts = some rs → PCall Try.prog f ts rs := by
  intro f ts rs h
  unfold K1 at h
  split at h
  · rename_i hf
    have hf' : f = 5 := by simpa using hf
    subst hf'
    split at h
    · injection h with h; subst h; exact lives22_ok
    · cases h
  · exact K0_ok f ts rs h
end Go.HM.Gr
