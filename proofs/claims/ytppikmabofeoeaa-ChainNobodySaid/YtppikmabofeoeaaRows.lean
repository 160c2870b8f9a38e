/-
  No cell of these rows narrows 'for every input' (looked for: loops, veiled, ifaces, maps, wideKeys, modest, calm, conditions, laid).
  DERIVED. THE GIVEN ROWS OF THIS SEAT. 5 by the template 'for every input the law returns true; each argument reads behind the call as it read before'; 0 by the template 'total and deterministic' (their statements: YtppikmabofeoeaaTotals.lean).
  GIVEN WITH THE SEED: the statements are not yours to turn. If you find one false, say at which input.
  Laid BY PROGRAM, IN A SANDBOX (cutbox-rows.mjs): the forced cells as the released guide's own fill.sh prints them over the translation 2fec64b98549751d… (all of the seat's roots in one cut). By AI agents, Wed Nov 11 2026. No macro, syntax, notation, axiom, sorry.
-/
import Derived.Test.YtppikmabofeoeaaChecked
import GoSem.Claim
import GoSem.ClaimJoined
import GoSem.ClaimMapViews
import Derived.JoinedTies
import Derived.KernelRfl
namespace Go.Proofs.Ytppikmabofeoeaa
/- THE CELL 'sum', in the pinned program and in every row, IS THE sha256 OF THE DUMP (.gsa) THAT YtppikmabofeoeaaProg.lean LOADS. Nothing in Lean hashes anything: it is a label: what it is worth is what the hold of that sum in a sandbox is worth. -/
noncomputable def Try.pinned : Pinned := { name := "ytppikmabofeoeaa", sum := "2fec64b98549751d8770a7fd4d96e9a5189916468dc444b68844c2a8f805d6c8", checked := Try.checked }
namespace Rows
def none {H : Type} : Left H := { results := [], args := [] }

/-- 'tollhouselaw13.ChainKeeps': WHATEVER THE INPUT: true; the input reads as it did. -/
def chainKeepsSpec : ChangeSpec := { name := "chainKeeps", fn := fun _ => fun
  | [d1, d2] => { results := [.lit (.bool true)], args := [d1, d2] }
  | _ => none }
def chainKeepsRow : OpenClaim := { program := "ytppikmabofeoeaa", sum := "2fec64b98549751d8770a7fd4d96e9a5189916468dc444b68844c2a8f805d6c8", func := "tollhouse/tollhouselaw13.ChainKeeps", spec := "chainKeeps", unfollowed := true, recurses := true, plainKeys := false, apart := false }
def ChainKeepsSaid : Prop := chainKeepsRow.holds Try.pinned (OpenSpec.ofChange chainKeepsSpec)

/-- ITS FALSE NEIGHBOUR: 'it returns false'. Refute it at one input. -/
def chainKeepsWrong : ChangeSpec := { name := "chainKeeps", fn := fun _ => fun
  | [d1, d2] => { results := [.lit (.bool false)], args := [d1, d2] }
  | _ => none }
def ChainKeepsWrongFalsely : Prop := chainKeepsRow.holds Try.pinned (OpenSpec.ofChange chainKeepsWrong)

/-- 'tollhouselaw13.ChainPaths': WHATEVER THE INPUT: true; the input reads as it did. -/
def chainPathsSpec : ChangeSpec := { name := "chainPaths", fn := fun _ => fun
  | [d1, d2, d3, d4, d5, d6] => { results := [.lit (.bool true)], args := [d1, d2, d3, d4, d5, d6] }
  | _ => none }
def chainPathsRow : OpenClaim := { program := "ytppikmabofeoeaa", sum := "2fec64b98549751d8770a7fd4d96e9a5189916468dc444b68844c2a8f805d6c8", func := "tollhouse/tollhouselaw13.ChainPaths", spec := "chainPaths", unfollowed := true, recurses := true, plainKeys := false, apart := false }
def ChainPathsSaid : Prop := chainPathsRow.holds Try.pinned (OpenSpec.ofChange chainPathsSpec)

/-- ITS FALSE NEIGHBOUR: 'it returns false'. Refute it at one input. -/
def chainPathsWrong : ChangeSpec := { name := "chainPaths", fn := fun _ => fun
  | [d1, d2, d3, d4, d5, d6] => { results := [.lit (.bool false)], args := [d1, d2, d3, d4, d5, d6] }
  | _ => none }
def ChainPathsWrongFalsely : Prop := chainPathsRow.holds Try.pinned (OpenSpec.ofChange chainPathsWrong)

/-- 'tollhouselaw13.ChainConflict': WHATEVER THE INPUT: true; the input reads as it did. -/
def chainConflictSpec : ChangeSpec := { name := "chainConflict", fn := fun _ => fun
  | [d1, d2, d3] => { results := [.lit (.bool true)], args := [d1, d2, d3] }
  | _ => none }
def chainConflictRow : OpenClaim := { program := "ytppikmabofeoeaa", sum := "2fec64b98549751d8770a7fd4d96e9a5189916468dc444b68844c2a8f805d6c8", func := "tollhouse/tollhouselaw13.ChainConflict", spec := "chainConflict", unfollowed := true, recurses := true, plainKeys := false, apart := false }
def ChainConflictSaid : Prop := chainConflictRow.holds Try.pinned (OpenSpec.ofChange chainConflictSpec)

/-- ITS FALSE NEIGHBOUR: 'it returns false'. Refute it at one input. -/
def chainConflictWrong : ChangeSpec := { name := "chainConflict", fn := fun _ => fun
  | [d1, d2, d3] => { results := [.lit (.bool false)], args := [d1, d2, d3] }
  | _ => none }
def ChainConflictWrongFalsely : Prop := chainConflictRow.holds Try.pinned (OpenSpec.ofChange chainConflictWrong)

/-- 'tollhouselaw13.ChainDoes': WHATEVER THE INPUT: true; the input reads as it did. -/
def chainDoesSpec : ChangeSpec := { name := "chainDoes", fn := fun _ => fun
  | [d1, d2, d3] => { results := [.lit (.bool true)], args := [d1, d2, d3] }
  | _ => none }
def chainDoesRow : OpenClaim := { program := "ytppikmabofeoeaa", sum := "2fec64b98549751d8770a7fd4d96e9a5189916468dc444b68844c2a8f805d6c8", func := "tollhouse/tollhouselaw13.ChainDoes", spec := "chainDoes", unfollowed := true, recurses := true, plainKeys := false, apart := false }
def ChainDoesSaid : Prop := chainDoesRow.holds Try.pinned (OpenSpec.ofChange chainDoesSpec)

/-- ITS FALSE NEIGHBOUR: 'it returns false'. Refute it at one input. -/
def chainDoesWrong : ChangeSpec := { name := "chainDoes", fn := fun _ => fun
  | [d1, d2, d3] => { results := [.lit (.bool false)], args := [d1, d2, d3] }
  | _ => none }
def ChainDoesWrongFalsely : Prop := chainDoesRow.holds Try.pinned (OpenSpec.ofChange chainDoesWrong)

/-- 'tollhouselaw13.ChainNobody': WHATEVER THE INPUT: true; the input reads as it did. -/
def chainNobodySpec : ChangeSpec := { name := "chainNobody", fn := fun _ => fun
  | [d1, d2] => { results := [.lit (.bool true)], args := [d1, d2] }
  | _ => none }
def chainNobodyRow : OpenClaim := { program := "ytppikmabofeoeaa", sum := "2fec64b98549751d8770a7fd4d96e9a5189916468dc444b68844c2a8f805d6c8", func := "tollhouse/tollhouselaw13.ChainNobody", spec := "chainNobody", unfollowed := true, recurses := true, plainKeys := false, apart := false }
def ChainNobodySaid : Prop := chainNobodyRow.holds Try.pinned (OpenSpec.ofChange chainNobodySpec)

/-- ITS FALSE NEIGHBOUR: 'it returns false'. Refute it at one input. -/
def chainNobodyWrong : ChangeSpec := { name := "chainNobody", fn := fun _ => fun
  | [d1, d2] => { results := [.lit (.bool false)], args := [d1, d2] }
  | _ => none }
def ChainNobodyWrongFalsely : Prop := chainNobodyRow.holds Try.pinned (OpenSpec.ofChange chainNobodyWrong)

/- THE SECOND FORM. 'bulk': how many values and letters a reading holds, each counted each time it is reached (what is shared counts as often as it is met; a slice's spare places count too). A statement '..UptoSaid' is the law's where the arguments, and the package variables that the reading takes, are together of bulk at most 1048576: NARROWER than '..Said'. Prove '..Said' where nothing that the law and all that it calls make is longer than what came in: it says more and counts as full. Else prove '..UptoSaid'. A law counts once. -/
mutual
def uptoBulk {H : Type} : DataW H → Nat
  | .lit (.string bytes) => bytes.length + 1
  | .lit _ => 1
  | .nil => 1
  | .ptr d => uptoBulk d + 1
  | .slice elems spare => uptoBulkAll elems + uptoBulkAll spare + 1
  | .agg parts => uptoBulkAll parts + 1
  | .iface _ d => uptoBulk d + 1
  | .map entries => uptoBulkEntries entries + 1
  | .held _ => 1
def uptoBulkAll {H : Type} : List (DataW H) → Nat
  | [] => 0
  | d :: r => uptoBulk d + uptoBulkAll r
def uptoBulkEntries {H : Type} : List (Lit × DataW H) → Nat
  | [] => 0
  | x :: r => uptoBulkEntry x + uptoBulkEntries r
def uptoBulkEntry {H : Type} : Lit × DataW H → Nat
  | (.string bytes, d) => bytes.length + uptoBulk d + 1
  | (_, d) => uptoBulk d + 1
 end
def uptoSmall : (H : Type) → List (DataW H) → Bool := fun _ ds => decide (uptoBulkAll ds ≤ 1048576)
def OpenSpec.upto (s : _root_.Go.ChangeSpec) : _root_.Go.OpenSpec := { _root_.Go.OpenSpec.ofChange s with cond := some uptoSmall }

/-- 'tollhouselaw13.ChainKeeps', WHERE WHAT IT READS IS OF BULK AT MOST 1048576: true; the input reads as it did. -/
def chainKeepsUptoRow : OpenClaim := { program := "ytppikmabofeoeaa", sum := "2fec64b98549751d8770a7fd4d96e9a5189916468dc444b68844c2a8f805d6c8", func := "tollhouse/tollhouselaw13.ChainKeeps", spec := "chainKeeps", unfollowed := true, recurses := true, plainKeys := false, apart := false, narrowed := true }
def ChainKeepsUptoSaid : Prop := chainKeepsUptoRow.holds Try.pinned (OpenSpec.upto chainKeepsSpec)

/-- 'tollhouselaw13.ChainPaths', WHERE WHAT IT READS IS OF BULK AT MOST 1048576: true; the input reads as it did. -/
def chainPathsUptoRow : OpenClaim := { program := "ytppikmabofeoeaa", sum := "2fec64b98549751d8770a7fd4d96e9a5189916468dc444b68844c2a8f805d6c8", func := "tollhouse/tollhouselaw13.ChainPaths", spec := "chainPaths", unfollowed := true, recurses := true, plainKeys := false, apart := false, narrowed := true }
def ChainPathsUptoSaid : Prop := chainPathsUptoRow.holds Try.pinned (OpenSpec.upto chainPathsSpec)

/-- 'tollhouselaw13.ChainConflict', WHERE WHAT IT READS IS OF BULK AT MOST 1048576: true; the input reads as it did. -/
def chainConflictUptoRow : OpenClaim := { program := "ytppikmabofeoeaa", sum := "2fec64b98549751d8770a7fd4d96e9a5189916468dc444b68844c2a8f805d6c8", func := "tollhouse/tollhouselaw13.ChainConflict", spec := "chainConflict", unfollowed := true, recurses := true, plainKeys := false, apart := false, narrowed := true }
def ChainConflictUptoSaid : Prop := chainConflictUptoRow.holds Try.pinned (OpenSpec.upto chainConflictSpec)

/-- 'tollhouselaw13.ChainDoes', WHERE WHAT IT READS IS OF BULK AT MOST 1048576: true; the input reads as it did. -/
def chainDoesUptoRow : OpenClaim := { program := "ytppikmabofeoeaa", sum := "2fec64b98549751d8770a7fd4d96e9a5189916468dc444b68844c2a8f805d6c8", func := "tollhouse/tollhouselaw13.ChainDoes", spec := "chainDoes", unfollowed := true, recurses := true, plainKeys := false, apart := false, narrowed := true }
def ChainDoesUptoSaid : Prop := chainDoesUptoRow.holds Try.pinned (OpenSpec.upto chainDoesSpec)

/-- 'tollhouselaw13.ChainNobody', WHERE WHAT IT READS IS OF BULK AT MOST 1048576: true; the input reads as it did. -/
def chainNobodyUptoRow : OpenClaim := { program := "ytppikmabofeoeaa", sum := "2fec64b98549751d8770a7fd4d96e9a5189916468dc444b68844c2a8f805d6c8", func := "tollhouse/tollhouselaw13.ChainNobody", spec := "chainNobody", unfollowed := true, recurses := true, plainKeys := false, apart := false, narrowed := true }
def ChainNobodyUptoSaid : Prop := chainNobodyUptoRow.holds Try.pinned (OpenSpec.upto chainNobodySpec)

end Rows
end Go.Proofs.Ytppikmabofeoeaa
