/-
  No cell of these rows narrows 'for every input' (looked for: loops, veiled, ifaces, maps, wideKeys, modest, calm, conditions, laid).
  DERIVED. THE GIVEN ROWS OF THIS SEAT. 10 by the template 'for every input the law returns true; each argument reads behind the call as it read before'; 0 by the template 'total and deterministic' (their statements: YtbipkkebonohjaaTotals.lean).
  GIVEN WITH THE SEED: the statements are not yours to turn. If you find one false, say at which input.
  Laid BY PROGRAM, IN A SANDBOX (cutbox-rows.mjs): the forced cells as the released guide's own fill.sh prints them over the translation 0caf7826e1084221… (all of the seat's roots in one cut). By AI agents, Wed Nov 11 2026. No macro, syntax, notation, axiom, sorry.
-/
import Derived.Test.YtbipkkebonohjaaChecked
import GoSem.Claim
import GoSem.ClaimJoined
import GoSem.ClaimMapViews
import Derived.JoinedTies
import Derived.KernelRfl
namespace Go.Proofs.Ytbipkkebonohjaa
/- THE CELL 'sum', in the pinned program and in every row, IS THE sha256 OF THE DUMP (.gsa) THAT YtbipkkebonohjaaProg.lean LOADS. Nothing in Lean hashes anything: it is a label: what it is worth is what the hold of that sum in a sandbox is worth. -/
noncomputable def Try.pinned : Pinned := { name := "ytbipkkebonohjaa", sum := "0caf7826e1084221840c871d8ae24e577788b3366f9141039606d8278a0447b4", checked := Try.checked }
namespace Rows
def none {H : Type} : Left H := { results := [], args := [] }

/-- 'tollhouselaw14.DealCommits': WHATEVER THE INPUT: true; the input reads as it did. -/
def dealCommitsSpec : ChangeSpec := { name := "dealCommits", fn := fun _ => fun
  | [d1, d2, d3, d4] => { results := [.lit (.bool true)], args := [d1, d2, d3, d4] }
  | _ => none }
def dealCommitsRow : OpenClaim := { program := "ytbipkkebonohjaa", sum := "0caf7826e1084221840c871d8ae24e577788b3366f9141039606d8278a0447b4", func := "tollhouse/tollhouselaw14.DealCommits", spec := "dealCommits", unfollowed := true, recurses := true, plainKeys := false, apart := false }
def DealCommitsSaid : Prop := dealCommitsRow.holds Try.pinned (OpenSpec.ofChange dealCommitsSpec)

/-- ITS FALSE NEIGHBOUR: 'it returns false'. Refute it at one input. -/
def dealCommitsWrong : ChangeSpec := { name := "dealCommits", fn := fun _ => fun
  | [d1, d2, d3, d4] => { results := [.lit (.bool false)], args := [d1, d2, d3, d4] }
  | _ => none }
def DealCommitsWrongFalsely : Prop := dealCommitsRow.holds Try.pinned (OpenSpec.ofChange dealCommitsWrong)

/-- 'tollhouselaw17.ResolverTimes': WHATEVER THE INPUT: true; the input reads as it did. -/
def resolverTimesSpec : ChangeSpec := { name := "resolverTimes", fn := fun _ => fun
  | [d1, d2, d3] => { results := [.lit (.bool true)], args := [d1, d2, d3] }
  | _ => none }
def resolverTimesRow : OpenClaim := { program := "ytbipkkebonohjaa", sum := "0caf7826e1084221840c871d8ae24e577788b3366f9141039606d8278a0447b4", func := "tollhouse/tollhouselaw17.ResolverTimes", spec := "resolverTimes", unfollowed := true, recurses := true, plainKeys := false, apart := false }
def ResolverTimesSaid : Prop := resolverTimesRow.holds Try.pinned (OpenSpec.ofChange resolverTimesSpec)

/-- ITS FALSE NEIGHBOUR: 'it returns false'. Refute it at one input. -/
def resolverTimesWrong : ChangeSpec := { name := "resolverTimes", fn := fun _ => fun
  | [d1, d2, d3] => { results := [.lit (.bool false)], args := [d1, d2, d3] }
  | _ => none }
def ResolverTimesWrongFalsely : Prop := resolverTimesRow.holds Try.pinned (OpenSpec.ofChange resolverTimesWrong)

/-- 'tollhouselaw13.ChainKeeps': WHATEVER THE INPUT: true; the input reads as it did. -/
def chainKeepsSpec : ChangeSpec := { name := "chainKeeps", fn := fun _ => fun
  | [d1, d2] => { results := [.lit (.bool true)], args := [d1, d2] }
  | _ => none }
def chainKeepsRow : OpenClaim := { program := "ytbipkkebonohjaa", sum := "0caf7826e1084221840c871d8ae24e577788b3366f9141039606d8278a0447b4", func := "tollhouse/tollhouselaw13.ChainKeeps", spec := "chainKeeps", unfollowed := true, recurses := true, plainKeys := false, apart := false }
def ChainKeepsSaid : Prop := chainKeepsRow.holds Try.pinned (OpenSpec.ofChange chainKeepsSpec)

/-- ITS FALSE NEIGHBOUR: 'it returns false'. Refute it at one input. -/
def chainKeepsWrong : ChangeSpec := { name := "chainKeeps", fn := fun _ => fun
  | [d1, d2] => { results := [.lit (.bool false)], args := [d1, d2] }
  | _ => none }
def ChainKeepsWrongFalsely : Prop := chainKeepsRow.holds Try.pinned (OpenSpec.ofChange chainKeepsWrong)

/-- 'tollhouselaw15.UpdatesViews': WHATEVER THE INPUT: true; the input reads as it did. -/
def updatesViewsSpec : ChangeSpec := { name := "updatesViews", fn := fun _ => fun
  | [d1, d2, d3, d4, d5] => { results := [.lit (.bool true)], args := [d1, d2, d3, d4, d5] }
  | _ => none }
def updatesViewsRow : OpenClaim := { program := "ytbipkkebonohjaa", sum := "0caf7826e1084221840c871d8ae24e577788b3366f9141039606d8278a0447b4", func := "tollhouse/tollhouselaw15.UpdatesViews", spec := "updatesViews", unfollowed := true, recurses := true, plainKeys := false, apart := false }
def UpdatesViewsSaid : Prop := updatesViewsRow.holds Try.pinned (OpenSpec.ofChange updatesViewsSpec)

/-- ITS FALSE NEIGHBOUR: 'it returns false'. Refute it at one input. -/
def updatesViewsWrong : ChangeSpec := { name := "updatesViews", fn := fun _ => fun
  | [d1, d2, d3, d4, d5] => { results := [.lit (.bool false)], args := [d1, d2, d3, d4, d5] }
  | _ => none }
def UpdatesViewsWrongFalsely : Prop := updatesViewsRow.holds Try.pinned (OpenSpec.ofChange updatesViewsWrong)

/-- 'tollhouselaw15.UpdatesMay': WHATEVER THE INPUT: true; the input reads as it did. -/
def updatesMaySpec : ChangeSpec := { name := "updatesMay", fn := fun _ => fun
  | [d1, d2, d3, d4, d5] => { results := [.lit (.bool true)], args := [d1, d2, d3, d4, d5] }
  | _ => none }
def updatesMayRow : OpenClaim := { program := "ytbipkkebonohjaa", sum := "0caf7826e1084221840c871d8ae24e577788b3366f9141039606d8278a0447b4", func := "tollhouse/tollhouselaw15.UpdatesMay", spec := "updatesMay", unfollowed := true, recurses := true, plainKeys := false, apart := false }
def UpdatesMaySaid : Prop := updatesMayRow.holds Try.pinned (OpenSpec.ofChange updatesMaySpec)

/-- ITS FALSE NEIGHBOUR: 'it returns false'. Refute it at one input. -/
def updatesMayWrong : ChangeSpec := { name := "updatesMay", fn := fun _ => fun
  | [d1, d2, d3, d4, d5] => { results := [.lit (.bool false)], args := [d1, d2, d3, d4, d5] }
  | _ => none }
def UpdatesMayWrongFalsely : Prop := updatesMayRow.holds Try.pinned (OpenSpec.ofChange updatesMayWrong)

/-- 'tollhouselaw15.UpdatesSums': WHATEVER THE INPUT: true; the input reads as it did. -/
def updatesSumsSpec : ChangeSpec := { name := "updatesSums", fn := fun _ => fun
  | [d1, d2, d3, d4, d5] => { results := [.lit (.bool true)], args := [d1, d2, d3, d4, d5] }
  | _ => none }
def updatesSumsRow : OpenClaim := { program := "ytbipkkebonohjaa", sum := "0caf7826e1084221840c871d8ae24e577788b3366f9141039606d8278a0447b4", func := "tollhouse/tollhouselaw15.UpdatesSums", spec := "updatesSums", unfollowed := true, recurses := true, plainKeys := false, apart := false }
def UpdatesSumsSaid : Prop := updatesSumsRow.holds Try.pinned (OpenSpec.ofChange updatesSumsSpec)

/-- ITS FALSE NEIGHBOUR: 'it returns false'. Refute it at one input. -/
def updatesSumsWrong : ChangeSpec := { name := "updatesSums", fn := fun _ => fun
  | [d1, d2, d3, d4, d5] => { results := [.lit (.bool false)], args := [d1, d2, d3, d4, d5] }
  | _ => none }
def UpdatesSumsWrongFalsely : Prop := updatesSumsRow.holds Try.pinned (OpenSpec.ofChange updatesSumsWrong)

/-- 'tollhouselaw15.UpdatesBack': WHATEVER THE INPUT: true; the input reads as it did. -/
def updatesBackSpec : ChangeSpec := { name := "updatesBack", fn := fun _ => fun
  | [d1, d2] => { results := [.lit (.bool true)], args := [d1, d2] }
  | _ => none }
def updatesBackRow : OpenClaim := { program := "ytbipkkebonohjaa", sum := "0caf7826e1084221840c871d8ae24e577788b3366f9141039606d8278a0447b4", func := "tollhouse/tollhouselaw15.UpdatesBack", spec := "updatesBack", unfollowed := true, recurses := true, plainKeys := false, apart := false }
def UpdatesBackSaid : Prop := updatesBackRow.holds Try.pinned (OpenSpec.ofChange updatesBackSpec)

/-- ITS FALSE NEIGHBOUR: 'it returns false'. Refute it at one input. -/
def updatesBackWrong : ChangeSpec := { name := "updatesBack", fn := fun _ => fun
  | [d1, d2] => { results := [.lit (.bool false)], args := [d1, d2] }
  | _ => none }
def UpdatesBackWrongFalsely : Prop := updatesBackRow.holds Try.pinned (OpenSpec.ofChange updatesBackWrong)

/-- 'tollhouselaw15.UpdatesLimits': WHATEVER THE INPUT: true; the input reads as it did. -/
def updatesLimitsSpec : ChangeSpec := { name := "updatesLimits", fn := fun _ => fun
  | [d1, d2, d3] => { results := [.lit (.bool true)], args := [d1, d2, d3] }
  | _ => none }
def updatesLimitsRow : OpenClaim := { program := "ytbipkkebonohjaa", sum := "0caf7826e1084221840c871d8ae24e577788b3366f9141039606d8278a0447b4", func := "tollhouse/tollhouselaw15.UpdatesLimits", spec := "updatesLimits", unfollowed := true, recurses := true, plainKeys := false, apart := false }
def UpdatesLimitsSaid : Prop := updatesLimitsRow.holds Try.pinned (OpenSpec.ofChange updatesLimitsSpec)

/-- ITS FALSE NEIGHBOUR: 'it returns false'. Refute it at one input. -/
def updatesLimitsWrong : ChangeSpec := { name := "updatesLimits", fn := fun _ => fun
  | [d1, d2, d3] => { results := [.lit (.bool false)], args := [d1, d2, d3] }
  | _ => none }
def UpdatesLimitsWrongFalsely : Prop := updatesLimitsRow.holds Try.pinned (OpenSpec.ofChange updatesLimitsWrong)

/-- 'tollhouselaw13.ChainConflict': WHATEVER THE INPUT: true; the input reads as it did. -/
def chainConflictSpec : ChangeSpec := { name := "chainConflict", fn := fun _ => fun
  | [d1, d2, d3] => { results := [.lit (.bool true)], args := [d1, d2, d3] }
  | _ => none }
def chainConflictRow : OpenClaim := { program := "ytbipkkebonohjaa", sum := "0caf7826e1084221840c871d8ae24e577788b3366f9141039606d8278a0447b4", func := "tollhouse/tollhouselaw13.ChainConflict", spec := "chainConflict", unfollowed := true, recurses := true, plainKeys := false, apart := false }
def ChainConflictSaid : Prop := chainConflictRow.holds Try.pinned (OpenSpec.ofChange chainConflictSpec)

/-- ITS FALSE NEIGHBOUR: 'it returns false'. Refute it at one input. -/
def chainConflictWrong : ChangeSpec := { name := "chainConflict", fn := fun _ => fun
  | [d1, d2, d3] => { results := [.lit (.bool false)], args := [d1, d2, d3] }
  | _ => none }
def ChainConflictWrongFalsely : Prop := chainConflictRow.holds Try.pinned (OpenSpec.ofChange chainConflictWrong)

/-- 'tollhouselaw13.ChainDoes': WHATEVER THE INPUT: true; the input reads as it did. -/
def chainDoesSpec : ChangeSpec := { name := "chainDoes", fn := fun _ => fun
  | [d1, d2, d3] => { results := [.lit (.bool true)], args := [d1, d2, d3] }
  | _ => none }
def chainDoesRow : OpenClaim := { program := "ytbipkkebonohjaa", sum := "0caf7826e1084221840c871d8ae24e577788b3366f9141039606d8278a0447b4", func := "tollhouse/tollhouselaw13.ChainDoes", spec := "chainDoes", unfollowed := true, recurses := true, plainKeys := false, apart := false }
def ChainDoesSaid : Prop := chainDoesRow.holds Try.pinned (OpenSpec.ofChange chainDoesSpec)

/-- ITS FALSE NEIGHBOUR: 'it returns false'. Refute it at one input. -/
def chainDoesWrong : ChangeSpec := { name := "chainDoes", fn := fun _ => fun
  | [d1, d2, d3] => { results := [.lit (.bool false)], args := [d1, d2, d3] }
  | _ => none }
def ChainDoesWrongFalsely : Prop := chainDoesRow.holds Try.pinned (OpenSpec.ofChange chainDoesWrong)

/- THE SECOND FORM. 'bulk': how many values and letters a reading holds, each counted each time it is reached (what is shared counts as often as it is met; a slice's spare places count too). A statement '..UptoSaid' is the law's where the arguments, and the package variables that the reading takes, are together of bulk at most 1048576: NARROWER than '..Said'. Prove '..Said' where nothing that the law and all that it calls make is longer than what came in: it says more and counts as full. Else prove '..UptoSaid'. A law counts once. -/
mutual
def uptoBulk {H : Type} : DataW H → Nat
  | .lit (.string bytes) => bytes.length + 1
  | .lit _ => 1
  | .nil => 1
  | .ptr d => uptoBulk d + 1
  | .slice elems spare => uptoBulkAll elems + uptoBulkAll spare + 1
  | .agg parts => uptoBulkAll parts + 1
  | .iface _ d => uptoBulk d + 1
  | .map entries => uptoBulkEntries entries + 1
  | .held _ => 1
def uptoBulkAll {H : Type} : List (DataW H) → Nat
  | [] => 0
  | d :: r => uptoBulk d + uptoBulkAll r
def uptoBulkEntries {H : Type} : List (Lit × DataW H) → Nat
  | [] => 0
  | x :: r => uptoBulkEntry x + uptoBulkEntries r
def uptoBulkEntry {H : Type} : Lit × DataW H → Nat
  | (.string bytes, d) => bytes.length + uptoBulk d + 1
  | (_, d) => uptoBulk d + 1
 end
def uptoSmall : (H : Type) → List (DataW H) → Bool := fun _ ds => decide (uptoBulkAll ds ≤ 1048576)
def OpenSpec.upto (s : _root_.Go.ChangeSpec) : _root_.Go.OpenSpec := { _root_.Go.OpenSpec.ofChange s with cond := some uptoSmall }

/-- 'tollhouselaw14.DealCommits', WHERE WHAT IT READS IS OF BULK AT MOST 1048576: true; the input reads as it did. -/
def dealCommitsUptoRow : OpenClaim := { program := "ytbipkkebonohjaa", sum := "0caf7826e1084221840c871d8ae24e577788b3366f9141039606d8278a0447b4", func := "tollhouse/tollhouselaw14.DealCommits", spec := "dealCommits", unfollowed := true, recurses := true, plainKeys := false, apart := false, narrowed := true }
def DealCommitsUptoSaid : Prop := dealCommitsUptoRow.holds Try.pinned (OpenSpec.upto dealCommitsSpec)

/-- 'tollhouselaw17.ResolverTimes', WHERE WHAT IT READS IS OF BULK AT MOST 1048576: true; the input reads as it did. -/
def resolverTimesUptoRow : OpenClaim := { program := "ytbipkkebonohjaa", sum := "0caf7826e1084221840c871d8ae24e577788b3366f9141039606d8278a0447b4", func := "tollhouse/tollhouselaw17.ResolverTimes", spec := "resolverTimes", unfollowed := true, recurses := true, plainKeys := false, apart := false, narrowed := true }
def ResolverTimesUptoSaid : Prop := resolverTimesUptoRow.holds Try.pinned (OpenSpec.upto resolverTimesSpec)

/-- 'tollhouselaw13.ChainKeeps', WHERE WHAT IT READS IS OF BULK AT MOST 1048576: true; the input reads as it did. -/
def chainKeepsUptoRow : OpenClaim := { program := "ytbipkkebonohjaa", sum := "0caf7826e1084221840c871d8ae24e577788b3366f9141039606d8278a0447b4", func := "tollhouse/tollhouselaw13.ChainKeeps", spec := "chainKeeps", unfollowed := true, recurses := true, plainKeys := false, apart := false, narrowed := true }
def ChainKeepsUptoSaid : Prop := chainKeepsUptoRow.holds Try.pinned (OpenSpec.upto chainKeepsSpec)

/-- 'tollhouselaw15.UpdatesViews', WHERE WHAT IT READS IS OF BULK AT MOST 1048576: true; the input reads as it did. -/
def updatesViewsUptoRow : OpenClaim := { program := "ytbipkkebonohjaa", sum := "0caf7826e1084221840c871d8ae24e577788b3366f9141039606d8278a0447b4", func := "tollhouse/tollhouselaw15.UpdatesViews", spec := "updatesViews", unfollowed := true, recurses := true, plainKeys := false, apart := false, narrowed := true }
def UpdatesViewsUptoSaid : Prop := updatesViewsUptoRow.holds Try.pinned (OpenSpec.upto updatesViewsSpec)

/-- 'tollhouselaw15.UpdatesMay', WHERE WHAT IT READS IS OF BULK AT MOST 1048576: true; the input reads as it did. -/
def updatesMayUptoRow : OpenClaim := { program := "ytbipkkebonohjaa", sum := "0caf7826e1084221840c871d8ae24e577788b3366f9141039606d8278a0447b4", func := "tollhouse/tollhouselaw15.UpdatesMay", spec := "updatesMay", unfollowed := true, recurses := true, plainKeys := false, apart := false, narrowed := true }
def UpdatesMayUptoSaid : Prop := updatesMayUptoRow.holds Try.pinned (OpenSpec.upto updatesMaySpec)

/-- 'tollhouselaw15.UpdatesSums', WHERE WHAT IT READS IS OF BULK AT MOST 1048576: true; the input reads as it did. -/
def updatesSumsUptoRow : OpenClaim := { program := "ytbipkkebonohjaa", sum := "0caf7826e1084221840c871d8ae24e577788b3366f9141039606d8278a0447b4", func := "tollhouse/tollhouselaw15.UpdatesSums", spec := "updatesSums", unfollowed := true, recurses := true, plainKeys := false, apart := false, narrowed := true }
def UpdatesSumsUptoSaid : Prop := updatesSumsUptoRow.holds Try.pinned (OpenSpec.upto updatesSumsSpec)

/-- 'tollhouselaw15.UpdatesBack', WHERE WHAT IT READS IS OF BULK AT MOST 1048576: true; the input reads as it did. -/
def updatesBackUptoRow : OpenClaim := { program := "ytbipkkebonohjaa", sum := "0caf7826e1084221840c871d8ae24e577788b3366f9141039606d8278a0447b4", func := "tollhouse/tollhouselaw15.UpdatesBack", spec := "updatesBack", unfollowed := true, recurses := true, plainKeys := false, apart := false, narrowed := true }
def UpdatesBackUptoSaid : Prop := updatesBackUptoRow.holds Try.pinned (OpenSpec.upto updatesBackSpec)

/-- 'tollhouselaw15.UpdatesLimits', WHERE WHAT IT READS IS OF BULK AT MOST 1048576: true; the input reads as it did. -/
def updatesLimitsUptoRow : OpenClaim := { program := "ytbipkkebonohjaa", sum := "0caf7826e1084221840c871d8ae24e577788b3366f9141039606d8278a0447b4", func := "tollhouse/tollhouselaw15.UpdatesLimits", spec := "updatesLimits", unfollowed := true, recurses := true, plainKeys := false, apart := false, narrowed := true }
def UpdatesLimitsUptoSaid : Prop := updatesLimitsUptoRow.holds Try.pinned (OpenSpec.upto updatesLimitsSpec)

/-- 'tollhouselaw13.ChainConflict', WHERE WHAT IT READS IS OF BULK AT MOST 1048576: true; the input reads as it did. -/
def chainConflictUptoRow : OpenClaim := { program := "ytbipkkebonohjaa", sum := "0caf7826e1084221840c871d8ae24e577788b3366f9141039606d8278a0447b4", func := "tollhouse/tollhouselaw13.ChainConflict", spec := "chainConflict", unfollowed := true, recurses := true, plainKeys := false, apart := false, narrowed := true }
def ChainConflictUptoSaid : Prop := chainConflictUptoRow.holds Try.pinned (OpenSpec.upto chainConflictSpec)

/-- 'tollhouselaw13.ChainDoes', WHERE WHAT IT READS IS OF BULK AT MOST 1048576: true; the input reads as it did. -/
def chainDoesUptoRow : OpenClaim := { program := "ytbipkkebonohjaa", sum := "0caf7826e1084221840c871d8ae24e577788b3366f9141039606d8278a0447b4", func := "tollhouse/tollhouselaw13.ChainDoes", spec := "chainDoes", unfollowed := true, recurses := true, plainKeys := false, apart := false, narrowed := true }
def ChainDoesUptoSaid : Prop := chainDoesUptoRow.holds Try.pinned (OpenSpec.upto chainDoesSpec)

end Rows
end Go.Proofs.Ytbipkkebonohjaa
