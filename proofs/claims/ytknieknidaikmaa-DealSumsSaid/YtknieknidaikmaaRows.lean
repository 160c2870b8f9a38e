/-
  No cell of these rows narrows 'for every input' (looked for: loops, veiled, ifaces, maps, wideKeys, modest, calm, conditions, laid).
  DERIVED. THE GIVEN ROWS OF THIS SEAT. 4 by the template 'for every input the law returns true; each argument reads behind the call as it read before'; 0 by the template 'total and deterministic' (their statements: YtknieknidaikmaaTotals.lean).
  GIVEN WITH THE SEED: the statements are not yours to turn. If you find one false, say at which input.
  Laid BY PROGRAM, IN A SANDBOX (cutbox-rows.mjs): the forced cells as the released guide's own fill.sh prints them over the translation 6612b32d5b3fbb58… (all of the seat's roots in one cut). By AI agents, Wed Nov 11 2026. No macro, syntax, notation, axiom, sorry.
-/
import Derived.Test.YtknieknidaikmaaChecked
import GoSem.Claim
import GoSem.ClaimJoined
import GoSem.ClaimMapViews
import Derived.JoinedTies
import Derived.KernelRfl
namespace Go.Proofs.Ytknieknidaikmaa
/- THE CELL 'sum', in the pinned program and in every row, IS THE sha256 OF THE DUMP (.gsa) THAT YtknieknidaikmaaProg.lean LOADS. Nothing in Lean hashes anything: it is a label: what it is worth is what the hold of that sum in a sandbox is worth. -/
noncomputable def Try.pinned : Pinned := { name := "ytknieknidaikmaa", sum := "6612b32d5b3fbb5802ee3f074ca6412b975922975d1f0ff572049a2792ad71be", checked := Try.checked }
namespace Rows
def none {H : Type} : Left H := { results := [], args := [] }

/-- 'tollhouselaw14.DealSums': WHATEVER THE INPUT: true; the input reads as it did. -/
def dealSumsSpec : ChangeSpec := { name := "dealSums", fn := fun _ => fun
  | [d1, d2, d3, d4] => { results := [.lit (.bool true)], args := [d1, d2, d3, d4] }
  | _ => none }
def dealSumsRow : OpenClaim := { program := "ytknieknidaikmaa", sum := "6612b32d5b3fbb5802ee3f074ca6412b975922975d1f0ff572049a2792ad71be", func := "tollhouse/tollhouselaw14.DealSums", spec := "dealSums", unfollowed := true, recurses := true, plainKeys := false, apart := false }
def DealSumsSaid : Prop := dealSumsRow.holds Try.pinned (OpenSpec.ofChange dealSumsSpec)

/-- ITS FALSE NEIGHBOUR: 'it returns false'. Refute it at one input. -/
def dealSumsWrong : ChangeSpec := { name := "dealSums", fn := fun _ => fun
  | [d1, d2, d3, d4] => { results := [.lit (.bool false)], args := [d1, d2, d3, d4] }
  | _ => none }
def DealSumsWrongFalsely : Prop := dealSumsRow.holds Try.pinned (OpenSpec.ofChange dealSumsWrong)

/-- 'tollhouselaw14.DealPlaces': WHATEVER THE INPUT: true; the input reads as it did. -/
def dealPlacesSpec : ChangeSpec := { name := "dealPlaces", fn := fun _ => fun
  | [d1, d2, d3, d4] => { results := [.lit (.bool true)], args := [d1, d2, d3, d4] }
  | _ => none }
def dealPlacesRow : OpenClaim := { program := "ytknieknidaikmaa", sum := "6612b32d5b3fbb5802ee3f074ca6412b975922975d1f0ff572049a2792ad71be", func := "tollhouse/tollhouselaw14.DealPlaces", spec := "dealPlaces", unfollowed := true, recurses := true, plainKeys := false, apart := false }
def DealPlacesSaid : Prop := dealPlacesRow.holds Try.pinned (OpenSpec.ofChange dealPlacesSpec)

/-- ITS FALSE NEIGHBOUR: 'it returns false'. Refute it at one input. -/
def dealPlacesWrong : ChangeSpec := { name := "dealPlaces", fn := fun _ => fun
  | [d1, d2, d3, d4] => { results := [.lit (.bool false)], args := [d1, d2, d3, d4] }
  | _ => none }
def DealPlacesWrongFalsely : Prop := dealPlacesRow.holds Try.pinned (OpenSpec.ofChange dealPlacesWrong)

/-- 'tollhouselaw14.DealCommits': WHATEVER THE INPUT: true; the input reads as it did. -/
def dealCommitsSpec : ChangeSpec := { name := "dealCommits", fn := fun _ => fun
  | [d1, d2, d3, d4] => { results := [.lit (.bool true)], args := [d1, d2, d3, d4] }
  | _ => none }
def dealCommitsRow : OpenClaim := { program := "ytknieknidaikmaa", sum := "6612b32d5b3fbb5802ee3f074ca6412b975922975d1f0ff572049a2792ad71be", func := "tollhouse/tollhouselaw14.DealCommits", spec := "dealCommits", unfollowed := true, recurses := true, plainKeys := false, apart := false }
def DealCommitsSaid : Prop := dealCommitsRow.holds Try.pinned (OpenSpec.ofChange dealCommitsSpec)

/-- ITS FALSE NEIGHBOUR: 'it returns false'. Refute it at one input. -/
def dealCommitsWrong : ChangeSpec := { name := "dealCommits", fn := fun _ => fun
  | [d1, d2, d3, d4] => { results := [.lit (.bool false)], args := [d1, d2, d3, d4] }
  | _ => none }
def DealCommitsWrongFalsely : Prop := dealCommitsRow.holds Try.pinned (OpenSpec.ofChange dealCommitsWrong)

/-- 'tollhouselaw14.DealRevoked': WHATEVER THE INPUT: true; the input reads as it did. -/
def dealRevokedSpec : ChangeSpec := { name := "dealRevoked", fn := fun _ => fun
  | [d1, d2, d3, d4] => { results := [.lit (.bool true)], args := [d1, d2, d3, d4] }
  | _ => none }
def dealRevokedRow : OpenClaim := { program := "ytknieknidaikmaa", sum := "6612b32d5b3fbb5802ee3f074ca6412b975922975d1f0ff572049a2792ad71be", func := "tollhouse/tollhouselaw14.DealRevoked", spec := "dealRevoked", unfollowed := true, recurses := true, plainKeys := false, apart := false }
def DealRevokedSaid : Prop := dealRevokedRow.holds Try.pinned (OpenSpec.ofChange dealRevokedSpec)

/-- ITS FALSE NEIGHBOUR: 'it returns false'. Refute it at one input. -/
def dealRevokedWrong : ChangeSpec := { name := "dealRevoked", fn := fun _ => fun
  | [d1, d2, d3, d4] => { results := [.lit (.bool false)], args := [d1, d2, d3, d4] }
  | _ => none }
def DealRevokedWrongFalsely : Prop := dealRevokedRow.holds Try.pinned (OpenSpec.ofChange dealRevokedWrong)

/- THE SECOND FORM. 'bulk': how many values and letters a reading holds, each counted each time it is reached (what is shared counts as often as it is met; a slice's spare places count too). A statement '..UptoSaid' is the law's where the arguments, and the package variables that the reading takes, are together of bulk at most 1048576: NARROWER than '..Said'. Prove '..Said' where nothing that the law and all that it calls make is longer than what came in: it says more and counts as full. Else prove '..UptoSaid'. A law counts once. -/
mutual
def uptoBulk {H : Type} : DataW H → Nat
  | .lit (.string bytes) => bytes.length + 1
  | .lit _ => 1
  | .nil => 1
  | .ptr d => uptoBulk d + 1
  | .slice elems spare => uptoBulkAll elems + uptoBulkAll spare + 1
  | .agg parts => uptoBulkAll parts + 1
  | .iface _ d => uptoBulk d + 1
  | .map entries => uptoBulkEntries entries + 1
  | .held _ => 1
def uptoBulkAll {H : Type} : List (DataW H) → Nat
  | [] => 0
  | d :: r => uptoBulk d + uptoBulkAll r
def uptoBulkEntries {H : Type} : List (Lit × DataW H) → Nat
  | [] => 0
  | x :: r => uptoBulkEntry x + uptoBulkEntries r
def uptoBulkEntry {H : Type} : Lit × DataW H → Nat
  | (.string bytes, d) => bytes.length + uptoBulk d + 1
  | (_, d) => uptoBulk d + 1
 end
def uptoSmall : (H : Type) → List (DataW H) → Bool := fun _ ds => decide (uptoBulkAll ds ≤ 1048576)
def OpenSpec.upto (s : _root_.Go.ChangeSpec) : _root_.Go.OpenSpec := { _root_.Go.OpenSpec.ofChange s with cond := some uptoSmall }

/-- 'tollhouselaw14.DealSums', WHERE WHAT IT READS IS OF BULK AT MOST 1048576: true; the input reads as it did. -/
def dealSumsUptoRow : OpenClaim := { program := "ytknieknidaikmaa", sum := "6612b32d5b3fbb5802ee3f074ca6412b975922975d1f0ff572049a2792ad71be", func := "tollhouse/tollhouselaw14.DealSums", spec := "dealSums", unfollowed := true, recurses := true, plainKeys := false, apart := false, narrowed := true }
def DealSumsUptoSaid : Prop := dealSumsUptoRow.holds Try.pinned (OpenSpec.upto dealSumsSpec)

/-- 'tollhouselaw14.DealPlaces', WHERE WHAT IT READS IS OF BULK AT MOST 1048576: true; the input reads as it did. -/
def dealPlacesUptoRow : OpenClaim := { program := "ytknieknidaikmaa", sum := "6612b32d5b3fbb5802ee3f074ca6412b975922975d1f0ff572049a2792ad71be", func := "tollhouse/tollhouselaw14.DealPlaces", spec := "dealPlaces", unfollowed := true, recurses := true, plainKeys := false, apart := false, narrowed := true }
def DealPlacesUptoSaid : Prop := dealPlacesUptoRow.holds Try.pinned (OpenSpec.upto dealPlacesSpec)

/-- 'tollhouselaw14.DealCommits', WHERE WHAT IT READS IS OF BULK AT MOST 1048576: true; the input reads as it did. -/
def dealCommitsUptoRow : OpenClaim := { program := "ytknieknidaikmaa", sum := "6612b32d5b3fbb5802ee3f074ca6412b975922975d1f0ff572049a2792ad71be", func := "tollhouse/tollhouselaw14.DealCommits", spec := "dealCommits", unfollowed := true, recurses := true, plainKeys := false, apart := false, narrowed := true }
def DealCommitsUptoSaid : Prop := dealCommitsUptoRow.holds Try.pinned (OpenSpec.upto dealCommitsSpec)

/-- 'tollhouselaw14.DealRevoked', WHERE WHAT IT READS IS OF BULK AT MOST 1048576: true; the input reads as it did. -/
def dealRevokedUptoRow : OpenClaim := { program := "ytknieknidaikmaa", sum := "6612b32d5b3fbb5802ee3f074ca6412b975922975d1f0ff572049a2792ad71be", func := "tollhouse/tollhouselaw14.DealRevoked", spec := "dealRevoked", unfollowed := true, recurses := true, plainKeys := false, apart := false, narrowed := true }
def DealRevokedUptoSaid : Prop := dealRevokedUptoRow.holds Try.pinned (OpenSpec.upto dealRevokedSpec)

end Rows
end Go.Proofs.Ytknieknidaikmaa
