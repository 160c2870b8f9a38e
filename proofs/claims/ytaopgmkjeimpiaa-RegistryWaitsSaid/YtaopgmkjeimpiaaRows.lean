/-
  No cell of these rows narrows 'for every input' (looked for: loops, veiled, ifaces, maps, wideKeys, modest, calm, conditions, laid).
  DERIVED. THE GIVEN ROWS OF THIS SEAT. 6 by the template 'for every input the law returns true; each argument reads behind the call as it read before'; 0 by the template 'total and deterministic' (their statements: YtaopgmkjeimpiaaTotals.lean).
  GIVEN WITH THE SEED: the statements are not yours to turn. If you find one false, say at which input.
  Laid BY PROGRAM, IN A SANDBOX (cutbox-rows.mjs): the forced cells as the released guide's own fill.sh prints them over the translation 0d4350257415a4dd… (all of the seat's roots in one cut). By AI agents, Wed Nov 11 2026. No macro, syntax, notation, axiom, sorry.
-/
import Derived.Test.YtaopgmkjeimpiaaChecked
import GoSem.Claim
import GoSem.ClaimJoined
import GoSem.ClaimMapViews
import Derived.JoinedTies
import Derived.KernelRfl
namespace Go.Proofs.Ytaopgmkjeimpiaa
/- THE CELL 'sum', in the pinned program and in every row, IS THE sha256 OF THE DUMP (.gsa) THAT YtaopgmkjeimpiaaProg.lean LOADS. Nothing in Lean hashes anything: it is a label: what it is worth is what the hold of that sum in a sandbox is worth. -/
noncomputable def Try.pinned : Pinned := { name := "ytaopgmkjeimpiaa", sum := "0d4350257415a4dd84bac42cb0234ee6e6666b78432dcf862331cdec70b56050", checked := Try.checked }
namespace Rows
def none {H : Type} : Left H := { results := [], args := [] }

/-- 'tollhouselaw20.RegistryWaits': WHATEVER THE INPUT: true; the input reads as it did. -/
def registryWaitsSpec : ChangeSpec := { name := "registryWaits", fn := fun _ => fun
  | [d1, d2, d3, d4] => { results := [.lit (.bool true)], args := [d1, d2, d3, d4] }
  | _ => none }
def registryWaitsRow : OpenClaim := { program := "ytaopgmkjeimpiaa", sum := "0d4350257415a4dd84bac42cb0234ee6e6666b78432dcf862331cdec70b56050", func := "tollhouse/tollhouselaw20.RegistryWaits", spec := "registryWaits", unfollowed := true, recurses := true, named := ["math/bits.divideError", "math/bits.overflowError"], plainKeys := false, apart := false }
def RegistryWaitsSaid : Prop := registryWaitsRow.holds Try.pinned (OpenSpec.ofChange registryWaitsSpec)

/-- ITS FALSE NEIGHBOUR: 'it returns false'. Refute it at one input. -/
def registryWaitsWrong : ChangeSpec := { name := "registryWaits", fn := fun _ => fun
  | [d1, d2, d3, d4] => { results := [.lit (.bool false)], args := [d1, d2, d3, d4] }
  | _ => none }
def RegistryWaitsWrongFalsely : Prop := registryWaitsRow.holds Try.pinned (OpenSpec.ofChange registryWaitsWrong)

/-- 'tollhouselaw20.RegistryHolds': WHATEVER THE INPUT: true; the input reads as it did. -/
def registryHoldsSpec : ChangeSpec := { name := "registryHolds", fn := fun _ => fun
  | [d1, d2, d3] => { results := [.lit (.bool true)], args := [d1, d2, d3] }
  | _ => none }
def registryHoldsRow : OpenClaim := { program := "ytaopgmkjeimpiaa", sum := "0d4350257415a4dd84bac42cb0234ee6e6666b78432dcf862331cdec70b56050", func := "tollhouse/tollhouselaw20.RegistryHolds", spec := "registryHolds", unfollowed := true, recurses := true, named := ["math/bits.divideError", "math/bits.overflowError"], plainKeys := false, apart := false }
def RegistryHoldsSaid : Prop := registryHoldsRow.holds Try.pinned (OpenSpec.ofChange registryHoldsSpec)

/-- ITS FALSE NEIGHBOUR: 'it returns false'. Refute it at one input. -/
def registryHoldsWrong : ChangeSpec := { name := "registryHolds", fn := fun _ => fun
  | [d1, d2, d3] => { results := [.lit (.bool false)], args := [d1, d2, d3] }
  | _ => none }
def RegistryHoldsWrongFalsely : Prop := registryHoldsRow.holds Try.pinned (OpenSpec.ofChange registryHoldsWrong)

/-- 'tollhouselaw20.RegistryPays': WHATEVER THE INPUT: true; the input reads as it did. -/
def registryPaysSpec : ChangeSpec := { name := "registryPays", fn := fun _ => fun
  | [d] => { results := [.lit (.bool true)], args := [d] }
  | _ => none }
def registryPaysRow : OpenClaim := { program := "ytaopgmkjeimpiaa", sum := "0d4350257415a4dd84bac42cb0234ee6e6666b78432dcf862331cdec70b56050", func := "tollhouse/tollhouselaw20.RegistryPays", spec := "registryPays", unfollowed := true, recurses := true, named := ["math/bits.divideError", "math/bits.overflowError"], plainKeys := false, apart := false }
def RegistryPaysSaid : Prop := registryPaysRow.holds Try.pinned (OpenSpec.ofChange registryPaysSpec)

/-- ITS FALSE NEIGHBOUR: 'it returns false'. Refute it at one input. -/
def registryPaysWrong : ChangeSpec := { name := "registryPays", fn := fun _ => fun
  | [d] => { results := [.lit (.bool false)], args := [d] }
  | _ => none }
def RegistryPaysWrongFalsely : Prop := registryPaysRow.holds Try.pinned (OpenSpec.ofChange registryPaysWrong)

/-- 'tollhouselaw20.RegistryNobody': WHATEVER THE INPUT: true; the input reads as it did. -/
def registryNobodySpec : ChangeSpec := { name := "registryNobody", fn := fun _ => fun
  | [d] => { results := [.lit (.bool true)], args := [d] }
  | _ => none }
def registryNobodyRow : OpenClaim := { program := "ytaopgmkjeimpiaa", sum := "0d4350257415a4dd84bac42cb0234ee6e6666b78432dcf862331cdec70b56050", func := "tollhouse/tollhouselaw20.RegistryNobody", spec := "registryNobody", unfollowed := true, recurses := true, named := ["math/bits.divideError", "math/bits.overflowError"], plainKeys := false, apart := false }
def RegistryNobodySaid : Prop := registryNobodyRow.holds Try.pinned (OpenSpec.ofChange registryNobodySpec)

/-- ITS FALSE NEIGHBOUR: 'it returns false'. Refute it at one input. -/
def registryNobodyWrong : ChangeSpec := { name := "registryNobody", fn := fun _ => fun
  | [d] => { results := [.lit (.bool false)], args := [d] }
  | _ => none }
def RegistryNobodyWrongFalsely : Prop := registryNobodyRow.holds Try.pinned (OpenSpec.ofChange registryNobodyWrong)

/-- 'tollhouselaw22.GraphDoes': WHATEVER THE INPUT: true; the input reads as it did. -/
def graphDoesSpec : ChangeSpec := { name := "graphDoes", fn := fun _ => fun
  | [d1, d2] => { results := [.lit (.bool true)], args := [d1, d2] }
  | _ => none }
def graphDoesRow : OpenClaim := { program := "ytaopgmkjeimpiaa", sum := "0d4350257415a4dd84bac42cb0234ee6e6666b78432dcf862331cdec70b56050", func := "tollhouse/tollhouselaw22.GraphDoes", spec := "graphDoes", inPlace := ["slices.overlaps[tollhouse/api.Edge]", "math.Float64bits", "math.Float64frombits"], unfollowed := true, recurses := true, named := ["math/bits.divideError", "math/bits.overflowError"], plainKeys := false, apart := false }
def GraphDoesSaid : Prop := graphDoesRow.holds Try.pinned (OpenSpec.ofChange graphDoesSpec)

/-- ITS FALSE NEIGHBOUR: 'it returns false'. Refute it at one input. -/
def graphDoesWrong : ChangeSpec := { name := "graphDoes", fn := fun _ => fun
  | [d1, d2] => { results := [.lit (.bool false)], args := [d1, d2] }
  | _ => none }
def GraphDoesWrongFalsely : Prop := graphDoesRow.holds Try.pinned (OpenSpec.ofChange graphDoesWrong)

/-- 'tollhouselaw22.GraphNobody': WHATEVER THE INPUT: true; the input reads as it did. -/
def graphNobodySpec : ChangeSpec := { name := "graphNobody", fn := fun _ => fun
  | [d1, d2] => { results := [.lit (.bool true)], args := [d1, d2] }
  | _ => none }
def graphNobodyRow : OpenClaim := { program := "ytaopgmkjeimpiaa", sum := "0d4350257415a4dd84bac42cb0234ee6e6666b78432dcf862331cdec70b56050", func := "tollhouse/tollhouselaw22.GraphNobody", spec := "graphNobody", inPlace := ["slices.overlaps[tollhouse/api.Edge]", "math.Float64bits", "math.Float64frombits"], unfollowed := true, recurses := true, named := ["math/bits.divideError", "math/bits.overflowError"], plainKeys := false, apart := false }
def GraphNobodySaid : Prop := graphNobodyRow.holds Try.pinned (OpenSpec.ofChange graphNobodySpec)

/-- ITS FALSE NEIGHBOUR: 'it returns false'. Refute it at one input. -/
def graphNobodyWrong : ChangeSpec := { name := "graphNobody", fn := fun _ => fun
  | [d1, d2] => { results := [.lit (.bool false)], args := [d1, d2] }
  | _ => none }
def GraphNobodyWrongFalsely : Prop := graphNobodyRow.holds Try.pinned (OpenSpec.ofChange graphNobodyWrong)

/- THE SECOND FORM. 'bulk': how many values and letters a reading holds, each counted each time it is reached (what is shared counts as often as it is met; a slice's spare places count too). A statement '..UptoSaid' is the law's where the arguments, and the package variables that the reading takes, are together of bulk at most 1048576: NARROWER than '..Said'. Prove '..Said' where nothing that the law and all that it calls make is longer than what came in: it says more and counts as full. Else prove '..UptoSaid'. A law counts once. -/
mutual
def uptoBulk {H : Type} : DataW H → Nat
  | .lit (.string bytes) => bytes.length + 1
  | .lit _ => 1
  | .nil => 1
  | .ptr d => uptoBulk d + 1
  | .slice elems spare => uptoBulkAll elems + uptoBulkAll spare + 1
  | .agg parts => uptoBulkAll parts + 1
  | .iface _ d => uptoBulk d + 1
  | .map entries => uptoBulkEntries entries + 1
  | .held _ => 1
def uptoBulkAll {H : Type} : List (DataW H) → Nat
  | [] => 0
  | d :: r => uptoBulk d + uptoBulkAll r
def uptoBulkEntries {H : Type} : List (Lit × DataW H) → Nat
  | [] => 0
  | x :: r => uptoBulkEntry x + uptoBulkEntries r
def uptoBulkEntry {H : Type} : Lit × DataW H → Nat
  | (.string bytes, d) => bytes.length + uptoBulk d + 1
  | (_, d) => uptoBulk d + 1
 end
def uptoSmall : (H : Type) → List (DataW H) → Bool := fun _ ds => decide (uptoBulkAll ds ≤ 1048576)
def OpenSpec.upto (s : _root_.Go.ChangeSpec) : _root_.Go.OpenSpec := { _root_.Go.OpenSpec.ofChange s with cond := some uptoSmall }

/-- 'tollhouselaw20.RegistryWaits', WHERE WHAT IT READS IS OF BULK AT MOST 1048576: true; the input reads as it did. -/
def registryWaitsUptoRow : OpenClaim := { program := "ytaopgmkjeimpiaa", sum := "0d4350257415a4dd84bac42cb0234ee6e6666b78432dcf862331cdec70b56050", func := "tollhouse/tollhouselaw20.RegistryWaits", spec := "registryWaits", unfollowed := true, recurses := true, named := ["math/bits.divideError", "math/bits.overflowError"], plainKeys := false, apart := false, narrowed := true }
def RegistryWaitsUptoSaid : Prop := registryWaitsUptoRow.holds Try.pinned (OpenSpec.upto registryWaitsSpec)

/-- 'tollhouselaw20.RegistryHolds', WHERE WHAT IT READS IS OF BULK AT MOST 1048576: true; the input reads as it did. -/
def registryHoldsUptoRow : OpenClaim := { program := "ytaopgmkjeimpiaa", sum := "0d4350257415a4dd84bac42cb0234ee6e6666b78432dcf862331cdec70b56050", func := "tollhouse/tollhouselaw20.RegistryHolds", spec := "registryHolds", unfollowed := true, recurses := true, named := ["math/bits.divideError", "math/bits.overflowError"], plainKeys := false, apart := false, narrowed := true }
def RegistryHoldsUptoSaid : Prop := registryHoldsUptoRow.holds Try.pinned (OpenSpec.upto registryHoldsSpec)

/-- 'tollhouselaw20.RegistryPays', WHERE WHAT IT READS IS OF BULK AT MOST 1048576: true; the input reads as it did. -/
def registryPaysUptoRow : OpenClaim := { program := "ytaopgmkjeimpiaa", sum := "0d4350257415a4dd84bac42cb0234ee6e6666b78432dcf862331cdec70b56050", func := "tollhouse/tollhouselaw20.RegistryPays", spec := "registryPays", unfollowed := true, recurses := true, named := ["math/bits.divideError", "math/bits.overflowError"], plainKeys := false, apart := false, narrowed := true }
def RegistryPaysUptoSaid : Prop := registryPaysUptoRow.holds Try.pinned (OpenSpec.upto registryPaysSpec)

/-- 'tollhouselaw20.RegistryNobody', WHERE WHAT IT READS IS OF BULK AT MOST 1048576: true; the input reads as it did. -/
def registryNobodyUptoRow : OpenClaim := { program := "ytaopgmkjeimpiaa", sum := "0d4350257415a4dd84bac42cb0234ee6e6666b78432dcf862331cdec70b56050", func := "tollhouse/tollhouselaw20.RegistryNobody", spec := "registryNobody", unfollowed := true, recurses := true, named := ["math/bits.divideError", "math/bits.overflowError"], plainKeys := false, apart := false, narrowed := true }
def RegistryNobodyUptoSaid : Prop := registryNobodyUptoRow.holds Try.pinned (OpenSpec.upto registryNobodySpec)

/-- 'tollhouselaw22.GraphDoes', WHERE WHAT IT READS IS OF BULK AT MOST 1048576: true; the input reads as it did. -/
def graphDoesUptoRow : OpenClaim := { program := "ytaopgmkjeimpiaa", sum := "0d4350257415a4dd84bac42cb0234ee6e6666b78432dcf862331cdec70b56050", func := "tollhouse/tollhouselaw22.GraphDoes", spec := "graphDoes", inPlace := ["slices.overlaps[tollhouse/api.Edge]", "math.Float64bits", "math.Float64frombits"], unfollowed := true, recurses := true, named := ["math/bits.divideError", "math/bits.overflowError"], plainKeys := false, apart := false, narrowed := true }
def GraphDoesUptoSaid : Prop := graphDoesUptoRow.holds Try.pinned (OpenSpec.upto graphDoesSpec)

/-- 'tollhouselaw22.GraphNobody', WHERE WHAT IT READS IS OF BULK AT MOST 1048576: true; the input reads as it did. -/
def graphNobodyUptoRow : OpenClaim := { program := "ytaopgmkjeimpiaa", sum := "0d4350257415a4dd84bac42cb0234ee6e6666b78432dcf862331cdec70b56050", func := "tollhouse/tollhouselaw22.GraphNobody", spec := "graphNobody", inPlace := ["slices.overlaps[tollhouse/api.Edge]", "math.Float64bits", "math.Float64frombits"], unfollowed := true, recurses := true, named := ["math/bits.divideError", "math/bits.overflowError"], plainKeys := false, apart := false, narrowed := true }
def GraphNobodyUptoSaid : Prop := graphNobodyUptoRow.holds Try.pinned (OpenSpec.upto graphNobodySpec)

end Rows
end Go.Proofs.Ytaopgmkjeimpiaa
