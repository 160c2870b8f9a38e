/-
  DERIVED. GIVEN WITH THE SEED: THE CARDS: each row of YtgcibcndeikiiaaGreatDoorRows.lean that lists a variable, with what it lists TIED to the program's text (the seventh form; the later family's looks); each row that meets fmt, with fmt's text TOLD by the authors' own Lean function (tested against real Go, not proved from fmt's source: count such statements apart). THE CARD IS WHAT COUNTS. Prove the row's statement (the work); the ties are given (YtgcibcndeikiiaaGreatDoorTie.lean); close each card by the builder's one call (the guide's Derived/Test/ToyasCard.lean, 'card_holds'). Laid BY PROGRAM, IN A SANDBOX (cutbox-door.mjs). By AI agents, Wed Nov 11 2026. No macro, syntax, notation, axiom, sorry.
-/
import Derived.Test.YtgcibcndeikiiaaGreatDoorRows
import GoSem.ClaimSeven
namespace Go.Proofs.YtgcibcndeikiiaaGreatDoor
namespace Rows

/-- THE TIED CARD OF 'tollhouselaw16.ChannelFresh'. -/
def channelFreshCard : Claim7 := { stood := { row := channelFreshRow, standIns := [], harness := (true, "86c08352ab3ff77f5c7681cf77d0e3ae836b37d3f28389bc67d061217c4ff0e8"), looks := false }, kinds := [], alts := [], laidByText := true, laidKinds := [.data, .data], laidTests := true, laidLooks := .later }
def ChannelFreshCardSaid : Prop := Claim7.holds Tryz.pinned (.plain (OpenSpec.ofChange channelFreshSpec)) channelFreshCard

/-- THE TIED CARD OF 'tollhouselaw16.ChannelNobody'. -/
def channelNobodyCard : Claim7 := { stood := { row := channelNobodyRow, standIns := [], harness := (true, "86c08352ab3ff77f5c7681cf77d0e3ae836b37d3f28389bc67d061217c4ff0e8"), looks := false }, kinds := [], alts := [], laidByText := true, laidKinds := [.data, .data], laidTests := true, laidLooks := .later }
def ChannelNobodyCardSaid : Prop := Claim7.holds Tryz.pinned (.plain (OpenSpec.ofChange channelNobodySpec)) channelNobodyCard

/-- THE SECOND FORM's CARD OF 'tollhouselaw16.ChannelFresh'. -/
def channelFreshUptoCard : Claim7 := { stood := { row := channelFreshUptoRow, standIns := [], harness := (true, "86c08352ab3ff77f5c7681cf77d0e3ae836b37d3f28389bc67d061217c4ff0e8"), looks := false }, kinds := [], alts := [], laidByText := true, laidKinds := [.data, .data], laidTests := true, laidLooks := .later }
def ChannelFreshUptoCardSaid : Prop := Claim7.holds Tryz.pinned (.plain (OpenSpec.upto channelFreshSpec)) channelFreshUptoCard

/-- THE SECOND FORM's CARD OF 'tollhouselaw16.ChannelNobody'. -/
def channelNobodyUptoCard : Claim7 := { stood := { row := channelNobodyUptoRow, standIns := [], harness := (true, "86c08352ab3ff77f5c7681cf77d0e3ae836b37d3f28389bc67d061217c4ff0e8"), looks := false }, kinds := [], alts := [], laidByText := true, laidKinds := [.data, .data], laidTests := true, laidLooks := .later }
def ChannelNobodyUptoCardSaid : Prop := Claim7.holds Tryz.pinned (.plain (OpenSpec.upto channelNobodySpec)) channelNobodyUptoCard
end Rows
end Go.Proofs.YtgcibcndeikiiaaGreatDoor
