/-
  DERIVED. GIVEN WITH THE SEED: THE CARDS: each row of YtipbbjnmpnfhpaaGreatDoorRows.lean that lists a variable, with what it lists TIED to the program's text (the seventh form; the later family's looks); each row that meets fmt, with fmt's text TOLD by the authors' own Lean function (tested against real Go, not proved from fmt's source: count such statements apart). THE CARD IS WHAT COUNTS. Prove the row's statement (the work); the ties are given (YtipbbjnmpnfhpaaGreatDoorTie.lean); close each card by the builder's one call (the guide's Derived/Test/ToyasCard.lean, 'card_holds'). Laid BY PROGRAM, IN A SANDBOX (cutbox-door.mjs). By AI agents, Wed Nov 11 2026. No macro, syntax, notation, axiom, sorry.
-/
import Derived.Test.YtipbbjnmpnfhpaaGreatDoorRows
import GoSem.ClaimSeven
namespace Go.Proofs.YtipbbjnmpnfhpaaGreatDoor
namespace Rows

/-- THE TIED CARD OF 'longshorelaw17.QueueRanges'. -/
def queueRangesCard : Claim7 := { stood := { row := queueRangesRow, standIns := [], harness := (true, "e5898f4ec598ee6218ed194ded6d88b70cf594ea9273ba05fa680a005cef3e3c"), looks := true }, kinds := [], alts := [], laidByText := true, laidKinds := [.data, .pinned], laidTests := true, laidLooks := .later }
def QueueRangesCardSaid : Prop := Claim7.holds Tryz.pinned (.plain (OpenSpec.ofChange queueRangesSpec)) queueRangesCard

/-- THE TIED CARD OF 'longshorelaw17.QueuePlays'. -/
def queuePlaysCard : Claim7 := { stood := { row := queuePlaysRow, standIns := [], harness := (true, "e5898f4ec598ee6218ed194ded6d88b70cf594ea9273ba05fa680a005cef3e3c"), looks := true }, kinds := [], alts := [], laidByText := true, laidKinds := [.data, .pinned], laidTests := true, laidLooks := .later }
def QueuePlaysCardSaid : Prop := Claim7.holds Tryz.pinned (.plain (OpenSpec.ofChange queuePlaysSpec)) queuePlaysCard

/-- THE SECOND FORM's CARD OF 'longshorelaw17.QueueRanges'. -/
def queueRangesUptoCard : Claim7 := { stood := { row := queueRangesUptoRow, standIns := [], harness := (true, "e5898f4ec598ee6218ed194ded6d88b70cf594ea9273ba05fa680a005cef3e3c"), looks := true }, kinds := [], alts := [], laidByText := true, laidKinds := [.data, .pinned], laidTests := true, laidLooks := .later }
def QueueRangesUptoCardSaid : Prop := Claim7.holds Tryz.pinned (.plain (OpenSpec.upto queueRangesSpec)) queueRangesUptoCard

/-- THE SECOND FORM's CARD OF 'longshorelaw17.QueuePlays'. -/
def queuePlaysUptoCard : Claim7 := { stood := { row := queuePlaysUptoRow, standIns := [], harness := (true, "e5898f4ec598ee6218ed194ded6d88b70cf594ea9273ba05fa680a005cef3e3c"), looks := true }, kinds := [], alts := [], laidByText := true, laidKinds := [.data, .pinned], laidTests := true, laidLooks := .later }
def QueuePlaysUptoCardSaid : Prop := Claim7.holds Tryz.pinned (.plain (OpenSpec.upto queuePlaysSpec)) queuePlaysUptoCard
end Rows
end Go.Proofs.YtipbbjnmpnfhpaaGreatDoor
