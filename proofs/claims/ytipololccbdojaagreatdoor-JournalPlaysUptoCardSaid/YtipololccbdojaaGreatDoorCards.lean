/-
  DERIVED. GIVEN WITH THE SEED: THE CARDS: each row of YtipololccbdojaaGreatDoorRows.lean that lists a variable, with what it lists TIED to the program's text (the seventh form; the later family's looks); each row that meets fmt, with fmt's text TOLD by the authors' own Lean function (tested against real Go, not proved from fmt's source: count such statements apart). THE CARD IS WHAT COUNTS. Prove the row's statement (the work); the ties are given (YtipololccbdojaaGreatDoorTie.lean); close each card by the builder's one call (the guide's Derived/Test/ToyasCard.lean, 'card_holds'). Laid BY PROGRAM, IN A SANDBOX (cutbox-door.mjs). By AI agents, Wed Nov 11 2026. No macro, syntax, notation, axiom, sorry.
-/
import Derived.Test.YtipololccbdojaaGreatDoorRows
import GoSem.ClaimSeven
namespace Go.Proofs.YtipololccbdojaaGreatDoor
namespace Rows

/-- THE TIED CARD OF 'longshorelaw20.JournalNumbers'. -/
def journalNumbersCard : Claim7 := { stood := { row := journalNumbersRow, standIns := [], harness := (true, "924778a7eb0f5ede9b8194b8f646e8159d9035a282a0f568569ea27cd33ef636"), looks := true }, kinds := [], alts := [], laidByText := true, laidKinds := [.handle, .sentinel, .sentinel], laidTests := true, laidLooks := .later }
def JournalNumbersCardSaid : Prop := Claim7.holds Tryz.pinned (.plain (OpenSpec.ofChange journalNumbersSpec)) journalNumbersCard

/-- THE TIED CARD OF 'longshorelaw20.JournalScans'. -/
def journalScansCard : Claim7 := { stood := { row := journalScansRow, standIns := [], harness := (true, "924778a7eb0f5ede9b8194b8f646e8159d9035a282a0f568569ea27cd33ef636"), looks := true }, kinds := [], alts := [], laidByText := true, laidKinds := [.handle, .sentinel, .sentinel], laidTests := true, laidLooks := .later }
def JournalScansCardSaid : Prop := Claim7.holds Tryz.pinned (.plain (OpenSpec.ofChange journalScansSpec)) journalScansCard

/-- THE TIED CARD OF 'longshorelaw20.JournalTurned'. -/
def journalTurnedCard : Claim7 := { stood := { row := journalTurnedRow, standIns := [], harness := (true, "924778a7eb0f5ede9b8194b8f646e8159d9035a282a0f568569ea27cd33ef636"), looks := true }, kinds := [], alts := [], laidByText := true, laidKinds := [.handle, .sentinel, .sentinel], laidTests := true, laidLooks := .later }
def JournalTurnedCardSaid : Prop := Claim7.holds Tryz.pinned (.plain (OpenSpec.ofChange journalTurnedSpec)) journalTurnedCard

/-- THE TIED CARD OF 'longshorelaw20.JournalTails'. -/
def journalTailsCard : Claim7 := { stood := { row := journalTailsRow, standIns := [], harness := (true, "924778a7eb0f5ede9b8194b8f646e8159d9035a282a0f568569ea27cd33ef636"), looks := true }, kinds := [], alts := [], laidByText := true, laidKinds := [.handle, .sentinel, .sentinel], laidTests := true, laidLooks := .later }
def JournalTailsCardSaid : Prop := Claim7.holds Tryz.pinned (.plain (OpenSpec.ofChange journalTailsSpec)) journalTailsCard

/-- THE TIED CARD OF 'longshorelaw20.JournalStroke'. -/
def journalStrokeCard : Claim7 := { stood := { row := journalStrokeRow, standIns := [], harness := (true, "924778a7eb0f5ede9b8194b8f646e8159d9035a282a0f568569ea27cd33ef636"), looks := true }, kinds := [], alts := [], laidByText := true, laidKinds := [.handle, .sentinel, .sentinel], laidTests := true, laidLooks := .later }
def JournalStrokeCardSaid : Prop := Claim7.holds Tryz.pinned (.plain (OpenSpec.ofChange journalStrokeSpec)) journalStrokeCard

/-- THE TIED CARD OF 'longshorelaw20.JournalPlays'. -/
def journalPlaysCard : Claim7 := { stood := { row := journalPlaysRow, standIns := [], harness := (true, "924778a7eb0f5ede9b8194b8f646e8159d9035a282a0f568569ea27cd33ef636"), looks := true }, kinds := [], alts := [], laidByText := true, laidKinds := [.handle, .sentinel, .sentinel], laidTests := true, laidLooks := .later }
def JournalPlaysCardSaid : Prop := Claim7.holds Tryz.pinned (.plain (OpenSpec.ofChange journalPlaysSpec)) journalPlaysCard

/-- THE SECOND FORM's CARD OF 'longshorelaw20.JournalNumbers'. -/
def journalNumbersUptoCard : Claim7 := { stood := { row := journalNumbersUptoRow, standIns := [], harness := (true, "924778a7eb0f5ede9b8194b8f646e8159d9035a282a0f568569ea27cd33ef636"), looks := true }, kinds := [], alts := [], laidByText := true, laidKinds := [.handle, .sentinel, .sentinel], laidTests := true, laidLooks := .later }
def JournalNumbersUptoCardSaid : Prop := Claim7.holds Tryz.pinned (.plain (OpenSpec.upto journalNumbersSpec)) journalNumbersUptoCard

/-- THE SECOND FORM's CARD OF 'longshorelaw20.JournalScans'. -/
def journalScansUptoCard : Claim7 := { stood := { row := journalScansUptoRow, standIns := [], harness := (true, "924778a7eb0f5ede9b8194b8f646e8159d9035a282a0f568569ea27cd33ef636"), looks := true }, kinds := [], alts := [], laidByText := true, laidKinds := [.handle, .sentinel, .sentinel], laidTests := true, laidLooks := .later }
def JournalScansUptoCardSaid : Prop := Claim7.holds Tryz.pinned (.plain (OpenSpec.upto journalScansSpec)) journalScansUptoCard

/-- THE SECOND FORM's CARD OF 'longshorelaw20.JournalTurned'. -/
def journalTurnedUptoCard : Claim7 := { stood := { row := journalTurnedUptoRow, standIns := [], harness := (true, "924778a7eb0f5ede9b8194b8f646e8159d9035a282a0f568569ea27cd33ef636"), looks := true }, kinds := [], alts := [], laidByText := true, laidKinds := [.handle, .sentinel, .sentinel], laidTests := true, laidLooks := .later }
def JournalTurnedUptoCardSaid : Prop := Claim7.holds Tryz.pinned (.plain (OpenSpec.upto journalTurnedSpec)) journalTurnedUptoCard

/-- THE SECOND FORM's CARD OF 'longshorelaw20.JournalTails'. -/
def journalTailsUptoCard : Claim7 := { stood := { row := journalTailsUptoRow, standIns := [], harness := (true, "924778a7eb0f5ede9b8194b8f646e8159d9035a282a0f568569ea27cd33ef636"), looks := true }, kinds := [], alts := [], laidByText := true, laidKinds := [.handle, .sentinel, .sentinel], laidTests := true, laidLooks := .later }
def JournalTailsUptoCardSaid : Prop := Claim7.holds Tryz.pinned (.plain (OpenSpec.upto journalTailsSpec)) journalTailsUptoCard

/-- THE SECOND FORM's CARD OF 'longshorelaw20.JournalStroke'. -/
def journalStrokeUptoCard : Claim7 := { stood := { row := journalStrokeUptoRow, standIns := [], harness := (true, "924778a7eb0f5ede9b8194b8f646e8159d9035a282a0f568569ea27cd33ef636"), looks := true }, kinds := [], alts := [], laidByText := true, laidKinds := [.handle, .sentinel, .sentinel], laidTests := true, laidLooks := .later }
def JournalStrokeUptoCardSaid : Prop := Claim7.holds Tryz.pinned (.plain (OpenSpec.upto journalStrokeSpec)) journalStrokeUptoCard

/-- THE SECOND FORM's CARD OF 'longshorelaw20.JournalPlays'. -/
def journalPlaysUptoCard : Claim7 := { stood := { row := journalPlaysUptoRow, standIns := [], harness := (true, "924778a7eb0f5ede9b8194b8f646e8159d9035a282a0f568569ea27cd33ef636"), looks := true }, kinds := [], alts := [], laidByText := true, laidKinds := [.handle, .sentinel, .sentinel], laidTests := true, laidLooks := .later }
def JournalPlaysUptoCardSaid : Prop := Claim7.holds Tryz.pinned (.plain (OpenSpec.upto journalPlaysSpec)) journalPlaysUptoCard
end Rows
end Go.Proofs.YtipololccbdojaaGreatDoor
