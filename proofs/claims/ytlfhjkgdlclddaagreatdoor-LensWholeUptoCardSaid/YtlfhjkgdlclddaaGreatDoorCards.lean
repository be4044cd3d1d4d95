/-
  DERIVED. GIVEN WITH THE SEED: THE CARDS: each row of YtlfhjkgdlclddaaGreatDoorRows.lean that lists a variable, with what it lists TIED to the program's text (the seventh form; the later family's looks); each row that meets fmt, with fmt's text TOLD by the authors' own Lean function (tested against real Go, not proved from fmt's source: count such statements apart). THE CARD IS WHAT COUNTS. Prove the row's statement (the work); the ties are given (YtlfhjkgdlclddaaGreatDoorTie.lean); close each card by the builder's one call (the guide's Derived/Test/ToyasCard.lean, 'card_holds'). Laid BY PROGRAM, IN A SANDBOX (cutbox-door.mjs). By AI agents, Wed Nov 11 2026. No macro, syntax, notation, axiom, sorry.
-/
import Derived.Test.YtlfhjkgdlclddaaGreatDoorRows
import GoSem.ClaimSeven
namespace Go.Proofs.YtlfhjkgdlclddaaGreatDoor
namespace Rows

/-- THE TIED CARD OF 'longshorelaw28.LensLines'. -/
def lensLinesCard : Claim7 := { stood := { row := lensLinesRow, standIns := [], harness := (true, "0c7b095a6cfd1162552fe263b9911121f4455bc099ca3b88449460bab155aba5"), looks := true }, kinds := [], alts := [], laidByText := true, laidKinds := [.data, .data, .data, .data, .sentinel, .sentinel, .pinned], laidTests := true, laidLooks := .later }
def LensLinesCardSaid : Prop := Claim7.holds Tryz.pinned (.plain (OpenSpec.ofChange lensLinesSpec)) lensLinesCard

/-- THE TIED CARD OF 'longshorelaw28.LensAll'. -/
def lensAllCard : Claim7 := { stood := { row := lensAllRow, standIns := [], harness := (true, "0c7b095a6cfd1162552fe263b9911121f4455bc099ca3b88449460bab155aba5"), looks := true }, kinds := [], alts := [], laidByText := true, laidKinds := [.data, .data, .data, .data, .sentinel, .sentinel, .pinned], laidTests := true, laidLooks := .later }
def LensAllCardSaid : Prop := Claim7.holds Tryz.pinned (.plain (OpenSpec.ofChange lensAllSpec)) lensAllCard

/-- THE TIED CARD OF 'longshorelaw28.LensBack'. -/
def lensBackCard : Claim7 := { stood := { row := lensBackRow, standIns := [], harness := (true, "0c7b095a6cfd1162552fe263b9911121f4455bc099ca3b88449460bab155aba5"), looks := true }, kinds := [], alts := [], laidByText := true, laidKinds := [.data, .data, .data, .data, .sentinel, .sentinel, .pinned], laidTests := true, laidLooks := .later }
def LensBackCardSaid : Prop := Claim7.holds Tryz.pinned (.plain (OpenSpec.ofChange lensBackSpec)) lensBackCard

/-- THE TIED CARD OF 'longshorelaw28.LensWhole'. -/
def lensWholeCard : Claim7 := { stood := { row := lensWholeRow, standIns := [], harness := (true, "0c7b095a6cfd1162552fe263b9911121f4455bc099ca3b88449460bab155aba5"), looks := true }, kinds := [], alts := [], laidByText := true, laidKinds := [.data, .data, .data, .data, .sentinel, .sentinel, .pinned], laidTests := true, laidLooks := .later }
def LensWholeCardSaid : Prop := Claim7.holds Tryz.pinned (.plain (OpenSpec.ofChange lensWholeSpec)) lensWholeCard

/-- THE SECOND FORM's CARD OF 'longshorelaw28.LensLines'. -/
def lensLinesUptoCard : Claim7 := { stood := { row := lensLinesUptoRow, standIns := [], harness := (true, "0c7b095a6cfd1162552fe263b9911121f4455bc099ca3b88449460bab155aba5"), looks := true }, kinds := [], alts := [], laidByText := true, laidKinds := [.data, .data, .data, .data, .sentinel, .sentinel, .pinned], laidTests := true, laidLooks := .later }
def LensLinesUptoCardSaid : Prop := Claim7.holds Tryz.pinned (.plain (OpenSpec.upto lensLinesSpec)) lensLinesUptoCard

/-- THE SECOND FORM's CARD OF 'longshorelaw28.LensAll'. -/
def lensAllUptoCard : Claim7 := { stood := { row := lensAllUptoRow, standIns := [], harness := (true, "0c7b095a6cfd1162552fe263b9911121f4455bc099ca3b88449460bab155aba5"), looks := true }, kinds := [], alts := [], laidByText := true, laidKinds := [.data, .data, .data, .data, .sentinel, .sentinel, .pinned], laidTests := true, laidLooks := .later }
def LensAllUptoCardSaid : Prop := Claim7.holds Tryz.pinned (.plain (OpenSpec.upto lensAllSpec)) lensAllUptoCard

/-- THE SECOND FORM's CARD OF 'longshorelaw28.LensBack'. -/
def lensBackUptoCard : Claim7 := { stood := { row := lensBackUptoRow, standIns := [], harness := (true, "0c7b095a6cfd1162552fe263b9911121f4455bc099ca3b88449460bab155aba5"), looks := true }, kinds := [], alts := [], laidByText := true, laidKinds := [.data, .data, .data, .data, .sentinel, .sentinel, .pinned], laidTests := true, laidLooks := .later }
def LensBackUptoCardSaid : Prop := Claim7.holds Tryz.pinned (.plain (OpenSpec.upto lensBackSpec)) lensBackUptoCard

/-- THE SECOND FORM's CARD OF 'longshorelaw28.LensWhole'. -/
def lensWholeUptoCard : Claim7 := { stood := { row := lensWholeUptoRow, standIns := [], harness := (true, "0c7b095a6cfd1162552fe263b9911121f4455bc099ca3b88449460bab155aba5"), looks := true }, kinds := [], alts := [], laidByText := true, laidKinds := [.data, .data, .data, .data, .sentinel, .sentinel, .pinned], laidTests := true, laidLooks := .later }
def LensWholeUptoCardSaid : Prop := Claim7.holds Tryz.pinned (.plain (OpenSpec.upto lensWholeSpec)) lensWholeUptoCard
end Rows
end Go.Proofs.YtlfhjkgdlclddaaGreatDoor
