/-
  DERIVED. GIVEN WITH THE SEED: THE CARDS: each row of YtnibmhjdomndbaaGreatDoorRows.lean that lists a variable, with what it lists TIED to the program's text (the seventh form; the later family's looks); each row that meets fmt, with fmt's text TOLD by the authors' own Lean function (tested against real Go, not proved from fmt's source: count such statements apart). THE CARD IS WHAT COUNTS. Prove the row's statement (the work); the ties are given (YtnibmhjdomndbaaGreatDoorTie.lean); close each card by the builder's one call (the guide's Derived/Test/ToyasCard.lean, 'card_holds'). Laid BY PROGRAM, IN A SANDBOX (cutbox-door.mjs). By AI agents, Wed Nov 11 2026. No macro, syntax, notation, axiom, sorry.
-/
import Derived.Test.YtnibmhjdomndbaaGreatDoorRows
import GoSem.ClaimSeven
namespace Go.Proofs.YtnibmhjdomndbaaGreatDoor
namespace Rows

/-- THE TIED CARD OF 'longshorelaw18.RoutePlays'. -/
def routePlaysCard : Claim7 := { stood := { row := routePlaysRow, standIns := [], harness := (true, "e23bdf42a67a7fb9f801937f7f7138b38fa67f82c2097c21331ac9de3488c4d5"), looks := false }, kinds := [], alts := [], laidByText := true, laidKinds := [.data, .pinned], laidTests := true, laidLooks := .later }
def RoutePlaysCardSaid : Prop := Claim7.holds Tryz.pinned (.plain (OpenSpec.ofChange routePlaysSpec)) routePlaysCard

/-- THE SECOND FORM's CARD OF 'longshorelaw18.RoutePlays'. -/
def routePlaysUptoCard : Claim7 := { stood := { row := routePlaysUptoRow, standIns := [], harness := (true, "e23bdf42a67a7fb9f801937f7f7138b38fa67f82c2097c21331ac9de3488c4d5"), looks := false }, kinds := [], alts := [], laidByText := true, laidKinds := [.data, .pinned], laidTests := true, laidLooks := .later }
def RoutePlaysUptoCardSaid : Prop := Claim7.holds Tryz.pinned (.plain (OpenSpec.upto routePlaysSpec)) routePlaysUptoCard
end Rows
end Go.Proofs.YtnibmhjdomndbaaGreatDoor
