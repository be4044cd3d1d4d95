/-
  DERIVED. GIVEN WITH THE SEED: THE CARDS: each row of YtnmlmicmhpkbeaaGreatDoorRows.lean that lists a variable, with what it lists TIED to the program's text (the seventh form; the later family's looks); each row that meets fmt, with fmt's text TOLD by the authors' own Lean function (tested against real Go, not proved from fmt's source: count such statements apart). THE CARD IS WHAT COUNTS. Prove the row's statement (the work); the ties are given (YtnmlmicmhpkbeaaGreatDoorTie.lean); close each card by the builder's one call (the guide's Derived/Test/ToyasCard.lean, 'card_holds'). Laid BY PROGRAM, IN A SANDBOX (cutbox-door.mjs). By AI agents, Wed Nov 11 2026. No macro, syntax, notation, axiom, sorry.
-/
import Derived.Test.YtnmlmicmhpkbeaaGreatDoorRows
import GoSem.ClaimSeven
namespace Go.Proofs.YtnmlmicmhpkbeaaGreatDoor
namespace Rows

/-- THE TIED CARD OF 'longshorelaw16.SievePrints'. -/
def sievePrintsCard : Claim7 := { stood := { row := sievePrintsRow, standIns := [], harness := (true, "df761407d09005928e9c98345890cc87e5187f5bfaf6b263618ddc2462876d36"), looks := true }, kinds := [], alts := [], laidByText := true, laidKinds := [.data, .data, .widerDeep, .widerDeep, .data, .data, .data, .data, .data, .data, .sentinel, .sentinel, .pinned, .pinned, .pinned, .pinned], laidTests := true, laidLooks := .later }
def SievePrintsCardSaid : Prop := Claim7.holds Tryz.pinned (.plain (OpenSpec.ofChange sievePrintsSpec)) sievePrintsCard

/-- THE TIED CARD OF 'longshorelaw16.SieveEvals'. -/
def sieveEvalsCard : Claim7 := { stood := { row := sieveEvalsRow, standIns := [], harness := (true, "df761407d09005928e9c98345890cc87e5187f5bfaf6b263618ddc2462876d36"), looks := true }, kinds := [], alts := [], laidByText := true, laidKinds := [.data, .data, .widerDeep, .widerDeep, .data, .data, .data, .data, .data, .data, .sentinel, .sentinel, .pinned, .pinned, .pinned, .pinned], laidTests := true, laidLooks := .later }
def SieveEvalsCardSaid : Prop := Claim7.holds Tryz.pinned (.plain (OpenSpec.ofChange sieveEvalsSpec)) sieveEvalsCard

/-- THE TIED CARD OF 'longshorelaw16.SieveLikes'. -/
def sieveLikesCard : Claim7 := { stood := { row := sieveLikesRow, standIns := [], harness := (true, "df761407d09005928e9c98345890cc87e5187f5bfaf6b263618ddc2462876d36"), looks := true }, kinds := [], alts := [], laidByText := true, laidKinds := [.data, .data, .widerDeep, .widerDeep, .data, .data, .data, .data, .data, .data, .sentinel, .sentinel, .pinned, .pinned, .pinned, .pinned], laidTests := true, laidLooks := .later }
def SieveLikesCardSaid : Prop := Claim7.holds Tryz.pinned (.plain (OpenSpec.ofChange sieveLikesSpec)) sieveLikesCard

/-- THE TIED CARD OF 'longshorelaw16.SieveThree'. -/
def sieveThreeCard : Claim7 := { stood := { row := sieveThreeRow, standIns := [], harness := (true, "df761407d09005928e9c98345890cc87e5187f5bfaf6b263618ddc2462876d36"), looks := true }, kinds := [], alts := [], laidByText := true, laidKinds := [.data, .data, .widerDeep, .widerDeep, .data, .data, .data, .data, .data, .data, .sentinel, .sentinel, .pinned, .pinned, .pinned, .pinned], laidTests := true, laidLooks := .later }
def SieveThreeCardSaid : Prop := Claim7.holds Tryz.pinned (.plain (OpenSpec.ofChange sieveThreeSpec)) sieveThreeCard

/-- THE TIED CARD OF 'longshorelaw16.SieveFits'. -/
def sieveFitsCard : Claim7 := { stood := { row := sieveFitsRow, standIns := [], harness := (true, "df761407d09005928e9c98345890cc87e5187f5bfaf6b263618ddc2462876d36"), looks := true }, kinds := [], alts := [], laidByText := true, laidKinds := [.data, .data, .widerDeep, .widerDeep, .data, .data, .data, .data, .data, .data, .sentinel, .sentinel, .pinned, .pinned, .pinned, .pinned], laidTests := true, laidLooks := .later }
def SieveFitsCardSaid : Prop := Claim7.holds Tryz.pinned (.plain (OpenSpec.ofChange sieveFitsSpec)) sieveFitsCard

/-- THE SECOND FORM's CARD OF 'longshorelaw16.SievePrints'. -/
def sievePrintsUptoCard : Claim7 := { stood := { row := sievePrintsUptoRow, standIns := [], harness := (true, "df761407d09005928e9c98345890cc87e5187f5bfaf6b263618ddc2462876d36"), looks := true }, kinds := [], alts := [], laidByText := true, laidKinds := [.data, .data, .widerDeep, .widerDeep, .data, .data, .data, .data, .data, .data, .sentinel, .sentinel, .pinned, .pinned, .pinned, .pinned], laidTests := true, laidLooks := .later }
def SievePrintsUptoCardSaid : Prop := Claim7.holds Tryz.pinned (.plain (OpenSpec.upto sievePrintsSpec)) sievePrintsUptoCard

/-- THE SECOND FORM's CARD OF 'longshorelaw16.SieveEvals'. -/
def sieveEvalsUptoCard : Claim7 := { stood := { row := sieveEvalsUptoRow, standIns := [], harness := (true, "df761407d09005928e9c98345890cc87e5187f5bfaf6b263618ddc2462876d36"), looks := true }, kinds := [], alts := [], laidByText := true, laidKinds := [.data, .data, .widerDeep, .widerDeep, .data, .data, .data, .data, .data, .data, .sentinel, .sentinel, .pinned, .pinned, .pinned, .pinned], laidTests := true, laidLooks := .later }
def SieveEvalsUptoCardSaid : Prop := Claim7.holds Tryz.pinned (.plain (OpenSpec.upto sieveEvalsSpec)) sieveEvalsUptoCard

/-- THE SECOND FORM's CARD OF 'longshorelaw16.SieveLikes'. -/
def sieveLikesUptoCard : Claim7 := { stood := { row := sieveLikesUptoRow, standIns := [], harness := (true, "df761407d09005928e9c98345890cc87e5187f5bfaf6b263618ddc2462876d36"), looks := true }, kinds := [], alts := [], laidByText := true, laidKinds := [.data, .data, .widerDeep, .widerDeep, .data, .data, .data, .data, .data, .data, .sentinel, .sentinel, .pinned, .pinned, .pinned, .pinned], laidTests := true, laidLooks := .later }
def SieveLikesUptoCardSaid : Prop := Claim7.holds Tryz.pinned (.plain (OpenSpec.upto sieveLikesSpec)) sieveLikesUptoCard

/-- THE SECOND FORM's CARD OF 'longshorelaw16.SieveThree'. -/
def sieveThreeUptoCard : Claim7 := { stood := { row := sieveThreeUptoRow, standIns := [], harness := (true, "df761407d09005928e9c98345890cc87e5187f5bfaf6b263618ddc2462876d36"), looks := true }, kinds := [], alts := [], laidByText := true, laidKinds := [.data, .data, .widerDeep, .widerDeep, .data, .data, .data, .data, .data, .data, .sentinel, .sentinel, .pinned, .pinned, .pinned, .pinned], laidTests := true, laidLooks := .later }
def SieveThreeUptoCardSaid : Prop := Claim7.holds Tryz.pinned (.plain (OpenSpec.upto sieveThreeSpec)) sieveThreeUptoCard

/-- THE SECOND FORM's CARD OF 'longshorelaw16.SieveFits'. -/
def sieveFitsUptoCard : Claim7 := { stood := { row := sieveFitsUptoRow, standIns := [], harness := (true, "df761407d09005928e9c98345890cc87e5187f5bfaf6b263618ddc2462876d36"), looks := true }, kinds := [], alts := [], laidByText := true, laidKinds := [.data, .data, .widerDeep, .widerDeep, .data, .data, .data, .data, .data, .data, .sentinel, .sentinel, .pinned, .pinned, .pinned, .pinned], laidTests := true, laidLooks := .later }
def SieveFitsUptoCardSaid : Prop := Claim7.holds Tryz.pinned (.plain (OpenSpec.upto sieveFitsSpec)) sieveFitsUptoCard
end Rows
end Go.Proofs.YtnmlmicmhpkbeaaGreatDoor
