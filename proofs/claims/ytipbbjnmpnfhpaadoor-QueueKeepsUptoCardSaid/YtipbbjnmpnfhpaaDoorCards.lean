/-
  DERIVED. GIVEN WITH THE SEED: THE CARDS: each row of YtipbbjnmpnfhpaaDoorRows.lean that lists a variable, with what it lists TIED to the program's text (the seventh form; the later family's looks); each row that meets fmt, with fmt's text TOLD by the authors' own Lean function (tested against real Go, not proved from fmt's source: count such statements apart). THE CARD IS WHAT COUNTS. Prove the row's statement (the work); the ties are given (YtipbbjnmpnfhpaaDoorTie.lean); close each card by the builder's one call (the guide's Derived/Test/ToyasCard.lean, 'card_holds'). Laid BY PROGRAM, IN A SANDBOX (cutbox-door.mjs). By AI agents, Wed Nov 11 2026. No macro, syntax, notation, axiom, sorry.
-/
import Derived.Test.YtipbbjnmpnfhpaaDoorRows
import GoSem.ClaimSeven
namespace Go.Proofs.YtipbbjnmpnfhpaaDoor
namespace Rows

/-- THE TIED CARD OF 'longshorelaw17.QueueNumbers'. -/
def queueNumbersCard : Claim7 := { stood := { row := queueNumbersRow, standIns := [], harness := (true, "a1ce4198008d109a535200a4928a522a5fb400a35efc8a21b55bbe8320a4d67f"), looks := true }, kinds := [], alts := [], laidByText := true, laidKinds := [.data, .pinned], laidTests := true, laidLooks := .later }
def QueueNumbersCardSaid : Prop := Claim7.holds Tryd.pinned (.plain (OpenSpec.ofChange queueNumbersSpec)) queueNumbersCard

/-- THE TIED CARD OF 'longshorelaw17.QueueMakes'. -/
def queueMakesCard : Claim7 := { stood := { row := queueMakesRow, standIns := [], harness := (true, "a1ce4198008d109a535200a4928a522a5fb400a35efc8a21b55bbe8320a4d67f"), looks := true }, kinds := [], alts := [], laidByText := true, laidKinds := [.data, .pinned], laidTests := true, laidLooks := .later }
def QueueMakesCardSaid : Prop := Claim7.holds Tryd.pinned (.plain (OpenSpec.ofChange queueMakesSpec)) queueMakesCard

/-- THE TIED CARD OF 'longshorelaw17.QueueOrder'. -/
def queueOrderCard : Claim7 := { stood := { row := queueOrderRow, standIns := [], harness := (true, "a1ce4198008d109a535200a4928a522a5fb400a35efc8a21b55bbe8320a4d67f"), looks := true }, kinds := [], alts := [], laidByText := true, laidKinds := [.data, .pinned], laidTests := true, laidLooks := .later }
def QueueOrderCardSaid : Prop := Claim7.holds Tryd.pinned (.plain (OpenSpec.ofChange queueOrderSpec)) queueOrderCard

/-- THE TIED CARD OF 'longshorelaw17.QueueKeeps'. -/
def queueKeepsCard : Claim7 := { stood := { row := queueKeepsRow, standIns := [], harness := (true, "a1ce4198008d109a535200a4928a522a5fb400a35efc8a21b55bbe8320a4d67f"), looks := true }, kinds := [], alts := [], laidByText := true, laidKinds := [.data, .pinned], laidTests := true, laidLooks := .later }
def QueueKeepsCardSaid : Prop := Claim7.holds Tryd.pinned (.plain (OpenSpec.ofChange queueKeepsSpec)) queueKeepsCard

/-- THE SECOND FORM's CARD OF 'longshorelaw17.QueueNumbers'. -/
def queueNumbersUptoCard : Claim7 := { stood := { row := queueNumbersUptoRow, standIns := [], harness := (true, "a1ce4198008d109a535200a4928a522a5fb400a35efc8a21b55bbe8320a4d67f"), looks := true }, kinds := [], alts := [], laidByText := true, laidKinds := [.data, .pinned], laidTests := true, laidLooks := .later }
def QueueNumbersUptoCardSaid : Prop := Claim7.holds Tryd.pinned (.plain (OpenSpec.upto queueNumbersSpec)) queueNumbersUptoCard

/-- THE SECOND FORM's CARD OF 'longshorelaw17.QueueMakes'. -/
def queueMakesUptoCard : Claim7 := { stood := { row := queueMakesUptoRow, standIns := [], harness := (true, "a1ce4198008d109a535200a4928a522a5fb400a35efc8a21b55bbe8320a4d67f"), looks := true }, kinds := [], alts := [], laidByText := true, laidKinds := [.data, .pinned], laidTests := true, laidLooks := .later }
def QueueMakesUptoCardSaid : Prop := Claim7.holds Tryd.pinned (.plain (OpenSpec.upto queueMakesSpec)) queueMakesUptoCard

/-- THE SECOND FORM's CARD OF 'longshorelaw17.QueueOrder'. -/
def queueOrderUptoCard : Claim7 := { stood := { row := queueOrderUptoRow, standIns := [], harness := (true, "a1ce4198008d109a535200a4928a522a5fb400a35efc8a21b55bbe8320a4d67f"), looks := true }, kinds := [], alts := [], laidByText := true, laidKinds := [.data, .pinned], laidTests := true, laidLooks := .later }
def QueueOrderUptoCardSaid : Prop := Claim7.holds Tryd.pinned (.plain (OpenSpec.upto queueOrderSpec)) queueOrderUptoCard

/-- THE SECOND FORM's CARD OF 'longshorelaw17.QueueKeeps'. -/
def queueKeepsUptoCard : Claim7 := { stood := { row := queueKeepsUptoRow, standIns := [], harness := (true, "a1ce4198008d109a535200a4928a522a5fb400a35efc8a21b55bbe8320a4d67f"), looks := true }, kinds := [], alts := [], laidByText := true, laidKinds := [.data, .pinned], laidTests := true, laidLooks := .later }
def QueueKeepsUptoCardSaid : Prop := Claim7.holds Tryd.pinned (.plain (OpenSpec.upto queueKeepsSpec)) queueKeepsUptoCard
end Rows
end Go.Proofs.YtipbbjnmpnfhpaaDoor
