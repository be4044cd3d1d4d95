/-
  DERIVED. GIVEN WITH THE SEED: THE CARDS: each row of YtnacobknngidkaaGreatDoorRows.lean that lists a variable, with what it lists TIED to the program's text (the seventh form; the later family's looks); each row that meets fmt, with fmt's text TOLD by the authors' own Lean function (tested against real Go, not proved from fmt's source: count such statements apart). THE CARD IS WHAT COUNTS. Prove the row's statement (the work); the ties are given (YtnacobknngidkaaGreatDoorTie.lean); close each card by the builder's one call (the guide's Derived/Test/ToyasCard.lean, 'card_holds'). Laid BY PROGRAM, IN A SANDBOX (cutbox-door.mjs). By AI agents, Wed Nov 11 2026. No macro, syntax, notation, axiom, sorry.
-/
import Derived.Test.YtnacobknngidkaaGreatDoorRows
import GoSem.ClaimSeven
namespace Go.Proofs.YtnacobknngidkaaGreatDoor
namespace Rows

/-- THE TIED CARD OF 'longshorelaw04.NoteNumbers'. -/
def noteNumbersCard : Claim7 := { stood := { row := noteNumbersRow, standIns := [], harness := (true, "fa0dcacde693dc65a7a916495890e78348a0d0df5a93141d92ec191065e14fdf"), looks := true }, kinds := [], alts := [], laidByText := true, laidKinds := [.data, .data, .data, .data, .sentinel, .sentinel, .pinned], laidTests := true, laidLooks := .later }
def NoteNumbersCardSaid : Prop := Claim7.holds Tryz.pinned (.plain (OpenSpec.ofChange noteNumbersSpec)) noteNumbersCard

/-- THE TIED CARD OF 'longshorelaw04.NotePrints'. -/
def notePrintsCard : Claim7 := { stood := { row := notePrintsRow, standIns := [], harness := (true, "fa0dcacde693dc65a7a916495890e78348a0d0df5a93141d92ec191065e14fdf"), looks := true }, kinds := [], alts := [], laidByText := true, laidKinds := [.data, .data, .data, .data, .sentinel, .sentinel, .pinned], laidTests := true, laidLooks := .later }
def NotePrintsCardSaid : Prop := Claim7.holds Tryz.pinned (.plain (OpenSpec.ofChange notePrintsSpec)) notePrintsCard

/-- THE TIED CARD OF 'longshorelaw04.NoteParses'. -/
def noteParsesCard : Claim7 := { stood := { row := noteParsesRow, standIns := [], harness := (true, "fa0dcacde693dc65a7a916495890e78348a0d0df5a93141d92ec191065e14fdf"), looks := true }, kinds := [], alts := [], laidByText := true, laidKinds := [.data, .data, .data, .data, .sentinel, .sentinel, .pinned], laidTests := true, laidLooks := .later }
def NoteParsesCardSaid : Prop := Claim7.holds Tryz.pinned (.plain (OpenSpec.ofChange noteParsesSpec)) noteParsesCard

/-- THE TIED CARD OF 'longshorelaw04.NoteBack'. -/
def noteBackCard : Claim7 := { stood := { row := noteBackRow, standIns := [], harness := (true, "fa0dcacde693dc65a7a916495890e78348a0d0df5a93141d92ec191065e14fdf"), looks := true }, kinds := [], alts := [], laidByText := true, laidKinds := [.data, .data, .data, .data, .sentinel, .sentinel, .pinned], laidTests := true, laidLooks := .later }
def NoteBackCardSaid : Prop := Claim7.holds Tryz.pinned (.plain (OpenSpec.ofChange noteBackSpec)) noteBackCard

/-- THE TIED CARD OF 'longshorelaw04.NoteAgain'. -/
def noteAgainCard : Claim7 := { stood := { row := noteAgainRow, standIns := [], harness := (true, "fa0dcacde693dc65a7a916495890e78348a0d0df5a93141d92ec191065e14fdf"), looks := true }, kinds := [], alts := [], laidByText := true, laidKinds := [.data, .data, .data, .data, .sentinel, .sentinel, .pinned], laidTests := true, laidLooks := .later }
def NoteAgainCardSaid : Prop := Claim7.holds Tryz.pinned (.plain (OpenSpec.ofChange noteAgainSpec)) noteAgainCard

/-- THE TIED CARD OF 'longshorelaw04.NoteUnlike'. -/
def noteUnlikeCard : Claim7 := { stood := { row := noteUnlikeRow, standIns := [], harness := (true, "fa0dcacde693dc65a7a916495890e78348a0d0df5a93141d92ec191065e14fdf"), looks := true }, kinds := [], alts := [], laidByText := true, laidKinds := [.data, .data, .data, .data, .sentinel, .sentinel, .pinned], laidTests := true, laidLooks := .later }
def NoteUnlikeCardSaid : Prop := Claim7.holds Tryz.pinned (.plain (OpenSpec.ofChange noteUnlikeSpec)) noteUnlikeCard

/-- THE TIED CARD OF 'longshorelaw04.NoteBlanks'. -/
def noteBlanksCard : Claim7 := { stood := { row := noteBlanksRow, standIns := [], harness := (true, "fa0dcacde693dc65a7a916495890e78348a0d0df5a93141d92ec191065e14fdf"), looks := true }, kinds := [], alts := [], laidByText := true, laidKinds := [.data, .data, .data, .data, .sentinel, .sentinel, .pinned], laidTests := true, laidLooks := .later }
def NoteBlanksCardSaid : Prop := Claim7.holds Tryz.pinned (.plain (OpenSpec.ofChange noteBlanksSpec)) noteBlanksCard

/-- THE TIED CARD OF 'longshorelaw04.NoteQuotes'. -/
def noteQuotesCard : Claim7 := { stood := { row := noteQuotesRow, standIns := [], harness := (true, "fa0dcacde693dc65a7a916495890e78348a0d0df5a93141d92ec191065e14fdf"), looks := true }, kinds := [], alts := [], laidByText := true, laidKinds := [.data, .data, .data, .data, .sentinel, .sentinel, .pinned], laidTests := true, laidLooks := .later }
def NoteQuotesCardSaid : Prop := Claim7.holds Tryz.pinned (.plain (OpenSpec.ofChange noteQuotesSpec)) noteQuotesCard

/-- THE TIED CARD OF 'longshorelaw04.NoteUnquotes'. -/
def noteUnquotesCard : Claim7 := { stood := { row := noteUnquotesRow, standIns := [], harness := (true, "fa0dcacde693dc65a7a916495890e78348a0d0df5a93141d92ec191065e14fdf"), looks := true }, kinds := [], alts := [], laidByText := true, laidKinds := [.data, .data, .data, .data, .sentinel, .sentinel, .pinned], laidTests := true, laidLooks := .later }
def NoteUnquotesCardSaid : Prop := Claim7.holds Tryz.pinned (.plain (OpenSpec.ofChange noteUnquotesSpec)) noteUnquotesCard

/-- THE TIED CARD OF 'longshorelaw04.NoteDeep'. -/
def noteDeepCard : Claim7 := { stood := { row := noteDeepRow, standIns := [], harness := (true, "fa0dcacde693dc65a7a916495890e78348a0d0df5a93141d92ec191065e14fdf"), looks := true }, kinds := [], alts := [], laidByText := true, laidKinds := [.data, .data, .data, .data, .sentinel, .sentinel, .pinned], laidTests := true, laidLooks := .later }
def NoteDeepCardSaid : Prop := Claim7.holds Tryz.pinned (.plain (OpenSpec.ofChange noteDeepSpec)) noteDeepCard

/-- THE SECOND FORM's CARD OF 'longshorelaw04.NoteNumbers'. -/
def noteNumbersUptoCard : Claim7 := { stood := { row := noteNumbersUptoRow, standIns := [], harness := (true, "fa0dcacde693dc65a7a916495890e78348a0d0df5a93141d92ec191065e14fdf"), looks := true }, kinds := [], alts := [], laidByText := true, laidKinds := [.data, .data, .data, .data, .sentinel, .sentinel, .pinned], laidTests := true, laidLooks := .later }
def NoteNumbersUptoCardSaid : Prop := Claim7.holds Tryz.pinned (.plain (OpenSpec.upto noteNumbersSpec)) noteNumbersUptoCard

/-- THE SECOND FORM's CARD OF 'longshorelaw04.NotePrints'. -/
def notePrintsUptoCard : Claim7 := { stood := { row := notePrintsUptoRow, standIns := [], harness := (true, "fa0dcacde693dc65a7a916495890e78348a0d0df5a93141d92ec191065e14fdf"), looks := true }, kinds := [], alts := [], laidByText := true, laidKinds := [.data, .data, .data, .data, .sentinel, .sentinel, .pinned], laidTests := true, laidLooks := .later }
def NotePrintsUptoCardSaid : Prop := Claim7.holds Tryz.pinned (.plain (OpenSpec.upto notePrintsSpec)) notePrintsUptoCard

/-- THE SECOND FORM's CARD OF 'longshorelaw04.NoteParses'. -/
def noteParsesUptoCard : Claim7 := { stood := { row := noteParsesUptoRow, standIns := [], harness := (true, "fa0dcacde693dc65a7a916495890e78348a0d0df5a93141d92ec191065e14fdf"), looks := true }, kinds := [], alts := [], laidByText := true, laidKinds := [.data, .data, .data, .data, .sentinel, .sentinel, .pinned], laidTests := true, laidLooks := .later }
def NoteParsesUptoCardSaid : Prop := Claim7.holds Tryz.pinned (.plain (OpenSpec.upto noteParsesSpec)) noteParsesUptoCard

/-- THE SECOND FORM's CARD OF 'longshorelaw04.NoteBack'. -/
def noteBackUptoCard : Claim7 := { stood := { row := noteBackUptoRow, standIns := [], harness := (true, "fa0dcacde693dc65a7a916495890e78348a0d0df5a93141d92ec191065e14fdf"), looks := true }, kinds := [], alts := [], laidByText := true, laidKinds := [.data, .data, .data, .data, .sentinel, .sentinel, .pinned], laidTests := true, laidLooks := .later }
def NoteBackUptoCardSaid : Prop := Claim7.holds Tryz.pinned (.plain (OpenSpec.upto noteBackSpec)) noteBackUptoCard

/-- THE SECOND FORM's CARD OF 'longshorelaw04.NoteAgain'. -/
def noteAgainUptoCard : Claim7 := { stood := { row := noteAgainUptoRow, standIns := [], harness := (true, "fa0dcacde693dc65a7a916495890e78348a0d0df5a93141d92ec191065e14fdf"), looks := true }, kinds := [], alts := [], laidByText := true, laidKinds := [.data, .data, .data, .data, .sentinel, .sentinel, .pinned], laidTests := true, laidLooks := .later }
def NoteAgainUptoCardSaid : Prop := Claim7.holds Tryz.pinned (.plain (OpenSpec.upto noteAgainSpec)) noteAgainUptoCard

/-- THE SECOND FORM's CARD OF 'longshorelaw04.NoteUnlike'. -/
def noteUnlikeUptoCard : Claim7 := { stood := { row := noteUnlikeUptoRow, standIns := [], harness := (true, "fa0dcacde693dc65a7a916495890e78348a0d0df5a93141d92ec191065e14fdf"), looks := true }, kinds := [], alts := [], laidByText := true, laidKinds := [.data, .data, .data, .data, .sentinel, .sentinel, .pinned], laidTests := true, laidLooks := .later }
def NoteUnlikeUptoCardSaid : Prop := Claim7.holds Tryz.pinned (.plain (OpenSpec.upto noteUnlikeSpec)) noteUnlikeUptoCard

/-- THE SECOND FORM's CARD OF 'longshorelaw04.NoteBlanks'. -/
def noteBlanksUptoCard : Claim7 := { stood := { row := noteBlanksUptoRow, standIns := [], harness := (true, "fa0dcacde693dc65a7a916495890e78348a0d0df5a93141d92ec191065e14fdf"), looks := true }, kinds := [], alts := [], laidByText := true, laidKinds := [.data, .data, .data, .data, .sentinel, .sentinel, .pinned], laidTests := true, laidLooks := .later }
def NoteBlanksUptoCardSaid : Prop := Claim7.holds Tryz.pinned (.plain (OpenSpec.upto noteBlanksSpec)) noteBlanksUptoCard

/-- THE SECOND FORM's CARD OF 'longshorelaw04.NoteQuotes'. -/
def noteQuotesUptoCard : Claim7 := { stood := { row := noteQuotesUptoRow, standIns := [], harness := (true, "fa0dcacde693dc65a7a916495890e78348a0d0df5a93141d92ec191065e14fdf"), looks := true }, kinds := [], alts := [], laidByText := true, laidKinds := [.data, .data, .data, .data, .sentinel, .sentinel, .pinned], laidTests := true, laidLooks := .later }
def NoteQuotesUptoCardSaid : Prop := Claim7.holds Tryz.pinned (.plain (OpenSpec.upto noteQuotesSpec)) noteQuotesUptoCard

/-- THE SECOND FORM's CARD OF 'longshorelaw04.NoteUnquotes'. -/
def noteUnquotesUptoCard : Claim7 := { stood := { row := noteUnquotesUptoRow, standIns := [], harness := (true, "fa0dcacde693dc65a7a916495890e78348a0d0df5a93141d92ec191065e14fdf"), looks := true }, kinds := [], alts := [], laidByText := true, laidKinds := [.data, .data, .data, .data, .sentinel, .sentinel, .pinned], laidTests := true, laidLooks := .later }
def NoteUnquotesUptoCardSaid : Prop := Claim7.holds Tryz.pinned (.plain (OpenSpec.upto noteUnquotesSpec)) noteUnquotesUptoCard

/-- THE SECOND FORM's CARD OF 'longshorelaw04.NoteDeep'. -/
def noteDeepUptoCard : Claim7 := { stood := { row := noteDeepUptoRow, standIns := [], harness := (true, "fa0dcacde693dc65a7a916495890e78348a0d0df5a93141d92ec191065e14fdf"), looks := true }, kinds := [], alts := [], laidByText := true, laidKinds := [.data, .data, .data, .data, .sentinel, .sentinel, .pinned], laidTests := true, laidLooks := .later }
def NoteDeepUptoCardSaid : Prop := Claim7.holds Tryz.pinned (.plain (OpenSpec.upto noteDeepSpec)) noteDeepUptoCard
end Rows
end Go.Proofs.YtnacobknngidkaaGreatDoor
