/-
  DERIVED. GIVEN WITH THE SEED: THE CARDS: each row of YtnibmhjdomndbaaDoorRows.lean that lists a variable, with what it lists TIED to the program's text (the seventh form; the later family's looks); each row that meets fmt, with fmt's text TOLD by the authors' own Lean function (tested against real Go, not proved from fmt's source: count such statements apart). THE CARD IS WHAT COUNTS. Prove the row's statement (the work); the ties are given (YtnibmhjdomndbaaDoorTie.lean); close each card by the builder's one call (the guide's Derived/Test/ToyasCard.lean, 'card_holds'). Laid BY PROGRAM, IN A SANDBOX (cutbox-door.mjs). By AI agents, Wed Nov 11 2026. No macro, syntax, notation, axiom, sorry.
-/
import Derived.Test.YtnibmhjdomndbaaDoorRows
import GoSem.ClaimSeven
namespace Go.Proofs.YtnibmhjdomndbaaDoor
namespace Rows

/-- THE TIED CARD OF 'longshorelaw18.RouteFits'. -/
def routeFitsCard : Claim7 := { stood := { row := routeFitsRow, standIns := [], harness := (true, "e89ab02a108e5c06a81aeed11733179a6c02d359b9a44c088351f3e7c2df0882"), looks := false }, kinds := [], alts := [], laidByText := true, laidKinds := [.data, .pinned], laidTests := true, laidLooks := .later }
def RouteFitsCardSaid : Prop := Claim7.holds Tryd.pinned (.plain (OpenSpec.ofChange routeFitsSpec)) routeFitsCard

/-- THE TIED CARD OF 'longshorelaw18.RouteCovers'. -/
def routeCoversCard : Claim7 := { stood := { row := routeCoversRow, standIns := [], harness := (true, "e89ab02a108e5c06a81aeed11733179a6c02d359b9a44c088351f3e7c2df0882"), looks := false }, kinds := [], alts := [], laidByText := true, laidKinds := [.data, .pinned], laidTests := true, laidLooks := .later }
def RouteCoversCardSaid : Prop := Claim7.holds Tryd.pinned (.plain (OpenSpec.ofChange routeCoversSpec)) routeCoversCard

/-- THE TIED CARD OF 'longshorelaw18.RouteReads'. -/
def routeReadsCard : Claim7 := { stood := { row := routeReadsRow, standIns := [], harness := (true, "e89ab02a108e5c06a81aeed11733179a6c02d359b9a44c088351f3e7c2df0882"), looks := false }, kinds := [], alts := [], laidByText := true, laidKinds := [.data, .pinned], laidTests := true, laidLooks := .later }
def RouteReadsCardSaid : Prop := Claim7.holds Tryd.pinned (.plain (OpenSpec.ofChange routeReadsSpec)) routeReadsCard

/-- THE TIED CARD OF 'longshorelaw18.RouteMeans'. -/
def routeMeansCard : Claim7 := { stood := { row := routeMeansRow, standIns := [], harness := (true, "e89ab02a108e5c06a81aeed11733179a6c02d359b9a44c088351f3e7c2df0882"), looks := false }, kinds := [], alts := [], laidByText := true, laidKinds := [.data, .pinned], laidTests := true, laidLooks := .later }
def RouteMeansCardSaid : Prop := Claim7.holds Tryd.pinned (.plain (OpenSpec.ofChange routeMeansSpec)) routeMeansCard

/-- THE TIED CARD OF 'longshorelaw18.RouteLeads'. -/
def routeLeadsCard : Claim7 := { stood := { row := routeLeadsRow, standIns := [], harness := (true, "e89ab02a108e5c06a81aeed11733179a6c02d359b9a44c088351f3e7c2df0882"), looks := false }, kinds := [], alts := [], laidByText := true, laidKinds := [.data, .pinned], laidTests := true, laidLooks := .later }
def RouteLeadsCardSaid : Prop := Claim7.holds Tryd.pinned (.plain (OpenSpec.ofChange routeLeadsSpec)) routeLeadsCard

/-- THE SECOND FORM's CARD OF 'longshorelaw18.RouteFits'. -/
def routeFitsUptoCard : Claim7 := { stood := { row := routeFitsUptoRow, standIns := [], harness := (true, "e89ab02a108e5c06a81aeed11733179a6c02d359b9a44c088351f3e7c2df0882"), looks := false }, kinds := [], alts := [], laidByText := true, laidKinds := [.data, .pinned], laidTests := true, laidLooks := .later }
def RouteFitsUptoCardSaid : Prop := Claim7.holds Tryd.pinned (.plain (OpenSpec.upto routeFitsSpec)) routeFitsUptoCard

/-- THE SECOND FORM's CARD OF 'longshorelaw18.RouteCovers'. -/
def routeCoversUptoCard : Claim7 := { stood := { row := routeCoversUptoRow, standIns := [], harness := (true, "e89ab02a108e5c06a81aeed11733179a6c02d359b9a44c088351f3e7c2df0882"), looks := false }, kinds := [], alts := [], laidByText := true, laidKinds := [.data, .pinned], laidTests := true, laidLooks := .later }
def RouteCoversUptoCardSaid : Prop := Claim7.holds Tryd.pinned (.plain (OpenSpec.upto routeCoversSpec)) routeCoversUptoCard

/-- THE SECOND FORM's CARD OF 'longshorelaw18.RouteReads'. -/
def routeReadsUptoCard : Claim7 := { stood := { row := routeReadsUptoRow, standIns := [], harness := (true, "e89ab02a108e5c06a81aeed11733179a6c02d359b9a44c088351f3e7c2df0882"), looks := false }, kinds := [], alts := [], laidByText := true, laidKinds := [.data, .pinned], laidTests := true, laidLooks := .later }
def RouteReadsUptoCardSaid : Prop := Claim7.holds Tryd.pinned (.plain (OpenSpec.upto routeReadsSpec)) routeReadsUptoCard

/-- THE SECOND FORM's CARD OF 'longshorelaw18.RouteMeans'. -/
def routeMeansUptoCard : Claim7 := { stood := { row := routeMeansUptoRow, standIns := [], harness := (true, "e89ab02a108e5c06a81aeed11733179a6c02d359b9a44c088351f3e7c2df0882"), looks := false }, kinds := [], alts := [], laidByText := true, laidKinds := [.data, .pinned], laidTests := true, laidLooks := .later }
def RouteMeansUptoCardSaid : Prop := Claim7.holds Tryd.pinned (.plain (OpenSpec.upto routeMeansSpec)) routeMeansUptoCard

/-- THE SECOND FORM's CARD OF 'longshorelaw18.RouteLeads'. -/
def routeLeadsUptoCard : Claim7 := { stood := { row := routeLeadsUptoRow, standIns := [], harness := (true, "e89ab02a108e5c06a81aeed11733179a6c02d359b9a44c088351f3e7c2df0882"), looks := false }, kinds := [], alts := [], laidByText := true, laidKinds := [.data, .pinned], laidTests := true, laidLooks := .later }
def RouteLeadsUptoCardSaid : Prop := Claim7.holds Tryd.pinned (.plain (OpenSpec.upto routeLeadsSpec)) routeLeadsUptoCard
end Rows
end Go.Proofs.YtnibmhjdomndbaaDoor
