/-
  NARROWER THAN 'FOR EVERY INPUT', by the rows' own cells (each row's printed sentence says how): RouteFits: laid · RouteCovers: laid · RouteReads: laid · RouteMeans: laid · RouteLeads: laid.
  DERIVED. THE GIVEN ROWS OF THIS SEAT. 5 by the template 'for every input the law returns true; each argument reads behind the call as it read before'; 0 by the template 'total and deterministic' (their statements: YtnibmhjdomndbaaDoorTotals.lean).
  GIVEN WITH THE SEED: the statements are not yours to turn. If you find one false, say at which input.
  Laid BY PROGRAM, IN A SANDBOX (cutbox-rows.mjs): the forced cells as the released guide's own fill.sh prints them over the translation 53df0872eb7ab60b… (all of the seat's roots in one cut). By AI agents, Wed Nov 11 2026. No macro, syntax, notation, axiom, sorry.
-/
import Derived.Test.YtnibmhjdomndbaaDoorChecked
import GoSem.PinnedTables
import GoSem.Claim
import GoSem.ClaimJoined
import GoSem.ClaimMapViews
import Derived.JoinedTies
import Derived.KernelRfl
namespace Go.Proofs.YtnibmhjdomndbaaDoor
/- THE CELL 'sum', in the pinned program and in every row, IS THE sha256 OF THE DUMP (.gsa) THAT YtnibmhjdomndbaaDoorProg.lean LOADS. Nothing in Lean hashes anything: it is a label: what it is worth is what the hold of that sum in a sandbox is worth. -/
noncomputable def Tryd.pinned : Pinned := { name := "ytnibmhjdomndbaadoor", sum := "53df0872eb7ab60b57a4bbea3268af2d6ab27ebf98abe1283ab3954a3f02bd9c", checked := Tryd.checked }
namespace Rows
def none {H : Type} : Left H := { results := [], args := [] }

/- WHAT THE LISTED PACKAGE-LEVEL VARIABLES READ AS WHEN THE CALL BEGINS. Each datum BY PROGRAM (the guide's laid-datum.mjs) off the statement by which the dump's own 'gosem.cut.vars' lays the variable. In a bare row this is a premise. The card (YtnibmhjdomndbaaDoorCards.lean) ties it to the program's text. -/
def laid_unicode_utf8_acceptRanges {H : Type} : DataW H := .agg [.agg [.lit (.int .u8 128), .lit (.int .u8 191)], .agg [.lit (.int .u8 160), .lit (.int .u8 191)], .agg [.lit (.int .u8 128), .lit (.int .u8 159)], .agg [.lit (.int .u8 144), .lit (.int .u8 191)], .agg [.lit (.int .u8 128), .lit (.int .u8 143)], .agg [.lit (.int .u8 0), .lit (.int .u8 0)], .agg [.lit (.int .u8 0), .lit (.int .u8 0)], .agg [.lit (.int .u8 0), .lit (.int .u8 0)], .agg [.lit (.int .u8 0), .lit (.int .u8 0)], .agg [.lit (.int .u8 0), .lit (.int .u8 0)], .agg [.lit (.int .u8 0), .lit (.int .u8 0)], .agg [.lit (.int .u8 0), .lit (.int .u8 0)], .agg [.lit (.int .u8 0), .lit (.int .u8 0)], .agg [.lit (.int .u8 0), .lit (.int .u8 0)], .agg [.lit (.int .u8 0), .lit (.int .u8 0)], .agg [.lit (.int .u8 0), .lit (.int .u8 0)]]
/-- One of Go's own tables, pinned by name: the form's constant. -/
def laid_unicode_utf8_first : DataW Unit := Go.Pinned.utf8First

/-- 'longshorelaw18.RouteFits': WHATEVER THE INPUT: true; the input reads as it did. -/
def routeFitsSpec : ChangeSpec := { name := "routeFits", fn := fun _ => fun
  | [d1, d2] => { results := [.lit (.bool true)], args := [d1, d2] }
  | _ => none }
def routeFitsRow : OpenClaim := { program := "ytnibmhjdomndbaadoor", sum := "53df0872eb7ab60b57a4bbea3268af2d6ab27ebf98abe1283ab3954a3f02bd9c", func := "longshore/longshorelaw18.RouteFits", spec := "routeFits", inPlace := ["internal/bytealg.CountString", "internal/bytealg.IndexByteString", "internal/bytealg.IndexString"], unfollowed := true, recurses := true, named := ["unicode/utf8.first", "unicode/utf8.acceptRanges", "internal/bytealg.MaxLen"], plainKeys := false, apart := false, laid := [("unicode/utf8.acceptRanges", laid_unicode_utf8_acceptRanges), ("unicode/utf8.first", laid_unicode_utf8_first)] }
def RouteFitsSaid : Prop := routeFitsRow.holds Tryd.pinned (OpenSpec.ofChange routeFitsSpec)

/-- ITS FALSE NEIGHBOUR: 'it returns false'. Refute it at one input. -/
def routeFitsWrong : ChangeSpec := { name := "routeFits", fn := fun _ => fun
  | [d1, d2] => { results := [.lit (.bool false)], args := [d1, d2] }
  | _ => none }
def RouteFitsWrongFalsely : Prop := routeFitsRow.holds Tryd.pinned (OpenSpec.ofChange routeFitsWrong)

/-- 'longshorelaw18.RouteCovers': WHATEVER THE INPUT: true; the input reads as it did. -/
def routeCoversSpec : ChangeSpec := { name := "routeCovers", fn := fun _ => fun
  | [d1, d2] => { results := [.lit (.bool true)], args := [d1, d2] }
  | _ => none }
def routeCoversRow : OpenClaim := { program := "ytnibmhjdomndbaadoor", sum := "53df0872eb7ab60b57a4bbea3268af2d6ab27ebf98abe1283ab3954a3f02bd9c", func := "longshore/longshorelaw18.RouteCovers", spec := "routeCovers", inPlace := ["internal/bytealg.CountString", "internal/bytealg.IndexByteString", "internal/bytealg.IndexString"], unfollowed := true, recurses := true, named := ["unicode/utf8.first", "unicode/utf8.acceptRanges", "internal/bytealg.MaxLen"], plainKeys := false, apart := false, laid := [("unicode/utf8.acceptRanges", laid_unicode_utf8_acceptRanges), ("unicode/utf8.first", laid_unicode_utf8_first)] }
def RouteCoversSaid : Prop := routeCoversRow.holds Tryd.pinned (OpenSpec.ofChange routeCoversSpec)

/-- ITS FALSE NEIGHBOUR: 'it returns false'. Refute it at one input. -/
def routeCoversWrong : ChangeSpec := { name := "routeCovers", fn := fun _ => fun
  | [d1, d2] => { results := [.lit (.bool false)], args := [d1, d2] }
  | _ => none }
def RouteCoversWrongFalsely : Prop := routeCoversRow.holds Tryd.pinned (OpenSpec.ofChange routeCoversWrong)

/-- 'longshorelaw18.RouteReads': WHATEVER THE INPUT: true; the input reads as it did. -/
def routeReadsSpec : ChangeSpec := { name := "routeReads", fn := fun _ => fun
  | [d] => { results := [.lit (.bool true)], args := [d] }
  | _ => none }
def routeReadsRow : OpenClaim := { program := "ytnibmhjdomndbaadoor", sum := "53df0872eb7ab60b57a4bbea3268af2d6ab27ebf98abe1283ab3954a3f02bd9c", func := "longshore/longshorelaw18.RouteReads", spec := "routeReads", inPlace := ["internal/bytealg.CountString", "internal/bytealg.IndexByteString", "internal/bytealg.IndexString"], unfollowed := true, recurses := true, named := ["unicode/utf8.first", "unicode/utf8.acceptRanges", "internal/bytealg.MaxLen"], plainKeys := false, apart := false, laid := [("unicode/utf8.acceptRanges", laid_unicode_utf8_acceptRanges), ("unicode/utf8.first", laid_unicode_utf8_first)] }
def RouteReadsSaid : Prop := routeReadsRow.holds Tryd.pinned (OpenSpec.ofChange routeReadsSpec)

/-- ITS FALSE NEIGHBOUR: 'it returns false'. Refute it at one input. -/
def routeReadsWrong : ChangeSpec := { name := "routeReads", fn := fun _ => fun
  | [d] => { results := [.lit (.bool false)], args := [d] }
  | _ => none }
def RouteReadsWrongFalsely : Prop := routeReadsRow.holds Tryd.pinned (OpenSpec.ofChange routeReadsWrong)

/-- 'longshorelaw18.RouteMeans': WHATEVER THE INPUT: true; the input reads as it did. -/
def routeMeansSpec : ChangeSpec := { name := "routeMeans", fn := fun _ => fun
  | [d1, d2, d3, d4] => { results := [.lit (.bool true)], args := [d1, d2, d3, d4] }
  | _ => none }
def routeMeansRow : OpenClaim := { program := "ytnibmhjdomndbaadoor", sum := "53df0872eb7ab60b57a4bbea3268af2d6ab27ebf98abe1283ab3954a3f02bd9c", func := "longshore/longshorelaw18.RouteMeans", spec := "routeMeans", inPlace := ["internal/bytealg.CountString", "internal/bytealg.IndexByteString", "internal/bytealg.IndexString"], unfollowed := true, recurses := true, named := ["unicode/utf8.first", "unicode/utf8.acceptRanges", "internal/bytealg.MaxLen"], plainKeys := false, apart := false, laid := [("unicode/utf8.acceptRanges", laid_unicode_utf8_acceptRanges), ("unicode/utf8.first", laid_unicode_utf8_first)] }
def RouteMeansSaid : Prop := routeMeansRow.holds Tryd.pinned (OpenSpec.ofChange routeMeansSpec)

/-- ITS FALSE NEIGHBOUR: 'it returns false'. Refute it at one input. -/
def routeMeansWrong : ChangeSpec := { name := "routeMeans", fn := fun _ => fun
  | [d1, d2, d3, d4] => { results := [.lit (.bool false)], args := [d1, d2, d3, d4] }
  | _ => none }
def RouteMeansWrongFalsely : Prop := routeMeansRow.holds Tryd.pinned (OpenSpec.ofChange routeMeansWrong)

/-- 'longshorelaw18.RouteLeads': WHATEVER THE INPUT: true; the input reads as it did. -/
def routeLeadsSpec : ChangeSpec := { name := "routeLeads", fn := fun _ => fun
  | [d1, d2, d3] => { results := [.lit (.bool true)], args := [d1, d2, d3] }
  | _ => none }
def routeLeadsRow : OpenClaim := { program := "ytnibmhjdomndbaadoor", sum := "53df0872eb7ab60b57a4bbea3268af2d6ab27ebf98abe1283ab3954a3f02bd9c", func := "longshore/longshorelaw18.RouteLeads", spec := "routeLeads", inPlace := ["internal/bytealg.CountString", "internal/bytealg.IndexByteString", "internal/bytealg.IndexString", "internal/bytealg.abigen_runtime_cmpstring"], unfollowed := true, recurses := true, named := ["unicode/utf8.first", "unicode/utf8.acceptRanges", "internal/bytealg.MaxLen"], plainKeys := false, apart := false, laid := [("unicode/utf8.acceptRanges", laid_unicode_utf8_acceptRanges), ("unicode/utf8.first", laid_unicode_utf8_first)] }
def RouteLeadsSaid : Prop := routeLeadsRow.holds Tryd.pinned (OpenSpec.ofChange routeLeadsSpec)

/-- ITS FALSE NEIGHBOUR: 'it returns false'. Refute it at one input. -/
def routeLeadsWrong : ChangeSpec := { name := "routeLeads", fn := fun _ => fun
  | [d1, d2, d3] => { results := [.lit (.bool false)], args := [d1, d2, d3] }
  | _ => none }
def RouteLeadsWrongFalsely : Prop := routeLeadsRow.holds Tryd.pinned (OpenSpec.ofChange routeLeadsWrong)

/- THE SECOND FORM. 'bulk': how many values and letters a reading holds, each counted each time it is reached (what is shared counts as often as it is met; a slice's spare places count too). A statement '..UptoSaid' is the law's where the arguments, and the package variables that the reading takes, are together of bulk at most 1048576: NARROWER than '..Said'. Prove '..Said' where nothing that the law and all that it calls make is longer than what came in: it says more and counts as full. Else prove '..UptoSaid'. A law counts once. -/
mutual
def uptoBulk {H : Type} : DataW H → Nat
  | .lit (.string bytes) => bytes.length + 1
  | .lit _ => 1
  | .nil => 1
  | .ptr d => uptoBulk d + 1
  | .slice elems spare => uptoBulkAll elems + uptoBulkAll spare + 1
  | .agg parts => uptoBulkAll parts + 1
  | .iface _ d => uptoBulk d + 1
  | .map entries => uptoBulkEntries entries + 1
  | .held _ => 1
def uptoBulkAll {H : Type} : List (DataW H) → Nat
  | [] => 0
  | d :: r => uptoBulk d + uptoBulkAll r
def uptoBulkEntries {H : Type} : List (Lit × DataW H) → Nat
  | [] => 0
  | x :: r => uptoBulkEntry x + uptoBulkEntries r
def uptoBulkEntry {H : Type} : Lit × DataW H → Nat
  | (.string bytes, d) => bytes.length + uptoBulk d + 1
  | (_, d) => uptoBulk d + 1
 end
def uptoSmall : (H : Type) → List (DataW H) → Bool := fun _ ds => decide (uptoBulkAll ds ≤ 1048576)
def OpenSpec.upto (s : _root_.Go.ChangeSpec) : _root_.Go.OpenSpec := { _root_.Go.OpenSpec.ofChange s with cond := some uptoSmall }

/-- 'longshorelaw18.RouteFits', WHERE WHAT IT READS IS OF BULK AT MOST 1048576: true; the input reads as it did. -/
def routeFitsUptoRow : OpenClaim := { program := "ytnibmhjdomndbaadoor", sum := "53df0872eb7ab60b57a4bbea3268af2d6ab27ebf98abe1283ab3954a3f02bd9c", func := "longshore/longshorelaw18.RouteFits", spec := "routeFits", inPlace := ["internal/bytealg.CountString", "internal/bytealg.IndexByteString", "internal/bytealg.IndexString"], unfollowed := true, recurses := true, named := ["unicode/utf8.first", "unicode/utf8.acceptRanges", "internal/bytealg.MaxLen"], plainKeys := false, apart := false, laid := [("unicode/utf8.acceptRanges", laid_unicode_utf8_acceptRanges), ("unicode/utf8.first", laid_unicode_utf8_first)], narrowed := true }
def RouteFitsUptoSaid : Prop := routeFitsUptoRow.holds Tryd.pinned (OpenSpec.upto routeFitsSpec)

/-- 'longshorelaw18.RouteCovers', WHERE WHAT IT READS IS OF BULK AT MOST 1048576: true; the input reads as it did. -/
def routeCoversUptoRow : OpenClaim := { program := "ytnibmhjdomndbaadoor", sum := "53df0872eb7ab60b57a4bbea3268af2d6ab27ebf98abe1283ab3954a3f02bd9c", func := "longshore/longshorelaw18.RouteCovers", spec := "routeCovers", inPlace := ["internal/bytealg.CountString", "internal/bytealg.IndexByteString", "internal/bytealg.IndexString"], unfollowed := true, recurses := true, named := ["unicode/utf8.first", "unicode/utf8.acceptRanges", "internal/bytealg.MaxLen"], plainKeys := false, apart := false, laid := [("unicode/utf8.acceptRanges", laid_unicode_utf8_acceptRanges), ("unicode/utf8.first", laid_unicode_utf8_first)], narrowed := true }
def RouteCoversUptoSaid : Prop := routeCoversUptoRow.holds Tryd.pinned (OpenSpec.upto routeCoversSpec)

/-- 'longshorelaw18.RouteReads', WHERE WHAT IT READS IS OF BULK AT MOST 1048576: true; the input reads as it did. -/
def routeReadsUptoRow : OpenClaim := { program := "ytnibmhjdomndbaadoor", sum := "53df0872eb7ab60b57a4bbea3268af2d6ab27ebf98abe1283ab3954a3f02bd9c", func := "longshore/longshorelaw18.RouteReads", spec := "routeReads", inPlace := ["internal/bytealg.CountString", "internal/bytealg.IndexByteString", "internal/bytealg.IndexString"], unfollowed := true, recurses := true, named := ["unicode/utf8.first", "unicode/utf8.acceptRanges", "internal/bytealg.MaxLen"], plainKeys := false, apart := false, laid := [("unicode/utf8.acceptRanges", laid_unicode_utf8_acceptRanges), ("unicode/utf8.first", laid_unicode_utf8_first)], narrowed := true }
def RouteReadsUptoSaid : Prop := routeReadsUptoRow.holds Tryd.pinned (OpenSpec.upto routeReadsSpec)

/-- 'longshorelaw18.RouteMeans', WHERE WHAT IT READS IS OF BULK AT MOST 1048576: true; the input reads as it did. -/
def routeMeansUptoRow : OpenClaim := { program := "ytnibmhjdomndbaadoor", sum := "53df0872eb7ab60b57a4bbea3268af2d6ab27ebf98abe1283ab3954a3f02bd9c", func := "longshore/longshorelaw18.RouteMeans", spec := "routeMeans", inPlace := ["internal/bytealg.CountString", "internal/bytealg.IndexByteString", "internal/bytealg.IndexString"], unfollowed := true, recurses := true, named := ["unicode/utf8.first", "unicode/utf8.acceptRanges", "internal/bytealg.MaxLen"], plainKeys := false, apart := false, laid := [("unicode/utf8.acceptRanges", laid_unicode_utf8_acceptRanges), ("unicode/utf8.first", laid_unicode_utf8_first)], narrowed := true }
def RouteMeansUptoSaid : Prop := routeMeansUptoRow.holds Tryd.pinned (OpenSpec.upto routeMeansSpec)

/-- 'longshorelaw18.RouteLeads', WHERE WHAT IT READS IS OF BULK AT MOST 1048576: true; the input reads as it did. -/
def routeLeadsUptoRow : OpenClaim := { program := "ytnibmhjdomndbaadoor", sum := "53df0872eb7ab60b57a4bbea3268af2d6ab27ebf98abe1283ab3954a3f02bd9c", func := "longshore/longshorelaw18.RouteLeads", spec := "routeLeads", inPlace := ["internal/bytealg.CountString", "internal/bytealg.IndexByteString", "internal/bytealg.IndexString", "internal/bytealg.abigen_runtime_cmpstring"], unfollowed := true, recurses := true, named := ["unicode/utf8.first", "unicode/utf8.acceptRanges", "internal/bytealg.MaxLen"], plainKeys := false, apart := false, laid := [("unicode/utf8.acceptRanges", laid_unicode_utf8_acceptRanges), ("unicode/utf8.first", laid_unicode_utf8_first)], narrowed := true }
def RouteLeadsUptoSaid : Prop := routeLeadsUptoRow.holds Tryd.pinned (OpenSpec.upto routeLeadsSpec)

end Rows
end Go.Proofs.YtnibmhjdomndbaaDoor
