/-
  No cell of these rows narrows 'for every input' (looked for: loops, veiled, ifaces, maps, wideKeys, modest, calm, conditions, laid).
  DERIVED. THE GIVEN ROWS OF THIS SEAT. 6 by the template 'for every input the law returns true; each argument reads behind the call as it read before'; 0 by the template 'total and deterministic' (their statements: YtjkbbinfpmifaaaTotals.lean).
  GIVEN WITH THE SEED: the statements are not yours to turn. If you find one false, say at which input.
  Laid BY PROGRAM, IN A SANDBOX (cutbox-rows.mjs): the forced cells as the released guide's own fill.sh prints them over the translation f9d2005c0104133c… (all of the seat's roots in one cut). By AI agents, Wed Nov 11 2026. No macro, syntax, notation, axiom, sorry.
-/
import Derived.Test.YtjkbbinfpmifaaaChecked
import GoSem.Claim
import GoSem.ClaimJoined
import GoSem.ClaimMapViews
import Derived.JoinedTies
import Derived.KernelRfl
namespace Go.Proofs.Ytjkbbinfpmifaaa
/- THE CELL 'sum', in the pinned program and in every row, IS THE sha256 OF THE DUMP (.gsa) THAT YtjkbbinfpmifaaaProg.lean LOADS. Nothing in Lean hashes anything: it is a label: what it is worth is what the hold of that sum in a sandbox is worth. -/
noncomputable def Try.pinned : Pinned := { name := "ytjkbbinfpmifaaa", sum := "f9d2005c0104133c31b08fc2f22d52a334c5bf82ef8d5a0ac1ff77a2ebb02472", checked := Try.checked }
namespace Rows
def none {H : Type} : Left H := { results := [], args := [] }

/-- 'longshorelaw28.LensNames': WHATEVER THE INPUT: true; the input reads as it did. -/
def lensNamesSpec : ChangeSpec := { name := "lensNames", fn := fun _ => fun
  | [] => { results := [.lit (.bool true)], args := [] }
  | _ => none }
def lensNamesRow : OpenClaim := { program := "ytjkbbinfpmifaaa", sum := "f9d2005c0104133c31b08fc2f22d52a334c5bf82ef8d5a0ac1ff77a2ebb02472", func := "longshore/longshorelaw28.LensNames", spec := "lensNames", apart := false }
def LensNamesSaid : Prop := lensNamesRow.holds Try.pinned (OpenSpec.ofChange lensNamesSpec)

/-- ITS FALSE NEIGHBOUR: 'it returns false'. Refute it at one input. -/
def lensNamesWrong : ChangeSpec := { name := "lensNames", fn := fun _ => fun
  | [] => { results := [.lit (.bool false)], args := [] }
  | _ => none }
def LensNamesWrongFalsely : Prop := lensNamesRow.holds Try.pinned (OpenSpec.ofChange lensNamesWrong)

/-- 'longshorelaw16.SieveNames': WHATEVER THE INPUT: true; the input reads as it did. -/
def sieveNamesSpec : ChangeSpec := { name := "sieveNames", fn := fun _ => fun
  | [] => { results := [.lit (.bool true)], args := [] }
  | _ => none }
def sieveNamesRow : OpenClaim := { program := "ytjkbbinfpmifaaa", sum := "f9d2005c0104133c31b08fc2f22d52a334c5bf82ef8d5a0ac1ff77a2ebb02472", func := "longshore/longshorelaw16.SieveNames", spec := "sieveNames", apart := false }
def SieveNamesSaid : Prop := sieveNamesRow.holds Try.pinned (OpenSpec.ofChange sieveNamesSpec)

/-- ITS FALSE NEIGHBOUR: 'it returns false'. Refute it at one input. -/
def sieveNamesWrong : ChangeSpec := { name := "sieveNames", fn := fun _ => fun
  | [] => { results := [.lit (.bool false)], args := [] }
  | _ => none }
def SieveNamesWrongFalsely : Prop := sieveNamesRow.holds Try.pinned (OpenSpec.ofChange sieveNamesWrong)

/-- 'longshorelaw18.RouteNames': WHATEVER THE INPUT: true; the input reads as it did. -/
def routeNamesSpec : ChangeSpec := { name := "routeNames", fn := fun _ => fun
  | [] => { results := [.lit (.bool true)], args := [] }
  | _ => none }
def routeNamesRow : OpenClaim := { program := "ytjkbbinfpmifaaa", sum := "f9d2005c0104133c31b08fc2f22d52a334c5bf82ef8d5a0ac1ff77a2ebb02472", func := "longshore/longshorelaw18.RouteNames", spec := "routeNames", apart := false }
def RouteNamesSaid : Prop := routeNamesRow.holds Try.pinned (OpenSpec.ofChange routeNamesSpec)

/-- ITS FALSE NEIGHBOUR: 'it returns false'. Refute it at one input. -/
def routeNamesWrong : ChangeSpec := { name := "routeNames", fn := fun _ => fun
  | [] => { results := [.lit (.bool false)], args := [] }
  | _ => none }
def RouteNamesWrongFalsely : Prop := routeNamesRow.holds Try.pinned (OpenSpec.ofChange routeNamesWrong)

/-- 'longshorelaw21.StoreNames': WHATEVER THE INPUT: true; the input reads as it did. -/
def storeNamesSpec : ChangeSpec := { name := "storeNames", fn := fun _ => fun
  | [] => { results := [.lit (.bool true)], args := [] }
  | _ => none }
def storeNamesRow : OpenClaim := { program := "ytjkbbinfpmifaaa", sum := "f9d2005c0104133c31b08fc2f22d52a334c5bf82ef8d5a0ac1ff77a2ebb02472", func := "longshore/longshorelaw21.StoreNames", spec := "storeNames", apart := false }
def StoreNamesSaid : Prop := storeNamesRow.holds Try.pinned (OpenSpec.ofChange storeNamesSpec)

/-- ITS FALSE NEIGHBOUR: 'it returns false'. Refute it at one input. -/
def storeNamesWrong : ChangeSpec := { name := "storeNames", fn := fun _ => fun
  | [] => { results := [.lit (.bool false)], args := [] }
  | _ => none }
def StoreNamesWrongFalsely : Prop := storeNamesRow.holds Try.pinned (OpenSpec.ofChange storeNamesWrong)

/-- 'longshorelaw22.TxnNames': WHATEVER THE INPUT: true; the input reads as it did. -/
def txnNamesSpec : ChangeSpec := { name := "txnNames", fn := fun _ => fun
  | [] => { results := [.lit (.bool true)], args := [] }
  | _ => none }
def txnNamesRow : OpenClaim := { program := "ytjkbbinfpmifaaa", sum := "f9d2005c0104133c31b08fc2f22d52a334c5bf82ef8d5a0ac1ff77a2ebb02472", func := "longshore/longshorelaw22.TxnNames", spec := "txnNames", apart := false }
def TxnNamesSaid : Prop := txnNamesRow.holds Try.pinned (OpenSpec.ofChange txnNamesSpec)

/-- ITS FALSE NEIGHBOUR: 'it returns false'. Refute it at one input. -/
def txnNamesWrong : ChangeSpec := { name := "txnNames", fn := fun _ => fun
  | [] => { results := [.lit (.bool false)], args := [] }
  | _ => none }
def TxnNamesWrongFalsely : Prop := txnNamesRow.holds Try.pinned (OpenSpec.ofChange txnNamesWrong)

/-- 'longshorelaw19.DiskNames': WHATEVER THE INPUT: true; the input reads as it did. -/
def diskNamesSpec : ChangeSpec := { name := "diskNames", fn := fun _ => fun
  | [] => { results := [.lit (.bool true)], args := [] }
  | _ => none }
def diskNamesRow : OpenClaim := { program := "ytjkbbinfpmifaaa", sum := "f9d2005c0104133c31b08fc2f22d52a334c5bf82ef8d5a0ac1ff77a2ebb02472", func := "longshore/longshorelaw19.DiskNames", spec := "diskNames", apart := false }
def DiskNamesSaid : Prop := diskNamesRow.holds Try.pinned (OpenSpec.ofChange diskNamesSpec)

/-- ITS FALSE NEIGHBOUR: 'it returns false'. Refute it at one input. -/
def diskNamesWrong : ChangeSpec := { name := "diskNames", fn := fun _ => fun
  | [] => { results := [.lit (.bool false)], args := [] }
  | _ => none }
def DiskNamesWrongFalsely : Prop := diskNamesRow.holds Try.pinned (OpenSpec.ofChange diskNamesWrong)

/- THE SECOND FORM. 'bulk': how many values and letters a reading holds, each counted each time it is reached (what is shared counts as often as it is met; a slice's spare places count too). A statement '..UptoSaid' is the law's where the arguments, and the package variables that the reading takes, are together of bulk at most 1048576: NARROWER than '..Said'. Prove '..Said' where nothing that the law and all that it calls make is longer than what came in: it says more and counts as full. Else prove '..UptoSaid'. A law counts once. -/
mutual
def uptoBulk {H : Type} : DataW H → Nat
  | .lit (.string bytes) => bytes.length + 1
  | .lit _ => 1
  | .nil => 1
  | .ptr d => uptoBulk d + 1
  | .slice elems spare => uptoBulkAll elems + uptoBulkAll spare + 1
  | .agg parts => uptoBulkAll parts + 1
  | .iface _ d => uptoBulk d + 1
  | .map entries => uptoBulkEntries entries + 1
  | .held _ => 1
def uptoBulkAll {H : Type} : List (DataW H) → Nat
  | [] => 0
  | d :: r => uptoBulk d + uptoBulkAll r
def uptoBulkEntries {H : Type} : List (Lit × DataW H) → Nat
  | [] => 0
  | x :: r => uptoBulkEntry x + uptoBulkEntries r
def uptoBulkEntry {H : Type} : Lit × DataW H → Nat
  | (.string bytes, d) => bytes.length + uptoBulk d + 1
  | (_, d) => uptoBulk d + 1
 end
def uptoSmall : (H : Type) → List (DataW H) → Bool := fun _ ds => decide (uptoBulkAll ds ≤ 1048576)
def OpenSpec.upto (s : _root_.Go.ChangeSpec) : _root_.Go.OpenSpec := { _root_.Go.OpenSpec.ofChange s with cond := some uptoSmall }

/-- 'longshorelaw28.LensNames', WHERE WHAT IT READS IS OF BULK AT MOST 1048576: true; the input reads as it did. -/
def lensNamesUptoRow : OpenClaim := { program := "ytjkbbinfpmifaaa", sum := "f9d2005c0104133c31b08fc2f22d52a334c5bf82ef8d5a0ac1ff77a2ebb02472", func := "longshore/longshorelaw28.LensNames", spec := "lensNames", apart := false, narrowed := true }
def LensNamesUptoSaid : Prop := lensNamesUptoRow.holds Try.pinned (OpenSpec.upto lensNamesSpec)

/-- 'longshorelaw16.SieveNames', WHERE WHAT IT READS IS OF BULK AT MOST 1048576: true; the input reads as it did. -/
def sieveNamesUptoRow : OpenClaim := { program := "ytjkbbinfpmifaaa", sum := "f9d2005c0104133c31b08fc2f22d52a334c5bf82ef8d5a0ac1ff77a2ebb02472", func := "longshore/longshorelaw16.SieveNames", spec := "sieveNames", apart := false, narrowed := true }
def SieveNamesUptoSaid : Prop := sieveNamesUptoRow.holds Try.pinned (OpenSpec.upto sieveNamesSpec)

/-- 'longshorelaw18.RouteNames', WHERE WHAT IT READS IS OF BULK AT MOST 1048576: true; the input reads as it did. -/
def routeNamesUptoRow : OpenClaim := { program := "ytjkbbinfpmifaaa", sum := "f9d2005c0104133c31b08fc2f22d52a334c5bf82ef8d5a0ac1ff77a2ebb02472", func := "longshore/longshorelaw18.RouteNames", spec := "routeNames", apart := false, narrowed := true }
def RouteNamesUptoSaid : Prop := routeNamesUptoRow.holds Try.pinned (OpenSpec.upto routeNamesSpec)

/-- 'longshorelaw21.StoreNames', WHERE WHAT IT READS IS OF BULK AT MOST 1048576: true; the input reads as it did. -/
def storeNamesUptoRow : OpenClaim := { program := "ytjkbbinfpmifaaa", sum := "f9d2005c0104133c31b08fc2f22d52a334c5bf82ef8d5a0ac1ff77a2ebb02472", func := "longshore/longshorelaw21.StoreNames", spec := "storeNames", apart := false, narrowed := true }
def StoreNamesUptoSaid : Prop := storeNamesUptoRow.holds Try.pinned (OpenSpec.upto storeNamesSpec)

/-- 'longshorelaw22.TxnNames', WHERE WHAT IT READS IS OF BULK AT MOST 1048576: true; the input reads as it did. -/
def txnNamesUptoRow : OpenClaim := { program := "ytjkbbinfpmifaaa", sum := "f9d2005c0104133c31b08fc2f22d52a334c5bf82ef8d5a0ac1ff77a2ebb02472", func := "longshore/longshorelaw22.TxnNames", spec := "txnNames", apart := false, narrowed := true }
def TxnNamesUptoSaid : Prop := txnNamesUptoRow.holds Try.pinned (OpenSpec.upto txnNamesSpec)

/-- 'longshorelaw19.DiskNames', WHERE WHAT IT READS IS OF BULK AT MOST 1048576: true; the input reads as it did. -/
def diskNamesUptoRow : OpenClaim := { program := "ytjkbbinfpmifaaa", sum := "f9d2005c0104133c31b08fc2f22d52a334c5bf82ef8d5a0ac1ff77a2ebb02472", func := "longshore/longshorelaw19.DiskNames", spec := "diskNames", apart := false, narrowed := true }
def DiskNamesUptoSaid : Prop := diskNamesUptoRow.holds Try.pinned (OpenSpec.upto diskNamesSpec)

end Rows
end Go.Proofs.Ytjkbbinfpmifaaa
