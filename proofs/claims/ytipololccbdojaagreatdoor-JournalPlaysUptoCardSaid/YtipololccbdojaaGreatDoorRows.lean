/-
  NARROWER THAN 'FOR EVERY INPUT', by the rows' own cells (each row's printed sentence says how): JournalNumbers: laid · JournalScans: laid · JournalTurned: laid · JournalTails: laid · JournalStroke: laid · JournalPlays: laid.
  DERIVED. THE GIVEN ROWS OF THIS SEAT. 6 by the template 'for every input the law returns true; each argument reads behind the call as it read before'; 0 by the template 'total and deterministic' (their statements: YtipololccbdojaaGreatDoorTotals.lean).
  GIVEN WITH THE SEED: the statements are not yours to turn. If you find one false, say at which input.
  Laid BY PROGRAM, IN A SANDBOX (cutbox-rows.mjs): the forced cells as the released guide's own fill.sh prints them over the translation 103e749956fd06f0… (all of the seat's roots in one cut). By AI agents, Wed Nov 11 2026. No macro, syntax, notation, axiom, sorry.
-/
import Derived.Test.YtipololccbdojaaGreatDoorChecked
import GoSem.Claim
import GoSem.ClaimJoined
import GoSem.ClaimMapViews
import Derived.JoinedTies
import Derived.KernelRfl
namespace Go.Proofs.YtipololccbdojaaGreatDoor
/- THE CELL 'sum', in the pinned program and in every row, IS THE sha256 OF THE DUMP (.gsa) THAT YtipololccbdojaaGreatDoorProg.lean LOADS. Nothing in Lean hashes anything: it is a label: what it is worth is what the hold of that sum in a sandbox is worth. -/
noncomputable def Tryz.pinned : Pinned := { name := "ytipololccbdojaagreatdoor", sum := "103e749956fd06f07a972ff44714aea2d98cc79a8375570fb8535bd1c7ae3c4d", checked := Tryz.checked }
namespace Rows
def none {H : Type} : Left H := { results := [], args := [] }

/- WHAT THE LISTED PACKAGE-LEVEL VARIABLES READ AS WHEN THE CALL BEGINS. Each datum BY PROGRAM (the guide's laid-datum.mjs) off the statement by which the dump's own 'gosem.cut.vars' lays the variable. In a bare row this is a premise. The card (YtipololccbdojaaGreatDoorCards.lean) ties it to the program's text. -/
def laid_errors_errorType {H : Type} : DataW H := .iface "internal/reflectlite.rtype" (.agg [.ptr (.lit (.string [101, 114, 114, 111, 114]))])
def laid_longshore_journal_errShort {H : Type} : DataW H := .iface "*errors.errorString" (.ptr (.agg [.lit (.string [97, 32, 98, 97, 116, 99, 104, 32, 116, 104, 97, 116, 32, 101, 110, 100, 115, 32, 116, 111, 111, 32, 101, 97, 114, 108, 121])]))
def laid_longshore_journal_errBroken {H : Type} : DataW H := .iface "*errors.errorString" (.ptr (.agg [.lit (.string [110, 111, 32, 98, 97, 116, 99, 104])]))

/-- 'longshorelaw20.JournalNumbers': WHATEVER THE INPUT: true; the input reads as it did. -/
def journalNumbersSpec : ChangeSpec := { name := "journalNumbers", fn := fun _ => fun
  | [] => { results := [.lit (.bool true)], args := [] }
  | _ => none }
def journalNumbersRow : OpenClaim := { program := "ytipololccbdojaagreatdoor", sum := "103e749956fd06f07a972ff44714aea2d98cc79a8375570fb8535bd1c7ae3c4d", func := "longshore/longshorelaw20.JournalNumbers", spec := "journalNumbers", inPlace := ["(*internal/sync.Mutex).Lock", "internal/race.Disable", "sync/atomic.CompareAndSwapInt32", "internal/race.Enable", "internal/race.Acquire", "(*internal/sync.Mutex).lockSlow", "internal/sync.runtime_canSpin", "internal/sync.runtime_doSpin", "internal/sync.throw", "internal/sync.runtime_nanotime", "internal/sync.runtime_SemacquireMutex", "sync/atomic.AddInt32", "(*internal/sync.Mutex).Unlock", "internal/race.ReleaseMerge", "(*internal/sync.Mutex).unlockSlow", "internal/sync.fatal", "internal/sync.runtime_Semrelease", "internal/reflectlite.ValueOf", "(internal/reflectlite.Value).Type", "(internal/reflectlite.Value).IsNil", "internal/reflectlite.TypeOf", "(internal/reflectlite.Value).Elem", "(internal/reflectlite.Value).Set"], unfollowed := true, recurses := true, named := ["longshore/journal.errBroken", "longshore/journal.errShort", "errors.errorType"], apart := false, laid := [("errors.errorType", laid_errors_errorType), ("longshore/journal.errShort", laid_longshore_journal_errShort), ("longshore/journal.errBroken", laid_longshore_journal_errBroken)] }
def JournalNumbersSaid : Prop := journalNumbersRow.holds Tryz.pinned (OpenSpec.ofChange journalNumbersSpec)

/-- ITS FALSE NEIGHBOUR: 'it returns false'. Refute it at one input. -/
def journalNumbersWrong : ChangeSpec := { name := "journalNumbers", fn := fun _ => fun
  | [] => { results := [.lit (.bool false)], args := [] }
  | _ => none }
def JournalNumbersWrongFalsely : Prop := journalNumbersRow.holds Tryz.pinned (OpenSpec.ofChange journalNumbersWrong)

/-- 'longshorelaw20.JournalScans': WHATEVER THE INPUT: true; the input reads as it did. -/
def journalScansSpec : ChangeSpec := { name := "journalScans", fn := fun _ => fun
  | [d1, d2] => { results := [.lit (.bool true)], args := [d1, d2] }
  | _ => none }
def journalScansRow : OpenClaim := { program := "ytipololccbdojaagreatdoor", sum := "103e749956fd06f07a972ff44714aea2d98cc79a8375570fb8535bd1c7ae3c4d", func := "longshore/longshorelaw20.JournalScans", spec := "journalScans", inPlace := ["(*internal/sync.Mutex).Lock", "internal/race.Disable", "sync/atomic.CompareAndSwapInt32", "internal/race.Enable", "internal/race.Acquire", "(*internal/sync.Mutex).lockSlow", "internal/sync.runtime_canSpin", "internal/sync.runtime_doSpin", "internal/sync.throw", "internal/sync.runtime_nanotime", "internal/sync.runtime_SemacquireMutex", "sync/atomic.AddInt32", "(*internal/sync.Mutex).Unlock", "internal/race.ReleaseMerge", "(*internal/sync.Mutex).unlockSlow", "internal/sync.fatal", "internal/sync.runtime_Semrelease", "internal/reflectlite.ValueOf", "(internal/reflectlite.Value).Type", "(internal/reflectlite.Value).IsNil", "internal/reflectlite.TypeOf", "(internal/reflectlite.Value).Elem", "(internal/reflectlite.Value).Set"], unfollowed := true, recurses := true, named := ["longshore/journal.errBroken", "longshore/journal.errShort", "errors.errorType"], apart := false, laid := [("errors.errorType", laid_errors_errorType), ("longshore/journal.errShort", laid_longshore_journal_errShort), ("longshore/journal.errBroken", laid_longshore_journal_errBroken)] }
def JournalScansSaid : Prop := journalScansRow.holds Tryz.pinned (OpenSpec.ofChange journalScansSpec)

/-- ITS FALSE NEIGHBOUR: 'it returns false'. Refute it at one input. -/
def journalScansWrong : ChangeSpec := { name := "journalScans", fn := fun _ => fun
  | [d1, d2] => { results := [.lit (.bool false)], args := [d1, d2] }
  | _ => none }
def JournalScansWrongFalsely : Prop := journalScansRow.holds Tryz.pinned (OpenSpec.ofChange journalScansWrong)

/-- 'longshorelaw20.JournalTurned': WHATEVER THE INPUT: true; the input reads as it did. -/
def journalTurnedSpec : ChangeSpec := { name := "journalTurned", fn := fun _ => fun
  | [d1, d2, d3, d4] => { results := [.lit (.bool true)], args := [d1, d2, d3, d4] }
  | _ => none }
def journalTurnedRow : OpenClaim := { program := "ytipololccbdojaagreatdoor", sum := "103e749956fd06f07a972ff44714aea2d98cc79a8375570fb8535bd1c7ae3c4d", func := "longshore/longshorelaw20.JournalTurned", spec := "journalTurned", inPlace := ["(*internal/sync.Mutex).Lock", "internal/race.Disable", "sync/atomic.CompareAndSwapInt32", "internal/race.Enable", "internal/race.Acquire", "(*internal/sync.Mutex).lockSlow", "internal/sync.runtime_canSpin", "internal/sync.runtime_doSpin", "internal/sync.throw", "internal/sync.runtime_nanotime", "internal/sync.runtime_SemacquireMutex", "sync/atomic.AddInt32", "(*internal/sync.Mutex).Unlock", "internal/race.ReleaseMerge", "(*internal/sync.Mutex).unlockSlow", "internal/sync.fatal", "internal/sync.runtime_Semrelease", "internal/reflectlite.ValueOf", "(internal/reflectlite.Value).Type", "(internal/reflectlite.Value).IsNil", "internal/reflectlite.TypeOf", "(internal/reflectlite.Value).Elem", "(internal/reflectlite.Value).Set"], unfollowed := true, recurses := true, named := ["longshore/journal.errBroken", "longshore/journal.errShort", "errors.errorType"], apart := false, laid := [("errors.errorType", laid_errors_errorType), ("longshore/journal.errShort", laid_longshore_journal_errShort), ("longshore/journal.errBroken", laid_longshore_journal_errBroken)] }
def JournalTurnedSaid : Prop := journalTurnedRow.holds Tryz.pinned (OpenSpec.ofChange journalTurnedSpec)

/-- ITS FALSE NEIGHBOUR: 'it returns false'. Refute it at one input. -/
def journalTurnedWrong : ChangeSpec := { name := "journalTurned", fn := fun _ => fun
  | [d1, d2, d3, d4] => { results := [.lit (.bool false)], args := [d1, d2, d3, d4] }
  | _ => none }
def JournalTurnedWrongFalsely : Prop := journalTurnedRow.holds Tryz.pinned (OpenSpec.ofChange journalTurnedWrong)

/-- 'longshorelaw20.JournalTails': WHATEVER THE INPUT: true; the input reads as it did. -/
def journalTailsSpec : ChangeSpec := { name := "journalTails", fn := fun _ => fun
  | [d1, d2, d3, d4] => { results := [.lit (.bool true)], args := [d1, d2, d3, d4] }
  | _ => none }
def journalTailsRow : OpenClaim := { program := "ytipololccbdojaagreatdoor", sum := "103e749956fd06f07a972ff44714aea2d98cc79a8375570fb8535bd1c7ae3c4d", func := "longshore/longshorelaw20.JournalTails", spec := "journalTails", inPlace := ["(*internal/sync.Mutex).Lock", "internal/race.Disable", "sync/atomic.CompareAndSwapInt32", "internal/race.Enable", "internal/race.Acquire", "(*internal/sync.Mutex).lockSlow", "internal/sync.runtime_canSpin", "internal/sync.runtime_doSpin", "internal/sync.throw", "internal/sync.runtime_nanotime", "internal/sync.runtime_SemacquireMutex", "sync/atomic.AddInt32", "(*internal/sync.Mutex).Unlock", "internal/race.ReleaseMerge", "(*internal/sync.Mutex).unlockSlow", "internal/sync.fatal", "internal/sync.runtime_Semrelease", "internal/reflectlite.ValueOf", "(internal/reflectlite.Value).Type", "(internal/reflectlite.Value).IsNil", "internal/reflectlite.TypeOf", "(internal/reflectlite.Value).Elem", "(internal/reflectlite.Value).Set"], unfollowed := true, recurses := true, named := ["longshore/journal.errBroken", "longshore/journal.errShort", "errors.errorType"], apart := false, laid := [("errors.errorType", laid_errors_errorType), ("longshore/journal.errShort", laid_longshore_journal_errShort), ("longshore/journal.errBroken", laid_longshore_journal_errBroken)] }
def JournalTailsSaid : Prop := journalTailsRow.holds Tryz.pinned (OpenSpec.ofChange journalTailsSpec)

/-- ITS FALSE NEIGHBOUR: 'it returns false'. Refute it at one input. -/
def journalTailsWrong : ChangeSpec := { name := "journalTails", fn := fun _ => fun
  | [d1, d2, d3, d4] => { results := [.lit (.bool false)], args := [d1, d2, d3, d4] }
  | _ => none }
def JournalTailsWrongFalsely : Prop := journalTailsRow.holds Tryz.pinned (OpenSpec.ofChange journalTailsWrong)

/-- 'longshorelaw20.JournalStroke': WHATEVER THE INPUT: true; the input reads as it did. -/
def journalStrokeSpec : ChangeSpec := { name := "journalStroke", fn := fun _ => fun
  | [d1, d2] => { results := [.lit (.bool true)], args := [d1, d2] }
  | _ => none }
def journalStrokeRow : OpenClaim := { program := "ytipololccbdojaagreatdoor", sum := "103e749956fd06f07a972ff44714aea2d98cc79a8375570fb8535bd1c7ae3c4d", func := "longshore/longshorelaw20.JournalStroke", spec := "journalStroke", inPlace := ["(*internal/sync.Mutex).Lock", "internal/race.Disable", "sync/atomic.CompareAndSwapInt32", "internal/race.Enable", "internal/race.Acquire", "(*internal/sync.Mutex).lockSlow", "internal/sync.runtime_canSpin", "internal/sync.runtime_doSpin", "internal/sync.throw", "internal/sync.runtime_nanotime", "internal/sync.runtime_SemacquireMutex", "sync/atomic.AddInt32", "(*internal/sync.Mutex).Unlock", "internal/race.ReleaseMerge", "(*internal/sync.Mutex).unlockSlow", "internal/sync.fatal", "internal/sync.runtime_Semrelease", "internal/reflectlite.ValueOf", "(internal/reflectlite.Value).Type", "(internal/reflectlite.Value).IsNil", "internal/reflectlite.TypeOf", "(internal/reflectlite.Value).Elem", "(internal/reflectlite.Value).Set"], unfollowed := true, recurses := true, named := ["longshore/journal.errBroken", "longshore/journal.errShort", "errors.errorType"], apart := false, laid := [("errors.errorType", laid_errors_errorType), ("longshore/journal.errShort", laid_longshore_journal_errShort), ("longshore/journal.errBroken", laid_longshore_journal_errBroken)] }
def JournalStrokeSaid : Prop := journalStrokeRow.holds Tryz.pinned (OpenSpec.ofChange journalStrokeSpec)

/-- ITS FALSE NEIGHBOUR: 'it returns false'. Refute it at one input. -/
def journalStrokeWrong : ChangeSpec := { name := "journalStroke", fn := fun _ => fun
  | [d1, d2] => { results := [.lit (.bool false)], args := [d1, d2] }
  | _ => none }
def JournalStrokeWrongFalsely : Prop := journalStrokeRow.holds Tryz.pinned (OpenSpec.ofChange journalStrokeWrong)

/-- 'longshorelaw20.JournalPlays': WHATEVER THE INPUT: true; the input reads as it did. -/
def journalPlaysSpec : ChangeSpec := { name := "journalPlays", fn := fun _ => fun
  | [d1, d2, d3] => { results := [.lit (.bool true)], args := [d1, d2, d3] }
  | _ => none }
def journalPlaysRow : OpenClaim := { program := "ytipololccbdojaagreatdoor", sum := "103e749956fd06f07a972ff44714aea2d98cc79a8375570fb8535bd1c7ae3c4d", func := "longshore/longshorelaw20.JournalPlays", spec := "journalPlays", inPlace := ["(*internal/sync.Mutex).Lock", "internal/race.Disable", "sync/atomic.CompareAndSwapInt32", "internal/race.Enable", "internal/race.Acquire", "(*internal/sync.Mutex).lockSlow", "internal/sync.runtime_canSpin", "internal/sync.runtime_doSpin", "internal/sync.throw", "internal/sync.runtime_nanotime", "internal/sync.runtime_SemacquireMutex", "sync/atomic.AddInt32", "(*internal/sync.Mutex).Unlock", "internal/race.ReleaseMerge", "(*internal/sync.Mutex).unlockSlow", "internal/sync.fatal", "internal/sync.runtime_Semrelease", "internal/reflectlite.ValueOf", "(internal/reflectlite.Value).Type", "(internal/reflectlite.Value).IsNil", "internal/reflectlite.TypeOf", "(internal/reflectlite.Value).Elem", "(internal/reflectlite.Value).Set"], unfollowed := true, recurses := true, named := ["longshore/journal.errBroken", "longshore/journal.errShort", "errors.errorType"], apart := false, laid := [("errors.errorType", laid_errors_errorType), ("longshore/journal.errShort", laid_longshore_journal_errShort), ("longshore/journal.errBroken", laid_longshore_journal_errBroken)] }
def JournalPlaysSaid : Prop := journalPlaysRow.holds Tryz.pinned (OpenSpec.ofChange journalPlaysSpec)

/-- ITS FALSE NEIGHBOUR: 'it returns false'. Refute it at one input. -/
def journalPlaysWrong : ChangeSpec := { name := "journalPlays", fn := fun _ => fun
  | [d1, d2, d3] => { results := [.lit (.bool false)], args := [d1, d2, d3] }
  | _ => none }
def JournalPlaysWrongFalsely : Prop := journalPlaysRow.holds Tryz.pinned (OpenSpec.ofChange journalPlaysWrong)

/- THE SECOND FORM. 'bulk': how many values and letters a reading holds, each counted each time it is reached (what is shared counts as often as it is met; a slice's spare places count too). A statement '..UptoSaid' is the law's where the arguments, and the package variables that the reading takes, are together of bulk at most 1048576: NARROWER than '..Said'. Prove '..Said' where nothing that the law and all that it calls make is longer than what came in: it says more and counts as full. Else prove '..UptoSaid'. A law counts once. -/
mutual
def uptoBulk {H : Type} : DataW H → Nat
  | .lit (.string bytes) => bytes.length + 1
  | .lit _ => 1
  | .nil => 1
  | .ptr d => uptoBulk d + 1
  | .slice elems spare => uptoBulkAll elems + uptoBulkAll spare + 1
  | .agg parts => uptoBulkAll parts + 1
  | .iface _ d => uptoBulk d + 1
  | .map entries => uptoBulkEntries entries + 1
  | .held _ => 1
def uptoBulkAll {H : Type} : List (DataW H) → Nat
  | [] => 0
  | d :: r => uptoBulk d + uptoBulkAll r
def uptoBulkEntries {H : Type} : List (Lit × DataW H) → Nat
  | [] => 0
  | x :: r => uptoBulkEntry x + uptoBulkEntries r
def uptoBulkEntry {H : Type} : Lit × DataW H → Nat
  | (.string bytes, d) => bytes.length + uptoBulk d + 1
  | (_, d) => uptoBulk d + 1
 end
def uptoSmall : (H : Type) → List (DataW H) → Bool := fun _ ds => decide (uptoBulkAll ds ≤ 1048576)
def OpenSpec.upto (s : _root_.Go.ChangeSpec) : _root_.Go.OpenSpec := { _root_.Go.OpenSpec.ofChange s with cond := some uptoSmall }

/-- 'longshorelaw20.JournalNumbers', WHERE WHAT IT READS IS OF BULK AT MOST 1048576: true; the input reads as it did. -/
def journalNumbersUptoRow : OpenClaim := { program := "ytipololccbdojaagreatdoor", sum := "103e749956fd06f07a972ff44714aea2d98cc79a8375570fb8535bd1c7ae3c4d", func := "longshore/longshorelaw20.JournalNumbers", spec := "journalNumbers", inPlace := ["(*internal/sync.Mutex).Lock", "internal/race.Disable", "sync/atomic.CompareAndSwapInt32", "internal/race.Enable", "internal/race.Acquire", "(*internal/sync.Mutex).lockSlow", "internal/sync.runtime_canSpin", "internal/sync.runtime_doSpin", "internal/sync.throw", "internal/sync.runtime_nanotime", "internal/sync.runtime_SemacquireMutex", "sync/atomic.AddInt32", "(*internal/sync.Mutex).Unlock", "internal/race.ReleaseMerge", "(*internal/sync.Mutex).unlockSlow", "internal/sync.fatal", "internal/sync.runtime_Semrelease", "internal/reflectlite.ValueOf", "(internal/reflectlite.Value).Type", "(internal/reflectlite.Value).IsNil", "internal/reflectlite.TypeOf", "(internal/reflectlite.Value).Elem", "(internal/reflectlite.Value).Set"], unfollowed := true, recurses := true, named := ["longshore/journal.errBroken", "longshore/journal.errShort", "errors.errorType"], apart := false, laid := [("errors.errorType", laid_errors_errorType), ("longshore/journal.errShort", laid_longshore_journal_errShort), ("longshore/journal.errBroken", laid_longshore_journal_errBroken)], narrowed := true }
def JournalNumbersUptoSaid : Prop := journalNumbersUptoRow.holds Tryz.pinned (OpenSpec.upto journalNumbersSpec)

/-- 'longshorelaw20.JournalScans', WHERE WHAT IT READS IS OF BULK AT MOST 1048576: true; the input reads as it did. -/
def journalScansUptoRow : OpenClaim := { program := "ytipololccbdojaagreatdoor", sum := "103e749956fd06f07a972ff44714aea2d98cc79a8375570fb8535bd1c7ae3c4d", func := "longshore/longshorelaw20.JournalScans", spec := "journalScans", inPlace := ["(*internal/sync.Mutex).Lock", "internal/race.Disable", "sync/atomic.CompareAndSwapInt32", "internal/race.Enable", "internal/race.Acquire", "(*internal/sync.Mutex).lockSlow", "internal/sync.runtime_canSpin", "internal/sync.runtime_doSpin", "internal/sync.throw", "internal/sync.runtime_nanotime", "internal/sync.runtime_SemacquireMutex", "sync/atomic.AddInt32", "(*internal/sync.Mutex).Unlock", "internal/race.ReleaseMerge", "(*internal/sync.Mutex).unlockSlow", "internal/sync.fatal", "internal/sync.runtime_Semrelease", "internal/reflectlite.ValueOf", "(internal/reflectlite.Value).Type", "(internal/reflectlite.Value).IsNil", "internal/reflectlite.TypeOf", "(internal/reflectlite.Value).Elem", "(internal/reflectlite.Value).Set"], unfollowed := true, recurses := true, named := ["longshore/journal.errBroken", "longshore/journal.errShort", "errors.errorType"], apart := false, laid := [("errors.errorType", laid_errors_errorType), ("longshore/journal.errShort", laid_longshore_journal_errShort), ("longshore/journal.errBroken", laid_longshore_journal_errBroken)], narrowed := true }
def JournalScansUptoSaid : Prop := journalScansUptoRow.holds Tryz.pinned (OpenSpec.upto journalScansSpec)

/-- 'longshorelaw20.JournalTurned', WHERE WHAT IT READS IS OF BULK AT MOST 1048576: true; the input reads as it did. -/
def journalTurnedUptoRow : OpenClaim := { program := "ytipololccbdojaagreatdoor", sum := "103e749956fd06f07a972ff44714aea2d98cc79a8375570fb8535bd1c7ae3c4d", func := "longshore/longshorelaw20.JournalTurned", spec := "journalTurned", inPlace := ["(*internal/sync.Mutex).Lock", "internal/race.Disable", "sync/atomic.CompareAndSwapInt32", "internal/race.Enable", "internal/race.Acquire", "(*internal/sync.Mutex).lockSlow", "internal/sync.runtime_canSpin", "internal/sync.runtime_doSpin", "internal/sync.throw", "internal/sync.runtime_nanotime", "internal/sync.runtime_SemacquireMutex", "sync/atomic.AddInt32", "(*internal/sync.Mutex).Unlock", "internal/race.ReleaseMerge", "(*internal/sync.Mutex).unlockSlow", "internal/sync.fatal", "internal/sync.runtime_Semrelease", "internal/reflectlite.ValueOf", "(internal/reflectlite.Value).Type", "(internal/reflectlite.Value).IsNil", "internal/reflectlite.TypeOf", "(internal/reflectlite.Value).Elem", "(internal/reflectlite.Value).Set"], unfollowed := true, recurses := true, named := ["longshore/journal.errBroken", "longshore/journal.errShort", "errors.errorType"], apart := false, laid := [("errors.errorType", laid_errors_errorType), ("longshore/journal.errShort", laid_longshore_journal_errShort), ("longshore/journal.errBroken", laid_longshore_journal_errBroken)], narrowed := true }
def JournalTurnedUptoSaid : Prop := journalTurnedUptoRow.holds Tryz.pinned (OpenSpec.upto journalTurnedSpec)

/-- 'longshorelaw20.JournalTails', WHERE WHAT IT READS IS OF BULK AT MOST 1048576: true; the input reads as it did. -/
def journalTailsUptoRow : OpenClaim := { program := "ytipololccbdojaagreatdoor", sum := "103e749956fd06f07a972ff44714aea2d98cc79a8375570fb8535bd1c7ae3c4d", func := "longshore/longshorelaw20.JournalTails", spec := "journalTails", inPlace := ["(*internal/sync.Mutex).Lock", "internal/race.Disable", "sync/atomic.CompareAndSwapInt32", "internal/race.Enable", "internal/race.Acquire", "(*internal/sync.Mutex).lockSlow", "internal/sync.runtime_canSpin", "internal/sync.runtime_doSpin", "internal/sync.throw", "internal/sync.runtime_nanotime", "internal/sync.runtime_SemacquireMutex", "sync/atomic.AddInt32", "(*internal/sync.Mutex).Unlock", "internal/race.ReleaseMerge", "(*internal/sync.Mutex).unlockSlow", "internal/sync.fatal", "internal/sync.runtime_Semrelease", "internal/reflectlite.ValueOf", "(internal/reflectlite.Value).Type", "(internal/reflectlite.Value).IsNil", "internal/reflectlite.TypeOf", "(internal/reflectlite.Value).Elem", "(internal/reflectlite.Value).Set"], unfollowed := true, recurses := true, named := ["longshore/journal.errBroken", "longshore/journal.errShort", "errors.errorType"], apart := false, laid := [("errors.errorType", laid_errors_errorType), ("longshore/journal.errShort", laid_longshore_journal_errShort), ("longshore/journal.errBroken", laid_longshore_journal_errBroken)], narrowed := true }
def JournalTailsUptoSaid : Prop := journalTailsUptoRow.holds Tryz.pinned (OpenSpec.upto journalTailsSpec)

/-- 'longshorelaw20.JournalStroke', WHERE WHAT IT READS IS OF BULK AT MOST 1048576: true; the input reads as it did. -/
def journalStrokeUptoRow : OpenClaim := { program := "ytipololccbdojaagreatdoor", sum := "103e749956fd06f07a972ff44714aea2d98cc79a8375570fb8535bd1c7ae3c4d", func := "longshore/longshorelaw20.JournalStroke", spec := "journalStroke", inPlace := ["(*internal/sync.Mutex).Lock", "internal/race.Disable", "sync/atomic.CompareAndSwapInt32", "internal/race.Enable", "internal/race.Acquire", "(*internal/sync.Mutex).lockSlow", "internal/sync.runtime_canSpin", "internal/sync.runtime_doSpin", "internal/sync.throw", "internal/sync.runtime_nanotime", "internal/sync.runtime_SemacquireMutex", "sync/atomic.AddInt32", "(*internal/sync.Mutex).Unlock", "internal/race.ReleaseMerge", "(*internal/sync.Mutex).unlockSlow", "internal/sync.fatal", "internal/sync.runtime_Semrelease", "internal/reflectlite.ValueOf", "(internal/reflectlite.Value).Type", "(internal/reflectlite.Value).IsNil", "internal/reflectlite.TypeOf", "(internal/reflectlite.Value).Elem", "(internal/reflectlite.Value).Set"], unfollowed := true, recurses := true, named := ["longshore/journal.errBroken", "longshore/journal.errShort", "errors.errorType"], apart := false, laid := [("errors.errorType", laid_errors_errorType), ("longshore/journal.errShort", laid_longshore_journal_errShort), ("longshore/journal.errBroken", laid_longshore_journal_errBroken)], narrowed := true }
def JournalStrokeUptoSaid : Prop := journalStrokeUptoRow.holds Tryz.pinned (OpenSpec.upto journalStrokeSpec)

/-- 'longshorelaw20.JournalPlays', WHERE WHAT IT READS IS OF BULK AT MOST 1048576: true; the input reads as it did. -/
def journalPlaysUptoRow : OpenClaim := { program := "ytipololccbdojaagreatdoor", sum := "103e749956fd06f07a972ff44714aea2d98cc79a8375570fb8535bd1c7ae3c4d", func := "longshore/longshorelaw20.JournalPlays", spec := "journalPlays", inPlace := ["(*internal/sync.Mutex).Lock", "internal/race.Disable", "sync/atomic.CompareAndSwapInt32", "internal/race.Enable", "internal/race.Acquire", "(*internal/sync.Mutex).lockSlow", "internal/sync.runtime_canSpin", "internal/sync.runtime_doSpin", "internal/sync.throw", "internal/sync.runtime_nanotime", "internal/sync.runtime_SemacquireMutex", "sync/atomic.AddInt32", "(*internal/sync.Mutex).Unlock", "internal/race.ReleaseMerge", "(*internal/sync.Mutex).unlockSlow", "internal/sync.fatal", "internal/sync.runtime_Semrelease", "internal/reflectlite.ValueOf", "(internal/reflectlite.Value).Type", "(internal/reflectlite.Value).IsNil", "internal/reflectlite.TypeOf", "(internal/reflectlite.Value).Elem", "(internal/reflectlite.Value).Set"], unfollowed := true, recurses := true, named := ["longshore/journal.errBroken", "longshore/journal.errShort", "errors.errorType"], apart := false, laid := [("errors.errorType", laid_errors_errorType), ("longshore/journal.errShort", laid_longshore_journal_errShort), ("longshore/journal.errBroken", laid_longshore_journal_errBroken)], narrowed := true }
def JournalPlaysUptoSaid : Prop := journalPlaysUptoRow.holds Tryz.pinned (OpenSpec.upto journalPlaysSpec)

end Rows
end Go.Proofs.YtipololccbdojaaGreatDoor
