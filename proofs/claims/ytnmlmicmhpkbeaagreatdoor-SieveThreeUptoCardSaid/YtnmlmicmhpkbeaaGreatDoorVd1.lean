/-
  The closed facts of the row of SieveThree, one by one.
-/
import Derived.Test.YtnmlmicmhpkbeaaGreatDoorCards
import Derived.Test.YtnmlmicmhpkbeaaGreatDoorTie
import Derived.JoinedOf
namespace Go.Proofs.YtnmlmicmhpkbeaaGreatDoor
open Go
set_option linter.unusedVariables false
set_option Elab.async false
set_option maxRecDepth 100000
namespace sieveThree
theorem j0 : (fun (P : Program) (f : FuncId) (fn : Func) (s : ChangeSpec) (c : OpenClaim) => (c.wf (OpenSpec.ofChange s) : Bool)) Tryz.prog 6 Tryz.f6 (Rows.OpenSpec.upto Rows.sieveThreeSpec).bare Rows.sieveThreeUptoRow = true := by kernel_rfl
theorem j1 : (fun (P : Program) (f : FuncId) (fn : Func) (s : ChangeSpec) (c : OpenClaim) => (laidOutB P : Bool)) Tryz.prog 6 Tryz.f6 (Rows.OpenSpec.upto Rows.sieveThreeSpec).bare Rows.sieveThreeUptoRow = true := by kernel_rfl
theorem j2 : (fun (P : Program) (f : FuncId) (fn : Func) (s : ChangeSpec) (c : OpenClaim) => (mapsRowed P : Bool)) Tryz.prog 6 Tryz.f6 (Rows.OpenSpec.upto Rows.sieveThreeSpec).bare Rows.sieveThreeUptoRow = true := by kernel_rfl
theorem j3 : (fun (P : Program) (f : FuncId) (fn : Func) (s : ChangeSpec) (c : OpenClaim) => (fn.params.all (P.readableRec ·) : Bool)) Tryz.prog 6 Tryz.f6 (Rows.OpenSpec.upto Rows.sieveThreeSpec).bare Rows.sieveThreeUptoRow = true := by kernel_rfl
theorem j4 : (fun (P : Program) (f : FuncId) (fn : Func) (s : ChangeSpec) (c : OpenClaim) => (namedTie P c.named s.vars : Bool)) Tryz.prog 6 Tryz.f6 (Rows.OpenSpec.upto Rows.sieveThreeSpec).bare Rows.sieveThreeUptoRow = true := by kernel_rfl
theorem j5 : (fun (P : Program) (f : FuncId) (fn : Func) (s : ChangeSpec) (c : OpenClaim) => ((c.stops == []) : Bool)) Tryz.prog 6 Tryz.f6 (Rows.OpenSpec.upto Rows.sieveThreeSpec).bare Rows.sieveThreeUptoRow = true := by kernel_rfl
theorem j6 : (fun (P : Program) (f : FuncId) (fn : Func) (s : ChangeSpec) (c : OpenClaim) => ((P.stops == []) : Bool)) Tryz.prog 6 Tryz.f6 (Rows.OpenSpec.upto Rows.sieveThreeSpec).bare Rows.sieveThreeUptoRow = true := by kernel_rfl
theorem j7 : (fun (P : Program) (f : FuncId) (fn : Func) (s : ChangeSpec) (c : OpenClaim) => ((c.knobs == []) : Bool)) Tryz.prog 6 Tryz.f6 (Rows.OpenSpec.upto Rows.sieveThreeSpec).bare Rows.sieveThreeUptoRow = true := by kernel_rfl
theorem j8 : (fun (P : Program) (f : FuncId) (fn : Func) (s : ChangeSpec) (c : OpenClaim) => ((P.stopKnobs == []) : Bool)) Tryz.prog 6 Tryz.f6 (Rows.OpenSpec.upto Rows.sieveThreeSpec).bare Rows.sieveThreeUptoRow = true := by kernel_rfl
theorem j9 : (fun (P : Program) (f : FuncId) (fn : Func) (s : ChangeSpec) (c : OpenClaim) => ((c.inPlace == P.inPlace f) : Bool)) Tryz.prog 6 Tryz.f6 (Rows.OpenSpec.upto Rows.sieveThreeSpec).bare Rows.sieveThreeUptoRow = true := by kernel_rfl
theorem j10 : (fun (P : Program) (f : FuncId) (fn : Func) (s : ChangeSpec) (c : OpenClaim) => ((c.unfollowed == P.unfollowed f) : Bool)) Tryz.prog 6 Tryz.f6 (Rows.OpenSpec.upto Rows.sieveThreeSpec).bare Rows.sieveThreeUptoRow = true := by kernel_rfl
theorem j11 : (fun (P : Program) (f : FuncId) (fn : Func) (s : ChangeSpec) (c : OpenClaim) => ((c.recurses == P.recurses f) : Bool)) Tryz.prog 6 Tryz.f6 (Rows.OpenSpec.upto Rows.sieveThreeSpec).bare Rows.sieveThreeUptoRow = true := by kernel_rfl
theorem j12 : (fun (P : Program) (f : FuncId) (fn : Func) (s : ChangeSpec) (c : OpenClaim) => ((c.named == P.varsNamed f) : Bool)) Tryz.prog 6 Tryz.f6 (Rows.OpenSpec.upto Rows.sieveThreeSpec).bare Rows.sieveThreeUptoRow = true := by kernel_rfl
theorem j13 : (fun (P : Program) (f : FuncId) (fn : Func) (s : ChangeSpec) (c : OpenClaim) => ((c.maps == (fn.params.toList ++ s.plain.varTypes P).any (P.mapsRec ·)) : Bool)) Tryz.prog 6 Tryz.f6 (Rows.OpenSpec.upto Rows.sieveThreeSpec).bare Rows.sieveThreeUptoRow = true := by kernel_rfl
theorem j14 : (fun (P : Program) (f : FuncId) (fn : Func) (s : ChangeSpec) (c : OpenClaim) => ((c.ifaces == (fn.params.toList ++ s.plain.varTypes P).any (P.ifacesRec ·)) : Bool)) Tryz.prog 6 Tryz.f6 (Rows.OpenSpec.upto Rows.sieveThreeSpec).bare Rows.sieveThreeUptoRow = true := by kernel_rfl
theorem j15 : (fun (P : Program) (f : FuncId) (fn : Func) (s : ChangeSpec) (c : OpenClaim) => ((c.mapsOut == P.mapsAmong fn.resultTypes.toList) : Bool)) Tryz.prog 6 Tryz.f6 (Rows.OpenSpec.upto Rows.sieveThreeSpec).bare Rows.sieveThreeUptoRow = true := by kernel_rfl
theorem j16 : (fun (P : Program) (f : FuncId) (fn : Func) (s : ChangeSpec) (c : OpenClaim) => ((c.loops == (fn.params.toList ++ s.plain.varTypes P).any (P.loopsFrom ·)) : Bool)) Tryz.prog 6 Tryz.f6 (Rows.OpenSpec.upto Rows.sieveThreeSpec).bare Rows.sieveThreeUptoRow = true := by kernel_rfl
theorem j17 : (fun (P : Program) (f : FuncId) (fn : Func) (s : ChangeSpec) (c : OpenClaim) => ((c.wideKeys == (fn.params.toList ++ s.plain.varTypes P ++ fn.resultTypes.toList).any (P.wideKeysFrom ·)) : Bool)) Tryz.prog 6 Tryz.f6 (Rows.OpenSpec.upto Rows.sieveThreeSpec).bare Rows.sieveThreeUptoRow = true := by kernel_rfl
theorem j18 : (fun (P : Program) (f : FuncId) (fn : Func) (s : ChangeSpec) (c : OpenClaim) => (s.vars.all (P.varReadable ·) : Bool)) Tryz.prog 6 Tryz.f6 (Rows.OpenSpec.upto Rows.sieveThreeSpec).bare Rows.sieveThreeUptoRow = true := by kernel_rfl
theorem j19 : (fun (P : Program) (f : FuncId) (fn : Func) (s : ChangeSpec) (c : OpenClaim) => (fn.resultTypes.all (fun t => P.readableRec t && decide (t < P.types.size)) : Bool)) Tryz.prog 6 Tryz.f6 (Rows.OpenSpec.upto Rows.sieveThreeSpec).bare Rows.sieveThreeUptoRow = true := by kernel_rfl
theorem j20 : (fun (P : Program) (f : FuncId) (fn : Func) (s : ChangeSpec) (c : OpenClaim) => ((c.ifacesOut == fn.resultTypes.toList.any (P.ifacesRec ·)) : Bool)) Tryz.prog 6 Tryz.f6 (Rows.OpenSpec.upto Rows.sieveThreeSpec).bare Rows.sieveThreeUptoRow = true := by kernel_rfl
theorem j21 : (fun (P : Program) (f : FuncId) (fn : Func) (s : ChangeSpec) (c : OpenClaim) => ((c.loopsOut == fn.resultTypes.toList.any (P.loopsFrom ·)) : Bool)) Tryz.prog 6 Tryz.f6 (Rows.OpenSpec.upto Rows.sieveThreeSpec).bare Rows.sieveThreeUptoRow = true := by kernel_rfl
theorem j22 : (fun (P : Program) (f : FuncId) (fn : Func) (s : ChangeSpec) (c : OpenClaim) => ((c.plainKeys == P.plainKeys) : Bool)) Tryz.prog 6 Tryz.f6 (Rows.OpenSpec.upto Rows.sieveThreeSpec).bare Rows.sieveThreeUptoRow = true := by kernel_rfl
theorem j23 : (fun (P : Program) (f : FuncId) (fn : Func) (s : ChangeSpec) (c : OpenClaim) => (c.shortTexts.isNone : Bool)) Tryz.prog 6 Tryz.f6 (Rows.OpenSpec.upto Rows.sieveThreeSpec).bare Rows.sieveThreeUptoRow = true := by kernel_rfl
theorem j24 : (fun (P : Program) (f : FuncId) (fn : Func) (s : ChangeSpec) (c : OpenClaim) => (P.stopsHeard : Bool)) Tryz.prog 6 Tryz.f6 (Rows.OpenSpec.upto Rows.sieveThreeSpec).bare Rows.sieveThreeUptoRow = true := by kernel_rfl
theorem j25 : (fun (P : Program) (f : FuncId) (fn : Func) (s : ChangeSpec) (c : OpenClaim) => (P.mayEnter : Bool)) Tryz.prog 6 Tryz.f6 (Rows.OpenSpec.upto Rows.sieveThreeSpec).bare Rows.sieveThreeUptoRow = true := by kernel_rfl
theorem j26 : (fun (P : Program) (f : FuncId) (fn : Func) (s : ChangeSpec) (c : OpenClaim) => ((c.lifted == P.liftsFinal) : Bool)) Tryz.prog 6 Tryz.f6 (Rows.OpenSpec.upto Rows.sieveThreeSpec).bare Rows.sieveThreeUptoRow = true := by kernel_rfl
theorem j27 : (fun (P : Program) (f : FuncId) (fn : Func) (s : ChangeSpec) (c : OpenClaim) => ((P.make == some c.make) : Bool)) Tryz.prog 6 Tryz.f6 (Rows.OpenSpec.upto Rows.sieveThreeSpec).bare Rows.sieveThreeUptoRow = true := by kernel_rfl
theorem j28 : (fun (P : Program) (f : FuncId) (fn : Func) (s : ChangeSpec) (c : OpenClaim) => ((c.kinds == (if c.domain.isEmpty then [] else fn.params.toList.map fun t => match P.underlying t with | some (.int k) => some k | _ => none)) : Bool)) Tryz.prog 6 Tryz.f6 (Rows.OpenSpec.upto Rows.sieveThreeSpec).bare Rows.sieveThreeUptoRow = true := by kernel_rfl
theorem j29 : (fun (P : Program) (f : FuncId) (fn : Func) (s : ChangeSpec) (c : OpenClaim) => ((c.pinned == c.pinnedBy) : Bool)) Tryz.prog 6 Tryz.f6 (Rows.OpenSpec.upto Rows.sieveThreeSpec).bare Rows.sieveThreeUptoRow = true := by kernel_rfl
theorem j30 : (fun (P : Program) (f : FuncId) (fn : Func) (s : ChangeSpec) (c : OpenClaim) => ((c.veiled == (fn.params.toList ++ s.plain.varTypes P ++ fn.resultTypes.toList).any (P.veiledRec ·)) : Bool)) Tryz.prog 6 Tryz.f6 (Rows.OpenSpec.upto Rows.sieveThreeSpec).bare Rows.sieveThreeUptoRow = true := by kernel_rfl
theorem j31 : (fun (P : Program) (f : FuncId) (fn : Func) (s : ChangeSpec) (c : OpenClaim) => (c.veiledFits P fn.params.toList (fn.params.toList ++ s.plain.varTypes P ++ fn.resultTypes.toList) : Bool)) Tryz.prog 6 Tryz.f6 (Rows.OpenSpec.upto Rows.sieveThreeSpec).bare Rows.sieveThreeUptoRow = true := by kernel_rfl
theorem band {a b : Bool} (h : a = true) (k : b = true) : (a && b) = true := by rw [h, k]; rfl
theorem closed : joinedFacts Tryz.pinned.checked.prog 6 Tryz.f6 (Rows.OpenSpec.upto Rows.sieveThreeSpec).bare Rows.sieveThreeUptoRow = true := (band (band (band (band (band (band (band (band (band (band (band (band (band (band (band (band (band (band (band (band (band (band (band (band (band (band (band (band (band (band (band j0 j1) j2) j3) j4) j5) j6) j7) j8) j9) j10) j11) j12) j13) j14) j15) j16) j17) j18) j19) j20) j21) j22) j23) j24) j25) j26) j27) j28) j29) j30) j31)
end sieveThree
end Go.Proofs.YtnmlmicmhpkbeaaGreatDoor
