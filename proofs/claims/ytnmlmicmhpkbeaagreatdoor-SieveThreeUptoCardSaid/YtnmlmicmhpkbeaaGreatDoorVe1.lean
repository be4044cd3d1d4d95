/-
  SieveThree: the card's closed facts.
-/
import Derived.Test.YtnmlmicmhpkbeaaGreatDoorCards
import Derived.Test.YtnmlmicmhpkbeaaGreatDoorTie
import Derived.SevenTiedAt
namespace Go.Proofs.YtnmlmicmhpkbeaaGreatDoor
open Go Go.ChangeShapes
set_option linter.unusedVariables false
set_option Elab.async false
set_option maxRecDepth 100000
namespace sieveThree
theorem k1 : Rows.sieveThreeUptoRow.wfByText (Rows.OpenSpec.upto Rows.sieveThreeSpec) = true := by kernel_rfl
theorem k2 : Tryz.pinned.checked.prog.mainIs = some (true, Rows.sieveThreeUptoCard.stood.harness.2.toList) := by kernel_rfl
theorem k4 : true = Tryz.pinned.checked.prog.looks [] := by kernel_rfl
theorem k5 : (Tryz.f6.params.toList.all (fun t => Tryz.prog.wantsStandIn t == false)) = true := by kernel_rfl
theorem k3 : false = Rows.sieveThreeUptoRow.goesBy Tryz.pinned.checked.prog := by kernel_rfl
end sieveThree
end Go.Proofs.YtnmlmicmhpkbeaaGreatDoor
