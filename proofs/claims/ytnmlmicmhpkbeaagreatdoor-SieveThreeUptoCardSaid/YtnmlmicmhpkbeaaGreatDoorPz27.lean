/-
  SieveThree: all that its frame stands on.
-/
import Derived.Test.YtnmlmicmhpkbeaaGreatDoorPz26
set_option linter.unusedVariables false
set_option linter.unusedSimpArgs false
namespace Go.Proofs.YtnmlmicmhpkbeaaGreatDoor
end Go.Proofs.YtnmlmicmhpkbeaaGreatDoor
