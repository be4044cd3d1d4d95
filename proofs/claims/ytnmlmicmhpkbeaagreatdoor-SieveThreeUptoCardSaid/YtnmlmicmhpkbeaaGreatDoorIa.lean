/-
  The frame of the sieve's laws: whole numbers as arguments.
-/
import Derived.Test.YtnmlmicmhpkbeaaGreatDoorPz27
set_option linter.unusedVariables false
set_option linter.unusedSimpArgs false
namespace Go.Proofs.YtnmlmicmhpkbeaaGreatDoor
open Go Go.Sv Go.Note Go.ChangeShapes
set_option linter.unusedVariables false
set_option maxRecDepth 100000
end Go.Proofs.YtnmlmicmhpkbeaaGreatDoor
