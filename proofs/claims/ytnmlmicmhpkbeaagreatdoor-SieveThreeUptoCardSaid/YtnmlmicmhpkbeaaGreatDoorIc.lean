/-
  SieveThree: over the row.
-/
import Derived.Test.YtnmlmicmhpkbeaaGreatDoorVd1
import Derived.Test.YtnmlmicmhpkbeaaGreatDoorIb
set_option linter.unusedVariables false
set_option linter.unusedSimpArgs false
namespace Go.Proofs.YtnmlmicmhpkbeaaGreatDoor
open Go Go.Sv Go.Note Go.ChangeShapes
set_option linter.unusedVariables false
set_option Elab.async false
set_option maxRecDepth 100000
namespace sieveThree
theorem over : Rows.sieveThreeUptoRow.holds Tryz.pinned (Rows.OpenSpec.upto Rows.sieveThreeSpec) :=
  OpenClaim.holds_of_cond 6 Tryz.f6 rfl rfl rfl rfl rfl rfl rfl ⟨rfl, rfl, rfl, rfl, rfl⟩ rfl rfl rfl rfl rfl (by kernel_rfl) Tryz.func6 closed
    (of_decide_eq_true (by kernel_rfl)) (by unfold Func.isWrapper; first | (rw [if_pos (by decide +kernel)]; kernel_rfl) | (rw [if_neg (by decide +kernel)]; exact ⟨rfl, rfl⟩))
    (fun os started H enc _ F => by rw [OpenClaim.pre_eq_preRow]; exact sieveThree_lifted os started H enc F)
end sieveThree
end Go.Proofs.YtnmlmicmhpkbeaaGreatDoor
