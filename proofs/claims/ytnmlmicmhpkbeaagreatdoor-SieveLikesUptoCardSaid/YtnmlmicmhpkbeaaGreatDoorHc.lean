/-
  SieveLikes: over the row.
-/
import Derived.Test.YtnmlmicmhpkbeaaGreatDoorTr
import Derived.Test.YtnmlmicmhpkbeaaGreatDoorHb
set_option linter.unusedVariables false
set_option linter.unusedSimpArgs false
namespace Go.Proofs.YtnmlmicmhpkbeaaGreatDoor
open Go Go.Sv Go.Note Go.ChangeShapes
set_option linter.unusedVariables false
set_option Elab.async false
set_option maxRecDepth 100000
namespace sieveLikes
theorem over : Rows.sieveLikesUptoRow.holds Tryz.pinned (Rows.OpenSpec.upto Rows.sieveLikesSpec) :=
  OpenClaim.holds_of_cond 5 Tryz.f5 rfl rfl rfl rfl rfl rfl rfl ⟨rfl, rfl, rfl, rfl, rfl⟩ rfl rfl rfl rfl rfl (by kernel_rfl) Tryz.func5 closed
    (of_decide_eq_true (by kernel_rfl)) (by unfold Func.isWrapper; first | (rw [if_pos (by decide +kernel)]; kernel_rfl) | (rw [if_neg (by decide +kernel)]; exact ⟨rfl, rfl⟩))
    (fun os started H enc _ F => by rw [OpenClaim.pre_eq_preRow]; exact sieveLikes_lifted os started H enc F)
end sieveLikes
end Go.Proofs.YtnmlmicmhpkbeaaGreatDoor
