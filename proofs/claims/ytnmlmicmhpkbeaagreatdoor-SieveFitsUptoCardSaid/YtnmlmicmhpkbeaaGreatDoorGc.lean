/-
  SieveFits: over the row.
-/
import Derived.Test.YtnmlmicmhpkbeaaGreatDoorTh
import Derived.Test.YtnmlmicmhpkbeaaGreatDoorGb
set_option linter.unusedVariables false
set_option linter.unusedSimpArgs false
namespace Go.Proofs.YtnmlmicmhpkbeaaGreatDoor
open Go Go.Sv Go.Note Go.ChangeShapes
set_option linter.unusedVariables false
set_option Elab.async false
set_option maxRecDepth 100000
namespace sieveFits
theorem over : Rows.sieveFitsUptoRow.holds Tryz.pinned (Rows.OpenSpec.upto Rows.sieveFitsSpec) :=
  OpenClaim.holds_of_cond 7 Tryz.f7 rfl rfl rfl rfl rfl rfl rfl ⟨rfl, rfl, rfl, rfl, rfl⟩ rfl rfl rfl rfl rfl (by kernel_rfl) Tryz.func7 closed
    (of_decide_eq_true (by kernel_rfl)) (by unfold Func.isWrapper; first | (rw [if_pos (by decide +kernel)]; kernel_rfl) | (rw [if_neg (by decide +kernel)]; exact ⟨rfl, rfl⟩))
    (fun os started H enc _ F => by rw [OpenClaim.pre_eq_preRow]; exact sieveFits_lifted os started H enc F)
end sieveFits
end Go.Proofs.YtnmlmicmhpkbeaaGreatDoor
