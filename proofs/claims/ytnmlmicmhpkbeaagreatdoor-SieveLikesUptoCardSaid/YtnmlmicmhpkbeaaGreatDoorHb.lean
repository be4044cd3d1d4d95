/-
  SieveLikes: the matcher says what the document's says: the call returns true and the inputs read as they did. Conditions: the inputs are of bulk at most 1048576 (the second form's card); the sixteen listed package variables hold what the program's text lays.
-/
import Derived.Test.YtnmlmicmhpkbeaaGreatDoorHa
set_option linter.unusedVariables false
set_option linter.unusedSimpArgs false
namespace Go.Proofs.YtnmlmicmhpkbeaaGreatDoor
open Go Go.Sv Go.Note Go.ChangeShapes
set_option linter.unusedVariables false
set_option maxRecDepth 100000
theorem sieveLikes_lifted (os : Os) (started : os.Started) (H : Type) (enc : TypeId × Value → H) (F : Stop.Interp) :
    ReturnsInHanded {} Tryz.checked os 5 .any ((Rows.OpenSpec.upto Rows.sieveLikesSpec).preRow enc Tryz.prog Tryz.f5 Rows.sieveLikesUptoRow.domain false Rows.sieveLikesUptoRow.laid) (((Rows.OpenSpec.upto Rows.sieveLikesSpec).at F).post enc Tryz.prog Tryz.f5 false true false false) := by
  refine lift_laidT (C := Tryz.checked) (tb := 4) (k := Rows.uptoSmall) started (byBulk Tryz.prog H) rfl byBulk_of own laidOut (by kernel_rfl) Tryz.func5
    (witness_zip (enc := enc) (C := Tryz.checked) false (nW os) #[.string ⟨#[]⟩, .string ⟨#[]⟩, .int .i64 0] (World.laidAll_os _ _ _) (nW_zip os _) (nW_rest os _) (by kernel_rfl)
      (OpenSpec.preRow_of_cond 8 (x := ([.lit (.string []), .lit (.string []), .lit (.int .i64 0)], [], [])) (by kernel_rfl) (by kernel_rfl) (fun k hk => by cases hk; kernel_rfl) (by kernel_rfl) (nW_laidH os _)))
    rfl (fun ds h => ?_) rfl Tryz.underlying4 (by kernel_rfl) fun W args ds ps hLaid hG hT hin => ?_
  · match ds, h with
    | [d0, d1, d2], _ => rfl
  · generalize args.toList = vs at hin hT ⊢
    rw [Tryz.params5] at hin hT
    have hL := lw_of_laid hLaid
    match vs, hin, hT with
    | [v0, v1, v2], ⟨i0, i1, i2, _⟩, hT =>
      obtain ⟨s0, rfl, h0⟩ := str_arg i0
      obtain ⟨s1, rfl, h1⟩ := str_arg i1
      obtain ⟨n, rfl, _, _⟩ := int_arg i2
      exact likes_call (by omega) (by omega) hL fun w' hc => ⟨rfl, hc⟩
end Go.Proofs.YtnmlmicmhpkbeaaGreatDoor
