/-
  SieveThree: the laws of three values: the call returns true and the inputs read as they did. Conditions: the inputs are of bulk at most 1048576 (the second form's card); the sixteen listed package variables hold what the program's text lays.
-/
import Derived.Test.YtnmlmicmhpkbeaaGreatDoorIa
set_option linter.unusedVariables false
set_option linter.unusedSimpArgs false
namespace Go.Proofs.YtnmlmicmhpkbeaaGreatDoor
open Go Go.Sv Go.Note Go.ChangeShapes
set_option linter.unusedVariables false
set_option maxRecDepth 100000
theorem sieveThree_lifted (os : Os) (started : os.Started) (H : Type) (enc : TypeId × Value → H) (F : Stop.Interp) :
    ReturnsInHanded {} Tryz.checked os 6 .any ((Rows.OpenSpec.upto Rows.sieveThreeSpec).preRow enc Tryz.prog Tryz.f6 Rows.sieveThreeUptoRow.domain false Rows.sieveThreeUptoRow.laid) (((Rows.OpenSpec.upto Rows.sieveThreeSpec).at F).post enc Tryz.prog Tryz.f6 false true false false) := by
  refine lift_laidT (C := Tryz.checked) (tb := 4) (k := Rows.uptoSmall) started (byBulk Tryz.prog H) rfl byBulk_of own laidOut (by kernel_rfl) Tryz.func6
    (witness_zip (enc := enc) (C := Tryz.checked) false (nW os) #[.agg #[.int .i64 0, .string ⟨#[]⟩, .int .i64 0, .int .u64 0, .string ⟨#[]⟩, .slice none 0 0, .int .i64 0, .slice none 0 0], .agg #[.int .i64 0, .string ⟨#[]⟩, .int .i64 0, .int .u64 0, .string ⟨#[]⟩, .slice none 0 0, .int .i64 0, .slice none 0 0], .agg #[.bool false, .bool false, .int .i64 0, .int .i64 0, .bool false, .int .i64 0, .int .i64 0, .int .u64 0, .string ⟨#[]⟩, .slice none 0 0, .int .i64 0, .int .i64 0, .int .u64 0, .string ⟨#[]⟩, .slice none 0 0, .int .i64 0, .bool false, .int .i64 0, .int .u64 0, .string ⟨#[]⟩, .slice none 0 0, .int .i64 0, .string ⟨#[]⟩, .string ⟨#[]⟩, .string ⟨#[]⟩, .string ⟨#[]⟩, .int .i64 0, .int .u64 0, .string ⟨#[]⟩, .slice none 0 0, .int .i64 0, .string ⟨#[]⟩, .string ⟨#[]⟩, .int .i64 0, .int .i64 0, .string ⟨#[]⟩, .int .i64 0, .string ⟨#[]⟩, .int .i64 0, .int .u64 0, .string ⟨#[]⟩, .slice none 0 0, .int .i64 0, .int .i64 0, .slice none 0 0, .slice none 0 0, .int .i64 0, .int .u64 0, .string ⟨#[]⟩, .slice none 0 0, .int .i64 0, .int .i64 0, .int .u64 0, .string ⟨#[]⟩, .slice none 0 0, .int .i64 0]] (World.laidAll_os _ _ _) (nW_zip os _) (nW_rest os _) (by kernel_rfl)
      (OpenSpec.preRow_of_cond 8 (x := ([.agg [.lit (.int .i64 0), .lit (.string []), .agg [.lit (.int .i64 0), .lit (.int .u64 0), .lit (.string []), .nil, .lit (.int .i64 0)], .nil], .agg [.lit (.int .i64 0), .lit (.string []), .agg [.lit (.int .i64 0), .lit (.int .u64 0), .lit (.string []), .nil, .lit (.int .i64 0)], .nil], .agg [.agg [.lit (.bool false), .lit (.bool false), .lit (.int .i64 0), .lit (.int .i64 0), .lit (.bool false), .lit (.int .i64 0)], .agg [.lit (.int .i64 0), .lit (.int .u64 0), .lit (.string []), .nil, .lit (.int .i64 0)], .agg [.lit (.int .i64 0), .lit (.int .u64 0), .lit (.string []), .nil, .lit (.int .i64 0)], .agg [.lit (.bool false), .agg [.lit (.int .i64 0), .lit (.int .u64 0), .lit (.string []), .nil, .lit (.int .i64 0)], .lit (.string []), .lit (.string []), .lit (.string []), .lit (.string []), .agg [.lit (.int .i64 0), .lit (.int .u64 0), .lit (.string []), .nil, .lit (.int .i64 0)], .lit (.string []), .lit (.string []), .lit (.int .i64 0), .lit (.int .i64 0), .lit (.string []), .lit (.int .i64 0), .lit (.string [])], .agg [.lit (.int .i64 0), .lit (.int .u64 0), .lit (.string []), .nil, .lit (.int .i64 0)], .lit (.int .i64 0), .nil, .nil, .agg [.lit (.int .i64 0), .lit (.int .u64 0), .lit (.string []), .nil, .lit (.int .i64 0)], .agg [.lit (.int .i64 0), .lit (.int .u64 0), .lit (.string []), .nil, .lit (.int .i64 0)]]], [], [])) (by kernel_rfl) (by kernel_rfl) (fun k hk => by cases hk; kernel_rfl) (by kernel_rfl) (nW_laidH os _)))
    rfl (fun ds h => ?_) rfl Tryz.underlying4 (by kernel_rfl) fun W args ds ps hLaid hG hT hin => ?_
  · match ds, h with
    | [d0, d1, d2], _ => rfl
  · generalize args.toList = vs at hin hT ⊢
    rw [Tryz.params6] at hin hT
    have hL := lw_of_laid hLaid
    match vs, hin, hT with
    | [v0, v1, v2], ⟨i0, i1, i2, _⟩, hT =>
      obtain ⟨d0, ds0, p0, ps0, hds0, hd0, hT0⟩ := trodAll_cons hT
      obtain ⟨x0, rfl, h01, h02, h03⟩ := term_arg hd0 i0 (hG d0 (by simp [hds0]) 0)
      obtain ⟨d1, ds1, p1, ps1, hds1, hd1, hT1⟩ := trodAll_cons hT0
      obtain ⟨x1, rfl, h11, h12, h13⟩ := term_arg hd1 i1 (hG d1 (by simp [hds0, hds1]) 0)
      obtain ⟨d2, ds2, p2, ps2, hds2, hd2, hT2⟩ := trodAll_cons hT1
      obtain ⟨g, rfl, h21, h22⟩ := msg_arg hd2 i2 (hG d2 (by simp [hds0, hds1, hds2]) 0)
      exact three_law hL h01 h02 h11 h12 h21 h22 fun w' hc => ⟨rfl, hc⟩
end Go.Proofs.YtnmlmicmhpkbeaaGreatDoor
