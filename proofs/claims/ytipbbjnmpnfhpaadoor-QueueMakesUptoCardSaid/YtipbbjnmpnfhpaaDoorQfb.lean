/-
  QueueMakes: of any configuration the program and the document make a queue or none, alike; the call returns true and the input reads as it did. Conditions: the inputs are of bulk at most 1048576 (the second form's card); the listed tables of unicode/utf8 lie as the program's text lays them.
-/
import Derived.Test.YtipbbjnmpnfhpaaDoorQlawA
import Derived.Test.YtipbbjnmpnfhpaaDoorQframe
namespace Go.Proofs.YtipbbjnmpnfhpaaDoor
open Go Go.Sv Go.Qu
set_option linter.unusedVariables false
set_option maxRecDepth 100000
theorem queueMakes_lifted (os : Os) (started : os.Started) (H : Type) (enc : TypeId × Value → H) (F : Stop.Interp) :
    ReturnsInHanded {} Tryd.checked os 4 .any ((Rows.OpenSpec.upto Rows.queueMakesSpec).preRow enc Tryd.prog Tryd.f4 Rows.queueMakesUptoRow.domain false Rows.queueMakesUptoRow.laid) (((Rows.OpenSpec.upto Rows.queueMakesSpec).at F).post enc Tryd.prog Tryd.f4 false true false false) := by
  refine lift_laid (C := Tryd.checked) (tb := 4) (k := Rows.uptoSmall) started (byBulk Tryd.prog H) rfl byBulk_of own laidOut (by kernel_rfl) Tryd.func4
    (witness_row_at (enc := enc) (C := Tryd.checked) false (tabW os) #[.agg #[.string ⟨#[]⟩, .int .i64 0, .string ⟨#[]⟩, .int .i64 0, .bool false]] rfl (by kernel_rfl) (by kernel_rfl) (by kernel_rfl)
      (OpenSpec.preRow_of_cond 8 (x := ([.agg [.lit (.string []), .lit (.int .i64 0), .lit (.string []), .lit (.int .i64 0), .lit (.bool false)]], [], [])) (by kernel_rfl) (by kernel_rfl) (fun k hk => by cases hk; kernel_rfl) (by kernel_rfl) (laidMet_of_run' 8 (by kernel_rfl) (by kernel_rfl))))
    rfl (fun ds h => ?_) rfl Tryd.underlying4 (by kernel_rfl) fun W args hLaid hin => ?_
  · match ds, h with
    | [d0], _ => rfl
  · generalize args.toList = vs at hin ⊢
    rw [Tryd.params4] at hin
    match vs, hin with
    | [v0], ⟨i0, _⟩ =>
      obtain ⟨c, rfl, h1, h2⟩ := cfg_arg i0
      exact makes_law h1 h2 fun w' hc => ⟨rfl, hc⟩
namespace queueMakes
theorem over : Rows.queueMakesUptoRow.holds Tryd.pinned (Rows.OpenSpec.upto Rows.queueMakesSpec) :=
  OpenClaim.holds_of_cond 4 Tryd.f4 rfl rfl rfl rfl rfl rfl rfl ⟨rfl, rfl, rfl, rfl, rfl⟩ rfl rfl rfl rfl rfl (by kernel_rfl) Tryd.func4 (by kernel_rfl)
    (of_decide_eq_true (by kernel_rfl)) (by unfold Func.isWrapper; first | (rw [if_pos (by decide +kernel)]; kernel_rfl) | (rw [if_neg (by decide +kernel)]; exact ⟨rfl, rfl⟩))
    (fun os started H enc _ F => by rw [OpenClaim.pre_eq_preRow]; exact queueMakes_lifted os started H enc F)
theorem plain (f : FuncId) (fn : Func) (hf : Tryd.pinned.checked.prog.funcNamed "longshore/longshorelaw17.QueueMakes" = some f) (hfn : Tryd.pinned.checked.prog.funcs[f]? = some fn) :
    true = Tryd.pinned.checked.prog.looks [] ∧ ∀ (j : Nat) t, fn.params[j]? = some t → Tryd.pinned.checked.prog.wantsStandIn t = false := by
  obtain rfl : f = 4 := Option.some.inj ((show Tryd.prog.funcNamed "longshore/longshorelaw17.QueueMakes" = some 4 by kernel_rfl).symm.trans hf) |>.symm
  obtain rfl : fn = Tryd.f4 := (Option.some.inj (Tryd.func4.symm.trans hfn)).symm
  have hall : Tryd.f4.params.toList.all (fun t => Tryd.prog.wantsStandIn t == false) = true := by kernel_rfl
  refine ⟨by kernel_rfl, fun j t ht => ?_⟩
  have := List.all_eq_true.1 hall t (Array.mem_toList_iff.2 (Array.mem_of_getElem? ht))
  exact eq_of_beq this
theorem proved : Rows.QueueMakesUptoCardSaid :=
  Claim7.holds_tied_plain_at .later [] _ _ _ _ over (fun _ h => by cases h) (by kernel_rfl) (fun _ h => by cases h) queueMakesUpto_row_tie rfl ⟨rfl, rfl⟩ (by kernel_rfl) rfl plain (by kernel_rfl)
end queueMakes
#print axioms queueMakes.proved
end Go.Proofs.YtipbbjnmpnfhpaaDoor
