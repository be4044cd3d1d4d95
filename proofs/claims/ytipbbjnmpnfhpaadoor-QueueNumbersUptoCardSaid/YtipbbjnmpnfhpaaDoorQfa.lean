/-
  QueueNumbers: the errors' numbers, the bounds, what a few calls answer: the call returns true. Condition: the listed tables of unicode/utf8 lie as the program's text lays them.
-/
import Derived.Test.YtipbbjnmpnfhpaaDoorQlawA
import Derived.Test.YtipbbjnmpnfhpaaDoorQframe
namespace Go.Proofs.YtipbbjnmpnfhpaaDoor
open Go Go.Sv Go.Qu
set_option linter.unusedVariables false
set_option maxRecDepth 100000
theorem queueNumbers_lifted (os : Os) (started : os.Started) (H : Type) (enc : TypeId × Value → H) (F : Stop.Interp) :
    ReturnsInHanded {} Tryd.checked os 3 .any ((Rows.OpenSpec.upto Rows.queueNumbersSpec).preRow enc Tryd.prog Tryd.f3 Rows.queueNumbersUptoRow.domain false Rows.queueNumbersUptoRow.laid) (((Rows.OpenSpec.upto Rows.queueNumbersSpec).at F).post enc Tryd.prog Tryd.f3 false true false false) := by
  refine lift_laid (C := Tryd.checked) (tb := 4) (k := Rows.uptoSmall) started (byBulk Tryd.prog H) rfl byBulk_of own laidOut (by kernel_rfl) Tryd.func3
    (witness_row_at (enc := enc) (C := Tryd.checked) false (tabW os) #[] rfl (by kernel_rfl) (by kernel_rfl) (by kernel_rfl)
      (OpenSpec.preRow_of_cond 8 (x := ([], [], [])) (by kernel_rfl) (by kernel_rfl) (fun k hk => by cases hk; kernel_rfl) (by kernel_rfl) (laidMet_of_run' 8 (by kernel_rfl) (by kernel_rfl))))
    rfl (fun ds h => ?_) rfl Tryd.underlying4 (by kernel_rfl) fun W args hLaid hin => ?_
  · match ds, h with
    | [], _ => rfl
  · generalize args.toList = vs at hin ⊢
    rw [Tryd.params3] at hin
    match vs, hin with
    | [], _ =>
      exact numbers_law fun w' hc => ⟨rfl, hc⟩
namespace queueNumbers
theorem over : Rows.queueNumbersUptoRow.holds Tryd.pinned (Rows.OpenSpec.upto Rows.queueNumbersSpec) :=
  OpenClaim.holds_of_cond 3 Tryd.f3 rfl rfl rfl rfl rfl rfl rfl ⟨rfl, rfl, rfl, rfl, rfl⟩ rfl rfl rfl rfl rfl (by kernel_rfl) Tryd.func3 (by kernel_rfl)
    (of_decide_eq_true (by kernel_rfl)) (by unfold Func.isWrapper; first | (rw [if_pos (by decide +kernel)]; kernel_rfl) | (rw [if_neg (by decide +kernel)]; exact ⟨rfl, rfl⟩))
    (fun os started H enc _ F => by rw [OpenClaim.pre_eq_preRow]; exact queueNumbers_lifted os started H enc F)
theorem plain (f : FuncId) (fn : Func) (hf : Tryd.pinned.checked.prog.funcNamed "longshore/longshorelaw17.QueueNumbers" = some f) (hfn : Tryd.pinned.checked.prog.funcs[f]? = some fn) :
    true = Tryd.pinned.checked.prog.looks [] ∧ ∀ (j : Nat) t, fn.params[j]? = some t → Tryd.pinned.checked.prog.wantsStandIn t = false := by
  obtain rfl : f = 3 := Option.some.inj ((show Tryd.prog.funcNamed "longshore/longshorelaw17.QueueNumbers" = some 3 by kernel_rfl).symm.trans hf) |>.symm
  obtain rfl : fn = Tryd.f3 := (Option.some.inj (Tryd.func3.symm.trans hfn)).symm
  have hall : Tryd.f3.params.toList.all (fun t => Tryd.prog.wantsStandIn t == false) = true := by kernel_rfl
  refine ⟨by kernel_rfl, fun j t ht => ?_⟩
  have := List.all_eq_true.1 hall t (Array.mem_toList_iff.2 (Array.mem_of_getElem? ht))
  exact eq_of_beq this
theorem proved : Rows.QueueNumbersUptoCardSaid :=
  Claim7.holds_tied_plain_at .later [] _ _ _ _ over (fun _ h => by cases h) (by kernel_rfl) (fun _ h => by cases h) queueNumbersUpto_row_tie rfl ⟨rfl, rfl⟩ (by kernel_rfl) rfl plain (by kernel_rfl)
end queueNumbers
#print axioms queueNumbers.proved
end Go.Proofs.YtipbbjnmpnfhpaaDoor
