/-
  JournalNumbers: the errors' numbers, an example's bytes, what a few calls answer: the call returns true. Condition: the listed package variables hold what the program's text lays.
-/
import Derived.Test.YtipololccbdojaaGreatDoorJframe
import Derived.Test.YtipololccbdojaaGreatDoorJlive
import Derived.Deep.DeepHandedRow
namespace Go.Proofs.YtipololccbdojaaGreatDoor
open Go Go.Sv
set_option linter.unusedVariables false
set_option maxRecDepth 100000
theorem journalNumbers_lifted (os : Os) (started : os.Started) (H : Type) (enc : TypeId × Value → H) (F : Stop.Interp) :
    ReturnsInHanded {} Tryz.checked os 3 .any ((Rows.OpenSpec.upto Rows.journalNumbersSpec).preRow enc Tryz.prog Tryz.f3 Rows.journalNumbersUptoRow.domain false Rows.journalNumbersUptoRow.laid) (((Rows.OpenSpec.upto Rows.journalNumbersSpec).at F).post enc Tryz.prog Tryz.f3 false true false false) := by
  refine lift_laid (C := Tryz.checked) (tb := 4) (k := Rows.uptoSmall) started (byBulk Tryz.prog H) rfl byBulk_of own laidOut (by kernel_rfl) Tryz.func3
    (witness_row_at (enc := enc) (C := Tryz.checked) false (jW os) #[] rfl (by kernel_rfl) (by kernel_rfl) (by kernel_rfl)
      (OpenSpec.preRow_of_cond 8 (x := ([], [], [])) (by kernel_rfl) (by kernel_rfl) (fun k hk => by cases hk; kernel_rfl) (by kernel_rfl) (laidMetH_of_parts (laidMet_of_run' 8 (by kernel_rfl) (by kernel_rfl)) (by kernel_rfl))))
    rfl (fun ds h => ?_) rfl Tryz.underlying4 (by kernel_rfl) fun W args hLaid hin => ?_
  · match ds, h with
    | [], _ => rfl
  · generalize args.toList = vs at hin ⊢
    rw [Tryz.params3] at hin
    obtain ⟨aB, aS, E⟩ := errs_of_laid hLaid
    match vs, hin with
    | [], _ =>
      exact numbers_ok E fun w' hc => ⟨rfl, hc⟩
namespace journalNumbers
theorem over : Rows.journalNumbersUptoRow.holds Tryz.pinned (Rows.OpenSpec.upto Rows.journalNumbersSpec) :=
  OpenClaim.holds_of_cond 3 Tryz.f3 rfl rfl rfl rfl rfl rfl rfl ⟨rfl, rfl, rfl, rfl, rfl⟩ rfl rfl rfl rfl rfl (by kernel_rfl) Tryz.func3 (by kernel_rfl)
    (of_decide_eq_true (by kernel_rfl)) (by unfold Func.isWrapper; first | (rw [if_pos (by decide +kernel)]; kernel_rfl) | (rw [if_neg (by decide +kernel)]; exact ⟨rfl, rfl⟩))
    (fun os started H enc _ F => by rw [OpenClaim.pre_eq_preRow]; exact journalNumbers_lifted os started H enc F)
theorem plain (f : FuncId) (fn : Func) (hf : Tryz.pinned.checked.prog.funcNamed "longshore/longshorelaw20.JournalNumbers" = some f) (hfn : Tryz.pinned.checked.prog.funcs[f]? = some fn) :
    true = Tryz.pinned.checked.prog.looks [] ∧ ∀ (j : Nat) t, fn.params[j]? = some t → Tryz.pinned.checked.prog.wantsStandIn t = false := by
  obtain rfl : f = 3 := Option.some.inj ((show Tryz.prog.funcNamed "longshore/longshorelaw20.JournalNumbers" = some 3 by kernel_rfl).symm.trans hf) |>.symm
  obtain rfl : fn = Tryz.f3 := (Option.some.inj (Tryz.func3.symm.trans hfn)).symm
  have hall : Tryz.f3.params.toList.all (fun t => Tryz.prog.wantsStandIn t == false) = true := by kernel_rfl
  refine ⟨by kernel_rfl, fun j t ht => ?_⟩
  have := List.all_eq_true.1 hall t (Array.mem_toList_iff.2 (Array.mem_of_getElem? ht))
  exact eq_of_beq this
theorem proved : Rows.JournalNumbersUptoCardSaid :=
  Claim7.holds_tied_plain_at .later [] _ _ _ _ over (fun _ h => by cases h) (by kernel_rfl) (fun _ h => by cases h) journalNumbersUpto_row_tie rfl ⟨rfl, rfl⟩ (by kernel_rfl) rfl plain (by kernel_rfl)
end journalNumbers
#print axioms journalNumbers.proved
end Go.Proofs.YtipololccbdojaaGreatDoor
