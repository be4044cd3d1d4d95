/-
  JournalTails: without the document's answer: behind whole batches any beginning of a batch, safe or not: the batches are there; what is added stands behind them, or is refused for want of room: the call returns true, and the inputs read as they did. Condition: the inputs are of bulk at most 1048576 (the second form's card); the listed package variables hold what the program's text lays.
-/
import Derived.Test.YtipololccbdojaaGreatDoorJframe
import Derived.Test.YtipololccbdojaaGreatDoorJinp
import Derived.Test.YtipololccbdojaaGreatDoorJtail
import Derived.Deep.DeepHandedRow
namespace Go.Proofs.YtipololccbdojaaGreatDoor
open Go Go.Sv
set_option linter.unusedVariables false
set_option maxRecDepth 100000
theorem journalTails_lifted (os : Os) (started : os.Started) (H : Type) (enc : TypeId × Value → H) (F : Stop.Interp) :
    ReturnsInHanded {} Tryz.checked os 6 .any ((Rows.OpenSpec.upto Rows.journalTailsSpec).preRow enc Tryz.prog Tryz.f6 Rows.journalTailsUptoRow.domain false Rows.journalTailsUptoRow.laid) (((Rows.OpenSpec.upto Rows.journalTailsSpec).at F).post enc Tryz.prog Tryz.f6 false true false false) := by
  refine lift_laid (C := Tryz.checked) (tb := 4) (k := Rows.uptoSmall) started (byBulk Tryz.prog H) rfl byBulk_of own laidOut (by kernel_rfl) Tryz.func6
    (witness_row_at (enc := enc) (C := Tryz.checked) false (jW os) #[.slice none 0 0, .slice none 0 0, .int .i64 0, .int .i64 0] rfl (by kernel_rfl) (by kernel_rfl) (by kernel_rfl)
      (OpenSpec.preRow_of_cond 8 (x := ([.nil, .nil, .lit (.int .i64 0), .lit (.int .i64 0)], [], [])) (by kernel_rfl) (by kernel_rfl) (fun k hk => by cases hk; kernel_rfl) (by kernel_rfl) (laidMetH_of_parts (laidMet_of_run' 8 (by kernel_rfl) (by kernel_rfl)) (by kernel_rfl))))
    rfl (fun ds h => ?_) rfl Tryz.underlying4 (by kernel_rfl) fun W args hLaid hin => ?_
  · match ds, h with
    | [d0, d1, d2, d3], _ => rfl
  · generalize args.toList = vs at hin ⊢
    rw [Tryz.params6] at hin
    obtain ⟨aB, aS, E⟩ := errs_of_laid hLaid
    match vs, hin with
    | [v0, v1, v2, v3], ⟨i0, i1, i2, i3, _⟩ =>
      obtain ⟨x, rfl, hx⟩ := batches_arg i0
      obtain ⟨y, rfl, hy, hys⟩ := batch_arg i1
      obtain ⟨n2, rfl, b2, c2⟩ := int_arg i2
      obtain ⟨n3, rfl, b3, c3⟩ := int_arg i3
      exact tails_walk E hx hy hys c2 c3 fun w' hc => ⟨rfl, hc⟩
namespace journalTails
theorem over : Rows.journalTailsUptoRow.holds Tryz.pinned (Rows.OpenSpec.upto Rows.journalTailsSpec) :=
  OpenClaim.holds_of_cond 6 Tryz.f6 rfl rfl rfl rfl rfl rfl rfl ⟨rfl, rfl, rfl, rfl, rfl⟩ rfl rfl rfl rfl rfl (by kernel_rfl) Tryz.func6 (by kernel_rfl)
    (of_decide_eq_true (by kernel_rfl)) (by unfold Func.isWrapper; first | (rw [if_pos (by decide +kernel)]; kernel_rfl) | (rw [if_neg (by decide +kernel)]; exact ⟨rfl, rfl⟩))
    (fun os started H enc _ F => by rw [OpenClaim.pre_eq_preRow]; exact journalTails_lifted os started H enc F)
theorem plain (f : FuncId) (fn : Func) (hf : Tryz.pinned.checked.prog.funcNamed "longshore/longshorelaw20.JournalTails" = some f) (hfn : Tryz.pinned.checked.prog.funcs[f]? = some fn) :
    true = Tryz.pinned.checked.prog.looks [] ∧ ∀ (j : Nat) t, fn.params[j]? = some t → Tryz.pinned.checked.prog.wantsStandIn t = false := by
  obtain rfl : f = 6 := Option.some.inj ((show Tryz.prog.funcNamed "longshore/longshorelaw20.JournalTails" = some 6 by kernel_rfl).symm.trans hf) |>.symm
  obtain rfl : fn = Tryz.f6 := (Option.some.inj (Tryz.func6.symm.trans hfn)).symm
  have hall : Tryz.f6.params.toList.all (fun t => Tryz.prog.wantsStandIn t == false) = true := by kernel_rfl
  refine ⟨by kernel_rfl, fun j t ht => ?_⟩
  have := List.all_eq_true.1 hall t (Array.mem_toList_iff.2 (Array.mem_of_getElem? ht))
  exact eq_of_beq this
theorem proved : Rows.JournalTailsUptoCardSaid :=
  Claim7.holds_tied_plain_at .later [] _ _ _ _ over (fun _ h => by cases h) (by kernel_rfl) (fun _ h => by cases h) journalTailsUpto_row_tie rfl ⟨rfl, rfl⟩ (by kernel_rfl) rfl plain (by kernel_rfl)
end journalTails
#print axioms journalTails.proved
end Go.Proofs.YtipololccbdojaaGreatDoor
