/-
  QueueKeeps: of entries that were put each is free, held, or has left, once; there are never more than the queue takes; a full queue refuses and stays; the call returns true and the inputs read as they did. Conditions: the inputs are of bulk at most 1048576 (the second form's card); the listed tables of unicode/utf8 lie as the program's text lays them.
-/
import Derived.Test.YtipbbjnmpnfhpaaDoorQkeeps
import Derived.Test.YtipbbjnmpnfhpaaDoorQinq
import Derived.Test.YtipbbjnmpnfhpaaDoorQframe
namespace Go.Proofs.YtipbbjnmpnfhpaaDoor
open Go Go.Sv Go.Qu
set_option linter.unusedVariables false
set_option maxRecDepth 100000
theorem queueKeeps_lifted (os : Os) (started : os.Started) (H : Type) (enc : TypeId × Value → H) (F : Stop.Interp) :
    ReturnsInHanded {} Tryd.checked os 6 .any ((Rows.OpenSpec.upto Rows.queueKeepsSpec).preRow enc Tryd.prog Tryd.f6 Rows.queueKeepsUptoRow.domain false Rows.queueKeepsUptoRow.laid) (((Rows.OpenSpec.upto Rows.queueKeepsSpec).at F).post enc Tryd.prog Tryd.f6 false true false false) := by
  refine lift_laid (C := Tryd.checked) (tb := 4) (k := Rows.uptoSmall) started (byBulk Tryd.prog H) rfl byBulk_of own laidOut (by kernel_rfl) Tryd.func6
    (witness_row_at (enc := enc) (C := Tryd.checked) false (tabW os) #[.int .i64 0, .slice none 0 0, .slice none 0 0] rfl (by kernel_rfl) (by kernel_rfl) (by kernel_rfl)
      (OpenSpec.preRow_of_cond 8 (x := ([.lit (.int .i64 0), .nil, .nil], [], [])) (by kernel_rfl) (by kernel_rfl) (fun k hk => by cases hk; kernel_rfl) (by kernel_rfl) (laidMet_of_run' 8 (by kernel_rfl) (by kernel_rfl))))
    rfl (fun ds h => ?_) rfl Tryd.underlying4 (by kernel_rfl) fun W args hLaid hin => ?_
  · match ds, h with
    | [d0, d1, d2], _ => rfl
  · generalize args.toList = vs at hin ⊢
    rw [Tryd.params6] at hin
    match vs, hin with
    | [v0, v1, v2], ⟨i0, i1, i2, _⟩ =>
      obtain ⟨most, rfl, h1, h2⟩ := int_arg i0
      obtain ⟨p0, Es, c0, rfl, h3, h4, h5⟩ := entries_arg i1
      obtain ⟨ps, Os, cs, rfl, h6⟩ := ops_arg i2
      exact keeps_law h1 h2 h3 h4 h5 h6 fun w' hc => ⟨rfl, hc⟩
namespace queueKeeps
theorem over : Rows.queueKeepsUptoRow.holds Tryd.pinned (Rows.OpenSpec.upto Rows.queueKeepsSpec) :=
  OpenClaim.holds_of_cond 6 Tryd.f6 rfl rfl rfl rfl rfl rfl rfl ⟨rfl, rfl, rfl, rfl, rfl⟩ rfl rfl rfl rfl rfl (by kernel_rfl) Tryd.func6 (by kernel_rfl)
    (of_decide_eq_true (by kernel_rfl)) (by unfold Func.isWrapper; first | (rw [if_pos (by decide +kernel)]; kernel_rfl) | (rw [if_neg (by decide +kernel)]; exact ⟨rfl, rfl⟩))
    (fun os started H enc _ F => by rw [OpenClaim.pre_eq_preRow]; exact queueKeeps_lifted os started H enc F)
theorem plain (f : FuncId) (fn : Func) (hf : Tryd.pinned.checked.prog.funcNamed "longshore/longshorelaw17.QueueKeeps" = some f) (hfn : Tryd.pinned.checked.prog.funcs[f]? = some fn) :
    true = Tryd.pinned.checked.prog.looks [] ∧ ∀ (j : Nat) t, fn.params[j]? = some t → Tryd.pinned.checked.prog.wantsStandIn t = false := by
  obtain rfl : f = 6 := Option.some.inj ((show Tryd.prog.funcNamed "longshore/longshorelaw17.QueueKeeps" = some 6 by kernel_rfl).symm.trans hf) |>.symm
  obtain rfl : fn = Tryd.f6 := (Option.some.inj (Tryd.func6.symm.trans hfn)).symm
  have hall : Tryd.f6.params.toList.all (fun t => Tryd.prog.wantsStandIn t == false) = true := by kernel_rfl
  refine ⟨by kernel_rfl, fun j t ht => ?_⟩
  have := List.all_eq_true.1 hall t (Array.mem_toList_iff.2 (Array.mem_of_getElem? ht))
  exact eq_of_beq this
theorem proved : Rows.QueueKeepsUptoCardSaid :=
  Claim7.holds_tied_plain_at .later [] _ _ _ _ over (fun _ h => by cases h) (by kernel_rfl) (fun _ h => by cases h) queueKeepsUpto_row_tie rfl ⟨rfl, rfl⟩ (by kernel_rfl) rfl plain (by kernel_rfl)
end queueKeeps
#print axioms queueKeeps.proved
end Go.Proofs.YtipbbjnmpnfhpaaDoor
