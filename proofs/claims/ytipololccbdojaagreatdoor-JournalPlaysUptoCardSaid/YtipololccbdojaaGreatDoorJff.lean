/-
  JournalPlays: any calls of a journal, of its disk, and Opens, over any disk, and now and then of a second one over another such disk; the disks' files at the end are just what the acts leave: the call returns true, and the inputs read as they did. Condition: the inputs are of bulk at most 1048576 (the second form's card); the listed package variables hold what the program's text lays.
-/
import Derived.Test.YtipololccbdojaaGreatDoorJframe
import Derived.Test.YtipololccbdojaaGreatDoorJinq
import Derived.Test.YtipololccbdojaaGreatDoorJinf
import Derived.Test.YtipololccbdojaaGreatDoorJplays
import Derived.Deep.DeepHandedRow
namespace Go.Proofs.YtipololccbdojaaGreatDoor
open Go Go.Sv
set_option linter.unusedVariables false
set_option maxRecDepth 100000
theorem journalPlays_lifted (os : Os) (started : os.Started) (H : Type) (enc : TypeId × Value → H) (F : Stop.Interp) :
    ReturnsInHanded {} Tryz.checked os 8 .any ((Rows.OpenSpec.upto Rows.journalPlaysSpec).preRow enc Tryz.prog Tryz.f8 Rows.journalPlaysUptoRow.domain false Rows.journalPlaysUptoRow.laid) (((Rows.OpenSpec.upto Rows.journalPlaysSpec).at F).post enc Tryz.prog Tryz.f8 false true false false) := by
  refine lift_laid (C := Tryz.checked) (tb := 4) (k := Rows.uptoSmall) started (byBulk Tryz.prog H) rfl byBulk_of own laidOut (by kernel_rfl) Tryz.func8
    (witness_row_at (enc := enc) (C := Tryz.checked) false (jW os) #[.slice none 0 0, .int .i64 0, .slice none 0 0] rfl (by kernel_rfl) (by kernel_rfl) (by kernel_rfl)
      (OpenSpec.preRow_of_cond 8 (x := ([.nil, .lit (.int .i64 0), .nil], [], [])) (by kernel_rfl) (by kernel_rfl) (fun k hk => by cases hk; kernel_rfl) (by kernel_rfl) (laidMetH_of_parts (laidMet_of_run' 8 (by kernel_rfl) (by kernel_rfl)) (by kernel_rfl))))
    rfl (fun ds h => ?_) rfl Tryz.underlying4 (by kernel_rfl) fun W args hLaid hin => ?_
  · match ds, h with
    | [d0, d1, d2], _ => rfl
  · generalize args.toList = vs at hin ⊢
    rw [Tryz.params8] at hin
    obtain ⟨aB, aS, E⟩ := errs_of_laid hLaid
    match vs, hin with
    | [v0, v1, v2], ⟨i0, i1, i2, _⟩ =>
      obtain ⟨fp, fL, fc, rfl, hfl, hf⟩ := files_arg i0
      obtain ⟨n1, rfl, b1, c1⟩ := int_arg i1
      obtain ⟨p, n, c, X, rfl, hX⟩ := script_arg i2
      exact plays_walk E hf hfl hX fun w' hc => ⟨rfl, hc⟩
namespace journalPlays
theorem over : Rows.journalPlaysUptoRow.holds Tryz.pinned (Rows.OpenSpec.upto Rows.journalPlaysSpec) :=
  OpenClaim.holds_of_cond 8 Tryz.f8 rfl rfl rfl rfl rfl rfl rfl ⟨rfl, rfl, rfl, rfl, rfl⟩ rfl rfl rfl rfl rfl (by kernel_rfl) Tryz.func8 (by kernel_rfl)
    (of_decide_eq_true (by kernel_rfl)) (by unfold Func.isWrapper; first | (rw [if_pos (by decide +kernel)]; kernel_rfl) | (rw [if_neg (by decide +kernel)]; exact ⟨rfl, rfl⟩))
    (fun os started H enc _ F => by rw [OpenClaim.pre_eq_preRow]; exact journalPlays_lifted os started H enc F)
theorem plain (f : FuncId) (fn : Func) (hf : Tryz.pinned.checked.prog.funcNamed "longshore/longshorelaw20.JournalPlays" = some f) (hfn : Tryz.pinned.checked.prog.funcs[f]? = some fn) :
    true = Tryz.pinned.checked.prog.looks [] ∧ ∀ (j : Nat) t, fn.params[j]? = some t → Tryz.pinned.checked.prog.wantsStandIn t = false := by
  obtain rfl : f = 8 := Option.some.inj ((show Tryz.prog.funcNamed "longshore/longshorelaw20.JournalPlays" = some 8 by kernel_rfl).symm.trans hf) |>.symm
  obtain rfl : fn = Tryz.f8 := (Option.some.inj (Tryz.func8.symm.trans hfn)).symm
  have hall : Tryz.f8.params.toList.all (fun t => Tryz.prog.wantsStandIn t == false) = true := by kernel_rfl
  refine ⟨by kernel_rfl, fun j t ht => ?_⟩
  have := List.all_eq_true.1 hall t (Array.mem_toList_iff.2 (Array.mem_of_getElem? ht))
  exact eq_of_beq this
theorem proved : Rows.JournalPlaysUptoCardSaid :=
  Claim7.holds_tied_plain_at .later [] _ _ _ _ over (fun _ h => by cases h) (by kernel_rfl) (fun _ h => by cases h) journalPlaysUpto_row_tie rfl ⟨rfl, rfl⟩ (by kernel_rfl) rfl plain (by kernel_rfl)
end journalPlays
#print axioms journalPlays.proved
end Go.Proofs.YtipololccbdojaaGreatDoor
