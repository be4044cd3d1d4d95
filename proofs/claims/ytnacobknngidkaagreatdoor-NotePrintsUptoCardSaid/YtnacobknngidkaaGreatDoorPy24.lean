/-
  NotePrints: what the program prints is what the document prints: the call returns true and the inputs read as they did. Conditions: the inputs are of bulk at most 1048576 (the second form's card); the seven listed package variables hold what the program's text lays.
-/
import Derived.Test.YtnacobknngidkaaGreatDoorPy23
set_option linter.unusedVariables false
set_option linter.unusedSimpArgs false
namespace Go.Proofs.YtnacobknngidkaaGreatDoor
open Go Go.Sv Go.Note Go.ChangeShapes
set_option linter.unusedVariables false
set_option maxRecDepth 100000
theorem notePrints_lifted (os:Os) (started:os.Started) (H:Type) (enc:TypeId × Value→H) (F:Stop.Interp) :
 ReturnsInHanded {} Tryz.checked os 4 .any ((Rows.OpenSpec.upto Rows.notePrintsSpec).preRow enc Tryz.prog Tryz.f4 Rows.notePrintsUptoRow.domain false Rows.notePrintsUptoRow.laid) (((Rows.OpenSpec.upto Rows.notePrintsSpec).at F).post enc Tryz.prog Tryz.f4 false true false false):=by
 refine lift_laidT (C:=Tryz.checked) (tb:=4) (k:=Rows.uptoSmall) started (byBulk Tryz.prog H) rfl byBulk_of own laidOut (by kernel_rfl) Tryz.func4
  (witness_row_at (enc:=enc) (C:=Tryz.checked) false (nW os) #[.agg #[.int .i64 0,.int .u64 0,.string ⟨#[]⟩,.slice none 0 0,.int .i64 0]] rfl (by kernel_rfl) (by kernel_rfl) (by kernel_rfl)
    (OpenSpec.preRow_of_cond 8 (x:=([.agg [.lit (.int .i64 0),.lit (.int .u64 0),.lit (.string []),.nil,.lit (.int .i64 0)]],[],[])) (by kernel_rfl) (by kernel_rfl) (fun k hk=>by cases hk; kernel_rfl) (by kernel_rfl) (laidMetH_of_parts (laidMet_of_run' 8 (by kernel_rfl) (by kernel_rfl)) (by kernel_rfl))))
  rfl (fun ds h=>?_) rfl Tryz.underlying4 (by kernel_rfl) fun W args ds ps hLaid hG hT hin=>?_
 ·match ds,h with
  | [d0],_=>rfl
 ·generalize args.toList=vs at hin hT ⊢
  rw [Tryz.params4] at hin hT
  have hL:=lw_of_laid hLaid
  match vs,hin,hT with
  | [v0],⟨i0,_⟩,hT =>
   obtain ⟨d0,ds0,p0,ps0,hds0,hd0,hT0⟩:=trodAll_cons hT
   obtain ⟨x0,rfl,h01,h02,h03⟩:=val_arg hd0 i0 (hG d0 (by simp [hds0]) 0)
   exact prints_law hL h01 h02 (by omega) fun w' hc=>⟨rfl,hc⟩
namespace notePrints
theorem over:Rows.notePrintsUptoRow.holds Tryz.pinned (Rows.OpenSpec.upto Rows.notePrintsSpec) :=
 OpenClaim.holds_of_cond 4 Tryz.f4 rfl rfl rfl rfl rfl rfl rfl ⟨rfl,rfl,rfl,rfl,rfl⟩ rfl rfl rfl rfl rfl (by kernel_rfl) Tryz.func4 (by kernel_rfl)
  (of_decide_eq_true (by kernel_rfl)) (by unfold Func.isWrapper; first | (rw [if_pos (by decide +kernel)]; kernel_rfl) | (rw [if_neg (by decide +kernel)]; exact ⟨rfl,rfl⟩))
  (fun os started H enc _ F=>by rw [OpenClaim.pre_eq_preRow]; exact notePrints_lifted os started H enc F)
theorem plain (f:FuncId) (fn:Func) (hf:Tryz.pinned.checked.prog.funcNamed "longshore/longshorelaw04.NotePrints" = some f) (hfn:Tryz.pinned.checked.prog.funcs[f]?=some fn) :
 true=Tryz.pinned.checked.prog.looks []∧∀ (j:Nat) t,fn.params[j]?=some t→Tryz.pinned.checked.prog.wantsStandIn t=false:=by
 obtain rfl:f=4:=Option.some.inj ((show Tryz.prog.funcNamed "longshore/longshorelaw04.NotePrints" = some 4 by kernel_rfl).symm.trans hf) |>.symm
 obtain rfl:fn=Tryz.f4:=(Option.some.inj (Tryz.func4.symm.trans hfn)).symm
 have hall:Tryz.f4.params.toList.all (fun t=>Tryz.prog.wantsStandIn t == false)=true:=by kernel_rfl
 refine ⟨by kernel_rfl,fun j t ht=>?_⟩
 have:=List.all_eq_true.1 hall t (Array.mem_toList_iff.2 (Array.mem_of_getElem? ht))
 exact eq_of_beq this
theorem proved:Rows.NotePrintsUptoCardSaid :=
 Claim7.holds_tied_plain_at .later [] _ _ _ _ over (fun _ h=>by cases h) (by kernel_rfl) (fun _ h=>by cases h) notePrintsUpto_row_tie rfl ⟨rfl,rfl⟩ (by kernel_rfl) rfl plain (by kernel_rfl)
end notePrints
#print axioms notePrints.proved
end Go.Proofs.YtnacobknngidkaaGreatDoor
