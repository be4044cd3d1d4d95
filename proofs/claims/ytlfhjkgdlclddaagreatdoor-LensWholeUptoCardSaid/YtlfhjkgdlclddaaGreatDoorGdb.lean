/-
  LensWhole: bytes, written as lines and read again: the call returns true and the inputs read as they did. Conditions: the inputs are of bulk at most 1048576 (the second form's card); the seven listed package variables hold what the program's text lays.
-/
import Derived.Test.YtlfhjkgdlclddaaGreatDoorGda
set_option linter.unusedVariables false
set_option linter.unusedSimpArgs false
namespace Go.Proofs.YtlfhjkgdlclddaaGreatDoor
open Go Go.Sv Go.Note Go.ChangeShapes
set_option maxRecDepth 100000
theorem lensWhole_lifted(os:Os)(started:os.Started)(H:Type)(enc:TypeId × Value->H)(F:Stop.Interp) :
 ReturnsInHanded {} Tryz.checked os 6 .any ((Rows.OpenSpec.upto Rows.lensWholeSpec).preRow enc Tryz.prog Tryz.f6 Rows.lensWholeUptoRow.domain false Rows.lensWholeUptoRow.laid) (((Rows.OpenSpec.upto Rows.lensWholeSpec).at F).post enc Tryz.prog Tryz.f6 false true false false):=by
 refine aWq (C:=Tryz.checked) (tb:=4) (k:=Rows.uptoSmall) started (aW5 Tryz.prog H) rfl aXe own aX6 (by kernel_rfl) Tryz.func6
  (witness_row_at (enc:=enc) (C:=Tryz.checked) false (nW os) #[.slice none 0 0,.int .i64 0] rfl (by kernel_rfl) (by kernel_rfl) (by kernel_rfl)
    (OpenSpec.preRow_of_cond 8 (x:=([.nil,.lit (.int .i64 0)],[],[])) (by kernel_rfl) (by kernel_rfl) (λk hk=>by cases hk;kernel_rfl) (by kernel_rfl) (laidMetH_of_parts (laidMet_of_run' 8 (by kernel_rfl) (by kernel_rfl)) (by kernel_rfl))))
  rfl (λds h=>?_) rfl Tryz.underlying4 (by kernel_rfl) λW args ds ps hLaid hSh hG hT hin=>?_
 ·match ds,h with
  | [d0,d1],_=>rfl
 ·generalize args.toList=vs at hin hT ⊢;rw[Tryz.params6]at hin hT;have hL:=aYm hLaid hSh
  match vs,hin,hT with
  | [v0,v1],⟨i0,i1,_⟩,hT =>
   obtain⟨p,b,c,rfl,hr,hc,hm⟩:=aXd i0;obtain⟨m,rfl,_,_⟩:=aX7 i1;exact aXc hr (by omega) hL λw' hc=>⟨rfl,hc⟩
namespace lensWhole
theorem over:Rows.lensWholeUptoRow.holds Tryz.pinned (Rows.OpenSpec.upto Rows.lensWholeSpec) :=
 OpenClaim.holds_of_cond 6 Tryz.f6 rfl rfl rfl rfl rfl rfl rfl ⟨rfl,rfl,rfl,rfl,rfl⟩ rfl rfl rfl rfl rfl (by kernel_rfl) Tryz.func6 closed
  (aB (by kernel_rfl)) (by unfold Func.isWrapper;first|(rw[aF (by decide +kernel)];kernel_rfl)|(rw[aD (by decide +kernel)];exact⟨rfl,rfl⟩))
  (λos started H enc _ F=>by rw[OpenClaim.pre_eq_preRow];exact lensWhole_lifted os started H enc F)
theorem plain(f:FuncId)(fn:Func)(hf:Tryz.pinned.checked.prog.funcNamed "longshore/longshorelaw28.LensWhole" = some f)(hfn:Tryz.pinned.checked.prog.funcs[f]?=some fn) :
 true=Tryz.pinned.checked.prog.looks []/\∀(j:Nat) t,fn.params[j]?=some t->Tryz.pinned.checked.prog.wantsStandIn t=false:=by
 obtain rfl:f=6:=bC ((show Tryz.prog.funcNamed "longshore/longshorelaw28.LensWhole" = some 6 by kernel_rfl).symm.trans hf) |>.symm;obtain rfl:fn=Tryz.f6:=(bC (Tryz.func6.symm.trans hfn)).symm;have hall:Tryz.f6.params.toList.all (λt=>Tryz.prog.wantsStandIn t == false)=true:=by kernel_rfl
 refine⟨by kernel_rfl,λj t ht=>?_⟩;have:=List.all_eq_true.1 hall t (Array.mem_toList_iff.2 (Array.mem_of_getElem? ht));exact eq_of_beq this
theorem proved:Rows.LensWholeUptoCardSaid :=
 Claim7.holds_tied_plain_at .later [] _ _ _ _ over (λ_ h=>by cases h) (by kernel_rfl) (λ_ h=>by cases h) lensWholeUpto_row_tie rfl ⟨rfl,rfl⟩ (by kernel_rfl) rfl plain (by kernel_rfl)
end lensWhole
#print axioms lensWhole.proved
end Go.Proofs.YtlfhjkgdlclddaaGreatDoor
