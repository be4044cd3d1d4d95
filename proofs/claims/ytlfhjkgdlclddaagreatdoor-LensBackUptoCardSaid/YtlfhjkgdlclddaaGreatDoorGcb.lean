/-
  LensBack: a line is read as the item that it was written of, and written again as it was read: the call returns true and the inputs read as they did. Conditions: the inputs are of bulk at most 1048576 (the second form's card); the seven listed package variables hold what the program's text lays.
-/
import Derived.Test.YtlfhjkgdlclddaaGreatDoorGca
set_option linter.unusedVariables false
set_option linter.unusedSimpArgs false
namespace Go.Proofs.YtlfhjkgdlclddaaGreatDoor
open Go Go.Sv Go.Note Go.ChangeShapes
set_option maxRecDepth 100000
theorem lensBack_lifted(os:Os)(started:os.Started)(H:Type)(enc:TypeId × Value->H)(F:Stop.Interp) :
 ReturnsInHanded {} Tryz.checked os 5 .any ((Rows.OpenSpec.upto Rows.lensBackSpec).preRow enc Tryz.prog Tryz.f5 Rows.lensBackUptoRow.domain false Rows.lensBackUptoRow.laid) (((Rows.OpenSpec.upto Rows.lensBackSpec).at F).post enc Tryz.prog Tryz.f5 false true false false):=by
 refine aWq (C:=Tryz.checked) (tb:=4) (k:=Rows.uptoSmall) started (aW5 Tryz.prog H) rfl aXe own aX6 (by kernel_rfl) Tryz.func5
  (witness_row_at (enc:=enc) (C:=Tryz.checked) false (nW os) #[.agg #[.int .i64 0,.int .i64 0,.int .i64 0,.int .i64 0,.slice none 0 0,.slice none 0 0],.string ⟨#[]⟩] rfl (by kernel_rfl) (by kernel_rfl) (by kernel_rfl)
    (OpenSpec.preRow_of_cond 8 (x:=([.agg [.lit (.int .i64 0),.lit (.int .i64 0),.agg [.lit (.int .i64 0),.lit (.int .i64 0),.nil,.nil]],.lit (.string [])],[],[])) (by kernel_rfl) (by kernel_rfl) (λk hk=>by cases hk;kernel_rfl) (by kernel_rfl) (laidMetH_of_parts (laidMet_of_run' 8 (by kernel_rfl) (by kernel_rfl)) (by kernel_rfl))))
  rfl (λds h=>?_) rfl Tryz.underlying4 (by kernel_rfl) λW args ds ps hLaid hSh hG hT hin=>?_
 ·match ds,h with
  | [d0,d1],_=>rfl
 ·generalize args.toList=vs at hin hT ⊢;rw[Tryz.params5]at hin hT;have hL:=aYm hLaid hSh
  match vs,hin,hT with
  | [v0,v1],⟨i0,i1,_⟩,hT =>
   obtain⟨x,rfl,hx,_,_⟩:=aXr i0;obtain⟨s,rfl,hs⟩:=aX5 i1;obtain⟨l,rfl⟩:∃l:Bs,s=⟨l.toArray⟩:=⟨s.data.toList,by simp⟩;rw[cV]at hs;exact aXy hx (by omega) hL λw' hc=>⟨rfl,hc⟩
namespace lensBack
theorem over:Rows.lensBackUptoRow.holds Tryz.pinned (Rows.OpenSpec.upto Rows.lensBackSpec) :=
 OpenClaim.holds_of_cond 5 Tryz.f5 rfl rfl rfl rfl rfl rfl rfl ⟨rfl,rfl,rfl,rfl,rfl⟩ rfl rfl rfl rfl rfl (by kernel_rfl) Tryz.func5 closed
  (aB (by kernel_rfl)) (by unfold Func.isWrapper;first|(rw[aF (by decide +kernel)];kernel_rfl)|(rw[aD (by decide +kernel)];exact⟨rfl,rfl⟩))
  (λos started H enc _ F=>by rw[OpenClaim.pre_eq_preRow];exact lensBack_lifted os started H enc F)
theorem plain(f:FuncId)(fn:Func)(hf:Tryz.pinned.checked.prog.funcNamed "longshore/longshorelaw28.LensBack" = some f)(hfn:Tryz.pinned.checked.prog.funcs[f]?=some fn) :
 true=Tryz.pinned.checked.prog.looks []/\∀(j:Nat) t,fn.params[j]?=some t->Tryz.pinned.checked.prog.wantsStandIn t=false:=by
 obtain rfl:f=5:=bC ((show Tryz.prog.funcNamed "longshore/longshorelaw28.LensBack" = some 5 by kernel_rfl).symm.trans hf) |>.symm;obtain rfl:fn=Tryz.f5:=(bC (Tryz.func5.symm.trans hfn)).symm;have hall:Tryz.f5.params.toList.all (λt=>Tryz.prog.wantsStandIn t == false)=true:=by kernel_rfl
 refine⟨by kernel_rfl,λj t ht=>?_⟩;have:=List.all_eq_true.1 hall t (Array.mem_toList_iff.2 (Array.mem_of_getElem? ht));exact eq_of_beq this
theorem proved:Rows.LensBackUptoCardSaid :=
 Claim7.holds_tied_plain_at .later [] _ _ _ _ over (λ_ h=>by cases h) (by kernel_rfl) (λ_ h=>by cases h) lensBackUpto_row_tie rfl ⟨rfl,rfl⟩ (by kernel_rfl) rfl plain (by kernel_rfl)
end lensBack
#print axioms lensBack.proved
end Go.Proofs.YtlfhjkgdlclddaaGreatDoor
