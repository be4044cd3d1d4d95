/-
  The document's reader (longshoreref04): maps. The document's reader (longshoreref04): what is found is handed on. The document's reader (longshoreref04): read. The law's book of values (longshoreref02): lists that came out are taken up. The law's book of values (longshoreref02): what came out is its owner's. The document's reader (longshoreref04): read, Parse. The law NoteParses: every text, read by the program as the document says; what comes out is its owner's. What came in, as a law's call finds it: 'Inp', read off the statement's own words; and the wrap of a law's statement ('lift_said'). Over every program. The wrap of a law's statement where the row lists package variables; a world for its witness. Over every program. The bound of the second form, as a measure. The frame of the note's laws: what the listed variables hold; a world for the witness; texts as arguments. The wrap of a law's statement, with the data that its arguments read as (a bound on a whole nested value can be had of them).
-/
import Derived.Test.YtnacobknngidkaaGreatDoorPj24
import Derived.ProofKit
import Derived.OpenShut
import Derived.ShutString
import Derived.ChangeOld
import Derived.Below
import Derived.Carry
import Derived.SizedLaws
import Derived.Deep.Slices
import Derived.Deep.CondSized
import Derived.Deep.DeepHandedRow
import Derived.Lib.LaidTab
import Derived.Test.YtnacobknngidkaaGreatDoorRows
import Derived.Test.YtnacobknngidkaaGreatDoorCards
import Derived.Test.YtnacobknngidkaaGreatDoorTie
import Derived.LaidLaws
import Derived.LaidHandle
import Derived.LaidSub
import Derived.Lib.LaidU8T
import Derived.PinnedBridge
set_option linter.unusedVariables false
set_option linter.unusedSimpArgs false
namespace Go.Proofs.YtnacobknngidkaaGreatDoor
open Go Go.Sv Go.Note Go.RowKit
set_option linter.unusedVariables false
attribute [local irreducible] Sif
set_option maxRecDepth 4000
theorem push1_ok {w:World} {p:Option Addr} {n c:Nat} {own:Option Nat} {R:List MV} {x:MV} {te ty:TypeId} (h:VE.Row w p n c own R) (hx:VO w x) (hd:∀ b∈x.B,b ∉ VE.rowB own R) (h1:n+1≤2^41)
 {K:Option Addr→Nat→Nat→World→Prop}
 (hk:∀ p' c' own' w',VE.Row w' p' (n+1) c' own' (R++[x])→(∀ b∈VE.rowB own' (R++[x]),b∈VE.rowB own R∨b∈x.B∨w.heap.size≤b)→Ch (fun b=>own=some b) w w'→K p' (n+1) c' w') :
 newB w x.g te fun a w2=>∃ p5 n7 c5 w3,Sem.run Tryz.prog (Builtin.append_ #[24,24] ty #[.slice p n c,.slice (some a) 1 1]) w2=.ok (.slice p5 n7 c5) w3∧K p5 n7 c5 w3:=by
 have key:=pushL_ok (te:=te) (ty:=ty) (k:=1) (xs:=[x]) h (fun y hy=>by rw [List.mem_singleton.1 hy]; exact hx) (by simpa using hx.inv.2.2.2.2) (fun b hb=>hd b (by simpa using hb)) rfl h1 (K:=K) fun p' c' own' w' a b c=>hk p' c' own' w' a (fun y hy=>by simpa using b y hy) c
 rw [show [x].flatMap MV.g=x.g by simp] at key
 exact key
theorem Fo.le {sz sz2:Nat} (h:sz2≤sz) {w:World} {r:Go.Note.Fd M} {v:Value}:Fo sz w r v→Fo sz2 w r v:=by
 cases r with
 | bad a e=>exact id
 | ok m a=>rintro ⟨x,h1,h2,h3,h4⟩; exact ⟨x,h1,h2,h3,fun b hb=>by have:=h4 b hb; omega⟩
theorem rmapped_ok {s:ByteArray} (hs:s.size≤2^40) {d:Nat} (hd:d≤31) (hR:ROK s d) {t0:Go.Note.Tok} (ht0:t0.kind≠5) (hf:t0.fin≤s.size) {w:World} {K:Value→World→Prop} (hk:∀ v w',Fo w.heap.size w' (Go.Note.mapped (rdM s.data.toList d) s.data.toList t0) v→Ch (fun _=>False) w w'→K v w') :
 callP Tryz.prog 83 [.string s,tkv t0,.int .i64 (32-(d:Int))] w K:=by
 apply ok_longshoreref04_mapped
 unfold wp_longshoreref04_mapped
 have hsl:=sl s
 obtain ⟨l,hl⟩:∃ l,l=s.data.toList:=⟨_,rfl⟩
 rw [← hl] at hk hsl
 have hmp:Go.Note.mapped (rdM l d) l t0=if (next l t0.fin).is 125 then shut [] t0.beg (next l t0.fin).fin else match pairsM (rdM l d) l t0.fin [] with
  | .bad a e=>.bad a e
  | .ok l a=>shut l t0.beg a:=rfl
 rw [hmp] at hk
 refine newB_blk fun w1 b1 c1 z1=>newB_blk fun w2 b2 c2 z2=>?_
 have b12:blk w2 w.heap.size=some (tkg t0):=(c2.blk (blk_lt b1) id).trans b1
 refine ⟨_,cellK b12 2 rfl,?_⟩
 refine rnext_ok hs hf fun w3 c3=>?_
 rw [← hl]
 obtain ⟨t,ht⟩:∃ t,t=next l t0.fin:=⟨_,rfl⟩
 rw [← ht] at hk ⊢
 refine tup4 (nb4 rfl fun w8 b8 c8 z8=>?_)
 have c28:=c3.trans' c8
 have ba8:=(c28.blk (blk_lt b12) id).trans b12
 have bb8:=(c28.blk (blk_lt b2) id).trans b2
 have cw8:=(c1.trans' c2).trans' c28
 have hz2:=c2.size
 have hz28:=c28.size
 have hb0:=blk_lt b1
 have hb1:=blk_lt b2
 refine ⟨fun w9=>w9=w8∧t.is 125=false,?_,?_⟩
 ·rintro w9 ⟨rfl,hno⟩
  rw [if_neg (by rw [hno]; decide)] at hk
  refine ⟨fun m p n c i w10=>∃ (q:Nat) (R:List MV) (own:Option Nat),i=(q:Int)∧q≤s.size∧m=s.size-q∧R.length≤q∧n%2=0∧VE.Row w10 p n c own R∧(∀ k∈VE.rowB own R,w9.heap.size≤k)∧Ch (fun _=>False) w9 w10∧pairsM (rdM l d) l t0.fin []=pairsM (rdM l d) l q (R.map MV.m),
   ?_,?_⟩
  ·exact ⟨s.size-t0.fin,t0.fin,[],none,rfl,hf,rfl,Nat.zero_le _,rfl,El.Row.nil,by simp [rowB_VE],Ch.refl _ _,rfl⟩
  rintro m p n c i w10 ⟨q,R,own,rfl,hq,rfl,hRq,hev,hrow,hnew,c10,heq⟩
  have hun:=pairsM_eq (rdM_goes l d) (a:=q) (R.map MV.m) (by omega)
  have ba10:=(c10.blk (blk_lt ba8) id).trans ba8
  have bb10:=(c10.blk (blk_lt bb8) id).trans bb8
  have cw10:=cw8.trans' c10
  have hz10:=c10.size
  have hn:n=R.length:=hrow.1.symm
  refine Sif_cases (fun _=>?_) (fun h=>by have:=of_decide_eq_false h; omega)
  rw [show IntKind.wrap .i64 (32-(d:Int)+1)=33-(d:Int) by rw [wrap_id (by omega) (by omega)]; omega]
  refine hR hq fun v w11 hv c11=>?_
  rw [← hl] at hv
  have bb11:=(c11.blk (blk_lt bb10) id).trans bb10
  have ba11:=(c11.blk (blk_lt ba10) id).trans ba10
  have cw11:=cw10.trans' c11
  have hz11:=c11.size
  cases hrd:rdM l d q with
  | bad a e =>
   rw [hrd] at hv hun
   obtain ⟨rfl,he0⟩:=hv
   simp only at hun
   rw [heq,hun] at hk
   refine tup7 (nb7 rfl fun w19 b19 c19 z19=>?_)
   have bb19:=(c19.blk (blk_lt bb11) id).trans bb11
   refine ⟨_,(by simp only [add_at,Nat.zero_add]; exact cellK b19 6 rfl),?_⟩
   rw [ne0]
   exact Sif_true_of (decide_eq_true he0) (bad_ret bb19 rfl b19 fun w5 c5=>hk _ w5 ⟨rfl,he0⟩ ((cw11.trans' c19).trans c5 fun x hx h=>by omega))
  | ok mx fx =>
   rw [hrd] at hv hun
   obtain ⟨x,rfl,hxm,hvx,hxb⟩:=hv
   simp only at hun
   have hgx:=rdM_goes l d q mx fx (by omega) hrd
   refine tup7 (nb7 rfl fun w19 b19 c19 z19=>?_)
   have bb19:=(c19.blk (blk_lt bb11) id).trans bb11
   have ba19:=(c19.blk (blk_lt ba11) id).trans ba11
   have cw19:=cw11.trans' c19
   have c1019:=c11.trans' c19
   have hrow19:=hrow.ch c1019 fun _ _ h=>h
   have hvx19:VO w19 x:=VO.ch c19 x hvx fun _ _ h=>h
   have hz19:=c19.size
   refine ⟨_,(by simp only [add_at,Nat.zero_add]; exact cellK b19 6 rfl),?_⟩
   refine Sif_false ⟨_,(by simp only [add_at,Nat.zero_add]; exact cellK b19 5 rfl),?_⟩
   refine rnext_ok hs (by omega) fun w20 c20=>?_
   rw [← hl]
   obtain ⟨t2,ht2⟩:∃ t,t=next l fx:=⟨_,rfl⟩
   rw [← ht2] at hun ⊢
   refine tup4 (nb4 rfl fun w25 b25 c25 z25=>?_)
   have c1925:=c20.trans' c25
   have bb25:=(c1925.blk (blk_lt bb19) id).trans bb19
   have ba25:=(c1925.blk (blk_lt ba19) id).trans ba19
   have bx25:=(c1925.blk (blk_lt b19) id).trans b19
   have cw25:=cw19.trans' c1925
   have hz25:=c1925.size
   have wr:t2.is 58=false→callP Tryz.prog 126 [tkv t2] w25 _:=fun hno=>wanted_ret bb25 rfl (K:=K) fun a e w5 hw he c5=>hk _ w5 (by
    rw [heq,hun,if_pos hno,hw]; exact ⟨rfl,he⟩) (cw25.trans c5 fun x hx h=>by omega)
   refine ⟨fun w26=>w26=w25∧t2.is 58=true,?_,?_⟩
   ·rintro w26 ⟨rfl,hyes⟩
    rw [if_neg (by rw [hyes]; decide)] at hun
    have h58:=next_of_is (s:=l) (a:=fx) (c:=58) (by omega) (by rw [← ht2]; exact hyes)
    rw [← ht2] at h58
    simp only [add_at,Nat.zero_add]
    refine ⟨_,cellK b25 2 rfl,?_⟩
    refine hR (by omega) fun v w27 hv c27=>?_
    rw [← hl] at hv
    have bb27:=(c27.blk (blk_lt bb25) id).trans bb25
    have ba27:=(c27.blk (blk_lt ba25) id).trans ba25
    have bx27:=(c27.blk (blk_lt bx25) id).trans bx25
    have cw27:=cw25.trans' c27
    have hz27:=c27.size
    cases hrd2:rdM l d t2.fin with
    | bad a e =>
     rw [hrd2] at hv hun
     obtain ⟨rfl,he0⟩:=hv
     simp only at hun
     rw [heq,hun] at hk
     refine tup7 (nb7 rfl fun w35 b35 c35 z35=>?_)
     have bb35:=(c35.blk (blk_lt bb27) id).trans bb27
     simp only [add_at,Nat.zero_add]
     refine ⟨_,cellK b35 6 rfl,?_⟩
     rw [ne0]
     have B:=bad_ret bb35 rfl b35 (K:=K) fun w5 c5=>hk _ w5 ⟨rfl,he0⟩ ((cw27.trans' c35).trans c5 fun x hx h=>by omega)
     simp only [add_at,Nat.zero_add] at B
     exact Sif_true_of (decide_eq_true he0) B
    | ok my fy =>
     rw [hrd2] at hv hun
     obtain ⟨y,rfl,hym,hvy,hyb⟩:=hv
     simp only at hun
     have hgy:=rdM_goes l d t2.fin my fy (by omega) hrd2
     refine tup7 (nb7 rfl fun w35 b35 c35 z35=>?_)
     have bb35:=(c35.blk (blk_lt bb27) id).trans bb27
     have ba35:=(c35.blk (blk_lt ba27) id).trans ba27
     have bx35:=(c35.blk (blk_lt bx27) id).trans bx27
     have c1935:=c1925.trans' (c27.trans' c35)
     have hrow35:=hrow19.ch c1935 fun _ _ h=>h
     have hvx35:VO w35 x:=VO.ch c1935 x hvx19 fun _ _ h=>h
     have hvy35:VO w35 y:=VO.ch c35 y hvy fun _ _ h=>h
     have hz35:=c35.size
     have hl35:=blk_lt b35
     have hxlt:=VO.lt x hvx
     have hylt:=VO.lt y hvy
     have hown:∀ b,own=some b→w9.heap.size≤b∧b<w10.heap.size:=fun b hb=>⟨hnew b (by rw [rowB_VE,hb]; simp),hrow.lt b (by rw [rowB_VE,hb]; simp)⟩
     simp only [add_at,Nat.zero_add]
     refine ⟨_,cellK b35 6 rfl,Sif_false ⟨_,cellK bx35 0 rfl,_,cellK bx35 1 rfl,_,cellK bx35 2 rfl,_,_,_,cellK bx35 3 rfl,_,cellK bx35 4 rfl,?_⟩⟩
     rw [show [Value.int .i64 x.k,.int .u64 (x.n:Int),.string ⟨x.t.toArray⟩,.slice x.s.p x.s.n x.s.c,.int .i64 x.e]=x.g from gg x]
     refine push1_ok hrow35 hvx35 (fun b hb hb2=>by have h1:=hxb b hb; have h2:=hrow.lt b hb2; omega) (by omega) fun p4 c4 own4 w37 hrow37 hb37 c37=>?_
     have b3537:=(c37.blk (blk_lt b35) (fun e=>by have:=hown _ e; omega)).trans b35
     have bb37:=(c37.blk (blk_lt bb35) (fun e=>by have:=hown _ e; omega)).trans bb35
     have ba37:=(c37.blk (blk_lt ba35) (fun e=>by have:=hown _ e; omega)).trans ba35
     have hvy37:VO w37 y:=VO.ch c37 y hvy35 fun b hb e=>by have h1:=hyb b hb; have h2:=hown b e; omega
     have hz37:=c37.size
     have hbs37:∀ b∈VE.rowB own4 (R++[x]),(w9.heap.size≤b∧b<w11.heap.size)∨w35.heap.size≤b:=fun b hb=>by
      rcases hb37 b hb with h | h | h
      ·have h1:=hnew b h; have h2:=hrow.lt b h; omega
      ·have h1:=hxb b h; have h2:=hxlt b h; omega
      ·exact .inr h
     have hown4:∀ b,own4=some b→(w9.heap.size≤b∧b<w11.heap.size)∨w35.heap.size≤b:=fun b hb=>hbs37 b (by rw [rowB_VE,hb]; simp)
     refine ⟨_,cellK b3537 0 rfl,_,cellK b3537 1 rfl,_,cellK b3537 2 rfl,_,_,_,cellK b3537 3 rfl,_,cellK b3537 4 rfl,?_⟩
     rw [show [Value.int .i64 y.k,.int .u64 (y.n:Int),.string ⟨y.t.toArray⟩,.slice y.s.p y.s.n y.s.c,.int .i64 y.e]=y.g from gg y]
     refine push1_ok hrow37 hvy37 (fun b hb hb2=>by have h1:=hyb b hb; have h2:=hylt b hb; have h3:=hbs37 b hb2; omega) (by omega) fun p6 c6 own6 w39 hrow39 hb39 c39=>?_
     have b3539:=(c39.blk (blk_lt b3537) (fun e=>by have:=hown4 _ e; omega)).trans b3537
     have bb39:=(c39.blk (blk_lt bb37) (fun e=>by have:=hown4 _ e; omega)).trans bb37
     have ba39:=(c39.blk (blk_lt ba37) (fun e=>by have:=hown4 _ e; omega)).trans ba37
     have hz39:=c39.size
     refine ⟨_,cellK b3539 5 rfl,?_⟩
     refine rnext_ok hs (by omega) fun w40 c40=>?_
     rw [← hl]
     obtain ⟨t3,ht3⟩:∃ t,t=next l fy:=⟨_,rfl⟩
     rw [← ht3] at hun ⊢
     refine tup4 (nb4 rfl fun w45 b45 c45 z45=>?_)
     have c3945:=c40.trans' c45
     have hrow45:=hrow39.ch c3945 fun _ _ h=>h
     have hnew45:∀ k∈VE.rowB own6 (R++[x]++[y]),w9.heap.size≤k:=fun k hk=>by
      rcases hb39 k hk with h | h | h
      ·have:=hbs37 k h; omega
      ·have:=hyb k h; omega
      ·omega
     have bb45:=(c3945.blk (blk_lt bb39) id).trans bb39
     have ba45:=(c3945.blk (blk_lt ba39) id).trans ba39
     have c935:Ch (fun _=>False) w9 w35:=c10.trans' (c1019.trans' c1935)
     have c937:Ch (fun _=>False) w9 w37:=c935.trans c37 fun z hz e=>by have:=hown z e; omega
     have c939:Ch (fun _=>False) w9 w39:=c937.trans c39 fun z hz e=>by have:=hown4 z e; omega
     have c945:=c939.trans' c3945
     have cw45:=cw8.trans' c945
     have hlen:(R++[x]++[y]).length=R.length+2:=by simp
     have hmap:(R++[x]++[y]).map MV.m=R.map MV.m++[mx,my]:=by simp [hxm,hym]
     have wr3:t3.is 125=false→t3.is 44=false→callP Tryz.prog 126 [tkv t3] w45 _:=fun h0 hno=>wanted_ret bb45 rfl (K:=K) fun a e w5 hw he c5=>hk _ w5 (by
      rw [heq,hun,if_neg (by rw [h0]; decide),if_pos hno,hw]; exact ⟨rfl,he⟩) (cw45.trans c5 fun x hx h=>by omega)
     have e3:((t3.kind:Int) == 3)=decide (t3.kind=3):=natEq _ 3
     have e3':((t3.kind:Int) != 3)=!decide (t3.kind=3):=by rw [bne,e3]
     simp only [add_at,Nat.zero_add] at wr3
     simp only [add_at,Nat.zero_add]
     refine ⟨fun w46=>w46=w45∧t3.is 125=false,?_,?_⟩
     ·rintro w46 ⟨rfl,h0⟩
      refine ⟨fun w47=>w47=w46∧t3.is 44=true,?_,?_⟩
      ·rintro w47 ⟨rfl,h44⟩
       have h45:=next_of_is (s:=l) (a:=fy) (c:=44) (by omega) (by rw [← ht3]; exact h44)
       rw [← ht3] at h45
       exact ⟨_,cellK b45 2 rfl,s.size-t3.fin,by omega,t3.fin,R++[x]++[y],own6,rfl,by omega,rfl,by rw [hlen]; omega,by omega,hrow45,hnew45,c945,by
        rw [heq,hun,if_neg (by rw [h0]; decide),if_neg (by rw [h44]; decide),hmap]⟩
      ·refine ⟨_,cellK b45 0 rfl,?_⟩
       rw [e3',Bool.not_not]
       refine Sif_cases (fun h1=>⟨_,cellK b45 3 rfl,?_⟩) (fun h1=>?_)
       ·rw [show (ByteArray.mk (Array.mk [(44:UInt8)]))=⟨([44]:Bs).toArray⟩ by rfl,bs_eq]
        refine Sif_cases (fun h2=>?_) (fun h2=>⟨rfl,?_⟩)
        ·rw [Bool.not_eq_true'] at h2
         refine ⟨_,cellK b45 0 rfl,_,cellK b45 1 rfl,_,cellK b45 2 rfl,_,cellK b45 3 rfl,?_⟩
         exact wr3 h0 (by rw [is_val,h2,Bool.and_false])
        ·rw [Bool.not_eq_false'] at h2
         rw [is_val,h1,h2]; rfl
       ·refine ⟨_,cellK b45 0 rfl,_,cellK b45 1 rfl,_,cellK b45 2 rfl,_,cellK b45 3 rfl,?_⟩
        exact wr3 h0 (by rw [is_val,h1,Bool.false_and])
     ·refine ⟨_,cellK b45 0 rfl,?_⟩
      rw [e3]
      refine Sif_cases (fun h1=>⟨_,cellK b45 3 rfl,?_⟩) (fun h1=>⟨by trivial,?_⟩)
      ·rw [show (ByteArray.mk (Array.mk [(125:UInt8)]))=⟨([125]:Bs).toArray⟩ by rfl,bs_eq]
       refine Sif_cases (fun h2=>?_) (fun h2=>⟨by trivial,?_⟩)
       ·have hyes:t3.is 125=true:=by rw [is_val,h1,h2]; rfl
        rw [if_pos hyes] at hun
        rw [heq,hun] at hk
        refine ⟨_,cellK ba45 0 rfl,_,cellK ba45 1 rfl,_,cellK ba45 2 rfl,_,cellK ba45 3 rfl,_,cellK b45 2 rfl,?_⟩
        have S:=shut_ret (at_:=t3.fin) hrow45 (by omega) (by omega) ht0 hnew45 bb45 (by omega) rfl (K:=K) fun v w5 hv c5=>hk v w5 (by rw [hmap] at hv; exact hv.le (by omega)) (cw45.trans c5 fun x hx h=>by omega)
        simp only [add_at,Nat.zero_add] at S
        exact S
       ·rw [is_val,h2,Bool.and_false]
      ·rw [is_val,h1,Bool.false_and]
   ·have e3:((t2.kind:Int) != 3)=!decide (t2.kind=3):=by rw [bne,show ((t2.kind:Int) == 3)=decide (t2.kind=3) from natEq _ 3]
    refine ⟨_,(by simp only [add_at,Nat.zero_add]; exact cellK b25 0 rfl),?_⟩
    rw [e3,Bool.not_not]
    refine Sif_cases (fun h1=>⟨_,(by simp only [add_at,Nat.zero_add]; exact cellK b25 3 rfl),?_⟩) (fun h1=>?_)
    ·rw [show (ByteArray.mk (Array.mk [(58:UInt8)]))=⟨([58]:Bs).toArray⟩ by rfl,bs_eq]
     refine Sif_cases (fun h2=>?_) (fun h2=>⟨rfl,?_⟩)
     ·rw [Bool.not_eq_true'] at h2
      refine ld4 (K:=fun v w2=>callP Tryz.prog 126 [v] w2 _) b25 ?_
      exact wr (by rw [is_val,h2,Bool.and_false])
     ·rw [Bool.not_eq_false'] at h2
      rw [is_val,h1,h2]; rfl
    ·refine ld4 (K:=fun v w2=>callP Tryz.prog 126 [v] w2 _) b25 ?_
     exact wr (by rw [is_val,h1,Bool.false_and])
 ·simp only [add_at,Nat.zero_add]
  refine ⟨_,cellK b8 0 rfl,?_⟩
  rw [show ((t.kind:Int) == 3)=decide (t.kind=3) from natEq _ 3]
  refine Sif_cases (fun h1=>⟨_,cellK b8 3 rfl,?_⟩) (fun h1=>⟨by trivial,?_⟩)
  ·rw [show (ByteArray.mk (Array.mk [(125:UInt8)]))=⟨([125]:Bs).toArray⟩ by rfl,bs_eq]
   refine Sif_cases (fun h2=>?_) (fun h2=>⟨by trivial,?_⟩)
   ·have hyes:t.is 125=true:=by rw [is_val,h1,h2]; rfl
    rw [if_pos hyes] at hk
    refine ⟨_,cellK ba8 0 rfl,_,cellK ba8 1 rfl,_,cellK ba8 2 rfl,_,cellK ba8 3 rfl,_,cellK b8 2 rfl,?_⟩
    have S:=shut_ret (t:=t0) (at_:=t.fin) (w3:=w8) (p:=none) (n:=0) (c:=0) (own:=none) (R:=[]) El.Row.nil rfl (by omega) ht0 (sz:=w8.heap.size) (by simp [rowB_VE]) bb8 (by omega) rfl (K:=K) fun v w5 hv c5=>hk v w5 (hv.le (by omega)) (cw8.trans c5 fun x hx h=>by omega)
    simp only [add_at,Nat.zero_add] at S
    exact S
   ·rw [is_val,h2,Bool.and_false]
  ·rw [is_val,h1,Bool.false_and]
end Go.Proofs.YtnacobknngidkaaGreatDoor
namespace Go.Proofs.YtnacobknngidkaaGreatDoor
open Go Go.Sv Go.Note Go.RowKit
set_option linter.unusedVariables false
attribute [local irreducible] Sif
set_option maxRecDepth 4000
theorem fo_ret {sz:Nat} {r:Go.Note.Fd M} {v1:Value} {w4:World} (hv:Fo sz w4 r v1) {b:Nat} {zs:List Value} (hb:blk w4 b=some zs) (hbs:b<sz) (hl:zs.length=7) {K:Value→World→Prop}
 (hk:∀ v w5,Fo sz w5 r v→Ch (·=b) w4 w5→K v w5) :
 ∃ y0 y1 y2 q3 m3 c3 y4 y5 y6,v1=.agg (Array.mk [.int .i64 y0,.int .u64 y1,.string y2,.slice q3 m3 c3,.int .i64 y4,.int .i64 y5,.int .i64 y6]) ∧
  (Sv.st w4 (Addr.add ⟨b,0,none⟩ 0) (.int .i64 y0) fun w5=>Sv.st w5 (Addr.add ⟨b,0,none⟩ 1) (.int .u64 y1) fun w6=>Sv.st w6 (Addr.add ⟨b,0,none⟩ 2) (.string y2) fun w7=>Sv.st w7 (Addr.add ⟨b,0,none⟩ 3) (.slice q3 m3 c3) fun w8=>Sv.st w8 (Addr.add ⟨b,0,none⟩ 4) (.int .i64 y4) fun w9=>Sv.st w9 (Addr.add ⟨b,0,none⟩ 5) (.int .i64 y5) fun w10=>Sv.st w10 (Addr.add ⟨b,0,none⟩ 6) (.int .i64 y6) fun w11 =>
    ∃ y0,w11.cell? (Addr.add ⟨b,0,none⟩ 0)=some (.int .i64 y0)∧∃ y1,w11.cell? (Addr.add ⟨b,0,none⟩ 1)=some (.int .u64 y1)∧∃ y2,w11.cell? (Addr.add ⟨b,0,none⟩ 2)=some (.string y2)∧∃ q3 m3 c3,w11.cell? (Addr.add ⟨b,0,none⟩ 3)=some (.slice q3 m3 c3)∧∃ y4,w11.cell? (Addr.add ⟨b,0,none⟩ 4)=some (.int .i64 y4)∧∃ y5,w11.cell? (Addr.add ⟨b,0,none⟩ 5)=some (.int .i64 y5)∧∃ y6,w11.cell? (Addr.add ⟨b,0,none⟩ 6)=some (.int .i64 y6)∧K (.agg (Array.mk [.int .i64 y0,.int .u64 y1,.string y2,.slice q3 m3 c3,.int .i64 y4,.int .i64 y5,.int .i64 y6])) w11):=by
 cases r with
 | bad a e =>
  obtain ⟨rfl,he⟩:=hv
  refine tup7 ?_
  exact st7 (x:=mv0) hb hl fun w5 b5 c5 z5=>ld7 b5 (hk _ w5 ⟨rfl,he⟩ c5)
 | ok m a =>
  obtain ⟨x,rfl,hxm,hvo,hxb⟩:=hv
  refine tup7 ?_
  exact st7 (x:=x) hb hl fun w5 b5 c5 z5=>ld7 b5 (hk _ w5 ⟨x,rfl,hxm,VO.ch c5 x hvo fun k hk e=>by have:=hxb k hk; omega,hxb⟩ c5)
end Go.Proofs.YtnacobknngidkaaGreatDoor
namespace Go.Proofs.YtnacobknngidkaaGreatDoor
open Go Go.Sv Go.Note Go.RowKit
set_option linter.unusedVariables false
attribute [local irreducible] Sif
set_option maxRecDepth 4000
theorem rread_core {s:ByteArray} (hs:s.size≤2^40) (d:Nat) (hd:d≤32) (hR:∀ e,d=e+1→ROK s e):ROK s d:=by
 intro f w K hf hk
 apply ok_longshoreref04_read
 unfold wp_longshoreref04_read
 have hsl:=sl s
 obtain ⟨l,hl⟩:∃ l,l=s.data.toList:=⟨_,rfl⟩
 rw [← hl] at hk hsl
 rw [rdM_eq] at hk
 refine newB_blk fun w1 b1 c1 z1=>?_
 refine rnext_ok hs hf fun w2 c2=>?_
 rw [← hl]
 obtain ⟨t,ht⟩:∃ t,t=next l f:=⟨_,rfl⟩
 rw [← ht] at hk ⊢
 refine tup4 (nb4 rfl fun w7 b7 c7 z7=>?_)
 have c27:=c2.trans' c7
 have b17:=(c27.blk (blk_lt b1) id).trans b1
 have cw7:=c1.trans' c27
 simp only [add_at,Nat.zero_add]
 refine ⟨_,cellK b7 0 rfl,_,cellK b7 1 rfl,_,cellK b7 2 rfl,_,cellK b7 3 rfl,?_⟩
 refine rbegins_ok fun w8 c8=>⟨_,rfl,?_⟩
 have bt8:=(c8.blk (blk_lt b7) id).trans b7
 have b18:=(c8.blk (blk_lt b17) id).trans b17
 have cw8:=cw7.trans' c8
 cases hb:begins t with
 | none =>
  rw [hb] at hk
  simp only at hk
  refine Sif_true_of (decide_eq_true (by show (-1:Int)<0; decide)) ?_
  refine ⟨_,cellK bt8 0 rfl,_,cellK bt8 1 rfl,_,cellK bt8 2 rfl,_,cellK bt8 3 rfl,?_⟩
  refine rcloses_ok fun w9 c9=>⟨_,rfl,?_⟩
  have bt9:=(c9.blk (blk_lt bt8) id).trans bt8
  have b19:=(c9.blk (blk_lt b18) id).trans b18
  have cw9:=cw8.trans' c9
  have am:∀ e:Nat,e≠0→(if closes t=true∨(t.kind=0∧d<32) then amiss t 43 else amiss t 40:Go.Note.Fd M)=amiss t e→callP Tryz.prog 46 [tkv t,.int .i64 (e:Int)] w9 _:=fun e he h=>amiss_ret (t:=t) he b19 rfl (K:=K) fun w5 c5=>hk _ w5 (by
   rw [h]; exact foAmiss he) (cw9.trans c5 fun x hx e=>by omega)
  simp only [add_at,Nat.zero_add] at am
  refine ⟨fun w10=>w10=w9∧¬ (closes t=true∨(t.kind=0∧d<32)),?_,?_⟩
  ·rintro w10 ⟨rfl,hno⟩
   refine ⟨_,cellK bt9 0 rfl,_,cellK bt9 1 rfl,_,cellK bt9 2 rfl,_,cellK bt9 3 rfl,?_⟩
   exact am 40 (by decide) (by rw [if_neg hno])
  ·refine Sif_cases (fun h1=>⟨_,cellK bt9 0 rfl,?_⟩) (fun h1=>?_)
   ·rw [Bool.not_eq_true'] at h1
    rw [show ((t.kind:Int) == 0)=decide (t.kind=0) from natEq _ 0]
    refine Sif_cases (fun h2=>Sif_cases (fun h3=>?_) (fun h3=>⟨rfl,?_⟩)) (fun h2=>⟨rfl,?_⟩)
    ·have h2:=of_decide_eq_true h2
     have h3:=of_decide_eq_true h3
     refine ⟨_,cellK bt9 0 rfl,_,cellK bt9 1 rfl,_,cellK bt9 2 rfl,_,cellK bt9 3 rfl,?_⟩
     exact am 43 (by decide) (by rw [if_pos (.inr ⟨h2,by omega⟩)])
    ·have h3:=of_decide_eq_false h3
     rw [h1]; rintro (h | ⟨_,h⟩)
     ·cases h
     ·omega
    ·have h2:=of_decide_eq_false h2
     rw [h1]; rintro (h | ⟨h,_⟩)
     ·cases h
     ·exact h2 h
   ·rw [Bool.not_eq_false'] at h1
    refine ⟨_,cellK bt9 0 rfl,_,cellK bt9 1 rfl,_,cellK bt9 2 rfl,_,cellK bt9 3 rfl,?_⟩
    exact am 43 (by decide) (by rw [if_pos (.inl h1)])
 | some k =>
  rw [hb] at hk
  simp only at hk
  have hz7:=c7.size
  have hz2:=c2.size
  have hz8:=c8.size
  have hb1:=blk_lt b1
  have hlies:=next_lies l f (by omega)
  rw [← ht] at hlies
  show Sif (decide ((k:Int)<0)) _ _
  refine Sif_false_of (decide_eq_false (by omega)) ?_
  cases d with
  | zero =>
   refine Sif_true_of (decide_eq_true (by omega)) ?_
   refine ⟨_,cellK bt8 0 rfl,_,cellK bt8 1 rfl,_,cellK bt8 2 rfl,_,cellK bt8 3 rfl,?_⟩
   have A:=amiss_ret (t:=t) (e:=26) (by decide) b18 rfl (K:=K) fun w5 c5=>hk _ w5 (foAmiss (by decide)) (cw8.trans c5 fun x hx e=>by omega)
   simp only [add_at,Nat.zero_add] at A
   exact A
  | succ e =>
   have hRe:ROK s e:=fun h1 h2=>hR e rfl h1 h2
   simp only at hk
   rw [show (33-((e+1:Nat):Int))=32-(e:Int) by omega]
   refine Sif_false_of (decide_eq_false (by omega)) ?_
   have kk:∀ n:Nat,(hexI (some k) == ((n:Nat):Int))=decide (k=n):=fun n=>natEq k n
   have fo:∀ {r:Go.Note.Fd M} {v:Value} {w9:World},(∀ v w5,Fo w.heap.size w5 r v→Ch (fun _=>False) w w5→K v w5)→Fo w8.heap.size w9 r v→Ch (fun _=>False) w8 w9→_:=fun {r v w9} hk hv c9=>fo_ret hv ((c9.blk (blk_lt b18) id).trans b18) (by omega) rfl (K:=K) fun v w5 hv c5=>hk v w5 (hv.le (by omega)) ((cw8.trans' c9).trans c5 fun x hx h=>by omega)
   simp only [add_at,Nat.zero_add] at fo
   rw [show (hexI (some k) == (0:Int))=decide (k=0) from natEq k 0]
   refine Sif_cases (fun h0=>?_) (fun h0=>?_)
   ·rw [if_pos (of_decide_eq_true h0)] at hk
    refine ⟨_,cellK bt8 2 rfl,?_⟩
    have S:=st7 (x:=.mk 0 0 [] ⟨none,0,0,none⟩ 0 []) (a:=(t.fin:Int)) (e:=0) b18 rfl (K:=fun w5=>_) (fun w5 b5 c5 z5=>ld7 (K:=K) b5 (hk _ w5 ⟨_,rfl,by rw [MV.m_mk]; rfl,VO.none,by rw [MV.B_mk]; simp⟩ (cw8.trans c5 fun x hx h=>by omega)))
    simp only [add_at,Nat.zero_add] at S
    exact S
   have h0:=of_decide_eq_false h0
   rw [if_neg h0] at hk
   rw [show (hexI (some k) == (1:Int))=decide (k=1) from natEq k 1]
   refine Sif_cases (fun h1=>?_) (fun h1=>?_)
   ·rw [if_pos (of_decide_eq_true h1)] at hk
    refine nbx (x:=.mk 1 0 [] ⟨none,0,0,none⟩ 0 []) rfl fun w14 b14 c14 z14=>?_
    have b114:=(c14.blk (blk_lt b18) id).trans b18
    have bt14:=(c14.blk (blk_lt bt8) id).trans bt8
    have hlt:=blk_lt bt8
    have hlt2:=blk_lt b18
    refine ⟨fun w15=>blk w15 w8.heap.size=some (MV.mk 1 (if t.text=[116,114,117,101] then 1 else 0) [] ⟨none,0,0,none⟩ 0 []).g∧Ch (·=w8.heap.size) w14 w15,?_,?_⟩
    ·rintro w15 ⟨b15,c15⟩
     have b115:=(c15.blk (blk_lt b114) (by omega)).trans b114
     have bt15:=(c15.blk (blk_lt bt14) (by omega)).trans bt14
     refine ⟨_,cellK b15 0 rfl,_,cellK b15 1 rfl,_,cellK b15 2 rfl,_,_,_,cellK b15 3 rfl,_,cellK b15 4 rfl,_,cellK bt15 2 rfl,?_⟩
     have S:=st7 (x:=.mk 1 (if t.text=[116,114,117,101] then 1 else 0) [] ⟨none,0,0,none⟩ 0 []) (a:=(t.fin:Int)) (e:=0) b115 rfl (K:=fun w5=>_) (fun w5 b5 c5 z5=>ld7 (K:=K) b5 (hk _ w5 ⟨_,rfl,by rw [MV.m_mk]; rfl,VO.none,by rw [MV.B_mk]; simp⟩ (((cw8.trans' c14).trans c15 fun x hx h=>by omega).trans c5 fun x hx h=>by omega)))
     simp only [add_at,Nat.zero_add] at S
     exact S
    ·refine ⟨_,cellK bt14 3 rfl,?_⟩
     rw [show (ByteArray.mk (Array.mk [(116:UInt8),114,117,101]))=⟨([116,114,117,101]:Bs).toArray⟩ by rfl,bs_eq]
     refine Sif_cases (fun h2=>?_) (fun h2=>?_)
     ·rw [if_pos (of_decide_eq_true h2)]
      exact st_blk b14 (by simp [MV.g]) fun w15 b15 c15 z15=>⟨b15,c15⟩
     ·rw [if_neg (of_decide_eq_false h2)]
      exact ⟨b14,Ch.refl _ _⟩
   have h1:=of_decide_eq_false h1
   rw [if_neg h1] at hk
   rw [show (hexI (some k) == (19:Int))=decide (k=19) from natEq k 19]
   refine Sif_cases (fun h19=>?_) (fun h19=>?_)
   ·rw [if_pos (of_decide_eq_true h19)] at hk
    refine ⟨_,cellK bt8 0 rfl,_,cellK bt8 1 rfl,_,cellK bt8 2 rfl,_,cellK bt8 3 rfl,?_⟩
    refine rworded_ok (sz:=w8.heap.size) (k:=19) (t:=t) (fun h=>by have:=(next_text l (a:=f) (by omega)).2 (by rw [← ht]; exact h); rw [← ht] at this; omega) fun v w9 hv c9=>?_
    exact fo hk hv c9
   have h19:=of_decide_eq_false h19
   rw [if_neg h19] at hk
   refine ⟨fun b w9=>w9=w8∧b=decide (k=18∨k=20),?_,?_⟩
   ·rintro b w9 ⟨rfl,rfl⟩
    refine Sif_cases (fun h20=>?_) (fun h20=>?_)
    ·rw [if_pos (of_decide_eq_true h20)] at hk
     refine ⟨_,cellK bt8 2 rfl,?_⟩
     refine rnext_ok hs (by omega) fun w10 c10=>?_
     rw [← hl]
     obtain ⟨t2,ht2⟩:∃ t2,t2=next l t.fin:=⟨_,rfl⟩
     rw [← ht2] at hk ⊢
     refine tup4 (nb4 rfl fun w15 b15 c15 z15=>?_)
     simp only [add_at,Nat.zero_add]
     refine ⟨_,cellK b15 0 rfl,_,cellK b15 1 rfl,_,cellK b15 2 rfl,_,cellK b15 3 rfl,?_⟩
     refine rworded_ok (sz:=w9.heap.size) (k:=k) (t:=t2) (fun h=>by have h5:=next_lies l t.fin (by omega); have:=(next_text l (a:=t.fin) (by omega)).2 (by rw [← ht2]; exact h); rw [← ht2] at this h5; omega) fun v w16 hv c16=>?_
     exact fo hk hv ((c10.trans' c15).trans' c16)
    have h20:=of_decide_eq_false h20
    rw [if_neg h20] at hk
    rw [show (hexI (some k) == (21:Int))=decide (k=21) from natEq k 21]
    refine Sif_cases (fun h21=>?_) (fun h21=>?_)
    ·rw [if_pos (of_decide_eq_true h21)] at hk
     refine ⟨_,cellK bt8 2 rfl,?_⟩
     refine rlist_ok hs (by omega) hRe (by omega) (elem:=none) fun v w10 hv c10=>?_
     rw [← hl] at hv
     exact fo hk hv c10
    have h21:=of_decide_eq_false h21
    rw [if_neg h21] at hk
    rw [show (hexI (some k) == (22:Int))=decide (k=22) from natEq k 22]
    refine Sif_cases (fun h22=>?_) (fun h22=>?_)
    ·rw [if_pos (of_decide_eq_true h22)] at hk
     refine ⟨_,cellK bt8 0 rfl,_,cellK bt8 1 rfl,_,cellK bt8 2 rfl,_,cellK bt8 3 rfl,?_⟩
     refine rmapped_ok hs (by omega) hRe (t0:=t) (fun h5=>by unfold begins at hb; simp [h5] at hb) (by omega) fun v w10 hv c10=>?_
     rw [← hl] at hv
     exact fo hk hv c10
    have h22:=of_decide_eq_false h22
    rw [if_neg h22] at hk
    rw [show (hexI (some k) == (23:Int))=decide (k=23) from natEq k 23]
    refine Sif_cases (fun h23=>?_) (fun h23=>?_)
    ·rw [if_pos (of_decide_eq_true h23)] at hk
     refine ⟨_,cellK bt8 2 rfl,?_⟩
     refine rarray_ok hs (by omega) hRe (by omega) fun v w10 hv c10=>?_
     rw [← hl] at hv
     exact fo hk hv c10
    have h23:=of_decide_eq_false h23
    rw [if_neg h23] at hk
    rw [show (hexI (some k) == (24:Int))=decide (k=24) from natEq k 24]
    refine Sif_cases (fun h24=>?_) (fun h24=>?_)
    ·rw [if_pos (of_decide_eq_true h24)] at hk
     refine ⟨_,cellK bt8 2 rfl,?_⟩
     refine rdescribed_ok hs (by omega) hRe (by omega) fun v w10 hv c10=>?_
     rw [← hl] at hv
     exact fo hk hv c10
    ·rw [if_neg (of_decide_eq_false h24)] at hk
     refine ⟨_,cellK bt8 2 rfl,?_⟩
     refine rnumbered_ok hs (sz:=w9.heap.size) (k:=k) (by omega) fun v w10 hv c10=>?_
     rw [← hl] at hv
     exact fo hk hv c10
   ·rw [show (hexI (some k) == (18:Int))=decide (k=18) from natEq k 18,show (hexI (some k) == (20:Int))=decide (k=20) from natEq k 20]
    refine Sif_cases (fun h=>?_) (fun h=>?_)
    ·exact ⟨rfl,by rw [h]; have:=of_decide_eq_true h; simp [this]⟩
    ·exact ⟨rfl,by have:=of_decide_eq_false h; simp [this]⟩
end Go.Proofs.YtnacobknngidkaaGreatDoor
namespace Go.Proofs.YtnacobknngidkaaGreatDoor
open Go Go.Sv Go.Note
set_option linter.unusedVariables false
attribute [local irreducible] Sif
set_option maxRecDepth 4000
mutual
def MV.T:MV→List SL
 | .mk _ _ _ s _ l=>MV.TL l++[s]
def MV.TL:List MV→List SL
 | []=>[]
 | x::l=>MV.T x++MV.TL l
end
theorem MV.TL_flat (l:List MV):MV.TL l=l.flatMap MV.T:=by
 induction l with
 | nil=>rfl
 | cons x l ih=>simp [MV.TL,ih]
theorem MV.T_mk (k:Int) (n:Nat) (t:Bs) (s:SL) (e:Int) (l:List MV):(MV.mk k n t s e l).T=l.flatMap MV.T++[s]:=by rw [MV.T,MV.TL_flat]
def sowns (T:List SL):List Nat:=T.flatMap fun x=>x.own.toList
theorem sowns_append (S T:List SL):sowns (S++T)=sowns S++sowns T:=by simp [sowns]
theorem T_owns:∀ x:MV,(sowns x.T).Perm x.B:=by
 refine MV.ind fun k n t s e l ih=>?_
 rw [MV.T_mk,MV.B_mk,sowns_append]
 have h:(sowns (l.flatMap MV.T)).Perm (l.flatMap MV.B):=by
  clear k n t s e
  induction l with
  | nil=>exact List.Perm.refl _
  | cons x l ih2 =>
   rw [List.flatMap_cons,List.flatMap_cons,sowns_append]
   exact (ih x (by simp)).append (ih2 fun y hy=>ih y (by simp [hy]))
 refine (List.perm_append_comm).trans ?_
 have e:sowns [s]=s.own.toList:=by simp [sowns]
 rw [e]
 exact (List.Perm.refl _).append h
theorem T_len:∀ x:MV,x.T.length≤x.m.sz:=by
 refine MV.ind fun k n t s e l ih=>?_
 rw [MV.T_mk,MV.m_mk,M.sz_mk,List.length_append,List.length_singleton,List.map_map]
 have h:(l.flatMap MV.T).length≤(l.map (M.sz ∘ MV.m)).sum:=by
  clear k n t s e
  induction l with
  | nil=>simp
  | cons x l ih2 =>
   have h1:=ih x (by simp)
   have h2:=ih2 fun y hy=>ih y (by simp [hy])
   simp only [List.flatMap_cons,List.length_append,List.map_cons,List.sum_cons,Function.comp_def] at h1 h2 ⊢
   omega
 omega
theorem sum_len (l:List MV):l.length≤(l.map (M.sz ∘ MV.m)).sum:=by
 induction l with
 | nil=>simp
 | cons x l ih =>
  have:1≤x.m.sz:=by cases x; rw [MV.m_mk,M.sz_mk]; omega
  simp only [List.length_cons,List.map_cons,List.sum_cons,Function.comp_def] at ih ⊢; omega
theorem szT_take (l:List MV) (i:Nat):((l.take i).map (M.sz ∘ MV.m)).sum≤(l.map (M.sz ∘ MV.m)).sum:=by
 have h:(l.map (M.sz ∘ MV.m)).sum=((l.take i).map (M.sz ∘ MV.m)).sum+((l.drop i).map (M.sz ∘ MV.m)).sum:=by
  rw [← List.sum_append_nat,← List.map_append,List.take_append_drop]
 omega
theorem take_snoc {α:Type} {l:List α} {i:Nat} {x:α} (h:l[i]?=some x):l.take (i+1)=l.take i++[x]:=by
 rw [List.take_add_one,h]; rfl
structure BookV (w:World) (a:Nat) (T:List SL) (p:Option Addr) (c:Nat) (tb:Option Nat):Prop where
 head:blk w a=some [.slice p T.length c]
 row:Ow w p T.length c 1 (T.flatMap SL.cells) tb
 each:∀ x∈T,∃ l:List MV,Ow w x.p x.n x.c 5 (l.flatMap MV.g) x.own∧l.length=x.n∧x.n≤2^40
 nodup:(a::(tb.toList++sowns T)).Nodup
theorem uLists:Tryz.prog.underlying 36=some (.slice 24):=by kernel_rfl
theorem iLists:InfoIs Tryz.prog 24 1 24 (.slice none 0 0):=.of (by kernel_rfl) (by kernel_rfl) (by kernel_rfl)
theorem BookV.lt {w:World} {a:Nat} {T:List SL} {p:Option Addr} {c:Nat} {tb:Option Nat} (B:BookV w a T p c tb):∀ b∈a::(tb.toList++sowns T),b<w.heap.size:=by
 intro b hb
 rcases List.mem_cons.1 hb with rfl | hb
 ·exact blk_lt B.head
 ·rcases List.mem_append.1 hb with hb | hb
  ·exact B.row.blt b (by simpa using hb)
  ·obtain ⟨x,hx,hxb⟩:=List.mem_flatMap.1 hb
   obtain ⟨l,hl,_⟩:=B.each x hx
   exact hl.blt b (by simpa using hxb)
theorem BookV.ch {S:Nat→Prop} {w w':World} {a:Nat} {T:List SL} {p:Option Addr} {c:Nat} {tb:Option Nat} (B:BookV w a T p c tb) (hc:Ch S w w') (hn:∀ b∈a::(tb.toList++sowns T),¬ S b):BookV w' a T p c tb:=by
 refine ⟨by rw [hc.blk (blk_lt B.head) (hn a (by simp))]; exact B.head,B.row.ch hc fun k hk=>hn k (by simp [hk]),fun x hx=>?_,B.nodup⟩
 obtain ⟨l,hl,h2⟩:=B.each x hx
 exact ⟨l,hl.ch hc fun k hk=>hn k (List.mem_cons_of_mem _ (List.mem_append.2 (.inr (List.mem_flatMap.2 ⟨x,hx,by simp [hk]⟩)))),h2⟩
theorem bookV_new {w:World} {a:Nat} (h:blk w a=some [.slice none 0 0]):BookV w a [] none 0 none:=⟨h,Ow.nil,by simp,by simp [sowns]⟩
theorem bookV_push {te ty:TypeId} {w:World} {a:Nat} {T:List SL} {p:Option Addr} {c:Nat} {tb:Option Nat} {x:SL} {l:List MV} {K:World→Prop} (B:BookV w a T p c tb) (hlen:T.length<2^41) (hx:Ow w x.p x.n x.c 5 (l.flatMap MV.g) x.own) (hxl:l.length=x.n) (hxn:x.n≤2^40)
 (hn:∀ k,x.own=some k→k ∉ a::(tb.toList++sowns T))
 (hk:∀ p' c' tb' w',BookV w' a (T++[x]) p' c' tb'→Ch (fun k=>k=a∨tb=some k) w w'→(∀ k,tb'=some k→tb=some k∨w.heap.size≤k)→K w') :
 newB w [.slice x.p x.n x.c] te fun a1 w2=>∃ p1 n2 c1 w3,Sem.run Tryz.prog (Builtin.append_ #[36,36] ty #[.slice p T.length c,.slice (some a1) 1 1]) w2=.ok (.slice p1 n2 c1) w3∧Sv.st w3 ⟨a,0,none⟩ (.slice p1 n2 c1) K:=by
 have hlt:=B.lt
 have hnd:=B.nodup
 obtain ⟨na,nr⟩:=List.nodup_cons.1 hnd
 refine push_ok (g:=SL.cells) uLists iLists rfl SL.cells_len SL.cells_one B.row x (by omega) (by omega) fun p' c' b' w' o' n' c1=>?_
 have hta:∀ k,tb=some k→k≠a:=fun k hk e=>na (by rw [← e,hk]; simp)
 have B1h:blk w' a=some [.slice p T.length c]:=by rw [c1.blk (blk_lt B.head) fun e=>na (by rw [e]; simp)]; exact B.head
 refine st_blk B1h (by simp) fun w2 b2 c2 z2=>?_
 have hba:∀ k,b'=some k→k≠a:=fun k hk e=>by
  rcases n' k hk with h | h
  ·exact hta k h e
  ·have:=hlt a (by simp); omega
 have hown:∀ y∈T,∀ k,y.own=some k→k∈sowns T:=fun y hy k hk=>List.mem_flatMap.2 ⟨y,hy,by simp [hk]⟩
 have hsep:∀ k∈sowns T,tb≠some k∧k≠a:=fun k hk=>by
  refine ⟨fun e=>?_,fun e=>na (by rw [← e]; exact List.mem_append.2 (.inr hk))⟩
  exact (List.nodup_append.1 nr).2.2 k (by simp [e]) k hk rfl
 have hsepx:∀ k,x.own=some k→tb≠some k∧k≠a:=fun k hk=>by
  have:=hn k hk
  simp only [List.mem_cons,List.mem_append,not_or] at this
  exact ⟨fun e=>this.2.1 (by simp [e]),this.1⟩
 refine hk p' c' b' w2 ⟨?_,o'.ch c2 hba,fun y hy=>?_,?_⟩ ((c1.mono fun k _ h=>.inr h).trans' (c2.mono fun k _ h=>.inl h)) n'
 ·rw [b2]; rfl
 ·rcases List.mem_append.1 hy with hy | hy
  ·obtain ⟨l',hl',h2⟩:=B.each y hy
   exact ⟨l',(hl'.ch c1 fun k hk=>(hsep k (hown y hy k hk)).1).ch c2 fun k hk=>(hsep k (hown y hy k hk)).2,h2⟩
  ·simp only [List.mem_singleton] at hy
   subst hy
   exact ⟨l,(hx.ch c1 fun k hk=>(hsepx k hk).1).ch c2 fun k hk=>(hsepx k hk).2,hxl,hxn⟩
 ·have e:sowns (T++[x])=sowns T++x.own.toList:=by simp [sowns]
  rw [e]
  have hxlt:∀ k,x.own=some k→k<w.heap.size:=hx.blt
  have hT:(sowns T++x.own.toList).Nodup:=by
   refine List.nodup_append.2 ⟨(List.nodup_append.1 nr).2.1,by cases x.own<;>simp,fun u hu v hv e=>?_⟩
   subst e
   exact hn u (by simpa using hv) (List.mem_cons_of_mem _ (List.mem_append.2 (.inr hu)))
  refine List.nodup_cons.2 ⟨fun h=>?_,List.nodup_append.2 ⟨by cases b'<;>simp,hT,fun u hu v hv e=>?_⟩⟩
  ·rcases List.mem_append.1 h with h | h
   ·exact hba a (by simpa using h) rfl
   ·rcases List.mem_append.1 h with h | h
    ·exact na (List.mem_append.2 (.inr h))
    ·exact (hsepx a (by simpa using h)).2 rfl
  ·subst e
   have hv':u∈sowns T∨x.own=some u:=(List.mem_append.1 hv).imp id fun h=>by simpa using h
   rcases n' u (by simpa using hu) with h | h
   ·rcases hv' with h2 | h2
    ·exact (hsep u h2).1 h
    ·exact (hsepx u h2).1 h
   ·rcases hv' with h2 | h2
    ·have:=hlt u (List.mem_cons_of_mem _ (List.mem_append.2 (.inr h2))); omega
    ·have:=hxlt u h2; omega
def TakeOK (x:MV):Prop:=∀ {w:World} {a:Nat} {T:List SL} {p:Option Addr} {c:Nat} {tb:Option Nat} {K:Value→World→Prop},BookV w a T p c tb→VO w x→(∀ k∈x.B,k ∉ a::(tb.toList++sowns T))→T.length+x.m.sz≤2^40 →
 (∀ p' c' tb' w',BookV w' a (T++x.T) p' c' tb'→Ch (fun k=>k=a∨tb=some k) w w'→(∀ k,tb'=some k→tb=some k∨w.heap.size≤k)→K (.tuple #[]) w') →
 callP Tryz.prog 22 [.pointer (some ⟨a,0,none⟩),x.v] w K
theorem takeAll_ok {l:List MV} (ih:∀ x∈l,TakeOK x) {w:World} {a:Nat} {T:List SL} {p:Option Addr} {c:Nat} {tb:Option Nat} {s:SL} {K:Value→World→Prop} (B:BookV w a T p c tb) (hl:l.length=s.n) (ho:Ow w s.p s.n s.c 5 (l.flatMap MV.g) s.own) (hv:∀ x∈l,VO w x) (hnd:(s.own.toList++l.flatMap MV.B).Nodup)
 (hd:∀ k∈s.own.toList++l.flatMap MV.B,k ∉ a::(tb.toList++sowns T)) (hsz:T.length+1+(l.map (M.sz ∘ MV.m)).sum≤2^40)
 (hk:∀ p' c' tb' w',BookV w' a (T++(l.flatMap MV.T++[s])) p' c' tb'→Ch (fun k=>k=a∨tb=some k) w w'→(∀ k,tb'=some k→tb=some k∨w.heap.size≤k)→K (.tuple #[]) w') :
 callP Tryz.prog 47 [.pointer (some ⟨a,0,none⟩),.slice s.p s.n s.c] w K:=by
 apply ok_longshoreref02_Book_TakeAll
 unfold wp_longshoreref02_Book_TakeAll
 have hlt:=B.lt
 have hlen:=sum_len l
 obtain ⟨na,nr⟩:=List.nodup_cons.1 B.nodup
 -- what a value owns, the book does not change
 have hS:∀ k∈s.own.toList++l.flatMap MV.B,¬ (k=a∨tb=some k):=fun k hk h=>by
  have h1:=hd k hk
  simp only [List.mem_cons,List.mem_append,not_or] at h1
  rcases h with h | h
  ·exact h1.1 h
  ·exact h1.2.1 (by simp [h])
 refine ⟨fun m n w1=>∃ (i:Nat) (p1:Option Addr) (c1:Nat) (tb1:Option Nat),n=(i:Int)∧i≤l.length∧m=l.length-i∧BookV w1 a (T++(l.take i).flatMap MV.T) p1 c1 tb1∧Ch (fun k=>k=a∨tb=some k) w w1∧∀ k,tb1=some k→tb=some k∨w.heap.size≤k,
  ⟨l.length,0,p,c,tb,rfl,Nat.zero_le _,rfl,by simpa using B,Ch.refl _ _,fun k hk=>.inl hk⟩,?_⟩
 rintro m n w1 ⟨i,p1,c1,tb1,rfl,hi,rfl,B1,ch1,n1⟩
 have ho1:=ho.ch ch1 fun b hb=>hS b (by simp [hb])
 have hfl:((l.take i).flatMap MV.T).length≤((l.take i).map (M.sz ∘ MV.m)).sum:=by
  generalize l.take i=L
  induction L with
  | nil=>simp
  | cons x L ih2 =>
   have:=T_len x
   simp only [List.flatMap_cons,List.length_append,List.map_cons,List.sum_cons,Function.comp_def] at ih2 ⊢
   omega
 have hst:=szT_take l i
 have hown1:∀ k∈s.own.toList++l.flatMap MV.B,k<w.heap.size:=fun k hk=>by
  rcases List.mem_append.1 hk with hk | hk
  ·exact ho.blt k (by simpa using hk)
  ·obtain ⟨x,hx,hxk⟩:=List.mem_flatMap.1 hk
   exact VO.lt x (hv x hx) k hxk
 have hsub:∀ k,k∈sowns ((l.take i).flatMap MV.T)→∃ x∈l.take i,k∈x.B:=fun k hk=>by
  obtain ⟨z,hz,hzk⟩:=List.mem_flatMap.1 hk
  obtain ⟨x,hx,hxz⟩:=List.mem_flatMap.1 hz
  exact ⟨x,hx,(T_owns x).mem_iff.1 (List.mem_flatMap.2 ⟨z,hxz,hzk⟩)⟩
 -- a block of the value that is not in what was taken up, is not in the book
 have hfree:∀ k∈s.own.toList++l.flatMap MV.B,(∀ x∈l.take i,k ∉ x.B)→k ∉ a::(tb1.toList++sowns (T++(l.take i).flatMap MV.T)):=fun k hk hno h=>by
  have h1:=hd k hk
  have h2:=hS k hk
  have h3:=hown1 k hk
  rw [sowns_append] at h
  simp only [List.mem_cons,List.mem_append,not_or] at h h1
  rcases h with h | h | h | h
  ·exact h2 (.inl h)
  ·rcases n1 k (by simpa using h) with h | h
   ·exact h2 (.inr h)
   ·omega
  ·exact h1.2.2 h
  ·obtain ⟨x,hx,hxk⟩:=hsub k h
   exact hno x hx hxk
 refine Sif_cases (fun g=>?_) (fun g=>?_)
 ·have g:=of_decide_eq_true g
  obtain ⟨x,hx⟩:∃ x,l[i]?=some x:=⟨_,List.getElem?_eq_getElem (by omega)⟩
  have hxm:=List.mem_of_getElem? hx
  refine ⟨by omega,g,?_⟩
  obtain ⟨b,o,hp,ha⟩:=ho1.rd.at MV.glen hx (by decide)
  rw [hp]
  simp only [nn_some,add_at,Int.toNat_natCast]
  refine rd5 (o:=o+i*5) ha ?_
  rw [vv]
  have hsp:l=l.take i++x::l.drop (i+1):=by
   obtain ⟨h1,h2⟩:=List.getElem?_eq_some_iff.1 hx
   rw [← h2,← List.drop_eq_getElem_cons h1,List.take_append_drop]
  have hno:∀ k∈x.B,∀ y∈l.take i,k ∉ y.B:=fun k hkx y hy hky=>by
   have h5:=(List.nodup_append.1 hnd).2.1
   rw [hsp,List.flatMap_append] at h5
   exact (List.nodup_append.1 h5).2.2 k (List.mem_flatMap.2 ⟨y,hy,hky⟩) k (by simp [hkx]) rfl
  have hxmem:∀ k∈x.B,k∈s.own.toList++l.flatMap MV.B:=fun k hkx=>List.mem_append.2 (.inr (List.mem_flatMap.2 ⟨x,hxm,hkx⟩))
  have hst2:=szT_take l (i+1)
  rw [take_snoc hx,List.map_append,List.sum_append_nat] at hst2
  simp only [List.map_cons,List.map_nil,List.sum_cons,List.sum_nil,Function.comp_def,Nat.add_zero] at hst2 hst hfl hsz hlen
  refine ih x hxm B1 (VO.ch ch1 x (hv x hxm) fun k hkx=>hS k (hxmem k hkx)) (fun k hkx=>hfree k (hxmem k hkx) (hno k hkx)) (by rw [List.length_append]; omega) fun p2 c2 tb2 w2 B2 ch2 n2=>⟨rfl,?_⟩
  rw [nameI_iff,wrap_id (n:=(i:Int)+1) (by omega) (by omega)]
  refine ⟨l.length-(i+1),by omega,i+1,p2,c2,tb2,by omega,by omega,rfl,by rw [take_snoc hx,List.flatMap_append,← List.append_assoc]; simpa using B2,ch1.trans ch2 fun k hk h=>?_,fun k hk2=>?_⟩
  ·rcases h with h | h
   ·exact .inl h
   ·rcases n1 k h with h | h
    ·exact .inr h
    ·omega
  ·rcases n2 k hk2 with h | h
   ·exact n1 k h
   ·have:=ch1.size; exact .inr (by omega)
 ·have g:=of_decide_eq_false g
  have hil:i=l.length:=by omega
  subst hil
  rw [List.take_length] at B1 hfree
  simp only [nn_some,add_at,Nat.zero_add]
  refine ⟨p1,_,c1,cellK B1.head 0 rfl,?_⟩
  have hno:∀ k,s.own=some k→∀ x∈l,k ∉ x.B:=fun k hk x hx hxk=>(List.nodup_append.1 hnd).2.2 k (by simp [hk]) k (List.mem_flatMap.2 ⟨x,hx,hxk⟩) rfl
  rw [List.take_length] at hfl
  simp only [Function.comp_def] at hfl hsz hlen
  refine bookV_push B1 (by rw [List.length_append]; omega) ho1 hl (by omega) (fun k hk2=>hfree k (by simp [hk2]) (hno k hk2)) fun p2 c2 tb2 w2 B2 ch2 n2=>?_
  rw [List.append_assoc] at B2
  refine hk p2 c2 tb2 w2 B2 (ch1.trans ch2 fun k hk h=>?_) fun k hk2=>?_
  ·rcases h with h | h
   ·exact .inl h
   ·rcases n1 k h with h | h
    ·exact .inr h
    ·omega
  ·rcases n2 k hk2 with h | h
   ·exact n1 k h
   ·have:=ch1.size; exact .inr (by omega)
theorem take_ok:∀ x:MV,TakeOK x:=by
 refine MV.ind fun k n t s e l ih=>?_
 intro w a T p c tb K B hv hd hsz hk
 apply ok_longshoreref02_Book_Take
 unfold wp_longshoreref02_Book_Take
 refine newB_blk fun w1 b1 c1 z1=>?_
 simp only [add_at,Nat.zero_add]
 have b1:blk w1 w.heap.size=some (MV.mk k n t s e l).g:=b1
 refine ⟨_,_,_,cellK b1 3 rfl,?_⟩
 have hv1:=VO.ch c1 _ hv fun _ _ h=>h
 rw [MV.B_mk] at hd
 rw [MV.m_mk,M.sz_mk,List.map_map] at hsz
 cases hv1 with
 | mk h1 h2 h3 h4 h5 =>
  refine takeAll_ok ih (B.ch c1 fun _ _ h=>h) h1 h3 h4 h5 hd (by omega) fun p' c' tb' w' B' c' n'=>⟨rfl,?_⟩
  refine hk p' _ tb' w' (by rw [MV.T_mk]; exact B') (c1.mono (fun _ _ h=>h.elim) |>.trans' c') fun k hk2=>?_
  rcases n' k hk2 with h | h
  ·exact .inl h
  ·exact .inr (by omega)
end Go.Proofs.YtnacobknngidkaaGreatDoor
namespace Go.Proofs.YtnacobknngidkaaGreatDoor
open Go Go.Sv Go.Note
set_option linter.unusedVariables false
attribute [local irreducible] Sif
set_option maxRecDepth 4000
def mkV (j:Nat):MV:=.mk (-1000-(j:Int)) j [] ⟨none,0,0,none⟩ 0 []
theorem vmark_ok {n:Nat} (hn:n≤2^40) {w:World} {K:Value→World→Prop} (hk:∀ w',Ch (fun _=>False) w w'→K (mkV n).v w'):callP Tryz.prog 48 [.int .i64 (n:Int)] w K:=by
 apply ok_longshoreref02_mark
 unfold wp_longshoreref02_mark
 rw [wrap_id (n:=-1000-(n:Int)) (by omega) (by omega),show IntKind.wrap .u64 (n:Int)=(n:Int) by unfold IntKind.wrap; simp [IntKind.bits,IntKind.signed]; omega]
 refine nbx (x:=mkV n) rfl fun w1 b1 c1 z1=>?_
 refine ldK b1 ?_
 rw [vv]
 exact hk w1 c1
theorem vmarked_ok {w:World} {p:Option Addr} {n c j:Nat} {ys:List MV} (hr:Rd w p n 5 (ys.flatMap MV.g)) (hl:ys.length=n) (hn:n≤2^60) (hj:j≤2^40) (hy:∀ y∈ys,y=mkV j) {K:Value→World→Prop} (hk:K (.bool true) w) :
 callP Tryz.prog 49 [.slice p n c,.int .i64 (j:Int)] w K:=by
 apply ok_longshoreref02_marked
 unfold wp_longshoreref02_marked
 subst hl
 refine ⟨fun m n1 w1=>∃ i:Nat,n1=(i:Int)∧i≤ys.length∧m=ys.length-i∧w1=w,⟨ys.length,0,rfl,Nat.zero_le _,rfl,rfl⟩,?_⟩
 rintro m n1 w1 ⟨i,rfl,hi,rfl,rfl⟩
 refine Sif_cases (fun g=>?_) (fun _=>hk)
 have g:=of_decide_eq_true g
 obtain ⟨y,hyi⟩:∃ y,ys[i]?=some y:=⟨_,List.getElem?_eq_getElem (by omega)⟩
 obtain ⟨b,o,hp,ha⟩:=hr.at MV.glen hyi (by decide)
 have hym:=hy y (List.mem_of_getElem? hyi)
 subst hym
 refine ⟨fun w2=>w2=w1,?_,by omega,g,?_⟩
 ·rintro w2 rfl
  rw [nameI_iff,wrap_id (n:=(i:Int)+1) (by omega) (by omega)]
  exact ⟨ys.length-(i+1),by omega,i+1,by omega,by omega,rfl,rfl⟩
 rw [hp]
 simp only [nn_some,add_at,Int.toNat_natCast]
 have a0:w1.cell? ⟨b,o+i*5+0,none⟩=some (.int .i64 (-1000-(j:Int))):=ha 0 _ rfl
 have a1:w1.cell? ⟨b,o+i*5+1,none⟩=some (.int .u64 (j:Int)):=ha 1 _ rfl
 refine ⟨_,a0,?_⟩
 rw [wrap_id (n:=-1000-(j:Int)) (by omega) (by omega),show IntKind.wrap .u64 (j:Int)=(j:Int) by unfold IntKind.wrap; simp [IntKind.bits,IntKind.signed]; omega]
 refine Sif_cases (fun _=>⟨by omega,g,⟨_,a1,?_⟩⟩) (fun h=>absurd h (by simp))
 exact Sif_cases (fun h=>absurd h (by simp)) fun _=>by trivial
def updC (C:Nat→List MV) (i k:Nat) (y:MV):Nat→List MV:=fun m=>if m=i then (C i).set k y else C m
theorem updC_at (C:Nat→List MV) (i k:Nat) (y:MV):updC C i k y i=(C i).set k y:=by unfold updC; rw [if_pos rfl]
theorem updC_ne (C:Nat→List MV) {i j:Nat} (k:Nat) (y:MV) (h:j≠i):updC C i k y j=C j:=by unfold updC; rw [if_neg h]
theorem updC_updC (C:Nat→List MV) (i k:Nat) (y z:MV):updC (updC C i k y) i k z=updC C i k z:=by
 funext m
 unfold updC
 by_cases h:m=i
 ·simp [h,List.set_set]
 ·simp [h]
theorem updC_get {C:Nat→List MV} {i k:Nat} {x:MV} (h:(C i)[k]?=some x) (y:MV):(updC C i k y i)[k]?=some y:=by
 rw [updC_at,List.getElem?_set,if_pos rfl,if_pos (List.getElem?_eq_some_iff.1 h).1]
theorem rws_st5 {w:World} {T:List SL} {C:Nat→List MV} (h:Rws MV.g 5 w T C) (hd:∀ (j k:Nat) (x y:SL) (b:Nat),j≠k→T[j]?=some x→T[k]?=some y→x.own=some b→y.own≠some b)
 {i:Nat} {x:SL} (hx:T[i]?=some x) {k:Nat} {y:MV} (hy:(C i)[k]?=some y) (z:MV) :
 ∃ kb o,x.p=some ⟨kb,o,none⟩∧x.own=some kb∧∀ K:World→Prop,(∀ w',Rws MV.g 5 w' T (updC C i k z)→Ch (·=kb) w w'→w'.heap.size=w.heap.size→K w') →
  Sv.st w ⟨kb,o+k*5+0,none⟩ (.int .i64 z.k) fun w1=>Sv.st w1 ⟨kb,o+k*5+1,none⟩ (.int .u64 (z.n:Int)) fun w2=>Sv.st w2 ⟨kb,o+k*5+2,none⟩ (.string ⟨z.t.toArray⟩) fun w3=>Sv.st w3 ⟨kb,o+k*5+3,none⟩ (.slice z.s.p z.s.n z.s.c) fun w4=>Sv.st w4 ⟨kb,o+k*5+4,none⟩ (.int .i64 z.e) fun w5=>K w5:=by
 obtain ⟨zk,zn,zt,zs,ze,zl⟩:=z
 obtain ⟨yk,yn,yt,ys,ye,yl⟩:=y
 obtain ⟨kb,o,hp,hown,h1⟩:=h.st MV.glen hd hx hy (by decide)
 refine ⟨kb,o,hp,hown,fun K hK=>?_⟩
 have go:∀ {w':World} {C':Nat→List MV},Rws MV.g 5 w' T C'→∀ {y':MV},(C' i)[k]?=some y'→∀ (j q:Nat) (v:Value) (z':MV) (K:World→Prop),j<5→q=o+(k*5+j)→MV.g z'=(MV.g y').set j v→(∀ w'',Rws MV.g 5 w'' T (updC C' i k z')→Ch (·=kb) w' w''→w''.heap.size=w'.heap.size→K w'')→Sv.st w' ⟨kb,q,none⟩ v K:=by
  intro w' C' h' y' hy'
  obtain ⟨kb',o',hp',_,h2⟩:=h'.st MV.glen hd hx hy' (by decide)
  rw [hp] at hp'; cases hp'
  exact h2
 refine go h hy 0 _ _ (.mk zk yn yt ys ye yl) _ (by decide) (by omega) rfl fun w1 r1 c1 z1=>?_
 refine go r1 (updC_get hy _) 1 _ _ (.mk zk zn yt ys ye yl) _ (by decide) (by omega) rfl fun w2 r2 c2 z2=>?_
 rw [updC_updC] at r2
 refine go r2 (updC_get hy _) 2 _ _ (.mk zk zn zt ys ye yl) _ (by decide) (by omega) rfl fun w3 r3 c3 z3=>?_
 rw [updC_updC] at r3
 refine go r3 (updC_get hy _) 3 _ _ (.mk zk zn zt zs ye yl) _ (by decide) (by omega) rfl fun w4 r4 c4 z4=>?_
 rw [updC_updC] at r4
 refine go r4 (updC_get hy _) 4 _ _ (.mk zk zn zt zs ze zl) _ (by decide) (by omega) rfl fun w5 r5 c5 z5=>?_
 rw [updC_updC] at r5
 exact hK w5 r5 ((((c1.trans' c2).trans' c3).trans' c4).trans' c5) (by omega)
theorem sown_ne {T:List SL} (h:(sowns T).Nodup) {i j:Nat} {x y:SL} (hi:T[i]?=some x) (hj:T[j]?=some y) (hne:i≠j):∀ k,x.own=some k→y.own≠some k:=by
 induction T generalizing i j with
 | nil=>simp at hi
 | cons z T ih =>
  have h':(z.own.toList++sowns T).Nodup:=h
  obtain ⟨n1,n2,n3⟩:=List.nodup_append.1 h'
  intro k hk hk2
  cases i with
  | zero =>
   cases j with
   | zero=>exact hne rfl
   | succ j =>
    simp only [List.getElem?_cons_zero,Option.some.injEq] at hi
    subst hi
    exact n3 k (by simp [hk]) k (List.mem_flatMap.2 ⟨y,List.mem_of_getElem? hj,by simp [hk2]⟩) rfl
  | succ i =>
   cases j with
   | zero =>
    simp only [List.getElem?_cons_zero,Option.some.injEq] at hj
    subst hj
    exact n3 k (by simp [hk2]) k (List.mem_flatMap.2 ⟨x,List.mem_of_getElem? hi,by simp [hk]⟩) rfl
   | succ j=>exact ih n2 hi hj (fun e=>hne (by omega)) k hk hk2
def goodV:World→(Nat→Prop)→Nat→MV→Prop:=fun _ _ j y=>y=mkV j
theorem goodV_st:Stays goodV:=⟨fun h _ _=>h⟩
def OwnT (T:List SL) (b:Nat):Prop:=∃ x∈T,x.own=some b
theorem ownT_mem {T:List SL} {b:Nat} (h:OwnT T b):b∈sowns T:=by
 obtain ⟨x,hx,hb⟩:=h
 exact List.mem_flatMap.2 ⟨x,hx,by simp [hb]⟩
theorem rows_of {T:List SL} {P:SL→List MV→Prop} (h:∀ x∈T,∃ ys,P x ys):∃ C:Nat→List MV,∀ j x,T[j]?=some x→P x (C j):=by
 have h2:∀ j:Nat,∃ ys:List MV,∀ x,T[j]?=some x→P x ys:=fun j=>by
  cases hj:T[j]? with
  | none=>exact ⟨[],fun x hx=>by cases hx⟩
  | some x =>
   obtain ⟨ys,hy⟩:=h x (List.mem_of_getElem? hj)
   exact ⟨ys,fun z hz=>by cases hz; exact hy⟩
 exact ⟨fun j=>(h2 j).choose,fun j=>(h2 j).choose_spec⟩
set_option maxHeartbeats 4000000 in
theorem vowned_ok {w:World} {a:Nat} {T:List SL} {p:Option Addr} {c:Nat} {tb:Option Nat} {K:Value→World→Prop} (B:BookV w a T p c tb) (hT:T.length≤2^30)
 (hk:∀ w',Ch (OwnT T) w w'→K (.bool true) w'):callP Tryz.prog 23 [.pointer (some ⟨a,0,none⟩)] w K:=by
 apply ok_longshoreref02_Book_Owned
 unfold wp_longshoreref02_Book_Owned
 obtain ⟨na,nr⟩:=List.nodup_cons.1 B.nodup
 have hs:∀ x∈T,x.n≤2^40:=fun x hx=>(B.each x hx).choose_spec.2.2
 obtain ⟨_,nT,n3⟩:=List.nodup_append.1 nr
 have hd1:∀ (j k:Nat) (x y:SL) (b:Nat),j≠k→T[j]?=some x→T[k]?=some y→x.own=some b→y.own≠some b:=fun j k x y b hjk hx hy hb=>sown_ne nT hx hy hjk b hb
 have nA:¬ OwnT T a:=fun h=>na (List.mem_append.2 (.inr (ownT_mem h)))
 have nB:∀ k,tb=some k→¬ OwnT T k:=fun k hk h=>n3 k (by simp [hk]) k (ownT_mem h) rfl
 have hd:∀ w',Ch (OwnT T) w w'→w'.cell? ⟨a,0,none⟩=some (.slice p T.length c):=fun w' c'=>cellK ((c'.blk (blk_lt B.head) nA).trans B.head) 0 rfl
 have r1:∀ w',Ch (OwnT T) w w'→Rd w' p T.length 1 (T.flatMap SL.cells):=fun w' c'=>(B.row.ch c' nB).rd
 have x1:∀ i x,T[i]?=some x→∃ k o,p=some ⟨k,o,none⟩∧∀ w',Ch (OwnT T) w w'→w'.cell? ⟨k,o+i,none⟩=some (.slice x.p x.n x.c):=fun i x hx=>by
  obtain ⟨k,o,e,_⟩:=SL.at (r1 w (Ch.refl _ _)) hx
  refine ⟨k,o,e,fun w' c'=>?_⟩
  obtain ⟨k',o',e',h⟩:=SL.at (r1 w' c') hx
  rw [e] at e'; cases e'; exact h
 obtain ⟨C0,hC0⟩:=rows_of B.each
 have hR0:Rws MV.g 5 w T C0:=fun j x hx=>⟨(hC0 j x hx).1,(hC0 j x hx).2.1⟩
 refine ⟨fun m n w1=>∃ (i:Nat) (C:Nat→List MV),n=(i:Int)∧m+i=T.length∧Rws MV.g 5 w1 T C∧(∀ j,j<i→∀ y∈C j,y=mkV j)∧Ch (OwnT T) w w1,⟨T.length,0,C0,rfl,rfl,hR0,fun j hj=>by omega,Ch.refl _ _⟩,?_⟩
 rintro m n wA ⟨i,C,rfl,hm,hC,hmk,cA⟩
 simp only [nn_some,add_at,Nat.zero_add]
 refine ⟨p,_,c,hd wA cA,Sif_cases (fun g=>?_) fun g=>?_⟩
 ·-- the lists are written full
  have g:=of_decide_eq_true g
  obtain ⟨x,hx⟩:∃ x,T[i]?=some x:=⟨_,List.getElem?_eq_getElem (by omega)⟩
  obtain ⟨kr,orr,rfl,hrow⟩:=x1 i x hx
  have hxn:=hs x (List.mem_of_getElem? hx)
  refine ⟨_,_,c,hd wA cA,by omega,g,?_⟩
  simp only [nn_some,add_at,Int.toNat_natCast,Nat.mul_one]
  refine ⟨x.p,x.n,x.c,hrow wA cA,?_⟩
  refine ⟨fun m1 n2 w2=>∃ (k:Nat) (C:Nat→List MV),n2=(k:Int)∧m1+k=x.n∧Rws MV.g 5 w2 T C∧(∀ j,j<i→∀ y∈C j,y=mkV j)∧(∀ k' y,k'<k→(C i)[k']?=some y→y=mkV i)∧Ch (OwnT T) w w2,⟨x.n,0,C,rfl,rfl,hC,hmk,fun k' y h=>by omega,cA⟩,?_⟩
  rintro m1 n2 w2 ⟨k,C,rfl,hm1,hC,hmk,hfill,c2⟩
  refine Sif_cases (fun g2=>?_) fun g2=>?_
  ·have g2:=of_decide_eq_true g2
   refine vmark_ok (by omega) fun w3 c3=>is5 ⟨by omega,g2,?_⟩
   have hCl:=(hC i x hx).2
   obtain ⟨y,hy⟩:∃ y,(C i)[k]?=some y:=⟨_,List.getElem?_eq_getElem (by omega)⟩
   have hC3:=hC.ch c3 fun _ _ _ _=>id
   obtain ⟨kb,o,hp,hown,hst⟩:=rws_st5 hC3 hd1 hx hy (mkV i)
   rw [hp]
   simp only [nn_some,add_at,Int.toNat_natCast]
   refine hst _ fun w4 hC4 c4 z4=>?_
   rw [nameI_iff,wrap_id (n:=(k:Int)+1) (by omega) (by omega)]
   refine ⟨m1-1,by omega,k+1,_,by omega,by omega,hC4,fun j hj z hz=>?_,fun k' z hk' hz=>?_,(c2.new c3).trans c4 fun b hb e=>by rw [e]; exact ⟨x,List.mem_of_getElem? hx,hown⟩⟩
   ·rw [updC_ne _ _ _ (by omega)] at hz
    exact hmk j hj z hz
   ·rw [updC_at,List.getElem?_set] at hz
    by_cases e:k=k'
    ·rw [if_pos e,if_pos (by omega)] at hz
     exact (Option.some.inj hz).symm
    ·rw [if_neg e] at hz
     exact hfill k' z (by omega) hz
  ·have g2:=of_decide_eq_false g2
   rw [nameI_iff,wrap_id (n:=(i:Int)+1) (by omega) (by omega)]
   refine ⟨m-1,by omega,i+1,C,by omega,by omega,hC,fun j hj y hy=>?_,c2⟩
   by_cases e:j=i
   ·subst e
    obtain ⟨k',hk',e'⟩:=List.mem_iff_getElem.1 hy
    have:=(hC j x hx).2
    exact hfill k' y (by omega) (by rw [List.getElem?_eq_getElem hk',e'])
   ·exact hmk j (by omega) y hy
 have g:=of_decide_eq_false g
 have hi:i=T.length:=by omega
 subst hi
 -- the lists are grown
 have S0:Gs MV.g 5 goodV wA wA T 0 none 0 none [] (fun k=>k / 12):=Gs.begin _ (fun j x hx=>⟨C j,(hC j x hx).1,(hC j x hx).2,fun y hy=>hmk j (by have:=(List.getElem?_eq_some_iff.1 hx).1; omega) y hy⟩) hd1
 refine ⟨fun m p n c n5 w3=>∃ (i:Nat) (gb:Option Nat) (Gl:List SL),n5=(i:Int)∧m+i=T.length∧n=Gl.length∧Gs MV.g 5 goodV wA w3 T i p c gb Gl (fun k=>k / 12)∧Gl.length=12*i,⟨T.length,0,none,[],rfl,rfl,rfl,S0,rfl⟩,?_⟩
 rintro m3 pg ng cg n5 wC ⟨i,gb,Gl,rfl,hm3,rfl,SC,hGl⟩
 have cC:Ch (OwnT T) w wC:=cA.trans' SC.b.ch
 simp only [nn_some,add_at,Nat.zero_add]
 refine ⟨p,_,c,hd wC cC,Sif_cases (fun g3=>?_) fun g3=>?_⟩
 ·have g3:=of_decide_eq_true g3
  obtain ⟨x,hx⟩:∃ x,T[i]?=some x:=⟨_,List.getElem?_eq_getElem (by omega)⟩
  obtain ⟨kr,orr,rfl,hrow⟩:=x1 i x hx
  have hxn:=hs x (List.mem_of_getElem? hx)
  refine ⟨_,_,c,hd wC cC,by omega,g3,?_⟩
  simp only [nn_some,add_at,Int.toNat_natCast,Nat.mul_one]
  refine ⟨x.p,x.n,x.c,hrow _ cC,?_⟩
  obtain ⟨xs0,R0⟩:=SC.start goodV_st hx
  refine ⟨fun m pg ng cg pl nl cl n10 w4=>∃ (k:Nat) (cur:SL) (xs:List MV) (gb:Option Nat) (Gl:List SL),n10=(k:Int)∧m+k=12∧pl=cur.p∧nl=cur.n∧cl=cur.c∧ng=Gl.length∧Gr MV.g 5 goodV wA w4 T i cur xs pg cg gb Gl (fun k=>k / 12)∧Gl.length=12*i+k∧cur.n≤x.n+k,
   ⟨12,0,x,xs0,gb,Gl,rfl,rfl,rfl,rfl,rfl,rfl,R0,by omega,by omega⟩,?_⟩
  rintro m4 pg ng cg pl nl cl n10 w4 ⟨k,cur,xs,gb,Gl,rfl,hm4,rfl,rfl,rfl,rfl,R4,hGl4,hcur⟩
  refine Sif_cases (fun g4=>?_) fun g4=>?_
  ·have g4:=of_decide_eq_true g4
   refine vmark_ok (by omega) fun w5 c5=>is5 ?_
   rw [gg]
   refine (R4.ch goodV_st c5).push uVals iVal (by rfl) goodV_st MV.glen MV.gone (by decide) (mkV i) (fun _ _ _ _=>rfl) (by omega) (by omega) fun cur' w7 R7 hn7=>?_
   refine R7.keep uLists iLists (by rfl) goodV_st (by show Gl.length / 12=i; omega) (by omega) (by omega) (by omega) fun gp' gc' gb' w9 R9=>?_
   rw [nameI_iff,wrap_id (n:=(k:Int)+1) (by omega) (by omega)]
   exact ⟨m4-1,by omega,k+1,cur',_,gb',Gl++[cur'],by omega,by omega,rfl,rfl,rfl,by simp,R9,by simp; omega,by omega⟩
  ·have g4:=of_decide_eq_false g4
   rw [nameI_iff,wrap_id (n:=(i:Int)+1) (by omega) (by omega)]
   exact ⟨m3-1,by omega,i+1,gb,Gl,by omega,by omega,rfl,R4.stop goodV_st MV.glen,by omega⟩
 have g3:=of_decide_eq_false g3
 have hi:i=T.length:=by omega
 subst hi
 -- each list reads as its owner wrote it
 have hG1:Rd wC pg Gl.length 1 (Gl.flatMap SL.cells):=SC.b.grown.rd
 refine ⟨fun m n9 w5=>∃ i:Nat,n9=(i:Int)∧m+i=T.length∧w5=wC,⟨T.length,0,rfl,rfl,rfl⟩,?_⟩
 rintro m6 n9 wE ⟨i,rfl,hm6,rfl⟩
 simp only [nn_some,add_at,Nat.zero_add]
 refine ⟨p,_,c,hd _ cC,Sif_cases (fun g5=>?_) fun g5=>?_⟩
 ·have g5:=of_decide_eq_true g5
  obtain ⟨x,hx⟩:∃ x,T[i]?=some x:=⟨_,List.getElem?_eq_getElem (by omega)⟩
  obtain ⟨kr,orr,rfl,hrow⟩:=x1 i x hx
  have hxn:=hs x (List.mem_of_getElem? hx)
  refine ⟨_,_,c,hd _ cC,by omega,g5,?_⟩
  simp only [nn_some,add_at,Int.toNat_natCast,Nat.mul_one]
  refine ⟨x.p,x.n,x.c,hrow _ cC,?_⟩
  obtain ⟨ys,q1,q2,q3,_⟩:=SC.own i x (by omega) hx
  refine vmarked_ok q1 q2 (by omega) (by omega) q3 ⟨_,rfl,Sif_false ?_⟩
  rw [nameI_iff,wrap_id (n:=(i:Int)+1) (by omega) (by omega)]
  exact ⟨m6-1,by omega,i+1,by omega,by omega,rfl⟩
 refine ⟨fun m n9 w5=>∃ i:Nat,n9=(i:Int)∧m+i=Gl.length∧w5=wE,⟨Gl.length,0,rfl,rfl,rfl⟩,?_⟩
 rintro m7 n10 wF ⟨k,rfl,hm7,rfl⟩
 refine Sif_cases (fun g6=>?_) fun g6=>hk _ cC
 have g6:=of_decide_eq_true g6
 obtain ⟨x,hx⟩:∃ x,Gl[k]?=some x:=⟨_,List.getElem?_eq_getElem (by omega)⟩
 obtain ⟨ys,q1,q2,q3,_⟩:=SC.read k x hx
 have hsm:=SC.b.small k x hx
 obtain ⟨kg,og,rfl,hcell⟩:=SL.at hG1 hx
 refine ⟨by omega,g6,?_⟩
 simp only [nn_some,add_at,Int.toNat_natCast,Nat.mul_one]
 refine ⟨x.p,x.n,x.c,hcell,by decide,?_⟩
 have htd:IntKind.wrap .i64 (Int.tdiv (k:Int) 12)=((k / 12:Nat):Int):=by
  rw [Int.tdiv_eq_ediv_of_nonneg (by omega),wrap_id (by omega) (by omega)]
  omega
 rw [htd]
 refine vmarked_ok q1 q2 (by omega) (by omega) q3 ⟨_,rfl,Sif_false ?_⟩
 rw [nameI_iff,wrap_id (n:=(k:Int)+1) (by omega) (by omega)]
 exact ⟨m7-1,by omega,k+1,by omega,by omega,rfl⟩
end Go.Proofs.YtnacobknngidkaaGreatDoor
namespace Go.Proofs.YtnacobknngidkaaGreatDoor
open Go Go.Sv Go.Note Go.RowKit
set_option linter.unusedVariables false
attribute [local irreducible] Sif
set_option maxRecDepth 4000
theorem rread_ok {s:ByteArray} (hs:s.size≤2^40):∀ d,d≤32→ROK s d
 | 0,h=>rread_core hs 0 h fun e he=>by omega
 | d+1,h=>rread_core hs (d+1) h fun e he=>by
  obtain rfl:e=d:=by omega
  intro f w K h1 h2
  exact rread_ok hs e (by omega) h1 h2
theorem rParse_ok {s:ByteArray} (hs:s.size≤2^40) {w:World} {K:Value→World→Prop}
 (hk:∀ x w',x.m=(parseR s.data.toList).1→VO w' x→(∀ k∈x.B,w.heap.size≤k)→Ch (fun _=>False) w w'→K (.tuple #[x.v,.int .i64 ((parseR s.data.toList).2.1:Int),.int .i64 ((parseR s.data.toList).2.2:Int)]) w') :
 callP Tryz.prog 20 [.string s] w K:=by
 apply ok_longshoreref04_Parse
 unfold wp_longshoreref04_Parse
 have hsl:=sl s
 obtain ⟨l,hl⟩:∃ l,l=s.data.toList:=⟨_,rfl⟩
 rw [← hl] at hk hsl
 refine newB_blk fun w1 b1 c1 z1=>?_
 have bad:∀ {a e:Nat},parseB l=.bad a e→∀ {w2:World},Ch (fun _=>False) w1 w2→∀ K2:World→Prop,(∀ w3,blk w3 w.heap.size=some (one 0 0 []).g→Ch (·=w.heap.size) w2 w3→K2 w3)→Sv.st w2 ⟨w.heap.size,0,none⟩ (.int .i64 0) fun w1=>Sv.st w1 ⟨w.heap.size,1,none⟩ (.int .u64 0) fun w2=>Sv.st w2 ⟨w.heap.size,2,none⟩ (.string ⟨#[]⟩) fun w3=>Sv.st w3 ⟨w.heap.size,3,none⟩ (.slice none 0 0) fun w4=>Sv.st w4 ⟨w.heap.size,4,none⟩ (.int .i64 0) fun w5=>K2 w5:=fun hb w2 c2 K2 h2 =>
  st5 (x:=one 0 0 []) ((c2.blk (blk_lt b1) id).trans b1) rfl fun w3 b3 c3 z3=>h2 w3 b3 c3
 have ret:∀ {w3:World} {x:MV} (a e:Int),blk w3 w.heap.size=some x.g→K (.tuple #[x.v,.int .i64 a,.int .i64 e]) w3→∃ n,w3.cell? ⟨w.heap.size,0,none⟩=some (.int .i64 n)∧∃ n1,w3.cell? ⟨w.heap.size,1,none⟩=some (.int .u64 n1)∧∃ s,w3.cell? ⟨w.heap.size,2,none⟩=some (.string s)∧∃ p n2 c,w3.cell? ⟨w.heap.size,3,none⟩=some (.slice p n2 c)∧∃ n3,w3.cell? ⟨w.heap.size,4,none⟩=some (.int .i64 n3) ∧
  K (.tuple (Array.mk [.agg (Array.mk [.int .i64 n,.int .u64 n1,.string s,.slice p n2 c,.int .i64 n3]),.int .i64 a,.int .i64 e])) w3:=fun a e hb hK=>ld5 (K:=fun v w=>K (.tuple (Array.mk [v,.int .i64 a,.int .i64 e])) w) hb hK
 have fin:∀ {a e:Nat},parseB l=.bad a e→∀ {w3:World},Ch (fun _=>False) w w3→K (.tuple #[(one 0 0 []).v,.int .i64 (a:Int),.int .i64 (e:Int)]) w3:=fun {a e} hb w3 c3=>by
  have:=hk (one 0 0 []) w3
  rw [parse_bad hb] at this
  exact this (one_m ..) (one_ok ..) (by rw [one_B]; simp) c3
 refine Sif_cases (fun h=>?_) (fun h=>?_)
 ·have h:=of_decide_eq_true h
  have hb:parseB l=.bad 0 2:=by unfold parseB; rw [if_pos (by omega)]
  simp only [add_at,Nat.zero_add]
  exact bad hb (Ch.refl _ _) _ fun w3 b3 c3=>ret 0 2 b3 (fin hb (c1.trans c3 fun x hx e=>by omega))
 have h:=of_decide_eq_false h
 have hpb:parseB l=match rdM l 32 0 with
  | .bad a e=>.bad a e
  | .ok m a=>if (next l a).kind≠0 then amiss (next l a) 44 else .ok m 0:=by
  unfold parseB
  rw [if_neg (by omega)]
  rfl
 refine rread_ok hs 32 (Nat.le_refl _) (f:=0) (Nat.zero_le _) fun v w2 hv c2=>?_
 rw [← hl] at hv
 have c12:=c1.trans' c2
 have hz1:=c1.size
 cases hrd:rdM l 32 0 with
 | bad a e =>
  rw [hrd] at hv hpb
  simp only at hpb
  obtain ⟨rfl,he0⟩:=hv
  refine tup7 (nb7 rfl fun w10 b10 c10 z10=>?_)
  simp only [add_at,Nat.zero_add]
  refine ⟨_,cellK b10 6 rfl,?_⟩
  rw [ne0]
  refine Sif_true_of (decide_eq_true he0) ?_
  have cd:Ch (fun _=>False) w10 w10.drew:=Ch.d0
  have bd:=(cd.blk (blk_lt b10) id).trans b10
  refine ⟨_,cellK bd 5 rfl,_,cellK bd 6 rfl,?_⟩
  refine bad hpb ((c2.trans' c10).trans' cd) _ fun w3 b3 c3=>?_
  have hlt:=blk_lt b10
  have bd3:=(c3.blk (blk_lt bd) (by have:=c2.size; have:=blk_lt b1; omega)).trans bd
  refine ⟨⟨_,cellK bd3 6 rfl,rfl⟩,⟨_,cellK bd3 5 rfl,rfl⟩,?_⟩
  exact ret _ _ b3 (fin hpb (((c12.trans' c10).trans' cd).trans c3 fun x hx e=>by omega))
 | ok m a =>
  rw [hrd] at hv hpb
  simp only at hpb
  obtain ⟨x,rfl,hxm,hvo,hxb⟩:=hv
  have hgo:=rdM_goes l 32 0 m a (Nat.zero_le _) hrd
  refine tup7 (nb7 rfl fun w10 b10 c10 z10=>?_)
  simp only [add_at,Nat.zero_add]
  refine ⟨_,cellK b10 6 rfl,Sif_false ⟨_,cellK b10 5 rfl,?_⟩⟩
  refine rnext_ok hs (by omega) fun w11 c11=>?_
  rw [← hl]
  obtain ⟨t,ht⟩:∃ t,t=next l a:=⟨_,rfl⟩
  rw [← ht] at hpb ⊢
  refine tup4 (nb4 rfl fun w16 b16 c16 z16=>?_)
  simp only [add_at,Nat.zero_add]
  have c1016:=c11.trans' c16
  have b1016:=(c1016.blk (blk_lt b10) id).trans b10
  have c216:Ch (fun _=>False) w2 w16:=c10.trans' c1016
  have hl1:=blk_lt b1
  have hl10:=blk_lt b10
  have hz2:=c2.size
  have hz11:=c11.size
  refine ⟨_,cellK b16 0 rfl,?_⟩
  rw [ne0]
  refine Sif_cases (fun hk0=>?_) (fun hk0=>?_)
  ·rw [if_pos (of_decide_eq_true hk0)] at hpb
   refine ⟨_,cellK b16 0 rfl,_,cellK b16 1 rfl,_,cellK b16 2 rfl,_,cellK b16 3 rfl,?_⟩
   refine ramiss_ok (t:=t) (e:=44) (by decide) fun w17 c17=>?_
   refine tup7 (nb7 rfl fun w25 b25 c25 z25=>?_)
   simp only [add_at,Nat.zero_add]
   have cd:Ch (fun _=>False) w25 w25.drew:=Ch.d0
   have bd:=(cd.blk (blk_lt b25) id).trans b25
   refine ⟨_,cellK bd 5 rfl,_,cellK bd 6 rfl,?_⟩
   have hpb2:parseB l=.bad t.beg (if t.kind=5 then 42 else 44):=by rw [hpb]; rfl
   refine bad hpb2 ((((c2.trans' c216).trans' c17).trans' c25).trans' cd) _ fun w3 b3 c3=>?_
   have hlt:=blk_lt b25
   have bd3:=(c3.blk (blk_lt bd) (by have:=c17.size; have:=c16.size; omega)).trans bd
   refine ⟨⟨_,cellK bd3 6 rfl,rfl⟩,⟨_,cellK bd3 5 rfl,rfl⟩,?_⟩
   exact ret _ _ b3 (fin hpb2 (((((c12.trans' c216).trans' c17).trans' c25).trans' cd).trans c3 fun x hx e=>by omega))
  ·rw [if_neg (of_decide_eq_false hk0)] at hpb
   refine ⟨_,cellK b1016 0 rfl,_,cellK b1016 1 rfl,_,cellK b1016 2 rfl,_,_,_,cellK b1016 3 rfl,_,cellK b1016 4 rfl,?_⟩
   have c116:=c2.trans' c216
   have b116:=(c116.blk (blk_lt b1) id).trans b1
   refine st5 (x:=x) b116 rfl fun w21 b21 c21 z21=>?_
   refine ret 0 0 b21 ?_
   have hpr:parseR l=(m,0,0):=parse_of hpb
   have:=hk x w21
   rw [hpr] at this
   exact this hxm (VO.ch c21 x (VO.ch c216 x hvo fun _ _ h=>h) fun k hk2 e=>by have:=hxb k hk2; omega) (fun k hk2=>by have:=hxb k hk2; omega) ((c1.trans' c116).trans c21 fun x hx e=>by omega)
end Go.Proofs.YtnacobknngidkaaGreatDoor
namespace Go.Proofs.YtnacobknngidkaaGreatDoor
open Go Go.Sv Go.Note Go.RowKit
set_option linter.unusedVariables false
attribute [local irreducible] Sif
set_option maxRecDepth 4000
theorem parseR_sz (s:Bs):(parseR s).1.sz≤2^21:=by
 unfold parseR
 cases h:parseB s with
 | bad a e=>rw [M.sz_mk]; simp
 | ok m a =>
  have:=parse_good h
  show m.sz≤_
  omega
theorem parses_law {s:ByteArray} {w:World} (hL:LW w) (hs:s.size≤2^40) {K:Value→World→Prop} (hk:∀ w',Ch (fun _=>False) w w'→K (.bool true) w') :
 callP Tryz.prog 5 [.string s] w K:=by
 apply ok_longshorelaw04_NoteParses
 unfold wp_longshorelaw04_NoteParses
 refine live_ok hL fun w1 c1=>⟨_,rfl,?_⟩
 have hsz:=parseR_sz s.data.toList
 refine Parse_ok hs (hL.ch0 c1) fun x w2 hxm hxo hxb c2=>tupV (nbx rfl fun w8 b8 c8 z8=>?_)
 refine rParse_ok hs fun y w9 hym hyo hyb c9=>tupV (nbx rfl fun w15 b15 c15 z15=>?_)
 have c89:=c9.trans' c15
 have b815:=(c89.blk (blk_lt b8) id).trans b8
 have c215:=c8.trans' c89
 have hx15:VO w15 x:=VO.ch c215 x hxo fun _ _ h=>h
 have hy15:VO w15 y:=VO.ch c15 y hyo fun _ _ h=>h
 refine ldK b815 (ldK b15 ?_)
 rw [vv,vv]
 have hxy:x.m=y.m:=by rw [hxm,hym]
 refine rEqual_ok _ _ hx15.vr' hy15.vr' fun w16 c16=>⟨_,rfl,?_⟩
 have hL16:LW w16:=(((hL.ch0 c1).ch0 c2).ch0 c215).ch0 c16
 refine Parse_ok hs hL16 fun x2 w17 hx2m hx2o hx2b c17=>tupV (nbx rfl fun w23 b23 c23 z23=>?_)
 have c1523:=c16.trans' (c17.trans' c23)
 have b1523:=(c1523.blk (blk_lt b15) id).trans b15
 have b823:=(c1523.blk (blk_lt b815) id).trans b815
 have hx23:VO w23 x:=VO.ch c1523 x hx15 fun _ _ h=>h
 have hy23:VO w23 y:=VO.ch c1523 y hy15 fun _ _ h=>h
 have h223:VO w23 x2:=VO.ch c23 x2 hx2o fun _ _ h=>h
 refine ldK b23 (ldK b1523 ?_)
 rw [vv,vv]
 have hx2y:x2.m=y.m:=by rw [hx2m,hym]
 refine rEqual_ok _ _ h223.vr' hy23.vr' fun w24 c24=>⟨_,rfl,?_⟩
 refine ⟨fun w25=>w25=w24,?_,?_⟩
 rotate_left
 ·rw [decide_eq_true hxy,decide_eq_true hx2y]
  simp only [Bool.not_true,Bool.not_false,bne_self_eq_false]
  exact Sif_true (Sif_true (Sif_true (Sif_true (Sif_true (Sif_true (Sif_false (by trivial)))))))
 rintro w25 rfl
 have b825:=(c24.blk (blk_lt b823) id).trans b823
 have b1525:=(c24.blk (blk_lt b1523) id).trans b1523
 have b2325:=(c24.blk (blk_lt b23) id).trans b23
 have hx25:VO w25 x:=VO.ch c24 x hx23 fun _ _ h=>h
 have hy25:VO w25 y:=VO.ch c24 y hy23 fun _ _ h=>h
 have h225:VO w25 x2:=VO.ch c24 x2 h223 fun _ _ h=>h
 have hL25:LW w25:=((hL16.ch0 c17).ch0 c23).ch0 c24
 refine newB_blk fun w26 b26 c26 z26=>?_
 have hz1:=c1.size
 have hz2:=c2.size
 have hz8:=c8.size
 have hz9:=c9.size
 have hz15:=c15.size
 have hz16:=c16.size
 have hz17:=c17.size
 have hz23:=c23.size
 have hz24:=c24.size
 have hLs:=hL.size
 have hxl:=VO.lt x hxo
 have hyl:=VO.lt y hyo
 have h2l:=VO.lt x2 hx2o
 have l8:=blk_lt b8
 have l15:=blk_lt b15
 have l23:=blk_lt b23
 refine ldK ((c26.blk (blk_lt b825) id).trans b825) ?_
 rw [vv]
 refine take_ok x (bookV_new b26) (VO.ch c26 x hx25 fun _ _ h=>h) (fun k hk2=>?_) (by rw [hxm]; simp; omega) fun p27 c27 tb27 w27 B27 ch27 n27=>⟨rfl,?_⟩
 ·have:=hxl k hk2
  simp [sowns]; omega
 have S27:∀ k,k<w25.heap.size→¬ (k=w25.heap.size∨(none:Option Nat)=some k):=fun k hk2 h=>by
  rcases h with h | h
  ·omega
  ·cases h
 have b2327:=(ch27.blk (by have:=blk_lt b2325; omega) (S27 _ (blk_lt b2325))).trans ((c26.blk (blk_lt b2325) id).trans b2325)
 refine ldK b2327 ?_
 rw [vv]
 have h227:VO w27 x2:=VO.ch ch27 x2 (VO.ch c26 x2 h225 fun _ _ h=>h) fun k hk2=>S27 k (VO.lt x2 h225 k hk2)
 have n27':∀ k,tb27=some k→w26.heap.size≤k:=fun k hk2=>(n27 k hk2).resolve_left (by simp)
 refine take_ok x2 B27 h227 (fun k hk2 h=>?_) (by rw [hx2m]; have:=T_len x; rw [hxm] at this; simp only [List.nil_append]; omega) fun p28 c28 tb28 w28 B28 ch28 n28=>⟨rfl,?_⟩
 ·have h1:=hx2b k hk2
  have h2:=h2l k hk2
  simp only [List.mem_cons,List.mem_append,List.nil_append,Option.mem_toList] at h
  rcases h with h | h | h
  ·omega
  ·have:=n27' k h; omega
  ·have:=hxl k ((T_owns x).mem_iff.1 h); omega
 have S28:∀ k,k<w25.heap.size→¬ (k=w25.heap.size∨tb27=some k):=fun k hk2 h=>by
  rcases h with h | h
  ·omega
  ·have:=n27' k h; omega
 have hlen:([]++x.T++x2.T).length≤2^30:=by
  have h1:=T_len x
  have h2:=T_len x2
  rw [hxm] at h1
  rw [hx2m] at h2
  simp only [List.nil_append,List.length_append]; omega
 refine vowned_ok B28 hlen fun w29 c29=>⟨_,rfl,?_⟩
 have own29:∀ k,OwnT ([]++x.T++x2.T) k→k∈x.B∨k∈x2.B:=fun k h=>by
  have h:=ownT_mem h
  rw [List.nil_append,sowns_append] at h
  rcases List.mem_append.1 h with h | h
  ·exact .inl ((T_owns x).mem_iff.1 h)
  ·exact .inr ((T_owns x2).mem_iff.1 h)
 have hz26:=c26.size
 have hz27:=ch27.size
 have hz28:=ch28.size
 have hz29:=c29.size
 have hL29:LW w29:=by
  refine (((hL25.ch0 c26).ch ch27 fun b hb=>S27 b ?_).ch ch28 fun b hb=>S28 b ?_).ch c29 fun b hb h=>?_
  ·omega
  ·omega
  ·rcases own29 b h with h | h
   ·have:=hxb b h; omega
   ·have:=hx2b b h; omega
 have hy29:VO w29 y:=by
  refine VO.ch c29 y (VO.ch ch28 y (VO.ch ch27 y (VO.ch c26 y hy25 fun _ _ h=>h) fun k hk2=>S27 k (VO.lt y hy25 k hk2)) fun k hk2=>S28 k (VO.lt y hy25 k hk2)) fun k hk2 h=>?_
  have h1:=hyb k hk2
  have h2:=hyl k hk2
  rcases own29 k h with h | h
  ·have:=hxl k h; omega
  ·have:=hx2b k h; omega
 have b1529:blk w29 w9.heap.size=some y.g:=by
  have h0:=(c26.blk (blk_lt b1525) id).trans b1525
  have h1:=(ch27.blk (blk_lt h0) (S27 _ (blk_lt b1525))).trans h0
  have h2:=(ch28.blk (blk_lt h1) (S28 _ (blk_lt b1525))).trans h1
  refine (c29.blk (blk_lt h2) fun h=>?_).trans h2
  rcases own29 _ h with h | h
  ·have:=hxl _ h; omega
  ·have:=hx2b _ h; omega
 refine Parse_ok hs hL29 fun x3 w30 hx3m hx3o hx3b c30=>tupV (nbx rfl fun w36 b36 c36 z36=>?_)
 have c2936:=c30.trans' c36
 refine ldK b36 (ldK ((c2936.blk (blk_lt b1529) id).trans b1529) ?_)
 rw [vv,vv]
 refine rEqual_ok _ _ (VO.ch c36 x3 hx3o fun _ _ h=>h).vr' (VO.ch c2936 y hy29 fun _ _ h=>h).vr' fun w37 c37=>⟨_,rfl,?_⟩
 rw [decide_eq_true (show x3.m=y.m by rw [hx3m,hym])]
 refine Sif_true (Sif_true ?_)
 rw [beq_self_eq_true]
 refine hk w37 ((((((c1.trans' (c2.trans' (c215.trans' (c1523.trans' (c24.trans' c26))))).trans ch27 fun b hb h=>S27 b (by omega) h).trans ch28 fun b hb h=>S28 b (by omega) h).trans c29 fun b hb h=>?_).trans' c2936).trans' c37)
 rcases own29 b h with h | h
 ·have:=hxb b h; omega
 ·have:=hx2b b h; omega
end Go.Proofs.YtnacobknngidkaaGreatDoor
namespace Go.Sv
open Go Go.ChangeShapes Go.WideShapes Go.ChangeAt Go.RowKit
set_option linter.unusedVariables false
def Inp (P:Program) (w:World) (ok:Nat→Nat→Prop):Nat→TypeId→List Value→Prop
 | 0,_,_=>False
 | n+1,t,cs =>
  match P.underlying t with
  | some .bool=>∃ b:Bool,cs=[.bool b]
  | some (.int k)=>∃ i:Int,cs=[.int k i]∧(Lit.int k i).wf=true
  | some .string=>∃ s:ByteArray,cs=[.string s]∧ok s.size 1
  | some (.slice e)=>∃ (p:Option Addr) (L:List (List Value)) (c:Nat),cs=[.slice p L.length c]∧L.length≤c∧ok c (P.bytesOf e)∧Rd w p L.length (P.cellsOf e) L.flatten∧∀ x∈L,Inp P w ok n e x
  | some (.struct fs)=>cs.length=P.cellsOf t∧∀ f∈fs.toList,Inp P w ok n f.type ((cs.drop f.offset).take (P.cellsOf f.type))
  | _=>True
section
variable {P:Program} {w:World} {ok:Nat→Nat→Prop} {n:Nat} {t:TypeId} {cs:List Value}
theorem Inp.bool (h:Inp P w ok n t cs) (ht:P.underlying t=some .bool):∃ b:Bool,cs=[.bool b]:=by
 cases n with
 | zero=>exact h.elim
 | succ n=>unfold Inp at h; rw [ht] at h; exact h
theorem Inp.int {k:IntKind} (h:Inp P w ok n t cs) (ht:P.underlying t=some (.int k)):∃ i:Int,cs=[.int k i]∧(Lit.int k i).wf=true:=by
 cases n with
 | zero=>exact h.elim
 | succ n=>unfold Inp at h; rw [ht] at h; exact h
theorem Inp.str (h:Inp P w ok n t cs) (ht:P.underlying t=some .string):∃ s:ByteArray,cs=[.string s]∧ok s.size 1:=by
 cases n with
 | zero=>exact h.elim
 | succ n=>unfold Inp at h; rw [ht] at h; exact h
theorem Inp.slice {e:TypeId} (h:Inp P w ok n t cs) (ht:P.underlying t=some (.slice e)) :
 ∃ (p:Option Addr) (L:List (List Value)) (c:Nat),cs=[.slice p L.length c]∧L.length≤c∧ok c (P.bytesOf e)∧Rd w p L.length (P.cellsOf e) L.flatten∧∀ x∈L,∃ n,Inp P w ok n e x:=by
 cases n with
 | zero=>exact h.elim
 | succ n =>
  unfold Inp at h; rw [ht] at h
  obtain ⟨p,L,c,h1,h2,h3,h4,h5⟩:=h
  exact ⟨p,L,c,h1,h2,h3,h4,fun x hx=>⟨n,h5 x hx⟩⟩
theorem Inp.struct {fs:Array Field} (h:Inp P w ok n t cs) (ht:P.underlying t=some (.struct fs)):cs.length=P.cellsOf t∧∀ f∈fs.toList,∃ n,Inp P w ok n f.type ((cs.drop f.offset).take (P.cellsOf f.type)):=by
 cases n with
 | zero=>exact h.elim
 | succ n =>
  unfold Inp at h; rw [ht] at h
  exact ⟨h.1,fun f hf=>⟨n,h.2 f hf⟩⟩
end
def oneCells (P:Program):Nat→List Field→Bool
 | _,[]=>true
 | i,f::r=>f.offset == i && P.cellsOf f.type == 1 && oneCells P (i+1) r
def InpEach (P:Program) (w:World) (ok:Nat→Nat→Prop):List TypeId→List Value→Prop
 | [],[]=>True
 | t::ts,c::cs=>(∃ n,Inp P w ok n t [c])∧InpEach P w ok ts cs
 | _,_=>False
theorem Inp.fields {P:Program} {w:World} {ok:Nat→Nat→Prop} {n:Nat} {t:TypeId} {cs:List Value} {fs:Array Field} (h:Inp P w ok n t cs) (ht:P.underlying t=some (.struct fs)) (hone:oneCells P 0 fs.toList=true)
 (hn:P.cellsOf t=fs.toList.length):InpEach P w ok (fs.toList.map (·.type)) cs:=by
 obtain ⟨h1,h2⟩:=h.struct ht
 have go:∀ (l:List Field) (i:Nat),oneCells P i l=true→cs.length=i+l.length→(∀ f∈l,∃ n,Inp P w ok n f.type ((cs.drop f.offset).take (P.cellsOf f.type)))→InpEach P w ok (l.map (·.type)) (cs.drop i):=by
  intro l
  induction l with
  | nil=>intro i _ hl _; rw [List.drop_of_length_le (by simp at hl; omega)]; trivial
  | cons f r ih =>
   intro i ho hl hi
   simp only [oneCells,Bool.and_eq_true,beq_iff_eq] at ho
   obtain ⟨⟨h3,h4⟩,h5⟩:=ho
   simp only [List.length_cons] at hl
   have h6:=hi f (List.mem_cons_self ..)
   rw [h3,h4,List.drop_eq_getElem_cons (by omega)] at h6
   rw [List.drop_eq_getElem_cons (by omega)]
   exact ⟨h6,ih (i+1) h5 (by omega) fun g hg=>hi g (List.mem_cons_of_mem _ hg)⟩
 exact go fs.toList 0 hone (by omega) h2
theorem cell_at {w:World} {b j:Nat} {v:Value} (h:w.cell? ⟨b,j,none⟩=some v):∃ cs,cellsAt w b=some cs∧cs[j]?=some v:=by
 unfold World.cell? at h
 unfold cellsAt
 simp only at h
 split at h
 ·rename_i c t fz hh
  exact ⟨c.toList,by rw [hh],by simpa using h⟩
 ·cases h
theorem rd_of_cells {w:World} {a:Addr} {n sz:Nat} {xs:List Value} (hl:xs.length=n*sz) (hc:∀ i,i<n*sz→w.cell? (a.add i)=xs[i]?):Rd w (some a) n sz xs:=by
 refine ⟨hl,?_⟩
 by_cases h0:n*sz=0
 ·exact .inl h0
 ·have h1:=hc 0 (by omega)
  rw [List.getElem?_eq_getElem (by omega)] at h1
  have hs:=World.cell?_spot h1
  obtain ⟨b,o,sp⟩:=a
  have hsp:sp=none:=by
   unfold Addr.add at hs
   split at hs<;>simp_all
  subst hsp
  simp only [add_at] at hc h1
  obtain ⟨cs,hcs,_⟩:=cell_at h1
  right
  have hat:∀ i,i<n*sz→cs[o+i]?=xs[i]?:=fun i hi=>by
   rw [← cell_of hcs,hc i hi]
  have hlast:=hat (n*sz-1) (by omega)
  rw [List.getElem?_eq_getElem (by omega:n*sz-1<xs.length)] at hlast
  have hlt:=(List.getElem?_eq_some_iff.1 hlast).1
  refine ⟨b,o,cs,rfl,hcs,by omega,?_⟩
  apply List.ext_getElem?
  intro i
  rw [List.getElem?_take]
  split
  ·rename_i hi; rw [List.getElem?_drop,hat i hi]
  ·rw [List.getElem?_eq_none (by omega)]
section
variable {H:Type} {enc:TypeId × Value→H} {P:Program} {w:World}
theorem flatten_get {sz:Nat} (L:List (List Value)) (h:∀ x∈L,x.length=sz) (i j:Nat) (hj:j<sz):L.flatten[i*sz+j]?=L[i]?.bind fun x=>x[j]?:=by
 induction L generalizing i with
 | nil=>simp
 | cons x L ih =>
  have hx:x.length=sz:=h x (by simp)
  rw [List.flatten_cons]
  cases i with
  | zero=>rw [Nat.zero_mul,Nat.zero_add,List.getElem?_append_left (by omega)]; simp
  | succ i =>
   rw [List.getElem?_append_right (by rw [hx,Nat.add_mul]; omega),hx,show (i+1)*sz+j-sz=i*sz+j by rw [Nat.add_mul]; omega,ih (fun y hy=>h y (by simp [hy])) i]; simp
theorem flatten_len {sz:Nat} (L:List (List Value)) (h:∀ x∈L,x.length=sz):L.flatten.length=L.length*sz:=by
 induction L with
 | nil=>simp
 | cons x L ih=>rw [List.flatten_cons,List.length_append,h x (by simp),ih fun y hy=>h y (by simp [hy]),List.length_cons,Nat.add_mul]; omega
structure Measure (P:Program) (H:Type) where
 ok:Nat→Nat→Prop
 good:TypeId→DataW H→Prop
 str:∀ {t:TypeId} {l:List UInt8},good t (.lit (.string l))→ok l.length 1
 nil:∀ e,ok 0 (P.bytesOf e)
 slice:∀ {t e:TypeId} {a b:List (DataW H)},P.underlying t=some (.slice e)→good t (.slice a b)→ok (a.length+b.length) (P.bytesOf e)∧∀ d∈a,good e d
 agg:∀ {t:TypeId} {fs:Array Field} {l:List (DataW H)},P.underlying t=some (.struct fs)→good t (.agg l)→∀ (j:Nat) (f:Field) (d:DataW H),fs[j]?=some f→l[j]?=some d→good f.type d
theorem inp_of_trod (M:Measure P H) (base:Nat):∀ (fuel:Nat) (t:TypeId) (cs:List Value) (x:DataW H × List MemPlace),DataW.trod enc P w base (fun _=>true) true fuel t cs=some x→M.good t x.1→∃ n,Inp P w M.ok n t cs:=by
 have mono:∀ (a b:Nat) (t:TypeId) (cs:List Value),a≤b→Inp P w M.ok a t cs→Inp P w M.ok b t cs:=by
  intro a
  induction a with
  | zero=>intro b t cs _ h; exact h.elim
  | succ a ih =>
   intro b t cs hab h
   obtain ⟨b,rfl⟩:∃ c,b=c+1:=⟨b-1,by omega⟩
   unfold Inp at h ⊢
   split at h
   ·exact h
   ·exact h
   ·exact h
   ·obtain ⟨p,L,c,h1,h2,h3,h4,h5⟩:=h
    exact ⟨p,L,c,h1,h2,h3,h4,fun x hx=>ih b _ _ (by omega) (h5 x hx)⟩
   ·exact ⟨h.1,fun f hf=>ih b _ _ (by omega) (h.2 f hf)⟩
   ·trivial
 intro fuel
 induction fuel with
 | zero=>intro t cs x h; simp [DataW.trod] at h
 | succ fuel ih =>
  intro t cs x h hg
  cases ht:P.underlying t with
  | none=>exact ⟨1,by unfold Inp; rw [ht]; trivial⟩
  | some td =>
   cases td with
   | bool =>
    obtain ⟨b,rfl,_⟩:=DataW.trod_bool ht h
    exact ⟨1,by unfold Inp; rw [ht]; exact ⟨b,rfl⟩⟩
   | int k =>
    obtain ⟨i,rfl,_,hw⟩:=DataW.trod_int ht h
    exact ⟨1,by unfold Inp; rw [ht]; exact ⟨i,rfl,hw⟩⟩
   | string =>
    obtain ⟨s,rfl,rfl,_⟩:=DataW.trod_string ht h
    exact ⟨1,by unfold Inp; rw [ht]; exact ⟨s,rfl,by simpa using M.str hg⟩⟩
   | slice e =>
    rcases DataW.trod_slice ht h with ⟨rfl,_⟩ | ⟨a,len,cap,elems,rest,m,hm,rfl,rfl,hb,hl,hmx,hlen,hel,hsp,hns⟩
    ·exact ⟨1,by unfold Inp; rw [ht]; exact ⟨none,[],0,rfl,Nat.le_refl _,M.nil e,⟨by simp,.inl (by simp)⟩,by simp⟩⟩
    ·obtain ⟨hk,hge⟩:=M.slice ht hg
     obtain rfl:fuel=m:=by omega
     have hrest:=(hsp rfl).1
     have hcap:elems.length+rest.length=cap:=by omega
     have each:∀ i,i<len→∃ cs',w.cells? base (a.add (i*P.cellsOf e)) (P.cellsOf e)=some cs'∧∃ n,Inp P w M.ok n e cs':=fun i hi=>by
      have h1:=hel i hi
      have h2:elems[i]?=some (elems[i]'(by omega)):=List.getElem?_eq_getElem (by omega)
      rw [h2] at h1
      cases hc:w.cells? base (a.add (i*P.cellsOf e)) (P.cellsOf e) with
      | none=>rw [hc] at h1; cases h1
      | some cs' =>
       rw [hc] at h1
       exact ⟨cs',rfl,ih e cs' _ h1 (hge _ (List.mem_map.2 ⟨_,List.mem_of_getElem? h2,rfl⟩))⟩
     obtain ⟨F,hF⟩:=Deep.choose_lt each
     obtain ⟨N,hN⟩:=Deep.fuel_lt (n:=len) (q:=fun i n=>Inp P w M.ok n e (F i)) (fun i a b hab h=>mono a b _ _ hab h) (fun i hi=>(hF i hi).2)
     have hFl:∀ x∈(List.range len).map F,x.length=P.cellsOf e:=fun x hx=>by
      obtain ⟨i,hi,rfl⟩:=List.mem_map.1 hx
      exact (World.cells?_some (hF i (List.mem_range.1 hi)).1).2.1
     have hlen':((List.range len).map F).length=len:=by simp
     refine ⟨N+1,?_⟩
     unfold Inp
     rw [ht]
     refine ⟨some a,(List.range len).map F,cap,by rw [hlen'],by rw [hlen']; exact hl,by simpa [hcap] using hk,?_,fun x hx=>?_⟩
     ·rw [hlen']
      have hll:((List.range len).map F).flatten.length=len*P.cellsOf e:=by
       rw [flatten_len _ hFl,hlen']
      refine rd_of_cells hll fun i hi=>?_
      have hsz:0<P.cellsOf e:=Nat.pos_of_ne_zero fun h0=>by rw [h0] at hi; simp at hi
      have hdm:=Nat.div_add_mod i (P.cellsOf e)
      have hil:i / P.cellsOf e<len:=by rw [Nat.div_lt_iff_lt_mul hsz]; exact hi
      have hj:=Nat.mod_lt i hsz
      have h3:=(World.cells?_some (hF _ hil).1).2.2 (i%P.cellsOf e) hj
      rw [Deep.add_add,Nat.mul_comm,hdm] at h3
      rw [h3]
      have h4:=flatten_get _ hFl (i / P.cellsOf e) (i%P.cellsOf e) hj
      rw [Nat.mul_comm,hdm] at h4
      rw [h4,List.getElem?_map,List.getElem?_range hil]; simp
     ·obtain ⟨i,hi,rfl⟩:=List.mem_map.1 hx
      exact hN i (List.mem_range.1 hi)
   | struct fs =>
    obtain ⟨xs,m,hm,rfl,hcl,hxl,hf⟩:=DataW.trod_struct ht h
    obtain rfl:fuel=m:=by omega
    have each:∀ i,i<fs.size→∃ n,∀ f,fs[i]?=some f→Inp P w M.ok n f.type ((cs.drop f.offset).take (P.cellsOf f.type)):=fun i hi=>by
     have hfi:fs[i]?=some fs[i]:=Array.getElem?_eq_getElem hi
     have h1:=hf i _ hfi
     have h2:xs[i]?=some (xs[i]'(by omega)):=List.getElem?_eq_getElem (by omega)
     rw [h2] at h1
     obtain ⟨n,hn⟩:=ih _ _ _ h1 (M.agg ht hg i _ _ hfi (by rw [List.getElem?_map,h2]; rfl))
     exact ⟨n,fun f hf'=>by rw [hfi] at hf'; cases hf'; exact hn⟩
    obtain ⟨N,hN⟩:=Deep.fuel_lt (n:=fs.size) (q:=fun i n=>∀ f,fs[i]?=some f→Inp P w M.ok n f.type ((cs.drop f.offset).take (P.cellsOf f.type))) (fun i a b hab h f hf=>mono a b _ _ hab (h f hf)) each
    refine ⟨N+1,?_⟩
    unfold Inp
    rw [ht]
    refine ⟨hcl,fun f hf'=>?_⟩
    obtain ⟨i,hi,rfl⟩:=List.mem_iff_getElem.1 hf'
    exact hN i (by simpa using hi) _ (by simp)
   | _=>exact ⟨1,by unfold Inp; rw [ht]; trivial⟩
end
def InpV (P:Program) (w:World) (ok:Nat→Nat→Prop) (t:TypeId) (v:Value):Prop :=
 (∃ n,Inp P w ok n t v.cells.toList)∧(match P.underlying t with | some (.struct _) | some (.array _ _)=>∃ cs,v=.agg cs | _=>oneV v=true)
def InpAll (P:Program) (w:World) (ok:Nat→Nat→Prop):List TypeId→List Value→Prop
 | [],[]=>True
 | t::ts,v::vs=>InpV P w ok t v∧InpAll P w ok ts vs
 | _,_=>False
section
variable {H:Type} {enc:TypeId × Value→H} {P:Program} {w:World}
theorem inpAll_of (M:Measure P H):∀ {ts:List TypeId} {vs:List Value} {ds:List (DataW H)} {ps:List MemPlace},DataW.TrodAll enc P w 0 (fun _=>true) true ts vs ds ps →
 (∀ (j:Nat) t v,ts[j]?=some t→vs[j]?=some v→∃ b,Value.okWide P w .any b t v)→(∀ (j:Nat) t d,ts[j]?=some t→ds[j]?=some d→M.good t d)→InpAll P w M.ok ts vs
 | [],[],_,_,_,_,_=>trivial
 | t::ts,v::vs,d::ds,ps,h,hv,hg=>by
  obtain ⟨p,q,⟨fuel,hf⟩,h2,_⟩:=h
  refine ⟨⟨inp_of_trod M 0 fuel t _ _ hf (hg 0 t d rfl rfl),?_⟩,inpAll_of M h2 (fun j t v ht hv'=>hv (j+1) t v ht hv') fun j t d ht hd=>hg (j+1) t d ht hd⟩
  obtain ⟨b,h3⟩:=hv 0 t v rfl rfl
  unfold Value.okWide at h3
  cases ht:P.underlying t with
  | none=>simp only [ht] at h3 ⊢; unfold Cell.okWide Cell.ok at h3; rw [ht] at h3; cases v<;>first | rfl | exact h3.elim
  | some td =>
   cases td<;>simp only [ht] at h3 ⊢
   all_goals first
    | (obtain ⟨cs,h3,_⟩:=h3; exact ⟨cs,h3⟩)
    | (unfold Cell.okWide Cell.ok at h3; rw [ht] at h3; cases v<;>first | rfl | exact h3.elim)
 | [],_::_,_,_,h,_,_=>h.elim
 | _::_,[],_,_,h,_,_=>h.elim
 | _::_,_::_,[],_,h,_,_=>h.elim
theorem trodAll_stays {W W':World} (hl:laidOutB P=true) (hb:RowKit.Below W.heap.size W W'):∀ {ts:List TypeId} {vs:List Value} {ds:List (DataW H)} {ps:List MemPlace},
 (∀ t∈ts,P.readableRec t=true∧t<P.types.size)→DataW.TrodAll enc P W 0 (fun _=>true) true ts vs ds ps→DataW.TrodAll enc P W' 0 (fun b=>decide (b<W.heap.size)) true ts vs ds ps
 | [],[],[],_,_,h=>h
 | t::ts,v::vs,d::ds,ps,hr,h=>by
  obtain ⟨p,q,h1,h2,e⟩:=h
  have hlt:∀ x∈p,x.block<W.heap.size:=by obtain ⟨m,hm⟩:=h1; exact DataW.trod_lt m _ _ _ hm
  exact ⟨p,q,Below.trod hl (hr t (List.mem_cons_self ..)).1 (hr t (List.mem_cons_self ..)).2 h1 hb hlt,trodAll_stays hl hb (fun t ht=>hr t (List.mem_cons_of_mem _ ht)) h2,e⟩
 | [],_::_,_,_,_,h=>h.elim
 | _::_,[],_,_,_,h=>h.elim
 | [],[],_::_,_,_,h=>h.elim
 | _::_,_::_,[],_,_,h=>h.elim
theorem trodAll_ds_len {spare:Nat→Bool} {base:Nat} {held:Bool}:∀ {ts:List TypeId} {vs:List Value} {ds:List (DataW H)} {ps:List MemPlace},DataW.TrodAll enc P w base spare held ts vs ds ps→ds.length=ts.length
 | [],[],[],_,_=>rfl
 | t::ts,v::vs,d::ds,ps,⟨p,q,_,h,_⟩=>by simp [trodAll_ds_len h]
 | [],_::_,_,_,h=>h.elim
 | _::_,[],_,_,h=>h.elim
 | [],[],_::_,_,h=>h.elim
 | _::_,_::_,[],_,h=>h.elim
theorem law_contract {C:Checked} {f:FuncId} {fn:Func} {s:ChangeSpec} {tb:TypeId} (M:Measure C.prog H)
 (hl:laidOutB C.prog=true) (hvars:s.vars=[]) (hfun:∀ ds:List (DataW H),ds.length=fn.params.toList.length→s.fn H ds={ results:=[.lit (.bool true)],args:=ds })
 (hres:fn.resultTypes=#[tb]) (htb:C.prog.underlying tb=some .bool) (hrec:fn.params.toList.all (fun t=>C.prog.readableRec t && decide (t<C.prog.types.size))=true)
 {W:World} {base:Nat} {args:Array Value} {ds gs:List (DataW H)} {before:List MemPlace}
 (hval:∀ (j:Nat) t v,fn.params[j]?=some t→args[j]?=some v→Value.okWide C.prog W .any base t v)
 (hW:DataW.Whole enc C.prog fn.params.toList s.vars false W args.toList ds gs before) (hgood:∀ (j:Nat) (t:TypeId) (d:DataW H),fn.params.toList[j]?=some t→ds[j]?=some d→M.good t d)
 (walk:InpAll C.prog W M.ok fn.params.toList args.toList→callP C.prog f args.toList W fun v w'=>v=.bool true∧Ch (fun _=>False) W w') :
 Calls C.prog f args W fun e W'=>∃ v,e=.returned v∧s.post enc C.prog fn false true false false W args v W':=by
 have hW':=hW
 obtain ⟨p,q,hA,hV,hbef,hfz,hnd⟩:=hW
 rw [hvars] at hV
 obtain ⟨rfl,rfl⟩:=trodVars_none hV
 have hlen:=trodAll_ds_len hA
 have hrec':∀ t∈fn.params.toList,C.prog.readableRec t=true∧t<C.prog.types.size:=fun t ht=>by
  have:=List.all_eq_true.1 hrec t ht
  simpa using this
 have hin:=inpAll_of M hA (fun j t v ht hv=>⟨base,hval j t v (by simpa using ht) (by simpa using hv)⟩) hgood
 have hc:=walk hin
 have hc2:Calls C.prog f args W fun e w'=>∃ v,e=.returned v∧(v=.bool true∧Ch (fun _=>False) W w'):=by
  unfold callP at hc
  have e:args.toList.toArray=args:=by simp
  rw [e] at hc
  exact hc
 refine Calls.mono hc2 fun e W' ⟨v,he,hv,hch⟩=>?_
 subst hv
 have bel:RowKit.Below W.heap.size W W':=hch.below (Nat.le_refl _) fun _ h=>h.elim
 refine ⟨_,he,ds,[],before,[],p,[],hW',?_,?_,?_,bel.frame _,fun h=>by cases h⟩
 ·rw [List.append_nil,hfun ds hlen,hres]
  exact trodAll_mk1 (shut_bool htb _)
 ·rw [List.append_nil,hfun ds hlen]
  exact trodAll_stays hl bel hrec' hA
 ·rw [List.append_nil,hfun ds hlen,hvars]; rfl
end
end Go.Sv
namespace Go.Sv
open Go Go.ChangeShapes Go.WideShapes Go.ChangeAt Go.RowKit
set_option linter.unusedVariables false
section
variable {H:Type} {enc:TypeId × Value→H}
end
def flatD:Nat→DataW Unit→List Value
 | 0,_=>[]
 | n+1,d=>match d with
  | .agg l=>l.flatMap (flatD n)
  | .lit l=>[l.value]
  | _=>[]
noncomputable def laidW (P:Program) (os:Os) (gs:List (Nat × List Value)):World :=
 { World.holding P os ⟨#[],#[],[]⟩ with heap:=gs.foldl (fun h g=>h.modify g.1 fun | .cells _ t frozen=>.cells g.2.toArray t frozen | o=>o) (World.holding P os ⟨#[],#[],[]⟩).heap }
end Go.Sv
namespace Go.Proofs.YtnacobknngidkaaGreatDoor
open Go Go.Sv
theorem bulk_part {H:Type} {d:DataW H} {l:List (DataW H)} (h:d∈l):Rows.uptoBulk d≤Rows.uptoBulkAll l:=by
 induction l with
 | nil=>cases h
 | cons x r ih =>
  simp only [Rows.uptoBulkAll]
  rcases List.mem_cons.1 h with rfl | e
  ·omega
  ·have:=ih e; omega
theorem bulk_one {H:Type} (d:DataW H):1≤Rows.uptoBulk d:=by
 cases d with
 | lit l=>cases l<;>simp [Rows.uptoBulk]
 | _=>simp [Rows.uptoBulk]
theorem bulk_len {H:Type} (l:List (DataW H)):l.length≤Rows.uptoBulkAll l:=by
 induction l with
 | nil=>simp [Rows.uptoBulkAll]
 | cons x r ih=>have:=bulk_one x; simp only [Rows.uptoBulkAll,List.length_cons]; omega
def upM:Nat:=1048576
def byBulk (P:Program) (H:Type):Measure P H where
 ok n _:=n≤upM
 good _ d:=Rows.uptoBulk d≤upM
 str h:=by simp only [Rows.uptoBulk] at h; omega
 nil _:=Nat.zero_le _
 slice {_ _ a b} _ h:=by
  simp only [Rows.uptoBulk] at h
  have h1:=bulk_len a
  have h2:=bulk_len b
  exact ⟨by omega,fun d hd=>by have:=bulk_part hd; omega⟩
 agg {_ _ l} _ h j f d _ hd:=by
  simp only [Rows.uptoBulk] at h
  have:=bulk_part (List.mem_of_getElem? hd)
  omega
theorem byBulk_of {P:Program} {H:Type} (ds:List (DataW H)) (h:Rows.uptoSmall H ds=true):∀ d∈ds,∀ t,(byBulk P H).good t d:=fun d hd t=>by
 have h1:Rows.uptoBulkAll ds≤1048576:=by simpa [Rows.uptoSmall] using h
 have:=bulk_part hd
 show Rows.uptoBulk d≤upM
 unfold upM; omega
abbrev okU:Nat→Nat→Prop:=fun n _=>n≤upM
end Go.Proofs.YtnacobknngidkaaGreatDoor
namespace Go.Proofs.YtnacobknngidkaaGreatDoor
open Go Go.Sv Go.Note Go.ChangeShapes
set_option linter.unusedVariables false
set_option maxRecDepth 100000
theorem own:ownKnob Tryz.prog.godebug=none:=by kernel_rfl
theorem laidOut:laidOutB Tryz.prog=true:=by kernel_rfl
def ren:Shelf.Ren:=⟨fun x=>x,fun x=>if x=5 then 5 else if x=119 then 171 else if x=138 then 173 else if x=139 then 174 else x,fun x=>if x=3 then 0 else if x=4 then 1 else x⟩
theorem u8T:U8Types Tryz.prog ren:=⟨by kernel_rfl,by kernel_rfl,by kernel_rfl,by kernel_rfl⟩
theorem u8X:U8Extra Tryz.prog ren:=⟨by kernel_rfl,by kernel_rfl,by kernel_rfl,by kernel_rfl,by kernel_rfl,by kernel_rfl,by kernel_rfl⟩
abbrev laidL:List (String × DataW Unit):=[("math/bits.deBruijn32tab",Rows.laid_math_bits_deBruijn32tab),("math/bits.deBruijn64tab",Rows.laid_math_bits_deBruijn64tab),("internal/strconv.uint64pow10",Rows.laid_internal_strconv_uint64pow10),("unicode/utf8.acceptRanges",Rows.laid_unicode_utf8_acceptRanges),("strconv.ErrRange",Rows.laid_strconv_ErrRange),("strconv.ErrSyntax",Rows.laid_strconv_ErrSyntax),("unicode/utf8.first",Rows.laid_unicode_utf8_first)]
theorem gSyn:Tryz.prog.globalNamed "strconv.ErrSyntax" = some 4:=by kernel_rfl
theorem gRan:Tryz.prog.globalNamed "strconv.ErrRange" = some 5:=by kernel_rfl
theorem gTab:Tryz.prog.globalNamed "math/bits.deBruijn64tab" = some 7:=by kernel_rfl
theorem gPow:Tryz.prog.globalNamed "internal/strconv.uint64pow10" = some 3:=by kernel_rfl
theorem tySyn:(Tryz.prog.globals[4]?).map (·.type)=some 85:=by kernel_rfl
theorem tyRan:(Tryz.prog.globals[5]?).map (·.type)=some 85:=by kernel_rfl
theorem tyPow:(Tryz.prog.globals[3]?).map (·.type)=some 207:=by kernel_rfl
theorem err_of {W:World} {n:String} {g:Nat} {nm:String} {d:DataW Unit} (hg:Tryz.prog.globalNamed n=some g) (hty:(Tryz.prog.globals[g]?).map (·.type)=some 85) (h:Lib.VarReads Tryz.prog W n (.iface nm d)):∃ te pe,W.cell? ⟨g,0,none⟩=some (.iface te pe):=by
 obtain ⟨g',t,cs,fuel,p,hg',hty',hvar,hd⟩:=h
 obtain rfl:=Option.some.inj (hg.symm.trans hg')
 obtain rfl:=Option.some.inj (hty.symm.trans hty')
 obtain ⟨f1,u,v,hcs,hn,h1⟩:=iface_of_trod Tryz.underlying85 hd
 refine ⟨u,v,?_⟩
 rw [World.var?_cell hg hvar 0,← Array.getElem?_toList,hcs]; rfl
theorem lw_of_laid {W:World} (h:laidMetH Tryz.prog laidL W):LW W:=by
 have hd:laidMet Tryz.prog laidL W:=(laidMetH_iff.1 h).1
 have r1:Lib.VarReads Tryz.prog W "unicode/utf8.first" Rows.laid_unicode_utf8_first:=Lib.laidMet.reads hd (by simp [laidL])
 have r2:Lib.VarReads Tryz.prog W "unicode/utf8.acceptRanges" Rows.laid_unicode_utf8_acceptRanges:=Lib.laidMet.reads hd (by simp [laidL])
 have r3:Lib.VarReads Tryz.prog W "strconv.ErrSyntax" Rows.laid_strconv_ErrSyntax:=Lib.laidMet.reads hd (by simp [laidL])
 have r4:Lib.VarReads Tryz.prog W "strconv.ErrRange" Rows.laid_strconv_ErrRange:=Lib.laidMet.reads hd (by simp [laidL])
 have r5:Lib.VarReads Tryz.prog W "internal/strconv.uint64pow10" Rows.laid_internal_strconv_uint64pow10:=Lib.laidMet.reads hd (by simp [laidL])
 have r6:Lib.VarReads Tryz.prog W "math/bits.deBruijn64tab" Rows.laid_math_bits_deBruijn64tab:=Lib.laidMet.reads hd (by simp [laidL])
 refine ⟨?_,err_of gSyn tySyn r3,err_of gRan tyRan r4,?_,?_⟩
 ·refine utf8Tabs_of_readsT u8T u8X ?_ ?_
  ·rw [← Pinned.utf8First_eq]; exact r1
  ·exact (show Rows.laid_unicode_utf8_acceptRanges=Lib.acceptData by kernel_rfl)▸r2
 ·obtain ⟨g,t,cs,fuel,p,hg,hty,hvar,hd⟩:=r5
  obtain rfl:=Option.some.inj (gPow.symm.trans hg)
  obtain rfl:=Option.some.inj (tyPow.symm.trans hty)
  have e:(Rows.laid_internal_strconv_uint64pow10:DataW Unit)=Lib.tabData .u64 Lib.pow10Tab:=by kernel_rfl
  rw [e] at hd
  unfold Lib.TabIs
  rw [hvar,← Lib.cells_of_tab Tryz.underlying207 Tryz.underlying23 (by kernel_rfl) (by kernel_rfl) hd]
 ·obtain ⟨g,t,cs,fuel,p,hg,hty,hvar,hd⟩:=r6
  obtain rfl:=Option.some.inj (gTab.symm.trans hg)
  unfold World.var? at hvar
  rw [gTab] at hvar
  by_cases hz:8≤W.heap.size
  ·exact hz
  ·rw [Option.bind_some,Array.getElem?_eq_none (by omega)] at hvar
   cases hvar
noncomputable def nW (os:Os):World :=
 let w0:=laidW Tryz.prog os [(0,flatD 2 Rows.laid_unicode_utf8_first),(1,flatD 3 Rows.laid_unicode_utf8_acceptRanges),(3,flatD 2 Rows.laid_internal_strconv_uint64pow10),(6,flatD 2 Rows.laid_math_bits_deBruijn32tab),(7,flatD 2 Rows.laid_math_bits_deBruijn64tab)]
 let w2:=(w0.alloc (.cells #[.string ⟨#[105,110,118,97,108,105,100,32,115,121,110,116,97,120]⟩] 232)).alloc (.cells #[.string ⟨#[118,97,108,117,101,32,111,117,116,32,111,102,32,114,97,110,103,101]⟩] 232)
 { w2 with heap:=(w2.heap.modify 4 fun | .cells _ t fz=>.cells #[.iface 230 (.pointer (some ⟨w0.heap.size,0,none⟩))] t fz | o=>o).modify 5 fun | .cells _ t fz=>.cells #[.iface 230 (.pointer (some ⟨w0.heap.size+1,0,none⟩))] t fz | o=>o }
theorem str_arg {w:World} {v:Value} (h:InpV Tryz.prog w okU 9 v):∃ s:ByteArray,v=.string s∧s.size≤1048576:=by
 obtain ⟨⟨n,h⟩,h2⟩:=h
 obtain ⟨s,e,hw⟩:=h.str Tryz.underlying9
 rw [Tryz.underlying9] at h2
 simp only [okU] at hw
 have:upM=1048576:=rfl
 refine ⟨s,?_,by omega⟩
 cases v<;>simp_all [Value.cells,oneV]
end Go.Proofs.YtnacobknngidkaaGreatDoor
namespace Go.Sv
open Go Go.ChangeShapes Go.WideShapes Go.ChangeAt Go.RowKit
set_option linter.unusedVariables false
section
variable {H:Type} {enc:TypeId × Value→H}
theorem law_contractT {C:Checked} {f:FuncId} {fn:Func} {s:ChangeSpec} {tb:TypeId} (M:Measure C.prog H)
 (hl:laidOutB C.prog=true) (hvars:s.vars=[]) (hfun:∀ ds:List (DataW H),ds.length=fn.params.toList.length→s.fn H ds={ results:=[.lit (.bool true)],args:=ds })
 (hres:fn.resultTypes=#[tb]) (htb:C.prog.underlying tb=some .bool) (hrec:fn.params.toList.all (fun t=>C.prog.readableRec t && decide (t<C.prog.types.size))=true)
 {W:World} {base:Nat} {args:Array Value} {ds gs:List (DataW H)} {before:List MemPlace}
 (hval:∀ (j:Nat) t v,fn.params[j]?=some t→args[j]?=some v→Value.okWide C.prog W .any base t v)
 (hW:DataW.Whole enc C.prog fn.params.toList s.vars false W args.toList ds gs before) (hgood:∀ d∈ds,∀ t,M.good t d)
 (walk:∀ ps,DataW.TrodAll enc C.prog W 0 (fun _=>true) true fn.params.toList args.toList ds ps→InpAll C.prog W M.ok fn.params.toList args.toList→callP C.prog f args.toList W fun v w'=>v=.bool true∧Ch (fun _=>False) W w') :
 Calls C.prog f args W fun e W'=>∃ v,e=.returned v∧s.post enc C.prog fn false true false false W args v W':=by
 have hA':=hW
 obtain ⟨p,q,hA,hV,hbef,hfz,hnd⟩:=hA'
 exact law_contract M hl hvars hfun hres htb hrec hval hW (fun j t d ht hd=>hgood d (List.mem_of_getElem? hd) t) (walk p hA)
theorem lift_laidT {C:Checked} {os:Os} (started:os.Started) {f:FuncId} {fn:Func} {s:ChangeSpec} {o:OpenSpec} {k:(H:Type)→List (DataW H)→Bool} (M:Measure C.prog H) {dom:List PathCond} {laid:List (String × DataW Unit)} {tb:TypeId} {F:Stop.Interp}
 (ho:o={ OpenSpec.ofChange s with cond:=some k }) (hM:∀ ds:List (DataW H),k H ds=true→∀ d∈ds,∀ t,M.good t d)
 (own:ownKnob C.prog.godebug=none) (hl:laidOutB C.prog=true) (noInit:C.prog.inits.idxOf? f=none) (hfn:C.prog.funcs[f]?=some fn)
 (witness:∃ (w:World) (tape:Tape) (i:Input),w.os=os∧(w.forCall tape i).Shaped C.prog∧i.vars=[]∧Input.okWide C.prog (w.forCall tape i) .any w.heap.size f i ∧
   o.preRow enc C.prog fn dom false laid (w.forCall tape i).memory i.args∧({}:Assume).holds C.prog (lone (Frame.enter C.prog f i.args .normal) [] (w.forCall tape i)))
 (hvars:s.vars=[]) (hfun:∀ ds:List (DataW H),ds.length=fn.params.toList.length→s.fn H ds={ results:=[.lit (.bool true)],args:=ds })
 (hres:fn.resultTypes=#[tb]) (htb:C.prog.underlying tb=some .bool) (hrec:fn.params.toList.all (fun t=>C.prog.readableRec t && decide (t<C.prog.types.size))=true)
 (walk:∀ (W:World) (args:Array Value) (ds:List (DataW H)) ps,laidMetH C.prog laid W→(∀ d∈ds,∀ t,M.good t d)→DataW.TrodAll enc C.prog W 0 (fun _=>true) true fn.params.toList args.toList ds ps→InpAll C.prog W M.ok fn.params.toList args.toList →
   callP C.prog f args.toList W fun v w'=>v=.bool true∧Ch (fun _=>False) W w') :
 ReturnsInHanded {} C os f .any (o.preRow enc C.prog fn dom false laid) ((o.at F).post enc C.prog fn false true false false):=by
 subst ho
 refine returnsInHanded_of_row own started noInit hfn witness ?_
 intro W base args ds gs before hval hW _ hk _ hL _ _
 have hg:∀ d∈ds,∀ t,M.good t d:=fun d hd t=>hM _ (hk k rfl) d (List.mem_append.2 (.inl hd)) t
 exact law_contractT M hl hvars hfun hres htb hrec hval hW hg fun ps=>walk W args ds ps hL hg
end
end Go.Sv
