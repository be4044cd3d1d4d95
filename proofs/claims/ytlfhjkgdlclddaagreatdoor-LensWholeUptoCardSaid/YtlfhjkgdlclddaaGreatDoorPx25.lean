/-
  A frame (frame): Header, Seal. A frame (frame): Open. A frame (frame): ReadHeader.
-/
import Derived.Test.YtlfhjkgdlclddaaGreatDoorPx24
import Derived.Laws.IdiomCopy
set_option linter.unusedVariables false
set_option linter.unusedSimpArgs false
set_option maxRecDepth 4000
namespace Go.Proofs.YtlfhjkgdlclddaaGreatDoor
open Go Go.Sv Go.Note
attribute [local irreducible] aS
theorem aEw:(Tryz.prog.info? 5).map (·.size)=some 1:=by kernel_rfl
theorem kQ{w:World}{k z cd m mm:Nat}{b q:Option Addr}{c:Nat}{pre l:Bs}(hb:blk w k=some (aV (pre++List.replicate z 0)))(h:Rd w b l.length 1 (aV l))(hm:m=l.length)(hm2:mm=l.length)(hz:l.length<=z)(hq:l.length≠0->q=some ⟨k,pre.length,none⟩){K:Int->World->Prop}
 (hK:∀n1 w2,blk w2 k=some (aV ((pre++l)++List.replicate (z-l.length) 0))->Ch (·=k) w w2->w2.heap.size=w.heap.size->K n1 w2) :
 ∃n1 w2,Sem.run Tryz.prog (Builtin.copy_ (Array.mk [22,22]) 3 (Array.mk [.slice q m cd,.slice b mm c])) w=.ok (.int .i64 n1) w2/\K n1 w2:=by
 subst hm;subst hm2;by_cases h0:l.length=0
 ·have hl:l=[]:=bI h0;subst hl;exact⟨0,w,run_copy_none w _ _ _ _ _ _ _ _ _ _ Tryz.underlying22 aEw (Nat.zero_min _),hK 0 w (by simpa using hb) (Ch.refl _ _) rfl⟩
 ·obtain⟨h1,h2⟩:=h;rcases h2 with h2|⟨kb,o,cs,rfl,hcs,hle,ht⟩
  ·omega
  rw[hq h0];have hrl:(aV (pre++List.replicate z 0)).length=pre.length+z:=by simp
  have hrun:=run_copy_cells (P:=Tryz.prog) w 22 22 3 5 k pre.length l.length cd ⟨kb,o,none⟩ l.length c (aV l) Tryz.underlying22 aEw (by rw[bytesV_length];exact(Nat.min_self _).symm)
   (λj v hj=>by
     have hjl:=(List.getElem?_eq_some_iff.1 hj).1;rw[add_at,rQ hcs,<-hj,<-ht,cZ,aF (by rw[bytesV_length]at hjl;omega),cU])
   (λj hj=>by rw[eA hb];simp at hj ⊢;omega) (λj hj=>jW hb (by simp at hj ⊢;omega)) (λv hv=>by rw[qQ];exact wP l v hv)
  obtain⟨g1,g2,g3⟩:=qM (aV l) hb (o:=pre.length) (by simp;omega);refine⟨_,_,hrun,hK _ _ ?_ g2 g3⟩;rw[g1];unfold fX;congr 1;rw[eM,eM,eM,kF (by simp),aY (by simp),aP];rw[aP];congr 2;rw[List.drop_append,bW (by simp),aX];unfold aV;rw[List.map_replicate,List.map_replicate,List.drop_replicate];congr 1;simp
theorem aHv{w:World}{k z o v:Nat}{pre:Bs}(hb:blk w k=some (aV (pre++List.replicate z 0)))(ho:pre.length=o)(hz:1<=z)(hv:v<256){K:World->Prop}
 (hK:∀w2,blk w2 k=some (aV ((pre++[UInt8.ofNat v])++List.replicate (z-1) 0))->Ch (·=k) w w2->w2.heap.size=w.heap.size->K w2):Sv.st w ⟨k,o,none⟩ (.int .u8 (v:Int)) K:=by
 subst ho;refine eK hb (by simp;omega) λw2 b2 c2 z2=>hK w2 ?_ c2 z2;rw[b2];congr 1;obtain⟨z',rfl⟩:∃z',z=z'+1:=⟨z-1,by omega⟩;rw[Nat.add_sub_cancel,eM,List.set_append_right _ _ (by simp),aP,eM];congr 1;rw[bytesV_length,Nat.sub_self,List.replicate_succ];unfold aV;simp only[List.map_cons,List.set_cons_zero,List.singleton_append];congr 2;rw[UInt8.toNat_ofNat'];omega
theorem aEi{t:Int}{w:World}{K:Value->World->Prop}(hk:K (.bool (decide (t=0\/t=1))) w):bK Tryz.prog 54 [.int .i64 t] w K:=by
 apply aBe;simp only[dS];refine aC (λq=>?_) (λq=>?_)
 ·have q:¬t=0:=by simpa using q
  rw[show decide (t=0\/t=1)=decide (t=1)from decide_eq_decide.2 (by simp[q])]at hk;exact hk
 ·have q:t=0:=by simpa using q
  rw[aR (p:=t=0\/t=1) (.inl q)]at hk;exact hk
theorem aAt{t:Int}{w:World}{K:Value->World->Prop}(hk:K (.bool (decide (t=0\/t=3))) w):bK Tryz.prog 52 [.int .i64 t] w K:=by
 apply zG;simp only[dS];refine aC (λq=>?_) (λq=>?_)
 ·have q:¬t=0:=by simpa using q
  rw[show decide (t=0\/t=3)=decide (t=3)from decide_eq_decide.2 (by simp[q])]at hk;exact hk
 ·have q:t=0:=by simpa using q
  rw[aR (p:=t=0\/t=3) (.inl q)]at hk;exact hk
def aYh(p:Nat):Value:=.agg (Array.mk (aV (iE p)))
theorem wM{p:Nat}(hp:p<256){w:World}{K:Value->World->Prop}(hk:∀w',Ch (λ_=>False) w w'->K (aYh p) w'):bK Tryz.prog 53 [.int .i64 (p:Int)] w K:=by
 apply aBf;refine bD λw1 b1 c1 z1=>?_;simp only[add_at,aL];rw[w8 p];have key:∀ {K:World->Prop},(∀w',blk w' w.heap.size=some (aV (iE p))->Ch (·=w.heap.size) w1 w'->K w')->Sv.st w1 ⟨w.heap.size,0,none⟩ (.int .u8 76) λw2=>Sv.st w2 ⟨w.heap.size,1,none⟩ (.int .u8 83) λw3=>Sv.st w3 ⟨w.heap.size,2,none⟩ (.int .u8 72) λw4=>Sv.st w4 ⟨w.heap.size,3,none⟩ (.int .u8 82) λw5=>Sv.st w5 ⟨w.heap.size,4,none⟩ (.int .u8 ((UInt8.ofNat p).toNat:Int)) λw6=>Sv.st w6 ⟨w.heap.size,5,none⟩ (.int .u8 1) λw7=>Sv.st w7 ⟨w.heap.size,6,none⟩ (.int .u8 0) λw8=>Sv.st w8 ⟨w.heap.size,7,none⟩ (.int .u8 0) K:=by
  intro K hK;exact oQ (aV (iE p)) 0 (K:=K) b1 (by simp[iE]) λw' b c z=>hK w' (by rw[b];simp[iE,aV,fX]) c
 refine key λw9 b9 c9=>?_;have b9:blk w9 w.heap.size=some [.int .u8 76,.int .u8 83,.int .u8 72,.int .u8 82,.int .u8 ((UInt8.ofNat p).toNat:Int),.int .u8 1,.int .u8 0,.int .u8 0]:=b9;refine⟨_,aJ b9 0 rfl,_,aJ b9 1 rfl,_,aJ b9 2 rfl,_,aJ b9 3 rfl,_,aJ b9 4 rfl,_,aJ b9 5 rfl,_,aJ b9 6 rfl,_,aJ b9 7 rfl,?_⟩;exact hk w9 (c1.trans c9 λj hj q=>by omega)
theorem aEl{N:Nat}{p:Int}{w:World}(hN:N<=w.heap.size){K:Value->World->Prop}(hk:∀q n c w',Bo N w w' q n (if p≠0/\p≠3 then[]else iE p.toNat)->K (.tuple (Array.mk [.slice q n c,.int .i64 (if p≠0/\p≠3 then 50 else 0)])) w') :
 bK Tryz.prog 26 [.int .i64 p] w K:=by
 apply aBg;refine aAt ⟨_,rfl,?_⟩;refine aC (λq=>?_) (λq=>?_)
 ·have q:¬(p=0\/p=3):=by simpa using q
  have h:=hk none 0 0 w;rw[aF,aF]at h;exact h (Bo.nil (Ch.refl _ _))
 ·have q:p=0\/p=3:=by
   have:decide (p=0\/p=3)=true:=by
    cases hx:decide (p=0\/p=3)with
    | true=>rfl
    | false=>rw[hx]at q;cases q
   exact aB this
  obtain⟨pn,rfl⟩:∃pn:Nat,p=(pn:Int):=⟨p.toNat,by omega⟩;refine wM (by omega) λw2 c2=>⟨_,_,_,_,_,_,_,_,rfl,?_⟩;refine bD λw3 b3 c3 z3=>?_;simp only[add_at,aL];refine oQ (aV (iE pn)) 0 (K:=λw'=>K (.tuple (Array.mk [.slice (some ⟨w2.heap.size,0,none⟩) 8 8,.int .i64 0])) w') b3 (by simp[iE]) λw' b c z=>?_;have hb:blk w' w2.heap.size=some (aV (iE pn)):=by rw[b];simp[iE,aV,fX]
  have h:=hk (some ⟨w2.heap.size,0,none⟩) 8 8 w';rw[aD,aD,show((pn:Nat):Int).toNat=pn from aM _]at h;have hz:=c2.size;refine h ⟨jQ hb (by simp[iE]),rfl,(c2.trans' c3).trans c λj hj q=>by omega,λad ha _=>by cases ha;show N<=w2.heap.size;omega⟩
structure FV where
 ty:Int
 ch:Int
 ep:Option Addr
 ec:Nat
 ext:Bs
 bp:Option Addr
 bc:Nat
 body:Bs
def FV.g(x:FV):List Value:=[.int .i64 x.ty,.int .i64 x.ch,.slice x.ep x.ext.length x.ec,.slice x.bp x.body.length x.bc]
def FV.v(x:FV):Value:=.agg x.g.toArray
def FV.f(x:FV):Fr:=⟨x.ty,x.ch,x.ext,x.body⟩
structure FR(w:World)(x:FV):Prop where
 ext:Rd w x.ep x.ext.length 1 (aV x.ext)
 body:Rd w x.bp x.body.length 1 (aV x.body)
 el:x.ext.length<=2^40
 bl:x.body.length<=2^40
 ecap:x.ext.length<=x.ec
 bcap:x.body.length<=x.bc
theorem FR.ch{S:Nat->Prop}{w w':World}{x:FV}(h:FR w x)(hc:Ch S w w')(hs:∀j,j<w.heap.size->¬S j):FR w' x :=
 ⟨h.ext.ch hc λa ha h0=>hs _ (h.ext.lt a ha h0),h.body.ch hc λa ha h0=>hs _ (h.body.lt a ha h0),h.el,h.bl,h.ecap,h.bcap⟩
theorem FR.ch0{w w':World}{x:FV}(h:FR w x)(hc:Ch (λ_=>False) w w'):FR w' x:=h.ch hc λ_ _=>id
theorem aV1{n:Nat}:Int.tmod (n:Int) 4=((n%4:Nat):Int):=by
 rw[Int.tmod_eq_emod_of_nonneg (by omega)];omega
theorem aV2{n:Nat}:Int.tdiv (n:Int) 4=((n / 4:Nat):Int):=by
 rw[Int.tdiv_eq_ediv_of_nonneg (by omega)];omega
theorem w8m{n:Nat}(h:n<256):IntKind.wrap .u8 (n:Int)=(n:Int):=by
 unfold IntKind.wrap;simp[IntKind.bits,IntKind.signed];omega
theorem nC{k n c:Nat}(h:n<c):gI (some ⟨k,0,none⟩) n c 1=some ⟨k,n,none⟩:=by
 unfold gI;rw[aD];simp
theorem aEj{N:Nat}{x:FV}{w:World}(h:FR w x)(hN:N<=w.heap.size){K:Value->World->Prop}(hk:∀q n c w',Bo N w w' q n (aCm x.f).1->n<=c->K (.tuple (Array.mk [.slice q n c,.int .i64 ((aCm x.f).2:Int)])) w') :
 bK Tryz.prog 27 [x.v] w K:=by
 obtain⟨ty,ch,ep,ec,ext,bp,bc,body⟩:=x;have hel:ext.length<=2^40:=h.el;have hbl:body.length<=2^40:=h.bl;have hsr:aCm (FV.f ⟨ty,ch,ep,ec,ext,bp,bc,body⟩)=if fN ⟨ty,ch,ext,body⟩≠0 then([],fN ⟨ty,ch,ext,body⟩)else(sO ⟨ty,ch,ext,body⟩,0):=rfl;have hse:fN ⟨ty,ch,ext,body⟩=if ty≠0/\ty≠1 then 53 else if ch<0\/65535<ch\/(ty=1/\ch≠0)then 54 else if ext.length%4≠0\/1012<ext.length then 52 else if 1048576<8+ext.length+body.length then 2 else 0:=rfl;have hsb:sO ⟨ty,ch,ext,body⟩=be 4 (8+ext.length+body.length)++(UInt8.ofNat ((8+ext.length) / 4)::UInt8.ofNat ty.toNat::be 2 ch.toNat)++ext++body:=rfl;rw[hsr]at hk;clear hsr;generalize fN ⟨ty,ch,ext,body⟩=E at hk hse;generalize sO ⟨ty,ch,ext,body⟩=SB at hk hsb;apply aFm;refine bD λw1 b1 c1 z1=>?_;have b1:blk w1 w.heap.size=some [.int .i64 ty,.int .i64 ch,.slice ep ext.length ec,.slice bp body.length bc]:=b1;simp only[add_at,aL,cO,dS];have b1l:=aH b1;have hext1:=h.ext.ch c1 λ_ _ _=>id;have hbody1:=h.body.ch c1 λ_ _ _=>id;have hext1:Rd w1 ep ext.length 1 (aV ext):=hext1;have hbody1:Rd w1 bp body.length 1 (aV body):=hbody1;refine⟨_,_,_,aJ b1 2 rfl,_,_,_,aJ b1 3 rfl,?_⟩;rw[aW (n:=8+(ext.length:Int)),aW (n:=8+(ext.length:Int)+(body.length:Int)),show 8+(ext.length:Int)+(body.length:Int)=((8+ext.length+body.length:Nat):Int) by omega,nameI_iff];have err:∀e:Nat,E=e->e≠0->K (.tuple (Array.mk [.slice none 0 0,.int .i64 (e:Int)])) w1:=by
  intro e he h0;have:=hk none 0 0 w1;rw[aF,he]at this;exact this (Bo.nil c1) (aQ _)
 refine⟨_,aJ b1 0 rfl,?_⟩;refine aEi ⟨_,rfl,?_⟩;refine aC (λq=>?_) (λq=>?_)
 ·have q:¬(ty=0\/ty=1):=by simpa using q
  exact err 53 (by rw[hse,aF]) (by decide)
 have hty:ty=0\/ty=1:=by
  have:decide (ty=0\/ty=1)=true:=by
   cases hx:decide (ty=0\/ty=1)with
   | true=>rfl
   | false=>rw[hx]at q;cases q
  exact aB this
 clear q;rw[aD]at hse;refine⟨_,aJ b1 1 rfl,?_⟩;refine aC (λq1=>?_) (λq1=>?_)
 rotate_left
 ·have q1:ch<0:=by simpa using q1
  exact err 54 (by rw[hse,aF]) (by decide)
 have q1:¬ch<0:=by simpa using q1
 refine⟨_,aJ b1 1 rfl,?_⟩;refine aC (λq2=>?_) (λq2=>?_)
 rotate_left
 ·have q2:ch>65535:=by simpa using q2
  exact err 54 (by rw[hse,aF]) (by decide)
 have q2:¬ch>65535:=by simpa using q2
 refine⟨_,aJ b1 0 rfl,?_⟩;refine aC (λq3=>?_) (λq3=>?_)
 ·have q3:=aB q3;refine⟨_,aJ b1 1 rfl,?_⟩;refine aC (λq4=>?_) (λq4=>?_)
  ·have q4:¬ch=0:=by simpa[bne,dS]using q4
   exact err 54 (by rw[hse,aF]) (by decide)
  have q4:ch=0:=by simpa[bne,dS]using q4
  rw[aD]at hse;refine⟨_,_,_,aJ b1 2 rfl,by decide,?_⟩;rw[aV1];refine aC (λg=>?_) (λg=>?_)
  rotate_left
  ·have g:¬((ext.length%4:Nat):Int)=0:=by simpa[bne,dS]using g
   exact err 52 (by rw[hse,aF (.inl (by omega))]) (by decide)
  have g:((ext.length%4:Nat):Int)=0:=by simpa[bne,dS]using g
  refine⟨_,_,_,aJ b1 2 rfl,?_⟩;refine aC (λg2=>?_) (λg2=>?_)
  ·have g2:=aB g2;exact err 52 (by rw[hse,aF (.inr (by omega))]) (by decide)
  have g2:=aA g2;rw[aD]at hse;refine aC (λg3=>?_) (λg3=>?_)
  ·have g3:=aB g3;exact err 2 (by rw[hse,aF]) (by decide)
  have g3:=aA g3;rw[aD]at hse;obtain⟨S,hS⟩:∃S,S=8+ext.length+body.length:=⟨_,rfl⟩;rw[<-hS]at hsb g3 ⊢;obtain⟨chn,hchn⟩:∃chn:Nat,ch=(chn:Int):=⟨ch.toNat,by omega⟩;obtain⟨tyn,htyn⟩:∃tyn:Nat,ty=(tyn:Int):=⟨ty.toNat,by omega⟩;rw[hchn,htyn]at hsb;rw[aM,aM]at hsb;rw[hse]at hk;simp only[ne_eq,not_true_eq_false,if_false]at hk;obtain⟨w3,hm,b3,c3,z3⟩:=tH (w:=w1) S S (aQ _) (by omega);refine⟨_,_,_,w3,hm,by decide,by omega,by decide,by decide,?_⟩;have cd3:Ch (λ_=>False) w3 w3.drew:=Ch.d0;rw[w64 (n:=(S:Int)) (by omega) (by omega)];have b3d:blk w3.drew w1.heap.size=some (aV ([]++List.replicate S 0)):=b3;refine yD (k:=4) (by omega) (by decide) (by decide) λw4 b4 c4 z4=>⟨_,_,_,rfl,?_⟩;have d3:w3.drew.heap.size=w3.heap.size:=rfl;have hb4:(be 4 S).length=4:=eL ..;refine kQ (pre:=[]) (l:=be 4 S) ((c4.blk (aH b3d) id).trans b3d) (jQ b4 (by simp[eL])) (by rw[hb4]) (by rw[hb4]) (by omega) (λ_=>rfl) λ_ w5 b5 c5 z5=>?_;have c15:Ch (λj=>w1.heap.size<=j) w1 w5:=(((c3.mono λ_ _ h=>h.elim).new cd3).new c4).trans' (c5.mono λ_ _ q=>by omega);have k5:blk w5 w.heap.size=_:=(c15.blk b1l (by omega)).trans b1;refine⟨_,_,_,aJ k5 2 rfl,by decide,by decide,by omega,?_⟩;simp only[nn_some,add_at,aL,cO];rw[aW (n:=8+(ext.length:Int)),show 8+(ext.length:Int)=((8+ext.length:Nat):Int) by omega,aV2,aW (n:=(((8+ext.length) / 4:Nat):Int)) (by omega) (by omega),w8m (n:=(8+ext.length) / 4) (by omega)];refine aHv b5 (by simp[eL]) (by rw[hb4];omega) (by omega) λw6 b6 c6 z6=>?_;have k6:=(c6.blk (aH k5) (by omega)).trans k5;refine⟨_,aJ k6 0 rfl,by decide,by omega,?_⟩;rw[htyn,w8m (n:=tyn) (by omega)];refine aHv b6 (by simp[eL]) (by rw[hb4];omega) (by omega) λw7 b7 c7 z7=>?_;have cd7:Ch (λ_=>False) w7 w7.drew:=Ch.d0;have k7:blk w7.drew w.heap.size=_:=(c7.blk (aH k6) (by omega)).trans k6;have b7d:blk w7.drew w1.heap.size=_:=b7;refine⟨by decide,by omega,by decide,by decide,by decide,by decide,_,aJ k7 1 rfl,?_⟩;rw[hchn,w64 (n:=(chn:Int)) (by omega) (by omega)];refine yD (k:=2) (by omega) (by decide) (by decide) λw8' b8 c8 z8=>⟨_,_,_,rfl,?_⟩;have d7:w7.drew.heap.size=w7.heap.size:=rfl;have hb2:(be 2 chn).length=2:=eL ..;rw[nC (by decide)];have hpl:([]++be 4 S++[UInt8.ofNat ((8+ext.length) / 4)]++[UInt8.ofNat tyn]).length=6:=by simp[eL]
  refine kQ (l:=be 2 chn) ((c8.blk (aH b7d) id).trans b7d) (jQ b8 (by simp[eL])) (by rw[hb2]) (by rw[hb2]) (by rw[hb2,hb4];omega) (λ_=>by rw[hpl]) λ_ w9 b9 c9 z9=>?_;have c79:Ch (·=w1.heap.size) w7.drew w9:=(c8.mono λ_ _ h=>h.elim).trans' c9;have k9:blk w9.drew w.heap.size=_:=(c79.blk (aH k7) (by omega)).trans k7;have cd9:Ch (λ_=>False) w9 w9.drew:=Ch.d0;have b9d:blk w9.drew w1.heap.size=_:=b9;refine⟨_,_,_,aJ k9 2 rfl,_,_,_,aJ k9 2 rfl,?_⟩;rw[aW (n:=8+(ext.length:Int))];refine⟨by omega,by omega,by omega,by omega,by decide,by omega,_,_,_,aJ k9 2 rfl,?_⟩;have n1:(8+(ext.length:Int)).toNat=8+ext.length:=by omega
  rw[n1,show 8+ext.length-8=ext.length by omega];have c19:Ch (λj=>w1.heap.size<=j) w1 w9.drew:=((((c15.trans' (c6.mono λ_ _ q=>by omega)).trans' (c7.mono λ_ _ q=>by omega)).new cd7).trans' (c79.mono λ_ _ q=>by omega)).new cd9;have hext9:=hext1.ch c19 λad h1 h2 q=>by have:=hext1.lt ad h1 h2;omega
  have hpl8:([]++be 4 S++[UInt8.ofNat ((8+ext.length) / 4)]++[UInt8.ofNat tyn]++be 2 chn).length=8:=by simp[eL]
  refine kQ (l:=ext) b9d hext9 rfl rfl (by rw[hb2,hb4];omega) (λh0=>by rw[hpl8,nC (by omega)]) λ_ w10 b10 c10 z10=>?_;have cd10:Ch (λ_=>False) w10 w10.drew:=Ch.d0;have k10:blk w10.drew w.heap.size=_:=(c10.blk (aH k9) (by omega)).trans k9;have b10d:blk w10.drew w1.heap.size=_:=b10;refine⟨_,_,_,aJ k10 2 rfl,?_⟩;rw[aW (n:=8+(ext.length:Int))];refine⟨by omega,by omega,_,_,_,aJ k10 3 rfl,?_⟩;rw[n1];have c110:Ch (λj=>w1.heap.size<=j) w1 w10.drew:=(c19.trans' (c10.mono λ_ _ q=>by omega)).new cd10;have hbody10:=hbody1.ch c110 λad h1 h2 q=>by have:=hbody1.lt ad h1 h2;omega
  have hplx:([]++be 4 S++[UInt8.ofNat ((8+ext.length) / 4)]++[UInt8.ofNat tyn]++be 2 chn++ext).length=8+ext.length:=by rw[aG,hpl8]
  refine kQ (l:=body) b10d hbody10 (by omega) rfl (by rw[hb2,hb4];omega) (λh0=>by rw[hplx,nC (by omega)]) λ_ w11 b11 c11 z11=>?_;refine hk (some ⟨w1.heap.size,0,none⟩) S S w11 ⟨?_,?_,?_,λad ha _=>by cases ha;show N<=w1.heap.size;omega⟩ (aQ _)
  ·have e:[]++be 4 S++[UInt8.ofNat ((8+ext.length) / 4)]++[UInt8.ofNat tyn]++be 2 chn++ext++body++List.replicate (S-(be 4 S).length-1-1-(be 2 chn).length-ext.length-body.length) 0=SB:=by
    rw[hb4,hb2,show S-4-1-1-2-ext.length-body.length=0 by omega,hsb];simp
   rw[e]at b11;exact jQ b11 (by rw[bytesV_length,hsb];simp[eL];omega)
  ·rw[hsb];simp[eL];omega
  ·exact(c1.trans c110 λj hj q=>by omega).trans c11 λj hj q=>by omega
 ·have q3:=aA q3;rw[aD]at hse;refine⟨_,_,_,aJ b1 2 rfl,by decide,?_⟩;rw[aV1];refine aC (λg=>?_) (λg=>?_)
  rotate_left
  ·have g:¬((ext.length%4:Nat):Int)=0:=by simpa[bne,dS]using g
   exact err 52 (by rw[hse,aF (.inl (by omega))]) (by decide)
  have g:((ext.length%4:Nat):Int)=0:=by simpa[bne,dS]using g
  refine⟨_,_,_,aJ b1 2 rfl,?_⟩;refine aC (λg2=>?_) (λg2=>?_)
  ·have g2:=aB g2;exact err 52 (by rw[hse,aF (.inr (by omega))]) (by decide)
  have g2:=aA g2;rw[aD]at hse;refine aC (λg3=>?_) (λg3=>?_)
  ·have g3:=aB g3;exact err 2 (by rw[hse,aF]) (by decide)
  have g3:=aA g3;rw[aD]at hse;obtain⟨S,hS⟩:∃S,S=8+ext.length+body.length:=⟨_,rfl⟩;rw[<-hS]at hsb g3 ⊢;obtain⟨chn,hchn⟩:∃chn:Nat,ch=(chn:Int):=⟨ch.toNat,by omega⟩;obtain⟨tyn,htyn⟩:∃tyn:Nat,ty=(tyn:Int):=⟨ty.toNat,by omega⟩;rw[hchn,htyn]at hsb;rw[aM,aM]at hsb;rw[hse]at hk;simp only[ne_eq,not_true_eq_false,if_false]at hk;obtain⟨w3,hm,b3,c3,z3⟩:=tH (w:=w1) S S (aQ _) (by omega);refine⟨_,_,_,w3,hm,by decide,by omega,by decide,by decide,?_⟩;have cd3:Ch (λ_=>False) w3 w3.drew:=Ch.d0;rw[w64 (n:=(S:Int)) (by omega) (by omega)];have b3d:blk w3.drew w1.heap.size=some (aV ([]++List.replicate S 0)):=b3;refine yD (k:=4) (by omega) (by decide) (by decide) λw4 b4 c4 z4=>⟨_,_,_,rfl,?_⟩;have d3:w3.drew.heap.size=w3.heap.size:=rfl;have hb4:(be 4 S).length=4:=eL ..;refine kQ (pre:=[]) (l:=be 4 S) ((c4.blk (aH b3d) id).trans b3d) (jQ b4 (by simp[eL])) (by rw[hb4]) (by rw[hb4]) (by omega) (λ_=>rfl) λ_ w5 b5 c5 z5=>?_;have c15:Ch (λj=>w1.heap.size<=j) w1 w5:=(((c3.mono λ_ _ h=>h.elim).new cd3).new c4).trans' (c5.mono λ_ _ q=>by omega);have k5:blk w5 w.heap.size=_:=(c15.blk b1l (by omega)).trans b1;refine⟨_,_,_,aJ k5 2 rfl,by decide,by decide,by omega,?_⟩;simp only[nn_some,add_at,aL,cO];rw[aW (n:=8+(ext.length:Int)),show 8+(ext.length:Int)=((8+ext.length:Nat):Int) by omega,aV2,aW (n:=(((8+ext.length) / 4:Nat):Int)) (by omega) (by omega),w8m (n:=(8+ext.length) / 4) (by omega)];refine aHv b5 (by simp[eL]) (by rw[hb4];omega) (by omega) λw6 b6 c6 z6=>?_;have k6:=(c6.blk (aH k5) (by omega)).trans k5;refine⟨_,aJ k6 0 rfl,by decide,by omega,?_⟩;rw[htyn,w8m (n:=tyn) (by omega)];refine aHv b6 (by simp[eL]) (by rw[hb4];omega) (by omega) λw7 b7 c7 z7=>?_;have cd7:Ch (λ_=>False) w7 w7.drew:=Ch.d0;have k7:blk w7.drew w.heap.size=_:=(c7.blk (aH k6) (by omega)).trans k6;have b7d:blk w7.drew w1.heap.size=_:=b7;refine⟨by decide,by omega,by decide,by decide,by decide,by decide,_,aJ k7 1 rfl,?_⟩;rw[hchn,w64 (n:=(chn:Int)) (by omega) (by omega)];refine yD (k:=2) (by omega) (by decide) (by decide) λw8' b8 c8 z8=>⟨_,_,_,rfl,?_⟩;have d7:w7.drew.heap.size=w7.heap.size:=rfl;have hb2:(be 2 chn).length=2:=eL ..;rw[nC (by decide)];have hpl:([]++be 4 S++[UInt8.ofNat ((8+ext.length) / 4)]++[UInt8.ofNat tyn]).length=6:=by simp[eL]
  refine kQ (l:=be 2 chn) ((c8.blk (aH b7d) id).trans b7d) (jQ b8 (by simp[eL])) (by rw[hb2]) (by rw[hb2]) (by rw[hb2,hb4];omega) (λ_=>by rw[hpl]) λ_ w9 b9 c9 z9=>?_;have c79:Ch (·=w1.heap.size) w7.drew w9:=(c8.mono λ_ _ h=>h.elim).trans' c9;have k9:blk w9.drew w.heap.size=_:=(c79.blk (aH k7) (by omega)).trans k7;have cd9:Ch (λ_=>False) w9 w9.drew:=Ch.d0;have b9d:blk w9.drew w1.heap.size=_:=b9;refine⟨_,_,_,aJ k9 2 rfl,_,_,_,aJ k9 2 rfl,?_⟩;rw[aW (n:=8+(ext.length:Int))];refine⟨by omega,by omega,by omega,by omega,by decide,by omega,_,_,_,aJ k9 2 rfl,?_⟩;have n1:(8+(ext.length:Int)).toNat=8+ext.length:=by omega
  rw[n1,show 8+ext.length-8=ext.length by omega];have c19:Ch (λj=>w1.heap.size<=j) w1 w9.drew:=((((c15.trans' (c6.mono λ_ _ q=>by omega)).trans' (c7.mono λ_ _ q=>by omega)).new cd7).trans' (c79.mono λ_ _ q=>by omega)).new cd9;have hext9:=hext1.ch c19 λad h1 h2 q=>by have:=hext1.lt ad h1 h2;omega
  have hpl8:([]++be 4 S++[UInt8.ofNat ((8+ext.length) / 4)]++[UInt8.ofNat tyn]++be 2 chn).length=8:=by simp[eL]
  refine kQ (l:=ext) b9d hext9 rfl rfl (by rw[hb2,hb4];omega) (λh0=>by rw[hpl8,nC (by omega)]) λ_ w10 b10 c10 z10=>?_;have cd10:Ch (λ_=>False) w10 w10.drew:=Ch.d0;have k10:blk w10.drew w.heap.size=_:=(c10.blk (aH k9) (by omega)).trans k9;have b10d:blk w10.drew w1.heap.size=_:=b10;refine⟨_,_,_,aJ k10 2 rfl,?_⟩;rw[aW (n:=8+(ext.length:Int))];refine⟨by omega,by omega,_,_,_,aJ k10 3 rfl,?_⟩;rw[n1];have c110:Ch (λj=>w1.heap.size<=j) w1 w10.drew:=(c19.trans' (c10.mono λ_ _ q=>by omega)).new cd10;have hbody10:=hbody1.ch c110 λad h1 h2 q=>by have:=hbody1.lt ad h1 h2;omega
  have hplx:([]++be 4 S++[UInt8.ofNat ((8+ext.length) / 4)]++[UInt8.ofNat tyn]++be 2 chn++ext).length=8+ext.length:=by rw[aG,hpl8]
  refine kQ (l:=body) b10d hbody10 (by omega) rfl (by rw[hb2,hb4];omega) (λh0=>by rw[hplx,nC (by omega)]) λ_ w11 b11 c11 z11=>?_;refine hk (some ⟨w1.heap.size,0,none⟩) S S w11 ⟨?_,?_,?_,λad ha _=>by cases ha;show N<=w1.heap.size;omega⟩ (aQ _)
  ·have e:[]++be 4 S++[UInt8.ofNat ((8+ext.length) / 4)]++[UInt8.ofNat tyn]++be 2 chn++ext++body++List.replicate (S-(be 4 S).length-1-1-(be 2 chn).length-ext.length-body.length) 0=SB:=by
    rw[hb4,hb2,show S-4-1-1-2-ext.length-body.length=0 by omega,hsb];simp
   rw[e]at b11;exact jQ b11 (by rw[bytesV_length,hsb];simp[eL];omega)
  ·rw[hsb];simp[eL];omega
  ·exact(c1.trans c110 λj hj q=>by omega).trans c11 λj hj q=>by omega
theorem aTk{w:World}{p:Option Addr}{c j m:Nat}{l:Bs}(h:Rd w p l.length 1 (aV l))(hj:j+m<=l.length)(hc:j+m<=c):Rd w (gI p j c 1) m 1 (aV (Note.sub l j m)):=by
 obtain⟨h1,h2⟩:=h;unfold Note.sub;have hlen:((l.drop j).take m).length=m:=by rw[aU,aN];omega
 refine⟨by rw[bytesV_length,hlen];omega,?_⟩;by_cases hm:m=0
 ·exact .inl (by omega)
 rcases h2 with h2|⟨b,o,cs,rfl,hb,hl,ht⟩
 ·omega
 ·refine .inr ⟨b,o+j,cs,?_,hb,by omega,?_⟩
  ·unfold gI;rw[aD];simp
  ·have e:aV ((l.drop j).take m)=((aV l).drop j).take m:=by simp[aV,List.map_take,List.map_drop]
   rw[e,<-ht,List.drop_take,List.drop_drop,List.take_take];congr 1;omega
theorem aQ9(b:Bs)(a j n:Nat):Note.sub (b.drop a) j n=Note.sub b (a+j) n:=by
 unfold Note.sub;rw[List.drop_drop]
theorem aK4(b:Bs)(a:Nat):b.drop a=Note.sub b a (b.length-a):=by
 unfold Note.sub;rw[aY (by simp)]
theorem rI{p:Option Addr}{n c a k:Nat}{l:Bs}{w:World}(hp:Rd w p n 1 (aV l))(hn:n<=c)(hc:n<=2^46)(h1:1<=k)(h4:k<=4)(ha:a+k<=n){K:Value->World->Prop}(hk:K (.int .i64 (bO (Note.sub l a k):Int)) w) :
 bK Tryz.prog 95 [.slice p n c,.int .i64 (a:Int),.int .i64 (k:Int)] w K:=by
 apply aBd;refine aIm hp hn hc h1 (by omega) ha ⟨_,_,rfl,?_⟩;rw[aLo];have hb:=gP (Note.sub l a k);have hl:(Note.sub l a k).length<=k:=by unfold Note.sub;rw[aU];omega
 have:256^(Note.sub l a k).length<=256^4:=Nat.pow_le_pow_right (by decide) (by omega);have hb:bO ((l.drop a).take k)<256^4:=Nat.lt_of_lt_of_le hb this;rw[aW (n:=(bO ((l.drop a).take k):Int)) (by omega) (by omega),nameI_iff];exact hk
theorem aKu{N:Nat}{p:Option Addr}{c j t:Nat}{l:Bs}{w:World}(hp:Rd w p l.length 1 (aV l))(hc:l.length<=c)(hl:l.length<=2^40)(hj:j<=t)(ht:t<=l.length)(hN:N<=w.heap.size){n:Nat}(hn:n=l.length){K:Value->World->Prop}
 (hk:∀q w',Bo N w w' q (t-j) (Note.sub l j (t-j))->K (.slice q (t-j) (t-j)) w'):bK Tryz.prog 96 [.slice p n c,.int .i64 (j:Int),.int .i64 (t:Int)] w K:=by
 subst hn;apply aFl;have e1:((t:Nat):Int).toNat=t:=aM _;have e2:((j:Nat):Int).toNat=j:=aM _;rw[e1,e2];obtain⟨w1,hm,b1,c1,z1⟩:=tH (w:=w) (t-j) (t-j) (aQ _) (by omega);refine⟨by omega,by omega,by omega,by omega,by omega,by omega,_,_,_,w1,hm,?_⟩;have hsl:(Note.sub l j (t-j)).length=t-j:=by unfold Note.sub;rw[aU,aN];omega
 have hr1:Rd w1 (gI p j t 1) (Note.sub l j (t-j)).length 1 (aV (Note.sub l j (t-j))):=by
  rw[hsl];exact aTk (hp.ch c1 λ_ _ _=>id) (by omega) (by omega)
 refine kQ (pre:=[]) (z:=t-j) (l:=Note.sub l j (t-j)) b1 hr1 hsl.symm hsl.symm (by omega) (λ_=>rfl) λ_ w2 b2 c2 z2=>?_;rw[hsl,Nat.sub_self]at b2;have b2:blk w2 w.heap.size=some (aV (Note.sub l j (t-j))):=by simpa using b2
 exact hk _ w2 ⟨jQ b2 (by rw[bytesV_length,hsl]),hsl,c1.trans c2 λi hi q=>by omega,λad ha _=>by cases ha;show N<=w.heap.size;omega⟩
def fv0:FV:=⟨0,0,none,0,[],none,0,[]⟩
theorem aM3{w:World}{a:Nat}{zs:List Value}{x:FV}{K:World->Prop}(h:blk w a=some zs)(hl:zs.length=4)(hk:∀w',blk w' a=some x.g->Ch (·=a) w w'->w'.heap.size=w.heap.size->K w') :
 Sv.st w ⟨a,0,none⟩ (.int .i64 x.ty) λw1=>Sv.st w1 ⟨a,1,none⟩ (.int .i64 x.ch) λw2=>Sv.st w2 ⟨a,2,none⟩ (.slice x.ep x.ext.length x.ec) λw3=>Sv.st w3 ⟨a,3,none⟩ (.slice x.bp x.body.length x.bc) K :=
 oQ x.g 0 (K:=K) h (by rw[hl];exact aQ 4) λw' b c z=>hk w' (by
  rw[b];congr 1;unfold fX;rw[List.take_zero,aX,bW (by rw[hl];exact aQ _),List.append_nil]) c z
structure OpK(b:Bs)(a most:Nat)(w:World)(K:Value->World->Prop):Prop where
 ok:∀(x:FV) (to9:Nat) w',oH b a most=.ok (x.f,to9)->FR w' x->(∀ad,x.ep=some ad->x.ext.length*1≠0->w.heap.size<=ad.block)->(∀ad,x.bp=some ad->x.body.length*1≠0->w.heap.size<=ad.block)->Ch (λ_=>False) w w'->K (.tuple (Array.mk [x.v,.int .i64 (to9:Int),.int .i64 0])) w'
 no:∀(e:Nat) w',oH b a most=.error e->Ch (λ_=>False) w w'->K (.tuple (Array.mk [fv0.v,.int .i64 0,.int .i64 (e:Int)])) w'
theorem gW(b:Bs)(i:Nat):bL b i<256:=UInt8.toNat_lt _
theorem aLc{b:Bs}{a:Nat}(h:a<b.length):bO (Note.sub b a 1)=bL b a:=by
 have e:(b.drop a).take 1=[b[a]]:=by rw[dB h];rfl
 unfold Note.sub bL;rw[e,aK h];simp[bO]
theorem aS5{b:Bs}{p:Option Addr}{c a most:Nat}{w:World}(hr:Rd w p b.length 1 (aV b))(hcap:b.length<=c)(hbl:b.length<=2^40)(ha:a<=b.length)(hm:512<=most/\most<=1048576){K:Value->World->Prop}(hK:OpK b a most w K) :
 bK Tryz.prog 65 [.slice p b.length c,.int .i64 (a:Int),.int .i64 (most:Int)] w K:=by
 apply aFn;have hop:oH b a most=if b.length-a<4 then .error 10
  else if bO (Note.sub b a 4)<8\/most<bO (Note.sub b a 4)then .error 51
  else if b.length-a<5 then .error 10
  else if 4*bL b (a+4)<8\/bO (Note.sub b a 4)<4*bL b (a+4)then .error 52
  else if b.length-a<6 then .error 10
  else if 1<bL b (a+5)then .error 53
  else if b.length-a<bO (Note.sub b a 4)then .error 10
  else .ok (⟨(bL b (a+5):Int),if bL b (a+5)=0 then(bO (Note.sub b (a+6) 2):Int)else 0,Note.sub b (a+8) (4*bL b (a+4)-8),Note.sub b (a+4*bL b (a+4)) (bO (Note.sub b a 4)-4*bL b (a+4))⟩,a+bO (Note.sub b a 4)):=by
  unfold oH;rw[aN]
 obtain⟨hok,hno⟩:=hK;generalize oH b a most=o at hok hno hop;refine bD λw1 b1 c1 z1=>?_;have b1l:=aH b1;simp only[add_at,aL,cO,dS,aM];have err:∀ {w':World} (e:Nat),o=.error e->Ch (λ_=>False) w1 w'->Sv.st w' ⟨w.heap.size,0,none⟩ (.int .i64 0) λw1=>Sv.st w1 ⟨w.heap.size,1,none⟩ (.int .i64 0) λw2=>Sv.st w2 ⟨w.heap.size,2,none⟩ (.slice none 0 0) λw3=>Sv.st w3 ⟨w.heap.size,3,none⟩ (.slice none 0 0) λw4 =>
  ∃n,w4.cell? ⟨w.heap.size,0,none⟩=some (.int .i64 n)/\∃n1,w4.cell? ⟨w.heap.size,1,none⟩=some (.int .i64 n1)/\∃p n2 c,w4.cell? ⟨w.heap.size,2,none⟩=some (.slice p n2 c)/\∃p1 n3 c1,w4.cell? ⟨w.heap.size,3,none⟩=some (.slice p1 n3 c1) /\
   K (.tuple (Array.mk [.agg (Array.mk [.int .i64 n,.int .i64 n1,.slice p n2 c,.slice p1 n3 c1]),.int .i64 0,.int .i64 (e:Int)])) w4:=by
  intro w' e he hc;refine aM3 (x:=fv0) ((hc.blk b1l id).trans b1) rfl λw4 b4 c4 z4=>?_;exact⟨_,aJ b4 0 rfl,_,aJ b4 1 rfl,_,_,_,aJ b4 2 rfl,_,_,_,aJ b4 3 rfl,hno e w4 he ((c1.trans' hc).trans c4 λj hj q=>by omega)⟩
 refine⟨λw2=>w2=w1,?_,cG (by simp) (cG (by simp;omega) (cG (by simp;omega) (xA (bB (by omega)) rfl)))⟩;rintro w2 rfl;obtain⟨D,hD⟩:∃D,D=b.drop a:=⟨_,rfl⟩;have hDl:D.length=b.length-a:=by rw[hD,aN]
 have hr1:=hr.ch c1 λ_ _ _=>id;have hDr:Rd w2 (gI p a c 1) D.length 1 (aV D):=by
  rw[hDl,hD,aK4];exact uN hr1 (by omega) hcap
 have hDn:Rd w2 (gI p a c 1) (b.length-a) 1 (aV D):=by rw[<-hDl];exact hDr
 have hsub:∀j n,Note.sub D j n=Note.sub b (a+j) n:=λj n=>by rw[hD,aQ9]
 refine⟨by omega,by omega,?_⟩;refine aC (λq=>?_) (λq=>?_)
 ·have q:=aB q;exact err 10 (by rw[hop,aF]) (Ch.refl _ _)
 have q:=aA q;rw[aD]at hop;refine rI (a:=0) (k:=4) hDn (by omega) (by omega) (by decide) (by decide) (by omega) ⟨_,rfl,?_⟩;rw[hsub,cO];have hS:=gP (Note.sub b a 4);have hSl:(Note.sub b a 4).length<=4:=by unfold Note.sub;rw[aU];omega
 have hS:bO (Note.sub b a 4)<4294967296:=Nat.lt_of_lt_of_le hS (Nat.pow_le_pow_right (by decide) hSl);generalize hSe:bO (Note.sub b a 4)=S at hS hop ⊢;refine⟨λw4=>w4=w2/\8<=S/\S<=most,?_,?_⟩
 rotate_left
 ·refine aC (λg=>?_) (λg=>?_)
  ·have g:¬(S:Int)<8:=by simpa using g
   refine aC (λg2=>?_) (λg2=>⟨by trivial,by omega,by have:=aA g2;omega⟩);have g2:=aB g2;exact err 51 (by rw[hop,aF]) (Ch.refl _ _)
  ·have g:(S:Int)<8:=by simpa using g
   exact err 51 (by rw[hop,aF]) (Ch.refl _ _)
 rintro w4 ⟨rfl,hS8,hSm⟩;rw[aD]at hop;refine aC (λq=>?_) (λq=>?_)
 ·have q:=aB q;exact err 10 (by rw[hop,aF]) (Ch.refl _ _)
 have q:=aA q;rw[aD]at hop;refine rI (a:=4) (k:=1) hDn (by omega) (by omega) (by decide) (by decide) (by omega) ⟨_,rfl,?_⟩;rw[hsub,aLc (by omega)];have hO:=gW b (a+4);rw[aW (n:=4*(bL b (a+4):Int)),show 4*(bL b (a+4):Int)=((4*bL b (a+4):Nat):Int) by omega,nameI_iff];generalize hOe:4*bL b (a+4)=O at hop ⊢;refine⟨λw6=>w6=w4/\8<=O/\O<=S,?_,?_⟩
 rotate_left
 ·refine aC (λg=>?_) (λg=>?_)
  ·have g:¬(O:Int)<8:=by simpa using g
   refine aC (λg2=>?_) (λg2=>⟨by trivial,by omega,by have:=aA g2;omega⟩);have g2:=aB g2;exact err 52 (by rw[hop,aF]) (Ch.refl _ _)
  ·have g:(O:Int)<8:=by simpa using g
   exact err 52 (by rw[hop,aF]) (Ch.refl _ _)
 rintro w6 ⟨rfl,hO8,hOS⟩;rw[aD]at hop;refine aC (λq=>?_) (λq=>?_)
 ·have q:=aB q;exact err 10 (by rw[hop,aF]) (Ch.refl _ _)
 have q:=aA q;rw[aD]at hop;refine rI (a:=5) (k:=1) hDn (by omega) (by omega) (by decide) (by decide) (by omega) ⟨_,rfl,?_⟩;rw[hsub,aLc (by omega)];have hT:=gW b (a+5);generalize hTe:bL b (a+5)=T at hT hop ⊢;refine bD λw8 b8 c8 z8=>?_;simp only[add_at,aL];refine aM3 (x:=⟨(T:Int),0,none,0,[],none,0,[]⟩) b8 rfl λw12 b12 c12 z12=>?_;have c612:Ch (λ_=>False) w6 w12:=c8.trans c12 λj hj q=>by omega
 refine⟨_,aJ b12 0 rfl,aEi ⟨_,rfl,?_⟩⟩;refine aC (λg=>?_) (λg=>?_)
 ·have g:¬((T:Int)=0\/(T:Int)=1):=by simpa using g
  exact err 53 (by rw[hop,aF]) c612
 have hT1:T<=1:=by
  have:decide ((T:Int)=0\/(T:Int)=1)=true:=by
   cases hx:decide ((T:Int)=0\/(T:Int)=1)with
   | true=>rfl
   | false=>rw[hx]at g;cases g
  have:=aB this;omega
 rw[aD]at hop;refine aC (λg2=>?_) (λg2=>?_)
 ·have g2:=aB g2;exact err 10 (by rw[hop,aF]) c612
 have g2:=aA g2;rw[aD]at hop;have hD12:=hDn.ch c612 λ_ _ _=>id;obtain⟨CH,hCH⟩:∃CH:Nat,CH=if T=0 then bO (Note.sub b (a+6) 2)else 0:=⟨_,rfl⟩;refine⟨λw14=>blk w14 w6.heap.size=some (FV.g ⟨(T:Int),(CH:Int),none,0,[],none,0,[]⟩)/\Ch (λj=>j=w6.heap.size) w12 w14,?_,?_⟩
 rotate_left
 ·refine⟨_,aJ b12 0 rfl,?_⟩;refine aC (λg3=>?_) (λg3=>?_)
  ·have g3:(T:Int)=0:=aB g3;refine rI (a:=6) (k:=2) hD12 (by omega) (by omega) (by decide) (by decide) (by omega) ⟨_,rfl,?_⟩;rw[hsub];refine eK b12 (by simp[FV.g]) λw13 b13 c13 z13=>⟨?_,c13⟩;rw[b13,hCH,aF];rfl
  ·have g3:¬(T:Int)=0:=aA g3;refine⟨?_,Ch.refl _ _⟩;rw[b12,hCH,aD];rfl
 rintro w14 ⟨b14,c14⟩;have c614:Ch (λ_=>False) w6 w14:=c612.trans c14 λj hj q=>by omega
 have hD14:=hDr.ch c614 λ_ _ _=>id;have h614:=c614.size;have b14l:=aH b14;have h6:=c1.size;refine aKu (N:=w.heap.size) hD14 (by omega) (by omega) (j:=8) (t:=O) hO8 (by omega) (by omega) hDl.symm λq1 w15 o15=>⟨_,_,_,rfl,?_⟩;have b15:=(o15.ch.blk b14l id).trans b14;refine eK b15 (by simp[FV.g]) λw16 b16 c16 z16=>?_;have c1416:Ch (λj=>j=w6.heap.size) w14 w16:=(o15.ch.mono λ_ _ h=>h.elim).trans' c16;have c616:Ch (λ_=>False) w6 w16:=c614.trans c1416 λj hj q=>by omega
 have hD16:=hDr.ch c616 λ_ _ _=>id;have h616:=c616.size;refine aKu (N:=w.heap.size) hD16 (by omega) (by omega) (j:=O) (t:=S) hOS (by omega) (by omega) hDl.symm λq2 w17 o17=>⟨_,_,_,rfl,?_⟩;have b17:=(o17.ch.blk (aH b16) id).trans b16;refine eK b17 (by simp[FV.g]) λw18 b18 c18 z18=>?_;have hl15:=o15.len;have hl17:=o17.len;have b18:blk w18 w6.heap.size=some (FV.g ⟨(T:Int),(CH:Int),q1,O-8,Note.sub D 8 (O-8),q2,S-O,Note.sub D O (S-O)⟩):=by
  rw[b18];unfold FV.g;dsimp only;rw[hl15,hl17];rfl
 refine⟨_,aJ b18 0 rfl,_,aJ b18 1 rfl,_,_,_,aJ b18 2 rfl,_,_,_,aJ b18 3 rfl,?_⟩;have c618:Ch (λ_=>False) w6 w18:=(c616.trans' o17.ch).trans c18 λj hj q=>by omega
 refine aM3 (x:=⟨(T:Int),(CH:Int),q1,O-8,Note.sub D 8 (O-8),q2,S-O,Note.sub D O (S-O)⟩) ((c618.blk b1l id).trans b1) rfl λw22 b22 c22 z22=>?_;rw[aW (n:=(a:Int)+(S:Int)),show(a:Int)+(S:Int)=((a+S:Nat):Int) by omega,nameI_iff];refine⟨_,aJ b22 0 rfl,_,aJ b22 1 rfl,_,_,_,aJ b22 2 rfl,_,_,_,aJ b22 3 rfl,?_⟩;have hlt15:=o15.rd.lt;have hlt17:=o17.rd.lt;have box:∀ad:Addr,w.heap.size<=ad.block->ad.block≠w.heap.size\/True:=λ_ _=>.inr trivial;have bne:∀ {w':World} {q:Option Addr} {n:Nat} {l:Bs} {x:FV} {k:Nat},Rd w' q n 1 (aV l)->blk w' k=some x.g->∀ad,q=some ad->n*1≠0->ad.block≠k:=λ{w' q n l x k} hr hb ad ha h0 e=>by
  obtain⟨b',o,hp,hc⟩:=hr.cell (i:=0) (by omega);rw[hp]at ha;cases ha;have e:b'=k:=e;subst e;rw[eA hb]at hc;have hl:l.length=n:=by have:=hr.1;simpa using this
  cases l with
  | nil=>simp at hl;omega
  | cons y l =>
   have hc:x.g[o+0]?=some (.int .u8 (y.toNat:Int)):=hc;unfold FV.g at hc;rcases o with _|_|_|_|o
   ·cases hc
   ·cases hc
   ·cases hc
   ·cases hc
   ·simp at hc
 have hs15:=o15.ch.size;have hs17:=o17.ch.size;have b1':∀ {w':World},Ch (λ_=>False) w6 w'->blk w' w.heap.size=some fv0.g:=λhc=>(hc.blk b1l id).trans b1;have r15_22:Rd w22 q1 (O-8) 1 (aV (Note.sub D 8 (O-8))):=((((o15.rd.ch c16 (bne o15.rd b15)).ch o17.ch λ_ _ _=>id).ch c18 (λad h1 h2 q=>bne (o15.rd.ch c16 (bne o15.rd b15)) (x:=⟨(T:Int),(CH:Int),q1,O-8,Note.sub D 8 (O-8),none,0,[]⟩) (by rw[b16];unfold FV.g;dsimp only;rw[hl15];rfl) ad h1 h2 q)).ch c22 λad h1 h2 q=>?_)
 ·have r17_22:Rd w22 q2 (S-O) 1 (aV (Note.sub D O (S-O))):=(o17.rd.ch c18 (bne o17.rd (x:=⟨(T:Int),(CH:Int),q1,O-8,Note.sub D 8 (O-8),none,0,[]⟩) (by rw[b17];unfold FV.g;dsimp only;rw[hl15];rfl))).ch c22 λad h1 h2 q=>?_
  ·refine hok ⟨(T:Int),(CH:Int),q1,O-8,Note.sub D 8 (O-8),q2,S-O,Note.sub D O (S-O)⟩ (a+S) w22 ?_ ⟨by show Rd w22 q1 _ 1 _;rw[hl15];exact r15_22,by show Rd w22 q2 _ 1 _;rw[hl17];exact r17_22,by show(Note.sub D 8 (O-8)).length<=_;rw[hl15];omega,by show(Note.sub D O (S-O)).length<=_;rw[hl17];omega,by show(Note.sub D 8 (O-8)).length<=O-8;omega,by show(Note.sub D O (S-O)).length<=S-O;omega⟩
    (λad h1 h2=>o15.new ad h1 (by rw[<-hl15];exact h2)) (λad h1 h2=>o17.new ad h1 (by rw[<-hl17];exact h2)) ((c1.trans' c618).trans c22 λj hj q=>by omega)
   rw[hop];show _=Except.ok (Fr.mk (T:Int) (CH:Int) (Note.sub D 8 (O-8)) (Note.sub D O (S-O)),a+S);rw[hsub,hsub,hCH];congr 3;split<;>rfl
  ·exact bne (o17.rd) (x:=fv0) (b1' (c616.trans' o17.ch)) ad h1 h2 q
 ·exact bne o15.rd (x:=fv0) (b1' (c614.trans' o15.ch)) ad h1 h2 q
def eR(R:Bs):Nat:=if 4<R.length/\(bL R 4=0\/bL R 4=3)then bL R 4 else 0
theorem aJ3(R:Bs):eR R=0\/eR R=3:=by
 unfold eR;split
 ·rename_i h;exact h.2
 ·exact .inl rfl
theorem aUm{r:Nat}(h:r<=4):(iE 3).take r=(iE 0).take r:=by
 have hr:r=0\/r=1\/r=2\/r=3\/r=4:=by omega
 rcases hr with rfl|rfl|rfl|rfl|rfl<;>rfl
theorem aS0{R:Bs}{p:Nat}(hp:p<256)(h:R=(iE p).take R.length)(hl:4<R.length):bL R 4=p:=by
 have h4:R[4]?=some (UInt8.ofNat p):=by
  rw[h,cZ,aF hl];rfl
 unfold bL;rw[h4];show(UInt8.ofNat p).toNat=p;rw[UInt8.toNat_ofNat'];omega
theorem aU5{b:Bs}{a:Nat}(ha:a<=b.length):nN b a=if Note.sub b a 8≠(iE (eR (Note.sub b a 8))).take (Note.sub b a 8).length then .error 50 else if(Note.sub b a 8).length<8 then .error 10 else .ok (eR (Note.sub b a 8),a+8):=by
 have hl:(b.drop a).length<8↔(Note.sub b a 8).length<8:=by unfold Note.sub;rw[aU];omega
 unfold nN aLn;simp only[hl];generalize Note.sub b a 8=R;by_cases h4:4<R.length
 ·by_cases h0:R=(iE 0).take R.length
  ·have hy:=aS0 (by decide) h0 h4;have hp:eR R=0:=by unfold eR;rw[aF ⟨h4,.inl hy⟩,hy]
   rw[hp,aR h0,aD (show¬((true:Bool)=false/\_) by simp),aD (show¬(R≠(iE 0).take R.length)from λq=>q h0)];simp
  ·by_cases h3:R=(iE 3).take R.length
   ·have hy:=aS0 (by decide) h3 h4;have hp:eR R=3:=by unfold eR;rw[aF ⟨h4,.inr hy⟩,hy]
    rw[hp,bB h0,aR h3,aD (show¬((false:Bool)=false/\(true:Bool)=false) by simp),aD (show¬(R≠(iE 3).take R.length)from λq=>q h3)];simp
   ·rw[bB h0,bB h3,aF (by simp),_root_.if_pos];rcases aJ3 R with hp|hp<;>rw[hp]
    ·exact h0
    ·exact h3
 ·have hp:eR R=0:=by unfold eR;rw[aD λq=>h4 q.1]
  rw[hp,aUm (by omega)];by_cases h0:R=(iE 0).take R.length
  ·rw[aR h0,aD (show¬((true:Bool)=false/\(true:Bool)=false) by simp),aD (show¬(R≠(iE 0).take R.length)from λq=>q h0),aF (show R.length<8 by omega),aF (show R.length<8 by omega)]
  ·rw[bB h0,aF (by simp),aF h0]
structure HdK(b:Bs)(a:Nat)(w:World)(K:Value->World->Prop):Prop where
 ok:∀(p to9:Nat) w',nN b a=.ok (p,to9)->Ch (λ_=>False) w w'->K (.tuple (Array.mk [.int .i64 (p:Int),.int .i64 (to9:Int),.int .i64 0])) w'
 no:∀(e:Nat) w',nN b a=.error e->Ch (λ_=>False) w w'->K (.tuple (Array.mk [.int .i64 0,.int .i64 0,.int .i64 (e:Int)])) w'
theorem aSv{w:World}{k p:Nat}{zs:List Value}(h:blk w k=some zs)(hl:zs.length=8){K:World->Prop}(hK:∀w',blk w' k=some (aV (iE p))->Ch (·=k) w w'->K w') :
 Sv.st w ⟨k,0,none⟩ (.int .u8 76) λw2=>Sv.st w2 ⟨k,1,none⟩ (.int .u8 83) λw3=>Sv.st w3 ⟨k,2,none⟩ (.int .u8 72) λw4=>Sv.st w4 ⟨k,3,none⟩ (.int .u8 82) λw5=>Sv.st w5 ⟨k,4,none⟩ (.int .u8 ((UInt8.ofNat p).toNat:Int)) λw6=>Sv.st w6 ⟨k,5,none⟩ (.int .u8 1) λw7=>Sv.st w7 ⟨k,6,none⟩ (.int .u8 0) λw8=>Sv.st w8 ⟨k,7,none⟩ (.int .u8 0) K :=
 oQ (aV (iE p)) 0 (K:=K) h (by rw[hl];exact aQ 8) λw' b c z=>hK w' (by
  rw[b];congr 1;unfold fX;rw[List.take_zero,aX,bW (by rw[hl];exact aQ 8),List.append_nil]) c
theorem aEk{b:Bs}{p:Option Addr}{c a:Nat}{w:World}(hr:Rd w p b.length 1 (aV b))(hcap:b.length<=c)(hbl:b.length<=2^40)(ha:a<=b.length){K:Value->World->Prop}(hK:HdK b a w K) :
 bK Tryz.prog 64 [.slice p b.length c,.int .i64 (a:Int)] w K:=by
 apply vB;obtain⟨hok,hno⟩:=hK;have he:=aU5 ha;generalize nN b a=o at hok hno he;obtain⟨R,hR⟩:∃R,R=Note.sub b a 8:=⟨_,rfl⟩;rw[<-hR]at he;have hRl:R.length=min 8 (b.length-a):=by rw[hR];unfold Note.sub;rw[aU,aN]
 have hRs:R=Note.sub b a R.length:=by
  rw[hRl,hR];unfold Note.sub;rw[List.take_eq_take_iff,aN];omega
 refine⟨λw1=>w1=w,?_,cG (by simp) (xA (bB (by omega)) rfl)⟩;rintro w1 rfl;rw[aW (n:=(a:Int)+8)];have hmin:min ((a:Int)+8) (b.length:Int)=((a+R.length:Nat):Int):=by omega
 rw[hmin];have e1:((a:Nat):Int).toNat=a:=aM _;have e2:((a+R.length:Nat):Int).toNat=a+R.length:=aM _;simp only[e1,e2,show a+R.length-a=R.length by omega,dS];have e3:((R.length:Nat):Int).toNat=R.length:=aM _;simp only[e3];refine⟨by omega,by omega,by omega,by omega,?_⟩;refine wM (p:=0) (by decide) λw2 c2=>⟨_,_,_,_,_,_,_,_,rfl,?_⟩;refine bD λw3 b3 c3 z3=>?_;simp only[add_at,aL];refine aSv (p:=0) b3 rfl λw11 b11 c11=>?_;have hz2:=c2.size;have c1_11:Ch (λ_=>False) w1 w11:=(c2.trans' c3).trans c11 λj hj q=>by omega
 have hr11:=hr.ch c1_11 λ_ _ _=>id;have hl11:=aH b11;have hRd:∀ {w':World},Rd w' p b.length 1 (aV b)->Rd w' (gI p a c 1) R.length 1 (aV R):=λh=>by
  have:=uN h (j:=a) (m:=R.length) (by omega) hcap
  rwa [<-hRs]at this
 refine⟨λw12=>blk w12 w2.heap.size=some (aV (iE (eR R)))/\Ch (·=w2.heap.size) w11 w12,?_,?_⟩
 ·rintro w12 ⟨b12,c12⟩;have cd:Ch (λ_=>False) w12 w12.drew:=Ch.d0;have c1_12:Ch (λ_=>False) w1 w12.drew:=(c1_11.trans c12 λj hj q=>by omega).new cd;have b12d:blk w12.drew w2.heap.size=some (aV (iE (eR R))):=b12;have h8:(iE (eR R)).length=8:=rfl;have hRH:Rd w12.drew (some ⟨w2.heap.size,0,none⟩) R.length 1 (aV ((iE (eR R)).take R.length)):=by
   refine⟨by rw[bytesV_length,aU,h8];omega,.inr ⟨_,0,_,rfl,gX b12d,by rw[bytesV_length,h8];omega,?_⟩⟩;rw[bS,Nat.mul_one];unfold aV;rw[List.map_take]
  refine⟨by omega,by omega,_,cD fD iL dN (hRd (hr.ch c1_12 λ_ _ _=>id)),_,cD fD iL dN hRH,?_⟩;rw[nX];refine aC (λq=>?_) (λq=>?_)
  ·have q:R≠(iE (eR R)).take R.length:=by simpa using q
   exact hno 50 _ (by rw[he,aF q]) c1_12
  have q:R=(iE (eR R)).take R.length:=by simpa using q
  rw[aD (λh=>h q)]at he;refine aC (λq2=>?_) (λq2=>?_)
  ·have q2:=aB q2;exact hno 10 _ (by rw[he,aF]) c1_12
  ·have q2:=aA q2;rw[aD]at he;have hy:=aJ3 R;have hcell:w12.drew.cell? ⟨w2.heap.size,4,none⟩=some (.int .u8 ((UInt8.ofNat (eR R)).toNat:Int)):=aJ b12d 4 rfl;refine⟨by decide,by decide,_,hcell,?_⟩;have hu:(UInt8.ofNat (eR R)).toNat=eR R:=by rw[UInt8.toNat_ofNat'];omega
   rw[hu,aW (n:=(eR R:Int)),nameI_iff,nameI_iff];have:=hok (eR R) (a+8) _ he c1_12;rw[show((a+8:Nat):Int)=(a:Int)+8 by omega]at this;exact this
 ·refine aC (λq=>?_) (λq=>?_)
  ·have q:=aB q;have q:4<R.length:=by omega
   refine⟨by decide,by omega,?_⟩;obtain⟨kb,ob,hpe,hcell⟩:=aBv (hRd hr11) q;rw[hpe];simp only[nn_some,add_at];refine⟨_,hcell,?_⟩;have hx:=gW R 4;rw[aW (n:=(bL R 4:Int))];refine aAt ⟨_,rfl,?_⟩;refine aC (λg=>?_) (λg=>?_)
   ·have g:=aB g;refine⟨by decide,by omega,_,hcell,?_⟩;rw[aW (n:=(bL R 4:Int))];refine wM (p:=bL R 4) (by omega) λw13 c13=>⟨_,_,_,_,_,_,_,_,rfl,?_⟩;refine aSv (p:=bL R 4) ((c13.blk hl11 id).trans b11) rfl λw21 b21 c21=>?_;have hp:eR R=bL R 4:=by unfold eR;rw[aF ⟨q,by omega⟩]
    rw[hp];exact⟨b21,(c13.mono λ_ _ h=>h.elim).trans' c21⟩
   ·have g:=aA g;have hp:eR R=0:=by unfold eR;rw[aD λh=>g (by omega)]
    rw[hp];exact⟨b11,Ch.refl _ _⟩
  ·have q:=aA q;have hp:eR R=0:=by unfold eR;rw[aD λh=>q (by omega)]
   rw[hp];exact⟨b11,Ch.refl _ _⟩
end Go.Proofs.YtlfhjkgdlclddaaGreatDoor
