/-
  The program's lens: a body's words, an item's line. The program's lens: an item's line. A note's reading, in plain Lean: what is read does not look behind itself. No program in sight. A note's reading, in plain Lean: what is read does not look behind itself. No program in sight. A note with a rest behind it, in plain Lean: where its reading ends. No program in sight. A connection's bytes as text, in plain Lean: a line is read as the item that it was written of. No program in sight. The codec of values in plain Lean: a reading does not look behind its end. No program in sight. A connection's bytes as text, in plain Lean: a line is read as the item that it was written of. No program in sight. A connection's bytes as text, in plain Lean: written as lines and read again, they are these bytes. No program in sight. A connection's bytes as text, in plain Lean: written as lines and read again, they are these bytes. No program in sight. The program's lens: the next item, a connection's lines. The program's lens: where a word in quotes ends, what it says. The program's lens: a body's bytes out of its words. The program's lens: a body's bytes out of its words: the walk. DERIVED: THE SHELF's CONTRACTS AT THIS DUMP, IN PLAIN WORDS (tools/lay-plain.mjs out of 'YtlfhjkgdlclddaaGreatDoorShelf5.lean', which tools/lay-shelf.mjs wrote): THE SAME DECLARATIONS UNDER THE SAME NAMES: 'import', 'namespace', 'open', 'def', 'theorem' AND NOTHING ELSE: no command of the shelf's: FOR A HAND-IN. Each laying: the table of numbers ('.._ren') and one theorem, a field a fact of the dump's own or the kernel's comparison; each contract: ONE APPLICATION.
-/
import Derived.Test.YtlfhjkgdlclddaaGreatDoorPx26
import Derived.Shelf.Strings.SlTrimAscii
import Derived.Shelf.Strconv.AtoiAll
import Derived.Test.YtlfhjkgdlclddaaGreatDoorProg
set_option linter.unusedVariables false
set_option linter.unusedSimpArgs false
set_option maxRecDepth 4000
namespace Go.Proofs.YtlfhjkgdlclddaaGreatDoor
open Go Go.Sv Go.Note
attribute [local irreducible] aS
theorem aN7{c:Nat}(hc:c<=65535){w:World}(hL:LW w){K:Value->World->Prop}(hk:∀w',Ch (λ_=>False) w w'->K (.string ⟨(Lib.decDigits c).toArray⟩) w'):bK Tryz.prog 22 [.int .i64 (c:Int)] w K:=by
 refine Calls.mono (Tryz.strconv_Itoa (c:Int) (by omega) (by omega) w hL.pow) ?_;rintro e w' ⟨rfl,kk,os,rfl⟩;have hi:Lib.itoa (c:Int)=Lib.decDigits c:=by
  unfold Lib.itoa;rw[aD,aM]
 rw[hi];exact⟨_,rfl,hk _ ((⟨rfl,rfl,rfl,aQ _,λ_ _ _=>rfl⟩:Ch (λ_=>False) w (w.drewN kk)).trans' (qJ os))⟩
theorem cV(l:Bs):(ByteArray.mk l.toArray).size=l.length:=by show l.toArray.size=_;simp
theorem aMv{x:FV}{w:World}{K:Value->World->Prop}(hk:∀w',Ch (λ_=>False) w w'->K (.bool (aAf x.f)) w'):bK Tryz.prog 25 [x.v] w K:=by
 obtain⟨ty,ch,ep,ec,ext,bp,bc,body⟩:=x;apply aDg;refine bD λw1 b1 c1 z1=>?_;have b1:blk w1 w.heap.size=some [.int .i64 ty,.int .i64 ch,.slice ep ext.length ec,.slice bp body.length bc]:=b1;simp only[add_at,aL,dS];have hk1:=hk w1 c1;have hz:aAf (FV.f ⟨ty,ch,ep,ec,ext,bp,bc,body⟩)=(decide (ty=0) && decide (ch=0) && decide (ext=[]) && decide (body=[])):=rfl;rw[hz]at hk1;have e0:∀l:Bs,decide ((l.length:Int)=0)=decide (l=[]):=λl=>decide_eq_decide.2 (by rw[<-List.length_eq_zero_iff];omega);refine⟨_,aJ b1 0 rfl,aC (λq=>?_) (λq=>?_)⟩
 rotate_left
 ·rw[q]at hk1;simpa using hk1
 rw[q]at hk1;refine⟨_,aJ b1 1 rfl,aC (λq2=>?_) (λq2=>?_)⟩
 rotate_left
 ·rw[q2]at hk1;simpa using hk1
 rw[q2]at hk1;refine⟨_,_,_,aJ b1 2 rfl,?_⟩;rw[e0];refine aC (λq3=>?_) (λq3=>?_)
 rotate_left
 ·rw[q3]at hk1;simpa using hk1
 rw[q3]at hk1;refine⟨_,_,_,aJ b1 3 rfl,?_⟩;rw[e0];simpa using hk1
theorem aJ0{b:Bs}(h:b.length<=1048576):(cA b).length<=2^30:=by
 have:=gK b;omega
theorem aRk{w:World}{p:Option Addr}{n:Nat}{l:Bs}(h:Rd w p n 1 (aV l)){k:Nat}(hk:k<=n):Rd w p k 1 (aV (l.take k)):=by
 obtain⟨h1,h2⟩:=h;rw[bytesV_length]at h1;refine⟨by rw[bytesV_length,aU];omega,?_⟩;rcases h2 with h2|⟨b,o,cs,rfl,hb,hl,ht⟩
 ·exact .inl (by omega)
 ·refine .inr ⟨b,o,cs,rfl,hb,by omega,?_⟩;unfold aV at ht ⊢;rw[List.map_take,<-ht,List.take_take];congr 1;omega
theorem aPs{b:Bs}{p:Option Addr}{c:Nat}{w:World}(hr:Rd w p b.length 1 (aV b))(hcap:b.length<=c)(hbl:b.length<=1048576)(hL:LW w){K:Value->World->Prop}(hk:∀w',Ch (λ_=>False) w w'->K (.string ⟨(eF b).toArray⟩) w') :
 bK Tryz.prog 29 [.slice p b.length c] w K:=by
 apply aFi;have hsh:eF b=if b=[]then[]else match oC b 0 with
  | none=>pE b
  | some (m,to9)=>if nI (b.take to9)=false then pE b else if(PrR m).2≠0 then pE b else if 1048576<(kL b m to9).length then pE b else sValue++kL b m to9:=rfl
 generalize eF b=Sh at hk hsh;simp only[dS];rw[show decide ((b.length:Int)=0)=decide (b=[])from decide_eq_decide.2 (by rw[<-List.length_eq_zero_iff];omega)];refine aC (λq=>?_) (λq=>?_)
 ·have q:=aB q;rw[aF q]at hsh;rw[hsh]at hk;exact hk w (Ch.refl _ _)
 have q:=aA q;rw[aD q]at hsh;have hql:=aJ0 hbl;have raw:Sh=pE b->∀ {w':World},Ch (λ_=>False) w w'->∃s1,(convert 22 9 (.slice p b.length c)).run Tryz.prog w'=.ok (.string s1) w'/\bK Tryz.prog 28 [.string s1] w' λv w''=>∃s2,v=.string s2/\((5+s2.size:Nat):Int)<=9223372036854775807/\K (.string (ByteArray.mk (Array.mk [32,114,97,119,32])++s2)) w'':=by
  intro hS w' hc;refine⟨_,cD fD iL dN (hr.ch hc λ_ _ _=>id),?_⟩;refine tX _ (by rw[cV];omega) λw2 c2=>⟨_,rfl,?_,?_⟩
  ·have hl:(cA b).length<=2^30:=hql;show((5+(ByteArray.mk (cA b).toArray).size:Nat):Int)<=_;rw[cV];omega
  ·have:=hk w2 (hc.trans' c2);rw[hS]at this;have e:(ByteArray.mk (Array.mk [32,114,97,119,32])++⟨(cA b).toArray⟩:ByteArray)=⟨(pE b).toArray⟩:=iX sRaw (cA b);show K (.string (ByteArray.mk (Array.mk [32,114,97,119,32])++⟨(cA b).toArray⟩)) w2;rw[e];exact this
 refine aHj (at_:=0) hr hcap hbl (bQ _) hL (λx t w1 hd hvo hxb c1=>is7 ?_) (λa e w1 hd he c1=>is7 ?_)
 rotate_left
 ·rw[hd]at hsh;refine nbx (x:=one 0 0 []) rfl λw7 b7 c7 z7=>?_;refine⟨λ_=>False,λ_ h=>h.elim,xA (by simpa using he) ?_⟩;exact raw hsh (c1.trans' c7)
 rw[hd]at hsh;dsimp only at hsh;obtain⟨dg1,dg2,dg3,dg4,dg5,dg6⟩:=nR hd;have hsz:=aNp x.m;refine nbx (x:=x) rfl λw7 b7 c7 z7=>?_;simp only[add_at,aL];have c07:=c1.trans' c7;have hvo7:=VO.ch c7 x hvo λ_ _=>id;refine⟨λw8=>Ch (λ_=>False) w7 w8/\nI (b.take t)=true,?_,?_⟩
 rotate_left
 ·refine iH ⟨by omega,by omega,?_⟩;have ht:((t:Nat):Int).toNat=t:=aM _;rw[ht];have htl:(b.take t).length=t:=by rw[aU];omega
  have hr7:Rd w7 p (b.take t).length 1 (aV (b.take t)):=by
   rw[htl];exact aRk (hr.ch c07 λ_ _ _=>id) (by omega)
  have hsc:=aLr (b:=b.take t) (p:=p) (c:=c) hr7 (by omega) (by omega) (hL.ch0 c07) (K:=λv1 w8=>∃b1,v1=.bool b1/\aS (!b1) (∃s1,(convert 22 9 (.slice p b.length c)).run Tryz.prog w8=.ok (.string s1) w8/\bK Tryz.prog 28 [.string s1] w8 λv w''=>∃s2,v=.string s2/\((5+s2.size:Nat):Int)<=9223372036854775807/\K (.string (ByteArray.mk (Array.mk [32,114,97,119,32])++s2)) w'') (Ch (λ_=>False) w7 w8/\nI (b.take t)=true)) λw8 c8=>⟨_,rfl,aC (λg=>?_) (λg=>⟨c8,by simpa using g⟩)⟩
  ·rw[htl]at hsc;exact hsc
  ·have g:nI (b.take t)=false:=by simpa using g
   exact raw (by rw[hsh,aF g]) (c07.trans' c8)
 rintro w8 ⟨c8,hs⟩;rw[aD (by rw[hs];decide)]at hsh;have b8:=(c8.blk (aH b7) id).trans b7;have c08:=c07.trans' c8;refine rF b8 ?_;rw[vv];refine aRs (hL.ch0 c08) (VO.vr' (VO.ch c8 x hvo7 λ_ _=>id)) dg2 (by omega) λw9 c9=>⟨_,_,rfl,?_⟩;have c09:=c08.trans' c9;have hr9:=hr.ch c09 λ_ _ _=>id;refine aC (λg=>?_) (λg=>?_)
 ·have g:¬(PrR x.m).2=0:=by simpa[bne,dS]using g
  exact raw (by rw[hsh,aF g]) c09
 have g:(PrR x.m).2=0:=by simpa[bne,dS]using g
 rw[aD (λh=>h g)]at hsh;obtain⟨p1,p2,_,_⟩:=aUc dg2 g;rw[p1];refine⟨λy w10=>y=⟨(kL b x.m t).toArray⟩/\Ch (λ_=>False) w9 w10/\(kL b x.m t).length<=2^32,?_,?_⟩
 ·rintro y w10 ⟨rfl,c10,hl10⟩;rw[cV];refine aC (λg2=>?_) (λg2=>?_)
  ·have g2:=aB g2;exact raw (by rw[hsh,aF]) (c09.trans' c10)
  ·have g2:=aA g2;rw[aD]at hsh;refine⟨by omega,?_⟩;have:=hk w10 (c09.trans' c10);rw[hsh]at this;have e:(ByteArray.mk (Array.mk [32,118,97,108,117,101,32])++⟨(kL b x.m t).toArray⟩:ByteArray)=⟨(sValue++kL b x.m t).toArray⟩:=iX sValue _;rw[e];exact this
 ·refine aC (λg2=>?_) (λg2=>?_)
  ·have g2:=aB g2;have ht:((t:Nat):Int).toNat=t:=aM _;have hT:kL b x.m t=bM x.m++(sRest++cA (b.drop t)):=by unfold kL;rw[aF]
   refine⟨by omega,by omega,?_⟩;rw[ht];have hdl:(b.drop t).length=b.length-t:=aN;have hrd:Rd w9 (gI p t c 1) (b.length-t) 1 (aV (b.drop t)):=by
    rw[aK4];exact uN hr9 (by omega) hcap
   refine⟨_,cD fD iL dN hrd,?_⟩;have hq2:=aJ0 (b:=b.drop t) (by omega);refine tX _ (by rw[cV];omega) λw10 c10=>⟨_,rfl,?_,?_,?_⟩
   ·show((6+(ByteArray.mk (cA (b.drop t)).toArray).size:Nat):Int)<=_;rw[cV];omega
   ·show(((ByteArray.mk (bM x.m).toArray).size+(ByteArray.mk (Array.mk [32,114,101,115,116,32])++⟨(cA (b.drop t)).toArray⟩:ByteArray).size:Nat):Int)<=_;have e:(ByteArray.mk (Array.mk [32,114,101,115,116,32])++⟨(cA (b.drop t)).toArray⟩:ByteArray)=⟨(sRest++cA (b.drop t)).toArray⟩:=iX sRest _;rw[e,cV,cV,aG];have:sRest.length=6:=rfl;omega
   ·have e:(ByteArray.mk (Array.mk [32,114,101,115,116,32])++⟨(cA (b.drop t)).toArray⟩:ByteArray)=⟨(sRest++cA (b.drop t)).toArray⟩:=iX sRest _;refine⟨?_,c10,?_⟩
    ·show(⟨(bM x.m).toArray⟩++(ByteArray.mk (Array.mk [32,114,101,115,116,32])++⟨(cA (b.drop t)).toArray⟩):ByteArray)=_;rw[e,iX,hT]
    ·rw[hT,aG,aG];have:sRest.length=6:=rfl;omega
  ·have g2:=aA g2;have hT:kL b x.m t=bM x.m:=by unfold kL;rw[aD]
   exact⟨by rw[hT],Ch.refl _ _,by rw[hT];omega⟩
structure IV where
 kind:Int
 proto:Int
 fv:FV
def IV.g(x:IV):List Value:=[.int .i64 x.kind,.int .i64 x.proto,.int .i64 x.fv.ty,.int .i64 x.fv.ch,.slice x.fv.ep x.fv.ext.length x.fv.ec,.slice x.fv.bp x.fv.body.length x.fv.bc]
def IV.v(x:IV):Value:=.agg x.g.toArray
def IV.i(x:IV):It:=⟨x.kind,x.proto,x.fv.f⟩
theorem aPa{b:Bs}(h:b.length<=1048576):(eF b).length<=2^34:=by
 have hq:=gK b;have hr:(pE b).length<=2^34:=by
  unfold pE;rw[aG];have:sRaw.length=5:=rfl;omega
 unfold eF;split
 ·simp
 split
 ·exact hr
 ·split
  ·exact hr
  split
  ·exact hr
  split
  ·exact hr
  ·rw[aG];have:sValue.length=7:=rfl;omega
theorem yV{f:Fr}(h:fN f=0):(f.ty=0\/f.ty=1)/\0<=f.ch/\f.ch<=65535/\f.ext.length<=1012/\f.body.length<=1048576:=by
 unfold fN aJl at h;split at h
 ·cases h
 split at h
 ·cases h
 split at h
 ·cases h
 split at h
 ·cases h
 omega
theorem xP{x:IV}{w:World}(h:FR w x.fv)(hL:LW w){K:Value->World->Prop}(hk:∀w',Ch (λ_=>False) w w'->K (.tuple (Array.mk [.string ⟨(eU x.i).1.toArray⟩,.int .i64 ((eU x.i).2:Int)])) w') :
 bK Tryz.prog 10 [x.v] w K:=by
 obtain⟨kind,proto,⟨ty,ch,ep,ec,ext,bp,bc,body⟩⟩:=x;have hli:eU (IV.i ⟨kind,proto,⟨ty,ch,ep,ec,ext,bp,bc,body⟩⟩)=if kind=1/\aAf ⟨ty,ch,ext,body⟩=true then
  if proto≠0/\proto≠3 then([],50)else if proto=3 then(lR,0)else(oR,0)
  else if kind≠2\/proto≠0 then([],280)
  else if fN ⟨ty,ch,ext,body⟩≠0 then([],fN ⟨ty,ch,ext,body⟩)
  else(iV ⟨ty,ch,ext,body⟩,0):=rfl
 have hfs:iV ⟨ty,ch,ext,body⟩=(if ty=0 then sMain++Lib.decDigits ch.toNat else iR)++(if ext=[]then[]else sExt++cA ext)++eF body:=rfl;generalize eU (IV.i ⟨kind,proto,⟨ty,ch,ep,ec,ext,bp,bc,body⟩⟩)=LR at hk hli;apply aH8;refine bD λw1 b1 c1 z1=>?_;have b1:blk w1 w.heap.size=some [.int .i64 kind,.int .i64 proto,.int .i64 ty,.int .i64 ch,.slice ep ext.length ec,.slice bp body.length bc]:=b1;have b1l:=aH b1;have h1:FR w1 ⟨ty,ch,ep,ec,ext,bp,bc,body⟩:=h.ch0 c1;have hL1:=hL.ch0 c1;simp only[add_at,aL,cO,Nat.reduceAdd,dS];have ret:∀ {w':World} (l:Bs) (e:Nat),LR=(l,e)->Ch (λ_=>False) w1 w'->K (.tuple (Array.mk [.string ⟨l.toArray⟩,.int .i64 (e:Int)])) w':=by
  intro w' l e he hc;have:=hk w' (c1.trans' hc);rw[he]at this;exact this
 refine⟨λw2=>Ch (λ_=>False) w1 w2/\kind=2/\proto=0,?_,?_⟩
 ·rintro w2 ⟨c2,hk2,hp0⟩;rw[aD,aD]at hli;have b2:=(c2.blk b1l id).trans b1;have h2:=h1.ch0 c2;refine⟨_,aJ b2 2 rfl,_,aJ b2 3 rfl,_,_,_,aJ b2 4 rfl,_,_,_,aJ b2 5 rfl,?_⟩;refine bD λw3 b3 c3 z3=>?_;simp only[add_at,aL];refine aM3 (x:=⟨ty,ch,ep,ec,ext,bp,bc,body⟩) b3 rfl λw7 b7 c7 z7=>?_;have c27:Ch (λ_=>False) w2 w7:=c3.trans c7 λj hj q=>by omega
  have h7:=h2.ch0 c27;have hz2:=c2.size;have b7:blk w7 w2.heap.size=some [.int .i64 ty,.int .i64 ch,.slice ep ext.length ec,.slice bp body.length bc]:=b7;have b7l:=aH b7;refine⟨_,aJ b7 0 rfl,_,aJ b7 1 rfl,_,_,_,aJ b7 2 rfl,_,_,_,aJ b7 3 rfl,?_⟩;refine aEj (N:=0) (x:=⟨ty,ch,ep,ec,ext,bp,bc,body⟩) h7 (bQ _) λq8 n8 cp8 w8 o8 _=>⟨_,_,_,_,rfl,?_⟩;have hsr:aCm (FV.f ⟨ty,ch,ep,ec,ext,bp,bc,body⟩)=if fN ⟨ty,ch,ext,body⟩≠0 then([],fN ⟨ty,ch,ext,body⟩)else(sO ⟨ty,ch,ext,body⟩,0):=rfl;have hsz:=@yV ⟨ty,ch,ext,body⟩;rw[hsr];generalize fN ⟨ty,ch,ext,body⟩=E at hli hsz ⊢;have c28:=c27.trans' o8.ch;have c18:=c2.trans' c28;have b8:=(o8.ch.blk b7l id).trans b7;have h8:FR w8 ⟨ty,ch,ep,ec,ext,bp,bc,body⟩:=h7.ch0 o8.ch;by_cases hE:E=0
  rotate_left
  ·rw[aF hE]at hli ⊢;refine cG (by simp[bne,dS];omega) ?_;exact ret _ _ hli c18
  rw[aD]at hli ⊢;refine dJ ?_;obtain⟨hty,hc0,hc1,hxl,hbl⟩:=hsz hE;have hty:ty=0\/ty=1:=hty;have hc0:0<=ch:=hc0;have hc1:ch<=65535:=hc1;have hxl:ext.length<=1012:=hxl;have hbl:body.length<=1048576:=hbl;have hbr:body.length<=bc:=h8.bcap;rw[hfs]at hli;obtain⟨A,hA⟩:∃A,A=if ty=0 then sMain++Lib.decDigits ch.toNat else iR:=⟨_,rfl⟩;obtain⟨B,hB⟩:∃B,B=if ext=[]then[]else sExt++cA ext:=⟨_,rfl⟩;rw[<-hA,<-hB]at hli;have hql:=gK ext;have hBl:B.length<=5000:=by
   rw[hB];split
   ·simp
   ·rw[aG];have:sExt.length=5:=rfl;omega
  refine⟨λxs w9=>xs=⟨A.toArray⟩/\Ch (λ_=>False) w8 w9/\A.length<=1000,?_,?_⟩
  rotate_left
  ·refine⟨_,aJ b8 0 rfl,aC (λg=>?_) (λg=>?_)⟩
   ·have g:=aB g;obtain⟨chn,hchn⟩:∃chn:Nat,ch=(chn:Int):=⟨ch.toNat,by omega⟩;refine⟨_,aJ b8 1 rfl,?_⟩;rw[hchn];have hd:(Lib.decDigits chn).length<=20:=uL 19 chn (by omega);refine aN7 (by omega) (hL1.ch0 c18) λw9 c9=>⟨_,rfl,?_,?_,c9,?_⟩
    ·show((5+(ByteArray.mk (Lib.decDigits chn).toArray).size:Nat):Int)<=_;rw[cV];omega
    ·have e:(ByteArray.mk (Array.mk [109,97,105,110,32])++⟨(Lib.decDigits chn).toArray⟩:ByteArray)=⟨(sMain++Lib.decDigits chn).toArray⟩:=iX sMain _;show(ByteArray.mk (Array.mk [109,97,105,110,32])++⟨(Lib.decDigits chn).toArray⟩:ByteArray)=_;rw[e,hA,aF g,hchn,aM]
    ·rw[hA,aF g,hchn,aM,aG];have:sMain.length=5:=rfl;omega
   ·have g:=aA g;refine⟨?_,Ch.refl _ _,by rw[hA,aD g];decide⟩;rw[hA,aD g];rfl
  rintro xs w9 ⟨rfl,c9,hAl⟩;have b9:=(c9.blk (aH b8) id).trans b8;have h9:=h8.ch0 c9;refine⟨λxs w10=>xs=⟨(A++B).toArray⟩/\Ch (λ_=>False) w9 w10,?_,?_⟩
  rotate_left
  ·refine⟨_,_,_,aJ b9 2 rfl,aC (λg=>?_) (λg=>?_)⟩
   ·have g:=aB g;have hne:ext≠[]:=λh=>by rw[h]at g;simp at g
    refine⟨_,_,_,aJ b9 2 rfl,_,cD fD iL dN h9.ext,?_⟩;refine tX _ (by rw[cV];show ext.length<=_;omega) λw10 c10=>⟨_,rfl,?_,?_,?_,c10⟩
    ·show((5+(ByteArray.mk (cA ext).toArray).size:Nat):Int)<=_;rw[cV];omega
    ·show(((ByteArray.mk A.toArray).size+(ByteArray.mk (Array.mk [32,101,120,116,32])++⟨(cA ext).toArray⟩:ByteArray).size:Nat):Int)<=_;have e:(ByteArray.mk (Array.mk [32,101,120,116,32])++⟨(cA ext).toArray⟩:ByteArray)=⟨(sExt++cA ext).toArray⟩:=iX sExt _;rw[e,cV,cV,aG];have:sExt.length=5:=rfl;omega
    ·have e:(ByteArray.mk (Array.mk [32,101,120,116,32])++⟨(cA ext).toArray⟩:ByteArray)=⟨(sExt++cA ext).toArray⟩:=iX sExt _;show(⟨A.toArray⟩++(ByteArray.mk (Array.mk [32,101,120,116,32])++⟨(cA ext).toArray⟩):ByteArray)=_;rw[e,iX,hB,aD hne]
   ·have g:=aA g;have hne:ext=[]:=bI (by omega);refine⟨?_,Ch.refl _ _⟩;rw[hB,aF hne,List.append_nil]
  rintro xs w10 ⟨rfl,c10⟩;have b10:=(c10.blk (aH b9) id).trans b9;have h10:=h9.ch0 c10;refine⟨_,_,_,aJ b10 3 rfl,?_⟩;have c110:=(c18.trans' c9).trans' c10;have hB10:Rd w10 bp body.length 1 (aV body):=h10.body;refine aPs hB10 hbr hbl (hL1.ch0 c110) λw11 c11=>⟨_,rfl,?_,?_⟩
  ·show(((ByteArray.mk (A++B).toArray).size+(ByteArray.mk (eF body).toArray).size:Nat):Int)<=_;rw[cV,cV,aG];have:=aPa hbl;omega
  ·have:=ret _ _ hli (c110.trans' c11);show K (.tuple (Array.mk [.string (⟨(A++B).toArray⟩++⟨(eF body).toArray⟩),.int .i64 0])) w11;rw[iX];exact this
 ·have tail:∀ {w':World},Ch (λ_=>False) w1 w'->¬(kind=1/\aAf ⟨ty,ch,ext,body⟩=true)->∃n5,w'.cell? ⟨w.heap.size,0,none⟩=some (.int .i64 n5)/\aS (!(n5 != 2)) (∃n6,w'.cell? ⟨w.heap.size,1,none⟩=some (.int .i64 n6)/\aS (n6 != 0) (K (.tuple (Array.mk [.string ⟨#[]⟩,.int .i64 280])) w') (Ch (λ_=>False) w1 w'/\kind=2/\proto=0)) (K (.tuple (Array.mk [.string ⟨#[]⟩,.int .i64 280])) w'):=by
   intro w' hc hn;rw[aD hn]at hli;have b':=(hc.blk b1l id).trans b1;refine⟨_,aJ b' 0 rfl,?_⟩;simp only[bne,dS];refine aC (λg=>?_) (λg=>?_)
   ·have g:kind=2:=by simpa using g
    refine⟨_,aJ b' 1 rfl,aC (λg2=>?_) (λg2=>⟨hc,g,by simpa using g2⟩)⟩;have g2:¬proto=0:=by simpa using g2
    exact ret [] 280 (by rw[hli,aF (.inr g2)]) hc
   ·have g:¬kind=2:=by simpa using g
    exact ret [] 280 (by rw[hli,aF (.inl g)]) hc
  refine⟨_,aJ b1 0 rfl,?_⟩;refine aC (λg=>?_) (λg=>?_)
  rotate_left
  ·have g:=aA g;exact tail (Ch.refl _ _) λh=>g h.1
  have g:=aB g;refine⟨_,aJ b1 2 rfl,_,aJ b1 3 rfl,_,_,_,aJ b1 4 rfl,_,_,_,aJ b1 5 rfl,?_⟩;refine aMv (x:=⟨ty,ch,ep,ec,ext,bp,bc,body⟩) λw2 c2=>⟨_,rfl,?_⟩;have hz:aAf (FV.f ⟨ty,ch,ep,ec,ext,bp,bc,body⟩)=aAf ⟨ty,ch,ext,body⟩:=rfl;rw[hz];refine aC (λg2=>?_) (λg2=>?_)
  rotate_left
  ·exact tail c2 λh=>by rw[h.2]at g2;cases g2
  rw[aF ⟨g,g2⟩]at hli;have b2:=(c2.blk b1l id).trans b1;refine⟨_,aJ b2 1 rfl,?_⟩;refine aEl (N:=0) (bQ _) λq3 n3 cp3 w3 o3=>⟨_,_,_,_,rfl,?_⟩;have c13:=c2.trans' o3.ch;have b3:=(c13.blk b1l id).trans b1;by_cases hp:proto≠0/\proto≠3
  ·rw[aF hp]at hli ⊢;refine iH ?_;exact ret [] 50 hli c13
  ·rw[aD hp]at hli ⊢;refine dJ ⟨_,aJ b3 1 rfl,?_⟩;refine aC (λg3=>?_) (λg3=>?_)
   ·rw[aF (aB g3)]at hli;exact ret lR 0 hli c13
   ·rw[aD (aA g3)]at hli;exact ret oR 0 hli c13
end Go.Proofs.YtlfhjkgdlclddaaGreatDoor
namespace Go.Note
open Go
theorem aVr{l:Bs}(z:Bs)(h:chr l≠0):chr (l++z)=chr l:=by
 have hlt:∀i a b,uI l i a b=true->uI (l++z) i a b=true:=λi a b h=>by
  rw[aN9]at h ⊢;obtain⟨x,hx,h1,h2⟩:=h;exact⟨x,by rw[cK (List.getElem?_eq_some_iff.1 hx).1];exact hx,h1,h2⟩
 have h0:∀x,l[0]?=some x->(l++z)[0]?=some x:=λx hx=>by
  rw[cK (List.getElem?_eq_some_iff.1 hx).1];exact hx
 have hc:∀k,k<l.length->ch (l++z) k=ch l k:=λk hk=>by
  unfold ch;rw[cK hk]
 have hn:∀k,l.length<=k->ch l k=256:=λk hk=>by
  unfold ch;rw[eS hk]
 have e:∀k,ch (l++z) k=ch l k\/ch l k=256:=λk=>by
  rcases Nat.lt_or_ge k l.length with h|h
  ·exact .inl (hc k h)
  ·exact .inr (hn k h)
 rw[lP]at h;rw[lP (l++z),lP l];have e0:=e 0;have e1:=e 1;have e2:=e 2;have e3:=e 3;clear hlt h0 hc hn e;generalize ch l 0=a at *;generalize ch l 1=b at *;generalize ch l 2=c at *;generalize ch l 3=d at *;generalize ch (l++z) 0=a' at *;generalize ch (l++z) 1=b' at *;generalize ch (l++z) 2=c' at *;generalize ch (l++z) 3=d' at *;split at h
 ·rename_i p1;rw[aF p1,aF]
 rename_i p1;split at h
 ·rename_i p2;rw[aD p1,aF p2,aD,aF]
 rename_i p2;split at h
 ·rename_i p3;rw[aD p1,aD p2,aF p3,aD,aD,aF]
 rename_i p3;split at h
 ·rename_i p4;rw[aD p1,aD p2,aD p3,aF p4,aD,aD,aD,aF]
 ·exact absurd rfl h
theorem aJj{l:Bs}{p:UInt8 × Nat}(z:Bs)(h:dX l=some p):dX (l++z)=some p:=by
 cases l with
 | nil=>cases h
 | cons x l =>
  simp only[dX,aO]at h ⊢;split at h
  ·rename_i h1;rw[aF h1];exact h
  ·rename_i h1;rw[aD h1];split at h
   ·rename_i h2;rw[aF h2];exact h
   ·rename_i h2;rw[aD h2];split at h
    ·rename_i h3;rw[aF h3];cases l with
     | nil=>cases h
     | cons a l=>cases l with
      | nil=>cases h
      | cons b l=>exact h
    ·cases h
theorem aSh{l:Bs}{p:Bs × Nat}(z:Bs)(h:jU l=some p):jU (l++z)=some p:=by
 cases l with
 | nil=>cases h
 | cons x l =>
  simp only[jU,aO]at h ⊢;split at h
  ·rename_i h1;rw[aF h1];cases hs:dX l with
   | none=>rw[hs]at h;cases h
   | some q=>rw[aJj z hs];rw[hs]at h;exact h
  ·rename_i h1;rw[aD h1];split at h
   ·cases h
   ·rename_i h2;have h3:chr (x::l)≠0:=λh=>h2 (.inr h);have h4:=aVr z h3;rw[aO]at h4;rw[h4,aD h2];rw[<-h,<-aO,kF (rP _).1]
theorem aFy{z:Bs}:∀(f:Nat) {l:Bs} {p:Bs × Nat},kJ f l=some p->∀g,f<=g->kJ g (l++z)=some p
 | 0,_,_,h,_,_=>by cases h
 | f+1,l,p,h,g,hg=>by
  obtain⟨g,rfl⟩:∃g',g=g'+1:=⟨g-1,by omega⟩;cases l with
  | nil=>simp[kJ]at h
  | cons x l =>
   simp only[kJ,aO]at h ⊢;split at h
   ·rename_i h1;rw[aF h1];exact h
   ·rename_i h1;rw[aD h1];cases hi:jU (x::l)with
    | none=>rw[hi]at h;cases h
    | some q =>
     obtain⟨y,n⟩:=q;have hp:=kV hi;have hi2:=aSh z hi;rw[aO]at hi2;rw[hi]at h;rw[hi2];simp only at h ⊢;rw[<-aO,fB hp.2];cases hw:kJ f ((x::l).drop n)with
     | none=>rw[hw]at h;cases h
     | some q2 =>
      rw[aFy f hw g (by omega)];rw[hw]at h;exact h
theorem aO1{l:Bs}{p:Bs × Nat}(z:Bs)(h:gE l=some p):gE (l++z)=some p:=by
 cases l with
 | nil=>cases h
 | cons x l =>
  simp only[gE,aO]at h ⊢;split at h
  ·rename_i h1;rw[aF h1];cases hw:kJ (l.length+1) l with
   | none=>rw[hw]at h;cases h
   | some q =>
    rw[aFy _ hw _ (by simp)];rw[hw]at h;exact h
  ·cases h
theorem aGc:∀(c:Bool) {l:Bs} (z:Bs),bX c l<l.length->bX c (l++z)=bX c l
 | _,[],_,h=>by simp[bX]at h
 | c,x::l,z,h=>by
  simp only[bX,aO]at h ⊢;split
  ·rfl
  ·rename_i h1;rw[aD h1]at h;simp only[aI]at h;rw[aGc _ z (by omega)]
theorem aGo:∀ {l:Bs} {z:Bs},Fence z->eQ (l++z)=eQ l
 | [],z,h=>by
  cases z with
  | nil=>rfl
  | cons y z =>
   have:=h y rfl;simp[eQ,this]
 | x::l,z,h=>by
  simp only[eQ,aO];rw[aGo h]
theorem gU{u v:Bs}(hv:Fence v){a:Nat}(ha:a<=u.length)(hk:(next u a).kind=1\/(next u a).kind=2\/(next u a).kind=3):next (u++v) a=next u a:=by
 have hsl:=pC false (u.drop a);rw[aN]at hsl;have hlt:bX false (u.drop a)<(u.drop a).length:=by
  rcases Nat.lt_or_ge (bX false (u.drop a)) (u.drop a).length with h|h
  ·exact h
  ·exfalso;have hd:u.drop (a+bX false (u.drop a))=[]:=bW (by rw[aN]at h;omega);have:(next u a).kind=0:=by unfold next;simp only[hd]
   omega
 have hsk:bX false ((u++v).drop a)=bX false (u.drop a):=by
  rw[fB ha,aGc false v hlt]
 rw[aN]at hlt;obtain⟨A,hA⟩:∃A,A=a+bX false (u.drop a):=⟨_,rfl⟩;obtain⟨x,l,hxl⟩:∃x l,u.drop A=x::l:=by
  cases h:u.drop A with
  | nil=>have:=congrArg List.length h;rw[aN]at this;simp at this;omega
  | cons x l=>exact⟨x,l,rfl⟩
 have hd2:(u++v).drop A=x::(l++v):=by rw[fB (by omega),hxl];rfl
 have hk:=hk;unfold next at hk ⊢;simp only[hsk,<-hA,hxl,hd2]at hk ⊢;by_cases h34:x=34
 ·simp only[h34,if_true]at hk ⊢;cases hw:gE (34::l)with
  | none=>rw[hw]at hk;simp at hk
  | some p =>
   have:=aO1 v hw;rw[aO]at this;rw[this]
 ·simp only[h34,if_false]at hk ⊢;split
  ·rfl
  ·rename_i hs;rw[aD hs]at hk;split
   ·have hn:eQ (x::(l++v))=eQ (x::l):=by rw[<-aO];exact aGo hv
    rw[hn];have hle:=tG (x::l);rw[<-aO,kF hle]
   ·rename_i hlet;simp[hlet]at hk
def Loc(u v:Bs)(rd rd':Nat->Fd M):Prop:=∀a m b,a<=u.length->rd a=.ok m b->rd' a=.ok m b
theorem rG{t:Tok}{c:UInt8}(h:t.is c=true):t.kind=3:=by
 unfold Tok.is at h;simp only[bH,bA]at h;exact h.1
theorem aQm{t:Tok}{k:Nat}(h:dA t=some k):t.kind=1\/t.kind=2\/t.kind=3:=by
 unfold dA at h;split at h
 ·rename_i h1;omega
 split at h
 ·rename_i h1;omega
 split at h
 ·cases h
 ·rename_i h1;omega
theorem aCp{u:Bs}{d a b:Nat}{m:M}(h:gZ u d a=.ok m b):(next u a).kind=1\/(next u a).kind=2\/(next u a).kind=3:=by
 obtain⟨k,hk⟩:=lG h;exact aQm hk
theorem zV{u v:Bs}(hv:Fence v){rd rd':Nat->Fd M}(hg:aE6 u rd)(hL:Loc u v rd rd')(hk:∀a m b,rd a=.ok m b->(next u a).kind=1\/(next u a).kind=2\/(next u a).kind=3)(elem:Option Nat):∀(f g a:Nat) (acc l:List M) (b:Nat),a<=u.length->f<=g->fU rd u elem f a acc=.ok l b->fU rd' (u++v) elem g a acc=.ok l b
 | 0,_,_,_,_,_,_,_,h=>by cases h
 | f+1,g,a,acc,l,b,ha,hfg,h=>by
  obtain⟨g,rfl⟩:∃g',g=g'+1:=⟨g-1,by omega⟩;unfold fU at h ⊢;simp only at h ⊢;split at h
  ·rename_i h1;have hn:=gU hv ha (.inr (.inr (rG h1)));rw[hn,aF h1];exact h
  ·rename_i h1;cases hr:rd a with
   | bad x e=>rw[hr]at h;cases h
   | ok m c =>
    have hn:=gU hv ha (hk a m c hr);have hgo:=hg a m c ha hr;rw[hr]at h;rw[hn,aD h1,hL a m c ha hr];cases elem with
    | none=>exact zV hv hg hL hk none f g c _ l b hgo.2 (by omega) h
    | some k =>
     simp only at h ⊢;split at h
     ·rename_i h2;rw[aF h2];exact zV hv hg hL hk (some k) f g c _ l b hgo.2 (by omega) h
     ·unfold cM at h;cases h
theorem aGj{u v:Bs}(hv:Fence v){rd rd':Nat->Fd M}(hg:aE6 u rd)(hL:Loc u v rd rd'):∀(f g a:Nat) (acc l:List M) (b:Nat),a<=u.length->f<=g->fY rd u f a acc=.ok l b->fY rd' (u++v) g a acc=.ok l b
 | 0,_,_,_,_,_,_,_,h=>by cases h
 | f+1,g,a,acc,l,b,ha,hfg,h=>by
  obtain⟨g,rfl⟩:∃g',g=g'+1:=⟨g-1,by omega⟩;unfold fY at h ⊢;cases hr:rd a with
  | bad x e=>rw[hr]at h;cases h
  | ok k c =>
   rw[hr]at h;rw[hL a k c ha hr];have h3:=hg a k c ha hr;simp only at h ⊢;split at h
   ·exact absurd h iI
   rename_i hc;have hc:(next u c).is 58=true:=by simpa using hc
   have hn:=gU hv h3.2 (.inr (.inr (rG hc)));have h4:=dF h3.2 hc;rw[hn,aD (by rw[hc];decide)];cases hr2:rd (next u c).fin with
   | bad x e=>rw[hr2]at h;cases h
   | ok w e =>
    rw[hr2]at h;rw[hL _ w e h4.2 hr2];have h5:=hg _ w e h4.2 hr2;simp only at h ⊢;split at h
    ·rename_i ht;rw[gU hv h5.2 (.inr (.inr (rG ht))),aF ht];exact h
    ·rename_i ht;split at h
     ·exact absurd h iI
     ·rename_i ht2;have ht3:(next u e).is 44=true:=by simpa using ht2
      have h6:=dF h5.2 ht3;rw[gU hv h5.2 (.inr (.inr (rG ht3))),aD ht,aD ht2];exact aGj hv hg hL f g _ _ l b h6.2 (by omega) h
theorem aIc{u v:Bs}(hv:Fence v){k a b:Nat}{m:M}(ha:a<=u.length)(h:dU u k a=.ok m b):dU (u++v) k a=.ok m b:=by
 unfold dU at h ⊢;simp only at h ⊢;split at h
 ·unfold cM at h;cases h
 ·rename_i h1;rw[gU hv ha (by omega),aD h1];exact h
theorem aLw{u v:Bs}(hv:Fence v){k a b:Nat}{m:M}(ha:a<=u.length)(h:eX k (next u a)=.ok m b):eX k (next (u++v) a)=.ok m b:=by
 have h2:(next u a).kind=2:=by
  unfold eX at h;split at h
  ·unfold cM at h;cases h
  ·rename_i h1;omega
 rw[gU hv ha (by omega)];exact h
theorem aD1{u v:Bs}(hv:Fence v){rd rd':Nat->Fd M}(hg:aE6 u rd)(hL:Loc u v rd rd')(hk:∀a m b,rd a=.ok m b->(next u a).kind=1\/(next u a).kind=2\/(next u a).kind=3){elem:Option Nat}{a b:Nat}{m:M}(ha:a<=u.length)(h:listed rd u elem a=.ok m b):listed rd' (u++v) elem a=.ok m b:=by
 unfold listed at h ⊢;cases he:fU rd u elem (u.length+1) a []with
 | bad x e=>rw[he]at h;cases h
 | ok l c =>
  rw[zV hv hg hL hk elem _ ((u++v).length+1) a [] l c ha (by simp) he];rw[he]at h;exact h
theorem aHt{u v:Bs}(hv:Fence v):∀d,Loc u v (gZ u d) (gZ (u++v) d)
 | 0=>λa m b ha h=>by
  obtain⟨k,hb⟩:=lG h;rw[gJ,hb]at h;unfold cM at h;cases h
 | d+1=>λa m b ha h=>by
  have hk:=aCp h;have hn:=gU hv ha hk;obtain⟨k,hb⟩:=lG h;have hl:=(dM u a ha).2.2.1;have ih:=aHt (u:=u) hv d;have hg:=fE u d;have hkk:∀a m b,gZ u d a=.ok m b->(next u a).kind=1\/(next u a).kind=2\/(next u a).kind=3:=λa m b h=>aCp h;rw[gJ]at h ⊢;rw[hn];rw[hb]at h ⊢;simp only at h ⊢;split at h
  ·rename_i q;rw[aF q];exact h
  rename_i q;rw[aD q];clear q;split at h
  ·rename_i q;rw[aF q];exact h
  rename_i q;rw[aD q];clear q;split at h
  ·rename_i q;rw[aF q];exact h
  rename_i q;rw[aD q];clear q;split at h
  ·rename_i q;rw[aF q];exact aLw hv hl h
  rename_i q;rw[aD q];clear q;split at h
  ·rename_i q;rw[aF q];exact aD1 hv hg ih hkk hl h
  rename_i q;rw[aD q];clear q;split at h
  ·rename_i q;rw[aF q];unfold rE at h ⊢;simp only at h ⊢;split at h
   ·rename_i h1;rw[gU hv hl (.inr (.inr (rG h1))),aF h1];exact h
   ·rename_i h1;cases hp:fY (gZ u d) u (u.length+1) (next u a).fin []with
    | bad x e=>rw[hp]at h;cases h
    | ok l c =>
     have hp2:=aGj hv hg ih _ ((u++v).length+1) _ _ _ _ hl (by simp) hp;have hfk:(next u (next u a).fin).kind=1\/(next u (next u a).fin).kind=2\/(next u (next u a).fin).kind=3:=by
      unfold fY at hp;cases hr:gZ u d (next u a).fin with
      | bad x e=>rw[hr]at hp;cases hp
      | ok m2 c2=>exact aCp hr
     rw[gU hv hl hfk,aD h1,hp2];rw[hp]at h;exact h
  rename_i q;rw[aD q];clear q;split at h
  ·rename_i q;rw[aF q];unfold nA at h ⊢;simp only at h ⊢;split at h
   ·unfold cM at h;cases h
   rename_i h1;have hn2:=gU hv hl (a:=(next u a).fin) (by omega);have hl2:=(dM u _ hl).2.2.1;rw[hn2,aD h1];cases hkn:iM (next u (next u a).fin).text with
   | none=>rw[hkn]at h;unfold cM at h;cases h
   | some j =>
    rw[hkn]at h;simp only at h ⊢;split at h
    ·unfold cM at h;cases h
    rename_i h2;rw[aD h2];split at h
    ·unfold cM at h;cases h
    rename_i h3;have h4:(next u (next u (next u a).fin).fin).is 91=true:=by simpa using h3
    have hl3:=(dM u _ hl2).2.2.1;rw[gU hv hl2 (.inr (.inr (rG h4))),aD h3];exact aD1 hv hg ih hkk hl3 h
  rename_i q;rw[aD q];clear q;split at h
  ·rename_i q;rw[aF q];unfold jA at h ⊢;cases h1:gZ u d (next u a).fin with
   | bad x e=>rw[h1]at h;cases h
   | ok x c1 =>
    rw[h1]at h;rw[ih _ x c1 hl h1];have g1:=hg _ x c1 hl h1;simp only at h ⊢;cases h2:gZ u d c1 with
    | bad x e=>rw[h2]at h;cases h
    | ok y c2 =>
     rw[h2]at h;rw[ih _ y c2 g1.2 h2];have g2:=hg _ y c2 g1.2 h2;simp only at h ⊢;split at h
     ·exact absurd h iI
     ·rename_i h3;have h4:(next u c2).is 41=true:=by simpa using h3
      rw[gU hv g2.2 (.inr (.inr (rG h4))),aD h3];exact h
  rename_i q;rw[aD q];exact aIc hv hl h
theorem aJk:∀(c:Bool) (w:Bs) {x:UInt8} (r:Bs),bX c w=w.length->bX c (w++[93])=w.length->iK x=false->x≠35->bX c (w++32::x::r)=w.length+1
 | c,[],x,r,_,h,hx,h35=>by
  have hc:c=false:=by
   cases c with
   | false=>rfl
   | true=>simp[bX]at h
  subst hc;simp[bX,iK,hx,h35];simp only[iK]at hx;simp at hx;exact⟨hx.1.1.1,hx.1.1.2,hx.1.2,hx.2⟩
 | c,y::w,x,r,h1,h2,hx,h35=>by
  simp only[bX,aO,aI]at h1 h2 ⊢;split at h1
  ·omega
  ·rename_i hc;rw[aD hc]at h2 ⊢;rw[aJk _ w r (by omega) (by omega) hx h35];omega
theorem aGb:∀(c:Bool) (w z:Bs),bX c w=w.length->w.length<=bX c (w++z)
 | _,[],_,_=>by simp
 | c,y::w,z,h=>by
  simp only[bX,aO,aI]at h ⊢;split at h
  ·omega
  ·rename_i hc;rw[aD hc];have hw:bX (if y=10 then false else if y=35 then true else c) w=w.length:=by omega
   have:=aGb _ w z hw;omega
theorem aO6{w:Bs}(h:fP w=[]):bX false w=w.length:=by
 rw[uB]at h;have hle:=pC false w;have hl:=aD5 (w.drop (bX false w));rcases Nat.lt_or_ge (bX false w) w.length with h1|h1
 ·exfalso;generalize hx:oB (w.drop (bX false w))=x at h hl;obtain⟨k,t,n⟩:=x;cases k with
  | zero =>
   have:=congrArg List.length (hl.2.2 rfl);rw[aN]at this;simp at this;omega
  | succ k=>simp at h
 ·omega
theorem aMc{m:M}(hf:m.fits)(hc:m.check 1=0)(tail:Bs)(hl:(bM m++(32::114::101::115::116::32::cA tail)).length<=1048576) :
 gT (bM m++(32::114::101::115::116::32::cA tail))=.bad ((bM m).length+1) 44:=by
 have hT:=vU m 1 hc;obtain⟨b0,h1,h2,h3⟩:=yI m hf 32 (bM m) 0 [] (by omega) (by simpa using hc) (by omega) (by
  have:=hT [] Fence.nil;rw[List.append_nil]at this;rw[bS,this];simp[fP,vL,oB])
 have hf93:Fence [93]:=Fence.cons (by decide);obtain⟨b2,g1,g2,g3⟩:=yI m hf 32 (bM m++[93]) 0 [(3,[93])] (by omega) (by simpa using hc) (by omega) (by
  rw[bS,hT _ hf93,gQ (by decide)];simp[fP,vL,oB])
 have hb:=aHt (u:=bM m) hf93 32 0 m b0 (by omega) h2;rw[hb]at g2;have hbb:b0=b2:=by cases g2;rfl
 subst hbb;rw[fB h1]at g3;have hs1:=aO6 h3;have hs2:bX false ((bM m).drop b0++[93])=((bM m).drop b0).length:=by
  have q1:=aGb false _ [93] hs1;have q2:=pC false ((bM m).drop b0++[93]);rw[aG,dQ]at q2;rcases Nat.lt_or_ge (bX false ((bM m).drop b0++[93])) (((bM m).drop b0).length+1)with q3|q3
  ·omega
  ·exfalso;have e:bX false ((bM m).drop b0++[93])=((bM m).drop b0++[93]).length:=by rw[aG,dQ];omega
   rw[uB,e,List.drop_length]at g3;simp[oB]at g3
 have hsk:=aJk false _ (x:=114) (101::115::116::32::cA tail) hs1 hs2 (by decide) (by decide);have hfr:Fence (32::114::101::115::116::32::cA tail):=Fence.cons (by decide);have hrd:=aHt (u:=bM m) hfr 32 0 m b0 (by omega) h2;have hdr:b0+bX false ((bM m++(32::114::101::115::116::32::cA tail)).drop b0)=(bM m).length+1:=by
  rw[fB h1,hsk,aN];omega
 have hnx:next (bM m++(32::114::101::115::116::32::cA tail)) b0=⟨1,(bM m).length+1,(bM m).length+1+4,[114,101,115,116]⟩:=by
  have hd:(bM m++(32::114::101::115::116::32::cA tail)).drop ((bM m).length+1)=114::101::115::116::32::cA tail:=by
   rw[List.drop_append];simp
  have hn4:eQ (114::101::115::116::32::cA tail)=4:=by simp[eQ,cQ]
  unfold next;simp only[hdr,hd,hn4];rfl
 unfold gT;rw[aD,hrd];simp only[hnx];rfl
theorem aLk{m:M}(hf:m.fits)(hc:m.check 1=0)(hl:(bM m++[32]).length<=1048576):gT (bM m++[32])=.ok m 0:=by
 have ht:fP (bM m++[32])=xE m:=by
  rw[vU m 1 hc _ (Fence.cons (by decide)),jN];simp[fP,vL,oB]
 obtain⟨b,b1,b2,b3⟩:=yI m hf 32 _ 0 [] (by omega) (by simpa using hc) (by omega) (by
  rw[bS,ht];simp)
 unfold gT;rw[aD,b2];rw[yP _ b1]at b3;simp only;split at b3
 ·rename_i h0;rw[aD (by simp[h0])]
 ·cases b3
open Go.Proofs.YtlfhjkgdlclddaaGreatDoor
theorem aHl:∀(p r:Bs) (i:Nat),(∀x∈p,x≠34/\x≠92)->uS (p++r) i false=uS r (i+p.length) false
 | [],r,i,_=>rfl
 | x::p,r,i,h=>by
  obtain⟨h1,h2⟩:=h x (by simp);rw[aO,uS];simp only[Bool.false_eq_true,if_false,h1,h2];rw[aHl p r (i+1) λy hy=>h y (by simp[hy]),aI];congr 1;omega
theorem aI8{x:UInt8}{n:Nat}(h:eH x true=some n):x≠34/\x≠92:=by
 constructor
 ·rintro rfl;simp[eH]at h
 ·rintro rfl;simp[eH]at h
theorem aQc{l:Bs}(h:chr l≠0)(hx:∀x,l[0]?=some x->x≠34/\x≠92):∀x∈l.take (chr l),x≠34/\x≠92:=by
 intro x hxm;obtain⟨k,hk,e⟩:=List.mem_iff_getElem.1 hxm;rw[aU]at hk;rw[List.getElem_take]at e;have hg:l[k]?=some x:=by rw[aK (by omega),e]
 cases k with
 | zero=>exact hx x hg
 | succ k =>
  have hch:=aB2 hg;have hck:1<=chr l/\k+1<chr l:=by omega
  have hge:128<=x.toNat:=by
   rw[<-hch];have hcc:=hck.2;rw[lP]at hcc;split at hcc
   ·omega
   split at hcc
   ·rename_i q;have:k+1=1:=by omega
    rw[this];omega
   split at hcc
   ·rename_i q;have:k+1=1\/k+1=2:=by omega
    rcases this with e|e<;>rw[e]<;>omega
   split at hcc
   ·rename_i q;have:k+1=1\/k+1=2\/k+1=3:=by omega
    rcases this with e|e|e<;>rw[e]<;>omega
   ·omega
  constructor
  ·rintro rfl;simp at hge
  ·rintro rfl;simp at hge
theorem aUg{l y:Bs}{n:Nat}(h:jU l=some (y,n))(h34:l.head?≠some 34)(i:Nat):uS l i false=uS (l.drop n) (i+n) false:=by
 cases l with
 | nil=>cases h
 | cons x l =>
  have hx:x≠34:=λe=>h34 (by rw[e];rfl);simp only[jU]at h;split at h
  ·rename_i h92;subst h92;cases hs:dX l with
   | none=>rw[hs]at h;cases h
   | some p =>
    rw[hs]at h;simp only[Option.map_some,Option.some.injEq,Prod.mk.injEq]at h;obtain⟨_,hn⟩:=h;cases l with
    | nil=>cases hs
    | cons z l =>
     simp only[dX]at hs;split at hs
     ·cases hs;subst hn;simp[uS]
     ·split at hs
      ·cases hs;subst hn;simp[uS]
      ·split at hs
       ·cases l with
        | nil=>cases hs
        | cons a l=>cases l with
         | nil=>cases hs
         | cons b l =>
          simp only at hs;cases ha:eH a true with
          | none=>rw[ha]at hs;cases hs
          | some m=>cases hb:eH b true with
           | none=>rw[ha,hb]at hs;cases hs
           | some m2 =>
            rw[ha,hb]at hs;cases hs;subst hn;have q1:=aI8 ha;have q2:=aI8 hb;simp[uS,q1.1,q1.2,q2.1,q2.2]
       ·cases hs
  ·rename_i h92;split at h
   ·cases h
   ·rename_i h3;have h4:chr (x::l)≠0:=λh=>h3 (.inr h);simp only[Option.some.injEq,Prod.mk.injEq]at h;obtain⟨_,rfl⟩:=h;have hb:=aQc h4 λz hz=>by simp at hz;subst hz;exact⟨hx,h92⟩
    have:=aHl _ ((x::l).drop (chr (x::l))) i hb;rw[List.take_append_drop,aU,Nat.min_eq_left (rP _).1]at this;exact this
theorem aNn:∀(f:Nat) {l t:Bs} {n:Nat},kJ f l=some (t,n)->∀i,uS l i false=i+n
 | 0,_,_,_,h,_=>by cases h
 | f+1,l,t,n,h,i=>by
  cases l with
  | nil=>simp[kJ]at h
  | cons x l =>
   simp only[kJ]at h;split at h
   ·rename_i h1;subst h1;simp only[Option.some.injEq,Prod.mk.injEq]at h;obtain⟨_,rfl⟩:=h;simp[uS]
   ·rename_i h1;cases hi:jU (x::l)with
    | none=>rw[hi]at h;cases h
    | some q =>
     obtain⟨y,k⟩:=q;rw[hi]at h;simp only at h;cases hw:kJ f ((x::l).drop k)with
     | none=>rw[hw]at h;cases h
     | some q2 =>
      rw[hw]at h;simp only[Option.map_some,Option.some.injEq,Prod.mk.injEq]at h;obtain⟨_,rfl⟩:=h;rw[aUg hi (by simpa using h1) i,aNn f hw (i+k)];omega
theorem aHk{l t:Bs}{n:Nat}(h:gE l=some (t,n)):eT l=n:=by
 cases l with
 | nil=>cases h
 | cons x l =>
  simp only[gE]at h;split at h
  ·rename_i h1;cases hw:kJ (l.length+1) l with
   | none=>rw[hw]at h;cases h
   | some q =>
    rw[hw]at h;simp only[Option.map_some,Option.some.injEq,Prod.mk.injEq]at h;obtain⟨_,rfl⟩:=h;subst h1;simp only[eT,if_true];rw[aNn _ hw 1];omega
  ·cases h
end Go.Note
namespace Go.Note
open Go
def Agr(b b':Bs)(n:Nat):Prop:=∀i,i<n->b'[i]?=b[i]?
theorem qH{b b':Bs}{n a w:Nat}(h:Agr b b' n)(ha:a+w<=n):sub b' a w=sub b a w:=by
 apply List.ext_getElem?;intro i;unfold sub;rw[cZ,cZ,cU,cU];split
 ·exact h _ (by omega)
 ·rfl
theorem aLd{b b':Bs}{n a:Nat}(h:Agr b b' n)(ha:a<n):bL b' a=bL b a:=by
 unfold bL;rw[h a ha]
theorem aDw{rd rd':Nat->Option (M × Nat)}{q:Nat}(hg:∀a m to9,a<=q->rd a=some (m,to9)->a<to9/\to9<=q)(h:∀a m to9,a<=q->rd a=some (m,to9)->rd' a=some (m,to9)):∀(n a:Nat) (acc l:List M) (to9:Nat),a<=q->fA rd n a acc=some (l,to9)->fA rd' n a acc=some (l,to9)
 | 0,a,acc,l,to9,ha,he=>he
 | n+1,a,acc,l,to9,ha,he=>by
  unfold fA at he ⊢;cases hr:rd a with
  | none=>rw[hr]at he;cases he
  | some p =>
   obtain⟨m,a'⟩:=p;rw[hr]at he;rw[h a m a' ha hr];exact aDw hg h n a' _ l to9 (hg a m a' ha hr).2 he
theorem aJg{b b':Bs}{e e' a w least q:Nat}(h:iQ b e a w least=some q)(hb:Agr b b' q)(he:q<=e'):iQ b' e' a w least=some q:=by
 have hin:=wY h;unfold iQ at h ⊢;split at h
 ·cases h
 split at h
 ·cases h
 split at h
 ·cases h
 rename_i h1 h2 h3;cases h;rw[aD,qH hb (by omega),aD h2,aD]
def aOu(b b':Bs)(rd rd':Nat->Nat->Option (M × Nat)):Prop:=∀e e' a m to9,e<=b.length->rd e a=some (m,to9)->to9<=e'->Agr b b' to9->rd' e' a=some (m,to9)
def aOw(b b':Bs)(dt dt':Nat->Nat->Nat->Option (M × Nat)):Prop:=∀e e' c a m to9,e<=b.length->dt e c a=some (m,to9)->to9<=e'->Agr b b' to9->dt' e' c a=some (m,to9)
theorem Agr.le{b b':Bs}{n k:Nat}(h:Agr b b' n)(hk:k<=n):Agr b b' k:=λi hi=>h i (by omega)
theorem aU8{b b':Bs}{e e' c a to9:Nat}{m:M}(h:pD b e c a=some (m,to9))(hto:to9<=e')(hb:Agr b b' to9)(hm:c=0x41->True):pD b' e' c a=some (m,to9):=by
 unfold pD at h ⊢;cases hw:gB c with
 | none=>rw[hw]at h;cases h
 | some w=>cases hk:dC c with
  | none=>rw[hw,hk]at h;cases h
  | some k =>
   rw[hw,hk]at h;simp only at h ⊢;split at h
   ·cases h
   split at h
   ·rename_i h1 h2;cases h;rw[aD,aF h2,qH hb (by omega)]
   rename_i h1 h2;split at h
   ·rename_i h3;have hw0:w=0:=by subst h3;simp[gB]at hw;exact hw.symm
    cases h;rw[aD,aD h2,aF h3]
   rename_i h3;split at h
   ·cases h
   rename_i h4;cases h;have hs:=qH hb (a:=a) (w:=w) (by omega);rw[aD,aD h2,aD h3,hs,aD h4]
theorem aUk{b b':Bs}{e e' c a to9:Nat}{m:M}(h:vN b e c a=some (m,to9))(hto:to9<=e')(hb:Agr b b' to9):vN b' e' c a=some (m,to9):=by
 unfold vN at h ⊢;split at h
 ·cases h
 split at h
 ·cases h
 rename_i h1 h2;cases hk:dC c with
 | none=>rw[hk]at h;cases h
 | some k =>
  rw[hk]at h;simp only at h ⊢;split at h
  ·rename_i h3;cases h;have hs:=qH hb (a:=a) (w:=bE c) (by omega);have hs2:=qH hb (a:=a+bE c) (w:=bO (sub b a (bE c))) (by omega);rw[aD,hs,aD,hs2,aF h3]
  ·cases h
theorem aTg{b b':Bs}{d:Nat}{rd rd':Nat->Nat->Option (M × Nat)}{dt dt':Nat->Nat->Nat->Option (M × Nat)}(hd:d+1<=32)(hR:wS rd b d)(hD:wT dt b d)(hr:aOu b b' rd rd')(ht:aOw b b' dt dt'):aOw b b' (λe c a=>vR rd dt b e c a) (λe c a=>vR rd' dt' b' e c a):=by
 intro e e' c a m to9 he h hto hb;simp only[vR]at h ⊢;split at h
 ·rename_i h1;rw[aF h1];exact aUk h hto hb
 rename_i h1;rw[aD h1];have hw:=tZ c;split at h
 ·rename_i h2;rw[aF h2];unfold nJ at h ⊢;cases hs:iQ b e a (bE c) (bE c)with
  | none=>rw[hs]at h;cases h
  | some q =>
   rw[hs]at h;simp only at h;obtain⟨s1,s2⟩:=wY hs;split at h
   ·cases h
   rename_i hcnt;cases hm:fA (rd q) (bO (sub b (a+bE c) (bE c))) (a+bE c+bE c) []with
   | none=>rw[hm]at h;cases h
   | some p =>
    obtain⟨l,a2⟩:=p;rw[hm]at h;simp only at h;split at h
    ·cases h
    rename_i hend;have hgood:∀a m to9,a<=q->rd q a=some (m,to9)->a<to9/\to9<=q/\True/\m.wt<=to9-a:=λa' m' to' ha' hr'=>by
     obtain⟨g1,g2,g3⟩:=hR q a' m' to' (by omega) hr';exact⟨g1,g2,trivial,g3.wt⟩
    obtain⟨l',e1,e2,e3,e4,e5,e6⟩:=lK hgood _ _ _ _ _ (by omega) hm;have hto2:to9=a2:=by cases h;rfl
    have haq:a2=q:=by omega
    subst hto2;have hbq:=hb.le (k:=q) (by omega);have hm2:=aDw (rd':=rd' q) (λa' m' to' ha' hr'=>⟨(hgood a' m' to' ha' hr').1,(hgood a' m' to' ha' hr').2.1⟩) (λa' m' to' ha' hr'=>hr q q a' m' to' (by omega) hr' (hgood a' m' to' ha' hr').2.1 (hbq.le (hgood a' m' to' ha' hr').2.1)) _ _ _ _ _ (by omega) hm;rw[aJg hs hbq (by omega)];have hs3:=qH hbq (a:=a+bE c) (w:=bE c) (by omega);simp only[hs3];rw[aD hcnt,hm2];simp only;rw[aD hend];exact h
 rename_i h2;rw[aD h2];split at h
 ·rename_i h3;rw[aF h3];unfold sR at h ⊢;cases hs:iQ b e a (bE c) (bE c+1)with
  | none=>rw[hs]at h;cases h
  | some q =>
   rw[hs]at h;simp only at h;obtain⟨s1,s2⟩:=wY hs;cases hk:dC (bL b (a+bE c+bE c))with
   | none=>rw[hk]at h;cases h
   | some k =>
    rw[hk]at h;simp only at h;split at h
    ·cases h
    rename_i hbad;cases hm:fA (dt q (bL b (a+bE c+bE c))) (bO (sub b (a+bE c) (bE c))) (a+bE c+bE c+1) []with
    | none=>rw[hm]at h;cases h
    | some p =>
     obtain⟨l,a2⟩:=p;rw[hm]at h;simp only at h;split at h
     ·cases h
     rename_i hend;have hgood:∀a' m to9,a'<=q->dt q (bL b (a+bE c+bE c)) a'=some (m,to9)->a'<to9/\to9<=q/\True/\m.wt<=to9-a':=λa' m' to' ha' hr'=>by
      have D:=hD q _ a' m' to' (by omega) hr';rcases D.good with g|⟨_,_,_,_,g⟩
      ·have:1<=m'.wt:=by cases m';rw[M.wt_mk];omega
       exact⟨by have:=g.wt;omega,D.ge,trivial,g.wt⟩
      ·exact absurd (.inr g) hbad
     obtain⟨l',e1,e2,e3,e4,e5,e6⟩:=lK hgood _ _ _ _ _ (by omega) hm;have hto2:to9=a2:=by cases h;rfl
     have haq:a2=q:=by omega
     subst hto2;have hbq:=hb.le (k:=q) (by omega);have hm2:=aDw (rd':=dt' q (bL b (a+bE c+bE c))) (λa' m' to' ha' hr'=>⟨(hgood a' m' to' ha' hr').1,(hgood a' m' to' ha' hr').2.1⟩) (λa' m' to' ha' hr'=>ht q q _ a' m' to' (by omega) hr' (hgood a' m' to' ha' hr').2.1 (hbq.le (hgood a' m' to' ha' hr').2.1)) _ _ _ _ _ (by omega) hm;rw[aJg hs hbq (by omega)];have hs3:=qH hbq (a:=a+bE c) (w:=bE c) (by omega);have hs4:=aLd hbq (a:=a+bE c+bE c) (by omega);simp only[hs3,hs4,hk];rw[aD hbad,hm2];simp only;rw[aD hend];exact h
 ·rename_i h3;rw[aD h3];exact aU8 h hto hb λ_=>trivial
theorem aUi{b b':Bs}{d:Nat}{rd rd':Nat->Nat->Option (M × Nat)}{dtd dtd':Nat->Nat->Nat->Option (M × Nat)}(hd:d+1<=32)(hR:wS rd b d)(hD:wT dtd b (d+1))(hr:aOu b b' rd rd')(ht:aOw b b' dtd dtd'):aOu b b' (λe a=>aLx rd dtd b e a) (λe a=>aLx rd' dtd' b' e a):=by
 intro e e' a m to9 he h hto hb;have hgo:=(aXf hd hR hD) e a m to9 he h;simp only[aLx]at h ⊢;split at h
 ·cases h
 rename_i hea;have hby:=aLd hb (a:=a) (by omega);rw[aD,hby];cases hk:dC (bL b a)with
 | none=>rw[hk]at h;cases h
 | some k =>
  rw[hk]at h;simp only at h ⊢;split at h
  ·rename_i h0;rw[aF h0];cases h1:rd e (a+1)with
   | none=>rw[h1]at h;cases h
   | some p1 =>
    obtain⟨x,a1⟩:=p1;rw[h1]at h;simp only at h;cases h2:rd e a1 with
    | none=>rw[h2]at h;cases h
    | some p2 =>
     obtain⟨y,a2⟩:=p2;rw[h2]at h;have hto2:to9=a2:=by cases h;rfl
     obtain⟨x1,x2,x3⟩:=hR e _ _ _ he h1;obtain⟨y1,y2,y3⟩:=hR e _ _ _ he h2;rw[hr e e' _ x a1 he h1 (by omega) (hb.le (by omega))];simp only;rw[hr e e' _ y a2 he h2 (by omega) (hb.le (by omega))];exact h
  ·rename_i h0;rw[aD h0];exact ht e e' _ _ m to9 he h hto hb
theorem aLi(b b':Bs):∀d,d<=32->aOu b b' (uC b d) (uC b' d)/\aOw b b' (wO b d) (wO b' d)
 | 0,_=>⟨λe e' a m to9 _ h=>(nomatch h),λe e' c a m to9 _ h=>(nomatch h)⟩
 | d+1,h=>by
  obtain⟨h1,h2⟩:=aLi b b' d (by omega);obtain⟨g1,g2⟩:=lQ b d (by omega);have hD:=aTg h g1 g2 h1 h2;exact⟨aUi (dtd:=wO b (d+1)) (dtd':=wO b' (d+1)) h g1 (lQ b (d+1) h).2 h1 hD,hD⟩
theorem aTe{b:Bs}{m:M}{to9:Nat}(h:oC b 0=some (m,to9)):oC (b.take to9) 0=some (m,to9):=by
 have hg:=nR h;have hl:(b.take to9).length=to9:=by rw[aU];omega
 unfold oC at h ⊢;cases hr:uC b 32 b.length 0 with
 | none=>rw[hr]at h;cases h
 | some p =>
  obtain⟨m',to'⟩:=p;rw[hr]at h;simp only at h;split at h
  ·cases h
  ·rename_i h1;cases h;have:=(aLi b (b.take to9) 32 (aQ _)).1 _ (b.take to9).length 0 m to9 (aQ _) hr (by omega) (λi hi=>by rw[cZ,aF hi]);rw[this];simp only;rw[aD h1]
open Go.Proofs.YtlfhjkgdlclddaaGreatDoor
theorem qA(p s:Bs):jH p (p++s)=some s:=by
 unfold jH;rw[aF (List.isPrefixOf_iff_prefix.2 (List.prefix_append p s)),List.drop_left]
theorem vX{b:Bs}(h:b≠[]):lD (cA b)=some b:=by
 unfold lD;rw[aLz,aF ⟨rfl,h⟩]
theorem aYe{s:Bs}{a e:Nat}(h:gT s=.bad a e):cY s=(.mk 0 0 [] 0 [],a,e):=by unfold cY;rw[h]
theorem pok{s:Bs}{m:M}(h:gT s=.ok m 0):cY s=(m,0,0):=by unfold cY;rw[h]
theorem aMe(b:Bs):oF (eF b)=some b:=by
 unfold eF;by_cases h0:b=[]
 ·rw[aF h0,h0];rfl
 rw[aD h0];have hraw:oF (pE b)=some b:=by
  unfold oF pE;rw[aD (by simp[sRaw]),qA];exact vX h0
 cases hd:oC b 0 with
 | none=>exact hraw
 | some p =>
  obtain⟨m,to9⟩:=p;simp only;split
  ·exact hraw
  rename_i h1;split
  ·exact hraw
  rename_i h2;split
  ·exact hraw
  rename_i h3;have hg:=nR hd;have hs:pA m=(b.take to9,0):=by
   unfold nI at h1;rw[aTe hd]at h1;simp only[Bool.not_eq_false,bH,bA]at h1;exact h1.2
  have hc:jH sRaw (sValue++kL b m to9)=none:=by
   unfold jH;rw[aD (by simp[sRaw,sValue,List.isPrefixOf])]
  unfold oF;rw[aD (by simp[sValue]),hc];simp only;rw[qA];simp only;by_cases ht:to9<b.length
  ·have e:kL b m to9=bM m++(32::114::101::115::116::32::cA (b.drop to9)):=by unfold kL;rw[aF ht];rfl
   rw[e]at h3 ⊢;have hdr:(bM m++(32::114::101::115::116::32::cA (b.drop to9))).drop ((bM m).length+1)=[114,101,115,116,32]++cA (b.drop to9):=by
    rw[List.drop_append];simp
   have htk:(bM m++(32::114::101::115::116::32::cA (b.drop to9))).take ((bM m).length+1)=bM m++[32]:=by
    rw[List.take_append,aY (Nat.le_succ _)];simp
   have hne:b.drop to9≠[]:=by
    intro h;have:=congrArg List.length h;rw[aN]at this;simp at this;omega
   have hl2:(bM m++[32]).length<=1048576:=by
    simp only[aG,aI,bN]at h3 ⊢;omega
   rw[aYe (aMc hg.2.1 hg.1 (b.drop to9) (by omega))];simp only[if_true];rw[hdr,qA];simp only;rw[vX hne];simp only;rw[htk,pok (aLk hg.2.1 hg.1 hl2)];simp only[ne_eq,not_true_eq_false,if_false];unfold vS;rw[hs];simp only[if_true,List.take_append_drop]
  ·have e:kL b m to9=bM m:=by unfold kL;rw[aD ht]
   rw[e]at h3 ⊢;rw[pok (aAn hg.2.1 hg.1 (by omega))];simp only[ne_eq,not_true_eq_false,if_false];rw[aD (by decide)];unfold vS;rw[hs];have:b.take to9=b:=aY (by omega);simp only[if_true,this,List.append_nil]
theorem aCk(b:Bs):eF b=[]\/(∃r,eF b=32::114::r)\/(∃r,eF b=32::118::r):=by
 unfold eF;have hraw:∃r,pE b=32::114::r:=⟨_,rfl⟩;split
 ·exact .inl rfl
 ·refine .inr ?_;split
  ·exact .inl hraw
  ·split
   ·exact .inl hraw
   split
   ·exact .inl hraw
   split
   ·exact .inl hraw
   ·exact .inr ⟨_,rfl⟩
theorem aS8(b:Bs):xW (eF b)=some ([],eF b):=by
 have:jH sExt (eF b)=none:=by
  unfold jH;rw[_root_.if_neg];rcases aCk b with h|⟨r,h⟩|⟨r,h⟩<;>rw[h]<;>simp[sExt,List.isPrefixOf]
 unfold xW;rw[this]
theorem aS7{x:Bs}(h:x≠[])(b:Bs):xW (sExt++(cA x++eF b))=some (x,eF b):=by
 unfold xW;rw[qA];simp only;rw[aHk (sJ x (eF b)),List.take_left,vX h];simp only[List.drop_left]
theorem aE7{d r:Bs}(h:∀x∈d,iD x=true)(hr:∀x,r.head?=some x->iD x=false):(d++r).takeWhile iD=d:=by
 induction d with
 | nil =>
  cases r with
  | nil=>rfl
  | cons y r=>simp[List.takeWhile,hr y rfl]
 | cons y d ih =>
  rw[aO,List.takeWhile_cons,aF (h y (by simp)),ih λx hx=>h x (by simp[hx])]
theorem aTn{c:Nat}(hc:c<=65535){r:Bs}(hr:∀x,r.head?=some x->iD x=false):tU (Lib.decDigits c++r)=some (c,r):=by
 unfold tU;rw[aE7 (λx hx=>uM c x hx) hr];simp only;rw[aD (zZ c),aOl,aD (λh=>h.elim (λh=>h rfl) λh=>by omega),List.drop_left]
theorem pS{i:It}(h:(eU i).2=0):mQ (eU i).1=some i:=by
 obtain⟨k,p,f⟩:=i;unfold eU at h ⊢;simp only at h ⊢;split at h
 ·rename_i h1;rw[aF h1];obtain⟨hk,hz⟩:=h1;have hf:f=fr0:=by
   obtain⟨ty,ch,ext,body⟩:=f;unfold aAf at hz;simp only[bH,bA]at hz;obtain⟨⟨⟨q1,q2⟩,q3⟩,q4⟩:=hz;rw[q1,q2,q3,q4];rfl
  subst hk;subst hf;split at h
  ·cases h
  rename_i h2;rw[aD h2];split at h
  ·rename_i h3;rw[aF h3,h3];rfl
  ·rename_i h3;have:p=0:=by omega
   rw[aD h3,this];rfl
 rename_i h1;rw[aD h1];split at h
 ·cases h
 rename_i h2;rw[aD h2];split at h
 ·rename_i h3;exact absurd h h3
 rename_i h3;rw[aD h3];have hk:k=2:=by omega
 have hp:p=0:=by omega
 subst hk;subst hp;have hse:fN f=0:=by omega
 obtain⟨ty,ch,ext,body⟩:=f;have hfs:=hse;unfold fN at hfs;simp only at hfs;split at hfs
 ·cases hfs
 rename_i q1;split at hfs
 ·cases hfs
 rename_i q2
 -- the words behind the beginning
 obtain⟨rest,hrest⟩:∃r,r=(if ext=[]then[]else sExt++cA ext)++eF body:=⟨_,rfl⟩;have hex:xW rest=some (ext,eF body):=by
  rw[hrest];by_cases he:ext=[]
  ·rw[aF he,aX,aS8,he]
  ·rw[aD he,aP,aS7 he]
 have hrh:∀x,rest.head?=some x->iD x=false:=λx hx=>by
  rw[hrest]at hx;by_cases he:ext=[]
  ·rw[aF he,aX]at hx;rcases aCk body with h|⟨r,h⟩|⟨r,h⟩<;>rw[h]at hx<;>simp at hx<;>subst hx<;>rfl
  ·rw[aD he]at hx;have:x=32:=by simpa[sExt]using hx.symm
   subst this;rfl
 have hfin:∀c:Nat,(c:Int)=ch->mP (iV ⟨ty,ch,ext,body⟩)=some (ty,c,rest)->iV ⟨ty,ch,ext,body⟩≠oR->iV ⟨ty,ch,ext,body⟩≠lR->mQ (iV ⟨ty,ch,ext,body⟩)=some ⟨2,0,⟨ty,ch,ext,body⟩⟩:=λc hc hb n1 n2=>by
  unfold mQ;rw[aD n1,aD n2,hb];simp only;rw[hex];simp only;rw[aMe];simp only[hc];rw[aD (by rw[hse];decide)]
 by_cases ht:ty=0
 ·subst ht;have e:iV ⟨0,ch,ext,body⟩=sMain++(Lib.decDigits ch.toNat++rest):=by
   rw[hrest];unfold iV;simp only[if_true,aP]
  refine hfin ch.toNat (by omega) ?_ ?_ ?_
  ·rw[e];unfold mP;have:jH iR (sMain++(Lib.decDigits ch.toNat++rest))=none:=by
    unfold jH;rw[aD (by simp[iR,sMain,List.isPrefixOf])]
   rw[this];simp only;rw[qA];simp only;rw[aTn (by omega) hrh]
  ·rw[e];simp[sMain,oR]
  ·rw[e];simp[sMain,lR]
 ·have ht1:ty=1:=by omega
  subst ht1;have e:iV ⟨1,ch,ext,body⟩=iR++rest:=by
   rw[hrest];unfold iV;simp[aP]
  refine hfin 0 (by omega) ?_ ?_ ?_
  ·rw[e];unfold mP;rw[qA]
  ·rw[e];simp[iR,oR]
  ·rw[e];simp[iR,lR]
theorem aGt{l:Bs}{i:It}(h:mQ l=some i):(eU i).2=0:=by
 unfold mQ at h;split at h
 ·cases h;rfl
 split at h
 ·cases h;rfl
 cases hb:mP l with
 | none=>rw[hb]at h;cases h
 | some p =>
  obtain⟨ty,ch,s⟩:=p;rw[hb]at h;simp only at h;cases he:xW s with
  | none=>rw[he]at h;cases h
  | some p2 =>
   obtain⟨ext,s2⟩:=p2;rw[he]at h;simp only at h;cases hr:oF s2 with
   | none=>rw[hr]at h;cases h
   | some body =>
    rw[hr]at h;simp only at h;split at h
    ·cases h
    ·rename_i hs;cases h;unfold eU;rw[aD (by simp),aD (by simp),aD hs]
def Hi(l:Bs):Prop:=∀x∈l,32<=x.toNat
theorem Hi.app{a b:Bs}(ha:Hi a)(hb:Hi b):Hi (a++b):=λx hx=>(List.mem_append.1 hx).elim (ha x) (hb x)
theorem Hi.cons{x:UInt8}{a:Bs}(hx:32<=x.toNat)(ha:Hi a):Hi (x::a):=λy hy=>by
 rcases List.mem_cons.1 hy with rfl|hy
 ·exact hx
 ·exact ha y hy
theorem Hi.nil:Hi []:=λx hx=>by cases hx
theorem lM{l:Bs}(h:∀x∈l,cQ x=true):Hi l:=λx hx=>by
 have:=h x hx;unfold cQ at this;simp only[Bool.or_eq_true,bH,bA]at this;rcases this with(h|h)|h
 ·omega
 ·omega
 ·subst h;decide
theorem aWu(p:Bs):Hi (xY p):=by
 induction p with
 | nil=>exact Hi.nil
 | cons x p ih =>
  unfold xY;have h1:=lM (l:=[kW (x.toNat / 16),kW (x.toNat%16)]) (λy hy=>by
   have:=x.toNat_lt;simp only[List.mem_cons,List.not_mem_nil,or_false]at hy;rcases hy with rfl|rfl
   ·exact tP _ (by omega)
   ·exact tP _ (by omega))
  exact Hi.cons (by decide) (Hi.cons (by decide) (Hi.cons (h1 _ (by simp)) (Hi.cons (h1 _ (by simp)) ih)))
theorem aW3{l:Bs}(h:2<=chr l):∀x∈l.take (chr l),128<=x.toNat:=by
 intro x hxm;obtain⟨k,hk,e⟩:=List.mem_iff_getElem.1 hxm;rw[aU]at hk;rw[List.getElem_take]at e;have hg:l[k]?=some x:=by rw[aK (by omega),e]
 have hch:=aB2 hg;have hck:k<chr l:=by omega
 rw[<-hch];have hcc:=hck;rw[lP]at hcc h;split at hcc
 ·rename_i q;rw[aF q]at h;omega
 split at hcc
 ·rename_i q;have:k=0\/k=1:=by omega
  rcases this with e|e<;>rw[e]<;>omega
 split at hcc
 ·rename_i q;have:k=0\/k=1\/k=2:=by omega
  rcases this with e|e|e<;>rw[e]<;>omega
 split at hcc
 ·rename_i q;have:k=0\/k=1\/k=2\/k=3:=by omega
  rcases this with e|e|e|e<;>rw[e]<;>omega
 ·omega
theorem aSr{l:Bs}(hl:l≠[]):Hi (fK (l.take (wide l))):=by
 unfold fK;split
 ·rename_i h;rcases h with h|h<;>rw[h]<;>intro x hx<;>simp at hx<;>rcases hx with rfl|rfl<;>decide
 split
 ·intro x hx;simp at hx;rcases hx with rfl|rfl<;>decide
 split
 ·rename_i h1 h2 h3;by_cases hc:2<=chr l
  ·have hw:wide l=chr l:=by unfold wide;omega
   rw[hw];intro x hx;have:=aW3 hc x hx;omega
  ·have hw:wide l=1:=by unfold wide;omega
   rw[hw]at h3 ⊢;cases l with
   | nil=>exact absurd rfl hl
   | cons y l =>
    simp only[List.take_succ_cons,List.take_zero,oT,bH,bA]at h3 ⊢;exact Hi.cons h3.1 Hi.nil
 ·exact aWu _
theorem aV5:∀(n:Nat) (l:Bs),l.length<=n->Hi (qb l)
 | 0,l,h=>by
  have:l=[]:=bI (by omega);subst this;exact Hi.nil
 | n+1,l,h=>by
  by_cases hl:l=[]
  ·subst hl;exact Hi.nil
  ·rw[aBw l hl];have:=nH l;exact(aSr hl).app (aV5 n _ (by rw[aN];omega))
theorem tO(l:Bs):Hi (cA l):=by
 unfold cA;exact Hi.cons (by decide) ((aV5 _ l (aQ _)).app (Hi.cons (by decide) Hi.nil))
theorem hiS{l:List M}(h:∀x∈l,Hi (bM x)):Hi (gR l):=by
 induction l with
 | nil=>exact Hi.nil
 | cons x l ih=>exact Hi.cons (by decide) ((h x (by simp)).app (ih λy hy=>h y (by simp[hy])))
theorem hiL{l:List M}(h:∀x∈l,Hi (bM x)):Hi (eO l):=by
 cases l with
 | nil=>exact Hi.nil
 | cons x l=>exact(h x (by simp)).app (hiS λy hy=>h y (by simp[hy]))
theorem aYg{l:List M}(h:∀x∈l,Hi (bM x)):Hi (jR l)/\Hi (kP l):=by
 induction l with
 | nil=>exact⟨Hi.nil,Hi.nil⟩
 | cons x l ih =>
  have ih:=ih λy hy=>h y (by simp[hy]);have hx:=h x (by simp);exact⟨Hi.app (Hi.app (Hi.cons (by decide) (Hi.cons (by decide) Hi.nil)) hx) ih.2,Hi.app (Hi.app (Hi.cons (by decide) (Hi.cons (by decide) Hi.nil)) hx) ih.1⟩
theorem hiP{l:List M}(h:∀x∈l,Hi (bM x)):Hi (gS l):=by
 cases l with
 | nil=>exact Hi.nil
 | cons x l=>exact(h x (by simp)).app (aYg λy hy=>h y (by simp[hy])).1
theorem aKr:∀(m:M) (d:Nat),m.check d=0->Hi (bM m):=by
 refine M.ind λk n t e l ih=>?_;intro d hc;rw[M.check_iff]at hc;obtain⟨h1,h2⟩:=hc;obtain⟨k0,k1,hdep,hex,hnum,htx,hmap,harr,hdes⟩:=zB h1;have k0:0<=k:=k0;have k1:k<25:=k1;have harr:k=23->gF e l=true:=harr;have hp:∀x∈l,Hi (bM x):=λx hx=>ih x hx (d+1) (h2 x hx);unfold bM;split
 ·exact lM (jT 0 (by decide) (by decide)).2
 split
 ·split<;>(unfold Hi;decide)
 split
 ·exact tO t
 split
 ·exact Hi.cons (by decide) ((hiL hp).app (Hi.cons (by decide) Hi.nil))
 split
 ·exact Hi.cons (by decide) ((hiP hp).app (Hi.cons (by decide) Hi.nil))
 split
 ·rename_i h23;have ha:=harr h23;unfold gF at ha;simp only[bH,bA]at ha;refine Hi.app (Hi.app (Hi.app (Hi.app ?_ (lM (jT e (by omega) (by omega)).2)) ?_) (hiL hp)) (Hi.cons (by decide) Hi.nil)
  ·unfold Hi;decide
  ·unfold Hi;decide
 split
 ·exact Hi.cons (by decide) ((hiL hp).app (Hi.cons (by decide) Hi.nil))
 ·refine Hi.app (Hi.app (lM (jT k k0 k1).2) (Hi.cons (by decide) Hi.nil)) ?_;by_cases hq:k=18\/k=20
  ·have:cE k n t=cA t:=by
    unfold cE;rw[aD,aD,aD,aD,aF hq]
   rw[this];exact tO t
  ·refine lM (aAj (λh=>?_) hq).2;intro ht;rw[M.txt_mk,aF h,ht]at htx;simp at htx
theorem aSq(b:Bs):Hi (eF b):=by
 have hraw:Hi (pE b):=Hi.app (by unfold Hi;decide:Hi sRaw) (tO b);unfold eF;split
 ·exact Hi.nil
 cases hd:oC b 0 with
 | none=>exact hraw
 | some p =>
  obtain⟨m,to9⟩:=p;simp only;have hg:=nR hd;split
  ·exact hraw
  split
  ·exact hraw
  split
  ·exact hraw
  ·refine Hi.app (by unfold Hi;decide:Hi sValue) ?_;unfold kL;split
   ·exact Hi.app (aKr m 1 hg.1) (Hi.app (by unfold Hi;decide:Hi sRest) (tO _))
   ·exact aKr m 1 hg.1
theorem aSs(f:Fr):Hi (iV f):=by
 unfold iV;refine Hi.app (Hi.app ?_ ?_) (aSq _)
 ·split
  ·exact Hi.app (by unfold Hi;decide:Hi sMain) (lM (rN _))
  ·exact(by unfold Hi;decide:Hi iR)
 ·split
  ·exact Hi.nil
  ·exact Hi.app (by unfold Hi;decide:Hi sExt) (tO _)
theorem aU0{i:It}(h:(eU i).2=0):Hi (eU i).1/\(eU i).1≠[]/\(eU i).1.head?≠some 35:=by
 unfold eU at h ⊢;split at h
 ·rename_i h1;rw[aF h1];split at h
  ·cases h
  rename_i h2;rw[aD h2];split
  ·exact⟨λx hx=>by revert x;decide,by decide,by decide⟩
  ·exact⟨λx hx=>by revert x;decide,by decide,by decide⟩
 rename_i h1;rw[aD h1];split at h
 ·cases h
 rename_i h2;rw[aD h2];split at h
 ·rename_i h3;exact absurd h h3
 rename_i h3;rw[aD h3];refine⟨aSs _,?_,?_⟩
 ·unfold iV;split<;>simp[sMain,iR]
 ·unfold iV;split<;>simp[sMain,iR]
theorem aGs:∀ {l:Bs} (r:Bs),Hi l->dY (l++10::r)=l::dY r
 | [],r,_=>by rw[aX,dY,aF rfl]
 | x::l,r,h=>by
  have hx:x≠10:=by
   rintro rfl;have:=h 10 (by simp);revert this;decide
  rw[aO,dY,aD hx,aGs r λy hy=>h y (by simp[hy])]
theorem kM{b:Bs}{a m n:Nat}:sub b a (m+n)=sub b a m++sub b (a+m) n:=by
 unfold sub;rw[List.take_add,List.drop_drop]
theorem mS{b:Bs}{a:Nat}(h:a<b.length):sub b a 1=[UInt8.ofNat (bL b a)]:=by
 unfold sub bL;rw[dB h,aK h];simp only[List.take_succ_cons,List.take_zero,Option.getD_some,UInt8.ofNat_toNat]
theorem aN2{b:Bs}{a most to9:Nat}{f:Fr}(hm:most<=1048576)(h:oH b a most=.ok (f,to9)) :
 a+8<=to9/\to9<=b.length/\fN f=0/\to9=a+bO (sub b a 4)/\8<=bO (sub b a 4)/\bO (sub b a 4)<=most/\((bL b (a+5)=1->bL b (a+6)=0/\bL b (a+7)=0)->sO f=sub b a (to9-a)):=by
 unfold oH at h;split at h
 ·cases h
 split at h
 ·cases h
 split at h
 ·cases h
 split at h
 ·cases h
 split at h
 ·cases h
 split at h
 ·cases h
 split at h
 ·cases h
 rename_i h1 h2 h3 h4 h5 h6 h7;simp only[aN]at h1 h3 h5 h7;obtain⟨size,hsz⟩:∃n,n=bO (sub b a 4):=⟨_,rfl⟩;obtain⟨o4,ho4⟩:∃n,n=bL b (a+4):=⟨_,rfl⟩;obtain⟨ty,hty⟩:∃n,n=bL b (a+5):=⟨_,rfl⟩;rw[<-hsz,<-ho4,<-hty]at h;rw[<-hsz]at h2 h4 h7;rw[<-ho4]at h4;rw[<-hty]at h6;cases h;have ho:o4<256:=by rw[ho4];unfold bL;exact UInt8.toNat_lt _
 have he1:(sub b (a+8) (4*o4-8)).length=4*o4-8:=gY (by omega);have he2:(sub b (a+4*o4) (size-4*o4)).length=size-4*o4:=gY (by omega);have hch:bO (sub b (a+6) 2)<65536:=by
  have:=gP (sub b (a+6) 2);rw[gY (by omega)]at this;simpa using this
 have hse:fN ⟨(ty:Int),if ty=0 then(bO (sub b (a+6) 2):Int)else 0,sub b (a+8) (4*o4-8),sub b (a+4*o4) (size-4*o4)⟩=0:=by
  unfold fN aJl;simp only[he1,he2];rw[aD,aD (by split<;>omega),aD,aD]
 refine⟨by omega,by omega,hse,by rw[<-hsz],by omega,by omega,λhq=>?_⟩;rw[show a+size-a=size by omega];unfold sO aJl;simp only[he1,he2];have e4:be 4 (8+(4*o4-8)+(size-4*o4))=sub b a 4:=by
  rw[show 8+(4*o4-8)+(size-4*o4)=size by omega,hsz];have:=aNf (sub b a 4);rw[gY (by omega)]at this;exact this
 have e5:UInt8.ofNat ((8+(4*o4-8)) / 4)=UInt8.ofNat o4:=by congr 1;omega
 have e7:be 2 (if ty=0 then(bO (sub b (a+6) 2):Int)else 0).toNat=sub b (a+6) 2:=by
  split
  ·rw[aM];have:=aNf (sub b (a+6) 2);rw[gY (by omega)]at this;exact this
  ·obtain⟨q1,q2⟩:=hq (by omega);rw[show(2:Nat)=1+1 by rfl,kM,mS (by omega),mS (by omega),q1,show a+6+1=a+7 by omega,q2];rfl
 rw[e4,e5,e7,aM];have s1:sub b a size=sub b a 4++(sub b (a+4) 1++(sub b (a+5) 1++(sub b (a+6) 2++(sub b (a+8) (4*o4-8)++sub b (a+4*o4) (size-4*o4))))):=by
  rw[show size=4+(1+(1+(2+((4*o4-8)+(size-4*o4))))) by omega,kM,kM,kM,kM,kM];rw[show a+4+1=a+5 by omega,show a+5+1=a+6 by omega,show a+6+2=a+8 by omega,show a+8+(4*o4-8)=a+4*o4 by omega];rw[show 4+(1+(1+(2+((4*o4-8)+(size-4*o4)))))-4*o4=size-4*o4 by omega]
 rw[s1,mS (by omega),mS (by omega),<-ho4,<-hty];simp[aP]
theorem aOd{b:Bs}{a p to9:Nat}(h:nN b a=.ok (p,to9)):to9=a+8/\to9<=b.length/\(p=0\/p=3)/\iE p=sub b a 8:=by
 unfold nN at h;split at h
 ·cases h
 rename_i h0;split at h
 ·cases h
 rename_i h1;rw[aN]at h1;have hl:(sub b a 8).length=8:=gY (by omega);have key:∀p,aLn b a p=true->iE p=sub b a 8:=λp hp=>by
  unfold aLn at hp;have:=aB hp;rw[hl]at this;rw[this];rfl
 split at h
 ·rename_i h2;cases h;exact⟨rfl,by omega,.inl rfl,key 0 h2⟩
 ·rename_i h2;cases h;have h3:aLn b a 3=true:=by
   cases hb:aLn b a 3 with
   | true=>rfl
   | false=>exact absurd ⟨by simpa using h2,hb⟩ h0
  exact⟨rfl,by omega,.inr rfl,key 3 h3⟩
theorem aSt{b:Bs}{a e:Nat}(h:nN b a=.error e):e≠0:=by
 unfold nN at h;split at h
 ·cases h;decide
 split at h
 ·cases h;decide
 split at h
 ·cases h
 ·cases h
theorem aRx{b:Bs}{a most e:Nat}(h:oH b a most=.error e):e≠0:=by
 unfold oH at h;split at h
 ·cases h;decide
 split at h
 ·cases h;decide
 split at h
 ·cases h;decide
 split at h
 ·cases h;decide
 split at h
 ·cases h;decide
 split at h
 ·cases h;decide
 split at h
 ·cases h;decide
 ·cases h
theorem aJ9{b:Bs}{a most e:Nat}(h:pN b a most=.error e):e≠0:=by
 unfold pN at h;split at h
 ·cases hh:nN b a with
  | error e2=>rw[hh]at h;cases h;exact aSt hh
  | ok p=>obtain⟨p,to9⟩:=p;rw[hh]at h;cases h
 ·cases hh:oH b a most with
  | error e2=>rw[hh]at h;cases h;exact aRx hh
  | ok p=>obtain⟨p,to9⟩:=p;rw[hh]at h;cases h
def QF(b:Bs)(most:Nat):Nat->Nat->Prop
 | 0,_=>True
 | f+1,a=>if b.length<a+8 then True
  else if bL b a=76 then QF b most f (a+8)
  else if bO (sub b a 4)<8\/most<bO (sub b a 4)then True
  else(bL b (a+5)=1->bL b (a+6)=0/\bL b (a+7)=0)/\QF b most f (a+bO (sub b a 4))
theorem aRa{b:Bs}{a n:Nat}(h:a<b.length)(hn:1<=n):(sub b a n).head?=some (UInt8.ofNat (bL b a)):=by
 unfold sub bL;rw[dB h,aK h];cases n with
 | zero=>omega
 | succ n=>simp only[List.take_succ_cons,List.head?_cons,Option.getD_some,UInt8.ofNat_toNat]
theorem aIk{b:Bs}{a:Nat}(ha:a<b.length)(h:pU b a=true):bL b a=76:=by
 unfold pU at h;have h:=aB h;have h1:=aRa (n:=4) ha (by decide);have hl:(sub b a 4).length=min 4 (b.length-a):=aBt b a 4;obtain⟨k,hk⟩:∃k,(sub b a 4).length=k+1:=⟨(sub b a 4).length-1,by omega⟩;rw[hk]at h;rw[h]at h1;have:UInt8.ofNat (bL b a)=76:=by
  have:=h1.symm;simpa[iE]using this
 have h2:=congrArg UInt8.toNat this;rw[UInt8.toNat_ofNat']at h2;have h3:bL b a<256:=by unfold bL;exact UInt8.toNat_lt _
 have:(76:UInt8).toNat=76:=by decide
 omega
theorem aN4{b:Bs}{a most to9 f:Nat}{i:It}(hm:most<=1048576)(ha:a<b.length)(h:pN b a most=.ok (i,to9))(hq:QF b most (f+1) a) :
 a<to9/\to9<=b.length/\(eU i).2=0/\fC i=sub b a (to9-a)/\QF b most f to9:=by
 unfold pN at h;unfold QF at hq;split at h
 ·rename_i hh;cases hr:nN b a with
  | error e=>rw[hr]at h;cases h
  | ok p =>
   obtain⟨p,to'⟩:=p;rw[hr]at h;cases h;obtain⟨h1,h2,h3,h4⟩:=aOd hr;rw[aD,aF (aIk ha hh)]at hq;refine⟨by omega,h2,?_,?_,by rw[h1];exact hq⟩
   ·rcases h3 with rfl|rfl<;>rfl
   ·unfold fC;rw[aF rfl,aM,h4];congr 1;omega
 ·cases hr:oH b a most with
  | error e=>rw[hr]at h;cases h
  | ok p =>
   obtain⟨fr,to'⟩:=p;rw[hr]at h;cases h;obtain⟨h1,h2,h3,h4,h5,h6,h7⟩:=aN2 hm hr;have hne:bL b a≠76:=by
    intro he;have hs:sub b a 4=UInt8.ofNat 76::sub b (a+1) 3:=by
     rw[show(4:Nat)=1+3 by rfl,kM,mS ha,he];rfl
    have hv:bO (sub b a 4)=1275068416+bO (sub b (a+1) 3):=by
     rw[hs,kE,gY (by omega)];rfl
    omega
   rw[aD,aD hne,aD]at hq;refine⟨by omega,h2,?_,?_,by rw[h4];exact hq.2⟩
   ·unfold eU;rw[aD (by simp),aD (by simp),aD (by simp[h3])]
   ·unfold fC;rw[aD (by simp)];exact h7 hq.1
theorem aVy{b:Bs}{most:Nat}(hm:most<=1048576):∀(f a:Nat) (acc:Bs),a<=b.length->b.length-a<f->QF b most f a ->
 ∃T a' e,mN b most f a acc=(acc++T,e)/\a<=a'/\a'<=b.length/\(e=0↔a'=b.length)/\∀n acc2,jY (dY T) n acc2=(acc2++sub b a (a'-a),0,0)
 | 0,a,acc,ha,hf,_=>by omega
 | f+1,a,acc,ha,hf,hq=>by
  unfold mN;by_cases hl:b.length<=a
  ·rw[aF hl];refine⟨[],a,0,by simp,aQ _,ha,by simp;omega,λn acc2=>?_⟩;simp[dY,jY,sub]
  ·rw[aD hl];cases hn:pN b a most with
   | error e =>
    have he:=aJ9 hn;refine⟨[],a,e,by simp,aQ _,ha,by constructor<;>intro h<;>omega,λn acc2=>?_⟩;simp[dY,jY,sub]
   | ok p =>
    obtain⟨i,to9⟩:=p;simp only;obtain⟨h1,h2,h3,h4,h5⟩:=aN4 hm (by omega) hn hq;obtain⟨T,a',e,g1,g2,g3,g4,g5⟩:=aVy hm f to9 (acc++((eU i).1++[10])) h2 (by omega) h5;obtain⟨q1,q2,q3⟩:=aU0 h3;refine⟨(eU i).1++10::T,a',e,by rw[g1];simp,by omega,g3,g4,λn acc2=>?_⟩;rw[aGs T q1,jY,aD (λh=>h.elim q2 q3),pS h3];simp only;have e1:=@kM b a (to9-a) (a'-to9);rw[show a+(to9-a)=to9 by omega,show to9-a+(a'-to9)=a'-a by omega]at e1;rw[g5,h4,aP,e1]
end Go.Note
namespace Go.Note
open Go
theorem aSu{b:Bs}{a p to9:Nat}(h:nN b a=.ok (p,to9)):a<to9/\to9<=b.length/\(p=0\/p=3):=by
 obtain⟨h1,h2,h3,_⟩:=aOd h;omega
end Go.Note
namespace Go.Proofs.YtlfhjkgdlclddaaGreatDoor
open Go Go.Sv Go.Note
attribute [local irreducible] aS
theorem aN6(l:Bs)(k:Nat):(⟨l.toArray⟩:ByteArray).extract 0 k=⟨(l.take k).toArray⟩:=by
 apply ByteArray.ext;apply Array.toList_inj.1;rw[fT];simp
theorem aL7{b:Bs}(h:b.length<=1048576):(eF b).length<=8388608:=by
 have hq:=gK b;have hr:(pE b).length<=8388608:=by
  unfold pE;rw[aG];have:sRaw.length=5:=rfl;omega
 unfold eF;split
 ·simp
 split
 ·exact hr
 ·split
  ·exact hr
  split
  ·exact hr
  split
  ·exact hr
  ·rw[aG];have:sValue.length=7:=rfl;omega
theorem aD2{i:It}(h:i.kind=1\/fN i.fr=0):(eU i).1.length+1<=16777216:=by
 obtain⟨kind,proto,f⟩:=i;unfold eU;dsimp only;split
 ·split
  ·exact(by decide)
  split
  ·exact(by decide)
  ·exact(by decide)
 split
 ·exact(by decide)
 rename_i h1 h2;have hk:kind=2:=Decidable.byContradiction λq=>h2 (.inl q);have hs:fN f=0:=by
  rcases h with h|h
  ·have h:kind=1:=h;omega
  ·exact h
 rw[aD (λq=>q hs)];obtain⟨s1,s2,s3,s4,s5⟩:=yV hs;unfold iV;rw[aG,aG];have e1:=aL7 s5;have e2:=gK f.ext;have e3:(if f.ty=0 then sMain++Lib.decDigits f.ch.toNat else iR).length<=100:=by
  split
  ·rw[aG];have:=uL 19 f.ch.toNat (by omega);have:sMain.length=5:=rfl;omega
  ·decide
 have e4:(if f.ext=[]then[]else sExt++cA f.ext).length<=5000:=by
  split
  ·simp
  ·rw[aG];have:sExt.length=5:=rfl;omega
 show _+_+(eF f.body).length+1<=_;omega
theorem aR1{b:Bs}{a most to9:Nat}{i:It}(hm:most<=1048576)(h:pN b a most=.ok (i,to9)):a<to9/\to9<=b.length/\(i.kind=1\/fN i.fr=0):=by
 unfold pN at h;split at h
 ·cases hh:nN b a with
  | error e=>rw[hh]at h;cases h
  | ok x =>
   obtain⟨p,t⟩:=x;rw[hh]at h;cases h;obtain⟨g1,g2,_⟩:=aSu hh;exact⟨g1,g2,.inl rfl⟩
 ·cases hh:oH b a most with
  | error e=>rw[hh]at h;cases h
  | ok x =>
   obtain⟨f,t⟩:=x;rw[hh]at h;cases h;obtain⟨g1,g2,g3,_⟩:=aN2 hm hh;exact⟨by omega,g2,.inr g3⟩
theorem st6{w:World}{a:Nat}{zs:List Value}{x:IV}{K:World->Prop}(h:blk w a=some zs)(hl:zs.length=6)(hk:∀w',blk w' a=some x.g->Ch (·=a) w w'->w'.heap.size=w.heap.size->K w') :
 Sv.st w ⟨a,0,none⟩ (.int .i64 x.kind) λw1=>Sv.st w1 ⟨a,1,none⟩ (.int .i64 x.proto) λw2=>Sv.st w2 ⟨a,2,none⟩ (.int .i64 x.fv.ty) λw3=>Sv.st w3 ⟨a,3,none⟩ (.int .i64 x.fv.ch) λw4=>Sv.st w4 ⟨a,4,none⟩ (.slice x.fv.ep x.fv.ext.length x.fv.ec) λw5=>Sv.st w5 ⟨a,5,none⟩ (.slice x.fv.bp x.fv.body.length x.fv.bc) K :=
 oQ x.g 0 (K:=K) h (by rw[hl];exact aQ 6) λw' b c z=>hk w' (by
  rw[b];congr 1;unfold fX;rw[List.take_zero,aX,bW (by rw[hl];exact aQ _),List.append_nil]) c z
theorem ld6{w:World}{k:Nat}{x:IV}{K:Int->Int->Int->Int->Option Addr->Nat->Nat->Option Addr->Nat->Nat->Prop}(h:blk w k=some x.g)(hk:K x.kind x.proto x.fv.ty x.fv.ch x.fv.ep x.fv.ext.length x.fv.ec x.fv.bp x.fv.body.length x.fv.bc) :
 ∃n,w.cell? ⟨k,0,none⟩=some (.int .i64 n)/\∃n1,w.cell? ⟨k,1,none⟩=some (.int .i64 n1)/\∃n2,w.cell? ⟨k,2,none⟩=some (.int .i64 n2)/\∃n3,w.cell? ⟨k,3,none⟩=some (.int .i64 n3)/\∃p n4 c,w.cell? ⟨k,4,none⟩=some (.slice p n4 c)/\∃p1 n5 c1,w.cell? ⟨k,5,none⟩=some (.slice p1 n5 c1)/\K n n1 n2 n3 p n4 c p1 n5 c1 :=
 ⟨_,aJ h 0 rfl,_,aJ h 1 rfl,_,aJ h 2 rfl,_,aJ h 3 rfl,_,_,_,aJ h 4 rfl,_,_,_,aJ h 5 rfl,hk⟩
theorem iv6(x:IV):Value.agg (Array.mk [.int .i64 x.kind,.int .i64 x.proto,.int .i64 x.fv.ty,.int .i64 x.fv.ch,.slice x.fv.ep x.fv.ext.length x.fv.ec,.slice x.fv.bp x.fv.body.length x.fv.bc])=x.v:=rfl
theorem is9{x:IV}{a e:Int}{K:Int->Int->Int->Int->Option Addr->Nat->Nat->Option Addr->Nat->Nat->Int->Int->Prop}(hk:K x.kind x.proto x.fv.ty x.fv.ch x.fv.ep x.fv.ext.length x.fv.ec x.fv.bp x.fv.body.length x.fv.bc a e) :
 ∃n1 n2 n3 n4 p n5 c p1 n6 c1 n7 n8,Value.tuple (Array.mk [x.v,.int .i64 a,.int .i64 e])=.tuple (Array.mk [.agg (Array.mk [.int .i64 n1,.int .i64 n2,.int .i64 n3,.int .i64 n4,.slice p n5 c,.slice p1 n6 c1]),.int .i64 n7,.int .i64 n8])/\K n1 n2 n3 n4 p n5 c p1 n6 c1 n7 n8:=⟨_,_,_,_,_,_,_,_,_,_,_,_,rfl,hk⟩
theorem aXu{x:FV}{a e:Int}{K:Int->Int->Option Addr->Nat->Nat->Option Addr->Nat->Nat->Int->Int->Prop}(hk:K x.ty x.ch x.ep x.ext.length x.ec x.bp x.body.length x.bc a e) :
 ∃n3 n4 p n5 c p1 n6 c1 n7 n8,Value.tuple (Array.mk [x.v,.int .i64 a,.int .i64 e])=.tuple (Array.mk [.agg (Array.mk [.int .i64 n3,.int .i64 n4,.slice p n5 c,.slice p1 n6 c1]),.int .i64 n7,.int .i64 n8])/\K n3 n4 p n5 c p1 n6 c1 n7 n8:=⟨_,_,_,_,_,_,_,_,_,_,rfl,hk⟩
theorem aR2{w:World}{K:Addr->World->Prop}(hk:∀w',BAt w' TB w.heap.size [] none->Ch (λ_=>False) w w'->w'.heap.size=w.heap.size+1->K ⟨w.heap.size,0,none⟩ w'):bP w [.pointer none,.slice none 0 0] 56 K:=by
 unfold bP;exact hk _ BAt.new (eV w _) (by simp)
structure NxK(b:Bs)(a most:Nat)(w:World)(K:Value->World->Prop):Prop where
 ok:∀(x:IV) (to9:Nat) w',pN b a most=.ok (x.i,to9)->FR w' x.fv->Ch (λ_=>False) w w'->K (.tuple (Array.mk [x.v,.int .i64 (to9:Int),.int .i64 0])) w'
 no:∀(x:IV) (t:Int) (e:Nat) w',pN b a most=.error e->Ch (λ_=>False) w w'->K (.tuple (Array.mk [x.v,.int .i64 t,.int .i64 (e:Int)])) w'
theorem aOb{w':World}{q:Option Addr}{n:Nat}{l:Bs}{x:IV}{k:Nat}(hr:Rd w' q n 1 (aV l))(hb:blk w' k=some x.g):∀ad,q=some ad->n*1≠0->ad.block≠k:=by
 intro ad ha h0 e;obtain⟨b',o,hp,hc⟩:=hr.cell (i:=0) (by omega);rw[hp]at ha;cases ha;have e:b'=k:=e;subst e;rw[eA hb]at hc;have hl:l.length=n:=by have:=hr.1;simpa using this
 cases l with
 | nil=>simp at hl;omega
 | cons y l =>
  have hc:x.g[o+0]?=some (.int .u8 (y.toNat:Int)):=hc;unfold IV.g at hc;rcases o with _|_|_|_|_|_|o
  ·cases hc
  ·cases hc
  ·cases hc
  ·cases hc
  ·cases hc
  ·cases hc
  ·simp at hc
theorem FR.ibox{w w':World}{x:FV}{y:IV}{k:Nat}(h:FR w x)(hb:blk w k=some y.g)(hc:Ch (·=k) w w'):FR w' x :=
 ⟨h.ext.ch hc (aOb h.ext hb),h.body.ch hc (aOb h.body hb),h.el,h.bl,h.ecap,h.bcap⟩
theorem aR7{b:Bs}{p:Option Addr}{c a most:Nat}{w:World}(hr:Rd w p b.length 1 (aV b))(hcap:b.length<=c)(hbl:b.length<=2^40)(ha:a<=b.length)(hm:512<=most/\most<=1048576){K:Value->World->Prop}(hK:NxK b a most w K) :
 bK Tryz.prog 33 [.slice p b.length c,.int .i64 (a:Int),.int .i64 (most:Int)] w K:=by
 apply aH7;obtain⟨hok,hno⟩:=hK;have hnx:pN b a most=if pU b a=true then match nN b a with
  | .error e=>.error e
  | .ok (p,to9)=>.ok (⟨1,(p:Int),fr0⟩,to9)
  else match oH b a most with
   | .error e=>.error e
   | .ok (f,to9)=>.ok (⟨2,0,f⟩,to9):=rfl
 have hhd:pU b a=decide (Note.sub b a 4=([76,83,72,82]:Bs).take (Note.sub b a 4).length):=rfl;generalize pN b a most=o at hok hno hnx;generalize pU b a=hd at hnx hhd;obtain⟨R,hR⟩:∃R,R=Note.sub b a 4:=⟨_,rfl⟩;rw[<-hR]at hhd;have hRl:R.length=min 4 (b.length-a):=by rw[hR];unfold Note.sub;rw[aU,aN]
 have hRs:R=Note.sub b a R.length:=by
  rw[hRl,hR];unfold Note.sub;rw[List.take_eq_take_iff,aN];omega
 refine bD λw1 b1 c1 z1=>?_;have b1:blk w1 w.heap.size=some (IV.g ⟨0,0,fv0⟩):=b1;have b1l:=aH b1;have hz:=c1.size;simp only[add_at,aL];rw[aW (n:=(b.length:Int)-(a:Int)),show min 4 ((b.length:Int)-(a:Int))=((R.length:Nat):Int) by omega,nameI_iff,aW (n:=(a:Int)+(R.length:Int))];have e1:((a:Nat):Int).toNat=a:=aM _;have e2:((a:Int)+(R.length:Int)).toNat=a+R.length:=by omega
 have e3:((R.length:Nat):Int).toNat=R.length:=aM _;rw[e1,e2,e3,show a+R.length-a=R.length by omega];have cd:Ch (λ_=>False) w1 w1.drew:=Ch.d0;have c01:=c1.trans' cd;have hr1:=hr.ch c01 λ_ _ _=>id;have hRd:Rd w1.drew (gI p a c 1) R.length 1 (aV R):=by
  have:=uN hr1 (j:=a) (m:=R.length) (by omega) hcap
  rwa [<-hRs]at this
 have b1d:blk w1.drew w.heap.size=some (IV.g ⟨0,0,fv0⟩):=b1;refine⟨by omega,by omega,by omega,by omega,by omega,by omega,_,cD fD iL dN hRd,?_⟩;have ex:(ByteArray.mk (Array.mk [76,83,72,82])).extract 0 R.length=⟨(([76,83,72,82]:Bs).take R.length).toArray⟩   := aN6 [76,83,72,82] R.length;rw[ex,nX,<-hhd];refine aC (λq=>?_) (λq=>?_)
 ·rw[aF q]at hnx;refine aEk hr1 hcap hbl ha ⟨λpr to9 w' hh c'=>⟨_,_,_,rfl,?_⟩,λe w' hh c'=>⟨_,_,_,rfl,?_⟩⟩
  ·rw[hh]at hnx;refine st6 (x:=⟨1,(pr:Int),fv0⟩) ((c'.blk (aH b1d) id).trans b1d) rfl λw8 b8 c8 z8=>ld6 b8 ?_;exact hok ⟨1,(pr:Int),fv0⟩ to9 w8 hnx ⟨⟨rfl,.inl rfl⟩,⟨rfl,.inl rfl⟩,bQ _,bQ _,aQ _,aQ _⟩ ((c01.trans' c').trans c8 λj hj q=>by omega)
  ·rw[hh]at hnx;refine st6 (x:=⟨1,0,fv0⟩) ((c'.blk (aH b1d) id).trans b1d) rfl λw8 b8 c8 z8=>ld6 b8 ?_;exact hno ⟨1,0,fv0⟩ 0 e w8 hnx ((c01.trans' c').trans c8 λj hj q=>by omega)
 ·rw[aD (by rw[q];decide)]at hnx;refine aS5 hr1 hcap hbl ha hm ⟨λx to9 w' hh hx _ _ c'=>aXu ?_,λe w' hh c'=>aXu (x:=fv0) ?_⟩
  ·rw[hh]at hnx;refine bD λw3 b3 c3 z3=>?_;simp only[add_at,aL];refine aM3 (x:=x) b3 rfl λw7 b7 c7 z7=>?_;have c17:Ch (λ_=>False) w' w7:=c3.trans c7 λj hj q=>by omega
   have h7:=hx.ch0 c17;refine⟨_,aJ b7 0 rfl,_,aJ b7 1 rfl,_,_,_,aJ b7 2 rfl,_,_,_,aJ b7 3 rfl,?_⟩;have b1':=((c'.trans' c17).blk (aH b1d) id).trans b1d;refine st6 (x:=⟨2,0,x⟩) b1' rfl λw13 b13 c13 z13=>ld6 b13 ?_;exact hok ⟨2,0,x⟩ to9 w13 hnx (h7.ibox b1' c13) (((c01.trans' c').trans' c17).trans c13 λj hj q=>by omega)
  ·rw[hh]at hnx;refine bD λw3 b3 c3 z3=>?_;simp only[add_at,aL];refine aM3 (x:=fv0) b3 rfl λw7 b7 c7 z7=>?_;have c17:Ch (λ_=>False) w' w7:=c3.trans c7 λj hj q=>by omega
   refine⟨_,aJ b7 0 rfl,_,aJ b7 1 rfl,_,_,_,aJ b7 2 rfl,_,_,_,aJ b7 3 rfl,?_⟩;refine st6 (x:=⟨2,0,fv0⟩) (((c'.trans' c17).blk (aH b1d) id).trans b1d) rfl λw13 b13 c13 z13=>ld6 b13 ?_;exact hno ⟨2,0,fv0⟩ 0 e w13 hnx (((c01.trans' c').trans' c17).trans c13 λj hj q=>by omega)
theorem aGw{b:Bs}{p:Option Addr}{c:Nat}{most:Int}{w:World}(hr:Rd w p b.length 1 (aV b))(hcap:b.length<=c)(hbl:b.length<=2^20)(hL:LW w){K:Value->World->Prop}(hk:∀w',Ch (λ_=>False) w w'->K (.tuple (Array.mk [.string ⟨(zN b most).1.toArray⟩,.int .i64 ((zN b most).2:Int)])) w') :
 bK Tryz.prog 14 [.slice p b.length c,.int .i64 most] w K:=by
 apply aFj;have hlr:zN b most=if most<512\/1048576<most then([],1)else mN b most.toNat (b.length+1) 0 []:=rfl;generalize zN b most=LR at hk hlr;have ret:∀ {w':World} (l:Bs) (e:Nat),LR=(l,e)->Ch (λ_=>False) w w'->K (.tuple (Array.mk [.string ⟨l.toArray⟩,.int .i64 (e:Int)])) w':=by
  intro w' l e he hc;have:=hk w' hc;rw[he]at this;exact this
 refine⟨λw1=>w1=w/\512<=most/\most<=1048576,?_,?_⟩
 rotate_left
 ·refine aC (λq=>?_) (λq=>?_)
  ·have q:¬most<512:=by simpa using q
   refine aC (λq2=>?_) (λq2=>⟨rfl,by omega,by have:=aA q2;omega⟩);have q2:=aB q2;exact ret [] 1 (by rw[hlr,aF (.inr q2)]) (Ch.refl _ _)
  ·have q:most<512:=by simpa using q
   exact ret [] 1 (by rw[hlr,aF (.inl q)]) (Ch.refl _ _)
 rintro w1 ⟨rfl,hm1,hm2⟩;rw[aD]at hlr;obtain⟨M,hM⟩:∃M:Nat,most=(M:Int):=⟨most.toNat,by omega⟩;rw[hM,aM]at hlr;rw[hM];refine aR2 λw2 hB0 c0 z0=>?_;have hT:BT TB:=.inl rfl;refine⟨λm n w3=>∃(a:Nat) (acc:Bs) (g:Option Nat),n=(a:Int)/\a<=b.length/\b.length-a<m/\LR=mN b M m a acc/\acc.length<=16777216*a/\BAt w3 TB w1.heap.size acc g/\(∀k,g=some k->w1.heap.size<=k)/\Ch (λ_=>False) w1 w3,⟨b.length+1,0,[],none,rfl,bQ _,by omega,hlr,by simp,hB0,λk h=>(nomatch h),c0⟩,?_⟩;rintro m n w3 ⟨a,acc,g,rfl,ha,hf,hlr3,hal,hB3,hg3,c3⟩;obtain⟨f,rfl⟩:∃f,m=f+1:=⟨m-1,by omega⟩;have hfin:∀ {w4:World} (e:Nat) {g':Option Nat},BAt w4 TB w1.heap.size acc g'->(∀k,g'=some k->w1.heap.size<=k)->Ch (λ_=>False) w1 w4->LR=(acc,e)->bK Tryz.prog 34 [.pointer (some ⟨w1.heap.size,0,none⟩)] w4 λv w5=>∃s,v=.string s/\K (.tuple (Array.mk [.string s,.int .i64 (e:Int)])) w5:=by
  intro w4 e g' hB hg hc hE;exact uR hB (by omega) λw5 c5=>⟨_,rfl,ret acc e hE (hc.trans c5 λj hj q=>by have:=hg j q;omega)⟩
 refine aC (λq=>?_) (λq=>?_)
 rotate_left
 ·have q:=aA q;have hE:LR=(acc,0):=by rw[hlr3,mN,aF]
  exact hfin 0 hB3 hg3 c3 hE
 have q:=aB q;rw[mN,aD]at hlr3;refine aR7 (hr.ch c3 λ_ _ _=>id) hcap (by omega) ha ⟨by omega,by omega⟩ ⟨λx to9 w4 hnx hx c4=>is9 ?_,λx t e w4 hnx c4=>is9 ?_⟩
 rotate_left
 ·rw[hnx]at hlr3;dsimp only at hlr3;refine bD λw5 b5 c5 z5=>?_;simp only[add_at,aL];refine st6 (x:=x) b5 rfl λw11 b11 c11 z11=>?_;have he:=aJ9 hnx;refine cG (by simp[bne,dS];omega) ?_;have c3_11:Ch (λ_=>False) w3 w11:=(c4.trans' c5).trans c11 λj hj q=>by have:=c4.size;omega
  exact hfin e (hB3.ch c3_11 id λ_ _=>id) hg3 (c3.trans' c3_11) hlr3
 rw[hnx]at hlr3;dsimp only at hlr3;obtain⟨nb1,nb2,nb3⟩:=aR1 (by omega) hnx;have hll:=aD2 nb3;refine bD λw5 b5 c5 z5=>?_;simp only[add_at,aL];refine st6 (x:=x) b5 rfl λw11 b11 c11 z11=>dJ (ld6 b11 ?_);have c4_11:Ch (λ_=>False) w4 w11:=c5.trans c11 λj hj q=>by omega
 have c3_11:=c4.trans' c4_11;rw[iv6];refine xP (hx.ch0 c4_11) ((hL.ch0 c3).ch0 c3_11) λw12 c12=>⟨_,_,rfl,?_⟩;have c3_12:=c3_11.trans' c12;have hB12:=hB3.ch c3_12 id λ_ _=>id;have c112:=c3.trans' c3_12;refine iW hB12 hT _ (by rw[cV];omega) λw13 B13=>⟨_,_,rfl,?_⟩;obtain⟨g13,A13,n13,cc13⟩:=B13;have hg13:∀k,g13=some k->w1.heap.size<=k:=λk hk=>by
  rcases n13 k hk with h|h
  ·exact hg3 k h
  ·have:=c112.size;omega
 have c113:Ch (λ_=>False) w1 w13:=c112.trans cc13 λj hj q=>by
  rcases q with q|q
  ·omega
  ·have:=hg3 j q;omega
 have hdl:(ByteArray.mk (eU x.i).1.toArray).data.toList=(eU x.i).1:=by simp
 rw[hdl]at A13;refine gG (c:=10) A13 hT (by rw[aG];omega) λw14 B14=>⟨_,rfl,?_⟩;obtain⟨g14,A14,n14,cc14⟩:=B14;have hg14:∀k,g14=some k->w1.heap.size<=k:=λk hk=>by
  rcases n14 k hk with h|h
  ·exact hg13 k h
  ·have:=c113.size;omega
 have c114:Ch (λ_=>False) w1 w14:=c113.trans cc14 λj hj q=>by
  rcases q with q|q
  ·omega
  ·have:=hg13 j q;omega
 rw[aP]at A14;refine⟨f,by omega,to9,_,g14,rfl,nb2,by omega,hlr3,?_,A14,hg14,c114⟩;rw[aG,aG,dQ];omega
theorem aVk{s:ByteArray}{i:Nat}(hi:i<s.size){x:UInt8}{t:Bs}(hl:x::t=s.data.toList.drop i) :
 ∃r n,Utf8.decode s i=(r,n)/\1<=n/\n<=(x::t).length/\((x.toNat<128/\r=x.toNat/\n=1)\/(128<=x.toNat/\128<=r/\∀y∈(x::t).take n,128<=y.toNat)):=by
 rw[aHa hi hl];have h0:ch (x::t) 0=x.toNat:=rfl;have hk:∀k,ch (x::t) k / 64=2->∃y,(x::t)[k]?=some y/\128<=y.toNat:=by
  intro k h;unfold ch at h;cases hg:(x::t)[k]? with
  | some y=>rw[hg]at h;exact⟨y,rfl,by have h:y.toNat / 64=2:=h;omega⟩
  | none=>rw[hg]at h;simp at h
 have tk:∀(l:Bs) (k:Nat) (x:UInt8),l[k]?=some x->l.take (k+1)=l.take k++[x]:=by
  intro l k x h;rw[kG,h];rfl
 have len:∀k,ch (x::t) k / 64=2->k+1<=(x::t).length:=by
  intro k h;obtain⟨y,hy,_⟩:=hk k h;have:=(List.getElem?_eq_some_iff.1 hy).1;omega
 have all1:128<=x.toNat->∀y∈(x::t).take 1,128<=y.toNat:=by
  intro h y hy;simp at hy;rw[hy];exact h
 have more:∀k,ch (x::t) k / 64=2->(∀y∈(x::t).take k,128<=y.toNat)->∀y∈(x::t).take (k+1),128<=y.toNat:=by
  intro k h hp y hy;obtain⟨z,hz,hz2⟩:=hk k h;rw[tk _ _ _ hz,List.mem_append]at hy;rcases hy with hy|hy
  ·exact hp y hy
  ·simp at hy;rw[hy];exact hz2
 have one:1<=(x::t).length:=by simp
 by_cases hx:x.toNat<128
 ·rw[aF (by rw[h0];exact hx)];exact⟨_,_,rfl,aQ _,one,.inl ⟨hx,h0,rfl⟩⟩
 rw[aD (by rw[h0];exact hx)];have hx:128<=x.toNat:=by omega
 have bad:∃r n,((65533:Nat),(1:Nat))=(r,n)/\1<=n/\n<=(x::t).length/\((x.toNat<128/\r=x.toNat/\n=1)\/(128<=x.toNat/\128<=r/\∀y∈(x::t).take n,128<=y.toNat)):=⟨_,_,rfl,aQ _,one,.inr ⟨hx,by omega,all1 hx⟩⟩;split
 ·rename_i q;split
  ·rename_i q2;exact⟨_,_,rfl,by omega,len 1 q.2,.inr ⟨hx,by omega,more 1 q.2 (all1 hx)⟩⟩
  ·exact bad
 split
 ·rename_i q;split
  ·rename_i q2;exact⟨_,_,rfl,by omega,len 2 q.2.2,.inr ⟨hx,by omega,more 2 q.2.2 (more 1 q.2.1 (all1 hx))⟩⟩
  ·exact bad
 split
 ·rename_i q;split
  ·rename_i q2;exact⟨_,_,rfl,by omega,len 3 q.2.2.2,.inr ⟨hx,by omega,more 3 q.2.2.2 (more 2 q.2.2.1 (more 1 q.2.1 (all1 hx)))⟩⟩
  ·exact bad
 ·exact bad
theorem aVz{l:Bs}{n:Nat}(h:∀y∈l.take n,128<=y.toNat)(hn:n<=l.length)(i:Nat):uS l i false=uS (l.drop n) (i+n) false:=by
 conv=>lhs;rw[<-List.take_append_drop n l]
 rw[aHl _ _ i λy hy=>⟨by rintro rfl;have:=h _ hy;simp at this,by rintro rfl;have:=h _ hy;simp at this⟩,aU,Nat.min_eq_left hn]
theorem aWa{x:UInt8}{t:Bs}{n:Nat}(h:n=1\/∀y∈(x::t).take n,128<=y.toNat)(h1:1<=n)(hn:n<=(x::t).length)(i:Nat):uS (x::t) i true=uS ((x::t).drop n) (i+n) false:=by
 obtain⟨k,rfl⟩:∃k,n=k+1:=⟨n-1,by omega⟩;rw[List.drop_succ_cons];have e:uS (x::t) i true=uS t (i+1) false:=by rw[uS];simp
 rw[e];rcases h with h|h
 ·have:k=0:=by omega
  subst this;rfl
 ·rw[aI]at hn;rw[aVz (n:=k) (λy hy=>h y (by rw[List.take_succ_cons];exact cN _ hy)) (by omega)];congr 1;omega
theorem aKf{s:ByteArray}(hs:s.size<=2^40){w:World}{K:Value->World->Prop}(hk:∀w',Ch (λ_=>False) w w'->K (.int .i64 (eT s.data.toList:Int)) w'):bK Tryz.prog 39 [.string s] w K:=by
 apply aBb;generalize hWE:eT s.data.toList=WE at hk;refine⟨_,_,run_range_string (P:=Tryz.prog) w _ s dN,?_⟩;have i3:(w.iter s 0).heap[w.heap.size]?=some (.stringIter s 0):=heap_alloc_new w _;have c3:Ch (λ_=>False) w (w.iter s 0):=eV w _;generalize w.iter s 0=w3 at i3 c3 ⊢;generalize hit:w.heap.size=it at i3 ⊢;refine⟨λm b w4=>∃pos,pos<=s.size/\m=s.size-pos/\w4.heap[it]?=some (.stringIter s pos)/\Ch (λ_=>False) w w4/\((pos=0/\b=false)\/(1<=pos/\uS (s.data.toList.drop pos) pos b=WE)),
  ⟨s.size,0,by omega,rfl,i3,c3,.inl ⟨rfl,rfl⟩⟩,?_⟩
 rintro m b w4 ⟨pos,hpos,rfl,i4,c4,hcase⟩;by_cases hp:pos<s.size
 ·right;obtain⟨l,hl⟩:∃l,l=s.data.toList.drop pos:=⟨_,rfl⟩;have hll:l.length=s.size-pos:=by rw[hl,aN,Array.length_toList];rfl
  cases l with
  | nil=>simp at hll;omega
  | cons x t =>
  obtain⟨r,n,hdec,hn1,hn,hrn⟩:=aVk hp hl;have hnx:=Lib.run_next_any_at (P:=Tryz.prog) w4 it s pos 3 i4 hp;rw[hdec]at hnx;refine⟨(pos:Int),(r:Int),_,hnx,?_⟩;have i5:(w4.iterAt it s (pos+n)).heap[it]?=some (.stringIter s (pos+n)):=Lib.iterAt_heap w4 it s pos _ i4;have c5:Ch (λ_=>False) w (w4.iterAt it s (pos+n)):=c4.trans (⟨rfl,rfl,rfl,by rw[Lib.iterAt_size];exact aQ _,λk _ hn=>Lib.iterAt_other w4 it k s _ hn⟩:Ch (·=it) w4 (w4.iterAt it s (pos+n))) λx hx hs=>by omega
  dsimp only;generalize w4.iterAt it s (pos+n)=w5 at i5 c5 ⊢;have hdrop:s.data.toList.drop (pos+n)=(x::t).drop n:=by rw[hl,List.drop_drop]
  have again:∀b',uS ((x::t).drop n) (pos+n) b'=WE->∃m',m'<s.size-pos/\∃pos',pos'<=s.size/\m'=s.size-pos'/\w5.heap[it]?=some (.stringIter s pos')/\Ch (λ_=>False) w w5/\((pos'=0/\b'=false)\/(1<=pos'/\uS (s.data.toList.drop pos') pos' b'=WE)) :=
   λb' h=>⟨s.size-(pos+n),by omega,pos+n,by omega,rfl,i5,c5,.inr ⟨by omega,by rw[hdrop];exact h⟩⟩
  rcases hcase with⟨rfl,rfl⟩|⟨h1,hwe⟩
  ·have hall:eT (x::t)=WE:=by rw[hl];exact hWE
   have hW:(if x=34 then uS t 1 false else 0)=WE:=hall;refine aC (λ_=>?_) λh=>absurd h (by decide);refine aC (λh=>?_) λh=>?_
   ·have hx:x≠34:=by
     rintro rfl;rcases hrn with⟨_,rfl,_⟩|⟨h,_⟩
     ·simp at h
     ·simp at h
    rw[aD hx]at hW;rw[<-hW]at hk;exact hk w5 c5
   ·have hr:r=34:=by simp at h;omega
    rcases hrn with⟨h1,h2,h3⟩|⟨_,h2,_⟩
    ·have hx:x=34:=UInt8.toNat_inj.1 (by rw[<-h2,hr];rfl);rw[aF hx]at hW;refine aC (λ_=>again false ?_) λh=>absurd h (by decide);rw[h3];exact hW
    ·omega
  ·rw[<-hl]at hwe;refine aC (λh=>by simp at h;omega) λ_=>?_;refine aC (λh=>by simp at h;omega) λ_=>?_;refine aC (λh=>?_) λh=>?_
   ·subst h;refine again false ?_;rw[<-hwe,aWa _ hn1 hn];rcases hrn with⟨_,_,h⟩|⟨_,_,h⟩
    ·exact .inl h
    ·exact .inr h
   subst h;rcases hrn with⟨h1,h2,h3⟩|⟨h1,h2,h3⟩
   ·subst h2 h3;have e:uS (x::t) pos false=if x=92 then uS t (pos+1) true else if x=34 then pos+1 else uS t (pos+1) false:=by rw[uS];simp
    rw[e]at hwe;have q92:(((x.toNat:Int) == 92)=true↔x=92):=by
     rw[beq_iff_eq,<-UInt8.toNat_inj];show(x.toNat:Int)=92↔x.toNat=92;omega
    have q34:(((x.toNat:Int) == 34)=true↔x=34):=by
     rw[beq_iff_eq,<-UInt8.toNat_inj];show(x.toNat:Int)=34↔x.toNat=34;omega
    refine aC (λh=>again true ?_) λh=>?_
    ·rw[aF (q92.1 h)]at hwe;exact hwe
    rw[aD λhx=>by rw[q92.2 hx]at h;cases h]at hwe;refine aC (λh=>?_) λh=>again false ?_
    ·rw[aF (q34.1 h)]at hwe;unfold cF;rw[aW];rw[<-hwe]at hk;exact hk w5 c5
    ·rw[aD λhx=>by rw[q34.2 hx]at h;cases h]at hwe;exact hwe
   ·refine aC (λh=>by simp at h;omega) λ_=>?_;refine aC (λh=>by simp at h;omega) λ_=>again false ?_;rw[<-hwe,aVz h3 hn]
 ·left;refine⟨_,Lib.run_next_end_at w4 it s pos _ i4 hp,?_⟩;have:pos=s.size:=by omega
  subst this;have hnil:s.data.toList.drop s.size=[]:=List.drop_eq_nil_of_le (by rw[Array.length_toList];exact aQ _);have:WE=0:=by
   rcases hcase with⟨h1,h2⟩|⟨h1,h2⟩
   ·rw[<-hWE];rw[h1]at hnil;rw[show s.data.toList=[]from hnil];rfl
   ·rw[hnil]at h2;rw[<-h2];cases b<;>rfl
  rw[this]at hk;exact hk w4 c4
theorem sEq(a:ByteArray)(m:Bs):(a.toList == (ByteArray.mk (Array.mk m)).toList)=decide (a.data.toList=m):=by
 rw[ByteArray.toList_eq,ByteArray.toList_eq];by_cases h:a.data.toList=m
 ·rw[aR h,h];exact beq_self_eq_true _
 ·rw[bB h];exact beq_eq_false_iff_ne.2 h
theorem xB(s:Bs):lD s=(if(aA3 s).2=true/\(aA3 s).1≠[]then some (aA3 s).1 else none):=rfl
def sv(r:Option Bs):Value->Prop:=λv=>match r with
 | some b=>v=.tuple #[.string ⟨b.toArray⟩,.bool true]
 | none=>v=.tuple #[.string ⟨#[]⟩,.bool false]
def sv1(r:Option Bs):Value->Prop:=λv=>match r with
 | some b=>v=.tuple #[.string ⟨b.toArray⟩,.bool true]
 | none=>∃s:ByteArray,v=.tuple #[.string s,.bool false]
theorem aDy{s:ByteArray}(hs:s.size<=2^40){w:World}(hL:LW w){K:Value->World->Prop}(hk:∀v w',Ch (λ_=>False) w w'->sv (lD s.data.toList) v->K v w'):bK Tryz.prog 40 [.string s] w K:=by
 apply aH5;have hse:=xB s.data.toList;have hun:aA3 s.data.toList=match gE s.data.toList with|some p=>if p.2=s.data.toList.length then(p.1,true)else([],false)|none=>([],false):=rfl
 have hl:s.data.toList.length=s.size:=by rw[Array.length_toList];rfl
 rw[hl]at hun;generalize aA3 s.data.toList=U at hse hun;generalize lD s.data.toList=R at hk hse;have no:U=([],false)->∀w',Ch (λ_=>False) w w'->K (.tuple #[.string ⟨#[]⟩,.bool false]) w':=by
  rintro rfl w' c;subst hse;exact hk _ _ c rfl
 refine aNj hs hL.ut hL.size λw' c=>?_;cases hw:gE s.data.toList with
 | none =>
  rw[hw]at hun;exact⟨_,_,rfl,aC (λh=>by cases h) λ_=>no hun w' c⟩
 | some p =>
  rw[hw]at hun;dsimp only at hun ⊢;split
  ·rename_i h;rw[aF h]at hun;subst hun;refine⟨_,_,rfl,aC (λ_=>?_) λh=>by cases h⟩;rw[sEq,<-decide_not];refine hk _ _ c ?_;subst hse;dsimp only;by_cases he:p.1=[]
   ·rw[aD λh=>h.2 he,bB λh=>h he,he];rfl
   ·rw[aF ⟨rfl,he⟩,aR he];rfl
  ·rename_i h;rw[aD h]at hun;exact⟨_,_,rfl,aC (λh=>by cases h) λ_=>no hun w' c⟩
theorem aDz{s:ByteArray}(hs:s.size<=2^40)(is:Bool){w:World}(hL:LW w){K:Value->World->Prop}(hk:∀v w',Ch (λ_=>False) w w'->sv1 (if is then lD s.data.toList else none) v->K v w'):bK Tryz.prog 72 [.string s,.bool is] w K:=by
 apply aDf;refine aDy hs hL λv w' c hv=>?_;generalize lD s.data.toList=R at hk hv;cases R with
 | none =>
  have hv:v=_:=hv;subst hv;refine⟨_,_,rfl,aC (λh=>?_) λh=>?_⟩
  ·exact hk _ _ c (by rw[h];exact⟨_,rfl⟩)
  ·exact hk _ _ c (by rw[h];exact⟨_,rfl⟩)
 | some b =>
  have hv:v=_:=hv;subst hv;refine⟨_,_,rfl,aC (λh=>?_) λh=>?_⟩
  ·exact hk _ _ c (by rw[h];rfl)
  ·exact hk _ _ c (by rw[h];exact⟨_,rfl⟩)
end Go.Proofs.YtlfhjkgdlclddaaGreatDoor
namespace Go.Note
open Go Go.Proofs.YtlfhjkgdlclddaaGreatDoor
def N44{α:Type}(x:Fd α):Prop:=∀b,x≠.bad b 44
theorem oW{α:Type}(x:α)(b:Nat):N44 (.ok x b):=λ_ h=>by cases h
theorem kS{α:Type}(b e:Nat)(h:e≠44):N44 (.bad b e:Fd α):=λ_ q=>by cases q;exact h rfl
theorem eY{α:Type}(t:Tok)(e:Nat)(h:e≠44):N44 (cM t e:Fd α):=kS _ _ (by split<;>omega)
theorem wJ{α:Type}(t:Tok):N44 (wanted t:Fd α):=by
 unfold wanted;split
 ·exact eY _ _ (by decide)
 ·exact eY _ _ (by decide)
theorem zM{rd:Nat->Fd M}{s:Bs}(hr:∀a,N44 (rd a))(elem:Option Nat):∀f a acc,N44 (fU rd s elem f a acc)
 | 0,_,_=>kS _ _ (by decide)
 | f+1,a,acc=>by
  unfold fU;simp only;split
  ·exact oW _ _
  ·have:=hr a;cases h:rd a with
   | bad c e=>exact kS _ _ λq=>this c (by rw[h,q])
   | ok m c =>
    cases elem with
    | none=>exact zM hr none f c _
    | some k =>
     simp only;split
     ·exact zM hr (some k) f c _
     ·exact eY _ _ (by decide)
theorem aGp{rd:Nat->Fd M}{s:Bs}(hr:∀a,N44 (rd a)):∀f a acc,N44 (fY rd s f a acc)
 | 0,_,_=>kS _ _ (by decide)
 | f+1,a,acc=>by
  unfold fY;have h1:=hr a;cases h:rd a with
  | bad c e=>exact kS _ _ λq=>h1 c (by rw[h,q])
  | ok k c =>
   simp only;split
   ·exact wJ _
   ·have h2:=hr (next s c).fin;cases h3:rd (next s c).fin with
    | bad c e=>exact kS _ _ λq=>h2 c (by rw[h3,q])
    | ok v d =>
     simp only;split
     ·exact oW _ _
     split
     ·exact wJ _
     ·exact aGp hr f _ _
theorem aDu{rd:Nat->Fd M}{s:Bs}(hr:∀a,N44 (rd a))(elem:Option Nat)(a:Nat):N44 (listed rd s elem a):=by
 unfold listed;have h1:=zM (s:=s) hr elem (s.length+1) a [];cases h:fU rd s elem (s.length+1) a []with
 | bad c e=>exact kS _ _ λq=>h1 c (by rw[h,q])
 | ok l c=>cases elem<;>exact oW _ _
theorem aKc(l:List M)(o a:Nat):N44 (uT l o a):=by
 unfold uT;split
 ·exact kS _ _ (by decide)
 ·exact oW _ _
theorem aWp(s:Bs):∀d a,N44 (gZ s d a):=by
 intro d
 induction d with
 | zero =>
  intro a;rw[gJ];split
  ·split<;>exact eY _ _ (by decide)
  ·exact eY _ _ (by decide)
 | succ d ih =>
  intro a;rw[gJ];have num:∀k a,N44 (dU s k a):=by
   intro k a;unfold dU;simp only;split
   ·exact eY _ _ (by decide)
   split
   ·split
    ·exact oW _ _
    ·exact eY _ _ (by decide)
   ·split
    ·split<;>exact oW _ _
    ·exact eY _ _ (by decide)
  have wo:∀k t,N44 (eX k t):=by
   intro k t;unfold eX;split
   ·exact eY _ _ (by decide)
   split
   ·exact eY _ _ (by decide)
   ·exact oW _ _
  split
  ·split<;>exact eY _ _ (by decide)
  ·simp only;split
   ·exact oW _ _
   split
   ·exact oW _ _
   split
   ·exact wo _ _
   split
   ·exact wo _ _
   split
   ·exact aDu ih _ _
   split
   ·unfold rE;simp only;split
    ·exact aKc _ _ _
    ·have h1:=aGp (s:=s) ih (s.length+1) (next s a).fin [];cases h:fY (gZ s d) s (s.length+1) (next s a).fin []with
     | bad c e=>exact kS _ _ λq=>h1 c (by rw[h,q])
     | ok l c=>exact aKc _ _ _
   split
   ·unfold nA;simp only;split
    ·exact eY _ _ (by decide)
    split
    ·exact eY _ _ (by decide)
    split
    ·exact eY _ _ (by decide)
    split
    ·exact eY _ _ (by decide)
    ·exact aDu ih _ _
   split
   ·unfold jA;have h1:=ih (next s a).fin;cases h:gZ s d (next s a).fin with
    | bad c e=>exact kS _ _ λq=>h1 c (by rw[h,q])
    | ok x c =>
     simp only;have h2:=ih c;cases h3:gZ s d c with
     | bad c e=>exact kS _ _ λq=>h2 c (by rw[h3,q])
     | ok y b =>
      simp only;split
      ·exact wJ _
      ·exact oW _ _
   ·exact num _ _
theorem aUt{s:Bs}(h:(cY s).2.2=44):(cY s).2.1<=s.length:=by
 unfold cY at h ⊢;cases hp:gT s with
 | ok m b=>rw[hp]at h;cases h
 | bad a e =>
  rw[hp]at h;have he:e=44:=h;subst he;show a<=s.length;unfold gT at hp;split at hp
  ·cases hp
  ·cases hr:gZ s 32 0 with
   | bad c e=>rw[hr]at hp;cases hp;exact absurd hr (aWp s 32 0 a)
   | ok m c =>
    rw[hr]at hp;have hg:=fE s 32 0 m c (bQ _) hr;have hl:=dM s c hg.2;simp only at hp;split at hp
    ·unfold cM at hp;have hp:=(Fd.bad.inj hp).1;omega
    ·cases hp
theorem aAo(s:Bs):(cY s).1.fits/\(cY s).1.sz<=1048577:=by
 unfold cY;cases hp:gT s with
 | ok m b =>
  obtain⟨_,h1,h2,_,h3⟩:=aCw hp;exact⟨h1,by show m.sz<=_;omega⟩
 | bad a e =>
  show(M.mk 0 0 [] 0 []).fits/\(M.mk 0 0 [] 0 []).sz<=1048577;exact⟨iG (by decide),by rw[M.sz_mk];simp⟩
theorem aBs(s:Bs):(aA3 s).1.length<=s.length:=by
 unfold aA3;cases h:gE s with
 | none=>simp
 | some p =>
  obtain⟨y,n⟩:=p;have:=aFz h;have:=tY h;simp only;split
  ·simp only;omega
  ·simp
end Go.Note
namespace Go.Proofs.YtlfhjkgdlclddaaGreatDoor
open Go Go.Sv Go.Note
attribute [local irreducible] aS
theorem sl2(l:Bs):(ByteArray.mk l.toArray).data.toList=l:=by simp
theorem aSa(l:Bs)(k:Nat):(⟨l.toArray⟩:ByteArray).extract k (ByteArray.mk l.toArray).size=⟨(l.drop k).toArray⟩:=by
 have h:=fT ⟨l.toArray⟩ k (ByteArray.mk l.toArray).size;rw[sl2,cV,aY (by rw[aN];exact aQ _)]at h;have:∀a b:ByteArray,a.data.toList=b.data.toList->a=b:=λa b h=>by
  cases a;cases b;simp at h;simp[h]
 refine this _ _ ?_;rw[cV,h]
theorem aNa{l:Bs}{w:World}{K:Option Addr->Nat->Nat->World->Prop}(hk:∀p c w',Rd w' p l.length 1 (aV l)->l.length<=c->Ch (λ_=>False) w w'->w'.heap.size=w.heap.size+1->K p l.length c w') :
 ∃p n c w',Sem.run Tryz.prog (convert 9 22 (.string ⟨l.toArray⟩)) w=.ok (.slice p n c) w'/\K p n c w':=by
 refine⟨_,_,_,_,Lib.run_convert_string_bytes w 9 22 5 ⟨l.toArray⟩ dN fD iL,?_⟩;have hsz:(ByteArray.mk l.toArray).size=l.length:=cV l;rw[hsz];refine hk _ _ _ ⟨by simp,.inr ⟨w.heap.size,0,(Lib.bytesCells w 5 ⟨l.toArray⟩).toList,rfl,?_,?_,?_⟩⟩ (grownCap_ge _ _ _ _) ?_ (Lib.bytesWorld_size _ _ _)
 ·unfold fI;rw[Lib.bytesWorld_at_new]
 ·simp[Lib.bytesCells]
 ·unfold Lib.bytesCells;rw[Array.toList_append,bS,Nat.mul_one,kF (by simp),aY (by simp)];simp[aV]
 ·exact⟨rfl,rfl,rfl,by rw[Lib.bytesWorld_size];omega,λb hb _=>Lib.bytesWorld_at_old _ _ _ _ hb⟩
theorem aAa{l q:Bs}{w:World}{K:Value->World->Prop}(h1:∀r,jH q l=some r->r.length<=l.length->K (.tuple #[.string ⟨r.toArray⟩,.bool true]) w)(h2:jH q l=none->K (.tuple #[.string ⟨l.toArray⟩,.bool false]) w) :
 bK Tryz.prog 37 [.string ⟨l.toArray⟩,.string (ByteArray.mk (Array.mk q))] w K:=by
 refine(Tryz.strings_CutPrefix _ _ w).mono ?_;rintro e w' ⟨rfl,rfl⟩;refine⟨_,rfl,?_⟩;rw[sl2];show K (.tuple #[.string ⟨(Lib.trimPrefix l q).toArray⟩,.bool (Lib.hasPrefix l q)]) w';unfold Lib.trimPrefix Lib.hasPrefix;unfold jH at h1 h2;by_cases h:q.isPrefixOf l=true
 ·rw[aF h,h];rw[aF h]at h1;exact h1 _ rfl (by rw[aN];omega)
 ·rw[aD h];rw[aD h]at h2;have h:q.isPrefixOf l=false:=Bool.eq_false_iff.2 h;rw[h];exact h2 rfl
theorem yW(w:World)(p:Option Addr):Rd w p ([]:Bs).length 1 (aV []):=⟨rfl,.inl rfl⟩
theorem aR5{l:Bs}(hs:l.length<=2^38){w:World}(hL:LW w){K:Value->World->Prop}
 (hk:∀p c (body:Bs) ok w',Rd w' p body.length 1 (aV body)->body.length<=c->body.length<=2^39->oF l=(if ok=true then some body else none)->Ch (λ_=>False) w w'->K (.tuple #[.slice p body.length c,.bool ok]) w') :
 bK Tryz.prog 41 [.string ⟨l.toArray⟩] w K:=by
 apply aH6;have hrd:oF l=if l=[]then some []
  else match jH sRaw l with
   | some w=>lD w
   | none=>match jH sValue l with
    | none=>none
    | some t =>
     if(cY t).2.2=44 then match jH [114,101,115,116,32] (t.drop (cY t).2.1)with
      | none=>none
      | some w=>match lD w with
        | none=>none
        | some rest=>if(cY (t.take (cY t).2.1)).2.2≠0 then none else vS (cY (t.take (cY t).2.1)).1 rest
     else if(cY t).2.2≠0 then none
     else vS (cY t).1 []:=rfl
 generalize oF l=RR at hk hrd;have no:∀w',RR=none->Ch (λ_=>False) w w'->K (.tuple #[.slice none 0 0,.bool false]) w':=λw' h c=>hk none 0 [] false w' (yW _ _) (aQ _) (by decide) (by rw[h];rfl) c;rw[sEq,sl2];refine aC (λq=>?_) (λq=>?_)
 ·rw[aF (aB q)]at hrd;exact hk none 0 [] true w (yW _ _) (aQ _) (by decide) (by rw[hrd];rfl) (Ch.refl _ _)
 rw[aD (aA q)]at hrd;refine aAa (q:=sRaw) (λr hr hrl=>?_) (λhr=>?_)
 ·rw[hr]at hrd;refine⟨_,_,rfl,aC (λ_=>?_) λh=>by cases h⟩;refine aDy (by rw[cV];omega) hL λv w1 c1 hv=>?_;rw[sl2]at hv;have hul:=aBs r;have hse:=xB r;dsimp only at hrd;rw[<-hrd]at hv hse;cases hRR:RR with
  | none =>
   rw[hRR]at hv;have hv:v=_:=hv;subst hv;refine⟨_,_,rfl,aNa (l:=[]) λp c w2 r2 hc c2 _=>?_⟩;exact hk p c [] false w2 r2 hc (by decide) (by rw[hRR];rfl) (c1.trans' c2)
  | some b =>
   rw[hRR]at hv hse;have hv:v=_:=hv;subst hv;have hb:b.length<=r.length:=by
    split at hse
    ·cases hse;omega
    ·cases hse
   refine⟨_,_,rfl,aNa λp c w2 r2 hc c2 _=>?_⟩;exact hk p c b true w2 r2 hc (by omega) (by rw[hRR];rfl) (c1.trans' c2)
 rw[hr]at hrd;dsimp only at hrd;refine⟨_,_,rfl,aC (λh=>by cases h) λ_=>?_⟩;refine aAa (q:=sValue) (λt ht htl=>?_) (λht=>?_)
 rotate_left
 ·rw[ht]at hrd;exact⟨_,_,rfl,aC (λ_=>no w hrd (Ch.refl _ _)) λh=>by cases h⟩
 rw[ht]at hrd;dsimp only at hrd;refine⟨_,_,rfl,aC (λh=>by cases h) λ_=>?_⟩;refine aLs (by rw[cV];omega) hL λx w2 hxm hvo hxb c2=>?_;rw[sl2]at hxm;rw[sl2];have hra:=aUt (s:=t);have hpg:=aAo t;generalize hP:cY t=P at hrd hxm hra hpg;obtain⟨m,at_,e⟩:=P;dsimp only at hrd hxm hra hpg ⊢;refine is7 (nbx (x:=x) rfl λw8 b8 c8 z8=>?_);have c08:=c2.trans' c8;simp only[add_at,aL]
 -- what is done with a value that was read
 refine⟨λn6 xs w10=>∃(y:MV) (rest:Bs) (e6:Nat),n6=(e6:Int)/\xs=⟨rest.toArray⟩/\blk w10 w2.heap.size=some y.g/\VO w10 y/\y.m.fits/\y.m.sz<=1048577/\rest.length<=2^38/\Ch (λ_=>False) w w10/\RR=(if e6≠0 then none else vS y.m rest),?_,?_⟩
 ·rintro n6 xs w10 ⟨y,rest,e6,rfl,rfl,b10,v10,hf,hz,hrl,c10,hRR⟩;rw[eJ];refine aC (λh=>?_) (λh=>?_)
  ·have h:e6≠0:=by simpa using h
   rw[aF h]at hRR;exact no w10 hRR c10
  have h:e6=0:=by simpa using h
  rw[aD]at hRR;refine rF b10 ?_;rw[vv];refine aHi (Q:=(·∈y.B)) hf (by omega) (hL.ch0 c10) v10.vr' λp n c own w11 g11=>⟨_,_,_,_,rfl,?_⟩;have hgl:=g11.len;have hel:(pA y.m).1.length<=1048576:=by
   unfold pA;split
   ·simp
   split
   ·simp
   ·simp only;omega
  refine g11.str (by omega) λp' c' own' w12 g12=>?_;have hn:n+rest.length=((pA y.m).1++rest).length:=by rw[aG,hgl]
  have hr12:=g12.ow.rd;have hc12:=g12.ow.2.1;rw[hn]at hr12 hc12;have hb0:((((pA y.m).2:Nat):Int) == 0)=decide ((pA y.m).2=0):=by
   rw[dS];exact decide_eq_decide.2 (by omega)
  show K (.tuple #[.slice p' (n+rest.length) c',.bool ((((pA y.m).2:Nat):Int) == 0)]) w12;rw[hn,hb0];refine hk p' c' _ _ w12 hr12 hc12 (by rw[aG];omega) ?_ (c10.trans' (g12.ch0));rw[hRR];unfold vS;by_cases hq:(pA y.m).2=0
  ·rw[aF hq,aF (aR hq)]
  ·rw[aD hq,aD (by simpa using hq)]
 rw[dS];refine aC (λh=>?_) (λh=>?_)
 ·have h:e=44:=by have:=aB h;omega
  rw[aF h]at hrd;have hat:=hra h;refine⟨by omega,by rw[cV];omega,?_⟩;rw[aM,aSa];refine aAa (q:=[114,101,115,116,32]) (λr hr hrl=>?_) (λhr=>?_)
  ·rw[hr]at hrd;rw[aN]at hrl;dsimp only at hrd;refine⟨_,_,rfl,aDz (by rw[cV];omega) true (hL.ch0 c08) λv w11 c11 hv=>?_⟩;rw[sl2,aF rfl]at hv;have hul:=aBs r;have hse:=xB r;generalize lD r=SR at hrd hv hse;cases SR with
   | none =>
    obtain⟨b,rfl⟩:=hv;exact⟨_,_,rfl,aC (λ_=>no w11 hrd (c08.trans' c11)) λh=>by cases h⟩
   | some rest =>
    have hv:v=_:=hv;subst hv;have hb:rest.length<=r.length:=by
     split at hse
     ·cases hse;omega
     ·cases hse
    refine⟨_,_,rfl,aC (λh=>by cases h) λ_=>?_⟩;refine⟨by omega,by rw[cV];omega,?_⟩;rw[aN6];refine aLs (by rw[cV,aU];omega) (hL.ch0 (c08.trans' c11)) λy w12 hym hvo2 hyb c12=>?_;rw[sl2]at hym;rw[sl2];have hpg2:=aAo (t.take at_);dsimp only at hrd;generalize hP2:cY (t.take at_)=P2 at hrd hym hpg2;obtain⟨m2,a2,e2⟩:=P2;dsimp only at hrd hym hpg2 ⊢;refine is7 ?_;have c812:=c11.trans' c12;have b12:=(c812.blk (aH b8) id).trans b8;have hz2:=c812.size;refine st5 b12 (MV.glen x) λw17 b17 c17 z17=>?_;refine⟨y,rest,e2,rfl,rfl,b17,VO.ch c17 y hvo2 (λj hj q=>by have:=hyb j hj;have:=c11.size;omega),by rw[hym];exact hpg2.1,by rw[hym];exact hpg2.2,by omega,(c08.trans' c812).trans c17 (λj hj q=>by have:=c2.size;omega),?_⟩;rw[hrd,hym]
  ·rw[hr]at hrd;refine⟨_,_,rfl,aDz (by rw[cV,aN];omega) false (hL.ch0 c08) λv w11 c11 hv=>?_⟩;obtain⟨b,rfl⟩:=hv;exact⟨_,_,rfl,aC (λ_=>no w11 hrd (c08.trans' c11)) λh=>by cases h⟩
 ·have h:e≠44:=by have:=aA h;omega
  rw[aD h]at hrd;refine⟨x,[],e,rfl,rfl,b8,VO.ch c8 x hvo λ_ _=>id,by rw[hxm];exact hpg.1,by rw[hxm];exact hpg.2,by simp,c08,?_⟩;rw[hrd,hxm]
end Go.Proofs.YtlfhjkgdlclddaaGreatDoor
namespace Go.Proofs
open Go.Shelf
def Tryz.lays161_ren:Go.Shelf.Ren:=⟨fun|161=>68|231=>98|227=>99|233=>100|235=>101|228=>136|197=>137|151=>138|260=>197|152=>198|137=>145|119=>211|224=>218|225=>217|217=>204|266=>264|n=>n,fun|9=>9|4=>4|3=>3|5=>5|117=>131|116=>130|0=>0|124=>134|105=>179|21=>21|119=>254|46=>73|139=>257|138=>256|n=>n,fun|3=>4|4=>5|n=>n⟩
theorem Tryz.lays161:Go.Proofs.Lays.n161 Tryz.prog Tryz.lays161_ren:=by constructor<;>first|kernel_rfl|(intro w;kernel_rfl)|(constructor<;>first|kernel_rfl|(intro w;kernel_rfl)|(constructor<;>first|kernel_rfl|(intro w;kernel_rfl)))
def Tryz.laysC172_ren:Go.Shelf.Ren:=⟨fun|172=>69|244=>102|245=>103|247=>139|279=>140|280=>141|281=>142|282=>143|287=>199|316=>200|171=>22|205=>201|321=>262|322=>263|243=>45|246=>75|283=>113|284=>114|285=>115|286=>116|129=>166|317=>165|318=>167|319=>168|320=>169|337=>220|338=>221|n=>n,fun|9=>9|3=>3|75=>61|76=>62|4=>4|5=>5|167=>182|37=>22|0=>0|85=>183|2=>2|168=>185|53=>80|175=>222|46=>73|210=>225|127=>95|145=>261|143=>259|21=>21|171=>151|173=>154|212=>205|51=>165|20=>20|213=>206|232=>266|233=>267|80=>59|n=>n,fun|15=>1|16=>2|17=>0|18=>6|19=>7|n=>n⟩
theorem Tryz.laysC172:Go.Proofs.LaysC.n172 Tryz.prog Tryz.laysC172_ren:=by constructor<;>first|kernel_rfl|(intro w;kernel_rfl)|(constructor<;>first|kernel_rfl|(intro w;kernel_rfl)|(constructor<;>first|kernel_rfl|(intro w;kernel_rfl)))
end Go.Proofs
