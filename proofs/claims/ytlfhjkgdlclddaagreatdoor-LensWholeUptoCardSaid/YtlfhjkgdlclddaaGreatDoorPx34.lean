/-
  The law LensLines. The law LensBack. The law's quiet: the channel's bytes of the guard's frames put to 0. How long a connection's lines are; the law LensWhole. What came in, as a law's call finds it: 'Inp', read off the statement's own words; and the wrap of a law's statement ('lift_said'). Over every program. The wrap of a law's statement where the row lists package variables; a world for its witness. Over every program. The bound of the second form, as a measure. The frame of the lens' laws: what the listed variables hold; a world for the witness; the arguments. The wrap of a law's statement, with the data that its arguments read as (a bound on a whole nested value can be had of them). The wrap of a law's statement, with the shape of the world it begins in (what a variable that is not laid holds).
-/
import Derived.Test.YtlfhjkgdlclddaaGreatDoorPx33
import Derived.ProofKit
import Derived.OpenShut
import Derived.ShutString
import Derived.ChangeOld
import Derived.Below
import Derived.Carry
import Derived.SizedLaws
import Derived.Deep.Slices
import Derived.Deep.CondSized
import Derived.Deep.DeepHandedRow
import Derived.Lib.LaidTab
import Derived.Test.YtlfhjkgdlclddaaGreatDoorRows
import Derived.Test.YtlfhjkgdlclddaaGreatDoorCards
import Derived.Test.YtlfhjkgdlclddaaGreatDoorTie
import Derived.Shelf.LaysM
import Derived.LaidLaws
import Derived.LaidHandle
import Derived.LaidSub
import Derived.Lib.LaidU8T
import Derived.PinnedBridge
set_option linter.unusedVariables false
set_option linter.unusedSimpArgs false
set_option maxRecDepth 4000
namespace Go.Proofs.YtlfhjkgdlclddaaGreatDoor
open Go Go.Sv Go.Note
attribute [local irreducible] aS
theorem aU1(n:Int){P Q:Prop}(h:P):aS (n == n) P Q:=aC (λ_=>h) λq=>by simp at q
theorem aXi{P Q:Prop}(h:P):aS true P Q:=aC (λ_=>h) λq=>by cases q
end Go.Proofs.YtlfhjkgdlclddaaGreatDoor
namespace Go.Note
open Go Go.Proofs.YtlfhjkgdlclddaaGreatDoor
theorem aD3{i:It}(h:(eU i).2≠0):(eU i).1=[]:=by
 unfold eU at h ⊢;split
 ·rename_i h1;rw[aF h1]at h;split
  ·rfl
  ·rename_i h2;rw[aD h2]at h;split at h<;>exact absurd rfl h
 ·rename_i h1;rw[aD h1]at h;split
  ·rfl
  ·rename_i h2;rw[aD h2]at h;split
   ·rfl
   ·rename_i h3;rw[aD h3]at h;exact absurd rfl h
theorem aGu{i:It}(h:(eU i).2=0):i.kind=1\/fN i.fr=0:=by
 unfold eU at h;split at h
 ·rename_i h1;exact .inl h1.1
 ·split at h
  ·cases h
  ·split at h
   ·rename_i h3;exact absurd h h3
   ·rename_i h3;exact .inr (by omega)
end Go.Note
namespace Go.Proofs.YtlfhjkgdlclddaaGreatDoor
open Go Go.Sv Go.Note
attribute [local irreducible] aS
theorem aHc{x y:IV}{w:World}(hx:FR w x.fv)(hy:FR w y.fv)(he:x.i=y.i){K:Value->World->Prop}(hk:∀w',Ch (λ_=>False) w w'->K (.bool true) w'):bK Tryz.prog 16 [x.v,y.v] w K:=by
 have e1:x.kind=y.kind:=congrArg It.kind he;have e2:x.proto=y.proto:=congrArg It.proto he;have e3:x.fv.f=y.fv.f:=congrArg It.fr he;have hs:aNu x.fv.f y.fv.f=true:=by
  rw[e3];unfold aNu;simp
 apply qX;refine bD λw1 b1 c1 z1=>bD λw2 b2 c2 z2=>?_;have b1:blk w1 w.heap.size=some x.g:=b1;have b2:blk w2 w1.heap.size=some y.g:=b2;have c02:=c1.trans' c2;have b12:=(c2.blk (aH b1) id).trans b1;simp only[add_at,aL];refine⟨_,aJ b12 2 rfl,_,aJ b12 3 rfl,_,_,_,aJ b12 4 rfl,_,_,_,aJ b12 5 rfl,_,aJ b2 2 rfl,_,aJ b2 3 rfl,_,_,_,aJ b2 4 rfl,_,_,_,aJ b2 5 rfl,?_⟩;refine aP9 (x:=x.fv) (y:=y.fv) (hx.ch0 c02) (hy.ch0 c02) λw3 c3=>⟨_,rfl,?_⟩;rw[hs];have b13:=(c3.blk (aH b12) id).trans b12;have b23:=(c3.blk (aH b2) id).trans b2;refine aXi ⟨_,aJ b13 0 rfl,_,aJ b23 0 rfl,?_⟩;rw[e1];refine aU1 _ ⟨_,aJ b13 1 rfl,_,aJ b23 1 rfl,?_⟩;rw[e2,show(y.proto == y.proto)=true from by simp];exact hk w3 (c02.trans' c3)
theorem aXy{x:IV}{l:Bs}{w:World}(hx:FR w x.fv)(hl:l.length<=2^37)(hX:LX w){K:Value->World->Prop}(hk:∀w',Ch (λ_=>False) w w'->K (.bool true) w') :
 bK Tryz.prog 5 [x.v,.string ⟨l.toArray⟩] w K:=by
 apply nM;refine bD λw1 b1 c1 z1=>?_;have b1:blk w1 w.heap.size=some x.g:=b1;simp only[add_at,aL];refine aLp (hX.ch0 c1) λw2 c2=>⟨_,rfl,aC (λh=>by cases h) λ_=>?_⟩;have c02:=c1.trans' c2;have b12:=(c2.blk (aH b1) id).trans b1;refine ld6 b12 ?_;rw[iv6];refine xP (x:=x) (hx.ch0 c02) (hX.lw.ch0 c02) λw3 c3=>⟨_,_,rfl,?_⟩;have c03:=c02.trans' c3;have b13:=(c3.blk (aH b12) id).trans b12;refine⟨λw4=>w4=w3/\((eU x.i).2≠0->(eU x.i).1=[]),?_,?_⟩
 rotate_left
 ·rw[eJ,aJo];refine aC (λh=>?_) (λh=>⟨rfl,aD3⟩);refine aC (λh2=>?_) (λh2=>⟨rfl,aD3⟩);rw[aD3 (by simpa using h)]at h2;simp at h2
 rintro w4 ⟨rfl,_⟩;refine⟨λw5=>Ch (λ_=>False) w w5,?_,?_⟩
 ·intro w5 c05;refine tI hl (hX.lw.ch0 c05) (λy w6 hi hF c6=>?_) (λw6 hi c6=>?_)
  ·have c06:=c05.trans' c6;refine is8 (bD λw7 b7 c7 z7=>?_);simp only[add_at,aL];refine st6 b7 rfl λw13 b13' c13 z13=>?_;have c613:Ch (λ_=>False) w6 w13:=c7.trans c13 λj hj q=>by omega
   have c013:=c06.trans' c613;refine aC (λh=>absurd h (by decide)) λ_=>?_;have hF13:=hF.ch0 c613;refine ld6 b13' ?_;rw[iv6];refine xP (x:=y) hF13 (hX.lw.ch0 c013) λw14 c14=>⟨_,_,rfl,?_⟩;have c014:=c013.trans' c14;have hz:=aGt hi;have hll:=aD2 (aGu hz);refine tI (by omega) (hX.lw.ch0 c014) (λv w15 hi2 hF2 c15=>?_) (λw15 hi2 c15=>by rw[pS hz]at hi2;cases hi2);rw[pS hz]at hi2;have hyv:y.i=v.i:=bC hi2;have c015:=c014.trans' c15;refine is8 (bD λw16 b16 c16 z16=>?_);simp only[add_at,aL];refine st6 b16 rfl λw22 b22 c22 z22=>?_;have c1522:Ch (λ_=>False) w15 w22:=c16.trans c22 λj hj q=>by omega
   have c1322:=(c14.trans' c15).trans' c1522;have b1322:=(c1322.blk (aH b13') id).trans b13';refine ld6 b1322 (ld6 b22 ?_);rw[iv6,iv6];refine aHc (hF13.ch0 c1322) (hF2.ch0 c1522) hyv λw23 c23=>⟨_,rfl,?_⟩;rw[hz];refine aC (λ_=>?_) λh=>absurd h (by decide);refine aC (λ_=>?_) λh=>absurd h (by decide);exact hk w23 ((c013.trans' c1322).trans' c23)
  ·refine is8 (bD λw7 b7 c7 z7=>?_);simp only[add_at,aL];refine st6 b7 rfl λw13 b13' c13 z13=>?_;refine aC (λ_=>?_) λh=>absurd h (by decide);have c013:Ch (λ_=>False) w w13:=((c05.trans' c6).trans' c7).trans c13 λj hj q=>by have:=c05.size;have:=c6.size;omega
   exact hk w13 c013
 ·refine aC (λh=>?_) λh=>c03;have hz:(eU x.i).2=0:=by simpa using h
  have hll:=aD2 (aGu hz);refine tI (by omega) (hX.lw.ch0 c03) (λv w5 hi2 hF2 c5=>?_) (λw5 hi2 c5=>by rw[pS hz]at hi2;cases hi2);rw[pS hz]at hi2;have hxv:x.i=v.i:=bC hi2;have c05:=c03.trans' c5;refine is8 (bD λw6 b6 c6 z6=>?_);simp only[add_at,aL];refine st6 b6 rfl λw12 b12' c12 z12=>?_;have c512:Ch (λ_=>False) w5 w12:=c6.trans c12 λj hj q=>by omega
  have c012:=c05.trans' c512;have b112:=((c5.trans' c512).blk (aH b13) id).trans b13;refine ld6 b112 (ld6 b12' ?_);rw[iv6,iv6];refine aHc (hx.ch0 c012) (hF2.ch0 c512) hxv λw13 c13=>⟨_,rfl,?_⟩;refine aC (λ_=>?_) λh=>absurd h (by decide);exact aC (λh=>absurd h (by decide)) λ_=>c012.trans' c13
end Go.Proofs.YtlfhjkgdlclddaaGreatDoor
namespace Go.Note
open Go Go.Proofs.YtlfhjkgdlclddaaGreatDoor
theorem aV8{b:Bs}{a:Nat}(h:a+4<=b.length):bO (sub b a 4)=bL b a*16777216+bL b (a+1)*65536+bL b (a+2)*256+bL b (a+3):=by
 have h0:=gW b a;have h1:=gW b (a+1);have h2:=gW b (a+2);have h3:=gW b (a+3);have e:sub b a 4=UInt8.ofNat (bL b a)::UInt8.ofNat (bL b (a+1))::UInt8.ofNat (bL b (a+2))::UInt8.ofNat (bL b (a+3)) :: []:=by
  rw[show(4:Nat)=1+3 by rfl,kM,mS (by omega),show(3:Nat)=1+2 by rfl,kM,mS (by omega),show(2:Nat)=1+1 by rfl,kM,mS (by omega),mS (by omega)];rfl
 rw[e];have u:∀n,n<256->(UInt8.ofNat n).toNat=n:=λn hn=>by rw[UInt8.toNat_ofNat'];omega
 rw[kE,kE,kE,kE,u _ h0,u _ h1,u _ h2,u _ h3];show bL b a*256^3+(bL b (a+1)*256^2+(bL b (a+2)*256^1+(bL b (a+3)*256^0+0)))=_;omega
theorem qC(b:Bs)(i j:Nat)(v:UInt8):bL (b.set i v) j=if i=j/\i<b.length then v.toNat else bL b j:=by
 unfold bL;rw[List.getElem?_set];by_cases h:i=j
 ·subst h;by_cases h2:i<b.length
  ·simp[h2]
  ·simp[h2]
 ·simp[h]
def PQ(M:Nat)(out:Bs)(a:Nat):Prop:=∀b2:Bs,b2.length=out.length->(∀i,i<a->bL b2 i=bL out i)->(∀f,QF b2 M f a)->∀f,QF b2 M f 0
theorem PQ.zero(M:Nat)(out:Bs):PQ M out 0:=λb2 _ _ h=>h
theorem PQ.step{M:Nat}{out out':Bs}{a z:Nat}(h:PQ M out a)(hl:out'.length=out.length)(ho:∀i,i<a->bL out' i=bL out i)(hto:a<=z)(hs:∀b2:Bs,b2.length=out'.length->(∀i,i<z->bL b2 i=bL out' i)->∀f,QF b2 M f z->QF b2 M (f+1) a):PQ M out' z:=by
 intro b2 h1 h2 h3;refine h b2 (by omega) (λi hi=>by rw[h2 i (by omega),ho i hi]) λf=>?_;cases f with
 | zero=>trivial
 | succ f=>exact hs b2 h1 h2 f (h3 f)
theorem PQ.stop{M:Nat}{out:Bs}{a:Nat}(h:PQ M out a)(hs:∀f,QF out M (f+1) a):∀f,QF out M f 0:=h out rfl (λ_ _=>rfl) λf=>by
 cases f with
 | zero=>trivial
 | succ f=>exact hs f
end Go.Note
namespace Go.Proofs.YtlfhjkgdlclddaaGreatDoor
open Go Go.Sv Go.Note
attribute [local irreducible] aS
theorem aYk{w:World}{k o:Nat}{l:Bs}(hr:Rd w (some ⟨k,o,none⟩) l.length 1 (aV l)){i:Nat}(hi:i<l.length):w.cell? ⟨k,o+i,none⟩=some (.int .u8 (bL l i:Int)):=by
 obtain⟨k',o',hp,hc⟩:=aBv hr hi;cases hp;exact hc
theorem aPt{raw:Bs}{p:Option Addr}{c:Nat}{most:Int}{w:World}(hr:Rd w p raw.length 1 (aV raw))(hl:raw.length<=2^20){K:Value->World->Prop}
 (hk:∀p' c' own w' (out:Bs),out.length=raw.length->Gw w w' p' raw.length c' own none out->(∀M:Nat,most=(M:Int)->∀f,QF out M f 0)->K (.slice p' raw.length c') w') :
 bK Tryz.prog 17 [.slice p raw.length c,.int .i64 most] w K:=by
 apply pJ;refine(Gw.nil w).app hr (by omega) λp1 c1 own1 w1 g1=>?_;rw[aL,aX]at g1 ;rw[aL];refine⟨λm n1 w2=>∃(a:Nat) (out:Bs),n1=(a:Int)/\a<=raw.length+4294967296/\m=raw.length+4294967296-a/\out.length=raw.length/\Gw w w2 p1 raw.length c1 own1 none out/\(∀M:Nat,most=(M:Int)->PQ M out a),
  ⟨raw.length+4294967296,0,raw,rfl,by omega,by omega,rfl,g1,λM _=>PQ.zero M raw⟩,?_⟩
 rintro m n1 w2 ⟨a,out,rfl,ha,rfl,hol,g2,hpq⟩;rw[aW (n:=(a:Int)+8)];refine aC (λh=>?_) (λh=>?_)
 rotate_left
 ·have h:¬a+8<=raw.length:=by have:=aA h;omega
  exact hk p1 c1 own1 w2 out hol g2 λM hM=>(hpq M hM).stop λf=>by
   unfold QF;rw[aF];trivial
 have h:a+8<=raw.length:=by have:=aB h;omega
 have ho:=g2.ow;have hrd:=ho.rd;obtain⟨e1,e2,e3⟩:=ho;rcases e3 with⟨_,e3⟩|⟨k,o,cs,hown,rfl,_⟩
 ·omega
 subst hown;rw[<-hol]at hrd;have cell:∀i,i<out.length->w2.cell? ⟨k,o+i,none⟩=some (.int .u8 (bL out i:Int)):=λi hi=>aYk hrd hi;refine⟨by omega,by omega,?_⟩;simp only[nn,add_at,Nat.mul_one,cO];rw[aW (n:=(a:Int)+1),aW (n:=(a:Int)+2),aW (n:=(a:Int)+3),aW (n:=(a:Int)+5),aW (n:=(a:Int)+6),aW (n:=(a:Int)+7)];rw[show((a:Int)+1).toNat=a+1 by omega,show((a:Int)+2).toNat=a+2 by omega,show((a:Int)+3).toNat=a+3 by omega,show((a:Int)+5).toNat=a+5 by omega,show((a:Int)+6).toNat=a+6 by omega,show((a:Int)+7).toNat=a+7 by omega,aM];refine⟨_,cell a (by omega),?_⟩;rw[dS];refine aC (λh76=>?_) (λh76=>?_)
 ·have h76:bL out a=76:=by have:=aB h76;omega
  unfold cF;refine⟨raw.length+4294967296-(a+8),by omega,a+8,out,by omega,by omega,rfl,hol,g2,λM hM=>(hpq M hM).step rfl (λ_ _=>rfl) (by omega) λb2 hb2 hag f hf=>?_⟩;unfold QF;rw[aD,hag a (by omega),aF h76];exact hf
 have h76:bL out a≠76:=by have:=aA h76;omega
 refine⟨by omega,by omega,by omega,by omega,by omega,by omega,by omega,by omega,?_⟩;refine⟨_,cell a (by omega),by decide,_,cell (a+1) (by omega),by decide,_,cell (a+2) (by omega),by decide,_,cell (a+3) (by omega),?_⟩;have h0:=gW out a;have h1:=gW out (a+1);have h2:=gW out (a+2);have h3:=gW out (a+3);have hb4:=aV8 (b:=out) (a:=a) (by omega);have hcalc:IntKind.wrap .i64 (IntKind.wrap .i64 (IntKind.wrap .i64 (IntKind.wrap .i64 (IntKind.wrap .i64 (bL out a:Int)*2^24)+IntKind.wrap .i64 (IntKind.wrap .i64 (bL out (a+1):Int)*2^16))+IntKind.wrap .i64 (IntKind.wrap .i64 (bL out (a+2):Int)*2^8))+IntKind.wrap .i64 (bL out (a+3):Int))=(bO (Note.sub out a 4):Int):=by
  rw[aW (n:=(bL out a:Int)),aW (n:=(bL out (a+1):Int)),aW (n:=(bL out (a+2):Int)),aW (n:=(bL out (a+3):Int))];rw[aW (n:=(bL out a:Int)*2^24),aW (n:=(bL out (a+1):Int)*2^16),aW (n:=(bL out (a+2):Int)*2^8)];rw[aW (n:=(bL out a:Int)*2^24+(bL out (a+1):Int)*2^16)];rw[aW (n:=(bL out a:Int)*2^24+(bL out (a+1):Int)*2^16+(bL out (a+2):Int)*2^8),aW];omega
 rw[hcalc];have hbl:bO (Note.sub out a 4)<4294967296:=by omega
 generalize hN:bO (Note.sub out a 4)=N at hbl hb4;clear hcalc;unfold cF;have cd:Ch (λ_=>False) w2 w2.drew:=Ch.drew _;have g2d:=g2.quiet cd;have stop:(N<8\/∀M:Nat,most=(M:Int)->M<N)->∀M:Nat,most=(M:Int)->∀f,QF out M f 0:=λhs M hM=>(hpq M hM).stop λf=>by
  unfold QF;rw[aD,aD h76,hN,_root_.if_pos]
  ·trivial
  ·rcases hs with hs|hs
   ·exact .inl hs
   ·exact .inr (hs M hM)
 refine⟨λw3=>w3=w2.drew/\8<=N/\(N:Int)<=most,?_,?_⟩
 rotate_left
 ·refine aC (λq=>?_) (λq=>?_)
  ·have q:¬(N:Int)<8:=by simpa using q
   refine aC (λq2=>?_) (λq2=>?_)
   ·have q2:=aB q2;exact hk _ c1 _ _ out hol g2d (stop (.inr λM hM=>by omega))
   ·have q2:=aA q2;exact⟨rfl,by omega,by omega⟩
  ·have q:(N:Int)<8:=by simpa using q
   exact hk _ c1 _ _ out hol g2d (stop (.inl (by omega)))
 rintro w3 ⟨rfl,hN8,hNm⟩
 -- the next item
 refine⟨λw4=>∃out':Bs,out'.length=raw.length/\Gw w w4 (some ⟨k,o,none⟩) raw.length c1 (some k) none out'/\(∀i,i<a+6->bL out' i=bL out i)/\(bL out' (a+5)=1->bL out' (a+6)=0/\bL out' (a+7)=0),?_,?_⟩
 ·rintro w4 ⟨out',hol',g4,hsame,hz⟩;rw[aW];refine⟨raw.length+4294967296-(a+N),by omega,a+N,out',by omega,by omega,rfl,hol',g4,λM hM=>(hpq M hM).step (by omega) (λi hi=>hsame i (by omega)) (by omega) λb2 hb2 hag f hf=>?_⟩;have hN2:bO (Note.sub b2 a 4)=N:=by
   rw[aV8 (by omega),hag a (by omega),hag (a+1) (by omega),hag (a+2) (by omega),hag (a+3) (by omega),hsame a (by omega),hsame (a+1) (by omega),hsame (a+2) (by omega),hsame (a+3) (by omega)];exact hb4.symm
  unfold QF;rw[aD,hag a (by omega),hsame a (by omega),aD h76,hN2,aD,hag (a+5) (by omega),hag (a+6) (by omega),hag (a+7) (by omega)];exact⟨hz,hf⟩
 ·refine⟨by omega,by omega,?_⟩;refine⟨_,cell (a+5) (by omega),?_⟩;rw[dS];refine aC (λq=>?_) (λq=>?_)
  ·refine⟨by omega,by omega,?_⟩;refine aC2 g2d.ow rfl rfl (i:=a+6) (by omega) λw4 o4 c4=>?_;refine⟨by omega,by omega,?_⟩;refine aC2 o4 rfl rfl (i:=a+7) (by omega) λw5 o5 c5=>?_;have hset:((aV out).set (a+6) (.int .u8 0)).set (a+7) (.int .u8 0)=aV ((out.set (a+6) 0).set (a+7) 0):=by
    unfold aV;rw[List.map_set,List.map_set];rfl
   rw[hset]at o5;refine⟨(out.set (a+6) 0).set (a+7) 0,by simp[hol],g2d.step o5 (λj hj=>.inl hj) ?_,λi hi=>?_,λ_=>⟨?_,?_⟩⟩
   ·exact(c4.mono λ_ _ e=>by rw[e]).trans' (c5.mono λ_ _ e=>by rw[e])
   ·rw[qC,aD,qC,aD]
   ·rw[qC,aD,qC,aF ⟨rfl,by omega⟩];rfl
   ·rw[qC,aF ⟨rfl,by simp;omega⟩];rfl
  ·have q:bL out (a+5)≠1:=by have:=aA q;omega
   exact⟨out,hol,g2d,λ_ _=>rfl,λe=>absurd e q⟩
end Go.Proofs.YtlfhjkgdlclddaaGreatDoor
namespace Go.Note
open Go Go.Proofs.YtlfhjkgdlclddaaGreatDoor
theorem aW1{b:Bs}{t:Nat}{m:M}(h:oC b 0=some (m,t)):m.wt<=t:=by
 unfold oC at h;cases hr:uC b 32 b.length 0 with
 | none=>rw[hr]at h;cases h
 | some p =>
  obtain⟨m',t'⟩:=p;rw[hr]at h;simp only at h;split at h
  ·cases h
  ·cases h;obtain⟨h1,h2,h3⟩:=(lQ b 32 (aQ _)).1 _ _ _ _ (aQ _) hr;have:=h3.wt;omega
theorem aO9(b:Bs):(eF b).length<=2944*b.length+20:=by
 have hq:=gK b;have hr:(pE b).length<=2944*b.length+20:=by
  unfold pE;rw[aG];have:sRaw.length=5:=rfl;omega
 unfold eF;split
 ·simp
 split
 ·exact hr
 ·rename_i m t hd;split
  ·exact hr
  split
  ·exact hr
  split
  ·exact hr
  ·obtain⟨_,hf,_,g1,g2,_⟩:=nR hd;have h1:=aGf m hf;have h2:=aNp m;have h3:=aW1 hd;rw[aG];have e7:sValue.length=7:=rfl;have e6:sRest.length=6:=rfl;have hq2:=gK (b.drop t);rw[aN]at hq2;unfold kL;split
   ·rw[aG,aG];omega
   ·omega
theorem aR9{i:It}(h:(eU i).2=0):(eU i).1.length+1<=2944*(fC i).length:=by
 obtain⟨kind,proto,f⟩:=i;unfold eU at h ⊢;unfold fC;dsimp only at h ⊢;split
 ·rename_i h1;rw[aF h1.1];have h8:(iE proto.toNat).length=8:=rfl;rw[h8];split
  ·exact(by decide)
  split
  ·exact(by decide)
  ·exact(by decide)
 ·rename_i h1;rw[aD h1]at h;split
  ·rename_i h2;rw[aF h2]at h;cases h
  ·rename_i h2;rw[aD h2]at h;split
   ·rename_i h3;rw[aF h3]at h;exact absurd h h3
   ·rename_i h3;have hk:kind=2:=Decidable.byContradiction λq=>h2 (.inl q);rw[aD,aJr];have hs:fN f=0:=by omega
    obtain⟨s1,s2,s3,s4,s5⟩:=yV hs;unfold iV;rw[aG,aG];have e1:=aO9 f.body;have e2:=gK f.ext;have e3:(if f.ty=0 then sMain++Lib.decDigits f.ch.toNat else iR).length<=100:=by
     split
     ·rw[aG];have:=uL 19 f.ch.toNat (by omega);have:sMain.length=5:=rfl;omega
     ·decide
    have e4:(if f.ext=[]then[]else sExt++cA f.ext).length<=4*f.ext.length+7:=by
     split
     ·simp
     ·rw[aG];have:sExt.length=5:=rfl;omega
    show _+_+(eF f.body).length+1<=_;omega
theorem aGr{b:Bs}{most:Nat}(hm:most<=1048576):∀(f a:Nat) (acc:Bs),a<=b.length->QF b most f a->(mN b most f a acc).1.length<=acc.length+2944*(b.length-a)
 | 0,a,acc,ha,_=>by unfold mN;simp
 | f+1,a,acc,ha,hq=>by
  unfold mN;by_cases hl:b.length<=a
  ·rw[aF hl];simp
  ·rw[aD hl];cases hn:pN b a most with
   | error e=>simp
   | ok p =>
    obtain⟨i,z⟩:=p;simp only;obtain⟨h1,h2,h3,h4,h5⟩:=aN4 hm (by omega) hn hq;have h6:=aGr hm f z (acc++((eU i).1++[10])) h2 h5;have h7:=aR9 h3;have h8:=congrArg List.length h4;rw[aBt]at h8;rw[aG,aG]at h6;simp only[aI,bN]at h6;have:(fC i).length<=z-a:=by omega
    have e:2944*(b.length-a)=2944*(z-a)+2944*(b.length-z):=by omega
    omega
end Go.Note
namespace Go.Proofs.YtlfhjkgdlclddaaGreatDoor
open Go Go.Sv Go.Note
attribute [local irreducible] aS
theorem aXc{raw:Bs}{p:Option Addr}{c:Nat}{most:Int}{w:World}(hr:Rd w p raw.length 1 (aV raw))(hl:raw.length<=2^20)(hX:LX w){K:Value->World->Prop}(hk:∀w',Ch (λ_=>False) w w'->K (.bool true) w') :
 bK Tryz.prog 6 [.slice p raw.length c,.int .i64 most] w K:=by
 apply mW;refine aLp hX λw1 c1=>⟨_,rfl,aC (λh=>by cases h) λ_=>?_⟩;refine aPt (hr.ch c1 λ_ _ _=>id) hl λp2 cc own w2 out hol g2 hQ=>⟨_,_,_,rfl,?_⟩;have c02:=c1.trans' g2.ch0;have hrd:=g2.ow.rd;have hcap:=g2.ow.2.1;rw[<-hol]at hrd hcap hl ⊢;refine aGw (b:=out) (most:=most) hrd hcap hl (hX.lw.ch0 c02) λw3 c3=>⟨_,_,rfl,?_⟩;have c03:=c02.trans' c3;have hlr:zN out most=if most<512\/1048576<most then([],1)else mN out most.toNat (out.length+1) 0 []:=rfl;by_cases hm:most<512\/1048576<most
 ·rw[aF hm]at hlr;rw[hlr];refine uG (l:=[]) (by decide) (hX.ch0 c03) λp4 n4 c4 own4 w4 g4=>⟨_,_,_,_,_,rfl,?_⟩;have c04:=c03.trans' g4.ch0;have yes:aS (((1:Nat):Int) == 1) (K (.bool ((ByteArray.mk ([]:Bs).toArray).toList == (ByteArray.mk (Array.mk [])).toList)) w4) (K (.bool false) w4):=by
   refine aC (λ_=>?_) λh=>absurd h (by decide);rw[aJo,aR rfl];exact hk w4 c04
  refine⟨λw5=>False,λ_ h=>h.elim,?_⟩;refine aC (λh=>aC (λ_=>yes) λh2=>?_) λ_=>yes;have h2:=aA h2;have h:¬most<512:=by simpa using h
  omega
 rw[aD hm]at hlr;have hQ2:=hQ most.toNat (by omega) (out.length+1);have hlin:=aGr (most:=most.toNat) (by omega) (out.length+1) 0 [] (bQ _) hQ2;obtain⟨T,a',e,t1,t2,t3,t4,t5⟩:=aVy (most:=most.toNat) (by omega) (out.length+1) 0 [] (bQ _) (by omega) hQ2;rw[t1]at hlin hlr;rw[aX]at hlin hlr;rw[hlr];simp only[bN,Nat.sub_zero,aL]at hlin;refine uG (l:=T) (by omega) (hX.ch0 c03) λp4 n4 c4 own4 w4 g4=>⟨_,_,_,_,_,rfl,?_⟩;have hbt:tV T=(Note.sub out 0 a',0,0):=by
  have:=t5 0 [];rw[aX,Nat.sub_zero]at this;exact this
 rw[hbt]at g4 ⊢;have c04:=c03.trans' g4.ch0;have hst:Note.sub out 0 a'=out.take a':=rfl;rw[hst]at g4;have hn4:=g4.len;rw[aU,Nat.min_eq_left t3]at hn4;subst hn4;refine⟨λw5=>w5=w4,?_,?_⟩
 ·rintro w5 rfl;refine⟨λw6=>Ch (λ_=>False) w w6,?_,?_⟩
  ·intro w6 c6;have he:((((e:Nat):Int) == 0) == (((a':Nat):Int) == ((out.length:Nat):Int)))=true:=by
    rw[dS,dS,beq_iff_eq];exact decide_eq_decide.2 (by omega)
   show K (.bool ((((e:Nat):Int) == 0) == (((a':Nat):Int) == ((out.length:Nat):Int)))) w6;rw[he];exact hk w6 c6
  ·refine aC (λ_=>?_) λh=>absurd (show(!((0:Nat):Int) != 0)=false from h) (by decide);refine aC (λ_=>?_) λh=>absurd (show(!((0:Nat):Int) != 0)=false from h) (by decide);refine aC (λ_=>?_) λh=>?_
   rotate_left
   ·have h:(a':Int)>(out.length:Int):=by simpa using h
    omega
   have cd:Ch (λ_=>False) w5 w5.drew:=Ch.drew _;have r1:Rd w5.drew p4 a' 1 (aV (out.take a')):=g4.ow.rd.ch cd λ_ _ _=>id;have r2:Rd w5.drew p2 a' 1 (aV (out.take a')):=(aRk hrd t3).ch ((c3.trans' g4.ch0).trans' cd) λ_ _ _=>id;refine⟨by omega,by omega,_,cD Tryz.underlying22 iL dN r1,_,cD Tryz.underlying22 iL dN (by rw[aM];exact r2),?_⟩;refine aC (λh=>by rw[aJc]at h;cases h) λ_=>c04.trans' cd
 ·refine aC (λ_=>aC (λh2=>?_) λ_=>rfl) λh=>?_
  ·have h2:=aB h2;omega
  ·have h:most<512:=by simpa using h
   omega
end Go.Proofs.YtlfhjkgdlclddaaGreatDoor
namespace Go.Sv
open Go Go.ChangeShapes Go.WideShapes Go.ChangeAt Go.RowKit
def Inp(P:Program)(w:World)(ok:Nat->Nat->Prop):Nat->TypeId->List Value->Prop
 | 0,_,_=>False
 | n+1,t,cs =>
  match P.underlying t with
  | some .bool=>∃b:Bool,cs=[.bool b]
  | some (.int k)=>∃i:Int,cs=[.int k i]/\(Lit.int k i).wf=true
  | some .string=>∃s:ByteArray,cs=[.string s]/\ok s.size 1
  | some (.slice e)=>∃(p:Option Addr) (L:List (List Value)) (c:Nat),cs=[.slice p L.length c]/\L.length<=c/\ok c (P.bytesOf e)/\Rd w p L.length (P.cellsOf e) L.flatten/\∀x∈L,Inp P w ok n e x
  | some (.struct fs)=>cs.length=P.cellsOf t/\∀f∈fs.toList,Inp P w ok n f.type ((cs.drop f.offset).take (P.cellsOf f.type))
  | _=>True
section
variable {P:Program} {w:World} {ok:Nat->Nat->Prop} {n:Nat} {t:TypeId} {cs:List Value}
theorem Inp.bool(h:Inp P w ok n t cs)(ht:P.underlying t=some .bool):∃b:Bool,cs=[.bool b]:=by
 cases n with
 | zero=>exact h.elim
 | succ n=>unfold Inp at h;rw[ht]at h;exact h
theorem Inp.int{k:IntKind}(h:Inp P w ok n t cs)(ht:P.underlying t=some (.int k)):∃i:Int,cs=[.int k i]/\(Lit.int k i).wf=true:=by
 cases n with
 | zero=>exact h.elim
 | succ n=>unfold Inp at h;rw[ht]at h;exact h
theorem Inp.str(h:Inp P w ok n t cs)(ht:P.underlying t=some .string):∃s:ByteArray,cs=[.string s]/\ok s.size 1:=by
 cases n with
 | zero=>exact h.elim
 | succ n=>unfold Inp at h;rw[ht]at h;exact h
theorem Inp.slice{e:TypeId}(h:Inp P w ok n t cs)(ht:P.underlying t=some (.slice e)) :
 ∃(p:Option Addr) (L:List (List Value)) (c:Nat),cs=[.slice p L.length c]/\L.length<=c/\ok c (P.bytesOf e)/\Rd w p L.length (P.cellsOf e) L.flatten/\∀x∈L,∃n,Inp P w ok n e x:=by
 cases n with
 | zero=>exact h.elim
 | succ n =>
  unfold Inp at h;rw[ht]at h;obtain⟨p,L,c,h1,h2,h3,h4,h5⟩:=h;exact⟨p,L,c,h1,h2,h3,h4,λx hx=>⟨n,h5 x hx⟩⟩
theorem Inp.struct{fs:Array Field}(h:Inp P w ok n t cs)(ht:P.underlying t=some (.struct fs)):cs.length=P.cellsOf t/\∀f∈fs.toList,∃n,Inp P w ok n f.type ((cs.drop f.offset).take (P.cellsOf f.type)):=by
 cases n with
 | zero=>exact h.elim
 | succ n =>
  unfold Inp at h;rw[ht]at h;exact⟨h.1,λf hf=>⟨n,h.2 f hf⟩⟩
end
def xG(P:Program):Nat->List Field->Bool
 | _,[]=>true
 | i,f::r=>f.offset == i && P.cellsOf f.type == 1 && xG P (i+1) r
def aI1(P:Program)(w:World)(ok:Nat->Nat->Prop):List TypeId->List Value->Prop
 | [],[]=>True
 | t::ts,c::cs=>(∃n,Inp P w ok n t [c])/\aI1 P w ok ts cs
 | _,_=>False
theorem Inp.fields{P:Program}{w:World}{ok:Nat->Nat->Prop}{n:Nat}{t:TypeId}{cs:List Value}{fs:Array Field}(h:Inp P w ok n t cs)(ht:P.underlying t=some (.struct fs))(hone:xG P 0 fs.toList=true)
 (hn:P.cellsOf t=fs.toList.length):aI1 P w ok (fs.toList.map (·.type)) cs:=by
 obtain⟨h1,h2⟩:=h.struct ht;have go:∀(l:List Field) (i:Nat),xG P i l=true->cs.length=i+l.length->(∀f∈l,∃n,Inp P w ok n f.type ((cs.drop f.offset).take (P.cellsOf f.type)))->aI1 P w ok (l.map (·.type)) (cs.drop i):=by
  intro l
  induction l with
  | nil=>intro i _ hl _;rw[bW (by simp at hl;omega)];trivial
  | cons f r ih =>
   intro i ho hl hi;simp only[xG,bH,beq_iff_eq]at ho;obtain⟨⟨h3,h4⟩,h5⟩:=ho;simp only[aI]at hl;have h6:=hi f (List.mem_cons_self ..);rw[h3,h4,dB (by omega)]at h6;rw[dB (by omega)];exact⟨h6,ih (i+1) h5 (by omega) λg hg=>hi g (cN _ hg)⟩
 exact go fs.toList 0 hone (by omega) h2
theorem aVs{w:World}{b j:Nat}{v:Value}(h:w.cell? ⟨b,j,none⟩=some v):∃cs,fI w b=some cs/\cs[j]?=some v:=by
 unfold World.cell? at h;unfold fI;simp only at h;split at h
 ·rename_i c t fz hh;exact⟨c.toList,by rw[hh],by simpa using h⟩
 ·cases h
theorem aJx{w:World}{a:Addr}{n sz:Nat}{xs:List Value}(hl:xs.length=n*sz)(hc:∀i,i<n*sz->w.cell? (a.add i)=xs[i]?):Rd w (some a) n sz xs:=by
 refine⟨hl,?_⟩;by_cases h0:n*sz=0
 ·exact .inl h0
 ·have h1:=hc 0 (by omega);rw[aK (by omega)]at h1;have hs:=World.cell?_spot h1;obtain⟨b,o,sp⟩:=a;have hsp:sp=none:=by
   unfold Addr.add at hs;split at hs<;>simp_all
  subst hsp;simp only[add_at]at hc h1;obtain⟨cs,hcs,_⟩:=aVs h1;right;have hat:∀i,i<n*sz->cs[o+i]?=xs[i]?:=λi hi=>by
   rw[<-rQ hcs,hc i hi]
  have hlast:=hat (n*sz-1) (by omega);rw[aK (by omega:n*sz-1<xs.length)]at hlast;have hlt:=(List.getElem?_eq_some_iff.1 hlast).1;refine⟨b,o,cs,rfl,hcs,by omega,?_⟩;apply List.ext_getElem?;intro i;rw[cZ];split
  ·rename_i hi;rw[cU,hat i hi]
  ·rw[eS (by omega)]
section
variable {H:Type} {enc:TypeId × Value->H} {P:Program} {w:World}
theorem aKw{sz:Nat}(L:List (List Value))(h:∀x∈L,x.length=sz)(i j:Nat)(hj:j<sz):L.flatten[i*sz+j]?=L[i]?.bind λx=>x[j]?:=by
 induction L generalizing i with
 | nil=>simp
 | cons x L ih =>
  have hx:x.length=sz:=h x (by simp);rw[List.flatten_cons];cases i with
  | zero=>rw[Nat.zero_mul,aL,cK (by omega)];simp
  | succ i =>
   rw[dV (by rw[hx,Nat.add_mul];omega),hx,show(i+1)*sz+j-sz=i*sz+j by rw[Nat.add_mul];omega,ih (λy hy=>h y (by simp[hy])) i];simp
theorem aKv{sz:Nat}(L:List (List Value))(h:∀x∈L,x.length=sz):L.flatten.length=L.length*sz:=by
 induction L with
 | nil=>simp
 | cons x L ih=>rw[List.flatten_cons,aG,h x (by simp),ih λy hy=>h y (by simp[hy]),aI,Nat.add_mul];omega
structure Measure(P:Program)(H:Type) where
 ok:Nat->Nat->Prop
 good:TypeId->DataW H->Prop
 str:∀ {t:TypeId} {l:List UInt8},good t (.lit (.string l))->ok l.length 1
 nil:∀e,ok 0 (P.bytesOf e)
 slice:∀ {t e:TypeId} {a b:List (DataW H)},P.underlying t=some (.slice e)->good t (.slice a b)->ok (a.length+b.length) (P.bytesOf e)/\∀d∈a,good e d
 agg:∀ {t:TypeId} {fs:Array Field} {l:List (DataW H)},P.underlying t=some (.struct fs)->good t (.agg l)->∀(j:Nat) (f:Field) (d:DataW H),fs[j]?=some f->l[j]?=some d->good f.type d
theorem aKn(M:Measure P H)(base:Nat):∀(fuel:Nat) (t:TypeId) (cs:List Value) (x:DataW H × List MemPlace),DataW.trod enc P w base (λ_=>true) true fuel t cs=some x->M.good t x.1->∃n,Inp P w M.ok n t cs:=by
 have mono:∀(a b:Nat) (t:TypeId) (cs:List Value),a<=b->Inp P w M.ok a t cs->Inp P w M.ok b t cs:=by
  intro a
  induction a with
  | zero=>intro b t cs _ h;exact h.elim
  | succ a ih =>
   intro b t cs hab h;obtain⟨b,rfl⟩:∃c,b=c+1:=⟨b-1,by omega⟩;unfold Inp at h ⊢;split at h
   ·exact h
   ·exact h
   ·exact h
   ·obtain⟨p,L,c,h1,h2,h3,h4,h5⟩:=h;exact⟨p,L,c,h1,h2,h3,h4,λx hx=>ih b _ _ (by omega) (h5 x hx)⟩
   ·exact⟨h.1,λf hf=>ih b _ _ (by omega) (h.2 f hf)⟩
   ·trivial
 intro fuel
 induction fuel with
 | zero=>intro t cs x h;simp[DataW.trod]at h
 | succ fuel ih =>
  intro t cs x h hg;cases ht:P.underlying t with
  | none=>exact⟨1,by unfold Inp;rw[ht];trivial⟩
  | some td =>
   cases td with
   | bool =>
    obtain⟨b,rfl,_⟩:=DataW.trod_bool ht h;exact⟨1,by unfold Inp;rw[ht];exact⟨b,rfl⟩⟩
   | int k =>
    obtain⟨i,rfl,_,hw⟩:=DataW.trod_int ht h;exact⟨1,by unfold Inp;rw[ht];exact⟨i,rfl,hw⟩⟩
   | string =>
    obtain⟨s,rfl,rfl,_⟩:=DataW.trod_string ht h;exact⟨1,by unfold Inp;rw[ht];exact⟨s,rfl,by simpa using M.str hg⟩⟩
   | slice e =>
    rcases DataW.trod_slice ht h with⟨rfl,_⟩|⟨a,len,cap,elems,rest,m,hm,rfl,rfl,hb,hl,hmx,hlen,hel,hsp,hns⟩
    ·exact⟨1,by unfold Inp;rw[ht];exact⟨none,[],0,rfl,aQ _,M.nil e,⟨by simp,.inl (by simp)⟩,by simp⟩⟩
    ·obtain⟨hk,hge⟩:=M.slice ht hg;obtain rfl:fuel=m:=by omega
     have hrest:=(hsp rfl).1;have hcap:elems.length+rest.length=cap:=by omega
     have each:∀i,i<len->∃cs',w.cells? base (a.add (i*P.cellsOf e)) (P.cellsOf e)=some cs'/\∃n,Inp P w M.ok n e cs':=λi hi=>by
      have h1:=hel i hi;have h2:elems[i]?=some (elems[i]'(by omega)):=aK (by omega);rw[h2]at h1;cases hc:w.cells? base (a.add (i*P.cellsOf e)) (P.cellsOf e)with
      | none=>rw[hc]at h1;cases h1
      | some cs' =>
       rw[hc]at h1;exact⟨cs',rfl,ih e cs' _ h1 (hge _ (List.mem_map.2 ⟨_,bJ h2,rfl⟩))⟩
     obtain⟨F,hF⟩:=Deep.choose_lt each;obtain⟨N,hN⟩:=Deep.fuel_lt (n:=len) (q:=λi n=>Inp P w M.ok n e (F i)) (λi a b hab h=>mono a b _ _ hab h) (λi hi=>(hF i hi).2);have hFl:∀x∈(List.range len).map F,x.length=P.cellsOf e:=λx hx=>by
      obtain⟨i,hi,rfl⟩:=List.mem_map.1 hx;exact(World.cells?_some (hF i (List.mem_range.1 hi)).1).2.1
     have hlen':((List.range len).map F).length=len:=by simp
     refine⟨N+1,?_⟩;unfold Inp;rw[ht];refine⟨some a,(List.range len).map F,cap,by rw[hlen'],by rw[hlen'];exact hl,by simpa[hcap]using hk,?_,λx hx=>?_⟩
     ·rw[hlen'];have hll:((List.range len).map F).flatten.length=len*P.cellsOf e:=by
       rw[aKv _ hFl,hlen']
      refine aJx hll λi hi=>?_;have hsz:0<P.cellsOf e:=Nat.pos_of_ne_zero λh0=>by rw[h0]at hi;simp at hi
      have hdm:=Nat.div_add_mod i (P.cellsOf e);have hil:i / P.cellsOf e<len:=by rw[Nat.div_lt_iff_lt_mul hsz];exact hi
      have hj:=Nat.mod_lt i hsz;have h3:=(World.cells?_some (hF _ hil).1).2.2 (i%P.cellsOf e) hj;rw[Deep.add_add,Nat.mul_comm,hdm]at h3;rw[h3];have h4:=aKw _ hFl (i / P.cellsOf e) (i%P.cellsOf e) hj;rw[Nat.mul_comm,hdm]at h4;rw[h4,dH,List.getElem?_range hil];simp
     ·obtain⟨i,hi,rfl⟩:=List.mem_map.1 hx;exact hN i (List.mem_range.1 hi)
   | struct fs =>
    obtain⟨xs,m,hm,rfl,hcl,hxl,hf⟩:=DataW.trod_struct ht h;obtain rfl:fuel=m:=by omega
    have each:∀i,i<fs.size->∃n,∀f,fs[i]?=some f->Inp P w M.ok n f.type ((cs.drop f.offset).take (P.cellsOf f.type)):=λi hi=>by
     have hfi:fs[i]?=some fs[i]:=Array.getElem?_eq_getElem hi;have h1:=hf i _ hfi;have h2:xs[i]?=some (xs[i]'(by omega)):=aK (by omega);rw[h2]at h1;obtain⟨n,hn⟩:=ih _ _ _ h1 (M.agg ht hg i _ _ hfi (by rw[dH,h2];rfl));exact⟨n,λf hf'=>by rw[hfi]at hf';cases hf';exact hn⟩
    obtain⟨N,hN⟩:=Deep.fuel_lt (n:=fs.size) (q:=λi n=>∀f,fs[i]?=some f->Inp P w M.ok n f.type ((cs.drop f.offset).take (P.cellsOf f.type))) (λi a b hab h f hf=>mono a b _ _ hab (h f hf)) each;refine⟨N+1,?_⟩;unfold Inp;rw[ht];refine⟨hcl,λf hf'=>?_⟩;obtain⟨i,hi,rfl⟩:=List.mem_iff_getElem.1 hf';exact hN i (by simpa using hi) _ (by simp)
   | _=>exact⟨1,by unfold Inp;rw[ht];trivial⟩
end
def aUe(P:Program)(w:World)(ok:Nat->Nat->Prop)(t:TypeId)(v:Value):Prop :=
 (∃n,Inp P w ok n t v.cells.toList)/\(match P.underlying t with|some (.struct _)|some (.array _ _)=>∃cs,v=.agg cs|_=>nK v=true)
def aE5(P:Program)(w:World)(ok:Nat->Nat->Prop):List TypeId->List Value->Prop
 | [],[]=>True
 | t::ts,v::vs=>aUe P w ok t v/\aE5 P w ok ts vs
 | _,_=>False
section
variable {H:Type} {enc:TypeId × Value->H} {P:Program} {w:World}
theorem aGz(M:Measure P H):∀ {ts:List TypeId} {vs:List Value} {ds:List (DataW H)} {ps:List MemPlace},DataW.TrodAll enc P w 0 (λ_=>true) true ts vs ds ps ->
 (∀(j:Nat) t v,ts[j]?=some t->vs[j]?=some v->∃b,Value.okWide P w .any b t v)->(∀(j:Nat) t d,ts[j]?=some t->ds[j]?=some d->M.good t d)->aE5 P w M.ok ts vs
 | [],[],_,_,_,_,_=>trivial
 | t::ts,v::vs,d::ds,ps,h,hv,hg=>by
  obtain⟨p,q,⟨fuel,hf⟩,h2,_⟩:=h;refine⟨⟨aKn M 0 fuel t _ _ hf (hg 0 t d rfl rfl),?_⟩,aGz M h2 (λj t v ht hv'=>hv (j+1) t v ht hv') λj t d ht hd=>hg (j+1) t d ht hd⟩;obtain⟨b,h3⟩:=hv 0 t v rfl rfl;unfold Value.okWide at h3;cases ht:P.underlying t with
  | none=>simp only[ht]at h3 ⊢;unfold Cell.okWide Cell.ok at h3;rw[ht]at h3;cases v<;>first|rfl|exact h3.elim
  | some td =>
   cases td<;>simp only[ht]at h3 ⊢
   all_goals first
    | (obtain⟨cs,h3,_⟩:=h3;exact⟨cs,h3⟩)
    | (unfold Cell.okWide Cell.ok at h3;rw[ht]at h3;cases v<;>first|rfl|exact h3.elim)
 | [],_::_,_,_,h,_,_=>h.elim
 | _::_,[],_,_,h,_,_=>h.elim
 | _::_,_::_,[],_,h,_,_=>h.elim
theorem vK{W W':World}(hl:laidOutB P=true)(hb:RowKit.Below W.heap.size W W'):∀ {ts:List TypeId} {vs:List Value} {ds:List (DataW H)} {ps:List MemPlace},
 (∀t∈ts,P.readableRec t=true/\t<P.types.size)->DataW.TrodAll enc P W 0 (λ_=>true) true ts vs ds ps->DataW.TrodAll enc P W' 0 (λb=>decide (b<W.heap.size)) true ts vs ds ps
 | [],[],[],_,_,h=>h
 | t::ts,v::vs,d::ds,ps,hr,h=>by
  obtain⟨p,q,h1,h2,e⟩:=h;have hlt:∀x∈p,x.block<W.heap.size:=by obtain⟨m,hm⟩:=h1;exact DataW.trod_lt m _ _ _ hm
  exact⟨p,q,Below.trod hl (hr t (List.mem_cons_self ..)).1 (hr t (List.mem_cons_self ..)).2 h1 hb hlt,vK hl hb (λt ht=>hr t (cN _ ht)) h2,e⟩
 | [],_::_,_,_,_,h=>h.elim
 | _::_,[],_,_,_,h=>h.elim
 | [],[],_::_,_,_,h=>h.elim
 | _::_,_::_,[],_,_,h=>h.elim
theorem sK{spare:Nat->Bool}{base:Nat}{held:Bool}:∀ {ts:List TypeId} {vs:List Value} {ds:List (DataW H)} {ps:List MemPlace},DataW.TrodAll enc P w base spare held ts vs ds ps->ds.length=ts.length
 | [],[],[],_,_=>rfl
 | t::ts,v::vs,d::ds,ps,⟨p,q,_,h,_⟩=>by simp[sK h]
 | [],_::_,_,_,h=>h.elim
 | _::_,[],_,_,h=>h.elim
 | [],[],_::_,_,h=>h.elim
 | _::_,_::_,[],_,h=>h.elim
theorem aIh{C:Checked}{f:FuncId}{fn:Func}{s:ChangeSpec}{tb:TypeId}(M:Measure C.prog H)
 (hl:laidOutB C.prog=true) (hvars:s.vars=[]) (hfun:∀ds:List (DataW H),ds.length=fn.params.toList.length->s.fn H ds={ results:=[.lit (.bool true)],args:=ds })
 (hres:fn.resultTypes=#[tb]) (htb:C.prog.underlying tb=some .bool) (hrec:fn.params.toList.all (λt=>C.prog.readableRec t && decide (t<C.prog.types.size))=true)
 {W:World} {base:Nat} {args:Array Value} {ds gs:List (DataW H)} {before:List MemPlace}
 (hval:∀(j:Nat) t v,fn.params[j]?=some t->args[j]?=some v->Value.okWide C.prog W .any base t v)
 (hW:DataW.Whole enc C.prog fn.params.toList s.vars false W args.toList ds gs before) (hgood:∀(j:Nat) (t:TypeId) (d:DataW H),fn.params.toList[j]?=some t->ds[j]?=some d->M.good t d)
 (walk:aE5 C.prog W M.ok fn.params.toList args.toList->bK C.prog f args.toList W λv w'=>v=.bool true/\Ch (λ_=>False) W w') :
 Calls C.prog f args W λe W'=>∃v,e=.returned v/\s.post enc C.prog fn false true false false W args v W':=by
 have hW':=hW;obtain⟨p,q,hA,hV,hbef,hfz,hnd⟩:=hW;rw[hvars]at hV;obtain⟨rfl,rfl⟩:=trodVars_none hV;have hlen:=sK hA;have hrec':∀t∈fn.params.toList,C.prog.readableRec t=true/\t<C.prog.types.size:=λt ht=>by
  have:=List.all_eq_true.1 hrec t ht;simpa using this
 have hin:=aGz M hA (λj t v ht hv=>⟨base,hval j t v (by simpa using ht) (by simpa using hv)⟩) hgood;have hc:=walk hin;have hc2:Calls C.prog f args W λe w'=>∃v,e=.returned v/\(v=.bool true/\Ch (λ_=>False) W w'):=by
  unfold bK at hc;have e:args.toList.toArray=args:=by simp
  rw[e]at hc;exact hc
 refine Calls.mono hc2 λe W' ⟨v,he,hv,hch⟩=>?_;subst hv;have bel:RowKit.Below W.heap.size W W':=hch.below (aQ _) λ_ h=>h.elim;refine⟨_,he,ds,[],before,[],p,[],hW',?_,?_,?_,bel.frame _,λh=>by cases h⟩
 ·rw[List.append_nil,hfun ds hlen,hres];exact trodAll_mk1 (shut_bool htb _)
 ·rw[List.append_nil,hfun ds hlen];exact vK hl bel hrec' hA
 ·rw[List.append_nil,hfun ds hlen,hvars];rfl
end
section
variable {H:Type} {enc:TypeId × Value->H}
end
def aG3:Nat->DataW Unit->List Value
 | 0,_=>[]
 | n+1,d=>match d with
  | .agg l=>l.flatMap (aG3 n)
  | .lit l=>[l.value]
  | _=>[]
noncomputable def aXp(P:Program)(os:Os)(gs:List (Nat × List Value)):World :=
 { World.holding P os ⟨#[],#[],[]⟩with heap:=gs.foldl (λh g=>h.modify g.1 fun|.cells _ t frozen=>.cells g.2.toArray t frozen|o=>o) (World.holding P os ⟨#[],#[],[]⟩).heap }
end Go.Sv
namespace Go.Proofs.YtlfhjkgdlclddaaGreatDoor
open Go Go.Sv
theorem aAd{H:Type}{d:DataW H}{l:List (DataW H)}(h:d∈l):Rows.uptoBulk d<=Rows.uptoBulkAll l:=by
 induction l with
 | nil=>cases h
 | cons x r ih =>
  simp only[Rows.uptoBulkAll];rcases List.mem_cons.1 h with rfl|e
  ·omega
  ·have:=ih e;omega
theorem aTu{H:Type}(d:DataW H):1<=Rows.uptoBulk d:=by
 cases d with
 | lit l=>cases l<;>simp[Rows.uptoBulk]
 | _=>simp[Rows.uptoBulk]
theorem aLg{H:Type}(l:List (DataW H)):l.length<=Rows.uptoBulkAll l:=by
 induction l with
 | nil=>simp[Rows.uptoBulkAll]
 | cons x r ih=>have:=aTu x;simp only[Rows.uptoBulkAll,aI];omega
def upM:Nat:=1048576
def aW5(P:Program)(H:Type):Measure P H where
 ok n _:=n<=upM
 good _ d:=Rows.uptoBulk d<=upM
 str h:=by simp only[Rows.uptoBulk]at h;omega
 nil _:=bQ _
 slice {_ _ a b} _ h:=by
  simp only[Rows.uptoBulk]at h;have h1:=aLg a;have h2:=aLg b;exact⟨by omega,λd hd=>by have:=aAd hd;omega⟩
 agg {_ _ l} _ h j f d _ hd:=by
  simp only[Rows.uptoBulk]at h;have:=aAd (bJ hd);omega
theorem aXe{P:Program}{H:Type}(ds:List (DataW H))(h:Rows.uptoSmall H ds=true):∀d∈ds,∀t,(aW5 P H).good t d:=λd hd t=>by
 have h1:Rows.uptoBulkAll ds<=1048576:=by simpa[Rows.uptoSmall]using h
 have:=aAd hd;show Rows.uptoBulk d<=upM;unfold upM;omega
abbrev okU:Nat->Nat->Prop:=λn _=>n<=upM
open Go.ChangeShapes Go.Note
set_option maxRecDepth 100000
theorem own:ownKnob Tryz.prog.godebug=none:=by kernel_rfl
theorem aX6:laidOutB Tryz.prog=true:=by kernel_rfl
def ren:Shelf.Ren:=⟨λx=>x,λx=>if x=5 then 5 else if x=119 then 254 else if x=138 then 256 else if x=139 then 257 else x,λx=>if x=3 then 4 else if x=4 then 5 else x⟩
theorem u8T:U8Types Tryz.prog ren:=⟨by kernel_rfl,by kernel_rfl,by kernel_rfl,by kernel_rfl⟩
theorem u8X:U8Extra Tryz.prog ren:=⟨by kernel_rfl,by kernel_rfl,by kernel_rfl,by kernel_rfl,by kernel_rfl,by kernel_rfl,by kernel_rfl⟩
abbrev xO:List (String × DataW Unit):=[("math/bits.deBruijn32tab",Rows.laid_math_bits_deBruijn32tab),("math/bits.deBruijn64tab",Rows.laid_math_bits_deBruijn64tab),("internal/strconv.uint64pow10",Rows.laid_internal_strconv_uint64pow10),("unicode/utf8.acceptRanges",Rows.laid_unicode_utf8_acceptRanges),("strconv.ErrRange",Rows.laid_strconv_ErrRange),("strconv.ErrSyntax",Rows.laid_strconv_ErrSyntax),("unicode/utf8.first",Rows.laid_unicode_utf8_first)]
theorem aYi:Tryz.prog.globalNamed "strconv.ErrSyntax" = some 1:=by kernel_rfl
theorem aYj:Tryz.prog.globalNamed "strconv.ErrRange" = some 2:=by kernel_rfl
theorem gTab:Tryz.prog.globalNamed "math/bits.deBruijn64tab" = some 7:=by kernel_rfl
theorem gPow:Tryz.prog.globalNamed "internal/strconv.uint64pow10" = some 0:=by kernel_rfl
theorem aXg:(Tryz.prog.globals[1]?).map (·.type)=some 61:=by kernel_rfl
theorem aXh:(Tryz.prog.globals[2]?).map (·.type)=some 61:=by kernel_rfl
theorem tyPow:(Tryz.prog.globals[0]?).map (·.type)=some 205:=by kernel_rfl
theorem aS9{W:World}{n:String}{g:Nat}{nm:String}{d:DataW Unit}(hg:Tryz.prog.globalNamed n=some g)(hty:(Tryz.prog.globals[g]?).map (·.type)=some 61)(h:Lib.VarReads Tryz.prog W n (.iface nm d)):∃te pe,W.cell? ⟨g,0,none⟩=some (.iface te pe):=by
 obtain⟨g',t,cs,fuel,p,hg',hty',hvar,hd⟩:=h;obtain rfl:=bC (hg.symm.trans hg');obtain rfl:=bC (hty.symm.trans hty');obtain⟨f1,u,v,hcs,hn,h1⟩:=iface_of_trod Tryz.underlying61 hd;refine⟨u,v,?_⟩;rw[World.var?_cell hg hvar 0,<-Array.getElem?_toList,hcs];rfl
theorem aMt{W:World}(h:laidMetH Tryz.prog xO W):LW W:=by
 have hd:laidMet Tryz.prog xO W:=(laidMetH_iff.1 h).1;have r1:Lib.VarReads Tryz.prog W "unicode/utf8.first" Rows.laid_unicode_utf8_first:=Lib.laidMet.reads hd (by simp[xO]);have r2:Lib.VarReads Tryz.prog W "unicode/utf8.acceptRanges" Rows.laid_unicode_utf8_acceptRanges:=Lib.laidMet.reads hd (by simp[xO]);have r3:Lib.VarReads Tryz.prog W "strconv.ErrSyntax" Rows.laid_strconv_ErrSyntax:=Lib.laidMet.reads hd (by simp[xO]);have r4:Lib.VarReads Tryz.prog W "strconv.ErrRange" Rows.laid_strconv_ErrRange:=Lib.laidMet.reads hd (by simp[xO]);have r5:Lib.VarReads Tryz.prog W "internal/strconv.uint64pow10" Rows.laid_internal_strconv_uint64pow10:=Lib.laidMet.reads hd (by simp[xO]);have r6:Lib.VarReads Tryz.prog W "math/bits.deBruijn64tab" Rows.laid_math_bits_deBruijn64tab:=Lib.laidMet.reads hd (by simp[xO]);refine⟨?_,aS9 aYi aXg r3,aS9 aYj aXh r4,?_,?_⟩
 ·refine utf8Tabs_of_readsT u8T u8X ?_ ?_
  ·rw[<-Pinned.utf8First_eq];exact r1
  ·exact(show Rows.laid_unicode_utf8_acceptRanges=Lib.acceptData by kernel_rfl)▸r2
 ·obtain⟨g,t,cs,fuel,p,hg,hty,hvar,hd⟩:=r5;obtain rfl:=bC (gPow.symm.trans hg);obtain rfl:=bC (tyPow.symm.trans hty);have e:(Rows.laid_internal_strconv_uint64pow10:DataW Unit)=Lib.tabData .u64 Lib.pow10Tab:=by kernel_rfl
  rw[e]at hd;unfold Lib.TabIs;rw[hvar,<-Lib.cells_of_tab Tryz.underlying205 Tryz.underlying80 (by kernel_rfl) (by kernel_rfl) hd]
 ·obtain⟨g,t,cs,fuel,p,hg,hty,hvar,hd⟩:=r6;obtain rfl:=bC (gTab.symm.trans hg);unfold World.var? at hvar;rw[gTab]at hvar;by_cases hz:8<=W.heap.size
  ·exact hz
  ·rw[Option.bind_some,Array.getElem?_eq_none (by omega)]at hvar;cases hvar
theorem aYm{W:World}(h:laidMetH Tryz.prog xO W)(hs:W.ShapedOpen Tryz.prog):LX W :=
 ⟨aMt h,Go.Proofs.cell_of_shapedOpen_int (zero:=#[.int .i64 0]) (t:=3) hs (aB (by kernel_rfl)) (by kernel_rfl) rfl (by kernel_rfl) (by kernel_rfl) Tryz.underlying3⟩
noncomputable def nW(os:Os):World :=
 let w0:=aXp Tryz.prog os [(4,aG3 2 Rows.laid_unicode_utf8_first),(5,aG3 3 Rows.laid_unicode_utf8_acceptRanges),(0,aG3 2 Rows.laid_internal_strconv_uint64pow10),(6,aG3 2 Rows.laid_math_bits_deBruijn32tab),(7,aG3 2 Rows.laid_math_bits_deBruijn64tab)]
 let w2:=(w0.alloc (.cells #[.string ⟨#[105,110,118,97,108,105,100,32,115,121,110,116,97,120]⟩] 261)).alloc (.cells #[.string ⟨#[118,97,108,117,101,32,111,117,116,32,111,102,32,114,97,110,103,101]⟩] 261)
 { w2 with heap:=(w2.heap.modify 1 fun|.cells _ t fz=>.cells #[.iface 259 (.pointer (some ⟨w0.heap.size,0,none⟩))] t fz|o=>o).modify 2 fun|.cells _ t fz=>.cells #[.iface 259 (.pointer (some ⟨w0.heap.size+1,0,none⟩))] t fz|o=>o }
theorem aX5{w:World}{v:Value}(h:aUe Tryz.prog w okU 9 v):∃s:ByteArray,v=.string s/\s.size<=1048576:=by
 obtain⟨⟨n,h⟩,h2⟩:=h;obtain⟨s,e,hw⟩:=h.str Tryz.underlying9;rw[Tryz.underlying9]at h2;simp only[okU]at hw;have:upM=1048576:=rfl;refine⟨s,?_,by omega⟩;cases v<;>simp_all[Value.cells,nK]
theorem aX7{w:World}{v:Value}(h:aUe Tryz.prog w okU 3 v):∃n:Int,v=.int .i64 n/\-9223372036854775808<=n/\n<=9223372036854775807:=by
 obtain⟨⟨n,h⟩,h2⟩:=h;obtain⟨i,e,hw⟩:=h.int Tryz.underlying3;rw[Tryz.underlying3]at h2;have hb:-9223372036854775808<=i/\i<=9223372036854775807:=by simpa[Lit.wf,IntKind.min,IntKind.max,IntKind.signed,IntKind.bits]using hw
 refine⟨i,?_,hb.1,hb.2⟩;cases v<;>simp_all[Value.cells,nK]
theorem zO{w:World}{n:Nat}{cs:List Value}(h:Inp Tryz.prog w okU n 22 cs):∃(p:Option Addr) (b:Bs) (c:Nat),cs=[.slice p b.length c]/\Rd w p b.length 1 (aV b)/\b.length<=c/\c<=2^20:=by
 obtain⟨p,L,c,rfl,hc,hb,hr,hi⟩:=h.slice Tryz.underlying22;have key:∀L:List (List Value),(∀x∈L,∃n,Inp Tryz.prog w okU n 5 x)->∃b:Bs,b.length=L.length/\L.flatten=aV b:=by
  intro L
  induction L with
  | nil=>exact λ_=>⟨[],rfl,rfl⟩
  | cons x L ih =>
   intro h;obtain⟨b,h1,h2⟩:=ih λy hy=>h y (cN _ hy);obtain⟨m,hm⟩:=h x (List.mem_cons_self ..);obtain⟨i,rfl,hwf⟩:=hm.int Tryz.underlying5;have hw:0<=i/\i<=255:=by
    simp[Lit.wf,IntKind.min,IntKind.max,IntKind.signed,IntKind.bits]at hwf;omega
   refine⟨UInt8.ofNat i.toNat::b,by simp[h1],?_⟩;have:((UInt8.ofNat i.toNat).toNat:Int)=i:=by simp[UInt8.toNat_ofNat];omega
   rw[List.flatten_cons,h2];unfold aV;rw[List.map_cons,this];rfl
 obtain⟨b,h1,h2⟩:=key L hi;have h3:Tryz.prog.cellsOf 5=1:=by kernel_rfl
 rw[h3,h2,<-h1]at hr;simp only[okU]at hb;have:upM=1048576:=rfl;exact⟨p,b,c,by rw[h1],hr,by omega,by omega⟩
theorem aXd{w:World}{v:Value}(h:aUe Tryz.prog w okU 22 v):∃(p:Option Addr) (b:Bs) (c:Nat),v=.slice p b.length c/\Rd w p b.length 1 (aV b)/\b.length<=c/\c<=2^20:=by
 obtain⟨⟨n,h⟩,h2⟩:=h;obtain⟨p,b,c,e,hr,hc,hm⟩:=zO h;rw[Tryz.underlying22]at h2;refine⟨p,b,c,?_,hr,hc,hm⟩;cases v<;>simp_all[Value.cells,nK]
theorem aSz{w:World}{n:Nat}{cs:List Value}(h:Inp Tryz.prog w okU n 24 cs):∃x:FV,cs=x.g/\FR w x/\x.ext.length<=2^20/\x.body.length<=2^20:=by
 obtain⟨hl,hf⟩:=h.struct Tryz.underlying24;have h4:Tryz.prog.cellsOf 24=4:=by kernel_rfl
 have hi1:Tryz.prog.cellsOf 3=1:=by kernel_rfl
 have hs1:Tryz.prog.cellsOf 22=1:=by kernel_rfl
 rw[h4]at hl;simp only[List.forall_mem_cons]at hf
 match cs,hl with
 | [c0,c1,c2,c3],_ =>
  obtain⟨⟨_,h0⟩,⟨_,h1⟩,⟨_,h2⟩,⟨_,h3⟩,_⟩:=hf;obtain⟨i0,e0,_⟩:=h0.int Tryz.underlying3;obtain⟨i1,e1,_⟩:=h1.int Tryz.underlying3;obtain⟨p2,b2,k2,e2,r2,c2,m2⟩:=zO h2;obtain⟨p3,b3,k3,e3,r3,c3,m3⟩:=zO h3;simp only[hi1,hs1,List.drop_succ_cons,bS,List.take_succ_cons,List.take_zero,List.cons.injEq,and_true]at e0 e1 e2 e3;subst e0 e1 e2 e3;exact⟨⟨i0,i1,p2,k2,b2,p3,k3,b3⟩,rfl,⟨r2,r3,by show b2.length<=_;omega,by show b3.length<=_;omega,c2,c3⟩,by show b2.length<=_;omega,by show b3.length<=_;omega⟩
theorem aXr{w:World}{v:Value}(h:aUe Tryz.prog w okU 26 v):∃x:IV,v=x.v/\FR w x.fv/\x.fv.ext.length<=2^20/\x.fv.body.length<=2^20:=by
 obtain⟨⟨n,h⟩,ha⟩:=h;rw[Tryz.underlying26]at ha;obtain⟨cs,rfl⟩:=ha;obtain⟨hl,hf⟩:=h.struct Tryz.underlying26;have h6:Tryz.prog.cellsOf 26=6:=by kernel_rfl
 have hi1:Tryz.prog.cellsOf 3=1:=by kernel_rfl
 have h4:Tryz.prog.cellsOf 24=4:=by kernel_rfl
 rw[h6]at hl;simp only[List.forall_mem_cons]at hf;have hcs:(Value.agg cs).cells=cs:=rfl;rw[hcs]at hl hf;obtain⟨cl⟩:=cs
 match cl,hl with
 | [c0,c1,c2,c3,c4,c5],_ =>
  obtain⟨⟨_,h0⟩,⟨_,h1⟩,⟨_,h2⟩,_⟩:=hf;obtain⟨i0,e0,_⟩:=h0.int Tryz.underlying3;obtain⟨i1,e1,_⟩:=h1.int Tryz.underlying3;obtain⟨x,e2,hx⟩:=aSz h2;simp only[hi1,h4,List.drop_succ_cons,bS,List.take_succ_cons,List.take_zero,List.cons.injEq,and_true]at e0 e1 e2;subst e0 e1;unfold FV.g at e2;simp only[List.cons.injEq,and_true]at e2;obtain⟨rfl,rfl,rfl,rfl⟩:=e2;exact⟨⟨i0,i1,x⟩,rfl,hx⟩
end Go.Proofs.YtlfhjkgdlclddaaGreatDoor
namespace Go.Sv
open Go Go.ChangeShapes Go.WideShapes Go.ChangeAt Go.RowKit
section
variable {H:Type} {enc:TypeId × Value->H}
theorem aFt{C:Checked}{f:FuncId}{fn:Func}{s:ChangeSpec}{tb:TypeId}(M:Measure C.prog H)
 (hl:laidOutB C.prog=true) (hvars:s.vars=[]) (hfun:∀ds:List (DataW H),ds.length=fn.params.toList.length->s.fn H ds={ results:=[.lit (.bool true)],args:=ds })
 (hres:fn.resultTypes=#[tb]) (htb:C.prog.underlying tb=some .bool) (hrec:fn.params.toList.all (λt=>C.prog.readableRec t && decide (t<C.prog.types.size))=true)
 {W:World} {base:Nat} {args:Array Value} {ds gs:List (DataW H)} {before:List MemPlace}
 (hval:∀(j:Nat) t v,fn.params[j]?=some t->args[j]?=some v->Value.okWide C.prog W .any base t v)
 (hW:DataW.Whole enc C.prog fn.params.toList s.vars false W args.toList ds gs before) (hgood:∀d∈ds,∀t,M.good t d)
 (walk:∀ps,DataW.TrodAll enc C.prog W 0 (λ_=>true) true fn.params.toList args.toList ds ps->aE5 C.prog W M.ok fn.params.toList args.toList->bK C.prog f args.toList W λv w'=>v=.bool true/\Ch (λ_=>False) W w') :
 Calls C.prog f args W λe W'=>∃v,e=.returned v/\s.post enc C.prog fn false true false false W args v W':=by
 have hA':=hW;obtain⟨p,q,hA,hV,hbef,hfz,hnd⟩:=hA';exact aIh M hl hvars hfun hres htb hrec hval hW (λj t d ht hd=>hgood d (bJ hd) t) (walk p hA)
end
section
variable {H:Type} {enc:TypeId × Value->H}
theorem aWq{C:Checked}{os:Os}(started:os.Started){f:FuncId}{fn:Func}{s:ChangeSpec}{o:OpenSpec}{k:(H:Type)->List (DataW H)->Bool}(M:Measure C.prog H){dom:List PathCond}{laid:List (String × DataW Unit)}{tb:TypeId}{F:Stop.Interp}
 (ho:o={ OpenSpec.ofChange s with cond:=some k }) (hM:∀ds:List (DataW H),k H ds=true->∀d∈ds,∀t,M.good t d)
 (own:ownKnob C.prog.godebug=none) (hl:laidOutB C.prog=true) (noInit:C.prog.inits.idxOf? f=none) (hfn:C.prog.funcs[f]?=some fn)
 (witness:∃(w:World) (tape:Tape) (i:Input),w.os=os/\(w.forCall tape i).Shaped C.prog/\i.vars=[]/\Input.okWide C.prog (w.forCall tape i) .any w.heap.size f i /\
   o.preRow enc C.prog fn dom false laid (w.forCall tape i).memory i.args/\({}:Assume).holds C.prog (lone (Frame.enter C.prog f i.args .normal) [] (w.forCall tape i)))
 (hvars:s.vars=[]) (hfun:∀ds:List (DataW H),ds.length=fn.params.toList.length->s.fn H ds={ results:=[.lit (.bool true)],args:=ds })
 (hres:fn.resultTypes=#[tb]) (htb:C.prog.underlying tb=some .bool) (hrec:fn.params.toList.all (λt=>C.prog.readableRec t && decide (t<C.prog.types.size))=true)
 (walk:∀(W:World) (args:Array Value) (ds:List (DataW H)) ps,laidMetH C.prog laid W->W.ShapedOpen C.prog->(∀d∈ds,∀t,M.good t d)->DataW.TrodAll enc C.prog W 0 (λ_=>true) true fn.params.toList args.toList ds ps->aE5 C.prog W M.ok fn.params.toList args.toList ->
   bK C.prog f args.toList W λv w'=>v=.bool true/\Ch (λ_=>False) W w') :
 ReturnsInHanded {} C os f .any (o.preRow enc C.prog fn dom false laid) ((o.at F).post enc C.prog fn false true false false):=by
 subst ho;refine returnsInHanded_of_row own started noInit hfn witness ?_;intro W base args ds gs before hval hW _ hk _ hL hS _;have hg:∀d∈ds,∀t,M.good t d:=λd hd t=>hM _ (hk k rfl) d (List.mem_append.2 (.inl hd)) t;exact aFt M hl hvars hfun hres htb hrec hval hW hg λps=>walk W args ds ps hL hS hg
end
end Go.Sv
