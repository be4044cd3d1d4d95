/-
  The program's lens: a channel's digits.
-/
import Derived.Test.YtlfhjkgdlclddaaGreatDoorPx27
set_option linter.unusedVariables false
set_option linter.unusedSimpArgs false
set_option maxRecDepth 4000
namespace Go.Note
open Go Go.Proofs.YtlfhjkgdlclddaaGreatDoor
theorem aCx:∀(l:Bs) (acc u:Nat),acc<18446744073709551616->(Lib.parseUint10 acc l=.ok u↔l.all dT=true/\val acc l=u/\u<18446744073709551616)
 | [],acc,u,h=>by
  simp[Lib.parseUint10,val];intro e;omega
 | x::l,acc,u,h=>by
  unfold Lib.parseUint10;have hv:val acc (x::l)=val (10*acc+(x.toNat-48)) l:=rfl;have hge:=aHo l (10*acc+(x.toNat-48));by_cases hd:48<=x.toNat/\x.toNat<=57
  ·rw[aF hd];have hdc:dT x=true:=(nQ x).2 hd;split
   ·constructor
    ·intro e;cases e
    ·rintro⟨_,h2,h3⟩;omega
   ·split
    ·constructor
     ·intro e;cases e
     ·rintro⟨_,h2,h3⟩;omega
    ·rw[aCx l _ u (by omega),hv,show acc*10+(x.toNat-48)=10*acc+(x.toNat-48) by omega];simp[hdc]
  ·rw[aD hd];have hdc:dT x=false:=by
    cases h:dT x with
    | false=>rfl
    | true=>exact absurd ((nQ x).1 h) hd
   simp[hdc]
theorem aTx{l:Bs}(h:∀x∈l,iD x=true)(v:Int):Lib.atoiAll l=.ok v↔l≠[]/\lU l<9223372036854775808/\v=(lU l:Int):=by
 cases l with
 | nil=>simp[Lib.atoiAll]
 | cons c r =>
  have hc:48<=c.toNat/\c.toNat<=57:=by simpa[iD]using h c (by simp)
  have hall:(c::r).all dT=true:=List.all_eq_true.2 λx hx=>by
   have:=h x hx;simpa[dT,iD]using this
  unfold Lib.atoiAll;simp only;rw[aD];unfold Lib.parseMag;rw[aD (by simp)];have h10:=aCx (c::r) 0;have hval:val 0 (c::r)=lU (c::r):=rfl;rw[hval]at h10;cases hp:Lib.parseUint10 0 (c::r)with
  | ok u =>
   have:=(h10 u (by omega)).1 hp;simp only;have h45:¬c.toNat=45:=by omega
   rw[aD (show¬(c.toNat=45/\9223372036854775808<u)from λe=>h45 e.1),aD h45];split
   ·rename_i h3;constructor
    ·intro e;cases e
    ·rintro⟨_,e,_⟩;have:=h3.2;omega
   ·rename_i h3;have h3:¬9223372036854775808<=u:=λe=>h3 ⟨h45,e⟩;constructor
    ·intro e;cases e;exact⟨by simp,by omega,by omega⟩
    ·rintro⟨_,_,e⟩;rw[e,this.2.1]
  | _ =>
   simp only[reduceCtorEq,false_iff];rintro⟨_,e,_⟩;have:=(h10 (lU (c::r)) (by omega)).2 ⟨hall,rfl,by omega⟩;rw[hp]at this;cases this
theorem aO5(l:Bs)(p:UInt8->Bool):l.takeWhile p=l.take (l.length-(l.dropWhile p).length)/\l.dropWhile p=l.drop (l.takeWhile p).length/\l.length=(l.takeWhile p).length+(l.dropWhile p).length:=by
 have h:=List.takeWhile_append_dropWhile (p:=p) (l:=l);have hl:=congrArg List.length h;rw[aG]at hl;refine⟨?_,?_,by omega⟩
 ·have:l.length-(l.dropWhile p).length=(l.takeWhile p).length:=by omega
  rw[this]
  conv=>rhs;rw[<-h]
  rw[kF (by rw[h];exact aQ _)];exact(aY (by rw[h];exact aQ _)).symm
 ·conv=>rhs;arg 2;rw[<-h]
  rw[fB (aQ _),List.drop_length,aX]
end Go.Note
namespace Go.Proofs.YtlfhjkgdlclddaaGreatDoor
open Go Go.Sv Go.Note
attribute [local irreducible] aS
theorem aSd{l:Bs}(hl:l.length<=2^40)(hd:∀x∈l,iD x=true){w:World}(hL:LW w){K:Value->World->Prop}
 (hk:∀(n:Int) v w',Ch (λ_=>False) w w'->isI v=true->(jV v=true/\l≠[]/\lU l<9223372036854775808/\n=(lU l:Int)\/jV v=false/\(l=[]\/65535<lU l))->K (.tuple #[.int .i64 n,v]) w') :
 bK Tryz.prog 69 [.string ⟨l.toArray⟩] w K:=by
 obtain⟨te,pe,h4⟩:=hL.syn;obtain⟨te',pe',h5⟩:=hL.ran;have had:=aTx hd;have hsz:(ByteArray.mk l.toArray).size=l.length:=cV l;have hno:(∀v,Lib.atoiAll l≠.ok v)->l=[]\/65535<lU l:=by
  intro h;by_cases h0:l=[]
  ·exact .inl h0
  ·refine .inr ?_;by_cases h1:lU l<9223372036854775808
   ·exact absurd ((had _).2 ⟨h0,h1,rfl⟩) (h _)
   ·omega
 have hs:(ByteArray.mk l.toArray).data.toList=l:=sl2 l;cases hr:Lib.atoiAll (ByteArray.mk l.toArray).data.toList
 case ok u =>
  refine(Any.strconv_Atoi_ok Tryz.laysC172 ⟨l.toArray⟩ (by rw[hsz];omega) u hr w).mono ?_;rintro e w' ⟨rfl,hw⟩;rw[hs]at hr;refine⟨_,rfl,hk _ _ w' ?_ rfl (.inl ⟨rfl,(had u).1 hr⟩)⟩;rcases hw with rfl|⟨t,rfl⟩
  ·exact Ch.refl _ _
  ·exact pB ..
 case range =>
  refine(Any.strconv_Atoi_range Tryz.laysC172 ⟨l.toArray⟩ (by rw[hsz];omega) hr _ w h5 (.inr ⟨_,_,rfl⟩)).mono ?_;rintro e w' ⟨N,rfl,_,_,hb⟩;rw[hs]at hr;exact⟨_,rfl,hk _ _ w' (fF hb) rfl (.inr ⟨rfl,hno λv h=>by rw[hr]at h;cases h⟩)⟩
 ·
  refine(Any.strconv_Atoi_syntax Tryz.laysC172 ⟨l.toArray⟩ (by rw[hsz];omega) hr _ w h4 (.inr ⟨_,_,rfl⟩)).mono ?_;rintro e w' ⟨N,rfl,_,_,hb⟩;rw[hs]at hr;exact⟨_,rfl,hk _ _ w' (fF hb) rfl (.inr ⟨rfl,hno λv h=>by rw[hr]at h;cases h⟩)⟩
theorem aW2(x:UInt8):([48,49,50,51,52,53,54,55,56,57]:List UInt8).contains x=iD x:=by
 have:∀n,n<256->([48,49,50,51,52,53,54,55,56,57]:List UInt8).contains (UInt8.ofNat n)=iD (UInt8.ofNat n):=by decide +kernel
 have h:=this x.toNat (by have:=x.toNat_lt;omega)
 rwa [UInt8.ofNat_toNat]at h
theorem aAr{l:Bs}(hl:l.length<=2^40){w:World}(hL:LW w){K:Value->World->Prop}
 (hk:∀(c:Int) (r:Bs) (ok:Bool) w',Ch (λ_=>False) w w'->r.length<=l.length->(ok=true->∃k:Nat,c=(k:Int)/\tU l=some (k,r))->(ok=false->tU l=none)->K (.tuple #[.int .i64 c,.string ⟨r.toArray⟩,.bool ok]) w') :
 bK Tryz.prog 38 [.string ⟨l.toArray⟩] w K:=by
 apply aBc;refine(Any.strings_TrimLeft_laid Tryz.lays161 (by kernel_rfl) ⟨l.toArray⟩ (ByteArray.mk #[48,49,50,51,52,53,54,55,56,57]) w (by decide) (ascii_of_all (by decide))).mono ?_;rintro e w1 ⟨rfl,hbel⟩;have c1:=fF hbel;refine⟨_,rfl,_,rfl,?_⟩;have hcs:Lib.trimLeftS (ByteArray.mk l.toArray).data.toList (ByteArray.mk #[48,49,50,51,52,53,54,55,56,57]).data.toList=l.dropWhile iD:=by
  rw[sl2];unfold Lib.trimLeftS;congr 1;funext x;exact aW2 x
 rw[hcs,cV,cV];obtain⟨t1,t2,t3⟩:=aO5 l iD;have hdg:∀x∈l.takeWhile iD,iD x=true:=λx hx=>List.all_eq_true.1 List.all_takeWhile x hx;have hch:tU l=if l.takeWhile iD=[]then none else if l.takeWhile iD≠Lib.decDigits (lU (l.takeWhile iD))\/65535<lU (l.takeWhile iD)then none else some (lU (l.takeWhile iD),l.drop (l.takeWhile iD).length):=rfl;generalize hd:l.takeWhile iD=d at t1 t2 t3 hdg hch;generalize tU l=CR at hk hch;unfold cF;have hn:((l.length:Nat):Int)-((l.dropWhile iD).length:Int)=(d.length:Int):=by omega
 rw[hn,aW];have htk:l.take d.length=d:=by rw[show d.length=l.length-(l.dropWhile iD).length by omega];exact t1.symm
 refine⟨by omega,by omega,?_⟩;rw[aM,aN6,htk];refine aSd (by omega) hdg (hL.ch0 c1) λn v w2 c2 hi hv=>⟨_,_,rfl,by omega,by omega,hi,?_⟩;have cd:Ch (λ_=>False) w w2.drew:=(c1.trans' c2).trans' (Ch.drew _);have hex:(ByteArray.mk l.toArray).extract d.length l.length=⟨(l.drop d.length).toArray⟩:=by
  have:=aSa l d.length
  rwa [cV]at this
 rw[hex];have hrl:(l.drop d.length).length<=l.length:=by rw[aN];omega
 rcases hv with⟨hnil,h0,h63,rfl⟩|⟨hnil,hbad⟩
 ·rw[hnil];rw[aD h0]at hch;refine aC (λ_=>aC (λh=>?_) λh=>?_) λh=>by cases h
  ·have h:lU d<=65535:=by have:=aB h;omega
   refine⟨by omega,by omega,?_⟩;refine aN7 h (hL.ch0 cd) λw3 c3=>⟨_,rfl,?_⟩;rw[show(⟨d.toArray⟩:ByteArray)=ByteArray.mk (Array.mk d)from rfl,sEq,sl2];refine hk _ _ _ w3 (cd.trans' c3) hrl (λhq=>⟨_,rfl,?_⟩) λhq=>?_
   ·have hq:=aB hq;rw[hch,_root_.if_neg];rintro(h1|h1)
    ·exact h1 hq.symm
    ·omega
   ·have hq:=aA hq;rw[hch,aF (.inl λe=>hq e.symm)]
  ·have h:65535<lU d:=by have:=aA h;omega
   exact hk _ _ _ _ cd hrl (λhq=>by cases hq) λ_=>by rw[hch,aF (.inr h)]
 ·rw[hnil];refine aC (λh=>by cases h) λ_=>?_;refine hk _ _ _ _ cd hrl (λhq=>by cases hq) λ_=>?_;rw[hch];split
  ·rfl
  ·rename_i h0;rcases hbad with h|h
   ·exact absurd h h0
   ·rw[aF (.inr h)]
end Go.Proofs.YtlfhjkgdlclddaaGreatDoor
