/-
  The document's frame (longshoreref05): words, headers, Seal. The document's frame (longshoreref05): Open. The program's lens: an item out of its line. A text's lines, as strings.Split gives them; how long what is read of them is. No program in sight. DERIVED: THE SHELF's CONTRACTS AT THIS DUMP, IN PLAIN WORDS (tools/lay-plain.mjs out of 'YtlfhjkgdlclddaaGreatDoorShelf4.lean', which tools/lay-shelf.mjs wrote): THE SAME DECLARATIONS UNDER THE SAME NAMES: 'import', 'namespace', 'open', 'def', 'theorem' AND NOTHING ELSE: no command of the shelf's: FOR A HAND-IN. Each laying: the table of numbers ('.._ren') and one theorem, a field a fact of the dump's own or the kernel's comparison; each contract: ONE APPLICATION. The program's lens: a connection's bytes out of their lines.
-/
import Derived.Test.YtlfhjkgdlclddaaGreatDoorPx29
import Derived.Lib.SplitLaws
import Derived.Shelf.Strings.Builder1
import Derived.Shelf.Strings.Trim
import Derived.Shelf.Small.Utf8
import Derived.Shelf.Small.Bits
import Derived.Shelf.Small.Strs
import Derived.Shelf.Small.Wraps
import Derived.Shelf.Strings.BuilderF
import Derived.Shelf.Strings.BuilderK
import Derived.Shelf.Strings.BuilderRune
import Derived.Shelf.Utf8.AppendRunePlain
import Derived.Shelf.Utf8.RuneCount
import Derived.Shelf.Strconv.Atoi
import Derived.Shelf.Strconv.Itoa0
import Derived.Shelf.Strconv.Itoa1
import Derived.Shelf.LaysM
import Derived.Shelf.Strconv.Itoa2
import Derived.Shelf.Strconv.Itoa3
import Derived.Shelf.Strconv.Itoa4
import Derived.Shelf.Strconv.AtoiErrFast
import Derived.Shelf.Strconv.ParseIntEmpty
import Derived.Shelf.Strconv.AtoiFail
import Derived.Shelf.Strconv.Clone
import Derived.Shelf.Strconv.SyntaxError
import Derived.Shelf.LaysC
import Derived.Shelf.Strconv.ToError
import Derived.Shelf.Strconv.Lower
import Derived.Shelf.Strconv.ParseUint10
import Derived.Shelf.Strconv.ParseUint10Empty
import Derived.Shelf.Strconv.ParseUint10Any
import Derived.Shelf.Strconv.ParseInt10
import Derived.Shelf.Strconv.AtoiLong
import Derived.Shelf.Strconv.AtoiInnerAll
import Derived.Shelf.Strconv.RangeError
import Derived.Shelf.Strconv.ToErrorRange
import Derived.Shelf.Strconv.AtoiAll
import Derived.Shelf.Strconv.ParseUintEmpty
import Derived.Shelf.Strconv.ParseUint10b64
import Derived.Shelf.Strconv.ParseUint10b32
import Derived.Shelf.Strconv.ParseUint10b16
import Derived.Shelf.Strconv.ParseUint10b8
import Derived.Shelf.Strconv.ParseUint10At
import Derived.Shelf.Strconv.ParseInt10At64
import Derived.Shelf.Strconv.ParseInt10At32
import Derived.Shelf.Strconv.ParseInt10At16
import Derived.Shelf.Strconv.ParseInt10At8
import Derived.Shelf.Strconv.ParseInt10All
import Derived.Shelf.Strconv.ParseIntPublic10
import Derived.Shelf.Strconv.ErrVarParseInt
import Derived.Ground.MpProg
import Derived.Shelf.Pu.ParseUintPublic10
import Derived.Shelf.Pu.ErrVarParseUint
import Derived.Shelf.Strings.Search1
import Derived.Shelf.Strings.Search2
import Derived.Shelf.Strings.Search3
import Derived.Shelf.Strings.Count
import Derived.Shelf.Strings.Shaped
import Derived.Shelf.Strings.Prefix
import Derived.Shelf.Strings.Split
import Derived.Shelf.Strings.SplitShaped
import Derived.Shelf.Unicode.Decode
import Derived.Shelf.Strings.Runes
import Derived.Shelf.Strings.RuneCount
import Derived.Shelf.Strings.AsciiSet
import Derived.Shelf.Strings.Explode
import Derived.Shelf.Unicode.DecodeSlow
import Derived.Shelf.Unicode.DecodeAny
import Derived.Shelf.Unicode.DecodeLast
import Derived.Shelf.Strings.BuilderCap
import Derived.Ground.Names2Prog
import Derived.Shelf.Slices.SearchI
import Derived.Test.YtlfhjkgdlclddaaGreatDoorProg
set_option linter.unusedVariables false
set_option linter.unusedSimpArgs false
set_option maxRecDepth 4000
namespace Go.Proofs.YtlfhjkgdlclddaaGreatDoor
open Go Go.Sv Go.Note
attribute [local irreducible] aS
def aNu(f g:Fr):Bool:=decide (f.ty=g.ty) && decide (f.ch=g.ch) && decide (f.ext=g.ext) && decide (f.body=g.body)
theorem aP9{x y:FV}{w:World}(hx:FR w x)(hy:FR w y){K:Value->World->Prop}(hk:∀w',Ch (λ_=>False) w w'->K (.bool (aNu x.f y.f)) w'):bK Tryz.prog 19 [x.v,y.v] w K:=by
 obtain⟨xt,xc,xp,xec,xe,xq,xbc,xb⟩:=x;obtain⟨yt,yc,yp,yec,ye,yq,ybc,yb⟩:=y;apply qY;refine bD λw1 b1 c1 z1=>bD λw2 b2 c2 z2=>?_;have b1:blk w1 w.heap.size=some [.int .i64 xt,.int .i64 xc,.slice xp xe.length xec,.slice xq xb.length xbc]:=b1;have b2:blk w2 w1.heap.size=some [.int .i64 yt,.int .i64 yc,.slice yp ye.length yec,.slice yq yb.length ybc]:=b2;have b12:=(c2.blk (aH b1) id).trans b1;have c02:=c1.trans' c2;have hx2:=hx.ch0 c02;have hy2:=hy.ch0 c02;simp only[add_at,aL,dS];have hk2:=hk w2 c02;have hs:aNu (FV.f ⟨xt,xc,xp,xec,xe,xq,xbc,xb⟩) (FV.f ⟨yt,yc,yp,yec,ye,yq,ybc,yb⟩)=(decide (xt=yt) && decide (xc=yc) && decide (xe=ye) && decide (xb=yb)):=rfl;rw[hs]at hk2;refine⟨_,aJ b12 0 rfl,_,aJ b2 0 rfl,?_⟩;refine aC (λq=>?_) (λq=>?_)
 rotate_left
 ·rw[q]at hk2;simpa using hk2
 rw[q]at hk2;refine⟨_,aJ b12 1 rfl,_,aJ b2 1 rfl,?_⟩;refine aC (λq2=>?_) (λq2=>?_)
 rotate_left
 ·rw[q2]at hk2;simpa using hk2
 rw[q2]at hk2;refine⟨_,_,_,aJ b12 2 rfl,_,cD fD iL dN hx2.ext,_,_,_,aJ b2 2 rfl,_,cD fD iL dN hy2.ext,?_⟩;rw[nX];refine aC (λq3=>?_) (λq3=>?_)
 rotate_left
 ·have q3:decide (xe=ye)=false:=q3;rw[q3]at hk2;simpa using hk2
 have q3:decide (xe=ye)=true:=q3;rw[q3]at hk2;refine⟨_,_,_,aJ b12 3 rfl,_,cD fD iL dN hx2.body,_,_,_,aJ b2 3 rfl,_,cD fD iL dN hy2.body,?_⟩;rw[nX];simpa using hk2
theorem aIq{w':World}{q:Option Addr}{n:Nat}{l:Bs}{x:FV}{k:Nat}(hr:Rd w' q n 1 (aV l))(hb:blk w' k=some x.g):∀ad,q=some ad->n*1≠0->ad.block≠k:=by
 intro ad ha h0 e;obtain⟨b',o,hp,hc⟩:=hr.cell (i:=0) (by omega);rw[hp]at ha;cases ha;have e:b'=k:=e;subst e;rw[eA hb]at hc;have hl:l.length=n:=by have:=hr.1;simpa using this
 cases l with
 | nil=>simp at hl;omega
 | cons y l =>
  have hc:x.g[o+0]?=some (.int .u8 (y.toNat:Int)):=hc;unfold FV.g at hc;rcases o with _|_|_|_|o
  ·cases hc
  ·cases hc
  ·cases hc
  ·cases hc
  ·simp at hc
theorem aQw:∀(l:Bs) (i:Nat) (b:Bool),uS l i b<=i+l.length
 | [],i,b=>by unfold uS;omega
 | x::t,i,b=>by
  have h:=λc=>aQw t (i+1) c;have h1:=h true;have h2:=h false;unfold uS;rw[aI];split
  ·omega
  split
  ·omega
  split<;>omega
theorem aCa(l:Bs):eT l<=l.length:=by
 cases l with
 | nil=>decide
 | cons x t =>
  have:=aQw t 1 false;show(if x=34 then uS t 1 false else 0)<=_;rw[aI];split<;>omega
theorem aVn{l q:Bs}{w:World}{K:Value->World->Prop}(hk:∀(r:Bs) (b:Bool),r.length<=l.length->(b=true->jH q l=some r)->(b=false->jH q l=none/\r=l)->K (.tuple #[.string ⟨r.toArray⟩,.bool b]) w) :
 bK Tryz.prog 37 [.string ⟨l.toArray⟩,.string (ByteArray.mk (Array.mk q))] w K :=
 aAa (λr hr hrl=>hk r true hrl (λ_=>hr) λh=>by cases h) λhr=>hk l false (aQ _) (λh=>by cases h) λ_=>⟨hr,rfl⟩
def IV.zero:IV:=⟨0,0,⟨0,0,none,0,[],none,0,[]⟩⟩
theorem aJo{l q:Bs}:((ByteArray.mk l.toArray).toList == (ByteArray.mk (Array.mk q)).toList)=decide (l=q):=by rw[sEq,sl2]
theorem aVa{w:World}{a:Nat}{zs:List Value}{x:IV}{e:Int}{K:Value->World->Prop}(h:blk w a=some zs)(hl:zs.length=6)(hk:∀w',Ch (·=a) w w'->K (.tuple #[x.v,.int .i64 e]) w') :
 Sv.st w ⟨a,0,none⟩ (.int .i64 x.kind) λw1=>Sv.st w1 ⟨a,1,none⟩ (.int .i64 x.proto) λw2=>Sv.st w2 ⟨a,2,none⟩ (.int .i64 x.fv.ty) λw3=>Sv.st w3 ⟨a,3,none⟩ (.int .i64 x.fv.ch) λw4=>Sv.st w4 ⟨a,4,none⟩ (.slice x.fv.ep x.fv.ext.length x.fv.ec) λw5=>Sv.st w5 ⟨a,5,none⟩ (.slice x.fv.bp x.fv.body.length x.fv.bc) λw6 =>
  ∃n,w6.cell? ⟨a,0,none⟩=some (.int .i64 n)/\∃n1,w6.cell? ⟨a,1,none⟩=some (.int .i64 n1)/\∃n2,w6.cell? ⟨a,2,none⟩=some (.int .i64 n2)/\∃n3,w6.cell? ⟨a,3,none⟩=some (.int .i64 n3)/\∃p n4 c,w6.cell? ⟨a,4,none⟩=some (.slice p n4 c)/\∃p1 n5 c1,w6.cell? ⟨a,5,none⟩=some (.slice p1 n5 c1)/\K (.tuple #[.agg #[.int .i64 n,.int .i64 n1,.int .i64 n2,.int .i64 n3,.slice p n4 c,.slice p1 n5 c1],.int .i64 e]) w6 :=
 st6 h hl λw' b c _=>ld6 b (hk w' c)
theorem FR.zero(w:World):FR w IV.zero.fv:=⟨yW _ _,yW _ _,by decide,by decide,by decide,by decide⟩
theorem tI{l:Bs}(hl:l.length<=2^37){w:World}(hL:LW w){K:Value->World->Prop}
 (hk:∀(x:IV) w',mQ l=some x.i->FR w' x.fv->Ch (λ_=>False) w w'->K (.tuple #[x.v,.int .i64 0]) w')
 (hno:∀w',mQ l=none->Ch (λ_=>False) w w'->K (.tuple #[IV.zero.v,.int .i64 280]) w') :
 bK Tryz.prog 15 [.string ⟨l.toArray⟩] w K:=by
 apply aH9;have hit:mQ l=if l=oR then some ⟨1,0,fr0⟩
  else if l=lR then some ⟨1,3,fr0⟩
  else match mP l with
   | none=>none
   | some (ty,ch,s)=>match xW s with
    | none=>none
    | some (ext,s2)=>match oF s2 with
     | none=>none
     | some body=>if fN ⟨ty,(ch:Int),ext,body⟩≠0 then none else some ⟨2,0,⟨ty,(ch:Int),ext,body⟩⟩:=rfl
 have hbe:mP l=match jH iR l with
  | some s=>some (1,0,s)
  | none=>match jH sMain l with
   | none=>none
   | some d=>match tU d with
    | none=>none
    | some (c,s)=>some (0,c,s):=rfl
 generalize mQ l=IR at hk hno hit;generalize hBR:mP l=BR at hit hbe;clear hBR;refine bD λw1 b1 c1 z1=>?_;have b1:blk w1 w.heap.size=some IV.zero.g:=b1;have hlt1:=aH b1;simp only[add_at,aL];rw[aJo,aJo];have old:∀ {w':World},Ch (·=w.heap.size) w1 w'->Ch (λ_=>False) w w':=λc=>c1.trans c λj hj q=>by omega
 refine aC (λq=>?_) (λq=>?_)
 ·rw[aF (show l=oR from aB q)]at hit;exact aVa (x:=⟨1,0,IV.zero.fv⟩) b1 rfl λw' c=>hk _ w' hit (FR.zero _) (old c)
 rw[aD (show¬l=oR from aA q)]at hit;refine aC (λq=>?_) (λq=>?_)
 ·rw[aF (show l=lR from aB q)]at hit;exact aVa (x:=⟨1,3,IV.zero.fv⟩) b1 rfl λw' c=>hk _ w' hit (FR.zero _) (old c)
 rw[aD (show¬l=lR from aA q)]at hit;have fail:∀ {w':World},IR=none->Ch (λ_=>False) w w'->blk w' w.heap.size=some IV.zero.g->_:=λ{w'} h c b=>aVa (x:=IV.zero) (e:=280) (K:=K) b rfl λw2 c2=>hno w2 h (c.trans c2 λj hj q=>by omega);refine bD λw2 b2 c2 z2=>?_;simp only[add_at,aL];have b12:=(c2.blk hlt1 id).trans b1;generalize hA1:w1.heap.size=a1 at b2;have ha:w.heap.size<a1:=by omega
 refine aM3 (x:=⟨1,0,none,0,[],none,0,[]⟩) b2 rfl λw6 b6 c6 z6=>?_;have b16:=(c6.blk (aH b12) (by omega)).trans b12;have c06:Ch (λ_=>False) w w6:=(c1.trans' c2).trans c6 λj hj q=>by omega
 clear b2 b12 b1 c1 c2 c6;refine aVn (q:=iR) λr g hrl hg1 hg0=>⟨_,_,rfl,?_⟩;refine⟨λxs w8=>∃(ty:Int) (ch:Nat) (sx:Bs),xs=⟨sx.toArray⟩/\sx.length<=l.length/\blk w8 a1=some (FV.g ⟨ty,(ch:Int),none,0,[],none,0,[]⟩)/\blk w8 w.heap.size=some IV.zero.g/\Ch (λ_=>False) w w8/\BR=some (ty,ch,sx),?_,?_⟩
 ·clear hg1 hg0 hrl hbe b6 b16 c06;rintro xs w8 ⟨ty,ch,sx,rfl,hsl,b8,b18,c08,rfl⟩;dsimp only at hit;have hex:xW sx=match jH sExt sx with
   | none=>some ([],sx)
   | some w=>match lD (w.take (eT w))with
    | none=>none
    | some x=>some (x,w.drop (eT w)):=rfl
  generalize hER:xW sx=ER at hit hex;clear hER;refine⟨λx1 w9=>∃(ep:Option Addr) (ec:Nat) (ext s2:Bs),x1=⟨s2.toArray⟩/\s2.length<=l.length/\ext.length<=l.length/\ext.length<=ec/\Rd w9 ep ext.length 1 (aV ext)/\blk w9 a1=some (FV.g ⟨ty,(ch:Int),ep,ec,ext,none,0,[]⟩)/\blk w9 w.heap.size=some IV.zero.g/\Ch (λ_=>False) w w9/\ER=some (ext,s2),?_,?_⟩
  ·clear b8 b18 c08 hex;rintro x1 w9 ⟨ep,ec,ext,s2,rfl,hs2,hel,hec,hr9,b9,b19,c09,rfl⟩;dsimp only at hit;refine aR5 (by omega) (hL.ch0 c09) λbp bc body ok w10 hr10 hbc hbl hrd c10=>⟨_,_,_,_,rfl,?_⟩;have b910:=(c10.blk (aH b9) id).trans b9;have b1910:=(c10.blk (aH b19) id).trans b19;have hr9':=hr9.ch c10 λ_ _ _=>id;refine eK b910 (by simp[FV.g]) λw11 b11 c11 z11=>?_;have b11:blk w11 a1=some (FV.g ⟨ty,(ch:Int),ep,ec,ext,bp,bc,body⟩):=b11;have hF:FR w11 ⟨ty,(ch:Int),ep,ec,ext,bp,bc,body⟩:=⟨hr9'.ch c11 (aIq hr9' b910),hr10.ch c11 (aIq hr10 b910),by show ext.length<=_;omega,by show body.length<=_;omega,hec,hbc⟩;have b111:=(c11.blk (aH b1910) (by omega)).trans b1910;have c011:Ch (λ_=>False) w w11:=(c09.trans' c10).trans c11 λj hj q=>by omega
   refine⟨λw12=>blk w12 a1=some (FV.g ⟨ty,(ch:Int),ep,ec,ext,bp,bc,body⟩)/\FR w12 ⟨ty,(ch:Int),ep,ec,ext,bp,bc,body⟩/\blk w12 w.heap.size=some IV.zero.g/\Ch (λ_=>False) w w12/\IR=some ⟨2,0,⟨ty,(ch:Int),ext,body⟩⟩,?_,?_⟩
   ·rintro w12 ⟨b12,hF12,b112,c012,hIR⟩;refine⟨_,aJ b12 0 rfl,_,aJ b12 1 rfl,_,_,_,aJ b12 2 rfl,_,_,_,aJ b12 3 rfl,?_⟩;exact aVa (x:=⟨2,0,⟨ty,(ch:Int),ep,ec,ext,bp,bc,body⟩⟩) b112 rfl λw13 c13=>hk _ w13 hIR (hF12.ibox b112 c13) (c012.trans c13 λj hj q=>by omega)
   ·refine⟨_,aJ b11 0 rfl,_,aJ b11 1 rfl,_,_,_,aJ b11 2 rfl,_,_,_,aJ b11 3 rfl,?_⟩;refine aEj (N:=0) (x:=⟨ty,(ch:Int),ep,ec,ext,bp,bc,body⟩) hF (bQ _) λq n c w12 hB hnc=>⟨_,_,_,_,rfl,?_⟩;have c12:=hB.ch;have b1112:=(c12.blk (aH b11) id).trans b11;have b112:=(c12.blk (aH b111) id).trans b111;have hse:(aCm (FV.f ⟨ty,(ch:Int),ep,ec,ext,bp,bc,body⟩)).2=fN ⟨ty,(ch:Int),ext,body⟩:=by
     unfold aCm;by_cases h:fN (FV.f ⟨ty,(ch:Int),ep,ec,ext,bp,bc,body⟩)≠0
     ·rw[aF h];rfl
     ·rw[aD h];show 0=fN (FV.f ⟨ty,(ch:Int),ep,ec,ext,bp,bc,body⟩);omega
    rw[hse,eJ,Bool.not_not];rw[hrd]at hit;refine aC (λh=>?_) (λh=>?_)
    ·rw[aF h]at hit;dsimp only at hit;refine aC (λh2=>?_) (λh2=>?_)
     ·rw[aF (by simpa using h2)]at hit;exact fail hit (c011.trans' c12) b112
     ·rw[aD (by simpa using h2)]at hit;exact⟨b1112,hF.ch0 c12,b112,c011.trans' c12,hit⟩
    ·rw[aD (by rw[h];decide)]at hit;exact fail hit (c011.trans' c12) b112
  ·refine aAa (q:=sExt) (λx hx hxl=>?_) (λhx=>?_)
   all_goals rw[hx]at hex
   all_goals dsimp only at hex
   ·refine⟨_,_,rfl,aC (λ_=>?_) λh=>by cases h⟩;refine aKf (by rw[cV];omega) λw9 c9=>⟨_,rfl,?_⟩;rw[sl2,cV];have hwe:=aCa x;refine⟨by omega,by omega,?_⟩;rw[aM,aN6];refine aDy (by rw[cV,aU];omega) (hL.ch0 (c08.trans' c9)) λv w10 c10 hv=>?_;rw[sl2]at hv;have hul:=aBs (x.take (eT x));have hsd:=xB (x.take (eT x));rw[aU]at hul;have c010:=(c08.trans' c9).trans' c10;have b110:=((c9.trans' c10).blk (aH b18) id).trans b18;have b810:=((c9.trans' c10).blk (aH b8) id).trans b8;generalize lD (x.take (eT x))=SR at hex hv hsd;cases SR with
    | none =>
     have hv:v=_:=hv;subst hv;rw[hex]at hit;exact⟨_,_,rfl,aC (λ_=>fail hit c010 b110) λh=>by cases h⟩
    | some ext =>
     have hv:v=_:=hv;subst hv;have hel:ext.length<=x.length:=by
      split at hsd
      ·cases hsd;omega
      ·cases hsd
     refine⟨_,_,rfl,aC (λh=>by cases h) λ_=>⟨by omega,by omega,?_⟩⟩;refine aNa λp c w12 r12 hc c12 z12=>?_;have c12d:Ch (λ_=>False) w10 w12:=(Ch.drew w10).trans' c12;have b812:=(c12d.blk (aH b810) id).trans b810;refine eK b812 (by simp[FV.g]) λw13 b13 c13 z13=>?_;have b13:blk w13 a1=some (FV.g ⟨ty,(ch:Int),p,c,ext,none,0,[]⟩):=b13;have hdr:(ByteArray.mk x.toArray).extract (eT x) x.length=⟨(x.drop (eT x)).toArray⟩:=by
      have:=aSa x (eT x)
      rwa [cV]at this
     refine⟨p,c,ext,x.drop (eT x),hdr,by rw[aN];omega,by omega,hc,r12.ch c13 (aIq r12 b812),b13,?_,(c010.trans' c12d).trans c13 λj hj q=>by omega,hex⟩;have b112:=(c12d.blk (aH b110) id).trans b110;exact(c13.blk (aH b112) (by omega)).trans b112
   ·exact⟨_,_,rfl,aC (λh=>by cases h) λ_=>⟨none,0,[],sx,rfl,hsl,bQ _,aQ _,yW _ _,b8,b18,c08,hex⟩⟩
 ·refine aC (λh=>?_) (λh=>?_)
  ·have hgf:g=false:=by simpa using h
   rw[(hg0 hgf).1]at hbe;dsimp only at hbe;refine aAa (q:=sMain) (λd hd hdl=>?_) (λhd=>?_)
   ·rw[hd]at hbe;dsimp only at hbe;refine⟨_,_,rfl,aAr (by omega) (hL.ch0 c06) λc r ok w9 c9 hrl hok hbad=>⟨_,_,_,rfl,?_⟩⟩;have b19:=(c9.blk (aH b16) id).trans b16;have b69:=(c9.blk (aH b6) id).trans b6;refine⟨λw10=>w10=w9/\ok=true,?_,?_⟩
    ·rintro w10 ⟨rfl,hok1⟩;obtain⟨k,rfl,hch⟩:=hok hok1;rw[hch]at hbe;refine eK b69 (by simp[FV.g]) λw11 b11 c11 z11=>eK b11 (by simp[FV.g]) λw12 b12 c12 z12=>?_;have b111:=(c11.blk (aH b19) (by omega)).trans b19;exact⟨0,k,r,rfl,by omega,b12,(c12.blk (aH b111) (by omega)).trans b111,((c06.trans' c9).trans c11 λj hj q=>by omega).trans c12 λj hj q=>by omega,hbe⟩
    ·refine aC (λ_=>aC (λh=>?_) λh=>⟨rfl,by simpa using h⟩) λh=>by cases h
     rw[hbad (by simpa using h)]at hbe;rw[hbe]at hit;exact fail hit (c06.trans' c9) b19
   ·rw[hd]at hbe;dsimp only at hbe;refine⟨_,_,rfl,aAr (by omega) (hL.ch0 c06) λc r ok w9 c9 hrl hok hbad=>⟨_,_,_,rfl,?_⟩⟩;have b19:=(c9.blk (aH b16) id).trans b16;refine⟨λw10=>False,λ_ h=>h.elim,aC (λh=>by cases h) λ_=>?_⟩;rw[hbe]at hit;exact fail hit (c06.trans' c9) b19
  ·have hgf:g=true:=by simpa using h
   rw[hg1 hgf]at hbe;exact⟨1,0,r,rfl,hrl,b6,b16,c06,hbe⟩
end Go.Proofs.YtlfhjkgdlclddaaGreatDoor
namespace Go.Note
open Go Go.Proofs.YtlfhjkgdlclddaaGreatDoor
theorem aAi:∀l:Bs,Lib.splitK [10] 0 (Lib.count l [10]) l=dY l
 | []=>rfl
 | x::t=>by
  have ih:=aAi t;by_cases hx:x=10
  ·subst hx;rw[Lib.count_cons_eq,show 1+Lib.count t [10]=Lib.count t [10]+1 by omega];have hi:Lib.index (10::t) [10]=0:=by
    show(if([10]:Bs).isPrefixOf (10::t)then(0:Int)else if Lib.index t [10] == -1 then -1 else Lib.index t [10]+1)=0;rw[aF (by simp[List.isPrefixOf])]
   unfold Lib.splitK;rw[hi,aD (by decide)];show[]::Lib.splitK [10] 0 (Lib.count t [10]) t=dY (10::t);rw[ih];unfold dY;rw[aF rfl];cases t<;>rfl
  ·have hc:=Lib.count_cons_ne x 10 t hx;rw[hc];have hi:Lib.index (x::t) [10]=if Lib.index t [10] == -1 then -1 else Lib.index t [10]+1:=by
    show(if([10]:Bs).isPrefixOf (x::t)then(0:Int)else if Lib.index t [10] == -1 then -1 else Lib.index t [10]+1)=_;rw[aD (by simp[List.isPrefixOf];exact λe=>hx e.symm)]
   have hl:dY (x::t)=match dY t with | []=>[[x]] | l::ls=>(x::l)::ls:=by
    conv=>lhs;unfold dY
    rw[aD hx];cases dY t<;>rfl
   rw[hl,<-ih];cases hk:Lib.count t [10]with
   | zero=>rfl
   | succ j =>
    unfold Lib.splitK;rw[hi];by_cases hm:(Lib.index t [10] == -1)=true
    ·rw[aF hm,aF hm,aF (by decide)]
    ·rw[aD hm,aD hm];have hge:=Lib.index_ge t [10];have hne:Lib.index t [10]≠-1:=λe=>hm (beq_iff_eq.2 e);obtain⟨i,hi2⟩:∃i:Nat,Lib.index t [10]=(i:Int):=⟨(Lib.index t [10]).toNat,by omega⟩;rw[hi2];have e1:((((i:Int)+1:Int)) == -1)=false:=beq_eq_false_iff_ne.2 (by omega);rw[e1];have e2:((i:Int)+1).toNat=i+1:=by omega
     rw[e2,aM];simp
theorem aR8(l:Bs):dY l≠[]:=by
 cases l with
 | nil=>simp[dY]
 | cons x t =>
  unfold dY;split
  ·simp
  ·split<;>simp
theorem aGq:∀l:Bs,((dY l).map λx=>30*(x.length+1)).sum=30*(l.length+1)
 | []=>rfl
 | x::t=>by
  have ih:=aGq t;unfold dY;split
  ·rw[List.map_cons,List.sum_cons,ih];simp only[bN,aI];omega
  ·cases hl:dY t with
   | nil=>exact absurd hl (aR8 t)
   | cons a ls =>
    rw[hl]at ih;simp only[List.map_cons,List.sum_cons,aI]at ih ⊢;omega
theorem aGg(s:Bs):(cY s).1.sz<=s.length+1:=by
 unfold cY;cases hp:gT s with
 | ok m b =>
  obtain⟨_,h1,h2,_,h3⟩:=aCw hp;show m.sz<=_;omega
 | bad a e =>
  show(M.mk 0 0 [] 0 []).sz<=_;rw[M.sz_mk];simp
theorem aCn{s b:Bs}(h:lD s=some b):b.length<=s.length:=by
 have:=aBs s;rw[xB]at h;split at h
 ·cases h;exact this
 ·cases h
theorem aLj{m:M}{r b:Bs}(h:vS m r=some b):b.length<=20*m.sz+r.length:=by
 unfold vS at h;split at h
 ·cases h;rename_i h0;have:=(aIs m).1;rw[aG];have h2:(pA m).1.length<=(gV m).length:=by
   unfold pA;split
   ·simp
   split
   ·simp
   ·simp
  omega
 ·cases h
theorem pZ{q s r:Bs}(h:jH q s=some r):r.length+q.length=s.length:=by
 unfold jH at h;split at h
 ·rename_i hp;cases h;obtain⟨t,ht⟩:=List.isPrefixOf_iff_prefix.1 hp;rw[aN,<-ht,aG];omega
 ·cases h
theorem aRj{s b:Bs}(h:oF s=some b):b.length<=21*s.length:=by
 unfold oF at h;split at h
 ·cases h;simp
 cases h1:jH sRaw s with
 | some w =>
  rw[h1]at h;have:=aCn h;have:=pZ h1;omega
 | none =>
  rw[h1]at h;dsimp only at h;cases h2:jH sValue s with
  | none=>rw[h2]at h;cases h
  | some t =>
   rw[h2]at h;dsimp only at h;have hc:=pZ h2;have h7:sValue.length=7:=rfl;have hz:=aGg t;split at h
   ·cases h3:jH [114,101,115,116,32] (t.drop (cY t).2.1)with
    | none=>rw[h3]at h;cases h
    | some w =>
     rw[h3]at h;dsimp only at h;have hc3:=pZ h3;rw[aN]at hc3;cases h4:lD w with
     | none=>rw[h4]at h;cases h
     | some rest =>
      rw[h4]at h;dsimp only at h;have hs:=aCn h4;split at h
      ·cases h
      ·have hb:=aLj h;have hz2:=aGg (t.take (cY t).2.1);rw[aU]at hz2;omega
   ·split at h
    ·cases h
    ·have hb:=aLj h;simp only[bN]at hb;omega
theorem aTm{s r:Bs}{c:Nat}(h:tU s=some (c,r)):r.length<=s.length:=by
 unfold tU at h;simp only at h;split at h
 ·cases h
 split at h
 ·cases h
 ·cases h;rw[aN];omega
theorem aQn{l s:Bs}{ty:Int}{ch:Nat}(h:mP l=some (ty,ch,s)):s.length<=l.length:=by
 unfold mP at h;cases h1:jH iR l with
 | some r =>
  rw[h1]at h;have:=pZ h1;simp only[Option.some.injEq,Prod.mk.injEq]at h;rw[<-h.2.2];omega
 | none =>
  rw[h1]at h;dsimp only at h;cases h2:jH sMain l with
  | none=>rw[h2]at h;cases h
  | some d =>
   rw[h2]at h;dsimp only at h;have:=pZ h2;cases h3:tU d with
   | none=>rw[h3]at h;cases h
   | some p =>
    obtain⟨c,r⟩:=p;rw[h3]at h;have:=aTm h3;simp only[Option.some.injEq,Prod.mk.injEq]at h;rw[<-h.2.2];omega
theorem aVb{s e r:Bs}(h:xW s=some (e,r)):e.length+r.length<=s.length:=by
 unfold xW at h;cases h1:jH sExt s with
 | none=>rw[h1]at h;simp only[Option.some.injEq,Prod.mk.injEq]at h;rw[<-h.1,<-h.2];simp
 | some w =>
  rw[h1]at h;dsimp only at h;have hc:=pZ h1;cases h2:lD (w.take (eT w))with
  | none=>rw[h2]at h;cases h
  | some x =>
   rw[h2]at h;have hs:=aCn h2;have hw:=aCa w;rw[aU]at hs;simp only[Option.some.injEq,Prod.mk.injEq]at h;rw[<-h.1,<-h.2,aN];omega
theorem aJr(f:Fr):(sO f).length=8+f.ext.length+f.body.length:=by
 unfold sO;simp only[aG,aI,eL]
theorem aI5{l:Bs}{i:It}(h:mQ l=some i):(fC i).length<=30*(l.length+1):=by
 have hh:∀p,(iE p).length=8:=λp=>rfl;unfold fC;unfold mQ at h;split at h
 ·cases h;rw[aF rfl,hh];omega
 split at h
 ·cases h;rw[aF rfl,hh];omega
 cases hb:mP l with
 | none=>rw[hb]at h;cases h
 | some p =>
  obtain⟨ty,ch,s⟩:=p;rw[hb]at h;dsimp only at h;have h1:=aQn hb;cases he:xW s with
  | none=>rw[he]at h;cases h
  | some p2 =>
   obtain⟨ext,s2⟩:=p2;rw[he]at h;dsimp only at h;have h2:=aVb he;cases hr:oF s2 with
   | none=>rw[hr]at h;cases h
   | some body =>
    rw[hr]at h;dsimp only at h;have h3:=aRj hr;split at h
    ·cases h
    ·cases h;rw[aD (show¬((2:Int)=1) by decide),aJr];show 8+ext.length+body.length<=_;omega
end Go.Note
namespace Go.Proofs
open Go.Shelf
def Tryz.lays146_ren:Go.Shelf.Ren:=⟨fun|146=>42|221=>74|268=>110|138=>111|143=>112|195=>162|197=>137|218=>163|219=>164|260=>197|217=>204|225=>217|224=>218|267=>219|266=>264|314=>270|n=>n,fun|9=>9|31=>74|3=>3|4=>4|0=>0|105=>179|21=>21|5=>5|46=>73|119=>254|139=>257|138=>256|146=>264|51=>165|n=>n,fun|1=>3|3=>4|4=>5|n=>n⟩
theorem Tryz.lays146:Go.Proofs.Lays.n146 Tryz.prog Tryz.lays146_ren:=by constructor<;>first|kernel_rfl|(intro w;kernel_rfl)|(constructor<;>first|kernel_rfl|(intro w;kernel_rfl)|(constructor<;>first|kernel_rfl|(intro w;kernel_rfl)))
open Go.RowKit in
open Go.RowKit Go.Lib in
theorem Tryz.strings_Split(s sep:ByteArray)(m:Int)(w:World)(hs:s.size<4294967281)(hm:w.cell? ⟨3,0,none⟩=some (.int .i64 m))(h1:1<=sep.size) :
 Calls Tryz.prog 42 #[.string s,.string sep] w λe w' =>
  e=.returned (.slice (some ⟨w.heap.size,0,none⟩) (Lib.countB s sep+1) (Lib.countB s sep+1))/\w'=w.alloc (.cells ((Lib.splitB sep 0 (Lib.countB s sep) s).map Value.string).toArray 9):=Any.strings_Split Tryz.lays146 (by kernel_rfl) s sep m w hs hm h1
end Go.Proofs
namespace Go.Proofs.YtlfhjkgdlclddaaGreatDoor
open Go Go.Sv Go.Note
attribute [local irreducible] aS
structure LX(w:World):Prop where
 lw:LW w
 ml:∃m,w.cell? ⟨3,0,none⟩=some (.int .i64 m)
theorem LX.ch0{w w':World}(h:LX w)(c:Ch (λ_=>False) w w'):LX w':=by
 obtain⟨m,hm⟩:=h.ml;have hz:=h.lw.size;refine⟨h.lw.ch0 c,m,?_⟩;rw[World.cell?_of_block (a:=⟨3,0,none⟩) (c.keep _ (show 3<w.heap.size by omega) id)];exact hm
theorem aQf(l:Bs)(ls:List Bs)(n:Nat)(acc:Bs):jY (l::ls) n acc=if l=[]\/l.head?=some 35 then jY ls (n+1) acc else match mQ l with
 | none=>([],n+1,280)
 | some i=>jY ls (n+1) (acc++fC i):=rfl
theorem aMz{l:Bs}{i:It}(h:mQ l=some i):(i.kind=1/\(i.proto=0\/i.proto=3))\/(i.kind=2/\fN i.fr=0):=by
 have hl:=aGt h;unfold mQ at h;split at h
 ·cases h;exact .inl ⟨rfl,.inl rfl⟩
 split at h
 ·cases h;exact .inl ⟨rfl,.inr rfl⟩
 cases hb:mP l with
 | none=>rw[hb]at h;cases h
 | some p =>
  obtain⟨ty,ch,s⟩:=p;rw[hb]at h;dsimp only at h;cases he:xW s with
  | none=>rw[he]at h;cases h
  | some p2 =>
   obtain⟨ext,s2⟩:=p2;rw[he]at h;dsimp only at h;cases hr:oF s2 with
   | none=>rw[hr]at h;cases h
   | some body =>
    rw[hr]at h;dsimp only at h;split at h
    ·cases h
    ·rename_i hs;cases h;refine .inr ⟨rfl,?_⟩;show fN ⟨ty,(ch:Int),ext,body⟩=0;omega
theorem aSc{α:Type}{f:α->Nat}:∀ {L:List α} {x:α},x∈L->f x<=(L.map f).sum
 | y::L,x,h=>by
  rw[List.map_cons,List.sum_cons];rcases List.mem_cons.1 h with rfl|h
  ·omega
  ·have:=aSc (f:=f) h;omega
theorem aD7:∀L:List Bs,L.length<=(L.map λx=>30*(x.length+1)).sum / 30
 | []=>bQ _
 | x::L=>by
  have:=aD7 L;rw[List.map_cons,List.sum_cons,aI];omega
theorem is8{x:IV}{e:Int}{K:Int->Int->Int->Int->Option Addr->Nat->Nat->Option Addr->Nat->Nat->Int->Prop}(hk:K x.kind x.proto x.fv.ty x.fv.ch x.fv.ep x.fv.ext.length x.fv.ec x.fv.bp x.fv.body.length x.fv.bc e) :
 ∃n1 n2 n3 n4 p n5 c p1 n6 c1 n7,Value.tuple (Array.mk [x.v,.int .i64 e])=.tuple (Array.mk [.agg (Array.mk [.int .i64 n1,.int .i64 n2,.int .i64 n3,.int .i64 n4,.slice p n5 c,.slice p1 n6 c1]),.int .i64 n7])/\K n1 n2 n3 n4 p n5 c p1 n6 c1 n7:=⟨_,_,_,_,_,_,_,_,_,_,_,rfl,hk⟩
theorem uG{l:Bs}(hl:l.length<4294967281){w:World}(hX:LX w){K:Value->World->Prop}
 (hk:∀p n c own w',Gw w w' p n c own none (tV l).1->K (.tuple #[.slice p n c,.int .i64 ((tV l).2.1:Int),.int .i64 ((tV l).2.2:Int)]) w') :
 bK Tryz.prog 18 [.string ⟨l.toArray⟩] w K:=by
 apply aFk;obtain⟨ml,hml⟩:=hX.ml;refine(Tryz.strings_Split ⟨l.toArray⟩ (ByteArray.mk (Array.mk [10])) ml w (by rw[cV];exact hl) hml (by decide)).mono ?_;rintro e w1 ⟨rfl,hw1⟩;refine⟨_,rfl,_,_,_,rfl,?_⟩;have hsp:(Lib.splitB (ByteArray.mk (Array.mk [10])) 0 (Lib.countB ⟨l.toArray⟩ (ByteArray.mk (Array.mk [10]))) ⟨l.toArray⟩).map (·.data.toList)=dY l:=by
  rw[Lib.splitB_data];show Lib.splitK [10] 0 (Lib.count (ByteArray.mk l.toArray).data.toList [10]) (ByteArray.mk l.toArray).data.toList=_;rw[sl2,aAi]
 have hle:(Lib.splitB (ByteArray.mk (Array.mk [10])) 0 (Lib.countB ⟨l.toArray⟩ (ByteArray.mk (Array.mk [10]))) ⟨l.toArray⟩).length=Lib.countB ⟨l.toArray⟩ (ByteArray.mk (Array.mk [10]))+1:=Lib.splitB_all _ (by decide) 0 _ _ rfl;generalize Lib.countB ⟨l.toArray⟩ (ByteArray.mk (Array.mk [10]))=N at hw1 hsp hle ⊢;generalize Lib.splitB (ByteArray.mk (Array.mk [10])) 0 N ⟨l.toArray⟩=ss at hw1 hsp hle;have c1:Ch (λ_=>False) w w1:=by rw[hw1];exact eV w _
 have hat:fI w1 w.heap.size=some (ss.map Value.string):=by
  rw[hw1];unfold fI;rw[heap_alloc_new]
 have hz1:w1.heap.size=w.heap.size+1:=by rw[hw1];simp
 clear hw1;have hsum:=aGq l;have hby:tV l=jY (dY l) 0 []:=rfl;generalize hLS:dY l=LS at hsp hsum hby;have hlen:LS.length=N+1:=by rw[<-hsp,eI,hle]
 have hmem:∀x∈LS,x.length<=l.length:=by
  intro x hx;have:30*(x.length+1)<=(LS.map λx=>30*(x.length+1)).sum:=aSc (f:=λx:Bs=>30*(x.length+1)) hx;omega
 have hNl:N<=l.length:=by
  have:=aD7 LS;omega
 have hstr:∀(k:Nat) (x:Bs),LS[k]?=some x->(ss.map Value.string)[k]?=some (Value.string ⟨x.toArray⟩):=by
  intro k x hx;rw[<-hsp,dH]at hx;rw[dH];cases hs:ss[k]? with
  | none=>rw[hs]at hx;cases hx
  | some y =>
   rw[hs]at hx;cases hx;rfl
 generalize tV l=BR at hk hby;refine⟨λm p1 n1 c1' n2 w2=>∃(k:Nat) (acc:Bs) (own:Option Nat),n2=(k:Int)/\k<=N+1/\m=N+1-k/\Gw w1 w2 p1 n1 c1' own none acc/\acc.length+((LS.drop k).map λx=>30*(x.length+1)).sum<=30*(l.length+1)/\BR=jY (LS.drop k) k acc,
  ⟨N+1,0,[],none,rfl,by omega,by omega,Gw.nil w1,by rw[bS,hsum];simp,hby⟩,?_⟩
 rintro m p1 n1 c1' n2 w2 ⟨k,acc,own,rfl,hkN,rfl,g2,hacc,hB⟩;have c12:=g2.ch0;rw[decide_eq_decide.2 (show((k:Int)<((N+1:Nat):Int))↔k<N+1 by omega)];refine aC (λh=>?_) (λh=>?_)
 rotate_left
 ·have h:=aA h;have:LS.drop k=[]:=List.drop_eq_nil_of_le (by omega);rw[this]at hB;rw[hB]at hk;exact hk _ _ _ _ _ (g2.base c1)
 have h:=aB h;obtain⟨x,hx⟩:∃x,LS[k]?=some x:=⟨_,aK (by omega)⟩;have hxm:=hmem x (bJ hx);have hdrop:LS.drop k=x::LS.drop (k+1):=by
  obtain⟨h1,h2⟩:=List.getElem?_eq_some_iff.1 hx;rw[<-h2];exact dB h1
 rw[hdrop]at hB hacc;rw[List.map_cons,List.sum_cons]at hacc;rw[aQf]at hB;have g2l:=g2.len
 -- the next round
 refine⟨λp2 n3 c2 w3=>∃(acc':Bs) (own':Option Nat),Gw w1 w3 p2 n3 c2 own' none acc'/\acc'.length<=acc.length+30*(x.length+1)/\BR=jY (LS.drop (k+1)) (k+1) acc',?_,by omega,by omega,?_⟩
 ·rintro p2 n3 c2 w3 ⟨acc',own',g3,ha,hB3⟩;rw[aW];exact⟨N+1-(k+1),by omega,k+1,acc',own',by omega,by omega,rfl,g3,by omega,hB3⟩
 rw[aM];simp only[nn,add_at,aL,Nat.mul_one];have hat2:fI w2 w.heap.size=some (ss.map Value.string):=by
  rw[c12.cells (by omega) id];exact hat
 refine⟨⟨x.toArray⟩,?_,?_⟩
 ·show _=_;rw[rQ hat2];exact hstr k x hx
 have hskip:(x=[]\/x.head?=some 35)->BR=jY (LS.drop (k+1)) (k+1) acc:=λh=>by rw[aF h]at hB;exact hB
 have hskip2:(x=[]\/x.head?=some 35)->∃(acc':Bs) (own':Option Nat),Gw w1 w2 p1 n1 c1' own' none acc'/\acc'.length<=acc.length+30*(x.length+1)/\BR=jY (LS.drop (k+1)) (k+1) acc' :=
  λh=>⟨acc,own,g2,by omega,hskip h⟩
 refine⟨λw3=>w3=w2/\¬(x=[]\/x.head?=some 35),?_,?_⟩
 rotate_left
 ·rw[aJo,<-decide_not];refine aC (λh0=>?_) (λh0=>hskip2 (.inl (by simpa using h0)));have h0:x≠[]:=by simpa using h0
  refine⟨Int.le_refl _,by rw[cV];have:=List.length_pos_iff.2 h0;omega,?_⟩;obtain⟨y,t,rfl⟩:=List.exists_cons_of_ne_nil h0;rw[eZ (s:=⟨(y::t).toArray⟩) (n:=0) (x:=y) (by rw[sl2];rfl)];have hq:(((y.toNat:Int) == 35)=true↔y=35):=by
   rw[beq_iff_eq,<-UInt8.toNat_inj];show(y.toNat:Int)=35↔y.toNat=35;omega
  refine aC (λh1=>hskip2 (.inr ?_)) (λh1=>⟨rfl,?_⟩)
  ·rw[hq.1 h1];rfl
  ·rintro(h2|h2)
   ·cases h2
   ·have h2:y=35:=by simpa using h2
    rw[hq.2 h2]at h1;cases h1
 rintro w3 ⟨rfl,hno⟩;rw[aD hno]at hB;refine tI (by omega) (hX.lw.ch0 (c1.trans' c12)) (λi w4 hi hF c4=>?_) (λw4 hi c4=>?_)
 rotate_left
 ·rw[hi]at hB;dsimp only at hB;refine is8 (bD λw5 b5 c5 z5=>?_);simp only[add_at,aL];refine st6 b5 rfl λw11 b11 c11 z11=>?_;refine aC (λ_=>?_) λh=>absurd h (by decide);unfold cF;rw[aW];have c011:Ch (λ_=>False) w w11:=(((c1.trans' c12).trans' c4).trans' c5).trans c11 λj hj q=>by have:=c12.size;have:=c4.size;omega
  rw[hB]at hk;have:=hk none 0 0 none w11 ((Gw.nil w).quiet c011);exact this
 rw[hi]at hB;dsimp only at hB;refine is8 (bD λw5 b5 c5 z5=>?_);simp only[add_at,aL];refine st6 b5 rfl λw11 b11 c11 z11=>?_;refine aC (λh=>absurd h (by decide)) λ_=>?_;have hz4:=c4.size;have hz2:=c12.size;have c25:Ch (λ_=>False) w3 w11:=(c4.trans' c5).trans c11 λj hj q=>by omega
 have c45:Ch (λ_=>False) w4 w11:=c5.trans c11 λj hj q=>by omega
 have hF11:FR w11 i.fv:=hF.ch0 c45;have g11:=g2.quiet c25;have hil:=aI5 hi;refine⟨λp4 n10 c4' w12=>Ch (λ_=>False) w11 w12/\Rd w12 p4 n10 1 (aV (fC i.i)),?_,?_⟩
 ·rintro p4 n10 c4' w12 ⟨c12',r12⟩;have hn10:n10=(fC i.i).length:=by have:=r12.len;rw[bytesV_length]at this;omega
  subst hn10;refine(g11.quiet c12').app r12 (by omega) λp' c' own' w13 g13=>?_;have g13l:=g13.len;exact⟨acc++fC i.i,own',g13,by rw[aG];omega,hB⟩
 ·refine⟨_,aJ b11 0 rfl,?_⟩;have hpr:=aMz hi;rw[dS];refine aC (λhkd=>?_) (λhkd=>?_)
  ·have hkd:i.kind=1:=aB hkd;refine⟨_,aJ b11 1 rfl,?_⟩;have hp:i.proto=0\/i.proto=3:=by
    rcases hpr with h|h
    ·exact h.2
    ·have:i.kind=2:=h.1;omega
   refine aEl (N:=0) (bQ _) λq n c w12 hb=>⟨_,_,_,_,rfl,hb.ch,?_⟩;have hr:=hb.rd;rw[aD]at hr;have:fC i.i=iE i.proto.toNat:=by
    unfold fC;rw[aF (show i.i.kind=1 from hkd)];rfl
   rw[this];exact hr
  ·have hkd:i.kind≠1:=aA hkd;have hp:i.kind=2/\fN i.fv.f=0:=by
    rcases hpr with h|h
    ·exact absurd h.1 hkd
    ·exact h
   refine⟨_,aJ b11 2 rfl,_,aJ b11 3 rfl,_,_,_,aJ b11 4 rfl,_,_,_,aJ b11 5 rfl,?_⟩;refine aEj (N:=0) (x:=i.fv) hF11 (bQ _) λq n c w12 hb hnc=>⟨_,_,_,_,rfl,hb.ch,?_⟩;have hr:=hb.rd;unfold aCm at hr;rw[aD]at hr;have:fC i.i=sO i.fv.f:=by
    unfold fC;rw[aD (show¬i.i.kind=1 from hkd)];rfl
   rw[this];exact hr
end Go.Proofs.YtlfhjkgdlclddaaGreatDoor
