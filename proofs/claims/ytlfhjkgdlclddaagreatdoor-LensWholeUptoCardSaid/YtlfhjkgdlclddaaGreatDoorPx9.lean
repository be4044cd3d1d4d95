/-
  The document's words (longshoreref04): put, digits, escapes, Quote. The document's reading of words (longshoreref04): hex, item, Word, Unquote. The program's reading of words: escape, word, Unquote; and octet's texts. octet's texts: Utf8, Ascii. Names of kinds, letters, numbers of bytes: the program's kindName, named, letters; octet.Get.
-/
import Derived.Test.YtlfhjkgdlclddaaGreatDoorPx8
set_option linter.unusedVariables false
set_option linter.unusedSimpArgs false
namespace Go.Proofs.YtlfhjkgdlclddaaGreatDoor
open Go Go.Sv Go.Note
theorem aWt:InfoIs Tryz.prog 5 1 1 (.int .u8 0):=.of (by kernel_rfl) (by kernel_rfl) (by kernel_rfl)
def Gb(w w':World)(p':Option Addr)(n' c':Nat)(l':List UInt8)(b:Option Nat):Prop :=
 ∃b',Ow w' p' n' c' 1 (aV l') b'/\(∀k,b'=some k->b=some k\/w.heap.size<=k)/\Ch (λk=>b=some k) w w'
theorem aAz(l:List UInt8):l.flatMap (λx=>[Value.int .u8 (x.toNat:Int)])=aV l:=by
 induction l with
 | nil=>rfl
 | cons x l ih=>rw[bU,ih];rfl
theorem Gb.trans{w w1 w2:World}{p1 p2:Option Addr}{n1 n2 c1 c2:Nat}{l2:List UInt8}{b b1:Option Nat}(hb1:∀k,b1=some k->b=some k\/w.heap.size<=k)(c1':Ch (λk=>b=some k) w w1)(h2:Gb w1 w2 p2 n2 c2 l2 b1):Gb w w2 p2 n2 c2 l2 b:=by
 obtain⟨b2,o2,f2,d2⟩:=h2;refine⟨b2,o2,λk hk=>?_,c1'.trans d2 λx hx hs=>?_⟩
 ·rcases f2 k hk with h|h
  ·exact hb1 k h
  ·exact .inr (Nat.le_trans c1'.size h)
 ·rcases hb1 x hs with h|h
  ·exact h
  ·omega
theorem aUr{w:World}{p:Option Addr}{n c:Nat}{l:List UInt8}{b:Option Nat}(ho:Ow w p n c 1 (aV l) b)(s:ByteArray)(hs:l.length+s.size<=2^46){K:Value->World->Prop}
 (hk:∀p' c' w',Gb w w' p' (l++s.data.toList).length c' (l++s.data.toList) b->K (.slice p' (l++s.data.toList).length c') w') :
 bK Tryz.prog 48 [.slice p n c,.string s] w K:=by
 apply sD;have hn:n=l.length:=by have:=ho.1;simpa using this.symm
 subst hn;have hlen:s.data.toList.length=s.size:=by rw[Array.length_toList];rfl
 refine⟨λm p' n' c' i w'=>∃k,k<=s.size/\i=(k:Int)/\m=s.size-k/\n'=(l++s.data.toList.take k).length/\Gb w w' p' n' c' (l++s.data.toList.take k) b,
  ⟨s.size,0,by omega,rfl,by omega,by simp,b,by simpa using ho,λk hk=>.inl hk,Ch.refl _ _⟩,?_⟩
 rintro m p' n' c' i w' ⟨k,hk1,rfl,rfl,rfl,hG⟩;refine aC (λh=>?_) (λh=>?_)
 ·have hlt:k<s.size:=by have:=aB h;omega
  obtain⟨x,hx⟩:=aIn s hlt;refine⟨by omega,by omega,?_⟩;rw[aM,eZ hx];obtain⟨b',o',f',d'⟩:=hG;have hl':(l++s.data.toList.take k).length=l.length+k:=by rw[aG,aU];omega
  refine aBx (g:=λx:UInt8=>[Value.int .u8 (x.toNat:Int)]) (te:=5) (ty:=22) fD aWt rfl (λ_=>rfl) (λx v hv=>by simp only[List.mem_singleton]at hv;subst hv;rfl) (L:=l++s.data.toList.take k) (by rw[aAz];exact o') x (by omega) (by omega) λp2 c2 b2 w2 o2 f2 d2=>?_;simp only[cF];have e:l++s.data.toList.take (k+1)=l++s.data.toList.take k++[x]:=by
   rw[kG,hx,aP];rfl
  refine⟨s.size-(k+1),by omega,k+1,by omega,?_,rfl,by rw[e],?_⟩
  ·rw[aW (n:=(k:Int)+1)];omega
  ·rw[e];rw[aAz]at o2;exact Gb.trans (p1:=p) (n1:=0) (c1:=0) f' d' ⟨b2,o2,f2,d2⟩
 ·have:k=s.size:=by have:=aA h;omega
  subst this;rw[aY (by omega)]at hG ⊢;exact hk _ _ _ hG
theorem qL{x:ByteArray}{l:List UInt8}(h:x.data.toList=l):x.size=l.length:=by
 rw[<-h,Array.length_toList];rfl
theorem fT(s:ByteArray)(a b:Nat):(s.extract a b).data.toList=(s.data.toList.drop a).take (b-a):=by
 rw[ByteArray.data_extract,Array.toList_extract,List.extract_eq_take_drop]
attribute [local irreducible] aS
def aV9(k:Nat)(o:Option (Bs × Nat))(v:Value):Prop :=
 match o with
 | none=>v=.tuple #[.string ⟨#[]⟩,.int .i64 0]
 | some p=>v=.tuple #[.string ⟨p.1.toArray⟩,.int .i64 ((k+p.2:Nat):Int)]
theorem aSf{l:Bs}{y:Bs}{n:Nat}(h:jU l=some (y,n)):y.length<=n:=by
 cases l with
 | nil=>cases h
 | cons x l =>
  have hp:=kV h;simp only[jU]at h;split at h
  ·cases hs:dX l with
   | none=>rw[hs]at h;cases h
   | some q =>
    rw[hs]at h;simp only[Option.map_some,Option.some.injEq,Prod.mk.injEq]at h;obtain⟨rfl,rfl⟩:=h;simpa using hp.1
  ·split at h
   ·cases h
   ·simp only[Option.some.injEq,Prod.mk.injEq]at h;obtain⟨rfl,rfl⟩:=h;rw[aU];omega
theorem aXo(x:UInt8):cL .or .u8 (x.toNat:Int) 32=((x.toNat ||| 32:Nat):Int):=by
 have h:∀x:Fin 256,cL .or .u8 (x.val:Int) 32=((x.val ||| 32:Nat):Int):=by decide +kernel
 exact h ⟨x.toNat,x.toNat_lt⟩
theorem aP8(x:UInt8):((48<=x.toNat/\x.toNat<=57)\/(97<=x.toNat ||| 32/\x.toNat ||| 32<=102))↔(eH x true).isSome=true:=by
 have h:∀x:Fin 256,((48<=x.val/\x.val<=57)\/(97<=x.val ||| 32/\x.val ||| 32<=102))↔((48<=x.val/\x.val<=57)\/(97<=x.val/\x.val<=102)\/(65<=x.val/\x.val<=70)):=by decide +kernel
 have:=h ⟨x.toNat,x.toNat_lt⟩;simp only at this;rw[this];unfold eH;by_cases h1:48<=x.toNat/\x.toNat<=57
 ·rw[aF h1];simp[h1]
 ·rw[aD h1];by_cases h2:97<=x.toNat/\x.toNat<=102
  ·rw[aF h2];simp[h2]
  ·rw[aD h2];by_cases h3:65<=x.toNat/\x.toNat<=70
   ·rw[aF ⟨rfl,h3⟩];simp[h3]
   ·rw[aD (λh=>h3 h.2)];simp[h1,h2,h3]
theorem aEb{x:UInt8}{w:World}{K:Value->World->Prop}(hk:K (.bool (eH x true).isSome) w) :
 bK Tryz.prog 202 [.int .u8 (x.toNat:Int)] w K:=by
 apply zF;rw[aXo];have hd:=aP8 x;generalize x.toNat ||| 32=z at hd ⊢
 generalize (eH x true).isSome=b at hd hk;generalize x.toNat=n at hd ⊢;have yes:(48<=n/\n<=57)\/(97<=z/\z<=102)->K (.bool true) w:=λh=>by rw[hd.1 h]at hk;exact hk
 have no:¬((48<=n/\n<=57)\/(97<=z/\z<=102))->K (.bool false) w:=λh=>by
  cases b with
  | false=>exact hk
  | true=>exact absurd (hd.2 rfl) h
 have letters:¬(48<=n/\n<=57)->aS (decide ((z:Int)>=97)) (K (.bool (decide ((z:Int)<=102))) w) (K (.bool false) w):=by
  intro hn;refine aC (λh=>?_) (λh=>?_)
  ·have h:=aB h;by_cases h2:z<=102
   ·rw[aR (by omega)];exact yes (.inr ⟨by omega,h2⟩)
   ·rw[bB (by omega)];exact no (by omega)
  ·have h:=aA h;exact no (by omega)
 refine aC (λh=>?_) (λh=>?_)
 ·have h:=aB h;refine aC (λh2=>?_) (λh2=>?_)
  ·rw[bG]at h2;have h2:=aA h2;exact letters (by omega)
  ·rw[bF]at h2;have h2:=aB h2;exact yes (.inl ⟨by omega,by omega⟩)
 ·have h:=aA h;exact letters (by omega)
theorem uE{x:UInt8}{n:Nat}(hx:eH x true=some n){w:World}{K:Value->World->Prop}(hk:K (.int .i64 (n:Int)) w) :
 bK Tryz.prog 203 [.int .u8 (x.toNat:Int)] w K:=by
 apply aDd;refine(Tryz.strings_IndexByte _ _ _).mono ?_;rintro e w' ⟨rfl,rfl⟩;refine⟨_,rfl,_,rfl,?_⟩;rw[aXo];have h:∀x:Fin 256,(match eH (UInt8.ofNat x.val) true with
  | some n=>decide (Lib.indexByte (ByteArray.mk (Array.mk [(48:UInt8),49,50,51,52,53,54,55,56,57,97,98,99,100,101,102])).data.toList ((x.val ||| 32:Nat):Int).toNat.toUInt8=(n:Int))
  | none=>true)=true:=by decide +kernel
 have h1:=h ⟨x.toNat,x.toNat_lt⟩;simp only[UInt8.ofNat_toNat]at h1;rw[hx]at h1;have h2:=aB h1;rw[h2];exact hk
def SlR(o:Option (UInt8 × Nat))(v:Value):Prop :=
 match o with
 | none=>v=.tuple #[.int .u8 0,.int .i64 0]
 | some p=>v=.tuple #[.int .u8 (p.1.toNat:Int),.int .i64 (p.2:Int)]
theorem jB(y:UInt8)(n:Nat)(hn:n<256):((y.toNat:Int) == (n:Int))=decide (y=n.toUInt8):=by
 have:(y=n.toUInt8)↔y.toNat=n:=by
  rw[<-UInt8.toNat_inj];simp only[Nat.toUInt8,UInt8.toNat_ofNat'];omega
 by_cases h:y.toNat=n
 ·rw[h,aR (this.2 h)];simp
 ·rw[bB (λe=>h (this.1 e))];simp;omega
theorem aLl(m n:Nat)(hm:m<16)(hn:n<16):IntKind.wrap .u8 (cL .or .i64 (IntKind.i64.wrap ((m:Int)*2^4)) (n:Int))=((16*m+n).toUInt8.toNat:Int):=by
 have h:∀m n:Fin 16,IntKind.wrap .u8 (cL .or .i64 (IntKind.i64.wrap ((m.val:Int)*2^4)) (n.val:Int))=((16*m.val+n.val).toUInt8.toNat:Int):=by decide +kernel
 exact h ⟨m,hm⟩ ⟨n,hn⟩
theorem aP6{s:ByteArray}{x:UInt8}{t:List UInt8}(hl:s.data.toList=x::t){w:World}{K:Value->World->Prop}
 (hk:∀v w',Ch (λ_=>False) w w'->SlR (dX t) v->K v w'):bK Tryz.prog 144 [.string s] w K:=by
 apply aDe;have hsz:s.size=t.length+1:=by rw[qL hl];rfl
 obtain⟨J,hJ⟩:∃J:World->Prop,J=λw'=>Ch (λ_=>False) w w'/\dX t=none:=⟨_,rfl⟩;refine⟨J,λw' hj=>by rw[hJ]at hj;exact hk _ _ hj.1 (by rw[hj.2];rfl),?_⟩;have toJ:∀w',Ch (λ_=>False) w w'->dX t=none->J w':=λw' hc h=>by rw[hJ];exact⟨hc,h⟩
 refine aC (λh=>?_) (λh=>?_)
 ·have h:=aB h;have:t=[]:=bI (by omega);exact toJ w (Ch.refl _ _) (by rw[this];rfl)
 ·have h:=aA h;obtain⟨y,t',rfl⟩:∃y t',t=y::t':=by
   cases t with
   | nil=>simp at hsz;omega
   | cons y t'=>exact⟨y,t',rfl⟩
  have hR1:cH s 1=(y.toNat:Int):=eZ (by rw[hl];rfl);rw[hR1];simp only[aI]at hsz;have y34:((y.toNat:Int) == 34)=decide (y=34):=jB y 34 (by omega);have y92:((y.toNat:Int) == 92)=decide (y=92):=jB y 92 (by omega);have y110:((y.toNat:Int) == 110)=decide (y=110):=jB y 110 (by omega);have y120:((y.toNat:Int) == 120)=decide (y=120):=jB y 120 (by omega);rw[y34,y92,y110,y120];simp only[cF];have same:(y=34\/y=92)->K (.tuple #[.int .u8 (y.toNat:Int),.int .i64 2]) w:=λhy=>hk _ _ (Ch.refl _ _) (by simp only[dX];rw[aF hy];rfl);refine⟨by omega,by omega,?_⟩;refine aC (λh1=>?_) (λh1=>?_)
  ·rw[bG]at h1;have h1:=aA h1;refine⟨by omega,by omega,?_⟩;refine aC (λh2=>⟨by omega,by omega,same (.inr (aB h2))⟩) (λh2=>?_);have h2:=aA h2;have hj:¬(y=34\/y=92):=λh=>h.elim h1 h2;refine⟨by omega,by omega,?_⟩;refine aC (λh3=>?_) (λh3=>?_)
   ·have h3:=aB h3;exact hk _ _ (Ch.refl _ _) (by simp only[dX];rw[aD hj,aF h3];rfl)
   have h3:=aA h3;refine⟨by omega,by omega,?_⟩;refine aC (λh5=>?_) (λh5=>toJ w (Ch.refl _ _) ?_)
   ·have h5:=aB h5;refine aC (λh4=>?_) (λh4=>toJ w (Ch.refl _ _) ?_)
    ·have h4:=aB h4;obtain⟨a,b,u,rfl⟩:∃a b u,t'=a::b::u:=by
      rcases t' with _|⟨a,_|⟨b,u⟩⟩
      ·simp at hsz;omega
      ·simp at hsz;omega
      ·exact⟨a,b,u,rfl⟩
     have hR2:cH s 2=(a.toNat:Int):=eZ (by rw[hl];rfl);have hR3:cH s 3=(b.toNat:Int):=eZ (by rw[hl];rfl);rw[hR2,hR3];have sl:dX (y::a::b::u)=match eH a true,eH b true with
      | some m,some n=>some ((16*m+n).toUInt8,4)
      | _,_=>none:=by
      simp only[dX];rw[aD hj,aD h3,aF h5];cases eH a true<;>cases eH b true<;>rfl
     have lt16:∀z n,eH z true=some n->n<16:=by
      intro z n h;unfold eH at h;split at h
      ·cases h;omega
      ·split at h
       ·cases h;omega
       ·split at h
        ·cases h;omega
        ·cases h
     refine⟨by omega,by omega,(by kernel_rfl),aEb ⟨_,rfl,?_⟩⟩;cases ha:eH a true with
     | none =>
      refine aC (λh=>absurd h (by decide)) (λ_=>toJ w (Ch.refl _ _) ?_);rw[sl,ha]
     | some m =>
      refine aC (λ_=>?_) (λh=>absurd h (by simp));refine⟨by omega,by omega,(by kernel_rfl),aEb ⟨_,rfl,?_⟩⟩;cases hb:eH b true with
      | none =>
       refine aC (λh=>absurd h (by decide)) (λ_=>toJ w (Ch.refl _ _) ?_);rw[sl,ha,hb]
      | some n =>
       refine aC (λ_=>?_) (λh=>absurd h (by simp));refine⟨by omega,by omega,by omega,by omega,uE ha ⟨_,rfl,by omega,uE hb ⟨_,rfl,?_⟩⟩⟩;rw[aLl m n (lt16 a m ha) (lt16 b n hb)];exact hk _ _ (Ch.drew w) (by rw[sl,ha,hb];rfl)
    ·have h4:=aA h4;simp only[dX];rw[aD hj,aD h3];rcases t' with _|⟨a,_|⟨b,u⟩⟩
     ·simp
     ·simp
     ·simp at hsz;omega
   ·have h5:=aA h5;simp only[dX];rw[aD hj,aD h3,aD h5]
  ·rw[bF]at h1;exact⟨by omega,by omega,same (.inl (aB h1))⟩
def UT(w:World):Prop:=Lib.Utf8Tabs 4 5 w
theorem fF{w w':World}(h:RowKit.Below w.heap.size w w'):Ch (λ_=>False) w w':=⟨h.os,h.tape,h.output,h.size,λb hb _=>h.block b hb⟩
theorem aNl{s:ByteArray}(hs:s.size<=2^40){x0:UInt8}{t:List UInt8}(hl:s.data.toList=x0::t)(h34:x0=34){w:World}(hU:UT w)(hw2:8<=w.heap.size){K:Value->World->Prop}
 (hk:∀v w',Ch (λ_=>False) w w'->aV9 0 (gE s.data.toList) v->K v w'):bK Tryz.prog 104 [.string s] w K:=by
 apply aH3;subst h34;have hlen:s.data.toList.length=s.size:=by rw[Array.length_toList];rfl
 have hsz:s.size=t.length+1:=by rw[qL hl];rfl
 have hT:BT TB:=.inl rfl;rw[hl,nG,aF rfl]at hk;unfold bP;have hB0:BAt (w.alloc (.cells [Value.pointer none,Value.slice none 0 0].toArray 56)) TB w.heap.size [] none:=BAt.new;have c0:Ch (λ_=>False) w (w.alloc (.cells [Value.pointer none,Value.slice none 0 0].toArray 56)):=eV w _;generalize w.alloc (.cells [Value.pointer none,Value.slice none 0 0].toArray 56)=w1 at hB0 c0 ⊢;have hd1:s.data.toList.drop 1=t:=by rw[hl];rfl
 refine⟨λm i w2=>∃q out g,1<=q/\q<=s.size/\i=((q:Nat):Int)/\m=s.size-q/\out.length<=q/\BAt w2 TB w.heap.size out g/\(∀z,g=some z->w.heap.size<=z)/\Ch (λ_=>False) w w2/\wd t=(wd (s.data.toList.drop q)).map λp=>(out++p.1,(q-1)+p.2),
  ⟨s.size-1,1,[],none,by omega,by omega,rfl,rfl,by simp,hB0,λz hz=>(by cases hz),c0,?_⟩,?_⟩
 ·rw[hd1];cases wd t<;>simp
 rintro m i w2 ⟨q,out,g,hq1,hq2,rfl,rfl,hol,B2,hg2,c2,he⟩;have none':∀w',Ch (λ_=>False) w w'->wd t=none->K (.tuple #[.string ⟨#[]⟩,.int .i64 0]) w':=λw' hc h=>hk _ _ hc (by rw[h];rfl);have UT':∀w',Ch (λ_=>False) w w'->UT w':=by
  intro w' hc;have e:∀b o,b<8->w'.cell? ⟨b,o,none⟩=w.cell? ⟨b,o,none⟩:=λb o hb=>World.cell?_of_block (a:=⟨b,o,none⟩) (hc.keep b (by omega) λh=>h);refine⟨λc hcc=>by rw[e _ _ (by omega)];exact hU.1 c hcc,λi hi=>?_⟩;rw[e _ _ (by omega),e _ _ (by omega)];exact hU.2 i hi
 refine aC (λh=>?_) (λh=>?_)
 ·have hlt:q<s.size:=by have:=aB h;omega
  obtain⟨x,hx⟩:=aIn s hlt;have hu:s.data.toList.drop q=x::s.data.toList.drop (q+1):=by
   rw[dB (by omega)];congr 1;rw[aK (by omega)]at hx;exact bC hx
  generalize s.data.toList.drop (q+1)=u at hu;have hul:(x::u).length=s.size-q:=by rw[<-hu,aN,hlen]
  refine⟨by omega,by omega,?_⟩;simp only[cF];rw[aM,eZ hx];have x34:((x.toNat:Int) == 34)=decide (x=34):=jB x 34 (by omega);have x92:((x.toNat:Int) == 92)=decide (x=92):=jB x 92 (by omega);rw[x34,x92];have hb:=B2.lt;have hbw:∀w3 out',BW w2 w3 TB w.heap.size out' g->∃g',BAt w3 TB w.heap.size out' g'/\(∀z,g'=some z->w.heap.size<=z)/\Ch (λ_=>False) w w3:=by
   rintro w3 out' ⟨g',A',n',c'⟩;refine⟨g',A',λz hz=>?_,c2.trans c' λy hy hs=>?_⟩
   ·rcases n' z hz with h|h
    ·exact hg2 z h
    ·have:=c2.size;omega
   ·rcases hs with h|h
    ·omega
    ·have:=hg2 y h;omega
  refine aC (λh1=>?_) (λh1=>?_)
  ·have h1:=aB h1;refine uR B2 (by omega) λw3 c3=>⟨_,rfl,?_⟩;rw[aW (n:=(q:Int)+1)];refine hk _ _ (c2.trans c3 λy hy hs=>by have:=hg2 y hs;omega) ?_;rw[he,hu,mR,aF h1];simp only[Option.map_some,aV9,List.append_nil];rw[show(q:Int)+1=((0+(q-1+1+1):Nat):Int) by omega]
  have h1:=aA h1;rw[hu,mR,aD h1]at he
  -- an item was read
  have fin:∀w3 y n,jU (x::u)=some (y,n)->BW w2 w3 TB w.heap.size (out++y) g->∃m',m'<s.size-q/\∃q' out' g',1<=q'/\q'<=s.size/\(q:Int)+(n:Int)=((q':Nat):Int)/\m'=s.size-q'/\out'.length<=q'/\BAt w3 TB w.heap.size out' g'/\(∀z,g'=some z->w.heap.size<=z)/\Ch (λ_=>False) w w3/\wd t=(wd (s.data.toList.drop q')).map λp=>(out'++p.1,(q'-1)+p.2):=by
   intro w3 y n hi hB;obtain⟨g',A',n',c'⟩:=hbw w3 _ hB;have hp:=kV hi;have hyl:=aSf hi;rw[hul]at hp;refine⟨s.size-(q+n),by omega,q+n,out++y,g',by omega,by omega,by omega,rfl,by rw[aG];omega,A',n',c',?_⟩;rw[he,hi,<-hu];have e:List.drop n (List.drop q s.data.toList)=s.data.toList.drop (q+n):=List.drop_drop ..;simp only[e];cases wd (s.data.toList.drop (q+n))with
   | none=>rfl
   | some p=>simp[aP];omega
  have bad:∀w',Ch (λ_=>False) w2 w'->jU (x::u)=none->K (.tuple #[.string ⟨#[]⟩,.int .i64 0]) w':=by
   intro w' hc hi;refine none' w' (c2.trans' hc) ?_;rw[he,hi];rfl
  have hR:(s.extract q s.size).data.toList=x::u:=by
   rw[fT,hu,aY (by omega)]
  refine aC (λh2=>?_) (λh2=>?_)
  ·have h2:=aB h2;refine⟨by omega,by omega,?_⟩;refine aP6 hR λv w3 c3 hv=>?_;have hit:jU (x::u)=(dX u).map λp=>([p.1],p.2):=by simp only[jU];rw[aF h2]
   cases hsl:dX u with
   | none =>
    rw[hsl]at hv hit;exact⟨_,_,hv,aC (λ_=>bad w3 c3 hit) (λh=>absurd h (by decide))⟩
   | some p =>
    obtain⟨z,n⟩:=p;rw[hsl]at hv hit;have hp:=kV hit;refine⟨_,_,hv,aC (λh=>?_) (λ_=>?_)⟩
    ·have:=eq_of_beq h;simp only at this;omega
    ·have B3:=B2.ch c3 (λh=>h) λ_ _ h=>h;refine gG B3 hT z (by omega) λw4 B4=>⟨_,rfl,?_⟩;rw[hul]at hp;simp only;rw[aW (n:=(q:Int)+(n:Int))];refine fin w4 [z] n hit ?_;exact BW.trans hb (c3.mono λ_ _ h=>h.elim) (λk hk=>.inl hk) B4
  ·have h2:=aA h2;refine⟨by omega,by omega,?_⟩;have hRs:(s.extract q s.size).size=u.length+1:=by rw[qL hR];rfl
   refine(Tryz.utf8_DecodeRuneInString _ w2 (UT' w2 c2)).mono ?_;rintro e w3 ⟨rfl,hbel⟩;have c3:=fF hbel;obtain⟨rr,n,hdec,hsp⟩:∃rr n,Lib.decodeGo (s.extract q s.size)=(rr,n)/\((chr (x::u)=0/\rr=65533/\n=1)\/(aNk (x::u) rr n/\n≠0)):=by
    unfold Lib.decodeGo;rw[aD];rcases tT (s:=s.extract q s.size) (i:=0) (by omega)with⟨h1,h2⟩|⟨r,n,h1,h2,h3⟩
    ·exact⟨_,_,h2,.inl ⟨by rw[bS,hR]at h1;exact h1,rfl,rfl⟩⟩
    ·exact⟨_,_,h1,.inr ⟨by rw[bS,hR]at h2;exact h2,h3⟩⟩
   rw[hdec];refine⟨_,rfl,_,_,rfl,?_⟩;have hit:jU (x::u)=if x.toNat<32\/chr (x::u)=0 then none else some ((x::u).take (chr (x::u)),chr (x::u)):=by simp only[jU];rw[aD h2]
   obtain⟨J,hJ⟩:∃J:World->Prop,J=λw'=>w'=w3/\n=chr (x::u)/\n≠0/\¬x.toNat<32:=⟨_,rfl⟩;have small:aNk (x::u) rr n->(rr<32↔x.toNat<32)/\(rr=65533->n≠1):=by
    rintro⟨hch,he2,_,_,h5⟩;have big:n≠1->127<x.toNat:=λhn=>by
     have hc:=lP (x::u);have e0:ch (x::u) 0=x.toNat:=rfl;by_cases hle:x.toNat<=127
     ·rw[aF (by rw[e0];exact hle)]at hc;omega
     ·omega
    rcases h5 with⟨hn,h,hh⟩|⟨hn,h,h',a,b,t2,e,_,ha1,_⟩|⟨hn,h,h'⟩|⟨hn,h⟩
    ·have:x.toNat=rr:=by simpa using hh
     omega
    all_goals
     have:=big (by omega);omega
   refine⟨J,?_,?_⟩
   ·intro w4 hj;rw[hJ]at hj;obtain⟨rfl,hn,hn0,hx32⟩:=hj;have hcl:=rP (x::u);rw[hul]at hcl;rw[aW (n:=(q:Int)+(n:Int))];refine⟨by omega,by omega,by omega,by omega,?_⟩;rw[show((q:Int)+(n:Int)).toNat=q+n by omega];have hE:(s.extract q (q+n)).data.toList=(x::u).take n:=by rw[fT,hu,Nat.add_sub_cancel_left]
    have B3:=B2.ch c3 (λh=>h) λ_ _ h=>h;refine iW B3 hT _ (by rw[qL hE,aU];omega) λw5 B5=>⟨_,_,rfl,?_⟩;rw[hE]at B5;refine fin w5 ((x::u).take n) n ?_ (BW.trans hb (c3.mono λ_ _ h=>h.elim) (λk hk=>.inl hk) B5);rw[hit,aD,hn]
   ·rcases hsp with⟨h3,rfl,rfl⟩|⟨h3,h4⟩
    ·refine aC (λ_=>?_) (λh=>absurd h (by decide));refine aC (λ_=>?_) (λh=>absurd h (by decide));refine aC (λ_=>?_) (λh=>absurd h (by decide));exact bad w3 c3 (by rw[hit,aF (.inr h3)])
    ·obtain⟨s1,s2⟩:=small h3;have toJ:¬x.toNat<32->J w3:=λh=>by rw[hJ];exact⟨rfl,h3.1,h4,h⟩
     refine aC (λh=>?_) (λh=>?_)
     ·rw[bG]at h;have h:=aA h;have hx32:¬x.toNat<32:=by omega
      refine aC (λh5=>?_) (λ_=>toJ hx32);refine aC (λh6=>?_) (λ_=>toJ hx32);have h5:=eq_of_beq h5;have h6:=eq_of_beq h6;exact absurd (show n=1 by omega) (s2 (by omega))
     ·rw[bF]at h;have h:=aB h;exact bad w3 c3 (by rw[hit,aF (.inl (by omega))])
 ·have hge:¬q<s.size:=by have:=aA h;omega
  refine none' w2 c2 ?_;rw[he,bW (by omega),aWc];rfl
theorem aNj{s:ByteArray}(hs:s.size<=2^40){w:World}(hU:UT w)(hw2:8<=w.heap.size){K:Value->World->Prop}
 (hk:∀w',Ch (λ_=>False) w w'->(match gE s.data.toList with
   | some p=>if p.2=s.size then K (.tuple #[.string ⟨p.1.toArray⟩,.bool true]) w' else K (.tuple #[.string ⟨#[]⟩,.bool false]) w'
   | none=>K (.tuple #[.string ⟨#[]⟩,.bool false]) w')):bK Tryz.prog 70 [.string s] w K:=by
 apply aBa;refine(Tryz.strings_HasPrefix _ _ _).mono ?_;rintro e w' ⟨rfl,rfl⟩;refine⟨_,rfl,_,rfl,?_⟩;have hp:Lib.hasPrefix s.data.toList (ByteArray.mk (Array.mk [(34:UInt8)])).data.toList=true↔∃t,s.data.toList=34::t:=by
  unfold Lib.hasPrefix;cases s.data.toList with
  | nil=>simp[List.isPrefixOf]
  | cons x t =>
   constructor
   ·intro h;have h1:((34:UInt8) == x)=true:=by
     simp only[List.isPrefixOf,Bool.and_true]at h;exact h
    exact⟨t,by rw[<-eq_of_beq h1]⟩
   ·rintro⟨t2,h⟩;cases h;rfl
 refine aC (λh=>?_) (λh=>?_)
 ·have hno:¬∃t,s.data.toList=34::t:=λh2=>by rw[hp.2 h2]at h;cases h
  have:=hk w' (Ch.refl _ _);have hn:gE s.data.toList=none:=by
   cases hl:s.data.toList with
   | nil=>rfl
   | cons x t =>
    rw[nG];rw[aD (λe=>hno ⟨t,by rw[hl,e]⟩)]
  rw[hn]at this;exact this
 ·obtain⟨t,ht⟩:=hp.1 (by rw[bF]at h;exact h);refine aNl hs ht rfl hU hw2 λv w1 c1 hv=>?_;have hk:=hk w1 c1;cases ho:gE s.data.toList with
  | none =>
   rw[ho]at hv hk;refine⟨_,_,hv,?_⟩;refine aC (λ_=>hk) (λh2=>absurd h2 (by
    have:s.size=t.length+1:=by rw[qL ht];rfl
    simp;omega))
  | some p =>
   rw[ho]at hv hk;refine⟨_,_,hv,?_⟩;simp only[aL];by_cases h3:p.2=s.size
   ·simp only[aF h3]at hk;exact aC (λh2=>absurd h2 (by simp[h3])) (λ_=>hk)
   ·simp only[aD h3]at hk;exact aC (λ_=>hk) (λh2=>absurd h2 (by simp;omega))
theorem UT.ch{w w':World}(hU:UT w)(hw2:8<=w.heap.size){S:Nat->Prop}(hc:Ch S w w')(h0:¬S 4)(h1:¬S 5):UT w':=by
 have e0:∀o,w'.cell? ⟨4,o,none⟩=w.cell? ⟨4,o,none⟩:=λo=>World.cell?_of_block (a:=⟨4,o,none⟩) (hc.keep 4 (by omega) h0);have e1:∀o,w'.cell? ⟨5,o,none⟩=w.cell? ⟨5,o,none⟩:=λo=>World.cell?_of_block (a:=⟨5,o,none⟩) (hc.keep 5 (by omega) h1);refine⟨λc hcc=>by rw[e0];exact hU.1 c hcc,λi hi=>?_⟩;rw[e1,e1];exact hU.2 i hi
theorem aDr{s:ByteArray}(hs:s.size<=2^48){w:World}(hU:UT w)(hw2:8<=w.heap.size){K:Value->World->Prop}(hk:∀r w',Ch (λ_=>False) w w'->aUd (lB s.data.toList) r->K (.int .i64 r) w') :
 bK Tryz.prog 207 [.string s] w K:=by
 apply aFd;have hlen:s.data.toList.length=s.size:=by rw[Array.length_toList];rfl
 refine⟨λm i w'=>∃k,k<=s.size/\i=(k:Int)/\m=s.size-k/\Ch (λ_=>False) w w'/\lB s.data.toList=lB (s.data.toList.drop k),⟨s.size,0,by omega,rfl,by omega,Ch.refl _ _,by rw[bS]⟩,?_⟩;rintro m i w1 ⟨k,hk1,rfl,rfl,c1,he⟩;refine aC (λh=>?_) (λh=>?_)
 ·have hlt:k<s.size:=by have:=aB h;omega
  refine⟨by omega,by omega,?_⟩;rw[aM];obtain⟨l,hl⟩:∃l,l=s.data.toList.drop k:=⟨_,rfl⟩;have hll:l.length=s.size-k:=by rw[hl,aN,hlen]
  have hne:l≠[]:=λe=>by rw[e]at hll;simp only[bN]at hll;omega
  have hR:(s.extract k s.size).data.toList=l:=by rw[fT,hl,aY (by rw[aN,hlen];omega)]
  have hRs:(s.extract k s.size).size=l.length:=qL hR;have hle:=rP l;refine(Tryz.utf8_DecodeRuneInString _ w1 (hU.ch hw2 c1 (λh=>h) λh=>h)).mono ?_;rintro e w3 ⟨rfl,hbel⟩;have c3:=fF hbel;obtain⟨rr,n,hdec,hsp⟩:∃rr n,Lib.decodeGo (s.extract k s.size)=(rr,n)/\((chr l=0/\rr=65533/\n=1)\/(aNk l rr n/\n≠0)):=by
   unfold Lib.decodeGo;rw[aD];rcases tT (s:=s.extract k s.size) (i:=0) (by omega)with⟨h1,h2⟩|⟨r,n,h1,h2,h3⟩
   ·exact⟨_,_,h2,.inl ⟨by rw[bS,hR]at h1;exact h1,rfl,rfl⟩⟩
   ·exact⟨_,_,h1,.inr ⟨by rw[bS,hR]at h2;exact h2,h3⟩⟩
  rw[hdec];refine⟨_,rfl,_,_,rfl,?_⟩;rw[<-hl,aL2 l hne]at he;obtain⟨J,hJ⟩:∃J:World->Prop,J=λw'=>w'=w3/\n=chr l/\n≠0:=⟨_,rfl⟩;refine⟨J,?_,?_⟩
  ·intro w4 hj;rw[hJ]at hj;obtain⟨rfl,hn,hn0⟩:=hj;simp only[cF];rw[aW (n:=(k:Int)+(n:Int))];refine⟨s.size-(k+n),by omega,k+n,by omega,by omega,rfl,c1.trans' c3,?_⟩;rw[he,hl,List.drop_drop,<-hl,<-hn];simp[hn0]
  ·rcases hsp with⟨h1,rfl,rfl⟩|⟨h1,h2⟩
   ·refine aC (λ_=>?_) (λh=>absurd h (by decide));refine aC (λ_=>?_) (λh=>absurd h (by decide));rw[h1]at he;simp at he;exact hk _ _ (c1.trans' c3) ⟨λh=>(by rw[he]at h;cases h),λ_=>by omega⟩
   ·have toJ:J w3:=by rw[hJ];exact⟨rfl,h1.1,h2⟩
    refine aC (λh3=>?_) (λ_=>toJ);refine aC (λh4=>?_) (λ_=>toJ);have h3:=eq_of_beq h3;have h4:=eq_of_beq h4;obtain⟨_,_,_,_,h5⟩:=h1;rcases h5 with⟨_,h,_⟩|⟨h,_⟩|⟨h,_⟩|⟨h,_⟩<;>omega
 ·have:k=s.size:=by have:=aA h;omega
  subst this;rw[bW (by omega),aO7]at he;exact hk _ _ c1 ⟨λ_=>rfl,λh=>(by rw[he]at h;cases h)⟩
theorem zK{s:ByteArray}(hs:s.size<=2^48){w:World}{K:Value->World->Prop}(hk:∀r,aUd (jI s.data.toList) r->K (.int .i64 r) w) :
 bK Tryz.prog 208 [.string s] w K:=by
 apply aDc;have hlen:s.data.toList.length=s.size:=by rw[Array.length_toList];rfl
 refine⟨λm i w'=>∃k,k<=s.size/\i=(k:Int)/\m=s.size-k/\w'=w/\jI s.data.toList=jI (s.data.toList.drop k),⟨s.size,0,by omega,rfl,by omega,rfl,by rw[bS]⟩,?_⟩;rintro m i w' ⟨k,hk1,rfl,rfl,rfl,he⟩;refine aC (λh=>?_) (λh=>?_)
 ·have hlt:k<s.size:=by have:=aB h;omega
  obtain⟨x,hx⟩:=aIn s hlt;have hd:s.data.toList.drop k=x::s.data.toList.drop (k+1):=by
   rw[dB (by omega)];congr 1;rw[aK (by omega)]at hx;exact bC hx
  refine⟨by omega,by omega,?_⟩;rw[aM,eZ hx];rw[hd]at he;unfold jI at he;rw[List.all_cons]at he;refine aC (λh1=>?_) (λh1=>?_)
  ·have h2:¬x.toNat<=127:=by have:=aB h1;omega
   rw[bB h2,Bool.false_and]at he;exact hk _ ⟨λh=>(by unfold jI at h;rw[he]at h;cases h),λ_=>by omega⟩
  ·have h2:x.toNat<=127:=by have:=aA h1;omega
   rw[aR h2,Bool.true_and]at he;refine⟨s.size-(k+1),by omega,k+1,by omega,?_,rfl,rfl,he⟩;rw[aW (n:=(k:Int)+1)];omega
 ·have:k=s.size:=by have:=aA h;omega
  subst this;rw[bW (by omega)]at he;exact hk _ ⟨λ_=>rfl,λh=>(by rw[he]at h;cases h)⟩
def nameV:List Value:=[.string (ByteArray.mk (Array.mk [(110:UInt8),117,108,108])),.string (ByteArray.mk (Array.mk [(98:UInt8),111,111,108])),.string (ByteArray.mk (Array.mk [(117:UInt8),98,121,116,101])),.string (ByteArray.mk (Array.mk [(117:UInt8),115,104,111,114,116])),.string (ByteArray.mk (Array.mk [(117:UInt8),105,110,116])),.string (ByteArray.mk (Array.mk [(117:UInt8),108,111,110,103])),.string (ByteArray.mk (Array.mk [(98:UInt8),121,116,101])),.string (ByteArray.mk (Array.mk [(115:UInt8),104,111,114,116])),.string (ByteArray.mk (Array.mk [(105:UInt8),110,116])),.string (ByteArray.mk (Array.mk [(108:UInt8),111,110,103])),.string (ByteArray.mk (Array.mk [(102:UInt8),108,111,97,116])),.string (ByteArray.mk (Array.mk [(100:UInt8),111,117,98,108,101])),.string (ByteArray.mk (Array.mk [(100:UInt8),101,99,51,50])),.string (ByteArray.mk (Array.mk [(100:UInt8),101,99,54,52])),.string (ByteArray.mk (Array.mk [(100:UInt8),101,99,49,50,56])),.string (ByteArray.mk (Array.mk [(99:UInt8),104,97,114])),.string (ByteArray.mk (Array.mk [(116:UInt8),105,109,101])),.string (ByteArray.mk (Array.mk [(117:UInt8),117,105,100])),.string (ByteArray.mk (Array.mk [(98:UInt8),105,110,97,114,121])),.string (ByteArray.mk (Array.mk [(115:UInt8),116,114,105,110,103])),.string (ByteArray.mk (Array.mk [(115:UInt8),121,109,98,111,108])),.string (ByteArray.mk (Array.mk [(108:UInt8),105,115,116])),.string (ByteArray.mk (Array.mk [(109:UInt8),97,112])),.string (ByteArray.mk (Array.mk [(97:UInt8),114,114,97,121])),.string (ByteArray.mk (Array.mk [(100:UInt8),101,115,99,114,105,98,101,100]))]
theorem aGn:nameV.length=25:=rfl
theorem aX9{w:World}{k:Nat}{zs:List Value}{K:World->Prop}(hb:blk w k=some zs)(hl:zs.length=25)(hk:∀w',blk w' k=some nameV->Ch (·=k) w w'->w'.heap.size=w.heap.size->K w') :
 Sv.st w ⟨k,0,none⟩ (.string (ByteArray.mk (Array.mk [(110:UInt8),117,108,108]))) λw1=>Sv.st w1 ⟨k,1,none⟩ (.string (ByteArray.mk (Array.mk [(98:UInt8),111,111,108]))) λw2=>Sv.st w2 ⟨k,2,none⟩ (.string (ByteArray.mk (Array.mk [(117:UInt8),98,121,116,101]))) λw3=>Sv.st w3 ⟨k,3,none⟩ (.string (ByteArray.mk (Array.mk [(117:UInt8),115,104,111,114,116]))) λw4=>Sv.st w4 ⟨k,4,none⟩ (.string (ByteArray.mk (Array.mk [(117:UInt8),105,110,116]))) λw5=>Sv.st w5 ⟨k,5,none⟩ (.string (ByteArray.mk (Array.mk [(117:UInt8),108,111,110,103]))) λw6=>Sv.st w6 ⟨k,6,none⟩ (.string (ByteArray.mk (Array.mk [(98:UInt8),121,116,101]))) λw7=>Sv.st w7 ⟨k,7,none⟩ (.string (ByteArray.mk (Array.mk [(115:UInt8),104,111,114,116]))) λw8=>Sv.st w8 ⟨k,8,none⟩ (.string (ByteArray.mk (Array.mk [(105:UInt8),110,116]))) λw9=>Sv.st w9 ⟨k,9,none⟩ (.string (ByteArray.mk (Array.mk [(108:UInt8),111,110,103]))) λw10=>Sv.st w10 ⟨k,10,none⟩ (.string (ByteArray.mk (Array.mk [(102:UInt8),108,111,97,116]))) λw11=>Sv.st w11 ⟨k,11,none⟩ (.string (ByteArray.mk (Array.mk [(100:UInt8),111,117,98,108,101]))) λw12=>Sv.st w12 ⟨k,12,none⟩ (.string (ByteArray.mk (Array.mk [(100:UInt8),101,99,51,50]))) λw13=>Sv.st w13 ⟨k,13,none⟩ (.string (ByteArray.mk (Array.mk [(100:UInt8),101,99,54,52]))) λw14=>Sv.st w14 ⟨k,14,none⟩ (.string (ByteArray.mk (Array.mk [(100:UInt8),101,99,49,50,56]))) λw15=>Sv.st w15 ⟨k,15,none⟩ (.string (ByteArray.mk (Array.mk [(99:UInt8),104,97,114]))) λw16=>Sv.st w16 ⟨k,16,none⟩ (.string (ByteArray.mk (Array.mk [(116:UInt8),105,109,101]))) λw17=>Sv.st w17 ⟨k,17,none⟩ (.string (ByteArray.mk (Array.mk [(117:UInt8),117,105,100]))) λw18=>Sv.st w18 ⟨k,18,none⟩ (.string (ByteArray.mk (Array.mk [(98:UInt8),105,110,97,114,121]))) λw19=>Sv.st w19 ⟨k,19,none⟩ (.string (ByteArray.mk (Array.mk [(115:UInt8),116,114,105,110,103]))) λw20=>Sv.st w20 ⟨k,20,none⟩ (.string (ByteArray.mk (Array.mk [(115:UInt8),121,109,98,111,108]))) λw21=>Sv.st w21 ⟨k,21,none⟩ (.string (ByteArray.mk (Array.mk [(108:UInt8),105,115,116]))) λw22=>Sv.st w22 ⟨k,22,none⟩ (.string (ByteArray.mk (Array.mk [(109:UInt8),97,112]))) λw23=>Sv.st w23 ⟨k,23,none⟩ (.string (ByteArray.mk (Array.mk [(97:UInt8),114,114,97,121]))) λw24=>Sv.st w24 ⟨k,24,none⟩ (.string (ByteArray.mk (Array.mk [(100:UInt8),101,115,99,114,105,98,101,100]))) λw25=>K w25 :=
 oQ nameV 0 (K:=K) hb (by rw[hl,aGn];decide) λw' b c z=>hk w' (by rw[b,fX];simp[aGn];omega) c z
theorem aPo(k:Nat)(hk:k<25):nameV[k]?=some (.string ⟨(fZ (k:Int)).toArray⟩):=by
 have key:∀k:Fin 25,nameV[k.val]?=some (.string ⟨(fZ (k.val:Int)).toArray⟩):=by
  intro k
  match k with
  | ⟨0,_⟩=>rfl
  | ⟨1,_⟩=>rfl
  | ⟨2,_⟩=>rfl
  | ⟨3,_⟩=>rfl
  | ⟨4,_⟩=>rfl
  | ⟨5,_⟩=>rfl
  | ⟨6,_⟩=>rfl
  | ⟨7,_⟩=>rfl
  | ⟨8,_⟩=>rfl
  | ⟨9,_⟩=>rfl
  | ⟨10,_⟩=>rfl
  | ⟨11,_⟩=>rfl
  | ⟨12,_⟩=>rfl
  | ⟨13,_⟩=>rfl
  | ⟨14,_⟩=>rfl
  | ⟨15,_⟩=>rfl
  | ⟨16,_⟩=>rfl
  | ⟨17,_⟩=>rfl
  | ⟨18,_⟩=>rfl
  | ⟨19,_⟩=>rfl
  | ⟨20,_⟩=>rfl
  | ⟨21,_⟩=>rfl
  | ⟨22,_⟩=>rfl
  | ⟨23,_⟩=>rfl
  | ⟨24,_⟩=>rfl
  | ⟨n+25,h⟩=>omega
 exact key ⟨k,hk⟩
theorem tK{k:Nat}(hk:k<25){w:World}{K:Value->World->Prop}(h:∀w',Ch (λ_=>False) w w'->K (.string ⟨(fZ (k:Int)).toArray⟩) w') :
 bK Tryz.prog 133 [.int .i64 (k:Int)] w K:=by
 apply zD;refine bD λw1 b1 c1 z1=>?_;simp only[add_at,aL];refine aX9 b1 rfl λw2 b2 c2 z2=>?_;refine⟨by omega,by omega,?_⟩;simp only[add_at,aL,Nat.mul_one,aM];refine⟨_,by show _=_;rw[eA b2];exact aPo k hk,h w2 (c1.trans c2 λx hx h=>by omega)⟩
theorem kindN_some{t:Bs}{k:Nat}:iM t=some k↔k<25/\fZ (k:Int)=t/\∀j:Nat,j<k->fZ (j:Int)≠t:=by
 unfold iM;rw[List.findIdx?_eq_some_iff_getElem];have hn:names.length=25:=rfl;have hg:∀(j:Nat) (h:j<names.length),names[j]=fZ (j:Int):=λj h=>by
  unfold fZ;rw[aM,List.getD_eq_getElem?_getD,aK h];rfl
 constructor
 ·rintro⟨h1,h2,h3⟩;refine⟨h1,?_,λj hj=>?_⟩
  ·rw[<-hg k h1];exact aB h2
  ·have:=h3 j hj;rw[<-hg j (by omega)];intro e;exact this (aR e)
 ·rintro⟨h1,h2,h3⟩;refine⟨h1,aR (by rw[hg k h1];exact h2),λj hj=>?_⟩;rw[hg j (by omega)];intro e;exact h3 j hj (aB e)
theorem aMy{t:Bs}(h:∀j:Nat,j<25->fZ (j:Int)≠t):iM t=none:=by
 cases hk:iM t with
 | none=>rfl
 | some k =>
  obtain⟨h1,h2,_⟩:=kindN_some.1 hk;exact absurd h2 (h k h1)
def aE4(o:Option Nat):Value :=
 match o with
 | some k=>.tuple #[.int .i64 (k:Int),.bool true]
 | none=>.tuple #[.int .i64 0,.bool false]
theorem aKb{t:Bs}{w:World}{K:Value->World->Prop}(h:∀w',Ch (λ_=>False) w w'->K (aE4 (iM t)) w') :
 bK Tryz.prog 205 [.string ⟨t.toArray⟩] w K:=by
 apply aFe;refine⟨λm i w'=>∃k:Nat,i=(k:Int)/\m=25-k/\k<=25/\Ch (λ_=>False) w w'/\∀j:Nat,j<k->fZ (j:Int)≠t,⟨25,0,rfl,rfl,by omega,Ch.refl _ _,λj hj=>by omega⟩,?_⟩;rintro m i w1 ⟨k,rfl,rfl,hk,c1,hall⟩;refine aC (λh1=>?_) (λh1=>?_)
 ·have h1:=aB h1;refine tK (by omega) λw2 c2=>⟨_,rfl,?_⟩;rw[nX];refine aC (λh2=>?_) (λh2=>?_)
  ·have:=h w2 (c1.trans' c2);rw[kindN_some.2 ⟨by omega,aB h2,hall⟩]at this;exact this
  ·have h2:=aA h2;simp only[cF];rw[aW (n:=(k:Int)+1)];refine⟨25-(k+1),by omega,k+1,by omega,rfl,by omega,c1.trans' c2,λj hj=>?_⟩;by_cases e:j=k
   ·rw[e];exact h2
   ·exact hall j (by omega)
 ·have h1:=aA h1;have:=h w1 c1;rw[aMy λj hj=>hall j (by omega)]at this;exact this
theorem aD6{x:UInt8}{w:World}{K:Value->World->Prop}(hk:K (.bool (cQ x)) w):bK Tryz.prog 146 [.int .u8 (x.toNat:Int)] w K:=by
 apply aA9;have x45:((x.toNat:Int) == 45)=decide (x=45):=jB x 45 (by omega);rw[x45];have yes:cQ x=true->K (.bool true) w:=λh=>by rw[h]at hk;exact hk
 have last:¬(97<=x.toNat/\x.toNat<=122)->¬(48<=x.toNat/\x.toNat<=57)->K (.bool (decide (x=45))) w:=λh1 h2=>by
  have:cQ x=decide (x=45):=by
   unfold cQ;rw[show(decide (97<=x.toNat) && decide (x.toNat<=122))=false by simp;omega,show(decide (48<=x.toNat) && decide (x.toNat<=57))=false by simp;omega];simp
  rw[this]at hk;exact hk
 have mid:¬(97<=x.toNat/\x.toNat<=122)->aS (decide ((x.toNat:Int)>=48)) (aS (!decide ((x.toNat:Int)<=57)) (K (.bool (decide (x=45))) w) (K (.bool true) w)) (K (.bool (decide (x=45))) w):=λh1=>by
  refine aC (λh=>?_) (λh=>last h1 (by have:=aA h;omega));have h:=aB h;refine aC (λh2=>last h1 ?_) (λh2=>yes ?_)
  ·rw[bG]at h2;have:=aA h2;omega
  ·rw[bF]at h2;have:=aB h2;unfold cQ;rw[show(decide (48<=x.toNat) && decide (x.toNat<=57))=true by simp;omega];simp
 refine aC (λh=>?_) (λh=>mid (by have:=aA h;omega));have h:=aB h;refine aC (λh2=>mid ?_) (λh2=>yes ?_)
 ·rw[bG]at h2;have:=aA h2;omega
 ·rw[bF]at h2;have:=aB h2;unfold cQ;rw[show(decide (97<=x.toNat) && decide (x.toNat<=122))=true by simp;omega];simp
end Go.Proofs.YtlfhjkgdlclddaaGreatDoor
