/-
  The program's reader: step. The program's reader: fail, refuse, is, closing, want. Numbers of a note in plain Lean: what strconv reads of digits, and what the document says of them. No program in sight. The program's reader: integer. DERIVED: THE SHELF's CONTRACTS AT THIS DUMP, IN PLAIN WORDS (tools/lay-plain.mjs out of 'YtlfhjkgdlclddaaGreatDoorShelf2.lean', which tools/lay-shelf.mjs wrote): THE SAME DECLARATIONS UNDER THE SAME NAMES: 'import', 'namespace', 'open', 'def', 'theorem' AND NOTHING ELSE: no command of the shelf's: FOR A HAND-IN. Each laying: the table of numbers ('.._ren') and one theorem, a field a fact of the dump's own or the kernel's comparison; each contract: ONE APPLICATION. The program's reader: digits; octet.Get. The program's reader: said, begins, elem, number.
-/
import Derived.Test.YtlfhjkgdlclddaaGreatDoorPx10
import Derived.Lib.IndexLaws
import Derived.Lib.ParseIntB
import Derived.Lib.Strings
import Derived.Shelf.Strings.SlTrimAscii
import Derived.Test.YtlfhjkgdlclddaaGreatDoorProg
set_option linter.unusedVariables false
set_option linter.unusedSimpArgs false
set_option maxRecDepth 4000
namespace Go.Proofs.YtlfhjkgdlclddaaGreatDoor
open Go Go.Sv Go.Note
attribute [local irreducible] aS
def pk(t:Tok):Nat:=if t.kind=5 then 4 else t.kind
def ptx(t:Tok):Bs:=if t.kind=5 then[34]else if t.kind=4 then[]else t.text
def tvl(t:Tok):Value:=.agg #[.int .i64 (pk t:Int),.int .i64 (t.beg:Int),.string ⟨(ptx t).toArray⟩]
def rcl(S:ByteArray)(f:Nat)(t:Tok):List Value:=[.string S,.int .i64 (f:Int),.int .i64 (pk t:Int),.int .i64 (t.beg:Int),.string ⟨(ptx t).toArray⟩]
theorem aUp{w:World}{k:Nat}{x0 x1 x2 x3 x4 v:Value}{K:World->Prop}(h:blk w k=some [x0,x1,x2,x3,x4])(hk:∀w',blk w' k=some [x0,v,x2,x3,x4]->Ch (·=k) w w'->K w'):Sv.st w ⟨k,1,none⟩ v K :=
 eK h (by simp) λw' b c _=>hk w' b c
theorem aRd{w:World}{k:Nat}{x0 x1 x2 x3 x4 v:Value}{K:World->Prop}(h:blk w k=some [x0,x1,x2,x3,x4])(hk:∀w',blk w' k=some [x0,x1,v,x3,x4]->Ch (·=k) w w'->K w'):Sv.st w ⟨k,2,none⟩ v K :=
 eK h (by simp) λw' b c _=>hk w' b c
theorem aUo{w:World}{k:Nat}{x0 x1 x2 x3 x4 v:Value}{K:World->Prop}(h:blk w k=some [x0,x1,x2,x3,x4])(hk:∀w',blk w' k=some [x0,x1,x2,x3,v]->Ch (·=k) w w'->K w'):Sv.st w ⟨k,4,none⟩ v K :=
 eK h (by simp) λw' b c _=>hk w' b c
theorem aWg{w:World}{k:Nat}{x0 x1 x2 x3 x4 v2 v3 v4:Value}{K:World->Prop}(h:blk w k=some [x0,x1,x2,x3,x4])(hk:∀w',blk w' k=some [x0,x1,v2,v3,v4]->Ch (·=k) w w'->K w') :
 Sv.st w ⟨k,2,none⟩ v2 λw1=>Sv.st w1 ⟨k,3,none⟩ v3 λw2=>Sv.st w2 ⟨k,4,none⟩ v4 λw3=>K w3 :=
 oQ [v2,v3,v4] 2 (K:=K) h (by simp) λw' b c _=>hk w' b c
theorem aJ{w:World}{k:Nat}{cs:List Value}(h:blk w k=some cs)(i:Nat){v:Value}(hv:cs[i]?=some v):w.cell? ⟨k,i,none⟩=some v:=by rw[eA h,hv]
theorem qK(c:Bool)(x:UInt8)(l:Bs):bX c (x::l)=if c=false/\iK x=false/\x≠35 then 0 else 1+bX (if x=10 then false else if x=35 then true else c) l:=rfl
theorem aRh(l:Bs):bX false (35::l)=1+bX true l:=by
 rw[qK];rw[aD (by simp)];rfl
theorem aCj:∀(l:Bs),(∀k:Nat,l[k]?≠some 10)->bX true l=l.length
 | [],_=>rfl
 | x::l,h=>by
  have hx:x≠10:=λe=>h 0 (by rw[e];rfl);rw[qK];rw[aD (by simp),aD hx];have:(if x=35 then true else true)=true:=by split<;>rfl
  rw[this,aCj l λk=>by have:=h (k+1);simpa using this];simp;omega
theorem aCi:∀(l:Bs) (o:Nat),l[o]?=some 10->(∀k:Nat,k<o->l[k]?≠some 10)->bX true l=o+1+bX false (l.drop (o+1))
 | [],o,h,_=>by simp at h
 | x::l,0,h,_=>by
  simp only[List.getElem?_cons_zero,Option.some.injEq]at h;rw[qK];rw[aD (by simp),aF h];simp
 | x::l,o+1,h,hn=>by
  have hx:x≠10:=λe=>hn 0 (by omega) (by rw[e];rfl);rw[qK];rw[aD (by simp),aD hx];have:(if x=35 then true else true)=true:=by split<;>rfl
  simp only[List.getElem?_cons_succ]at h;rw[this,aCi l o h λk hk=>by have:=hn (k+1) (by omega);simpa using this];simp;omega
theorem aL5(x:UInt8):decide (Lib.indexByte (ByteArray.mk (Array.mk [(91:UInt8),93,123,125,40,41,58,44])).data.toList ((x.toNat:Int)).toNat.toUInt8>=0)=sL x:=by
 have key:∀x:Fin 256,decide (Lib.indexByte (ByteArray.mk (Array.mk [(91:UInt8),93,123,125,40,41,58,44])).data.toList ((x.val:Int)).toNat.toUInt8>=0)=sL (UInt8.ofNat x.val):=by decide +kernel
 have:=key ⟨x.toNat,x.toNat_lt⟩;simp only[UInt8.ofNat_toNat]at this;exact this
theorem aDt(x:UInt8)(l:Bs):eQ (x::l)=if cQ x then 1+eQ l else 0:=rfl
theorem aMp{l:Bs}{n:Nat}{x:UInt8}(h:∀k,k<n->∀y,l[k]?=some y->cQ y=true)(hn:n<=l.length):eQ l=n+eQ (l.drop n):=by
 induction n generalizing l with
 | zero=>simp
 | succ n ih =>
  cases l with
  | nil=>simp at hn
  | cons y l =>
   simp only[aI]at hn;rw[aDt,aF (h 0 (by omega) y rfl),ih (l:=l) (λk hk z hz=>h (k+1) (by omega) z (by simpa using hz)) (by omega)];simp;omega
theorem aUy{s:Bs}{f:Nat}{x:UInt8}{l:Bs}(h:s.drop (f+bX false (s.drop f))=x::l):next s f =
 if x=34 then(match gE (x::l)with
  | none=>⟨5,f+bX false (s.drop f),f+bX false (s.drop f)+1,[]⟩
  | some p=>⟨2,f+bX false (s.drop f),f+bX false (s.drop f)+p.2,p.1⟩)
 else if sL x then⟨3,f+bX false (s.drop f),f+bX false (s.drop f)+1,[x]⟩
 else if cQ x then⟨1,f+bX false (s.drop f),f+bX false (s.drop f)+eQ (x::l),(x::l).take (eQ (x::l))⟩
 else⟨4,f+bX false (s.drop f),f+bX false (s.drop f)+1,[x]⟩:=by
 unfold next;simp only;rw[h];rfl
theorem aRz{s:Bs}{f:Nat}(h:s.drop (f+bX false (s.drop f))=[]):next s f=⟨0,s.length,s.length,[]⟩:=by
 unfold next;simp only;rw[h]
theorem aNs{S:ByteArray}(hs:S.size<=2^40){rb f:Nat}{t:Tok}{w:World}{K:Value->World->Prop}(hr:blk w rb=some (rcl S f t))(hf:f<=S.size)(hU:UT w)(h2:8<=rb)
 (hk:∀w',blk w' rb=some (rcl S (next S.data.toList f).fin (next S.data.toList f))->Ch (·=rb) w w'->K (tvl t) w'):bK Tryz.prog 106 [.pointer (some ⟨rb,0,none⟩)] w K:=by
 apply uX;have hlen:S.data.toList.length=S.size:=by rw[Array.length_toList];rfl
 obtain⟨s,hsd⟩:∃s,s=S.data.toList:=⟨_,rfl⟩;rw[<-hsd]at hk hlen;have hrl:=aH hr;unfold rcl at hr;refine bD λw1 b1 c1 z1=>?_;have r1:=(c1.blk hrl id).trans hr;simp only[nn,add_at,aL];refine⟨_,aJ r1 2 rfl,_,aJ r1 3 rfl,_,aJ r1 4 rfl,?_⟩;refine aVu λw5 b5 c5 z5=>?_;have r5:=(c5.blk (by omega) id).trans r1;have c15:=c1.trans' c5;simp only[add_at,aL]
 -- the result's two boxes stay
 have old:∀w6,Ch (·=rb) w5 w6->blk w6 w.heap.size=some [.int .i64 0,.int .i64 0,.string ⟨#[]⟩]/\blk w6 w1.heap.size=some [.int .i64 (pk t:Int),.int .i64 (t.beg:Int),.string ⟨(ptx t).toArray⟩]:=λw6 c6=>by
  refine⟨?_,?_⟩
  ·rw[c6.blk (by have:=c5.size;omega) (by omega),c5.blk (by omega) id];exact b1
  ·rw[c6.blk (by omega) (by omega)];exact b5
 have UT':∀w6,Ch (·=rb) w5 w6->UT w6:=λw6 c6=>(hU.ch (by omega) c15 (λh=>h) λh=>h).ch (by have:=c15.size;omega) c6 (by omega) (by omega);obtain⟨A,hA⟩:∃A,A=f+bX false (s.drop f):=⟨_,rfl⟩;have hAle:A<=S.size:=by
  have:=pC false (s.drop f);rw[aN]at this;omega
 refine⟨λw6=>blk w6 rb=some (rcl S A t)/\Ch (·=rb) w5 w6,?_,λm w6=>∃q,blk w6 rb=some (rcl S q t)/\Ch (·=rb) w5 w6/\f<=q/\q<=S.size/\m=S.size-q/\A=q+bX false (s.drop q),⟨S.size-f,f,r5,Ch.refl _ _,aQ _,hf,rfl,hA⟩,?_⟩
 ·-- behind the blanks
  rintro w6 ⟨r6,c6⟩;unfold rcl at r6;refine⟨_,aJ r6 1 rfl,?_⟩;refine aWg r6 λw9 r9 c9=>?_;have c59:=c6.trans' c9;refine⟨_,by show _=_;rw[World.cell?_drew];exact aJ r9 1 rfl,_,by show _=_;rw[World.cell?_drew];exact aJ r9 0 rfl,?_⟩
  -- the end: was is answered
  have fin:∀w10 cs,blk w10 rb=some cs->cs=rcl S (next s f).fin (next s f)->Ch (·=rb) w5 w10->∃n,w10.cell? ⟨w1.heap.size,0,none⟩=some (.int .i64 n)/\∃n1,w10.cell? ⟨w1.heap.size,1,none⟩=some (.int .i64 n1)/\∃s2,w10.cell? ⟨w1.heap.size,2,none⟩=some (.string s2) /\
   Sv.st w10 ⟨w.heap.size,0,none⟩ (.int .i64 n) λw11=>Sv.st w11 ⟨w.heap.size,1,none⟩ (.int .i64 n1) λw12=>Sv.st w12 ⟨w.heap.size,2,none⟩ (.string s2) λw13 =>
    ∃n6,w13.cell? ⟨w.heap.size,0,none⟩=some (.int .i64 n6)/\∃n7,w13.cell? ⟨w.heap.size,1,none⟩=some (.int .i64 n7)/\∃s3,w13.cell? ⟨w.heap.size,2,none⟩=some (.string s3)/\K (.agg (Array.mk [.int .i64 n6,.int .i64 n7,.string s3])) w13:=by
   intro w10 cs r10 hcs c10;obtain⟨o1,o2⟩:=old w10 c10;refine⟨_,aJ o2 0 rfl,_,aJ o2 1 rfl,_,aJ o2 2 rfl,?_⟩;refine re3 o1 λw13 b13 c13 z13=>?_;refine⟨_,aJ b13 0 rfl,_,aJ b13 1 rfl,_,aJ b13 2 rfl,?_⟩;refine hk w13 ?_ ?_
   ·rw[c13.blk (aH r10) (by omega),r10,hcs]
   ·exact((c15.mono (S':=(·=rb)) λ_ _ h=>h.elim).trans' c10).trans c13 λx hx h=>by omega
  refine aC (λh=>?_) (λh=>?_)
  ·-- the text's end
   have hAs:A=S.size:=by have:=aB (by simpa using h:decide ((A:Int)=S.size)=true);omega
   have hn:next s f=⟨0,s.length,s.length,[]⟩:=aRz (by rw[<-hA];exact bW (by omega));exact fin _ _ r9 (by rw[hn,hlen,hAs];rfl) (c59.trans' (Ch.drew _))
  ·have hAlt:A<S.size:=by
    have:¬((A:Int)=S.size):=by simpa using h
    omega
   refine⟨_,by show _=_;rw[World.cell?_drew,World.cell?_drew];exact aJ r9 0 rfl,_,by show _=_;rw[World.cell?_drew,World.cell?_drew];exact aJ r9 1 rfl,by omega,by omega,?_⟩;rw[aM];obtain⟨x,l,hxl⟩:∃x l,s.drop A=x::l:=by
    cases hd:s.drop A with
    | nil=>have:=congrArg List.length hd;rw[aN]at this;simp at this;omega
    | cons x l=>exact⟨x,l,rfl⟩
   have hR:(S.extract A S.size).data.toList=x::l:=by rw[fT,<-hsd,hxl,aY (by rw[<-hxl,aN,hlen];omega)]
   have hRs:(S.extract A S.size).size=l.length+1:=by rw[qL hR];rfl
   have hRle:(S.extract A S.size).size<=S.size:=by
    have hl2:=congrArg List.length hxl;rw[aN]at hl2;simp only[aI]at hl2;omega
   have hx0:cH (S.extract A S.size) 0=(x.toNat:Int):=eZ (by rw[hR];rfl);have hT:=aUy (s:=s) (f:=f) (x:=x) (l:=l) (by rw[<-hA];exact hxl);rw[<-hA]at hT;generalize S.extract A S.size=R at hR hRs hRle hx0 ⊢;have r9':∀w,Ch (λ_=>False) w9 w->blk w rb=some [.string S,.int .i64 (A:Int),.int .i64 0,.int .i64 (A:Int),.string ⟨#[]⟩]:=λw c=>(c.blk (aH r9) id).trans r9;have cz:∀ {w},Ch (λ_=>False) w9 w->Ch (·=rb) w5 w:=λc=>c59.trans' (c.mono λ_ _ h=>h.elim)
   -- the place behind the token
   refine⟨λn w10=>blk w10 rb=some [.string S,.int .i64 (A:Int),.int .i64 (pk (next s f):Int),.int .i64 ((next s f).beg:Int),.string ⟨(ptx (next s f)).toArray⟩]/\n=((next s f).fin:Int)-(A:Int)/\(next s f).fin<=S.size/\Ch (·=rb) w5 w10,?_,by omega,by omega,?_⟩
   ·rintro n w10 ⟨r10,rfl,hle,c10⟩;refine⟨_,aJ r10 1 rfl,?_⟩;rw[show(A:Int)+(((next s f).fin:Int)-(A:Int))=((next s f).fin:Int) by omega,aW];refine aUp r10 λw11 r11 c11=>?_;exact fin w11 _ r11 rfl (c10.trans' c11)
   ·rw[hx0];simp only[cF];have x34:((x.toNat:Int) == 34)=decide (x=34):=jB x 34 (by omega);rw[x34];refine aC (λh34=>?_) (λh34=>?_)
    ·-- a word
     have h34:=aB h34;rw[aF h34]at hT;refine aNl (by omega) hR h34 (UT' _ (cz (Ch.drew _) |>.trans' (Ch.drew _))) (by
      have:=c59.size;have:=c15.size;show 8<=w9.heap.size;omega) λv w10 c10 hv=>?_
     rw[hR]at hv;have c10':Ch (λ_=>False) w9 w10:=(Ch.drew w9).trans' ((Ch.drew _).trans' c10);have r10:=r9' w10 c10';cases hw:gE (x::l)with
     | none =>
      rw[hw]at hv hT;simp only at hT;refine⟨_,_,hv,aC (λ_=>?_) (λh=>absurd h (by decide))⟩;refine aRd r10 λw11 r11 c11=>aUo r11 λw12 r12 c12=>⟨?_,by rw[hT];show _=(((A+1:Nat):Int))-_;omega,by rw[hT];show A+1<=_;omega,((cz c10').trans' c11).trans' c12⟩;rw[r12,hT];rfl
     | some p =>
      rw[hw]at hv hT;simp only at hT;have hp:=tY (y:=p.1) (n:=p.2) hw;simp only[aI]at hp;refine⟨_,_,hv,aC (λh=>?_) (λ_=>?_)⟩
      ·have:=aB (by simpa using h:decide (p.2=0)=true);omega
      ·have hl2:=congrArg List.length hxl;rw[aN]at hl2;simp only[aI]at hl2;refine aRd r10 λw11 r11 c11=>aUo r11 λw12 r12 c12=>⟨?_,by rw[hT];show _=(((A+p.2:Nat):Int))-_;omega,by rw[hT];show A+p.2<=_;omega,((cz c10').trans' c11).trans' c12⟩;rw[r12,hT];rfl
    ·have h34:=aA h34;rw[aD h34]at hT;refine(Tryz.strings_IndexByte _ _ _).mono ?_;rintro e w10 ⟨rfl,rfl⟩;refine⟨_,rfl,_,rfl,?_⟩;rw[aL5];have c10':Ch (λ_=>False) w9 w9.drew.drew:=(Ch.drew w9).trans' (Ch.drew _);refine aC (λhsg=>?_) (λhsg=>?_)
     ·rw[aF hsg]at hT;refine⟨by omega,by omega,?_⟩;have c11':=c10'.trans' (Ch.drew _);have r11:=r9' _ c11';have hE:R.extract 0 1=⟨#[x]⟩:=aK6 (by rw[fT,hR];rfl);refine aRd r11 λw11 r11 c11=>aUo r11 λw12 r12 c12=>⟨?_,by rw[hT];show _=(((A+1:Nat):Int))-_;omega,by rw[hT];show A+1<=_;omega,((cz c11').trans' c11).trans' c12⟩;rw[r12,hT,hE];rfl
     ·rw[aD (by rw[hsg];decide)]at hT;refine aD6 ⟨_,rfl,?_⟩;have r10:=r9' _ c10';refine aC (λhlt=>?_) (λhlt=>?_)
      ·rw[aF hlt]at hT;have hnl:=tG (x::l);simp only[aI]at hnl;have hl2:=congrArg List.length hxl;rw[aN]at hl2;simp only[aI]at hl2;have done:∀w',Ch (λ_=>False) w9 w'->∀n:Nat,n=eQ (x::l)->Sv.st w' ⟨rb,2,none⟩ (.int .i64 1) λw13=>Sv.st w13 ⟨rb,4,none⟩ (.string (R.extract 0 n)) λw14=>blk w14 rb=some [.string S,.int .i64 (A:Int),.int .i64 (pk (next s f):Int),.int .i64 ((next s f).beg:Int),.string ⟨(ptx (next s f)).toArray⟩]/\(n:Int)=((next s f).fin:Int)-(A:Int)/\(next s f).fin<=S.size/\Ch (·=rb) w5 w14:=by
        rintro w' c' n rfl;refine aRd (r9' w' c') λw11 r11 c11=>aUo r11 λw12 r12 c12=>⟨?_,by rw[hT];show _=(((A+eQ (x::l):Nat):Int))-_;omega,by rw[hT];show A+eQ (x::l)<=_;omega,((cz c').trans' c11).trans' c12⟩;have hE:R.extract 0 (eQ (x::l))=⟨((x::l).take (eQ (x::l))).toArray⟩:=aK6 (by rw[fT,hR];simp);rw[r12,hT,hE];rfl
       refine⟨λm n w11=>∃k:Nat,n=(k:Int)/\1<=k/\k<=R.size/\m=R.size-k/\w11=w9.drew.drew/\∀i,i<k->∀y,(x::l)[i]?=some y->cQ y=true,⟨R.size-1,1,rfl,by omega,by omega,rfl,rfl,λi hi y hy=>?_⟩,?_⟩
       ·have:i=0:=by omega
        subst this;simp at hy;rw[<-hy];exact hlt
       rintro m n w11 ⟨k,rfl,hk1,hk2,rfl,rfl,hall⟩;have hnd:=aMp (l:=x::l) (n:=k) (x:=x) hall (by simp only[aI];omega);refine⟨λw12=>w12=w9.drew.drew/\k<R.size/\∃y,(x::l)[k]?=some y/\cQ y=true,?_,?_⟩
       ·rintro w12 ⟨rfl,hkl,y,hy,hly⟩;rw[aW (n:=(k:Int)+1)];refine⟨R.size-(k+1),by omega,k+1,by omega,by omega,by omega,rfl,rfl,λi hi z hz=>?_⟩;by_cases e:i=k
        ·subst e;rw[hy]at hz;cases hz;exact hly
        ·exact hall i (by omega) z hz
       ·refine aC (λh=>?_) (λh=>?_)
        ·have h:=aB h;have hkl:k<R.size:=by omega
         obtain⟨y,hy⟩:∃y,(x::l)[k]?=some y:=⟨(x::l)[k]'(by simp only[aI];omega),aK _⟩;refine⟨by omega,by omega,?_⟩;rw[aM,eZ (by rw[hR];exact hy)];refine aD6 ⟨_,rfl,?_⟩;refine aC (λhly=>⟨by trivial,hkl,y,hy,hly⟩) (λhly=>?_);refine⟨by omega,by omega,?_⟩;have hz:eQ ((x::l).drop k)=0:=by
          have hd:(x::l).drop k=y::(x::l).drop (k+1):=by
           rw[dB (by simp only[aI];omega)];congr 1;rw[aK (by simp only[aI];omega)]at hy;exact bC hy
          rw[hd,aDt,aD (by rw[hly];decide)]
         exact done _ (c10'.trans' (Ch.drew _)) k (by omega)
        ·have h:=aA h;refine⟨by omega,by omega,?_⟩;rw[aM];have hz:eQ ((x::l).drop k)=0:=by
          rw[bW (by simp only[aI];omega)];rfl
         exact done _ (c10'.trans' (Ch.drew _)) k (by omega)
      ·rw[aD (by rw[hlt];decide)]at hT;refine aRd r10 λw11 r11 c11=>⟨?_,by rw[hT];show _=(((A+1:Nat):Int))-_;omega,by rw[hT];show A+1<=_;omega,(cz c10').trans' c11⟩;rw[r11,hT];rfl
 ·-- the blanks
  rintro m w6 ⟨q,r6,c6,hfq,hq,rfl,hAq⟩;unfold rcl at r6;refine⟨_,by show _=_;rw[World.cell?_drew];exact aJ r6 1 rfl,_,by show _=_;rw[World.cell?_drew];exact aJ r6 0 rfl,?_⟩;refine aC (λh=>?_) (λh=>?_)
  ·have hql:q<S.size:=by have:=aB h;omega
   obtain⟨x,hx⟩:=aIn S hql;have hd:s.drop q=x::s.drop (q+1):=by
    rw[<-hsd]at hx;rw[dB (by omega)];congr 1;rw[aK (by omega)]at hx;exact bC hx
   have hb:=eZ hx;have r6':∀w,Ch (λ_=>False) w6 w->blk w rb=some (rcl S q t):=λw c=>(c.blk (aH r6) id).trans r6;refine⟨λw7=>∃q',blk w7 rb=some (rcl S q' t)/\Ch (·=rb) w5 w7/\q<=q'/\q'<S.size/\A=q'+1+bX false (s.drop (q'+1)),?_,?_⟩
   ·rintro w7 ⟨q',r7,c7,hqq,hq'l,hA'⟩;unfold rcl at r7;refine⟨_,aJ r7 1 rfl,?_⟩;rw[aW (n:=(q':Int)+1)];refine aUp r7 λw8 r8 c8=>?_;exact⟨S.size-(q'+1),by omega,q'+1,r8,c7.trans' c8,by omega,by omega,rfl,hA'⟩
   ·refine⟨_,by show _=_;rw[World.cell?_drew,World.cell?_drew];exact aJ r6 0 rfl,_,by show _=_;rw[World.cell?_drew,World.cell?_drew];exact aJ r6 1 rfl,by omega,by omega,?_⟩;rw[aM,hb];have x32:((x.toNat:Int) == 32)=decide (x=32):=jB x 32 (by omega);have x9:((x.toNat:Int) == 9)=decide (x=9):=jB x 9 (by omega);have x10:((x.toNat:Int) == 10)=decide (x=10):=jB x 10 (by omega);have x13:((x.toNat:Int) == 13)=decide (x=13):=jB x 13 (by omega);have x35:((x.toNat:Int) == 35)=decide (x=35):=jB x 35 (by omega);rw[x32,x9,x10,x13,x35];refine⟨λb w7=>w7=w6.drew.drew/\b=iK x,?_,?_⟩
    ·rintro b w7 ⟨rfl,rfl⟩;have cd:Ch (λ_=>False) w6 w6.drew.drew:=(Ch.drew w6).trans' (Ch.drew _);refine aC (λhbl=>?_) (λhbl=>?_)
     ·have h35:x≠35:=by rintro rfl;exact absurd hbl (by decide)
      refine⟨q,r6' _ cd,c6.trans' (cd.mono λ_ _ h=>h.elim),aQ _,hql,?_⟩;rw[hAq,hd,aCh hbl h35];omega
     ·refine aC (λh35=>?_) (λh35=>?_)
      ·have h35:=aB h35;refine⟨_,by show _=_;rw[World.cell?_drew,World.cell?_drew,World.cell?_drew];exact aJ r6 0 rfl,_,by show _=_;rw[World.cell?_drew,World.cell?_drew,World.cell?_drew];exact aJ r6 1 rfl,by omega,by omega,?_⟩;rw[aM];have hE:(S.extract q S.size).data.toList=x::s.drop (q+1):=by rw[fT,<-hsd,hd,aY (by rw[<-hd,aN,hlen];omega)]
       refine(Tryz.strings_IndexByte _ _ _).mono ?_;rintro e w8 ⟨rfl,rfl⟩;refine⟨_,rfl,_,rfl,?_⟩;rw[hE,h35];have e10:((10:Int)).toNat.toUInt8=10:=rfl;rw[e10];have cd2:=cd.trans' (Ch.drew _);have r8:=r6' _ cd2;unfold rcl at r8;have hAq2:A=q+1+bX true (s.drop (q+1)):=by rw[hAq,hd,h35,aRh];omega
       have hge:=Lib.indexByte_ge (35::s.drop (q+1)) 10;refine aC (λhneg=>?_) (λhpos=>?_)
       ·have hneg:=aB hneg;have hno:=Lib.indexByte_none (l:=35::s.drop (q+1)) (c:=10) (by omega);refine⟨_,aJ r8 0 rfl,aUp r8 λw9 r9 c9=>?_⟩;have:A=S.size:=by
         rw[hAq2,aCj _ λk=>by have:=hno (k+1);simpa using this,aN];omega
        rw[this];exact⟨r9,(c6.trans' (cd2.mono λ_ _ h=>h.elim)).trans' c9⟩
       ·have hpos:=aA hpos;obtain⟨o,ho⟩:∃o:Nat,Lib.indexByte (35::s.drop (q+1)) 10=(o:Int):=⟨(Lib.indexByte (35::s.drop (q+1)) 10).toNat,by omega⟩;obtain⟨g1,g2⟩:=Lib.indexByte_some ho;rw[ho];cases o with
        | zero=>exact absurd g1 (by simp)
        | succ o =>
         have g1':(s.drop (q+1))[o]?=some 10:=by simpa using g1
         have hlt:=(List.getElem?_eq_some_iff.1 g1').1;rw[aN]at hlt;refine⟨_,aJ r8 1 rfl,?_⟩;rw[aW,show(q:Int)+((o+1:Nat):Int)=((q+(o+1):Nat):Int) by omega];refine aUp r8 λw9 r9 c9=>⟨q+(o+1),r9,(c6.trans' (cd2.mono λ_ _ h=>h.elim)).trans' c9,by omega,by omega,?_⟩;rw[hAq2,aCi _ o g1' λk hk=>by have:=g2 (k+1) (by omega);simpa using this,List.drop_drop];rw[show q+1+(o+1)=q+(o+1)+1 by omega];omega
      ·have h35:=aA h35;refine⟨?_,c6.trans' (cd.mono λ_ _ h=>h.elim)⟩;have:A=q:=by
        rw[hAq,hd];have:bX false (x::s.drop (q+1))=0:=by
         unfold bX;rw[aF ⟨rfl,hbl,h35⟩]
        omega
       rw[this];exact r6' _ cd
    ·have fb:∀b:Bool,b=iK x->(w6.drew.drew=w6.drew.drew/\b=iK x):=λb hb=>⟨rfl,hb⟩;refine aC (λh1=>⟨by trivial,?_⟩) (λh1=>?_)
     ·unfold iK;rw[h1];rfl
     refine aC (λh2=>⟨by trivial,?_⟩) (λh2=>?_)
     ·unfold iK;rw[h1,h2];rfl
     refine aC (λh3=>⟨by trivial,?_⟩) (λh3=>⟨by trivial,?_⟩)
     ·unfold iK;rw[h1,h2,h3];rfl
     ·unfold iK;rw[h1,h2,h3];rfl
  ·have hql:q=S.size:=by have:=aA h;omega
   have:A=q:=by rw[hAq,bW (by omega)];simp[bX]
   refine⟨?_,c6.trans' (Ch.drew _)⟩;rw[this];exact r6
def flt(a e:Nat):List PanicEntry:=[PanicEntry.mk (.iface 139 (.agg (Array.mk [.int .i64 (a:Int),.int .i64 (e:Int)]))) false false]
def RS(S:ByteArray)(rb p:Nat)(w:World):Prop:=blk w rb=some (rcl S (next S.data.toList p).fin (next S.data.toList p))/\p<=S.size
theorem RS.ch{S:ByteArray}{rb p:Nat}{w w':World}(h:RS S rb p w){Q:Nat->Prop}(c:Ch Q w w')(hn:¬Q rb):RS S rb p w':=⟨by rw[c.blk (aH h.1) hn];exact h.1,h.2⟩
theorem RS.lt{S:ByteArray}{rb p:Nat}{w:World}(h:RS S rb p w):rb<w.heap.size:=aH h.1
theorem sl(S:ByteArray):S.data.toList.length=S.size:=by rw[Array.length_toList];rfl
theorem xV{a e:Nat}{w:World}{K:Value->World->Prop}{KP:List PanicEntry->World->Prop}(hp:KP (flt a e) w):dL Tryz.prog 155 [.int .i64 (a:Int),.int .i64 (e:Int)] w K KP:=by
 apply aH4;exact hp
theorem gD{S:ByteArray}{rb p e:Nat}{w:World}(hr:RS S rb p w){K:Value->World->Prop}{KP:List PanicEntry->World->Prop}(hp:KP (flt (next S.data.toList p).beg (if(next S.data.toList p).kind=5 then 42 else e)) w) :
 dL Tryz.prog 108 [.pointer (some ⟨rb,0,none⟩),.int .i64 (e:Int)] w K KP:=by
 apply rY;obtain⟨hr,_⟩:=hr;unfold rcl at hr;generalize next S.data.toList p=t at hr hp;refine⟨λn w1=>w1=w/\n=((if t.kind=5 then 42 else e:Nat):Int),?_,?_⟩
 ·rintro n w1 ⟨rfl,rfl⟩;simp only[nn,add_at,aL];exact⟨_,aJ hr 3 rfl,xV hp⟩
 ·simp only[nn,add_at,aL];refine⟨_,aJ hr 2 rfl,?_⟩;refine aC (λh=>?_) (λh=>?_)
  ·have hk:pk t=4:=by have:=eq_of_beq h;omega
   refine⟨_,aJ hr 4 rfl,?_⟩;rw[show(ByteArray.mk (Array.mk ([]:List UInt8)))=⟨([]:Bs).toArray⟩ by rfl,nX];refine aC (λh2=>⟨by trivial,?_⟩) (λh2=>⟨by trivial,?_⟩)
   ·by_cases h5:t.kind=5
    ·rw[aF h5];rfl
    ·have h4:t.kind=4:=by unfold pk at hk;rw[aD h5]at hk;exact hk
     simp[ptx,h4]at h2
   ·by_cases h5:t.kind=5
    ·simp[ptx,h5]at h2
    ·rw[aD h5]
  ·refine⟨by trivial,?_⟩;have hk:pk t≠4:=λe=>by rw[e]at h;exact absurd h (by decide)
   rw[_root_.if_neg];intro h5;exact hk (by unfold pk;rw[aF h5])
theorem aAs{S:ByteArray}{rb p:Nat}{c:UInt8}{w:World}(hr:RS S rb p w){K:Value->World->Prop}(hk:K (.bool ((next S.data.toList p).is c)) w) :
 bK Tryz.prog 206 [.pointer (some ⟨rb,0,none⟩),.string ⟨#[c]⟩] w K:=by
 apply xH;obtain⟨hr,_⟩:=hr;unfold rcl at hr;generalize next S.data.toList p=t at hr hk;simp only[nn,add_at,aL];refine⟨_,aJ hr 2 rfl,?_⟩;refine aC (λh=>?_) (λh=>?_)
 ·have hk3:pk t=3:=by have:=eq_of_beq h;omega
  have h3:t.kind=3:=by
   unfold pk at hk3;split at hk3
   ·omega
   ·exact hk3
  refine⟨_,aJ hr 4 rfl,?_⟩;rw[show(ByteArray.mk #[c])=⟨([c]:Bs).toArray⟩ by rfl,nX];have:ptx t=t.text:=by unfold ptx;rw[aD,aD]
  rw[this];have e:t.is c=decide (t.text=[c]):=by unfold Tok.is;rw[aR h3,Bool.true_and]
  rw[<-e];exact hk
 ·have:t.is c=false:=by
   unfold Tok.is;rw[bB,Bool.false_and];intro h3;rw[show pk t=3 by unfold pk;rw[aD];exact h3]at h;exact absurd h (by decide)
  rw[this]at hk;exact hk
theorem aEs{S:ByteArray}{rb p:Nat}{w:World}(hr:RS S rb p w){K:Value->World->Prop}(hk:K (.bool (decide ((next S.data.toList p).kind=0) || nU (next S.data.toList p))) w) :
 bK Tryz.prog 148 [.pointer (some ⟨rb,0,none⟩)] w K:=by
 apply qU;have hr0:=hr;obtain⟨hr,_⟩:=hr;unfold rcl at hr;simp only[nn,add_at,aL];refine⟨_,aJ hr 2 rfl,?_⟩;have hk0:∀t:Tok,((pk t:Nat):Int)=0↔t.kind=0:=λt=>by
  unfold pk;split<;>omega
 refine aC (λh=>?_) (λh=>?_)
 ·have h0:¬(next S.data.toList p).kind=0:=λe=>by rw[(hk0 _).2 e]at h;exact absurd h (by decide)
  rw[bB h0,Bool.false_or]at hk;unfold nU at hk;refine aAs (c:=93) hr0 ⟨_,rfl,?_⟩;refine aC (λh1=>?_) (λh1=>?_)
  ·refine aAs (c:=125) hr0 ⟨_,rfl,?_⟩;rw[bG]at h1;refine aC (λh2=>?_) (λh2=>?_)
   ·refine aAs (c:=41) hr0 ⟨_,rfl,?_⟩;rw[bG]at h2;rw[h1,h2]at hk;exact hk
   ·rw[bF]at h2;rw[h1,h2]at hk;exact hk
  ·rw[bF]at h1;rw[h1]at hk;exact hk
 ·have h0:(next S.data.toList p).kind=0:=(hk0 _).1 (by simpa using h);rw[aR h0,Bool.true_or]at hk;exact hk
theorem jJ{S:ByteArray}(hs:S.size<=2^40){rb p:Nat}{w:World}(hr:RS S rb p w)(hU:UT w)(h2:8<=rb){K:Value->World->Prop}
 (hk:∀w',RS S rb (next S.data.toList p).fin w'->Ch (·=rb) w w'->K (tvl (next S.data.toList p)) w'):bK Tryz.prog 106 [.pointer (some ⟨rb,0,none⟩)] w K:=by
 have hl:=dM S.data.toList p (by rw[sl];exact hr.2);rw[sl]at hl;exact aNs hs hr.1 (by omega) hU h2 λw' h c=>hk w' ⟨h,by omega⟩ c
theorem aHm{S:ByteArray}(hs:S.size<=2^40){rb p:Nat}{c:UInt8}{w:World}(hr:RS S rb p w)(hU:UT w)(h2:8<=rb){K:Value->World->Prop}{KP:List PanicEntry->World->Prop}
 (hk:(next S.data.toList p).is c=true->∀w',RS S rb (next S.data.toList p).fin w'->Ch (·=rb) w w'->K (.tuple #[]) w')
 (hp:(next S.data.toList p).is c=false->∀a e,(wanted (next S.data.toList p):Note.Fd M)=.bad a e->KP (flt a e) w):dL Tryz.prog 153 [.pointer (some ⟨rb,0,none⟩),.string ⟨#[c]⟩] w K KP:=by
 apply uW;refine⟨λw1=>w1=w/\(next S.data.toList p).is c=true,?_,?_⟩
 ·rintro w1 ⟨rfl,h⟩;exact bZ (jJ hs hr hU h2 λw2 r2 c2=>⟨_,_,_,rfl,hk h w2 r2 c2⟩)
 ·refine bZ (aAs hr ⟨_,rfl,?_⟩);refine aC (λh=>?_) (λh=>⟨by trivial,by simpa using h⟩);rw[bG]at h;have hp:=hp h;refine⟨λw2=>w2=w/\¬((next S.data.toList p).kind=0\/nU (next S.data.toList p)=true),?_,?_⟩
  ·rintro w2 ⟨rfl,hn⟩;refine gD (e:=40) hr (hp _ _ ?_);unfold wanted cM;rw[aD hn]
  ·refine bZ (aEs hr ⟨_,rfl,?_⟩);refine aC (λh3=>?_) (λh3=>⟨by trivial,?_⟩)
   ·refine gD (e:=43) hr (hp _ _ ?_);unfold wanted cM;rw[aF (by simpa using h3)]
   ·simpa using h3
end Go.Proofs.YtlfhjkgdlclddaaGreatDoor
namespace Go.Note
open Go
theorem aHq{s:Bs}{a:Nat}(h:(next s a).kind=1):∀x∈(next s a).text,cQ x=true:=by
 have key:∀l:Bs,∀x∈l.take (eQ l),cQ x=true:=by
  intro l
  induction l with
  | nil=>intro x hx;simp at hx
  | cons y l ih =>
   intro x hx;unfold eQ at hx;split at hx
   ·rename_i hy;rw[Nat.add_comm,List.take_succ_cons]at hx;rcases List.mem_cons.1 hx with h|h
    ·rw[h];exact hy
    ·exact ih x h
   ·simp at hx
 unfold next at h ⊢;simp only at h ⊢;cases hd:s.drop (a+bX false (s.drop a))with
 | nil=>rw[hd]at h;cases h
 | cons x l =>
  rw[hd]at h;simp only at h ⊢;split at h
  ·cases hw:gE (x::l)with
   | none=>rw[hw]at h;cases h
   | some p=>rw[hw]at h;cases h
  ·rename_i h34;rw[aD h34];split at h
   ·cases h
   ·rename_i hsg;rw[aD hsg];split at h
    ·rename_i hlt;rw[aF hlt];exact key _
    ·cases h
theorem or3{a b c:Prop}(h:a\/b\/c)(h1:a->False)(h2:b->False)(h3:c->False):False:=h.elim h1 λh=>h.elim h2 h3
def val(acc:Nat)(l:Bs):Nat:=l.foldl (λn x=>10*n+(x.toNat-48)) acc
theorem aHo:∀(l:Bs) (acc:Nat),acc<=val acc l
 | [],_=>aQ _
 | x::l,acc=>by
  have:=aHo l (10*acc+(x.toNat-48));show acc<=val (10*acc+(x.toNat-48)) l;omega
theorem nQ(x:UInt8):dT x=true↔48<=x.toNat/\x.toNat<=57:=by simp[dT]
theorem aGh{M:Nat}(hM:M<18446744073709551616):∀(l:Bs) (acc u:Nat),acc<=M->(Lib.parseUintM M acc l=.ok u↔l.all dT=true/\val acc l=u/\u<=M)
 | [],acc,u,h=>by
  simp[Lib.parseUintM,val];intro e;omega
 | x::l,acc,u,h=>by
  unfold Lib.parseUintM;have hv:val acc (x::l)=val (10*acc+(x.toNat-48)) l:=rfl;have hge:=aHo l (10*acc+(x.toNat-48));by_cases hd:48<=x.toNat/\x.toNat<=57
  ·rw[aF hd];have hdc:dT x=true:=(nQ x).2 hd;split
   ·constructor
    ·intro e;cases e
    ·rintro⟨_,h2,h3⟩;omega
   ·split
    ·constructor
     ·intro e;cases e
     ·rintro⟨_,h2,h3⟩;omega
    ·rw[aGh hM l _ u (by omega),hv,show acc*10+(x.toNat-48)=10*acc+(x.toNat-48) by omega];simp[hdc]
  ·rw[aD hd];have hdc:dT x=false:=by
    cases h:dT x with
    | false=>rfl
    | true=>exact absurd ((nQ x).1 h) hd
   simp[hdc]
theorem kR{B:Nat}(hB:2^B-1<18446744073709551616)(l:Bs)(u:Nat):Lib.parseUintB B l=.ok u↔l≠[]/\l.all dT=true/\lU l=u/\u<=2^B-1:=by
 unfold Lib.parseUintB;by_cases h:l=[]
 ·rw[aF h];simp[h]
 ·rw[aD h,aGh hB l 0 u (bQ _)];constructor
  ·rintro⟨a,b,c⟩;exact⟨h,a,b,c⟩
  ·rintro⟨_,a,b,c⟩;exact⟨a,b,c⟩
def lJ(s:Bs):Bool:=decide (s≠[48]) && Lib.hasPrefix (Lib.trimPrefix s [45]) [48]
theorem aXn(l:Bs):Lib.hasPrefix l [48]=decide (l.head?=some 48):=by
 cases l with
 | nil=>rfl
 | cons x l =>
  unfold Lib.hasPrefix;simp only[List.isPrefixOf,Bool.and_true,List.head?_cons,Option.some.injEq];by_cases h:x=48
  ·subst h;rfl
  ·rw[bB h];simp only[beq_eq_false_iff_ne,ne_eq];exact λe=>h e.symm
theorem aWd(s:Bs):Lib.trimPrefix s [45]=if s.head?=some 45 then s.tail else s:=by
 cases s with
 | nil=>rfl
 | cons x l =>
  unfold Lib.trimPrefix Lib.hasPrefix;simp only[List.isPrefixOf,Bool.and_true,List.head?_cons,Option.some.injEq,List.tail_cons];by_cases h:x=45
  ·subst h;rfl
  ·rw[aD h,_root_.if_neg];simp only[beq_iff_eq];exact λe=>h e.symm
theorem lI(s:Bs):lJ s=true↔s≠[48]/\(if s.head?=some 45 then s.tail.head?=some 48 else s.head?=some 48):=by
 unfold lJ;rw[bH,bA,aWd,aXn,bA];split<;>rfl
theorem lZ(s:Bs):oV s=if s=[]\/(1<s.length/\s.head?=some 48)\/s.all dT=false then none else some (lU s):=rfl
theorem aTi{s:Bs}(h:s.head?=some 45):s.all dT=false:=by
 cases s with
 | nil=>cases h
 | cons x l =>
  simp only[List.head?_cons,Option.some.injEq]at h;subst h;simp[dT]
theorem aF5{B k:Nat}{s:Bs}(hB:(B=8/\k=2)\/(B=16/\k=3)\/(B=32/\k=4)\/(B=64/\k=5)) :
 (lJ s=true->iB k s=none)/\(lJ s=false->∀u,Lib.parseUintB B s=.ok u↔iB k s=some u):=by
 have hm:gN k=(2^B-1,0)/\2^B-1<18446744073709551616/\k≠15:=by
  rcases hB with⟨rfl,rfl⟩|⟨rfl,rfl⟩|⟨rfl,rfl⟩|⟨rfl,rfl⟩<;>exact⟨by decide,by decide,by decide⟩
 obtain⟨h1,h2,h3⟩:=hm;have hi:iB k s=match oV s with
  | some n=>if n<=2^B-1 then some n else none
  | none=>none:=by
  unfold iB;rw[h1,aD (by simp)];cases oV s with
  | none=>rfl
  | some n=>simp[h3]
 constructor
 ·intro hn;obtain⟨g1,g2⟩:=(lI s).1 hn;rw[hi];have:oV s=none:=by
   rw[lZ,_root_.if_pos];split at g2
   ·rename_i hd;exact .inr (.inr (aTi hd))
   ·right;left;refine⟨?_,g2⟩;cases s with
    | nil=>cases g2
    | cons x l =>
     simp only[List.head?_cons,Option.some.injEq]at g2;cases l with
     | nil=>exact absurd (by rw[g2]) g1
     | cons y l=>simp
  rw[this]
 ·intro hn u;rw[kR h2,hi,lZ];have hno:¬(1<s.length/\s.head?=some 48):=by
   rintro⟨a,b⟩;have:lJ s=true:=(lI s).2 ⟨λe=>(by rw[e]at a;simp at a),by rw[b];simp⟩;rw[this]at hn;cases hn
  by_cases he:s=[]
  ·simp[he]
  ·by_cases hd:s.all dT=true
   ·rw[aD (λh=>or3 h (λh=>he h) (λh=>hno h) λh=>by rw[hd]at h;cases h)];simp only;constructor
    ·rintro⟨_,_,rfl,hu⟩;rw[aF hu]
    ·intro h;split at h
     ·rename_i hu;cases h;exact⟨he,hd,rfl,hu⟩
     ·cases h
   ·have hd:s.all dT=false:=by simpa using hd
    rw[aF (.inr (.inr hd))];simp[hd]
theorem aKl{B k:Nat}{s:Bs}(hl:∀x∈s,cQ x=true)(hB:(B=8/\k=6)\/(B=16/\k=7)\/(B=32/\k=8)\/(B=64/\(k=9\/k=16))) :
 (lJ s=true->iB k s=none)/\(lJ s=false->(∀n,iB k s=some n->∃v:Int,Lib.parseIntB B s=.ok v/\v%18446744073709551616=(n:Int))/\(iB k s=none->∀v,Lib.parseIntB B s≠.ok v)):=by
 have hm:gN k=(2^(B-1)-1,2^(B-1))/\2^B-1<18446744073709551616/\k≠15/\0<2^(B-1)/\2^(B-1)<=2^B-1/\2^(B-1)<=9223372036854775808:=by
  rcases hB with⟨rfl,rfl⟩|⟨rfl,rfl⟩|⟨rfl,rfl⟩|⟨rfl,h⟩
  ·exact⟨by decide,by decide,by decide,by decide,by decide,by decide⟩
  ·exact⟨by decide,by decide,by decide,by decide,by decide,by decide⟩
  ·exact⟨by decide,by decide,by decide,by decide,by decide,by decide⟩
  ·rcases h with rfl|rfl
   ·exact⟨by decide,by decide,by decide,by decide,by decide,by decide⟩
   ·exact⟨by decide,by decide,by decide,by decide,by decide,by decide⟩
 obtain⟨h1,h2,h3,h4,h5,h6⟩:=hm;generalize hH:2^(B-1)=H at *;have hi:iB k s=if 1<s.length/\s.head?=some 45 then(match oV s.tail with
  | some n=>if 0<n/\n<=H then some (18446744073709551616-n)else none
  | none=>none)
  else match oV s with
   | some n=>if n<=H-1 then some n else none
   | none=>none:=by
  unfold iB;rw[h1];simp only[h4,true_and];split
  ·rfl
  ·cases oV s with
   | none=>rfl
   | some n=>simp[h3]
 cases s with
 | nil =>
  have h0:iB k []=none:=by rw[hi];simp[oV]
  refine⟨λ_=>h0,λ_=>⟨λn h=>?_,λ_ v=>by simp[Lib.parseIntB]⟩⟩;rw[h0]at h;cases h
 | cons c r =>
  have hc43:c.toNat≠43:=by
   intro e;have:c=43:=UInt8.toNat_inj.1 (by rw[e];rfl);exact absurd (hl c (by simp)) (by rw[this];decide)
  have hc45:(c.toNat=45)↔c=45:=by
   rw[<-UInt8.toNat_inj];exact Iff.rfl
  by_cases hc:c=45
  ·subst hc;have hp:∀v,Lib.parseIntB B (45::r)=.ok v↔∃u,Lib.parseUintB B r=.ok u/\u<=H/\v=-(u:Int):=by
    intro v;unfold Lib.parseIntB;simp only[show((45:UInt8).toNat=45) by rfl,or_true,if_true,hH];cases hu:Lib.parseUintB B r
    case range=>simp
    case ok u =>
     simp only[not_true,false_and,if_false,true_and];split
     ·constructor
      ·intro e;cases e
      ·rintro⟨u',e,h,_⟩;cases e;omega
     ·constructor
      ·intro e;cases e;exact⟨u,rfl,by omega,by simp⟩
      ·rintro⟨u',e,h,rfl⟩;cases e;simp
    ·simp
   have hi2:iB k (45::r)=match oV r with
    | some n=>if 0<n/\n<=H then some (18446744073709551616-n)else none
    | none=>none:=by
    rw[hi];by_cases hr:r=[]
    ·subst hr;simp[oV,dT]
    ·rw[aF ⟨by
      have:=List.length_pos_iff.2 hr;simp only[aI];omega,rfl⟩];rfl
   constructor
   ·intro hn;obtain⟨_,g2⟩:=(lI _).1 hn;simp only[List.head?_cons,if_true,List.tail_cons]at g2;rw[hi2,lZ];by_cases hlen:1<r.length
    ·rw[aF (.inr (.inl ⟨hlen,g2⟩))]
    ·match r,g2 with
     | [x],g2 =>
      simp only[List.head?_cons,Option.some.injEq]at g2;subst g2;simp[dT,lU]
     | _::_::_,_=>simp at hlen
   ·intro hn;have hno:¬(r.head?=some 48):=by
     intro b;have:lJ (45::r)=true:=(lI _).2 ⟨by simp,by simp[b]⟩;rw[this]at hn;cases hn
    have hnat:∀u,oV r=some u↔Lib.parseUintB B r=.ok u\/(oV r=some u/\2^B-1<u):=by
     intro u;rw[kR h2,lZ];by_cases he:r=[]
     ·simp[he]
     ·by_cases hd:r.all dT=true
      ·rw[aD (λh=>or3 h (λh=>he h) (λh=>hno h.2) λh=>by rw[hd]at h;cases h)];simp only[Option.some.injEq];constructor
       ·rintro rfl;by_cases hu:lU r<=2^B-1
        ·exact .inl ⟨he,hd,rfl,hu⟩
        ·exact .inr ⟨rfl,by omega⟩
       ·rintro(⟨_,_,h,_⟩|⟨h,_⟩)<;>exact h
      ·have hd:r.all dT=false:=by simpa using hd
       rw[aF (.inr (.inr hd))];simp[hd]
    refine⟨λn h=>?_,λh v hv=>?_⟩
    ·rw[hi2]at h;cases hnr:oV r with
     | none=>rw[hnr]at h;cases h
     | some u =>
      rw[hnr]at h;simp only at h;split at h
      ·rename_i hu;cases h;rcases(hnat u).1 hnr with g|⟨_,g⟩
       ·exact⟨_,(hp _).2 ⟨u,g,hu.2,rfl⟩,by omega⟩
       ·omega
      ·cases h
    ·obtain⟨u,g1,g2,rfl⟩:=(hp v).1 hv;have g3:=(hnat u).2 (.inl g1);rw[hi2,g3]at h;simp only at h;split at h
     ·cases h
     ·rename_i hu;have hu0:u=0:=by omega
      subst hu0;obtain⟨a1,a2,a3,_⟩:=(kR h2 r 0).1 g1
      match r,a1,a2,a3,hno with
      | x::t,_,a2,a3,hno =>
       simp only[List.all_cons,bH]at a2;have hx:=(nQ x).1 a2.1;have hge:=aHo t (10*0+(x.toNat-48));have:lU (x::t)=val (10*0+(x.toNat-48)) t:=rfl;have hx48:x=48:=UInt8.toNat_inj.1 (by show x.toNat=48;omega);exact hno (by rw[hx48];rfl)
  ·have hh:¬((c::r).head?=some 45):=by simpa using hc
   have hp:∀v,Lib.parseIntB B (c::r)=.ok v↔∃u,Lib.parseUintB B (c::r)=.ok u/\u<=H-1/\v=(u:Int):=by
    intro v;unfold Lib.parseIntB;simp only[hc45,hc43,hc,or_false,if_false,hH];cases hu:Lib.parseUintB B (c::r)
    case range=>simp
    case ok u =>
     simp only[not_false_iff,true_and,false_and,if_false];split
     ·constructor
      ·intro e;cases e
      ·rintro⟨u',e,h,_⟩;cases e;omega
     ·constructor
      ·intro e;cases e;exact⟨u,rfl,by omega,by simp⟩
      ·rintro⟨u',e,h,rfl⟩;cases e;simp
    ·simp
   have hi2:iB k (c::r)=match oV (c::r)with
    | some n=>if n<=H-1 then some n else none
    | none=>none:=by
    rw[hi,aD (λh=>hh h.2)]
   constructor
   ·intro hn;obtain⟨g1,g2⟩:=(lI _).1 hn;rw[aD hh]at g2;rw[hi2,lZ,_root_.if_pos];right;left;refine⟨?_,g2⟩;simp only[List.head?_cons,Option.some.injEq]at g2;cases r with
    | nil=>exact absurd (by rw[g2]) g1
    | cons y l=>simp
   ·intro hn;have hno:¬(1<(c::r).length/\(c::r).head?=some 48):=by
     rintro⟨a,b⟩;have:lJ (c::r)=true:=(lI _).2 ⟨λe=>(by rw[e]at a;simp at a),by rw[aD hh];exact b⟩;rw[this]at hn;cases hn
    refine⟨λn h=>?_,λh v hv=>?_⟩
    ·by_cases q:(c::r)=[]\/(1<(c::r).length/\(c::r).head?=some 48)\/(c::r).all dT=false
     ·rw[hi2,lZ,aF q]at h;cases h
     ·have hd:(c::r).all dT=true:=by
       cases hd:(c::r).all dT with
       | false=>exact absurd (.inr (.inr hd)) q
       | true=>rfl
      rw[hi2,lZ,aD q]at h;simp only at h;split at h
      ·rename_i hu;cases h;exact⟨_,(hp _).2 ⟨_,(kR h2 _ _).2 ⟨by simp,hd,rfl,by omega⟩,hu,rfl⟩,by omega⟩
      ·cases h
    ·obtain⟨u,g1,g2,rfl⟩:=(hp v).1 hv;obtain⟨a1,a2,a3,_⟩:=(kR h2 _ u).1 g1;rw[hi2,lZ,aD (λh=>or3 h (λh=>a1 h) (λh=>hno h) λh=>by rw[a2]at h;cases h)]at h;simp only[a3]at h;rw[aF g2]at h;cases h
end Go.Note
namespace Go.Proofs.YtlfhjkgdlclddaaGreatDoor
open Go Go.Sv Go.Note
attribute [local irreducible] aS
structure LW(w:World):Prop where
 ut:UT w
 syn:∃te pe,w.cell? ⟨1,0,none⟩=some (.iface te pe)
 ran:∃te pe,w.cell? ⟨2,0,none⟩=some (.iface te pe)
 pow:Lib.TabIs Tryz.prog w "internal/strconv.uint64pow10" .u64 Lib.pow10Tab
 size:8<=w.heap.size
theorem LW.ch{w w':World}(h:LW w){Q:Nat->Prop}(c:Ch Q w w')(hn:∀b,b<8->¬Q b):LW w':=by
 have hz:=h.size;have e:∀b,b<8->w'.cell? ⟨b,0,none⟩=w.cell? ⟨b,0,none⟩:=λb hb=>World.cell?_of_block (a:=⟨b,0,none⟩) (c.keep b (by omega) (hn b hb));refine⟨h.ut.ch (by omega) c (hn _ (by omega)) (hn _ (by omega)),by rw[e _ (by omega)];exact h.syn,by rw[e _ (by omega)];exact h.ran,?_,by have:=c.size;omega⟩;have hp:=h.pow;unfold Lib.TabIs World.var? at hp ⊢;have hg:Tryz.prog.globalNamed "internal/strconv.uint64pow10" = some 0:=by kernel_rfl
 rw[hg]at hp ⊢;simp only[Option.bind_some]at hp ⊢;rw[c.keep _ (by omega) (hn _ (by omega))];exact hp
theorem LW.ch0{w w':World}(h:LW w)(c:Ch (λ_=>False) w w'):LW w':=h.ch c λ_ _ h=>h
theorem LW.chr{w w':World}(h:LW w){rb:Nat}(hr:8<=rb)(c:Ch (·=rb) w w'):LW w':=h.ch c λb hb e=>by omega
theorem pB(w:World)(e:TypeId)(s:ByteArray):Ch (λ_=>False) w (Lib.bytesWorld w e s):=fF (Lib.bytesWorld_below w e s)
def PUR(B:Nat)(s:ByteArray)(w:World)(e:Ending)(w':World):Prop :=
 Ch (λ_=>False) w w'/\∃(n:Nat) (v:Value),e=.returned (.tuple #[.int .u64 (n:Int),v])/\isI v=true/\((jV v=true/\Lib.parseUintB B s.data.toList=.ok n)\/(jV v=false/\∀u,Lib.parseUintB B s.data.toList≠.ok u))
def PIR(B:Nat)(s:ByteArray)(w:World)(e:Ending)(w':World):Prop :=
 Ch (λ_=>False) w w'/\∃(n:Int) (v:Value),e=.returned (.tuple #[.int .i64 n,v])/\isI v=true/\((jV v=true/\Lib.parseIntB B s.data.toList=.ok n)\/(jV v=false/\∀u,Lib.parseIntB B s.data.toList≠.ok u))
theorem aHu{P:Program}{f:FuncId}{args:Array Value}{B X:Nat}{s:ByteArray}{w:World}{ty t:TypeId}{p p':Nat->Value}{Q Q':Nat->World->Prop}
 (h1:∀u,Lib.parseUintB B s.data.toList=.ok u->Calls P f args w λe w'=>e=.returned (.tuple #[.int .u64 (u:Int),.nilIface])/\(w'=w\/w'=Lib.bytesWorld w ty s))
 (h2:Lib.parseUintB B s.data.toList=.range->Calls P f args w λe w'=>∃N,e=.returned (.tuple #[.int .u64 (X:Int),.iface t (p N)])/\w.heap.size<=N/\Q N w'/\RowKit.Below w.heap.size w w')
 (h3:Lib.parseUintB B s.data.toList=Lib.parseUintB 64 []->Calls P f args w λe w'=>∃N,e=.returned (.tuple #[.int .u64 0,.iface t (p' N)])/\w.heap.size<=N/\Q' N w'/\RowKit.Below w.heap.size w w'):Calls P f args w (PUR B s w):=by
 cases hr:Lib.parseUintB B s.data.toList
 case ok u =>
  refine(h1 u hr).mono ?_;rintro e w' ⟨rfl,hw⟩;refine⟨?_,u,_,rfl,rfl,.inl ⟨rfl,hr⟩⟩;rcases hw with rfl|rfl
  ·exact Ch.refl _ _
  ·exact pB ..
 case range =>
  refine(h2 hr).mono ?_;rintro e w' ⟨N,rfl,_,_,hb⟩;exact⟨fF hb,X,_,rfl,rfl,.inr ⟨rfl,λu h=>by rw[hr]at h;cases h⟩⟩
 ·refine(h3 hr).mono ?_;rintro e w' ⟨N,rfl,_,_,hb⟩;exact⟨fF hb,0,_,rfl,rfl,.inr ⟨rfl,λu h=>by rw[hr]at h;cases h⟩⟩
theorem aHx{P:Program}{f:FuncId}{args:Array Value}{B:Nat}{X:Int}{s:ByteArray}{w:World}{ty t:TypeId}{p p':Nat->Value}{Q Q':Nat->World->Prop}
 (h1:∀u,Lib.parseIntB B s.data.toList=.ok u->Calls P f args w λe w'=>e=.returned (.tuple #[.int .i64 u,.nilIface])/\(w'=w\/∃t,w'=Lib.bytesWorld w ty t))
 (h2:Lib.parseIntB B s.data.toList=.range->Calls P f args w λe w'=>∃N,e=.returned (.tuple #[.int .i64 X,.iface t (p N)])/\w.heap.size<=N/\Q N w'/\RowKit.Below w.heap.size w w')
 (h3:Lib.parseIntB B s.data.toList=Lib.parseIntB 64 []->Calls P f args w λe w'=>∃N,e=.returned (.tuple #[.int .i64 0,.iface t (p' N)])/\w.heap.size<=N/\Q' N w'/\RowKit.Below w.heap.size w w'):Calls P f args w (PIR B s w):=by
 cases hr:Lib.parseIntB B s.data.toList
 case ok u =>
  refine(h1 u hr).mono ?_;rintro e w' ⟨rfl,hw⟩;refine⟨?_,u,_,rfl,rfl,.inl ⟨rfl,hr⟩⟩;rcases hw with rfl|⟨t,rfl⟩
  ·exact Ch.refl _ _
  ·exact pB ..
 case range =>
  refine(h2 hr).mono ?_;rintro e w' ⟨N,rfl,_,_,hb⟩;exact⟨fF hb,_,_,rfl,rfl,.inr ⟨rfl,λu h=>by rw[hr]at h;cases h⟩⟩
 ·refine(h3 hr).mono ?_;rintro e w' ⟨N,rfl,_,_,hb⟩;exact⟨fF hb,0,_,rfl,rfl,.inr ⟨rfl,λu h=>by rw[hr]at h;cases h⟩⟩
theorem aMk{w:World}(hL:LW w){B:Nat}(hB:B=8\/B=16\/B=32\/B=64)(s:ByteArray)(hs:s.size<=2^40):Calls Tryz.prog 268 #[.string s,.int .i64 10,.int .i64 (B:Int)] w (PUR B s w):=by
 obtain⟨te,pe,h4⟩:=hL.syn;obtain⟨te',pe',h5⟩:=hL.ran;have o {tt pp}:Value.iface tt pp=.nilIface\/∃te pe,Value.iface tt pp=.iface te pe:=.inr ⟨_,_,rfl⟩;rcases hB with rfl|rfl|rfl|rfl
 ·exact aHu (X:=255) (λu h=>Any.strconv_ParseUint_10_at8_ok Tryz.laysPu14 s (by omega) u h w) (λh=>Any.strconv_ParseUint_10_at8_range Tryz.laysPu14 s (by omega) h _ w h5 o) (λh=>Any.strconv_ParseUint_10_at8_syntax Tryz.laysPu14 s (by omega) h _ w h4 o)
 ·exact aHu (X:=65535) (λu h=>Any.strconv_ParseUint_10_at16_ok Tryz.laysPu14 s (by omega) u h w) (λh=>Any.strconv_ParseUint_10_at16_range Tryz.laysPu14 s (by omega) h _ w h5 o) (λh=>Any.strconv_ParseUint_10_at16_syntax Tryz.laysPu14 s (by omega) h _ w h4 o)
 ·exact aHu (X:=4294967295) (λu h=>Any.strconv_ParseUint_10_at32_ok Tryz.laysPu14 s (by omega) u h w) (λh=>Any.strconv_ParseUint_10_at32_range Tryz.laysPu14 s (by omega) h _ w h5 o) (λh=>Any.strconv_ParseUint_10_at32_syntax Tryz.laysPu14 s (by omega) h _ w h4 o)
 ·exact aHu (X:=18446744073709551615) (λu h=>Any.strconv_ParseUint_10_at64_ok Tryz.laysPu14 s (by omega) u h w) (λh=>Any.strconv_ParseUint_10_at64_range Tryz.laysPu14 s (by omega) h _ w h5 o) (λh=>Any.strconv_ParseUint_10_at64_syntax Tryz.laysPu14 s (by omega) h _ w h4 o)
theorem aPk{w:World}(hL:LW w){B:Nat}(hB:B=8\/B=16\/B=32\/B=64)(s:ByteArray)(hs:s.size<=2^40):Calls Tryz.prog 267 #[.string s,.int .i64 10,.int .i64 (B:Int)] w (PIR B s w):=by
 obtain⟨te,pe,h4⟩:=hL.syn;obtain⟨te',pe',h5⟩:=hL.ran;have o {tt pp}:Value.iface tt pp=.nilIface\/∃te pe,Value.iface tt pp=.iface te pe:=.inr ⟨_,_,rfl⟩;rcases hB with rfl|rfl|rfl|rfl
 ·exact aHx (λu h=>Any.strconv_ParseInt_10_at8_ok Tryz.laysC174 s (by omega) u h w) (λh=>Any.strconv_ParseInt_10_at8_range Tryz.laysC174 s (by omega) h _ w h5 o) (λh=>Any.strconv_ParseInt_10_at8_syntax Tryz.laysC174 s (by omega) h _ w h4 o)
 ·exact aHx (λu h=>Any.strconv_ParseInt_10_at16_ok Tryz.laysC174 s (by omega) u h w) (λh=>Any.strconv_ParseInt_10_at16_range Tryz.laysC174 s (by omega) h _ w h5 o) (λh=>Any.strconv_ParseInt_10_at16_syntax Tryz.laysC174 s (by omega) h _ w h4 o)
 ·exact aHx (λu h=>Any.strconv_ParseInt_10_at32_ok Tryz.laysC174 s (by omega) u h w) (λh=>Any.strconv_ParseInt_10_at32_range Tryz.laysC174 s (by omega) h _ w h5 o) (λh=>Any.strconv_ParseInt_10_at32_syntax Tryz.laysC174 s (by omega) h _ w h4 o)
 ·exact aHx (λu h=>Any.strconv_ParseInt_10_at64_ok Tryz.laysC174 s (by omega) u h w) (λh=>Any.strconv_ParseInt_10_at64_range Tryz.laysC174 s (by omega) h _ w h5 o) (λh=>Any.strconv_ParseInt_10_at64_syntax Tryz.laysC174 s (by omega) h _ w h4 o)
theorem cT(t:Bs):(ByteArray.mk t.toArray).data.toList=t:=by simp
theorem wA(t:Tok):((pk t:Nat):Int)=1↔t.kind=1:=by
 unfold pk;split<;>omega
theorem xD{t:Tok}(h:t.kind=1):ptx t=t.text:=by unfold ptx;rw[aD,aD]
theorem iZ{S:ByteArray}(hs:S.size<=2^40){rb p:Nat}{w:World}(hr:RS S rb p w)(hL:LW w)(h2:8<=rb){B k:Nat}{sg:Bool}
 (hB:(sg=true/\((B=8/\k=6)\/(B=16/\k=7)\/(B=32/\k=8)\/(B=64/\(k=9\/k=16))))\/(sg=false/\((B=8/\k=2)\/(B=16/\k=3)\/(B=32/\k=4)\/(B=64/\k=5)))) {K:Value->World->Prop} {KP:List PanicEntry->World->Prop}
 (hk:(next S.data.toList p).kind=1->∀n w',iB k (next S.data.toList p).text=some n->RS S rb (next S.data.toList p).fin w'->Ch (·=rb) w w'->K (.int .u64 (n:Int)) w')
 (hp:((next S.data.toList p).kind≠1\/iB k (next S.data.toList p).text=none)->∀w',Ch (λ_=>False) w w'->KP (flt (next S.data.toList p).beg (if(next S.data.toList p).kind=5 then 42 else 41)) w') :
 dL Tryz.prog 210 [.pointer (some ⟨rb,0,none⟩),.int .i64 (B:Int),.bool sg] w K KP:=by
 apply qT;obtain⟨h0,hple⟩:=hr;have h0':=h0;unfold rcl at h0;have hL8:=hL.size;have hlies:=dM S.data.toList p (by rw[sl];exact hple);rw[sl]at hlies;have htx:=(pM S.data.toList (by rw[sl];exact hple:p<=S.data.toList.length)).1;have hlet:=aHq (s:=S.data.toList) (a:=p);have hB4:B=8\/B=16\/B=32\/B=64:=by omega
 simp only[nn,add_at,aL];refine⟨_,aJ h0 4 rfl,?_⟩;have bad:(next S.data.toList p).kind≠1\/iB k (next S.data.toList p).text=none->∀ {K':Value->World->Prop} w',Ch (λ_=>False) w w'->dL Tryz.prog 108 [.pointer (some ⟨rb,0,none⟩),.int .i64 41] w' K' KP:=λh K' w' c =>
  gD (e:=41) (RS.ch ⟨h0',hple⟩ c id) (hp h w' c)
 refine⟨λw1=>w1=w/\(next S.data.toList p).kind=1/\lJ (next S.data.toList p).text=false,?_,?_⟩
 ·rintro w1 ⟨rfl,hk1,hno⟩;rw[xD hk1];have htl:(ByteArray.mk (next S.data.toList p).text.toArray).size<=2^40:=by have:=htx (by omega) (by omega);simp[ByteArray.size];omega
  rcases hB with⟨rfl,hB⟩|⟨rfl,hB⟩
  ·refine iH ?_;have hrd:=(aKl (hlet hk1) hB).2 hno;refine(aPk hL hB4 ⟨(next S.data.toList p).text.toArray⟩ htl).mono ?_;rintro e w2 ⟨c2,n,v,rfl,hi,hv⟩;rw[cT]at hv;refine .inl ⟨_,rfl,_,_,rfl,λw3=>w3=w2/\jV v=true,?_,hi,?_⟩
   ·rintro w3 ⟨rfl,hnil⟩;refine bZ (jJ hs (RS.ch ⟨h0',hple⟩ c2 id) ((hL.ch0 c2).ut) (by omega) λw4 r4 c4=>⟨_,_,_,rfl,?_⟩);rcases hv with⟨_,hv⟩|⟨hv,_⟩
    ·simp only[cF];cases hi:iB k (next S.data.toList p).text with
     | none=>exact absurd hv (hrd.2 hi n)
     | some j =>
      obtain⟨v',g1,g2⟩:=hrd.1 j hi;rw[g1]at hv;cases hv;have e:IntKind.wrap .u64 n=(j:Int):=by rw[<-g2];rfl
      rw[e];exact hk hk1 j w4 hi r4 ((c2.mono λ_ _ h=>h.elim).trans' c4)
    ·rw[hv]at hnil;cases hnil
   ·refine aC (λh=>?_) (λh=>⟨by trivial,by simpa using h⟩);rcases hv with⟨hv,_⟩|⟨_,hv⟩
    ·rw[hv]at h;cases h
    ·refine bad (.inr ?_) w2 c2;cases hi:iB k (next S.data.toList p).text with
     | none=>rfl
     | some j =>
      obtain⟨v',g1,g2⟩:=hrd.1 j hi;exact absurd g1 (hv v')
  ·refine dJ ?_;have hrd:=(aF5 (s:=(next S.data.toList p).text) hB).2 hno;refine(aMk hL hB4 ⟨(next S.data.toList p).text.toArray⟩ htl).mono ?_;rintro e w2 ⟨c2,n,v,rfl,hi,hv⟩;rw[cT]at hv;refine .inl ⟨_,rfl,_,_,rfl,λw3=>w3=w2/\jV v=true,?_,hi,?_⟩
   ·rintro w3 ⟨rfl,hnil⟩;refine bZ (jJ hs (RS.ch ⟨h0',hple⟩ c2 id) ((hL.ch0 c2).ut) (by omega) λw4 r4 c4=>⟨_,_,_,rfl,?_⟩);rcases hv with⟨_,hv⟩|⟨hv,_⟩
    ·exact hk hk1 n w4 ((hrd n).1 hv) r4 ((c2.mono λ_ _ h=>h.elim).trans' c4)
    ·rw[hv]at hnil;cases hnil
   ·refine aC (λh=>?_) (λh=>⟨by trivial,by simpa using h⟩);rcases hv with⟨hv,_⟩|⟨_,hv⟩
    ·rw[hv]at h;cases h
    ·refine bad (.inr ?_) w2 c2;cases hi:iB k (next S.data.toList p).text with
     | none=>rfl
     | some j=>exact absurd ((hrd j).2 hi) (hv j)
 ·refine⟨_,aJ h0 2 rfl,?_⟩;rw[eJ,Bool.not_not];refine aC (λh=>?_) (λh=>bad (.inl λe=>aA h ((wA _).2 e)) w (Ch.refl _ _));have hk1:=(wA _).1 (aB h);rw[xD hk1];have hnone:lJ (next S.data.toList p).text=true->iB k (next S.data.toList p).text=none:=by
   rcases hB with⟨_,hB⟩|⟨_,hB⟩
   ·exact(aKl (hlet hk1) hB).1
   ·exact(aF5 hB).1
  rw[show(ByteArray.mk (Array.mk [(48:UInt8)]))=⟨([48]:Bs).toArray⟩ by rfl,nX];refine aC (λh48=>?_) (λh48=>⟨by trivial,hk1,?_⟩)
  ·have h48:(next S.data.toList p).text≠[48]:=by simpa using h48
   refine bZ ((Tryz.strings_TrimPrefix _ _ _).mono ?_);rintro e w1 ⟨rfl,rfl⟩;refine⟨_,rfl,_,rfl,?_⟩;refine bZ ((Tryz.strings_HasPrefix _ _ _).mono ?_);rintro e w2 ⟨rfl,rfl⟩;refine⟨_,rfl,_,rfl,?_⟩;rw[cT,cT];have he:lJ (next S.data.toList p).text=Lib.hasPrefix (Lib.trimPrefix (next S.data.toList p).text [45]) [48]:=by
    unfold lJ;rw[aR h48,Bool.true_and]
   rw[show(ByteArray.mk (Array.mk [(45:UInt8)])).data.toList=[45] by rfl,<-he];refine aC (λh=>bad (.inr (hnone h)) _ (Ch.refl _ _)) (λh=>⟨by trivial,hk1,h⟩)
  ·have h48:(next S.data.toList p).text=[48]:=by simpa using h48
   rw[h48];rfl
end Go.Proofs.YtlfhjkgdlclddaaGreatDoor
namespace Go.Proofs
open Go.Shelf
def Tryz.lays160_ren:Go.Shelf.Ren:=⟨fun|160=>269|232=>284|231=>98|227=>99|234=>285|233=>100|236=>286|235=>101|228=>136|271=>300|151=>138|197=>137|120=>307|152=>198|260=>197|137=>145|119=>211|224=>218|225=>217|217=>204|266=>264|n=>n,fun|9=>9|4=>4|3=>3|5=>5|117=>131|116=>130|0=>0|124=>134|21=>21|105=>179|46=>73|119=>254|139=>257|138=>256|n=>n,fun|3=>4|4=>5|n=>n⟩
theorem Tryz.lays160:Go.Proofs.Lays.n160 Tryz.prog Tryz.lays160_ren:=by constructor<;>first|kernel_rfl|(intro w;kernel_rfl)|(constructor<;>first|kernel_rfl|(intro w;kernel_rfl)|(constructor<;>first|kernel_rfl|(intro w;kernel_rfl)))
end Go.Proofs
namespace Go.Proofs.YtlfhjkgdlclddaaGreatDoor
open Go Go.Sv Go.Note
attribute [local irreducible] aS
theorem aDp:InfoIs Tryz.prog 5 1 1 (.int .u8 0):=.of (by kernel_rfl) (by kernel_rfl) (by kernel_rfl)
theorem tH{w:World}(l c:Nat)(hl:l<=c)(hc:c<=2^41):∃w',(Instr.makeSlice 22 (.int .i64 (l:Int)) (.int .i64 (c:Int))).run Tryz.prog w=.ok (.slice (some ⟨w.heap.size,0,none⟩) l c) w' /\
 blk w' w.heap.size=some (aV (List.replicate c 0))/\Ch (λ_=>False) w w'/\w'.heap.size=w.heap.size+1:=by
 obtain⟨i,hi,h1,h2,h3⟩:=aDp;have hr:=run_make (P:=Tryz.prog) w 22 5 i _ Tryz.underlying22 hi h3 .i64 .i64 (l:Int) (c:Int) (by omega) (by omega) (by rw[h2];omega) (by omega);rw[aM,aM,h1,Nat.mul_one]at hr;have hm:madeCells (Value.int .u8 0).cells c=(aV (List.replicate c 0)).toArray:=by
  apply Array.ext';apply List.ext_getElem
  ·simp[madeCells]
  ·intro j g1 g2;simp[madeCells,aV,Value.cells,Nat.mod_one]
 rw[hm]at hr;exact⟨_,hr,nF w _ _,eV w _,by simp⟩
theorem w64{n:Int}(h0:0<=n)(h1:n<18446744073709551616):IntKind.wrap .u64 n=n:=by
 unfold IntKind.wrap;simp[IntKind.bits,IntKind.signed];omega
theorem aWj{m x:Nat}(hm:m<72057594037927936)(hx:x<256):cL .or .u64 ((m*256:Nat):Int) (x:Int)=((m*256+x:Nat):Int):=by
 have e:cL .or .u64 ((m*256:Nat):Int) (x:Int)=IntKind.wrap .u64 ((BitVec.ofInt 64 ((m*256:Nat):Int) ||| BitVec.ofInt 64 (x:Int)).toNat:Int):=rfl;have o:∀n:Nat,BitVec.ofInt 64 (n:Int)=BitVec.ofNat 64 n:=λn=>by
  apply BitVec.eq_of_toNat_eq;simp[BitVec.toNat_ofInt]
 rw[e,o,o,BitVec.toNat_or,BitVec.toNat_ofNat,BitVec.toNat_ofNat,Nat.mod_eq_of_lt (by omega),Nat.mod_eq_of_lt (by omega)];have h2:m*256 ||| x=m*256+x:=by
  have:=Nat.shiftLeft_add_eq_or_of_lt (i:=8) (b:=x) (by omega) m;rw[Nat.shiftLeft_eq]at this;exact this.symm
 rw[h2];exact w64 (by omega) (by omega)
theorem aIm{p:Option Addr}{n c a k:Nat}{l:List UInt8}{w:World}{K:Value->World->Prop}(hp:Rd w p n 1 (aV l))(hn:n<=c)(hc:n<=2^46)(h1:1<=k)(h8:k<=8)(ha:a+k<=n)
 (hk:K (.tuple #[.int .u64 (beN ((l.drop a).take k):Int),.int .i64 0]) w):bK Tryz.prog 135 [.slice p n c,.int .i64 (a:Int),.int .i64 (k:Int)] w K:=by
 have hl:l.length=n:=by have:=hp.1;simpa using this
 refine aH2 ?_;refine⟨λw1=>w1=w,?_,aC (λ_=>aC (λ_=>aC (λ_=>aC (λh=>?_) λ_=>aC (λh=>?_) λ_=>rfl) λh=>?_) λh=>?_) λh=>?_⟩
 rotate_left
 ·have:(a:Int)>n:=by simpa using h
  omega
 ·rw[aW]at h;have:(n:Int)-a<k:=by simpa using h
  omega
 ·have:(a:Int)<0:=by simpa using h
  omega
 ·have:¬(k:Int)<=8:=by simpa using h
  omega
 ·have:(k:Int)<1:=by simpa using h
  omega
 rintro w1 rfl;rw[aW (n:=(a:Int)+k)];have ea:((a:Int)+k).toNat=a+k:=by omega
 simp only[ea,aM];refine⟨by omega,by omega,by omega,by omega,λm v i w'=>w'=w1/\0<=i/\i<=k/\m=k-i.toNat/\v=(beN ((l.drop a).take i.toNat):Int),⟨k,rfl,by omega,by omega,rfl,by simp[beN]⟩,?_⟩;rintro m v i w2 ⟨rfl,h0,hik,rfl,rfl⟩;refine aC (λhlt=>?_) λhge=>?_
 ·have hlt':i<k:=by have:i<((a+k-a:Nat):Int):=by simpa using hlt
                    omega
  refine⟨h0,by omega,?_⟩;obtain⟨bk,o,rfl,hcell⟩:=hp.cell (i:=a+i.toNat) (by omega);have hx:a+i.toNat<l.length:=by omega
  have hs:gI (some ⟨bk,o,none⟩) a c 1=some ⟨bk,o+a,none⟩:=by
   unfold gI;rw[aD];simp
  rw[hs];simp only[nn,add_at,Nat.mul_one];refine⟨(l[a+i.toNat].toNat:Int),?_,by omega,?_⟩
  ·show _=_;rw[Nat.add_assoc,hcell];simp[aV,hx]
  have hx2:i.toNat<(l.drop a).length:=by simp;omega
  have ht:((l.drop a).take i.toNat).length=i.toNat:=by simp;omega
  have hlt2:=aTw ((l.drop a).take i.toNat);rw[ht]at hlt2;have h7:256^i.toNat<=256^7:=Nat.pow_le_pow_right (by decide) (by omega);have hb:=l[a+i.toNat].toNat_lt;have hm:beN ((l.drop a).take i.toNat)<72057594037927936:=Nat.lt_of_lt_of_le hlt2 (Nat.le_trans h7 (by decide));have e1:IntKind.wrap .u64 ((beN ((l.drop a).take i.toNat):Int)*2^8)=((beN ((l.drop a).take i.toNat)*256:Nat):Int):=by
   rw[w64 (by omega) (by omega)];omega
  rw[e1,w64 (n:=(l[a+i.toNat].toNat:Int)) (by omega) (by omega),aWj hm hb];simp only[cF];rw[aW];refine⟨k-(i+1).toNat,by omega,by trivial,by omega,by omega,by trivial,?_⟩;have e:(i+1).toNat=i.toNat+1:=by omega
  rw[e,List.take_succ_eq_append_getElem hx2,aE0,List.getElem_drop];omega
 ·have:i=k:=by have:¬i<((a+k-a:Nat):Int):=by simpa using hge
               omega
  subst this;simpa using hk
def zR(x:UInt8):Bool:=(decide (48<=x.toNat) && decide (x.toNat<=57)) || (decide (97<=x.toNat) && decide (x.toNat<=102))
theorem xR(x:UInt8):([48,49,50,51,52,53,54,55,56,57,97,98,99,100,101,102]:List UInt8).contains x=zR x:=by
 have key:∀x:Fin 256,([48,49,50,51,52,53,54,55,56,57,97,98,99,100,101,102]:List UInt8).contains (UInt8.ofNat x.val)=zR (UInt8.ofNat x.val):=by decide +kernel
 have:=key ⟨x.toNat,x.toNat_lt⟩;simpa using this
theorem vQ{α:Type}(p:α->Bool)(l:List α):l.dropWhile p=[]↔∀x∈l,p x=true:=by
 induction l with
 | nil=>simp
 | cons x l ih =>
  rw[List.dropWhile_cons];split
  ·rename_i h;rw[ih];simp[h]
  ·rename_i h;simp[h]
theorem aQ5(l:Bs):Lib.trimS l [48,49,50,51,52,53,54,55,56,57,97,98,99,100,101,102]=[]↔∀x∈l,zR x=true:=by
 unfold Lib.trimS Lib.trimLeftS;simp only[xR];rw[vQ];unfold Lib.trimRightS;simp only[xR];constructor
 ·intro h;by_cases hr:l.reverse.dropWhile zR=[]
  ·intro x hx;exact(vQ _ _).1 hr x (by simp[hx])
  ·exfalso;obtain⟨y,t,hy⟩:=List.exists_cons_of_ne_nil hr;have h1:=h y (by simp[hy]);have h2:zR y=false:=by
    have:=List.head?_dropWhile_not zR l.reverse;rw[hy]at this;simpa using this
   rw[h2]at h1;cases h1
 ·intro h x hx;have:=List.mem_reverse.1 hx;exact h x (List.mem_reverse.1 ((List.dropWhile_sublist _).mem this))
theorem oE(x:UInt8):(eH x false).isSome=zR x/\∀n,eH x false=some n->eH x true=some n/\n<16:=by
 unfold eH zR;have:=x.toNat_lt;split
 ·rename_i h;simp[h];try omega
 ·split
  ·rename_i h1 h2;simp[h1,h2];try omega
  ·rename_i h1 h2;rw[aD (by simp)];simp;omega
theorem wG:∀(n:Nat) (l:Bs),l.length=2*n->((∀x∈l,zR x=true)↔(dR l).isSome=true)
 | 0,l,h=>by
  have:l=[]:=bI (by omega);subst this;simp[dR]
 | n+1,l,h=>by
  match l,h with
  | [],h=>simp at h
  | [_],h=>simp at h;omega
  | a::b::l,h =>
   simp only[aI]at h;have ih:=wG n l (by omega);have ha:=(oE a).1;have hb:=(oE b).1;have e:dR (a::b::l)=match eH a false,eH b false,dR l with
    | some x,some y,some r=>some ((16*x+y).toUInt8::r)
    | _,_,_=>none:=rfl
   have he:(dR (a::b::l)).isSome=(zR a && zR b && (dR l).isSome):=by
    rw[e,<-ha,<-hb];cases eH a false<;>cases eH b false<;>cases dR l<;>rfl
   rw[he,bH,bH,<-ih];simp only[List.mem_cons,forall_eq_or_imp,and_assoc]
theorem aC1:∀(l b:Bs),dR l=some b->∀i x,b[i]?=some x->∃u v m n,l[2*i]?=some u/\l[2*i+1]?=some v/\eH u false=some m/\eH v false=some n/\x=(16*m+n).toUInt8
 | [],b,h,i,x,hx=>by simp[dR]at h;subst h;simp at hx
 | [_],b,h,i,x,hx=>by simp[dR]at h
 | u::v::l,b,h,i,x,hx=>by
  simp only[dR]at h;cases hu:eH u false with
  | none=>rw[hu]at h;simp at h
  | some m =>
   cases hv:eH v false with
   | none=>rw[hu,hv]at h;simp at h
   | some n =>
    cases hp:dR l with
    | none=>rw[hu,hv,hp]at h;simp at h
    | some r =>
     rw[hu,hv,hp]at h;simp only[Option.some.injEq]at h;subst h;cases i with
     | zero =>
      simp only[List.getElem?_cons_zero,Option.some.injEq]at hx;exact⟨u,v,m,n,rfl,rfl,hu,hv,hx.symm⟩
     | succ i =>
      simp only[List.getElem?_cons_succ]at hx;obtain⟨u',v',m',n',g1,g2,g3⟩:=aC1 l r hp i x hx;refine⟨u',v',m',n',?_,?_,g3⟩
      ·rw[show 2*(i+1)=2*i+1+1 by omega];simpa using g1
      ·rw[show 2*(i+1)+1=2*i+1+1+1 by omega];simpa using g2
theorem zY{S:ByteArray}(hs:S.size<=2^40){rb p j:Nat}(hj:j<=16){w:World}(hr:RS S rb p w)(hL:LW w)(h2:8<=rb){K:Value->World->Prop}{KP:List PanicEntry->World->Prop}
 (hk:(next S.data.toList p).kind=1->∀b q c w',jZ (next S.data.toList p).text (2*j)=some b->b.length=j->Rd w' q j 1 (aV b)->j<=c->RS S rb (next S.data.toList p).fin w'->Ch (·=rb) w w'->K (.slice q j c) w')
 (hp:((next S.data.toList p).kind≠1\/jZ (next S.data.toList p).text (2*j)=none)->∀w',Ch (λ_=>False) w w'->KP (flt (next S.data.toList p).beg (if(next S.data.toList p).kind=5 then 42 else 41)) w') :
 dL Tryz.prog 212 [.pointer (some ⟨rb,0,none⟩),.int .i64 ((2*j:Nat):Int)] w K KP:=by
 apply sA;obtain⟨h0,hple⟩:=hr;have h0':=h0;unfold rcl at h0;have hlies:=dM S.data.toList p (by rw[sl];exact hple);rw[sl]at hlies;have htx:=(pM S.data.toList (by rw[sl];exact hple:p<=S.data.toList.length)).1;simp only[nn,add_at,aL];refine⟨_,aJ h0 4 rfl,?_⟩;have bad:(next S.data.toList p).kind≠1\/jZ (next S.data.toList p).text (2*j)=none->∀ {K':Value->World->Prop} w',Ch (λ_=>False) w w'->dL Tryz.prog 108 [.pointer (some ⟨rb,0,none⟩),.int .i64 41] w' K' KP:=λh K' w' c =>
  gD (e:=41) (RS.ch ⟨h0',hple⟩ c id) (hp h w' c)
 have hsz:(ByteArray.mk (next S.data.toList p).text.toArray).size=(next S.data.toList p).text.length:=by simp[ByteArray.size]
 refine⟨λw1=>Ch (λ_=>False) w w1/\(next S.data.toList p).kind=1/\(next S.data.toList p).text.length=2*j/\∀x∈(next S.data.toList p).text,zR x=true,?_,?_⟩
 ·rintro w1 ⟨c1,hk1,hlen,hall⟩;rw[xD hk1];have hsome:=(wG j _ hlen).1 hall;obtain⟨b,hb⟩:∃b,dR (next S.data.toList p).text=some b:=by
   cases h:dR (next S.data.toList p).text with
   | none=>rw[h]at hsome;cases hsome
   | some b=>exact⟨b,rfl⟩
  have hbl:b.length=j:=by have:=aC0 _ _ _ hlen hb;omega
  have hB:jZ (next S.data.toList p).text (2*j)=some b:=by unfold jZ;rw[aF hlen,hb]
  have hdiv:Int.tdiv ((2*j:Nat):Int) 2=(j:Int):=by
   rw[Int.tdiv_eq_ediv_of_nonneg (by omega)];omega
  rw[hdiv,aW (n:=(j:Int))];obtain⟨w2,m1,m2,c2,z2⟩:=tH (w:=w1) j j (aQ _) (by omega);refine⟨by decide,_,_,_,w2,m1,?_⟩;generalize hbk:w1.heap.size=bk at m2;have hnb:¬(bk=rb):=by have:=aH h0;have:=c1.size;omega
  have hbw:w.heap.size<=bk:=by have:=c1.size;omega
  refine⟨λm i w3=>∃k:Nat,i=(k:Int)/\k<=j/\m=j-k/\blk w3 bk=some (aV (b.take k++List.replicate (j-k) 0))/\Ch (λ_=>False) w w3,⟨j,0,rfl,bQ _,rfl,by rw[m2];simp,c1.trans' c2⟩,?_⟩;rintro m i w3 ⟨k,rfl,hkj,rfl,b3,c3⟩;refine aC (λh=>?_) (λh=>?_)
  ·have hkl:k<j:=by have:=aB h;omega
   rw[aW (n:=2*(k:Int)),aW (n:=2*(k:Int)+1),hsz,hlen];refine⟨by omega,by omega,by omega,by omega,?_⟩;obtain⟨x,hx⟩:∃x,b[k]?=some x:=⟨b[k]'(by omega),aK _⟩;obtain⟨u,v,mm,nn',g1,g2,g3,g4,g5⟩:=aC1 _ _ hb k x hx;have e1:cH (ByteArray.mk (next S.data.toList p).text.toArray) (2*(k:Int)).toNat=(u.toNat:Int):=eZ (by rw[show(2*(k:Int)).toNat=2*k by omega,cT];exact g1);have e2:cH (ByteArray.mk (next S.data.toList p).text.toArray) (2*(k:Int)+1).toNat=(v.toNat:Int):=eZ (by rw[show(2*(k:Int)+1).toNat=2*k+1 by omega,cT];exact g2);rw[e1,e2];obtain⟨u1,u2⟩:=(oE u).2 mm g3;obtain⟨v1,v2⟩:=(oE v).2 nn' g4;refine bZ (uE u1 ⟨_,rfl,by omega,?_⟩);refine bZ (uE v1 ⟨_,rfl,by omega,by omega,?_⟩);rw[aLl mm nn' u2 v2,<-g5];simp only[aM,Nat.mul_one,add_at,aL];have b3':blk w3.drew bk=some (aV (b.take k++List.replicate (j-k) 0)):=b3;refine eK b3' (by simp[aV];omega) λw4 b4 c4 z4=>?_;rw[aW (n:=(k:Int)+1)];refine⟨j-(k+1),by omega,k+1,by omega,by omega,rfl,?_,(c3.trans' (Ch.drew _)).trans c4 λx hx h=>by omega⟩;rw[b4];congr 1;have e:(Value.int .u8 (x.toNat:Int))=(λb:UInt8=>Value.int .u8 (b.toNat:Int)) x:=rfl;unfold aV;rw[e,<-List.map_set];congr 1;rw[show j-k=(j-(k+1))+1 by omega,List.replicate_succ,List.set_append_right _ _ (by simp;omega),aU,show k+0-min k b.length=0 by omega,List.set_cons_zero,kG,hx];simp
  ·have hkl:k=j:=by have:=aA h;omega
   subst hkl;have hL3:LW w3:=hL.ch0 c3;refine bZ (jJ hs (RS.ch ⟨h0',hple⟩ c3 id) hL3.ut (by omega) λw4 r4 c4=>⟨_,_,_,rfl,?_⟩);refine hk hk1 b _ _ w4 hB hbl ?_ (aQ _) r4 ((c3.mono λ_ _ h=>h.elim).trans' c4);have b4:blk w4 bk=some (aV b):=by
    rw[c4.blk (aH b3) hnb,b3,aY (by omega)];simp
   exact⟨by simp[aV,hbl],.inr ⟨bk,0,_,rfl,gX b4,by simp[aV,hbl],by rw[bS,aY (by simp[aV,hbl])]⟩⟩
 ·refine⟨_,aJ h0 2 rfl,?_⟩;rw[eJ,Bool.not_not];refine aC (λh=>?_) (λh=>bad (.inl λe=>aA h ((wA _).2 e)) w (Ch.refl _ _));have hk1:=(wA _).1 (aB h);rw[xD hk1,hsz,eJ,Bool.not_not];refine aC (λhl=>?_) (λhl=>bad (.inr ?_) w (Ch.refl _ _))
  ·have hl:(next S.data.toList p).text.length=2*j:=by have:=aB hl;omega
   refine bZ ((Any.strings_Trim_laid Tryz.lays160 (by kernel_rfl) ⟨(next S.data.toList p).text.toArray⟩ (ByteArray.mk #[48,49,50,51,52,53,54,55,56,57,97,98,99,100,101,102]) w (by rw[hsz];omega) (by decide) (ascii_of_all (by decide))).mono ?_);rintro e w1 ⟨rfl,hbel⟩;have c1:=fF hbel;refine⟨_,rfl,_,rfl,?_⟩;rw[show(ByteArray.mk (Array.mk ([]:List UInt8)))=⟨([]:Bs).toArray⟩ by rfl,nX,cT];have ht:=aQ5 (next S.data.toList p).text;refine aC (λh=>bad (.inr ?_) w1 c1) (λh=>⟨c1,hk1,hl,?_⟩)
   ·have hno:¬(∀x∈(next S.data.toList p).text,zR x=true):=λhall=>by
     have:=ht.2 hall;rw[bG]at h;exact aA h this
    unfold jZ;rw[aF hl];cases hpb:dR (next S.data.toList p).text with
    | none=>rfl
    | some b=>exact absurd ((wG j _ hl).2 (by rw[hpb];rfl)) hno
   ·rw[bF]at h;exact ht.1 (aB h)
  ·unfold jZ;rw[_root_.if_neg];intro e;exact aA hl (by omega)
def SL0:SL:=⟨none,0,0,none⟩
def one(k:Int)(n:Nat)(t:Bs):MV:=.mk k n t SL0 0 []
theorem rS(k:Int)(n:Nat)(t:Bs):(one k n t).m=.mk k n t 0 []:=by unfold one;rw[MV.m_mk];rfl
theorem mI(w:World)(k:Int)(n:Nat)(t:Bs):VO w (one k n t):=VO.none
theorem rT(k:Int)(n:Nat)(t:Bs):(one k n t).B=[]:=by unfold one;rw[MV.B_mk];rfl
theorem st5{w:World}{k:Nat}{zs:List Value}{x:MV}{K:World->Prop}(h:blk w k=some zs)(hl:zs.length=5)(hk:∀w',blk w' k=some x.g->Ch (·=k) w w'->w'.heap.size=w.heap.size->K w') :
 Sv.st w ⟨k,0,none⟩ (.int .i64 x.k) λw1=>Sv.st w1 ⟨k,1,none⟩ (.int .u64 (x.n:Int)) λw2=>Sv.st w2 ⟨k,2,none⟩ (.string ⟨x.t.toArray⟩) λw3=>Sv.st w3 ⟨k,3,none⟩ (.slice x.s.p x.s.n x.s.c) λw4=>Sv.st w4 ⟨k,4,none⟩ (.int .i64 x.e) λw5=>K w5:=by
 obtain⟨k1,n,t,s,e,l⟩:=x;exact oQ [.int .i64 k1,.int .u64 (n:Int),.string ⟨t.toArray⟩,.slice s.p s.n s.c,.int .i64 e] 0 (K:=K) h (by rw[hl];simp) λw' b c z=>hk w' (by
  rw[b,fX,bW (by simp;omega)];simp[MV.g]) c z
theorem ld5{w:World}{k:Nat}{x:MV}{K:Value->World->Prop}(h:blk w k=some x.g)(hk:K x.v w) :
 ∃n,w.cell? ⟨k,0,none⟩=some (.int .i64 n)/\∃n1,w.cell? ⟨k,1,none⟩=some (.int .u64 n1)/\∃s,w.cell? ⟨k,2,none⟩=some (.string s)/\∃p n2 c,w.cell? ⟨k,3,none⟩=some (.slice p n2 c)/\∃n3,w.cell? ⟨k,4,none⟩=some (.int .i64 n3) /\
  K (.agg (Array.mk [.int .i64 n,.int .u64 n1,.string s,.slice p n2 c,.int .i64 n3])) w:=by
 cases x;exact⟨_,aJ h 0 rfl,_,aJ h 1 rfl,_,aJ h 2 rfl,_,_,_,aJ h 3 rfl,_,aJ h 4 rfl,hk⟩
theorem aWw{w:World}{k:Nat}{zs:List Value}{x:MV}{K:Value->World->Prop}(h:blk w k=some zs)(hl:zs.length=5)(hk:∀w',blk w' k=some x.g->Ch (·=k) w w'->w'.heap.size=w.heap.size->K x.v w') :
 Sv.st w ⟨k,0,none⟩ (.int .i64 x.k) λw1=>Sv.st w1 ⟨k,1,none⟩ (.int .u64 (x.n:Int)) λw2=>Sv.st w2 ⟨k,2,none⟩ (.string ⟨x.t.toArray⟩) λw3=>Sv.st w3 ⟨k,3,none⟩ (.slice x.s.p x.s.n x.s.c) λw4=>Sv.st w4 ⟨k,4,none⟩ (.int .i64 x.e) λw =>
 ∃n,w.cell? ⟨k,0,none⟩=some (.int .i64 n)/\∃n1,w.cell? ⟨k,1,none⟩=some (.int .u64 n1)/\∃s,w.cell? ⟨k,2,none⟩=some (.string s)/\∃p n2 c,w.cell? ⟨k,3,none⟩=some (.slice p n2 c)/\∃n3,w.cell? ⟨k,4,none⟩=some (.int .i64 n3) /\
  K (.agg (Array.mk [.int .i64 n,.int .u64 n1,.string s,.slice p n2 c,.int .i64 n3])) w :=
 st5 h hl λw' b c z=>ld5 b (hk w' b c z)
theorem is5{x:MV}{K:Int->Int->ByteArray->Option Addr->Nat->Nat->Int->Prop}(hk:K x.k (x.n:Int) ⟨x.t.toArray⟩ x.s.p x.s.n x.s.c x.e) :
 ∃n n1 s p n2 c n3,x.v=.agg (Array.mk [.int .i64 n,.int .u64 n1,.string s,.slice p n2 c,.int .i64 n3])/\K n n1 s p n2 c n3:=⟨_,_,_,_,_,_,_,(vv x).symm,hk⟩
theorem aMj(t:Tok):((pk t:Nat):Int)=2↔t.kind=2:=by
 unfold pk;split<;>omega
theorem aRu(t:Tok):((pk t:Nat):Int)=3↔t.kind=3:=by
 unfold pk;split<;>omega
theorem pF{t:Tok}(h:t.kind<4):ptx t=t.text:=by unfold ptx;rw[aD,aD]
theorem aNv{S:ByteArray}(hs:S.size<=2^40){rb p k:Nat}(hkk:k=18\/k=19\/k=20){w:World}(hr:RS S rb p w)(hL:LW w)(h2:8<=rb){K:Value->World->Prop}{KP:List PanicEntry->World->Prop}
 (hk:∀w',eX k (next S.data.toList p)=.ok (.mk k 0 (next S.data.toList p).text 0 []) (next S.data.toList p).fin->RS S rb (next S.data.toList p).fin w'->Ch (·=rb) w w'->K (one k 0 (next S.data.toList p).text).v w')
 (hp:∀a e w',eX k (next S.data.toList p)=.bad a e->Ch (λ_=>False) w w'->KP (flt a e) w') :
 dL Tryz.prog 149 [.pointer (some ⟨rb,0,none⟩),.int .i64 (k:Int)] w K KP:=by
 apply uY;have hple:=hr.2;refine bD λw1 b1 c1 z1=>?_;have hr1:RS S rb p w1:=hr.ch c1 id;have hrl:=hr.lt;obtain⟨h0,_⟩:=hr1;have h0':=h0;unfold rcl at h0;have hlies:=dM S.data.toList p (by rw[sl];exact hple);rw[sl]at hlies;have htx:=(pM S.data.toList (by rw[sl];exact hple:p<=S.data.toList.length)).2;simp only[nn,add_at,aL];refine⟨_,aJ h0 4 rfl,?_⟩;have bad:∀e:Nat,eX k (next S.data.toList p)=cM (next S.data.toList p) e->∀ {K':Value->World->Prop} w',Ch (λ_=>False) w1 w'->dL Tryz.prog 108 [.pointer (some ⟨rb,0,none⟩),.int .i64 (e:Int)] w' K' KP:=λe he K' w' c =>
  gD (e:=e) (RS.ch ⟨h0',hple⟩ c id) (hp _ _ w' he (c1.trans' c))
 refine⟨λw2=>Ch (λ_=>False) w1 w2/\(next S.data.toList p).kind=2/\eX k (next S.data.toList p)=.ok (.mk k 0 (next S.data.toList p).text 0 []) (next S.data.toList p).fin,?_,_,aJ h0 2 rfl,?_⟩
 ·rintro w2 ⟨c2,hk2,hok⟩;refine bZ (jJ hs (RS.ch ⟨h0',hple⟩ c2 id) ((hL.ch0 c1).ch0 c2).ut (by omega) λw3 r3 c3=>⟨_,_,_,rfl,?_⟩);rw[pF (by omega)];have b3:=(c3.blk (by have:=c2.size;have:=aH b1;omega) (by omega)).trans ((c2.blk (aH b1) id).trans b1);refine aWw (x:=one k 0 (next S.data.toList p).text) b3 rfl λw4 b4 c4 z4=>?_;refine hk w4 hok (r3.ch c4 (by omega)) ?_;exact(((c1.mono (S':=(·=rb)) λ_ _ h=>h.elim).trans' (c2.mono λ_ _ h=>h.elim)).trans' c3).trans c4 λx hx h=>by omega
 ·rw[eJ];have w0:∀ {e:Nat},(next S.data.toList p).kind≠2->eX k (next S.data.toList p)=cM (next S.data.toList p) 42:=λh=>by
   unfold eX;rw[aF h]
  refine aC (λh=>bad 42 (w0 (e:=0) λe=>?_) w1 (Ch.refl _ _)) (λh=>?_)
  ·rw[bG]at h;exact aA h ((aMj _).2 e)
  rw[bF]at h;have hk2:=(aMj _).1 (aB h);rw[pF (by omega)];have htl:(next S.data.toList p).text.length<=2^40:=by have:=htx hk2;omega
  have hsz:(ByteArray.mk (next S.data.toList p).text.toArray).size=(next S.data.toList p).text.length:=by simp[ByteArray.size]
  have k19:((k:Int) == 19)=decide (k=19):=by
   by_cases h:k=19<;>simp[h];omega
  have k20:((k:Int) == 20)=decide (k=20):=by
   by_cases h:k=20<;>simp[h];omega
  rw[k19,k20];have ok:¬((k=19/\lB (next S.data.toList p).text=false)\/(k=20/\jI (next S.data.toList p).text=false))->eX k (next S.data.toList p)=.ok (.mk k 0 (next S.data.toList p).text 0 []) (next S.data.toList p).fin:=λh=>by
   unfold eX;rw[aD,aD h]
  have no:((k=19/\lB (next S.data.toList p).text=false)\/(k=20/\jI (next S.data.toList p).text=false))->eX k (next S.data.toList p)=cM (next S.data.toList p) 22:=λh=>by
   unfold eX;rw[aD,aF h]
  refine aC (λh19=>?_) (λh19=>?_)
  ·have h19:=aB h19;refine bZ (aDr (by rw[hsz];omega) (hL.ch0 c1).ut (by have:=(hL.ch0 c1).size;omega) λr w2 c2 hpl=>⟨_,rfl,?_⟩);rw[cT]at hpl;refine aC (λh=>?_) (λh=>?_)
   ·rw[bB (by omega)];refine dJ ⟨c2,hk2,ok ?_⟩;rintro(⟨_,h3⟩|⟨h3,_⟩)
    ·have:=hpl.2 h3;rw[bG]at h;exact aA h (by omega)
    ·omega
   ·refine bad 22 (no (.inl ⟨h19,?_⟩)) w2 c2;cases ht:lB (next S.data.toList p).text with
    | false=>rfl
    | true =>
     have:=hpl.1 ht;rw[bF]at h;have:=aB h;omega
  ·have h19:=aA h19;refine aC (λh20=>?_) (λh20=>?_)
   ·have h20:=aB h20;refine bZ (zK (by rw[hsz];omega) λr hpl=>⟨_,rfl,?_⟩);rw[cT]at hpl;refine aC (λh=>?_) (λh=>?_)
    ·refine bad 22 (no (.inr ⟨h20,?_⟩)) w1 (Ch.refl _ _);cases ht:jI (next S.data.toList p).text with
     | false=>rfl
     | true =>
      have:=hpl.1 ht;have:=aB h;omega
    ·refine⟨Ch.refl _ _,hk2,ok ?_⟩;rintro(⟨h3,_⟩|⟨_,h3⟩)
     ·exact h19 h3
     ·have:=hpl.2 h3;exact aA h (by omega)
   ·have h20:=aA h20;refine⟨Ch.refl _ _,hk2,ok ?_⟩;rintro(⟨h3,_⟩|⟨h3,_⟩)
    ·exact h19 h3
    ·exact h20 h3
theorem aO8{s:Bs}{a:Nat}(h:(next s a).kind=3):∃c,(next s a).text=[c]:=by
 unfold next at h ⊢;simp only at h ⊢;cases hd:s.drop (a+bX false (s.drop a))with
 | nil=>rw[hd]at h;cases h
 | cons x l =>
  rw[hd]at h;simp only at h ⊢;split at h
  ·cases hw:gE (x::l)with
   | none=>rw[hw]at h;cases h
   | some p=>rw[hw]at h;cases h
  ·rename_i h34;rw[aD h34];split at h
   ·rename_i hsg;rw[aF hsg];exact⟨x,rfl⟩
   ·split at h<;>cases h
theorem aMo(c:UInt8):∃n:Int,Lib.indexByte (ByteArray.mk (Array.mk [(91:UInt8),123,40])).data.toList ((c.toNat:Int)).toNat.toUInt8=n/\((n=-1/\c≠91/\c≠123/\c≠40)\/(n=0/\c=91)\/(n=1/\c=123)\/(n=2/\c=40)):=by
 have hcc:((c.toNat:Int)).toNat.toUInt8=c:=by simp
 rw[hcc];refine⟨_,rfl,?_⟩;have:(ByteArray.mk (Array.mk [(91:UInt8),123,40])).data.toList=[91,123,40]:=rfl;rw[this];by_cases h1:c=91
 ·subst h1;right;left;exact⟨rfl,rfl⟩
 ·by_cases h2:c=123
  ·subst h2;right;right;left;exact⟨rfl,rfl⟩
  ·by_cases h3:c=40
   ·subst h3;right;right;right;exact⟨rfl,rfl⟩
   ·left;refine⟨?_,h1,h2,h3⟩;have e1:(91 == c)=false:=by simpa using λe=>h1 e.symm
    have e2:(123 == c)=false:=by simpa using λe=>h2 e.symm
    have e3:(40 == c)=false:=by simpa using λe=>h3 e.symm
    simp[Lib.indexByte,e1,e2,e3]
theorem aQl{S:ByteArray}{rb p:Nat}{w:World}(hr:RS S rb p w){K:Value->World->Prop}(hk:∀w',Ch (λ_=>False) w w'->K (aE4 (dA (next S.data.toList p))) w') :
 bK Tryz.prog 147 [.pointer (some ⟨rb,0,none⟩)] w K:=by
 apply sB;obtain⟨h0,hple⟩:=hr;have hsgt:=aO8 (s:=S.data.toList) (a:=p);unfold rcl at h0;generalize next S.data.toList p=t at h0 hk hsgt;simp only[nn,add_at,aL];refine⟨_,aJ h0 2 rfl,_,aJ h0 3 rfl,_,aJ h0 4 rfl,?_⟩;refine aVu λw4 b4 c4 z4=>?_;simp only[add_at,aL];refine⟨_,aJ b4 0 rfl,?_⟩;have p2:(((pk t:Nat):Int) == 2)=decide (t.kind=2):=by
  rw[show(((pk t:Nat):Int) == 2)=decide (((pk t:Nat):Int)=2) by by_cases h:((pk t:Nat):Int)=2<;>simp[h]];exact decide_eq_decide.2 (aMj t)
 have p3:(((pk t:Nat):Int) == 3)=decide (t.kind=3):=by
  rw[show(((pk t:Nat):Int) == 3)=decide (((pk t:Nat):Int)=3) by by_cases h:((pk t:Nat):Int)=3<;>simp[h]];exact decide_eq_decide.2 (aRu t)
 have p1:(((pk t:Nat):Int) == 1)=decide (t.kind=1):=by
  rw[show(((pk t:Nat):Int) == 1)=decide (((pk t:Nat):Int)=1) by by_cases h:((pk t:Nat):Int)=1<;>simp[h]];exact decide_eq_decide.2 (wA t)
 rw[p2,p3,p1];refine aC (λh=>?_) (λh=>?_)
 ·have h:=aB h;have:=hk w4 c4;rw[show dA t=some 19 by unfold dA;rw[aF h]]at this;exact this
 have n2:=aA h;refine aC (λh=>?_) (λh=>?_)
 ·have h3:=aB h;obtain⟨c,hc⟩:=hsgt h3;refine⟨_,aJ b4 2 rfl,by omega,?_⟩;rw[pF (t:=t) (by omega),hc];refine⟨by simp[ByteArray.size],?_⟩;have hb:cH (ByteArray.mk [c].toArray) 0=(c.toNat:Int):=eZ rfl;rw[hb];refine(Tryz.strings_IndexByte _ _ _).mono ?_;rintro e w5 ⟨rfl,rfl⟩;obtain⟨n,hn,hcase⟩:=aMo c;rw[hn];refine⟨_,rfl,_,rfl,?_⟩;have hb:dA t=if c=91 then some 21 else if c=123 then some 22 else if c=40 then some 24 else none:=by
   unfold dA;rw[aD n2,aF h3,hc];simp
  have hk:=hk w5 c4;rw[hb]at hk;rcases hcase with⟨rfl,a1,a2,a3⟩|⟨rfl,a⟩|⟨rfl,a⟩|⟨rfl,a⟩
  ·rw[aD a1,aD a2,aD a3]at hk;exact⟨by decide,by decide,_,rfl,hk⟩
  ·rw[aF a]at hk;exact⟨by decide,by decide,_,rfl,hk⟩
  ·rw[aD (by rw[a];decide),aF a]at hk;exact⟨by decide,by decide,_,rfl,hk⟩
  ·rw[aD (by rw[a];decide),aD (by rw[a];decide),aF a]at hk;exact⟨by decide,by decide,_,rfl,hk⟩
 have n3:=aA h;refine aC (λh=>?_) (λh=>?_)
 ·have h1:=aB h;rw[pF (t:=t) (by omega)]at b4;have hb:dA t=if t.text=[116,114,117,101]\/t.text=[102,97,108,115,101]then some 1 else match iM t.text with
   | some k=>if k=1\/k=19\/k=21\/k=22\/k=24 then none else some k
   | none=>none:=by
   unfold dA;rw[aD n2,aD n3,aD];rfl
  refine⟨λw5=>w5=w4/\¬(t.text=[116,114,117,101]\/t.text=[102,97,108,115,101]),?_,?_⟩
  ·rintro w5 ⟨rfl,hno⟩;refine⟨_,aJ b4 2 rfl,?_⟩;rw[aD hno]at hb;refine aKb λw6 c6=>?_;have hk:=hk w6 (c4.trans' c6);rw[hb]at hk;cases hkn:iM t.text with
   | none =>
    rw[hkn]at hk;refine⟨_,_,rfl,λb1 w7=>w7=w6/\b1=false,?_,?_⟩
    ·rintro b1 w7 ⟨rfl,rfl⟩;exact dJ hk
    ·refine aC (λh=>absurd h (by decide)) (λ_=>aC (λh=>absurd h (by decide)) (λ_=>aC (λh=>absurd h (by decide)) (λ_=>aC (λh=>absurd h (by decide)) (λ_=>⟨rfl,rfl⟩))))
   | some k =>
    rw[hkn]at hk;refine⟨_,_,rfl,λb1 w7=>w7=w6/\b1=decide (k=1\/k=19\/k=21\/k=22\/k=24),?_,?_⟩
    ·rintro b1 w7 ⟨rfl,rfl⟩;simp only at hk;refine aC (λh=>?_) (λh=>?_)
     ·rw[aF (aB h)]at hk;exact hk
     ·rw[aD (aA h)]at hk;exact hk
    ·have e:∀j:Nat,((k:Int) == (j:Int))=decide (k=j):=λj=>by
      by_cases h:k=j
      ·rw[h];simp
      ·simp[h];omega
     have e1:((k:Int) == 1)=decide (k=1):=e 1;have e19:((k:Int) == 19)=decide (k=19):=e 19;have e21:((k:Int) == 21)=decide (k=21):=e 21;have e22:((k:Int) == 22)=decide (k=22):=e 22;have e24:((k:Int) == 24)=decide (k=24):=e 24;rw[e1,e19,e21,e22,e24];refine aC (λh=>⟨by trivial,?_⟩) (λa1=>aC (λh=>⟨by trivial,?_⟩) (λa19=>aC (λh=>⟨by trivial,?_⟩) (λa21=>aC (λh=>⟨by trivial,?_⟩) (λa22=>⟨by trivial,?_⟩))))
     all_goals
      simp only[bA,gC]at *
      first|(rw[aR (by omega),aR (by omega)];done)|(apply decide_eq_decide.2;omega)
  ·refine⟨_,aJ b4 2 rfl,?_⟩;rw[show(ByteArray.mk (Array.mk [(116:UInt8),114,117,101]))=⟨([116,114,117,101]:Bs).toArray⟩ by rfl,nX];refine aC (λh=>?_) (λh=>?_)
   ·refine⟨_,aJ b4 2 rfl,?_⟩;rw[show(ByteArray.mk (Array.mk [(102:UInt8),97,108,115,101]))=⟨([102,97,108,115,101]:Bs).toArray⟩ by rfl,nX];rw[bG]at h;have h:=aA h;refine aC (λh2=>?_) (λh2=>⟨by trivial,?_⟩)
    ·have:=hk w4 c4;rw[hb,aF (.inr (aB h2))]at this;exact this
    ·rintro(h3|h3)
     ·exact h h3
     ·exact aA h2 h3
   ·rw[bF]at h;have:=hk w4 c4;rw[hb,aF (.inl (aB h))]at this;exact this
 have n1:=aA h;have:=hk w4 c4;rw[show dA t=none by unfold dA;rw[aD n2,aD n3,aF n1]]at this;exact this
end Go.Proofs.YtlfhjkgdlclddaaGreatDoor
