/-
  Small laws of memory: many cells stored at once, rows that are written over, numbers in a row. Over every program. strconv.FormatUint; the printer's writes: a builder that grows; digits. The program's Print. The program's Print, whole. The law's own functions: live; Numbers, Quotes, Unquotes. The laws Back, Again, Unlike. A connection's bytes as text, in plain Lean: how items are written, how lines are read. No program in sight.
-/
import Derived.Test.YtlfhjkgdlclddaaGreatDoorPx22
import Derived.Lib.ItoaMem
import Derived.KernelRfl
set_option linter.unusedVariables false
set_option linter.unusedSimpArgs false
set_option maxRecDepth 4000
namespace Go.Sv
open Go Go.Sort Go.RowKit
theorem aMf{α:Type}[Inhabited α]{enc:α->Value}{w:World}{b off:Nat}{d:Array α}{cs:List Value}(h:blk w b=some cs)(hl:off+d.size<=cs.length) :
 ∃cs',blk (putRow enc w b off d) b=some cs'/\cs'.length=cs.length/\(cs'.drop off).take d.size=d.toList.map enc/\Ch (·=b) w (putRow enc w b off d):=by
 unfold blk at h;have hlt:b<w.heap.size:=by
  cases hh:w.heap[b]? with
  | none=>rw[hh]at h;cases h
  | some o=>exact(Array.getElem?_eq_some_iff.1 hh).1
 split at h
 ·rename_i c e fz heq;split at h
  case isFalse=>cases h
  rename_i hfz;have hc:c.toList=cs:=by simpa using h
  subst hc;have hsz:(putCells enc off d c).size=c.size:=by simp[putCells]
  refine⟨(putCells enc off d c).toList,?_,by simp[putCells],?_,⟨rfl,rfl,rfl,by simp[putRow,mapBlock],λx hx hne=>?_⟩⟩
  ·unfold blk;have:(putRow enc w b off d).heap[b]?=some (.cells (putCells enc off d c) e fz):=by
    simp only[putRow,mapBlock,Array.getElem?_modify,if_true,heq,Option.map_some,onCells]
   rw[this];simp only[hsz,aF hfz]
  ·apply List.ext_getElem?;intro k;rw[cZ];simp only[cU,Array.getElem?_toList,putCells,Array.getElem?_mapIdx,dH];by_cases hk:k<d.size
   ·have h1:off+k<c.size:=by simp at hl;omega
    rw[aF hk,Array.getElem?_eq_getElem h1,Option.map_some,aF ⟨by omega,by omega⟩,show off+k-off=k by omega,getElem!_pos d k hk,Array.getElem?_eq_getElem hk];rfl
   ·rw[aD hk,Array.getElem?_eq_none (by omega)];rfl
  ·simp only[putRow,mapBlock,Array.getElem?_modify];rw[aD (λe=>hne e.symm)]
 ·cases h
end Go.Sv
namespace Go.Proofs.YtlfhjkgdlclddaaGreatDoor
open Go Go.Sv Go.Note Go.RowKit Go.Sort
attribute [local irreducible] aS
theorem aMq{u:Nat}(h:u<18446744073709551616):Lib.nDigits u<=20:=by
 rw[<-Lib.decDigits_length];exact uL 19 u (by omega)
theorem aFv{u:Nat}(hu:u<18446744073709551616){w:World}(hL:LW w){K:Value->World->Prop}(hk:∀w',Ch (λ_=>False) w w'->K (.string ⟨(Lib.decDigits u).toArray⟩) w') :
 bK Tryz.prog 196 [.int .u64 (u:Int),.int .i64 10] w K:=by
 apply pH;apply rV;refine iH ?_;refine aC (λh=>?_) (λh=>?_)
 ·have h:=aB h;rw[aW];refine(Tryz.internal_strconv_small u (by omega) w).mono ?_;rintro e w' ⟨rfl,rfl⟩;exact⟨_,rfl,_,rfl,_,rfl,hk _ (Ch.refl _ _)⟩
 ·have h:=aA h;have hnd:=aMq hu;refine bD λw1 b1 c1 z1=>?_;have hL1:=hL.ch0 c1;refine(Tryz.internal_strconv_numDigits u (by omega) hu w1 hL1.pow).mono ?_;rintro e w2 ⟨rfl,rfl⟩;refine⟨_,rfl,_,rfl,by omega,by omega,?_⟩;rw[aM];have hz:∀j,j<Lib.nDigits u->((Array.replicate (Lib.nDigits u) (0:UInt8)))[j]! = 0:=λj hj=>by
   rw[getElem!_pos _ j (by simpa using hj)];simp
  have hH:Holds (λ(b:UInt8)=>Value.int .u8 (b.toNat:Int)) w2 w.heap.size 0 (Array.replicate (Lib.nDigits u) (0:UInt8)):=by
   intro j hj;have hj':j<Lib.nDigits u:=by simpa using hj
   refine⟨?_,jW b1 (by simp;omega)⟩;rw[hz j hj',eA b1,aL];have:∀i:Fin 24,([Value.int .u8 0,.int .u8 0,.int .u8 0,.int .u8 0,.int .u8 0,.int .u8 0,.int .u8 0,.int .u8 0,.int .u8 0,.int .u8 0,.int .u8 0,.int .u8 0,.int .u8 0,.int .u8 0,.int .u8 0,.int .u8 0,.int .u8 0,.int .u8 0,.int .u8 0,.int .u8 0,.int .u8 0,.int .u8 0,.int .u8 0,.int .u8 0]:List Value)[i.val]?=some (.int .u8 0):=by
    intro i
    match i with
    | ⟨0,_⟩=>rfl
    | ⟨1,_⟩=>rfl
    | ⟨2,_⟩=>rfl
    | ⟨3,_⟩=>rfl
    | ⟨4,_⟩=>rfl
    | ⟨5,_⟩=>rfl
    | ⟨6,_⟩=>rfl
    | ⟨7,_⟩=>rfl
    | ⟨8,_⟩=>rfl
    | ⟨9,_⟩=>rfl
    | ⟨10,_⟩=>rfl
    | ⟨11,_⟩=>rfl
    | ⟨12,_⟩=>rfl
    | ⟨13,_⟩=>rfl
    | ⟨14,_⟩=>rfl
    | ⟨15,_⟩=>rfl
    | ⟨16,_⟩=>rfl
    | ⟨17,_⟩=>rfl
    | ⟨18,_⟩=>rfl
    | ⟨19,_⟩=>rfl
    | ⟨20,_⟩=>rfl
    | ⟨21,_⟩=>rfl
    | ⟨22,_⟩=>rfl
    | ⟨23,_⟩=>rfl
    | ⟨n+24,h⟩=>omega
   exact this ⟨j,by omega⟩
  have hcall:=Tryz.internal_strconv_formatBase10 w.heap.size 0 24 u (Array.replicate (Lib.nDigits u) (0:UInt8)) w2 hH (by rw[Array.size_replicate];exact Lib.lt_pow_nDigits u) hu (by rw[Array.size_replicate];omega);rw[Array.size_replicate]at hcall;refine hcall.mono ?_;rintro e w3 ⟨rfl,n,v',dk,hw,hf⟩;refine⟨_,rfl,rfl,by omega,by omega,?_⟩;obtain⟨cs',q1,q2,q3,q4⟩:=aMf (enc:=λ(b:UInt8)=>Value.int .u8 (b.toNat:Int)) (off:=0) (d:=dk) b1 (by rw[hf.size];simp;omega);have hdk:dk.toList=Lib.decDigits u:=by
   apply List.ext_getElem
   ·rw[Array.length_toList,hf.size,Lib.decDigits_length]
   ·intro j h1 h2;have:=Lib.row_is_numeral hf j h2;rw[this,Array.getElem_toList,getElem!_pos dk j (by simpa using h1)]
  have b3:blk w3 w.heap.size=some cs':=by rw[hw];exact q1
  have c3:Ch (·=w.heap.size) w2 w3:=by
   rw[hw];exact⟨q4.os,q4.tape,q4.output,q4.size,q4.keep⟩
  have hrd:Rd w3 (some ⟨w.heap.size,0,none⟩) (Lib.nDigits u) 1 (aV (Lib.decDigits u)):=by
   refine⟨by simp[aV,Lib.decDigits_length],.inr ⟨_,0,cs',rfl,gX b3,by rw[q2];simp;omega,?_⟩⟩;rw[Nat.mul_one,<-hf.size,q3,hdk];rfl
  refine⟨_,cD fD iL dN hrd,?_⟩;exact⟨_,rfl,hk w3 (c1.trans c3 λx hx h=>by omega)⟩
def PW(base:World)(g0:Option Nat)(w:World)(b:Nat)(out:Bs):Prop:=BW base w TPr b out g0/\b<base.heap.size/\∀k,g0=some k->k<base.heap.size
theorem PW.ch{base w:World}{g0:Option Nat}{b:Nat}{out:Bs}(h:PW base g0 w b out):Ch (λk=>k=b\/g0=some k) base w:=by obtain⟨⟨_,_,_,h⟩,_⟩:=h;exact h
theorem PW.ch0{base w w':World}{g0:Option Nat}{b:Nat}{out:Bs}(h:PW base g0 w b out)(c:Ch (λ_=>False) w w'):PW base g0 w' b out:=by
 obtain⟨⟨g,h1,h2,h3⟩,h4⟩:=h;exact⟨⟨g,h1.ch c id λ_ _ h=>h,h2,h3.trans' (c.mono λ_ _ h=>h.elim)⟩,h4⟩
theorem PW.bw{base w w':World}{g0:Option Nat}{b:Nat}{out out':Bs}{g:Option Nat}(h1:BAt w TPr b out g)(h2:∀k,g=some k->g0=some k\/base.heap.size<=k)(h3:Ch (λk=>k=b\/g0=some k) base w)(h4:b<base.heap.size/\∀k,g0=some k->k<base.heap.size)(h:BW w w' TPr b out' g):PW base g0 w' b out':=by
 obtain⟨g',q1,q2,q3⟩:=h;refine⟨⟨g',q1,λk hk=>?_,h3.trans q3 λx hx hs=>?_⟩,h4⟩
 ·rcases q2 k hk with h|h
  ·exact h2 k h
  ·have:=h3.size;right;omega
 ·rcases hs with h|h
  ·exact .inl h
  ·rcases h2 x h with h|h
   ·exact .inr h
   ·omega
theorem PW.now{base w:World}{g0:Option Nat}{b:Nat}{out:Bs}(h:PW base g0 w b out):∃g,PW w g w b out/\(∀k,g=some k->g0=some k\/base.heap.size<=k)/\∀w' out',PW w g w' b out'->PW base g0 w' b out':=by
 obtain⟨⟨g,h1,h2,h3⟩,h4⟩:=h;exact⟨g,⟨⟨g,h1,λk hk=>.inl hk,Ch.refl _ _⟩,h1.lt,h1.glt⟩,h2,λw' out' hw=>PW.bw h1 h2 h3 h4 hw.1⟩
theorem pWB{base w:World}{g0:Option Nat}{b:Nat}{out:Bs}(h:PW base g0 w b out)(c:UInt8)(hl:out.length+1<=2^46){K:Value->World->Prop}(hk:∀v w',PW base g0 w' b (out++[c])->K v w'):bK Tryz.prog 36 [.pointer (some ⟨b,0,none⟩),.int .u8 (c.toNat:Int)] w K:=by
 obtain⟨⟨g,h1,h2,h3⟩,h4⟩:=h;exact gG h1 (.inr rfl) c hl λw' h=>hk _ w' (PW.bw h1 h2 h3 h4 h)
theorem pWS{base w:World}{g0:Option Nat}{b:Nat}{out:Bs}(h:PW base g0 w b out)(s:ByteArray)(hl:out.length+s.data.toList.length<=2^46){K:Value->World->Prop}(hk:∀w',PW base g0 w' b (out++s.data.toList)->K (.tuple #[.int .i64 (s.size:Int),.nilIface]) w'):bK Tryz.prog 35 [.pointer (some ⟨b,0,none⟩),.string s] w K:=by
 obtain⟨⟨g,h1,h2,h3⟩,h4⟩:=h;exact iW h1 (.inr rfl) s (by rw[sl]at hl;exact hl) λw' h=>hk w' (PW.bw h1 h2 h3 h4 h)
theorem aX1(x:Nat)(hx:x<18446744073709551616):cL .and .u64 (x:Int) 15=((x%16:Nat):Int):=by
 have e:cL .and .u64 (x:Int) 15=IntKind.wrap .u64 ((BitVec.ofInt 64 (x:Int) &&& BitVec.ofInt 64 15).toNat:Int):=rfl;have o:∀n:Nat,BitVec.ofInt 64 (n:Int)=BitVec.ofNat 64 n:=λn=>by
  apply BitVec.eq_of_toNat_eq;simp[BitVec.toNat_ofInt]
 rw[e,o,show(15:Int)=((15:Nat):Int) by rfl,o,BitVec.toNat_and,BitVec.toNat_ofNat,BitVec.toNat_ofNat,Nat.mod_eq_of_lt hx,Nat.mod_eq_of_lt (by omega:15<2^64)];rw[show(15:Nat)=2^4-1 by rfl,Nat.and_two_pow_sub_one_eq_mod];exact w64 (by omega) (by omega)
theorem aP1(d:Nat)(hd:d<16):cH (ByteArray.mk (Array.mk [(48:UInt8),49,50,51,52,53,54,55,56,57,97,98,99,100,101,102])) d=((kW d).toNat:Int):=by
 have key:∀d:Fin 16,cH (ByteArray.mk (Array.mk [(48:UInt8),49,50,51,52,53,54,55,56,57,97,98,99,100,101,102])) d.val=((kW d.val).toNat:Int):=by decide +kernel
 exact key ⟨d,hd⟩
theorem wB{base w:World}{g0:Option Nat}{b:Nat}{out:Bs}(h:PW base g0 w b out){n m:Nat}(hn:n<18446744073709551616)(hm:1<=m/\m<=16)(hl:out.length+m<=2^46){K:Value->World->Prop}(hk:∀w',PW base g0 w' b (out++lA m n)->K (.tuple #[]) w') :
 bK Tryz.prog 195 [.pointer (some ⟨b,0,none⟩),.int .u64 (n:Int),.int .i64 (m:Int)] w K:=by
 apply qW;simp only[cF];rw[aW (n:=(m:Int)-1)];refine⟨λq i w1=>∃j:Nat,i=(m:Int)-1-j/\j<=m/\q=m-j/\PW base g0 w1 b (out++lA j (n / 16^(m-j))),⟨m,0,by omega,by omega,rfl,by simpa[lA]using h⟩,?_⟩;rintro q i w1 ⟨j,rfl,hj,rfl,hpw⟩;refine aC (λhge=>?_) (λhlt=>?_)
 ·have hjm:j<m:=by have:=aB hge;omega
  have e4:IntKind.i64.wrap (4*((m:Int)-1-j))=((4*(m-1-j):Nat):Int):=by
   rw[aW];omega
  rw[e4];have emin:min (((4*(m-1-j):Nat):Int)).toNat 64=4*(m-1-j):=by rw[aM];omega
  rw[emin];have efd:Int.fdiv (n:Int) (2^(4*(m-1-j)))=((n / 16^(m-1-j):Nat):Int):=by
   have:(2:Int)^(4*(m-1-j))=((16^(m-1-j):Nat):Int):=by
    rw[Int.pow_mul];simp
   rw[this,cJ _ (Int.natCast_nonneg _)];rfl
  rw[efd];have hlt:n / 16^(m-1-j)<18446744073709551616:=Nat.lt_of_le_of_lt (Nat.div_le_self _ _) hn;rw[aX1 _ hlt];refine⟨by omega,by omega,by omega,?_⟩;rw[aM,aP1 _ (by omega)];simp only[nn,add_at,aL];have hlen:(out++lA j (n / 16^(m-j))).length=out.length+j:=by rw[aG,mA]
  refine pWB (hpw.ch0 (Ch.drew _)) (kW (n / 16^(m-1-j)%16)) (by omega) λv w2 h2=>⟨_,rfl,?_⟩;rw[aW];refine⟨m-(j+1),by omega,j+1,by omega,by omega,rfl,?_⟩;rw[aP]at h2;have e:lA (j+1) (n / 16^(m-(j+1)))=lA j (n / 16^(m-j))++[kW (n / 16^(m-1-j)%16)]:=by
   show lA j (n / 16^(m-(j+1)) / 16)++[kW (n / 16^(m-(j+1))%16)]=_;rw[Nat.div_div_eq_div_mul,<-Nat.pow_succ,show(m-(j+1)).succ=m-j by omega,show m-(j+1)=m-1-j by omega]
  rw[e];exact h2
 ·have hjm:j=m:=by have:=aA hlt;omega
  subst hjm;have:=hk w1;simp only[Nat.sub_self,Nat.pow_zero,Nat.div_one]at hpw;exact this hpw
end Go.Proofs.YtlfhjkgdlclddaaGreatDoor
namespace Go.Proofs.YtlfhjkgdlclddaaGreatDoor
open Go Go.Sv Go.Note Go.RowKit
attribute [local irreducible] aS
theorem PW.now2{base w w':World}{g0:Option Nat}{b:Nat}{out:Bs}(h:PW base g0 w b out)(c:Ch (λ_=>False) w w'):∃g,PW w' g w' b out/\(∀k,g=some k->k<w.heap.size/\(g0=some k\/base.heap.size<=k))/\b<w.heap.size/\∀w'' out',PW w' g w'' b out'->PW base g0 w'' b out':=by
 obtain⟨⟨g,h1,h2,h3⟩,h4⟩:=h;have h1':=h1.ch c id λ_ _ h=>h;refine⟨g,⟨⟨g,h1',λk hk=>.inl hk,Ch.refl _ _⟩,h1'.lt,h1'.glt⟩,λk hk=>⟨h1.glt k hk,h2 k hk⟩,h1.lt,λw'' out' hw=>PW.bw h1' h2 (h3.trans' (c.mono λ_ _ h=>h.elim)) h4 hw.1⟩
theorem aPg(l:Bs)(x:UInt8):vZ (l++[x])=vZ l++lA 2 x.toNat:=by
 unfold vZ;rw[List.flatMap_append];simp
theorem aMh{base w:World}{g0:Option Nat}{b:Nat}{out:Bs}(hL:LW base)(hb8:8<=b)(hg8:∀k,g0=some k->8<=k)(h:PW base g0 w b out){x:MV}(hf:x.n<18446744073709551616)(ht:x.t.length<=2^40)(hl:out.length+(cE x.k x.n x.t).length<=2^45){K:Value->World->Prop}(hk:∀w',PW base g0 w' b (out++cE x.k x.n x.t)->K (.tuple #[]) w') :
 bK Tryz.prog 134 [.pointer (some ⟨b,0,none⟩),x.v] w K:=by
 obtain⟨k,n,t,s,e,l⟩:=x;have hL':∀w,PW base g0 w b out->LW w:=λw h=>hL.ch h.ch λj hj e=>by have:=hg8;rcases e with e|e;omega;have:=hg8 j e;omega
 apply qV;refine oD (x:=.mk k n t s e l) λw1 b1 a1 c1 z1=>?_;simp only[add_at,aL,aLm,nn];have h1:=h.ch0 c1;have hk:∀w',PW base g0 w' b (out++cE k n t)->K (.tuple #[]) w':=hk;have hl:out.length+(cE k n t).length<=2^45:=hl;have hn:n<18446744073709551616:=hf;have ht:t.length<=2^40:=ht;have b1d:blk w1.drew w.heap.size=some (MV.mk k n t s e l).g:=b1;have ws:∀w2 (y:Bs),PW base g0 w2 b out->cE k n t=y->∀z:Prop,True->bK Tryz.prog 35 [.pointer (some ⟨b,0,none⟩),.string ⟨y.toArray⟩] w2 λv1 w4=>∃n2 v2,v1=.tuple (Array.mk [.int .i64 n2,v2])/\K (.tuple (Array.mk [])) w4:=by
  intro w2 y h2 hy _ _;refine pWS h2 ⟨y.toArray⟩ (by rw[cT,<-hy];omega) λw3 h3=>⟨_,_,rfl,?_⟩;rw[cT,<-hy]at h3;exact hk w3 h3
 refine⟨_,aJ b1 0 rfl,?_⟩;refine⟨λq w2=>w2=w1/\q=decide (k=6\/k=7\/k=8\/k=9\/k=16),?_,?_⟩
 rotate_left
 ·have tt:∀(j:Int),(j=6\/j=7\/j=8\/j=9\/j=16)->decide (k=j)=true->decide (k=j)=decide (k=6\/k=7\/k=8\/k=9\/k=16):=λj hj h=>by
   have:=aB h;rw[h,aR (by omega)]
  refine aC (λh=>⟨by trivial,tt 6 (by decide) h⟩) (λa1=>aC (λh=>⟨by trivial,tt 7 (by decide) h⟩) (λa2=>aC (λh=>⟨by trivial,tt 8 (by decide) h⟩) (λa3=>aC (λh=>⟨by trivial,tt 9 (by decide) h⟩) (λa4=>⟨by trivial,?_⟩))));have a1:=aA a1;have a2:=aA a2;have a3:=aA a3;have a4:=aA a4;exact decide_eq_decide.2 (by omega)
 rintro q w2 ⟨rfl,rfl⟩;refine aC (λhc=>⟨_,aJ b1d 1 rfl,?_⟩) (λhc=>?_)
 ·have hc:=aB hc;have hs:cE k n t=Lib.itoa (wW n):=by unfold cE;rw[aF hc]
  have h2d:=h1.ch0 (Ch.drew w2);rw[aLv hn];have e2:(if n<9223372036854775808 then(n:Int)else(n:Int)-18446744073709551616)=wW n:=rfl;rw[e2];refine(Tryz.strconv_FormatInt_10 (wW n) (by unfold wW;split<;>omega) (by unfold wW;split<;>omega) _ (hL' _ h2d).pow).mono ?_;rintro e w3 ⟨rfl,kk,os,rfl⟩;refine⟨_,rfl,_,rfl,?_⟩;have cg:Ch (λ_=>False) w2.drew (Go.Sort.grow (w2.drew.drewN kk) os):=(⟨rfl,rfl,rfl,aQ _,λ_ _ _=>rfl⟩:Ch (λ_=>False) w2.drew (w2.drew.drewN kk)).trans' (qJ os);exact ws _ _ (h2d.ch0 cg) hs True trivial
 have hc:=aA hc;refine⟨λq w3=>w3=w2/\q=decide (k=10\/k=12),?_,?_⟩
 rotate_left
 ·refine aC (λh=>⟨by trivial,?_⟩) (λa1=>⟨by trivial,?_⟩)
  ·rw[h,aR (.inl (aB h))]
  ·exact decide_eq_decide.2 ⟨λe=>.inr e,λe=>e.resolve_left (aA a1)⟩
 rintro q w3 ⟨rfl,rfl⟩;refine aC (λhc2=>⟨_,aJ b1 1 rfl,?_⟩) (λhc2=>?_)
 ·have hc2:=aB hc2;have hs:cE k n t=lA 8 n:=by unfold cE;rw[aD hc,aF hc2]
  rw[hs]at hk;exact wB (m:=8) h1 hn (by decide) (by omega) λw4 h4=>⟨rfl,hk w4 h4⟩
 have hc2:=aA hc2;refine⟨λq w4=>w4=w3/\q=decide (k=11\/k=13),?_,?_⟩
 rotate_left
 ·refine aC (λh=>⟨by trivial,?_⟩) (λa1=>⟨by trivial,?_⟩)
  ·rw[h,aR (.inl (aB h))]
  ·exact decide_eq_decide.2 ⟨λe=>.inr e,λe=>e.resolve_left (aA a1)⟩
 rintro q w4 ⟨rfl,rfl⟩;refine aC (λhc3=>⟨_,aJ b1 1 rfl,?_⟩) (λhc3=>?_)
 ·have hc3:=aB hc3;have hs:cE k n t=lA 16 n:=by unfold cE;rw[aD hc,aD hc2,aF hc3]
  rw[hs]at hk;exact wB (m:=16) h1 hn (by decide) (by omega) λw5 h5=>⟨rfl,hk w5 h5⟩
 have hc3:=aA hc3;refine⟨λq w5=>w5=w4/\q=decide (k=14\/k=17),?_,?_⟩
 rotate_left
 ·refine aC (λh=>⟨by trivial,?_⟩) (λa1=>⟨by trivial,?_⟩)
  ·rw[h,aR (.inl (aB h))]
  ·exact decide_eq_decide.2 ⟨λe=>.inr e,λe=>e.resolve_left (aA a1)⟩
 rintro q w5 ⟨rfl,rfl⟩;refine aC (λhc4=>⟨_,aJ b1 2 rfl,?_⟩) (λhc4=>?_)
 ·have hc4:=aB hc4;have hs:cE k n t=vZ t:=by unfold cE;rw[aD hc,aD hc2,aD hc3,aF hc4]
  rw[hs]at hk hl;rw[sS]at hl;obtain⟨c,w6,m1,⟨cs,q1,q2⟩,c6,z6⟩:=wX ⟨t.toArray⟩ w5;have hts:(⟨t.toArray⟩:ByteArray).size=t.length:=by rw[<-sl,cT]
  rw[cT]at q2;obtain⟨g,hn6,hgl,hbl,hback⟩:=h1.now2 c6;refine⟨_,_,_,w6,m1,?_⟩;rw[hts];refine⟨λm i w7=>∃j:Nat,i=(j:Int)/\j<=t.length/\m=t.length-j/\PW w6 g w7 b (out++vZ (t.take j)),⟨t.length,0,rfl,bQ _,rfl,by simpa only[List.take_zero,vZ,List.flatMap_nil,List.append_nil]using hn6⟩,?_⟩;rintro m i w7 ⟨j,rfl,hj,rfl,h7⟩;refine aC (λhlt=>?_) (λhge=>?_)
  ·have hjl:j<t.length:=by have:=aB hlt;omega
   have q7:blk w7 w5.heap.size=some cs:=(h7.ch.blk (by omega) (λe=>by rcases e with e|e;omega;have:=(hgl _ e).1;omega)).trans q1;refine⟨by omega,by omega,?_⟩;simp only[nn,add_at,aM,Nat.mul_one,aL];refine⟨(t[j].toNat:Int),aJ q7 j (q2 j _ (aK hjl)),?_⟩;rw[w64 (n:=t[j].toNat) (by omega) (by have:=t[j].toNat_lt;omega)];have hrl:(vZ (t.take j)).length=2*j:=by rw[sS,aU];omega
   refine wB (m:=2) h7 (by have:=t[j].toNat_lt;omega) (by decide) (by rw[aG,hrl];omega) λw8 h8=>⟨rfl,?_⟩;rw[aW (n:=(j:Int)+1)];refine⟨t.length-(j+1),by omega,j+1,by omega,by omega,rfl,?_⟩;rw[aP]at h8;rw[kG,aK hjl];simp only[Option.toList_some];rw[aPg];exact h8
  ·have hjl:j=t.length:=by have:=aA hge;omega
   subst hjl;rw[List.take_length]at h7;exact hk w7 (hback _ _ h7)
 have hc4:=aA hc4;refine⟨λq w6=>w6=w5/\q=decide (k=18\/k=20),?_,?_⟩
 rotate_left
 ·refine aC (λh=>⟨by trivial,?_⟩) (λa1=>⟨by trivial,?_⟩)
  ·rw[h,aR (.inl (aB h))]
  ·exact decide_eq_decide.2 ⟨λe=>.inr e,λe=>e.resolve_left (aA a1)⟩
 rintro q w6 ⟨rfl,rfl⟩;refine aC (λhc5=>⟨_,aJ b1d 2 rfl,?_⟩) (λhc5=>⟨_,aJ b1d 1 rfl,?_⟩)
 ·have hc5:=aB hc5;have hs:cE k n t=cA t:=by unfold cE;rw[aD hc,aD hc2,aD hc3,aD hc4,aF hc5]
  refine tX _ (by rw[<-sl,cT];exact ht) λw7 c7=>⟨_,rfl,?_⟩;rw[cT];exact ws _ _ (h1.ch0 ((Ch.drew _).trans' c7)) hs True trivial
 ·have hc5:=aA hc5;have hs:cE k n t=Lib.decDigits n:=by unfold cE;rw[aD hc,aD hc2,aD hc3,aD hc4,aD hc5]
  have h1d:=h1.ch0 (Ch.drew w6);refine aFv hn (hL' _ h1d) λw7 c7=>⟨_,rfl,?_⟩;exact ws _ _ (h1d.ch0 c7) hs True trivial
end Go.Proofs.YtlfhjkgdlclddaaGreatDoor
namespace Go.Note
open Go
theorem aJ5(l2:List M):∀l1:List M,(eO l1).length<=(eO (l1++l2)).length:=by
 induction l2 with
 | nil=>intro l1;simp
 | cons x l2 ih =>
  intro l1;have h1:=ih (l1++[x]);rw[aP]at h1;refine Nat.le_trans ?_ h1;rw[sU];simp only[aG];omega
theorem aAm:∀(l2 l1:List M),l1.length%2=0->l2.length%2=0->(gS l1).length<=(gS (l1++l2)).length
 | [],l1,_,_=>by simp
 | [_],_,_,h=>by simp at h
 | x::y::l2,l1,h1,h2=>by
  simp only[aI]at h2;have:=aAm l2 (l1++[x,y]) (by simp only[aG,aI,bN];omega) (by omega);rw[aP]at this;refine Nat.le_trans ?_ this;rw[aAl _ _ _ h1];simp only[aG];omega
end Go.Note
namespace Go.Proofs.YtlfhjkgdlclddaaGreatDoor
open Go Go.Sv Go.Note Go.RowKit
attribute [local irreducible] aS
theorem PW.enter{Q:Nat->Prop}{base w w1:World}{g0:Option Nat}{b:Nat}{out:Bs}{x:MV}(hL:LW base)(hb8:8<=b)(hg8:∀k,g0=some k->8<=k)(hQ:∀k,Q k->k≠b/\g0≠some k)(h:PW base g0 w b out)(hx:VR Q base x)(c:Ch (λ_=>False) w w1) :
 ∃g Q',PW w1 g w1 b out/\LW w1/\(∀k,g=some k->8<=k)/\(∀k,Q' k->k≠b/\g≠some k)/\VR Q' w1 x/\(w.heap.size≠b/\g≠some w.heap.size)/\∀w'' out',PW w1 g w'' b out'->PW base g0 w'' b out':=by
 obtain⟨g,h1,h2,h3,h4⟩:=h.now2 c;have hbb:=h.2.1;have c2:=(h.ch0 c).ch;have hx2:=hx.lt x;refine⟨g,λk=>Q k/\k<base.heap.size,h1,hL.ch c2 λj hj e=>?_,λk hk=>?_,λk hk=>⟨(hQ k hk.1).1,λe=>?_⟩,VR.ch c2 (λk hk e=>?_) x hx2,⟨by omega,λe=>?_⟩,h4⟩
 ·rcases e with e|e
  ·omega
  ·have:=hg8 j e;omega
 ·rcases(h2 k hk).2 with e|e
  ·exact hg8 k e
  ·omega
 ·rcases(h2 k e).2 with e|e
  ·exact(hQ k hk.1).2 e
  ·omega
 ·rcases e with e|e
  ·exact(hQ k hk.1).1 e
  ·exact(hQ k hk.1).2 e
 ·have:=(h2 _ e).1;omega
def aX4(x:MV):Prop:=∀ {Q:Nat->Prop} {base w:World} {g0:Option Nat} {b:Nat} {out:Bs} {d:Nat},LW base->8<=b->(∀k,g0=some k->8<=k)->(∀k,Q k->k≠b/\g0≠some k)->PW base g0 w b out->VR Q base x->x.m.fits->x.m.sz<=2^40->x.m.check d=0->out.length+(bM x.m).length<=2^45->∀ {K:Value->World->Prop},(∀w',PW base g0 w' b (out++bM x.m)->K (.tuple #[]) w') ->
 bK Tryz.prog 91 [.pointer (some ⟨b,0,none⟩),x.v] w K
theorem aHy{l:List MV}(ih:∀x∈l,aX4 x){Q:Nat->Prop}{base w:World}{g0:Option Nat}{b:Nat}{out:Bs}{d:Nat}{p:Option Addr}{n c:Nat}(hL:LW base)(hb8:8<=b)(hg8:∀k,g0=some k->8<=k)(hQ:∀k,Q k->k≠b/\g0≠some k)(h:PW base g0 w b out)(hr:VRow Q base p n l)
 (hf:∀x∈l,x.m.fits) (hz:∀x∈l,x.m.sz<=2^40) (hc:∀x∈l,x.m.check d=0) (hl:out.length+(eO (l.map MV.m)).length<=2^45) {K:Value->World->Prop} (hk:∀w',PW base g0 w' b (out++eO (l.map MV.m))->K (.tuple #[]) w') :
 bK Tryz.prog 132 [.pointer (some ⟨b,0,none⟩),.slice p n c] w K:=by
 apply vA;have hln:=hr.1;have hn46:=hr.2.1;refine⟨λm i w1=>∃j:Nat,i=(j:Int)/\m=n-j/\j<=n/\PW base g0 w1 b (out++eO ((l.take j).map MV.m)),⟨n,0,rfl,rfl,bQ _,by simpa[eO]using h⟩,?_⟩;rintro m i w1 ⟨j,rfl,rfl,hj,h1⟩;refine aC (λhlt=>?_) (λhge=>?_)
 ·have hjl:j<n:=by have:=aB hlt;omega
  obtain⟨y,hyi⟩:∃y,l[j]?=some y:=⟨l[j]'(by omega),aK _⟩;have hym:=bJ hyi;have hr1:VRow Q w1 p n l:=hr.ch h1.ch λk hk e=>by
   rcases e with e|e
   ·exact(hQ k hk).1 e
   ·exact(hQ k hk).2 e
  obtain⟨by',oy,py,_,ay⟩:=hr1.at hyi;refine⟨by omega,by omega,?_⟩;rw[py];simp only[nn];refine ldR ay ?_;refine nbx rfl λw2 b2 c2 z2=>?_;have h2:=h1.ch0 c2;have hw1:b<w1.heap.size:=by have:=h1.2.1;have:=h1.ch.size;omega
  have hgw1:w1.heap.size≠b:=by omega
  have htk:l.take (j+1)=l.take j++[y]:=by rw[kG,hyi];rfl
  have hle:(out++eO ((l.take j).map MV.m)).length+(if(l.take j).map MV.m=[]then([]:Bs)else[32]).length+(bM y.m).length<=2^45:=by
   have h1:=aJ5 ((l.drop (j+1)).map MV.m) ((l.take (j+1)).map MV.m);rw[<-List.map_append,List.take_append_drop]at h1;rw[htk,List.map_append,List.map_singleton,sU]at h1;simp only[aG]at h1 ⊢;omega
  have hfin:eO ((l.take (j+1)).map MV.m)=eO ((l.take j).map MV.m)++(if(l.take j).map MV.m=[]then[]else[32])++bM y.m:=by
   rw[htk,List.map_append,List.map_singleton,sU]
  refine⟨λw3=>PW base g0 w3 b (out++eO ((l.take j).map MV.m)++(if(l.take j).map MV.m=[]then[]else[32]))/\blk w3 w1.heap.size=some y.g,?_,?_⟩
  ·rintro w3 ⟨h3,b3⟩;refine ldK b3 ?_;rw[vv y];refine ih y hym hL hb8 hg8 hQ h3 (hr.2.2.2.2 y hym) (hf y hym) (hz y hym) (hc y hym) (by rw[aG];exact hle) λw4 h4=>⟨rfl,?_⟩;rw[aW (n:=(j:Int)+1)];refine⟨n-(j+1),by omega,j+1,by omega,rfl,by omega,?_⟩;rw[hfin];simpa only[aP]using h4
  ·refine aC (λhp=>?_) (λhp=>?_)
   ·have hj0:0<j:=by have:=aB hp;omega
    have hne:(l.take j).map MV.m≠[]:=by
     intro e;have:=congrArg List.length e;simp only[eI,aU,bN]at this;omega
    rw[aD hne];rw[aD hne]at hle;simp only[dQ]at hle;obtain⟨g,n2,q1,q2,q3⟩:=h1.now2 c2;refine pWB n2 32 (by omega) λv w3 h3=>⟨_,rfl,q3 _ _ h3,?_⟩;refine(h3.ch.blk (aH b2) λe=>?_).trans b2;rcases e with e|e
    ·omega
    ·have:=(q1 _ e).1;omega
   ·have hj0:j=0:=by have:=aA hp;omega
    subst hj0;refine⟨?_,b2⟩;simpa using h2
 ·have hjl:j=n:=by have:=aA hge;omega
  rw[aY (by omega)]at h1;exact hk w1 h1
theorem aQi(n:Nat):Lib.formatBool (decide ((n:Int)=1))=if n=1 then([116,114,117,101]:Bs)else[102,97,108,115,101]:=by
 by_cases h:n=1
 ·rw[aF h,aR (by omega)];decide +kernel
 ·rw[aD h,bB (by omega)];decide +kernel
theorem iX(a b:Bs):(⟨a.toArray⟩++⟨b.toArray⟩:ByteArray)=⟨(a++b).toArray⟩:=by
 apply ByteArray.ext;rw[ByteArray.data_append];simp
theorem aPi:∀x:MV,aX4 x:=by
 refine MV.ind λk n t s e l ih=>?_;intro Q base w g0 b out d hL hb8 hg8 hQ h hx hf hz hc hl K hk;apply sC;refine oD (x:=.mk k n t s e l) λw1 b1 a1 c1 z1=>?_;simp only[add_at,aL,aLm,nn];obtain⟨g,Q',h1,hL1,hg1,hQ1,hx1,hbx,hback⟩:=PW.enter hL hb8 hg8 hQ h hx c1;rw[MV.m_mk]at hf hz hc hl hk;have hk':∀w',PW w1 g w' b (out++bM (.mk k n t e (l.map MV.m)))->K (.tuple #[]) w':=λw' h=>hk w' (hback _ _ h);have bx:∀w2 o,PW w1 g w2 b o->blk w2 w.heap.size=some (MV.mk k n t s e l).g:=λw2 o hw=>(hw.ch.blk (aH b1) (λe=>e.elim hbx.1 hbx.2)).trans b1;obtain⟨hown,hcm⟩:=(M.check_iff d _).1 hc;obtain⟨o1,o2,o3,o4,o5,o6,o7,o8,o9⟩:=zB hown;have o1:0<=k:=o1;have o2:k<25:=o2;have o7:k=22->jE (l.map MV.m)=true:=o7;have o8:k=23->gF e (l.map MV.m)=true:=o8;have hn64:n<18446744073709551616:=by cases hf with|mk h _=>exact h
 have hfl:∀x∈l,x.m.fits:=λx hx=>by
  cases hf with|mk _ h=>exact h x.m (List.mem_map.2 ⟨x,hx,rfl⟩)
 have hszl:∀x∈l,x.m.sz<=2^40:=λx hx=>by
  rw[M.sz_mk]at hz;have:=aGv (List.mem_map.2 ⟨x.m,List.mem_map.2 ⟨x,hx,rfl⟩,rfl⟩:x.m.sz∈(l.map MV.m).map M.sz);omega
 have htl:t.length<=2^40:=by rw[M.sz_mk]at hz;omega
 have hcl:∀x∈l,x.m.check (d+1)=0:=λx hx=>hcm x.m (List.mem_map.2 ⟨x,hx,rfl⟩);have hrow:VRow Q' w1 s.p s.n l:=hx1.row;refine⟨_,aJ b1 0 rfl,?_⟩;refine aC (λhc0=>?_) (λhc0=>?_)
 ·have hc0:=aB hc0;have hp:bM (.mk k n t e (l.map MV.m))=fZ 0:=by unfold bM;rw[aF hc0]
  rw[hp]at hk' hl;exact pWS h1 _ (by show out.length+(fZ 0).length<=_;omega) λw2 h2=>⟨_,_,rfl,hk' w2 h2⟩
 have hc0:=aA hc0;refine aC (λhc1=>⟨_,aJ (w:=w1.drew) b1 1 rfl,?_⟩) (λhc1=>?_)
 ·have hc1:=aB hc1;have hp:bM (.mk k n t e (l.map MV.m))=if n=1 then([116,114,117,101]:Bs)else[102,97,108,115,101]:=by unfold bM;rw[aD hc0,aF hc1]
  rw[hp]at hk' hl;refine(Tryz.strconv_FormatBool _ _).mono ?_;rintro _ w3 ⟨rfl,rfl⟩;refine⟨_,rfl,_,rfl,?_⟩;rw[aQi];refine pWS (h1.ch0 (Ch.drew _)) _ (by rw[cT];omega) λw2 h2=>⟨_,_,rfl,hk' w2 ?_⟩;rw[cT]at h2;exact h2
 have hc1:=aA hc1;refine aC (λhc2=>⟨_,aJ (w:=w1.drew) b1 2 rfl,?_⟩) (λhc2=>?_)
 ·have hc2:=aB hc2;have hp:bM (.mk k n t e (l.map MV.m))=cA t:=by unfold bM;rw[aD hc0,aD hc1,aF hc2]
  rw[hp]at hk' hl;refine tX _ (by rw[lW];exact htl) λw3 c3=>⟨_,rfl,?_⟩;rw[cT];refine pWS (h1.ch0 ((Ch.drew _).trans' c3)) _ (by rw[cT];omega) λw2 h2=>⟨_,_,rfl,hk' w2 ?_⟩;rw[cT]at h2;exact h2
 have hc2:=aA hc2;refine aC (λhc3=>?_) (λhc3=>?_)
 ·have hc3:=aB hc3;have hp:bM (.mk k n t e (l.map MV.m))=91::(eO (l.map MV.m)++[93]):=by unfold bM;rw[aD hc0,aD hc1,aD hc2,aF hc3]
  rw[hp]at hk' hl;simp only[aI,aG,bN]at hl;refine pWB h1 91 (by omega) λv w2 h2=>⟨_,rfl,_,_,_,aJ (bx _ _ h2) 3 rfl,?_⟩;refine aHy ih hL1 hb8 hg1 hQ1 h2 hrow hfl hszl hcl (by simp only[aG,dQ];omega) λw3 h3=>⟨rfl,?_⟩;refine pWB h3 93 (by simp only[aG,dQ];omega) λv w4 h4=>⟨_,rfl,hk' w4 ?_⟩;simpa only[aP,List.singleton_append,aO,aX]using h4
 have hc3:=aA hc3;refine aC (λhc4=>⟨_,aJ (w:=w1.drew) b1 4 rfl,?_⟩) (λhc4=>?_)
 ·have hc4:=aB hc4;have hp:bM (.mk k n t e (l.map MV.m))=[97,114,114,97,121,32]++fZ e++[32,91]++eO (l.map MV.m)++[93]:=by unfold bM;rw[aD hc0,aD hc1,aD hc2,aD hc3,aD,aF hc4]
  rw[hp]at hk' hl;simp only[aG,aI,bN]at hl;have ho8:=o8 hc4;simp only[gF,bH,bA]at ho8;obtain⟨e',rfl⟩:∃e':Nat,e=(e':Int):=⟨e.toNat,by omega⟩;refine tK (by omega) λw3 c3=>⟨_,rfl,?_⟩;have hnl:=pO (e':Int);rw[show(ByteArray.mk (Array.mk [(97:UInt8),114,114,97,121,32]))=⟨([97,114,114,97,121,32]:Bs).toArray⟩ by rfl,show(ByteArray.mk (Array.mk [(32:UInt8),91]))=⟨([32,91]:Bs).toArray⟩ by rfl,iX,iX,lW,lW];refine⟨by omega,by simp only[aG,aI,bN];omega,?_⟩;refine pWS (h1.ch0 ((Ch.drew _).trans' c3)) _ (by rw[cT];simp only[aG,aI,bN];omega) λw2 h2=>⟨_,_,rfl,_,_,_,aJ (bx _ _ h2) 3 rfl,?_⟩;rw[cT]at h2;refine aHy ih hL1 hb8 hg1 hQ1 h2 hrow hfl hszl hcl (by simp only[aG,aI,bN];omega) λw3 h3=>⟨rfl,?_⟩;refine pWB h3 93 (by simp only[aG,aI,bN];omega) λv w4 h4=>⟨_,rfl,hk' w4 ?_⟩;simpa only[aP]using h4
 have hc4:=aA hc4;refine aC (λhc5=>?_) (λhc5=>?_)
 ·have hc5:=aB hc5;have hp:bM (.mk k n t e (l.map MV.m))=40::(eO (l.map MV.m)++[41]):=by unfold bM;rw[aD hc0,aD hc1,aD hc2,aD hc3,aD,aD hc4,aF hc5]
  rw[hp]at hk' hl;simp only[aI,aG,bN]at hl;refine pWB h1 40 (by omega) λv w2 h2=>⟨_,rfl,_,_,_,aJ (bx _ _ h2) 3 rfl,?_⟩;refine aHy ih hL1 hb8 hg1 hQ1 h2 hrow hfl hszl hcl (by simp only[aG,dQ];omega) λw3 h3=>⟨rfl,?_⟩;refine pWB h3 41 (by simp only[aG,dQ];omega) λv w4 h4=>⟨_,rfl,hk' w4 ?_⟩;simpa only[aP,List.singleton_append,aO,aX]using h4
 have hc5:=aA hc5;refine aC (λhc6=>?_) (λhc6=>⟨_,aJ (w:=w1.drew) b1 0 rfl,?_⟩)
 ·have hc6:=aB hc6;have hp:bM (.mk k n t e (l.map MV.m))=123::(gS (l.map MV.m)++[125]):=by unfold bM;rw[aD hc0,aD hc1,aD hc2,aD hc3,aF hc6]
  rw[hp]at hk' hl;simp only[aI,aG,bN]at hl;have hev:l.length%2=0:=by have:=(xQ (o7 hc6)).1;rwa [eI]at this
  have hln:=hrow.1;have hn46:=hrow.2.1;refine pWB h1 123 (by omega) λv w2 h2=>⟨_,rfl,?_⟩;refine⟨λm i w3=>∃j:Nat,i=((2*j:Nat):Int)/\m=s.n-2*j/\2*j<=s.n/\PW w1 g w3 b (out++[123]++gS ((l.take (2*j)).map MV.m)),⟨s.n,0,rfl,rfl,bQ _,by simpa[gS]using h2⟩,?_⟩;rintro m i w3 ⟨j,rfl,rfl,hj,h3⟩;refine⟨_,_,_,aJ (bx _ _ h3) 3 rfl,?_⟩;refine aC (λhlt=>?_) (λhge=>?_)
  ·have hjl:2*j<s.n:=by have:=aB hlt;omega
   obtain⟨y,hyi⟩:∃y,l[2*j]?=some y:=⟨l[2*j]'(by omega),aK _⟩;obtain⟨y',hyi'⟩:∃y',l[2*j+1]?=some y':=⟨l[2*j+1]'(by omega),aK _⟩;have hym:=bJ hyi;have hym':=bJ hyi';have htk:l.take (2*(j+1))=l.take (2*j)++[y,y']:=by
    rw[show 2*(j+1)=2*j+1+1 by omega,kG,hyi',kG,hyi];simp
   have hel:((l.take (2*j)).map MV.m).length%2=0:=by rw[eI,aU];omega
   have hfin:gS ((l.take (2*(j+1))).map MV.m)=gS ((l.take (2*j)).map MV.m)++(if(l.take (2*j)).map MV.m=[]then[]else[44,32])++bM y.m++[58,32]++bM y'.m:=by
    rw[htk,List.map_append];exact aAl _ _ _ hel
   have hle:=aAm ((l.drop (2*(j+1))).map MV.m) ((l.take (2*(j+1))).map MV.m) (by rw[eI,aU];omega) (by rw[eI,aN];omega);rw[<-List.map_append,List.take_append_drop,hfin]at hle;have hrow3:∀w4 o,PW w1 g w4 b o->VRow Q' w4 s.p s.n l:=λw4 o hw=>hrow.ch hw.ch λk hk e=>e.elim (hQ1 k hk).1 (hQ1 k hk).2;have hcase:(if(l.take (2*j)).map MV.m=[]then([]:Bs)else[44,32])=if j=0 then[]else[44,32]:=by
    by_cases h0:j=0
    ·subst h0;simp
    ·rw[aD h0,_root_.if_neg];intro e;have:=congrArg List.length e;simp only[eI,aU,bN]at this;omega
   rw[hcase]at hle hfin;simp only[aG,aI,bN]at hle;refine⟨λw4=>PW w1 g w4 b (out++[123]++gS ((l.take (2*j)).map MV.m)++(if j=0 then[]else[44,32])),λw4 h4=>?_,?_⟩
   ·refine⟨_,_,_,aJ (bx _ _ h4) 3 rfl,by omega,by show((2*j:Nat):Int)<((s.n:Nat):Int);omega,?_⟩;obtain⟨b4,o4,p4,_,a4⟩:=(hrow3 _ _ h4).at hyi;have p4:s.p=some ⟨b4,o4,none⟩:=p4;simp only[p4];refine ldR a4 ?_;rw[vv y];refine ih y hym hL1 hb8 hg1 hQ1 h4 (hrow.2.2.2.2 y hym) (hfl y hym) (hszl y hym) (hcl y hym) (by simp only[aG,aI,bN];omega) λw5 h5=>⟨rfl,?_⟩;refine pWS h5 _ (by show _+2<=_;simp only[aG,aI,bN];omega) λw6 h6=>⟨_,_,rfl,_,_,_,aJ (bx _ _ h6) 3 rfl,?_⟩;rw[aW (n:=((2*j:Nat):Int)+1)];refine⟨by omega,by show((2*j:Nat):Int)+1<((s.n:Nat):Int);omega,?_⟩;obtain⟨b6,o6,p6,_,a6⟩:=(hrow3 _ _ h6).at hyi';have p6:s.p=some ⟨b6,o6,none⟩:=p6;simp only[p6];rw[show((2*j:Nat):Int)+1=((2*j+1:Nat):Int) by omega];refine ldR a6 ?_;rw[vv y'];refine ih y' hym' hL1 hb8 hg1 hQ1 h6 (hrow.2.2.2.2 y' hym') (hfl y' hym') (hszl y' hym') (hcl y' hym') (by show(_++[58,32]:Bs).length+_<=_;simp only[aG,aI,bN];omega) λw7 h7=>⟨rfl,?_⟩;rw[aW (n:=((2*j:Nat):Int)+2)];refine⟨s.n-2*(j+1),by omega,j+1,by omega,rfl,by omega,?_⟩;rw[hfin];have e58:(ByteArray.mk (Array.mk [(58:UInt8),32])).data.toList=[58,32]:=rfl;rw[e58]at h7;simpa only[aP]using h7
   ·refine aC (λhp=>?_) (λhp=>?_)
    ·have hj0:j≠0:=by have:=aB hp;omega
     rw[aD hj0];rw[aD hj0]at hle;simp only[aI,bN]at hle;exact pWS h3 _ (by show _+2<=_;simp only[aG,aI,bN];omega) λw6 h6=>⟨_,_,rfl,h6⟩
    ·have hj0:j=0:=by have:=aA hp;omega
     rw[aF hj0,List.append_nil];exact h3
  ·have hjl:2*j=s.n:=by have:=aA hge;have:¬((2*j:Nat):Int)<((s.n:Nat):Int):=this;omega
   rw[aY (by omega)]at h3;refine pWB h3 125 (by simp only[aG,dQ];omega) λv w4 h4=>⟨_,rfl,hk' w4 ?_⟩;simpa only[aP,List.singleton_append,aO,aX]using h4
 ·have hc6:=aA hc6;have hp:bM (.mk k n t e (l.map MV.m))=fZ k++[32]++cE k n t:=by unfold bM;rw[aD hc0,aD hc1,aD hc2,aD hc3,aD hc6,aD hc4,aD hc5]
  rw[hp]at hk' hl;simp only[aG,aI,bN]at hl;obtain⟨k',rfl⟩:∃k':Nat,k=(k':Int):=⟨k.toNat,by omega⟩;refine tK (by omega) λw3 c3=>⟨_,rfl,?_⟩;have hnl:=pO (k':Int);rw[show(ByteArray.mk (Array.mk [(32:UInt8)]))=⟨([32]:Bs).toArray⟩ by rfl,iX,lW];refine⟨by omega,?_⟩;refine pWS (h1.ch0 ((Ch.drew _).trans' c3)) _ (by rw[cT];simp only[aG,aI,bN];omega) λw2 h2=>⟨_,_,rfl,?_⟩;rw[cT]at h2;refine⟨_,aJ (bx _ _ h2) 0 rfl,_,aJ (bx _ _ h2) 1 rfl,_,aJ (bx _ _ h2) 2 rfl,_,_,_,aJ (bx _ _ h2) 3 rfl,_,aJ (bx _ _ h2) 4 rfl,?_⟩;refine aMh (x:=.mk (k':Int) n t s e l) hL1 hb8 hg1 h2 hn64 htl (by simp only[aG,aI,bN];exact Nat.le_trans (by show _+(cE (k':Int) n t).length<=_;omega) hl) λw4 h4=>⟨rfl,hk' w4 ?_⟩;rw[aP]at h4;exact h4
theorem aYf{w:World}{K:Addr->World->Prop}(hk:∀w',BAt w' TPr w.heap.size [] none->Ch (λ_=>False) w w'->w'.heap.size=w.heap.size+1->K ⟨w.heap.size,0,none⟩ w'):bP w [.pointer none,.slice none 0 0] 120 K :=
 hk _ BAt.new (eV _ _) (by simp)
theorem aUb{Q:Nat->Prop}{w:World}{x:MV}(hL:LW w)(hx:VR Q w x)(hf:x.m.fits)(hz:x.m.sz<=2^37){K:Value->World->Prop}
 (h1:∀w',Ch (λ_=>False) w w'->x.m.check 1≠0->K (.tuple #[.string ⟨#[]⟩,.int .i64 (x.m.check 1:Int)]) w')
 (h2:∀w',Ch (λ_=>False) w w'->x.m.check 1=0->1048576<(bM x.m).length->K (.tuple #[.string ⟨#[]⟩,.int .i64 2]) w')
 (h3:∀w',Ch (λ_=>False) w w'->x.m.check 1=0->(bM x.m).length<=1048576->K (.tuple #[.string ⟨(bM x.m).toArray⟩,.int .i64 0]) w') :
 bK Tryz.prog 61 [x.v] w K:=by
 have hpl:=aGf x.m hf;have hxl:=hx.lt x;obtain⟨k,n,t,s,e,l⟩:=x;apply aFg;refine oD (x:=.mk k n t s e l) λw1 b1 a1 c1 z1=>?_;refine ldK b1 ?_;rw[vv];refine aF4 hf (by omega) (hL.ch0 c1) (hx.ch0 c1) λw2 c2=>⟨_,rfl,?_⟩;rw[eJ];have c12:=c1.trans' c2;refine aC (λh=>?_) (λh=>?_)
 ·rw[bG]at h;have h:=aA h;exact h1 w2 c12 (by omega)
 ·rw[bF]at h;have h:=aB h;have hc:(MV.mk k n t s e l).m.check 1=0:=by omega
  refine aYf λw3 hB c3 z3=>?_;have c13:=c12.trans' c3;have hz1:=c12.size;have hz0:=hL.size;have b13:=((c2.trans' c3).blk (aH b1) id).trans b1;refine ldK b13 ?_;rw[vv];have hP:PW w3 none w3 w2.heap.size []:=⟨⟨none,hB,(λ_ h=>by cases h),Ch.refl _ _⟩,hB.lt,(λ_ h=>by cases h)⟩;refine aPi _ (hL.ch0 c13) (by omega) (λ_ h=>by cases h) (λj hj=>⟨?_,λh=>by cases h⟩) hP (hxl.ch0 c13) hf (by omega) hc (by show 0+_<=_;omega) λw4 h4=>⟨rfl,?_⟩
  ·have:=hj.2;omega
  rw[aX]at h4;have hc4:=h4.ch;obtain⟨⟨g,hB4,hg4,_⟩,_⟩:=h4;simp only[add_at];refine aW9 hB4 ⟨_,rfl,?_⟩;have c14:Ch (λ_=>False) w w4:=c13.trans hc4 λy hy e=>e.elim (λe=>by omega) (λe=>by cases e);refine aC (λh=>?_) (λh=>?_)
  ·have h:=aB h;exact h2 w4 c14 hc (by omega)
  ·have h:=aA h;refine uR hB4 (by omega) λw5 c5=>⟨_,rfl,h3 w5 (c14.trans c5 λy hy e=>?_) hc (by omega)⟩;rcases hg4 y e with e|e
   ·cases e
   ·have:=c13.size;omega
end Go.Proofs.YtlfhjkgdlclddaaGreatDoor
namespace Go.Note
open Go
def aA3(l:Bs):Bs × Bool:=match gE l with
 | some p=>if p.2=l.length then(p.1,true)else([],false)
 | none=>([],false)
theorem aLz(l:Bs):aA3 (cA l)=(l,true):=by
 unfold aA3;have:=sJ l [];rw[List.append_nil]at this;rw[this];simp
end Go.Note
namespace Go.Proofs.YtlfhjkgdlclddaaGreatDoor
open Go Go.Sv Go.Note
attribute [local irreducible] aS
theorem aQ4{x:MV}{a e:Int}{K:Int->Int->ByteArray->Option Addr->Nat->Nat->Int->Int->Int->Prop}(h:K x.k (x.n:Int) ⟨x.t.toArray⟩ x.s.p x.s.n x.s.c x.e a e) :
 ∃n n1 s p n2 c n3 n4 n5,Value.tuple #[x.v,.int .i64 a,.int .i64 e]=.tuple (Array.mk [.agg (Array.mk [.int .i64 n,.int .u64 n1,.string s,.slice p n2 c,.int .i64 n3]),.int .i64 n4,.int .i64 n5])/\K n n1 s p n2 c n3 n4 n5:=by
 cases x;exact⟨_,_,_,_,_,_,_,_,_,rfl,h⟩
end Go.Proofs.YtlfhjkgdlclddaaGreatDoor
namespace Go.Note
open Go
def PrR(m:M):Bs × Nat:=if m.check 1≠0 then([],m.check 1)else if 1048576<(bM m).length then([],2)else(bM m,0)
theorem aUc{m:M}(hf:m.fits)(h:(PrR m).2=0):(PrR m).1=bM m/\(bM m).length<=1048576/\m.check 1=0/\gT (PrR m).1=.ok m 0:=by
 unfold PrR at h ⊢;split at h<;>rename_i h1
 ·exact absurd h h1
 ·split at h<;>rename_i h2
  ·cases h
  ·rw[aD h1,aD h2];have hc:m.check 1=0:=by omega
   exact⟨rfl,by omega,hc,aAn hf hc (by omega)⟩
theorem aW8{m:M}(h1:m.check 1=0)(h2:(bM m).length<=1048576):PrR m=(bM m,0):=by
 unfold PrR;rw[aD,aD]
end Go.Note
namespace Go.Proofs.YtlfhjkgdlclddaaGreatDoor
open Go Go.Sv Go.Note
attribute [local irreducible] aS
theorem aRs{Q:Nat->Prop}{w:World}{x:MV}(hL:LW w)(hx:VR Q w x)(hf:x.m.fits)(hz:x.m.sz<=2^37){K:Value->World->Prop}
 (hk:∀w',Ch (λ_=>False) w w'->K (.tuple #[.string ⟨(PrR x.m).1.toArray⟩,.int .i64 ((PrR x.m).2:Int)]) w') :
 bK Tryz.prog 61 [x.v] w K:=by
 refine aUb hL hx hf hz (λw' c h=>?_) (λw' c h h2=>?_) λw' c h h2=>?_
 ·have:=hk w' c;unfold PrR at this;rw[aF h]at this;exact this
 ·have:=hk w' c;unfold PrR at this;rw[aD,aF h2]at this;exact this
 ·have:=hk w' c;rw[aW8 h h2]at this;exact this
end Go.Proofs.YtlfhjkgdlclddaaGreatDoor
namespace Go.Note
open Go Go.Proofs.YtlfhjkgdlclddaaGreatDoor
structure Fr where
 ty:Int
 ch:Int
 ext:Bs
 body:Bs
structure It where
 kind:Int
 proto:Int
 fr:Fr
def fr0:Fr:=⟨0,0,[],[]⟩
def aJl(f:Fr):Nat:=8+f.ext.length+f.body.length
def fN(f:Fr):Nat :=
 if f.ty≠0/\f.ty≠1 then 53
 else if f.ch<0\/65535<f.ch\/(f.ty=1/\f.ch≠0)then 54
 else if f.ext.length%4≠0\/1012<f.ext.length then 52
 else if 1048576<aJl f then 2 else 0
def sO(f:Fr):Bs:=be 4 (aJl f)++(UInt8.ofNat ((8+f.ext.length) / 4)::UInt8.ofNat f.ty.toNat::be 2 f.ch.toNat)++f.ext++f.body
def aCm(f:Fr):Bs × Nat:=if fN f≠0 then([],fN f)else(sO f,0)
def iE(p:Nat):Bs:=[76,83,72,82,UInt8.ofNat p,1,0,0]
def oH(b:Bs)(a most:Nat):Except Nat (Fr × Nat) :=
 if(b.drop a).length<4 then .error 10
 else if bO (sub b a 4)<8\/most<bO (sub b a 4)then .error 51
 else if(b.drop a).length<5 then .error 10
 else if 4*bL b (a+4)<8\/bO (sub b a 4)<4*bL b (a+4)then .error 52
 else if(b.drop a).length<6 then .error 10
 else if 1<bL b (a+5)then .error 53
 else if(b.drop a).length<bO (sub b a 4)then .error 10
 else .ok (⟨(bL b (a+5):Int),if bL b (a+5)=0 then(bO (sub b (a+6) 2):Int)else 0,sub b (a+8) (4*bL b (a+4)-8),sub b (a+4*bL b (a+4)) (bO (sub b a 4)-4*bL b (a+4))⟩,a+bO (sub b a 4))
def aLn(b:Bs)(a p:Nat):Bool:=decide (sub b a 8=(iE p).take (sub b a 8).length)
def nN(b:Bs)(a:Nat):Except Nat (Nat × Nat) :=
 if aLn b a 0=false/\aLn b a 3=false then .error 50
 else if(b.drop a).length<8 then .error 10
 else if aLn b a 0=true then .ok (0,a+8)else .ok (3,a+8)
def pU(b:Bs)(a:Nat):Bool:=decide (sub b a 4=((iE 0).take 4).take (sub b a 4).length)
def pN(b:Bs)(a most:Nat):Except Nat (It × Nat) :=
 if pU b a=true then match nN b a with
  | .error e=>.error e
  | .ok (p,to9)=>.ok (⟨1,(p:Int),fr0⟩,to9)
 else match oH b a most with
  | .error e=>.error e
  | .ok (f,to9)=>.ok (⟨2,0,f⟩,to9)
def sRaw:Bs:=[32,114,97,119,32]
def sValue:Bs:=[32,118,97,108,117,101,32]
def sRest:Bs:=[32,114,101,115,116,32]
def sExt:Bs:=[32,101,120,116,32]
def sMain:Bs:=[109,97,105,110,32]
def iR:Bs:=[103,117,97,114,100]
def oR:Bs:=[104,101,97,100,101,114,32,109,97,105,110]
def lR:Bs:=[104,101,97,100,101,114,32,103,117,97,114,100]
def pE(b:Bs):Bs:=sRaw++cA b
def kL(b:Bs)(m:M)(to9:Nat):Bs:=if to9<b.length then bM m++(sRest++cA (b.drop to9))else bM m
def eF(b:Bs):Bs :=
 if b=[]then[]
 else match oC b 0 with
  | none=>pE b
  | some (m,to9)=>if nI (b.take to9)=false then pE b
   else if(PrR m).2≠0 then pE b
   else if 1048576<(kL b m to9).length then pE b
   else sValue++kL b m to9
def aAf(f:Fr):Bool:=decide (f.ty=0) && decide (f.ch=0) && decide (f.ext=[]) && decide (f.body=[])
def iV(f:Fr):Bs:=(if f.ty=0 then sMain++Lib.decDigits f.ch.toNat else iR)++(if f.ext=[]then[]else sExt++cA f.ext)++eF f.body
def eU(i:It):Bs × Nat :=
 if i.kind=1/\aAf i.fr=true then
  if i.proto≠0/\i.proto≠3 then([],50)else if i.proto=3 then(lR,0)else(oR,0)
 else if i.kind≠2\/i.proto≠0 then([],280)
 else if fN i.fr≠0 then([],fN i.fr)
 else(iV i.fr,0)
def mN(b:Bs)(most:Nat):Nat->Nat->Bs->Bs × Nat
 | 0,_,acc=>(acc,0)
 | f+1,a,acc=>if b.length<=a then(acc,0)else match pN b a most with
  | .error e=>(acc,e)
  | .ok (i,to9)=>mN b most f to9 (acc++((eU i).1++[10]))
def zN(b:Bs)(most:Int):Bs × Nat:=if most<512\/1048576<most then([],1)else mN b most.toNat (b.length+1) 0 []
def jH(p s:Bs):Option Bs:=if p.isPrefixOf s then some (s.drop p.length)else none
def uS:Bs->Nat->Bool->Nat
 | [],_,_=>0
 | x::t,i,xY=>if xY then uS t (i+1) false else if x=92 then uS t (i+1) true else if x=34 then i+1 else uS t (i+1) false
def eT:Bs->Nat
 | []=>0
 | x::t=>if x=34 then uS t 1 false else 0
def lD(s:Bs):Option Bs:=if(aA3 s).2=true/\(aA3 s).1≠[]then some (aA3 s).1 else none
def vS(m:M)(rest:Bs):Option Bs:=if(pA m).2=0 then some ((pA m).1++rest)else none
def oF(s:Bs):Option Bs :=
 if s=[]then some []
 else match jH sRaw s with
  | some w=>lD w
  | none=>match jH sValue s with
   | none=>none
   | some t =>
    if(cY t).2.2=44 then match jH [114,101,115,116,32] (t.drop (cY t).2.1)with
     | none=>none
     | some w=>match lD w with
       | none=>none
       | some rest=>if(cY (t.take (cY t).2.1)).2.2≠0 then none else vS (cY (t.take (cY t).2.1)).1 rest
    else if(cY t).2.2≠0 then none
    else vS (cY t).1 []
def iD(x:UInt8):Bool:=decide (48<=x.toNat) && decide (x.toNat<=57)
def tU(s:Bs):Option (Nat × Bs) :=
 let d:=s.takeWhile iD
 if d=[]then none else if d≠Lib.decDigits (lU d)\/65535<lU d then none else some (lU d,s.drop d.length)
def mP(line:Bs):Option (Int × Nat × Bs):=match jH iR line with
 | some s=>some (1,0,s)
 | none=>match jH sMain line with
  | none=>none
  | some d=>match tU d with
   | none=>none
   | some (c,s)=>some (0,c,s)
def xW(s:Bs):Option (Bs × Bs):=match jH sExt s with
 | none=>some ([],s)
 | some w=>match lD (w.take (eT w))with
  | none=>none
  | some x=>some (x,w.drop (eT w))
def mQ(line:Bs):Option It :=
 if line=oR then some ⟨1,0,fr0⟩
 else if line=lR then some ⟨1,3,fr0⟩
 else match mP line with
  | none=>none
  | some (ty,ch,s)=>match xW s with
   | none=>none
   | some (ext,s2)=>match oF s2 with
    | none=>none
    | some body=>if fN ⟨ty,(ch:Int),ext,body⟩≠0 then none else some ⟨2,0,⟨ty,(ch:Int),ext,body⟩⟩
def dY:Bs->List Bs
 | []=>[[]]
 | x::t=>if x=10 then[]::dY t else match dY t with
  | []=>[[x]]
  | l::ls=>(x::l)::ls
def fC(i:It):Bs:=if i.kind=1 then iE i.proto.toNat else sO i.fr
def jY:List Bs->Nat->Bs->Bs × Nat × Nat
 | [],_,acc=>(acc,0,0)
 | l::ls,n,acc=>if l=[]\/l.head?=some 35 then jY ls (n+1) acc else match mQ l with
  | none=>([],n+1,280)
  | some i=>jY ls (n+1) (acc++fC i)
def tV(t:Bs):Bs × Nat × Nat:=jY (dY t) 0 []
end Go.Note
