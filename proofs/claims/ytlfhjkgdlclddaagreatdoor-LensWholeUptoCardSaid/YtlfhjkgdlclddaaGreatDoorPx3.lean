/-
  What is written, read again, in plain Lean: a row of tokens reads as the value. No program in sight. Numbers and words, written and read again, in plain Lean. No program in sight. The tokens of what is written, in plain Lean: the text of a value is its row of tokens. No program in sight. What is written reads as it was, in plain Lean. No program in sight. What is read, may be; how much it is; in plain Lean. No program in sight. Values of the wire as they lie in memory: read (shared or not), and owned. The document's values (longshoreref02): Equal, weigh, Great.
-/
import Derived.Test.YtlfhjkgdlclddaaGreatDoorPx2
set_option linter.unusedVariables false
set_option linter.unusedSimpArgs false
namespace Go.Note
open Go
theorem eN{s:Bs}{a:Nat}(ha:a<=s.length){t:Tk}{r:List Tk}(h:fP (s.drop a)=t::r) :
 (next s a).kind=t.1/\(next s a).text=t.2/\(next s a).fin<=s.length/\fP (s.drop (next s a).fin)=r:=by
 rw[yP s ha]at h;split at h
 ·cases h
 ·rename_i hk;have:=dM s a ha;simp only[List.cons.injEq]at h;obtain⟨rfl,h2⟩:=h;exact⟨rfl,rfl,by omega,h2⟩
theorem jD{t:Tok}{k:Nat}{x:Bs}(h1:t.kind=k)(h2:t.text=x):dA t=dA ⟨k,0,0,x⟩:=by
 unfold dA;rw[h1,h2]
theorem aEa{t:Tok}{k:Nat}{x:Bs}(h1:t.kind=k)(h2:t.text=x)(c:UInt8):t.is c=(decide (k=3) && decide (x=[c])):=by
 unfold Tok.is;rw[h1,h2]
theorem lG{s:Bs}{d a b:Nat}{m:M}(h:gZ s d a=.ok m b):∃k,dA (next s a)=some k:=by
 rw[gJ]at h;cases hb:dA (next s a)with
 | some k=>exact⟨k,rfl⟩
 | none =>
  rw[hb]at h;unfold cM at h;simp only at h;split at h<;>cases h
theorem aHg{t:Tok}{k:Nat}(h:dA t=some k){c:UInt8}(hc:c≠91/\c≠123/\c≠40):t.is c=false:=by
 by_cases hi:t.is c=true
 ·simp only[Tok.is,bH,bA]at hi;unfold dA at h;simp[hi.1,hi.2,hc.1,hc.2.1,hc.2.2]at h
 ·simpa using hi
def aVx(m:M):Prop:=∀(d:Nat) (s:Bs) (a:Nat) (r:List Tk),d<=32->m.check (33-d)=0->a<=s.length->fP (s.drop a)=xE m++r->∃b,b<=s.length/\gZ s d a=.ok m b/\fP (s.drop b)=r
theorem wN{s:Bs}{d:Nat}(hd:d<=32){elem:Option Nat}:∀(l:List M),(∀x∈l,aVx x)->(∀x∈l,x.check (33-d)=0)->(∀k,elem=some k->∀x∈l,x.k=(k:Int))->∀(a:Nat) (acc:List M) (r:List Tk),a<=s.length->fP (s.drop a)=kO l++(3,[93])::r ->
 ∃b,b<=s.length/\fM (gZ s d) s elem a acc=.ok (acc++l) b/\fP (s.drop b)=r
 | [],_,_,_,a,acc,r,ha,h=>by
  simp only[kO,aX]at h;obtain⟨h1,h2,h3,h4⟩:=eN ha h;rw[zX (fE s d) elem acc ha,aEa h1 h2];exact⟨_,h3,by simp,h4⟩
 | x::l,hb,hc,hk,a,acc,r,ha,h=>by
  simp only[kO,aP]at h;obtain⟨b,g1,g2,g3⟩:=hb x (by simp) d s a _ hd (hc x (by simp)) ha h;rw[zX (fE s d) elem acc ha,g2];obtain⟨k,g4⟩:=lG g2;rw[aHg g4 (by decide)];obtain⟨c,f1,f2,f3⟩:=wN hd (elem:=elem) l (λy hy=>hb y (by simp[hy])) (λy hy=>hc y (by simp[hy])) (λk e y hy=>hk k e y (by simp[hy])) b (acc++[x]) r g1 g3;refine⟨c,f1,?_,f3⟩;rw[aP]at f2;cases elem with
  | none=>simpa using f2
  | some k =>
   simp only[hk k rfl x (by simp)];simpa using f2
theorem aMl{s:Bs}{d:Nat}(hd:d<=32):∀(n:Nat) (l:List M),l.length=n->n%2=0->l≠[]->(∀x∈l,aVx x)->(∀x∈l,x.check (33-d)=0)->∀(a:Nat) (acc:List M) (r:List Tk),a<=s.length->fP (s.drop a)=sT l++(3,[125])::r ->
 ∃b,b<=s.length/\wE (gZ s d) s a acc=.ok (acc++l) b/\fP (s.drop b)=r:=by
 intro n
 induction n using Nat.strongRecOn with
 | ind n ih =>
  intro l hl hn hne hb hc a acc r ha h
  match l,hl,hne,hb,hc,h with
  | [x],hl,_,_,_,_=>simp at hl;omega
  | x::y::l,hl,hne,hb,hc,h =>
   simp only[sT,yY,aP,aO]at h;obtain⟨b,g1,g2,g3⟩:=hb x (by simp) d s a _ hd (hc x (by simp)) ha h;obtain⟨t1,t2,t3,t4⟩:=eN g1 g3;obtain⟨c,f1,f2,f3⟩:=hb y (by simp) d s _ _ hd (hc y (by simp)) t3 t4;rw[zA (fE s d) acc ha,g2];simp only[aEa t1 t2];simp only[decide_true,Bool.and_self,Bool.true_eq_false,if_false,f2];cases l with
   | nil =>
    simp only[yZ,aX]at f3;obtain⟨u1,u2,u3,u4⟩:=eN f1 f3;simp only[aEa u1 u2];exact⟨_,u3,by simp,u4⟩
   | cons z l =>
    simp only[yZ,aO,aP]at f3;obtain⟨u1,u2,u3,u4⟩:=eN f1 f3;simp only[aEa u1 u2];simp only[aI]at hl;obtain⟨e,e1,e2,e3⟩:=ih (n-2) (by omega) (z::l) (by simp;omega) (by omega) (by simp) (λw hw=>hb w (cN _ (cN _ hw))) (λw hw=>hc w (cN _ (cN _ hw))) _ (acc++[x,y]) r u3 (by simpa[sT]using u4);exact⟨e,e1,by simpa using e2,e3⟩
theorem lV(n:Nat)(h:n<256):(UInt8.ofNat n).toNat=n:=by simp only[UInt8.toNat_ofNat'];omega
theorem uM:∀(n:Nat),∀x∈Lib.decDigits n,dT x=true:=by
 intro n
 induction n using Nat.strongRecOn with
 | ind n ih =>
  intro x hx;rw[Lib.decDigits]at hx;split at hx
  ·rw[List.mem_singleton.1 hx];unfold dT;rw[lV _ (by omega)];simp;omega
  ·rcases List.mem_append.1 hx with h|h
   ·exact ih (n / 10) (by omega) x h
   ·rw[List.mem_singleton.1 h];unfold dT;rw[lV _ (by omega)];simp;omega
theorem aOl:∀(n:Nat),lU (Lib.decDigits n)=n:=by
 intro n
 induction n using Nat.strongRecOn with
 | ind n ih =>
  rw[Lib.decDigits];split
  ·unfold lU;simp only[List.foldl_cons,List.foldl_nil];rw[lV _ (by omega)];omega
  ·have:=ih (n / 10) (by omega);unfold lU at this ⊢;rw[List.foldl_append,this];simp only[List.foldl_cons,List.foldl_nil];rw[lV _ (by omega)];omega
theorem zZ(n:Nat):Lib.decDigits n≠[]:=by
 rw[Lib.decDigits];split<;>simp
theorem aTf:∀(n:Nat),10<=n->(Lib.decDigits n).head?≠some 48:=by
 intro n
 induction n using Nat.strongRecOn with
 | ind n ih =>
  intro hn;rw[Lib.decDigits,dif_neg (by omega),List.head?_append];by_cases h:10<=n / 10
  ·have:=ih (n / 10) (by omega) h;cases hh:(Lib.decDigits (n / 10)).head? with
   | none=>exact absurd (List.head?_eq_none_iff.1 hh) (zZ _)
   | some y=>rw[hh]at this;simpa using this
  ·rw[Lib.decDigits,dif_pos (by omega)];simp only[List.head?_cons,Option.some_or,ne_eq,Option.some.injEq];intro e;have:=congrArg UInt8.toNat e;rw[lV _ (by omega)]at this;simp at this;omega
theorem aAy(n:Nat)(h:n<10):(Lib.decDigits n).length=1:=by rw[Lib.decDigits,dif_pos h];rfl
theorem aKa(n:Nat):oV (Lib.decDigits n)=some n:=by
 unfold oV;rw[_root_.if_neg,aOl];rintro(h|⟨h1,h2⟩|h)
 ·exact zZ n h
 ·by_cases hn:10<=n
  ·exact aTf n hn h2
  ·rw[aAy n (by omega)]at h1;omega
 ·have:(Lib.decDigits n).all dT=true:=List.all_eq_true.2 (uM n);rw[this]at h;cases h
theorem aIu{x:UInt8}(h:dT x=true):cQ x=true:=by
 unfold cQ;unfold dT at h;simp only[h,Bool.or_true,Bool.true_or]
theorem aTd{x:UInt8}(h:dT x=true):x≠45:=by
 rintro rfl;simp[dT]at h
theorem rN(n:Nat):∀x∈Lib.decDigits n,cQ x=true:=λx hx=>aIu (uM n x hx)
theorem aM8(n:Nat):(Lib.decDigits n).head?≠some 45:=by
 intro h;exact aTd (uM n 45 (List.mem_of_head? h)) rfl
theorem aKm(k n:Nat)(h1:n<=(gN k).1)(h2:¬(k=15/\55296<=n/\n<=57343)):iB k (Lib.decDigits n)=some n:=by
 unfold iB;rw[aD (λh=>aM8 n h.2.2),aKa];simp only;rw[aF ⟨h1,h2⟩]
theorem aSn(k n:Nat)(h0:0<n)(h1:n<=(gN k).2):iB k (45::Lib.decDigits n)=some (18446744073709551616-n):=by
 unfold iB;rw[aF ⟨by omega,by
  have:0<(Lib.decDigits n).length:=List.length_pos_iff.2 (zZ n);simp only[aI];omega,rfl⟩,List.tail_cons,aKa]
 simp only;rw[aF ⟨h0,h1⟩]
theorem aEe(n:Nat)(h:n<16):(kW n).toNat=if n<10 then 48+n else 87+n:=by
 unfold kW;split
 ·simp only[Nat.toUInt8];rw[lV _ (by omega)]
 ·simp only[Nat.toUInt8];rw[lV _ (by omega)]
theorem qG(n:Nat)(h:n<16)(c:Bool):eH (kW n) c=some n:=by
 unfold eH;rw[aEe n h];by_cases h1:n<10
 ·simp only[h1,if_true];rw[aF];congr 1;omega
 ·simp only[h1,if_false];rw[aD,aF];congr 1;omega
theorem tP(n:Nat)(h:n<16):cQ (kW n)=true:=by
 unfold cQ;rw[aEe n h];by_cases h1:n<10
 ·simp[h1];omega
 ·simp[h1];omega
theorem mA:∀(m n:Nat),(lA m n).length=m
 | 0,_=>rfl
 | m+1,n=>by simp[lA,mA m]
theorem oL:∀(m n:Nat),∀x∈lA m n,cQ x=true
 | 0,_,x,h=>by simp[lA]at h
 | m+1,n,x,h=>by
  simp only[lA,List.mem_append,List.mem_singleton]at h;rcases h with h|h
  ·exact oL m _ x h
  ·rw[h];exact tP _ (by omega)
theorem vO:∀(n:Nat) (a b x:Bs),a.length=n->dR a=some x->dR (a++b)=(dR b).map (x++·):=by
 intro n
 induction n using Nat.strongRecOn with
 | ind n ih =>
  intro a b x hl h
  match a,hl,h with
  | [],_,h=>simp[dR]at h;subst h;simp
  | [_],_,h=>simp[dR]at h
  | u::v::l,hl,h =>
   simp only[dR]at h;simp only[aO,dR];cases hu:eH u false with
   | none=>rw[hu]at h;simp at h
   | some y =>
    cases hv:eH v false with
    | none=>rw[hu,hv]at h;simp at h
    | some z =>
     cases hp:dR l with
     | none=>rw[hu,hv,hp]at h;simp at h
     | some r =>
      rw[hu,hv,hp]at h;simp only[Option.some.injEq]at h;subst h;simp only[aI]at hl;rw[ih (n-2) (by omega) l b r (by omega) hp];cases dR b<;>simp
theorem aCz(n:Nat)(h:n<256):dR [kW (n / 16),kW (n%16)]=some [n.toUInt8]:=by
 simp only[dR,qG (n / 16) (by omega),qG (n%16) (by omega)];rw[show 16*(n / 16)+n%16=n by omega]
theorem aKs(m n:Nat):lA (m+2) n=lA m (n / 256)++[kW (n / 16%16),kW (n%16)]:=by
 show lA (m+1) (n / 16)++[kW (n%16)]=_;show(lA m (n / 16 / 16)++[kW (n / 16%16)])++[kW (n%16)]=_;rw[Nat.div_div_eq_div_mul];simp
theorem aE0(b:Bs)(x:UInt8):beN (b++[x])=256*beN b+x.toNat:=by
 unfold beN;rw[List.foldl_append];rfl
theorem zQ:∀(j n:Nat),n<256^j->∃b,dR (lA (2*j) n)=some b/\beN b=n/\b.length=j
 | 0,n,h=>⟨[],rfl,by simp at h;simp[beN,h],rfl⟩
 | j+1,n,h=>by
  rw[Nat.pow_succ]at h;obtain⟨b,h1,h2,h3⟩:=zQ j (n / 256) (by omega);rw[show 2*(j+1)=2*j+2 by omega,aKs,vO _ _ _ _ rfl h1];have:=aCz (n%256) (by omega);rw[show n%256 / 16=n / 16%16 by omega,show n%256%16=n%16 by omega]at this;rw[this];refine⟨_,rfl,?_,by simp[h3]⟩;rw[aE0,h2];simp only[Nat.toUInt8];rw[lV _ (by omega)];omega
theorem sS(b:Bs):(vZ b).length=2*b.length:=by
 induction b with
 | nil=>rfl
 | cons x b ih =>
  unfold vZ at ih ⊢;rw[bU,aG,ih,mA,aI];omega
theorem aPh(b:Bs):dR (vZ b)=some b:=by
 induction b with
 | nil=>rfl
 | cons x b ih =>
  unfold vZ at ih ⊢;rw[bU];have hx:=x.toNat_lt;have h1:lA 2 x.toNat=[kW (x.toNat / 16),kW (x.toNat%16)]:=by
   rw[show(2:Nat)=0+2 by rfl,aKs,show x.toNat / 16%16=x.toNat / 16 by omega];rfl
  rw[h1,vO _ _ _ _ rfl (aCz x.toNat (by omega)),ih];simp
theorem aJz(b:Bs):∀x∈vZ b,cQ x=true:=by
 intro x hx;unfold vZ at hx;obtain⟨y,_,hy⟩:=List.mem_flatMap.1 hx;exact oL _ _ x hy
theorem aSg(x:UInt8)(l:Bs):jU (92::120::kW (x.toNat / 16)::kW (x.toNat%16)::l)=some ([x],4):=by
 have hx:=x.toNat_lt;have h1:=qG (x.toNat / 16) (by omega) true;have h2:=qG (x.toNat%16) (by omega) true;simp only[jU,dX];simp only[if_true];rw[aD (by decide),aD (by decide),h1,h2];simp only[Option.map_some,Option.some.injEq,Prod.mk.injEq,List.cons.injEq,and_true];rw[show 16*(x.toNat / 16)+x.toNat%16=x.toNat by omega];simp
theorem aQz:∀(p l:Bs),wd (xY p++l)=(wd l).map λq=>(p++q.1,(xY p).length+q.2)
 | [],l=>by cases h:wd l<;>simp[xY,h]
 | x::p,l=>by
  simp only[xY,aO];rw[mR,aD (by decide),aSg];simp only[List.drop_succ_cons,bS];rw[aQz p l];cases wd l<;>simp;omega
theorem aK8{l:Bs}(r:Bs)(h:chr l≠0):chr (l.take (chr l)++r)=chr l:=by
 have hc:=lP l;have hle:=rP l;have e:∀k,k<chr l->ch (l.take (chr l)++r) k=ch l k:=by
  intro k hk;unfold ch;rw[cK (by rw[aU];omega),cZ,aF hk]
 rw[lP (l.take (chr l)++r)];generalize hn:chr l=n at *;have e0:ch (l.take n++r) 0=ch l 0:=e 0 (by omega);rw[e0];generalize ch l 0=a at *;split at hc
 ·rw[aF (by assumption)];exact hc.symm
 ·rename_i c1;rw[aD c1];split at hc
  ·rename_i c2;rw[e 1 (by clear e;omega),aF c2];exact hc.symm
  ·rename_i c2;split at hc
   ·rename_i c3;rw[e 1 (by clear e c1 c2 c3;omega),e 2 (by clear e c1 c2 c3;omega),aD c2,aF c3];exact hc.symm
   ·rename_i c3;split at hc
    ·rename_i c4;rw[e 1 (by clear e c1 c2 c3 c4;omega),e 2 (by clear e c1 c2 c3 c4;omega),e 3 (by clear e c1 c2 c3 c4;omega),aD c2,aD c3,aF c4];exact hc.symm
    ·exact absurd hc h
theorem aM0{x:UInt8}{t r:Bs}(h0:chr (x::t)≠0)(h1:x≠92)(h2:¬x.toNat<32):jU ((x::t).take (chr (x::t))++r)=some ((x::t).take (chr (x::t)),chr (x::t)):=by
 have hle:=rP (x::t);have hc:=aK8 r h0;obtain⟨m,hm⟩:∃m,chr (x::t)=m+1:=⟨chr (x::t)-1,by omega⟩;have e:(x::t).take (chr (x::t))++r=x::(t.take m++r):=by rw[hm];rfl
 have e2:jU (x::(t.take m++r))=if x.toNat<32\/chr (x::(t.take m++r))=0 then none else some ((x::(t.take m++r)).take (chr (x::(t.take m++r))),chr (x::(t.take m++r))):=by
  have:jU (x::(t.take m++r))=if x=92 then(dX (t.take m++r)).map λp=>([p.1],p.2)else if x.toNat<32\/chr (x::(t.take m++r))=0 then none else some ((x::(t.take m++r)).take (chr (x::(t.take m++r))),chr (x::(t.take m++r))):=rfl;rw[this,aD h1]
 rw[e]at hc;rw[e,e2,hc,aD (λh=>h.elim h2 h0),hm];simp only[List.take_succ_cons];rw[kF (by rw[aU];simp only[aI]at hle;omega),List.take_take,Nat.min_self]
theorem aQx{l:Bs}(hl:l≠[])(r:Bs):wd (fK (l.take (wide l))++r)=(wd r).map λq=>(l.take (wide l)++q.1,(fK (l.take (wide l))).length+q.2):=by
 obtain⟨x,t,rfl⟩:=List.exists_cons_of_ne_nil hl;have hw:=nH (x::t);generalize hp:(x::t).take (wide (x::t))=p;unfold fK;split
 ·rename_i h;rcases h with h|h
  all_goals
   subst h;simp only[aO,aX];rw[mR,aD (by decide)];simp only[jU,dX,if_true,true_or,or_true];simp only[Option.map_some,List.drop_succ_cons,bS];cases wd r<;>simp
 ·rename_i q1;split
  ·rename_i h;subst h;simp only[aO,aX];rw[mR,aD (by decide)];simp only[jU,dX,if_true];rw[aD (by decide)];simp only[Option.map_some,List.drop_succ_cons,bS];cases wd r<;>simp
  ·rename_i q2;split
   ·rename_i hpl;have hlen:p.length=wide (x::t):=by
     have:=(aBr (x::t) hl).1;rw[<-hp,aU];omega
    have hch:chr (x::t)≠0/\¬x.toNat<32:=by
     have hw1:wide (x::t)=1->p=[x]:=by
      intro e;rw[<-hp,e];rfl
     have hcc:=lP (x::t);have e0:ch (x::t) 0=x.toNat:=rfl;rw[e0]at hcc;by_cases hx:x.toNat<=127
     ·rw[aF hx]at hcc;have:wide (x::t)=1:=by unfold wide;omega
      rw[hw1 this]at hpl;simp only[oT,bH,bA]at hpl;exact⟨by omega,by omega⟩
     ·refine⟨λe=>?_,by omega⟩;have:wide (x::t)=1:=by unfold wide;omega
      rw[hw1 this]at hpl;simp only[oT,bH,bA]at hpl;omega
    have hwc:wide (x::t)=chr (x::t):=by unfold wide;omega
    have hq1:x≠34/\x≠92:=by
     have h1:x.toNat<=127->p=[x]:=by
      intro hx;have hcc:=lP (x::t);rw[aF (show ch (x::t) 0<=127 from hx)]at hcc;rw[<-hp,hwc,hcc];rfl
     constructor
     ·rintro rfl;exact q1 (.inl (h1 (by decide)))
     ·rintro rfl;exact q1 (.inr (h1 (by decide)))
    have hit:=aM0 (x:=x) (t:=t) (r:=r) hch.1 hq1.2 hch.2;rw[<-hwc,hp]at hit;obtain⟨u,hu⟩:∃u,p++r=x::u:=by
     obtain⟨m,hm⟩:∃m,wide (x::t)=m+1:=⟨wide (x::t)-1,by omega⟩;rw[<-hp,hm];exact⟨t.take m++r,rfl⟩
    rw[hu]at hit ⊢;rw[mR,aD hq1.1,hit,<-hu];simp only;rw[fB (by omega),bW (by omega),aX,hlen]
   ·exact aQz p r
theorem aV0:∀(n:Nat) (l r:Bs),l.length<=n->wd (qb l++r)=(wd r).map λq=>(l++q.1,(qb l).length+q.2)
 | 0,l,r,h=>by
  have:l=[]:=bI (by omega);subst this;rw[aCt];cases h:wd r<;>simp[h]
 | n+1,l,r,h=>by
  by_cases hl:l=[]
  ·subst hl;rw[aCt];cases h:wd r<;>simp[h]
  ·have hw:=nH l;have hw2:=(aBr l hl).1;rw[aBw l hl,aP,aQx hl,aV0 n (l.drop (wide l)) r (by rw[aN];omega)];cases wd r with
   | none=>rfl
   | some q =>
    simp only[Option.map_some,Option.some.injEq,Prod.mk.injEq,aG];refine⟨?_,by omega⟩;rw[<-aP,List.take_append_drop]
theorem yX(l:Bs):cA l=34::(qb l++[34]):=rfl
theorem sJ(l r:Bs):gE (cA l++r)=some (l,(cA l).length):=by
 rw[yX,aO,nG,aF rfl,aP,aV0 _ l _ (aQ _)];simp only[aO,aX];rw[mR,aF rfl];simp
def Fence(l:Bs):Prop:=∀x,l.head?=some x->cQ x=false
theorem Fence.nil:Fence []:=λ_ h=>by simp at h
theorem Fence.cons{x:UInt8}{l:Bs}(h:cQ x=false):Fence (x::l):=λy hy=>by
 simp only[List.head?_cons,Option.some.injEq]at hy;rw[<-hy];exact h
theorem aCh{x:UInt8}(h:iK x=true)(h2:x≠35)(l:Bs):bX false (x::l)=1+bX false l:=by
 conv=>lhs;unfold bX
 rw[aD (by simp[h])];congr 2;split
 ·rfl
 ·first|rfl|rw[aD h2]
theorem aL1{x:UInt8}(h:iK x=true)(h2:x≠35)(l:Bs):fP (x::l)=fP l:=by
 rw[uB,uB l,aCh h h2,Nat.add_comm,List.drop_succ_cons]
theorem jN(l:Bs):fP (32::l)=fP l:=aL1 (by decide) (by decide) l
theorem yQ{x:UInt8}(h:iK x=false)(h2:x≠35)(l:Bs):fP (x::l)=match oB (x::l)with
 | (0,_,_)=>[]
 | (k+1,t,n)=>(k+1,t)::fP ((x::l).drop n):=by
 have:bX false (x::l)=0:=by
  unfold bX;rw[aF ⟨rfl,h,h2⟩]
 rw[uB,this];rfl
theorem aL6{x:UInt8}(h:sL x=true):x=91\/x=93\/x=123\/x=125\/x=40\/x=41\/x=58\/x=44:=by
 simpa[sL]using h
theorem gQ{x:UInt8}(h:sL x=true)(l:Bs):fP (x::l)=(3,[x])::fP l:=by
 have hb:iK x=false/\x≠35/\x≠34:=by
  rcases aL6 h with h|h|h|h|h|h|h|h<;>subst h<;>decide
 rw[yQ hb.1 hb.2.1];rw[pQ];rw[aD hb.2.2,aF h];rfl
theorem aMw{x:UInt8}(h:cQ x=true):iK x=false/\x≠35/\x≠34/\sL x=false:=by
 have key:∀x:Fin 256,cQ (UInt8.ofNat x.val)=true->iK (UInt8.ofNat x.val)=false/\UInt8.ofNat x.val≠35/\UInt8.ofNat x.val≠34/\sL (UInt8.ofNat x.val)=false:=by decide +kernel
 have:=key ⟨x.toNat,x.toNat_lt⟩;simp only[UInt8.ofNat_toNat]at this;exact this h
theorem aDs:∀(n l:Bs),(∀x∈n,cQ x=true)->Fence l->eQ (n++l)=n.length
 | [],[],_,_=>rfl
 | [],y::l,_,hf=>by
  unfold eQ;have:=hf y rfl;simp[this]
 | x::n,l,h,hf=>by
  rw[aO];unfold eQ;rw[aF (h x (by simp)),aDs n l (λy hy=>h y (by simp[hy])) hf,aI];omega
theorem lF{n l:Bs}(hn:n≠[])(h:∀x∈n,cQ x=true)(hf:Fence l):fP (n++l)=(1,n)::fP l:=by
 obtain⟨x,t,rfl⟩:=List.exists_cons_of_ne_nil hn;have hx:=aMw (h x (by simp));have hl:=aDs (x::t) l h hf;rw[aO,yQ hx.1 hx.2.1];rw[pQ];rw[aD hx.2.2.1,aD (by simp[hx.2.2.2]),aF (h x (by simp))];rw[<-aO,hl];rw[kF (aQ _),List.take_length];show(1,x::t)::fP (List.drop (x::t).length (x::t++l))=_;rw[fB (aQ _),List.drop_length,aX]
theorem aF7(t l:Bs):fP (cA t++l)=(2,t)::fP l:=by
 have hw:=sJ t l;rw[yX,aO]at hw ⊢;rw[yQ (by decide) (by decide)];rw[pQ];rw[aF rfl,hw];show(2,t)::fP (List.drop (34::(qb t++[34])).length (34::(qb t++[34])++l))=_;rw[fB (aQ _),List.drop_length,aX]
theorem jT(k:Int)(h0:0<=k)(h1:k<25):fZ k≠[]/\∀x∈fZ k,cQ x=true:=by
 obtain⟨n,rfl⟩:∃n:Nat,k=n:=⟨k.toNat,by omega⟩;have key:∀n:Fin 25,fZ (n.val:Int)≠[]/\(fZ (n.val:Int)).all cQ=true:=by decide +kernel
 obtain⟨a,b⟩:=key ⟨n,by omega⟩;exact⟨a,List.all_eq_true.1 b⟩
theorem aPw(z:Int):Lib.itoa z≠[]/\∀x∈Lib.itoa z,cQ x=true:=by
 unfold Lib.itoa;split
 ·refine⟨by simp,λx hx=>?_⟩;rcases List.mem_cons.1 hx with h|h
  ·subst h;decide
  ·exact rN _ x h
 ·exact⟨zZ _,rN _⟩
theorem aAj{k:Int}{n:Nat}{t:Bs}(ht:k=14\/k=17->t≠[])(h:¬(k=18\/k=20)):cE k n t≠[]/\∀x∈cE k n t,cQ x=true:=by
 have hne:∀m n,0<m->lA m n≠[]:=λm n hm e=>by
  have:=congrArg List.length e;rw[mA]at this;simp at this;omega
 unfold cE;split
 ·exact aPw _
 ·split
  ·exact⟨hne _ _ (by decide),oL _ _⟩
  ·split
   ·exact⟨hne _ _ (by decide),oL _ _⟩
   ·split
    ·rename_i h4;refine⟨λe=>?_,aJz _⟩;have:=congrArg List.length e;rw[sS]at this;have:=List.length_pos_iff.2 (ht h4);simp at *;omega
    ·first|rw[aD h] | skip
     exact⟨zZ _,rN _⟩
theorem aJa{k:Int}{n:Nat}{t l:Bs}(ht:k=14\/k=17->t≠[])(hf:Fence l):fP (cE k n t++l)=aBu k n t::fP l:=by
 unfold aBu;split
 ·rename_i h;have e:cE k n t=cA t:=by
   unfold cE;rw[aD,aD,aD,aD,aF h]
  rw[e];exact aF7 t l
 ·rename_i h;obtain⟨g1,g2⟩:=aAj (n:=n) ht h;exact lF g1 g2 hf
def aQr(m:M):Prop:=∀l,Fence l->fP (bM m++l)=xE m++fP l
theorem aXj{l:List M}(h:∀x∈l,aQr x){r:Bs}(hr:Fence r):fP (gR l++r)=kO l++fP r:=by
 induction l with
 | nil=>simp[gR,kO]
 | cons x l ih =>
  have hf:Fence (gR l++r):=by
   cases l with
   | nil=>simpa[gR]using hr
   | cons y l=>simp only[gR,aO];exact Fence.cons (by decide)
  simp only[gR,kO,aO,aP];rw[jN,h x (by simp) _ hf,ih (λy hy=>h y (by simp[hy]))]
theorem aQ7{l:List M}(h:∀x∈l,aQr x){r:Bs}(hr:Fence r):fP (eO l++r)=kO l++fP r:=by
 cases l with
 | nil=>simp[eO,kO]
 | cons x l =>
  have hf:Fence (gR l++r):=by
   cases l with
   | nil=>simpa[gR]using hr
   | cons y l=>simp only[gR,aO];exact Fence.cons (by decide)
  simp only[eO,kO,aP];rw[h x (by simp) _ hf,aXj (λy hy=>h y (by simp[hy])) hr]
theorem aQ6:∀(l:List M),(∀x∈l,aQr x)->∀ {r:Bs},Fence r->(fP (jR l++r)=yY l++fP r/\Fence (jR l++r))/\(fP (kP l++r)=yZ l++fP r/\Fence (kP l++r))
 | [],_,r,hr=>by simp[jR,kP,yY,yZ,hr]
 | x::l,h,r,hr=>by
  obtain⟨⟨v1,v2⟩,⟨c1,c2⟩⟩:=aQ6 l (λy hy=>h y (by simp[hy])) hr;simp only[jR,kP,yY,yZ,aO,aX,aP];refine⟨⟨?_,Fence.cons (by decide)⟩,⟨?_,Fence.cons (by decide)⟩⟩
  ·rw[gQ (by decide),jN,h x (by simp) _ c2,c1]
  ·rw[gQ (by decide),jN,h x (by simp) _ v2,v1]
theorem aXk{l:List M}(h:∀x∈l,aQr x){r:Bs}(hr:Fence r):fP (gS l++r)=sT l++fP r:=by
 cases l with
 | nil=>simp[gS,sT]
 | cons x l =>
  obtain⟨⟨v1,v2⟩,_⟩:=aQ6 l (λy hy=>h y (by simp[hy])) hr;simp only[gS,sT,aP];rw[h x (by simp) _ v2,v1]
theorem zB{d:Nat}{m:M}(h:m.own d=0):0<=m.k/\m.k<25/\d<=32/\m.extra=false/\m.num=true/\m.txt=true/\(m.k=22->jE m.l=true)/\(m.k=23->gF m.e m.l=true)/\(m.k=24->m.l.length=2):=by
 unfold M.own at h;split at h
 ·cases h
 ·split at h
  ·cases h
  ·split at h
   ·cases h
   ·split at h
    ·cases h
    ·split at h
     ·cases h
     ·split at h
      ·cases h
      ·split at h
       ·cases h
       ·split at h
        ·cases h
        ·rename_i h1 h2 h3 h4 h5 h6 h7 h8;simp only[Bool.not_eq_true,Bool.not_eq_false,not_and,Decidable.not_not]at *;exact⟨by omega,by omega,by omega,h3,h4,h5,h6,h7,h8⟩
theorem vU:∀(m:M) (d:Nat),m.check d=0->aQr m:=by
 refine M.ind λk n t e l ih=>?_;intro d hc r hr;rw[M.check_iff]at hc;obtain⟨h1,h2⟩:=hc;obtain⟨k0,k1,_,_,_,htx,_,ha,_⟩:=zB h1;have hl:∀x∈l,aQr x:=λx hx=>ih x hx (d+1) (h2 x hx);simp only[M.k]at k0 k1 ha;unfold bM xE;split
 ·exact lF (jT 0 (by decide) (by decide)).1 (jT 0 (by decide) (by decide)).2 hr
 split
 ·split
  ·exact lF (n:=[116,114,117,101]) (by decide) (by decide) hr
  ·exact lF (n:=[102,97,108,115,101]) (by decide) (by decide) hr
 split
 ·exact aF7 t r
 split
 ·simp only[aO,aP,aX];rw[gQ (by decide),aQ7 hl (Fence.cons (by decide)),gQ (by decide)]
 split
 ·simp only[aO,aP,aX];rw[gQ (by decide),aXk hl (Fence.cons (by decide)),gQ (by decide)]
 split
 ·rename_i hk;have ha:=ha hk;simp only[gF,M.e,bH,bA]at ha;obtain⟨⟨e0,e1⟩,_⟩:=ha;have e0:=aB e0;have e1:=aB e1;have hn:=jT e (by omega) (by omega);have e1:[97,114,114,97,121,32]++fZ e++[32,91]++eO l++[93]++r=[97,114,114,97,121]++(32::(fZ e++(32::91::(eO l++(93::r))))):=by simp
  rw[e1,lF (n:=[97,114,114,97,121]) (by decide) (by decide) (Fence.cons (by decide)),jN,lF hn.1 hn.2 (Fence.cons (by decide)),jN,gQ (by decide),aQ7 hl (Fence.cons (by decide)),gQ (by decide)];simp
 split
 ·simp only[aO,aP,aX];rw[gQ (by decide),aQ7 hl (Fence.cons (by decide)),gQ (by decide)]
 ·have hn:=jT k k0 k1;simp only[aP,aO,aX];rw[lF hn.1 hn.2 (Fence.cons (by decide)),jN,aJa (λh=>?_) hr];rw[M.txt_mk]at htx;rw[aF h]at htx;intro e;rw[e]at htx;exact absurd htx (by decide)
theorem aA0(k:Int)(h0:0<=k)(h1:k<25)(h2:k≠1/\k≠19/\k≠21/\k≠22/\k≠24):dA ⟨1,0,0,fZ k⟩=some k.toNat:=by
 obtain⟨n,rfl⟩:∃n:Nat,k=n:=⟨k.toNat,by omega⟩;have key:∀n:Fin 25,n.val≠1/\n.val≠19/\n.val≠21/\n.val≠22/\n.val≠24->dA ⟨1,0,0,fZ (n.val:Int)⟩=some n.val:=by decide +kernel
 have:=key ⟨n,by omega⟩ (by simp only;omega);simpa using this
theorem aPv(k:Int)(h0:0<=k)(h1:k<25):iM (fZ k)=some k.toNat:=by
 obtain⟨n,rfl⟩:∃n:Nat,k=n:=⟨k.toNat,by omega⟩;have key:∀n:Fin 25,iM (fZ (n.val:Int))=some n.val:=by decide +kernel
 have:=key ⟨n,by omega⟩;simpa using this
theorem aJ8{k:Int}{n:Nat}{t:Bs}{e:Int}{l:List M}(hn64:n<18446744073709551616)(h0:2<=k)(h1:k<=16)(h14:k≠14)(hnum:M.num (.mk k n t e l)=true){s:Bs}{a:Nat}(ha:a<=s.length){r:List Tk}(ht:fP (s.drop a)=(1,cE k n t)::r) :
 dU s k.toNat a=.ok (.mk k n [] 0 []) (next s a).fin:=by
 obtain⟨t1,t2,t3,t4⟩:=eN ha ht;obtain⟨j,rfl⟩:∃j:Nat,k=j:=⟨k.toNat,by omega⟩;unfold dU;simp only[t1,t2,aM];rw[aD (by decide)];rw[M.num_mk]at hnum;have cast:∀m:Nat,((j:Int)=(m:Int))↔j=m:=λm=>by omega
 by_cases h8:j=10\/j=12
 ·have e:cE (j:Int) n t=lA 8 n:=by
   unfold cE;rw[aD,aF]
  have hb:eC j=8:=by unfold eC;rw[aF h8]
  rw[aD,aD,aD,aF]at hnum;obtain⟨b,g1,g2,g3⟩:=zQ 4 n (by have:=aB hnum;omega);rw[hb,aD (by decide),e];unfold jZ;rw[aF (mA _ _),g1];simp[g2]
 ·by_cases h16:j=11\/j=13
  ·have e:cE (j:Int) n t=lA 16 n:=by
    unfold cE;rw[aD,aD,aF]
   have hb:eC j=16:=by unfold eC;rw[aD h8,aF h16]
   obtain⟨b,g1,g2,g3⟩:=zQ 8 n (by omega);rw[hb,aD (by decide),e];unfold jZ;rw[aF (mA _ _),g1];simp[g2]
  ·have hb:eC j=0:=by unfold eC;rw[aD h8,aD h16,aD]
   rw[hb,aF rfl];have hi:iB j (cE (j:Int) n t)=some n:=by
    by_cases hs:j=6\/j=7\/j=8\/j=9\/j=16
    ·have e:cE (j:Int) n t=Lib.itoa (wW n):=by
      unfold cE;rw[aF]
     have hlim:(n<=(gN j).1\/(9223372036854775808<=n/\18446744073709551616-n<=(gN j).2)):=by
      unfold gN;rcases hs with h|h|h|h|h<;>subst h
      ·simp[sgn]at hnum;simp;omega
      ·simp[sgn]at hnum;simp;omega
      ·simp[sgn]at hnum;simp;omega
      ·simp;omega
      ·simp;omega
     have hlow:(gN j).1<9223372036854775808:=by
      unfold gN;rcases hs with h|h|h|h|h<;>subst h<;>simp
     rw[e];unfold wW Lib.itoa;by_cases hsm:n<9223372036854775808
     ·rw[aF hsm,aD,aM];exact aKm j n (by omega) (by omega)
     ·rw[aD hsm,aF,show((n:Int)-18446744073709551616).natAbs=18446744073709551616-n by omega];have:=aSn j (18446744073709551616-n) (by omega) (by omega);rw[this];congr 1;omega
    ·have e:cE (j:Int) n t=Lib.decDigits n:=by
      unfold cE;rw[aD,aD,aD,aD,aD]
     rw[e];have hj:j=2\/j=3\/j=4\/j=5\/j=15:=by omega
     refine aKm j n ?_ ?_
     ·unfold gN;rcases hj with h|h|h|h|h<;>subst h<;>simp at hnum ⊢<;>omega
     ·rintro⟨rfl,h2,h3⟩;simp at hnum;omega
   rw[hi]
theorem aRp{k:Int}{t:Bs}(hk:k=14\/k=17)(hl:t.length=16){s:Bs}{a:Nat}(ha:a<=s.length){r:List Tk}(ht:fP (s.drop a)=(1,cE k 0 t)::r) :
 dU s k.toNat a=.ok (.mk k 0 t 0 []) (next s a).fin:=by
 obtain⟨t1,t2,t3,t4⟩:=eN ha ht;obtain⟨j,rfl⟩:∃j:Nat,k=j:=⟨k.toNat,by omega⟩;unfold dU;simp only[t1,t2,aM];rw[aD (by decide)];have e:cE (j:Int) 0 t=vZ t:=by
  unfold cE;rw[aD,aD,aD,aF hk]
 have hb:eC j=32:=by unfold eC;rw[aD,aD,aF]
 rw[hb,aD (by decide),e];unfold jZ;rw[aF (by rw[sS];omega),aPh];simp
inductive M.fits:M->Prop where
 | mk {k:Int} {n:Nat} {t:Bs} {e:Int} {l:List M}:n<18446744073709551616->(∀x∈l,M.fits x)->M.fits (.mk k n t e l)
theorem xQ{l:List M}(h:jE l=true):l.length%2=0/\l.length<=2048/\(fS l).Nodup:=by
 simp only[jE,bH,bA]at h;exact⟨h.1.1,by omega,h.2⟩
theorem yI:∀(m:M),m.fits->aVx m:=by
 refine M.ind λk n t e l ih=>?_;intro hfit d s a r hd hc ha ht;cases hfit with
 | mk hn64 hfl =>
 rw[M.check_iff]at hc;obtain⟨h1,h2⟩:=hc;obtain⟨k0,k1,hdep,hex,hnum,htx,hmap,harr,hdes⟩:=zB h1;have k0:0<=k:=k0;have k1:k<25:=k1;have hmap:k=22->jE l=true:=hmap;have harr:k=23->gF e l=true:=harr;have hdes:k=24->l.length=2:=hdes;have h2:∀x∈l,M.check (33-d+1) x=0:=h2;rw[M.extra_mk]at hex;simp only[vE,kB,kT,Bool.or_eq_false_iff,Bool.and_eq_false_iff,bF,bH,bA,gC,Decidable.not_not,ne_eq,Bool.or_eq_true]at hex;obtain⟨⟨⟨x1,x2⟩,x3⟩,x4⟩:=hex
 -- one deeper
 obtain⟨d',rfl⟩:∃d',d=d'+1:=⟨d-1,by omega⟩;have hbl:∀x∈l,aVx x:=λx hx=>ih x hx (hfl x hx);have hcl:∀x∈l,x.check (33-d')=0:=λx hx=>by
  have:=h2 x hx;rw[show 33-(d'+1)+1=33-d' by omega]at this;exact this
 unfold xE at ht;by_cases c0:k=0
 ·subst c0;rw[aF rfl]at ht;obtain⟨t1,t2,t3,t4⟩:=eN ha ht;refine⟨_,t3,?_,t4⟩;rw[gJ,jD t1 t2,aA0 0 (by decide) (by decide) (by decide)];simp only[Int.toNat_zero,if_true];have hn:n=0:=by omega
  have he:e=0:=by omega
  have htt:t=[]:=x2.resolve_left (by omega);have hll:l=[]:=x3.resolve_left (by omega);rw[hn,he,htt,hll]
 rw[aD c0]at ht;by_cases c1:k=1
 ·subst c1;rw[aF rfl]at ht;obtain⟨t1,t2,t3,t4⟩:=eN ha ht;refine⟨_,t3,?_,t4⟩;have he:e=0:=by omega
  have htt:t=[]:=x2.resolve_left (by omega);have hll:l=[]:=x3.resolve_left (by omega);have hn1:n<=1:=by rw[M.num_mk]at hnum;exact aB hnum
  rw[gJ,jD t1 t2,t2,he,htt,hll];by_cases hn:n=1
  ·rw[aF hn,show dA ⟨1,0,0,[116,114,117,101]⟩=some 1 by decide];simp[hn]
  ·rw[aD hn,show dA ⟨1,0,0,[102,97,108,115,101]⟩=some 1 by decide];simp;omega
 rw[aD c1]at ht;by_cases c19:k=19
 ·subst c19;rw[aF rfl]at ht;obtain⟨t1,t2,t3,t4⟩:=eN ha ht;refine⟨_,t3,?_,t4⟩;rw[gJ,jD t1 t2,show dA ⟨2,0,0,t⟩=some 19 by rfl];have hn:n=0:=by omega
  have he:e=0:=by omega
  have hll:l=[]:=x3.resolve_left (by omega);have htx':lB t=true:=by simpa[M.txt,M.k,M.t]using htx
  simp only[eX,t1,t2];simp[htx',hn,he,hll]
 rw[aD c19]at ht;by_cases c21:k=21
 ·subst c21;rw[aF rfl]at ht;simp only[aO,aP,aX]at ht;obtain⟨t1,t2,t3,t4⟩:=eN ha ht;obtain⟨b,b1,b2,b3⟩:=wN (s:=s) (d:=d') (by omega) (elem:=none) l hbl hcl (λ_ h=>by cases h) _ [] r t3 t4;refine⟨b,b1,?_,b3⟩;rw[gJ,jD t1 t2,show dA ⟨3,0,0,[91]⟩=some 21 by decide];have hn:n=0:=by omega
  have he:e=0:=by omega
  have htt:t=[]:=x2.resolve_left (by omega);simp only[fM,aX]at b2;simp[listed,b2,hn,he,htt]
 rw[aD c21]at ht;by_cases c22:k=22
 ·subst c22;rw[aF rfl]at ht;simp only[aO,aP,aX]at ht;obtain⟨t1,t2,t3,t4⟩:=eN ha ht;obtain⟨m1,m2,m3⟩:=xQ (hmap rfl);have hn:n=0:=by omega
  have he:e=0:=by omega
  have htt:t=[]:=x2.resolve_left (by omega);have hsh:∀o b,uT l o b=.ok (.mk 22 0 [] 0 l) b:=λo b=>by
   unfold uT;rw[aD (λh=>h.elim (λh=>by omega) λh=>h m3)]
  by_cases hl:l=[]
  ·subst hl;simp only[sT,aX]at t4;obtain⟨u1,u2,u3,u4⟩:=eN t3 t4;refine⟨_,u3,?_,u4⟩;rw[gJ,jD t1 t2,show dA ⟨3,0,0,[123]⟩=some 22 by decide];simp[rE,aEa u1 u2,hsh,hn,he,htt]
  ·obtain⟨b,b1,b2,b3⟩:=aMl (s:=s) (d:=d') (by omega) _ l rfl m1 hl hbl hcl _ [] r t3 t4;refine⟨b,b1,?_,b3⟩;have hf:(next s (next s a).fin).is 125=false:=by
    rw[zA (fE s d') [] t3]at b2;cases hr:gZ s d' (next s a).fin with
    | bad _ _=>rw[hr]at b2;cases b2
    | ok x c =>
     obtain⟨k,g⟩:=lG hr;exact aHg g (by decide)
   rw[gJ,jD t1 t2,show dA ⟨3,0,0,[123]⟩=some 22 by decide];simp only[wE,aX]at b2;simp[rE,hf,b2,hsh,hn,he,htt]
 rw[aD c22]at ht;by_cases c23:k=23
 ·subst c23;rw[aF rfl]at ht;simp only[aO,aP,aX]at ht;have ha':=harr rfl;simp only[gF,bH,bA,List.all_eq_true]at ha';obtain⟨⟨e0,e1⟩,e2⟩:=ha';obtain⟨t1,t2,t3,t4⟩:=eN ha ht;obtain⟨u1,u2,u3,u4⟩:=eN t3 t4;obtain⟨v1,v2,v3,v4⟩:=eN u3 u4;obtain⟨b,b1,b2,b3⟩:=wN (s:=s) (d:=d') (by omega) (elem:=some e.toNat) l hbl hcl (λj h x hx=>by
   cases h;rw[e2 x hx];omega) _ [] r v3 v4
  refine⟨b,b1,?_,b3⟩;rw[gJ,jD t1 t2,show dA ⟨1,0,0,[97,114,114,97,121]⟩=some 23 by decide];have hn:n=0:=by omega
  have htt:t=[]:=x2.resolve_left (by omega);simp only[fM,aX]at b2;have hkn:=aPv e (by omega) (by omega);have he:((e.toNat:Nat):Int)=e:=by omega
  have hz:¬(e.toNat=0\/e.toNat=24):=by omega
  simp[nA,u1,u2,hkn,hz,aEa v1 v2,listed,b2,hn,htt,he];omega
 rw[aD c23]at ht;by_cases c24:k=24
 ·subst c24;rw[aF rfl]at ht;simp only[aO,aP,aX]at ht;obtain⟨t1,t2,t3,t4⟩:=eN ha ht;have hn:n=0:=by omega
  have he:e=0:=by omega
  have htt:t=[]:=x2.resolve_left (by omega)
  match l,hdes rfl,hbl,hcl,t4 with
  | [x,y],_,hbl,hcl,t4 =>
   simp only[kO,aP,aX]at t4;obtain⟨b,b1,b2,b3⟩:=hbl x (by simp) d' s _ _ (by omega) (hcl x (by simp)) t3 t4;obtain⟨c,f1,f2,f3⟩:=hbl y (by simp) d' s _ _ (by omega) (hcl y (by simp)) b1 b3;obtain⟨u1,u2,u3,u4⟩:=eN f1 f3;refine⟨_,u3,?_,u4⟩;rw[gJ,jD t1 t2,show dA ⟨3,0,0,[40]⟩=some 24 by decide];simp[jA,b2,f2,aEa u1 u2,hn,he,htt]
 rw[aD c24]at ht;simp only[aO,aX]at ht;obtain⟨t1,t2,t3,t4⟩:=eN ha ht;obtain⟨u1,u2,u3,u4⟩:=eN t3 t4;refine⟨_,u3,?_,u4⟩;rw[gJ,jD t1 t2,aA0 k k0 k1 ⟨c1,c19,c21,c22,c24⟩];have he:e=0:=by omega
 have hll:l=[]:=x3.resolve_left (by omega);have q0:k.toNat≠0:=by omega
 have q1:k.toNat≠1:=by omega
 have q19:k.toNat≠19:=by omega
 have q21:k.toNat≠21:=by omega
 have q22:k.toNat≠22:=by omega
 have q23:k.toNat≠23:=by omega
 have q24:k.toNat≠24:=by omega
 simp only[aD q0,aD q1,aD q19,aD q21,aD q22,aD q23,aD q24];have hkk:((k.toNat:Nat):Int)=k:=by omega
 unfold aBu at t4 u1 u2;by_cases hw:k=18\/k=20
 ·rw[aF (show k.toNat=18\/k.toNat=20 by omega)];rw[aF hw]at u1 u2 t4;have hn:n=0:=by omega
  simp only[eX,u1,u2,hn,he,hll];rw[aD (by decide),_root_.if_neg]
  ·rw[hkk]
  ·rintro(⟨h,_⟩|⟨h,h'⟩)
   ·omega
   ·have:k=20:=by omega
    subst this;have:jI t=true:=by simpa[M.txt,M.k,M.t]using htx
    rw[this]at h';cases h'
 ·rw[aD (show¬(k.toNat=18\/k.toNat=20) by omega)];rw[aD hw]at u1 u2 t4;by_cases hr:k=14\/k=17
  ·have hn:n=0:=by omega
   have hl16:t.length=16:=by rw[M.txt_mk,aF hr]at htx;exact aB htx
   subst hn;rw[aRp hr hl16 t3 t4,he,hll]
  ·have htt:t=[]:=x2.resolve_left (by omega);rw[aJ8 hn64 (by omega) (by omega) (by omega) hnum t3 t4,he,hll,htt]
theorem aAn{m:M}(hf:m.fits)(hc:m.check 1=0)(hl:(bM m).length<=1048576):gT (bM m)=.ok m 0:=by
 have ht:=vU m 1 hc [] Fence.nil;rw[List.append_nil]at ht;obtain⟨b,b1,b2,b3⟩:=yI m hf 32 (bM m) 0 [] (by omega) (by simpa using hc) (by omega) (by
  rw[bS,ht];simp[fP,vL,oB])
 unfold gT;rw[aD,b2];rw[yP _ b1]at b3;simp only;split at b3
 ·rename_i h0;rw[aD (by simp[h0])]
 ·cases b3
mutual
def M.sz:M->Nat
 | .mk _ _ t _ l=>1+t.length+M.szL l
def M.szL:List M->Nat
 | []=>0
 | x::l=>M.sz x+M.szL l
end
theorem M.szL_sum(l:List M):M.szL l=(l.map M.sz).sum:=by
 induction l with
 | nil=>rfl
 | cons x l ih=>simp[M.szL,ih]
theorem M.sz_mk(k:Int)(n:Nat)(t:Bs)(e:Int)(l:List M):M.sz (.mk k n t e l)=1+t.length+(l.map M.sz).sum:=by
 rw[M.sz,M.szL_sum]
theorem aNp:∀m:M,m.sz<=64*m.wt:=by
 refine M.ind λk n t e l ih=>?_;rw[M.sz_mk,M.wt_mk];have:(l.map M.sz).sum<=64*(l.map M.wt).sum:=by
  clear k n t e
  induction l with
  | nil=>simp
  | cons x l ihl =>
   have h1:=ih x (by simp);have h2:=ihl λy hy=>ih y (by simp[hy]);simp only[List.map_cons,List.sum_cons];omega
 omega
theorem pO(k:Int):(fZ k).length<=9:=by
 unfold fZ;have key:∀n:Fin 26,(names.getD n.val []).length<=9:=by decide +kernel
 by_cases h:k.toNat<26
 ·exact key ⟨k.toNat,h⟩
 ·have:names[k.toNat]?=none:=eS (by
   have:names.length=25:=rfl;omega)
  rw[List.getD_eq_getElem?_getD,this];simp
theorem uL:∀(j n:Nat),n<10^(j+1)->(Lib.decDigits n).length<=j+1
 | 0,n,h=>by rw[aAy n (by simpa using h)];omega
 | j+1,n,h=>by
  rw[Lib.decDigits];split
  ·simp
  ·have:=uL j (n / 10) (by rw[Nat.pow_succ]at h;omega);simp;omega
theorem gK(t:Bs):(cA t).length<=4*t.length+2:=by
 have:=aRr t.length t (aQ _);rw[yX];simp;omega
theorem aL4{k:Int}{n:Nat}{t:Bs}(hn:n<18446744073709551616):(cE k n t).length<=21+4*t.length:=by
 have hd:∀m,m<18446744073709551616->(Lib.decDigits m).length<=20:=λm hm=>uL 19 m (by omega);unfold cE;split
 ·unfold Lib.itoa wW;split
  ·split
   ·have:=hd ((n:Int)).natAbs (by omega);simp only[aI];omega
   ·have:=hd ((n:Int)).toNat (by omega);omega
  ·split
   ·have:=hd ((n:Int)-18446744073709551616).natAbs (by omega);simp only[aI];omega
   ·have:=hd ((n:Int)-18446744073709551616).toNat (by omega);omega
 ·split
  ·rw[mA];omega
  ·split
   ·rw[mA];omega
   ·split
    ·rw[sS];omega
    ·split
     ·have:=gK t;omega
     ·have:=hd n hn;omega
theorem aMi:∀m:M,m.fits->(bM m).length+2<=46*m.sz:=by
 refine M.ind λk n t e l ih=>?_;intro hf;cases hf with
 | mk hn hfl =>
 have hl:∀x∈l,(bM x).length+2<=46*x.sz:=λx hx=>ih x hx (hfl x hx);rw[M.sz_mk];have hS:∀l:List M,(∀x∈l,(bM x).length+2<=46*x.sz)->(gR l).length<=46*(l.map M.sz).sum/\(jR l).length<=46*(l.map M.sz).sum/\(kP l).length<=46*(l.map M.sz).sum:=by
  intro l
  induction l with
  | nil=>intro _;simp[gR,jR,kP]
  | cons x l ihl =>
   intro hl;have h1:=hl x (by simp);obtain⟨h2,h3,h4⟩:=ihl λy hy=>hl y (by simp[hy]);simp only[gR,jR,kP,aI,aG,bN,List.map_cons,List.sum_cons];omega
 have hL:(eO l).length<=46*(l.map M.sz).sum/\(gS l).length<=46*(l.map M.sz).sum:=by
  cases l with
  | nil=>simp[eO,gS]
  | cons x l =>
   have h1:=hl x (by simp);obtain⟨h2,h3,h4⟩:=hS l λy hy=>hl y (by simp[hy]);simp only[eO,gS,aG,List.map_cons,List.sum_cons];omega
 have hk0:=pO 0;have hk:=pO k;have he:=pO e;have hq:=gK t;have hs:=aL4 (k:=k) (t:=t) hn;unfold bM;split
 ·omega
 split
 ·split<;>simp<;>omega
 split
 ·omega
 split
 ·simp only[aI,aG,bN];omega
 split
 ·simp only[aI,aG,bN];omega
 split
 ·simp only[aI,aG,bN];omega
 split
 ·simp only[aI,aG,bN];omega
 ·simp only[aI,aG,bN];omega
theorem aGf(m:M)(h:m.fits):(bM m).length<=46*m.sz:=by
 have:=aMi m h;omega
theorem aPx{l:Bs}{y:Bs}{n:Nat}(h:jU l=some (y,n)):y.length<=n:=by
 cases l with
 | nil=>cases h
 | cons x l =>
  simp only[jU]at h;split at h
  ·cases hs:dX l with
   | none=>rw[hs]at h;cases h
   | some p =>
    rw[hs]at h;have h2:=kV (l:=x::l) (y:=y) (n:=n) (by simp only[jU];rw[aF (by assumption),hs];exact h);simp only[Option.map_some,Option.some.injEq,Prod.mk.injEq]at h;obtain⟨rfl,rfl⟩:=h;simp;omega
  ·split at h
   ·cases h
   ·simp only[Option.some.injEq,Prod.mk.injEq]at h;obtain⟨rfl,rfl⟩:=h;rw[aU];omega
theorem aQy:∀(m:Nat) {l:Bs} {y:Bs} {n:Nat},l.length<=m->wd l=some (y,n)->y.length+1<=n
 | 0,l,y,n,hm,h=>by
  have:l=[]:=bI (by omega);subst this;cases h
 | m+1,l,y,n,hm,h=>by
  cases l with
  | nil=>cases h
  | cons x l =>
   rw[mR]at h;split at h
   ·cases h;simp
   ·cases hi:jU (x::l)with
    | none=>rw[hi]at h;cases h
    | some q =>
     obtain⟨y',n'⟩:=q;rw[hi]at h;simp only at h;have h1:=kV hi;have h2:=aPx hi;cases hw:wd ((x::l).drop n')with
     | none=>rw[hw]at h;cases h
     | some q =>
      rw[hw]at h;simp only[Option.map_some,Option.some.injEq,Prod.mk.injEq]at h;obtain⟨rfl,rfl⟩:=h;have:=aQy m (l:=(x::l).drop n') (y:=q.1) (n:=q.2) (by rw[aN];omega) hw;rw[aG];omega
theorem aFz{l:Bs}{y:Bs}{n:Nat}(h:gE l=some (y,n)):y.length+2<=n:=by
 cases l with
 | nil=>cases h
 | cons x l =>
  rw[nG]at h;split at h
  ·cases hw:wd l with
   | none=>rw[hw]at h;cases h
   | some q =>
    rw[hw]at h;simp only[Option.map_some,Option.some.injEq,Prod.mk.injEq]at h;obtain⟨rfl,rfl⟩:=h;have:=aQy _ (l:=l) (y:=q.1) (n:=q.2) (aQ _) hw;omega
  ·cases h
theorem pM(s:Bs){a:Nat}(ha:a<=s.length):((next s a).kind≠0->(next s a).kind≠5->(next s a).text.length<=(next s a).fin-(next s a).beg)/\((next s a).kind=2->(next s a).text.length+2<=(next s a).fin-(next s a).beg):=by
 unfold next;simp only;cases hd:s.drop (a+bX false (s.drop a))with
 | nil=>simp
 | cons x l =>
  simp only;split
  ·cases hw:gE (x::l)with
   | none=>simp
   | some p =>
    have:=aFz (y:=p.1) (n:=p.2) hw;simp;omega
  ·split
   ·simp
   ·split
    ·simp;omega
    ·simp
def gO(d a b:Nat)(m:M):Prop:=m.check (33-d)=0/\m.fits/\m.sz<=b-a
theorem iG{k:Int}{n:Nat}{t:Bs}{e:Int}(h:n<18446744073709551616):M.fits (.mk k n t e []):=.mk h (by simp)
theorem yR{k:Int}{n:Nat}{t:Bs}{e:Int}:M.sz (.mk k n t e [])=1+t.length:=by rw[M.sz_mk];simp
theorem mH{d:Nat}{k:Int}{n:Nat}{t:Bs}{e:Int}{l:List M}(h0:0<=k)(h1:k<25)(hd:d<=32)(hx:M.extra (.mk k n t e l)=false)(hn:M.num (.mk k n t e l)=true)(ht:M.txt (.mk k n t e l)=true)
 (hm:k=22->jE l=true) (ha:k=23->gF e l=true) (hp:k=24->l.length=2):M.own d (.mk k n t e l)=0:=by
 rw[M.own_mk,aD,aD,hx,hn,ht];simp only[Bool.false_eq_true,if_false,Bool.true_eq_false];rw[aD (by rintro⟨h,h2⟩;rw[hm h]at h2;cases h2),aD (by rintro⟨h,h2⟩;rw[ha h]at h2;cases h2),aD (by rintro⟨h,h2⟩;exact h2 (hp h))]
theorem iJ{d:Nat}{k:Int}{n:Nat}{t:Bs}{e:Int}(h:M.own d (.mk k n t e [])=0):M.check d (.mk k n t e [])=0:=by
 rw[M.check_iff];exact⟨h,by simp[M.l]⟩
theorem aAg{d k a b:Nat}{s:Bs}{m:M}(hd:1<=d/\d<=32)(hk:k=18\/k=19\/k=20)(ha:a<=s.length)(h:eX k (next s a)=.ok m b):gO d a b m:=by
 have hl:=dM s a ha;have hx:=pM s ha;unfold eX cM at h;split at h
 ·cases h
 ·rename_i h1;simp only[ne_eq,Decidable.not_not]at h1;split at h
  ·cases h
  ·rename_i h2;cases h;refine⟨iJ (mH (by omega) (by omega) (by omega) ?_ ?_ ?_ (by omega) (by omega) (by omega)),iG (by decide),?_⟩
   ·have:kB (k:Int)=true:=by unfold kB;simp;omega
    simp[M.extra,M.k,M.n,M.t,M.l,M.e,this]
   ·rw[M.num_mk];rw[aD,aD,aD,aD,aD,aD,aD,aD]
   ·rw[M.txt_mk];rw[aD];split
    ·rename_i h3;cases ht:lB (next s a).text with
     | true=>rfl
     | false=>exact absurd (.inl ⟨by omega,ht⟩) h2
    ·split
     ·rename_i h3;cases ht:jI (next s a).text with
      | true=>rfl
      | false=>exact absurd (.inr ⟨by omega,ht⟩) h2
     ·rfl
   ·rw[yR];have:=hx.2 h1;omega
theorem aN8{k n:Nat}{s:Bs}(h:iB k s=some n):(n<=(gN k).1/\¬(k=15/\55296<=n/\n<=57343))\/(0<(gN k).2/\n<18446744073709551616/\18446744073709551616-(gN k).2<=n):=by
 unfold iB at h;split at h
 ·rename_i h0;cases hn:oV s.tail with
  | none=>rw[hn]at h;cases h
  | some j =>
   rw[hn]at h;simp only at h;split at h
   ·cases h;right;omega
   ·cases h
 ·cases hn:oV s with
  | none=>rw[hn]at h;cases h
  | some j =>
   rw[hn]at h;simp only at h;split at h
   ·cases h;left;assumption
   ·cases h
theorem aC0:∀(n:Nat) (s b:Bs),s.length=n->dR s=some b->n=2*b.length:=by
 intro n
 induction n using Nat.strongRecOn with
 | ind n ih =>
  intro s b hl h
  match s,hl,h with
  | [],hl,h=>simp[dR]at h;subst h;simpa using hl.symm
  | [_],_,h=>simp[dR]at h
  | u::v::l,hl,h =>
   simp only[dR]at h;cases hu:eH u false with
   | none=>rw[hu]at h;simp at h
   | some y =>
    cases hv:eH v false with
    | none=>rw[hu,hv]at h;simp at h
    | some z =>
     cases hp:dR l with
     | none=>rw[hu,hv,hp]at h;simp at h
     | some r =>
      rw[hu,hv,hp]at h;simp only[Option.some.injEq]at h;subst h;simp only[aI]at hl ⊢;have:=ih (n-2) (by omega) l r (by omega) hp;omega
theorem aTw(b:Bs):beN b<256^b.length:=by
 induction hn:b.length generalizing b with
 | zero =>
  have:b=[]:=bI hn;subst this;decide
 | succ n ih =>
  obtain⟨c,x,rfl⟩:∃c x,b=c++[x]:=by
   have hne:b≠[]:=λe=>by rw[e]at hn;simp at hn
   exact⟨b.dropLast,b.getLast hne,(List.dropLast_concat_getLast hne).symm⟩
  rw[aE0];have:=ih c (by simp at hn;omega);have hx:=x.toNat_lt;rw[Nat.pow_succ];omega
theorem aPp{k n:Nat}(hk:2<=k/\k<=17)(hb:eC k=0)(h:(n<=(gN k).1/\¬(k=15/\55296<=n/\n<=57343))\/(0<(gN k).2/\n<18446744073709551616/\18446744073709551616-(gN k).2<=n))(t:Bs)(e:Int)(l:List M) :
 M.num (.mk k n t e l)=true/\n<18446744073709551616/\(k=2\/k=3\/k=4\/k=5\/k=6\/k=7\/k=8\/k=9\/k=15\/k=16):=by
 have hk2:k=2\/k=3\/k=4\/k=5\/k=6\/k=7\/k=8\/k=9\/k=15\/k=16:=by
  unfold eC at hb;split at hb
  ·cases hb
  ·split at hb
   ·cases hb
   ·split at hb
    ·cases hb
    ·omega
 rw[M.num_mk];rcases hk2 with h'|h'|h'|h'|h'|h'|h'|h'|h'|h'<;>subst h'<;>simp[gN,sgn]at h ⊢<;>omega
theorem aFs{d k a b:Nat}{s:Bs}{m:M}(hd:1<=d/\d<=32)(hk:2<=k/\k<=17){a0:Nat}(ha0:a0<a)(ha:a<=s.length)(h:dU s k a=.ok m b):gO d a0 b m:=by
 have hl:=dM s a ha;unfold dU cM at h;simp only at h;split at h
 ·cases h
 ·rename_i h1;simp only[ne_eq,Decidable.not_not]at h1;have hx:=(pM s ha).1 (by omega) (by omega);split at h
  ·rename_i hb;cases hi:iB k (next s a).text with
   | none=>rw[hi]at h;cases h
   | some n =>
    rw[hi]at h;cases h;obtain⟨g1,g2,g3⟩:=aPp hk hb (aN8 hi) [] 0 [];refine⟨iJ (mH (by omega) (by omega) (by omega) ?_ g1 ?_ (by omega) (by omega) (by omega)),iG g2,?_⟩
    ·have:vE (k:Int)=true:=by unfold vE;simp;omega
     simp[M.extra,M.k,M.n,M.t,M.l,M.e,this]
    ·rw[M.txt_mk];rw[aD,aD,aD]
    ·rw[yR];simp;omega
  ·rename_i hb;cases hi:jZ (next s a).text (eC k)with
   | none=>rw[hi]at h;cases h
   | some c =>
    rw[hi]at h;unfold jZ at hi;split at hi
    ·rename_i hlen;have hpl:=aC0 _ _ _ hlen hi;have hbits:(eC k=8/\(k=10\/k=12))\/(eC k=16/\(k=11\/k=13))\/(eC k=32/\(k=14\/k=17)):=by
      unfold eC at hb ⊢;split
      ·left;exact⟨rfl,by assumption⟩
      ·split
       ·right;left;exact⟨rfl,by assumption⟩
       ·split
        ·right;right;exact⟨rfl,by assumption⟩
        ·rename_i h1 h2 h3;rw[aD h1,aD h2,aD h3]at hb;exact absurd rfl hb
     simp only at h;split at h
     ·rename_i h32;cases h;have hk2:k=14\/k=17:=by omega
      refine⟨iJ (mH (by omega) (by omega) (by omega) ?_ ?_ ?_ (by omega) (by omega) (by omega)),iG (by decide),?_⟩
      ·have:kB (k:Int)=true:=by unfold kB;simp;omega
       simp[M.extra,M.k,M.n,M.t,M.l,M.e,this]
      ·rw[M.num_mk];rw[aD,aD,aD,aD,aD,aD,aD,aD]
      ·rw[M.txt_mk];rw[aF,aR (by omega)]
      ·rw[yR];omega
     ·rename_i h32;cases h;have hlt:=aTw c;have hlim:beN c<18446744073709551616/\(k=10\/k=12->beN c<=4294967295):=by
       rcases hbits with⟨q1,q2⟩|⟨q1,q2⟩|⟨q1,q2⟩
       ·have:c.length=4:=by omega
        rw[this]at hlt;omega
       ·have:c.length=8:=by omega
        rw[this]at hlt;omega
       ·exact absurd q1 h32
      refine⟨iJ (mH (by omega) (by omega) (by omega) ?_ ?_ ?_ (by omega) (by omega) (by omega)),iG hlim.1,?_⟩
      ·have:vE (k:Int)=true:=by unfold vE;simp;omega
       simp[M.extra,M.k,M.n,M.t,M.l,M.e,this]
      ·rw[M.num_mk];rw[aD,aD,aD];split
       ·have:=hlim.2 (by omega);exact aR this
       ·rw[aD,aD,aD,aD]
      ·rw[M.txt_mk];rw[aD,aD,aD]
      ·rw[yR];simp;omega
    ·cases hi
def GoodL(d n:Nat)(l:List M):Prop:=(∀x∈l,x.check (33-d)=0)/\(∀x∈l,x.fits)/\(l.map M.sz).sum<=n
theorem GoodL.snoc{d n k:Nat}{l:List M}{x:M}(h:GoodL d n l)(h1:x.check (33-d)=0)(h2:x.fits)(h3:x.sz<=k):GoodL d (n+k) (l++[x]):=by
 obtain⟨g1,g2,g3⟩:=h;refine⟨λy hy=>?_,λy hy=>?_,by simp;omega⟩
 ·rcases List.mem_append.1 hy with h|h
  ·exact g1 y h
  ·rw[List.mem_singleton.1 h];exact h1
 ·rcases List.mem_append.1 hy with h|h
  ·exact g2 y h
  ·rw[List.mem_singleton.1 h];exact h2
theorem GoodL.mono{d n k:Nat}{l:List M}(h:GoodL d n l)(hk:n<=k):GoodL d k l:=⟨h.1,h.2.1,by have:=h.2.2;omega⟩
theorem rM{s:Bs}{d:Nat}(ih:∀a b m,a<=s.length->gZ s d a=.ok m b->gO d a b m){elem:Option Nat}{a0:Nat}:∀(f a:Nat) (acc l:List M) (b:Nat),a0<=a->a<=s.length->GoodL d (a-a0) acc->(∀k,elem=some k->∀x∈acc,x.k=(k:Int))->fU (gZ s d) s elem f a acc=.ok l b->GoodL d (b-a0) l/\∀k,elem=some k->∀x∈l,x.k=(k:Int)
 | 0,_,_,_,_,_,_,_,_,h=>by simp[fU]at h
 | f+1,a,acc,l,b,h0,ha,hg,hk,h=>by
  have hl:=dM s a ha;unfold fU at h;simp only at h;split at h
  ·cases h;exact⟨hg.mono (by omega),hk⟩
  ·cases hr:gZ s d a with
   | bad _ _=>rw[hr]at h;cases h
   | ok m c =>
    rw[hr]at h;have hm:=ih a c m ha hr;have hgo:=fE s d a m c ha hr;have hg2:=(hg.snoc hm.1 hm.2.1 hm.2.2).mono (show a-a0+(c-a)<=c-a0 by omega);cases elem with
    | none=>exact rM ih f c _ l b (by omega) (by omega) hg2 (λ_ h=>by cases h) h
    | some j =>
     simp only at h;split at h
     ·rename_i hj;refine rM ih f c _ l b (by omega) (by omega) hg2 (λk hk' x hx=>?_) h;cases hk';rcases List.mem_append.1 hx with h|h
      ·exact hk _ rfl x h
      ·rw[List.mem_singleton.1 h];exact hj
     ·unfold cM at h;cases h
theorem aCy{s:Bs}{d:Nat}(ih:∀a b m,a<=s.length->gZ s d a=.ok m b->gO d a b m){a0:Nat}:∀(f a:Nat) (acc l:List M) (b:Nat),a0<=a->a<=s.length->GoodL d (a-a0) acc->acc.length%2=0->fY (gZ s d) s f a acc=.ok l b->GoodL d (b-a0) l/\l.length%2=0
 | 0,_,_,_,_,_,_,_,_,h=>by simp[fY]at h
 | f+1,a,acc,l,b,h0,ha,hg,hk,h=>by
  unfold fY at h;cases hr:gZ s d a with
  | bad c e=>rw[hr]at h;cases h
  | ok x c =>
   rw[hr]at h;have h3:=fE s d a x c ha hr;have hm:=ih a c x ha hr;simp only at h;split at h
   ·exact absurd h iI
   ·rename_i hc;have h4:=dF (s:=s) (a:=c) (c:=58) (by omega) (by simpa using hc);cases hr2:gZ s d (next s c).fin with
    | bad _ _=>rw[hr2]at h;cases h
    | ok v e =>
     rw[hr2]at h;have h5:=fE s d _ v e (by omega) hr2;have hm2:=ih _ e v (by omega) hr2;have hg2:=((hg.snoc hm.1 hm.2.1 hm.2.2).snoc hm2.1 hm2.2.1 hm2.2.2).mono (show a-a0+(c-a)+(e-(next s c).fin)<=e-a0 by omega);rw[aP]at hg2;have hev:(acc++([x]++[v])).length%2=0:=by simp;omega
     simp only at h;split at h
     ·rename_i ht;have h6:=dF (s:=s) (a:=e) (c:=125) (by omega) ht;cases h;exact⟨hg2.mono (by omega),hev⟩
     ·split at h
      ·exact absurd h iI
      ·rename_i ht;have h6:=dF (s:=s) (a:=e) (c:=44) (by omega) (by simpa using ht);exact aCy ih f _ _ l b (by omega) (by omega) (hg2.mono (by omega)) hev h
theorem uK{d a b:Nat}{k:Int}{e:Int}{l:List M}{n:Nat}(hd:d+1<=32)(h:GoodL d n l)(hn:n+1<=b-a)(hk:k=21\/k=22\/k=23\/k=24)(he:k≠23->e=0)(hm:k=22->jE l=true)(ha:k=23->gF e l=true)(hp:k=24->l.length=2):gO (d+1) a b (.mk k 0 [] e l):=by
 refine⟨?_,.mk (by decide) h.2.1,?_⟩
 ·rw[M.check_iff];refine⟨mH (by omega) (by omega) (by omega) ?_ ?_ ?_ hm ha hp,λx hx=>?_⟩
  ·have:kT k=true:=by unfold kT;simp;omega
   rw[M.extra_mk];by_cases h23:k=23
   ·rw[this];simp[h23]
   ·simp[this,he h23]
  ·rw[M.num_mk];rw[aD,aD,aD,aD,aD,aD,aD,aD]
  ·rw[M.txt_mk];rw[aD,aD,aD]
  ·have:=h.1 x hx;rw[show 33-(d+1)+1=33-d by omega];exact this
 ·rw[M.sz_mk];have:=h.2.2;simp;omega
theorem aKi{t:Bs}{k:Nat}(h:iM t=some k):k<25:=by
 unfold iM at h;obtain⟨h1,_⟩:=List.findIdx?_eq_some_iff_getElem.1 h;exact h1
theorem aHf{t:Tok}{k:Nat}(h:dA t=some k):k<25:=by
 unfold dA at h;split at h
 ·cases h;decide
 ·split at h
  ·split at h
   ·cases h;decide
   ·split at h
    ·cases h;decide
    ·split at h
     ·cases h;decide
     ·cases h
  ·split at h
   ·cases h
   ·split at h
    ·cases h;decide
    ·cases hk:iM t.text with
     | none=>rw[hk]at h;cases h
     | some j =>
      rw[hk]at h;simp only at h;split at h
      ·cases h
      ·cases h;exact aKi hk
theorem aJy(s:Bs):∀(d:Nat),d<=32->∀(a b:Nat) (m:M),a<=s.length->gZ s d a=.ok m b->gO d a b m
 | 0,_,a,b,m,ha,h=>by
  rw[gJ]at h;unfold cM at h;split at h
  ·split at h<;>cases h
  ·cases h
 | d+1,hd,a,b,m,ha,h=>by
  have ih:=aJy s d (by omega);rw[gJ]at h;have hg:=fE s d;have hl:=dM s a ha;cases hb:dA (next s a)with
  | none =>
   rw[hb]at h;unfold cM at h;simp only at h;split at h<;>cases h
  | some k =>
   rw[hb]at h;have hk0:=aA1 hb;have hk25:=aHf hb;simp only at h;have hl2:=dM s (next s a).fin (by omega);have h0:GoodL d 0 []:=⟨by simp,by simp,by simp⟩;split at h
   ·rename_i hk;cases h;refine⟨iJ (mH (by omega) (by omega) (by omega) (by decide) (by decide) (by decide) (by omega) (by omega) (by omega)),iG (by decide),?_⟩;rw[yR];simp;omega
   split at h
   ·rename_i hk;cases h;refine⟨iJ (mH (by omega) (by omega) (by omega) ?_ ?_ (by rfl) (by omega) (by omega) (by omega)),iG (by split<;>decide),?_⟩
    ·simp[M.extra,M.k,M.n,M.t,M.l,M.e,vE]
    ·rw[M.num_mk,aF rfl];split<;>decide
    ·rw[yR];simp;omega
   split at h
   ·exact aAg (by omega) (by omega) ha h
   split at h
   ·rename_i hk;have h1:=aAg (d:=d+1) (by omega) (by omega) (by omega) h;exact⟨h1.1,h1.2.1,by have:=h1.2.2;omega⟩
   split at h
   ·unfold listed at h;cases he:fU (gZ s d) s none (s.length+1) (next s a).fin []with
    | bad _ _=>rw[he]at h;cases h
    | ok l c =>
     rw[he]at h;cases h;have h1:=rM ih _ _ _ _ _ (aQ _) (by omega) (h0.mono (by omega)) (λ_ h=>by cases h) he;have h2:=nP hg none _ _ _ _ _ (by omega) he;exact uK (by omega) h1.1 (by omega) (by omega) (λ_=>rfl) (by omega) (by omega) (by omega)
   split at h
   ·unfold rE at h;simp only at h;have hsh:∀l c,GoodL d (c-(next s a).fin) l->(next s a).fin<=c->l.length%2=0->uT l (next s a).beg c=.ok m b->gO (d+1) a b m:=by
     intro l c hgl hc hev hs;unfold uT at hs;split at hs
     ·cases hs
     ·rename_i hno;cases hs;have hno1:l.length<=2048:=by omega
      have hno2:(fS l).Nodup:=Classical.byContradiction λh=>hno (.inr h);refine uK (by omega) hgl (by omega) (by omega) (λ_=>rfl) (λ_=>?_) (by omega) (by omega);unfold jE;simp[hev,hno2];omega
    split at h
    ·rename_i hi;have h3:=dF (s:=s) (by omega) hi;exact hsh [] _ (h0.mono (by omega)) (by omega) rfl h
    ·cases hp:fY (gZ s d) s (s.length+1) (next s a).fin []with
     | bad _ _=>rw[hp]at h;cases h
     | ok l c =>
      rw[hp]at h;have h1:=aCy ih _ _ _ _ _ (aQ _) (by omega) (h0.mono (by omega)) rfl hp;have h2:=wF hg _ _ _ _ _ (by omega) hp;exact hsh l c h1.1 (by omega) h1.2 h
   split at h
   ·unfold nA at h;simp only at h;split at h
    ·unfold cM at h;cases h
    ·cases hkb:iM (next s (next s a).fin).text with
     | none=>rw[hkb]at h;unfold cM at h;cases h
     | some j =>
      rw[hkb]at h;have hj:=aKi hkb;simp only at h;split at h
      ·unfold cM at h;cases h
      ·rename_i hj2;split at h
       ·unfold cM at h;cases h
       ·rename_i ho;have h3:=dF (s:=s) (a:=(next s (next s a).fin).fin) (c:=91) (by omega) (by simpa using ho);unfold listed at h;cases he:fU (gZ s d) s (some j) (s.length+1) (next s (next s (next s a).fin).fin).fin []with
        | bad _ _=>rw[he]at h;cases h
        | ok l c =>
             rw[he]at h;cases h;have h1:=rM ih _ _ _ _ _ (aQ _) (by omega) (h0.mono (by omega)) (λ_ _=>by simp) he;have h2:=nP hg (some j) _ _ _ _ _ (by omega) he;refine uK (by omega) h1.1 (by omega) (by omega) (by omega) (by omega) (λ_=>?_) (by omega);unfold gF;simp only[bH,bA,List.all_eq_true];exact⟨⟨by omega,by omega⟩,h1.2 j rfl⟩
   split at h
   ·unfold jA at h;cases hr:gZ s d (next s a).fin with
    | bad _ _=>rw[hr]at h;cases h
    | ok x c =>
     rw[hr]at h;have h3:=hg _ _ _ (by omega) hr;have g3:=ih _ _ _ (by omega) hr;simp only at h;cases hr2:gZ s d c with
     | bad _ _=>rw[hr2]at h;cases h
     | ok y e =>
      rw[hr2]at h;have h4:=hg _ _ _ (by omega) hr2;have g4:=ih _ _ _ (by omega) hr2;simp only at h;split at h
      ·exact absurd h iI
      ·rename_i ho;have h5:=dF (s:=s) (a:=e) (c:=41) (by omega) (by simpa using ho);cases h;have g5:=(h0.snoc g3.1 g3.2.1 g3.2.2).snoc g4.1 g4.2.1 g4.2.2;exact uK (by omega) g5 (by omega) (by omega) (λ_=>rfl) (by omega) (by omega) (λ_=>rfl)
   ·have h1:=aFs (d:=d+1) (a0:=a) (by omega) (by omega) (by omega) (by omega) h;exact h1
theorem aCw{s:Bs}{m:M}{b:Nat}(h:gT s=.ok m b):m.check 1=0/\m.fits/\m.sz<=s.length/\b=0/\s.length<=1048576:=by
 unfold gT at h;split at h
 ·cases h
 ·rename_i hl;cases hr:gZ s 32 0 with
  | bad _ _=>rw[hr]at h;cases h
  | ok x c =>
   rw[hr]at h;simp only at h;split at h
   ·unfold cM at h;cases h
   ·cases h;have h1:=aJy s 32 (aQ _) 0 c m (by omega) hr;have h2:=fE s 32 0 m c (by omega) hr;exact⟨h1.1,h1.2.1,by have:=h1.2.2;omega,rfl,by omega⟩
end Go.Note
namespace Go.Proofs.YtlfhjkgdlclddaaGreatDoor
open Go Go.Sv Go.Note
inductive MV where
 | mk (k:Int) (n:Nat) (t:Bs) (s:SL) (e:Int) (l:List MV)
def MV.k:MV->Int|.mk k _ _ _ _ _=>k
def MV.n:MV->Nat|.mk _ n _ _ _ _=>n
def MV.t:MV->Bs|.mk _ _ t _ _ _=>t
def MV.s:MV->SL|.mk _ _ _ s _ _=>s
def MV.e:MV->Int|.mk _ _ _ _ e _=>e
def MV.l:MV->List MV|.mk _ _ _ _ _ l=>l
theorem MV.k_mk(k:Int)(n:Nat)(t:Bs)(s:SL)(e:Int)(l:List MV):(MV.mk k n t s e l).k=k:=rfl
theorem MV.n_mk(k:Int)(n:Nat)(t:Bs)(s:SL)(e:Int)(l:List MV):(MV.mk k n t s e l).n=n:=rfl
theorem MV.t_mk(k:Int)(n:Nat)(t:Bs)(s:SL)(e:Int)(l:List MV):(MV.mk k n t s e l).t=t:=rfl
theorem MV.s_mk(k:Int)(n:Nat)(t:Bs)(s:SL)(e:Int)(l:List MV):(MV.mk k n t s e l).s=s:=rfl
theorem MV.e_mk(k:Int)(n:Nat)(t:Bs)(s:SL)(e:Int)(l:List MV):(MV.mk k n t s e l).e=e:=rfl
theorem MV.l_mk(k:Int)(n:Nat)(t:Bs)(s:SL)(e:Int)(l:List MV):(MV.mk k n t s e l).l=l:=rfl
abbrev str(t:Bs):ByteArray:=⟨t.toArray⟩
def MV.g:MV->List Value
 | .mk k n t s e _=>[.int .i64 k,.int .u64 (n:Int),.string ⟨t.toArray⟩,.slice s.p s.n s.c,.int .i64 e]
def MV.v(x:MV):Value:=.agg x.g.toArray
mutual
def MV.m:MV->M
 | .mk k n t _ e l=>.mk k n t e (MV.mL l)
def MV.mL:List MV->List M
 | []=>[]
 | x::l=>MV.m x::MV.mL l
end
mutual
def MV.B:MV->List Nat
 | .mk _ _ _ s _ l=>s.own.toList++MV.BL l
def MV.BL:List MV->List Nat
 | []=>[]
 | x::l=>MV.B x++MV.BL l
end
theorem MV.mL_map(l:List MV):MV.mL l=l.map MV.m:=by
 induction l with
 | nil=>rfl
 | cons x l ih=>simp[MV.mL,ih]
theorem MV.BL_flat(l:List MV):MV.BL l=l.flatMap MV.B:=by
 induction l with
 | nil=>rfl
 | cons x l ih=>simp[MV.BL,ih]
theorem MV.m_mk(k:Int)(n:Nat)(t:Bs)(s:SL)(e:Int)(l:List MV):(MV.mk k n t s e l).m=.mk k n t e (l.map MV.m):=by rw[MV.m,MV.mL_map]
theorem MV.B_mk(k:Int)(n:Nat)(t:Bs)(s:SL)(e:Int)(l:List MV):(MV.mk k n t s e l).B=s.own.toList++l.flatMap MV.B:=by rw[MV.B,MV.BL_flat]
theorem MV.glen(x:MV):x.g.length=5:=by cases x;rfl
theorem MV.gone(x:MV):∀v∈x.g,nK v=true:=by
 cases x;intro v hv;simp only[MV.g,List.mem_cons,List.not_mem_nil,or_false]at hv;rcases hv with h|h|h|h|h<;>rw[h]<;>rfl
theorem MV.lt_of_mem{k:Int}{n:Nat}{t:Bs}{s:SL}{e:Int}{l:List MV}{x:MV}(h:x∈l):SizeOf.sizeOf x<SizeOf.sizeOf (MV.mk k n t s e l):=by
 have:=List.sizeOf_lt_of_mem h;simp only[MV.mk.sizeOf_spec];omega
theorem MV.ind{P:MV->Prop}(h:∀k n t s e l,(∀x∈l,P x)->P (.mk k n t s e l)):∀m,P m
 | .mk k n t s e l=>h k n t s e l λx hx=>MV.ind h x
termination_by m=>SizeOf.sizeOf m
decreasing_by exact MV.lt_of_mem hx
inductive VR(Q:Nat->Prop)(w:World):MV->Prop where
 | mk {k:Int} {n:Nat} {t:Bs} {s:SL} {e:Int} {l:List MV}:l.length=s.n->s.n<=2^46->Rd w s.p s.n 5 (l.flatMap MV.g)->(∀a,s.p=some a->s.n*5≠0->Q a.block)->(∀x∈l,VR Q w x)->VR Q w (.mk k n t s e l)
theorem VR.ch{Q S:Nat->Prop}{w w':World}(hc:Ch S w w')(hn:∀b,Q b->¬S b):∀x:MV,VR Q w x->VR Q w' x:=by
 refine MV.ind λk n t s e l ih=>?_;intro h;cases h with
 | mk h1 h2 h3 h4 h5 =>
  exact .mk h1 h2 (h3.ch hc λa ha h0=>hn _ (h4 a ha h0)) h4 λx hx=>ih x hx (h5 x hx)
theorem VR.ch0{Q:Nat->Prop}{w w':World}(hc:Ch (λ_=>False) w w'){x:MV}(h:VR Q w x):VR Q w' x:=VR.ch hc (λ_ _ h=>h) x h
theorem VR.mono{Q Q':Nat->Prop}{w:World}(hq:∀b,Q b->Q' b):∀x:MV,VR Q w x->VR Q' w x:=by
 refine MV.ind λk n t s e l ih=>?_;intro h;cases h with
 | mk h1 h2 h3 h4 h5 =>
  exact .mk h1 h2 h3 (λa ha h0=>hq _ (h4 a ha h0)) λx hx=>ih x hx (h5 x hx)
theorem VR.inv{Q:Nat->Prop}{w:World}{x:MV}(h:VR Q w x):x.l.length=x.s.n/\x.s.n<=2^46/\Rd w x.s.p x.s.n 5 (x.l.flatMap MV.g)/\(∀a,x.s.p=some a->x.s.n*5≠0->Q a.block)/\∀y∈x.l,VR Q w y:=by
 cases h with
 | mk h1 h2 h3 h4 h5=>exact⟨h1,h2,h3,h4,h5⟩
theorem VR.lt{Q:Nat->Prop}{w:World}:∀x:MV,VR Q w x->VR (λb=>Q b/\b<w.heap.size) w x:=by
 refine MV.ind λk n t s e l ih=>?_;intro h;cases h with
 | mk h1 h2 h3 h4 h5 =>
  exact .mk h1 h2 h3 (λa ha h0=>⟨h4 a ha h0,h3.lt a ha h0⟩) λx hx=>ih x hx (h5 x hx)
def At(w:World)(b o:Nat)(x:MV):Prop:=∀j v,x.g[j]?=some v->w.cell? ⟨b,o+j,none⟩=some v
theorem At.ch{S:Nat->Prop}{w w':World}{b o:Nat}{x:MV}(h:At w b o x)(hc:Ch S w w')(hn:¬S b):At w' b o x:=λj v hv=>by
 have h1:=h j v hv;have hlt:b<w.heap.size:=by
  obtain⟨cs,h2,_⟩:∃cs,fI w b=some cs/\cs[o+j]?=some v:=by
   unfold World.cell? at h1;unfold fI;simp only at h1;split at h1
   ·rename_i c t fz hh;exact⟨c.toList,by rw[hh],by simpa using h1⟩
   ·cases h1
  exact aEt h2
 have e:w'.cell? ⟨b,o+j,none⟩=w.cell? ⟨b,o+j,none⟩:=World.cell?_of_block (a:=⟨b,o+j,none⟩) (hc.keep b hlt hn);rw[e];exact h1
theorem At.blk{w:World}{b:Nat}{x:MV}(h:blk w b=some x.g):At w b 0 x:=λj v hv=>by rw[eA h,aL];exact hv
theorem VR.at{Q:Nat->Prop}{w:World}{x y:MV}(h:VR Q w x){i:Nat}(hi:x.l[i]?=some y):∃b o,x.s.p=some ⟨b,o,none⟩/\Q b/\At w b (o+i*5) y:=by
 obtain⟨h1,h2,h3,h4,h5⟩:=h.inv;obtain⟨b,o,hp,ha⟩:=h3.at MV.glen hi (by decide);have hil:i<x.l.length:=(List.getElem?_eq_some_iff.1 hi).1;exact⟨b,o,hp,h4 _ hp (by omega),ha⟩
theorem rd5{w:World}{b o:Nat}{x:MV}{K:Int->Int->ByteArray->Option Addr->Nat->Nat->Int->Prop}(h:At w b o x)(hk:K x.k (x.n:Int) ⟨x.t.toArray⟩ x.s.p x.s.n x.s.c x.e) :
 ∃n,w.cell? ⟨b,o+0,none⟩=some (.int .i64 n)/\∃n1,w.cell? ⟨b,o+1,none⟩=some (.int .u64 n1)/\∃s,w.cell? ⟨b,o+2,none⟩=some (.string s)/\∃p n2 c,w.cell? ⟨b,o+3,none⟩=some (.slice p n2 c)/\∃n3,w.cell? ⟨b,o+4,none⟩=some (.int .i64 n3)/\K n n1 s p n2 c n3:=by
 cases x;exact⟨_,h 0 _ rfl,_,h 1 _ rfl,_,h 2 _ rfl,_,_,_,h 3 _ rfl,_,h 4 _ rfl,hk⟩
theorem At.k0{w:World}{b o:Nat}{x:MV}(h:At w b o x):w.cell? ⟨b,o+0,none⟩=some (.int .i64 x.k):=by cases x;exact h 0 _ rfl
theorem At.n1{w:World}{b o:Nat}{x:MV}(h:At w b o x):w.cell? ⟨b,o+1,none⟩=some (.int .u64 (x.n:Int)):=by cases x;exact h 1 _ rfl
theorem At.t2{w:World}{b o:Nat}{x:MV}(h:At w b o x):w.cell? ⟨b,o+2,none⟩=some (.string ⟨x.t.toArray⟩):=by cases x;exact h 2 _ rfl
theorem At.s3{w:World}{b o:Nat}{x:MV}(h:At w b o x):w.cell? ⟨b,o+3,none⟩=some (.slice x.s.p x.s.n x.s.c):=by cases x;exact h 3 _ rfl
theorem At.e4{w:World}{b o:Nat}{x:MV}(h:At w b o x):w.cell? ⟨b,o+4,none⟩=some (.int .i64 x.e):=by cases x;exact h 4 _ rfl
theorem vv(x:MV):Value.agg (Array.mk [.int .i64 x.k,.int .u64 (x.n:Int),.string ⟨x.t.toArray⟩,.slice x.s.p x.s.n x.s.c,.int .i64 x.e])=x.v:=by cases x;rfl
theorem oD{w:World}{x:MV}{t:TypeId}{K:Addr->World->Prop}(hk:∀w',blk w' w.heap.size=some x.g->At w' w.heap.size 0 x->Ch (λ_=>False) w w'->w'.heap.size=w.heap.size+1->K ⟨w.heap.size,0,none⟩ w'):bP w x.g t K :=
 bD λw1 b1 c1 z1=>hk w1 b1 (At.blk b1) c1 (by omega)
inductive VO(w:World):MV->Prop where
 | mk {k:Int} {n:Nat} {t:Bs} {s:SL} {e:Int} {l:List MV}:l.length=s.n->s.n<=2^46->Ow w s.p s.n s.c 5 (l.flatMap MV.g) s.own->(∀x∈l,VO w x)->(s.own.toList++l.flatMap MV.B).Nodup->VO w (.mk k n t s e l)
theorem VO.inv{w:World}{x:MV}(h:VO w x):x.l.length=x.s.n/\x.s.n<=2^46/\Ow w x.s.p x.s.n x.s.c 5 (x.l.flatMap MV.g) x.s.own/\(∀y∈x.l,VO w y)/\x.B.Nodup:=by
 cases h with
 | mk h1 h2 h3 h4 h5=>exact⟨h1,h2,h3,h4,by rw[MV.B_mk];exact h5⟩
theorem VO.ch{S:Nat->Prop}{w w':World}(hc:Ch S w w'):∀x:MV,VO w x->(∀b∈x.B,¬S b)->VO w' x:=by
 refine MV.ind λk n t s e l ih=>?_;intro h hn;rw[MV.B_mk]at hn;cases h with
 | mk h1 h2 h3 h4 h5 =>
  refine .mk h1 h2 (h3.ch hc λb hb=>hn b (by simp[hb])) (λx hx=>ih x hx (h4 x hx) λb hb=>hn b ?_) h5;exact List.mem_append.2 (.inr (List.mem_flatMap.2 ⟨x,hx,hb⟩))
theorem VO.lt{w:World}:∀x:MV,VO w x->∀b∈x.B,b<w.heap.size:=by
 refine MV.ind λk n t s e l ih=>?_;intro h b hb;rw[MV.B_mk]at hb;cases h with
 | mk h1 h2 h3 h4 h5 =>
  rcases List.mem_append.1 hb with hb|hb
  ·exact h3.blt b (by simpa[Option.mem_toList]using hb)
  ·obtain⟨x,hx,hb⟩:=List.mem_flatMap.1 hb;exact ih x hx (h4 x hx) b hb
def VE:El MV where
 g:=MV.g
 sz:=5
 B:=MV.B
 Ok:=VO
 glen:=MV.glen
 gone:=MV.gone
 ch h hc hn:=VO.ch hc _ h hn
 lt h:=VO.lt _ h
 nd h:=h.inv.2.2.2.2
theorem sV{w:World}{p:Option Addr}{n c sz:Nat}{xs:List Value}{b:Option Nat}(h:Ow w p n c sz xs b):∀a,p=some a->n*sz≠0->b=some a.block:=by
 intro a ha h0;obtain⟨_,h2,h3⟩:=h;rcases h3 with⟨h3,h4⟩|⟨k,o,cs,h3,h4,_⟩
 ·have:n*sz<=c*sz:=bR _ h2;omega
 ·rw[h4]at ha;cases ha;exact h3
theorem VO.vr{w:World}:∀x:MV,VO w x->∀Q:Nat->Prop,(∀b∈x.B,Q b)->VR Q w x:=by
 refine MV.ind λk n t s e l ih=>?_;intro h Q hq;rw[MV.B_mk]at hq;cases h with
 | mk h1 h2 h3 h4 h5 =>
  refine .mk h1 h2 h3.rd (λa ha h0=>hq _ ?_) λx hx=>ih x hx (h4 x hx) Q λb hb=>hq b ?_
  ·have:=sV h3 a ha h0;simp[this]
  ·exact List.mem_append.2 (.inr (List.mem_flatMap.2 ⟨x,hx,hb⟩))
theorem VO.vr'{w:World}{x:MV}(h:VO w x):VR (·∈x.B) w x:=VO.vr x h _ λ_ h=>h
theorem VO.none{w:World}{k:Int}{n:Nat}{t:Bs}{e:Int}:VO w (.mk k n t ⟨none,0,0,none⟩ e []):=.mk rfl (by decide) (by simpa using Ow.nil) (by simp) (by simp)
attribute [local irreducible] aS
theorem nX(a b:Bs):((ByteArray.mk a.toArray).toList == (ByteArray.mk b.toArray).toList)=decide (a=b):=by
 rw[ByteArray.toList_eq,ByteArray.toList_eq];by_cases h:a=b
 ·subst h;simp
 ·simp[h]
theorem eP(a b:Nat):(((a:Nat):Int) == (b:Int))=decide (a=b):=by
 by_cases h:a=b
 ·subst h;simp
 ·simp[h];omega
theorem eJ(a b:Int):(a != b)=!decide (a=b):=by
 by_cases h:a=b<;>simp[h]
theorem mL_eq{a b:List MV}:a.map MV.m=b.map MV.m↔a.length=b.length/\∀i,i<a.length->∀x y,a[i]?=some x->b[i]?=some y->x.m=y.m:=by
 constructor
 ·intro h;have hl:a.length=b.length:=by simpa using congrArg List.length h
  refine⟨hl,λi hi x y hx hy=>?_⟩;have:=congrArg (λl=>l[i]?) h;simp only[dH,hx,hy,Option.map_some,Option.some.injEq]at this;exact this
 ·rintro⟨hl,h⟩;apply List.ext_getElem?;intro i;simp only[dH];by_cases hi:i<a.length
  ·have hx:a[i]?=some a[i]:=aK hi;have hy:b[i]?=some b[i]:=aK (by omega);rw[hx,hy];simp[h i hi _ _ hx hy]
  ·rw[eS (by omega),eS (by omega)]
theorem wt_mk(k:Int)(n:Nat)(t:Bs)(s:SL)(e:Int)(l:List MV):(MV.mk k n t s e l).m.wt=1+t.length / 64+(l.map λx=>x.m.wt).sum:=by
 rw[MV.m_mk,M.wt_mk,List.map_map];rfl
end Go.Proofs.YtlfhjkgdlclddaaGreatDoor
