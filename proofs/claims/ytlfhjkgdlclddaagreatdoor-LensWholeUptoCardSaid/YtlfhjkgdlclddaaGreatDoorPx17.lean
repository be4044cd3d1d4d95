/-
  The program's codec: small functions. The program's codec: constructors, numbers. The program's codec: bytes put behind bytes; a value's data. The program's codec: a value's data behind a constructor. The program's codec: a value is put behind bytes. The program's codec: a value is put behind bytes. The program's codec: what stands behind a count. The program's codec: an array's elements. The program's codec: an array's constructor and elements.
-/
import Derived.Test.YtlfhjkgdlclddaaGreatDoorPx16
set_option linter.unusedVariables false
set_option linter.unusedSimpArgs false
set_option maxRecDepth 4000
namespace Go.Proofs.YtlfhjkgdlclddaaGreatDoor
open Go Go.Sv Go.Note
attribute [local irreducible] aS
theorem aYa{n:Nat}(hn:n<18446744073709551616):sgn n 8=(decide (IntKind.wrap .i64 (n:Int)>=-128) && decide (IntKind.wrap .i64 (n:Int)<=127)):=by
 rw[aLv hn];unfold sgn;simp only[Nat.reduceSub,Nat.reducePow];rw[<-Bool.decide_or,<-Bool.decide_and];refine decide_eq_decide.2 ?_;split<;>omega
theorem xA{b:Bool}{x y:Prop}(h:b=false)(hy:y):aS b x y:=by subst h;exact dJ hy
theorem aOq{p q:Prop}[Decidable p][Decidable q]{J:Bool->World->Prop}{w:World}(h:J (decide (p\/q)) w):aS (decide p) (J (decide p) w) (J (decide q) w):=by
 refine aC (λhp=>?_) (λhp=>?_)
 ·rw[hp];rw[aR (.inl (aB hp))]at h;exact h
 ·have hp:=aA hp;rw[show decide (p\/q)=decide q from decide_eq_decide.2 (by simp[hp])]at h;exact h
theorem aTv{p q r:Prop}[Decidable p][Decidable q][Decidable r]{J:Bool->World->Prop}{w:World}(h:J (decide (p\/q\/r)) w):aS (decide p) (J (decide p) w) (aS (decide q) (J (decide q) w) (J (decide r) w)):=by
 refine aC (λhp=>?_) (λhp=>aOq ?_)
 ·rw[hp];rw[aR (.inl (aB hp))]at h;exact h
 ·have hp:=aA hp;rw[show decide (p\/q\/r)=decide (q\/r)from decide_eq_decide.2 (by simp[hp])]at h;exact h
theorem mC{p q:Prop}[Decidable p][Decidable q](w:World):aS (decide p) (decide p=decide (p\/q)/\w=w) (decide q=decide (p\/q)/\w=w) :=
 aOq (J:=λb w'=>b=decide (p\/q)/\w'=w) ⟨rfl,rfl⟩
theorem jC{p q r:Prop}[Decidable p][Decidable q][Decidable r](w:World):aS (decide p) (decide p=decide (p\/q\/r)/\w=w) (aS (decide q) (decide q=decide (p\/q\/r)/\w=w) (decide r=decide (p\/q\/r)/\w=w)) :=
 aTv (J:=λb w'=>b=decide (p\/q\/r)/\w'=w) ⟨rfl,rfl⟩
theorem aGm{x:MV}(hn:x.n<18446744073709551616){w:World}{K:Value->World->Prop}(hk:∀w',Ch (λ_=>False) w w'->K (.bool (fH x.k x.n x.t)) w'):bK Tryz.prog 161 [x.v] w K:=by
 obtain⟨k,n,t,s,e,l⟩:=x;have hn:n<18446744073709551616:=hn;apply aBh;refine oD (x:=.mk k n t s e l) λw1 b1 a1 c1 z1=>?_;have hk:K (.bool (fH k n t)) w1:=hk w1 c1;unfold fH at hk;simp only[add_at,aL];refine⟨k,aJ b1 0 rfl,?_⟩;simp only[dS];refine⟨λb w2=>b=decide (k=4\/k=5)/\w2=w1,?_,mC _⟩;rintro b w2 ⟨rfl,rfl⟩;refine aC (λh=>⟨_,aJ b1 1 rfl,?_⟩) (λh=>?_)
 ·rw[aF (aB h)]at hk;rw[show decide ((n:Int)<=255)=decide (n<=255)from decide_eq_decide.2 (by omega)];exact hk
 rw[aD (aA h)]at hk;refine⟨λb w3=>b=decide (k=8\/k=9)/\w3=w2,?_,mC _⟩;rintro b w3 ⟨rfl,rfl⟩;refine aC (λh=>⟨_,aJ b1 1 rfl,?_⟩) (λh=>?_)
 ·rw[aF (aB h),aYa hn]at hk;rw[nameI_iff];refine aC (λh=>?_) (λh=>?_)
  ·rw[h,Bool.true_and]at hk;exact hk
  ·rw[h,Bool.false_and]at hk;exact hk
 rw[aD (aA h)]at hk;refine⟨λb w4=>b=decide (k=18\/k=19\/k=20)/\w4=w3,?_,jC _⟩;rintro b w4 ⟨rfl,rfl⟩;refine aC (λh=>⟨_,aJ b1 2 rfl,?_⟩) (λh=>?_)
 ·rw[aF (aB h)]at hk;have hs:(ByteArray.mk t.toArray).size=t.length:=lW t;rw[show decide (((ByteArray.mk t.toArray).size:Int)<=255)=decide (t.length<=255)from decide_eq_decide.2 (by rw[hs];omega)];exact hk
 ·rw[aD (aA h)]at hk;exact hk
def kD(k:Int)(n:Nat)(l:Nat):Option Nat :=
 if k=0 then some 0x40 else if k=1/\n=1 then some 0x41 else if k=1 then some 0x42 else if k=4/\n=0 then some 0x43 else if k=5/\n=0 then some 0x44 else if k=21/\l=0 then some 0x45 else none
theorem aUz{x:MV}(hl:x.l.length=x.s.n){w:World}{K:Value->World->Prop}(hk:∀w',Ch (λ_=>False) w w'->K (.tuple #[.int .u8 (((kD x.k x.n x.l.length).getD 0:Nat):Int),.bool (kD x.k x.n x.l.length).isSome]) w'):bK Tryz.prog 156 [x.v] w K:=by
 obtain⟨k,n,t,s,e,l⟩:=x;have hl:l.length=s.n:=hl;apply aFo;refine oD (x:=.mk k n t s e l) λw1 b1 a1 c1 z1=>?_;have hk:K (.tuple #[.int .u8 (((kD k n l.length).getD 0:Nat):Int),.bool (kD k n l.length).isSome]) w1:=hk w1 c1;simp only[add_at,aL];have q0:w1.cell? ⟨w.heap.size,0,none⟩=some (.int .i64 k):=aJ b1 0 rfl;have q1:w1.cell? ⟨w.heap.size,1,none⟩=some (.int .u64 (n:Int)):=aJ b1 1 rfl;have q3:w1.cell? ⟨w.heap.size,3,none⟩=some (.slice s.p s.n s.c):=aJ b1 3 rfl;have fin:∀o:Option Nat,kD k n l.length=o->K (.tuple #[.int .u8 ((o.getD 0:Nat):Int),.bool o.isSome]) w1:=λo ho=>by rw[<-ho];exact hk
 simp only[dS];have en:∀j:Nat,decide ((n:Int)=(j:Int))=decide (n=j):=λj=>decide_eq_decide.2 (by omega);have e0:decide ((n:Int)=0)=decide (n=0):=en 0;have e1:decide ((n:Int)=1)=decide (n=1):=en 1;have el:decide ((s.n:Int)=0)=decide (l.length=0):=decide_eq_decide.2 (by omega);have last:∀(h0:¬k=0) (h1:¬k=1) (h4:¬(k=4/\n=0)) (h5:¬(k=5/\n=0)),∃n8,w1.cell? ⟨w.heap.size,0,none⟩=some (.int .i64 n8)/\aS (decide (n8=21)) (∃p n9 c,w1.cell? ⟨w.heap.size,3,none⟩=some (.slice p n9 c)/\aS (decide ((n9:Int)=0)) (K (.tuple (Array.mk [.int .u8 69,.bool true])) w1) (K (.tuple (Array.mk [.int .u8 0,.bool false])) w1)) (K (.tuple (Array.mk [.int .u8 0,.bool false])) w1):=λh0 h1 h4 h5=>by
  refine⟨k,q0,aC (λh=>⟨s.p,s.n,s.c,q3,?_⟩) (λh=>?_)⟩
  ·have h:=aB h;rw[el];refine aC (λh6=>?_) (λh6=>?_)
   ·exact fin (some 0x45) (by unfold kD;rw[aD h0,aD (λq=>h1 q.1),aD h1,aD h4,aD h5,aF ⟨h,aB h6⟩])
   ·exact fin none (by unfold kD;rw[aD h0,aD (λq=>h1 q.1),aD h1,aD h4,aD h5,aD (λq=>aA h6 q.2)])
  ·exact fin none (by unfold kD;rw[aD h0,aD (λq=>h1 q.1),aD h1,aD h4,aD h5,aD (λq=>aA h q.1)])
 have five:∀(h0:¬k=0) (h1:¬k=1) (h4:¬(k=4/\n=0)),∃n6,w1.cell? ⟨w.heap.size,0,none⟩=some (.int .i64 n6)/\aS (decide (n6=5)) (∃n7,w1.cell? ⟨w.heap.size,1,none⟩=some (.int .u64 n7)/\aS (decide (n7=0)) (K (.tuple (Array.mk [.int .u8 68,.bool true])) w1) (∃n8,w1.cell? ⟨w.heap.size,0,none⟩=some (.int .i64 n8)/\aS (decide (n8=21)) (∃p n9 c,w1.cell? ⟨w.heap.size,3,none⟩=some (.slice p n9 c)/\aS (decide ((n9:Int)=0)) (K (.tuple (Array.mk [.int .u8 69,.bool true])) w1) (K (.tuple (Array.mk [.int .u8 0,.bool false])) w1)) (K (.tuple (Array.mk [.int .u8 0,.bool false])) w1)))
  (∃n8,w1.cell? ⟨w.heap.size,0,none⟩=some (.int .i64 n8)/\aS (decide (n8=21)) (∃p n9 c,w1.cell? ⟨w.heap.size,3,none⟩=some (.slice p n9 c)/\aS (decide ((n9:Int)=0)) (K (.tuple (Array.mk [.int .u8 69,.bool true])) w1) (K (.tuple (Array.mk [.int .u8 0,.bool false])) w1)) (K (.tuple (Array.mk [.int .u8 0,.bool false])) w1)):=λh0 h1 h4=>by
  refine⟨k,q0,aC (λh=>⟨_,q1,?_⟩) (λh=>last h0 h1 h4 λq=>aA h q.1)⟩;have h:=aB h;rw[e0];refine aC (λh6=>?_) (λh6=>last h0 h1 h4 λq=>aA h6 q.2);exact fin (some 0x44) (by unfold kD;rw[aD h0,aD (λq=>h1 q.1),aD h1,aD h4,aF ⟨h,aB h6⟩])
 refine⟨k,q0,aC (λh=>fin (some 0x40) (by unfold kD;rw[aF (aB h)])) (λh0=>?_)⟩;have h0:=aA h0;refine⟨k,q0,aC (λh1=>?_) (λh1=>?_)⟩
 ·have h1:=aB h1;refine⟨_,q1,?_⟩;rw[e1];refine aC (λh2=>fin (some 0x41) (by unfold kD;rw[aD h0,aF ⟨h1,aB h2⟩])) (λh2=>?_);refine⟨k,q0,cG (aR h1) (fin (some 0x42) (by unfold kD;rw[aD h0,aD (λq=>aA h2 q.2),aF h1]))⟩
 ·have h1:=aA h1;refine⟨k,q0,xA (bB h1) ⟨k,q0,aC (λh4=>⟨_,q1,?_⟩) (λh4=>five h0 h1 λq=>aA h4 q.1)⟩⟩;have h4:=aB h4;rw[e0];refine aC (λh2=>fin (some 0x43) (by unfold kD;rw[aD h0,aD (λq=>h1 q.1),aD h1,aF ⟨h4,aB h2⟩])) (λh2=>five h0 h1 λq=>aA h2 q.2)
def aHw(k:Int):Nat × Nat:=if k=1 then(86,1)else if k=2 then(80,1)else if k=3 then(96,2)else if k=6 then(81,1)else if k=7 then(97,2)else if k=10 then(114,4)else if k=11 then(130,8)else if k=12 then(116,4)else if k=13 then(132,8)else if k=15 then(115,4)else if k=16 then(131,8)else(0,0)
theorem aRt{k:Int}{w:World}{K:Value->World->Prop}(hk:K (.tuple #[.int .u8 ((aHw k).1:Int),.int .i64 ((aHw k).2:Int)]) w):bK Tryz.prog 214 [.int .i64 k] w K:=by
 apply aDl;simp only[dS];unfold aHw at hk;refine aC (λh=>?_) (λh=>?_)
 ·rw[aF (aB h)]at hk;exact hk
 rw[aD (aA h)]at hk;clear h;refine aC (λh=>?_) (λh=>?_)
 ·rw[aF (aB h)]at hk;exact hk
 rw[aD (aA h)]at hk;clear h;refine aC (λh=>?_) (λh=>?_)
 ·rw[aF (aB h)]at hk;exact hk
 rw[aD (aA h)]at hk;clear h;refine aC (λh=>?_) (λh=>?_)
 ·rw[aF (aB h)]at hk;exact hk
 rw[aD (aA h)]at hk;clear h;refine aC (λh=>?_) (λh=>?_)
 ·rw[aF (aB h)]at hk;exact hk
 rw[aD (aA h)]at hk;clear h;refine aC (λh=>?_) (λh=>?_)
 ·rw[aF (aB h)]at hk;exact hk
 rw[aD (aA h)]at hk;clear h;refine aC (λh=>?_) (λh=>?_)
 ·rw[aF (aB h)]at hk;exact hk
 rw[aD (aA h)]at hk;clear h;refine aC (λh=>?_) (λh=>?_)
 ·rw[aF (aB h)]at hk;exact hk
 rw[aD (aA h)]at hk;clear h;refine aC (λh=>?_) (λh=>?_)
 ·rw[aF (aB h)]at hk;exact hk
 rw[aD (aA h)]at hk;clear h;refine aC (λh=>?_) (λh=>?_)
 ·rw[aF (aB h)]at hk;exact hk
 rw[aD (aA h)]at hk;clear h;refine aC (λh=>?_) (λh=>?_)
 ·rw[aF (aB h)]at hk;exact hk
 rw[aD (aA h)]at hk;clear h;exact hk
theorem jL{a b:Nat}{q:Addr}{small:Bool}{w:World}{K:Value->World->Prop}(hc:w.cell? q=some (.bool small))(hk:K (.int .u8 ((if small then a else b:Nat):Int)) w) :
 jM Tryz.prog none (.func (Fn.func 215) #[] #[.pointer (some q)]) [.int .u8 (a:Int),.int .u8 (b:Int)] w K:=by
 refine⟨by kernel_rfl,?_⟩;refine aBi (cap0:=some q) (short:=(a:Int)) (long:=(b:Int)) ?_;rw[nn_some];refine⟨small,hc,aC (λh=>?_) (λh=>?_)⟩
 ·rw[h]at hk;exact hk
 ·rw[h]at hk;exact hk
theorem aIw{k:Int}(hk1:1<=k/\k<24){small:Bool}{w:World}{K:Value->World->Prop}(hk:∀w',Ch (λ_=>False) w w'->K (.int .u8 (cC k small:Int)) w'):bK Tryz.prog 158 [.int .i64 k,.bool small] w K:=by
 apply aFr;refine bD λw1 b1 c1 z1=>aRt ⟨_,_,rfl,?_⟩;have hc:w1.cell? ⟨w.heap.size,0,none⟩=some (.bool small):=aJ b1 0 rfl;have hk:=hk w1 c1;unfold cC at hk;unfold aHw;by_cases h:k=1
 ·rw[aF h]at hk ⊢;exact cG (by decide) hk
 rw[aD h]at hk ⊢;clear h;by_cases h:k=2
 ·rw[aF h]at hk ⊢;exact cG (by decide) hk
 rw[aD h]at hk ⊢;clear h;by_cases h:k=3
 ·rw[aF h]at hk ⊢;exact cG (by decide) hk
 rw[aD h]at hk ⊢;clear h;by_cases h:k=6
 ·rw[aF h]at hk ⊢;exact cG (by decide) hk
 rw[aD h]at hk ⊢;clear h;by_cases h:k=7
 ·rw[aF h]at hk ⊢;exact cG (by decide) hk
 rw[aD h]at hk ⊢;clear h;by_cases h:k=10
 ·rw[aF h]at hk ⊢;exact cG (by decide) hk
 rw[aD h]at hk ⊢;clear h;by_cases h:k=11
 ·rw[aF h]at hk ⊢;exact cG (by decide) hk
 rw[aD h]at hk ⊢;clear h;by_cases h:k=12
 ·rw[aF h]at hk ⊢;exact cG (by decide) hk
 rw[aD h]at hk ⊢;clear h;by_cases h:k=13
 ·rw[aF h]at hk ⊢;exact cG (by decide) hk
 rw[aD h]at hk ⊢;clear h;by_cases h:k=15
 ·rw[aF h]at hk ⊢;exact cG (by decide) hk
 rw[aD h]at hk ⊢;clear h;by_cases h:k=16
 ·rw[aF h]at hk ⊢;exact cG (by decide) hk
 rw[aD h]at hk ⊢;clear h;refine xA (by decide) ?_;simp only[dS];refine aC (λh=>?_) (λh=>?_)
 ·rw[aF (aB h)]at hk;exact jL (a:=82) (b:=112) hc ⟨_,rfl,hk⟩
 rw[aD (aA h)]at hk;clear h;refine aC (λh=>?_) (λh=>?_)
 ·rw[aF (aB h)]at hk;exact jL (a:=83) (b:=128) hc ⟨_,rfl,hk⟩
 rw[aD (aA h)]at hk;clear h;refine aC (λh=>?_) (λh=>?_)
 ·rw[aF (aB h)]at hk;exact jL (a:=84) (b:=113) hc ⟨_,rfl,hk⟩
 rw[aD (aA h)]at hk;clear h;refine aC (λh=>?_) (λh=>?_)
 ·rw[aF (aB h)]at hk;exact jL (a:=85) (b:=129) hc ⟨_,rfl,hk⟩
 rw[aD (aA h)]at hk;clear h;refine aC (λh=>?_) (λh=>?_)
 ·rw[aF (aB h)]at hk;exact hk
 rw[aD (aA h)]at hk;clear h;refine aC (λh=>?_) (λh=>?_)
 ·rw[aF (aB h)]at hk;exact hk
 rw[aD (aA h)]at hk;clear h;refine aC (λh=>?_) (λh=>?_)
 ·rw[aF (aB h)]at hk;exact jL (a:=160) (b:=176) hc ⟨_,rfl,hk⟩
 rw[aD (aA h)]at hk;clear h;refine aC (λh=>?_) (λh=>?_)
 ·rw[aF (aB h)]at hk;exact jL (a:=161) (b:=177) hc ⟨_,rfl,hk⟩
 rw[aD (aA h)]at hk;clear h;refine aC (λh=>?_) (λh=>?_)
 ·rw[aF (aB h)]at hk;exact jL (a:=163) (b:=179) hc ⟨_,rfl,hk⟩
 rw[aD (aA h)]at hk;clear h;refine aC (λh=>?_) (λh=>?_)
 ·rw[aF (aB h)]at hk;exact jL (a:=192) (b:=208) hc ⟨_,rfl,hk⟩
 rw[aD (aA h)]at hk;clear h;refine aC (λh=>?_) (λh=>?_)
 ·rw[aF (aB h)]at hk;exact jL (a:=193) (b:=209) hc ⟨_,rfl,hk⟩
 rw[aD (aA h)]at hk;clear h;exact jL (a:=224) (b:=240) hc ⟨_,rfl,hk⟩
theorem aI6{c:Nat}{w:World}{K:Value->World->Prop}(hk:K (.int .i64 (fJ c:Int)) w):bK Tryz.prog 216 [.int .u8 (c:Int)] w K:=by
 apply aDi;have e:Int.fdiv (c:Int) (2^4)=((c / 16:Nat):Int):=by
  rw[cJ _ (by decide)];have:(2:Int)^4=16:=by decide
  omega
 refine⟨by decide,?_⟩;rw[e];unfold fJ at hk;have en:∀j:Nat,(((c / 16:Nat):Int) == (j:Int))=decide (c / 16=j):=λj=>by rw[dS];exact decide_eq_decide.2 (by omega)
 rw[show(((c / 16:Nat):Int) == (5:Int))=decide (c / 16=5)from en 5,show(((c / 16:Nat):Int) == (6:Int))=decide (c / 16=6)from en 6,show(((c / 16:Nat):Int) == (7:Int))=decide (c / 16=7)from en 7,show(((c / 16:Nat):Int) == (8:Int))=decide (c / 16=8)from en 8];refine aC (λh=>?_) (λh=>?_)
 ·rw[aF (aB h)]at hk;exact hk
 rw[aD (aA h)]at hk;clear h;refine aC (λh=>?_) (λh=>?_)
 ·rw[aF (aB h)]at hk;exact hk
 rw[aD (aA h)]at hk;clear h;refine aC (λh=>?_) (λh=>?_)
 ·rw[aF (aB h)]at hk;exact hk
 rw[aD (aA h)]at hk;clear h;refine aC (λh=>?_) (λh=>?_)
 ·rw[aF (aB h)]at hk;exact hk
 rw[aD (aA h)]at hk;clear h;exact hk
theorem aJf{x:MV}(hl:x.l.length=x.s.n){p:Option Addr}{c:Nat}{bh:Bs}(hb:bh.length<=2^50){w:World}{K:Value->World->Prop}(hk:∀w',Ch (λ_=>False) w w'->K (.bool (jO x.l.length bh)) w'):bK Tryz.prog 159 [x.v,.slice p bh.length c] w K:=by
 obtain⟨k,n,t,s,e,l⟩:=x;have hl:l.length=s.n:=hl;apply aDk;refine oD (x:=.mk k n t s e l) λw1 b1 a1 c1 z1=>?_;have hk:K (.bool (jO l.length bh)) w1:=hk w1 c1;unfold jO at hk;simp only[add_at,aL];refine⟨s.p,s.n,s.c,aJ b1 3 rfl,?_⟩;rw[show decide ((s.n:Int)<=255)=decide (l.length<=255)from decide_eq_decide.2 (by omega),aW (n:=1+(bh.length:Int)),show decide (1+(bh.length:Int)<=255)=decide (1+bh.length<=255)from decide_eq_decide.2 (by omega)];refine aC (λh=>?_) (λh=>?_)
 ·rw[h,Bool.true_and]at hk;exact hk
 ·rw[h,Bool.false_and]at hk;exact hk
theorem w8(n:Nat):IntKind.wrap .u8 (n:Int)=((UInt8.ofNat n).toNat:Int):=by
 unfold IntKind.wrap;simp[IntKind.bits,IntKind.signed,UInt8.toNat_ofNat]
theorem yD{n k:Nat}{w:World}{K:Value->World->Prop}(hn:n<18446744073709551616)(h1:1<=k)(h8:k<=8)
 (hk:∀w',blk w' w.heap.size=some (aV (be k n))->Ch (λ_=>False) w w'->w'.heap.size=w.heap.size+1->K (.slice (some ⟨w.heap.size,0,none⟩) k k) w') :
 bK Tryz.prog 55 [.int .u64 (n:Int),.int .i64 (k:Int)] w K:=by
 refine aH1 ?_;refine⟨λw1=>w1=w,?_,aC (λ_=>aC (λh=>?_) λ_=>rfl) λh=>?_⟩
 rotate_left
 ·have:(k:Int)>8:=by simpa using h
  omega
 ·have:(k:Int)<1:=by simpa using h
  omega
 rintro w1 rfl;obtain⟨w2,hm,hb2,hc2,hz2⟩:=tH (w:=w1) k k (aQ _) (by omega);refine⟨_,_,_,w2,hm,?_⟩;rw[aW,nameI_iff];refine⟨λm n' i w'=>Ch (λ_=>False) w1 w'/\w'.heap.size=w1.heap.size+1/\m<=k/\i=(m:Int)-1/\n'=((n / 256^(k-m):Nat):Int)/\blk w' w1.heap.size=some (aV (List.replicate m 0++be (k-m) n)),
  ⟨k,hc2,hz2,aQ _,rfl,by simp,by rw[Nat.sub_self];simpa[be]using hb2⟩,?_⟩
 rintro m n' i w3 ⟨hc3,hz3,hmk,rfl,rfl,hb3⟩;refine aC (λhge=>?_) λhlt=>?_
 ·have hge':0<=(m:Int)-1:=by simpa using hge
  obtain⟨j,rfl⟩:∃j,m=j+1:=⟨m-1,by omega⟩;have ej:((j+1:Nat):Int)-1=(j:Int):=by omega
  rw[ej];refine⟨by omega,by omega,?_⟩;simp only[nn_some,add_at,aM,Nat.mul_one,aL,cO];refine eK hb3 (by simp[aV];omega) λw4 hb4 hc4 hz4=>⟨by omega,?_⟩;have ed:Int.fdiv ((n / 256^(k-(j+1)):Nat):Int) (2^8)=((n / 256^(k-j):Nat):Int):=by
   rw[cJ _ (by decide),show k-j=(k-(j+1))+1 by omega,Nat.pow_succ,<-Nat.div_div_eq_div_mul];omega
  rw[ed,nameI_iff,aW,nameI_iff];refine⟨j,by omega,hc3.trans hc4 λx hx e=>by subst e;omega,by omega,by omega,rfl,rfl,?_⟩;rw[hb4,w8];congr 1;have ek:k-j=(k-(j+1))+1:=by omega
  have e2:be (k-j) n=UInt8.ofNat (n / 256^(k-(j+1)))::be (k-(j+1)) n:=by rw[ek];rfl
  rw[e2];have e3:Value.int .u8 ((UInt8.ofNat (n / 256^(k-(j+1)))).toNat:Int)=(λb:UInt8=>Value.int .u8 (b.toNat:Int)) (UInt8.ofNat (n / 256^(k-(j+1)))):=rfl;unfold aV;rw[e3,<-List.map_set];congr 1;rw[List.replicate_succ',aP,List.set_append_right _ _ (by simp)];simp
 ·have:¬(0:Int)<=(m:Int)-1:=by simpa using hlt
  obtain rfl:m=0:=by omega
  refine hk w3 ?_ hc3 hz3;simpa using hb3
theorem aX0{ty:TypeId}{w:World}{p q:Option Addr}{n c m c2:Nat}{own:Option Nat}{l bs:Bs}(ho:Ow w p n c 1 (aV l) own)(hr:Rd w q m 1 (aV bs))(h:n+m<=2^46){K:Option Addr->Nat->Nat->World->Prop}
 (hk:∀p' c' own' w',Ow w' p' (n+m) c' 1 (aV (l++bs)) own'->(∀k,own'=some k->own=some k\/w.heap.size<=k)->Ch (λk=>own=some k) w w'->K p' (n+m) c' w') :
 ∃p' n' c' w',Sem.run Tryz.prog (Builtin.append_ (Array.mk [22,22]) ty (Array.mk [.slice p n c,.slice q m c2])) w=.ok (.slice p' n' c') w'/\K p' n' c' w':=by
 obtain⟨p',c',w',own',h1,h2,h3,h4,_⟩:=uQ (ty:=ty) (c2:=c2) Tryz.underlying22 Tryz.underlying22 aDp rfl ho hr (wP bs) (by omega) (by omega);refine⟨p',_,c',w',h1,hk p' c' own' w' (by rw[eM];exact h2) (λk hk=>(h3 k hk).imp id λh=>by omega) h4⟩
theorem aXz{ty:TypeId}{w:World}{p:Option Addr}{n c:Nat}{own:Option Nat}{l t:Bs}(ho:Ow w p n c 1 (aV l) own)(h:n+t.length<=2^46){K:Option Addr->Nat->Nat->World->Prop}
 (hk:∀p' c' own' w',Ow w' p' (n+t.length) c' 1 (aV (l++t)) own'->(∀k,own'=some k->own=some k\/w.heap.size<=k)->Ch (λk=>own=some k) w w'->K p' (n+t.length) c' w') :
 ∃p' n' c' w',Sem.run Tryz.prog (Builtin.append_ (Array.mk [22,9]) ty (Array.mk [.slice p n c,.string ⟨t.toArray⟩])) w=.ok (.slice p' n' c') w'/\K p' n' c' w':=by
 obtain⟨inf,hi,h1,h2,hz⟩:=aDp;have hs:Src Tryz.prog inf.size 9 (.string ⟨t.toArray⟩) t.length (aV t) w:=by
  have:=Src.ofString (P:=Tryz.prog) (w:=w) (tx:=9) (by kernel_rfl) ⟨t.toArray⟩;rw[h1];rw[lW]at this;have e:byteCells ⟨t.toArray⟩=aV t:=by unfold byteCells aV;rw[cT]
  rw[e]at this;exact this
 obtain⟨p',c',w',own',g1,g2,g3⟩:=rR (ty:=ty) Tryz.underlying22 hi hz (by rw[h1];rfl) (by rw[h1];exact ho) hs (by omega) (by rw[h2];omega);rw[h1,<-eM]at g2;refine⟨p',_,c',w',g1,?_⟩;rcases g3 with⟨_,q1,_,_,q2,_⟩|⟨_,q1,_,q2,_⟩
 ·exact hk p' c' own' w' g2 (λk hk=>.inl (by rw[<-q1];exact hk)) q2
 ·exact hk p' c' own' w' g2 (λk hk=>.inr (by rw[q1]at hk;cases hk;omega)) (q2.mono λ_ _ h=>h.elim)
theorem jQ{w:World}{b n:Nat}{cs:List Value}(h:blk w b=some cs)(hl:cs.length=n):Rd w (some ⟨b,0,none⟩) n 1 cs :=
 ⟨by omega,.inr ⟨b,0,cs,rfl,gX h,by omega,by rw[bS,aY (by omega)]⟩⟩
structure Gw(w0 w:World)(p:Option Addr)(n c:Nat)(own own0:Option Nat)(l:Bs):Prop where
 ow:Ow w p n c 1 (aV l) own
 len:l.length=n
 new:∀k,own=some k->own0=some k\/w0.heap.size<=k
 ch:Ch (λk=>own0=some k) w0 w
theorem Gw.refl{w:World}{p:Option Addr}{n c:Nat}{own:Option Nat}{l:Bs}(h:Ow w p n c 1 (aV l) own):Gw w w p n c own own l :=
 ⟨h,by have:=h.1;simpa using this,λk hk=>.inl hk,Ch.refl _ _⟩
theorem Gw.quiet{w0 w w':World}{p:Option Addr}{n c:Nat}{own own0:Option Nat}{l:Bs}(h:Gw w0 w p n c own own0 l)(hc:Ch (λ_=>False) w w'):Gw w0 w' p n c own own0 l :=
 ⟨h.ow.ch hc λ_ _=>id,h.len,h.new,h.ch.new hc⟩
theorem Gw.step{w0 w w':World}{p p':Option Addr}{n n' c c':Nat}{own own' own0:Option Nat}{l l':Bs}(h:Gw w0 w p n c own own0 l)(ho:Ow w' p' n' c' 1 (aV l') own')(hn:∀k,own'=some k->own=some k\/w.heap.size<=k)(hc:Ch (λk=>own=some k) w w'):Gw w0 w' p' n' c' own' own0 l':=by
 have hz:=h.ch.size;refine⟨ho,by have:=ho.1;simpa using this,λk hk=>?_,h.ch.trans hc λx hx hk=>?_⟩
 ·rcases hn k hk with h1|h1
  ·exact h.new k h1
  ·exact .inr (by omega)
 ·rcases h.new x hk with h1|h1
  ·exact h1
  ·omega
theorem Gw.blk{w0 w:World}{p:Option Addr}{n c:Nat}{own own0:Option Nat}{l:Bs}(h:Gw w0 w p n c own own0 l){b:Nat}{cs:List Value}(hb:blk w0 b=some cs)(hne:own0≠some b):Go.Sv.blk w b=some cs:=(h.ch.blk (aH hb) hne).trans hb
theorem Gw.trans{w0 w w':World}{p p':Option Addr}{n n' c c':Nat}{own own' own0:Option Nat}{l l':Bs}(h:Gw w0 w p n c own own0 l)(h':Gw w w' p' n' c' own' own l'):Gw w0 w' p' n' c' own' own0 l' :=
 h.step h'.ow h'.new h'.ch
theorem Gw.app{ty:TypeId}{w0 w:World}{p q:Option Addr}{n c m c2:Nat}{own own0:Option Nat}{l bs:Bs}(h:Gw w0 w p n c own own0 l)(hr:Rd w q m 1 (aV bs))(hs:n+m<=2^46){K:Option Addr->Nat->Nat->World->Prop}
 (hk:∀p' c' own' w',Gw w0 w' p' (n+m) c' own' own0 (l++bs)->K p' (n+m) c' w') :
 ∃p' n' c' w',Sem.run Tryz.prog (Builtin.append_ (Array.mk [22,22]) ty (Array.mk [.slice p n c,.slice q m c2])) w=.ok (.slice p' n' c') w'/\K p' n' c' w' :=
 aX0 h.ow hr hs λp' c' own' w' ho hn hc=>hk p' c' own' w' (h.step ho hn hc)
theorem Gw.str{ty:TypeId}{w0 w:World}{p:Option Addr}{n c:Nat}{own own0:Option Nat}{l t:Bs}(h:Gw w0 w p n c own own0 l)(hs:n+t.length<=2^46){K:Option Addr->Nat->Nat->World->Prop}
 (hk:∀p' c' own' w',Gw w0 w' p' (n+t.length) c' own' own0 (l++t)->K p' (n+t.length) c' w') :
 ∃p' n' c' w',Sem.run Tryz.prog (Builtin.append_ (Array.mk [22,9]) ty (Array.mk [.slice p n c,.string ⟨t.toArray⟩])) w=.ok (.slice p' n' c') w'/\K p' n' c' w' :=
 aXz h.ow hs λp' c' own' w' ho hn hc=>hk p' c' own' w' (h.step ho hn hc)
theorem Gw.put{ty:TypeId}{w0 w:World}{p:Option Addr}{n c m k:Nat}{own own0:Option Nat}{l:Bs}(h:Gw w0 w p n c own own0 l)(hm:m<18446744073709551616)(h1:1<=k)(h8:k<=8)(hs:n+k<=2^46){K:Option Addr->Nat->Nat->World->Prop}
 (hk:∀p' c' own' w',Gw w0 w' p' (n+k) c' own' own0 (l++be k m)->K p' (n+k) c' w') :
 bK Tryz.prog 55 [.int .u64 (m:Int),.int .i64 (k:Int)] w λv w3=>∃p1 n1 c1,v=.slice p1 n1 c1/\∃p' n' c' w',Sem.run Tryz.prog (Builtin.append_ (Array.mk [22,22]) ty (Array.mk [.slice p n c,.slice p1 n1 c1])) w3=.ok (.slice p' n' c') w'/\K p' n' c' w' :=
 yD hm h1 h8 λw3 b3 c3 z3=>⟨_,_,_,rfl,(h.quiet c3).app (jQ b3 (by rw[bytesV_length,eL])) hs hk⟩
theorem aIv{x:MV}(hn:x.n<18446744073709551616)(hl:x.l.length=x.s.n)(hls:x.s.n<=2^40)(ht:x.t.length<=2^40){c:Nat}{bh:Bs}(hb:bh.length<=2^44)(hnum:¬(c=0x94\/c=0x98)->fL c=false->¬(eE c=true\/gA c=true)->fJ c<=8)
 {w0 w:World} {p pb:Option Addr} {n cc cb:Nat} {own own0:Option Nat} {l0:Bs} (g:Gw w0 w p n cc own own0 l0) (hr:Rd w pb bh.length 1 (aV bh)) (hq:∀a,pb=some a->bh.length*1≠0->own≠some a.block) (hsz:n<=2^45) {K:Value->World->Prop}
 (hk:∀p' n' c' own' w',Gw w0 w' p' n' c' own' own0 (l0++dZ c x.n x.t x.l.length bh)->K (.slice p' n' c') w') :
 bK Tryz.prog 160 [.slice p n cc,.int .u8 (c:Int),x.v,.slice pb bh.length cb] w K:=by
 obtain⟨k,m,t,s,e,l⟩:=x;have hn:m<18446744073709551616:=hn;have hl:l.length=s.n:=hl;have hls:s.n<=2^40:=hls;have ht:t.length<=2^40:=ht;have hk:∀p' n' c' own' w',Gw w0 w' p' n' c' own' own0 (l0++dZ c m t l.length bh)->K (.slice p' n' c') w':=hk;apply aFq;refine oD (x:=.mk k m t s e l) λw1 b1 a1 c1 z1=>?_;have g1:=g.quiet c1;have h1:Gw w1 w1 p n cc own own l0:=Gw.refl g1.ow;have hr1:=hr.ch c1 λ_ _ _=>id;have hne:own≠some w.heap.size:=λh=>by have:=g.ow.blt _ h;omega
 have fin:∀ {p':Option Addr} {n' c':Nat} {own':Option Nat} {w':World} {l':Bs},Gw w1 w' p' n' c' own' own (l0++l')->dZ c m t l.length bh=l'->K (.slice p' n' c') w':=λh he=>hk _ _ _ _ _ (by rw[he];exact g1.trans h);simp only[add_at,aL,dS];have ec:∀j:Nat,decide ((c:Int)=(j:Int))=decide (c=j):=λj=>decide_eq_decide.2 (by omega);have e148:decide ((c:Int)=148)=decide (c=148):=ec 148;have e152:decide ((c:Int)=152)=decide (c=152):=ec 152;have e160:decide ((c:Int)=160)=decide (c=160):=ec 160;have e161:decide ((c:Int)=161)=decide (c=161):=ec 161;have e163:decide ((c:Int)=163)=decide (c=163):=ec 163;have e176:decide ((c:Int)=176)=decide (c=176):=ec 176;have e177:decide ((c:Int)=177)=decide (c=177):=ec 177;have e179:decide ((c:Int)=179)=decide (c=179):=ec 179;have e192:decide ((c:Int)=192)=decide (c=192):=ec 192;have e193:decide ((c:Int)=193)=decide (c=193):=ec 193;have e224:decide ((c:Int)=224)=decide (c=224):=ec 224;have e208:decide ((c:Int)=208)=decide (c=208):=ec 208;have e209:decide ((c:Int)=209)=decide (c=209):=ec 209;have e240:decide ((c:Int)=240)=decide (c=240):=ec 240
 -- spans
 refine⟨λp1 n1 c1' wd w2=>p1=p/\n1=n/\c1'=cc/\w2=w1/\∃wn:Nat,wd=(wn:Int)/\(wn=1\/wn=4)/\dZ c m t l.length bh=be wn (wn+bh.length)++(be wn l.length++bh),?_,?_⟩
 ·rintro p1 n1 c1' wd w2 ⟨rfl,rfl,rfl,rfl,wn,rfl,hwn,hd⟩;rw[aW (n:=(wn:Int)+(bh.length:Int)),w64 (n:=(wn:Int)+(bh.length:Int)) (by omega) (by omega),show(wn:Int)+(bh.length:Int)=((wn+bh.length:Nat):Int) by omega];refine h1.put (by omega) (by omega) (by omega) (by omega) λp3 c3 own3 w3 g3=>?_;refine⟨s.p,s.n,s.c,aJ (g3.blk b1 hne) 3 rfl,?_⟩;rw[w64 (n:=(s.n:Int)) (by omega) (by omega)];refine g3.put (by omega) (by omega) (by omega) (by omega) λp4 c4 own4 w4 g4=>?_;refine g4.app (hr1.ch g4.ch λa ha h0=>hq a ha h0) (by omega) λp5 c5 own5 w5 g5=>?_;refine fin (own':=own5) (l':=be wn (wn+bh.length)++(be wn l.length++bh)) ?_ hd;rw[hl,<-aP,<-aP];exact g5
 -- texts
 refine⟨λwd w2=>w2=w1/\∃wn:Nat,wd=(wn:Int)/\(wn=1\/wn=4)/\dZ c m t l.length bh=be wn t.length++t,?_,?_⟩
 ·rintro wd w2 ⟨rfl,wn,rfl,hwn,hd⟩;refine⟨⟨t.toArray⟩,aJ b1 2 rfl,?_⟩;rw[lW,w64 (n:=(t.length:Int)) (by omega) (by omega)];refine h1.put (by omega) (by omega) (by omega) (by omega) λp3 c3 own3 w3 g3=>?_;refine⟨⟨t.toArray⟩,aJ (g3.blk b1 hne) 2 rfl,?_⟩;refine g3.str (by omega) λp4 c4 own4 w4 g4=>?_;refine fin (own':=own4) (l':=be wn t.length++t) ?_ hd;rw[<-aP];exact g4
 refine⟨λb w2=>b=decide (c=148\/c=152)/\w2=w1,?_,by rw[e148,e152];exact mC _⟩;rintro b w2 ⟨rfl,rfl⟩;refine aC (λh=>⟨⟨t.toArray⟩,aJ b1 2 rfl,?_⟩) (λh=>?_)
 ·have h:=aB h;exact h1.str (by omega) λp4 c4 own4 w4 g4=>fin g4 (by unfold dZ;rw[aF h])
 have q1:=aA h;clear h;refine⟨λb w3=>b=decide (c=160\/c=161\/c=163)/\w3=w2,?_,by rw[e160,e161,e163];exact jC _⟩;rintro b w3 ⟨rfl,rfl⟩;refine aC (λh=>?_) (λh=>?_)
 ·have h:=aB h;refine⟨rfl,1,rfl,.inl rfl,?_⟩;unfold dZ;have:fL c=true/\bE c=1:=by rcases h with rfl|rfl|rfl<;>exact⟨rfl,rfl⟩
  rw[aD q1,aF this.1,this.2]
 have q2:=aA h;clear h;refine⟨λb w4=>b=decide (c=176\/c=177\/c=179)/\w4=w3,?_,by rw[e176,e177,e179];exact jC _⟩;rintro b w4 ⟨rfl,rfl⟩;refine aC (λh=>?_) (λh=>?_)
 ·have h:=aB h;refine⟨rfl,4,rfl,.inr rfl,?_⟩;unfold dZ;have:fL c=true/\bE c=4:=by rcases h with rfl|rfl|rfl<;>exact⟨rfl,rfl⟩
  rw[aD q1,aF this.1,this.2]
 have q3:=aA h;clear h;have ntx:fL c=false:=by
  unfold fL;simp only[Bool.or_eq_false_iff,gC];refine⟨⟨⟨⟨⟨?_,?_⟩,?_⟩,?_⟩,?_⟩,?_⟩<;>omega
 refine⟨λb w5=>b=decide (c=192\/c=193\/c=224)/\w5=w4,?_,by rw[e192,e193,e224];exact jC _⟩;rintro b w5 ⟨rfl,rfl⟩;refine aC (λh=>?_) (λh=>?_)
 ·have h:=aB h;refine⟨rfl,rfl,rfl,rfl,1,rfl,.inl rfl,?_⟩;unfold dZ;have:(eE c=true\/gA c=true)/\bE c=1:=by
   rcases h with rfl|rfl|rfl
   ·exact⟨.inl rfl,rfl⟩
   ·exact⟨.inl rfl,rfl⟩
   ·exact⟨.inr rfl,rfl⟩
  rw[aD q1,aD (by rw[ntx];decide),aF this.1,this.2]
 have q4:=aA h;clear h;refine⟨λb w6=>b=decide (c=208\/c=209\/c=240)/\w6=w5,?_,by rw[e208,e209,e240];exact jC _⟩;rintro b w6 ⟨rfl,rfl⟩;refine aC (λh=>?_) (λh=>?_)
 ·have h:=aB h;refine⟨rfl,rfl,rfl,rfl,4,rfl,.inr rfl,?_⟩;unfold dZ;have:(eE c=true\/gA c=true)/\bE c=4:=by
   rcases h with rfl|rfl|rfl
   ·exact⟨.inl rfl,rfl⟩
   ·exact⟨.inl rfl,rfl⟩
   ·exact⟨.inr rfl,rfl⟩
  rw[aD q1,aD (by rw[ntx];decide),aF this.1,this.2]
 have q5:=aA h;clear h;have nsp:¬(eE c=true\/gA c=true):=by
  unfold eE gA;simp only[Bool.or_eq_true,bA];omega
 have hw8:=hnum q1 ntx nsp;have hw1:1<=fJ c:=by
  unfold fJ
  repeat' split
  all_goals omega
 have cd:Ch (λ_=>False) w6 w6.drew:=Ch.d0;have bd:=(cd.blk (aH b1) id).trans b1;refine⟨_,aJ bd 1 rfl,?_⟩;refine aI6 ⟨_,rfl,⟨_,aJ bd 1 rfl,rfl⟩,?_⟩;refine(h1.quiet cd).put hn hw1 hw8 (by omega) λp3 c3 own3 w3 g3=>?_;exact fin g3 (by unfold dZ;rw[aD q1,aD (by rw[ntx];decide),aD nsp])
theorem eq5{w:World}{b:Nat}{x:MV}(h:blk w b=some x.g):∃n,w.cell? ⟨b,0,none⟩=some (.int .i64 n)/\∃n1,w.cell? ⟨b,1,none⟩=some (.int .u64 n1)/\∃s,w.cell? ⟨b,2,none⟩=some (.string s)/\∃p n2 c,w.cell? ⟨b,3,none⟩=some (.slice p n2 c)/\∃n3,w.cell? ⟨b,4,none⟩=some (.int .i64 n3) /\
 Value.agg (Array.mk [.int .i64 n,.int .u64 n1,.string s,.slice p n2 c,.int .i64 n3])=.agg (Array.mk [.int .i64 x.k,.int .u64 (x.n:Int),.string ⟨x.t.toArray⟩,.slice x.s.p x.s.n x.s.c,.int .i64 x.e]):=by
 cases x;exact⟨_,aJ h 0 rfl,_,aJ h 1 rfl,_,aJ h 2 rfl,_,_,_,aJ h 3 rfl,_,aJ h 4 rfl,rfl⟩
theorem aBp{w:World}{b o:Nat}{x:MV}(h:At w b o x):∃n,w.cell? ⟨b,o+0,none⟩=some (.int .i64 n)/\∃n1,w.cell? ⟨b,o+1,none⟩=some (.int .u64 n1)/\∃s,w.cell? ⟨b,o+2,none⟩=some (.string s)/\∃p n2 c,w.cell? ⟨b,o+3,none⟩=some (.slice p n2 c)/\∃n3,w.cell? ⟨b,o+4,none⟩=some (.int .i64 n3) /\
 Value.agg (Array.mk [.int .i64 n,.int .u64 n1,.string s,.slice p n2 c,.int .i64 n3])=.agg (Array.mk [.int .i64 x.k,.int .u64 (x.n:Int),.string ⟨x.t.toArray⟩,.slice x.s.p x.s.n x.s.c,.int .i64 x.e]) :=
 rd5 h rfl
theorem byV{c:Nat}(h:c<256):aV [UInt8.ofNat c]=[.int .u8 (c:Int)]:=by
 unfold aV;simp only[List.map_cons,List.map_nil];congr 2;rw[UInt8.toNat_ofNat'];omega
theorem Gw.byte{ty te:TypeId}{w0 w:World}{p:Option Addr}{n c b:Nat}{own own0:Option Nat}{l:Bs}(h:Gw w0 w p n c own own0 l)(hb:b<256)(hs:n+1<=2^46){K:Option Addr->Nat->Nat->World->Prop}
 (hk:∀p' c' own' w',Gw w0 w' p' (n+1) c' own' own0 (l++[UInt8.ofNat b])->K p' (n+1) c' w') :
 bP w [.int .u8 (b:Int)] te λa w3=>∃p' n' c' w',Sem.run Tryz.prog (Builtin.append_ (Array.mk [22,22]) ty (Array.mk [.slice p n c,.slice (some a) 1 1])) w3=.ok (.slice p' n' c') w'/\K p' n' c' w':=by
 refine bD λw3 b3 c3 z3=>?_;rw[<-byV hb]at b3;exact(h.quiet c3).app (jQ b3 rfl) hs hk
theorem Gq.le{x y:M}(h:Gq x)(hy:y∈x.l):Gq y:=by
 obtain⟨k,n,t,e,l⟩:=x;exact h.fx.all y hy
theorem zS{x:M}(h:Gq x):(gV x).length<=2^31/\x.n<18446744073709551616/\x.t.length<=2^26/\x.l.length<=2^26:=by
 have h1:=(aIs x).1;have h2:=h.sz;obtain⟨k,n,t,e,l⟩:=x;have f:=h.fx;exact⟨by omega,f.n64,f.tsz,f.lsz⟩
def aOv(x:MV):Prop:=∀ {Q:Nat->Prop} {w0 w:World} {p:Option Addr} {n c:Nat} {own own0:Option Nat} {l0:Bs} {K:Value->World->Prop},VR Q w x->Gq x.m->Gw w0 w p n c own own0 l0->(∀b,Q b->own≠some b)->n+(gV x.m).length<=2^44 ->
 (∀p' n' c' own' w',Gw w0 w' p' n' c' own' own0 (l0++gV x.m)->K (.slice p' n' c') w')->bK Tryz.prog 109 [.slice p n c,x.v] w K
def aLt(x:MV):Prop:=∀ {Q:Nat->Prop} {w:World} {K:Value->World->Prop},VR Q w x->Gq x.m->21<=x.k->x.k<=23 ->
 (∀p' n' c' own' w',Gw w w' p' n' c' own' none (eG x.m)->K (.slice p' n' c') w')->bK Tryz.prog 157 [x.v] w K
theorem aDv(l:List MV):(l.map MV.m).length=l.length:=eI ..
theorem aR6{k:Int}{n:Nat}{t:Bs}{e:Int}{l:List M}{c:Nat}(h:kD k n l.length=some c):gV (.mk k n t e l)=[UInt8.ofNat c]/\c<256:=by
 rw[aB0];unfold kD at h;unfold aG1;split at h
 ·rename_i q;rw[aF q];cases h;exact⟨rfl,by decide⟩
 rename_i q;rw[aD q];split at h
 ·rename_i q;rw[aF q];cases h;exact⟨rfl,by decide⟩
 rename_i q;rw[aD q];split at h
 ·rename_i q;rw[aF q];cases h;exact⟨rfl,by decide⟩
 rename_i q;rw[aD q];split at h
 ·rename_i q;rw[aF q];cases h;exact⟨rfl,by decide⟩
 rename_i q;rw[aD q];split at h
 ·rename_i q;rw[aF q];cases h;exact⟨rfl,by decide⟩
 rename_i q;rw[aD q];split at h
 ·rename_i q;rw[aF q];cases h;exact⟨rfl,by decide⟩
 ·cases h
theorem aRy{k:Int}{n:Nat}{t:Bs}{e:Int}{l:List M}(h:kD k n l.length=none):gV (.mk k n t e l)=(if k=24 then 0::l.flatMap gV
 else if k=21\/k=22\/k=23 then UInt8.ofNat (cC k (jO l.length (eG (.mk k n t e l))))::dZ (cC k (jO l.length (eG (.mk k n t e l)))) n t l.length (eG (.mk k n t e l))
 else UInt8.ofNat (cC k (fH k n t))::dZ (cC k (fH k n t)) n t l.length [])/\k≠0:=by
 rw[aB0,oK];unfold kD at h;unfold aG1;split at h
 ·cases h
 rename_i q;rw[aD q];have k0:=q;split at h
 ·cases h
 rename_i q;rw[aD q];split at h
 ·cases h
 rename_i q;rw[aD q];split at h
 ·cases h
 rename_i q;rw[aD q];split at h
 ·cases h
 rename_i q;rw[aD q];split at h
 ·cases h
 rename_i q;rw[aD q];exact⟨rfl,k0⟩
theorem aId{k:Int}(hk:1<=k/\k<24)(s:Bool):¬(cC k s=0x94\/cC k s=0x98)->fL (cC k s)=false->¬(eE (cC k s)=true\/gA (cC k s)=true)->fJ (cC k s)<=8:=by
 have key:∀(j:Fin 24) (s:Bool),1<=j.val->(cC (j.val:Int) s=0x94\/cC (j.val:Int) s=0x98)\/fL (cC (j.val:Int) s)=true\/(eE (cC (j.val:Int) s)=true\/gA (cC (j.val:Int) s)=true)\/fJ (cC (j.val:Int) s)<=8:=by decide +kernel
 have:=key ⟨k.toNat,by omega⟩ s (by show 1<=k.toNat;omega);rw[show((⟨k.toNat,by omega⟩:Fin 24).val:Int)=k by show((k.toNat:Nat):Int)=k;omega]at this;intro h1 h2 h3;rcases this with h|h|h|h
 ·exact absurd h h1
 ·rw[h2]at h;cases h
 ·exact absurd h h3
 ·exact h
theorem aWi{k:Int}{m:Nat}{t:Bs}{s:SL}{e:Int}{l:List MV}(ih:∀x∈l,aOv x)(hI:aLt (.mk k m t s e l)):aOv (.mk k m t s e l):=by
 intro Q w0 w p n c own own0 l0 K hx hq g hno hn hk;have hx:=VR.lt _ hx;have hlen:=zS hq;rw[MV.m_mk]at hq hk hlen hn;have F:=hq.fx;obtain⟨hl,hs46,hrd,hpb,hall⟩:=hx.inv;have hl:l.length=s.n:=hl;have hlm:(l.map MV.m).length=s.n:=by rw[aDv,hl]
 have hm64:m<18446744073709551616:=F.n64;have htl:=F.tsz;have hll:=F.lsz;rw[hlm]at hll;apply aIa;refine oD (x:=.mk k m t s e l) λw1 b1 a1 c1 z1=>?_;simp only[add_at,aL];refine rF b1 ?_;rw[vv];refine aUz (x:=.mk k m t s e l) hl λw2 c2=>⟨_,_,rfl,?_⟩;have b2:=(c2.blk (aH b1) id).trans b1;have g2:=(g.quiet c1).quiet c2;rw[show kD (MV.mk k m t s e l).k (MV.mk k m t s e l).n (MV.mk k m t s e l).l.length=kD k m (l.map MV.m).length by rw[aDv];rfl];cases hlo:kD k m (l.map MV.m).length with
 | some j =>
  have:=aR6 (t:=t) (e:=e) hlo;refine iH ?_;show bP w2 [.int .u8 (j:Int)] _ _;refine g2.byte this.2 (by omega) λp' c' own' w' g'=>hk p' _ c' own' w' (by rw[this.1];exact g')
 | none =>
  obtain⟨he,hk0⟩:=aRy (t:=t) (e:=e) hlo;rw[he]at hk hn;refine dJ ?_;refine⟨k,aJ b2 0 rfl,?_⟩;simp only[dS];have hx2:=(hx.ch0 c1).ch0 c2;have hz1:=c1.size;have hz2:=c2.size;have hbox:w.heap.size<w2.heap.size:=aH b2;have hneb:own≠some w.heap.size:=λh=>by have:=g.ow.blt _ h;omega
  refine aC (λh24=>?_) (λh24=>?_)
  ·-- two parts
   have h24:=aB h24;rw[aF h24]at hk hn;have h2:=F.two h24;rw[aDv]at h2;obtain⟨y0,y1,rfl⟩:∃y0 y1,l=[y0,y1]:=by
    match l,h2 with
    | [y0,y1],_=>exact⟨y0,y1,rfl⟩
   have cd:Ch (λ_=>False) w2 w2.drew:=Ch.d0;have bd:=(cd.blk (aH b2) id).trans b2;have hxd:=hx2.ch0 cd;obtain⟨bb,o,hp,hQ,ha0⟩:=hxd.at (i:=0) (y:=y0) rfl;obtain⟨bb',o',hp',_,ha1⟩:=hxd.at (i:=1) (y:=y1) rfl;have hpe:s.p=some ⟨bb,o,none⟩:=hp;have hp'':s.p=some ⟨bb',o',none⟩:=hp';rw[hpe]at hp'';cases hp'';have ha0:At w2.drew bb o y0:=by simpa using ha0
   have ha1:At w2.drew bb (o+5) y1:=by simpa using ha1
   have hsn:s.n=2:=by simpa using hl.symm
   have hn:n+(1+(gV y0.m).length+(gV y1.m).length)<=2^44:=by simp at hn;omega
   have hnbb:own≠some bb:=hno bb hQ.1;refine⟨s.p,s.n,s.c,aJ bd 3 rfl,by decide,by omega,?_⟩;rw[hpe];simp only[nn_some,add_at];refine rd5 ha0 ?_;refine⟨some ⟨bb,o,none⟩,s.n,s.c,by rw[<-hpe];exact aJ bd 3 rfl,by decide,by omega,?_⟩;simp only[nn_some,add_at];refine rd5 ha1 ?_;have gd:=g2.quiet cd;have hB:Gw w2.drew w2.drew p n c own own l0:=Gw.refl gd.ow;refine bD λw3 b3 c3 z3=>?_;have b3:blk w3 w2.drew.heap.size=some (aV [UInt8.ofNat 0]):=b3;have bx3:=(c3.blk (aH bd) id).trans bd;have h30:=ha0.ch c3 id;have h31:=ha1.ch c3 id;refine⟨aBp h31,⟨_,_,_,aJ bx3 3 rfl,by rw[<-hpe]⟩,aBp h30,⟨_,_,_,aJ bx3 3 rfl,by rw[<-hpe]⟩,?_⟩;refine(hB.quiet c3).app (jQ (n:=1) b3 rfl) (by omega) λp4 c4 own4 w4 g4=>?_;have bx4:=g4.blk bd hneb;have keep:∀ {w':World} {p':Option Addr} {n' c':Nat} {own':Option Nat} {l':Bs},Gw w2.drew w' p' n' c' own' own l'->At w' bb o y0/\At w' bb (o+5) y1/\VR (λb=>Q b/\b<w.heap.size) w' y0/\VR (λb=>Q b/\b<w.heap.size) w' y1/\∀b,(Q b/\b<w.heap.size)->own'≠some b:=λh =>
    ⟨ha0.ch h.ch hnbb,ha1.ch h.ch hnbb,VR.ch h.ch (λb hb=>hno b hb.1) y0 (hxd.inv.2.2.2.2 y0 (by simp[MV.l])),VR.ch h.ch (λb hb=>hno b hb.1) y1 (hxd.inv.2.2.2.2 y1 (by simp[MV.l])),λb hb he=>by
     rcases h.new b he with h1|h1
     ·exact hno b hb.1 h1
     ·have:w2.drew.heap.size=w2.heap.size:=rfl;omega⟩
   obtain⟨k40,k41,v40,v41,n4⟩:=keep g4;refine⟨aBp k41,⟨_,_,_,aJ bx4 3 rfl,by rw[<-hpe]⟩,aBp k40,⟨_,_,_,aJ bx4 3 rfl,by rw[<-hpe]⟩,?_⟩;rw[vv];have q0:=F.all y0.m (by simp);have q1:=F.all y1.m (by simp);have hl0:=zS q0;refine ih y0 (by simp) v40 q0 g4 n4 (by omega) λp5 n5 c5 own5 w5 g5=>⟨_,_,_,rfl,?_⟩;obtain⟨k50,k51,v50,v51,n5'⟩:=keep g5;have bx5:=g5.blk bd hneb;refine⟨aBp k51,⟨_,_,_,aJ bx5 3 rfl,by rw[<-hpe]⟩,?_⟩;rw[vv];have hlen5:=g5.len;have hlen4:=g4.len;simp only[aG,dQ]at hlen5 hlen4;refine ih y1 (by simp) v51 q1 g5 n5' (by omega) λp6 n6 c6 own6 w6 g6=>⟨_,_,_,rfl,?_⟩;refine hk p6 n6 c6 own6 w6 ?_;have:=gd.trans g6;simpa[aP]using this
  ·have h24:=aA h24;rw[aD h24]at hk hn;have k0:=F.k0;have k1:=F.k1;have hkr:1<=k/\k<24:=by omega
   have cB:∀ {w':World} {p':Option Addr} {n' c':Nat} {o':Option Nat} {l':Bs},Gw w2 w' p' n' c' o' none l'->Ch (λ_=>False) w2 w':=λh=>h.ch.mono λ_ _ h=>by cases h
   refine⟨λb w3=>b=decide (k=21\/k=22\/k=23)/\w3=w2,?_,jC _⟩;rintro b w3 ⟨rfl,rfl⟩;refine aC (λhs=>?_) (λhs=>?_)
   ·-- a span
    have hs:=aB hs;rw[aF hs]at hk hn;refine rF b2 ?_;rw[vv];refine hI hx2 (by rw[MV.m_mk];exact hq) (by show 21<=k;omega) (by show k<=23;omega) λp2 n10 c2' o2 w4 gi=>⟨_,_,_,rfl,?_⟩;rw[MV.m_mk]at gi;obtain⟨bh,hbh⟩:∃bh,bh=eG (.mk k m t e (l.map MV.m)):=⟨_,rfl⟩;rw[<-hbh]at gi hk hn;have hnl:=gi.len;subst hnl;have ci:=cB gi;have cd:Ch (λ_=>False) w4 w4.drew:=Ch.d0;have b4:=((ci.trans' cd).blk (aH b2) id).trans b2;have hbl:bh.length<=2^44:=by rw[hbh];have:=rH hq;omega
    refine⟨_,aJ b4 0 rfl,?_⟩;refine rF b4 ?_;rw[vv];refine aJf (x:=.mk k m t s e l) hl (bh:=bh) (by omega) λw5 c5=>⟨_,rfl,?_⟩;have b5:=(c5.blk (aH b4) id).trans b4;refine⟨⟨_,aJ b5 0 rfl,rfl⟩,?_⟩;refine aIw hkr λw6 c6=>⟨_,rfl,?_⟩;have cd6:Ch (λ_=>False) w6 w6.drew:=Ch.d0;have b6:=((c6.trans' cd6).blk (aH b5) id).trans b5;refine rF b6 ?_;rw[vv];obtain⟨cc,hcc⟩:∃cc,cc=cC k (jO (l.map MV.m).length bh):=⟨_,rfl⟩;have hcc':cC k (jO (MV.mk k m t s e l).l.length bh)=cc:=by rw[hcc,aDv];rfl
    rw[hcc'];rw[<-hcc]at hk hn;have hcl:cc<256:=by rw[hcc];exact qB _ _
    have gd:Gw w0 w6.drew p n c own own0 l0:=((((g2.quiet ci).quiet cd).quiet c5).quiet c6).quiet cd6;have hB:Gw w6.drew w6.drew p n c own own l0:=Gw.refl gd.ow;have hzi:=ci.size;have hz5:=c5.size;have hz6:=c6.size;refine bD λw7 b7 c7 z7=>?_;have bx7:=(c7.blk (aH b6) id).trans b6;rw[<-byV hcl]at b7;refine⟨eq5 bx7,?_⟩;refine(hB.quiet c7).app (jQ (n:=1) b7 rfl) (by omega) λp8 c8 own8 w8 g8=>?_;refine⟨eq5 (g8.blk b6 hneb),?_⟩;have hown2:∀a,p2=some a->bh.length*1≠0->w3.heap.size<=a.block/\a.block<w4.heap.size:=λa ha h0=>by
     have h1:=sV gi.ow a ha h0;have h2:=gi.new _ h1;have h3:=gi.ow.blt _ h1;rcases h2 with h2|h2
     ·cases h2
     ·exact⟨h2,h3⟩
    have hownlt:∀q,own=some q->q<w.heap.size:=λq h=>g.ow.blt _ h;have hd6:w6.drew.heap.size=w6.heap.size:=rfl;have hd4:w4.drew.heap.size=w4.heap.size:=rfl;have hrd8:Rd w8 p2 bh.length 1 (aV bh):=(gi.ow.rd.ch ((cd.trans' c5).trans' (c6.trans' cd6)) λ_ _ _=>id).ch g8.ch λa ha h0 h=>by
     have:=hown2 a ha h0;have:=hownlt _ h;omega
    have hlen8:=g8.len;simp only[aG,dQ]at hlen8;simp only[aI]at hn;refine aIv (x:=.mk k m t s e l) hm64 hl (by show s.n<=_;omega) (by show t.length<=_;omega) hbl (by rw[hcc];exact aId hkr _) g8 hrd8 (λa ha h0 h=>?_) (by omega) λp9 n9 c9 own9 w9 g9=>⟨_,_,_,rfl,?_⟩
    ·have:=hown2 a ha h0;rcases g8.new _ h with h1|h1
     ·have:=hownlt _ h1;omega
     ·omega
    ·have:=gd.trans g9;refine hk p9 n9 c9 own9 w9 ?_;rw[<-hl]at hlm;have e2:dZ cc (MV.mk k m t s e l).n (MV.mk k m t s e l).t (MV.mk k m t s e l).l.length bh=dZ cc m t (l.map MV.m).length bh:=by rw[aDv];rfl
     rw[e2]at this;simpa[aP]using this
   ·-- a simple one
    have hs:=aA hs;rw[aD hs]at hk hn;have cd:Ch (λ_=>False) w3 w3.drew:=Ch.d0;have b4:=(cd.blk (aH b2) id).trans b2;refine⟨_,aJ b4 0 rfl,?_⟩;refine rF b4 ?_;rw[vv];refine aGm (x:=.mk k m t s e l) hm64 λw5 c5=>⟨_,rfl,?_⟩;have b5:=(c5.blk (aH b4) id).trans b4;refine⟨⟨_,aJ b5 0 rfl,rfl⟩,?_⟩;refine aIw hkr λw6 c6=>⟨_,rfl,?_⟩;have cd6:Ch (λ_=>False) w6 w6.drew:=Ch.d0;have b6:=((c6.trans' cd6).blk (aH b5) id).trans b5;refine rF b6 ?_;rw[vv];obtain⟨cc,hcc⟩:∃cc,cc=cC k (fH k m t):=⟨_,rfl⟩;have hcc':cC k (fH (MV.mk k m t s e l).k (MV.mk k m t s e l).n (MV.mk k m t s e l).t)=cc:=hcc.symm;rw[hcc'];rw[<-hcc]at hk hn;have hcl:cc<256:=by rw[hcc];exact qB _ _
    have gd:Gw w0 w6.drew p n c own own0 l0:=(((g2.quiet cd).quiet c5).quiet c6).quiet cd6;have hB:Gw w6.drew w6.drew p n c own own l0:=Gw.refl gd.ow;refine bD λw7 b7 c7 z7=>?_;have bx7:=(c7.blk (aH b6) id).trans b6;rw[<-byV hcl]at b7;refine⟨eq5 bx7,?_⟩;refine(hB.quiet c7).app (jQ (n:=1) b7 rfl) (by omega) λp8 c8 own8 w8 g8=>?_;refine⟨eq5 (g8.blk b6 hneb),?_⟩;have hlen8:=g8.len;simp only[aG,dQ]at hlen8;simp only[aI]at hn;refine aIv (x:=.mk k m t s e l) (bh:=[]) (pb:=none) (cb:=0) hm64 hl (by show s.n<=_;omega) (by show t.length<=_;omega) (by decide) (by rw[hcc];exact aId hkr _) g8 ⟨rfl,.inl rfl⟩ (λa ha h0 h=>by cases ha) (by omega) λp9 n9 c9 own9 w9 g9=>⟨_,_,_,rfl,?_⟩;have:=gd.trans g9;refine hk p9 n9 c9 own9 w9 ?_;have e2:dZ cc (MV.mk k m t s e l).n (MV.mk k m t s e l).t (MV.mk k m t s e l).l.length []=dZ cc m t (l.map MV.m).length []:=by rw[aDv];rfl
    rw[e2]at this;simpa[aP]using this
def aUa(x:MV):Prop:=∀ {Q:Nat->Prop} {w:World} {K:Value->World->Prop},VR Q w x->Gq x.m->x.k=23 ->
 (∀p' n' c' own' w',Gw w w' p' n' c' own' none (eG x.m)->K (.slice p' n' c') w')->bK Tryz.prog 213 [x.v] w K
theorem Gw.ch0{w0 w:World}{p:Option Addr}{n c:Nat}{own:Option Nat}{l:Bs}(h:Gw w0 w p n c own none l):Ch (λ_=>False) w0 w:=h.ch.mono λ_ _ h=>by cases h
theorem Gw.base{w0 w1 w:World}{p:Option Addr}{n c:Nat}{own:Option Nat}{l:Bs}(h:Gw w1 w p n c own none l)(hc:Ch (λ_=>False) w0 w1):Gw w0 w p n c own none l :=
 ⟨h.ow,h.len,λk hk=>by
  rcases h.new k hk with h1|h1
  ·cases h1
  ·have:=hc.size;exact .inr (by omega),(hc.mono λ_ _ h=>h.elim).trans' h.ch⟩
theorem Gw.nil(w:World):Gw w w none 0 0 none none []:=⟨Ow.nil,rfl,λk hk=>(by cases hk),Ch.refl _ _⟩
theorem aG2{f:M->Bs}(l:List M)(i:Nat){x:M}(h:l[i]?=some x):((l.take i).flatMap f).length+(f x).length<=(l.flatMap f).length:=by
 obtain⟨h1,h2⟩:=List.getElem?_eq_some_iff.1 h;have:l=l.take i++x::l.drop (i+1):=by rw[<-h2,<-dB h1,List.take_append_drop]
 conv=>rhs;rw[this]
 simp only[List.flatMap_append,bU,aG];omega
theorem aSo{k:Int}{m:Nat}{t:Bs}{s:SL}{e:Int}{l:List MV}(ih:∀x∈l,aOv x)(hU:aUa (.mk k m t s e l)):aLt (.mk k m t s e l):=by
 intro Q w K hx hq h21 h23 hk;have hx:=VR.lt _ hx;have hil:=rH hq;have hq':=hq;rw[MV.m_mk]at hq hk hil;have F:=hq.fx;obtain⟨hl,hs46,hrd,hpb,hall⟩:=hx.inv;have hl:l.length=s.n:=hl;have h21:21<=k:=h21;have h23:k<=23:=h23;have hll:=F.lsz;rw[aDv,hl]at hll;apply aDm;refine oD (x:=.mk k m t s e l) λw1 b1 a1 c1 z1=>?_;simp only[add_at,aL];refine⟨k,aJ b1 0 rfl,?_⟩;rw[dS];have hx1:=hx.ch0 c1;refine aC (λh=>?_) (λh=>?_)
 ·refine rF b1 ?_;rw[vv];refine hU hx1 hq' (aB h) λp' n' c' own' w' g=>⟨_,_,_,rfl,?_⟩;rw[MV.m_mk]at g;exact hk p' n' c' own' w' (g.base c1)
 ·have h3:¬k=23:=aA h;have hin:eG (.mk k m t e (l.map MV.m))=(l.map MV.m).flatMap gV:=by
   rw[oK];unfold aEc;rw[aD h3]
  rw[hin]at hk hil;refine⟨s.p,s.n,s.c,aJ b1 3 rfl,?_⟩;refine⟨λmm p1 n2 c2 n3 w2=>∃(i:Nat) (own:Option Nat),n3=(i:Int)/\i<=s.n/\mm=s.n-i/\Gw w1 w2 p1 n2 c2 own none (((l.map MV.m).take i).flatMap gV),
   ⟨s.n,0,none,rfl,bQ _,rfl,by simpa using Gw.nil w1⟩,?_⟩
  rintro mm p1 n2 c2 n3 w2 ⟨i,own,rfl,hi,rfl,g⟩;refine aC (λhlt=>?_) (λhge=>?_)
  ·have hlt:=aB hlt;obtain⟨y,hy⟩:∃y,l[i]?=some y:=⟨_,aK (by omega)⟩;have hym:=bJ hy;have hx2:=hx1.ch0 g.ch0;obtain⟨bb,o,hp,hQ,ha⟩:=hx2.at (i:=i) (y:=y) hy;have hp:s.p=some ⟨bb,o,none⟩:=hp;refine⟨by omega,hlt,?_⟩;rw[hp];simp only[nn_some,add_at,aM];refine rd5 (o:=o+i*5) ha ?_;refine nbx rfl λw8 b8 c8 z8=>?_;refine rF b8 ?_;rw[vv];have hm':(l.map MV.m)[i]?=some y.m:=by rw[dH,hy];rfl
   have hfp:=aG2 (f:=gV) (l.map MV.m) i hm';have hgl:=g.len;have hz1:=c1.size;refine ih y hym ((hx2.ch0 c8).inv.2.2.2.2 y hym) (F.all y.m (List.mem_map.2 ⟨y,hym,rfl⟩)) (g.quiet c8) (λb hb hbo=>?_) (by omega) λp9 n9 c9 own9 w9 g9=>⟨_,_,_,rfl,s.n-(i+1),by omega,i+1,own9,?_,by omega,rfl,?_⟩
   ·rcases g.new b hbo with h1|h1
    ·cases h1
    ·have:=hb.2;omega
   ·rw[aW (n:=(i:Int)+1)];omega
   ·rw[show(l.map MV.m).take (i+1)=(l.map MV.m).take i++[y.m] by rw[kG,hm'];rfl,List.flatMap_append];simpa using g9
  ·have hge:=aA hge;have hi2:i=s.n:=by omega
   subst hi2;rw[aY (by rw[aDv];omega)]at g;exact hk p1 n2 c2 own w2 (g.base c1)
theorem aPf:InfoIs Tryz.prog 22 1 24 (.slice none 0 0):=.of (by kernel_rfl) (by kernel_rfl) (by kernel_rfl)
def sl0:SL:=⟨none,0,0,none⟩
theorem aPr{w:World}(c:Nat)(hc:c<=2^41):∃w',(Instr.makeSlice 263 (.int .i64 (c:Int)) (.int .i64 (c:Int))).run Tryz.prog w=.ok (.slice (some ⟨w.heap.size,0,none⟩) c c) w' /\
 blk w' w.heap.size=some ((List.replicate c sl0).flatMap SL.cells)/\Ch (λ_=>False) w w'/\w'.heap.size=w.heap.size+1:=by
 obtain⟨i,hi,h1,h2,h3⟩:=aPf;have hr:=run_make (P:=Tryz.prog) w 263 22 i _ Tryz.underlying263 hi h3 .i64 .i64 (c:Int) (c:Int) (by omega) (by omega) (by rw[h2];omega) (by omega);rw[aM,h1,Nat.mul_one]at hr;have hm:madeCells (Value.slice none 0 0).cells c=((List.replicate c sl0).flatMap SL.cells).toArray:=by
  apply Array.ext';apply List.ext_getElem?;intro j;have e:(List.replicate c sl0).flatMap SL.cells=List.replicate c (Value.slice none 0 0):=by
   clear hr
   induction c with
   | zero=>rfl
   | succ c ih=>rw[List.replicate_succ,bU,ih (by omega),List.replicate_succ];rfl
  rw[e];by_cases hj:j<c
  ·simp[madeCells,Value.cells,Nat.mod_one,hj]
  ·simp[madeCells,Value.cells,Nat.mod_one,hj]
 rw[hm]at hr;exact⟨_,hr,nF w _ _,eV w _,by simp⟩
def aBl(e:Int):Bool:=decide (e=21) || decide (e=22) || decide (e=23)
theorem pT(e:Int):aBl e=true↔e=21\/e=22\/e=23:=by
 unfold aBl;simp[or_assoc]
def aBq(e:Int)(x:M):Bs:=if aBl e then eG x else[]
def wZ(e:Int)(x:M):Bool:=if aBl e then jO x.l.length (eG x)else fH x.k x.n x.t
theorem aL3(e:Int)(l:List M):kN e l (l.map eG)=l.all (wZ e):=by
 unfold kN;by_cases h:e=21\/e=22\/e=23
 ·rw[aF h];have hs:=(pT e).2 h
  induction l with
  | nil=>rfl
  | cons x l ih =>
   rw[List.map_cons,List.zip_cons_cons,List.all_cons,List.all_cons,ih];congr 1;unfold wZ;rw[aF hs]
 ·rw[aD h];have hs:¬aBl e=true:=λq=>h ((pT e).1 q);congr 1;funext x;unfold wZ;rw[aD hs]
theorem aVm{e:Int}(he:1<=e/\e<24)(s:Bool)(x:M):dZ (cC e s) x.n x.t x.l.length (aBq e x)=dZ (cC e s) x.n x.t x.l.length (eG x):=by
 unfold aBq;by_cases h:aBl e=true
 ·rw[aF h]
 ·rw[aD h];have h3:¬(e=21\/e=22\/e=23):=λq=>h ((pT e).2 q);have key:∀(j:Fin 24) (s:Bool),¬(j.val=21\/j.val=22\/j.val=23)->1<=j.val->¬(eE (cC (j.val:Int) s)=true\/gA (cC (j.val:Int) s)=true):=by decide +kernel
  have:=key ⟨e.toNat,by omega⟩ s (by show¬(e.toNat=21\/e.toNat=22\/e.toNat=23);omega) (by show 1<=e.toNat;omega);rw[show((⟨e.toNat,by omega⟩:Fin 24).val:Int)=e by show((e.toNat:Nat):Int)=e;omega]at this;unfold dZ;rw[aD this,aD this]
structure Beh(w:World)(B:Nat)(e:Int)(l:List MV)(T:List SL)(i:Nat):Prop where
 len:T.length=l.length
 blk:Go.Sv.blk w B=some (T.flatMap SL.cells)
 row:∀(j:Nat) (y:MV),j<i->l[j]?=some y->∃z:SL,T[j]?=some z/\z.n=(aBq e y.m).length/\Rd w z.p z.n 1 (aV (aBq e y.m))/\∀a,z.p=some a->z.n*1≠0->a.block≠B
 zero:aBl e=false->T=List.replicate l.length sl0
theorem Beh.ch{S:Nat->Prop}{w w':World}{B:Nat}{e:Int}{l:List MV}{T:List SL}{i:Nat}(h:Beh w B e l T i)(hc:Ch S w w')(hn:∀b,b<w.heap.size->¬S b):Beh w' B e l T i :=
 ⟨h.len,(hc.blk (aH h.blk) (hn _ (aH h.blk))).trans h.blk,λj y hj hy=>by
  obtain⟨z,h1,h2,h3,h4⟩:=h.row j y hj hy;exact⟨z,h1,h2,h3.ch hc λa ha h0=>hn _ (h3.lt a ha h0),h4⟩,h.zero⟩
theorem Beh.at{w:World}{B:Nat}{e:Int}{l:List MV}{T:List SL}{i:Nat}(h:Beh w B e l T i){j:Nat}{z:SL}(hz:T[j]?=some z):w.cell? ⟨B,0+j*1,none⟩=some (.slice z.p z.n z.c):=by
 rw[aL,Nat.mul_one];refine aJ h.blk j ?_;have:=xU (g:=SL.cells) SL.cells_len T j 0 (by decide);simp only[Nat.mul_one,cO]at this;rw[this,hz];rfl
theorem Beh.at'{w:World}{B:Nat}{e:Int}{l:List MV}{T:List SL}{i:Nat}(h:Beh w B e l T i){j:Nat}{z:SL}(hz:T[j]?=some z):w.cell? ⟨B,j,none⟩=some (.slice z.p z.n z.c):=by
 have:=h.at hz
 rwa [aL,Nat.mul_one]at this
theorem aJi(T:List SL):(T.flatMap SL.cells).length=T.length:=by
 induction T with
 | nil=>rfl
 | cons x T ih=>rw[bU,aG,ih,SL.cells_len,aI];omega
theorem sp3{e:Int}{A B:Prop}{v:Option Value}(hv:v=some (.int .i64 e))(hA:aBl e=true->A)(hB:aBl e=false->B):∃n8,v=some (.int .i64 n8)/\aS (!decide (n8=21)) (∃n9,v=some (.int .i64 n9)/\aS (!decide (n9=22)) (∃n10,v=some (.int .i64 n10)/\aS (decide (n10=23)) A B) A) A:=by
 have i1:e=21\/e=22\/e=23->A:=λh=>hA ((pT e).2 h);have i2:¬(e=21\/e=22\/e=23)->B:=λh=>hB (by
  cases hs:aBl e with
  | false=>rfl
  | true=>exact absurd ((pT e).1 hs) h)
 refine⟨e,hv,aC (λh1=>⟨e,hv,aC (λh2=>⟨e,hv,aC (λh3=>?_) (λh3=>?_)⟩) (λh2=>?_)⟩) (λh1=>?_)⟩
 all_goals simp only[bG,bF,bA,gC]at *
 ·exact i1 (.inr (.inr h3))
 ·exact i2 (by omega)
 ·exact i1 (.inr (.inl h2))
 ·exact i1 (.inl h1)
theorem yL{e:Int}{l:List MV}{i:Nat}{y:MV}(hy:l[i]?=some y):((l.take (i+1)).all λx=>wZ e x.m)=(((l.take i).all λx=>wZ e x.m) && wZ e y.m):=by
 rw[kG,hy,List.all_append];simp
theorem ml(y:MV):y.m.l.length=y.l.length/\y.m.k=y.k/\y.m.n=y.n/\y.m.t=y.t:=by
 cases y with
 | mk k n t s e l=>rw[MV.m_mk];exact⟨aDv l,rfl,rfl,rfl⟩
theorem Beh.narrow{w:World}{B:Nat}{e:Int}{l:List MV}{T:List SL}{i:Nat}(h:Beh w B e l T i)(hs:aBl e=false):Beh w B e l T (i+1) :=
 ⟨h.len,h.blk,λj y hj hy=>by
  have hT:=h.zero hs;have hjl:=(List.getElem?_eq_some_iff.1 hy).1;refine⟨sl0,by rw[hT];simp[List.getElem?_replicate,hjl],?_,?_,λa ha=>by cases ha⟩
  ·unfold aBq;rw[hs];rfl
  ·unfold aBq;rw[hs];exact⟨rfl,.inl rfl⟩,h.zero⟩
theorem Beh.put{w w1 w':World}{B:Nat}{e:Int}{l:List MV}{T:List SL}{i:Nat}(h:Beh w B e l T i)(hs:aBl e=true){y:MV}(hy:l[i]?=some y){p:Option Addr}{n c:Nat}{own:Option Nat}(g:Gw w w1 p n c own none (eG y.m))
 (hb:Go.Sv.blk w' B=some ((T.flatMap SL.cells).set i (.slice p n c))) (hc:Ch (·=B) w1 w'):Beh w' B e l (T.set i ⟨p,n,c,own⟩) (i+1):=by
 have hB:=aH h.blk;have hil:=(List.getElem?_eq_some_iff.1 hy).1;have hTi:i<T.length:=by rw[h.len];exact hil
 have h1:=h.ch g.ch0 λ_ _=>id;refine⟨by rw[List.length_set];exact h.len,?_,λj y' hj hy'=>?_,λq=>by rw[hs]at q;cases q⟩
 ·rw[hb];have:=aEg (g:=SL.cells) (x':=⟨p,n,c,own⟩) SL.cells_len T i 0 (.slice p n c) (aK hTi) (by decide) rfl;rw[<-this];simp
 ·by_cases hji:j=i
  ·subst hji;rw[hy]at hy';cases hy';have e1:aBq e y.m=eG y.m:=by unfold aBq;rw[aF hs]
   have hpos:∀a,p=some a->n*1≠0->a.block≠B:=λa ha h0=>by
    have:=g.new _ (sV g.ow a ha h0);rcases this with h2|h2
    ·cases h2
    ·omega
   refine⟨⟨p,n,c,own⟩,by rw[List.getElem?_set_self hTi],by rw[e1];exact g.len.symm,?_,hpos⟩;rw[e1];exact g.ow.rd.ch hc λa ha h0=>hpos a ha h0
  ·obtain⟨z,z1,z2,z3,z4⟩:=h1.row j y' (by omega) hy';exact⟨z,by rw[List.getElem?_set_ne (Ne.symm hji)];exact z1,z2,z3.ch hc λa ha h0=>z4 a ha h0,z4⟩
theorem aUj{k:Int}{m:Nat}{t:Bs}{s:SL}{e:Int}{l:List MV}(ih:∀x∈l,aLt x):aUa (.mk k m t s e l):=by
 intro Q w K hx hq h23 hk;have hx:=VR.lt _ hx;have hil:=rH hq;rw[MV.m_mk]at hq hk hil;have F:=hq.fx;obtain⟨hl,hs46,hrd,hpb,hall⟩:=hx.inv;have hl:l.length=s.n:=hl;have h23:k=23:=h23;obtain⟨he0,he24,hek⟩:=F.arr h23;have he:1<=e/\e<24:=by omega
 have hll:=F.lsz;rw[aDv,hl]at hll;have hin:eG (.mk k m t e (l.map MV.m))=UInt8.ofNat (cC e (l.all λx=>wZ e x.m))::(l.map MV.m).flatMap λx=>dZ (cC e (l.all λx=>wZ e x.m)) x.n x.t x.l.length (eG x):=by
  rw[oK];unfold aEc;rw[aF h23,uA,aL3,List.all_map];rfl
 rw[hin]at hk hil;apply zH;refine oD (x:=.mk k m t s e l) λw1 b1 a1 c1 z1=>?_;simp only[add_at,aL];refine⟨s.p,s.n,s.c,aJ b1 3 rfl,?_⟩;obtain⟨w2,hr,bT,c2,z2⟩:=aPr (w:=w1) s.n (by omega);refine⟨_,_,_,w2,hr,?_⟩;have b2:=(c2.blk (aH b1) id).trans b1;refine⟨s.p,s.n,s.c,aJ b2 3 rfl,?_⟩;generalize hBe:w1.heap.size=B at bT;have hwB:w.heap.size<B:=by omega
 have hx2:=(hx.ch0 c1).ch0 c2;have beh0:Beh w2 B e l (List.replicate s.n sl0) 0:=⟨by simp[hl],bT,λj y hj=>absurd hj (Nat.not_lt_zero _),λ_=>by rw[hl]⟩;refine⟨λmm b n3 w3=>∃(i:Nat) (T:List SL),n3=(i:Int)/\i<=s.n/\mm=s.n-i/\Beh w3 B e l T i/\b=((l.take i).all λx=>wZ e x.m)/\Ch (·=B) w2 w3,
  ⟨s.n,0,_,rfl,bQ _,rfl,beh0,by simp,Ch.refl _ _⟩,?_⟩
 rintro mm b n3 w3 ⟨i,T,rfl,hi,rfl,hB,hb,hc⟩;have hz3:=hc.size;have hx3:=VR.ch hc (λb hb=>by have:=hb.2;omega) _ hx2;have b3:=(hc.blk (aH b2) (by omega)).trans b2;refine aC (λhlt=>?_) (λhge=>?_)
 ·have hlt':=aB hlt;obtain⟨y,hy⟩:∃y,l[i]?=some y:=⟨_,aK (by omega)⟩;have hym:=bJ hy;have hyq:=F.all y.m (List.mem_map.2 ⟨y,hym,rfl⟩);have hyk:=hek y.m (List.mem_map.2 ⟨y,hym,rfl⟩);obtain⟨my1,my2,my3,my4⟩:=ml y;rw[my2]at hyk;have hTi:i<T.length:=by rw[hB.len,hl];omega
  refine⟨λb1 w4=>b1=((l.take (i+1)).all λx=>wZ e x.m)/\(∃T',Beh w4 B e l T' (i+1))/\Ch (·=B) w2 w4,?_,by omega,hlt',?_⟩
  ·rintro b1 w4 ⟨rfl,⟨T',hB'⟩,hc'⟩;exact⟨s.n-(i+1),by omega,i+1,T',by rw[aW (n:=(i:Int)+1)];omega,by omega,rfl,hB',rfl,hc'⟩
  obtain⟨bb,o,hp,hQ,ha⟩:=hx3.at (i:=i) (y:=y) hy;have hp:s.p=some ⟨bb,o,none⟩:=hp;rw[hp];simp only[nn_some,add_at,aM,dS,Nat.mul_one,cO,aL];refine rd5 (o:=o+i*5) ha ?_;refine nbx rfl λw9 b9 c9 z9=>?_;have b9a:=(c9.blk (aH b3) id).trans b3;have hB9:=hB.ch c9 λ_ _=>id;have hx9:=hx3.ch0 c9;have hc9:=hc.trans c9 λx _ h=>h.elim;refine sp3 (aJ b9a 4 rfl) (λhs=>?_) (λhs=>?_)
  ·refine rF b9 ?_;rw[vv];have hsp:=(pT e).1 hs;refine ih y hym (hx9.inv.2.2.2.2 y hym) hyq (by omega) (by omega) λp5 n5 c5 own5 w10 g=>⟨_,_,_,rfl,by omega,hlt',?_⟩;have hB10:=hB9.ch g.ch0 λ_ _=>id;refine eK hB10.blk (by rw[aJi,hB.len,hl];omega) λw11 b11 c11 z11=>?_;have hB11:=hB9.put hs hy g b11 c11;have hc11:=(hc9.trans g.ch0 λx _ h=>h.elim).trans' c11;have bx11:=(c11.blk (aH ((g.ch0.blk (aH b9) id).trans b9)) (by have:=aH hB.blk;omega)).trans ((g.ch0.blk (aH b9) id).trans b9);have hsm:wZ e y.m=jO y.l.length (eG y.m):=by unfold wZ;rw[aF hs,my1]
   have cd:Ch (λ_=>False) w11 w11.drew:=Ch.d0;have hBd:=hB11.ch cd λ_ _=>id;have hcd:=hc11.trans cd λx _ h=>h.elim;refine aC (λht=>?_) (λhf=>⟨?_,⟨_,hBd⟩,hcd⟩)
   ·refine⟨by omega,hlt',?_⟩;refine rF ((cd.blk (aH bx11) id).trans bx11) ?_;refine⟨_,_,_,hBd.at' (by rw[List.getElem?_set_self hTi]),?_⟩;rw[vv];obtain⟨bh,hbh⟩:∃bh,bh=eG y.m:=⟨_,rfl⟩;have hgl:=g.len;have hyl:=rH hyq;rw[<-hbh]at hgl hyl hsm;subst hgl;refine aJf (hx9.inv.2.2.2.2 y hym).inv.1 (bh:=bh) (by omega) λw12 c12=>⟨_,rfl,?_,⟨_,hBd.ch c12 λ_ _=>id⟩,hcd.trans c12 λx _ h=>h.elim⟩;rw[yL hy,hsm,<-hb,ht,Bool.true_and]
   ·rw[yL hy,<-hb,hf,Bool.false_and]
  ·have hBn:=hB9.narrow hs;have hsm:wZ e y.m=fH y.k y.n y.t:=by unfold wZ;rw[hs,my2,my3,my4];rfl
   refine aC (λht=>?_) (λhf=>⟨?_,⟨_,hBn⟩,hc9⟩)
   ·refine rF b9 ?_;rw[vv];refine aGm (by rw[<-my3];exact(zS hyq).2.1) λw12 c12=>⟨_,rfl,?_,⟨_,hBn.ch c12 λ_ _=>id⟩,hc9.trans c12 λx _ h=>h.elim⟩;rw[yL hy,hsm,<-hb,ht,Bool.true_and]
   ·rw[yL hy,<-hb,hf,Bool.false_and]
 ·have hge:=aA hge;have hi2:i=s.n:=by omega
  subst hi2;rw[aY (by omega)]at hb;rw[<-hb]at hk hil;refine⟨_,aJ b3 4 rfl,?_⟩;refine aIw he λw4 c4=>⟨_,rfl,?_⟩;obtain⟨cc,hcc⟩:∃cc,cc=cC e b:=⟨_,rfl⟩;have hcl:cc<256:=by rw[hcc];exact qB _ _
  have hn8:=aId he b;have hdb:=aVm he b;rw[<-hcc]at hk hil hn8 hdb ⊢;have hB4:=hB.ch c4 λ_ _=>id;refine bD λw5 b5 c5 z5=>?_;have b4a:=(c4.blk (aH b3) id).trans b3;have b5a:=(c5.blk (aH b4a) id).trans b4a;refine⟨s.p,s.n,s.c,aJ b5a 3 rfl,?_⟩;rw[<-byV hcl]at b5;have g5:Gw w4 w5 (some ⟨w4.heap.size,0,none⟩) 1 1 (some w4.heap.size) none [UInt8.ofNat cc] :=
   ⟨⟨rfl,aQ _,.inr ⟨_,_,_,rfl,rfl,b5,aQ 1,rfl⟩⟩,rfl,λk h=>.inr (by cases h;exact aQ _),c5.mono λ_ _ h=>h.elim⟩
  have hx4:=hx3.ch0 c4;have hw4:Ch (λ_=>False) w w4:=((c1.trans' c2).trans hc λx hx h=>by omega).trans' c4;refine⟨λmm p4 n7 c7 n8 w6=>∃(i:Nat) (own:Option Nat),n8=(i:Int)/\i<=s.n/\mm=s.n-i/\Gw w4 w6 p4 n7 c7 own none (UInt8.ofNat cc::((l.map MV.m).take i).flatMap λx=>dZ cc x.n x.t x.l.length (eG x)),
   ⟨s.n,0,_,rfl,bQ _,rfl,by simpa using g5⟩,?_⟩
  rintro mm p4 n7 c7 n8 w6 ⟨i,own,rfl,hi,rfl,g⟩;refine aC (λhlt=>?_) (λhge=>?_)
  ·have hlt':=aB hlt;obtain⟨y,hy⟩:∃y,l[i]?=some y:=⟨_,aK (by omega)⟩;have hym:=bJ hy;have hyq:=F.all y.m (List.mem_map.2 ⟨y,hym,rfl⟩);obtain⟨my1,my2,my3,my4⟩:=ml y;have hx6:=hx4.ch0 g.ch0;obtain⟨bb,o,hp,hQ,ha⟩:=hx6.at (i:=i) (y:=y) hy;have hp:s.p=some ⟨bb,o,none⟩:=hp;refine⟨by omega,hlt',?_⟩;rw[hp];simp only[nn_some,add_at,aM,Nat.mul_one,cO,aL];refine rd5 (o:=o+i*5) ha ?_;refine nbx rfl λw12 b12 c12 z12=>⟨by omega,hlt',?_⟩;have cd:Ch (λ_=>False) w12 w12.drew:=Ch.d0;have hB6:=hB4.ch ((g.ch0.trans' c12).trans' cd) λ_ _=>id;obtain⟨z,z1,z2,z3,z4⟩:=hB6.row i y (by omega) hy;obtain⟨z',z1',z2',z3',z4'⟩:=hB4.row i y (by omega) hy;have:z'=z:=by rw[z1]at z1';cases z1';rfl
   subst this;refine rF ((cd.blk (aH b12) id).trans b12) ?_;refine⟨_,_,_,hB6.at' z1,?_⟩;rw[vv];have gd:=(g.quiet c12).quiet cd;have hgl:=g.len;have hyl:=rH hyq;have hm':(l.map MV.m)[i]?=some y.m:=by rw[dH,hy];rfl
   have hfp:=aG2 (f:=λx=>dZ cc x.n x.t x.l.length (eG x)) (l.map MV.m) i hm';simp only[aI]at hgl hil;have hbl:(aBq e y.m).length<=2^31:=by
    unfold aBq;split
    ·exact hyl
    ·exact bQ _
   have gq:=zS hyq;rw[my1,my3,my4]at gq;have hyi:=(hx6.inv.2.2.2.2 y hym).inv.1;rw[z2]at z3 z3' ⊢;refine aIv (x:=y) gq.2.1 hyi (by rw[<-hyi];omega) (by omega) (bh:=aBq e y.m) (by omega) hn8 gd z3 (λa ha h0 ho=>?_) (by omega) λp9 n9 c9 own9 w9 g9=>⟨_,_,_,rfl,s.n-(i+1),by omega,i+1,own9,?_,by omega,rfl,?_⟩
   ·have q1:=z3'.lt a ha h0;rcases g.new _ ho with h1|h1
    ·cases h1
    ·omega
   ·rw[aW (n:=(i:Int)+1)];omega
   ·rw[show(l.map MV.m).take (i+1)=(l.map MV.m).take i++[y.m] by rw[kG,hm'];rfl,List.flatMap_append];have e1:dZ cc y.n y.t y.l.length (aBq e y.m)=dZ cc y.m.n y.m.t y.m.l.length (eG y.m):=by rw[<-my1,<-my3,<-my4,hdb]
    rw[e1]at g9;simpa using g9
  ·have hge:=aA hge;have hi2:i=s.n:=by omega
   subst hi2;rw[aY (by rw[aDv];omega)]at g;exact hk p4 n7 c7 own w6 (g.base hw4)
theorem aNx:∀x:MV,aOv x/\aLt x:=by
 refine MV.ind λk n t s e l ih=>?_;have hI:aLt (.mk k n t s e l):=aSo (k:=k) (m:=n) (t:=t) (s:=s) (e:=e) (λx hx=>(ih x hx).1) (aUj λx hx=>(ih x hx).2);exact⟨aWi (λx hx=>(ih x hx).1) hI,hI⟩
end Go.Proofs.YtlfhjkgdlclddaaGreatDoor
