/-
  The program's decoder: kinds, needs, numbers. The program's decoder: numbers of a fixed width. The program's decoder: texts. The program's decoder: a part with its size; a list that grows in a box. The program's decoder: a span's values. The program's decoder: has a map a key twice? The program's decoder: a span. The program's decoder: an array's values, an array. The program's decoder: an array. The program's decoder: the data behind a constructor. The program's decoder: a value.
-/
import Derived.Test.YtlfhjkgdlclddaaGreatDoorPx18
set_option linter.unusedVariables false
set_option linter.unusedSimpArgs false
set_option maxRecDepth 4000
namespace Go.Proofs.YtlfhjkgdlclddaaGreatDoor
open Go Go.Sv Go.Note
attribute [local irreducible] aS
def iS(c:Nat):Int:=match dC c with
 | none=>-1
 | some k=>(k:Int)
theorem ec{c:Nat}(j:Nat):decide ((c:Int)=(j:Int))=decide (c=j):=decide_eq_decide.2 (by omega)
theorem aM2{c:Nat}{w:World}{K:Value->World->Prop}(hk:K (.int .i64 (iS c)) w)
 (hn:¬(c=0\/c=64\/c=65\/c=66\/c=86\/c=67\/c=82\/c=112\/c=68\/c=83\/c=128\/c=69\/c=192\/c=208\/c=80\/c=96\/c=81\/c=97\/c=84\/c=113\/c=85\/c=129)):bK Tryz.prog 181 [.int .u8 (c:Int)] w K:=by
 apply zI;simp only[dS];have e1:decide ((c:Int)=114)=decide (c=114):=ec 114;have e2:decide ((c:Int)=130)=decide (c=130):=ec 130;have e3:decide ((c:Int)=115)=decide (c=115):=ec 115;have e4:decide ((c:Int)=116)=decide (c=116):=ec 116;have e5:decide ((c:Int)=131)=decide (c=131):=ec 131;have e6:decide ((c:Int)=132)=decide (c=132):=ec 132;have e7:decide ((c:Int)=148)=decide (c=148):=ec 148;have e8:decide ((c:Int)=152)=decide (c=152):=ec 152;have e9:decide ((c:Int)=160)=decide (c=160):=ec 160;have e10:decide ((c:Int)=176)=decide (c=176):=ec 176;have e11:decide ((c:Int)=161)=decide (c=161):=ec 161;have e12:decide ((c:Int)=177)=decide (c=177):=ec 177;have e13:decide ((c:Int)=163)=decide (c=163):=ec 163;have e14:decide ((c:Int)=179)=decide (c=179):=ec 179;have e15:decide ((c:Int)=193)=decide (c=193):=ec 193;have e16:decide ((c:Int)=209)=decide (c=209):=ec 209;have e17:decide ((c:Int)=224)=decide (c=224):=ec 224;have e18:decide ((c:Int)=240)=decide (c=240):=ec 240;simp only[e1,e2,e3,e4,e5,e6,e7,e8,e9,e10,e11,e12,e13,e14,e15,e16,e17,e18];have one:∀ {j:Nat} {v:Int} {A:Prop},iS j=v->(¬c=j->A)->aS (decide (c=j)) (K (.int .i64 v) w) A:=by
  intro j v A hv hA;refine aC (λh=>?_) (λh=>hA (aA h));have h:=aB h;subst h;subst hv;exact hk
 have two:∀ {i j:Nat} {v:Int} {A:World->Prop},iS i=v->iS j=v->(¬(c=i\/c=j)->A w)->∃J:Bool->World->Prop,(∀b w1,J b w1->aS b (K (.int .i64 v) w1) (A w1))/\aS (decide (c=i)) (J (decide (c=i)) w) (J (decide (c=j)) w):=by
  intro i j v A hi hj hA;refine⟨λb w1=>b=decide (c=i\/c=j)/\w1=w,?_,mC _⟩;rintro b w1 ⟨rfl,rfl⟩;refine aC (λh=>?_) (λh=>hA (aA h));rcases aB h with h|h
  ·subst h;subst hi;exact hk
  ·subst h;subst hj;exact hk
 refine one rfl λn1=>one rfl λn2=>one rfl λn3=>one rfl λn4=>one rfl λn5=>one rfl λn6=>one rfl λn7=>one rfl λn8=>?_;refine two rfl rfl λn9=>two rfl rfl λn10=>two rfl rfl λn11=>two rfl rfl λn12=>two rfl rfl λn13=>?_;have hno:dC c=none:=by
  unfold dC;simp only[not_or]at hn n9 n10 n11 n12 n13;simp[hn,n1,n2,n3,n4,n5,n6,n7,n8,n9,n10,n11,n12,n13]
 unfold iS at hk;rw[hno]at hk;exact hk
theorem uH{c:Nat}{w:World}{K:Value->World->Prop}(hk:K (.int .i64 (iS c)) w):bK Tryz.prog 127 [.int .u8 (c:Int)] w K:=by
 apply aFp;simp only[dS];have e0:decide ((c:Int)=0)=decide (c=0):=ec 0;have e1:decide ((c:Int)=64)=decide (c=64):=ec 64;have e2:decide ((c:Int)=65)=decide (c=65):=ec 65;have e3:decide ((c:Int)=66)=decide (c=66):=ec 66;have e4:decide ((c:Int)=86)=decide (c=86):=ec 86;have e5:decide ((c:Int)=67)=decide (c=67):=ec 67;have e6:decide ((c:Int)=82)=decide (c=82):=ec 82;have e7:decide ((c:Int)=112)=decide (c=112):=ec 112;have e8:decide ((c:Int)=68)=decide (c=68):=ec 68;have e9:decide ((c:Int)=83)=decide (c=83):=ec 83;have e10:decide ((c:Int)=128)=decide (c=128):=ec 128;have e11:decide ((c:Int)=69)=decide (c=69):=ec 69;have e12:decide ((c:Int)=192)=decide (c=192):=ec 192;have e13:decide ((c:Int)=208)=decide (c=208):=ec 208;have e14:decide ((c:Int)=80)=decide (c=80):=ec 80;have e15:decide ((c:Int)=96)=decide (c=96):=ec 96;have e16:decide ((c:Int)=81)=decide (c=81):=ec 81;have e17:decide ((c:Int)=97)=decide (c=97):=ec 97;have e18:decide ((c:Int)=84)=decide (c=84):=ec 84;have e19:decide ((c:Int)=113)=decide (c=113):=ec 113;have e20:decide ((c:Int)=85)=decide (c=85):=ec 85;have e21:decide ((c:Int)=129)=decide (c=129):=ec 129;simp only[e0,e1,e2,e3,e4,e5,e6,e7,e8,e9,e10,e11,e12,e13,e14,e15,e16,e17,e18,e19,e20,e21];have one:∀ {j:Nat} {v:Int} {A:Prop},iS j=v->(¬c=j->A)->aS (decide (c=j)) (K (.int .i64 v) w) A:=by
  intro j v A hv hA;refine aC (λh=>?_) (λh=>hA (aA h));have h:=aB h;subst h;subst hv;exact hk
 have two:∀ {i j:Nat} {v:Int} {A:World->Prop},iS i=v->iS j=v->(¬(c=i\/c=j)->A w)->∃J:Bool->World->Prop,(∀b w1,J b w1->aS b (K (.int .i64 v) w1) (A w1))/\aS (decide (c=i)) (J (decide (c=i)) w) (J (decide (c=j)) w):=by
  intro i j v A hi hj hA;refine⟨λb w1=>b=decide (c=i\/c=j)/\w1=w,?_,mC _⟩;rintro b w1 ⟨rfl,rfl⟩;refine aC (λh=>?_) (λh=>hA (aA h));rcases aB h with h|h
  ·subst h;subst hi;exact hk
  ·subst h;subst hj;exact hk
 have three:∀ {i j l:Nat} {v:Int} {A:World->Prop},iS i=v->iS j=v->iS l=v->(¬(c=i\/c=j\/c=l)->A w)->∃J:Bool->World->Prop,(∀b w1,J b w1->aS b (K (.int .i64 v) w1) (A w1))/\aS (decide (c=i)) (J (decide (c=i)) w) (aS (decide (c=j)) (J (decide (c=j)) w) (J (decide (c=l)) w)):=by
  intro i j l v A hi hj hl hA;refine⟨λb w1=>b=decide (c=i\/c=j\/c=l)/\w1=w,?_,jC _⟩;rintro b w1 ⟨rfl,rfl⟩;refine aC (λh=>?_) (λh=>hA (aA h));rcases aB h with h|h|h
  ·subst h;subst hi;exact hk
  ·subst h;subst hj;exact hk
  ·subst h;subst hl;exact hk
 refine one rfl λn1=>one rfl λn2=>three rfl rfl rfl λn3=>three rfl rfl rfl λn4=>three rfl rfl rfl λn5=>three rfl rfl rfl λn6=>one rfl λn7=>one rfl λn8=>one rfl λn9=>one rfl λn10=>?_;refine two rfl rfl λn11=>two rfl rfl λn12=>?_;exact aM2 ⟨_,rfl,hk⟩ (by omega)
def aNb(a e:Int):List PanicEntry:=[PanicEntry.mk (.iface 115 (.agg (Array.mk [.int .i64 a,.int .i64 e]))) false false]
def Bad(KP:List PanicEntry->World->Prop)(S:Nat->Prop)(w:World):Prop:=∀a e w',e≠0->Ch S w w'->KP (aNb a e) w'
theorem Bad.later{KP:List PanicEntry->World->Prop}{S S':Nat->Prop}{w w':World}(h:Bad KP S w)(hc:Ch S' w w')(hs:∀b,b<w.heap.size->S' b->S b):Bad KP S w':=λa e w2 he h2=>h a e w2 he ((hc.mono hs).trans' h2)
theorem Bad.weak{KP:List PanicEntry->World->Prop}{S S':Nat->Prop}{w:World}(h:Bad KP S w)(hs:∀b,b<w.heap.size->S' b->S b):Bad KP S' w:=λa e w2 he h2=>h a e w2 he (h2.mono hs)
theorem aI4{a e:Int}{w:World}{K:Value->World->Prop}{KP:List PanicEntry->World->Prop}(hp:KP (aNb a e) w):dL Tryz.prog 88 [.int .i64 a,.int .i64 e] w K KP:=by
 apply aDh;exact hp
theorem eW{a e:Int}{w:World}{S:Nat->Prop}{K:Value->World->Prop}{KP:List PanicEntry->World->Prop}(hp:Bad KP S w)(he:e≠0):dL Tryz.prog 88 [.int .i64 a,.int .i64 e] w K KP:=aI4 (hp a e w he (Ch.refl _ _))
structure RB(w:World)(rb:Nat)(b:Bs)(p:Option Addr)(c pos e:Nat)(ov:Int):Prop where
 cells:blk w rb=some [.slice p b.length c,.int .i64 (pos:Int),.int .i64 (e:Int),.int .i64 ov]
 rd:Rd w p b.length 1 (aV b)
 cap:b.length<=c
 le:pos<=e
 el:e<=b.length
 bl:b.length<=1048576
 off:∀a,p=some a->b.length*1≠0->a.block≠rb
theorem RB.ch{w w':World}{rb:Nat}{b:Bs}{p:Option Addr}{c pos e:Nat}{ov:Int}(h:RB w rb b p c pos e ov){S:Nat->Prop}(hc:Ch S w w')(hn:¬S rb)(hp:∀a,p=some a->b.length*1≠0->¬S a.block):RB w' rb b p c pos e ov :=
 ⟨(hc.blk (aH h.cells) hn).trans h.cells,h.rd.ch hc hp,h.cap,h.le,h.el,h.bl,h.off⟩
theorem RB.ch0{w w':World}{rb:Nat}{b:Bs}{p:Option Addr}{c pos e:Nat}{ov:Int}(h:RB w rb b p c pos e ov)(hc:Ch (λ_=>False) w w'):RB w' rb b p c pos e ov:=h.ch hc id λ_ _ _=>id
theorem RB.move{w:World}{rb:Nat}{b:Bs}{p:Option Addr}{c pos e:Nat}{ov:Int}(h:RB w rb b p c pos e ov){pos':Nat}(hp:pos'<=e){K:World->Prop}(hk:∀w',RB w' rb b p c pos' e ov->Ch (·=rb) w w'->K w'):Sv.st w ⟨rb,1,none⟩ (.int .i64 (pos':Int)) K :=
 eK h.cells (by simp) λw' b' c' _=>hk w' ⟨b',h.rd.ch c' λa ha h0=>h.off a ha h0,h.cap,hp,h.el,h.bl,h.off⟩ c'
theorem xM{w:World}{rb:Nat}{b:Bs}{p:Option Addr}{c pos e n:Nat}{ov:Int}(h:RB w rb b p c pos e ov){K:Value->World->Prop}{KP:List PanicEntry->World->Prop}
 (hk:pos+n<=e->∀w',Ch (λ_=>False) w w'->K (.tuple #[]) w') (hp:e<pos+n->Bad KP (λ_=>False) w):dL Tryz.prog 126 [.pointer (some ⟨rb,0,none⟩),.int .i64 (n:Int)] w K KP:=by
 apply tC;have cd:Ch (λ_=>False) w w.drew:=Ch.d0;have h0:=(h.ch0 cd).cells;have h1:=h.le;have h2:=h.el;have h3:=h.bl;simp only[nn,add_at,aL];refine⟨_,aJ h0 2 rfl,_,aJ h0 1 rfl,?_⟩;rw[aW (n:=(e:Int)-(pos:Int))];refine aC (λhh=>hk (by have:=aB hh;omega) _ cd) (λhh=>?_);have hb:=(hp (by have:=aA hh;omega)).later cd λ_ _=>id;refine⟨_,aJ h0 3 rfl,?_⟩;refine aC (λ_=>⟨_,_,_,aJ h0 0 rfl,eW hb (by decide)⟩) (λ_=>⟨_,aJ h0 3 rfl,eW hb (by decide)⟩)
theorem aLo(b:Bs):beN b=bO b:=by
 unfold beN bO;congr 1;funext n x;rw[Nat.mul_comm]
theorem nT{w:World}{rb:Nat}{b:Bs}{p:Option Addr}{c pos e k:Nat}{ov:Int}(h:RB w rb b p c pos e ov)(h1:1<=k)(h8:k<=8){K:Value->World->Prop}{KP:List PanicEntry->World->Prop}
 (hk:pos+k<=e->∀w',RB w' rb b p c (pos+k) e ov->Ch (·=rb) w w'->K (.int .u64 (bO (sub b pos k):Int)) w') (hp:e<pos+k->Bad KP (λ_=>False) w):dL Tryz.prog 249 [.pointer (some ⟨rb,0,none⟩),.int .i64 (k:Int)] w K KP:=by
 apply rB;refine xM h (λhle w1 c1=>⟨rfl,?_⟩) hp;have r1:=h.ch0 c1;have cd:Ch (λ_=>False) w1 w1.drew:=Ch.d0;have r2:=r1.ch0 cd;have h2:=h.el;have h3:=h.bl;simp only[nn,add_at,aL,cO];refine⟨_,_,_,aJ r2.cells 0 rfl,_,aJ r2.cells 1 rfl,?_⟩;refine bZ (aIm r2.rd h.cap (by omega) h1 h8 (by omega) ⟨_,_,rfl,?_⟩);refine⟨_,aJ r2.cells 1 rfl,?_⟩;rw[aW (n:=(pos:Int)+(k:Int)),show(pos:Int)+(k:Int)=((pos+k:Nat):Int) by omega];refine r2.move hle λw3 r3 c3=>?_;rw[aLo];exact hk hle w3 r3 (((c1.trans' cd).mono λ_ _ h=>h.elim).trans' c3)
def RdK(o:Option (M × Nat))(rb:Nat)(b:Bs)(p:Option Addr)(c e:Nat)(ov:Int)(w:World)(K:Value->World->Prop):Prop :=
 ∀(x:MV) (t:Nat) (w':World),o=some (x.m,t)->VO w' x->(∀k∈x.B,w.heap.size<=k)->RB w' rb b p c t e ov->Ch (·=rb) w w'->K x.v w'
def RdP(o:Option (M × Nat))(rb:Nat)(w:World)(KP:List PanicEntry->World->Prop):Prop:=o=none->Bad KP (·=rb) w
def sM(k:Int):Int:=IntKind.wrap .i64 ((64:Int)-IntKind.wrap .i64 ((8:Int)*k))
theorem aNq{s:Bs}{k:Nat}(hs:s.length=k)(h1:1<=k):yS s=if k<8/\128*256^(k-1)<=bO s then bO s+(2^64-256^k)else bO s:=by
 unfold yS;have hne:s≠[]:=λh=>by rw[h]at hs;simp at hs;omega
 simp only[hs,hne,ne_eq,not_false_eq_true,and_true]
theorem aYb{k:Nat}(hk:k=1\/k=2\/k=4\/k=8){s:Bs}(hs:s.length=k) :
 0<=sM k/\IntKind.wrap .u64 (Int.fdiv (IntKind.wrap .i64 (IntKind.wrap .u64 ((bO s:Int)*(2:Int)^min (Int.toNat (sM k)) (64:Nat)))) ((2:Int)^min (Int.toNat (sM k)) (64:Nat)))=(yS s:Int):=by
 have hb:=gP s;rw[hs]at hb;rw[aNq hs (by omega)];generalize bO s=n at hb ⊢;rcases hk with rfl|rfl|rfl|rfl
 ·have e:sM ((1:Nat):Int)=56:=by decide
  rw[e,show min (Int.toNat 56) 64=56 by decide,cJ _ (by decide)];refine⟨by decide,?_⟩;have hb:n<256:=hb;have g:∀q:Prop,[Decidable q]->(if q then n+(2^64-256^1)else n)=if q then n+18446744073709551360 else n:=λq _=>rfl;rw[g];by_cases h:128<=n
  ·rw[aF ⟨by decide,by show 128*256^0<=n;omega⟩];unfold IntKind.wrap;simp[IntKind.bits,IntKind.signed];omega
  ·rw[aD (λq=>h (by have:128*256^0<=n:=q.2;omega))];unfold IntKind.wrap;simp[IntKind.bits,IntKind.signed];omega
 ·have e:sM ((2:Nat):Int)=48:=by decide
  rw[e,show min (Int.toNat 48) 64=48 by decide,cJ _ (by decide)];refine⟨by decide,?_⟩;have hb:n<65536:=hb;have g:∀q:Prop,[Decidable q]->(if q then n+(2^64-256^2)else n)=if q then n+18446744073709486080 else n:=λq _=>rfl;rw[g];by_cases h:32768<=n
  ·rw[aF ⟨by decide,by show 128*256^1<=n;omega⟩];unfold IntKind.wrap;simp[IntKind.bits,IntKind.signed];omega
  ·rw[aD (λq=>h (by have:128*256^1<=n:=q.2;omega))];unfold IntKind.wrap;simp[IntKind.bits,IntKind.signed];omega
 ·have e:sM ((4:Nat):Int)=32:=by decide
  rw[e,show min (Int.toNat 32) 64=32 by decide,cJ _ (by decide)];refine⟨by decide,?_⟩;have hb:n<4294967296:=hb;have g:∀q:Prop,[Decidable q]->(if q then n+(2^64-256^4)else n)=if q then n+18446744069414584320 else n:=λq _=>rfl;rw[g];by_cases h:2147483648<=n
  ·rw[aF ⟨by decide,by show 128*256^3<=n;omega⟩];unfold IntKind.wrap;simp[IntKind.bits,IntKind.signed];omega
  ·rw[aD (λq=>h (by have:128*256^3<=n:=q.2;omega))];unfold IntKind.wrap;simp[IntKind.bits,IntKind.signed];omega
 ·have e:sM ((8:Nat):Int)=0:=by decide
  rw[e,show min (Int.toNat 0) 64=0 by decide,cJ _ (by decide)];refine⟨by decide,?_⟩;have hb:n<18446744073709551616:=hb;rw[aD];unfold IntKind.wrap;simp[IntKind.bits,IntKind.signed];omega
theorem aP3:∀c:Fin 256,1<=(gB c.val).getD 0->(gB c.val).getD 0<=8->fJ c.val=(gB c.val).getD 0/\c.val≠0x94/\c.val≠0x98/\c.val≠0x41/\((dC c.val).getD 0=1↔c.val=0x56)/\((dC c.val).getD 0=15↔c.val=0x73) /\
 ((gB c.val).getD 0=1\/(gB c.val).getD 0=2\/(gB c.val).getD 0=4\/(gB c.val).getD 0=8)/\((dC c.val).getD 0=16->(gB c.val).getD 0=8):=by decide +kernel
theorem aBz{w:World}{a a2:Nat}{x:MV}{zs:List Value}(h2:blk w a2=some x.g)(h1:blk w a=some zs)(hl:zs.length=5){K:Value->World->Prop}(hk:∀w',Ch (·=a) w w'->K x.v w') :
 ∃n,w.cell? ⟨a2,0,none⟩=some (.int .i64 n)/\∃n1,w.cell? ⟨a2,1,none⟩=some (.int .u64 n1)/\∃s,w.cell? ⟨a2,2,none⟩=some (.string s)/\∃p n2 c,w.cell? ⟨a2,3,none⟩=some (.slice p n2 c)/\∃n3,w.cell? ⟨a2,4,none⟩=some (.int .i64 n3) /\
  Sv.st w ⟨a,0,none⟩ (.int .i64 n) λw1=>Sv.st w1 ⟨a,1,none⟩ (.int .u64 n1) λw2=>Sv.st w2 ⟨a,2,none⟩ (.string s) λw3=>Sv.st w3 ⟨a,3,none⟩ (.slice p n2 c) λw4=>Sv.st w4 ⟨a,4,none⟩ (.int .i64 n3) λw5 =>
   ∃n,w5.cell? ⟨a,0,none⟩=some (.int .i64 n)/\∃n1,w5.cell? ⟨a,1,none⟩=some (.int .u64 n1)/\∃s,w5.cell? ⟨a,2,none⟩=some (.string s)/\∃p n2 c,w5.cell? ⟨a,3,none⟩=some (.slice p n2 c)/\∃n3,w5.cell? ⟨a,4,none⟩=some (.int .i64 n3) /\
    K (.agg (Array.mk [.int .i64 n,.int .u64 n1,.string s,.slice p n2 c,.int .i64 n3])) w5:=by
 refine rF h2 (st5 h1 hl λw5 b5 c5 z5=>rF b5 ?_);rw[vv];exact hk w5 c5
theorem aS1{w:World}{rb:Nat}{b:Bs}{p:Option Addr}{c pos e k kk cc:Nat}{ov:Int}(h:RB w rb b p c pos e ov)(hcc:cc<256)(hf:gB cc=some k)(h1:1<=k)(h8:k<=8)(hkk:dC cc=some kk){K:Value->World->Prop}{KP:List PanicEntry->World->Prop}
 (hk:RdK (pD b e cc pos) rb b p c e ov w K) (hp:RdP (pD b e cc pos) rb w KP):dL Tryz.prog 185 [.pointer (some ⟨rb,0,none⟩),.int .u8 (cc:Int)] w K KP:=by
 apply sF;have ff:=aP3 ⟨cc,hcc⟩;simp only[hf,hkk,Option.getD_some]at ff;obtain⟨f1,f2,f3,f4,f5,f6,f7,f8⟩:=ff h1 h8;have hrd:pD b e cc pos=if e<pos+k then none else if(cc=0x56/\1<bO (sub b pos k))\/(cc=0x73/\nV (bO (sub b pos k))=false)then none
  else some (.mk kk (if vP kk then yS (sub b pos k)else bO (sub b pos k)) [] 0 [],pos+k):=by
  unfold pD;simp only[hf,hkk];rw[aD (c:=cc=0x94\/cc=0x98) (by omega),aD (c:=cc=0x41) f4]
 rw[hrd]at hk hp;have hI:iS cc=(kk:Int):=by unfold iS;rw[hkk]
 have hrb:=aH h.cells;have hoff:=h.off;have hlt:=h.rd.lt;have hel:=h.el;have hbl:=h.bl;refine bD λw1 b1 c1 z1=>?_;have cd:Ch (λ_=>False) w1 w1.drew:=Ch.d0;have c02:=c1.trans' cd;have h2:=h.ch0 c02;have b2:=(cd.blk (aH b1) id).trans b1;simp only[nn,add_at,aL,cO,dS];refine⟨_,aJ h2.cells 1 rfl,?_⟩;refine bZ (aI6 ⟨_,rfl,⟨_,aJ h2.cells 1 rfl,rfl⟩,?_⟩);refine bZ (uH ⟨_,rfl,?_⟩);rw[f1,hI];refine nT h2 h1 h8 (λhle w4 r4 c4=>⟨_,rfl,?_⟩) (λhlt=>?_)
 rotate_left
 ·exact((hp (by rw[aF hlt])).later c02 λ_ _ h=>h.elim).weak λ_ _ h=>h.elim
 have hsl:(sub b pos k).length=k:=by unfold Note.sub;rw[aU,aN];omega
 rw[aD]at hk hp;refine nbx (x:=one (kk:Int) (bO (sub b pos k)) []) rfl λw10 b10 c10 z10=>?_;have r10:=r4.ch0 c10;have c04:Ch (·=rb) w w4:=(c02.mono λ_ _ h=>h.elim).trans' c4;have c010:Ch (·=rb) w w10:=c04.new c10;have hz4:=c4.size;have hz04:=c04.size;have b4:=(c4.blk (aH b2) (by omega)).trans b2;have b4':=(c10.blk (aH b4) id).trans b4;have hab:=aH b4;have hbad:∀ {w':World} {S:Nat->Prop},(cc=0x56/\1<bO (sub b pos k))\/(cc=0x73/\nV (bO (sub b pos k))=false)->Ch (λj=>j=rb\/w.heap.size<=j) w w'->Bad KP (·=rb) w':=λhx hc=>((hp (by rw[aF hx])).later hc λj hj h=>by omega);refine⟨λw11=>¬((cc=0x56/\1<bO (sub b pos k))\/(cc=0x73/\nV (bO (sub b pos k))=false))/\blk w11 w4.heap.size=some (one (kk:Int) (if vP kk then yS (sub b pos k)else bO (sub b pos k)) []).g/\Ch (·=w4.heap.size) w10 w11,?_,?_⟩
 ·rintro w11 ⟨hx,hb11,hc11⟩;refine aBz hb11 ((hc11.blk (aH b4') (by omega)).trans b4') rfl λw16 c16=>?_;refine hk (one (kk:Int) (if vP kk then yS (sub b pos k)else bO (sub b pos k)) []) (pos+k) w16 (by rw[aD hx,rS]) (mI ..) (by rw[rT];simp) ?_ ?_
  ·refine(r10.ch hc11 (by omega) λa ha h0=>?_).ch c16 (by omega) λa ha h0=>?_
   ·have:=hlt a ha h0;omega
   ·have:=hlt a ha h0;omega
  ·exact(c010.trans hc11 λj hj h=>by omega).trans c16 λj hj h=>by omega
 refine⟨_,aJ b10 0 rfl,?_⟩;refine⟨λbb w11=>bb=decide (kk=6\/kk=7\/kk=8\/kk=9)/\w11=w10,?_,?_⟩
 rotate_left
 ·have ek:∀j:Nat,decide ((kk:Int)=(j:Int))=decide (kk=j):=λj=>decide_eq_decide.2 (by omega);have k6:decide ((kk:Int)=6)=decide (kk=6):=ek 6;have k7:decide ((kk:Int)=7)=decide (kk=7):=ek 7;have k8:decide ((kk:Int)=8)=decide (kk=8):=ek 8;have k9:decide ((kk:Int)=9)=decide (kk=9):=ek 9;show aS (decide ((kk:Int)=6)) _ _;rw[k6,k7,k8,k9];refine aC (λh=>⟨?_,rfl⟩) (λh6=>aC (λh=>⟨?_,rfl⟩) (λh7=>aC (λh=>⟨?_,rfl⟩) (λh8=>⟨?_,rfl⟩)))
  all_goals simp only[bA,gC]at *
  ·rw[aR h,aR (.inl h)]
  ·rw[aR h,aR (.inr (.inl h))]
  ·rw[aR h,aR (.inr (.inr (.inl h)))]
  ·exact decide_eq_decide.2 (by omega)
 rintro bb w11 ⟨rfl,rfl⟩;refine aC (λhs=>?_) (λhs=>?_)
 ·have hs:=aB hs;have hx:¬((cc=0x56/\1<bO (sub b pos k))\/(cc=0x73/\nV (bO (sub b pos k))=false)):=by
   rintro(⟨q,_⟩|⟨q,_⟩)
   ·have:=f5.2 q;omega
   ·have:=f6.2 q;omega
  have hsg:vP kk=true:=by rcases hs with rfl|rfl|rfl|rfl<;>rfl
  obtain⟨g1,g2⟩:=aYb f7 hsl;unfold sM at g1 g2;refine⟨_,aJ b10 1 rfl,g1,g1,?_⟩;refine eK b10 (by simp[one,MV.g]) λw12 b12 c12 z12=>⟨hx,?_,c12⟩;rw[b12];have:(one (kk:Int) (bO (sub b pos k)) []).n=bO (sub b pos k):=rfl;rw[aF hsg];unfold one MV.g;simp only[List.set];rw[<-g2]
 ·have hs:=aA hs;have hsv:(if vP kk then yS (sub b pos k)else bO (sub b pos k))=bO (sub b pos k):=by
   by_cases q:kk=16
   ·have h88:=f8 q;rw[q,aF (show vP 16=true by rfl),aNq hsl h1,aD]
   ·rw[_root_.if_neg];unfold vP;simp only[Bool.or_eq_true,bA];omega
  rw[hsv];have go:¬((cc=0x56/\1<bO (sub b pos k))\/(cc=0x73/\nV (bO (sub b pos k))=false))->¬((cc=0x56/\1<bO (sub b pos k))\/(cc=0x73/\nV (bO (sub b pos k))=false))/\blk w11 w4.heap.size=some (one (kk:Int) (bO (sub b pos k)) []).g/\Ch (·=w4.heap.size) w11 w11:=λhx=>⟨hx,b10,Ch.refl _ _⟩;have bad:(cc=0x56/\1<bO (sub b pos k))\/(cc=0x73/\nV (bO (sub b pos k))=false)->Bad KP (·=rb) w11:=λhx=>(hp (by rw[aF hx])).later c010 λ_ _ h=>h;show aS (decide ((kk:Int)=1)) _ _;refine aC (λh1=>?_) (λh1=>?_)
  ·have h1:=aB h1;have hc1:cc=0x56:=f5.1 (by omega);refine⟨_,aJ b10 1 rfl,aC (λhg=>eW (bad (.inl ⟨hc1,?_⟩)) (by decide)) (λhg=>go ?_)⟩
   ·have hg:=aB hg;have:((bO (sub b pos k):Nat):Int)>1:=hg;omega
   ·have hg:=aA hg;have:¬((bO (sub b pos k):Nat):Int)>1:=hg;omega
  ·have h1:=aA h1;have hc1:cc≠0x56:=λq=>h1 (by have:=f5.2 q;omega);refine aC (λh15=>?_) (λh15=>?_)
   ·have h15:=aB h15;have hc2:cc=0x73:=f6.1 (by omega);have hch:nV (bO (sub b pos k))=(decide (bO (sub b pos k)<=1114111) && (decide (bO (sub b pos k)<55296) || decide (57343<bO (sub b pos k)))):=rfl;have hN:∀ {q:Bool},nV (bO (sub b pos k))=q->(q=true↔bO (sub b pos k)<=1114111/\(bO (sub b pos k)<55296\/57343<bO (sub b pos k))):=by
     intro q hq;rw[<-hq,hch];simp
    have yes:bO (sub b pos k)<=1114111/\(bO (sub b pos k)<55296\/57343<bO (sub b pos k))->¬((cc=0x56/\1<bO (sub b pos k))\/(cc=0x73/\nV (bO (sub b pos k))=false)):=by
     rintro hy (⟨q,_⟩|⟨_,q⟩)
     ·exact hc1 q
     ·have:=(hN q).2 hy;cases this
    have no:¬(bO (sub b pos k)<=1114111/\(bO (sub b pos k)<55296\/57343<bO (sub b pos k)))->(cc=0x56/\1<bO (sub b pos k))\/(cc=0x73/\nV (bO (sub b pos k))=false):=by
     intro hy;refine .inr ⟨hc2,?_⟩;cases hq:nV (bO (sub b pos k))with
     | false=>rfl
     | true=>exact absurd ((hN hq).1 rfl) hy
    have cl:w11.cell? ⟨w4.heap.size,1,none⟩=some (.int .u64 (bO (sub b pos k):Int)):=aJ b10 1 rfl;refine⟨_,cl,aC (λg1=>⟨_,cl,aC (λg2=>⟨_,cl,aC (λg3=>eW (bad (no ?_)) (by decide)) (λg3=>go (yes ?_))⟩) (λg2=>go (yes ?_))⟩) (λg1=>eW (bad (no ?_)) (by decide))⟩
    all_goals simp only[bG,bF,bA,gC]at *
    all_goals omega
   ·have h15:=aA h15;exact go (by
     rintro(⟨q,_⟩|⟨q,_⟩)
     ·exact hc1 q
     ·exact h15 (by have:=f6.2 q;omega))
theorem uN{w:World}{p:Option Addr}{c j m:Nat}{l:Bs}(h:Rd w p l.length 1 (aV l))(hj:j+m<=l.length)(hc:l.length<=c):Rd w (gI p j c 1) m 1 (aV (Note.sub l j m)):=by
 obtain⟨h1,h2⟩:=h;unfold Note.sub;have hlen:((l.drop j).take m).length=m:=by rw[aU,aN];omega
 refine⟨by rw[bytesV_length,hlen];omega,?_⟩;by_cases hm:m=0
 ·exact .inl (by omega)
 rcases h2 with h2|⟨b,o,cs,rfl,hb,hl,ht⟩
 ·omega
 ·refine .inr ⟨b,o+j,cs,?_,hb,by omega,?_⟩
  ·unfold gI;rw[aD];simp
  ·have e:aV ((l.drop j).take m)=((aV l).drop j).take m:=by simp[aV,List.map_take,List.map_drop]
   rw[e,<-ht,List.drop_take,List.drop_drop,List.take_take];congr 1;omega
theorem aUl{w:World}{rb:Nat}{b:Bs}{p:Option Addr}{c pos e kk cc:Nat}{ov:Int}(h:RB w rb b p c pos e ov)(hL:LW w)(hr8:8<=rb)(hkc:dC cc=some kk)(hkk:kk=18\/kk=19\/kk=20){K:Value->World->Prop}{KP:List PanicEntry->World->Prop}
 (hk:RdK (vN b e cc pos) rb b p c e ov w K) (hp:RdP (vN b e cc pos) rb w KP):dL Tryz.prog 182 [.pointer (some ⟨rb,0,none⟩),.int .i64 (kk:Int),.int .i64 (bE cc:Int)] w K KP:=by
 apply sZ;have hW:bE cc=1\/bE cc=4:=by unfold bE;split<;>simp
 have hrd:vN b e cc pos=if e<pos+bE cc then none else if e<pos+bE cc+bO (Note.sub b pos (bE cc))then none
  else if aCc kk (Note.sub b (pos+bE cc) (bO (Note.sub b pos (bE cc))))then some (.mk kk 0 (Note.sub b (pos+bE cc) (bO (Note.sub b pos (bE cc)))) 0 [],pos+bE cc+bO (Note.sub b pos (bE cc)))else none:=by
  unfold vN;rw[hkc]
 rw[hrd]at hk hp;generalize hWe:bE cc=W at hW hk hp ⊢;have hrb:=aH h.cells;have hoff:=h.off;have hlt:=h.rd.lt;have hel:=h.el;have hbl:=h.bl;have hcap:=h.cap;refine bD λw1 b1 c1 z1=>?_;have h1:=h.ch0 c1;simp only[nn,add_at,aL,cO,dS];refine nT h1 (by omega) (by omega) (λhle w2 r2 c2=>⟨_,rfl,?_⟩) (λhlt=>?_)
 rotate_left
 ·exact((hp (by rw[aF hlt])).later c1 λ_ _ h=>h.elim).weak λ_ _ h=>h.elim
 have hsl:(Note.sub b pos W).length=W:=by unfold Note.sub;rw[aU,aN];omega
 rw[aD]at hk hp;have hN:=gP (Note.sub b pos W);rw[hsl]at hN;have hN:bO (Note.sub b pos W)<4294967296:=by rcases hW with rfl|rfl<;>omega
 generalize hNe:bO (Note.sub b pos W)=N at hN hk hp ⊢;rw[aW (n:=(N:Int)),nameI_iff];have c02:Ch (·=rb) w w2:=(c1.mono λ_ _ h=>h.elim).trans' c2;refine xM r2 (λhle2 w3 c3=>⟨rfl,?_⟩) (λhlt=>?_)
 rotate_left
 ·exact((hp (by rw[aF hlt])).later c02 λ_ _ h=>h).weak λ_ _ h=>h.elim
 rw[aD]at hk hp;have cd:Ch (λ_=>False) w3 w3.drew:=Ch.d0;have r3:=(r2.ch0 c3).ch0 cd;have c03:=(c02.new c3).new cd;have hrT:Rd w3.drew (gI p (pos+W) c 1) N 1 (aV (Note.sub b (pos+W) N)):=uN r3.rd (by omega) hcap;generalize hT:Note.sub b (pos+W) N=T at hrT hk hp;have hTl:T.length=N:=by have:=hrT.1;simpa using this
 have hz1:=z1;have hz03:=c03.size;have b3:=((c3.trans' cd).blk (aH ((c2.blk (aH b1) (by omega)).trans b1)) id).trans ((c2.blk (aH b1) (by omega)).trans b1);refine⟨_,_,_,aJ r3.cells 0 rfl,_,aJ r3.cells 1 rfl,_,aJ r3.cells 1 rfl,?_⟩;rw[aW (n:=((pos+W:Nat):Int)+(N:Int))];have t1:((pos+W:Nat):Int).toNat=pos+W:=aM _;have t2:(((pos+W:Nat):Int)+(N:Int)).toNat=pos+W+N:=by omega
 rw[t1,t2,show pos+W+N-(pos+W)=N by omega];refine⟨by omega,by omega,by omega,by omega,_,cD fD iL dN hrT,?_⟩;refine bD λw4 b4 c4 z4=>?_;have r4:=r3.ch0 c4;refine⟨⟨_,cD fD iL dN (hrT.ch c4 λ_ _ _=>id),rfl⟩,⟨_,aJ r4.cells 1 rfl,rfl⟩,⟨_,aJ r4.cells 1 rfl,rfl⟩,⟨_,_,_,aJ r4.cells 0 rfl,rfl⟩,?_⟩;have hrb3:=aH r3.cells;have b4a:=(c4.blk (aH b3) id).trans b3;have hab:=aH b3;refine st5 (x:=one (kk:Int) 0 T) b4 rfl λw9 b9 c9 z9=>?_;have r9:=r4.ch c9 (by omega) λa ha h0=>by have:=r3.rd.lt a ha h0;omega
 have b9a:=(c9.blk (aH b4a) (by omega)).trans b4a;have c09:Ch (·=rb) w w9:=(c03.new c4).trans c9 λj hj h=>by omega
 have hL9:=hL.chr hr8 c09;refine⟨λn5 w10=>aUd (aCc kk T) n5/\Ch (λ_=>False) w9 w10,?_,?_⟩
 ·rintro n5 w10 ⟨hpl,c10⟩;have r10:=r9.ch0 c10;have b10:=(c10.blk (aH b9) id).trans b9;have b10a:=(c10.blk (aH b9a) id).trans b9a;have c010:=c09.new c10;refine⟨λw11=>w11=w10/\aCc kk T=true,?_,?_⟩
  ·rintro w11 ⟨rfl,hok⟩;refine⟨_,aJ r10.cells 1 rfl,?_⟩;rw[aW (n:=((pos+W:Nat):Int)+(N:Int)),show((pos+W:Nat):Int)+(N:Int)=((pos+W+N:Nat):Int) by omega];refine r10.move (by omega) λw12 r12 c12=>?_;have b12:=(c12.blk (aH b10) (by omega)).trans b10;have b12a:=(c12.blk (aH b10a) (by omega)).trans b10a;refine aBz b12 b12a rfl λw17 c17=>?_;refine hk (one (kk:Int) 0 T) (pos+W+N) w17 (by rw[aF hok,rS]) (mI ..) (by rw[rT];simp) ?_ ?_
   ·refine r12.ch c17 (by omega) λa ha h0=>?_;have:=hlt a ha h0;omega
   ·exact(c010.trans' c12).trans c17 λj hj h=>by omega
  ·refine aC (λhg=>⟨_,aJ r10.cells 1 rfl,eW ((hp ?_).later c010 λ_ _ h=>h) (by decide)⟩) (λhg=>⟨by trivial,?_⟩)
   ·have hg:=aB hg;rw[_root_.if_neg];intro hok;have:=hpl.1 hok;omega
   ·have hg:=aA hg;cases hq:aCc kk T with
    | true=>rfl
    | false=>exact absurd (hpl.2 hq) hg
 ·have hTs:(⟨T.toArray⟩:ByteArray).data.toList=T:=by simp
  have hsz:(⟨T.toArray⟩:ByteArray).size=N:=by show T.toArray.size=N;simp[hTl]
  rcases hkk with rfl|rfl|rfl
  ·refine aC (λq=>absurd (aB q) (by decide)) (λ_=>aC (λq=>absurd (aB q) (by decide)) (λ_=>⟨⟨λ_=>rfl,λq=>(by have:aCc 18 T=true:=rfl;rw[this]at q;cases q)⟩,Ch.refl _ _⟩))
  ·refine aC (λ_=>⟨_,aJ b9 2 rfl,?_⟩) (λq=>absurd rfl (aA q));refine bZ (aDr (by rw[hsz];omega) hL9.ut (by have:=aH r9.cells;omega) λr w10 c10 hpl=>⟨_,rfl,?_,c10⟩);rw[hTs]at hpl;exact hpl
  ·refine aC (λq=>absurd (aB q) (by decide)) (λ_=>aC (λ_=>⟨_,aJ b9 2 rfl,?_⟩) (λq=>absurd rfl (aA q)));refine bZ (zK (by rw[hsz];omega) λr hpl=>⟨_,rfl,?_,Ch.refl _ _⟩);rw[hTs]at hpl;exact hpl
theorem aNz{w:World}{rb:Nat}{b:Bs}{p:Option Addr}{c pos e:Nat}{ov:Int}(h:RB w rb b p c pos e ov){K:Value->World->Prop}{KP:List PanicEntry->World->Prop}
 (hk:e<=pos->∀w',Ch (λ_=>False) w w'->K (.tuple #[]) w') (hp:pos<e->Bad KP (λ_=>False) w):dL Tryz.prog 252 [.pointer (some ⟨rb,0,none⟩)] w K KP:=by
 apply tB;have cd:Ch (λ_=>False) w w.drew:=Ch.d0;have h0:=(h.ch0 cd).cells;simp only[nn_some,add_at,aL];refine⟨_,aJ h0 1 rfl,_,aJ h0 2 rfl,?_⟩;refine aC (λhh=>⟨_,aJ h0 3 rfl,eW ((hp (by have:=aB hh;omega)).later cd λ_ _=>id) (by decide)⟩) (λhh=>hk (by have:=aA hh;omega) _ cd)
theorem aEq{w:World}{rb:Nat}{b:Bs}{p:Option Addr}{c pos e W least:Nat}{ov:Int}(h:RB w rb b p c pos e ov)(hW:W=1\/W=4)(hleast:least<=8){read:Value}{K:Value->World->Prop}{KP:List PanicEntry->World->Prop}{Post:World->World->Prop}{S:Nat->Prop}(hS:¬S rb)(hSp:∀a,p=some a->b.length*1≠0->¬S a.block)
 (hread:∀q,iQ b e pos W least=some q->∀(qb:Nat) (w4:World) (K1:Value->World->Prop),RB w4 qb b p c (pos+W) q (pos:Int)->w.heap.size<=qb->Ch (·=rb) w w4->w4.heap.size=qb+1 ->
   (∀pos' w5,RB w5 qb b p c pos' q (pos:Int)->Ch S w4 w5->Post w4 w5->K1 (.tuple #[]) w5)->jM Tryz.prog (some KP) read [.pointer (some ⟨qb,0,none⟩)] w4 K1)
 (hk:∀q w4 w5 w6,iQ b e pos W least=some q->Ch (·=rb) w w4->w.heap.size+1<=w4.heap.size->Ch S w4 w5->Post w4 w5->RB w6 rb b p c q e ov->Ch (·=rb) w5 w6->K (.tuple #[]) w6)
 (hp:iQ b e pos W least=none->Bad KP (·=rb) w):dL Tryz.prog 250 [.pointer (some ⟨rb,0,none⟩),.int .i64 (W:Int),.int .i64 (least:Int),read] w K KP:=by
 apply qZ;have hrb:=aH h.cells;have hel:=h.el;have hbl:=h.bl;have hlt:=h.rd.lt;simp only[nn_some,add_at,aL,cO];refine⟨_,aJ h.cells 1 rfl,?_⟩;unfold iQ at hread hk hp;refine nT h (by omega) (by omega) (λhle w1 r1 c1=>⟨_,rfl,?_⟩) (λhlt=>?_)
 rotate_left
 ·exact(hp (by rw[aF hlt])).weak λ_ _ h=>h.elim
 have hsl:(Note.sub b pos W).length=W:=by unfold Note.sub;rw[aU,aN];omega
 rw[aD]at hread hk hp;have hN:=gP (Note.sub b pos W);rw[hsl]at hN;have hN:bO (Note.sub b pos W)<4294967296:=by rcases hW with rfl|rfl<;>omega
 generalize hNe:bO (Note.sub b pos W)=N at hN hread hk hp ⊢;rw[aW (n:=(N:Int)),nameI_iff];refine⟨λw2=>w2=w1/\¬N<least,?_,aC (λhg=>eW ((hp (by rw[aF (by have:=aB hg;omega)])).later c1 λ_ _ h=>h) (by decide)) (λhg=>⟨by trivial,by have:=aA hg;omega⟩)⟩;rintro w2 ⟨rfl,hnl⟩;rw[aD hnl]at hread hk hp;refine xM r1 (λhle2 w3 c3=>⟨rfl,?_⟩) (λhlt=>((hp (by rw[aF hlt])).later c1 λ_ _ h=>h).weak λ_ _ h=>h.elim);rw[aD]at hread hk;have cd:Ch (λ_=>False) w3 w3.drew:=Ch.d0;have r3:=(r1.ch0 c3).ch0 cd;have c03:=(c1.new c3).new cd;refine⟨_,_,_,aJ r3.cells 0 rfl,_,aJ r3.cells 1 rfl,_,aJ r3.cells 1 rfl,?_⟩;rw[aW (n:=((pos+W:Nat):Int)+(N:Int)),show((pos+W:Nat):Int)+(N:Int)=((pos+W+N:Nat):Int) by omega];refine bD λw4 b4 c4 z4=>?_;have hz03:=c03.size;have r4:RB w4 w3.drew.heap.size b p c (pos+W) (pos+W+N) (pos:Int):=⟨b4,(r3.ch0 c4).rd,h.cap,by omega,by omega,h.bl,λa ha h0=>by have:=r3.rd.lt a ha h0;omega⟩;have rr4:=r3.ch0 c4;have c04:=c03.new c4;refine hread _ rfl _ w4 _ r4 (by omega) c04 z4 (λpos' w5 r5 c5 hpost=>⟨rfl,_,aJ r5.cells 2 rfl,?_⟩);have rr5:=rr4.ch c5 hS hSp;refine rr5.move (by omega) λw6 r6 c6=>?_;refine hk _ w4 w5 w6 rfl c04 (by have:w3.drew.heap.size=w3.heap.size:=rfl;omega) c5 hpost r6 c6
theorem aVv{w:World}{p:Option Addr}{n c z:Nat}{own:Option Nat}{R:List MV}{ty:TypeId}(h:VE.Row w p n c own R)(hz:blk w z=some (one 0 0 []).g)(h1:n+1<=2^41) :
 ∃p' c' w' own',Sem.run Tryz.prog (Builtin.append_ #[81,81] ty #[.slice p n c,.slice (some ⟨z,0,none⟩) 1 1]) w=.ok (.slice p' (n+1) c') w' /\
  Ow w' p' (n+1) c' 5 (R.flatMap MV.g++(one 0 0 []).g) own'/\(∀k,own'=some k->own=some k\/w.heap.size<=k)/\Ch (λb=>own=some b) w w':=by
 obtain⟨hl,ho,hr,hnd⟩:=h;have hgl:(one 0 0 []).g.length=1*5:=MV.glen _;have hrd:Rd w (some ⟨z,0,none⟩) 1 5 (one 0 0 []).g:=⟨hgl,.inr ⟨_,0,_,rfl,gX hz,by rw[hgl];omega,by rw[bS,aY (by rw[hgl];omega)]⟩⟩;obtain⟨p',c',w',own',r1,r2,r3,r4,_⟩:=uQ (ty:=ty) (c2:=1) aF6 aF6 aU3 rfl ho hrd (λu hu=>MV.gone _ u hu) (by omega) (by omega);exact⟨p',c',w',own',r1,r2,λk hk=>(r3 k hk).imp id λh=>by omega,r4⟩
theorem aC2{w:World}{p:Option Addr}{n c sz:Nat}{xs:List Value}{b:Option Nat}(h:Ow w p n c sz xs b){k o:Nat}(hp:p=some ⟨k,o,none⟩)(hb:b=some k){i:Nat}(hi:i<n*sz){v:Value}{K:World->Prop}(hK:∀w',Ow w' p n c sz (xs.set i v) b->Ch (·=k) w w'->K w'):Sv.st w ⟨k,o+i,none⟩ v K:=by
 obtain⟨k',o',h1,h2,h3⟩:=h.st hi;rw[hp]at h1;cases h1;exact h3 v K λw' h4 h5 _=>hK w' h4 h5
theorem aV3{w:World}{p:Option Addr}{n c:Nat}{L:List Value}(hL:L.length=n*5){own:Option Nat}{z x:MV}(h:Ow w p (n+1) c 5 (L++z.g) own) :
 ∃k o,p=some ⟨k,o,none⟩/\own=some k/\∀(K:World->Prop),(∀w',Ow w' p (n+1) c 5 (L++x.g) own->Ch (·=k) w w'->K w') ->
  Sv.st w ⟨k,o+n*5,none⟩ (.int .i64 x.k) λw1=>Sv.st w1 ⟨k,o+n*5+1,none⟩ (.int .u64 (x.n:Int)) λw2=>Sv.st w2 ⟨k,o+n*5+2,none⟩ (.string ⟨x.t.toArray⟩) λw3=>Sv.st w3 ⟨k,o+n*5+3,none⟩ (.slice x.s.p x.s.n x.s.c) λw4=>Sv.st w4 ⟨k,o+n*5+4,none⟩ (.int .i64 x.e) K:=by
 obtain⟨k,o,hp,hb,_⟩:=h.st (i:=n*5) (by omega);refine⟨k,o,hp,hb,λK hK=>?_⟩;simp only[Nat.add_assoc];refine aC2 h hp hb (i:=n*5) (by omega) λw1 o1 c1=>aC2 o1 hp hb (i:=n*5+1) (by omega) λw2 o2 c2=>aC2 o2 hp hb (i:=n*5+2) (by omega) λw3 o3 c3=>aC2 o3 hp hb (i:=n*5+3) (by omega) λw4 o4 c4=>aC2 o4 hp hb (i:=n*5+4) (by omega) λw5 o5 c5=>?_;refine hK w5 ?_ ((((c1.trans' c2).trans' c3).trans' c4).trans' c5);have e:(((((L++z.g).set (n*5) (.int .i64 x.k)).set (n*5+1) (.int .u64 (x.n:Int))).set (n*5+2) (.string ⟨x.t.toArray⟩)).set (n*5+3) (.slice x.s.p x.s.n x.s.c)).set (n*5+4) (.int .i64 x.e)=L++x.g:=by
  rw[<-hL,List.set_append_right _ _ (aQ _),List.set_append_right _ _ (by omega),List.set_append_right _ _ (by omega),List.set_append_right _ _ (by omega),List.set_append_right _ _ (by omega)];congr 1;obtain⟨zk,zn,zt,zs,ze,zl⟩:=z;obtain⟨xk,xn,xt,xs,xe,xl⟩:=x;simp[MV.g,MV.k,MV.n,MV.t,MV.s,MV.e]
 rw[e]at o5;exact o5
theorem aJu{w w':World}{p p':Option Addr}{n c c':Nat}{own own':Option Nat}{R:List MV}{x:MV}{S:Nat->Prop}(h:VE.Row w p n c own R)(hx:VO w x)(hd:∀b∈x.B,b ∉ VE.rowB own R)(ho:Ow w' p' (n+1) c' 5 (R.flatMap MV.g++x.g) own')
 (hn:∀k,own'=some k->own=some k\/w.heap.size<=k) (hc:Ch S w w') (hS:∀j,j<w.heap.size->S j->own=some j\/(j ∉ VE.rowB own R/\j ∉ x.B)) :
 VE.Row w' p' (n+1) c' own' (R++[x])/\∀b∈VE.rowB own' (R++[x]),b∈VE.rowB own R\/b∈x.B\/w.heap.size<=b:=by
 have hlt:=h.lt;obtain⟨hl,_,hr,hnd⟩:=h;subst hl;have hxl:∀b∈x.B,b<w.heap.size:=VO.lt x hx;have hRl:∀y∈R,∀b∈y.B,b<w.heap.size:=λy hy=>VO.lt y (hr y hy);have hnd2:∀b∈R.flatMap MV.B,own≠some b:=λb hb he=>by
  rw[dD,he]at hnd;exact(List.nodup_cons.1 hnd).1 hb
 have hnd3:(R.flatMap MV.B).Nodup:=(List.nodup_append.1 (by rw[dD]at hnd;exact hnd)).2.1;have e:(R++[x]).flatMap MV.g=R.flatMap MV.g++x.g:=by simp
 have eB:(R++[x]).flatMap MV.B=R.flatMap MV.B++x.B:=by simp
 have inR:∀ {b y},y∈R->b∈y.B->b∈R.flatMap MV.B:=λhy hb=>List.mem_flatMap.2 ⟨_,hy,hb⟩;refine⟨⟨by simp,by rw[show VE.g=MV.g by rfl,e];exact ho,λy hy=>?_,?_⟩,λb hb=>?_⟩
 ·rcases List.mem_append.1 hy with hy|hy
  ·exact VO.ch hc y (hr y hy) λb hb he=>by
    rcases hS b (hRl y hy b hb) he with q|⟨q,_⟩
    ·exact hnd2 b (inR hy hb) q
    ·exact q (by rw[dD];exact List.mem_append.2 (.inr (inR hy hb)))
  ·rw[List.mem_singleton.1 hy];exact VO.ch hc x hx λb hb he=>by
    rcases hS b (hxl b hb) he with q|⟨_,q⟩
    ·exact hd b hb (by rw[dD,q];simp)
    ·exact q hb
 ·have base:((R++[x]).flatMap MV.B).Nodup:=by
   rw[eB];refine List.nodup_append.2 ⟨hnd3,hx.inv.2.2.2.2,λa ha b hb he=>?_⟩;subst he;exact hd a hb (by rw[dD];exact List.mem_append.2 (.inr ha))
  rw[dD];cases own' with
  | none=>simpa using base
  | some k =>
   show(k::((R++[x]).flatMap MV.B)).Nodup;refine List.nodup_cons.2 ⟨λhm=>?_,base⟩;rw[eB]at hm;rcases hn k rfl with q|q
   ·rcases List.mem_append.1 hm with hm|hm
    ·exact hnd2 k hm q
    ·exact hd k hm (by rw[dD,q];simp)
   ·rcases List.mem_append.1 hm with hm|hm
    ·obtain⟨y,hy,hy2⟩:=List.mem_flatMap.1 hm;have:=hRl y hy k hy2;omega
    ·have:=hxl k hm;omega
 ·rw[dD,eB]at hb;rcases List.mem_append.1 hb with hb|hb
  ·rcases hn b (by simpa[Option.mem_toList]using hb)with q|q
   ·exact .inl (by rw[dD,q];simp)
   ·exact .inr (.inr q)
  ·rcases List.mem_append.1 hb with hb|hb
   ·exact .inl (by rw[dD];exact List.mem_append.2 (.inr hb))
   ·exact .inr (.inl hb)
def vF(k:Int)(e:Int)(p:Option Addr)(n c:Nat):List Value:=[.int .i64 k,.int .u64 0,.string ⟨#[]⟩,.slice p n c,.int .i64 e]
theorem aU6{w:World}{vb z:Nat}{k e:Int}{p:Option Addr}{n c:Nat}{own:Option Nat}{R:List MV}{x:MV}{ty:TypeId}(hv:blk w vb=some (vF k e p n c))(hr:VE.Row w p n c own R)(hz:blk w z=some (one 0 0 []).g)(hx:VO w x)
 (hd:∀b∈x.B,b ∉ VE.rowB own R) (hvb:vb ∉ VE.rowB own R) (hvx:vb ∉ x.B) (h1:n+1<=2^41) {K:World->Prop}
 (hk:∀p' c' own' w',blk w' vb=some (vF k e p' (n+1) c')->VE.Row w' p' (n+1) c' own' (R++[x])->(∀b∈VE.rowB own' (R++[x]),b∈VE.rowB own R\/b∈x.B\/w.heap.size<=b)->Ch (λb=>b=vb\/own=some b) w w'->K w') :
 ∃p2 n10 c2 w6,Sem.run Tryz.prog (Builtin.append_ #[81,81] ty #[.slice p n c,.slice (some ⟨z,0,none⟩) 1 1]) w=.ok (.slice p2 n10 c2) w6/\(0:Int)<=(n:Int)/\(n:Int)<(n10:Int)/\nn p2 λa4 =>
  (Sv.st w6 (Addr.add (Addr.add a4 (Int.toNat (n:Int)*5)) 0) (.int .i64 x.k) λw7=>Sv.st w7 (Addr.add (Addr.add a4 (Int.toNat (n:Int)*5)) 1) (.int .u64 (x.n:Int)) λw8=>Sv.st w8 (Addr.add (Addr.add a4 (Int.toNat (n:Int)*5)) 2) (.string ⟨x.t.toArray⟩) λw9=>Sv.st w9 (Addr.add (Addr.add a4 (Int.toNat (n:Int)*5)) 3) (.slice x.s.p x.s.n x.s.c) λw10=>Sv.st w10 (Addr.add (Addr.add a4 (Int.toNat (n:Int)*5)) 4) (.int .i64 x.e) λw11=>Sv.st w11 ⟨vb,3,none⟩ (.slice p2 n10 c2) λw12=>K w12) /\
  Sv.st w6 ⟨vb,3,none⟩ (.slice p2 n10 c2) λw7=>Sv.st w7 (Addr.add (Addr.add a4 (Int.toNat (n:Int)*5)) 0) (.int .i64 x.k) λw8=>Sv.st w8 (Addr.add (Addr.add a4 (Int.toNat (n:Int)*5)) 1) (.int .u64 (x.n:Int)) λw9=>Sv.st w9 (Addr.add (Addr.add a4 (Int.toNat (n:Int)*5)) 2) (.string ⟨x.t.toArray⟩) λw10=>Sv.st w10 (Addr.add (Addr.add a4 (Int.toNat (n:Int)*5)) 3) (.slice x.s.p x.s.n x.s.c) λw11=>Sv.st w11 (Addr.add (Addr.add a4 (Int.toNat (n:Int)*5)) 4) (.int .i64 x.e) λw12=>K w12:=by
 have hRl:(R.flatMap MV.g).length=n*5:=by rw[mB MV.glen,hr.1]
 have hvl:=aH hv;obtain⟨p',c',w6,own',r1,r2,r3,r4⟩:=aVv (ty:=ty) hr hz h1;refine⟨p',_,c',w6,r1,by omega,by omega,?_⟩;have hvn:own≠some vb:=λq=>hvb (by rw[dD,q];simp);have hv6:=(r4.blk hvl hvn).trans hv;have hz6:=r4.size;have hov:∀k0,own'=some k0->k0≠vb:=λk0 hk0 q=>by
  rcases r3 k0 hk0 with h|h
  ·exact hvn (by rw[h,q])
  ·omega
 have hS:∀j,j<w.heap.size->(j=vb\/own=some j)->own=some j\/(j ∉ VE.rowB own R/\j ∉ x.B):=λj hj h=>by
  rcases h with rfl|h
  ·exact .inr ⟨hvb,hvx⟩
  ·exact .inl h
 obtain⟨k0,o,hp,hb,hst⟩:=aV3 (x:=x) hRl r2;have hk0:=hov k0 hb;rw[hp];simp only[nn_some,add_at,aM,cO];rw[<-hp];have ck:∀j,j<w.heap.size->j=k0->own=some j:=λj hj q=>by
  rcases r3 k0 hb with h|h
  ·rw[q];exact h
  ·omega
 constructor
 ·refine hst _ λw11 o11 c11=>?_;have hv11:=(c11.blk (aH hv6) (Ne.symm hk0)).trans hv6;refine eK hv11 (by simp[vF]) λw12 b12 c12 z12=>?_;have hc:Ch (λb=>b=vb\/own=some b) w w12:=((r4.mono λ_ _ h=>.inr h).trans c11 λj hj q=>.inr (ck j hj q)).trans c12 λj hj q=>.inl q;obtain⟨g1,g2⟩:=aJu hr hx hd (o11.ch c12 λj hj q=>hov j hj q) r3 hc hS;exact hk _ _ _ w12 (by rw[b12];rfl) g1 g2 hc
 ·refine eK hv6 (by simp[vF]) λw7 b7 c7 z7=>?_;obtain⟨k1,o1,hp1,hb1,hst1⟩:=aV3 (x:=x) hRl (r2.ch c7 λj hj q=>hov j hj q);rw[hp]at hp1;cases hp1;refine hst1 _ λw12 o12 c12=>?_;have hc:Ch (λb=>b=vb\/own=some b) w w12:=((r4.mono λ_ _ h=>.inr h).trans c7 λj hj q=>.inl q).trans c12 λj hj q=>.inr (ck j hj q);obtain⟨g1,g2⟩:=aJu hr hx hd o12 r3 hc hS;refine hk _ _ _ w12 ?_ g1 g2 hc;rw[c12.blk (aH b7) (Ne.symm hk0),b7];rfl
def aXa(rd:Nat->Option (M × Nat))(b:Bs)(p:Option Addr)(c e:Nat)(ov:Int)(N start qb vb:Nat)(k el:Int)(w:World)(i:Nat)(w3:World):Prop :=
 ∃(R:List MV) (pR:Option Addr) (cR:Nat) (own:Option Nat) (a:Nat),fA rd N start []=fA rd (N-i) a (R.map MV.m)/\blk w3 vb=some (vF k el pR i cR)/\VE.Row w3 pR i cR own R/\(∀b∈VE.rowB own R,w.heap.size<=b)/\RB w3 qb b p c a e ov/\Ch (λj=>j=qb\/j=vb) w w3
theorem aMs{rd:Nat->Option (M × Nat)}{n a:Nat}{acc:List M}{m:M}{t:Nat}(h:rd a=some (m,t)):fA rd (n+1) a acc=fA rd n t (acc++[m]):=by rw[fA,h]
theorem aDx{rd:Nat->Option (M × Nat)}{n a:Nat}{acc:List M}(h:rd a=none):fA rd (n+1) a acc=none:=by rw[fA,h]
theorem uJ{rd:Nat->Option (M × Nat)}{b:Bs}{p:Option Addr}{c e:Nat}{ov:Int}{N start qb vb:Nat}{k el:Int}{w w3 w5:World}{i:Nat}{R:List MV}{pR:Option Addr}{cR:Nat}{own:Option Nat}{a:Nat}{x:MV}{t z:Nat}{ty:TypeId}
 (hqv:qb≠vb) (hq:qb<w.heap.size) (hv:vb<w.heap.size) (hpv:∀a,p=some a->b.length*1≠0->a.block<w.heap.size/\a.block≠vb) (hi:i<N) (hN:N<4294967296)
 (h1:fA rd N start []=fA rd (N-i) a (R.map MV.m)) (h2:blk w3 vb=some (vF k el pR i cR)) (h3:VE.Row w3 pR i cR own R) (h4:∀b∈VE.rowB own R,w.heap.size<=b) (h6:Ch (λj=>j=qb\/j=vb) w w3)
 (hrd:rd a=some (x.m,t)) (hx:VO w5 x) (hxb:∀k∈x.B,w3.heap.size<=k) (hR:RB w5 qb b p c t e ov) (c5:Ch (·=qb) w3 w5) (hz:blk w5 z=some (one 0 0 []).g) {K:World->Prop} (hk:∀w12,aXa rd b p c e ov N start qb vb k el w (i+1) w12->K w12) :
 ∃p2 n10 c2 w6,Sem.run Tryz.prog (Builtin.append_ #[81,81] ty #[.slice pR i cR,.slice (some ⟨z,0,none⟩) 1 1]) w5=.ok (.slice p2 n10 c2) w6/\(0:Int)<=(i:Int)/\(i:Int)<(n10:Int)/\nn p2 λa4 =>
  (Sv.st w6 (Addr.add (Addr.add a4 (Int.toNat (i:Int)*5)) 0) (.int .i64 x.k) λw7=>Sv.st w7 (Addr.add (Addr.add a4 (Int.toNat (i:Int)*5)) 1) (.int .u64 (x.n:Int)) λw8=>Sv.st w8 (Addr.add (Addr.add a4 (Int.toNat (i:Int)*5)) 2) (.string ⟨x.t.toArray⟩) λw9=>Sv.st w9 (Addr.add (Addr.add a4 (Int.toNat (i:Int)*5)) 3) (.slice x.s.p x.s.n x.s.c) λw10=>Sv.st w10 (Addr.add (Addr.add a4 (Int.toNat (i:Int)*5)) 4) (.int .i64 x.e) λw11=>Sv.st w11 ⟨vb,3,none⟩ (.slice p2 n10 c2) λw12=>K w12) /\
  Sv.st w6 ⟨vb,3,none⟩ (.slice p2 n10 c2) λw7=>Sv.st w7 (Addr.add (Addr.add a4 (Int.toNat (i:Int)*5)) 0) (.int .i64 x.k) λw8=>Sv.st w8 (Addr.add (Addr.add a4 (Int.toNat (i:Int)*5)) 1) (.int .u64 (x.n:Int)) λw9=>Sv.st w9 (Addr.add (Addr.add a4 (Int.toNat (i:Int)*5)) 2) (.string ⟨x.t.toArray⟩) λw10=>Sv.st w10 (Addr.add (Addr.add a4 (Int.toNat (i:Int)*5)) 3) (.slice x.s.p x.s.n x.s.c) λw11=>Sv.st w11 (Addr.add (Addr.add a4 (Int.toNat (i:Int)*5)) 4) (.int .i64 x.e) λw12=>K w12:=by
 have hz3:=h6.size;have hz5:=c5.size;have hRl:=h3.lt;refine aU6 ((c5.blk (by omega) (Ne.symm hqv)).trans h2) (h3.ch c5 λb hb q=>by have:=h4 b hb;omega) hz hx (λb hb hb2=>?_) (λq=>by have:=h4 _ q;omega) (λq=>by have:=hxb _ q;omega) (by omega) λp' c' own' w12 g1 g2 g3 g4=>hk w12 ?_
 ·have:=hxb b hb;have:=hRl b hb2;omega
 ·refine⟨R++[x],p',c',own',t,?_,g1,g2,λb hb=>?_,hR.ch g4 (λq=>?_) λa ha h0 q=>?_,(h6.trans c5 λj hj q=>.inl q).trans g4 λj hj q=>?_⟩
  ·rw[h1,show N-i=N-(i+1)+1 by omega,aMs hrd,List.map_append];rfl
  ·rcases g3 b hb with h|h|h
   ·exact h4 b h
   ·have:=hxb b h;omega
   ·omega
  ·rcases q with q|q
   ·exact hqv q
   ·have:=h4 qb (by rw[dD,q];simp);omega
  ·obtain⟨q1,q2⟩:=hpv a ha h0;rcases q with q|q
   ·exact q2 q
   ·have:=h4 a.block (by rw[dD,q];simp);omega
  ·rcases q with q|q
   ·exact .inr q
   ·have:=h4 j (by rw[dD,q];simp);omega
def aQq(b:Bs)(p:Option Addr)(c d:Nat):Prop:=∀(rb pos e:Nat) (ov:Int) (w:World) (K:Value->World->Prop) (KP:List PanicEntry->World->Prop),RB w rb b p c pos e ov->LW w->8<=rb ->
 RdK (uC b d e pos) rb b p c e ov w K->RdP (uC b d e pos) rb w KP->dL Tryz.prog 87 [.pointer (some ⟨rb,0,none⟩),.int .i64 (33-(d:Int))] w K KP
theorem aN5{w w':World}{S:Nat->Prop}(h:LW w)(c:Ch S w w')(hs:∀j,S j->8<=j):LW w':=h.ch c λb hb q=>by have:=hs b q;omega
theorem aOx{n:Nat}:Int.tmod (n:Int) 2=((n%2:Nat):Int):=by
 rw[Int.tmod_eq_emod_of_nonneg (by omega)];omega
theorem aOy{n:Nat}:Int.tdiv (n:Int) 2=((n / 2:Nat):Int):=by
 rw[Int.tdiv_eq_ediv_of_nonneg (by omega)];omega
theorem aRf{b:Bs}{p:Option Addr}{c d:Nat}(hV:aQq b p c d)(hd:d<=32){w:World}{qb pos e W wb kb ob vb db:Nat}{ov own0 kind:Int}(h:RB w qb b p c pos e ov)(hL:LW w)(hq8:8<=qb)(hv8:8<=vb)(hW:W=1\/W=4)(hle:pos+W<=e)
 (bw:blk w wb=some [.int .i64 (W:Int)]) (bk:blk w kb=some [.int .i64 kind]) (bo:blk w ob=some [.int .i64 own0]) (bd:blk w db=some [.int .i64 (32-(d:Int))]) (bv:blk w vb=some (vF kind 0 none 0 0))
 (hne:qb≠wb/\qb≠kb/\qb≠ob/\qb≠vb/\qb≠db/\vb≠wb/\vb≠kb/\vb≠ob/\vb≠db) (hpv:∀a,p=some a->b.length*1≠0->a.block≠vb) {K:Value->World->Prop} {KP:List PanicEntry->World->Prop}
 (hk:∀(R:List MV) pR cR own a w',¬(kind=22/\(bO (Note.sub b pos W)%2≠0\/1024<bO (Note.sub b pos W) / 2))->fA (uC b d e) (bO (Note.sub b pos W)) (pos+W) []=some (R.map MV.m,a)->e<=a->blk w' vb=some (vF kind 0 pR R.length cR)->VE.Row w' pR R.length cR own R ->
   (∀b∈VE.rowB own R,w.heap.size<=b)->RB w' qb b p c a e ov->Ch (λj=>j=qb\/j=vb) w w'->K (.tuple #[]) w')
 (hp:((kind=22/\(bO (Note.sub b pos W)%2≠0\/1024<bO (Note.sub b pos W) / 2))\/fA (uC b d e) (bO (Note.sub b pos W)) (pos+W) []=none\/∃l a,fA (uC b d e) (bO (Note.sub b pos W)) (pos+W) []=some (l,a)/\a<e)->Bad KP (λj=>j=qb\/j=vb) w) :
 dL Tryz.prog 251 [.pointer (some ⟨qb,0,none⟩),.pointer (some ⟨wb,0,none⟩),.pointer (some ⟨kb,0,none⟩),.pointer (some ⟨ob,0,none⟩),.pointer (some ⟨vb,0,none⟩),.pointer (some ⟨db,0,none⟩)] w K KP:=by
 apply rA;have hel:=h.el;have hbl:=h.bl;have hlt:=h.rd.lt;have lq:=aH h.cells;have lv:=aH bv;obtain⟨n1,n2,n3,n4,n5,n6,n7,n8,n9⟩:=hne;simp only[nn_some,add_at,aL,cO];refine⟨_,aJ bw 0 rfl,?_⟩;refine nT h (by omega) (by omega) (λ_ w1 r1 c1=>⟨_,rfl,?_⟩) (λhlt=>by omega);have hsl:(Note.sub b pos W).length=W:=by unfold Note.sub;rw[aU,aN];omega
 have hN:=gP (Note.sub b pos W);rw[hsl]at hN;have hN:bO (Note.sub b pos W)<4294967296:=by rcases hW with rfl|rfl<;>omega
 generalize hNe:bO (Note.sub b pos W)=N at hN hk hp ⊢;rw[aW (n:=(N:Int)),nameI_iff];have hp1:=λq=>(hp q).later c1 λj hj h=>.inl h;have k1:=(c1.blk (aH bk) (Ne.symm n2)).trans bk;have o1:=(c1.blk (aH bo) (Ne.symm n3)).trans bo;have v1:=(c1.blk (aH bv) (Ne.symm n4)).trans bv;have d1:=(c1.blk (aH bd) (Ne.symm n5)).trans bd;refine⟨λw2=>w2=w1/\¬(kind=22/\(N%2≠0\/1024<N / 2)),?_,?_⟩
 rotate_left
 ·refine⟨_,aJ k1 0 rfl,?_⟩;simp only[bne,dS];refine aC (λhg=>⟨by trivial,λq=>?_⟩) (λhg=>⟨by decide,?_⟩)
  ·have hg:¬kind=22:=by simpa using hg
   exact hg q.1
  have hg:kind=22:=by simpa using hg
  rw[aOx,aOy,aW (n:=((N / 2:Nat):Int))];refine aC (λhm=>⟨_,aJ o1 0 rfl,eW (hp1 (.inl ⟨hg,.inl ?_⟩)) (by decide)⟩) (λhm=>⟨by decide,aC (λhq=>⟨_,aJ o1 0 rfl,eW (hp1 (.inl ⟨hg,.inr ?_⟩)) (by decide)⟩) (λhq=>⟨by trivial,λq=>?_⟩)⟩)
  ·have hm:¬((N%2:Nat):Int)=0:=by simpa using hm
   omega
  ·have hq:=aB hq;omega
  ·have hm:((N%2:Nat):Int)=0:=by simpa using hm
   have hq:=aA hq;omega
 rintro w2 ⟨rfl,hmap⟩;have hp1:=λq=>hp1 (.inr q);refine⟨λm n3 w3=>∃i:Nat,n3=(i:Int)/\i<=N/\m=N-i/\aXa (uC b d e) b p c e ov N (pos+W) qb vb kind 0 w i w3,⟨N,0,rfl,bQ _,rfl,[],none,0,none,pos+W,rfl,v1,El.Row.nil,by simp[dD],r1,c1.mono λ_ _ h=>.inl h⟩,?_⟩;rintro m n3 w3 ⟨i,rfl,hi,rfl,R,pR,cR,own,a,g1,g2,g3,g4,g5,g6⟩;refine aC (λhg=>?_) (λhg=>?_)
 ·have hg:=aB hg;have hiN:i<N:=by omega
  have cd:Ch (λ_=>False) w3 w3.drew:=Ch.d0;have d3:=(g6.blk (aH bd) (by omega)).trans bd;have d3d:=(cd.blk (aH d3) id).trans d3;have g2d:=(cd.blk (aH g2) id).trans g2;have g5d:=g5.ch0 cd;have hLd:LW w3.drew:=aN5 hL (g6.new cd) λj hj=>by rcases hj with rfl|rfl<;>assumption
  have hpa:∀a,p=some a->b.length*1≠0->a.block<w.heap.size/\a.block≠vb:=λa ha h0=>⟨hlt a ha h0,hpv a ha h0⟩;have hz3:=g6.size;have hbad:uC b d e a=none->Bad KP (λj=>j=qb\/j=vb) w3.drew:=λq=>(hp (.inr (.inl (by rw[g1,show N-i=N-(i+1)+1 by omega,aDx q])))).later (g6.new cd) λj hj h=>h;have hdep:IntKind.wrap .i64 (32-(d:Int)+1)=33-(d:Int):=by rw[aW];omega
  refine⟨_,_,_,aJ g2d 3 rfl,_,aJ d3d 0 rfl,?_,?_⟩
  ·rw[hdep];refine hV qb a e ov _ _ _ g5d hLd hq8 (λx t w4 hrd hvo hxb r4 c4=>is5 ?_) λq=>(hbad q).weak λj hj h=>.inl h;have v4:=(c4.blk (aH g2d) (Ne.symm n4)).trans g2d;refine⟨⟨_,_,_,aJ v4 3 rfl,rfl⟩,?_⟩;refine bD λw5 b5 c5 z5=>?_;have v5:=(c5.blk (aH v4) id).trans v4;refine⟨⟨_,_,_,aJ v5 3 rfl,rfl⟩,?_⟩;refine uJ n4 lq lv hpa hiN hN g1 g2 g3 g4 g6 hrd (VO.ch c5 x hvo λ_ _=>id) hxb (r4.ch0 c5) (((cd.mono λ_ _ h=>h.elim).trans' c4).new c5) b5 λw12 hG=>⟨N-(i+1),by omega,i+1,by rw[aW (n:=(i:Int)+1)];omega,by omega,rfl,hG⟩
  ·refine bD λw4 b4 c4 z4=>?_;have g24:=(c4.blk (aH g2d) id).trans g2d;have d34:=(c4.blk (aH d3d) id).trans d3d;refine⟨⟨_,aJ d34 0 rfl,rfl⟩,⟨_,_,_,aJ g24 3 rfl,rfl⟩,?_⟩;rw[hdep];have hzd:w3.drew.heap.size=w3.heap.size:=rfl;refine hV qb a e ov _ _ _ (g5d.ch0 c4) (hLd.ch0 c4) hq8 (λx t w5 hrd hvo hxb r5 c5=>is5 ?_) λq=>((hbad q).later c4 λj hj h=>h.elim).weak λj hj h=>.inl h;have v5:=(c5.blk (aH g24) (Ne.symm n4)).trans g24;refine⟨⟨_,_,_,aJ v5 3 rfl,rfl⟩,?_⟩;refine uJ n4 lq lv hpa hiN hN g1 g2 g3 g4 g6 hrd hvo (λk hk=>by have:=hxb k hk;omega) r5 (((cd.mono λ_ _ h=>h.elim).new c4).trans' c5) ((c5.blk (aH b4) (by have:=aH g5.cells;omega)).trans b4) λw12 hG=>⟨N-(i+1),by omega,i+1,by rw[aW (n:=(i:Int)+1)];omega,by omega,rfl,hG⟩
 ·have hg:=aA hg;have hiN:i=N:=by omega
  subst hiN;rw[Nat.sub_self]at g1;have g1:fA (uC b d e) i (pos+W) []=some (R.map MV.m,a):=g1;refine aNz g5 (λhea w4 c4=>⟨rfl,?_⟩) λhae=>((hp (.inr (.inr ⟨_,_,g1,hae⟩))).later g6 λj hj h=>h).weak λj hj h=>h.elim;have hRl:=g3.1;subst hRl;exact hk R pR cR own a w4 hmap g1 hea ((c4.blk (aH g2) id).trans g2) (g3.ch c4 λ_ _=>id) g4 (g5.ch0 c4) (g6.new c4)
open Go.MapKept
theorem int_info:InfoIs Tryz.prog 3 1 8 (.int .i64 0):=.of (by kernel_rfl) (by kernel_rfl) (by kernel_rfl)
def aGd(y:M):Value × Value:=(.string ⟨(gV y).toArray⟩,.int .i64 1)
theorem aPc{x y:M}(hx:Gq x)(hy:Gq y)(h:(aGd x).1=(aGd y).1):x=y:=by
 unfold aGd at h;simp only[Value.string.injEq]at h;have:(gV x).toArray=(gV y).toArray:=by injection h
 exact aVh hx hy (by simpa using this)
theorem aQa{Q:Nat->Prop}{w:World}{p:Option Addr}{n c:Nat}{l:List MV}(h:VRow Q w p n l)(hg:∀x∈l,Gq x.m)(hev:n%2=0){K:Value->World->Prop}(hk:∀w',Ch (λ_=>False) w w'->K (.bool (!decide (fS (l.map MV.m)).Nodup)) w') :
 bK Tryz.prog 253 [.slice p n c] w K:=by
 apply aDj;have hln:=h.1;have hn46:=h.2.1;have hml:(l.map MV.m).length=n:=by rw[eI];exact hln
 obtain⟨keys,hkeys⟩:∃ks,ks=fS (l.map MV.m):=⟨_,rfl⟩;have hkl:keys.length=n / 2:=by rw[hkeys,tM _ (by rw[hml];exact hev),hml]
 have hget:∀i,keys[i]?=(l[2*i]?).map MV.m:=λi=>by rw[hkeys,lL _ i (by rw[hml];exact hev),dH]
 have hgk:∀y∈keys,Gq y:=λy hy=>by
  obtain⟨i,hi⟩:=List.getElem?_of_mem hy;rw[hget]at hi;cases hx:l[2*i]? with
  | none=>rw[hx]at hi;cases hi
  | some x=>rw[hx]at hi;cases hi;exact hg x (bJ hx)
 rw[<-hkeys]at hk;obtain⟨w1,hr,hm,c1,z1⟩:=aKe Tryz.prog 268 .string w;refine⟨some w.heap.size,w1,hr,?_⟩;refine⟨λm i w2=>∃ii:Nat,i=((2*ii:Nat):Int)/\2*ii<=n/\m=n-2*ii/\Ch (λ_=>False) w w2/\Mp .string w2 w.heap.size ((keys.take ii).map aGd)/\(keys.take ii).Nodup,⟨n,0,rfl,bQ _,rfl,c1,by simpa using hm,by simp⟩,?_⟩;rintro m i w2 ⟨ii,rfl,hii,rfl,c2,hm2,hnd⟩;refine aC (λhlt=>?_) (λhge=>?_)
 ·have hil:2*ii<n:=by have:=aB hlt;omega
  obtain⟨x,hxi⟩:∃x,l[2*ii]?=some x:=⟨l[2*ii]'(by omega),aK _⟩;have hxk:keys[ii]?=some x.m:=by rw[hget,hxi];rfl
  have hxm:=bJ hxi;have hxg:=hg x hxm;have hr2:=h.ch0 c2;obtain⟨bx,ox,px,_,ax⟩:=hr2.at hxi;refine⟨by omega,by omega,?_⟩;rw[px];simp only[nn_some,add_at,aM,aL];refine rd5 ax ?_;rw[vv x];have hgl:=zS hxg;have hQ:VRow (λb=>Q b/\b<w.heap.size) w p n l:=h.lt;have hv2:VR (λb=>Q b/\b<w.heap.size) w2 x:=(hQ.ch0 c2).2.2.2.2 x hxm;refine(aNx x).1 hv2 hxg (Gw.nil w2) (λb _ q=>by cases q) (by omega) λp3 n3 c3 own3 w3 g3=>⟨_,_,_,rfl,?_⟩;rw[aX]at g3;have c23:=g3.ch0;have hm3:=hm2.ch c23 id;refine⟨_,cD fD iL dN g3.ow.rd,?_⟩;have c03:=c2.trans' c23;have hkey:(aGd x.m).1=.string ⟨(gV x.m).toArray⟩:=rfl;have hnx:keys.take (ii+1)=keys.take ii++[x.m]:=by rw[kG,hxk];rfl
  rcases aMu Tryz.underlying268 Tryz.underlying9 (int_info.zero w3) hm3 (k:=.string ⟨(gV x.m).toArray⟩) trivial with⟨v,hv,h1,_⟩|⟨hno,h1,_⟩
  ·obtain⟨y,hy,he⟩:=List.mem_map.1 hv;have hvv:v=.int .i64 1:=by
    have:=congrArg Prod.snd he;exact this.symm
   subst hvv;refine⟨_,h1,cG (by decide) ?_⟩;have hyx:y=x.m:=aPc (hgk y (List.mem_of_mem_take hy)) hxg (congrArg Prod.fst he);have hnn:¬keys.Nodup:=λhd=>by
    have h2:(keys.take (ii+1)).Nodup:=hd.sublist (List.take_sublist _ _);rw[hnx]at h2;exact(List.nodup_append.1 h2).2.2 y hy x.m (by simp) hyx
   have:=hk w3 c03;rw[bB hnn]at this;exact this
  ·refine⟨_,h1,xA (by decide) ⟨_,h1,?_⟩⟩;obtain⟨w4,m4,u1,u2,u3,_,u5⟩:=aLy Tryz.underlying268 Tryz.underlying9 hm3 (k:=.string ⟨(gV x.m).toArray⟩) trivial (.int .i64 1);refine⟨w4,u1,?_⟩;rw[aW (n:=((2*ii:Nat):Int)+2)];show cF _ _;rw[nameI_iff];refine⟨n-2*(ii+1),by omega,ii+1,by omega,by omega,rfl,c03.trans u3 λj hj q=>by omega,?_,?_⟩
   ·rcases u5 with⟨l1,v0,l2,e1,_⟩|⟨_,e1⟩
    ·exact absurd rfl (hno (.string ⟨(gV x.m).toArray⟩,v0) (by rw[e1];simp))
    ·rw[hnx,List.map_append];rw[e1]at u2;exact u2
   ·rw[hnx];refine List.nodup_append.2 ⟨hnd,by simp,λa ha b hb e=>?_⟩;rw[List.mem_singleton]at hb;subst hb;subst e;exact hno (aGd x.m) (List.mem_map.2 ⟨_,ha,rfl⟩) rfl
 ·have hiN:2*ii=n:=by have:=aA hge;omega
  have hfull:keys.take ii=keys:=aY (by omega);rw[hfull]at hnd;have:=hk w2 c2;rw[aR hnd]at this;exact this
end Go.Proofs.YtlfhjkgdlclddaaGreatDoor
namespace Go.Proofs.YtlfhjkgdlclddaaGreatDoor
open Go Go.Sv Go.Note
attribute [local irreducible] aS
theorem ifc{α:Type}{p q:Prop}[Decidable p][Decidable q]{a b c d:α}(h:p↔q)(h1:a=c)(h2:b=d):(if p then a else b)=if q then c else d:=by
 subst h1;subst h2;by_cases hp:p
 ·rw[aF hp,aF (h.1 hp)]
 ·rw[aD hp,aD λhq=>hp (h.2 hq)]
theorem Bad.go{KP:List PanicEntry->World->Prop}{S S' S'':Nat->Prop}{w w':World}(h:Bad KP S w)(hc:Ch S' w w')(hs:∀b,b<w.heap.size->S' b->S b)(hs2:∀b,b<w.heap.size->S'' b->S b):Bad KP S'' w' :=
 λa e w2 he h2=>h a e w2 he ((hc.mono hs).trans h2 hs2)
theorem aU7{b:Bs}{d q N a to9:Nat}{l:List M}(hd:d<=32)(hq:q<=b.length)(hbl:b.length<=1048576)(ha:a<=q)(h:fA (uC b d q) N a []=some (l,to9)):(∀x∈l,Gq x)/\l.length=N/\to9<=q:=by
 obtain⟨l',e1,e2,e3,_,_,e6⟩:=lK (rd:=uC b d q) (P:=λx=>x.check (33-d)=0/\x.fits/\x.wt<=q) (q:=q) (λa' m' to' ha hr=>by
  obtain⟨g1,g2,g3⟩:=(lQ b d hd).1 q a' m' to' hq hr;have:=g3.wt;exact⟨g1,g2,⟨g3.chk,g3.fit,by omega⟩,g3.wt⟩) _ _ _ _ _ ha h
 rw[aX]at e1;subst e1;refine⟨λx hx=>⟨⟨_,(e3 x hx).1⟩,(e3 x hx).2.1,?_⟩,e2,e6⟩;have h1:=aNp x;have h2:=(e3 x hx).2.2;omega
theorem qI{b:Bs}{e pos W least q:Nat}(h:iQ b e pos W least=some q):q=pos+W+bO (Note.sub b pos W)/\q<=e/\least<=bO (Note.sub b pos W)/\pos+W<=q:=by
 unfold iQ at h;split at h
 ·cases h
 split at h
 ·cases h
 split at h
 ·cases h
 cases h;omega
theorem aTj{b:Bs}{p:Option Addr}{c d:Nat}(hV:aQq b p c d)(hd:d+1<=32){w:World}{rb pos e cc:Nat}{ov own0 kk:Int}(h:RB w rb b p c pos e ov)(hL:LW w)(hr8:8<=rb)(hc:eE cc=true)(hkk:kk=if cc=0xc1\/cc=0xd1 then 22 else 21){K:Value->World->Prop}{KP:List PanicEntry->World->Prop}
 (hk:RdK (nJ (uC b d) b e cc pos) rb b p c e ov w K) (hp:RdP (nJ (uC b d) b e cc pos) rb w KP) :
 dL Tryz.prog 183 [.pointer (some ⟨rb,0,none⟩),.int .i64 kk,.int .i64 (bE cc:Int),.int .i64 own0,.int .i64 (32-(d:Int))] w K KP:=by
 apply tA;have hW:bE cc=1\/bE cc=4:=by unfold bE;split<;>simp
 have hk22:kk=22↔(cc=0xc1\/cc=0xd1):=by
  rw[hkk];by_cases q:cc=0xc1\/cc=0xd1
  ·rw[aF q];exact⟨λ_=>q,λ_=>rfl⟩
  ·rw[aD q];exact⟨λh=>(by cases h),λh=>absurd h q⟩
 have hrdS:∀q,iQ b e pos (bE cc) (bE cc)=some q->nJ (uC b d) b e cc pos=if kk=22/\(bO (Note.sub b (pos+bE cc) (bE cc))%2≠0\/1024<bO (Note.sub b (pos+bE cc) (bE cc)) / 2)then none
  else match fA (uC b d q) (bO (Note.sub b (pos+bE cc) (bE cc))) (pos+bE cc+bE cc) []with
   | none=>none
   | some (l,a)=>if a<q\/(kk=22/\¬(fS l).Nodup)then none else some (.mk kk 0 [] 0 l,a):=by
  intro q hq;unfold nJ;rw[hq];dsimp only;refine ifc (and_congr hk22.symm Iff.rfl) rfl ?_;cases fA (uC b d q) (bO (Note.sub b (pos+bE cc) (bE cc))) (pos+bE cc+bE cc) []with
  | none=>rfl
  | some x=>exact ifc (or_congr Iff.rfl (and_congr hk22.symm Iff.rfl)) rfl (by rw[hkk])
 have hrdN:iQ b e pos (bE cc) (bE cc)=none->nJ (uC b d) b e cc pos=none:=λhq=>by unfold nJ;rw[hq]
 generalize nJ (uC b d) b e cc pos=rs at hk hp hrdS hrdN;generalize bE cc=W at hW hk hp hrdS hrdN ⊢;have hrb:=aH h.cells;have hel:=h.el;have hbl:=h.bl;have hlt:=h.rd.lt;refine bD λw1 b1 c1 z1=>bD λw2 b2 c2 z2=>bD λw3 b3 c3 z3=>bD λw4 b4 c4 z4=>bD λw5 b5 c5 z5=>?_;have k5:=(c5.blk (by have:=aH b1;omega) id).trans ((c4.blk (by have:=aH b1;omega) id).trans ((c3.blk (by have:=aH b1;omega) id).trans ((c2.blk (aH b1) id).trans b1)));have wb5:=(c5.blk (by have:=aH b2;omega) id).trans ((c4.blk (by have:=aH b2;omega) id).trans ((c3.blk (aH b2) id).trans b2));have ob5:=(c5.blk (by have:=aH b3;omega) id).trans ((c4.blk (aH b3) id).trans b3);have db5:=(c5.blk (aH b4) id).trans b4;refine⟨_,aJ k5 0 rfl,?_⟩;refine nbx (x:=one kk 0 []) rfl λw11 b11 c11 z11=>?_;have k11:=(c11.blk (aH k5) id).trans k5;have wb11:=(c11.blk (aH wb5) id).trans wb5;have ob11:=(c11.blk (aH ob5) id).trans ob5;have db11:=(c11.blk (aH db5) id).trans db5;have rs11:=(c11.blk (aH b5) id).trans b5;have v11:blk w11 w5.heap.size=some (vF kk 0 none 0 0):=b11;have c011:Ch (λ_=>False) w w11:=((((c1.trans' c2).trans' c3).trans' c4).trans' c5).trans' c11;have r11:=h.ch0 c011;have hL11:=hL.ch0 c011;clear b1 b2 b3 b4 b5 b11 k5 wb5 ob5 db5;simp only[nn_some,add_at,aL,cO];refine⟨_,aJ wb11 0 rfl,_,aJ wb11 0 rfl,?_⟩;obtain⟨s,hs⟩:∃s,s=w.heap.size:=⟨_,rfl⟩;have e1:w1.heap.size=s+1:=by omega
 have e2:w2.heap.size=s+2:=by omega
 have e3:w3.heap.size=s+3:=by omega
 have e4:w4.heap.size=s+4:=by omega
 have e5:w5.heap.size=s+5:=by omega
 have e11:w11.heap.size=s+6:=by omega
 rw[<-hs]at k11 hrb hlt ⊢;rw[e1]at wb11 ⊢;rw[e2]at ob11 ⊢;rw[e3]at db11 ⊢;rw[e4]at rs11 ⊢;rw[e5]at v11 ⊢;have hbad:rs=none->Bad KP (·=rb) w:=hp;refine aEq (S:=λj=>j=s+5\/s+6<=j) (Post:=λw4 w5=>∃(q:Nat) (R:List MV) (pR:Option Addr) (cR:Nat) (own:Option Nat) (a:Nat),iQ b e pos W W=some q/\¬(kk=22/\(bO (Note.sub b (pos+W) W)%2≠0\/1024<bO (Note.sub b (pos+W) W) / 2))/\fA (uC b d q) (bO (Note.sub b (pos+W) W)) (pos+W+W) []=some (R.map MV.m,a)/\q<=a/\blk w5 (s+5)=some (vF kk 0 pR R.length cR)/\VE.Row w5 pR R.length cR own R/\∀b∈VE.rowB own R,w4.heap.size<=b)
  r11 hW (by omega) (by omega) (λa ha h0 q=>by have:=hlt a ha h0;omega) (λq hq qb w12 K1 r12 hqb c12 z12 hk1=>?_) (λq w12 w13 w14 hq c12 hz12 c13 hpost r14 c14=>⟨rfl,?_⟩) (λhnone=>(hbad (hrdN hnone)).later c011 λ_ _ h=>h.elim)
 ·obtain⟨f1,f2,f3,f4⟩:=qI hq;rw[e11]at hqb;have hrd:=hrdS q hq;refine⟨by kernel_rfl,?_⟩;refine aRf (wb:=s+1) (kb:=s) (ob:=s+2) (vb:=s+5) (db:=s+3) (kind:=kk) hV (by omega) r12 (aN5 hL11 c12 λj hj=>by omega) (by omega) (by omega) hW (by omega) ((c12.blk (aH wb11) (by omega)).trans wb11) ((c12.blk (aH k11) (by omega)).trans k11) ((c12.blk (aH ob11) (by omega)).trans ob11) ((c12.blk (aH db11) (by omega)).trans db11) ((c12.blk (aH v11) (by omega)).trans v11) (by omega) (λa ha h0 q=>by have:=hlt a ha h0;omega)
   (λR pR cR own a w' hnm hmany hea hbv hrow hnew hrb hch=>hk1 a w' hrb (hch.mono λj _ q=>by omega) ⟨q,R,pR,cR,own,a,hq,hnm,hmany,hea,hbv,hrow,hnew⟩) (λhx=>?_)
  refine(hbad ?_).go ((c011.mono (S':=(·=rb)) λ_ _ h=>h.elim).trans' c12) (λj hj q=>?_) λj hj q=>?_
  ·rw[hrd];rcases hx with hx|hx|⟨l,a,hx,ha⟩
   ·rw[aF hx]
   ·split
    ·rfl
    ·rw[hx]
   ·split
    ·rfl
    ·rw[hx];exact aF (.inl ha)
  ·exact q
  ·omega
 ·obtain⟨q',R,pR,cR,own,a,hq',hnm,hmany,hea,hbv,hrow,hnew⟩:=hpost;rw[hq]at hq';cases hq';obtain⟨f1,f2,f3,f4⟩:=qI hq;have hrd:=hrdS q hq;rw[aD hnm,hmany]at hrd;simp only at hrd;obtain⟨g1,g2,g3⟩:=aU7 (by omega) (by omega) hbl (by omega) hmany;have haq:a=q:=by omega
  subst haq;rw[e11]at hz12;have hz13:=c13.size;have hz14:=c14.size;have c012:Ch (·=rb) w w12:=(c011.mono λ_ _ h=>h.elim).trans' c12;have c013:Ch (·=rb) w w13:=c012.trans c13 λj hj q=>by omega
  have c014:=c013.trans' c14;have k14:blk w14 s=some [.int .i64 kk]:=(c14.blk (by omega) (by omega)).trans ((c13.blk (by omega) (by omega)).trans ((c12.blk (aH k11) (by omega)).trans k11));have ob14:blk w14 (s+2)=some [.int .i64 own0]:=(c14.blk (by omega) (by omega)).trans ((c13.blk (by omega) (by omega)).trans ((c12.blk (aH ob11) (by omega)).trans ob11));have rs14:=(c14.blk (by omega) (by omega)).trans ((c13.blk (by omega) (by omega)).trans ((c12.blk (aH rs11) (by omega)).trans rs11));have v14:=(c14.blk (aH hbv) (by omega)).trans hbv;have hrow14:VE.Row w14 pR R.length cR own R:=hrow.ch c14 λj hj q=>by have:=hnew j hj;omega
  refine⟨λw15=>Ch (λ_=>False) w14 w15/\¬(kk=22/\¬(fS (R.map MV.m)).Nodup),?_,?_⟩
  ·rintro w15 ⟨c15,hnd⟩;rw[aD (by rintro(q|q);omega;exact hnd q)]at hrd;have v15:=(c15.blk (aH v14) id).trans v14;have rs15:=(c15.blk (aH rs14) id).trans rs14;have hN:R.length<=2^46:=by
    rw[eI]at g2;have hN:=gP (Note.sub b (pos+W) W);have hsl:(Note.sub b (pos+W) W).length<=W:=by unfold Note.sub;rw[aU];omega
    have:256^(Note.sub b (pos+W) W).length<=256^4:=Nat.pow_le_pow_right (by decide) (by omega);omega
   refine aBz (x:=.mk kk 0 [] ⟨pR,R.length,cR,own⟩ 0 R) v15 rs15 rfl λw16 c16=>?_;have hrow16:=(hrow14.ch c15 λ_ _=>id).ch c16 λj hj q=>by have:=hnew j hj;omega
   refine hk _ a w16 (by rw[hrd,MV.m_mk]) (Row.vo hrow16 hN) (λk hk=>?_) ?_ ?_
   ·rw[MV.B_mk]at hk;have:=hnew k (by rw[dD];exact hk);omega
   ·refine(r14.ch0 c15).ch c16 (by omega) λa ha h0 q=>?_;have:=hlt a ha h0;omega
   ·exact(c014.new c15).trans c16 λj hj q=>by omega
  ·refine⟨_,aJ k14 0 rfl,?_⟩;simp only[dS];refine aC (λh22=>?_) (λh22=>⟨Ch.refl _ _,λq=>absurd q.1 (aA h22)⟩);have h22:=aB h22;have hev:R.length%2=0:=by
    rw[eI]at g2;refine Decidable.byContradiction λq=>hnm ⟨h22,.inl ?_⟩;omega
   have hN:R.length<=2^46:=by
    rw[eI]at g2;refine Decidable.byContradiction λq=>hnm ⟨h22,.inr ?_⟩;omega
   refine⟨_,_,_,aJ v14 3 rfl,bZ (aQa (Row.vrow hrow14 hN) (λx hx=>g1 x.m (List.mem_map.2 ⟨x,hx,rfl⟩)) hev λw15 c15=>⟨_,rfl,?_⟩)⟩;refine aC (λhd=>?_) (λhd=>⟨c15,λq=>?_⟩)
   ·have hd:¬(fS (R.map MV.m)).Nodup:=by simpa using hd
    refine⟨_,aJ ((c15.blk (aH ob14) id).trans ob14) 0 rfl,eW ((hbad ?_).later (c014.new c15) λ_ _ h=>h) (by decide)⟩;rw[hrd,aF (.inr ⟨h22,hd⟩)]
   ·exact q.2 (by simpa using hd)
def aQs(b:Bs)(p:Option Addr)(c d:Nat):Prop:=∀(rb pos e cc kk:Nat) (ov own:Int) (w:World) (K:Value->World->Prop) (KP:List PanicEntry->World->Prop),RB w rb b p c pos e ov->LW w->8<=rb->cc<256->dC cc=some kk->cc≠0->gB cc≠some 0 ->
 RdK (wO b d e cc pos) rb b p c e ov w K->RdP (wO b d e cc pos) rb w KP->dL Tryz.prog 128 [.pointer (some ⟨rb,0,none⟩),.int .u8 (cc:Int),.int .i64 own,.int .i64 (33-(d:Int))] w K KP
theorem aLe(b:Bs)(i:Nat):bL b i<256:=UInt8.toNat_lt _
theorem aBv{w:World}{b:Bs}{p:Option Addr}(h:Rd w p b.length 1 (aV b)){i:Nat}(hi:i<b.length):∃k o,p=some ⟨k,o,none⟩/\w.cell? ⟨k,o+i,none⟩=some (.int .u8 (bL b i:Int)):=by
 obtain⟨k,o,hp,hc⟩:=h.cell (i:=i) (by omega);refine⟨k,o,hp,?_⟩;rw[hc];unfold aV bL;rw[dH,aK hi];rfl
theorem aKh{c k:Nat}(h:dC c=some k)(hc:c<256):(k=24↔c=0)/\(gB c=some 0↔c / 16=4):=by
 have key:∀c:Fin 256,(dC c.val).all (λk=>decide ((k=24↔c.val=0)/\(gB c.val=some 0↔c.val / 16=4)))=true:=by decide +kernel
 have:=key ⟨c,hc⟩;rw[h]at this;simpa using this
theorem aQp{b:Bs}{p:Option Addr}{c d:Nat}(hD:1<=d->aQs b p c d)(hd:d<=32){w:World}{qb pos e W wb vb db:Nat}{ov:Int}(h:RB w qb b p c pos e ov)(hL:LW w)(hq8:8<=qb)(hv8:8<=vb)(hW:W=1\/W=4)(hle:pos+W+1<=e)
 (bw:blk w wb=some [.int .i64 (W:Int)]) (bd:blk w db=some [.int .i64 (32-(d:Int))]) (bv:blk w vb=some (vF 23 0 none 0 0))
 (hne:qb≠wb/\qb≠vb/\qb≠db/\vb≠wb/\vb≠db) (hpv:∀a,p=some a->b.length*1≠0->a.block≠vb) {K:Value->World->Prop} {KP:List PanicEntry->World->Prop}
 (hk:∀(R:List MV) pR cR own a w' k,dC (bL b (pos+W))=some k->¬(k=24\/gB (bL b (pos+W))=some 0)->fA (wO b d e (bL b (pos+W))) (bO (Note.sub b pos W)) (pos+W+1) []=some (R.map MV.m,a)->e<=a->blk w' vb=some (vF 23 (k:Int) pR R.length cR)->VE.Row w' pR R.length cR own R ->
   (∀b∈VE.rowB own R,w.heap.size<=b)->RB w' qb b p c a e ov->Ch (λj=>j=qb\/j=vb) w w'->K (.tuple #[]) w')
 (hp:(dC (bL b (pos+W))=none\/(∃k,dC (bL b (pos+W))=some k/\(k=24\/gB (bL b (pos+W))=some 0))\/fA (wO b d e (bL b (pos+W))) (bO (Note.sub b pos W)) (pos+W+1) []=none\/∃l a,fA (wO b d e (bL b (pos+W))) (bO (Note.sub b pos W)) (pos+W+1) []=some (l,a)/\a<e)->Bad KP (λj=>j=qb\/j=vb) w) :
 dL Tryz.prog 254 [.pointer (some ⟨qb,0,none⟩),.pointer (some ⟨wb,0,none⟩),.pointer (some ⟨vb,0,none⟩),.pointer (some ⟨db,0,none⟩)] w K KP:=by
 apply pL;have hel:=h.el;have hbl:=h.bl;have hlt:=h.rd.lt;have lq:=aH h.cells;have lv:=aH bv;obtain⟨n1,n2,n3,n4,n5⟩:=hne;simp only[nn_some,add_at,aL,cO];refine⟨_,aJ bw 0 rfl,?_⟩;refine nT h (by omega) (by omega) (λ_ w1 r1 c1=>⟨_,rfl,?_⟩) (λhlt=>by omega);have hsl:(Note.sub b pos W).length=W:=by unfold Note.sub;rw[aU,aN];omega
 have hN:=gP (Note.sub b pos W);rw[hsl]at hN;have hN:bO (Note.sub b pos W)<4294967296:=by rcases hW with rfl|rfl<;>omega
 generalize hNe:bO (Note.sub b pos W)=N at hN hk hp ⊢;rw[aW (n:=(N:Int)),nameI_iff];have cd1:Ch (λ_=>False) w1 w1.drew:=Ch.d0;have c1d:Ch (·=qb) w w1.drew:=c1.new cd1;have rd1:=r1.ch0 cd1;obtain⟨kb,o,hpe,hcell⟩:=aBv rd1.rd (i:=pos+W) (by omega);have hc0:=aLe b (pos+W);generalize hce:bL b (pos+W)=cc at hcell hc0 hk hp;refine⟨_,_,_,aJ rd1.cells 0 rfl,_,aJ rd1.cells 1 rfl,by omega,by omega,?_⟩;rw[hpe];simp only[nn_some,add_at,Nat.mul_one,aM];refine⟨_,hcell,?_⟩;have v1:=(c1d.blk (aH bv) (Ne.symm n2)).trans bv;have d1:=(c1d.blk (aH bd) (Ne.symm n3)).trans bd;refine bZ (uH ⟨_,rfl,?_⟩);refine eK v1 (by simp[vF]) λw3 b3 c3 z3=>?_;have v3:blk w3 vb=some (vF 23 (iS cc) none 0 0):=b3;have r3:=rd1.ch c3 n2 λa ha h0=>hpv a ha h0;have d3:=(c3.blk (aH d1) (Ne.symm n5)).trans d1;have c03:Ch (λj=>j=qb\/j=vb) w w3:=(c1d.mono λ_ _ h=>.inl h).trans c3 λj hj q=>.inr q;have hbad:=λq=>(hp q).later c03 λj hj h=>h;refine⟨λw4=>w4=w3/\∃kk,dC cc=some kk/\¬(kk=24\/gB cc=some 0),?_,?_⟩
 rotate_left
 ·refine⟨_,aJ v3 4 rfl,?_⟩;have bad:∀ {K'},(dC cc=none\/(∃k,dC cc=some k/\(k=24\/gB cc=some 0)))->∃n8,w3.cell? ⟨qb,1,none⟩=some (.int .i64 n8)/\dL Tryz.prog 88 [.int .i64 n8,.int .i64 30] w3 K' KP:=λhx=>⟨_,aJ r3.cells 1 rfl,eW (hbad (hx.imp id .inl)) (by decide)⟩;cases hkc:dC cc with
  | none =>
   refine xA (by unfold iS;rw[hkc];decide) ?_;exact bad (.inl hkc)
  | some kk =>
   obtain⟨t1,t2⟩:=aKh hkc hc0;refine cG (by unfold iS;rw[hkc];simp) ?_;simp only[dS];refine aC (λh0=>⟨by decide,?_⟩) (λh0=>?_)
   ·have h0:¬(cc:Int)=0:=by simpa using h0
    have hfd:Int.fdiv (cc:Int) (2^4)=((cc / 16:Nat):Int):=by rw[cJ _ (by decide)];omega
    rw[hfd];refine aC (λh4=>bad (.inr ⟨kk,hkc,.inr (t2.2 ?_)⟩)) (λh4=>⟨by trivial,kk,by first|rfl|trivial,?_⟩)
    ·have:=aB h4;omega
    ·have:=aA h4;rintro(q|q)
     ·have:=t1.1 q;omega
     ·have:=t2.1 q;omega
   ·have h0:(cc:Int)=0:=by simpa using h0
    exact bad (.inr ⟨kk,hkc,.inl (t1.2 (by omega))⟩)
 rintro w4 ⟨rfl,kk,hkc,hno⟩;have hki:iS cc=(kk:Int):=by unfold iS;rw[hkc]
 rw[hki]at v3;have hc00:cc≠0:=λq=>hno (.inl ((aKh hkc hc0).1.2 q));have hfx:gB cc≠some 0:=λq=>hno (.inr q);refine⟨_,aJ r3.cells 1 rfl,?_⟩;rw[aW (n:=((pos+W:Nat):Int)+1),show((pos+W:Nat):Int)+1=((pos+W+1:Nat):Int) by omega];refine r3.move hle λw5 r5 c5=>?_;have v5:=(c5.blk (aH v3) (Ne.symm n2)).trans v3;have d5:=(c5.blk (aH d3) (Ne.symm n3)).trans d3;have c05:Ch (λj=>j=qb\/j=vb) w w5:=c03.trans c5 λj hj q=>.inl q;refine⟨λm n3 w3=>∃i:Nat,n3=(i:Int)/\i<=N/\m=N-i/\aXa (wO b d e cc) b p c e ov N (pos+W+1) qb vb 23 (kk:Int) w i w3,⟨N,0,rfl,bQ _,rfl,[],none,0,none,pos+W+1,rfl,v5,El.Row.nil,by simp[dD],r5,c05⟩,?_⟩;rintro m n3' w6 ⟨i,rfl,hi,rfl,R,pR,cR,own,a,g1,g2,g3,g4,g5,g6⟩;have d6:=(g6.blk (aH bd) (by omega)).trans bd;have hdep:IntKind.wrap .i64 (32-(d:Int)+1)=33-(d:Int):=by rw[aW];omega
 refine aC (λhg=>?_) (λhg=>?_)
 ·have hg:=aB hg;have hiN:i<N:=by omega
  have hbad0:wO b d e cc a=none->Bad KP (λj=>j=qb\/j=vb) w6:=λq=>(hp (.inr (.inr (.inl (by rw[g1,show N-i=N-(i+1)+1 by omega,aDx q]))))).later g6 λj hj h=>h;refine⟨λw7=>w7=w6/\1<=d,?_,?_⟩
  rotate_left
  ·refine⟨_,aJ d6 0 rfl,?_⟩;rw[hdep];refine aC (λhq=>⟨_,aJ g5.cells 1 rfl,eW (hbad0 ?_) (by decide)⟩) (λhq=>⟨by trivial,by have:=aA hq;omega⟩);have:=aB hq;have:d=0:=by omega
   subst this;rfl
  rintro w7 ⟨rfl,hd1⟩;have cd:Ch (λ_=>False) w7 w7.drew:=Ch.d0;have d6d:=(cd.blk (aH d6) id).trans d6;have g2d:=(cd.blk (aH g2) id).trans g2;have g5d:=g5.ch0 cd;have hLd:LW w7.drew:=aN5 hL (g6.new cd) λj hj=>by rcases hj with rfl|rfl<;>assumption
  have hpa:∀a,p=some a->b.length*1≠0->a.block<w.heap.size/\a.block≠vb:=λa ha h0=>⟨hlt a ha h0,hpv a ha h0⟩;have hz3:=g6.size;have hbad:wO b d e cc a=none->Bad KP (λj=>j=qb\/j=vb) w7.drew:=λq=>(hbad0 q).later cd λj hj h=>h.elim;refine⟨_,_,_,aJ g2d 3 rfl,_,aJ g5d.cells 1 rfl,_,aJ d6d 0 rfl,?_,?_⟩
  ·rw[hdep];refine hD hd1 qb a e cc kk ov _ _ _ _ g5d hLd hq8 hc0 hkc hc00 hfx (λx t w4 hrd hvo hxb r4 c4=>is5 ?_) λq=>(hbad q).weak λj hj h=>.inl h;have v4:=(c4.blk (aH g2d) (Ne.symm n2)).trans g2d;refine⟨⟨_,_,_,aJ v4 3 rfl,rfl⟩,?_⟩;refine bD λw5 b5 c5 z5=>?_;have v5:=(c5.blk (aH v4) id).trans v4;refine⟨⟨_,_,_,aJ v5 3 rfl,rfl⟩,?_⟩;refine uJ n2 lq lv hpa hiN hN g1 g2 g3 g4 g6 hrd (VO.ch c5 x hvo λ_ _=>id) hxb (r4.ch0 c5) (((cd.mono λ_ _ h=>h.elim).trans' c4).new c5) b5 λw12 hG=>⟨N-(i+1),by omega,i+1,by rw[aW (n:=(i:Int)+1)];omega,by omega,rfl,hG⟩
  ·refine bD λw4 b4 c4 z4=>?_;have g24:=(c4.blk (aH g2d) id).trans g2d;have d34:=(c4.blk (aH d6d) id).trans d6d;have g54:=g5d.ch0 c4;refine⟨⟨_,aJ d34 0 rfl,rfl⟩,⟨_,aJ g54.cells 1 rfl,rfl⟩,⟨_,_,_,aJ g24 3 rfl,rfl⟩,?_⟩;rw[hdep];have hzd:w7.drew.heap.size=w7.heap.size:=rfl;refine hD hd1 qb a e cc kk ov _ _ _ _ g54 (hLd.ch0 c4) hq8 hc0 hkc hc00 hfx (λx t w5 hrd hvo hxb r5 c5=>is5 ?_) λq=>((hbad q).later c4 λj hj h=>h.elim).weak λj hj h=>.inl h;have v5:=(c5.blk (aH g24) (Ne.symm n2)).trans g24;refine⟨⟨_,_,_,aJ v5 3 rfl,rfl⟩,?_⟩;refine uJ n2 lq lv hpa hiN hN g1 g2 g3 g4 g6 hrd hvo (λk hk=>by have:=hxb k hk;omega) r5 (((cd.mono λ_ _ h=>h.elim).new c4).trans' c5) ((c5.blk (aH b4) (by have:=aH g5.cells;omega)).trans b4) λw12 hG=>⟨N-(i+1),by omega,i+1,by rw[aW (n:=(i:Int)+1)];omega,by omega,rfl,hG⟩
 ·have hg:=aA hg;have hiN:i=N:=by omega
  subst hiN;rw[Nat.sub_self]at g1;have g1:fA (wO b d e cc) i (pos+W+1) []=some (R.map MV.m,a):=g1;refine aNz g5 (λhea w4 c4=>⟨rfl,?_⟩) λhae=>((hp (.inr (.inr (.inr ⟨_,_,g1,hae⟩)))).later g6 λj hj h=>h).weak λj hj h=>h.elim;have hRl:=g3.1;subst hRl;exact hk R pR cR own a w4 kk hkc hno g1 hea ((c4.blk (aH g2) id).trans g2) (g3.ch c4 λ_ _=>id) g4 (g5.ch0 c4) (g6.new c4)
theorem aVj{b:Bs}{d q cc N a to9:Nat}{l:List M}(hd:d<=32)(hq:q<=b.length)(ha:a<=q)(h0:gB cc≠some 0)(h:fA (wO b d q cc) N a []=some (l,to9)):l.length=N/\to9<=q:=by
 obtain⟨l',e1,e2,e3,_,_,e6⟩:=lK (rd:=wO b d q cc) (P:=λx=>True) (q:=q) (λa' m' to' ha hr=>by
  have D:=(lQ b d hd).2 q cc a' m' to' hq hr;rcases D.good with g|⟨_,_,_,_,g⟩
  ·refine⟨?_,D.ge,trivial,g.wt⟩;have:=g.wt;have:1<=m'.wt:=by obtain⟨k,n,t,e,l⟩:=m';rw[M.wt_mk];omega
   omega
  ·exact absurd g h0) _ _ _ _ _ ha h
 rw[aX]at e1;subst e1;exact⟨e2,e6⟩
theorem aVt{b:Bs}{p:Option Addr}{c d:Nat}(hD:1<=d->aQs b p c d)(hd:d+1<=32){w:World}{rb pos e cc:Nat}{ov:Int}(h:RB w rb b p c pos e ov)(hL:LW w)(hr8:8<=rb){K:Value->World->Prop}{KP:List PanicEntry->World->Prop}
 (hk:RdK (sR (wO b d) b e cc pos) rb b p c e ov w K) (hp:RdP (sR (wO b d) b e cc pos) rb w KP) :
 dL Tryz.prog 184 [.pointer (some ⟨rb,0,none⟩),.int .i64 (bE cc:Int),.int .i64 (32-(d:Int))] w K KP:=by
 apply sG;have hW:bE cc=1\/bE cc=4:=by unfold bE;split<;>simp
 have hrdS:∀q,iQ b e pos (bE cc) (bE cc+1)=some q->sR (wO b d) b e cc pos=match dC (bL b (pos+bE cc+bE cc))with
  | none=>none
  | some k=>if k=24\/gB (bL b (pos+bE cc+bE cc))=some 0 then none
   else match fA (wO b d q (bL b (pos+bE cc+bE cc))) (bO (Note.sub b (pos+bE cc) (bE cc))) (pos+bE cc+bE cc+1) []with
    | none=>none
    | some (l,a)=>if a<q then none else some (.mk 23 0 [] k l,a):=by
  intro q hq;unfold sR;rw[hq];rfl
 have hrdN:iQ b e pos (bE cc) (bE cc+1)=none->sR (wO b d) b e cc pos=none:=λhq=>by unfold sR;rw[hq]
 generalize sR (wO b d) b e cc pos=rs at hk hp hrdS hrdN;generalize bE cc=W at hW hk hp hrdS hrdN ⊢;have hrb:=aH h.cells;have hel:=h.el;have hbl:=h.bl;have hlt:=h.rd.lt;refine bD λw1 b1 c1 z1=>bD λw2 b2 c2 z2=>bD λw3 b3 c3 z3=>?_;have wb3:=(c3.blk (by have:=aH b1;omega) id).trans ((c2.blk (aH b1) id).trans b1);have db3:=(c3.blk (aH b2) id).trans b2;refine nbx (x:=one 23 0 []) rfl λw11 b11 c11 z11=>?_;have wb11:=(c11.blk (aH wb3) id).trans wb3;have db11:=(c11.blk (aH db3) id).trans db3;have rs11:=(c11.blk (aH b3) id).trans b3;have v11:blk w11 w3.heap.size=some (vF 23 0 none 0 0):=b11;have c011:Ch (λ_=>False) w w11:=((c1.trans' c2).trans' c3).trans' c11;have r11:=h.ch0 c011;have hL11:=hL.ch0 c011;clear b1 b2 b3 b11 wb3 db3;simp only[nn_some,add_at,aL,cO];refine⟨_,aJ wb11 0 rfl,_,aJ wb11 0 rfl,?_⟩;obtain⟨s,hs⟩:∃s,s=w.heap.size:=⟨_,rfl⟩;have e1:w1.heap.size=s+1:=by omega
 have e2:w2.heap.size=s+2:=by omega
 have e3:w3.heap.size=s+3:=by omega
 have e11:w11.heap.size=s+4:=by omega
 rw[<-hs]at wb11 hrb hlt ⊢;rw[e1]at db11 ⊢;rw[e2]at rs11 ⊢;rw[e3]at v11 ⊢;rw[aW (n:=(W:Int)+1),show(W:Int)+1=((W+1:Nat):Int) by omega];have hbad:rs=none->Bad KP (·=rb) w:=hp;refine aEq (S:=λj=>j=s+3\/s+4<=j) (Post:=λw4 w5=>∃(q k:Nat) (R:List MV) (pR:Option Addr) (cR:Nat) (own:Option Nat) (a:Nat),iQ b e pos W (W+1)=some q/\dC (bL b (pos+W+W))=some k/\¬(k=24\/gB (bL b (pos+W+W))=some 0)/\fA (wO b d q (bL b (pos+W+W))) (bO (Note.sub b (pos+W) W)) (pos+W+W+1) []=some (R.map MV.m,a)/\q<=a/\blk w5 (s+3)=some (vF 23 (k:Int) pR R.length cR)/\VE.Row w5 pR R.length cR own R/\∀b∈VE.rowB own R,w4.heap.size<=b)
  r11 hW (by omega) (by omega) (λa ha h0 q=>by have:=hlt a ha h0;omega) (λq hq qb w12 K1 r12 hqb c12 z12 hk1=>?_) (λq w12 w13 w14 hq c12 hz12 c13 hpost r14 c14=>⟨rfl,?_⟩) (λhnone=>(hbad (hrdN hnone)).later c011 λ_ _ h=>h.elim)
 ·obtain⟨f1,f2,f3,f4⟩:=qI hq;rw[e11]at hqb;have hrd:=hrdS q hq;refine⟨by kernel_rfl,?_⟩;refine aQp (wb:=s) (vb:=s+3) (db:=s+1) hD (by omega) r12 (aN5 hL11 c12 λj hj=>by omega) (by omega) (by omega) hW (by omega) ((c12.blk (aH wb11) (by omega)).trans wb11) ((c12.blk (aH db11) (by omega)).trans db11) ((c12.blk (aH v11) (by omega)).trans v11) (by omega) (λa ha h0 q=>by have:=hlt a ha h0;omega)
   (λR pR cR own a w' k hkc hno hmany hea hbv hrow hnew hrb hch=>hk1 a w' hrb (hch.mono λj _ q=>by omega) ⟨q,k,R,pR,cR,own,a,hq,hkc,hno,hmany,hea,hbv,hrow,hnew⟩) (λhx=>?_)
  refine(hbad ?_).go ((c011.mono (S':=(·=rb)) λ_ _ h=>h.elim).trans' c12) (λj hj q=>?_) λj hj q=>?_
  ·rw[hrd];cases hkc:dC (bL b (pos+W+W))with
   | none=>rfl
   | some k =>
    dsimp only;rw[hkc]at hx;rcases hx with hx|⟨k',hx,hx2⟩|hx|⟨l,a,hx,ha⟩
    ·cases hx
    ·cases hx;rw[aF hx2]
    ·split
     ·rfl
     ·rw[hx]
    ·split
     ·rfl
     ·rw[hx];exact aF ha
  ·exact q
  ·omega
 ·obtain⟨q',k,R,pR,cR,own,a,hq',hkc,hno,hmany,hea,hbv,hrow,hnew⟩:=hpost;rw[hq]at hq';cases hq';obtain⟨f1,f2,f3,f4⟩:=qI hq;have hrd:=hrdS q hq;rw[hkc]at hrd;dsimp only at hrd;rw[aD hno,hmany]at hrd;dsimp only at hrd;rw[aD]at hrd;obtain⟨g2,g3⟩:=aVj (by omega) (by omega) (by omega) (λq=>hno (.inr q)) hmany;have haq:a=q:=by omega
  subst haq;rw[e11]at hz12;have hz13:=c13.size;have hz14:=c14.size;have c012:Ch (·=rb) w w12:=(c011.mono λ_ _ h=>h.elim).trans' c12;have c013:Ch (·=rb) w w13:=c012.trans c13 λj hj q=>by omega
  have c014:=c013.trans' c14;have rs14:=(c14.blk (by omega) (by omega)).trans ((c13.blk (by omega) (by omega)).trans ((c12.blk (aH rs11) (by omega)).trans rs11));have v14:=(c14.blk (aH hbv) (by omega)).trans hbv;have hrow14:VE.Row w14 pR R.length cR own R:=hrow.ch c14 λj hj q=>by have:=hnew j hj;omega
  have hN:R.length<=2^46:=by
   rw[eI]at g2;have hN:=gP (Note.sub b (pos+W) W);have hsl:(Note.sub b (pos+W) W).length<=W:=by unfold Note.sub;rw[aU];omega
   have:256^(Note.sub b (pos+W) W).length<=256^4:=Nat.pow_le_pow_right (by decide) (by omega);omega
  refine aBz (x:=.mk 23 0 [] ⟨pR,R.length,cR,own⟩ (k:Int) R) v14 rs14 rfl λw16 c16=>?_;have hrow16:=hrow14.ch c16 λj hj q=>by have:=hnew j hj;omega
  refine hk _ a w16 (by rw[hrd,MV.m_mk]) (Row.vo hrow16 hN) (λk hk=>?_) ?_ ?_
  ·rw[MV.B_mk]at hk;have:=hnew k (by rw[dD];exact hk);omega
  ·refine r14.ch c16 (by omega) λa ha h0 q=>?_;have:=hlt a ha h0;omega
  ·exact c014.trans c16 λj hj q=>by omega
theorem aNw{rs:Option (M × Nat)}{rb:Nat}{b:Bs}{p:Option Addr}{c e:Nat}{ov:Int}{w w1:World}{a:Nat}{zs:List Value}{K:Value->World->Prop}(hk:RdK rs rb b p c e ov w K)(hc:Ch (·=rb) w w1)(ha:blk w1 a=some zs)(hl:zs.length=5)(hnew:w.heap.size<=a)(hrb:rb<w.heap.size)
 (hpl:∀ad,p=some ad->b.length*1≠0->ad.block<w.heap.size):RdK rs rb b p c e ov w1 (λv w3=>∃n1 n2 s p n3 c1 n4,v=.agg (Array.mk [.int .i64 n1,.int .u64 n2,.string s,.slice p n3 c1,.int .i64 n4]) /\
   Sv.st w3 ⟨a,0,none⟩ (.int .i64 n1) λw4=>Sv.st w4 ⟨a,1,none⟩ (.int .u64 n2) λw5=>Sv.st w5 ⟨a,2,none⟩ (.string s) λw6=>Sv.st w6 ⟨a,3,none⟩ (.slice p n3 c1) λw7=>Sv.st w7 ⟨a,4,none⟩ (.int .i64 n4) λw8 =>
    ∃n,w8.cell? ⟨a,0,none⟩=some (.int .i64 n)/\∃n1,w8.cell? ⟨a,1,none⟩=some (.int .u64 n1)/\∃s,w8.cell? ⟨a,2,none⟩=some (.string s)/\∃p n2 c,w8.cell? ⟨a,3,none⟩=some (.slice p n2 c)/\∃n3,w8.cell? ⟨a,4,none⟩=some (.int .i64 n3) /\
     K (.agg (Array.mk [.int .i64 n,.int .u64 n1,.string s,.slice p n2 c,.int .i64 n3])) w8):=by
 intro x t w3 ho hvo hxb r3 c3;have hal:=aH ha;have hz:=hc.size;refine is5 (st5 ((c3.blk hal (by omega)).trans ha) hl λw8 b8 c8 z8=>rF b8 ?_);rw[vv];refine hk x t w8 ho (VO.ch c8 x hvo λj hj q=>by have:=hxb j hj;omega) (λj hj=>by have:=hxb j hj;omega) (r3.ch c8 (by omega) λad h1 h2 q=>by have:=hpl ad h1 h2;omega) ?_;exact(hc.trans' c3).trans c8 λj hj q=>by omega
theorem RdP.at{rs:Option (M × Nat)}{rb:Nat}{w w1:World}{KP:List PanicEntry->World->Prop}(hp:RdP rs rb w KP)(hc:Ch (·=rb) w w1):RdP rs rb w1 KP:=λh=>(hp h).later hc λ_ _ h=>h
theorem aIo{cc kk:Nat}(h:dC cc=some kk)(hc:cc<256)(h0:cc≠0)(hf:gB cc≠some 0)(h1:fL cc=false)(h2:eE cc=false)(h3:gA cc=false)(h4:¬(cc=148\/cc=152)):∃k,gB cc=some k/\1<=k/\k<=8:=by
 have key:∀c:Fin 256,dC c.val≠none->c.val≠0->gB c.val≠some 0->fL c.val=false->eE c.val=false->gA c.val=false->¬(c.val=148\/c.val=152)->(gB c.val=some 1\/gB c.val=some 2\/gB c.val=some 4\/gB c.val=some 8):=by decide +kernel
 rcases key ⟨cc,hc⟩ (by rw[h];simp) h0 hf h1 h2 h3 h4 with g|g|g|g<;>exact⟨_,g,by decide,by decide⟩
theorem wK{cc kk:Nat}(h:dC cc=some kk):iS cc=(kk:Int):=by unfold iS;rw[h]
theorem aVl{b:Bs}{p:Option Addr}{c d:Nat}(hV:aQq b p c d)(hD:1<=d->aQs b p c d)(hd:d+1<=32):aQs b p c (d+1):=by
 intro rb pos e cc kk ov own w K KP h hL hr8 hc0 hkc hcz hfx hk hp;apply tD;have hrb:=aH h.cells;have hel:=h.el;have hbl:=h.bl;have hlt:=h.rd.lt;have hki:=wK hkc;have hdep:(33:Int)-((d+1:Nat):Int)=32-(d:Int):=by omega
 rw[hdep];rw[aK3]at hk hp;unfold vR at hk hp;refine bD λw1 b1 c1 z1=>?_;have r1:=h.ch0 c1;have hL1:=hL.ch0 c1;have c1r:Ch (·=rb) w w1:=c1.mono λ_ _ h=>h.elim;simp only[nn_some,add_at,aL,cO,dS];have e1:decide ((cc:Int)=240)=decide (cc=240):=ec 240;have e2:decide ((cc:Int)=224)=decide (cc=224):=ec 224;have e3:decide ((cc:Int)=148)=decide (cc=148):=ec 148;have e4:decide ((cc:Int)=152)=decide (cc=152):=ec 152;have e5:decide ((cc:Int)=192)=decide (cc=192):=ec 192;have e6:decide ((cc:Int)=193)=decide (cc=193):=ec 193;have e7:decide ((cc:Int)=208)=decide (cc=208):=ec 208;have e8:decide ((cc:Int)=209)=decide (cc=209):=ec 209;have e9:decide ((cc:Int)=160)=decide (cc=160):=ec 160;have e10:decide ((cc:Int)=161)=decide (cc=161):=ec 161;have e11:decide ((cc:Int)=163)=decide (cc=163):=ec 163;have e12:decide ((cc:Int)=176)=decide (cc=176):=ec 176;have e13:decide ((cc:Int)=177)=decide (cc=177):=ec 177;have e14:decide ((cc:Int)=179)=decide (cc=179):=ec 179;simp only[e1,e2,e3,e4,e5,e6,e7,e8,e9,e10,e11,e12,e13,e14];have box:∀ {rs:Option (M × Nat)},RdK rs rb b p c e ov w K->_:=λ{rs} hk=>aNw (rs:=rs) hk c1r b1 rfl (by omega) hrb hlt;refine⟨λn w2=>fL cc=false/\eE cc=false/\gA cc=true/\n=(bE cc:Int)/\w2=w1,?_,?_⟩
 ·rintro n w2 ⟨t1,t2,t3,rfl,rfl⟩;rw[aD (by rw[t1];decide),aD (by rw[t2];decide),aF t3]at hk hp;exact aVt hD hd r1 hL1 hr8 (box hk) (hp.at c1r)
 refine⟨λn w2=>fL cc=false/\eE cc=true/\n=(bE cc:Int)/\w2=w1,?_,?_⟩
 ·rintro n w2 ⟨t1,t2,rfl,rfl⟩;rw[aD (by rw[t1];decide),aF t2]at hk hp;refine bZ (uH ⟨_,rfl,?_⟩);refine aTj hV hd r1 hL1 hr8 t2 ?_ (box hk) (hp.at c1r);have:=aGa t2;rw[hki];rw[this]at hkc;cases hkc;split<;>rfl
 refine⟨λn w2=>fL cc=true/\n=(bE cc:Int)/\w2=w1,?_,?_⟩
 ·rintro n w2 ⟨t1,rfl,rfl⟩;rw[aF t1]at hk hp;refine bZ (uH ⟨_,rfl,?_⟩);rw[hki];exact aUl r1 hL1 hr8 hkc (aI9 t1 hkc) (box hk) (hp.at c1r)
 have tx:fL cc=decide (cc=160\/cc=161\/cc=163\/cc=176\/cc=177\/cc=179):=by
  unfold fL;simp only[<-Bool.decide_or,or_assoc]
 have sx:eE cc=decide (cc=192\/cc=193\/cc=208\/cc=209):=by
  unfold eE;simp only[<-Bool.decide_or,or_assoc]
 have ax:gA cc=decide (cc=224\/cc=240):=by
  unfold gA;simp only[<-Bool.decide_or]
 have wx1:(cc=160\/cc=161\/cc=163\/cc=192\/cc=193\/cc=224)->bE cc=1:=λq=>by unfold bE;rw[aF]
 have wx4:¬(cc=160\/cc=161\/cc=163\/cc=192\/cc=193\/cc=224)->bE cc=4:=λq=>by unfold bE;rw[aD]
 refine⟨λbb w2=>bb=decide (cc=176\/cc=177\/cc=179)/\w2=w1,?_,jC _⟩;rintro bb w2 ⟨rfl,rfl⟩;refine aC (λq=>?_) (λq3=>?_)
 ·have q:=aB q;exact⟨by rw[tx];exact aR (by omega),by rw[wx4 (by omega)];rfl,rfl⟩
 have q3:=aA q3;refine⟨λbb w3=>bb=decide (cc=160\/cc=161\/cc=163)/\w3=w2,?_,jC _⟩;rintro bb w3 ⟨rfl,rfl⟩;refine aC (λq=>?_) (λq4=>?_)
 ·have q:=aB q;exact⟨by rw[tx];exact aR (by omega),by rw[wx1 (by omega)];rfl,rfl⟩
 have q4:=aA q4;have t1:fL cc=false:=by rw[tx];exact bB (by omega)
 refine⟨λbb w4=>bb=decide (cc=208\/cc=209)/\w4=w3,?_,mC _⟩;rintro bb w4 ⟨rfl,rfl⟩;refine aC (λq=>?_) (λq5=>?_)
 ·have q:=aB q;exact⟨t1,by rw[sx];exact aR (by omega),by rw[wx4 (by omega)];rfl,rfl⟩
 have q5:=aA q5;refine⟨λbb w5=>bb=decide (cc=192\/cc=193)/\w5=w4,?_,mC _⟩;rintro bb w5 ⟨rfl,rfl⟩;refine aC (λq=>?_) (λq6=>?_)
 ·have q:=aB q;exact⟨t1,by rw[sx];exact aR (by omega),by rw[wx1 (by omega)];rfl,rfl⟩
 have q6:=aA q6;have t2:eE cc=false:=by rw[sx];exact bB (by omega)
 refine aC (λq=>?_) (λq7=>?_)
 ·have q:=aB q;exact⟨t1,t2,by rw[ax];exact aR (by omega),by rw[wx4 (by omega)];rfl,rfl⟩
 have q7:=aA q7;refine aC (λq=>?_) (λq8=>?_)
 ·have q:=aB q;exact⟨t1,t2,by rw[ax];exact aR (by omega),by rw[wx1 (by omega)];rfl,rfl⟩
 have q8:=aA q8;have t3:gA cc=false:=by rw[ax];exact bB (by omega)
 rw[aD (by rw[t1];decide),aD (by rw[t2];decide),aD (by rw[t3];decide)]at hk hp;refine⟨λbb w6=>bb=decide (cc=148\/cc=152)/\w6=w5,?_,mC _⟩;rintro bb w6 ⟨rfl,rfl⟩;refine aC (λq=>?_) (λq9=>?_)
 rotate_left
 ·have q9:=aA q9;obtain⟨k,f1,f2,f3⟩:=aIo hkc hc0 hcz hfx t1 t2 t3 q9;exact aS1 r1 hc0 f1 f2 f3 hkc (box hk) (hp.at c1r)
 have q:=aB q;have hrd:pD b e cc pos=if e<pos+16 then none else some (.mk kk 0 (Note.sub b pos 16) 0 [],pos+16):=by
  unfold pD;have:gB cc=some 16:=by rcases q with rfl|rfl<;>rfl
  rw[this,hkc];dsimp only;rw[aF q]
 rw[hrd]at hk hp;refine xM (n:=16) r1 (λhle w7 c7=>⟨rfl,?_⟩) (λhlt=>((hp (by rw[aF hlt])).later c1r λ_ _ h=>h).weak λ_ _ h=>h.elim);rw[aD]at hk;have r7:=r1.ch0 c7;refine⟨_,aJ r7.cells 1 rfl,?_⟩;rw[aW (n:=(pos:Int)+16),show(pos:Int)+16=((pos+16:Nat):Int) by omega];refine r7.move hle λw8 r8 c8=>?_;have cd:Ch (λ_=>False) w8 w8.drew:=Ch.d0;have r8d:=r8.ch0 cd;have hT:Rd w8.drew (gI p pos c 1) 16 1 (aV (Note.sub b pos 16)):=uN r8d.rd (by omega) h.cap;refine⟨_,_,_,aJ r8d.cells 0 rfl,_,aJ r8d.cells 1 rfl,_,aJ r8d.cells 1 rfl,?_⟩;rw[aW (n:=((pos+16:Nat):Int)-16),show((pos+16:Nat):Int)-16=(pos:Int) by omega];have n1:((pos:Nat):Int).toNat=pos:=aM _;have n2:((pos+16:Nat):Int).toNat=pos+16:=aM _;rw[n1,n2,show pos+16-pos=16 by omega];have hcap:=h.cap;refine⟨by omega,by omega,by omega,by omega,_,cD fD iL dN hT,?_⟩;refine bZ (uH ⟨_,rfl,⟨_,cD fD iL dN hT,rfl⟩,⟨_,aJ r8d.cells 1 rfl,rfl⟩,⟨_,aJ r8d.cells 1 rfl,rfl⟩,⟨_,_,_,aJ r8d.cells 0 rfl,rfl⟩,?_⟩);rw[hki];have hal:=aH b1;have c18:Ch (·=rb) w6 w8.drew:=((c7.mono λ_ _ h=>h.elim).trans' c8).new cd;have b8:=(c18.blk hal (by omega)).trans b1;refine st5 (x:=one (kk:Int) 0 (Note.sub b pos 16)) b8 rfl λw9 b9 c9 z9=>rF b9 ?_;rw[vv];refine hk (one (kk:Int) 0 (Note.sub b pos 16)) _ w9 (by rw[rS]) (mI ..) (by rw[rT];simp) (r8d.ch c9 (by omega) λad h1 h2 q=>by have:=hlt ad h1 h2;omega) ?_;exact(c1r.trans' c18).trans c9 λj hj q=>by omega
theorem aQu{cc:Nat}(hc:cc<256)(h:gB cc=some 0):cc=64\/cc=65\/cc=66\/cc=67\/cc=68\/cc=69:=by
 have key:∀c:Fin 256,gB c.val=some 0->(c.val=64\/c.val=65\/c.val=66\/c.val=67\/c.val=68\/c.val=69):=by decide +kernel
 exact key ⟨cc,hc⟩ h
theorem aQh{p q r s t:Prop}[Decidable p][Decidable q][Decidable r][Decidable s][Decidable t](w:World) :
 aS (decide p) (decide p=decide (p\/q\/r\/s\/t)/\w=w) (aS (decide q) (decide q=decide (p\/q\/r\/s\/t)/\w=w) (aS (decide r) (decide r=decide (p\/q\/r\/s\/t)/\w=w) (aS (decide s) (decide s=decide (p\/q\/r\/s\/t)/\w=w) (decide t=decide (p\/q\/r\/s\/t)/\w=w)))):=by
 refine aC (λh=>⟨?_,rfl⟩) (λh1=>aC (λh=>⟨?_,rfl⟩) (λh2=>aC (λh=>⟨?_,rfl⟩) (λh3=>aC (λh=>⟨?_,rfl⟩) (λh4=>⟨?_,rfl⟩))))
 all_goals simp only[bA,gC]at *
 ·exact decide_eq_decide.2 ⟨λ_=>.inl h,λ_=>h⟩
 ·exact decide_eq_decide.2 ⟨λ_=>.inr (.inl h),λ_=>h⟩
 ·exact decide_eq_decide.2 ⟨λ_=>.inr (.inr (.inl h)),λ_=>h⟩
 ·exact decide_eq_decide.2 ⟨λ_=>.inr (.inr (.inr (.inl h))),λ_=>h⟩
 ·refine decide_eq_decide.2 ⟨λh=>.inr (.inr (.inr (.inr h))),λh=>?_⟩;rcases h with h|h|h|h|h
  ·exact absurd h h1
  ·exact absurd h h2
  ·exact absurd h h3
  ·exact absurd h h4
  ·exact h
theorem aUu{w:World}{k a:Nat}{x y:MV}(hb:blk w a=some ([x,y].flatMap MV.g))(hx:VO w x)(hy:VO w y)(hd:∀j∈x.B,j ∉ y.B)(hxa:a ∉ x.B)(hya:a ∉ y.B):VO w (.mk (k:Int) 0 [] ⟨some ⟨a,0,none⟩,2,2,some a⟩ 0 [x,y]):=by
 have hgl:([x,y].flatMap MV.g).length=10:=by rw[mB MV.glen];rfl
 have hB:([x,y].flatMap MV.B)=x.B++y.B:=by simp
 refine .mk rfl (show(2:Nat)<=2^46 by decide) ⟨hgl,aQ _,.inr ⟨_,0,_,rfl,rfl,hb,(show 10<=([x,y].flatMap MV.g).length from Nat.le_of_eq hgl.symm),(show((([x,y].flatMap MV.g).drop 0).take 10)=_ by rw[bS,aY (Nat.le_of_eq hgl)])⟩⟩ (λz hz=>?_) ?_
 ·simp only[List.mem_cons,List.not_mem_nil,or_false]at hz;rcases hz with h|h
  ·rw[h];exact hx
  ·rw[h];exact hy
 ·rw[hB];show(a::(x.B++y.B)).Nodup;refine List.nodup_cons.2 ⟨λhm=>?_,List.nodup_append.2 ⟨hx.inv.2.2.2.2,hy.inv.2.2.2.2,λi hi j hj e=>hd i hi (e▸hj)⟩⟩;rcases List.mem_append.1 hm with h|h
  ·exact hxa h
  ·exact hya h
theorem aI7{b:Bs}{p:Option Addr}{c d:Nat}(hV:∀d',d=d'+1->aQq b p c d')(hD:1<=d->aQs b p c d)(hd:d<=32):aQq b p c d:=by
 intro rb pos e ov w K KP h hL hr8 hk hp;apply sE;have hrb:=aH h.cells;have hel:=h.el;have hbl:=h.bl;have hlt:=h.rd.lt;refine bD λw1 b1 c1 z1=>?_;have r1:=h.ch0 c1;have hL1:=hL.ch0 c1;have c1r:Ch (·=rb) w w1:=c1.mono λ_ _ h=>h.elim;simp only[nn_some,add_at,aL,cO,dS];have hval:uC b d e pos=if e<=pos then none else match d with
  | 0=>none
  | d'+1=>match dC (bL b pos)with
   | none=>none
   | some k=>if bL b pos=0 then match uC b d' e (pos+1)with
    | none=>none
    | some (x,a1)=>match uC b d' e a1 with
     | none=>none
     | some (y,a2)=>some (.mk 24 0 [] 0 [x,y],a2)
    else wO b (d'+1) e (bL b pos) (pos+1):=by
  cases d with
  | zero=>rw[aRl];split<;>rfl
  | succ d'=>rw[aRm];rfl
 rw[hval]at hk hp;refine xM (n:=1) r1 (λhle w2 c2=>⟨rfl,?_⟩) (λhlt=>((hp (by rw[aF])).later c1r λ_ _ h=>h).weak λ_ _ h=>h.elim);rw[aD]at hk hp;have r2:=r1.ch0 c2;have hL2:=hL1.ch0 c2;have c2r:Ch (·=rb) w w2:=c1r.new c2;obtain⟨kb,o,hpe,hcell⟩:=aBv r2.rd (i:=pos) (by omega);have hc0:=aLe b pos;generalize hce:bL b pos=cc at hcell hc0 hk hp;refine⟨_,aJ r2.cells 1 rfl,_,_,_,aJ r2.cells 0 rfl,by omega,by omega,?_⟩;rw[hpe];simp only[nn_some,add_at,Nat.mul_one,aM];refine⟨_,hcell,?_⟩;refine bZ (uH ⟨_,rfl,?_⟩);refine⟨λw4=>w4=w2/\∃kk,dC cc=some kk/\1<=d,?_,?_⟩
 rotate_left
 ·cases hkc:dC cc with
  | none =>
   have hki:iS cc=-1:=by unfold iS;rw[hkc]
   rw[hki];refine cG (by decide) (eW ((hp ?_).later c2r λ_ _ h=>h) (by decide));rw[hkc];cases d<;>rfl
  | some kk =>
   rw[wK hkc];refine xA (by simp) (aC (λhq=>eW ((hp ?_).later c2r λ_ _ h=>h) (by decide)) λhq=>⟨by trivial,kk,by first|rfl|trivial,by have:=aA hq;omega⟩);have:=aB hq;have:d=0:=by omega
   subst this;rfl
 rintro w4 ⟨rfl,kk,hkc,hd1⟩;rw[wK hkc];obtain⟨d',rfl⟩:∃d',d=d'+1:=⟨d-1,by omega⟩;dsimp only at hk hp;rw[hkc]at hk hp;dsimp only at hk hp;have hVd:=hV d' rfl;refine⟨_,aJ r2.cells 1 rfl,?_⟩;rw[aW (n:=(pos:Int)+1),show(pos:Int)+1=((pos+1:Nat):Int) by omega];refine r2.move hle λw5 r5 c5=>?_;have hL5:=hL2.chr hr8 c5;have c05:Ch (·=rb) w w5:=c2r.trans' c5;have hal:=aH b1;have hz5:=c05.size;have b5:blk w5 w.heap.size=some (one 0 0 []).g:=((c2.mono (S':=(·=rb)) λ_ _ h=>h.elim).trans' c5).blk hal (by omega) |>.trans b1
 have f0:decide ((cc:Int)=0)=decide (cc=0):=ec 0;have f1:decide ((cc:Int)=64)=decide (cc=64):=ec 64;have f2:decide ((cc:Int)=65)=decide (cc=65):=ec 65;have f3:decide ((cc:Int)=66)=decide (cc=66):=ec 66;have f4:decide ((cc:Int)=67)=decide (cc=67):=ec 67;have f5:decide ((cc:Int)=68)=decide (cc=68):=ec 68;have f6:decide ((cc:Int)=69)=decide (cc=69):=ec 69;simp only[f0,f1,f2,f3,f4,f5,f6];have hdep:(33:Int)-((d'+1:Nat):Int)=32-(d':Int):=by omega
 have hdep2:IntKind.wrap .i64 (33-((d'+1:Nat):Int)+1)=33-(d':Int):=by rw[aW];omega
 rw[hdep2]
 -- a value without more data
 have fin:∀n:Nat,wO b (d'+1) e cc (pos+1)=some (.mk (kk:Int) n [] 0 [],pos+1)->cc≠0->Sv.st w5 ⟨w.heap.size,0,none⟩ (.int .i64 (kk:Int)) λw6=>Sv.st w6 ⟨w.heap.size,1,none⟩ (.int .u64 (n:Int)) λw7=>Sv.st w7 ⟨w.heap.size,2,none⟩ (.string ⟨#[]⟩) λw8=>Sv.st w8 ⟨w.heap.size,3,none⟩ (.slice none 0 0) λw9=>Sv.st w9 ⟨w.heap.size,4,none⟩ (.int .i64 0) λw10 =>
  ∃n5,w10.cell? ⟨w.heap.size,0,none⟩=some (.int .i64 n5)/\∃n6,w10.cell? ⟨w.heap.size,1,none⟩=some (.int .u64 n6)/\∃s,w10.cell? ⟨w.heap.size,2,none⟩=some (.string s)/\∃p1 n7 c1,w10.cell? ⟨w.heap.size,3,none⟩=some (.slice p1 n7 c1)/\∃n8,w10.cell? ⟨w.heap.size,4,none⟩=some (.int .i64 n8)/\K (.agg (Array.mk [.int .i64 n5,.int .u64 n6,.string s,.slice p1 n7 c1,.int .i64 n8])) w10:=by
  intro n hn hcz;rw[aD hcz,hn]at hk;refine st5 (x:=one (kk:Int) n []) b5 rfl λw9 b9 c9 z9=>rF b9 ?_;rw[vv];refine hk (one (kk:Int) n []) _ w9 (by rw[rS]) (mI ..) (by rw[rT];simp) (r5.ch c9 (by omega) λad h1 h2 q=>by have:=hlt ad h1 h2;omega) ?_;exact c05.trans c9 λj hj q=>by omega
 refine aC (λhz=>?_) (λhz=>?_)
 ·have hz:=aB hz;subst hz;rw[aF rfl]at hk hp;cases hkc;refine hVd rb (pos+1) e ov w5 _ _ r5 hL5 hr8 (λx t w6 hrx hvo hxb r6 c6=>?_) (λhno=>(hp (by rw[hno])).later c05 λ_ _ h=>h);rw[hrx]at hk hp;dsimp only at hk hp;have c06:Ch (·=rb) w w6:=c05.trans' c6;refine is5 (nbx (x:=x) rfl λw12 b12 c12 z12=>?_);have cd:Ch (λ_=>False) w12 w12.drew:=Ch.d0;have b12d:blk w12.drew w6.heap.size=some x.g:=b12;simp only[add_at,aL];refine rF b12d ?_;have r12:=(r6.ch0 c12).ch0 cd;have c012:Ch (·=rb) w w12.drew:=(c06.new c12).new cd;have hL12:LW w12.drew:=hL.chr hr8 c012;have hz12:w12.drew.heap.size=w12.heap.size:=rfl;have hz6:=c6.size;refine hVd rb t e ov w12.drew _ _ r12 hL12 hr8 (λy t2 w13 hry hvo2 hyb r13 c13=>?_) (λhno=>(hp (by rw[hno])).later c012 λ_ _ h=>h);rw[hry]at hk;dsimp only at hk;have hr6:=aH r6.cells;have hr5:=aH r5.cells;have b13:blk w13 w6.heap.size=some x.g:=(c13.blk (aH b12d) (by omega)).trans b12d;refine is5 ⟨eq5 b13,?_⟩;rw[show[Value.int .i64 x.k,.int .u64 (x.n:Int),.string ⟨x.t.toArray⟩,.slice x.s.p x.s.n x.s.c,.int .i64 x.e,.int .i64 y.k,.int .u64 (y.n:Int),.string ⟨y.t.toArray⟩,.slice y.s.p y.s.n y.s.c,.int .i64 y.e]=[x,y].flatMap MV.g by rw[bU,bU,<-gg x,<-gg y];rfl];refine bD λw14 b14 c14 z14=>?_;have hz13:=c13.size;have c013:Ch (·=rb) w w13:=c012.trans' c13;have b514:blk w14 w.heap.size=some (one 0 0 []).g:=(c14.blk (by omega) id).trans (((((c6.new c12).new cd).trans' c13).blk (aH b5) (by omega)).trans b5);refine st5 (x:=.mk 24 0 [] ⟨some ⟨w13.heap.size,0,none⟩,2,2,some w13.heap.size⟩ 0 [x,y]) b514 rfl λw19 b19 c19 z19=>rF b19 ?_;rw[vv];have hxl:=VO.lt x hvo;have hyl:=VO.lt y hvo2;have c613:Ch (·=rb) w6 w13:=((c12.mono λ_ _ h=>h.elim).new cd).trans' c13;have hB:([x,y].flatMap MV.B)=x.B++y.B:=by simp
  have hb5l:=aH b5;have nrx:∀j∈x.B,j≠rb:=λj hj q=>by have:=hxb j hj;omega
  have hvo19:VO w19 (.mk ((24:Nat):Int) 0 [] ⟨some ⟨w13.heap.size,0,none⟩,2,2,some w13.heap.size⟩ 0 [x,y]):=by
   refine aUu ((c19.blk (by omega) (by omega)).trans b14) ?_ ?_ (λj h1 h2=>?_) (λq=>?_) (λq=>?_)
   ·exact VO.ch c19 x (VO.ch c14 x (VO.ch c613 x hvo nrx) λ_ _ h=>h) λj hj e=>by have:=hxb j hj;omega
   ·exact VO.ch c19 y (VO.ch c14 y hvo2 λ_ _ h=>h) λj hj e=>by have:=hyb j hj;omega
   ·have:=hxl j h1;have:=hyb j h2;omega
   ·have:=hxl _ q;omega
   ·have:=hyl _ q;omega
  refine hk _ t2 w19 (by rw[MV.m_mk];rfl) hvo19 (λj hj=>?_) ((r13.ch0 c14).ch c19 (by omega) λad h1 h2 q=>by have:=hlt ad h1 h2;omega) ?_
  ·rw[MV.B_mk,hB]at hj;simp only[Option.toList_some,List.mem_append,List.mem_singleton]at hj;rcases hj with h|h|h
   ·omega
   ·have:=hxb j h;omega
   ·have:=hyb j h;omega
  ·exact(c013.new c14).trans c19 λj hj q=>by omega
 have hcz:cc≠0:=aA hz;have hzero:∀q:cc=64\/cc=65\/cc=66\/cc=67\/cc=68\/cc=69,wO b (d'+1) e cc (pos+1)=some (.mk (kk:Int) (if cc=65 then 1 else 0) [] 0 [],pos+1):=by
  intro q;rw[aK3];unfold vR pD;rcases q with rfl|rfl|rfl|rfl|rfl|rfl
  all_goals cases hkc
  all_goals
   show(if e<pos+1+0 then none else _)=_;rw[aD];rfl
 refine aC (λh65=>?_) (λh65=>?_)
 ·have h65:=aB h65;exact fin 1 (by rw[hzero (by omega),aF h65]) hcz
 have h65:=aA h65;refine⟨λbb w6=>bb=decide (cc=64\/cc=66\/cc=67\/cc=68\/cc=69)/\w6=w5,?_,aQh _⟩;rintro bb w6 ⟨rfl,rfl⟩;refine aC (λhq=>?_) (λhq=>?_)
 ·have hq:=aB hq;exact fin 0 (by rw[hzero (by omega),aD h65]) hcz
 have hq:=aA hq;rw[aD hcz]at hk hp;have hfx:gB cc≠some 0:=λq=>by have:=aQu hc0 q;omega
 exact hD hd1 rb (pos+1) e cc kk ov _ w6 _ _ r5 hL5 hr8 hc0 hkc hcz hfx (aNw hk c05 b5 rfl (by omega) hrb hlt) (hp.at c05)
theorem aOp(b:Bs)(p:Option Addr)(c:Nat):∀d,d<=32->aQq b p c d/\(1<=d->aQs b p c d)
 | 0,hd=>⟨aI7 (λd' h=>by omega) (λh=>by omega) hd,λh=>by omega⟩
 | d+1,hd=>by
  obtain⟨h1,h2⟩:=aOp b p c d (by omega);have hD:=aVl h1 h2 hd;exact⟨aI7 (λd' h=>by cases h;exact h1) (λ_=>hD) hd,λ_=>hD⟩
end Go.Proofs.YtlfhjkgdlclddaaGreatDoor
