/-
  The program's values: Equal. The program's reader: elem, number. The program's reader: elements, pairs. The program's reader: value. A function that defers one call which recovers, and that deferred call. Over every program.
-/
import Derived.Test.YtlfhjkgdlclddaaGreatDoorPx12
import Derived.Recover
set_option linter.unusedVariables false
set_option linter.unusedSimpArgs false
set_option maxRecDepth 4000
namespace Go.Proofs.YtlfhjkgdlclddaaGreatDoor
open Go Go.Sv Go.Note
attribute [local irreducible] aS
def VRow(Q:Nat->Prop)(w:World)(p:Option Addr)(n:Nat)(l:List MV):Prop:=l.length=n/\n<=2^46/\Rd w p n 5 (l.flatMap MV.g)/\(∀a,p=some a->n*5≠0->Q a.block)/\∀x∈l,VR Q w x
theorem VR.row{Q:Nat->Prop}{w:World}{x:MV}(h:VR Q w x):VRow Q w x.s.p x.s.n x.l:=h.inv
theorem VRow.ch{Q S:Nat->Prop}{w w':World}{p:Option Addr}{n:Nat}{l:List MV}(h:VRow Q w p n l)(hc:Ch S w w')(hn:∀b,Q b->¬S b):VRow Q w' p n l :=
 ⟨h.1,h.2.1,h.2.2.1.ch hc λa ha h0=>hn _ (h.2.2.2.1 a ha h0),h.2.2.2.1,λx hx=>VR.ch hc hn x (h.2.2.2.2 x hx)⟩
theorem VRow.ch0{Q:Nat->Prop}{w w':World}{p:Option Addr}{n:Nat}{l:List MV}(h:VRow Q w p n l)(hc:Ch (λ_=>False) w w'):VRow Q w' p n l:=h.ch hc λ_ _ h=>h
theorem VRow.at{Q:Nat->Prop}{w:World}{p:Option Addr}{n:Nat}{l:List MV}(h:VRow Q w p n l){i:Nat}{y:MV}(hi:l[i]?=some y):∃b o,p=some ⟨b,o,none⟩/\Q b/\At w b (o+i*5) y:=by
 obtain⟨h1,h2,h3,h4,h5⟩:=h;obtain⟨b,o,hp,ha⟩:=h3.at MV.glen hi (by decide);have hil:i<l.length:=(List.getElem?_eq_some_iff.1 hi).1;exact⟨b,o,hp,h4 _ hp (by omega),ha⟩
theorem nbx{w:World}{zs:List Value}(hl:zs.length=5){x:MV}{t:TypeId}{K:Addr->World->Prop}(hk:∀w',blk w' w.heap.size=some x.g->Ch (λ_=>False) w w'->w'.heap.size=w.heap.size+1->K ⟨w.heap.size,0,none⟩ w') :
 bP w zs t λa w1=>Sv.st w1 (Addr.add a 0) (.int .i64 x.k) λw2=>Sv.st w2 (Addr.add a 1) (.int .u64 (x.n:Int)) λw3=>Sv.st w3 (Addr.add a 2) (.string ⟨x.t.toArray⟩) λw4=>Sv.st w4 (Addr.add a 3) (.slice x.s.p x.s.n x.s.c) λw5=>Sv.st w5 (Addr.add a 4) (.int .i64 x.e) λw6=>K a w6:=by
 refine bD λw1 b1 c1 z1=>?_;simp only[add_at,aL];refine st5 b1 hl λw2 b2 c2 z2=>hk w2 b2 (c1.trans c2 λx hx h=>by omega) (by omega)
theorem ldK{w:World}{k:Nat}{x:MV}{K:Int->Int->ByteArray->Option Addr->Nat->Nat->Int->Prop}(h:blk w k=some x.g)(hk:K x.k (x.n:Int) ⟨x.t.toArray⟩ x.s.p x.s.n x.s.c x.e) :
 ∃n,w.cell? (Addr.add ⟨k,0,none⟩ 0)=some (.int .i64 n)/\∃n1,w.cell? (Addr.add ⟨k,0,none⟩ 1)=some (.int .u64 n1)/\∃s,w.cell? (Addr.add ⟨k,0,none⟩ 2)=some (.string s)/\∃p n2 c,w.cell? (Addr.add ⟨k,0,none⟩ 3)=some (.slice p n2 c)/\∃n3,w.cell? (Addr.add ⟨k,0,none⟩ 4)=some (.int .i64 n3)/\K n n1 s p n2 c n3:=by
 cases x;simp only[add_at,aL];exact⟨_,aJ h 0 rfl,_,aJ h 1 rfl,_,aJ h 2 rfl,_,_,_,aJ h 3 rfl,_,aJ h 4 rfl,hk⟩
theorem ldR{w:World}{b o i:Nat}{x:MV}{K:Int->Int->ByteArray->Option Addr->Nat->Nat->Int->Prop}(h:At w b (o+i*5) x)(hk:K x.k (x.n:Int) ⟨x.t.toArray⟩ x.s.p x.s.n x.s.c x.e) :
 ∃n,w.cell? (Addr.add (Addr.add ⟨b,o,none⟩ (Int.toNat (i:Int)*5)) 0)=some (.int .i64 n)/\∃n1,w.cell? (Addr.add (Addr.add ⟨b,o,none⟩ (Int.toNat (i:Int)*5)) 1)=some (.int .u64 n1)/\∃s,w.cell? (Addr.add (Addr.add ⟨b,o,none⟩ (Int.toNat (i:Int)*5)) 2)=some (.string s)/\∃p n2 c,w.cell? (Addr.add (Addr.add ⟨b,o,none⟩ (Int.toNat (i:Int)*5)) 3)=some (.slice p n2 c)/\∃n3,w.cell? (Addr.add (Addr.add ⟨b,o,none⟩ (Int.toNat (i:Int)*5)) 4)=some (.int .i64 n3)/\K n n1 s p n2 c n3:=by
 simp only[add_at,aM];exact rd5 h hk
theorem aW0{Q Q':Nat->Prop}{l l':List MV}(ih:∀x∈l,∀(y:MV) {w:World} {K:Value->World->Prop},VR Q w x->VR Q' w y->(∀w',Ch (λ_=>False) w w'->K (.bool (decide (x.m=y.m))) w')->bK Tryz.prog 209 [x.v,y.v] w K)
 {w:World} {p p':Option Addr} {n n' c c':Nat} (h1:VRow Q w p n l) (h2:VRow Q' w p' n' l') {K:Value->World->Prop} (hk:∀w',Ch (λ_=>False) w w'->K (.bool (decide (l.map MV.m=l'.map MV.m))) w') :
 bK Tryz.prog 265 [.slice p n c,.slice p' n' c',.func (.func 209) #[] #[]] w K:=by
 apply uV;have hl:=h1.1;have hl':=h2.1;have hn46:=h1.2.1;refine aC (λh=>?_) (λh=>?_)
 ·rw[eJ,bG]at h;have h:=aA h;have:=hk w (Ch.refl _ _);rw[bB]at this
  ·exact this
  ·intro e;have:=(mL_eq.1 e).1;omega
 ·rw[eJ,bF]at h;have hnn:n=n':=by have:=aB h;omega
  refine⟨λm i w1=>∃j:Nat,i=(j:Int)/\m=n-j/\j<=n/\Ch (λ_=>False) w w1/\∀q,q<j->∀x y,l[q]?=some x->l'[q]?=some y->x.m=y.m,⟨n,0,rfl,rfl,bQ _,Ch.refl _ _,λq hq=>by omega⟩,?_⟩;rintro m i w1 ⟨j,rfl,rfl,hj,c1,hall⟩;refine aC (λh=>?_) (λh=>?_)
  ·have hjl:j<n:=by have:=aB h;omega
   obtain⟨x,hxi⟩:∃x,l[j]?=some x:=⟨l[j]'(by omega),aK _⟩;obtain⟨y,hyi⟩:∃y,l'[j]?=some y:=⟨l'[j]'(by omega),aK _⟩;obtain⟨bx,ox,rfl,_,ax⟩:=(h1.ch0 c1).at hxi;refine⟨by omega,by omega,?_⟩;simp only[nn];refine ldR ax ?_;refine nbx rfl λw2 b2 c2 z2=>?_;obtain⟨by',oy,rfl,_,ay⟩:=(h2.ch0 (c1.trans' c2)).at hyi;refine⟨by omega,by omega,?_⟩;simp only;refine ldR ay ?_;refine nbx rfl λw3 b3 c3 z3=>?_;have b2':=(c3.blk (aH b2) id).trans b2;refine ldK b2' (ldK b3 ?_);have c13:=(c1.trans' c2).trans' c3;rw[vv x,vv y];refine⟨by kernel_rfl,ih x (bJ hxi) y ((h1.ch0 c13).2.2.2.2 x (bJ hxi)) ((h2.ch0 c13).2.2.2.2 y (bJ hyi)) λw4 c4=>⟨_,rfl,?_⟩⟩;refine aC (λh=>?_) (λh=>?_)
   ·rw[bG]at h;have h:=aA h;have:=hk w4 (c13.trans' c4);rw[bB]at this
    ·exact this
    ·intro e;exact h ((mL_eq.1 e).2 j (by omega) x y hxi hyi)
   ·rw[bF]at h;have hxy:=aB h;rw[aW (n:=(j:Int)+1)];refine⟨n-(j+1),by omega,j+1,by omega,rfl,by omega,c13.trans' c4,λq hq a b ha hb=>?_⟩;by_cases hqj:q=j
    ·subst hqj;rw[hxi]at ha;rw[hyi]at hb;cases ha;cases hb;exact hxy
    ·exact hall q (by omega) a b ha hb
  ·have hjl:j=n:=by have:=aA h;omega
   have:=hk w1 c1;rw[aR]at this
   ·exact this
   ·exact mL_eq.2 ⟨by omega,λq hq=>hall q (by omega)⟩
theorem aO4{Q Q':Nat->Prop}:∀(x y:MV) {w:World} {K:Value->World->Prop},VR Q w x->VR Q' w y->(∀w',Ch (λ_=>False) w w'->K (.bool (decide (x.m=y.m))) w') ->
 bK Tryz.prog 209 [x.v,y.v] w K:=by
 refine MV.ind λk n t s e l ih=>?_;rintro⟨k',n',t',s',e',l'⟩ w K hx hy hk;apply aDa;refine oD (x:=.mk k n t s e l) λw1 b1 a1 c1 z1=>oD (x:=.mk k' n' t' s' e' l') λw2 b2 a2 c2 z2=>?_;have a1':=a1.ch c2 id;have c12:=c1.trans' c2;simp only[add_at];rw[MV.m_mk,MV.m_mk]at hk;have no:¬(M.mk k n t e (l.map MV.m)=M.mk k' n' t' e' (l'.map MV.m))->K (.bool false) w2:=λh=>by
  have:=hk w2 c12
  rwa [bB h]at this
 have ibeq:∀a b:Int,(a == b)=decide (a=b):=λa b=>by by_cases h:a=b<;>simp[h]
 refine⟨_,a1'.k0,_,a2.k0,?_⟩;simp only[MV.k_mk,ibeq];refine aC (λhk1=>?_) (λh=>no λhe=>?_)
 ·have hk1:=aB hk1;refine⟨_,a1'.n1,_,a2.n1,?_⟩;simp only[MV.n_mk];refine aC (λhn1=>?_) (λh=>no λhe=>?_)
  ·have hn1:n=n':=by have:=aB hn1;omega
   refine⟨_,a1'.t2,_,a2.t2,?_⟩;simp only[MV.t_mk];rw[nX];refine aC (λht1=>?_) (λh=>no λhe=>?_)
   ·have ht1:=aB ht1;refine⟨_,a1'.e4,_,a2.e4,?_⟩;simp only[MV.e_mk];refine aC (λhe1=>?_) (λh=>no λhe=>?_)
    ·have he1:=aB he1;refine⟨_,_,_,a1'.s3,_,_,_,a2.s3,?_⟩;refine aW0 (l:=l) (l':=l') ih (hx.ch0 c12).row (hy.ch0 c12).row λw3 c3=>⟨_,rfl,?_⟩;have:=hk w3 (c12.trans' c3);rw[hk1,hn1,ht1,he1]at this;simpa using this
    ·simp only[M.mk.injEq]at he;exact aA h he.2.2.2.1
   ·simp only[M.mk.injEq]at he;exact aA h he.2.2.1
  ·simp only[M.mk.injEq]at he;exact aA h (by omega)
 ·simp only[M.mk.injEq]at he;exact aA h he.1
theorem cG{b:Bool}{x y:Prop}(h:b=true)(hx:x):aS b x y:=by subst h;exact iH hx
theorem dS(x y:Int):(x == y)=decide (x=y):=by
 by_cases h:x=y
 ·subst h;simp
 ·rw[bB h,beq_eq_false_iff_ne];exact h
theorem aLv{n:Nat}(h:n<18446744073709551616):IntKind.i64.wrap (n:Int)=if n<9223372036854775808 then(n:Int)else(n:Int)-18446744073709551616:=by
 unfold IntKind.wrap;simp[IntKind.bits,IntKind.signed,Int.bmod];split<;>split<;>omega
theorem lW(a:Bs):(⟨a.toArray⟩:ByteArray).size=a.length:=by rw[<-sl,cT]
theorem VRow.lt{Q:Nat->Prop}{w:World}{p:Option Addr}{n:Nat}{l:List MV}(h:VRow Q w p n l):VRow (λb=>Q b/\b<w.heap.size) w p n l :=
 ⟨h.1,h.2.1,h.2.2.1,λa ha h0=>⟨h.2.2.2.1 a ha h0,h.2.2.1.lt a ha h0⟩,λx hx=>VR.lt x (h.2.2.2.2 x hx)⟩
theorem RS.chr{S:ByteArray}{rb p:Nat}{w w':World}(h:RS S rb p w)(c:Ch (λ_=>False) w w'):RS S rb p w':=h.ch c id
theorem aVi{S:ByteArray}(hs:S.size<=2^40){rb p:Nat}{w:World}(hr:RS S rb p w)(hL:LW w)(h2:8<=rb){K:Value->World->Prop}{KP:List PanicEntry->World->Prop}
 (hk:∀k w',(next S.data.toList p).kind=1->iM (next S.data.toList p).text=some k->¬(k=0\/k=24)->(next S.data.toList (next S.data.toList p).fin).is 91=true->RS S rb (next S.data.toList (next S.data.toList p).fin).fin w'->Ch (·=rb) w w'->K (.int .i64 (k:Int)) w')
 (hp:∀a e w',Ch (·=rb) w w'->(((next S.data.toList p).kind≠1/\(cM (next S.data.toList p) 40:Note.Fd M)=.bad a e)\/((next S.data.toList p).kind=1/\iM (next S.data.toList p).text=none/\(cM (next S.data.toList p) 40:Note.Fd M)=.bad a e) \/
   ((next S.data.toList p).kind=1/\(∃k,iM (next S.data.toList p).text=some k/\(k=0\/k=24))/\(cM (next S.data.toList p) 24:Note.Fd M)=.bad a e) \/
   ((next S.data.toList p).kind=1/\(∃k,iM (next S.data.toList p).text=some k/\¬(k=0\/k=24))/\(next S.data.toList (next S.data.toList p).fin).is 91=false/\(cM (next S.data.toList (next S.data.toList p).fin) 40:Note.Fd M)=.bad a e))->KP (flt a e) w') :
 dL Tryz.prog 152 [.pointer (some ⟨rb,0,none⟩)] w K KP:=by
 apply uZ;have hr0:=hr;obtain⟨h0,hple⟩:=hr;unfold rcl at h0;have hsz8:=hL.size;simp only[nn,add_at,aL];refine⟨_,aJ h0 4 rfl,?_⟩;refine bZ (aKb λw1 c1=>?_);have cr:∀ {a b:World},Ch (λ_=>False) a b->Ch (·=rb) a b:=λc=>c.mono λ_ _ h=>h.elim;have hr1:=hr0.chr c1;have h1:=hr1.1;unfold rcl at h1;have main:∀(n:Int) (b:Bool),aE4 (iM (ptx (next S.data.toList p)))=.tuple #[.int .i64 n,.bool b]->(∃J:World->Prop,(∀w2,J w2->dL Tryz.prog 106 [.pointer (some ⟨rb,0,none⟩)] w2 (λv1 w3=>∃n1 n2 s1,v1=.agg (Array.mk [.int .i64 n1,.int .i64 n2,.string s1]) /\
  ∃J1:World->Prop,(∀w4,J1 w4->dL Tryz.prog 106 [.pointer (some ⟨rb,0,none⟩)] w4 (λv2 w5=>∃n3 n4 s2,v2=.agg (Array.mk [.int .i64 n3,.int .i64 n4,.string s2])/\K (.int .i64 n) w5) λa1 w5=>KP a1 w5) /\
  dL Tryz.prog 206 [.pointer (some ⟨rb,0,none⟩),.string (ByteArray.mk (Array.mk [(91:UInt8)]))] w3 (λv2 w4=>∃b1,v2=.bool b1/\aS (!b1) (dL Tryz.prog 108 [.pointer (some ⟨rb,0,none⟩),.int .i64 40] w4 (λv3 w5=>v3=.tuple (Array.mk [])/\J1 w5) λa1 w5=>KP a1 w5) (J1 w4)) λa1 w4=>KP a1 w4) λa1 w3=>KP a1 w3) /\
  ∃n1,w1.cell? ⟨rb,2,none⟩=some (.int .i64 n1)/\aS (!n1 != 1) (aS (!b) (dL Tryz.prog 108 [.pointer (some ⟨rb,0,none⟩),.int .i64 40] w1 (λv1 w2=>v1=.tuple (Array.mk [])/\J w2) λa2 w2=>KP a2 w2)
   (aS (!n == 0) (aS (n == 24) (dL Tryz.prog 108 [.pointer (some ⟨rb,0,none⟩),.int .i64 24] w1 (λv1 w2=>v1=.tuple (Array.mk [])/\J w2) λa2 w2=>KP a2 w2) (J w1)) (dL Tryz.prog 108 [.pointer (some ⟨rb,0,none⟩),.int .i64 24] w1 (λv1 w2=>v1=.tuple (Array.mk [])/\J w2) λa2 w2=>KP a2 w2)))
   (dL Tryz.prog 108 [.pointer (some ⟨rb,0,none⟩),.int .i64 40] w1 (λv1 w2=>v1=.tuple (Array.mk [])/\J w2) λa2 w2=>KP a2 w2)):=by
  intro n b hnb;refine⟨λw2=>w2=w1/\(next S.data.toList p).kind=1/\∃k,iM (next S.data.toList p).text=some k/\¬(k=0\/k=24)/\n=(k:Int),?_,_,aJ h1 2 rfl,?_⟩
  ·rintro w2 ⟨rfl,hk1,k,hkn,hk24,rfl⟩;refine bZ (jJ hs hr1 (hL.ch0 c1).ut (by omega) λw3 r3 c3=>⟨_,_,_,rfl,?_⟩);have hL3:=(hL.ch0 c1).chr h2 c3;refine⟨λw4=>w4=w3/\(next S.data.toList (next S.data.toList p).fin).is 91=true,?_,?_⟩
   ·rintro w4 ⟨rfl,his⟩;exact bZ (jJ hs r3 hL3.ut (by omega) λw5 r5 c5=>⟨_,_,_,rfl,hk k w5 hk1 hkn hk24 his r5 (((cr c1).trans' c3).trans' c5)⟩)
   ·refine bZ (aAs (c:=91) r3 ⟨_,rfl,?_⟩);refine aC (λh=>?_) (λh=>⟨by trivial,by simpa using h⟩);rw[bG]at h;exact gD (e:=40) r3 (hp _ _ w3 ((cr c1).trans' c3) (.inr (.inr (.inr ⟨hk1,⟨k,hkn,hk24⟩,h,rfl⟩))))
  ·rw[eJ,Bool.not_not];refine aC (λh=>?_) (λh=>?_)
   ·have hk1:=(wA _).1 (aB h);rw[xD hk1]at hnb;cases hkn:iM (next S.data.toList p).text with
    | none =>
     rw[hkn]at hnb;simp only[aE4,Value.tuple.injEq,Array.mk.injEq,List.cons.injEq,Value.bool.injEq,Value.int.injEq,true_and,and_true]at hnb;rw[<-hnb.2];exact iH (gD (e:=40) hr1 (hp _ _ w1 (cr c1) (.inr (.inl ⟨hk1,hkn,rfl⟩))))
    | some k =>
     rw[hkn]at hnb;simp only[aE4,Value.tuple.injEq,Array.mk.injEq,List.cons.injEq,Value.bool.injEq,Value.int.injEq,true_and,and_true]at hnb;obtain⟨rfl,rfl⟩:=hnb;refine dJ (aC (λh=>?_) (λh=>?_))
     ·have k0:k≠0:=by
       rintro rfl;exact absurd h (by decide)
      refine aC (λh=>?_) (λh=>⟨by trivial,hk1,k,rfl,?_,rfl⟩)
      ·have k24:k=24:=by have:=eq_of_beq h;omega
       exact gD (e:=24) hr1 (hp _ _ w1 (cr c1) (.inr (.inr (.inl ⟨hk1,⟨k,hkn,.inr k24⟩,rfl⟩))))
      ·rintro(h3|h3)
       ·exact k0 h3
       ·rw[h3]at h;exact absurd h (by decide)
     ·have k0:k=0:=by
       have:((k:Int) == 0)=true:=by simpa using h
       have:=eq_of_beq this;omega
      exact gD (e:=24) hr1 (hp _ _ w1 (cr c1) (.inr (.inr (.inl ⟨hk1,⟨k,hkn,.inl k0⟩,rfl⟩))))
   ·exact gD (e:=40) hr1 (hp _ _ w1 (cr c1) (.inl ⟨λe=>aA h ((wA _).2 e),rfl⟩))
 cases hkn:iM (ptx (next S.data.toList p))with
 | none=>exact⟨_,_,rfl,main _ _ (by rw[hkn];rfl)⟩
 | some k=>exact⟨_,_,rfl,main _ _ (by rw[hkn];rfl)⟩
theorem stn{w:World}{k:Nat}{K1:Int}{n n':Nat}{t:Bs}{s:SL}{e:Int}{l:List MV}{K:World->Prop}(h:blk w k=some (MV.mk K1 n t s e l).g)(hk:∀w',blk w' k=some (MV.mk K1 n' t s e l).g->Ch (·=k) w w'->K w'):Sv.st w ⟨k,1,none⟩ (.int .u64 (n':Int)) K :=
 eK h (by simp[MV.g]) λw' b c _=>hk w' b c
theorem stt{w:World}{k:Nat}{K1:Int}{n:Nat}{t t':Bs}{s:SL}{e:Int}{l:List MV}{K:World->Prop}(h:blk w k=some (MV.mk K1 n t s e l).g)(hk:∀w',blk w' k=some (MV.mk K1 n t' s e l).g->Ch (·=k) w w'->K w'):Sv.st w ⟨k,2,none⟩ (.string ⟨t'.toArray⟩) K :=
 eK h (by simp[MV.g]) λw' b c _=>hk w' b c
theorem sts{w:World}{k:Nat}{K1:Int}{n:Nat}{t:Bs}{s s':SL}{e:Int}{l:List MV}(l':List MV){K:World->Prop}(h:blk w k=some (MV.mk K1 n t s e l).g)(hk:∀w',blk w' k=some (MV.mk K1 n t s' e l').g->Ch (·=k) w w'->K w'):Sv.st w ⟨k,3,none⟩ (.slice s'.p s'.n s'.c) K :=
 eK h (by simp[MV.g]) λw' b c _=>hk w' b c
theorem ste{w:World}{k:Nat}{K1:Int}{n:Nat}{t:Bs}{s:SL}{e e':Int}{l:List MV}{K:World->Prop}(h:blk w k=some (MV.mk K1 n t s e l).g)(hk:∀w',blk w' k=some (MV.mk K1 n t s e' l).g->Ch (·=k) w w'->K w'):Sv.st w ⟨k,4,none⟩ (.int .i64 e') K :=
 eK h (by simp[MV.g]) λw' b c _=>hk w' b c
theorem aU2(s:Bs):iB 16 s=iB 9 s:=by
 unfold iB;have:gN 16=gN 9:=rfl;rw[this];have h1:∀n,(n<=(gN 9).1/\¬(16=15/\55296<=n/\n<=57343))↔(n<=(gN 9).1/\¬(9=15/\55296<=n/\n<=57343)):=λn=>by simp
 simp only[h1]
theorem aIj(s:Bs):iB 15 s=match iB 4 s with
 | some n=>if n<=1114111/\¬(55296<=n/\n<=57343)then some n else none
 | none=>none:=by
 unfold iB;simp only[show(gN 15).2=0 by rfl,show(gN 4).2=0 by rfl,show(gN 15).1=1114111 by rfl,show(gN 4).1=4294967295 by rfl];simp only[Nat.lt_irrefl,false_and,if_false];cases oV s with
 | none=>rfl
 | some n =>
  simp only[true_and];by_cases h:n<=4294967295/\¬(4=15/\55296<=n/\n<=57343)
  ·rw[aF h]
  ·rw[aD h,_root_.if_neg];simp at h;omega
theorem yG{k:Nat}(h:k=2\/k=3\/k=4\/k=5\/k=6\/k=7\/k=8\/k=9\/k=15\/k=16):eC k=0:=by
 unfold eC;rw[aD,aD,aD]
theorem mX{s:Bs}{k a:Nat}(h:eC k=0):dU s k a=if(next s a).kind≠1 then cM (next s a) 41 else match iB k (next s a).text with
 | some n=>.ok (.mk k n [] 0 []) (next s a).fin
 | none=>cM (next s a) 41:=by
 unfold dU;simp only;rw[aF h];rfl
theorem lT{s:Bs}{k a:Nat}(h:eC k≠0):dU s k a=if(next s a).kind≠1 then cM (next s a) 41 else match jZ (next s a).text (eC k)with
 | some b=>if eC k=32 then .ok (.mk k 0 b 0 []) (next s a).fin else .ok (.mk k (beN b) [] 0 []) (next s a).fin
 | none=>cM (next s a) 41:=by
 unfold dU;simp only;rw[aD h];rfl
theorem aHn{n:Nat}{w:World}{K:Value->World->Prop}(hk:K (.bool (Lib.validRune (IntKind.wrap .i32 (n:Int)))) w):bK Tryz.prog 211 [.int .i32 (IntKind.wrap .i32 (n:Int))] w K:=by
 refine(Tryz.utf8_ValidRune _ _).mono ?_;rintro e w' ⟨rfl,rfl⟩;exact⟨_,rfl,hk⟩
theorem aO3{n:Nat}(hn:n<=4294967295):Lib.validRune (IntKind.wrap .i32 (n:Int))=decide (n<=1114111/\¬(55296<=n/\n<=57343)):=by
 unfold Lib.validRune;apply decide_eq_decide.2;have e:IntKind.wrap .i32 (n:Int)=if n<2147483648 then(n:Int)else(n:Int)-4294967296:=by
  unfold IntKind.wrap;simp[IntKind.bits,IntKind.signed,Int.bmod];split<;>split<;>omega
 rw[e];split<;>omega
theorem aPn{S:ByteArray}(hs:S.size<=2^40){rb p k vb:Nat}(hkk:2<=k/\k<=17){w:World}(hr:RS S rb p w)(hL:LW w)(h2:8<=rb)(hv:blk w vb=some (one k 0 []).g)(hvr:vb≠rb)(hv8:8<=vb){K:Value->World->Prop}{KP:List PanicEntry->World->Prop}
 (hk:∀n t b w',dU S.data.toList k p=.ok (.mk k n t 0 []) b->blk w' vb=some (one k n t).g->RS S rb b w'->Ch (λj=>j=rb\/j=vb) w w'->K (.tuple #[]) w')
 (hp:∀a e w',dU S.data.toList k p=.bad a e->Ch (λj=>j=rb\/j=vb) w w'->KP (flt a e) w') :
 dL Tryz.prog 154 [.pointer (some ⟨rb,0,none⟩),.pointer (some ⟨vb,0,none⟩)] w K KP:=by
 apply rZ;have hr0:=hr;have h0:=hr.1;unfold rcl at h0;have hvl:=aH hv;have hrl:=hr.lt;simp only[nn,add_at,aL];refine⟨_,aJ h0 2 rfl,_,aJ h0 3 rfl,_,aJ h0 4 rfl,?_⟩;refine aVu λw4 b4 c4 z4=>?_;have hr4:=hr0.chr c4;have hL4:=hL.ch0 c4;have hv4:blk w4 vb=some (one k 0 []).g:=(c4.blk hvl id).trans hv;have hb4:=aH b4;simp only[add_at,aL];refine⟨_,aJ hv4 0 rfl,?_⟩;have cr:∀ {a b:World},Ch (λ_=>False) a b->Ch (λj=>j=rb\/j=vb) a b:=λc=>c.mono λ_ _ h=>h.elim;have crr:∀ {a b:World},Ch (·=rb) a b->Ch (λj=>j=rb\/j=vb) a b:=λc=>c.mono λ_ _ h=>.inl h;have crv:∀ {a b:World},Ch (·=vb) a b->Ch (λj=>j=rb\/j=vb) a b:=λc=>c.mono λ_ _ h=>.inr h;have q2:(((k:Nat):Int) == 2)=decide (k=2):=eP k 2;have q3:(((k:Nat):Int) == 3)=decide (k=3):=eP k 3;have q4:(((k:Nat):Int) == 4)=decide (k=4):=eP k 4;have q5:(((k:Nat):Int) == 5)=decide (k=5):=eP k 5;have q6:(((k:Nat):Int) == 6)=decide (k=6):=eP k 6;have q7:(((k:Nat):Int) == 7)=decide (k=7):=eP k 7;have q8:(((k:Nat):Int) == 8)=decide (k=8):=eP k 8;have q9:(((k:Nat):Int) == 9)=decide (k=9):=eP k 9;have q10:(((k:Nat):Int) == 10)=decide (k=10):=eP k 10;have q11:(((k:Nat):Int) == 11)=decide (k=11):=eP k 11;have q12:(((k:Nat):Int) == 12)=decide (k=12):=eP k 12;have q13:(((k:Nat):Int) == 13)=decide (k=13):=eP k 13;have q15:(((k:Nat):Int) == 15)=decide (k=15):=eP k 15;have q16:(((k:Nat):Int) == 16)=decide (k=16):=eP k 16
 -- what comes of an integer
 have fin:∀w5 n,eC k=0->(next S.data.toList p).kind=1->iB k (next S.data.toList p).text=some n->RS S rb (next S.data.toList p).fin w5->Ch (·=rb) w4 w5->Sv.st w5 ⟨vb,1,none⟩ (.int .u64 (n:Int)) λw6=>K (.tuple (Array.mk [])) w6:=by
  intro w5 n hb hk1 hi r5 c5;have hv5:blk w5 vb=some (one k 0 []).g:=(c5.blk (aH hv4) hvr).trans hv4;refine stn (n':=n) hv5 λw6 b6 c6=>?_;refine hk n [] _ w6 ?_ b6 (r5.ch c6 (λe=>hvr e.symm)) (((cr c4).trans' (crr c5)).trans' (crv c6));rw[mX hb,aD,hi]
 have bad:eC k=0->((next S.data.toList p).kind≠1\/iB k (next S.data.toList p).text=none)->∀w',Ch (λ_=>False) w4 w'->KP (flt (next S.data.toList p).beg (if(next S.data.toList p).kind=5 then 42 else 41)) w':=by
  intro hb h w' c;refine hp _ _ w' ?_ ((cr c4).trans' (cr c));rw[mX hb];by_cases h1:(next S.data.toList p).kind≠1
  ·rw[aF h1];rfl
  ·rw[aD h1];rcases h with h|h
   ·exact absurd h h1
   ·rw[h];rfl
 have badB:eC k≠0->((next S.data.toList p).kind≠1\/jZ (next S.data.toList p).text (eC k)=none)->∀w',Ch (λ_=>False) w4 w'->KP (flt (next S.data.toList p).beg (if(next S.data.toList p).kind=5 then 42 else 41)) w':=by
  intro hb h w' c;refine hp _ _ w' ?_ ((cr c4).trans' (cr c));rw[lT hb];by_cases h1:(next S.data.toList p).kind≠1
  ·rw[aF h1];rfl
  ·rw[aD h1];rcases h with h|h
   ·exact absurd h h1
   ·rw[h];rfl
 refine aC (λh=>?_) (λh2n=>?_)
 ·have hkj:k=2:=by rw[q2]at h;exact aB h
  have hb:eC k=0:=yG (by omega);refine iZ (B:=8) (k:=2) hs hr4 hL4 h2 (.inr ⟨rfl,.inl ⟨rfl,rfl⟩⟩) (λhk1 n w5 hi r5 c5=>⟨_,rfl,fin w5 n hb hk1 (by rw[hkj];exact hi) r5 c5⟩) (λh w' c=>bad hb (by rw[hkj];exact h) w' c)
 refine aC (λh=>?_) (λh3=>?_)
 ·have hkj:k=3:=by rw[q3]at h;exact aB h
  have hb:eC k=0:=yG (by omega);refine iZ (B:=16) (k:=3) hs hr4 hL4 h2 (.inr ⟨rfl,.inr (.inl ⟨rfl,rfl⟩)⟩) (λhk1 n w5 hi r5 c5=>⟨_,rfl,fin w5 n hb hk1 (by rw[hkj];exact hi) r5 c5⟩) (λh w' c=>bad hb (by rw[hkj];exact h) w' c)
 refine aC (λh=>?_) (λh4=>?_)
 ·have hkj:k=4:=by rw[q4]at h;exact aB h
  have hb:eC k=0:=yG (by omega);refine iZ (B:=32) (k:=4) hs hr4 hL4 h2 (.inr ⟨rfl,.inr (.inr (.inl ⟨rfl,rfl⟩))⟩) (λhk1 n w5 hi r5 c5=>⟨_,rfl,fin w5 n hb hk1 (by rw[hkj];exact hi) r5 c5⟩) (λh w' c=>bad hb (by rw[hkj];exact h) w' c)
 refine aC (λh=>?_) (λh5=>?_)
 ·have hkj:k=5:=by rw[q5]at h;exact aB h
  have hb:eC k=0:=yG (by omega);refine iZ (B:=64) (k:=5) hs hr4 hL4 h2 (.inr ⟨rfl,.inr (.inr (.inr ⟨rfl,rfl⟩))⟩) (λhk1 n w5 hi r5 c5=>⟨_,rfl,fin w5 n hb hk1 (by rw[hkj];exact hi) r5 c5⟩) (λh w' c=>bad hb (by rw[hkj];exact h) w' c)
 refine aC (λh=>?_) (λh6=>?_)
 ·have hkj:k=6:=by rw[q6]at h;exact aB h
  have hb:eC k=0:=yG (by omega);refine iZ (B:=8) (k:=6) hs hr4 hL4 h2 (.inl ⟨rfl,.inl ⟨rfl,rfl⟩⟩) (λhk1 n w5 hi r5 c5=>⟨_,rfl,fin w5 n hb hk1 (by rw[hkj];exact hi) r5 c5⟩) (λh w' c=>bad hb (by rw[hkj];exact h) w' c)
 refine aC (λh=>?_) (λh7=>?_)
 ·have hkj:k=7:=by rw[q7]at h;exact aB h
  have hb:eC k=0:=yG (by omega);refine iZ (B:=16) (k:=7) hs hr4 hL4 h2 (.inl ⟨rfl,.inr (.inl ⟨rfl,rfl⟩)⟩) (λhk1 n w5 hi r5 c5=>⟨_,rfl,fin w5 n hb hk1 (by rw[hkj];exact hi) r5 c5⟩) (λh w' c=>bad hb (by rw[hkj];exact h) w' c)
 refine aC (λh=>?_) (λh8=>?_)
 ·have hkj:k=8:=by rw[q8]at h;exact aB h
  have hb:eC k=0:=yG (by omega);refine iZ (B:=32) (k:=8) hs hr4 hL4 h2 (.inl ⟨rfl,.inr (.inr (.inl ⟨rfl,rfl⟩))⟩) (λhk1 n w5 hi r5 c5=>⟨_,rfl,fin w5 n hb hk1 (by rw[hkj];exact hi) r5 c5⟩) (λh w' c=>bad hb (by rw[hkj];exact h) w' c)
 rw[q2]at h2n;have h2n:=aA h2n;rw[q3]at h3;have h3:=aA h3;rw[q4]at h4;have h4:=aA h4;rw[q5]at h5;have h5:=aA h5;rw[q6]at h6;have h6:=aA h6;rw[q7]at h7;have h7:=aA h7;rw[q8]at h8;have h8:=aA h8;refine⟨λb w5=>w5=w4/\b=decide (k=9\/k=16),?_,?_⟩
 ·rintro b w5 ⟨rfl,rfl⟩;refine aC (λh=>?_) (λhn9=>?_)
  ·have hkj:=aB h;have hb:eC k=0:=yG (by omega);have he:∀s,iB k s=iB 9 s:=λs=>by
    rcases hkj with rfl|rfl
    ·rfl
    ·exact aU2 s
   refine iZ (B:=64) (k:=9) hs hr4 hL4 h2 (.inl ⟨rfl,.inr (.inr (.inr ⟨rfl,.inl rfl⟩))⟩) (λhk1 n w6 hi r6 c6=>⟨_,rfl,fin w6 n hb hk1 (by rw[he];exact hi) r6 c6⟩) (λh w' c=>bad hb (by rw[he];exact h) w' c)
  have hn9:=aA hn9;refine aC (λh=>?_) (λh15=>?_)
  ·have hkj:k=15:=by rw[q15]at h;exact aB h
   have hb:eC k=0:=yG (by omega);refine iZ (B:=32) (k:=4) hs hr4 hL4 h2 (.inr ⟨rfl,.inr (.inr (.inl ⟨rfl,rfl⟩))⟩) (λhk1 n w6 hi r6 c6=>⟨_,rfl,?_⟩) (λh w' c=>bad hb ?_ w' c)
   ·have hv5:blk w6 vb=some (one k 0 []).g:=(c6.blk (aH hv4) hvr).trans hv4;have hn32:n<=4294967295:=by
     rcases aN8 hi with⟨h,_⟩|⟨h,_⟩
     ·exact h
     ·exact absurd h (by decide)
    refine stn (n':=n) hv5 λw7 b7 c7=>⟨_,aJ b7 1 rfl,?_⟩;refine bZ (aHn ?_);have hval:∀b:Bool,b=decide (n<=1114111/\¬(55296<=n/\n<=57343))->aS (!b) (∃n5,w7.cell? ⟨w.heap.size,1,none⟩=some (.int .i64 n5)/\dL Tryz.prog 155 [.int .i64 n5,.int .i64 41] w7 (λv3 w9=>v3=.tuple (Array.mk [])/\K (.tuple (Array.mk [])) w9) λa5 w9=>KP a5 w9) (K (.tuple (Array.mk [])) w7):=by
     intro b hbv;have cc:Ch (λj=>j=rb\/j=vb) w w7:=((cr c4).trans' (crr c6)).trans' (crv c7);refine aC (λh=>?_) (λh=>?_)
     ·have hno:¬(n<=1114111/\¬(55296<=n/\n<=57343)):=by
       rw[bG,hbv]at h;exact aA h
      have b7':blk w7 w.heap.size=some [.int .i64 (pk (next S.data.toList p):Int),.int .i64 ((next S.data.toList p).beg:Int),.string ⟨(ptx (next S.data.toList p)).toArray⟩]:=by
       rw[c7.blk (by have:=c6.size;omega) (by omega),c6.blk hb4 (by omega)];exact b4
      refine⟨_,aJ b7' 1 rfl,xV (e:=41) (hp _ _ w7 ?_ cc)⟩;rw[mX hb,aD,hkj,aIj,hi];simp only;rw[aD hno];unfold cM;rw[aD]
     ·have hyes:n<=1114111/\¬(55296<=n/\n<=57343):=by
       rw[bF,hbv]at h;exact aB h
      refine hk n [] _ w7 ?_ b7 (r6.ch c7 (λe=>hvr e.symm)) cc;rw[mX hb,aD,hkj,aIj,hi];simp only;rw[aF hyes]
    exact⟨_,rfl,hval _ (aO3 hn32)⟩
   ·rcases h with h|h
    ·exact .inl h
    ·right;rw[hkj,aIj,h]
  have hn15:k≠15:=by rw[q15]at h15;exact aA h15
  refine⟨λb w6=>w6=w5/\b=decide (k=10\/k=12),?_,?_⟩
  ·rintro b w6 ⟨rfl,rfl⟩;refine aC (λh=>?_) (λhn10=>?_)
   ·have hkj:=aB h;have hb:eC k=8:=by unfold eC;rw[aF hkj]
    refine zY (j:=4) hs (by decide) hr4 hL4 h2 (λhk1 b q c w7 hby hbl hrd hjc r7 c7=>⟨_,_,_,rfl,?_⟩) (λh w' c=>badB (by omega) (by rw[hb];exact h) w' c);refine bZ (aIm (a:=0) (k:=4) hrd hjc (by decide) (by decide) (by decide) (by decide) ⟨_,_,rfl,?_⟩);rw[bS,aY (by omega)];have hv7:blk w7 vb=some (one k 0 []).g:=(c7.blk (aH hv4) hvr).trans hv4;refine stn (n':=beN b) hv7 λw8 b8 c8=>hk (beN b) [] _ w8 ?_ b8 (r7.ch c8 (λe=>hvr e.symm)) (((cr c4).trans' (crr c7)).trans' (crv c8));rw[lT (by omega),aD,hb,hby];rfl
   have hn10:=aA hn10;refine⟨λb w7=>w7=w6/\b=decide (k=11\/k=13),?_,?_⟩
   ·rintro b w7 ⟨rfl,rfl⟩;refine aC (λh=>?_) (λhn11=>?_)
    ·have hkj:=aB h;have hb:eC k=16:=by unfold eC;rw[aD,aF hkj]
     refine zY (j:=8) hs (by decide) hr4 hL4 h2 (λhk1 b q c w7 hby hbl hrd hjc r7 c7=>⟨_,_,_,rfl,?_⟩) (λh w' c=>badB (by omega) (by rw[hb];exact h) w' c);refine bZ (aIm (a:=0) (k:=8) hrd hjc (by decide) (by decide) (by decide) (by decide) ⟨_,_,rfl,?_⟩);rw[bS,aY (by omega)];have hv7:blk w7 vb=some (one k 0 []).g:=(c7.blk (aH hv4) hvr).trans hv4;refine stn (n':=beN b) hv7 λw8 b8 c8=>hk (beN b) [] _ w8 ?_ b8 (r7.ch c8 (λe=>hvr e.symm)) (((cr c4).trans' (crr c7)).trans' (crv c8));rw[lT (by omega),aD,hb,hby];rfl
    ·have hn11:=aA hn11;have hkj:k=14\/k=17:=by omega
     have hb:eC k=32:=by unfold eC;rw[aD,aD,aF hkj]
     refine zY (j:=16) hs (by decide) hr4 hL4 h2 (λhk1 b q c w7 hby hbl hrd hjc r7 c7=>⟨_,_,_,rfl,?_⟩) (λh w' c=>badB (by omega) (by rw[hb];exact h) w' c);refine⟨_,cD fD iL dN hrd,?_⟩;have hv7:blk w7 vb=some (one k 0 []).g:=(c7.blk (aH hv4) hvr).trans hv4;refine stt (t':=b) hv7 λw8 b8 c8=>hk 0 b _ w8 ?_ b8 (r7.ch c8 (λe=>hvr e.symm)) (((cr c4).trans' (crr c7)).trans' (crv c8));rw[lT (by omega),aD,hb,hby];rfl
   ·refine aC (λh=>⟨by trivial,?_⟩) (λh=>⟨by trivial,?_⟩)
    ·have:k=11:=by rw[q11]at h;exact aB h
     rw[q11];subst this;rfl
    ·rw[q11]at h;rw[q13];exact decide_eq_decide.2 ⟨λe=>.inr e,λe=>e.resolve_left (aA h)⟩
  ·refine aC (λh=>⟨by trivial,?_⟩) (λh=>⟨by trivial,?_⟩)
   ·have:k=10:=by rw[q10]at h;exact aB h
    rw[q10];subst this;rfl
   ·rw[q10]at h;rw[q12];exact decide_eq_decide.2 ⟨λe=>.inr e,λe=>e.resolve_left (aA h)⟩
 ·refine aC (λh=>⟨by trivial,?_⟩) (λh=>⟨by trivial,?_⟩)
  ·have:k=9:=by rw[q9]at h;exact aB h
   rw[q9];subst this;rfl
  ·rw[q9]at h;rw[q16];exact decide_eq_decide.2 ⟨λe=>.inr e,λe=>e.resolve_left (aA h)⟩
theorem aF6:Tryz.prog.underlying 81=some (.slice 83):=by kernel_rfl
theorem aU3:InfoIs Tryz.prog 83 5 64 (.agg #[.int .i64 0,.int .u64 0,.string ⟨#[]⟩,.slice none 0 0,.int .i64 0]):=.of (by kernel_rfl) (by kernel_rfl) (by kernel_rfl)
theorem gg(x:MV):[Value.int .i64 x.k,.int .u64 (x.n:Int),.string ⟨x.t.toArray⟩,.slice x.s.p x.s.n x.s.c,.int .i64 x.e]=x.g:=by cases x;rfl
theorem dD(own:Option Nat)(R:List MV):VE.rowB own R=own.toList++R.flatMap MV.B:=rfl
theorem aJ2{w:World}{p:Option Addr}{n c k:Nat}{own:Option Nat}{R xs:List MV}{te ty:TypeId}(h:VE.Row w p n c own R)(hx:∀x∈xs,VO w x)(hxd:(xs.flatMap MV.B).Nodup)(hd:∀b∈xs.flatMap MV.B,b ∉ VE.rowB own R)(hxs:xs.length=k)(h1:n+k<=2^41)
 {K:Option Addr->Nat->Nat->World->Prop}
 (hk:∀p' c' own' w',VE.Row w' p' (n+k) c' own' (R++xs)->(∀b∈VE.rowB own' (R++xs),b∈VE.rowB own R\/b∈xs.flatMap MV.B\/w.heap.size<=b)->Ch (λb=>own=some b) w w'->K p' (n+k) c' w') :
 bP w (xs.flatMap MV.g) te λa w2=>∃p5 n7 c5 w3,Sem.run Tryz.prog (Builtin.append_ #[81,81] ty #[.slice p n c,.slice (some a) k k]) w2=.ok (.slice p5 n7 c5) w3/\K p5 n7 c5 w3:=by
 subst hxs;obtain⟨hl,ho,hr,hnd⟩:=h;subst hl;refine bD λw2 b2 c2 z2=>?_;have hone:∀u∈xs.flatMap MV.g,nK u=true:=by
  intro u hu;obtain⟨x,_,hx⟩:=List.mem_flatMap.1 hu;exact MV.gone x u hx
 have hgl:(xs.flatMap MV.g).length=xs.length*5:=mB MV.glen xs;have hrd:Rd w2 (some ⟨w.heap.size,0,none⟩) xs.length 5 (xs.flatMap MV.g):=⟨hgl,.inr ⟨_,0,_,rfl,gX b2,by rw[hgl];omega,by rw[bS,aY (by rw[hgl];omega)]⟩⟩;obtain⟨p',c',w',own',r1,r2,r3,r4,_⟩:=uQ (ty:=ty) (c2:=xs.length) aF6 aF6 aU3 rfl (ho.ch c2 λ_ _=>id) hrd hone (by omega) (by omega);refine⟨p',_,c',w',r1,?_⟩;have hch:Ch (λb=>own=some b) w w':=(c2.mono λ_ _ h=>h.elim).trans' r4;have hn':∀k,own'=some k->own=some k\/w.heap.size<=k:=λk hk=>(r3 k hk).imp id λh=>by omega
 have hxl:∀b∈xs.flatMap MV.B,b<w.heap.size:=λb hb=>by
  obtain⟨x,hx1,hx2⟩:=List.mem_flatMap.1 hb;exact VO.lt x (hx x hx1) b hx2
 have hRl:∀y∈R,∀b∈y.B,b<w.heap.size:=λy hy=>VO.lt y (hr y hy);have hnd2:∀b∈R.flatMap MV.B,own≠some b:=λb hb he=>by
  rw[dD,he]at hnd;exact(List.nodup_cons.1 hnd).1 hb
 have hnd3:(R.flatMap MV.B).Nodup:=(List.nodup_append.1 (by rw[dD]at hnd;exact hnd)).2.1;have e:(R++xs).flatMap MV.g=R.flatMap MV.g++xs.flatMap MV.g:=by simp
 refine hk p' c' own' w' ⟨by simp,by rw[show VE.g=MV.g by rfl,e];exact r2,λy hy=>?_,?_⟩ (λb hb=>?_) hch
 ·rcases List.mem_append.1 hy with hy|hy
  ·exact VO.ch hch y (hr y hy) λb hb he=>hnd2 b (List.mem_flatMap.2 ⟨y,hy,hb⟩) he
  ·exact VO.ch hch y (hx y hy) λb hb he=>hd b (List.mem_flatMap.2 ⟨y,hy,hb⟩) (by rw[dD,he];simp)
 ·have base:((R++xs).flatMap MV.B).Nodup:=by
   rw[List.flatMap_append];refine List.nodup_append.2 ⟨hnd3,hxd,λa ha b hb he=>?_⟩;subst he;exact hd a hb (by rw[dD];exact List.mem_append.2 (.inr ha))
  rw[dD];cases own' with
  | none=>simpa using base
  | some k =>
   show(k::((R++xs).flatMap MV.B)).Nodup;refine List.nodup_cons.2 ⟨λhm=>?_,base⟩;rw[List.flatMap_append]at hm;rcases hn' k rfl with q|q
   ·rcases List.mem_append.1 hm with hm|hm
    ·exact hnd2 k hm q
    ·exact hd k hm (by rw[dD,q];simp)
   ·rcases List.mem_append.1 hm with hm|hm
    ·obtain⟨y,hy,hy2⟩:=List.mem_flatMap.1 hm;have:=hRl y hy k hy2;omega
    ·have:=hxl k hm;omega
 ·rw[dD,List.flatMap_append]at hb;rcases List.mem_append.1 hb with hb|hb
  ·rcases hn' b (by simpa[Option.mem_toList]using hb)with q|q
   ·exact .inl (by rw[dD,q];simp)
   ·exact .inr (.inr q)
  ·rcases List.mem_append.1 hb with hb|hb
   ·exact .inl (by rw[dD];exact List.mem_append.2 (.inr hb))
   ·exact .inr (.inl hb)
theorem Row.vrow{w:World}{p:Option Addr}{n c:Nat}{own:Option Nat}{R:List MV}(h:VE.Row w p n c own R)(hn:n<=2^46):VRow (·∈VE.rowB own R) w p n R:=by
 obtain⟨h1,h2,h3,h4⟩:=h;refine⟨h1,hn,h2.rd,λa ha h0=>?_,λx hx=>VO.vr x (h3 x hx) _ λb hb=>?_⟩
 ·have:=sV h2 a ha h0;rw[dD,this];simp
 ·rw[dD];exact List.mem_append.2 (.inr (List.mem_flatMap.2 ⟨x,hx,hb⟩))
def aOt(S:ByteArray)(rb d:Nat):Prop:=∀(p:Nat) (w:World) (K:Value->World->Prop) (KP:List PanicEntry->World->Prop),RS S rb p w->LW w ->
 (∀x b w',gZ S.data.toList d p=.ok x.m b->VO w' x->(∀k∈x.B,w.heap.size<=k)->RS S rb b w'->Ch (·=rb) w w'->K x.v w') ->
 (∀a e w',gZ S.data.toList d p=.bad a e->Ch (·=rb) w w'->KP (flt a e) w') ->
 dL Tryz.prog 107 [.pointer (some ⟨rb,0,none⟩),.int .i64 (33-(d:Int))] w K KP
def aXv(elem:Option Nat):Int:=match elem with|none=>-1|some k=>(k:Int)
theorem aAx{S:ByteArray}(hs:S.size<=2^40){rb d:Nat}(h2:8<=rb)(hd:d<=31)(hV:aOt S rb d){p:Nat}{elem:Option Nat}{w:World}(hr:RS S rb p w)(hL:LW w){K:Value->World->Prop}{KP:List PanicEntry->World->Prop}
 (hk:∀R p' c own b w',fM (gZ S.data.toList d) S.data.toList elem p []=.ok (R.map MV.m) b->VE.Row w' p' R.length c own R->R.length<=2^40->(∀k∈VE.rowB own R,w.heap.size<=k)->RS S rb b w'->Ch (·=rb) w w'->K (.slice p' R.length c) w')
 (hp:∀a e w',fM (gZ S.data.toList d) S.data.toList elem p []=.bad a e->Ch (·=rb) w w'->KP (flt a e) w') :
 dL Tryz.prog 150 [.pointer (some ⟨rb,0,none⟩),.int .i64 (32-(d:Int)),.int .i64 (aXv elem)] w K KP:=by
 apply pI;have hlen:=sl S;have hrl:=hr.lt;refine⟨λm p1 n c w1=>∃R own q,n=R.length/\VE.Row w1 p1 n c own R/\(∀k∈VE.rowB own R,w.heap.size<=k)/\RS S rb q w1/\Ch (·=rb) w w1/\R.length<=q/\m=S.size-q/\fM (gZ S.data.toList d) S.data.toList elem p []=fM (gZ S.data.toList d) S.data.toList elem q (R.map MV.m),
  ⟨S.size-p,[],none,p,rfl,El.Row.nil,by simp[dD],hr,Ch.refl _ _,bQ _,rfl,rfl⟩,?_⟩
 rintro m p1 n c w1 ⟨R,own,q,rfl,hrow,hnew,hrq,c1,hRq,rfl,heq⟩;have hL1:=hL.chr h2 c1;have hq:=hrq.2;have hun:=zX (fE S.data.toList d) elem (a:=q) (R.map MV.m) (by rw[hlen];exact hq);refine bZ (aAs (c:=93) hrq ⟨_,rfl,?_⟩);refine aC (λh=>?_) (λh=>?_)
 ·rw[bG]at h;rw[h]at hun;simp only[Bool.false_eq_true,if_false]at hun;have h0:=hrq.1;unfold rcl at h0;simp only[nn,add_at,aL];refine⟨_,aJ h0 3 rfl,?_⟩;rw[aW (n:=32-(d:Int)+1),show 32-(d:Int)+1=33-(d:Int) by omega];refine hV q w1 _ _ hrq hL1 (λx b w3 hrd hvo hxb hrb c3=>?_) (λa e w3 hrd c3=>?_)
  ·have hgo:=fE S.data.toList d q x.m b (by rw[hlen];exact hq) hrd;rw[hlen]at hgo;rw[hrd]at hun;obtain⟨kb,hkb⟩:=lG hrd;have h5:(next S.data.toList q).kind≠5:=by
    intro h5;unfold dA at hkb;simp[h5]at hkb
   refine is5 (nbx rfl λw9 b9 c9 z9=>?_);have c39:Ch (λ_=>False) w3 w9:=c9;have goOn:∀w10,w10=w9->fM (gZ S.data.toList d) S.data.toList elem p []=fM (gZ S.data.toList d) S.data.toList elem b ((R++[x]).map MV.m)->∃n,w10.cell? (Addr.add ⟨w3.heap.size,0,none⟩ 0)=some (.int .i64 n)/\∃n1,w10.cell? (Addr.add ⟨w3.heap.size,0,none⟩ 1)=some (.int .u64 n1)/\∃s,w10.cell? (Addr.add ⟨w3.heap.size,0,none⟩ 2)=some (.string s)/\∃p2 n8 c2,w10.cell? (Addr.add ⟨w3.heap.size,0,none⟩ 3)=some (.slice p2 n8 c2)/\∃n9,w10.cell? (Addr.add ⟨w3.heap.size,0,none⟩ 4)=some (.int .i64 n9) /\
    bP w10 [.int .i64 n,.int .u64 n1,.string s,.slice p2 n8 c2,.int .i64 n9] 83 λa2 w11=>∃p3 n10 c3 w12,Sem.run Tryz.prog (Builtin.append_ (Array.mk [81,81]) 81 (Array.mk [.slice p1 R.length c,.slice (some a2) 1 1])) w11=.ok (.slice p3 n10 c3) w12 /\
     ∃m',m'<S.size-q/\∃R own q,n10=R.length/\VE.Row w12 p3 n10 c3 own R/\(∀k∈VE.rowB own R,w.heap.size<=k)/\RS S rb q w12/\Ch (·=rb) w w12/\R.length<=q/\m'=S.size-q/\fM (gZ S.data.toList d) S.data.toList elem p []=fM (gZ S.data.toList d) S.data.toList elem q (R.map MV.m):=by
    rintro w10 rfl heq2;refine ldK b9 ?_;rw[gg x];have hrow10:VE.Row w10 p1 R.length c own R:=(hrow.ch c3 λb hb e=>by have:=hnew b hb;omega).ch c9 λ_ _ h=>h;have hvo10:VO w10 x:=VO.ch c9 x hvo λ_ _ h=>h;have hxl:=VO.lt x hvo;have hRl:=hrow.lt;have key:=aJ2 (te:=83) (ty:=81) (k:=1) (xs:=[x]) hrow10 (λy hy=>by rw[List.mem_singleton.1 hy];exact hvo10) (by simpa using hvo.inv.2.2.2.2) (λb hb hb2=>by
     have h1:=hxb b (by simpa using hb);have h2:=hRl b hb2;omega) rfl (by omega) (K:=λp3 n10 c3 w12=>∃m',m'<S.size-q/\∃R own q,n10=R.length/\VE.Row w12 p3 n10 c3 own R/\(∀k∈VE.rowB own R,w.heap.size<=k)/\RS S rb q w12/\Ch (·=rb) w w12/\R.length<=q/\m'=S.size-q/\fM (gZ S.data.toList d) S.data.toList elem p []=fM (gZ S.data.toList d) S.data.toList elem q (R.map MV.m)) (λp3 c4 own' w12 hrow12 hb12 c12=>by
      have hown:∀b,own=some b->w.heap.size<=b:=λb hb=>hnew b (by rw[dD,hb];simp);refine⟨S.size-b,by omega,R++[x],own',b,by simp,hrow12,λk hk=>?_,(hrb.chr c9).ch c12 λe=>?_,((c1.trans' c3).trans' (c9.mono λ_ _ h=>h.elim)).trans c12 λy hy h=>?_,by simp;omega,rfl,heq2⟩
      ·rcases hb12 k hk with h|h|h
       ·exact hnew k h
       ·have:=hxb k (by simpa using h);have:=c1.size;omega
       ·have:=c1.size;have:=c3.size;have:=c9.size;omega
      ·have:=hown rb e;omega
      ·have:=hown y h;omega)
    rw[show[x].flatMap MV.g=x.g by simp]at key;exact key
   refine⟨λw10=>w10=w9/\fM (gZ S.data.toList d) S.data.toList elem p []=fM (gZ S.data.toList d) S.data.toList elem b ((R++[x]).map MV.m),λw10 ⟨h1,h2⟩=>goOn w10 h1 h2,?_⟩;have hok:(elem=none\/∃k,elem=some k/\x.m.k=(k:Int))->fM (gZ S.data.toList d) S.data.toList elem p []=fM (gZ S.data.toList d) S.data.toList elem b ((R++[x]).map MV.m):=by
    intro h;rw[heq,hun,List.map_append];rcases h with rfl|⟨k,rfl,h⟩
    ·rfl
    ·simp only[h,if_true];rfl
   have hxk:x.m.k=x.k:=by cases x;rw[MV.m_mk];rfl
   refine aC (λhe=>?_) (λhe=>⟨by trivial,hok (.inl ?_)⟩)
   ·have he:=aB he;cases elem with
    | none=>exact absurd he (by decide)
    | some k =>
     simp only[add_at,aL];refine⟨x.k,by cases x;exact aJ b9 0 rfl,?_⟩;rw[eJ];refine aC (λh6=>?_) (λh6=>⟨by trivial,hok (.inr ⟨k,rfl,?_⟩)⟩)
     ·rw[bG]at h6;have h6:=aA h6;refine xV (e:=24) (hp _ _ w9 ?_ ((c1.trans' c3).trans' (c9.mono λ_ _ h=>h.elim)));rw[heq,hun];simp only;rw[aD (by rw[hxk];exact h6)];unfold cM;rw[aD h5]
     ·rw[bF]at h6;rw[hxk];exact aB h6
   ·have he:=aA he;cases elem with
    | none=>rfl
    | some k=>exact absurd (by show(k:Int)>=0;omega) he
  ·rw[hrd]at hun;exact hp a e w3 (by rw[heq,hun]) (c1.trans' c3)
 ·rw[bF]at h;rw[h]at hun;simp only[if_true]at hun;refine bZ (jJ hs hrq hL1.ut (by omega) λw3 r3 c3=>⟨_,_,_,rfl,?_⟩);exact hk R p1 c own _ w3 (by rw[heq,hun]) (hrow.ch c3 λb hb e=>by have:=hnew b hb;omega) (by omega) hnew r3 (c1.trans' c3)
theorem aF0{α β:Type}{t:Tok}{a e:Nat}(h:(wanted t:Note.Fd α)=.bad a e):(wanted t:Note.Fd β)=.bad a e:=by
 unfold wanted cM at h ⊢;by_cases c:t.kind=0\/nU t=true
 ·rw[aF c]at h ⊢;cases h;rfl
 ·rw[aD c]at h ⊢;cases h;rfl
theorem aKj{l:List M}(hev:l.length%2=0):(fS l).Nodup↔∀i k,k<i->2*i<l.length->l[2*i]?≠l[2*k]?:=by
 have hlen:=tM l hev;unfold List.Nodup;rw[List.pairwise_iff_getElem];constructor
 ·intro h i k hki hi e;have hi':i<(fS l).length:=by omega
  refine h k i (by omega) hi' hki ?_;have h1:=lL l k hev;have h2:=lL l i hev;rw[aK (by omega)]at h1;rw[aK hi',e,<-h1]at h2;exact(bC h2).symm
 ·intro h i j hi hj hij e;have h1:=lL l i hev;have h2:=lL l j hev;rw[aK hi]at h1;rw[aK hj,<-e,h1]at h2;exact h j i hij (by omega) h2.symm
theorem aRv{S:ByteArray}(hs:S.size<=2^40){rb d:Nat}(h2:8<=rb)(hd:d<=31)(hV:aOt S rb d){p o:Nat}{w:World}(hr:RS S rb p w)(hL:LW w){K:Value->World->Prop}{KP:List PanicEntry->World->Prop}
 {r:Note.Fd M} (hrr:r=if(next S.data.toList p).is 125=true then uT [] o (next S.data.toList p).fin else match wE (gZ S.data.toList d) S.data.toList p []with
  | .bad a e=>.bad a e
  | .ok l a=>uT l o a)
 (hk:∀R p' c own b w',r=.ok (.mk 22 0 [] 0 (R.map MV.m)) b->VE.Row w' p' R.length c own R->R.length<=2^40->(∀k∈VE.rowB own R,w.heap.size<=k)->RS S rb b w'->Ch (·=rb) w w'->K (.slice p' R.length c) w')
 (hp:∀a e w',r=.bad a e->Ch (·=rb) w w'->KP (flt a e) w') :
 dL Tryz.prog 151 [.pointer (some ⟨rb,0,none⟩),.int .i64 (o:Int),.int .i64 (32-(d:Int))] w K KP:=by
 apply sY;have hlen:=sl S;have hrl:=hr.lt;obtain⟨s,hsd⟩:∃s,s=S.data.toList:=⟨_,rfl⟩;rw[<-hsd]at hrr hlen;have RSd:∀ {q w},RS S rb q w->RS S rb q w:=λh=>h;refine bZ (aAs (c:=125) hr ⟨_,rfl,?_⟩);rw[<-hsd]
 -- where the reading stands: what is left to be read gives r
 obtain⟨Rest,hRest⟩:∃Rest:Bool->Nat->List M->Prop,Rest=λmore q acc=>(more=true->r=match wE (gZ s d) s q acc with
  | .bad a e=>.bad a e
  | .ok l a=>uT l o a)/\(more=false->((next s q).is 125=true->r=uT acc o (next s q).fin)/\((next s q).is 125=false->r=wanted (next s q))):=⟨_,rfl⟩
 refine⟨λm p1 n c more w1=>∃R own q,n=R.length/\VE.Row w1 p1 n c own R/\(∀k∈VE.rowB own R,w.heap.size<=k)/\RS S rb q w1/\Ch (·=rb) w w1/\R.length<=2*q/\R.length%2=0/\m=S.size+1-q+(if more then 1 else 0)/\Rest more q (R.map MV.m),⟨_,[],none,p,rfl,El.Row.nil,by simp[dD],hr,Ch.refl _ _,by simp,rfl,rfl,?_⟩,?_⟩
 ·rw[hRest];refine⟨λhm=>?_,λhm=>⟨λh=>?_,λh=>?_⟩⟩
  ·rw[bG]at hm;rw[hrr,hm];rfl
  ·rw[hrr,aF h];rfl
  ·rw[h]at hm;cases hm
 rintro m p1 n c more w1 ⟨R,own,q,rfl,hrow,hnew,hrq,c1,hRq,hev,rfl,hrest⟩;have hL1:=hL.chr h2 c1;have hq:=hrq.2;have c1s:=c1.size;refine aC (λhmore=>?_) (λhmore=>?_)
 ·subst hmore;rw[hRest]at hrest;have hrest:=hrest.1 rfl;have hun:=zA (fE s d) (a:=q) (R.map MV.m) (by rw[hlen];exact hq);rw[aW (n:=32-(d:Int)+1),show 32-(d:Int)+1=33-(d:Int) by omega];refine hV q w1 _ _ hrq hL1 (λx b w3 hrd hvo hxb hrb c3=>?_) (λa e w3 hrd c3=>?_)
  rotate_left
  ·rw[<-hsd]at hrd;rw[hrd]at hun;exact hp a e w3 (by rw[hrest,hun]) (c1.trans' c3)
  rw[<-hsd]at hrd;have hgo:=fE s d q x.m b (by rw[hlen];exact hq) hrd;rw[hlen]at hgo;rw[hrd]at hun;simp only at hun;have c3s:=c3.size;refine is5 (nbx rfl λw9 b9 c9 z9=>?_);have c19:Ch (·=rb) w w9:=(c1.trans' c3).trans' (c9.mono λ_ _ h=>h.elim);have hL9:=hL.chr h2 c19;refine aHm (c:=58) hs (hrb.chr c9) hL9.ut (by omega) (λh58 w10 r10 c10=>⟨by trivial,?_⟩) (λh58 a e hw=>?_)
  rotate_left
  ·rw[<-hsd]at h58 hw;rw[h58]at hun;refine hp a e w9 ?_ c19;rw[hrest,hun];rw[aF rfl,aF0 (β:=List M) hw]
  rw[<-hsd]at h58 r10;rw[h58]at hun;simp only[Bool.true_eq_false,if_false]at hun;have c110:=c19.trans' c10;have hL10:=hL.chr h2 c110;have b10:blk w10 w3.heap.size=some x.g:=(c10.blk (aH b9) (by omega)).trans b9;have b10d:blk w10.drew w3.heap.size=some x.g:=b10;refine ldK b10d ?_;have hn58:=dM s b (by rw[hlen];omega);refine hV _ w10.drew _ _ (r10.chr (Ch.drew _)) (hL10.ch0 (Ch.drew _)) (λy e w11 hrd2 hvo2 hyb hrb2 c11=>?_) (λa e w11 hrd2 c11=>?_)
  rotate_left
  ·rw[<-hsd]at hrd2;rw[hrd2]at hun;exact hp a e w11 (by rw[hrest,hun]) ((c110.trans' (Ch.drew _)).trans' c11)
  rw[<-hsd]at hrd2;have hgo2:=fE s d _ y.m e (by omega) hrd2;rw[hlen]at hgo2;rw[hrd2]at hun;simp only at hun;have c1011:Ch (·=rb) w10 w11:=(Ch.drew _).trans' c11;have c10s:=c10.size;have c11s:=c1011.size;have c9s:=c9.size;have b11:blk w11 w3.heap.size=some x.g:=(c1011.blk (aH b10) (by omega)).trans b10;refine is5 ⟨ldK b11 (by rfl),?_⟩;rw[show[Value.int .i64 x.k,.int .u64 (x.n:Int),.string ⟨x.t.toArray⟩,.slice x.s.p x.s.n x.s.c,.int .i64 x.e,.int .i64 y.k,.int .u64 (y.n:Int),.string ⟨y.t.toArray⟩,.slice y.s.p y.s.n y.s.c,.int .i64 y.e]=[x,y].flatMap MV.g by rw[bU,bU,<-gg x,<-gg y];rfl];have c311:Ch (·=rb) w3 w11:=((c9.mono (S':=(·=rb)) λ_ _ h=>h.elim).trans' c10).trans' c1011;have c111:Ch (·=rb) w w11:=(c1.trans' c3).trans' c311;have hvo11:VO w11 x:=VO.ch c311 x hvo λb hb e=>by have:=hxb b hb;omega
  have hrow11:VE.Row w11 p1 R.length c own R:=hrow.ch ((c3.trans' c311)) λb hb e=>by have:=hnew b hb;omega
  have hRl:=hrow.lt;have hxl:=VO.lt x hvo;have hL11:=hL.chr h2 c111;refine aJ2 (te:=83) (ty:=81) (k:=2) (xs:=[x,y]) hrow11 (λz hz=>by
   simp only[List.mem_cons,List.not_mem_nil,or_false]at hz;rcases hz with h|h
   ·rw[h];exact hvo11
   ·rw[h];exact hvo2) ?_ (λb' hb hb2=>?_) rfl (by omega) λp4 c4 own' w13 hrow13 hb13 c13=>?_
  ·have h1:=hvo.inv.2.2.2.2;have h3:=hvo2.inv.2.2.2.2;simp only[bU,List.flatMap_nil,List.append_nil];refine List.nodup_append.2 ⟨h1,h3,λa ha b' hb' e=>?_⟩;subst e;have:=hxl a ha;have:=hyb a hb';have hz:w10.drew.heap.size=w10.heap.size:=rfl;omega
  ·have hlt:=hRl b' hb2;simp only[bU,List.flatMap_nil,List.append_nil,List.mem_append]at hb;have hz:w10.drew.heap.size=w10.heap.size:=rfl;rcases hb with h|h
   ·have:=hxb b' h;omega
   ·have:=hyb b' h;omega
  ·have hown:∀b,own=some b->w.heap.size<=b:=λb hb=>hnew b (by rw[dD,hb];simp);have hz:w10.drew.heap.size=w10.heap.size:=rfl;have hrb13:RS S rb e w13:=hrb2.ch c13 λe'=>by have:=hown rb e';omega
   have c113:Ch (·=rb) w w13:=c111.trans c13 λz hz h=>by have:=hown z h;omega
   have hL13:=hL.chr h2 c113;have hnew13:∀k∈VE.rowB own' (R++[x,y]),w.heap.size<=k:=λk hk=>by
    rcases hb13 k hk with h|h|h
    ·exact hnew k h
    ·simp only[bU,List.flatMap_nil,List.append_nil,List.mem_append]at h;rcases h with h|h
     ·have:=hxb k h;omega
     ·have:=hyb k h;omega
    ·have:=c111.size;omega
   have hacc:(R++[x,y]).map MV.m=R.map MV.m++[x.m,y.m]:=by simp
   refine bZ (aAs (c:=44) hrb13 ⟨_,rfl,?_⟩);rw[<-hsd];have hnx:=dM s e (by omega);rw[hlen]at hnx;refine aC (λh44=>?_) (λh44=>?_)
   ·have n125:(next s e).is 125=false:=by
     simp only[Tok.is,bH,bA]at h44;simp only[Tok.is,h44.1,h44.2];decide
    rw[n125,h44]at hun;simp only[Bool.false_eq_true,Bool.true_eq_false,if_false]at hun;have h44lt:=dF (s:=s) (a:=e) (c:=44) (by omega) h44;refine bZ (jJ hs hrb13 hL13.ut (by omega) λw15 r15 c15=>⟨_,_,_,rfl,?_⟩);rw[<-hsd]at r15;refine⟨_,?_,R++[x,y],own',(next s e).fin,by simp,hrow13.ch c15 λb hb e=>by have:=hnew13 b hb;omega,hnew13,r15,c113.trans' c15,by simp;omega,by simp;omega,rfl,?_⟩
    ·rw[h44];simp;omega
    ·rw[hRest,h44];refine⟨λ_=>?_,λh=>by cases h⟩;rw[hrest,hun,hacc]
   ·refine⟨_,?_,R++[x,y],own',e,by simp,hrow13,hnew13,hrb13,c113,by simp;omega,by simp;omega,rfl,?_⟩
    ·rw[h44];simp;omega
    ·rw[hRest,h44];refine⟨λh=>(by cases h),λ_=>⟨λh=>?_,λh=>?_⟩⟩
     ·rw[h]at hun;rw[hrest,hun,hacc];rfl
     ·rw[h,h44]at hun;simp only[Bool.false_eq_true,if_false,if_true]at hun;rw[hrest,hun];cases hw:(wanted (next s e):Note.Fd (List M))with
      | ok l b=>exact absurd hw iI
      | bad a e'=>rw[aF0 (β:=M) hw]
 ·subst hmore;rw[hRest]at hrest;have hrest:=hrest.2 rfl;refine aHm (c:=125) hs hrq hL1.ut (by omega) (λh125 w3 r3 c3=>⟨by trivial,?_⟩) (λh125 a e hw=>?_)
  rotate_left
  ·rw[<-hsd]at h125 hw;exact hp a e w1 (by rw[hrest.2 h125,hw]) c1
  rw[<-hsd]at h125 r3;have hr':=hrest.1 h125;have c13:=c1.trans' c3;have hrow3:VE.Row w3 p1 R.length c own R:=hrow.ch c3 λb hb e=>by have:=hnew b hb;omega
  have hvr3:=Row.vrow hrow3 (by omega);have hrlen:R.length<=2^41:=by omega
  have hmlen:(R.map MV.m).length=R.length:=by simp
  have r3':RS S rb (next s q).fin w3:=r3;have bad:(2048<R.length\/¬(fS (R.map MV.m)).Nodup)->∀w',Ch (λ_=>False) w3 w'->KP (flt o 23) w':=λh w' c=>by
   refine hp o 23 w' ?_ (c13.trans' (c.mono λ_ _ h=>h.elim));rw[hr'];unfold uT;rw[aF (by rw[hmlen];exact h)]
  refine⟨λw4=>w4=w3/\R.length<=2048,?_,?_⟩
  ·rintro w4 ⟨rfl,hsmall⟩;have noeq:∀i k,k<i->i<R.length->∀x y,R[i]?=some x->R[k]?=some y->i%2=0->k%2=0->x.m=y.m->¬(fS (R.map MV.m)).Nodup:=by
    intro i k hki hi x y hx hy hi2 hk2 he hnd;have:=(aKj (by rw[hmlen];exact hev)).1 hnd (i / 2) (k / 2) (by omega) (by rw[hmlen];omega);apply this;rw[show 2*(i / 2)=i by omega,show 2*(k / 2)=k by omega,dH,dH,hx,hy];simp[he]
   refine⟨λm1 n1 w5=>∃i:Nat,n1=(i:Int)/\i%2=0/\i<=R.length/\m1=R.length-i/\Ch (λ_=>False) w4 w5/\∀i' k,k<i'->i'<i->i'%2=0->k%2=0->∀x y,R[i']?=some x->R[k]?=some y->x.m≠y.m,⟨R.length,0,rfl,rfl,bQ _,rfl,Ch.refl _ _,λi' k _ h=>by omega⟩,?_⟩;rintro m1 n1 w5 ⟨i,rfl,hi2,hile,rfl,c5,hall⟩;refine aC (λh=>?_) (λh=>?_)
   ·have hil:i<R.length:=by have:=aB h;omega
    refine⟨λm2 n2 w6=>∃k:Nat,n2=(k:Int)/\k%2=0/\k<=i/\m2=i-k/\Ch (λ_=>False) w4 w6/\∀k',k'<k->k'%2=0->∀x y,R[i]?=some x->R[k']?=some y->x.m≠y.m,⟨i,0,rfl,rfl,bQ _,rfl,c5,λk' h=>by omega⟩,?_⟩;rintro m2 n2 w6 ⟨k,rfl,hk2,hki,rfl,c6,hall2⟩;refine aC (λh=>?_) (λh=>?_)
    ·have hkl:k<i:=by have:=aB h;omega
     obtain⟨x,hxi⟩:∃x,R[i]?=some x:=⟨R[i],aK _⟩;obtain⟨y,hyi⟩:∃y,R[k]?=some y:=⟨R[k],aK _⟩;have hv6:=hvr3.ch0 (c6.trans' (Ch.drew _));obtain⟨bx,ox,px,_,ax⟩:=hv6.at hxi;obtain⟨by',oy,py,_,ay⟩:=hv6.at hyi;rw[px]at py;obtain⟨rfl,rfl⟩:bx=by'/\ox=oy:=by simpa using py
     refine⟨λw7=>Ch (λ_=>False) w4 w7/\x.m≠y.m,?_,by omega,by omega,?_⟩
     ·rintro w7 ⟨c7,hne⟩;simp only[cF];rw[aW (n:=(k:Int)+2)];refine⟨i-(k+2),by omega,k+2,by omega,by omega,by omega,rfl,c7,λk' hk' hk2' a b ha hb=>?_⟩;by_cases e:k'=k
      ·subst e;rw[hxi]at ha;rw[hyi]at hb;cases ha;cases hb;exact hne
      ·exact hall2 k' (by omega) hk2' a b ha hb
     ·rw[px];simp only[nn];refine⟨by omega,by omega,?_⟩;refine ldR ax (ldR ay ?_);rw[vv x,vv y];refine bZ (aO4 x y (hv6.2.2.2.2 x (bJ hxi)) (hv6.2.2.2.2 y (bJ hyi)) λw7 c7=>⟨_,rfl,?_⟩);have c47:=(c6.trans' (Ch.drew _)).trans' c7;refine aC (λh=>?_) (λh=>⟨c47,aA h⟩);exact xV (e:=23) (bad (.inr (noeq i k hkl hil x y hxi hyi hi2 hk2 (aB h))) w7 c47)
    ·have hkl:k=i:=by have:=aA h;omega
     subst hkl;simp only[cF];rw[aW (n:=(k:Int)+2)];refine⟨R.length-(k+2),by omega,k+2,by omega,by omega,by omega,rfl,c6,λi' k' hk' hi' hi2' hk2' a b ha hb=>?_⟩;by_cases e:i'=k
     ·subst e;exact hall2 k' hk' hk2' a b ha hb
     ·exact hall i' k' hk' (by omega) hi2' hk2' a b ha hb
   ·have hil:i=R.length:=by have:=aA h;omega
    subst hil;refine hk R p1 c own (next s q).fin w5 ?_ (hrow3.ch c5 λ_ _ h=>h) (by omega) hnew (r3'.chr c5) (c13.trans' (c5.mono λ_ _ h=>h.elim));rw[hr'];unfold uT;rw[_root_.if_neg];rintro(h|h)
    ·omega
    ·apply h;refine(aKj (by rw[hmlen];exact hev)).2 λi k hki hi2 e=>?_;rw[hmlen]at hi2;rw[dH,dH]at e;have hx:R[2*i]?=some R[2*i]:=aK hi2;have hy:R[2*k]?=some (R[2*k]'(by omega)):=aK _;refine hall (2*i) (2*k) (by omega) hi2 (by omega) (by omega) _ _ hx hy ?_;rw[hx,hy]at e;simpa using e
  ·refine aC (λh=>?_) (λh=>⟨by trivial,?_⟩)
   ·exact xV (e:=23) (bad (.inl (by have:=aB h;omega)) w3 (Ch.refl _ _))
   ·have:=aA h;omega
theorem aWh{s:Bs}{d p k:Nat}(hb:dA (next s p)=some k):gZ s (d+1) p =
 if k=0 then .ok (.mk 0 0 [] 0 []) (next s p).fin
 else if k=1 then .ok (.mk 1 (if(next s p).text=[116,114,117,101]then 1 else 0) [] 0 []) (next s p).fin
 else if k=19 then eX 19 (next s p)
 else if k=18\/k=20 then eX k (next s (next s p).fin)
 else if k=21 then listed (gZ s d) s none (next s p).fin
 else if k=22 then rE (gZ s d) s (next s p)
 else if k=23 then nA (gZ s d) s (next s p).fin
 else if k=24 then jA (gZ s d) s (next s p).fin
 else dU s k (next s p).fin:=by rw[gJ,hb]
theorem aRo{s:Bs}{d p:Nat}(hb:dA (next s p)=none):gZ s d p=if nU (next s p)=true\/((next s p).kind=0/\d<32)then cM (next s p) 43 else cM (next s p) 40:=by rw[gJ,hb]
theorem aRn{s:Bs}{p k:Nat}(hb:dA (next s p)=some k):gZ s 0 p=cM (next s p) 26:=by rw[gJ,hb]
theorem rF{w:World}{k:Nat}{x:MV}{K:Int->Int->ByteArray->Option Addr->Nat->Nat->Int->Prop}(h:blk w k=some x.g)(hk:K x.k (x.n:Int) ⟨x.t.toArray⟩ x.s.p x.s.n x.s.c x.e) :
 ∃n,w.cell? ⟨k,0,none⟩=some (.int .i64 n)/\∃n1,w.cell? ⟨k,1,none⟩=some (.int .u64 n1)/\∃s,w.cell? ⟨k,2,none⟩=some (.string s)/\∃p n2 c,w.cell? ⟨k,3,none⟩=some (.slice p n2 c)/\∃n3,w.cell? ⟨k,4,none⟩=some (.int .i64 n3)/\K n n1 s p n2 c n3:=by
 cases x;exact⟨_,aJ h 0 rfl,_,aJ h 1 rfl,_,aJ h 2 rfl,_,_,_,aJ h 3 rfl,_,aJ h 4 rfl,hk⟩
theorem nd2{a b:List Nat}(h1:a.Nodup)(h2:b.Nodup)(n:Nat)(ha:∀x∈a,x<n)(hb:∀x∈b,n<=x):(a++b).Nodup :=
 List.nodup_append.2 ⟨h1,h2,λx hx y hy e=>by have:=ha x hx;have:=hb y hy;omega⟩
theorem Row.vo{w:World}{p:Option Addr}{n c:Nat}{own:Option Nat}{R:List MV}(h:VE.Row w p n c own R)(hn:n<=2^46){k:Int}{m:Nat}{t:Bs}{e:Int}:VO w (.mk k m t ⟨p,n,c,own⟩ e R) :=
 .mk h.1 hn h.2.1 h.2.2.1 h.2.2.2
theorem aQ0{S:ByteArray}(hs:S.size<=2^40){rb:Nat}(h2:8<=rb):∀d:Nat,d<=32->aOt S rb d:=by
 intro d
 induction d using Nat.strongRecOn with
 | ind d ih =>
 intro hd32 p w K KP hr hL hk hp;apply sX;have hlen:=sl S;have hrl:=hr.lt;have hple:=hr.2;have hlies:=dM S.data.toList p (by rw[hlen];exact hple);rw[hlen]at hlies;refine bD λw1 b1 c1 z1=>?_;have hr1:=hr.chr c1;have h0:=hr1.1;unfold rcl at h0;simp only[nn,add_at,aL];refine⟨_,aJ h0 2 rfl,_,aJ h0 3 rfl,_,aJ h0 4 rfl,?_⟩;refine aVu λw5 b5 c5 z5=>?_;have hr5:=hr1.chr c5;have hL5:=(hL.ch0 c1).ch0 c5;have c15:Ch (λ_=>False) w w5:=c1.trans' c5;have b15:=(c5.blk (aH b1) id).trans b1;have c15s:=c15.size;simp only[add_at,aL];have cr:∀ {a b:World},Ch (λ_=>False) a b->Ch (·=rb) a b:=λc=>c.mono λ_ _ h=>h.elim;refine bZ (aQl hr5 λw6 c6=>?_);have hr6:=hr5.chr c6;have hL6:=hL5.ch0 c6;have c16:Ch (λ_=>False) w w6:=c15.trans' c6;have b16:=(c6.blk (aH b15) id).trans b15;have b56:=(c6.blk (aH b5) id).trans b5;have c16s:=c16.size;have hb1l:w.heap.size<w6.heap.size:=aH b16;have hb5l:w1.heap.size<w6.heap.size:=aH b56;obtain⟨s,hsd⟩:∃s,s=S.data.toList:=⟨_,rfl⟩;rw[<-hsd]at hk hp hlen hlies b56 b5 ⊢
 -- a fault at the token
 have bad:∀e:Nat,gZ s d p=cM (next s p) e->∀ {K':Value->World->Prop} w',Ch (λ_=>False) w6 w'->dL Tryz.prog 108 [.pointer (some ⟨rb,0,none⟩),.int .i64 (e:Int)] w' K' KP:=λe he K' w' c =>
  gD (e:=e) (hr6.chr c) (by rw[<-hsd];exact hp _ _ w' he (cr (c16.trans' c)))
 cases hb:dA (next s p)with
 | none =>
  have hn:=aRo (d:=d) hb;refine⟨_,_,rfl,λ_=>False,λ_ h=>h.elim,?_⟩;refine dJ (dJ ?_);refine bZ (aEs hr6 ⟨_,rfl,?_⟩);rw[<-hsd];have hk0:∀t:Tok,(((pk t:Nat):Int) != 0)=decide (t.kind≠0):=λt=>by
   rw[eJ];unfold pk;by_cases h5:t.kind=5
   ·rw[aF h5,h5];rfl
   ·rw[aD h5];by_cases h0:t.kind=0
    ·rw[h0];rfl
    ·rw[bB (by omega),aR h0];rfl
  refine aC (λh=>?_) (λh=>?_)
  ·rw[Bool.or_eq_true]at h;refine⟨_,aJ b56 0 rfl,?_⟩;rw[hk0];have hcz:nU (next s p)=true->(next s p).kind≠0:=λhc h0=>by
    simp[nU,Tok.is,h0]at hc
   refine aC (λh3=>?_) (λh3=>?_)
   ·have h3:(next s p).kind=0:=by simpa using h3
    refine aC (λh4=>?_) (λh4=>?_)
    ·have h4:=aB h4;refine bad 43 ?_ w6 (Ch.refl _ _);rw[hn,aF (.inr ⟨h3,by omega⟩)]
    ·have h4:=aA h4;refine bad 40 ?_ w6 (Ch.refl _ _);rw[hn,_root_.if_neg];rintro(hc|⟨_,hc⟩)
     ·exact hcz hc h3
     ·omega
   ·have h3:(next s p).kind≠0:=by simpa using h3
    have hc:nU (next s p)=true:=h.resolve_left (by simpa using h3);refine bad 43 ?_ w6 (Ch.refl _ _);rw[hn,aF (.inl hc)]
  ·rw[Bool.or_eq_false_iff]at h;have h1:(next s p).kind≠0:=by simpa using h.1
   refine bad 40 ?_ w6 (Ch.refl _ _);rw[hn,_root_.if_neg];rintro(hc|⟨hc,_⟩)
   ·rw[h.2]at hc;cases hc
   ·exact h1 hc
 | some k =>
  refine⟨_,_,rfl,λw7=>w7=w6/\1<=d,?_,?_⟩
  rotate_left
  ·refine iH (aC (λh=>?_) (λh=>iH ⟨by trivial,by have:=aA h;omega⟩));have h:=aB h;have hd0:d=0:=by omega
   subst hd0;exact bad 26 (aRn hb) w6 (Ch.refl _ _)
  rintro w7 ⟨rfl,hd1⟩;obtain⟨d',rfl⟩:∃d',d=d'+1:=⟨d-1,by omega⟩;have hV:aOt S rb d':=ih d' (by omega) (by omega);have hrd:=aWh (d:=d') hb;have hk25:=aHf hb;have hfin:(next s p).fin<=S.size:=hlies.2.2.1;rw[show(33:Int)-((d'+1:Nat):Int)=32-(d':Int) by omega];have e19:(((k:Nat):Int) == 19)=decide (k=19):=eP k 19;have e1:(((k:Nat):Int) == 1)=decide (k=1):=eP k 1;have e18:(((k:Nat):Int) == 18)=decide (k=18):=eP k 18;have e20:(((k:Nat):Int) == 20)=decide (k=20):=eP k 20;have e21:(((k:Nat):Int) == 21)=decide (k=21):=eP k 21;have e22:(((k:Nat):Int) == 22)=decide (k=22):=eP k 22;have e23:(((k:Nat):Int) == 23)=decide (k=23):=eP k 23;have e24:(((k:Nat):Int) == 24)=decide (k=24):=eP k 24;have e0:(((k:Nat):Int) == 0)=decide (k=0):=eP k 0;rw[e19];refine aC (λh19=>?_) (λh19=>?_)
  ·have h19:=aB h19;subst h19;rw[aD (by decide),aD (by decide),aF rfl]at hrd;refine aNv (k:=19) hs (by omega) hr6 hL6 h2 (λw8 hw r8 c8=>?_) (λa e w8 hw c8=>?_)
   ·rw[<-hsd]at hw r8 ⊢;have b18:=(c8.blk (aH b16) (by omega)).trans b16;refine is5 (aWw b18 rfl λw9 b9 c9 z9=>?_);refine hk (one 19 0 (next s p).text) (next s p).fin w9 (by rw[hrd,hw,rS];rfl) (mI ..) (by rw[rT];simp) (by rw[hsd]at r8 ⊢;exact r8.ch c9 (by omega)) ?_;exact((cr c16).trans' c8).trans c9 λx hx h=>by omega
   ·rw[<-hsd]at hw;exact hp a e w8 (by rw[hrd,hw]) ((cr c16).trans' (cr c8))
  have h19:=aA h19;refine bZ (jJ hs hr6 hL6.ut (by omega) λw8 r8 c8=>⟨_,_,_,rfl,?_⟩);have hL8:=hL6.chr h2 c8;have c18:Ch (·=rb) w w8:=(cr c16).trans' c8;have c18s:=c8.size;have b18:=(c8.blk (aH b16) (by omega)).trans b16;have b58:=(c8.blk (aH b56) (by omega)).trans b56;rw[<-hsd]at r8;refine nbx (x:=one (k:Int) 0 []) rfl λw14 b14 c14 z14=>?_;have r14:RS S rb (next s p).fin w14:=r8.chr c14;have hL14:=hL8.ch0 c14;have c114:Ch (·=rb) w w14:=c18.trans' (cr c14);have b114:=(c14.blk (aH b18) id).trans b18;have b514:=(c14.blk (aH b58) id).trans b58;have hvb:w8.heap.size<w14.heap.size:=aH b14;simp only[add_at,aL];have hb56:w7.heap.size<=w8.heap.size:=c18s
  -- what is done at the end
  refine⟨λw15=>∃x b,blk w15 w8.heap.size=some x.g/\gZ s (d'+1) p=.ok x.m b/\VO w15 x/\(∀j∈x.B,w8.heap.size<j)/\RS S rb b w15/\Ch (λj=>j=rb\/j=w8.heap.size) w14 w15,?_,?_⟩
  ·rintro w15 ⟨x,b,b15,hrd',hvo,hxb,r15,c1415⟩;have ba:=(c1415.blk (aH b114) (by omega)).trans b114;refine rF b15 (aWw ba rfl λw20 b20 c20 z20=>?_);have cx:Ch (λj=>j=rb\/j=w8.heap.size) w w15:=(c114.mono λ_ _ h=>.inl h).trans' c1415;refine hk x b w20 hrd' (VO.ch c20 x hvo λj hj e=>by have:=hxb j hj;omega) (λj hj=>by have:=hxb j hj;omega) (r15.ch c20 (by omega)) ?_;exact(cx.mono (S':=λj=>j=rb\/j=w8.heap.size) λ_ _ h=>h).trans c20 (λy hy h=>by omega) |>.mono λy hy h=>by omega
  have toJ:∀w15 x b,blk w15 w8.heap.size=some x.g->gZ s (d'+1) p=.ok x.m b->VO w15 x->(∀j∈x.B,w8.heap.size<j)->RS S rb b w15->Ch (λj=>j=rb\/j=w8.heap.size) w14 w15->∃x b,blk w15 w8.heap.size=some x.g/\gZ s (d'+1) p=.ok x.m b/\VO w15 x/\(∀j∈x.B,w8.heap.size<j)/\RS S rb b w15/\Ch (λj=>j=rb\/j=w8.heap.size) w14 w15:=λw15 x b h1 h2 h3 h4 h5 h6=>⟨x,b,h1,h2,h3,h4,h5,h6⟩;have fault:∀a e w15,gZ s (d'+1) p=.bad a e->Ch (λj=>j=rb\/j=w8.heap.size) w14 w15->KP (flt a e) w15:=λa e w15 h c=>by
   refine hp a e w15 h ?_;exact(((c114.mono (S':=λj=>j=rb\/j=w8.heap.size) λ_ _ h=>.inl h).trans' c)).mono λy hy h=>by omega
  have ca:∀ {a b:World},Ch (·=rb) a b->Ch (λj=>j=rb\/j=w8.heap.size) a b:=λc=>c.mono λ_ _ h=>.inl h;have cb:∀ {a b:World},Ch (·=w8.heap.size) a b->Ch (λj=>j=rb\/j=w8.heap.size) a b:=λc=>c.mono λ_ _ h=>.inr h;have rne:¬(rb=w8.heap.size):=by have:=r8.lt;omega
  -- the box of the value stays where the reader reads on
  have keep:∀ {a:World} {x:MV},blk w14 w8.heap.size=some x.g->Ch (·=rb) w14 a->blk a w8.heap.size=some x.g:=λh c=>(c.blk hvb (by omega)).trans h;rw[e1];refine aC (λh1=>?_) (λh1=>?_)
  ·have h1:=aB h1;subst h1;rw[aD (by decide),aF rfl]at hrd;refine⟨_,aJ b514 2 rfl,?_⟩;have hkind:(next s p).kind<4:=by
    unfold dA at hb;split at hb
    ·omega
    ·split at hb
     ·omega
     ·split at hb
      ·cases hb
      ·omega
   rw[pF hkind,show(ByteArray.mk (Array.mk [(116:UInt8),114,117,101]))=⟨([116,114,117,101]:Bs).toArray⟩ by rfl,nX];refine aC (λht=>?_) (λht=>?_)
   ·rw[aF (aB ht)]at hrd;refine stn (n':=1) b14 λw15 b15 c15'=>toJ w15 (one 1 1 []) _ b15 (by rw[hrd,rS]) (mI ..) (by rw[rT];simp) (r14.ch c15' rne) (cb c15')
   ·rw[aD (aA ht)]at hrd;exact toJ w14 (one 1 0 []) _ b14 (by rw[hrd,rS]) (mI ..) (by rw[rT];simp) r14 (Ch.refl _ _)
  have h1:=aA h1;refine⟨λb1 w15=>w14=w15/\b1=decide (k=18\/k=20),?_,?_⟩
  rotate_left
  ·rw[e18,e20];refine aC (λh=>⟨by trivial,?_⟩) (λh=>⟨by trivial,?_⟩)
   ·rw[aR (aB h),aR (.inl (aB h))]
   ·exact decide_eq_decide.2 ⟨λe=>.inr e,λe=>e.resolve_left (aA h)⟩
  rintro b1 w15 ⟨rfl,rfl⟩;refine aC (λh=>?_) (λh=>?_)
  ·have hkk:=aB h;rw[aD,aD,aD,aF hkk]at hrd;refine aNv (k:=k) hs (by omega) r14 hL14 h2 (λw16 hw r16 c16'=>?_) (λa e w16 hw c16'=>?_)
   ·rw[<-hsd]at hw r16 ⊢;refine is5 (st5 (keep b14 c16') rfl λw17 b17 c17 z17=>?_);exact toJ w17 (one k 0 (next s (next s p).fin).text) _ b17 (by rw[hrd,hw,rS]) (mI ..) (by rw[rT];simp) (r16.ch c17 rne) ((ca c16').trans' (cb c17))
   ·rw[<-hsd]at hw;exact fault a e w16 (by rw[hrd,hw]) (ca (cr c16'))
  have hkk:=aA h;rw[e21,e22,e23,e24,e0];refine aC (λh=>?_) (λh21=>?_)
  ·have h:=aB h;subst h;rw[aD (by decide),aD (by decide),aD (by decide),aD (by decide),aF rfl]at hrd;unfold listed at hrd;refine aAx (elem:=none) hs h2 (by omega) hV r14 hL14 (λR p' c own b w16 hel hrow hRl hnew r16 c16'=>?_) (λa e w16 hel c16'=>?_)
   ·rw[<-hsd]at hel;unfold fM at hel;rw[hel]at hrd;refine⟨_,_,_,rfl,?_⟩;refine sts (s':=⟨p',R.length,c,own⟩) R (keep b14 c16') λw17 b17 c17=>?_;have hrow17:=hrow.ch c17 λj hj e=>by have:=hnew j hj;omega
    exact toJ w17 (.mk 21 0 [] ⟨p',R.length,c,own⟩ 0 R) b b17 (by rw[hrd,MV.m_mk]) (Row.vo hrow17 (by omega)) (λj hj=>by
     rw[MV.B_mk]at hj;have:=hnew j hj;omega) (r16.ch c17 rne) ((ca c16').trans' (cb c17))
   ·rw[<-hsd]at hel;unfold fM at hel;rw[hel]at hrd;exact fault a e w16 hrd (ca c16')
  have h21:=aA h21;refine aC (λh=>?_) (λh22=>?_)
  ·have h:=aB h;subst h;rw[aD (by decide),aD (by decide),aD (by decide),aD (by decide),aD (by decide),aF rfl]at hrd;refine⟨_,aJ b514 1 rfl,?_⟩;refine aRv (o:=(next s p).beg) hs h2 (by omega) hV r14 hL14 (r:=gZ s (d'+1) p) (by rw[hrd,<-hsd];rfl) (λR p' c own b w16 hel hrow hRl hnew r16 c16'=>?_) (λa e w16 hel c16'=>fault a e w16 hel (ca c16'));refine⟨_,_,_,rfl,?_⟩;refine sts (s':=⟨p',R.length,c,own⟩) R (keep b14 c16') λw17 b17 c17=>?_;have hrow17:=hrow.ch c17 λj hj e=>by have:=hnew j hj;omega
   exact toJ w17 (.mk 22 0 [] ⟨p',R.length,c,own⟩ 0 R) b b17 (by rw[hel,MV.m_mk]) (Row.vo hrow17 (by omega)) (λj hj=>by
    rw[MV.B_mk]at hj;have:=hnew j hj;omega) (r16.ch c17 rne) ((ca c16').trans' (cb c17))
  have h22:=aA h22;refine aC (λh=>?_) (λh23=>?_)
  ·have h:=aB h;subst h;rw[aD (by decide),aD (by decide),aD (by decide),aD (by decide),aD (by decide),aD (by decide),aF rfl]at hrd;unfold nA at hrd;simp only at hrd;refine aVi hs r14 hL14 h2 (λke w16 hk1 hkn hk24 h91 r16 c16'=>⟨_,rfl,?_⟩) (λa e w16 c16' hcase=>fault a e w16 ?_ (ca c16'))
   rotate_left
   ·rw[<-hsd]at hcase;rw[hrd];rcases hcase with⟨g1,g2⟩|⟨g1,g2,g3⟩|⟨g1,⟨ke,g2,g3⟩,g4⟩|⟨g1,⟨ke,g2,g3⟩,g4,g5⟩
    ·rw[aF g1,g2]
    ·rw[aD,g2];exact g3
    ·rw[aD,g2];simp only;rw[aF g3,g4]
    ·rw[aD,g2];simp only;rw[aD g3,aF g4,g5]
   rw[<-hsd]at hk1 hkn h91 r16;rw[aD,hkn]at hrd;simp only at hrd;rw[aD hk24,h91]at hrd;simp only[Bool.true_eq_false,if_false]at hrd;unfold listed at hrd;refine ste (e':=(ke:Int)) (keep b14 c16') λw17 b17 c17=>?_;have r17:=r16.ch c17 rne;have c1417:Ch (λj=>j=rb\/j=w8.heap.size) w14 w17:=(ca c16').trans' (cb c17);have hL17:LW w17:=hL14.ch c1417 λj hj h=>by have:=hL8.size;omega
   refine⟨_,aJ b17 4 rfl,?_⟩;refine aAx (elem:=some ke) hs h2 (by omega) hV r17 hL17 (λR p' c own b w18 hel hrow hRl hnew r18 c18'=>?_) (λa e w18 hel c18'=>?_)
   ·rw[<-hsd]at hel;unfold fM at hel;rw[hel]at hrd;refine⟨_,_,_,rfl,?_⟩;have b18':=(c18'.blk (aH b17) (by omega)).trans b17;have c1717:=c1417.size;refine sts (s':=⟨p',R.length,c,own⟩) R b18' λw19 b19 c19=>?_;have hrow19:=hrow.ch c19 λj hj e=>by have:=hnew j hj;omega
    exact toJ w19 (.mk 23 0 [] ⟨p',R.length,c,own⟩ ke R) b b19 (by rw[hrd,MV.m_mk]) (Row.vo hrow19 (by omega)) (λj hj=>by
     rw[MV.B_mk]at hj;have:=hnew j hj;omega) (r18.ch c19 rne) ((c1417.trans' (ca c18')).trans' (cb c19))
   ·rw[<-hsd]at hel;unfold fM at hel;rw[hel]at hrd;exact fault a e w18 hrd (c1417.trans' (ca c18'))
  have h23:=aA h23;refine aC (λh=>?_) (λh24=>?_)
  ·have h:=aB h;subst h;rw[aD (by decide),aD (by decide),aD (by decide),aD (by decide),aD (by decide),aD (by decide),aD (by decide),aF rfl]at hrd;unfold jA at hrd;rw[aW (n:=32-(d':Int)+1),show 32-(d':Int)+1=33-(d':Int) by omega];refine hV _ w14 _ _ r14 hL14 (λx b w16 hrx hvo hxb r16 c16'=>?_) (λa e w16 hrx c16'=>?_)
   rotate_left
   ·rw[<-hsd]at hrx;rw[hrx]at hrd;exact fault a e w16 hrd (ca c16')
   rw[<-hsd]at hrx;rw[hrx]at hrd;simp only at hrd;refine is5 (nbx rfl λw22 b22 c22 z22=>?_);have b22d:blk w22.drew w16.heap.size=some x.g:=b22;refine ldK b22d ?_;have c1422:Ch (·=rb) w14 w22.drew:=(c16'.trans' (cr c22)).trans' (Ch.drew _);have r22:RS S rb b w22.drew:=(r16.chr c22).chr (Ch.drew _);have hL22:=hL14.chr h2 c1422;have hz22:w22.drew.heap.size=w22.heap.size:=rfl;have hs16:=c16'.size;refine hV _ w22.drew _ _ r22 hL22 (λy e w23 hry hvo2 hyb r23 c23=>?_) (λa e w23 hry c23=>?_)
   rotate_left
   ·rw[<-hsd]at hry;rw[hry]at hrd;exact fault a e w23 hrd (ca (c1422.trans' c23))
   rw[<-hsd]at hry;rw[hry]at hrd;simp only at hrd;have b23:blk w23 w16.heap.size=some x.g:=(c23.blk (aH b22d) (by have:=r16.lt;omega)).trans b22d;refine is5 ⟨ldK b23 (by rfl),?_⟩;rw[show[Value.int .i64 x.k,.int .u64 (x.n:Int),.string ⟨x.t.toArray⟩,.slice x.s.p x.s.n x.s.c,.int .i64 x.e,.int .i64 y.k,.int .u64 (y.n:Int),.string ⟨y.t.toArray⟩,.slice y.s.p y.s.n y.s.c,.int .i64 y.e]=[x,y].flatMap MV.g by rw[bU,bU,<-gg x,<-gg y];rfl];refine bD λw24 b24 c24 z24=>?_;have c1423:Ch (·=rb) w14 w23:=c1422.trans' c23;have c1424:Ch (·=rb) w14 w24:=c1423.trans' (cr c24);have hs23:=c1423.size;have bv24:=keep b14 c1424;simp only[add_at,aL];refine sts (s':=⟨some ⟨w23.heap.size,0,none⟩,2,2,some w23.heap.size⟩) [x,y] bv24 λw25 b25 c25=>?_;have c1425:Ch (λj=>j=rb\/j=w8.heap.size) w14 w25:=(ca c1424).trans' (cb c25);have hL25:LW w25:=hL14.ch c1425 λj hj h=>by have:=hL8.size;omega
   have r25:RS S rb e w25:=(r23.chr c24).ch c25 rne;have hxl:=VO.lt x hvo;have hyl:=VO.lt y hvo2;have c1623:Ch (·=rb) w16 w23:=(cr c22).trans' ((Ch.drew _).trans' c23);have hs1623:=c1623.size;have hvx25:VO w25 x:=VO.ch c25 x (VO.ch c24 x (VO.ch c1623 x hvo λj hj e=>by have:=hxb j hj;have:=r8.lt;omega) λ_ _ h=>h) λj hj e=>by have:=hxb j hj;omega
   have hvy25:VO w25 y:=VO.ch c25 y (VO.ch c24 y hvo2 λ_ _ h=>h) λj hj e=>by have:=hyb j hj;omega
   have b24':blk w25 w23.heap.size=some ([x,y].flatMap MV.g):=(c25.blk (aH b24) (by omega)).trans b24;have hgl:([x,y].flatMap MV.g).length=10:=by rw[mB MV.glen];rfl
   have hB:([x,y].flatMap MV.B)=x.B++y.B:=by simp
   have hV24:VO w25 (.mk 24 0 [] ⟨some ⟨w23.heap.size,0,none⟩,2,2,some w23.heap.size⟩ 0 [x,y]):=by
    refine .mk rfl (show(2:Nat)<=2^46 by decide) ⟨hgl,aQ _,.inr ⟨_,0,_,rfl,rfl,b24',(show 10<=([x,y].flatMap MV.g).length from Nat.le_of_eq hgl.symm),(show((([x,y].flatMap MV.g).drop 0).take 10)=_ by rw[bS,aY (Nat.le_of_eq hgl)])⟩⟩ (λz hz=>?_) ?_
    ·simp only[List.mem_cons,List.not_mem_nil,or_false]at hz;rcases hz with h|h
     ·rw[h];exact hvx25
     ·rw[h];exact hvy25
    ·rw[hB];have hxy:=nd2 hvo.inv.2.2.2.2 hvo2.inv.2.2.2.2 w16.heap.size hxl (λj hj=>by have:=hyb j hj;have:=c22.size;omega);show(w23.heap.size::(x.B++y.B)).Nodup;refine List.nodup_cons.2 ⟨λhm=>?_,hxy⟩;rcases List.mem_append.1 hm with h|h
     ·have:=hxl _ h;omega
     ·have:=hyl _ h;omega
   refine aHm (c:=41) hs r25 hL25.ut (by omega) (λh41 w26 r26 c26=>⟨by trivial,?_⟩) (λh41 a e' hw=>fault a e' w25 ?_ c1425)
   ·rw[<-hsd]at h41 r26;rw[h41]at hrd;simp only[Bool.true_eq_false,if_false]at hrd;have b26:=(c26.blk (aH b25) (by omega)).trans b25;refine toJ w26 _ _ b26 (by rw[hrd,MV.m_mk];rfl) (VO.ch c26 _ hV24 λj hj e'=>?_) (λj hj=>?_) r26 (c1425.trans' (ca c26))
    ·rw[MV.B_mk,hB]at hj;have hrl23:=r23.lt;have hj:j=w23.heap.size\/j∈x.B\/j∈y.B:=by simpa using hj
     rcases hj with h|h|h
     ·omega
     ·have:=hxb j h;have:=r8.lt;omega
     ·have:=hyb j h;have:=r8.lt;have:=c22.size;omega
    ·rw[MV.B_mk,hB]at hj;have hj:j=w23.heap.size\/j∈x.B\/j∈y.B:=by simpa using hj
     rcases hj with h|h|h
     ·omega
     ·have:=hxb j h;omega
     ·have:=hyb j h;have:=c22.size;omega
   ·rw[<-hsd]at h41 hw;rw[h41]at hrd;simp only[if_true]at hrd;rw[hrd,hw]
  have h24:=aA h24;refine aC (λh=>?_) (λh0n=>?_)
  ·have h:=aB h;subst h;rw[aF rfl]at hrd;exact toJ w14 (one 0 0 []) _ b14 (by rw[hrd,rS]) (mI ..) (by rw[rT];simp) r14 (Ch.refl _ _)
  ·have h0n:=aA h0n;rw[aD h0n,aD h1,aD h19,aD hkk,aD h21,aD h22,aD h23,aD h24]at hrd;have hk17:2<=k/\k<=17:=by omega
   refine aPn hs hk17 r14 hL14 h2 b14 (by omega) (by have:=hL8.size;omega) (λn t b w16 hnum b16' r16 c16'=>⟨by trivial,?_⟩) (λa e w16 hnum c16'=>?_)
   ·rw[<-hsd]at hnum;exact toJ w16 (one k n t) b b16' (by rw[hrd,hnum,rS]) (mI ..) (by rw[rT];simp) r16 c16'
   ·rw[<-hsd]at hnum;exact fault a e w16 (by rw[hrd,hnum]) c16'
end Go.Proofs.YtlfhjkgdlclddaaGreatDoor
namespace Go.Sv
open Go
theorem aIg{P:Program}{fn:Func}{K:Value->World->Prop}{env:Env}{tmps:Array Value}{R:Ending->World->Prop}{ch:List PanicEntry}(hR:∀v w',K v w'->R (.returned v) w')(hv:∀i v,Env.get env i=some v->tmps.getD i undef=v) :
 ∀(ds:List Deferred) {w:World},aMx P fn K env ch ds w->kZ P fn tmps R ds (.panicking ch) w:=by
 intro ds w h;cases ds with
 | nil=>exact h.elim
 | cons d ds =>
  obtain⟨tg,dargs⟩:=d;unfold aMx at h;simp only at h;split at h
  ·split at h
   ·rename_i f cap;split at h
    case h_2=>exact h.elim
    rename_i hok;refine⟨by simp,.inr ⟨_,_,f,(dargs.toList++cap.toList).toArray,rfl,?_,?_⟩⟩
    ·have e:(dargs.toList++cap.toList).toArray=dargs++cap:=by simp
     rw[e];simp only[invoke];exact iA hok _ _
    ·refine CallsD.mono h λe u w' ⟨he,hu,hk⟩=>⟨he,?_⟩;rw[hu];obtain⟨vs,hr,hk⟩:=oS hv hk;exact⟨_,hr,hR _ _ hk⟩
   ·exact h.elim
  ·exact h.elim
def aXb(P:Program)(n:Nat)(Q:nZ):Exit->Act->World->Prop
 | .panic ch,a,w=>∃st:St,a.defers=st.ds/\(∀i v,Env.get st.env i=some v->a.tmps.getD i undef=v)/\Q (.panic ch) st w
 | e,a,w=>∃st,Agree n a st/\Q e st w
theorem aFx{P:Program}{n:Nat}:∀(anns:List Ann) (c:Code) (Q:nZ) {st:St} {a:Act} {w:World},wpG P n anns c Q st w->Agree n a st->c.wpIn (FW none) 0 P (aXb P n Q) a w
 | [],c,Q,st,a,w,h,ha=>h.elim
 | [x],c,Q,st,a,w,h,ha=>by
  simp only[wpG]at h;split at h
  ·rename_i hn;refine wpIn_mono (fG _ none x c _ h ha) ?_;rintro e a1 w1 h1;cases e with
   | panic ch =>
    obtain⟨⟨KP,hk,hK⟩,hs,hd⟩:=h1;cases hk;refine⟨{ env:=kK (eD c) st.env,ds:=st.ds },(hd hn).trans ha.ds,λi v hi=>?_,hK⟩;obtain⟨h2,h3⟩:=oM hi;rw[hs i h2];exact ha.val i v h3
   | normal=>exact h1.1
   | ret=>exact h1.1
   | exit i=>exact h1.1
   | goto i=>exact h1.1
   | outgrown=>exact h1.1
  ·exact h.elim
 | x::y::ys,c,Q,st,a,w,h,ha=>by
  simp only[wpG]at h;split at h
  ·rename_i b d;refine wpIn_seq (wpIn_mono (fG none none x b _ h ha) ?_);rintro e a1 w1 h1;cases e with
   | normal =>
    obtain⟨⟨s1,ha1,h2⟩,_⟩:=h1;exact aFx (y::ys) d Q h2 ha1
   | panic ch=>obtain⟨⟨KP,hk,_⟩,_⟩:=h1;cases hk
   | ret=>exact h1.1
   | exit i=>exact h1.1
   | goto i=>exact h1.1
   | outgrown=>exact h1.1
  ·exact h.elim
theorem aHe{P:Program}{f:FuncId}{fn:Func}{anns:List Ann}{args:List Value}{w:World}{K:Value->World->Prop}(hf:P.funcs[f]?=some fn)(h:aUf P fn anns args w K):bK P f args w K:=by
 unfold aUf at h;split at h
 ·rename_i c hb;split at h
  ·rename_i hle;have hle':args.length<=fn.ntmps:=Nat.le_of_ble_eq_true hle;refine yF hf hb ?_;refine wpIn_mono (aFx anns c _ h (tS args hle')) ?_;rintro e a' w' hh;have fin:∀st:St,Agree fn.ntmps a' st->rK P fn K st.env st.ds w'->kZ P fn a'.tmps (λe w=>∃v,e=.returned v/\K v w) a'.defers .returning w':=λst ha hq=>by
    rw[ha.ds];exact mY (λv w' hk=>⟨v,rfl,hk⟩) ha.val st.ds hq
   cases e with
   | normal=>obtain⟨st,ha,hq⟩:=hh;exact fin st ha hq
   | ret=>obtain⟨st,ha,hq⟩:=hh;exact fin st ha hq
   | panic ch =>
    obtain⟨st,hd,hv,hq⟩:=hh;show kZ P fn a'.tmps _ a'.defers (.panicking ch) w';rw[hd];exact aIg (λv w' hk=>⟨v,rfl,hk⟩) hv st.ds hq
   | exit i=>obtain⟨st,ha,hq⟩:=hh;exact hq.elim
   | goto i=>obtain⟨st,ha,hq⟩:=hh;exact hq.elim
   | outgrown=>obtain⟨st,ha,hq⟩:=hh;exact hq.elim
  ·exact h.elim
 ·exact h.elim
def dG:FrameMode->Value × FrameMode
 | .panicking ({ v,recovered:=false,goexit:=false }::older)=>(v,.panicking ({ v,recovered:=true }::older))
 | u=>(.nilIface,u)
theorem aE8{ops:Array Oper}{d1 d2:Nat}(h:aCo ops=some (d1,d2)):∃o1 o2 c,ops=#[o1,o2]/\o1.dst=some d1/\o1.op=.call c/\c.callee=.builtin .recover/\o1.guard=none/\o2.dst=some d2/\o2.op=.assign (.tmp d1)/\o2.guard=none:=by
 unfold aCo at h;split at h
 ·rename_i o1 o2 ho;split at h
  ·rename_i e1 e2 e3 e4 e5 e6;split at h
   ·rename_i hc ht;cases h;refine⟨o1,o2,_,?_,e1,e2,hc,e3,e4,?_,e6⟩
    ·apply Array.ext';simpa using ho
    ·rw[e5,Nat.eq_of_beq_eq_true ht]
   ·cases h
  ·cases h
 ·cases h
theorem uP{P:Program}{f:FuncId}{fn:Func}{ann:Ann}{args:List Value}{u:FrameMode}{w:World}{K:World->Prop}(hf:P.funcs[f]?=some fn)(h:wpR P fn ann args (dG u).1 w K):jX P f args u w λu' w'=>u'=(dG u).2/\K w':=by
 unfold wpR at h;split at h
 ·rename_i id ops rest hb;split at h
  ·rename_i d1 d2 hslots hle;split at h
   case h_2=>exact h.elim
   rename_i hlt;rw[bH]at hle hlt;have hle':args.length<=fn.ntmps:=Nat.le_of_ble_eq_true hle.2;have hl1:d1<fn.ntmps:=by simpa using hlt.1
   have hl2:d2<fn.ntmps:=by simpa using hlt.2
   obtain⟨o1,o2,c,rfl,e1,e2,e3,e4,e5,e6,e7⟩:=aE8 hslots;refine callsD_of_wpS (R:=λe u' w'=>(∃v,e=.returned v)/\u'=(dG u).2/\K w') hf hb λc₀ cs hu=>?_;have hag:=tS args hle';refine wpS_seq (wpS_region ?_);have hr1:∀a:Act,(execOp a.eval o1).run P w=.ok .recover w:=λa=>by
    unfold execOp;rw[e2];simp only[resolve,e3];rfl
   have hr2:∀a:Act,(execOp a.eval o2).run P w=.ok (.value (a.eval (.tmp d1))) w:=λa=>by
    unfold execOp;rw[e6];rfl
   have hrest:∀(cs':List Frame) (u':FrameMode) (x:Value),cs'={ c₀ with mode:=u' }::cs->u'=(dG u).2->x=(dG u).1 ->
    rest.wpS P (bodyPostS P fn c₀ cs λe u' w'=>(∃v,e=.returned v)/\u'=(dG u).2/\K w') ((({ tmps:=args.toArray++Array.replicate (fn.ntmps-args.toArray.size) undef,defers:=[] }:Act).put o1.dst x).put o2.dst x) cs' w:=by
    intro cs' u' x hcs hu' hx;subst hx;have ha2:Agree fn.ntmps ((({ tmps:=args.toArray++Array.replicate (fn.ntmps-args.toArray.size) undef,defers:=[] }:Act).put o1.dst (dG u).1).put o2.dst (dG u).1) { env:=(d2,(dG u).1)::(d1,(dG u).1)::mZ 0 args,ds:=[] }:=by
     have h1:=iY (iY hag (d:=o1.dst) (by rw[e1];exact hlt.1) (dG u).1) (d:=o2.dst) (by rw[e5];exact hlt.2) (dG u).1;rw[e1,e5]at h1 ⊢;exact h1
    have h2:=fG (P:=P) none none ann rest _ h ha2;refine wpS_of_wp (wpIn_wide.1 (wpIn_mono h2 ?_));rintro e a' w' hh;have fin:∀st:St,Agree fn.ntmps a' st->rK P fn (λ_ w'=>K w') st.env st.ds w'->a'.defers=[]->∃v,(results fn a'.tmps).run P w'=.ok v w'/\(∃u,Ending.returned v=.returned u)/\u'=(dG u).2/\K w':=λst ha hq hd=>by
     rw[<-ha.ds,hd]at hq;obtain⟨vs,hr,hk⟩:=oS ha.val hq;exact⟨_,hr,⟨_,rfl⟩,hu',hk⟩
    have hnd:=hle.1;cases e with
    | normal =>
     obtain⟨⟨st,ha,hq⟩,_,hd⟩:=hh;have hd:=hd hnd;rw[e1,e5]at hd;exact⟨hd,u',hcs,fin st ha hq hd⟩
    | ret =>
     obtain⟨⟨st,ha,hq⟩,_,hd⟩:=hh;have hd:=hd hnd;rw[e1,e5]at hd;exact⟨hd,u',hcs,fin st ha hq hd⟩
    | panic ch =>
     obtain⟨⟨KP,hpk,hk⟩,_,hd⟩:=hh;cases hpk
    | exit i=>obtain⟨⟨st,ha,hq⟩,_⟩:=hh;exact hq.elim
    | goto i=>obtain⟨⟨st,ha,hq⟩,_⟩:=hh;exact hq.elim
    | outgrown=>obtain⟨⟨st,ha,hq⟩,_⟩:=hh;exact hq.elim
   show wpOpsS P #[o1,o2] _ [0,1] _ _ w;have key:∀(cs':List Frame) (x:Value),(Code.region id #[o1,o2] false=Code.region id #[o1,o2] false)->rest.wpS P (bodyPostS P fn c₀ cs λe u' w'=>(∃v,e=.returned v)/\u'=(dG u).2/\K w') ((({ tmps:=args.toArray++Array.replicate (fn.ntmps-args.toArray.size) undef,defers:=[] }:Act).put o1.dst x).put o2.dst x) cs' w ->
    wpOpsS P #[o1,o2] (Exit.thenS (rest.wpS P (bodyPostS P fn c₀ cs λe u' w'=>(∃v,e=.returned v)/\u'=(dG u).2/\K w')) (bodyPostS P fn c₀ cs λe u' w'=>(∃v,e=.returned v)/\u'=(dG u).2/\K w')) [1] (({ tmps:=args.toArray++Array.replicate (fn.ntmps-args.toArray.size) undef,defers:=[] }:Act).put o1.dst x) cs' w:=by
    intro cs' x _ hh;have hx:(({ tmps:=args.toArray++Array.replicate (fn.ntmps-args.toArray.size) undef,defers:=[] }:Act).put o1.dst x).eval (.tmp d1)=x:=by
     have:=(iY hag (d:=o1.dst) (by rw[e1];exact hlt.1) x).val d1 x (by rw[e1];exact Env.get_cons_self ..);exact this
    unfold wpOpsS;have e8:(#[o1,o2]:Array Oper)[1]?=some o2:=rfl;simp only[e8,Region.wanted,e7,hr2,hx,if_true];exact hh
   unfold wpOpsS;have e9:(#[o1,o2]:Array Oper)[0]?=some o1:=rfl;simp only[e9,Region.wanted,e4,hr1,if_true];have hm:(recoverD (c₀::cs)=none/\dG u=(.nilIface,u))\/recoverD (c₀::cs)=some ((dG u).1,{ c₀ with mode:=(dG u).2 }::cs):=by
    subst hu;unfold recoverD dG;simp only;split
    ·rename_i v older hv;exact .inr (by rw[hv])
    ·rename_i hno;refine .inl ⟨rfl,?_⟩;split
     ·rename_i v older hv;exact absurd hv (hno v older)
     ·rfl
   rcases hm with⟨hm,hu2⟩|hm
   ·simp only[hm];refine key _ _ rfl (hrest _ u _ ?_ (by rw[hu2]) (by rw[hu2]));subst hu;rfl
   ·simp only[hm];exact key _ _ rfl (hrest _ _ _ rfl rfl rfl)
  ·exact h.elim
 ·exact h.elim
end Go.Sv
