/-
  The law's first examples (awake): what the plain lens says of them. The document's codec (longshoreref03): reading numbers and texts. The document's Print (longshoreref04): a whole value. The document's codec (longshoreref03): the shortest form of a value. The document's codec (longshoreref03): elements; what stands behind a count. The document's codec (longshoreref03): an array's elements behind the best constructor; the shortest form of every value.
-/
import Derived.Test.YtlfhjkgdlclddaaGreatDoorPx31
set_option linter.unusedVariables false
set_option linter.unusedSimpArgs false
set_option maxRecDepth 4000
namespace Go.Note
open Go Go.Proofs.YtlfhjkgdlclddaaGreatDoor
set_option maxRecDepth 100000
def awB:Bs:=[0,83,24,69,97]
def awS:Bs:=[109,97,105,110,32,48,32,118,97,108,117,101,32,40,117,108,111,110,103,32,50,52,32,91,93,41,32,114,101,115,116,32,34,97,34]
theorem aw1:eU ⟨2,0,⟨0,0,[],awB⟩⟩=(awS,0):=by kernel_rfl
theorem aw2:mQ [109,97,105,110,32,53]=some ⟨2,0,⟨0,5,[],[]⟩⟩:=by kernel_rfl
theorem aw3:zN [76,83,72,82,0,1,0,0,0,0,0,8,2,0,0,5,0] 512=([104,101,97,100,101,114,32,109,97,105,110,10,109,97,105,110,32,53,10],10):=by kernel_rfl
theorem aw4:tV [35,32,111,110,101,10,103,117,97,114,100,32,118,97,108,117,101,32,110,117,108,108,10]=([0,0,0,9,2,1,0,0,64],0,0):=by kernel_rfl
theorem aw5:tV [104,101,97,100,101,114,32,109,97,105,110,10,102,114,97,109,101]=([],2,280):=by kernel_rfl
end Go.Note
namespace Go.Proofs.YtlfhjkgdlclddaaGreatDoor
open Go Go.Sv Go.Note
attribute [local irreducible] aS
set_option maxRecDepth 100000
theorem aLp{w:World}(hX:LX w){K:Value->World->Prop}(hk:∀w',Ch (λ_=>False) w w'->K (.bool true) w'):bK Tryz.prog 7 [] w K:=by
 apply pK;refine bD λw1 b1 c1 z1=>?_;have b1:blk w1 w.heap.size=some (aV awB):=b1;have hF:FR w1 ⟨0,0,none,0,[],some ⟨w.heap.size,0,none⟩,5,awB⟩:=⟨yW _ _,jQ b1 rfl,show 0<=2^40 by decide,show 5<=2^40 by decide,aQ 0,aQ 5⟩;refine xP (x:=⟨2,0,⟨0,0,none,0,[],some ⟨w.heap.size,0,none⟩,5,awB⟩⟩) hF (hX.lw.ch0 c1) λw2 c2=>⟨_,_,rfl,?_⟩;have e1:eU (IV.i ⟨2,0,⟨0,0,none,0,[],some ⟨w.heap.size,0,none⟩,5,awB⟩⟩)=(awS,0):=aw1;rw[e1];have c02:=c1.trans' c2;refine tI (l:=[109,97,105,110,32,53]) (by decide) (hX.lw.ch0 c02) (λx w3 hi hFx c3=>?_) (λw3 hi c3=>by rw[aw2]at hi;cases hi);rw[aw2]at hi;have hi:=bC hi;have hkd:x.kind=2:=(congrArg It.kind hi).symm;have hch:x.fv.ch=5:=(congrArg (λi:It=>i.fr.ch) hi).symm;have c03:=c02.trans' c3;refine is8 (bD λw4 b4 c4 z4=>?_);simp only[add_at,aL];refine st6 b4 rfl λw10 b10 c10 z10=>?_;have c010:Ch (λ_=>False) w w10:=(c03.trans' c4).trans c10 λj hj q=>by have:=c03.size;omega
 refine bD λw11 b11 c11 z11=>?_;have c011:=c010.trans' c11;have hr11:Rd w11 (some ⟨w10.heap.size,0,none⟩) 17 1 (aV [76,83,72,82,0,1,0,0,0,0,0,8,2,0,0,5,0]):=jQ b11 rfl;refine aGw (b:=[76,83,72,82,0,1,0,0,0,0,0,8,2,0,0,5,0]) (most:=512) hr11 (by decide) (by decide) (hX.lw.ch0 c011) λw12 c12=>⟨_,_,rfl,?_⟩;rw[aw3];have c012:=c011.trans' c12;refine uG (l:=[35,32,111,110,101,10,103,117,97,114,100,32,118,97,108,117,101,32,110,117,108,108,10]) (by decide) (hX.ch0 c012) λp2 n9 c9 own13 w13 g13=>⟨_,_,_,_,_,rfl,?_⟩;rw[aw4]at g13 ⊢;have c013:=c012.trans' g13.ch0;refine uG (l:=[104,101,97,100,101,114,32,109,97,105,110,10,102,114,97,109,101]) (by decide) (hX.ch0 c013) λp3 n12 c12' own14 w14 g14=>⟨_,_,_,_,_,rfl,?_⟩;rw[aw5]at g14 ⊢;have c014:=c013.trans' g14.ch0;have b14:=((((c11.trans' c12).trans' g13.ch0).trans' g14.ch0).blk (aH b10) id).trans b10;refine aC (λ_=>?_) λh=>absurd h (by decide);rw[aJo];refine aC (λ_=>?_) λh=>absurd h (by decide);refine aC (λ_=>?_) λh=>absurd h (by decide);refine⟨_,aJ b14 0 rfl,?_⟩;rw[hkd];refine aC (λ_=>?_) λh=>absurd h (by decide);refine⟨_,aJ b14 3 rfl,?_⟩;rw[hch];refine aC (λ_=>?_) λh=>absurd h (by decide);refine aC (λ_=>?_) λh=>absurd h (by decide);rw[aJo];refine aC (λ_=>?_) λh=>absurd h (by decide);refine aC (λ_=>?_) λh=>absurd h (by decide);refine aC (λ_=>?_) λh=>absurd h (by decide);refine⟨_,cD Tryz.underlying22 iL dN (g13.ow.rd.ch g14.ch0 λ_ _ _=>id),?_⟩;rw[aJo];refine aC (λ_=>?_) λh=>absurd h (by decide);refine aC (λ_=>?_) λh=>absurd h (by decide);exact hk w14 c014
end Go.Proofs.YtlfhjkgdlclddaaGreatDoor
namespace Go.Proofs.YtlfhjkgdlclddaaGreatDoor
open Go Go.Sv Go.Note
attribute [local irreducible] aS
theorem aXt{x:MV}{a e:Int}{K:Int->Int->ByteArray->Option Addr->Nat->Nat->Int->Int->Int->Prop}(hk:K x.k (x.n:Int) ⟨x.t.toArray⟩ x.s.p x.s.n x.s.c x.e a e) :
 ∃n n1 s p n2 c n3 n4 n5,Value.tuple (Array.mk [x.v,.int .i64 a,.int .i64 e])=.tuple (Array.mk [.agg (Array.mk [.int .i64 n,.int .u64 n1,.string s,.slice p n2 c,.int .i64 n3]),.int .i64 n4,.int .i64 n5])/\K n n1 s p n2 c n3 n4 n5 :=
 ⟨_,_,_,_,_,_,_,_,_,by rw[vv],hk⟩
structure BW3(w:World)(b:Bs)(p:Option Addr)(c:Nat):Prop where
 rd:Rd w p b.length 1 (aV b)
 cap:b.length<=c
 bl:b.length<=1048576
theorem BW3.ch0{w w':World}{b:Bs}{p:Option Addr}{c:Nat}(h:BW3 w b p c)(hc:Ch (λ_=>False) w w'):BW3 w' b p c:=⟨h.rd.ch hc λ_ _ _=>id,h.cap,h.bl⟩
def DrK(o:Option (M × Nat))(w:World)(K:Value->World->Prop):Prop :=
 (∀(x:MV) (t:Nat) (w':World),o=some (x.m,t)->VO w' x->(∀k∈x.B,w.heap.size<=k)->Ch (λ_=>False) w w'->K (.tuple (Array.mk [x.v,.int .i64 (t:Int),.int .i64 0])) w') /\
 (∀(a e:Int) (w':World),o=none->e≠0->Ch (λ_=>False) w w'->K (.tuple (Array.mk [(one 0 0 []).v,.int .i64 a,.int .i64 e])) w')
theorem aV6{w:World}{a:Nat}{x:MV}{zs:List Value}{at_ e:Int}(h1:blk w a=some zs)(hl:zs.length=5){K:Value->World->Prop}(hk:∀w',Ch (·=a) w w'->K (.tuple (Array.mk [x.v,.int .i64 at_,.int .i64 e])) w') :
 Sv.st w ⟨a,0,none⟩ (.int .i64 x.k) λw1=>Sv.st w1 ⟨a,1,none⟩ (.int .u64 (x.n:Int)) λw2=>Sv.st w2 ⟨a,2,none⟩ (.string ⟨x.t.toArray⟩) λw3=>Sv.st w3 ⟨a,3,none⟩ (.slice x.s.p x.s.n x.s.c) λw4=>Sv.st w4 ⟨a,4,none⟩ (.int .i64 x.e) λw5 =>
  ∃n,w5.cell? ⟨a,0,none⟩=some (.int .i64 n)/\∃n1,w5.cell? ⟨a,1,none⟩=some (.int .u64 n1)/\∃s,w5.cell? ⟨a,2,none⟩=some (.string s)/\∃p n2 c,w5.cell? ⟨a,3,none⟩=some (.slice p n2 c)/\∃n3,w5.cell? ⟨a,4,none⟩=some (.int .i64 n3) /\
   K (.tuple (Array.mk [.agg (Array.mk [.int .i64 n,.int .u64 n1,.string s,.slice p n2 c,.int .i64 n3]),.int .i64 at_,.int .i64 e])) w5:=by
 refine st5 h1 hl λw5 b5 c5 z5=>rF b5 ?_;rw[vv];exact hk w5 c5
theorem DrK.bad{o:Option (M × Nat)}{w0 w:World}{K:Value->World->Prop}{a:Nat}{zs:List Value}{at_ e:Int}(hK:DrK o w0 K)(ho:o=none)(he:e≠0)(hc:Ch (λ_=>False) w0 w)(h:blk w a=some zs)(hl:zs.length=5)(ha:w0.heap.size<=a) :
 Sv.st w ⟨a,0,none⟩ (.int .i64 0) λw1=>Sv.st w1 ⟨a,1,none⟩ (.int .u64 0) λw2=>Sv.st w2 ⟨a,2,none⟩ (.string ⟨#[]⟩) λw3=>Sv.st w3 ⟨a,3,none⟩ (.slice none 0 0) λw4=>Sv.st w4 ⟨a,4,none⟩ (.int .i64 0) λw5 =>
  ∃n,w5.cell? ⟨a,0,none⟩=some (.int .i64 n)/\∃n1,w5.cell? ⟨a,1,none⟩=some (.int .u64 n1)/\∃s,w5.cell? ⟨a,2,none⟩=some (.string s)/\∃p n2 c,w5.cell? ⟨a,3,none⟩=some (.slice p n2 c)/\∃n3,w5.cell? ⟨a,4,none⟩=some (.int .i64 n3) /\
   K (.tuple (Array.mk [.agg (Array.mk [.int .i64 n,.int .u64 n1,.string s,.slice p n2 c,.int .i64 n3]),.int .i64 at_,.int .i64 e])) w5 :=
 aV6 (x:=one 0 0 []) h hl λw' c'=>hK.2 _ _ w' ho he (hc.trans c' λj hj q=>by omega)
theorem DrK.good{o:Option (M × Nat)}{w0 w:World}{K:Value->World->Prop}{a t:Nat}{zs:List Value}{x:MV}(hK:DrK o w0 K)(ho:o=some (x.m,t))(hvo:VO w x)(hxb:∀k∈x.B,w0.heap.size<=k)(hxa:a ∉ x.B)(hc:Ch (λ_=>False) w0 w)(h:blk w a=some zs)(hl:zs.length=5)(ha:w0.heap.size<=a) :
 Sv.st w ⟨a,0,none⟩ (.int .i64 x.k) λw1=>Sv.st w1 ⟨a,1,none⟩ (.int .u64 (x.n:Int)) λw2=>Sv.st w2 ⟨a,2,none⟩ (.string ⟨x.t.toArray⟩) λw3=>Sv.st w3 ⟨a,3,none⟩ (.slice x.s.p x.s.n x.s.c) λw4=>Sv.st w4 ⟨a,4,none⟩ (.int .i64 x.e) λw5 =>
  ∃n,w5.cell? ⟨a,0,none⟩=some (.int .i64 n)/\∃n1,w5.cell? ⟨a,1,none⟩=some (.int .u64 n1)/\∃s,w5.cell? ⟨a,2,none⟩=some (.string s)/\∃p n2 c,w5.cell? ⟨a,3,none⟩=some (.slice p n2 c)/\∃n3,w5.cell? ⟨a,4,none⟩=some (.int .i64 n3) /\
   K (.tuple (Array.mk [.agg (Array.mk [.int .i64 n,.int .u64 n1,.string s,.slice p n2 c,.int .i64 n3]),.int .i64 (t:Int),.int .i64 0])) w5 :=
 aV6 h hl λw' c'=>hK.1 x t w' ho (VO.ch c' x hvo λb hb q=>hxa (q▸hb)) hxb (hc.trans c' λj hj q=>by omega)
theorem DrK.pass{o:Option (M × Nat)}{w w1:World}{K:Value->World->Prop}{a:Nat}{zs:List Value}(hK:DrK o w K)(hc:Ch (λ_=>False) w w1)(ha:blk w1 a=some zs)(hl:zs.length=5)(hwa:w.heap.size<=a) :
 DrK o w1 (λv w3=>∃n n1 s p n2 c n3 n4 n5,v=.tuple (Array.mk [.agg (Array.mk [.int .i64 n,.int .u64 n1,.string s,.slice p n2 c,.int .i64 n3]),.int .i64 n4,.int .i64 n5]) /\
  Sv.st w3 ⟨a,0,none⟩ (.int .i64 n) λw4=>Sv.st w4 ⟨a,1,none⟩ (.int .u64 n1) λw5=>Sv.st w5 ⟨a,2,none⟩ (.string s) λw6=>Sv.st w6 ⟨a,3,none⟩ (.slice p n2 c) λw7=>Sv.st w7 ⟨a,4,none⟩ (.int .i64 n3) λw8 =>
   ∃n,w8.cell? ⟨a,0,none⟩=some (.int .i64 n)/\∃n1,w8.cell? ⟨a,1,none⟩=some (.int .u64 n1)/\∃s,w8.cell? ⟨a,2,none⟩=some (.string s)/\∃p n2 c,w8.cell? ⟨a,3,none⟩=some (.slice p n2 c)/\∃n3,w8.cell? ⟨a,4,none⟩=some (.int .i64 n3) /\
    K (.tuple (Array.mk [.agg (Array.mk [.int .i64 n,.int .u64 n1,.string s,.slice p n2 c,.int .i64 n3]),.int .i64 n4,.int .i64 n5])) w8):=by
 have hal:=aH ha;have hz:=hc.size;refine⟨λx t w' ho hvo hxb c'=>aXt ?_,λa' e w' ho he c'=>aXt ?_⟩
 ·exact hK.good ho hvo (λk hk=>by have:=hxb k hk;omega) (λq=>by have:=hxb _ q;omega) (hc.trans' c') ((c'.blk hal id).trans ha) hl hwa
 ·exact hK.bad ho he (hc.trans' c') ((c'.blk hal id).trans ha) hl hwa
open Go.RowKit
def WT(base:World)(b0:Option Nat)(w:World)(p:Option Addr)(n c:Nat)(l:Bs):Prop:=Gb base w p n c l b0/\∀k,b0=some k->k<base.heap.size
theorem WT.ch{base w:World}{b0:Option Nat}{p:Option Addr}{n c:Nat}{l:Bs}(h:WT base b0 w p n c l):Ch (λk=>b0=some k) base w:=by obtain⟨⟨_,_,_,h⟩,_⟩:=h;exact h
theorem WT.ch0{base w w':World}{b0:Option Nat}{p:Option Addr}{n c:Nat}{l:Bs}(h:WT base b0 w p n c l)(cc:Ch (λ_=>False) w w'):WT base b0 w' p n c l:=by
 obtain⟨⟨b',h1,h2,h3⟩,h4⟩:=h;exact⟨⟨b',h1.ch cc λ_ _ h=>h,h2,h3.trans' (cc.mono λ_ _ h=>h.elim)⟩,h4⟩
theorem WT.now{base w w':World}{b0:Option Nat}{p:Option Addr}{n c:Nat}{l:Bs}(h:WT base b0 w p n c l)(cc:Ch (λ_=>False) w w'):∃b',WT w' b' w' p n c l/\(∀k,b'=some k->k<w.heap.size/\(b0=some k\/base.heap.size<=k))/\∀w'' p' n' c' l',WT w' b' w'' p' n' c' l'->WT base b0 w'' p' n' c' l':=by
 obtain⟨⟨b',h1,h2,h3⟩,h4⟩:=h;have hz:=cc.size;have h1':=h1.ch cc λ_ _ h=>h;have hlt:∀k,b'=some k->k<w.heap.size:=λk hk=>by rw[hk]at h1;exact h1.lt
 refine⟨b',⟨⟨b',h1',λk hk=>.inl hk,Ch.refl _ _⟩,λk hk=>by have:=hlt k hk;omega⟩,λk hk=>⟨hlt k hk,h2 k hk⟩,λw'' p' n' c' l' hw=>⟨Gb.trans (p1:=p) (n1:=n) (c1:=c) h2 (h3.trans' (cc.mono λ_ _ h=>h.elim)) hw.1,h4⟩⟩
theorem WT.put{base w:World}{b0:Option Nat}{p:Option Addr}{n c:Nat}{l:Bs}(h:WT base b0 w p n c l)(y:Bs)(hl:l.length+y.length<=2^46){K:Value->World->Prop}(hk:∀p' n' c' w',WT base b0 w' p' n' c' (l++y)->K (.slice p' n' c') w') :
 bK Tryz.prog 48 [.slice p n c,.string ⟨y.toArray⟩] w K:=by
 obtain⟨⟨b',h1,h2,h3⟩,h4⟩:=h;refine aUr h1 _ (by rw[lW];exact hl) λp' c' w' hG=>?_;rw[cT]at hG ⊢;exact hk p' _ c' w' ⟨Gb.trans (p1:=p) (n1:=n) (c1:=c) h2 h3 hG,h4⟩
theorem WT.enter{Q:Nat->Prop}{base w w1:World}{b0:Option Nat}{p:Option Addr}{n c:Nat}{l:Bs}{x:MV}(hQ:∀k,Q k->b0≠some k)(h:WT base b0 w p n c l)(hx:VR Q base x)(cc:Ch (λ_=>False) w w1) :
 ∃b' Q',WT w1 b' w1 p n c l/\(∀k,Q' k->b'≠some k)/\VR Q' w1 x/\b'≠some w.heap.size/\∀w'' p' n' c' l',WT w1 b' w'' p' n' c' l'->WT base b0 w'' p' n' c' l':=by
 obtain⟨b',h1,h2,h3⟩:=h.now cc;have c2:=(h.ch0 cc).ch;have hx2:=hx.lt x;refine⟨b',λk=>Q k/\k<base.heap.size,h1,λk hk e=>?_,VR.ch c2 (λk hk e=>hQ k hk.1 e) x hx2,λe=>?_,h3⟩
 ·rcases(h2 k e).2 with e|e
  ·exact hQ k hk.1 e
  ·have:=hk.2;omega
 ·have:=(h2 _ e).1;omega
end Go.Proofs.YtlfhjkgdlclddaaGreatDoor
namespace Go.Proofs.YtlfhjkgdlclddaaGreatDoor
open Go Go.Sv Go.Note
attribute [local irreducible] aS
def BestIn(N:Nat)(w:World)(a:Nat):Option (Nat × Bs)->Prop
 | none=>blk w a=some [.int .i64 (-1),.slice none 0 0]
 | some (c,d)=>∃p n cp,blk w a=some [.int .i64 (c:Int),.slice p n cp]/\Rd w p n 1 (aV d)/\d.length=n/\∀ad,p=some ad->n*1≠0->N<=ad.block
theorem BestIn.ch0{N:Nat}{w w':World}{a:Nat}{b:Option (Nat × Bs)}(h:BestIn N w a b)(hc:Ch (λ_=>False) w w'):BestIn N w' a b:=by
 cases b with
 | none=>exact(hc.blk (aH h) id).trans h
 | some x =>
  obtain⟨c,d⟩:=x;obtain⟨p,n,cp,h1,h2,h3,h4⟩:=h;exact⟨p,n,cp,(hc.blk (aH h1) id).trans h1,h2.ch hc λ_ _ _=>id,h3,h4⟩
theorem BestIn.cells{N:Nat}{w:World}{a:Nat}{b:Option (Nat × Bs)}(h:BestIn N w a b):∃x p n c,blk w a=some [.int .i64 x,.slice p n c]:=by
 cases b with
 | none=>exact⟨_,_,_,_,h⟩
 | some x =>
  obtain⟨c,d⟩:=x;obtain⟨p,n,cp,h1,_⟩:=h;exact⟨_,_,_,_,h1⟩
theorem Bo.le{N N':Nat}{w w':World}{p:Option Addr}{n:Nat}{l:Bs}(h:Bo N w w' p n l)(hN:N'<=N):Bo N' w w' p n l:=⟨h.rd,h.len,h.ch,λad ha h0=>Nat.le_trans hN (h.new ad ha h0)⟩
theorem nE{α:Type}(f:α->Bs):∀(l:List α) (j:Nat),((l.take j).flatMap f).length<=(l.flatMap f).length
 | [],j=>by simp
 | x::l,0=>by simp
 | x::l,j+1=>by
  have:=nE f l j;rw[List.take_succ_cons,bU,bU,aG,aG];omega
structure Rw(N:Nat)(w:World)(own:Option Nat)(T:List SL)(l:List MV):Prop where
 row:∀(j:Nat) (y:MV) (z:SL),l[j]?=some y->T[j]?=some z->z.n=(eG y.m).length/\Rd w z.p z.n 1 (aV (eG y.m))/\∀a,z.p=some a->z.n*1≠0->N<=a.block/\own≠some a.block
theorem Rw.ch{N:Nat}{w w':World}{own:Option Nat}{T:List SL}{l:List MV}(h:Rw N w own T l)(hc:Ch (λ_=>False) w w'):Rw N w' own T l:=⟨λj y z h1 h2=>by
 obtain⟨g1,g2,g3⟩:=h.row j y z h1 h2;exact⟨g1,g2.ch hc λ_ _ _=>id,g3⟩⟩
end Go.Proofs.YtlfhjkgdlclddaaGreatDoor
