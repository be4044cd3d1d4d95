/-
  The program's Parse. The codec of values in plain Lean: how a value is written, how bytes are read. No program in sight. The codec of values in plain Lean: what is read may be. No program in sight. The codec of values in plain Lean: what is read may be (at every depth). No program in sight. The codec of values in plain Lean: what is read may be. No program in sight. The codec of values in plain Lean: how many bytes a value has. No program in sight. The codec of values in plain Lean: unlike values are written unlike. No program in sight. The codec of values in plain Lean: unlike values are written unlike. No program in sight. The codec of values in plain Lean: unlike values are written unlike. No program in sight.
-/
import Derived.Test.YtlfhjkgdlclddaaGreatDoorPx14
set_option linter.unusedVariables false
set_option linter.unusedSimpArgs false
set_option maxRecDepth 4000
namespace Go.Proofs.YtlfhjkgdlclddaaGreatDoor
open Go Go.Sv Go.Note
attribute [local irreducible] aS
def cY(s:Bs):M × Nat × Nat:=match gT s with
 | .ok m _=>(m,0,0)
 | .bad a e=>(.mk 0 0 [] 0 [],a,e)
theorem st1{w:World}{k:Nat}{z v:Value}{K:World->Prop}(h:blk w k=some [z])(hk:∀w',blk w' k=some [v]->Ch (·=k) w w'->K w'):Sv.st w ⟨k,0,none⟩ v K :=
 eK h (by simp) λw' b c _=>hk w' b c
theorem aRq{a b c:Option Addr}{w:World}{K:World->Prop}(hk:K w):aK9 Tryz.prog 105 [.pointer a,.pointer b,.pointer c] w K:=by
 refine CallsD.mono (xJ (u:=.returning) (K:=K) rfl (by unfold kI;exact⟨rfl,hk⟩)) ?_;rintro e u w' ⟨h1,h2,h3⟩;exact⟨h1,h2,h3⟩
theorem aMd{ab a1b a2b at0 e0:Nat}{zs:List Value}{z1 z2:Value}(hne:ab≠a1b/\ab≠a2b/\a1b≠a2b){w:World}(h0:blk w ab=some zs)(hl:zs.length=5)(h1:blk w a1b=some [z1])(h2:blk w a2b=some [z2]){K:FrameMode->World->Prop}
 (hk:∀w',blk w' ab=some (one 0 0 []).g->blk w' a1b=some [.int .i64 (at0:Int)]->blk w' a2b=some [.int .i64 (e0:Int)]->Ch (λj=>j=ab\/j=a1b\/j=a2b) w w'->K (dG (.panicking (flt at0 e0))).2 w') :
 jX Tryz.prog 105 [.pointer (some ⟨ab,0,none⟩),.pointer (some ⟨a1b,0,none⟩),.pointer (some ⟨a2b,0,none⟩)] (.panicking (flt at0 e0)) w K:=by
 refine CallsD.mono (xI (u:=.panicking (flt at0 e0)) (at0:=at0) (e0:=e0) (K:=λw'=>K (dG (.panicking (flt at0 e0))).2 w') rfl ?_) ?_
 rotate_left
 ·rintro e u w' ⟨g1,g2,g3⟩;refine⟨g1,?_⟩;rw[g2];exact g3
 unfold kH;refine⟨rfl,(at0:Int),(e0:Int),true,by kernel_rfl,?_⟩;refine bD λw1 b1 c1 z1'=>?_;have l0:=aH h0;have l1:=aH h1;have l2:=aH h2;simp only[add_at,aL];refine eK b1 (by simp) λw2 b2 c2 z2'=>eK b2 (by simp) λw3 b3 c3 z3'=>?_;have b3:blk w3 w.heap.size=some [.int .i64 (at0:Int),.int .i64 (e0:Int)]:=b3;have c13:Ch (λ_=>False) w w3:=(c1.trans c2 λx hx h=>by omega).trans c3 λx hx h=>by omega
 have k0:=(c13.blk l0 id).trans h0;have k1:=(c13.blk l1 id).trans h1;have k2:=(c13.blk l2 id).trans h2;refine⟨λw4=>w4=w3,?_,dJ rfl⟩;rintro w4 rfl;have b3d:blk w4.drew w.heap.size=some [.int .i64 (at0:Int),.int .i64 (e0:Int)]:=b3;have k0d:blk w4.drew ab=some zs:=k0;have k1d:blk w4.drew a1b=some [z1]:=k1;have k2d:blk w4.drew a2b=some [z2]:=k2;refine⟨_,aJ b3d 0 rfl,_,aJ b3d 1 rfl,?_⟩;simp only[nn,add_at,aL];refine st5 (x:=one 0 0 []) k0d hl λw9 b9 c9 z9=>?_;have b39:=(c9.blk (aH b3d) (by omega)).trans b3d;have k19:=(c9.blk (aH k1d) (by omega)).trans k1d;have k29:=(c9.blk (aH k2d) (by omega)).trans k2d;refine⟨⟨_,aJ b39 1 rfl,rfl⟩,⟨_,aJ b39 0 rfl,rfl⟩,?_⟩;refine st1 k19 λw10 b10 c10=>?_;have b310:=(c10.blk (aH b39) (by omega)).trans b39;have k210:=(c10.blk (aH k29) (by omega)).trans k29;have k010:=(c10.blk (aH b9) (by omega)).trans b9;refine⟨⟨_,aJ b310 1 rfl,rfl⟩,?_⟩;refine st1 k210 λw11 b11 c11=>?_;refine hk w11 ((c11.blk (aH k010) (by omega)).trans k010) ((c11.blk (aH b10) (by omega)).trans b10) b11 ?_;exact((((c13.mono (S':=λj=>j=ab\/j=a1b\/j=a2b) λ_ _ h=>h.elim).trans' (Ch.drew _)).trans c9 λ_ _ h=>.inl h).trans c10 λ_ _ h=>.inr (.inl h)).trans c11 λ_ _ h=>.inr (.inr h)
theorem aLs{S:ByteArray}(hs:S.size<=2^40){w:World}(hL:LW w){K:Value->World->Prop}
 (hk:∀x w',x.m=(cY S.data.toList).1->VO w' x->(∀k∈x.B,w.heap.size<=k)->Ch (λ_=>False) w w'->K (.tuple #[x.v,.int .i64 ((cY S.data.toList).2.1:Int),.int .i64 ((cY S.data.toList).2.2:Int)]) w') :
 bK Tryz.prog 71 [.string S] w K:=by
 apply aFh;unfold oO;have hlen:=sl S;refine bD λw1 b1 c1 z1=>bD λw2 b2 c2 z2=>bD λw3 b3 c3 z3=>?_;have c03:Ch (λ_=>False) w w3:=(c1.trans' c2).trans' c3;have b13:=(c3.blk (by have:=aH b1;omega) id).trans ((c2.blk (aH b1) id).trans b1);have b23:=(c3.blk (aH b2) id).trans b2;have hw8:=hL.size;obtain⟨ab,hab⟩:∃ab,ab=w.heap.size:=⟨_,rfl⟩;obtain⟨a1b,ha1b⟩:∃ab,ab=w1.heap.size:=⟨_,rfl⟩;obtain⟨a2b,ha2b⟩:∃ab,ab=w2.heap.size:=⟨_,rfl⟩;rw[<-hab]at b13 z1 ⊢;rw[<-ha1b]at b23 z2 ⊢;rw[<-ha2b]at b3 z3 ⊢;have hne:ab≠a1b/\ab≠a2b/\a1b≠a2b:=by omega
 simp only[add_at,aL]
 -- results that are read
 have done:∀w' (x:MV) (a e:Nat),blk w' ab=some x.g->blk w' a1b=some [.int .i64 (a:Int)]->blk w' a2b=some [.int .i64 (e:Int)]->x.m=(cY S.data.toList).1->(a,e)=(cY S.data.toList).2->VO w' x->(∀k∈x.B,w.heap.size<=k)->Ch (λ_=>False) w w' ->
  ∃n,w'.cell? ⟨ab,0,none⟩=some (.int .i64 n)/\∃n1,w'.cell? ⟨ab,1,none⟩=some (.int .u64 n1)/\∃s,w'.cell? ⟨ab,2,none⟩=some (.string s)/\∃p n2 c,w'.cell? ⟨ab,3,none⟩=some (.slice p n2 c)/\∃n3,w'.cell? ⟨ab,4,none⟩=some (.int .i64 n3)/\∃n4,w'.cell? ⟨a1b,0,none⟩=some (.int .i64 n4)/\∃n5,w'.cell? ⟨a2b,0,none⟩=some (.int .i64 n5)/\K (.tuple (Array.mk [.agg (Array.mk [.int .i64 n,.int .u64 n1,.string s,.slice p n2 c,.int .i64 n3]),.int .i64 n4,.int .i64 n5])) w':=by
  intro w' x a e h0 h1 h2 hx hae hvo hxb hc;refine rF h0 ⟨_,aJ h1 0 rfl,_,aJ h2 0 rfl,?_⟩;have:=hk x w' hx hvo hxb hc;rw[vv x];rw[<-hae]at this;exact this
 refine aC (λh=>?_) (λh=>?_)
 ·have h:=aB h;have hpr:cY S.data.toList=(.mk 0 0 [] 0 [],0,2):=by
   unfold cY gT;rw[aF]
  refine st5 (x:=one 0 0 []) b13 rfl λw8 b8 c8 z8=>?_;have b28:=(c8.blk (aH b23) (by omega)).trans b23;have b38:=(c8.blk (aH b3) (by omega)).trans b3;refine st1 b28 λw9 b9 c9=>?_;have b39:=(c9.blk (aH b38) (by omega)).trans b38;have b19:=(c9.blk (aH b8) (by omega)).trans b8;refine st1 b39 λw10 b10 c10=>?_;have b110:=(c10.blk (aH b19) (by omega)).trans b19;have b210:=(c10.blk (aH b9) (by omega)).trans b9;refine done w10 (one 0 0 []) 0 2 b110 b210 b10 (by rw[hpr,rS]) (by rw[hpr]) (mI ..) (by rw[rT];simp) ?_;exact((c03.trans c8 λx hx h=>by omega).trans c9 λx hx h=>by omega).trans c10 λx hx h=>by omega
 ·have h:=aA h;refine bD λw4 b4 c4 z4=>?_;have c04:=c03.trans' c4;have b14:=(c4.blk (aH b13) id).trans b13;have b24:=(c4.blk (aH b23) id).trans b23;have b34:=(c4.blk (aH b3) id).trans b3;have hL4:=hL.ch0 c04;obtain⟨rb,hrb⟩:∃rb,rb=w3.heap.size:=⟨_,rfl⟩;rw[<-hrb]at b4 ⊢;have h8:8<=rb:=by have:=c03.size;omega
  refine bZ (aNs (t:=⟨0,0,0,[]⟩) (f:=0) hs b4 (by omega) hL4.ut (by omega) λw5 b5 c5=>⟨_,_,_,rfl,?_⟩);have r5:RS S rb 0 w5:=⟨b5,by omega⟩;have hL5:=hL4.chr h8 c5;have b15:=(c5.blk (aH b14) (by omega)).trans b14;have b25:=(c5.blk (aH b24) (by omega)).trans b24;have b35:=(c5.blk (aH b34) (by omega)).trans b34;have c05:Ch (λ_=>False) w w5:=c04.trans c5 λx hx h=>by omega
  have hpb:gT S.data.toList=match gZ S.data.toList 32 0 with
   | .bad a e=>.bad a e
   | .ok m a=>if(next S.data.toList a).kind≠0 then cM (next S.data.toList a) 44 else .ok m 0:=by
   unfold gT;rw[aD];rfl
  -- a fault
  have fault:∀w6 a e,gT S.data.toList=.bad a e->Ch (λj=>j=rb\/j=ab) w5 w6->(∃zs,blk w6 ab=some zs/\zs.length=5)->jX Tryz.prog 105 [.pointer (some ⟨ab,0,none⟩),.pointer (some ⟨a1b,0,none⟩),.pointer (some ⟨a2b,0,none⟩)] (.panicking (flt a e)) w6 λu' w7=>settle u'=.returning /\
   ∃n,w7.cell? ⟨ab,0,none⟩=some (.int .i64 n)/\∃n1,w7.cell? ⟨ab,1,none⟩=some (.int .u64 n1)/\∃s,w7.cell? ⟨ab,2,none⟩=some (.string s)/\∃p n2 c,w7.cell? ⟨ab,3,none⟩=some (.slice p n2 c)/\∃n3,w7.cell? ⟨ab,4,none⟩=some (.int .i64 n3)/\∃n4,w7.cell? ⟨a1b,0,none⟩=some (.int .i64 n4)/\∃n5,w7.cell? ⟨a2b,0,none⟩=some (.int .i64 n5)/\K (.tuple (Array.mk [.agg (Array.mk [.int .i64 n,.int .u64 n1,.string s,.slice p n2 c,.int .i64 n3]),.int .i64 n4,.int .i64 n5])) w7:=by
   intro w6 a e hpar c6 ⟨zs,h0,hl⟩;have hpr:cY S.data.toList=(.mk 0 0 [] 0 [],a,e):=by unfold cY;rw[hpar]
   have b26:=(c6.blk (aH b25) (by omega)).trans b25;have b36:=(c6.blk (aH b35) (by omega)).trans b35;refine aMd hne h0 hl b26 b36 λw7 g0 g1 g2 c7=>⟨rfl,?_⟩;refine done w7 (one 0 0 []) a e g0 g1 g2 (by rw[hpr,rS]) (by rw[hpr]) (mI ..) (by rw[rT];simp) ?_;exact(c05.trans c6 λx hx h=>by omega).trans c7 λx hx h=>by omega
  refine aQ0 hs h8 32 (aQ _) 0 w5 _ _ r5 hL5 (λx b w6 hrd hvo hxb r6 c6=>?_) (λa e w6 hrd c6=>?_)
  ·rw[hrd]at hpb;simp only at hpb;have b16:=(c6.blk (aH b15) (by omega)).trans b15;have hs5:=c05.size;have hs6:=c6.size;have b16l:=aH b15;refine is5 (st5 b16 rfl λw11 b11 c11 z11=>?_);have r11:RS S rb b w11:=r6.ch c11 (by omega);have hvo11:VO w11 x:=VO.ch c11 x hvo λj hj e=>by have:=hxb j hj;omega
   have c511:Ch (λj=>j=rb\/j=ab) w5 w11:=(c6.mono λ_ _ h=>.inl h).trans c11 λ_ _ h=>.inr h;refine⟨λw12=>w12=w11/\(next S.data.toList b).kind=0,?_,?_⟩
   ·rintro w12 ⟨rfl,hk0⟩;have hpr:cY S.data.toList=(x.m,0,0):=by
     unfold cY;rw[hpb,aD]
    refine rF b11 (st5 b11 (MV.glen x) λw17 b17 c17 z17=>?_);have b217:=(c17.blk (by have:=c511.size;have:=aH b25;omega) (by omega)).trans ((c511.blk (aH b25) (by omega)).trans b25);have b317:=(c17.blk (by have:=c511.size;have:=aH b35;omega) (by omega)).trans ((c511.blk (aH b35) (by omega)).trans b35);refine st1 b217 λw18 b18 c18=>?_;have b318:=(c18.blk (aH b317) (by omega)).trans b317;have b118:=(c18.blk (aH b17) (by omega)).trans b17;refine st1 b318 λw19 b19 c19=>?_;have b119:=(c19.blk (aH b118) (by omega)).trans b118;have b219:=(c19.blk (aH b18) (by omega)).trans b18;have hl5:=aH b25;have hl5':=aH b35;refine aRq (done w19 x 0 0 b119 b219 b19 (by rw[hpr]) (by rw[hpr]) ?_ (λj hj=>by have:=hxb j hj;omega) ?_)
    ·exact VO.ch c19 x (VO.ch c18 x (VO.ch c17 x hvo11 λj hj e=>by have:=hxb j hj;omega) λj hj e=>by have:=hxb j hj;omega) λj hj e=>by have:=hxb j hj;omega
    ·exact(((c05.trans c511 λx hx h=>by omega).trans c17 λx hx h=>by omega).trans c18 λx hx h=>by omega).trans c19 λx hx h=>by omega
   ·have h11:=r11.1;unfold rcl at h11;refine⟨_,aJ h11 2 rfl,?_⟩;have hk0:(((pk (next S.data.toList b):Nat):Int) != 0)=decide ((next S.data.toList b).kind≠0):=by
     rw[eJ];unfold pk;by_cases h5:(next S.data.toList b).kind=5
     ·rw[aF h5,h5];rfl
     ·rw[aD h5];by_cases h0:(next S.data.toList b).kind=0
      ·rw[h0];rfl
      ·rw[bB (by omega),aR h0];rfl
    rw[hk0];refine aC (λh=>?_) (λh=>⟨by trivial,by simpa using h⟩);rw[aF (aB h)]at hpb;exact gD (e:=44) r11 (fault w11 _ _ hpb c511 ⟨_,b11,MV.glen x⟩)
  ·rw[hrd]at hpb;exact fault w6 a e hpb (c6.mono λ_ _ h=>.inl h) ⟨_,(c6.blk (aH b15) (by omega)).trans b15,rfl⟩
end Go.Proofs.YtlfhjkgdlclddaaGreatDoor
namespace Go.Note
open Go
def be:Nat->Nat->Bs
 | 0,_=>[]
 | w+1,n=>UInt8.ofNat (n / 256^w)::be w n
def bO(b:Bs):Nat:=b.foldl (λn x=>n*256+x.toNat) 0
theorem eL:∀w n:Nat,(be w n).length=w
 | 0,_=>rfl
 | w+1,n=>by rw[be,aI,eL w n]
theorem aQg(b:Bs):∀a:Nat,b.foldl (λn x=>n*256+x.toNat) a=a*256^b.length+bO b:=by
 induction b with
 | nil=>intro a;simp[bO]
 | cons x b ih =>
  intro a;have h:bO (x::b)=x.toNat*256^b.length+bO b:=by
   show b.foldl (λn x=>n*256+x.toNat) (0*256+x.toNat)=_;rw[ih];simp
  rw[List.foldl_cons,ih,h,aI,Nat.pow_succ];rw[Nat.add_mul,Nat.mul_comm (256^b.length) 256,<-Nat.mul_assoc,Nat.add_assoc]
theorem kE(x:UInt8)(b:Bs):bO (x::b)=x.toNat*256^b.length+bO b:=by
 rw[bO,List.foldl_cons,aQg];simp
theorem gP:∀b:Bs,bO b<256^b.length
 | []=>by simp[bO]
 | x::b=>by
  have h1:=gP b;have h2:=x.toNat_lt;rw[kE,aI,Nat.pow_succ];have h3:(x.toNat+1)*256^b.length<=256*256^b.length:=bR _ (by omega);rw[Nat.add_mul,Nat.one_mul]at h3;rw[Nat.mul_comm (256^b.length) 256];omega
theorem aEz:∀w n:Nat,be w (n%256^w)=be w n
 | 0,_=>rfl
 | w+1,n=>by
  have key:∀m k:Nat,be w (m+256^w*k)=be w m:=by
   intro m k;rw[<-aEz w (m+256^w*k),<-aEz w m,Nat.add_mul_mod_self_left]
  rw[be,be];congr 1
  ·apply UInt8.toNat_inj.1;rw[UInt8.toNat_ofNat',UInt8.toNat_ofNat'];rw[Nat.pow_succ,Nat.mod_mul_right_div_self];exact Nat.mod_mod_of_dvd _ (by decide)
  ·rw[Nat.pow_succ,Nat.mod_mul,key,aEz w n]
theorem aIy:∀w n:Nat,bO (be w n)=n%256^w
 | 0,n=>by simp[be,bO,Nat.mod_one]
 | w+1,n=>by
  have h:n%256^(w+1)=n%256^w+256^w*(n / 256^w%256):=by rw[Nat.pow_succ,Nat.mod_mul]
  rw[be,kE,eL,aIy w n,UInt8.toNat_ofNat',h,Nat.mul_comm (n / 256^w%2^8),Nat.add_comm]
theorem aNf:∀b:Bs,be b.length (bO b)=b
 | []=>rfl
 | x::b=>by
  have h:=gP b;rw[aI,be,kE];congr 1
  ·rw[Nat.mul_comm,Nat.mul_add_div (Nat.pow_pos (by decide)),Nat.div_eq_of_lt h,cO,UInt8.ofNat_toNat]
  ·rw[<-aEz,Nat.mul_comm,Nat.mul_add_mod,aEz,aNf b]
def dC(c:Nat):Option Nat :=
 if c=0x00 then some 24 else if c=0x40 then some 0 else if c=0x41\/c=0x42\/c=0x56 then some 1 else if c=0x43\/c=0x52\/c=0x70 then some 4 else if c=0x44\/c=0x53\/c=0x80 then some 5
 else if c=0x45\/c=0xc0\/c=0xd0 then some 21 else if c=0x50 then some 2 else if c=0x60 then some 3 else if c=0x51 then some 6 else if c=0x61 then some 7 else if c=0x54\/c=0x71 then some 8 else if c=0x55\/c=0x81 then some 9
 else if c=0x72 then some 10 else if c=0x82 then some 11 else if c=0x73 then some 15 else if c=0x74 then some 12 else if c=0x83 then some 16 else if c=0x84 then some 13 else if c=0x94 then some 14 else if c=0x98 then some 17
 else if c=0xa0\/c=0xb0 then some 18 else if c=0xa1\/c=0xb1 then some 19 else if c=0xa3\/c=0xb3 then some 20 else if c=0xc1\/c=0xd1 then some 22 else if c=0xe0\/c=0xf0 then some 23 else none
def gB(c:Nat):Option Nat :=
 if c=0x40\/c=0x41\/c=0x42\/c=0x43\/c=0x44\/c=0x45 then some 0
 else if c=0x56\/c=0x50\/c=0x52\/c=0x53\/c=0x51\/c=0x54\/c=0x55 then some 1
 else if c=0x60\/c=0x61 then some 2
 else if c=0x70\/c=0x71\/c=0x72\/c=0x73\/c=0x74 then some 4
 else if c=0x80\/c=0x81\/c=0x82\/c=0x83\/c=0x84 then some 8
 else if c=0x94\/c=0x98 then some 16
 else none
def bE(c:Nat):Nat:=if c=0xa0\/c=0xa1\/c=0xa3\/c=0xc0\/c=0xc1\/c=0xe0 then 1 else 4
def fL(c:Nat):Bool:=decide (c=0xa0) || decide (c=0xa1) || decide (c=0xa3) || decide (c=0xb0) || decide (c=0xb1) || decide (c=0xb3)
def eE(c:Nat):Bool:=decide (c=0xc0) || decide (c=0xc1) || decide (c=0xd0) || decide (c=0xd1)
def gA(c:Nat):Bool:=decide (c=0xe0) || decide (c=0xf0)
def cC(k:Int)(small:Bool):Nat :=
 if k=1 then 0x56 else if k=2 then 0x50 else if k=3 then 0x60 else if k=6 then 0x51 else if k=7 then 0x61 else if k=10 then 0x72 else if k=11 then 0x82 else if k=12 then 0x74 else if k=13 then 0x84 else if k=15 then 0x73 else if k=16 then 0x83
 else if k=4 then(if small then 0x52 else 0x70)else if k=5 then(if small then 0x53 else 0x80)else if k=8 then(if small then 0x54 else 0x71)else if k=9 then(if small then 0x55 else 0x81)
 else if k=14 then 0x94 else if k=17 then 0x98
 else if k=18 then(if small then 0xa0 else 0xb0)else if k=19 then(if small then 0xa1 else 0xb1)else if k=20 then(if small then 0xa3 else 0xb3)else if k=21 then(if small then 0xc0 else 0xd0)else if k=22 then(if small then 0xc1 else 0xd1)
 else(if small then 0xe0 else 0xf0)
def fJ(c:Nat):Nat:=if c / 16=5 then 1 else if c / 16=6 then 2 else if c / 16=7 then 4 else if c / 16=8 then 8 else 16
def fH(k:Int)(n:Nat)(t:Bs):Bool :=
 if k=4\/k=5 then decide (n<=255)else if k=8\/k=9 then sgn n 8 else if k=18\/k=19\/k=20 then decide (t.length<=255)else true
def jO(len:Nat)(behind:Bs):Bool:=decide (len<=255) && decide (1+behind.length<=255)
def dZ(c:Nat)(n:Nat)(t:Bs)(len:Nat)(behind:Bs):Bs :=
 if c=0x94\/c=0x98 then t
 else if fL c=true then be (bE c) t.length++t
 else if eE c=true\/gA c=true then be (bE c) (bE c+behind.length)++(be (bE c) len++behind)
 else be (fJ c) n
def kN(e:Int)(l:List M)(il:List Bs):Bool:=if e=21\/e=22\/e=23 then(l.zip il).all λx=>jO x.1.l.length x.2 else l.all λx=>fH x.k x.n x.t
def aQ1(e:Int)(l:List M)(il:List Bs):Bs :=
 UInt8.ofNat (cC e (kN e l il))::(l.zip il).flatMap λx=>dZ (cC e (kN e l il)) x.1.n x.1.t x.1.l.length x.2
def aEc(k e:Int)(l:List M)(el:Bs)(il:List Bs):Bs:=if k=23 then aQ1 e l il else el
def aG1(k:Int)(n:Nat)(t:Bs)(e:Int)(l:List M)(el:Bs)(il:List Bs):Bs :=
 if k=0 then[0x40]else if k=1/\n=1 then[0x41]else if k=1 then[0x42]else if k=4/\n=0 then[0x43]else if k=5/\n=0 then[0x44]else if k=21/\l.length=0 then[0x45]
 else if k=24 then 0::el
 else if k=21\/k=22\/k=23 then UInt8.ofNat (cC k (jO l.length (aEc k e l el il)))::dZ (cC k (jO l.length (aEc k e l el il))) n t l.length (aEc k e l el il)
 else UInt8.ofNat (cC k (fH k n t))::dZ (cC k (fH k n t)) n t l.length []
mutual
def gV:M->Bs
 | .mk k n t e l=>aG1 k n t e l (aTc l) (aKo l)
def eG:M->Bs
 | .mk k n t e l=>aEc k e l (aTc l) (aKo l)
def aTc:List M->Bs
 | []=>[]
 | x::l=>gV x++aTc l
def aKo:List M->List Bs
 | []=>[]
 | x::l=>eG x::aKo l
end
theorem aG7(l:List M):aTc l=l.flatMap gV:=by
 induction l with
 | nil=>rfl
 | cons x l ih=>simp[aTc,ih]
theorem aG0(l:List M):aKo l=l.map eG:=by
 induction l with
 | nil=>rfl
 | cons x l ih=>simp[aKo,ih]
theorem aB0(k:Int)(n:Nat)(t:Bs)(e:Int)(l:List M):gV (.mk k n t e l)=aG1 k n t e l (l.flatMap gV) (l.map eG):=by rw[gV,aG7,aG0]
theorem oK(k:Int)(n:Nat)(t:Bs)(e:Int)(l:List M):eG (.mk k n t e l)=aEc k e l (l.flatMap gV) (l.map eG):=by rw[eG,aG7,aG0]
def vP(k:Nat):Bool:=decide (k=6) || decide (k=7) || decide (k=8) || decide (k=9) || decide (k=16)
def yS(s:Bs):Nat:=if s.length<8/\128*256^(s.length-1)<=bO s/\s≠[]then bO s+(2^64-256^s.length)else bO s
def nV(n:Nat):Bool:=decide (n<=1114111) && (decide (n<55296) || decide (57343<n))
def sub(b:Bs)(at_ n:Nat):Bs:=(b.drop at_).take n
def pD(b:Bs)(e c at_:Nat):Option (M × Nat) :=
 match gB c,dC c with
 | some w,some k =>
  if e<at_+w then none
  else if c=0x94\/c=0x98 then some (.mk k 0 (sub b at_ w) 0 [],at_+w)
  else if c=0x41 then some (.mk 1 1 [] 0 [],at_)
  else if(c=0x56/\1<bO (sub b at_ w))\/(c=0x73/\nV (bO (sub b at_ w))=false)then none
  else some (.mk k (if vP k then yS (sub b at_ w)else bO (sub b at_ w)) [] 0 [],at_+w)
 | _,_=>none
def aCc(k:Nat)(t:Bs):Bool:=if k=19 then lB t else if k=20 then jI t else true
def vN(b:Bs)(e c at_:Nat):Option (M × Nat) :=
 if e<at_+bE c then none
 else if e<at_+bE c+bO (sub b at_ (bE c))then none
 else match dC c with
  | none=>none
  | some k=>if aCc k (sub b (at_+bE c) (bO (sub b at_ (bE c))))then some (.mk k 0 (sub b (at_+bE c) (bO (sub b at_ (bE c)))) 0 [],at_+bE c+bO (sub b at_ (bE c)))else none
def iQ(b:Bs)(e at_ w least:Nat):Option Nat :=
 if e<at_+w then none else if bO (sub b at_ w)<least then none else if e<at_+w+bO (sub b at_ w)then none else some (at_+w+bO (sub b at_ w))
def fA(rd:Nat->Option (M × Nat)):Nat->Nat->List M->Option (List M × Nat)
 | 0,a,acc=>some (acc,a)
 | n+1,a,acc=>match rd a with
  | none=>none
  | some (m,a')=>fA rd n a' (acc++[m])
def nJ(rd:Nat->Nat->Option (M × Nat))(b:Bs)(e c at_:Nat):Option (M × Nat) :=
 match iQ b e at_ (bE c) (bE c)with
 | none=>none
 | some q =>
  if(c=0xc1\/c=0xd1)/\(bO (sub b (at_+bE c) (bE c))%2≠0\/1024<bO (sub b (at_+bE c) (bE c)) / 2)then none
  else match fA (rd q) (bO (sub b (at_+bE c) (bE c))) (at_+bE c+bE c) []with
   | none=>none
   | some (l,a)=>if a<q\/((c=0xc1\/c=0xd1)/\¬(fS l).Nodup)then none else some (.mk (if c=0xc1\/c=0xd1 then 22 else 21) 0 [] 0 l,a)
def bL(b:Bs)(i:Nat):Nat:=((b[i]?).getD 0).toNat
def sR(dt:Nat->Nat->Nat->Option (M × Nat))(b:Bs)(e c at_:Nat):Option (M × Nat) :=
 match iQ b e at_ (bE c) (bE c+1)with
 | none=>none
 | some q=>match dC (bL b (at_+bE c+bE c))with
  | none=>none
  | some k =>
   if k=24\/gB (bL b (at_+bE c+bE c))=some 0 then none
   else match fA (dt q (bL b (at_+bE c+bE c))) (bO (sub b (at_+bE c) (bE c))) (at_+bE c+bE c+1) []with
    | none=>none
    | some (l,a)=>if a<q then none else some (.mk 23 0 [] k l,a)
def vR(rd:Nat->Nat->Option (M × Nat))(dt:Nat->Nat->Nat->Option (M × Nat))(b:Bs)(e c at_:Nat):Option (M × Nat) :=
 if fL c=true then vN b e c at_ else if eE c=true then nJ rd b e c at_ else if gA c=true then sR dt b e c at_ else pD b e c at_
def aLx(rd:Nat->Nat->Option (M × Nat))(dtd:Nat->Nat->Nat->Option (M × Nat))(b:Bs)(e at_:Nat):Option (M × Nat) :=
 if e<=at_ then none
 else match dC (bL b at_)with
  | none=>none
  | some k =>
   if bL b at_=0 then match rd e (at_+1)with
    | none=>none
    | some (x,a1)=>match rd e a1 with
         | none=>none
         | some (y,a2)=>some (.mk 24 0 [] 0 [x,y],a2)
   else dtd e (bL b at_) (at_+1)
def aEx(b:Bs):Nat->(Nat->Nat->Option (M × Nat)) × (Nat->Nat->Nat->Option (M × Nat))
 | 0=>(λ_ _=>none,λ_ _ _=>none)
 | d+1=>(λe a=>aLx (aEx b d).1 (λe c a=>vR (aEx b d).1 (aEx b d).2 b e c a) b e a,λe c a=>vR (aEx b d).1 (aEx b d).2 b e c a)
def uC(b:Bs)(d e a:Nat):Option (M × Nat):=(aEx b d).1 e a
def wO(b:Bs)(d e c a:Nat):Option (M × Nat):=(aEx b d).2 e c a
theorem aRl(b:Bs)(e a:Nat):uC b 0 e a=none:=rfl
theorem aRm(b:Bs)(d e a:Nat):uC b (d+1) e a=aLx (uC b d) (wO b (d+1)) b e a:=rfl
theorem aK3(b:Bs)(d e c a:Nat):wO b (d+1) e c a=vR (uC b d) (wO b d) b e c a:=rfl
def oC(b:Bs)(a:Nat):Option (M × Nat) :=
 match uC b 32 b.length a with
 | none=>none
 | some (m,to9)=>if 1048576<to9-a then none else some (m,to9)
def pA(m:M):Bs × Nat:=if m.check 1≠0 then([],m.check 1)else if 1048576<(gV m).length then([],2)else(gV m,0)
def nI(b:Bs):Bool:=match oC b 0 with
 | none=>false
 | some (m,to9)=>decide (to9=b.length) && decide (pA m=(b,0))
theorem aBt(b:Bs)(a n:Nat):(sub b a n).length=min n (b.length-a):=by unfold sub;rw[aU,aN]
theorem aCg(b:Bs)(a n:Nat):(sub b a n).length<=n:=by rw[aBt];omega
theorem gY{b:Bs}{a n:Nat}(h:a+n<=b.length):(sub b a n).length=n:=by rw[aBt];omega
theorem aNy{w:Nat}(h:w<=8):256^w<=18446744073709551616:=by
 have:(256:Nat)^w<=256^8:=Nat.pow_le_pow_right (by decide) h;have e:(256:Nat)^8=18446744073709551616:=by decide
 omega
theorem aLf{b:Bs}{a w:Nat}(h:w<=8):bO (sub b a w)<18446744073709551616:=by
 have h1:=gP (sub b a w);have h2:=aNy (Nat.le_trans (aCg b a w) h);omega
theorem aQ8{b:Bs}{a w:Nat}(h:w<=8):yS (sub b a w)<18446744073709551616:=by
 have h1:=gP (sub b a w);have h2:=aNy (Nat.le_trans (aCg b a w) h);have h3:=aLf (b:=b) (a:=a) h;unfold yS;split
 ·have e:(2:Nat)^64=18446744073709551616:=by decide
  omega
 ·exact h3
structure GoodC(d a to9:Nat)(m:M):Prop where
 chk:m.check (33-d)=0
 fit:m.fits
 wt:m.wt<=to9-a
theorem aS3{c w:Nat}(h:gB c=some w):w<=16/\(w=16->c=0x94\/c=0x98)/\(8<w->w=16):=by
 unfold gB at h;split at h
 ·cases h;omega
 split at h
 ·cases h;omega
 split at h
 ·cases h;omega
 split at h
 ·cases h;omega
 split at h
 ·cases h;omega
 split at h
 ·cases h;omega
 ·cases h
theorem aD9{c k:Nat}(h:dC c=some k):k<25/\c<256:=by
 have hc:c<256:=by
  rcases Nat.lt_or_ge c 256 with h1|h1
  ·exact h1
  ·unfold dC at h;simp only[show¬c=0x00 by omega,show¬c=0x40 by omega,show¬c=0x41 by omega,show¬c=0x42 by omega,show¬c=0x56 by omega,show¬c=0x43 by omega,show¬c=0x52 by omega,show¬c=0x70 by omega,show¬c=0x44 by omega,show¬c=0x53 by omega,show¬c=0x80 by omega,show¬c=0x45 by omega,show¬c=0xc0 by omega,show¬c=0xd0 by omega,show¬c=0x50 by omega,show¬c=0x60 by omega,show¬c=0x51 by omega,show¬c=0x61 by omega,show¬c=0x54 by omega,show¬c=0x71 by omega,show¬c=0x55 by omega,show¬c=0x81 by omega,show¬c=0x72 by omega,show¬c=0x82 by omega,show¬c=0x73 by omega,show¬c=0x74 by omega,show¬c=0x83 by omega,show¬c=0x84 by omega,show¬c=0x94 by omega,show¬c=0x98 by omega,show¬c=0xa0 by omega,show¬c=0xb0 by omega,show¬c=0xa1 by omega,show¬c=0xb1 by omega,show¬c=0xa3 by omega,show¬c=0xb3 by omega,show¬c=0xc1 by omega,show¬c=0xd1 by omega,show¬c=0xe0 by omega,show¬c=0xf0 by omega,or_self,if_false]at h;cases h
 refine⟨?_,hc⟩;have key:∀c:Fin 256,(dC c.val).all (λk=>decide (k<25))=true:=by decide +kernel
 have:=key ⟨c,hc⟩;rw[h]at this;simpa using this
def aS4(c:Nat):Bool:=match gB c,dC c with
 | some w,some k=>(decide (k<21) && decide (k≠18) && decide (k≠19) && decide (k≠20) || decide (c=0x45) && decide (k=21)) && (decide (k=14\/k=17) == decide (c=0x94\/c=0x98)) &&
  (decide (k≠0) || decide (w=0)) && (decide (k≠1) || decide (c=0x41\/c=0x42\/c=0x56)) && (decide (c≠0x41) || decide (k=1)) && (decide (c≠0x56) || decide (k=1)) && (decide (c≠0x42) || decide (w=0)) && (decide (k≠2) || decide (w=1)) && (decide (k≠3) || decide (w=2)) && (decide (k≠4/\k≠10/\k≠12) || decide (w<=4)) &&
  (decide (k≠6) || decide (w=1)) && (decide (k≠7) || decide (w=2)) && (decide (k≠8) || decide (w=1\/w=4)) && (decide (k≠15) || decide (c=0x73)) && (decide (c≠0x73) || decide (k=15)) && decide (k≠24)
 | _,_=>true
theorem aIo{c w k:Nat}(hw:gB c=some w)(hk:dC c=some k) :
 (k<21/\k≠18/\k≠19/\k≠20\/c=0x45/\k=21)/\(k=14\/k=17↔c=0x94\/c=0x98)/\(k=0->w=0)/\(k=1->c=0x41\/c=0x42\/c=0x56)/\(c=0x41->k=1)/\(c=0x56->k=1)/\(c=0x42->w=0)/\(k=2->w=1)/\(k=3->w=2)/\(k=4\/k=10\/k=12->w<=4) /\
 (k=6->w=1)/\(k=7->w=2)/\(k=8->w=1\/w=4)/\(k=15->c=0x73)/\(c=0x73->k=15)/\k≠24:=by
 have key:∀c:Fin 256,aS4 c.val=true:=by decide +kernel
 have h:=key ⟨c,(aD9 hk).2⟩;unfold aS4 at h;simp only[hw,hk,bH,Bool.or_eq_true,bA,beq_iff_eq,decide_eq_decide]at h;obtain⟨⟨⟨⟨⟨⟨⟨⟨⟨⟨⟨⟨⟨⟨⟨h1,h2⟩,h3⟩,h4⟩,h5⟩,h6⟩,h7⟩,h8⟩,h9⟩,h10⟩,h11⟩,h12⟩,h13⟩,h14⟩,h15⟩,h16⟩:=h;refine⟨by omega,h2,by omega,by omega,by omega,by omega,by omega,by omega,by omega,by omega,by omega,by omega,by omega,by omega,by omega,h16⟩
theorem lK{rd:Nat->Option (M × Nat)}{P:M->Prop}{q:Nat}(h:∀a m to9,a<=q->rd a=some (m,to9)->a<to9/\to9<=q/\P m/\m.wt<=to9-a):∀(n a:Nat) (acc l:List M) (to9:Nat),a<=q->fA rd n a acc=some (l,to9) ->
 ∃l',l=acc++l'/\l'.length=n/\(∀x∈l',P x)/\(l'.map M.wt).sum<=to9-a/\a<=to9/\to9<=q
 | 0,a,acc,l,to9,ha,he=>by
  cases he;exact⟨[],by simp,rfl,by simp,by simp,aQ _,ha⟩
 | n+1,a,acc,l,to9,ha,he=>by
  unfold fA at he;cases hr:rd a with
  | none=>rw[hr]at he;cases he
  | some p =>
   obtain⟨m,a'⟩:=p;rw[hr]at he;obtain⟨h1,h2,h3,h4⟩:=h a m a' ha hr;obtain⟨l',e1,e2,e3,e4,e5,e6⟩:=lK h n a' (acc++[m]) l to9 h2 he;refine⟨m::l',by rw[e1,aP];rfl,by rw[aI,e2],λx hx=>?_,by rw[List.map_cons,List.sum_cons];omega,by omega,e6⟩;rcases List.mem_cons.1 hx with rfl|hx
   ·exact h3
   ·exact e3 x hx
theorem wY{b:Bs}{e a w least q:Nat}(h:iQ b e a w least=some q):a+w+least<=q/\q<=e:=by
 unfold iQ at h;split at h
 ·cases h
 split at h
 ·cases h
 split at h
 ·cases h
 ·cases h;omega
theorem aB6{k:Int}{n:Nat}{t:Bs}{e:Int}:M.wt (.mk k n t e [])=1+t.length / 64:=by rw[M.wt_mk];simp
structure DataOk(d e c a to9:Nat)(m:M):Prop where
 le:a<=to9
 ge:to9<=e
 good:GoodC d a to9 m\/(to9=a/\m.check (33-d)=0/\m.fits/\m.wt<=1/\gB c=some 0)
 kind:∃k,dC c=some k/\m.k=(k:Int)/\k≠24
structure Hid(p:Prop):Prop where
 get:p
theorem ki{k n:Nat}(h:(k:Int)=(n:Int)):k=n:=Int.ofNat.inj h
theorem aCl{w n:Nat}(hw:w=1\/w=2\/w=4){s:Bs}(hl:s.length=w){b:Nat}(hb:8*w<=b)(hb2:b<=64):sgn (yS s) b=true:=by
 have h1:=gP s;have hp:2^(b-1)=2^(8*w-1)*2^(b-8*w):=by rw[<-Nat.pow_add];congr 1;omega
 have hp2:1<=2^(b-8*w):=Nat.one_le_two_pow;have hge:2^(8*w-1)<=2^(b-1):=Nat.pow_le_pow_right (by decide) (by omega);have hb3:2^(b-1)<=2^63:=Nat.pow_le_pow_right (by decide) (by omega);have h63:(2:Nat)^63=9223372036854775808:=by decide
 have h64:(2:Nat)^64=18446744073709551616:=by decide
 have hs:s≠[]:=by rintro rfl;simp at hl;omega
 unfold sgn yS;simp only[Bool.or_eq_true,bA,ne_eq,hs,not_false_eq_true,and_true];rw[hl]at h1 ⊢;rcases hw with rfl|rfl|rfl<;>simp only[Nat.reduceMul,Nat.reduceSub,Nat.reducePow]at h1 hge ⊢<;>split<;>omega
theorem aS2{b:Bs}{d e c a to9:Nat}{m:M}(hd:1<=d/\d<=32)(he:e<=b.length)(h:pD b e c a=some (m,to9)):DataOk d e c a to9 m:=by
 unfold pD at h;cases hw:gB c with
 | none=>rw[hw]at h;cases h
 | some w=>cases hk:dC c with
  | none=>rw[hw,hk]at h;cases h
  | some k =>
   rw[hw,hk]at h;simp only at h;have hT:=Hid.mk (aIo hw hk);have t16:=hT.get.2.2.2.2.2.2.2.2.2.2.2.2.2.2.2;obtain⟨g1,g2,g3⟩:=aS3 hw;split at h
   ·cases h
   rename_i hea;have hlen:(sub b a w).length=w:=gY (by omega);split at h
   ·rename_i hc;cases h;have hk2:k=14\/k=17:=hT.get.2.1.2 hc;have hw16:w=16:=by
     rcases hc with rfl|rfl
     ·unfold gB at hw;simp at hw;exact hw.symm
     ·unfold gB at hw;simp at hw;exact hw.symm
    refine⟨by omega,by omega,.inl ⟨iJ (mH (by omega) (by omega) (by omega) ?_ ?_ ?_ (by omega) (by omega) (by omega)),iG (by decide),?_⟩,k,hk,rfl,t16⟩
    ·have:kB (k:Int)=true:=by unfold kB;simp;omega
     simp[M.extra,M.k,M.n,M.t,M.l,M.e,this]
    ·rw[M.num_mk];rw[aD,aD,aD,aD,aD,aD,aD,aD]
    ·rw[M.txt_mk,aF,hlen,hw16];rfl
    ·rw[aB6,hlen,hw16];omega
   rename_i hc;split at h
   ·rename_i hc2;cases h;have hk1:=hT.get.2.2.2.2.1 hc2;subst hk1;refine⟨aQ _,by omega,.inr ⟨rfl,iJ (mH (by omega) (by omega) (by omega) (by decide) (by decide) (by decide) (by omega) (by omega) (by omega)),iG (by decide),by rw[aB6];decide,?_⟩,1,hk,rfl,by decide⟩;subst hc2;rfl
   rename_i hc2;split at h
   ·cases h
   rename_i hbad;cases h;have hw8:w<=8:=by
    rcases Nat.lt_or_ge 8 w with h8|h8
    ·have:=g2 (g3 h8);exact absurd this hc
    ·exact h8
   have hv:=aLf (b:=b) (a:=a) hw8;have hs:=aQ8 (b:=b) (a:=a) hw8;have hvl:=gP (sub b a w);rw[hlen]at hvl;obtain⟨n,hn⟩:∃n,n=if vP k=true then yS (sub b a w)else bO (sub b a w):=⟨_,rfl⟩;rw[<-hn];have hnf:n<18446744073709551616:=by rw[hn];split<;>assumption
   have hn0:w=0->n=0:=λh0=>by
    subst h0;have:sub b a 0=[]:=by unfold sub;simp
    rw[hn,this];split<;>rfl
   have hk18:(k<14\/k=15\/k=16\/k=21):=by
    have h17:=hT.get.1;have:¬(k=14\/k=17):=λh=>hc (hT.get.2.1.1 h);omega
   have hchk:M.check (33-d) (.mk k n [] 0 [])=0:=by
    refine iJ (mH (by omega) (by omega) (by omega) ?_ ?_ ?_ (by omega) (by omega) (by omega))
    ·rw[M.extra_mk];simp only[ne_eq,not_true_eq_false,decide_false,Bool.and_false,Bool.or_false,Bool.and_eq_false_imp];intro hnk;unfold vE at hnk;simp only[Bool.not_and,Bool.or_eq_true,bG,gC]at hnk;have:w=0:=by
      have hk0:k=0\/k=21:=by omega
      rcases hk0 with h0|h0
      ·exact hT.get.2.2.1 h0
      ·have hc45:c=0x45:=by have h17:=hT.get.1;omega
       subst hc45;unfold gB at hw;simp at hw;exact hw.symm
     simp[hn0 this]
    ·rw[M.num_mk];split
     ·rename_i h1;have h1:k=1:=ki (n:=1) h1;subst h1;rw[aD (by decide)]at hn;rcases hT.get.2.2.2.1 rfl with h5|h5|h5
      ·exact absurd h5 hc2
      ·have:=hn0 (hT.get.2.2.2.2.2.2.1 h5);simp[this]
      ·have:¬1<bO (sub b a w):=λh=>hbad (.inl ⟨h5,h⟩);simp;omega
     split
     ·rename_i _ h1;have h1:k=2:=ki (n:=2) h1;have hw1:=hT.get.2.2.2.2.2.2.2.1 h1;subst h1;subst hw1;rw[aD (by decide)]at hn;simp;omega
     split
     ·rename_i _ _ h1;have h1:k=3:=ki (n:=3) h1;have hw1:=hT.get.2.2.2.2.2.2.2.2.1 h1;subst h1;subst hw1;rw[aD (by decide)]at hn;simp;omega
     split
     ·rename_i _ _ _ h1;have h1:k=4\/k=10\/k=12:=by omega
      have hw1:=hT.get.2.2.2.2.2.2.2.2.2.1 h1;rw[aD (by unfold vP;simp;omega)]at hn;have:(256:Nat)^w<=256^4:=Nat.pow_le_pow_right (by decide) hw1;simp at this ⊢;omega
     split
     ·rename_i _ _ _ _ h1;have h1:k=6:=ki (n:=6) h1;have hw1:=hT.get.2.2.2.2.2.2.2.2.2.2.1 h1;subst h1;rw[aF (by decide)]at hn;rw[hn];exact aCl (n:=0) (.inl hw1) hlen (by omega) (by omega)
     split
     ·rename_i _ _ _ _ _ h1;have h1:k=7:=ki (n:=7) h1;have hw1:=hT.get.2.2.2.2.2.2.2.2.2.2.2.1 h1;subst h1;rw[aF (by decide)]at hn;rw[hn];exact aCl (n:=0) (.inr (.inl hw1)) hlen (by omega) (by omega)
     split
     ·rename_i _ _ _ _ _ _ h1;have h1:k=8:=ki (n:=8) h1;have hw1:=hT.get.2.2.2.2.2.2.2.2.2.2.2.2.1 h1;subst h1;rw[aF (by decide)]at hn;rw[hn];exact aCl (n:=0) (w:=w) (by omega) hlen (by omega) (by omega)
     split
     ·rename_i _ _ _ _ _ _ _ h1;have h1:k=15:=ki (n:=15) h1;have hc73:=hT.get.2.2.2.2.2.2.2.2.2.2.2.2.2.1 h1;subst h1;rw[aD (by decide)]at hn;have:¬nV (bO (sub b a w))=false:=λh=>hbad (.inr ⟨hc73,h⟩);rw[<-hn]at this;unfold nV at this;rw[Bool.not_eq_false]at this;exact this
     ·rfl
    ·rw[M.txt_mk,aD,aD,aD]
   have hkind:∃j,dC c=some j/\M.k (.mk k n [] 0 [])=(j:Int)/\j≠24:=⟨k,hk,rfl,t16⟩;by_cases h0:w=0
   ·subst h0;exact⟨by omega,by omega,.inr ⟨by omega,hchk,iG hnf,by rw[aB6];decide,hw⟩,hkind⟩
   ·exact⟨by omega,by omega,.inl ⟨hchk,iG hnf,by rw[aB6];simp;omega⟩,hkind⟩
theorem aI9{c k:Nat}(h:fL c=true)(hk:dC c=some k):k=18\/k=19\/k=20:=by
 have key:∀c:Fin 256,fL c.val=true->(dC c.val).all (λk=>decide (k=18\/k=19\/k=20))=true:=by decide +kernel
 have:=key ⟨c,(aD9 hk).2⟩ h;rw[hk]at this;simpa using this
theorem aGa{c:Nat}(h:eE c=true):dC c=some (if c=0xc1\/c=0xd1 then 22 else 21):=by
 unfold eE at h;simp only[Bool.or_eq_true,bA]at h;rcases h with((h|h)|h)|h<;>subst h<;>rfl
theorem aT6{c:Nat}(h:gA c=true):dC c=some 23:=by
 unfold gA at h;simp only[Bool.or_eq_true,bA]at h;rcases h with h|h<;>subst h<;>rfl
theorem tZ(c:Nat):1<=bE c:=by unfold bE;split<;>omega
theorem aQ3{b:Bs}{d e c a to9:Nat}{m:M}(hd:1<=d/\d<=32)(he:e<=b.length)(hc:fL c=true)(h:vN b e c a=some (m,to9)):DataOk d e c a to9 m:=by
 unfold vN at h;have hw:=tZ c;split at h
 ·cases h
 split at h
 ·cases h
 rename_i h1 h2;cases hk:dC c with
 | none=>rw[hk]at h;cases h
 | some k =>
  rw[hk]at h;simp only at h;split at h
  ·rename_i h3;cases h;have hk2:=aI9 hc hk;obtain⟨t,ht⟩:∃t,t=sub b (a+bE c) (bO (sub b a (bE c))):=⟨_,rfl⟩;have htl:t.length=bO (sub b a (bE c)):=by rw[ht];exact gY (by omega)
   rw[<-ht]at h3 ⊢;refine⟨by omega,by omega,.inl ⟨iJ (mH (by omega) (by omega) (by omega) ?_ ?_ ?_ (by omega) (by omega) (by omega)),iG (by decide),?_⟩,k,hk,rfl,by omega⟩
   ·have:kB (k:Int)=true:=by unfold kB;simp;omega
    simp[M.extra,M.k,M.n,M.t,M.l,M.e,this]
   ·rw[M.num_mk];rw[aD,aD,aD,aD,aD,aD,aD,aD]
   ·rw[M.txt_mk,aD];unfold aCc at h3;rcases hk2 with rfl|rfl|rfl
    ·rfl
    ·exact h3
    ·exact h3
   ·rw[aB6];omega
  ·cases h
theorem aEf{d a to9:Nat}{k:Int}{e:Int}{l:List M}(hd:1<=d/\d<=32)(hc:∀x∈l,x.check (33-d+1)=0)(hf:∀x∈l,x.fits)(hw:(l.map M.wt).sum+1<=to9-a)(hk:k=21\/k=22\/k=23\/k=24)(he:k≠23->e=0)(hm:k=22->jE l=true)(ha:k=23->gF e l=true)(hp:k=24->l.length=2) :
 GoodC d a to9 (.mk k 0 [] e l):=by
 refine⟨?_,.mk (by decide) hf,by rw[M.wt_mk];simp;omega⟩;rw[M.check_iff];refine⟨mH (by omega) (by omega) (by omega) ?_ ?_ ?_ hm ha hp,λx hx=>hc x hx⟩
 ·have:kT k=true:=by unfold kT;simp;omega
  rw[M.extra_mk];by_cases h23:k=23
  ·rw[this];simp[h23]
  ·simp[this,he h23]
 ·rw[M.num_mk];rw[aD,aD,aD,aD,aD,aD,aD,aD]
 ·rw[M.txt_mk];rw[aD,aD,aD]
def wS(rd:Nat->Nat->Option (M × Nat))(b:Bs)(d:Nat):Prop:=∀e a m to9,e<=b.length->rd e a=some (m,to9)->a<to9/\to9<=e/\GoodC d a to9 m
def wT(dt:Nat->Nat->Nat->Option (M × Nat))(b:Bs)(d:Nat):Prop:=∀e c a m to9,e<=b.length->dt e c a=some (m,to9)->DataOk d e c a to9 m
theorem aXl{rd:Nat->Nat->Option (M × Nat)}{b:Bs}{d e c a to9:Nat}{m:M}(hd:d+1<=32)(he:e<=b.length)(hR:wS rd b d)(hc:eE c=true)(h:nJ rd b e c a=some (m,to9)):DataOk (d+1) e c a to9 m:=by
 unfold nJ at h;have hw:=tZ c;cases hs:iQ b e a (bE c) (bE c)with
 | none=>rw[hs]at h;cases h
 | some q =>
  rw[hs]at h;simp only at h;obtain⟨s1,s2⟩:=wY hs;split at h
  ·cases h
  rename_i hcnt;cases hm:fA (rd q) (bO (sub b (a+bE c) (bE c))) (a+bE c+bE c) []with
  | none=>rw[hm]at h;cases h
  | some p =>
   obtain⟨l,a2⟩:=p;rw[hm]at h;simp only at h;split at h
   ·cases h
   rename_i hend;cases h;obtain⟨l',e1,e2,e3,e4,e5,e6⟩:=lK (rd:=rd q) (P:=λx=>x.check (33-d)=0/\x.fits) (q:=q) (λa' m' to' ha hr=>by
    obtain⟨g1,g2,g3⟩:=hR q a' m' to' (by omega) hr;exact⟨g1,g2,⟨g3.chk,g3.fit⟩,g3.wt⟩) _ _ _ _ _ (by omega) hm
   rw[aX]at e1;subst e1;have hk:=aGa hc;refine⟨by omega,by omega,.inl (aEf (by omega) (λx hx=>?_) (λx hx=>(e3 x hx).2) (by omega) ?_ (λh=>?_) (λh22=>?_) (λh23=>?_) λh24=>?_),_,hk,?_,?_⟩
   ·rw[show 33-(d+1)+1=33-d by omega];exact(e3 x hx).1
   ·split<;>omega
   ·rfl
   ·have hc2:c=0xc1\/c=0xd1:=by
     rcases Decidable.em (c=0xc1\/c=0xd1)with h|h
     ·exact h
     ·rw[aD h]at h22;omega
    have h1:¬(l.length%2≠0\/1024<l.length / 2):=λh=>hcnt ⟨hc2,by rw[<-e2];exact h⟩;have h2:(fS l).Nodup:=Decidable.byContradiction λh=>hend (.inr ⟨hc2,h⟩);unfold jE;simp only[bH,bA];exact⟨⟨by omega,by omega⟩,h2⟩
   ·split at h23<;>omega
   ·split at h24<;>omega
   ·split<;>rfl
   ·split<;>omega
theorem aYl{dt:Nat->Nat->Nat->Option (M × Nat)}{b:Bs}{d e c a to9:Nat}{m:M}(hd:d+1<=32)(he:e<=b.length)(hD:wT dt b d)(hc:gA c=true)(h:sR dt b e c a=some (m,to9)):DataOk (d+1) e c a to9 m:=by
 unfold sR at h;have hw:=tZ c;cases hs:iQ b e a (bE c) (bE c+1)with
 | none=>rw[hs]at h;cases h
 | some q =>
  rw[hs]at h;simp only at h;obtain⟨s1,s2⟩:=wY hs;obtain⟨c2,hc2⟩:∃c2,c2=bL b (a+bE c+bE c):=⟨_,rfl⟩;rw[<-hc2]at h;cases hk:dC c2 with
  | none=>rw[hk]at h;cases h
  | some k =>
   rw[hk]at h;simp only at h;split at h
   ·cases h
   rename_i hbad;have hb1:k≠24:=λh=>hbad (.inl h);have hb2:gB c2≠some 0:=λh=>hbad (.inr h);cases hm:fA (dt q c2) (bO (sub b (a+bE c) (bE c))) (a+bE c+bE c+1) []with
   | none=>rw[hm]at h;cases h
   | some p =>
    obtain⟨l,a2⟩:=p;rw[hm]at h;simp only at h;split at h
    ·cases h
    rename_i hend;cases h;obtain⟨l',e1,e2,e3,e4,e5,e6⟩:=lK (rd:=dt q c2) (P:=λx=>x.check (33-d)=0/\x.fits/\x.k=(k:Int)) (q:=q) (λa' m' to' ha hr=>by
     have D:=hD q c2 a' m' to' (by omega) hr;obtain⟨j,hj1,hj2,_⟩:=D.kind;rw[hk]at hj1;cases hj1;rcases D.good with g|⟨_,_,_,_,g⟩
     ·have:1<=m'.wt:=by cases m';rw[M.wt_mk];omega
      exact⟨by have:=g.wt;omega,D.ge,⟨g.chk,g.fit,hj2⟩,g.wt⟩
     ·exact absurd g hb2) _ _ _ _ _ (by omega) hm
    rw[aX]at e1;subst e1;have hk2:=aD9 hk;refine⟨by omega,by omega,.inl (aEf (by omega) (λx hx=>?_) (λx hx=>(e3 x hx).2.1) (by omega) (by omega) (λh=>by omega) (λh=>by omega) (λh23=>?_) λh=>by omega),23,aT6 hc,rfl,by decide⟩
    ·rw[show 33-(d+1)+1=33-d by omega];exact(e3 x hx).1
    ·have hk0:k≠0:=by
      rintro rfl;have key:∀c:Fin 256,dC c.val=some 0->gB c.val=some 0:=by decide +kernel
      exact hb2 (key ⟨c2,hk2.2⟩ hk)
     unfold gF;simp only[bH,bA,List.all_eq_true];exact⟨⟨by omega,by omega⟩,λx hx=>(e3 x hx).2.2⟩
theorem aXw{rd:Nat->Nat->Option (M × Nat)}{dt:Nat->Nat->Nat->Option (M × Nat)}{b:Bs}{d:Nat}(hd:d+1<=32)(hR:wS rd b d)(hD:wT dt b d):wT (λe c a=>vR rd dt b e c a) b (d+1):=by
 intro e c a m to9 he h;simp only[vR]at h;split at h
 ·rename_i hc;exact aQ3 (by omega) he hc h
 split at h
 ·rename_i hc;exact aXl hd he hR hc h
 split at h
 ·rename_i hc;exact aYl hd he hD hc h
 ·exact aS2 (by omega) he h
theorem aXf{rd:Nat->Nat->Option (M × Nat)}{dtd:Nat->Nat->Nat->Option (M × Nat)}{b:Bs}{d:Nat}(hd:d+1<=32)(hR:wS rd b d)(hD:wT dtd b (d+1)):wS (λe a=>aLx rd dtd b e a) b (d+1):=by
 intro e a m to9 he h;simp only[aLx]at h;split at h
 ·cases h
 rename_i hea;cases hk:dC (bL b a)with
 | none=>rw[hk]at h;cases h
 | some k =>
  rw[hk]at h;simp only at h;split at h
  ·cases h1:rd e (a+1)with
   | none=>rw[h1]at h;cases h
   | some p1 =>
    obtain⟨x,a1⟩:=p1;rw[h1]at h;simp only at h;cases h2:rd e a1 with
    | none=>rw[h2]at h;cases h
    | some p2 =>
     obtain⟨y,a2⟩:=p2;rw[h2]at h;cases h;obtain⟨x1,x2,x3⟩:=hR e _ _ _ he h1;obtain⟨y1,y2,y3⟩:=hR e _ _ _ he h2;have hx:=x3.wt;have hy:=y3.wt;refine⟨by omega,y2,aEf (by omega) (λz hz=>?_) (λz hz=>?_) (by simp;omega) (by omega) (λh=>rfl) (λh=>by omega) (λh=>by omega) λh=>rfl⟩
     ·rw[show 33-(d+1)+1=33-d by omega];simp only[List.mem_cons,List.not_mem_nil,or_false]at hz;rcases hz with rfl|rfl
      ·exact x3.chk
      ·exact y3.chk
     ·simp only[List.mem_cons,List.not_mem_nil,or_false]at hz;rcases hz with rfl|rfl
      ·exact x3.fit
      ·exact y3.fit
  ·have D:=hD e _ _ _ _ he h;have hle:=D.le;have hge:=D.ge;refine⟨by omega,hge,?_⟩;rcases D.good with g|⟨g1,g2,g3,g4,_⟩
   ·exact⟨g.chk,g.fit,by have:=g.wt;omega⟩
   ·exact⟨g2,g3,by omega⟩
theorem lQ(b:Bs):∀d,d<=32->wS (uC b d) b d/\wT (wO b d) b d
 | 0,_=>⟨λe a m to9 _ h=>(nomatch h),λe c a m to9 _ h=>(nomatch h)⟩
 | d+1,h=>by
  obtain⟨h1,h2⟩:=lQ b d (by omega);have hD:=aXw (rd:=uC b d) (dt:=wO b d) h h1 h2;exact⟨aXf (rd:=uC b d) (dtd:=wO b (d+1)) h h1 hD,hD⟩
theorem nR{b:Bs}{a to9:Nat}{m:M}(h:oC b a=some (m,to9)):m.check 1=0/\m.fits/\m.wt<=1048576/\a<to9/\to9<=b.length/\to9-a<=1048576:=by
 unfold oC at h;cases hr:uC b 32 b.length a with
 | none=>rw[hr]at h;cases h
 | some p =>
  obtain⟨m',to'⟩:=p;rw[hr]at h;simp only at h;split at h
  ·cases h
  ·cases h;obtain⟨h1,h2,h3⟩:=(lQ b 32 (aQ _)).1 _ _ _ _ (aQ _) hr;exact⟨h3.chk,h3.fit,by have:=h3.wt;omega,h1,h2,by omega⟩
theorem aWr{p:Prop}[Decidable p]{a b n:Nat}(ha:a<n)(hb:b<n):(if p then a else b)<n:=by split<;>assumption
theorem qB(k:Int)(s:Bool):cC k s<256:=by
 unfold cC;cases s<;>simp only[Bool.false_eq_true,if_false,if_true]<;>(repeat' apply aWr)<;>decide
theorem aO2(c:Nat):fJ c<=16:=by
 unfold fJ
 repeat' split
 all_goals omega
theorem aHb(c n:Nat)(t:Bs)(len:Nat)(bh:Bs):(dZ c n t len bh).length<=16+t.length+bh.length:=by
 unfold dZ;have hw:bE c<=4:=by unfold bE;split<;>omega
 have hx:=aO2 c;split
 ·omega
 split
 ·rw[aG,eL];omega
 split
 ·rw[aG,aG,eL,eL];omega
 ·rw[eL];omega
theorem aQt{α β:Type}(f:M->α)(g:M × α->List β)(l:List M):(l.zip (l.map f)).flatMap g=l.flatMap λx=>g (x,f x):=by
 induction l with
 | nil=>rfl
 | cons x l ih=>simp[ih]
theorem uA(e:Int)(l:List M):aQ1 e l (l.map eG)=UInt8.ofNat (cC e (kN e l (l.map eG)))::l.flatMap λx=>dZ (cC e (kN e l (l.map eG))) x.n x.t x.l.length (eG x):=by
 unfold aQ1;rw[aQt]
theorem aOe{f:M->Bs}{l:List M}(h:∀x∈l,(f x).length<=20*x.sz):(l.flatMap f).length<=20*(l.map M.sz).sum:=by
 induction l with
 | nil=>simp
 | cons x l ih =>
  have h1:=h x (by simp);have h2:=ih λy hy=>h y (by simp[hy]);simp only[bU,aG,List.map_cons,List.sum_cons]at h2 ⊢;omega
theorem aIs:∀m:M,(gV m).length<=20*m.sz/\(eG m).length+19+20*m.t.length<=20*m.sz:=by
 refine M.ind λk n t e l ih=>?_;have h1:=aOe (f:=gV) λx hx=>(ih x hx).1;have h2:∀c,(l.flatMap λx=>dZ c x.n x.t x.l.length (eG x)).length<=20*(l.map M.sz).sum:=λc=>aOe λx hx=>by
  have h1:=(ih x hx).2;have h3:=aHb c x.n x.t x.l.length (eG x);omega
 have h3:(eG (.mk k n t e l)).length+19+20*t.length<=20*M.sz (.mk k n t e l):=by
  rw[oK,M.sz_mk];unfold aEc;split
  ·rw[uA,aI];have:=h2 (cC e (kN e l (l.map eG)));omega
  ·omega
 refine⟨?_,h3⟩;rw[aB0];rw[oK,M.sz_mk]at h3;rw[M.sz_mk];have hd:=λc bh=>aHb c n t l.length bh;unfold aG1;split
 ·simp;omega
 split
 ·simp;omega
 split
 ·simp;omega
 split
 ·simp;omega
 split
 ·simp;omega
 split
 ·simp;omega
 split
 ·rw[aI];omega
 split
 ·rw[aI];have:=hd (cC k (jO l.length (aEc k e l (l.flatMap gV) (l.map eG)))) (aEc k e l (l.flatMap gV) (l.map eG));omega
 ·rw[aI];have:=hd (cC k (fH k n t)) [];simp only[bN]at this;omega
structure Gq(m:M):Prop where
 chk:∃d,m.check d=0
 fit:m.fits
 sz:m.sz<=67108864
structure Fx(k:Int)(n:Nat)(t:Bs)(e:Int)(l:List M):Prop where
 k0:0<=k
 k1:k<25
 num0:¬(1<=k/\k<=16/\k≠14)->n=0
 txt0:¬(k=14\/17<=k/\k<=20)->t=[]
 row0:k<21->l=[]
 el0:k≠23->e=0
 n1:k=1->n<=1
 n2:k=2->n<=255
 n3:k=3->n<=65535
 n4:k=4\/k=10\/k=12\/k=15->n<=4294967295
 n6:k=6->sgn n 8=true
 n7:k=7->sgn n 16=true
 n8:k=8->sgn n 32=true
 n64:n<18446744073709551616
 t16:k=14\/k=17->t.length=16
 arr:k=23->0<e/\e<24/\∀x∈l,x.k=e
 two:k=24->l.length=2
 all:∀x∈l,Gq x
 tsz:t.length<=67108864
 lsz:l.length<=67108864
theorem aWe{l:List M}{x:M}(h:x∈l):x.sz<=(l.map M.sz).sum:=by
 induction l with
 | nil=>cases h
 | cons y l ih =>
  simp only[List.map_cons,List.sum_cons];rcases List.mem_cons.1 h with rfl|h
  ·omega
  ·have:=ih h;omega
theorem aWf(l:List M):l.length<=(l.map M.sz).sum:=by
 induction l with
 | nil=>simp
 | cons x l ih =>
  have:1<=x.sz:=by cases x;rw[M.sz_mk];omega
  simp only[aI,List.map_cons,List.sum_cons];omega
theorem Gq.fx{k:Int}{n:Nat}{t:Bs}{e:Int}{l:List M}(h:Gq (.mk k n t e l)):Fx k n t e l:=by
 obtain⟨⟨d,hc⟩,hf,hz⟩:=h;rw[M.check_iff]at hc;obtain⟨h1,h2⟩:=hc;obtain⟨k0,k1,hdep,hex,hnum,htx,hmap,harr,hdes⟩:=zB h1;have k0:0<=k:=k0;have k1:k<25:=k1;have harr:k=23->gF e l=true:=harr;have hdes:k=24->l.length=2:=hdes;have h2:∀x∈l,M.check (d+1) x=0:=h2;rw[M.extra_mk]at hex;simp only[vE,kB,kT,Bool.or_eq_false_iff,Bool.and_eq_false_iff,bF,bH,bA,gC,Decidable.not_not,ne_eq,Bool.or_eq_true]at hex;obtain⟨⟨⟨x1,x2⟩,x3⟩,x4⟩:=hex;rw[M.num_mk]at hnum;rw[M.txt_mk]at htx;rw[M.sz_mk]at hz;cases hf with
 | mk hn64 hfl =>
 have hl:=aWf l;refine⟨k0,k1,λh=>?_,λh=>?_,λh=>?_,λh=>?_,λh=>?_,λh=>?_,λh=>?_,λh=>?_,λh=>?_,λh=>?_,λh=>?_,hn64,λh=>?_,λh=>?_,hdes,λx hx=>⟨⟨_,h2 x hx⟩,hfl x hx,by have:=aWe hx;omega⟩,by omega,by omega⟩
 ·rcases x1 with x1|x1
  ·exact absurd ⟨x1.1.1,x1.1.2,x1.2⟩ h
  ·exact x1
 ·rcases x2 with x2|x2
  ·exact absurd (x2.imp id λy=>⟨y.1,y.2⟩) h
  ·exact x2
 ·rcases x3 with x3|x3
  ·omega
  ·exact x3
 ·rcases x4 with x4|x4
  ·exact absurd x4 h
  ·exact x4
 ·rw[aF h]at hnum;simpa using hnum
 ·rw[aD,aF h]at hnum;simpa using hnum
 ·rw[aD,aD,aF h]at hnum;simpa using hnum
 ·by_cases h15:k=15
  ·rw[aD,aD,aD,aD,aD,aD,aD,aF h15]at hnum;simp only[bH,bA]at hnum;omega
  ·rw[aD,aD,aD,aF]at hnum;simpa using hnum
 ·rw[aD,aD,aD,aD,aF h]at hnum;exact hnum
 ·rw[aD,aD,aD,aD,aD,aF h]at hnum;exact hnum
 ·rw[aD,aD,aD,aD,aD,aD,aF h]at hnum;exact hnum
 ·rw[aF h]at htx;simpa using htx
 ·have:=harr h;unfold gF at this;simp only[bH,bA,List.all_eq_true]at this;exact⟨this.1.1,this.1.2,this.2⟩
structure Fit(c:Nat)(k:Int)(n:Nat)(t:Bs)(len:Nat)(bh:Bs):Prop where
 kind:∃s,c=cC k s
 rng:1<=k/\k<24
 one:c=0x52\/c=0x53->n<=255
 sgn:c=0x54\/c=0x55->sgn n 8=true
 txt:c=0xa0\/c=0xa1\/c=0xa3->t.length<=255
 row:c=0xc0\/c=0xc1\/c=0xe0->len<=255/\1+bh.length<=255
theorem nS{k:Int}(h:1<=k/\k<24)(s:Bool):dC (cC k s)=some k.toNat/\0x50<=cC k s:=by
 obtain⟨j,rfl⟩:∃j:Nat,k=(j:Int):=⟨k.toNat,by omega⟩;have key:∀(j:Fin 24) (s:Bool),1<=j.val->dC (cC (j.val:Int) s)=some j.val/\0x50<=cC (j.val:Int) s:=by decide +kernel
 have:=key ⟨j,by omega⟩ s (by show 1<=j;omega);simpa using this
theorem aOg{k:Int}{n:Nat}{t:Bs}{len:Nat}{bh:Bs}(hk:1<=k/\k<24)(s:Bool)(hs:s=true->fH k n t=true)(h3:¬(k=21\/k=22\/k=23)):Fit (cC k s) k n t len bh:=by
 obtain⟨h1,h2⟩:=nS hk s;have e:∀c,cC k s=c->dC c=some k.toNat:=λc hc=>by rw[<-hc];exact h1
 have kk:∀c j,cC k s=c->dC c=some j->k=(j:Int):=λc j hc hj=>by
  have:=e c hc;rw[hj]at this;have:=bC this;omega
 have hsm:∀c,cC k s=c->(c=0x52\/c=0x53\/c=0x54\/c=0x55\/c=0xa0\/c=0xa1\/c=0xa3)->s=true:=λc hc hcc=>by
  cases s with
  | true=>rfl
  | false =>
   have key:∀j:Fin 24,let c:=cC (j.val:Int) false;¬(c=0x52\/c=0x53\/c=0x54\/c=0x55\/c=0xa0\/c=0xa1\/c=0xa3):=by decide +kernel
   have:=key ⟨k.toNat,by omega⟩;rw[show((⟨k.toNat,by omega⟩:Fin 24).val:Int)=k by show((k.toNat:Nat):Int)=k;omega]at this;rw[<-hc]at hcc;exact absurd hcc this
 refine⟨⟨s,rfl⟩,hk,λh=>?_,λh=>?_,λh=>?_,λh=>?_⟩
 ·have hn:=hs (hsm _ rfl (by omega));unfold fH at hn;rcases h with h|h
  ·rw[aF (.inl (kk _ 4 h rfl))]at hn;simpa using hn
  ·rw[aF (.inr (kk _ 5 h rfl))]at hn;simpa using hn
 ·have hn:=hs (hsm _ rfl (by omega));unfold fH at hn;rcases h with h|h
  ·have:=kk _ 8 h rfl;rw[aD,aF (.inl this)]at hn;exact hn
  ·have:=kk _ 9 h rfl;rw[aD,aF (.inr this)]at hn;exact hn
 ·have hn:=hs (hsm _ rfl (by omega));unfold fH at hn;have hk3:k=18\/k=19\/k=20:=by
   rcases h with h|h|h
   ·exact .inl (kk _ 18 h rfl)
   ·exact .inr (.inl (kk _ 19 h rfl))
   ·exact .inr (.inr (kk _ 20 h rfl))
  rw[aD,aD,aF hk3]at hn;simpa using hn
 ·rcases h with h|h|h
  ·exact absurd (.inl (kk _ 21 h rfl)) h3
  ·exact absurd (.inr (.inl (kk _ 22 h rfl))) h3
  ·exact absurd (.inr (.inr (kk _ 23 h rfl))) h3
theorem aOf{k:Int}{n:Nat}{t:Bs}{len:Nat}{bh:Bs}(hk:k=21\/k=22\/k=23)(s:Bool)(hs:s=true->jO len bh=true):Fit (cC k s) k n t len bh:=by
 refine⟨⟨s,rfl⟩,by omega,λh=>?_,λh=>?_,λh=>?_,λh=>?_⟩
 ·rcases hk with rfl|rfl|rfl<;>cases s<;>simp[cC]at h
 ·rcases hk with rfl|rfl|rfl<;>cases s<;>simp[cC]at h
 ·rcases hk with rfl|rfl|rfl<;>cases s<;>simp[cC]at h
 ·have:s=true:=by
   cases s with
   | true=>rfl
   | false=>rcases hk with rfl|rfl|rfl<;>simp[cC]at h
  have:=hs this;unfold jO at this;simp only[bH,bA]at this;omega
theorem aG6{k:Int}{n:Nat}{t:Bs}{e:Int}{l:List M}(h:Fx k n t e l) :
 (k=24/\gV (.mk k n t e l)=0::l.flatMap gV) \/
 (∃c:Nat,(c=0x40/\k=0\/c=0x41/\k=1/\n=1\/c=0x42/\k=1/\n=0\/c=0x43/\k=4/\n=0\/c=0x44/\k=5/\n=0\/c=0x45/\k=21/\l=[])/\gV (.mk k n t e l)=[UInt8.ofNat c]) \/
 (∃c:Nat,Fit c k n t l.length (eG (.mk k n t e l))/\gV (.mk k n t e l)=UInt8.ofNat c::dZ c n t l.length (eG (.mk k n t e l))):=by
 rw[aB0,oK];unfold aG1;have n1:=h.n1;split
 ·rename_i h0;exact .inr (.inl ⟨_,.inl ⟨rfl,h0⟩,rfl⟩)
 split
 ·rename_i h0;exact .inr (.inl ⟨_,.inr (.inl ⟨rfl,h0⟩),rfl⟩)
 split
 ·rename_i h0 h1;exact .inr (.inl ⟨_,.inr (.inr (.inl ⟨rfl,h1,by have:=n1 h1;omega⟩)),rfl⟩)
 split
 ·rename_i h0;exact .inr (.inl ⟨_,.inr (.inr (.inr (.inl ⟨rfl,h0⟩))),rfl⟩)
 split
 ·rename_i h0;exact .inr (.inl ⟨_,.inr (.inr (.inr (.inr (.inl ⟨rfl,h0⟩)))),rfl⟩)
 split
 ·rename_i h0;exact .inr (.inl ⟨_,.inr (.inr (.inr (.inr (.inr ⟨rfl,h0.1,List.length_eq_zero_iff.1 h0.2⟩)))),rfl⟩)
 split
 ·rename_i h0;exact .inl ⟨h0,rfl⟩
 have k0:=h.k0;have k1:=h.k1;split
 ·rename_i h0;exact .inr (.inr ⟨_,aOf h0 _ λh=>h,rfl⟩)
 ·rename_i h0 h1 h2 h3 h4 h5 h6 h7;refine .inr (.inr ⟨_,aOg ⟨by omega,by omega⟩ _ (λh=>h) h7,?_⟩);have:∀bh,dZ (cC k (fH k n t)) n t l.length []=dZ (cC k (fH k n t)) n t l.length bh:=λbh=>by
   have key:∀(j:Fin 24) (s:Bool),¬(j.val=21\/j.val=22\/j.val=23)->1<=j.val->¬(eE (cC (j.val:Int) s)=true\/gA (cC (j.val:Int) s)=true):=by decide +kernel
   have:=key ⟨k.toNat,by omega⟩ (fH k n t) (by show¬(k.toNat=21\/k.toNat=22\/k.toNat=23);omega) (by show 1<=k.toNat;omega);rw[show((⟨k.toNat,by omega⟩:Fin 24).val:Int)=k by show((k.toNat:Nat):Int)=k;omega]at this;unfold dZ;rw[aD this,aD this]
  rw[this]
theorem aI0{w n n':Nat}{r s:Bs}(h:be w n++r=be w n'++s):n%256^w=n'%256^w/\r=s:=by
 obtain⟨h1,h2⟩:=List.append_inj h (by rw[eL,eL]);refine⟨?_,h2⟩;rw[<-aIy,<-aIy,h1]
theorem aTl(j:Fin 24)(s:Bool)(h:1<=j.val) :
 ((j.val=14\/j.val=17)↔(cC (j.val:Int) s=0x94\/cC (j.val:Int) s=0x98))/\((18<=j.val/\j.val<=20)↔fL (cC (j.val:Int) s)=true)/\((21<=j.val)↔(eE (cC (j.val:Int) s)=true\/gA (cC (j.val:Int) s)=true)):=by
 have key:∀(j:Fin 24) (s:Bool),1<=j.val ->
  ((j.val=14\/j.val=17)↔(cC (j.val:Int) s=0x94\/cC (j.val:Int) s=0x98))/\((18<=j.val/\j.val<=20)↔fL (cC (j.val:Int) s)=true)/\((21<=j.val)↔(eE (cC (j.val:Int) s)=true\/gA (cC (j.val:Int) s)=true)):=by decide +kernel
 exact key j s h
def aIe(j:Nat)(c:Nat):Bool :=
 if j=1\/j=2\/j=6 then decide (fJ c=1)else if j=3\/j=7 then decide (fJ c=2)else if j=4 then decide (c=0x52/\fJ c=1\/fJ c=4)else if j=5 then decide (c=0x53/\fJ c=1\/fJ c=8)
 else if j=8 then decide (c=0x54/\fJ c=1\/fJ c=4)else if j=9 then decide (c=0x55/\fJ c=1\/fJ c=8)else if j=10\/j=12\/j=15 then decide (fJ c=4)else if j=11\/j=13\/j=16 then decide (fJ c=8)else true
theorem aUv(j:Fin 24)(s:Bool):1<=j.val->aIe j.val (cC (j.val:Int) s)=true:=by
 have key:∀(j:Fin 24) (s:Bool),1<=j.val->aIe j.val (cC (j.val:Int) s)=true:=by decide +kernel
 exact key j s
theorem aUw{k:Int}{n n':Nat}{t t':Bs}{e e':Int}{l l':List M}{c len len':Nat}{bh bh':Bs}(hx:Fx k n t e l)(hy:Fx k n' t' e' l')(fx:Fit c k n t len bh)(fy:Fit c k n' t' len' bh')(hk:k<=16/\k≠14)(h:n%256^fJ c=n'%256^fJ c):n=n':=by
 obtain⟨s,hs⟩:=fx.kind;have hr:=fx.rng;have T:=aUv ⟨k.toNat,by omega⟩ s (by show 1<=k.toNat;omega);rw[show((⟨k.toNat,by omega⟩:Fin 24).val:Int)=k by show((k.toNat:Nat):Int)=k;omega,<-hs]at T;have T:aIe k.toNat c=true:=T;have a1:=hx.n1;have a2:=hx.n2;have a3:=hx.n3;have a4:=hx.n4;have a6:=hx.n6;have a7:=hx.n7;have a8:=hx.n8;have a64:=hx.n64;have ao:=fx.one;have as9:=fx.sgn;have b1:=hy.n1;have b2:=hy.n2;have b3:=hy.n3;have b4:=hy.n4;have b6:=hy.n6;have b7:=hy.n7;have b8:=hy.n8;have b64:=hy.n64;have bo:=fy.one;have bs:=fy.sgn;clear hx hy fx fy hs;unfold aIe at T;unfold sgn at a6 a7 a8 as9 b6 b7 b8 bs;simp only[Bool.or_eq_true,bA,Nat.reduceSub,Nat.reducePow]at a6 a7 a8 as9 b6 b7 b8 bs;split at T
 ·rename_i hk1;have w:=aB T;rw[w]at h;clear as9 bs ao bo a7 a8 b7 b8 a3 b3 a4 b4;omega
 split at T
 ·rename_i _ hk1;have w:=aB T;rw[w]at h;clear as9 bs ao bo a6 a8 b6 b8 a2 b2 a4 b4;omega
 split at T
 ·rename_i _ _ hk1;have w:=aB T;clear as9 bs a6 a7 a8 b6 b7 b8 a1 b1 a2 b2 a3 b3;rcases w with⟨w1,w⟩|w<;>rw[w]at h<;>omega
 split at T
 ·rename_i _ _ _ hk1;have w:=aB T;clear as9 bs a6 a7 a8 b6 b7 b8 a1 b1 a2 b2 a3 b3 a4 b4;rcases w with⟨w1,w⟩|w<;>rw[w]at h<;>omega
 split at T
 ·rename_i _ _ _ _ hk1;have w:=aB T;clear ao bo a6 a7 b6 b7 a1 b1 a2 b2 a3 b3 a4 b4;rcases w with⟨w1,w⟩|w<;>rw[w]at h<;>omega
 split at T
 ·rename_i _ _ _ _ _ hk1;have w:=aB T;clear ao bo a6 a7 a8 b6 b7 b8 a1 b1 a2 b2 a3 b3 a4 b4;rcases w with⟨w1,w⟩|w<;>rw[w]at h<;>omega
 split at T
 ·have w:=aB T;rw[w]at h;clear as9 bs ao bo a6 a7 a8 b6 b7 b8 a1 b1 a2 b2 a3 b3;omega
 split at T
 ·have w:=aB T;rw[w]at h;clear as9 bs ao bo a6 a7 a8 b6 b7 b8 a1 b1 a2 b2 a3 b3 a4 b4;omega
 ·rename_i q1 q2 q3 q4 q5 q6 q7 q8;exfalso;clear as9 bs ao bo a6 a7 a8 b6 b7 b8 a1 b1 a2 b2 a3 b3 a4 b4 h;omega
theorem aTh{k:Int}{n n':Nat}{t t':Bs}{e e':Int}{l l':List M}{c:Nat}{bh bh' r s:Bs}(hx:Fx k n t e l)(hy:Fx k n' t' e' l')(fx:Fit c k n t l.length bh)(fy:Fit c k n' t' l'.length bh')(hb:bh.length<=2^31)(hb':bh'.length<=2^31)
 (h:dZ c n t l.length bh++r=dZ c n' t' l'.length bh'++s):n=n'/\t=t'/\(k<21->r=s)/\(21<=k->l.length=l'.length/\bh++r=bh'++s):=by
 obtain⟨sm,hs⟩:=fx.kind;have hr:=fx.rng;obtain⟨T1,T2,T3⟩:=aTl ⟨k.toNat,by omega⟩ sm (by show 1<=k.toNat;omega);rw[show((⟨k.toNat,by omega⟩:Fin 24).val:Int)=k by show((k.toNat:Nat):Int)=k;omega,<-hs]at T1 T2 T3;have T1:(k.toNat=14\/k.toNat=17)↔(c=0x94\/c=0x98):=T1;have T2:(18<=k.toNat/\k.toNat<=20)↔fL c=true:=T2;have T3:(21<=k.toNat)↔(eE c=true\/gA c=true):=T3;have hw:bE c=1\/bE c=4:=by unfold bE;split<;>simp
 have hw1:bE c=1->(c=0xa0\/c=0xa1\/c=0xa3\/c=0xc0\/c=0xc1\/c=0xe0):=λh=>by
  unfold bE at h;split at h
  ·assumption
  ·cases h
 have tx:=hx.tsz;have ty:=hy.tsz;have lx:=hx.lsz;have ly:=hy.lsz;unfold dZ at h;split at h
 ·rename_i hc;have hk:=T1.2 hc;have h1:=hx.t16 (by omega);have h2:=hy.t16 (by omega);obtain⟨g1,g2⟩:=List.append_inj h (by rw[h1,h2]);have n1:=hx.num0 (by omega);have n2:=hy.num0 (by omega);exact⟨by rw[n1,n2],g1,λ_=>g2,λhk2=>by omega⟩
 rename_i hc1;have hk1:¬(k.toNat=14\/k.toNat=17):=λh=>hc1 (T1.1 h);split at h
 ·rename_i hc;have hk:=T2.2 hc;rw[aP,aP]at h;obtain⟨g1,g2⟩:=aI0 h;have hlen:t.length=t'.length:=by
   rcases hw with w|w
   ·have hcc:=hw1 w;rw[w]at g1;have nc:¬(c=0xc0\/c=0xc1\/c=0xe0):=λh=>by
     rcases h with h|h|h<;>subst h<;>simp[fL]at hc
    have q1:=fx.txt (by omega);have q2:=fy.txt (by omega);omega
   ·rw[w]at g1;omega
  obtain⟨g3,g4⟩:=List.append_inj g2 hlen;have n1:=hx.num0 (by omega);have n2:=hy.num0 (by omega);exact⟨by rw[n1,n2],g3,λ_=>g4,λhk2=>by omega⟩
 rename_i hc2;have hk2:¬(18<=k.toNat/\k.toNat<=20):=λh=>hc2 (T2.1 h);have t1:=hx.txt0 (by omega);have t2:=hy.txt0 (by omega);split at h
 ·rename_i hc;have hk:=T3.2 hc;rw[aP,aP,aP,aP]at h;obtain⟨g1,g2⟩:=aI0 h;obtain⟨g3,g4⟩:=aI0 g2;have n1:=hx.num0 (by omega);have n2:=hy.num0 (by omega);have hlen:l.length=l'.length:=by
   rcases hw with w|w
   ·have hcc:=hw1 w;rw[w]at g3;have nc:¬(c=0xa0\/c=0xa1\/c=0xa3):=λh=>by
     rcases h with h|h|h<;>subst h<;>simp[fL]at hc2
    have q1:=fx.row (by omega);have q2:=fy.row (by omega);omega
   ·rw[w]at g3;omega
  exact⟨by rw[n1,n2],by rw[t1,t2],λh=>by omega,λ_=>⟨hlen,g4⟩⟩
 ·rename_i hc;have hk3:¬21<=k.toNat:=λh=>hc (T3.1 h);obtain⟨g1,g2⟩:=aI0 h;exact⟨aUw hx hy fx fy (by omega) g1,by rw[t1,t2],λ_=>g2,λh=>by omega⟩
theorem xT{f:M->Bs}:∀ {l l':List M} {r s:Bs},l.length=l'.length->(∀x∈l,∀y∈l',∀r s,f x++r=f y++s->x=y/\r=s)->l.flatMap f++r=l'.flatMap f++s->l=l'/\r=s
 | [],[],r,s,_,_,h=>⟨rfl,by simpa using h⟩
 | [],_::_,_,_,hl,_,_=>by simp at hl
 | _::_,[],_,_,hl,_,_=>by simp at hl
 | x::l,y::l',r,s,hl,hf,h=>by
  rw[bU,bU,aP,aP]at h;obtain⟨h1,h2⟩:=hf x (by simp) y (by simp) _ _ h;obtain⟨h3,h4⟩:=xT (by simpa using hl) (λa ha b hb=>hf a (by simp[ha]) b (by simp[hb])) h2;exact⟨by rw[h1,h3],h4⟩
theorem rH{m:M}(h:Gq m):(eG m).length<=2^31:=by
 have h1:=(aIs m).2;have h2:=h.sz;omega
theorem aKx{e:Int}{l:List M}(he:0<e/\e<24)(hk:∀x∈l,x.k=e):∀x∈l,Fit (cC e (kN e l (l.map eG))) x.k x.n x.t x.l.length (eG x):=by
 intro x hx;have hxk:=hk x hx;by_cases h:e=21\/e=22\/e=23
 ·rw[hxk];refine aOf h _ λhs=>?_;unfold kN at hs;rw[aF h,List.all_eq_true]at hs;refine hs (x,eG x) ?_;clear hs hk hxk
  induction l with
  | nil=>cases hx
  | cons y l ih =>
   rw[List.map_cons,List.zip_cons_cons];rcases List.mem_cons.1 hx with rfl|hx
   ·simp
   ·exact cN _ (ih hx)
 ·have:Fit (cC x.k (kN e l (l.map eG))) x.k x.n x.t x.l.length (eG x):=by
   refine aOg (by omega) _ (λhs=>?_) (by omega);unfold kN at hs;rw[aD h,List.all_eq_true]at hs;exact hs x hx
  rw[hxk]at this ⊢;exact this
theorem uO{c:Nat}{k:Int}{n:Nat}{t:Bs}{len:Nat}{bh:Bs}(h:Fit c k n t len bh):dC c=some k.toNat/\0x50<=c/\c<256:=by
 obtain⟨s,rfl⟩:=h.kind;exact⟨(nS h.rng s).1,(nS h.rng s).2,qB _ _⟩
theorem rC{a b:Nat}(ha:a<256)(hb:b<256)(h:UInt8.ofNat a=UInt8.ofNat b):a=b:=by
 have:=congrArg UInt8.toNat h;rw[UInt8.toNat_ofNat',UInt8.toNat_ofNat']at this;omega
def Inj(x:M):Prop:=∀y,Gq x->Gq y ->
 (∀r s,gV x++r=gV y++s->x=y/\r=s) /\
 (∀r s,x.k=y.k->21<=x.k->x.k<=23->x.l.length=y.l.length->eG x++r=eG y++s->x=y/\r=s) /\
 (∀c r s,x.k=y.k->Fit c x.k x.n x.t x.l.length (eG x)->Fit c y.k y.n y.t y.l.length (eG y)->dZ c x.n x.t x.l.length (eG x)++r=dZ c y.n y.t y.l.length (eG y)++s->x=y/\r=s)
theorem aK2:∀x:M,Inj x:=by
 refine M.ind λk n t e l ih=>?_;rintro⟨k',n',t',e',l'⟩ hx hy;have fx:=hx.fx;have fy:=hy.fx;have hbx:=rH hx;have hby:=rH hy
 -- inside
 have hI:∀r s,k=k'->21<=k->k<=23->l.length=l'.length->eG (.mk k n t e l)++r=eG (.mk k' n' t' e' l')++s->M.mk k n t e l=.mk k' n' t' e' l'/\r=s:=by
  rintro r s rfl h1 h2 hl h;have n1:=fx.num0 (by omega);have n2:=fy.num0 (by omega);have t1:=fx.txt0 (by omega);have t2:=fy.txt0 (by omega);subst n1;subst n2;subst t1;subst t2;rw[oK,oK]at h;unfold aEc at h;by_cases h3:k=23
  ·rw[aF h3,aF h3,uA,uA,aO,aO]at h;obtain⟨g1,g2⟩:=List.cons.inj h;have gc:=rC (qB _ _) (qB _ _) g1;obtain⟨a1,a2,a3⟩:=fx.arr h3;obtain⟨b1,b2,b3⟩:=fy.arr h3;have he:e=e':=by
    have q1:=(nS (k:=e) (by omega) (kN e l (l.map eG))).1;have q2:=(nS (k:=e') (by omega) (kN e' l' (l'.map eG))).1;rw[gc,q2]at q1;have:=bC q1;omega
   subst he;rw[gc]at g2;have F1:=aKx (l:=l) ⟨a1,a2⟩ a3;have F2:=aKx (l:=l') ⟨b1,b2⟩ b3;rw[gc]at F1;obtain⟨g3,g4⟩:=xT (f:=λx=>dZ (cC e (kN e l' (l'.map eG))) x.n x.t x.l.length (eG x)) hl (λx hx y hy r s hh=>(ih x hx y (fx.all x hx) (fy.all y hy)).2.2 _ r s (by rw[a3 x hx,b3 y hy]) (F1 x hx) (F2 y hy) hh) g2;exact⟨by rw[g3],g4⟩
  ·rw[aD h3,aD h3]at h;obtain⟨g3,g4⟩:=xT hl (λx hx y hy r s hh=>(ih x hx y (fx.all x hx) (fy.all y hy)).1 r s hh) h;have e1:=fx.el0 h3;have e2:=fy.el0 h3;exact⟨by rw[g3,e1,e2],g4⟩
 -- behind a constructor
 have hD:∀c r s,k=k'->Fit c k n t l.length (eG (.mk k n t e l))->Fit c k' n' t' l'.length (eG (.mk k' n' t' e' l'))->dZ c n t l.length (eG (.mk k n t e l))++r=dZ c n' t' l'.length (eG (.mk k' n' t' e' l'))++s->M.mk k n t e l=.mk k' n' t' e' l'/\r=s:=by
  rintro c r s rfl F1 F2 h;obtain⟨g1,g2,g3,g4⟩:=aTh fx fy F1 F2 hbx hby h;have hr:=F1.rng;by_cases h21:k<21
  ·have l1:=fx.row0 h21;have l2:=fy.row0 h21;have e1:=fx.el0 (by omega);have e2:=fy.el0 (by omega);exact⟨by rw[g1,g2,l1,l2,e1,e2],g3 h21⟩
  ·obtain⟨q1,q2⟩:=g4 (by omega);exact hI r s rfl (by omega) (by omega) q1 q2
 refine⟨λr s h=>?_,hI,hD⟩;rcases aG6 fx with⟨x1,x2⟩|⟨c,x1,x2⟩|⟨c,x1,x2⟩<;>rcases aG6 fy with⟨y1,y2⟩|⟨d,y1,y2⟩|⟨d,y1,y2⟩<;>rw[x2,y2]at h
 ·subst x1;subst y1;rw[aO,aO]at h;obtain⟨_,g2⟩:=List.cons.inj h;have hl:l.length=l'.length:=by rw[fx.two rfl,fy.two rfl]
  obtain⟨g3,g4⟩:=xT hl (λx hx y hy r s hh=>(ih x hx y (fx.all x hx) (fy.all y hy)).1 r s hh) g2;have n1:=fx.num0 (by omega);have n2:=fy.num0 (by omega);have t1:=fx.txt0 (by omega);have t2:=fy.txt0 (by omega);have e1:=fx.el0 (by omega);have e2:=fy.el0 (by omega);exact⟨by rw[g3,n1,n2,t1,t2,e1,e2],g4⟩
 ·rw[aO,aO]at h;have:=rC (a:=0) (by omega) (by omega) (List.cons.inj h).1;omega
 ·rw[aO,aO]at h;have q:=uO y1;have:=rC (a:=0) (by omega) q.2.2 (List.cons.inj h).1;omega
 ·rw[aO,aO]at h;have:=rC (b:=0) (by omega) (by omega) (List.cons.inj h).1;omega
 ·rw[aO,aO]at h;obtain⟨g1,g2⟩:=List.cons.inj h;have hcd:=rC (by omega) (by omega) g1;rw[aX,aX]at g2;have a1:=fx.num0;have a2:=fx.txt0;have a3:=fx.row0;have a4:=fx.el0;have b1:=fy.num0;have b2:=fy.txt0;have b3:=fy.row0;have b4:=fy.el0;have hkk:k=k'/\n=n'/\l=l':=by
   rcases x1 with x1|x1|x1|x1|x1|x1<;>rcases y1 with y1|y1|y1|y1|y1|y1<;>first
    | (exfalso;omega)
    | exact⟨by omega,by rw[a1 (by omega),b1 (by omega)],by rw[a3 (by omega),b3 (by omega)]⟩
    | exact⟨by omega,by omega,by rw[a3 (by omega),b3 (by omega)]⟩
    | exact⟨by omega,by rw[a1 (by omega),b1 (by omega)],by rw[x1.2.2,y1.2.2]⟩
  obtain⟨h1,h2,h3⟩:=hkk;exact⟨by rw[h1,h2,h3,a2 (by omega),b2 (by omega),a4 (by omega),b4 (by omega)],g2⟩
 ·rw[aO,aO]at h;have q:=uO y1;have:=rC (by omega) q.2.2 (List.cons.inj h).1;omega
 ·rw[aO,aO]at h;have q:=uO x1;have:=rC (b:=0) q.2.2 (by omega) (List.cons.inj h).1;omega
 ·rw[aO,aO]at h;have q:=uO x1;have:=rC q.2.2 (by omega) (List.cons.inj h).1;omega
 ·rw[aO,aO]at h;obtain⟨g1,g2⟩:=List.cons.inj h;have q1:=uO x1;have q2:=uO y1;have hcd:=rC q1.2.2 q2.2.2 g1;subst hcd;have hk:k=k':=by
   have r1:=x1.rng;have r2:=y1.rng;have:=q1.1;rw[q2.1]at this;have:=bC this;omega
  exact hD c r s hk x1 y1 g2
theorem aVh{x y:M}(hx:Gq x)(hy:Gq y)(h:gV x=gV y):x=y :=
 ((aK2 x y hx hy).1 [] [] (by rw[h])).1
end Go.Note
