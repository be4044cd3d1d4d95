/-
  The program's Decode. How two values stand to one another, in plain Lean. No program in sight. slices.SortFunc at rows of structs, in the words of the memory laws; calls that lay blocks and draw alone. Over every program. slices.SortFunc at rows of structs, where equals may differ; 'cmp' reads memory beside the row. Over every program. DERIVED: THE SHELF's CONTRACTS AT THIS DUMP, IN PLAIN WORDS (tools/lay-plain.mjs out of 'YtlfhjkgdlclddaaGreatDoorShelf3.lean', which tools/lay-shelf.mjs wrote): THE SAME DECLARATIONS UNDER THE SAME NAMES: 'import', 'namespace', 'open', 'def', 'theorem' AND NOTHING ELSE: no command of the shelf's: FOR A HAND-IN. Each laying: the table of numbers ('.._ren') and one theorem, a field a fact of the dump's own or the kernel's comparison; each contract: ONE APPLICATION. The program's values: Order. The program's values: which parts may be a map's (isMap), an array's (isArray). The program's values: has, extra, within, isNum, isText, isArray, alone. Ranges over functions: the loop's record and the block of deferred calls, as memory. Over every program. The program's values: walk, Check. The program's Encode, Whole, Shortest. The document's codec of values (longshoreref03) in plain Lean: the shortest of all forms is what is written. No program in sight. The document's codec (longshoreref03): numbers, the data of a number.
-/
import Derived.Test.YtlfhjkgdlclddaaGreatDoorPx20
import Derived.Lib.Small
import Derived.Lib.Bytealg
import Derived.Sort.Statements
import Derived.Shelf.SlSortCmp.NoneTotal
import Derived.Test.YtlfhjkgdlclddaaGreatDoorProg
set_option linter.unusedVariables false
set_option linter.unusedSimpArgs false
set_option maxRecDepth 4000
namespace Go.Proofs.YtlfhjkgdlclddaaGreatDoor
open Go Go.Sv Go.Note
attribute [local irreducible] aS
theorem aQb{a b c:Option Addr}{w:World}{K:World->Prop}(hk:K w):aK9 Tryz.prog 86 [.pointer a,.pointer b,.pointer c] w K:=by
 refine CallsD.mono (vD (u:=.returning) (K:=K) rfl (by unfold jG;exact⟨rfl,hk⟩)) ?_;rintro e u w' ⟨h1,h2,h3⟩;exact⟨h1,h2,h3⟩
theorem aK7{ab a1b a2b:Nat}{at0 e0:Int}{zs:List Value}{z1 z2:Value}(hne:ab≠a1b/\ab≠a2b/\a1b≠a2b){w:World}(h0:blk w ab=some zs)(hl:zs.length=5)(h1:blk w a1b=some [z1])(h2:blk w a2b=some [z2]){K:FrameMode->World->Prop}
 (hk:∀w',blk w' ab=some (one 0 0 []).g->blk w' a1b=some [.int .i64 at0]->blk w' a2b=some [.int .i64 e0]->Ch (λj=>j=ab\/j=a1b\/j=a2b) w w'->K (dG (.panicking (aNb at0 e0))).2 w') :
 jX Tryz.prog 86 [.pointer (some ⟨ab,0,none⟩),.pointer (some ⟨a1b,0,none⟩),.pointer (some ⟨a2b,0,none⟩)] (.panicking (aNb at0 e0)) w K:=by
 refine CallsD.mono (vC (u:=.panicking (aNb at0 e0)) (at0:=at0) (e0:=e0) (K:=λw'=>K (dG (.panicking (aNb at0 e0))).2 w') rfl ?_) ?_
 rotate_left
 ·rintro e u w' ⟨g1,g2,g3⟩;refine⟨g1,?_⟩;rw[g2];exact g3
 unfold jF;refine⟨rfl,at0,e0,true,by kernel_rfl,?_⟩;refine bD λw1 b1 c1 z1'=>?_;have l0:=aH h0;have l1:=aH h1;have l2:=aH h2;simp only[add_at,aL];refine eK b1 (by simp) λw2 b2 c2 z2'=>eK b2 (by simp) λw3 b3 c3 z3'=>?_;have b3:blk w3 w.heap.size=some [.int .i64 at0,.int .i64 e0]:=b3;have c13:Ch (λ_=>False) w w3:=(c1.trans c2 λx hx h=>by omega).trans c3 λx hx h=>by omega
 have k0:=(c13.blk l0 id).trans h0;have k1:=(c13.blk l1 id).trans h1;have k2:=(c13.blk l2 id).trans h2;refine⟨λw4=>w4=w3,?_,dJ rfl⟩;rintro w4 rfl;have b3d:blk w4.drew w.heap.size=some [.int .i64 at0,.int .i64 e0]:=b3;have k0d:blk w4.drew ab=some zs:=k0;have k1d:blk w4.drew a1b=some [z1]:=k1;have k2d:blk w4.drew a2b=some [z2]:=k2;refine⟨_,aJ b3d 0 rfl,_,aJ b3d 1 rfl,?_⟩;simp only[nn,add_at,aL];refine st5 (x:=one 0 0 []) k0d hl λw9 b9 c9 z9=>?_;have b39:=(c9.blk (aH b3d) (by omega)).trans b3d;have k19:=(c9.blk (aH k1d) (by omega)).trans k1d;have k29:=(c9.blk (aH k2d) (by omega)).trans k2d;refine⟨⟨_,aJ b39 1 rfl,rfl⟩,⟨_,aJ b39 0 rfl,rfl⟩,?_⟩;refine st1 k19 λw10 b10 c10=>?_;have b310:=(c10.blk (aH b39) (by omega)).trans b39;have k210:=(c10.blk (aH k29) (by omega)).trans k29;have k010:=(c10.blk (aH b9) (by omega)).trans b9;refine⟨⟨_,aJ b310 1 rfl,rfl⟩,?_⟩;refine st1 k210 λw11 b11 c11=>?_;refine hk w11 ((c11.blk (aH k010) (by omega)).trans k010) ((c11.blk (aH b10) (by omega)).trans b10) b11 ?_;exact((((c13.mono (S':=λj=>j=ab\/j=a1b\/j=a2b) λ_ _ h=>h.elim).trans' (Ch.drew _)).trans c9 λ_ _ h=>.inl h).trans c10 λ_ _ h=>.inr (.inl h)).trans c11 λ_ _ h=>.inr (.inr h)
theorem aHj{b:Bs}{p:Option Addr}{c at_:Nat}{w:World}(hr:Rd w p b.length 1 (aV b))(hcap:b.length<=c)(hbl:b.length<=1048576)(hat:at_<=b.length)(hL:LW w){K:Value->World->Prop}
 (hk:∀(x:MV) (t:Nat) w',oC b at_=some (x.m,t)->VO w' x->(∀k∈x.B,w.heap.size<=k)->Ch (λ_=>False) w w'->K (.tuple #[x.v,.int .i64 (t:Int),.int .i64 0]) w')
 (hno:∀(a e:Int) w',oC b at_=none->e≠0->Ch (λ_=>False) w w'->K (.tuple #[(one 0 0 []).v,.int .i64 a,.int .i64 e]) w') :
 bK Tryz.prog 59 [.slice p b.length c,.int .i64 (at_:Int)] w K:=by
 apply aBk;unfold mG;refine bD λw1 b1 c1 z1=>bD λw2 b2 c2 z2=>bD λw3 b3 c3 z3=>?_;have c03:Ch (λ_=>False) w w3:=(c1.trans' c2).trans' c3;have b13:=(c3.blk (by have:=aH b1;omega) id).trans ((c2.blk (aH b1) id).trans b1);have b23:=(c3.blk (aH b2) id).trans b2;have hw8:=hL.size;have hlt:=hr.lt;obtain⟨ab,hab⟩:∃ab,ab=w.heap.size:=⟨_,rfl⟩;obtain⟨a1b,ha1b⟩:∃ab,ab=w1.heap.size:=⟨_,rfl⟩;obtain⟨a2b,ha2b⟩:∃ab,ab=w2.heap.size:=⟨_,rfl⟩;rw[<-hab]at b13 z1 ⊢;rw[<-ha1b]at b23 z2 ⊢;rw[<-ha2b]at b3 z3 ⊢;have hne:ab≠a1b/\ab≠a2b/\a1b≠a2b:=by omega
 simp only[add_at,aL]
 -- results that are read
 have done:∀w' (v:Value) (x:MV) (a e:Int),blk w' ab=some x.g->blk w' a1b=some [.int .i64 a]->blk w' a2b=some [.int .i64 e]->K (.tuple #[x.v,.int .i64 a,.int .i64 e]) w' ->
  ∃n,w'.cell? ⟨ab,0,none⟩=some (.int .i64 n)/\∃n1,w'.cell? ⟨ab,1,none⟩=some (.int .u64 n1)/\∃s,w'.cell? ⟨ab,2,none⟩=some (.string s)/\∃p n2 c,w'.cell? ⟨ab,3,none⟩=some (.slice p n2 c)/\∃n3,w'.cell? ⟨ab,4,none⟩=some (.int .i64 n3)/\∃n4,w'.cell? ⟨a1b,0,none⟩=some (.int .i64 n4)/\∃n5,w'.cell? ⟨a2b,0,none⟩=some (.int .i64 n5)/\K (.tuple (Array.mk [.agg (Array.mk [.int .i64 n,.int .u64 n1,.string s,.slice p n2 c,.int .i64 n3]),.int .i64 n4,.int .i64 n5])) w':=by
  intro w' v x a e h0 h1 h2 hK;refine rF h0 ⟨_,aJ h1 0 rfl,_,aJ h2 0 rfl,?_⟩;rw[vv x];exact hK
 refine cG (by simp) (xA (bB (by omega)) ?_);refine bD λw4 b4 c4 z4=>?_;have c04:=c03.trans' c4;have b14:=(c4.blk (aH b13) id).trans b13;have b24:=(c4.blk (aH b23) id).trans b23;have b34:=(c4.blk (aH b3) id).trans b3;have hL4:=hL.ch0 c04;obtain⟨rb,hrb⟩:∃rb,rb=w3.heap.size:=⟨_,rfl⟩;rw[<-hrb]at b4 ⊢;have h8:8<=rb:=by have:=c03.size;omega
 have hs3:=c03.size;have r4:RB w4 rb b p c at_ b.length (-1):=⟨b4,hr.ch c04 λ_ _ _=>id,hcap,hat,aQ _,hbl,λa ha h0 q=>by have:=hlt a ha h0;omega⟩
 -- a fault
 have fault:∀w6 (a e:Int),oC b at_=none->e≠0->Ch (λj=>j=rb\/j=ab) w4 w6->(∃zs,blk w6 ab=some zs/\zs.length=5)->jX Tryz.prog 86 [.pointer (some ⟨ab,0,none⟩),.pointer (some ⟨a1b,0,none⟩),.pointer (some ⟨a2b,0,none⟩)] (.panicking (aNb a e)) w6 λu' w7=>settle u'=.returning /\
  ∃n,w7.cell? ⟨ab,0,none⟩=some (.int .i64 n)/\∃n1,w7.cell? ⟨ab,1,none⟩=some (.int .u64 n1)/\∃s,w7.cell? ⟨ab,2,none⟩=some (.string s)/\∃p n2 c,w7.cell? ⟨ab,3,none⟩=some (.slice p n2 c)/\∃n3,w7.cell? ⟨ab,4,none⟩=some (.int .i64 n3)/\∃n4,w7.cell? ⟨a1b,0,none⟩=some (.int .i64 n4)/\∃n5,w7.cell? ⟨a2b,0,none⟩=some (.int .i64 n5)/\K (.tuple (Array.mk [.agg (Array.mk [.int .i64 n,.int .u64 n1,.string s,.slice p n2 c,.int .i64 n3]),.int .i64 n4,.int .i64 n5])) w7:=by
  intro w6 a e hd he c6 ⟨zs,h0,hl⟩;have b26:=(c6.blk (aH b24) (by omega)).trans b24;have b36:=(c6.blk (aH b34) (by omega)).trans b34;refine aK7 hne h0 hl b26 b36 λw7 g0 g1 g2 c7=>⟨rfl,?_⟩;refine done w7 .nilIface (one 0 0 []) a e g0 g1 g2 (hno a e w7 hd he ?_);exact(c04.trans c6 λx hx h=>by omega).trans c7 λx hx h=>by omega
 have hV:=(aOp b p c 32 (by decide)).1;refine hV rb at_ b.length (-1) w4 _ _ r4 hL4 h8 (λx t w5 hrd hvo hxb r5 c5=>?_) (λhnone=>?_)
 ·have hdec:oC b at_=if 1048576<t-at_ then none else some (x.m,t):=by unfold oC;rw[hrd]
  have htle:=r5.le;have b15:=(c5.blk (aH b14) (by omega)).trans b14;have hs5:=c5.size;have hs4:=c04.size;have b14l:=aH b14;have b24l:=aH b24;have b34l:=aH b34;have hrb4:=aH b4;refine is5 (st5 b15 rfl λw10 b10 c10 z10=>?_);have r10:=r5.ch c10 (by omega) λa ha h0 q=>by have:=hlt a ha h0;omega
  have hvo10:VO w10 x:=VO.ch c10 x hvo λj hj e=>by have:=hxb j hj;omega
  have c410:Ch (λj=>j=rb\/j=ab) w4 w10:=(c5.mono λ_ _ h=>.inl h).trans c10 λ_ _ h=>.inr h;refine⟨λw11=>w11=w10/\¬1048576<t-at_,?_,?_⟩
  ·rintro w11 ⟨rfl,hn⟩;rw[aD hn]at hdec;have cd:Ch (λ_=>False) w11 w11.drew:=Ch.d0;have b10d:blk w11.drew ab=some x.g:=b10;have r10d:=r10.ch0 cd;have c410d:=c410.new cd;refine rF b10d ⟨_,aJ r10d.cells 1 rfl,?_⟩;refine st5 b10d (MV.glen x) λw16 b16 c16 z16=>?_;have r16:=r10d.ch c16 (by omega) λa ha h0 q=>by have:=hlt a ha h0;omega
   refine⟨⟨_,aJ r16.cells 1 rfl,rfl⟩,?_⟩;have hz10:=c410d.size;have b216:=(c16.blk (by omega) (by omega)).trans ((c410d.blk b24l (by omega)).trans b24);have b316:=(c16.blk (by omega) (by omega)).trans ((c410d.blk b34l (by omega)).trans b34);refine st1 b216 λw17 b17 c17=>?_;have b317:=(c17.blk (aH b316) (by omega)).trans b316;have b117:=(c17.blk (aH b16) (by omega)).trans b16;refine st1 b317 λw18 b18 c18=>?_;have b118:=(c18.blk (aH b117) (by omega)).trans b117;have b218:=(c18.blk (aH b17) (by omega)).trans b17;refine aQb (done w18 .nilIface x t 0 b118 b218 b18 (hk x t w18 hdec ?_ (λj hj=>by have:=hxb j hj;omega) ?_))
   ·exact VO.ch c18 x (VO.ch c17 x (VO.ch c16 x (VO.ch cd x hvo10 λ_ _ h=>h) λj hj e=>by have:=hxb j hj;omega) λj hj e=>by have:=hxb j hj;omega) λj hj e=>by have:=hxb j hj;omega
   ·exact(((c04.trans c410d λx hx h=>by omega).trans c16 λx hx h=>by omega).trans c17 λx hx h=>by omega).trans c18 λx hx h=>by omega
  ·refine⟨_,aJ r10.cells 1 rfl,?_⟩;rw[aW (n:=(t:Int)-(at_:Int))];refine aC (λhq=>?_) (λhq=>⟨by trivial,λh=>?_⟩)
   ·have hq:=aB hq;rw[aF]at hdec;exact aI4 (fault w10 _ _ hdec (by decide) c410 ⟨_,b10,MV.glen x⟩)
   ·have:=aA hq;omega
 ·have hdec:oC b at_=none:=by unfold oC;rw[hnone]
  intro a e w5 he c5;exact fault w5 a e hdec he (c5.mono λ_ _ h=>.inl h) ⟨_,(c5.blk (aH b14) (by omega)).trans b14,rfl⟩
end Go.Proofs.YtlfhjkgdlclddaaGreatDoor
namespace Go.Note
open Go
def oJ(a b:Int):Int:=if a≠0 then a else b
mutual
def iO:M->M->Int
 | .mk k n t e l,.mk k' n' t' e' l'=>oJ (Lib.compareInt k k') (oJ (Lib.compareInt n n') (oJ (Lib.compareBytes t t') (oJ (jS l l') (Lib.compareInt e e'))))
def jS:List M->List M->Int
 | [],[]=>0
 | [],_::_=>-1
 | _::_,[]=>1
 | x::l,y::l'=>oJ (iO x y) (jS l l')
end
theorem aLa(x y:Int):Lib.compareInt x y=0↔x=y:=by
 unfold Lib.compareInt;split
 ·simp;omega
 ·split
  ·simp;omega
  ·simp;omega
theorem aIx(x y:Int):Lib.compareInt y x=- Lib.compareInt x y:=by
 unfold Lib.compareInt;split<;>split<;>(try split)<;>(try split)<;>omega
theorem aTs(x y:Int):Lib.compareInt x y<0↔x<y:=by
 unfold Lib.compareInt;split
 ·simp;omega
 ·split
  ·simp;omega
  ·simp;omega
theorem aTt:∀(x y:Bs),Lib.compareBytes x y=0↔x=y
 | [],[]=>by simp[Lib.compareBytes]
 | [],_::_=>by simp[Lib.compareBytes]
 | _::_,[]=>by simp[Lib.compareBytes]
 | a::x,b::y=>by
  unfold Lib.compareBytes;have ih:=aTt x y;by_cases h1:a<b
  ·rw[aF h1];simp only[List.cons.injEq];constructor
   ·intro h;cases h
   ·rintro⟨rfl,_⟩;exact absurd h1 (UInt8.lt_irrefl _)
  ·rw[aD h1];by_cases h2:b<a
   ·rw[aF h2];simp only[List.cons.injEq];constructor
    ·intro h;cases h
    ·rintro⟨rfl,_⟩;exact absurd h2 (UInt8.lt_irrefl _)
   ·rw[aD h2,ih];have:a=b:=UInt8.le_antisymm (UInt8.not_lt.1 h2) (UInt8.not_lt.1 h1);simp[this]
theorem aOo:∀(x y:Bs),Lib.compareBytes y x=- Lib.compareBytes x y
 | [],[]=>by simp[Lib.compareBytes]
 | [],_::_=>by simp[Lib.compareBytes]
 | _::_,[]=>by simp[Lib.compareBytes]
 | a::x,b::y=>by
  unfold Lib.compareBytes;by_cases h1:a<b
  ·have h2:¬b<a:=λh=>UInt8.lt_irrefl _ (UInt8.lt_trans h1 h);simp[h1,h2]
  ·by_cases h2:b<a
   ·simp[h1,h2]
   ·simp[h1,h2,aOo x y]
theorem aLb:∀(x y z:Bs),Lib.compareBytes x y<0->Lib.compareBytes y z<0->Lib.compareBytes x z<0
 | [],[],_,h,_=>by simp[Lib.compareBytes]at h
 | [],_::_,[],_,h=>by simp[Lib.compareBytes]at h
 | [],_::_,_::_,_,_=>by simp[Lib.compareBytes]
 | _::_,[],_,h,_=>by simp[Lib.compareBytes]at h
 | _::_,_::_,[],_,h=>by simp[Lib.compareBytes]at h
 | a::x,b::y,c::z,h1,h2=>by
  unfold Lib.compareBytes at h1 h2 ⊢;by_cases ab:a<b
  ·by_cases bc:b<c
   ·rw[aF (UInt8.lt_trans ab bc)];decide
   ·rw[aD bc]at h2;by_cases cb:c<b
    ·rw[aF cb]at h2;exact absurd h2 (by decide)
    ·have:b=c:=UInt8.le_antisymm (UInt8.not_lt.1 cb) (UInt8.not_lt.1 bc);subst this;rw[aF ab];decide
  ·rw[aD ab]at h1;by_cases ba:b<a
   ·rw[aF ba]at h1;exact absurd h1 (by decide)
   ·have:a=b:=UInt8.le_antisymm (UInt8.not_lt.1 ba) (UInt8.not_lt.1 ab);subst this;rw[aD ba]at h1;by_cases bc:a<c
    ·rw[aF bc];decide
    ·rw[aD bc]at h2 ⊢;by_cases cb:c<a
     ·rw[aF cb]at h2;exact absurd h2 (by decide)
     ·rw[aD cb]at h2 ⊢;exact aLb x y z h1 h2
theorem aD4{a b:Int}:oJ a b=0↔a=0/\b=0:=by
 unfold oJ;split
 ·rename_i h;simp[h]
 ·rename_i h;simp only[ne_eq,Decidable.not_not]at h;simp[h]
theorem tJ{a b a' b':Int}(h1:a'=-a)(h2:b'=-b):oJ a' b'=- oJ a b:=by
 unfold oJ;subst h1 h2;by_cases h:a=0
 ·simp[h]
 ·rw[aF,aF h]
theorem aSb{a b:Int}:oJ a b<0↔a<0\/(a=0/\b<0):=by
 unfold oJ;split<;>omega
theorem aN1{l:List M}(ih:∀x∈l,∀y,iO x y=0↔x=y):∀l',jS l l'=0↔l=l':=by
 induction l with
 | nil=>intro l';cases l'<;>simp[jS]
 | cons x l ihl =>
  intro l';cases l' with
  | nil=>simp[jS]
  | cons y l' =>
   rw[jS,aD4,ih x (by simp),ihl (λz hz=>ih z (by simp[hz]))];simp
theorem mV:∀x y:M,iO x y=0↔x=y:=by
 refine M.ind λk n t e l ih=>?_;rintro⟨k',n',t',e',l'⟩;rw[iO,aD4,aD4,aD4,aD4,aLa,aLa,aTt,aLa,aN1 ih];simp only[M.mk.injEq];constructor
 ·rintro⟨h1,h2,h3,h4,h5⟩;exact⟨h1,by omega,h3,h5,h4⟩
 ·rintro⟨h1,h2,h3,h4,h5⟩;exact⟨h1,by omega,h3,h5,h4⟩
theorem aPm{l:List M}(ih:∀x∈l,∀y,iO y x=- iO x y):∀l',jS l' l=- jS l l':=by
 induction l with
 | nil=>intro l';cases l'<;>simp[jS]
 | cons x l ihl =>
  intro l';cases l' with
  | nil=>simp[jS]
  | cons y l' =>
   rw[jS,jS];exact tJ (ih x (by simp) y) (ihl (λz hz=>ih z (by simp[hz])) l')
theorem uD:∀x y:M,iO y x=- iO x y:=by
 refine M.ind λk n t e l ih=>?_;rintro⟨k',n',t',e',l'⟩;rw[iO,iO];exact tJ (aIx _ _) (tJ (aIx _ _) (tJ (aOo _ _) (tJ (aPm ih l') (aIx _ _))))
theorem aMn{l:List M}(ih:∀x∈l,∀y z,iO x y<0->iO y z<0->iO x z<0):∀l' l'',jS l l'<0->jS l' l''<0->jS l l''<0:=by
 induction l with
 | nil =>
  intro l' l'' h1 h2;cases l' with
  | nil=>simp[jS]at h1
  | cons y l' =>
   cases l'' with
   | nil=>simp[jS]at h2
   | cons z l''=>simp[jS]
 | cons x l ihl =>
  intro l' l'' h1 h2;cases l' with
  | nil=>simp[jS]at h1
  | cons y l' =>
   cases l'' with
   | nil=>simp[jS]at h2
   | cons z l'' =>
    rw[jS,aSb]at h1 h2 ⊢;rcases h1 with h1|⟨h1,h1'⟩
    ·rcases h2 with h2|⟨h2,h2'⟩
     ·exact .inl (ih x (by simp) y z h1 h2)
     ·rw[mV]at h2;subst h2;exact .inl h1
    ·rw[mV]at h1;subst h1;rcases h2 with h2|⟨h2,h2'⟩
     ·exact .inl h2
     ·exact .inr ⟨h2,ihl (λz hz=>ih z (by simp[hz])) l' l'' h1' h2'⟩
theorem uF{α β:Type}{c:α->α->Int}{d:β->β->Int}(ce:∀x y,c x y=0↔x=y){x y z:α}{u v r:β}(ct:c x y<0->c y z<0->c x z<0)(dt:d u v<0->d v r<0->d u r<0)
 (h1:oJ (c x y) (d u v)<0) (h2:oJ (c y z) (d v r)<0):oJ (c x z) (d u r)<0:=by
 rw[aSb]at h1 h2 ⊢;rcases h1 with h1|⟨h1,h1'⟩
 ·rcases h2 with h2|⟨h2,h2'⟩
  ·exact .inl (ct h1 h2)
  ·rw[ce]at h2;subst h2;exact .inl h1
 ·rw[ce]at h1;subst h1;rcases h2 with h2|⟨h2,h2'⟩
  ·exact .inl h2
  ·exact .inr ⟨h2,dt h1' h2'⟩
theorem aEv(x y z:Int):Lib.compareInt x y<0->Lib.compareInt y z<0->Lib.compareInt x z<0:=by
 rw[aTs,aTs,aTs];omega
theorem aC4:∀x y z:M,iO x y<0->iO y z<0->iO x z<0:=by
 refine M.ind λk n t e l ih=>?_;rintro⟨k',n',t',e',l'⟩ ⟨k'',n'',t'',e'',l''⟩ h1 h2;rw[iO]at h1 h2 ⊢;have L:=aMn ih l' l'';have leq:∀x y:List M,jS x y=0↔x=y:=λx y=>aN1 (λz _=>mV z) y;refine uF (c:=Lib.compareInt) (d:=λ(u v:Nat × Bs × List M × Int)=>oJ (Lib.compareInt u.1 v.1) (oJ (Lib.compareBytes u.2.1 v.2.1) (oJ (jS u.2.2.1 v.2.2.1) (Lib.compareInt u.2.2.2 v.2.2.2)))) (u:=(n,t,l,e)) (v:=(n',t',l',e')) (r:=(n'',t'',l'',e'')) aLa (aEv _ _ _) (λh1 h2=>?_) h1 h2;refine uF (c:=λ(x y:Nat)=>Lib.compareInt x y) (d:=λ(u v:Bs × List M × Int)=>oJ (Lib.compareBytes u.1 v.1) (oJ (jS u.2.1 v.2.1) (Lib.compareInt u.2.2 v.2.2))) (u:=(t,l,e)) (v:=(t',l',e')) (r:=(t'',l'',e'')) (λx y=>by rw[aLa];omega) (aEv _ _ _) (λh1 h2=>?_) h1 h2;refine uF (c:=Lib.compareBytes) (d:=λ(u v:List M × Int)=>oJ (jS u.1 v.1) (Lib.compareInt u.2 v.2)) (u:=(l,e)) (v:=(l',e')) (r:=(l'',e'')) aTt (aLb _ _ _) (λh1 h2=>?_) h1 h2;exact uF (c:=jS) (d:=Lib.compareInt) (u:=e) (v:=e') (r:=e'') leq L (aEv _ _ _) h1 h2
theorem yB:∀(l:List M),(l.Pairwise λx y=>¬iO y x<0)->(¬l.Nodup↔∃i x y,l[i]?=some x/\l[i+1]?=some y/\iO x y=0)
 | [],_=>by simp
 | [x],_=>by simp
 | x::y::l,hp=>by
  have hp':=List.pairwise_cons.1 hp;have ih:=yB (y::l) hp'.2;constructor
  ·intro h;by_cases hxy:x=y
   ·exact⟨0,x,y,rfl,rfl,(mV x y).2 hxy⟩
   ·have hnd:¬(y::l).Nodup:=by
     intro hnd;apply h;refine List.nodup_cons.2 ⟨λhm=>?_,hnd⟩;rcases List.mem_cons.1 hm with e|hm
     ·exact hxy e
     ·have h1:=hp'.1 y (by simp);have h2:=(List.pairwise_cons.1 hp'.2).1 x hm;have h3:=uD x y;have:iO x y=0:=by omega
      exact hxy ((mV x y).1 this)
    obtain⟨i,a,b,h1,h2,h3⟩:=ih.1 hnd;exact⟨i+1,a,b,by simpa using h1,by simpa using h2,h3⟩
  ·rintro⟨i,a,b,h1,h2,h3⟩;have hab:=(mV a b).1 h3;subst hab;intro hnd;have h1':=List.getElem?_eq_some_iff.1 h1;have h2':=List.getElem?_eq_some_iff.1 h2;obtain⟨g1,g2⟩:=h1';obtain⟨g3,g4⟩:=h2';have:=(List.pairwise_iff_getElem.1 hnd) i (i+1) g1 g3 (by omega);exact this (g2.trans g4.symm)
end Go.Note
namespace Go.Sv
open Go Go.Sort Go.RowKit Go.Shelf Go.Proofs
structure Qt(w w':World):Prop where
 ch:Ch (λ_=>False) w w'
 dr:w.drawn<=w'.drawn
theorem Qt.refl(w:World):Qt w w:=⟨Ch.refl _ _,aQ _⟩
theorem Qt.trans{a b c:World}(h:Qt a b)(k:Qt b c):Qt a c:=⟨h.ch.trans' k.ch,Nat.le_trans h.dr k.dr⟩
theorem Qt.drew(w:World):Qt w w.drew:=⟨Ch.drew w,Nat.le_succ _⟩
theorem xL{w:World}{cs:List Value}{t:TypeId}{K:Addr->World->Prop}
 (hk:∀w',blk w' w.heap.size=some cs->Qt w w'->w'.heap.size=w.heap.size+1->K ⟨w.heap.size,0,none⟩ w'):bP w cs t K :=
 hk _ (nF w cs t) ⟨eV w _,aQ _⟩ (by simp)
theorem Qt.grow{w w':World}(h:Qt w w'):∃q os,w'=Go.Sort.grow (w.drewN q) os:=by
 refine⟨w'.drawn-w.drawn,w'.heap.extract w.heap.size w'.heap.size,?_⟩;obtain⟨⟨h1,h2,h3,h4,h5⟩,h6⟩:=h;have hh:w'.heap=w.heap++w'.heap.extract w.heap.size w'.heap.size:=by
  apply Array.ext_getElem?;intro i;by_cases hi:i<w.heap.size
  ·rw[Array.getElem?_append_left hi,h5 i hi id]
  ·by_cases hi2:i<w'.heap.size
   ·rw[Array.getElem?_append_right (by omega),Array.getElem?_extract,aF];congr 1;omega
   ·rw[Array.getElem?_eq_none (by omega),Array.getElem?_eq_none (by simp;omega)]
 have hd:w'.drawn=w.drawn+(w'.drawn-w.drawn):=by omega
 cases w;cases w';simp only[Go.Sort.grow,World.drewN]at *;subst h1 h2 h3;rw[<-hh,<-hd]
section
variable {α:Type} [Inhabited α]
theorem aEh{enc:α->List Value}{k:Nat}(hk:∀x,(enc x).length=k)(d:Array α):(flatK enc k d).toList=d.toList.flatMap enc:=by
 apply List.ext_getElem?;intro t;by_cases ht:t<d.size*k
 ·have k0:0<k:=by rcases Nat.eq_zero_or_pos k with h|h;subst h;simp at ht;exact h
  have hq:t / k<d.size:=(Nat.div_lt_iff_lt_mul k0).2 ht;have hm:=Nat.mod_lt t k0;have hdm:t / k*k+t%k=t:=by rw[Nat.mul_comm];exact Nat.div_add_mod t k
  have h1:=xU hk d.toList (t / k) (t%k) hm;rw[hdm]at h1;rw[h1];have h2:(flatK enc k d).toList[t]?=some ((flatK enc k d)[t]!):=by
   rw[Array.getElem?_toList,Array.getElem?_eq_getElem (by simpa using ht),getElem!_pos _ t (by simpa using ht)]
  rw[h2,get_flatK enc k d t ht,getElem!_pos d _ hq,getElem!_pos (enc d[t / k]) _ (by rw[hk];exact hm)];rw[Array.getElem?_toList,Array.getElem?_eq_getElem hq,Option.bind_some,aK (by rw[hk];exact hm)]
 ·rw[eS (by simpa using ht),eS (by rw[mB hk];simpa using ht)]
theorem aJ1{w:World}{b off:Nat}{d:Array Value}{cs:List Value}(h:blk w b=some cs)(hl:off+d.size<=cs.length) :
 ∃cs',blk (putRow id w b off d) b=some cs'/\cs'.length=cs.length/\(cs'.drop off).take d.size=d.toList/\Ch (·=b) w (putRow id w b off d):=by
 unfold blk at h;split at h
 ·rename_i c e fz heq;split at h
  case isFalse=>cases h
  rename_i hfz;have hc:c.toList=cs:=by simpa using h
  subst hc;have hsz:(putCells id off d c).size=c.size:=by simp[putCells]
  refine⟨(putCells id off d c).toList,?_,by simp[putCells],?_,⟨rfl,rfl,rfl,by simp[putRow,mapBlock],λx hx hne=>?_⟩⟩
  ·unfold blk;have:(putRow id w b off d).heap[b]?=some (.cells (putCells id off d c) e fz):=by
    simp only[putRow,mapBlock,Array.getElem?_modify,if_true,heq,Option.map_some,onCells]
   rw[this];simp only[hsz,aF hfz]
  ·apply List.ext_getElem?;intro k;rw[cZ];simp only[cU,Array.getElem?_toList,putCells,Array.getElem?_mapIdx];by_cases hk:k<d.size
   ·have h1:off+k<c.size:=by simp at hl;omega
    rw[aF hk,Array.getElem?_eq_getElem h1,Option.map_some,aF ⟨by omega,by omega⟩,show off+k-off=k by omega,getElem!_pos d k hk,Array.getElem?_eq_getElem hk];rfl
   ·rw[aD hk,Array.getElem?_eq_none (by omega)]
  ·simp only[putRow,mapBlock,Array.getElem?_modify];rw[aD (λe=>hne e.symm)]
 ·cases h
theorem qJ{w:World}(os:Array Obj):Ch (λ_=>False) w (Go.Sort.grow w os) :=
 ⟨rfl,rfl,rfl,by simp[Go.Sort.grow],λb hb _=>by simp only[Go.Sort.grow];rw[Array.getElem?_append_left hb]⟩
end
section
variable {α:Type} [Inhabited α]
theorem aRg{P:Program}{ρ:Ren}(Ly:SlLaysF0.n6 P ρ){k:Nat}(aE:∀w,(isAgg (ρ.t 24)).run P w=.ok true w)(zE:∀w,(Go.sizeOf (ρ.t 24)).run P w=.ok k w){enc:α->List Value}(henc:∀x,(enc x).length=k)(h1:∀x,∀v∈enc x,nK v=true)
 {cf:α->α->Int} (hO:SWO (ltOf cf)) {g:Nat} (eg:∀args w,(callFunc g args).run P w=.ok (.enter g args) w)
 {w:World} {p:Option Addr} {c:Nat} {b:Option Nat} {L:List α}
 (hcmp:∀(x y:α) (W:World),Ch (λj=>b=some j) w W->Calls P g #[.agg (enc x).toArray,.agg (enc y).toArray] W λe w'=>e=.returned (.int .i64 (cf x y))/\Qt W w')
 (ho:Ow w p L.length c k (L.flatMap enc) b) (hk0:0<k) (hL:L.length<=2^40) {K:Value->World->Prop}
 (hK:∀(w':World) (L':List α),L'.Perm L->(L'.Pairwise λx y=>ltOf cf y x=false)->Ow w' p L.length c k (L'.flatMap enc) b->Ch (λj=>b=some j) w w'->K (.tuple #[]) w'):bK P (ρ.f 6) [.slice p L.length c,.func (.func g) #[] #[]] w K:=by
 by_cases h0:L.length=0
 ·have:L=[]:=bI h0;subst this;exact Calls.mono (AnyF.slices_SortFunc_none Ly p c (.func (.func g) #[] #[]) w) λe w' ⟨he,hw⟩=>⟨_,he,hw▸hK _ [] (.refl _) .nil ho (Ch.refl _ _)⟩
 obtain⟨g1,g2,g3⟩:=ho;rcases g3 with⟨_,g3⟩|⟨kb,o,cs,rfl,rfl,hbk,hl,ht⟩
 ·have:L.length*k<=c*k:=bR _ g2;have:0<L.length*k:=Nat.mul_pos (by omega) hk0;omega
 have hmul:L.length*k<=c*k:=bR _ g2;have hH:HoldsK enc k w kb o L.toArray:=λj hj=>by
  have hj':j<L.length*k:=by simpa using hj
  refine⟨?_,jW hbk (by omega)⟩;obtain⟨v,hv⟩:∃v,(L.flatMap enc)[j]?=some v:=⟨_,aK (by rw[mB henc];exact hj')⟩;have e1:(flatK enc k L.toArray)[j]! = v:=by
   have h2:=aEh henc L.toArray;have h3:(flatK enc k L.toArray).toList[j]?=some v:=by rw[h2];exact hv
   rw[Array.getElem?_toList,Array.getElem?_eq_getElem hj]at h3;rw[getElem!_pos _ j hj];exact bC h3
  rw[<-ht,cZ,aF,cU]at hv;rw[eA hbk,hv,e1];rfl
 have hworld:∀(m:Nat) (os:Array Obj) (dk:Array α),dk.size=L.length->∃cs',blk (sortWorldK enc k w kb o m dk os) kb=some cs'/\cs'.length=cs.length/\(cs'.drop o).take (L.length*k)=dk.toList.flatMap enc/\Ch (λj=>some kb=some j) w (sortWorldK enc k w kb o m dk os):=by
  intro m os dk hs;have hb2:blk (Go.Sort.ahead w m) kb=some cs:=hbk;obtain⟨cs',q1,q2,q3,q4⟩:=aJ1 (off:=o) (d:=flatK enc k dk) hb2 (by rw[size_flatK,hs];omega);have q5:=qJ (w:=putRowK enc k (Go.Sort.ahead w m) kb o dk) os;refine⟨cs',by rw[show sortWorldK enc k w kb o m dk os=Go.Sort.grow (putRowK enc k (Go.Sort.ahead w m) kb o dk) os by rfl,q5.blk (aH q1) id];exact q1,q2,?_,((⟨rfl,rfl,rfl,aQ _,λ_ _ _=>rfl⟩:Ch (λj=>some kb=some j) w (Go.Sort.ahead w m)).trans' ((q4.mono λx _ h=>by rw[h]).trans' (q5.mono λ_ _ h=>h.elim)))⟩;rw[size_flatK,hs,aEh henc]at q3;exact q3
 have gg:=AnyQ.slices_SortFunc Ly k aE zE enc henc (λx v hv=>by rw[qQ];exact h1 x v hv) cf hO g #[] kb o c L.toArray w eg (λm os dk hs x y=>by
  obtain⟨_,_,_,_,hc⟩:=hworld m os dk (by simpa using hs);exact(hcmp x y _ hc).mono λe w' ⟨he,hq⟩=>⟨he,hq.grow⟩) hH (aH hbk) (by simp;omega)
 refine Calls.mono gg λe w' ⟨he,d',n,os,hp,hs,hw⟩=>⟨_,he,?_⟩;obtain⟨hp1,_,hp3⟩:=hp;have hds:d'.size=L.length:=by simpa using hp1
 obtain⟨cs',q1,q2,q3,q4⟩:=hworld n os d' hds;rw[<-hw]at q1 q4;have hperm:d'.toList.Perm L:=by
  have e1:d'.extract 0 L.toArray.size=d':=by
   rw[show L.toArray.size=d'.size by rw[hp1]];simp
  rw[e1]at hp3;simpa using hp3
 refine hK w' d'.toList hperm ?_ ⟨by rw[mB henc,Array.length_toList,hds],g2,.inr ⟨kb,o,cs',rfl,rfl,q1,by omega,q3⟩⟩ q4;rw[List.pairwise_iff_getElem];intro i j hi hj hij;have:=hs i j (bQ _) hij (by simpa[hds]using hj);rw[getElem!_pos d' j (by simpa using hj),getElem!_pos d' i (by simpa using hi)]at this;simpa using this
end
end Go.Sv
namespace Go.Proofs
open Go.Shelf
def Tryz.laysSF6_ren:Go.Shelf.Ren:=⟨fun|6=>257|15=>276|14=>275|28=>296|29=>166|20=>288|21=>289|22=>290|23=>291|24=>292|25=>293|26=>294|27=>295|46=>301|47=>302|48=>303|49=>304|50=>305|57=>308|n=>n,fun|22=>81|24=>83|25=>252|3=>3|39=>73|0=>0|53=>165|55=>80|4=>4|46=>277|45=>276|50=>191|5=>5|9=>9|66=>282|70=>286|76=>288|77=>289|n=>n,fun|n=>n⟩
theorem Tryz.laysSF6:Go.Proofs.SlLaysF0.n6 Tryz.prog Tryz.laysSF6_ren:={
 mixed:=by kernel_rfl
 f6:=⟨Tryz.f257.name,by decide,Tryz.func257.trans (congrArg some (by kernel_rfl))⟩
 f14:=⟨Tryz.f275.name,by decide,Tryz.func275.trans (congrArg some (by kernel_rfl))⟩
 f15:=Tryz.func276.trans (congrArg some (by kernel_rfl))
 f20:=⟨Tryz.f288.name,by decide,Tryz.func288.trans (congrArg some (by kernel_rfl))⟩
 f21:=⟨Tryz.f289.name,by decide,Tryz.func289.trans (congrArg some (by kernel_rfl))⟩
 f22:=⟨Tryz.f290.name,by decide,Tryz.func290.trans (congrArg some (by kernel_rfl))⟩
 f23:=⟨Tryz.f291.name,by decide,Tryz.func291.trans (congrArg some (by kernel_rfl))⟩
 f24:=⟨Tryz.f292.name,by decide,Tryz.func292.trans (congrArg some (by kernel_rfl))⟩
 f25:=⟨Tryz.f293.name,by decide,Tryz.func293.trans (congrArg some (by kernel_rfl))⟩
 f26:=⟨Tryz.f294.name,by decide,Tryz.func294.trans (congrArg some (by kernel_rfl))⟩
 f27:=⟨Tryz.f295.name,by decide,Tryz.func295.trans (congrArg some (by kernel_rfl))⟩
 f28:=Tryz.func296.trans (congrArg some (by kernel_rfl))
 f29:=Tryz.func166.trans (congrArg some (by kernel_rfl))
 f46:=⟨Tryz.f301.name,by decide,Tryz.func301.trans (congrArg some (by kernel_rfl))⟩
 f47:=Tryz.func302.trans (congrArg some (by kernel_rfl))
 f48:=Tryz.func303.trans (congrArg some (by kernel_rfl))
 f49:=⟨Tryz.f304.name,by decide,Tryz.func304.trans (congrArg some (by kernel_rfl))⟩
 f50:=⟨Tryz.f305.name,by decide,Tryz.func305.trans (congrArg some (by kernel_rfl))⟩
 f57:=⟨Tryz.f308.name,by decide,Tryz.func308.trans (congrArg some (by kernel_rfl))⟩
 t0:=Tryz.underlying0
 a0:=Tryz.isAgg0
 z0:=Tryz.sizeOf0
 v0:=Tryz.zeroValue0
 t3:=Tryz.underlying3
 a3:=Tryz.isAgg3
 z3:=Tryz.sizeOf3
 v3:=Tryz.zeroValue3
 t4:=Tryz.underlying4
 a4:=Tryz.isAgg4
 z4:=Tryz.sizeOf4
 v4:=Tryz.zeroValue4
 t5:=Tryz.underlying5
 a5:=Tryz.isAgg5
 z5:=Tryz.sizeOf5
 v5:=Tryz.zeroValue5
 t9:=Tryz.underlying9
 a9:=Tryz.isAgg9
 z9:=Tryz.sizeOf9
 v9:=Tryz.zeroValue9
 t22:=Tryz.underlying81
 a22:=Tryz.isAgg81
 z22:=Tryz.sizeOf81
 v22:=Tryz.zeroValue81
 t25:=Tryz.underlying252
 a25:=Tryz.isAgg252
 z25:=Tryz.sizeOf252
 v25:=Tryz.zeroValue252
 t39:=Tryz.underlying73
 a39:=Tryz.isAgg73
 z39:=Tryz.sizeOf73
 v39:=Tryz.zeroValue73
 t45:=Tryz.underlying276
 a45:=Tryz.isAgg276
 z45:=Tryz.sizeOf276
 v45:=Tryz.zeroValue276
 t46:=Tryz.underlying277
 a46:=Tryz.isAgg277
 z46:=Tryz.sizeOf277
 v46:=Tryz.zeroValue277
 t50:=Tryz.underlying191
 a50:=Tryz.isAgg191
 z50:=Tryz.sizeOf191
 v50:=Tryz.zeroValue191
 t53:=Tryz.underlying165
 a53:=Tryz.isAgg165
 z53:=Tryz.sizeOf165
 v53:=Tryz.zeroValue165
 t55:=Tryz.underlying80
 a55:=Tryz.isAgg80
 z55:=Tryz.sizeOf80
 v55:=Tryz.zeroValue80
 t66:=Tryz.underlying282
 a66:=Tryz.isAgg282
 z66:=Tryz.sizeOf282
 v66:=Tryz.zeroValue282
 t70:=Tryz.underlying286
 a70:=Tryz.isAgg286
 z70:=Tryz.sizeOf286
 v70:=Tryz.zeroValue286
 t76:=Tryz.underlying288
 a76:=Tryz.isAgg288
 z76:=Tryz.sizeOf288
 v76:=Tryz.zeroValue288
 t77:=Tryz.underlying289
 a77:=Tryz.isAgg289
 z77:=Tryz.sizeOf289
 v77:=Tryz.zeroValue289 }
end Go.Proofs
namespace Go.Proofs.YtlfhjkgdlclddaaGreatDoor
open Go Go.Sv Go.Note Go.Sort Go.RowKit Go.Shelf
attribute [local irreducible] aS
theorem VRow.qt{Q:Nat->Prop}{w w':World}{p:Option Addr}{n:Nat}{l:List MV}(h:VRow Q w p n l)(q:Qt w w'):VRow Q w' p n l:=h.ch0 q.ch
theorem aJe{w:World}{b o:Nat}{v:Value}{K:World->Prop}{cs:List Value}(h:blk w b=some cs)(ho:o<cs.length)
 (hk:∀w',blk w' b=some (cs.set o v)->Ch (·=b) w w'->w'.heap.size=w.heap.size->w'.drawn=w.drawn->K w'):Sv.st w ⟨b,o,none⟩ v K:=by
 refine⟨?_,jW h ho,hk _ (sN h o v) (qN w b o v) (by simp) rfl⟩;show _=_;rw[eA h];simp[ho]
theorem nbq{w:World}{zs:List Value}(hl:zs.length=5){x:MV}{t:TypeId}{K:Addr->World->Prop}(hk:∀w',blk w' w.heap.size=some x.g->Qt w w'->w'.heap.size=w.heap.size+1->K ⟨w.heap.size,0,none⟩ w') :
 bP w zs t λa w1=>Sv.st w1 (Addr.add a 0) (.int .i64 x.k) λw2=>Sv.st w2 (Addr.add a 1) (.int .u64 (x.n:Int)) λw3=>Sv.st w3 (Addr.add a 2) (.string ⟨x.t.toArray⟩) λw4=>Sv.st w4 (Addr.add a 3) (.slice x.s.p x.s.n x.s.c) λw5=>Sv.st w5 (Addr.add a 4) (.int .i64 x.e) λw6=>K a w6:=by
 refine xL λw1 b1 q1 z1=>?_
 match zs,hl with
 | [z0,z1,z2,z3,z4],_ =>
  obtain⟨k,n,t,s,e,l⟩:=x;simp only[add_at,aL];refine aJe b1 (by simp) λw2 b2 c2 g2 d2=>aJe b2 (by simp) λw3 b3 c3 g3 d3=>aJe b3 (by simp) λw4 b4 c4 g4 d4=>aJe b4 (by simp) λw5 b5 c5 g5 d5=>aJe b5 (by simp) λw6 b6 c6 g6 d6=>?_;refine hk w6 b6 ⟨((((q1.ch.trans c2 λx hx h=>by omega).trans c3 λx hx h=>by omega).trans c4 λx hx h=>by omega).trans c5 λx hx h=>by omega).trans c6 λx hx h=>by omega,?_⟩ (by omega);have:=q1.dr;omega
theorem aWk{w:World}{b:Nat}{x y z:Int}{K:Value->World->Prop}(hb:blk w b=some [.int .i64 x,.int .i64 y,.int .i64 z])(hk:K (.int .i64 (oJ x (oJ y z))) w):bK Tryz.prog 277 [.slice (some ⟨b,0,none⟩) 3 3] w K:=by
 refine aGl ?_;refine⟨λm i w'=>∃j:Nat,i=(j:Int)/\j<=3/\m=3-j/\w'=w/\(0<j->x=0)/\(1<j->y=0)/\(2<j->z=0),⟨3,0,rfl,by omega,rfl,rfl,by omega,by omega,by omega⟩,?_⟩;rintro m i w1 ⟨j,rfl,hj,rfl,rfl,h0,h1,h2⟩;refine aC (λhlt=>?_) λhge=>?_
 ·have hlt':(j:Int)<3:=by simpa using hlt
  refine⟨by omega,by omega,?_⟩;simp only[nn,add_at,aM,Nat.mul_one,aL];have hc:j=0\/j=1\/j=2:=by omega
  rcases hc with rfl|rfl|rfl
  ·refine⟨x,by show _=_;rw[eA hb];rfl,aC (λh=>?_) λh=>?_⟩
   ·have h:x≠0:=by simpa using h
    unfold oJ at hk;rw[aF h]at hk;exact hk
   ·have h:x=0:=by simpa using h
    exact⟨2,by omega,1,by decide,by omega,rfl,by trivial,λ_=>h,by omega,by omega⟩
  ·refine⟨y,by show _=_;rw[eA hb];rfl,aC (λh=>?_) λh=>?_⟩
   ·have h:y≠0:=by simpa using h
    have hx:=h0 (by omega);unfold oJ at hk;rw[aD (by simp[hx]),aF h]at hk;exact hk
   ·have h:y=0:=by simpa using h
    exact⟨1,by omega,2,by decide,by omega,rfl,by trivial,λ_=>h0 (by omega),λ_=>h,by omega⟩
  ·refine⟨z,by show _=_;rw[eA hb];rfl,aC (λh=>?_) λh=>?_⟩
   ·have hx:=h0 (by omega);have hy:=h1 (by omega);unfold oJ at hk;rw[aD (by simp[hx]),aD (by simp[hy])]at hk;exact hk
   ·have h:z=0:=by simpa using h
    exact⟨0,by omega,3,by decide,by omega,rfl,by trivial,λ_=>h0 (by omega),λ_=>h1 (by omega),λ_=>h⟩
 ·have:j=3:=by
   have:¬(j:Int)<3:=by simpa using hge
   omega
  subst this;have hx:=h0 (by omega);have hy:=h1 (by omega);have hz:=h2 (by omega);subst hx hy hz;exact hk
theorem aWl{w:World}{b:Nat}{x y:Int}{K:Value->World->Prop}(hb:blk w b=some [.int .i64 x,.int .i64 y])(hk:K (.int .i64 (oJ x y)) w):bK Tryz.prog 277 [.slice (some ⟨b,0,none⟩) 2 2] w K:=by
 refine aGl ?_;refine⟨λm i w'=>∃j:Nat,i=(j:Int)/\j<=2/\m=2-j/\w'=w/\(0<j->x=0)/\(1<j->y=0),⟨2,0,rfl,by omega,rfl,rfl,by omega,by omega⟩,?_⟩;rintro m i w1 ⟨j,rfl,hj,rfl,rfl,h0,h1⟩;refine aC (λhlt=>?_) λhge=>?_
 ·have hlt':(j:Int)<2:=by simpa using hlt
  refine⟨by omega,by omega,?_⟩;simp only[nn,add_at,aM,Nat.mul_one,aL];have hc:j=0\/j=1:=by omega
  rcases hc with rfl|rfl
  ·refine⟨x,by show _=_;rw[eA hb];rfl,aC (λh=>?_) λh=>?_⟩
   ·have h:x≠0:=by simpa using h
    unfold oJ at hk;rw[aF h]at hk;exact hk
   ·have h:x=0:=by simpa using h
    exact⟨1,by omega,1,by decide,by omega,rfl,by trivial,λ_=>h,by omega⟩
  ·refine⟨y,by show _=_;rw[eA hb];rfl,aC (λh=>?_) λh=>?_⟩
   ·have hx:=h0 (by omega);unfold oJ at hk;rw[aD (by simp[hx])]at hk;exact hk
   ·have h:y=0:=by simpa using h
    exact⟨0,by omega,2,by decide,by omega,rfl,by trivial,λ_=>h0 (by omega),λ_=>h⟩
 ·have:j=2:=by
   have:¬(j:Int)<2:=by simpa using hge
   omega
  subst this;have hx:=h0 (by omega);have hy:=h1 (by omega);subst hx hy;exact hk
theorem aOm{x y:Int}{w:World}{K:Value->World->Prop}(hk:K (.int .i64 (Lib.compareInt x y)) w):bK Tryz.prog 278 [.int .i64 x,.int .i64 y] w K:=by
 refine(Tryz.cmp_Compare_int x y w).mono ?_;rintro e w' ⟨rfl,rfl⟩;exact⟨_,rfl,hk⟩
theorem aGy{x:Int}{w:World}{K:Value->World->Prop}(hk:K (.bool false) w):bK Tryz.prog 298 [.int .u64 x] w K:=by
 refine aDo ?_
 first
  | exact hk
  | (rw[show(x != x)=false by simp];exact hk)
  | (simpa using hk)
theorem aVo{x y:Int}{w:World}{K:Value->World->Prop}(hk:K (.int .i64 (Lib.compareInt x y)) w):bK Tryz.prog 279 [.int .u64 x,.int .u64 y] w K:=by
 refine zJ ?_;refine aGy ⟨_,rfl,aGy ⟨_,rfl,dJ (dJ ?_)⟩⟩;unfold Lib.compareInt at hk;refine aC (λh=>?_) λh=>aC (λh2=>?_) λh2=>?_
 ·have h:x<y:=by simpa using h
  rw[aF h]at hk;exact hk
 ·have h:¬x<y:=by simpa using h
  have h2:x>y:=by simpa using h2
  rw[aD h,aF h2]at hk;exact hk
 ·have h:¬x<y:=by simpa using h
  have h2:¬x>y:=by simpa using h2
  rw[aD h,aD h2]at hk;exact hk
theorem aVp{x y:Bs}{w:World}{K:Value->World->Prop}(hk:K (.int .i64 (Lib.compareBytes x y)) w):bK Tryz.prog 280 [.string ⟨x.toArray⟩,.string ⟨y.toArray⟩] w K:=by
 refine(Tryz.strings_Compare _ _ w).mono ?_;rintro e w' ⟨rfl,rfl⟩;refine⟨_,rfl,?_⟩;rw[cT,cT];exact hk
theorem aVq{Q Q':Nat->Prop}{l l':List MV}(ih:∀x∈l,∀(y:MV) {w:World} {K:Value->World->Prop},VR Q w x->VR Q' w y->(∀w',Qt w w'->K (.int .i64 (iO x.m y.m)) w')->bK Tryz.prog 258 [x.v,y.v] w K)
 {w:World} {p p':Option Addr} {n n' c c':Nat} (h1:VRow Q w p n l) (h2:VRow Q' w p' n' l') {K:Value->World->Prop} (hk:∀w',Qt w w'->K (.int .i64 (jS (l.map MV.m) (l'.map MV.m))) w') :
 bK Tryz.prog 281 [.slice p n c,.slice p' n' c',.func (.func 258) #[] #[]] w K:=by
 apply rX;have hl:=h1.1;have hl':=h2.1;have hn46:=h1.2.1;have hn46':=h2.2.1;refine⟨λm i w1=>∃j:Nat,i=(j:Int)/\m=n-j/\j<=n/\j<=n'/\Qt w w1/\jS (l.map MV.m) (l'.map MV.m)=jS ((l.drop j).map MV.m) ((l'.drop j).map MV.m),⟨n,0,rfl,rfl,bQ _,bQ _,Qt.refl _,rfl⟩,?_⟩;rintro m i w1 ⟨j,rfl,rfl,hj,hj',q1,heq⟩;rw[heq]at hk;refine aC (λh=>?_) (λh=>?_)
 ·have hjl:j<n:=by have:=aB h;omega
  obtain⟨x,hxi⟩:∃x,l[j]?=some x:=⟨l[j]'(by omega),aK _⟩;have hd:l.drop j=x::l.drop (j+1):=by
   rw[dB (by omega)];congr 1;rw[aK (by omega)]at hxi;exact bC hxi
  obtain⟨bx,ox,rfl,_,ax⟩:=(h1.qt q1).at hxi;refine⟨by omega,by omega,?_⟩;simp only[nn];refine ldR ax ?_;refine nbq rfl λw2 b2 q2 z2=>?_;refine aC (λhge=>?_) (λhge=>?_)
  ·have hjn:j=n':=by have:=aB hge;omega
   have:=hk w2 (q1.trans q2);rw[hd,bW (l:=l') (by omega)]at this;exact this
  ·have hjn:j<n':=by have:=aA hge;omega
   obtain⟨y,hyi⟩:∃y,l'[j]?=some y:=⟨l'[j]'(by omega),aK _⟩;have hd':l'.drop j=y::l'.drop (j+1):=by
    rw[dB (by omega)];congr 1;rw[aK (by omega)]at hyi;exact bC hyi
   obtain⟨by',oy,rfl,_,ay⟩:=(h2.qt (q1.trans q2)).at hyi;refine⟨by omega,by omega,?_⟩;simp only;refine ldR ay ?_;refine nbq rfl λw3 b3 q3 z3=>?_;have b2':=(q3.ch.blk (aH b2) id).trans b2;refine ldK b2' (ldK b3 ?_);have q13:=(q1.trans q2).trans q3;rw[vv x,vv y];rw[hd,hd',List.map_cons,List.map_cons,jS]at hk;refine⟨by kernel_rfl,ih x (bJ hxi) y ((h1.qt q13).2.2.2.2 x (bJ hxi)) ((h2.qt q13).2.2.2.2 y (bJ hyi)) λw4 q4=>⟨_,rfl,?_⟩⟩;refine aC (λh=>?_) (λh=>?_)
   ·have h:iO x.m y.m≠0:=by simpa using h
    have:=hk w4 (q13.trans q4);unfold oJ at this;rw[aF h]at this;exact this
   ·have h:iO x.m y.m=0:=by simpa using h
    rw[aW (n:=(j:Int)+1)];refine⟨n-(j+1),by omega,j+1,by omega,rfl,by omega,by omega,q13.trans q4,?_⟩;rw[heq,hd,hd',List.map_cons,List.map_cons,jS,h];rfl
 ·have hjl:j=n:=by have:=aA h;omega
  subst hjl;rw[bW (l:=l) (by omega)]at hk;refine aC (λh=>?_) (λh=>?_)
  ·have h:=aB h;have:=hk w1 q1;obtain⟨y,t,hy⟩:∃y t,l'.drop j=y::t:=by
    cases hd:l'.drop j with
    | nil=>have:=congrArg List.length hd;simp at this;omega
    | cons y t=>exact⟨y,t,rfl⟩
   rw[hy]at this;exact this
  ·have h:=aA h;have:=hk w1 q1;rw[bW (l:=l') (by omega)]at this;exact this
theorem aF3{Q Q':Nat->Prop}:∀(x y:MV) {w:World} {K:Value->World->Prop},VR Q w x->VR Q' w y->(∀w',Qt w w'->K (.int .i64 (iO x.m y.m)) w') ->
 bK Tryz.prog 258 [x.v,y.v] w K:=by
 refine MV.ind λk n t s e l ih=>?_;rintro⟨k',n',t',s',e',l'⟩ w K hx hy hk;apply aC9;refine xL λw1 b1 q1 z1=>xL λw2 b2 q2 z2=>?_;have b1':=(q2.ch.blk (aH b1) id).trans b1;have q12:=q1.trans q2;rw[MV.m_mk,MV.m_mk,iO]at hk;have b1d:blk w2.drew w.heap.size=some [.int .i64 k,.int .u64 (n:Int),.string ⟨t.toArray⟩,.slice s.p s.n s.c,.int .i64 e]:=b1';have b2d:blk w2.drew w1.heap.size=some [.int .i64 k',.int .u64 (n':Int),.string ⟨t'.toArray⟩,.slice s'.p s'.n s'.c,.int .i64 e']:=b2;simp only[add_at,aL];refine⟨_,aJ b1d 0 rfl,_,aJ b2d 0 rfl,_,aJ b1d 1 rfl,_,aJ b2d 1 rfl,_,aJ b1d 2 rfl,_,aJ b2d 2 rfl,?_⟩;refine aOm ⟨_,rfl,⟨_,aJ b2d 2 rfl,rfl⟩,⟨_,aJ b1d 2 rfl,rfl⟩,⟨_,aJ b2d 1 rfl,rfl⟩,⟨_,aJ b1d 1 rfl,rfl⟩,?_⟩;refine aVo ⟨_,rfl,⟨_,aJ b2d 2 rfl,rfl⟩,⟨_,aJ b1d 2 rfl,rfl⟩,?_⟩;refine aVp ⟨_,rfl,?_⟩;refine xL λw6 b6 q6 z6=>?_;refine aWk b6 ⟨_,rfl,?_⟩;have q26:Qt w2 w6:=(Qt.drew w2).trans q6;have q16:=q12.trans q26;have b16:=(q26.ch.blk (aH b1') id).trans b1';have b26:=(q26.ch.blk (aH b2) id).trans b2;have assoc:∀a b c d:Int,oJ a (oJ b (oJ c d))=oJ (oJ a (oJ b c)) d:=by
  intro a b c d;unfold oJ;by_cases ha:a=0
  ·by_cases hb:b=0
   ·simp[ha,hb]
   ·simp[ha,hb]
  ·simp[ha]
 rw[assoc]at hk;refine aC (λh=>?_) (λh=>?_)
 ·have h:oJ (Lib.compareInt k k') (oJ (Lib.compareInt n n') (Lib.compareBytes t t'))≠0:=by simpa using h
  have:=hk w6 q16;generalize oJ (Lib.compareInt k k') (oJ (Lib.compareInt n n') (Lib.compareBytes t t'))=z at h this ⊢;unfold oJ at this;rw[aF h]at this;exact this
 ·have h:oJ (Lib.compareInt k k') (oJ (Lib.compareInt n n') (Lib.compareBytes t t'))=0:=by simpa using h
  rw[h]at hk;have b16d:blk w6.drew w.heap.size=some [.int .i64 k,.int .u64 (n:Int),.string ⟨t.toArray⟩,.slice s.p s.n s.c,.int .i64 e]:=b16;have b26d:blk w6.drew w1.heap.size=some [.int .i64 k',.int .u64 (n':Int),.string ⟨t'.toArray⟩,.slice s'.p s'.n s'.c,.int .i64 e']:=b26;refine⟨_,_,_,aJ b16d 3 rfl,_,_,_,aJ b26d 3 rfl,_,aJ b16d 4 rfl,_,aJ b26d 4 rfl,?_⟩;have q16d:=q16.trans (Qt.drew w6);refine aVq ih (hx.row.qt q16d) (hy.row.qt q16d) λw8 q8=>⟨_,rfl,?_⟩;have b18:=(q8.ch.blk (aH b16d) id).trans b16d;have b28:=(q8.ch.blk (aH b26d) id).trans b26d;refine⟨⟨_,aJ b28 4 rfl,rfl⟩,⟨_,aJ b18 4 rfl,rfl⟩,?_⟩;refine aOm ⟨_,rfl,?_⟩;refine xL λw10 b10 q10 z10=>?_;refine aWl b10 ⟨_,rfl,?_⟩;exact hk w10 ((q16d.trans q8).trans q10)
def evens{α:Type}:List α->List α
 | []=>[]
 | [x]=>[x]
 | x::_::l=>x::evens l
theorem aM5(l:List MV):(evens l).map MV.m=fS (l.map MV.m):=by
 induction l using evens.induct with
 | case1=>rfl
 | case2 x=>rfl
 | case3 x y l ih=>simp[evens,fS,ih]
theorem aP4{α:Type}(l:List α):∀x∈evens l,x∈l:=by
 induction l using evens.induct with
 | case1=>simp[evens]
 | case2 x=>simp[evens]
 | case3 x y l ih =>
  intro z hz;simp only[evens,List.mem_cons]at hz ⊢;rcases hz with h|h
  ·exact .inl h
  ·exact .inr (.inr (ih z h))
theorem aP5{α:Type}(l:List α):(evens l).length=(l.length+1) / 2:=by
 induction l using evens.induct with
 | case1=>simp[evens]
 | case2 x=>simp[evens]
 | case3 x y l ih=>simp only[evens,aI,ih];omega
theorem aM4{α:Type}(l:List α):∀(j:Nat) (x:α),j%2=0->l[j]?=some x->evens (l.take (j+2))=evens (l.take j)++[x]:=by
 induction l using evens.induct with
 | case1=>intro j x _ h;simp at h
 | case2 y =>
  intro j x hj h;cases j with
  | zero=>simp at h;subst h;rfl
  | succ j=>simp at h
 | case3 y z l ih =>
  intro j x hj h
  match j,hj,h with
  | 0,_,h=>simp at h;subst h;rfl
  | 1,hj,_=>omega
  | j+2,hj,h =>
   simp only[List.getElem?_cons_succ]at h;have:=ih j x (by omega) h;simp only[List.take_succ_cons,evens,this,aO]
theorem aPq{w:World}(c:Nat)(hc:c<=2^40):∃w',(Instr.makeSlice 81 (.int .i64 0) (.int .i64 (c:Int))).run Tryz.prog w=.ok (.slice (some ⟨w.heap.size,0,none⟩) 0 c) w' /\
 Ow w' (some ⟨w.heap.size,0,none⟩) 0 c 5 [] (some w.heap.size)/\Ch (λ_=>False) w w':=by
 obtain⟨i,hi,h1,h2,h3⟩:=aU3;have hr:=run_make (P:=Tryz.prog) w 81 83 i _ aF6 hi h3 .i64 .i64 (0:Int) (c:Int) (by omega) (by omega) (by rw[h2];omega) (by omega);rw[aM,h1]at hr;refine⟨_,hr,⟨rfl,bQ _,.inr ⟨_,0,_,rfl,rfl,nF w (madeCells (.agg #[.int .i64 0,.int .u64 0,.string ⟨#[]⟩,.slice none 0 0,.int .i64 0]:Value).cells (c*5)).toList 83,?_,by simp⟩⟩,eV w _⟩;simp[madeCells]
theorem aX8{α:Type}(f:α->M):SWO (ltOf λx y:α=>iO (f x) (f y)):=by
 have key:∀x y:α,ltOf (λx y:α=>iO (f x) (f y)) x y=decide (iO (f x) (f y)<0):=λ_ _=>rfl;refine⟨λx=>?_,λx y z h k=>?_,λx y z h k=>?_⟩
 ·rw[key,(mV (f x) (f x)).2 rfl];decide
 ·rw[key]at *;exact aR (aC4 _ _ _ (aB h) (aB k))
 ·rw[key]at *;have h:=aA h;have k:=aA k;refine bB λhc=>?_;have a1:=uD (f x) (f y);have a2:=uD (f y) (f z);have a3:=uD (f x) (f z);by_cases e1:iO (f x) (f y)=0
  ·have:=(mV _ _).1 e1;rw[this]at hc;exact k hc
  ·by_cases e2:iO (f y) (f z)=0
   ·have:=(mV _ _).1 e2;rw[<-this]at hc;exact h hc
   ·have:=aC4 (f z) (f y) (f x) (by omega) (by omega);omega
theorem aSk{Q:Nat->Prop}{w:World}{p:Option Addr}{n c:Nat}{l:List MV}(h:VRow Q w p n l){K:Value->World->Prop}(hk:∀w',Ch (λ_=>False) w w'->K (.bool (jE (l.map MV.m))) w') :
 bK Tryz.prog 191 [.slice p n c] w K:=by
 apply aC6;have hl:=h.1;have hmod:Int.tmod (n:Int) 2=((n%2:Nat):Int):=by
  rw[Int.tmod_eq_emod_of_nonneg (by omega)];omega
 have hdiv:Int.tdiv (n:Int) 2=((n / 2:Nat):Int):=by
  rw[Int.tdiv_eq_ediv_of_nonneg (by omega)];omega
 have hml:(l.map MV.m).length=n:=by simp[hl]
 refine⟨λw1=>w1=w/\n%2=0/\n<=2048,?_,by decide,?_⟩
 rotate_left
 ·rw[hmod,eJ,Bool.not_not];refine aC (λh2=>?_) (λh2=>?_)
  ·have h2:=aB h2;refine aC (λh3=>?_) (λh3=>⟨by trivial,by omega,by have:=aA h3;omega⟩);have h3:=aB h3;have:=hk w (Ch.refl _ _);rw[show jE (l.map MV.m)=false by
    unfold jE;rw[hml,bB (p:=n / 2<=1024) (by omega)];simp]at this
   exact this
  ·have h2:=aA h2;have:=hk w (Ch.refl _ _);rw[show jE (l.map MV.m)=false by
    unfold jE;rw[hml,bB (p:=n%2=0) (by omega)];simp]at this
   exact this
 rintro w1 ⟨rfl,hev,hsm⟩;have hmap:jE (l.map MV.m)=decide (((evens l).map MV.m).Nodup):=by
  unfold jE;rw[hml,aR (p:=n%2=0) hev,aR (p:=n / 2<=1024) (by omega),aM5];simp
 rw[hmap]at hk;rw[hdiv,aW];obtain⟨w2,m1,o2,c2⟩:=aPq (w:=w1) (n / 2) (by omega);refine⟨by decide,_,_,_,w2,m1,?_⟩;have hlt:=h.lt
 -- the keys are gathered
 refine⟨λm p1 n1 c1 i w3=>∃(j:Nat) (own:Option Nat),i=(j:Int)/\j%2=0/\j<=n/\m=n-j/\n1=(evens (l.take j)).length/\Ow w3 p1 n1 c1 5 ((evens (l.take j)).flatMap MV.g) own/\(∀k,own=some k->w1.heap.size<=k)/\Ch (λ_=>False) w1 w3,
  ⟨n,0,some w1.heap.size,rfl,rfl,bQ _,rfl,rfl,by simpa[evens]using o2,λk hk=>by cases hk;exact aQ _,c2⟩,?_⟩
 rintro m p1 n1 c1 i w3 ⟨j,own,rfl,hj2,hjn,rfl,rfl,ho,hnew,c3⟩;have hkl:=aP5 (l.take j);rw[aU,hl,Nat.min_eq_left hjn]at hkl;refine aC (λhlt'=>?_) (λhge=>?_)
 ·have hjl:j<n:=by have:=aB hlt';omega
  obtain⟨x,hxi⟩:∃x,l[j]?=some x:=⟨l[j]'(by omega),aK _⟩;obtain⟨bx,ox,rfl,_,ax⟩:=(h.ch0 c3).at hxi;refine⟨by omega,by omega,?_⟩;simp only[nn];refine ldR ax ?_;rw[gg x];refine aBx (g:=MV.g) aF6 aU3 rfl MV.glen MV.gone ho x (by omega) (by omega) λp' c' b' w' o' n' hch=>?_;simp only[cF];rw[aW (n:=(j:Int)+2)];have het:=aM4 l j x hj2 hxi;refine⟨n-(j+2),by omega,j+2,b',by omega,by omega,by omega,rfl,by rw[het],by rw[het];exact o',λk hk=>?_,c3.trans hch λk hk h=>by have:=hnew k h;omega⟩;rcases n' k hk with q|q
  ·exact hnew k q
  ·have:=c3.size;omega
 ·have hjl:j=n:=by have:=aA hge;omega
  subst hjl;rw[aY (by omega)]at ho hkl ⊢;obtain⟨ks,hks⟩:∃ks,ks=evens l:=⟨_,rfl⟩;rw[<-hks]at ho hk hkl ⊢;have hkm:∀x∈ks,VR (λb=>Q b/\b<w1.heap.size) w1 x:=λx hx=>hlt.2.2.2.2 x (aP4 l x (by rw[<-hks];exact hx))
  -- behind the sort
  have behind:∀(w4:World) (L':List MV),L'.Perm ks->(L'.Pairwise λx y=>ltOf (λx y:MV=>iO x.m y.m) y x=false)->Ow w4 p1 ks.length c1 5 (L'.flatMap MV.g) own->Ch (λj=>own=some j) w3 w4 ->
   ∃I1:Nat->Int->World->Prop,(∃m1,I1 m1 1 w4)/\∀m1 n3 w5,I1 m1 n3 w5->aS (decide (n3<(ks.length:Int))) (0<=IntKind.i64.wrap (n3-1)/\IntKind.i64.wrap (n3-1)<(ks.length:Int)/\nn p1 λa=>0<=n3/\n3<(ks.length:Int)/\nn p1 λa1 =>
    ∃n4,w5.drew.cell? (Addr.add (Addr.add a (Int.toNat (IntKind.i64.wrap (n3-1))*5)) 0)=some (.int .i64 n4)/\∃n5,w5.drew.cell? (Addr.add (Addr.add a (Int.toNat (IntKind.i64.wrap (n3-1))*5)) 1)=some (.int .u64 n5)/\∃s,w5.drew.cell? (Addr.add (Addr.add a (Int.toNat (IntKind.i64.wrap (n3-1))*5)) 2)=some (.string s)/\∃p2 n6 c2,w5.drew.cell? (Addr.add (Addr.add a (Int.toNat (IntKind.i64.wrap (n3-1))*5)) 3)=some (.slice p2 n6 c2)/\∃n7,w5.drew.cell? (Addr.add (Addr.add a (Int.toNat (IntKind.i64.wrap (n3-1))*5)) 4)=some (.int .i64 n7) /\
    ∃n8,w5.drew.cell? (Addr.add (Addr.add a1 (Int.toNat n3*5)) 0)=some (.int .i64 n8)/\∃n9,w5.drew.cell? (Addr.add (Addr.add a1 (Int.toNat n3*5)) 1)=some (.int .u64 n9)/\∃s1,w5.drew.cell? (Addr.add (Addr.add a1 (Int.toNat n3*5)) 2)=some (.string s1)/\∃p3 n10 c3,w5.drew.cell? (Addr.add (Addr.add a1 (Int.toNat n3*5)) 3)=some (.slice p3 n10 c3)/\∃n11,w5.drew.cell? (Addr.add (Addr.add a1 (Int.toNat n3*5)) 4)=some (.int .i64 n11) /\
    bK Tryz.prog 258 [.agg (Array.mk [.int .i64 n4,.int .u64 n5,.string s,.slice p2 n6 c2,.int .i64 n7]),.agg (Array.mk [.int .i64 n8,.int .u64 n9,.string s1,.slice p3 n10 c3,.int .i64 n11])] w5.drew λv1 w6=>∃n12,v1=.int .i64 n12/\aS (n12 == 0) (K (.bool false) w6) (cF (IntKind.i64.wrap (n3+1)) λn13=>∃m',m'<m1/\I1 m' n13 w6)) (K (.bool true) w5):=by
   intro w4 L' hperm hsort ho4 c4;have hown:∀j,own=some j->w1.heap.size<=j:=hnew;have c14:Ch (λ_=>False) w1 w4:=c3.trans c4 λx hx h=>by have:=hown x h;omega
   have hLl:=hperm.length_eq;have hv4:∀x∈L',∀w',Ch (λ_=>False) w4 w'->VR (λb=>Q b/\b<w1.heap.size) w' x:=λx hx w' c=>(hkm x (hperm.mem_iff.1 hx)).ch0 (c14.trans' c);have hnd:((ks.map MV.m).Nodup↔(L'.map MV.m).Nodup):=((hperm.map MV.m).nodup_iff).symm;have hpw:(L'.map MV.m).Pairwise λx y=>¬iO y x<0:=by
    rw[List.pairwise_map];exact hsort.imp λh=>by unfold ltOf at h;exact aA h
   have hadj:=yB (L'.map MV.m) hpw;refine⟨λm1 n3 w5=>∃i:Nat,n3=(i:Int)/\1<=i/\m1=ks.length+1-i/\Ch (λ_=>False) w4 w5/\(i<=ks.length\/i=1)/\∀q x y,q+1<i->L'[q]?=some x->L'[q+1]?=some y->iO x.m y.m≠0,⟨ks.length,1,rfl,aQ _,by omega,Ch.refl _ _,.inr rfl,λq x y h=>by omega⟩,?_⟩;rintro m1 n3 w5 ⟨i,rfl,hi1,rfl,c5,hile,hall⟩;have c15:=c14.trans' c5;refine aC (λhlt2=>?_) (λhge2=>?_)
   ·have hil:i<ks.length:=by have:=aB hlt2;omega
    rw[aW (n:=(i:Int)-1)];obtain⟨x,hxi⟩:∃x,L'[i-1]?=some x:=⟨L'[i-1]'(by omega),aK _⟩;obtain⟨y,hyi⟩:∃y,L'[i]?=some y:=⟨L'[i]'(by omega),aK _⟩;have hrow5:Rd w5.drew p1 ks.length 5 (L'.flatMap MV.g):=ho4.rd.ch (c5.trans' (Ch.drew _)) λ_ _ _=>id;obtain⟨bx,ox,px,ax⟩:=hrow5.at MV.glen hxi (by decide);obtain⟨by',oy,py,ay⟩:=hrow5.at MV.glen hyi (by decide);rw[px]at py;obtain⟨rfl,rfl⟩:bx=by'/\ox=oy:=by simpa using py
    rw[px,show((i:Int)-1)=(((i-1:Nat)):Int) by omega];refine⟨by omega,by omega,?_⟩;simp only[nn];refine⟨by omega,by omega,?_⟩;refine ldR (i:=i-1) ax (ldR ay ?_);rw[vv x,vv y];refine aF3 x y (hv4 x (bJ hxi) _ (c5.trans' (Ch.drew _))) (hv4 y (bJ hyi) _ (c5.trans' (Ch.drew _))) λw6 q6=>⟨_,rfl,?_⟩;have c46:=(c5.trans' (Ch.drew _)).trans' q6.ch;refine aC (λh0=>?_) (λh0=>?_)
    ·have h0:iO x.m y.m=0:=by simpa using h0
     have hbad:¬(ks.map MV.m).Nodup:=by
      rw[hnd];exact hadj.2 ⟨i-1,x.m,y.m,by rw[dH,hxi];rfl,by rw[show i-1+1=i by omega,dH,hyi];rfl,h0⟩
     have:=hk w6 (c14.trans' c46);rw[bB hbad]at this;exact this
    ·have h0:iO x.m y.m≠0:=by simpa using h0
     simp only[cF];rw[aW (n:=(i:Int)+1)];refine⟨ks.length+1-(i+1),by omega,i+1,by omega,by omega,rfl,c46,.inl (by omega),λq a b hq ha hb=>?_⟩;by_cases e:q=i-1
     ·subst e;rw[show i-1+1=i by omega]at hb;rw[hxi]at ha;rw[hyi]at hb;cases ha;cases hb;exact h0
     ·exact hall q a b (by omega) ha hb
   ·have hge2:=aA hge2;have hgood:(ks.map MV.m).Nodup:=by
     rw[hnd];refine Classical.byContradiction λhb=>?_;obtain⟨q,a,b,h1,h2,h3⟩:=hadj.1 hb;rw[dH]at h1 h2;cases hx:L'[q]? with
     | none=>rw[hx]at h1;cases h1
     | some x =>
      cases hy:L'[q+1]? with
      | none=>rw[hy]at h2;cases h2
      | some y =>
       rw[hx]at h1;rw[hy]at h2;simp only[Option.map_some,Option.some.injEq]at h1 h2;subst h1 h2;have:=(List.getElem?_eq_some_iff.1 hy).1;exact hall q x y (by omega) hx hy h3
    have:=hk w5 c15;rw[aR hgood]at this;exact this
  by_cases hnil:ks=[]
  ·subst hnil;refine Calls.mono (AnyF.slices_SortFunc_none Tryz.laysSF6 p1 c1 (.func (.func 258) #[] #[]) w3) λe w' ⟨he,hw⟩=>⟨_,he,rfl,?_⟩;subst hw;exact behind w' [] (.refl _) .nil ho (Ch.refl _ _)
  ·obtain⟨x0,hx0⟩:=List.exists_mem_of_ne_nil ks hnil;haveI:Inhabited {x:MV // x∈ks}:=⟨⟨x0,hx0⟩⟩;have hal:ks.attach.length=ks.length:=List.length_attach ..;have hflat:(ks.attach.flatMap λx:{x:MV // x∈ks}=>x.1.g)=ks.flatMap MV.g:=by
    conv=>rhs;rw[<-List.attach_map_subtype_val ks,List.flatMap_map]
   have ho':Ow w3 p1 ks.attach.length c1 5 (ks.attach.flatMap λx:{x:MV // x∈ks}=>x.1.g) own:=by rw[hal,hflat];exact ho
   rw[<-hal];refine aRg (α:={x:MV // x∈ks}) Tryz.laysSF6 (k:=5) Tryz.isAgg83 Tryz.sizeOf83 (enc:=λx=>x.1.g) (λx=>x.1.glen) (λx=>x.1.gone) (aX8 λx:{x:MV // x∈ks}=>x.1.m) (g:=258) (λargs w=>iA (by kernel_rfl) args w)
    (λx y W hW=>?_) ho' (by decide) (by rw[hal];omega) λw4 L' hp hs o4 c4=>⟨rfl,?_⟩
   ·have c1W:Ch (λ_=>False) w1 W:=c3.trans hW λz hz h=>by have:=hnew z h;omega
    refine(aF3 x.1 y.1 (w:=W) (K:=λv w'=>v=.int .i64 (iO x.1.m y.1.m)/\Qt W w') ((hkm x.1 x.2).ch0 c1W) ((hkm y.1 y.2).ch0 c1W) λw' q=>⟨rfl,q⟩).mono λe w' ⟨v,he,hv,q⟩=>⟨by rw[he,hv],q⟩
   ·rw[hal]at o4 ⊢;have hp2:=hp.map Subtype.val;rw[List.attach_map_subtype_val]at hp2;refine behind w4 (L'.map Subtype.val) hp2 ?_ ?_ c4
    ·rw[List.pairwise_map];exact hs
    ·rw[List.flatMap_map];exact o4
end Go.Proofs.YtlfhjkgdlclddaaGreatDoor
namespace Go.Proofs.YtlfhjkgdlclddaaGreatDoor
open Go Go.Sv Go.Note
attribute [local irreducible] aS
theorem aLm(a b:Int):(a == b)=decide (a=b):=by by_cases h:a=b<;>simp[h]
theorem aWv{k:Int}(h0:0<=k)(h1:k<25){w:World}{K:Value->World->Prop}(hk:K (.tuple #[.bool (vE k),.bool (kB k),.bool (kT k)]) w) :
 bK Tryz.prog 255 [.int .i64 k] w K:=by
 apply aH0;simp only[aLm];refine⟨λb b1 b2 w1=>w1=w/\b=vE k/\b1=kB k/\b2=kT k,?_,?_⟩
 ·rintro b b1 b2 w1 ⟨rfl,rfl,rfl,rfl⟩;exact hk
 have e:∀(a b c:Bool),(a=true↔(1<=k/\k<=16/\k≠14))->(b=true↔(k=14\/(17<=k/\k<=20)))->(c=true↔21<=k)->a=vE k/\b=kB k/\c=kT k:=by
  intro a b c ha hb hc;have q1:vE k=true↔(1<=k/\k<=16/\k≠14):=by unfold vE;simp[and_assoc]
  have q2:kB k=true↔(k=14\/(17<=k/\k<=20)):=by unfold kB;simp
  have q3:kT k=true↔21<=k:=by unfold kT;simp
  exact⟨Bool.eq_iff_iff.2 (ha.trans q1.symm),Bool.eq_iff_iff.2 (hb.trans q2.symm),Bool.eq_iff_iff.2 (hc.trans q3.symm)⟩
 refine aC (λh=>?_) (λh=>?_)
 ·have h:=aB h;exact⟨by trivial,e _ _ _ (by simp;omega) (by simp;omega) (by simp;omega)⟩
 have hk0:=aA h;refine⟨λb w1=>w1=w/\b=decide (k=14\/(17<=k/\k<=20)),?_,?_⟩
 ·rintro b w1 ⟨rfl,rfl⟩;refine aC (λh=>?_) (λh=>?_)
  ·have h:=aB h;exact⟨by trivial,e _ _ _ (by simp;omega) (by simp;omega) (by simp;omega)⟩
  have hnt:=aA h;refine⟨λb w2=>w2=w1/\b=decide (21<=k),?_,?_⟩
  ·rintro b w2 ⟨rfl,rfl⟩;refine aC (λh=>?_) (λh=>?_)
   ·have h:=aB h;exact⟨by trivial,e _ _ _ (by simp;omega) (by simp;omega) (by simp;omega)⟩
   ·have h:=aA h;exact⟨by trivial,e _ _ _ (by simp;omega) (by simp;omega) (by simp;omega)⟩
  ·have t:∀(j:Int),21<=j->decide (k=j)=true->decide (k=j)=decide (21<=k):=λj hj h=>by
    have:=aB h;rw[h,aR (by omega)]
   refine aC (λh=>⟨by trivial,t 21 (by decide) h⟩) (λa1=>aC (λh=>⟨by trivial,t 22 (by decide) h⟩) (λa2=>aC (λh=>⟨by trivial,t 23 (by decide) h⟩) (λa3=>⟨by trivial,?_⟩)));have a1:=aA a1;have a2:=aA a2;have a3:=aA a3;exact decide_eq_decide.2 (by omega)
 ·have t:∀(j:Int),(j=14\/(17<=j/\j<=20))->decide (k=j)=true->decide (k=j)=decide (k=14\/(17<=k/\k<=20)):=λj hj h=>by
   have:=aB h;rw[h,aR (by omega)]
  refine aC (λh=>⟨by trivial,t 14 (by decide) h⟩) (λa1=>aC (λh=>⟨by trivial,t 17 (by decide) h⟩) (λa2=>aC (λh=>⟨by trivial,t 18 (by decide) h⟩) (λa3=>aC (λh=>⟨by trivial,t 19 (by decide) h⟩) (λa4=>⟨by trivial,?_⟩))));have a1:=aA a1;have a2:=aA a2;have a3:=aA a3;have a4:=aA a4;exact decide_eq_decide.2 (by omega)
theorem aR3(k:Int)(n:Nat)(t:Bs)(s:SL)(e:Int)(l:List MV):(MV.mk k n t s e l).m.extra=((!vE k && decide (n≠0)) || (!kB k && decide (t≠[])) || (!kT k && decide (l≠[])) || (decide (k≠23) && decide (e≠0))):=by
 rw[MV.m_mk,M.extra_mk];have:(List.map MV.m l≠[])↔l≠[]:=by cases l<;>simp
 rw[decide_eq_decide.2 this]
theorem aS6{Q:Nat->Prop}{x:MV}(h0:0<=x.k)(h1:x.k<25){w:World}(hx:VR Q w x){K:Value->World->Prop}(hk:∀w',Ch (λ_=>False) w w'->K (.bool x.m.extra) w') :
 bK Tryz.prog 188 [x.v] w K:=by
 obtain⟨k,n,t,s,e,l⟩:=x;apply aC7;refine oD (x:=.mk k n t s e l) λw1 b1 a1 c1 z1=>?_;simp only[add_at,aL];refine⟨_,aJ b1 0 rfl,?_⟩;refine aWv (k:=k) h0 h1 ⟨_,_,_,rfl,?_⟩;have hk:=hk w1 c1;rw[aR3]at hk;have hl:l.length=s.n:=hx.inv.1;have hls:(l≠[])↔(0<s.n):=by rw[<-hl];exact List.length_pos_iff.symm
 rw[decide_eq_decide.2 hls]at hk
 -- the last test
 have last:K (.bool (decide (k≠23) && decide (e≠0))) w1->∃n3,w1.cell? ⟨w.heap.size,0,none⟩=some (.int .i64 n3)/\aS (n3 != 23) (∃n4,w1.cell? ⟨w.heap.size,4,none⟩=some (.int .i64 n4)/\K (.bool (n4 != 0)) w1) (K (.bool false) w1):=λhk=>by
  refine⟨_,aJ b1 0 rfl,?_⟩;rw[eJ];refine aC (λh=>⟨_,aJ b1 4 rfl,?_⟩) (λh=>?_)
  ·rw[bG]at h;rw[aR (p:=k≠23) (aA h),Bool.true_and]at hk;rw[eJ,<-decide_not];exact hk
  ·rw[bF]at h;rw[bB (p:=k≠23) (by simpa using aB h),Bool.false_and]at hk;exact hk
 have parts:K (.bool ((!kT k && decide (0<s.n)) || (decide (k≠23) && decide (e≠0)))) w1->aS (!kT k) (∃p n2 c,w1.cell? ⟨w.heap.size,3,none⟩=some (.slice p n2 c)/\aS (!decide ((n2:Int)>0)) (∃n3,w1.cell? ⟨w.heap.size,0,none⟩=some (.int .i64 n3)/\aS (n3 != 23) (∃n4,w1.cell? ⟨w.heap.size,4,none⟩=some (.int .i64 n4)/\K (.bool (n4 != 0)) w1) (K (.bool false) w1)) (K (.bool true) w1))
  (∃n3,w1.cell? ⟨w.heap.size,0,none⟩=some (.int .i64 n3)/\aS (n3 != 23) (∃n4,w1.cell? ⟨w.heap.size,4,none⟩=some (.int .i64 n4)/\K (.bool (n4 != 0)) w1) (K (.bool false) w1)):=λhk=>by
  refine aC (λh=>⟨_,_,_,aJ b1 3 rfl,?_⟩) (λh=>?_)
  ·rw[h,Bool.true_and]at hk;refine aC (λh2=>last ?_) (λh2=>?_)
   ·rw[bG]at h2;rw[bB (p:=0<s.n) (by have:=aA h2;omega),Bool.false_or]at hk;exact hk
   ·rw[bF]at h2;rw[aR (p:=0<s.n) (by have:=aB h2;omega),Bool.true_or]at hk;exact hk
  ·rw[h,Bool.false_and,Bool.false_or]at hk;exact last hk
 have emp:(ByteArray.mk (Array.mk ([]:List UInt8)))=⟨([]:Bs).toArray⟩:=rfl;have textp:K (.bool ((!kB k && decide (t≠[])) || ((!kT k && decide (0<s.n)) || (decide (k≠23) && decide (e≠0))))) w1->aS (!kB k) (∃s2,w1.cell? ⟨w.heap.size,2,none⟩=some (.string s2)/\aS (!!(s2.toList == (ByteArray.mk (Array.mk ([]:List UInt8))).toList)) (aS (!kT k) (∃p n2 c,w1.cell? ⟨w.heap.size,3,none⟩=some (.slice p n2 c)/\aS (!decide ((n2:Int)>0)) (∃n3,w1.cell? ⟨w.heap.size,0,none⟩=some (.int .i64 n3)/\aS (n3 != 23) (∃n4,w1.cell? ⟨w.heap.size,4,none⟩=some (.int .i64 n4)/\K (.bool (n4 != 0)) w1) (K (.bool false) w1)) (K (.bool true) w1))
  (∃n3,w1.cell? ⟨w.heap.size,0,none⟩=some (.int .i64 n3)/\aS (n3 != 23) (∃n4,w1.cell? ⟨w.heap.size,4,none⟩=some (.int .i64 n4)/\K (.bool (n4 != 0)) w1) (K (.bool false) w1))) (K (.bool true) w1))
  (aS (!kT k) (∃p n2 c,w1.cell? ⟨w.heap.size,3,none⟩=some (.slice p n2 c)/\aS (!decide ((n2:Int)>0)) (∃n3,w1.cell? ⟨w.heap.size,0,none⟩=some (.int .i64 n3)/\aS (n3 != 23) (∃n4,w1.cell? ⟨w.heap.size,4,none⟩=some (.int .i64 n4)/\K (.bool (n4 != 0)) w1) (K (.bool false) w1)) (K (.bool true) w1))
  (∃n3,w1.cell? ⟨w.heap.size,0,none⟩=some (.int .i64 n3)/\aS (n3 != 23) (∃n4,w1.cell? ⟨w.heap.size,4,none⟩=some (.int .i64 n4)/\K (.bool (n4 != 0)) w1) (K (.bool false) w1))):=λhk=>by
  refine aC (λh=>⟨_,aJ b1 2 rfl,?_⟩) (λh=>?_)
  ·rw[h,Bool.true_and]at hk;rw[emp,nX,Bool.not_not];refine aC (λh2=>parts ?_) (λh2=>?_)
   ·rw[bB (p:=t≠[]) (by simpa using aB h2),Bool.false_or]at hk;exact hk
   ·rw[aR (p:=t≠[]) (aA h2),Bool.true_or]at hk;exact hk
  ·rw[h,Bool.false_and,Bool.false_or]at hk;exact parts hk
 simp only[Bool.or_assoc]at hk;refine aC (λh=>⟨_,aJ b1 1 rfl,?_⟩) (λh=>?_)
 ·rw[h,Bool.true_and]at hk;rw[eJ,Bool.not_not];refine aC (λh2=>textp ?_) (λh2=>?_)
  ·rw[bB (p:=n≠0) (by have:=aB h2;omega),Bool.false_or]at hk;exact hk
  ·rw[aR (p:=n≠0) (by have:=aA h2;omega),Bool.true_or]at hk;exact hk
 ·rw[h,Bool.false_and,Bool.false_or]at hk;exact textp hk
theorem vT{n b:Nat}(hn:n<18446744073709551616)(hb:b=8\/b=16\/b=32){w:World}{K:Value->World->Prop}(hk:K (.bool (sgn n b)) w) :
 bK Tryz.prog 256 [.int .u64 (n:Int),.int .i64 (b:Int)] w K:=by
 apply aA6;rw[aW (n:=(b:Int)-1)];refine⟨by omega,?_⟩;simp only[cF];rw[aLv hn];have hmin:min ((b:Int)-1).toNat 64=b-1:=by omega
 rw[hmin];have hpos:(0:Int)<2^(b-1):=Int.pow_pos (by decide);rw[cJ _ (by omega)];have key:∀z:Int,z=(if n<9223372036854775808 then(n:Int)else(n:Int)-18446744073709551616) / 2^(b-1)->((z=0\/z=-1)↔sgn n b=true):=by
  intro z hz;unfold sgn;rw[Bool.or_eq_true,bA,bA];rcases hb with rfl|rfl|rfl
  ·have e:(2:Int)^(8-1)=128:=by decide
   have e':2^(8-1)=128:=by decide
   have e2:2^64=18446744073709551616:=by decide
   rw[e]at hz;rw[e',e2];split at hz<;>omega
  ·have e:(2:Int)^(16-1)=32768:=by decide
   have e':2^(16-1)=32768:=by decide
   have e2:2^64=18446744073709551616:=by decide
   rw[e]at hz;rw[e',e2];split at hz<;>omega
  ·have e:(2:Int)^(32-1)=2147483648:=by decide
   have e':2^(32-1)=2147483648:=by decide
   have e2:2^64=18446744073709551616:=by decide
   rw[e]at hz;rw[e',e2];split at hz<;>omega
 have key:=key _ rfl;generalize (if n<9223372036854775808 then(n:Int)else(n:Int)-18446744073709551616) / 2^(b-1)=z at key ⊢;rw[aLm,aLm];refine aC (λh=>?_) (λh=>?_)
 ·rw[bG]at h;have h:=aA h;rw[show decide (z=-1)=sgn n b by
   cases hs:sgn n b with
   | true=>rw[aR ((key.2 hs).resolve_left h)]
   | false=>rw[bB (λe=>by rw[key.1 (.inr e)]at hs;cases hs)]]
  exact hk
 ·rw[bF]at h;rw[key.1 (.inl (aB h))]at hk;exact hk
theorem aSi{x:MV}(hf:x.n<18446744073709551616){w:World}{K:Value->World->Prop}(hk:∀w',Ch (λ_=>False) w w'->K (.bool x.m.num) w') :
 bK Tryz.prog 189 [x.v] w K:=by
 obtain⟨k,n,t,s,e,l⟩:=x;apply aC5;refine oD (x:=.mk k n t s e l) λw1 b1 a1 c1 z1=>?_;simp only[add_at,aL];refine⟨_,aJ b1 0 rfl,?_⟩;have hk:=hk w1 c1;rw[MV.m_mk,M.num_mk]at hk;simp only[aLm];have hn:n<18446744073709551616:=hf;refine aC (λh=>⟨_,aJ b1 1 rfl,?_⟩) (λh1=>?_)
 ·rw[aF (aB h)]at hk;rw[decide_eq_decide.2 (show((n:Int)<2)↔n<=1 by omega)];exact hk
 have h1:=aA h1;rw[aD h1]at hk;refine aC (λh=>⟨_,aJ b1 1 rfl,?_⟩) (λh2=>?_)
 ·rw[aF (aB h)]at hk;rw[decide_eq_decide.2 (show((n:Int)<256)↔n<=255 by omega)];exact hk
 have h2:=aA h2;rw[aD h2]at hk;refine aC (λh=>⟨_,aJ b1 1 rfl,?_⟩) (λh3=>?_)
 ·rw[aF (aB h)]at hk;rw[decide_eq_decide.2 (show((n:Int)<65536)↔n<=65535 by omega)];exact hk
 have h3:=aA h3;rw[aD h3]at hk;refine⟨λb w2=>w2=w1/\b=decide (k=4\/k=10\/k=12),?_,?_⟩
 rotate_left
 ·refine aC (λh=>⟨by trivial,?_⟩) (λa1=>aC (λh=>⟨by trivial,?_⟩) (λa2=>⟨by trivial,?_⟩))
  ·rw[h,aR (.inl (aB h))]
  ·rw[h,aR (.inr (.inl (aB h)))]
  ·exact decide_eq_decide.2 ⟨λe=>.inr (.inr e),λe=>(e.resolve_left (aA a1)).resolve_left (aA a2)⟩
 rintro b w2 ⟨rfl,rfl⟩;refine aC (λh=>⟨_,aJ b1 1 rfl,?_⟩) (λh4=>?_)
 ·rw[aF (aB h)]at hk;rw[decide_eq_decide.2 (show((n:Int)<4294967296)↔n<=4294967295 by omega)];exact hk
 have h4:=aA h4;rw[aD h4]at hk;refine aC (λh=>⟨_,aJ b1 1 rfl,?_⟩) (λh6=>?_)
 ·rw[aF (aB h)]at hk;exact vT hn (.inl rfl) ⟨_,rfl,hk⟩
 rw[aD (aA h6)]at hk;refine aC (λh=>⟨_,aJ b1 1 rfl,?_⟩) (λh7=>?_)
 ·rw[aF (aB h)]at hk;exact vT hn (.inr (.inl rfl)) ⟨_,rfl,hk⟩
 rw[aD (aA h7)]at hk;refine aC (λh=>⟨_,aJ b1 1 rfl,?_⟩) (λh8=>?_)
 ·rw[aF (aB h)]at hk;exact vT hn (.inr (.inr rfl)) ⟨_,rfl,hk⟩
 rw[aD (aA h8)]at hk;refine aC (λh=>⟨_,aJ b1 1 rfl,?_⟩) (λh15=>?_)
 ·rw[aF (aB h)]at hk;refine aC (λh5=>⟨_,aJ b1 1 rfl,?_⟩) (λh5=>?_)
  ·rw[bG]at h5;have h5:=aA h5;rw[bB (p:=n<55296) (by omega),Bool.false_or]at hk;refine aC (λh9=>⟨_,aJ b1 1 rfl,?_⟩) (λh9=>?_)
   ·have h9:=aB h9;rw[aR (p:=57343<n) (by omega),Bool.and_true]at hk;rw[decide_eq_decide.2 (show((n:Int)<=1114111)↔n<=1114111 by omega)];exact hk
   ·have h9:=aA h9;rw[bB (p:=57343<n) (by omega),Bool.and_false]at hk;exact hk
  ·rw[bF]at h5;have h5:=aB h5;rw[aR (p:=n<55296) (by omega),aR (p:=n<=1114111) (by omega)]at hk;exact hk
 ·rw[aD (aA h15)]at hk;exact hk
theorem aPy{x:MV}(hs:x.t.length<=2^48){w:World}(hL:LW w){K:Value->World->Prop}(hk:∀w',Ch (λ_=>False) w w'->K (.bool x.m.txt) w') :
 bK Tryz.prog 190 [x.v] w K:=by
 obtain⟨k,n,t,s,e,l⟩:=x;apply aA7;refine oD (x:=.mk k n t s e l) λw1 b1 a1 c1 z1=>?_;simp only[add_at,aL];refine⟨_,aJ b1 0 rfl,?_⟩;rw[MV.m_mk,M.txt_mk]at hk;simp only[aLm];have hsz:(ByteArray.mk t.toArray).size=t.length:=by simp[ByteArray.size]
 have hs:t.length<=2^48:=hs;refine⟨λb w2=>w2=w1/\b=decide (k=14\/k=17),?_,?_⟩
 rotate_left
 ·refine aC (λh=>⟨by trivial,?_⟩) (λa1=>⟨by trivial,?_⟩)
  ·rw[h,aR (.inl (aB h))]
  ·exact decide_eq_decide.2 ⟨λe=>.inr e,λe=>e.resolve_left (aA a1)⟩
 rintro b w2 ⟨rfl,rfl⟩;refine aC (λh=>⟨_,aJ b1 2 rfl,?_⟩) (λh14=>?_)
 ·have:=hk w2 c1;rw[aF (aB h)]at this;rw[hsz,decide_eq_decide.2 (show((t.length:Int)=16)↔t.length=16 by omega)];exact this
 rw[aD (aA h14)]at hk;refine aC (λh=>⟨_,aJ b1 2 rfl,?_⟩) (λh19=>?_)
 ·rw[aF (aB h)]at hk;refine aDr (by rw[hsz];omega) (hL.ch0 c1).ut (by have:=(hL.ch0 c1).size;omega) λr w3 c3 hp=>⟨_,rfl,?_⟩;rw[cT]at hp;have:=hk w3 (c1.trans' c3);rw[show decide (r<0)=lB t by
   cases ht:lB t with
   | true=>rw[aR (by have:=hp.1 ht;omega)]
   | false=>rw[bB (by have:=hp.2 ht;omega)]]
  exact this
 rw[aD (aA h19)]at hk;refine aC (λh=>⟨_,aJ b1 2 rfl,?_⟩) (λh20=>?_)
 ·rw[aF (aB h)]at hk;refine zK (by rw[hsz];omega) λr hp=>⟨_,rfl,?_⟩;rw[cT]at hp;have:=hk w2 c1;rw[show decide (r<0)=jI t by
   cases ht:jI t with
   | true=>rw[aR (by have:=hp.1 ht;omega)]
   | false=>rw[bB (by have:=hp.2 ht;omega)]]
  exact this
 ·rw[aD (aA h20)]at hk;exact hk w2 c1
theorem aPz{x:MV}{cb:Nat}{y:MV}{w:World}(hb:blk w cb=some y.g){K:Value->World->Prop}(hk:∀w',Ch (λ_=>False) w w'->K (.bool (decide (x.k≠y.e))) w') :
 bK Tryz.prog 260 [x.v,.pointer (some ⟨cb,0,none⟩)] w K:=by
 obtain⟨k,n,t,s,e,l⟩:=x;obtain⟨k',n',t',s',e',l'⟩:=y;apply wH;refine oD (x:=.mk k n t s e l) λw1 b1 a1 c1 z1=>?_;have hb1:=(c1.blk (aH hb) id).trans hb;simp only[add_at,aL,nn];refine⟨_,aJ b1 0 rfl,_,aJ hb1 4 rfl,?_⟩;have:=hk w1 c1;rw[eJ,<-decide_not];exact this
theorem aM1{Q:Nat->Prop}{x:MV}{w:World}(hx:VR Q w x){K:Value->World->Prop}(hk:∀w',Ch (λ_=>False) w w'->K (.bool (gF x.e (x.l.map MV.m))) w') :
 bK Tryz.prog 192 [x.v] w K:=by
 obtain⟨k,n,t,s,e,l⟩:=x;apply zC;refine oD (x:=.mk k n t s e l) λw1 b1 a1 c1 z1=>?_;simp only[add_at,aL];have hk:∀w',Ch (λ_=>False) w w'->K (.bool (gF e (l.map MV.m))) w':=hk;refine⟨λw2=>w2=w1/\0<e/\e<24,?_,_,aJ b1 4 rfl,?_⟩
 ·rintro w2 ⟨rfl,h0,h1⟩;refine⟨_,_,_,aJ b1 3 rfl,?_⟩;apply qS;apply uU;have hrow:=(hx.ch0 c1).row;have hl:=hrow.1;have hn46:=hrow.2.1;simp only[MV.s_mk,MV.l_mk]at hrow hl hn46;have harr:∀b:Bool,b=(l.map MV.m).all (λx=>decide (x.k=e))->∀w',Ch (λ_=>False) w w'->K (.bool b) w':=λb hb w' c=>by
   have:=hk w' c;unfold gF at this;rw[aR h0,aR h1,<-hb]at this;exact this
  refine⟨λm i w3=>∃j:Nat,i=(j:Int)/\m=s.n-j/\j<=s.n/\Ch (λ_=>False) w2 w3/\∀q,q<j->∀y,l[q]?=some y->y.k=e,⟨s.n,0,rfl,rfl,bQ _,Ch.refl _ _,λq hq=>by omega⟩,?_⟩;rintro m i w3 ⟨j,rfl,rfl,hj,c3,hall⟩;refine aC (λh=>?_) (λh=>?_)
  ·have hjl:j<s.n:=by have:=aB h;omega
   obtain⟨y,hyi⟩:∃y,l[j]?=some y:=⟨l[j]'(by omega),aK _⟩;obtain⟨by',oy,py,_,ay⟩:=(hrow.ch0 c3).at hyi;refine⟨by omega,by omega,?_⟩;rw[py];simp only[nn];refine ldR ay ?_;rw[vv y];refine⟨by kernel_rfl,aPz (y:=.mk k n t s e l) ((c3.blk (aH b1) id).trans b1) λw4 c4=>⟨_,rfl,?_⟩⟩;have c24:=c3.trans' c4;refine aC (λhne=>?_) (λhne=>?_)
   ·refine⟨_,rfl,?_⟩;have hne:=aB hne;refine⟨_,rfl,harr _ ?_ w4 (c1.trans' c24)⟩;rw[aR (show(j:Int)>=0 by omega)];symm;rw[Bool.not_true,List.all_eq_false];refine⟨y.m,List.mem_map.2 ⟨y,bJ hyi,rfl⟩,?_⟩;have:y.m.k=y.k:=by cases y;rw[MV.m_mk];rfl
    rw[this];exact λh=>hne (aB h)
   ·rw[aW (n:=(j:Int)+1)];refine⟨s.n-(j+1),by omega,j+1,by omega,rfl,by omega,c24,λq hq z hz=>?_⟩;by_cases e1:q=j
    ·subst e1;rw[hyi]at hz;cases hz;have:=aA hne;exact Classical.not_not.1 this
    ·exact hall q (by omega) z hz
  ·have hjl:j=s.n:=by have:=aA h;omega
   refine⟨_,rfl,?_⟩;refine⟨_,rfl,harr _ ?_ w3 (c1.trans' c3)⟩;symm;rw[bB (by decide),Bool.not_false,List.all_eq_true];intro z hz;obtain⟨y,hy,rfl⟩:=List.mem_map.1 hz;obtain⟨q,hq,he⟩:=List.mem_iff_getElem.1 hy;have:y.m.k=y.k:=by cases y;rw[MV.m_mk];rfl
   rw[this];exact aR (hall q (by omega) y (by rw[aK hq,he]))
 ·refine aC (λh=>⟨_,aJ b1 4 rfl,?_⟩) (λh=>?_)
  ·rw[bG]at h;have h:=aA h;refine aC (λh2=>?_) (λh2=>⟨by trivial,by omega,by have:=aA h2;omega⟩);have h2:=aB h2;have:=hk w1 c1;rw[show gF e (l.map MV.m)=false by unfold gF;rw[bB (p:=e<24) (by omega)];simp]at this;exact this
  ·rw[bF]at h;have h:=aB h;have:=hk w1 c1;rw[show gF e (l.map MV.m)=false by unfold gF;rw[bB (p:=0<e) (by omega)];simp]at this;exact this
theorem aT7{Q:Nat->Prop}{x:MV}{d:Nat}(hf:x.n<18446744073709551616)(hs:x.t.length<=2^48){w:World}(hL:LW w)(hx:VR Q w x){K:Value->World->Prop}(hk:∀w',Ch (λ_=>False) w w'->K (.int .i64 (x.m.own d:Int)) w') :
 bK Tryz.prog 130 [x.v,.int .i64 (d:Int)] w K:=by
 obtain⟨k,n,t,s,e,l⟩:=x;apply aC8;refine oD (x:=.mk k n t s e l) λw1 b1 a1 c1 z1=>?_;simp only[add_at,aL];have hown:(MV.mk k n t s e l).m.own d=if k<0\/25<=k then 20
  else if 32<d then 26
  else if(MV.mk k n t s e l).m.extra=true then 25
  else if(MV.mk k n t s e l).m.num=false then 21
  else if(MV.mk k n t s e l).m.txt=false then 22
  else if k=22/\jE (l.map MV.m)=false then 23
  else if k=23/\gF e (l.map MV.m)=false then 24
  else if k=24/\l.length≠2 then 27
  else 0:=by
  rw[MV.m_mk,M.own_mk];rw[eI]
 rw[hown]at hk;have hl:l.length=s.n:=hx.inv.1;simp only[aLm];refine⟨λw2=>Ch (λ_=>False) w w2/\(MV.mk k n t s e l).m.own d=0,?_,_,aJ b1 0 rfl,?_⟩
 ·rintro w2 ⟨c2,h0⟩;have:=hk w2 c2;rw[<-hown,h0]at this;exact this
 rw[hown];refine aC (λh=>?_) (λh=>?_)
 rotate_left
 ·rw[bF]at h;have:=hk w1 c1;rw[aF (.inl (aB h))]at this;exact this
 rw[bG]at h;have h0:=aA h;refine⟨_,aJ b1 0 rfl,?_⟩;refine aC (λh=>?_) (λh=>?_)
 ·have h:=aB h;have:=hk w1 c1;rw[aF (.inr (by omega))]at this;exact this
 have h1:=aA h;rw[aD]at hk ⊢;refine aC (λh=>?_) (λh=>?_)
 ·have h:=aB h;have:=hk w1 c1;rw[aF]at this;exact this
 have hd:=aA h;rw[aD]at hk ⊢;refine rF b1 ?_;rw[vv];refine aS6 (by show 0<=k;omega) (by show k<25;omega) (hx.ch0 c1) λw2 c2=>⟨_,rfl,?_⟩;have b2:=(c2.blk (aH b1) id).trans b1;have c12:=c1.trans' c2;refine aC (λh=>?_) (λh=>?_)
 ·have:=hk w2 c12;rw[aF h]at this;exact this
 rw[aD (by rw[h];decide)]at hk ⊢;refine rF b2 ?_;rw[vv];refine aSi hf λw3 c3=>⟨_,rfl,?_⟩;have b3:=(c3.blk (aH b2) id).trans b2;have c13:=c12.trans' c3;refine aC (λh=>?_) (λh=>?_)
 ·rw[bG]at h;have:=hk w3 c13;rw[aF h]at this;exact this
 rw[bF]at h;rw[aD (by rw[h];decide)]at hk ⊢;refine rF b3 ?_;rw[vv];refine aPy hs (hL.ch0 c13) λw4 c4=>⟨_,rfl,?_⟩;have b4:=(c4.blk (aH b3) id).trans b3;have c14:=c13.trans' c4;refine aC (λh=>?_) (λh=>?_)
 ·rw[bG]at h;have:=hk w4 c14;rw[aF h]at this;exact this
 rw[bF]at h;rw[aD (by rw[h];decide)]at hk ⊢
 -- the last tests
 have deep:∀w5,blk w5 w.heap.size=some (MV.mk k n t s e l).g->Ch (λ_=>False) w w5->(∀w',Ch (λ_=>False) w w'->K (.int .i64 ((if k=24/\l.length≠2 then 27 else 0:Nat):Int)) w')->∀J:World->Prop,(k=24/\l.length≠2->False)\/True->((¬(k=24/\l.length≠2))->J w5) ->
  ∃n21,w5.cell? ⟨w.heap.size,0,none⟩=some (.int .i64 n21)/\aS (decide (n21=24)) (∃p5 n22 c5,w5.cell? ⟨w.heap.size,3,none⟩=some (.slice p5 n22 c5)/\aS ((n22:Int) != 2) (K (.int .i64 27) w5) (J w5)) (J w5):=by
  intro w5 b5 c5 hk5 J _ hJ;refine⟨_,aJ b5 0 rfl,?_⟩;refine aC (λh=>⟨_,_,_,aJ b5 3 rfl,?_⟩) (λh=>hJ λe=>aA h e.1);have h:=aB h;rw[eJ];refine aC (λh2=>?_) (λh2=>hJ λe=>?_)
  ·rw[bG]at h2;have h2:=aA h2;have:=hk5 w5 c5;rw[aF ⟨h,by omega⟩]at this;exact this
  ·rw[bF]at h2;have h2:=aB h2;exact e.2 (by omega)
 have arr:∀w5,blk w5 w.heap.size=some (MV.mk k n t s e l).g->Ch (λ_=>False) w w5->(∀w',Ch (λ_=>False) w w'->K (.int .i64 ((if k=23/\gF e (l.map MV.m)=false then 24 else if k=24/\l.length≠2 then 27 else 0:Nat):Int)) w')->∀J:World->Prop,(∀w',Ch (λ_=>False) w w'->(if k=23/\gF e (l.map MV.m)=false then 24 else if k=24/\l.length≠2 then 27 else 0)=0->J w') ->
  ∃n16,w5.cell? ⟨w.heap.size,0,none⟩=some (.int .i64 n16)/\aS (decide (n16=23)) (∃n17,w5.cell? ⟨w.heap.size,0,none⟩=some (.int .i64 n17)/\∃n18,w5.cell? ⟨w.heap.size,1,none⟩=some (.int .u64 n18)/\∃s3,w5.cell? ⟨w.heap.size,2,none⟩=some (.string s3)/\∃p4 n19 c4,w5.cell? ⟨w.heap.size,3,none⟩=some (.slice p4 n19 c4)/\∃n20,w5.cell? ⟨w.heap.size,4,none⟩=some (.int .i64 n20) /\
   bK Tryz.prog 192 [.agg (Array.mk [.int .i64 n17,.int .u64 n18,.string s3,.slice p4 n19 c4,.int .i64 n20])] w5 λv4 w6=>∃b4,v4=.bool b4/\aS (!b4) (K (.int .i64 24) w6) (∃n21,w6.cell? ⟨w.heap.size,0,none⟩=some (.int .i64 n21)/\aS (decide (n21=24)) (∃p5 n22 c5,w6.cell? ⟨w.heap.size,3,none⟩=some (.slice p5 n22 c5)/\aS ((n22:Int) != 2) (K (.int .i64 27) w6) (J w6)) (J w6)))
   (∃n17,w5.cell? ⟨w.heap.size,0,none⟩=some (.int .i64 n17)/\aS (decide (n17=24)) (∃p4 n18 c4,w5.cell? ⟨w.heap.size,3,none⟩=some (.slice p4 n18 c4)/\aS ((n18:Int) != 2) (K (.int .i64 27) w5) (J w5)) (J w5)):=by
  intro w5 b5 c5 hk5 J hJ;refine⟨_,aJ b5 0 rfl,?_⟩;refine aC (λh=>?_) (λh=>?_)
  ·have h:=aB h;refine rF b5 ?_;rw[vv];refine aM1 (hx.ch0 c5) λw6 c6=>⟨_,rfl,?_⟩;have b6:=(c6.blk (aH b5) id).trans b5;have c56:=c5.trans' c6;refine aC (λh2=>?_) (λh2=>?_)
   ·rw[bG]at h2;have:=hk5 w6 c56;rw[aF ⟨h,h2⟩]at this;exact this
   ·rw[bF]at h2;have hno:¬(k=23/\gF e (l.map MV.m)=false):=λq=>by
     have:gF e (l.map MV.m)=true:=h2;rw[this]at q;exact absurd q.2 (by decide)
    rw[aD hno]at hk5 hJ;exact deep w6 b6 c56 hk5 J (.inr trivial) λhn=>hJ w6 c56 (aD hn)
  ·have h:=aA h;rw[aD (λe=>h e.1)]at hk5 hJ;exact deep w5 b5 c5 hk5 J (.inr trivial) λhn=>hJ w5 c5 (aD hn)
 refine⟨_,aJ b4 0 rfl,?_⟩;refine aC (λh22=>?_) (λh22=>?_)
 ·have h22:=aB h22;refine⟨_,_,_,aJ b4 3 rfl,?_⟩;refine aSk (hx.ch0 c14).row λw5 c5=>⟨_,rfl,?_⟩;have b5:=(c5.blk (aH b4) id).trans b4;have c15:=c14.trans' c5;refine aC (λh2=>?_) (λh2=>?_)
  ·rw[bG]at h2;have:=hk w5 c15;rw[aF ⟨h22,h2⟩]at this;exact this
  ·rw[bF]at h2;have hno:¬(k=22/\jE (l.map MV.m)=false):=λe=>by
    have:jE (l.map MV.m)=true:=h2;rw[this]at e;exact absurd e.2 (by decide)
   rw[aD hno]at hk ⊢;exact arr w5 b5 c15 hk _ λw' c h=>⟨c,h⟩
 ·have h22:=aA h22;rw[aD (λe=>h22 e.1)]at hk ⊢;exact arr w4 b4 c14 hk _ λw' c h=>⟨c,h⟩
end Go.Proofs.YtlfhjkgdlclddaaGreatDoor
namespace Go.Sv
open Go
theorem nD(w:World)(l:Nat)(o:Obj):Ch (·=l) w (w.putObj l o) :=
 ⟨rfl,rfl,rfl,by simp[World.putObj],λb hb hn=>by
  simp only[World.putObj];rw[Array.getElem?_setIfInBounds_ne (λe=>hn e.symm)]⟩
theorem aPj{w:World}{l:Nat}(h:l<w.heap.size)(o:Obj):lY (w.putObj l o) l=some o:=by
 unfold lY;simp[World.putObj,h]
@[simp] theorem putObj_size (w:World) (l:Nat) (o:Obj):(w.putObj l o).heap.size=w.heap.size:=by simp[World.putObj]
theorem lX{S:Nat->Prop}{w w':World}{l:Nat}{o:Obj}(h:lY w l=some o)(c:Ch S w w')(hn:¬S l):lY w' l=some o:=by
 unfold lY at h ⊢;rw[c.keep l (gL h) hn];exact h
theorem aDq{w:World}{l:Nat}{o:Obj}(h:lY w l=some o):l<w.heap.size:=gL h
theorem aHh(w:World)(o:Obj):lY (w.alloc o) w.heap.size=some o:=heap_alloc_new w o
theorem recAt.put{w:World}{l:Nat}{rc:mE}{s s':LoopState}{j j':Option Code}(h:recAt w l rc s j):recAt (w.putObj l (rc s' j')) l rc s' j':=aPj (aDq h) _
theorem recAt.ch{S:Nat->Prop}{w w':World}{l:Nat}{rc:mE}{s:LoopState}{j:Option Code}(h:recAt w l rc s j)(c:Ch S w w')(hn:¬S l):recAt w' l rc s j:=lX h c hn
theorem aJb{w:World}{r:Nat}{K:World->Prop}(h:lY w r=some (.deferred (some [])))(hk:∀w',Ch (·=r) w w'->w'.heap.size=w.heap.size->K w'):aNo w r K:=⟨h,hk _ (nD w r _) (by simp)⟩
end Go.Sv
namespace Go.Proofs.YtlfhjkgdlclddaaGreatDoor
open Go Go.Sv Go.Note
attribute [local irreducible] aS
theorem aGv{x:Nat}{l:List Nat}(h:x∈l):x<=l.sum:=by
 induction l with
 | nil=>cases h
 | cons y l ih =>
  rw[List.sum_cons];rcases List.mem_cons.1 h with h|h
  ·omega
  ·have:=ih h;omega
theorem aI3{P:Program}{l:Nat}{args:List Value}{w:World}{K K':Value->World->Prop}(h:sH P l args w K)(hk:∀v w',K v w'->K' v w'):sH P l args w K':=by
 obtain⟨fn,tmps,assign,body,h1,h2⟩:=h;exact⟨fn,tmps,assign,body,h1,RoundIn.mono h2 λe w' ⟨v,he,hv⟩=>⟨v,he,hk _ _ hv⟩⟩
theorem aMm(w:World)(rc:mE):Ch (λ_=>False) w ((w.alloc (.deferred (some []))).alloc (rc .ready none))/\lY ((w.alloc (.deferred (some []))).alloc (rc .ready none)) w.heap.size=some (.deferred (some [])) /\
 recAt ((w.alloc (.deferred (some []))).alloc (rc .ready none)) (w.heap.size+1) rc .ready none/\((w.alloc (.deferred (some []))).alloc (rc .ready none)).heap.size=w.heap.size+2:=by
 refine⟨(eV w _).trans' (eV _ _),?_,?_,by simp⟩
 ·exact lX (aHh w _) (eV _ _) id
 ·have:=aHh (w.alloc (.deferred (some []))) (rc .ready none);simpa[recAt]using this
theorem aUh{Q S:Nat->Prop}{l:Nat}{Inv:World->Prop}{Stop:Nat->World->Prop}(hst:∀w w',Inv w->Ch (λ_=>False) w w'->Inv w')(hS:∀w,Inv w->∀j,S j->j<w.heap.size)(hQ:∀b,Q b->¬S b)
 (hy:∀(x:MV) (d:Nat) (w:World),Inv w->VR Q w x->x.n<18446744073709551616->x.t.length<=2^48->sH Tryz.prog l [.int .i64 (d:Int),x.v] w λv w'=>Ch S w w'/\((x.m.own d=0/\v=.bool true/\Inv w')\/(x.m.own d≠0/\v=.bool false/\Stop (x.m.own d) w'))) :
 ∀(x:MV) (d:Nat) (w:World) (K:Value->World->Prop),d<=33->Inv w->VR Q w x->x.m.fits->x.m.sz<=2^48 ->
  (∀w',x.m.check d=0->Inv w'->Ch S w w'->K (.bool true) w')->(∀w',x.m.check d≠0->Stop (x.m.check d) w'->Ch S w w'->K (.bool false) w') ->
  bK Tryz.prog 187 [x.v,.int .i64 (d:Int),.func (.yield l) #[] #[]] w K:=by
 refine MV.ind λk n t s e ls ih=>?_;intro d w K hd hI hx hf hsz hk1 hk2;apply aFb;refine oD (x:=.mk k n t s e ls) λw1 b1 a1 c1 z1=>?_;have hI1:=hst _ _ hI c1;have hx1:=hx.ch0 c1;simp only[add_at,aL];refine rF b1 ?_;rw[vv];rw[MV.m_mk]at hf hsz;have htl:t.length<=2^48:=by rw[M.sz_mk]at hsz;omega
 have hcl:(MV.mk k n t s e ls).m.check d=if(MV.mk k n t s e ls).m.own d≠0 then(MV.mk k n t s e ls).m.own d else M.checkL (d+1) (ls.map MV.m):=by
  rw[MV.m_mk,M.check]
 have hn64:n<18446744073709551616:=by cases hf with|mk h _=>exact h
 have hfl:∀x∈ls,x.m.fits:=λx hx=>by
  cases hf with|mk _ h=>exact h x.m (List.mem_map.2 ⟨x,hx,rfl⟩)
 have hszl:∀x∈ls,x.m.sz<=2^48:=λx hx=>by
  rw[M.sz_mk]at hsz;have:=aGv (List.mem_map.2 ⟨x.m,List.mem_map.2 ⟨x,hx,rfl⟩,rfl⟩:x.m.sz∈(ls.map MV.m).map M.sz);omega
 have cS:∀ {a b:World},Ch (λ_=>False) a b->Ch S a b:=λc=>c.mono λ_ _ h=>h.elim;show sH _ _ _ _ _;refine aI3 (hy (.mk k n t s e ls) d w1 hI1 hx1 hn64 htl) ?_;rintro v w2 ⟨c2,hv⟩;have c12:Ch S w w2:=(cS c1).trans' c2;have hns:¬S w.heap.size:=λh=>by have:=hS w hI _ h;omega
 rcases hv with⟨h0,rfl,hI2⟩|⟨h0,rfl,hst2⟩
 ·refine⟨_,rfl,dJ ?_⟩;have b2:=(c2.blk (aH b1) hns).trans b1;refine⟨_,_,_,aJ b2 3 rfl,?_⟩;have hd32:d<=32:=by
   have:=zB h0;exact this.2.2.1
  rw[hcl,aD (by simp[h0])]at hk1 hk2;have hrow:∀w3,Ch S w w3->VRow Q w3 s.p s.n ls:=λw3 c=>(hx.row.ch c hQ);have hl:ls.length=s.n:=(hrow w (Ch.refl _ _)).1;have hn46:s.n<=2^46:=(hrow w (Ch.refl _ _)).2.1;refine⟨λm i w3=>∃j:Nat,i=(j:Int)/\m=s.n-j/\j<=s.n/\Inv w3/\Ch S w w3/\blk w3 w.heap.size=some (MV.mk k n t s e ls).g/\M.checkL (d+1) (ls.map MV.m)=M.checkL (d+1) ((ls.drop j).map MV.m),⟨s.n,0,rfl,rfl,bQ _,hI2,c12,b2,rfl⟩,?_⟩;rintro m i w3 ⟨j,rfl,rfl,hj,hI3,c3,b3,heq⟩;refine aC (λh=>?_) (λh=>?_)
  ·have hjl:j<s.n:=by have:=aB h;omega
   obtain⟨y,hyi⟩:∃y,ls[j]?=some y:=⟨ls[j]'(by omega),aK _⟩;have hdr:ls.drop j=y::ls.drop (j+1):=by
    rw[dB (by omega)];congr 1;rw[aK (by omega)]at hyi;exact bC hyi
   rw[hdr,List.map_cons,M.checkL]at heq;obtain⟨by',oy,py,_,ay⟩:=(hrow w3 c3).at hyi;refine⟨by omega,by omega,?_⟩;rw[py];simp only[nn];refine ldR ay ?_;refine nbx rfl λw4 b4 c4 z4=>?_;refine ldK b4 ?_;rw[vv y,aW (n:=(d:Int)+1)];have c34:Ch S w w4:=c3.trans' (cS c4);have hym:=bJ hyi;have b34:=(c4.blk (aH b3) id).trans b3;refine ih y hym (d+1) w4 _ (by omega) (hst _ _ hI3 c4) ((hrow w4 c34).2.2.2.2 y hym) (hfl y hym) (hszl y hym) (λw5 hc0 hI5 c5=>⟨_,rfl,dJ ?_⟩) (λw5 hc0 hs5 c5=>⟨_,rfl,iH ?_⟩)
   ·rw[aW (n:=(j:Int)+1)];refine⟨s.n-(j+1),by omega,j+1,by omega,rfl,by omega,hI5,c34.trans' c5,(c5.blk (aH b34) hns).trans b34,?_⟩;rw[heq,aD (by simp[hc0])]
   ·rw[aF hc0]at heq;exact hk2 w5 (by rw[heq];exact hc0) (by rw[heq];exact hs5) (c34.trans' c5)
  ·have hjl:j=s.n:=by have:=aA h;omega
   rw[bW (by omega)]at heq;exact hk1 w3 (by rw[heq];rfl) hI3 c3
 ·refine⟨_,rfl,iH ?_⟩;rw[hcl,aF h0]at hk2;exact hk2 w2 h0 hst2 c12
theorem aF4{Q:Nat->Prop}{x:MV}(hf:x.m.fits)(hsz:x.m.sz<=2^48){w:World}(hL:LW w)(hx:VR Q w x){K:Value->World->Prop}(hk:∀w',Ch (λ_=>False) w w'->K (.int .i64 (x.m.check 1:Int)) w') :
 bK Tryz.prog 90 [x.v] w K:=by
 have hxl:=hx.lt x;obtain⟨k,n,t,s,e,ls⟩:=x;apply aDb;refine oD (x:=.mk k n t s e ls) λw1 b1 a1 c1 z1=>bD λw2 b2 c2 z2=>?_;have b12:=(c2.blk (aH b1) id).trans b1;have c12:=c1.trans' c2;refine ldK b12 ?_;rw[vv];apply aFc;refine oD (x:=.mk k n t s e ls) λw3 b3 a3 c3 z3=>⟨_,rfl,?_⟩;have c13:=c12.trans' c3;have b23:=(c3.blk (aH b2) id).trans b2;have hs3:=aH b3;have hs2:=aH b2;intro l hl rc hrc hyield;have hl:l=w3.heap.size+1:=by rw[hl];simp
 obtain⟨cW,dW,rW,zW⟩:=aMm w3 rc;subst hl;obtain⟨W,hW⟩:∃W,W=(w3.alloc (.deferred (some []))).alloc (rc .ready none):=⟨_,rfl⟩;rw[<-hW]at cW dW rW zW ⊢;have cW0:Ch (λ_=>False) w W:=c13.trans' cW;have bW2:=(cW.blk (aH b23) id).trans b23;have bW3:=(cW.blk (aH b3) id).trans b3;obtain⟨rb,hrb⟩:∃rb,rb=w1.heap.size:=⟨_,rfl⟩;rw[<-hrb]at bW2 hyield ⊢;have hw1:=c1.size
 -- the loop's record, the answer's box
 obtain⟨S,hSd⟩:∃S:Nat->Prop,S=λj=>j=w3.heap.size+1\/j=rb:=⟨_,rfl⟩;have hInvS:∀a b:World,lY a w3.heap.size=some (.deferred (some []))->Ch S a b->lY b w3.heap.size=some (.deferred (some [])):=λa b h c=>lX h c (by rw[hSd];rintro(h|h)<;>omega);refine⟨by kernel_rfl,?_⟩;show bK _ _ [.func (.yield (w3.heap.size+1)) #[] #[],.pointer (some ⟨w2.heap.size,0,none⟩)] W _;apply aA8;simp only[nn];refine ldK bW3 ?_;rw[vv];have hLW:LW W:=hL.ch0 cW0;refine aUh (Q:=λb=>Q b/\b<w.heap.size) (S:=S) (l:=w3.heap.size+1)
  (Inv:=λa=>recAt a (w3.heap.size+1) rc .ready none/\blk a rb=some [.int .i64 0]/\lY a w3.heap.size=some (.deferred (some []))/\Ch S W a)
  (Stop:=λer a=>recAt a (w3.heap.size+1) rc .done (some .ret)/\blk a rb=some [.int .i64 (er:Int)]/\lY a w3.heap.size=some (.deferred (some []))/\Ch S W a)
  (λa b ⟨h1,h2,h3,h4⟩ c=>⟨h1.ch c id,(c.blk (aH h2) id).trans h2,lX h3 c id,h4.trans' (c.mono λ_ _ h=>h.elim)⟩)
  (λa ⟨h1,h2,_,_⟩ j hj=>by
    rw[hSd]at hj;rcases hj with rfl|rfl
    ·exact aDq h1
    ·exact aH h2)
  (λb hb hs=>by rw[hSd]at hs;rcases hs with h|h<;>omega) ?_ (.mk k n t s e ls) 1 W _ (by decide) ⟨rW,bW2,dW,Ch.refl _ _⟩ (hxl.ch0 cW0) hf hsz (λw4 hc ⟨r4,b4,o4,c4⟩ _=>⟨_,rfl,?_⟩) (λw4 hc ⟨r4,b4,o4,c4⟩ _=>⟨_,rfl,?_⟩)
 ·rintro⟨k',n',t',s',e',l'⟩ d a ⟨r1,r2,r3,r4⟩ hxa hn64 htl;refine hyield (d:Int) k' (n':Int) ⟨t'.toArray⟩ s'.p s'.n s'.c e' a _ r1 ?_;refine nbx (x:=.mk k' n' t' s' e' l') rfl λw10 b10 c10 z10=>?_;have r10:=r1.ch c10 id;refine⟨r10,?_⟩;obtain⟨w11,hw11⟩:∃w11,w11=w10.putObj (w3.heap.size+1) (rc .busy none):=⟨_,rfl⟩;rw[<-hw11];have c11:Ch (·=w3.heap.size+1) w10 w11:=by rw[hw11];exact nD ..
  have rb11:recAt w11 (w3.heap.size+1) rc .busy none:=by rw[hw11];exact r10.put
  have hls:w3.heap.size+1<a.heap.size:=aDq r1;have b11:=(c11.blk (aH b10) (by omega)).trans b10;refine ldK b11 ?_;rw[vv];have ca11:Ch S a w11:=(c10.mono λ_ _ h=>h.elim).trans c11 λx hx h=>by rw[hSd];exact .inl h
  have cW11:Ch S W w11:=r4.trans' ca11;have hL11:LW w11:=hLW.ch cW11 λb hb hs=>by
   have:=hL.size;rw[hSd]at hs;rcases hs with h|h<;>omega
  have hx11:VR (λb=>Q b/\b<w.heap.size) w11 (.mk k' n' t' s' e' l'):=VR.ch ca11 (λb hb hs=>by rw[hSd]at hs;rcases hs with h|h<;>omega) _ hxa;refine aT7 hn64 htl hL11 hx11 λw12 c12'=>⟨_,rfl,?_⟩;have rb12:=rb11.ch c12' id;have ba12:blk w12 rb=some [.int .i64 0]:=(c12'.blk (by have:=c11.size;have:=c10.size;have:=aH r2;omega) id).trans ((c11.blk (by have:=c10.size;have:=aH r2;omega) (by omega)).trans ((c10.blk (aH r2) id).trans r2));have o12:lY w12 w3.heap.size=some (.deferred (some [])):=lX (hInvS a w11 r3 ca11) c12' id;have ca12:Ch S a w12:=ca11.trans' (c12'.mono λ_ _ h=>h.elim);rw[eJ];refine aC (λh=>?_) (λh=>?_)
  ·rw[bG]at h;have h:=aA h;refine st1 ba12 λw13 b13 c13'=>?_;have r13:=rb12.ch c13' (by omega);refine⟨r13,?_⟩;have cp:=nD w13 (w3.heap.size+1) (rc .done (some .ret));have ca13:Ch S a w13:=ca12.trans c13' λx hx h=>by rw[hSd];exact .inr h
   have caf:=ca13.trans cp λx hx h=>by rw[hSd];exact .inl h
   refine⟨caf,.inr ⟨by omega,rfl,r13.put,(cp.blk (aH b13) (by omega)).trans b13,hInvS _ _ r3 caf,r4.trans' caf⟩⟩
  ·rw[bF]at h;have h:=aB h;refine⟨rb12,?_⟩;have cp:=nD w12 (w3.heap.size+1) (rc .ready none);have caf:=ca12.trans cp λx hx h=>by rw[hSd];exact .inl h
   refine⟨caf,.inl ⟨by omega,rfl,rb12.put,(cp.blk (aH ba12) (by omega)).trans ba12,hInvS _ _ r3 caf,r4.trans' caf⟩⟩
 ·-- all may be
  refine .inl ⟨r4,?_⟩;have cp:=nD w4 (w3.heap.size+1) (rc .exhausted none);have b5:=(cp.blk (aH b4) (by omega)).trans b4;have o5:=lX o4 cp (by omega);simp only[add_at,aL];refine st1 b5 λw6 b6 c6=>?_;refine aJb (lX o5 c6 (by omega)) λw7 c7 z7=>?_;refine⟨_,aJ ((c7.blk (aH b6) (by omega)).trans b6) 0 rfl,?_⟩;have:=hk w7 ((((cW0.trans c4 λx hx h=>by rw[hSd]at h;rcases h with h|h<;>omega).trans cp λx hx h=>by omega).trans c6 λx hx h=>by omega).trans c7 λx hx h=>by omega);rw[hc]at this;exact this
 ·refine .inr (.inl ⟨r4,?_⟩);have cp:=nD w4 (w3.heap.size+1) (rc .exhausted (some .ret));have b5:=(cp.blk (aH b4) (by omega)).trans b4;refine aJb (lX o4 cp (by omega)) λw7 c7 z7=>?_;refine⟨_,aJ ((c7.blk (aH b5) (by omega)).trans b5) 0 rfl,?_⟩;exact hk w7 (((cW0.trans c4 λx hx h=>by rw[hSd]at h;rcases h with h|h<;>omega).trans cp λx hx h=>by omega).trans c7 λx hx h=>by omega)
theorem is7{x:MV}{a e:Int}{K:Int->Int->ByteArray->Option Addr->Nat->Nat->Int->Int->Int->Prop}(hk:K x.k (x.n:Int) ⟨x.t.toArray⟩ x.s.p x.s.n x.s.c x.e a e) :
 ∃n n1 s p n2 c n3 n4 n5,Value.tuple (Array.mk [x.v,.int .i64 a,.int .i64 e])=.tuple (Array.mk [.agg (Array.mk [.int .i64 n,.int .u64 n1,.string s,.slice p n2 c,.int .i64 n3]),.int .i64 n4,.int .i64 n5])/\K n n1 s p n2 c n3 n4 n5 :=
 ⟨_,_,_,_,_,_,_,_,_,by rw[vv],hk⟩
theorem aHi{Q:Nat->Prop}{x:MV}(hf:x.m.fits)(hsz:x.m.sz<=67108864){w:World}(hL:LW w)(hx:VR Q w x){K:Value->World->Prop}
 (hk:∀p n c own w',Gw w w' p n c own none (pA x.m).1->K (.tuple #[.slice p n c,.int .i64 ((pA x.m).2:Int)]) w'):bK Tryz.prog 73 [x.v] w K:=by
 have hxq:∀w',Ch (λ_=>False) w w'->VR Q w' x:=λw' c=>hx.ch0 c;have hen:pA x.m=if x.m.check 1≠0 then([],x.m.check 1)else if 1048576<(gV x.m).length then([],2)else(gV x.m,0):=rfl;obtain⟨k,n,t,s,e,l⟩:=x;apply aBj;refine oD (x:=.mk k n t s e l) λw1 b1 a1 c1 z1=>?_;simp only[add_at,aL];refine rF b1 ?_;rw[vv];refine aF4 (Q:=Q) hf (by omega) (hL.ch0 c1) (hxq w1 c1) λw2 c2=>⟨_,rfl,?_⟩;have c02:=c1.trans' c2;have b2:=(c2.blk (aH b1) id).trans b1;rw[eJ];refine aC (λhq=>?_) (λhq=>?_)
 ·have hq:M.check 1 (MV.mk k n t s e l).m≠0:=by simpa using hq
  rw[aF hq]at hen;rw[hen]at hk;exact hk none 0 0 none w2 ((Gw.nil w).quiet c02)
 ·have hq:M.check 1 (MV.mk k n t s e l).m=0:=by simpa using hq
  rw[aD]at hen;have hg:Gq (MV.mk k n t s e l).m:=⟨⟨1,hq⟩,hf,hsz⟩;have hgl:=zS hg;refine rF b2 ?_;rw[vv];refine(aNx (MV.mk k n t s e l)).1 (Q:=Q) (hxq w2 c02) hg (Gw.nil w2) (λb _ q=>by cases q) (by omega) λp3 n3 c3 own3 w3 g3=>⟨_,_,_,rfl,?_⟩;rw[aX]at g3;have hl3:=g3.len;refine aC (λhl=>?_) (λhl=>?_)
  ·have hl:=aB hl;rw[aF]at hen;rw[hen]at hk;exact hk none 0 0 none w3 ((Gw.nil w).quiet (c02.trans' g3.ch0))
  ·have hl:=aA hl;rw[aD]at hen;rw[hen]at hk;exact hk p3 n3 c3 own3 w3 (g3.base c02)
theorem aT9{b:Bs}{p:Option Addr}{c:Nat}{w:World}(hr:Rd w p b.length 1 (aV b))(hcap:b.length<=c)(hbl:b.length<=1048576)(hL:LW w){K:Value->World->Prop}
 (hk:∀(x:MV) w',oC b 0=some (x.m,b.length)->VO w' x->(∀k∈x.B,w.heap.size<=k)->Ch (λ_=>False) w w'->K (.tuple #[x.v,.int .i64 0,.int .i64 0]) w')
 (hno:∀(a e:Int) w',(∀m,oC b 0≠some (m,b.length))->e≠0->Ch (λ_=>False) w w'->K (.tuple #[(one 0 0 []).v,.int .i64 a,.int .i64 e]) w') :
 bK Tryz.prog 89 [.slice p b.length c] w K:=by
 apply aDn;refine bD λw1 b1 c1 z1=>?_;simp only[add_at,aL];refine aHj (at_:=0) (hr.ch c1 λ_ _ _=>id) hcap hbl (bQ _) (hL.ch0 c1) (λx t w2 hd hvo hxb c2=>?_) (λa e w2 hd he c2=>?_)
 ·obtain⟨_,_,_,_,dg,_⟩:=nR hd;refine is7 (nbx (x:=x) rfl λw8 b8 c8 z8=>?_);have c18:=c2.trans' c8;have b18:=(c18.blk (aH b1) id).trans b1;have hal:=aH b1;have hz2:=c2.size;have hvo8:=VO.ch c8 x hvo λ_ _=>id;simp only[add_at,aL];refine dJ (aC (λhq=>?_) (λhq=>?_))
  ·have hq:=aB hq;refine st5 (x:=one 0 0 []) b18 rfl λw13 b13 c13 z13=>rF b13 ?_;rw[vv];refine hno _ _ w13 (λm hm=>?_) (by decide) ((c1.trans' c18).trans c13 λj hj q=>by omega);rw[hd]at hm;cases hm;omega
  ·have hq:=aA hq;have ht:t=b.length:=by omega
   subst ht;refine rF b8 ?_;refine st5 b18 rfl λw13 b13 c13 z13=>rF b13 ?_;rw[vv];exact hk x w13 hd (VO.ch c13 x hvo8 λj hj q=>by have:=hxb j hj;omega) (λj hj=>by have:=hxb j hj;omega) ((c1.trans' c18).trans c13 λj hj q=>by omega)
 ·refine is7 (nbx (x:=one 0 0 []) rfl λw8 b8 c8 z8=>?_);have c18:=c2.trans' c8;have b18:=(c18.blk (aH b1) id).trans b1;simp only[add_at,aL];rw[eJ];refine cG (by simpa using he) ?_;refine st5 (x:=one 0 0 []) b18 rfl λw13 b13 c13 z13=>rF b13 ?_;rw[vv];exact hno _ _ w13 (λm hm=>by rw[hd]at hm;cases hm) he ((c1.trans' c18).trans c13 λj hj q=>by omega)
theorem aLr{b:Bs}{p:Option Addr}{c:Nat}{w:World}(hr:Rd w p b.length 1 (aV b))(hcap:b.length<=c)(hbl:b.length<=1048576)(hL:LW w){K:Value->World->Prop}
 (hk:∀w',Ch (λ_=>False) w w'->K (.bool (nI b)) w'):bK Tryz.prog 60 [.slice p b.length c] w K:=by
 apply xK;refine aT9 hr hcap hbl hL (λx w1 hd hvo hxb c1=>?_) (λa e w1 hd he c1=>?_)
 ·obtain⟨dg1,dg2,dg3,_⟩:=nR hd;have hsz:=aNp x.m;have hsb:nI b=decide (pA x.m=(b,0)):=by
   unfold nI;rw[hd];simp
  refine is7 (nbx (x:=x) rfl λw7 b7 c7 z7=>?_);simp only[add_at,aL];refine dJ (rF b7 ?_);rw[vv];have hvo7:=VO.ch c7 x hvo λ_ _=>id;have c17:=c1.trans' c7;refine aHi dg2 (by omega) (hL.ch0 c17) hvo7.vr' λp2 n2 c2 own2 w8 g8=>⟨_,_,_,_,rfl,?_⟩;have c18:=c17.trans' g8.ch0;simp only[dS];refine aC (λhq=>?_) (λhq=>?_)
  ·have hq:(pA x.m).2=0:=by have:=aB hq;omega
   refine⟨_,cD fD iL dN g8.ow.rd,_,cD fD iL dN (hr.ch c18 λ_ _ _=>id),?_⟩;have:=hk w8 c18;rw[hsb]at this;have e:decide ((pA x.m).1=b)=decide (pA x.m=(b,0)):=decide_eq_decide.2 ⟨λhb=>Prod.ext hb hq,λh=>by rw[h]⟩;rw[nX,e];exact this
  ·have hq:(pA x.m).2≠0:=by have:=aA hq;omega
   have:=hk w8 c18;rw[hsb,bB (λh=>hq (by rw[h]))]at this;exact this
 ·have hsb:nI b=false:=by
   unfold nI;cases hx:oC b 0 with
   | none=>rfl
   | some y =>
    obtain⟨m,t⟩:=y;have:t≠b.length:=λh=>hd m (by rw[hx,h]);simp[this]
  refine is7 (nbx (x:=one 0 0 []) rfl λw7 b7 c7 z7=>?_);simp only[add_at,aL];rw[eJ];refine cG (by simpa using he) ?_;have:=hk w7 (c1.trans' c7);rw[hsb]at this;exact this
end Go.Proofs.YtlfhjkgdlclddaaGreatDoor
namespace Go.Note
open Go
def aW6(b:Option (Nat × Bs))(d:Bs × Bool):Bool:=d.2 && match b with
 | none=>true
 | some x=>decide (d.1.length<x.2.length)
def pick(f:Nat->Bs × Bool):List Nat->Option (Nat × Bs)->Option (Nat × Bs)
 | [],b=>b
 | c::l,b=>pick f l (if aW6 b (f c)then some (c,(f c).1)else b)
end Go.Note
namespace Go.Proofs.YtlfhjkgdlclddaaGreatDoor
open Go Go.Sv Go.Note
attribute [local irreducible] aS
structure Bo(N:Nat)(w w':World)(p:Option Addr)(n:Nat)(l:Bs):Prop where
 rd:Rd w' p n 1 (aV l)
 len:l.length=n
 ch:Ch (λ_=>False) w w'
 new:∀ad,p=some ad->n*1≠0->N<=ad.block
theorem Bo.base{N:Nat}{w0 w w':World}{p:Option Addr}{n:Nat}{l:Bs}(h:Bo N w w' p n l)(hc:Ch (λ_=>False) w0 w):Bo N w0 w' p n l:=⟨h.rd,h.len,hc.trans' h.ch,h.new⟩
theorem Bo.nil{N:Nat}{w w':World}(hc:Ch (λ_=>False) w w'):Bo N w w' none 0 []:=⟨(Gw.nil w').ow.rd,rfl,hc,λ_ h=>nomatch h⟩
theorem Bo.of{N:Nat}{w w':World}{p:Option Addr}{n c:Nat}{own:Option Nat}{l:Bs}(h:Gw w w' p n c own none l)(hN:N<=w.heap.size):Bo N w w' p n l:=⟨h.ow.rd,h.len,h.ch0,λad ha h0=>by
 rcases h.new _ (sV h.ow ad ha h0)with q|q
 ·cases q
 ·omega⟩
theorem Bo.later{N:Nat}{w w' w2:World}{p:Option Addr}{n:Nat}{l:Bs}(h:Bo N w w' p n l)(hc:Ch (λ_=>False) w' w2):Bo N w w2 p n l:=⟨h.rd.ch hc λ_ _ _=>id,h.len,h.ch.trans' hc,h.new⟩
end Go.Proofs.YtlfhjkgdlclddaaGreatDoor
