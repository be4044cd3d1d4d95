/-
  The chapter's first examples: what the law asks of the program ahead of all else. The chapter's first examples: the walk. Patterns that say a text alone (each %, _ and ! behind a !): the plain law of SieveFits. No program in sight. A text whose signs a pattern would read, escaped: the program's escaped. SieveFits: the law's walk. The document's matcher: a character's bytes; Like; SieveLikes. What came in, as a law's call finds it: 'Inp', read off the statement's own words; and the wrap of a law's statement ('lift_said'). Over every program. The wrap of a law's statement where the row lists package variables; a world for its witness. Over every program. The bound of the second form, as a measure. The wrap of a law's statement, with the data that its arguments read as (a bound on a whole nested value can be had of them).
-/
import Derived.Test.YtnmlmicmhpkbeaaGreatDoorPy27
import Derived.ProofKit
import Derived.OpenShut
import Derived.ShutString
import Derived.ChangeOld
import Derived.Below
import Derived.Carry
import Derived.SizedLaws
import Derived.Deep.Slices
import Derived.Deep.CondSized
import Derived.Deep.DeepHandedRow
import Derived.Lib.LaidTab
import Derived.Test.YtnmlmicmhpkbeaaGreatDoorRows
set_option linter.unusedVariables false
set_option linter.unusedSimpArgs false
namespace Go.Proofs.YtnmlmicmhpkbeaaGreatDoor
open Go Go.Sv Go.Note
set_option linter.unusedVariables false
attribute [local irreducible] Sif
def blankG (k:Nat):GV:=⟨false,false,4,-1,false,0,zMV,zMV,false,zMV,[],[],[],[],zMV,[],[],-1,-1,[],-1,[],zMV,1,some ⟨k,0,none⟩,1,1,[[]],none,0,0,[],zMV,zMV⟩
theorem st7 {w:World} {k o:Nat} {cs:List Value} {v0 v1 v2 v3 v4 v5 v6:Value} {K:World→Prop} (h:blk w k=some cs) (hl:o+7≤cs.length) (hk:∀ w',blk w' k=some (putSeg cs o [v0,v1,v2,v3,v4,v5,v6])→Ch (·=k) w w'→w'.heap.size=w.heap.size→K w') :
 Sv.st w ⟨k,o,none⟩ v0 fun w1=>Sv.st w1 ⟨k,o+1,none⟩ v1 fun w2=>Sv.st w2 ⟨k,o+2,none⟩ v2 fun w3=>Sv.st w3 ⟨k,o+3,none⟩ v3 fun w4=>Sv.st w4 ⟨k,o+4,none⟩ v4 fun w5=>Sv.st w5 ⟨k,o+5,none⟩ v5 fun w6=>Sv.st w6 ⟨k,o+6,none⟩ v6 fun w7=>K w7 :=
 st_all [v0,v1,v2,v3,v4,v5,v6] o (K:=K) h hl hk
set_option maxRecDepth 100000 in
theorem Blank_ok {w:World} {K:Value→World→Prop} (hk:∀ (k:Nat) (w':World),blk w' k=some [strV []]→w.heap.size≤k→Ch (fun _=>False) w w'→K (blankG k).v w'):callP Tryz.prog 32 [] w K:=by
 apply ok_longshoreref11_Blank
 refine newB_blk fun w1 b1 c1 z1=>?_
 refine newB_blk fun w2 b2 c2 z2=>?_
 have b12:=(c2.blk (blk_lt b1) id).trans b1
 have c02:=c1.trans' c2
 simp only [add_at,Nat.zero_add]
 refine st7 (o:=0) b12 (by simp) fun w3 b3 c3 z3=>?_
 refine st7 (o:=7) b3 (by simp [putSeg]) fun w4 b4 c4 z4=>?_
 refine st7 (o:=14) b4 (by simp [putSeg]) fun w5 b5 c5 z5=>?_
 refine st7 (o:=21) b5 (by simp [putSeg]) fun w6 b6 c6 z6=>?_
 refine st7 (o:=28) b6 (by simp [putSeg]) fun w7 b7 c7 z7=>?_
 refine st7 (o:=35) b7 (by simp [putSeg]) fun w8 b8 c8 z8=>?_
 refine st7 (o:=42) b8 (by simp [putSeg]) fun w9 b9 c9 z9=>?_
 refine st7 (o:=49) b9 (by simp [putSeg]) fun w10 b10 c10 z10=>?_
 have hl:(blankG w1.heap.size).g.length=56:=GV.glen _
 have b11:blk w10 w.heap.size=some (blankG w1.heap.size).g:=b10.trans (by rw [GV.cells]; rfl)
 have c21:=((((((c3.trans' c4).trans' c5).trans' c6).trans' c7).trans' c8).trans' c9).trans' c10
 have hld:=ldBig_of (o:=0) (n:=56) (K:=fun vs=>K (.agg vs.toArray) w10) b11 (by rw [hl]; decide) (by
  rw [List.drop_zero,List.take_of_length_le (by rw [hl]; decide)]
  exact hk w1.heap.size w10 ((c21.blk (blk_lt b2) (by omega)).trans b2) (by omega) (c02.trans c21 fun y hy h=>by omega))
 rw [add_at] at hld
 exact hld
theorem isT3 {x:TV} {a b:Int} {K:Int→ByteArray→Int→Int→ByteArray→Option Addr→Nat→Nat→Int→Option Addr→Nat→Nat→Int→Int→Prop} (hk:K x.k ⟨x.t.toArray⟩ x.x.k (x.x.n:Int) ⟨x.x.t.toArray⟩ x.x.s.p x.x.s.n x.x.s.c x.x.e x.s.p x.s.n x.s.c a b) :
 ∃ n s n1 n2 s1 p n3 c n4 p1 n5 c1 n6 n7,Value.tuple (Array.mk [x.v,.int .i64 a,.int .i64 b])=.tuple (Array.mk [.agg (Array.mk [.int .i64 n,.string s,.int .i64 n1,.int .u64 n2,.string s1,.slice p n3 c,.int .i64 n4,.slice p1 n5 c1]),.int .i64 n6,.int .i64 n7])∧K n s n1 n2 s1 p n3 c n4 p1 n5 c1 n6 n7 :=
 ⟨_,_,_,_,_,_,_,_,_,_,_,_,_,_,by rw [tvv x],hk⟩
inductive Tall (P:Int→Bs→M→List T→Prop):T→Prop where
 | mk {k:Int} {t:Bs} {v:M} {l:List T}:P k t v l→(∀ y∈l,Tall P y)→Tall P (.mk k t v l)
theorem TG_of:∀ x:TV,Tall (fun k t v l=>t.length≤2^48∧v.fits∧v.sz≤2^48) x.m→TG x:=by
 refine TV.ind fun k t v s l ih=>?_
 intro h
 rw [TV.m_mk] at h
 cases h with
 | mk a b=>exact .mk a.1 a.2.1 a.2.2 fun y hy=>ih y hy (b _ (List.mem_map.2 ⟨y,hy,rfl⟩))
def SGp (B:Prop) (k:Int) (t:Bs) (v:M) (l:List T):Prop:=v.fits∧v.sz≤2^39∧t.length≤2^40∧(k=1→v.k=5∨v.k=10∨v.k=11→B)∧(16≤k→B)∧arity k l.length=true∧l.length≤2^40
theorem SG_of {B:Prop}:∀ x:TV,Tall (SGp B) x.m→SG B x:=by
 refine TV.ind fun k t v s l ih=>?_
 intro h
 rw [TV.m_mk] at h
 cases h with
 | mk a b =>
  obtain ⟨a1,a2,a3,a4,a5,a6,a7⟩:=a
  rw [List.length_map] at a6 a7
  exact .mk a1 a2 a3 (by rw [v.mf.1] at a4; exact a4) a5 a6 a7 fun y hy=>ih y hy (b _ (List.mem_map.2 ⟨y,hy,rfl⟩))
theorem aw_all {P:Int→Bs→M→List T→Prop} (h1:∀ l,l.length=2→P 4 [] zeroM l) (h2:∀ l,l.length=2→P 10 [] zeroM l) (h3:P 2 [112,114,105,111,114,105,116,121] zeroM []) (h4:P 1 [] (.mk 9 4 [] 0 []) []) (h5:∀ l,l.length=2→P 6 [] zeroM l) (h6:P 2 [99,111,108,111,117,114] zeroM []) (h7:P 1 [] (.mk 19 0 [114,101,100] 0 []) []):Tall P aw1t:=by
 have nil:∀ y∈([]:List T),Tall P y:=fun y hy=>by cases hy
 refine .mk (h1 _ rfl) fun y hy=>?_
 simp only [List.mem_cons,List.not_mem_nil,or_false] at hy
 rcases hy with rfl | rfl
 ·refine .mk (h2 _ rfl) fun y hy=>?_
  simp only [List.mem_cons,List.not_mem_nil,or_false] at hy
  rcases hy with rfl | rfl
  ·exact .mk h3 nil
  ·exact .mk h4 nil
 ·refine .mk (h5 _ rfl) fun y hy=>?_
  simp only [List.mem_cons,List.not_mem_nil,or_false] at hy
  rcases hy with rfl | rfl
  ·exact .mk h6 nil
  ·exact .mk h7 nil
theorem fits0 {k:Int} {n:Nat} {t:Bs} (h:n<18446744073709551616):(M.mk k n t 0 []).fits:=.mk h fun x hx=>by cases hx
theorem aw_TG {x:TV} (h:x.m=aw1t):TG x:=by
 refine TG_of x (h▸aw_all (fun l _=>?_) (fun l _=>?_) ?_ ?_ (fun l _=>?_) ?_ ?_)<;>exact ⟨by decide,fits0 (by decide),by decide⟩
theorem aw_SG {B:Prop} {x:TV} (h:x.m=aw1t):SG B x:=by
 have n16:∀ {k:Int},k<16→16≤k→B:=fun h1 h2=>absurd h2 (by omega)
 have n1:∀ {k:Int} {P:Prop},k≠1→k=1→P→B:=fun h1 h2=>absurd h2 h1
 have nk:∀ {k:Int},k≠5→k≠10→k≠11→k=5∨k=10∨k=11→B:=fun h1 h2 h3 h=>by rcases h with h | h | h<;>contradiction
 refine SG_of x (h▸aw_all (fun l hl=>?_) (fun l hl=>?_) ?_ ?_ (fun l hl=>?_) ?_ ?_)
 ·exact ⟨fits0 (by decide),by decide,by decide,n1 (by decide),n16 (by decide),by rw [hl]; rfl,by omega⟩
 ·exact ⟨fits0 (by decide),by decide,by decide,n1 (by decide),n16 (by decide),by rw [hl]; rfl,by omega⟩
 ·exact ⟨fits0 (by decide),by decide,by decide,n1 (by decide),n16 (by decide),rfl,by decide⟩
 ·exact ⟨fits0 (by decide),by decide,by decide,fun _=>nk (by decide) (by decide) (by decide),n16 (by decide),rfl,by decide⟩
 ·exact ⟨fits0 (by decide),by decide,by decide,n1 (by decide),n16 (by decide),by rw [hl]; rfl,by omega⟩
 ·exact ⟨fits0 (by decide),by decide,by decide,n1 (by decide),n16 (by decide),rfl,by decide⟩
 ·exact ⟨fits0 (by decide),by decide,by decide,fun _=>nk (by decide) (by decide) (by decide),n16 (by decide),rfl,by decide⟩
theorem aw_PG {x:TV} (h:x.m=aw1t):PG2 (fun _=>False) x:=by
 have key:∀ {k:Int} {t:Bs} {v:M} {l:List T},(t.length≤2^40∧v.n<18446744073709551616∧v.t.length≤2^40∧v.k≠11∧arity k l.length=true∧(k=2→t≠[])∧k≠13)→(∀ y∈l,PGm (fun _=>False) y)→PGm (fun _=>False) (.mk k t v l):=fun a b=>.mk a.1 a.2.1 a.2.2.1 (fun e=>absurd e a.2.2.2.1) a.2.2.2.2.1 a.2.2.2.2.2.1 (fun e=>absurd e a.2.2.2.2.2.2) b
 have nil:∀ y∈([]:List T),PGm (fun _=>False) y:=fun y hy=>by cases hy
 refine PG2_of x (h▸?_)
 refine key ⟨by decide,by decide,by decide,by decide,rfl,by decide,by decide⟩ fun y hy=>?_
 simp only [List.mem_cons,List.not_mem_nil,or_false] at hy
 rcases hy with rfl | rfl
 ·refine key ⟨by decide,by decide,by decide,by decide,rfl,by decide,by decide⟩ fun y hy=>?_
  simp only [List.mem_cons,List.not_mem_nil,or_false] at hy
  rcases hy with rfl | rfl
  ·exact key ⟨by decide,by decide,by decide,by decide,rfl,by decide,by decide⟩ nil
  ·exact key ⟨by decide,by decide,by decide,by decide,rfl,by decide,by decide⟩ nil
 ·refine key ⟨by decide,by decide,by decide,by decide,rfl,by decide,by decide⟩ fun y hy=>?_
  simp only [List.mem_cons,List.not_mem_nil,or_false] at hy
  rcases hy with rfl | rfl
  ·exact key ⟨by decide,by decide,by decide,by decide,rfl,by decide,by decide⟩ nil
  ·exact key ⟨by decide,by decide,by decide,by decide,rfl,by decide,by decide⟩ nil
def awMsg:Msg:=⟨false,7,-1,false,0,zeroM,[],[],[],[],zeroM,[],[],-1,.mk 22 0 [] 0 [.mk 19 0 [99,111,108,111,117,114] 0 [],.mk 19 0 [114,101,100] 0 []]⟩
theorem aw_eval:evalB (lookB awMsg) aw1t=.mk 1 1 [] 0 []:=by kernel_rfl
theorem aw_fits:fitsB (lookB awMsg) aw1t=true:=by kernel_rfl
theorem aw_els:els (escOf (-1)) (sg [114,95,100])=[.sgn [114],.any,.sgn [100]]:=by kernel_rfl
theorem aw_like:mt (els (escOf (-1)) (sg [114,95,100])) (sg [114,101,100])=true:=by
 rw [aw_els,show sg [114,101,100]=[[114],[101],[100]] by kernel_rfl]
 simp [Note.mt]
theorem aw_unlike:mt (els (escOf (-1)) (sg [114,95,100])) (sg [114,100])=false:=by
 rw [aw_els,show sg [114,100]=[[114],[100]] by kernel_rfl]
 simp [Note.mt]
def awG (k j:Nat):GV:={ blankG k with has:=true,pri:=7,app:=.mk 22 0 [] ⟨some ⟨j,0,none⟩,2,2,some j⟩ 0 [flatM 19 0 [99,111,108,111,117,114],flatM 19 0 [114,101,100]] }
theorem awG_m (k j:Nat):(awG k j).m=awMsg:=by
 have e:(awG k j).app.m=.mk 22 0 [] 0 [.mk 19 0 [99,111,108,111,117,114] 0 [],.mk 19 0 [114,101,100] 0 []]:=by
  show (MV.mk 22 0 [] ⟨some ⟨j,0,none⟩,2,2,some j⟩ 0 [flatM 19 0 [99,111,108,111,117,114],flatM 19 0 [114,101,100]]).m=_
  rw [MV.m_mk]
  simp only [List.map_cons,List.map_nil,flatM_m]
 have z:(awG k j).mid.m=zeroM:=zMV_m
 have z2:(awG k j).cor.m=zeroM:=zMV_m
 unfold GV.m
 rw [e,z,z2]
 rfl
def lookP (B:Prop) (m:M):Prop:=m.fits∧m.sz≤2^39∧(m.k=5∨m.k=10∨m.k=11→B)
theorem lookP_if {B c:Prop} [Decidable c] {a b:M} (h1:lookP B a) (h2:lookP B b):lookP B (if c then a else b):=by
 by_cases h:c
 ·rw [if_pos h]; exact h1
 ·rw [if_neg h]; exact h2
theorem lookP_flat {B:Prop} {k:Int} {n:Nat} {t:Bs} (h1:n<18446744073709551616) (h2:t.length≤2^38) (h3:k≠5) (h4:k≠10) (h5:k≠11):lookP B (.mk k n t 0 []):=by
 refine ⟨fits0 h1,?_,fun h=>?_⟩
 ·rw [M.sz_mk]; simp only [List.map_nil,List.sum_nil]; omega
 ·have h:k=5∨k=10∨k=11:=h
  omega
theorem aw_look {B:Prop} (s:Bs):lookP B (lookB awMsg s):=by
 have z:lookP B zeroM:=lookP_flat (by decide) (by decide) (by decide) (by decide) (by decide)
 have f:lookP B (findB awMsg.app (.mk 19 0 s 0 [])):=by
  have e:findB awMsg.app (.mk 19 0 s 0 [])=if (.mk 19 0 [99,111,108,111,117,114] 0 []:M)=.mk 19 0 s 0 [] then .mk 19 0 [114,101,100] 0 [] else zeroM:=rfl
  rw [e]
  exact lookP_if (lookP_flat (by decide) (by decide) (by decide) (by decide) (by decide)) z
 have n7:lookP B (.mk 2 (awMsg.pri%256).toNat [] 0 []):=lookP_flat (by decide) (by decide) (by decide) (by decide) (by decide)
 have nt:lookP B (truM false):=lookP_flat (by decide) (by decide) (by decide) (by decide) (by decide)
 have nc:lookP B (.mk 4 (awMsg.cnt%4294967296).toNat [] 0 []):=lookP_flat (by decide) (by decide) (by decide) (by decide) (by decide)
 unfold lookB
 exact lookP_if n7 <| lookP_if nt <| lookP_if nt <| lookP_if z <| lookP_if nc <| lookP_if z <| lookP_if z <| lookP_if z <| lookP_if z <| lookP_if z <| lookP_if z <| lookP_if z <| lookP_if z <| lookP_if z f
theorem aw_GG {B:Prop} (k j:Nat):GG B (awG k j):=by
 refine ⟨?_,?_,?_,fun s=>by rw [awG_m]; exact aw_look s⟩
 ·show (zMV).m.sz≤_; rw [zMV_m]; decide
 ·show (zMV).m.sz≤_; rw [zMV_m]; decide
 ·have e:(awG k j).app.m=awMsg.app:=congrArg Msg.app (awG_m k j)
  rw [e]; decide
theorem fNo:FFok (fun _=>False) (fun _=>[]):=fun x h=>h.elim
end Go.Proofs.YtnmlmicmhpkbeaaGreatDoor
namespace Go.Proofs.YtnmlmicmhpkbeaaGreatDoor
open Go Go.Sv Go.Note
set_option linter.unusedVariables false
attribute [local irreducible] Sif
set_option maxHeartbeats 1000000 in
set_option maxRecDepth 100000 in
theorem awake_ok {w:World} (hL:LW w) {K:Value→World→Prop} (hk:∀ w',Ch (fun _=>False) w w'→K (.bool true) w'):callP Tryz.prog 8 [] w K:=by
 apply ok_longshorelaw16_awake
 refine Parse_ok (s:=aw1s) (by decide) aw1_parse hL fun x w1 ox ex fx c1=>?_
 refine isT3 ?_
 have hL1:LW w1:=hL.ch c1 fun _ _ h=>h
 refine newB_blk fun w2 b2 c2 z2=>?_
 simp only [add_at,Nat.zero_add,Nat.add_zero,Nat.reduceAdd]
 refine st8 (x:=x) b2 rfl fun w3 b3 c3 z3=>?_
 have c13:Ch (fun _=>False) w1 w3:=c2.trans c3 fun y hy h=>by omega
 refine ld8 (x:=x) b3 ?_
 rw [tvv]
 have x3:TO w3 x:=TO.ch c13 x ox fun _ _ h=>h
 have xr:∀ {w':World},Ch (fun _=>False) w3 w'→TR (fun _=>True) w' x:=fun c=>TR.ch0 c (TO.tr x x3 _ fun _ _=>trivial)
 have c03:=c1.trans' c13
 refine Print_ok fNo (hL.ch c03 fun _ _ h=>h) (xr (Ch.refl _ _)) (aw_TG ex) (fun _=>aw_PG ex) (by rw [ex]; show (T.pr (fun _=>[]) aw1t).length≤_; rw [show T.pr (fun _=>[]) aw1t=aw1s by kernel_rfl]; decide) fun w4 c4=>?_
 rw [show printB (fun _=>[]) x.m=(aw1s,0) by rw [ex]; exact aw1_print]
 refine ⟨_,_,rfl,?_⟩
 have b4:=(c4.blk (blk_lt b3) id).trans b3
 refine Blank_ok fun k w5 b5 hk5 c5=>?_
 refine ⟨(blankG k).g,GV.glen _,rfl,?_⟩
 have c35:=c4.trans' c5
 refine newB_blk fun w6 b6 c6 z6=>?_
 refine asAgg_of (GV.glen _) ?_
 have hone:∀ v∈(blankG k).g,oneV v=true:=by
  rw [GV.cells]
  intro v hv
  simp only [List.mem_cons,List.not_mem_nil,or_false] at hv
  rcases hv with h | h | h | h | h | h | h | h | h | h | h | h | h | h | h | h | h | h | h | h | h | h | h | h | h | h | h | h | h | h | h | h | h | h | h | h | h | h | h | h | h | h | h | h | h | h | h | h | h | h | h | h | h | h | h | h<;>rw [h]<;>rfl
 refine stCells_blk _ 0 b6 (by rw [GV.glen]; decide) hone fun w7 b7 c7 z7=>?_
 have b7:blk w7 w5.heap.size=some (blankG k).g:=b7.trans (by rw [putSeg,List.take_zero,List.nil_append,List.drop_of_length_le (by rw [GV.glen]; decide),List.append_nil])
 have hg56:=(blankG k).glen
 refine st_blk (o:=0) b7 (by omega) fun w8 b8 c8 z8=>?_
 refine st_blk (o:=2) b8 (by rw [List.length_set]; omega) fun w9 b9 c9 z9=>?_
 refine newB_blk fun w10 b10 c10 z10=>?_
 have bm:=(c10.blk (blk_lt b9) id).trans b9
 refine st_blk (o:=38) bm (by simp only [List.length_set]; omega) fun w11 b11 c11 z11=>?_
 refine st_blk (o:=39) b11 (by simp only [List.length_set]; omega) fun w12 b12 c12 z12=>?_
 refine st_blk (o:=40) b12 (by simp only [List.length_set]; omega) fun w13 b13 c13' z13=>?_
 refine st_blk (o:=41) b13 (by simp only [List.length_set]; omega) fun w14 b14 c14 z14=>?_
 refine st_blk (o:=42) b14 (by simp only [List.length_set]; omega) fun w15 b15 c15 z15=>?_
 have hs5:=c35.size
 have hs6:=z6
 -- the message, and what has not changed
 have ca:Ch (·=w5.heap.size) w6 w9:=(c7.trans' c8).trans' c9
 have cb:Ch (·=w5.heap.size) w10 w15:=(((c11.trans' c12).trans' c13').trans' c14).trans' c15
 have bg:blk w15 w5.heap.size=some (awG k w9.heap.size).g:=b15.trans (by rw [GV.cells,GV.cells]; rfl)
 have c3f:Ch (fun _=>False) w3 w15:=((c35.trans' c6).trans ((ca.trans' (c10.mono fun _ _ h=>h.elim)).trans' cb) fun y hy h=>by omega)
 have c0f:Ch (fun _=>False) w w15:=c03.trans' c3f
 have hs9:w5.heap.size<w9.heap.size:=by have:=ca.size; omega
 have bd:blk w15 w9.heap.size=some (([flatM 19 0 [99,111,108,111,117,114],flatM 19 0 [114,101,100]]:List MV).flatMap MV.g):=(cb.blk (blk_lt b10) (by omega)).trans b10
 have bk:blk w15 k=some [strV []]:=((cb.blk (by have:=blk_lt b5; have:=ca.size; have:=c10.size; omega) (by have:=blk_lt b5; omega)).trans ((c10.blk (by have:=blk_lt b5; have:=ca.size; omega) id).trans ((ca.blk (by have:=blk_lt b5; omega) (by have:=blk_lt b5; omega)).trans (c6.blk (blk_lt b5) id)))).trans b5
 have gr:GR (fun _=>True) w15 (awG k w9.heap.size):=by
  have z:VR (fun _=>True) w15 zMV:=VR.zero w15
  have fl:∀ a b c,VR (fun _=>True) w15 (flatM a b c):=fun a b c=>VO.vr _ (flatM_ok w15 a b c) _ fun _ _=>trivial
  refine ⟨z,z,z,z,?_,z,z,⟨rfl,Nat.le_of_ble_eq_true rfl,⟨rfl,.inl rfl⟩,fun a ha=>(by cases ha),fun x hx=>(by cases hx)⟩,⟨rfl,.inr ⟨k,0,_,rfl,blk_cells bk,Nat.le_of_ble_eq_true rfl,rfl⟩⟩,rfl,fun _ _ _=>trivial⟩
  refine .mk rfl (Nat.le_of_ble_eq_true rfl) ⟨rfl,.inr ⟨w9.heap.size,0,_,rfl,blk_cells bd,Nat.le_of_ble_eq_true rfl,rfl⟩⟩ (fun _ _ _=>trivial) fun x hx=>?_
  simp only [List.mem_cons,List.not_mem_nil,or_false] at hx
  rcases hx with rfl | rfl<;>exact fl _ _ _
 have bf:=(c3f.blk (blk_lt b3) id).trans b3
 refine ld8 (x:=x) bf ?_
 rw [tvv]
 have ldg:∀ {w':World},Ch (fun _=>False) w15 w'→∀ {K2:List Value→Prop},K2 (awG k w9.heap.size).g→ldBig w' ⟨w5.heap.size,0,none⟩ 56 K2:=fun {w'} c {K2} hk2=>by
  have:=ldBig_of (o:=0) (n:=56) (K:=K2) ((c.blk (blk_lt bg) id).trans bg) (by rw [GV.glen]; decide) (by rw [List.drop_zero,List.take_of_length_le (by rw [GV.glen]; decide)]; exact hk2)
  rwa [add_at] at this
 have hLf:LW w15:=hL.ch c0f fun _ _ h=>h
 refine ldg (Ch.refl _ _) ?_
 refine Eval_ok (B:=False) (fun h=>h.elim) (aw_GG k w9.heap.size) (aw_TG ex) (fun _=>aw_SG ex) hLf (xr c3f) gr fun y w16 ey oy By c16=>is5 ?_
 rw [awG_m,ex,show evalB (lookB awMsg) (aw1t,0,0).1=.mk 1 1 [] 0 [] from aw_eval] at ey
 have hyk:y.k=1:=by rw [← y.mf.1,ey]; rfl
 have hyn:y.n=1:=by rw [← y.mf.2.1,ey]; rfl
 refine newB_blk fun w17 b17 c17 z17=>?_
 refine st5 (x:=y) b17 rfl fun w18 b18 c18 z18=>?_
 have c1f:Ch (fun _=>False) w15 w18:=(c16.trans' c17).trans c18 fun q hq h=>by have:=c16.size; omega
 refine ld8 (x:=x) ((c1f.blk (blk_lt bf) id).trans bf) ?_
 rw [tvv]
 refine ldg c1f ?_
 refine Fits_ok (B:=False) (fun h=>h.elim) (aw_GG k w9.heap.size) (aw_TG ex) (fun _=>aw_SG ex) (hLf.ch c1f fun _ _ h=>h) (xr (c3f.trans' c1f)) (gr.ch0 c1f) fun w19 c19=>⟨_,rfl,?_⟩
 rw [awG_m,ex,show fitsB (lookB awMsg) (aw1t,0,0).1=true from aw_fits]
 have hL19:LW w19:=hLf.ch (c1f.trans' c19) fun _ _ h=>h
 refine Parse_ok (s:=[97,32,63,32,98]) (by decide) aw2_parse hL19 fun x2 w20 ox2 ex2 fx2 c20=>?_
 refine isT3 ?_
 refine newB_blk fun w21 b21 c21 z21=>?_
 refine st8 (x:=x2) b21 rfl fun w22 b22 c22 z22=>?_
 have c2f:Ch (fun _=>False) w19 w22:=(c20.trans' c21).trans c22 fun q hq h=>by have:=c20.size; omega
 have hL22:LW w22:=hL19.ch c2f fun _ _ h=>h
 refine Like_ok (s:=[114,101,100]) (p:=[114,95,100]) (n:=-1) (by decide) (by decide) hL22 fun w23 c23=>⟨_,rfl,?_⟩
 refine Like_ok (s:=[114,100]) (p:=[114,95,100]) (n:=-1) (by decide) (by decide) (hL22.ch c23 fun _ _ h=>h) fun w24 c24=>⟨_,rfl,?_⟩
 rw [aw_like,aw_unlike]
 have cz:Ch (fun _=>False) w18 w24:=((c19.trans' c2f).trans' c23).trans' c24
 have b24:=(cz.blk (blk_lt b18) id).trans b18
 have e1:((ByteArray.mk aw1s.toArray).toList == (ByteArray.mk (Array.mk [112,114,105,111,114,105,116,121,32,62,32,52,32,97,110,100,32,99,111,108,111,117,114,32,61,32,39,114,101,100,39])).toList)=true:=(seq3 aw1s aw1s).trans (decide_eq_true rfl)
 refine Sif_true (Sif_true (Sif_true ?_))
 rw [show (ByteArray.mk ((aw1s,0):Bs × Nat).1.toArray)=ByteArray.mk aw1s.toArray from rfl,e1]
 refine Sif_true ⟨_,MV.c0 b24,?_⟩
 rw [hyk]
 refine Sif_true ⟨_,MV.c1 b24,?_⟩
 rw [hyn]
 refine Sif_true (Sif_true (Sif_true (Sif_true (Sif_true ?_))))
 exact hk w24 (((c0f.trans' c1f).trans' cz))
end Go.Proofs.YtnmlmicmhpkbeaaGreatDoor
namespace Go.Note
open Go
set_option linter.unusedVariables false
def spec (c:UInt8):Bool:=decide (c=37) || decide (c=95) || decide (c=33)
end Go.Note
namespace Go.Proofs.YtnmlmicmhpkbeaaGreatDoor
open Go Go.Sv Go.Note
set_option linter.unusedVariables false
attribute [local irreducible] Sif
end Go.Proofs.YtnmlmicmhpkbeaaGreatDoor
namespace Go.Proofs.YtnmlmicmhpkbeaaGreatDoor
open Go Go.Sv Go.Note
set_option linter.unusedVariables false
attribute [local irreducible] Sif
theorem beqT (a b:Bool) (h:a=b):(a == b)=true:=by rw [h]; cases b<;>rfl
end Go.Proofs.YtnmlmicmhpkbeaaGreatDoor
namespace Go.Proofs.YtnmlmicmhpkbeaaGreatDoor
open Go Go.Sv Go.Note
set_option linter.unusedVariables false
attribute [local irreducible] Sif
set_option maxRecDepth 100000 in
theorem runB_nat {n:Nat} (h:n<55296∨(57343<n∧n≤1114111)):runB (n:Int)=if n<128 then [UInt8.ofNat n] else if n<2048 then [UInt8.ofNat (192+n / 64),UInt8.ofNat (128+n%64)]
 else if n<65536 then [UInt8.ofNat (224+n / 4096),UInt8.ofNat (128+n / 64%64),UInt8.ofNat (128+n%64)] else [UInt8.ofNat (240+n / 262144),UInt8.ofNat (128+n / 4096%64),UInt8.ofNat (128+n / 64%64),UInt8.ofNat (128+n%64)]:=by
 have hv:Utf8.valid (n:Int)=true:=by
  unfold Utf8.valid
  simp only [Bool.or_eq_true,Bool.and_eq_true,decide_eq_true_eq]
  omega
 have key:∀ c:Nat,(if c<0x80 then (⟨#[UInt8.ofNat c]⟩:ByteArray)
  else if c<0x800 then ⟨#[UInt8.ofNat (0xC0+c / 64),UInt8.ofNat (0x80+c%64)]⟩
  else if c<0x10000 then ⟨#[UInt8.ofNat (0xE0+c / 4096),UInt8.ofNat (0x80+c / 64%64),UInt8.ofNat (0x80+c%64)]⟩
  else ⟨#[UInt8.ofNat (0xF0+c / 262144),UInt8.ofNat (0x80+c / 4096%64),UInt8.ofNat (0x80+c / 64%64),UInt8.ofNat (0x80+c%64)]⟩).data.toList=if c<128 then [UInt8.ofNat c] else if c<2048 then [UInt8.ofNat (192+c / 64),UInt8.ofNat (128+c%64)]
  else if c<65536 then [UInt8.ofNat (224+c / 4096),UInt8.ofNat (128+c / 64%64),UInt8.ofNat (128+c%64)] else [UInt8.ofNat (240+c / 262144),UInt8.ofNat (128+c / 4096%64),UInt8.ofNat (128+c / 64%64),UInt8.ofNat (128+c%64)]:=by
  intro c
  split
  ·rfl
  ·split
   ·rfl
   ·split<;>rfl
 rw [← key n]
 unfold runB Utf8.encode
 simp only [hv,if_true,Int.toNat_natCast]
theorem and63 (x:Nat) (hx:x<18446744073709551616):bitsV .and .u64 (x:Int) 63=((x%64:Nat):Int):=by
 have e:bitsV .and .u64 (x:Int) 63=IntKind.wrap .u64 ((BitVec.ofInt 64 (x:Int) &&& BitVec.ofInt 64 63).toNat:Int):=rfl
 have o:∀ n:Nat,BitVec.ofInt 64 (n:Int)=BitVec.ofNat 64 n:=fun n=>by
  apply BitVec.eq_of_toNat_eq
  simp [BitVec.toNat_ofInt]
 rw [e,o,show (63:Int)=((63:Nat):Int) by rfl,o,BitVec.toNat_and,BitVec.toNat_ofNat,BitVec.toNat_ofNat,Nat.mod_eq_of_lt hx,Nat.mod_eq_of_lt (by omega:63<2^64)]
 rw [show (63:Nat)=2^6-1 by rfl,Nat.and_two_pow_sub_one_eq_mod]
 unfold IntKind.wrap
 simp [IntKind.bits,IntKind.signed]
 omega
theorem wrap_u64n (x:Nat) (hx:x<18446744073709551616):IntKind.wrap .u64 (x:Int)=(x:Int):=by
 unfold IntKind.wrap
 simp [IntKind.bits,IntKind.signed]
 omega
theorem newT_ok {w:World} {cs:List Value} {n:Nat} {l:Bs} (hl:l.length=n) (hcs:cs=bytesV l) {K:Value→World→Prop} (hk:∀ w',Ch (fun _=>False) w w'→K (.string ⟨l.toArray⟩) w') :
 newB w cs 5 fun a w1=>∃ s,Sem.run Tryz.prog (convert 66 9 (.slice (some a) n n)) w1=.ok (.string s) w1∧K (.string s) w1:=by
 subst hl hcs
 refine newB_blk fun w2 b2 c2 z2=>?_
 exact ⟨_,toString_run uBytes uByte uString ⟨by simp,.inr ⟨_,0,_,rfl,blk_cells b2,by simp,by rw [List.drop_zero,List.take_of_length_le (by simp)]⟩⟩,hk w2 c2⟩
theorem character_ok {n:Nat} (h:n<55296∨(57343<n∧n≤1114111)) {w:World} {K:Value→World→Prop} (hk:∀ w',Ch (fun _=>False) w w'→K (.string ⟨(runB (n:Int)).toArray⟩) w'):callP Tryz.prog 54 [.int .u64 (n:Int)] w K:=by
 apply ok_longshoreref16_character
 rw [runB_nat h] at hk
 have d6:Int.fdiv (n:Int) (2^6)=((n / 64:Nat):Int):=by rw [Int.fdiv_eq_ediv_of_nonneg _ (by decide)]; rfl
 have d12:Int.fdiv (n:Int) (2^12)=((n / 4096:Nat):Int):=by rw [Int.fdiv_eq_ediv_of_nonneg _ (by decide)]; rfl
 have d18:Int.fdiv (n:Int) (2^18)=((n / 262144:Nat):Int):=by rw [Int.fdiv_eq_ediv_of_nonneg _ (by decide)]; rfl
 have hd:∀ (a x:Nat),a+x<256→Value.int .u8 (IntKind.wrap .u8 (IntKind.wrap .u64 ((a:Int)+(x:Int))))=Value.int .u8 ((UInt8.ofNat (a+x)).toNat:Int):=fun a x hx=>by
  rw [show ((a:Int)+(x:Int))=((a+x:Nat):Int) by omega,wrap_u64n _ (by omega),wrap_u8,UInt8.toNat_ofNat']
 have tl:∀ x:Nat,x<18446744073709551616→Value.int .u8 (IntKind.wrap .u8 (IntKind.wrap .u64 (128+bitsV .and .u64 (x:Int) 63)))=Value.int .u8 ((UInt8.ofNat (128+x%64)).toNat:Int):=fun x hx=>by
  rw [and63 x hx]
  exact hd 128 (x%64) (by omega)
 by_cases h1:n<128
 ·rw [if_pos h1] at hk
  refine Sif_cases (fun _=>?_) (fun h=>by have:=of_decide_eq_false h; omega)
  exact newT_ok (l:=[UInt8.ofNat n]) rfl (by rw [wrap_u8]; simp [bytesV]) hk
 ·refine Sif_cases (fun h=>by have:=of_decide_eq_true h; omega) (fun _=>?_)
  rw [if_neg h1] at hk
  by_cases h2:n<2048
  ·rw [if_pos h2] at hk
   refine Sif_cases (fun _=>⟨by omega,?_⟩) (fun h=>by have:=of_decide_eq_false h; omega)
   refine newT_ok (l:=[UInt8.ofNat (192+n / 64),UInt8.ofNat (128+n%64)]) rfl ?_ hk
   rw [d6,show (192:Int)=((192:Nat):Int) from rfl,hd 192 (n / 64) (by omega),tl n (by omega)]; rfl
  ·refine Sif_cases (fun h=>by have:=of_decide_eq_true h; omega) (fun _=>?_)
   rw [if_neg h2] at hk
   by_cases h3:n<65536
   ·rw [if_pos h3] at hk
    refine Sif_cases (fun _=>⟨by omega,by omega,?_⟩) (fun h=>by have:=of_decide_eq_false h; omega)
    refine newT_ok (l:=[UInt8.ofNat (224+n / 4096),UInt8.ofNat (128+n / 64%64),UInt8.ofNat (128+n%64)]) rfl ?_ hk
    rw [d6,d12,show (224:Int)=((224:Nat):Int) from rfl,hd 224 (n / 4096) (by omega),tl n (by omega),tl (n / 64) (by omega)]; rfl
   ·refine Sif_cases (fun h=>by have:=of_decide_eq_true h; omega) (fun _=>?_)
    rw [if_neg h3] at hk
    refine ⟨by omega,by omega,by omega,?_⟩
    refine newT_ok (l:=[UInt8.ofNat (240+n / 262144),UInt8.ofNat (128+n / 4096%64),UInt8.ofNat (128+n / 64%64),UInt8.ofNat (128+n%64)]) rfl ?_ hk
    rw [d6,d12,d18,show (240:Int)=((240:Nat):Int) from rfl,hd 240 (n / 262144) (by omega),tl n (by omega),tl (n / 64) (by omega),tl (n / 4096) (by omega)]; rfl
theorem rLike_ok {s p:Bs} {n:Int} (hs:s.length≤2^40) (hp:p.length≤2^40) {w:World} {K:Value→World→Prop} (hk:∀ w',Ch (fun _=>False) w w'→K (.bool (mt (els (escOf n) (sg p)) (sg s))) w') :
 callP Tryz.prog 24 [.string ⟨s.toArray⟩,.string ⟨p.toArray⟩,.int .i64 n] w K:=by
 apply ok_longshoreref16_Like
 refine ⟨fun x w1=>x=⟨(escOf n).toArray⟩∧Ch (fun _=>False) w w1,?_,?_⟩
 ·rintro x w1 ⟨rfl,c1⟩
  refine elements_ok hp fun q c ow w2 o2 hl f2 c2=>⟨_,_,_,rfl,?_⟩
  exact likes_ok hs o2.rd (by omega) fun w3 c3=>⟨_,rfl,hk w3 ((c1.trans' c2).trans' c3)⟩
 ·have no:¬ (0≤n∧n≤1114111∧Lib.validRune n=true)→((ByteArray.mk (Array.mk []))=(⟨(escOf n).toArray⟩:ByteArray)∧Ch (fun _=>False) w w):=fun h=>by
   unfold escOf; rw [if_neg h]; exact ⟨rfl,Ch.refl _ _⟩
  have yes:0≤n→n≤1114111→(n<55296∨57343<n)→callP Tryz.prog 54 [.int .u64 (IntKind.wrap .u64 n)] w fun v w1=>∃ s,v=.string s∧(s=⟨(escOf n).toArray⟩∧Ch (fun _=>False) w w1):=fun h1 h2 h3=>by
   obtain ⟨k,rfl⟩:∃ k:Nat,n=(k:Int):=⟨n.toNat,by omega⟩
   rw [wrap_u64n k (by omega)]
   refine character_ok (by omega) fun w1 c1=>⟨_,rfl,?_,c1⟩
   unfold escOf
   rw [if_pos ⟨h1,h2,by unfold Lib.validRune; exact decide_eq_true (by omega)⟩]
  have nv:0≤n→¬ (n<55296∨57343<n)→¬ (0≤n∧n≤1114111∧Lib.validRune n=true):=fun h0 h q=>by
   have:=of_decide_eq_true q.2.2
   omega
  refine Sif_cases (fun h1=>?_) (fun h1=>no fun q=>by have:=of_decide_eq_false h1; omega)
  have h1:=of_decide_eq_true h1
  refine Sif_cases (fun h2=>?_) (fun h2=>no fun q=>by have:=of_decide_eq_false h2; omega)
  have h2:=of_decide_eq_true h2
  refine Sif_cases (fun h3=>?_) (fun h3=>?_)
  ·have h3:¬ n<55296:=by simpa using h3
   refine Sif_cases (fun h4=>?_) (fun h4=>?_)
   ·exact yes h1 h2 (.inr (of_decide_eq_true h4))
   ·exact no (nv h1 fun h=>h.elim h3 fun h=>absurd h (of_decide_eq_false h4))
  ·have h3:n<55296:=by simpa using h3
   exact yes h1 h2 (.inl h3)
theorem likes_call {t p:ByteArray} {n:Int} (ht:t.size≤2^30) (hp:p.size≤2^30) {w:World} (hL:LW w) {K:Value→World→Prop} (hk:∀ w',Ch (fun _=>False) w w'→K (.bool true) w'):callP Tryz.prog 5 [.string t,.string p,.int .i64 n] w K:=by
 have e:∀ s:ByteArray,s=(ByteArray.mk s.data.toList.toArray):=fun s=>by simp
 have z:∀ s:ByteArray,s.data.toList.length=s.size:=fun s=>Array.length_toList
 apply ok_longshorelaw16_SieveLikes
 refine awake_ok hL fun w1 c1=>⟨_,rfl,Sif_false ?_⟩
 refine ⟨fun w2=>w2=w1,?_,?_⟩
 ·rintro w2 rfl
  rw [e t,e p]
  refine Like_ok (by rw [z]; exact Nat.le_trans ht (by decide)) (by rw [z]; exact Nat.le_trans hp (by decide)) (hL.ch c1 fun _ _ h=>h) fun w3 c3=>⟨_,rfl,?_⟩
  refine rLike_ok (by rw [z]; exact Nat.le_trans ht (by decide)) (by rw [z]; exact Nat.le_trans hp (by decide)) fun w4 c4=>⟨_,rfl,?_⟩
  rw [beqT _ _ rfl]
  exact hk w4 ((c1.trans' c3).trans' c4)
 ·refine Sif_cases (fun _=>Sif_cases (fun _=>hk w1 c1) fun _=>rfl) fun _=>hk w1 c1
end Go.Proofs.YtnmlmicmhpkbeaaGreatDoor
namespace Go.Sv
open Go Go.ChangeShapes Go.WideShapes Go.ChangeAt Go.RowKit
set_option linter.unusedVariables false
def Inp (P:Program) (w:World) (ok:Nat→Nat→Prop):Nat→TypeId→List Value→Prop
 | 0,_,_=>False
 | n+1,t,cs =>
  match P.underlying t with
  | some .bool=>∃ b:Bool,cs=[.bool b]
  | some (.int k)=>∃ i:Int,cs=[.int k i]∧(Lit.int k i).wf=true
  | some .string=>∃ s:ByteArray,cs=[.string s]∧ok s.size 1
  | some (.slice e)=>∃ (p:Option Addr) (L:List (List Value)) (c:Nat),cs=[.slice p L.length c]∧L.length≤c∧ok c (P.bytesOf e)∧Rd w p L.length (P.cellsOf e) L.flatten∧∀ x∈L,Inp P w ok n e x
  | some (.struct fs)=>cs.length=P.cellsOf t∧∀ f∈fs.toList,Inp P w ok n f.type ((cs.drop f.offset).take (P.cellsOf f.type))
  | _=>True
section
variable {P:Program} {w:World} {ok:Nat→Nat→Prop} {n:Nat} {t:TypeId} {cs:List Value}
theorem Inp.bool (h:Inp P w ok n t cs) (ht:P.underlying t=some .bool):∃ b:Bool,cs=[.bool b]:=by
 cases n with
 | zero=>exact h.elim
 | succ n=>unfold Inp at h; rw [ht] at h; exact h
theorem Inp.int {k:IntKind} (h:Inp P w ok n t cs) (ht:P.underlying t=some (.int k)):∃ i:Int,cs=[.int k i]∧(Lit.int k i).wf=true:=by
 cases n with
 | zero=>exact h.elim
 | succ n=>unfold Inp at h; rw [ht] at h; exact h
theorem Inp.str (h:Inp P w ok n t cs) (ht:P.underlying t=some .string):∃ s:ByteArray,cs=[.string s]∧ok s.size 1:=by
 cases n with
 | zero=>exact h.elim
 | succ n=>unfold Inp at h; rw [ht] at h; exact h
theorem Inp.slice {e:TypeId} (h:Inp P w ok n t cs) (ht:P.underlying t=some (.slice e)) :
 ∃ (p:Option Addr) (L:List (List Value)) (c:Nat),cs=[.slice p L.length c]∧L.length≤c∧ok c (P.bytesOf e)∧Rd w p L.length (P.cellsOf e) L.flatten∧∀ x∈L,∃ n,Inp P w ok n e x:=by
 cases n with
 | zero=>exact h.elim
 | succ n =>
  unfold Inp at h; rw [ht] at h
  obtain ⟨p,L,c,h1,h2,h3,h4,h5⟩:=h
  exact ⟨p,L,c,h1,h2,h3,h4,fun x hx=>⟨n,h5 x hx⟩⟩
theorem Inp.struct {fs:Array Field} (h:Inp P w ok n t cs) (ht:P.underlying t=some (.struct fs)):cs.length=P.cellsOf t∧∀ f∈fs.toList,∃ n,Inp P w ok n f.type ((cs.drop f.offset).take (P.cellsOf f.type)):=by
 cases n with
 | zero=>exact h.elim
 | succ n =>
  unfold Inp at h; rw [ht] at h
  exact ⟨h.1,fun f hf=>⟨n,h.2 f hf⟩⟩
end
theorem cell_at {w:World} {b j:Nat} {v:Value} (h:w.cell? ⟨b,j,none⟩=some v):∃ cs,cellsAt w b=some cs∧cs[j]?=some v:=by
 unfold World.cell? at h
 unfold cellsAt
 simp only at h
 split at h
 ·rename_i c t fz hh
  exact ⟨c.toList,by rw [hh],by simpa using h⟩
 ·cases h
theorem rd_of_cells {w:World} {a:Addr} {n sz:Nat} {xs:List Value} (hl:xs.length=n*sz) (hc:∀ i,i<n*sz→w.cell? (a.add i)=xs[i]?):Rd w (some a) n sz xs:=by
 refine ⟨hl,?_⟩
 by_cases h0:n*sz=0
 ·exact .inl h0
 ·have h1:=hc 0 (by omega)
  rw [List.getElem?_eq_getElem (by omega)] at h1
  have hs:=World.cell?_spot h1
  obtain ⟨b,o,sp⟩:=a
  have hsp:sp=none:=by
   unfold Addr.add at hs
   split at hs<;>simp_all
  subst hsp
  simp only [add_at] at hc h1
  obtain ⟨cs,hcs,_⟩:=cell_at h1
  right
  have hat:∀ i,i<n*sz→cs[o+i]?=xs[i]?:=fun i hi=>by
   rw [← cell_of hcs,hc i hi]
  have hlast:=hat (n*sz-1) (by omega)
  rw [List.getElem?_eq_getElem (by omega:n*sz-1<xs.length)] at hlast
  have hlt:=(List.getElem?_eq_some_iff.1 hlast).1
  refine ⟨b,o,cs,rfl,hcs,by omega,?_⟩
  apply List.ext_getElem?
  intro i
  rw [List.getElem?_take]
  split
  ·rename_i hi; rw [List.getElem?_drop,hat i hi]
  ·rw [List.getElem?_eq_none (by omega)]
section
variable {H:Type} {enc:TypeId × Value→H} {P:Program} {w:World}
theorem flatten_get {sz:Nat} (L:List (List Value)) (h:∀ x∈L,x.length=sz) (i j:Nat) (hj:j<sz):L.flatten[i*sz+j]?=L[i]?.bind fun x=>x[j]?:=by
 induction L generalizing i with
 | nil=>simp
 | cons x L ih =>
  have hx:x.length=sz:=h x (by simp)
  rw [List.flatten_cons]
  cases i with
  | zero=>rw [Nat.zero_mul,Nat.zero_add,List.getElem?_append_left (by omega)]; simp
  | succ i =>
   rw [List.getElem?_append_right (by rw [hx,Nat.add_mul]; omega),hx,show (i+1)*sz+j-sz=i*sz+j by rw [Nat.add_mul]; omega,ih (fun y hy=>h y (by simp [hy])) i]; simp
theorem flatten_len {sz:Nat} (L:List (List Value)) (h:∀ x∈L,x.length=sz):L.flatten.length=L.length*sz:=by
 induction L with
 | nil=>simp
 | cons x L ih=>rw [List.flatten_cons,List.length_append,h x (by simp),ih fun y hy=>h y (by simp [hy]),List.length_cons,Nat.add_mul]; omega
structure Measure (P:Program) (H:Type) where
 ok:Nat→Nat→Prop
 good:TypeId→DataW H→Prop
 str:∀ {t:TypeId} {l:List UInt8},good t (.lit (.string l))→ok l.length 1
 nil:∀ e,ok 0 (P.bytesOf e)
 slice:∀ {t e:TypeId} {a b:List (DataW H)},P.underlying t=some (.slice e)→good t (.slice a b)→ok (a.length+b.length) (P.bytesOf e)∧∀ d∈a,good e d
 agg:∀ {t:TypeId} {fs:Array Field} {l:List (DataW H)},P.underlying t=some (.struct fs)→good t (.agg l)→∀ (j:Nat) (f:Field) (d:DataW H),fs[j]?=some f→l[j]?=some d→good f.type d
theorem inp_of_trod (M:Measure P H) (base:Nat):∀ (fuel:Nat) (t:TypeId) (cs:List Value) (x:DataW H × List MemPlace),DataW.trod enc P w base (fun _=>true) true fuel t cs=some x→M.good t x.1→∃ n,Inp P w M.ok n t cs:=by
 have mono:∀ (a b:Nat) (t:TypeId) (cs:List Value),a≤b→Inp P w M.ok a t cs→Inp P w M.ok b t cs:=by
  intro a
  induction a with
  | zero=>intro b t cs _ h; exact h.elim
  | succ a ih =>
   intro b t cs hab h
   obtain ⟨b,rfl⟩:∃ c,b=c+1:=⟨b-1,by omega⟩
   unfold Inp at h ⊢
   split at h
   ·exact h
   ·exact h
   ·exact h
   ·obtain ⟨p,L,c,h1,h2,h3,h4,h5⟩:=h
    exact ⟨p,L,c,h1,h2,h3,h4,fun x hx=>ih b _ _ (by omega) (h5 x hx)⟩
   ·exact ⟨h.1,fun f hf=>ih b _ _ (by omega) (h.2 f hf)⟩
   ·trivial
 intro fuel
 induction fuel with
 | zero=>intro t cs x h; simp [DataW.trod] at h
 | succ fuel ih =>
  intro t cs x h hg
  cases ht:P.underlying t with
  | none=>exact ⟨1,by unfold Inp; rw [ht]; trivial⟩
  | some td =>
   cases td with
   | bool =>
    obtain ⟨b,rfl,_⟩:=DataW.trod_bool ht h
    exact ⟨1,by unfold Inp; rw [ht]; exact ⟨b,rfl⟩⟩
   | int k =>
    obtain ⟨i,rfl,_,hw⟩:=DataW.trod_int ht h
    exact ⟨1,by unfold Inp; rw [ht]; exact ⟨i,rfl,hw⟩⟩
   | string =>
    obtain ⟨s,rfl,rfl,_⟩:=DataW.trod_string ht h
    exact ⟨1,by unfold Inp; rw [ht]; exact ⟨s,rfl,by simpa using M.str hg⟩⟩
   | slice e =>
    rcases DataW.trod_slice ht h with ⟨rfl,_⟩ | ⟨a,len,cap,elems,rest,m,hm,rfl,rfl,hb,hl,hmx,hlen,hel,hsp,hns⟩
    ·exact ⟨1,by unfold Inp; rw [ht]; exact ⟨none,[],0,rfl,Nat.le_refl _,M.nil e,⟨by simp,.inl (by simp)⟩,by simp⟩⟩
    ·obtain ⟨hk,hge⟩:=M.slice ht hg
     obtain rfl:fuel=m:=by omega
     have hrest:=(hsp rfl).1
     have hcap:elems.length+rest.length=cap:=by omega
     have each:∀ i,i<len→∃ cs',w.cells? base (a.add (i*P.cellsOf e)) (P.cellsOf e)=some cs'∧∃ n,Inp P w M.ok n e cs':=fun i hi=>by
      have h1:=hel i hi
      have h2:elems[i]?=some (elems[i]'(by omega)):=List.getElem?_eq_getElem (by omega)
      rw [h2] at h1
      cases hc:w.cells? base (a.add (i*P.cellsOf e)) (P.cellsOf e) with
      | none=>rw [hc] at h1; cases h1
      | some cs' =>
       rw [hc] at h1
       exact ⟨cs',rfl,ih e cs' _ h1 (hge _ (List.mem_map.2 ⟨_,List.mem_of_getElem? h2,rfl⟩))⟩
     obtain ⟨F,hF⟩:=Deep.choose_lt each
     obtain ⟨N,hN⟩:=Deep.fuel_lt (n:=len) (q:=fun i n=>Inp P w M.ok n e (F i)) (fun i a b hab h=>mono a b _ _ hab h) (fun i hi=>(hF i hi).2)
     have hFl:∀ x∈(List.range len).map F,x.length=P.cellsOf e:=fun x hx=>by
      obtain ⟨i,hi,rfl⟩:=List.mem_map.1 hx
      exact (World.cells?_some (hF i (List.mem_range.1 hi)).1).2.1
     have hlen':((List.range len).map F).length=len:=by simp
     refine ⟨N+1,?_⟩
     unfold Inp
     rw [ht]
     refine ⟨some a,(List.range len).map F,cap,by rw [hlen'],by rw [hlen']; exact hl,by simpa [hcap] using hk,?_,fun x hx=>?_⟩
     ·rw [hlen']
      have hll:((List.range len).map F).flatten.length=len*P.cellsOf e:=by
       rw [flatten_len _ hFl,hlen']
      refine rd_of_cells hll fun i hi=>?_
      have hsz:0<P.cellsOf e:=Nat.pos_of_ne_zero fun h0=>by rw [h0] at hi; simp at hi
      have hdm:=Nat.div_add_mod i (P.cellsOf e)
      have hil:i / P.cellsOf e<len:=by rw [Nat.div_lt_iff_lt_mul hsz]; exact hi
      have hj:=Nat.mod_lt i hsz
      have h3:=(World.cells?_some (hF _ hil).1).2.2 (i%P.cellsOf e) hj
      rw [Deep.add_add,Nat.mul_comm,hdm] at h3
      rw [h3]
      have h4:=flatten_get _ hFl (i / P.cellsOf e) (i%P.cellsOf e) hj
      rw [Nat.mul_comm,hdm] at h4
      rw [h4,List.getElem?_map,List.getElem?_range hil]; simp
     ·obtain ⟨i,hi,rfl⟩:=List.mem_map.1 hx
      exact hN i (List.mem_range.1 hi)
   | struct fs =>
    obtain ⟨xs,m,hm,rfl,hcl,hxl,hf⟩:=DataW.trod_struct ht h
    obtain rfl:fuel=m:=by omega
    have each:∀ i,i<fs.size→∃ n,∀ f,fs[i]?=some f→Inp P w M.ok n f.type ((cs.drop f.offset).take (P.cellsOf f.type)):=fun i hi=>by
     have hfi:fs[i]?=some fs[i]:=Array.getElem?_eq_getElem hi
     have h1:=hf i _ hfi
     have h2:xs[i]?=some (xs[i]'(by omega)):=List.getElem?_eq_getElem (by omega)
     rw [h2] at h1
     obtain ⟨n,hn⟩:=ih _ _ _ h1 (M.agg ht hg i _ _ hfi (by rw [List.getElem?_map,h2]; rfl))
     exact ⟨n,fun f hf'=>by rw [hfi] at hf'; cases hf'; exact hn⟩
    obtain ⟨N,hN⟩:=Deep.fuel_lt (n:=fs.size) (q:=fun i n=>∀ f,fs[i]?=some f→Inp P w M.ok n f.type ((cs.drop f.offset).take (P.cellsOf f.type))) (fun i a b hab h f hf=>mono a b _ _ hab (h f hf)) each
    refine ⟨N+1,?_⟩
    unfold Inp
    rw [ht]
    refine ⟨hcl,fun f hf'=>?_⟩
    obtain ⟨i,hi,rfl⟩:=List.mem_iff_getElem.1 hf'
    exact hN i (by simpa using hi) _ (by simp)
   | _=>exact ⟨1,by unfold Inp; rw [ht]; trivial⟩
end
def InpV (P:Program) (w:World) (ok:Nat→Nat→Prop) (t:TypeId) (v:Value):Prop :=
 (∃ n,Inp P w ok n t v.cells.toList)∧(match P.underlying t with | some (.struct _) | some (.array _ _)=>∃ cs,v=.agg cs | _=>oneV v=true)
def InpAll (P:Program) (w:World) (ok:Nat→Nat→Prop):List TypeId→List Value→Prop
 | [],[]=>True
 | t::ts,v::vs=>InpV P w ok t v∧InpAll P w ok ts vs
 | _,_=>False
section
variable {H:Type} {enc:TypeId × Value→H} {P:Program} {w:World}
theorem inpAll_of (M:Measure P H):∀ {ts:List TypeId} {vs:List Value} {ds:List (DataW H)} {ps:List MemPlace},DataW.TrodAll enc P w 0 (fun _=>true) true ts vs ds ps →
 (∀ (j:Nat) t v,ts[j]?=some t→vs[j]?=some v→∃ b,Value.okWide P w .any b t v)→(∀ (j:Nat) t d,ts[j]?=some t→ds[j]?=some d→M.good t d)→InpAll P w M.ok ts vs
 | [],[],_,_,_,_,_=>trivial
 | t::ts,v::vs,d::ds,ps,h,hv,hg=>by
  obtain ⟨p,q,⟨fuel,hf⟩,h2,_⟩:=h
  refine ⟨⟨inp_of_trod M 0 fuel t _ _ hf (hg 0 t d rfl rfl),?_⟩,inpAll_of M h2 (fun j t v ht hv'=>hv (j+1) t v ht hv') fun j t d ht hd=>hg (j+1) t d ht hd⟩
  obtain ⟨b,h3⟩:=hv 0 t v rfl rfl
  unfold Value.okWide at h3
  cases ht:P.underlying t with
  | none=>simp only [ht] at h3 ⊢; unfold Cell.okWide Cell.ok at h3; rw [ht] at h3; cases v<;>first | rfl | exact h3.elim
  | some td =>
   cases td<;>simp only [ht] at h3 ⊢
   all_goals first
    | (obtain ⟨cs,h3,_⟩:=h3; exact ⟨cs,h3⟩)
    | (unfold Cell.okWide Cell.ok at h3; rw [ht] at h3; cases v<;>first | rfl | exact h3.elim)
 | [],_::_,_,_,h,_,_=>h.elim
 | _::_,[],_,_,h,_,_=>h.elim
 | _::_,_::_,[],_,h,_,_=>h.elim
theorem trodAll_stays {W W':World} (hl:laidOutB P=true) (hb:RowKit.Below W.heap.size W W'):∀ {ts:List TypeId} {vs:List Value} {ds:List (DataW H)} {ps:List MemPlace},
 (∀ t∈ts,P.readableRec t=true∧t<P.types.size)→DataW.TrodAll enc P W 0 (fun _=>true) true ts vs ds ps→DataW.TrodAll enc P W' 0 (fun b=>decide (b<W.heap.size)) true ts vs ds ps
 | [],[],[],_,_,h=>h
 | t::ts,v::vs,d::ds,ps,hr,h=>by
  obtain ⟨p,q,h1,h2,e⟩:=h
  have hlt:∀ x∈p,x.block<W.heap.size:=by obtain ⟨m,hm⟩:=h1; exact DataW.trod_lt m _ _ _ hm
  exact ⟨p,q,Below.trod hl (hr t (List.mem_cons_self ..)).1 (hr t (List.mem_cons_self ..)).2 h1 hb hlt,trodAll_stays hl hb (fun t ht=>hr t (List.mem_cons_of_mem _ ht)) h2,e⟩
 | [],_::_,_,_,_,h=>h.elim
 | _::_,[],_,_,_,h=>h.elim
 | [],[],_::_,_,_,h=>h.elim
 | _::_,_::_,[],_,_,h=>h.elim
theorem trodAll_ds_len {spare:Nat→Bool} {base:Nat} {held:Bool}:∀ {ts:List TypeId} {vs:List Value} {ds:List (DataW H)} {ps:List MemPlace},DataW.TrodAll enc P w base spare held ts vs ds ps→ds.length=ts.length
 | [],[],[],_,_=>rfl
 | t::ts,v::vs,d::ds,ps,⟨p,q,_,h,_⟩=>by simp [trodAll_ds_len h]
 | [],_::_,_,_,h=>h.elim
 | _::_,[],_,_,h=>h.elim
 | [],[],_::_,_,h=>h.elim
 | _::_,_::_,[],_,h=>h.elim
theorem law_contract {C:Checked} {f:FuncId} {fn:Func} {s:ChangeSpec} {tb:TypeId} (M:Measure C.prog H)
 (hl:laidOutB C.prog=true) (hvars:s.vars=[]) (hfun:∀ ds:List (DataW H),ds.length=fn.params.toList.length→s.fn H ds={ results:=[.lit (.bool true)],args:=ds })
 (hres:fn.resultTypes=#[tb]) (htb:C.prog.underlying tb=some .bool) (hrec:fn.params.toList.all (fun t=>C.prog.readableRec t && decide (t<C.prog.types.size))=true)
 {W:World} {base:Nat} {args:Array Value} {ds gs:List (DataW H)} {before:List MemPlace}
 (hval:∀ (j:Nat) t v,fn.params[j]?=some t→args[j]?=some v→Value.okWide C.prog W .any base t v)
 (hW:DataW.Whole enc C.prog fn.params.toList s.vars false W args.toList ds gs before) (hgood:∀ (j:Nat) (t:TypeId) (d:DataW H),fn.params.toList[j]?=some t→ds[j]?=some d→M.good t d)
 (walk:InpAll C.prog W M.ok fn.params.toList args.toList→callP C.prog f args.toList W fun v w'=>v=.bool true∧Ch (fun _=>False) W w') :
 Calls C.prog f args W fun e W'=>∃ v,e=.returned v∧s.post enc C.prog fn false true false false W args v W':=by
 have hW':=hW
 obtain ⟨p,q,hA,hV,hbef,hfz,hnd⟩:=hW
 rw [hvars] at hV
 obtain ⟨rfl,rfl⟩:=trodVars_none hV
 have hlen:=trodAll_ds_len hA
 have hrec':∀ t∈fn.params.toList,C.prog.readableRec t=true∧t<C.prog.types.size:=fun t ht=>by
  have:=List.all_eq_true.1 hrec t ht
  simpa using this
 have hin:=inpAll_of M hA (fun j t v ht hv=>⟨base,hval j t v (by simpa using ht) (by simpa using hv)⟩) hgood
 have hc:=walk hin
 have hc2:Calls C.prog f args W fun e w'=>∃ v,e=.returned v∧(v=.bool true∧Ch (fun _=>False) W w'):=by
  unfold callP at hc
  have e:args.toList.toArray=args:=by simp
  rw [e] at hc
  exact hc
 refine Calls.mono hc2 fun e W' ⟨v,he,hv,hch⟩=>?_
 subst hv
 have bel:RowKit.Below W.heap.size W W':=hch.below (Nat.le_refl _) fun _ h=>h.elim
 refine ⟨_,he,ds,[],before,[],p,[],hW',?_,?_,?_,bel.frame _,fun h=>by cases h⟩
 ·rw [List.append_nil,hfun ds hlen,hres]
  exact trodAll_mk1 (shut_bool htb _)
 ·rw [List.append_nil,hfun ds hlen]
  exact trodAll_stays hl bel hrec' hA
 ·rw [List.append_nil,hfun ds hlen,hvars]; rfl
end
end Go.Sv
namespace Go.Sv
open Go Go.ChangeShapes Go.WideShapes Go.ChangeAt Go.RowKit
set_option linter.unusedVariables false
section
variable {H:Type} {enc:TypeId × Value→H}
end
end Go.Sv
namespace Go.Proofs.YtnmlmicmhpkbeaaGreatDoor
open Go Go.Sv
theorem bulk_part {H:Type} {d:DataW H} {l:List (DataW H)} (h:d∈l):Rows.uptoBulk d≤Rows.uptoBulkAll l:=by
 induction l with
 | nil=>cases h
 | cons x r ih =>
  simp only [Rows.uptoBulkAll]
  rcases List.mem_cons.1 h with rfl | e
  ·omega
  ·have:=ih e; omega
theorem bulk_one {H:Type} (d:DataW H):1≤Rows.uptoBulk d:=by
 cases d with
 | lit l=>cases l<;>simp [Rows.uptoBulk]
 | _=>simp [Rows.uptoBulk]
theorem bulk_len {H:Type} (l:List (DataW H)):l.length≤Rows.uptoBulkAll l:=by
 induction l with
 | nil=>simp [Rows.uptoBulkAll]
 | cons x r ih=>have:=bulk_one x; simp only [Rows.uptoBulkAll,List.length_cons]; omega
def upM:Nat:=1048576
def byBulk (P:Program) (H:Type):Measure P H where
 ok n _:=n≤upM
 good _ d:=Rows.uptoBulk d≤upM
 str h:=by simp only [Rows.uptoBulk] at h; omega
 nil _:=Nat.zero_le _
 slice {_ _ a b} _ h:=by
  simp only [Rows.uptoBulk] at h
  have h1:=bulk_len a
  have h2:=bulk_len b
  exact ⟨by omega,fun d hd=>by have:=bulk_part hd; omega⟩
 agg {_ _ l} _ h j f d _ hd:=by
  simp only [Rows.uptoBulk] at h
  have:=bulk_part (List.mem_of_getElem? hd)
  omega
theorem byBulk_of {P:Program} {H:Type} (ds:List (DataW H)) (h:Rows.uptoSmall H ds=true):∀ d∈ds,∀ t,(byBulk P H).good t d:=fun d hd t=>by
 have h1:Rows.uptoBulkAll ds≤1048576:=by simpa [Rows.uptoSmall] using h
 have:=bulk_part hd
 show Rows.uptoBulk d≤upM
 unfold upM; omega
abbrev okU:Nat→Nat→Prop:=fun n _=>n≤upM
end Go.Proofs.YtnmlmicmhpkbeaaGreatDoor
namespace Go.Sv
open Go Go.ChangeShapes Go.WideShapes Go.ChangeAt Go.RowKit
set_option linter.unusedVariables false
section
variable {H:Type} {enc:TypeId × Value→H}
theorem law_contractT {C:Checked} {f:FuncId} {fn:Func} {s:ChangeSpec} {tb:TypeId} (M:Measure C.prog H)
 (hl:laidOutB C.prog=true) (hvars:s.vars=[]) (hfun:∀ ds:List (DataW H),ds.length=fn.params.toList.length→s.fn H ds={ results:=[.lit (.bool true)],args:=ds })
 (hres:fn.resultTypes=#[tb]) (htb:C.prog.underlying tb=some .bool) (hrec:fn.params.toList.all (fun t=>C.prog.readableRec t && decide (t<C.prog.types.size))=true)
 {W:World} {base:Nat} {args:Array Value} {ds gs:List (DataW H)} {before:List MemPlace}
 (hval:∀ (j:Nat) t v,fn.params[j]?=some t→args[j]?=some v→Value.okWide C.prog W .any base t v)
 (hW:DataW.Whole enc C.prog fn.params.toList s.vars false W args.toList ds gs before) (hgood:∀ d∈ds,∀ t,M.good t d)
 (walk:∀ ps,DataW.TrodAll enc C.prog W 0 (fun _=>true) true fn.params.toList args.toList ds ps→InpAll C.prog W M.ok fn.params.toList args.toList→callP C.prog f args.toList W fun v w'=>v=.bool true∧Ch (fun _=>False) W w') :
 Calls C.prog f args W fun e W'=>∃ v,e=.returned v∧s.post enc C.prog fn false true false false W args v W':=by
 have hA':=hW
 obtain ⟨p,q,hA,hV,hbef,hfz,hnd⟩:=hA'
 exact law_contract M hl hvars hfun hres htb hrec hval hW (fun j t d ht hd=>hgood d (List.mem_of_getElem? hd) t) (walk p hA)
theorem lift_laidT {C:Checked} {os:Os} (started:os.Started) {f:FuncId} {fn:Func} {s:ChangeSpec} {o:OpenSpec} {k:(H:Type)→List (DataW H)→Bool} (M:Measure C.prog H) {dom:List PathCond} {laid:List (String × DataW Unit)} {tb:TypeId} {F:Stop.Interp}
 (ho:o={ OpenSpec.ofChange s with cond:=some k }) (hM:∀ ds:List (DataW H),k H ds=true→∀ d∈ds,∀ t,M.good t d)
 (own:ownKnob C.prog.godebug=none) (hl:laidOutB C.prog=true) (noInit:C.prog.inits.idxOf? f=none) (hfn:C.prog.funcs[f]?=some fn)
 (witness:∃ (w:World) (tape:Tape) (i:Input),w.os=os∧(w.forCall tape i).Shaped C.prog∧i.vars=[]∧Input.okWide C.prog (w.forCall tape i) .any w.heap.size f i ∧
   o.preRow enc C.prog fn dom false laid (w.forCall tape i).memory i.args∧({}:Assume).holds C.prog (lone (Frame.enter C.prog f i.args .normal) [] (w.forCall tape i)))
 (hvars:s.vars=[]) (hfun:∀ ds:List (DataW H),ds.length=fn.params.toList.length→s.fn H ds={ results:=[.lit (.bool true)],args:=ds })
 (hres:fn.resultTypes=#[tb]) (htb:C.prog.underlying tb=some .bool) (hrec:fn.params.toList.all (fun t=>C.prog.readableRec t && decide (t<C.prog.types.size))=true)
 (walk:∀ (W:World) (args:Array Value) (ds:List (DataW H)) ps,laidMetH C.prog laid W→(∀ d∈ds,∀ t,M.good t d)→DataW.TrodAll enc C.prog W 0 (fun _=>true) true fn.params.toList args.toList ds ps→InpAll C.prog W M.ok fn.params.toList args.toList →
   callP C.prog f args.toList W fun v w'=>v=.bool true∧Ch (fun _=>False) W w') :
 ReturnsInHanded {} C os f .any (o.preRow enc C.prog fn dom false laid) ((o.at F).post enc C.prog fn false true false false):=by
 subst ho
 refine returnsInHanded_of_row own started noInit hfn witness ?_
 intro W base args ds gs before hval hW _ hk _ hL _ _
 have hg:∀ d∈ds,∀ t,M.good t d:=fun d hd t=>hM _ (hk k rfl) d (List.mem_append.2 (.inl hd)) t
 exact law_contractT M hl hvars hfun hres htb hrec hval hW hg fun ps=>walk W args ds ps hL hg
end
end Go.Sv
