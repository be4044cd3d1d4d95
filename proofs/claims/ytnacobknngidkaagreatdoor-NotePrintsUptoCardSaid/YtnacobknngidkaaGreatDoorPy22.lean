/-
  The law's own functions: live; Numbers, Quotes, Unquotes. The laws Back, Again, Unlike. The document's Lent and AsLent (longshoreref02): a value lent out, and looked at again. The document's Check (longshoreref02): a value by itself. The document's Check (longshoreref02): numbers, texts, rows; a value by itself; whole. The document's Print (longshoreref04): names, numbers, what is written. The document's Print (longshoreref04): a whole value. The document's Check (longshoreref02), whole; its Print (longshoreref04). The document's AsLent (longshoreref02); the law Prints. What came in, as a law's call finds it: 'Inp', read off the statement's own words; and the wrap of a law's statement ('lift_said'). Over every program. The wrap of a law's statement where the row lists package variables; a world for its witness. Over every program.
-/
import Derived.Test.YtnacobknngidkaaGreatDoorPy21
import Derived.KernelRfl
import Derived.ProofKit
import Derived.OpenShut
import Derived.ShutString
import Derived.ChangeOld
import Derived.Below
import Derived.Carry
import Derived.SizedLaws
import Derived.Deep.Slices
import Derived.Deep.CondSized
import Derived.Deep.DeepHandedRow
import Derived.Lib.LaidTab
set_option linter.unusedVariables false
set_option linter.unusedSimpArgs false
namespace Go.Note
open Go
set_option linter.unusedVariables false
def unqR (l:Bs):Bs × Bool:=match wordB l with
 | some p=>if p.2=l.length then (p.1,true) else ([],false)
 | none=>([],false)
def mLive:M:=.mk 22 0 [] 0 [.mk 20 0 [107] 0 [],.mk 21 0 [] 0 [.mk 0 0 [] 0 []],.mk 4 1 [] 0 [],.mk 15 65 [] 0 []]
def tLive:Bs:=[123,115,121,109,98,111,108,32,34,107,34,58,32,91,110,117,108,108,93,44,32,117,105,110,116,32,49,58,32,99,104,97,114,32,54,53,125]
theorem live_print:printM mLive=tLive:=by decide +kernel
theorem live_check:mLive.check 1=0:=by decide +kernel
theorem live_fits:mLive.fits:=by
 refine .mk (by decide) fun x hx=>?_
 simp only [List.mem_cons,List.not_mem_nil,or_false] at hx
 rcases hx with rfl | rfl | rfl | rfl
 ·exact .mk (by decide) (by simp)
 ·refine .mk (by decide) fun x hx=>?_
  simp only [List.mem_cons,List.not_mem_nil,or_false] at hx
  subst hx
  exact .mk (by decide) (by simp)
 ·exact .mk (by decide) (by simp)
 ·exact .mk (by decide) (by simp)
set_option maxRecDepth 100000 in
theorem live_parse:parseB tLive=.ok mLive 0:=by kernel_rfl
theorem live_quote:quoteB [0,34]=[34,92,120,48,48,92,34,34]:=by decide +kernel
theorem live_unq:unqR [34,92,120,52,49,34]=([65],true):=by decide +kernel
end Go.Note
namespace Go.Proofs.YtnacobknngidkaaGreatDoor
open Go Go.Sv Go.Note
set_option linter.unusedVariables false
attribute [local irreducible] Sif
set_option maxRecDepth 4000
theorem unq_ok {s:ByteArray} (hs:s.size≤2^40) {w:World} (hL:LW w) {K:Value→World→Prop} (hk:∀ w',Ch (fun _=>False) w w'→K (.tuple #[.string ⟨(unqR s.data.toList).1.toArray⟩,.bool (unqR s.data.toList).2]) w') :
 callP Tryz.prog 28 [.string s] w K:=by
 refine Unquote_ok hs hL.ut (by have:=hL.size; omega) fun w' c=>?_
 have:=hk w' c
 unfold unqR at this
 rw [sl] at this
 cases h:wordB s.data.toList with
 | none=>rw [h] at this; exact this
 | some p =>
  rw [h] at this
  simp only at this ⊢
  split<;>rename_i hp
  ·rw [if_pos hp] at this; exact this
  ·rw [if_neg hp] at this; exact this
theorem tupV {x:MV} {a e:Int} {K:Int→Int→ByteArray→Option Addr→Nat→Nat→Int→Int→Int→Prop} (h:K x.k (x.n:Int) ⟨x.t.toArray⟩ x.s.p x.s.n x.s.c x.e a e) :
 ∃ n n1 s p n2 c n3 n4 n5,Value.tuple #[x.v,.int .i64 a,.int .i64 e]=.tuple (Array.mk [.agg (Array.mk [.int .i64 n,.int .u64 n1,.string s,.slice p n2 c,.int .i64 n3]),.int .i64 n4,.int .i64 n5])∧K n n1 s p n2 c n3 n4 n5:=by
 cases x
 exact ⟨_,_,_,_,_,_,_,_,_,rfl,h⟩
theorem Sif_true_of {b:Bool} {x y:Prop} (h:b=true) (hx:x):Sif b x y:=by subst h; exact Sif_true hx
theorem live_ok {w:World} (hL:LW w) {K:Value→World→Prop} (hk:∀ w',Ch (fun _=>False) w w'→K (.bool true) w'):callP Tryz.prog 13 [] w K:=by
 apply ok_longshorelaw04_live
 unfold wp_longshorelaw04_live
 refine Parse_ok (S:=⟨tLive.toArray⟩) (by decide) hL fun x w1 hx ho hB c1=>?_
 have hp:parseR tLive=(mLive,0,0):=by unfold parseR; rw [live_parse]
 rw [str_list] at hx ⊢
 rw [hp] at hx ⊢
 refine tupV ?_
 refine nbx rfl fun w2 b2 c2 z2=>?_
 refine ldK b2 ?_
 rw [vv]
 have c12:=c1.trans' c2
 have hx:x.m=mLive:=hx
 have no:¬ x.m.check 1≠0:=by rw [hx,live_check]; decide
 refine Print_ok (hL.ch0 c12) (ho.vr'.ch0 c2) (by rw [hx]; exact live_fits) (by rw [hx]; decide) (fun w3 c3 h=>absurd h no) (fun w3 c3 _ h=>?_) (fun w3 c3 _ h=>?_)
 ·rw [hx,live_print] at h; exact absurd h (by decide)
 rw [hx,live_print]
 refine ⟨_,_,rfl,?_⟩
 refine Quote_ok _ (by decide) fun w4 c4=>⟨_,rfl,?_⟩
 have c14:=(c12.trans' c3).trans' c4
 refine unq_ok (by decide) (hL.ch0 c14) fun w5 c5=>⟨_,_,rfl,?_⟩
 refine Sif_true (Sif_true ?_)
 rw [show ByteArray.data (ByteArray.mk (Array.mk [(0:UInt8),34]))=([0,34]:Bs).toArray by rfl,List.toList_toArray,live_quote]
 rw [show ByteArray.data (ByteArray.mk (Array.mk [(34:UInt8),92,120,52,49,34]))=([34,92,120,52,49,34]:Bs).toArray by rfl,List.toList_toArray,live_unq]
 refine Sif_true_of (by decide +kernel) (Sif_true_of (by decide +kernel) (Sif_true_of (by decide +kernel) ?_))
 exact hk w5 (c14.trans' c5)
end Go.Proofs.YtnacobknngidkaaGreatDoor
namespace Go.Note
open Go
def PrR (m:M):Bs × Nat:=if m.check 1≠0 then ([],m.check 1) else if 1048576<(printM m).length then ([],2) else (printM m,0)
theorem PrR_ok {m:M} (h1:m.check 1=0) (h2:(printM m).length≤1048576):PrR m=(printM m,0):=by
 unfold PrR; rw [if_neg (by omega),if_neg (by omega)]
end Go.Note
namespace Go.Proofs.YtnacobknngidkaaGreatDoor
open Go Go.Sv Go.Note
set_option linter.unusedVariables false
attribute [local irreducible] Sif
set_option maxRecDepth 4000
theorem print_ok {Q:Nat→Prop} {w:World} {x:MV} (hL:LW w) (hx:VR Q w x) (hf:x.m.fits) (hz:x.m.sz≤2^37) {K:Value→World→Prop}
 (hk:∀ w',Ch (fun _=>False) w w'→K (.tuple #[.string ⟨(PrR x.m).1.toArray⟩,.int .i64 ((PrR x.m).2:Int)]) w') :
 callP Tryz.prog 16 [x.v] w K:=by
 refine Print_ok hL hx hf hz (fun w' c h=>?_) (fun w' c h h2=>?_) fun w' c h h2=>?_
 ·have:=hk w' c
  unfold PrR at this; rw [if_pos h] at this; exact this
 ·have:=hk w' c
  unfold PrR at this; rw [if_neg (by omega),if_pos h2] at this; exact this
 ·have:=hk w' c
  rw [PrR_ok h h2] at this; exact this
theorem intEq (x y:Int):(x == y)=decide (x=y):=by
 by_cases h:x=y
 ·subst h; simp
 ·rw [decide_eq_false h,beq_eq_false_iff_ne]; exact h
theorem ne0 (n:Nat):((n:Int) != 0)=decide (n≠0):=by
 by_cases h:n=0
 ·subst h; rfl
 ·rw [decide_eq_true h]; rw [bne_iff_ne]; omega
theorem eq0 (n:Nat):((n:Int) == 0)=decide (n=0):=by
 by_cases h:n=0
 ·subst h; rfl
 ·rw [decide_eq_false h]; rw [beq_eq_false_iff_ne]; omega
theorem sz_wt' (m:M):m.wt≤m.sz:=by
 revert m
 refine M.ind fun k n t e l ih=>?_
 rw [M.sz_mk,M.wt_mk]
 have:(l.map M.wt).sum≤(l.map M.sz).sum:=by
  clear k n t e
  induction l with
  | nil=>simp
  | cons x l ih2 =>
   have h1:=ih x (by simp)
   have h2:=ih2 fun y hy=>ih y (by simp [hy])
   simp only [List.map_cons,List.sum_cons]; omega
 have:=Nat.div_le_self t.length 64
 omega
end Go.Proofs.YtnacobknngidkaaGreatDoor
namespace Go.Proofs.YtnacobknngidkaaGreatDoor
open Go Go.Sv Go.Note
set_option linter.unusedVariables false
attribute [local irreducible] Sif
set_option maxRecDepth 4000
def nS:SL:=⟨none,0,0,none⟩
def mk7 (i:Nat):MV:=.mk (-7) i [] nS 0 []
def mk8:MV:=.mk (-8) 0 [] nS 0 []
def marks (n:Nat):List MV:=[mk7 n,mk7 (n+1),mk7 (n+2)]
theorem flat_seg:∀ (C:List MV) (i:Nat) (x:MV),i<C.length→putSeg (C.flatMap MV.g) (i*5) x.g=(C.set i x).flatMap MV.g
 | [],i,x,h=>by simp at h
 | y::C,0,x,_=>by
  have hy:=MV.glen y
  have hx:=MV.glen x
  unfold putSeg
  simp only [List.flatMap_cons,List.set_cons_zero,Nat.zero_mul,List.take_zero,List.nil_append,Nat.zero_add]
  rw [List.drop_append_of_le_length (by omega),List.drop_of_length_le (by omega)]; rfl
 | y::C,i+1,x,h=>by
  have ih:=flat_seg C i x (by simpa using h)
  have hy:=MV.glen y
  unfold putSeg at ih ⊢
  simp only [List.flatMap_cons,List.set_cons_succ]
  rw [← ih,List.take_append,List.take_of_length_le (by omega),List.drop_append,List.drop_of_length_le (l:=y.g) (by omega)]
  rw [show (i+1)*5-y.g.length=i*5 by omega,show (i+1)*5+x.g.length-y.g.length=i*5+x.g.length by omega]
  simp
theorem st5e {w:World} {b:Nat} {C:List MV} {i:Nat} (h:blk w b=some (C.flatMap MV.g)) (hi:i<C.length) {x:MV} {K:World→Prop} (hk:∀ w',blk w' b=some ((C.set i x).flatMap MV.g)→Ch (·=b) w w'→w'.heap.size=w.heap.size→K w') :
 Sv.st w (Addr.add (Addr.add ⟨b,0,none⟩ (Int.toNat (i:Int)*5)) 0) (.int .i64 x.k) fun w1=>Sv.st w1 (Addr.add (Addr.add ⟨b,0,none⟩ (Int.toNat (i:Int)*5)) 1) (.int .u64 (x.n:Int)) fun w2=>Sv.st w2 (Addr.add (Addr.add ⟨b,0,none⟩ (Int.toNat (i:Int)*5)) 2) (.string ⟨x.t.toArray⟩) fun w3=>Sv.st w3 (Addr.add (Addr.add ⟨b,0,none⟩ (Int.toNat (i:Int)*5)) 3) (.slice x.s.p x.s.n x.s.c) fun w4=>Sv.st w4 (Addr.add (Addr.add ⟨b,0,none⟩ (Int.toNat (i:Int)*5)) 4) (.int .i64 x.e) fun w5=>K w5:=by
 simp only [add_at,Int.toNat_natCast,Nat.zero_add]
 have hl:(C.flatMap MV.g).length=C.length*5:=flat_len MV.glen C
 exact st_all [.int .i64 x.k,.int .u64 (x.n:Int),.string ⟨x.t.toArray⟩,.slice x.s.p x.s.n x.s.c,.int .i64 x.e] (i*5) (K:=K) h (by rw [hl]; simp only [List.length_cons,List.length_nil]; omega) fun w' b' c z=>hk w' (by rw [b',gg,flat_seg C i x hi]) c z
theorem at_row {w:World} {b:Nat} {C:List MV} (h:blk w b=some (C.flatMap MV.g)) {i:Nat} {x:MV} (hi:C[i]?=some x):At w b (0+i*5) x:=fun j v hv=>by
 have hj:j<5:=by have:=(List.getElem?_eq_some_iff.1 hv).1; rw [MV.glen] at this; exact this
 rw [Nat.zero_add]
 exact cellK h (i*5+j) (by rw [flat_get MV.glen C i j hj,hi]; exact hv)
inductive LV (w:World):MV→Prop where
 | mk {k:Int} {n:Nat} {t:Bs} {s:SL} {e:Int} {l:List MV} (b:Nat):s.p=some ⟨b,0,none⟩→s.own=some b→l.length=s.n→s.c=s.n+3→s.n≤2^40→blk w b=some ((l++marks s.n).flatMap MV.g)→(∀ x∈l,LV w x)→(b::l.flatMap MV.B).Nodup→LV w (.mk k n t s e l)
theorem LV.ch {S:Nat→Prop} {w w':World} (hc:Ch S w w'):∀ x:MV,LV w x→(∀ b∈x.B,¬ S b)→LV w' x:=by
 refine MV.ind fun k n t s e l ih=>?_
 intro h hn
 rw [MV.B_mk] at hn
 cases h with
 | mk b h1 h2 h3 h4 h5 h6 h7 h8 =>
  refine .mk b h1 h2 h3 h4 h5 ((hc.blk (blk_lt h6) (hn b (by rw [h2]; simp))).trans h6) (fun x hx=>ih x hx (h7 x hx) fun k hk=>hn k ?_) h8
  exact List.mem_append.2 (.inr (List.mem_flatMap.2 ⟨x,hx,hk⟩))
theorem LV.lt {w:World}:∀ x:MV,LV w x→∀ b∈x.B,b<w.heap.size:=by
 refine MV.ind fun k n t s e l ih=>?_
 intro h b hb
 rw [MV.B_mk] at hb
 cases h with
 | mk b' h1 h2 h3 h4 h5 h6 h7 h8 =>
  rcases List.mem_append.1 hb with hb | hb
  ·rw [h2] at hb
   simp only [Option.toList_some,List.mem_singleton] at hb
   subst hb; exact blk_lt h6
  ·obtain ⟨x,hx,hb⟩:=List.mem_flatMap.1 hb
   exact ih x hx (h7 x hx) b hb
theorem LV.vr {w:World}:∀ x:MV,LV w x→∀ Q:Nat→Prop,(∀ b∈x.B,Q b)→VR Q w x:=by
 refine MV.ind fun k n t s e l ih=>?_
 intro h Q hq
 rw [MV.B_mk] at hq
 cases h with
 | mk b h1 h2 h3 h4 h5 h6 h7 h8 =>
  have hl:(l.flatMap MV.g).length=s.n*5:=by rw [flat_len MV.glen,h3]
  refine .mk h3 (by omega) ⟨hl,.inr ⟨b,0,_,h1,blk_cells h6,?_,?_⟩⟩ (fun a ha _=>?_) fun x hx=>ih x hx (h7 x hx) Q fun k hk=>hq k (List.mem_append.2 (.inr (List.mem_flatMap.2 ⟨x,hx,hk⟩)))
  ·rw [List.flatMap_append,List.length_append]; omega
  ·rw [List.flatMap_append,List.drop_zero,← hl,List.take_append_of_le_length (Nat.le_refl _),List.take_length]
  ·rw [h1] at ha; cases ha
   exact hq b (by rw [h2]; simp)
theorem LV.inv {w:World} {x:MV} (h:LV w x):∃ b,x.s.p=some ⟨b,0,none⟩∧x.s.own=some b∧x.l.length=x.s.n∧x.s.c=x.s.n+3∧x.s.n≤2^40∧blk w b=some ((x.l++marks x.s.n).flatMap MV.g)∧(∀ y∈x.l,LV w y)∧(b::x.l.flatMap MV.B).Nodup:=by
 cases h with
 | mk b h1 h2 h3 h4 h5 h6 h7 h8=>exact ⟨b,h1,h2,h3,h4,h5,h6,h7,h8⟩
theorem LV.nodup {w:World} {x:MV} (h:LV w x):x.B.Nodup:=by
 cases h with
 | mk b h1 h2 h3 h4 h5 h6 h7 h8=>rw [MV.B_mk,h2]; exact h8
theorem make_zeros {w:World} (c:Nat) (hc:c≤2^41):∃ w',(Instr.makeSlice 24 (.int .i64 (c:Int)) (.int .i64 (c:Int))).run Tryz.prog w=.ok (.slice (some ⟨w.heap.size,0,none⟩) c c) w' ∧
 blk w' w.heap.size=some ((List.replicate c (MV.mk 0 0 [] nS 0 [])).flatMap MV.g)∧Ch (fun _=>False) w w'∧w'.heap.size=w.heap.size+1:=by
 obtain ⟨i,hi,h1,h2,h3⟩:=iVal
 have hr:=run_make (P:=Tryz.prog) w 24 26 i _ uVals hi h3 .i64 .i64 (c:Int) (c:Int) (by omega) (by omega) (by rw [h2]; omega) (by omega)
 rw [Int.toNat_natCast,h1] at hr
 refine ⟨_,hr,?_,alloc_ch w _,by simp⟩
 rw [alloc_blk w (madeCells (.agg #[.int .i64 0,.int .u64 0,.string ⟨#[]⟩,.slice none 0 0,.int .i64 0]:Value).cells (c*5)).toList 26]
 congr 1
 apply List.ext_getElem?
 intro j
 by_cases hj:j<c*5
 ·have hdm:=Nat.div_add_mod j 5
  have hr5:j%5<5:=Nat.mod_lt _ (by decide)
  have hq:j / 5<c:=by omega
  have hR:((List.replicate c (MV.mk 0 0 [] nS 0 [])).flatMap MV.g)[j]?=(MV.mk 0 0 [] nS 0 []).g[j%5]?:=by
   have e:=flat_get MV.glen (List.replicate c (MV.mk 0 0 [] nS 0 [])) (j / 5) (j%5) hr5
   rw [show j / 5*5+j%5=j by omega] at e
   rw [e,List.getElem?_replicate,if_pos hq]; rfl
  rw [hR]
  unfold madeCells
  rw [Array.toList_map,Array.toList_range,List.getElem?_map,List.getElem?_range hj,Option.map_some]
  have key:∀ r:Fin 5,some (((.agg #[.int .i64 0,.int .u64 0,.string ⟨#[]⟩,.slice none 0 0,.int .i64 0]:Value).cells)[r.val]!)=(MV.mk 0 0 [] nS 0 []).g[r.val]?:=by
   intro r
   match r with
   | ⟨0,_⟩=>rfl
   | ⟨1,_⟩=>rfl
   | ⟨2,_⟩=>rfl
   | ⟨3,_⟩=>rfl
   | ⟨4,_⟩=>rfl
  exact key ⟨j%5,hr5⟩
 ·rw [List.getElem?_eq_none (by rw [Array.length_toList,size_madeCells]; omega),List.getElem?_eq_none (by rw [flat_len MV.glen,List.length_replicate]; omega)]
def LentOK (x:MV):Prop:=∀ {Q:Nat→Prop} {w:World} {K:Value→World→Prop},VR Q w x→x.m.sz≤2^40→(∀ w' y,y.m=x.m→LV w' y→(∀ b∈y.B,w.heap.size≤b)→Ch (fun _=>False) w w'→K y.v w')→callP Tryz.prog 15 [x.v] w K
theorem lentAll_ok {l:List MV} (ih:∀ x∈l,LentOK x) {Q:Nat→Prop} {w:World} {p:Option Addr} {n c:Nat} (hr:VRow Q w p n l) (hsz:∀ x∈l,x.m.sz≤2^40) (hn:n≤2^40) {K:Value→World→Prop}
 (hk:∀ w' b R,blk w' b=some ((R++marks n).flatMap MV.g)→R.map MV.m=l.map MV.m→(∀ x∈R,LV w' x)→(b::R.flatMap MV.B).Nodup→w.heap.size≤b→(∀ k∈R.flatMap MV.B,w.heap.size≤k)→Ch (fun _=>False) w w'→K (.slice (some ⟨b,0,none⟩) n (n+3)) w') :
 callP Tryz.prog 32 [.slice p n c] w K:=by
 apply ok_longshoreref02_LentAll
 unfold wp_longshoreref02_LentAll
 have hln:=hr.1
 rw [show IntKind.wrap .i64 ((n:Int)+3)=((n+3:Nat):Int) by rw [wrap_id (by omega) (by omega)]; omega]
 obtain ⟨w1,m1,b1,c1,z1⟩:=make_zeros (w:=w) (n+3) (by omega)
 refine ⟨_,_,_,w1,m1,?_⟩
 obtain ⟨b,hb⟩:∃ b,b=w.heap.size:=⟨_,rfl⟩
 rw [← hb] at b1 z1 ⊢
 have inv0:(List.replicate (n+3) (MV.mk 0 0 [] nS 0 []))=[]++(marks n).take (0-n)++List.replicate (n+3) (MV.mk 0 0 [] nS 0 []):=by simp
 refine ⟨fun m i w2=>∃ (ii:Nat) (R Z:List MV),i=(ii:Int)∧ii≤n+3∧m=n+3-ii∧blk w2 b=some ((R++(marks n).take (ii-n)++Z).flatMap MV.g)∧R.length=min ii n∧Z.length=n+3-ii∧R.map MV.m=(l.take ii).map MV.m∧(∀ x∈R,LV w2 x)∧(b::R.flatMap MV.B).Nodup∧(∀ k∈R.flatMap MV.B,b≤k)∧Ch (fun _=>False) w w2,
  ⟨n+3,0,[],_,rfl,Nat.zero_le _,rfl,by rw [← inv0]; exact b1,by simp,by simp,by simp,by simp,by simp,by simp,c1⟩,?_⟩
 rintro m i w2 ⟨ii,R,Z,rfl,hii,rfl,b2,hR,hZ,hRm,hRL,hnd,hge,c2⟩
 have hml:((marks n).take (ii-n)).length=ii-n:=by rw [List.length_take]; show min (ii-n) 3=_; omega
 have hCl:(R++(marks n).take (ii-n)++Z).length=n+3:=by rw [List.length_append,List.length_append,hml]; omega
 have hbl:=blk_lt b2
 refine Sif_cases (fun hlt=>?_) (fun hge2=>?_)
 ·have hil:ii<n+3:=by have:=of_decide_eq_true hlt; omega
  obtain ⟨z0,Z',rfl⟩:∃ z0 Z',Z=z0::Z':=by
   cases Z with
   | nil=>simp only [List.length_nil] at hZ; omega
   | cons z0 Z'=>exact ⟨z0,Z',rfl⟩
  simp only [List.length_cons] at hZ
  have hset:∀ x:MV,(R++(marks n).take (ii-n)++z0::Z').set ii x=R++(marks n).take (ii-n)++x::Z':=fun x=>by
   have:(R++(marks n).take (ii-n)).length=ii:=by rw [List.length_append,hml]; omega
   rw [List.set_append_right _ _ (by omega),this,Nat.sub_self,List.set_cons_zero]
  refine ⟨fun w3=>∃ (R' Z':List MV),blk w3 b=some ((R'++(marks n).take (ii+1-n)++Z').flatMap MV.g)∧R'.length=min (ii+1) n∧Z'.length=n+3-(ii+1)∧R'.map MV.m=(l.take (ii+1)).map MV.m∧(∀ x∈R',LV w3 x)∧(b::R'.flatMap MV.B).Nodup∧(∀ k∈R'.flatMap MV.B,b≤k)∧Ch (fun _=>False) w w3,?_,by omega,by omega,?_⟩
  ·rintro w3 ⟨R',Z',q1,q2,q3,q4,q5,q6,q7,q8⟩
   simp only [nameI]
   exact ⟨n+3-(ii+1),by omega,ii+1,R',Z',by rw [wrap_id (by omega) (by omega)]; omega,hil,rfl,q1,q2,q3,q4,q5,q6,q7,q8⟩
  simp only [nn]
  rw [w64 (n:=ii) (by omega) (by omega)]
  refine st5e (x:=mk7 ii) b2 (by omega) fun w3 b3 c3 z3=>?_
  rw [hset] at b3
  have c13:Ch (fun _=>False) w w3:=c2.trans c3 fun x hx e=>by omega
  have hbR:∀ x∈R,∀ k∈x.B,k≠b:=fun x hx k hk e=>by
   have:=(List.nodup_cons.1 hnd).1
   exact this (List.mem_flatMap.2 ⟨x,hx,e▸hk⟩)
  have hRL3:∀ x∈R,LV w3 x:=fun x hx=>LV.ch c3 x (hRL x hx) (hbR x hx)
  refine Sif_cases (fun h1=>?_) (fun h1=>?_)
  ·have h1:ii<n:=by have:=of_decide_eq_true h1; omega
   have hz:ii-n=0:=by omega
   obtain ⟨x,hxi⟩:∃ x,l[ii]?=some x:=⟨l[ii]'(by omega),List.getElem?_eq_getElem _⟩
   have hxm:=List.mem_of_getElem? hxi
   obtain ⟨bx,ox,px,_,ax⟩:=(hr.ch0 c13).at hxi
   refine ⟨by omega,by omega,?_⟩
   rw [px]
   simp only
   refine ldR ax ?_
   rw [vv x]
   refine ih x hxm ((hr.ch0 c13).2.2.2.2 x hxm) (hsz x hxm) fun w4 y hym hy hyB c4=>?_
   have b4:=(c4.blk (blk_lt b3) id).trans b3
   rw [show y.v=Value.agg (Array.mk [.int .i64 y.k,.int .u64 (y.n:Int),.string ⟨y.t.toArray⟩,.slice y.s.p y.s.n y.s.c,.int .i64 y.e]) from (vv y).symm]
   refine ⟨_,_,_,_,_,_,_,rfl,by omega,by omega,?_⟩
   have hcl3:(R++(marks n).take (ii-n)++mk7 ii::Z').length=n+3:=by rw [← hset,List.length_set,hCl]
   refine st5e (x:=y) b4 (by omega) fun w5 b5 c5 z5=>?_
   have hs5:=c4.size
   have hyb:∀ k∈y.B,k≠b:=fun k hk e=>by have:=hyB k hk; have:=blk_lt b3; omega
   have hset2:(R++(marks n).take (ii-n)++mk7 ii::Z').set ii y=R++(marks n).take (ii-n)++y::Z':=by
    have:(R++(marks n).take (ii-n)).length=ii:=by rw [List.length_append,hml]; omega
    rw [List.set_append_right _ _ (by omega),this,Nat.sub_self,List.set_cons_zero]
   rw [hset2] at b5
   refine ⟨R++[y],Z',?_,?_,by omega,?_,?_,?_,?_,(c13.trans' c4).trans c5 fun x hx e=>by omega⟩
   ·rw [b5,hz,show ii+1-n=0 by omega]; simp
   ·rw [List.length_append,hR]; simp only [List.length_singleton]; omega
   ·rw [List.map_append,hRm,List.take_add_one,hxi,List.map_append]; simp [hym]
   ·intro z hz2
    rcases List.mem_append.1 hz2 with hz2 | hz2
    ·exact LV.ch c5 z (LV.ch c4 z (hRL3 z hz2) fun _ _ h=>h) (hbR z hz2)
    ·rw [List.mem_singleton] at hz2
     subst hz2
     exact LV.ch c5 _ hy hyb
   ·rw [List.flatMap_append,List.flatMap_singleton]
    have hd:∀ k∈R.flatMap MV.B,k ∉ y.B:=fun k hk hk2=>by
     obtain ⟨x',hx',hk'⟩:=List.mem_flatMap.1 hk
     have:=LV.lt x' (hRL3 x' hx') k hk'
     have:=hyB k hk2
     omega
    have hyn:y.B.Nodup:=LV.nodup hy
    refine List.nodup_cons.2 ⟨fun hk=>?_,List.nodup_append.2 ⟨(List.nodup_cons.1 hnd).2,hyn,fun k hk k' hk' e=>hd k hk (e▸hk')⟩⟩
    rcases List.mem_append.1 hk with hk | hk
    ·exact (List.nodup_cons.1 hnd).1 hk
    ·exact hyb b hk rfl
   ·intro k hk
    rw [List.flatMap_append,List.flatMap_singleton] at hk
    rcases List.mem_append.1 hk with hk | hk
    ·exact hge k hk
    ·have:=hyB k hk; omega
  ·have h1:n≤ii:=by have:=of_decide_eq_false h1; omega
   have hmk:(marks n)[ii-n]?=some (mk7 ii):=by
    have:ii=n∨ii=n+1∨ii=n+2:=by omega
    rcases this with rfl | rfl | rfl
    ·rw [Nat.sub_self]; rfl
    ·rw [show n+1-n=1 by omega]; rfl
    ·rw [show n+2-n=2 by omega]; rfl
   refine ⟨R,Z',?_,by omega,by omega,?_,hRL3,hnd,hge,c13⟩
   ·rw [b3,show ii+1-n=(ii-n)+1 by omega,List.take_add_one,hmk]; simp
   ·rw [hRm,List.take_of_length_le (by omega),List.take_of_length_le (by omega)]
 ·have hil:ii=n+3:=by have:=of_decide_eq_false hge2; omega
  refine ⟨by omega,by omega,?_⟩
  rw [Int.toNat_natCast]
  have hZ0:Z=[]:=List.eq_nil_of_length_eq_zero (by omega)
  rw [hZ0,List.append_nil,show ii-n=3 by omega] at b2
  exact hk w2 b R b2 (by rw [hRm,List.take_of_length_le (by omega)]) hRL hnd (by omega) (fun k hk=>by have:=hge k hk; omega) c2
theorem Lent_ok:∀ x:MV,LentOK x:=by
 refine MV.ind fun k n t s e l ih=>?_
 intro Q w K hx hsz hk
 apply ok_longshoreref02_Lent
 unfold wp_longshoreref02_Lent
 refine boxV (x:=.mk k n t s e l) fun w1 b1 a1 c1 z1=>newB_blk fun w2 b2 c2 z2=>?_
 have b12:=(c2.blk (blk_lt b1) id).trans b1
 have c12:=c1.trans' c2
 have hrow:VRow Q w2 s.p s.n l:=(hx.ch0 c12).row
 have hszl:∀ x∈l,x.m.sz≤2^40:=fun x hx=>by
  rw [MV.m_mk,M.sz_mk] at hsz
  have:=le_sum_of (List.mem_map.2 ⟨x.m,List.mem_map.2 ⟨x,hx,rfl⟩,rfl⟩:x.m.sz∈(l.map MV.m).map M.sz)
  omega
 have hsn:s.n≤2^40:=by
  have h1:=hrow.1
  have:l.length≤((l.map MV.m).map M.sz).sum:=by
   clear hrow h1 hszl hx hsz hk ih b1 b12 a1
   induction l with
   | nil=>simp
   | cons y l ih =>
    have hp:1≤y.m.sz:=by
     cases y; rw [MV.m_mk,M.sz_mk]; omega
    simp only [List.map_cons,List.sum_cons,List.length_cons]; omega
  rw [MV.m_mk,M.sz_mk] at hsz
  omega
 simp only [add_at,Nat.zero_add]
 refine ⟨_,_,_,cellK b12 3 rfl,?_⟩
 refine lentAll_ok (l:=l) ih hrow hszl hsn fun w3 b R q1 q2 q3 q4 q5 q6 c3=>⟨_,_,_,rfl,?_⟩
 have b13:=(c3.blk (blk_lt b12) id).trans b12
 have b23:=(c3.blk (blk_lt b2) id).trans b2
 have hs3:=c3.size
 refine st_blk b13 (by rw [MV.glen]; omega) fun w4 b4 c4 z4=>?_
 obtain ⟨y,hy⟩:∃ y,y=MV.mk k n t ⟨some ⟨b,0,none⟩,s.n,s.n+3,some b⟩ e R:=⟨_,rfl⟩
 have hyg:(MV.mk k n t s e l).g.set 3 (.slice (some ⟨b,0,none⟩) s.n (s.n+3))=y.g:=by rw [hy]; rfl
 have b4:blk w4 w.heap.size=some y.g:=by rw [b4]; exact congrArg some hyg
 have b24:=(c4.blk (blk_lt b23) (by omega)).trans b23
 have L:=ldK (K:=fun n2 n3 s' p2 n4 c2' n5=>Sv.st w4 ⟨w1.heap.size,0,none⟩ (.int .i64 n2) fun w5=>Sv.st w5 ⟨w1.heap.size,1,none⟩ (.int .u64 n3) fun w6=>Sv.st w6 ⟨w1.heap.size,2,none⟩ (.string s') fun w7=>Sv.st w7 ⟨w1.heap.size,3,none⟩ (.slice p2 n4 c2') fun w8=>Sv.st w8 ⟨w1.heap.size,4,none⟩ (.int .i64 n5) fun w9=>∃ n6,w9.cell? ⟨w1.heap.size,0,none⟩=some (.int .i64 n6)∧∃ n7,w9.cell? ⟨w1.heap.size,1,none⟩=some (.int .u64 n7)∧∃ s1,w9.cell? ⟨w1.heap.size,2,none⟩=some (.string s1)∧∃ p3 n8 c3,w9.cell? ⟨w1.heap.size,3,none⟩=some (.slice p3 n8 c3)∧∃ n9,w9.cell? ⟨w1.heap.size,4,none⟩=some (.int .i64 n9)∧K (.agg (Array.mk [.int .i64 n6,.int .u64 n7,.string s1,.slice p3 n8 c3,.int .i64 n9])) w9) b4 (by
  refine st5 b24 rfl fun w9 b9 c9 z9=>?_
  refine ld5 b9 ?_
  have hq6:∀ k'∈R.flatMap MV.B,k'≠w.heap.size∧k'≠w1.heap.size:=fun k' hk'=>by have:=q6 k' hk'; omega
  refine hk w9 y ?_ ?_ ?_ ?_
  ·rw [hy,MV.m_mk,MV.m_mk,q2]
  ·rw [hy]
   have b9':=(c9.blk (by have:=blk_lt q1; omega) (by omega)).trans ((c4.blk (blk_lt q1) (by omega)).trans q1)
   refine .mk b rfl rfl ?_ rfl hsn b9' (fun x hx=>?_) q4
   ·have:=congrArg List.length q2
    rw [List.length_map,List.length_map] at this
    have:=hrow.1
    show R.length=s.n
    omega
   ·refine LV.ch c9 x (LV.ch c4 x (q3 x hx) fun k' hk' e=>?_) fun k' hk' e=>?_
    ·exact (hq6 k' (List.mem_flatMap.2 ⟨x,hx,hk'⟩)).1 e
    ·exact (hq6 k' (List.mem_flatMap.2 ⟨x,hx,hk'⟩)).2 e
  ·rw [hy,MV.B_mk]
   intro k' hk'
   rcases List.mem_append.1 hk' with hk' | hk'
   ·simp only [Option.toList_some,List.mem_singleton] at hk'; omega
   ·have:=q6 k' hk'; omega
  ·refine ((c12.trans' c3).trans c4 fun x hx e=>by omega).trans c9 fun x hx e=>by omega)
 simp only [add_at,Nat.zero_add] at L
 exact L
end Go.Proofs.YtnacobknngidkaaGreatDoor
namespace Go.Note
open Go
set_option linter.unusedVariables false
end Go.Note
namespace Go.Proofs.YtnacobknngidkaaGreatDoor
open Go Go.Sv Go.Note
set_option linter.unusedVariables false
attribute [local irreducible] Sif
set_option maxRecDepth 4000
theorem bs_nil (t:Bs):((ByteArray.mk t.toArray).toList == (ByteArray.mk (Array.mk [])).toList)=decide (t=[]):=bs_eq t []
theorem rextra_ok {x:MV} {w:World} (hlen:x.l.length=x.s.n) {K:Value→World→Prop} (hk:∀ w',Ch (fun _=>False) w w'→K (.bool x.m.extra) w') :
 callP Tryz.prog 145 [x.v] w K:=by
 obtain ⟨k,n,t,s,e,l⟩:=x
 apply ok_longshoreref02_extra
 unfold wp_longshoreref02_extra
 refine boxV (x:=.mk k n t s e l) fun w1 b1 a1 c1 z1=>?_
 simp only [add_at,Nat.zero_add]
 have hk:=hk w1 c1
 rw [MV.m_mk,M.extra_mk] at hk
 have hlen:l.length=s.n:=hlen
 refine ⟨fun b w2=>w2=w1∧b=numK k,?_,?_⟩
 rotate_left
 ·unfold numK
  refine ⟨_,cellK b1 0 rfl,Sif_cases (fun h1=>⟨_,cellK b1 0 rfl,Sif_cases (fun h2=>⟨_,cellK b1 0 rfl,by trivial,?_⟩) (fun h2=>⟨by trivial,?_⟩)⟩) (fun h1=>⟨by trivial,?_⟩)⟩
  ·rw [decide_eq_true (of_decide_eq_true h1:k≥1),decide_eq_true (of_decide_eq_true h2:k≤16)]
   simp only [Bool.true_and]
   rw [int_bne,← decide_not]
  ·rw [decide_eq_false (p:=k≤16) (of_decide_eq_false h2),Bool.and_false,Bool.false_and]
  ·rw [decide_eq_false (p:=1≤k) (of_decide_eq_false h1),Bool.false_and,Bool.false_and]
 rintro b w2 ⟨rfl,rfl⟩
 refine ⟨fun b w3=>w3=w2∧b=textK k,?_,?_⟩
 rotate_left
 ·unfold textK
  refine ⟨_,cellK b1 0 rfl,Sif_cases (fun h1=>⟨_,cellK b1 0 rfl,Sif_cases (fun h2=>⟨_,cellK b1 0 rfl,by trivial,?_⟩) (fun h2=>⟨by trivial,?_⟩)⟩) (fun h1=>⟨by trivial,?_⟩)⟩
  ·rw [beqI,Bool.not_eq_true'] at h1
   rw [h1,Bool.false_or,decide_eq_true (of_decide_eq_true h2:k≥17),Bool.true_and]
  ·rw [beqI,Bool.not_eq_true'] at h1
   rw [h1,Bool.false_or,decide_eq_false (p:=17≤k) (of_decide_eq_false h2),Bool.false_and]
  ·rw [beqI,Bool.not_eq_false'] at h1
   rw [h1,Bool.true_or]
 rintro b w3 ⟨rfl,rfl⟩
 have leaf:∀ v,v=((!numK k && decide (n≠0)) || (!textK k && decide (t≠[])) || (!listK k && decide (l.map MV.m≠[])) || (decide (k≠23) && decide (e≠0)))→K (.bool v) w3:=fun v h=>h▸hk
 have cL:decide ((s.n:Int)>0)=decide (l.map MV.m≠[]):=by
  refine decide_eq_decide.2 ⟨fun h e=>?_,fun h=>?_⟩
  ·have:=congrArg List.length e
   rw [List.length_map] at this
   simp only [List.length_nil] at this; omega
  ·have:0<(l.map MV.m).length:=List.length_pos_iff.2 h
   rw [List.length_map] at this; omega
 have cA:decide (k≥21)=listK k:=rfl
 have cZ:(k != 23)=decide (k≠23):=by rw [int_bne,← decide_not]
 have cE:(e != 0)=decide (e≠0):=by rw [int_bne,← decide_not]
 have cN:(!((n:Int) != 0))=!decide (n≠0):=by rw [ne0]
 have cT:(!(!((ByteArray.mk t.toArray).toList == (ByteArray.mk (Array.mk [])).toList)))=!decide (t≠[]):=by rw [bs_nil,decide_not]
 refine ⟨_,cellK b1 0 rfl,?_⟩
 generalize hL:decide (l.map MV.m≠[])=L at leaf cL
 generalize hT:decide (t≠[])=T at leaf cT
 generalize hN:decide (n≠0)=N at leaf cN
 generalize hZ:decide (k≠23)=Z at leaf cZ
 generalize hE:decide (e≠0)=E at leaf cE
 generalize numK k=A1 at leaf ⊢
 generalize textK k=A2 at leaf ⊢
 rw [cA]
 generalize listK k=A3 at leaf ⊢
 clear hk
 cases A1 with
 | false =>
  refine Sif_true ⟨_,cellK b1 1 rfl,?_⟩
  rw [cN]
  cases N with
  | true=>exact Sif_false (leaf _ (by simp))
  | false =>
   refine Sif_true ?_
   cases A2 with
   | false =>
    refine Sif_true ⟨_,cellK b1 2 rfl,?_⟩
    rw [cT]
    cases T with
    | true=>exact Sif_false (leaf _ (by simp))
    | false =>
     refine Sif_true ?_
     cases A3 with
     | false =>
      refine Sif_true ⟨_,_,_,cellK b1 3 rfl,?_⟩
      rw [cL]
      cases L with
      | true=>exact Sif_false (leaf _ (by simp))
      | false =>
       refine Sif_true ⟨_,cellK b1 0 rfl,?_⟩
       rw [cZ]
       cases Z with
       | true=>exact Sif_true ⟨_,cellK b1 4 rfl,leaf _ (by rw [cE]; simp)⟩
       | false=>exact Sif_false (leaf _ (by simp))
     | true =>
      refine Sif_false ⟨_,cellK b1 0 rfl,?_⟩
      rw [cZ]
      cases Z with
      | true=>exact Sif_true ⟨_,cellK b1 4 rfl,leaf _ (by rw [cE]; simp)⟩
      | false=>exact Sif_false (leaf _ (by simp))
   | true =>
    refine Sif_false ?_
    cases A3 with
    | false =>
     refine Sif_true ⟨_,_,_,cellK b1 3 rfl,?_⟩
     rw [cL]
     cases L with
     | true=>exact Sif_false (leaf _ (by simp))
     | false =>
      refine Sif_true ⟨_,cellK b1 0 rfl,?_⟩
      rw [cZ]
      cases Z with
      | true=>exact Sif_true ⟨_,cellK b1 4 rfl,leaf _ (by rw [cE]; simp)⟩
      | false=>exact Sif_false (leaf _ (by simp))
    | true =>
     refine Sif_false ⟨_,cellK b1 0 rfl,?_⟩
     rw [cZ]
     cases Z with
     | true=>exact Sif_true ⟨_,cellK b1 4 rfl,leaf _ (by rw [cE]; simp)⟩
     | false=>exact Sif_false (leaf _ (by simp))
 | true =>
  refine Sif_false ?_
  cases A2 with
  | false =>
   refine Sif_true ⟨_,cellK b1 2 rfl,?_⟩
   rw [cT]
   cases T with
   | true=>exact Sif_false (leaf _ (by simp))
   | false =>
    refine Sif_true ?_
    cases A3 with
    | false =>
     refine Sif_true ⟨_,_,_,cellK b1 3 rfl,?_⟩
     rw [cL]
     cases L with
     | true=>exact Sif_false (leaf _ (by simp))
     | false =>
      refine Sif_true ⟨_,cellK b1 0 rfl,?_⟩
      rw [cZ]
      cases Z with
      | true=>exact Sif_true ⟨_,cellK b1 4 rfl,leaf _ (by rw [cE]; simp)⟩
      | false=>exact Sif_false (leaf _ (by simp))
    | true =>
     refine Sif_false ⟨_,cellK b1 0 rfl,?_⟩
     rw [cZ]
     cases Z with
     | true=>exact Sif_true ⟨_,cellK b1 4 rfl,leaf _ (by rw [cE]; simp)⟩
     | false=>exact Sif_false (leaf _ (by simp))
  | true =>
   refine Sif_false ?_
   cases A3 with
   | false =>
    refine Sif_true ⟨_,_,_,cellK b1 3 rfl,?_⟩
    rw [cL]
    cases L with
    | true=>exact Sif_false (leaf _ (by simp))
    | false =>
     refine Sif_true ⟨_,cellK b1 0 rfl,?_⟩
     rw [cZ]
     cases Z with
     | true=>exact Sif_true ⟨_,cellK b1 4 rfl,leaf _ (by rw [cE]; simp)⟩
     | false=>exact Sif_false (leaf _ (by simp))
   | true =>
    refine Sif_false ⟨_,cellK b1 0 rfl,?_⟩
    rw [cZ]
    cases Z with
    | true=>exact Sif_true ⟨_,cellK b1 4 rfl,leaf _ (by rw [cE]; simp)⟩
    | false=>exact Sif_false (leaf _ (by simp))
end Go.Proofs.YtnacobknngidkaaGreatDoor
namespace Go.Proofs.YtnacobknngidkaaGreatDoor
open Go Go.Sv Go.Note
set_option linter.unusedVariables false
attribute [local irreducible] Sif
set_option maxRecDepth 4000
theorem rsigned_ok {n b:Nat} (hn:n<18446744073709551616) (hb:b=8∨b=16∨b=32) {w:World} {K:Value→World→Prop} (hk:K (.bool (sgn n b)) w) :
 callP Tryz.prog 177 [.int .u64 (n:Int),.int .i64 (b:Int)] w K:=by
 apply ok_longshoreref02_signed
 unfold wp_longshoreref02_signed
 simp only [nameI]
 rw [wrap_id (n:=(b:Int)-1) (by omega) (by omega),wrap64 hn]
 refine ⟨by omega,?_⟩
 unfold sgn at hk
 have e:∀ L:Nat,2^(b-1)=L→L≤2147483648→1≤L→Sif (decide ((if n<9223372036854775808 then (n:Int) else (n:Int)-18446744073709551616)≥IntKind.wrap .i64 (0-(L:Int)))) (K (.bool (decide ((if n<9223372036854775808 then (n:Int) else (n:Int)-18446744073709551616)<(L:Int)))) w) (K (.bool false) w):=by
  intro L hL h1 h2
  rw [hL] at hk
  rw [wrap_id (by omega) (by omega)]
  have q1:decide ((if n<9223372036854775808 then (n:Int) else (n:Int)-18446744073709551616)<(L:Int))=(decide (n<L) || decide (9223372036854775808≤n)):=by
   rw [← Bool.decide_or]
   refine decide_eq_decide.2 ?_
   split<;>omega
  refine Sif_cases (fun h=>?_) (fun h=>?_)
  ·have h:=of_decide_eq_true h
   rw [q1]
   have:(decide (n<L) || decide (9223372036854775808≤n))=(decide (n<L) || decide (2^64-L≤n)):=by
    rw [← Bool.decide_or,← Bool.decide_or]
    refine decide_eq_decide.2 ?_
    split at h<;>omega
   rw [this]; exact hk
  ·have h:=of_decide_eq_false h
   have:(decide (n<L) || decide (2^64-L≤n))=false:=by
    rw [← Bool.decide_or]
    refine decide_eq_false ?_
    split at h<;>omega
   rw [this] at hk; exact hk
 have ew:∀ L:Nat,L≤2147483648→IntKind.wrap .i64 (1*(L:Int))=(L:Int):=fun L h=>by rw [wrap_id (by omega) (by omega)]; omega
 rcases hb with rfl | rfl | rfl
 ·exact (show (1:Int)*2^min (Int.toNat (((8:Nat):Int)-1)) 64=1*((128:Nat):Int) by decide +kernel)▸(ew 128 (by decide)).symm▸e 128 (by decide) (by decide) (by decide)
 ·exact (show (1:Int)*2^min (Int.toNat (((16:Nat):Int)-1)) 64=1*((32768:Nat):Int) by decide +kernel)▸(ew 32768 (by decide)).symm▸e 32768 (by decide) (by decide) (by decide)
 ·exact (show (1:Int)*2^min (Int.toNat (((32:Nat):Int)-1)) 64=1*((2147483648:Nat):Int) by decide +kernel)▸(ew 2147483648 (by decide)).symm▸e 2147483648 (by decide) (by decide) (by decide)
theorem rnumber_ok {x:MV} (hf:x.n<18446744073709551616) {w:World} {K:Value→World→Prop} (hk:∀ w',Ch (fun _=>False) w w'→K (.bool x.m.num) w') :
 callP Tryz.prog 146 [x.v] w K:=by
 obtain ⟨k,n,t,s,e,l⟩:=x
 apply ok_longshoreref02_number
 unfold wp_longshoreref02_number
 refine boxV (x:=.mk k n t s e l) fun w1 b1 a1 c1 z1=>?_
 simp only [add_at,Nat.zero_add]
 refine ⟨_,cellK b1 1 rfl,_,cellK b1 0 rfl,?_⟩
 have hk:=hk w1 c1
 rw [MV.m_mk,M.num_mk] at hk
 simp only [intEq]
 have hn:n<18446744073709551616:=hf
 refine Sif_cases (fun h=>?_) (fun h1=>?_)
 ·rw [if_pos (of_decide_eq_true h)] at hk
  rw [decide_eq_decide.2 (show ((n:Int)≤1)↔n≤1 by omega)]; exact hk
 rw [if_neg (of_decide_eq_false h1)] at hk
 refine Sif_cases (fun h=>?_) (fun h2=>?_)
 ·rw [if_pos (of_decide_eq_true h)] at hk
  rw [decide_eq_decide.2 (show ((n:Int)≤255)↔n≤255 by omega)]; exact hk
 rw [if_neg (of_decide_eq_false h2)] at hk
 refine Sif_cases (fun h=>?_) (fun h3=>?_)
 ·rw [if_pos (of_decide_eq_true h)] at hk
  rw [decide_eq_decide.2 (show ((n:Int)≤65535)↔n≤65535 by omega)]; exact hk
 rw [if_neg (of_decide_eq_false h3)] at hk
 refine ⟨fun b w2=>w2=w1∧b=decide (k=4∨k=10∨k=12),?_,?_⟩
 rotate_left
 ·refine Sif_cases (fun h=>⟨by trivial,?_⟩) (fun a1=>Sif_cases (fun h=>⟨by trivial,?_⟩) (fun a2=>⟨by trivial,?_⟩))
  ·rw [h,decide_eq_true (.inl (of_decide_eq_true h))]
  ·rw [h,decide_eq_true (.inr (.inl (of_decide_eq_true h)))]
  ·exact decide_eq_decide.2 ⟨fun e=>.inr (.inr e),fun e=>(e.resolve_left (of_decide_eq_false a1)).resolve_left (of_decide_eq_false a2)⟩
 rintro b w2 ⟨rfl,rfl⟩
 refine Sif_cases (fun h=>?_) (fun h4=>?_)
 ·rw [if_pos (of_decide_eq_true h)] at hk
  rw [decide_eq_decide.2 (show ((n:Int)≤4294967295)↔n≤4294967295 by omega)]; exact hk
 rw [if_neg (of_decide_eq_false h4)] at hk
 refine Sif_cases (fun h=>?_) (fun h6=>?_)
 ·rw [if_pos (of_decide_eq_true h)] at hk
  exact rsigned_ok hn (.inl rfl) ⟨_,rfl,hk⟩
 rw [if_neg (of_decide_eq_false h6)] at hk
 refine Sif_cases (fun h=>?_) (fun h7=>?_)
 ·rw [if_pos (of_decide_eq_true h)] at hk
  exact rsigned_ok hn (.inr (.inl rfl)) ⟨_,rfl,hk⟩
 rw [if_neg (of_decide_eq_false h7)] at hk
 refine Sif_cases (fun h=>?_) (fun h8=>?_)
 ·rw [if_pos (of_decide_eq_true h)] at hk
  exact rsigned_ok hn (.inr (.inr rfl)) ⟨_,rfl,hk⟩
 rw [if_neg (of_decide_eq_false h8)] at hk
 refine Sif_cases (fun h=>?_) (fun h15=>?_)
 ·rw [if_pos (of_decide_eq_true h)] at hk
  refine Sif_cases (fun h5=>?_) (fun h5=>?_)
  ·rw [decide_eq_true (p:=n≤1114111) (by have:=of_decide_eq_true h5; omega),Bool.true_and] at hk
   refine Sif_cases (fun h9=>?_) (fun h9=>?_)
   ·rw [Bool.not_eq_true'] at h9
    have h9:=of_decide_eq_false h9
    rw [decide_eq_false (p:=n<55296) (by omega),Bool.false_or] at hk
    rw [decide_eq_decide.2 (show ((n:Int)>57343)↔57343<n by omega)]; exact hk
   ·rw [Bool.not_eq_false'] at h9
    have h9:=of_decide_eq_true h9
    rw [decide_eq_true (p:=n<55296) (by omega),Bool.true_or] at hk
    exact hk
  ·rw [decide_eq_false (p:=n≤1114111) (by have:=of_decide_eq_false h5; omega),Bool.false_and] at hk
   exact hk
 ·rw [if_neg (of_decide_eq_false h15)] at hk
  exact hk
theorem rPlain_ok {s:ByteArray} (hs:s.size≤2^48) {w:World} {K:Value→World→Prop} (hk:K (.bool (asciiB s.data.toList)) w):callP Tryz.prog 179 [.string s] w K:=by
 apply ok_longshoreref02_Plain
 unfold wp_longshoreref02_Plain
 have hsl:=sl s
 refine ⟨fun m i w1=>∃ j:Nat,i=(j:Int)∧j≤s.size∧m=s.size-j∧w1=w∧asciiB s.data.toList=asciiB (s.data.toList.drop j),⟨s.size,0,rfl,Nat.zero_le _,rfl,rfl,rfl⟩,?_⟩
 rintro m i w1 ⟨j,rfl,hj,rfl,rfl,heq⟩
 refine Sif_cases (fun h=>?_) (fun h=>?_)
 ·have hjl:j<s.size:=by have:=of_decide_eq_true h; omega
  obtain ⟨y,hy⟩:∃ y,s.data.toList[j]?=some y:=⟨_,List.getElem?_eq_getElem (by omega)⟩
  have hdr:s.data.toList.drop j=y::s.data.toList.drop (j+1):=by
   have hi:=(List.getElem?_eq_some_iff.1 hy).1
   rw [List.drop_eq_getElem_cons hi]
   congr 1
   rw [List.getElem?_eq_getElem hi] at hy
   exact Option.some.inj hy
  have hc:asciiB (y::s.data.toList.drop (j+1))=(decide (y.toNat≤127) && asciiB (s.data.toList.drop (j+1))):=rfl
  rw [hdr,hc] at heq
  refine ⟨by omega,by omega,?_⟩
  rw [Int.toNat_natCast,byteAt_get hy]
  refine Sif_cases (fun h1=>?_) (fun h1=>?_)
  ·rw [decide_eq_false (p:=y.toNat≤127) (by have:=of_decide_eq_true h1; omega),Bool.false_and] at heq
   rw [heq] at hk; exact hk
  ·rw [decide_eq_true (p:=y.toNat≤127) (by have:=of_decide_eq_false h1; omega),Bool.true_and] at heq
   simp only [nameI]
   exact ⟨s.size-(j+1),by omega,j+1,by rw [wrap_id (by omega) (by omega)]; omega,hjl,rfl,by trivial,heq⟩
 ·have hjl:j=s.size:=by have:=of_decide_eq_false h; omega
  rw [hjl,List.drop_of_length_le (by omega)] at heq
  rw [heq] at hk; exact hk
theorem rletter_ok {s:ByteArray} (hs:s.size≤2^48) (h0:0<s.size) {w:World} {K:Value→World→Prop} (hk:K (.int .i64 (chr s.data.toList:Int)) w):callP Tryz.prog 208 [.string s] w K:=by
 apply ok_longshoreref02_letter
 unfold wp_longshoreref02_letter
 have hsl:=sl s
 obtain ⟨l,hl⟩:∃ l,l=s.data.toList:=⟨_,rfl⟩
 have hcc:=chr_ch l
 rw [← hl] at hk hsl
 have hby:∀ k,k<s.size→byteAt s k=(ch l k:Int)∧ch l k≤255:=fun k hk=>by
  obtain ⟨y,hy⟩:∃ y,s.data.toList[k]?=some y:=⟨_,List.getElem?_eq_getElem (by rw [← hl]; omega)⟩
  rw [byteAt_get hy,hl,ch_some hy]
  have:=y.toNat_lt
  exact ⟨rfl,by omega⟩
 have hno:∀ k,s.size≤k→ch l k=256:=fun k hk=>by
  unfold ch; rw [List.getElem?_eq_none (by omega)]
 obtain ⟨g0,g0'⟩:=hby 0 h0
 have g1:=hby 1
 have g2:=hby 2
 have g3:=hby 3
 have n1:=hno 1
 have n2:=hno 2
 have n3:=hno 3
 clear hby hno
 generalize ch l 0=c0 at *
 generalize ch l 1=c1 at *
 generalize ch l 2=c2 at *
 generalize ch l 3=c3 at *
 refine ⟨by omega,by omega,?_⟩
 simp only [nameI]
 rw [g0]
 simp only [wrap_id (n:=(c0:Int)) (by omega) (by omega)]
 have bad:chr l=0→K (.int .i64 0) w:=fun h=>by rw [h] at hk; exact hk
 have good:∀ L:Nat,chr l=L→K (.int .i64 (L:Int)) w:=fun L h=>by rw [h] at hk; exact hk
 refine ⟨fun L a mn w1=>w1=w∧((L=((2:Nat):Int)∧a=(c0:Int)-192∧mn=128∧194≤c0∧c0≤223)∨(L=((3:Nat):Int)∧a=(c0:Int)-224∧mn=2048∧224≤c0∧c0≤239)∨(L=((4:Nat):Int)∧a=(c0:Int)-240∧mn=65536∧240≤c0∧c0≤244)),?_,?_⟩
 rotate_left
 ·refine Sif_cases (fun h=>?_) (fun h=>?_)
  ·have h:=of_decide_eq_true h
   exact good 1 (by rw [hcc,if_pos (by omega)])
  have h:=of_decide_eq_false h
  refine Sif_cases (fun h1=>Sif_cases (fun h2=>?_) (fun h2=>Sif_cases (fun h3=>Sif_cases (fun h4=>?_) (fun h4=>Sif_cases (fun h5=>Sif_cases (fun h6=>?_) (fun h6=>?_)) (fun h5=>?_))) (fun h3=>Sif_cases (fun h5=>Sif_cases (fun h6=>?_) (fun h6=>?_)) (fun h5=>?_)))) (fun h1=>Sif_cases (fun h3=>Sif_cases (fun h4=>?_) (fun h4=>Sif_cases (fun h5=>Sif_cases (fun h6=>?_) (fun h6=>?_)) (fun h5=>?_))) (fun h3=>Sif_cases (fun h5=>Sif_cases (fun h6=>?_) (fun h6=>?_)) (fun h5=>?_)))
  all_goals (try have h1:=of_decide_eq_true h1)
  all_goals (try have h1:=of_decide_eq_false h1)
  all_goals (try have h2:=of_decide_eq_true h2)
  all_goals (try have h2:=of_decide_eq_false h2)
  all_goals (try have h3:=of_decide_eq_true h3)
  all_goals (try have h3:=of_decide_eq_false h3)
  all_goals (try have h4:=of_decide_eq_true h4)
  all_goals (try have h4:=of_decide_eq_false h4)
  all_goals (try have h5:=of_decide_eq_true h5)
  all_goals (try have h5:=of_decide_eq_false h5)
  all_goals (try have h6:=of_decide_eq_true h6)
  all_goals (try have h6:=of_decide_eq_false h6)
  all_goals first
   | exact absurd (show False by omega) (fun h=>h)
   | exact bad (by rw [hcc,if_neg (by omega),if_neg (by omega),if_neg (by omega),if_neg (by omega)])
   | exact ⟨rfl,.inl ⟨rfl,wrap_id (by omega) (by omega),rfl,by omega,by omega⟩⟩
   | exact ⟨rfl,.inr (.inl ⟨rfl,wrap_id (by omega) (by omega),rfl,by omega,by omega⟩)⟩
   | exact ⟨rfl,.inr (.inr ⟨rfl,wrap_id (by omega) (by omega),rfl,by omega,by omega⟩)⟩
 rintro L a mn w1 ⟨rfl,hJ⟩
 obtain ⟨Ln,rfl,hLn⟩:∃ Ln:Nat,L=(Ln:Int)∧2≤Ln∧Ln≤4:=by
  rcases hJ with ⟨h,_⟩ | ⟨h,_⟩ | ⟨h,_⟩
  ·exact ⟨2,h,by omega⟩
  ·exact ⟨3,h,by omega⟩
  ·exact ⟨4,h,by omega⟩
 refine Sif_cases (fun h=>?_) (fun h=>?_)
 ·have h:=of_decide_eq_true h
  exact bad (by rw [hcc,if_neg (by omega),if_neg (by omega),if_neg (by omega),if_neg (by omega)])
 have hLs:Ln≤s.size:=by have:=of_decide_eq_false h; omega
 clear h
 refine ⟨fun m acc k w2=>∃ j:Nat,k=(j:Int)∧m=Ln-j∧w2=w1∧((j=1∧acc=a)∨(j=2∧128≤c1∧c1≤191∧acc=64*a+c1-128)∨(j=3∧3≤Ln∧128≤c1∧c1≤191∧128≤c2∧c2≤191∧acc=64*(64*a+c1-128)+c2-128)∨(j=4∧Ln=4∧128≤c1∧c1≤191∧128≤c2∧c2≤191∧128≤c3∧c3≤191∧acc=64*(64*(64*a+c1-128)+c2-128)+c3-128)),⟨Ln-1,1,rfl,rfl,rfl,.inl ⟨rfl,rfl⟩⟩,?_⟩
 rintro m acc k w2 ⟨j,rfl,rfl,rfl,hI⟩
 have hab:0≤a∧a≤31:=by omega
 refine Sif_cases (fun h=>?_) (fun h=>?_)
 ·have hjl:j<Ln:=by have:=of_decide_eq_true h; omega
  clear h
  refine ⟨fun acc' w3=>w3=w2∧((j=1∧128≤c1∧c1≤191∧acc'=64*a+c1-128)∨(j=2∧128≤c1∧c1≤191∧128≤c2∧c2≤191∧acc'=64*(64*a+c1-128)+c2-128)∨(j=3∧128≤c1∧c1≤191∧128≤c2∧c2≤191∧128≤c3∧c3≤191∧acc'=64*(64*(64*a+c1-128)+c2-128)+c3-128)),?_,by omega,by omega,?_⟩
  ·rintro acc' w3 ⟨rfl,hA⟩
   refine ⟨Ln-(j+1),by omega,j+1,by rw [wrap_id (by omega) (by omega)]; omega,rfl,rfl,?_⟩
   rcases hA with h | h | h
   ·exact .inr (.inl ⟨by omega,h.2⟩)
   ·exact .inr (.inr (.inl ⟨by omega,by omega,h.2⟩))
   ·exact .inr (.inr (.inr ⟨by omega,by omega,h.2⟩))
  rw [Int.toNat_natCast]
  obtain ⟨y,hy,hy2,hj3⟩:∃ y:Nat,byteAt s j=(y:Int)∧y≤255∧((j=1∧y=c1)∨(j=2∧y=c2)∨(j=3∧y=c3)):=by
   have:j=1∨j=2∨j=3:=by omega
   rcases this with rfl | rfl | rfl
   ·exact ⟨c1,(g1 (by omega)).1,(g1 (by omega)).2,.inl ⟨rfl,rfl⟩⟩
   ·exact ⟨c2,(g2 (by omega)).1,(g2 (by omega)).2,.inr (.inl ⟨rfl,rfl⟩)⟩
   ·exact ⟨c3,(g3 (by omega)).1,(g3 (by omega)).2,.inr (.inr ⟨rfl,rfl⟩)⟩
  rw [hy]
  simp only [wrap_id (n:=(y:Int)) (by omega) (by omega)]
  clear g0 g1 g2 g3 n1 n2 n3
  have haa:0≤acc∧acc≤2000000:=by omega
  refine ⟨fun w3=>w3=w2∧128≤y∧y≤191,?_,?_⟩
  ·rintro w3 ⟨rfl,hy3,hy4⟩
   refine ⟨rfl,?_⟩
   rw [wrap_id (n:=64*acc) (by omega) (by omega),wrap_id (n:=64*acc+(y:Int)) (by omega) (by omega),wrap_id (n:=64*acc+(y:Int)-128) (by omega) (by omega)]
   rcases hj3 with ⟨rfl,rfl⟩ | ⟨rfl,rfl⟩ | ⟨rfl,rfl⟩
   ·refine .inl ⟨rfl,hy3,hy4,?_⟩
    omega
   ·refine .inr (.inl ⟨rfl,by omega,by omega,hy3,hy4,?_⟩)
    omega
   ·refine .inr (.inr ⟨rfl,by omega,by omega,by omega,by omega,hy3,hy4,?_⟩)
    omega
  ·refine Sif_cases (fun h=>Sif_cases (fun h2=>?_) (fun h2=>⟨rfl,?_,?_⟩)) (fun h=>?_)
   ·have h2:=of_decide_eq_true h2
    exact bad (by rw [hcc,if_neg (by omega),if_neg (by omega),if_neg (by omega),if_neg (by omega)])
   ·rw [Bool.not_eq_true'] at h; have:=of_decide_eq_false h; omega
   ·have:=of_decide_eq_false h2; omega
   ·rw [Bool.not_eq_false'] at h
    have h:=of_decide_eq_true h
    exact bad (by rw [hcc,if_neg (by omega),if_neg (by omega),if_neg (by omega),if_neg (by omega)])
 ·have hjl:Ln≤j:=by have:=of_decide_eq_false h; omega
  clear h g0 g1 g2 g3 n1 n2 n3
  have hj4:Ln=j:=by omega
  refine ⟨fun w3=>w3=w2∧chr l=Ln,fun w3 h=>by obtain ⟨rfl,h⟩:=h; exact good _ h,?_⟩
  refine Sif_cases (fun h=>?_) (fun h=>?_)
  ·rw [Bool.not_eq_true'] at h
   have h:=of_decide_eq_false h
   refine Sif_cases (fun h2=>?_) (fun h2=>?_)
   ·rw [Bool.not_eq_true'] at h2
    have h2:=of_decide_eq_false h2
    refine Sif_cases (fun h3=>Sif_cases (fun h4=>?_) (fun h4=>⟨rfl,?_⟩)) (fun h3=>⟨rfl,?_⟩)
    ·have h3:=of_decide_eq_true h3
     have h4:=of_decide_eq_true h4
     exact bad (by rw [hcc,if_neg (by omega),if_neg (by omega),if_neg (by omega),if_neg (by omega)])
    ·have h4:=of_decide_eq_false h4
     rcases hJ with ⟨q,q1,q2,q3,q4⟩ | ⟨q,q1,q2,q3,q4⟩ | ⟨q,q1,q2,q3,q4⟩
     ·rw [hcc,if_neg (by omega),if_pos (by omega)]; omega
     ·rw [hcc,if_neg (by omega),if_neg (by omega),if_pos (by omega)]; omega
     ·rw [hcc,if_neg (by omega),if_neg (by omega),if_neg (by omega),if_pos (by omega)]; omega
    ·have h3:=of_decide_eq_false h3
     rcases hJ with ⟨q,q1,q2,q3,q4⟩ | ⟨q,q1,q2,q3,q4⟩ | ⟨q,q1,q2,q3,q4⟩
     ·rw [hcc,if_neg (by omega),if_pos (by omega)]; omega
     ·rw [hcc,if_neg (by omega),if_neg (by omega),if_pos (by omega)]; omega
     ·rw [hcc,if_neg (by omega),if_neg (by omega),if_neg (by omega),if_pos (by omega)]; omega
   ·rw [Bool.not_eq_false'] at h2
    have h2:=of_decide_eq_true h2
    exact bad (by rw [hcc,if_neg (by omega),if_neg (by omega),if_neg (by omega),if_neg (by omega)])
  ·rw [Bool.not_eq_false'] at h
   have h:=of_decide_eq_true h
   exact bad (by rw [hcc,if_neg (by omega),if_neg (by omega),if_neg (by omega),if_neg (by omega)])
theorem rText2_ok {s:ByteArray} (hs:s.size≤2^48) {w:World} {K:Value→World→Prop} (hk:K (.bool (textB s.data.toList)) w):callP Tryz.prog 178 [.string s] w K:=by
 apply ok_longshoreref02_Text
 unfold wp_longshoreref02_Text
 have hsl:=sl s
 refine ⟨fun m i w1=>∃ j:Nat,i=(j:Int)∧j≤s.size∧m=s.size-j∧w1=w∧textB s.data.toList=textB (s.data.toList.drop j),⟨s.size,0,rfl,Nat.zero_le _,rfl,rfl,rfl⟩,?_⟩
 rintro m i w1 ⟨j,rfl,hj,rfl,rfl,heq⟩
 refine Sif_cases (fun h=>?_) (fun h=>?_)
 ·have hjl:j<s.size:=by have:=of_decide_eq_true h; omega
  refine ⟨by omega,by omega,?_⟩
  rw [Int.toNat_natCast]
  have hR:(s.extract j s.size).data.toList=s.data.toList.drop j:=by rw [extract_data,List.take_of_length_le (by rw [List.length_drop]; omega)]
  have hRs:(s.extract j s.size).size=s.size-j:=by rw [size_of hR,List.length_drop]; omega
  have hne:s.data.toList.drop j≠[]:=fun e=>by have:=congrArg List.length e; rw [List.length_drop,List.length_nil] at this; omega
  refine rletter_ok (by omega) (by omega) ⟨_,rfl,?_⟩
  rw [hR,eq0]
  rw [textB_cons _ hne] at heq
  have hle:=(chr_le (s.data.toList.drop j)).1
  rw [List.length_drop] at hle
  refine Sif_cases (fun h1=>?_) (fun h1=>?_)
  ·rw [decide_eq_false (p:=chr (s.data.toList.drop j)≠0) (fun e=>e (of_decide_eq_true h1)),Bool.false_and] at heq
   rw [heq] at hk; exact hk
  ·have h1:=of_decide_eq_false h1
   rw [decide_eq_true (p:=chr (s.data.toList.drop j)≠0) h1,Bool.true_and,List.drop_drop] at heq
   simp only [nameI]
   exact ⟨s.size-(j+chr (s.data.toList.drop j)),by omega,j+chr (s.data.toList.drop j),by rw [wrap_id (by omega) (by omega)]; omega,by omega,rfl,by trivial,heq⟩
 ·have hjl:j=s.size:=by have:=of_decide_eq_false h; omega
  rw [hjl,List.drop_of_length_le (by omega)] at heq
  rw [heq] at hk; exact hk
theorem rspelled_ok {x:MV} (ht:x.t.length≤2^48) {w:World} {K:Value→World→Prop} (hk:∀ w',Ch (fun _=>False) w w'→K (.bool x.m.txt) w') :
 callP Tryz.prog 147 [x.v] w K:=by
 obtain ⟨k,n,t,s,e,l⟩:=x
 apply ok_longshoreref02_spelled
 unfold wp_longshoreref02_spelled
 refine boxV (x:=.mk k n t s e l) fun w1 b1 a1 c1 z1=>?_
 simp only [add_at,Nat.zero_add]
 refine ⟨_,cellK b1 0 rfl,?_⟩
 have hk:=hk w1 c1
 rw [MV.m_mk,M.txt_mk] at hk
 have ht:t.length≤2^48:=ht
 simp only [intEq]
 refine ⟨fun b w2=>w2=w1∧b=decide (k=14∨k=17),?_,?_⟩
 rotate_left
 ·refine Sif_cases (fun h=>⟨by trivial,?_⟩) (fun a1=>⟨by trivial,?_⟩)
  ·rw [h,decide_eq_true (.inl (of_decide_eq_true h))]
  ·exact decide_eq_decide.2 ⟨fun e=>.inr e,fun e=>e.resolve_left (of_decide_eq_false a1)⟩
 rintro b w2 ⟨rfl,rfl⟩
 refine Sif_cases (fun h=>⟨_,cellK b1 2 rfl,?_⟩) (fun h=>?_)
 ·rw [if_pos (of_decide_eq_true h)] at hk
  rw [str_size,decide_eq_decide.2 (show ((t.length:Int)=16)↔t.length=16 by omega)]; exact hk
 rw [if_neg (of_decide_eq_false h)] at hk
 refine Sif_cases (fun h=>⟨_,cellK b1 2 rfl,?_⟩) (fun h=>?_)
 ·rw [if_pos (of_decide_eq_true h)] at hk
  refine rText2_ok (by rw [str_size]; exact ht) ⟨_,rfl,?_⟩
  rw [str_list]; exact hk
 rw [if_neg (of_decide_eq_false h)] at hk
 refine Sif_cases (fun h=>⟨_,cellK b1 2 rfl,?_⟩) (fun h=>?_)
 ·rw [if_pos (of_decide_eq_true h)] at hk
  refine rPlain_ok (by rw [str_size]; exact ht) ⟨_,rfl,?_⟩
  rw [str_list]; exact hk
 rw [if_neg (of_decide_eq_false h)] at hk
 exact hk
theorem rarrayed_ok {x:MV} {Q:Nat→Prop} {w:World} (hx:VR Q w x) {K:Value→World→Prop} (hk:∀ w',Ch (fun _=>False) w w'→K (.bool (arrOk x.m.e x.m.l)) w') :
 callP Tryz.prog 149 [x.v] w K:=by
 obtain ⟨k,n,t,s,e,l⟩:=x
 apply ok_longshoreref02_arrayed
 unfold wp_longshoreref02_arrayed
 refine boxV (x:=.mk k n t s e l) fun w1 b1 a1 c1 z1=>?_
 simp only [add_at,Nat.zero_add]
 have hk:∀ w',Ch (fun _=>False) w w'→K (.bool (decide (0<e) && decide (e<24) && (l.map MV.m).all fun x=>decide (x.k=e))) w':=by
  rw [MV.m_mk] at hk; exact hk
 have hrow:VRow Q w1 s.p s.n l:=(hx.ch0 c1).row
 have hln:=hrow.1
 have hn46:=hrow.2.1
 refine ⟨fun w2=>w2=w1∧0<e∧e<24,?_,?_⟩
 rotate_left
 ·refine ⟨_,cellK b1 4 rfl,Sif_cases (fun h=>⟨_,cellK b1 4 rfl,Sif_cases (fun h2=>?_) (fun h2=>⟨by trivial,?_,?_⟩)⟩) (fun h=>?_)⟩
  ·have:=hk w1 c1
   rw [decide_eq_false (p:=e<24) (by have:=of_decide_eq_true h2; omega),Bool.and_false,Bool.false_and] at this
   exact this
  ·rw [Bool.not_eq_true'] at h; have:=of_decide_eq_false h; omega
  ·have:=of_decide_eq_false h2; omega
  ·rw [Bool.not_eq_false'] at h
   have:=hk w1 c1
   rw [decide_eq_false (p:=0<e) (by have:=of_decide_eq_true h; omega),Bool.false_and,Bool.false_and] at this
   exact this
 rintro w2 ⟨rfl,he1,he2⟩
 have hk2:∀ w',Ch (fun _=>False) w w'→K (.bool ((l.map MV.m).all fun x=>decide (x.k=e))) w':=fun w' c=>by
  have:=hk w' c
  rw [decide_eq_true he1,decide_eq_true he2,Bool.true_and,Bool.true_and] at this; exact this
 refine ⟨fun m i w3=>∃ j:Nat,i=(j:Int)∧j≤s.n∧m=s.n-j∧Ch (fun _=>False) w2 w3∧((l.map MV.m).all fun x=>decide (x.k=e))=(((l.drop j).map MV.m).all fun x=>decide (x.k=e)),⟨s.n,0,rfl,Nat.zero_le _,rfl,Ch.refl _ _,rfl⟩,?_⟩
 rintro m i w3 ⟨j,rfl,hj,rfl,c3,heq⟩
 have b3:=(c3.blk (blk_lt b1) id).trans b1
 refine ⟨_,_,_,cellK b3 3 rfl,?_⟩
 refine Sif_cases (fun h=>?_) (fun h=>?_)
 ·have hjl:j<s.n:=by have:=of_decide_eq_true h; omega
  obtain ⟨y,hyi⟩:∃ y,l[j]?=some y:=⟨l[j]'(by omega),List.getElem?_eq_getElem _⟩
  have hdr:l.drop j=y::l.drop (j+1):=by
   have hi:=(List.getElem?_eq_some_iff.1 hyi).1
   rw [List.drop_eq_getElem_cons hi]
   congr 1
   rw [List.getElem?_eq_getElem hi] at hyi
   exact Option.some.inj hyi
  rw [hdr,List.map_cons,List.all_cons] at heq
  have c3d:=c3.trans' (Ch.drew w3)
  obtain ⟨by',oy,py,_,ay⟩:=(hrow.ch0 c3d).at hyi
  refine ⟨_,_,_,cellK (w:=w3.drew) b3 3 rfl,by omega,by show (j:Int)<((s.n:Nat):Int); omega,?_⟩
  have py:s.p=some ⟨by',oy,none⟩:=py
  simp only [py,nn,add_at,Int.toNat_natCast]
  refine ⟨_,ay.k0,_,cellK (w:=w3.drew) b3 4 rfl,?_⟩
  rw [int_bne]
  have hyk:y.m.k=y.k:=by cases y; rfl
  rw [hyk] at heq
  refine Sif_cases (fun h1=>?_) (fun h1=>?_)
  ·rw [Bool.not_eq_true'] at h1
   have:=hk2 w3.drew (c1.trans' c3d)
   rw [heq,h1,Bool.false_and] at this
   exact this
  ·rw [Bool.not_eq_false'] at h1
   rw [h1,Bool.true_and] at heq
   simp only [nameI]
   exact ⟨s.n-(j+1),by omega,j+1,by rw [wrap_id (by omega) (by omega)]; omega,hjl,rfl,c3d,heq⟩
 ·have hjl:j=s.n:=by have:¬ ((j:Int)<((s.n:Nat):Int)):=of_decide_eq_false h; omega
  rw [hjl,List.drop_of_length_le (l:=l) (by omega)] at heq
  have:=hk2 w3 (c1.trans' c3)
  rw [heq] at this
  exact this
end Go.Proofs.YtnacobknngidkaaGreatDoor
namespace Go.Note
open Go
set_option linter.unusedVariables false
theorem hexN_front:∀ (j n:Nat),hexN (j+1) n=hexD (n / 16^j%16)::hexN j n
 | 0,n=>by simp [hexN]
 | j+1,n=>by
  have h:=hexN_front j (n / 16)
  show hexN (j+1) (n / 16)++[hexD (n%16)]=_
  rw [h,Nat.div_div_eq_div_mul,← Nat.pow_succ',List.cons_append]
  rfl
theorem hexD_dec {n:Nat} (h:n<10):hexD n=UInt8.ofNat (48+n):=by unfold hexD; rw [if_pos h]
theorem dec_small {n:Nat} (h:n<10):Lib.decDigits n=[hexD n]:=by rw [Lib.decDigits,dif_pos h,hexD_dec h]
theorem dec_big {n:Nat} (h:¬ n<10):Lib.decDigits n=Lib.decDigits (n / 10)++[hexD (n%10)]:=by rw [Lib.decDigits,dif_neg h,hexD_dec (by omega)]
end Go.Note
namespace Go.Proofs.YtnacobknngidkaaGreatDoor
open Go Go.Sv Go.Note Go.RowKit
set_option linter.unusedVariables false
attribute [local irreducible] Sif
set_option maxRecDepth 4000
theorem rName_ok {k:Nat} (hk:k<25) {w:World} {K:Value→World→Prop} (h:∀ w',Ch (fun _=>False) w w'→K (.string ⟨(nameK (k:Int)).toArray⟩) w') :
 callP Tryz.prog 110 [.int .i64 (k:Int)] w K:=by
 apply ok_longshoreref04_Name
 unfold wp_longshoreref04_Name
 refine newB_blk fun w1 b1 c1 z1=>?_
 refine ⟨fun w2=>w2=w1,?_,?_⟩
 ·rintro w2 rfl
  refine ⟨by omega,by omega,?_⟩
  simp only [add_at,Nat.zero_add,Nat.mul_one,Int.toNat_natCast]
  exact ⟨_,by rw [cell_blk b1]; exact nameV_get k hk,h w2 c1⟩
 ·refine Sif_cases (fun _=>?_) (fun h=>by simp at h; omega)
  exact Sif_cases (fun h2=>by simp at h2; omega) (fun _=>rfl)
theorem dec_nine {n:Nat} (h:n<18446744073709551616):(Lib.decDigits n).length≤20:=dec_len 19 n (by omega)
theorem decimal_ok {n:Nat} (hn:n<18446744073709551616) {w:World} {K:Value→World→Prop} (hk:K (.string ⟨(Lib.decDigits n).toArray⟩) w):callP Tryz.prog 155 [.int .u64 (n:Int)] w K:=by
 apply ok_longshoreref04_decimal
 unfold wp_longshoreref04_decimal
 have hdl:=dec_nine hn
 have md:∀ u:Nat,u<18446744073709551616→IntKind.wrap .i64 (Int.tmod (u:Int) 10)=((u%10:Nat):Int):=fun u _=>by
  rw [Int.tmod_eq_emod_of_nonneg (by omega),wrap_id (by omega) (by omega)]; omega
 refine ⟨by decide,?_⟩
 rw [md n hn]
 refine digit_ok (by omega) ⟨_,rfl,?_⟩
 refine ⟨fun m u x w1=>∃ (v:Nat) (o:Bs),u=(v:Int)∧v<18446744073709551616∧m=v∧x=⟨o.toArray⟩∧w1=w∧Lib.decDigits n=(if v<10 then [] else Lib.decDigits (v / 10))++o,⟨n,n,_,rfl,hn,rfl,rfl,rfl,?_⟩,?_⟩
 ·by_cases h:n<10
  ·rw [if_pos h,dec_small h,Nat.mod_eq_of_lt h]; rfl
  ·rw [if_neg h,dec_big h]
 rintro m u x w1 ⟨v,o,rfl,hv,rfl,rfl,rfl,heq⟩
 have hol:o.length≤20:=by
  have:=congrArg List.length heq
  rw [List.length_append] at this; omega
 refine Sif_cases (fun h=>?_) (fun h=>?_)
 ·have h:¬ m<10:=by have:=of_decide_eq_true h; omega
  refine ⟨by decide,?_⟩
  have dv:IntKind.wrap .u64 (Int.tdiv (m:Int) 10)=((m / 10:Nat):Int):=by
   rw [Int.tdiv_eq_ediv_of_nonneg (by omega)]
   exact w64 (n:=m / 10) (by omega) (by omega)
  simp only [nameI,dv]
  refine ⟨by decide,?_⟩
  rw [md (m / 10) (by omega)]
  refine digit_ok (by omega) ⟨_,rfl,?_⟩
  rw [show (⟨#[hexD (m / 10%10)]⟩:ByteArray)=⟨([hexD (m / 10%10)]:Bs).toArray⟩ by rfl,str_app]
  refine ⟨by rw [str_size o,str_size [hexD (m / 10%10)]]; simp only [List.length_cons,List.length_nil]; omega,m / 10,by omega,m / 10,_,rfl,by omega,rfl,rfl,rfl,?_⟩
  rw [heq,if_neg h]
  by_cases h2:m / 10<10
  ·rw [if_pos h2,dec_small h2,Nat.mod_eq_of_lt h2]; rfl
  ·rw [if_neg h2,dec_big h2,List.append_assoc]
 ·have h:m<10:=by have:=of_decide_eq_false h; omega
  rw [if_pos h,List.nil_append] at heq
  rw [← heq]; exact hk
theorem signed_ok {n:Nat} (hn:n<18446744073709551616) {w:World} {K:Value→World→Prop} (hk:K (.string ⟨(Lib.itoa (two64 n)).toArray⟩) w):callP Tryz.prog 152 [.int .u64 (n:Int)] w K:=by
 apply ok_longshoreref04_signed
 unfold wp_longshoreref04_signed
 unfold two64 at hk
 refine Sif_cases (fun h=>?_) (fun h=>?_)
 ·have h:n<9223372036854775808:=by have:=of_decide_eq_true h; omega
  rw [if_pos h] at hk
  refine decimal_ok hn ⟨_,rfl,?_⟩
  rw [Lib.itoa_nonneg] at hk; exact hk
 ·have h:¬ n<9223372036854775808:=by have:=of_decide_eq_false h; omega
  rw [if_neg h] at hk
  have e:IntKind.wrap .u64 (0-(n:Int))=((18446744073709551616-n:Nat):Int):=by
   unfold IntKind.wrap
   simp [IntKind.min,IntKind.signed,IntKind.bits]
   omega
  rw [e]
  refine decimal_ok (by omega) ⟨_,rfl,?_⟩
  have hdl:=dec_nine (n:=18446744073709551616-n) (by omega)
  rw [show (n:Int)-18446744073709551616=-((18446744073709551616-n:Nat):Int) by omega,Lib.itoa_neg _ (by omega)] at hk
  rw [show (ByteArray.mk (Array.mk [(45:UInt8)]))=⟨([45]:Bs).toArray⟩ by rfl,str_app,str_size (Lib.decDigits (18446744073709551616-n))]
  exact ⟨by omega,hk⟩
theorem rdigits_ok {n m:Nat} (hn:n<18446744073709551616) (hm:m≤16) {w:World} {K:Value→World→Prop} (hk:K (.string ⟨(hexN m n).toArray⟩) w):callP Tryz.prog 153 [.int .u64 (n:Int),.int .i64 (m:Int)] w K:=by
 apply ok_longshoreref04_digits
 unfold wp_longshoreref04_digits
 refine ⟨fun q u x i w1=>∃ j:Nat,i=(j:Int)∧j≤m∧q=m-j∧u=((n / 16^j:Nat):Int)∧x=⟨(hexN j n).toArray⟩∧w1=w,⟨m,0,rfl,Nat.zero_le _,rfl,by simp,rfl,rfl⟩,?_⟩
 rintro q u x i w1 ⟨j,rfl,hj,rfl,rfl,rfl,rfl⟩
 have hle:n / 16^j≤n:=Nat.div_le_self _ _
 have hfr:=hexN_front j n
 have hp1:n / 16^(j+1)=n / 16^j / 16:=by rw [Nat.pow_succ,← Nat.div_div_eq_div_mul]
 obtain ⟨u,hu⟩:∃ u,u=n / 16^j:=⟨_,rfl⟩
 rw [← hu] at hle hfr hp1 ⊢
 refine Sif_cases (fun h=>?_) (fun h=>?_)
 ·have hjm:j<m:=by have:=of_decide_eq_true h; omega
  refine ⟨by decide,?_⟩
  rw [show IntKind.wrap .i64 (Int.tmod (u:Int) 16)=((u%16:Nat):Int) by
   rw [Int.tmod_eq_emod_of_nonneg (by omega),wrap_id (by omega) (by omega)]; omega]
  refine digit_ok (by omega) ⟨_,rfl,?_⟩
  rw [show (⟨#[hexD (u%16)]⟩:ByteArray)=⟨([hexD (u%16)]:Bs).toArray⟩ by rfl,str_app,str_size [hexD (u%16)],str_size (hexN j n),hexN_len]
  refine ⟨by simp only [List.length_cons,List.length_nil]; omega,by decide,?_⟩
  have dv:IntKind.wrap .u64 (Int.tdiv (u:Int) 16)=((u / 16:Nat):Int):=by
   rw [Int.tdiv_eq_ediv_of_nonneg (by omega)]
   exact w64 (n:=u / 16) (by omega) (by omega)
  simp only [nameI,dv]
  rw [wrap_id (n:=(j:Int)+1) (by omega) (by omega)]
  exact ⟨m-(j+1),by omega,j+1,by omega,by omega,rfl,by rw [hp1],by rw [hfr]; rfl,by trivial⟩
 ·have hjm:j=m:=by have:=of_decide_eq_false h; omega
  subst hjm; exact hk
theorem rraw_ok {b:ByteArray} (hb:b.size≤2^40) {w:World} {K:Value→World→Prop} (hk:K (.string ⟨(rawB b.data.toList).toArray⟩) w):callP Tryz.prog 154 [.string b] w K:=by
 apply ok_longshoreref04_raw
 unfold wp_longshoreref04_raw
 have hbl:=sl b
 refine ⟨fun q x i w1=>∃ j:Nat,i=(j:Int)∧j≤b.size∧q=b.size-j∧x=⟨(rawB (b.data.toList.take j)).toArray⟩∧w1=w,⟨b.size,0,rfl,Nat.zero_le _,rfl,rfl,rfl⟩,?_⟩
 rintro q x i w1 ⟨j,rfl,hj,rfl,rfl,rfl⟩
 refine Sif_cases (fun h=>?_) (fun h=>?_)
 ·have hjl:j<b.size:=by have:=of_decide_eq_true h; omega
  obtain ⟨y,hy⟩:∃ y,b.data.toList[j]?=some y:=⟨_,List.getElem?_eq_getElem (by omega)⟩
  refine ⟨by omega,by omega,?_⟩
  rw [Int.toNat_natCast,byteAt_get hy,w64 (n:=y.toNat) (by omega) (by have:=y.toNat_lt; omega)]
  refine rdigits_ok (m:=2) (by have:=y.toNat_lt; omega) (by decide) ⟨_,rfl,?_⟩
  rw [str_app,str_size (rawB _),str_size (hexN 2 y.toNat),rawB_len,hexN_len]
  simp only [nameI]
  rw [wrap_id (n:=(j:Int)+1) (by omega) (by omega)]
  refine ⟨by rw [List.length_take]; omega,b.size-(j+1),by omega,j+1,by omega,hjl,rfl,?_,by trivial⟩
  rw [List.take_add_one,hy,← rawB_snoc]; rfl
 ·have hjl:j=b.size:=by have:=of_decide_eq_false h; omega
  rw [List.take_of_length_le (by omega)]
  exact hk
theorem rsimple_ok {x:MV} (hn:x.n<18446744073709551616) (ht:x.t.length≤2^40) {w:World} {K:Value→World→Prop} (hk:∀ w',Ch (fun _=>False) w w'→K (.string ⟨(simpleB x.k x.n x.t).toArray⟩) w') :
 callP Tryz.prog 112 [x.v] w K:=by
 obtain ⟨k,n,t,s,e,l⟩:=x
 apply ok_longshoreref04_simple
 unfold wp_longshoreref04_simple
 have hn:n<18446744073709551616:=hn
 have ht:t.length≤2^40:=ht
 have hk:∀ w',Ch (fun _=>False) w w'→K (.string ⟨(simpleB k n t).toArray⟩) w':=hk
 refine boxV (x:=.mk k n t s e l) fun w1 b1 a1 c1 z1=>?_
 simp only [add_at,Nat.zero_add,intEq]
 refine ⟨_,cellK b1 0 rfl,?_⟩
 refine ⟨fun q w2=>w2=w1∧q=decide (k=6∨k=7∨k=8∨k=9∨k=16),?_,?_⟩
 rotate_left
 ·have tt:∀ (j:Int),(j=6∨j=7∨j=8∨j=9∨j=16)→decide (k=j)=true→decide (k=j)=decide (k=6∨k=7∨k=8∨k=9∨k=16):=fun j hj h=>by
   have:=of_decide_eq_true h
   rw [h,decide_eq_true (by omega)]
  refine Sif_cases (fun h=>⟨by trivial,tt 6 (by decide) h⟩) (fun a1=>Sif_cases (fun h=>⟨by trivial,tt 7 (by decide) h⟩) (fun a2=>Sif_cases (fun h=>⟨by trivial,tt 8 (by decide) h⟩) (fun a3=>Sif_cases (fun h=>⟨by trivial,tt 9 (by decide) h⟩) (fun a4=>⟨by trivial,?_⟩))))
  have a1:=of_decide_eq_false a1
  have a2:=of_decide_eq_false a2
  have a3:=of_decide_eq_false a3
  have a4:=of_decide_eq_false a4
  exact decide_eq_decide.2 (by omega)
 rintro q w2 ⟨rfl,rfl⟩
 refine Sif_cases (fun hc=>⟨_,cellK b1 1 rfl,?_⟩) (fun hc=>?_)
 ·have hc:=of_decide_eq_true hc
  have hs:simpleB k n t=Lib.itoa (two64 n):=by unfold simpleB; rw [if_pos hc]
  rw [hs] at hk
  exact signed_ok hn ⟨_,rfl,hk w2 c1⟩
 have hc:=of_decide_eq_false hc
 refine ⟨fun q w3=>w3=w2∧q=decide (k=10∨k=12),?_,?_⟩
 rotate_left
 ·refine Sif_cases (fun h=>⟨by trivial,?_⟩) (fun a1=>⟨by trivial,?_⟩)
  ·rw [h,decide_eq_true (.inl (of_decide_eq_true h))]
  ·exact decide_eq_decide.2 ⟨fun e=>.inr e,fun e=>e.resolve_left (of_decide_eq_false a1)⟩
 rintro q w3 ⟨rfl,rfl⟩
 refine Sif_cases (fun hc2=>⟨_,cellK b1 1 rfl,?_⟩) (fun hc2=>?_)
 ·have hc2:=of_decide_eq_true hc2
  have hs:simpleB k n t=hexN 8 n:=by unfold simpleB; rw [if_neg hc,if_pos hc2]
  rw [hs] at hk
  exact rdigits_ok (m:=8) hn (by decide) ⟨_,rfl,hk w3 c1⟩
 have hc2:=of_decide_eq_false hc2
 refine ⟨fun q w4=>w4=w3∧q=decide (k=11∨k=13),?_,?_⟩
 rotate_left
 ·refine Sif_cases (fun h=>⟨by trivial,?_⟩) (fun a1=>⟨by trivial,?_⟩)
  ·rw [h,decide_eq_true (.inl (of_decide_eq_true h))]
  ·exact decide_eq_decide.2 ⟨fun e=>.inr e,fun e=>e.resolve_left (of_decide_eq_false a1)⟩
 rintro q w4 ⟨rfl,rfl⟩
 refine Sif_cases (fun hc3=>⟨_,cellK b1 1 rfl,?_⟩) (fun hc3=>?_)
 ·have hc3:=of_decide_eq_true hc3
  have hs:simpleB k n t=hexN 16 n:=by unfold simpleB; rw [if_neg hc,if_neg hc2,if_pos hc3]
  rw [hs] at hk
  exact rdigits_ok (m:=16) hn (by decide) ⟨_,rfl,hk w4 c1⟩
 have hc3:=of_decide_eq_false hc3
 refine ⟨fun q w5=>w5=w4∧q=decide (k=14∨k=17),?_,?_⟩
 rotate_left
 ·refine Sif_cases (fun h=>⟨by trivial,?_⟩) (fun a1=>⟨by trivial,?_⟩)
  ·rw [h,decide_eq_true (.inl (of_decide_eq_true h))]
  ·exact decide_eq_decide.2 ⟨fun e=>.inr e,fun e=>e.resolve_left (of_decide_eq_false a1)⟩
 rintro q w5 ⟨rfl,rfl⟩
 refine Sif_cases (fun hc4=>⟨_,cellK b1 2 rfl,?_⟩) (fun hc4=>?_)
 ·have hc4:=of_decide_eq_true hc4
  have hs:simpleB k n t=rawB t:=by unfold simpleB; rw [if_neg hc,if_neg hc2,if_neg hc3,if_pos hc4]
  rw [hs] at hk
  refine rraw_ok (by rw [str_size]; exact ht) ⟨_,rfl,?_⟩
  rw [str_list]; exact hk w5 c1
 have hc4:=of_decide_eq_false hc4
 refine ⟨fun q w6=>w6=w5∧q=decide (k=18∨k=20),?_,?_⟩
 rotate_left
 ·refine Sif_cases (fun h=>⟨by trivial,?_⟩) (fun a1=>⟨by trivial,?_⟩)
  ·rw [h,decide_eq_true (.inl (of_decide_eq_true h))]
  ·exact decide_eq_decide.2 ⟨fun e=>.inr e,fun e=>e.resolve_left (of_decide_eq_false a1)⟩
 rintro q w6 ⟨rfl,rfl⟩
 refine Sif_cases (fun hc5=>⟨_,cellK b1 2 rfl,?_⟩) (fun hc5=>⟨_,cellK b1 1 rfl,?_⟩)
 ·have hc5:=of_decide_eq_true hc5
  have hs:simpleB k n t=quoteB t:=by unfold simpleB; rw [if_neg hc,if_neg hc2,if_neg hc3,if_neg hc4,if_pos hc5]
  rw [hs] at hk
  refine rQuote_ok (by rw [str_size]; exact ht) fun w7 c7=>⟨_,rfl,?_⟩
  rw [str_list]; exact hk w7 (c1.trans' c7)
 ·have hc5:=of_decide_eq_false hc5
  have hs:simpleB k n t=Lib.decDigits n:=by unfold simpleB; rw [if_neg hc,if_neg hc2,if_neg hc3,if_neg hc4,if_neg hc5]
  rw [hs] at hk
  exact decimal_ok hn ⟨_,rfl,hk w6 c1⟩
end Go.Proofs.YtnacobknngidkaaGreatDoor
namespace Go.Proofs.YtnacobknngidkaaGreatDoor
open Go Go.Sv Go.Note Go.RowKit
set_option linter.unusedVariables false
attribute [local irreducible] Sif
set_option maxRecDepth 4000
def WT (base:World) (b0:Option Nat) (w:World) (p:Option Addr) (n c:Nat) (l:Bs):Prop:=Gb base w p n c l b0∧∀ k,b0=some k→k<base.heap.size
theorem WT.ch {base w:World} {b0:Option Nat} {p:Option Addr} {n c:Nat} {l:Bs} (h:WT base b0 w p n c l):Ch (fun k=>b0=some k) base w:=by obtain ⟨⟨_,_,_,h⟩,_⟩:=h; exact h
theorem WT.ch0 {base w w':World} {b0:Option Nat} {p:Option Addr} {n c:Nat} {l:Bs} (h:WT base b0 w p n c l) (cc:Ch (fun _=>False) w w'):WT base b0 w' p n c l:=by
 obtain ⟨⟨b',h1,h2,h3⟩,h4⟩:=h
 exact ⟨⟨b',h1.ch cc fun _ _ h=>h,h2,h3.trans' (cc.mono fun _ _ h=>h.elim)⟩,h4⟩
theorem WT.now {base w w':World} {b0:Option Nat} {p:Option Addr} {n c:Nat} {l:Bs} (h:WT base b0 w p n c l) (cc:Ch (fun _=>False) w w'):∃ b',WT w' b' w' p n c l∧(∀ k,b'=some k→k<w.heap.size∧(b0=some k∨base.heap.size≤k))∧∀ w'' p' n' c' l',WT w' b' w'' p' n' c' l'→WT base b0 w'' p' n' c' l':=by
 obtain ⟨⟨b',h1,h2,h3⟩,h4⟩:=h
 have hz:=cc.size
 have h1':=h1.ch cc fun _ _ h=>h
 have hlt:∀ k,b'=some k→k<w.heap.size:=fun k hk=>by rw [hk] at h1; exact h1.lt
 refine ⟨b',⟨⟨b',h1',fun k hk=>.inl hk,Ch.refl _ _⟩,fun k hk=>by have:=hlt k hk; omega⟩,fun k hk=>⟨hlt k hk,h2 k hk⟩,fun w'' p' n' c' l' hw=>⟨Gb.trans (p1:=p) (n1:=n) (c1:=c) h2 (h3.trans' (cc.mono fun _ _ h=>h.elim)) hw.1,h4⟩⟩
theorem WT.put {base w:World} {b0:Option Nat} {p:Option Addr} {n c:Nat} {l:Bs} (h:WT base b0 w p n c l) (y:Bs) (hl:l.length+y.length≤2^46) {K:Value→World→Prop} (hk:∀ p' n' c' w',WT base b0 w' p' n' c' (l++y)→K (.slice p' n' c') w') :
 callP Tryz.prog 57 [.slice p n c,.string ⟨y.toArray⟩] w K:=by
 obtain ⟨⟨b',h1,h2,h3⟩,h4⟩:=h
 refine rput_ok h1 _ (by rw [str_size]; exact hl) fun p' c' w' hG=>?_
 rw [str_list] at hG ⊢
 exact hk p' _ c' w' ⟨Gb.trans (p1:=p) (n1:=n) (c1:=c) h2 h3 hG,h4⟩
theorem WT.enter {Q:Nat→Prop} {base w w1:World} {b0:Option Nat} {p:Option Addr} {n c:Nat} {l:Bs} {x:MV} (hQ:∀ k,Q k→b0≠some k) (h:WT base b0 w p n c l) (hx:VR Q base x) (cc:Ch (fun _=>False) w w1) :
 ∃ b' Q',WT w1 b' w1 p n c l∧(∀ k,Q' k→b'≠some k)∧VR Q' w1 x∧b'≠some w.heap.size∧∀ w'' p' n' c' l',WT w1 b' w'' p' n' c' l'→WT base b0 w'' p' n' c' l':=by
 obtain ⟨b',h1,h2,h3⟩:=h.now cc
 have c2:=(h.ch0 cc).ch
 have hx2:=hx.lt x
 refine ⟨b',fun k=>Q k∧k<base.heap.size,h1,fun k hk e=>?_,VR.ch c2 (fun k hk e=>hQ k hk.1 e) x hx2,fun e=>?_,h3⟩
 ·rcases (h2 k e).2 with e | e
  ·exact hQ k hk.1 e
  ·have:=hk.2; omega
 ·have:=(h2 _ e).1; omega
def WrOK (x:MV):Prop:=∀ {Q:Nat→Prop} {base w:World} {b0:Option Nat} {p:Option Addr} {n c:Nat} {out:Bs} {d:Nat},(∀ k,Q k→b0≠some k)→WT base b0 w p n c out→VR Q base x→x.m.fits→x.m.sz≤2^40→x.m.check d=0→out.length+(printM x.m).length≤2^45→∀ {K:Value→World→Prop},(∀ w' p' n' c',WT base b0 w' p' n' c' (out++printM x.m)→K (.slice p' n' c') w') →
 callP Tryz.prog 67 [.slice p n c,x.v] w K
theorem parts_ok {l:List MV} (ih:∀ x∈l,WrOK x) {Q:Nat→Prop} {base w:World} {b0:Option Nat} {out:Bs} {d:Nat} {p:Option Addr} {n c:Nat} {po:Option Addr} {no co:Nat} (hQ:∀ k,Q k→b0≠some k) (h:WT base b0 w po no co out) (hr:VRow Q base p n l)
 (hf:∀ x∈l,x.m.fits) (hz:∀ x∈l,x.m.sz≤2^40) (hc:∀ x∈l,x.m.check d=0) (hl:out.length+(printL (l.map MV.m)).length≤2^45) {K:Value→World→Prop} (hk:∀ w' p' n' c',WT base b0 w' p' n' c' (out++printL (l.map MV.m))→K (.slice p' n' c') w') :
 callP Tryz.prog 150 [.slice po no co,.slice p n c] w K:=by
 apply ok_longshoreref04_parts
 unfold wp_longshoreref04_parts
 have hln:=hr.1
 have hn46:=hr.2.1
 refine ⟨fun m p1 n1 c1 i w1=>∃ j:Nat,i=(j:Int)∧m=n-j∧j≤n∧WT base b0 w1 p1 n1 c1 (out++printL ((l.take j).map MV.m)),⟨n,0,rfl,rfl,Nat.zero_le _,by simpa [printL] using h⟩,?_⟩
 rintro m p1 n1 c1 i w1 ⟨j,rfl,rfl,hj,h1⟩
 refine Sif_cases (fun hlt=>?_) (fun hge=>?_)
 ·have hjl:j<n:=by have:=of_decide_eq_true hlt; omega
  obtain ⟨y,hyi⟩:∃ y,l[j]?=some y:=⟨l[j]'(by omega),List.getElem?_eq_getElem _⟩
  have hym:=List.mem_of_getElem? hyi
  have htk:l.take (j+1)=l.take j++[y]:=by rw [List.take_add_one,hyi]; rfl
  have hle:(out++printL ((l.take j).map MV.m)).length+(if (l.take j).map MV.m=[] then ([]:Bs) else [32]).length+(printM y.m).length≤2^45:=by
   have h1:=printL_mono ((l.drop (j+1)).map MV.m) ((l.take (j+1)).map MV.m)
   rw [← List.map_append,List.take_append_drop] at h1
   rw [htk,List.map_append,List.map_singleton,printL_snoc] at h1
   simp only [List.length_append] at h1 ⊢
   omega
  have hfin:printL ((l.take (j+1)).map MV.m)=printL ((l.take j).map MV.m)++(if (l.take j).map MV.m=[] then [] else [32])++printM y.m:=by
   rw [htk,List.map_append,List.map_singleton,printL_snoc]
  refine ⟨fun p2 n2 c2 w2=>WT base b0 w2 p2 n2 c2 (out++printL ((l.take j).map MV.m)++(if (l.take j).map MV.m=[] then [] else [32])),?_,?_⟩
  ·intro p2 n2 c2 w2 h2
   have hr2:VRow Q w2 p n l:=hr.ch h2.ch fun k hk e=>hQ k hk e
   obtain ⟨by',oy,py,_,ay⟩:=hr2.at hyi
   refine ⟨by omega,by omega,?_⟩
   rw [py]
   simp only [nn]
   refine ldR ay ?_
   rw [vv y]
   refine ih y hym hQ h2 (hr.2.2.2.2 y hym) (hf y hym) (hz y hym) (hc y hym) (by rw [List.length_append]; exact hle) fun w3 p3 n3 c3 h3=>⟨_,_,_,rfl,?_⟩
   simp only [nameI]
   rw [wrap_id (n:=(j:Int)+1) (by omega) (by omega)]
   refine ⟨n-(j+1),by omega,j+1,by omega,rfl,by omega,?_⟩
   rw [hfin]
   simpa only [List.append_assoc] using h3
  ·refine Sif_cases (fun hp=>?_) (fun hp=>?_)
   ·have hj0:0<j:=by have:=of_decide_eq_true hp; omega
    have hne:(l.take j).map MV.m≠[]:=by
     intro e
     have:=congrArg List.length e
     simp only [List.length_map,List.length_take,List.length_nil] at this
     omega
    rw [if_neg hne]
    rw [if_neg hne] at hle
    simp only [List.length_singleton] at hle
    exact h1.put [32] (by simp only [List.length_singleton]; omega) fun p2 n2 c2 w2 h2=>⟨_,_,_,rfl,h2⟩
   ·have hj0:j=0:=by have:=of_decide_eq_false hp; omega
    subst hj0
    show WT _ _ _ _ _ _ _
    simpa using h1
 ·have hjl:j=n:=by have:=of_decide_eq_false hge; omega
  rw [List.take_of_length_le (by omega)] at h1
  exact hk w1 _ _ _ h1
theorem pairs_ok' {l:List MV} (ih:∀ x∈l,WrOK x) (hev:l.length%2=0) {Q:Nat→Prop} {base w:World} {b0:Option Nat} {out:Bs} {d:Nat} {p:Option Addr} {n c:Nat} {po:Option Addr} {no co:Nat} (hQ:∀ k,Q k→b0≠some k) (h:WT base b0 w po no co out) (hr:VRow Q base p n l)
 (hf:∀ x∈l,x.m.fits) (hz:∀ x∈l,x.m.sz≤2^40) (hc:∀ x∈l,x.m.check d=0) (hl:out.length+(printP (l.map MV.m)).length≤2^45) {K:Value→World→Prop} (hk:∀ w' p' n' c',WT base b0 w' p' n' c' (out++printP (l.map MV.m))→K (.slice p' n' c') w') :
 callP Tryz.prog 151 [.slice po no co,.slice p n c] w K:=by
 apply ok_longshoreref04_pairs
 unfold wp_longshoreref04_pairs
 have hln:=hr.1
 have hn46:=hr.2.1
 refine ⟨fun m p1 n1 c1 i w1=>∃ j:Nat,i=((2*j:Nat):Int)∧m=n-2*j∧2*j≤n∧WT base b0 w1 p1 n1 c1 (out++printP ((l.take (2*j)).map MV.m)),⟨n,0,rfl,rfl,Nat.zero_le _,by simpa [printP] using h⟩,?_⟩
 rintro m p1 n1 c1 i w1 ⟨j,rfl,rfl,hj,h1⟩
 rw [wrap_id (n:=((2*j:Nat):Int)+1) (by omega) (by omega)]
 refine Sif_cases (fun hlt=>?_) (fun hge=>?_)
 ·have hjl:2*j+1<n:=by have:=of_decide_eq_true hlt; omega
  obtain ⟨y,hyi⟩:∃ y,l[2*j]?=some y:=⟨l[2*j]'(by omega),List.getElem?_eq_getElem _⟩
  obtain ⟨y',hyi'⟩:∃ y',l[2*j+1]?=some y':=⟨l[2*j+1]'(by omega),List.getElem?_eq_getElem _⟩
  have hym:=List.mem_of_getElem? hyi
  have hym':=List.mem_of_getElem? hyi'
  have htk:l.take (2*(j+1))=l.take (2*j)++[y,y']:=by
   rw [show 2*(j+1)=2*j+1+1 by omega,List.take_add_one,hyi',List.take_add_one,hyi]; simp
  have hel:((l.take (2*j)).map MV.m).length%2=0:=by rw [List.length_map,List.length_take]; omega
  have hfin:printP ((l.take (2*(j+1))).map MV.m)=printP ((l.take (2*j)).map MV.m)++(if (l.take (2*j)).map MV.m=[] then [] else [44,32])++printM y.m++[58,32]++printM y'.m:=by
   rw [htk,List.map_append]
   exact printP_snoc _ _ _ hel
  have hle:=printP_mono ((l.drop (2*(j+1))).map MV.m) ((l.take (2*(j+1))).map MV.m) (by rw [List.length_map,List.length_take]; omega) (by rw [List.length_map,List.length_drop]; omega)
  rw [← List.map_append,List.take_append_drop,hfin] at hle
  have hcase:(if (l.take (2*j)).map MV.m=[] then ([]:Bs) else [44,32])=if j=0 then [] else [44,32]:=by
   by_cases h0:j=0
   ·subst h0; simp
   ·rw [if_neg h0,if_neg]
    intro e
    have:=congrArg List.length e
    simp only [List.length_map,List.length_take,List.length_nil] at this
    omega
  rw [hcase] at hle hfin
  simp only [List.length_append,List.length_cons,List.length_nil] at hle
  refine ⟨fun p2 n2 c2 w2=>WT base b0 w2 p2 n2 c2 (out++printP ((l.take (2*j)).map MV.m)++(if j=0 then [] else [44,32])),?_,?_⟩
  ·intro p2 n2 c2 w2 h2
   obtain ⟨by',oy,py,_,ay⟩:=(hr.ch h2.ch fun k hk e=>hQ k hk e:VRow Q w2 p n l).at hyi
   refine ⟨by omega,by omega,?_⟩
   simp only [py]
   refine ldR ay ?_
   rw [vv y]
   refine ih y hym hQ h2 (hr.2.2.2.2 y hym) (hf y hym) (hz y hym) (hc y hym) (by simp only [List.length_append]; omega) fun w3 p3 n3 c3 h3=>⟨_,_,_,rfl,?_⟩
   refine h3.put [58,32] (by simp only [List.length_append,List.length_cons,List.length_nil]; omega) fun p4 n4 c4 w4 h4=>⟨_,_,_,rfl,by omega,by omega,?_⟩
   obtain ⟨b6,o6,p6,_,a6⟩:=(hr.ch h4.ch fun k hk e=>hQ k hk e:VRow Q w4 p n l).at hyi'
   rw [py] at p6
   cases p6
   rw [show ((2*j:Nat):Int)+1=((2*j+1:Nat):Int) by omega]
   refine ldR a6 ?_
   rw [vv y']
   refine ih y' hym' hQ h4 (hr.2.2.2.2 y' hym') (hf y' hym') (hz y' hym') (hc y' hym') (by simp only [List.length_append,List.length_cons,List.length_nil]; omega) fun w5 p5 n5 c5 h5=>⟨_,_,_,rfl,?_⟩
   simp only [nameI]
   rw [wrap_id (n:=((2*j:Nat):Int)+2) (by omega) (by omega)]
   refine ⟨n-2*(j+1),by omega,j+1,by omega,rfl,by omega,?_⟩
   rw [hfin]
   simpa only [List.append_assoc] using h5
  ·refine Sif_cases (fun hp=>?_) (fun hp=>?_)
   ·have hj0:j≠0:=by have:=of_decide_eq_true hp; omega
    rw [if_neg hj0]
    rw [if_neg hj0] at hle
    simp only [List.length_cons,List.length_nil] at hle
    exact h1.put [44,32] (by simp only [List.length_append,List.length_cons,List.length_nil]; omega) fun p2 n2 c2 w2 h2=>⟨_,_,_,rfl,h2⟩
   ·have hj0:j=0:=by have:=of_decide_eq_false hp; omega
    rw [if_pos hj0,List.append_nil]
    exact h1
 ·have hjl:2*j=n:=by have:=of_decide_eq_false hge; have:¬ (2*j+1<n):=fun h=>this (by omega); omega
  rw [List.take_of_length_le (by omega)] at h1
  exact hk w1 _ _ _ h1
theorem listed_ok {x:MV} (ih:∀ y∈x.l,WrOK y) (hkk:x.k=21∨x.k=22∨x.k=23∨x.k=24) {Q:Nat→Prop} {base w:World} {b0:Option Nat} {p:Option Addr} {n c:Nat} {out:Bs} {d:Nat} (hQ:∀ k,Q k→b0≠some k) (h:WT base b0 w p n c out) (hx:VR Q base x) (hf:x.m.fits) (hz:x.m.sz≤2^40) (hc:x.m.check d=0) (hl:out.length+(printM x.m).length≤2^45) {K:Value→World→Prop} (hk:∀ w' p' n' c',WT base b0 w' p' n' c' (out++printM x.m)→K (.slice p' n' c') w') :
 callP Tryz.prog 111 [.slice p n c,x.v] w K:=by
 obtain ⟨k,n0,t,s,e,l⟩:=x
 apply ok_longshoreref04_listed
 unfold wp_longshoreref04_listed
 refine boxV (x:=.mk k n0 t s e l) fun w1 b1 a1 c1 z1=>?_
 simp only [add_at,Nat.zero_add,intEq]
 obtain ⟨b',Q',h1,hQ1,hx1,hbx,hback⟩:=WT.enter hQ h hx c1
 rw [MV.m_mk] at hf hz hc hl hk
 have hk':∀ w' p' n' c',WT w1 b' w' p' n' c' (out++printM (.mk k n0 t e (l.map MV.m)))→K (.slice p' n' c') w':=fun w' p' n' c' h=>hk w' p' n' c' (hback _ _ _ _ _ h)
 have bx:∀ w2 p2 n2 c2 o,WT w1 b' w2 p2 n2 c2 o→blk w2 w.heap.size=some (MV.mk k n0 t s e l).g:=fun w2 p2 n2 c2 o hw=>(hw.ch.blk (blk_lt b1) hbx).trans b1
 obtain ⟨hown,hcm⟩:=(M.check_iff d _).1 hc
 obtain ⟨o1,o2,o3,o4,o5,o6,o7,o8,o9⟩:=own_ok hown
 have o7:k=22→mapOk (l.map MV.m)=true:=o7
 have o8:k=23→arrOk e (l.map MV.m)=true:=o8
 have hkk:k=21∨k=22∨k=23∨k=24:=hkk
 have ih:∀ y∈l,WrOK y:=ih
 have hfl:∀ x∈l,x.m.fits:=fun x hx=>by
  cases hf with | mk _ h=>exact h x.m (List.mem_map.2 ⟨x,hx,rfl⟩)
 have hszl:∀ x∈l,x.m.sz≤2^40:=fun x hx=>by
  rw [M.sz_mk] at hz
  have:=le_sum_of (List.mem_map.2 ⟨x.m,List.mem_map.2 ⟨x,hx,rfl⟩,rfl⟩:x.m.sz∈(l.map MV.m).map M.sz)
  omega
 have hcl:∀ x∈l,x.m.check (d+1)=0:=fun x hx=>hcm x.m (List.mem_map.2 ⟨x,hx,rfl⟩)
 have hrow:VRow Q' w1 s.p s.n l:=hx1.row
 refine ⟨_,cellK b1 0 rfl,?_⟩
 refine Sif_cases (fun hc3=>?_) (fun hc3=>?_)
 ·have hc3:=of_decide_eq_true hc3
  have hp:printM (.mk k n0 t e (l.map MV.m))=91::(printL (l.map MV.m)++[93]):=by unfold printM; rw [if_neg (by omega),if_neg (by omega),if_neg (by omega),if_pos hc3]
  rw [hp] at hk' hl
  simp only [List.length_cons,List.length_append,List.length_nil] at hl
  refine h1.put [91] (by simp only [List.length_cons,List.length_nil]; omega) fun p2 n2 c2 w2 h2=>⟨_,_,_,rfl,_,_,_,cellK (bx _ _ _ _ _ h2) 3 rfl,?_⟩
  refine parts_ok (l:=l) ih hQ1 h2 hrow hfl hszl hcl (by simp only [List.length_append,List.length_singleton]; omega) fun w3 p3 n3 c3 h3=>⟨_,_,_,rfl,?_⟩
  refine h3.put [93] (by simp only [List.length_append,List.length_cons,List.length_nil]; omega) fun p4 n4 c4 w4 h4=>⟨_,_,_,rfl,hk' w4 _ _ _ ?_⟩
  simpa only [List.append_assoc,List.singleton_append,List.cons_append,List.nil_append] using h4
 have hc3:=of_decide_eq_false hc3
 refine Sif_cases (fun hc6=>?_) (fun hc6=>?_)
 ·have hc6:=of_decide_eq_true hc6
  have hp:printM (.mk k n0 t e (l.map MV.m))=123::(printP (l.map MV.m)++[125]):=by unfold printM; rw [if_neg (by omega),if_neg (by omega),if_neg (by omega),if_neg hc3,if_pos hc6]
  rw [hp] at hk' hl
  simp only [List.length_cons,List.length_append,List.length_nil] at hl
  have hev:l.length%2=0:=by have:=(keysOf_nodup (o7 hc6)).1; rwa [List.length_map] at this
  refine h1.put [123] (by simp only [List.length_cons,List.length_nil]; omega) fun p2 n2 c2 w2 h2=>⟨_,_,_,rfl,_,_,_,cellK (bx _ _ _ _ _ h2) 3 rfl,?_⟩
  refine pairs_ok' (l:=l) ih hev hQ1 h2 hrow hfl hszl hcl (by simp only [List.length_append,List.length_singleton]; omega) fun w3 p3 n3 c3 h3=>⟨_,_,_,rfl,?_⟩
  refine h3.put [125] (by simp only [List.length_append,List.length_cons,List.length_nil]; omega) fun p4 n4 c4 w4 h4=>⟨_,_,_,rfl,hk' w4 _ _ _ ?_⟩
  simpa only [List.append_assoc,List.singleton_append,List.cons_append,List.nil_append] using h4
 have hc6:=of_decide_eq_false hc6
 refine Sif_cases (fun hc4=>⟨_,cellK b1 4 rfl,?_⟩) (fun hc4=>?_)
 ·have hc4:=of_decide_eq_true hc4
  have hp:printM (.mk k n0 t e (l.map MV.m))=[97,114,114,97,121,32]++nameK e++[32,91]++printL (l.map MV.m)++[93]:=by unfold printM; rw [if_neg (by omega),if_neg (by omega),if_neg (by omega),if_neg hc3,if_neg hc6,if_pos hc4]
  rw [hp] at hk' hl
  simp only [List.length_append,List.length_cons,List.length_nil] at hl
  have ho8:=o8 hc4
  simp only [arrOk,Bool.and_eq_true,decide_eq_true_eq] at ho8
  obtain ⟨e',rfl⟩:∃ e':Nat,e=(e':Int):=⟨e.toNat,by omega⟩
  refine rName_ok (by omega) fun w3 c3=>⟨_,rfl,?_⟩
  refine (h1.ch0 c3).put [97,114,114,97,121,32] (by simp only [List.length_cons,List.length_nil]; omega) fun p2 n2 c2 w2 h2=>⟨_,_,_,rfl,?_⟩
  refine h2.put (nameK (e':Int)) (by simp only [List.length_append,List.length_cons,List.length_nil]; omega) fun p3 n3 c3 w3 h3=>⟨_,_,_,rfl,?_⟩
  refine h3.put [32,91] (by simp only [List.length_append,List.length_cons,List.length_nil]; omega) fun p4 n4 c4 w4 h4=>⟨_,_,_,rfl,_,_,_,cellK (bx _ _ _ _ _ h4) 3 rfl,?_⟩
  refine parts_ok (l:=l) ih hQ1 h4 hrow hfl hszl hcl (by simp only [List.length_append,List.length_cons,List.length_nil]; omega) fun w5 p5 n5 c5 h5=>⟨_,_,_,rfl,?_⟩
  refine h5.put [93] (by simp only [List.length_append,List.length_cons,List.length_nil]; omega) fun p6 n6 c6 w6 h6=>⟨_,_,_,rfl,hk' w6 _ _ _ ?_⟩
  simpa only [List.append_assoc] using h6
 ·have hc4:=of_decide_eq_false hc4
  have hp:printM (.mk k n0 t e (l.map MV.m))=40::(printL (l.map MV.m)++[41]):=by unfold printM; rw [if_neg (by omega),if_neg (by omega),if_neg (by omega),if_neg hc3,if_neg hc6,if_neg hc4,if_pos (by omega)]
  rw [hp] at hk' hl
  simp only [List.length_cons,List.length_append,List.length_nil] at hl
  refine h1.put [40] (by simp only [List.length_cons,List.length_nil]; omega) fun p2 n2 c2 w2 h2=>⟨_,_,_,rfl,_,_,_,cellK (bx _ _ _ _ _ h2) 3 rfl,?_⟩
  refine parts_ok (l:=l) ih hQ1 h2 hrow hfl hszl hcl (by simp only [List.length_append,List.length_singleton]; omega) fun w3 p3 n3 c3 h3=>⟨_,_,_,rfl,?_⟩
  refine h3.put [41] (by simp only [List.length_append,List.length_cons,List.length_nil]; omega) fun p4 n4 c4 w4 h4=>⟨_,_,_,rfl,hk' w4 _ _ _ ?_⟩
  simpa only [List.append_assoc,List.singleton_append,List.cons_append,List.nil_append] using h4
theorem written_ok:∀ x:MV,WrOK x:=by
 refine MV.ind fun k n0 t s e l ih=>?_
 intro Q base w b0 p n c out d hQ h hx hf hz hc hl K hk
 apply ok_longshoreref04_written
 unfold wp_longshoreref04_written
 refine boxV (x:=.mk k n0 t s e l) fun w1 b1 a1 c1 z1=>?_
 simp only [add_at,Nat.zero_add,intEq]
 obtain ⟨b',Q',h1,hQ1,hx1,hbx,hback⟩:=WT.enter hQ h hx c1
 have hk':∀ w' p' n' c',WT w1 b' w' p' n' c' (out++printM (MV.mk k n0 t s e l).m)→K (.slice p' n' c') w':=fun w' p' n' c' h=>hk w' p' n' c' (hback _ _ _ _ _ h)
 have bx:∀ w2 p2 n2 c2 o,WT w1 b' w2 p2 n2 c2 o→blk w2 w.heap.size=some (MV.mk k n0 t s e l).g:=fun w2 p2 n2 c2 o hw=>(hw.ch.blk (blk_lt b1) hbx).trans b1
 obtain ⟨hown,hcm⟩:=(M.check_iff d _).1 hc
 obtain ⟨o1,o2,o3,o4,o5,o6,o7,o8,o9⟩:=own_ok hown
 rw [MV.m_mk] at o1 o2
 have o1:0≤k:=o1
 have o2:k<25:=o2
 have hn64:n0<18446744073709551616:=by rw [MV.m_mk] at hf; cases hf with | mk h _=>exact h
 have htl:t.length≤2^40:=by rw [MV.m_mk,M.sz_mk] at hz; omega
 have hmm:(MV.mk k n0 t s e l).m=.mk k n0 t e (l.map MV.m):=MV.m_mk ..
 refine ⟨_,cellK b1 0 rfl,?_⟩
 obtain ⟨k',rfl⟩:∃ k':Nat,k=(k':Int):=⟨k.toNat,by omega⟩
 refine rName_ok (by omega) fun w2 c2=>⟨_,rfl,?_⟩
 have h2:=h1.ch0 c2
 have b2:=bx _ _ _ _ _ h2
 refine ⟨_,cellK b2 0 rfl,?_⟩
 refine Sif_cases (fun hc0=>?_) (fun hc0=>?_)
 ·have hc0:=of_decide_eq_true hc0
  have hp:printM (.mk (k':Int) n0 t e (l.map MV.m))=nameK (k':Int):=by unfold printM; rw [if_pos hc0,hc0]
  rw [hmm,hp] at hk' hl
  exact h2.put _ (by omega) fun p3 n3 c3 w3 h3=>⟨_,_,_,rfl,hk' w3 _ _ _ h3⟩
 have hc0:=of_decide_eq_false hc0
 refine Sif_cases (fun hc1=>⟨_,cellK b2 1 rfl,?_⟩) (fun hc1=>?_)
 ·have hc1:=of_decide_eq_true hc1
  have hp:printM (.mk (k':Int) n0 t e (l.map MV.m))=if n0=1 then ([116,114,117,101]:Bs) else [102,97,108,115,101]:=by unfold printM; rw [if_neg hc0,if_pos hc1]
  rw [hmm,hp] at hk' hl
  refine Sif_cases (fun hn1=>?_) (fun hn1=>?_)
  ·have hn1:n0=1:=by have:=of_decide_eq_true hn1; omega
   rw [if_pos hn1] at hk' hl
   exact h2.put _ (by omega) fun p3 n3 c3 w3 h3=>⟨_,_,_,rfl,hk' w3 _ _ _ h3⟩
  ·have hn1:n0≠1:=by have:=of_decide_eq_false hn1; omega
   rw [if_neg hn1] at hk' hl
   exact h2.put _ (by omega) fun p3 n3 c3 w3 h3=>⟨_,_,_,rfl,hk' w3 _ _ _ h3⟩
 have hc1:=of_decide_eq_false hc1
 refine Sif_cases (fun hc2=>⟨_,cellK b2 2 rfl,?_⟩) (fun hc2=>?_)
 ·have hc2:=of_decide_eq_true hc2
  have hp:printM (.mk (k':Int) n0 t e (l.map MV.m))=quoteB t:=by unfold printM; rw [if_neg hc0,if_neg hc1,if_pos hc2]
  rw [hmm,hp] at hk' hl
  refine rQuote_ok (by rw [str_size]; exact htl) fun w3 c3=>⟨_,rfl,?_⟩
  rw [str_list]
  exact (h2.ch0 c3).put _ (by omega) fun p3 n3 c3 w3 h3=>⟨_,_,_,rfl,hk' w3 _ _ _ h3⟩
 have hc2:=of_decide_eq_false hc2
 refine ⟨fun q w3=>w3=w2∧q=decide ((k':Int)=21∨(k':Int)=22∨(k':Int)=23∨(k':Int)=24),?_,?_⟩
 rotate_left
 ·have tt:∀ (j:Int),(j=21∨j=22∨j=23∨j=24)→decide ((k':Int)=j)=true→decide ((k':Int)=j)=decide ((k':Int)=21∨(k':Int)=22∨(k':Int)=23∨(k':Int)=24):=fun j hj h=>by
   have:=of_decide_eq_true h
   rw [h,decide_eq_true (by omega)]
  refine Sif_cases (fun h=>⟨by trivial,tt 21 (by decide) h⟩) (fun a1=>Sif_cases (fun h=>⟨by trivial,tt 22 (by decide) h⟩) (fun a2=>Sif_cases (fun h=>⟨by trivial,tt 23 (by decide) h⟩) (fun a3=>⟨by trivial,?_⟩)))
  have a1:=of_decide_eq_false a1
  have a2:=of_decide_eq_false a2
  have a3:=of_decide_eq_false a3
  exact decide_eq_decide.2 (by omega)
 rintro q w3 ⟨rfl,rfl⟩
 refine Sif_cases (fun hL=>?_) (fun hL=>?_)
 ·have hL:=of_decide_eq_true hL
  refine ⟨_,cellK b2 0 rfl,_,cellK b2 1 rfl,_,cellK b2 2 rfl,_,_,_,cellK b2 3 rfl,_,cellK b2 4 rfl,?_⟩
  exact listed_ok (x:=.mk (k':Int) n0 t s e l) ih hL hQ1 h2 hx1 hf hz hc hl fun w4 p4 n4 c4 h4=>⟨_,_,_,rfl,hk' w4 _ _ _ h4⟩
 ·have hL:=of_decide_eq_false hL
  have hp:printM (.mk (k':Int) n0 t e (l.map MV.m))=nameK (k':Int)++[32]++simpleB (k':Int) n0 t:=by unfold printM; rw [if_neg hc0,if_neg hc1,if_neg hc2,if_neg (by omega),if_neg (by omega),if_neg (by omega),if_neg (by omega)]
  rw [hmm,hp] at hk' hl
  simp only [List.length_append,List.length_cons,List.length_nil] at hl
  refine ⟨_,cellK b2 0 rfl,_,cellK b2 1 rfl,_,cellK b2 2 rfl,_,_,_,cellK b2 3 rfl,_,cellK b2 4 rfl,?_⟩
  refine rsimple_ok (x:=.mk (k':Int) n0 t s e l) hn64 htl fun w4 c4=>⟨_,rfl,?_⟩
  refine (h2.ch0 c4).put _ (by omega) fun p5 n5 c5 w5 h5=>⟨_,_,_,rfl,?_⟩
  refine h5.put [32] (by simp only [List.length_append,List.length_cons,List.length_nil]; omega) fun p6 n6 c6 w6 h6=>⟨_,_,_,rfl,?_⟩
  refine h6.put (simpleB (k':Int) n0 t) (by simp only [List.length_append,List.length_cons,List.length_nil]; omega) fun p7 n7 c7 w7 h7=>⟨_,_,_,rfl,hk' w7 _ _ _ ?_⟩
  simpa only [List.append_assoc] using h7
theorem rText_ok {Q:Nat→Prop} {w:World} {x:MV} {d:Nat} (hx:VR Q w x) (hf:x.m.fits) (hz:x.m.sz≤2^37) (hc:x.m.check d=0) {K:Value→World→Prop} (hk:∀ w',Ch (fun _=>False) w w'→K (.string ⟨(printM x.m).toArray⟩) w') :
 callP Tryz.prog 38 [x.v] w K:=by
 have hpl:=print_len x.m hf
 obtain ⟨k,n,t,s,e,l⟩:=x
 apply ok_longshoreref04_Text
 unfold wp_longshoreref04_Text
 refine boxV (x:=.mk k n t s e l) fun w1 b1 a1 c1 z1=>?_
 refine ldK b1 ?_
 rw [vv]
 have h0:WT w1 none w1 none 0 0 []:=⟨⟨none,Ow.nil,(fun _ h=>by cases h),Ch.refl _ _⟩,(fun _ h=>by cases h)⟩
 refine written_ok _ (fun _ _ h=>by cases h) h0 (hx.ch0 c1) hf (by omega) hc (by show 0+_≤_; omega) fun w2 p2 n2 c2 h2=>⟨_,_,_,rfl,?_⟩
 rw [List.nil_append] at h2
 have c12:=c1.trans' (h2.ch.mono fun _ _ h=>by cases h)
 obtain ⟨⟨b',o2,_,_⟩,_⟩:=h2
 refine ⟨_,toString_run uBytes uByte uString ?_,hk w2 c12⟩
 have hr:=o2.rd
 have hn:n2=(printM (MV.mk k n t s e l).m).length:=by have:=hr.1; simpa [bytesV] using this.symm
 rw [hn] at hr ⊢
 exact hr
end Go.Proofs.YtnacobknngidkaaGreatDoor
namespace Go.Proofs.YtnacobknngidkaaGreatDoor
open Go Go.Sv Go.Note
set_option linter.unusedVariables false
attribute [local irreducible] Sif
set_option maxRecDepth 4000
theorem rmapped_ok {Q:Nat→Prop} {w:World} {p:Option Addr} {n c:Nat} {l:List MV} (h:VRow Q w p n l) {K:Value→World→Prop} (hk:∀ w',Ch (fun _=>False) w w'→K (.bool (mapOk (l.map MV.m))) w') :
 callP Tryz.prog 148 [.slice p n c] w K:=by
 apply ok_longshoreref02_mapped
 unfold wp_longshoreref02_mapped
 have hln:=h.1
 have hn46:=h.2.1
 have hml:(l.map MV.m).length=n:=by rw [List.length_map]; exact hln
 unfold mapOk at hk
 rw [hml] at hk
 have hmod:Int.tmod (n:Int) 2=((n%2:Nat):Int):=by rw [Int.tmod_eq_emod_of_nonneg (by omega)]; omega
 have hdiv:IntKind.wrap .i64 (Int.tdiv (n:Int) 2)=((n / 2:Nat):Int):=by rw [Int.tdiv_eq_ediv_of_nonneg (by omega),wrap_id (by omega) (by omega)]; omega
 rw [hmod,hdiv,ne0]
 refine ⟨fun w1=>w1=w∧n%2=0∧n / 2≤1024,?_,by decide,?_⟩
 rotate_left
 ·refine Sif_cases (fun h1=>⟨by decide,Sif_cases (fun h2=>?_) (fun h2=>⟨rfl,?_,?_⟩)⟩) (fun h1=>?_)
  ·have:=hk w (Ch.refl _ _)
   rw [decide_eq_false (p:=n / 2≤1024) (by have:=of_decide_eq_true h2; omega),Bool.and_false,Bool.false_and] at this
   exact this
  ·rw [Bool.not_eq_true'] at h1; have:=of_decide_eq_false h1; omega
  ·have:=of_decide_eq_false h2; omega
  ·rw [Bool.not_eq_false'] at h1
   have:=hk w (Ch.refl _ _)
   rw [decide_eq_false (p:=n%2=0) (of_decide_eq_true h1),Bool.false_and,Bool.false_and] at this
   exact this
 rintro w1 ⟨rfl,he1,he2⟩
 rw [decide_eq_true he1,decide_eq_true he2,Bool.true_and,Bool.true_and] at hk
 have hkd:=keys_dup (l:=l.map MV.m) (by rw [hml]; exact he1)
 rw [hml] at hkd
 refine ⟨fun m i w2=>∃ ii:Nat,i=((2*ii:Nat):Int)∧2*ii≤n∧m=n-2*ii∧Ch (fun _=>False) w1 w2∧∀ i' k,k<i'→i'<ii→(l.map MV.m)[2*i']?≠(l.map MV.m)[2*k]?,⟨n,0,rfl,Nat.zero_le _,rfl,Ch.refl _ _,fun i' k _ h=>by omega⟩,?_⟩
 rintro m i w2 ⟨ii,rfl,hii,rfl,c2,hall⟩
 refine Sif_cases (fun hlt=>?_) (fun hge=>?_)
 ·have hil:2*ii<n:=by have:=of_decide_eq_true hlt; omega
  obtain ⟨x,hxi⟩:∃ x,l[2*ii]?=some x:=⟨l[2*ii]'(by omega),List.getElem?_eq_getElem _⟩
  refine ⟨fun m1 i1 w3=>∃ kk:Nat,i1=((2*kk:Nat):Int)∧kk≤ii∧m1=ii-kk∧Ch (fun _=>False) w1 w3∧∀ k,k<kk→(l.map MV.m)[2*ii]?≠(l.map MV.m)[2*k]?,⟨ii,0,rfl,Nat.zero_le _,rfl,c2,fun k h=>by omega⟩,?_⟩
  rintro m1 i1 w3 ⟨kk,rfl,hkk,rfl,c3,hall2⟩
  refine Sif_cases (fun hlt2=>?_) (fun hge2=>?_)
  ·have hkl:kk<ii:=by have:=of_decide_eq_true hlt2; omega
   obtain ⟨y,hyi⟩:∃ y,l[2*kk]?=some y:=⟨l[2*kk]'(by omega),List.getElem?_eq_getElem _⟩
   have c3d:=c3.trans' (Ch.drew w3)
   have hr:=h.ch0 c3d
   obtain ⟨bx,ox,px,_,ax⟩:=hr.at hxi
   obtain ⟨by',oy,py,_,ay⟩:=hr.at hyi
   rw [px] at py
   cases py
   refine ⟨by omega,by omega,?_⟩
   rw [px]
   simp only [nn]
   refine ⟨by omega,by omega,?_⟩
   refine ldR ax (ldR ay ?_)
   rw [vv x,vv y]
   refine rEqual_ok x y (hr.2.2.2.2 x (List.mem_of_getElem? hxi)) (hr.2.2.2.2 y (List.mem_of_getElem? hyi)) fun w4 c4=>⟨_,rfl,?_⟩
   have c14:=c3d.trans' c4
   refine Sif_cases (fun he=>?_) (fun he=>?_)
   ·have he:=of_decide_eq_true he
    have:=hk w4 c14
    rw [decide_eq_false (fun hd=>hkd.1 hd ii kk hkl hil (by rw [List.getElem?_map,List.getElem?_map,hxi,hyi,Option.map_some,Option.map_some,he]))] at this
    exact this
   ·have he:=of_decide_eq_false he
    simp only [nameI]
    refine ⟨ii-(kk+1),by omega,kk+1,by rw [wrap_id (by omega) (by omega)]; omega,hkl,rfl,c14,fun k hk2=>?_⟩
    by_cases hkq:k=kk
    ·subst hkq
     rw [List.getElem?_map,List.getElem?_map,hxi,hyi,Option.map_some,Option.map_some]
     exact fun e=>he (Option.some.inj e)
    ·exact hall2 k (by omega)
  ·have hkl:kk=ii:=by have:=of_decide_eq_false hge2; omega
   subst hkl
   simp only [nameI]
   refine ⟨n-2*(kk+1),by omega,kk+1,by rw [wrap_id (by omega) (by omega)]; omega,by omega,rfl,c3,fun i' k hk1 hk2=>?_⟩
   by_cases hq:i'=kk
   ·subst hq; exact hall2 k hk1
   ·exact hall i' k hk1 (by omega)
 ·have hil:2*ii=n:=by have:=of_decide_eq_false hge; omega
  have:=hk w2 c2
  rw [decide_eq_true (hkd.2 fun i k h1 h2=>hall i k h1 (by omega))] at this
  exact this
theorem rown_ok {Q:Nat→Prop} {x:MV} {d:Nat} (hd:d≤33) (hf:x.n<18446744073709551616) (ht:x.t.length≤2^48) {w:World} (hx:VR Q w x) {K:Value→World→Prop} (hk:∀ w',Ch (fun _=>False) w w'→K (.int .i64 (x.m.own d:Int)) w') :
 callP Tryz.prog 109 [x.v,.int .i64 (d:Int)] w K:=by
 obtain ⟨k,n,t,s,e,l⟩:=x
 apply ok_longshoreref02_own
 unfold wp_longshoreref02_own
 refine boxV (x:=.mk k n t s e l) fun w1 b1 a1 c1 z1=>?_
 refine ldK b1 ?_
 rw [vv]
 have hlen:l.length=s.n:=(hx.row).1
 refine rextra_ok (x:=.mk k n t s e l) hlen fun w2 c2=>⟨_,rfl,?_⟩
 have b2:=(c2.blk (blk_lt b1) id).trans b1
 refine ldK b2 ?_
 rw [vv]
 refine rnumber_ok (x:=.mk k n t s e l) hf fun w3 c3=>⟨_,rfl,?_⟩
 have b3:=(c3.blk (blk_lt b2) id).trans b2
 refine ldK b3 ?_
 rw [vv]
 refine rspelled_ok (x:=.mk k n t s e l) ht fun w4 c4=>⟨_,rfl,?_⟩
 have b4:=(c4.blk (blk_lt b3) id).trans b3
 have c14:=((c1.trans' c2).trans' c3).trans' c4
 have hm:(MV.mk k n t s e l).m=.mk k n t e (l.map MV.m):=MV.m_mk ..
 rw [hm] at hk ⊢
 rw [M.own_mk] at hk
 simp only [add_at,Nat.zero_add,intEq]
 refine ⟨fun w5=>w5=w4∧¬ (k<0∨25≤k)∧¬ 32<d∧¬ M.extra (.mk k n t e (l.map MV.m))=true∧¬ M.num (.mk k n t e (l.map MV.m))=false∧¬ M.txt (.mk k n t e (l.map MV.m))=false,?_,_,cellK b4 0 rfl,?_⟩
 rotate_left
 ·refine Sif_cases (fun h0=>⟨_,cellK b4 0 rfl,?_⟩) (fun h0=>?_)
  ·rw [Bool.not_eq_true'] at h0
   have h0:=of_decide_eq_false h0
   have hk:=hk w4 c14
   refine Sif_cases (fun h1=>?_) (fun h1=>?_)
   ·rw [if_pos (.inr (of_decide_eq_true h1))] at hk; exact hk
   have h1:=of_decide_eq_false h1
   rw [if_neg (by omega)] at hk
   refine Sif_cases (fun h2=>?_) (fun h2=>?_)
   ·rw [if_pos (by have:=of_decide_eq_true h2; omega)] at hk; exact hk
   have h2:¬ 32<d:=by have:=of_decide_eq_false h2; omega
   rw [if_neg h2] at hk
   refine Sif_cases (fun h3=>?_) (fun h3=>?_)
   ·rw [if_pos h3] at hk; exact hk
   have h3:¬ M.extra (.mk k n t e (l.map MV.m))=true:=by rw [h3]; decide
   rw [if_neg h3] at hk
   refine Sif_cases (fun h4=>?_) (fun h4=>?_)
   ·rw [Bool.not_eq_true'] at h4; rw [if_pos h4] at hk; exact hk
   rw [Bool.not_eq_false'] at h4
   have h4:¬ M.num (.mk k n t e (l.map MV.m))=false:=by rw [h4]; decide
   rw [if_neg h4] at hk
   refine Sif_cases (fun h5=>?_) (fun h5=>?_)
   ·rw [Bool.not_eq_true'] at h5; rw [if_pos h5] at hk; exact hk
   rw [Bool.not_eq_false'] at h5
   have h5:¬ M.txt (.mk k n t e (l.map MV.m))=false:=by rw [h5]; decide
   exact ⟨rfl,by omega,h2,h3,h4,h5⟩
  ·rw [Bool.not_eq_false'] at h0
   have hk:=hk w4 c14
   rw [if_pos (.inl (of_decide_eq_true h0))] at hk
   exact hk
 rintro w5 ⟨rfl,g0,g1,g2,g3,g4⟩
 rw [if_neg g0,if_neg g1,if_neg g2,if_neg g3,if_neg g4] at hk
 have hrow:VRow Q w5 s.p s.n l:=(hx.ch0 c14).row
 refine ⟨fun w6=>Ch (fun _=>False) w5 w6∧¬ (k=22∧mapOk (l.map MV.m)=false)∧¬ (k=23∧arrOk e (l.map MV.m)=false)∧¬ (k=24∧(l.map MV.m).length≠2),?_,_,cellK b4 0 rfl,?_⟩
 ·rintro w6 ⟨c6,f1,f2,f3⟩
  have:=hk w6 (c14.trans' c6)
  rw [if_neg f1,if_neg f2,if_neg f3] at this
  exact this
 refine Sif_cases (fun h1=>?_) (fun h1=>?_)
 ·have h1:=of_decide_eq_true h1
  refine ⟨_,_,_,cellK b4 3 rfl,?_⟩
  refine rmapped_ok hrow fun w6 c6=>⟨_,rfl,?_⟩
  refine Sif_cases (fun h2=>?_) (fun h2=>⟨c6,?_,by omega,by omega⟩)
  ·rw [Bool.not_eq_true'] at h2
   have:=hk w6 (c14.trans' c6)
   rw [if_pos ⟨h1,h2⟩] at this; exact this
  ·rw [Bool.not_eq_false'] at h2
   exact fun h=>by rw [h2] at h; cases h.2
 have h1:=of_decide_eq_false h1
 refine Sif_cases (fun h2=>?_) (fun h2=>?_)
 ·have h2:=of_decide_eq_true h2
  refine ⟨_,cellK b4 0 rfl,_,cellK b4 1 rfl,_,cellK b4 2 rfl,_,_,_,cellK b4 3 rfl,_,cellK b4 4 rfl,?_⟩
  refine rarrayed_ok (x:=.mk k n t s e l) (hx.ch0 c14) fun w6 c6=>⟨_,rfl,?_⟩
  rw [hm]
  refine Sif_cases (fun h3=>?_) (fun h3=>⟨c6,by omega,?_,by omega⟩)
  ·rw [Bool.not_eq_true'] at h3
   have:=hk w6 (c14.trans' c6)
   rw [if_neg (by omega),if_pos ⟨h2,h3⟩] at this; exact this
  ·rw [Bool.not_eq_false'] at h3
   intro h
   have:arrOk e (l.map MV.m)=true:=h3
   rw [this] at h; cases h.2
 have h2:=of_decide_eq_false h2
 refine Sif_cases (fun h3=>?_) (fun h3=>⟨Ch.refl _ _,by omega,by omega,?_⟩)
 ·have h3:=of_decide_eq_true h3
  refine ⟨_,_,_,cellK b4 3 rfl,?_⟩
  have hml:(l.map MV.m).length=s.n:=by rw [List.length_map]; exact hlen
  refine Sif_cases (fun h4=>?_) (fun h4=>⟨Ch.refl _ _,by omega,by omega,?_⟩)
  ·rw [int_bne,Bool.not_eq_true'] at h4
   have h4:¬ ((s.n:Nat):Int)=2:=of_decide_eq_false h4
   have:=hk w5 c14
   rw [if_neg (by omega),if_neg (by omega),if_pos ⟨h3,by omega⟩] at this; exact this
  ·rw [int_bne,Bool.not_eq_false'] at h4
   have h4:((s.n:Nat):Int)=2:=of_decide_eq_true h4
   omega
 ·have h3:=of_decide_eq_false h3
  omega
theorem rcheck_ok {Q:Nat→Prop}:∀ (x:MV) {d:Nat} {w:World} {K:Value→World→Prop},d≤33→x.m.fits→x.m.sz≤2^48→VR Q w x→(∀ w',Ch (fun _=>False) w w'→K (.int .i64 (x.m.check d:Int)) w') →
 callP Tryz.prog 66 [x.v,.int .i64 (d:Int)] w K:=by
 refine MV.ind fun k n t s e l ih=>?_
 intro d w K hd hf hsz hx hk
 apply ok_longshoreref02_check
 unfold wp_longshoreref02_check
 refine boxV (x:=.mk k n t s e l) fun w1 b1 a1 c1 z1=>?_
 refine ldK b1 ?_
 rw [vv]
 rw [MV.m_mk] at hf hsz
 have htl:t.length≤2^48:=by rw [M.sz_mk] at hsz; omega
 have hn64:n<18446744073709551616:=by cases hf with | mk h _=>exact h
 have hfl:∀ x∈l,x.m.fits:=fun x hx=>by
  cases hf with | mk _ h=>exact h x.m (List.mem_map.2 ⟨x,hx,rfl⟩)
 have hszl:∀ x∈l,x.m.sz≤2^48:=fun x hx=>by
  rw [M.sz_mk] at hsz
  have:=le_sum_of (List.mem_map.2 ⟨x.m,List.mem_map.2 ⟨x,hx,rfl⟩,rfl⟩:x.m.sz∈(l.map MV.m).map M.sz)
  omega
 have hcl:(MV.mk k n t s e l).m.check d=if (MV.mk k n t s e l).m.own d≠0 then (MV.mk k n t s e l).m.own d else M.checkL (d+1) (l.map MV.m):=by
  rw [MV.m_mk,M.check]
 rw [hcl] at hk
 refine rown_ok (x:=.mk k n t s e l) hd hn64 htl (hx.ch0 c1) fun w2 c2=>⟨_,rfl,?_⟩
 have b2:=(c2.blk (blk_lt b1) id).trans b1
 have c12:=c1.trans' c2
 rw [ne0]
 refine Sif_cases (fun h0=>?_) (fun h0=>?_)
 ·have:=hk w2 c12
  rw [if_pos (of_decide_eq_true h0)] at this; exact this
 have h0:(MV.mk k n t s e l).m.own d=0:=by have:=of_decide_eq_false h0; omega
 rw [if_neg (fun h=>h h0)] at hk
 have hd32:d≤32:=(own_ok h0).2.2.1
 simp only [add_at,Nat.zero_add]
 have hrow:∀ w3,Ch (fun _=>False) w w3→VRow Q w3 s.p s.n l:=fun w3 c=>(hx.row.ch0 c)
 have hl:l.length=s.n:=(hrow w (Ch.refl _ _)).1
 have hn46:s.n≤2^46:=(hrow w (Ch.refl _ _)).2.1
 refine ⟨fun m i w3=>∃ j:Nat,i=(j:Int)∧m=s.n-j∧j≤s.n∧Ch (fun _=>False) w2 w3∧M.checkL (d+1) (l.map MV.m)=M.checkL (d+1) ((l.drop j).map MV.m),⟨s.n,0,rfl,rfl,Nat.zero_le _,Ch.refl _ _,rfl⟩,?_⟩
 rintro m i w3 ⟨j,rfl,rfl,hj,c3,heq⟩
 have b3:=(c3.blk (blk_lt b2) id).trans b2
 have c13:=c12.trans' c3
 refine ⟨_,_,_,cellK b3 3 rfl,?_⟩
 refine Sif_cases (fun h=>?_) (fun h=>?_)
 ·have hjl:j<s.n:=by have:=of_decide_eq_true h; omega
  obtain ⟨y,hyi⟩:∃ y,l[j]?=some y:=⟨l[j]'(by omega),List.getElem?_eq_getElem _⟩
  have hdr:l.drop j=y::l.drop (j+1):=by
   rw [List.drop_eq_getElem_cons (by omega)]
   congr 1
   rw [List.getElem?_eq_getElem (by omega)] at hyi
   exact Option.some.inj hyi
  rw [hdr,List.map_cons,M.checkL] at heq
  obtain ⟨by',oy,py,_,ay⟩:=(hrow w3 c13).at hyi
  refine ⟨_,_,_,cellK b3 3 rfl,by omega,by show (j:Int)<((s.n:Nat):Int); omega,?_⟩
  have py:s.p=some ⟨by',oy,none⟩:=py
  simp only [py,nn]
  have hym:=List.mem_of_getElem? hyi
  have L:=ldR (K:=fun n1 n2 s2 p2 n3 c3' n4=>callP Tryz.prog 66 [.agg (Array.mk [.int .i64 n1,.int .u64 n2,.string s2,.slice p2 n3 c3',.int .i64 n4]),.int .i64 (IntKind.wrap .i64 ((d:Int)+1))] w3 fun v1 w4=>∃ n12:Int,v1=.int .i64 n12∧Sif (n12 != 0) (K (.int .i64 n12) w4) (nameI (IntKind.wrap .i64 ((j:Int)+1)) fun n13=>∃ m',m'<s.n-j∧∃ j:Nat,n13=(j:Int)∧m'=s.n-j∧j≤s.n∧Ch (fun _=>False) w2 w4∧M.checkL (d+1) (l.map MV.m)=M.checkL (d+1) ((l.drop j).map MV.m))) ay (by
   rw [vv y,wrap_id (n:=(d:Int)+1) (by omega) (by omega)]
   refine ih y hym (d:=d+1) (by omega) (hfl y hym) (hszl y hym) ((hrow w3 c13).2.2.2.2 y hym) fun w4 c4=>⟨_,rfl,?_⟩
   rw [ne0]
   refine Sif_cases (fun h1=>?_) (fun h1=>?_)
   ·have h1:=of_decide_eq_true h1
    rw [if_pos h1] at heq
    have:=hk w4 (c13.trans' c4)
    rw [heq] at this; exact this
   ·have h1:=of_decide_eq_false h1
    rw [if_neg h1] at heq
    simp only [nameI]
    exact ⟨s.n-(j+1),by omega,j+1,by rw [wrap_id (by omega) (by omega)]; omega,rfl,by omega,c3.trans' c4,heq⟩)
  simp only [add_at,Int.toNat_natCast] at L ⊢
  exact L
 ·have hjl:j=s.n:=by have:¬ ((j:Int)<((s.n:Nat):Int)):=of_decide_eq_false h; omega
  rw [List.drop_of_length_le (by omega)] at heq
  have:=hk w3 c13
  rw [heq] at this
  exact this
theorem rCheck_ok {Q:Nat→Prop} {x:MV} {w:World} {K:Value→World→Prop} (hf:x.m.fits) (hsz:x.m.sz≤2^48) (hx:VR Q w x) (hk:∀ w',Ch (fun _=>False) w w'→K (.int .i64 (x.m.check 1:Int)) w') :
 callP Tryz.prog 37 [x.v] w K:=by
 obtain ⟨k,n,t,s,e,l⟩:=x
 apply ok_longshoreref02_Check
 unfold wp_longshoreref02_Check
 refine boxV (x:=.mk k n t s e l) fun w1 b1 a1 c1 z1=>?_
 refine ldK b1 ?_
 rw [vv]
 exact rcheck_ok _ (d:=1) (by decide) hf hsz (hx.ch0 c1) fun w2 c2=>⟨_,rfl,hk w2 (c1.trans' c2)⟩
theorem rPrint_ok {Q:Nat→Prop} {w:World} {x:MV} (hx:VR Q w x) (hf:x.m.fits) (hz:x.m.sz≤2^37) {K:Value→World→Prop}
 (hk:∀ w',Ch (fun _=>False) w w'→K (.tuple #[.string ⟨(PrR x.m).1.toArray⟩,.int .i64 ((PrR x.m).2:Int)]) w') :
 callP Tryz.prog 17 [x.v] w K:=by
 obtain ⟨k,n,t,s,e,l⟩:=x
 apply ok_longshoreref04_Print
 unfold wp_longshoreref04_Print
 refine boxV (x:=.mk k n t s e l) fun w1 b1 a1 c1 z1=>?_
 refine ldK b1 ?_
 rw [vv]
 refine rCheck_ok hf (by omega) (hx.ch0 c1) fun w2 c2=>⟨_,rfl,?_⟩
 have b2:=(c2.blk (blk_lt b1) id).trans b1
 have c12:=c1.trans' c2
 rw [ne0]
 refine Sif_cases (fun h0=>?_) (fun h0=>?_)
 ·have:=hk w2 c12
  unfold PrR at this
  rw [if_pos (of_decide_eq_true h0)] at this; exact this
 have h0:(MV.mk k n t s e l).m.check 1=0:=by have:=of_decide_eq_false h0; omega
 refine ldK b2 ?_
 rw [vv]
 refine rText_ok (hx.ch0 c12) hf hz h0 fun w3 c3=>⟨_,rfl,?_⟩
 have c13:=c12.trans' c3
 have hk:=hk w3 c13
 unfold PrR at hk
 rw [if_neg (fun h=>h h0)] at hk
 rw [str_size]
 refine Sif_cases (fun h1=>?_) (fun h1=>?_)
 ·rw [if_pos (by have:=of_decide_eq_true h1; omega)] at hk; exact hk
 ·rw [if_neg (by have:=of_decide_eq_false h1; omega)] at hk; exact hk
end Go.Proofs.YtnacobknngidkaaGreatDoor
namespace Go.Proofs.YtnacobknngidkaaGreatDoor
open Go Go.Sv Go.Note
set_option linter.unusedVariables false
attribute [local irreducible] Sif
set_option maxRecDepth 4000
def AsOK (y:MV):Prop:=∀ {Q:Nat→Prop} {x:MV} {w:World} {K:Value→World→Prop},LV w y→VR Q w x→y.m=x.m→(∀ b∈y.B,¬ Q b)→(∀ w',Ch (·∈y.B) w w'→K (.bool true) w')→callP Tryz.prog 18 [y.v,x.v] w K
theorem asLentAll_ok {R l:List MV} (ih:∀ y∈R,AsOK y) {Q:Nat→Prop} {w:World} {p:Option Addr} {n c b:Nat} (hb:blk w b=some ((R++marks n).flatMap MV.g)) (hRl:R.length=n) (hL:∀ y∈R,LV w y) (hnd:(b::R.flatMap MV.B).Nodup) (hr:VRow Q w p n l) (hm:R.map MV.m=l.map MV.m) (hQ:∀ k∈b::R.flatMap MV.B,¬ Q k) (hn:n≤2^40)
 {K:Value→World→Prop} (hk:∀ w',Ch (·∈b::R.flatMap MV.B) w w'→K (.bool true) w') :
 callP Tryz.prog 39 [.slice (some ⟨b,0,none⟩) n (n+3),.slice p n c] w K:=by
 apply ok_longshoreref02_AsLentAll
 unfold wp_longshoreref02_AsLentAll
 have hln:=hr.1
 rw [int_bne,decide_eq_true rfl]
 refine Sif_false ?_
 rw [show IntKind.wrap .i64 ((n:Int)+3)=((n+3:Nat):Int) by rw [wrap_id (by omega) (by omega)]; omega,Int.toNat_natCast]
 refine ⟨by omega,by omega,?_⟩
 have hC:(R++marks n).length=n+3:=by rw [List.length_append,hRl]; rfl
 refine ⟨fun m ok i w1=>∃ (ii:Nat) (C:List MV),i=(ii:Int)∧ok=true∧ii≤n+3∧m=n+3-ii∧blk w1 b=some (C.flatMap MV.g)∧C.length=n+3∧C.drop ii=(R++marks n).drop ii∧Ch (fun k=>k=b∨k∈(R.take ii).flatMap MV.B) w w1,⟨n+3,0,R++marks n,rfl,rfl,Nat.zero_le _,rfl,hb,hC,rfl,Ch.refl _ _⟩,?_⟩
 rintro m ok i w1 ⟨ii,C,rfl,rfl,hii,rfl,b1,hCl,hCd,c1⟩
 have hsub:∀ {w':World},Ch (fun k=>k=b∨k∈(R.take ii).flatMap MV.B) w w'→Ch (·∈b::R.flatMap MV.B) w w':=fun c=>c.mono fun k _ h=>by
  rcases h with h | h
  ·subst h; exact List.mem_cons_self ..
  ·obtain ⟨y,hy,hk⟩:=List.mem_flatMap.1 h
   exact List.mem_cons_of_mem _ (List.mem_flatMap.2 ⟨y,List.mem_of_mem_take hy,hk⟩)
 refine Sif_cases (fun hlt=>?_) (fun hge=>?_)
 ·have hil:ii<n+3:=by have:=of_decide_eq_true hlt; omega
  obtain ⟨z,hzi⟩:∃ z,C[ii]?=some z:=⟨C[ii]'(by omega),List.getElem?_eq_getElem _⟩
  have hzC:(R++marks n)[ii]?=some z:=by
   have:=congrArg (fun l=>l[0]?) hCd
   simp only [List.getElem?_drop,Nat.add_zero] at this
   rw [← this,hzi]
  have az:=at_row b1 hzi
  refine ⟨fun b1' w2=>b1'=true∧∃ C':List MV,blk w2 b=some (C'.flatMap MV.g)∧C'.length=n+3∧C'.drop (ii+1)=(R++marks n).drop (ii+1)∧Ch (fun k=>k=b∨k∈(R.take (ii+1)).flatMap MV.B) w w2,?_,?_⟩
  ·rintro b1' w2 ⟨rfl,C',q1,q2,q3,q4⟩
   simp only [nameI]
   exact ⟨n+3-(ii+1),by omega,ii+1,C',by rw [wrap_id (by omega) (by omega)]; omega,by trivial,hil,rfl,q1,q2,q3,q4⟩
  refine ⟨fun b1' w2=>w2=w1∧(n≤ii→b1'=true),?_,by omega,by omega,?_⟩
  rotate_left
  ·simp only [nn,add_at,Int.toNat_natCast]
   refine ⟨_,az.k0,?_⟩
   refine Sif_cases (fun h=>⟨by omega,by omega,_,az.n1,by trivial,fun hni=>?_⟩) (fun h=>⟨by trivial,fun hni=>?_⟩)
   ·rw [w64 (n:=ii) (by omega) (by omega)]
    rw [List.getElem?_append_right (by omega),hRl] at hzC
    have:ii-n=0∨ii-n=1∨ii-n=2:=by omega
    rcases this with e | e | e
    ·rw [e] at hzC
     have:mk7 n=z:=Option.some.inj hzC
     rw [← this,show ii=n by omega]; exact beq_self_eq_true _
    ·rw [e] at hzC
     have:mk7 (n+1)=z:=Option.some.inj hzC
     rw [← this,show ii=n+1 by omega]; exact beq_self_eq_true _
    ·rw [e] at hzC
     have:mk7 (n+2)=z:=Option.some.inj hzC
     rw [← this,show ii=n+2 by omega]; exact beq_self_eq_true _
   ·rw [List.getElem?_append_right (by omega),hRl] at hzC
    have hzk:z.k=-7:=by
     have:ii-n=0∨ii-n=1∨ii-n=2:=by omega
     rcases this with e | e | e
     ·rw [e] at hzC; rw [← (Option.some.inj hzC:mk7 n=z)]; rfl
     ·rw [e] at hzC; rw [← (Option.some.inj hzC:mk7 (n+1)=z)]; rfl
     ·rw [e] at hzC; rw [← (Option.some.inj hzC:mk7 (n+2)=z)]; rfl
    rw [hzk] at h
    exact absurd h (by decide)
  rintro b1' w2 ⟨rfl,hb1'⟩
  refine ⟨fun b2 w3=>b2=true∧blk w3 b=some (C.flatMap MV.g)∧Ch (fun k=>k=b∨k∈(R.take (ii+1)).flatMap MV.B) w w3,?_,?_⟩
  ·rintro b2 w3 ⟨rfl,b3,c3⟩
   refine ⟨fun b3' w4=>b3'=true∧w4=w3,?_,Sif_true ⟨rfl,rfl⟩⟩
   rintro b3' w4 ⟨rfl,rfl⟩
   refine ⟨by omega,by omega,?_⟩
   simp only [nn]
   refine st5e (x:=mk8) b3 (by omega) fun w5 b5 c5 z5=>⟨by trivial,C.set ii mk8,b5,by rw [List.length_set,hCl],?_,c3.trans' (c5.mono fun k _ h=>.inl h)⟩
   rw [List.drop_set_of_lt (by omega)]
   have:=congrArg (fun l=>l.drop 1) hCd
   simpa only [List.drop_drop] using this
  ·refine Sif_cases (fun hlt2=>?_) (fun hge2=>?_)
   ·have hjl:ii<n:=by have:=of_decide_eq_true hlt2; omega
    rw [List.getElem?_append_left (by omega)] at hzC
    have hzm:=List.mem_of_getElem? hzC
    obtain ⟨x,hxi⟩:∃ x,l[ii]?=some x:=⟨l[ii]'(by omega),List.getElem?_eq_getElem _⟩
    have hxm:=List.mem_of_getElem? hxi
    have c1d:=c1.trans' ((Ch.drew (S:=fun k=>k=b∨k∈(R.take ii).flatMap MV.B)) w2)
    have hr1:VRow Q w2.drew p n l:=hr.ch c1d fun k2 hk2 h=>by
     rcases h with h | h
     ·rw [h] at hk2; exact hQ _ (List.mem_cons_self ..) hk2
     ·obtain ⟨y,hy,hk'⟩:=List.mem_flatMap.1 h
      exact hQ k2 (List.mem_cons_of_mem _ (List.mem_flatMap.2 ⟨y,List.mem_of_mem_take hy,hk'⟩)) hk2
    obtain ⟨bx,ox,px,_,ax⟩:=hr1.at hxi
    have az':At w2.drew b (0+ii*5) z:=az
    refine ⟨by omega,by omega,?_⟩
    simp only [nn]
    refine ⟨by omega,by omega,?_⟩
    rw [px]
    simp only
    refine ldR az' (ldR ax ?_)
    rw [vv z,vv x]
    have hzB:∀ k∈z.B,¬ (k=b∨k∈(R.take ii).flatMap MV.B):=fun k2 hk2 h=>by
     have hsp:R=R.take ii++z::R.drop (ii+1):=by
      have hi:=(List.getElem?_eq_some_iff.1 hzC).1
      have e:R[ii]=z:=by rw [List.getElem?_eq_getElem hi] at hzC; exact Option.some.inj hzC
      rw [← e,← List.drop_eq_getElem_cons hi,List.take_append_drop]
     rcases h with h | h
     ·rw [h] at hk2
      exact (List.nodup_cons.1 hnd).1 (List.mem_flatMap.2 ⟨z,hzm,hk2⟩)
     ·have:=(List.nodup_cons.1 hnd).2
      rw [hsp,List.flatMap_append,List.flatMap_cons] at this
      exact (List.nodup_append.1 this).2.2 k2 h k2 (List.mem_append.2 (.inl hk2)) rfl
    have hzx:z.m=x.m:=by
     have:=congrArg (fun l=>l[ii]?) hm
     simp only [List.getElem?_map,hzC,hxi,Option.map_some] at this
     exact Option.some.inj this
    refine ih z hzm (LV.ch c1d z (hL z hzm) hzB) (hr1.2.2.2.2 x hxm) hzx (fun k hk=>hQ k (List.mem_cons_of_mem _ (List.mem_flatMap.2 ⟨z,hzm,hk⟩))) fun w4 c4=>⟨_,rfl,rfl,?_,?_⟩
    ·refine (c4.blk (show b<w2.drew.heap.size from blk_lt b1) fun h=>?_).trans b1
     exact (List.nodup_cons.1 hnd).1 (List.mem_flatMap.2 ⟨z,hzm,h⟩)
    ·have htk:R.take (ii+1)=R.take ii++[z]:=by rw [List.take_add_one,hzC]; rfl
     rw [htk]
     refine (c1d.mono fun k _ h=>?_).trans' (c4.mono fun k _ h=>?_)
     ·rcases h with h | h
      ·exact .inl h
      ·right; rw [List.flatMap_append]; exact List.mem_append.2 (.inl h)
     ·right; rw [List.flatMap_append,List.flatMap_singleton]; exact List.mem_append.2 (.inr h)
   ·have hjl:n≤ii:=by have:=of_decide_eq_false hge2; omega
    refine ⟨hb1' hjl,b1,?_⟩
    rw [List.take_of_length_le (by omega)] at c1 ⊢
    exact c1
 ·exact hk w1 (hsub c1)
theorem AsLent_ok:∀ y:MV,AsOK y:=by
 refine MV.ind fun k n t s e R ih=>?_
 rintro Q ⟨k',n',t',s',e',l⟩ w K hy hx hm hQ hk
 rw [MV.m_mk,MV.m_mk] at hm
 injection hm with m1 m2 m3 m4 m5
 subst m1 m2 m3 m4
 obtain ⟨b,h1,h2,h3,h4,h5,h6,h7,h8⟩:=hy.inv
 have h1:s.p=some ⟨b,0,none⟩:=h1
 have h2:s.own=some b:=h2
 have h3:R.length=s.n:=h3
 have h4:s.c=s.n+3:=h4
 have h5:s.n≤2^40:=h5
 have h6:blk w b=some ((R++marks s.n).flatMap MV.g):=h6
 have h7:∀ y∈R,LV w y:=h7
 have h8:(b::R.flatMap MV.B).Nodup:=h8
 have hB:(MV.mk k n t s e R).B=b::R.flatMap MV.B:=by rw [MV.B_mk,h2]; rfl
 rw [hB] at hQ hk
 apply ok_longshoreref02_AsLent
 unfold wp_longshoreref02_AsLent
 refine boxV (x:=.mk k n t s e R) fun w1 b1 a1 c1 z1=>boxV (x:=.mk k n t s' e l) fun w2 b2 a2 c2 z2=>?_
 have b12:=(c2.blk (blk_lt b1) id).trans b1
 have c12:=c1.trans' c2
 simp only [add_at,Nat.zero_add]
 refine ⟨fun q w3=>q=true∧w3=w2,?_,?_⟩
 rotate_left
 ·refine ⟨_,cellK b12 0 rfl,_,cellK b2 0 rfl,?_⟩
  rw [beq_self_eq_true]
  refine Sif_true ⟨_,cellK b12 1 rfl,_,cellK b2 1 rfl,?_⟩
  rw [beq_self_eq_true]
  refine Sif_true ⟨_,cellK b12 2 rfl,_,cellK b2 2 rfl,?_⟩
  rw [beq_self_eq_true]
  refine Sif_true ⟨_,cellK b12 4 rfl,_,cellK b2 4 rfl,?_⟩
  rw [beq_self_eq_true]
  exact ⟨rfl,rfl⟩
 rintro q w3 ⟨rfl,rfl⟩
 refine ⟨_,_,_,cellK b12 3 rfl,_,_,_,cellK b2 3 rfl,?_⟩
 have hrow:VRow Q w3 s'.p s'.n l:=(hx.ch0 c12).row
 have hn':s'.n=s.n:=by
  have:=congrArg List.length m5
  rw [List.length_map,List.length_map] at this
  have:=hrow.1
  omega
 rw [h1,h4,hn']
 rw [hn'] at hrow
 refine asLentAll_ok (R:=R) (l:=l) ih ((c12.blk (blk_lt h6) id).trans h6) h3 (fun y hy=>LV.ch c12 y (h7 y hy) fun _ _ h=>h) h8 hrow m5 hQ h5 fun w4 c4=>⟨_,rfl,Sif_true ?_⟩
 exact hk w4 ((c12.mono fun _ _ h=>h.elim).trans' c4)
theorem prints_law {Q:Nat→Prop} {w:World} {x:MV} (hL:LW w) (hx:VR Q w x) (hf:x.m.fits) (hz:x.m.sz≤2^37) {K:Value→World→Prop} (hk:∀ w',Ch (fun _=>False) w w'→K (.bool true) w') :
 callP Tryz.prog 4 [x.v] w K:=by
 have hxl:=hx.lt x
 obtain ⟨k,n,t,s,e,l⟩:=x
 apply ok_longshorelaw04_NotePrints
 unfold wp_longshorelaw04_NotePrints
 refine boxV (x:=.mk k n t s e l) fun w1 b1 a1 c1 z1=>?_
 refine ldK b1 ?_
 rw [vv]
 have hsw:=sz_wt' (MV.mk k n t s e l).m
 refine Great_ok (hx.ch0 c1) (by omega) fun w2 c2=>⟨_,rfl,?_⟩
 have c12:=c1.trans' c2
 refine Sif_cases (fun h=>hk w2 c12) (fun h=>?_)
 refine live_ok (hL.ch0 c12) fun w3 c3=>⟨_,rfl,?_⟩
 have c13:=c12.trans' c3
 have b13:=((c2.trans' c3).blk (blk_lt b1) id).trans b1
 refine ldK b13 ?_
 rw [vv]
 refine Lent_ok _ (hxl.ch0 c13) (by omega) fun w4 y hym hy hyB c4=>?_
 have b14:=(c4.blk (blk_lt b13) id).trans b13
 have c14:=c13.trans' c4
 rw [show y.v=Value.agg (Array.mk [.int .i64 y.k,.int .u64 (y.n:Int),.string ⟨y.t.toArray⟩,.slice y.s.p y.s.n y.s.c,.int .i64 y.e]) from (vv y).symm]
 refine ⟨_,_,_,_,_,_,_,rfl,?_⟩
 refine nbx rfl fun w5 b5 c5 z5=>?_
 have b15:=(c5.blk (blk_lt b14) id).trans b14
 have c15:=c14.trans' c5
 refine ldK b5 ?_
 rw [vv]
 have hyv:=LV.vr y (LV.ch c5 y hy fun _ _ h=>h) (·∈y.B) fun _ h=>h
 refine print_ok (hL.ch0 c15) hyv (by rw [hym]; exact hf) (by rw [hym]; exact hz) fun w6 c6=>⟨_,_,rfl,?_⟩
 have b16:=(c6.blk (blk_lt b15) id).trans b15
 have b56:=(c6.blk (blk_lt b5) id).trans b5
 have c16:=c15.trans' c6
 refine ldK b16 ?_
 rw [vv]
 refine rPrint_ok (hx.ch0 c16) hf hz fun w7 c7=>⟨_,_,rfl,?_⟩
 have b17:=(c7.blk (blk_lt b16) id).trans b16
 have b57:=(c7.blk (blk_lt b56) id).trans b56
 have c17:=c16.trans' c7
 have c57:=c6.trans' c7
 refine ldK b57 (ldK b17 ?_)
 rw [vv,vv]
 have hs3:=c13.size
 refine AsLent_ok y (LV.ch c57 y (LV.ch c5 y hy fun _ _ h=>h) fun _ _ h=>h) (hxl.ch0 c17) hym (fun k' hk' h=>by have:=hyB k' hk'; omega) fun w8 c8=>⟨_,rfl,?_⟩
 rw [hym]
 rw [beq_self_eq_true,beq_self_eq_true]
 refine Sif_true (Sif_true (Sif_true (hk w8 ?_)))
 refine c17.trans c8 fun k' hk' h=>?_
 have:=hyB k' h
 omega
end Go.Proofs.YtnacobknngidkaaGreatDoor
namespace Go.Sv
open Go Go.ChangeShapes Go.WideShapes Go.ChangeAt Go.RowKit
set_option linter.unusedVariables false
def Inp (P:Program) (w:World) (ok:Nat→Nat→Prop):Nat→TypeId→List Value→Prop
 | 0,_,_=>False
 | n+1,t,cs =>
  match P.underlying t with
  | some .bool=>∃ b:Bool,cs=[.bool b]
  | some (.int k)=>∃ i:Int,cs=[.int k i]∧(Lit.int k i).wf=true
  | some .string=>∃ s:ByteArray,cs=[.string s]∧ok s.size 1
  | some (.slice e)=>∃ (p:Option Addr) (L:List (List Value)) (c:Nat),cs=[.slice p L.length c]∧L.length≤c∧ok c (P.bytesOf e)∧Rd w p L.length (P.cellsOf e) L.flatten∧∀ x∈L,Inp P w ok n e x
  | some (.struct fs)=>cs.length=P.cellsOf t∧∀ f∈fs.toList,Inp P w ok n f.type ((cs.drop f.offset).take (P.cellsOf f.type))
  | _=>True
section
variable {P:Program} {w:World} {ok:Nat→Nat→Prop} {n:Nat} {t:TypeId} {cs:List Value}
theorem Inp.bool (h:Inp P w ok n t cs) (ht:P.underlying t=some .bool):∃ b:Bool,cs=[.bool b]:=by
 cases n with
 | zero=>exact h.elim
 | succ n=>unfold Inp at h; rw [ht] at h; exact h
theorem Inp.int {k:IntKind} (h:Inp P w ok n t cs) (ht:P.underlying t=some (.int k)):∃ i:Int,cs=[.int k i]∧(Lit.int k i).wf=true:=by
 cases n with
 | zero=>exact h.elim
 | succ n=>unfold Inp at h; rw [ht] at h; exact h
theorem Inp.str (h:Inp P w ok n t cs) (ht:P.underlying t=some .string):∃ s:ByteArray,cs=[.string s]∧ok s.size 1:=by
 cases n with
 | zero=>exact h.elim
 | succ n=>unfold Inp at h; rw [ht] at h; exact h
theorem Inp.slice {e:TypeId} (h:Inp P w ok n t cs) (ht:P.underlying t=some (.slice e)) :
 ∃ (p:Option Addr) (L:List (List Value)) (c:Nat),cs=[.slice p L.length c]∧L.length≤c∧ok c (P.bytesOf e)∧Rd w p L.length (P.cellsOf e) L.flatten∧∀ x∈L,∃ n,Inp P w ok n e x:=by
 cases n with
 | zero=>exact h.elim
 | succ n =>
  unfold Inp at h; rw [ht] at h
  obtain ⟨p,L,c,h1,h2,h3,h4,h5⟩:=h
  exact ⟨p,L,c,h1,h2,h3,h4,fun x hx=>⟨n,h5 x hx⟩⟩
theorem Inp.struct {fs:Array Field} (h:Inp P w ok n t cs) (ht:P.underlying t=some (.struct fs)):cs.length=P.cellsOf t∧∀ f∈fs.toList,∃ n,Inp P w ok n f.type ((cs.drop f.offset).take (P.cellsOf f.type)):=by
 cases n with
 | zero=>exact h.elim
 | succ n =>
  unfold Inp at h; rw [ht] at h
  exact ⟨h.1,fun f hf=>⟨n,h.2 f hf⟩⟩
end
def oneCells (P:Program):Nat→List Field→Bool
 | _,[]=>true
 | i,f::r=>f.offset == i && P.cellsOf f.type == 1 && oneCells P (i+1) r
def InpEach (P:Program) (w:World) (ok:Nat→Nat→Prop):List TypeId→List Value→Prop
 | [],[]=>True
 | t::ts,c::cs=>(∃ n,Inp P w ok n t [c])∧InpEach P w ok ts cs
 | _,_=>False
theorem Inp.fields {P:Program} {w:World} {ok:Nat→Nat→Prop} {n:Nat} {t:TypeId} {cs:List Value} {fs:Array Field} (h:Inp P w ok n t cs) (ht:P.underlying t=some (.struct fs)) (hone:oneCells P 0 fs.toList=true)
 (hn:P.cellsOf t=fs.toList.length):InpEach P w ok (fs.toList.map (·.type)) cs:=by
 obtain ⟨h1,h2⟩:=h.struct ht
 have go:∀ (l:List Field) (i:Nat),oneCells P i l=true→cs.length=i+l.length→(∀ f∈l,∃ n,Inp P w ok n f.type ((cs.drop f.offset).take (P.cellsOf f.type)))→InpEach P w ok (l.map (·.type)) (cs.drop i):=by
  intro l
  induction l with
  | nil=>intro i _ hl _; rw [List.drop_of_length_le (by simp at hl; omega)]; trivial
  | cons f r ih =>
   intro i ho hl hi
   simp only [oneCells,Bool.and_eq_true,beq_iff_eq] at ho
   obtain ⟨⟨h3,h4⟩,h5⟩:=ho
   simp only [List.length_cons] at hl
   have h6:=hi f (List.mem_cons_self ..)
   rw [h3,h4,List.drop_eq_getElem_cons (by omega)] at h6
   rw [List.drop_eq_getElem_cons (by omega)]
   exact ⟨h6,ih (i+1) h5 (by omega) fun g hg=>hi g (List.mem_cons_of_mem _ hg)⟩
 exact go fs.toList 0 hone (by omega) h2
theorem cell_at {w:World} {b j:Nat} {v:Value} (h:w.cell? ⟨b,j,none⟩=some v):∃ cs,cellsAt w b=some cs∧cs[j]?=some v:=by
 unfold World.cell? at h
 unfold cellsAt
 simp only at h
 split at h
 ·rename_i c t fz hh
  exact ⟨c.toList,by rw [hh],by simpa using h⟩
 ·cases h
theorem rd_of_cells {w:World} {a:Addr} {n sz:Nat} {xs:List Value} (hl:xs.length=n*sz) (hc:∀ i,i<n*sz→w.cell? (a.add i)=xs[i]?):Rd w (some a) n sz xs:=by
 refine ⟨hl,?_⟩
 by_cases h0:n*sz=0
 ·exact .inl h0
 ·have h1:=hc 0 (by omega)
  rw [List.getElem?_eq_getElem (by omega)] at h1
  have hs:=World.cell?_spot h1
  obtain ⟨b,o,sp⟩:=a
  have hsp:sp=none:=by
   unfold Addr.add at hs
   split at hs<;>simp_all
  subst hsp
  simp only [add_at] at hc h1
  obtain ⟨cs,hcs,_⟩:=cell_at h1
  right
  have hat:∀ i,i<n*sz→cs[o+i]?=xs[i]?:=fun i hi=>by
   rw [← cell_of hcs,hc i hi]
  have hlast:=hat (n*sz-1) (by omega)
  rw [List.getElem?_eq_getElem (by omega:n*sz-1<xs.length)] at hlast
  have hlt:=(List.getElem?_eq_some_iff.1 hlast).1
  refine ⟨b,o,cs,rfl,hcs,by omega,?_⟩
  apply List.ext_getElem?
  intro i
  rw [List.getElem?_take]
  split
  ·rename_i hi; rw [List.getElem?_drop,hat i hi]
  ·rw [List.getElem?_eq_none (by omega)]
section
variable {H:Type} {enc:TypeId × Value→H} {P:Program} {w:World}
theorem flatten_get {sz:Nat} (L:List (List Value)) (h:∀ x∈L,x.length=sz) (i j:Nat) (hj:j<sz):L.flatten[i*sz+j]?=L[i]?.bind fun x=>x[j]?:=by
 induction L generalizing i with
 | nil=>simp
 | cons x L ih =>
  have hx:x.length=sz:=h x (by simp)
  rw [List.flatten_cons]
  cases i with
  | zero=>rw [Nat.zero_mul,Nat.zero_add,List.getElem?_append_left (by omega)]; simp
  | succ i =>
   rw [List.getElem?_append_right (by rw [hx,Nat.add_mul]; omega),hx,show (i+1)*sz+j-sz=i*sz+j by rw [Nat.add_mul]; omega,ih (fun y hy=>h y (by simp [hy])) i]; simp
theorem flatten_len {sz:Nat} (L:List (List Value)) (h:∀ x∈L,x.length=sz):L.flatten.length=L.length*sz:=by
 induction L with
 | nil=>simp
 | cons x L ih=>rw [List.flatten_cons,List.length_append,h x (by simp),ih fun y hy=>h y (by simp [hy]),List.length_cons,Nat.add_mul]; omega
structure Measure (P:Program) (H:Type) where
 ok:Nat→Nat→Prop
 good:TypeId→DataW H→Prop
 str:∀ {t:TypeId} {l:List UInt8},good t (.lit (.string l))→ok l.length 1
 nil:∀ e,ok 0 (P.bytesOf e)
 slice:∀ {t e:TypeId} {a b:List (DataW H)},P.underlying t=some (.slice e)→good t (.slice a b)→ok (a.length+b.length) (P.bytesOf e)∧∀ d∈a,good e d
 agg:∀ {t:TypeId} {fs:Array Field} {l:List (DataW H)},P.underlying t=some (.struct fs)→good t (.agg l)→∀ (j:Nat) (f:Field) (d:DataW H),fs[j]?=some f→l[j]?=some d→good f.type d
theorem inp_of_trod (M:Measure P H) (base:Nat):∀ (fuel:Nat) (t:TypeId) (cs:List Value) (x:DataW H × List MemPlace),DataW.trod enc P w base (fun _=>true) true fuel t cs=some x→M.good t x.1→∃ n,Inp P w M.ok n t cs:=by
 have mono:∀ (a b:Nat) (t:TypeId) (cs:List Value),a≤b→Inp P w M.ok a t cs→Inp P w M.ok b t cs:=by
  intro a
  induction a with
  | zero=>intro b t cs _ h; exact h.elim
  | succ a ih =>
   intro b t cs hab h
   obtain ⟨b,rfl⟩:∃ c,b=c+1:=⟨b-1,by omega⟩
   unfold Inp at h ⊢
   split at h
   ·exact h
   ·exact h
   ·exact h
   ·obtain ⟨p,L,c,h1,h2,h3,h4,h5⟩:=h
    exact ⟨p,L,c,h1,h2,h3,h4,fun x hx=>ih b _ _ (by omega) (h5 x hx)⟩
   ·exact ⟨h.1,fun f hf=>ih b _ _ (by omega) (h.2 f hf)⟩
   ·trivial
 intro fuel
 induction fuel with
 | zero=>intro t cs x h; simp [DataW.trod] at h
 | succ fuel ih =>
  intro t cs x h hg
  cases ht:P.underlying t with
  | none=>exact ⟨1,by unfold Inp; rw [ht]; trivial⟩
  | some td =>
   cases td with
   | bool =>
    obtain ⟨b,rfl,_⟩:=DataW.trod_bool ht h
    exact ⟨1,by unfold Inp; rw [ht]; exact ⟨b,rfl⟩⟩
   | int k =>
    obtain ⟨i,rfl,_,hw⟩:=DataW.trod_int ht h
    exact ⟨1,by unfold Inp; rw [ht]; exact ⟨i,rfl,hw⟩⟩
   | string =>
    obtain ⟨s,rfl,rfl,_⟩:=DataW.trod_string ht h
    exact ⟨1,by unfold Inp; rw [ht]; exact ⟨s,rfl,by simpa using M.str hg⟩⟩
   | slice e =>
    rcases DataW.trod_slice ht h with ⟨rfl,_⟩ | ⟨a,len,cap,elems,rest,m,hm,rfl,rfl,hb,hl,hmx,hlen,hel,hsp,hns⟩
    ·exact ⟨1,by unfold Inp; rw [ht]; exact ⟨none,[],0,rfl,Nat.le_refl _,M.nil e,⟨by simp,.inl (by simp)⟩,by simp⟩⟩
    ·obtain ⟨hk,hge⟩:=M.slice ht hg
     obtain rfl:fuel=m:=by omega
     have hrest:=(hsp rfl).1
     have hcap:elems.length+rest.length=cap:=by omega
     have each:∀ i,i<len→∃ cs',w.cells? base (a.add (i*P.cellsOf e)) (P.cellsOf e)=some cs'∧∃ n,Inp P w M.ok n e cs':=fun i hi=>by
      have h1:=hel i hi
      have h2:elems[i]?=some (elems[i]'(by omega)):=List.getElem?_eq_getElem (by omega)
      rw [h2] at h1
      cases hc:w.cells? base (a.add (i*P.cellsOf e)) (P.cellsOf e) with
      | none=>rw [hc] at h1; cases h1
      | some cs' =>
       rw [hc] at h1
       exact ⟨cs',rfl,ih e cs' _ h1 (hge _ (List.mem_map.2 ⟨_,List.mem_of_getElem? h2,rfl⟩))⟩
     obtain ⟨F,hF⟩:=Deep.choose_lt each
     obtain ⟨N,hN⟩:=Deep.fuel_lt (n:=len) (q:=fun i n=>Inp P w M.ok n e (F i)) (fun i a b hab h=>mono a b _ _ hab h) (fun i hi=>(hF i hi).2)
     have hFl:∀ x∈(List.range len).map F,x.length=P.cellsOf e:=fun x hx=>by
      obtain ⟨i,hi,rfl⟩:=List.mem_map.1 hx
      exact (World.cells?_some (hF i (List.mem_range.1 hi)).1).2.1
     have hlen':((List.range len).map F).length=len:=by simp
     refine ⟨N+1,?_⟩
     unfold Inp
     rw [ht]
     refine ⟨some a,(List.range len).map F,cap,by rw [hlen'],by rw [hlen']; exact hl,by simpa [hcap] using hk,?_,fun x hx=>?_⟩
     ·rw [hlen']
      have hll:((List.range len).map F).flatten.length=len*P.cellsOf e:=by
       rw [flatten_len _ hFl,hlen']
      refine rd_of_cells hll fun i hi=>?_
      have hsz:0<P.cellsOf e:=Nat.pos_of_ne_zero fun h0=>by rw [h0] at hi; simp at hi
      have hdm:=Nat.div_add_mod i (P.cellsOf e)
      have hil:i / P.cellsOf e<len:=by rw [Nat.div_lt_iff_lt_mul hsz]; exact hi
      have hj:=Nat.mod_lt i hsz
      have h3:=(World.cells?_some (hF _ hil).1).2.2 (i%P.cellsOf e) hj
      rw [Deep.add_add,Nat.mul_comm,hdm] at h3
      rw [h3]
      have h4:=flatten_get _ hFl (i / P.cellsOf e) (i%P.cellsOf e) hj
      rw [Nat.mul_comm,hdm] at h4
      rw [h4,List.getElem?_map,List.getElem?_range hil]; simp
     ·obtain ⟨i,hi,rfl⟩:=List.mem_map.1 hx
      exact hN i (List.mem_range.1 hi)
   | struct fs =>
    obtain ⟨xs,m,hm,rfl,hcl,hxl,hf⟩:=DataW.trod_struct ht h
    obtain rfl:fuel=m:=by omega
    have each:∀ i,i<fs.size→∃ n,∀ f,fs[i]?=some f→Inp P w M.ok n f.type ((cs.drop f.offset).take (P.cellsOf f.type)):=fun i hi=>by
     have hfi:fs[i]?=some fs[i]:=Array.getElem?_eq_getElem hi
     have h1:=hf i _ hfi
     have h2:xs[i]?=some (xs[i]'(by omega)):=List.getElem?_eq_getElem (by omega)
     rw [h2] at h1
     obtain ⟨n,hn⟩:=ih _ _ _ h1 (M.agg ht hg i _ _ hfi (by rw [List.getElem?_map,h2]; rfl))
     exact ⟨n,fun f hf'=>by rw [hfi] at hf'; cases hf'; exact hn⟩
    obtain ⟨N,hN⟩:=Deep.fuel_lt (n:=fs.size) (q:=fun i n=>∀ f,fs[i]?=some f→Inp P w M.ok n f.type ((cs.drop f.offset).take (P.cellsOf f.type))) (fun i a b hab h f hf=>mono a b _ _ hab (h f hf)) each
    refine ⟨N+1,?_⟩
    unfold Inp
    rw [ht]
    refine ⟨hcl,fun f hf'=>?_⟩
    obtain ⟨i,hi,rfl⟩:=List.mem_iff_getElem.1 hf'
    exact hN i (by simpa using hi) _ (by simp)
   | _=>exact ⟨1,by unfold Inp; rw [ht]; trivial⟩
end
def InpV (P:Program) (w:World) (ok:Nat→Nat→Prop) (t:TypeId) (v:Value):Prop :=
 (∃ n,Inp P w ok n t v.cells.toList)∧(match P.underlying t with | some (.struct _) | some (.array _ _)=>∃ cs,v=.agg cs | _=>oneV v=true)
def InpAll (P:Program) (w:World) (ok:Nat→Nat→Prop):List TypeId→List Value→Prop
 | [],[]=>True
 | t::ts,v::vs=>InpV P w ok t v∧InpAll P w ok ts vs
 | _,_=>False
section
variable {H:Type} {enc:TypeId × Value→H} {P:Program} {w:World}
theorem inpAll_of (M:Measure P H):∀ {ts:List TypeId} {vs:List Value} {ds:List (DataW H)} {ps:List MemPlace},DataW.TrodAll enc P w 0 (fun _=>true) true ts vs ds ps →
 (∀ (j:Nat) t v,ts[j]?=some t→vs[j]?=some v→∃ b,Value.okWide P w .any b t v)→(∀ (j:Nat) t d,ts[j]?=some t→ds[j]?=some d→M.good t d)→InpAll P w M.ok ts vs
 | [],[],_,_,_,_,_=>trivial
 | t::ts,v::vs,d::ds,ps,h,hv,hg=>by
  obtain ⟨p,q,⟨fuel,hf⟩,h2,_⟩:=h
  refine ⟨⟨inp_of_trod M 0 fuel t _ _ hf (hg 0 t d rfl rfl),?_⟩,inpAll_of M h2 (fun j t v ht hv'=>hv (j+1) t v ht hv') fun j t d ht hd=>hg (j+1) t d ht hd⟩
  obtain ⟨b,h3⟩:=hv 0 t v rfl rfl
  unfold Value.okWide at h3
  cases ht:P.underlying t with
  | none=>simp only [ht] at h3 ⊢; unfold Cell.okWide Cell.ok at h3; rw [ht] at h3; cases v<;>first | rfl | exact h3.elim
  | some td =>
   cases td<;>simp only [ht] at h3 ⊢
   all_goals first
    | (obtain ⟨cs,h3,_⟩:=h3; exact ⟨cs,h3⟩)
    | (unfold Cell.okWide Cell.ok at h3; rw [ht] at h3; cases v<;>first | rfl | exact h3.elim)
 | [],_::_,_,_,h,_,_=>h.elim
 | _::_,[],_,_,h,_,_=>h.elim
 | _::_,_::_,[],_,h,_,_=>h.elim
theorem trodAll_stays {W W':World} (hl:laidOutB P=true) (hb:RowKit.Below W.heap.size W W'):∀ {ts:List TypeId} {vs:List Value} {ds:List (DataW H)} {ps:List MemPlace},
 (∀ t∈ts,P.readableRec t=true∧t<P.types.size)→DataW.TrodAll enc P W 0 (fun _=>true) true ts vs ds ps→DataW.TrodAll enc P W' 0 (fun b=>decide (b<W.heap.size)) true ts vs ds ps
 | [],[],[],_,_,h=>h
 | t::ts,v::vs,d::ds,ps,hr,h=>by
  obtain ⟨p,q,h1,h2,e⟩:=h
  have hlt:∀ x∈p,x.block<W.heap.size:=by obtain ⟨m,hm⟩:=h1; exact DataW.trod_lt m _ _ _ hm
  exact ⟨p,q,Below.trod hl (hr t (List.mem_cons_self ..)).1 (hr t (List.mem_cons_self ..)).2 h1 hb hlt,trodAll_stays hl hb (fun t ht=>hr t (List.mem_cons_of_mem _ ht)) h2,e⟩
 | [],_::_,_,_,_,h=>h.elim
 | _::_,[],_,_,_,h=>h.elim
 | [],[],_::_,_,_,h=>h.elim
 | _::_,_::_,[],_,_,h=>h.elim
theorem trodAll_ds_len {spare:Nat→Bool} {base:Nat} {held:Bool}:∀ {ts:List TypeId} {vs:List Value} {ds:List (DataW H)} {ps:List MemPlace},DataW.TrodAll enc P w base spare held ts vs ds ps→ds.length=ts.length
 | [],[],[],_,_=>rfl
 | t::ts,v::vs,d::ds,ps,⟨p,q,_,h,_⟩=>by simp [trodAll_ds_len h]
 | [],_::_,_,_,h=>h.elim
 | _::_,[],_,_,h=>h.elim
 | [],[],_::_,_,h=>h.elim
 | _::_,_::_,[],_,h=>h.elim
theorem law_contract {C:Checked} {f:FuncId} {fn:Func} {s:ChangeSpec} {tb:TypeId} (M:Measure C.prog H)
 (hl:laidOutB C.prog=true) (hvars:s.vars=[]) (hfun:∀ ds:List (DataW H),ds.length=fn.params.toList.length→s.fn H ds={ results:=[.lit (.bool true)],args:=ds })
 (hres:fn.resultTypes=#[tb]) (htb:C.prog.underlying tb=some .bool) (hrec:fn.params.toList.all (fun t=>C.prog.readableRec t && decide (t<C.prog.types.size))=true)
 {W:World} {base:Nat} {args:Array Value} {ds gs:List (DataW H)} {before:List MemPlace}
 (hval:∀ (j:Nat) t v,fn.params[j]?=some t→args[j]?=some v→Value.okWide C.prog W .any base t v)
 (hW:DataW.Whole enc C.prog fn.params.toList s.vars false W args.toList ds gs before) (hgood:∀ (j:Nat) (t:TypeId) (d:DataW H),fn.params.toList[j]?=some t→ds[j]?=some d→M.good t d)
 (walk:InpAll C.prog W M.ok fn.params.toList args.toList→callP C.prog f args.toList W fun v w'=>v=.bool true∧Ch (fun _=>False) W w') :
 Calls C.prog f args W fun e W'=>∃ v,e=.returned v∧s.post enc C.prog fn false true false false W args v W':=by
 have hW':=hW
 obtain ⟨p,q,hA,hV,hbef,hfz,hnd⟩:=hW
 rw [hvars] at hV
 obtain ⟨rfl,rfl⟩:=trodVars_none hV
 have hlen:=trodAll_ds_len hA
 have hrec':∀ t∈fn.params.toList,C.prog.readableRec t=true∧t<C.prog.types.size:=fun t ht=>by
  have:=List.all_eq_true.1 hrec t ht
  simpa using this
 have hin:=inpAll_of M hA (fun j t v ht hv=>⟨base,hval j t v (by simpa using ht) (by simpa using hv)⟩) hgood
 have hc:=walk hin
 have hc2:Calls C.prog f args W fun e w'=>∃ v,e=.returned v∧(v=.bool true∧Ch (fun _=>False) W w'):=by
  unfold callP at hc
  have e:args.toList.toArray=args:=by simp
  rw [e] at hc
  exact hc
 refine Calls.mono hc2 fun e W' ⟨v,he,hv,hch⟩=>?_
 subst hv
 have bel:RowKit.Below W.heap.size W W':=hch.below (Nat.le_refl _) fun _ h=>h.elim
 refine ⟨_,he,ds,[],before,[],p,[],hW',?_,?_,?_,bel.frame _,fun h=>by cases h⟩
 ·rw [List.append_nil,hfun ds hlen,hres]
  exact trodAll_mk1 (shut_bool htb _)
 ·rw [List.append_nil,hfun ds hlen]
  exact trodAll_stays hl bel hrec' hA
 ·rw [List.append_nil,hfun ds hlen,hvars]; rfl
end
end Go.Sv
namespace Go.Sv
open Go Go.ChangeShapes Go.WideShapes Go.ChangeAt Go.RowKit
set_option linter.unusedVariables false
section
variable {H:Type} {enc:TypeId × Value→H}
end
def flatD:Nat→DataW Unit→List Value
 | 0,_=>[]
 | n+1,d=>match d with
  | .agg l=>l.flatMap (flatD n)
  | .lit l=>[l.value]
  | _=>[]
noncomputable def laidW (P:Program) (os:Os) (gs:List (Nat × List Value)):World :=
 { World.holding P os ⟨#[],#[],[]⟩ with heap:=gs.foldl (fun h g=>h.modify g.1 fun | .cells _ t frozen=>.cells g.2.toArray t frozen | o=>o) (World.holding P os ⟨#[],#[],[]⟩).heap }
end Go.Sv
