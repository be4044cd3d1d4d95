/-
  The document's reader (longshoreref04): boxes of tokens and of what is found; blanks; tokens. The document's reader (longshoreref04): tokens; what is amiss. The document's reader (longshoreref04): what is amiss, wanted; numbers. The document's reader (longshoreref04): numbers. The document's reader (longshoreref04): integers, bits, words. The document's reader (longshoreref04): bytes in digits; words. The document's reader (longshoreref04): a number behind its kind. The document's reader (longshoreref04): names of kinds; what a token begins; keys that stand twice. The document's reader (longshoreref04): keys that stand twice; a map is shut. Lists in one another, in plain Lean: how deep they may be; too few and too many signs. No program in sight. The law Deep: values within values, as deep as may be and deeper. The document's reader (longshoreref04): lists. The document's reader (longshoreref04): described values. The document's reader (longshoreref04): described values. The document's reader (longshoreref04): arrays. The document's reader (longshoreref04): maps.
-/
import Derived.Test.YtnacobknngidkaaGreatDoorPj23
set_option linter.unusedVariables false
set_option linter.unusedSimpArgs false
namespace Go.Proofs.YtnacobknngidkaaGreatDoor
open Go Go.Sv Go.Note
set_option linter.unusedVariables false
attribute [local irreducible] Sif
set_option maxRecDepth 4000
def tkg (t:Tok):List Value:=[.int .i64 (t.kind:Int),.int .i64 (t.beg:Int),.int .i64 (t.fin:Int),.string ⟨t.text.toArray⟩]
def tkv (t:Tok):Value:=.agg (tkg t).toArray
def fdg (x:MV) (a e:Int):List Value:=[.int .i64 x.k,.int .u64 (x.n:Int),.string ⟨x.t.toArray⟩,.slice x.s.p x.s.n x.s.c,.int .i64 x.e,.int .i64 a,.int .i64 e]
def fdv (x:MV) (a e:Int):Value:=.agg (fdg x a e).toArray
theorem st4 {w:World} {b:Nat} {zs:List Value} (h:blk w b=some zs) (hl:zs.length=4) {t:Tok} {K:World→Prop} (hk:∀ w',blk w' b=some (tkg t)→Ch (·=b) w w'→w'.heap.size=w.heap.size→K w') :
 Sv.st w (Addr.add ⟨b,0,none⟩ 0) (.int .i64 (t.kind:Int)) fun w1=>Sv.st w1 (Addr.add ⟨b,0,none⟩ 1) (.int .i64 (t.beg:Int)) fun w2=>Sv.st w2 (Addr.add ⟨b,0,none⟩ 2) (.int .i64 (t.fin:Int)) fun w3=>Sv.st w3 (Addr.add ⟨b,0,none⟩ 3) (.string ⟨t.text.toArray⟩) fun w4=>K w4:=by
 simp only [add_at,Nat.zero_add]
 exact st_all (tkg t) 0 (K:=K) h (by rw [hl]; exact Nat.le_refl _) fun w' b' c z=>hk w' (by rw [b',putSeg,List.drop_of_length_le (by rw [hl]; exact Nat.le_refl _)]; simp) c z
theorem st7 {w:World} {b:Nat} {zs:List Value} (h:blk w b=some zs) (hl:zs.length=7) {x:MV} {a e:Int} {K:World→Prop} (hk:∀ w',blk w' b=some (fdg x a e)→Ch (·=b) w w'→w'.heap.size=w.heap.size→K w') :
 Sv.st w (Addr.add ⟨b,0,none⟩ 0) (.int .i64 x.k) fun w1=>Sv.st w1 (Addr.add ⟨b,0,none⟩ 1) (.int .u64 (x.n:Int)) fun w2=>Sv.st w2 (Addr.add ⟨b,0,none⟩ 2) (.string ⟨x.t.toArray⟩) fun w3=>Sv.st w3 (Addr.add ⟨b,0,none⟩ 3) (.slice x.s.p x.s.n x.s.c) fun w4=>Sv.st w4 (Addr.add ⟨b,0,none⟩ 4) (.int .i64 x.e) fun w5=>Sv.st w5 (Addr.add ⟨b,0,none⟩ 5) (.int .i64 a) fun w6=>Sv.st w6 (Addr.add ⟨b,0,none⟩ 6) (.int .i64 e) fun w7=>K w7:=by
 simp only [add_at,Nat.zero_add]
 exact st_all (fdg x a e) 0 (K:=K) h (by rw [hl]; exact Nat.le_refl _) fun w' b' c z=>hk w' (by rw [b',putSeg,List.drop_of_length_le (by rw [hl]; exact Nat.le_refl _)]; simp) c z
theorem ld4 {w:World} {b:Nat} {t:Tok} {K:Value→World→Prop} (h:blk w b=some (tkg t)) (hk:K (tkv t) w) :
 ∃ y0,w.cell? (Addr.add ⟨b,0,none⟩ 0)=some (.int .i64 y0)∧∃ y1,w.cell? (Addr.add ⟨b,0,none⟩ 1)=some (.int .i64 y1)∧∃ y2,w.cell? (Addr.add ⟨b,0,none⟩ 2)=some (.int .i64 y2)∧∃ y3,w.cell? (Addr.add ⟨b,0,none⟩ 3)=some (.string y3)∧K (.agg (Array.mk [.int .i64 y0,.int .i64 y1,.int .i64 y2,.string y3])) w:=by
 simp only [add_at,Nat.zero_add]
 exact ⟨_,cellK h 0 rfl,_,cellK h 1 rfl,_,cellK h 2 rfl,_,cellK h 3 rfl,hk⟩
theorem ld7 {w:World} {b:Nat} {x:MV} {a e:Int} {K:Value→World→Prop} (h:blk w b=some (fdg x a e)) (hk:K (fdv x a e) w) :
 ∃ y0,w.cell? (Addr.add ⟨b,0,none⟩ 0)=some (.int .i64 y0)∧∃ y1,w.cell? (Addr.add ⟨b,0,none⟩ 1)=some (.int .u64 y1)∧∃ y2,w.cell? (Addr.add ⟨b,0,none⟩ 2)=some (.string y2)∧∃ q3 m3 c3,w.cell? (Addr.add ⟨b,0,none⟩ 3)=some (.slice q3 m3 c3)∧∃ y4,w.cell? (Addr.add ⟨b,0,none⟩ 4)=some (.int .i64 y4)∧∃ y5,w.cell? (Addr.add ⟨b,0,none⟩ 5)=some (.int .i64 y5)∧∃ y6,w.cell? (Addr.add ⟨b,0,none⟩ 6)=some (.int .i64 y6)∧K (.agg (Array.mk [.int .i64 y0,.int .u64 y1,.string y2,.slice q3 m3 c3,.int .i64 y4,.int .i64 y5,.int .i64 y6])) w:=by
 simp only [add_at,Nat.zero_add]
 exact ⟨_,cellK h 0 rfl,_,cellK h 1 rfl,_,cellK h 2 rfl,_,_,_,cellK h 3 rfl,_,cellK h 4 rfl,_,cellK h 5 rfl,_,cellK h 6 rfl,hk⟩
theorem tup4 {t:Tok} {KK:Int→Int→Int→ByteArray→Prop} (h:KK ((t.kind:Int)) ((t.beg:Int)) ((t.fin:Int)) (⟨t.text.toArray⟩)) :
 ∃ y0 y1 y2 y3,tkv t=.agg (Array.mk [.int .i64 y0,.int .i64 y1,.int .i64 y2,.string y3])∧KK y0 y1 y2 y3:=⟨_,_,_,_,rfl,h⟩
theorem tup7 {x:MV} {a e:Int} {KK:Int→Int→ByteArray→Option Addr→Nat→Nat→Int→Int→Int→Prop} (h:KK (x.k) ((x.n:Int)) (⟨x.t.toArray⟩) x.s.p x.s.n x.s.c (x.e) (a) (e)) :
 ∃ y0 y1 y2 q3 m3 c3 y4 y5 y6,fdv x a e=.agg (Array.mk [.int .i64 y0,.int .u64 y1,.string y2,.slice q3 m3 c3,.int .i64 y4,.int .i64 y5,.int .i64 y6])∧KK y0 y1 y2 q3 m3 c3 y4 y5 y6:=⟨_,_,_,_,_,_,_,_,_,rfl,h⟩
theorem nb4 {w:World} {zs:List Value} (hl:zs.length=4) {t:Tok} {ty:TypeId} {K:Addr→World→Prop} (hk:∀ w',blk w' w.heap.size=some (tkg t)→Ch (fun _=>False) w w'→w'.heap.size=w.heap.size+1→K ⟨w.heap.size,0,none⟩ w') :
 newB w zs ty fun A w0=>Sv.st w0 (Addr.add A 0) (.int .i64 (t.kind:Int)) fun w1=>Sv.st w1 (Addr.add A 1) (.int .i64 (t.beg:Int)) fun w2=>Sv.st w2 (Addr.add A 2) (.int .i64 (t.fin:Int)) fun w3=>Sv.st w3 (Addr.add A 3) (.string ⟨t.text.toArray⟩) fun w4=>K A w4:=by
 refine newB_blk fun w1 b1 c1 z1=>?_
 exact st4 b1 hl fun w2 b2 c2 z2=>hk w2 b2 (c1.trans c2 fun x hx h=>by omega) (by omega)
theorem nb7 {w:World} {zs:List Value} (hl:zs.length=7) {x:MV} {a e:Int} {ty:TypeId} {K:Addr→World→Prop} (hk:∀ w',blk w' w.heap.size=some (fdg x a e)→Ch (fun _=>False) w w'→w'.heap.size=w.heap.size+1→K ⟨w.heap.size,0,none⟩ w') :
 newB w zs ty fun A w0=>Sv.st w0 (Addr.add A 0) (.int .i64 x.k) fun w1=>Sv.st w1 (Addr.add A 1) (.int .u64 (x.n:Int)) fun w2=>Sv.st w2 (Addr.add A 2) (.string ⟨x.t.toArray⟩) fun w3=>Sv.st w3 (Addr.add A 3) (.slice x.s.p x.s.n x.s.c) fun w4=>Sv.st w4 (Addr.add A 4) (.int .i64 x.e) fun w5=>Sv.st w5 (Addr.add A 5) (.int .i64 a) fun w6=>Sv.st w6 (Addr.add A 6) (.int .i64 e) fun w7=>K A w7:=by
 refine newB_blk fun w1 b1 c1 z1=>?_
 exact st7 b1 hl fun w2 b2 c2 z2=>hk w2 b2 (c1.trans c2 fun x hx h=>by omega) (by omega)
theorem rletterC_ok {y:UInt8} {w:World} {K:Value→World→Prop} (hk:K (.bool (letterC y)) w):callP Tryz.prog 88 [.int .u8 (y.toNat:Int)] w K:=by
 apply ok_longshoreref04_letter
 unfold wp_longshoreref04_letter
 have h45:((y.toNat:Int) == 45)=decide (y=45):=byte_eq y 45 (by omega)
 rw [h45]
 have e:∀ v,v=letterC y→K (.bool v) w:=fun v h=>h▸hk
 unfold letterC at e
 have last:∀ h1:decide ((y.toNat:Int)≥48)=true→decide ((y.toNat:Int)≤57)=false,(decide (97≤y.toNat) && decide (y.toNat≤122))=false→decide (y=45)=((decide (97≤y.toNat) && decide (y.toNat≤122)) || (decide (48≤y.toNat) && decide (y.toNat≤57)) || decide (y=45)):=fun h1 h2=>by
  rw [h2,Bool.false_or]
  by_cases h:48≤y.toNat
  ·have:=of_decide_eq_false (h1 (decide_eq_true (by omega)))
   rw [decide_eq_false (p:=y.toNat≤57) (by omega),Bool.and_false,Bool.false_or]
  ·rw [decide_eq_false (p:=48≤y.toNat) h,Bool.false_and,Bool.false_or]
 have rest:(decide (97≤y.toNat) && decide (y.toNat≤122))=false→Sif (decide ((y.toNat:Int)≥48)) (Sif (!decide ((y.toNat:Int)≤57)) (K (.bool (decide (y=45))) w) (K (.bool true) w)) (K (.bool (decide (y=45))) w):=fun h0=>by
  refine Sif_cases (fun h1=>Sif_cases (fun h2=>e _ (last (fun _=>by rw [Bool.not_eq_true'] at h2; exact h2) h0)) (fun h2=>e _ ?_)) (fun h1=>e _ (last (fun h=>by rw [h] at h1; cases h1) h0))
  rw [Bool.not_eq_false'] at h2
  rw [decide_eq_true (p:=48≤y.toNat) (by have:=of_decide_eq_true h1; omega),decide_eq_true (p:=y.toNat≤57) (by have:=of_decide_eq_true h2; omega)]; simp
 refine Sif_cases (fun h1=>Sif_cases (fun h2=>rest ?_) (fun h2=>e _ ?_)) (fun h1=>rest ?_)
 ·rw [Bool.not_eq_true'] at h2
  rw [decide_eq_false (p:=y.toNat≤122) (by have:=of_decide_eq_false h2; omega),Bool.and_false]
 ·rw [Bool.not_eq_false'] at h2
  rw [decide_eq_true (p:=97≤y.toNat) (by have:=of_decide_eq_true h1; omega),decide_eq_true (p:=y.toNat≤122) (by have:=of_decide_eq_true h2; omega)]; rfl
 ·rw [decide_eq_false (p:=97≤y.toNat) (by have:=of_decide_eq_false h1; omega),Bool.false_and]
theorem drop_cons {l:Bs} {j:Nat} {y:UInt8} (h:l[j]?=some y):l.drop j=y::l.drop (j+1):=by
 have hi:=(List.getElem?_eq_some_iff.1 h).1
 rw [List.drop_eq_getElem_cons hi]
 congr 1
 rw [List.getElem?_eq_getElem hi] at h
 exact Option.some.inj h
theorem rskip_ok {s:ByteArray} (hs:s.size≤2^40) {at_:Nat} (ha:at_≤s.size) {w:World} {K:Value→World→Prop} (hk:K (.int .i64 ((at_+skipN false (s.data.toList.drop at_):Nat):Int)) w) :
 callP Tryz.prog 87 [.string s,.int .i64 (at_:Int)] w K:=by
 apply ok_longshoreref04_skip
 unfold wp_longshoreref04_skip
 have hsl:=sl s
 refine ⟨fun m i c w1=>∃ j:Nat,i=(j:Int)∧at_≤j∧j≤s.size∧m=s.size-j∧w1=w∧at_+skipN false (s.data.toList.drop at_)=j+skipN c (s.data.toList.drop j),⟨s.size-at_,at_,rfl,Nat.le_refl _,ha,rfl,rfl,rfl⟩,?_⟩
 rintro m i c w1 ⟨j,rfl,hj1,hj2,rfl,rfl,heq⟩
 refine Sif_cases (fun h=>?_) (fun h=>?_)
 ·have hjl:j<s.size:=by have:=of_decide_eq_true h; omega
  obtain ⟨y,hy⟩:∃ y,s.data.toList[j]?=some y:=⟨_,List.getElem?_eq_getElem (by omega)⟩
  rw [drop_cons hy,skipN_cons] at heq
  refine ⟨by omega,by omega,?_⟩
  simp only [nameI]
  rw [Int.toNat_natCast,byteAt_get hy]
  have q:∀ k:UInt8,((y.toNat:Int) == (k.toNat:Int))=decide (y=k):=fun k=>by rw [byte_eq y k.toNat (by have:=k.toNat_lt; omega)]; simp
  have q32:((y.toNat:Int) == 32)=decide (y=32):=q 32
  have q9:((y.toNat:Int) == 9)=decide (y=9):=q 9
  have q10:((y.toNat:Int) == 10)=decide (y=10):=q 10
  have q13:((y.toNat:Int) == 13)=decide (y=13):=q 13
  have q35:((y.toNat:Int) == 35)=decide (y=35):=q 35
  have q35':((y.toNat:Int) != 35)=!decide (y=35):=by rw [bne,q35]
  rw [q32,q9,q10,q13,q35,q35']
  refine ⟨fun b1 w2=>b1=blankC y∧w2=w1,?_,?_⟩
  rotate_left
  ·unfold blankC
   refine Sif_cases (fun a1=>Sif_cases (fun a2=>Sif_cases (fun a3=>⟨?_,rfl⟩) (fun a3=>⟨?_,rfl⟩)) (fun a2=>⟨?_,rfl⟩)) (fun a1=>⟨?_,rfl⟩)
   ·rw [Bool.not_eq_true'] at a1 a2 a3
    rw [a1,a2,a3]; rfl
   ·rw [Bool.not_eq_false'] at a3; rw [a3]; simp
   ·rw [Bool.not_eq_false'] at a2; rw [a2]; simp
   ·rw [Bool.not_eq_false'] at a1; rw [a1]; simp
  rintro b1 w2 ⟨rfl,rfl⟩
  refine ⟨fun w3=>w3=w2∧¬ (c=false∧blankC y=false∧y≠35),?_,?_⟩
  ·rintro w3 ⟨rfl,hno⟩
   rw [if_neg hno] at heq
   refine ⟨fun b2 w4=>w4=w3∧b2=(if y=35 then true else c),?_,Sif_cases (fun h1=>⟨rfl,by rw [if_pos (of_decide_eq_true h1)]⟩) (fun h1=>⟨rfl,by rw [if_neg (of_decide_eq_false h1)]⟩)⟩
   rintro b2 w4 ⟨rfl,rfl⟩
   refine ⟨fun b3 w5=>w5=w4∧b3=(if y=10 then false else if y=35 then true else c),?_,Sif_cases (fun h1=>⟨rfl,by rw [if_pos (of_decide_eq_true h1)]⟩) (fun h1=>⟨rfl,by rw [if_neg (of_decide_eq_false h1)]⟩)⟩
   rintro b3 w5 ⟨rfl,rfl⟩
   exact ⟨s.size-(j+1),by omega,j+1,by rw [wrap_id (by omega) (by omega)]; omega,by omega,hjl,rfl,by trivial,by rw [heq]; omega⟩
  ·refine Sif_cases (fun h1=>Sif_cases (fun h2=>Sif_cases (fun h3=>?_) (fun h3=>⟨rfl,?_⟩)) (fun h2=>⟨rfl,?_⟩)) (fun h1=>⟨rfl,?_⟩)
   ·rw [Bool.not_eq_true'] at h1 h2 h3
    rw [if_pos ⟨h1,h2,of_decide_eq_false h3⟩,Nat.add_zero] at heq
    rw [heq] at hk; exact hk
   ·rw [Bool.not_eq_false'] at h3
    exact fun h=>h.2.2 (of_decide_eq_true h3)
   ·rw [Bool.not_eq_false'] at h2
    exact fun h=>by rw [h2] at h; cases h.2.1
   ·rw [Bool.not_eq_false'] at h1
    exact fun h=>by rw [h1] at h; cases h.1
 ·have hjl:j=s.size:=by have:=of_decide_eq_false h; omega
  rw [hjl,List.drop_of_length_le (l:=s.data.toList) (i:=s.size) (by omega)] at heq
  rw [heq] at hk
  rw [hjl]
  have:skipN c []=0:=by cases c<;>rfl
  rw [this] at hk; exact hk
end Go.Proofs.YtnacobknngidkaaGreatDoor
namespace Go.Proofs.YtnacobknngidkaaGreatDoor
open Go Go.Sv Go.Note
set_option linter.unusedVariables false
attribute [local irreducible] Sif
set_option maxRecDepth 4000
theorem rnext_ok {s:ByteArray} (hs:s.size≤2^40) {f:Nat} (hf:f≤s.size) {w:World} {K:Value→World→Prop} (hk:∀ w',Ch (fun _=>False) w w'→K (tkv (next s.data.toList f)) w') :
 callP Tryz.prog 45 [.string s,.int .i64 (f:Int)] w K:=by
 apply ok_longshoreref04_next
 unfold wp_longshoreref04_next
 have hsl:=sl s
 obtain ⟨l,hl⟩:∃ l,l=s.data.toList:=⟨_,rfl⟩
 rw [← hl] at hk hsl
 refine newB_blk fun w1 b1 c1 z1=>?_
 have hsk:=skipN_le false (l.drop f)
 rw [List.length_drop] at hsk
 refine rskip_ok hs hf ⟨_,rfl,?_⟩
 rw [← hl]
 obtain ⟨A,hA⟩:∃ A,A=f+skipN false (l.drop f):=⟨_,rfl⟩
 rw [← hA]
 have hAle:A≤s.size:=by omega
 -- the end
 have fin:∀ (w2:World) (t:Tok),Ch (fun _=>False) w1 w2→t=next l f→Sv.st w2 (Addr.add ⟨w.heap.size,0,none⟩ 0) (.int .i64 (t.kind:Int)) fun w3=>Sv.st w3 (Addr.add ⟨w.heap.size,0,none⟩ 1) (.int .i64 (t.beg:Int)) fun w4=>Sv.st w4 (Addr.add ⟨w.heap.size,0,none⟩ 2) (.int .i64 (t.fin:Int)) fun w5=>Sv.st w5 (Addr.add ⟨w.heap.size,0,none⟩ 3) (.string ⟨t.text.toArray⟩) fun w6 =>
  ∃ n1,w6.cell? (Addr.add ⟨w.heap.size,0,none⟩ 0)=some (.int .i64 n1)∧∃ n2,w6.cell? (Addr.add ⟨w.heap.size,0,none⟩ 1)=some (.int .i64 n2)∧∃ n3,w6.cell? (Addr.add ⟨w.heap.size,0,none⟩ 2)=some (.int .i64 n3)∧∃ s1,w6.cell? (Addr.add ⟨w.heap.size,0,none⟩ 3)=some (.string s1)∧K (.agg (Array.mk [.int .i64 n1,.int .i64 n2,.int .i64 n3,.string s1])) w6:=by
  intro w2 t c2 ht
  refine st4 ((c2.blk (blk_lt b1) id).trans b1) rfl fun w6 b6 c6 z6=>ld4 b6 ?_
  rw [ht]
  exact hk w6 ((c1.trans' c2).trans c6 fun x hx e=>by omega)
 refine Sif_cases (fun h=>?_) (fun h=>?_)
 ·have h:s.size≤A:=by have:=of_decide_eq_true h; omega
  have hn:next l f=⟨0,l.length,l.length,[]⟩:=next_nil (by rw [← hA]; exact List.drop_of_length_le (by omega))
  have:=fin w1 ⟨0,l.length,l.length,[]⟩ (Ch.refl _ _) hn.symm
  rw [hsl] at this
  exact this
 have hAl:A<s.size:=by have:=of_decide_eq_false h; omega
 obtain ⟨y,hy⟩:∃ y,l[A]?=some y:=⟨_,List.getElem?_eq_getElem (by omega)⟩
 have hdr:=drop_cons hy
 have hT:=next_at (s:=l) (f:=f) (x:=y) (l:=l.drop (A+1)) (by rw [← hA]; exact hdr)
 rw [← hA] at hT
 refine ⟨by omega,by omega,?_⟩
 have hby:byteAt s (Int.toNat (A:Int))=(y.toNat:Int):=by rw [Int.toNat_natCast]; exact byteAt_get (by rw [← hl]; exact hy)
 simp only [nameI]
 rw [hby]
 have q:∀ k:UInt8,((y.toNat:Int) == (k.toNat:Int))=decide (y=k):=fun k=>by rw [byte_eq y k.toNat (by have:=k.toNat_lt; omega)]; simp
 have q34:((y.toNat:Int) == 34)=decide (y=34):=q 34
 have q91:((y.toNat:Int) == 91)=decide (y=91):=q 91
 have q93:((y.toNat:Int) == 93)=decide (y=93):=q 93
 have q123:((y.toNat:Int) == 123)=decide (y=123):=q 123
 have q125:((y.toNat:Int) == 125)=decide (y=125):=q 125
 have q40:((y.toNat:Int) == 40)=decide (y=40):=q 40
 have q41:((y.toNat:Int) == 41)=decide (y=41):=q 41
 have q58:((y.toNat:Int) == 58)=decide (y=58):=q 58
 have q44:((y.toNat:Int) == 44)=decide (y=44):=q 44
 have hA1:IntKind.wrap .i64 ((A:Int)+1)=((A+1:Nat):Int):=wrap_id (by omega) (by omega)
 rw [q34,hA1]
 refine Sif_cases (fun h34=>?_) (fun h34=>?_)
 ·have h34:=of_decide_eq_true h34
  rw [if_pos h34] at hT
  refine rWord_ok hs hAle fun v w2 c2 hv=>?_
  rw [← hl,hdr] at hv
  cases hw:wordB (y::l.drop (A+1)) with
  | none =>
   rw [hw] at hv hT
   refine ⟨_,_,hv,Sif_cases (fun _=>?_) (fun h=>absurd h (by decide))⟩
   exact fin w2 ⟨5,A,A+1,[]⟩ c2 hT.symm
  | some p =>
   rw [hw] at hv hT
   have hp:=wordB_pos (y:=p.1) (n:=p.2) hw
   refine ⟨_,_,hv,Sif_cases (fun h=>?_) (fun _=>?_)⟩
   ·have:=of_decide_eq_true h; omega
   ·exact fin w2 ⟨2,A,A+p.2,p.1⟩ c2 hT.symm
 have h34:=of_decide_eq_false h34
 rw [if_neg h34] at hT
 have ex1:s.extract A (A+1)=⟨([y]:Bs).toArray⟩:=ext1 (by rw [← hl]; exact hy)
 simp only [Int.toNat_natCast,ex1]
 have sign:signC y=true→((0:Int)≤((A+1:Nat):Int)∧((A+1:Nat):Int)≤((s.size:Nat):Int)∧(0:Int)≤(A:Int)∧(A:Int)≤((A+1:Nat):Int)∧Sv.st w1 (Addr.add ⟨w.heap.size,0,none⟩ 0) (.int .i64 3) fun w3=>Sv.st w3 (Addr.add ⟨w.heap.size,0,none⟩ 1) (.int .i64 (A:Int)) fun w4=>Sv.st w4 (Addr.add ⟨w.heap.size,0,none⟩ 2) (.int .i64 ((A+1:Nat):Int)) fun w5=>Sv.st w5 (Addr.add ⟨w.heap.size,0,none⟩ 3) (.string ⟨([y]:Bs).toArray⟩) fun w6 =>
  ∃ n1,w6.cell? (Addr.add ⟨w.heap.size,0,none⟩ 0)=some (.int .i64 n1)∧∃ n2,w6.cell? (Addr.add ⟨w.heap.size,0,none⟩ 1)=some (.int .i64 n2)∧∃ n3,w6.cell? (Addr.add ⟨w.heap.size,0,none⟩ 2)=some (.int .i64 n3)∧∃ s1,w6.cell? (Addr.add ⟨w.heap.size,0,none⟩ 3)=some (.string s1)∧K (.agg (Array.mk [.int .i64 n1,.int .i64 n2,.int .i64 n3,.string s1])) w6):=fun hsg=>by
  rw [if_pos hsg] at hT
  exact ⟨by omega,by omega,by omega,by omega,fin w1 ⟨3,A,A+1,[y]⟩ (Ch.refl _ _) hT.symm⟩
 refine ⟨fun w2=>w2=w1∧signC y=false,?_,?_⟩
 ·rintro w2 ⟨rfl,hsg⟩
  rw [if_neg (by rw [hsg]; decide)] at hT
  refine ⟨fun n2 w3=>w3=w2∧n2=((A+nameN (y::l.drop (A+1)):Nat):Int),?_,?_⟩
  ·rintro n2 w3 ⟨rfl,rfl⟩
   have hnl:=nameN_le (y::l.drop (A+1))
   have hdl:=congrArg List.length hdr
   rw [List.length_drop] at hdl
   rw [intEq]
   by_cases hlet:letterC y=true
   ·rw [if_pos hlet] at hT
    have hn0:0<nameN (y::l.drop (A+1)):=by unfold nameN; rw [if_pos hlet]; omega
    rw [decide_eq_false (by omega)]
    refine Sif_false ⟨by omega,by omega,by omega,by omega,?_⟩
    have ex2:s.extract A (A+nameN (y::l.drop (A+1)))=⟨((y::l.drop (A+1)).take (nameN (y::l.drop (A+1)))).toArray⟩:=by
     apply ByteArray.ext
     apply Array.toList_inj.1
     rw [extract_data,← hl,hdr,Nat.add_sub_cancel_left]
    simp only [Int.toNat_natCast,ex2]
    exact fin w3 ⟨1,A,A+nameN (y::l.drop (A+1)),(y::l.drop (A+1)).take (nameN (y::l.drop (A+1)))⟩ (Ch.refl _ _) hT.symm
   ·rw [if_neg hlet] at hT
    have hn0:nameN (y::l.drop (A+1))=0:=by unfold nameN; rw [if_neg hlet]
    rw [hn0,decide_eq_true (by rw [Nat.add_zero])]
    refine Sif_true ⟨by omega,by omega,by omega,by omega,?_⟩
    exact fin w3 ⟨4,A,A+1,[y]⟩ (Ch.refl _ _) hT.symm
  ·refine ⟨fun m i w3=>∃ j:Nat,i=(j:Int)∧A≤j∧j≤s.size∧m=s.size-j∧w3=w2∧A+nameN (y::l.drop (A+1))=j+nameN (l.drop j),⟨s.size-A,A,rfl,Nat.le_refl _,hAle,rfl,rfl,by rw [hdr]⟩,?_⟩
   rintro m i w3 ⟨j,rfl,hj1,hj2,rfl,rfl,heq⟩
   refine Sif_cases (fun h=>?_) (fun h=>?_)
   ·have hjl:j<s.size:=by have:=of_decide_eq_true h; omega
    obtain ⟨z,hz⟩:∃ z,l[j]?=some z:=⟨_,List.getElem?_eq_getElem (by omega)⟩
    rw [drop_cons hz] at heq
    have hnz:nameN (z::l.drop (j+1))=if letterC z then 1+nameN (l.drop (j+1)) else 0:=rfl
    rw [hnz] at heq
    refine ⟨by omega,by omega,?_⟩
    rw [Int.toNat_natCast,byteAt_get (by rw [← hl]; exact hz)]
    refine rletterC_ok ⟨_,rfl,?_⟩
    refine Sif_cases (fun h1=>?_) (fun h1=>?_)
    ·rw [Bool.not_eq_true'] at h1
     rw [if_neg (by rw [h1]; decide)] at heq
     exact ⟨rfl,by omega⟩
    ·rw [Bool.not_eq_false'] at h1
     rw [if_pos h1] at heq
     exact ⟨s.size-(j+1),by omega,j+1,by rw [wrap_id (by omega) (by omega)]; omega,by omega,hjl,rfl,by trivial,by omega⟩
   ·have hjl:j=s.size:=by have:=of_decide_eq_false h; omega
    rw [hjl,List.drop_of_length_le (l:=l) (i:=s.size) (by omega)] at heq
    have:nameN []=0:=rfl
    exact ⟨rfl,by omega⟩
 ·have hs8:signC y=(decide (y=91) || decide (y=93) || decide (y=123) || decide (y=125) || decide (y=40) || decide (y=41) || decide (y=58) || decide (y=44)):=by
   unfold signC
   simp only [List.contains_eq_any_beq,List.any_cons,List.any_nil,Bool.or_false,Bool.or_assoc]
   rfl
  rw [q91,q93,q123,q125,q40,q41,q58,q44]
  refine Sif_cases (fun a1=>Sif_cases (fun a2=>Sif_cases (fun a3=>Sif_cases (fun a4=>Sif_cases (fun a5=>Sif_cases (fun a6=>Sif_cases (fun a7=>Sif_cases (fun a8=>?_) (fun a8=>?_)) (fun a=>?_)) (fun a=>?_)) (fun a=>?_)) (fun a=>?_)) (fun a=>?_)) (fun a=>?_)) (fun a=>?_)
  ·exact sign (by rw [hs8,a8]; simp)
  ·rw [Bool.not_eq_true'] at a1 a2 a3 a4 a5 a6 a7
   exact ⟨rfl,by rw [hs8,a1,a2,a3,a4,a5,a6,a7,a8]; rfl⟩
  all_goals (rw [Bool.not_eq_false'] at a; exact sign (by rw [hs8,a]; simp))
end Go.Proofs.YtnacobknngidkaaGreatDoor
namespace Go.Proofs.YtnacobknngidkaaGreatDoor
open Go Go.Sv Go.Note
set_option linter.unusedVariables false
attribute [local irreducible] Sif
set_option maxRecDepth 4000
def mv0:MV:=.mk 0 0 [] ⟨none,0,0,none⟩ 0 []
def Fo (sz:Nat) (w:World):Go.Note.Fd M→Value→Prop
 | .ok m f,v=>∃ x:MV,v=fdv x (f:Int) 0∧x.m=m∧VO w x∧∀ b∈x.B,sz≤b
 | .bad a e,v=>v=fdv mv0 (a:Int) (e:Int)∧e≠0
theorem ramiss_ok {t:Tok} {e:Nat} (he:e≠0) {w:World} {K:Value→World→Prop} (hk:∀ w',Ch (fun _=>False) w w'→K (fdv mv0 (t.beg:Int) ((if t.kind=5 then 42 else e:Nat):Int)) w') :
 callP Tryz.prog 46 [tkv t,.int .i64 (e:Int)] w K:=by
 apply ok_longshoreref04_amiss
 unfold wp_longshoreref04_amiss
 refine newB_blk fun w1 b1 c1 z1=>newB_blk fun w2 b2 c2 z2=>?_
 have b12:blk w2 w.heap.size=some (tkg t):=(c2.blk (blk_lt b1) id).trans b1
 refine ⟨fun n w3=>n=((if t.kind=5 then 42 else e:Nat):Int)∧w3=w2,?_,?_⟩
 ·rintro n w3 ⟨rfl,rfl⟩
  refine ⟨_,(by simp only [add_at,Nat.zero_add]; exact cellK b12 1 rfl),?_⟩
  refine st7 (x:=mv0) b2 rfl fun w4 b4 c4 z4=>ld7 b4 ?_
  exact hk w4 ((c1.trans' c2).trans c4 fun x hx h=>by omega)
 ·refine ⟨_,(by simp only [add_at,Nat.zero_add]; exact cellK b12 0 rfl),?_⟩
  have e5:((t.kind:Int) == 5)=decide (t.kind=5):=by
   by_cases h:t.kind=5
   ·rw [h]; rfl
   ·rw [decide_eq_false h,beq_eq_false_iff_ne]; omega
  rw [e5]
  refine Sif_cases (fun h=>⟨?_,rfl⟩) (fun h=>⟨?_,rfl⟩)
  ·rw [if_pos (of_decide_eq_true h)]; rfl
  ·rw [if_neg (of_decide_eq_false h)]
theorem foAmiss {sz:Nat} {w:World} {t:Tok} {e:Nat} (he:e≠0):Fo sz w (amiss t e:Go.Note.Fd M) (fdv mv0 (t.beg:Int) ((if t.kind=5 then 42 else e:Nat):Int)):=by
 unfold amiss
 exact ⟨rfl,by split<;>omega⟩
theorem natEq (a b:Nat):((a:Int) == (b:Int))=decide (a=b):=by
 by_cases h:a=b
 ·subst h; simp
 ·rw [decide_eq_false h,beq_eq_false_iff_ne]; omega
theorem is_val (t:Tok) (c:UInt8):t.is c=(decide (t.kind=3) && decide (t.text=[c])):=rfl
theorem rcloses_ok {t:Tok} {w:World} {K:Value→World→Prop} (hk:∀ w',Ch (fun _=>False) w w'→K (.bool (closes t)) w'):callP Tryz.prog 80 [tkv t] w K:=by
 apply ok_longshoreref04_closes
 unfold wp_longshoreref04_closes
 refine newB_blk fun w1 b1 c1 z1=>?_
 have b1:blk w1 w.heap.size=some (tkg t):=b1
 have hk:=hk w1 c1
 unfold closes at hk
 rw [is_val,is_val,is_val] at hk
 simp only [add_at,Nat.zero_add]
 refine ⟨_,cellK b1 0 rfl,?_⟩
 have e3:((t.kind:Int) == 3)=decide (t.kind=3):=natEq _ 3
 rw [e3]
 refine Sif_cases (fun h=>⟨_,cellK b1 3 rfl,?_⟩) (fun h=>?_)
 ·rw [h] at hk
  simp only [Bool.true_and] at hk
  rw [show (ByteArray.mk (Array.mk [(93:UInt8)]))=⟨([93]:Bs).toArray⟩ by rfl,bs_eq,show (ByteArray.mk (Array.mk [(125:UInt8)]))=⟨([125]:Bs).toArray⟩ by rfl,show (ByteArray.mk (Array.mk [(41:UInt8)]))=⟨([41]:Bs).toArray⟩ by rfl]
  refine Sif_cases (fun h1=>⟨_,cellK b1 3 rfl,?_⟩) (fun h1=>?_)
  ·rw [Bool.not_eq_true'] at h1
   rw [h1,Bool.false_or] at hk
   rw [bs_eq]
   refine Sif_cases (fun h2=>⟨_,cellK b1 3 rfl,?_⟩) (fun h2=>?_)
   ·rw [Bool.not_eq_true'] at h2
    rw [h2,Bool.false_or] at hk
    rw [bs_eq]; exact hk
   ·rw [Bool.not_eq_false'] at h2
    rw [h2,Bool.true_or] at hk; exact hk
  ·rw [Bool.not_eq_false'] at h1
   rw [h1] at hk
   simpa using hk
 ·rw [h] at hk
  simpa using hk
theorem rwanted_ok {t:Tok} {w:World} {K:Value→World→Prop} (hk:∀ v w' sz,Fo sz w' (wanted t:Go.Note.Fd M) v→Ch (fun _=>False) w w'→K v w'):callP Tryz.prog 126 [tkv t] w K:=by
 apply ok_longshoreref04_wanted
 unfold wp_longshoreref04_wanted
 refine newB_blk fun w1 b1 c1 z1=>newB_blk fun w2 b2 c2 z2=>?_
 have b12:blk w2 w.heap.size=some (tkg t):=(c2.blk (blk_lt b1) id).trans b1
 have c12:=c1.trans' c2
 refine ld4 (K:=fun v w2=>callP Tryz.prog 80 [v] w2 _) b12 ?_
 refine rcloses_ok fun w3 c3=>⟨_,rfl,?_⟩
 have b13:=(c3.blk (blk_lt b12) id).trans b12
 have b23:=(c3.blk (blk_lt b2) id).trans b2
 have c13:=c12.trans' c3
 -- amiss, and what it found handed on
 have go:∀ e:Nat,e≠0→(wanted t:Go.Note.Fd M)=amiss t e→callP Tryz.prog 46 [tkv t,.int .i64 (e:Int)] w3 fun v1 w4=>∃ y0 y1 y2 q3 m3 c3 y4 y5 y6,v1=.agg (Array.mk [.int .i64 y0,.int .u64 y1,.string y2,.slice q3 m3 c3,.int .i64 y4,.int .i64 y5,.int .i64 y6]) ∧
  (Sv.st w4 (Addr.add ⟨w1.heap.size,0,none⟩ 0) (.int .i64 y0) fun w5=>Sv.st w5 (Addr.add ⟨w1.heap.size,0,none⟩ 1) (.int .u64 y1) fun w6=>Sv.st w6 (Addr.add ⟨w1.heap.size,0,none⟩ 2) (.string y2) fun w7=>Sv.st w7 (Addr.add ⟨w1.heap.size,0,none⟩ 3) (.slice q3 m3 c3) fun w8=>Sv.st w8 (Addr.add ⟨w1.heap.size,0,none⟩ 4) (.int .i64 y4) fun w9=>Sv.st w9 (Addr.add ⟨w1.heap.size,0,none⟩ 5) (.int .i64 y5) fun w10=>Sv.st w10 (Addr.add ⟨w1.heap.size,0,none⟩ 6) (.int .i64 y6) fun w11 =>
    ∃ y0,w11.cell? (Addr.add ⟨w1.heap.size,0,none⟩ 0)=some (.int .i64 y0)∧∃ y1,w11.cell? (Addr.add ⟨w1.heap.size,0,none⟩ 1)=some (.int .u64 y1)∧∃ y2,w11.cell? (Addr.add ⟨w1.heap.size,0,none⟩ 2)=some (.string y2)∧∃ q3 m3 c3,w11.cell? (Addr.add ⟨w1.heap.size,0,none⟩ 3)=some (.slice q3 m3 c3)∧∃ y4,w11.cell? (Addr.add ⟨w1.heap.size,0,none⟩ 4)=some (.int .i64 y4)∧∃ y5,w11.cell? (Addr.add ⟨w1.heap.size,0,none⟩ 5)=some (.int .i64 y5)∧∃ y6,w11.cell? (Addr.add ⟨w1.heap.size,0,none⟩ 6)=some (.int .i64 y6)∧K (.agg (Array.mk [.int .i64 y0,.int .u64 y1,.string y2,.slice q3 m3 c3,.int .i64 y4,.int .i64 y5,.int .i64 y6])) w11):=fun e he hw=>by
  refine ramiss_ok he fun w4 c4=>tup7 ?_
  have b24:=(c4.blk (blk_lt b23) id).trans b23
  refine st7 (x:=mv0) b24 rfl fun w5 b5 c5 z5=>ld7 b5 ?_
  exact hk _ w5 0 (by rw [hw]; exact foAmiss he) ((c13.trans' c4).trans c5 fun x hx h=>by omega)
 refine ⟨fun w4=>w4=w3∧¬ (t.kind=0∨closes t=true),?_,?_⟩
 ·rintro w4 ⟨rfl,hno⟩
  refine ld4 (K:=fun v w2=>callP Tryz.prog 46 [v,.int .i64 40] w2 _) b13 ?_
  exact go 40 (by decide) (by unfold wanted; rw [if_neg hno])
 ·refine ⟨_,(by simp only [add_at,Nat.zero_add]; exact cellK b13 0 rfl),?_⟩
  have e0:((t.kind:Int) == 0)=decide (t.kind=0):=natEq _ 0
  rw [e0]
  refine Sif_cases (fun h=>Sif_cases (fun h1=>?_) (fun h1=>⟨rfl,?_⟩)) (fun h=>?_)
  ·refine ld4 (K:=fun v w2=>callP Tryz.prog 46 [v,.int .i64 43] w2 _) b13 ?_
   exact go 43 (by decide) (by unfold wanted; rw [if_pos (.inr h1)])
  ·rw [Bool.not_eq_true'] at h
   rintro (e | e)
   ·exact of_decide_eq_false h e
   ·rw [h1] at e; cases e
  ·rw [Bool.not_eq_false'] at h
   refine ld4 (K:=fun v w2=>callP Tryz.prog 46 [v,.int .i64 43] w2 _) b13 ?_
   exact go 43 (by decide) (by unfold wanted; rw [if_pos (.inl (of_decide_eq_true h))])
end Go.Proofs.YtnacobknngidkaaGreatDoor
namespace Go.Note
open Go
set_option linter.unusedVariables false
theorem valN_snoc (l:Bs) (x:UInt8):valN (l++[x])=10*valN l+(x.toNat-48):=by
 unfold valN; rw [List.foldl_append]; rfl
theorem valN_mono (b:Bs):∀ a:Bs,valN a≤valN (a++b):=by
 induction b with
 | nil=>intro a; simp
 | cons x b ih =>
  intro a
  have h:=ih (a++[x])
  rw [valN_snoc,List.append_assoc] at h
  simp only [List.singleton_append] at h
  omega
theorem valN_ten (b:Bs):∀ a:Bs,valN a*10^b.length≤valN (a++b):=by
 induction b with
 | nil=>intro a; simp
 | cons x b ih =>
  intro a
  have h:=ih (a++[x])
  rw [valN_snoc,List.append_assoc] at h
  simp only [List.singleton_append] at h
  refine Nat.le_trans ?_ h
  rw [List.length_cons,Nat.pow_succ,Nat.mul_comm (10^b.length) 10,← Nat.mul_assoc]
  exact Nat.mul_le_mul_right _ (by omega)
def natR (s:Bs):Option Nat:=match natB s with
 | some n=>if n<18446744073709551616 then some n else none
 | none=>none
theorem natR_long {s:Bs} (h:20<s.length):natR s=none:=by
 unfold natR
 cases hn:natB s with
 | none=>rfl
 | some n =>
  have hv:n=valN s:=natB_of hn
  rw [natB_def] at hn
  split at hn
  ·cases hn
  ·rename_i hc
   cases s with
   | nil=>simp at h
   | cons x l =>
    have hx:x≠48:=fun e=>hc (.inr (.inl ⟨by omega,by rw [e]; rfl⟩))
    have hd:digitC x=true:=by
     have h3:¬ (x::l).all digitC=false:=fun e=>hc (.inr (.inr e))
     rw [Bool.not_eq_false,List.all_cons,Bool.and_eq_true] at h3
     exact h3.1
    simp only [digitC,Bool.and_eq_true,decide_eq_true_eq] at hd
    have hx2:x.toNat≠48:=fun e=>hx (UInt8.toNat_inj.1 e)
    have ht:=valN_ten l [x]
    have h1:valN [x]=x.toNat-48:=by
     have:=valN_snoc [] x
     have h0:valN []=0:=rfl
     rw [h0] at this
     simpa using this
    rw [h1,List.singleton_append] at ht
    simp only [List.length_cons] at h
    have hp:10^20≤10^l.length:=Nat.pow_le_pow_right (by decide) (by omega)
    have h20:(10:Nat)^20=100000000000000000000:=by decide
    have:1*10^l.length≤(x.toNat-48)*10^l.length:=Nat.mul_le_mul_right _ (by omega)
    simp only
    rw [if_neg (by omega)]
end Go.Note
namespace Go.Proofs.YtnacobknngidkaaGreatDoor
open Go Go.Sv Go.Note
set_option linter.unusedVariables false
attribute [local irreducible] Sif
set_option maxRecDepth 4000
theorem rnatural_ok {s:ByteArray} (hs:s.size≤2^40) {w:World} {K:Value→World→Prop} (hk:K (.tuple (Array.mk [.int .u64 (((natR s.data.toList).getD 0:Nat):Int),.bool (natR s.data.toList).isSome])) w) :
 callP Tryz.prog 164 [.string s] w K:=by
 apply ok_longshoreref04_natural
 unfold wp_longshoreref04_natural
 have hsl:=sl s
 obtain ⟨l,hl⟩:∃ l,l=s.data.toList:=⟨_,rfl⟩
 rw [← hl] at hk hsl
 have bad:natR l=none→K (.tuple (Array.mk [.int .u64 0,.bool false])) w:=fun h=>by rw [h] at hk; exact hk
 have hnb:natB l=none→natR l=none:=fun h=>by unfold natR; rw [h]
 have hbl:(s.toList == (ByteArray.mk (Array.mk [])).toList)=decide (l=[]):=by
  have:=bs_eq l []
  rw [show (⟨l.toArray⟩:ByteArray)=s from by rw [hl]] at this
  exact this
 refine ⟨fun w1=>w1=w∧l≠[]∧¬ (1<l.length∧l.head?=some 48),?_,?_⟩
 rotate_left
 ·rw [hbl]
  refine Sif_cases (fun h=>?_) (fun h=>?_)
  ·rw [Bool.not_eq_true'] at h
   have h:=of_decide_eq_false h
   refine Sif_cases (fun h1=>?_) (fun h1=>?_)
   ·refine Sif_cases (fun h2=>⟨by omega,by have:=of_decide_eq_true h2; omega,?_⟩) (fun h2=>⟨rfl,h,?_⟩)
    ·have h2:1<s.size:=by have:=of_decide_eq_true h2; omega
     obtain ⟨y,hy⟩:∃ y,l[0]?=some y:=⟨_,List.getElem?_eq_getElem (by omega)⟩
     have hyh:l.head?=some y:=by rw [List.head?_eq_getElem?]; exact hy
     rw [byteAt_get (by rw [← hl]; exact hy)]
     have q48:((y.toNat:Int) == 48)=decide (y=48):=byte_eq y 48 (by omega)
     rw [q48]
     refine Sif_cases (fun h3=>?_) (fun h3=>⟨rfl,h,?_⟩)
     ·refine bad (hnb ?_)
      rw [natB_def,if_pos (.inr (.inl ⟨by omega,by rw [hyh,of_decide_eq_true h3]⟩))]
     ·rintro ⟨_,e⟩
      rw [hyh] at e
      exact of_decide_eq_false h3 (Option.some.inj e)
    ·have h2:=of_decide_eq_false h2
     rintro ⟨e,_⟩
     exact h2 (by omega)
   ·rw [Bool.not_eq_false'] at h1
    exact bad (natR_long (by have:=of_decide_eq_true h1; omega))
  ·rw [Bool.not_eq_false'] at h
   exact bad (hnb (by rw [natB_def,if_pos (.inl (of_decide_eq_true h))]))
 rintro w1 ⟨rfl,hne,hhd⟩
 refine ⟨fun m n i w2=>∃ (j:Nat),i=(j:Int)∧j≤s.size∧m=s.size-j∧w2=w1∧n=((valN (l.take j):Nat):Int)∧valN (l.take j)<18446744073709551616∧(l.take j).all digitC=true,⟨s.size,0,rfl,Nat.zero_le _,rfl,rfl,rfl,by rw [List.take_zero]; decide,rfl⟩,?_⟩
 rintro m n i w2 ⟨j,rfl,hj,rfl,rfl,rfl,hv,hall⟩
 refine Sif_cases (fun h=>?_) (fun h=>?_)
 ·have hjl:j<s.size:=by have:=of_decide_eq_true h; omega
  obtain ⟨y,hy⟩:∃ y,l[j]?=some y:=⟨_,List.getElem?_eq_getElem (by omega)⟩
  have htk:l.take (j+1)=l.take j++[y]:=by rw [List.take_add_one,hy]; rfl
  have hall2:(l.take (j+1)).all digitC=digitC y:=by rw [htk,List.all_append,hall,Bool.true_and]; simp
  have hsplit:l=l.take (j+1)++l.drop (j+1):=(List.take_append_drop _ _).symm
  have nodigit:digitC y=false→natR l=none:=fun h0=>by
   refine hnb ?_
   rw [natB_def,if_pos]
   refine .inr (.inr ?_)
   rw [hsplit,List.all_append,hall2,h0]; rfl
  have toobig:18446744073709551616≤valN (l.take (j+1))→natR l=none:=fun h0=>by
   have hm:=valN_mono (l.drop (j+1)) (l.take (j+1))
   rw [← hsplit] at hm
   unfold natR
   cases hn:natB l with
   | none=>rfl
   | some n =>
    have:=natB_of hn
    simp only
    rw [if_neg (by omega)]
  have hby:byteAt s (Int.toNat (j:Int))=(y.toNat:Int):=by rw [Int.toNat_natCast]; exact byteAt_get (by rw [← hl]; exact hy)
  have hy256:=y.toNat_lt
  refine ⟨fun n2 w3=>w3=w2∧n2=((valN (l.take (j+1)):Nat):Int)∧valN (l.take (j+1))<18446744073709551616∧digitC y=true,?_,?_⟩
  ·rintro n2 w3 ⟨rfl,rfl,h1,h2⟩
   simp only [nameI]
   exact ⟨s.size-(j+1),by omega,j+1,by rw [wrap_id (by omega) (by omega)]; omega,hjl,rfl,by trivial,rfl,h1,by rw [hall2,h2]⟩
  rw [hby]
  refine ⟨fun w3=>w3=w2∧48≤y.toNat∧y.toNat≤57,?_,by omega,by omega,?_⟩
  ·rintro w3 ⟨rfl,hy1,hy2⟩
   have hd:digitC y=true:=by unfold digitC; rw [decide_eq_true hy1,decide_eq_true hy2]; rfl
   refine ⟨by omega,by omega,?_⟩
   simp only [nameI]
   rw [w64 (n:=y.toNat) (by omega) (by omega),show IntKind.wrap .u64 ((y.toNat:Int)-48)=((y.toNat-48:Nat):Int) by rw [show (y.toNat:Int)-48=((y.toNat-48:Nat):Int) by omega]; exact w64 (by omega) (by omega)]
   have hvs:valN (l.take (j+1))=10*valN (l.take j)+(y.toNat-48):=by rw [htk,valN_snoc]
   generalize valN (l.take j)=v at hv hvs ⊢
   refine ⟨fun w4=>w4=w3∧valN (l.take (j+1))<18446744073709551616,?_,?_⟩
   ·rintro w4 ⟨rfl,hlt⟩
    refine ⟨rfl,?_,hlt,hd⟩
    rw [w64 (n:=10*(v:Int)) (by omega) (by omega),w64 (n:=10*(v:Int)+((y.toNat-48:Nat):Int)) (by omega) (by omega),hvs]; omega
   ·have ev:((v:Int) == 1844674407370955161)=decide (v=1844674407370955161):=natEq _ _
    rw [ev]
    refine Sif_cases (fun h1=>Sif_cases (fun h2=>Sif_cases (fun h3=>?_) (fun h3=>⟨rfl,?_⟩)) (fun h2=>⟨rfl,?_⟩)) (fun h1=>?_)
    ·have h2:=of_decide_eq_true h2
     have h3:=of_decide_eq_true h3
     exact bad (toobig (by omega))
    ·have h2:=of_decide_eq_true h2
     have h3:=of_decide_eq_false h3
     omega
    ·rw [Bool.not_eq_true'] at h1
     have h1:=of_decide_eq_false h1
     have h2:=of_decide_eq_false h2
     omega
    ·rw [Bool.not_eq_false'] at h1
     have h1:=of_decide_eq_true h1
     exact bad (toobig (by omega))
  ·refine Sif_cases (fun h1=>⟨by omega,by omega,?_⟩) (fun h1=>?_)
   ·rw [Bool.not_eq_true'] at h1
    have h1:=of_decide_eq_false h1
    refine Sif_cases (fun h2=>?_) (fun h2=>⟨rfl,by omega,by have:=of_decide_eq_false h2; omega⟩)
    have h2:=of_decide_eq_true h2
    exact bad (nodigit (by unfold digitC; rw [decide_eq_false (p:=y.toNat≤57) (by omega),Bool.and_false]))
   ·rw [Bool.not_eq_false'] at h1
    have h1:=of_decide_eq_true h1
    exact bad (nodigit (by unfold digitC; rw [decide_eq_false (p:=48≤y.toNat) (by omega),Bool.false_and]))
 ·have hjl:j=s.size:=by have:=of_decide_eq_false h; omega
  have htl:l.take j=l:=List.take_of_length_le (by omega)
  rw [htl] at hv hall ⊢
  have:natR l=some (valN l):=by
   unfold natR
   rw [natB_def,if_neg (by rintro (e | e | e); exact hne e; exact hhd e; rw [hall] at e; cases e)]
   simp only
   rw [if_pos hv]
  rw [this] at hk
  exact hk
theorem rmost_ok {k:Nat} {w:World} {K:Value→World→Prop} (hk:K (.tuple (Array.mk [.int .u64 ((mostK k).1:Int),.int .u64 ((mostK k).2:Int)])) w) :
 callP Tryz.prog 163 [.int .i64 (k:Int)] w K:=by
 apply ok_longshoreref04_most
 unfold wp_longshoreref04_most
 unfold mostK at hk
 have e:∀ n:Nat,((k:Int) == (n:Int))=decide (k=n):=fun n=>natEq k n
 have e2:((k:Int) == 2)=decide (k=2):=e 2
 have e3:((k:Int) == 3)=decide (k=3):=e 3
 have e4:((k:Int) == 4)=decide (k=4):=e 4
 have e6:((k:Int) == 6)=decide (k=6):=e 6
 have e7:((k:Int) == 7)=decide (k=7):=e 7
 have e8:((k:Int) == 8)=decide (k=8):=e 8
 have e9:((k:Int) == 9)=decide (k=9):=e 9
 have e16:((k:Int) == 16)=decide (k=16):=e 16
 have e15:((k:Int) == 15)=decide (k=15):=e 15
 rw [e2,e3,e4,e6,e7,e8,e9,e16]
 refine Sif_cases (fun h=>by rw [if_pos (of_decide_eq_true h)] at hk; exact hk) (fun h=>?_)
 rw [if_neg (of_decide_eq_false h)] at hk
 refine Sif_cases (fun h=>by rw [if_pos (of_decide_eq_true h)] at hk; exact hk) (fun h=>?_)
 rw [if_neg (of_decide_eq_false h)] at hk
 refine Sif_cases (fun h=>by rw [if_pos (of_decide_eq_true h)] at hk; exact hk) (fun h=>?_)
 rw [if_neg (of_decide_eq_false h)] at hk
 refine Sif_cases (fun h=>by rw [if_pos (of_decide_eq_true h)] at hk; exact hk) (fun h=>?_)
 rw [if_neg (of_decide_eq_false h)] at hk
 refine Sif_cases (fun h=>by rw [if_pos (of_decide_eq_true h)] at hk; exact hk) (fun h=>?_)
 rw [if_neg (of_decide_eq_false h)] at hk
 refine Sif_cases (fun h=>by rw [if_pos (of_decide_eq_true h)] at hk; exact hk) (fun h=>?_)
 rw [if_neg (of_decide_eq_false h)] at hk
 refine ⟨fun b w1=>w1=w∧b=decide (k=9∨k=16),?_,?_⟩
 ·rintro b w1 ⟨rfl,rfl⟩
  rw [e15]
  refine Sif_cases (fun h=>by rw [if_pos (of_decide_eq_true h)] at hk; exact hk) (fun h=>?_)
  rw [if_neg (of_decide_eq_false h)] at hk
  refine Sif_cases (fun h=>by rw [if_pos (of_decide_eq_true h)] at hk; exact hk) (fun h=>?_)
  rw [if_neg (of_decide_eq_false h)] at hk
  exact hk
 ·refine Sif_cases (fun h=>⟨rfl,?_⟩) (fun a1=>⟨rfl,?_⟩)
  ·rw [h,decide_eq_true (.inl (of_decide_eq_true h))]
  ·exact decide_eq_decide.2 ⟨fun e=>.inr e,fun e=>e.resolve_left (of_decide_eq_false a1)⟩
end Go.Proofs.YtnacobknngidkaaGreatDoor
namespace Go.Proofs.YtnacobknngidkaaGreatDoor
open Go Go.Sv Go.Note
set_option linter.unusedVariables false
attribute [local irreducible] Sif
set_option maxRecDepth 4000
theorem mostK_le (k:Nat):(mostK k).1<18446744073709551616∧(mostK k).2≤9223372036854775808:=by
 unfold mostK
 repeat' split
 all_goals exact ⟨by decide,by decide⟩
def IntR (o:Option Nat) (v:Value):Prop:=match o with
 | some n=>v=.tuple (Array.mk [.int .u64 (n:Int),.bool true])
 | none=>∃ z:Int,v=.tuple (Array.mk [.int .u64 z,.bool false])
theorem rinteger_ok {s:ByteArray} (hs:s.size≤2^40) {k:Nat} {w:World} {K:Value→World→Prop} (hk:∀ v,IntR (intB k s.data.toList) v→K v w) :
 callP Tryz.prog 128 [.string s,.int .i64 (k:Int)] w K:=by
 apply ok_longshoreref04_integer
 unfold wp_longshoreref04_integer
 have hsl:=sl s
 obtain ⟨l,hl⟩:∃ l,l=s.data.toList:=⟨_,rfl⟩
 rw [← hl] at hk hsl
 have hm1:=mostK_le k
 refine rmost_ok ⟨_,_,rfl,?_⟩
 obtain ⟨P,hP⟩:∃ P:Prop,P=(0<(mostK k).2∧1<l.length∧l.head?=some 45):=⟨_,rfl⟩
 have hib:P→intB k l=match natB l.tail with
  | some n=>if 0<n∧n≤(mostK k).2 then some (18446744073709551616-n) else none
  | none=>none:=fun h=>by unfold intB; rw [if_pos (hP▸h)]; rfl
 have hib2:¬ P→intB k l=match natB l with
  | some n=>if n≤(mostK k).1∧¬ (k=15∧55296≤n∧n≤57343) then some n else none
  | none=>none:=fun h=>by unfold intB; rw [if_neg (hP▸h)]; rfl
 refine ⟨fun w1=>w1=w∧¬ P,?_,?_⟩
 ·rintro w1 ⟨rfl,hno⟩
  rw [hib2 hno] at hk
  refine rnatural_ok hs ⟨_,_,rfl,?_⟩
  rw [← hl]
  have e15:((k:Int) == 15)=decide (k=15):=natEq k 15
  rw [e15]
  cases hn:natR l with
  | none =>
   have hnone:(match natB l with
    | some n=>if n≤(mostK k).1∧¬ (k=15∧55296≤n∧n≤57343) then some n else none
    | none=>none)=(none:Option Nat):=by
    unfold natR at hn
    cases hb:natB l with
    | none=>rfl
    | some n =>
     rw [hb] at hn
     simp only at hn ⊢
     split at hn
     ·cases hn
     ·rw [if_neg (by omega)]
   rw [hnone] at hk
   refine ⟨fun b1 w2=>w2=w1,?_,Sif_cases (fun h=>Sif_cases (fun h=>rfl) (fun h=>rfl)) (fun h=>rfl)⟩
   rintro b1 w2 rfl
   exact Sif_false (hk _ ⟨_,rfl⟩)
  | some n =>
   have hn2:natB l=some n∧n<18446744073709551616:=by
    unfold natR at hn
    cases hb:natB l with
    | none=>rw [hb] at hn; cases hn
    | some n' =>
     rw [hb] at hn
     simp only at hn
     split at hn
     ·cases hn; exact ⟨rfl,by assumption⟩
     ·cases hn
   rw [hn2.1] at hk
   simp only at hk
   refine ⟨fun b1 w2=>w2=w1∧b1=decide (k=15∧55296≤n∧n≤57343),?_,?_⟩
   ·rintro b1 w2 ⟨rfl,rfl⟩
    refine Sif_true (Sif_cases (fun h=>?_) (fun h=>?_))
    ·have h:n≤(mostK k).1:=by have:=of_decide_eq_true h; simp only [Option.getD_some] at this; omega
     refine hk _ ?_
     by_cases h2:k=15∧55296≤n∧n≤57343
     ·rw [if_neg (fun e=>e.2 h2),decide_eq_true h2]; exact ⟨_,rfl⟩
     ·rw [if_pos ⟨h,h2⟩,decide_eq_false h2]; rfl
    ·have h:¬ n≤(mostK k).1:=by have:=of_decide_eq_false h; simp only [Option.getD_some] at this; omega
     refine hk _ ?_
     rw [if_neg (fun e=>h e.1)]
     exact ⟨_,rfl⟩
   ·refine Sif_cases (fun h=>?_) (fun h=>⟨rfl,?_⟩)
    ·have h:=of_decide_eq_true h
     refine Sif_cases (fun h2=>⟨rfl,?_⟩) (fun h2=>⟨rfl,?_⟩)
     ·have h2:=of_decide_eq_true h2
      simp only [Option.getD_some] at h2 ⊢
      exact decide_eq_decide.2 (by omega)
     ·have h2:=of_decide_eq_false h2
      simp only [Option.getD_some] at h2
      exact (decide_eq_false (by omega)).symm
    ·exact (decide_eq_false (fun e=>of_decide_eq_false h e.1)).symm
 ·refine Sif_cases (fun h=>⟨by omega,by have:=of_decide_eq_true h; omega,?_⟩) (fun h=>⟨rfl,?_⟩)
  ·have h:1<s.size:=by have:=of_decide_eq_true h; omega
   obtain ⟨y,hy⟩:∃ y,l[0]?=some y:=⟨_,List.getElem?_eq_getElem (by omega)⟩
   have hyh:l.head?=some y:=by rw [List.head?_eq_getElem?]; exact hy
   rw [byteAt_get (by rw [← hl]; exact hy)]
   have q45:((y.toNat:Int) == 45)=decide (y=45):=byte_eq y 45 (by omega)
   rw [q45]
   refine Sif_cases (fun h2=>Sif_cases (fun h3=>⟨by omega,by omega,?_⟩) (fun h3=>⟨rfl,?_⟩)) (fun h2=>⟨rfl,?_⟩)
   ·have hPt:P:=by rw [hP]; exact ⟨by have:=of_decide_eq_true h3; omega,by omega,by rw [hyh,of_decide_eq_true h2]⟩
    rw [hib hPt] at hk
    have hx:(s.extract 1 s.size).data.toList=l.tail:=by
     rw [extract_data,← hl,List.take_of_length_le (by rw [List.length_drop]; omega),List.drop_one]
    have hxs:(s.extract 1 s.size).size≤2^40:=by rw [size_of hx,List.length_tail]; omega
    refine rnatural_ok hxs ⟨_,_,rfl,?_⟩
    rw [hx]
    simp only [nameI]
    cases hn:natR l.tail with
    | none =>
     have hnone:(match natB l.tail with
      | some n=>if 0<n∧n≤(mostK k).2 then some (18446744073709551616-n) else none
      | none=>none)=(none:Option Nat):=by
      unfold natR at hn
      cases hb:natB l.tail with
      | none=>rfl
      | some n =>
       rw [hb] at hn
       simp only at hn ⊢
       split at hn
       ·cases hn
       ·rw [if_neg (by omega)]
     rw [hnone] at hk
     exact Sif_false (hk _ ⟨_,rfl⟩)
    | some n =>
     have hn2:natB l.tail=some n∧n<18446744073709551616:=by
      unfold natR at hn
      cases hb:natB l.tail with
      | none=>rw [hb] at hn; cases hn
      | some n' =>
       rw [hb] at hn
       simp only at hn
       split at hn
       ·cases hn; exact ⟨rfl,by assumption⟩
       ·cases hn
     rw [hn2.1] at hk
     simp only at hk
     refine Sif_true (Sif_cases (fun h4=>hk _ ?_) (fun h4=>hk _ ?_))
     ·have h4:=of_decide_eq_true h4
      simp only [Option.getD_some] at h4 ⊢
      by_cases h5:n≤(mostK k).2
      ·rw [if_pos ⟨by omega,h5⟩,decide_eq_true (by omega)]
       have:IntKind.wrap .u64 (0-(n:Int))=((18446744073709551616-n:Nat):Int):=by
        unfold IntKind.wrap
        simp [IntKind.min,IntKind.signed,IntKind.bits]
        omega
       rw [this]; rfl
      ·rw [if_neg (fun e=>h5 e.2),decide_eq_false (by omega)]; exact ⟨_,rfl⟩
     ·have h4:=of_decide_eq_false h4
      simp only [Option.getD_some] at h4 ⊢
      rw [if_neg (fun e=>h4 (by omega))]
      exact ⟨_,rfl⟩
   ·rw [hP]
    exact fun e=>by have:=of_decide_eq_false h3; omega
   ·rw [hP]
    exact fun e=>by rw [hyh] at e; exact of_decide_eq_false h2 (Option.some.inj e.2.2)
  ·rw [hP]
   exact fun e=>by have:=of_decide_eq_false h; omega
theorem rbits_ok {k:Nat} {w:World} {K:Value→World→Prop} (hk:K (.int .i64 (bitsK k:Int)) w):callP Tryz.prog 127 [.int .i64 (k:Int)] w K:=by
 apply ok_longshoreref04_bits
 unfold wp_longshoreref04_bits
 unfold bitsK at hk
 have e:∀ n:Nat,((k:Int) == (n:Int))=decide (k=n):=fun n=>natEq k n
 have e10:((k:Int) == 10)=decide (k=10):=e 10
 have e12:((k:Int) == 12)=decide (k=12):=e 12
 have e11:((k:Int) == 11)=decide (k=11):=e 11
 have e13:((k:Int) == 13)=decide (k=13):=e 13
 have e14:((k:Int) == 14)=decide (k=14):=e 14
 have e17:((k:Int) == 17)=decide (k=17):=e 17
 have or:∀ (i j:Nat) (w1:World),Sif (decide (k=i)) ((fun b w2=>w2=w1∧b=decide (k=i∨k=j)) (decide (k=i)) w1) ((fun b w2=>w2=w1∧b=decide (k=i∨k=j)) (decide (k=j)) w1):=fun i j w1=>by
  refine Sif_cases (fun h=>⟨rfl,?_⟩) (fun a1=>⟨rfl,?_⟩)
  ·rw [h,decide_eq_true (.inl (of_decide_eq_true h))]
  ·exact decide_eq_decide.2 ⟨fun e=>.inr e,fun e=>e.resolve_left (of_decide_eq_false a1)⟩
 rw [e10,e12]
 refine ⟨fun b w1=>w1=w∧b=decide (k=10∨k=12),?_,or 10 12 w⟩
 rintro b w1 ⟨rfl,rfl⟩
 refine Sif_cases (fun h=>by rw [if_pos (of_decide_eq_true h)] at hk; exact hk) (fun h=>?_)
 rw [if_neg (of_decide_eq_false h)] at hk
 rw [e11,e13]
 refine ⟨fun b w2=>w2=w1∧b=decide (k=11∨k=13),?_,or 11 13 w1⟩
 rintro b w2 ⟨rfl,rfl⟩
 refine Sif_cases (fun h=>by rw [if_pos (of_decide_eq_true h)] at hk; exact hk) (fun h=>?_)
 rw [if_neg (of_decide_eq_false h)] at hk
 rw [e14,e17]
 refine ⟨fun b w3=>w3=w2∧b=decide (k=14∨k=17),?_,or 14 17 w2⟩
 rintro b w3 ⟨rfl,rfl⟩
 refine Sif_cases (fun h=>by rw [if_pos (of_decide_eq_true h)] at hk; exact hk) (fun h=>?_)
 rw [if_neg (of_decide_eq_false h)] at hk
 exact hk
end Go.Proofs.YtnacobknngidkaaGreatDoor
namespace Go.Proofs.YtnacobknngidkaaGreatDoor
open Go Go.Sv Go.Note Go.RowKit
set_option linter.unusedVariables false
attribute [local irreducible] Sif
set_option maxRecDepth 4000
theorem pairsB_cons (a b:UInt8) (l:Bs):pairsB (a::b::l)=match unhex a false,unhex b false,pairsB l with
 | some x,some y,some r=>some ((16*x+y).toUInt8::r)
 | _,_,_=>none:=rfl
theorem unhex_lt {x:UInt8} {n:Nat} (h:unhex x false=some n):n<16:=by
 unfold unhex at h
 split at h
 ·cases h; omega
 ·split at h
  ·cases h; omega
  ·split at h
   ·rename_i h3; cases h3.1
   ·cases h
theorem rbytesOf_ok {s:ByteArray} (hs:s.size≤2^40) {many:Nat} (hm:many%2=0) {w:World} {K:Value→World→Prop}
 (hk1:∀ b p c w',bytesB s.data.toList many=some b→Rd w' p b.length 1 (bytesV b)→(∀ a,p=some a→b.length*1≠0→w.heap.size≤a.block)→Ch (fun _=>False) w w'→K (.tuple (Array.mk [.slice p b.length c,.bool true])) w')
 (hk2:∀ p n c w',bytesB s.data.toList many=none→Ch (fun _=>False) w w'→K (.tuple (Array.mk [.slice p n c,.bool false])) w') :
 callP Tryz.prog 129 [.string s,.int .i64 (many:Int)] w K:=by
 apply ok_longshoreref04_bytesOf
 unfold wp_longshoreref04_bytesOf
 have hsl:=sl s
 obtain ⟨l,hl⟩:∃ l,l=s.data.toList:=⟨_,rfl⟩
 rw [← hl] at hk1 hk2 hsl
 rw [int_bne]
 refine Sif_cases (fun h=>?_) (fun h=>?_)
 ·rw [Bool.not_eq_true'] at h
  have h:=of_decide_eq_false h
  exact hk2 _ _ _ w (by unfold bytesB; rw [if_neg (by omega)]) (Ch.refl _ _)
 rw [Bool.not_eq_false'] at h
 have hmany:l.length=many:=by have:=of_decide_eq_true h; omega
 have hbb:bytesB l many=pairsB l:=by unfold bytesB; rw [if_pos hmany]
 rw [hbb] at hk1 hk2
 refine ⟨fun m p n c i w1=>∃ (j:Nat) (acc:Bs),i=((2*j:Nat):Int)∧2*j≤s.size∧m=s.size-2*j∧acc.length=j∧n=acc.length∧Gb w w1 p n c acc none∧pairsB l=(pairsB (l.drop (2*j))).map (acc++·),⟨s.size,0,[],rfl,Nat.zero_le _,rfl,rfl,rfl,⟨none,Ow.nil,(fun _ h=>by cases h),Ch.refl _ _⟩,by simp⟩,?_⟩
 rintro m p n c i w1 ⟨j,acc,rfl,hj,rfl,hacc,rfl,hG,heq⟩
 obtain ⟨b',o',f',d'⟩:=hG
 have d1:Ch (fun _=>False) w w1:=d'.mono fun _ _ h=>by cases h
 rw [wrap_id (n:=((2*j:Nat):Int)+1) (by omega) (by omega)]
 refine Sif_cases (fun hlt=>?_) (fun hge=>?_)
 ·have hjl:2*j+1<s.size:=by have:=of_decide_eq_true hlt; omega
  obtain ⟨y,hy⟩:∃ y,l[2*j]?=some y:=⟨_,List.getElem?_eq_getElem (by omega)⟩
  obtain ⟨z,hz⟩:∃ z,l[2*j+1]?=some z:=⟨_,List.getElem?_eq_getElem (by omega)⟩
  rw [drop_cons hy,drop_cons hz,pairsB_cons] at heq
  refine ⟨fun p1 n2 c1 w2=>∃ acc2:Bs,acc2.length=j+1∧n2=acc2.length∧Gb w w2 p1 n2 c1 acc2 none∧pairsB l=(pairsB (l.drop (2*j+2))).map (acc2++·),?_,by omega,by omega,?_⟩
  ·rintro p1 n2 c1 w2 ⟨acc2,q1,q2,q3,q4⟩
   simp only [nameI]
   exact ⟨s.size-2*(j+1),by omega,j+1,acc2,by rw [wrap_id (by omega) (by omega)]; omega,by omega,rfl,q1,q2,q3,q4⟩
  rw [Int.toNat_natCast,show (((2*j:Nat):Int)+1).toNat=2*j+1 by omega,byteAt_get (by rw [← hl]; exact hy),byteAt_get (by rw [← hl]; exact hz)]
  refine rhex_ok ⟨_,rfl,by omega,by omega,?_⟩
  refine rhex_ok ⟨_,rfl,?_⟩
  cases hu:unhex y false with
  | none =>
   rw [hu] at heq
   refine ⟨fun w4=>False,fun w4 h=>h.elim,?_⟩
   refine Sif_cases (fun h=>by simp [hexI] at h) (fun _=>?_)
   exact hk2 _ _ _ w1 (by rw [heq]; rfl) d1
  | some u =>
   cases hv:unhex z false with
   | none =>
    rw [hu,hv] at heq
    refine ⟨fun w4=>False,fun w4 h=>h.elim,?_⟩
    refine Sif_cases (fun h=>Sif_cases (fun _=>?_) (fun h=>by simp [hexI] at h)) (fun _=>?_)
    ·exact hk2 _ _ _ w1 (by rw [heq]; rfl) d1
    ·exact hk2 _ _ _ w1 (by rw [heq]; rfl) d1
   | some v =>
    rw [hu,hv] at heq
    have hu16:=unhex_lt hu
    have hv16:=unhex_lt hv
    refine ⟨fun w4=>w4=w1,?_,?_⟩
    ·rintro w4 rfl
     have hx:IntKind.wrap .u8 (IntKind.wrap .i64 (IntKind.wrap .i64 (16*hexI (some u))+hexI (some v)))=(((16*u+v).toUInt8).toNat:Int):=by
      have e1:hexI (some u)=(u:Int):=rfl
      have e2:hexI (some v)=(v:Int):=rfl
      rw [e1,e2,wrap_id (n:=16*(u:Int)) (by omega) (by omega),wrap_id (by omega) (by omega)]
      have:(16*u+v).toUInt8.toNat=16*u+v:=by
       simp only [Nat.toUInt8,UInt8.toNat_ofNat']
       omega
      rw [this]
      unfold IntKind.wrap
      simp [IntKind.bits,IntKind.signed]
      omega
     rw [hx]
     refine push_ok (g:=fun x:UInt8=>[Value.int .u8 (x.toNat:Int)]) (te:=5) (ty:=55) uBytes iByte' rfl (fun _=>rfl) (fun x v hv=>by simp only [List.mem_singleton] at hv; subst hv; rfl) (L:=acc) (by rw [bytesV_flat]; exact o') ((16*u+v).toUInt8) (by omega) (by omega) fun p2 c2 b2 w2 o2 f2 d2=>?_
     refine ⟨acc++[(16*u+v).toUInt8],by simp [hacc],by simp,?_,?_⟩
     ·rw [bytesV_flat] at o2
      have:=Gb.trans (p1:=p) (n1:=acc.length) (c1:=c) f' d' ⟨b2,o2,f2,d2⟩
      simpa using this
     ·rw [heq]
      cases pairsB (l.drop (2*j+1+1)) with
      | none=>rfl
      | some r=>simp
    ·rw [show hexI (some u)=(u:Int) from rfl,show hexI (some v)=(v:Int) from rfl]
     exact Sif_cases (fun _=>Sif_cases (fun h=>absurd (of_decide_eq_true h) (by omega)) (fun _=>rfl)) (fun h=>by rw [Bool.not_eq_false'] at h; exact absurd (of_decide_eq_true h) (by omega))
 ·have hjl:2*j=s.size:=by have:=of_decide_eq_false hge; have:¬ (2*j+1<s.size):=fun h=>this (by omega); omega
  rw [hjl,List.drop_of_length_le (l:=l) (i:=s.size) (by omega)] at heq
  have heq:pairsB l=some acc:=by rw [heq]; simp [pairsB]
  refine hk1 acc _ _ w1 heq o'.rd (fun a ha h0=>?_) d1
  obtain ⟨_,hle,h3⟩:=o'
  rcases h3 with ⟨_,h3⟩ | ⟨k,o,cs,hb,hp,_⟩
  ·omega
  ·rw [hp] at ha; cases ha
   rcases f' k hb with e | e
   ·cases e
   ·exact e
theorem rworded_ok {sz k:Nat} {t:Tok} (ht:t.kind=2→t.text.length≤2^40) {w:World} {K:Value→World→Prop} (hk:∀ v w',Fo sz w' (worded k t) v→Ch (fun _=>False) w w'→K v w') :
 callP Tryz.prog 81 [.int .i64 (k:Int),tkv t] w K:=by
 apply ok_longshoreref04_worded
 unfold wp_longshoreref04_worded
 refine newB_blk fun w1 b1 c1 z1=>newB_blk fun w2 b2 c2 z2=>?_
 have b12:blk w2 w.heap.size=some (tkg t):=(c2.blk (blk_lt b1) id).trans b1
 have c12:=c1.trans' c2
 have go:∀ e:Nat,e≠0→worded k t=amiss t e→callP Tryz.prog 46 [tkv t,.int .i64 (e:Int)] w2 fun v1 w4=>∃ y0 y1 y2 q3 m3 c3 y4 y5 y6,v1=.agg (Array.mk [.int .i64 y0,.int .u64 y1,.string y2,.slice q3 m3 c3,.int .i64 y4,.int .i64 y5,.int .i64 y6]) ∧
  (Sv.st w4 (Addr.add ⟨w1.heap.size,0,none⟩ 0) (.int .i64 y0) fun w5=>Sv.st w5 (Addr.add ⟨w1.heap.size,0,none⟩ 1) (.int .u64 y1) fun w6=>Sv.st w6 (Addr.add ⟨w1.heap.size,0,none⟩ 2) (.string y2) fun w7=>Sv.st w7 (Addr.add ⟨w1.heap.size,0,none⟩ 3) (.slice q3 m3 c3) fun w8=>Sv.st w8 (Addr.add ⟨w1.heap.size,0,none⟩ 4) (.int .i64 y4) fun w9=>Sv.st w9 (Addr.add ⟨w1.heap.size,0,none⟩ 5) (.int .i64 y5) fun w10=>Sv.st w10 (Addr.add ⟨w1.heap.size,0,none⟩ 6) (.int .i64 y6) fun w11 =>
    ∃ y0,w11.cell? (Addr.add ⟨w1.heap.size,0,none⟩ 0)=some (.int .i64 y0)∧∃ y1,w11.cell? (Addr.add ⟨w1.heap.size,0,none⟩ 1)=some (.int .u64 y1)∧∃ y2,w11.cell? (Addr.add ⟨w1.heap.size,0,none⟩ 2)=some (.string y2)∧∃ q3 m3 c3,w11.cell? (Addr.add ⟨w1.heap.size,0,none⟩ 3)=some (.slice q3 m3 c3)∧∃ y4,w11.cell? (Addr.add ⟨w1.heap.size,0,none⟩ 4)=some (.int .i64 y4)∧∃ y5,w11.cell? (Addr.add ⟨w1.heap.size,0,none⟩ 5)=some (.int .i64 y5)∧∃ y6,w11.cell? (Addr.add ⟨w1.heap.size,0,none⟩ 6)=some (.int .i64 y6)∧K (.agg (Array.mk [.int .i64 y0,.int .u64 y1,.string y2,.slice q3 m3 c3,.int .i64 y4,.int .i64 y5,.int .i64 y6])) w11):=fun e he hw=>by
  refine ramiss_ok he fun w4 c4=>tup7 ?_
  have b24:=(c4.blk (blk_lt b2) id).trans b2
  refine st7 (x:=mv0) b24 rfl fun w5 b5 c5 z5=>ld7 b5 ?_
  exact hk _ w5 (by rw [hw]; exact foAmiss he) ((c12.trans' c4).trans c5 fun x hx h=>by omega)
 refine ⟨_,(by simp only [add_at,Nat.zero_add]; exact cellK b12 0 rfl),?_⟩
 have e2:((t.kind:Int) != 2)=!decide (t.kind=2):=by rw [bne,show ((t.kind:Int) == 2)=decide (t.kind=2) from natEq _ 2]
 rw [e2]
 refine Sif_cases (fun h=>?_) (fun h=>?_)
 ·rw [Bool.not_eq_true'] at h
  refine ld4 (K:=fun v w2=>callP Tryz.prog 46 [v,.int .i64 42] w2 _) b12 ?_
  exact go 42 (by decide) (by unfold worded; rw [if_pos (of_decide_eq_false h)])
 rw [Bool.not_eq_false'] at h
 have ht:=ht (of_decide_eq_true h)
 have hk2:=of_decide_eq_true h
 refine ⟨_,(by simp only [add_at,Nat.zero_add]; exact cellK b12 3 rfl),?_⟩
 refine Utf8_ok (by rw [str_size]; omega) fun r1 hr1=>⟨_,rfl,?_⟩
 refine ⟨_,(by simp only [add_at,Nat.zero_add]; exact cellK b12 3 rfl),?_⟩
 refine Ascii_ok (by rw [str_size]; omega) fun r2 hr2=>⟨_,rfl,?_⟩
 rw [str_list] at hr1 hr2
 have p1:(r1 != -1)=!textB t.text:=by
  cases ht:textB t.text with
  | true=>rw [hr1.1 ht]; rfl
  | false=>rw [bne_iff_ne.2 (by have:=hr1.2 ht; omega)]; rfl
 have p2:(r2 != -1)=!asciiB t.text:=by
  cases ht:asciiB t.text with
  | true=>rw [hr2.1 ht]; rfl
  | false=>rw [bne_iff_ne.2 (by have:=hr2.2 ht; omega)]; rfl
 have e19:((k:Int) == 19)=decide (k=19):=natEq k 19
 have e20:((k:Int) == 20)=decide (k=20):=natEq k 20
 rw [p1,p2,e19,e20]
 have bad:(k=19∧textB t.text=false)∨(k=20∧asciiB t.text=false)→worded k t=amiss t 22:=fun h=>by
  unfold worded; rw [if_neg (fun e=>e hk2),if_pos h]
 refine ⟨fun w3=>w3=w2∧¬ ((k=19∧textB t.text=false)∨(k=20∧asciiB t.text=false)),?_,?_⟩
 ·rintro w3 ⟨rfl,hno⟩
  refine ⟨_,(by simp only [add_at,Nat.zero_add]; exact cellK b12 3 rfl),_,(by simp only [add_at,Nat.zero_add]; exact cellK b12 2 rfl),?_⟩
  refine st7 (x:=.mk (k:Int) 0 t.text ⟨none,0,0,none⟩ 0 []) b2 rfl fun w5 b5 c5 z5=>ld7 b5 ?_
  refine hk _ w5 ?_ (c12.trans c5 fun x hx h=>by omega)
  unfold worded
  rw [if_neg (fun e=>e hk2),if_neg hno]
  exact ⟨_,rfl,by rw [MV.m_mk]; rfl,VO.none,by rw [MV.B_mk]; simp⟩
 ·refine Sif_cases (fun g1=>Sif_cases (fun g2=>?_) (fun g2=>?_)) (fun g1=>?_)
  ·have h19:k=19→textB t.text=true:=fun _=>by rw [Bool.not_not] at g2; exact g2
   refine Sif_cases (fun h1=>Sif_cases (fun h2=>?_) (fun h2=>⟨rfl,?_⟩)) (fun h1=>⟨rfl,?_⟩)
   ·rw [Bool.not_eq_true'] at h2
    refine ld4 (K:=fun v w2=>callP Tryz.prog 46 [v,.int .i64 22] w2 _) b12 ?_
    exact go 22 (by decide) (bad (.inr ⟨of_decide_eq_true h1,h2⟩))
   ·rw [Bool.not_eq_false'] at h2
    rintro (⟨e1,e2⟩ | ⟨e1,e2⟩)
    ·rw [h19 e1] at e2; cases e2
    ·rw [h2] at e2; cases e2
   ·have h1:=of_decide_eq_false h1
    rintro (⟨e1,e2⟩ | ⟨e1,e2⟩)
    ·rw [h19 e1] at e2; cases e2
    ·exact h1 e1
  ·rw [Bool.not_not] at g2
   refine ld4 (K:=fun v w2=>callP Tryz.prog 46 [v,.int .i64 22] w2 _) b12 ?_
   exact go 22 (by decide) (bad (.inl ⟨of_decide_eq_true g1,g2⟩))
  ·have h19:k=19→textB t.text=true:=fun e=>absurd e (of_decide_eq_false g1)
   refine Sif_cases (fun h1=>Sif_cases (fun h2=>?_) (fun h2=>⟨rfl,?_⟩)) (fun h1=>⟨rfl,?_⟩)
   ·rw [Bool.not_eq_true'] at h2
    refine ld4 (K:=fun v w2=>callP Tryz.prog 46 [v,.int .i64 22] w2 _) b12 ?_
    exact go 22 (by decide) (bad (.inr ⟨of_decide_eq_true h1,h2⟩))
   ·rw [Bool.not_eq_false'] at h2
    rintro (⟨e1,e2⟩ | ⟨e1,e2⟩)
    ·rw [h19 e1] at e2; cases e2
    ·rw [h2] at e2; cases e2
   ·have h1:=of_decide_eq_false h1
    rintro (⟨e1,e2⟩ | ⟨e1,e2⟩)
    ·rw [h19 e1] at e2; cases e2
    ·exact h1 e1
end Go.Proofs.YtnacobknngidkaaGreatDoor
namespace Go.Proofs.YtnacobknngidkaaGreatDoor
open Go Go.Sv Go.Note Go.RowKit
set_option linter.unusedVariables false
attribute [local irreducible] Sif
set_option maxRecDepth 4000
theorem amiss_ret {t:Tok} {e:Nat} (he:e≠0) {w3:World} {b:Nat} {zs:List Value} (hb:blk w3 b=some zs) (hl:zs.length=7) {K:Value→World→Prop} (hk:∀ w5,Ch (·=b) w3 w5→K (fdv mv0 (t.beg:Int) ((if t.kind=5 then 42 else e:Nat):Int)) w5) :
 callP Tryz.prog 46 [tkv t,.int .i64 (e:Int)] w3 fun v1 w4=>∃ y0 y1 y2 q3 m3 c3 y4 y5 y6,v1=.agg (Array.mk [.int .i64 y0,.int .u64 y1,.string y2,.slice q3 m3 c3,.int .i64 y4,.int .i64 y5,.int .i64 y6]) ∧
  (Sv.st w4 (Addr.add ⟨b,0,none⟩ 0) (.int .i64 y0) fun w5=>Sv.st w5 (Addr.add ⟨b,0,none⟩ 1) (.int .u64 y1) fun w6=>Sv.st w6 (Addr.add ⟨b,0,none⟩ 2) (.string y2) fun w7=>Sv.st w7 (Addr.add ⟨b,0,none⟩ 3) (.slice q3 m3 c3) fun w8=>Sv.st w8 (Addr.add ⟨b,0,none⟩ 4) (.int .i64 y4) fun w9=>Sv.st w9 (Addr.add ⟨b,0,none⟩ 5) (.int .i64 y5) fun w10=>Sv.st w10 (Addr.add ⟨b,0,none⟩ 6) (.int .i64 y6) fun w11 =>
    ∃ y0,w11.cell? (Addr.add ⟨b,0,none⟩ 0)=some (.int .i64 y0)∧∃ y1,w11.cell? (Addr.add ⟨b,0,none⟩ 1)=some (.int .u64 y1)∧∃ y2,w11.cell? (Addr.add ⟨b,0,none⟩ 2)=some (.string y2)∧∃ q3 m3 c3,w11.cell? (Addr.add ⟨b,0,none⟩ 3)=some (.slice q3 m3 c3)∧∃ y4,w11.cell? (Addr.add ⟨b,0,none⟩ 4)=some (.int .i64 y4)∧∃ y5,w11.cell? (Addr.add ⟨b,0,none⟩ 5)=some (.int .i64 y5)∧∃ y6,w11.cell? (Addr.add ⟨b,0,none⟩ 6)=some (.int .i64 y6)∧K (.agg (Array.mk [.int .i64 y0,.int .u64 y1,.string y2,.slice q3 m3 c3,.int .i64 y4,.int .i64 y5,.int .i64 y6])) w11):=by
 refine ramiss_ok he fun w4 c4=>tup7 ?_
 have b24:=(c4.blk (blk_lt hb) id).trans hb
 refine st7 (x:=mv0) b24 hl fun w5 b5 c5 z5=>ld7 b5 ?_
 exact hk w5 ((c4.mono fun _ _ h=>h.elim).trans' c5)
theorem rnumbered_ok {s:ByteArray} (hs:s.size≤2^40) {sz k f:Nat} (hf:f≤s.size) {w:World} {K:Value→World→Prop} (hk:∀ v w',Fo sz w' (numbered s.data.toList k f) v→Ch (fun _=>False) w w'→K v w') :
 callP Tryz.prog 86 [.string s,.int .i64 (k:Int),.int .i64 (f:Int)] w K:=by
 apply ok_longshoreref04_numbered
 unfold wp_longshoreref04_numbered
 have hsl:=sl s
 refine newB_blk fun w1 b1 c1 z1=>?_
 refine rnext_ok hs hf fun w2 c2=>?_
 obtain ⟨t,ht⟩:∃ t,t=next s.data.toList f:=⟨_,rfl⟩
 have hlies:=next_lies s.data.toList f (by omega)
 rw [← ht] at hlies ⊢
 refine tup4 (nb4 rfl fun w7 b7 c7 z7=>?_)
 have c17:=(c1.trans' c2).trans' c7
 have b17:=((c2.trans' c7).blk (blk_lt b1) id).trans b1
 have hnum:numbered s.data.toList k f=if t.kind≠1 then amiss t 41
  else if bitsK k=0 then (match intB k t.text with
   | some n=>.ok (.mk k n [] 0 []) t.fin
   | none=>amiss t 41)
  else (match bytesB t.text (bitsK k) with
   | some b=>if bitsK k=32 then .ok (.mk k 0 b 0 []) t.fin else .ok (.mk k (beN b) [] 0 []) t.fin
   | none=>amiss t 41):=by rw [ht]; rfl
 rw [hnum] at hk
 have hz0:=c2.size
 have hz7:=c7.size
 have back:∀ {w3 w5:World},Ch (fun _=>False) w w3→Ch (·=w.heap.size) w3 w5→Ch (fun _=>False) w w5:=fun c d=>c.trans d fun x hx h=>by omega
 refine ⟨_,(by simp only [add_at,Nat.zero_add]; exact cellK b7 0 rfl),?_⟩
 have e1:((t.kind:Int) != 1)=!decide (t.kind=1):=by rw [bne,show ((t.kind:Int) == 1)=decide (t.kind=1) from natEq _ 1]
 rw [e1]
 refine Sif_cases (fun h=>?_) (fun h=>?_)
 ·rw [Bool.not_eq_true'] at h
  rw [if_pos (of_decide_eq_false h)] at hk
  refine ld4 (K:=fun v w2=>callP Tryz.prog 46 [v,.int .i64 41] w2 _) b7 ?_
  exact amiss_ret (by decide) b17 rfl fun w5 c5=>hk _ w5 (foAmiss (by decide)) (back c17 c5)
 rw [Bool.not_eq_false'] at h
 rw [if_neg (fun e=>e (of_decide_eq_true h))] at hk
 obtain ⟨v0,hv0⟩:∃ v0:MV,v0=.mk (k:Int) 0 [] ⟨none,0,0,none⟩ 0 []:=⟨_,rfl⟩
 refine nbx (x:=.mk (k:Int) 0 [] ⟨none,0,0,none⟩ 0 []) rfl fun w13 b13 c13 z13=>?_
 have c113:=c17.trans' c13
 have b113:=(c13.blk (blk_lt b17) id).trans b17
 have b713:=(c13.blk (blk_lt b7) id).trans b7
 refine rbits_ok ⟨_,rfl,?_⟩
 have e0:((bitsK k:Int) == 0)=decide (bitsK k=0):=natEq _ 0
 rw [e0]
 have htl:t.text.length≤2^40:=by
  have:=(next_text s.data.toList (a:=f) (by omega)).1
  rw [← ht] at this
  have h1:=of_decide_eq_true h
  have:=this (by omega) (by omega)
  omega
 refine Sif_cases (fun h0=>?_) (fun h0=>?_)
 ·rw [if_pos (of_decide_eq_true h0)] at hk
  refine ⟨_,(by simp only [add_at,Nat.zero_add]; exact cellK b713 3 rfl),?_⟩
  refine rinteger_ok (by rw [str_size]; exact htl) fun v hv=>?_
  rw [str_list] at hv
  cases hi:intB k t.text with
  | none =>
   rw [hi] at hv hk
   obtain ⟨z,rfl⟩:=hv
   refine ⟨_,_,rfl,Sif_true ?_⟩
   refine ld4 (K:=fun v w2=>callP Tryz.prog 46 [v,.int .i64 41] w2 _) b713 ?_
   exact amiss_ret (by decide) b113 rfl fun w5 c5=>hk _ w5 (foAmiss (by decide)) (back c113 c5)
  | some n =>
   rw [hi] at hv hk
   have hv:v=.tuple (Array.mk [.int .u64 (n:Int),.bool true]):=hv
   subst hv
   refine ⟨_,_,rfl,Sif_false ?_⟩
   simp only [add_at,Nat.zero_add,Nat.add_zero]
   refine st_blk b13 (by simp [MV.g]) fun w16 b16 c16 z16=>?_
   have b16:blk w16 w7.heap.size=some (MV.mk (k:Int) n [] ⟨none,0,0,none⟩ 0 []).g:=b16
   have b716:=(c16.blk (blk_lt b713) (by omega)).trans b713
   have b116:=(c16.blk (blk_lt b113) (by omega)).trans b113
   refine ⟨_,cellK b16 0 rfl,_,cellK b16 1 rfl,_,cellK b16 2 rfl,_,_,_,cellK b16 3 rfl,_,cellK b16 4 rfl,_,cellK b716 2 rfl,?_⟩
   have S:=st7 (x:=.mk (k:Int) n [] ⟨none,0,0,none⟩ 0 []) (a:=(t.fin:Int)) (e:=0) b116 rfl (K:=fun w5=>_) (fun w5 b5 c5 z5=>ld7 (K:=K) b5 (hk _ w5 ⟨_,rfl,by rw [MV.m_mk]; rfl,VO.none,by rw [MV.B_mk]; simp⟩ ((c113.trans c16 fun x hx h=>by omega).trans c5 fun x hx h=>by omega)))
   simp only [add_at,Nat.zero_add] at S
   exact S
 ·have h0:=of_decide_eq_false h0
  rw [if_neg h0] at hk
  have hbk:bitsK k=8∨bitsK k=16∨bitsK k=32:=by
   unfold bitsK at h0 ⊢
   split
   ·exact .inl rfl
   ·split
    ·exact .inr (.inl rfl)
    ·split
     ·exact .inr (.inr rfl)
     ·rename_i q1 q2 q3
      rw [if_neg q1,if_neg q2,if_neg q3] at h0
      exact absurd rfl h0
  refine ⟨_,(by simp only [add_at,Nat.zero_add]; exact cellK b713 3 rfl),?_⟩
  refine rbytesOf_ok (by rw [str_size]; exact htl) (by omega) (fun b p c w15 hb hrd hnew c15=>?_) (fun p n c w15 hb c15=>?_)
  ·rw [str_list] at hb
   rw [hb] at hk
   have hbl:bitsK k=2*b.length:=by
    unfold bytesB at hb
    split at hb
    ·rename_i hl
     have:=pairsB_len _ t.text b rfl hb
     omega
    ·cases hb
   have c115:=c113.trans' c15
   have b115:=(c15.blk (blk_lt b113) id).trans b113
   have b715:=(c15.blk (blk_lt b713) id).trans b713
   have b15:=(c15.blk (blk_lt b13) id).trans b13
   refine ⟨_,_,_,_,rfl,Sif_false ?_⟩
   have e32:((bitsK k:Int) == 32)=decide (bitsK k=32):=natEq _ 32
   rw [e32]
   refine Sif_cases (fun h32=>?_) (fun h32=>?_)
   ·simp only at hk
    rw [if_pos (of_decide_eq_true h32)] at hk
    refine ⟨_,toString_run uBytes uByte uString hrd,?_⟩
    simp only [add_at,Nat.zero_add,Nat.add_zero]
    refine st_blk b15 (by simp [MV.g]) fun w16 b16 c16 z16=>?_
    have b16:blk w16 w7.heap.size=some (MV.mk (k:Int) 0 b ⟨none,0,0,none⟩ 0 []).g:=b16
    have b716:=(c16.blk (blk_lt b715) (by omega)).trans b715
    have b116:=(c16.blk (blk_lt b115) (by omega)).trans b115
    refine ⟨_,cellK b16 0 rfl,_,cellK b16 1 rfl,_,cellK b16 2 rfl,_,_,_,cellK b16 3 rfl,_,cellK b16 4 rfl,_,cellK b716 2 rfl,?_⟩
    have S:=st7 (x:=.mk (k:Int) 0 b ⟨none,0,0,none⟩ 0 []) (a:=(t.fin:Int)) (e:=0) b116 rfl (K:=fun w5=>_) (fun w5 b5 c5 z5=>ld7 (K:=K) b5 (hk _ w5 ⟨_,rfl,by rw [MV.m_mk]; rfl,VO.none,by rw [MV.B_mk]; simp⟩ ((c115.trans c16 fun x hx h=>by omega).trans c5 fun x hx h=>by omega)))
    simp only [add_at,Nat.zero_add] at S
    exact S
   ·have h32:=of_decide_eq_false h32
    simp only at hk
    rw [if_neg h32] at hk
    have hbl8:b.length≤8:=by omega
    have hz13:=c13.size
    refine ⟨fun m i w16=>∃ j:Nat,i=(j:Int)∧j≤b.length∧m=b.length-j∧blk w16 w7.heap.size=some (MV.mk (k:Int) (beN (b.take j)) [] ⟨none,0,0,none⟩ 0 []).g∧Ch (·=w7.heap.size) w15 w16,⟨b.length,0,rfl,Nat.zero_le _,rfl,b15,Ch.refl _ _⟩,?_⟩
    rintro m i w16 ⟨j,rfl,hj,rfl,b16,c16⟩
    have b716:=(c16.blk (blk_lt b715) (by omega)).trans b715
    have b116:=(c16.blk (blk_lt b115) (by omega)).trans b115
    refine Sif_cases (fun hlt=>?_) (fun hge=>?_)
    ·have hjl:j<b.length:=by have:=of_decide_eq_true hlt; omega
     obtain ⟨y,hy⟩:∃ y,b[j]?=some y:=⟨_,List.getElem?_eq_getElem hjl⟩
     have hrd16:Rd w16 p b.length 1 (bytesV b):=hrd.ch c16 fun a ha h0=>by have:=hnew a ha h0; omega
     obtain ⟨bk,off,rfl,hcell⟩:=hrd16.cell (i:=j) (by omega)
     have hcv:(bytesV b)[j]?=some (.int .u8 (y.toNat:Int)):=by unfold bytesV; rw [List.getElem?_map,hy]; rfl
     rw [hcv] at hcell
     refine ⟨by omega,by omega,?_⟩
     simp only [nn,add_at,Nat.zero_add,Nat.add_zero,Int.toNat_natCast,Nat.mul_one]
     refine ⟨_,cellK (w:=w16.drew) b16 1 rfl,_,hcell,?_⟩
     have b16d:blk w16.drew w7.heap.size=some (MV.mk (k:Int) (beN (b.take j)) [] ⟨none,0,0,none⟩ 0 []).g:=b16
     have hlt8:beN (b.take (j+1))<256^(j+1):=by
      have:=beN_lt (b.take (j+1))
      rwa [List.length_take,Nat.min_eq_left (by omega)] at this
     have hp8:256^(j+1)≤256^8:=Nat.pow_le_pow_right (by decide) (by omega)
     have h8:(256:Nat)^8=18446744073709551616:=by decide
     have hsn:beN (b.take (j+1))=256*beN (b.take j)+y.toNat:=by rw [List.take_add_one,hy]; exact beN_snoc _ _
     have hy256:=y.toNat_lt
     refine st_blk b16d (by simp [MV.g]) fun w17 b17 c17' z17=>?_
     have hnv:IntKind.wrap .u64 (IntKind.wrap .u64 (256*((beN (b.take j):Nat):Int))+IntKind.wrap .u64 (y.toNat:Int))=((beN (b.take (j+1)):Nat):Int):=by
      rw [w64 (n:=256*((beN (b.take j):Nat):Int)) (by omega) (by omega),w64 (n:=(y.toNat:Int)) (by omega) (by omega),w64 (by omega) (by omega),hsn]; omega
     simp only [nameI]
     refine ⟨b.length-(j+1),by omega,j+1,by rw [wrap_id (by omega) (by omega)]; omega,hjl,rfl,?_,(c16.trans' (Ch.drew _)).trans' c17'⟩
     rw [b17]
     show some [Value.int .i64 (k:Int),.int .u64 (IntKind.wrap .u64 (IntKind.wrap .u64 (256*((beN (b.take j):Nat):Int))+IntKind.wrap .u64 (y.toNat:Int))),_,_,_]=some [Value.int .i64 (k:Int),.int .u64 ((beN (b.take (j+1)):Nat):Int),_,_,_]
     rw [hnv]
    ·have hjl:j=b.length:=by have:=of_decide_eq_false hge; omega
     rw [hjl,List.take_length] at b16
     simp only [add_at,Nat.zero_add,Nat.add_zero]
     refine ⟨_,cellK b16 0 rfl,_,cellK b16 1 rfl,_,cellK b16 2 rfl,_,_,_,cellK b16 3 rfl,_,cellK b16 4 rfl,_,cellK b716 2 rfl,?_⟩
     have S:=st7 (x:=.mk (k:Int) (beN b) [] ⟨none,0,0,none⟩ 0 []) (a:=(t.fin:Int)) (e:=0) b116 rfl (K:=fun w5=>_) (fun w5 b5 c5 z5=>ld7 (K:=K) b5 (hk _ w5 ⟨_,rfl,by rw [MV.m_mk]; rfl,VO.none,by rw [MV.B_mk]; simp⟩ ((c115.trans c16 fun x hx h=>by omega).trans c5 fun x hx h=>by omega)))
     simp only [add_at,Nat.zero_add] at S
     exact S
  ·rw [str_list] at hb
   rw [hb] at hk
   have c115:=c113.trans' c15
   have b115:=(c15.blk (blk_lt b113) id).trans b113
   have b715:=(c15.blk (blk_lt b713) id).trans b713
   refine ⟨_,_,_,_,rfl,Sif_true ?_⟩
   refine ld4 (K:=fun v w2=>callP Tryz.prog 46 [v,.int .i64 41] w2 _) b715 ?_
   exact amiss_ret (by decide) b115 rfl fun w5 c5=>hk _ w5 (foAmiss (by decide)) (back c115 c5)
end Go.Proofs.YtnacobknngidkaaGreatDoor
namespace Go.Proofs.YtnacobknngidkaaGreatDoor
open Go Go.Sv Go.Note Go.RowKit
set_option linter.unusedVariables false
attribute [local irreducible] Sif
set_option maxRecDepth 4000
theorem rkindOf_ok {t:Bs} {w:World} {K:Value→World→Prop} (hk:∀ w',Ch (fun _=>False) w w'→K (.int .i64 (hexI (kindN t))) w') :
 callP Tryz.prog 123 [.string ⟨t.toArray⟩] w K:=by
 apply ok_longshoreref04_kindOf
 unfold wp_longshoreref04_kindOf
 refine ⟨fun m i w1=>∃ j:Nat,i=(j:Int)∧j≤25∧m=25-j∧Ch (fun _=>False) w w1∧∀ q:Nat,q<j→nameK (q:Int)≠t,⟨25,0,rfl,by omega,rfl,Ch.refl _ _,fun q h=>by omega⟩,?_⟩
 rintro m i w1 ⟨j,rfl,hj,rfl,c1,hall⟩
 refine Sif_cases (fun h=>?_) (fun h=>?_)
 ·have hjl:j<25:=by have:=of_decide_eq_true h; omega
  refine rName_ok hjl fun w2 c2=>⟨_,rfl,?_⟩
  rw [bs_eq]
  refine Sif_cases (fun h1=>?_) (fun h1=>?_)
  ·have:=hk w2 (c1.trans' c2)
   rw [kindN_some.2 ⟨hjl,of_decide_eq_true h1,hall⟩] at this
   exact this
  ·simp only [nameI]
   refine ⟨25-(j+1),by omega,j+1,by rw [wrap_id (by omega) (by omega)]; omega,hjl,rfl,c1.trans' c2,fun q hq=>?_⟩
   by_cases e:q=j
   ·subst e; exact of_decide_eq_false h1
   ·exact hall q (by omega)
 ·have hjl:j=25:=by have:=of_decide_eq_false h; omega
  subst hjl
  have:=hk w1 c1
  rw [kindN_none hall] at this
  exact this
theorem rbegins_ok {t:Tok} {w:World} {K:Value→World→Prop} (hk:∀ w',Ch (fun _=>False) w w'→K (.int .i64 (hexI (begins t))) w') :
 callP Tryz.prog 79 [tkv t] w K:=by
 apply ok_longshoreref04_begins
 unfold wp_longshoreref04_begins
 refine newB_blk fun w1 b1 c1 z1=>?_
 have b1:blk w1 w.heap.size=some (tkg t):=b1
 unfold begins at hk
 simp only [add_at,Nat.zero_add]
 have e2:((t.kind:Int) == 2)=decide (t.kind=2):=natEq _ 2
 have e3:((t.kind:Int) == 3)=decide (t.kind=3):=natEq _ 3
 have e1:((t.kind:Int) != 1)=!decide (t.kind=1):=by rw [bne,show ((t.kind:Int) == 1)=decide (t.kind=1) from natEq _ 1]
 refine ⟨_,cellK b1 0 rfl,?_⟩
 rw [e2]
 refine Sif_cases (fun h=>by have:=hk w1 c1; rw [if_pos (of_decide_eq_true h)] at this; exact this) (fun h=>⟨_,cellK b1 0 rfl,?_⟩)
 rw [if_neg (of_decide_eq_false h)] at hk
 rw [e3]
 refine Sif_cases (fun h=>⟨_,cellK b1 3 rfl,?_⟩) (fun h=>⟨_,cellK b1 0 rfl,?_⟩)
 ·rw [if_pos (of_decide_eq_true h)] at hk
  have hk:=hk w1 c1
  rw [show (ByteArray.mk (Array.mk [(91:UInt8)]))=⟨([91]:Bs).toArray⟩ by rfl,show (ByteArray.mk (Array.mk [(123:UInt8)]))=⟨([123]:Bs).toArray⟩ by rfl,show (ByteArray.mk (Array.mk [(40:UInt8)]))=⟨([40]:Bs).toArray⟩ by rfl,bs_eq,bs_eq,bs_eq]
  refine Sif_cases (fun h1=>by rw [if_pos (of_decide_eq_true h1)] at hk; exact hk) (fun h1=>?_)
  rw [if_neg (of_decide_eq_false h1)] at hk
  refine Sif_cases (fun h1=>by rw [if_pos (of_decide_eq_true h1)] at hk; exact hk) (fun h1=>?_)
  rw [if_neg (of_decide_eq_false h1)] at hk
  refine Sif_cases (fun h1=>by rw [if_pos (of_decide_eq_true h1)] at hk; exact hk) (fun h1=>?_)
  rw [if_neg (of_decide_eq_false h1)] at hk
  exact hk
 rw [if_neg (of_decide_eq_false h)] at hk
 rw [e1]
 refine Sif_cases (fun h=>?_) (fun h=>?_)
 ·rw [Bool.not_eq_true'] at h
  have:=hk w1 c1
  rw [if_pos (of_decide_eq_false h)] at this; exact this
 rw [Bool.not_eq_false'] at h
 rw [if_neg (fun e=>e (of_decide_eq_true h))] at hk
 refine ⟨fun w2=>w2=w1∧¬ (t.text=[116,114,117,101]∨t.text=[102,97,108,115,101]),?_,?_⟩
 ·rintro w2 ⟨rfl,hno⟩
  rw [if_neg hno] at hk
  refine ⟨_,cellK b1 3 rfl,?_⟩
  refine rkindOf_ok fun w3 c3=>⟨_,rfl,?_⟩
  have hk:=hk w3 (c1.trans' c3)
  cases hq:kindN t.text with
  | none =>
   rw [hq] at hk
   have hk:K (.int .i64 (-1)) w3:=hk
   refine ⟨fun w4=>w4=w3,fun w4 h=>by rw [h]; exact hk,?_⟩
   exact Sif_cases (fun _=>Sif_cases (fun _=>Sif_cases (fun _=>Sif_cases (fun _=>Sif_cases (fun _=>hk) (fun _=>rfl)) (fun _=>hk)) (fun _=>hk)) (fun _=>hk)) (fun _=>hk)
  | some k =>
   rw [hq] at hk
   simp only at hk
   have hx:hexI (some k)=(k:Int):=rfl
   rw [hx]
   have e:∀ n:Nat,((k:Int) == (n:Int))=decide (k=n):=fun n=>natEq k n
   rw [show ((k:Int) == 1)=decide (k=1) from e 1,show ((k:Int) == 19)=decide (k=19) from e 19,show ((k:Int) == 21)=decide (k=21) from e 21,show ((k:Int) == 22)=decide (k=22) from e 22,show ((k:Int) == 24)=decide (k=24) from e 24]
   have bad:(k=1∨k=19∨k=21∨k=22∨k=24)→K (.int .i64 (-1)) w3:=fun h=>by rw [if_pos h] at hk; exact hk
   refine ⟨fun w4=>w4=w3∧¬ (k=1∨k=19∨k=21∨k=22∨k=24),fun w4 h=>by obtain ⟨rfl,h⟩:=h; rw [if_neg h] at hk; exact hk,?_⟩
   refine Sif_cases (fun a1=>Sif_cases (fun a2=>Sif_cases (fun a3=>Sif_cases (fun a4=>Sif_cases (fun a5=>bad ?_) (fun a5=>⟨rfl,?_⟩)) (fun a=>bad ?_)) (fun a=>bad ?_)) (fun a=>bad ?_)) (fun a=>bad ?_)
   ·have:=of_decide_eq_true a5; omega
   ·rw [Bool.not_eq_true'] at a1 a2 a3 a4
    have:=of_decide_eq_false a1; have:=of_decide_eq_false a2; have:=of_decide_eq_false a3; have:=of_decide_eq_false a4; have:=of_decide_eq_false a5
    omega
   all_goals (rw [Bool.not_eq_false'] at a; have:=of_decide_eq_true a; omega)
 ·refine ⟨_,cellK b1 3 rfl,?_⟩
  rw [show (ByteArray.mk (Array.mk [(116:UInt8),114,117,101]))=⟨([116,114,117,101]:Bs).toArray⟩ by rfl,show (ByteArray.mk (Array.mk [(102:UInt8),97,108,115,101]))=⟨([102,97,108,115,101]:Bs).toArray⟩ by rfl,bs_eq]
  refine Sif_cases (fun h1=>⟨_,cellK b1 3 rfl,?_⟩) (fun h1=>?_)
  ·rw [Bool.not_eq_true'] at h1
   rw [bs_eq]
   refine Sif_cases (fun h2=>?_) (fun h2=>⟨rfl,?_⟩)
   ·have:=hk w1 c1
    rw [if_pos (.inr (of_decide_eq_true h2))] at this; exact this
   ·rintro (e | e)
    ·exact of_decide_eq_false h1 e
    ·exact of_decide_eq_false h2 e
  ·rw [Bool.not_eq_false'] at h1
   have:=hk w1 c1
   rw [if_pos (.inl (of_decide_eq_true h1))] at this; exact this
end Go.Proofs.YtnacobknngidkaaGreatDoor
namespace Go.Proofs.YtnacobknngidkaaGreatDoor
open Go Go.Sv Go.Note Go.RowKit
set_option linter.unusedVariables false
attribute [local irreducible] Sif
set_option maxRecDepth 4000
theorem rtwice_ok {Q:Nat→Prop} {w:World} {p:Option Addr} {n c:Nat} {l:List MV} (h:VRow Q w p n l) (hev:n%2=0) (hn46:n≤2^46) {K:Value→World→Prop} (hk:∀ w',Ch (fun _=>False) w w'→K (.bool (!decide (keysOf (l.map MV.m)).Nodup)) w') :
 callP Tryz.prog 162 [.slice p n c] w K:=by
 apply ok_longshoreref04_twice
 unfold wp_longshoreref04_twice
 have hln:=h.1
 have hml:(l.map MV.m).length=n:=by rw [List.length_map]; exact hln
 have hkd:=keys_dup (l:=l.map MV.m) (by rw [hml]; exact hev)
 rw [hml] at hkd
 refine ⟨fun m i w2=>∃ ii:Nat,i=((2*ii:Nat):Int)∧2*ii≤n∧m=n-2*ii∧Ch (fun _=>False) w w2∧∀ i' k,k<i'→i'<ii→(l.map MV.m)[2*i']?≠(l.map MV.m)[2*k]?,⟨n,0,rfl,Nat.zero_le _,rfl,Ch.refl _ _,fun i' k _ h=>by omega⟩,?_⟩
 rintro m i w2 ⟨ii,rfl,hii,rfl,c2,hall⟩
 refine Sif_cases (fun hlt=>?_) (fun hge=>?_)
 ·have hil:2*ii<n:=by have:=of_decide_eq_true hlt; omega
  obtain ⟨x,hxi⟩:∃ x,l[2*ii]?=some x:=⟨l[2*ii]'(by omega),List.getElem?_eq_getElem _⟩
  refine ⟨fun m1 i1 w3=>∃ kk:Nat,i1=((2*kk:Nat):Int)∧kk≤ii∧m1=ii-kk∧Ch (fun _=>False) w w3∧∀ k,k<kk→(l.map MV.m)[2*ii]?≠(l.map MV.m)[2*k]?,⟨ii,0,rfl,Nat.zero_le _,rfl,c2,fun k h=>by omega⟩,?_⟩
  rintro m1 i1 w3 ⟨kk,rfl,hkk,rfl,c3,hall2⟩
  refine Sif_cases (fun hlt2=>?_) (fun hge2=>?_)
  ·have hkl:kk<ii:=by have:=of_decide_eq_true hlt2; omega
   obtain ⟨y,hyi⟩:∃ y,l[2*kk]?=some y:=⟨l[2*kk]'(by omega),List.getElem?_eq_getElem _⟩
   have c3d:=c3.trans' (Ch.drew w3)
   have hr:=h.ch0 c3d
   obtain ⟨bx,ox,px,_,ax⟩:=hr.at hxi
   obtain ⟨by',oy,py,_,ay⟩:=hr.at hyi
   rw [px] at py
   cases py
   refine ⟨by omega,by omega,?_⟩
   rw [px]
   simp only [nn]
   refine ⟨by omega,by omega,?_⟩
   refine ldR ax (ldR ay ?_)
   rw [vv x,vv y]
   refine rEqual_ok x y (hr.2.2.2.2 x (List.mem_of_getElem? hxi)) (hr.2.2.2.2 y (List.mem_of_getElem? hyi)) fun w4 c4=>⟨_,rfl,?_⟩
   have c14:=c3d.trans' c4
   refine Sif_cases (fun he=>?_) (fun he=>?_)
   ·have he:=of_decide_eq_true he
    have:=hk w4 c14
    rw [decide_eq_false (fun hd=>hkd.1 hd ii kk hkl hil (by rw [List.getElem?_map,List.getElem?_map,hxi,hyi,Option.map_some,Option.map_some,he]))] at this
    exact this
   ·have he:=of_decide_eq_false he
    simp only [nameI]
    refine ⟨ii-(kk+1),by omega,kk+1,by rw [wrap_id (by omega) (by omega)]; omega,hkl,rfl,c14,fun k hk2=>?_⟩
    by_cases hkq:k=kk
    ·subst hkq
     rw [List.getElem?_map,List.getElem?_map,hxi,hyi,Option.map_some,Option.map_some]
     exact fun e=>he (Option.some.inj e)
    ·exact hall2 k (by omega)
  ·have hkl:kk=ii:=by have:=of_decide_eq_false hge2; omega
   subst hkl
   simp only [nameI]
   refine ⟨n-2*(kk+1),by omega,kk+1,by rw [wrap_id (by omega) (by omega)]; omega,by omega,rfl,c3,fun i' k hk1 hk2=>?_⟩
   by_cases hq:i'=kk
   ·subst hq; exact hall2 k hk1
   ·exact hall i' k hk1 (by omega)
 ·have hil:2*ii=n:=by have:=of_decide_eq_false hge; omega
  have:=hk w2 c2
  rw [decide_eq_true (hkd.2 fun i k h1 h2=>hall i k h1 (by omega))] at this
  exact this
theorem rshut_ok {t:Tok} {at_:Nat} {w:World} {p:Option Addr} {n c:Nat} {own:Option Nat} {R:List MV} (h:VE.Row w p n c own R) (hev:n%2=0) (hn46:n≤2^40) (ht5:t.kind≠5) {sz:Nat} (hsz:∀ b∈VE.rowB own R,sz≤b)
 {K:Value→World→Prop} (hk:∀ v w',Fo sz w' (shut (R.map MV.m) t.beg at_) v→Ch (fun _=>False) w w'→K v w') :
 callP Tryz.prog 125 [.slice p n c,tkv t,.int .i64 (at_:Int)] w K:=by
 apply ok_longshoreref04_shut
 unfold wp_longshoreref04_shut
 refine newB_blk fun w1 b1 c1 z1=>newB_blk fun w2 b2 c2 z2=>?_
 have b12:blk w2 w.heap.size=some (tkg t):=(c2.blk (blk_lt b1) id).trans b1
 have c12:=c1.trans' c2
 have hln:=h.1
 have bad:(2048<(R.map MV.m).length∨¬ (keysOf (R.map MV.m)).Nodup)→∀ w5,Ch (fun _=>False) w w5→K (fdv mv0 (t.beg:Int) ((if t.kind=5 then 42 else 23:Nat):Int)) w5:=fun hb w5 c5=>by
  refine hk _ w5 ?_ c5
  unfold shut
  rw [if_pos hb,if_neg ht5]
  exact ⟨rfl,by decide⟩
 refine Sif_cases (fun h1=>?_) (fun h1=>?_)
 ·refine ld4 (K:=fun v w2=>callP Tryz.prog 46 [v,.int .i64 23] w2 _) b12 ?_
  exact amiss_ret (by decide) b2 rfl fun w5 c5=>bad (.inl (by rw [List.length_map,hln]; have:=of_decide_eq_true h1; omega)) w5 (c12.trans c5 fun x hx e=>by omega)
 ·have h1:n≤2048:=by have:=of_decide_eq_false h1; omega
  refine rtwice_ok (Row.vrow (h.ch c12 fun _ _ e=>e) (by omega)) hev (by omega) fun w3 c3=>⟨_,rfl,?_⟩
  have b13:=(c3.blk (blk_lt b12) id).trans b12
  have b23:=(c3.blk (blk_lt b2) id).trans b2
  have c13:=c12.trans' c3
  refine Sif_cases (fun h2=>?_) (fun h2=>?_)
  ·rw [Bool.not_eq_true'] at h2
   refine ld4 (K:=fun v w2=>callP Tryz.prog 46 [v,.int .i64 23] w2 _) b13 ?_
   exact amiss_ret (by decide) b23 rfl fun w5 c5=>bad (.inr (of_decide_eq_false h2)) w5 (c13.trans c5 fun x hx e=>by omega)
  ·rw [Bool.not_eq_false'] at h2
   have hnd:=of_decide_eq_true h2
   refine st7 (x:=.mk 22 0 [] ⟨p,n,c,own⟩ 0 R) b23 rfl fun w5 b5 c5 z5=>ld7 b5 ?_
   have c15:Ch (fun _=>False) w w5:=c13.trans c5 fun x hx e=>by omega
   refine hk _ w5 ?_ c15
   unfold shut
   rw [if_neg (by rintro (e | e); rw [List.length_map,hln] at e; omega; exact e hnd)]
   refine ⟨_,rfl,by rw [MV.m_mk],Row.vo (h.ch c15 fun _ _ e=>e) (by omega),fun b hb=>hsz b ?_⟩
   rw [MV.B_mk] at hb
   exact hb
end Go.Proofs.YtnacobknngidkaaGreatDoor
namespace Go.Note
open Go
set_option linter.unusedVariables false
end Go.Note
namespace Go.Note
open Go
set_option linter.unusedVariables false
end Go.Note
namespace Go.Proofs.YtnacobknngidkaaGreatDoor
open Go Go.Sv Go.Note
set_option linter.unusedVariables false
attribute [local irreducible] Sif
set_option maxRecDepth 4000
theorem parse_bad {s:Bs} {a e:Nat} (h:parseB s=.bad a e):parseR s=(.mk 0 0 [] 0 [],a,e):=by unfold parseR; rw [h]
theorem Sif_false_of {b:Bool} {x y:Prop} (h:b=false) (hy:y):Sif b x y:=by subst h; exact Sif_false hy
def which (kind:Int):Nat:=if kind.tmod 3=1 then 1 else if kind.tmod 3=2 then 2 else 0
end Go.Proofs.YtnacobknngidkaaGreatDoor
namespace Go.Note
open Go
def listN (rd:Nat→Fd M) (s:Bs) (elem:Option Nat) (at_:Nat):Fd M :=
 match elemsM rd s elem at_ [] with
 | .bad a e=>.bad a e
 | .ok l a=>.ok (.mk 21 0 [] 0 l) a
end Go.Note
namespace Go.Proofs.YtnacobknngidkaaGreatDoor
open Go Go.Sv Go.Note Go.RowKit
set_option linter.unusedVariables false
attribute [local irreducible] Sif
set_option maxRecDepth 4000
def ROK (s:ByteArray) (d:Nat):Prop:=∀ {f:Nat} {w:World} {K:Value→World→Prop},f≤s.size→(∀ v w',Fo w.heap.size w' (rdM s.data.toList d f) v→Ch (fun _=>False) w w'→K v w') →
 callP Tryz.prog 44 [.string s,.int .i64 (f:Int),.int .i64 (33-(d:Int))] w K
theorem rlist_ok {s:ByteArray} (hs:s.size≤2^40) {d:Nat} (hd:d≤31) (hR:ROK s d) {f:Nat} (hf:f≤s.size) {elem:Option Nat} {w:World} {K:Value→World→Prop} (hk:∀ v w',Fo w.heap.size w' (listN (rdM s.data.toList d) s.data.toList elem f) v→Ch (fun _=>False) w w'→K v w') :
 callP Tryz.prog 82 [.string s,.int .i64 (f:Int),.int .i64 (32-(d:Int)),.int .i64 (hexI elem)] w K:=by
 apply ok_longshoreref04_list
 unfold wp_longshoreref04_list
 have hsl:=sl s
 obtain ⟨l,hl⟩:∃ l,l=s.data.toList:=⟨_,rfl⟩
 rw [← hl] at hk hsl
 unfold listN at hk
 refine newB_blk fun w1 b1 c1 z1=>?_
 refine nbx (x:=.mk 21 0 [] ⟨none,0,0,none⟩ 0 []) rfl fun w7 b7 c7 z7=>?_
 have c17:=c1.trans' c7
 have b17:=(c7.blk (blk_lt b1) id).trans b1
 refine ⟨fun m i w8=>∃ (q:Nat) (R:List MV) (p:Option Addr) (n c:Nat) (own:Option Nat),i=(q:Int)∧q≤s.size∧m=s.size-q∧R.length≤q∧VE.Row w8 p n c own R∧(∀ k∈VE.rowB own R,w7.heap.size≤k)∧blk w8 w1.heap.size=some (MV.mk 21 0 [] ⟨p,n,c,own⟩ 0 R).g∧Ch (·=w1.heap.size) w7 w8∧elemsM (rdM l d) l elem f []=elemsM (rdM l d) l elem q (R.map MV.m),
  ⟨s.size-f,f,[],none,0,0,none,rfl,hf,rfl,Nat.zero_le _,El.Row.nil,by simp [rowB_VE],b7,Ch.refl _ _,rfl⟩,?_⟩
 rintro m i w8 ⟨q,R,p,n,c,own,rfl,hq,rfl,hRq,hrow,hnew,bb8,c8,heq⟩
 have hun:=elemsM_eq (rdM_goes l d) elem (a:=q) (R.map MV.m) (by omega)
 have hz7:=c7.size
 have b18:=(c8.blk (blk_lt b17) (by omega)).trans b17
 have c18:Ch (fun _=>False) w w8:=c17.trans c8 fun x hx e=>by omega
 refine Sif_cases (fun _=>?_) (fun h=>by have:=of_decide_eq_false h; omega)
 refine rnext_ok hs hq fun w9 c9=>?_
 rw [← hl]
 obtain ⟨t,ht⟩:∃ t,t=next l q:=⟨_,rfl⟩
 rw [← ht] at hun ⊢
 refine tup4 (nb4 rfl fun w14 b14 c14 z14=>?_)
 have c814:=c9.trans' c14
 have bb14:=(c814.blk (blk_lt bb8) id).trans bb8
 have b114:=(c814.blk (blk_lt b18) id).trans b18
 have c114:=c18.trans' c814
 have hrow14:=hrow.ch c814 fun _ _ h=>h
 have hz8:=c8.size
 have hz9:=c9.size
 have e3:((t.kind:Int) == 3)=decide (t.kind=3):=natEq _ 3
 have hn:n=R.length:=hrow.1.symm
 refine ⟨fun w15=>w15=w14∧t.is 93=false,?_,?_⟩
 ·rintro w15 ⟨rfl,hno⟩
  rw [if_neg (by rw [hno]; decide)] at hun
  rw [show IntKind.wrap .i64 (32-(d:Int)+1)=33-(d:Int) by rw [wrap_id (by omega) (by omega)]; omega]
  refine hR hq fun v w16 hv c16=>?_
  rw [← hl] at hv
  have bb16:=(c16.blk (blk_lt bb14) id).trans bb14
  have b116:=(c16.blk (blk_lt b114) id).trans b114
  have b1416:=(c16.blk (blk_lt b14) id).trans b14
  have c116:=c114.trans' c16
  have hrow16:=hrow14.ch c16 fun _ _ h=>h
  cases hrd:rdM l d q with
  | bad a e =>
   rw [hrd] at hv hun
   obtain ⟨rfl,he0⟩:=hv
   simp only at hun
   rw [heq,hun] at hk
   refine tup7 (nb7 rfl fun w24 b24 c24 z24=>?_)
   have b124:=(c24.blk (blk_lt b116) id).trans b116
   refine ⟨_,(by simp only [add_at,Nat.zero_add]; exact cellK b24 6 rfl),?_⟩
   rw [ne0]
   refine Sif_true_of (decide_eq_true he0) ?_
   have L7:=ld7 (K:=fun v w25=>∃ y0 y1 y2 q3 m3 c3 y4 y5 y6,v=.agg (Array.mk [.int .i64 y0,.int .u64 y1,.string y2,.slice q3 m3 c3,.int .i64 y4,.int .i64 y5,.int .i64 y6])∧True) b24 (tup7 trivial)
   simp only [add_at,Nat.zero_add]
   refine ⟨_,cellK b24 0 rfl,_,cellK b24 1 rfl,_,cellK b24 2 rfl,_,_,_,cellK b24 3 rfl,_,cellK b24 4 rfl,_,cellK b24 5 rfl,_,cellK b24 6 rfl,?_⟩
   have S:=st7 (x:=mv0) (a:=(a:Int)) (e:=(e:Int)) b124 rfl (K:=fun w5=>_) (fun w5 b5 c5 z5=>ld7 (K:=K) b5 (hk _ w5 ⟨rfl,he0⟩ ((c116.trans' c24).trans c5 fun x hx h=>by omega)))
   simp only [add_at,Nat.zero_add] at S
   exact S
  | ok mm fin =>
   rw [hrd] at hv hun
   obtain ⟨x,rfl,hxm,hvo,hxb⟩:=hv
   simp only at hun
   have hgo:=rdM_goes l d q mm fin (by omega) hrd
   refine tup7 (nb7 rfl fun w24 b24 c24 z24=>?_)
   have b124:=(c24.blk (blk_lt b116) id).trans b116
   have bb24:=(c24.blk (blk_lt bb16) id).trans bb16
   have b1424:=(c24.blk (blk_lt b1416) id).trans b1416
   have c124:=c116.trans' c24
   have hrow24:=hrow16.ch c24 fun _ _ h=>h
   have hvo24:VO w24 x:=VO.ch c24 x hvo fun _ _ h=>h
   have hz14:=c14.size
   have hz16:=c16.size
   have hz24:=c24.size
   have c824:Ch (fun _=>False) w8 w24:=(c814.trans' c16).trans' c24
   simp only [add_at,Nat.zero_add]
   refine ⟨_,cellK b24 6 rfl,Sif_false ?_⟩
   refine ⟨fun w25=>w25=w24∧elemsM (rdM l d) l elem f []=elemsM (rdM l d) l elem fin ((R++[x]).map MV.m),?_,?_⟩
   ·rintro w25 ⟨rfl,heq2⟩
    refine ⟨_,_,_,cellK bb24 3 rfl,?_⟩
    refine ⟨_,cellK b24 0 rfl,_,cellK b24 1 rfl,_,cellK b24 2 rfl,_,_,_,cellK b24 3 rfl,_,cellK b24 4 rfl,?_⟩
    subst hn
    have hRl:=hrow24.lt
    have key:=pushL_ok (te:=26) (ty:=24) (k:=1) (xs:=[x]) hrow24 (fun y hy=>by rw [List.mem_singleton.1 hy]; exact hvo24) (by simpa using hvo.inv.2.2.2.2) (fun b hb hb2=>by
     have h1:=hxb b (by simpa using hb)
     have h2:=hrow14.lt b hb2
     omega) rfl (by omega) (K:=fun p3 n10 c3 w12=>Sv.st w12 ⟨w1.heap.size,3,none⟩ (.slice p3 n10 c3) fun w28=>∃ n17,w28.cell? ⟨w16.heap.size,5,none⟩=some (.int .i64 n17)∧∃ m',m'<s.size-q∧∃ (q:Nat) (R:List MV) (p:Option Addr) (n c:Nat) (own:Option Nat),n17=(q:Int)∧q≤s.size∧m'=s.size-q∧R.length≤q∧VE.Row w28 p n c own R∧(∀ k∈VE.rowB own R,w7.heap.size≤k)∧blk w28 w1.heap.size=some (MV.mk 21 0 [] ⟨p,n,c,own⟩ 0 R).g∧Ch (·=w1.heap.size) w7 w28∧elemsM (rdM l d) l elem f []=elemsM (rdM l d) l elem q (R.map MV.m)) (fun p3 c4 own' w12 hrow12 hb12 c12=>by
      have hown:∀ b,own=some b→w7.heap.size≤b:=fun b hb=>hnew b (by rw [rowB_VE,hb]; simp)
      have hownlt:∀ b,own=some b→b<w15.heap.size:=fun b hb=>hrow14.lt b (by rw [rowB_VE,hb]; simp)
      have bb12:=(c12.blk (blk_lt bb24) (fun e=>by have:=hown _ e; omega)).trans bb24
      have b2412:=(c12.blk (blk_lt b24) (fun e=>by have:=hownlt _ e; omega)).trans b24
      refine st_blk bb12 (by simp [MV.g]) fun w28 b28 c28 z28=>⟨_,cellK ((c28.blk (blk_lt b2412) (by omega)).trans b2412) 5 rfl,s.size-fin,by omega,fin,R++[x],p3,_,c4,own',rfl,by omega,rfl,by simp; omega,hrow12.ch c28 fun k hk e=>?_,fun k hk=>?_,b28,?_,heq2⟩
      ·rcases hb12 k hk with h | h | h
       ·have:=hnew k h; omega
       ·have:=hxb k (by simpa using h); omega
       ·omega
      ·rcases hb12 k hk with h | h | h
       ·exact hnew k h
       ·have:=hxb k (by simpa using h); omega
       ·omega
      ·refine ((c8.trans' (c824.mono fun _ _ h=>h.elim)).trans c12 fun y hy h=>?_).trans' c28
       have:=hown y h; omega)
    rw [show [x].flatMap MV.g=x.g by simp] at key
    rw [show [Value.int .i64 x.k,.int .u64 (x.n:Int),.string ⟨x.t.toArray⟩,.slice x.s.p x.s.n x.s.c,.int .i64 x.e]=x.g from gg x]
    exact key
   ·cases elem with
    | none =>
     simp only at hun
     refine Sif_false_of (decide_eq_false (by show ¬ ((-1:Int)≥0); omega)) ⟨rfl,?_⟩
     rw [heq,hun,List.map_append]; simp [hxm]
    | some kk =>
     simp only at hun
     refine Sif_true_of (decide_eq_true (by show ((kk:Nat):Int)≥0; omega)) ⟨_,cellK b24 0 rfl,?_⟩
     have hxk:x.k=mm.k:=by rw [← hxm]; cases x; rfl
     rw [int_bne]
     refine Sif_cases (fun h1=>?_) (fun h1=>⟨rfl,?_⟩)
     ·rw [Bool.not_eq_true'] at h1
      have h1:¬ x.k=(kk:Int):=of_decide_eq_false h1
      rw [if_neg (by rw [← hxk]; exact h1)] at hun
      rw [heq,hun] at hk
      have A:=amiss_ret (t:=t) (e:=24) (by decide) b124 rfl (K:=K) fun w5 c5=>hk _ w5 (by
       have:=foAmiss (sz:=w.heap.size) (w:=w5) (t:=t) (e:=24) (by decide)
       unfold amiss at this
       unfold amiss
       exact this) (c124.trans c5 fun x hx e=>by omega)
      refine ⟨_,cellK b1424 0 rfl,_,cellK b1424 1 rfl,_,cellK b1424 2 rfl,_,cellK b1424 3 rfl,?_⟩
      simp only [add_at,Nat.zero_add] at A
      exact A
     ·rw [Bool.not_eq_false'] at h1
      have h1:x.k=(kk:Int):=of_decide_eq_true h1
      rw [if_pos (by rw [← hxk]; exact h1)] at hun
      rw [heq,hun,List.map_append]; simp [hxm]
 ·simp only [add_at,Nat.zero_add]
  refine ⟨_,cellK b14 0 rfl,?_⟩
  rw [e3]
  refine Sif_cases (fun h1=>⟨_,cellK b14 3 rfl,?_⟩) (fun h1=>⟨by trivial,?_⟩)
  ·rw [show (ByteArray.mk (Array.mk [(93:UInt8)]))=⟨([93]:Bs).toArray⟩ by rfl,bs_eq]
   refine Sif_cases (fun h2=>?_) (fun h2=>⟨by trivial,?_⟩)
   ·have hyes:t.is 93=true:=by rw [is_val,h1,h2]; rfl
    rw [if_pos hyes] at hun
    rw [heq,hun] at hk
    refine ⟨_,cellK bb14 0 rfl,_,cellK bb14 1 rfl,_,cellK bb14 2 rfl,_,_,_,cellK bb14 3 rfl,_,cellK bb14 4 rfl,_,cellK b14 2 rfl,?_⟩
    have hvo:VO w14 (.mk 21 0 [] ⟨p,n,c,own⟩ 0 R):=Row.vo hrow14 (by omega)
    have S:=st7 (x:=.mk 21 0 [] ⟨p,n,c,own⟩ 0 R) (a:=(t.fin:Int)) (e:=0) b114 rfl (K:=fun w5=>_) (fun w5 b5 c5 z5=>ld7 (K:=K) b5 (hk _ w5 ⟨_,rfl,by rw [MV.m_mk],VO.ch c5 _ hvo (fun b hb e=>by
     rw [MV.B_mk] at hb
     have:=hnew b hb; omega),fun b hb=>by
     rw [MV.B_mk] at hb
     have:=hnew b hb; omega⟩ (c114.trans c5 fun x hx h=>by omega)))
    simp only [add_at,Nat.zero_add] at S
    exact S
   ·rw [is_val,h2,Bool.and_false]
  ·rw [is_val,h1,Bool.false_and]
end Go.Proofs.YtnacobknngidkaaGreatDoor
namespace Go.Note
open Go
theorem wanted_bad (t:Tok):∃ a e,∀ {α:Type},(wanted t:Fd α)=.bad a e∧e≠0:=by
 unfold wanted amiss
 by_cases h:t.kind=0∨closes t=true
 ·refine ⟨t.beg,if t.kind=5 then 42 else 43,fun {α}=>⟨by rw [if_pos h],by split<;>decide⟩⟩
 ·refine ⟨t.beg,if t.kind=5 then 42 else 40,fun {α}=>⟨by rw [if_neg h],by split<;>decide⟩⟩
end Go.Note
namespace Go.Proofs.YtnacobknngidkaaGreatDoor
open Go Go.Sv Go.Note Go.RowKit
set_option linter.unusedVariables false
attribute [local irreducible] Sif
set_option maxRecDepth 4000
theorem wanted_ret {t:Tok} {w3:World} {b:Nat} {zs:List Value} (hb:blk w3 b=some zs) (hl:zs.length=7) {K:Value→World→Prop} (hk:∀ a e w5,(∀ {α:Type},(wanted t:Go.Note.Fd α)=.bad a e)→e≠0→Ch (·=b) w3 w5→K (fdv mv0 (a:Int) (e:Int)) w5) :
 callP Tryz.prog 126 [tkv t] w3 fun v1 w4=>∃ y0 y1 y2 q3 m3 c3 y4 y5 y6,v1=.agg (Array.mk [.int .i64 y0,.int .u64 y1,.string y2,.slice q3 m3 c3,.int .i64 y4,.int .i64 y5,.int .i64 y6]) ∧
  (Sv.st w4 (Addr.add ⟨b,0,none⟩ 0) (.int .i64 y0) fun w5=>Sv.st w5 (Addr.add ⟨b,0,none⟩ 1) (.int .u64 y1) fun w6=>Sv.st w6 (Addr.add ⟨b,0,none⟩ 2) (.string y2) fun w7=>Sv.st w7 (Addr.add ⟨b,0,none⟩ 3) (.slice q3 m3 c3) fun w8=>Sv.st w8 (Addr.add ⟨b,0,none⟩ 4) (.int .i64 y4) fun w9=>Sv.st w9 (Addr.add ⟨b,0,none⟩ 5) (.int .i64 y5) fun w10=>Sv.st w10 (Addr.add ⟨b,0,none⟩ 6) (.int .i64 y6) fun w11 =>
    ∃ y0,w11.cell? (Addr.add ⟨b,0,none⟩ 0)=some (.int .i64 y0)∧∃ y1,w11.cell? (Addr.add ⟨b,0,none⟩ 1)=some (.int .u64 y1)∧∃ y2,w11.cell? (Addr.add ⟨b,0,none⟩ 2)=some (.string y2)∧∃ q3 m3 c3,w11.cell? (Addr.add ⟨b,0,none⟩ 3)=some (.slice q3 m3 c3)∧∃ y4,w11.cell? (Addr.add ⟨b,0,none⟩ 4)=some (.int .i64 y4)∧∃ y5,w11.cell? (Addr.add ⟨b,0,none⟩ 5)=some (.int .i64 y5)∧∃ y6,w11.cell? (Addr.add ⟨b,0,none⟩ 6)=some (.int .i64 y6)∧K (.agg (Array.mk [.int .i64 y0,.int .u64 y1,.string y2,.slice q3 m3 c3,.int .i64 y4,.int .i64 y5,.int .i64 y6])) w11):=by
 obtain ⟨a,e,hw⟩:=wanted_bad t
 refine rwanted_ok fun v w4 sz hv c4=>?_
 rw [(hw (α:=M)).1] at hv
 obtain ⟨rfl,he⟩:=hv
 refine tup7 ?_
 have b24:=(c4.blk (blk_lt hb) id).trans hb
 refine st7 (x:=mv0) b24 hl fun w5 b5 c5 z5=>ld7 b5 ?_
 exact hk a e w5 (fun {α}=>(hw (α:=α)).1) he ((c4.mono fun _ _ h=>h.elim).trans' c5)
theorem bad_ret {w3:World} {b k:Nat} {zs:List Value} (hb:blk w3 b=some zs) (hl:zs.length=7) {x:MV} {a e:Int} (hk3:blk w3 k=some (fdg x a e)) {K:Value→World→Prop} (hk:∀ w5,Ch (·=b) w3 w5→K (fdv x a e) w5) :
 ∃ y0,w3.cell? (Addr.add ⟨k,0,none⟩ 0)=some (.int .i64 y0)∧∃ y1,w3.cell? (Addr.add ⟨k,0,none⟩ 1)=some (.int .u64 y1)∧∃ y2,w3.cell? (Addr.add ⟨k,0,none⟩ 2)=some (.string y2)∧∃ q3 m3 c3,w3.cell? (Addr.add ⟨k,0,none⟩ 3)=some (.slice q3 m3 c3)∧∃ y4,w3.cell? (Addr.add ⟨k,0,none⟩ 4)=some (.int .i64 y4)∧∃ y5,w3.cell? (Addr.add ⟨k,0,none⟩ 5)=some (.int .i64 y5)∧∃ y6,w3.cell? (Addr.add ⟨k,0,none⟩ 6)=some (.int .i64 y6) ∧
  (Sv.st w3 (Addr.add ⟨b,0,none⟩ 0) (.int .i64 y0) fun w5=>Sv.st w5 (Addr.add ⟨b,0,none⟩ 1) (.int .u64 y1) fun w6=>Sv.st w6 (Addr.add ⟨b,0,none⟩ 2) (.string y2) fun w7=>Sv.st w7 (Addr.add ⟨b,0,none⟩ 3) (.slice q3 m3 c3) fun w8=>Sv.st w8 (Addr.add ⟨b,0,none⟩ 4) (.int .i64 y4) fun w9=>Sv.st w9 (Addr.add ⟨b,0,none⟩ 5) (.int .i64 y5) fun w10=>Sv.st w10 (Addr.add ⟨b,0,none⟩ 6) (.int .i64 y6) fun w11 =>
    ∃ y0,w11.cell? (Addr.add ⟨b,0,none⟩ 0)=some (.int .i64 y0)∧∃ y1,w11.cell? (Addr.add ⟨b,0,none⟩ 1)=some (.int .u64 y1)∧∃ y2,w11.cell? (Addr.add ⟨b,0,none⟩ 2)=some (.string y2)∧∃ q3 m3 c3,w11.cell? (Addr.add ⟨b,0,none⟩ 3)=some (.slice q3 m3 c3)∧∃ y4,w11.cell? (Addr.add ⟨b,0,none⟩ 4)=some (.int .i64 y4)∧∃ y5,w11.cell? (Addr.add ⟨b,0,none⟩ 5)=some (.int .i64 y5)∧∃ y6,w11.cell? (Addr.add ⟨b,0,none⟩ 6)=some (.int .i64 y6)∧K (.agg (Array.mk [.int .i64 y0,.int .u64 y1,.string y2,.slice q3 m3 c3,.int .i64 y4,.int .i64 y5,.int .i64 y6])) w11):=by
 have S:=st7 (x:=x) (a:=a) (e:=e) hb hl (K:=fun w5=>_) fun w5 b5 c5 z5=>ld7 (K:=K) b5 (hk w5 c5)
 simp only [add_at,Nat.zero_add] at S ⊢
 exact ⟨_,cellK hk3 0 rfl,_,cellK hk3 1 rfl,_,cellK hk3 2 rfl,_,_,_,cellK hk3 3 rfl,_,cellK hk3 4 rfl,_,cellK hk3 5 rfl,_,cellK hk3 6 rfl,S⟩
end Go.Proofs.YtnacobknngidkaaGreatDoor
namespace Go.Proofs.YtnacobknngidkaaGreatDoor
open Go Go.Sv Go.Note Go.RowKit
set_option linter.unusedVariables false
attribute [local irreducible] Sif
set_option maxRecDepth 4000
theorem rdescribed_ok {s:ByteArray} (hs:s.size≤2^40) {d:Nat} (hd:d≤31) (hR:ROK s d) {f:Nat} (hf:f≤s.size) {w:World} {K:Value→World→Prop} (hk:∀ v w',Fo w.heap.size w' (described (rdM s.data.toList d) s.data.toList f) v→Ch (fun _=>False) w w'→K v w') :
 callP Tryz.prog 85 [.string s,.int .i64 (f:Int),.int .i64 (32-(d:Int))] w K:=by
 apply ok_longshoreref04_described
 unfold wp_longshoreref04_described
 have hsl:=sl s
 obtain ⟨l,hl⟩:∃ l,l=s.data.toList:=⟨_,rfl⟩
 rw [← hl] at hk hsl
 unfold described at hk
 have hdw:IntKind.wrap .i64 (32-(d:Int)+1)=33-(d:Int):=by rw [wrap_id (by omega) (by omega)]; omega
 rw [hdw]
 refine newB_blk fun w1 b1 c1 z1=>?_
 refine hR hf fun v w2 hv c2=>?_
 rw [← hl] at hv
 have b12:=(c2.blk (blk_lt b1) id).trans b1
 have c12:=c1.trans' c2
 have hz2:=c2.size
 cases hrd:rdM l d f with
 | bad a e =>
  rw [hrd] at hv hk
  obtain ⟨rfl,he0⟩:=hv
  refine tup7 (nb7 rfl fun w10 b10 c10 z10=>?_)
  have b110:=(c10.blk (blk_lt b12) id).trans b12
  refine ⟨_,(by simp only [add_at,Nat.zero_add]; exact cellK b10 6 rfl),?_⟩
  rw [ne0]
  exact Sif_true_of (decide_eq_true he0) (bad_ret b110 rfl b10 fun w5 c5=>hk _ w5 ⟨rfl,he0⟩ ((c12.trans' c10).trans c5 fun x hx h=>by omega))
 | ok mx fx =>
  rw [hrd] at hv hk
  obtain ⟨x,rfl,hxm,hvx,hxb⟩:=hv
  simp only at hk
  have hgx:=rdM_goes l d f mx fx (by omega) hrd
  refine tup7 (nb7 rfl fun w10 b10 c10 z10=>?_)
  have b110:=(c10.blk (blk_lt b12) id).trans b12
  have hvx10:=VO.ch c10 x hvx fun _ _ h=>h
  refine ⟨_,(by simp only [add_at,Nat.zero_add]; exact cellK b10 6 rfl),?_⟩
  refine Sif_false ⟨_,(by simp only [add_at,Nat.zero_add]; exact cellK b10 5 rfl),?_⟩
  refine hR (by omega) fun v w11 hv c11=>?_
  rw [← hl] at hv
  have b111:=(c11.blk (blk_lt b110) id).trans b110
  have b1011:=(c11.blk (blk_lt b10) id).trans b10
  have c110:=c12.trans' c10
  have hz11:=c11.size
  cases hrd2:rdM l d fx with
  | bad a e =>
   rw [hrd2] at hv hk
   obtain ⟨rfl,he0⟩:=hv
   refine tup7 (nb7 rfl fun w19 b19 c19 z19=>?_)
   have b119:=(c19.blk (blk_lt b111) id).trans b111
   refine ⟨_,(by simp only [add_at,Nat.zero_add]; exact cellK b19 6 rfl),?_⟩
   rw [ne0]
   exact Sif_true_of (decide_eq_true he0) (bad_ret b119 rfl b19 fun w5 c5=>hk _ w5 ⟨rfl,he0⟩ (((c110.trans' c11).trans' c19).trans c5 fun x hx h=>by omega))
  | ok my fy =>
   rw [hrd2] at hv hk
   obtain ⟨y,rfl,hym,hvy,hyb⟩:=hv
   simp only at hk
   have hgy:=rdM_goes l d fx my fy (by omega) hrd2
   refine tup7 (nb7 rfl fun w19 b19 c19 z19=>?_)
   have b119:=(c19.blk (blk_lt b111) id).trans b111
   have b1019:=(c19.blk (blk_lt b1011) id).trans b1011
   refine ⟨_,(by simp only [add_at,Nat.zero_add]; exact cellK b19 6 rfl),?_⟩
   refine Sif_false ⟨_,(by simp only [add_at,Nat.zero_add]; exact cellK b19 5 rfl),?_⟩
   refine rnext_ok hs (by omega) fun w20 c20=>?_
   rw [← hl]
   obtain ⟨t,ht⟩:∃ t,t=next l fy:=⟨_,rfl⟩
   rw [← ht] at hk ⊢
   refine tup4 (nb4 rfl fun w25 b25 c25 z25=>?_)
   have c1925:=c20.trans' c25
   have b125:=(c1925.blk (blk_lt b119) id).trans b119
   have b1025:=(c1925.blk (blk_lt b1019) id).trans b1019
   have b1925:=(c1925.blk (blk_lt b19) id).trans b19
   have c125:=((c110.trans' c11).trans' c19).trans' c1925
   have hz19:=c19.size
   have hz25:=c1925.size
   have hz10:=c10.size
   have hvx25:VO w25 x:=VO.ch ((c11.trans' c19).trans' c1925) x hvx10 fun _ _ h=>h
   have hvy25:VO w25 y:=VO.ch (c19.trans' c1925) y hvy fun _ _ h=>h
   have wr:t.is 41=false→callP Tryz.prog 126 [tkv t] w25 _:=fun hno=>wanted_ret b125 rfl (K:=K) fun a e w5 hw he c5=>hk _ w5 (by
    rw [if_pos hno,hw]; exact ⟨rfl,he⟩) (c125.trans c5 fun x hx h=>by omega)
   refine ⟨fun w26=>w26=w25∧t.is 41=true,?_,?_⟩
   ·rintro w26 ⟨rfl,hyes⟩
    rw [if_neg (by rw [hyes]; decide)] at hk
    simp only [add_at,Nat.zero_add]
    refine ⟨_,cellK b1025 0 rfl,_,cellK b1025 1 rfl,_,cellK b1025 2 rfl,_,_,_,cellK b1025 3 rfl,_,cellK b1025 4 rfl,?_⟩
    have hxlt:=VO.lt x hvx10
    have hylt:=VO.lt y hvy
    have hc26:=c125
    have key:=pushL_ok (te:=26) (ty:=24) (k:=1) (xs:=[x]) (El.Row.nil:VE.Row w26 none 0 0 none []) (fun z hz=>by rw [List.mem_singleton.1 hz]; exact hvx25) (by simpa using hvx.inv.2.2.2.2) (fun b _ hb2=>by simp [rowB_VE] at hb2) rfl (by omega)
     (K:=fun p3 n10 c3 w28=>∃ n,w28.cell? ⟨w11.heap.size,0,none⟩=some (.int .i64 n)∧∃ n1,w28.cell? ⟨w11.heap.size,1,none⟩=some (.int .u64 n1)∧∃ s2,w28.cell? ⟨w11.heap.size,2,none⟩=some (.string s2)∧∃ p4 n26 c4,w28.cell? ⟨w11.heap.size,3,none⟩=some (.slice p4 n26 c4)∧∃ n27,w28.cell? ⟨w11.heap.size,4,none⟩=some (.int .i64 n27) ∧
       newB w28 [.int .i64 n,.int .u64 n1,.string s2,.slice p4 n26 c4,.int .i64 n27] 26 fun a5 w29=>∃ p5 n28 c5 w30,Sem.run Tryz.prog (Builtin.append_ (Array.mk [24,24]) 24 (Array.mk [.slice p3 n10 c3,.slice (some a5) 1 1])) w29=.ok (.slice p5 n28 c5) w30 ∧
        ∃ n29,w30.cell? ⟨w20.heap.size,2,none⟩=some (.int .i64 n29)∧(Sv.st w30 ⟨w.heap.size,0,none⟩ (.int .i64 24) fun w5=>Sv.st w5 ⟨w.heap.size,1,none⟩ (.int .u64 0) fun w6=>Sv.st w6 ⟨w.heap.size,2,none⟩ (.string (ByteArray.mk (Array.mk []))) fun w7=>Sv.st w7 ⟨w.heap.size,3,none⟩ (.slice p5 n28 c5) fun w8=>Sv.st w8 ⟨w.heap.size,4,none⟩ (.int .i64 0) fun w9=>Sv.st w9 ⟨w.heap.size,5,none⟩ (.int .i64 n29) fun w10=>Sv.st w10 ⟨w.heap.size,6,none⟩ (.int .i64 0) fun w11 =>
         ∃ y0,w11.cell? ⟨w.heap.size,0,none⟩=some (.int .i64 y0)∧∃ y1,w11.cell? ⟨w.heap.size,1,none⟩=some (.int .u64 y1)∧∃ y2,w11.cell? ⟨w.heap.size,2,none⟩=some (.string y2)∧∃ q3 m3 c3,w11.cell? ⟨w.heap.size,3,none⟩=some (.slice q3 m3 c3)∧∃ y4,w11.cell? ⟨w.heap.size,4,none⟩=some (.int .i64 y4)∧∃ y5,w11.cell? ⟨w.heap.size,5,none⟩=some (.int .i64 y5)∧∃ y6,w11.cell? ⟨w.heap.size,6,none⟩=some (.int .i64 y6)∧K (.agg (Array.mk [.int .i64 y0,.int .u64 y1,.string y2,.slice q3 m3 c3,.int .i64 y4,.int .i64 y5,.int .i64 y6])) w11)) (fun p3 c4 own' w28 hrow28 hb28 c28=>by
       have c28:Ch (fun _=>False) w26 w28:=c28.mono fun _ _ h=>by cases h
       have b1928:=(c28.blk (blk_lt b1925) id).trans b1925
       have b2528:=(c28.blk (blk_lt b25) id).trans b25
       have b128:=(c28.blk (blk_lt b125) id).trans b125
       refine ⟨_,cellK b1928 0 rfl,_,cellK b1928 1 rfl,_,cellK b1928 2 rfl,_,_,_,cellK b1928 3 rfl,_,cellK b1928 4 rfl,?_⟩
       have hb28':∀ k∈VE.rowB own' ([]++[x]),k<w10.heap.size∨w26.heap.size≤k:=fun k hk=>by
        rcases hb28 k hk with h | h | h
        ·simp [rowB_VE] at h
        ·exact .inl (hxlt k (by simpa using h))
        ·exact .inr h
       have key2:=pushL_ok (te:=26) (ty:=24) (k:=1) (xs:=[y]) hrow28 (fun z hz=>by rw [List.mem_singleton.1 hz]; exact VO.ch c28 y hvy25 fun _ _ h=>h) (by simpa using hvy.inv.2.2.2.2) (fun b hb hb2=>by
        have h1:=hyb b (by simpa using hb)
        have h2:=hylt b (by simpa using hb)
        rcases hb28' b hb2 with h | h
        ·omega
        ·omega) rfl (by omega) (K:=fun p5 n28 c5 w30=>∃ n29,w30.cell? ⟨w20.heap.size,2,none⟩=some (.int .i64 n29)∧(Sv.st w30 ⟨w.heap.size,0,none⟩ (.int .i64 24) fun w5=>Sv.st w5 ⟨w.heap.size,1,none⟩ (.int .u64 0) fun w6=>Sv.st w6 ⟨w.heap.size,2,none⟩ (.string (ByteArray.mk (Array.mk []))) fun w7=>Sv.st w7 ⟨w.heap.size,3,none⟩ (.slice p5 n28 c5) fun w8=>Sv.st w8 ⟨w.heap.size,4,none⟩ (.int .i64 0) fun w9=>Sv.st w9 ⟨w.heap.size,5,none⟩ (.int .i64 n29) fun w10=>Sv.st w10 ⟨w.heap.size,6,none⟩ (.int .i64 0) fun w11 =>
         ∃ y0,w11.cell? ⟨w.heap.size,0,none⟩=some (.int .i64 y0)∧∃ y1,w11.cell? ⟨w.heap.size,1,none⟩=some (.int .u64 y1)∧∃ y2,w11.cell? ⟨w.heap.size,2,none⟩=some (.string y2)∧∃ q3 m3 c3,w11.cell? ⟨w.heap.size,3,none⟩=some (.slice q3 m3 c3)∧∃ y4,w11.cell? ⟨w.heap.size,4,none⟩=some (.int .i64 y4)∧∃ y5,w11.cell? ⟨w.heap.size,5,none⟩=some (.int .i64 y5)∧∃ y6,w11.cell? ⟨w.heap.size,6,none⟩=some (.int .i64 y6)∧K (.agg (Array.mk [.int .i64 y0,.int .u64 y1,.string y2,.slice q3 m3 c3,.int .i64 y4,.int .i64 y5,.int .i64 y6])) w11)) (fun p5 c5 own2 w30 hrow30 hb30 c30=>by
         have hown:∀ b,own'=some b→w26.heap.size≤b∨b<w10.heap.size:=fun b hb=>(hb28' b (by rw [rowB_VE,hb]; simp)).symm
         have c30':∀ {k:Nat} {cs:List Value},blk w28 k=some cs→k<w26.heap.size→w10.heap.size≤k∨own'≠some k→blk w30 k=some cs:=fun {k cs} hb hlt hor=>(c30.blk (blk_lt hb) fun e=>by
          rcases hown k e with h | h
          ·omega
          ·rcases hor with h2 | h2
           ·omega
           ·exact h2 e).trans hb
         have hnow:own'≠some w.heap.size:=fun e=>by
          have:=hb28 w.heap.size (by rw [rowB_VE,e]; simp)
          rcases this with h | h | h
          ·simp [rowB_VE] at h
          ·have:=hxb _ (by simpa using h); omega
          ·omega
         have b130:=c30' b128 (by omega) (.inr hnow)
         have b2530:=c30' b2528 (by have:=blk_lt b25; omega) (.inl (by omega))
         refine ⟨_,cellK b2530 2 rfl,?_⟩
         have S:=st7 (x:=.mk 24 0 [] ⟨p5,2,c5,own2⟩ 0 ([]++[x]++[y])) (a:=(t.fin:Int)) (e:=0) b130 rfl (K:=fun w5=>_) fun w5 b5 c5' z5=>ld7 (K:=K) b5 (hk _ w5 ⟨_,rfl,by rw [MV.m_mk]; simp [hxm,hym],?_,?_⟩ ?_)
         ·simp only [add_at,Nat.zero_add] at S
          exact S
         ·have hrow5:VE.Row w5 p5 2 c5 own2 ([]++[x]++[y]):=hrow30.ch c5' fun b hb e=>by
           rcases hb30 b hb with h | h | h
           ·have:=hb28 b h
            rcases this with h | h | h
            ·simp [rowB_VE] at h
            ·have:=hxb _ (by simpa using h); omega
            ·omega
           ·have:=hyb _ (by simpa using h); omega
           ·have:=c28.size; omega
          exact Row.vo hrow5 (by decide)
         ·intro b hb
          rw [MV.B_mk] at hb
          rcases hb30 b hb with h | h | h
          ·have:=hb28 b h
           rcases this with h | h | h
           ·simp [rowB_VE] at h
           ·have:=hxb _ (by simpa using h); omega
           ·omega
          ·have:=hyb _ (by simpa using h); omega
          ·have:=c28.size; omega
         ·refine ((hc26.trans' c28).trans c30 fun z hz e=>?_).trans c5' fun z hz e=>by omega
          have:=hb28 z (by rw [rowB_VE,e]; simp)
          rcases this with h | h | h
          ·simp [rowB_VE] at h
          ·have:=hxb _ (by simpa using h); omega
          ·omega)
       rw [show [y].flatMap MV.g=y.g by simp] at key2
       rw [show [Value.int .i64 y.k,.int .u64 (y.n:Int),.string ⟨y.t.toArray⟩,.slice y.s.p y.s.n y.s.c,.int .i64 y.e]=y.g from gg y]
       exact key2)
    rw [show [x].flatMap MV.g=x.g by simp] at key
    rw [show [Value.int .i64 x.k,.int .u64 (x.n:Int),.string ⟨x.t.toArray⟩,.slice x.s.p x.s.n x.s.c,.int .i64 x.e]=x.g from gg x]
    exact key
   ·have e3:((t.kind:Int) != 3)=!decide (t.kind=3):=by rw [bne,show ((t.kind:Int) == 3)=decide (t.kind=3) from natEq _ 3]
    refine ⟨_,(by simp only [add_at,Nat.zero_add]; exact cellK b25 0 rfl),?_⟩
    rw [e3,Bool.not_not]
    refine Sif_cases (fun h1=>⟨_,(by simp only [add_at,Nat.zero_add]; exact cellK b25 3 rfl),?_⟩) (fun h1=>?_)
    ·rw [show (ByteArray.mk (Array.mk [(41:UInt8)]))=⟨([41]:Bs).toArray⟩ by rfl,bs_eq]
     refine Sif_cases (fun h2=>?_) (fun h2=>⟨rfl,?_⟩)
     ·rw [Bool.not_eq_true'] at h2
      refine ld4 (K:=fun v w2=>callP Tryz.prog 126 [v] w2 _) b25 ?_
      exact wr (by rw [is_val,h2,Bool.and_false])
     ·rw [Bool.not_eq_false'] at h2
      rw [is_val,h1,h2]; rfl
    ·refine ld4 (K:=fun v w2=>callP Tryz.prog 126 [v] w2 _) b25 ?_
     exact wr (by rw [is_val,h1,Bool.false_and])
end Go.Proofs.YtnacobknngidkaaGreatDoor
namespace Go.Proofs.YtnacobknngidkaaGreatDoor
open Go Go.Sv Go.Note Go.RowKit
set_option linter.unusedVariables false
attribute [local irreducible] Sif
set_option maxRecDepth 4000
theorem hexI_eq (o:Option Nat) (n:Nat):(hexI o == (n:Int))=decide (o=some n):=by
 cases o with
 | none =>
  rw [decide_eq_false (by simp)]
  exact beq_eq_false_iff_ne.2 (by show (-1:Int)≠_; omega)
 | some k =>
  rw [show hexI (some k)=(k:Int) from rfl,natEq]
  exact decide_eq_decide.2 (by simp)
theorem rarray_ok {s:ByteArray} (hs:s.size≤2^40) {d:Nat} (hd:d≤31) (hR:ROK s d) {f:Nat} (hf:f≤s.size) {w:World} {K:Value→World→Prop} (hk:∀ v w',Fo w.heap.size w' (Go.Note.arrayed (rdM s.data.toList d) s.data.toList f) v→Ch (fun _=>False) w w'→K v w') :
 callP Tryz.prog 84 [.string s,.int .i64 (f:Int),.int .i64 (32-(d:Int))] w K:=by
 apply ok_longshoreref04_array
 unfold wp_longshoreref04_array
 have hsl:=sl s
 obtain ⟨l,hl⟩:∃ l,l=s.data.toList:=⟨_,rfl⟩
 rw [← hl] at hk hsl
 refine newB_blk fun w1 b1 c1 z1=>?_
 refine rnext_ok hs hf fun w2 c2=>?_
 rw [← hl]
 obtain ⟨t,ht⟩:∃ t,t=next l f:=⟨_,rfl⟩
 have hlies:=next_lies l f (by omega)
 unfold Go.Note.arrayed at hk
 rw [← ht] at hk hlies ⊢
 simp only at hk
 refine tup4 (nb4 rfl fun w7 b7 c7 z7=>?_)
 have c17:=(c1.trans' c2).trans' c7
 have b17:=((c2.trans' c7).blk (blk_lt b1) id).trans b1
 have hz2:=c2.size
 have amis:∀ (u:Tok) (e:Nat) {w3:World},e≠0→Ch (fun _=>False) w7 w3→(∀ v w',Fo w.heap.size w' (amiss u e) v→Ch (fun _=>False) w w'→K v w')→callP Tryz.prog 46 [tkv u,.int .i64 (e:Int)] w3 _:=fun u e {w3} he c3 hk=>amiss_ret he ((c3.blk (blk_lt b17) id).trans b17) rfl (K:=K) fun w5 c5=>hk _ w5 (foAmiss he) ((c17.trans' c3).trans c5 fun x hx h=>by omega)
 refine ⟨_,(by simp only [add_at,Nat.zero_add]; exact cellK b7 0 rfl),?_⟩
 have e1:((t.kind:Int) != 1)=!decide (t.kind=1):=by rw [bne,show ((t.kind:Int) == 1)=decide (t.kind=1) from natEq _ 1]
 rw [e1]
 refine Sif_cases (fun h=>?_) (fun h=>⟨_,(by simp only [add_at,Nat.zero_add]; exact cellK b7 3 rfl),?_⟩)
 ·rw [Bool.not_eq_true'] at h
  rw [if_pos (of_decide_eq_false h)] at hk
  refine ld4 (K:=fun v w2=>callP Tryz.prog 46 [v,.int .i64 40] w2 _) b7 ?_
  exact amis t 40 (by decide) (Ch.refl _ _) hk
 rw [Bool.not_eq_false'] at h
 rw [if_neg (fun e=>e (of_decide_eq_true h))] at hk
 refine rkindOf_ok fun w8 c8=>⟨_,rfl,?_⟩
 have b78:=(c8.blk (blk_lt b7) id).trans b7
 have b18:=(c8.blk (blk_lt b17) id).trans b17
 rw [show (hexI (kindN t.text) == 0)=decide (kindN t.text=some 0) from hexI_eq _ 0,show (hexI (kindN t.text) == 24)=decide (kindN t.text=some 24) from hexI_eq _ 24]
 cases hq:kindN t.text with
 | none =>
  rw [hq] at hk
  refine ⟨fun w9=>w9=w8,?_,Sif_true_of (by simp) (Sif_false_of (by simp) rfl)⟩
  rintro w9 rfl
  refine Sif_true_of (by decide) ?_
  refine ld4 (K:=fun v w2=>callP Tryz.prog 46 [v,.int .i64 40] w2 _) b78 ?_
  exact amis t 40 (by decide) c8 hk
 | some k =>
  rw [hq] at hk
  simp only at hk
  refine ⟨fun w9=>w9=w8∧¬ (k=0∨k=24),?_,?_⟩
  ·rintro w9 ⟨rfl,hno⟩
   rw [if_neg hno] at hk
   refine Sif_false_of (decide_eq_false (by show ¬ ((k:Int)<0); omega)) ⟨_,(by simp only [add_at,Nat.zero_add]; exact cellK b78 2 rfl),?_⟩
   refine rnext_ok hs (by omega) fun w10 c10=>?_
   rw [← hl]
   obtain ⟨o,ho⟩:∃ o,o=next l t.fin:=⟨_,rfl⟩
   have hlies2:=next_lies l t.fin (by omega)
   rw [← ho] at hk hlies2 ⊢
   refine tup4 (nb4 rfl fun w15 b15 c15 z15=>?_)
   have c715:=(c8.trans' c10).trans' c15
   have b115:=(c715.blk (blk_lt b17) id).trans b17
   have c115:=c17.trans' c715
   refine ⟨fun w16=>w16=w15∧o.is 91=true,?_,?_⟩
   ·rintro w16 ⟨rfl,hyes⟩
    rw [if_neg (by rw [hyes]; decide)] at hk
    refine ⟨_,(by simp only [add_at,Nat.zero_add]; exact cellK b15 2 rfl),?_⟩
    refine rlist_ok hs hd hR (elem:=some k) (by omega) fun v w17 hv c17'=>?_
    rw [← hl] at hv
    have b117:=(c17'.blk (blk_lt b115) id).trans b115
    have c117:=c115.trans' c17'
    have hz15:=c115.size
    unfold listN at hv
    unfold Go.Note.listed at hk
    change ∀ v w',Fo w.heap.size w' (match elemsM (rdM l d) l (some k) o.fin [] with | .bad a e=>.bad a e | .ok l a=>.ok (.mk 23 0 [] (k:Int) l) a) v→_ at hk
    cases hel:elemsM (rdM l d) l (some k) o.fin [] with
    | bad a e =>
     rw [hel] at hv hk
     obtain ⟨rfl,he0⟩:=hv
     refine tup7 (nb7 rfl fun w25 b25 c25 z25=>?_)
     have b125:=(c25.blk (blk_lt b117) id).trans b117
     refine ⟨fun w26=>w26=w25,fun w26 h=>?_,_,(by simp only [add_at,Nat.zero_add]; exact cellK b25 6 rfl),?_⟩
     ·subst h
      exact bad_ret b125 rfl b25 fun w5 c5=>hk _ w5 ⟨rfl,he0⟩ ((c117.trans' c25).trans c5 fun x hx h=>by omega)
     ·rw [eq0]
      exact Sif_false_of (decide_eq_false he0) rfl
    | ok L a =>
     rw [hel] at hv hk
     obtain ⟨x,rfl,hxm,hvo,hxb⟩:=hv
     obtain ⟨k0,n0,t0,s0,e0,l0⟩:=x
     refine tup7 (nb7 rfl fun w25 b25 c25 z25=>?_)
     have b125:=(c25.blk (blk_lt b117) id).trans b117
     have hz17:=c17'.size
     have hz25:=c25.size
     refine ⟨fun w26=>blk w26 w17.heap.size=some (fdg (.mk 23 n0 t0 s0 (k:Int) l0) (a:Int) 0)∧Ch (·=w17.heap.size) w25 w26,?_,_,(by simp only [add_at,Nat.zero_add]; exact cellK b25 6 rfl),?_⟩
     ·rintro w26 ⟨b26,c26⟩
      have hlt17:w.heap.size<w17.heap.size:=by have:=c117.size; have:=blk_lt b117; omega
      have b126:=(c26.blk (blk_lt b125) (by omega)).trans b125
      have c126:Ch (fun _=>False) w w26:=(c117.trans' c25).trans c26 fun x hx h=>by omega
      refine bad_ret b126 rfl b26 fun w5 c5=>hk _ w5 ⟨_,rfl,?_,?_,?_⟩ (c126.trans c5 fun x hx h=>by omega)
      ·rw [MV.m_mk] at hxm ⊢
       injection hxm with q1 q2 q3 q4 q5
       rw [q2,q3,q5]
      ·have hvo2:VO w17 (.mk 23 n0 t0 s0 (k:Int) l0):=by
        cases hvo with | mk h1 h2 h3 h4 h5=>exact .mk h1 h2 h3 h4 h5
       have hxb2:∀ b∈(MV.mk 23 n0 t0 s0 (k:Int) l0).B,w16.heap.size≤b:=fun b hb=>hxb b (by rw [MV.B_mk] at hb ⊢; exact hb)
       have hlt2:=VO.lt _ hvo2
       refine VO.ch c5 _ (VO.ch c26 _ (VO.ch c25 _ hvo2 fun _ _ h=>h) fun b hb e=>?_) fun b hb e=>?_
       ·have:=hlt2 b hb; omega
       ·have:=hxb2 b hb; have:=blk_lt b115; omega
      ·intro b hb
       have:=hxb b (by rw [MV.B_mk] at hb ⊢; exact hb); omega
     ·refine Sif_true_of rfl ?_
      simp only [add_at,Nat.zero_add,Nat.add_zero]
      refine st_blk b25 (by simp [fdg]) fun w26 b26 c26 z26=>st_blk b26 (by simp [fdg]) fun w27 b27 c27 z27=>⟨b27,c26.trans' c27⟩
   ·have e3:((o.kind:Int) != 3)=!decide (o.kind=3):=by rw [bne,show ((o.kind:Int) == 3)=decide (o.kind=3) from natEq _ 3]
    have go:o.is 91=false→callP Tryz.prog 46 [tkv o,.int .i64 40] w15 _:=fun hno=>amis o 40 (by decide) c715 (by rw [if_pos hno] at hk; exact hk)
    refine ⟨_,(by simp only [add_at,Nat.zero_add]; exact cellK b15 0 rfl),?_⟩
    rw [e3,Bool.not_not]
    refine Sif_cases (fun h1=>⟨_,(by simp only [add_at,Nat.zero_add]; exact cellK b15 3 rfl),?_⟩) (fun h1=>?_)
    ·rw [show (ByteArray.mk (Array.mk [(91:UInt8)]))=⟨([91]:Bs).toArray⟩ by rfl,bs_eq]
     refine Sif_cases (fun h2=>?_) (fun h2=>⟨rfl,?_⟩)
     ·rw [Bool.not_eq_true'] at h2
      refine ld4 (K:=fun v w2=>callP Tryz.prog 46 [v,.int .i64 40] w2 _) b15 ?_
      exact go (by rw [is_val,h2,Bool.and_false])
     ·rw [Bool.not_eq_false'] at h2
      rw [is_val,h1,h2]; rfl
    ·refine ld4 (K:=fun v w2=>callP Tryz.prog 46 [v,.int .i64 40] w2 _) b15 ?_
     exact go (by rw [is_val,h1,Bool.false_and])
  ·have bad:(k=0∨k=24)→_:=fun hb=>by
    rw [if_pos hb] at hk
    exact ld4 (K:=fun v w2=>callP Tryz.prog 46 [v,.int .i64 24] w2 _) b78 (amis t 24 (by decide) c8 hk)
   refine Sif_cases (fun h1=>Sif_cases (fun h2=>?_) (fun h2=>⟨rfl,?_⟩)) (fun h1=>?_)
   ·exact bad (.inr (by simpa using of_decide_eq_true h2))
   ·rw [Bool.not_eq_true'] at h1
    have h1:=of_decide_eq_false h1
    have h2:=of_decide_eq_false h2
    simp only [Option.some.injEq] at h1 h2
    omega
   ·rw [Bool.not_eq_false'] at h1
    exact bad (.inl (by simpa using of_decide_eq_true h1))
end Go.Proofs.YtnacobknngidkaaGreatDoor
namespace Go.Proofs.YtnacobknngidkaaGreatDoor
open Go Go.Sv Go.Note Go.RowKit
set_option linter.unusedVariables false
attribute [local irreducible] Sif
set_option maxRecDepth 4000
theorem shut_ret {t:Tok} {at_:Nat} {w3:World} {p:Option Addr} {n c:Nat} {own:Option Nat} {R:List MV} (h:VE.Row w3 p n c own R) (hev:n%2=0) (hn46:n≤2^40) (ht5:t.kind≠5) {sz:Nat} (hsz:∀ b∈VE.rowB own R,sz≤b) {b:Nat} {zs:List Value} (hb:blk w3 b=some zs) (hbs:b<sz) (hl:zs.length=7) {K:Value→World→Prop}
 (hk:∀ v w5,Fo sz w5 (shut (R.map MV.m) t.beg at_) v→Ch (·=b) w3 w5→K v w5) :
 callP Tryz.prog 125 [.slice p n c,tkv t,.int .i64 (at_:Int)] w3 fun v1 w4=>∃ y0 y1 y2 q3 m3 c3 y4 y5 y6,v1=.agg (Array.mk [.int .i64 y0,.int .u64 y1,.string y2,.slice q3 m3 c3,.int .i64 y4,.int .i64 y5,.int .i64 y6]) ∧
  (Sv.st w4 (Addr.add ⟨b,0,none⟩ 0) (.int .i64 y0) fun w5=>Sv.st w5 (Addr.add ⟨b,0,none⟩ 1) (.int .u64 y1) fun w6=>Sv.st w6 (Addr.add ⟨b,0,none⟩ 2) (.string y2) fun w7=>Sv.st w7 (Addr.add ⟨b,0,none⟩ 3) (.slice q3 m3 c3) fun w8=>Sv.st w8 (Addr.add ⟨b,0,none⟩ 4) (.int .i64 y4) fun w9=>Sv.st w9 (Addr.add ⟨b,0,none⟩ 5) (.int .i64 y5) fun w10=>Sv.st w10 (Addr.add ⟨b,0,none⟩ 6) (.int .i64 y6) fun w11 =>
    ∃ y0,w11.cell? (Addr.add ⟨b,0,none⟩ 0)=some (.int .i64 y0)∧∃ y1,w11.cell? (Addr.add ⟨b,0,none⟩ 1)=some (.int .u64 y1)∧∃ y2,w11.cell? (Addr.add ⟨b,0,none⟩ 2)=some (.string y2)∧∃ q3 m3 c3,w11.cell? (Addr.add ⟨b,0,none⟩ 3)=some (.slice q3 m3 c3)∧∃ y4,w11.cell? (Addr.add ⟨b,0,none⟩ 4)=some (.int .i64 y4)∧∃ y5,w11.cell? (Addr.add ⟨b,0,none⟩ 5)=some (.int .i64 y5)∧∃ y6,w11.cell? (Addr.add ⟨b,0,none⟩ 6)=some (.int .i64 y6)∧K (.agg (Array.mk [.int .i64 y0,.int .u64 y1,.string y2,.slice q3 m3 c3,.int .i64 y4,.int .i64 y5,.int .i64 y6])) w11):=by
 refine rshut_ok h hev hn46 ht5 hsz fun v w4 hv c4=>?_
 have b4:=(c4.blk (blk_lt hb) id).trans hb
 have cc:∀ {w5:World},Ch (·=b) w4 w5→Ch (·=b) w3 w5:=fun c5=>(c4.mono fun _ _ h=>h.elim).trans' c5
 cases hsh:shut (R.map MV.m) t.beg at_ with
 | bad a e =>
  rw [hsh] at hv hk
  obtain ⟨rfl,he⟩:=hv
  refine tup7 ?_
  exact st7 (x:=mv0) b4 hl fun w5 b5 c5 z5=>ld7 b5 (hk _ w5 ⟨rfl,he⟩ (cc c5))
 | ok m a =>
  rw [hsh] at hv hk
  obtain ⟨x,rfl,hxm,hvo,hxb⟩:=hv
  refine tup7 ?_
  exact st7 (x:=x) b4 hl fun w5 b5 c5 z5=>ld7 b5 (hk _ w5 ⟨x,rfl,hxm,VO.ch c5 x hvo fun k hk e=>by have:=hxb k hk; omega,hxb⟩ (cc c5))
end Go.Proofs.YtnacobknngidkaaGreatDoor
