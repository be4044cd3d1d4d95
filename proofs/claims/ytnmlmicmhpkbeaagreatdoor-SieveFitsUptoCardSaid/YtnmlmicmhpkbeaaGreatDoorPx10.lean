/-
  Taken together for one seat (rawpack.py): what other texts prove of values, texts, builders. Floats of 64 bits in plain Lean: what is written exactly is read as it was; the whole number below a float. No program in sight. Floats of 64 bits and whole numbers in plain Lean: how they stand, exactly; the whole number below one; a float cut to a whole number. No program in sight. Patterns in plain Lean: a text's signs, a pattern's elements, when a text fits a pattern; the search that goes back to the last row alone; the same, place by place. No program in sight. Terms of filters in plain Lean: how many there are, which may be, what is alone wrong with one. No program in sight. What a filter says of a message, in plain Lean: worths, three values, comparisons, sums. No program in sight.
-/
import Derived.Test.YtnmlmicmhpkbeaaGreatDoorPx9
import GoSem.Core.Float
import GoSem.Extern.MathFloor
import Derived.Lib.Bytealg
import GoSem.Core.Utf8
import GoSem.Op.Unary
set_option linter.unusedVariables false
set_option linter.unusedSimpArgs false
namespace Go.Proofs.YtnmlmicmhpkbeaaGreatDoor
open Go Go.Sv Go.Note
set_option linter.unusedVariables false
attribute [local irreducible] Sif
set_option maxRecDepth 4000
def nS:SL:=⟨none,0,0,none⟩
def mk7 (i:Nat):MV:=.mk (-7) i [] nS 0 []
def marks (n:Nat):List MV:=[mk7 n,mk7 (n+1),mk7 (n+2)]
inductive LV (w:World):MV→Prop where
 | mk {k:Int} {n:Nat} {t:Bs} {s:SL} {e:Int} {l:List MV} (b:Nat):s.p=some ⟨b,0,none⟩→s.own=some b→l.length=s.n→s.c=s.n+3→s.n≤2^40→blk w b=some ((l++marks s.n).flatMap MV.g)→(∀ x∈l,LV w x)→(b::l.flatMap MV.B).Nodup→LV w (.mk k n t s e l)
theorem LV.ch {S:Nat→Prop} {w w':World} (hc:Ch S w w'):∀ x:MV,LV w x→(∀ b∈x.B,¬ S b)→LV w' x:=by
 refine MV.ind fun k n t s e l ih=>?_
 intro h hn
 rw [MV.B_mk] at hn
 cases h with
 | mk b h1 h2 h3 h4 h5 h6 h7 h8 =>
  refine .mk b h1 h2 h3 h4 h5 ((hc.blk (blk_lt h6) (hn b (by rw [h2]; simp))).trans h6) (fun x hx=>ih x hx (h7 x hx) fun k hk=>hn k ?_) h8
  exact List.mem_append.2 (.inr (List.mem_flatMap.2 ⟨x,hx,hk⟩))
theorem LV.lt {w:World}:∀ x:MV,LV w x→∀ b∈x.B,b<w.heap.size:=by
 refine MV.ind fun k n t s e l ih=>?_
 intro h b hb
 rw [MV.B_mk] at hb
 cases h with
 | mk b' h1 h2 h3 h4 h5 h6 h7 h8 =>
  rcases List.mem_append.1 hb with hb | hb
  ·rw [h2] at hb
   simp only [Option.toList_some,List.mem_singleton] at hb
   subst hb; exact blk_lt h6
  ·obtain ⟨x,hx,hb⟩:=List.mem_flatMap.1 hb
   exact ih x hx (h7 x hx) b hb
theorem LV.vr {w:World}:∀ x:MV,LV w x→∀ Q:Nat→Prop,(∀ b∈x.B,Q b)→VR Q w x:=by
 refine MV.ind fun k n t s e l ih=>?_
 intro h Q hq
 rw [MV.B_mk] at hq
 cases h with
 | mk b h1 h2 h3 h4 h5 h6 h7 h8 =>
  have hl:(l.flatMap MV.g).length=s.n*5:=by rw [flat_len MV.glen,h3]
  refine .mk h3 (by omega) ⟨hl,.inr ⟨b,0,_,h1,blk_cells h6,?_,?_⟩⟩ (fun a ha _=>?_) fun x hx=>ih x hx (h7 x hx) Q fun k hk=>hq k (List.mem_append.2 (.inr (List.mem_flatMap.2 ⟨x,hx,hk⟩)))
  ·rw [List.flatMap_append,List.length_append]; omega
  ·rw [List.flatMap_append,List.drop_zero,← hl,List.take_append_of_le_length (Nat.le_refl _),List.take_length]
  ·rw [h1] at ha; cases ha
   exact hq b (by rw [h2]; simp)
theorem LV.inv {w:World} {x:MV} (h:LV w x):∃ b,x.s.p=some ⟨b,0,none⟩∧x.s.own=some b∧x.l.length=x.s.n∧x.s.c=x.s.n+3∧x.s.n≤2^40∧blk w b=some ((x.l++marks x.s.n).flatMap MV.g)∧(∀ y∈x.l,LV w y)∧(b::x.l.flatMap MV.B).Nodup:=by
 cases h with
 | mk b h1 h2 h3 h4 h5 h6 h7 h8=>exact ⟨b,h1,h2,h3,h4,h5,h6,h7,h8⟩
end Go.Proofs.YtnmlmicmhpkbeaaGreatDoor
namespace Go.Note
open Go
set_option linter.unusedVariables false
end Go.Note
namespace Go.Proofs.YtnmlmicmhpkbeaaGreatDoor
open Go Go.Sv Go.Note
set_option linter.unusedVariables false
attribute [local irreducible] Sif
set_option maxRecDepth 4000
end Go.Proofs.YtnmlmicmhpkbeaaGreatDoor
namespace Go.Proofs.YtnmlmicmhpkbeaaGreatDoor
open Go Go.Sv Go.Note
set_option linter.unusedVariables false
attribute [local irreducible] Sif
set_option maxRecDepth 4000
theorem rletter_ok {s:ByteArray} (hs:s.size≤2^48) (h0:0<s.size) {w:World} {K:Value→World→Prop} (hk:K (.int .i64 (chr s.data.toList:Int)) w):callP Tryz.prog 57 [.string s] w K:=by
 apply ok_longshoreref02_letter
 have hsl:=sl s
 obtain ⟨l,hl⟩:∃ l,l=s.data.toList:=⟨_,rfl⟩
 have hcc:=chr_ch l
 rw [← hl] at hk hsl
 have hby:∀ k,k<s.size→byteAt s k=(ch l k:Int)∧ch l k≤255:=fun k hk=>by
  obtain ⟨y,hy⟩:∃ y,s.data.toList[k]?=some y:=⟨_,List.getElem?_eq_getElem (by rw [← hl]; omega)⟩
  rw [byteAt_get hy,hl,ch_some hy]
  have:=y.toNat_lt
  exact ⟨rfl,by omega⟩
 have hno:∀ k,s.size≤k→ch l k=256:=fun k hk=>by
  unfold ch; rw [List.getElem?_eq_none (by omega)]
 obtain ⟨g0,g0'⟩:=hby 0 h0
 have g1:=hby 1
 have g2:=hby 2
 have g3:=hby 3
 have n1:=hno 1
 have n2:=hno 2
 have n3:=hno 3
 clear hby hno
 generalize ch l 0=c0 at *
 generalize ch l 1=c1 at *
 generalize ch l 2=c2 at *
 generalize ch l 3=c3 at *
 refine ⟨by omega,by omega,?_⟩
 simp only [nameI]
 rw [g0]
 simp only [wrap_id (n:=(c0:Int)) (by omega) (by omega)]
 have bad:chr l=0→K (.int .i64 0) w:=fun h=>by rw [h] at hk; exact hk
 have good:∀ L:Nat,chr l=L→K (.int .i64 (L:Int)) w:=fun L h=>by rw [h] at hk; exact hk
 refine ⟨fun L a mn w1=>w1=w∧((L=((2:Nat):Int)∧a=(c0:Int)-192∧mn=128∧194≤c0∧c0≤223)∨(L=((3:Nat):Int)∧a=(c0:Int)-224∧mn=2048∧224≤c0∧c0≤239)∨(L=((4:Nat):Int)∧a=(c0:Int)-240∧mn=65536∧240≤c0∧c0≤244)),?_,?_⟩
 rotate_left
 ·refine Sif_cases (fun h=>?_) (fun h=>?_)
  ·have h:=of_decide_eq_true h
   exact good 1 (by rw [hcc,if_pos (by omega)])
  have h:=of_decide_eq_false h
  refine Sif_cases (fun h1=>Sif_cases (fun h2=>?_) (fun h2=>Sif_cases (fun h3=>Sif_cases (fun h4=>?_) (fun h4=>Sif_cases (fun h5=>Sif_cases (fun h6=>?_) (fun h6=>?_)) (fun h5=>?_))) (fun h3=>Sif_cases (fun h5=>Sif_cases (fun h6=>?_) (fun h6=>?_)) (fun h5=>?_)))) (fun h1=>Sif_cases (fun h3=>Sif_cases (fun h4=>?_) (fun h4=>Sif_cases (fun h5=>Sif_cases (fun h6=>?_) (fun h6=>?_)) (fun h5=>?_))) (fun h3=>Sif_cases (fun h5=>Sif_cases (fun h6=>?_) (fun h6=>?_)) (fun h5=>?_)))
  all_goals (try have h1:=of_decide_eq_true h1)
  all_goals (try have h1:=of_decide_eq_false h1)
  all_goals (try have h2:=of_decide_eq_true h2)
  all_goals (try have h2:=of_decide_eq_false h2)
  all_goals (try have h3:=of_decide_eq_true h3)
  all_goals (try have h3:=of_decide_eq_false h3)
  all_goals (try have h4:=of_decide_eq_true h4)
  all_goals (try have h4:=of_decide_eq_false h4)
  all_goals (try have h5:=of_decide_eq_true h5)
  all_goals (try have h5:=of_decide_eq_false h5)
  all_goals (try have h6:=of_decide_eq_true h6)
  all_goals (try have h6:=of_decide_eq_false h6)
  all_goals first
   | exact absurd (show False by omega) (fun h=>h)
   | exact bad (by rw [hcc,if_neg (by omega),if_neg (by omega),if_neg (by omega),if_neg (by omega)])
   | exact ⟨rfl,.inl ⟨rfl,wrap_id (by omega) (by omega),rfl,by omega,by omega⟩⟩
   | exact ⟨rfl,.inr (.inl ⟨rfl,wrap_id (by omega) (by omega),rfl,by omega,by omega⟩)⟩
   | exact ⟨rfl,.inr (.inr ⟨rfl,wrap_id (by omega) (by omega),rfl,by omega,by omega⟩)⟩
 rintro L a mn w1 ⟨rfl,hJ⟩
 obtain ⟨Ln,rfl,hLn⟩:∃ Ln:Nat,L=(Ln:Int)∧2≤Ln∧Ln≤4:=by
  rcases hJ with ⟨h,_⟩ | ⟨h,_⟩ | ⟨h,_⟩
  ·exact ⟨2,h,by omega⟩
  ·exact ⟨3,h,by omega⟩
  ·exact ⟨4,h,by omega⟩
 refine Sif_cases (fun h=>?_) (fun h=>?_)
 ·have h:=of_decide_eq_true h
  exact bad (by rw [hcc,if_neg (by omega),if_neg (by omega),if_neg (by omega),if_neg (by omega)])
 have hLs:Ln≤s.size:=by have:=of_decide_eq_false h; omega
 clear h
 refine ⟨fun m acc k w2=>∃ j:Nat,k=(j:Int)∧m=Ln-j∧w2=w1∧((j=1∧acc=a)∨(j=2∧128≤c1∧c1≤191∧acc=64*a+c1-128)∨(j=3∧3≤Ln∧128≤c1∧c1≤191∧128≤c2∧c2≤191∧acc=64*(64*a+c1-128)+c2-128)∨(j=4∧Ln=4∧128≤c1∧c1≤191∧128≤c2∧c2≤191∧128≤c3∧c3≤191∧acc=64*(64*(64*a+c1-128)+c2-128)+c3-128)),⟨Ln-1,1,rfl,rfl,rfl,.inl ⟨rfl,rfl⟩⟩,?_⟩
 rintro m acc k w2 ⟨j,rfl,rfl,rfl,hI⟩
 have hab:0≤a∧a≤31:=by omega
 refine Sif_cases (fun h=>?_) (fun h=>?_)
 ·have hjl:j<Ln:=by have:=of_decide_eq_true h; omega
  clear h
  refine ⟨fun acc' w3=>w3=w2∧((j=1∧128≤c1∧c1≤191∧acc'=64*a+c1-128)∨(j=2∧128≤c1∧c1≤191∧128≤c2∧c2≤191∧acc'=64*(64*a+c1-128)+c2-128)∨(j=3∧128≤c1∧c1≤191∧128≤c2∧c2≤191∧128≤c3∧c3≤191∧acc'=64*(64*(64*a+c1-128)+c2-128)+c3-128)),?_,by omega,by omega,?_⟩
  ·rintro acc' w3 ⟨rfl,hA⟩
   refine ⟨Ln-(j+1),by omega,j+1,by rw [wrap_id (by omega) (by omega)]; omega,rfl,rfl,?_⟩
   rcases hA with h | h | h
   ·exact .inr (.inl ⟨by omega,h.2⟩)
   ·exact .inr (.inr (.inl ⟨by omega,by omega,h.2⟩))
   ·exact .inr (.inr (.inr ⟨by omega,by omega,h.2⟩))
  rw [Int.toNat_natCast]
  obtain ⟨y,hy,hy2,hj3⟩:∃ y:Nat,byteAt s j=(y:Int)∧y≤255∧((j=1∧y=c1)∨(j=2∧y=c2)∨(j=3∧y=c3)):=by
   have:j=1∨j=2∨j=3:=by omega
   rcases this with rfl | rfl | rfl
   ·exact ⟨c1,(g1 (by omega)).1,(g1 (by omega)).2,.inl ⟨rfl,rfl⟩⟩
   ·exact ⟨c2,(g2 (by omega)).1,(g2 (by omega)).2,.inr (.inl ⟨rfl,rfl⟩)⟩
   ·exact ⟨c3,(g3 (by omega)).1,(g3 (by omega)).2,.inr (.inr ⟨rfl,rfl⟩)⟩
  rw [hy]
  simp only [wrap_id (n:=(y:Int)) (by omega) (by omega)]
  clear g0 g1 g2 g3 n1 n2 n3
  have haa:0≤acc∧acc≤2000000:=by omega
  refine ⟨fun w3=>w3=w2∧128≤y∧y≤191,?_,?_⟩
  ·rintro w3 ⟨rfl,hy3,hy4⟩
   refine ⟨rfl,?_⟩
   rw [wrap_id (n:=64*acc) (by omega) (by omega),wrap_id (n:=64*acc+(y:Int)) (by omega) (by omega),wrap_id (n:=64*acc+(y:Int)-128) (by omega) (by omega)]
   rcases hj3 with ⟨rfl,rfl⟩ | ⟨rfl,rfl⟩ | ⟨rfl,rfl⟩
   ·refine .inl ⟨rfl,hy3,hy4,?_⟩
    omega
   ·refine .inr (.inl ⟨rfl,by omega,by omega,hy3,hy4,?_⟩)
    omega
   ·refine .inr (.inr ⟨rfl,by omega,by omega,by omega,by omega,hy3,hy4,?_⟩)
    omega
  ·refine Sif_cases (fun h=>Sif_cases (fun h2=>?_) (fun h2=>⟨rfl,?_,?_⟩)) (fun h=>?_)
   ·have h2:=of_decide_eq_true h2
    exact bad (by rw [hcc,if_neg (by omega),if_neg (by omega),if_neg (by omega),if_neg (by omega)])
   ·rw [Bool.not_eq_true'] at h; have:=of_decide_eq_false h; omega
   ·have:=of_decide_eq_false h2; omega
   ·rw [Bool.not_eq_false'] at h
    have h:=of_decide_eq_true h
    exact bad (by rw [hcc,if_neg (by omega),if_neg (by omega),if_neg (by omega),if_neg (by omega)])
 ·have hjl:Ln≤j:=by have:=of_decide_eq_false h; omega
  clear h g0 g1 g2 g3 n1 n2 n3
  have hj4:Ln=j:=by omega
  refine ⟨fun w3=>w3=w2∧chr l=Ln,fun w3 h=>by obtain ⟨rfl,h⟩:=h; exact good _ h,?_⟩
  refine Sif_cases (fun h=>?_) (fun h=>?_)
  ·rw [Bool.not_eq_true'] at h
   have h:=of_decide_eq_false h
   refine Sif_cases (fun h2=>?_) (fun h2=>?_)
   ·rw [Bool.not_eq_true'] at h2
    have h2:=of_decide_eq_false h2
    refine Sif_cases (fun h3=>Sif_cases (fun h4=>?_) (fun h4=>⟨rfl,?_⟩)) (fun h3=>⟨rfl,?_⟩)
    ·have h3:=of_decide_eq_true h3
     have h4:=of_decide_eq_true h4
     exact bad (by rw [hcc,if_neg (by omega),if_neg (by omega),if_neg (by omega),if_neg (by omega)])
    ·have h4:=of_decide_eq_false h4
     rcases hJ with ⟨q,q1,q2,q3,q4⟩ | ⟨q,q1,q2,q3,q4⟩ | ⟨q,q1,q2,q3,q4⟩
     ·rw [hcc,if_neg (by omega),if_pos (by omega)]; omega
     ·rw [hcc,if_neg (by omega),if_neg (by omega),if_pos (by omega)]; omega
     ·rw [hcc,if_neg (by omega),if_neg (by omega),if_neg (by omega),if_pos (by omega)]; omega
    ·have h3:=of_decide_eq_false h3
     rcases hJ with ⟨q,q1,q2,q3,q4⟩ | ⟨q,q1,q2,q3,q4⟩ | ⟨q,q1,q2,q3,q4⟩
     ·rw [hcc,if_neg (by omega),if_pos (by omega)]; omega
     ·rw [hcc,if_neg (by omega),if_neg (by omega),if_pos (by omega)]; omega
     ·rw [hcc,if_neg (by omega),if_neg (by omega),if_neg (by omega),if_pos (by omega)]; omega
   ·rw [Bool.not_eq_false'] at h2
    have h2:=of_decide_eq_true h2
    exact bad (by rw [hcc,if_neg (by omega),if_neg (by omega),if_neg (by omega),if_neg (by omega)])
  ·rw [Bool.not_eq_false'] at h
   have h:=of_decide_eq_true h
   exact bad (by rw [hcc,if_neg (by omega),if_neg (by omega),if_neg (by omega),if_neg (by omega)])
theorem rText2_ok {s:ByteArray} (hs:s.size≤2^48) {w:World} {K:Value→World→Prop} (hk:K (.bool (textB s.data.toList)) w):callP Tryz.prog 30 [.string s] w K:=by
 apply ok_longshoreref02_Text
 have hsl:=sl s
 refine ⟨fun m i w1=>∃ j:Nat,i=(j:Int)∧j≤s.size∧m=s.size-j∧w1=w∧textB s.data.toList=textB (s.data.toList.drop j),⟨s.size,0,rfl,Nat.zero_le _,rfl,rfl,rfl⟩,?_⟩
 rintro m i w1 ⟨j,rfl,hj,rfl,rfl,heq⟩
 refine Sif_cases (fun h=>?_) (fun h=>?_)
 ·have hjl:j<s.size:=by have:=of_decide_eq_true h; omega
  refine ⟨by omega,by omega,?_⟩
  rw [Int.toNat_natCast]
  have hR:(s.extract j s.size).data.toList=s.data.toList.drop j:=by rw [extract_data,List.take_of_length_le (by rw [List.length_drop]; omega)]
  have hRs:(s.extract j s.size).size=s.size-j:=by rw [size_of hR,List.length_drop]; omega
  have hne:s.data.toList.drop j≠[]:=fun e=>by have:=congrArg List.length e; rw [List.length_drop,List.length_nil] at this; omega
  refine rletter_ok (by omega) (by omega) ⟨_,rfl,?_⟩
  rw [hR,eq0]
  rw [textB_cons _ hne] at heq
  have hle:=(chr_le (s.data.toList.drop j)).1
  rw [List.length_drop] at hle
  refine Sif_cases (fun h1=>?_) (fun h1=>?_)
  ·rw [decide_eq_false (p:=chr (s.data.toList.drop j)≠0) (fun e=>e (of_decide_eq_true h1)),Bool.false_and] at heq
   rw [heq] at hk; exact hk
  ·have h1:=of_decide_eq_false h1
   rw [decide_eq_true (p:=chr (s.data.toList.drop j)≠0) h1,Bool.true_and,List.drop_drop] at heq
   simp only [nameI]
   exact ⟨s.size-(j+chr (s.data.toList.drop j)),by omega,j+chr (s.data.toList.drop j),by rw [wrap_id (by omega) (by omega)]; omega,by omega,rfl,by trivial,heq⟩
 ·have hjl:j=s.size:=by have:=of_decide_eq_false h; omega
  rw [hjl,List.drop_of_length_le (by omega)] at heq
  rw [heq] at hk; exact hk
end Go.Proofs.YtnmlmicmhpkbeaaGreatDoor
namespace Go.Proofs.YtnmlmicmhpkbeaaGreatDoor
open Go Go.Sv Go.Note Go.RowKit
set_option linter.unusedVariables false
attribute [local irreducible] Sif
set_option maxRecDepth 4000
def WT (base:World) (b0:Option Nat) (w:World) (p:Option Addr) (n c:Nat) (l:Bs):Prop:=Gb base w p n c l b0∧∀ k,b0=some k→k<base.heap.size
theorem WT.ch {base w:World} {b0:Option Nat} {p:Option Addr} {n c:Nat} {l:Bs} (h:WT base b0 w p n c l):Ch (fun k=>b0=some k) base w:=by obtain ⟨⟨_,_,_,h⟩,_⟩:=h; exact h
theorem WT.ch0 {base w w':World} {b0:Option Nat} {p:Option Addr} {n c:Nat} {l:Bs} (h:WT base b0 w p n c l) (cc:Ch (fun _=>False) w w'):WT base b0 w' p n c l:=by
 obtain ⟨⟨b',h1,h2,h3⟩,h4⟩:=h
 exact ⟨⟨b',h1.ch cc fun _ _ h=>h,h2,h3.trans' (cc.mono fun _ _ h=>h.elim)⟩,h4⟩
end Go.Proofs.YtnmlmicmhpkbeaaGreatDoor
namespace Go.Proofs.YtnmlmicmhpkbeaaGreatDoor
open Go Go.Sv Go.Note
set_option linter.unusedVariables false
attribute [local irreducible] Sif
set_option maxRecDepth 4000
end Go.Proofs.YtnmlmicmhpkbeaaGreatDoor
namespace Go.Proofs.YtnmlmicmhpkbeaaGreatDoor
open Go Go.Sv Go.Note
set_option linter.unusedVariables false
attribute [local irreducible] Sif
set_option maxRecDepth 4000
end Go.Proofs.YtnmlmicmhpkbeaaGreatDoor
namespace Go.Note
open Go
set_option linter.unusedVariables false
abbrev DB:=Ieee.double
end Go.Note
namespace Go.Note
open Go
set_option linter.unusedVariables false
def sc (s:Bool) (m:Nat) (e:Int):Int:=if s then -((m*2^(e+1074).toNat:Nat):Int) else ((m*2^(e+1074).toNat:Nat):Int)
abbrev V74:Nat:=2^1074
end Go.Note
namespace Go.Note
open Go
set_option linter.unusedVariables false
def sgF:Nat→Bs→List Bs
 | 0,_=>[]
 | f+1,l=>if l=[] then [] else l.take (wide l)::sgF f (l.drop (wide l))
def sg (l:Bs):List Bs:=sgF l.length l
theorem sgF_fuel:∀ (f g:Nat) (l:Bs),l.length≤f→l.length≤g→sgF f l=sgF g l
 | 0,0,l,_,_=>rfl
 | 0,g+1,l,h,_=>by
  have:l=[]:=List.eq_nil_of_length_eq_zero (by omega)
  subst this; rfl
 | f+1,0,l,_,h=>by
  have:l=[]:=List.eq_nil_of_length_eq_zero (by omega)
  subst this; rfl
 | f+1,g+1,l,h1,h2=>by
  unfold sgF
  split
  ·rfl
  ·rename_i h
   have:=wide_pos l
   have:0<l.length:=List.length_pos_iff.2 h
   rw [sgF_fuel f g _ (by rw [List.length_drop]; omega) (by rw [List.length_drop]; omega)]
theorem sg_nil:sg []=[]:=rfl
theorem sg_cons (l:Bs) (h:l≠[]):sg l=l.take (wide l)::sg (l.drop (wide l)):=by
 have hp:0<l.length:=List.length_pos_iff.2 h
 have hw:=wide_pos l
 unfold sg
 obtain ⟨n,hn⟩:∃ n,l.length=n+1:=⟨l.length-1,by omega⟩
 rw [hn]
 conv=>lhs; unfold sgF
 rw [if_neg h,sgF_fuel n _ _ (by rw [List.length_drop]; omega) (Nat.le_refl _)]
theorem sg_eq_nil (l:Bs):sg l=[]↔l=[]:=by
 constructor
 ·intro h
  apply Classical.byContradiction
  intro hl
  rw [sg_cons l hl] at h
  cases h
 ·rintro rfl; rfl
theorem sg_ind {P:Bs→Prop} (h0:P []) (h1:∀ l,l≠[]→P (l.drop (wide l))→P l):∀ l,P l:=by
 have:∀ (n:Nat) (l:Bs),l.length≤n→P l:=by
  intro n
  induction n with
  | zero =>
   intro l hl
   obtain rfl:l=[]:=List.eq_nil_of_length_eq_zero (by omega)
   exact h0
  | succ n ih =>
   intro l hl
   by_cases hn:l=[]
   ·subst hn; exact h0
   ·have:=wide_pos l
    have:0<l.length:=List.length_pos_iff.2 hn
    exact h1 l hn (ih _ (by rw [List.length_drop]; omega))
 exact fun l=>this l.length l (Nat.le_refl _)
theorem sg_join:∀ l:Bs,(sg l).flatten=l:=by
 refine sg_ind rfl fun l hl ih=>?_
 rw [sg_cons l hl,List.flatten_cons,ih,List.take_append_drop]
theorem sg_inj {a b:Bs} (h:sg a=sg b):a=b:=by rw [← sg_join a,h,sg_join]
inductive El where
 | row | any | sgn (s:Bs)
 deriving DecidableEq
def elOf (x:Bs):El:=if x=[37] then .row else if x=[95] then .any else .sgn x
def els (e:Bs):List Bs→List El
 | []=>[]
 | [x]=>if e≠[]∧x=e then [.sgn x] else [elOf x]
 | x::y::l=>if e≠[]∧x=e then .sgn y::els e l else elOf x::els e (y::l)
def mt:List El→List Bs→Bool
 | [],s=>decide (s=[])
 | .row::p,[]=>mt p []
 | .row::p,y::s=>mt p (y::s) || mt (.row::p) s
 | .any::_,[]=>false
 | .any::p,_::s=>mt p s
 | .sgn _::_,[]=>false
 | .sgn x::p,y::s=>decide (y=x) && mt p s
termination_by p s=>(p.length,s.length)
def one:El→Bs→Bool
 | .row,_=>false
 | .any,_=>true
 | .sgn x,y=>decide (y=x)
theorem mt_nil (s:List Bs):mt [] s=decide (s=[]):=by rw [mt]
theorem mt_row_nil (p:List El):mt (.row::p) []=mt p []:=by rw [mt]
theorem mt_row_cons (p:List El) (y:Bs) (s:List Bs):mt (.row::p) (y::s)=(mt p (y::s) || mt (.row::p) s):=by rw [mt]
theorem mt_one_nil {x:El} (p:List El) (h:x≠.row):mt (x::p) []=false:=by
 cases x
 ·exact absurd rfl h
 ·rw [mt]
 ·rw [mt]
theorem mt_one_cons {x:El} (p:List El) (y:Bs) (s:List Bs) (h:x≠.row):mt (x::p) (y::s)=(one x y && mt p s):=by
 cases x
 ·exact absurd rfl h
 ·rw [mt]; simp [one]
 ·rw [mt]; rfl
theorem mt_row (p:List El):∀ s:List Bs,mt (.row::p) s=true↔∃ k,k≤s.length∧mt p (s.drop k)=true:=by
 intro s
 induction s with
 | nil =>
  rw [mt_row_nil]
  constructor
  ·intro h; exact ⟨0,Nat.le_refl _,h⟩
  ·rintro ⟨k,_,h⟩; simpa using h
 | cons y s ih =>
  rw [mt_row_cons,Bool.or_eq_true,ih]
  constructor
  ·rintro (h | ⟨k,hk,h⟩)
   ·exact ⟨0,Nat.zero_le _,h⟩
   ·exact ⟨k+1,by simpa using hk,h⟩
  ·rintro ⟨k,hk,h⟩
   cases k with
   | zero=>exact .inl h
   | succ k=>exact .inr ⟨k,by simpa using hk,h⟩
theorem mt_row_drop {p:List El} {s:List Bs} {k:Nat} (h:mt (.row::p) (s.drop k)=true):mt (.row::p) s=true:=by
 obtain ⟨j,hj,h⟩:=(mt_row p _).1 h
 rw [List.drop_drop] at h
 by_cases hk:k≤s.length
 ·exact (mt_row p s).2 ⟨k+j,by rw [List.length_drop] at hj; omega,h⟩
 ·refine (mt_row p s).2 ⟨s.length,Nat.le_refl _,?_⟩
  rw [List.drop_of_length_le (by omega)] at h ⊢
  exact h
theorem mt_append:∀ (p q:List El) (s:List Bs),mt (p++q) s=true↔∃ k,k≤s.length∧mt p (s.take k)=true∧mt q (s.drop k)=true:=by
 intro p q
 induction p with
 | nil =>
  intro s
  rw [List.nil_append]
  constructor
  ·intro h; exact ⟨0,Nat.zero_le _,by rw [mt_nil]; simp,h⟩
  ·rintro ⟨k,hk,h1,h2⟩
   rw [mt_nil,decide_eq_true_eq] at h1
   have:k=0∨s=[]:=by
    have:=congrArg List.length h1
    rw [List.length_take] at this
    simp at this
    omega
   rcases this with rfl | rfl
   ·exact h2
   ·simpa using h2
 | cons x p ih =>
  intro s
  rw [List.cons_append]
  by_cases hx:x=.row
  ·subst hx
   rw [mt_row]
   constructor
   ·rintro ⟨j,hj,h⟩
    obtain ⟨k,hk,h1,h2⟩:=(ih _).1 h
    rw [List.length_drop] at hk
    refine ⟨j+k,by omega,(mt_row p _).2 ⟨j,by rw [List.length_take]; omega,?_⟩,by rw [← List.drop_drop]; exact h2⟩
    rw [List.drop_take,show j+k-j=k by omega]; exact h1
   ·rintro ⟨k,hk,h1,h2⟩
    obtain ⟨j,hj,h1⟩:=(mt_row p _).1 h1
    rw [List.length_take] at hj
    refine ⟨j,by omega,(ih _).2 ⟨k-j,by rw [List.length_drop]; omega,?_,?_⟩⟩
    ·rw [List.drop_take] at h1; exact h1
    ·rw [List.drop_drop,show j+(k-j)=k by omega]; exact h2
  ·cases s with
   | nil =>
    rw [mt_one_nil _ hx]
    constructor
    ·intro h; cases h
    ·rintro ⟨k,hk,h1,_⟩
     rw [List.take_nil,mt_one_nil _ hx] at h1
     cases h1
   | cons y s =>
    rw [mt_one_cons _ _ _ hx,Bool.and_eq_true,ih]
    constructor
    ·rintro ⟨h,k,hk,h1,h2⟩
     refine ⟨k+1,by simpa using hk,?_,h2⟩
     rw [List.take_succ_cons,mt_one_cons _ _ _ hx,h,h1]; rfl
    ·rintro ⟨k,hk,h1,h2⟩
     cases k with
     | zero =>
      rw [List.take_zero,mt_one_nil _ hx] at h1
      cases h1
     | succ k =>
      rw [List.take_succ_cons,mt_one_cons _ _ _ hx,Bool.and_eq_true] at h1
      exact ⟨h1.1,k,by simpa using hk,h1.2,h2⟩
theorem mt_free {q:List El} (hq:∀ x∈q,x≠.row):∀ {s:List Bs},mt q s=true→s.length=q.length:=by
 induction q with
 | nil=>intro s h; rw [mt_nil,decide_eq_true_eq] at h; rw [h]; rfl
 | cons x q ih =>
  intro s h
  cases s with
  | nil=>rw [mt_one_nil _ (hq x (by simp))] at h; cases h
  | cons y s =>
   rw [mt_one_cons _ _ _ (hq x (by simp)),Bool.and_eq_true] at h
   rw [List.length_cons,List.length_cons,ih (fun x hx=>hq x (by simp [hx])) h.2]
def Seek (p:List El) (s:List Bs) (o:Option (List El × List Bs)) (r:Bool):Prop :=
 match o with
 | none=>r=mt p s
 | some (b,f)=>(∃ q,(∀ x∈q,x≠El.row)∧b=q++p∧s=f.drop q.length∧q.length≤f.length)∧r=(mt p s || (decide (f≠[]) && mt (.row::b) f.tail))
theorem Seek.start (p:List El) (s:List Bs):Seek p s none (mt p s):=rfl
theorem Seek.done {o:Option (List El × List Bs)} {r:Bool} (h:Seek [] [] o r):r=true:=by
 cases o with
 | none=>rw [h,mt_nil]; rfl
 | some x=>obtain ⟨b,f⟩:=x; rw [h.2,mt_nil]; rfl
theorem Seek.row {p:List El} {s:List Bs} {o:Option (List El × List Bs)} {r:Bool} (h:Seek (.row::p) s o r):Seek p s (some (p,s)) r:=by
 have e:∀ s:List Bs,mt (.row::p) s=(mt p s || (decide (s≠[]) && mt (.row::p) s.tail)):=by
  intro s
  cases s with
  | nil=>rw [mt_row_nil]; simp
  | cons y s=>rw [mt_row_cons]; simp
 refine ⟨⟨[],by simp,rfl,rfl,Nat.zero_le _⟩,?_⟩
 cases o with
 | none=>rw [h,e]
 | some x =>
  obtain ⟨b,f⟩:=x
  obtain ⟨⟨q,hq,rfl,rfl,hl⟩,rfl⟩:=h
  rw [← e]
  by_cases hf:f=[]
  ·subst hf; simp
  ·cases h1:mt (.row::p) (f.drop q.length) with
   | true=>simp
   | false =>
    rw [Bool.false_or,Bool.and_eq_false_iff]
    refine .inr ?_
    cases h2:mt (.row::(q++.row::p)) f.tail with
    | false=>rfl
    | true =>
     exfalso
     obtain ⟨k,hk,h2⟩:=(mt_row _ _).1 h2
     obtain ⟨j,hj,h3,h4⟩:=(mt_append q _ _).1 h2
     have hjq:=mt_free hq h3
     rw [List.length_take] at hjq
     rw [Nat.min_eq_left hj] at hjq
     subst hjq
     have:f.tail=f.drop 1:=by cases f<;>rfl
     rw [this,List.drop_drop,List.drop_drop] at h4
     have h5:mt (.row::p) ((f.drop q.length).drop (1+k))=true:=by
      rw [List.drop_drop,show q.length+(1+k)=1+(k+q.length) by omega]; exact h4
     rw [mt_row_drop h5] at h1
     cases h1
theorem Seek.step {x:El} {y:Bs} {p:List El} {s:List Bs} {o:Option (List El × List Bs)} {r:Bool} (h:Seek (x::p) (y::s) o r) (hx:x≠.row) (h1:one x y=true):Seek p s o r:=by
 cases o with
 | none =>
  have h:r=_:=h
  rw [mt_one_cons _ _ _ hx,h1,Bool.true_and] at h; exact h
 | some z =>
  obtain ⟨b,f⟩:=z
  obtain ⟨⟨q,hq,rfl,he,hl⟩,rfl⟩:=h
  have hlt:q.length<f.length:=by
   have:=congrArg List.length he
   rw [List.length_drop,List.length_cons] at this; omega
  refine ⟨⟨q++[x],fun z hz=>?_,by simp,?_,by simp; omega⟩,?_⟩
  ·rcases List.mem_append.1 hz with hz | hz
   ·exact hq z hz
   ·rw [List.mem_singleton.1 hz]; exact hx
  ·rw [List.length_append,← List.drop_drop,← he]; rfl
  ·rw [mt_one_cons _ _ _ hx,h1,Bool.true_and]
theorem Seek.back {p:List El} {s:List Bs} {b:List El} {f:List Bs} {r:Bool} (h:Seek p s (some (b,f)) r) (h0:mt p s=false) (hf:f≠[]):Seek b f.tail (some (b,f.tail)) r:=by
 refine ⟨⟨[],by simp,rfl,rfl,Nat.zero_le _⟩,?_⟩
 have:=h.2
 rw [h0,Bool.false_or,decide_eq_true hf,Bool.true_and] at this
 rw [this]
 cases f.tail with
 | nil=>rw [mt_row_nil]; simp
 | cons y s=>rw [mt_row_cons]; simp
theorem Seek.fail {p:List El} {s:List Bs} {o:Option (List El × List Bs)} {r:Bool} (h:Seek p s o r) (h0:mt p s=false) (hf:∀ b f,o=some (b,f)→f=[]):r=false:=by
 cases o with
 | none=>exact h.trans h0
 | some z =>
  obtain ⟨b,f⟩:=z
  rw [h.2,h0,hf b f rfl]; rfl
theorem mt_no {x:El} {p:List El} {s:List Bs} (hx:x≠.row) (h:∀ y t,s=y::t→one x y=false):mt (x::p) s=false:=by
 cases s with
 | nil=>exact mt_one_nil p hx
 | cons y s=>rw [mt_one_cons _ _ _ hx,h y s rfl]; rfl
theorem mt_none {y:Bs} {s:List Bs}:mt [] (y::s)=false:=by rw [mt_nil]; rfl
def now (p:List El) (s:List Bs):List Bool:=(List.range (s.length+1)).map fun k=>mt p (s.take k)
end Go.Note
namespace Go.Note
open Go
set_option linter.unusedVariables false
inductive T where
 | mk (k:Int) (t:Bs) (v:M) (l:List T)
def T.k:T→Int | .mk k _ _ _=>k
def T.t:T→Bs | .mk _ t _ _=>t
def T.v:T→M | .mk _ _ v _=>v
def T.l:T→List T | .mk _ _ _ l=>l
theorem T.lt_of_mem {k:Int} {t:Bs} {v:M} {l:List T} {x:T} (h:x∈l):SizeOf.sizeOf x<SizeOf.sizeOf (T.mk k t v l):=by
 have:=List.sizeOf_lt_of_mem h
 simp only [T.mk.sizeOf_spec]; omega
theorem T.ind {P:T→Prop} (h:∀ k t v l,(∀ x∈l,P x)→P (.mk k t v l)):∀ m,P m
 | .mk k t v l=>h k t v l fun x hx=>T.ind h x
termination_by m=>SizeOf.sizeOf m
decreasing_by exact T.lt_of_mem hx
def zeroM:M:=.mk 0 0 [] 0 []
def zeroT:T:=.mk 0 [] zeroM []
mutual
def T.cnt:Nat→T→Nat
 | n,.mk _ _ _ l=>T.cntL (n+1) l
def T.cntL:Nat→List T→Nat
 | n,[]=>n
 | n,x::l=>if 256<n then n else T.cntL (T.cnt n x) l
end
mutual
def T.sz:T→Nat
 | .mk _ _ _ l=>1+T.szL l
def T.szL:List T→Nat
 | []=>0
 | x::l=>T.sz x+T.szL l
end
theorem T.szL_sum (l:List T):T.szL l=(l.map T.sz).sum:=by
 induction l with
 | nil=>rfl
 | cons x l ih=>simp [T.szL,ih]
def arity (k:Int) (n:Nat):Bool :=
 if k=1∨k=2 then decide (n=0)
 else if k=3∨k=14∨k=15∨k=20 then decide (n=1)
 else if k=4∨k=5∨k=13 then decide (2≤n)
 else if k=12 then decide (n=3)
 else decide (6≤k) && decide (k≤19) && decide (n=2)
def nameB (s:Bs):Bool:=decide (s≠[]) && decide (s.length≤64) && textB s
def escB1 (s:Bs):Bool:=decide (s≠[]) && decide (chr s=s.length) && decide (s≠[37]) && decide (s≠[95])
def loneL (e:Bs):List Bs→Bool
 | []=>false
 | [x]=>decide (x=e)
 | x::y::l=>if x=e then loneL e l else loneL e (y::l)
def loneB (p e:Bs):Bool:=loneL e (sg p)
def finB (n:Nat):Bool:=decide (n / 2^52%2048≠2047)
def litB (v:M) (listed:Bool):Bool :=
 decide (M.check 1 v=0) &&
 (if v.k=1∨v.k=19 then true
 else if v.k=9 then listed || decide (v.n<2^63)
 else if v.k=11 then finB v.n && (listed || decide (v.n<2^63))
 else false)
def T.alone (x:T) (listed:Bool):Nat :=
 if arity x.k x.l.length=false then 160
 else if (x.t≠[]∧x.k≠2∧x.k≠14)∨(x.v≠zeroM∧x.k≠1∧x.k≠14) then 160
 else if (x.k=1∧litB x.v listed=false)∨(x.k=2∧nameB x.t=false) then 161
 else if x.k=14∧textB x.t=false then 161
 else if x.k=14∧x.v≠zeroM∧(x.v.k≠19∨M.check 1 x.v≠0∨escB1 x.v.t=false∨loneB x.t x.v.t=true) then 161
 else if x.k=13∧x.l.tail.any (fun y=>decide (y.k≠1)) then 160
 else 0
mutual
def T.chk:Bool→T→Nat
 | b,.mk k t v l=>if T.alone (.mk k t v l) b≠0 then T.alone (.mk k t v l) b else T.chkL (decide (k=13)) true l
def T.chkL:Bool→Bool→List T→Nat
 | _,_,[]=>0
 | i,f,x::l=>if T.chk (i && !f) x≠0 then T.chk (i && !f) x else T.chkL i false l
end
def T.check (x:T):Nat:=if 256<x.cnt 0 then 162 else x.chk false
end Go.Note
namespace Go.Note
open Go
set_option linter.unusedVariables false
def runB (n:Int):Bs:=(Utf8.encode n).data.toList
inductive W where
 | unk | tru (b:Bool) | int (n:Int) | real (x:Nat) | txt (s:Bs) | odd
 deriving DecidableEq
def fin64 (x:Nat):Bool:=decide (x / 2^52%2048≠2047)
def finW (x:Nat) (o:W):W:=if fin64 x then .real x else o
def toI (n:Nat):Int:=if n<2^63 then (n:Int) else (n:Int)-2^64
def flI (n:Int):Nat:=FloatKind.f64.nearest n
def fl32 (n:Nat):Nat:=Ieee.double.write (Ieee.single.read n)
def ofW (v:M):W :=
 if v=zeroM then .unk
 else if M.check 1 v≠0 then .odd
 else if v.k=1 then .tru (decide (v.n=1))
 else if v.k=2∨v.k=3∨v.k=4∨v.k=6∨v.k=7∨v.k=8∨v.k=9∨v.k=16 then .int (toI v.n)
 else if v.k=5 then (if 2^63≤v.n then .real (flI v.n) else .int v.n)
 else if v.k=10 then (if v.n / 2^23%256=255 then .odd else .real (fl32 v.n))
 else if v.k=11 then finW v.n .odd
 else if v.k=18∨v.k=19∨v.k=20 then .txt v.t
 else if v.k=15 then .txt (runB v.n)
 else .odd
def notW:W→W
 | .tru b=>.tru (!b)
 | _=>.unk
def allW (l:List W) (d:Bool):W:=if .tru d∈l then .tru d else if l.all fun w=>decide (w=.tru !d) then .tru !d else .unk
def sgnI (a b:Int):Int:=if a<b then -1 else if b<a then 1 else 0
def valF (x:Nat):Int:=match DB.read x with
 | .number s m e=>sc s m e
 | _=>0
def mixF (a:Int) (x:Nat):Int:=sgnI (a*(V74:Int)) (valF x)
def ordW:W→W→Option Int
 | .int a,.int b=>some (sgnI a b)
 | .int a,.real x=>some (mixF a x)
 | .real x,.int b=>some (-mixF b x)
 | .real x,.real y=>some (sgnI (valF x) (valF y))
 | .txt a,.txt b=>some (Lib.compareBytes a b)
 | _,_=>none
def cmpK (k:Int) (n:Int):Bool :=
 if k=6 then decide (n=0) else if k=7 then decide (n≠0) else if k=8 then decide (n<0) else if k=9 then decide (n≤0) else if k=10 then decide (0<n) else decide (0≤n)
def cmpW (k:Int) (a b:W):W :=
 match a,b with
 | .tru x,.tru y=>if k=6∨k=7 then .tru (decide (x=y) == decide (k=6)) else .unk
 | a,b=>match ordW a b with
  | some n=>.tru (cmpK k n)
  | none=>.unk
def in64 (n:Int):Bool:=decide (-9223372036854775808≤n) && decide (n≤9223372036854775807)
def exactW (k:Int) (a b:Int):Option Int :=
 if k=16 then (if in64 (a+b) then some (a+b) else none)
 else if k=17 then (if in64 (a-b) then some (a-b) else none)
 else if k=18 then (if in64 (a*b) then some (a*b) else none)
 else if b=0 then none else if in64 (a.tdiv b) && decide (a.tmod b=0) then some (a.tdiv b) else none
def flW:W→Option Nat
 | .int n=>some (flI n)
 | .real x=>some x
 | _=>none
def fop (k:Int) (x y:Nat):Option Nat:=if k=16 then DB.add x y else if k=17 then DB.sub x y else if k=18 then DB.mul x y else DB.div x y
def reckW (k:Int) (a b:W):W :=
 match flW a,flW b with
 | some x,some y =>
  if k=19∧DB.order y 0=some .eq then .unk
  else match (match a,b with
   | .int n,.int m=>exactW k n m
   | _,_=>none) with
   | some n=>.int n
   | none=>match fop k x y with
    | some z=>finW z .unk
    | none=>.unk
 | _,_=>.unk
def negF (x:Nat):Nat:=Op.negFloat .f64 x
def fitW (w:W) (p e:Bs):W :=
 match w with
 | .txt s=>.tru (mt (els e (sg p)) (sg s))
 | _=>.unk
def kidsW (k:Int) (t:Bs) (v:M) (l:List W):W :=
 let a:=l.getD 0 .unk
 let b:=l.getD 1 .unk
 if k=3 then notW a
 else if k=4 then allW l false
 else if k=5 then allW l true
 else if k=12 then allW [cmpW 11 a b,cmpW 9 a (l.getD 2 .unk)] false
 else if k=13 then allW (l.tail.map (cmpW 6 a)) true
 else if k=14 then fitW a t v.t
 else if k=15 then .tru (decide (a=.unk))
 else if k=20 then (match a with
  | .real x=>.real (negF x)
  | _=>reckW 17 (.int 0) a)
 else if k=16∨k=17∨k=18∨k=19 then reckW k a b
 else cmpW k a b
mutual
def T.says (look:Bs→M):T→W
 | .mk k t v l=>if k=1 then ofW v else if k=2 then ofW (look t) else kidsW k t v (T.saysL look l)
def T.saysL (look:Bs→M):List T→List W
 | []=>[]
 | x::l=>T.says look x::T.saysL look l
end
theorem T.saysL_map (look:Bs→M) (l:List T):T.saysL look l=l.map (T.says look):=by
 induction l with
 | nil=>rfl
 | cons x l ih=>simp [T.saysL,ih]
def W.value:W→M
 | .unk=>zeroM
 | .tru b=>.mk 1 (if b then 1 else 0) [] 0 []
 | .int n=>.mk 9 (if n<0 then (n+2^64).toNat else n.toNat) [] 0 []
 | .real x=>.mk 11 x [] 0 []
 | .txt s=>.mk (if textB s then 19 else 18) 0 s 0 []
 | .odd=>zeroM
def evalB (look:Bs→M) (x:T):M:=if x.check=0 then (x.says look).value else zeroM
def fitsB (look:Bs→M) (x:T):Bool:=decide (x.check=0) && decide (x.says look=.tru true)
end Go.Note
