/-
  What may be amiss with a term: escapes, literals. What may be amiss with a term: literals. The program's check of a term: the parts' tail. How many terms there are: the program's count. The program's check of a term. The program's check of a term: the walk. The program's Check. What a name means in a filter, in plain Lean. No program in sight. A message as it lies in memory: its 56 cells, what is read of it.
-/
import Derived.Test.YtnmlmicmhpkbeaaGreatDoorPz14
set_option linter.unusedVariables false
set_option linter.unusedSimpArgs false
namespace Go.Proofs.YtnmlmicmhpkbeaaGreatDoor
open Go Go.Sv Go.Note
set_option linter.unusedVariables false
attribute [local irreducible] Sif
theorem isEscape_ok {t:Bs} (hs:t.length≤2^48) {w:World} (hL:LW w) {K:Value→World→Prop} (hk:∀ w',Ch (fun _=>False) w w'→K (.bool (escB1 t)) w'):callP Tryz.prog 88 [.string ⟨t.toArray⟩] w K:=by
 apply ok_sieve_isEscape
 refine (Tryz.utf8_DecodeRuneInString _ w hL.ut).mono ?_
 rintro e w1 ⟨rfl,hbel⟩
 have c1:=ch_of_below hbel
 obtain ⟨r,n,hd,hn,_⟩:=dec_wide hs
 rw [hd]
 refine ⟨_,rfl,_,_,rfl,?_⟩
 unfold escB1 at hk
 have q3:∀ m:Bs,((ByteArray.mk t.toArray).toList == (ByteArray.mk (Array.mk m)).toList)=decide (t=m):=fun m=>seq3 t m
 rw [q3,q3,q3,sz3,natBeq]
 have hL1:LW w1:=hL.ch c1 fun _ _ h=>h
 refine Sif_cases (fun h=>?_) (fun h=>?_)
 ·have h:t≠[]:=by simpa using h
  rw [if_neg h] at hn
  have hpos:0<t.length:=List.length_pos_iff.2 h
  rw [decide_eq_true h,Bool.true_and] at hk
  refine Sif_cases (fun h1=>?_) (fun h1=>?_)
  ·have h1:=of_decide_eq_true h1
   refine oUtf8_ok (by rw [sz3]; exact hs) hL1.ut hL1.size fun x w2 c2 hpl=>⟨_,rfl,?_⟩
   have c02:=c1.trans' c2
   have e1:decide (x<0)=decide (chr t=t.length):=by
    rw [sl3] at hpl
    have htb:=textB_cons t h
    by_cases hc:chr t=0
    ·rw [decide_eq_false (fun h=>h hc),Bool.false_and] at htb
     have:=hpl.2 htb
     rw [decide_eq_false (show ¬ x<0 by omega),decide_eq_false (by omega)]
    ·have hw:wide t=chr t:=by unfold wide; omega
     rw [decide_eq_true hc,Bool.true_and,List.drop_of_length_le (by omega),textB_nil] at htb
     rw [hpl.1 htb,decide_eq_true (show chr t=t.length by omega)]; rfl
   rw [e1]
   refine Sif_cases (fun h2=>?_) (fun h2=>?_)
   ·rw [h2,Bool.true_and] at hk
    refine Sif_cases (fun h3=>?_) (fun h3=>?_)
    ·have h3:t≠[37]:=by simpa using h3
     rw [decide_eq_true h3,Bool.true_and] at hk
     rw [show (!decide (t=[95]))=decide (t≠[95]) from decide_not.symm]
     exact hk w2 c02
    ·have h3:t=[37]:=by simpa using h3
     rw [decide_eq_false (fun h=>h h3),Bool.false_and] at hk
     exact hk w2 c02
   ·rw [h2,Bool.false_and,Bool.false_and] at hk
    exact hk w2 c02
  ·have h1:=of_decide_eq_false h1
   have:¬ chr t=t.length:=fun h=>h1 (by rw [hn]; unfold wide; omega)
   rw [decide_eq_false this,Bool.false_and,Bool.false_and] at hk
   exact hk w1 c1
 ·have h:t=[]:=by simpa using h
  rw [decide_eq_false (fun hh=>hh h),Bool.false_and,Bool.false_and,Bool.false_and] at hk
  exact hk w1 c1
end Go.Proofs.YtnmlmicmhpkbeaaGreatDoor
namespace Go.Proofs.YtnmlmicmhpkbeaaGreatDoor
open Go Go.Sv Go.Note
set_option linter.unusedVariables false
attribute [local irreducible] Sif
theorem mask_nat (n:Nat):n &&& (2047 <<< 52)=((n >>> 52) &&& 2047) <<< 52:=by
 apply Nat.eq_of_testBit_eq
 intro i
 rw [Nat.testBit_and,Nat.testBit_shiftLeft,Nat.testBit_shiftLeft,Nat.testBit_and,Nat.testBit_shiftRight]
 by_cases h:52≤i
 ·rw [decide_eq_true h,Bool.true_and,Bool.true_and,show 52+(i-52)=i by omega]
 ·rw [decide_eq_false h,Bool.false_and,Bool.false_and,Bool.and_false]
theorem fin_bits (n:Nat) (hn:n<18446744073709551616):(bitsV .and .u64 (n:Int) 9218868437227405312 != 9218868437227405312)=finB n:=by
 have e:bitsV .and .u64 (n:Int) 9218868437227405312=IntKind.wrap .u64 ((BitVec.ofInt 64 (n:Int) &&& BitVec.ofInt 64 9218868437227405312).toNat:Int):=rfl
 have e2:(BitVec.ofInt 64 (n:Int) &&& BitVec.ofInt 64 9218868437227405312).toNat=(n / 2^52%2048)*2^52:=by
  rw [BitVec.toNat_and]
  have a:(BitVec.ofInt 64 (n:Int)).toNat=n:=by
   rw [BitVec.ofInt_natCast,BitVec.toNat_ofNat]; omega
  have b:(BitVec.ofInt 64 9218868437227405312).toNat=2047 <<< 52:=by decide
  rw [a,b,mask_nat,Nat.shiftLeft_eq,Nat.shiftRight_eq_div_pow,show (2047:Nat)=2^11-1 from rfl,Nat.and_two_pow_sub_one_eq_mod]
 have lt:n / 2^52%2048<2048:=Nat.mod_lt _ (by decide)
 rw [e,e2]
 unfold finB
 generalize n / 2^52%2048=m at lt ⊢
 rw [show IntKind.wrap .u64 ((m*2^52:Nat):Int)=((m*2^52:Nat):Int) from by unfold IntKind.wrap; show (_:Int)%18446744073709551616=_; omega,bne,intEq,← decide_not,decide_eq_decide]
 omega
theorem fd63 (n:Nat):decide (Int.fdiv (n:Int) (2^63)=0)=decide (n<2^63):=by
 have e:(2:Int)^63=9223372036854775808:=rfl
 have e2:Int.fdiv (n:Int) 9223372036854775808=(n:Int) / 9223372036854775808:=Int.fdiv_eq_ediv_of_nonneg _ (by omega)
 rw [e,e2,decide_eq_decide]
 omega
theorem isLiteral_ok {Q:Nat→Prop} {x:MV} (hf:x.m.fits) (hsz:x.m.sz≤2^48) {b:Bool} {w:World} (hL:LW w) (hx:VR Q w x) {K:Value→World→Prop} (hk:∀ w',Ch (fun _=>False) w w'→K (.bool (litB x.m b)) w') :
 callP Tryz.prog 84 [x.v,.bool b] w K:=by
 have hn:x.n<18446744073709551616:=by
  obtain ⟨k,n,t,s,e,l⟩:=x
  rw [MV.m_mk] at hf
  cases hf with
  | mk h _=>exact h
 have hmk:x.m.k=x.k∧x.m.n=x.n:=by obtain ⟨k,n,t,s,e,l⟩:=x; rw [MV.m_mk]; exact ⟨rfl,rfl⟩
 unfold litB at hk
 rw [hmk.1,hmk.2] at hk
 rw [← vv]
 apply ok_sieve_isLiteral
 refine newB_blk fun w1 b1 c1 z1=>?_
 have b1:blk w1 w.heap.size=some x.g:=b1.trans (by cases x; rfl)
 refine ldK b1 ?_
 rw [vv]
 refine vCheck_ok hf hsz (hL.ch c1 fun _ _ h=>h) (hx.ch c1 (fun _ _ h=>h)) fun w2 c2=>⟨_,rfl,?_⟩
 have c02:=c1.trans' c2
 have b2:=(c2.blk (blk_lt b1) id).trans b1
 rw [show (((x.m.check 1:Nat):Int) != 0)=!decide (x.m.check 1=0) from congrArg (!·) (natBeq _ 0)]
 refine Sif_cases (fun h=>?_) (fun h=>?_)
 ·have h:decide (x.m.check 1=0)=false:=by simpa using h
  rw [h,Bool.false_and] at hk
  exact hk w2 c02
 have h:decide (x.m.check 1=0)=true:=by simpa using h
 rw [h,Bool.true_and] at hk
 have g0:∀ {w':World},blk w' w.heap.size=some x.g→w'.cell? ⟨w.heap.size,0,none⟩=some (.int .i64 x.k):=fun h=>cellP h 0 (by cases x; rfl)
 have g1:∀ {w':World},blk w' w.heap.size=some x.g→w'.cell? ⟨w.heap.size,1,none⟩=some (.int .u64 (x.n:Int)):=fun h=>cellP h 1 (by cases x; rfl)
 simp only [add_at,Nat.zero_add]
 refine ⟨_,g0 b2,fun b' w3=>Ch (fun _=>False) w w3∧blk w3 w.heap.size=some x.g∧b'=decide (x.k=1∨x.k=19),?_,?_⟩
 ·rintro b' w3 ⟨c3,b3,rfl⟩
  have hk:=hk w3 c3
  refine Sif_cases (fun h=>?_) (fun h=>?_)
  ·rw [if_pos (of_decide_eq_true h)] at hk; exact hk
  rw [if_neg (of_decide_eq_false h)] at hk
  simp only [intEq]
  refine Sif_cases (fun h=>?_) (fun h=>?_)
  ·rw [if_pos (of_decide_eq_true h)] at hk
   refine Sif_cases (fun h=>?_) (fun h=>?_)
   ·have h:b=false:=by simpa using h
    rw [h,Bool.false_or] at hk
    refine ⟨_,g1 b3,?_⟩
    rw [show decide (IntKind.wrap .i64 (x.n:Int)≥0)=decide (x.n<2^63) from decide_eq_decide.2 (by
     rw [wrap64 hn]; split<;>omega)]
    exact hk
   ·have h:b=true:=by simpa using h
    rw [h,Bool.true_or] at hk; exact hk
  rw [if_neg (of_decide_eq_false h)] at hk
  refine Sif_cases (fun h=>?_) (fun h=>?_)
  ·rw [if_pos (of_decide_eq_true h)] at hk
   refine ⟨_,g1 b3,?_⟩
   rw [fin_bits x.n hn]
   refine Sif_cases (fun h=>?_) (fun h=>?_)
   ·rw [h,Bool.true_and] at hk
    refine Sif_cases (fun h=>?_) (fun h=>?_)
    ·have h:b=false:=by simpa using h
     rw [h,Bool.false_or] at hk
     refine ⟨_,g1 b3,by decide,?_⟩
     rw [fd63]
     exact hk
    ·have h:b=true:=by simpa using h
     rw [h,Bool.true_or] at hk; exact hk
   ·rw [h,Bool.false_and] at hk; exact hk
  ·rw [if_neg (of_decide_eq_false h)] at hk; exact hk
 ·simp only [intEq]
  refine Sif_cases (fun h=>?_) (fun h=>?_)
  ·exact ⟨c02,b2,by rw [h]; exact (decide_eq_true (.inl (of_decide_eq_true h))).symm⟩
  ·exact ⟨c02,b2,decide_eq_decide.2 ⟨.inr,fun hh=>hh.elim (fun h2=>absurd h2 (of_decide_eq_false h)) id⟩⟩
end Go.Proofs.YtnmlmicmhpkbeaaGreatDoor
namespace Go.Proofs.YtnmlmicmhpkbeaaGreatDoor
open Go Go.Sv Go.Note
set_option linter.unusedVariables false
attribute [local irreducible] Sif
theorem TO.at {w:World} {x y:TV} (h:TO w x) {i:Nat} (hi:x.l[i]?=some y):∃ b o,x.s.p=some ⟨b,o,none⟩∧AtT w b (o+i*8) y:=by
 obtain ⟨b,o,h1,_,h2⟩:=(TO.tr x h (fun _=>True) fun _ _=>trivial).at hi
 exact ⟨b,o,h1,h2⟩
theorem TV.c7 {w:World} {k:Nat} {x:TV} (b:blk w k=some x.g):w.cell? (Addr.add ⟨k,0,none⟩ 7)=some (.slice x.s.p x.s.n x.s.c):=cellP b 7 (by cases x; rfl)
theorem TV.c0 {w:World} {k:Nat} {x:TV} (b:blk w k=some x.g):w.cell? (Addr.add ⟨k,0,none⟩ 0)=some (.int .i64 x.k):=cellP b 0 (by cases x; rfl)
abbrev tailN (x:TV):Nat:=if x.k=13∧x.l.tail.any (fun y=>decide (y.k≠1))=true then 160 else T.chkL (decide (x.k=13)) true (x.l.map TV.m)
theorem ctail_ok {x:TV} {k:Nat} {w5:World} {K:Value→World→Prop} (hL:LW w5) (hx:TR (fun _=>True) w5 x) (b5:blk w5 k=some x.g) (h13:x.k=13→2≤x.s.n)
 (ih:∀ y∈x.l,∀ (b:Bool) (w:World) (K:Value→World→Prop),LW w→TR (fun _=>True) w y→(∀ w',Ch (fun _=>False) w w'→K (.int .i64 (T.chk b y.m:Nat)) w')→callP Tryz.prog 42 [y.v,.bool b] w K)
 (hk:∀ w',Ch (fun _=>False) w5 w'→K (.int .i64 (tailN x:Nat)) w') :
 (∃ (J2:World→Prop),(∀ (w6:World),J2 w6→∃ (p2:Option Addr),∃ (n8:Nat),∃ (c2:Nat),World.cell? w6 (Addr.add ⟨k,0,none⟩ (7:Nat))=some (Value.slice p2 n8 c2)∧∃ (I:Nat→Int→World→Prop),(∃ (m:Nat),I m (0:Int) w6)∧∀ (m:Nat) (n9:Int) (w7:World),I m n9 w7→Sif (decide (n9<(↑n8:Int))) (∃ (J3:World→Prop),(∀ (w8:World),J3 w8→∃ (m':Nat),m'<m∧I m' (IntKind.wrap IntKind.i64 (n9+(1:Int))) w8)∧(0:Int)≤n9∧n9<(↑n8:Int)∧nn p2 fun (a1:Addr)=>∃ (n10:Int),World.cell? w7 (Addr.add (Addr.add a1 (Int.toNat n9*(8:Nat))) (0:Nat))=some (Value.int IntKind.i64 n10)∧∃ (s1:ByteArray),World.cell? w7 (Addr.add (Addr.add a1 (Int.toNat n9*(8:Nat))) (1:Nat))=some (Value.string s1)∧∃ (n11:Int),World.cell? w7 (Addr.add (Addr.add a1 (Int.toNat n9*(8:Nat))) (2:Nat))=some (Value.int IntKind.i64 n11)∧∃ (n12:Int),World.cell? w7 (Addr.add (Addr.add a1 (Int.toNat n9*(8:Nat))) (3:Nat))=some (Value.int IntKind.u64 n12)∧∃ (s2:ByteArray),World.cell? w7 (Addr.add (Addr.add a1 (Int.toNat n9*(8:Nat))) (4:Nat))=some (Value.string s2)∧∃ (p3:Option Addr),∃ (n13:Nat),∃ (c3:Nat),World.cell? w7 (Addr.add (Addr.add a1 (Int.toNat n9*(8:Nat))) (5:Nat))=some (Value.slice p3 n13 c3)∧∃ (n14:Int),World.cell? w7 (Addr.add (Addr.add a1 (Int.toNat n9*(8:Nat))) (6:Nat))=some (Value.int IntKind.i64 n14)∧∃ (p4:Option Addr),∃ (n15:Nat),∃ (c4:Nat),World.cell? w7 (Addr.add (Addr.add a1 (Int.toNat n9*(8:Nat))) (7:Nat))=some (Value.slice p4 n15 c4)∧newB w7 [Value.int IntKind.i64 (0:Int),Value.string (ByteArray.mk (Array.mk [])),Value.int IntKind.i64 (0:Int),Value.int IntKind.u64 (0:Int),Value.string (ByteArray.mk (Array.mk [])),Value.slice none (0:Nat) (0:Nat),Value.int IntKind.i64 (0:Int),Value.slice none (0:Nat) (0:Nat)] (28:Nat) fun (a2:Addr) (w8:World)=>Sv.st w8 (Addr.add a2 (0:Nat)) (Value.int IntKind.i64 n10) fun (w9:World)=>Sv.st w9 (Addr.add a2 (1:Nat)) (Value.string s1) fun (w10:World)=>Sv.st w10 (Addr.add a2 (2:Nat)) (Value.int IntKind.i64 n11) fun (w11:World)=>Sv.st w11 (Addr.add a2 (3:Nat)) (Value.int IntKind.u64 n12) fun (w12:World)=>Sv.st w12 (Addr.add a2 (4:Nat)) (Value.string s2) fun (w13:World)=>Sv.st w13 (Addr.add a2 (5:Nat)) (Value.slice p3 n13 c3) fun (w14:World)=>Sv.st w14 (Addr.add a2 (6:Nat)) (Value.int IntKind.i64 n14) fun (w15:World)=>Sv.st w15 (Addr.add a2 (7:Nat)) (Value.slice p4 n15 c4) fun (w16:World)=>∃ (J4:Int→World→Prop),(∀ (n16:Int) (w17:World),J4 n16 w17→Sif (n16 != (0:Int)) (K (Value.int IntKind.i64 n16) w17) (J3 w17))∧∃ (n16:Int),World.cell? w16 (Addr.add a2 (0:Nat))=some (Value.int IntKind.i64 n16)∧∃ (s3:ByteArray),World.cell? w16 (Addr.add a2 (1:Nat))=some (Value.string s3)∧∃ (n17:Int),World.cell? w16 (Addr.add a2 (2:Nat))=some (Value.int IntKind.i64 n17)∧∃ (n18:Int),World.cell? w16 (Addr.add a2 (3:Nat))=some (Value.int IntKind.u64 n18)∧∃ (s4:ByteArray),World.cell? w16 (Addr.add a2 (4:Nat))=some (Value.string s4)∧∃ (p5:Option Addr),∃ (n19:Nat),∃ (c5:Nat),World.cell? w16 (Addr.add a2 (5:Nat))=some (Value.slice p5 n19 c5)∧∃ (n20:Int),World.cell? w16 (Addr.add a2 (6:Nat))=some (Value.int IntKind.i64 n20)∧∃ (p6:Option Addr),∃ (n21:Nat),∃ (c6:Nat),World.cell? w16 (Addr.add a2 (7:Nat))=some (Value.slice p6 n21 c6)∧∃ (n22:Int),World.cell? w16 (Addr.add ⟨k,0,none⟩ (0:Nat))=some (Value.int IntKind.i64 n22)∧Sif (n22 == (13:Int)) (callP Tryz.prog 42 [Value.agg (Array.mk [Value.int IntKind.i64 n16,Value.string s3,Value.int IntKind.i64 n17,Value.int IntKind.u64 n18,Value.string s4,Value.slice p5 n19 c5,Value.int IntKind.i64 n20,Value.slice p6 n21 c6]),Value.bool (decide (n9>(0:Int)))] w16 fun (v2:Value) (w17:World)=>∃ (n23:Int),v2=Value.int IntKind.i64 n23∧J4 n23 w17) (callP Tryz.prog 42 [Value.agg (Array.mk [Value.int IntKind.i64 n16,Value.string s3,Value.int IntKind.i64 n17,Value.int IntKind.u64 n18,Value.string s4,Value.slice p5 n19 c5,Value.int IntKind.i64 n20,Value.slice p6 n21 c6]),Value.bool false] w16 fun (v2:Value) (w17:World)=>∃ (n23:Int),v2=Value.int IntKind.i64 n23∧J4 n23 w17)) (K (Value.int IntKind.i64 (0:Int)) w7))∧∃ (n8:Int),World.cell? w5 (Addr.add ⟨k,0,none⟩ (0:Nat))=some (Value.int IntKind.i64 n8)∧Sif (n8 == (13:Int)) (∃ (p2:Option Addr),∃ (n9:Nat),∃ (c2:Nat),World.cell? w5 (Addr.add ⟨k,0,none⟩ (7:Nat))=some (Value.slice p2 n9 c2)∧(0:Int)≤(1:Int)∧(1:Int)≤(↑n9:Int)∧∃ (I:Nat→Int→World→Prop),(∃ (m:Nat),I m (0:Int) w5)∧∀ (m:Nat) (n10:Int) (w6:World),I m n10 w6→Sif (decide (n10<(↑(n9-Int.toNat (1:Int)):Int))) ((0:Int)≤n10∧n10<(↑(n9-(1:Nat)):Int)∧nn (subA p2 (1:Nat) c2 (8:Nat)) fun (a1:Addr)=>∃ (n11:Int),World.cell? w6 (Addr.add (Addr.add a1 (Int.toNat n10*(8:Nat))) (0:Nat))=some (Value.int IntKind.i64 n11)∧∃ (s1:ByteArray),World.cell? w6 (Addr.add (Addr.add a1 (Int.toNat n10*(8:Nat))) (1:Nat))=some (Value.string s1)∧∃ (n12:Int),World.cell? w6 (Addr.add (Addr.add a1 (Int.toNat n10*(8:Nat))) (2:Nat))=some (Value.int IntKind.i64 n12)∧∃ (n13:Int),World.cell? w6 (Addr.add (Addr.add a1 (Int.toNat n10*(8:Nat))) (3:Nat))=some (Value.int IntKind.u64 n13)∧∃ (s2:ByteArray),World.cell? w6 (Addr.add (Addr.add a1 (Int.toNat n10*(8:Nat))) (4:Nat))=some (Value.string s2)∧∃ (p3:Option Addr),∃ (n14:Nat),∃ (c3:Nat),World.cell? w6 (Addr.add (Addr.add a1 (Int.toNat n10*(8:Nat))) (5:Nat))=some (Value.slice p3 n14 c3)∧∃ (n15:Int),World.cell? w6 (Addr.add (Addr.add a1 (Int.toNat n10*(8:Nat))) (6:Nat))=some (Value.int IntKind.i64 n15)∧∃ (p4:Option Addr),∃ (n16:Nat),∃ (c4:Nat),World.cell? w6 (Addr.add (Addr.add a1 (Int.toNat n10*(8:Nat))) (7:Nat))=some (Value.slice p4 n16 c4)∧newB w6 [Value.int IntKind.i64 (0:Int),Value.string (ByteArray.mk (Array.mk [])),Value.int IntKind.i64 (0:Int),Value.int IntKind.u64 (0:Int),Value.string (ByteArray.mk (Array.mk [])),Value.slice none (0:Nat) (0:Nat),Value.int IntKind.i64 (0:Int),Value.slice none (0:Nat) (0:Nat)] (28:Nat) fun (a2:Addr) (w7:World)=>Sv.st w7 (Addr.add a2 (0:Nat)) (Value.int IntKind.i64 n11) fun (w8:World)=>Sv.st w8 (Addr.add a2 (1:Nat)) (Value.string s1) fun (w9:World)=>Sv.st w9 (Addr.add a2 (2:Nat)) (Value.int IntKind.i64 n12) fun (w10:World)=>Sv.st w10 (Addr.add a2 (3:Nat)) (Value.int IntKind.u64 n13) fun (w11:World)=>Sv.st w11 (Addr.add a2 (4:Nat)) (Value.string s2) fun (w12:World)=>Sv.st w12 (Addr.add a2 (5:Nat)) (Value.slice p3 n14 c3) fun (w13:World)=>Sv.st w13 (Addr.add a2 (6:Nat)) (Value.int IntKind.i64 n15) fun (w14:World)=>Sv.st w14 (Addr.add a2 (7:Nat)) (Value.slice p4 n16 c4) fun (w15:World)=>∃ (n17:Int),World.cell? w15 (Addr.add a2 (0:Nat))=some (Value.int IntKind.i64 n17)∧Sif (n17 != (1:Int)) (K (Value.int IntKind.i64 (160:Int)) w15) (∃ (m':Nat),m'<m∧I m' (IntKind.wrap IntKind.i64 (n10+(1:Int))) w15)) (J2 w6)) (J2 w5)):=by
 have hln:x.l.length=x.s.n:=hx.inv.2.1
 have hn46:x.s.n≤2^46:=hx.inv.2.2.1
 have ldrop:∀ {i:Nat} {y:TV},x.l[i]?=some y→x.l.drop i=y::x.l.drop (i+1):=fun {i y} hy=>by
  have h':=(List.getElem?_eq_some_iff.1 hy).1
  rw [List.drop_eq_getElem_cons h']
  rw [List.getElem?_eq_getElem h'] at hy
  cases hy; rfl
 refine ⟨fun w'=>Ch (fun _=>False) w5 w'∧¬(x.k=13∧x.l.tail.any (fun y=>decide (y.k≠1))=true),?_,?_⟩
 ·rintro w6 ⟨c6,hno⟩
  unfold tailN at hk
  rw [if_neg hno] at hk
  have b6:=(c6.blk (blk_lt b5) id).trans b5
  refine ⟨_,_,_,TV.c7 b6,fun m n w'=>∃ i:Nat,n=(i:Int)∧i+m=x.l.length∧T.chkL (decide (x.k=13)) (decide (i=0)) ((x.l.drop i).map TV.m)=T.chkL (decide (x.k=13)) true (x.l.map TV.m)∧Ch (fun _=>False) w5 w',⟨x.l.length,0,rfl,by omega,rfl,c6⟩,?_⟩
  rintro m n w7 ⟨i,rfl,hm,hch,c7⟩
  refine Sif_cases (fun h=>?_) (fun h=>?_)
  ·have h':i<x.l.length:=by have:=of_decide_eq_true h; omega
   obtain ⟨y,hy⟩:∃ y,x.l[i]?=some y:=⟨_,List.getElem?_eq_getElem h'⟩
   obtain ⟨b,o,hp,_,hat⟩:=hx.at hy
   have hat2:=hat.ch c7 id
   have hmem:=List.mem_of_getElem? hy
   rw [ldrop hy,List.map_cons,T.chkL] at hch
   refine ⟨fun w'=>∃ m',m'<m∧∃ i':Nat,IntKind.wrap .i64 ((i:Int)+1)=(i':Int)∧i'+m'=x.l.length∧T.chkL (decide (x.k=13)) (decide (i'=0)) ((x.l.drop i').map TV.m)=T.chkL (decide (x.k=13)) true (x.l.map TV.m)∧Ch (fun _=>False) w5 w',fun _ h=>h,by omega,of_decide_eq_true h,?_⟩
   rw [Int.toNat_natCast,hp]
   simp only [nn,add_at]
   refine rd8 hat2 ?_
   refine newB_blk fun w8 b8 c8 z8=>?_
   refine st8 (x:=y) b8 rfl fun w9 b9 c9 z9=>?_
   have c09:=c7.trans' (c8.trans c9 fun x hx h=>by omega)
   have b59:=(c09.blk (blk_lt b5) id).trans b5
   refine ⟨fun n w'=>n=((T.chk (decide (x.k=13) && !decide (i=0)) y.m:Nat):Int)∧Ch (fun _=>False) w5 w',?_,?_⟩
   ·rintro _ w' ⟨rfl,c⟩
    rw [show (((T.chk (decide (x.k=13) && !decide (i=0)) y.m:Nat):Int) != 0)=!decide (T.chk (decide (x.k=13) && !decide (i=0)) y.m=0) from congrArg (!·) (natBeq _ 0)]
    refine Sif_cases (fun h=>?_) (fun h=>?_)
    ·have h:¬ T.chk (decide (x.k=13) && !decide (i=0)) y.m=0:=by simpa using h
     rw [if_pos h] at hch
     rw [hch]; exact hk w' c
    ·have h:T.chk (decide (x.k=13) && !decide (i=0)) y.m=0:=by simpa using h
     rw [if_neg (fun hh=>hh h)] at hch
     refine ⟨m-1,by omega,i+1,by rw [wrap_id (by omega) (by omega)]; rfl,by omega,?_,c⟩
     rw [decide_eq_false (show ¬ i+1=0 by omega)]; exact hch
   ·refine ld8 (x:=y) b9 ?_
    rw [tvv y]
    refine ⟨_,TV.c0 b59,?_⟩
    rw [intEq]
    have hoy:TR (fun _=>True) w9 y:=TR.ch0 c09 (hx.inv.2.2.2.2.2 y hmem)
    have hL9:LW w9:=hL.ch c09 fun _ _ h=>h
    refine Sif_cases (fun h=>?_) (fun h=>?_)
    ·refine ih y hmem _ w9 _ hL9 hoy fun w10 c10=>⟨_,rfl,?_,c09.trans' c10⟩
     rw [h,Bool.true_and]
     congr 3
     rw [← decide_not,decide_eq_decide]; omega
    ·refine ih y hmem _ w9 _ hL9 hoy fun w10 c10=>⟨_,rfl,?_,c09.trans' c10⟩
     rw [h,Bool.false_and]
  ·have h':¬ i<x.l.length:=by have:=of_decide_eq_false h; omega
   rw [List.drop_of_length_le (by omega)] at hch
   rw [← hch] at hk
   exact hk w7 c7
 ·refine ⟨_,TV.c0 b5,?_⟩
  rw [intEq]
  refine Sif_cases (fun h=>?_) (fun h=>?_)
  ·have h:=of_decide_eq_true h
   have h2:=h13 h
   refine ⟨_,_,_,TV.c7 b5,by decide,by omega,fun m n w'=>∃ i:Nat,n=(i:Int)∧i+m=x.l.length-1∧(x.l.drop (i+1)).any (fun y=>decide (y.k≠1))=x.l.tail.any (fun y=>decide (y.k≠1))∧Ch (fun _=>False) w5 w',⟨x.l.length-1,0,rfl,by omega,by rw [Nat.zero_add,List.drop_one],Ch.refl _ _⟩,?_⟩
   rintro m n w7 ⟨i,rfl,hm,hany,c7⟩
   refine Sif_cases (fun hlt=>?_) (fun hlt=>?_)
   ·have hlt:=of_decide_eq_true hlt
    have h':i+1<x.l.length:=by
     have e1:Int.toNat 1=1:=rfl
     rw [e1] at hlt
     omega
    obtain ⟨y,hy⟩:∃ y,x.l[i+1]?=some y:=⟨_,List.getElem?_eq_getElem h'⟩
    obtain ⟨b,o,hp,_,hat⟩:=hx.at hy
    have hat2:=hat.ch c7 id
    have hcap:x.s.n≤x.s.c:=hx.cap
    have hsub:subA x.s.p 1 x.s.c 8=some ⟨b,o+8,none⟩:=by
     unfold subA
     rw [if_neg (by omega),hp]; rfl
    refine ⟨by omega,by omega,?_⟩
    rw [Int.toNat_natCast,hsub]
    simp only [nn,add_at]
    rw [show o+(i+1)*8=o+8+i*8 by omega] at hat2
    refine rd8 hat2 ?_
    refine newB_blk fun w8 b8 c8 z8=>?_
    refine st8 (x:=y) b8 rfl fun w9 b9 c9 z9=>?_
    have c09:=c7.trans' (c8.trans c9 fun x hx h=>by omega)
    refine ⟨_,TV.c0 b9,?_⟩
    rw [ldrop hy,List.any_cons] at hany
    rw [bne,intEq,← decide_not]
    refine Sif_cases (fun h1=>?_) (fun h1=>?_)
    ·rw [show decide (y.k≠1)=true from h1,Bool.true_or] at hany
     unfold tailN at hk
     rw [if_pos ⟨h,hany.symm⟩] at hk
     exact hk w9 c09
    ·rw [show decide (y.k≠1)=false from h1,Bool.false_or] at hany
     exact ⟨m-1,by omega,i+1,by rw [wrap_id (by omega) (by omega)]; rfl,by omega,hany,c09⟩
   ·have hlt:=of_decide_eq_false hlt
    have e1:Int.toNat 1=1:=rfl
    rw [e1] at hlt
    rw [List.drop_of_length_le (by omega)] at hany
    exact ⟨c7,fun hh=>by rw [← hany] at hh; cases hh.2⟩
  ·exact ⟨Ch.refl _ _,fun hh=>of_decide_eq_false h hh.1⟩
end Go.Proofs.YtnmlmicmhpkbeaaGreatDoor
namespace Go.Proofs.YtnmlmicmhpkbeaaGreatDoor
open Go Go.Sv Go.Note
set_option linter.unusedVariables false
attribute [local irreducible] Sif
theorem count_ok:∀ x:TV,∀ (Q:Nat→Prop) (n:Nat) (w:World) (K:Value→World→Prop),n≤256→TR Q w x→(∀ w',Ch (fun _=>False) w w'→T.cnt n x.m≤257→K (.int .i64 (T.cnt n x.m:Nat)) w') →
 callP Tryz.prog 41 [x.v,.int .i64 (n:Int)] w K:=by
 refine TV.ind fun k t v s l ih=>?_
 intro Q n w K hn hx hk
 rw [← tvv]
 apply ok_sieve_count
 refine newB_blk fun w1 b1 c1 z1=>?_
 rw [nameI_iff,wrap_id (n:=(n:Int)+1) (by omega) (by omega)]
 refine ⟨fun n2 w2=>n2=((T.cnt n (TV.mk k t v s l).m:Nat):Int)∧T.cnt n (TV.mk k t v s l).m≤257∧Ch (fun _=>False) w w2,?_,?_⟩
 ·rintro n2 w2 ⟨rfl,h,c⟩; exact hk w2 c h
 simp only [add_at,Nat.zero_add]
 refine ⟨_,_,_,cellP b1 7 rfl,fun m n3 n4 w2=>∃ (i a:Nat),n3=(a:Int)∧n4=(i:Int)∧i+m=l.length∧a≤257∧T.cntL a ((l.drop i).map TV.m)=T.cnt n (TV.mk k t v s l).m∧Ch (fun _=>False) w w2,⟨l.length,0,n+1,by omega,rfl,by omega,by omega,by rw [TV.m_mk]; rfl,c1⟩,?_⟩
 rintro m n3 n4 w2 ⟨i,a,rfl,rfl,hm,ha,hcnt,c2⟩
 have hl:l.length=s.n:=hx.inv.2.1
 have hn46:s.n≤2^46:=hx.inv.2.2.1
 refine Sif_cases (fun h=>?_) (fun h=>?_)
 ·have h':i<l.length:=by have:=of_decide_eq_true h; have e:(TV.mk k t v s l).s.n=s.n:=rfl; omega
  obtain ⟨y,hy⟩:∃ y,l[i]?=some y:=⟨_,List.getElem?_eq_getElem h'⟩
  obtain ⟨b,o,hp,hQ,hat⟩:=hx.at (i:=i) hy
  have hat2:=hat.ch c2 id
  refine ⟨by omega,of_decide_eq_true h,?_⟩
  rw [Int.toNat_natCast,hp]
  simp only [nn,add_at]
  refine rd8 hat2 ?_
  refine newB_blk fun w3 b3 c3 z3=>?_
  refine st8 (x:=y) b3 rfl fun w4 b4 c4 z4=>?_
  have c24:Ch (fun _=>False) w2 w4:=c3.trans c4 fun x hx h=>by omega
  have c04:=c2.trans' c24
  have hd:l.drop i=y::l.drop (i+1):=by
   rw [List.drop_eq_getElem_cons h']
   rw [List.getElem?_eq_getElem h'] at hy
   cases hy; rfl
  rw [hd,List.map_cons,T.cntL] at hcnt
  refine Sif_cases (fun h=>?_) (fun h=>?_)
  ·have h:=of_decide_eq_true h
   rw [if_pos (by omega)] at hcnt
   exact ⟨by rw [hcnt],by omega,c04⟩
  ·have h:=of_decide_eq_false h
   rw [if_neg (by omega)] at hcnt
   refine ld8 (x:=y) b4 ?_
   rw [tvv y]
   refine ih y (List.mem_of_getElem? hy) Q a w4 _ (by omega) (TR.ch0 c04 (hx.inv.2.2.2.2.2 y (List.mem_of_getElem? hy))) fun w5 c5 hb=>⟨_,rfl,m-1,by omega,i+1,_,rfl,?_,by omega,hb,hcnt,c04.trans' c5⟩
   rw [wrap_id (by omega) (by omega)]; rfl
 ·have h':¬ i<l.length:=by have:=of_decide_eq_false h; have e:(TV.mk k t v s l).s.n=s.n:=rfl; omega
  rw [List.drop_of_length_le (by omega)] at hcnt
  have hcnt:a=T.cnt n (TV.mk k t v s l).m:=hcnt
  exact ⟨by rw [hcnt],by omega,c2⟩
end Go.Proofs.YtnmlmicmhpkbeaaGreatDoor
namespace Go.Proofs.YtnmlmicmhpkbeaaGreatDoor
open Go Go.Sv Go.Note
set_option linter.unusedVariables false
attribute [local irreducible] Sif
inductive TG:TV→Prop where
 | mk {k:Int} {t:Bs} {v:MV} {s:SL} {l:List TV}:t.length≤2^48→v.m.fits→v.m.sz≤2^48→(∀ y∈l,TG y)→TG (.mk k t v s l)
theorem chk_eq (k:Int) (t:Bs) (v:MV) (s:SL) (l:List TV) (b:Bool):T.chk b (TV.mk k t v s l).m =
 if arity k l.length=false then 160
 else if (t≠[]∧k≠2∧k≠14)∨(v.m≠zeroM∧k≠1∧k≠14) then 160
 else if (k=1∧litB v.m b=false)∨(k=2∧nameB t=false) then 161
 else if k=14∧textB t=false then 161
 else if k=14∧v.m≠zeroM∧(v.m.k≠19∨M.check 1 v.m≠0∨escB1 v.m.t=false∨loneB t v.m.t=true) then 161
 else tailN (TV.mk k t v s l):=by
 have ht:(l.map TV.m).tail.any (fun y=>decide (y.k≠1))=l.tail.any (fun y=>decide (y.k≠1)):=by
  rw [← List.map_tail,List.any_map]
  congr 1; funext y; cases y; rw [Function.comp,TV.m_mk]; rfl
 rw [TV.m_mk,T.chk]
 have hlm:(l.map TV.m).length=l.length:=List.length_map ..
 generalize hA:T.alone (.mk k t v.m (l.map TV.m)) b=A
 unfold T.alone at hA
 have out:∀ {n:Nat},n≠0→A=n→(if A≠0 then A else T.chkL (decide (k=13)) true (l.map TV.m))=n:=fun hn e=>by rw [e,if_pos hn]
 by_cases h1:arity k l.length=false
 ·rw [if_pos h1]
  replace hA:=(if_pos (show arity _ (l.map TV.m).length=false from hlm.symm▸h1)).symm.trans hA
  exact out (by decide) hA.symm
 rw [if_neg h1]
 replace hA:=(if_neg (show ¬ arity _ (l.map TV.m).length=false from hlm.symm▸h1)).symm.trans hA
 by_cases h2:(t≠[]∧k≠2∧k≠14)∨(v.m≠zeroM∧k≠1∧k≠14)
 ·rw [if_pos h2]
  replace hA:=(if_pos h2).symm.trans hA
  exact out (by decide) hA.symm
 rw [if_neg h2]
 replace hA:=(if_neg h2).symm.trans hA
 by_cases h3:(k=1∧litB v.m b=false)∨(k=2∧nameB t=false)
 ·rw [if_pos h3]
  replace hA:=(if_pos h3).symm.trans hA
  exact out (by decide) hA.symm
 rw [if_neg h3]
 replace hA:=(if_neg h3).symm.trans hA
 by_cases h4:k=14∧textB t=false
 ·rw [if_pos h4]
  replace hA:=(if_pos h4).symm.trans hA
  exact out (by decide) hA.symm
 rw [if_neg h4]
 replace hA:=(if_neg h4).symm.trans hA
 by_cases h5:k=14∧v.m≠zeroM∧(v.m.k≠19∨M.check 1 v.m≠0∨escB1 v.m.t=false∨loneB t v.m.t=true)
 ·rw [if_pos h5]
  replace hA:=(if_pos h5).symm.trans hA
  exact out (by decide) hA.symm
 rw [if_neg h5]
 replace hA:=(if_neg h5).symm.trans hA
 unfold tailN
 show _=(if k=13∧l.tail.any (fun y=>decide (y.k≠1))=true then 160 else T.chkL (decide (k=13)) true (l.map TV.m))
 by_cases h6:k=13∧l.tail.any (fun y=>decide (y.k≠1))=true
 ·rw [if_pos h6]
  replace hA:=(if_pos (show k=13∧(l.map TV.m).tail.any (fun y=>decide (y.k≠1))=true from ⟨h6.1,ht.trans h6.2⟩)).symm.trans hA
  exact out (by decide) hA.symm
 ·rw [if_neg h6]
  replace hA:=(if_neg (show ¬ (k=13∧(l.map TV.m).tail.any (fun y=>decide (y.k≠1))=true) from fun h=>h6 ⟨h.1,ht.symm.trans h.2⟩)).symm.trans hA
  rw [← hA,if_neg (by decide)]
end Go.Proofs.YtnmlmicmhpkbeaaGreatDoor
namespace Go.Proofs.YtnmlmicmhpkbeaaGreatDoor
open Go Go.Sv Go.Note
set_option linter.unusedVariables false
attribute [local irreducible] Sif
theorem TV.c1 {w:World} {k:Nat} {x:TV} (b:blk w k=some x.g):w.cell? (Addr.add ⟨k,0,none⟩ 1)=some (.string ⟨x.t.toArray⟩):=cellP b 1 (by cases x; rfl)
theorem TV.v0 {w:World} {k:Nat} {x:TV} (b:blk w k=some x.g):w.cell? (Addr.add (Addr.add ⟨k,0,none⟩ 2) 0)=some (.int .i64 x.x.k):=cellP b 2 (by cases x; rfl)
theorem TV.v2 {w:World} {k:Nat} {x:TV} (b:blk w k=some x.g):w.cell? (Addr.add (Addr.add ⟨k,0,none⟩ 2) 2)=some (.string ⟨x.x.t.toArray⟩):=cellP b 4 (by cases x; rfl)
theorem TV.ldV {w:World} {k:Nat} {x:TV} {K:Int→Int→ByteArray→Option Addr→Nat→Nat→Int→Prop} (b:blk w k=some x.g) (hk:K x.x.k (x.x.n:Int) ⟨x.x.t.toArray⟩ x.x.s.p x.x.s.n x.x.s.c x.x.e) :
 ∃ n,w.cell? (Addr.add (Addr.add ⟨k,0,none⟩ 2) 0)=some (.int .i64 n)∧∃ n1,w.cell? (Addr.add (Addr.add ⟨k,0,none⟩ 2) 1)=some (.int .u64 n1)∧∃ s,w.cell? (Addr.add (Addr.add ⟨k,0,none⟩ 2) 2)=some (.string s)∧∃ p n2 c,w.cell? (Addr.add (Addr.add ⟨k,0,none⟩ 2) 3)=some (.slice p n2 c)∧∃ n3,w.cell? (Addr.add (Addr.add ⟨k,0,none⟩ 2) 4)=some (.int .i64 n3)∧K n n1 s p n2 c n3 :=
 ⟨_,TV.v0 b,_,cellP b 3 (by cases x; rfl),_,TV.v2 b,_,_,_,cellP b 5 (by cases x; rfl),_,cellP b 6 (by cases x; rfl),hk⟩
theorem check_ok:∀ x:TV,∀ (b:Bool) (w:World) (K:Value→World→Prop),LW w→TR (fun _=>True) w x→TG x→(∀ w',Ch (fun _=>False) w w'→K (.int .i64 (T.chk b x.m:Nat)) w')→callP Tryz.prog 42 [x.v,.bool b] w K:=by
 refine TV.ind fun k t v s l ih=>?_
 intro b w K hL hx hg hk
 rw [chk_eq] at hk
 obtain ⟨htl,hfit,hsz,hgl⟩:t.length≤2^48∧v.m.fits∧v.m.sz≤2^48∧∀ y∈l,TG y:=by cases hg with | mk a b c d=>exact ⟨a,b,c,d⟩
 have hlen:l.length=s.n:=hx.inv.2.1
 have htx:v.m.t=v.t∧v.m.k=v.k:=by obtain ⟨k',n',t',s',e',l'⟩:=v; rw [MV.m_mk]; exact ⟨rfl,rfl⟩
 have htl2:v.t.length≤2^48:=by
  obtain ⟨k',n',t',s',e',l'⟩:=v
  rw [MV.m_mk,M.sz_mk] at hsz
  show t'.length≤_
  omega
 have V:∀ {w':World},Ch (fun _=>False) w w'→VR (fun _=>True) w' v:=fun c=>(TR.ch0 c hx).inv.1
 rw [← tvv]
 apply ok_sieve_check
 refine newB_blk fun w1 b1 c1 z1=>?_
 have b1:blk w1 w.heap.size=some (TV.mk k t v s l).g:=b1
 refine TV.ldV b1 ?_
 rw [show Value.agg (Array.mk [.int .i64 (TV.mk k t v s l).x.k,.int .u64 ((TV.mk k t v s l).x.n:Int),.string ⟨(TV.mk k t v s l).x.t.toArray⟩,.slice (TV.mk k t v s l).x.s.p (TV.mk k t v s l).x.s.n (TV.mk k t v s l).x.s.c,.int .i64 (TV.mk k t v s l).x.e])=v.v from vv v]
 refine vEqual_ok (Q:=fun _=>True) (Q':=fun _=>True) v zMV (V c1) (VO.vr zMV (zMV_ok w1) _ fun _ _=>trivial) fun w2 c2=>⟨_,rfl,?_⟩
 rw [zMV_m]
 have c02:=c1.trans' c2
 have b2:=(c2.blk (blk_lt b1) id).trans b1
 refine ⟨_,TV.c0 b2,_,_,_,TV.c7 b2,?_⟩
 refine arity_ok ⟨_,rfl,?_⟩
 rw [show arity (TV.mk k t v s l).k (TV.mk k t v s l).s.n=arity k l.length from by rw [hlen]; rfl]
 refine Sif_cases (fun h=>?_) (fun h=>?_)
 ·have h:arity k l.length=false:=by simpa using h
  have hk:=hk w2 c02
  rw [if_pos h] at hk
  exact hk
 have har:arity k l.length=true:=by simpa using h
 have h13:(TV.mk k t v s l).k=13→2≤(TV.mk k t v s l).s.n:=fun hh=>by
  have hh:k=13:=hh
  show 2≤s.n
  rw [hh] at har
  rw [← hlen]
  simpa [arity] using har
 rw [if_neg (by rw [har]; decide)] at hk
 refine ⟨fun b' w'=>w'=w2∧b'=decide ((t≠[]∧k≠2∧k≠14)∨(v.m≠zeroM∧k≠1∧k≠14)),?_,?_⟩
 ·rintro b2 w4 ⟨hw,hb⟩
  subst hw; subst hb
  refine Sif_cases (fun h=>?_) (fun h=>?_)
  ·have hk:=hk w4 c02
   rw [if_pos (of_decide_eq_true h)] at hk
   exact hk
  rw [if_neg (of_decide_eq_false h)] at hk
  refine ⟨fun b3 w5=>Ch (fun _=>False) w w5∧blk w5 w.heap.size=some (TV.mk k t v s l).g∧b3=decide ((k=1∧litB v.m b=false)∨(k=2∧nameB t=false)),?_,?_⟩
  ·rintro b3 w5 ⟨c5,b5,rfl⟩
   refine Sif_cases (fun h=>?_) (fun h=>?_)
   ·have hk:=hk w5 c5
    rw [if_pos (of_decide_eq_true h)] at hk
    exact hk
   rw [if_neg (of_decide_eq_false h)] at hk
   have tail:=fun (w':World) (c:Ch (fun _=>False) w w') (bb:blk w' w.heap.size=some (TV.mk k t v s l).g) (h4:¬ (k=14∧textB t=false)) (h5:¬ (k=14∧v.m≠zeroM∧(v.m.k≠19∨M.check 1 v.m≠0∨escB1 v.m.t=false∨loneB t v.m.t=true))) =>
    ctail_ok (K:=K) (hL.ch c fun _ _ h=>h) (TR.ch0 c hx) bb h13 (fun y hy b w K hL hx hk=>ih y hy b w K hL hx (hgl y hy) hk) (fun w'' c''=>by have:=hk w'' (c.trans' c''); rw [if_neg h4,if_neg h5] at this; exact this)
   refine ⟨_,TV.c0 b5,?_⟩
   rw [intEq]
   refine Sif_cases (fun h=>?_) (fun h=>?_)
   ·have h14:k=14:=of_decide_eq_true h
    refine ⟨_,TV.c1 b5,?_⟩
    have hL5:LW w5:=hL.ch c5 fun _ _ h=>h
    refine oUtf8_ok (by rw [sz3]; exact htl) hL5.ut hL5.size fun y w6 c6 hpl=>⟨_,rfl,?_⟩
    rw [sl3] at hpl
    have hpl:(textB t=true→y=-1)∧(textB t=false→0≤y):=hpl
    have c06:=c5.trans' c6
    have b6:=(c6.blk (blk_lt b5) id).trans b5
    have hL6:LW w6:=hL.ch c06 fun _ _ h=>h
    have no:∀ {w':World},Ch (fun _=>False) w w'→textB t=true→(v.m≠zeroM∧(v.m.k≠19∨M.check 1 v.m≠0∨escB1 v.m.t=false∨loneB t v.m.t=true))→K (.int .i64 161) w':=fun c ht h=>by
     have hk:=hk _ c
     rw [if_neg (by rw [ht]; simp),if_pos ⟨h14,h⟩] at hk
     exact hk
    refine Sif_cases (fun h=>?_) (fun h=>?_)
    ·have h:=of_decide_eq_true h
     have ht:textB t=false:=by
      cases ht:textB t with
      | false=>rfl
      | true=>have:=hpl.1 ht; omega
     have hk:=hk _ c06
     rw [if_pos ⟨h14,ht⟩] at hk
     exact hk
    have h:=of_decide_eq_false h
    have ht:textB t=true:=by
     cases ht:textB t with
     | true=>rfl
     | false=>have:=hpl.2 ht; omega
    have n4:¬ (k=14∧textB t=false):=by rw [ht]; simp
    refine ⟨_,TV.c0 b6,?_⟩
    rw [intEq]
    refine Sif_cases (fun _=>?_) (fun h=>absurd h14 (of_decide_eq_false h))
    refine Sif_cases (fun h=>?_) (fun h=>?_)
    ·have hz:v.m≠zeroM:=by simpa using h
     refine ⟨_,TV.v0 b6,?_⟩
     rw [bne,intEq,Bool.not_not]
     refine Sif_cases (fun h=>?_) (fun h=>?_)
     ·have h19:v.k=19:=of_decide_eq_true h
      refine TV.ldV b6 ?_
      rw [show Value.agg (Array.mk [.int .i64 (TV.mk k t v s l).x.k,.int .u64 ((TV.mk k t v s l).x.n:Int),.string ⟨(TV.mk k t v s l).x.t.toArray⟩,.slice (TV.mk k t v s l).x.s.p (TV.mk k t v s l).x.s.n (TV.mk k t v s l).x.s.c,.int .i64 (TV.mk k t v s l).x.e])=v.v from vv v]
      refine vCheck_ok hfit hsz hL6 (V c06) fun w7 c7=>⟨_,rfl,?_⟩
      have c07:=c06.trans' c7
      have b7:=(c7.blk (blk_lt b6) id).trans b6
      have hL7:LW w7:=hL.ch c07 fun _ _ h=>h
      rw [show (((v.m.check 1:Nat):Int) != 0)=!decide (v.m.check 1=0) from congrArg (!·) (natBeq _ 0),Bool.not_not]
      refine Sif_cases (fun h=>?_) (fun h=>?_)
      ·have hch:=of_decide_eq_true h
       refine ⟨_,TV.v2 b7,?_⟩
       refine isEscape_ok (t:=v.t) htl2 hL7 fun w8 c8=>⟨_,rfl,?_⟩
       have c08:=c07.trans' c8
       have b8:=(c8.blk (blk_lt b7) id).trans b7
       have hL8:LW w8:=hL.ch c08 fun _ _ h=>h
       rw [Bool.not_not]
       refine Sif_cases (fun hE=>?_) (fun hE=>?_)
       ·refine ⟨_,TV.c1 b8,_,TV.v2 b8,?_⟩
        refine lone_ok (p:=t) (e:=v.t) htl hL8 fun w9 c9=>⟨_,rfl,?_⟩
        have c09:=c08.trans' c9
        have b9:=(c9.blk (blk_lt b8) id).trans b8
        refine Sif_cases (fun hl=>?_) (fun hl=>?_)
        ·exact no c09 ht ⟨hz,.inr (.inr (.inr (by rw [htx.1]; exact hl)))⟩
        ·refine tail w9 c09 b9 n4 fun hh=>?_
         rcases hh.2.2 with h | h | h | h
         ·exact h (htx.2.trans h19)
         ·exact h hch
         ·rw [htx.1,hE] at h; cases h
         ·rw [htx.1,hl] at h; cases h
       ·exact no c08 ht ⟨hz,.inr (.inr (.inl (by rw [htx.1]; exact hE)))⟩
      ·exact no c07 ht ⟨hz,.inr (.inl (of_decide_eq_false h))⟩
     ·exact no c06 ht ⟨hz,.inl fun hh=>(of_decide_eq_false h) (htx.2.symm.trans hh)⟩
    ·have hz:v.m=zeroM:=by simpa using h
     exact tail w6 c06 b6 n4 fun hh=>hh.2.1 hz
   ·have h14:¬ k=14:=of_decide_eq_false h
    refine ⟨_,TV.c0 b5,?_⟩
    rw [intEq]
    refine Sif_cases (fun h=>absurd (of_decide_eq_true h) h14) (fun h=>?_)
    exact tail w5 c5 b5 (fun hh=>h14 hh.1) fun hh=>h14 hh.1
  ·refine ⟨_,TV.c0 b2,?_⟩
   rw [intEq]
   have hL2:LW w4:=hL.ch c02 fun _ _ h=>h
   refine Sif_cases (fun h=>?_) (fun h=>?_)
   ·have h1:k=1:=of_decide_eq_true h
    refine TV.ldV b2 ?_
    rw [show Value.agg (Array.mk [.int .i64 (TV.mk k t v s l).x.k,.int .u64 ((TV.mk k t v s l).x.n:Int),.string ⟨(TV.mk k t v s l).x.t.toArray⟩,.slice (TV.mk k t v s l).x.s.p (TV.mk k t v s l).x.s.n (TV.mk k t v s l).x.s.c,.int .i64 (TV.mk k t v s l).x.e])=v.v from vv v]
    refine isLiteral_ok hfit hsz hL2 (V c02) fun w5 c5=>⟨_,rfl,?_⟩
    have c05:=c02.trans' c5
    have b5:=(c5.blk (blk_lt b2) id).trans b2
    refine Sif_cases (fun h=>?_) (fun h=>?_)
    ·have h:litB v.m b=false:=by simpa using h
     exact ⟨c05,b5,by rw [h]; exact (decide_eq_true (.inl ⟨h1,rfl⟩)).symm⟩
    ·have h:litB v.m b=true:=by simpa using h
     refine ⟨_,TV.c0 b5,?_⟩
     rw [intEq]
     refine Sif_cases (fun h2=>?_) (fun h2=>?_)
     ·have h2:k=2:=of_decide_eq_true h2
      omega
     ·exact ⟨c05,b5,(decide_eq_false (by rw [h]; rintro (⟨_,hh⟩ | ⟨hh,_⟩); cases hh; omega)).symm⟩
   ·have h1:¬ k=1:=of_decide_eq_false h
    refine ⟨_,TV.c0 b2,?_⟩
    rw [intEq]
    refine Sif_cases (fun h2=>?_) (fun h2=>?_)
    ·have h2:k=2:=of_decide_eq_true h2
     refine ⟨_,TV.c1 b2,?_⟩
     refine isName_ok (t:=t) htl hL2 fun w5 c5=>⟨_,rfl,c02.trans' c5,(c5.blk (blk_lt b2) id).trans b2,?_⟩
     cases hn:nameB t with
     | true=>exact (decide_eq_false (by rintro (⟨hh,_⟩ | ⟨_,hh⟩); exact h1 hh; cases hh)).symm
     | false=>exact (decide_eq_true (.inr ⟨h2,rfl⟩)).symm
    ·have h2:¬ k=2:=of_decide_eq_false h2
     exact ⟨c02,b2,(decide_eq_false (by rintro (⟨hh,_⟩ | ⟨hh,_⟩); exact h1 hh; exact h2 hh)).symm⟩
 ·refine ⟨_,TV.c1 b2,?_⟩
  rw [show ((ByteArray.mk (TV.mk k t v s l).t.toArray).toList == (ByteArray.mk (Array.mk [])).toList)=decide (t=[]) from seq3 t []]
  have X:∀ J:Bool→World→Prop,(J (decide (v.m≠zeroM∧k≠1∧k≠14)) w2)→Sif (!decide (v.m=zeroM)) (∃ n8,w2.cell? (Addr.add ⟨w.heap.size,0,none⟩ 0)=some (.int .i64 n8)∧Sif (n8 != 1) (∃ n9,w2.cell? (Addr.add ⟨w.heap.size,0,none⟩ 0)=some (.int .i64 n9)∧J (n9 != 14) w2) (J false w2)) (J false w2):=fun J hJ=>by
   refine Sif_cases (fun h=>?_) (fun h=>?_)
   ·have hz:v.m≠zeroM:=by simpa using h
    refine ⟨_,TV.c0 b2,?_⟩
    rw [bne,intEq]
    refine Sif_cases (fun h=>?_) (fun h=>?_)
    ·have h1:¬ (TV.mk k t v s l).k=1:=by simpa using h
     refine ⟨_,TV.c0 b2,?_⟩
     rw [bne,intEq,← decide_not,show decide (¬ (TV.mk k t v s l).k=14)=decide (v.m≠zeroM∧k≠1∧k≠14) from decide_eq_decide.2 ⟨fun h=>⟨hz,h1,h⟩,fun h=>h.2.2⟩]
     exact hJ
    ·have h1:(TV.mk k t v s l).k=1:=by simpa using h
     rw [decide_eq_false (fun hh=>hh.2.1 h1)] at hJ
     exact hJ
   ·have hz:v.m=zeroM:=by simpa using h
    rw [decide_eq_false (fun hh=>hh.1 hz)] at hJ
    exact hJ
  have X:=X (fun b' w'=>w'=w2∧b'=decide ((t≠[]∧k≠2∧k≠14)∨(v.m≠zeroM∧k≠1∧k≠14)))
  have Y:¬ (t≠[]∧k≠2∧k≠14)→decide (v.m≠zeroM∧k≠1∧k≠14)=decide ((t≠[]∧k≠2∧k≠14)∨(v.m≠zeroM∧k≠1∧k≠14)):=fun h=>decide_eq_decide.2 ⟨.inr,fun hh=>hh.elim (fun h2=>absurd h2 h) id⟩
  refine Sif_cases (fun h=>?_) (fun h=>?_)
  ·have ht0:t≠[]:=by simpa using h
   refine ⟨_,TV.c0 b2,?_⟩
   rw [bne,intEq]
   refine Sif_cases (fun h=>?_) (fun h=>?_)
   ·have h2:¬ (TV.mk k t v s l).k=2:=by simpa using h
    refine ⟨_,TV.c0 b2,?_⟩
    rw [bne,intEq]
    refine Sif_cases (fun h=>?_) (fun h=>?_)
    ·have h14:¬ (TV.mk k t v s l).k=14:=by simpa using h
     exact ⟨rfl,by rw [h]; exact (decide_eq_true (.inl ⟨ht0,h2,h14⟩)).symm⟩
    ·have h14:(TV.mk k t v s l).k=14:=by simpa using h
     exact X ⟨rfl,Y fun hh=>hh.2.2 h14⟩
   ·have h2:(TV.mk k t v s l).k=2:=by simpa using h
    exact X ⟨rfl,Y fun hh=>hh.2.1 h2⟩
  ·have ht0:t=[]:=by simpa using h
   exact X ⟨rfl,Y fun hh=>hh.1 ht0⟩
end Go.Proofs.YtnmlmicmhpkbeaaGreatDoor
namespace Go.Proofs.YtnmlmicmhpkbeaaGreatDoor
open Go Go.Sv Go.Note
set_option linter.unusedVariables false
attribute [local irreducible] Sif
theorem ld8a {w:World} {k:Nat} {x:TV} {K:Int→ByteArray→Int→Int→ByteArray→Option Addr→Nat→Nat→Int→Option Addr→Nat→Nat→Prop} (h:blk w k=some x.g) (hk:K x.k ⟨x.t.toArray⟩ x.x.k (x.x.n:Int) ⟨x.x.t.toArray⟩ x.x.s.p x.x.s.n x.x.s.c x.x.e x.s.p x.s.n x.s.c) :
 ∃ n,w.cell? (Addr.add ⟨k,0,none⟩ 0)=some (.int .i64 n)∧∃ s,w.cell? (Addr.add ⟨k,0,none⟩ 1)=some (.string s)∧∃ n1,w.cell? (Addr.add ⟨k,0,none⟩ 2)=some (.int .i64 n1)∧∃ n2,w.cell? (Addr.add ⟨k,0,none⟩ 3)=some (.int .u64 n2)∧∃ s1,w.cell? (Addr.add ⟨k,0,none⟩ 4)=some (.string s1)∧∃ p n3 c,w.cell? (Addr.add ⟨k,0,none⟩ 5)=some (.slice p n3 c)∧∃ n4,w.cell? (Addr.add ⟨k,0,none⟩ 6)=some (.int .i64 n4)∧∃ p1 n5 c1,w.cell? (Addr.add ⟨k,0,none⟩ 7)=some (.slice p1 n5 c1)∧K n s n1 n2 s1 p n3 c n4 p1 n5 c1:=by
 simp only [add_at,Nat.zero_add]
 exact ld8 h hk
theorem Check_ok {x:TV} {w:World} (hL:LW w) {Q:Nat→Prop} (hx:TR Q w x) (hg:TG x) {K:Value→World→Prop} (hk:∀ w',Ch (fun _=>False) w w'→K (.int .i64 (T.check x.m:Nat)) w'):callP Tryz.prog 14 [x.v] w K:=by
 rw [← tvv]
 apply ok_sieve_Check
 refine newB_blk fun w1 b1 c1 z1=>?_
 have b1:blk w1 w.heap.size=some x.g:=b1.trans (by cases x; rfl)
 refine ld8a b1 ?_
 rw [tvv]
 unfold T.check at hk
 have h1:TR (fun _=>True) w1 x:=TR.ch0 c1 (TR.mono (fun _ _=>trivial) x hx)
 refine count_ok x (fun _=>True) 0 w1 _ (by decide) h1 fun w2 c2 hb=>⟨_,rfl,?_⟩
 have c02:=c1.trans' c2
 have b2:=(c2.blk (blk_lt b1) id).trans b1
 refine Sif_cases (fun h=>?_) (fun h=>?_)
 ·have h:=of_decide_eq_true h
  rw [if_pos (by omega)] at hk
  exact hk w2 c02
 ·have h:=of_decide_eq_false h
  rw [if_neg (by omega)] at hk
  refine ld8a b2 ?_
  rw [tvv]
  exact check_ok x false w2 _ (hL.ch c02 fun _ _ h=>h) (TR.ch0 c2 h1) hg fun w3 c3=>⟨_,rfl,hk w3 (c02.trans' c3)⟩
end Go.Proofs.YtnmlmicmhpkbeaaGreatDoor
namespace Go.Note
open Go
set_option linter.unusedVariables false
structure Msg where
 dur:Bool
 pri:Int
 ttl:Int
 fst:Bool
 cnt:Int
 mid:M
 usr:Bs
 to9:Bs
 sub:Bs
 rep:Bs
 cor:M
 typ:Bs
 grp:Bs
 seq:Int
 app:M
def findP (key:M):List M→M
 | x::y::l=>if x=key then y else findP key l
 | _=>zeroM
def findB (m key:M):M:=if m.k=22 then findP key m.l else zeroM
def truM (b:Bool):M:=.mk 1 (if b then 1 else 0) [] 0 []
def lowM (n:Int):M:=if n<0 then zeroM else .mk 4 (n%4294967296).toNat [] 0 []
def sayM (k:Int) (s:Bs):M:=if s=[] then zeroM else .mk k 0 s 0 []
def lookB (g:Msg) (s:Bs):M :=
 if s=[112,114,105,111,114,105,116,121] then .mk 2 (g.pri%256).toNat [] 0 []
 else if s=[100,117,114,97,98,108,101] then truM g.dur
 else if s=[102,105,114,115,116] then truM g.fst
 else if s=[116,116,108] then lowM g.ttl
 else if s=[99,111,117,110,116] then .mk 4 (g.cnt%4294967296).toNat [] 0 []
 else if s=[105,100] then g.mid
 else if s=[99,111,114,114,101,108,97,116,105,111,110] then g.cor
 else if s=[117,115,101,114] then sayM 18 g.usr
 else if s=[116,111] then sayM 19 g.to9
 else if s=[115,117,98,106,101,99,116] then sayM 19 g.sub
 else if s=[114,101,112,108,121,45,116,111] then sayM 19 g.rep
 else if s=[103,114,111,117,112] then sayM 19 g.grp
 else if s=[99,111,110,116,101,110,116,45,116,121,112,101] then sayM 20 g.typ
 else if s=[115,101,113,117,101,110,99,101] then lowM g.seq
 else findB g.app (.mk 19 0 s 0 [])
end Go.Note
namespace Go.Proofs.YtnmlmicmhpkbeaaGreatDoor
open Go Go.Sv Go.Note
set_option linter.unusedVariables false
structure GV where
 has:Bool
 dur:Bool
 pri:Int
 ttl:Int
 fst:Bool
 cnt:Int
 da:MV
 ma:MV
 ph:Bool
 mid:MV
 usr:Bs
 to9:Bs
 sub:Bs
 rep:Bs
 cor:MV
 typ:Bs
 enc:Bs
 exp:Int
 cre:Int
 grp:Bs
 seq:Int
 rgp:Bs
 app:MV
 body:Int
 dp:Option Addr
 dn:Nat
 dc:Nat
 dl:List Bs
 sp:Option Addr
 sn:Nat
 sc:Nat
 sl:List MV
 val:MV
 foot:MV
def strV (s:Bs):Value:=.string ⟨s.toArray⟩
def GV.g (x:GV):List Value :=
 [.bool x.has,.bool x.dur,.int .i64 x.pri,.int .i64 x.ttl,.bool x.fst,.int .i64 x.cnt]++x.da.g++x.ma.g++[.bool x.ph]++x.mid.g++[strV x.usr,strV x.to9,strV x.sub,strV x.rep]++x.cor.g++[strV x.typ,strV x.enc,.int .i64 x.exp,.int .i64 x.cre,strV x.grp,.int .i64 x.seq,strV x.rgp]++x.app.g++[.int .i64 x.body,.slice x.dp x.dn x.dc,.slice x.sp x.sn x.sc]++x.val.g++x.foot.g
def GV.v (x:GV):Value:=.agg x.g.toArray
def GV.m (x:GV):Msg:=⟨x.dur,x.pri,x.ttl,x.fst,x.cnt,x.mid.m,x.usr,x.to9,x.sub,x.rep,x.cor.m,x.typ,x.grp,x.seq,x.app.m⟩
structure GR (Q:Nat→Prop) (w:World) (x:GV):Prop where
 da:VR Q w x.da
 ma:VR Q w x.ma
 mid:VR Q w x.mid
 cor:VR Q w x.cor
 app:VR Q w x.app
 val:VR Q w x.val
 foot:VR Q w x.foot
 seqs:VRow Q w x.sp x.sn x.sl
 data:Rd w x.dp x.dn 1 (x.dl.map strV)
 dlen:x.dl.length=x.dn
 dq:∀ a,x.dp=some a→x.dn*1≠0→Q a.block
theorem GR.ch {Q S:Nat→Prop} {w w':World} (hc:Ch S w w') (hn:∀ b,Q b→¬ S b) {x:GV} (h:GR Q w x):GR Q w' x :=
 ⟨VR.ch hc hn _ h.da,VR.ch hc hn _ h.ma,VR.ch hc hn _ h.mid,VR.ch hc hn _ h.cor,VR.ch hc hn _ h.app,VR.ch hc hn _ h.val,VR.ch hc hn _ h.foot,h.seqs.ch hc hn,h.data.ch hc fun a ha h0=>hn _ (h.dq a ha h0),h.dlen,h.dq⟩
theorem GR.ch0 {Q:Nat→Prop} {w w':World} (hc:Ch (fun _=>False) w w') {x:GV} (h:GR Q w x):GR Q w' x:=GR.ch hc (fun _ _ h=>h) h
theorem GR.mono {Q Q':Nat→Prop} {w:World} (hq:∀ b,Q b→Q' b) {x:GV} (h:GR Q w x):GR Q' w x :=
 ⟨VR.mono hq _ h.da,VR.mono hq _ h.ma,VR.mono hq _ h.mid,VR.mono hq _ h.cor,VR.mono hq _ h.app,VR.mono hq _ h.val,VR.mono hq _ h.foot,⟨h.seqs.1,h.seqs.2.1,h.seqs.2.2.1,fun a ha h0=>hq _ (h.seqs.2.2.2.1 a ha h0),fun x hx=>VR.mono hq x (h.seqs.2.2.2.2 x hx)⟩,h.data,h.dlen,fun a ha h0=>hq _ (h.dq a ha h0)⟩
theorem GV.cells (x:GV):x.g=[.bool x.has,.bool x.dur,.int .i64 x.pri,.int .i64 x.ttl,.bool x.fst,.int .i64 x.cnt,
 .int .i64 x.da.k,.int .u64 (x.da.n:Int),.string ⟨x.da.t.toArray⟩,.slice x.da.s.p x.da.s.n x.da.s.c,.int .i64 x.da.e,
 .int .i64 x.ma.k,.int .u64 (x.ma.n:Int),.string ⟨x.ma.t.toArray⟩,.slice x.ma.s.p x.ma.s.n x.ma.s.c,.int .i64 x.ma.e,
 .bool x.ph,
 .int .i64 x.mid.k,.int .u64 (x.mid.n:Int),.string ⟨x.mid.t.toArray⟩,.slice x.mid.s.p x.mid.s.n x.mid.s.c,.int .i64 x.mid.e,
 .string ⟨x.usr.toArray⟩,.string ⟨x.to9.toArray⟩,.string ⟨x.sub.toArray⟩,.string ⟨x.rep.toArray⟩,
 .int .i64 x.cor.k,.int .u64 (x.cor.n:Int),.string ⟨x.cor.t.toArray⟩,.slice x.cor.s.p x.cor.s.n x.cor.s.c,.int .i64 x.cor.e,
 .string ⟨x.typ.toArray⟩,.string ⟨x.enc.toArray⟩,.int .i64 x.exp,.int .i64 x.cre,.string ⟨x.grp.toArray⟩,.int .i64 x.seq,.string ⟨x.rgp.toArray⟩,
 .int .i64 x.app.k,.int .u64 (x.app.n:Int),.string ⟨x.app.t.toArray⟩,.slice x.app.s.p x.app.s.n x.app.s.c,.int .i64 x.app.e,
 .int .i64 x.body,.slice x.dp x.dn x.dc,.slice x.sp x.sn x.sc,
 .int .i64 x.val.k,.int .u64 (x.val.n:Int),.string ⟨x.val.t.toArray⟩,.slice x.val.s.p x.val.s.n x.val.s.c,.int .i64 x.val.e,
 .int .i64 x.foot.k,.int .u64 (x.foot.n:Int),.string ⟨x.foot.t.toArray⟩,.slice x.foot.s.p x.foot.s.n x.foot.s.c,.int .i64 x.foot.e]:=by
 have e:∀ y:MV,y.g=[.int .i64 y.k,.int .u64 (y.n:Int),.string ⟨y.t.toArray⟩,.slice y.s.p y.s.n y.s.c,.int .i64 y.e]:=fun y=>by cases y; rfl
 unfold GV.g strV
 rw [e,e,e,e,e,e,e]
 rfl
theorem MV.c0 {w:World} {k:Nat} {x:MV} (b:blk w k=some x.g):w.cell? ⟨k,0,none⟩=some (.int .i64 x.k):=by cases x; exact cellK b 0 rfl
theorem MV.c1 {w:World} {k:Nat} {x:MV} (b:blk w k=some x.g):w.cell? ⟨k,1,none⟩=some (.int .u64 (x.n:Int)):=by cases x; exact cellK b 1 rfl
theorem MV.c2 {w:World} {k:Nat} {x:MV} (b:blk w k=some x.g):w.cell? ⟨k,2,none⟩=some (.string ⟨x.t.toArray⟩):=by cases x; exact cellK b 2 rfl
theorem MV.c3 {w:World} {k:Nat} {x:MV} (b:blk w k=some x.g):w.cell? ⟨k,3,none⟩=some (.slice x.s.p x.s.n x.s.c):=by cases x; exact cellK b 3 rfl
theorem MV.c4 {w:World} {k:Nat} {x:MV} (b:blk w k=some x.g):w.cell? ⟨k,4,none⟩=some (.int .i64 x.e):=by cases x; exact cellK b 4 rfl
end Go.Proofs.YtnmlmicmhpkbeaaGreatDoor
