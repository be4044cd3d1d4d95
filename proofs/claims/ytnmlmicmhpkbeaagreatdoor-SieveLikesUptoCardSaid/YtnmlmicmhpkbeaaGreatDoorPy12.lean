/-
  Taken together for one seat (rawpack.py): what other texts prove of values, texts, builders. Floats of 64 bits in plain Lean: what is written exactly is read as it was; the whole number below a float. No program in sight. Floats of 64 bits and whole numbers in plain Lean: how they stand, exactly; the whole number below one; a float cut to a whole number. No program in sight. Patterns in plain Lean: a text's signs, a pattern's elements, when a text fits a pattern; the search that goes back to the last row alone; the same, place by place. No program in sight. Terms of filters in plain Lean: how many there are, which may be, what is alone wrong with one. No program in sight. What a filter says of a message, in plain Lean: worths, three values, comparisons, sums. No program in sight. The program's patterns: cut, head, like, Like.
-/
import Derived.Test.YtnmlmicmhpkbeaaGreatDoorPy11
import GoSem.Core.Float
import GoSem.Extern.MathFloor
import Derived.Lib.Bytealg
import GoSem.Core.Utf8
import GoSem.Op.Unary
set_option linter.unusedVariables false
set_option linter.unusedSimpArgs false
namespace Go.Proofs.YtnmlmicmhpkbeaaGreatDoor
open Go Go.Sv Go.Note
set_option linter.unusedVariables false
attribute [local irreducible] Sif
set_option maxRecDepth 4000
def nS:SL:=⟨none,0,0,none⟩
def mk7 (i:Nat):MV:=.mk (-7) i [] nS 0 []
def marks (n:Nat):List MV:=[mk7 n,mk7 (n+1),mk7 (n+2)]
inductive LV (w:World):MV→Prop where
 | mk {k:Int} {n:Nat} {t:Bs} {s:SL} {e:Int} {l:List MV} (b:Nat):s.p=some ⟨b,0,none⟩→s.own=some b→l.length=s.n→s.c=s.n+3→s.n≤2^40→blk w b=some ((l++marks s.n).flatMap MV.g)→(∀ x∈l,LV w x)→(b::l.flatMap MV.B).Nodup→LV w (.mk k n t s e l)
theorem LV.ch {S:Nat→Prop} {w w':World} (hc:Ch S w w'):∀ x:MV,LV w x→(∀ b∈x.B,¬ S b)→LV w' x:=by
 refine MV.ind fun k n t s e l ih=>?_
 intro h hn
 rw [MV.B_mk] at hn
 cases h with
 | mk b h1 h2 h3 h4 h5 h6 h7 h8 =>
  refine .mk b h1 h2 h3 h4 h5 ((hc.blk (blk_lt h6) (hn b (by rw [h2]; simp))).trans h6) (fun x hx=>ih x hx (h7 x hx) fun k hk=>hn k ?_) h8
  exact List.mem_append.2 (.inr (List.mem_flatMap.2 ⟨x,hx,hk⟩))
theorem LV.lt {w:World}:∀ x:MV,LV w x→∀ b∈x.B,b<w.heap.size:=by
 refine MV.ind fun k n t s e l ih=>?_
 intro h b hb
 rw [MV.B_mk] at hb
 cases h with
 | mk b' h1 h2 h3 h4 h5 h6 h7 h8 =>
  rcases List.mem_append.1 hb with hb | hb
  ·rw [h2] at hb
   simp only [Option.toList_some,List.mem_singleton] at hb
   subst hb; exact blk_lt h6
  ·obtain ⟨x,hx,hb⟩:=List.mem_flatMap.1 hb
   exact ih x hx (h7 x hx) b hb
theorem LV.vr {w:World}:∀ x:MV,LV w x→∀ Q:Nat→Prop,(∀ b∈x.B,Q b)→VR Q w x:=by
 refine MV.ind fun k n t s e l ih=>?_
 intro h Q hq
 rw [MV.B_mk] at hq
 cases h with
 | mk b h1 h2 h3 h4 h5 h6 h7 h8 =>
  have hl:(l.flatMap MV.g).length=s.n*5:=by rw [flat_len MV.glen,h3]
  refine .mk h3 (by omega) ⟨hl,.inr ⟨b,0,_,h1,blk_cells h6,?_,?_⟩⟩ (fun a ha _=>?_) fun x hx=>ih x hx (h7 x hx) Q fun k hk=>hq k (List.mem_append.2 (.inr (List.mem_flatMap.2 ⟨x,hx,hk⟩)))
  ·rw [List.flatMap_append,List.length_append]; omega
  ·rw [List.flatMap_append,List.drop_zero,← hl,List.take_append_of_le_length (Nat.le_refl _),List.take_length]
  ·rw [h1] at ha; cases ha
   exact hq b (by rw [h2]; simp)
theorem LV.inv {w:World} {x:MV} (h:LV w x):∃ b,x.s.p=some ⟨b,0,none⟩∧x.s.own=some b∧x.l.length=x.s.n∧x.s.c=x.s.n+3∧x.s.n≤2^40∧blk w b=some ((x.l++marks x.s.n).flatMap MV.g)∧(∀ y∈x.l,LV w y)∧(b::x.l.flatMap MV.B).Nodup:=by
 cases h with
 | mk b h1 h2 h3 h4 h5 h6 h7 h8=>exact ⟨b,h1,h2,h3,h4,h5,h6,h7,h8⟩
end Go.Proofs.YtnmlmicmhpkbeaaGreatDoor
namespace Go.Note
open Go
set_option linter.unusedVariables false
end Go.Note
namespace Go.Proofs.YtnmlmicmhpkbeaaGreatDoor
open Go Go.Sv Go.Note
set_option linter.unusedVariables false
attribute [local irreducible] Sif
set_option maxRecDepth 4000
end Go.Proofs.YtnmlmicmhpkbeaaGreatDoor
namespace Go.Proofs.YtnmlmicmhpkbeaaGreatDoor
open Go Go.Sv Go.Note
set_option linter.unusedVariables false
attribute [local irreducible] Sif
set_option maxRecDepth 4000
end Go.Proofs.YtnmlmicmhpkbeaaGreatDoor
namespace Go.Proofs.YtnmlmicmhpkbeaaGreatDoor
open Go Go.Sv Go.Note Go.RowKit
set_option linter.unusedVariables false
attribute [local irreducible] Sif
set_option maxRecDepth 4000
def WT (base:World) (b0:Option Nat) (w:World) (p:Option Addr) (n c:Nat) (l:Bs):Prop:=Gb base w p n c l b0∧∀ k,b0=some k→k<base.heap.size
theorem WT.ch {base w:World} {b0:Option Nat} {p:Option Addr} {n c:Nat} {l:Bs} (h:WT base b0 w p n c l):Ch (fun k=>b0=some k) base w:=by obtain ⟨⟨_,_,_,h⟩,_⟩:=h; exact h
theorem WT.ch0 {base w w':World} {b0:Option Nat} {p:Option Addr} {n c:Nat} {l:Bs} (h:WT base b0 w p n c l) (cc:Ch (fun _=>False) w w'):WT base b0 w' p n c l:=by
 obtain ⟨⟨b',h1,h2,h3⟩,h4⟩:=h
 exact ⟨⟨b',h1.ch cc fun _ _ h=>h,h2,h3.trans' (cc.mono fun _ _ h=>h.elim)⟩,h4⟩
end Go.Proofs.YtnmlmicmhpkbeaaGreatDoor
namespace Go.Proofs.YtnmlmicmhpkbeaaGreatDoor
open Go Go.Sv Go.Note
set_option linter.unusedVariables false
attribute [local irreducible] Sif
set_option maxRecDepth 4000
end Go.Proofs.YtnmlmicmhpkbeaaGreatDoor
namespace Go.Proofs.YtnmlmicmhpkbeaaGreatDoor
open Go Go.Sv Go.Note
set_option linter.unusedVariables false
attribute [local irreducible] Sif
set_option maxRecDepth 4000
end Go.Proofs.YtnmlmicmhpkbeaaGreatDoor
namespace Go.Note
open Go
set_option linter.unusedVariables false
abbrev DB:=Ieee.double
end Go.Note
namespace Go.Note
open Go
set_option linter.unusedVariables false
def sc (s:Bool) (m:Nat) (e:Int):Int:=if s then -((m*2^(e+1074).toNat:Nat):Int) else ((m*2^(e+1074).toNat:Nat):Int)
abbrev V74:Nat:=2^1074
end Go.Note
namespace Go.Note
open Go
set_option linter.unusedVariables false
def sgF:Nat→Bs→List Bs
 | 0,_=>[]
 | f+1,l=>if l=[] then [] else l.take (wide l)::sgF f (l.drop (wide l))
def sg (l:Bs):List Bs:=sgF l.length l
theorem sgF_fuel:∀ (f g:Nat) (l:Bs),l.length≤f→l.length≤g→sgF f l=sgF g l
 | 0,0,l,_,_=>rfl
 | 0,g+1,l,h,_=>by
  have:l=[]:=List.eq_nil_of_length_eq_zero (by omega)
  subst this; rfl
 | f+1,0,l,_,h=>by
  have:l=[]:=List.eq_nil_of_length_eq_zero (by omega)
  subst this; rfl
 | f+1,g+1,l,h1,h2=>by
  unfold sgF
  split
  ·rfl
  ·rename_i h
   have:=wide_pos l
   have:0<l.length:=List.length_pos_iff.2 h
   rw [sgF_fuel f g _ (by rw [List.length_drop]; omega) (by rw [List.length_drop]; omega)]
theorem sg_nil:sg []=[]:=rfl
theorem sg_cons (l:Bs) (h:l≠[]):sg l=l.take (wide l)::sg (l.drop (wide l)):=by
 have hp:0<l.length:=List.length_pos_iff.2 h
 have hw:=wide_pos l
 unfold sg
 obtain ⟨n,hn⟩:∃ n,l.length=n+1:=⟨l.length-1,by omega⟩
 rw [hn]
 conv=>lhs; unfold sgF
 rw [if_neg h,sgF_fuel n _ _ (by rw [List.length_drop]; omega) (Nat.le_refl _)]
theorem sg_eq_nil (l:Bs):sg l=[]↔l=[]:=by
 constructor
 ·intro h
  apply Classical.byContradiction
  intro hl
  rw [sg_cons l hl] at h
  cases h
 ·rintro rfl; rfl
theorem sg_ind {P:Bs→Prop} (h0:P []) (h1:∀ l,l≠[]→P (l.drop (wide l))→P l):∀ l,P l:=by
 have:∀ (n:Nat) (l:Bs),l.length≤n→P l:=by
  intro n
  induction n with
  | zero =>
   intro l hl
   obtain rfl:l=[]:=List.eq_nil_of_length_eq_zero (by omega)
   exact h0
  | succ n ih =>
   intro l hl
   by_cases hn:l=[]
   ·subst hn; exact h0
   ·have:=wide_pos l
    have:0<l.length:=List.length_pos_iff.2 hn
    exact h1 l hn (ih _ (by rw [List.length_drop]; omega))
 exact fun l=>this l.length l (Nat.le_refl _)
inductive El where
 | row | any | sgn (s:Bs)
 deriving DecidableEq
def elOf (x:Bs):El:=if x=[37] then .row else if x=[95] then .any else .sgn x
def els (e:Bs):List Bs→List El
 | []=>[]
 | [x]=>if e≠[]∧x=e then [.sgn x] else [elOf x]
 | x::y::l=>if e≠[]∧x=e then .sgn y::els e l else elOf x::els e (y::l)
def mt:List El→List Bs→Bool
 | [],s=>decide (s=[])
 | .row::p,[]=>mt p []
 | .row::p,y::s=>mt p (y::s) || mt (.row::p) s
 | .any::_,[]=>false
 | .any::p,_::s=>mt p s
 | .sgn _::_,[]=>false
 | .sgn x::p,y::s=>decide (y=x) && mt p s
termination_by p s=>(p.length,s.length)
def one:El→Bs→Bool
 | .row,_=>false
 | .any,_=>true
 | .sgn x,y=>decide (y=x)
theorem mt_nil (s:List Bs):mt [] s=decide (s=[]):=by rw [mt]
theorem mt_row_nil (p:List El):mt (.row::p) []=mt p []:=by rw [mt]
theorem mt_row_cons (p:List El) (y:Bs) (s:List Bs):mt (.row::p) (y::s)=(mt p (y::s) || mt (.row::p) s):=by rw [mt]
theorem mt_one_nil {x:El} (p:List El) (h:x≠.row):mt (x::p) []=false:=by
 cases x
 ·exact absurd rfl h
 ·rw [mt]
 ·rw [mt]
theorem mt_one_cons {x:El} (p:List El) (y:Bs) (s:List Bs) (h:x≠.row):mt (x::p) (y::s)=(one x y && mt p s):=by
 cases x
 ·exact absurd rfl h
 ·rw [mt]; simp [one]
 ·rw [mt]; rfl
theorem mt_row (p:List El):∀ s:List Bs,mt (.row::p) s=true↔∃ k,k≤s.length∧mt p (s.drop k)=true:=by
 intro s
 induction s with
 | nil =>
  rw [mt_row_nil]
  constructor
  ·intro h; exact ⟨0,Nat.le_refl _,h⟩
  ·rintro ⟨k,_,h⟩; simpa using h
 | cons y s ih =>
  rw [mt_row_cons,Bool.or_eq_true,ih]
  constructor
  ·rintro (h | ⟨k,hk,h⟩)
   ·exact ⟨0,Nat.zero_le _,h⟩
   ·exact ⟨k+1,by simpa using hk,h⟩
  ·rintro ⟨k,hk,h⟩
   cases k with
   | zero=>exact .inl h
   | succ k=>exact .inr ⟨k,by simpa using hk,h⟩
theorem mt_row_drop {p:List El} {s:List Bs} {k:Nat} (h:mt (.row::p) (s.drop k)=true):mt (.row::p) s=true:=by
 obtain ⟨j,hj,h⟩:=(mt_row p _).1 h
 rw [List.drop_drop] at h
 by_cases hk:k≤s.length
 ·exact (mt_row p s).2 ⟨k+j,by rw [List.length_drop] at hj; omega,h⟩
 ·refine (mt_row p s).2 ⟨s.length,Nat.le_refl _,?_⟩
  rw [List.drop_of_length_le (by omega)] at h ⊢
  exact h
theorem mt_append:∀ (p q:List El) (s:List Bs),mt (p++q) s=true↔∃ k,k≤s.length∧mt p (s.take k)=true∧mt q (s.drop k)=true:=by
 intro p q
 induction p with
 | nil =>
  intro s
  rw [List.nil_append]
  constructor
  ·intro h; exact ⟨0,Nat.zero_le _,by rw [mt_nil]; simp,h⟩
  ·rintro ⟨k,hk,h1,h2⟩
   rw [mt_nil,decide_eq_true_eq] at h1
   have:k=0∨s=[]:=by
    have:=congrArg List.length h1
    rw [List.length_take] at this
    simp at this
    omega
   rcases this with rfl | rfl
   ·exact h2
   ·simpa using h2
 | cons x p ih =>
  intro s
  rw [List.cons_append]
  by_cases hx:x=.row
  ·subst hx
   rw [mt_row]
   constructor
   ·rintro ⟨j,hj,h⟩
    obtain ⟨k,hk,h1,h2⟩:=(ih _).1 h
    rw [List.length_drop] at hk
    refine ⟨j+k,by omega,(mt_row p _).2 ⟨j,by rw [List.length_take]; omega,?_⟩,by rw [← List.drop_drop]; exact h2⟩
    rw [List.drop_take,show j+k-j=k by omega]; exact h1
   ·rintro ⟨k,hk,h1,h2⟩
    obtain ⟨j,hj,h1⟩:=(mt_row p _).1 h1
    rw [List.length_take] at hj
    refine ⟨j,by omega,(ih _).2 ⟨k-j,by rw [List.length_drop]; omega,?_,?_⟩⟩
    ·rw [List.drop_take] at h1; exact h1
    ·rw [List.drop_drop,show j+(k-j)=k by omega]; exact h2
  ·cases s with
   | nil =>
    rw [mt_one_nil _ hx]
    constructor
    ·intro h; cases h
    ·rintro ⟨k,hk,h1,_⟩
     rw [List.take_nil,mt_one_nil _ hx] at h1
     cases h1
   | cons y s =>
    rw [mt_one_cons _ _ _ hx,Bool.and_eq_true,ih]
    constructor
    ·rintro ⟨h,k,hk,h1,h2⟩
     refine ⟨k+1,by simpa using hk,?_,h2⟩
     rw [List.take_succ_cons,mt_one_cons _ _ _ hx,h,h1]; rfl
    ·rintro ⟨k,hk,h1,h2⟩
     cases k with
     | zero =>
      rw [List.take_zero,mt_one_nil _ hx] at h1
      cases h1
     | succ k =>
      rw [List.take_succ_cons,mt_one_cons _ _ _ hx,Bool.and_eq_true] at h1
      exact ⟨h1.1,k,by simpa using hk,h1.2,h2⟩
theorem mt_free {q:List El} (hq:∀ x∈q,x≠.row):∀ {s:List Bs},mt q s=true→s.length=q.length:=by
 induction q with
 | nil=>intro s h; rw [mt_nil,decide_eq_true_eq] at h; rw [h]; rfl
 | cons x q ih =>
  intro s h
  cases s with
  | nil=>rw [mt_one_nil _ (hq x (by simp))] at h; cases h
  | cons y s =>
   rw [mt_one_cons _ _ _ (hq x (by simp)),Bool.and_eq_true] at h
   rw [List.length_cons,List.length_cons,ih (fun x hx=>hq x (by simp [hx])) h.2]
def Seek (p:List El) (s:List Bs) (o:Option (List El × List Bs)) (r:Bool):Prop :=
 match o with
 | none=>r=mt p s
 | some (b,f)=>(∃ q,(∀ x∈q,x≠El.row)∧b=q++p∧s=f.drop q.length∧q.length≤f.length)∧r=(mt p s || (decide (f≠[]) && mt (.row::b) f.tail))
theorem Seek.start (p:List El) (s:List Bs):Seek p s none (mt p s):=rfl
theorem Seek.done {o:Option (List El × List Bs)} {r:Bool} (h:Seek [] [] o r):r=true:=by
 cases o with
 | none=>rw [h,mt_nil]; rfl
 | some x=>obtain ⟨b,f⟩:=x; rw [h.2,mt_nil]; rfl
theorem Seek.row {p:List El} {s:List Bs} {o:Option (List El × List Bs)} {r:Bool} (h:Seek (.row::p) s o r):Seek p s (some (p,s)) r:=by
 have e:∀ s:List Bs,mt (.row::p) s=(mt p s || (decide (s≠[]) && mt (.row::p) s.tail)):=by
  intro s
  cases s with
  | nil=>rw [mt_row_nil]; simp
  | cons y s=>rw [mt_row_cons]; simp
 refine ⟨⟨[],by simp,rfl,rfl,Nat.zero_le _⟩,?_⟩
 cases o with
 | none=>rw [h,e]
 | some x =>
  obtain ⟨b,f⟩:=x
  obtain ⟨⟨q,hq,rfl,rfl,hl⟩,rfl⟩:=h
  rw [← e]
  by_cases hf:f=[]
  ·subst hf; simp
  ·cases h1:mt (.row::p) (f.drop q.length) with
   | true=>simp
   | false =>
    rw [Bool.false_or,Bool.and_eq_false_iff]
    refine .inr ?_
    cases h2:mt (.row::(q++.row::p)) f.tail with
    | false=>rfl
    | true =>
     exfalso
     obtain ⟨k,hk,h2⟩:=(mt_row _ _).1 h2
     obtain ⟨j,hj,h3,h4⟩:=(mt_append q _ _).1 h2
     have hjq:=mt_free hq h3
     rw [List.length_take] at hjq
     rw [Nat.min_eq_left hj] at hjq
     subst hjq
     have:f.tail=f.drop 1:=by cases f<;>rfl
     rw [this,List.drop_drop,List.drop_drop] at h4
     have h5:mt (.row::p) ((f.drop q.length).drop (1+k))=true:=by
      rw [List.drop_drop,show q.length+(1+k)=1+(k+q.length) by omega]; exact h4
     rw [mt_row_drop h5] at h1
     cases h1
theorem Seek.step {x:El} {y:Bs} {p:List El} {s:List Bs} {o:Option (List El × List Bs)} {r:Bool} (h:Seek (x::p) (y::s) o r) (hx:x≠.row) (h1:one x y=true):Seek p s o r:=by
 cases o with
 | none =>
  have h:r=_:=h
  rw [mt_one_cons _ _ _ hx,h1,Bool.true_and] at h; exact h
 | some z =>
  obtain ⟨b,f⟩:=z
  obtain ⟨⟨q,hq,rfl,he,hl⟩,rfl⟩:=h
  have hlt:q.length<f.length:=by
   have:=congrArg List.length he
   rw [List.length_drop,List.length_cons] at this; omega
  refine ⟨⟨q++[x],fun z hz=>?_,by simp,?_,by simp; omega⟩,?_⟩
  ·rcases List.mem_append.1 hz with hz | hz
   ·exact hq z hz
   ·rw [List.mem_singleton.1 hz]; exact hx
  ·rw [List.length_append,← List.drop_drop,← he]; rfl
  ·rw [mt_one_cons _ _ _ hx,h1,Bool.true_and]
theorem Seek.back {p:List El} {s:List Bs} {b:List El} {f:List Bs} {r:Bool} (h:Seek p s (some (b,f)) r) (h0:mt p s=false) (hf:f≠[]):Seek b f.tail (some (b,f.tail)) r:=by
 refine ⟨⟨[],by simp,rfl,rfl,Nat.zero_le _⟩,?_⟩
 have:=h.2
 rw [h0,Bool.false_or,decide_eq_true hf,Bool.true_and] at this
 rw [this]
 cases f.tail with
 | nil=>rw [mt_row_nil]; simp
 | cons y s=>rw [mt_row_cons]; simp
theorem Seek.fail {p:List El} {s:List Bs} {o:Option (List El × List Bs)} {r:Bool} (h:Seek p s o r) (h0:mt p s=false) (hf:∀ b f,o=some (b,f)→f=[]):r=false:=by
 cases o with
 | none=>exact h.trans h0
 | some z =>
  obtain ⟨b,f⟩:=z
  rw [h.2,h0,hf b f rfl]; rfl
theorem mt_no {x:El} {p:List El} {s:List Bs} (hx:x≠.row) (h:∀ y t,s=y::t→one x y=false):mt (x::p) s=false:=by
 cases s with
 | nil=>exact mt_one_nil p hx
 | cons y s=>rw [mt_one_cons _ _ _ hx,h y s rfl]; rfl
theorem mt_none {y:Bs} {s:List Bs}:mt [] (y::s)=false:=by rw [mt_nil]; rfl
def now (p:List El) (s:List Bs):List Bool:=(List.range (s.length+1)).map fun k=>mt p (s.take k)
theorem mt_snoc_one {x:El} (hx:x≠.row) (p:List El) (s:List Bs):mt (p++[x]) s=true↔∃ t y,s=t++[y]∧mt p t=true∧one x y=true:=by
 rw [mt_append]
 constructor
 ·rintro ⟨k,hk,h1,h2⟩
  cases h:s.drop k with
  | nil=>rw [h,mt_one_nil _ hx] at h2; cases h2
  | cons y t =>
   rw [h,mt_one_cons _ _ _ hx,Bool.and_eq_true,mt_nil,decide_eq_true_eq] at h2
   obtain ⟨h2,rfl⟩:=h2
   exact ⟨s.take k,y,by rw [← h,List.take_append_drop],h1,h2⟩
 ·rintro ⟨t,y,rfl,h1,h2⟩
  refine ⟨t.length,by simp,by rw [List.take_left']; exact h1; rfl,?_⟩
  rw [List.drop_left' rfl,mt_one_cons _ _ _ hx,h2,mt_nil]; rfl
theorem mt_snoc_row (p:List El) (s:List Bs):mt (p++[.row]) s=true↔∃ k,k≤s.length∧mt p (s.take k)=true:=by
 rw [mt_append]
 constructor
 ·rintro ⟨k,hk,h1,_⟩; exact ⟨k,hk,h1⟩
 ·rintro ⟨k,hk,h1⟩
  refine ⟨k,hk,h1,(mt_row _ _).2 ⟨(s.drop k).length,Nat.le_refl _,?_⟩⟩
  rw [List.drop_of_length_le (Nat.le_refl _),mt_nil]; rfl
theorem now_zero (p:List El) (s:List Bs) (x:El):mt (p++[x]) (s.take 0)=(decide (x=.row) && mt p (s.take 0)):=by
 rw [List.take_zero,Bool.eq_iff_iff]
 by_cases hx:x=.row
 ·subst hx
  rw [mt_snoc_row]
  simp
 ·rw [mt_snoc_one hx]
  simp [hx]
theorem now_succ {p:List El} {s:List Bs} {x:El} {k:Nat} {y:Bs} (hy:s[k]?=some y):mt (p++[x]) (s.take (k+1))=if x=.row then (mt p (s.take (k+1)) || mt (p++[x]) (s.take k)) else (mt p (s.take k) && one x y):=by
 have hk:=(List.getElem?_eq_some_iff.1 hy).1
 rw [Bool.eq_iff_iff]
 split
 ·rename_i hx
  subst hx
  rw [Bool.or_eq_true,mt_snoc_row,mt_snoc_row]
  constructor
  ·rintro ⟨j,hj,h⟩
   rw [List.length_take] at hj
   rw [List.take_take] at h
   by_cases hjk:j=k+1
   ·subst hjk; exact .inl (by simpa using h)
   ·refine .inr ⟨j,by rw [List.length_take]; omega,?_⟩
    rw [List.take_take,Nat.min_eq_left (by omega)]
    rw [Nat.min_eq_left (by omega)] at h
    exact h
  ·rintro (h | ⟨j,hj,h⟩)
   ·exact ⟨k+1,by rw [List.length_take]; omega,by rw [List.take_take,Nat.min_self]; exact h⟩
   ·rw [List.length_take] at hj
    rw [List.take_take,Nat.min_eq_left (by omega)] at h
    exact ⟨j,by rw [List.length_take]; omega,by rw [List.take_take,Nat.min_eq_left (by omega)]; exact h⟩
 ·rename_i hx
  rw [mt_snoc_one hx,Bool.and_eq_true]
  have e:s.take (k+1)=s.take k++[y]:=by rw [List.take_add_one,hy]; rfl
  rw [e]
  constructor
  ·rintro ⟨t,z,h,h1,h2⟩
   have:=List.append_inj' h rfl
   obtain ⟨rfl,hz⟩:=this
   cases hz
   exact ⟨h1,h2⟩
  ·rintro ⟨h1,h2⟩; exact ⟨_,y,rfl,h1,h2⟩
end Go.Note
namespace Go.Note
open Go
set_option linter.unusedVariables false
inductive T where
 | mk (k:Int) (t:Bs) (v:M) (l:List T)
def T.k:T→Int | .mk k _ _ _=>k
def T.t:T→Bs | .mk _ t _ _=>t
def T.v:T→M | .mk _ _ v _=>v
def T.l:T→List T | .mk _ _ _ l=>l
theorem T.lt_of_mem {k:Int} {t:Bs} {v:M} {l:List T} {x:T} (h:x∈l):SizeOf.sizeOf x<SizeOf.sizeOf (T.mk k t v l):=by
 have:=List.sizeOf_lt_of_mem h
 simp only [T.mk.sizeOf_spec]; omega
theorem T.ind {P:T→Prop} (h:∀ k t v l,(∀ x∈l,P x)→P (.mk k t v l)):∀ m,P m
 | .mk k t v l=>h k t v l fun x hx=>T.ind h x
termination_by m=>SizeOf.sizeOf m
decreasing_by exact T.lt_of_mem hx
def zeroM:M:=.mk 0 0 [] 0 []
def zeroT:T:=.mk 0 [] zeroM []
mutual
def T.cnt:Nat→T→Nat
 | n,.mk _ _ _ l=>T.cntL (n+1) l
def T.cntL:Nat→List T→Nat
 | n,[]=>n
 | n,x::l=>if 256<n then n else T.cntL (T.cnt n x) l
end
mutual
def T.sz:T→Nat
 | .mk _ _ _ l=>1+T.szL l
def T.szL:List T→Nat
 | []=>0
 | x::l=>T.sz x+T.szL l
end
theorem T.szL_sum (l:List T):T.szL l=(l.map T.sz).sum:=by
 induction l with
 | nil=>rfl
 | cons x l ih=>simp [T.szL,ih]
def arity (k:Int) (n:Nat):Bool :=
 if k=1∨k=2 then decide (n=0)
 else if k=3∨k=14∨k=15∨k=20 then decide (n=1)
 else if k=4∨k=5∨k=13 then decide (2≤n)
 else if k=12 then decide (n=3)
 else decide (6≤k) && decide (k≤19) && decide (n=2)
def nameB (s:Bs):Bool:=decide (s≠[]) && decide (s.length≤64) && textB s
def escB1 (s:Bs):Bool:=decide (s≠[]) && decide (chr s=s.length) && decide (s≠[37]) && decide (s≠[95])
def loneL (e:Bs):List Bs→Bool
 | []=>false
 | [x]=>decide (x=e)
 | x::y::l=>if x=e then loneL e l else loneL e (y::l)
def loneB (p e:Bs):Bool:=loneL e (sg p)
def finB (n:Nat):Bool:=decide (n / 2^52%2048≠2047)
def litB (v:M) (listed:Bool):Bool :=
 decide (M.check 1 v=0) &&
 (if v.k=1∨v.k=19 then true
 else if v.k=9 then listed || decide (v.n<2^63)
 else if v.k=11 then finB v.n && (listed || decide (v.n<2^63))
 else false)
def T.alone (x:T) (listed:Bool):Nat :=
 if arity x.k x.l.length=false then 160
 else if (x.t≠[]∧x.k≠2∧x.k≠14)∨(x.v≠zeroM∧x.k≠1∧x.k≠14) then 160
 else if (x.k=1∧litB x.v listed=false)∨(x.k=2∧nameB x.t=false) then 161
 else if x.k=14∧textB x.t=false then 161
 else if x.k=14∧x.v≠zeroM∧(x.v.k≠19∨M.check 1 x.v≠0∨escB1 x.v.t=false∨loneB x.t x.v.t=true) then 161
 else if x.k=13∧x.l.tail.any (fun y=>decide (y.k≠1)) then 160
 else 0
mutual
def T.chk:Bool→T→Nat
 | b,.mk k t v l=>if T.alone (.mk k t v l) b≠0 then T.alone (.mk k t v l) b else T.chkL (decide (k=13)) true l
def T.chkL:Bool→Bool→List T→Nat
 | _,_,[]=>0
 | i,f,x::l=>if T.chk (i && !f) x≠0 then T.chk (i && !f) x else T.chkL i false l
end
def T.check (x:T):Nat:=if 256<x.cnt 0 then 162 else x.chk false
end Go.Note
namespace Go.Note
open Go
set_option linter.unusedVariables false
def runB (n:Int):Bs:=(Utf8.encode n).data.toList
inductive W where
 | unk | tru (b:Bool) | int (n:Int) | real (x:Nat) | txt (s:Bs) | odd
 deriving DecidableEq
def fin64 (x:Nat):Bool:=decide (x / 2^52%2048≠2047)
def finW (x:Nat) (o:W):W:=if fin64 x then .real x else o
def toI (n:Nat):Int:=if n<2^63 then (n:Int) else (n:Int)-2^64
def flI (n:Int):Nat:=FloatKind.f64.nearest n
def fl32 (n:Nat):Nat:=Ieee.double.write (Ieee.single.read n)
def ofW (v:M):W :=
 if v=zeroM then .unk
 else if M.check 1 v≠0 then .odd
 else if v.k=1 then .tru (decide (v.n=1))
 else if v.k=2∨v.k=3∨v.k=4∨v.k=6∨v.k=7∨v.k=8∨v.k=9∨v.k=16 then .int (toI v.n)
 else if v.k=5 then (if 2^63≤v.n then .real (flI v.n) else .int v.n)
 else if v.k=10 then (if v.n / 2^23%256=255 then .odd else .real (fl32 v.n))
 else if v.k=11 then finW v.n .odd
 else if v.k=18∨v.k=19∨v.k=20 then .txt v.t
 else if v.k=15 then .txt (runB v.n)
 else .odd
def notW:W→W
 | .tru b=>.tru (!b)
 | _=>.unk
def allW (l:List W) (d:Bool):W:=if .tru d∈l then .tru d else if l.all fun w=>decide (w=.tru !d) then .tru !d else .unk
def sgnI (a b:Int):Int:=if a<b then -1 else if b<a then 1 else 0
def valF (x:Nat):Int:=match DB.read x with
 | .number s m e=>sc s m e
 | _=>0
def mixF (a:Int) (x:Nat):Int:=sgnI (a*(V74:Int)) (valF x)
def ordW:W→W→Option Int
 | .int a,.int b=>some (sgnI a b)
 | .int a,.real x=>some (mixF a x)
 | .real x,.int b=>some (-mixF b x)
 | .real x,.real y=>some (sgnI (valF x) (valF y))
 | .txt a,.txt b=>some (Lib.compareBytes a b)
 | _,_=>none
def cmpK (k:Int) (n:Int):Bool :=
 if k=6 then decide (n=0) else if k=7 then decide (n≠0) else if k=8 then decide (n<0) else if k=9 then decide (n≤0) else if k=10 then decide (0<n) else decide (0≤n)
def cmpW (k:Int) (a b:W):W :=
 match a,b with
 | .tru x,.tru y=>if k=6∨k=7 then .tru (decide (x=y) == decide (k=6)) else .unk
 | a,b=>match ordW a b with
  | some n=>.tru (cmpK k n)
  | none=>.unk
def in64 (n:Int):Bool:=decide (-9223372036854775808≤n) && decide (n≤9223372036854775807)
def exactW (k:Int) (a b:Int):Option Int :=
 if k=16 then (if in64 (a+b) then some (a+b) else none)
 else if k=17 then (if in64 (a-b) then some (a-b) else none)
 else if k=18 then (if in64 (a*b) then some (a*b) else none)
 else if b=0 then none else if in64 (a.tdiv b) && decide (a.tmod b=0) then some (a.tdiv b) else none
def flW:W→Option Nat
 | .int n=>some (flI n)
 | .real x=>some x
 | _=>none
def fop (k:Int) (x y:Nat):Option Nat:=if k=16 then DB.add x y else if k=17 then DB.sub x y else if k=18 then DB.mul x y else DB.div x y
def reckW (k:Int) (a b:W):W :=
 match flW a,flW b with
 | some x,some y =>
  if k=19∧DB.order y 0=some .eq then .unk
  else match (match a,b with
   | .int n,.int m=>exactW k n m
   | _,_=>none) with
   | some n=>.int n
   | none=>match fop k x y with
    | some z=>finW z .unk
    | none=>.unk
 | _,_=>.unk
def negF (x:Nat):Nat:=Op.negFloat .f64 x
def fitW (w:W) (p e:Bs):W :=
 match w with
 | .txt s=>.tru (mt (els e (sg p)) (sg s))
 | _=>.unk
def kidsW (k:Int) (t:Bs) (v:M) (l:List W):W :=
 let a:=l.getD 0 .unk
 let b:=l.getD 1 .unk
 if k=3 then notW a
 else if k=4 then allW l false
 else if k=5 then allW l true
 else if k=12 then allW [cmpW 11 a b,cmpW 9 a (l.getD 2 .unk)] false
 else if k=13 then allW (l.tail.map (cmpW 6 a)) true
 else if k=14 then fitW a t v.t
 else if k=15 then .tru (decide (a=.unk))
 else if k=20 then (match a with
  | .real x=>.real (negF x)
  | _=>reckW 17 (.int 0) a)
 else if k=16∨k=17∨k=18∨k=19 then reckW k a b
 else cmpW k a b
mutual
def T.says (look:Bs→M):T→W
 | .mk k t v l=>if k=1 then ofW v else if k=2 then ofW (look t) else kidsW k t v (T.saysL look l)
def T.saysL (look:Bs→M):List T→List W
 | []=>[]
 | x::l=>T.says look x::T.saysL look l
end
theorem T.saysL_map (look:Bs→M) (l:List T):T.saysL look l=l.map (T.says look):=by
 induction l with
 | nil=>rfl
 | cons x l ih=>simp [T.saysL,ih]
def W.value:W→M
 | .unk=>zeroM
 | .tru b=>.mk 1 (if b then 1 else 0) [] 0 []
 | .int n=>.mk 9 (if n<0 then (n+2^64).toNat else n.toNat) [] 0 []
 | .real x=>.mk 11 x [] 0 []
 | .txt s=>.mk (if textB s then 19 else 18) 0 s 0 []
 | .odd=>zeroM
def evalB (look:Bs→M) (x:T):M:=if x.check=0 then (x.says look).value else zeroM
def fitsB (look:Bs→M) (x:T):Bool:=decide (x.check=0) && decide (x.says look=.tru true)
end Go.Note
namespace Go.Proofs.YtnmlmicmhpkbeaaGreatDoor
open Go Go.Sv Go.Note
set_option linter.unusedVariables false
attribute [local irreducible] Sif
theorem sl3 (l:Bs):(ByteArray.mk l.toArray).data.toList=l:=by simp
theorem sz3 (l:Bs):(ByteArray.mk l.toArray).size=l.length:=size_of (sl3 l)
theorem ext_take (l:Bs) (n:Nat):(ByteArray.mk l.toArray).extract 0 n=⟨(l.take n).toArray⟩:=data_ext (by rw [extract_data]; simp)
theorem ext_drop (l:Bs) (n:Nat):(ByteArray.mk l.toArray).extract n (ByteArray.mk l.toArray).size=⟨(l.drop n).toArray⟩:=data_ext (by rw [extract_data,sz3]; simp only []; rw [List.take_of_length_le (by rw [List.length_drop]; simp)])
theorem seq3 (l m:Bs):((ByteArray.mk l.toArray).toList == (ByteArray.mk m.toArray).toList)=decide (l=m):=bs_eq l m
theorem dec_wide {l:Bs} (hl:l.length≤2^48):∃ r n,Lib.decodeGo (ByteArray.mk l.toArray)=(r,n)∧n=(if l=[] then 0 else wide l)∧(l≠[]→(chr l=0∧r=65533∧n=1)∨(Says l r n∧n≠0)):=by
 by_cases h0:l=[]
 ·subst h0; exact ⟨_,_,rfl,rfl,fun h=>absurd rfl h⟩
 ·have hne:(ByteArray.mk l.toArray).size≠0:=by rw [sz3]; exact fun h=>h0 (List.eq_nil_of_length_eq_zero h)
  unfold Lib.decodeGo
  rw [if_neg (by omega),if_neg h0]
  rcases decode_says (s:=ByteArray.mk l.toArray) (i:=0) (by omega) with ⟨h1,h2⟩ | ⟨r,n,h1,h2,h3⟩
  ·rw [List.drop_zero,sl3] at h1
   exact ⟨_,_,h2,by unfold wide; rw [h1]; rfl,fun _=>.inl ⟨h1,rfl,rfl⟩⟩
  ·rw [List.drop_zero,sl3] at h2
   exact ⟨_,_,h1,by unfold wide; have:=h2.1; omega,fun _=>.inr ⟨h2,h3⟩⟩
theorem cut_ok {l:Bs} (hl:l.length≤2^48) {w:World} (hL:LW w) {K:Value→World→Prop} (hk:∀ w',Ch (fun _=>False) w w'→K (.tuple #[.string ⟨(l.take (wide l)).toArray⟩,.string ⟨(l.drop (wide l)).toArray⟩]) w') :
 callP Tryz.prog 103 [.string ⟨l.toArray⟩] w K:=by
 apply ok_sieve_cut
 refine (Tryz.utf8_DecodeRuneInString _ w hL.ut).mono ?_
 rintro e w1 ⟨rfl,hbel⟩
 have c1:=ch_of_below hbel
 obtain ⟨r,n,hd,hn,_⟩:=dec_wide hl
 rw [hd]
 have hle:n≤l.length:=by
  rw [hn]; split
  ·omega
  ·rename_i h; exact (wide_le l h).1
 refine ⟨_,rfl,_,_,rfl,?_⟩
 rw [sz3]
 refine ⟨by omega,by omega,by omega,by omega,?_⟩
 have hk:=hk _ (c1.trans' (Ch.drew _))
 rw [← sz3 l,Int.toNat_natCast,ext_take,ext_drop]
 have e:l.take n=l.take (wide l)∧l.drop n=l.drop (wide l):=by
  rw [hn]; split
  ·rename_i h; subst h; exact ⟨by simp,by simp⟩
  ·exact ⟨rfl,rfl⟩
 rw [e.1,e.2]
 exact hk
def headB (p e:Bs):Bs × Bs × Bool :=
 let x:=p.take (wide p)
 let r:=p.drop (wide p)
 if e≠[]∧x=e then (if r≠[] then (r.take (wide r),r.drop (wide r),true) else (x,r,true)) else (x,r,decide (x≠[37]) && decide (x≠[95]))
theorem head_ok {p e:Bs} (hp:p.length≤2^48) {w:World} (hL:LW w) {K:Value→World→Prop} (hk:∀ w',Ch (fun _=>False) w w'→K (.tuple #[.string ⟨(headB p e).1.toArray⟩,.string ⟨(headB p e).2.1.toArray⟩,.bool (headB p e).2.2]) w') :
 callP Tryz.prog 102 [.string ⟨p.toArray⟩,.string ⟨e.toArray⟩] w K:=by
 apply ok_sieve_head
 refine cut_ok hp hL fun w1 c1=>⟨_,_,rfl,?_⟩
 have e0:(ByteArray.mk (Array.mk []))=ByteArray.mk ([]:Bs).toArray:=rfl
 have e37:(ByteArray.mk (Array.mk [37]))=ByteArray.mk ([37]:Bs).toArray:=rfl
 have e95:(ByteArray.mk (Array.mk [95]))=ByteArray.mk ([95]:Bs).toArray:=rfl
 rw [e0,e37,e95]
 refine ⟨fun x x1 w2=>x=⟨(p.take (wide p)).toArray⟩∧x1=⟨(p.drop (wide p)).toArray⟩∧w2=w1∧¬ (e≠[]∧p.take (wide p)=e),?_,?_⟩
 ·rintro x x1 w2 ⟨rfl,rfl,rfl,hne⟩
  have hk:=hk w2 c1
  unfold headB at hk
  simp only at hk
  rw [if_neg hne] at hk
  simp only [seq3]
  refine Sif_cases (fun h=>?_) (fun h=>?_)
  ·have h1:p.take (wide p)≠[37]:=by simpa using h
   simp only [decide_not,h1,not_false_eq_true,decide_true,Bool.true_and,ne_eq] at hk
   exact hk
  ·have h1:p.take (wide p)=[37]:=by simpa using h
   simp only [h1,ne_eq,not_true_eq_false,decide_false,Bool.false_and] at hk
   rw [h1]
   exact hk
 ·simp only [seq3]
  refine Sif_cases (fun h=>?_) (fun h=>?_)
  ·have h1:e≠[]:=by simpa using h
   refine Sif_cases (fun h2=>?_) (fun h2=>?_)
   ·have h2:=of_decide_eq_true h2
    refine ⟨fun x x1 w2=>∀ w',w'=w2→K (.tuple #[.string x,.string x1,.bool true]) w',fun x x1 w2 h=>h _ rfl,?_⟩
    unfold headB at hk
    simp only at hk
    rw [if_pos ⟨h1,h2⟩] at hk
    refine Sif_cases (fun h3=>?_) (fun h3=>?_)
    ·have h3:p.drop (wide p)≠[]:=by simpa using h3
     rw [if_pos h3] at hk
     refine cut_ok (by rw [List.length_drop]; omega) (hL.ch c1 fun _ _ h=>h) fun w2 c2=>⟨_,_,rfl,?_⟩
     rintro _ rfl
     exact hk _ (c1.trans' c2)
    ·have h3:p.drop (wide p)=[]:=by simpa using h3
     rw [if_neg (by simp [h3])] at hk
     rintro _ rfl
     exact hk _ c1
   ·exact ⟨by trivial,by trivial,by trivial,fun q=>(of_decide_eq_false h2) q.2⟩
  ·exact ⟨by trivial,by trivial,by trivial,fun q=>by simp [q.1] at h⟩
theorem els_ne' {e x:Bs} {l:List Bs} (h:¬ (e≠[]∧x=e)):els e (x::l)=elOf x::els e l:=by
 cases l with
 | nil=>simp only [els,if_neg h]
 | cons y l=>rw [els,if_neg h]
theorem head_els {p e:Bs} (hp:p≠[]):els e (sg p)=(if (headB p e).2.2 then El.sgn (headB p e).1 else elOf (headB p e).1)::els e (sg (headB p e).2.1)∧(headB p e).2.1.length<p.length∧((headB p e).2.2=false→elOf (headB p e).1≠.sgn (headB p e).1):=by
 have hw:=wide_pos p
 have hl:0<p.length:=List.length_pos_iff.2 hp
 have hlt:(p.drop (wide p)).length<p.length:=by rw [List.length_drop]; omega
 rw [sg_cons p hp]
 have hb:headB p e=if e≠[]∧p.take (wide p)=e then (if p.drop (wide p)≠[] then ((p.drop (wide p)).take (wide (p.drop (wide p))),(p.drop (wide p)).drop (wide (p.drop (wide p))),true) else (p.take (wide p),p.drop (wide p),true)) else (p.take (wide p),p.drop (wide p),decide (p.take (wide p)≠[37]) && decide (p.take (wide p)≠[95])):=rfl
 rw [hb]
 generalize p.take (wide p)=x
 generalize p.drop (wide p)=r at hlt ⊢
 by_cases he:e≠[]∧x=e
 ·rw [if_pos he]
  by_cases hr:r=[]
  ·subst hr
   simp only [ne_eq,not_true_eq_false,if_false]
   refine ⟨?_,hlt,fun h=>by cases h⟩
   simp only [sg_nil,els,if_pos he,if_true]
  ·simp only [ne_eq,hr,not_false_eq_true,if_true]
   refine ⟨?_,?_,fun h=>by cases h⟩
   ·rw [sg_cons _ hr,els,if_pos he]
   ·have:=wide_pos r
    simp only [List.length_drop]
    omega
 ·rw [if_neg he]
  refine ⟨?_,hlt,fun h=>?_⟩
  ·rw [els_ne' he]
   congr 1
   by_cases h1:x=[37]
   ·simp [h1]
   ·by_cases h2:x=[95]
    ·simp [h2]
    ·simp [h1,h2,elOf]
  ·unfold elOf
   by_cases h1:x=[37]
   ·simp [h1]
   ·by_cases h2:x=[95]
    ·simp [h2]
    ·simp [h1,h2] at h
theorem elOf_row (x:Bs):elOf x=.row↔x=[37]:=by
 unfold elOf
 split
 ·simp [*]
 ·split<;>simp [*]
def optS (b:Bool) (back from_:Bs) (e:Bs):Option (List El × List Bs):=if b then some (els e (sg back),sg from_) else none
theorem like_ok {s p e:Bs} (hs:s.length≤2^40) (hp:p.length≤2^40) {w:World} (hL:LW w) {K:Value→World→Prop} (hk:∀ w',Ch (fun _=>False) w w'→K (.bool (mt (els e (sg p)) (sg s))) w') :
 callP Tryz.prog 53 [.string ⟨s.toArray⟩,.string ⟨p.toArray⟩,.string ⟨e.toArray⟩] w K:=by
 apply ok_sieve_like
 have e0:(ByteArray.mk (Array.mk []))=ByteArray.mk ([]:Bs).toArray:=rfl
 have e37:(ByteArray.mk (Array.mk [37]))=ByteArray.mk ([37]:Bs).toArray:=rfl
 rw [e0,e37]
 obtain ⟨r,hr⟩:∃ r,r=mt (els e (sg p)) (sg s):=⟨_,rfl⟩
 rw [← hr] at hk
 refine ⟨fun m x x1 x2 x3 b w1=>∃ (s' p' bk fr:Bs),x=⟨s'.toArray⟩∧x1=⟨p'.toArray⟩∧x2=⟨bk.toArray⟩∧x3=⟨fr.toArray⟩∧Ch (fun _=>False) w w1∧s'.length≤2^40∧p'.length≤p.length∧bk.length≤p.length∧fr.length≤2^40∧(b=true→s'.length≤fr.length)∧(b=false→s'.length≤s.length) ∧
  Seek (els e (sg p')) (sg s') (optS b bk fr e) r∧m=(if b then fr.length else s.length+1)*(p.length+1)+p'.length,⟨_,s,p,[],[],rfl,rfl,rfl,rfl,Ch.refl _ _,hs,Nat.le_refl _,Nat.zero_le _,Nat.zero_le _,fun h=>(by cases h),fun _=>Nat.le_refl _,hr▸Seek.start _ _,rfl⟩,?_⟩
 rintro m x x1 x2 x3 b w1 ⟨s',p',bk,fr,rfl,rfl,rfl,rfl,c1,hs',hp',hbk,hfr,hsf,hsn,hS,rfl⟩
 simp only [seq3]
 have hf0:∀ {x y:Nat},x≤y→x*(p.length+1)≤y*(p.length+1):=fun h=>Nat.mul_le_mul_right _ h
 -- what has been begun goes on
 have hms:s'.length≤(if b then fr.length else s.length+1):=by
  cases b
  ·have:=hsn rfl; simp; omega
  ·exact hsf rfl
 refine ⟨fun w2=>Ch (fun _=>False) w w2∧¬ (s'=[]∧p'=[]),?_,?_⟩
 ·rintro w2 ⟨c2,hne⟩
  have hL2:=hL.ch c2 fun _ _ h=>h
  refine ⟨fun x4 x5 b1 w3=>x4=⟨bk.toArray⟩∧x5=⟨fr.toArray⟩∧b1=b∧Ch (fun _=>False) w w3∧mt (els e (sg p')) (sg s')=false,?_,?_⟩
  ·-- it does not fit
   rintro x4 x5 b1 w3 ⟨rfl,rfl,rfl,c3,h0⟩
   simp only [seq3]
   have fail:b1=false∨fr=[]→K (.bool false) w3:=fun h=>by
    have:r=false:=Seek.fail hS h0 fun b' f' hb'=>by
     unfold optS at hb'
     rcases h with h | h
     ·rw [h] at hb'; cases hb'
     ·subst h
      split at hb'
      ·cases hb'; exact sg_nil
      ·cases hb'
    rw [this] at hk
    exact hk w3 c3
   refine ⟨fun w4=>w4=w3∧b1=true∧fr≠[],?_,?_⟩
   ·rintro w4 ⟨rfl,rfl,hfn⟩
    refine cut_ok (by omega) (hL.ch c3 fun _ _ h=>h) fun w5 c5=>⟨_,_,rfl,?_⟩
    have hw:=wide_pos fr
    have hl:0<fr.length:=List.length_pos_iff.2 hfn
    have hdl:(fr.drop (wide fr)).length=fr.length-wide fr:=List.length_drop ..
    have hS2:Seek (els e (sg bk)) (sg (fr.drop (wide fr))) (optS true bk (fr.drop (wide fr)) e) r:=by
     have:=Seek.back (b:=els e (sg bk)) (f:=sg fr) hS h0 (fun h=>hfn ((sg_eq_nil fr).1 h))
     rw [sg_cons fr hfn] at this
     exact this
    refine ⟨(fr.drop (wide fr)).length*(p.length+1)+bk.length,?_,fr.drop (wide fr),bk,bk,fr.drop (wide fr),rfl,rfl,rfl,rfl,c3.trans' c5,by omega,hbk,hbk,by omega,fun _=>Nat.le_refl _,fun h=>(by cases h),hS2,rfl⟩
    simp only [if_true]
    have h1:(fr.drop (wide fr)).length+1≤fr.length:=by omega
    have:=hf0 h1
    rw [Nat.add_mul,Nat.one_mul] at this
    omega
   ·refine Sif_cases (fun h=>?_) (fun h=>?_)
    ·have hb:b1=true:=by simpa using h
     refine Sif_cases (fun h=>?_) (fun h=>?_)
     ·exact fail (.inr (of_decide_eq_true h))
     ·exact ⟨rfl,hb,of_decide_eq_false h⟩
    ·exact fail (.inl (by simpa using h))
  ·refine Sif_cases (fun h=>?_) (fun h=>?_)
   ·have hpn:p'≠[]:=by simpa using h
    refine head_ok (by omega) hL2 fun w3 c3=>⟨_,_,_,rfl,?_⟩
    have c03:=c2.trans' c3
    obtain ⟨he,hlt,hel⟩:=head_els (e:=e) hpn
    generalize headB p' e=z at he hlt hel ⊢
    obtain ⟨s1,s2,b1⟩:=z
    simp only at he hlt hel ⊢
    rw [he] at hS ⊢
    simp only [seq3]
    have hrow:∀ {x:El},x=(if b1 then El.sgn s1 else elOf s1)→(b1=false→s1≠[37])→x≠.row:=fun hx h1 h2=>by
     rw [hx] at h2
     split at h2
     ·cases h2
     ·rename_i hb
      exact h1 (by simpa using hb) ((elOf_row s1).1 h2)
    refine ⟨fun x4 x5 b2 w4=>x4=⟨bk.toArray⟩∧x5=⟨fr.toArray⟩∧b2=b∧w4=w3∧(b1=false→s1≠[37]),?_,?_⟩
    ·rintro x4 x5 b2 w4 ⟨rfl,rfl,rfl,rfl,h37⟩
     have hnr:=hrow rfl h37
     refine Sif_cases (fun h=>?_) (fun h=>?_)
     ·have hsn':s'≠[]:=by simpa using h
      refine cut_ok (by omega) (hL.ch c03 fun _ _ h=>h) fun w5 c5=>⟨_,_,rfl,?_⟩
      have hdl:(s'.drop (wide s')).length=s'.length-wide s':=List.length_drop ..
      simp only [seq3]
      rw [sg_cons s' hsn'] at hS ⊢
      have next:Note.one (if b1 then El.sgn s1 else elOf s1) (s'.take (wide s'))=true→∃ m':Nat,m'<(if b2=true then fr.length else s.length+1)*(p.length+1)+p'.length∧∃ (s'_1 p'_1 bk_1 fr_1:Bs),(⟨(s'.drop (wide s')).toArray⟩:ByteArray)=⟨s'_1.toArray⟩∧(⟨s2.toArray⟩:ByteArray)=⟨p'_1.toArray⟩∧(⟨bk.toArray⟩:ByteArray)=⟨bk_1.toArray⟩∧(⟨fr.toArray⟩:ByteArray)=⟨fr_1.toArray⟩∧Ch (fun _=>False) w w5∧s'_1.length≤2^40∧p'_1.length≤p.length∧bk_1.length≤p.length∧fr_1.length≤2^40∧(b2=true→s'_1.length≤fr_1.length)∧(b2=false→s'_1.length≤s.length) ∧
       Seek (els e (sg p'_1)) (sg s'_1) (optS b2 bk_1 fr_1 e) r∧m'=(if b2=true then fr_1.length else s.length+1)*(p.length+1)+p'_1.length:=fun h1 =>
       ⟨_,by omega,s'.drop (wide s'),s2,bk,fr,rfl,rfl,rfl,rfl,c03.trans' c5,by omega,by omega,hbk,hfr,fun h=>by have:=hsf h; omega,fun h=>by have:=hsn h; omega,hS.step hnr h1,rfl⟩
      refine Sif_cases (fun h=>?_) (fun h=>?_)
      ·have hb1:b1=true:=by simpa using h
       refine Sif_cases (fun h=>?_) (fun h=>?_)
       ·exact next (by rw [hb1,if_pos rfl]; unfold Note.one; exact h)
       ·refine ⟨by trivial,by trivial,by trivial,c03.trans' c5,mt_no hnr fun y t hy=>?_⟩
        cases hy
        rw [hb1,if_pos rfl]; unfold Note.one; exact h
      ·have hb1:b1=false:=by simpa using h
       have hany:elOf s1=.any:=by
        have h1:=hel hb1
        have h2:=h37 hb1
        unfold elOf at h1 ⊢
        rw [if_neg h2] at h1 ⊢
        split
        ·rfl
        ·rename_i h3; rw [if_neg h3] at h1; exact absurd rfl h1
       exact next (by rw [hb1,if_neg (by simp),hany]; rfl)
     ·have hs0:s'=[]:=by simpa using h
      exact ⟨by trivial,by trivial,by trivial,c03,mt_no hnr fun y t hy=>by rw [hs0,sg_nil] at hy; cases hy⟩
    ·refine Sif_cases (fun h=>?_) (fun h=>?_)
     ·have hb1:b1=false:=by simpa using h
      refine Sif_cases (fun h=>?_) (fun h=>?_)
      ·have h37:s1=[37]:=of_decide_eq_true h
       rw [hb1,if_neg (by simp),(elOf_row s1).2 h37] at hS
       refine ⟨s'.length*(p.length+1)+s2.length,?_,s',s2,s2,s',rfl,rfl,rfl,rfl,c03,hs',by omega,by omega,hs',fun _=>Nat.le_refl _,fun h=>(by cases h),hS.row,rfl⟩
       have:=hf0 hms
       omega
      ·exact ⟨by trivial,by trivial,by trivial,by trivial,fun _=>of_decide_eq_false h⟩
     ·have hb1:b1=true:=by simpa using h
      exact ⟨by trivial,by trivial,by trivial,by trivial,fun h=>by rw [hb1] at h; cases h⟩
   ·have hp0:p'=[]:=by simpa using h
    have hsn':s'≠[]:=fun h=>hne ⟨h,hp0⟩
    refine ⟨by trivial,by trivial,by trivial,c2,?_⟩
    rw [hp0,sg_nil,sg_cons s' hsn']
    exact mt_none
 ·refine Sif_cases (fun h=>?_) (fun h=>?_)
  ·have hs0:s'=[]:=by simpa using h
   refine Sif_cases (fun h=>?_) (fun h=>?_)
   ·exact ⟨c1,fun q=>by simp [q.2] at h⟩
   ·have hp0:p'=[]:=by simpa using h
    rw [hs0,hp0] at hS
    have:r=true:=Seek.done hS
    rw [this] at hk
    exact hk w1 c1
  ·exact ⟨c1,fun q=>by simp [q.1] at h⟩
def escOf (n:Int):Bs:=if 0≤n∧n≤1114111∧Lib.validRune n=true then runB n else []
theorem runB_str (n:Int):(⟨(runB n).toArray⟩:ByteArray)=Utf8.encode n:=by
 apply data_ext; simp [runB]
theorem Like_ok {s p:Bs} {n:Int} (hs:s.length≤2^40) (hp:p.length≤2^40) {w:World} (hL:LW w) {K:Value→World→Prop} (hk:∀ w',Ch (fun _=>False) w w'→K (.bool (mt (els (escOf n) (sg p)) (sg s))) w') :
 callP Tryz.prog 23 [.string ⟨s.toArray⟩,.string ⟨p.toArray⟩,.int .i64 n] w K:=by
 apply ok_sieve_Like
 have e0:(ByteArray.mk (Array.mk []))=ByteArray.mk ([]:Bs).toArray:=rfl
 refine ⟨fun x w1=>x=⟨(escOf n).toArray⟩∧w1=w,?_,?_⟩
 ·rintro x w1 ⟨rfl,rfl⟩
  exact like_ok hs hp hL fun w2 c2=>⟨_,rfl,hk w2 c2⟩
 ·have no:¬ (0≤n∧n≤1114111∧Lib.validRune n=true)→((ByteArray.mk (Array.mk []))=(⟨(escOf n).toArray⟩:ByteArray)∧w=w):=fun h=>by
   unfold escOf; rw [if_neg h]; exact ⟨rfl,rfl⟩
  refine Sif_cases (fun h1=>?_) (fun h1=>no fun q=>by have:=of_decide_eq_false h1; omega)
  have h1:=of_decide_eq_true h1
  refine Sif_cases (fun h2=>?_) (fun h2=>no fun q=>by have:=of_decide_eq_false h2; omega)
  have h2:=of_decide_eq_true h2
  have hw:IntKind.wrap .i32 n=n:=by
   unfold IntKind.wrap
   simp [IntKind.bits,IntKind.signed]; omega
  rw [hw]
  refine (Tryz.utf8_ValidRune n w).mono ?_
  rintro e w1 ⟨rfl,rfl⟩
  refine ⟨_,rfl,_,rfl,?_⟩
  refine Sif_cases (fun h3=>?_) (fun h3=>no fun q=>by rw [q.2.2] at h3; cases h3)
  refine ⟨?_,by trivial⟩
  unfold escOf
  rw [if_pos ⟨h1,h2,h3⟩,runB_str]
end Go.Proofs.YtnmlmicmhpkbeaaGreatDoor
