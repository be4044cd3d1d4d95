/-
  How the program writes a filter: levels, signs, texts between quotes, literals; what is put behind what was written. How the program writes a filter: the walk over terms. What a filter says of a message: the program's says. What a filter says of a message: Eval, Fits. How the program writes a filter: terms, Print. How the program writes a filter: Print. The program's reading of filters: unary. The program's reading of filters: chain. The program's reading of filters: comparison; the grammar. The program's reading of filters: Parse.
-/
import Derived.Test.YtnmlmicmhpkbeaaGreatDoorPz20
import Derived.Lib.ItoaMem
set_option linter.unusedVariables false
set_option linter.unusedSimpArgs false
namespace Go.Proofs.YtnmlmicmhpkbeaaGreatDoor
open Go Go.Sv Go.RowKit Go.Note
set_option linter.unusedVariables false
attribute [local irreducible] Sif
theorem app3 (a b:Bs):(ByteArray.mk a.toArray)++(ByteArray.mk b.toArray)=⟨(a++b).toArray⟩:=data_ext (by simp)
theorem level_ok {x:TV} {w:World} {K:Value→World→Prop} (hk:∀ w',Ch (fun _=>False) w w'→K (.int .i64 (lev x.k)) w'):callP Tryz.prog 79 [x.v] w K:=by
 rw [← tvv]
 apply ok_sieve_level
 refine newB_blk fun w1 b1 c1 z1=>?_
 have b1:blk w1 w.heap.size=some x.g:=b1.trans (by cases x; rfl)
 refine ⟨_,TV.c0 b1,?_⟩
 have hk:=hk w1 c1
 unfold lev at hk
 simp only [intEq]
 generalize x.k=k at hk ⊢
 refine Sif_cases (fun h=>by rw [if_pos (of_decide_eq_true h)] at hk; exact hk) fun h=>?_
 rw [if_neg (of_decide_eq_false h)] at hk
 refine Sif_cases (fun h=>by rw [if_pos (of_decide_eq_true h)] at hk; exact hk) fun h=>?_
 rw [if_neg (of_decide_eq_false h)] at hk
 refine Sif_cases (fun h=>by rw [if_pos (of_decide_eq_true h)] at hk; exact hk) fun h=>?_
 rw [if_neg (of_decide_eq_false h)] at hk
 refine ⟨fun b w2=>w2=w1∧b=decide (k=16∨k=17),?_,Sif_cases (fun e=>⟨rfl,by rw [e]; exact (decide_eq_true (.inl (of_decide_eq_true e))).symm⟩) (fun e=>⟨rfl,decide_eq_decide.2 (by have:=of_decide_eq_false e; omega)⟩)⟩
 rintro b w2 ⟨rfl,rfl⟩
 refine Sif_cases (fun h=>by rw [if_pos (of_decide_eq_true h)] at hk; exact hk) fun h=>?_
 rw [if_neg (of_decide_eq_false h)] at hk
 refine ⟨fun b w3=>w3=w2∧b=decide (k=18∨k=19),?_,Sif_cases (fun e=>⟨rfl,by rw [e]; exact (decide_eq_true (.inl (of_decide_eq_true e))).symm⟩) (fun e=>⟨rfl,decide_eq_decide.2 (by have:=of_decide_eq_false e; omega)⟩)⟩
 rintro b w3 ⟨rfl,rfl⟩
 refine Sif_cases (fun h=>by rw [if_pos (of_decide_eq_true h)] at hk; exact hk) fun h=>?_
 rw [if_neg (of_decide_eq_false h)] at hk
 refine Sif_cases (fun h=>by rw [if_pos (of_decide_eq_true h)] at hk; exact hk) fun h=>?_
 rw [if_neg (of_decide_eq_false h)] at hk
 refine ⟨fun b w4=>w4=w3∧b=decide (k=1∨k=2),?_,Sif_cases (fun e=>⟨rfl,by rw [e]; exact (decide_eq_true (.inl (of_decide_eq_true e))).symm⟩) (fun e=>⟨rfl,decide_eq_decide.2 (by have:=of_decide_eq_false e; omega)⟩)⟩
 rintro b w4 ⟨rfl,rfl⟩
 refine Sif_cases (fun h=>by rw [if_pos (of_decide_eq_true h)] at hk; exact hk) fun h=>?_
 rw [if_neg (of_decide_eq_false h)] at hk
 exact hk
def hasSign (k:Int):Prop:=k=6∨k=7∨k=8∨k=9∨k=10∨k=11∨k=16∨k=17∨k=18∨k=19
theorem signs_ok {k:Int} (hs:hasSign k) {w:World} {K:Value→World→Prop} (hk:∀ w',Ch (fun _=>False) w w'→K (.string ⟨(sgnS k).toArray⟩) w'):callP Tryz.prog 80 [.int .i64 k] w K:=by
 apply ok_sieve_signs
 refine newB_blk fun w1 b1 c1 z1=>?_
 have hk:=hk w1 c1
 have e:∀ s:Bs,ByteArray.mk (Array.mk [32])++ByteArray.mk s.toArray++ByteArray.mk (Array.mk [32])=⟨(32::(s++[32])).toArray⟩:=fun s=>data_ext (by simp)
 rcases hs with rfl | rfl | rfl | rfl | rfl | rfl | rfl | rfl | rfl | rfl
 ·refine ⟨by decide,by decide,_,by rw [add_at]; exact cellP b1 0 rfl,by decide,by decide,?_⟩
  exact hk
 ·refine ⟨by decide,by decide,_,by rw [add_at]; exact cellP b1 1 rfl,by decide,by decide,?_⟩
  exact hk
 ·refine ⟨by decide,by decide,_,by rw [add_at]; exact cellP b1 2 rfl,by decide,by decide,?_⟩
  exact hk
 ·refine ⟨by decide,by decide,_,by rw [add_at]; exact cellP b1 3 rfl,by decide,by decide,?_⟩
  exact hk
 ·refine ⟨by decide,by decide,_,by rw [add_at]; exact cellP b1 4 rfl,by decide,by decide,?_⟩
  exact hk
 ·refine ⟨by decide,by decide,_,by rw [add_at]; exact cellP b1 5 rfl,by decide,by decide,?_⟩
  exact hk
 ·refine ⟨by decide,by decide,_,by rw [add_at]; exact cellP b1 10 rfl,by decide,by decide,?_⟩
  exact hk
 ·refine ⟨by decide,by decide,_,by rw [add_at]; exact cellP b1 11 rfl,by decide,by decide,?_⟩
  exact hk
 ·refine ⟨by decide,by decide,_,by rw [add_at]; exact cellP b1 12 rfl,by decide,by decide,?_⟩
  exact hk
 ·refine ⟨by decide,by decide,_,by rw [add_at]; exact cellP b1 13 rfl,by decide,by decide,?_⟩
  exact hk
theorem dblS_len (q:UInt8) (s:Bs):(dblS q s).length≤2*s.length:=by
 induction s with
 | nil=>simp [dblS]
 | cons c l ih =>
  unfold dblS at ih ⊢
  rw [List.flatMap_cons,List.length_append,List.length_cons]
  split<;>simp only [List.length_cons,List.length_nil]<;>omega
theorem quote_ok {s:Bs} {q:UInt8} (hs:s.length≤2^40) {w:World} {K:Value→World→Prop} (hk:∀ w',Ch (fun _=>False) w w'→K (.string ⟨(quoS q s).toArray⟩) w'):callP Tryz.prog 76 [.string ⟨s.toArray⟩,.string ⟨([q]:Bs).toArray⟩] w K:=by
 apply ok_sieve_quote
 have hl:=dblS_len q s
 rw [app3]
 refine ⟨by rw [sz3]; show ((1+1:Nat):Int)≤_; decide,replace_ok hs fun w1 c1=>⟨_,rfl,?_⟩⟩
 rw [app3,app3]
 refine ⟨by rw [sz3,sz3]; simp only [List.length_singleton]; omega,by rw [sz3,sz3]; simp only [List.length_singleton,List.length_append]; omega,?_⟩
 have:=hk w1 c1
 unfold quoS at this
 simpa using this
def FFok (D:Nat→Prop) (ff:Nat→Bs):Prop:=∀ x,D x→∀ (w:World) (K:Value→World→Prop),LW w→(∀ w',Ch (fun _=>False) w w'→K (.string ⟨(ff x).toArray⟩) w')→callP Tryz.prog 113 [.float .f64 x,.int .u8 101,.int .i64 (-1),.int .i64 64] w K
theorem boolS (n:Nat):Lib.formatBool (decide ((n:Int)=1))=if n=1 then ([116,114,117,101]:Bs) else [102,97,108,115,101]:=by
 by_cases h:n=1
 ·subst h; rfl
 ·rw [if_neg h,decide_eq_false (show ¬ (n:Int)=1 by omega)]; rfl
theorem constant_ok {D:Nat→Prop} {ff:Nat→Bs} (hF:FFok D ff) {v:MV} (hn:v.n<18446744073709551616) (ht:v.t.length≤2^40) (hD:v.k=11→D v.n) {w:World} (hL:LW w) {K:Value→World→Prop} (hk:∀ w',Ch (fun _=>False) w w'→K (.string ⟨(conS ff v.m).toArray⟩) w') :
 callP Tryz.prog 72 [v.v] w K:=by
 rw [← vv]
 apply ok_sieve_constant
 refine newB_blk fun w1 b1 c1 z1=>?_
 have b1:blk w1 w.heap.size=some v.g:=b1.trans (by cases v; rfl)
 have hL1:LW w1:=hL.ch c1 fun _ _ h=>h
 simp only [add_at,Nat.zero_add]
 have e:∀ ff,conS ff v.m=if v.k=1 then (if v.n=1 then [116,114,117,101] else [102,97,108,115,101]) else if v.k=9 then Lib.itoa (int64 v.n) else if v.k=11 then ff v.n else quoS 39 v.t:=fun ff=>by cases v; rw [MV.m_mk]; rfl
 rw [e] at hk
 refine ⟨_,MV.c0 b1,?_⟩
 simp only [intEq]
 refine Sif_cases (fun h=>?_) fun h=>?_
 ·rw [if_pos (of_decide_eq_true h)] at hk
  refine ⟨_,MV.c1 b1,?_⟩
  refine (Tryz.strconv_FormatBool _ _).mono ?_
  rintro _ w3 ⟨rfl,rfl⟩
  refine ⟨_,rfl,_,rfl,?_⟩
  rw [boolS]
  exact hk _ c1
 rw [if_neg (of_decide_eq_false h)] at hk
 refine Sif_cases (fun h=>?_) fun h=>?_
 ·rw [if_pos (of_decide_eq_true h)] at hk
  refine ⟨_,MV.c1 b1,?_⟩
  rw [wrap64 hn]
  have e2:(if v.n<9223372036854775808 then (v.n:Int) else (v.n:Int)-18446744073709551616)=int64 v.n:=rfl
  rw [e2]
  refine (Tryz.strconv_FormatInt_10 (int64 v.n) (by unfold int64; split<;>omega) (by unfold int64; split<;>omega) _ hL1.pow).mono ?_
  rintro e w3 ⟨rfl,kk,os,rfl⟩
  refine ⟨_,rfl,_,rfl,hk _ (c1.trans' ?_)⟩
  exact (⟨rfl,rfl,rfl,Nat.le_refl _,fun _ _ _=>rfl⟩:Ch (fun _=>False) w1 (w1.drewN kk)).trans' (sort_grow_ch os)
 rw [if_neg (of_decide_eq_false h)] at hk
 refine Sif_cases (fun h=>?_) fun h=>?_
 ·have h:=of_decide_eq_true h
  rw [if_pos h] at hk
  refine ⟨_,MV.c1 b1,?_⟩
  refine ⟨.float .f64 v.n,w1,?_,_,rfl,?_⟩
  ·rw [run_callFunc_extern Tryz.func114 (by kernel_rfl) (by kernel_rfl) (by kernel_rfl) (e:=Extern.MathFloatBits.float64frombits) (by kernel_rfl)]
   rfl
  ·exact hF v.n (hD h) w1 _ hL1 fun w2 c2=>⟨_,rfl,hk w2 (c1.trans' c2)⟩
 rw [if_neg (of_decide_eq_false h)] at hk
 refine ⟨_,MV.c2 b1,?_⟩
 exact quote_ok ht fun w2 c2=>⟨_,rfl,hk w2 (c1.trans' c2)⟩
theorem PW.bw {base w w':World} {g0:Option Nat} {b:Nat} {out out':Bs} {g:Option Nat} (h1:BAt w TPr b out g) (h2:∀ k,g=some k→g0=some k∨base.heap.size≤k) (h3:Ch (fun k=>k=b∨g0=some k) base w) (h4:b<base.heap.size∧∀ k,g0=some k→k<base.heap.size) (h:BW w w' TPr b out' g):PW base g0 w' b out':=by
 obtain ⟨g',q1,q2,q3⟩:=h
 refine ⟨⟨g',q1,fun k hk=>?_,h3.trans q3 fun x hx hs=>?_⟩,h4⟩
 ·rcases q2 k hk with h | h
  ·exact h2 k h
  ·have:=h3.size; right; omega
 ·rcases hs with h | h
  ·exact .inl h
  ·rcases h2 x h with h | h
   ·exact .inr h
   ·omega
theorem PW.now {base w:World} {g0:Option Nat} {b:Nat} {out:Bs} (h:PW base g0 w b out):∃ g,PW w g w b out∧(∀ k,g=some k→g0=some k∨base.heap.size≤k)∧∀ w' out',PW w g w' b out'→PW base g0 w' b out':=by
 obtain ⟨⟨g,h1,h2,h3⟩,h4⟩:=h
 exact ⟨g,⟨⟨g,h1,fun k hk=>.inl hk,Ch.refl _ _⟩,h1.lt,h1.glt⟩,h2,fun w' out' hw=>PW.bw h1 h2 h3 h4 hw.1⟩
theorem pWS {base w:World} {g0:Option Nat} {b:Nat} {out:Bs} (h:PW base g0 w b out) (s:ByteArray) (hl:out.length+s.data.toList.length≤2^46) {K:Value→World→Prop} (hk:∀ w',PW base g0 w' b (out++s.data.toList)→K (.tuple #[.int .i64 (s.size:Int),.nilIface]) w'):callP Tryz.prog 126 [.pointer (some ⟨b,0,none⟩),.string s] w K:=by
 obtain ⟨⟨g,h1,h2,h3⟩,h4⟩:=h
 exact WriteString_ok h1 (.inr rfl) s (by rw [sl] at hl; exact hl) fun w' h=>hk w' (PW.bw h1 h2 h3 h4 h)
theorem PW.now2 {base w w':World} {g0:Option Nat} {b:Nat} {out:Bs} (h:PW base g0 w b out) (c:Ch (fun _=>False) w w'):∃ g,PW w' g w' b out∧(∀ k,g=some k→k<w.heap.size∧(g0=some k∨base.heap.size≤k))∧b<w.heap.size∧∀ w'' out',PW w' g w'' b out'→PW base g0 w'' b out':=by
 obtain ⟨⟨g,h1,h2,h3⟩,h4⟩:=h
 have h1':=h1.ch c id fun _ _ h=>h
 refine ⟨g,⟨⟨g,h1',fun k hk=>.inl hk,Ch.refl _ _⟩,h1'.lt,h1'.glt⟩,fun k hk=>⟨h1.glt k hk,h2 k hk⟩,h1.lt,fun w'' out' hw=>PW.bw h1' h2 (h3.trans' (c.mono fun _ _ h=>h.elim)) h4 hw.1⟩
theorem pput_new {base w:World} {g0:Option Nat} {b:Nat} {out:Bs} (h:PW base g0 w b out) (ls:List Bs) {cs:List Value} (hcs:cs=ls.map strV) {n:Nat} (hn:n=ls.length) (hl:out.length+ls.flatten.length≤2^45) (hln:n≤100) {t:TypeId} {K:Value→World→Prop} (hk:∀ w',PW base g0 w' b (out++ls.flatten)→K (.tuple #[]) w') :
 newB w cs t fun a w1=>callP Tryz.prog 71 [.pointer (some ⟨b,0,none⟩),.slice (some a) n n] w1 K:=by
 subst hcs
 refine newB_blk fun w1 b1 c1 z1=>?_
 obtain ⟨g,h1,h2,h3,h4⟩:=h.now2 c1
 apply ok_sieve_printer_put
 refine ⟨fun m i w2=>∃ j:Nat,i=(j:Int)∧m=n-j∧j≤n∧PW w1 g w2 b (out++(ls.take j).flatten),⟨n,0,rfl,rfl,Nat.zero_le _,by simpa using h1⟩,?_⟩
 rintro m i w2 ⟨j,rfl,rfl,hj,p2⟩
 have hkb:w.heap.size≠b:=by have:=h.2.1; have:=h.ch.size; omega
 have b2:blk w2 w.heap.size=some (ls.map strV):=(p2.ch.blk (blk_lt b1) fun e=>by
  rcases e with e | e
  ·exact hkb e
  ·have:=(h2 _ e).1; omega).trans b1
 refine Sif_cases (fun hlt=>?_) (fun hge=>?_)
 ·have hjl:j<n:=by have:=of_decide_eq_true hlt; omega
  obtain ⟨y,hy⟩:∃ y,ls[j]?=some y:=⟨ls[j]'(by omega),List.getElem?_eq_getElem _⟩
  refine ⟨by omega,by omega,?_⟩
  simp only [nn,add_at,Nat.zero_add,Nat.mul_one,Nat.add_zero,Int.toNat_natCast]
  refine ⟨_,cellP b2 j (v:=strV y) (by rw [List.getElem?_map,hy]; rfl),?_⟩
  have htk:ls.take (j+1)=ls.take j++[y]:=by rw [List.take_add_one,hy]; rfl
  have hle:(ls.take (j+1)).flatten.length≤ls.flatten.length:=by
   conv=>rhs; rw [← List.take_append_drop (j+1) ls,List.flatten_append,List.length_append]
   omega
  rw [htk,List.flatten_append,List.length_append] at hle
  simp only [List.flatten_cons,List.flatten_nil,List.append_nil] at hle
  refine pWS p2 ⟨y.toArray⟩ (by rw [sl3,List.length_append]; omega) fun w3 p3=>⟨_,_,rfl,?_⟩
  rw [wrap_id (by omega) (by omega)]
  refine ⟨n-(j+1),by omega,j+1,by omega,rfl,by omega,?_⟩
  rw [htk,List.flatten_append,List.flatten_cons,List.flatten_nil,List.append_nil,← List.append_assoc]
  rw [sl3] at p3
  exact p3
 ·have:j=ls.length:=by have:=of_decide_eq_false hge; omega
  rw [this,List.take_length] at p2
  exact hk w2 (h4 _ _ p2)
end Go.Proofs.YtnmlmicmhpkbeaaGreatDoor
namespace Go.Proofs.YtnmlmicmhpkbeaaGreatDoor
open Go Go.Sv Go.RowKit Go.Note
set_option linter.unusedVariables false
attribute [local irreducible] Sif
inductive PG2 (D:Nat→Prop):TV→Prop where
 | mk {k:Int} {t:Bs} {v:MV} {s:SL} {l:List TV}:t.length≤2^40→v.n<18446744073709551616→v.t.length≤2^40→(v.k=11→D v.n)→arity k l.length=true→(k=2→t≠[])→(k=13→∀ y∈l.tail,y.k=1)→(∀ y∈l,PG2 D y)→PG2 D (.mk k t v s l)
structure PEn (Q:Nat→Prop) (base:World) (g:Option Nat) (b:Nat):Prop where
 hL:LW base
 hb:18≤b
 hg:∀ k,g=some k→18≤k
 hQ:∀ k,Q k→k≠b∧g≠some k
theorem PEn.enter {Q:Nat→Prop} {base w w1:World} {g0:Option Nat} {b:Nat} {out:Bs} {x:TV} (E:PEn Q base g0 b) (h:PW base g0 w b out) (hx:TR Q base x) (c:Ch (fun _=>False) w w1) :
 ∃ g Q',PW w1 g w1 b out∧PEn Q' w1 g b∧TR Q' w1 x∧(w.heap.size≠b∧g≠some w.heap.size)∧∀ w'' out',PW w1 g w'' b out'→PW base g0 w'' b out':=by
 obtain ⟨g,h1,h2,h3,h4⟩:=h.now2 c
 have hbb:=h.2.1
 have hb18:=E.hb
 have c2:=(h.ch0 c).ch
 have hsz:=E.hL.size
 refine ⟨g,fun k=>Q k∧k<base.heap.size,h1,⟨E.hL.ch c2 fun j hj e=>?_,hb18,fun k hk=>?_,fun k hk=>⟨(E.hQ k hk.1).1,fun e=>?_⟩⟩,TR.ch c2 (fun k hk e=>?_) x (TR.lt x hx),⟨by omega,fun e=>?_⟩,h4⟩
 ·rcases e with e | e
  ·omega
  ·have:=E.hg j e; omega
 ·rcases (h2 k hk).2 with e | e
  ·exact E.hg k e
  ·omega
 ·rcases (h2 k e).2 with e | e
  ·exact (E.hQ k hk.1).2 e
  ·omega
 ·rcases e with e | e
  ·exact (E.hQ k hk.1).1 e
  ·exact (E.hQ k hk.1).2 e
 ·have:=(h2 _ e).1; omega
theorem PW.box {w1 w2:World} {g:Option Nat} {b k:Nat} {out:Bs} {cs:List Value} (h:PW w1 g w2 b out) (hb:blk w1 k=some cs) (hne:k≠b∧g≠some k):blk w2 k=some cs :=
 (h.ch.blk (blk_lt hb) (by rintro (e | e); exact hne.1 e; exact hne.2 e)).trans hb
variable {ff:Nat→Bs} {D:Nat→Prop}
def PrT (ff:Nat→Bs) (x:TV):Prop:=∀ {Q:Nat→Prop} {base w:World} {g0:Option Nat} {b:Nat} {out:Bs},PEn Q base g0 b→PW base g0 w b out→TR Q base x→out.length+(x.m.pr ff).length≤2^44→∀ {K:Value→World→Prop},(∀ w',PW base g0 w' b (out++x.m.pr ff)→K (.tuple #[]) w') →
 callP Tryz.prog 38 [.pointer (some ⟨b,0,none⟩),x.v] w K
abbrev part (ff:Nat→Bs) (y:TV):Int × Bs:=(lev y.k,y.m.pr ff)
theorem pwithin_ok {x:TV} (ih:PrT ff x) {Q:Nat→Prop} {base w:World} {g0:Option Nat} {b:Nat} {out:Bs} {near:Int} (E:PEn Q base g0 b) (h:PW base g0 w b out) (hx:TR Q base x) (hl:out.length+(brS near (part ff x)).length≤2^44) {K:Value→World→Prop} (hk:∀ w',PW base g0 w' b (out++brS near (part ff x))→K (.tuple #[]) w') :
 callP Tryz.prog 77 [.pointer (some ⟨b,0,none⟩),x.v,.int .i64 near] w K:=by
 rw [← tvv]
 apply ok_sieve_printer_within
 refine newB_blk fun w1 b1 c1 z1=>?_
 have b1:blk w1 w.heap.size=some x.g:=b1.trans (by cases x; rfl)
 obtain ⟨g,Q',p1,E1,x1,hne,back⟩:=E.enter h hx c1
 refine ld8a b1 ?_
 rw [tvv]
 refine level_ok fun w2 c2=>⟨_,rfl,?_⟩
 have p2:=p1.ch0 c2
 have b2:=p2.box b1 hne
 unfold brS at hl hk
 refine Sif_cases (fun hn=>?_) (fun hn=>?_)
 ·rw [if_pos (of_decide_eq_true hn)] at hl hk
  simp only [List.length_cons,List.length_append,List.length_nil] at hl
  refine pput_new p2 [[40]] rfl rfl (by first | omega | (simp only [List.length_append,List.length_cons,List.length_nil,List.flatten_cons,List.flatten_nil,List.append_nil]; omega)) (by simp) fun w3 p3=>⟨rfl,?_⟩
  refine ld8a (p3.box b1 hne) ?_
  rw [tvv]
  refine ih E1 p3 x1 (by first | omega | (simp only [List.length_append,List.length_cons,List.length_nil,List.flatten_cons,List.flatten_nil,List.append_nil]; omega)) fun w4 p4=>⟨rfl,?_⟩
  refine pput_new p4 [[41]] rfl rfl (by first | omega | (simp only [List.length_append,List.length_cons,List.length_nil,List.flatten_cons,List.flatten_nil,List.append_nil]; omega)) (by simp) fun w5 p5=>⟨rfl,hk _ (back _ _ ?_)⟩
  simpa using p5
 ·rw [if_neg (of_decide_eq_false hn)] at hl hk
  refine ld8a b2 ?_
  rw [tvv]
  exact ih E1 p2 x1 hl fun w4 p4=>⟨rfl,hk _ (back _ _ p4)⟩
theorem rdE {w:World} {b o i:Nat} {x:TV} {K:Int→ByteArray→Int→Int→ByteArray→Option Addr→Nat→Nat→Int→Option Addr→Nat→Nat→Prop} (h:AtT w b (o+i) x) (hk:K x.k ⟨x.t.toArray⟩ x.x.k (x.x.n:Int) ⟨x.x.t.toArray⟩ x.x.s.p x.x.s.n x.x.s.c x.x.e x.s.p x.s.n x.s.c) :
 ∃ n,w.cell? (Addr.add (Addr.add ⟨b,o,none⟩ i) 0)=some (.int .i64 n)∧∃ s,w.cell? (Addr.add (Addr.add ⟨b,o,none⟩ i) 1)=some (.string s)∧∃ n1,w.cell? (Addr.add (Addr.add ⟨b,o,none⟩ i) 2)=some (.int .i64 n1)∧∃ n2,w.cell? (Addr.add (Addr.add ⟨b,o,none⟩ i) 3)=some (.int .u64 n2)∧∃ s1,w.cell? (Addr.add (Addr.add ⟨b,o,none⟩ i) 4)=some (.string s1)∧∃ p n3 c,w.cell? (Addr.add (Addr.add ⟨b,o,none⟩ i) 5)=some (.slice p n3 c)∧∃ n4,w.cell? (Addr.add (Addr.add ⟨b,o,none⟩ i) 6)=some (.int .i64 n4)∧∃ p1 n5 c1,w.cell? (Addr.add (Addr.add ⟨b,o,none⟩ i) 7)=some (.slice p1 n5 c1)∧K n s n1 n2 s1 p n3 c n4 p1 n5 c1:=by
 simp only [add_at]
 exact rd8 h hk
theorem rdE2 {w:World} {b o i:Nat} {x:TV} (h:AtT w b (o+i) x) :
 ∃ n,w.cell? (Addr.add (Addr.add ⟨b,o,none⟩ i) 0)=some (.int .i64 n)∧∃ s,w.cell? (Addr.add (Addr.add ⟨b,o,none⟩ i) 1)=some (.string s)∧∃ n1,w.cell? (Addr.add (Addr.add ⟨b,o,none⟩ i) 2)=some (.int .i64 n1)∧∃ n2,w.cell? (Addr.add (Addr.add ⟨b,o,none⟩ i) 3)=some (.int .u64 n2)∧∃ s1,w.cell? (Addr.add (Addr.add ⟨b,o,none⟩ i) 4)=some (.string s1)∧∃ p n3 c,w.cell? (Addr.add (Addr.add ⟨b,o,none⟩ i) 5)=some (.slice p n3 c)∧∃ n4,w.cell? (Addr.add (Addr.add ⟨b,o,none⟩ i) 6)=some (.int .i64 n4)∧∃ p1 n5 c1,w.cell? (Addr.add (Addr.add ⟨b,o,none⟩ i) 7)=some (.slice p1 n5 c1) ∧
  Value.agg (Array.mk [.int .i64 n,.string s,.int .i64 n1,.int .u64 n2,.string s1,.slice p n3 c,.int .i64 n4,.slice p1 n5 c1])=Value.agg (Array.mk [.int .i64 x.k,.string ⟨x.t.toArray⟩,.int .i64 x.x.k,.int .u64 (x.x.n:Int),.string ⟨x.x.t.toArray⟩,.slice x.x.s.p x.x.s.n x.x.s.c,.int .i64 x.x.e,.slice x.s.p x.s.n x.s.c]):=rdE h rfl
theorem TR.get {Q:Nat→Prop} {w:World} {x:TV} (h:TR Q w x) {i:Nat} (hi:i<x.s.n):∃ y b o,x.l[i]?=some y∧y∈x.l∧x.s.p=some ⟨b,o,none⟩∧Q b∧AtT w b (o+i*8) y∧TR Q w y:=by
 have hl:=h.inv.2.1
 have hy:x.l[i]?=some (x.l[i]'(by omega)):=List.getElem?_eq_getElem _
 obtain ⟨b,o,h1,h2,h3⟩:=h.at hy
 exact ⟨_,b,o,hy,List.mem_of_getElem? hy,h1,h2,h3,h.inv.2.2.2.2.2 _ (List.mem_of_getElem? hy)⟩
theorem arity_kind {k:Int} {n:Nat} (h:arity k n=true):1≤k∧k≤20:=by
 unfold arity at h
 split at h
 ·omega
 ·split at h
  ·omega
  ·split at h
   ·omega
   ·split at h
    ·omega
    ·simp only [Bool.and_eq_true,decide_eq_true_eq] at h; omega
theorem lev_b (k:Int):1≤lev k∧lev k≤8:=by
 unfold lev
 repeat' split
 all_goals omega
theorem joinS_mono (sp:Bs) (l m:List Bs):(joinS sp l).length≤(joinS sp (l++m)).length:=by
 cases l with
 | nil=>simp [joinS]
 | cons x l=>simp [joinS,List.length_append]
theorem prow2_ok {x:TV} (ihl:∀ y∈x.l,PrT ff y) {wd:Bs} {Q:Nat→Prop} {base w:World} {g0:Option Nat} {b:Nat} {out:Bs} (E:PEn Q base g0 b) (h:PW base g0 w b out) (hx:TR Q base x)
 (hl:out.length+(joinS (32::(wd++[32])) (x.l.map fun y=>brS (lev x.k+1) (part ff y))).length≤2^44) {K:Value→World→Prop} (hk:∀ w',PW base g0 w' b (out++joinS (32::(wd++[32])) (x.l.map fun y=>brS (lev x.k+1) (part ff y)))→K (.tuple #[]) w') :
 callP Tryz.prog 78 [.pointer (some ⟨b,0,none⟩),x.v,.string ⟨wd.toArray⟩] w K:=by
 rw [← tvv]
 apply ok_sieve_printer_row
 refine newB_blk fun w1 b1 c1 z1=>?_
 have b1:blk w1 w.heap.size=some x.g:=b1.trans (by cases x; rfl)
 obtain ⟨g,Q',p1,E1,x1,hne,back⟩:=E.enter h hx c1
 refine ⟨_,_,_,TV.c7 b1,?_⟩
 obtain ⟨F,hF⟩:∃ F:TV→Bs,F=fun y=>brS (lev x.k+1) (part ff y):=⟨_,rfl⟩
 obtain ⟨sp,hsp⟩:∃ sp:Bs,sp=32::(wd++[32]):=⟨_,rfl⟩
 rw [← hF,← hsp] at hl
 rw [← hF,← hsp] at hk
 have hln:=x1.inv.2.1
 have hn46:=x1.inv.2.2.1
 refine ⟨fun m i w2=>∃ j:Nat,i=(j:Int)∧m=x.s.n-j∧j≤x.s.n∧PW w1 g w2 b (out++joinS sp ((x.l.take j).map F)),⟨x.s.n,0,rfl,rfl,Nat.zero_le _,by simpa [joinS] using p1⟩,?_⟩
 rintro m i w2 ⟨j,rfl,rfl,hj,p2⟩
 refine Sif_cases (fun hlt=>?_) (fun hge=>?_)
 ·have hjl:j<x.s.n:=by have:=of_decide_eq_true hlt; omega
  obtain ⟨y,b',o,hy,hmem,hp,hq,hat,hy1⟩:=x1.get hjl
  refine ⟨by omega,by omega,?_⟩
  rw [hp]
  simp only [nn,Int.toNat_natCast]
  have hat2:AtT w2 b' (o+j*8) y:=hat.ch p2.ch (by rintro (e | e); exact (E1.hQ _ hq).1 e; exact (E1.hQ _ hq).2 e)
  refine rdE hat2 ?_
  refine newB_blk fun w3 b3 c3 z3=>?_
  simp only [add_at,Nat.zero_add]
  refine st8 (x:=y) b3 rfl fun w4 b4 c4 z4=>?_
  have c24:Ch (fun _=>False) w2 w4:=c3.trans c4 fun x hx h=>by omega
  obtain ⟨g4,q1,q2,q3,q4⟩:=p2.now2 c24
  have htk:x.l.take (j+1)=x.l.take j++[y]:=by rw [List.take_add_one,hy]; rfl
  have hfin:joinS sp ((x.l.take (j+1)).map F)=joinS sp ((x.l.take j).map F)++(if (x.l.take j).map F=[] then [] else sp)++F y:=by
   rw [htk,List.map_append,List.map_singleton,joinS_snoc]
  have hle:out.length+(joinS sp ((x.l.take j).map F)).length+(if (x.l.take j).map F=[] then ([]:Bs) else sp).length+(F y).length≤2^44:=by
   have h1:=joinS_mono sp ((x.l.take (j+1)).map F) ((x.l.drop (j+1)).map F)
   rw [← List.map_append,List.take_append_drop,hfin] at h1
   simp only [List.length_append] at h1
   omega
  have hemp:(x.l.take j).map F=[]↔j=0:=by
   rw [List.map_eq_nil_iff,List.take_eq_nil_iff]
   constructor
   ·rintro (h | h)
    ·exact h
    ·rw [h] at hln; simp at hln; omega
   ·exact .inl
  refine ⟨fun w5=>PW w1 g w5 b (out++joinS sp ((x.l.take j).map F)++(if (x.l.take j).map F=[] then [] else sp))∧blk w5 w2.heap.size=some y.g,?_,?_⟩
  ·rintro w5 ⟨p5,b5⟩
   refine ld8 (x:=y) (w:=w5.drew) b5 ?_
   refine ld8 (x:=x) (w:=w5.drew) (p5.box b1 hne) ?_
   rw [tvv]
   refine level_ok fun w6 c6=>⟨_,rfl,?_⟩
   have c56:Ch (fun _=>False) w5 w6:=(Ch.drew w5).trans' c6
   have p6:=p5.ch0 c56
   have hlev:=lev_b x.k
   refine ⟨ld8 (x:=y) ((c56.blk (blk_lt b5) id).trans b5) rfl,?_⟩
   rw [tvv y,wrap_id (n:=lev x.k+1) (by omega) (by omega)]
   have eF:F y=brS (lev x.k+1) (part ff y):=by rw [hF]
   refine pwithin_ok (ihl y hmem) E1 p6 hy1 (by rw [← eF]; simp only [List.length_append]; omega) fun w7 p7=>⟨rfl,?_⟩
   rw [← eF] at p7
   rw [wrap_id (by omega) (by omega)]
   refine ⟨x.s.n-(j+1),by omega,j+1,by omega,rfl,by omega,?_⟩
   rw [hfin]
   simpa only [List.append_assoc] using p7
  ·refine Sif_cases (fun h0=>?_) (fun h0=>?_)
   ·have hj0:¬ j=0:=by have:=of_decide_eq_true h0; omega
    rw [if_neg (fun e=>hj0 (hemp.1 e))] at hle ⊢
    have hspl:sp.length=wd.length+2:=by rw [hsp]; simp
    refine pput_new q1 [[32],wd,[32]] rfl rfl (by simp only [List.length_append,List.length_cons,List.length_nil,List.flatten_cons,List.flatten_nil,List.append_nil]; omega) (by simp) fun w5 p5=>⟨rfl,?_,?_⟩
    ·have:=q4 _ _ p5
     rw [hsp]
     simpa [hsp] using this
    ·exact (p5.ch.blk (blk_lt b4) (by rintro (e | e); omega; have:=(q2 _ e).1; omega)).trans b4
   ·have hj0:j=0:=by have:=of_decide_eq_false h0; omega
    rw [if_pos (hemp.2 hj0),List.append_nil]
    exact ⟨q4 _ _ q1,b4⟩
 ·have hj2:j=x.l.length:=by have:=of_decide_eq_false hge; omega
  rw [hj2,List.take_length] at p2
  exact hk w2 (back _ _ p2)
theorem prest_ok (hF:FFok D ff) {x:TV} (hg:PG2 D x) (ihl:∀ y∈x.l,PrT ff y) (hk12:6≤x.k∧x.k≤15) {Q:Nat→Prop} {base w:World} {g0:Option Nat} {b:Nat} {out:Bs} (E:PEn Q base g0 b) (h:PW base g0 w b out) (hx:TR Q base x)
 (hl:out.length+(restS x.k x.t x.x.m (x.l.map (part ff))).length≤2^44) {K:Value→World→Prop} (hk:∀ w',PW base g0 w' b (out++restS x.k x.t x.x.m (x.l.map (part ff)))→K (.tuple #[]) w') :
 callP Tryz.prog 81 [.pointer (some ⟨b,0,none⟩),x.v] w K:=by
 obtain ⟨hgt,hgn,hgv,hgD,har,hg2,hg13,hgl⟩:x.t.length≤2^40∧x.x.n<18446744073709551616∧x.x.t.length≤2^40∧(x.x.k=11→D x.x.n)∧arity x.k x.l.length=true∧(x.k=2→x.t≠[])∧(x.k=13→∀ y∈x.l.tail,y.k=1)∧∀ y∈x.l,PG2 D y:=by
  cases hg with | mk a b c d e f g h=>exact ⟨a,b,c,d,e,f,g,h⟩
 have hmk:x.x.m.k=x.x.k∧x.x.m.t=x.x.t:=by cases x.x; rw [MV.m_mk]; exact ⟨rfl,rfl⟩
 rw [← tvv]
 apply ok_sieve_printer_rest
 refine newB_blk fun w1 b1 c1 z1=>?_
 have b1:blk w1 w.heap.size=some x.g:=b1.trans (by cases x; rfl)
 obtain ⟨g,Q',p1,E1,x1,hne,back⟩:=E.enter h hx c1
 have hln:=x1.inv.2.1
 have hn46:=x1.inv.2.2.1
 -- a part of the list, written
 have prt:∀ (i:Nat),i<x.s.n→∀ {w2:World} {out2:Bs},PW w1 g w2 b out2→out2.length+(brS 5 ((x.l.map (part ff)).getD i (0,[]))).length≤2^44→∀ {K2:Value→World→Prop},(∀ w3,PW w1 g w3 b (out2++brS 5 ((x.l.map (part ff)).getD i (0,[])))→K2 (.tuple #[]) w3) →
  nn x.s.p fun a2=>∃ n,w2.cell? (Addr.add (Addr.add a2 (i*8)) 0)=some (.int .i64 n)∧∃ s,w2.cell? (Addr.add (Addr.add a2 (i*8)) 1)=some (.string s)∧∃ n1,w2.cell? (Addr.add (Addr.add a2 (i*8)) 2)=some (.int .i64 n1)∧∃ n2,w2.cell? (Addr.add (Addr.add a2 (i*8)) 3)=some (.int .u64 n2)∧∃ s1,w2.cell? (Addr.add (Addr.add a2 (i*8)) 4)=some (.string s1)∧∃ p n3 c,w2.cell? (Addr.add (Addr.add a2 (i*8)) 5)=some (.slice p n3 c)∧∃ n4,w2.cell? (Addr.add (Addr.add a2 (i*8)) 6)=some (.int .i64 n4)∧∃ p1 n5 c1,w2.cell? (Addr.add (Addr.add a2 (i*8)) 7)=some (.slice p1 n5 c1) ∧
   callP Tryz.prog 77 [.pointer (some ⟨b,0,none⟩),.agg (Array.mk [.int .i64 n,.string s,.int .i64 n1,.int .u64 n2,.string s1,.slice p n3 c,.int .i64 n4,.slice p1 n5 c1]),.int .i64 5] w2 K2:=by
  intro i hi w2 out2 p2 hl2 K2 hk2
  obtain ⟨y,b',o,hy,hmem,hp,hq,hat,hy1⟩:=x1.get hi
  have e:(x.l.map (part ff)).getD i (0,[])=part ff y:=by rw [List.getD_eq_getElem?_getD,List.getElem?_map,hy]; rfl
  rw [e] at hl2 hk2
  rw [hp]
  simp only [nn]
  refine rdE (hat.ch p2.ch (by rintro (e | e); exact (E1.hQ _ hq).1 e; exact (E1.hQ _ hq).2 e)) ?_
  rw [tvv]
  exact pwithin_ok (ihl y hmem) E1 p2 hy1 hl2 fun w3 p3=>hk2 w3 p3
 refine ⟨_,TV.c0 b1,?_⟩
 simp only [intEq]
 unfold restS at hl hk
 refine Sif_cases (fun h12=>?_) (fun h12=>?_)
 ·have h12:=of_decide_eq_true h12
  have hn3:x.s.n=3:=by rw [h12] at har; rw [← hln]; simpa [arity] using har
  rw [if_pos h12] at hl hk
  simp only [List.length_append,List.length_cons,List.length_nil] at hl
  refine pput_new p1 [[32,98,101,116,119,101,101,110,32]] rfl rfl (by first | omega | (simp only [List.length_append,List.length_cons,List.length_nil,List.flatten_cons,List.flatten_nil,List.append_nil]; omega)) (by simp) fun w2 p2=>⟨rfl,?_⟩
  refine ⟨_,_,_,TV.c7 (p2.box b1 hne),by decide,by omega,prt 1 (by omega) p2 (by first | omega | (simp only [List.length_append,List.length_cons,List.length_nil,List.flatten_cons,List.flatten_nil,List.append_nil]; omega)) fun w3 p3=>⟨rfl,?_⟩⟩
  refine pput_new p3 [[32,97,110,100,32]] rfl rfl (by first | omega | (simp only [List.length_append,List.length_cons,List.length_nil,List.flatten_cons,List.flatten_nil,List.append_nil]; omega)) (by simp) fun w4 p4=>⟨rfl,?_⟩
  refine ⟨_,_,_,TV.c7 (p4.box b1 hne),by decide,by omega,prt 2 (by omega) p4 (by first | omega | (simp only [List.length_append,List.length_cons,List.length_nil,List.flatten_cons,List.flatten_nil,List.append_nil]; omega)) fun w5 p5=>⟨rfl,hk _ (back _ _ ?_)⟩⟩
  simpa [List.append_assoc] using p5
 rw [if_neg (of_decide_eq_false h12)] at hl hk
 refine Sif_cases (fun h13=>?_) (fun h13=>?_)
 ·have h13:=of_decide_eq_true h13
  rw [if_pos h13] at hl hk
  have hn2:2≤x.s.n:=by rw [h13] at har; rw [← hln]; simpa [arity] using har
  have hcap:=x1.cap
  obtain ⟨G,hG⟩:∃ G:List Bs,G=(x.l.map (part ff)).tail.map (·.2):=⟨_,rfl⟩
  rw [← hG] at hl hk
  have hGl:G.length=x.s.n-1:=by rw [hG]; simp; omega
  refine ⟨_,_,_,TV.c7 b1,by decide,by omega,fun m i w2=>∃ j:Nat,i=(j:Int)∧m=x.s.n-j∧j≤x.s.n-1∧PW w1 g w2 b (out++(if j=0 then [] else [32,105,110,32,40])++joinS [44,32] (G.take j)),⟨x.s.n,0,rfl,rfl,by omega,by simpa [joinS] using p1⟩,?_⟩
  rintro m i w2 ⟨j,rfl,rfl,hj,p2⟩
  refine Sif_cases (fun hlt=>?_) (fun hge=>?_)
  ·have hjl:j+1<x.s.n:=by have:=of_decide_eq_true hlt; have e1:Int.toNat 1=1:=rfl; rw [e1] at this; omega
   obtain ⟨y,b',o,hy,hmem,hp,hq,hat,hy1⟩:=x1.get hjl
   have hytail:y∈x.l.tail:=by
    rw [← List.drop_one]
    exact List.mem_of_getElem? (i:=j) (by rw [List.getElem?_drop,Nat.add_comm]; exact hy)
   have hyk:y.k=1:=hg13 h13 y hytail
   have hyg:PG2 D y:=hgl y hmem
   obtain ⟨hyn,hyv,hyD⟩:y.x.n<18446744073709551616∧y.x.t.length≤2^40∧(y.x.k=11→D y.x.n):=by cases hyg with | mk a b c d e f g h=>exact ⟨b,c,d⟩
   have hypr:y.m.pr ff=conS ff y.x.m:=by
    obtain ⟨k',t',v',s',l'⟩:=y
    rw [TV.m_mk,T.pr_mk,if_pos (show k'=1 from hyk)]; rfl
   have hsub:subA x.s.p 1 x.s.c 8=some ⟨b',o+8,none⟩:=by
    unfold subA
    rw [if_neg (by omega),hp]; rfl
   refine ⟨by omega,by omega,?_⟩
   rw [Int.toNat_natCast,hsub]
   simp only [nn]
   have hat2:AtT w2 b' (o+8+j*8) y:=by
    rw [show o+8+j*8=o+(j+1)*8 by omega]
    exact hat.ch p2.ch (by rintro (e | e); exact (E1.hQ _ hq).1 e; exact (E1.hQ _ hq).2 e)
   refine rdE hat2 ?_
   refine newB_blk fun w3 b3 c3 z3=>?_
   simp only [add_at,Nat.zero_add,Nat.reduceAdd]
   refine st8 (x:=y) b3 rfl fun w4 b4 c4 z4=>?_
   have c24:Ch (fun _=>False) w2 w4:=c3.trans c4 fun x hx h=>by omega
   -- what is written in this round
   have hGj:G[j]?=some (y.m.pr ff):=by
    rw [hG,List.getElem?_map,← List.drop_one,List.getElem?_drop,List.getElem?_map,Nat.add_comm,hy]; rfl
   have htk:G.take (j+1)=G.take j++[y.m.pr ff]:=by rw [List.take_add_one,hGj]; rfl
   have hemp:G.take j=[]↔j=0:=by
    rw [List.take_eq_nil_iff]
    constructor
    ·rintro (h | h)
     ·exact h
     ·rw [h] at hGl; simp at hGl; omega
    ·exact .inl
   have hfin:joinS [44,32] (G.take (j+1))=joinS [44,32] (G.take j)++(if j=0 then [] else [44,32])++y.m.pr ff:=by
    rw [htk,joinS_snoc]
    by_cases h0:j=0
    ·rw [if_pos (hemp.2 h0),if_pos h0]
    ·rw [if_neg (fun e=>h0 (hemp.1 e)),if_neg h0]
   have hmono:(joinS [44,32] (G.take (j+1))).length≤(joinS [44,32] G).length:=by
    have:=joinS_mono [44,32] (G.take (j+1)) (G.drop (j+1))
    rwa [List.take_append_drop] at this
   have hyl:out.length+7+(joinS [44,32] (G.take j)).length+(y.m.pr ff).length≤2^44+2:=by
    rw [hfin] at hmono
    simp only [List.length_append,List.length_cons,List.length_nil] at hl hmono
    omega
   obtain ⟨A,hA⟩:∃ A:Bs,A=if j=0 then [32,105,110,32,40] else [44,32]:=⟨_,rfl⟩
   have hAl:A.length≤5:=by rw [hA]; split<;>decide
   have hcell:∀ {w':World} {k:Nat},blk w' k=some [Value.string (ByteArray.mk (Array.mk [32,105,110,32,40])),.string (ByteArray.mk (Array.mk [44,32]))]→w'.cell? ⟨k,0+Int.toNat (min (j:Int) 1)*1,none⟩=some (strV A):=fun {w' k} hb=>by
    by_cases h0:j=0
    ·subst h0
     rw [hA,if_pos rfl]
     exact cellP hb 0 rfl
    ·rw [hA,if_neg h0,show 0+Int.toNat (min (j:Int) 1)*1=1 by omega]
     exact cellP hb 1 rfl
   have done:∀ {w6:World},PW w1 g w6 b (out++(if j=0 then [] else [32,105,110,32,40])++joinS [44,32] (G.take j)++(A++y.m.pr ff))→PW w1 g w6 b (out++(if j+1=0 then [] else [32,105,110,32,40])++joinS [44,32] (G.take (j+1))):=fun h=>by
    rw [if_neg (show ¬ j+1=0 by omega),hfin]
    by_cases h0:j=0
    ·subst h0
     rw [hA,if_pos rfl,if_pos rfl] at h
     rw [if_pos rfl]
     simpa [joinS] using h
    ·rw [hA,if_neg h0,if_neg h0] at h
     rw [if_neg h0]
     simpa [List.append_assoc] using h
   have hmin:(0:Int)≤min (j:Int) 1∧min (j:Int) 1<2:=by omega
   have fin:∀ {w5:World} {t:TypeId},PW w1 g w5 b (out++(if j=0 then [] else [32,105,110,32,40])++joinS [44,32] (G.take j))→∀ {K2:Value→World→Prop},(∀ w6,PW w1 g w6 b (out++(if j+1=0 then [] else [32,105,110,32,40])++joinS [44,32] (G.take (j+1)))→K2 (.tuple #[]) w6) →
    newB w5 [strV A,strV (y.m.pr ff)] t fun a4 w14=>callP Tryz.prog 71 [.pointer (some ⟨b,0,none⟩),.slice (some a4) 2 2] w14 K2:=fun {w5 t} p5 {K2} hk2=>by
    refine pput_new p5 [A,y.m.pr ff] rfl rfl ?_ (by simp) fun w6 p6=>hk2 w6 (done (by simpa [List.append_assoc] using p6))
    simp only [List.length_append,List.flatten_cons,List.flatten_nil,List.length_nil]
    split<;>simp<;>omega
   have p4:=p2.ch0 c24
   have hnx:∀ {w6:World},PW w1 g w6 b (out++(if j+1=0 then [] else [32,105,110,32,40])++joinS [44,32] (G.take (j+1)))→∃ m',m'<x.s.n-j∧∃ j':Nat,IntKind.i64.wrap ((j:Int)+1)=(j':Int)∧m'=x.s.n-j'∧j'≤x.s.n-1∧PW w1 g w6 b (out++(if j'=0 then [] else [32,105,110,32,40])++joinS [44,32] (G.take j')):=fun h=>by
    rw [wrap_id (by omega) (by omega)]
    exact ⟨x.s.n-(j+1),by omega,j+1,by omega,rfl,by omega,h⟩
   have ld5:∀ {w':World} {K2:Int→Int→ByteArray→Option Addr→Nat→Nat→Int→Prop},blk w' w2.heap.size=some y.g→K2 y.x.k (y.x.n:Int) ⟨y.x.t.toArray⟩ y.x.s.p y.x.s.n y.x.s.c y.x.e →
    ∃ n,w'.cell? ⟨w2.heap.size,2,none⟩=some (.int .i64 n)∧∃ n1,w'.cell? ⟨w2.heap.size,3,none⟩=some (.int .u64 n1)∧∃ s,w'.cell? ⟨w2.heap.size,4,none⟩=some (.string s)∧∃ p n2 c,w'.cell? ⟨w2.heap.size,5,none⟩=some (.slice p n2 c)∧∃ n3,w'.cell? ⟨w2.heap.size,6,none⟩=some (.int .i64 n3)∧K2 n n1 s p n2 c n3:=fun {w' K2} hb hk2 =>
    ⟨_,cellP hb 2 (by cases y; rfl),_,cellP hb 3 (by cases y; rfl),_,cellP hb 4 (by cases y; rfl),_,_,_,cellP hb 5 (by cases y; rfl),_,cellP hb 6 (by cases y; rfl),hk2⟩
   refine ld5 (w':=w4.drew) b4 ⟨?_,?_⟩
   ·refine newB_blk fun w5 b5 c5 z5=>?_
    have b45:=(c5.blk (blk_lt b4) id).trans b4
    refine ⟨ld5 b45 rfl,hmin.1,hmin.2,_,(by rw [add_at]; exact hcell b5),?_⟩
    rw [vv]
    have c05:=(Ch.drew w4).trans' c5
    refine constant_ok hF hyn hyv hyD (E1.hL.ch (p4.ch0 c05).ch (by rintro z hz (e | e); have:=E1.hb; omega; have:=E1.hg z e; omega)) fun w6 c6=>⟨_,rfl,⟨_,(by rw [add_at]; exact hcell ((c6.blk (blk_lt b5) id).trans b5)),rfl⟩,?_⟩
    rw [← hypr]
    exact fin ((p4.ch0 c05).ch0 c6) fun w7 p7=>⟨rfl,hnx p7⟩
   ·rw [vv]
    refine constant_ok hF hyn hyv hyD (E1.hL.ch (p4.ch0 (Ch.drew w4)).ch (by rintro z hz (e | e); have:=E1.hb; omega; have:=E1.hg z e; omega)) fun w6 c6=>⟨_,rfl,?_⟩
    refine newB_blk fun w5 b5 c5 z5=>?_
    refine ⟨hmin.1,hmin.2,_,(by rw [add_at]; exact hcell b5),?_⟩
    rw [← hypr]
    exact fin (((p4.ch0 (Ch.drew w4)).ch0 c6).ch0 c5) fun w7 p7=>⟨rfl,hnx p7⟩
  ·have hj2:j=G.length:=by have:=of_decide_eq_false hge; have e1:Int.toNat 1=1:=rfl; rw [e1] at this; omega
   rw [hj2,List.take_length,if_neg (by omega)] at p2
   simp only [List.length_append,List.length_cons,List.length_nil] at hl
   refine pput_new p2 [[41]] rfl rfl (by first | omega | (simp only [List.length_append,List.length_cons,List.length_nil,List.flatten_cons,List.flatten_nil,List.append_nil]; omega)) (by simp) fun w3 p3=>⟨rfl,hk _ (back _ _ ?_)⟩
   simpa [List.append_assoc] using p3
 rw [if_neg (of_decide_eq_false h13)] at hl hk
 refine Sif_cases (fun h14=>?_) (fun h14=>?_)
 ·have h14:=of_decide_eq_true h14
  rw [if_pos h14] at hl hk
  simp only [List.length_append,List.length_cons,List.length_nil] at hl
  refine ⟨_,TV.c1 b1,quote_ok hgt fun w2 c2=>⟨_,rfl,?_⟩⟩
  refine pput_new (p1.ch0 c2) [[32,108,105,107,101,32],quoS 39 x.t] rfl rfl (by first | omega | (simp only [List.length_append,List.length_cons,List.length_nil,List.flatten_cons,List.flatten_nil,List.append_nil]; omega)) (by simp) fun w3 p3=>⟨rfl,?_⟩
  refine ⟨_,TV.v0 (p3.box b1 hne),?_⟩
  rw [bne,intEq]
  rw [hmk.1,hmk.2] at hl hk
  refine Sif_cases (fun h0=>?_) (fun h0=>?_)
  ·have h0:¬ x.x.k=0:=by simpa using h0
   rw [if_neg h0] at hl hk
   simp only [List.length_append,List.length_cons,List.length_nil] at hl
   refine ⟨_,TV.v2 (p3.box b1 hne),quote_ok hgv fun w4 c4=>⟨_,rfl,?_⟩⟩
   refine pput_new (p3.ch0 c4) [[32,101,115,99,97,112,101,32],quoS 39 x.x.t] rfl rfl (by first | omega | (simp only [List.length_append,List.length_cons,List.length_nil,List.flatten_cons,List.flatten_nil,List.append_nil]; omega)) (by simp) fun w5 p5=>⟨rfl,hk _ (back _ _ ?_)⟩
   simpa [List.append_assoc] using p5
  ·have h0:x.x.k=0:=by simpa using h0
   rw [if_pos h0] at hl hk
   refine hk _ (back _ _ ?_)
   simpa [List.append_assoc] using p3
 rw [if_neg (of_decide_eq_false h14)] at hl hk
 refine Sif_cases (fun h15=>?_) (fun h15=>?_)
 ·rw [if_pos (of_decide_eq_true h15)] at hl hk
  refine pput_new p1 [[32,105,115,32,110,117,108,108]] rfl rfl (by first | omega | (simp only [List.length_append,List.length_cons,List.length_nil,List.flatten_cons,List.flatten_nil,List.append_nil]; omega)) (by simp) fun w3 p3=>⟨rfl,hk _ (back _ _ (by simpa using p3))⟩
 rw [if_neg (of_decide_eq_false h15)] at hl hk
 have h12:=of_decide_eq_false h12
 have h13:=of_decide_eq_false h13
 have h14:=of_decide_eq_false h14
 have h15:=of_decide_eq_false h15
 have hsg:hasSign x.k:=by unfold hasSign; omega
 have hn2:x.s.n=2:=by
  rw [← hln]
  unfold arity at har
  rw [if_neg (by omega),if_neg (by omega),if_neg (by omega),if_neg (by omega)] at har
  simp only [Bool.and_eq_true,decide_eq_true_eq] at har
  exact har.2
 simp only [List.length_append] at hl
 refine ⟨_,TV.c0 b1,signs_ok hsg fun w2 c2=>⟨_,rfl,?_⟩⟩
 refine pput_new (p1.ch0 c2) [sgnS x.k] rfl rfl (by first | omega | (simp only [List.length_append,List.length_cons,List.length_nil,List.flatten_cons,List.flatten_nil,List.append_nil]; omega)) (by simp) fun w3 p3=>⟨rfl,?_⟩
 refine ⟨_,_,_,TV.c7 (p3.box b1 hne),by decide,by omega,prt 1 (by omega) p3 (by first | omega | (simp only [List.length_append,List.length_cons,List.length_nil,List.flatten_cons,List.flatten_nil,List.append_nil]; omega)) fun w5 p5=>⟨rfl,hk _ (back _ _ ?_)⟩⟩
 simpa [List.append_assoc] using p5
end Go.Proofs.YtnmlmicmhpkbeaaGreatDoor
namespace Go.Proofs.YtnmlmicmhpkbeaaGreatDoor
open Go Go.Sv Go.Note
set_option linter.unusedVariables false
attribute [local irreducible] Sif
variable {B:Prop}
theorem runB_len (n:Int):(runB n).length≤4:=by
 have key:∀ c:Nat,(if c<0x80 then (⟨#[UInt8.ofNat c]⟩:ByteArray)
  else if c<0x800 then ⟨#[UInt8.ofNat (0xC0+c / 64),UInt8.ofNat (0x80+c%64)]⟩
  else if c<0x10000 then ⟨#[UInt8.ofNat (0xE0+c / 4096),UInt8.ofNat (0x80+c / 64%64),UInt8.ofNat (0x80+c%64)]⟩
  else ⟨#[UInt8.ofNat (0xF0+c / 262144),UInt8.ofNat (0x80+c / 4096%64),UInt8.ofNat (0x80+c / 64%64),UInt8.ofNat (0x80+c%64)]⟩).data.toList.length≤4:=by
  intro c
  split
  ·simp
  ·split
   ·simp
   ·split<;>simp
 exact key _
theorem okW_of (F:B→Fl) {v:M} (hn:v.n<2^64) (ht:v.t.length≤2^40) (hb:v.k=5∨v.k=10∨v.k=11→B):okW B (ofW v):=by
 have hi:∀ {n:Nat},n<2^64→okW B (.int (toI n)):=fun {n} hn=>by
  show -9223372036854775808≤toI n∧toI n≤9223372036854775807
  unfold toI
  split<;>omega
 unfold ofW
 split; · trivial
 split; · trivial
 split; · trivial
 split; · exact hi hn
 split
 ·split
  ·have h5:v.k=5:=by assumption
   exact ⟨hb (.inl h5),(F (hb (.inl h5))).ofOk hn⟩
  ·exact ⟨by omega,by omega⟩
 rename_i hch _ _ _
 split
 ·rename_i h10
  split
  ·trivial
  ·rename_i h255
   have hB:=hb (.inr (.inl h10))
   have hn32:=num10 (v:=v) (by simpa using hch) h10
   obtain ⟨y,w',_,_,hy,h⟩:=(F hB).conv (x:=v.n) (by omega) default
   rw [if_neg h255] at h
   exact ⟨hB,by rw [← h.2]; exact h.1,by rw [← h.2]; exact hy⟩
 split
 ·rename_i h11
  unfold finW
  split
  ·rename_i hf
   exact ⟨hb (.inr (.inr h11)),hf,hn⟩
  ·trivial
 split; · exact ht
 split
 ·show (runB (v.n:Int)).length≤2^40
  have:=runB_len (v.n:Int)
  omega
 ·trivial
theorem okW_B (hB:B) {a:W} (h:okW True a):okW B a:=by
 cases a<;>first | trivial | exact h | exact ⟨hB,h.2⟩
theorem okW_T {a:W} (h:okW B a):okW True a:=by
 cases a<;>first | trivial | exact h | exact ⟨trivial,h.2⟩
theorem okW_all (l:List W) (d:Bool):okW B (allW l d):=by
 unfold allW
 split
 ·trivial
 ·split<;>trivial
theorem okW_cmp (k:Int) (a b:W):okW B (cmpW k a b):=by
 unfold cmpW
 split
 ·split<;>trivial
 ·split<;>trivial
inductive SG (B:Prop):TV→Prop where
 | mk {k:Int} {t:Bs} {v:MV} {s:SL} {l:List TV}:v.m.fits→v.m.sz≤2^39→t.length≤2^40→(k=1→v.k=5∨v.k=10∨v.k=11→B)→(16≤k→B)→arity k l.length=true→l.length≤2^40→(∀ y∈l,SG B y)→SG B (.mk k t v s l)
theorem SG.inv {x:TV} (h:SG B x):x.x.m.fits∧x.x.m.sz≤2^39∧x.t.length≤2^40∧(x.k=1→x.x.k=5∨x.x.k=10∨x.x.k=11→B)∧(16≤x.k→B)∧arity x.k x.l.length=true∧x.l.length≤2^40∧∀ y∈x.l,SG B y:=by
 cases h with | mk a b c d e f i g=>exact ⟨a,b,c,d,e,f,i,g⟩
theorem MV.lens {v:MV} (hf:v.m.fits) (hs:v.m.sz≤2^39):v.n<18446744073709551616∧v.t.length≤2^40:=by
 cases v with
 | mk k n t s e l =>
  rw [MV.m_mk] at hf hs
  rw [M.sz_mk] at hs
  cases hf with
  | mk h1 h2=>exact ⟨h1,by show t.length≤_; omega⟩
theorem okW_kids (F:B→Fl) {k:Int} {t:Bs} {v:M} {l:List W} (hB:16≤k→B) (h:∀ a∈l,okW B a):okW B (kidsW k t v l):=by
 have g0:∀ i,okW B (l.getD i .unk):=fun i=>by
  rw [List.getD_eq_getElem?_getD]
  cases hi:l[i]? with
  | none=>trivial
  | some a=>exact h a (List.mem_of_getElem? hi)
 unfold kidsW
 simp only
 split
 ·unfold notW; split<;>trivial
 split; · exact okW_all _ _
 split; · exact okW_all _ _
 split; · exact okW_all _ _
 split; · exact okW_all _ _
 split
 ·unfold fitW; split<;>trivial
 split; · trivial
 split
 ·rename_i h20
  have hb:=hB (by omega)
  split
  ·rename_i x hx
   have:=g0 0
   rw [hx] at this
   exact ⟨hb,(F hb).negOk this.2.1 this.2.2⟩
  ·exact okW_B hb ((F hb).reckOk (a:=.int 0) ⟨by omega,by omega⟩ (okW_T (g0 0)))
 split
 ·rename_i h16
  have hb:=hB (by omega)
  exact okW_B hb ((F hb).reckOk (okW_T (g0 0)) (okW_T (g0 1)))
 ·exact okW_cmp _ _ _
theorem says_eq (look:Bs→M) (k:Int) (t:Bs) (v:MV) (s:SL) (l:List TV):(TV.mk k t v s l).m.says look=if k=1 then ofW v.m else if k=2 then ofW (look t) else kidsW k t v.m (l.map fun y=>y.m.says look):=by
 rw [TV.m_mk,T.says,T.saysL_map,List.map_map]; rfl
theorem okW_says (F:B→Fl) {look:Bs→M} (hl:∀ s,(look s).fits∧(look s).sz≤2^39∧((look s).k=5∨(look s).k=10∨(look s).k=11→B)):∀ x:TV,SG B x→okW B (x.m.says look):=by
 have lens:∀ {v:M},v.fits→v.sz≤2^39→v.n<2^64∧v.t.length≤2^40:=fun {v} hf hs=>by
  cases v with
  | mk k n t e l =>
   rw [M.sz_mk] at hs
   cases hf with
   | mk h1 h2=>exact ⟨h1,by show t.length≤_; omega⟩
 refine TV.ind fun k t v s l ih=>?_
 intro h
 obtain ⟨h1,h2,h3,h4,h5,h6,_,h7⟩:=h.inv
 rw [says_eq]
 split
 ·rename_i hk
  obtain ⟨a,b⟩:=lens (v:=v.m) h1 h2
  refine okW_of F a b fun hh=>h4 hk ?_
  rw [v.mf.1] at hh; exact hh
 split
 ·obtain ⟨a,b,c⟩:=hl t
  obtain ⟨d,e⟩:=lens a b
  exact okW_of F d e c
 ·refine okW_kids F h5 fun a ha=>?_
  obtain ⟨y,hy,rfl⟩:=List.mem_map.1 ha
  exact ih y hy (h7 y hy)
def WE:El W where
 g:=fun w=>[w.val]
 sz:=1
 B:=fun _=>[]
 Ok:=fun _ _=>True
 glen:=fun _=>rfl
 gone:=fun a v hv=>by
  rw [List.mem_singleton.1 hv]
  cases a<;>rfl
 ch:=fun _ _ _=>trivial
 lt:=fun _ b hb=>by cases hb
 nd:=fun _=>List.nodup_nil
theorem WE_flat (R:List W):R.flatMap WE.g=R.map W.val:=by
 induction R with
 | nil=>rfl
 | cons a R ih=>rw [List.flatMap_cons,ih,List.map_cons]; rfl
theorem uWs:Tryz.prog.underlying 125=some (.slice 83):=by kernel_rfl
theorem iW:InfoIs Tryz.prog 83 1 16 .nilIface:=.of (by kernel_rfl) (by kernel_rfl) (by kernel_rfl)
theorem oneW (a:W):oneV a.val=true:=by cases a<;>rfl
theorem wrd_sub {w:World} {p:Option Addr} {n c:Nat} {xs:List Value} (h:Rd w p n 1 xs) {j:Nat} (hj:j≤n) (hc:n≤c):Rd w (subA p j c 1) (n-j) 1 (xs.drop j):=by
 obtain ⟨h1,h2⟩:=h
 refine ⟨by rw [List.length_drop,h1]; omega,?_⟩
 rcases h2 with h2 | ⟨b,o,cs,rfl,hb,hl,ht⟩
 ·exact .inl (by omega)
 ·by_cases hjc:n*1-j*1=0
  ·exact .inl (by omega)
  ·refine .inr ⟨b,o+j,cs,?_,hb,by omega,?_⟩
   ·unfold subA
    rw [if_neg (by omega)]
    simp
   ·rw [← ht,List.drop_take,List.drop_drop]
    congr 1
    omega
structure GG (B:Prop) (g:GV):Prop where
 mid:g.mid.m.sz≤2^39
 cor:g.cor.m.sz≤2^39
 app:g.app.m.sz≤2^39
 look:∀ s,(lookB g.m s).fits∧(lookB g.m s).sz≤2^39∧((lookB g.m s).k=5∨(lookB g.m s).k=10∨(lookB g.m s).k=11→B)
def SayOK (B:Prop) (g:GV) (x:TV):Prop:=∀ {Q Q':Nat→Prop} {w:World} {K:Value→World→Prop},LW w→TR Q w x→GR Q' w g→(∀ w',Ch (fun _=>False) w w'→K (x.m.says (lookB g.m)).val w')→callP Tryz.prog 50 [x.v,g.v] w K
set_option maxHeartbeats 1000000 in
theorem says_ok (F:B→Fl) {g:GV} (hg:GG B g):∀ x:TV,SG B x→SayOK B g x:=by
 refine TV.ind fun k t v s l ih=>?_
 intro hx Q Q' w K hL hr hgr hk
 have hokx:=okW_says F hg.look
 obtain ⟨hf,hsz,htl,h5,hB,har,hl40,hkids⟩:=hx.inv
 have har:arity k l.length=true:=har
 have hB:16≤k→B:=hB
 have hX:(TV.mk k t v s l).k=k:=rfl
 rw [says_eq] at hk
 rw [← tvv]
 apply ok_sieve_says
 refine newB_blk fun w1 b1 c1 z1=>?_
 have b1:blk w1 w.heap.size=some (TV.mk k t v s l).g:=b1
 refine asAgg_of g.glen ?_
 refine newB_blk fun w2 b2 c2 z2=>?_
 have c02:=c1.trans' c2
 have b12:=(c2.blk (blk_lt b1) id).trans b1
 have hL2:LW w2:=hL.ch c02 fun _ _ h=>h
 have ldg:∀ {w':World},Ch (fun _=>False) w2 w'→∀ {K2:List Value→Prop},K2 g.g→ldBig w' ⟨w1.heap.size,0,none⟩ 56 K2:=fun {w'} c {K2} hk2=>by
  have:=ldBig_of (o:=0) (n:=56) (K:=K2) ((c.blk (blk_lt b2) id).trans b2) (by rw [g.glen]; decide) (by rw [List.drop_zero,List.take_of_length_le (by rw [g.glen]; decide)]; exact hk2)
  rwa [add_at] at this
 refine ⟨_,TV.c0 b12,?_⟩
 rw [hX]
 simp only [intEq]
 refine Sif_cases (fun h1=>?_) (fun h1=>?_)
 ·have h1:=of_decide_eq_true h1
  rw [if_pos h1] at hk
  refine TV.ldV b12 ?_
  rw [show Value.agg (Array.mk [.int .i64 (TV.mk k t v s l).x.k,.int .u64 ((TV.mk k t v s l).x.n:Int),.string ⟨(TV.mk k t v s l).x.t.toArray⟩,.slice (TV.mk k t v s l).x.s.p (TV.mk k t v s l).x.s.n (TV.mk k t v s l).x.s.c,.int .i64 (TV.mk k t v s l).x.e])=v.v from vv v]
  exact of_ok F hf (Nat.le_trans hsz (by decide)) (fun hh=>h5 h1 (.inr hh)) (MV.lens hf hsz).1 hL2 (VR.ch0 c02 hr.inv.1) fun w3 c3=>⟨_,rfl,hk w3 (c02.trans' c3)⟩
 rw [if_neg (of_decide_eq_false h1)] at hk
 refine Sif_cases (fun h2=>?_) (fun h2=>?_)
 ·rw [if_pos (of_decide_eq_true h2)] at hk
  refine ldg (Ch.refl _ _) ?_
  refine ⟨_,TV.c1 b12,?_⟩
  refine Lookup_ok (x:=g) (s:=t) (hgr.ch0 c02) hg.mid hg.cor hg.app fun y w3 em ho hfr c3=>is5 ?_
  rw [vv]
  obtain ⟨l1,l2,l3⟩:=hg.look t
  rw [← em] at l1 l2 l3 hk
  obtain ⟨m1,m2,m3⟩:=y.mf
  rw [m1] at l3
  exact of_ok F l1 (Nat.le_trans l2 (by decide)) (fun hh=>l3 (.inr hh)) (MV.lens l1 l2).1 (hL.ch (c02.trans' c3) fun _ _ h=>h) (VO.vr' ho) fun w4 c4=>⟨_,rfl,hk w4 ((c02.trans' c3).trans' c4)⟩
 rw [if_neg (of_decide_eq_false h2)] at hk
 have h1:=of_decide_eq_false h1
 have h2:=of_decide_eq_false h2
 have hln:l.length=s.n:=hr.inv.2.1
 have hn46:s.n≤2^46:=hr.inv.2.2.1
 have hn40:s.n≤2^40:=hln▸hl40
 obtain ⟨S,hS⟩:∃ S:TV→W,S=fun y=>y.m.says (lookB g.m):=⟨_,rfl⟩
 rw [← hS] at hk
 refine ⟨_,_,_,TV.c7 b12,?_⟩
 refine ⟨fun f p n c i w3=>∃ (j:Nat) (own:Option Nat),i=(j:Int)∧f=s.n-j∧j≤s.n∧WE.Row w3 p n c own ((l.take j).map S)∧(∀ b,own=some b→w2.heap.size≤b)∧Ch (fun _=>False) w2 w3,⟨s.n,0,none,rfl,rfl,Nat.zero_le _,El.Row.nil (E:=WE),fun b hb=>(by cases hb),Ch.refl _ _⟩,?_⟩
 rintro f p n c i w3 ⟨j,own,rfl,rfl,hj,hR,hown,c23⟩
 have c03:=c02.trans' c23
 refine Sif_cases (fun hlt=>?_) (fun hge=>?_)
 ·have hjl:j<s.n:=by have:=of_decide_eq_true hlt; exact Int.ofNat_lt.1 this
  obtain ⟨y,b',o,hy,hmem,hp,_,hat,hy1⟩:=(TR.ch0 c03 hr).get (i:=j) hjl
  have hy:l[j]?=some y:=hy
  refine ⟨by omega,of_decide_eq_true hlt,?_⟩
  rw [hp]
  simp only [nn,Int.toNat_natCast]
  refine rdE hat ?_
  refine newB_blk fun w4 b4 c4 z4=>?_
  simp only [add_at,Nat.zero_add]
  refine st8 (x:=y) b4 rfl fun w5 b5 c5 z5=>?_
  have c35:Ch (fun _=>False) w3 w5:=c4.trans c5 fun x hx h=>by omega
  have c25:=c23.trans' c35
  refine ld8 (x:=y) b5 ?_
  rw [tvv]
  have hl0:=ldg c25 (K2:=fun vs=>vs=g.g) rfl
  refine ldg c25 ?_
  refine ih y hmem (hkids y hmem) (hL.ch (c02.trans' c25) fun _ _ h=>h) (TR.ch0 c35 hy1) (hgr.ch0 (c02.trans' c25)) fun w6 c6=>⟨_,rfl,?_⟩
  rw [oneW]
  refine Sif_true ?_
  have c36:=c35.trans' c6
  have hR6:WE.Row w6 p n c own ((l.take j).map S):=El.Row.ch hR c36 fun _ _ h=>h
  have hnj:((l.take j).map S).length=n:=hR.1
  have hnj2:n=j:=by rw [← hnj,List.length_map,List.length_take]; omega
  refine El.Row.push (E:=WE) (x:=y.m.says (lookB g.m)) (T:=125) (ty:=125) (e:=83) (te:=83) uWs iW rfl hR6 trivial (fun b hb=>by cases hb) (by omega) (by omega) fun p' c' own' w7 hR7 hB7 c7=>?_
  rw [wrap_id (by omega) (by omega)]
  refine ⟨s.n-(j+1),by omega,j+1,own',by omega,rfl,by omega,?_,fun b hb=>?_,(c23.trans' c36).trans c7 fun b hb h=>?_⟩
  ·rw [List.take_add_one,hy,List.map_append]
   rw [hS] at hR7 ⊢
   exact hR7
  ·rcases hB7 b ((El.mem_rowB (E:=WE)).2 (.inl hb)) with h | h | h
   ·rcases (El.mem_rowB (E:=WE)).1 h with h | ⟨_,_,h⟩
    ·exact hown b h
    ·cases h
   ·cases h
   ·have:=c23.size; have:=c36.size; omega
  ·have:=hown b h; omega
 ·have hj2:j=l.length:=by
   have:=of_decide_eq_false hge
   have h':¬ (j:Int)<(s.n:Int):=this
   omega
  rw [hj2,List.take_length] at hR
  obtain ⟨R,hRe⟩:∃ R,R=l.map S:=⟨_,rfl⟩
  rw [← hRe] at hR hk
  have okR:∀ a∈R,okW B a:=fun a ha=>by
   rw [hRe] at ha
   obtain ⟨y,hy,rfl⟩:=List.mem_map.1 ha
   rw [hS]
   exact hokx y (hkids y hy)
  have hRn:R.length=n:=hR.1
  have hRl:R.length=l.length:=by rw [hRe,List.length_map]
  have hL3:LW w3:=hL.ch c03 fun _ _ h=>h
  have b13:=(c23.blk (blk_lt b12) id).trans b12
  have how:Ow w3 p n c 1 (R.map W.val) own:=by have:=hR.2.1; rwa [WE_flat] at this
  have hrd:Rd w3 p n 1 (R.map W.val):=how.rd
  have ar:∀ m,arity k R.length=decide (m=R.length)→n=m:=fun m h=>by
   rw [hRl] at h
   rw [har] at h
   have:=of_decide_eq_true h.symm
   omega
  have hpos:0<n:=by
   rw [← hRn,hRl]
   apply Nat.pos_of_ne_zero
   intro h0
   rw [h0] at har
   unfold arity at har
   rw [if_neg (by omega)] at har
   split at har
   ·simp at har
   ·split at har
    ·simp at har
    ·split at har
     ·simp at har
     ·simp at har
  obtain ⟨b0,o0,hp,_⟩:=hrd.cell (i:=0) (by omega)
  subst hp
  have getOk:∀ i,okW B (R.getD i .unk):=fun i=>by
   rw [List.getD_eq_getElem?_getD]
   cases hi:R[i]? with
   | none=>trivial
   | some a=>exact okR a (List.mem_of_getElem? hi)
  have hc:∀ i,i<n→∀ {w':World},Ch (fun _=>False) w3 w'→w'.cell? ⟨b0,o0+i,none⟩=some (R.getD i .unk).val:=fun i hi w' cw=>by
   obtain ⟨b1,o1,e1,h⟩:=(hrd.ch cw fun _ _ _ h=>h).cell (i:=i) (by omega)
   cases e1
   rw [h,List.getElem?_map,List.getD_eq_getElem?_getD,List.getElem?_eq_getElem (by omega)]
   rfl
  have r3:Ch (fun _=>False) w3 w3:=Ch.refl _ _
  have fin:∀ {w':World},Ch (fun _=>False) w3 w'→K (kidsW k t v.m R).val w':=fun c=>hk _ (c03.trans' c)
  refine ⟨_,TV.c0 b13,?_⟩
  rw [hX]
  simp only [nn]
  unfold kidsW at fin
  simp only at fin
  have e0:o0+0=o0:=rfl
  refine Sif_cases (fun h3=>?_) (fun h3=>?_)
  ·rw [if_pos (of_decide_eq_true h3)] at fin
   refine ⟨by decide,by omega,_,(by rw [add_at]; exact hc 0 hpos r3),?_⟩
   exact wnot_ok ⟨_,rfl,fin r3⟩
  rw [if_neg (of_decide_eq_false h3)] at fin
  refine Sif_cases (fun h4=>?_) (fun h4=>?_)
  ·rw [if_pos (of_decide_eq_true h4)] at fin
   exact all_ok hrd false (by omega) ⟨_,rfl,fin r3⟩
  rw [if_neg (of_decide_eq_false h4)] at fin
  refine Sif_cases (fun h5'=>?_) (fun h5'=>?_)
  ·rw [if_pos (of_decide_eq_true h5')] at fin
   exact all_ok hrd true (by omega) ⟨_,rfl,fin r3⟩
  rw [if_neg (of_decide_eq_false h5')] at fin
  have h3:=of_decide_eq_false h3
  have h4:=of_decide_eq_false h4
  have h5':=of_decide_eq_false h5'
  refine Sif_cases (fun h12=>?_) (fun h12=>?_)
  ·have h12:=of_decide_eq_true h12
   rw [if_pos h12] at fin
   have hn3:n=3:=ar 3 (by unfold arity; rw [if_neg (by omega),if_neg (by omega),if_neg (by omega),if_pos h12]; exact decide_eq_decide.2 (by omega))
   have rd:=Ch.drew (S:=fun _=>False) w3
   refine ⟨by decide,by omega,by decide,by omega,by decide,by omega,by decide,by omega,_,(by rw [add_at]; exact hc 0 hpos rd),_,(by rw [add_at]; exact hc 1 (by omega) rd),_,(by rw [add_at]; exact hc 0 hpos rd),_,(by rw [add_at]; exact hc 2 (by omega) rd),?_⟩
   refine compare_ok F (by decide) (getOk 0) (getOk 1) fun w4 c4=>⟨_,rfl,⟨_,(by rw [add_at]; exact hc 2 (by omega) (rd.trans' c4)),rfl⟩,⟨_,(by rw [add_at]; exact hc 0 hpos (rd.trans' c4)),rfl⟩,?_⟩
   refine compare_ok F (by decide) (getOk 0) (getOk 2) fun w5 c5=>⟨_,rfl,?_⟩
   rw [oneW,oneW]
   refine Sif_true (Sif_true ?_)
   refine newB_blk fun w6 b6 c6 z6=>?_
   have hr6:Rd w6 (some ⟨w5.heap.size,0,none⟩) 2 1 ([cmpW 11 (R.getD 0 .unk) (R.getD 1 .unk),cmpW 9 (R.getD 0 .unk) (R.getD 2 .unk)].map W.val):=⟨rfl,.inr ⟨w5.heap.size,0,_,rfl,blk_cells b6,by simp,by simp⟩⟩
   exact all_ok hr6 false (by decide) ⟨_,rfl,fin (((rd.trans' c4).trans' c5).trans' c6)⟩
  rw [if_neg (of_decide_eq_false h12)] at fin
  have h12:=of_decide_eq_false h12
  refine Sif_cases (fun h13=>?_) (fun h13=>?_)
  ·have h13:=of_decide_eq_true h13
   rw [if_pos h13] at fin
   have hn2:2≤n:=by
    rw [← hRn,hRl]
    rw [h13] at har
    simpa [arity] using har
   have hcap:n≤c:=how.2.1
   obtain ⟨f,hf'⟩:∃ f:W→W,f=cmpW 6 (R.getD 0 .unk):=⟨_,rfl⟩
   obtain ⟨G,hG⟩:∃ G:Nat→List W,G=fun i=>(List.range n).map fun j=>if 1≤j∧j≤i then f (R.getD j .unk) else R.getD j .unk:=⟨_,rfl⟩
   have G0:G 0=R:=by
    rw [hG]
    refine List.ext_getElem (by simp [hRn]) fun j h1 h2=>?_
    simp only [List.getElem_map,List.getElem_range]
    rw [if_neg (by omega),List.getD_eq_getElem?_getD,List.getElem?_eq_getElem h2]
    rfl
   have Gl:∀ i,(G i).length=n:=fun i=>by rw [hG]; simp
   have Gs:∀ i,i+1<n→(G i).set (i+1) (f (R.getD (i+1) .unk))=G (i+1):=fun i hi=>by
    rw [hG]
    refine List.ext_getElem (by simp) fun j h1 h2=>?_
    rw [List.getElem_set]
    simp only [List.getElem_map,List.getElem_range]
    by_cases hj:i+1=j
    ·rw [if_pos hj,if_pos (by omega),hj]
    ·rw [if_neg hj]
     by_cases h:1≤j∧j≤i
     ·rw [if_pos h,if_pos (by omega)]
     ·rw [if_neg h,if_neg (by omega)]
   have Gg:∀ i j,j<n→(G i)[j]?=some (if 1≤j∧j≤i then f (R.getD j .unk) else R.getD j .unk):=fun i j hj=>by
    rw [hG]
    simp only [List.getElem?_map,List.getElem?_range hj]
    rfl
   have hsub:subA (some ⟨b0,o0,none⟩) 1 c 1=some ⟨b0,o0+1,none⟩:=by
    unfold subA
    rw [if_neg (by omega)]
    simp
   refine ⟨by decide,by omega,fun q i w4=>∃ j:Nat,i=(j:Int)∧q=n-1-j∧j≤n-1∧Ow w4 (some ⟨b0,o0,none⟩) n c 1 ((G j).map W.val) own∧Ch (fun b=>own=some b) w3 w4,⟨n-1,0,rfl,rfl,Nat.zero_le _,by rw [G0]; exact how,Ch.refl _ _⟩,?_⟩
   rintro q i w4 ⟨j,rfl,rfl,hj,ho4,c4⟩
   have c34:Ch (fun _=>False) w w4:=c03.trans c4 fun b hb h=>by have:=hown b h; have:=c02.size; omega
   have hL4:LW w4:=hL.ch c34 fun _ _ h=>h
   have e1:Int.toNat 1=1:=rfl
   have cell4:∀ {w':World},Ch (fun _=>False) w4 w'→∀ m,m<n→w'.cell? ⟨b0,o0+m,none⟩=some (if 1≤m∧m≤j then f (R.getD m .unk) else R.getD m .unk).val:=fun {w'} cw m hm=>by
    obtain ⟨b1,o1,e1,h⟩:=(ho4.rd.ch cw fun _ _ _ h=>h).cell (i:=m) (by omega)
    cases e1
    rw [h,List.getElem?_map,Gg j m hm]; rfl
   refine Sif_cases (fun hlt=>?_) (fun hge=>?_)
   ·have hjl:j+1<n:=by have:=of_decide_eq_true hlt; rw [e1] at this; omega
    refine ⟨by omega,by omega,?_⟩
    rw [hsub]
    simp only [nn,Int.toNat_natCast]
    refine ⟨_,(by rw [add_at,show o0+1+j*1=o0+(j+1) by omega]; exact cell4 (Ch.refl _ _) (j+1) hjl),by decide,by omega,_,(by rw [add_at]; exact cell4 (Ch.refl _ _) 0 hpos),?_⟩
    rw [if_neg (by omega),if_neg (by omega)]
    refine compare_ok F (by decide) (getOk 0) (getOk (j+1)) fun w5 c5=>⟨_,rfl,?_⟩
    rw [wrap_id (n:=(j:Int)+1) (by omega) (by omega),oneW]
    refine ⟨by omega,by omega,Sif_true (Sif_true ?_)⟩
    have ho5:Ow w5 (some ⟨b0,o0,none⟩) n c 1 ((G j).map W.val) own:=ho4.ch c5 fun _ _ h=>h
    obtain ⟨k5,o5,e5,e6,hst⟩:=ho5.st (i:=j+1) (by omega)
    cases e5
    rw [show ((j:Int)+1).toNat=j+1 by omega,add_at,add_at,show o0+(j+1)*1+0=o0+(j+1) by omega]
    refine hst _ _ fun w6 ho6 c6 z6=>⟨n-1-(j+1),by omega,j+1,by omega,rfl,by omega,?_,(c4.trans' (c5.mono fun _ _ h=>h.elim)).trans' (c6.mono fun b _ h=>by rw [h]; exact e6)⟩
    rw [← Gs j hjl,List.map_set]
    rw [hf']
    exact ho6
   ·have hj2:j=n-1:=by have:=of_decide_eq_false hge; rw [e1] at this; omega
    refine ⟨by decide,by omega,?_⟩
    have hr4:=wrd_sub ho4.rd (j:=1) (by omega) hcap
    have eG:((G j).map W.val).drop 1=(R.tail.map f).map W.val:=by
     rw [← List.map_drop]
     congr 1
     refine List.ext_getElem (by simp [Gl,hRn]) fun m h1 h2=>?_
     have hm:m+1<n:=by rw [List.length_drop,Gl] at h1; omega
     rw [List.getElem_drop]
     have:=Gg j (m+1) hm
     rw [List.getElem?_eq_getElem (by rw [Gl]; omega),if_pos (by omega)] at this
     have:=Option.some.inj this
     rw [show (G j)[1+m]'(by rw [Gl]; omega)=(G j)[m+1]'(by rw [Gl]; omega) from by congr 1; omega,this,List.getElem_map,List.getElem_tail,List.getD_eq_getElem?_getD,List.getElem?_eq_getElem (by omega)]
     rfl
    rw [eG] at hr4
    rw [hf'] at hr4
    have hk13:=hk w4 c34
    unfold kidsW at hk13
    simp only at hk13
    rw [if_neg h3,if_neg h4,if_neg h5',if_neg h12,if_pos h13] at hk13
    exact all_ok hr4 true (by omega) ⟨_,rfl,hk13⟩
  rw [if_neg (of_decide_eq_false h13)] at fin
  have h13:=of_decide_eq_false h13
  refine Sif_cases (fun h14=>?_) (fun h14=>?_)
  ·have h14:=of_decide_eq_true h14
   rw [if_pos h14] at fin
   refine ⟨by decide,by omega,_,(by rw [add_at]; exact hc 0 hpos r3),_,_,ta_txt _ w3,?_⟩
   have hok0:=getOk 0
   cases ha:R.getD 0 W.unk with
   | txt q =>
    rw [ha] at fin hok0
    refine Sif_true ⟨_,TV.c1 b13,_,TV.v2 b13,?_⟩
    have mt:v.m.t=v.t:=v.mf.2.2
    refine like_ok (s:=q) (p:=t) (e:=v.t) hok0 htl hL3 fun w4 c4=>⟨_,rfl,?_⟩
    have:=fin c4
    rw [mt] at this
    exact this
   | _ =>
    rw [ha] at fin
    exact Sif_false (fin r3)
  rw [if_neg (of_decide_eq_false h14)] at fin
  have h14:=of_decide_eq_false h14
  refine Sif_cases (fun h15=>?_) (fun h15=>?_)
  ·have h15:=of_decide_eq_true h15
   rw [if_pos h15] at fin
   refine ⟨by decide,by omega,_,(by rw [add_at]; exact hc 0 hpos r3),?_,?_⟩
   ·cases R.getD 0 W.unk<;>rfl
   ·have e:isNilI (R.getD 0 W.unk).val=decide (R.getD 0 W.unk=.unk):=by cases R.getD 0 W.unk<;>rfl
    rw [e]
    exact fin r3
  rw [if_neg (of_decide_eq_false h15)] at fin
  have h15:=of_decide_eq_false h15
  refine Sif_cases (fun h20=>?_) (fun h20=>?_)
  ·have h20:=of_decide_eq_true h20
   rw [if_pos h20] at fin
   refine ⟨by decide,by omega,_,(by rw [add_at]; exact hc 0 hpos r3),_,_,ta_real _ w3,?_⟩
   have hbb:=hB (by rw [h20]; decide)
   have hok0:=getOk 0
   cases ha:R.getD 0 W.unk with
   | real q =>
    rw [ha] at fin
    exact Sif_true (fin r3)
   | _ =>
    rw [ha] at fin
    refine Sif_false ⟨by decide,by omega,_,(by rw [add_at]; exact hc 0 hpos r3),?_⟩
    rw [ha]
    rw [ha] at hok0
    exact (F hbb).reck (k:=17) (a:=.int 0) (by decide) (by decide) ⟨by decide,by decide⟩ (okW_T hok0) fun w4 c4=>⟨_,rfl,fin c4⟩
  rw [if_neg (of_decide_eq_false h20)] at fin
  have h20:=of_decide_eq_false h20
  have hkr:=arity_kind har
  have hn2:n=2:=ar 2 (by
   unfold arity
   rw [if_neg (by omega),if_neg (by omega),if_neg (by omega),if_neg (by omega),decide_eq_true (by omega),decide_eq_true (by omega)]
   simp only [Bool.true_and]
   exact decide_eq_decide.2 (by omega))
  have rd:=Ch.drew (S:=fun _=>False) w3
  refine ⟨fun bb w4=>w4=w3∧bb=decide (k=16∨k=17∨k=18∨k=19),?_,?_⟩
  ·rintro bb w4 ⟨rfl,rfl⟩
   refine Sif_cases (fun hs=>?_) (fun hs=>?_)
   ·have hs:=of_decide_eq_true hs
    rw [if_pos hs] at fin
    have hbb:=hB (by show 16≤k; omega)
    refine ⟨by decide,by omega,by decide,by omega,_,TV.c0 (w:=w4.drew) b13,_,(by rw [add_at]; exact hc 0 hpos rd),_,(by rw [add_at]; exact hc 1 (by omega) rd),?_⟩
    exact (F hbb).reck (k:=k) (by omega) (by omega) (okW_T (getOk 0)) (okW_T (getOk 1)) fun w5 c5=>⟨_,rfl,fin (rd.trans' c5)⟩
   ·have hs:=of_decide_eq_false hs
    rw [if_neg hs] at fin
    refine ⟨by decide,by omega,by decide,by omega,_,TV.c0 (w:=w4.drew) b13,_,(by rw [add_at]; exact hc 0 hpos rd),_,(by rw [add_at]; exact hc 1 (by omega) rd),?_⟩
    exact compare_ok F (k:=k) (by omega) (getOk 0) (getOk 1) fun w5 c5=>⟨_,rfl,fin (rd.trans' c5)⟩
  ·have yes:(k=16∨k=17∨k=18∨k=19)→true=decide (k=16∨k=17∨k=18∨k=19):=fun h=>(decide_eq_true h).symm
   refine Sif_cases (fun h=>⟨rfl,by rw [h]; exact yes (.inl (of_decide_eq_true h))⟩) fun e1=>?_
   refine Sif_cases (fun h=>⟨rfl,by rw [h]; exact yes (.inr (.inl (of_decide_eq_true h)))⟩) fun e2=>?_
   refine Sif_cases (fun h=>⟨rfl,by rw [h]; exact yes (.inr (.inr (.inl (of_decide_eq_true h))))⟩) fun e3=>?_
   refine ⟨rfl,decide_eq_decide.2 ?_⟩
   have e1:=of_decide_eq_false e1
   have e2:=of_decide_eq_false e2
   have e3:=of_decide_eq_false e3
   omega
end Go.Proofs.YtnmlmicmhpkbeaaGreatDoor
namespace Go.Proofs.YtnmlmicmhpkbeaaGreatDoor
open Go Go.Sv Go.Note
set_option linter.unusedVariables false
attribute [local irreducible] Sif
variable {B:Prop}
def wmv:W→MV
 | .unk=>zMV
 | .tru b=>flatM 1 (if b then 1 else 0) []
 | .int n=>flatM 9 (if n<0 then (n+2^64).toNat else n.toNat) []
 | .real x=>flatM 11 x []
 | .txt s=>flatM (if textB s then 19 else 18) 0 s
 | .odd=>zMV
theorem wmv_m (a:W):(wmv a).m=a.value:=by
 cases a<;>first | exact zMV_m | exact flatM_m _ _ _
theorem wmv_B (a:W):(wmv a).B=[]:=by
 cases a<;>first | exact zMV_B | exact flatM_B _ _ _
theorem wmv_ok (a:W) (w:World):VO w (wmv a):=by
 cases a<;>first | exact zMV_ok w | exact flatM_ok w _ _ _
theorem u64I (n:Int) (h:-9223372036854775808≤n∧n≤9223372036854775807):IntKind.wrap .u64 n=((if n<0 then (n+2^64).toNat else n.toNat:Nat):Int):=by
 have:IntKind.wrap .u64 n=n%18446744073709551616:=by simp [IntKind.wrap,IntKind.bits,IntKind.signed]
 rw [this]
 split<;>omega
theorem value_ok {a:W} (ha:okW B a) (hne:a≠.unk) {w:World} (hL:LW w) {K:Value→World→Prop} (hk:∀ w',Ch (fun _=>False) w w'→K (wmv a).v w'):callI Tryz.prog none a.val "longshore/sieve.value" [] w K:=by
 cases a with
 | unk=>exact absurd rfl hne
 | tru b =>
  refine ⟨86,.bool b,388,.bool b,rfl,by kernel_rfl,.inl ⟨by kernel_rfl,?_⟩⟩
  show callP _ _ _ _ _
  apply ok_sieve_truth_value
  refine newB_blk fun w1 b1 c1 z1=>?_
  refine nbx (x:=flatM 1 0 []) rfl fun w2 b2 c2 z2=>?_
  have b12:blk w2 w.heap.size=some zMV.g:=(c2.blk (blk_lt b1) id).trans b1
  have c02:=c1.trans' c2
  refine ⟨fun w3=>blk w3 w1.heap.size=some (flatM 1 (if b then 1 else 0) []).g∧blk w3 w.heap.size=some zMV.g∧Ch (fun _=>False) w w3,?_,?_⟩
  ·rintro w3 ⟨b3,b13,c3⟩
   refine ldK b3 ?_
   exact ret5 (x:=flatM 1 (if b then 1 else 0) []) b13 rfl fun w4 b4 c4 z4=>hk w4 (c3.trans c4 fun y hy h=>by omega)
  ·simp only [add_at,Nat.zero_add,Nat.add_zero]
   cases b with
   | true =>
    refine Sif_true ?_
    exact st_blk b2 (by simp [flatM,MV.g]) fun w3 b3 c3 z3=>⟨b3,(c3.blk (blk_lt b12) (by omega)).trans b12,c02.trans c3 fun y hy h=>by omega⟩
   | false=>exact Sif_false ⟨b2,b12,c02⟩
 | int n =>
  refine ⟨133,.int .i64 n,391,.int .i64 n,rfl,by kernel_rfl,.inl ⟨by kernel_rfl,?_⟩⟩
  show callP _ _ _ _ _
  apply ok_sieve_integer_value
  refine newB_blk fun w1 b1 c1 z1=>?_
  have hk:∀ w',Ch (fun _=>False) w w'→K (flatM 9 (if n<0 then (n+2^64).toNat else n.toNat) []).v w':=hk
  rw [u64I n ha]
  generalize (if n<0 then (n+2^64).toNat else n.toNat)=q at hk ⊢
  exact ret5 (x:=flatM 9 q []) b1 rfl fun w4 b4 c4 z4=>hk w4 (c1.trans c4 fun y hy h=>by omega)
 | real x =>
  refine ⟨131,.float .f64 x,390,.float .f64 x,rfl,by kernel_rfl,.inl ⟨by kernel_rfl,?_⟩⟩
  show callP _ _ _ _ _
  apply ok_sieve_real_value
  refine newB_blk fun w1 b1 c1 z1=>?_
  refine ⟨.int .u64 x,w1,?_,_,rfl,?_⟩
  ·rw [run_callFunc_extern Tryz.func46 (by kernel_rfl) (by kernel_rfl) (by kernel_rfl) (e:=Extern.MathFloatBits.float64bits) (by kernel_rfl)]
   rfl
  exact ret5 (x:=flatM 11 x []) b1 rfl fun w4 b4 c4 z4=>hk w4 (c1.trans c4 fun y hy h=>by omega)
 | txt s =>
  have hs:s.length≤2^40:=ha
  refine ⟨129,.string ⟨s.toArray⟩,389,.string ⟨s.toArray⟩,rfl,by kernel_rfl,.inl ⟨by kernel_rfl,?_⟩⟩
  show callP _ _ _ _ _
  apply ok_sieve_words_value
  refine newB_blk fun w1 b1 c1 z1=>?_
  have hL1:LW w1:=hL.ch c1 fun _ _ h=>h
  refine oUtf8_ok (by rw [sz3]; omega) hL1.ut hL1.size fun x w2 c2 hpl=>⟨_,rfl,?_⟩
  rw [sl3] at hpl
  have hpl:(textB s=true→x=-1)∧(textB s=false→0≤x):=hpl
  have b2:=(c2.blk (blk_lt b1) id).trans b1
  have c02:=c1.trans' c2
  have hk:∀ w',Ch (fun _=>False) w w'→K (flatM (if textB s then 19 else 18) 0 s).v w':=hk
  cases ht:textB s with
  | true =>
   have:=hpl.1 ht
   rw [ht] at hk
   refine Sif_cases (fun h=>by have:=of_decide_eq_true h; omega) (fun _=>?_)
   exact ret5 (x:=flatM 19 0 s) b2 rfl fun w4 b4 c4 z4=>hk w4 (c02.trans c4 fun y hy h=>by omega)
  | false =>
   have:=hpl.2 ht
   rw [ht] at hk
   refine Sif_cases (fun _=>?_) (fun h=>by have:=of_decide_eq_false h; omega)
   exact ret5 (x:=flatM 18 0 s) b2 rfl fun w4 b4 c4 z4=>hk w4 (c02.trans c4 fun y hy h=>by omega)
 | odd =>
  refine ⟨182,.agg (Array.mk []),392,.agg (Array.mk []),rfl,by kernel_rfl,.inl ⟨by kernel_rfl,?_⟩⟩
  show callP _ _ _ _ _
  apply ok_sieve_strange_value
  refine newB_blk fun w0 b0 c0 z0=>?_
  refine newB_blk fun w1 b1 c1 z1=>?_
  exact ret5 (x:=zMV) b1 rfl fun w4 b4 c4 z4=>hk w4 ((c0.trans' c1).trans c4 fun y hy h=>by omega)
theorem isI_val (a:W):isI a.val=true:=by cases a<;>rfl
theorem isNil_val (a:W):isNilI a.val=decide (a=.unk):=by cases a<;>rfl
theorem Eval_ok (F:B→Fl) {g:GV} (hg:GG B g) {x:TV} (hgx:TG x) (hsx:x.m.check=0→SG B x) {Q Q':Nat→Prop} {w:World} (hL:LW w) (hx:TR Q w x) (hgr:GR Q' w g) {K:Value→World→Prop}
 (hk:∀ (y:MV) (w':World),y.m=evalB (lookB g.m) x.m→VO w' y→y.B=[]→Ch (fun _=>False) w w'→K y.v w'):callP Tryz.prog 19 [x.v,g.v] w K:=by
 rw [← tvv]
 apply ok_sieve_Eval
 refine newB_blk fun w1 b1 c1 z1=>?_
 have b1:blk w1 w.heap.size=some x.g:=b1.trans (by cases x; rfl)
 refine asAgg_of g.glen ?_
 refine newB_blk fun w2 b2 c2 z2=>?_
 refine newB_blk fun w3 b3 c3 z3=>?_
 have b3:blk w3 w2.heap.size=some zMV.g:=b3
 have c13:=c2.trans' c3
 have c03:=c1.trans' c13
 have b13:=(c13.blk (blk_lt b1) id).trans b1
 have b23:=(c3.blk (blk_lt b2) id).trans b2
 refine ld8a b13 ?_
 rw [tvv]
 refine Check_ok (hL.ch c03 fun _ _ h=>h) (TR.ch0 c03 hx) hgx fun w4 c4=>⟨_,rfl,?_⟩
 have c04:=c03.trans' c4
 have b14:=(c4.blk (blk_lt b13) id).trans b13
 have b24:=(c4.blk (blk_lt b23) id).trans b23
 have b34:=(c4.blk (blk_lt b3) id).trans b3
 have hs1:=c1.size
 have hs2:=c2.size
 unfold evalB at hk
 rw [show (((T.check x.m:Nat):Int) != 0)=!decide (T.check x.m=0) from congrArg (!·) (natBeq _ 0)]
 refine Sif_cases (fun h=>?_) (fun h=>?_)
 ·have h:¬ T.check x.m=0:=by simpa using h
  rw [if_neg h] at hk
  exact ret5 (x:=zMV) b34 rfl fun w5 b5 c5 z5=>hk zMV w5 zMV_m (zMV_ok _) zMV_B (c04.trans c5 fun y hy h=>by omega)
 have hch:T.check x.m=0:=by simpa using h
 rw [if_pos hch] at hk
 refine ld8a b14 ?_
 rw [tvv]
 have hld:=ldBig_of (o:=0) (n:=56) (K:=fun vs=>vs=g.g) b24 (by rw [g.glen]; decide) (by rw [List.drop_zero,List.take_of_length_le (by rw [g.glen]; decide)])
 rw [add_at] at hld
 obtain ⟨vs,h1,h2,h3⟩:=hld
 refine ⟨vs,h1,h2,?_⟩
 rw [h3]
 have hokx:=okW_says F hg.look x (hsx hch)
 refine says_ok F hg x (hsx hch) (hL.ch c04 fun _ _ h=>h) (TR.ch0 c04 hx) (hgr.ch0 c04) fun w5 c5=>⟨_,rfl,isI_val _,?_⟩
 have c05:=c04.trans' c5
 have b35:=(c5.blk (blk_lt b34) id).trans b34
 rw [isNil_val]
 refine Sif_cases (fun h=>?_) (fun h=>?_)
 ·rw [of_decide_eq_true h] at hk
  exact ret5 (x:=zMV) b35 rfl fun w6 b6 c6 z6=>hk zMV w6 zMV_m (zMV_ok _) zMV_B (c05.trans c6 fun y hy h=>by omega)
 ·refine value_ok hokx (of_decide_eq_false h) (hL.ch c05 fun _ _ h=>h) fun w6 c6=>is5 ?_
  exact ret5 (x:=wmv (x.m.says (lookB g.m))) ((c6.blk (blk_lt b35) id).trans b35) rfl fun w7 b7 c7 z7=>hk _ w7 (wmv_m _) (wmv_ok _ _) (wmv_B _) ((c05.trans' c6).trans c7 fun y hy h=>by omega)
theorem eqTrue (a:W) (w:World) {K:Bool→Prop} (hk:K (decide (a=.tru true))):ifaceEq Tryz.prog .eql 83 a.val (.iface 86 (.bool true)) w K:=by
 refine ⟨decide (a=.tru true),fun x y=>?_,hk⟩
 cases a with
 | tru b=>cases b<;>kernel_rfl
 | _=>kernel_rfl
theorem Fits_ok (F:B→Fl) {g:GV} (hg:GG B g) {x:TV} (hgx:TG x) (hsx:x.m.check=0→SG B x) {Q Q':Nat→Prop} {w:World} (hL:LW w) (hx:TR Q w x) (hgr:GR Q' w g) {K:Value→World→Prop}
 (hk:∀ (w':World),Ch (fun _=>False) w w'→K (.bool (fitsB (lookB g.m) x.m)) w'):callP Tryz.prog 20 [x.v,g.v] w K:=by
 rw [← tvv]
 apply ok_sieve_Fits
 refine newB_blk fun w1 b1 c1 z1=>?_
 have b1:blk w1 w.heap.size=some x.g:=b1.trans (by cases x; rfl)
 refine asAgg_of g.glen ?_
 refine newB_blk fun w3 b2 c2 z2=>?_
 have c03:=c1.trans' c2
 have b13:=(c2.blk (blk_lt b1) id).trans b1
 refine ld8a b13 ?_
 rw [tvv]
 refine Check_ok (hL.ch c03 fun _ _ h=>h) (TR.ch0 c03 hx) hgx fun w4 c4=>⟨_,rfl,?_⟩
 have c04:=c03.trans' c4
 have b14:=(c4.blk (blk_lt b13) id).trans b13
 have b24:=(c4.blk (blk_lt b2) id).trans b2
 unfold fitsB at hk
 rw [show (((T.check x.m:Nat):Int) == 0)=decide (T.check x.m=0) from natBeq _ 0]
 refine Sif_cases (fun h=>?_) (fun h=>?_)
 ·rw [h,Bool.true_and] at hk
  have hch:=of_decide_eq_true h
  refine ld8a b14 ?_
  rw [tvv]
  have hld:=ldBig_of (o:=0) (n:=56) (K:=fun vs=>vs=g.g) b24 (by rw [g.glen]; decide) (by rw [List.drop_zero,List.take_of_length_le (by rw [g.glen]; decide)])
  rw [add_at] at hld
  obtain ⟨vs,h1,h2,h3⟩:=hld
  refine ⟨vs,h1,h2,?_⟩
  rw [h3]
  exact says_ok F hg x (hsx hch) (hL.ch c04 fun _ _ h=>h) (TR.ch0 c04 hx) (hgr.ch0 c04) fun w5 c5=>⟨_,rfl,eqTrue _ _ (hk w5 (c04.trans' c5))⟩
 ·rw [h,Bool.false_and] at hk
  exact hk w4 c04
end Go.Proofs.YtnmlmicmhpkbeaaGreatDoor
namespace Go.Proofs.YtnmlmicmhpkbeaaGreatDoor
open Go Go.Sv Go.RowKit Go.Note
set_option linter.unusedVariables false
attribute [local irreducible] Sif
variable {ff:Nat→Bs} {D:Nat→Prop}
theorem part_eq (l:List TV):(l.map TV.m).map (fun x=>(lev x.k,x.pr ff))=l.map (part ff):=by
 rw [List.map_map]
 refine List.map_congr_left fun y _=>?_
 have e:y.m.k=y.k:=by cases y; rw [TV.m_mk]; rfl
 show (lev y.m.k,y.m.pr ff)=(lev y.k,y.m.pr ff)
 rw [e]
theorem pterm2_ok (hF:FFok D ff):∀ x:TV,PG2 D x→PrT ff x:=by
 refine TV.ind fun k t v s l ih=>?_
 intro hg Q base w g0 b out E h hx hl K hk
 have ihl:∀ y∈l,PrT ff y:=fun y hy=>ih y hy (by cases hg with | mk a b c d e f g h=>exact h y hy)
 obtain ⟨hgt,hgn,hgv,hgD,har,hg2⟩:t.length≤2^40∧v.n<18446744073709551616∧v.t.length≤2^40∧(v.k=11→D v.n)∧arity k l.length=true∧(k=2→t≠[]):=by
  cases hg with | mk a b c d e f g h=>exact ⟨a,b,c,d,e,f⟩
 have hkr:=arity_kind har
 rw [TV.m_mk,T.pr_mk,part_eq] at hl hk
 rw [← tvv]
 apply ok_sieve_printer_term
 refine newB_blk fun w1 b1 c1 z1=>?_
 have b1:blk w1 w.heap.size=some (TV.mk k t v s l).g:=b1
 obtain ⟨g,Q',p1,E1,x1,hne,back⟩:=E.enter h hx c1
 have hln:l.length=s.n:=x1.inv.2.1
 have hn46:s.n≤2^46:=x1.inv.2.2.1
 -- a part of the list, written
 have prt:∀ (i:Nat) (near:Int),i<s.n→∀ {w2:World} {out2:Bs},PW w1 g w2 b out2→out2.length+(brS near ((l.map (part ff)).getD i (0,[]))).length≤2^44→∀ {K2:Value→World→Prop},(∀ w3,PW w1 g w3 b (out2++brS near ((l.map (part ff)).getD i (0,[])))→K2 (.tuple #[]) w3) →
  nn (TV.mk k t v s l).s.p fun a2=>∃ n,w2.cell? (Addr.add (Addr.add a2 (i*8)) 0)=some (.int .i64 n)∧∃ s,w2.cell? (Addr.add (Addr.add a2 (i*8)) 1)=some (.string s)∧∃ n1,w2.cell? (Addr.add (Addr.add a2 (i*8)) 2)=some (.int .i64 n1)∧∃ n2,w2.cell? (Addr.add (Addr.add a2 (i*8)) 3)=some (.int .u64 n2)∧∃ s1,w2.cell? (Addr.add (Addr.add a2 (i*8)) 4)=some (.string s1)∧∃ p n3 c,w2.cell? (Addr.add (Addr.add a2 (i*8)) 5)=some (.slice p n3 c)∧∃ n4,w2.cell? (Addr.add (Addr.add a2 (i*8)) 6)=some (.int .i64 n4)∧∃ p1 n5 c1,w2.cell? (Addr.add (Addr.add a2 (i*8)) 7)=some (.slice p1 n5 c1) ∧
   callP Tryz.prog 77 [.pointer (some ⟨b,0,none⟩),.agg (Array.mk [.int .i64 n,.string s,.int .i64 n1,.int .u64 n2,.string s1,.slice p n3 c,.int .i64 n4,.slice p1 n5 c1]),.int .i64 near] w2 K2:=by
  intro i near hi w2 out2 p2 hl2 K2 hk2
  obtain ⟨y,b',o,hy,hmem,hp,hq,hat,hy1⟩:=x1.get (i:=i) hi
  have hy:l[i]?=some y:=hy
  have e:(l.map (part ff)).getD i (0,[])=part ff y:=by rw [List.getD_eq_getElem?_getD,List.getElem?_map,hy]; rfl
  rw [e] at hl2 hk2
  rw [hp]
  simp only [nn]
  refine rdE (hat.ch p2.ch (by rintro (e | e); exact (E1.hQ _ hq).1 e; exact (E1.hQ _ hq).2 e)) ?_
  rw [tvv]
  exact pwithin_ok (ihl y hmem) E1 p2 hy1 hl2 fun w3 p3=>hk2 w3 p3
 refine ⟨_,TV.c0 b1,?_⟩
 simp only [intEq]
 have hX:(TV.mk k t v s l).k=k:=rfl
 rw [hX]
 refine Sif_cases (fun h1=>?_) (fun h1=>?_)
 ·rw [if_pos (of_decide_eq_true h1)] at hl hk
  refine TV.ldV b1 ?_
  rw [show Value.agg (Array.mk [.int .i64 (TV.mk k t v s l).x.k,.int .u64 ((TV.mk k t v s l).x.n:Int),.string ⟨(TV.mk k t v s l).x.t.toArray⟩,.slice (TV.mk k t v s l).x.s.p (TV.mk k t v s l).x.s.n (TV.mk k t v s l).x.s.c,.int .i64 (TV.mk k t v s l).x.e])=v.v from vv v]
  refine constant_ok hF hgn hgv hgD E1.hL fun w2 c2=>⟨_,rfl,?_⟩
  exact pput_new (p1.ch0 c2) [conS ff v.m] rfl rfl (by first | omega | (simp only [List.length_append,List.length_cons,List.length_nil,List.flatten_cons,List.flatten_nil,List.append_nil]; omega)) (by simp) fun w3 p3=>⟨rfl,hk _ (back _ _ (by simpa using p3))⟩
 rw [if_neg (of_decide_eq_false h1)] at hl hk
 refine Sif_cases (fun h2=>?_) (fun h2=>?_)
 ·have h2:=of_decide_eq_true h2
  rw [if_pos h2] at hl hk
  obtain ⟨c,t',rfl⟩:∃ c t',t=c::t':=by
   cases t with
   | nil=>exact absurd rfl (hg2 h2)
   | cons c t'=>exact ⟨c,t',rfl⟩
  have q0:∀ {w2:World},PW w1 g w2 b out→callS (c::t')=quoS 34 (c::t')→∃ s1,w2.cell? (Addr.add ⟨w.heap.size,0,none⟩ 1)=some (.string s1)∧callP Tryz.prog 76 [.string s1,.string (ByteArray.mk (Array.mk [34]))] w2 fun v1 w3=>∃ s2,v1=.string s2∧newB w3 [.string s2] 9 fun a1 w4=>callP Tryz.prog 71 [.pointer (some ⟨b,0,none⟩),.slice (some a1) 1 1] w4 fun v2 w5=>v2=.tuple (Array.mk [])∧K (.tuple (Array.mk [])) w5:=fun {w2} p2 e=>by
   rw [e] at hl hk
   refine ⟨_,TV.c1 (p2.box b1 hne),quote_ok (s:=c::t') hgt fun w3 c3=>⟨_,rfl,?_⟩⟩
   exact pput_new (p2.ch0 c3) [quoS 34 (c::t')] rfl rfl (by first | omega | (simp only [List.length_append,List.length_cons,List.length_nil,List.flatten_cons,List.flatten_nil,List.append_nil]; omega)) (by simp) fun w4 p4=>⟨rfl,hk _ (back _ _ (by simpa using p4))⟩
  refine ⟨_,TV.c1 (w:=w1.drew) b1,by decide,by rw [show (ByteArray.mk (TV.mk k (c::t') v s l).t.toArray).size=(c::t').length from sz3 _]; simp,?_⟩
  rw [show byteAt (ByteArray.mk (TV.mk k (c::t') v s l).t.toArray) 0=(c.toNat:Int) from get3 (s:=c::t') (n:=0) rfl]
  have p2:=p1.ch0 (Ch.drew w1)
  refine pletter_ok ⟨_,rfl,?_⟩
  refine Sif_cases (fun hlt=>?_) (fun hlt=>?_)
  ·refine ⟨_,TV.c1 (w:=w1.drew) b1,_,TV.c1 (w:=w1.drew) b1,?_⟩
   refine pwordEnd_ok (s:=c::t') (a:=0) (by simp) hgt ⟨_,rfl,⟨_,TV.c1 (w:=w1.drew) b1,rfl⟩,?_⟩
   rw [show (ByteArray.mk (TV.mk k (c::t') v s l).t.toArray).size=(c::t').length from sz3 _,show decide ((wordP (c::t') 0:Int)=((c::t').length:Int))=decide (wordP (c::t') 0=(c::t').length) from decide_eq_decide.2 (by omega)]
   refine Sif_cases (fun he=>?_) (fun he=>?_)
   ·have he:=of_decide_eq_true he
    have h128:∀ y∈c::t',y.toNat<128:=by
     have:=mem_word (s:=c::t') (a:=0) (by simp) ⟨c,rfl,hlt⟩
     rw [he,List.drop_zero,Nat.sub_zero,List.take_length] at this
     exact this
    refine ⟨_,TV.c1 (w:=w1.drew) b1,?_⟩
    refine keyw_of (P:=fun w'=>Ch (fun _=>False) w1.drew w') (fun K' hK'=>plow_ok hgt h128 hK') fun w3 c3=>⟨_,rfl,?_⟩
    have p3:=p2.ch0 c3
    rw [show ((ByteArray.mk (keyP (List.map lowC (c::t'))).toArray).toList == (ByteArray.mk (Array.mk [])).toList)=decide (keyP (List.map lowC (c::t'))=[]) from seq3 _ []]
    refine Sif_cases (fun hkw=>?_) (fun hkw=>?_)
    ·have e:callS (c::t')=c::t':=by
      unfold callS
      rw [if_pos ⟨hlt,he,of_decide_eq_true hkw⟩]
     rw [e] at hl hk
     have hl2:out.length+(t'.length+1)≤2^44:=hl
     refine ⟨_,TV.c1 (p3.box b1 hne),?_⟩
     exact pput_new p3 [c::t'] rfl rfl (by first | omega | (simp only [List.length_append,List.length_cons,List.length_nil,List.flatten_cons,List.flatten_nil,List.append_nil]; omega)) (by simp) fun w4 p4=>⟨rfl,hk _ (back _ _ (by simpa using p4))⟩
    ·exact q0 p3 (by unfold callS; rw [if_neg fun hh=>of_decide_eq_false hkw hh.2.2])
   ·exact q0 p2 (by unfold callS; rw [if_neg fun hh=>of_decide_eq_false he hh.2.1])
  ·exact q0 p2 (by unfold callS; rw [if_neg fun hh=>by have h1:lt c=true:=hh.1; rw [show lt c=false from hlt] at h1; cases h1])
 rw [if_neg (of_decide_eq_false h2)] at hl hk
 unfold kidsS at hl hk
 refine Sif_cases (fun h3=>?_) (fun h3=>?_)
 ·have h3:=of_decide_eq_true h3
  rw [if_pos h3] at hl hk
  have hn1:s.n=1:=by rw [h3] at har; rw [← hln]; simpa [arity] using har
  simp only [List.length_append,List.length_cons,List.length_nil] at hl
  refine pput_new p1 [[110,111,116,32]] rfl rfl (by first | omega | (simp only [List.length_append,List.length_cons,List.length_nil,List.flatten_cons,List.flatten_nil,List.append_nil]; omega)) (by simp) fun w2 p2=>⟨rfl,?_⟩
  refine ⟨_,_,_,TV.c7 (p2.box b1 hne),by decide,by show (0:Int)<(s.n:Int); omega,prt 0 3 (by omega) p2 (by first | omega | (simp only [List.length_append,List.length_cons,List.length_nil,List.flatten_cons,List.flatten_nil,List.append_nil]; omega)) fun w3 p3=>⟨rfl,hk _ (back _ _ ?_)⟩⟩
  simpa [List.append_assoc] using p3
 rw [if_neg (of_decide_eq_false h3)] at hl hk
 refine Sif_cases (fun h4=>?_) (fun h4=>?_)
 ·have h4:=of_decide_eq_true h4
  rw [if_pos h4] at hl hk
  refine ld8a b1 ?_
  rw [tvv]
  have e:((TV.mk k t v s l).l.map fun y=>brS (lev (TV.mk k t v s l).k+1) (part ff y))=(l.map (part ff)).map (brS 3):=by
   rw [List.map_map,h4]; rfl
  refine prow2_ok (wd:=[97,110,100]) (x:=TV.mk k t v s l) ihl E1 p1 x1 (by rw [e]; exact hl) fun w2 p2=>⟨rfl,hk _ (back _ _ ?_)⟩
  rw [e] at p2
  exact p2
 rw [if_neg (of_decide_eq_false h4)] at hl hk
 refine Sif_cases (fun h5=>?_) (fun h5=>?_)
 ·have h5:=of_decide_eq_true h5
  rw [if_pos h5] at hl hk
  refine ld8a b1 ?_
  rw [tvv]
  have e:((TV.mk k t v s l).l.map fun y=>brS (lev (TV.mk k t v s l).k+1) (part ff y))=(l.map (part ff)).map (brS 2):=by
   rw [List.map_map,h5]; rfl
  refine prow2_ok (wd:=[111,114]) (x:=TV.mk k t v s l) ihl E1 p1 x1 (by rw [e]; exact hl) fun w2 p2=>⟨rfl,hk _ (back _ _ ?_)⟩
  rw [e] at p2
  exact p2
 rw [if_neg (of_decide_eq_false h5)] at hl hk
 refine Sif_cases (fun h20=>?_) (fun h20=>?_)
 ·have h20:=of_decide_eq_true h20
  rw [if_pos h20] at hl hk
  have hn1:s.n=1:=by rw [h20] at har; rw [← hln]; simpa [arity] using har
  simp only [List.length_cons] at hl
  refine pput_new p1 [[45]] rfl rfl (by first | omega | (simp only [List.length_append,List.length_cons,List.length_nil,List.flatten_cons,List.flatten_nil,List.append_nil]; omega)) (by simp) fun w2 p2=>⟨rfl,?_⟩
  refine ⟨_,_,_,TV.c7 (p2.box b1 hne),by decide,by show (0:Int)<(s.n:Int); omega,prt 0 7 (by omega) p2 (by first | omega | (simp only [List.length_append,List.length_cons,List.length_nil,List.flatten_cons,List.flatten_nil,List.append_nil]; omega)) fun w3 p3=>⟨rfl,hk _ (back _ _ ?_)⟩⟩
  simpa [List.append_assoc] using p3
 rw [if_neg (of_decide_eq_false h20)] at hl hk
 have h1:=of_decide_eq_false h1
 have h2:=of_decide_eq_false h2
 have h3:=of_decide_eq_false h3
 have h4:=of_decide_eq_false h4
 have h5:=of_decide_eq_false h5
 have h20:=of_decide_eq_false h20
 refine ⟨fun bb w2=>w2=w1∧bb=decide (k=16∨k=17∨k=18∨k=19),?_,?_⟩
 ·rintro bb w2 ⟨rfl,rfl⟩
  refine Sif_cases (fun hs=>?_) (fun hs=>?_)
  ·have hs:=of_decide_eq_true hs
   rw [if_pos hs] at hl hk
   have hn2:s.n=2:=by
    rw [← hln]
    unfold arity at har
    rw [if_neg (by omega),if_neg (by omega),if_neg (by omega),if_neg (by omega)] at har
    simp only [Bool.and_eq_true,decide_eq_true_eq] at har
    exact har.2
   simp only [List.length_append] at hl
   have hlev:=lev_b k
   refine ⟨_,_,_,TV.c7 (w:=w2.drew) b1,by decide,by show (0:Int)<(s.n:Int); omega,?_⟩
   obtain ⟨y,b',o,hy,hmem,hp,hq,hat,hy1⟩:=x1.get (i:=0) (show 0<s.n by omega)
   have hy:l[0]?=some y:=hy
   have ey:(l.map (part ff)).getD 0 (0,[])=part ff y:=by rw [List.getD_eq_getElem?_getD,List.getElem?_map,hy]; rfl
   obtain ⟨z,b'',o2,hz,hzm,hp2,hq2,hat2,hz1⟩:=x1.get (i:=1) (show 1<s.n by omega)
   have hz:l[1]?=some z:=hz
   have ez:(l.map (part ff)).getD 1 (0,[])=part ff z:=by rw [List.getD_eq_getElem?_getD,List.getElem?_map,hz]; rfl
   rw [ey,ez] at hl hk
   rw [hp]
   simp only [nn]
   refine rdE (w:=w2.drew) (i:=0) (x:=y) hat ?_
   refine ld8a (w:=w2.drew) b1 ?_
   rw [tvv,tvv]
   refine level_ok fun w3 c3=>⟨_,rfl,?_⟩
   have c23:=(Ch.drew (S:=fun _=>False) w2).trans' c3
   have p3:=p1.ch0 c23
   refine ⟨?_,⟨_,_,_,TV.c7 (p3.box b1 hne),by rw [← hp]⟩,?_⟩
   ·rw [← tvv]; exact rdE2 (i:=0) (x:=y) (hat.ch c23 id)
   rw [hX]
   refine pwithin_ok (ihl y hmem) E1 p3 hy1 (by omega) fun w4 p4=>⟨rfl,?_⟩
   refine ⟨_,TV.c0 (p4.box b1 hne),?_⟩
   have hsg:hasSign k:=by unfold hasSign; omega
   refine signs_ok hsg fun w5 c5=>⟨_,rfl,?_⟩
   refine pput_new (p4.ch0 c5) [sgnS k] rfl rfl (by first | omega | (simp only [List.length_append,List.length_cons,List.length_nil,List.flatten_cons,List.flatten_nil,List.append_nil]; omega)) (by simp) fun w6 p6=>⟨rfl,?_⟩
   refine ⟨_,_,_,TV.c7 (w:=w6.drew) (p6.box b1 hne),by decide,by show (1:Int)<(s.n:Int); omega,?_⟩
   rw [hp2]
   simp only [nn]
   have hat6:AtT w6 b'' (o2+8) z:=hat2.ch p6.ch (by rintro (e | e); exact (E1.hQ _ hq2).1 e; exact (E1.hQ _ hq2).2 e)
   refine rdE (w:=w6.drew) (i:=8) (x:=z) hat6 ?_
   refine ld8a (w:=w6.drew) (p6.box b1 hne) ?_
   rw [tvv,tvv]
   refine level_ok fun w7 c7=>⟨_,rfl,?_⟩
   have c67:=(Ch.drew (S:=fun _=>False) w6).trans' c7
   have p7:=p6.ch0 c67
   refine ⟨?_,⟨_,_,_,TV.c7 (p7.box b1 hne),by rw [← hp2]⟩,?_⟩
   ·rw [← tvv]; exact rdE2 (i:=8) (x:=z) (hat6.ch c67 id)
   rw [hX,wrap_id (n:=lev k+1) (by omega) (by omega)]
   refine pwithin_ok (ihl z hzm) E1 p7 hz1 (by first | omega | (simp only [List.length_append,List.length_cons,List.length_nil,List.flatten_cons,List.flatten_nil,List.append_nil]; omega)) fun w8 p8=>⟨rfl,hk _ (back _ _ ?_)⟩
   simpa [List.append_assoc] using p8
  ·have hs:=of_decide_eq_false hs
   rw [if_neg hs] at hl hk
   have hpos:0<s.n:=by
    rw [← hln]
    apply Nat.pos_of_ne_zero
    intro h0
    rw [h0] at har
    unfold arity at har
    rw [if_neg (by omega)] at har
    split at har
    ·simp at har
    ·split at har
     ·simp at har
     ·split at har
      ·simp at har
      ·simp at har
   simp only [List.length_append] at hl
   refine ⟨_,_,_,TV.c7 b1,by decide,by show (0:Int)<(s.n:Int); omega,prt 0 5 hpos p1 (by omega) fun w3 p3=>⟨rfl,?_⟩⟩
   refine ld8a (p3.box b1 hne) ?_
   rw [tvv]
   refine prest_ok hF hg ihl ?_ E1 p3 x1 (by show _+(restS k t v.m (l.map (part ff))).length≤_; simp only [List.length_append]; omega) fun w4 p4=>⟨rfl,hk _ (back _ _ ?_)⟩
   ·show 6≤k∧k≤15
    omega
   ·have p4:PW w2 g w4 b (out++brS 5 ((l.map (part ff)).getD 0 (0,[]))++restS k t v.m (l.map (part ff))):=p4
    simpa [List.append_assoc] using p4
 ·have yes:(k=16∨k=17∨k=18∨k=19)→true=decide (k=16∨k=17∨k=18∨k=19):=fun h=>(decide_eq_true h).symm
  refine Sif_cases (fun h=>⟨rfl,by rw [h]; exact yes (.inl (of_decide_eq_true h))⟩) fun e1=>?_
  refine Sif_cases (fun h=>⟨rfl,by rw [h]; exact yes (.inr (.inl (of_decide_eq_true h)))⟩) fun e2=>?_
  refine Sif_cases (fun h=>⟨rfl,by rw [h]; exact yes (.inr (.inr (.inl (of_decide_eq_true h))))⟩) fun e3=>?_
  refine ⟨rfl,decide_eq_decide.2 ?_⟩
  have e1:=of_decide_eq_false e1
  have e2:=of_decide_eq_false e2
  have e3:=of_decide_eq_false e3
  omega
end Go.Proofs.YtnmlmicmhpkbeaaGreatDoor
namespace Go.Proofs.YtnmlmicmhpkbeaaGreatDoor
open Go Go.Sv Go.RowKit Go.Note
set_option linter.unusedVariables false
attribute [local irreducible] Sif
variable {ff:Nat→Bs} {D:Nat→Prop}
inductive PGm (D:Nat→Prop):T→Prop where
 | mk {k:Int} {t:Bs} {v:M} {l:List T}:t.length≤2^40→v.n<18446744073709551616→v.t.length≤2^40→(v.k=11→D v.n)→arity k l.length=true→(k=2→t≠[])→(k=13→∀ y∈l.tail,y.k=1)→(∀ y∈l,PGm D y)→PGm D (.mk k t v l)
theorem PG2_of:∀ x:TV,PGm D x.m→PG2 D x:=by
 refine TV.ind fun k t v s l ih=>?_
 intro h
 rw [TV.m_mk] at h
 obtain ⟨m1,m2,m3⟩:v.m.k=v.k∧v.m.n=v.n∧v.m.t=v.t:=by cases v; rw [MV.m_mk]; exact ⟨rfl,rfl,rfl⟩
 cases h with
 | mk a b c d e f g h =>
  rw [m2] at b
  rw [m3] at c
  rw [m1,m2] at d
  refine .mk a b c d (by rw [List.length_map] at e; exact e) f (fun hk y hy=>?_) fun y hy=>ih y hy (h _ (List.mem_map.2 ⟨y,hy,rfl⟩))
  have:=g hk y.m (by rw [← List.map_tail]; exact List.mem_map.2 ⟨y,hy,rfl⟩)
  have e:y.m.k=y.k:=by cases y; rw [TV.m_mk]; rfl
  rw [← e]; exact this
theorem Print_ok (hF:FFok D ff) {x:TV} {Q:Nat→Prop} {w:World} (hL:LW w) (hx:TR Q w x) (hg:TG x) (hp:x.m.check=0→PG2 D x) (hlen:(x.m.pr ff).length≤2^43) {K:Value→World→Prop}
 (hk:∀ w',Ch (fun _=>False) w w'→K (.tuple (Array.mk [.string ⟨(printB ff x.m).1.toArray⟩,.int .i64 ((printB ff x.m).2:Nat)])) w'):callP Tryz.prog 13 [x.v] w K:=by
 rw [← tvv]
 apply ok_sieve_Print
 refine newB_blk fun w1 b1 c1 z1=>?_
 have b1:blk w1 w.heap.size=some x.g:=b1.trans (by cases x; rfl)
 refine ld8a b1 ?_
 rw [tvv]
 refine Check_ok (hL.ch c1 fun _ _ h=>h) (TR.ch0 c1 hx) hg fun w2 c2=>⟨_,rfl,?_⟩
 have c02:=c1.trans' c2
 have b2:=(c2.blk (blk_lt b1) id).trans b1
 unfold printB at hk
 rw [show (((T.check x.m:Nat):Int) != 0)=!decide (T.check x.m=0) from congrArg (!·) (natBeq _ 0)]
 refine Sif_cases (fun h=>?_) (fun h=>?_)
 ·have h:¬ T.check x.m=0:=by simpa using h
  rw [if_pos h] at hk
  exact hk w2 c02
 have hch:T.check x.m=0:=by simpa using h
 rw [if_neg (fun e=>e hch)] at hk
 have hpg:=hp hch
 unfold newB
 have hB0:BAt (w2.alloc (.cells [Value.pointer none,Value.slice none 0 0].toArray 70)) TPr w2.heap.size [] none:=BAt.new
 have c0:Ch (fun _=>False) w2 (w2.alloc (.cells [Value.pointer none,Value.slice none 0 0].toArray 70)):=alloc_ch w2 _
 have hz3:(w2.alloc (.cells [Value.pointer none,Value.slice none 0 0].toArray 70)).heap.size=w2.heap.size+1:=by unfold World.alloc; exact Array.size_push _
 generalize w2.alloc (.cells [Value.pointer none,Value.slice none 0 0].toArray 70)=w3 at hB0 c0 hz3 ⊢
 have c03:=c02.trans' c0
 have hL3:LW w3:=hL.ch c03 fun _ _ h=>h
 have hsz:=hL.size
 have hsz2:=c02.size
 have p3:PW w3 none w3 w2.heap.size []:=⟨⟨none,hB0,fun k hk=>(by cases hk),Ch.refl _ _⟩,by omega,fun k hk=>(by cases hk)⟩
 have E3:PEn (fun k=>k<w2.heap.size) w3 none w2.heap.size:=⟨hL3,by omega,fun k hk=>(by cases hk),fun k hk=>⟨by omega,by simp⟩⟩
 have x3:TR (fun k=>k<w2.heap.size) w3 x:=TR.ch0 c0 (TR.mono (fun b hb=>hb.2) x (TR.lt x (TR.ch0 c02 hx)))
 refine ld8a ((c0.blk (blk_lt b2) id).trans b2) ?_
 rw [tvv]
 refine pterm2_ok hF x hpg E3 p3 x3 (by simp; omega) fun w4 p4=>⟨rfl,?_⟩
 rw [List.nil_append] at p4
 obtain ⟨⟨g4,B4,n4,c4⟩,_⟩:=p4
 have c04:Ch (fun _=>False) w w4:=c03.trans c4 fun y hy hs=>by
  rcases hs with h | h
  ·omega
  ·cases h
 simp only [add_at,Nat.zero_add]
 refine Len_ok B4 ⟨_,rfl,?_⟩
 refine Sif_cases (fun h=>?_) (fun h=>?_)
 ·have h:=of_decide_eq_true h
  rw [if_pos (by omega)] at hk
  exact hk w4 c04
 ·have h:=of_decide_eq_false h
  rw [if_neg (by omega)] at hk
  refine String_ok B4 (by omega) fun w5 c5=>⟨_,rfl,hk w5 (c04.trans c5 fun y hy e=>?_)⟩
  rcases n4 y e with h | h
  ·cases h
  ·omega
end Go.Proofs.YtnmlmicmhpkbeaaGreatDoor
namespace Go.Proofs.YtnmlmicmhpkbeaaGreatDoor
open Go Go.Sv Go.Note
set_option linter.unusedVariables false
attribute [local irreducible] Sif
theorem un_ok {s:Bs} {pb n:Nat} (hs:s.length≤2^40) (hpb:18≤pb) (ha:GC s pb 275 [] (unP s n)) (hc:GC s pb 59 [] (orP s n)):GC s pb 275 [] (unP s (n+1)):=by
 intro p r hr w K hL hp hk
 unfold unP at hr
 cases ht:takesP s p [45] with
 | none=>rw [ht] at hr; cases hr
 | some bq =>
  obtain ⟨b,q⟩:=bq
  rw [ht] at hr
  apply ok_sieve_parser_unary
  refine newB_blk fun w1 b1 c1 z1=>?_
  have hpl:=hp.1.lt
  refine gtakes_ok hs ht (hp.ch c1 id) fun w2 p2 c2=>⟨_,rfl,?_⟩
  have c02:CW pb w w2:=(c1.mono fun _ _ h=>h.elim).trans' (c2.mono fun x hx h=>.inl h)
  have b2:=(c2.blk (by omega) (by omega)).trans b1
  have s2:=c02.size
  have l2:=blk_lt b2
  cases b with
  | true =>
   refine Sif_cases (fun _=>?_) (fun h=>by cases h)
   simp only at hr p2
   cases h0:unP s n q with
   | none=>rw [h0] at hr; cases hr
   | some r0 =>
    rw [h0] at hr; cases hr
    refine ha q _ h0 w2 _ (c02.lw hL hpb) p2 fun x w3 o e f p3 c3=>?_
    refine isT ?_
    rw [tgl x]
    have c03:CW pb w w3:=c02.trans' (c3.mono fun x hx h=>.inl h)
    refine wrapT (k:=20) o fun y w5 oy ey fy c5=>?_
    refine isT ?_
    simp only [add_at,Nat.zero_add]
    refine fin8 (x:=y) (((c3.trans' (c5.mono fun _ _ h=>h.elim)).blk (blk_lt b2) (by omega)).trans b2) rfl fun w6 b6 c6 z6=>?_
    have s3:=c3.size
    exact endT hk hpl oy (by rw [ey,e]) (fun b hb=>by rcases fy b hb with h | h; · have:=f b h; omega
                                                      ·omega) (p3.ch c5 id) (c03.trans' (c5.mono fun _ _ h=>h.elim)) c6
  | false =>
   refine Sif_cases (fun h=>by cases h) (fun _=>?_)
   simp only at hr p2
   cases ht2:takesP s q [40] with
   | none=>rw [ht2] at hr; cases hr
   | some bq2 =>
    obtain ⟨b',q2⟩:=bq2
    rw [ht2] at hr
    refine gtakes_ok hs ht2 p2 fun w3 p3 c3=>⟨_,rfl,?_⟩
    have c03:CW pb w w3:=c02.trans' (c3.mono fun x hx h=>.inl h)
    have b3:=(c3.blk l2 (by omega)).trans b2
    have s3:=c03.size
    have l3:=blk_lt b3
    cases b' with
    | true =>
     refine Sif_cases (fun _=>?_) (fun h=>by cases h)
     simp only at hr p3
     cases h0:orP s n q2 with
     | none=>rw [h0] at hr; cases hr
     | some r0 =>
      obtain ⟨t,u⟩:=r0
      rw [h0] at hr
      simp only at hr
      cases hm:mustP s u [41] with
      | none=>rw [hm] at hr; cases hr
      | some z =>
       rw [hm] at hr; cases hr
       refine hc q2 _ h0 w3 _ (c03.lw hL hpb) p3 fun x w4 o e f p4 c4=>?_
       refine isT ?_
       simp only at e p4
       refine newB_blk fun w5 b5 c5 z5=>?_
       simp only [add_at,Nat.zero_add]
       have s4:=c4.size
       refine st8 (x:=x) b5 rfl fun w6 b6 c6 z6=>?_
       refine gmust_ok hs hm ((p4.ch c5 id).ch c6 (by have:=p4.1.lt; omega)) fun w7 p7 c7=>⟨rfl,?_⟩
       have hx:=TO.lt x o
       have h4:=p4.1.lt
       have l6:=blk_lt b6
       have b7:=(c7.blk l6 (by omega)).trans b6
       have b47:blk w7 w.heap.size=some _:=(((c7.blk (by omega) (by omega)).trans (c6.blk (by omega) (by omega))).trans ((c5.blk (by omega) id).trans (c4.blk l3 (by omega)))).trans b3
       refine ld8 (x:=x) b7 ?_
       refine fin8 (x:=x) b47 rfl fun w8 b8 c8 z8=>?_
       have o5:=TO.ch c5 x o fun _ _ h=>h
       have o6:=TO.ch c6 x o5 fun b hb h=>by have:=hx b hb; omega
       have o7:=TO.ch c7 x o6 fun b hb h=>by have:=f b hb; omega
       refine endT hk hpl o7 e (fun b hb=>by have:=f b hb; omega) p7 ?_ c8
       exact ((c03.trans' (c4.mono fun x hx h=>.inl h)).trans' (c5.mono fun _ _ h=>h.elim)).trans' ((c6.mono (S':=fun x=>x=pb∨w.heap.size≤x) fun x hx h=>.inr (by omega)).trans' (c7.mono fun x hx h=>.inl h))
    | false =>
     refine Sif_cases (fun h=>by cases h) (fun _=>?_)
     simp only at hr p3
     have hb3:=p3.1.1
     unfold pcl at hb3
     simp only [nn,add_at,Nat.zero_add,Nat.reduceAdd]
     refine ⟨_,cellP hb3 1 rfl,?_⟩
     rw [show ((q2.t.k:Int) == 3)=decide (q2.t.k=3) from natBeq q2.t.k 3]
     refine Sif_cases (fun h=>?_) (fun h=>?_)
     ·rw [if_pos (of_decide_eq_true h)] at hr
      refine ⟨_,cellP hb3 4 rfl,?_⟩
      refine newB_blk fun w4 b4 c4 z4=>?_
      refine st8 (x:=.mk 2 q2.t.t zMV ⟨none,0,0,none⟩ []) b4 rfl fun w5 b5 c5 z5=>?_
      have p5:=(p3.ch c4 id).ch c5 (by have:=p3.1.lt; omega)
      have h3:=p3.1.lt
      have c05:CW pb w w5:=(c03.trans' (c4.mono fun _ _ h=>h.elim)).trans' (c5.mono (S':=fun x=>x=pb∨w.heap.size≤x) fun x hx h=>.inr (by omega))
      have b05:blk w5 w.heap.size=some _:=((c5.blk (by omega) (by omega)).trans (c4.blk l3 id)).trans b3
      cases hn:nextP s (if nameB q2.t.t then q2 else q2.fail q2.t.a 161) with
      | none=>rw [hn] at hr; cases hr
      | some v =>
       rw [hn] at hr; cases hr
       refine ⟨fun w6=>PG s pb (if nameB q2.t.t then q2 else q2.fail q2.t.a 161) w6∧CW pb w w6∧blk w6 w3.heap.size=some (TV.mk 2 q2.t.t zMV ⟨none,0,0,none⟩ []).g∧∃ zs,blk w6 w.heap.size=some zs∧zs.length=8,?_,?_⟩
       ·rintro w6 ⟨p6,c6,b6,zs,b06,zl⟩
        refine gnext_ok hs hn p6 fun w7 p7 c7=>⟨rfl,?_⟩
        have b7:=(c7.blk (blk_lt b6) (by omega)).trans b6
        refine ld8 (x:=.mk 2 q2.t.t zMV ⟨none,0,0,none⟩ []) b7 ?_
        refine fin8 (x:=.mk 2 q2.t.t zMV ⟨none,0,0,none⟩ []) ((c7.blk (blk_lt b06) (by omega)).trans b06) zl fun w8 b8 c8 z8=>?_
        refine endT hk hpl ?_ ?_ ?_ p7 (c6.trans' (c7.mono fun x hx h=>.inl h)) c8
        ·exact .mk (zMV_ok _) rfl (by decide) Ow.nil (by simp) (by simp [zMV_B])
        ·rw [TV.m_mk,zMV_m]; rfl
        ·intro b hb; rw [TV.B_mk,zMV_B] at hb; cases hb
       ·refine ⟨_,cellP b5 1 rfl,?_⟩
        refine isName_ok (by have:=p3.2.2; omega) (c05.lw hL hpb) fun w6 c6=>⟨_,rfl,?_⟩
        have p6:=p5.ch c6 id
        have hb6:=p6.1.1
        unfold pcl at hb6
        have c06:=c05.trans' (c6.mono (S':=fun x=>x=pb∨w.heap.size≤x) fun _ _ h=>h.elim)
        have b36:=(c6.blk (blk_lt b5) id).trans b5
        have b06:=(c6.blk (blk_lt b05) id).trans b05
        refine Sif_cases (fun h=>?_) (fun h=>?_)
        ·have h:nameB q2.t.t=false:=by simpa using h
         refine ⟨_,cellP hb6 2 rfl,?_⟩
         refine gfail_ok p6.1.2.1 (by decide) p6 fun w7 p7 c7=>⟨rfl,?_⟩
         refine ⟨by rw [h]; exact p7,c06.trans' (c7.mono fun x hx h=>.inl h),(c7.blk (blk_lt b36) (by omega)).trans b36,_,(c7.blk (blk_lt b06) (by omega)).trans b06,rfl⟩
        ·have h:nameB q2.t.t=true:=by simpa using h
         exact ⟨by rw [h]; exact p6,c06,b36,_,b06,rfl⟩
     ·rw [if_neg (of_decide_eq_false h)] at hr
      refine gliteral_ok hs hr (c03.lw hL hpb) hpb p3 fun x w4 o e f p4 c4=>?_
      refine isT ?_
      refine fin8 (x:=x) ((c4.blk l3 (by omega)).trans b3) rfl fun w6 b6 c6 z6=>?_
      exact endT hk hpl o e (fun b hb=>by have:=f b hb; omega) p4 (c03.trans' (c4.mono fun x hx h=>.inl h)) c6
end Go.Proofs.YtnmlmicmhpkbeaaGreatDoor
namespace Go.Proofs.YtnmlmicmhpkbeaaGreatDoor
open Go Go.Sv Go.Note
set_option linter.unusedVariables false
attribute [local irreducible] Sif
theorem tgl2 (x y:TV):[.int .i64 x.k,.string ⟨x.t.toArray⟩,.int .i64 x.x.k,.int .u64 (x.x.n:Int),.string ⟨x.x.t.toArray⟩,.slice x.x.s.p x.x.s.n x.x.s.c,.int .i64 x.x.e,.slice x.s.p x.s.n x.s.c,.int .i64 y.k,.string ⟨y.t.toArray⟩,.int .i64 y.x.k,.int .u64 (y.x.n:Int),.string ⟨y.x.t.toArray⟩,.slice y.x.s.p y.x.s.n y.x.s.c,.int .i64 y.x.e,.slice y.s.p y.s.n y.s.c]=x.g++y.g:=by cases x; cases y; rfl
theorem wrap2 {w:World} {k:Int} {x y:TV} (ox:TO w x) (oy:TO w y) (hd:∀ b∈x.B,b ∉ y.B) {t:TypeId} {Q:Value→World→Prop} (hk:∀ (z:TV) (w':World),TO w' z→z.m=.mk k [] zeroM [x.m,y.m]→(∀ b∈z.B,b∈x.B∨b∈y.B∨w.heap.size≤b)→Ch (fun _=>False) w w'→Q z.v w') :
 newB w (x.g++y.g) t fun a w1=>callP Tryz.prog 162 [.int .i64 k,.slice (some a) 2 2] w1 Q:=by
 refine newB_blk fun w4 b4 c4 z4=>?_
 refine pterm_ok (k:=k) (s:=⟨some ⟨w.heap.size,0,none⟩,2,2,some w.heap.size⟩) [x,y] fun w5 c5=>?_
 have hl:=TO.lt x ox
 have hl2:=TO.lt y oy
 have row:TE.Row w5 (some ⟨w.heap.size,0,none⟩) 2 2 (some w.heap.size) [x,y]:=El.Row.ch (row_two b4 (TO.ch c4 x ox fun _ _ h=>h) (TO.ch c4 y oy fun _ _ h=>h) (fun h=>by have:=hl _ h; omega) (fun h=>by have:=hl2 _ h; omega) hd) c5 fun _ _ h=>h
 refine hk _ w5 (TO.row row (by decide)) (by rw [TV.m_mk,zMV_m]; rfl) (fun b hb=>?_) (c4.trans' c5)
 rw [row_B] at hb
 rcases (El.mem_rowB (E:=TE)).1 hb with h | ⟨z,hz,h⟩
 ·cases h; exact .inr (.inr (Nat.le_refl _))
 ·simp only [List.mem_cons,List.not_mem_nil,or_false] at hz
  rcases hz with rfl | rfl
  ·exact .inl h
  ·exact .inr (.inl h)
theorem binP_le (s:Bs):(binP s).2≤3:=by
 unfold binP
 repeat (first | (split; · decide) | decide)
structure CD (s:Bs) (pb k1:Nat) (w w':World) (y:TV) (q:Ps):Prop where
 o:TO w' y
 f:∀ b∈y.B,w.heap.size<b∧b≠k1
 p:PG s pb q w'
 c:CW pb w w'
 b:∃ zs,blk w' w.heap.size=some zs∧zs.length=8
 b1:blk w' k1=some y.g
theorem chain_ok {s:Bs} {pb n near:Nat} (hs:s.length≤2^40) (hpb:18≤pb) (hnear:near≤10) (ha:GC s pb 275 [] (unP s n)) (hc:∀ k nr:Nat,k<n→nr≤10→GC s pb 229 [.int .i64 (nr:Int)] (chainP s k nr)):GC s pb 229 [.int .i64 (near:Int)] (chainP s (n+1) near):=by
 intro p r hr w K hL hp hk
 unfold chainP at hr
 cases h0:unP s n p with
 | none=>rw [h0] at hr; cases hr
 | some tq =>
  obtain ⟨t,q⟩:=tq
  rw [h0] at hr
  simp only at hr
  apply ok_sieve_parser_chain
  refine newB_blk fun w1 b1 c1 z1=>?_
  have hpl:=hp.1.lt
  refine ha p _ h0 w1 _ (hL.ch c1 fun _ _ h=>h) (hp.ch c1 id) fun x w2 o e f p2 c2=>?_
  refine isT ?_
  refine newB_blk fun w3 b3 c3 z3=>?_
  simp only [add_at,Nat.zero_add]
  simp only at e p2
  have s2:=c2.size
  have hx:=TO.lt x o
  have h2:=p2.1.lt
  refine st8 (x:=x) b3 rfl fun w4 b4 c4 z4=>?_
  have c14:CW pb w w4:=(((c1.mono fun _ _ h=>h.elim).trans' (c2.mono fun x hx h=>.inl h)).trans' (c3.mono fun _ _ h=>h.elim)).trans' (c4.mono (S':=fun x=>x=pb∨w.heap.size≤x) fun x hx h=>.inr (by omega))
  have b04:blk w4 w.heap.size=some _:=(((c4.blk (by omega) (by omega)).trans (c3.blk (by omega) id)).trans (c2.blk (by omega) (by omega))).trans b1
  refine ⟨fun w'=>∃ y,y.m=r.1∧CD s pb w2.heap.size w w' y r.2,?_,fun m w'=>∃ y q,chainL s m near y.m q=some r∧m≤n∧CD s pb w2.heap.size w w' y q,⟨n,x,q,by rw [e]; exact hr,Nat.le_refl _,⟨TO.ch c4 x (TO.ch c3 x o fun _ _ h=>h) fun b hb h=>by have:=hx b hb; omega,fun b hb=>⟨by have:=f b hb; omega,fun h=>by have:=hx b hb; omega⟩,(p2.ch c3 id).ch c4 (by omega),c14,⟨_,b04,rfl⟩,b4⟩⟩,?_⟩
  ·rintro w5 ⟨y,ey,D⟩
   obtain ⟨zs,b5,zl⟩:=D.b
   refine ld8 (x:=y) D.b1 ?_
   refine fin8 (x:=y) b5 zl fun w6 b6 c6 z6=>?_
   exact endT hk hpl D.o ey (fun b hb=>(D.f b hb).1) D.p D.c c6
  ·rintro m w5 ⟨y,q5,hq,hm,D⟩
   obtain ⟨zs,b5,zl⟩:=D.b
   have D1:=D.b1
   have hb5:=D.p.1.1
   unfold pcl at hb5
   have h5:=D.p.1.lt
   cases m with
   | zero=>unfold chainL at hq; cases hq
   | succ m =>
    unfold chainL at hq
    have stop:¬ (q5.fe=0∧q5.t.k=4∧near≤(binP q5.t.t).2)→∃ y,y.m=r.1∧CD s pb w2.heap.size w w5 y r.2:=fun h=>by
     rw [if_neg h] at hq; cases hq
     exact ⟨y,rfl,D⟩
    refine ⟨fun w'=>w'=w5∧q5.fe=0∧q5.t.k=4,?_,?_⟩
    ·rintro w5' ⟨hw5,e0,e4⟩
     subst hw5
     simp only [nn]
     refine ⟨_,cellP hb5 4 rfl,?_⟩
     refine pbinary_ok ⟨_,_,rfl,?_⟩
     refine Sif_cases (fun h=>?_) (fun h=>?_)
     ·have h:=of_decide_eq_true h
      exact stop fun hh=>by have:=hh.2.2; omega
     ·have h:=of_decide_eq_false h
      rw [if_pos ⟨e0,e4,by omega⟩] at hq
      cases hn:nextP s q5 with
      | none=>rw [hn] at hq; cases hq
      | some q6 =>
       rw [hn] at hq
       simp only at hq
       cases hx2:chainP s m ((binP q5.t.t).2+1) q6 with
       | none=>rw [hx2] at hq; cases hq
       | some xr =>
        obtain ⟨t2,q7⟩:=xr
        rw [hx2] at hq
        simp only at hq
        have hy:=TO.lt y D.o
        have hbl:=binP_le q5.t.t
        refine gnext_ok hs hn D.p fun w6 p6 c6=>⟨rfl,?_⟩
        have c66:Ch (·=pb) w5' w6.drew:=c6.trans' (Ch.drew w6)
        have b6:=(c66.blk (blk_lt D1) (by omega)).trans D1
        refine ld8 (x:=y) b6 ?_
        rw [show IntKind.wrap .i64 (((binP q5.t.t).2:Int)+1)=(((binP q5.t.t).2+1:Nat):Int) from by rw [wrap_id (by omega) (by omega)]; rfl]
        have c56:CW pb w w6.drew:=D.c.trans' (c66.mono fun x hx h=>.inl h)
        refine hc m _ (by omega) (by omega) q6 _ hx2 _ _ (c56.lw hL hpb) (p6.ch (Q:=fun _=>False) (Ch.drew w6) id) fun z w7 oz ez fz p7 c7=>?_
        refine isT ?_
        simp only at ez p7
        have b7:=(c7.blk (blk_lt b6) (by omega)).trans b6
        have s6:=c66.size
        refine ⟨ld8 (x:=y) b7 rfl,?_⟩
        rw [tgl2 y z]
        have oy7:=TO.ch c7 y (TO.ch c66 y D.o fun b hb h=>by have:=D.f b hb; omega) fun b hb h=>by have:=D.f b hb; omega
        refine wrap2 oy7 oz (fun b hb h=>by have:=hy b hb; have:=fz b h; omega) fun v w8 ov ev fv c8=>?_
        refine isT ?_
        have b8:=(c8.blk (blk_lt b7) id).trans b7
        have s7:=c7.size
        have s8:=c8.size
        have l6:=blk_lt b6
        refine st8 (x:=v) b8 (TV.glen y) fun w9 b9 c9 z9=>?_
        have fv':∀ b∈v.B,w.heap.size<b∧b≠w2.heap.size:=fun b hb=>by
         rcases fv b hb with h | h | h
         ·exact D.f b h
         ·have:=fz b h; omega
         ·omega
        refine ⟨m,by omega,v,q7,by rw [ev,ez]; exact hq,by omega,⟨TO.ch c9 v ov fun b hb h=>(fv' b hb).2 h,fv',(p7.ch c8 id).ch c9 (by omega),?_,⟨zs,?_,zl⟩,b9⟩⟩
        ·exact ((c56.trans' (c7.mono fun x hx h=>.inl h)).trans' (c8.mono fun _ _ h=>h.elim)).trans' (c9.mono (S':=fun x=>x=pb∨w.heap.size≤x) fun x hx h=>.inr (by omega))
        ·exact ((c9.blk (by omega) (by omega)).trans ((c8.blk (by omega) id).trans ((c7.blk (by omega) (by omega)).trans (c66.blk (blk_lt b5) (by omega))))).trans b5
    ·simp only [nn,add_at,Nat.zero_add,Nat.reduceAdd]
     refine ⟨_,cellP hb5 7 rfl,?_⟩
     rw [show ((q5.fe:Int) == 0)=decide (q5.fe=0) from natBeq q5.fe 0]
     refine Sif_cases (fun h=>?_) (fun h=>stop fun hh=>(of_decide_eq_false h) hh.1)
     refine ⟨_,cellP hb5 1 rfl,?_⟩
     rw [show ((q5.t.k:Int) == 4)=decide (q5.t.k=4) from natBeq q5.t.k 4]
     refine Sif_cases (fun h2=>⟨trivial,of_decide_eq_true h,of_decide_eq_true h2⟩) (fun h2=>stop fun hh=>(of_decide_eq_false h2) hh.2.1)
end Go.Proofs.YtnmlmicmhpkbeaaGreatDoor
namespace Go.Proofs.YtnmlmicmhpkbeaaGreatDoor
open Go Go.Sv Go.Note
set_option linter.unusedVariables false
attribute [local irreducible] Sif
theorem takes_no {s m:Bs} {q:Ps} (h:q.t.t≠m):takesP s q m=some (false,q):=by
 unfold takesP Ps.sees
 rw [decide_eq_false h,Bool.and_false,if_neg (by decide)]
theorem comp_ok {s:Bs} {pb n:Nat} (hs:s.length≤2^40) (hpb:18≤pb) (hc:∀ nr:Nat,nr≤10→GC s pb 229 [.int .i64 (nr:Int)] (chainP s n nr)):GC s pb 199 [] (compP s (n+1)):=by
 intro p r hr w K hL hp hk
 unfold compP at hr
 cases h0:chainP s n 2 p with
 | none=>rw [h0] at hr; cases hr
 | some tq =>
  obtain ⟨t,q⟩:=tq
  rw [h0] at hr
  simp only at hr
  apply ok_sieve_parser_comparison
  refine newB_blk fun w1 b1 c1 z1=>?_
  have hpl:=hp.1.lt
  refine hc 2 (by decide) p _ h0 w1 _ (hL.ch c1 fun _ _ h=>h) (hp.ch c1 id) fun x w2 o e f p2 c2=>?_
  refine isT ?_
  refine newB_blk fun w3 b3 c3 z3=>?_
  simp only [add_at,Nat.zero_add]
  simp only at e p2
  have s2:=c2.size
  have hx:=TO.lt x o
  have h2:=p2.1.lt
  refine st8 (x:=x) b3 rfl fun w4 b4 c4 z4=>?_
  have c14:CW pb w w4:=(((c1.mono fun _ _ h=>h.elim).trans' (c2.mono fun x hx h=>.inl h)).trans' (c3.mono fun _ _ h=>h.elim)).trans' (c4.mono (S':=fun x=>x=pb∨w.heap.size≤x) fun x hx h=>.inr (by omega))
  have b04:blk w4 w.heap.size=some _:=(((c4.blk (by omega) (by omega)).trans (c3.blk (by omega) id)).trans (c2.blk (by omega) (by omega))).trans b1
  have o4:TO w4 x:=TO.ch c4 x (TO.ch c3 x o fun _ _ h=>h) fun b hb h=>by have:=hx b hb; omega
  have p4:PG s pb q w4:=(p2.ch c3 id).ch c4 (by omega)
  have f4:∀ b∈x.B,w.heap.size<b:=fun b hb=>by have:=f b hb; omega
  have hb4:=p4.1.1
  unfold pcl at hb4
  have l4:=blk_lt b4
  refine ⟨fun w'=>w'=w4∧q.fe=0∧q.t.k=4,?_,?_⟩
  ·rintro w4' ⟨hw,e0,e4⟩
   subst hw
   rw [if_neg (by omega)] at hr
   simp only [nn]
   refine ⟨_,cellP hb4 4 rfl,?_⟩
   refine pbinary_ok ⟨_,_,rfl,?_⟩
   rw [show (((binP q.t.t).2:Int) == 1)=decide ((binP q.t.t).2=1) from natBeq _ 1]
   refine Sif_cases (fun h=>?_) (fun h=>?_)
   ·rw [if_pos (of_decide_eq_true h)] at hr
    cases hn:nextP s q with
    | none=>rw [hn] at hr; cases hr
    | some q6 =>
     rw [hn] at hr
     simp only at hr
     cases hx2:chainP s n 2 q6 with
     | none=>rw [hx2] at hr; cases hr
     | some z0 =>
      rw [hx2] at hr; cases hr
      refine gnext_ok hs hn p4 fun w6 p6 c6=>⟨rfl,?_⟩
      have c66:Ch (·=pb) w4' w6.drew:=c6.trans' (Ch.drew w6)
      have b6:=(c66.blk l4 (by omega)).trans b4
      refine ld8 (x:=x) b6 ?_
      have c46:CW pb w w6.drew:=c14.trans' (c66.mono fun x hx h=>.inl h)
      refine hc 2 (by decide) q6 _ hx2 _ _ (c46.lw hL hpb) (p6.ch (Q:=fun _=>False) (Ch.drew w6) id) fun z w7 oz ez fz p7 c7=>?_
      refine isT ?_
      have b7:=(c7.blk (blk_lt b6) (by omega)).trans b6
      have s6:=c66.size
      refine ⟨ld8 (x:=x) b7 rfl,?_⟩
      rw [tgl2 x z]
      have ox7:=TO.ch c7 x (TO.ch c66 x o4 fun b hb h=>by have:=f4 b hb; omega) fun b hb h=>by have:=f4 b hb; omega
      refine wrap2 ox7 oz (fun b hb h=>by have:=hx b hb; have:=fz b h; omega) fun v w8 ov ev fv c8=>?_
      refine isT ?_
      have s7:=c7.size
      have l6:=blk_lt b6
      have b08:blk w8 w.heap.size=some _:=((c8.blk (by omega) id).trans ((c7.blk (by omega) (by omega)).trans (c66.blk (by omega) (by omega)))).trans b04
      refine fin8 (x:=v) b08 rfl fun w9 b9 c9 z9=>?_
      refine endT hk hpl ov (by rw [ev,ez,e]) (fun b hb=>?_) (p7.ch c8 id) ((c46.trans' (c7.mono fun x hx h=>.inl h)).trans' (c8.mono fun _ _ h=>h.elim)) c9
      rcases fv b hb with h | h | h
      ·exact f4 b h
      ·have:=fz b h; omega
      ·omega
   ·rw [if_neg (of_decide_eq_false h)] at hr
    split at hr
    ·cases hr
    rename_i hne
    cases hr
    have h1:q.t.t≠[105,115]:=fun h=>hne (.inl h)
    have h2':q.t.t≠[110,111,116]:=fun h=>hne (.inr (.inl h))
    have h3:q.t.t≠[98,101,116,119,101,101,110]:=fun h=>hne (.inr (.inr (.inl h)))
    have h4:q.t.t≠[105,110]:=fun h=>hne (.inr (.inr (.inr (.inl h))))
    have h5:q.t.t≠[108,105,107,101]:=fun h=>hne (.inr (.inr (.inr (.inr h))))
    have cc:∀ {a b:World},CW pb w a→Ch (·=pb) a b→CW pb w b:=fun c d=>c.trans' (d.mono fun x hx h=>.inl h)
    refine gtakes_ok hs (takes_no h1) p4 fun w5 p5 c5=>⟨_,rfl,Sif_cases (fun h=>by cases h) fun _=>?_⟩
    refine gtakes_ok hs (takes_no h2') p5 fun w6 p6 c6=>⟨_,rfl,?_⟩
    have c46:=c5.trans' c6
    refine ⟨fun v w'=>w'=w6,?_,Sif_cases (fun h=>by cases h) fun _=>rfl⟩
    rintro v w6' hw6
    subst hw6
    refine ⟨fun w'=>PG s pb q w'∧Ch (·=pb) w4' w',?_,?_⟩
    ·rintro w7 ⟨p7,c7⟩
     have hpl4:=p4.1.lt
     refine ld8 (x:=x) ((c7.blk l4 (by omega)).trans b4) ?_
     refine fin8 (x:=x) ((c7.blk (by omega) (by omega)).trans b04) rfl fun w8 b8 c8 z8=>?_
     exact endT hk hpl (TO.ch c7 x o4 fun b hb h=>by have:=f4 b hb; omega) e f4 p7 (cc c14 c7) c8
    ·refine gtakes_ok hs (takes_no h3) p6 fun w7 p7 c7=>⟨_,rfl,Sif_cases (fun h=>by cases h) fun _=>?_⟩
     refine gtakes_ok hs (takes_no h4) p7 fun w8 p8 c8=>⟨_,rfl,Sif_cases (fun h=>by cases h) fun _=>?_⟩
     refine gtakes_ok hs (takes_no h5) p8 fun w9 p9 c9=>⟨_,rfl,Sif_cases (fun h=>by cases h) fun _=>?_⟩
     exact Sif_cases (fun h=>by cases h) fun _=>⟨p9,((c46.trans' c7).trans' c8).trans' c9⟩
  ·simp only [nn,add_at,Nat.zero_add,Nat.reduceAdd]
   refine ⟨_,cellP hb4 7 rfl,?_⟩
   have out:(q.fe≠0∨q.t.k≠4)→∀ w9,Ch (·=w.heap.size) w4 w9→K x.v w9:=fun h w9 c9=>by
    rw [if_pos h] at hr; cases hr
    exact endT hk hpl o4 e f4 p4 c14 c9
   rw [show ((q.fe:Int) != 0)=!decide (q.fe=0) from congrArg (!·) (natBeq q.fe 0),Bool.not_not]
   refine Sif_cases (fun h=>?_) (fun h=>?_)
   ·refine ⟨_,cellP hb4 1 rfl,?_⟩
    rw [show ((q.t.k:Int) != 4)=!decide (q.t.k=4) from congrArg (!·) (natBeq q.t.k 4)]
    refine Sif_cases (fun h2=>?_) (fun h2=>?_)
    ·refine ld8 (x:=x) b4 (fin8 (x:=x) b04 rfl fun w9 b9 c9 z9=>out (.inr fun h=>by rw [decide_eq_true h] at h2; cases h2) w9 c9)
    ·exact ⟨trivial,of_decide_eq_true h,by simpa using h2⟩
   ·exact ld8 (x:=x) b4 (fin8 (x:=x) b04 rfl fun w9 b9 c9 z9=>out (.inl (of_decide_eq_false h)) w9 c9)
theorem grammar {s:Bs} {pb:Nat} (hs:s.length≤2^40) (hpb:18≤pb):∀ N≤1000,∀ n≤N,
 GC s pb 59 [] (orP s n)∧GC s pb 111 [] (andP s n)∧GC s pb 163 [] (notP s n)∧GC s pb 199 [] (compP s n)∧GC s pb 275 [] (unP s n)∧(∀ nr:Nat,nr≤10→GC s pb 229 [.int .i64 (nr:Int)] (chainP s n nr)):=by
 intro N
 induction N with
 | zero =>
  intro _ n hn
  have:n=0:=by omega
  subst this
  refine ⟨?_,?_,?_,?_,?_,fun nr _=>?_⟩<;>intro p r hr
  ·unfold orP at hr; cases hr
  ·unfold andP at hr; cases hr
  ·unfold notP at hr; cases hr
  ·unfold compP at hr; cases hr
  ·unfold unP at hr; cases hr
  ·unfold chainP at hr; cases hr
 | succ N ih =>
  intro hN n hn
  by_cases h:n≤N
  ·exact ih (by omega) n h
  have:n=N+1:=by omega
  subst this
  obtain ⟨g1,g2,g3,g4,g5,g6⟩:=ih (by omega) N (Nat.le_refl _)
  exact ⟨or_ok hs hpb (by omega) g2,and_ok hs hpb (by omega) g3,not_ok hs hpb g3 g4,comp_ok hs hpb g6,un_ok hs hpb g5 g1,fun nr hnr=>chain_ok hs hpb hnr g5 fun k m hk hm=>(ih (by omega) k (by omega)).2.2.2.2.2 m hm⟩
end Go.Proofs.YtnmlmicmhpkbeaaGreatDoor
namespace Go.Proofs.YtnmlmicmhpkbeaaGreatDoor
open Go Go.Sv Go.Note
set_option linter.unusedVariables false
attribute [local irreducible] Sif
def zTV:TV:=.mk 0 [] zMV ⟨none,0,0,none⟩ []
theorem zTV_ok (w:World):TO w zTV:=.mk (zMV_ok w) rfl (by decide) Ow.nil (by simp) (by simp [zMV_B])
theorem zTV_m:zTV.m=zeroT:=by unfold zTV; rw [TV.m_mk,zMV_m]; rfl
theorem zTV_B:zTV.B=[]:=by unfold zTV; rw [TV.B_mk,zMV_B]; rfl
theorem Parse_ok {s:Bs} (hs:s.length≤4096) {r:T × Nat × Nat} (hr:parseP s=some r) {w:World} (hL:LW w) {K:Value→World→Prop} (hk:∀ (x:TV) (w':World),TO w' x→x.m=r.1→(∀ b∈x.B,w.heap.size≤b)→Ch (fun _=>False) w w'→K (.tuple #[x.v,.int .i64 (r.2.1:Int),.int .i64 (r.2.2:Int)]) w') :
 callP Tryz.prog 31 [.string ⟨s.toArray⟩] w K:=by
 apply ok_sieve_Parse
 have hsz:(ByteArray.mk s.toArray).size=s.length:=by show s.toArray.size=_; simp
 have hk':∀ (x:TV) (w':World),TO w' x→x.m=r.1→(∀ b∈x.B,w.heap.size≤b)→Ch (fun x=>w.heap.size≤x) w w'→K (.tuple #[x.v,.int .i64 (r.2.1:Int),.int .i64 (r.2.2:Int)]) w':=fun x w' o e f c=>hk x w' o e f ⟨c.os,c.tape,c.output,c.size,fun b hb hn=>c.keep b hb (by omega)⟩
 unfold parseP at hr
 cases hn:nextP s ⟨⟨0,0,0,[],false⟩,0,0⟩ with
 | none=>rw [hn] at hr; cases hr
 | some p =>
  rw [hn] at hr
  simp only at hr
  cases ho:orP s 200 p with
  | none=>rw [ho] at hr; cases hr
  | some tq =>
   obtain ⟨t,q⟩:=tq
   rw [ho] at hr
   simp only at hr
   refine newB_blk fun w1 b1 c1 z1=>?_
   rw [hsz]
   refine Sif_cases (fun h=>by have:=of_decide_eq_true h; omega) (fun _=>?_)
   refine newB_blk fun w2 b2 c2 z2=>?_
   have hw:=hL.size
   have p2:PG s w1.heap.size ⟨⟨0,0,0,[],false⟩,0,0⟩ w2:=⟨⟨b2,Nat.zero_le _,Nat.zero_le _,by decide⟩,rfl,Nat.zero_le _⟩
   refine gnext_ok (by omega) hn p2 fun w3 p3 c3=>⟨rfl,?_⟩
   have m0:∀ {a b:World},Ch (fun _=>False) a b→Ch (fun x=>w.heap.size≤x) a b:=fun c=>c.mono fun _ _ h=>h.elim
   have m1:∀ {a b:World} {k:Nat},w.heap.size≤k→Ch (·=k) a b→Ch (fun x=>w.heap.size≤x) a b:=fun hk c=>c.mono fun x hx h=>by rw [h]; exact hk
   have c03:=((m0 c1).trans' (m0 c2)).trans' (m1 (by omega) c3)
   have s3:=c3.size
   have hL3:LW w3:=hL.ch c03 fun b hb h=>by omega
   refine ((grammar (by omega) (by omega) 200 (by decide) 200 (Nat.le_refl _)).1 p _ ho w3 _ hL3 p3) fun x w4 o e f p4 c4=>?_
   refine isT ?_
   simp only at e p4
   refine newB_blk fun w5 b5 c5 z5=>?_
   simp only [add_at,Nat.zero_add,Nat.reduceAdd]
   have s4:=c4.size
   have hx:=TO.lt x o
   refine st8 (x:=x) b5 rfl fun w6 b6 c6 z6=>?_
   have b16:blk w6 w.heap.size=some _:=((c6.blk (by omega) (by omega)).trans ((c5.blk (by omega) id).trans ((c4.blk (by omega) (by omega)).trans ((c3.blk (by omega) (by omega)).trans (c2.blk (by omega) id))))).trans b1
   have o6:TO w6 x:=TO.ch c6 x (TO.ch c5 x o fun _ _ h=>h) fun b hb h=>by have:=hx b hb; omega
   have p6:PG s w1.heap.size q w6:=(p4.ch c5 id).ch c6 (by omega)
   have c06:=((c03.trans' (m1 (by omega) c4)).trans' (m0 c5)).trans' (m1 (by omega) c6)
   have hb6:=p6.1.1
   unfold pcl at hb6
   generalize hqq:(if q.t.k≠0 then q.fail q.t.a 160 else q)=q' at hr
   refine ⟨fun w'=>PG s w1.heap.size q' w'∧Ch (·=w1.heap.size) w6 w',?_,?_⟩
   ·rintro w7 ⟨p7,c7⟩
    have hb7:=p7.1.1
    unfold pcl at hb7
    have c07:=c06.trans' (m1 (by omega) c7)
    have b17:=(c7.blk (by omega) (by omega)).trans b16
    have b7:=(c7.blk (blk_lt b6) (by omega)).trans b6
    refine ⟨_,cellP hb7 7 rfl,?_⟩
    rw [show ((q'.fe:Int) != 0)=!decide (q'.fe=0) from congrArg (!·) (natBeq q'.fe 0)]
    refine Sif_cases (fun h=>?_) (fun h=>?_)
    ·have h:¬ q'.fe=0:=by simpa using h
     rw [if_pos h] at hr; cases hr
     have hb7':blk w7.drew w1.heap.size=_:=hb7
     refine ⟨_,cellP hb7' 6 rfl,_,cellP hb7' 7 rfl,?_⟩
     refine st8 (x:=zTV) (k:=w.heap.size) (w:=w7.drew) b17 rfl fun w8 b8 c8 z8=>?_
     have hb8:=(c8.blk (blk_lt hb7') (by omega)).trans hb7'
     refine ⟨⟨_,cellP hb8 7 rfl,rfl⟩,⟨_,cellP hb8 6 rfl,rfl⟩,?_⟩
     refine ld8 (x:=zTV) b8 ?_
     rw [tvv zTV]
     exact hk' zTV w8 (zTV_ok _) zTV_m (fun b hb=>by rw [zTV_B] at hb; cases hb) ((c07.trans' (Ch.drew _)).trans' (m1 (Nat.le_refl _) c8))
    ·have h:q'.fe=0:=by simpa using h
     rw [if_neg (by omega)] at hr
     refine ld8 (x:=x) b7 ?_
     rw [tvv x]
     have o7:=TO.ch c7 x o6 fun b hb h=>by have:=f b hb; omega
     refine count_ok x (fun _=>True) 0 w7 _ (by decide) (TO.tr x o7 _ fun _ _=>trivial) fun w8 c8 hb=>⟨_,rfl,?_⟩
     rw [e] at hb ⊢
     have b18:=(c8.blk (blk_lt b17) id).trans b17
     have b8:=(c8.blk (blk_lt b7) id).trans b7
     have c08:=c07.trans' (m0 c8)
     refine Sif_cases (fun h=>?_) (fun h=>?_)
     ·have h:=of_decide_eq_true h
      rw [if_pos (by omega)] at hr; cases hr
      refine st8 (x:=zTV) b18 rfl fun w9 b9 c9 z9=>?_
      refine ld8 (x:=zTV) b9 ?_
      rw [tvv zTV]
      exact hk' zTV w9 (zTV_ok _) zTV_m (fun b hb=>by rw [zTV_B] at hb; cases hb) (c08.trans' (m1 (Nat.le_refl _) c9))
     ·have h:=of_decide_eq_false h
      rw [if_neg (by omega)] at hr; cases hr
      refine ld8 (x:=x) b8 ?_
      refine st8 (x:=x) b18 rfl fun w9 b9 c9 z9=>?_
      refine ld8 (x:=x) b9 ?_
      rw [tvv x]
      have o8:=TO.ch c8 x o7 fun _ _ h=>h
      exact hk' x w9 (TO.ch c9 x o8 fun b hb h=>by have:=f b hb; omega) e (fun b hb=>by have:=f b hb; omega) (c08.trans' (m1 (Nat.le_refl _) c9))
   ·refine ⟨_,cellP hb6 1 rfl,?_⟩
    rw [show ((q.t.k:Int) != 0)=!decide (q.t.k=0) from congrArg (!·) (natBeq q.t.k 0)]
    refine Sif_cases (fun h=>?_) (fun h=>?_)
    ·have h:¬ q.t.k=0:=by simpa using h
     rw [if_pos h] at hqq
     refine ⟨_,cellP hb6 2 rfl,?_⟩
     refine gfail_ok p6.1.2.1 (by decide) p6 fun w7 p7 c7=>⟨rfl,by rw [← hqq]; exact p7,c7⟩
    ·have h:q.t.k=0:=by simpa using h
     rw [if_neg (by omega)] at hqq
     exact ⟨by rw [← hqq]; exact p6,Ch.refl _ _⟩
end Go.Proofs.YtnmlmicmhpkbeaaGreatDoor
