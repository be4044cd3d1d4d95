/-
  What is read, may be; how much it is; in plain Lean. No program in sight. Values of the wire as they lie in memory: read (shared or not), and owned.
-/
import Derived.Test.YtnacobknngidkaaGreatDoorPj2
set_option linter.unusedVariables false
set_option linter.unusedSimpArgs false
namespace Go.Note
open Go
set_option linter.unusedVariables false
mutual
def M.sz:M→Nat
 | .mk _ _ t _ l=>1+t.length+M.szL l
def M.szL:List M→Nat
 | []=>0
 | x::l=>M.sz x+M.szL l
end
theorem M.szL_sum (l:List M):M.szL l=(l.map M.sz).sum:=by
 induction l with
 | nil=>rfl
 | cons x l ih=>simp [M.szL,ih]
theorem M.sz_mk (k:Int) (n:Nat) (t:Bs) (e:Int) (l:List M):M.sz (.mk k n t e l)=1+t.length+(l.map M.sz).sum:=by
 rw [M.sz,M.szL_sum]
theorem nameK_len (k:Int):(nameK k).length≤9:=by
 unfold nameK
 have key:∀ n:Fin 26,(names.getD n.val []).length≤9:=by decide +kernel
 by_cases h:k.toNat<26
 ·exact key ⟨k.toNat,h⟩
 ·have:names[k.toNat]?=none:=List.getElem?_eq_none (by
   have:names.length=25:=rfl
   omega)
  rw [List.getD_eq_getElem?_getD,this]; simp
theorem dec_len:∀ (j n:Nat),n<10^(j+1)→(Lib.decDigits n).length≤j+1
 | 0,n,h=>by rw [dec_len_one n (by simpa using h)]; omega
 | j+1,n,h=>by
  rw [Lib.decDigits]
  split
  ·simp
  ·have:=dec_len j (n / 10) (by rw [Nat.pow_succ] at h; omega)
   simp; omega
theorem quoteB_len (t:Bs):(quoteB t).length≤4*t.length+2:=by
 have:=qb_len t.length t (Nat.le_refl _)
 rw [quoteB_eq]
 simp; omega
theorem simple_len {k:Int} {n:Nat} {t:Bs} (hn:n<18446744073709551616):(simpleB k n t).length≤21+4*t.length:=by
 have hd:∀ m,m<18446744073709551616→(Lib.decDigits m).length≤20:=fun m hm=>dec_len 19 m (by omega)
 unfold simpleB
 split
 ·unfold Lib.itoa two64
  split
  ·split
   ·have:=hd ((n:Int)).natAbs (by omega)
    simp only [List.length_cons]; omega
   ·have:=hd ((n:Int)).toNat (by omega)
    omega
  ·split
   ·have:=hd ((n:Int)-18446744073709551616).natAbs (by omega)
    simp only [List.length_cons]; omega
   ·have:=hd ((n:Int)-18446744073709551616).toNat (by omega)
    omega
 ·split
  ·rw [hexN_len]; omega
  ·split
   ·rw [hexN_len]; omega
   ·split
    ·rw [rawB_len]; omega
    ·split
     ·have:=quoteB_len t; omega
     ·have:=hd n hn; omega
theorem print_len2:∀ m:M,m.fits→(printM m).length+2≤46*m.sz:=by
 refine M.ind fun k n t e l ih=>?_
 intro hf
 cases hf with
 | mk hn hfl =>
 have hl:∀ x∈l,(printM x).length+2≤46*x.sz:=fun x hx=>ih x hx (hfl x hx)
 rw [M.sz_mk]
 have hS:∀ l:List M,(∀ x∈l,(printM x).length+2≤46*x.sz)→(printS l).length≤46*(l.map M.sz).sum∧(printV l).length≤46*(l.map M.sz).sum∧(printC l).length≤46*(l.map M.sz).sum:=by
  intro l
  induction l with
  | nil=>intro _; simp [printS,printV,printC]
  | cons x l ihl =>
   intro hl
   have h1:=hl x (by simp)
   obtain ⟨h2,h3,h4⟩:=ihl fun y hy=>hl y (by simp [hy])
   simp only [printS,printV,printC,List.length_cons,List.length_append,List.length_nil,List.map_cons,List.sum_cons]
   omega
 have hL:(printL l).length≤46*(l.map M.sz).sum∧(printP l).length≤46*(l.map M.sz).sum:=by
  cases l with
  | nil=>simp [printL,printP]
  | cons x l =>
   have h1:=hl x (by simp)
   obtain ⟨h2,h3,h4⟩:=hS l fun y hy=>hl y (by simp [hy])
   simp only [printL,printP,List.length_append,List.map_cons,List.sum_cons]
   omega
 have hk0:=nameK_len 0
 have hk:=nameK_len k
 have he:=nameK_len e
 have hq:=quoteB_len t
 have hs:=simple_len (k:=k) (t:=t) hn
 unfold printM
 split
 ·omega
 split
 ·split<;>simp<;>omega
 split
 ·omega
 split
 ·simp only [List.length_cons,List.length_append,List.length_nil]; omega
 split
 ·simp only [List.length_cons,List.length_append,List.length_nil]; omega
 split
 ·simp only [List.length_cons,List.length_append,List.length_nil]; omega
 split
 ·simp only [List.length_cons,List.length_append,List.length_nil]; omega
 ·simp only [List.length_cons,List.length_append,List.length_nil]; omega
theorem print_len (m:M) (h:m.fits):(printM m).length≤46*m.sz:=by
 have:=print_len2 m h; omega
theorem item_len' {l:Bs} {y:Bs} {n:Nat} (h:item l=some (y,n)):y.length≤n:=by
 cases l with
 | nil=>cases h
 | cons x l =>
  simp only [item] at h
  split at h
  ·cases hs:slashed l with
   | none=>rw [hs] at h; cases h
   | some p =>
    rw [hs] at h
    have h2:=item_pos (l:=x::l) (y:=y) (n:=n) (by simp only [item]; rw [if_pos (by assumption),hs]; exact h)
    simp only [Option.map_some,Option.some.injEq,Prod.mk.injEq] at h
    obtain ⟨rfl,rfl⟩:=h
    simp; omega
  ·split at h
   ·cases h
   ·simp only [Option.some.injEq,Prod.mk.injEq] at h
    obtain ⟨rfl,rfl⟩:=h
    rw [List.length_take]; omega
theorem wd_len:∀ (m:Nat) {l:Bs} {y:Bs} {n:Nat},l.length≤m→wd l=some (y,n)→y.length+1≤n
 | 0,l,y,n,hm,h=>by
  have:l=[]:=List.eq_nil_of_length_eq_zero (by omega)
  subst this; cases h
 | m+1,l,y,n,hm,h=>by
  cases l with
  | nil=>cases h
  | cons x l =>
   rw [wd_cons] at h
   split at h
   ·cases h; simp
   ·cases hi:item (x::l) with
    | none=>rw [hi] at h; cases h
    | some q =>
     obtain ⟨y',n'⟩:=q
     rw [hi] at h
     simp only at h
     have h1:=item_pos hi
     have h2:=item_len' hi
     cases hw:wd ((x::l).drop n') with
     | none=>rw [hw] at h; cases h
     | some q =>
      rw [hw] at h
      simp only [Option.map_some,Option.some.injEq,Prod.mk.injEq] at h
      obtain ⟨rfl,rfl⟩:=h
      have:=wd_len m (l:=(x::l).drop n') (y:=q.1) (n:=q.2) (by rw [List.length_drop]; omega) hw
      rw [List.length_append]; omega
theorem wordB_len {l:Bs} {y:Bs} {n:Nat} (h:wordB l=some (y,n)):y.length+2≤n:=by
 cases l with
 | nil=>cases h
 | cons x l =>
  rw [wordB_cons] at h
  split at h
  ·cases hw:wd l with
   | none=>rw [hw] at h; cases h
   | some q =>
    rw [hw] at h
    simp only [Option.map_some,Option.some.injEq,Prod.mk.injEq] at h
    obtain ⟨rfl,rfl⟩:=h
    have:=wd_len _ (l:=l) (y:=q.1) (n:=q.2) (Nat.le_refl _) hw
    omega
  ·cases h
theorem next_text (s:Bs) {a:Nat} (ha:a≤s.length):((next s a).kind≠0→(next s a).kind≠5→(next s a).text.length≤(next s a).fin-(next s a).beg)∧((next s a).kind=2→(next s a).text.length+2≤(next s a).fin-(next s a).beg):=by
 unfold next
 simp only
 cases hd:s.drop (a+skipN false (s.drop a)) with
 | nil=>simp
 | cons x l =>
  simp only
  split
  ·cases hw:wordB (x::l) with
   | none=>simp
   | some p =>
    have:=wordB_len (y:=p.1) (n:=p.2) hw
    simp; omega
  ·split
   ·simp
   ·split
    ·simp; omega
    ·simp
def Good (d a b:Nat) (m:M):Prop:=m.check (33-d)=0∧m.fits∧m.sz≤b-a
theorem fits_one {k:Int} {n:Nat} {t:Bs} {e:Int} (h:n<18446744073709551616):M.fits (.mk k n t e []):=.mk h (by simp)
theorem sz_one {k:Int} {n:Nat} {t:Bs} {e:Int}:M.sz (.mk k n t e [])=1+t.length:=by rw [M.sz_mk]; simp
theorem own_of {d:Nat} {k:Int} {n:Nat} {t:Bs} {e:Int} {l:List M} (h0:0≤k) (h1:k<25) (hd:d≤32) (hx:M.extra (.mk k n t e l)=false) (hn:M.num (.mk k n t e l)=true) (ht:M.txt (.mk k n t e l)=true)
 (hm:k=22→mapOk l=true) (ha:k=23→arrOk e l=true) (hp:k=24→l.length=2):M.own d (.mk k n t e l)=0:=by
 rw [M.own_mk,if_neg (by omega),if_neg (by omega),hx,hn,ht]
 simp only [Bool.false_eq_true,if_false,Bool.true_eq_false]
 rw [if_neg (by rintro ⟨h,h2⟩; rw [hm h] at h2; cases h2),if_neg (by rintro ⟨h,h2⟩; rw [ha h] at h2; cases h2),if_neg (by rintro ⟨h,h2⟩; exact h2 (hp h))]
theorem check_one {d:Nat} {k:Int} {n:Nat} {t:Bs} {e:Int} (h:M.own d (.mk k n t e [])=0):M.check d (.mk k n t e [])=0:=by
 rw [M.check_iff]; exact ⟨h,by simp [M.l]⟩
theorem worded_good {d k a b:Nat} {s:Bs} {m:M} (hd:1≤d∧d≤32) (hk:k=18∨k=19∨k=20) (ha:a≤s.length) (h:worded k (next s a)=.ok m b):Good d a b m:=by
 have hl:=next_lies s a ha
 have hx:=next_text s ha
 unfold worded amiss at h
 split at h
 ·cases h
 ·rename_i h1
  simp only [ne_eq,Decidable.not_not] at h1
  split at h
  ·cases h
  ·rename_i h2
   cases h
   refine ⟨check_one (own_of (by omega) (by omega) (by omega) ?_ ?_ ?_ (by omega) (by omega) (by omega)),fits_one (by decide),?_⟩
   ·have:textK (k:Int)=true:=by unfold textK; simp; omega
    simp [M.extra,M.k,M.n,M.t,M.l,M.e,this]
   ·rw [M.num_mk]
    rw [if_neg (by omega),if_neg (by omega),if_neg (by omega),if_neg (by omega),if_neg (by omega),if_neg (by omega),if_neg (by omega),if_neg (by omega)]
   ·rw [M.txt_mk]
    rw [if_neg (by omega)]
    split
    ·rename_i h3
     cases ht:textB (next s a).text with
     | true=>rfl
     | false=>exact absurd (.inl ⟨by omega,ht⟩) h2
    ·split
     ·rename_i h3
      cases ht:asciiB (next s a).text with
      | true=>rfl
      | false=>exact absurd (.inr ⟨by omega,ht⟩) h2
     ·rfl
   ·rw [sz_one]
    have:=hx.2 h1
    omega
theorem natB_of {s:Bs} {n:Nat} (h:natB s=some n):n=valN s:=by
 unfold natB at h
 split at h
 ·cases h
 ·exact (Option.some.inj h).symm
theorem intB_of {k n:Nat} {s:Bs} (h:intB k s=some n):(n≤(mostK k).1∧¬ (k=15∧55296≤n∧n≤57343))∨(0<(mostK k).2∧n<18446744073709551616∧18446744073709551616-(mostK k).2≤n):=by
 unfold intB at h
 split at h
 ·rename_i h0
  cases hn:natB s.tail with
  | none=>rw [hn] at h; cases h
  | some j =>
   rw [hn] at h
   simp only at h
   split at h
   ·cases h
    right; omega
   ·cases h
 ·cases hn:natB s with
  | none=>rw [hn] at h; cases h
  | some j =>
   rw [hn] at h
   simp only at h
   split at h
   ·cases h
    left; assumption
   ·cases h
theorem pairsB_len:∀ (n:Nat) (s b:Bs),s.length=n→pairsB s=some b→n=2*b.length:=by
 intro n
 induction n using Nat.strongRecOn with
 | ind n ih =>
  intro s b hl h
  match s,hl,h with
  | [],hl,h=>simp [pairsB] at h; subst h; simpa using hl.symm
  | [_],_,h=>simp [pairsB] at h
  | u::v::l,hl,h =>
   simp only [pairsB] at h
   cases hu:unhex u false with
   | none=>rw [hu] at h; simp at h
   | some y =>
    cases hv:unhex v false with
    | none=>rw [hu,hv] at h; simp at h
    | some z =>
     cases hp:pairsB l with
     | none=>rw [hu,hv,hp] at h; simp at h
     | some r =>
      rw [hu,hv,hp] at h
      simp only [Option.some.injEq] at h
      subst h
      simp only [List.length_cons] at hl ⊢
      have:=ih (n-2) (by omega) l r (by omega) hp
      omega
theorem beN_lt (b:Bs):beN b<256^b.length:=by
 induction hn:b.length generalizing b with
 | zero =>
  have:b=[]:=List.eq_nil_of_length_eq_zero hn
  subst this; decide
 | succ n ih =>
  obtain ⟨c,x,rfl⟩:∃ c x,b=c++[x]:=by
   have hne:b≠[]:=fun e=>by rw [e] at hn; simp at hn
   exact ⟨b.dropLast,b.getLast hne,(List.dropLast_concat_getLast hne).symm⟩
  rw [beN_snoc]
  have:=ih c (by simp at hn; omega)
  have hx:=x.toNat_lt
  rw [Nat.pow_succ]; omega
theorem mostK_num {k n:Nat} (hk:2≤k∧k≤17) (hb:bitsK k=0) (h:(n≤(mostK k).1∧¬ (k=15∧55296≤n∧n≤57343))∨(0<(mostK k).2∧n<18446744073709551616∧18446744073709551616-(mostK k).2≤n)) (t:Bs) (e:Int) (l:List M) :
 M.num (.mk k n t e l)=true∧n<18446744073709551616∧(k=2∨k=3∨k=4∨k=5∨k=6∨k=7∨k=8∨k=9∨k=15∨k=16):=by
 have hk2:k=2∨k=3∨k=4∨k=5∨k=6∨k=7∨k=8∨k=9∨k=15∨k=16:=by
  unfold bitsK at hb
  split at hb
  ·cases hb
  ·split at hb
   ·cases hb
   ·split at hb
    ·cases hb
    ·omega
 rw [M.num_mk]
 rcases hk2 with h' | h' | h' | h' | h' | h' | h' | h' | h' | h'<;>subst h'<;>simp [mostK,sgn] at h ⊢<;>omega
theorem numbered_good {d k a b:Nat} {s:Bs} {m:M} (hd:1≤d∧d≤32) (hk:2≤k∧k≤17) {a0:Nat} (ha0:a0<a) (ha:a≤s.length) (h:numbered s k a=.ok m b):Good d a0 b m:=by
 have hl:=next_lies s a ha
 unfold numbered amiss at h
 simp only at h
 split at h
 ·cases h
 ·rename_i h1
  simp only [ne_eq,Decidable.not_not] at h1
  have hx:=(next_text s ha).1 (by omega) (by omega)
  split at h
  ·rename_i hb
   cases hi:intB k (next s a).text with
   | none=>rw [hi] at h; cases h
   | some n =>
    rw [hi] at h
    cases h
    obtain ⟨g1,g2,g3⟩:=mostK_num hk hb (intB_of hi) [] 0 []
    refine ⟨check_one (own_of (by omega) (by omega) (by omega) ?_ g1 ?_ (by omega) (by omega) (by omega)),fits_one g2,?_⟩
    ·have:numK (k:Int)=true:=by unfold numK; simp; omega
     simp [M.extra,M.k,M.n,M.t,M.l,M.e,this]
    ·rw [M.txt_mk]
     rw [if_neg (by omega),if_neg (by omega),if_neg (by omega)]
    ·rw [sz_one]; simp; omega
  ·rename_i hb
   cases hi:bytesB (next s a).text (bitsK k) with
   | none=>rw [hi] at h; cases h
   | some c =>
    rw [hi] at h
    unfold bytesB at hi
    split at hi
    ·rename_i hlen
     have hpl:=pairsB_len _ _ _ hlen hi
     have hbits:(bitsK k=8∧(k=10∨k=12))∨(bitsK k=16∧(k=11∨k=13))∨(bitsK k=32∧(k=14∨k=17)):=by
      unfold bitsK at hb ⊢
      split
      ·left; exact ⟨rfl,by assumption⟩
      ·split
       ·right; left; exact ⟨rfl,by assumption⟩
       ·split
        ·right; right; exact ⟨rfl,by assumption⟩
        ·rename_i h1 h2 h3
         rw [if_neg h1,if_neg h2,if_neg h3] at hb; exact absurd rfl hb
     simp only at h
     split at h
     ·rename_i h32
      cases h
      have hk2:k=14∨k=17:=by omega
      refine ⟨check_one (own_of (by omega) (by omega) (by omega) ?_ ?_ ?_ (by omega) (by omega) (by omega)),fits_one (by decide),?_⟩
      ·have:textK (k:Int)=true:=by unfold textK; simp; omega
       simp [M.extra,M.k,M.n,M.t,M.l,M.e,this]
      ·rw [M.num_mk]
       rw [if_neg (by omega),if_neg (by omega),if_neg (by omega),if_neg (by omega),if_neg (by omega),if_neg (by omega),if_neg (by omega),if_neg (by omega)]
      ·rw [M.txt_mk]
       rw [if_pos (by omega),decide_eq_true (by omega)]
      ·rw [sz_one]; omega
     ·rename_i h32
      cases h
      have hlt:=beN_lt c
      have hlim:beN c<18446744073709551616∧(k=10∨k=12→beN c≤4294967295):=by
       rcases hbits with ⟨q1,q2⟩ | ⟨q1,q2⟩ | ⟨q1,q2⟩
       ·have:c.length=4:=by omega
        rw [this] at hlt; omega
       ·have:c.length=8:=by omega
        rw [this] at hlt; omega
       ·exact absurd q1 h32
      refine ⟨check_one (own_of (by omega) (by omega) (by omega) ?_ ?_ ?_ (by omega) (by omega) (by omega)),fits_one hlim.1,?_⟩
      ·have:numK (k:Int)=true:=by unfold numK; simp; omega
       simp [M.extra,M.k,M.n,M.t,M.l,M.e,this]
      ·rw [M.num_mk]
       rw [if_neg (by omega),if_neg (by omega),if_neg (by omega)]
       split
       ·have:=hlim.2 (by omega)
        exact decide_eq_true this
       ·rw [if_neg (by omega),if_neg (by omega),if_neg (by omega),if_neg (by omega)]
      ·rw [M.txt_mk]
       rw [if_neg (by omega),if_neg (by omega),if_neg (by omega)]
      ·rw [sz_one]; simp; omega
    ·cases hi
def GoodL (d n:Nat) (l:List M):Prop:=(∀ x∈l,x.check (33-d)=0)∧(∀ x∈l,x.fits)∧(l.map M.sz).sum≤n
theorem GoodL.snoc {d n k:Nat} {l:List M} {x:M} (h:GoodL d n l) (h1:x.check (33-d)=0) (h2:x.fits) (h3:x.sz≤k):GoodL d (n+k) (l++[x]):=by
 obtain ⟨g1,g2,g3⟩:=h
 refine ⟨fun y hy=>?_,fun y hy=>?_,by simp; omega⟩
 ·rcases List.mem_append.1 hy with h | h
  ·exact g1 y h
  ·rw [List.mem_singleton.1 h]; exact h1
 ·rcases List.mem_append.1 hy with h | h
  ·exact g2 y h
  ·rw [List.mem_singleton.1 h]; exact h2
theorem GoodL.mono {d n k:Nat} {l:List M} (h:GoodL d n l) (hk:n≤k):GoodL d k l:=⟨h.1,h.2.1,by have:=h.2.2; omega⟩
theorem elems_good {s:Bs} {d:Nat} (ih:∀ a b m,a≤s.length→rdM s d a=.ok m b→Good d a b m) {elem:Option Nat} {a0:Nat}:∀ (f a:Nat) (acc l:List M) (b:Nat),a0≤a→a≤s.length→GoodL d (a-a0) acc→(∀ k,elem=some k→∀ x∈acc,x.k=(k:Int))→elemsF (rdM s d) s elem f a acc=.ok l b→GoodL d (b-a0) l∧∀ k,elem=some k→∀ x∈l,x.k=(k:Int)
 | 0,_,_,_,_,_,_,_,_,h=>by simp [elemsF] at h
 | f+1,a,acc,l,b,h0,ha,hg,hk,h=>by
  have hl:=next_lies s a ha
  unfold elemsF at h
  simp only at h
  split at h
  ·cases h
   exact ⟨hg.mono (by omega),hk⟩
  ·cases hr:rdM s d a with
   | bad _ _=>rw [hr] at h; cases h
   | ok m c =>
    rw [hr] at h
    have hm:=ih a c m ha hr
    have hgo:=rdM_goes s d a m c ha hr
    have hg2:=(hg.snoc hm.1 hm.2.1 hm.2.2).mono (show a-a0+(c-a)≤c-a0 by omega)
    cases elem with
    | none=>exact elems_good ih f c _ l b (by omega) (by omega) hg2 (fun _ h=>by cases h) h
    | some j =>
     simp only at h
     split at h
     ·rename_i hj
      refine elems_good ih f c _ l b (by omega) (by omega) hg2 (fun k hk' x hx=>?_) h
      cases hk'
      rcases List.mem_append.1 hx with h | h
      ·exact hk _ rfl x h
      ·rw [List.mem_singleton.1 h]; exact hj
     ·unfold amiss at h; cases h
theorem pairs_good {s:Bs} {d:Nat} (ih:∀ a b m,a≤s.length→rdM s d a=.ok m b→Good d a b m) {a0:Nat}:∀ (f a:Nat) (acc l:List M) (b:Nat),a0≤a→a≤s.length→GoodL d (a-a0) acc→acc.length%2=0→pairsF (rdM s d) s f a acc=.ok l b→GoodL d (b-a0) l∧l.length%2=0
 | 0,_,_,_,_,_,_,_,_,h=>by simp [pairsF] at h
 | f+1,a,acc,l,b,h0,ha,hg,hk,h=>by
  unfold pairsF at h
  cases hr:rdM s d a with
  | bad c e=>rw [hr] at h; cases h
  | ok x c =>
   rw [hr] at h
   have h3:=rdM_goes s d a x c ha hr
   have hm:=ih a c x ha hr
   simp only at h
   split at h
   ·exact absurd h wanted_ne
   ·rename_i hc
    have h4:=next_of_is (s:=s) (a:=c) (c:=58) (by omega) (by simpa using hc)
    cases hr2:rdM s d (next s c).fin with
    | bad _ _=>rw [hr2] at h; cases h
    | ok v e =>
     rw [hr2] at h
     have h5:=rdM_goes s d _ v e (by omega) hr2
     have hm2:=ih _ e v (by omega) hr2
     have hg2:=((hg.snoc hm.1 hm.2.1 hm.2.2).snoc hm2.1 hm2.2.1 hm2.2.2).mono (show a-a0+(c-a)+(e-(next s c).fin)≤e-a0 by omega)
     rw [List.append_assoc] at hg2
     have hev:(acc++([x]++[v])).length%2=0:=by simp; omega
     simp only at h
     split at h
     ·rename_i ht
      have h6:=next_of_is (s:=s) (a:=e) (c:=125) (by omega) ht
      cases h
      exact ⟨hg2.mono (by omega),hev⟩
     ·split at h
      ·exact absurd h wanted_ne
      ·rename_i ht
       have h6:=next_of_is (s:=s) (a:=e) (c:=44) (by omega) (by simpa using ht)
       exact pairs_good ih f _ _ l b (by omega) (by omega) (hg2.mono (by omega)) hev h
theorem good_list {d a b:Nat} {k:Int} {e:Int} {l:List M} {n:Nat} (hd:d+1≤32) (h:GoodL d n l) (hn:n+1≤b-a) (hk:k=21∨k=22∨k=23∨k=24) (he:k≠23→e=0) (hm:k=22→mapOk l=true) (ha:k=23→arrOk e l=true) (hp:k=24→l.length=2):Good (d+1) a b (.mk k 0 [] e l):=by
 refine ⟨?_,.mk (by decide) h.2.1,?_⟩
 ·rw [M.check_iff]
  refine ⟨own_of (by omega) (by omega) (by omega) ?_ ?_ ?_ hm ha hp,fun x hx=>?_⟩
  ·have:listK k=true:=by unfold listK; simp; omega
   rw [M.extra_mk]
   by_cases h23:k=23
   ·rw [this]; simp [h23]
   ·simp [this,he h23]
  ·rw [M.num_mk]
   rw [if_neg (by omega),if_neg (by omega),if_neg (by omega),if_neg (by omega),if_neg (by omega),if_neg (by omega),if_neg (by omega),if_neg (by omega)]
  ·rw [M.txt_mk]
   rw [if_neg (by omega),if_neg (by omega),if_neg (by omega)]
  ·have:=h.1 x hx
   rw [show 33-(d+1)+1=33-d by omega]; exact this
 ·rw [M.sz_mk]
  have:=h.2.2
  simp; omega
theorem kindN_lt {t:Bs} {k:Nat} (h:kindN t=some k):k<25:=by
 unfold kindN at h
 obtain ⟨h1,_⟩:=List.findIdx?_eq_some_iff_getElem.1 h
 exact h1
theorem begins_lt {t:Tok} {k:Nat} (h:begins t=some k):k<25:=by
 unfold begins at h
 split at h
 ·cases h; decide
 ·split at h
  ·split at h
   ·cases h; decide
   ·split at h
    ·cases h; decide
    ·split at h
     ·cases h; decide
     ·cases h
  ·split at h
   ·cases h
   ·split at h
    ·cases h; decide
    ·cases hk:kindN t.text with
     | none=>rw [hk] at h; cases h
     | some j =>
      rw [hk] at h
      simp only at h
      split at h
      ·cases h
      ·cases h
       exact kindN_lt hk
theorem rdM_good (s:Bs):∀ (d:Nat),d≤32→∀ (a b:Nat) (m:M),a≤s.length→rdM s d a=.ok m b→Good d a b m
 | 0,_,a,b,m,ha,h=>by
  rw [rdM_eq] at h
  unfold amiss at h
  split at h
  ·split at h<;>cases h
  ·cases h
 | d+1,hd,a,b,m,ha,h=>by
  have ih:=rdM_good s d (by omega)
  rw [rdM_eq] at h
  have hg:=rdM_goes s d
  have hl:=next_lies s a ha
  cases hb:begins (next s a) with
  | none =>
   rw [hb] at h
   unfold amiss at h
   simp only at h
   split at h<;>cases h
  | some k =>
   rw [hb] at h
   have hk0:=begins_kind hb
   have hk25:=begins_lt hb
   simp only at h
   have hl2:=next_lies s (next s a).fin (by omega)
   have h0:GoodL d 0 []:=⟨by simp,by simp,by simp⟩
   split at h
   ·rename_i hk
    cases h
    refine ⟨check_one (own_of (by omega) (by omega) (by omega) (by decide) (by decide) (by decide) (by omega) (by omega) (by omega)),fits_one (by decide),?_⟩
    rw [sz_one]; simp; omega
   split at h
   ·rename_i hk
    cases h
    refine ⟨check_one (own_of (by omega) (by omega) (by omega) ?_ ?_ (by rfl) (by omega) (by omega) (by omega)),fits_one (by split<;>decide),?_⟩
    ·simp [M.extra,M.k,M.n,M.t,M.l,M.e,numK]
    ·rw [M.num_mk,if_pos rfl]; split<;>decide
    ·rw [sz_one]; simp; omega
   split at h
   ·exact worded_good (by omega) (by omega) ha h
   split at h
   ·rename_i hk
    have h1:=worded_good (d:=d+1) (by omega) (by omega) (by omega) h
    exact ⟨h1.1,h1.2.1,by have:=h1.2.2; omega⟩
   split at h
   ·unfold listed at h
    cases he:elemsF (rdM s d) s none (s.length+1) (next s a).fin [] with
    | bad _ _=>rw [he] at h; cases h
    | ok l c =>
     rw [he] at h
     cases h
     have h1:=elems_good ih _ _ _ _ _ (Nat.le_refl _) (by omega) (h0.mono (by omega)) (fun _ h=>by cases h) he
     have h2:=elemsF_fin hg none _ _ _ _ _ (by omega) he
     exact good_list (by omega) h1.1 (by omega) (by omega) (fun _=>rfl) (by omega) (by omega) (by omega)
   split at h
   ·unfold mapped at h
    simp only at h
    have hsh:∀ l c,GoodL d (c-(next s a).fin) l→(next s a).fin≤c→l.length%2=0→shut l (next s a).beg c=.ok m b→Good (d+1) a b m:=by
     intro l c hgl hc hev hs
     unfold shut at hs
     split at hs
     ·cases hs
     ·rename_i hno
      cases hs
      have hno1:l.length≤2048:=by omega
      have hno2:(keysOf l).Nodup:=Classical.byContradiction fun h=>hno (.inr h)
      refine good_list (by omega) hgl (by omega) (by omega) (fun _=>rfl) (fun _=>?_) (by omega) (by omega)
      unfold mapOk
      simp [hev,hno2]; omega
    split at h
    ·rename_i hi
     have h3:=next_of_is (s:=s) (by omega) hi
     exact hsh [] _ (h0.mono (by omega)) (by omega) rfl h
    ·cases hp:pairsF (rdM s d) s (s.length+1) (next s a).fin [] with
     | bad _ _=>rw [hp] at h; cases h
     | ok l c =>
      rw [hp] at h
      have h1:=pairs_good ih _ _ _ _ _ (Nat.le_refl _) (by omega) (h0.mono (by omega)) rfl hp
      have h2:=pairsF_fin hg _ _ _ _ _ (by omega) hp
      exact hsh l c h1.1 (by omega) h1.2 h
   split at h
   ·unfold arrayed at h
    simp only at h
    split at h
    ·unfold amiss at h; cases h
    ·cases hkb:kindN (next s (next s a).fin).text with
     | none=>rw [hkb] at h; unfold amiss at h; cases h
     | some j =>
      rw [hkb] at h
      have hj:=kindN_lt hkb
      simp only at h
      split at h
      ·unfold amiss at h; cases h
      ·rename_i hj2
       split at h
       ·unfold amiss at h; cases h
       ·rename_i ho
        have h3:=next_of_is (s:=s) (a:=(next s (next s a).fin).fin) (c:=91) (by omega) (by simpa using ho)
        unfold listed at h
        cases he:elemsF (rdM s d) s (some j) (s.length+1) (next s (next s (next s a).fin).fin).fin [] with
        | bad _ _=>rw [he] at h; cases h
        | ok l c =>
                  rw [he] at h
                  cases h
                  have h1:=elems_good ih _ _ _ _ _ (Nat.le_refl _) (by omega) (h0.mono (by omega)) (fun _ _=>by simp) he
                  have h2:=elemsF_fin hg (some j) _ _ _ _ _ (by omega) he
                  refine good_list (by omega) h1.1 (by omega) (by omega) (by omega) (by omega) (fun _=>?_) (by omega)
                  unfold arrOk
                  simp only [Bool.and_eq_true,decide_eq_true_eq,List.all_eq_true]
                  exact ⟨⟨by omega,by omega⟩,h1.2 j rfl⟩
   split at h
   ·unfold described at h
    cases hr:rdM s d (next s a).fin with
    | bad _ _=>rw [hr] at h; cases h
    | ok x c =>
     rw [hr] at h
     have h3:=hg _ _ _ (by omega) hr
     have g3:=ih _ _ _ (by omega) hr
     simp only at h
     cases hr2:rdM s d c with
     | bad _ _=>rw [hr2] at h; cases h
     | ok y e =>
      rw [hr2] at h
      have h4:=hg _ _ _ (by omega) hr2
      have g4:=ih _ _ _ (by omega) hr2
      simp only at h
      split at h
      ·exact absurd h wanted_ne
      ·rename_i ho
       have h5:=next_of_is (s:=s) (a:=e) (c:=41) (by omega) (by simpa using ho)
       cases h
       have g5:=(h0.snoc g3.1 g3.2.1 g3.2.2).snoc g4.1 g4.2.1 g4.2.2
       exact good_list (by omega) g5 (by omega) (by omega) (fun _=>rfl) (by omega) (by omega) (fun _=>rfl)
   ·have h1:=numbered_good (d:=d+1) (a0:=a) (by omega) (by omega) (by omega) (by omega) h
    exact h1
theorem parse_good {s:Bs} {m:M} {b:Nat} (h:parseB s=.ok m b):m.check 1=0∧m.fits∧m.sz≤s.length∧b=0∧s.length≤1048576:=by
 unfold parseB at h
 split at h
 ·cases h
 ·rename_i hl
  cases hr:rdM s 32 0 with
  | bad _ _=>rw [hr] at h; cases h
  | ok x c =>
   rw [hr] at h
   simp only at h
   split at h
   ·unfold amiss at h; cases h
   ·cases h
    have h1:=rdM_good s 32 (Nat.le_refl _) 0 c m (by omega) hr
    have h2:=rdM_goes s 32 0 m c (by omega) hr
    exact ⟨h1.1,h1.2.1,by have:=h1.2.2; omega,rfl,by omega⟩
end Go.Note
namespace Go.Proofs.YtnacobknngidkaaGreatDoor
open Go Go.Sv Go.Note
set_option linter.unusedVariables false
inductive MV where
 | mk (k:Int) (n:Nat) (t:Bs) (s:SL) (e:Int) (l:List MV)
def MV.k:MV→Int | .mk k _ _ _ _ _=>k
def MV.n:MV→Nat | .mk _ n _ _ _ _=>n
def MV.t:MV→Bs | .mk _ _ t _ _ _=>t
def MV.s:MV→SL | .mk _ _ _ s _ _=>s
def MV.e:MV→Int | .mk _ _ _ _ e _=>e
def MV.l:MV→List MV | .mk _ _ _ _ _ l=>l
theorem MV.k_mk (k:Int) (n:Nat) (t:Bs) (s:SL) (e:Int) (l:List MV):(MV.mk k n t s e l).k=k:=rfl
theorem MV.n_mk (k:Int) (n:Nat) (t:Bs) (s:SL) (e:Int) (l:List MV):(MV.mk k n t s e l).n=n:=rfl
theorem MV.t_mk (k:Int) (n:Nat) (t:Bs) (s:SL) (e:Int) (l:List MV):(MV.mk k n t s e l).t=t:=rfl
theorem MV.s_mk (k:Int) (n:Nat) (t:Bs) (s:SL) (e:Int) (l:List MV):(MV.mk k n t s e l).s=s:=rfl
theorem MV.e_mk (k:Int) (n:Nat) (t:Bs) (s:SL) (e:Int) (l:List MV):(MV.mk k n t s e l).e=e:=rfl
theorem MV.l_mk (k:Int) (n:Nat) (t:Bs) (s:SL) (e:Int) (l:List MV):(MV.mk k n t s e l).l=l:=rfl
abbrev str (t:Bs):ByteArray:=⟨t.toArray⟩
def MV.g:MV→List Value
 | .mk k n t s e _=>[.int .i64 k,.int .u64 (n:Int),.string ⟨t.toArray⟩,.slice s.p s.n s.c,.int .i64 e]
def MV.v (x:MV):Value:=.agg x.g.toArray
mutual
def MV.m:MV→M
 | .mk k n t _ e l=>.mk k n t e (MV.mL l)
def MV.mL:List MV→List M
 | []=>[]
 | x::l=>MV.m x::MV.mL l
end
mutual
def MV.B:MV→List Nat
 | .mk _ _ _ s _ l=>s.own.toList++MV.BL l
def MV.BL:List MV→List Nat
 | []=>[]
 | x::l=>MV.B x++MV.BL l
end
theorem MV.mL_map (l:List MV):MV.mL l=l.map MV.m:=by
 induction l with
 | nil=>rfl
 | cons x l ih=>simp [MV.mL,ih]
theorem MV.BL_flat (l:List MV):MV.BL l=l.flatMap MV.B:=by
 induction l with
 | nil=>rfl
 | cons x l ih=>simp [MV.BL,ih]
theorem MV.m_mk (k:Int) (n:Nat) (t:Bs) (s:SL) (e:Int) (l:List MV):(MV.mk k n t s e l).m=.mk k n t e (l.map MV.m):=by rw [MV.m,MV.mL_map]
theorem MV.B_mk (k:Int) (n:Nat) (t:Bs) (s:SL) (e:Int) (l:List MV):(MV.mk k n t s e l).B=s.own.toList++l.flatMap MV.B:=by rw [MV.B,MV.BL_flat]
theorem MV.glen (x:MV):x.g.length=5:=by cases x; rfl
theorem MV.gone (x:MV):∀ v∈x.g,oneV v=true:=by
 cases x
 intro v hv
 simp only [MV.g,List.mem_cons,List.not_mem_nil,or_false] at hv
 rcases hv with h | h | h | h | h<;>rw [h]<;>rfl
theorem MV.lt_of_mem {k:Int} {n:Nat} {t:Bs} {s:SL} {e:Int} {l:List MV} {x:MV} (h:x∈l):SizeOf.sizeOf x<SizeOf.sizeOf (MV.mk k n t s e l):=by
 have:=List.sizeOf_lt_of_mem h
 simp only [MV.mk.sizeOf_spec]; omega
theorem MV.ind {P:MV→Prop} (h:∀ k n t s e l,(∀ x∈l,P x)→P (.mk k n t s e l)):∀ m,P m
 | .mk k n t s e l=>h k n t s e l fun x hx=>MV.ind h x
termination_by m=>SizeOf.sizeOf m
decreasing_by exact MV.lt_of_mem hx
inductive VR (Q:Nat→Prop) (w:World):MV→Prop where
 | mk {k:Int} {n:Nat} {t:Bs} {s:SL} {e:Int} {l:List MV}:l.length=s.n→s.n≤2^46→Rd w s.p s.n 5 (l.flatMap MV.g)→(∀ a,s.p=some a→s.n*5≠0→Q a.block)→(∀ x∈l,VR Q w x)→VR Q w (.mk k n t s e l)
theorem VR.ch {Q S:Nat→Prop} {w w':World} (hc:Ch S w w') (hn:∀ b,Q b→¬ S b):∀ x:MV,VR Q w x→VR Q w' x:=by
 refine MV.ind fun k n t s e l ih=>?_
 intro h
 cases h with
 | mk h1 h2 h3 h4 h5 =>
  exact .mk h1 h2 (h3.ch hc fun a ha h0=>hn _ (h4 a ha h0)) h4 fun x hx=>ih x hx (h5 x hx)
theorem VR.ch0 {Q:Nat→Prop} {w w':World} (hc:Ch (fun _=>False) w w') {x:MV} (h:VR Q w x):VR Q w' x:=VR.ch hc (fun _ _ h=>h) x h
theorem VR.mono {Q Q':Nat→Prop} {w:World} (hq:∀ b,Q b→Q' b):∀ x:MV,VR Q w x→VR Q' w x:=by
 refine MV.ind fun k n t s e l ih=>?_
 intro h
 cases h with
 | mk h1 h2 h3 h4 h5 =>
  exact .mk h1 h2 h3 (fun a ha h0=>hq _ (h4 a ha h0)) fun x hx=>ih x hx (h5 x hx)
theorem VR.inv {Q:Nat→Prop} {w:World} {x:MV} (h:VR Q w x):x.l.length=x.s.n∧x.s.n≤2^46∧Rd w x.s.p x.s.n 5 (x.l.flatMap MV.g)∧(∀ a,x.s.p=some a→x.s.n*5≠0→Q a.block)∧∀ y∈x.l,VR Q w y:=by
 cases h with
 | mk h1 h2 h3 h4 h5=>exact ⟨h1,h2,h3,h4,h5⟩
theorem VR.lt {Q:Nat→Prop} {w:World}:∀ x:MV,VR Q w x→VR (fun b=>Q b∧b<w.heap.size) w x:=by
 refine MV.ind fun k n t s e l ih=>?_
 intro h
 cases h with
 | mk h1 h2 h3 h4 h5 =>
  exact .mk h1 h2 h3 (fun a ha h0=>⟨h4 a ha h0,h3.lt a ha h0⟩) fun x hx=>ih x hx (h5 x hx)
def At (w:World) (b o:Nat) (x:MV):Prop:=∀ j v,x.g[j]?=some v→w.cell? ⟨b,o+j,none⟩=some v
theorem At.ch {S:Nat→Prop} {w w':World} {b o:Nat} {x:MV} (h:At w b o x) (hc:Ch S w w') (hn:¬ S b):At w' b o x:=fun j v hv=>by
 have h1:=h j v hv
 have hlt:b<w.heap.size:=by
  obtain ⟨cs,h2,_⟩:∃ cs,cellsAt w b=some cs∧cs[o+j]?=some v:=by
   unfold World.cell? at h1
   unfold cellsAt
   simp only at h1
   split at h1
   ·rename_i c t fz hh
    exact ⟨c.toList,by rw [hh],by simpa using h1⟩
   ·cases h1
  exact cells_lt h2
 have e:w'.cell? ⟨b,o+j,none⟩=w.cell? ⟨b,o+j,none⟩:=World.cell?_of_block (a:=⟨b,o+j,none⟩) (hc.keep b hlt hn)
 rw [e]; exact h1
theorem At.blk {w:World} {b:Nat} {x:MV} (h:blk w b=some x.g):At w b 0 x:=fun j v hv=>by rw [cell_blk h,Nat.zero_add]; exact hv
theorem VR.at {Q:Nat→Prop} {w:World} {x y:MV} (h:VR Q w x) {i:Nat} (hi:x.l[i]?=some y):∃ b o,x.s.p=some ⟨b,o,none⟩∧Q b∧At w b (o+i*5) y:=by
 obtain ⟨h1,h2,h3,h4,h5⟩:=h.inv
 obtain ⟨b,o,hp,ha⟩:=h3.at MV.glen hi (by decide)
 have hil:i<x.l.length:=(List.getElem?_eq_some_iff.1 hi).1
 exact ⟨b,o,hp,h4 _ hp (by omega),ha⟩
theorem rd5 {w:World} {b o:Nat} {x:MV} {K:Int→Int→ByteArray→Option Addr→Nat→Nat→Int→Prop} (h:At w b o x) (hk:K x.k (x.n:Int) ⟨x.t.toArray⟩ x.s.p x.s.n x.s.c x.e) :
 ∃ n,w.cell? ⟨b,o+0,none⟩=some (.int .i64 n)∧∃ n1,w.cell? ⟨b,o+1,none⟩=some (.int .u64 n1)∧∃ s,w.cell? ⟨b,o+2,none⟩=some (.string s)∧∃ p n2 c,w.cell? ⟨b,o+3,none⟩=some (.slice p n2 c)∧∃ n3,w.cell? ⟨b,o+4,none⟩=some (.int .i64 n3)∧K n n1 s p n2 c n3:=by
 cases x
 exact ⟨_,h 0 _ rfl,_,h 1 _ rfl,_,h 2 _ rfl,_,_,_,h 3 _ rfl,_,h 4 _ rfl,hk⟩
theorem At.k0 {w:World} {b o:Nat} {x:MV} (h:At w b o x):w.cell? ⟨b,o+0,none⟩=some (.int .i64 x.k):=by cases x; exact h 0 _ rfl
theorem At.n1 {w:World} {b o:Nat} {x:MV} (h:At w b o x):w.cell? ⟨b,o+1,none⟩=some (.int .u64 (x.n:Int)):=by cases x; exact h 1 _ rfl
theorem At.t2 {w:World} {b o:Nat} {x:MV} (h:At w b o x):w.cell? ⟨b,o+2,none⟩=some (.string ⟨x.t.toArray⟩):=by cases x; exact h 2 _ rfl
theorem At.s3 {w:World} {b o:Nat} {x:MV} (h:At w b o x):w.cell? ⟨b,o+3,none⟩=some (.slice x.s.p x.s.n x.s.c):=by cases x; exact h 3 _ rfl
theorem At.e4 {w:World} {b o:Nat} {x:MV} (h:At w b o x):w.cell? ⟨b,o+4,none⟩=some (.int .i64 x.e):=by cases x; exact h 4 _ rfl
theorem vv (x:MV):Value.agg (Array.mk [.int .i64 x.k,.int .u64 (x.n:Int),.string ⟨x.t.toArray⟩,.slice x.s.p x.s.n x.s.c,.int .i64 x.e])=x.v:=by cases x; rfl
theorem boxV {w:World} {x:MV} {t:TypeId} {K:Addr→World→Prop} (hk:∀ w',blk w' w.heap.size=some x.g→At w' w.heap.size 0 x→Ch (fun _=>False) w w'→w'.heap.size=w.heap.size+1→K ⟨w.heap.size,0,none⟩ w'):newB w x.g t K :=
 newB_blk fun w1 b1 c1 z1=>hk w1 b1 (At.blk b1) c1 (by omega)
inductive VO (w:World):MV→Prop where
 | mk {k:Int} {n:Nat} {t:Bs} {s:SL} {e:Int} {l:List MV}:l.length=s.n→s.n≤2^46→Ow w s.p s.n s.c 5 (l.flatMap MV.g) s.own→(∀ x∈l,VO w x)→(s.own.toList++l.flatMap MV.B).Nodup→VO w (.mk k n t s e l)
theorem VO.inv {w:World} {x:MV} (h:VO w x):x.l.length=x.s.n∧x.s.n≤2^46∧Ow w x.s.p x.s.n x.s.c 5 (x.l.flatMap MV.g) x.s.own∧(∀ y∈x.l,VO w y)∧x.B.Nodup:=by
 cases h with
 | mk h1 h2 h3 h4 h5=>exact ⟨h1,h2,h3,h4,by rw [MV.B_mk]; exact h5⟩
theorem VO.ch {S:Nat→Prop} {w w':World} (hc:Ch S w w'):∀ x:MV,VO w x→(∀ b∈x.B,¬ S b)→VO w' x:=by
 refine MV.ind fun k n t s e l ih=>?_
 intro h hn
 rw [MV.B_mk] at hn
 cases h with
 | mk h1 h2 h3 h4 h5 =>
  refine .mk h1 h2 (h3.ch hc fun b hb=>hn b (by simp [hb])) (fun x hx=>ih x hx (h4 x hx) fun b hb=>hn b ?_) h5
  exact List.mem_append.2 (.inr (List.mem_flatMap.2 ⟨x,hx,hb⟩))
theorem VO.lt {w:World}:∀ x:MV,VO w x→∀ b∈x.B,b<w.heap.size:=by
 refine MV.ind fun k n t s e l ih=>?_
 intro h b hb
 rw [MV.B_mk] at hb
 cases h with
 | mk h1 h2 h3 h4 h5 =>
  rcases List.mem_append.1 hb with hb | hb
  ·exact h3.blt b (by simpa [Option.mem_toList] using hb)
  ·obtain ⟨x,hx,hb⟩:=List.mem_flatMap.1 hb
   exact ih x hx (h4 x hx) b hb
def VE:El MV where
 g:=MV.g
 sz:=5
 B:=MV.B
 Ok:=VO
 glen:=MV.glen
 gone:=MV.gone
 ch h hc hn:=VO.ch hc _ h hn
 lt h:=VO.lt _ h
 nd h:=h.inv.2.2.2.2
theorem ow_block {w:World} {p:Option Addr} {n c sz:Nat} {xs:List Value} {b:Option Nat} (h:Ow w p n c sz xs b):∀ a,p=some a→n*sz≠0→b=some a.block:=by
 intro a ha h0
 obtain ⟨_,h2,h3⟩:=h
 rcases h3 with ⟨h3,h4⟩ | ⟨k,o,cs,h3,h4,_⟩
 ·have:n*sz≤c*sz:=Nat.mul_le_mul_right _ h2
  omega
 ·rw [h4] at ha; cases ha; exact h3
theorem VO.vr {w:World}:∀ x:MV,VO w x→∀ Q:Nat→Prop,(∀ b∈x.B,Q b)→VR Q w x:=by
 refine MV.ind fun k n t s e l ih=>?_
 intro h Q hq
 rw [MV.B_mk] at hq
 cases h with
 | mk h1 h2 h3 h4 h5 =>
  refine .mk h1 h2 h3.rd (fun a ha h0=>hq _ ?_) fun x hx=>ih x hx (h4 x hx) Q fun b hb=>hq b ?_
  ·have:=ow_block h3 a ha h0
   simp [this]
  ·exact List.mem_append.2 (.inr (List.mem_flatMap.2 ⟨x,hx,hb⟩))
theorem VO.vr' {w:World} {x:MV} (h:VO w x):VR (·∈x.B) w x:=VO.vr x h _ fun _ h=>h
theorem VO.none {w:World} {k:Int} {n:Nat} {t:Bs} {e:Int}:VO w (.mk k n t ⟨none,0,0,none⟩ e []):=.mk rfl (by decide) (by simpa using Ow.nil) (by simp) (by simp)
end Go.Proofs.YtnacobknngidkaaGreatDoor
