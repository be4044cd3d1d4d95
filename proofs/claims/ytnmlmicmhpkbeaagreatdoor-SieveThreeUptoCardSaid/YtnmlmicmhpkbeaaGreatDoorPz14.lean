/-
  The program's patterns: cut, head, like, Like. How a filter's text is read, in plain Lean, as far as the program's walk follows it (none: it does not): tokens, the grammar with fuel. No program in sight. The program's reading of filters: the reader in memory, its small functions: fail, sees, digits, words, keywords. The program's reading of filters: words, keywords, what stands between quotes. The program's reading of filters: what stands between quotes, numbers, signs, the next token. The program's reading of filters: signs, the next token, takes, must. Terms of filters as they lie in memory: read, and owned. DERIVED: THE SHELF's CONTRACTS AT THIS DUMP, IN PLAIN WORDS (tools/lay-plain.mjs out of 'YtnmlmicmhpkbeaaGreatDoorShelf4.lean', which tools/lay-shelf.mjs wrote): THE SAME DECLARATIONS UNDER THE SAME NAMES: 'import', 'namespace', 'open', 'def', 'theorem' AND NOTHING ELSE: no command of the shelf's: FOR A HAND-IN. Each laying: the table of numbers ('.._ren') and one theorem, a field a fact of the dump's own or the kernel's comparison; each contract: ONE APPLICATION. The program's reading of filters: terms that come out, literals. The program's reading of filters: literals. The program's reading of filters: rows of terms with a word between them. The program's reading of filters: rows of terms with a word between them. The program's reading of filters: the grammar's rules, each against its plain form, the parts handed in. The program's reading of filters: not, unary. What may be amiss with a term: arity, escapes, literals.
-/
import Derived.Test.YtnmlmicmhpkbeaaGreatDoorPz13
import Derived.Lib.ParseIntB
import Derived.Shelf.Strings.Builder1
import Derived.Shelf.Strings.Builder2
import Derived.Shelf.Small.Utf8
import Derived.Shelf.Small.Bits
import Derived.Shelf.Small.Strs
import Derived.Shelf.Small.Wraps
import Derived.Shelf.Strings.BuilderF
import Derived.Shelf.Strings.BuilderK
import Derived.Shelf.Strings.BuilderRune
import Derived.Shelf.Utf8.AppendRunePlain
import Derived.Shelf.Utf8.RuneCount
import Derived.Shelf.Strings.Builder2Cap
import Derived.Shelf.Strconv.Itoa0
import Derived.Shelf.Strconv.Itoa1
import Derived.Shelf.LaysM
import Derived.Shelf.Strconv.Itoa2
import Derived.Shelf.Strconv.Itoa3
import Derived.Shelf.Strconv.Itoa4
import Derived.Shelf.Strconv.ParseIntEmpty
import Derived.Shelf.Strconv.Clone
import Derived.Shelf.Strconv.SyntaxError
import Derived.Shelf.LaysC
import Derived.Shelf.Strconv.ToError
import Derived.Shelf.Strconv.Lower
import Derived.Shelf.Strconv.ParseUint10
import Derived.Shelf.Strconv.ParseUint10Empty
import Derived.Shelf.Strconv.ParseUint10Any
import Derived.Shelf.Strconv.ParseInt10
import Derived.Shelf.Strconv.RangeError
import Derived.Shelf.Strconv.ToErrorRange
import Derived.Shelf.Strconv.ParseUintEmpty
import Derived.Shelf.Strconv.ParseUint10b64
import Derived.Shelf.Strconv.ParseUint10b32
import Derived.Shelf.Strconv.ParseUint10b16
import Derived.Shelf.Strconv.ParseUint10b8
import Derived.Shelf.Strconv.ParseUint10At
import Derived.Shelf.Strconv.ParseInt10At64
import Derived.Shelf.Strconv.ParseInt10At32
import Derived.Shelf.Strconv.ParseInt10At16
import Derived.Shelf.Strconv.ParseInt10At8
import Derived.Shelf.Strconv.ParseInt10All
import Derived.Shelf.Strconv.ParseIntPublic10
import Derived.Shelf.Strconv.ErrVarParseInt
import Derived.Shelf.Strings.Search1
import Derived.Shelf.Strings.Search2
import Derived.Shelf.Strings.Search3
import Derived.Shelf.Strings.Count
import Derived.Shelf.Strings.Shaped
import Derived.Shelf.Strings.Prefix
import Derived.Shelf.Strings.Split
import Derived.Shelf.Strings.Replace
import Derived.Shelf.Strings.SplitShaped
import Derived.Shelf.Unicode.Latin
import Derived.Shelf.Unicode.Decode
import Derived.Shelf.Strings.RuneCount
import Derived.Shelf.Bits.Mul64
import Derived.Shelf.Unicode.DecodeSlow
import Derived.Shelf.Unicode.DecodeAny
import Derived.Shelf.Unicode.CaseLookup
import Derived.Shelf.Unicode.CaseConvert
import Derived.Shelf.Unicode.CaseTo
import Derived.Shelf.Unicode.CaseLaid
import Derived.Shelf.Strings.BuilderCap
import Derived.Ground.Names2Prog
import Derived.Shelf.Slices.SearchI
import Derived.Test.YtnmlmicmhpkbeaaGreatDoorProg
set_option linter.unusedVariables false
set_option linter.unusedSimpArgs false
namespace Go.Proofs.YtnmlmicmhpkbeaaGreatDoor
open Go Go.Sv Go.Note
set_option linter.unusedVariables false
attribute [local irreducible] Sif
theorem sl3 (l:Bs):(ByteArray.mk l.toArray).data.toList=l:=by simp
theorem sz3 (l:Bs):(ByteArray.mk l.toArray).size=l.length:=size_of (sl3 l)
theorem ext_take (l:Bs) (n:Nat):(ByteArray.mk l.toArray).extract 0 n=⟨(l.take n).toArray⟩:=data_ext (by rw [extract_data]; simp)
theorem ext_drop (l:Bs) (n:Nat):(ByteArray.mk l.toArray).extract n (ByteArray.mk l.toArray).size=⟨(l.drop n).toArray⟩:=data_ext (by rw [extract_data,sz3]; simp only []; rw [List.take_of_length_le (by rw [List.length_drop]; simp)])
theorem seq3 (l m:Bs):((ByteArray.mk l.toArray).toList == (ByteArray.mk m.toArray).toList)=decide (l=m):=bs_eq l m
theorem dec_wide {l:Bs} (hl:l.length≤2^48):∃ r n,Lib.decodeGo (ByteArray.mk l.toArray)=(r,n)∧n=(if l=[] then 0 else wide l)∧(l≠[]→(chr l=0∧r=65533∧n=1)∨(Says l r n∧n≠0)):=by
 by_cases h0:l=[]
 ·subst h0; exact ⟨_,_,rfl,rfl,fun h=>absurd rfl h⟩
 ·have hne:(ByteArray.mk l.toArray).size≠0:=by rw [sz3]; exact fun h=>h0 (List.eq_nil_of_length_eq_zero h)
  unfold Lib.decodeGo
  rw [if_neg (by omega),if_neg h0]
  rcases decode_says (s:=ByteArray.mk l.toArray) (i:=0) (by omega) with ⟨h1,h2⟩ | ⟨r,n,h1,h2,h3⟩
  ·rw [List.drop_zero,sl3] at h1
   exact ⟨_,_,h2,by unfold wide; rw [h1]; rfl,fun _=>.inl ⟨h1,rfl,rfl⟩⟩
  ·rw [List.drop_zero,sl3] at h2
   exact ⟨_,_,h1,by unfold wide; have:=h2.1; omega,fun _=>.inr ⟨h2,h3⟩⟩
theorem cut_ok {l:Bs} (hl:l.length≤2^48) {w:World} (hL:LW w) {K:Value→World→Prop} (hk:∀ w',Ch (fun _=>False) w w'→K (.tuple #[.string ⟨(l.take (wide l)).toArray⟩,.string ⟨(l.drop (wide l)).toArray⟩]) w') :
 callP Tryz.prog 103 [.string ⟨l.toArray⟩] w K:=by
 apply ok_sieve_cut
 refine (Tryz.utf8_DecodeRuneInString _ w hL.ut).mono ?_
 rintro e w1 ⟨rfl,hbel⟩
 have c1:=ch_of_below hbel
 obtain ⟨r,n,hd,hn,_⟩:=dec_wide hl
 rw [hd]
 have hle:n≤l.length:=by
  rw [hn]; split
  ·omega
  ·rename_i h; exact (wide_le l h).1
 refine ⟨_,rfl,_,_,rfl,?_⟩
 rw [sz3]
 refine ⟨by omega,by omega,by omega,by omega,?_⟩
 have hk:=hk _ (c1.trans' (Ch.drew _))
 rw [← sz3 l,Int.toNat_natCast,ext_take,ext_drop]
 have e:l.take n=l.take (wide l)∧l.drop n=l.drop (wide l):=by
  rw [hn]; split
  ·rename_i h; subst h; exact ⟨by simp,by simp⟩
  ·exact ⟨rfl,rfl⟩
 rw [e.1,e.2]
 exact hk
def headB (p e:Bs):Bs × Bs × Bool :=
 let x:=p.take (wide p)
 let r:=p.drop (wide p)
 if e≠[]∧x=e then (if r≠[] then (r.take (wide r),r.drop (wide r),true) else (x,r,true)) else (x,r,decide (x≠[37]) && decide (x≠[95]))
theorem head_ok {p e:Bs} (hp:p.length≤2^48) {w:World} (hL:LW w) {K:Value→World→Prop} (hk:∀ w',Ch (fun _=>False) w w'→K (.tuple #[.string ⟨(headB p e).1.toArray⟩,.string ⟨(headB p e).2.1.toArray⟩,.bool (headB p e).2.2]) w') :
 callP Tryz.prog 102 [.string ⟨p.toArray⟩,.string ⟨e.toArray⟩] w K:=by
 apply ok_sieve_head
 refine cut_ok hp hL fun w1 c1=>⟨_,_,rfl,?_⟩
 have e0:(ByteArray.mk (Array.mk []))=ByteArray.mk ([]:Bs).toArray:=rfl
 have e37:(ByteArray.mk (Array.mk [37]))=ByteArray.mk ([37]:Bs).toArray:=rfl
 have e95:(ByteArray.mk (Array.mk [95]))=ByteArray.mk ([95]:Bs).toArray:=rfl
 rw [e0,e37,e95]
 refine ⟨fun x x1 w2=>x=⟨(p.take (wide p)).toArray⟩∧x1=⟨(p.drop (wide p)).toArray⟩∧w2=w1∧¬ (e≠[]∧p.take (wide p)=e),?_,?_⟩
 ·rintro x x1 w2 ⟨rfl,rfl,rfl,hne⟩
  have hk:=hk w2 c1
  unfold headB at hk
  simp only at hk
  rw [if_neg hne] at hk
  simp only [seq3]
  refine Sif_cases (fun h=>?_) (fun h=>?_)
  ·have h1:p.take (wide p)≠[37]:=by simpa using h
   simp only [decide_not,h1,not_false_eq_true,decide_true,Bool.true_and,ne_eq] at hk
   exact hk
  ·have h1:p.take (wide p)=[37]:=by simpa using h
   simp only [h1,ne_eq,not_true_eq_false,decide_false,Bool.false_and] at hk
   rw [h1]
   exact hk
 ·simp only [seq3]
  refine Sif_cases (fun h=>?_) (fun h=>?_)
  ·have h1:e≠[]:=by simpa using h
   refine Sif_cases (fun h2=>?_) (fun h2=>?_)
   ·have h2:=of_decide_eq_true h2
    refine ⟨fun x x1 w2=>∀ w',w'=w2→K (.tuple #[.string x,.string x1,.bool true]) w',fun x x1 w2 h=>h _ rfl,?_⟩
    unfold headB at hk
    simp only at hk
    rw [if_pos ⟨h1,h2⟩] at hk
    refine Sif_cases (fun h3=>?_) (fun h3=>?_)
    ·have h3:p.drop (wide p)≠[]:=by simpa using h3
     rw [if_pos h3] at hk
     refine cut_ok (by rw [List.length_drop]; omega) (hL.ch c1 fun _ _ h=>h) fun w2 c2=>⟨_,_,rfl,?_⟩
     rintro _ rfl
     exact hk _ (c1.trans' c2)
    ·have h3:p.drop (wide p)=[]:=by simpa using h3
     rw [if_neg (by simp [h3])] at hk
     rintro _ rfl
     exact hk _ c1
   ·exact ⟨by trivial,by trivial,by trivial,fun q=>(of_decide_eq_false h2) q.2⟩
  ·exact ⟨by trivial,by trivial,by trivial,fun q=>by simp [q.1] at h⟩
theorem els_ne' {e x:Bs} {l:List Bs} (h:¬ (e≠[]∧x=e)):els e (x::l)=elOf x::els e l:=by
 cases l with
 | nil=>simp only [els,if_neg h]
 | cons y l=>rw [els,if_neg h]
theorem head_els {p e:Bs} (hp:p≠[]):els e (sg p)=(if (headB p e).2.2 then El.sgn (headB p e).1 else elOf (headB p e).1)::els e (sg (headB p e).2.1)∧(headB p e).2.1.length<p.length∧((headB p e).2.2=false→elOf (headB p e).1≠.sgn (headB p e).1):=by
 have hw:=wide_pos p
 have hl:0<p.length:=List.length_pos_iff.2 hp
 have hlt:(p.drop (wide p)).length<p.length:=by rw [List.length_drop]; omega
 rw [sg_cons p hp]
 have hb:headB p e=if e≠[]∧p.take (wide p)=e then (if p.drop (wide p)≠[] then ((p.drop (wide p)).take (wide (p.drop (wide p))),(p.drop (wide p)).drop (wide (p.drop (wide p))),true) else (p.take (wide p),p.drop (wide p),true)) else (p.take (wide p),p.drop (wide p),decide (p.take (wide p)≠[37]) && decide (p.take (wide p)≠[95])):=rfl
 rw [hb]
 generalize p.take (wide p)=x
 generalize p.drop (wide p)=r at hlt ⊢
 by_cases he:e≠[]∧x=e
 ·rw [if_pos he]
  by_cases hr:r=[]
  ·subst hr
   simp only [ne_eq,not_true_eq_false,if_false]
   refine ⟨?_,hlt,fun h=>by cases h⟩
   simp only [sg_nil,els,if_pos he,if_true]
  ·simp only [ne_eq,hr,not_false_eq_true,if_true]
   refine ⟨?_,?_,fun h=>by cases h⟩
   ·rw [sg_cons _ hr,els,if_pos he]
   ·have:=wide_pos r
    simp only [List.length_drop]
    omega
 ·rw [if_neg he]
  refine ⟨?_,hlt,fun h=>?_⟩
  ·rw [els_ne' he]
   congr 1
   by_cases h1:x=[37]
   ·simp [h1]
   ·by_cases h2:x=[95]
    ·simp [h2]
    ·simp [h1,h2,elOf]
  ·unfold elOf
   by_cases h1:x=[37]
   ·simp [h1]
   ·by_cases h2:x=[95]
    ·simp [h2]
    ·simp [h1,h2] at h
theorem elOf_row (x:Bs):elOf x=.row↔x=[37]:=by
 unfold elOf
 split
 ·simp [*]
 ·split<;>simp [*]
def optS (b:Bool) (back from_:Bs) (e:Bs):Option (List El × List Bs):=if b then some (els e (sg back),sg from_) else none
theorem like_ok {s p e:Bs} (hs:s.length≤2^40) (hp:p.length≤2^40) {w:World} (hL:LW w) {K:Value→World→Prop} (hk:∀ w',Ch (fun _=>False) w w'→K (.bool (mt (els e (sg p)) (sg s))) w') :
 callP Tryz.prog 53 [.string ⟨s.toArray⟩,.string ⟨p.toArray⟩,.string ⟨e.toArray⟩] w K:=by
 apply ok_sieve_like
 have e0:(ByteArray.mk (Array.mk []))=ByteArray.mk ([]:Bs).toArray:=rfl
 have e37:(ByteArray.mk (Array.mk [37]))=ByteArray.mk ([37]:Bs).toArray:=rfl
 rw [e0,e37]
 obtain ⟨r,hr⟩:∃ r,r=mt (els e (sg p)) (sg s):=⟨_,rfl⟩
 rw [← hr] at hk
 refine ⟨fun m x x1 x2 x3 b w1=>∃ (s' p' bk fr:Bs),x=⟨s'.toArray⟩∧x1=⟨p'.toArray⟩∧x2=⟨bk.toArray⟩∧x3=⟨fr.toArray⟩∧Ch (fun _=>False) w w1∧s'.length≤2^40∧p'.length≤p.length∧bk.length≤p.length∧fr.length≤2^40∧(b=true→s'.length≤fr.length)∧(b=false→s'.length≤s.length) ∧
  Seek (els e (sg p')) (sg s') (optS b bk fr e) r∧m=(if b then fr.length else s.length+1)*(p.length+1)+p'.length,⟨_,s,p,[],[],rfl,rfl,rfl,rfl,Ch.refl _ _,hs,Nat.le_refl _,Nat.zero_le _,Nat.zero_le _,fun h=>(by cases h),fun _=>Nat.le_refl _,hr▸Seek.start _ _,rfl⟩,?_⟩
 rintro m x x1 x2 x3 b w1 ⟨s',p',bk,fr,rfl,rfl,rfl,rfl,c1,hs',hp',hbk,hfr,hsf,hsn,hS,rfl⟩
 simp only [seq3]
 have hf0:∀ {x y:Nat},x≤y→x*(p.length+1)≤y*(p.length+1):=fun h=>Nat.mul_le_mul_right _ h
 -- what has been begun goes on
 have hms:s'.length≤(if b then fr.length else s.length+1):=by
  cases b
  ·have:=hsn rfl; simp; omega
  ·exact hsf rfl
 refine ⟨fun w2=>Ch (fun _=>False) w w2∧¬ (s'=[]∧p'=[]),?_,?_⟩
 ·rintro w2 ⟨c2,hne⟩
  have hL2:=hL.ch c2 fun _ _ h=>h
  refine ⟨fun x4 x5 b1 w3=>x4=⟨bk.toArray⟩∧x5=⟨fr.toArray⟩∧b1=b∧Ch (fun _=>False) w w3∧mt (els e (sg p')) (sg s')=false,?_,?_⟩
  ·-- it does not fit
   rintro x4 x5 b1 w3 ⟨rfl,rfl,rfl,c3,h0⟩
   simp only [seq3]
   have fail:b1=false∨fr=[]→K (.bool false) w3:=fun h=>by
    have:r=false:=Seek.fail hS h0 fun b' f' hb'=>by
     unfold optS at hb'
     rcases h with h | h
     ·rw [h] at hb'; cases hb'
     ·subst h
      split at hb'
      ·cases hb'; exact sg_nil
      ·cases hb'
    rw [this] at hk
    exact hk w3 c3
   refine ⟨fun w4=>w4=w3∧b1=true∧fr≠[],?_,?_⟩
   ·rintro w4 ⟨rfl,rfl,hfn⟩
    refine cut_ok (by omega) (hL.ch c3 fun _ _ h=>h) fun w5 c5=>⟨_,_,rfl,?_⟩
    have hw:=wide_pos fr
    have hl:0<fr.length:=List.length_pos_iff.2 hfn
    have hdl:(fr.drop (wide fr)).length=fr.length-wide fr:=List.length_drop ..
    have hS2:Seek (els e (sg bk)) (sg (fr.drop (wide fr))) (optS true bk (fr.drop (wide fr)) e) r:=by
     have:=Seek.back (b:=els e (sg bk)) (f:=sg fr) hS h0 (fun h=>hfn ((sg_eq_nil fr).1 h))
     rw [sg_cons fr hfn] at this
     exact this
    refine ⟨(fr.drop (wide fr)).length*(p.length+1)+bk.length,?_,fr.drop (wide fr),bk,bk,fr.drop (wide fr),rfl,rfl,rfl,rfl,c3.trans' c5,by omega,hbk,hbk,by omega,fun _=>Nat.le_refl _,fun h=>(by cases h),hS2,rfl⟩
    simp only [if_true]
    have h1:(fr.drop (wide fr)).length+1≤fr.length:=by omega
    have:=hf0 h1
    rw [Nat.add_mul,Nat.one_mul] at this
    omega
   ·refine Sif_cases (fun h=>?_) (fun h=>?_)
    ·have hb:b1=true:=by simpa using h
     refine Sif_cases (fun h=>?_) (fun h=>?_)
     ·exact fail (.inr (of_decide_eq_true h))
     ·exact ⟨rfl,hb,of_decide_eq_false h⟩
    ·exact fail (.inl (by simpa using h))
  ·refine Sif_cases (fun h=>?_) (fun h=>?_)
   ·have hpn:p'≠[]:=by simpa using h
    refine head_ok (by omega) hL2 fun w3 c3=>⟨_,_,_,rfl,?_⟩
    have c03:=c2.trans' c3
    obtain ⟨he,hlt,hel⟩:=head_els (e:=e) hpn
    generalize headB p' e=z at he hlt hel ⊢
    obtain ⟨s1,s2,b1⟩:=z
    simp only at he hlt hel ⊢
    rw [he] at hS ⊢
    simp only [seq3]
    have hrow:∀ {x:El},x=(if b1 then El.sgn s1 else elOf s1)→(b1=false→s1≠[37])→x≠.row:=fun hx h1 h2=>by
     rw [hx] at h2
     split at h2
     ·cases h2
     ·rename_i hb
      exact h1 (by simpa using hb) ((elOf_row s1).1 h2)
    refine ⟨fun x4 x5 b2 w4=>x4=⟨bk.toArray⟩∧x5=⟨fr.toArray⟩∧b2=b∧w4=w3∧(b1=false→s1≠[37]),?_,?_⟩
    ·rintro x4 x5 b2 w4 ⟨rfl,rfl,rfl,rfl,h37⟩
     have hnr:=hrow rfl h37
     refine Sif_cases (fun h=>?_) (fun h=>?_)
     ·have hsn':s'≠[]:=by simpa using h
      refine cut_ok (by omega) (hL.ch c03 fun _ _ h=>h) fun w5 c5=>⟨_,_,rfl,?_⟩
      have hdl:(s'.drop (wide s')).length=s'.length-wide s':=List.length_drop ..
      simp only [seq3]
      rw [sg_cons s' hsn'] at hS ⊢
      have next:Note.one (if b1 then El.sgn s1 else elOf s1) (s'.take (wide s'))=true→∃ m':Nat,m'<(if b2=true then fr.length else s.length+1)*(p.length+1)+p'.length∧∃ (s'_1 p'_1 bk_1 fr_1:Bs),(⟨(s'.drop (wide s')).toArray⟩:ByteArray)=⟨s'_1.toArray⟩∧(⟨s2.toArray⟩:ByteArray)=⟨p'_1.toArray⟩∧(⟨bk.toArray⟩:ByteArray)=⟨bk_1.toArray⟩∧(⟨fr.toArray⟩:ByteArray)=⟨fr_1.toArray⟩∧Ch (fun _=>False) w w5∧s'_1.length≤2^40∧p'_1.length≤p.length∧bk_1.length≤p.length∧fr_1.length≤2^40∧(b2=true→s'_1.length≤fr_1.length)∧(b2=false→s'_1.length≤s.length) ∧
       Seek (els e (sg p'_1)) (sg s'_1) (optS b2 bk_1 fr_1 e) r∧m'=(if b2=true then fr_1.length else s.length+1)*(p.length+1)+p'_1.length:=fun h1 =>
       ⟨_,by omega,s'.drop (wide s'),s2,bk,fr,rfl,rfl,rfl,rfl,c03.trans' c5,by omega,by omega,hbk,hfr,fun h=>by have:=hsf h; omega,fun h=>by have:=hsn h; omega,hS.step hnr h1,rfl⟩
      refine Sif_cases (fun h=>?_) (fun h=>?_)
      ·have hb1:b1=true:=by simpa using h
       refine Sif_cases (fun h=>?_) (fun h=>?_)
       ·exact next (by rw [hb1,if_pos rfl]; unfold Note.one; exact h)
       ·refine ⟨by trivial,by trivial,by trivial,c03.trans' c5,mt_no hnr fun y t hy=>?_⟩
        cases hy
        rw [hb1,if_pos rfl]; unfold Note.one; exact h
      ·have hb1:b1=false:=by simpa using h
       have hany:elOf s1=.any:=by
        have h1:=hel hb1
        have h2:=h37 hb1
        unfold elOf at h1 ⊢
        rw [if_neg h2] at h1 ⊢
        split
        ·rfl
        ·rename_i h3; rw [if_neg h3] at h1; exact absurd rfl h1
       exact next (by rw [hb1,if_neg (by simp),hany]; rfl)
     ·have hs0:s'=[]:=by simpa using h
      exact ⟨by trivial,by trivial,by trivial,c03,mt_no hnr fun y t hy=>by rw [hs0,sg_nil] at hy; cases hy⟩
    ·refine Sif_cases (fun h=>?_) (fun h=>?_)
     ·have hb1:b1=false:=by simpa using h
      refine Sif_cases (fun h=>?_) (fun h=>?_)
      ·have h37:s1=[37]:=of_decide_eq_true h
       rw [hb1,if_neg (by simp),(elOf_row s1).2 h37] at hS
       refine ⟨s'.length*(p.length+1)+s2.length,?_,s',s2,s2,s',rfl,rfl,rfl,rfl,c03,hs',by omega,by omega,hs',fun _=>Nat.le_refl _,fun h=>(by cases h),hS.row,rfl⟩
       have:=hf0 hms
       omega
      ·exact ⟨by trivial,by trivial,by trivial,by trivial,fun _=>of_decide_eq_false h⟩
     ·have hb1:b1=true:=by simpa using h
      exact ⟨by trivial,by trivial,by trivial,by trivial,fun h=>by rw [hb1] at h; cases h⟩
   ·have hp0:p'=[]:=by simpa using h
    have hsn':s'≠[]:=fun h=>hne ⟨h,hp0⟩
    refine ⟨by trivial,by trivial,by trivial,c2,?_⟩
    rw [hp0,sg_nil,sg_cons s' hsn']
    exact mt_none
 ·refine Sif_cases (fun h=>?_) (fun h=>?_)
  ·have hs0:s'=[]:=by simpa using h
   refine Sif_cases (fun h=>?_) (fun h=>?_)
   ·exact ⟨c1,fun q=>by simp [q.2] at h⟩
   ·have hp0:p'=[]:=by simpa using h
    rw [hs0,hp0] at hS
    have:r=true:=Seek.done hS
    rw [this] at hk
    exact hk w1 c1
  ·exact ⟨c1,fun q=>by simp [q.1] at h⟩
def escOf (n:Int):Bs:=if 0≤n∧n≤1114111∧Lib.validRune n=true then runB n else []
theorem runB_str (n:Int):(⟨(runB n).toArray⟩:ByteArray)=Utf8.encode n:=by
 apply data_ext; simp [runB]
theorem Like_ok {s p:Bs} {n:Int} (hs:s.length≤2^40) (hp:p.length≤2^40) {w:World} (hL:LW w) {K:Value→World→Prop} (hk:∀ w',Ch (fun _=>False) w w'→K (.bool (mt (els (escOf n) (sg p)) (sg s))) w') :
 callP Tryz.prog 23 [.string ⟨s.toArray⟩,.string ⟨p.toArray⟩,.int .i64 n] w K:=by
 apply ok_sieve_Like
 have e0:(ByteArray.mk (Array.mk []))=ByteArray.mk ([]:Bs).toArray:=rfl
 refine ⟨fun x w1=>x=⟨(escOf n).toArray⟩∧w1=w,?_,?_⟩
 ·rintro x w1 ⟨rfl,rfl⟩
  exact like_ok hs hp hL fun w2 c2=>⟨_,rfl,hk w2 c2⟩
 ·have no:¬ (0≤n∧n≤1114111∧Lib.validRune n=true)→((ByteArray.mk (Array.mk []))=(⟨(escOf n).toArray⟩:ByteArray)∧w=w):=fun h=>by
   unfold escOf; rw [if_neg h]; exact ⟨rfl,rfl⟩
  refine Sif_cases (fun h1=>?_) (fun h1=>no fun q=>by have:=of_decide_eq_false h1; omega)
  have h1:=of_decide_eq_true h1
  refine Sif_cases (fun h2=>?_) (fun h2=>no fun q=>by have:=of_decide_eq_false h2; omega)
  have h2:=of_decide_eq_true h2
  have hw:IntKind.wrap .i32 n=n:=by
   unfold IntKind.wrap
   simp [IntKind.bits,IntKind.signed]; omega
  rw [hw]
  refine (Tryz.utf8_ValidRune n w).mono ?_
  rintro e w1 ⟨rfl,rfl⟩
  refine ⟨_,rfl,_,rfl,?_⟩
  refine Sif_cases (fun h3=>?_) (fun h3=>no fun q=>by rw [q.2.2] at h3; cases h3)
  refine ⟨?_,by trivial⟩
  unfold escOf
  rw [if_pos ⟨h1,h2,h3⟩,runB_str]
end Go.Proofs.YtnmlmicmhpkbeaaGreatDoor
namespace Go.Note
open Go
set_option linter.unusedVariables false
structure Tk where
 k:Nat
 a:Nat
 b:Nat
 t:Bs
 f:Bool
 deriving DecidableEq
structure Ps where
 t:Tk
 fa:Nat
 fe:Nat
 deriving DecidableEq
def Ps.fail (p:Ps) (a e:Nat):Ps:=if p.fe=0 then ⟨⟨0,a,a,[],false⟩,a,e⟩ else p
abbrev dg:=digitC
def lt (c:UInt8):Bool:=(decide (97≤c.toNat) && decide (c.toNat≤122)) || (decide (65≤c.toNat) && decide (c.toNat≤90)) || decide (c=95)
def dgN:Bs→Nat
 | []=>0
 | c::l=>if dg c then 1+dgN l else 0
def skipP (s:Bs) (a:Nat):Nat:=a+dgN (s.drop a)
def numP (s:Bs) (a:Nat):Option Tk :=
 let b:=skipP s a
 if s[b]?=some 46∨s[b]?=some 101∨s[b]?=some 69 then none else some ⟨1,a,b,(s.drop a).take (b-a),false⟩
def wdN:Bs→Nat
 | []=>0
 | c::l=>if c=45 then (match l with
  | []=>0
  | d::_=>if lt d || dg d then 1+wdN l else 0)
  else if lt c || dg c || decide (c=46) then 1+wdN l else 0
def wordP (s:Bs) (a:Nat):Nat:=a+1+wdN (s.drop (a+1))
def keys:List Bs:=[[97,110,100],[111,114],[110,111,116],[98,101,116,119,101,101,110],[105,110],[108,105,107,101],[101,115,99,97,112,101],[105,115],[110,117,108,108],[116,114,117,101],[102,97,108,115,101]]
def cap (c:UInt8):Bool:=decide (65≤c.toNat) && decide (c.toNat≤90)
def keyP (s:Bs):Bs:=if s∈keys then s else []
def quoP (q:UInt8):Bs→Option (Bs × Nat)
 | []=>none
 | c::l=>if c≠q then (quoP q l).map fun p=>(c::p.1,p.2+1)
  else match l with
   | []=>some ([],1)
   | d::l'=>if d=q then (quoP q l').map fun p=>(c::p.1,p.2+2) else some ([],1)
def signsP:List Bs:=[[60,62],[60,61],[62,61],[61],[60],[62],[43],[45],[42],[47],[40],[41],[44]]
abbrev blkC:=blankC
def blkN:Bs→Nat
 | []=>0
 | c::l=>if blkC c then 1+blkN l else 0
def signP (s:Bs) (p:Ps) (a:Nat):Ps :=
 match signsP.find? fun x=>x.isPrefixOf (s.drop a) with
 | some x=>{ p with t:=⟨4,a,a+x.length,x,false⟩ }
 | none=>p.fail a 160
def nextP (s:Bs) (p:Ps):Option Ps :=
 if p.fe≠0 then some p else
 let a:=p.t.b+blkN (s.drop p.t.b)
 match s.drop a with
 | []=>some { p with t:=⟨0,a,a,[],false⟩ }
 | c::l =>
  if dg c then (numP s a).map fun t=>{ p with t:=t }
  else if c=39∨c=34 then (match quoP c l with
   | some x=>some { p with t:=⟨if c=34 then 3 else 2,a,a+1+x.2,x.1,false⟩ }
   | none=>some (p.fail a 160))
  else if lt c then
   let b:=wordP s a
   let x:=(s.drop a).take (b-a)
   if x.any cap then none else if keyP x≠[] then some { p with t:=⟨4,a,b,keyP x,false⟩ } else some { p with t:=⟨3,a,b,x,false⟩ }
  else some (signP s p a)
def Ps.sees (p:Ps) (m:Bs):Bool:=decide (p.fe=0) && decide (p.t.k=4) && decide (p.t.t=m)
def takesP (s:Bs) (p:Ps) (m:Bs):Option (Bool × Ps):=if p.sees m then (nextP s p).map fun q=>(true,q) else some (false,p)
def mustP (s:Bs) (p:Ps) (m:Bs):Option Ps:=(takesP s p m).map fun r=>if r.1 then r.2 else r.2.fail r.2.t.a 160
def binP (s:Bs):Nat × Nat :=
 if s=[61] then (6,1) else if s=[60,62] then (7,1) else if s=[60] then (8,1) else if s=[60,61] then (9,1) else if s=[62] then (10,1) else if s=[62,61] then (11,1)
 else if s=[43] then (16,2) else if s=[45] then (17,2) else if s=[42] then (18,3) else if s=[47] then (19,3) else (0,0)
def rowP (s:Bs) (m:Bs) (part:Ps→Option (T × Ps)):Nat→List T→Ps→Option (List T × Ps)
 | 0,_,_=>none
 | n+1,l,p=>match takesP s p m with
  | none=>none
  | some (false,q)=>some (l,q)
  | some (true,q)=>match part q with
   | none=>none
   | some (x,r)=>rowP s m part n (l++[x]) r
def rowT (k:Int):List T→T
 | [x]=>x
 | l=>.mk k [] zeroM l
def litP (s:Bs) (p:Ps):Option (T × Ps) :=
 let out (v:M) (ok:Bool) (q:Ps):Option (T × Ps):=(nextP s (if ok then q else q.fail p.t.a 161)).map fun r=>(.mk 1 [] v [],r)
 if p.t.k=1 then (match Lib.parseIntB 64 p.t.t with
  | .ok v=>if 0≤v∧v<9223372036854775808 then out (.mk 9 v.toNat [] 0 []) true p else none
  | _=>none)
 else if p.t.k=2 then out (.mk 19 0 p.t.t 0 []) (textB p.t.t) p
 else if p.sees [116,114,117,101] then out (.mk 1 1 [] 0 []) true p
 else if p.sees [102,97,108,115,101] then out (.mk 1 0 [] 0 []) true p
 else out zeroM true (p.fail p.t.a 160)
mutual
def orP (s:Bs):Nat→Ps→Option (T × Ps)
 | 0,_=>none
 | n+1,p=>match andP s n p with
  | none=>none
  | some (x,q)=>(rowP s [111,114] (fun p=>andP s n p) n [x] q).map fun r=>(rowT 5 r.1,r.2)
def andP (s:Bs):Nat→Ps→Option (T × Ps)
 | 0,_=>none
 | n+1,p=>match notP s n p with
  | none=>none
  | some (x,q)=>(rowP s [97,110,100] (fun p=>notP s n p) n [x] q).map fun r=>(rowT 4 r.1,r.2)
def notP (s:Bs):Nat→Ps→Option (T × Ps)
 | 0,_=>none
 | n+1,p=>match takesP s p [110,111,116] with
  | none=>none
  | some (true,q)=>(notP s n q).map fun r=>(.mk 3 [] zeroM [r.1],r.2)
  | some (false,q)=>compP s n q
def compP (s:Bs):Nat→Ps→Option (T × Ps)
 | 0,_=>none
 | n+1,p=>match chainP s n 2 p with
  | none=>none
  | some (t,q) =>
   if q.fe≠0∨q.t.k≠4 then some (t,q)
   else if (binP q.t.t).2=1 then (match nextP s q with
    | none=>none
    | some r=>(chainP s n 2 r).map fun z=>(.mk (binP q.t.t).1 [] zeroM [t,z.1],z.2))
   else if q.t.t=[105,115]∨q.t.t=[110,111,116]∨q.t.t=[98,101,116,119,101,101,110]∨q.t.t=[105,110]∨q.t.t=[108,105,107,101] then none
   else some (t,q)
def chainP (s:Bs):Nat→Nat→Ps→Option (T × Ps)
 | 0,_,_=>none
 | n+1,near,p=>match unP s n p with
  | none=>none
  | some (t,q)=>chainL s n near t q
def chainL (s:Bs):Nat→Nat→T→Ps→Option (T × Ps)
 | 0,_,_,_=>none
 | n+1,near,t,p =>
  if p.fe=0∧p.t.k=4∧near≤(binP p.t.t).2 then (match nextP s p with
   | none=>none
   | some q=>match chainP s n ((binP p.t.t).2+1) q with
    | none=>none
    | some (x,r)=>chainL s n near (.mk (binP p.t.t).1 [] zeroM [t,x]) r)
  else some (t,p)
def unP (s:Bs):Nat→Ps→Option (T × Ps)
 | 0,_=>none
 | n+1,p=>match takesP s p [45] with
  | none=>none
  | some (true,q)=>(unP s n q).map fun r=>(.mk 20 [] zeroM [r.1],r.2)
  | some (false,q)=>match takesP s q [40] with
   | none=>none
   | some (true,r)=>(match orP s n r with
    | none=>none
    | some (t,u)=>(mustP s u [41]).map fun z=>(t,z))
   | some (false,r)=>if r.t.k=3 then (nextP s (if nameB r.t.t then r else r.fail r.t.a 161)).map fun u=>(.mk 2 r.t.t zeroM [],u) else litP s r
end
def parseP (s:Bs):Option (T × Nat × Nat) :=
 match nextP s ⟨⟨0,0,0,[],false⟩,0,0⟩ with
 | none=>none
 | some p=>match orP s 200 p with
  | none=>none
  | some (t,q) =>
   let q:=if q.t.k≠0 then q.fail q.t.a 160 else q
   if q.fe≠0 then some (zeroT,q.fa,q.fe) else if 256<t.cnt 0 then some (zeroT,0,162) else some (t,0,0)
set_option maxRecDepth 100000
def aw1s:Bs:=[112,114,105,111,114,105,116,121,32,62,32,52,32,97,110,100,32,99,111,108,111,117,114,32,61,32,39,114,101,100,39]
def aw1t:T:=.mk 4 [] zeroM [.mk 10 [] zeroM [.mk 2 [112,114,105,111,114,105,116,121] zeroM [],.mk 1 [] (.mk 9 4 [] 0 []) []],.mk 6 [] zeroM [.mk 2 [99,111,108,111,117,114] zeroM [],.mk 1 [] (.mk 19 0 [114,101,100] 0 []) []]]
theorem aw1_parse:parseP aw1s=some (aw1t,0,0):=by kernel_rfl
theorem aw2_parse:parseP [97,32,63,32,98]=some (zeroT,2,160):=by kernel_rfl
end Go.Note
namespace Go.Proofs.YtnmlmicmhpkbeaaGreatDoor
open Go Go.Sv Go.Note
set_option linter.unusedVariables false
attribute [local irreducible] Sif
def pcl (s:Bs) (p:Ps):List Value:=[.string ⟨s.toArray⟩,.int .i64 (p.t.k:Int),.int .i64 (p.t.a:Int),.int .i64 (p.t.b:Int),.string ⟨p.t.t.toArray⟩,.bool p.t.f,.int .i64 (p.fa:Int),.int .i64 (p.fe:Int)]
def PS (s:Bs) (pb:Nat) (p:Ps) (w:World):Prop:=blk w pb=some (pcl s p)∧p.t.a≤s.length∧p.t.b≤s.length∧p.fe<1000
theorem PS.ch {s:Bs} {pb:Nat} {p:Ps} {w w':World} (h:PS s pb p w) {Q:Nat→Prop} (c:Ch Q w w') (hn:¬ Q pb):PS s pb p w':=⟨by rw [c.blk (blk_lt h.1) hn]; exact h.1,h.2⟩
theorem PS.lt {s:Bs} {pb:Nat} {p:Ps} {w:World} (h:PS s pb p w):pb<w.heap.size:=blk_lt h.1
theorem cellP {w:World} {k:Nat} {cs:List Value} (h:blk w k=some cs) (i:Nat) {v:Value} (hv:cs[i]?=some v):w.cell? ⟨k,i,none⟩=some v:=by rw [cell_blk h,hv]
theorem stT {w:World} {k:Nat} {x0 x1 x2 x3 x4 x5 x6 x7 v1 v2 v3 v4 v5:Value} {K:World→Prop} (h:blk w k=some [x0,x1,x2,x3,x4,x5,x6,x7]) (hk:∀ w',blk w' k=some [x0,v1,v2,v3,v4,v5,x6,x7]→Ch (·=k) w w'→K w') :
 Sv.st w ⟨k,1,none⟩ v1 fun w1=>Sv.st w1 ⟨k,2,none⟩ v2 fun w2=>Sv.st w2 ⟨k,3,none⟩ v3 fun w3=>Sv.st w3 ⟨k,4,none⟩ v4 fun w4=>Sv.st w4 ⟨k,5,none⟩ v5 fun w5=>K w5 :=
 st_all [v1,v2,v3,v4,v5] 1 (K:=K) h (by simp) fun w' b c _=>hk w' b c
theorem stF {w:World} {k:Nat} {x0 x1 x2 x3 x4 x5 x6 x7 v1 v2:Value} {K:World→Prop} (h:blk w k=some [x0,x1,x2,x3,x4,x5,x6,x7]) (hk:∀ w',blk w' k=some [x0,x1,x2,x3,x4,x5,v1,v2]→Ch (·=k) w w'→K w') :
 Sv.st w ⟨k,6,none⟩ v1 fun w1=>Sv.st w1 ⟨k,7,none⟩ v2 fun w2=>K w2 :=
 st_all [v1,v2] 6 (K:=K) h (by simp) fun w' b c _=>hk w' b c
theorem natBeq (a b:Nat):((a:Int) == (b:Int))=decide (a=b):=by
 by_cases h:a=b
 ·subst h; simp
 ·have:¬ ((a:Int)=(b:Int)):=by omega
  simp [h,this]
theorem pfail_ok {s:Bs} {pb:Nat} {p:Ps} {a e:Nat} (ha:a≤s.length) (he:e<1000) {w:World} (hp:PS s pb p w) {K:Value→World→Prop} (hk:∀ w',PS s pb (p.fail a e) w'→Ch (·=pb) w w'→K (.tuple #[]) w') :
 callP Tryz.prog 60 [.pointer (some ⟨pb,0,none⟩),.int .i64 (a:Int),.int .i64 (e:Int)] w K:=by
 apply ok_sieve_parser_fail
 have hb:=hp.1
 unfold pcl at hb
 simp only [nn,add_at,Nat.zero_add,Nat.reduceAdd]
 refine ⟨_,cellP hb 7 rfl,?_⟩
 rw [show ((p.fe:Int) == 0)=decide (p.fe=0) from natBeq p.fe 0]
 refine Sif_cases (fun h=>?_) (fun h=>?_)
 ·have h:=of_decide_eq_true h
  refine stF hb fun w2 b2 c2=>stT b2 fun w3 b3 c3=>?_
  refine hk _ ⟨?_,?_⟩ (c2.trans' c3)
  ·rw [b3]; unfold Ps.fail pcl; rw [if_pos h]; rfl
  ·unfold Ps.fail; rw [if_pos h]; exact ⟨ha,ha,he⟩
 ·have h:=of_decide_eq_false h
  have:p.fail a e=p:=by unfold Ps.fail; rw [if_neg h]
  exact hk _ (this.symm▸hp) (Ch.refl _ _)
theorem psees_ok {s m:Bs} {pb:Nat} {p:Ps} {w:World} (hp:PS s pb p w) {K:Value→World→Prop} (hk:K (.bool (p.sees m)) w) :
 callP Tryz.prog 198 [.pointer (some ⟨pb,0,none⟩),.string ⟨m.toArray⟩] w K:=by
 apply ok_sieve_parser_sees
 have hb:=hp.1
 unfold pcl at hb
 simp only [nn,add_at,Nat.zero_add,Nat.reduceAdd]
 unfold Ps.sees at hk
 refine ⟨_,cellP hb 7 rfl,?_⟩
 rw [show ((p.fe:Int) == 0)=decide (p.fe=0) from natBeq p.fe 0]
 refine Sif_cases (fun h=>?_) (fun h=>?_)
 ·rw [h,Bool.true_and] at hk
  refine ⟨_,cellP hb 1 rfl,?_⟩
  rw [show ((p.t.k:Int) == 4)=decide (p.t.k=4) from natBeq p.t.k 4]
  refine Sif_cases (fun h=>?_) (fun h=>?_)
  ·rw [h,Bool.true_and] at hk
   refine ⟨_,cellP hb 4 rfl,?_⟩
   rw [seq3]; exact hk
  ·rw [h,Bool.false_and] at hk; exact hk
 ·rw [h,Bool.false_and,Bool.false_and] at hk; exact hk
theorem pdigit_ok {c:UInt8} {w:World} {K:Value→World→Prop} (hk:K (.bool (dg c)) w):callP Tryz.prog 106 [.int .u8 (c.toNat:Int)] w K:=by
 apply ok_sieve_isDigit
 have e:dg c=(decide ((c.toNat:Int)≥48) && decide ((c.toNat:Int)≤57)):=by
  unfold dg digitC
  congr 1<;>rw [decide_eq_decide]<;>omega
 rw [e] at hk
 refine Sif_cases (fun h=>?_) (fun h=>?_)
 ·rw [h,Bool.true_and] at hk; exact hk
 ·rw [h,Bool.false_and] at hk; exact hk
theorem letter_fact (c:UInt8):lt c=(if decide (bitsV .or .u8 (c.toNat:Int) 32≥97) then (if !decide (bitsV .or .u8 (c.toNat:Int) 32≤122) then ((c.toNat:Int) == 95) else true) else ((c.toNat:Int) == 95)):=by
 have key:∀ x:Fin 256,lt (UInt8.ofNat x.val)=(if decide (bitsV .or .u8 (x.val:Int) 32≥97) then (if !decide (bitsV .or .u8 (x.val:Int) 32≤122) then ((x.val:Int) == 95) else true) else ((x.val:Int) == 95)):=by decide +kernel
 have:=key ⟨c.toNat,c.toNat_lt⟩
 simp only [UInt8.ofNat_toNat] at this
 exact this
theorem pletter_ok {c:UInt8} {w:World} {K:Value→World→Prop} (hk:K (.bool (lt c)) w):callP Tryz.prog 73 [.int .u8 (c.toNat:Int)] w K:=by
 apply ok_sieve_isLetter
 rw [letter_fact] at hk
 refine Sif_cases (fun h=>?_) (fun h=>?_)
 ·rw [if_pos h] at hk
  refine Sif_cases (fun h=>?_) (fun h=>?_)
  ·rw [if_pos h] at hk; exact hk
  ·rw [if_neg (by rw [h]; decide)] at hk; exact hk
 ·rw [if_neg (by rw [h]; decide)] at hk; exact hk
theorem get3 {s:Bs} {n:Nat} {x:UInt8} (h:s[n]?=some x):byteAt (ByteArray.mk s.toArray) n=(x.toNat:Int):=byteAt_get (by rw [sl3]; exact h)
theorem dgN_step {s:Bs} {k:Nat} {x:UInt8} (h:s[k]?=some x):dgN (s.drop k)=if dg x then 1+dgN (s.drop (k+1)) else 0:=by
 have hk:=(List.getElem?_eq_some_iff.1 h).1
 rw [List.drop_eq_getElem_cons hk,show s[k]=x by rw [List.getElem?_eq_getElem hk] at h; exact Option.some.inj h]
 rfl
theorem dgN_le:∀ l:Bs,dgN l≤l.length
 | []=>Nat.le_refl _
 | c::l=>by have:=dgN_le l; unfold dgN; split<;>simp<;>omega
theorem skipP_le {s:Bs} {a:Nat} (h:a≤s.length):skipP s a≤s.length:=by
 have:=dgN_le (s.drop a)
 rw [List.length_drop] at this
 unfold skipP; omega
theorem pskip_ok {s:Bs} {a:Nat} (ha:a≤s.length) (hs:s.length≤2^40) {w:World} {K:Value→World→Prop} (hk:K (.int .i64 (skipP s a:Int)) w) :
 callP Tryz.prog 158 [.string ⟨s.toArray⟩,.int .i64 (a:Int)] w K:=by
 apply ok_sieve_skip
 rw [sz3]
 refine ⟨fun m n w1=>∃ k:Nat,n=(k:Int)∧k≤s.length∧w1=w∧m=s.length-k∧skipP s a=skipP s k,⟨_,a,rfl,ha,rfl,rfl,rfl⟩,?_⟩
 rintro m n w1 ⟨k,rfl,hk1,rfl,rfl,he⟩
 refine ⟨fun w2=>w2=w1∧k<s.length∧skipP s k=skipP s (k+1),?_,?_⟩
 ·rintro w2 ⟨rfl,hlt,h2⟩
  simp only [nameI]
  rw [wrap_id (by omega) (by omega)]
  exact ⟨_,by omega,k+1,by omega,by omega,by trivial,rfl,he.trans h2⟩
 ·refine Sif_cases (fun h=>?_) (fun h=>?_)
  ·have hlt:k<s.length:=by have:=of_decide_eq_true h; omega
   obtain ⟨x,hx⟩:∃ x,s[k]?=some x:=⟨s[k],List.getElem?_eq_getElem hlt⟩
   refine ⟨by omega,by omega,?_⟩
   rw [Int.toNat_natCast,get3 hx]
   refine pdigit_ok ⟨_,rfl,?_⟩
   have hst:=dgN_step hx
   refine Sif_cases (fun h=>?_) (fun h=>?_)
   ·refine ⟨by trivial,hlt,?_⟩
    unfold skipP; rw [hst,h]; simp; omega
   ·have:skipP s k=k:=by unfold skipP; rw [hst,h]; simp
    rw [he,this] at hk; exact hk
  ·have hge:k=s.length:=by have:=of_decide_eq_false h; omega
   have:skipP s k=k:=by unfold skipP; rw [List.drop_of_length_le (by omega)]; rfl
   rw [he,this] at hk; exact hk
end Go.Proofs.YtnmlmicmhpkbeaaGreatDoor
namespace Go.Proofs.YtnmlmicmhpkbeaaGreatDoor
open Go Go.Sv Go.Note
set_option linter.unusedVariables false
attribute [local irreducible] Sif
theorem drop_cons {s:Bs} {k:Nat} {x:UInt8} (h:s[k]?=some x):s.drop k=x::s.drop (k+1):=by
 have hk:=(List.getElem?_eq_some_iff.1 h).1
 rw [List.drop_eq_getElem_cons hk,show s[k]=x by rw [List.getElem?_eq_getElem hk] at h; exact Option.some.inj h]
theorem wdN_le:∀ l:Bs,wdN l≤l.length
 | []=>Nat.le_refl _
 | c::l=>by
  have:=wdN_le l
  unfold wdN
  split
  ·split
   ·omega
   ·split<;>simp at *<;>omega
  ·split<;>simp<;>omega
theorem wordP_le {s:Bs} {a:Nat} (h:a<s.length):a<wordP s a∧wordP s a≤s.length:=by
 have:=wdN_le (s.drop (a+1))
 rw [List.length_drop] at this
 unfold wordP; omega
theorem byte_eq (y:UInt8) (n:Nat) (hn:n<256):((y.toNat:Int) == (n:Int))=decide (y=n.toUInt8):=by
 have:(y=n.toUInt8)↔y.toNat=n:=by
  rw [← UInt8.toNat_inj]
  simp only [Nat.toUInt8,UInt8.toNat_ofNat']
  omega
 by_cases h:y.toNat=n
 ·rw [h,decide_eq_true (this.2 h)]; simp
 ·rw [decide_eq_false (fun e=>h (this.1 e))]; simp; omega
theorem byteIs (x:UInt8) (n:Nat) (hn:n<256):((x.toNat:Int) == (n:Int))=decide (x=n.toUInt8):=byte_eq x n hn
theorem pwordEnd_ok {s:Bs} {a:Nat} (ha:a<s.length) (hs:s.length≤2^40) {w:World} {K:Value→World→Prop} (hk:K (.int .i64 (wordP s a:Int)) w) :
 callP Tryz.prog 74 [.string ⟨s.toArray⟩,.int .i64 (a:Int)] w K:=by
 apply ok_sieve_wordEnd
 simp only [nameI,sz3]
 rw [wrap_id (n:=(a:Int)+1) (by omega) (by omega)]
 refine ⟨fun n w1=>n=(wordP s a:Int)∧w1=w,?_,?_⟩
 ·rintro n w1 ⟨rfl,rfl⟩; exact hk
 refine ⟨fun m n w1=>∃ k:Nat,n=(k:Int)∧a<k∧k≤s.length∧w1=w∧m=s.length-k∧wordP s a=k+wdN (s.drop k),⟨_,a+1,by omega,by omega,by omega,rfl,rfl,rfl⟩,?_⟩
 rintro m n w1 ⟨k,rfl,hak,hk1,rfl,rfl,he⟩
 refine Sif_cases (fun h=>?_) (fun h=>?_)
 ·have hlt:k<s.length:=by have:=of_decide_eq_true h; omega
  obtain ⟨x,hx⟩:∃ x,s[k]?=some x:=⟨s[k],List.getElem?_eq_getElem hlt⟩
  have hd:=drop_cons hx
  rw [hd] at he
  refine ⟨fun w2=>w2=w1∧wdN (x::s.drop (k+1))=1+wdN (s.drop (k+1)),?_,by omega,by omega,?_⟩
  ·rintro w2 ⟨rfl,h2⟩
   rw [wrap_id (by omega) (by omega)]
   exact ⟨_,by omega,k+1,by omega,by omega,by omega,by trivial,rfl,by omega⟩
  ·rw [Int.toNat_natCast,get3 hx,wrap_id (n:=(k:Int)+1) (by omega) (by omega)]
   have x45:((x.toNat:Int) == 45)=decide (x=45):=byteIs x 45 (by omega)
   have x46:((x.toNat:Int) != 46)=!decide (x=46):=by have:=byteIs x 46 (by omega); simp only [bne]; rw [show ((46:Nat):Int)=46 from rfl] at this; rw [this]; rfl
   rw [x45,x46]
   have done:wdN (x::s.drop (k+1))=0→((k:Int)=(wordP s a:Int)∧w1=w1):=fun h0=>⟨by omega,rfl⟩
   -- no dash that holds
   refine ⟨fun w2=>w2=w1∧wdN (x::s.drop (k+1))=(if lt x || dg x || decide (x=46) then 1+wdN (s.drop (k+1)) else 0),?_,?_⟩
   ·rintro w2 ⟨rfl,h2⟩
    refine pletter_ok ⟨_,rfl,?_⟩
    refine Sif_cases (fun h=>?_) (fun h=>?_)
    ·have hl:lt x=false:=by simpa using h
     refine pdigit_ok ⟨_,rfl,?_⟩
     refine Sif_cases (fun h=>?_) (fun h=>?_)
     ·have hg:dg x=false:=by simpa using h
      refine Sif_cases (fun h=>?_) (fun h=>?_)
      ·have h46:¬ x=46:=by simpa using h
       exact done (by rw [h2,hl,hg,decide_eq_false h46]; rfl)
      ·have h46:x=46:=by simpa using h
       exact ⟨by trivial,by rw [h2,hl,hg,decide_eq_true h46]; rfl⟩
     ·have hg:dg x=true:=by simpa using h
      exact ⟨by trivial,by rw [h2,hl,hg]; rfl⟩
    ·have hl:lt x=true:=by simpa using h
     exact ⟨by trivial,by rw [h2,hl]; rfl⟩
   ·have other:x≠45→wdN (x::s.drop (k+1))=(if lt x || dg x || decide (x=46) then 1+wdN (s.drop (k+1)) else 0):=fun h=>by
     conv=>lhs; unfold wdN
     rw [if_neg h]
    have dash:x=45→(∀ y,s[k+1]?=some y→(lt y || dg y)=false)→wdN (x::s.drop (k+1))=(if lt x || dg x || decide (x=46) then 1+wdN (s.drop (k+1)) else 0):=fun h hy=>by
     subst h
     conv=>lhs; unfold wdN
     rw [if_pos rfl,if_neg (by decide)]
     by_cases hlt2:k+1<s.length
     ·obtain ⟨y,hy2⟩:∃ y,s[k+1]?=some y:=⟨s[k+1],List.getElem?_eq_getElem hlt2⟩
      rw [drop_cons hy2]
      simp only
      rw [if_neg (by rw [hy y hy2]; decide)]
     ·rw [List.drop_of_length_le (by omega)]
    refine Sif_cases (fun h=>?_) (fun h=>⟨by trivial,other (of_decide_eq_false h)⟩)
    have h45:=of_decide_eq_true h
    refine Sif_cases (fun h=>?_) (fun h=>?_)
    ·have hlt2:k+1<s.length:=by have:=of_decide_eq_true h; omega
     obtain ⟨y,hy2⟩:∃ y,s[k+1]?=some y:=⟨s[k+1],List.getElem?_eq_getElem hlt2⟩
     have hb:byteAt (ByteArray.mk s.toArray) ((k:Int)+1).toNat=(y.toNat:Int):=by rw [show ((k:Int)+1).toNat=k+1 by omega]; exact get3 hy2
     have good:(lt y || dg y)=true→wdN (x::s.drop (k+1))=1+wdN (s.drop (k+1)):=fun hg=>by
      subst h45
      conv=>lhs; unfold wdN
      rw [if_pos rfl,drop_cons hy2]
      simp only
      rw [if_pos hg]
     rw [hb]
     refine ⟨by omega,by omega,pletter_ok ⟨_,rfl,?_⟩⟩
     refine Sif_cases (fun h=>?_) (fun h=>?_)
     ·have hl:lt y=false:=by simpa using h
      refine ⟨by omega,by omega,pdigit_ok ⟨_,rfl,?_⟩⟩
      refine Sif_cases (fun h=>⟨by trivial,good (by rw [h,Bool.or_true])⟩) (fun h=>⟨by trivial,dash h45 fun z hz=>?_⟩)
      rw [hy2] at hz; cases hz
      rw [hl,h]; rfl
     ·have hl:lt y=true:=by simpa using h
      exact ⟨by trivial,good (by rw [hl]; rfl)⟩
    ·have hge:¬ k+1<s.length:=by have:=of_decide_eq_false h; omega
     exact ⟨by trivial,dash h45 fun z hz=>absurd (List.getElem?_eq_some_iff.1 hz).1 hge⟩
 ·have hge:k=s.length:=by have:=of_decide_eq_false h; omega
  refine ⟨?_,by trivial⟩
  rw [List.drop_of_length_le (by omega)] at he
  have:wdN []=0:=rfl
  omega
theorem plower_ok {s:Bs} (hs:s.length≤2^40) (h128:∀ x∈s,x.toNat<128) (hc:s.any cap=false) {w:World} {K:Value→World→Prop} (hk:K (.string ⟨s.toArray⟩) w) :
 callP Tryz.prog 128 [.string ⟨s.toArray⟩] w K:=by
 apply ok_strings_ToLower
 simp only [sz3]
 refine ⟨fun b b1 w1=>b=true∧b1=false∧w1=w,?_,?_⟩
 ·rintro b b1 w1 ⟨rfl,rfl,rfl⟩
  refine Sif_cases (fun _=>?_) (fun h=>absurd h (by decide))
  exact Sif_cases (fun _=>hk) (fun h=>absurd h (by decide))
 refine ⟨fun m b b1 n w1=>∃ k:Nat,b=true∧b1=false∧n=(k:Int)∧k≤s.length∧w1=w∧m=s.length-k,⟨_,0,rfl,rfl,rfl,by omega,rfl,rfl⟩,?_⟩
 rintro m b b1 n w1 ⟨k,rfl,rfl,rfl,hk1,rfl,rfl⟩
 refine Sif_cases (fun h=>?_) (fun h=>⟨by trivial,by trivial,by trivial⟩)
 have hlt:k<s.length:=by have:=of_decide_eq_true h; omega
 obtain ⟨x,hx⟩:∃ x,s[k]?=some x:=⟨s[k],List.getElem?_eq_getElem hlt⟩
 have hm:=List.mem_of_getElem? hx
 have hx1:=h128 x hm
 have hx2:cap x=false:=by
  have:=List.any_eq_false.1 hc x hm
  simpa using this
 refine ⟨fun b2 b3 w2=>b2=true∧b3=false∧w2=w1,?_,by omega,by omega,?_⟩
 ·rintro b2 b3 w2 ⟨rfl,rfl,rfl⟩
  simp only [nameI]
  rw [wrap_id (by omega) (by omega)]
  exact ⟨_,by omega,k+1,by trivial,by trivial,by omega,by omega,by trivial,rfl⟩
 ·simp only [nameI]
  rw [Int.toNat_natCast,get3 hx]
  refine Sif_cases (fun h=>by have:=of_decide_eq_true h; omega) (fun _=>?_)
  refine Sif_cases (fun _=>?_) (fun h=>absurd h (by decide))
  refine Sif_cases (fun h=>⟨by trivial,?_,by trivial⟩) (fun h=>⟨by trivial,by trivial,by trivial⟩)
  have h:=of_decide_eq_true h
  unfold cap at hx2
  rw [decide_eq_true (by omega),Bool.true_and] at hx2
  have:=of_decide_eq_false hx2
  exact decide_eq_false (by omega)
theorem keyw_of {t s:Bs} {w:World} {P:World→Prop} (hlow:∀ K':Value→World→Prop,(∀ w',P w'→K' (.string ⟨s.toArray⟩) w')→callP Tryz.prog 128 [.string ⟨t.toArray⟩] w K') {K:Value→World→Prop} (hk:∀ w',P w'→K (.string ⟨(keyP s).toArray⟩) w') :
 callP Tryz.prog 75 [.string ⟨t.toArray⟩] w K:=by
 apply ok_sieve_keyword
 refine hlow _ fun w0 p0=>⟨_,rfl,?_⟩
 have hk:=hk w0 p0
 refine ⟨fun b w1=>b=decide (s∈keys)∧w1=w0,?_,?_⟩
 ·rintro b w1 ⟨rfl,rfl⟩
  unfold keyP at hk
  refine Sif_cases (fun h=>?_) (fun h=>?_)
  ·rw [if_pos (of_decide_eq_true h)] at hk; exact hk
  ·rw [if_neg (of_decide_eq_false h)] at hk; exact hk
 ·have e:∀ q:Bs,((ByteArray.mk s.toArray).toList == (ByteArray.mk (Array.mk q)).toList)=decide (s=q):=fun q=>seq3 s q
  simp only [e]
  have yes:∀ q∈keys,s=q→decide (s=q)=decide (s∈keys):=fun q hq h=>by rw [decide_eq_true h,decide_eq_true (h▸hq)]
  refine Sif_cases (fun h=>⟨yes _ (by decide) (of_decide_eq_true h),by trivial⟩) (fun h1=>?_)
  refine Sif_cases (fun h=>⟨yes _ (by decide) (of_decide_eq_true h),by trivial⟩) (fun h2=>?_)
  refine Sif_cases (fun h=>⟨yes _ (by decide) (of_decide_eq_true h),by trivial⟩) (fun h3=>?_)
  refine Sif_cases (fun h=>⟨yes _ (by decide) (of_decide_eq_true h),by trivial⟩) (fun h4=>?_)
  refine Sif_cases (fun h=>⟨yes _ (by decide) (of_decide_eq_true h),by trivial⟩) (fun h5=>?_)
  refine Sif_cases (fun h=>⟨yes _ (by decide) (of_decide_eq_true h),by trivial⟩) (fun h6=>?_)
  refine Sif_cases (fun h=>⟨yes _ (by decide) (of_decide_eq_true h),by trivial⟩) (fun h7=>?_)
  refine Sif_cases (fun h=>⟨yes _ (by decide) (of_decide_eq_true h),by trivial⟩) (fun h8=>?_)
  refine Sif_cases (fun h=>⟨yes _ (by decide) (of_decide_eq_true h),by trivial⟩) (fun h9=>?_)
  refine Sif_cases (fun h=>⟨yes _ (by decide) (of_decide_eq_true h),by trivial⟩) (fun h10=>⟨?_,by trivial⟩)
  rw [decide_eq_decide]
  have h1:=of_decide_eq_false h1; have h2:=of_decide_eq_false h2; have h3:=of_decide_eq_false h3; have h4:=of_decide_eq_false h4; have h5:=of_decide_eq_false h5
  have h6:=of_decide_eq_false h6; have h7:=of_decide_eq_false h7; have h8:=of_decide_eq_false h8; have h9:=of_decide_eq_false h9; have h10:=of_decide_eq_false h10
  unfold keys
  simp only [List.mem_cons,List.not_mem_nil,or_false,h1,h2,h3,h4,h5,h6,h7,h8,h9,h10,false_or]
theorem pkeyword_ok {s:Bs} (hs:s.length≤2^40) (h128:∀ x∈s,x.toNat<128) (hc:s.any cap=false) {w:World} {K:Value→World→Prop} (hk:K (.string ⟨(keyP s).toArray⟩) w) :
 callP Tryz.prog 75 [.string ⟨s.toArray⟩] w K :=
 keyw_of (P:=(·=w)) (fun K' h=>plower_ok hs h128 hc (h w rfl)) fun w' e=>by rw [e]; exact hk
end Go.Proofs.YtnmlmicmhpkbeaaGreatDoor
namespace Go.Proofs.YtnmlmicmhpkbeaaGreatDoor
open Go Go.Sv Go.Note
set_option linter.unusedVariables false
attribute [local irreducible] Sif
theorem quoP_le (q:UInt8):∀ (n:Nat) (l:Bs),l.length≤n→∀ x k,quoP q l=some (x,k)→k≤l.length∧x.length≤l.length:=by
 intro n
 induction n with
 | zero =>
  intro l hl x k h
  obtain rfl:l=[]:=List.eq_nil_of_length_eq_zero (by omega)
  cases h
 | succ n ih =>
  intro l hl x k h
  cases l with
  | nil=>cases h
  | cons c l =>
   unfold quoP at h
   split at h
   ·cases hr:quoP q l with
    | none=>rw [hr] at h; cases h
    | some p =>
     rw [hr] at h; cases h
     have:=ih l (by simpa using hl) p.1 p.2 hr
     simp only [List.length_cons]; omega
   ·split at h
    ·cases h; simp
    ·rename_i d l'
     split at h
     ·cases hr:quoP q l' with
      | none=>rw [hr] at h; cases h
      | some p =>
       rw [hr] at h; cases h
       simp only [List.length_cons] at hl
       have:=ih l' (by omega) p.1 p.2 hr
       simp only [List.length_cons]; omega
     ·cases h; simp
theorem ext_one {s:Bs} {k:Nat} {x:UInt8} (h:s[k]?=some x):(ByteArray.mk s.toArray).extract k (k+1)=⟨([x]:Bs).toArray⟩:=data_ext (by
 rw [extract_data,sl3,drop_cons h,show k+1-k=1 by omega]; rfl)
def QuoV (a:Nat):Option (Bs × Nat)→Value
 | some p=>.tuple #[.string ⟨p.1.toArray⟩,.int .i64 ((a+1+p.2:Nat):Int),.bool true]
 | none=>.tuple #[.string ⟨#[]⟩,.int .i64 (a:Int),.bool false]
theorem pquotes_ok {s:Bs} {a:Nat} {c:UInt8} (hc:s[a]?=some c) (hs:s.length≤2^40) {w:World} {K:Value→World→Prop} (hk:∀ w',Ch (fun _=>False) w w'→K (QuoV a (quoP c (s.drop (a+1)))) w') :
 callP Tryz.prog 108 [.string ⟨s.toArray⟩,.int .i64 (a:Int)] w K:=by
 apply ok_sieve_quotes
 have ha:=(List.getElem?_eq_some_iff.1 hc).1
 simp only [sz3,nameI]
 rw [wrap_id (n:=(a:Int)+1) (by omega) (by omega)]
 refine ⟨by omega,by omega,by omega,by omega,?_⟩
 have hT:BT TB:=.inl rfl
 have hq:(ByteArray.mk s.toArray).extract (Int.toNat (a:Int)) (Int.toNat ((a:Int)+1))=⟨([c]:Bs).toArray⟩:=by
  rw [Int.toNat_natCast,show ((a:Int)+1).toNat=a+1 by omega]; exact ext_one hc
 rw [hq]
 unfold newB
 have hB0:BAt (w.alloc (.cells [Value.pointer none,Value.slice none 0 0].toArray 68)) TB w.heap.size [] none:=BAt.new
 have c0:Ch (fun _=>False) w (w.alloc (.cells [Value.pointer none,Value.slice none 0 0].toArray 68)):=alloc_ch w _
 generalize w.alloc (.cells [Value.pointer none,Value.slice none 0 0].toArray 68)=w1 at hB0 c0 ⊢
 obtain ⟨R,hR⟩:∃ R,R=quoP c (s.drop (a+1)):=⟨_,rfl⟩
 rw [← hR] at hk
 refine ⟨fun m i w2=>∃ (k:Nat) (out:Bs) (g:Option Nat),i=(k:Int)∧a+1≤k∧k≤s.length∧m=s.length-k∧out.length≤k∧BAt w2 TB w.heap.size out g∧(∀ z,g=some z→w.heap.size≤z)∧Ch (fun _=>False) w w2∧R=(quoP c (s.drop k)).map fun p=>(out++p.1,(k-(a+1))+p.2),
  ⟨_,a+1,[],none,by omega,by omega,by omega,rfl,by simp,hB0,fun z hz=>(by cases hz),c0,?_⟩,?_⟩
 ·rw [hR]; cases quoP c (s.drop (a+1))<;>simp
 rintro m i w2 ⟨k,out,g,rfl,hk1,hk2,rfl,hol,B2,hg2,c2,he⟩
 have hbw:∀ w3 out',BW w2 w3 TB w.heap.size out' g→∃ g',BAt w3 TB w.heap.size out' g'∧(∀ z,g'=some z→w.heap.size≤z)∧Ch (fun _=>False) w w3:=by
  rintro w3 out' ⟨g',A',n',c'⟩
  refine ⟨g',A',fun z hz=>?_,c2.trans c' fun y hy hs=>?_⟩
  ·rcases n' z hz with h | h
   ·exact hg2 z h
   ·have:=c2.size; omega
  ·rcases hs with h | h
   ·omega
   ·have:=hg2 y h; omega
 refine Sif_cases (fun h=>?_) (fun h=>?_)
 ·have hlt:k<s.length:=by have:=of_decide_eq_true h; omega
  obtain ⟨x,hx⟩:∃ x,s[k]?=some x:=⟨s[k],List.getElem?_eq_getElem hlt⟩
  have hd:=drop_cons hx
  rw [hd] at he
  rw [wrap_id (n:=(k:Int)+1) (by omega) (by omega)]
  have h1:(ByteArray.mk s.toArray).extract (Int.toNat (k:Int)) (Int.toNat ((k:Int)+1))=⟨([x]:Bs).toArray⟩:=by
   rw [Int.toNat_natCast,show ((k:Int)+1).toNat=k+1 by omega]; exact ext_one hx
  rw [h1,seq3]
  refine ⟨fun n2 w3=>∃ (j:Nat) (out':Bs) (g':Option Nat),n2=(j:Int)∧k≤j∧j<s.length∧out'.length≤j+1∧BAt w3 TB w.heap.size out' g'∧(∀ z,g'=some z→w.heap.size≤z)∧Ch (fun _=>False) w w3∧R=(quoP c (s.drop (j+1))).map fun p=>(out'++p.1,(j+1-(a+1))+p.2),?_,by omega,by omega,by omega,by omega,?_⟩
  ·rintro n2 w3 ⟨j,out',g',rfl,hj1,hj2,hj3,B3,hg3,c3,he3⟩
   rw [wrap_id (n:=(j:Int)+1) (by omega) (by omega)]
   exact ⟨s.length-(j+1),by omega,j+1,out',g',by omega,by omega,by omega,rfl,hj3,B3,hg3,c3,he3⟩
  ·refine Sif_cases (fun h=>?_) (fun h=>?_)
   ·have hne:x≠c:=by
     have h:decide ([x]=[c])=false:=by simpa using h
     have:=of_decide_eq_false h
     exact fun e=>this (by rw [e])
    refine ⟨by omega,by omega,?_⟩
    rw [Int.toNat_natCast,get3 hx]
    refine WriteByte_ok B2 hT x (by omega) fun w3 hB=>⟨_,rfl,?_⟩
    obtain ⟨g',A',n',c'⟩:=hbw w3 _ hB
    refine ⟨k,out++[x],g',rfl,Nat.le_refl _,hlt,by simp; omega,A',n',c',?_⟩
    rw [he]
    conv=>lhs; unfold quoP
    rw [if_pos hne]
    cases quoP c (s.drop (k+1)) with
    | none=>rfl
    | some p=>simp; omega
   ·have hxc:x=c:=by
     have h:decide ([x]=[c])=true:=by simpa using h
     have:=of_decide_eq_true h
     injection this
    subst hxc
    refine ⟨by omega,by omega,?_⟩
    have h2:(ByteArray.mk s.toArray).extract (Int.toNat ((k:Int)+1)) s.length=⟨(s.drop (k+1)).toArray⟩:=by
     rw [show ((k:Int)+1).toNat=k+1 by omega,← sz3 s]; exact ext_drop s (k+1)
    rw [h2]
    refine (Tryz.strings_HasPrefix _ _ w2).mono ?_
    rintro e w3 ⟨rfl,rfl⟩
    refine ⟨_,rfl,_,rfl,?_⟩
    rw [sl3,sl3]
    have hp:Lib.hasPrefix (s.drop (k+1)) [x]=decide ((s.drop (k+1)).head?=some x):=by
     unfold Lib.hasPrefix
     cases s.drop (k+1) with
     | nil=>rfl
     | cons y l =>
      simp only [List.isPrefixOf,List.head?_cons,Option.some.injEq,Bool.and_true]
      by_cases hh:x=y
      ·subst hh; simp
      ·have hh2:¬ y=x:=fun e=>hh e.symm
       simp [hh,hh2]
    rw [hp]
    refine Sif_cases (fun h=>?_) (fun h=>?_)
    ·have hno:(s.drop (k+1)).head?≠some x:=by simpa using h
     refine String_ok B2 (by omega) fun w4 c4=>⟨_,rfl,?_⟩
     have hres:R=some (out,k-(a+1)+1):=by
      rw [he]
      conv=>lhs; unfold quoP
      rw [if_neg (by simp)]
      cases hdd:s.drop (k+1) with
      | nil=>simp
      | cons d l' =>
       rw [hdd] at hno
       have hdx:¬ d=x:=fun e=>hno (by rw [e]; rfl)
       simp [hdx]
     have:=hk w4 (c2.trans c4 fun y hy hs=>by have:=hg2 y hs; omega)
     rw [hres] at this
     unfold QuoV at this
     simp only at this
     rw [show ((a+1+(k-(a+1)+1):Nat):Int)=(k:Int)+1 by omega] at this
     exact this
    ·have hyes:(s.drop (k+1)).head?=some x:=by simpa using h
     refine ⟨by omega,by omega,?_⟩
     rw [Int.toNat_natCast,get3 hx]
     refine WriteByte_ok B2 hT x (by omega) fun w4 hB=>⟨_,rfl,?_⟩
     obtain ⟨g',A',n',c'⟩:=hbw w4 _ hB
     obtain ⟨l',hl'⟩:∃ l',s.drop (k+1)=x::l':=by
      cases hdd:s.drop (k+1) with
      | nil=>rw [hdd] at hyes; cases hyes
      | cons d l'=>rw [hdd] at hyes; cases hyes; exact ⟨l',rfl⟩
     have hl2:s.drop (k+1+1)=l':=by rw [← List.drop_drop,hl']; rfl
     have hlt2:k+1<s.length:=by
      have:=congrArg List.length hl'
      rw [List.length_drop] at this; simp at this; omega
     refine ⟨k+1,out++[x],g',by omega,by omega,hlt2,by simp; omega,A',n',c',?_⟩
     rw [he,hl2]
     conv=>lhs; unfold quoP
     rw [if_neg (by simp),hl']
     simp only [if_true]
     cases quoP x l' with
     | none=>rfl
     | some p=>simp; omega
 ·have hge:k=s.length:=by have:=of_decide_eq_false h; omega
  have hres:R=none:=by
   rw [he,List.drop_of_length_le (by omega)]; rfl
  have:=hk w2 c2
  rw [hres] at this
  exact this
theorem exp_fact (c:UInt8):(bitsV .or .u8 (c.toNat:Int) 32 == 101)=(decide (c=101) || decide (c=69)):=by
 have key:∀ x:Fin 256,(bitsV .or .u8 (x.val:Int) 32 == 101)=(decide (UInt8.ofNat x.val=101) || decide (UInt8.ofNat x.val=69)):=by decide +kernel
 have:=key ⟨c.toNat,c.toNat_lt⟩
 simp only [UInt8.ofNat_toNat] at this
 exact this
def tkl (t:Tk):List Value:=[.int .i64 (t.k:Int),.int .i64 (t.a:Int),.int .i64 (t.b:Int),.string ⟨t.t.toArray⟩,.bool t.f]
def tkv (t:Tk):Value:=.agg (tkl t).toArray
theorem st5T {w:World} {k:Nat} {zs:List Value} {t:Tk} {K:World→Prop} (h:blk w k=some zs) (hl:zs.length=5) (hk:∀ w',blk w' k=some (tkl t)→Ch (·=k) w w'→K w') :
 Sv.st w ⟨k,0,none⟩ (.int .i64 (t.k:Int)) fun w1=>Sv.st w1 ⟨k,1,none⟩ (.int .i64 (t.a:Int)) fun w2=>Sv.st w2 ⟨k,2,none⟩ (.int .i64 (t.b:Int)) fun w3=>Sv.st w3 ⟨k,3,none⟩ (.string ⟨t.t.toArray⟩) fun w4=>Sv.st w4 ⟨k,4,none⟩ (.bool t.f) fun w5=>K w5 :=
 st_all [.int .i64 (t.k:Int),.int .i64 (t.a:Int),.int .i64 (t.b:Int),.string ⟨t.t.toArray⟩,.bool t.f] 0 (K:=K) h (by rw [hl]; simp) fun w' b c z=>hk w' (by
  rw [b,putSeg,List.drop_of_length_le (by simp; omega)]; simp [tkl]) c
theorem pnum_ok {s:Bs} {a:Nat} {t:Tk} (ha:a≤s.length) (hs:s.length≤2^40) (ht:numP s a=some t) {w:World} {K:Value→World→Prop} (hk:∀ w',Ch (fun _=>False) w w'→K (tkv t) w') :
 callP Tryz.prog 107 [.string ⟨s.toArray⟩,.int .i64 (a:Int)] w K:=by
 apply ok_sieve_numeral
 obtain ⟨b,hb⟩:∃ b,b=skipP s a:=⟨_,rfl⟩
 have hbl:b≤s.length:=hb▸skipP_le ha
 have hab:a≤b:=by rw [hb]; unfold skipP; omega
 unfold numP at ht
 simp only [← hb] at ht
 split at ht
 ·cases ht
 rename_i hno
 cases ht
 refine newB_blk fun w1 b1 c1 z1=>?_
 refine pskip_ok ha hs ⟨_,rfl,?_⟩
 rw [← hb]
 refine newB_blk fun w2 b2 c2 z2=>?_
 have b1':=(c2.blk (blk_lt b1) id).trans b1
 simp only [add_at,Nat.zero_add,sz3,Nat.add_zero]
 refine st5T (t:=⟨1,a,b,[],false⟩) b2 rfl fun w3 b3 c3=>?_
 have b3:blk w3 w1.heap.size=some [.int .i64 1,.int .i64 (a:Int),.int .i64 (b:Int),.string ⟨([]:Bs).toArray⟩,.bool false]:=b3
 have c13:Ch (fun _=>False) w1 w3:=c2.trans c3 fun x hx h=>by omega
 have b1'':=(c3.blk (by omega) (by omega)).trans b1'
 have hst:∃ J1:World→Prop,True∧J1 w3∧∀ w10,J1 w10→w10=w3:=⟨fun w'=>w'=w3,trivial,rfl,fun _ h=>h⟩
 refine ⟨fun w9=>w9=w3,?_,?_⟩
 ·rintro w9 rfl
  refine ⟨fun w10=>w10=w9,?_,?_⟩
  ·rintro w10 rfl
   refine ⟨_,cellP b3 2 rfl,by omega,by omega,by omega,by omega,?_⟩
   have hx:(ByteArray.mk s.toArray).extract (Int.toNat (a:Int)) (Int.toNat (b:Int))=⟨((s.drop a).take (b-a)).toArray⟩:=data_ext (by rw [extract_data,Int.toNat_natCast,Int.toNat_natCast,sl3,sl3])
   rw [hx]
   refine st_blk b3 (by simp) fun w4 b4 c4 z4=>?_
   have b4:blk w4 w1.heap.size=some (tkl ⟨1,a,b,(s.drop a).take (b-a),false⟩):=by rw [b4]; rfl
   refine ⟨_,cellP b4 0 rfl,_,cellP b4 1 rfl,_,cellP b4 2 rfl,_,cellP b4 3 rfl,_,cellP b4 4 rfl,?_⟩
   have b14:=(c4.blk (by have:=c3.size; omega) (by omega)).trans b1''
   refine st5T (t:=⟨1,a,b,(s.drop a).take (b-a),false⟩) b14 rfl fun w5 b5 c5=>?_
   refine ⟨_,cellP b5 0 rfl,_,cellP b5 1 rfl,_,cellP b5 2 rfl,_,cellP b5 3 rfl,_,cellP b5 4 rfl,?_⟩
   refine hk w5 ?_
   have c14:Ch (fun _=>False) w w4:=(c1.trans' c13).trans c4 fun x hx h=>by omega
   exact c14.trans c5 fun x hx h=>by omega
  ·refine ⟨_,cellP b3 2 rfl,?_⟩
   refine Sif_cases (fun h=>?_) (fun h=>by trivial)
   have hlt:b<s.length:=by have:=of_decide_eq_true h; omega
   obtain ⟨x,hx⟩:∃ x,s[b]?=some x:=⟨s[b],List.getElem?_eq_getElem hlt⟩
   refine ⟨_,cellP b3 2 rfl,by omega,by omega,?_⟩
   rw [Int.toNat_natCast,get3 hx,exp_fact]
   have h1:¬ x=101:=fun e=>hno (by rw [hx,e]; simp)
   have h2:¬ x=69:=fun e=>hno (by rw [hx,e]; simp)
   rw [decide_eq_false h1,decide_eq_false h2]
   exact Sif_cases (fun h=>absurd h (by decide)) (fun _=>by trivial)
 ·refine ⟨_,cellP b3 2 rfl,?_⟩
  rw [wrap_id (by omega) (by omega)]
  refine Sif_cases (fun h=>?_) (fun h=>by trivial)
  have hlt:b<s.length:=by have:=of_decide_eq_true h; omega
  obtain ⟨x,hx⟩:∃ x,s[b]?=some x:=⟨s[b],List.getElem?_eq_getElem hlt⟩
  refine ⟨_,cellP b3 2 rfl,by omega,by omega,?_⟩
  rw [Int.toNat_natCast,get3 hx]
  have x46:((x.toNat:Int) == 46)=decide (x=46):=byteIs x 46 (by omega)
  have h1:¬ x=46:=fun e=>hno (by rw [hx,e]; simp)
  rw [x46,decide_eq_false h1]
  exact Sif_cases (fun h=>absurd h (by decide)) (fun _=>by trivial)
end Go.Proofs.YtnmlmicmhpkbeaaGreatDoor
namespace Go.Proofs.YtnmlmicmhpkbeaaGreatDoor
open Go Go.Sv Go.Note
set_option linter.unusedVariables false
attribute [local irreducible] Sif
def sgV:List Value:=signsP.map fun b=>.string ⟨b.toArray⟩
theorem pcl_eq {s:Bs} {p:Ps} (t:Tk):pcl s { p with t:=t }=[.string ⟨s.toArray⟩,.int .i64 (t.k:Int),.int .i64 (t.a:Int),.int .i64 (t.b:Int),.string ⟨t.t.toArray⟩,.bool t.f,.int .i64 (p.fa:Int),.int .i64 (p.fe:Int)]:=rfl
theorem psign_ok {s:Bs} {pb a:Nat} {p:Ps} (ha:a≤s.length) (hs:s.length≤2^40) {w:World} (hp:PS s pb p w) {K:Value→World→Prop} (hk:∀ w',PS s pb (signP s p a) w'→Ch (·=pb) w w'→K (.tuple #[]) w') :
 callP Tryz.prog 109 [.pointer (some ⟨pb,0,none⟩),.int .i64 (a:Int)] w K:=by
 apply ok_sieve_parser_sign
 refine newB_blk fun w1 b1 c1 z1=>?_
 have b1:blk w1 w.heap.size=some sgV:=b1
 have hp1:=hp.ch c1 id
 have hlt:=hp.lt
 simp only [nn,add_at,Nat.zero_add,Nat.mul_one,Nat.reduceAdd,Nat.add_zero]
 refine ⟨fun m n w2=>∃ k:Nat,n=(k:Int)∧k≤13∧m=13-k∧w2=w1∧signsP.find? (fun x=>x.isPrefixOf (s.drop a))=(signsP.drop k).find? fun x=>x.isPrefixOf (s.drop a),⟨13,0,rfl,by omega,rfl,rfl,rfl⟩,?_⟩
 rintro m n w2 ⟨k,rfl,hk1,rfl,rfl,he⟩
 refine Sif_cases (fun h=>?_) (fun h=>?_)
 ·have hk2:k<13:=by have:=of_decide_eq_true h; omega
  obtain ⟨g,hg⟩:∃ g,signsP[k]?=some g:=⟨_,List.getElem?_eq_getElem (show k<signsP.length from hk2)⟩
  have hgl:1≤g.length∧g.length≤2:=by
   have:=List.mem_of_getElem? hg
   revert this
   unfold signsP
   simp only [List.mem_cons,List.not_mem_nil,or_false]
   rintro (rfl | rfl | rfl | rfl | rfl | rfl | rfl | rfl | rfl | rfl | rfl | rfl | rfl)<;>decide
  have hd:signsP.drop k=g::signsP.drop (k+1):=by
   have hkl:=(List.getElem?_eq_some_iff.1 hg).1
   rw [List.drop_eq_getElem_cons hkl,show signsP[k]=g by rw [List.getElem?_eq_getElem hkl] at hg; exact Option.some.inj hg]
  rw [hd,List.find?_cons] at he
  refine ⟨by omega,by omega,⟨g.toArray⟩,?_,⟨s.toArray⟩,?_,by omega,?_,?_⟩
  ·rw [Int.toNat_natCast]
   exact cellP b1 k (by unfold sgV; rw [List.getElem?_map,hg]; rfl)
  ·exact cellP hp1.1 0 rfl
  ·rw [sz3]; omega
  rw [sz3,Int.toNat_natCast,← sz3 s,ext_drop]
  refine (Tryz.strings_HasPrefix _ _ w2).mono ?_
  rintro e w3 ⟨rfl,rfl⟩
  refine ⟨_,rfl,_,rfl,?_⟩
  rw [sl3,sl3]
  unfold Lib.hasPrefix
  refine Sif_cases (fun h=>?_) (fun h=>?_)
  ·rw [h] at he
   have hpre:g.length≤s.length-a:=by
    have:=List.isPrefixOf_iff_prefix.1 h
    have:=this.length_le
    rwa [List.length_drop] at this
   have hb:=hp1.1
   unfold pcl at hb
   rw [sz3,wrap_id (by omega) (by omega)]
   refine stT hb fun w4 b4 c4=>hk w4 ⟨?_,?_⟩ ((c1.mono fun _ _ h=>h.elim).trans' c4)
   ·unfold signP
    rw [he,b4,pcl_eq]
    simp only
    rw [show ((a+g.length:Nat):Int)=(a:Int)+(g.length:Int) by omega]; rfl
   ·unfold signP
    rw [he]
    exact ⟨ha,by show a+g.length≤_; omega,hp1.2.2.2⟩
  ·rw [h] at he
   rw [wrap_id (by omega) (by omega)]
   exact ⟨13-(k+1),by omega,k+1,by omega,by omega,rfl,by trivial,he⟩
 ·have hk2:k=13:=by have:=of_decide_eq_false h; omega
  subst hk2
  have hnone:signsP.find? (fun x=>x.isPrefixOf (s.drop a))=none:=he
  have hsp:signP s p a=p.fail a 160:=by unfold signP; rw [hnone]
  rw [hsp] at hk
  refine pfail_ok (e:=160) ha (by decide) hp1 fun w3 p3 c3=>⟨rfl,?_⟩
  exact hk w3 p3 ((c1.mono fun _ _ h=>h.elim).trans' c3)
theorem blank_fact (x:UInt8):decide (Lib.indexByte (ByteArray.mk (Array.mk [(32:UInt8),9,10,13])).data.toList ((x.toNat:Int)).toNat.toUInt8≥0)=blkC x:=by
 have key:∀ x:Fin 256,decide (Lib.indexByte (ByteArray.mk (Array.mk [(32:UInt8),9,10,13])).data.toList ((x.val:Int)).toNat.toUInt8≥0)=blkC (UInt8.ofNat x.val):=by decide +kernel
 have:=key ⟨x.toNat,x.toNat_lt⟩
 simp only [UInt8.ofNat_toNat] at this
 exact this
theorem blkN_le:∀ l:Bs,blkN l≤l.length
 | []=>Nat.le_refl _
 | c::l=>by have:=blkN_le l; unfold blkN; split<;>simp<;>omega
theorem stK {w:World} {k:Nat} {x0 x1 x2 x3 x4 x5 x6 x7 v1 v4:Value} {K:World→Prop} (h:blk w k=some [x0,x1,x2,x3,x4,x5,x6,x7]) (hk:∀ w',blk w' k=some [x0,v1,x2,x3,v4,x5,x6,x7]→Ch (·=k) w w'→K w') :
 Sv.st w ⟨k,1,none⟩ v1 fun w1=>Sv.st w1 ⟨k,4,none⟩ v4 fun w2=>K w2 :=
 st_blk h (by simp) fun w1 b1 c1 z1=>st_blk b1 (by simp) fun w2 b2 c2 z2=>hk w2 (by rw [b2]; rfl) (c1.trans' c2)
theorem mem_word {s:Bs} {a:Nat} (ha:a<s.length) (hl:∃ c,s[a]?=some c∧lt c=true):∀ x∈(s.drop a).take (wordP s a-a),x.toNat<128:=by
 have hlt:∀ c:UInt8,lt c=true→c.toNat<128:=fun c h=>by
  unfold lt at h
  simp only [Bool.or_eq_true,Bool.and_eq_true,decide_eq_true_eq] at h
  rcases h with (h | h) | rfl
  ·omega
  ·omega
  ·decide
 have key:∀ (l:Bs),∀ x∈l.take (wdN l),x.toNat<128:=by
  intro l
  induction l with
  | nil=>intro x hx; simp at hx
  | cons c l ih =>
   intro x hx
   have good:c.toNat<128→x∈(c::l).take (1+wdN l)→x.toNat<128:=fun hc hx=>by
    rw [Nat.add_comm,List.take_succ_cons] at hx
    rcases List.mem_cons.1 hx with rfl | hx
    ·exact hc
    ·exact ih x hx
   unfold wdN at hx
   split at hx
   ·rename_i h45
    split at hx
    ·simp at hx
    ·split at hx
     ·exact good (by rw [h45]; decide) hx
     ·simp at hx
   ·split at hx
    ·rename_i h
     refine good ?_ hx
     simp only [Bool.or_eq_true,decide_eq_true_eq] at h
     rcases h with (h | h) | rfl
     ·exact hlt c h
     ·unfold dg digitC at h
      simp only [Bool.and_eq_true,decide_eq_true_eq] at h; omega
     ·decide
    ·simp at hx
 obtain ⟨c,hc,hlc⟩:=hl
 intro x hx
 rw [drop_cons hc] at hx
 unfold wordP at hx
 rw [show a+1+wdN (s.drop (a+1))-a=wdN (s.drop (a+1))+1 by omega,List.take_succ_cons] at hx
 rcases List.mem_cons.1 hx with rfl | hx
 ·exact hlt x hlc
 ·exact key _ x hx
set_option maxHeartbeats 1000000 in
theorem pnext_ok {s:Bs} {pb:Nat} {p q:Ps} (hs:s.length≤2^40) (hq:nextP s p=some q) {w:World} (hp:PS s pb p w) {K:Value→World→Prop} (hk:∀ w',PS s pb q w'→Ch (·=pb) w w'→K (.tuple #[]) w') :
 callP Tryz.prog 58 [.pointer (some ⟨pb,0,none⟩)] w K:=by
 apply ok_sieve_parser_next
 have hb:=hp.1
 unfold pcl at hb
 simp only [nn,add_at,Nat.zero_add,Nat.reduceAdd,Nat.add_zero]
 refine ⟨_,cellP hb 7 rfl,?_⟩
 have hfe:((p.fe:Int) != 0)=!decide (p.fe=0):=by rw [bne,show ((p.fe:Int) == 0)=decide (p.fe=0) from natBeq p.fe 0]
 rw [hfe]
 unfold nextP at hq
 refine Sif_cases (fun h=>?_) (fun h=>?_)
 ·have h:p.fe≠0:=by simpa using h
  rw [if_pos h] at hq; cases hq
  exact hk w hp (Ch.refl _ _)
 have h:¬ p.fe≠0:=by simpa using h
 rw [if_neg h] at hq
 simp only at hq
 have hpb:=hp.2.2.1
 obtain ⟨A,hA⟩:∃ A,A=p.t.b+blkN (s.drop p.t.b):=⟨_,rfl⟩
 rw [← hA] at hq
 have hAle:A≤s.length:=by
  have:=blkN_le (s.drop p.t.b)
  rw [List.length_drop] at this; omega
 refine ⟨_,cellP hb 3 rfl,?_⟩
 refine ⟨fun m n w1=>∃ k:Nat,n=(k:Int)∧p.t.b≤k∧k≤s.length∧w1=w∧m=s.length-k∧A=k+blkN (s.drop k),⟨_,p.t.b,rfl,Nat.le_refl _,hpb,rfl,rfl,hA⟩,?_⟩
 rintro m n w1 ⟨k,rfl,hk1,hk2,rfl,rfl,he⟩
 -- the end
 have fin:A=s.length→∀ w',w'=w1→Sv.st w' ⟨pb,1,none⟩ (.int .i64 0) fun w3=>Sv.st w3 ⟨pb,2,none⟩ (.int .i64 (s.length:Int)) fun w4=>Sv.st w4 ⟨pb,3,none⟩ (.int .i64 (s.length:Int)) fun w5=>Sv.st w5 ⟨pb,4,none⟩ (.string ⟨#[]⟩) fun w6=>Sv.st w6 ⟨pb,5,none⟩ (.bool false) fun w7=>K (.tuple #[]) w7:=fun hAs w' hw'=>by
  subst hw'
  rw [List.drop_of_length_le (by omega)] at hq
  simp only at hq
  cases hq
  refine stT hb fun w4 b4 c4=>hk w4 ⟨?_,hAle,hAle,hp.2.2.2⟩ c4
  rw [b4,pcl_eq,hAs]; rfl
 refine ⟨fun w2=>w2=w1∧k<s.length∧A=k+1+blkN (s.drop (k+1)),?_,?_⟩
 ·rintro w2 ⟨rfl,hlt,h2⟩
  simp only [nameI]
  rw [wrap_id (by omega) (by omega)]
  exact ⟨_,by omega,k+1,by omega,by omega,by omega,by trivial,rfl,h2⟩
 refine ⟨_,cellP hb 0 rfl,?_⟩
 rw [sz3]
 refine Sif_cases (fun h=>?_) (fun h=>?_)
 ·have hlt:k<s.length:=by have:=of_decide_eq_true h; omega
  obtain ⟨x,hx⟩:∃ x,s[k]?=some x:=⟨s[k],List.getElem?_eq_getElem hlt⟩
  have hd:=drop_cons hx
  rw [hd] at he
  refine ⟨_,cellP hb 0 rfl,by omega,by rw [sz3]; omega,?_⟩
  rw [Int.toNat_natCast,get3 hx]
  refine (Tryz.strings_IndexByte _ _ _).mono ?_
  rintro e w2 ⟨rfl,rfl⟩
  refine ⟨_,rfl,_,rfl,?_⟩
  rw [blank_fact]
  refine Sif_cases (fun h=>?_) (fun h=>?_)
  ·refine ⟨by trivial,hlt,?_⟩
   unfold blkN at he
   rw [if_pos h] at he; omega
  -- a token begins
  have hAk:A=k:=by
   unfold blkN at he
   rw [if_neg (by rw [h]; decide)] at he; omega
  subst hAk
  rw [hd] at hq
  simp only at hq
  refine ⟨_,cellP hb 0 rfl,?_⟩
  rw [sz3,show ((A:Int) == (s.length:Int))=decide (A=s.length) from natBeq A s.length,decide_eq_false (by omega)]
  refine Sif_cases (fun h=>absurd h (by decide)) (fun _=>?_)
  refine ⟨_,cellP hb 0 rfl,by omega,by rw [sz3]; omega,?_⟩
  rw [get3 hx]
  simp only [nameI]
  have x39:((x.toNat:Int) == 39)=decide (x=39):=byteIs x 39 (by omega)
  have x34:((x.toNat:Int) == 34)=decide (x=34):=byteIs x 34 (by omega)
  rw [x39,x34]
  refine pdigit_ok ⟨_,rfl,?_⟩
  refine Sif_cases (fun hdg=>?_) (fun hdg=>?_)
  ·rw [if_pos hdg] at hq
   refine ⟨_,cellP hb 0 rfl,?_⟩
   cases hn:numP s A with
   | none=>rw [hn] at hq; cases hq
   | some t =>
    rw [hn] at hq; cases hq
    refine pnum_ok hAle hs hn fun w3 c3=>⟨_,_,_,_,_,rfl,?_⟩
    have hb3:=(c3.blk (blk_lt hb) id).trans hb
    have htb:t.a=A∧t.b≤s.length:=by
     unfold numP at hn
     simp only at hn
     split at hn
     ·cases hn
     ·cases hn; exact ⟨rfl,skipP_le hAle⟩
    refine stT hb3 fun w4 b4 c4=>hk w4 ⟨?_,by show t.a≤_; omega,htb.2,hp.2.2.2⟩ ((c3.mono fun _ _ h=>h.elim).trans' c4)
    rw [b4,pcl_eq]
  rw [if_neg (by rw [hdg]; decide)] at hq
  -- quotes
  have quo:(x=39∨x=34)→∃ J1:Int→World→Prop,(∀ n5 w4,J1 n5 w4→∃ s4,w4.cell? ⟨pb,0,none⟩=some (.string s4)∧callP Tryz.prog 108 [.string s4,.int .i64 (A:Int)] w4 fun v2 w5=>∃ s5 n6 b1,v2=.tuple (Array.mk [.string s5,.int .i64 n6,.bool b1])∧Sif (!b1) (callP Tryz.prog 60 [.pointer (some ⟨pb,0,none⟩),.int .i64 (A:Int),.int .i64 160] w5 fun v3 w6=>v3=.tuple (Array.mk [])∧K (.tuple (Array.mk [])) w6)
   (Sv.st w5 ⟨pb,1,none⟩ (.int .i64 n5) fun w6=>Sv.st w6 ⟨pb,2,none⟩ (.int .i64 (A:Int)) fun w7=>Sv.st w7 ⟨pb,3,none⟩ (.int .i64 n6) fun w8=>Sv.st w8 ⟨pb,4,none⟩ (.string s5) fun w9=>Sv.st w9 ⟨pb,5,none⟩ (.bool false) fun w10=>K (.tuple (Array.mk [])) w10))∧Sif (decide (x=34)) (J1 3 w2) (J1 2 w2):=fun hxq=>by
   rw [if_pos hxq] at hq
   refine ⟨fun n5 w4=>n5=(if x=34 then 3 else 2)∧w4=w2,?_,?_⟩
   ·rintro n5 w4 ⟨rfl,rfl⟩
    refine ⟨_,cellP hb 0 rfl,?_⟩
    refine pquotes_ok hx hs fun w5 c5=>?_
    have hp5:=hp.ch c5 id
    have hb5:=hp5.1
    unfold pcl at hb5
    cases hqq:quoP x (s.drop (A+1)) with
    | none =>
     rw [hqq] at hq
     simp only at hq
     cases hq
     refine ⟨_,_,_,rfl,Sif_cases (fun _=>?_) (fun h=>absurd h (by decide))⟩
     refine pfail_ok (e:=160) hAle (by decide) hp5 fun w6 p6 c6=>⟨rfl,?_⟩
     exact hk w6 p6 ((c5.mono fun _ _ h=>h.elim).trans' c6)
    | some z =>
     obtain ⟨y,n⟩:=z
     rw [hqq] at hq
     simp only at hq
     cases hq
     have hle:=quoP_le x _ _ (Nat.le_refl _) y n hqq
     rw [List.length_drop] at hle
     refine ⟨_,_,_,rfl,Sif_cases (fun h=>absurd h (by decide)) (fun _=>?_)⟩
     refine stT hb5 fun w6 b6 c6=>hk w6 ⟨?_,hAle,by show A+1+n≤_; omega,hp.2.2.2⟩ ((c5.mono fun _ _ h=>h.elim).trans' c6)
     rw [b6,pcl_eq]
     simp only
     by_cases h34:x=34
     ·rw [if_pos h34,if_pos h34]; rfl
     ·rw [if_neg h34,if_neg h34]; rfl
   ·refine Sif_cases (fun h=>⟨by rw [if_pos (of_decide_eq_true h)],rfl⟩) (fun h=>⟨by rw [if_neg (of_decide_eq_false h)],rfl⟩)
  refine Sif_cases (fun h39=>?_) (fun h39=>?_)
  ·have h39:¬ x=39:=by simpa using h39
   refine Sif_cases (fun h34=>?_) (fun h34=>?_)
   ·have:=quo (.inr (of_decide_eq_true h34))
    exact this
   have h34:=of_decide_eq_false h34
   rw [if_neg (by rintro (h | h); exact h39 h; exact h34 h)] at hq
   refine pletter_ok ⟨_,rfl,?_⟩
   refine Sif_cases (fun hlt2=>?_) (fun hlt2=>?_)
   ·rw [if_pos hlt2] at hq
    have hw:=wordP_le (s:=s) hlt
    refine ⟨_,cellP hb 0 rfl,?_⟩
    refine pwordEnd_ok hlt hs ⟨_,rfl,?_⟩
    refine ⟨_,cellP hb 0 rfl,by omega,by rw [sz3]; omega,by omega,by omega,?_⟩
    have hX:(ByteArray.mk s.toArray).extract A (Int.toNat (wordP s A:Int))=⟨((s.drop A).take (wordP s A-A)).toArray⟩:=data_ext (by rw [extract_data,Int.toNat_natCast,sl3,sl3])
    rw [hX]
    rw [← hd] at hq
    have h128:=mem_word hlt ⟨x,hx,hlt2⟩
    have hXl:((s.drop A).take (wordP s A-A)).length≤s.length:=by rw [List.length_take,List.length_drop]; omega
    generalize (s.drop A).take (wordP s A-A)=X at hq h128 hXl ⊢
    refine stT hb fun w4 b4 c4=>?_
    refine ⟨_,cellP b4 4 rfl,?_⟩
    split at hq
    ·cases hq
    rename_i hcap
    refine pkeyword_ok (by omega) h128 (by simpa using hcap) ⟨_,rfl,?_⟩
    have e0:(ByteArray.mk (Array.mk []))=ByteArray.mk ([]:Bs).toArray:=rfl
    rw [e0,seq3]
    refine Sif_cases (fun h=>?_) (fun h=>?_)
    ·have hne:keyP X≠[]:=by simpa using h
     rw [if_pos hne] at hq; cases hq
     refine stK b4 fun w5 b5 c5=>hk w5 ⟨?_,hAle,hw.2,hp.2.2.2⟩ (c4.trans' c5)
     rw [b5,pcl_eq]; rfl
    ·have hne:keyP X=[]:=by simpa using h
     rw [if_neg (by simp [hne])] at hq; cases hq
     refine hk w4 ⟨?_,hAle,hw.2,hp.2.2.2⟩ c4
     rw [b4,pcl_eq]; rfl
   ·rw [if_neg (by rw [hlt2]; decide)] at hq
    cases hq
    exact psign_ok hAle hs hp fun w3 p3 c3=>⟨rfl,hk w3 p3 c3⟩
  ·have h39:x=39:=by simpa using h39
   exact quo (.inl h39)
 ·have hge:k=s.length:=by have:=of_decide_eq_false h; omega
  have hAs:A=s.length:=by
   rw [List.drop_of_length_le (by omega)] at he
   have:blkN []=0:=rfl
   omega
  refine ⟨_,cellP hb 0 rfl,?_⟩
  rw [sz3,hge,show ((s.length:Int) == (s.length:Int))=true by simp]
  exact Sif_cases (fun _=>fin hAs _ rfl) (fun h=>absurd h (by decide))
theorem ptakes_ok {s m:Bs} {pb:Nat} {p:Ps} {r:Bool × Ps} (hs:s.length≤2^40) (hr:takesP s p m=some r) {w:World} (hp:PS s pb p w) {K:Value→World→Prop} (hk:∀ w',PS s pb r.2 w'→Ch (·=pb) w w'→K (.bool r.1) w') :
 callP Tryz.prog 161 [.pointer (some ⟨pb,0,none⟩),.string ⟨m.toArray⟩] w K:=by
 apply ok_sieve_parser_takes
 refine psees_ok hp ⟨_,rfl,?_⟩
 unfold takesP at hr
 refine Sif_cases (fun h=>?_) (fun h=>?_)
 ·have h:p.sees m=false:=by simpa using h
  rw [if_neg (by rw [h]; decide)] at hr; cases hr
  exact hk w hp (Ch.refl _ _)
 ·have h:p.sees m=true:=by simpa using h
  rw [if_pos h] at hr
  cases hn:nextP s p with
  | none=>rw [hn] at hr; cases hr
  | some q =>
   rw [hn] at hr; cases hr
   exact pnext_ok hs hn hp fun w' p' c'=>⟨rfl,hk w' p' c'⟩
theorem pmust_ok {s m:Bs} {pb:Nat} {p q:Ps} (hs:s.length≤2^40) (hr:mustP s p m=some q) {w:World} (hp:PS s pb p w) {K:Value→World→Prop} (hk:∀ w',PS s pb q w'→Ch (·=pb) w w'→K (.tuple #[]) w') :
 callP Tryz.prog 233 [.pointer (some ⟨pb,0,none⟩),.string ⟨m.toArray⟩] w K:=by
 apply ok_sieve_parser_must
 unfold mustP at hr
 cases ht:takesP s p m with
 | none=>rw [ht] at hr; cases hr
 | some r =>
  rw [ht] at hr; cases hr
  have hk:∀ w',PS s pb (if r.1=true then r.2 else r.2.fail r.2.t.a 160) w'→Ch (·=pb) w w'→K (.tuple #[]) w':=hk
  refine ptakes_ok hs ht hp fun w1 p1 c1=>⟨_,rfl,?_⟩
  simp only [nn,add_at,Nat.zero_add,Nat.reduceAdd]
  refine Sif_cases (fun h=>?_) (fun h=>?_)
  ·have h:r.1=false:=by simpa using h
   rw [if_neg (by rw [h]; decide)] at hk
   refine ⟨_,cellP p1.1 2 rfl,?_⟩
   exact pfail_ok (e:=160) p1.2.1 (by decide) p1 fun w2 p2 c2=>⟨rfl,hk w2 p2 (c1.trans' c2)⟩
  ·have h:r.1=true:=by simpa using h
   rw [if_pos h] at hk
   exact hk w1 p1 c1
end Go.Proofs.YtnmlmicmhpkbeaaGreatDoor
namespace Go.Proofs.YtnmlmicmhpkbeaaGreatDoor
open Go Go.Sv Go.Note
set_option linter.unusedVariables false
inductive TV where
 | mk (k:Int) (t:Bs) (v:MV) (s:SL) (l:List TV)
def TV.k:TV→Int | .mk k _ _ _ _=>k
def TV.t:TV→Bs | .mk _ t _ _ _=>t
def TV.x:TV→MV | .mk _ _ v _ _=>v
def TV.s:TV→SL | .mk _ _ _ s _=>s
def TV.l:TV→List TV | .mk _ _ _ _ l=>l
def TV.g:TV→List Value
 | .mk k t v s _=>[.int .i64 k,.string ⟨t.toArray⟩,.int .i64 v.k,.int .u64 (v.n:Int),.string ⟨v.t.toArray⟩,.slice v.s.p v.s.n v.s.c,.int .i64 v.e,.slice s.p s.n s.c]
def TV.v (x:TV):Value:=.agg x.g.toArray
mutual
def TV.m:TV→T
 | .mk k t v _ l=>.mk k t v.m (TV.mL l)
def TV.mL:List TV→List T
 | []=>[]
 | x::l=>TV.m x::TV.mL l
end
mutual
def TV.B:TV→List Nat
 | .mk _ _ v s l=>s.own.toList++(v.B++TV.BL l)
def TV.BL:List TV→List Nat
 | []=>[]
 | x::l=>TV.B x++TV.BL l
end
theorem TV.mL_map (l:List TV):TV.mL l=l.map TV.m:=by
 induction l with
 | nil=>rfl
 | cons x l ih=>simp [TV.mL,ih]
theorem TV.BL_flat (l:List TV):TV.BL l=l.flatMap TV.B:=by
 induction l with
 | nil=>rfl
 | cons x l ih=>simp [TV.BL,ih]
theorem TV.m_mk (k:Int) (t:Bs) (v:MV) (s:SL) (l:List TV):(TV.mk k t v s l).m=.mk k t v.m (l.map TV.m):=by rw [TV.m,TV.mL_map]
theorem TV.B_mk (k:Int) (t:Bs) (v:MV) (s:SL) (l:List TV):(TV.mk k t v s l).B=s.own.toList++(v.B++l.flatMap TV.B):=by rw [TV.B,TV.BL_flat]
theorem TV.glen (x:TV):x.g.length=8:=by cases x; rfl
theorem TV.gone (x:TV):∀ v∈x.g,oneV v=true:=by
 cases x
 intro v hv
 simp only [TV.g,List.mem_cons,List.not_mem_nil,or_false] at hv
 rcases hv with h | h | h | h | h | h | h | h<;>rw [h]<;>rfl
theorem TV.lt_of_mem {k:Int} {t:Bs} {v:MV} {s:SL} {l:List TV} {x:TV} (h:x∈l):SizeOf.sizeOf x<SizeOf.sizeOf (TV.mk k t v s l):=by
 have:=List.sizeOf_lt_of_mem h
 simp only [TV.mk.sizeOf_spec]; omega
theorem TV.ind {P:TV→Prop} (h:∀ k t v s l,(∀ x∈l,P x)→P (.mk k t v s l)):∀ m,P m
 | .mk k t v s l=>h k t v s l fun x hx=>TV.ind h x
termination_by m=>SizeOf.sizeOf m
decreasing_by exact TV.lt_of_mem hx
theorem tvv (x:TV):Value.agg (Array.mk [.int .i64 x.k,.string ⟨x.t.toArray⟩,.int .i64 x.x.k,.int .u64 (x.x.n:Int),.string ⟨x.x.t.toArray⟩,.slice x.x.s.p x.x.s.n x.x.s.c,.int .i64 x.x.e,.slice x.s.p x.s.n x.s.c])=x.v:=by cases x; rfl
inductive TR (Q:Nat→Prop) (w:World):TV→Prop where
 | mk {k:Int} {t:Bs} {v:MV} {s:SL} {l:List TV}:VR Q w v→l.length=s.n→s.n≤2^46→s.n≤s.c→Rd w s.p s.n 8 (l.flatMap TV.g)→(∀ a,s.p=some a→s.n*8≠0→Q a.block)→(∀ x∈l,TR Q w x)→TR Q w (.mk k t v s l)
theorem TR.ch {Q S:Nat→Prop} {w w':World} (hc:Ch S w w') (hn:∀ b,Q b→¬ S b):∀ x:TV,TR Q w x→TR Q w' x:=by
 refine TV.ind fun k t v s l ih=>?_
 intro h
 cases h with
 | mk h0 h1 h2 hc0 h3 h4 h5 =>
  exact .mk (VR.ch hc hn v h0) h1 h2 hc0 (h3.ch hc fun a ha h0=>hn _ (h4 a ha h0)) h4 fun x hx=>ih x hx (h5 x hx)
theorem TR.ch0 {Q:Nat→Prop} {w w':World} (hc:Ch (fun _=>False) w w') {x:TV} (h:TR Q w x):TR Q w' x:=TR.ch hc (fun _ _ h=>h) x h
theorem TR.mono {Q Q':Nat→Prop} {w:World} (hq:∀ b,Q b→Q' b):∀ x:TV,TR Q w x→TR Q' w x:=by
 refine TV.ind fun k t v s l ih=>?_
 intro h
 cases h with
 | mk h0 h1 h2 hc0 h3 h4 h5 =>
  exact .mk (VR.mono hq v h0) h1 h2 hc0 h3 (fun a ha h0=>hq _ (h4 a ha h0)) fun x hx=>ih x hx (h5 x hx)
theorem TR.inv {Q:Nat→Prop} {w:World} {x:TV} (h:TR Q w x):VR Q w x.x∧x.l.length=x.s.n∧x.s.n≤2^46∧Rd w x.s.p x.s.n 8 (x.l.flatMap TV.g)∧(∀ a,x.s.p=some a→x.s.n*8≠0→Q a.block)∧∀ y∈x.l,TR Q w y:=by
 cases h with
 | mk h0 h1 h2 hc0 h3 h4 h5=>exact ⟨h0,h1,h2,h3,h4,h5⟩
theorem TR.lt {Q:Nat→Prop} {w:World}:∀ x:TV,TR Q w x→TR (fun b=>Q b∧b<w.heap.size) w x:=by
 refine TV.ind fun k t v s l ih=>?_
 intro h
 cases h with
 | mk h0 h1 h2 hc0 h3 h4 h5 =>
  exact .mk (VR.lt v h0) h1 h2 hc0 h3 (fun a ha h0=>⟨h4 a ha h0,h3.lt a ha h0⟩) fun x hx=>ih x hx (h5 x hx)
theorem TR.cap {Q:Nat→Prop} {w:World} {x:TV} (h:TR Q w x):x.s.n≤x.s.c:=by
 cases h with
 | mk h0 h1 h2 hc0 h3 h4 h5=>exact hc0
def AtT (w:World) (b o:Nat) (x:TV):Prop:=∀ j v,x.g[j]?=some v→w.cell? ⟨b,o+j,none⟩=some v
theorem AtT.ch {S:Nat→Prop} {w w':World} {b o:Nat} {x:TV} (h:AtT w b o x) (hc:Ch S w w') (hn:¬ S b):AtT w' b o x:=fun j v hv=>by
 have h1:=h j v hv
 have hlt:b<w.heap.size:=by
  obtain ⟨cs,h2,_⟩:∃ cs,cellsAt w b=some cs∧cs[o+j]?=some v:=by
   unfold World.cell? at h1
   unfold cellsAt
   simp only at h1
   split at h1
   ·rename_i c t fz hh
    exact ⟨c.toList,by rw [hh],by simpa using h1⟩
   ·cases h1
  exact cells_lt h2
 have e:w'.cell? ⟨b,o+j,none⟩=w.cell? ⟨b,o+j,none⟩:=World.cell?_of_block (a:=⟨b,o+j,none⟩) (hc.keep b hlt hn)
 rw [e]; exact h1
theorem AtT.blk {w:World} {b:Nat} {x:TV} (h:blk w b=some x.g):AtT w b 0 x:=fun j v hv=>by rw [cell_blk h,Nat.zero_add]; exact hv
theorem TR.at {Q:Nat→Prop} {w:World} {x y:TV} (h:TR Q w x) {i:Nat} (hi:x.l[i]?=some y):∃ b o,x.s.p=some ⟨b,o,none⟩∧Q b∧AtT w b (o+i*8) y:=by
 obtain ⟨h0,h1,h2,h3,h4,h5⟩:=h.inv
 obtain ⟨b,o,hp,ha⟩:=h3.at TV.glen hi (by decide)
 have hil:i<x.l.length:=(List.getElem?_eq_some_iff.1 hi).1
 exact ⟨b,o,hp,h4 _ hp (by omega),ha⟩
theorem rd8 {w:World} {b o:Nat} {x:TV} {K:Int→ByteArray→Int→Int→ByteArray→Option Addr→Nat→Nat→Int→Option Addr→Nat→Nat→Prop} (h:AtT w b o x) (hk:K x.k ⟨x.t.toArray⟩ x.x.k (x.x.n:Int) ⟨x.x.t.toArray⟩ x.x.s.p x.x.s.n x.x.s.c x.x.e x.s.p x.s.n x.s.c) :
 ∃ n,w.cell? ⟨b,o+0,none⟩=some (.int .i64 n)∧∃ s,w.cell? ⟨b,o+1,none⟩=some (.string s)∧∃ n1,w.cell? ⟨b,o+2,none⟩=some (.int .i64 n1)∧∃ n2,w.cell? ⟨b,o+3,none⟩=some (.int .u64 n2)∧∃ s1,w.cell? ⟨b,o+4,none⟩=some (.string s1)∧∃ p n3 c,w.cell? ⟨b,o+5,none⟩=some (.slice p n3 c)∧∃ n4,w.cell? ⟨b,o+6,none⟩=some (.int .i64 n4)∧∃ p1 n5 c1,w.cell? ⟨b,o+7,none⟩=some (.slice p1 n5 c1)∧K n s n1 n2 s1 p n3 c n4 p1 n5 c1:=by
 cases x
 exact ⟨_,h 0 _ rfl,_,h 1 _ rfl,_,h 2 _ rfl,_,h 3 _ rfl,_,h 4 _ rfl,_,_,_,h 5 _ rfl,_,h 6 _ rfl,_,_,_,h 7 _ rfl,hk⟩
theorem AtT.k0 {w:World} {b o:Nat} {x:TV} (h:AtT w b o x):w.cell? ⟨b,o+0,none⟩=some (.int .i64 x.k):=by cases x; exact h 0 _ rfl
theorem AtT.t1 {w:World} {b o:Nat} {x:TV} (h:AtT w b o x):w.cell? ⟨b,o+1,none⟩=some (.string ⟨x.t.toArray⟩):=by cases x; exact h 1 _ rfl
theorem AtT.k2 {w:World} {b o:Nat} {x:TV} (h:AtT w b o x):w.cell? ⟨b,o+2,none⟩=some (.int .i64 x.x.k):=by cases x; exact h 2 _ rfl
theorem AtT.n3 {w:World} {b o:Nat} {x:TV} (h:AtT w b o x):w.cell? ⟨b,o+3,none⟩=some (.int .u64 (x.x.n:Int)):=by cases x; exact h 3 _ rfl
theorem AtT.t4 {w:World} {b o:Nat} {x:TV} (h:AtT w b o x):w.cell? ⟨b,o+4,none⟩=some (.string ⟨x.x.t.toArray⟩):=by cases x; exact h 4 _ rfl
theorem AtT.s5 {w:World} {b o:Nat} {x:TV} (h:AtT w b o x):w.cell? ⟨b,o+5,none⟩=some (.slice x.x.s.p x.x.s.n x.x.s.c):=by cases x; exact h 5 _ rfl
theorem AtT.e6 {w:World} {b o:Nat} {x:TV} (h:AtT w b o x):w.cell? ⟨b,o+6,none⟩=some (.int .i64 x.x.e):=by cases x; exact h 6 _ rfl
theorem AtT.s7 {w:World} {b o:Nat} {x:TV} (h:AtT w b o x):w.cell? ⟨b,o+7,none⟩=some (.slice x.s.p x.s.n x.s.c):=by cases x; exact h 7 _ rfl
theorem boxT {w:World} {x:TV} {t:TypeId} {K:Addr→World→Prop} (hk:∀ w',blk w' w.heap.size=some x.g→AtT w' w.heap.size 0 x→Ch (fun _=>False) w w'→w'.heap.size=w.heap.size+1→K ⟨w.heap.size,0,none⟩ w'):newB w x.g t K :=
 newB_blk fun w1 b1 c1 z1=>hk w1 b1 (AtT.blk b1) c1 (by omega)
inductive TO (w:World):TV→Prop where
 | mk {k:Int} {t:Bs} {v:MV} {s:SL} {l:List TV}:VO w v→l.length=s.n→s.n≤2^46→Ow w s.p s.n s.c 8 (l.flatMap TV.g) s.own→(∀ x∈l,TO w x)→(s.own.toList++(v.B++l.flatMap TV.B)).Nodup→TO w (.mk k t v s l)
theorem TO.inv {w:World} {x:TV} (h:TO w x):VO w x.x∧x.l.length=x.s.n∧x.s.n≤2^46∧Ow w x.s.p x.s.n x.s.c 8 (x.l.flatMap TV.g) x.s.own∧(∀ y∈x.l,TO w y)∧x.B.Nodup:=by
 cases h with
 | mk h0 h1 h2 h3 h4 h5=>exact ⟨h0,h1,h2,h3,h4,by rw [TV.B_mk]; exact h5⟩
theorem TO.ch {S:Nat→Prop} {w w':World} (hc:Ch S w w'):∀ x:TV,TO w x→(∀ b∈x.B,¬ S b)→TO w' x:=by
 refine TV.ind fun k t v s l ih=>?_
 intro h hn
 rw [TV.B_mk] at hn
 cases h with
 | mk h0 h1 h2 h3 h4 h5 =>
  refine .mk (VO.ch hc v h0 fun b hb=>hn b (by simp [hb])) h1 h2 (h3.ch hc fun b hb=>hn b (by simp [hb])) (fun x hx=>ih x hx (h4 x hx) fun b hb=>hn b ?_) h5
  exact List.mem_append.2 (.inr (List.mem_append.2 (.inr (List.mem_flatMap.2 ⟨x,hx,hb⟩))))
theorem TO.lt {w:World}:∀ x:TV,TO w x→∀ b∈x.B,b<w.heap.size:=by
 refine TV.ind fun k t v s l ih=>?_
 intro h b hb
 rw [TV.B_mk] at hb
 cases h with
 | mk h0 h1 h2 h3 h4 h5 =>
  rcases List.mem_append.1 hb with hb | hb
  ·exact h3.blt b (by simpa [Option.mem_toList] using hb)
  ·rcases List.mem_append.1 hb with hb | hb
   ·exact VO.lt v h0 b hb
   ·obtain ⟨x,hx,hb⟩:=List.mem_flatMap.1 hb
    exact ih x hx (h4 x hx) b hb
def TE:El TV where
 g:=TV.g
 sz:=8
 B:=TV.B
 Ok:=TO
 glen:=TV.glen
 gone:=TV.gone
 ch h hc hn:=TO.ch hc _ h hn
 lt h:=TO.lt _ h
 nd h:=h.inv.2.2.2.2.2
theorem TO.tr {w:World}:∀ x:TV,TO w x→∀ Q:Nat→Prop,(∀ b∈x.B,Q b)→TR Q w x:=by
 refine TV.ind fun k t v s l ih=>?_
 intro h Q hq
 rw [TV.B_mk] at hq
 cases h with
 | mk h0 h1 h2 h3 h4 h5 =>
  refine .mk (VO.vr v h0 Q fun b hb=>hq b (by simp [hb])) h1 h2 h3.2.1 h3.rd (fun a ha h0=>hq _ ?_) fun x hx=>ih x hx (h4 x hx) Q fun b hb=>hq b ?_
  ·have:=ow_block h3 a ha h0
   simp [this]
  ·exact List.mem_append.2 (.inr (List.mem_append.2 (.inr (List.mem_flatMap.2 ⟨x,hx,hb⟩))))
end Go.Proofs.YtnmlmicmhpkbeaaGreatDoor
namespace Go.Proofs
open Go.Shelf
def Tryz.laysC174_ren:Go.Shelf.Ren:=⟨fun | 174=>333 | 247=>339 | 245=>340 | 287=>343 | 279=>344 | 280=>345 | 281=>346 | 282=>347 | 321=>282 | 322=>349 | 316=>350 | 171=>338 | 205=>351 | 243=>342 | 246=>164 | 283=>200 | 284=>201 | 285=>202 | 286=>203 | 129=>237 | 317=>236 | 318=>238 | 319=>239 | 320=>240 | 337=>278 | 338=>279 | n=>n,fun | 9=>9 | 3=>3 | 2=>2 | 75=>154 | 85=>329 | 4=>4 | 167=>336 | 5=>5 | 53=>22 | 175=>337 | 46=>138 | 168=>339 | 37=>66 | 0=>0 | 210=>345 | 21=>21 | 127=>114 | 145=>352 | 143=>350 | 171=>210 | 173=>213 | 212=>243 | 51=>169 | 20=>20 | 213=>244 | 232=>251 | 233=>304 | 80=>73 | n=>n,fun | 15=>11 | 16=>12 | 17=>4 | 18=>7 | 19=>8 | n=>n⟩
theorem Tryz.laysC174:Go.Proofs.LaysC.n174 Tryz.prog Tryz.laysC174_ren:=by constructor<;>first|kernel_rfl|(intro w;kernel_rfl)|(constructor<;>first|kernel_rfl|(intro w;kernel_rfl)|(constructor<;>first|kernel_rfl|(intro w;kernel_rfl)))
open Go.RowKit in
theorem Tryz.strconv_ParseInt_10_at64_ok (s:ByteArray) (hmax:s.size≤9223372036854775806) (v:Int) (h:Lib.parseIntB 64 s.data.toList=.ok v) (w:World) :
 Calls Tryz.prog 333 #[.string s,.int .i64 10,.int .i64 64] w fun e w'=>e=.returned (.tuple #[.int .i64 v,.nilIface])∧(w'=w∨∃ t,w'=Lib.bytesWorld w 5 t):=Any.strconv_ParseInt_10_at64_ok Tryz.laysC174 s hmax v h w
end Go.Proofs
namespace Go.Proofs.YtnmlmicmhpkbeaaGreatDoor
open Go Go.Sv Go.Note
set_option linter.unusedVariables false
attribute [local irreducible] Sif
def zMV:MV:=.mk 0 0 [] ⟨none,0,0,none⟩ 0 []
def flatM (k:Int) (n:Nat) (t:Bs):MV:=.mk k n t ⟨none,0,0,none⟩ 0 []
theorem flatM_m (k:Int) (n:Nat) (t:Bs):(flatM k n t).m=.mk k n t 0 []:=by unfold flatM; rw [MV.m_mk]; rfl
theorem flatM_B (k:Int) (n:Nat) (t:Bs):(flatM k n t).B=[]:=by unfold flatM; rw [MV.B_mk]; rfl
theorem flatM_ok (w:World) (k:Int) (n:Nat) (t:Bs):VO w (flatM k n t):=VO.none
theorem zMV_m:zMV.m=zeroM:=by unfold zMV; rw [MV.m_mk]; rfl
theorem zMV_B:zMV.B=[]:=by unfold zMV; rw [MV.B_mk]; rfl
theorem zMV_ok (w:World):VO w zMV:=VO.none
theorem st8 {w:World} {k:Nat} {zs:List Value} {x:TV} {K:World→Prop} (h:blk w k=some zs) (hl:zs.length=8) (hk:∀ w',blk w' k=some x.g→Ch (·=k) w w'→w'.heap.size=w.heap.size→K w') :
 Sv.st w ⟨k,0,none⟩ (.int .i64 x.k) fun w1=>Sv.st w1 ⟨k,1,none⟩ (.string ⟨x.t.toArray⟩) fun w2=>Sv.st w2 ⟨k,2,none⟩ (.int .i64 x.x.k) fun w3=>Sv.st w3 ⟨k,3,none⟩ (.int .u64 (x.x.n:Int)) fun w4=>Sv.st w4 ⟨k,4,none⟩ (.string ⟨x.x.t.toArray⟩) fun w5=>Sv.st w5 ⟨k,5,none⟩ (.slice x.x.s.p x.x.s.n x.x.s.c) fun w6=>Sv.st w6 ⟨k,6,none⟩ (.int .i64 x.x.e) fun w7=>Sv.st w7 ⟨k,7,none⟩ (.slice x.s.p x.s.n x.s.c) fun w8=>K w8:=by
 obtain ⟨k1,t,v,s,l⟩:=x
 exact st_all [.int .i64 k1,.string ⟨t.toArray⟩,.int .i64 v.k,.int .u64 (v.n:Int),.string ⟨v.t.toArray⟩,.slice v.s.p v.s.n v.s.c,.int .i64 v.e,.slice s.p s.n s.c] 0 (K:=K) h (by rw [hl]; simp) fun w' b c z=>hk w' (by
  rw [b,putSeg,List.drop_of_length_le (by simp; omega)]; simp [TV.g]) c z
theorem ld8 {w:World} {k:Nat} {x:TV} {K:Int→ByteArray→Int→Int→ByteArray→Option Addr→Nat→Nat→Int→Option Addr→Nat→Nat→Prop} (h:blk w k=some x.g) (hk:K x.k ⟨x.t.toArray⟩ x.x.k (x.x.n:Int) ⟨x.x.t.toArray⟩ x.x.s.p x.x.s.n x.x.s.c x.x.e x.s.p x.s.n x.s.c) :
 ∃ n,w.cell? ⟨k,0,none⟩=some (.int .i64 n)∧∃ s,w.cell? ⟨k,1,none⟩=some (.string s)∧∃ n1,w.cell? ⟨k,2,none⟩=some (.int .i64 n1)∧∃ n2,w.cell? ⟨k,3,none⟩=some (.int .u64 n2)∧∃ s1,w.cell? ⟨k,4,none⟩=some (.string s1)∧∃ p n3 c,w.cell? ⟨k,5,none⟩=some (.slice p n3 c)∧∃ n4,w.cell? ⟨k,6,none⟩=some (.int .i64 n4)∧∃ p1 n5 c1,w.cell? ⟨k,7,none⟩=some (.slice p1 n5 c1)∧K n s n1 n2 s1 p n3 c n4 p1 n5 c1:=by
 cases x
 exact ⟨_,cellP h 0 rfl,_,cellP h 1 rfl,_,cellP h 2 rfl,_,cellP h 3 rfl,_,cellP h 4 rfl,_,_,_,cellP h 5 rfl,_,cellP h 6 rfl,_,_,_,cellP h 7 rfl,hk⟩
theorem isT {x:TV} {K:Int→ByteArray→Int→Int→ByteArray→Option Addr→Nat→Nat→Int→Option Addr→Nat→Nat→Prop} (hk:K x.k ⟨x.t.toArray⟩ x.x.k (x.x.n:Int) ⟨x.x.t.toArray⟩ x.x.s.p x.x.s.n x.x.s.c x.x.e x.s.p x.s.n x.s.c) :
 ∃ n s n1 n2 s1 p n3 c n4 p1 n5 c1,x.v=.agg (Array.mk [.int .i64 n,.string s,.int .i64 n1,.int .u64 n2,.string s1,.slice p n3 c,.int .i64 n4,.slice p1 n5 c1])∧K n s n1 n2 s1 p n3 c n4 p1 n5 c1:=⟨_,_,_,_,_,_,_,_,_,_,_,_,(tvv x).symm,hk⟩
theorem fin8 {w:World} {k:Nat} {zs:List Value} {x:TV} {K:Value→World→Prop} (h:blk w k=some zs) (hl:zs.length=8) (hk:∀ w',blk w' k=some x.g→Ch (·=k) w w'→w'.heap.size=w.heap.size→K x.v w') :
 Sv.st w ⟨k,0,none⟩ (.int .i64 x.k) fun w1=>Sv.st w1 ⟨k,1,none⟩ (.string ⟨x.t.toArray⟩) fun w2=>Sv.st w2 ⟨k,2,none⟩ (.int .i64 x.x.k) fun w3=>Sv.st w3 ⟨k,3,none⟩ (.int .u64 (x.x.n:Int)) fun w4=>Sv.st w4 ⟨k,4,none⟩ (.string ⟨x.x.t.toArray⟩) fun w5=>Sv.st w5 ⟨k,5,none⟩ (.slice x.x.s.p x.x.s.n x.x.s.c) fun w6=>Sv.st w6 ⟨k,6,none⟩ (.int .i64 x.x.e) fun w7=>Sv.st w7 ⟨k,7,none⟩ (.slice x.s.p x.s.n x.s.c) fun w =>
 ∃ n,w.cell? ⟨k,0,none⟩=some (.int .i64 n)∧∃ s,w.cell? ⟨k,1,none⟩=some (.string s)∧∃ n1,w.cell? ⟨k,2,none⟩=some (.int .i64 n1)∧∃ n2,w.cell? ⟨k,3,none⟩=some (.int .u64 n2)∧∃ s1,w.cell? ⟨k,4,none⟩=some (.string s1)∧∃ p n3 c,w.cell? ⟨k,5,none⟩=some (.slice p n3 c)∧∃ n4,w.cell? ⟨k,6,none⟩=some (.int .i64 n4)∧∃ p1 n5 c1,w.cell? ⟨k,7,none⟩=some (.slice p1 n5 c1) ∧
  K (.agg (Array.mk [.int .i64 n,.string s,.int .i64 n1,.int .u64 n2,.string s1,.slice p n3 c,.int .i64 n4,.slice p1 n5 c1])) w :=
 st8 h hl fun w' b c z=>ld8 (x:=x) b (by rw [tvv]; exact hk w' b c z)
theorem pterm_ok {k:Int} {s:SL} (l:List TV) {w:World} {K:Value→World→Prop} (hk:∀ w',Ch (fun _=>False) w w'→K (TV.mk k [] zMV s l).v w'):callP Tryz.prog 162 [.int .i64 k,.slice s.p s.n s.c] w K:=by
 apply ok_sieve_term
 refine newB_blk fun w1 b1 c1 z1=>?_
 simp only [add_at,Nat.zero_add]
 refine fin8 (x:=.mk k [] zMV s l) b1 rfl fun w2 b2 c2 z2=>hk w2 (c1.trans c2 fun x hx h=>by omega)
theorem TO.row {w:World} {k:Int} {p:Option Addr} {n c:Nat} {own:Option Nat} {R:List TV} (h:TE.Row w p n c own R) (hn:n≤2^46):TO w (.mk k [] zMV ⟨p,n,c,own⟩ R):=by
 obtain ⟨h1,h2,h3,h4⟩:=h
 refine .mk (zMV_ok w) h1 hn h2 h3 ?_
 rw [zMV_B]; exact h4
theorem row_B {k:Int} {p:Option Addr} {n c:Nat} {own:Option Nat} {R:List TV}:(TV.mk k [] zMV ⟨p,n,c,own⟩ R).B=TE.rowB own R:=by
 rw [TV.B_mk,zMV_B]; rfl
theorem row_one {w:World} {k:Nat} {x:TV} (hb:blk w k=some x.g) (hx:TO w x) (hk:k ∉ x.B):TE.Row w (some ⟨k,0,none⟩) 1 1 (some k) [x]:=by
 refine ⟨rfl,⟨by simp [TE,TV.glen],Nat.le_refl _,.inr ⟨k,0,x.g,rfl,rfl,hb,by rw [TV.glen]; simp [TE],by simp [TE,TV.glen]; exact List.take_of_length_le (by rw [TV.glen]; decide)⟩⟩,by simpa [TE] using hx,?_⟩
 unfold El.rowB
 simp only [Option.toList_some,List.flatMap_cons,List.flatMap_nil,List.append_nil,List.singleton_append,List.nodup_cons]
 exact ⟨hk,hx.inv.2.2.2.2.2⟩
theorem row_two {w:World} {k:Nat} {x y:TV} (hb:blk w k=some (x.g++y.g)) (hx:TO w x) (hy:TO w y) (hkx:k ∉ x.B) (hky:k ∉ y.B) (hd:∀ b∈x.B,b ∉ y.B):TE.Row w (some ⟨k,0,none⟩) 2 2 (some k) [x,y]:=by
 refine ⟨rfl,⟨by simp [TE,TV.glen],Nat.le_refl _,.inr ⟨k,0,x.g++y.g,rfl,rfl,hb,by rw [List.length_append,TV.glen,TV.glen]; simp [TE],by simp [TE,TV.glen]; exact List.take_of_length_le (by rw [List.length_append,TV.glen,TV.glen]; decide)⟩⟩,fun z hz=>?_,?_⟩
 ·simp only [List.mem_cons,List.not_mem_nil,or_false] at hz
  rcases hz with rfl | rfl
  ·exact hx
  ·exact hy
 ·unfold El.rowB
  simp only [Option.toList_some,List.flatMap_cons,List.flatMap_nil,List.append_nil,List.singleton_append,List.nodup_cons,List.mem_append]
  refine ⟨fun h=>h.elim hkx hky,List.nodup_append.2 ⟨hx.inv.2.2.2.2.2,hy.inv.2.2.2.2.2,fun a ha b hb he=>hd a ha (he▸hb)⟩⟩
def PR (s:Bs) (pb:Nat) (w:World) (r:T × Ps) (K:Value→World→Prop):Prop :=
 ∀ (x:TV) (w':World),TO w' x→x.m=r.1→(∀ b∈x.B,w.heap.size≤b)→PS s pb r.2 w'→Ch (·=pb) w w'→K x.v w'
theorem pbinary_ok {m:Bs} {w:World} {K:Value→World→Prop} (hk:K (.tuple #[.int .i64 ((binP m).1:Int),.int .i64 ((binP m).2:Int)]) w):callP Tryz.prog 230 [.string ⟨m.toArray⟩] w K:=by
 apply ok_sieve_binary
 have e:∀ q:Bs,((ByteArray.mk m.toArray).toList == (ByteArray.mk (Array.mk q)).toList)=decide (m=q):=fun q=>seq3 m q
 simp only [e]
 unfold binP at hk
 refine Sif_cases (fun h=>by rw [if_pos (of_decide_eq_true h)] at hk; exact hk) (fun h=>?_); rw [if_neg (of_decide_eq_false h)] at hk
 refine Sif_cases (fun h=>by rw [if_pos (of_decide_eq_true h)] at hk; exact hk) (fun h=>?_); rw [if_neg (of_decide_eq_false h)] at hk
 refine Sif_cases (fun h=>by rw [if_pos (of_decide_eq_true h)] at hk; exact hk) (fun h=>?_); rw [if_neg (of_decide_eq_false h)] at hk
 refine Sif_cases (fun h=>by rw [if_pos (of_decide_eq_true h)] at hk; exact hk) (fun h=>?_); rw [if_neg (of_decide_eq_false h)] at hk
 refine Sif_cases (fun h=>by rw [if_pos (of_decide_eq_true h)] at hk; exact hk) (fun h=>?_); rw [if_neg (of_decide_eq_false h)] at hk
 refine Sif_cases (fun h=>by rw [if_pos (of_decide_eq_true h)] at hk; exact hk) (fun h=>?_); rw [if_neg (of_decide_eq_false h)] at hk
 refine Sif_cases (fun h=>by rw [if_pos (of_decide_eq_true h)] at hk; exact hk) (fun h=>?_); rw [if_neg (of_decide_eq_false h)] at hk
 refine Sif_cases (fun h=>by rw [if_pos (of_decide_eq_true h)] at hk; exact hk) (fun h=>?_); rw [if_neg (of_decide_eq_false h)] at hk
 refine Sif_cases (fun h=>by rw [if_pos (of_decide_eq_true h)] at hk; exact hk) (fun h=>?_); rw [if_neg (of_decide_eq_false h)] at hk
 refine Sif_cases (fun h=>by rw [if_pos (of_decide_eq_true h)] at hk; exact hk) (fun h=>?_); rw [if_neg (of_decide_eq_false h)] at hk
 exact hk
theorem preads_ok {t:Tk} {v:Int} (hf:t.f=false) (ht:t.t.length≤2^40) (hv:Lib.parseIntB 64 t.t=.ok v) (h0:0≤v) (h1:v<9223372036854775808) {w:World} {K:Value→World→Prop}
 (hk:∀ w',Ch (fun _=>False) w w'→K (.tuple #[(flatM 9 v.toNat []).v,.bool true]) w'):callP Tryz.prog 319 [tkv t,.bool false] w K:=by
 apply ok_sieve_reads
 refine newB_blk fun w1 b1 c1 z1=>?_
 refine newB_blk fun w2 b2 c2 z2=>?_
 have b1':=(c2.blk (blk_lt b1) id).trans b1
 have c02:=c1.trans' c2
 simp only [add_at,Nat.zero_add]
 refine ⟨fun x w3=>x=ByteArray.mk (Array.mk [])∧w3=w2,?_,Sif_cases (fun h=>absurd h (by decide)) (fun _=>⟨by trivial,by trivial⟩)⟩
 rintro x w3 ⟨rfl,rfl⟩
 refine ⟨_,cellP b1' 4 rfl,?_⟩
 rw [hf]
 refine Sif_cases (fun h=>absurd h (by decide)) (fun _=>?_)
 have hx:(ByteArray.mk (Array.mk [])++ByteArray.mk t.t.toArray)=ByteArray.mk t.t.toArray:=data_ext (by simp)
 refine ⟨_,cellP b1' 3 rfl,by rw [sz3]; show ((0+t.t.length:Nat):Int)≤_; omega,?_⟩
 rw [hx]
 refine (Tryz.strconv_ParseInt_10_at64_ok _ (by rw [sz3]; omega) v (by rw [sl3]; exact hv) w3).mono ?_
 rintro e w4 ⟨rfl,hw⟩
 have c4:Ch (fun _=>False) w3 w4:=by
  rcases hw with rfl | ⟨t',rfl⟩
  ·exact Ch.refl _ _
  ·exact ch_of_below (Lib.bytesWorld_below ..)
 have hwr:IntKind.wrap .u64 v=v:=by
  unfold IntKind.wrap
  simp [IntKind.bits,IntKind.signed]; omega
 refine ⟨_,rfl,_,_,rfl,rfl,?_⟩
 rw [hwr]
 have c4':=c4.trans' (Ch.drew w4)
 have b2':=(c4'.blk (blk_lt b2) id).trans b2
 have hvv:v=((v.toNat:Nat):Int):=by omega
 rw [hvv]
 refine st5 (x:=flatM 9 v.toNat []) b2' rfl fun w5 b5 c5 z5=>?_
 refine ⟨_,cellP b5 0 rfl,_,cellP b5 1 rfl,_,cellP b5 2 rfl,_,_,_,cellP b5 3 rfl,_,cellP b5 4 rfl,?_⟩
 have:=hk w5 ((c02.trans' c4').trans c5 fun x hx h=>by have:=c1.size; omega)
 exact this
end Go.Proofs.YtnmlmicmhpkbeaaGreatDoor
namespace Go.Proofs.YtnmlmicmhpkbeaaGreatDoor
open Go Go.Sv Go.Note
set_option linter.unusedVariables false
attribute [local irreducible] Sif
def litT (v:MV):TV:=.mk 1 [] v ⟨none,0,0,none⟩ []
theorem litT_m (v:MV):(litT v).m=.mk 1 [] v.m []:=by unfold litT; rw [TV.m_mk]; rfl
theorem st8v {w:World} {k:Nat} {v0 v:MV} {K:World→Prop} (h:blk w k=some (litT v0).g) (hk:∀ w',blk w' k=some (litT v).g→Ch (·=k) w w'→w'.heap.size=w.heap.size→K w') :
 Sv.st w ⟨k,2,none⟩ (.int .i64 v.k) fun w3=>Sv.st w3 ⟨k,3,none⟩ (.int .u64 (v.n:Int)) fun w4=>Sv.st w4 ⟨k,4,none⟩ (.string ⟨v.t.toArray⟩) fun w5=>Sv.st w5 ⟨k,5,none⟩ (.slice v.s.p v.s.n v.s.c) fun w6=>Sv.st w6 ⟨k,6,none⟩ (.int .i64 v.e) fun w7=>K w7 :=
 st_all [.int .i64 v.k,.int .u64 (v.n:Int),.string ⟨v.t.toArray⟩,.slice v.s.p v.s.n v.s.c,.int .i64 v.e] 2 (K:=K) h (by simp [litT,TV.g]) fun w' b c z=>hk w' (by rw [b]; rfl) c z
theorem pliteral_ok {s:Bs} {pb:Nat} {p:Ps} {r:T × Ps} (hs:s.length≤2^40) (htl:p.t.t.length≤2^40) (htf:p.t.f=false) (hr:litP s p=some r) {w:World} (hL:LW w) (hpb:18≤pb) (hp:PS s pb p w) {K:Value→World→Prop} (hk:PR s pb w r K) :
 callP Tryz.prog 276 [.pointer (some ⟨pb,0,none⟩),.bool false] w K:=by
 apply ok_sieve_parser_literal
 refine newB_blk fun w1 b1 c1 z1=>newB_blk fun w2 b2 c2 z2=>?_
 have b1':=(c2.blk (blk_lt b1) id).trans b1
 have hpl:=hp.lt
 simp only [nn,add_at,Nat.zero_add,Nat.reduceAdd,Nat.add_zero]
 refine st8 (x:=litT zMV) b2 rfl fun w3 b3 c3 z3=>?_
 have c03:Ch (fun _=>False) w w3:=(c1.trans' c2).trans c3 fun x hx h=>by omega
 have b13:=(c3.blk (by omega) (by omega)).trans b1'
 have hp3:=hp.ch c03 id
 have hb3:=hp3.1
 unfold pcl at hb3
 refine ⟨_,cellP hb3 2 rfl,?_⟩
 have hL':∀ w',Ch (fun x=>x=pb∨w.heap.size≤x) w w'→LW w':=fun w' c=>hL.ch c fun b hb h=>by
  have:=hL.size; omega
 refine ⟨fun b w11=>∃ (kk:Int) (m:Nat) (tt:Bs) (q:Ps),blk w11 w1.heap.size=some (litT (flatM kk m tt)).g∧PS s pb q w11∧Ch (fun x=>x=pb∨x=w1.heap.size) w3 w11∧(nextP s (if b then q else q.fail p.t.a 161)).map (fun r=>(T.mk 1 [] (.mk kk m tt 0 []) [],r))=some r,?_,?_⟩
 ·rintro b w11 ⟨kk,m,tt,q,b11,p11,c11,hn⟩
  cases hnx:nextP s (if b then q else q.fail p.t.a 161) with
  | none=>rw [hnx] at hn; cases hn
  | some q2 =>
   rw [hnx] at hn; cases hn
   refine ⟨fun w12=>blk w12 w1.heap.size=some (litT (flatM kk m tt)).g∧PS s pb (if b then q else q.fail p.t.a 161) w12∧Ch (fun x=>x=pb∨x=w1.heap.size) w3 w12,?_,?_⟩
   ·rintro w12 ⟨b12,p12,c12⟩
    refine pnext_ok hs hnx p12 fun w13 p13 c13=>⟨rfl,?_⟩
    have b13':=(c13.blk (blk_lt b12) (by omega)).trans b12
    refine ld8 (x:=litT (flatM kk m tt)) b13' ?_
    have bb:blk w13 w.heap.size=some _:=(c13.blk (by have:=c12.size; omega) (by omega)).trans ((c12.blk (by omega) (by omega)).trans b13)
    refine fin8 (x:=litT (flatM kk m tt)) bb rfl fun w14 b14 c14 z14=>?_
    refine hk (litT (flatM kk m tt)) w14 ?_ (by rw [litT_m,flatM_m]) (fun x hx=>?_) (p13.ch c14 (by omega)) ?_
    ·exact .mk (flatM_ok _ _ _ _) rfl (by decide) Ow.nil (by simp) (by simp [flatM_B])
    ·unfold litT at hx
     rw [TV.B_mk,flatM_B] at hx; simp at hx
    ·have c0:Ch (fun x=>x=pb∨w.heap.size≤x) w w14:=(((c03.mono fun _ _ h=>h.elim).trans' (c12.mono fun x hx h=>by omega)).trans' (c13.mono fun x hx h=>.inl h)).trans' (c14.mono fun x hx h=>.inr (by omega))
     exact ⟨c0.os,c0.tape,c0.output,c0.size,fun b hb hn=>c0.keep b hb (by omega)⟩
   ·refine Sif_cases (fun h=>?_) (fun h=>?_)
    ·have h:b=false:=by simpa using h
     subst h
     refine pfail_ok (e:=161) hp.2.1 (by decide) p11 fun w12 p12 c12=>⟨rfl,(c12.blk (blk_lt b11) (by omega)).trans b11,p12,c11.trans' (c12.mono fun x hx h=>.inl h)⟩
    ·have h:b=true:=by simpa using h
     subst h
     exact ⟨b11,p11,c11⟩
 ·unfold litP at hr
  simp only at hr
  refine ⟨_,cellP hb3 1 rfl,?_⟩
  rw [show ((p.t.k:Int) == 1)=decide (p.t.k=1) from natBeq p.t.k 1]
  refine Sif_cases (fun h=>?_) (fun h=>?_)
  ·rw [if_pos (of_decide_eq_true h)] at hr
   split at hr
   ·rename_i v hv
    split at hr
    ·rename_i hv2
     refine ⟨_,cellP hb3 1 rfl,_,cellP hb3 2 rfl,_,cellP hb3 3 rfl,_,cellP hb3 4 rfl,_,cellP hb3 5 rfl,?_⟩
     refine preads_ok (t:=p.t) htf htl hv hv2.1 hv2.2 fun w4 c4=>⟨_,_,_,_,_,_,_,_,rfl,?_⟩
     have b4:=(c4.blk (blk_lt b3) id).trans b3
     refine st8v (v:=flatM 9 v.toNat []) b4 fun w5 b5 c5 z5=>⟨9,v.toNat,[],p,b5,(hp3.ch c4 id).ch c5 (by omega),(c4.mono fun _ _ h=>h.elim).trans' (c5.mono fun x hx h=>.inr h),hr⟩
    ·cases hr
   ·cases hr
  have h1:=of_decide_eq_false h
  rw [if_neg h1] at hr
  refine ⟨_,cellP hb3 1 rfl,?_⟩
  rw [show ((p.t.k:Int) == 2)=decide (p.t.k=2) from natBeq p.t.k 2]
  refine Sif_cases (fun h=>?_) (fun h=>?_)
  ·rw [if_pos (of_decide_eq_true h)] at hr
   refine ⟨_,by show _=_; rw [World.cell?_drew]; exact cellP hb3 4 rfl,_,by show _=_; rw [World.cell?_drew]; exact cellP hb3 4 rfl,?_⟩
   have hL3:=(hL' _ ((c03.mono fun _ _ h=>h.elim).trans' (Ch.drew _)))
   refine oUtf8_ok (by rw [sz3]; omega) hL3.ut hL3.size fun x w4 c4 hpl2=>⟨_,rfl,?_⟩
   have c34:=(Ch.drew w3).trans' c4
   have b4:=(c34.blk (blk_lt b3) id).trans b3
   have hb4:=(hp3.ch c34 id).1
   unfold pcl at hb4
   refine ⟨⟨_,cellP hb4 4 rfl,rfl⟩,?_⟩
   refine st8v (v:=flatM 19 0 p.t.t) b4 fun w5 b5 c5 z5=>⟨19,0,p.t.t,p,b5,(hp3.ch c34 id).ch c5 (by omega),(c34.mono fun _ _ h=>h.elim).trans' (c5.mono fun x hx h=>.inr h),?_⟩
   have:decide (x<0)=textB p.t.t:=by
    rw [sl3] at hpl2
    cases ht:textB p.t.t with
    | true=>rw [hpl2.1 ht]; rfl
    | false=>have:=hpl2.2 ht; exact decide_eq_false (by omega)
   rw [this]; exact hr
  have h2:=of_decide_eq_false h
  rw [if_neg h2] at hr
  refine psees_ok (m:=[116,114,117,101]) hp3 ⟨_,rfl,?_⟩
  refine Sif_cases (fun h=>?_) (fun h=>?_)
  ·rw [if_pos h] at hr
   refine st8v (v:=flatM 1 1 []) b3 fun w5 b5 c5 z5=>⟨1,1,[],p,b5,hp3.ch c5 (by omega),c5.mono fun x hx h=>.inr h,hr⟩
  rw [if_neg (by rw [h]; decide)] at hr
  refine psees_ok (m:=[102,97,108,115,101]) hp3 ⟨_,rfl,?_⟩
  refine Sif_cases (fun h=>?_) (fun h=>?_)
  ·rw [if_pos h] at hr
   refine st8v (v:=flatM 1 0 []) b3 fun w5 b5 c5 z5=>⟨1,0,[],p,b5,hp3.ch c5 (by omega),c5.mono fun x hx h=>.inr h,hr⟩
  rw [if_neg (by rw [h]; decide)] at hr
  refine pfail_ok (e:=160) hp.2.1 (by decide) hp3 fun w5 p5 c5=>⟨rfl,0,0,[],_,(c5.blk (blk_lt b3) (by omega)).trans b3,p5,c5.mono fun x hx h=>.inl h,hr⟩
end Go.Proofs.YtnmlmicmhpkbeaaGreatDoor
namespace Go.Proofs.YtnmlmicmhpkbeaaGreatDoor
open Go Go.Sv Go.Note
set_option linter.unusedVariables false
attribute [local irreducible] Sif
def PG (s:Bs) (pb:Nat) (p:Ps) (w:World):Prop:=PS s pb p w∧p.t.f=false∧p.t.t.length≤s.length
theorem PG.ch {s:Bs} {pb:Nat} {p:Ps} {w w':World} (h:PG s pb p w) {Q:Nat→Prop} (c:Ch Q w w') (hn:¬ Q pb):PG s pb p w':=⟨h.1.ch c hn,h.2⟩
theorem fail_good {s:Bs} {p:Ps} (h:p.t.f=false∧p.t.t.length≤s.length) (a e:Nat):(p.fail a e).t.f=false∧(p.fail a e).t.t.length≤s.length:=by
 unfold Ps.fail
 split
 ·exact ⟨rfl,Nat.zero_le _⟩
 ·exact h
theorem next_good {s:Bs} {p q:Ps} (hq:nextP s p=some q) (h:p.t.f=false∧p.t.t.length≤s.length):q.t.f=false∧q.t.t.length≤s.length:=by
 unfold nextP at hq
 split at hq
 ·cases hq; exact h
 simp only at hq
 generalize p.t.b+blkN (s.drop p.t.b)=A at hq
 split at hq
 ·cases hq; exact ⟨rfl,Nat.zero_le _⟩
 rename_i c l hd
 have hlen:(c::l).length≤s.length:=by rw [← hd,List.length_drop]; omega
 simp only [List.length_cons] at hlen
 split at hq
 ·cases hn:numP s A with
  | none=>rw [hn] at hq; cases hq
  | some t =>
   rw [hn] at hq; cases hq
   unfold numP at hn
   simp only at hn
   split at hn
   ·cases hn
   ·cases hn
    refine ⟨rfl,?_⟩
    show ((s.drop A).take _).length≤_
    rw [List.length_take,List.length_drop]; omega
 split at hq
 ·cases hqq:quoP c l with
  | none=>rw [hqq] at hq; cases hq; exact fail_good h _ _
  | some z =>
   rw [hqq] at hq; cases hq
   have:=(quoP_le c _ l (Nat.le_refl _) z.1 z.2 hqq).2
   exact ⟨rfl,by show z.1.length≤_; omega⟩
 split at hq
 ·have hX:((s.drop A).take (wordP s A-A)).length≤s.length:=by rw [List.length_take,List.length_drop]; omega
  generalize (s.drop A).take (wordP s A-A)=X at hq hX
  split at hq
  ·cases hq
  split at hq
  ·cases hq
   refine ⟨rfl,?_⟩
   show (keyP X).length≤_
   unfold keyP; split
   ·exact hX
   ·exact Nat.zero_le _
  ·cases hq; exact ⟨rfl,hX⟩
 ·cases hq
  unfold signP
  split
  ·rename_i x hf
   refine ⟨rfl,?_⟩
   have:=List.find?_some hf
   have:=(List.isPrefixOf_iff_prefix.1 this).length_le
   rw [List.length_drop] at this
   show x.length≤_; omega
  ·exact fail_good h _ _
theorem gnext_ok {s:Bs} {pb:Nat} {p q:Ps} (hs:s.length≤2^40) (hq:nextP s p=some q) {w:World} (hp:PG s pb p w) {K:Value→World→Prop} (hk:∀ w',PG s pb q w'→Ch (·=pb) w w'→K (.tuple #[]) w') :
 callP Tryz.prog 58 [.pointer (some ⟨pb,0,none⟩)] w K:=pnext_ok hs hq hp.1 fun w' p' c'=>hk w' ⟨p',next_good hq hp.2⟩ c'
theorem takes_good {s m:Bs} {p:Ps} {r:Bool × Ps} (hr:takesP s p m=some r) (h:p.t.f=false∧p.t.t.length≤s.length):r.2.t.f=false∧r.2.t.t.length≤s.length:=by
 unfold takesP at hr
 split at hr
 ·cases hn:nextP s p with
  | none=>rw [hn] at hr; cases hr
  | some q=>rw [hn] at hr; cases hr; exact next_good hn h
 ·cases hr; exact h
theorem gtakes_ok {s m:Bs} {pb:Nat} {p:Ps} {r:Bool × Ps} (hs:s.length≤2^40) (hr:takesP s p m=some r) {w:World} (hp:PG s pb p w) {K:Value→World→Prop} (hk:∀ w',PG s pb r.2 w'→Ch (·=pb) w w'→K (.bool r.1) w') :
 callP Tryz.prog 161 [.pointer (some ⟨pb,0,none⟩),.string ⟨m.toArray⟩] w K:=ptakes_ok hs hr hp.1 fun w' p' c'=>hk w' ⟨p',takes_good hr hp.2⟩ c'
theorem must_good {s m:Bs} {p q:Ps} (hr:mustP s p m=some q) (h:p.t.f=false∧p.t.t.length≤s.length):q.t.f=false∧q.t.t.length≤s.length:=by
 unfold mustP at hr
 cases ht:takesP s p m with
 | none=>rw [ht] at hr; cases hr
 | some r =>
  rw [ht] at hr; cases hr
  have:=takes_good ht h
  show (if r.1=true then r.2 else _).t.f=false∧(if r.1=true then r.2 else _).t.t.length≤_
  split
  ·exact this
  ·exact fail_good this _ _
theorem gmust_ok {s m:Bs} {pb:Nat} {p q:Ps} (hs:s.length≤2^40) (hr:mustP s p m=some q) {w:World} (hp:PG s pb p w) {K:Value→World→Prop} (hk:∀ w',PG s pb q w'→Ch (·=pb) w w'→K (.tuple #[]) w') :
 callP Tryz.prog 233 [.pointer (some ⟨pb,0,none⟩),.string ⟨m.toArray⟩] w K:=pmust_ok hs hr hp.1 fun w' p' c'=>hk w' ⟨p',must_good hr hp.2⟩ c'
theorem gfail_ok {s:Bs} {pb:Nat} {p:Ps} {a e:Nat} (ha:a≤s.length) (he:e<1000) {w:World} (hp:PG s pb p w) {K:Value→World→Prop} (hk:∀ w',PG s pb (p.fail a e) w'→Ch (·=pb) w w'→K (.tuple #[]) w') :
 callP Tryz.prog 60 [.pointer (some ⟨pb,0,none⟩),.int .i64 (a:Int),.int .i64 (e:Int)] w K:=pfail_ok ha he hp.1 fun w' p' c'=>hk w' ⟨p',fail_good hp.2 a e⟩ c'
def PRg (s:Bs) (pb:Nat) (w:World) (r:T × Ps) (K:Value→World→Prop):Prop :=
 ∀ (x:TV) (w':World),TO w' x→x.m=r.1→(∀ b∈x.B,w.heap.size≤b)→PG s pb r.2 w'→Ch (·=pb) w w'→K x.v w'
theorem lit_good {s:Bs} {p:Ps} {r:T × Ps} (hr:litP s p=some r) (h:p.t.f=false∧p.t.t.length≤s.length):r.2.t.f=false∧r.2.t.t.length≤s.length:=by
 have out:∀ (v:M) (ok:Bool) (q:Ps),(q.t.f=false∧q.t.t.length≤s.length)→(nextP s (if ok then q else q.fail p.t.a 161)).map (fun r=>(T.mk 1 [] v [],r))=some r→r.2.t.f=false∧r.2.t.t.length≤s.length:=fun v ok q hq e=>by
  cases hn:nextP s (if ok then q else q.fail p.t.a 161) with
  | none=>rw [hn] at e; cases e
  | some q2 =>
   rw [hn] at e; cases e
   refine next_good hn ?_
   split
   ·exact hq
   ·exact fail_good hq _ _
 unfold litP at hr
 dsimp only at hr
 split at hr
 ·split at hr
  ·split at hr
   ·exact out _ true _ h hr
   ·cases hr
  ·cases hr
 ·split at hr
  ·exact out _ _ _ h hr
  ·split at hr
   ·exact out _ true _ h hr
   ·split at hr
    ·exact out _ true _ h hr
    ·exact out _ true _ (fail_good h _ _) hr
theorem gliteral_ok {s:Bs} {pb:Nat} {p:Ps} {r:T × Ps} (hs:s.length≤2^40) (hr:litP s p=some r) {w:World} (hL:LW w) (hpb:18≤pb) (hp:PG s pb p w) {K:Value→World→Prop} (hk:PRg s pb w r K) :
 callP Tryz.prog 276 [.pointer (some ⟨pb,0,none⟩),.bool false] w K :=
 pliteral_ok hs (by have:=hp.2.2; omega) hp.2.1 hr hL hpb hp.1 fun x w' h1 h2 h3 h4 h5=>hk x w' h1 h2 h3 ⟨h4,lit_good hr hp.2⟩ h5
theorem termInfo:InfoIs Tryz.prog 28 8 112 (.agg #[.int .i64 0,.string ⟨#[]⟩,.int .i64 0,.int .u64 0,.string ⟨#[]⟩,.slice none 0 0,.int .i64 0,.slice none 0 0]):=.of (by kernel_rfl) (by kernel_rfl) (by kernel_rfl)
end Go.Proofs.YtnmlmicmhpkbeaaGreatDoor
namespace Go.Proofs.YtnmlmicmhpkbeaaGreatDoor
open Go Go.Sv Go.Note
set_option linter.unusedVariables false
attribute [local irreducible] Sif
theorem uTerms:Tryz.prog.underlying 26=some (.slice 28):=by kernel_rfl
def PartC (s:Bs) (pb:Nat) (F:Value) (part:Ps→Option (T × Ps)):Prop :=
 ∀ (p:Ps) (r:T × Ps),part p=some r→∀ (w:World) (K:Value→World→Prop),LW w→PG s pb p w→PRg s pb w r K→callV Tryz.prog none F [] w K
theorem tgl (x:TV):[.int .i64 x.k,.string ⟨x.t.toArray⟩,.int .i64 x.x.k,.int .u64 (x.x.n:Int),.string ⟨x.x.t.toArray⟩,.slice x.x.s.p x.x.s.n x.x.s.c,.int .i64 x.x.e,.slice x.s.p x.s.n x.s.c]=x.g:=by cases x; rfl
theorem prow_ok {s m:Bs} {pb:Nat} {k:Int} {F:Value} {part:Ps→Option (T × Ps)} (hF:PartC s pb F part) (hs:s.length≤2^40) (hpb:18≤pb) {p q0 q:Ps} {t0:T} {l:List T} {j:Nat} (hj:j≤1000) (h0:part p=some (t0,q0)) (h1:rowP s m part j [t0] q0=some (l,q))
 {w:World} (hL:LW w) (hp:PG s pb p w) {K:Value→World→Prop} (hk:PRg s pb w (rowT k l,q) K):callP Tryz.prog 110 [.pointer (some ⟨pb,0,none⟩),.int .i64 k,.string ⟨m.toArray⟩,F] w K:=by
 apply ok_sieve_parser_row
 refine newB_blk fun w1 b1 c1 z1=>?_
 have hpl:=hp.1.lt
 have hL1:=hL.ch c1 fun _ _ h=>h
 refine hF p _ h0 w1 _ hL1 (hp.ch c1 id) fun x0 w2 o0 e0 f0 p0 c2=>?_
 refine isT ?_
 rw [tgl x0]
 refine boxT (x:=x0) fun w3 b3 a3 c3 z3=>?_
 simp only at e0 p0
 have hz2:=c2.size
 have o03:TO w3 x0:=TO.ch c3 x0 o0 fun _ _ h=>h
 have hx0:=TO.lt x0 o0
 have row0:TE.Row w3 (some ⟨w2.heap.size,0,none⟩) 1 1 (some w2.heap.size) [x0]:=row_one b3 o03 fun h=>by have:=hx0 _ h; omega
 have c13:Ch (fun x=>x=pb∨w.heap.size≤x) w w3:=((c1.mono fun _ _ h=>h.elim).trans' (c2.mono fun x hx h=>.inl h)).trans' (c3.mono fun _ _ h=>h.elim)
 have b13:blk w3 w.heap.size=some _:=(c3.blk (by omega) id).trans ((c2.blk (by omega) (by omega)).trans b1)
 refine ⟨fun jj p3 n6 c6 w4=>∃ (own:Option Nat) (R:List TV) (q':Ps),rowP s m part jj (R.map TV.m) q'=some (l,q)∧1≤n6∧n6+jj≤1+j∧TE.Row w4 p3 n6 c6 own R∧(∀ b∈TE.rowB own R,w.heap.size<b)∧PG s pb q' w4∧Ch (fun x=>x=pb∨w.heap.size≤x) w w4∧(∃ zs,blk w4 w.heap.size=some zs∧zs.length=8),
  ⟨j,some w2.heap.size,[x0],q0,by simpa [e0] using h1,by omega,by omega,row0,fun b hb=>?_,p0.ch c3 id,c13,⟨_,b13,rfl⟩⟩,?_⟩
 ·rcases (El.mem_rowB (E:=TE)).1 hb with h | ⟨y,hy,h⟩
  ·cases h; omega
  ·rw [List.mem_singleton.1 hy] at h
   have:=f0 b h; omega
 rintro jj p3 n6 c6 w4 ⟨own,R,q',hrow,hn1,hnj,hR,hfr,p4,c4,⟨zs,b4,zl⟩⟩
 have hLc:∀ {w':World},Ch (fun x=>x=pb∨w.heap.size≤x) w w'→LW w':=fun c=>hL.ch c fun b hb h=>by
  have:=hL.size; omega
 have hRl:∀ b∈TE.rowB own R,b<w4.heap.size:=El.Row.lt hR
 cases jj with
 | zero=>cases hrow
 | succ jj =>
  unfold rowP at hrow
  cases ht:takesP s q' m with
  | none=>rw [ht] at hrow; cases hrow
  | some r =>
   rw [ht] at hrow
   obtain ⟨b,q1⟩:=r
   refine gtakes_ok hs ht p4 fun w5 p5 c5=>⟨_,rfl,?_⟩
   have hR5:TE.Row w5 p3 n6 c6 own R:=El.Row.ch hR c5 fun b hb h=>by have:=hfr b hb; omega
   have c05:=c4.trans' (c5.mono (S':=fun x=>x=pb∨w.heap.size≤x) fun x hx h=>.inl h)
   have b5:=(c5.blk (blk_lt b4) (by omega)).trans b4
   cases b with
   | true =>
    refine Sif_cases (fun _=>?_) (fun h=>by cases h)
    simp only at hrow p5
    cases hpt:part q1 with
    | none=>rw [hpt] at hrow; cases hrow
    | some r2 =>
     obtain ⟨t2,q2⟩:=r2
     rw [hpt] at hrow
     simp only at hrow
     refine hF q1 _ hpt w5 _ (hLc c05) p5 fun x2 w6 o2 e2 f2 p6 c6'=>?_
     refine isT ?_
     rw [tgl x2]
     simp only at e2 p6
     have hR6:TE.Row w6 p3 n6 c6 own R:=El.Row.ch hR5 c6' fun b hb h=>by have:=hfr b hb; omega
     have c06:=c05.trans' (c6'.mono (S':=fun x=>x=pb∨w.heap.size≤x) fun x hx h=>.inl h)
     have hz5:=c5.size
     refine El.Row.push (E:=TE) (T:=26) (ty:=26) (e:=28) (te:=28) uTerms termInfo rfl hR6 o2 (fun b hb hb2=>by have:=f2 b hb; have:=hRl b hb2; omega) (by omega) (by omega) fun p' c' own' w7 hR7 hB7 c7=>?_
     refine ⟨jj,by omega,own',R++[x2],q2,by rw [List.map_append]; simpa [e2] using hrow,by omega,by omega,hR7,fun b hb=>?_,p6.ch c7 fun h=>?_,c06.trans' (c7.mono fun x hx h=>.inr ?_),?_⟩
     ·rcases hB7 b hb with h | h | h
      ·exact hfr b h
      ·have:=f2 b h; have:=blk_lt b5; omega
      ·have:=c06.size; have:=b5; have:=blk_lt b5; have:=c6'.size; omega
     ·have:=hfr pb ((El.mem_rowB (E:=TE)).2 (.inl h)); omega
     ·have:=hfr x ((El.mem_rowB (E:=TE)).2 (.inl h)); omega
     ·refine ⟨zs,?_,zl⟩
      rw [c7.blk (by have:=blk_lt b5; have:=c6'.size; omega) fun h=>by have:=hfr _ ((El.mem_rowB (E:=TE)).2 (.inl h)); omega,c6'.blk (blk_lt b5) (by omega)]
      exact b5
   | false =>
    refine Sif_cases (fun h=>by cases h) (fun _=>?_)
    simp only at hrow
    cases hrow
    have hRn:R.length=n6:=hR5.1
    rw [show ((n6:Int) == 1)=decide (n6=1) from natBeq n6 1]
    refine Sif_cases (fun h=>?_) (fun h=>?_)
    ·have h1n:=of_decide_eq_true h
     subst h1n
     obtain ⟨y,rfl⟩:∃ y,R=[y]:=by
      match R,hRn with
      | [y],_=>exact ⟨y,rfl⟩
     obtain ⟨_,ho,hok,_⟩:=hR5
     have hy:TO w5 y:=hok y (by simp)
     obtain ⟨kb,o,hpp,hat⟩:∃ kb o,p3=some ⟨kb,o,none⟩∧AtT w5 kb (o+0*8) y:=by
      obtain ⟨kb,o,hp',ha⟩:=ho.rd.at (g:=TV.g) (L:=[y]) TV.glen (i:=0) rfl (by decide)
      exact ⟨kb,o,hp',ha⟩
     subst hpp
     refine ⟨by omega,by omega,?_⟩
     simp only [nn,add_at,Nat.add_zero,Nat.zero_add]
     rw [Nat.zero_mul,Nat.add_zero] at hat
     have hat':=rd8 (K:=fun n s n1 n2 s1 p n3 c n4 p1 n5 c1=>Sv.st w5 ⟨w.heap.size,0,none⟩ (.int .i64 n) fun w6=>Sv.st w6 ⟨w.heap.size,1,none⟩ (.string s) fun w7=>Sv.st w7 ⟨w.heap.size,2,none⟩ (.int .i64 n1) fun w8=>Sv.st w8 ⟨w.heap.size,3,none⟩ (.int .u64 n2) fun w9=>Sv.st w9 ⟨w.heap.size,4,none⟩ (.string s1) fun w10=>Sv.st w10 ⟨w.heap.size,5,none⟩ (.slice p n3 c) fun w11=>Sv.st w11 ⟨w.heap.size,6,none⟩ (.int .i64 n4) fun w12=>Sv.st w12 ⟨w.heap.size,7,none⟩ (.slice p1 n5 c1) fun w =>
      ∃ n,w.cell? ⟨_,0,none⟩=some (.int .i64 n)∧∃ s,w.cell? ⟨_,1,none⟩=some (.string s)∧∃ n1,w.cell? ⟨_,2,none⟩=some (.int .i64 n1)∧∃ n2,w.cell? ⟨_,3,none⟩=some (.int .u64 n2)∧∃ s1,w.cell? ⟨_,4,none⟩=some (.string s1)∧∃ p n3 c,w.cell? ⟨_,5,none⟩=some (.slice p n3 c)∧∃ n4,w.cell? ⟨_,6,none⟩=some (.int .i64 n4)∧∃ p1 n5 c1,w.cell? ⟨_,7,none⟩=some (.slice p1 n5 c1) ∧
       K (.agg (Array.mk [.int .i64 n,.string s,.int .i64 n1,.int .u64 n2,.string s1,.slice p n3 c,.int .i64 n4,.slice p1 n5 c1])) w) hat
      (fin8 (x:=y) b5 zl fun w6 b6 c6'' z6=>?_)
     ·exact hat'
     ·refine hk y w6 (TO.ch c6'' y hy fun b hb h=>?_) rfl (fun b hb=>?_) (p5.ch c6'' (by omega)) ?_
      ·have:=hfr b ((El.mem_rowB (E:=TE)).2 (.inr ⟨y,by simp,hb⟩)); omega
      ·have:=hfr b ((El.mem_rowB (E:=TE)).2 (.inr ⟨y,by simp,hb⟩)); omega
      ·have c0:=c05.trans' (c6''.mono (S':=fun x=>x=pb∨w.heap.size≤x) fun x hx h=>.inr (by omega))
       exact ⟨c0.os,c0.tape,c0.output,c0.size,fun b hb hn=>c0.keep b hb (by omega)⟩
    ·have hn2:=of_decide_eq_false h
     refine pterm_ok (s:=⟨p3,n6,c6,own⟩) R fun w6 c6''=>?_
     refine isT ?_
     have b6:=(c6''.blk (blk_lt b5) id).trans b5
     simp only [add_at,Nat.zero_add]
     refine fin8 (x:=.mk k [] zMV ⟨p3,n6,c6,own⟩ R) b6 zl fun w7 b7 c7 z7=>?_
     have hR7:TE.Row w7 p3 n6 c6 own R:=El.Row.ch (El.Row.ch hR5 c6'' fun _ _ h=>h) c7 fun b hb h=>by have:=hfr b hb; omega
     refine hk _ w7 (TO.row hR7 (by omega)) ?_ (fun b hb=>?_) ((p5.ch c6'' id).ch c7 (by omega)) ?_
     ·rw [TV.m_mk,zMV_m]
      match R,hRn with
      | [],h=>simp at h; omega
      | [_],h=>simp at h; omega
      | a::b::l,_=>rfl
     ·rw [row_B] at hb
      have:=hfr b hb; omega
     ·have c0:=(c05.trans' (c6''.mono (S':=fun x=>x=pb∨w.heap.size≤x) fun _ _ h=>h.elim)).trans' (c7.mono (S':=fun x=>x=pb∨w.heap.size≤x) fun x hx h=>.inr (by omega))
      exact ⟨c0.os,c0.tape,c0.output,c0.size,fun b hb hn=>c0.keep b hb (by omega)⟩
end Go.Proofs.YtnmlmicmhpkbeaaGreatDoor
namespace Go.Proofs.YtnmlmicmhpkbeaaGreatDoor
open Go Go.Sv Go.Note
set_option linter.unusedVariables false
attribute [local irreducible] Sif
def GC (s:Bs) (pb:Nat) (f:Nat) (xs:List Value) (fn:Ps→Option (T × Ps)):Prop :=
 ∀ (p:Ps) (r:T × Ps),fn p=some r→∀ (w:World) (K:Value→World→Prop),LW w→PG s pb p w→PRg s pb w r K→callP Tryz.prog f (.pointer (some ⟨pb,0,none⟩)::xs) w K
abbrev CW (pb:Nat) (w w':World):Prop:=Ch (fun x=>x=pb∨w.heap.size≤x) w w'
theorem CW.lw {pb:Nat} {w w':World} (c:CW pb w w') (hL:LW w) (hpb:18≤pb):LW w':=hL.ch c fun b hb h=>by
 have:=hL.size; omega
theorem endT {s:Bs} {pb:Nat} {w w2 w3:World} {r:T × Ps} {K:Value→World→Prop} (hk:PRg s pb w r K) (hpl:pb<w.heap.size) {x:TV} (o:TO w2 x) (e:x.m=r.1) (f:∀ b∈x.B,w.heap.size<b) (p:PG s pb r.2 w2) (c:CW pb w w2) (c3:Ch (·=w.heap.size) w2 w3):K x.v w3:=by
 refine hk x w3 (TO.ch c3 x o fun b hb h=>by have:=f b hb; omega) e (fun b hb=>by have:=f b hb; omega) (p.ch c3 (by omega)) ?_
 have c0:=c.trans' (c3.mono (S':=fun x=>x=pb∨w.heap.size≤x) fun x hx h=>.inr (by omega))
 exact ⟨c0.os,c0.tape,c0.output,c0.size,fun b hb hn=>c0.keep b hb (by omega)⟩
theorem partF {s:Bs} {pb f:Nat} {fn:Ps→Option (T × Ps)} (h:GC s pb f [] fn) (ho:okCall Tryz.prog f=true):PartC s pb (.func (.func f) #[.pointer (some ⟨pb,0,none⟩)] #[]) fn:=fun p r e w K hL hp hk=>⟨ho,h p r e w K hL hp hk⟩
theorem or_ok {s:Bs} {pb n:Nat} (hs:s.length≤2^40) (hpb:18≤pb) (hn:n≤1000) (ha:GC s pb 111 [] (andP s n)):GC s pb 59 [] (orP s (n+1)):=by
 intro p r hr w K hL hp hk
 unfold orP at hr
 cases h0:andP s n p with
 | none=>rw [h0] at hr; cases hr
 | some xq =>
  obtain ⟨x0,q0⟩:=xq
  rw [h0] at hr
  simp only at hr
  cases h1:rowP s [111,114] (fun p=>andP s n p) n [x0] q0 with
  | none=>rw [h1] at hr; cases hr
  | some lq =>
   obtain ⟨l,q⟩:=lq
   rw [h1] at hr
   cases hr
   apply ok_sieve_parser_or
   refine newB_blk fun w1 b1 c1 z1=>?_
   have hpl:=hp.1.lt
   refine prow_ok (m:=[111,114]) (part:=fun p=>andP s n p) (partF ha (by kernel_rfl)) hs hpb hn h0 h1 (hL.ch c1 fun _ _ h=>h) (hp.ch c1 id) fun x w2 o e f p2 c2=>?_
   refine isT ?_
   simp only [add_at,Nat.zero_add]
   refine fin8 (x:=x) ((c2.blk (by omega) (by omega)).trans b1) rfl fun w3 b3 c3 z3=>?_
   exact endT hk hpl o e (fun b hb=>by have:=f b hb; omega) p2 ((c1.mono fun _ _ h=>h.elim).trans' (c2.mono fun x hx h=>.inl h)) c3
theorem and_ok {s:Bs} {pb n:Nat} (hs:s.length≤2^40) (hpb:18≤pb) (hn:n≤1000) (ha:GC s pb 163 [] (notP s n)):GC s pb 111 [] (andP s (n+1)):=by
 intro p r hr w K hL hp hk
 unfold andP at hr
 cases h0:notP s n p with
 | none=>rw [h0] at hr; cases hr
 | some xq =>
  obtain ⟨x0,q0⟩:=xq
  rw [h0] at hr
  simp only at hr
  cases h1:rowP s [97,110,100] (fun p=>notP s n p) n [x0] q0 with
  | none=>rw [h1] at hr; cases hr
  | some lq =>
   obtain ⟨l,q⟩:=lq
   rw [h1] at hr
   cases hr
   apply ok_sieve_parser_and
   refine newB_blk fun w1 b1 c1 z1=>?_
   have hpl:=hp.1.lt
   refine prow_ok (m:=[97,110,100]) (part:=fun p=>notP s n p) (partF ha (by kernel_rfl)) hs hpb hn h0 h1 (hL.ch c1 fun _ _ h=>h) (hp.ch c1 id) fun x w2 o e f p2 c2=>?_
   refine isT ?_
   simp only [add_at,Nat.zero_add]
   refine fin8 (x:=x) ((c2.blk (by omega) (by omega)).trans b1) rfl fun w3 b3 c3 z3=>?_
   exact endT hk hpl o e (fun b hb=>by have:=f b hb; omega) p2 ((c1.mono fun _ _ h=>h.elim).trans' (c2.mono fun x hx h=>.inl h)) c3
end Go.Proofs.YtnmlmicmhpkbeaaGreatDoor
namespace Go.Proofs.YtnmlmicmhpkbeaaGreatDoor
open Go Go.Sv Go.Note
set_option linter.unusedVariables false
attribute [local irreducible] Sif
theorem isName_ok {t:Bs} (hs:t.length≤2^48) {w:World} (hL:LW w) {K:Value→World→Prop} (hk:∀ w',Ch (fun _=>False) w w'→K (.bool (nameB t)) w'):callP Tryz.prog 85 [.string ⟨t.toArray⟩] w K:=by
 apply ok_sieve_isName
 have hz:(ByteArray.mk t.toArray).size=t.length:=by show t.toArray.size=_; simp
 unfold nameB at hk
 rw [hz]
 refine Sif_cases (fun h=>?_) (fun h=>?_)
 ·have h:=of_decide_eq_true h
  have e1:decide (t≠[])=true:=decide_eq_true (by intro e; rw [e] at h; simp at h)
  rw [e1,Bool.true_and] at hk
  refine Sif_cases (fun h=>?_) (fun h=>?_)
  ·have h:=of_decide_eq_true h
   rw [decide_eq_true (show t.length≤64 by omega),Bool.true_and] at hk
   refine oUtf8_ok (by rw [hz]; exact hs) hL.ut hL.size fun x w' c hpl=>⟨_,rfl,?_⟩
   have:decide (x<0)=textB t:=by
    rw [sl3] at hpl
    cases ht:textB t with
    | true=>rw [hpl.1 ht]; rfl
    | false=>have:=hpl.2 ht; exact decide_eq_false (by omega)
   rw [this]; exact hk w' c
  ·have h:=of_decide_eq_false h
   rw [decide_eq_false (show ¬ t.length≤64 by omega),Bool.false_and] at hk
   exact hk w (Ch.refl _ _)
 ·have h:=of_decide_eq_false h
  have e1:decide (t≠[])=false:=decide_eq_false (fun hne=>hne (List.eq_nil_of_length_eq_zero (by omega)))
  rw [e1,Bool.false_and,Bool.false_and] at hk
  exact hk w (Ch.refl _ _)
theorem wrapT {w:World} {k:Int} {x:TV} (o:TO w x) {t:TypeId} {Q:Value→World→Prop} (hk:∀ (y:TV) (w':World),TO w' y→y.m=.mk k [] zeroM [x.m]→(∀ b∈y.B,b∈x.B∨w.heap.size≤b)→Ch (fun _=>False) w w'→Q y.v w') :
 newB w x.g t fun a w1=>callP Tryz.prog 162 [.int .i64 k,.slice (some a) 1 1] w1 Q:=by
 refine boxT (x:=x) fun w4 b4 a4 c4 z4=>?_
 refine pterm_ok (k:=k) (s:=⟨some ⟨w.heap.size,0,none⟩,1,1,some w.heap.size⟩) [x] fun w5 c5=>?_
 have hl:=TO.lt x o
 have row:TE.Row w5 (some ⟨w.heap.size,0,none⟩) 1 1 (some w.heap.size) [x]:=El.Row.ch (row_one b4 (TO.ch c4 x o fun _ _ h=>h) fun h=>by have:=hl _ h; omega) c5 fun _ _ h=>h
 refine hk _ w5 (TO.row row (by decide)) (by rw [TV.m_mk,zMV_m]; rfl) (fun b hb=>?_) (c4.trans' c5)
 rw [row_B] at hb
 rcases (El.mem_rowB (E:=TE)).1 hb with h | ⟨y,hy,h⟩
 ·cases h; exact .inr (Nat.le_refl _)
 ·rw [List.mem_singleton.1 hy] at h; exact .inl h
theorem not_ok {s:Bs} {pb n:Nat} (hs:s.length≤2^40) (hpb:18≤pb) (ha:GC s pb 163 [] (notP s n)) (hc:GC s pb 199 [] (compP s n)):GC s pb 163 [] (notP s (n+1)):=by
 intro p r hr w K hL hp hk
 unfold notP at hr
 cases ht:takesP s p [110,111,116] with
 | none=>rw [ht] at hr; cases hr
 | some bq =>
  obtain ⟨b,q⟩:=bq
  rw [ht] at hr
  apply ok_sieve_parser_not
  refine newB_blk fun w1 b1 c1 z1=>?_
  have hpl:=hp.1.lt
  refine gtakes_ok hs ht (hp.ch c1 id) fun w2 p2 c2=>⟨_,rfl,?_⟩
  have c02:CW pb w w2:=(c1.mono fun _ _ h=>h.elim).trans' (c2.mono fun x hx h=>.inl h)
  have b2:=(c2.blk (by omega) (by omega)).trans b1
  have s2:=c02.size
  cases b with
  | true =>
   refine Sif_cases (fun _=>?_) (fun h=>by cases h)
   simp only at hr p2
   cases h0:notP s n q with
   | none=>rw [h0] at hr; cases hr
   | some r0 =>
    rw [h0] at hr; cases hr
    refine ha q _ h0 w2 _ (c02.lw hL hpb) p2 fun x w3 o e f p3 c3=>?_
    refine isT ?_
    rw [tgl x]
    have c03:CW pb w w3:=c02.trans' (c3.mono fun x hx h=>.inl h)
    refine wrapT (k:=3) o fun y w5 oy ey fy c5=>?_
    refine isT ?_
    simp only [add_at,Nat.zero_add]
    refine fin8 (x:=y) (((c3.trans' (c5.mono fun _ _ h=>h.elim)).blk (blk_lt b2) (by omega)).trans b2) rfl fun w6 b6 c6 z6=>?_
    have s3:=c3.size
    have l2:=blk_lt b2
    exact endT hk hpl oy (by rw [ey,e]) (fun b hb=>by rcases fy b hb with h | h; · have:=f b h; omega
                                                      ·omega) (p3.ch c5 id) (c03.trans' (c5.mono fun _ _ h=>h.elim)) c6
  | false =>
   refine Sif_cases (fun h=>by cases h) (fun _=>?_)
   simp only at hr p2
   refine hc q _ hr w2 _ (c02.lw hL hpb) p2 fun x w3 o e f p3 c3=>?_
   refine isT ?_
   simp only [add_at,Nat.zero_add]
   refine fin8 (x:=x) ((c3.blk (blk_lt b2) (by omega)).trans b2) rfl fun w6 b6 c6 z6=>?_
   have l2:=blk_lt b2
   exact endT hk hpl o e (fun b hb=>by have:=f b hb; omega) p3 (c02.trans' (c3.mono fun x hx h=>.inl h)) c6
end Go.Proofs.YtnmlmicmhpkbeaaGreatDoor
namespace Go.Proofs.YtnmlmicmhpkbeaaGreatDoor
open Go Go.Sv Go.Note
set_option linter.unusedVariables false
attribute [local irreducible] Sif
theorem arity_ok {k:Int} {n:Nat} {w:World} {K:Value→World→Prop} (hk:K (.bool (arity k n)) w):callP Tryz.prog 83 [.int .i64 k,.int .i64 (n:Int)] w K:=by
 apply ok_sieve_arity
 unfold arity at hk
 simp only [intEq] at *
 have n0:decide ((n:Int)=0)=decide (n=0):=decide_eq_decide.2 (by omega)
 have n1:decide ((n:Int)=1)=decide (n=1):=decide_eq_decide.2 (by omega)
 have n2:decide ((n:Int)=2)=decide (n=2):=decide_eq_decide.2 (by omega)
 have n3:decide ((n:Int)=3)=decide (n=3):=decide_eq_decide.2 (by omega)
 have ng:decide ((n:Int)≥2)=decide (2≤n):=decide_eq_decide.2 (by omega)
 simp only [n0,n1,n2,n3,ng]
 have P:∀ {b:Bool} {p:Prop} [Decidable p],(!decide p)=false→p:=fun h=>by simpa using h
 have N:∀ {b:Bool} {p:Prop} [Decidable p],(!decide p)=true→¬ p:=fun h=>by simpa using h
 refine ⟨fun w1=>K (.bool (decide (6≤k) && decide (k≤19) && decide (n=2))) w1,fun w1 h=>?_,?_⟩
 ·refine Sif_cases (fun h1=>?_) (fun h1=>?_)
  ·rw [show decide (6≤k)=true from h1,Bool.true_and] at h
   refine Sif_cases (fun h2=>?_) (fun h2=>?_)
   ·rw [h2,Bool.true_and] at h; exact h
   ·rw [h2,Bool.false_and] at h; exact h
  ·rw [show decide (6≤k)=false from h1,Bool.false_and,Bool.false_and] at h; exact h
 ·refine Sif_cases (fun a1=>?_) (fun a1=>?_)
  ·refine Sif_cases (fun a2=>?_) (fun a2=>?_)
   ·rw [if_pos (.inr (of_decide_eq_true a2))] at hk; exact hk
   ·rw [if_neg (by simp only [Bool.not_eq_true',decide_eq_false_iff_not] at a1 a2; omega)] at hk
    refine Sif_cases (fun a3=>?_) (fun a3=>?_)
    ·refine Sif_cases (fun a4=>?_) (fun a4=>?_)
     ·refine Sif_cases (fun a5=>?_) (fun a5=>?_)
      ·refine Sif_cases (fun a6=>?_) (fun a6=>?_)
       ·rw [if_pos (.inr (.inr (.inr (of_decide_eq_true a6))))] at hk; exact hk
       ·rw [if_neg (by simp only [Bool.not_eq_true',decide_eq_false_iff_not] at a3 a4 a5 a6; omega)] at hk
        refine Sif_cases (fun a7=>?_) (fun a7=>?_)
        ·refine Sif_cases (fun a8=>?_) (fun a8=>?_)
         ·refine Sif_cases (fun a9=>?_) (fun a9=>?_)
          ·rw [if_pos (.inr (.inr (of_decide_eq_true a9)))] at hk; exact hk
          ·rw [if_neg (by simp only [Bool.not_eq_true',decide_eq_false_iff_not] at a7 a8 a9; omega)] at hk
           refine Sif_cases (fun a10=>?_) (fun a10=>?_)
           ·rw [if_pos (of_decide_eq_true a10)] at hk; exact hk
           ·rw [if_neg (of_decide_eq_false a10)] at hk; exact hk
         ·rw [if_pos (.inr (.inl (by simpa using a8)))] at hk; exact hk
        ·rw [if_pos (.inl (by simpa using a7))] at hk; exact hk
      ·rw [if_pos (.inr (.inr (.inl (by simpa using a5))))] at hk; exact hk
     ·rw [if_pos (.inr (.inl (by simpa using a4)))] at hk; exact hk
    ·rw [if_pos (.inl (by simpa using a3))] at hk; exact hk
  ·rw [if_pos (.inl (by simpa using a1))] at hk; exact hk
theorem lone_ok {p e:Bs} (hp:p.length≤2^48) {w:World} (hL:LW w) {K:Value→World→Prop} (hk:∀ w',Ch (fun _=>False) w w'→K (.bool (loneB p e)) w'):callP Tryz.prog 89 [.string ⟨p.toArray⟩,.string ⟨e.toArray⟩] w K:=by
 apply ok_sieve_lone
 unfold loneB at hk
 refine ⟨fun m x w1=>∃ l:Bs,x=⟨l.toArray⟩∧l.length≤m∧l.length≤2^48∧loneL e (sg l)=loneL e (sg p)∧Ch (fun _=>False) w w1,⟨p.length,p,rfl,Nat.le_refl _,hp,rfl,Ch.refl _ _⟩,?_⟩
 rintro m x w1 ⟨l,rfl,hm,hl,hll,c1⟩
 have e0:∀ q:Bs,((ByteArray.mk q.toArray).toList == (ByteArray.mk (Array.mk [])).toList)=decide (q=[]):=fun q=>seq3 q []
 rw [e0 l]
 refine Sif_cases (fun h=>?_) (fun h=>?_)
 ·have h:l≠[]:=by simpa using h
  have hL1:LW w1:=hL.ch c1 fun _ _ h=>h
  refine cut_ok hl hL1 fun w2 c2=>⟨_,_,rfl,?_⟩
  have hwd:=wide_le l h
  have hw1:1≤wide l:=by unfold wide; omega
  have hlen:(l.drop (wide l)).length<l.length:=by rw [List.length_drop]; omega
  rw [sg_cons l h] at hll
  refine ⟨fun x' w'=>∃ m',m'<m∧∃ l:Bs,x'=⟨l.toArray⟩∧l.length≤m'∧l.length≤2^48∧loneL e (sg l)=loneL e (sg p)∧Ch (fun _=>False) w w',fun _ _ h=>h,?_⟩
  rw [seq3 (l.take (wide l)) e]
  generalize l.take (wide l)=a at hll ⊢
  generalize l.drop (wide l)=d at hll hlen ⊢
  have c02:=c1.trans' c2
  refine Sif_cases (fun h1=>?_) (fun h1=>?_)
  ·have h1:=of_decide_eq_true h1
   subst h1
   rw [e0 d]
   refine Sif_cases (fun h2=>?_) (fun h2=>?_)
   ·have h2:=of_decide_eq_true h2
    subst h2
    rw [sg_nil,loneL,decide_eq_true rfl] at hll
    rw [hll]; exact hk w2 c02
   ·have h2:=of_decide_eq_false h2
    refine cut_ok (by omega) (hL1.ch c2 fun _ _ h=>h) fun w3 c3=>⟨_,_,rfl,?_⟩
    have hwd2:=wide_le d h2
    rw [sg_cons d h2,loneL,if_pos rfl] at hll
    refine ⟨m-1,by omega,_,rfl,by rw [List.length_drop]; omega,by rw [List.length_drop]; omega,hll,c02.trans' c3⟩
  ·have h1:=of_decide_eq_false h1
   refine ⟨m-1,by omega,_,rfl,by omega,by omega,?_,c02⟩
   rw [← hll]
   cases hd:sg d with
   | nil=>rw [loneL,loneL,decide_eq_false h1]
   | cons y t=>rw [loneL,if_neg h1]
 ·have h:l=[]:=by simpa using h
  subst h
  rw [sg_nil,loneL] at hll
  rw [← hll] at hk
  exact hk w1 c1
end Go.Proofs.YtnmlmicmhpkbeaaGreatDoor
