/-
  The law's own functions: live; Numbers, Quotes, Unquotes. The laws Back, Again, Unlike. The document's Print (longshoreref04): names, numbers, what is written.
-/
import Derived.Test.YtnacobknngidkaaGreatDoorPj21
import Derived.KernelRfl
set_option linter.unusedVariables false
set_option linter.unusedSimpArgs false
namespace Go.Note
open Go
set_option linter.unusedVariables false
def unqR (l:Bs):Bs × Bool:=match wordB l with
 | some p=>if p.2=l.length then (p.1,true) else ([],false)
 | none=>([],false)
def mLive:M:=.mk 22 0 [] 0 [.mk 20 0 [107] 0 [],.mk 21 0 [] 0 [.mk 0 0 [] 0 []],.mk 4 1 [] 0 [],.mk 15 65 [] 0 []]
def tLive:Bs:=[123,115,121,109,98,111,108,32,34,107,34,58,32,91,110,117,108,108,93,44,32,117,105,110,116,32,49,58,32,99,104,97,114,32,54,53,125]
theorem live_print:printM mLive=tLive:=by decide +kernel
theorem live_check:mLive.check 1=0:=by decide +kernel
theorem live_fits:mLive.fits:=by
 refine .mk (by decide) fun x hx=>?_
 simp only [List.mem_cons,List.not_mem_nil,or_false] at hx
 rcases hx with rfl | rfl | rfl | rfl
 ·exact .mk (by decide) (by simp)
 ·refine .mk (by decide) fun x hx=>?_
  simp only [List.mem_cons,List.not_mem_nil,or_false] at hx
  subst hx
  exact .mk (by decide) (by simp)
 ·exact .mk (by decide) (by simp)
 ·exact .mk (by decide) (by simp)
set_option maxRecDepth 100000 in
theorem live_parse:parseB tLive=.ok mLive 0:=by kernel_rfl
theorem live_quote:quoteB [0,34]=[34,92,120,48,48,92,34,34]:=by decide +kernel
theorem live_unq:unqR [34,92,120,52,49,34]=([65],true):=by decide +kernel
end Go.Note
namespace Go.Proofs.YtnacobknngidkaaGreatDoor
open Go Go.Sv Go.Note
set_option linter.unusedVariables false
attribute [local irreducible] Sif
set_option maxRecDepth 4000
theorem unq_ok {s:ByteArray} (hs:s.size≤2^40) {w:World} (hL:LW w) {K:Value→World→Prop} (hk:∀ w',Ch (fun _=>False) w w'→K (.tuple #[.string ⟨(unqR s.data.toList).1.toArray⟩,.bool (unqR s.data.toList).2]) w') :
 callP Tryz.prog 28 [.string s] w K:=by
 refine Unquote_ok hs hL.ut (by have:=hL.size; omega) fun w' c=>?_
 have:=hk w' c
 unfold unqR at this
 rw [sl] at this
 cases h:wordB s.data.toList with
 | none=>rw [h] at this; exact this
 | some p =>
  rw [h] at this
  simp only at this ⊢
  split<;>rename_i hp
  ·rw [if_pos hp] at this; exact this
  ·rw [if_neg hp] at this; exact this
theorem tupV {x:MV} {a e:Int} {K:Int→Int→ByteArray→Option Addr→Nat→Nat→Int→Int→Int→Prop} (h:K x.k (x.n:Int) ⟨x.t.toArray⟩ x.s.p x.s.n x.s.c x.e a e) :
 ∃ n n1 s p n2 c n3 n4 n5,Value.tuple #[x.v,.int .i64 a,.int .i64 e]=.tuple (Array.mk [.agg (Array.mk [.int .i64 n,.int .u64 n1,.string s,.slice p n2 c,.int .i64 n3]),.int .i64 n4,.int .i64 n5])∧K n n1 s p n2 c n3 n4 n5:=by
 cases x
 exact ⟨_,_,_,_,_,_,_,_,_,rfl,h⟩
theorem Sif_true_of {b:Bool} {x y:Prop} (h:b=true) (hx:x):Sif b x y:=by subst h; exact Sif_true hx
theorem live_ok {w:World} (hL:LW w) {K:Value→World→Prop} (hk:∀ w',Ch (fun _=>False) w w'→K (.bool true) w'):callP Tryz.prog 13 [] w K:=by
 apply ok_longshorelaw04_live
 unfold wp_longshorelaw04_live
 refine Parse_ok (S:=⟨tLive.toArray⟩) (by decide) hL fun x w1 hx ho hB c1=>?_
 have hp:parseR tLive=(mLive,0,0):=by unfold parseR; rw [live_parse]
 rw [str_list] at hx ⊢
 rw [hp] at hx ⊢
 refine tupV ?_
 refine nbx rfl fun w2 b2 c2 z2=>?_
 refine ldK b2 ?_
 rw [vv]
 have c12:=c1.trans' c2
 have hx:x.m=mLive:=hx
 have no:¬ x.m.check 1≠0:=by rw [hx,live_check]; decide
 refine Print_ok (hL.ch0 c12) (ho.vr'.ch0 c2) (by rw [hx]; exact live_fits) (by rw [hx]; decide) (fun w3 c3 h=>absurd h no) (fun w3 c3 _ h=>?_) (fun w3 c3 _ h=>?_)
 ·rw [hx,live_print] at h; exact absurd h (by decide)
 rw [hx,live_print]
 refine ⟨_,_,rfl,?_⟩
 refine Quote_ok _ (by decide) fun w4 c4=>⟨_,rfl,?_⟩
 have c14:=(c12.trans' c3).trans' c4
 refine unq_ok (by decide) (hL.ch0 c14) fun w5 c5=>⟨_,_,rfl,?_⟩
 refine Sif_true (Sif_true ?_)
 rw [show ByteArray.data (ByteArray.mk (Array.mk [(0:UInt8),34]))=([0,34]:Bs).toArray by rfl,List.toList_toArray,live_quote]
 rw [show ByteArray.data (ByteArray.mk (Array.mk [(34:UInt8),92,120,52,49,34]))=([34,92,120,52,49,34]:Bs).toArray by rfl,List.toList_toArray,live_unq]
 refine Sif_true_of (by decide +kernel) (Sif_true_of (by decide +kernel) (Sif_true_of (by decide +kernel) ?_))
 exact hk w5 (c14.trans' c5)
end Go.Proofs.YtnacobknngidkaaGreatDoor
namespace Go.Note
open Go
end Go.Note
namespace Go.Proofs.YtnacobknngidkaaGreatDoor
open Go Go.Sv Go.Note
set_option linter.unusedVariables false
attribute [local irreducible] Sif
set_option maxRecDepth 4000
theorem intEq (x y:Int):(x == y)=decide (x=y):=by
 by_cases h:x=y
 ·subst h; simp
 ·rw [decide_eq_false h,beq_eq_false_iff_ne]; exact h
theorem ext1 {s:ByteArray} {i:Nat} {x:UInt8} (h:s.data.toList[i]?=some x):s.extract i (i+1)=⟨([x]:Bs).toArray⟩:=by
 apply ByteArray.ext
 apply Array.toList_inj.1
 rw [extract_data,Nat.add_sub_cancel_left]
 have hi:=(List.getElem?_eq_some_iff.1 h).1
 rw [List.drop_eq_getElem_cons hi]
 rw [List.getElem?_eq_getElem hi] at h
 simp [Option.some.inj h]
theorem ne0 (n:Nat):((n:Int) != 0)=decide (n≠0):=by
 by_cases h:n=0
 ·subst h; rfl
 ·rw [decide_eq_true h]; rw [bne_iff_ne]; omega
theorem eq0 (n:Nat):((n:Int) == 0)=decide (n=0):=by
 by_cases h:n=0
 ·subst h; rfl
 ·rw [decide_eq_false h]; rw [beq_eq_false_iff_ne]; omega
theorem parse_of {s:Bs} {m:M} (h:parseB s=.ok m 0):parseR s=(m,0,0):=by unfold parseR; rw [h]
end Go.Proofs.YtnacobknngidkaaGreatDoor
namespace Go.Note
open Go
set_option linter.unusedVariables false
end Go.Note
namespace Go.Proofs.YtnacobknngidkaaGreatDoor
open Go Go.Sv Go.Note Go.RowKit
set_option linter.unusedVariables false
attribute [local irreducible] Sif
set_option maxRecDepth 4000
theorem rName_ok {k:Nat} (hk:k<25) {w:World} {K:Value→World→Prop} (h:∀ w',Ch (fun _=>False) w w'→K (.string ⟨(nameK (k:Int)).toArray⟩) w') :
 callP Tryz.prog 110 [.int .i64 (k:Int)] w K:=by
 apply ok_longshoreref04_Name
 unfold wp_longshoreref04_Name
 refine newB_blk fun w1 b1 c1 z1=>?_
 refine ⟨fun w2=>w2=w1,?_,?_⟩
 ·rintro w2 rfl
  refine ⟨by omega,by omega,?_⟩
  simp only [add_at,Nat.zero_add,Nat.mul_one,Int.toNat_natCast]
  exact ⟨_,by rw [cell_blk b1]; exact nameV_get k hk,h w2 c1⟩
 ·refine Sif_cases (fun _=>?_) (fun h=>by simp at h; omega)
  exact Sif_cases (fun h2=>by simp at h2; omega) (fun _=>rfl)
end Go.Proofs.YtnacobknngidkaaGreatDoor
