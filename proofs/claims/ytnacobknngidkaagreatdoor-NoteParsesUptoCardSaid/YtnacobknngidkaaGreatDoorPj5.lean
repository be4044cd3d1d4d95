/-
  The document's values (longshoreref02): Equal, weigh, Great.
-/
import Derived.Test.YtnacobknngidkaaGreatDoorPj4
set_option linter.unusedVariables false
set_option linter.unusedSimpArgs false
namespace Go.Proofs.YtnacobknngidkaaGreatDoor
open Go Go.Sv Go.Note
set_option linter.unusedVariables false
attribute [local irreducible] Sif
theorem bs_eq (a b:Bs):((ByteArray.mk a.toArray).toList == (ByteArray.mk b.toArray).toList)=decide (a=b):=by
 rw [ByteArray.toList_eq,ByteArray.toList_eq]
 by_cases h:a=b
 ·subst h; simp
 ·simp [h]
theorem nat_beq (a b:Nat):(((a:Nat):Int) == (b:Int))=decide (a=b):=by
 by_cases h:a=b
 ·subst h; simp
 ·simp [h]; omega
theorem int_bne (a b:Int):(a != b)=!decide (a=b):=by
 by_cases h:a=b<;>simp [h]
theorem mL_eq {a b:List MV}:a.map MV.m=b.map MV.m↔a.length=b.length∧∀ i,i<a.length→∀ x y,a[i]?=some x→b[i]?=some y→x.m=y.m:=by
 constructor
 ·intro h
  have hl:a.length=b.length:=by simpa using congrArg List.length h
  refine ⟨hl,fun i hi x y hx hy=>?_⟩
  have:=congrArg (fun l=>l[i]?) h
  simp only [List.getElem?_map,hx,hy,Option.map_some,Option.some.injEq] at this
  exact this
 ·rintro ⟨hl,h⟩
  apply List.ext_getElem?
  intro i
  simp only [List.getElem?_map]
  by_cases hi:i<a.length
  ·have hx:a[i]?=some a[i]:=List.getElem?_eq_getElem hi
   have hy:b[i]?=some b[i]:=List.getElem?_eq_getElem (by omega)
   rw [hx,hy]
   simp [h i hi _ _ hx hy]
  ·rw [List.getElem?_eq_none (by omega),List.getElem?_eq_none (by omega)]
theorem rEqual_ok {Q Q':Nat→Prop}:∀ (x y:MV) {w:World} {K:Value→World→Prop},VR Q w x→VR Q' w y→(∀ w',Ch (fun _=>False) w w'→K (.bool (decide (x.m=y.m))) w') →
 callP Tryz.prog 21 [x.v,y.v] w K:=by
 refine MV.ind fun k n t s e l ih=>?_
 rintro ⟨k',n',t',s',e',l'⟩ w K hx hy hk
 apply ok_longshoreref02_Equal
 unfold wp_longshoreref02_Equal
 refine boxV (x:=.mk k n t s e l) fun w1 b1 a1 c1 z1=>boxV (x:=.mk k' n' t' s' e' l') fun w2 b2 a2 c2 z2=>?_
 have a1':=a1.ch c2 id
 have c12:=c1.trans' c2
 simp only [add_at]
 rw [MV.m_mk,MV.m_mk] at hk
 have hl1:=hx.inv.1
 have hl2:=hy.inv.1
 have hs1:=hx.inv.2.1
 simp only [MV.l_mk,MV.s_mk] at hl1 hl2 hs1
 have no:¬ (M.mk k n t e (l.map MV.m)=M.mk k' n' t' e' (l'.map MV.m))→K (.bool false) w2:=fun h=>by
  have:=hk w2 c12
  rwa [decide_eq_false h] at this
 refine ⟨fun w3=>w3=w2∧k=k'∧n=n'∧t=t'∧e=e'∧s.n=s'.n,?_,?_⟩
 ·rintro w3 ⟨rfl,rfl,rfl,rfl,rfl,hn⟩
  refine ⟨fun m i w4=>∃ j:Nat,i=(j:Int)∧m=s.n-j∧j≤s.n∧Ch (fun _=>False) w3 w4∧∀ q,q<j→∀ x y,l[q]?=some x→l'[q]?=some y→x.m=y.m,⟨s.n,0,rfl,rfl,Nat.zero_le _,Ch.refl _ _,fun q hq=>by omega⟩,?_⟩
  rintro m i w4 ⟨j,rfl,rfl,hj,c4,hall⟩
  have c34:=c12.trans' c4
  refine ⟨_,_,_,(a1'.ch c4 id).s3,?_⟩
  simp only [MV.s_mk]
  refine Sif_cases (fun h=>?_) (fun h=>?_)
  ·have hjl:j<s.n:=by have:=of_decide_eq_true h; omega
   obtain ⟨x,hxi⟩:∃ x,l[j]?=some x:=⟨l[j]'(by omega),List.getElem?_eq_getElem _⟩
   obtain ⟨y,hyi⟩:∃ y,l'[j]?=some y:=⟨l'[j]'(by omega),List.getElem?_eq_getElem _⟩
   have hX:=hx.ch0 (c34.trans' (Ch.drew _))
   have hY:=hy.ch0 (c34.trans' (Ch.drew _))
   obtain ⟨bx,ox,px,_,ax⟩:=hX.at (i:=j) hxi
   obtain ⟨by',oy,py,_,ay⟩:=hY.at (i:=j) hyi
   simp only [MV.s_mk] at px py
   refine ⟨_,_,_,(a1'.ch (c4.trans' (Ch.drew _)) id).s3,by omega,by simp only [MV.s_mk]; omega,?_⟩
   simp only [MV.s_mk,px]
   show nn (some _) _
   simp only [nn,add_at,Int.toNat_natCast]
   refine rd5 ax ?_
   refine ⟨_,_,_,(a2.ch (c4.trans' (Ch.drew _)) id).s3,by omega,by simp only [MV.s_mk]; omega,?_⟩
   simp only [MV.s_mk,py,add_at,Int.toNat_natCast]
   refine rd5 ay ?_
   have vx:=hX.inv.2.2.2.2 x (List.mem_of_getElem? hxi)
   have vy:=hY.inv.2.2.2.2 y (List.mem_of_getElem? hyi)
   rw [vv x,vv y]
   refine ih x (List.mem_of_getElem? hxi) y vx vy fun w5 c5=>⟨_,rfl,?_⟩
   ·refine Sif_cases (fun h=>?_) (fun h=>?_)
    ·rw [Bool.not_eq_true'] at h
     have h:=of_decide_eq_false h
     have:=hk w5 ((c34.trans' (Ch.drew _)).trans' c5)
     rw [decide_eq_false] at this
     ·exact this
     ·intro he
      simp only [M.mk.injEq] at he
      exact h ((mL_eq.1 he.2.2.2.2).2 j (by omega) x y hxi hyi)
    ·rw [Bool.not_eq_false'] at h
     have hxy:=of_decide_eq_true h
     simp only [nameI]
     rw [wrap_id (n:=(j:Int)+1) (by omega) (by omega)]
     refine ⟨s.n-(j+1),by omega,j+1,by omega,rfl,by omega,(c4.trans' (Ch.drew _)).trans' c5,fun q hq a b ha hb=>?_⟩
     by_cases hqj:q=j
     ·subst hqj
      rw [hxi] at ha; rw [hyi] at hb
      cases ha; cases hb; exact hxy
     ·exact hall q (by omega) a b ha hb
  ·have hjl:j=s.n:=by have:=of_decide_eq_false h; omega
   have:=hk w4 c34
   rw [decide_eq_true] at this
   ·exact this
   ·simp only [M.mk.injEq,true_and]
    exact mL_eq.2 ⟨by omega,fun q hq=>hall q (by omega)⟩
 ·refine ⟨_,a1'.k0,_,a2.k0,?_⟩
  simp only [MV.k_mk,int_bne,Bool.not_not]
  refine Sif_cases (fun hk1=>?_) (fun h=>no fun he=>?_)
  ·have hk1:=of_decide_eq_true hk1
   refine ⟨_,a1'.n1,_,a2.n1,?_⟩
   simp only [MV.n_mk]
   refine Sif_cases (fun hn1=>?_) (fun h=>no fun he=>?_)
   ·have hn1:n=n':=by have:=of_decide_eq_true hn1; omega
    refine ⟨_,a1'.t2,_,a2.t2,?_⟩
    simp only [MV.t_mk]
    rw [bs_eq]
    refine Sif_cases (fun ht1=>?_) (fun h=>no fun he=>?_)
    ·have ht1:t=t':=by simpa using ht1
     refine ⟨_,a1'.e4,_,a2.e4,?_⟩
     simp only [MV.e_mk]
     refine Sif_cases (fun he1=>?_) (fun h=>no fun he=>?_)
     ·have he1:=of_decide_eq_true he1
      refine ⟨_,_,_,a1'.s3,_,_,_,a2.s3,?_⟩
      simp only [MV.s_mk]
      refine Sif_cases (fun h=>no fun he=>?_) (fun h=>?_)
      ·simp only [M.mk.injEq] at he
       have:=(mL_eq.1 he.2.2.2.2).1
       rw [Bool.not_eq_true'] at h
       have h:=of_decide_eq_false h
       omega
      ·have hs1:s.n=s'.n:=by
        rw [Bool.not_eq_false'] at h
        have h:=of_decide_eq_true h
        omega
       exact ⟨by trivial,hk1,hn1,ht1,he1,hs1⟩
     ·simp only [M.mk.injEq] at he
      exact of_decide_eq_false h he.2.2.2.1
    ·simp only [M.mk.injEq] at he
     rw [he.2.2.1] at h; simp at h
   ·simp only [M.mk.injEq] at he
    exact of_decide_eq_false h (by omega)
  ·simp only [M.mk.injEq] at he
   exact of_decide_eq_false h he.1
end Go.Proofs.YtnacobknngidkaaGreatDoor
