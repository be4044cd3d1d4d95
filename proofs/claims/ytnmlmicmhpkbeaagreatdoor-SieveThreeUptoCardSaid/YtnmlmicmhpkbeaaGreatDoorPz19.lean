/-
  What a name means in a filter: copies of values, a map's value, the program's Lookup. What a name means in a filter: the program's Lookup. How a filter is written, in plain Lean. No program in sight. DERIVED: THE SHELF's CONTRACTS AT THIS DUMP, IN PLAIN WORDS (tools/lay-plain.mjs out of 'YtnmlmicmhpkbeaaGreatDoorShelf5.lean', which tools/lay-shelf.mjs wrote): THE SAME DECLARATIONS UNDER THE SAME NAMES: 'import', 'namespace', 'open', 'def', 'theorem' AND NOTHING ELSE: no command of the shelf's: FOR A HAND-IN. Each laying: the table of numbers ('.._ren') and one theorem, a field a fact of the dump's own or the kernel's comparison; each contract: ONE APPLICATION. A builder that has room ahead: Grow; strings.ReplaceAll of one byte by two.
-/
import Derived.Test.YtnmlmicmhpkbeaaGreatDoorPz18
import Derived.Lib.ItoaNum
import Derived.Shelf.Strings.Builder1
import Derived.Shelf.Strings.Builder2
import Derived.Shelf.Small.Utf8
import Derived.Shelf.Small.Bits
import Derived.Shelf.Small.Strs
import Derived.Shelf.Small.Wraps
import Derived.Shelf.Strings.BuilderF
import Derived.Shelf.Strings.BuilderK
import Derived.Shelf.Strings.BuilderRune
import Derived.Shelf.Utf8.AppendRunePlain
import Derived.Shelf.Utf8.RuneCount
import Derived.Shelf.Strings.Builder2Cap
import Derived.Shelf.Strconv.Itoa0
import Derived.Shelf.Strconv.Itoa1
import Derived.Shelf.LaysM
import Derived.Shelf.Strconv.Itoa2
import Derived.Shelf.Strconv.Itoa3
import Derived.Shelf.Strconv.Itoa4
import Derived.Shelf.Strconv.ParseIntEmpty
import Derived.Shelf.Strconv.Clone
import Derived.Shelf.Strconv.SyntaxError
import Derived.Shelf.LaysC
import Derived.Shelf.Strconv.ToError
import Derived.Shelf.Strconv.Lower
import Derived.Shelf.Strconv.ParseUint10
import Derived.Shelf.Strconv.ParseUint10Empty
import Derived.Shelf.Strconv.ParseUint10Any
import Derived.Shelf.Strconv.ParseInt10
import Derived.Shelf.Strconv.RangeError
import Derived.Shelf.Strconv.ToErrorRange
import Derived.Shelf.Strconv.ParseUintEmpty
import Derived.Shelf.Strconv.ParseUint10b64
import Derived.Shelf.Strconv.ParseUint10b32
import Derived.Shelf.Strconv.ParseUint10b16
import Derived.Shelf.Strconv.ParseUint10b8
import Derived.Shelf.Strconv.ParseUint10At
import Derived.Shelf.Strconv.ParseInt10At64
import Derived.Shelf.Strconv.ParseInt10At32
import Derived.Shelf.Strconv.ParseInt10At16
import Derived.Shelf.Strconv.ParseInt10At8
import Derived.Shelf.Strconv.ParseInt10All
import Derived.Shelf.Strconv.ParseIntPublic10
import Derived.Shelf.Strconv.ErrVarParseInt
import Derived.Shelf.Strings.Search1
import Derived.Shelf.Strings.Search2
import Derived.Shelf.Strings.Search3
import Derived.Shelf.Strings.Count
import Derived.Shelf.Strings.Shaped
import Derived.Shelf.Strings.Prefix
import Derived.Shelf.Strings.Split
import Derived.Shelf.Strings.Replace
import Derived.Shelf.Strings.SplitShaped
import Derived.Shelf.Unicode.Latin
import Derived.Shelf.Unicode.Decode
import Derived.Shelf.Strings.RuneCount
import Derived.Shelf.Bits.Mul64
import Derived.Shelf.Unicode.DecodeSlow
import Derived.Shelf.Unicode.DecodeAny
import Derived.Shelf.Unicode.CaseLookup
import Derived.Shelf.Unicode.CaseConvert
import Derived.Shelf.Unicode.CaseTo
import Derived.Shelf.Unicode.CaseLaid
import Derived.Shelf.Strings.BuilderCap
import Derived.Ground.Names2Prog
import Derived.Shelf.Slices.SearchI
import Derived.Test.YtnmlmicmhpkbeaaGreatDoorProg
import Derived.Lib.MakeNoZero
import Derived.Lib.IndexLaws
set_option linter.unusedVariables false
set_option linter.unusedSimpArgs false
namespace Go.Proofs.YtnmlmicmhpkbeaaGreatDoor
open Go Go.Sv Go.Note
set_option linter.unusedVariables false
attribute [local irreducible] Sif
theorem is5 {x:MV} {K:Int→Int→ByteArray→Option Addr→Nat→Nat→Int→Prop} (hk:K x.k (x.n:Int) ⟨x.t.toArray⟩ x.s.p x.s.n x.s.c x.e) :
 ∃ n n1 s p n2 c n3,x.v=.agg (Array.mk [.int .i64 n,.int .u64 n1,.string s,.slice p n2 c,.int .i64 n3])∧K n n1 s p n2 c n3:=⟨_,_,_,_,_,_,_,(vv x).symm,hk⟩
theorem sum_mem:∀ {l:List Nat} {x:Nat},x∈l→x≤l.sum
 | y::l,x,h=>by
  rw [List.sum_cons]
  rcases List.mem_cons.1 h with rfl | h
  ·omega
  ·have:=sum_mem h; omega
theorem sum_len:∀ {l:List Nat},(∀ x∈l,1≤x)→l.length≤l.sum
 | [],_=>Nat.zero_le _
 | y::l,h=>by
  have h1:=h y (by simp)
  have h2:=sum_len (l:=l) fun x hx=>h x (by simp [hx])
  rw [List.sum_cons,List.length_cons]; omega
def CopOK (x:MV):Prop:=∀ {Q:Nat→Prop} {w:World} {K:Value→World→Prop},VR Q w x→x.m.sz≤2^40→(∀ (y:MV) (w':World),y.m=x.m→VO w' y→(∀ b∈y.B,w.heap.size≤b)→Ch (fun _=>False) w w'→K y.v w') →
 callP Tryz.prog 192 [x.v] w K
theorem copies_ok {l:List MV} (ih:∀ x∈l,CopOK x) {Q:Nat→Prop} {w:World} {p:Option Addr} {n c:Nat} (hr:VRow Q w p n l) (hsz:∀ x∈l,x.m.sz≤2^40) (hl40:l.length≤2^40) {K:Value→World→Prop}
 (hk:∀ (p':Option Addr) (n' c':Nat) (own:Option Nat) (R:List MV) (w':World),VE.Row w' p' n' c' own R→R.map MV.m=l.map MV.m→(∀ b∈VE.rowB own R,w.heap.size≤b)→Ch (fun _=>False) w w'→K (.slice p' n' c') w') :
 callP Tryz.prog 191 [.slice p n c] w K:=by
 apply ok_value_copies
 have hln:=hr.1
 have hn46:=hr.2.1
 refine ⟨fun m p1 n1 c1 i w1=>∃ (j:Nat) (own:Option Nat) (R:List MV),i=(j:Int)∧m=n-j∧j≤n∧n1=j∧VE.Row w1 p1 n1 c1 own R∧R.map MV.m=(l.take j).map MV.m∧(∀ b∈VE.rowB own R,w.heap.size≤b)∧Ch (fun _=>False) w w1,
  ⟨n,0,none,[],rfl,rfl,Nat.zero_le _,rfl,El.Row.nil (E:=VE),rfl,fun b hb=>?_,Ch.refl _ _⟩,?_⟩
 ·simp [El.rowB] at hb
 rintro m p1 n1 c1 i w1 ⟨j,own,R,rfl,rfl,hj,rfl,hR,hm,hfr,c01⟩
 refine Sif_cases (fun hlt=>?_) (fun hge=>?_)
 ·have hjl:n1<n:=by have:=of_decide_eq_true hlt; omega
  obtain ⟨y,hy⟩:∃ y,l[n1]?=some y:=⟨l[n1]'(by omega),List.getElem?_eq_getElem _⟩
  have hmem:=List.mem_of_getElem? hy
  obtain ⟨b',o,hp,_,hat⟩:=(hr.ch0 c01).at hy
  refine ⟨by omega,by omega,?_⟩
  rw [hp]
  simp only [nn]
  refine ldR hat ?_
  refine nbx rfl fun w2 b2 c2 z2=>?_
  refine ldK b2 ?_
  rw [vv]
  have c02:=c01.trans' c2
  refine ih y hmem (VR.ch0 c02 (hr.2.2.2.2 y hmem)) (hsz y hmem) fun x w3 ex ox fx c3=>?_
  refine is5 ?_
  have hR3:VE.Row w3 p1 n1 c1 own R:=El.Row.ch (El.Row.ch hR c2 fun _ _ h=>h) c3 fun _ _ h=>h
  have hRl:=El.Row.lt (El.Row.ch hR c2 fun _ _ h=>h)
  have e5:[Value.int .i64 x.k,.int .u64 (x.n:Int),.string ⟨x.t.toArray⟩,.slice x.s.p x.s.n x.s.c,.int .i64 x.e]=VE.g x:=by cases x; rfl
  rw [e5]
  refine El.Row.push (E:=VE) (T:=23) (ty:=23) (e:=25) (te:=25) uVals iVal rfl hR3 ox (fun b hb hb2=>by have:=fx b hb; have:=hRl b hb2; omega) (by omega) (by omega) fun p' c' own' w4 hR4 hB4 c4=>?_
  rw [wrap_id (by omega) (by omega)]
  have c03:=c02.trans' c3
  refine ⟨n-(n1+1),by omega,n1+1,own',R++[x],by omega,rfl,by omega,rfl,hR4,?_,fun b hb=>?_,c03.trans c4 fun b hb h=>?_⟩
  ·rw [List.map_append,hm,List.take_add_one,hy]
   simp [ex]
  ·rcases hB4 b hb with h | h | h
   ·exact hfr b h
   ·have:=fx b h; have:=c02.size; omega
   ·have:=c03.size; omega
  ·have:=hfr b ((El.mem_rowB (E:=VE)).2 (.inl h)); omega
 ·have hj2:n1=l.length:=by have:=of_decide_eq_false hge; omega
  rw [hj2,List.take_length] at hm
  exact hk _ _ _ own R w1 hR hm hfr c01
theorem copied_ok:∀ x:MV,CopOK x:=by
 refine MV.ind fun k n t s e l ih=>?_
 intro Q w K hx hsz hk
 obtain ⟨hsl,hl40⟩:(∀ y∈l,y.m.sz≤2^40)∧l.length≤2^40:=by
  rw [MV.m_mk,M.sz_mk] at hsz
  have h1:=fun y hy=>sum_mem (l:=(l.map MV.m).map M.sz) (x:=y) hy
  have h2:=sum_len (l:=(l.map MV.m).map M.sz) fun y hy=>by obtain ⟨z,_,rfl⟩:=List.mem_map.1 hy; cases z; rw [M.sz]; omega
  rw [List.length_map,List.length_map] at h2
  refine ⟨fun y hy=>?_,by omega⟩
  have:=h1 y.m.sz (List.mem_map.2 ⟨y.m,List.mem_map.2 ⟨y,hy,rfl⟩,rfl⟩)
  omega
 rw [← vv]
 apply ok_value_copied
 refine newB_blk fun w1 b1 c1 z1=>?_
 refine newB_blk fun w2 b2 c2 z2=>?_
 have c02:=c1.trans' c2
 have b12:=(c2.blk (blk_lt b1) id).trans b1
 simp only [add_at,Nat.zero_add,Nat.reduceAdd]
 refine ⟨_,_,_,cellP b12 3 rfl,?_⟩
 have hx2:=VR.ch0 c02 hx
 have hrow:VRow Q w2 s.p s.n l:=hx2.row
 refine copies_ok ih hrow hsl hl40 fun p' n' c' own R w3 hR hm hfr c3=>⟨_,_,_,rfl,?_⟩
 have b13:=(c3.blk (blk_lt b12) id).trans b12
 have b23:=(c3.blk (blk_lt b2) id).trans b2
 have hz2:w2.heap.size=w.heap.size+2:=by omega
 have hRn:R.length=n':=hR.1
 have hln:l.length=s.n:=hrow.1
 have hRl:R.length=l.length:=by have:=congrArg List.length hm; simpa using this
 have hn46:=hrow.2.1
 refine st_blk b13 (by simp [MV.g]) fun w4 b4 c4 z4=>?_
 have b4:blk w4 w.heap.size=some (MV.mk k n t ⟨p',n',c',own⟩ e R).g:=b4
 refine ld5v b4 ?_
 have b24:=(c4.blk (blk_lt b23) (by omega)).trans b23
 have hR4:VE.Row w4 p' n' c' own R:=El.Row.ch hR c4 fun b hb h=>by have:=hfr b hb; omega
 refine fin5 (x:=MV.mk k n t ⟨p',n',c',own⟩ e R) b24 rfl fun w5 b5 c5 z5=>?_
 have hR5:VE.Row w5 p' n' c' own R:=El.Row.ch hR4 c5 fun b hb h=>by have:=hfr b hb; have:=c1.size; omega
 obtain ⟨h1,h2,h3,h4⟩:=hR5
 refine hk (MV.mk k n t ⟨p',n',c',own⟩ e R) w5 (by rw [MV.m_mk,MV.m_mk,hm]) (.mk h1 (by show n'≤_; omega) h2 h3 h4) (fun b hb=>?_) ?_
 ·rw [MV.B_mk] at hb
  have:=hfr b hb; omega
 ·exact ((c02.trans' c3).trans c4 fun y hy h=>by omega).trans c5 fun y hy h=>by omega
theorem VR.zero {Q:Nat→Prop} (w:World):VR Q w zMV:=VO.vr zMV (zMV_ok w) _ fun b hb=>by rw [zMV_B] at hb; cases hb
theorem Find_ok {m key:MV} {Q Q':Nat→Prop} {w:World} (hm:VR Q w m) (hmz:m.m.sz≤2^40) (hkey:VR Q' w key) {K:Value→World→Prop} (hk:∀ (y:MV) (b:Bool) (w':World),y.m=findB m.m key.m→VO w' y→(∀ z∈y.B,w.heap.size≤z)→Ch (fun _=>False) w w'→K (.tuple (Array.mk [y.v,.bool b])) w') :
 callP Tryz.prog 153 [m.v,key.v] w K:=by
 rw [← vv m,← vv key]
 apply ok_value_Find
 refine newB_blk fun w1 b1 c1 z1=>?_
 refine newB_blk fun w2 b2 c2 z2=>?_
 refine newB_blk fun w3 b3 c3 z3=>?_
 have b1:blk w1 w.heap.size=some m.g:=b1.trans (by cases m; rfl)
 have b2:blk w2 w1.heap.size=some key.g:=b2.trans (by cases key; rfl)
 have c03:=(c1.trans' c2).trans' c3
 have b13:=(c3.blk (by have:=blk_lt b1; have:=c2.size; omega) id).trans ((c2.blk (blk_lt b1) id).trans b1)
 have b23:=(c3.blk (blk_lt b2) id).trans b2
 simp only [add_at,Nat.zero_add]
 refine ⟨_,MV.c0 b13,?_⟩
 obtain ⟨mk,mn,mt⟩:=m.mf
 have ml:m.m.l=m.l.map MV.m:=by cases m; rw [MV.m_mk]; rfl
 unfold findB at hk
 rw [mk,ml] at hk
 have zero:∀ {w':World} {b:Bool},Ch (fun _=>False) w w'→blk w' w2.heap.size=some zMV.g→∀ {K2:Value→World→Prop},(∀ w'',Ch (fun _=>False) w w''→K2 zMV.v w'') →
  Sv.st w' ⟨w2.heap.size,0,none⟩ (.int .i64 0) fun w1=>Sv.st w1 ⟨w2.heap.size,1,none⟩ (.int .u64 0) fun w3=>Sv.st w3 ⟨w2.heap.size,2,none⟩ (.string (ByteArray.mk (Array.mk []))) fun w4=>Sv.st w4 ⟨w2.heap.size,3,none⟩ (.slice none 0 0) fun w5=>Sv.st w5 ⟨w2.heap.size,4,none⟩ (.int .i64 0) fun w =>
   ∃ n,w.cell? ⟨w2.heap.size,0,none⟩=some (.int .i64 n)∧∃ n1,w.cell? ⟨w2.heap.size,1,none⟩=some (.int .u64 n1)∧∃ s,w.cell? ⟨w2.heap.size,2,none⟩=some (.string s)∧∃ p n2 c,w.cell? ⟨w2.heap.size,3,none⟩=some (.slice p n2 c)∧∃ n3,w.cell? ⟨w2.heap.size,4,none⟩=some (.int .i64 n3)∧K2 (.agg (Array.mk [.int .i64 n,.int .u64 n1,.string s,.slice p n2 c,.int .i64 n3])) w:=fun {w' b} c hb {K2} hk2=>by
  refine fin5 (x:=zMV) hb rfl fun w5 b5 c5 z5=>hk2 w5 (c.trans c5 fun y hy h=>?_)
  have:=c1.size; have:=c2.size; omega
 rw [bne,intEq]
 refine Sif_cases (fun h=>?_) (fun h=>?_)
 ·have h:¬ m.k=22:=by simpa using h
  rw [if_neg h] at hk
  refine zero (b:=false) c03 b3 (K2:=fun v w=>K (.tuple (Array.mk [v,.bool false])) w) fun w' c=>hk zMV false w' zMV_m (zMV_ok _) (fun z hz=>by rw [zMV_B] at hz; cases hz) c
 have h22:m.k=22:=by simpa using h
 rw [if_pos h22] at hk
 have hrow:VRow Q w m.s.p m.s.n m.l:=hm.row
 have hkz:∀ y∈m.l,y.m.sz≤2^40:=fun y hy=>by
  cases m with
  | mk k n t s e l =>
   rw [MV.m_mk,M.sz_mk] at hmz
   have:=sum_mem (l:=(l.map MV.m).map M.sz) (x:=y.m.sz) (List.mem_map.2 ⟨y.m,List.mem_map.2 ⟨y,hy,rfl⟩,rfl⟩)
   omega
 have hln:=hrow.1
 have hn46:=hrow.2.1
 refine ⟨fun f i w4=>∃ j:Nat,i=(j:Int)∧f=m.s.n+2-j∧j≤m.s.n+1∧findP key.m ((m.l.drop j).map MV.m)=findP key.m (m.l.map MV.m)∧Ch (fun _=>False) w3 w4,⟨m.s.n+2,0,rfl,rfl,by omega,rfl,Ch.refl _ _⟩,?_⟩
 rintro f i w4 ⟨j,rfl,rfl,hj,he,c34⟩
 have c04:=c03.trans' c34
 have b14:=(c34.blk (blk_lt b13) id).trans b13
 have b24:=(c34.blk (blk_lt b23) id).trans b23
 have b34:=(c34.blk (blk_lt b3) id).trans b3
 refine ⟨_,_,_,MV.c3 b14,?_⟩
 rw [wrap_id (n:=(j:Int)+1) (by omega) (by omega)]
 refine Sif_cases (fun hlt=>?_) (fun hge=>?_)
 ·have hjl:j+1<m.s.n:=by have:=of_decide_eq_true hlt; omega
  obtain ⟨x,hx⟩:∃ x,m.l[j]?=some x:=⟨m.l[j]'(by omega),List.getElem?_eq_getElem _⟩
  obtain ⟨y,hy⟩:∃ y,m.l[j+1]?=some y:=⟨m.l[j+1]'(by omega),List.getElem?_eq_getElem _⟩
  obtain ⟨b',o,hp,_,hat⟩:=(hrow.ch0 c04).at hx
  obtain ⟨b'',o2,hp2,_,hat2⟩:=(hrow.ch0 c04).at hy
  have hd:m.l.drop j=x::y::m.l.drop (j+2):=by
   rw [List.drop_eq_getElem_cons (by omega),List.drop_eq_getElem_cons (by omega)]
   rw [List.getElem?_eq_getElem (by omega)] at hx hy
   cases hx; cases hy; rfl
  rw [hd,List.map_cons,List.map_cons,findP] at he
  refine ⟨_,_,_,MV.c3 (w:=w4.drew) b14,by omega,by omega,?_⟩
  rw [hp]
  simp only [nn]
  refine ldR (w:=w4.drew) (i:=j) hat ?_
  refine ld5v (w:=w4.drew) b24 ?_
  rw [vv,vv]
  have c04d:=c04.trans' (Ch.drew w4)
  refine vEqual_ok (Q:=Q) (Q':=Q') x key (VR.ch0 c04d (hrow.2.2.2.2 x (List.mem_of_getElem? hx))) (VR.ch0 c04d hkey) fun w5 c5=>⟨_,rfl,?_⟩
  have c05:=c04d.trans' c5
  have cd5:Ch (fun _=>False) w4 w5:=(Ch.drew w4).trans' c5
  refine Sif_cases (fun hq=>?_) (fun hq=>?_)
  ·rw [if_pos (of_decide_eq_true hq)] at he
   rw [← he] at hk
   refine ⟨_,_,_,MV.c3 ((cd5.blk (blk_lt b14) id).trans b14),by omega,by omega,?_⟩
   rw [hp2]
   simp only [nn]
   rw [show (j:Int)+1=((j+1:Nat):Int) by omega]
   refine ldR (i:=j+1) (hat2.ch cd5 id) ?_
   rw [vv]
   refine copied_ok y (VR.ch0 c05 (hrow.2.2.2.2 y (List.mem_of_getElem? hy))) (hkz y (List.mem_of_getElem? hy)) fun z w6 ez oz fz c6=>?_
   refine is5 ?_
   have b36:=(c6.blk (by have:=blk_lt b34; have:=cd5.size; omega) id).trans ((cd5.blk (blk_lt b34) id).trans b34)
   refine fin5 (x:=z) (K:=fun v w=>K (.tuple (Array.mk [v,.bool true])) w) b36 rfl fun w7 b7 c7 z7=>?_
   have s1:=c1.size; have s2:=c2.size; have s3:=c03.size; have s5:=c05.size; have s34:=blk_lt b34
   have s45:=cd5.size
   refine hk z true w7 ez (VO.ch c7 z oz fun b hb h=>by have:=fz b hb; omega) (fun b hb=>by have:=fz b hb; omega) ((c05.trans' c6).trans c7 fun q hq h=>by omega)
  ·rw [if_neg (of_decide_eq_false hq)] at he
   rw [nameI_iff,wrap_id (by omega) (by omega)]
   exact ⟨m.s.n+2-(j+2),by omega,j+2,by omega,rfl,by omega,he,c34.trans' cd5⟩
 ·have hjl:m.s.n≤j+1:=by have:=of_decide_eq_false hge; omega
  have hz:findP key.m (m.l.map MV.m)=zeroM:=by
   rw [← he]
   cases hdd:m.l.drop j with
   | nil=>rfl
   | cons a r =>
    have:(m.l.drop j).length≤1:=by rw [List.length_drop]; omega
    rw [hdd] at this
    cases r with
    | nil=>rfl
    | cons _ _=>simp at this
  rw [hz] at hk
  refine zero (b:=false) c04 b34 (K2:=fun v w=>K (.tuple (Array.mk [v,.bool false])) w) fun w' c=>hk zMV false w' zMV_m (zMV_ok _) (fun z hz=>by rw [zMV_B] at hz; cases hz) c
end Go.Proofs.YtnmlmicmhpkbeaaGreatDoor
namespace Go.Proofs.YtnmlmicmhpkbeaaGreatDoor
open Go Go.Sv Go.Note
set_option linter.unusedVariables false
attribute [local irreducible] Sif
theorem asAgg_of {n:Nat} {m:List Value} {K:List Value→Prop} (h:m.length=n) (hk:K m):asAggV n (.agg m.toArray) K:=by
 show asAggC n m.toArray K
 unfold asAggC
 rw [if_pos (by simpa using h)]
 simpa using hk
theorem ldBig_of {w:World} {k o n:Nat} {cs:List Value} {K:List Value→Prop} (h:blk w k=some cs) (hn:o+n≤cs.length) (hk:K ((cs.drop o).take n)):ldBig w (Addr.add ⟨k,0,none⟩ o) n K:=by
 refine ⟨_,by rw [List.length_take,List.length_drop]; omega,fun i v hv=>?_,hk⟩
 rw [add_at,add_at,Nat.zero_add,cell_blk h]
 rw [List.getElem?_take] at hv
 split at hv
 ·rw [List.getElem?_drop] at hv; exact hv
 ·cases hv
theorem stCells_blk:∀ (vs:List Value) (o:Nat) {w:World} {k:Nat} {cs:List Value} {K:World→Prop},blk w k=some cs→o+vs.length≤cs.length→(∀ v∈vs,oneV v=true) →
 (∀ w',blk w' k=some (putSeg cs o vs)→Ch (·=k) w w'→w'.heap.size=w.heap.size→K w')→stCells w ⟨k,0,none⟩ vs o K
 | [],o,w,k,cs,K,hb,hl,h1,hk=>by
  unfold stCells
  exact hk w (by rw [putSeg_nil]; exact hb) (Ch.refl _ _) rfl
 | [v],o,w,k,cs,K,hb,hl,h1,hk=>by
  unfold stCells
  rw [h1 v (by simp)]
  refine Sif_true ?_
  rw [add_at,Nat.zero_add]
  simp only [List.length_cons,List.length_nil] at hl
  refine st_blk hb (by omega) fun w1 b1 c1 z1=>hk w1 ?_ c1 z1
  rw [b1,← putSeg_cons cs o v [] (by omega),putSeg_nil]
 | v::u::l,o,w,k,cs,K,hb,hl,h1,hk=>by
  unfold stCells
  rw [h1 v (by simp)]
  refine Sif_true ?_
  rw [add_at,Nat.zero_add]
  simp only [List.length_cons] at hl
  refine st_blk hb (by omega) fun w1 b1 c1 z1=>?_
  refine stCells_blk (u::l) (o+1) b1 (by simp; omega) (fun x hx=>h1 x (by simp at hx ⊢; exact .inr hx)) fun w2 b2 c2 z2=>hk w2 (by rw [b2,putSeg_cons cs o v (u::l) (by omega)]) (c1.trans' c2) (by rw [z2,z1])
def GV.hg (x:GV):List Value:=[.bool x.has,.bool x.dur,.int .i64 x.pri,.int .i64 x.ttl,.bool x.fst,.int .i64 x.cnt]
def GV.pg (x:GV):List Value:=(x.g.drop 16).take 22
theorem GV.glen (x:GV):x.g.length=56:=by rw [GV.cells]; rfl
theorem GV.pc (x:GV):x.pg=[.bool x.ph,
 .int .i64 x.mid.k,.int .u64 (x.mid.n:Int),.string ⟨x.mid.t.toArray⟩,.slice x.mid.s.p x.mid.s.n x.mid.s.c,.int .i64 x.mid.e,
 .string ⟨x.usr.toArray⟩,.string ⟨x.to9.toArray⟩,.string ⟨x.sub.toArray⟩,.string ⟨x.rep.toArray⟩,
 .int .i64 x.cor.k,.int .u64 (x.cor.n:Int),.string ⟨x.cor.t.toArray⟩,.slice x.cor.s.p x.cor.s.n x.cor.s.c,.int .i64 x.cor.e,
 .string ⟨x.typ.toArray⟩,.string ⟨x.enc.toArray⟩,.int .i64 x.exp,.int .i64 x.cre,.string ⟨x.grp.toArray⟩,.int .i64 x.seq,.string ⟨x.rgp.toArray⟩]:=by
 unfold GV.pg
 rw [GV.cells]; rfl
theorem GV.pone (x:GV):∀ v∈x.pg,oneV v=true:=by
 rw [GV.pc]
 intro v hv
 simp only [List.mem_cons,List.not_mem_nil,or_false] at hv
 rcases hv with h | h | h | h | h | h | h | h | h | h | h | h | h | h | h | h | h | h | h | h | h | h<;>rw [h]<;>rfl
theorem ldO {w:World} {k o:Nat} {cs:List Value} {x:MV} {K:Int→Int→ByteArray→Option Addr→Nat→Nat→Int→Prop} (h:blk w k=some cs) (h0:cs[o]?=some (.int .i64 x.k)) (h1:cs[o+1]?=some (.int .u64 (x.n:Int))) (h2:cs[o+2]?=some (.string ⟨x.t.toArray⟩)) (h3:cs[o+3]?=some (.slice x.s.p x.s.n x.s.c)) (h4:cs[o+4]?=some (.int .i64 x.e))
 (hk:K x.k (x.n:Int) ⟨x.t.toArray⟩ x.s.p x.s.n x.s.c x.e) :
 ∃ n,w.cell? (Addr.add (Addr.add ⟨k,0,none⟩ o) 0)=some (.int .i64 n)∧∃ n1,w.cell? (Addr.add (Addr.add ⟨k,0,none⟩ o) 1)=some (.int .u64 n1)∧∃ s,w.cell? (Addr.add (Addr.add ⟨k,0,none⟩ o) 2)=some (.string s)∧∃ p n2 c,w.cell? (Addr.add (Addr.add ⟨k,0,none⟩ o) 3)=some (.slice p n2 c)∧∃ n3,w.cell? (Addr.add (Addr.add ⟨k,0,none⟩ o) 4)=some (.int .i64 n3)∧K n n1 s p n2 c n3:=by
 simp only [add_at,Nat.zero_add]
 exact ⟨_,(cell_blk h _).trans h0,_,(cell_blk h _).trans h1,_,(cell_blk h _).trans h2,_,_,_,(cell_blk h _).trans h3,_,(cell_blk h _).trans h4,hk⟩
theorem ret5 {w:World} {k:Nat} {zs:List Value} {x:MV} {K:Value→World→Prop} (h:blk w k=some zs) (hl:zs.length=5) (hk:∀ w',blk w' k=some x.g→Ch (·=k) w w'→w'.heap.size=w.heap.size→K x.v w') :
 Sv.st w (Addr.add ⟨k,0,none⟩ 0) (.int .i64 x.k) fun w1=>Sv.st w1 (Addr.add ⟨k,0,none⟩ 1) (.int .u64 (x.n:Int)) fun w2=>Sv.st w2 (Addr.add ⟨k,0,none⟩ 2) (.string ⟨x.t.toArray⟩) fun w3=>Sv.st w3 (Addr.add ⟨k,0,none⟩ 3) (.slice x.s.p x.s.n x.s.c) fun w4=>Sv.st w4 (Addr.add ⟨k,0,none⟩ 4) (.int .i64 x.e) fun w =>
 ∃ n,w.cell? (Addr.add ⟨k,0,none⟩ 0)=some (.int .i64 n)∧∃ n1,w.cell? (Addr.add ⟨k,0,none⟩ 1)=some (.int .u64 n1)∧∃ s,w.cell? (Addr.add ⟨k,0,none⟩ 2)=some (.string s)∧∃ p n2 c,w.cell? (Addr.add ⟨k,0,none⟩ 3)=some (.slice p n2 c)∧∃ n3,w.cell? (Addr.add ⟨k,0,none⟩ 4)=some (.int .i64 n3) ∧
  K (.agg (Array.mk [.int .i64 n,.int .u64 n1,.string s,.slice p n2 c,.int .i64 n3])) w:=by
 simp only [add_at,Nat.zero_add]
 exact fin5 h hl hk
theorem mtruth_ok {b:Bool} {w:World} {K:Value→World→Prop} (hk:∀ w',Ch (fun _=>False) w w'→K (flatM 1 (if b then 1 else 0) []).v w'):callP Tryz.prog 149 [.bool b] w K:=by
 apply ok_message_truth
 refine newB_blk fun w1 b1 c1 z1=>?_
 refine nbx (x:=flatM 1 0 []) rfl fun w2 b2 c2 z2=>?_
 refine ⟨fun w3=>blk w3 w1.heap.size=some (flatM 1 (if b then 1 else 0) []).g∧blk w3 w.heap.size=some zMV.g∧Ch (fun _=>False) w w3,?_,?_⟩
 ·rintro w3 ⟨b3,b13,c3⟩
  refine ldK b3 ?_
  refine ret5 (x:=flatM 1 (if b then 1 else 0) []) b13 rfl fun w4 b4 c4 z4=>hk w4 (c3.trans c4 fun y hy h=>by omega)
 ·have b12:blk w2 w.heap.size=some zMV.g:=(c2.blk (blk_lt b1) id).trans b1
  have c02:=c1.trans' c2
  simp only [add_at,Nat.zero_add,Nat.add_zero]
  cases b with
  | true =>
   refine Sif_true ?_
   refine st_blk b2 (by simp [flatM,MV.g]) fun w3 b3 c3 z3=>⟨b3,(c3.blk (blk_lt b12) (by omega)).trans b12,c02.trans c3 fun y hy h=>by omega⟩
  | false=>exact Sif_false ⟨b2,b12,c02⟩
theorem mword_ok {n:Int} {w:World} {K:Value→World→Prop} (hk:∀ w',Ch (fun _=>False) w w'→K (if n<0 then zMV else flatM 4 (n%4294967296).toNat []).v w'):callP Tryz.prog 150 [.int .i64 n] w K:=by
 apply ok_message_word
 refine newB_blk fun w1 b1 c1 z1=>?_
 refine Sif_cases (fun h=>?_) (fun h=>?_)
 ·rw [if_pos (of_decide_eq_true h)] at hk
  refine ret5 (x:=zMV) b1 rfl fun w4 b4 c4 z4=>hk w4 (c1.trans c4 fun y hy h=>by omega)
 ·rw [if_neg (of_decide_eq_false h)] at hk
  have e:IntKind.wrap .u64 (IntKind.wrap .u32 n)=((n%4294967296).toNat:Int):=by
   simp [IntKind.wrap,IntKind.bits,IntKind.signed]
   omega
  rw [e]
  refine ret5 (x:=flatM 4 (n%4294967296).toNat []) b1 rfl fun w4 b4 c4 z4=>hk w4 (c1.trans c4 fun y hy h=>by omega)
theorem mtext_ok {k:Int} {s:Bs} {w:World} {K:Value→World→Prop} (hk:∀ w',Ch (fun _=>False) w w'→K (if s=[] then zMV else flatM k 0 s).v w'):callP Tryz.prog 152 [.int .i64 k,.string ⟨s.toArray⟩] w K:=by
 apply ok_message_text
 refine newB_blk fun w1 b1 c1 z1=>?_
 rw [show ((ByteArray.mk s.toArray).toList == (ByteArray.mk (Array.mk [])).toList)=decide (s=[]) from seq3 s []]
 refine Sif_cases (fun h=>?_) (fun h=>?_)
 ·rw [if_pos (of_decide_eq_true h)] at hk
  refine ret5 (x:=zMV) b1 rfl fun w4 b4 c4 z4=>hk w4 (c1.trans c4 fun y hy h=>by omega)
 ·rw [if_neg (of_decide_eq_false h)] at hk
  refine ret5 (x:=flatM k 0 s) b1 rfl fun w4 b4 c4 z4=>hk w4 (c1.trans c4 fun y hy h=>by omega)
theorem Listed_ok {x:MV} {Q:Nat→Prop} {w:World} {k:Nat} (hb:blk w k=some x.g) (hx:VR Q w x) (hz:x.m.sz≤2^39) {K:Value→World→Prop}
 (hk:∀ (p:Option Addr) (n c:Nat) (own:Option Nat) (R:List MV) (w':World),VE.Row w' p n c own R→R.map MV.m=[x.m]→(∀ b∈VE.rowB own R,w.heap.size≤b)→Ch (fun _=>False) w w'→K (MV.mk 21 0 [] ⟨p,n,c,own⟩ 0 R).v w') :
 callP Tryz.prog 151 [.slice (some ⟨k,0,none⟩) 1 1] w K:=by
 apply ok_value_Listed
 refine newB_blk fun w1 b1 c1 z1=>?_
 have hrow:VRow (fun _=>True) w1 (some ⟨k,0,none⟩) 1 [x]:=by
  refine ⟨rfl,by decide,⟨by simp [MV.glen],.inr ⟨k,0,x.g,rfl,blk_cells ((c1.blk (blk_lt hb) id).trans hb),by rw [MV.glen]; decide,?_⟩⟩,fun _ _ _=>trivial,fun y hy=>?_⟩
  ·simp only [List.flatMap_cons,List.flatMap_nil,List.append_nil,List.drop_zero]
   exact List.take_of_length_le (by rw [MV.glen]; decide)
  ·rw [List.mem_singleton.1 hy]
   exact VR.mono (fun _ _=>trivial) x (VR.ch0 c1 hx)
 refine copies_ok (fun y _=>copied_ok y) hrow (fun y hy=>by rw [List.mem_singleton.1 hy]; omega) (by simp) fun p' n' c' own R w2 hR hm hfr c2=>⟨_,_,_,rfl,?_⟩
 refine ret5 (x:=MV.mk 21 0 [] ⟨p',n',c',own⟩ 0 R) ((c2.blk (blk_lt b1) id).trans b1) rfl fun w3 b3 c3 z3=>?_
 refine hk p' n' c' own R w3 (El.Row.ch hR c3 fun b hb h=>by have:=hfr b hb; omega) (by simpa using hm) (fun b hb=>by have:=hfr b hb; omega) ((c1.trans' c2).trans c3 fun y hy h=>by omega)
theorem rdO {w:World} {b o:Nat} {x:MV} {K:Int→Int→ByteArray→Option Addr→Nat→Nat→Int→Prop} (h:At w b (o+0) x) (hk:K x.k (x.n:Int) ⟨x.t.toArray⟩ x.s.p x.s.n x.s.c x.e) :
 ∃ n,w.cell? (Addr.add (Addr.add ⟨b,o,none⟩ 0) 0)=some (.int .i64 n)∧∃ n1,w.cell? (Addr.add (Addr.add ⟨b,o,none⟩ 0) 1)=some (.int .u64 n1)∧∃ s,w.cell? (Addr.add (Addr.add ⟨b,o,none⟩ 0) 2)=some (.string s)∧∃ p n2 c,w.cell? (Addr.add (Addr.add ⟨b,o,none⟩ 0) 3)=some (.slice p n2 c)∧∃ n3,w.cell? (Addr.add (Addr.add ⟨b,o,none⟩ 0) 4)=some (.int .i64 n3)∧K n n1 s p n2 c n3:=by
 simp only [add_at]
 exact rd5 h hk
theorem wordV_m (n:Int):(if n<0 then zMV else flatM 4 (n%4294967296).toNat []).m=lowM n:=by
 unfold lowM
 split
 ·exact zMV_m
 ·exact flatM_m _ _ _
theorem wordV_B (n:Int):(if n<0 then zMV else flatM 4 (n%4294967296).toNat []).B=[]:=by
 split
 ·exact zMV_B
 ·exact flatM_B _ _ _
theorem wordV_ok (n:Int) (w:World):VO w (if n<0 then zMV else flatM 4 (n%4294967296).toNat []):=by
 split
 ·exact zMV_ok w
 ·exact flatM_ok w _ _ _
theorem textV_m (k:Int) (s:Bs):(if s=[] then zMV else flatM k 0 s).m=sayM k s:=by
 unfold sayM
 split
 ·exact zMV_m
 ·exact flatM_m _ _ _
theorem textV_B (k:Int) (s:Bs):(if s=[] then zMV else flatM k 0 s).B=[]:=by
 split
 ·exact zMV_B
 ·exact flatM_B _ _ _
theorem textV_ok (k:Int) (s:Bs) (w:World):VO w (if s=[] then zMV else flatM k 0 s):=by
 split
 ·exact zMV_ok w
 ·exact flatM_ok w _ _ _
set_option maxHeartbeats 2000000 in
theorem Lookup_ok {x:GV} {s:Bs} {Q:Nat→Prop} {w:World} (hx:GR Q w x) (hz1:x.mid.m.sz≤2^39) (hz2:x.cor.m.sz≤2^39) (hz3:x.app.m.sz≤2^39) {K:Value→World→Prop}
 (hk:∀ (y:MV) (w':World),y.m=lookB x.m s→VO w' y→(∀ b∈y.B,w.heap.size≤b)→Ch (fun _=>False) w w'→K y.v w') :
 callP Tryz.prog 97 [x.v,.string ⟨s.toArray⟩] w K:=by
 apply ok_message_Lookup
 refine asAgg_of x.glen ?_
 refine newB_blk fun w1 b1 c1 z1=>?_
 refine newB_blk fun w2 b2 c2 z2=>?_
 have b2:blk w2 w1.heap.size=some zMV.g:=b2
 have c02:=c1.trans' c2
 have b12:=(c2.blk (blk_lt b1) id).trans b1
 refine ⟨fun p p1 w3=>∃ k1 k2:Nat,p=some ⟨k1,0,none⟩∧p1=some ⟨k2,0,none⟩∧blk w3 k1=some x.hg∧blk w3 k2=some x.pg∧w1.heap.size<k1∧w1.heap.size<k2∧Ch (fun _=>False) w2 w3,?_,?_⟩
 ·rintro p p1 w3 ⟨k1,k2,rfl,rfl,e1,e2,h1,h2,c23⟩
  have c03:=c02.trans' c23
  have b13:=(c23.blk (blk_lt b12) id).trans b12
  have b23:=(c23.blk (blk_lt b2) id).trans b2
  have hs1:=c1.size
  have q3:∀ m:Bs,((ByteArray.mk s.toArray).toList == (ByteArray.mk (Array.mk m)).toList)=decide (s=m):=fun m=>seq3 s m
  simp only [q3,nn]
  unfold lookB at hk
  have don:∀ {y:MV} {m:M} {w' w'':World},(∀ (y:MV) (w':World),y.m=m→VO w' y→(∀ b∈y.B,w.heap.size≤b)→Ch (fun _=>False) w w'→K y.v w')→y.m=m→y.B=[]→(∀ w,VO w y)→Ch (fun _=>False) w3 w'→Ch (·=w1.heap.size) w' w''→K y.v w'':=fun {y m w' w''} hk em eB ho c c' =>
   hk y w'' em (ho _) (fun b hb=>by rw [eB] at hb; cases hb) ((c03.trans' c).trans c' fun z hz h=>by omega)
  have a1:∀ {w':World},Ch (fun _=>False) w3 w'→blk w' w1.heap.size=some zMV.g:=fun c=>(c.blk (blk_lt b23) id).trans b23
  have e2:=e2.trans (congrArg some x.pc)
  -- a list of one, its value
  have lst:∀ {z:MV} {m:M} {w4:World},(∀ (y:MV) (w':World),y.m=m→VO w' y→(∀ b∈y.B,w.heap.size≤b)→Ch (fun _=>False) w w'→K y.v w')→z.m=m→VR Q w z→z.m.sz≤2^39→∀ {K5:Value→World→Prop},(∀ (p:Option Addr) (c:Nat) (w5:World),(∃ (b o:Nat) (y:MV),p=some ⟨b,o,none⟩∧At w5 b (o+0) y∧(∀ w6,Ch (·=w1.heap.size) w5 w6→K y.v w6)∧blk w5 w1.heap.size=some zMV.g)→K5 (MV.mk 21 0 [] ⟨p,1,c,none⟩ 0 []).v w5) →
   newB w3 [.int .i64 z.k,.int .u64 (z.n:Int),.string ⟨z.t.toArray⟩,.slice z.s.p z.s.n z.s.c,.int .i64 z.e] 25 fun a3 w4=>callP Tryz.prog 151 [.slice (some a3) 1 1] w4 K5:=fun {z m w4} hk em hz hsz {K5} hk5=>by
   refine newB_blk fun w4 b4 c4 z4=>?_
   have b4:blk w4 w3.heap.size=some z.g:=b4.trans (by cases z; rfl)
   refine Listed_ok b4 (VR.ch0 (c03.trans' c4) hz) hsz fun p n c own R w5 hR hm hfr c5=>?_
   obtain ⟨y,rfl⟩:∃ y,R=[y]:=by
    cases R with
    | nil=>cases hm
    | cons y R=>cases R with
     | nil=>exact ⟨y,rfl⟩
     | cons _ _=>simp at hm
   have hn:n=1:=hR.1.symm
   subst hn
   have hym:y.m=m:=by rw [← em]; simpa using hm
   obtain ⟨b,o,hp,hat⟩:=Rd.at MV.glen (L:=[y]) (i:=0) (x:=y) hR.2.1.rd rfl (by decide)
   have c45:=c4.trans' c5
   refine hk5 p c w5 ⟨b,o,y,hp,hat,fun w6 c6=>?_,a1 c45⟩
   have hs3:=c03.size
   have hs4:=c4.size
   refine hk y w6 hym (VO.ch c6 y (hR.2.2.1 y (by simp)) fun z hz h=>?_) (fun z hz=>?_) ((c03.trans' c45).trans c6 fun z hz h=>by omega)
   ·have:=hfr z ((El.mem_rowB (E:=VE)).2 (.inr ⟨y,by simp,hz⟩)); have:=blk_lt b23; omega
   ·have:=hfr z ((El.mem_rowB (E:=VE)).2 (.inr ⟨y,by simp,hz⟩)); omega
  refine Sif_cases (fun h=>?_) (fun h=>?_)
  ·rw [if_pos (of_decide_eq_true h)] at hk
   refine ⟨_,by rw [add_at]; exact cellP e1 2 rfl,?_⟩
   rw [show IntKind.wrap .u64 (IntKind.wrap .u8 x.pri)=((x.pri%256).toNat:Int) by simp [IntKind.wrap,IntKind.bits,IntKind.signed]; omega]
   exact ret5 (x:=flatM 2 (x.pri%256).toNat []) b23 rfl fun w4 b4 c4 z4=>don hk (flatM_m _ _ _) (flatM_B _ _ _) (fun w=>flatM_ok w _ _ _) (Ch.refl _ _) c4
  rw [if_neg (of_decide_eq_false h)] at hk
  refine Sif_cases (fun h=>?_) (fun h=>?_)
  ·rw [if_pos (of_decide_eq_true h)] at hk
   refine ⟨_,by rw [add_at]; exact cellP e1 1 rfl,?_⟩
   refine mtruth_ok fun w4 c4=>is5 ?_
   exact ret5 (x:=flatM 1 (if x.dur then 1 else 0) []) (a1 c4) rfl fun w5 b5 c5 z5=>don hk (flatM_m _ _ _) (flatM_B _ _ _) (fun w=>flatM_ok w _ _ _) c4 c5
  rw [if_neg (of_decide_eq_false h)] at hk
  refine Sif_cases (fun h=>?_) (fun h=>?_)
  ·rw [if_pos (of_decide_eq_true h)] at hk
   refine ⟨_,by rw [add_at]; exact cellP e1 4 rfl,?_⟩
   refine mtruth_ok fun w4 c4=>is5 ?_
   exact ret5 (x:=flatM 1 (if x.fst then 1 else 0) []) (a1 c4) rfl fun w5 b5 c5 z5=>don hk (flatM_m _ _ _) (flatM_B _ _ _) (fun w=>flatM_ok w _ _ _) c4 c5
  rw [if_neg (of_decide_eq_false h)] at hk
  refine Sif_cases (fun h=>?_) (fun h=>?_)
  ·rw [if_pos (of_decide_eq_true h)] at hk
   refine ⟨_,by rw [add_at]; exact cellP e1 3 rfl,?_⟩
   refine mword_ok fun w4 c4=>is5 ?_
   exact ret5 (x:=if x.ttl<0 then zMV else flatM 4 (x.ttl%4294967296).toNat []) (a1 c4) rfl fun w5 b5 c5 z5=>don hk (wordV_m x.ttl) (wordV_B _) (wordV_ok _) c4 c5
  rw [if_neg (of_decide_eq_false h)] at hk
  refine Sif_cases (fun h=>?_) (fun h=>?_)
  ·rw [if_pos (of_decide_eq_true h)] at hk
   refine ⟨_,by rw [add_at]; exact cellP e1 5 rfl,?_⟩
   rw [show IntKind.wrap .u64 (IntKind.wrap .u32 x.cnt)=((x.cnt%4294967296).toNat:Int) by simp [IntKind.wrap,IntKind.bits,IntKind.signed]; omega]
   exact ret5 (x:=flatM 4 (x.cnt%4294967296).toNat []) b23 rfl fun w4 b4 c4 z4=>don hk (flatM_m _ _ _) (flatM_B _ _ _) (fun w=>flatM_ok w _ _ _) (Ch.refl _ _) c4
  rw [if_neg (of_decide_eq_false h)] at hk
  refine Sif_cases (fun h=>?_) (fun h=>?_)
  ·rw [if_pos (of_decide_eq_true h)] at hk
   refine ldO (x:=x.mid) e2 rfl rfl rfl rfl rfl ?_
   refine lst (z:=x.mid) (w4:=w3) hk rfl hx.mid hz1 fun p c w5 ⟨b,o,y,hp,hat,hf,hb5⟩=>?_
   refine is5 ?_
   refine ⟨by decide,by show (0:Int)<((1:Nat):Int); decide,?_⟩
   rw [show (MV.mk 21 0 [] ⟨p,1,c,none⟩ 0 []).s.p=some ⟨b,o,none⟩ from hp]
   simp only
   refine rdO hat ?_
   exact ret5 (x:=y) hb5 rfl fun w6 b6 c6 z6=>hf w6 c6
  rw [if_neg (of_decide_eq_false h)] at hk
  refine Sif_cases (fun h=>?_) (fun h=>?_)
  ·rw [if_pos (of_decide_eq_true h)] at hk
   refine ldO (x:=x.cor) e2 rfl rfl rfl rfl rfl ?_
   refine lst (z:=x.cor) (w4:=w3) hk rfl hx.cor hz2 fun p c w5 ⟨b,o,y,hp,hat,hf,hb5⟩=>?_
   refine is5 ?_
   refine ⟨by decide,by show (0:Int)<((1:Nat):Int); decide,?_⟩
   rw [show (MV.mk 21 0 [] ⟨p,1,c,none⟩ 0 []).s.p=some ⟨b,o,none⟩ from hp]
   simp only
   refine rdO hat ?_
   exact ret5 (x:=y) hb5 rfl fun w6 b6 c6 z6=>hf w6 c6
  rw [if_neg (of_decide_eq_false h)] at hk
  refine Sif_cases (fun h=>?_) (fun h=>?_)
  ·rw [if_pos (of_decide_eq_true h)] at hk
   refine ⟨_,by rw [add_at]; exact cellP e2 6 rfl,?_⟩
   refine mtext_ok (s:=x.usr) fun w4 c4=>is5 ?_
   exact ret5 (x:=if x.usr=[] then zMV else flatM 18 0 x.usr) (a1 c4) rfl fun w5 b5 c5 z5=>don hk (textV_m 18 x.usr) (textV_B _ _) (textV_ok _ _) c4 c5
  rw [if_neg (of_decide_eq_false h)] at hk
  refine Sif_cases (fun h=>?_) (fun h=>?_)
  ·rw [if_pos (of_decide_eq_true h)] at hk
   refine ⟨_,by rw [add_at]; exact cellP e2 7 rfl,?_⟩
   refine mtext_ok (s:=x.to9) fun w4 c4=>is5 ?_
   exact ret5 (x:=if x.to9=[] then zMV else flatM 19 0 x.to9) (a1 c4) rfl fun w5 b5 c5 z5=>don hk (textV_m 19 x.to9) (textV_B _ _) (textV_ok _ _) c4 c5
  rw [if_neg (of_decide_eq_false h)] at hk
  refine Sif_cases (fun h=>?_) (fun h=>?_)
  ·rw [if_pos (of_decide_eq_true h)] at hk
   refine ⟨_,by rw [add_at]; exact cellP e2 8 rfl,?_⟩
   refine mtext_ok (s:=x.sub) fun w4 c4=>is5 ?_
   exact ret5 (x:=if x.sub=[] then zMV else flatM 19 0 x.sub) (a1 c4) rfl fun w5 b5 c5 z5=>don hk (textV_m 19 x.sub) (textV_B _ _) (textV_ok _ _) c4 c5
  rw [if_neg (of_decide_eq_false h)] at hk
  refine Sif_cases (fun h=>?_) (fun h=>?_)
  ·rw [if_pos (of_decide_eq_true h)] at hk
   refine ⟨_,by rw [add_at]; exact cellP e2 9 rfl,?_⟩
   refine mtext_ok (s:=x.rep) fun w4 c4=>is5 ?_
   exact ret5 (x:=if x.rep=[] then zMV else flatM 19 0 x.rep) (a1 c4) rfl fun w5 b5 c5 z5=>don hk (textV_m 19 x.rep) (textV_B _ _) (textV_ok _ _) c4 c5
  rw [if_neg (of_decide_eq_false h)] at hk
  refine Sif_cases (fun h=>?_) (fun h=>?_)
  ·rw [if_pos (of_decide_eq_true h)] at hk
   refine ⟨_,by rw [add_at]; exact cellP e2 19 rfl,?_⟩
   refine mtext_ok (s:=x.grp) fun w4 c4=>is5 ?_
   exact ret5 (x:=if x.grp=[] then zMV else flatM 19 0 x.grp) (a1 c4) rfl fun w5 b5 c5 z5=>don hk (textV_m 19 x.grp) (textV_B _ _) (textV_ok _ _) c4 c5
  rw [if_neg (of_decide_eq_false h)] at hk
  refine Sif_cases (fun h=>?_) (fun h=>?_)
  ·rw [if_pos (of_decide_eq_true h)] at hk
   refine ⟨_,by rw [add_at]; exact cellP e2 15 rfl,?_⟩
   refine mtext_ok (s:=x.typ) fun w4 c4=>is5 ?_
   exact ret5 (x:=if x.typ=[] then zMV else flatM 20 0 x.typ) (a1 c4) rfl fun w5 b5 c5 z5=>don hk (textV_m 20 x.typ) (textV_B _ _) (textV_ok _ _) c4 c5
  rw [if_neg (of_decide_eq_false h)] at hk
  refine Sif_cases (fun h=>?_) (fun h=>?_)
  ·rw [if_pos (of_decide_eq_true h)] at hk
   refine ⟨_,by rw [add_at]; exact cellP e2 20 rfl,?_⟩
   refine mword_ok fun w4 c4=>is5 ?_
   exact ret5 (x:=if x.seq<0 then zMV else flatM 4 (x.seq%4294967296).toNat []) (a1 c4) rfl fun w5 b5 c5 z5=>don hk (wordV_m x.seq) (wordV_B _) (wordV_ok _) c4 c5
  rw [if_neg (of_decide_eq_false h)] at hk
  have b13:=b13.trans (congrArg some x.cells)
  refine ldO (x:=x.app) b13 rfl rfl rfl rfl rfl ?_
  rw [vv]
  refine Find_ok (m:=x.app) (key:=flatM 19 0 s) (Q:=Q) (Q':=fun _=>True) (VR.ch0 c03 hx.app) (by omega) (VO.vr _ (flatM_ok _ _ _ _) _ fun _ _=>trivial) fun y b w4 em ho hfr c4=>?_
  refine ⟨_,_,_,_,_,_,_,_,by rw [← vv y],?_⟩
  refine nbx (x:=y) rfl fun w5 b5 c5 z5=>?_
  refine ldK b5 ?_
  have c45:=c4.trans' c5
  refine ret5 (x:=y) (a1 c45) rfl fun w6 b6 c6 z6=>?_
  have hs3:=c03.size
  have hl23:=blk_lt b23
  refine hk y w6 (by rw [em,flatM_m]; rfl) (VO.ch c6 y (VO.ch c5 y ho fun _ _ h=>h) fun z hz h=>by have:=hfr z hz; omega) (fun z hz=>by have:=hfr z hz; omega) ((c03.trans' c45).trans c6 fun z hz h=>by omega)
 ·-- the header's and the properties' boxes, in either order
  have hc:=b12.trans (congrArg some x.cells)
  have ldH:∀ {w':World},Ch (fun _=>False) w2 w'→∀ {K2:Bool→Bool→Int→Int→Bool→Int→Prop},K2 x.has x.dur x.pri x.ttl x.fst x.cnt →
   ∃ b,w'.cell? (Addr.add (Addr.add ⟨w.heap.size,0,none⟩ 0) 0)=some (.bool b)∧∃ b1,w'.cell? (Addr.add (Addr.add ⟨w.heap.size,0,none⟩ 0) 1)=some (.bool b1)∧∃ n,w'.cell? (Addr.add (Addr.add ⟨w.heap.size,0,none⟩ 0) 2)=some (.int .i64 n)∧∃ n1,w'.cell? (Addr.add (Addr.add ⟨w.heap.size,0,none⟩ 0) 3)=some (.int .i64 n1)∧∃ b2,w'.cell? (Addr.add (Addr.add ⟨w.heap.size,0,none⟩ 0) 4)=some (.bool b2)∧∃ n2,w'.cell? (Addr.add (Addr.add ⟨w.heap.size,0,none⟩ 0) 5)=some (.int .i64 n2)∧K2 b b1 n n1 b2 n2:=fun {w'} c {K2} hk2=>by
   have hb:=(c.blk (blk_lt hc) id).trans hc
   simp only [add_at,Nat.zero_add]
   exact ⟨_,cellP hb 0 rfl,_,cellP hb 1 rfl,_,cellP hb 2 rfl,_,cellP hb 3 rfl,_,cellP hb 4 rfl,_,cellP hb 5 rfl,hk2⟩
  have ldP:∀ {w':World},Ch (fun _=>False) w2 w'→∀ {K2:List Value→Prop},K2 x.pg→ldBig w' (Addr.add ⟨w.heap.size,0,none⟩ 16) 22 K2:=fun {w'} c {K2} hk2 =>
   ldBig_of ((c.blk (blk_lt b12) id).trans b12) (by rw [x.glen]; decide) hk2
  have stH:∀ {w':World} {k:Nat} {zs:List Value} {K2:World→Prop},blk w' k=some zs→zs.length=6→(∀ w'',blk w'' k=some x.hg→Ch (·=k) w' w''→w''.heap.size=w'.heap.size→K2 w'') →
   Sv.st w' (Addr.add ⟨k,0,none⟩ 0) (.bool x.has) fun w5=>Sv.st w5 (Addr.add ⟨k,0,none⟩ 1) (.bool x.dur) fun w6=>Sv.st w6 (Addr.add ⟨k,0,none⟩ 2) (.int .i64 x.pri) fun w7=>Sv.st w7 (Addr.add ⟨k,0,none⟩ 3) (.int .i64 x.ttl) fun w8=>Sv.st w8 (Addr.add ⟨k,0,none⟩ 4) (.bool x.fst) fun w9=>Sv.st w9 (Addr.add ⟨k,0,none⟩ 5) (.int .i64 x.cnt) fun w10=>K2 w10:=fun {w' k zs K2} hb hl hk2=>by
   simp only [add_at,Nat.zero_add]
   exact st_all [.bool x.has,.bool x.dur,.int .i64 x.pri,.int .i64 x.ttl,.bool x.fst,.int .i64 x.cnt] 0 (K:=K2) hb (by rw [hl]; simp) fun w'' b c z=>hk2 w'' (by rw [b,putSeg,List.drop_of_length_le (by simp; omega)]; simp [GV.hg]) c z
  have hpl:x.pg.length=22:=by rw [x.pc]; rfl
  have stP:∀ {w':World} {k:Nat} {zs:List Value} {K2:World→Prop},blk w' k=some zs→zs.length=22→(∀ w'',blk w'' k=some x.pg→Ch (·=k) w' w''→w''.heap.size=w'.heap.size→K2 w'')→stCells w' ⟨k,0,none⟩ x.pg 0 K2:=fun {w' k zs K2} hb hl hk2 =>
   stCells_blk x.pg 0 hb (by omega) x.pone fun w'' b c z=>hk2 w'' (by rw [b,putSeg,List.drop_of_length_le (by omega),List.take_zero]; simp) c z
  have cd:=Ch.drew (S:=fun _=>False) w2
  refine ldH cd ?_
  refine ldP cd ⟨?_,?_⟩
  ·refine newB_blk fun w3 b3 c3 z3=>?_
   have c23:=cd.trans' c3
   refine ⟨ldP c23 rfl,ldH c23 rfl,?_⟩
   refine newB_blk fun w4 b4 c4 z4=>?_
   have c24:=c23.trans' c4
   refine ⟨ldP c24 rfl,ldH c24 rfl,?_⟩
   refine stH ((c4.blk (blk_lt b3) id).trans b3) rfl fun w5 b5 c5 z5=>?_
   have hz2:w2.drew.heap.size=w2.heap.size:=rfl
   have c25:Ch (fun _=>False) w2 w5:=c24.trans c5 fun z hz h=>by omega
   refine ⟨ldP c25 rfl,asAgg_of hpl ?_⟩
   refine stP ((c5.blk (blk_lt b4) (by omega)).trans b4) rfl fun w6 b6 c6 z6=>?_
   exact ⟨_,_,rfl,rfl,(c6.blk (blk_lt b5) (by omega)).trans b5,b6,by omega,by omega,c25.trans c6 fun z hz h=>by omega⟩
  ·refine newB_blk fun w3 b3 c3 z3=>?_
   have c23:=cd.trans' c3
   refine ⟨ldP c23 rfl,ldH c23 rfl,?_⟩
   refine newB_blk fun w4 b4 c4 z4=>?_
   have c24:=c23.trans' c4
   refine ⟨ldP c24 rfl,ldH c24 rfl,?_⟩
   refine stH b4 rfl fun w5 b5 c5 z5=>?_
   have hz2:w2.drew.heap.size=w2.heap.size:=rfl
   have c25:Ch (fun _=>False) w2 w5:=c24.trans c5 fun z hz h=>by omega
   refine ⟨ldP c25 rfl,asAgg_of hpl ?_⟩
   refine stP ((c5.blk (by have:=blk_lt b3; omega) (by omega)).trans ((c4.blk (blk_lt b3) id).trans b3)) rfl fun w6 b6 c6 z6=>?_
   exact ⟨_,_,rfl,rfl,(c6.blk (blk_lt b5) (by omega)).trans b5,b6,by omega,by omega,c25.trans c6 fun z hz h=>by omega⟩
end Go.Proofs.YtnmlmicmhpkbeaaGreatDoor
namespace Go.Note
open Go
set_option linter.unusedVariables false
def dblS (q:UInt8) (s:Bs):Bs:=s.flatMap fun c=>if c=q then [c,c] else [c]
def quoS (q:UInt8) (s:Bs):Bs:=q::(dblS q s++[q])
def lev (k:Int):Int:=if k=5 then 1 else if k=4 then 2 else if k=3 then 3 else if k=16∨k=17 then 5 else if k=18∨k=19 then 6 else if k=20 then 7 else if k=1∨k=2 then 8 else 4
def int64 (n:Nat):Int:=if n<9223372036854775808 then (n:Int) else (n:Int)-18446744073709551616
def conS (ff:Nat→Bs) (v:M):Bs :=
 if v.k=1 then (if v.n=1 then [116,114,117,101] else [102,97,108,115,101])
 else if v.k=9 then Lib.itoa (int64 v.n)
 else if v.k=11 then ff v.n
 else quoS 39 v.t
def lowC (c:UInt8):UInt8:=if cap c then c+32 else c
def callS (t:Bs):Bs:=if (match t with | []=>false | c::_=>lt c)=true∧wordP t 0=t.length∧keyP (t.map lowC)=[] then t else quoS 34 t
def sgnS (k:Int):Bs :=
 if k=6 then [32,61,32] else if k=7 then [32,60,62,32] else if k=8 then [32,60,32] else if k=9 then [32,60,61,32] else if k=10 then [32,62,32] else if k=11 then [32,62,61,32]
 else if k=16 then [32,43,32] else if k=17 then [32,45,32] else if k=18 then [32,42,32] else [32,47,32]
def brS (near:Int) (p:Int × Bs):Bs:=if p.1<near then 40::(p.2++[41]) else p.2
def joinS (w:Bs):List Bs→Bs
 | []=>[]
 | x::l=>x++l.flatMap fun y=>w++y
theorem joinS_snoc (w x:Bs) (l:List Bs):joinS w (l++[x])=joinS w l++(if l=[] then [] else w)++x:=by
 cases l with
 | nil=>simp [joinS]
 | cons y l=>simp [joinS,List.append_assoc]
def restS (k:Int) (t:Bs) (v:M) (l:List (Int × Bs)):Bs :=
 if k=12 then [32,98,101,116,119,101,101,110,32]++brS 5 (l.getD 1 (0,[]))++[32,97,110,100,32]++brS 5 (l.getD 2 (0,[]))
 else if k=13 then [32,105,110,32,40]++joinS [44,32] (l.tail.map (·.2))++[41]
 else if k=14 then [32,108,105,107,101,32]++quoS 39 t++(if v.k=0 then [] else [32,101,115,99,97,112,101,32]++quoS 39 v.t)
 else if k=15 then [32,105,115,32,110,117,108,108]
 else sgnS k++brS 5 (l.getD 1 (0,[]))
def kidsS (k:Int) (t:Bs) (v:M) (l:List (Int × Bs)):Bs :=
 if k=3 then [110,111,116,32]++brS 3 (l.getD 0 (0,[]))
 else if k=4 then joinS [32,97,110,100,32] (l.map (brS 3))
 else if k=5 then joinS [32,111,114,32] (l.map (brS 2))
 else if k=20 then 45::brS 7 (l.getD 0 (0,[]))
 else if k=16∨k=17∨k=18∨k=19 then brS (lev k) (l.getD 0 (0,[]))++sgnS k++brS (lev k+1) (l.getD 1 (0,[]))
 else brS 5 (l.getD 0 (0,[]))++restS k t v l
mutual
def T.pr (ff:Nat→Bs):T→Bs
 | .mk k t v l=>if k=1 then conS ff v else if k=2 then callS t else kidsS k t v (T.prL ff l)
def T.prL (ff:Nat→Bs):List T→List (Int × Bs)
 | []=>[]
 | .mk k t v l::r=>(lev k,T.pr ff (.mk k t v l))::T.prL ff r
end
theorem T.prL_map (ff:Nat→Bs) (l:List T):T.prL ff l=l.map fun x=>(lev x.k,x.pr ff):=by
 induction l with
 | nil=>rfl
 | cons x l ih=>cases x; simp [T.prL,ih,T.k]
theorem T.pr_mk (ff:Nat→Bs) (k:Int) (t:Bs) (v:M) (l:List T):(T.mk k t v l).pr ff=if k=1 then conS ff v else if k=2 then callS t else kidsS k t v (l.map fun x=>(lev x.k,x.pr ff)):=by rw [T.pr,T.prL_map]
def printB (ff:Nat→Bs) (x:T):Bs × Nat:=if x.check≠0 then ([],x.check) else if 4096<(x.pr ff).length then ([],2) else (x.pr ff,0)
theorem aw1_print:printB (fun _=>[]) aw1t=(aw1s,0):=by kernel_rfl
end Go.Note
namespace Go.Proofs
open Go.Shelf
def Tryz.lays143_ren:Go.Shelf.Ren:=⟨fun | 143=>214 | 219=>263 | 217=>157 | 225=>304 | 224=>305 | 267=>306 | 266=>196 | 314=>324 | n=>n,fun | 9=>9 | 3=>3 | 4=>4 | 5=>5 | 46=>138 | 146=>320 | 51=>169 | n=>n,fun | 1=>3 | n=>n⟩
theorem Tryz.lays143:Go.Proofs.Lays.n143 Tryz.prog Tryz.lays143_ren:=by constructor<;>first|kernel_rfl|(intro w;kernel_rfl)|(constructor<;>first|kernel_rfl|(intro w;kernel_rfl)|(constructor<;>first|kernel_rfl|(intro w;kernel_rfl)))
def Tryz.lays138_ren:Go.Shelf.Ren:=⟨fun | 138=>213 | 195=>261 | 218=>262 | 143=>214 | 219=>263 | 217=>157 | 225=>304 | 224=>305 | 267=>306 | 266=>196 | 314=>324 | n=>n,fun | 9=>9 | 3=>3 | 4=>4 | 5=>5 | 0=>0 | 46=>138 | 146=>320 | 51=>169 | n=>n,fun | 1=>3 | n=>n⟩
theorem Tryz.lays138:Go.Proofs.Lays.n138 Tryz.prog Tryz.lays138_ren:=by constructor<;>first|kernel_rfl|(intro w;kernel_rfl)|(constructor<;>first|kernel_rfl|(intro w;kernel_rfl)|(constructor<;>first|kernel_rfl|(intro w;kernel_rfl)))
open Go.RowKit Go.Lib in
theorem Tryz.strings_Index_one (s:ByteArray) (c:UInt8) (w:World) :
 Calls Tryz.prog 214 #[.string s,.string ⟨#[c]⟩] w fun e w'=>e=.returned (.int .i64 (Lib.indexByte s.data.toList c))∧w'=w:=Any.strings_Index_one Tryz.lays143 s c w
open Go.RowKit Go.Lib in
theorem Tryz.strings_Count_one (s:ByteArray) (c:UInt8) (w:World) :
 Calls Tryz.prog 213 #[.string s,.string ⟨#[c]⟩] w fun e w'=>e=.returned (.int .i64 (Lib.countByte s.data.toList c))∧w'=w:=Any.strings_Count_one Tryz.lays138 s c w
end Go.Proofs
namespace Go.Proofs.YtnmlmicmhpkbeaaGreatDoor
open Go Go.Sv Go.RowKit Go.Note
set_option linter.unusedVariables false
attribute [local irreducible] Sif
def BAx (w:World) (T:TypeId) (b:Nat) (l:List UInt8) (g:Option Nat):Prop :=
 ∃ p v,w.heap[b]?=some (.cells #[.pointer p,v] T (0,0))∧(p=none∨p=some ⟨b,0,none⟩)∧w.ownsRow 0 5 1 v l.length (bytesV l)∧v.ownBlock=g∧g≠some b
theorem BAx.at {w:World} {T:TypeId} {b:Nat} {l:List UInt8} {g:Option Nat} (h:BAx w T b l g) (hl:l≠[]):BAt w T b l g:=by
 obtain ⟨p,v,h1,h2,h3,h4,h5⟩:=h
 exact ⟨p,v,h1,h2,h3,h4,h5,fun e=>absurd e hl⟩
theorem BAx.lt {w:World} {T:TypeId} {b:Nat} {l:List UInt8} {g:Option Nat} (h:BAx w T b l g):b<w.heap.size:=by
 obtain ⟨p,v,h1,_⟩:=h; exact lt_of_heap h1
theorem BAx.glt {w:World} {T:TypeId} {b:Nat} {l:List UInt8} {g:Option Nat} (h:BAx w T b l g):∀ k,g=some k→k<w.heap.size:=by
 obtain ⟨p,v,_,_,h3,h4,_⟩:=h
 intro k hk
 exact (h3.lt k (h4.trans hk)).2
def BX (w w':World) (T:TypeId) (b:Nat) (l:List UInt8) (g:Option Nat):Prop :=
 ∃ g',BAx w' T b l g'∧(∀ k,g'=some k→g=some k∨w.heap.size≤k)∧Ch (fun k=>k=b∨g=some k) w w'
theorem copyCheck_x {w:World} {T:TypeId} {b:Nat} {l:List UInt8} {g:Option Nat} (hB:BAx w T b l g) (hT:BT T) {K:Value→World→Prop}
 (hk:∀ w',BAx w' T b l g→Ch (·=b) w w'→w'.heap.size=w.heap.size→K (.tuple #[]) w'):callP Tryz.prog 170 [.pointer (some ⟨b,0,none⟩)] w K:=by
 apply ok_strings_Builder_copyCheck
 have hB':=hB
 obtain ⟨p,v,h1,h2,h3,h4,h5⟩:=hB
 obtain ⟨c0,c1⟩:=heap_cell h1
 have hsh:w.shape? b=some (T,2):=by simp [World.shape?,h1]
 refine ⟨p,by simpa [Addr.add] using c0,?_⟩
 have hptr:Tryz.prog.underlying 65=some (.pointer 68):=by kernel_rfl
 have hun:Tryz.prog.underlying 217=some .unsafePointer:=by kernel_rfl
 obtain ⟨j,hj,hjs⟩:=Option.map_eq_some_iff.1 (show (Tryz.prog.info? 68).map (·.size)=some 2 by kernel_rfl)
 rcases h2 with rfl | rfl
 ·refine Sif_true ?_
  have hlies:liesAt Tryz.prog Tryz.prog.depth T (2 / Tryz.prog.cellsOf T) 0 68 1=true:=by
   rcases hT with rfl | rfl<;>kernel_rfl
  refine ⟨_,Lib.run_to_unsafe w ⟨b,0,none⟩ hptr hun hj (by omega) hsh (by show 0<2; omega),?_⟩
  refine ⟨.pointer (some ⟨b,0,none⟩),w,?_,?_⟩
  ·rw [run_callFunc_extern Tryz.func207 (by kernel_rfl) (by kernel_rfl) (by kernel_rfl) (e:=Extern.AbiNoEscape.same) (by kernel_rfl),Lib.run_noEscape]
   rfl
  refine ⟨_,rfl,_,Lib.run_from_unsafe w ⟨b,0,none⟩ hun hptr hj hsh hlies,?_⟩
  simp only [nn,add_at]
  refine st_two h1 0 (by decide) fun w' b' c' z'=>hk w' ?_ c' z'
  exact ⟨_,v,by simpa using b',.inr rfl,h3.kept (ch_grown c' (row:=some b) fun k _ hk=>by rw [hk]) (.inr (by rw [h4]; exact h5)),h4,h5⟩
 ·refine Sif_false ?_
  refine ⟨_,by simpa [Addr.add] using c0,?_⟩
  refine ⟨false,?_,Sif_false (hk w hB' (Ch.refl _ _) rfl)⟩
  intro x y
  have e:=Lib.run_neq_ptr_same (P:=Tryz.prog) w ⟨b,0,none⟩ hptr hj
  simp only [Sem.run_bind,eqGuard_at_pointer,Sem.run_pure,Result.andThen_ok]
  exact e
theorem write_x {w w1 w2 w3:World} {T:TypeId} {b:Nat} {l':List UInt8} {g:Option Nat} {p:Option Addr} {v v':Value} (hb:b<w.heap.size)
 (h1:w1.heap[b]?=some (.cells #[.pointer p,v] T (0,0))) (hp:p=none∨p=some ⟨b,0,none⟩) (hv:v.ownBlock=g) (hg:g≠some b) (c1:Ch (·=b) w w1) (c2:Ch (fun _=>False) w1 w2) (g3:w2.grownBy w3 v.ownBlock)
 (ho:w3.ownsRow 0 5 1 v' l'.length (bytesV l')) (hv':∀ k,v'.ownBlock=some k→v.ownBlock=some k∨w2.heap.size≤k) {K:World→Prop} (hk:∀ w',BX w w' T b l' g→K w'):Sv.st w3 ⟨b,1,none⟩ v' K:=by
 have hb1:b<w1.heap.size:=lt_of_heap h1
 have h3:w3.heap[b]?=some (.cells #[.pointer p,v] T (0,0)):=by
  rw [g3.block b (Nat.lt_of_lt_of_le hb1 c2.size) (by rw [hv]; exact hg.symm),c2.keep b hb1 (fun h=>h)]
  exact h1
 refine st_two h3 1 (by decide) fun w4 b4 c4 z4=>hk w4 ?_
 have hne:v'.ownBlock≠some b:=fun e=>by
  rcases hv' b e with h | h
  ·exact hg (hv.symm.trans h)
  ·have:=c2.size; omega
 have hsz:w.heap.size≤w2.heap.size:=Nat.le_trans c1.size c2.size
 refine ⟨v'.ownBlock,⟨p,v',by simpa using b4,hp,ho.kept (ch_grown c4 (row:=some b) fun k _ hk=>by rw [hk]) (.inr hne),rfl,hne⟩,fun k hk=>(hv' k hk).imp (fun h=>hv.symm.trans h) fun h=>by omega,?_⟩
 exact ((((c1.mono fun _ _ h=>Or.inl h).trans' (c2.mono fun _ _ h=>h.elim)).trans' ((grown_ch g3).mono fun _ _ h=>Or.inr (by rw [← hv]; exact h))).trans' (c4.mono fun _ _ h=>Or.inl h))
theorem WriteByte_x {w:World} {T:TypeId} {b:Nat} {l:List UInt8} {g:Option Nat} (hB:BAx w T b l g) (hT:BT T) (c:UInt8) (hl:l.length+1≤2^46) {K:Value→World→Prop}
 (hk:∀ w',BX w w' T b (l++[c]) g→K .nilIface w'):callP Tryz.prog 159 [.pointer (some ⟨b,0,none⟩),.int .u8 (c.toNat:Int)] w K:=by
 apply ok_strings_Builder_WriteByte
 refine copyCheck_x hB hT fun w1 B1 c1 z1=>⟨rfl,?_⟩
 have hlt:=hB.lt
 obtain ⟨p,v,h1,h2,h3,h4,h5⟩:=B1
 obtain ⟨d0,d1⟩:=heap_cell h1
 simp only [nn,add_at]
 obtain ⟨q,cq,rfl,_⟩:=ow_of h3
 refine ⟨q,_,cq,d1,?_⟩
 refine newB_blk fun w2 b2 c2 z2=>?_
 have h3':=h3.kept (ch_grown c2 (row:=none) fun _ _ h=>h.elim) (by cases hv:(Value.slice q l.length cq).ownBlock<;>simp)
 obtain ⟨p',c',w3,r1,r2,r3,r4,r5⟩:=append_slice (ty:=66) (c:=1) h3' b2 rfl (by intro u hu; simp only [List.mem_singleton] at hu; subst hu; rfl) (by simpa using hl)
 refine ⟨p',_,c',w3,r1,?_⟩
 refine write_x (l':=l++[c]) hlt h1 h2 h4 h5 c1 c2 r3 ?_ r4 hk
 rw [List.length_append,bytesV_append]
 exact r2
theorem WriteString_x {w:World} {T:TypeId} {b:Nat} {l:List UInt8} {g:Option Nat} (hB:BAx w T b l g) (hT:BT T) (s:ByteArray) (hl:l.length+s.size≤2^46) {K:Value→World→Prop}
 (hk:∀ w',BX w w' T b (l++s.data.toList) g→K (.tuple #[.int .i64 (s.size:Int),.nilIface]) w'):callP Tryz.prog 126 [.pointer (some ⟨b,0,none⟩),.string s] w K:=by
 apply ok_strings_Builder_WriteString
 refine copyCheck_x hB hT fun w1 B1 c1 z1=>⟨rfl,?_⟩
 have hlt:=hB.lt
 obtain ⟨p,v,h1,h2,h3,h4,h5⟩:=B1
 obtain ⟨d0,d1⟩:=heap_cell h1
 simp only [nn,add_at]
 obtain ⟨q,cq,rfl,_⟩:=ow_of h3
 refine ⟨q,_,cq,d1,?_⟩
 obtain ⟨p',c',w3,r1,r2,r3,r4,r5⟩:=append_str (ty:=66) h3 s hl
 refine ⟨p',_,c',w3,r1,?_⟩
 refine write_x (l':=l++s.data.toList) hlt h1 h2 h4 h5 c1 (Ch.refl _ _) r3 ?_ r4 fun w' hw=>by simpa only [nameI] using hk w' hw
 rw [List.length_append,bytesV_append,Array.length_toList]
 exact r2
theorem Grow_ok {w:World} {b:Nat} (hB:BAt w TB b [] none) {n:Nat} (hn:n≤2^46) {K:Value→World→Prop} (hk:∀ w',BX w w' TB b [] none→K (.tuple #[]) w'):callP Tryz.prog 172 [.pointer (some ⟨b,0,none⟩),.int .i64 (n:Int)] w K:=by
 apply ok_strings_Builder_Grow
 refine copyCheck_ok hB (.inl rfl) fun w1 B1 c1 z1=>⟨rfl,?_⟩
 have hlt:=hB.lt
 obtain ⟨p,v,h1,h2,h3,h4,h5,h6⟩:=B1
 have hv:=h6 rfl
 subst hv
 obtain ⟨d0,d1⟩:=heap_cell h1
 refine ⟨fun w'=>w'=w1,?_,Sif_cases (fun h=>absurd (of_decide_eq_true h) (by omega)) (fun _=>rfl)⟩
 rintro w2 rfl
 simp only [nn,add_at]
 refine ⟨none,0,0,d1,none,0,0,d1,?_⟩
 have c1':Ch (fun k=>k=b∨none=some k) w w2:=c1.mono fun _ _ h=>.inl h
 refine Sif_cases (fun h=>?_) (fun h=>?_)
 ·apply ok_strings_Builder_grow
  simp only [nn,add_at]
  refine ⟨none,0,0,d1,none,0,0,d1,?_⟩
  rw [show IntKind.i64.wrap (IntKind.i64.wrap (2*((0:Nat):Int))+(n:Int))=(n:Int) by rw [show IntKind.i64.wrap (2*((0:Nat):Int))=0 by decide,Int.zero_add,wrap_id (by omega) (by omega)]]
  obtain ⟨cs,hr,hcs,hmx⟩:=Lib.run_makeNoZero (P:=Tryz.prog) w2.drew.drew #[3] 66 5 uBytes n (by omega)
  have hcall:(callFunc 258 (Array.mk [Value.int .i64 (n:Int)])).run Tryz.prog w2.drew.drew=.ok (.value (.slice (some ⟨w2.heap.size,0,none⟩) n cs.size)) (w2.drew.drew.drew.drew.alloc (.cells cs 5)):=by
   rw [run_callFunc_extern Tryz.func258 (by kernel_rfl) (by kernel_rfl) (by kernel_rfl) (e:=Extern.BytealgMakeNoZero.makeNoZero #[3] #[66]) (by kernel_rfl),hr]
   rfl
  unfold extP
  refine ⟨_,_,hcall,?_⟩
  refine ⟨_,_,_,rfl,?_⟩
  have c2:Ch (fun _=>False) w2 (w2.drew.drew.drew.drew.alloc (.cells cs 5)):=((Ch.drew w2).trans' ((Ch.drew _).trans' ((Ch.drew _).trans' (Ch.drew _)))).trans' (alloc_ch _ _)
  have hown:(w2.drew.drew.drew.drew.alloc (.cells cs 5)).ownsRow 0 5 1 (.slice (some ⟨w2.heap.size,0,none⟩) 0 cs.size) 0 []:=World.ownsRow_made (base:=0) (e:=5) (size:=1) w2.drew.drew.drew.drew cs cs.size (Nat.zero_le _) (hmx (by unfold maxLen; omega)) (by omega)
  have hz3:(w2.drew.drew.drew.drew.alloc (.cells cs 5)).heap.size=w2.heap.size+1:=by simp [World.alloc]
  generalize w2.drew.drew.drew.drew.alloc (.cells cs 5)=w3 at hcall c2 hown hz3 ⊢
  have h13:=(c2.keep b (lt_of_heap h1) fun h=>h).trans h1
  obtain ⟨e0,e1⟩:=heap_cell h13
  obtain ⟨inf,hi,hi2⟩:=Option.map_eq_some_iff.1 iByte
  simp only [Prod.mk.injEq] at hi2
  refine ⟨⟨none,0,0,e1,rfl⟩,by decide,by omega,none,0,0,e1,0,w3,run_copy_none w3 66 66 3 5 _ _ 0 cs.size 0 0 uBytes (by simp only [hi,Option.map_some]; exact congrArg some hi2.2.1) rfl,?_⟩
  refine st_two h13 1 (by decide) fun w4 b4 c4 z4=>⟨by trivial,hk w4 ?_⟩
  have hlb:=lt_of_heap h1
  refine ⟨some w2.heap.size,⟨p,.slice (some ⟨w2.heap.size,0,none⟩) 0 cs.size,by simpa using b4,h2,hown.kept (ch_grown c4 (row:=some b) fun k _ hk=>by rw [hk]) (.inr (by simp [Value.ownBlock]; omega)),rfl,by simp; omega⟩,fun k hk=>.inr (by cases hk; omega),?_⟩
  exact (c1'.trans' (c2.mono fun _ _ h=>h.elim)).trans' (c4.mono fun _ _ h=>.inl h)
 ·have hz:BX w w2.drew TB b [] none:=⟨none,⟨p,.slice none 0 0,h1,h2,World.ownsRow_nil _ _ _ _,rfl,by simp⟩,fun k hk=>(by cases hk),c1'.trans' (Ch.drew _)⟩
  exact hk _ hz
theorem index_split {l:Bs} {q:UInt8} (h:0<l.count q):∃ j:Nat,Lib.indexByte l q=(j:Int)∧j<l.length∧l[j]?=some q∧q ∉ l.take j:=by
 have hge:=Lib.indexByte_ge l q
 have hn:Lib.indexByte l q≠-1:=fun e=>by
  have h0:=Lib.indexByte_none e
  obtain ⟨k,hk⟩:=List.mem_iff_getElem?.1 (List.count_pos_iff.1 h)
  exact h0 k hk
 obtain ⟨j,hj⟩:∃ j:Nat,Lib.indexByte l q=(j:Int):=⟨(Lib.indexByte l q).toNat,by omega⟩
 obtain ⟨h1,h2⟩:=Lib.indexByte_some hj
 refine ⟨j,hj,(List.getElem?_eq_some_iff.1 h1).1,h1,fun hm=>?_⟩
 obtain ⟨k,hk⟩:=List.mem_iff_getElem?.1 hm
 rw [List.getElem?_take] at hk
 split at hk
 ·exact h2 k (by assumption) hk
 ·cases hk
theorem dblS_none {q:UInt8} {l:Bs} (h:q ∉ l):dblS q l=l:=by
 induction l with
 | nil=>rfl
 | cons c l ih =>
  have h1:¬ c=q:=fun e=>h (e▸List.mem_cons_self)
  have:=ih fun e=>h (List.mem_cons_of_mem _ e)
  unfold dblS at this ⊢
  rw [List.flatMap_cons,this,if_neg h1]; rfl
theorem dblS_app (q:UInt8) (a b:Bs):dblS q (a++b)=dblS q a++dblS q b:=by unfold dblS; rw [List.flatMap_append]
theorem replace_ok {s:Bs} {q:UInt8} (hs:s.length≤2^40) {w:World} {K:Value→World→Prop} (hk:∀ w',Ch (fun _=>False) w w'→K (.string ⟨(dblS q s).toArray⟩) w') :
 callP Tryz.prog 129 [.string ⟨s.toArray⟩,.string ⟨([q]:Bs).toArray⟩,.string ⟨([q]++[q]:Bs).toArray⟩] w K:=by
 apply ok_strings_ReplaceAll
 apply ok_strings_Replace
 rw [seq3]
 refine ⟨fun w'=>w'=w,?_,Sif_cases (fun _=>Sif_cases (fun h=>absurd (of_decide_eq_true h) (by decide)) (fun _=>rfl)) (fun h=>absurd h (by simp))⟩
 rintro w1 rfl
 have hcl:s.count q≤s.length:=List.count_le_length
 refine ⟨fun n w'=>w'=w1∧n=(s.count q:Nat)∧s.count q≠0,?_,?_⟩
 ·rintro n w' ⟨rfl,rfl,hn0⟩
  simp only [sz3,nameI,List.length_append,List.length_singleton,List.length_cons,List.length_nil]
  unfold newB
  have hB0:BAt (w'.alloc (.cells [Value.pointer none,Value.slice none 0 0].toArray 68)) TB w'.heap.size [] none:=BAt.new
  have c0:Ch (fun _=>False) w' (w'.alloc (.cells [Value.pointer none,Value.slice none 0 0].toArray 68)):=alloc_ch w' _
  generalize w'.alloc (.cells [Value.pointer none,Value.slice none 0 0].toArray 68)=w2 at hB0 c0 ⊢
  have eg:IntKind.i64.wrap ((s.length:Int)+IntKind.i64.wrap (((s.count q:Nat):Int)*IntKind.i64.wrap (((0+1+1:Nat):Int)-((0+1:Nat):Int))))=((s.length+s.count q:Nat):Int):=by
   rw [show IntKind.i64.wrap (((0+1+1:Nat):Int)-((0+1:Nat):Int))=1 by decide,Int.mul_one,wrap_id (n:=((s.count q:Nat):Int)) (by omega) (by omega),wrap_id (by omega) (by omega)]; omega
  rw [eg]
  refine Grow_ok hB0 (by omega) fun w3 B3=>⟨rfl,?_⟩
  obtain ⟨g3,B3,n3,c3⟩:=B3
  have hT:BT TB:=.inl rfl
  have hs2:=c0.size
  -- what a write leaves
  have nxt:∀ {wa wb:World} {ga:Option Nat} {out:Bs},(∀ z,ga=some z→w'.heap.size≤z)→Ch (fun _=>False) w' wa→BX wa wb TB w'.heap.size out ga→∃ gb,BAx wb TB w'.heap.size out gb∧(∀ z,gb=some z→w'.heap.size≤z)∧Ch (fun _=>False) w' wb:=fun {wa wb ga out} hga ca hB=>by
   obtain ⟨gb,A,n,c⟩:=hB
   refine ⟨gb,A,fun z hz=>?_,ca.trans c fun y hy hs=>?_⟩
   ·rcases n z hz with h | h
    ·exact hga z h
    ·have:=ca.size; omega
   ·rcases hs with h | h
    ·omega
    ·have:=hga y h; omega
  obtain ⟨g3,B3,hg3,c03⟩:=nxt (ga:=none) (fun z hz=>by cases hz) c0 ⟨g3,B3,n3,c3⟩
  have sub:∀ {a b:Nat},(ByteArray.mk s.toArray).extract a b=⟨((s.drop a).take (b-a)).toArray⟩:=fun {a b}=>data_ext (by rw [extract_data,sl3,sl3])
  refine ⟨fun n w4=>∃ (k:Nat) (out:Bs) (g:Option Nat),n=(k:Int)∧k≤s.length∧out≠[]∧out.length≤2*k∧out++s.drop k=dblS q s∧BAx w4 TB w'.heap.size out g∧(∀ z,g=some z→w'.heap.size≤z)∧Ch (fun _=>False) w' w4,?_,?_⟩
  ·rintro n w4 ⟨k,out,g,rfl,hk1,hne,hol,he,B4,hg4,c4⟩
   refine ⟨by omega,by omega,?_⟩
   rw [Int.toNat_natCast,sub]
   have htk:(s.drop k).take (s.length-k)=s.drop k:=List.take_of_length_le (by rw [List.length_drop]; omega)
   rw [htk]
   refine WriteString_x B4 hT _ (by rw [sz3,List.length_drop]; omega) fun w5 B5=>⟨_,_,rfl,?_⟩
   rw [sl3,he] at B5
   obtain ⟨g5,B5,hg5,c5⟩:=nxt hg4 c4 B5
   have hne2:dblS q s≠[]:=by rw [← he]; intro e; exact hne (List.append_eq_nil_iff.1 e).1
   have hdl:(dblS q s).length≤2^46:=by rw [← he,List.length_append,List.length_drop]; omega
   refine String_ok (B5.at hne2) hdl fun w6 c6=>⟨_,rfl,?_⟩
   refine ⟨_,rfl,hk w6 (c5.trans c6 fun y hy e=>?_)⟩
   have:=hg5 y e; omega
  ·refine Sif_cases (fun _=>?_) (fun h=>absurd (of_decide_eq_false h) (by decide))
   refine ⟨fun m n2 i w4=>∃ (k j:Nat) (out:Bs) (g:Option Nat),n2=(k:Int)∧i=(j:Int)∧m=s.count q-j∧j≤s.count q∧k≤s.length∧(0<j→out≠[])∧out.length≤2*k∧out++dblS q (s.drop k)=dblS q s∧(s.drop k).count q+j=s.count q∧BAx w4 TB w'.heap.size out g∧(∀ z,g=some z→w'.heap.size≤z)∧Ch (fun _=>False) w' w4,
    ⟨s.count q,0,0,[],g3,rfl,rfl,by omega,by omega,by omega,by omega,by simp,by simp,by simp,B3,hg3,c03⟩,?_⟩
   rintro m n2 i w4 ⟨k,j,out,g,rfl,rfl,rfl,hj,hk1,hne,hol,he,hcn,B4,hg4,c4⟩
   refine Sif_cases (fun hlt=>?_) (fun hge=>?_)
   ·have hjl:j<s.count q:=by have:=of_decide_eq_true hlt; omega
    obtain ⟨x,hx,hxl,hxq,hxn⟩:=index_split (l:=s.drop k) (q:=q) (by omega)
    rw [List.length_drop] at hxl
    refine ⟨by omega,by omega,?_⟩
    rw [Int.toNat_natCast,sub]
    have htk:(s.drop k).take (s.length-k)=s.drop k:=List.take_of_length_le (by rw [List.length_drop]; omega)
    rw [htk]
    refine Calls.mono (Tryz.strings_Index_one ⟨(s.drop k).toArray⟩ q w4) fun e w5 ⟨he5,hw5⟩=>⟨_,he5,?_⟩
    rw [hw5,sl3,hx]
    refine ⟨_,rfl,?_⟩
    rw [wrap_id (n:=(k:Int)+(x:Int)) (by omega) (by omega)]
    refine ⟨by omega,by omega,by omega,by omega,?_⟩
    rw [show ((k:Int)+(x:Int)).toNat=k+x by omega,sub,show k+x-k=x by omega]
    refine WriteString_x B4 hT _ (by rw [sz3,List.length_take,List.length_drop]; omega) fun w6 B6=>⟨_,_,rfl,?_⟩
    rw [sl3] at B6
    obtain ⟨g6,B6,hg6,c6⟩:=nxt hg4 c4 B6
    refine WriteString_x B6 hT _ (by rw [sz3,List.length_append,List.length_take,List.length_drop]; simp; omega) fun w7 B7=>⟨_,_,rfl,?_⟩
    rw [sl3] at B7
    obtain ⟨g7,B7,hg7,c7⟩:=nxt hg6 c6 B7
    rw [wrap_id (n:=(k:Int)+(x:Int)+((0+1:Nat):Int)) (by omega) (by omega),wrap_id (n:=(j:Int)+1) (by omega) (by omega)]
    have hd:s.drop k=(s.drop k).take x++q::s.drop (k+x+1):=by
     conv=>lhs; rw [← List.take_append_drop x (s.drop k),List.drop_drop]
     congr 1
     have h1:s[k+x]?=some q:=by rw [List.getElem?_drop] at hxq; exact hxq
     rw [drop_cons h1]
    refine ⟨s.count q-(j+1),by omega,k+x+1,j+1,_,g7,by omega,by omega,rfl,by omega,by omega,fun _=>by simp,by simp only [List.length_append,List.length_take,List.length_drop,List.length_cons,List.length_nil]; omega,?_,?_,B7,hg7,c7⟩
    ·rw [← he]
     conv=>rhs; rw [hd,dblS_app,dblS_none hxn]
     simp [dblS,List.append_assoc]
    ·rw [← hcn]
     conv=>rhs; rw [hd]
     rw [List.count_append,List.count_eq_zero.2 hxn,List.count_cons_self]; omega
   ·have hj2:j=s.count q:=by have:=of_decide_eq_false hge; omega
    refine ⟨k,out,g,rfl,hk1,hne (by omega),hol,?_,B4,hg4,c4⟩
    rw [← he,dblS_none (List.count_eq_zero.1 (by omega))]
 ·refine Calls.mono (Tryz.strings_Count_one ⟨s.toArray⟩ q w1) fun e w5 ⟨he5,hw5⟩=>⟨_,he5,?_⟩
  rw [hw5]
  have e1:Lib.countByte (ByteArray.mk s.toArray).data.toList q=s.count q:=by rw [sl3]; rfl
  rw [e1]
  refine ⟨_,rfl,?_⟩
  rw [show (((s.count q:Nat):Int) == 0)=decide (s.count q=0) from natBeq _ 0]
  refine Sif_cases (fun h=>?_) (fun h=>?_)
  ·have:=hk w1 (Ch.refl _ _)
   rw [dblS_none (List.count_eq_zero.1 (of_decide_eq_true h))] at this
   exact ⟨_,rfl,this⟩
  ·exact Sif_cases (fun h2=>absurd h2 (by decide)) (fun _=>⟨rfl,rfl,of_decide_eq_false h⟩)
theorem lowC_id {l:Bs} (h:l.any cap=false):l.map lowC=l:=by
 induction l with
 | nil=>rfl
 | cons c l ih =>
  rw [List.any_cons,Bool.or_eq_false_iff] at h
  rw [List.map_cons,ih h.2]
  unfold lowC
  rw [h.1]; rfl
theorem lowC_cap {c:UInt8} (h1:65≤c.toNat) (h2:c.toNat≤90):IntKind.wrap .u8 ((c.toNat:Int)+32)=((lowC c).toNat:Int):=by
 have hc:cap c=true:=by unfold cap; rw [decide_eq_true h1,decide_eq_true h2]; rfl
 unfold lowC
 rw [if_pos hc,show (c.toNat:Int)+32=((c.toNat+32:Nat):Int) by omega,wrap_u8,UInt8.toNat_add]
 have:(32:UInt8).toNat=32:=rfl
 rw [this]
theorem plow_ok {s:Bs} (hs:s.length≤2^40) (h128:∀ x∈s,x.toNat<128) {w:World} {K:Value→World→Prop} (hk:∀ w',Ch (fun _=>False) w w'→K (.string ⟨(s.map lowC).toArray⟩) w') :
 callP Tryz.prog 128 [.string ⟨s.toArray⟩] w K:=by
 apply ok_strings_ToLower
 simp only [sz3]
 have hcapd:∀ {x:UInt8},cap x=(decide (65≤x.toNat) && decide (x.toNat≤90)):=fun {x}=>rfl
 refine ⟨fun b b1 w1=>b=true∧b1=s.any cap∧w1=w,?_,?_⟩
 ·rintro b b1 w1 ⟨rfl,rfl,rfl⟩
  refine Sif_true ?_
  refine Sif_cases (fun h=>?_) (fun h=>?_)
  ·have h:s.any cap=false:=by simpa using h
   have:=hk w1 (Ch.refl _ _)
   rw [lowC_id h] at this
   exact this
  have hany:s.any cap=true:=by simpa using h
  unfold newB
  have hB0:BAt (w1.alloc (.cells [Value.pointer none,Value.slice none 0 0].toArray 68)) TB w1.heap.size [] none:=BAt.new
  have c0:Ch (fun _=>False) w1 (w1.alloc (.cells [Value.pointer none,Value.slice none 0 0].toArray 68)):=alloc_ch w1 _
  generalize w1.alloc (.cells [Value.pointer none,Value.slice none 0 0].toArray 68)=w2 at hB0 c0 ⊢
  refine Grow_ok hB0 (by omega) fun w3 B3=>⟨rfl,?_⟩
  obtain ⟨g3,B3,n3,c3⟩:=B3
  have hT:BT TB:=.inl rfl
  have nxt:∀ {wa wb:World} {ga:Option Nat} {out:Bs},(∀ z,ga=some z→w1.heap.size≤z)→Ch (fun _=>False) w1 wa→BX wa wb TB w1.heap.size out ga→∃ gb,BAx wb TB w1.heap.size out gb∧(∀ z,gb=some z→w1.heap.size≤z)∧Ch (fun _=>False) w1 wb:=fun {wa wb ga out} hga ca hB=>by
   obtain ⟨gb,A,n,c⟩:=hB
   refine ⟨gb,A,fun z hz=>?_,ca.trans c fun y hy hs=>?_⟩
   ·rcases n z hz with h | h
    ·exact hga z h
    ·have:=ca.size; omega
   ·rcases hs with h | h
    ·omega
    ·have:=hga y h; omega
  obtain ⟨g3,B3,hg3,c03⟩:=nxt (ga:=none) (fun z hz=>by cases hz) c0 ⟨g3,B3,n3,c3⟩
  have sub:∀ {a b:Nat},(ByteArray.mk s.toArray).extract a b=⟨((s.drop a).take (b-a)).toArray⟩:=fun {a b}=>data_ext (by rw [extract_data,sl3,sl3])
  refine ⟨fun m n n1 w4=>∃ (k i:Nat) (g:Option Nat),n=(k:Int)∧n1=(i:Int)∧m=s.length-i∧k≤i∧i≤s.length∧((s.drop k).take (i-k)).any cap=false∧BAx w4 TB w1.heap.size ((s.take k).map lowC) g∧(∀ z,g=some z→w1.heap.size≤z)∧Ch (fun _=>False) w1 w4,
   ⟨s.length,0,0,g3,rfl,rfl,rfl,Nat.le_refl _,Nat.zero_le _,by simp,by simpa using B3,hg3,c03⟩,?_⟩
  rintro m n n1 w4 ⟨k,i,g,rfl,rfl,rfl,hki,hi,hnc,B4,hg4,c4⟩
  refine Sif_cases (fun hlt=>?_) (fun hge=>?_)
  ·have hil:i<s.length:=by have:=of_decide_eq_true hlt; omega
   obtain ⟨x,hx⟩:∃ x,s[i]?=some x:=⟨s[i],List.getElem?_eq_getElem hil⟩
   have hd:s.drop i=x::s.drop (i+1):=drop_cons hx
   have hdk:(s.drop k).take (i+1-k)=(s.drop k).take (i-k)++[x]:=by
    rw [show i+1-k=(i-k)+1 by omega,List.take_add_one,List.getElem?_drop,show k+(i-k)=i by omega,hx]; rfl
   refine ⟨fun n2 w5=>∃ (k':Nat) (g':Option Nat),n2=(k':Int)∧k'≤i+1∧((s.drop k').take (i+1-k')).any cap=false∧BAx w5 TB w1.heap.size ((s.take k').map lowC) g'∧(∀ z,g'=some z→w1.heap.size≤z)∧Ch (fun _=>False) w1 w5,?_,by omega,by omega,?_⟩
   ·rintro n2 w5 ⟨k',g',rfl,hk',hnc',B5,hg5,c5⟩
    rw [nameI_iff,wrap_id (by omega) (by omega)]
    exact ⟨s.length-(i+1),by omega,k',i+1,g',rfl,by omega,rfl,hk',by omega,hnc',B5,hg5,c5⟩
   ·rw [Int.toNat_natCast,get3 hx,nameI_iff]
    have stay:cap x=false→∃ (k':Nat) (g':Option Nat),(k:Int)=(k':Int)∧k'≤i+1∧((s.drop k').take (i+1-k')).any cap=false∧BAx w4 TB w1.heap.size ((s.take k').map lowC) g'∧(∀ z,g'=some z→w1.heap.size≤z)∧Ch (fun _=>False) w1 w4:=fun hc=>by
     refine ⟨k,g,rfl,by omega,?_,B4,hg4,c4⟩
     rw [hdk,List.any_append,hnc]
     simp [hc]
    refine Sif_cases (fun h65=>?_) (fun h65=>stay (by rw [hcapd,decide_eq_false (by have:=of_decide_eq_false h65; omega)]; rfl))
    refine Sif_cases (fun h90=>?_) (fun h90=>stay (by rw [hcapd,decide_eq_false (p:=x.toNat≤90) (by have:=of_decide_eq_false h90; omega),Bool.and_false]))
    have h65:=of_decide_eq_true h65
    have h90:=of_decide_eq_true h90
    rw [nameI_iff,lowC_cap (by omega) (by omega)]
    have tki:(s.take (i+1)).map lowC=(s.take i).map lowC++[lowC x]:=by rw [List.take_add_one,hx]; simp
    have tkk:(s.take k).map lowC++(s.drop k).take (i-k)=(s.take i).map lowC:=by
     conv=>rhs; rw [show i=k+(i-k) by omega,List.take_add,List.map_append,lowC_id hnc]
    refine ⟨fun w5=>∃ g',BAx w5 TB w1.heap.size ((s.take i).map lowC) g'∧(∀ z,g'=some z→w1.heap.size≤z)∧Ch (fun _=>False) w1 w5,?_,?_⟩
    ·rintro w5 ⟨g5,B5,hg5,c5⟩
     refine WriteByte_x B5 hT _ (by rw [List.length_map,List.length_take]; omega) fun w6 B6=>⟨_,rfl,?_⟩
     obtain ⟨g6,B6,hg6,c6⟩:=nxt hg5 c5 B6
     rw [nameI_iff,wrap_id (by omega) (by omega)]
     exact ⟨i+1,g6,by omega,Nat.le_refl _,by simp,by rw [tki]; exact B6,hg6,c6⟩
    ·refine Sif_cases (fun hlt2=>?_) (fun hge2=>?_)
     ·refine ⟨by omega,by omega,by omega,by omega,?_⟩
      rw [Int.toNat_natCast,sub]
      refine WriteString_x B4 hT _ (by rw [sz3,List.length_map,List.length_take,List.length_take,List.length_drop]; omega) fun w6 B6=>⟨_,_,rfl,?_⟩
      rw [sl3,tkk] at B6
      exact nxt hg4 c4 B6
     ·have:k=i:=by have:=of_decide_eq_false hge2; omega
      subst this
      exact ⟨g,B4,hg4,c4⟩
  ·have hi2:i=s.length:=by have:=of_decide_eq_false hge; omega
   subst hi2
   have hne:s.map lowC≠[]:=by
    intro e
    rw [List.map_eq_nil_iff] at e
    rw [e] at hany; cases hany
   refine ⟨fun w5=>∃ g',BAx w5 TB w1.heap.size (s.map lowC) g'∧(∀ z,g'=some z→w1.heap.size≤z)∧Ch (fun _=>False) w1 w5,?_,?_⟩
   ·rintro w5 ⟨g5,B5,hg5,c5⟩
    refine String_ok (B5.at hne) (by rw [List.length_map]; omega) fun w6 c6=>⟨_,rfl,hk w6 (c5.trans c6 fun y hy e=>?_)⟩
    have:=hg5 y e; omega
   ·have tkk:(s.take k).map lowC++(s.drop k).take (s.length-k)=s.map lowC:=by
     have e:(s.drop k).take (s.length-k)=s.drop k:=List.take_of_length_le (by rw [List.length_drop]; omega)
     rw [e] at hnc ⊢
     conv=>rhs; rw [← List.take_append_drop k s,List.map_append,lowC_id hnc]
    refine Sif_cases (fun hlt2=>?_) (fun hge2=>?_)
    ·refine ⟨by omega,by omega,?_⟩
     rw [Int.toNat_natCast,sub]
     refine WriteString_x B4 hT _ (by rw [sz3,List.length_map,List.length_take,List.length_take,List.length_drop]; omega) fun w6 B6=>⟨_,_,rfl,?_⟩
     rw [sl3,tkk] at B6
     exact nxt hg4 c4 B6
    ·have hk2:k=s.length:=by have:=of_decide_eq_false hge2; omega
     rw [hk2,List.take_length] at B4
     exact ⟨g,B4,hg4,c4⟩
 ·refine ⟨fun m b b1 n w1=>∃ i:Nat,b=true∧b1=(s.take i).any cap∧n=(i:Int)∧i≤s.length∧w1=w∧m=s.length-i,⟨_,0,rfl,rfl,rfl,by omega,rfl,rfl⟩,?_⟩
  rintro m b b1 n w1 ⟨i,rfl,rfl,rfl,hi,rfl,rfl⟩
  refine Sif_cases (fun h=>?_) (fun h=>?_)
  ·have hlt:i<s.length:=by have:=of_decide_eq_true h; omega
   obtain ⟨x,hx⟩:∃ x,s[i]?=some x:=⟨s[i],List.getElem?_eq_getElem hlt⟩
   have hx1:=h128 x (List.mem_of_getElem? hx)
   have tki:(s.take (i+1)).any cap=((s.take i).any cap || cap x):=by rw [List.take_add_one,hx,List.any_append]; simp
   refine ⟨fun b2 b3 w2=>b2=true∧b3=(s.take (i+1)).any cap∧w2=w1,?_,by omega,by omega,?_⟩
   ·rintro b2 b3 w2 ⟨rfl,rfl,rfl⟩
    rw [nameI_iff,wrap_id (by omega) (by omega)]
    exact ⟨_,by omega,i+1,by trivial,rfl,by omega,by omega,by trivial,rfl⟩
   ·rw [Int.toNat_natCast,get3 hx,nameI_iff]
    refine Sif_cases (fun h=>by have:=of_decide_eq_true h; omega) (fun _=>?_)
    refine Sif_cases (fun h=>?_) (fun h=>?_)
    ·have h:(s.take i).any cap=false:=by simpa using h
     rw [h,Bool.false_or] at tki
     refine Sif_cases (fun h65=>⟨by trivial,?_,by trivial⟩) (fun h65=>⟨by trivial,?_,by trivial⟩)
     ·rw [tki,hcapd,decide_eq_true (p:=65≤x.toNat) (by have:=of_decide_eq_true h65; omega),Bool.true_and]
      exact decide_eq_decide.2 (by omega)
     ·rw [tki,hcapd,decide_eq_false (by have:=of_decide_eq_false h65; omega)]; rfl
    ·have h:(s.take i).any cap=true:=by simpa using h
     exact ⟨by trivial,by rw [tki,h]; rfl,by trivial⟩
  ·have:i=s.length:=by have:=of_decide_eq_false h; omega
   subst this
   exact ⟨by trivial,by rw [List.take_length],by trivial⟩
end Go.Proofs.YtnmlmicmhpkbeaaGreatDoor
