/-
  Memory, block by block: what a block holds, what a change leaves alone; loads, stores, new blocks, append, copy in these words. Over every program. Maps in memory: what a map block holds, as a list of pairs; making, looking up, laying in, taking away, ranging. Over every program. Small laws over every program: wrapping that changes nothing, facts of a type, append in these words, a mutex, a call met by a contract. Rows of structs in memory, read by index; small steps over local boxes. Over every program. What came in, as a law's call finds it: 'Inp', read off the statement's own words; and the wrap of a law's statement ('lift_said'). Over every program. The wrap of a law's statement where the row lists package variables; a world for its witness. Over every program. The bound of the second form, as a measure. Lists that are their owner's: each is grown, element by element, and kept; at the end each reads as its owner wrote it. Over every program. Lists in memory of their own, of elements that hold blocks of their own: how they lie, that they are grown. Lists of bytes, lists of these, lists of these. Over every program. slices.SortFunc at rows of structs, in the words of the memory laws; calls that lay blocks and draw alone. Over every program. slices.SortFunc at rows of structs, where equals may differ; 'cmp' reads memory beside the row. Over every program. Ranges over functions: the loop's record and the block of deferred calls, as memory. Over every program. Numbers in a row. Over every program. Small laws of memory: many cells stored at once, rows that are written over, numbers in a row. Over every program. Short words for printed texts: runs of a reading plan; a function's text and its soundness in one law.
-/
import Derived.Test.YtnmlmicmhpkbeaaGreatDoorPz1
import Derived.Laws.Cells
import Derived.Below
import Derived.Deep.AppendSrc
import Derived.Laws.IdiomStrings
import Derived.Laws.IdiomCopy
import Derived.MapKept
import Derived.Maps.RangeRun
import Derived.Conc.MuLone
import Derived.ProofKit
import Derived.OpenShut
import Derived.ShutString
import Derived.ChangeOld
import Derived.Carry
import Derived.SizedLaws
import Derived.Deep.Slices
import Derived.Deep.CondSized
import Derived.Deep.DeepHandedRow
import Derived.Lib.LaidTab
import Derived.Test.YtnmlmicmhpkbeaaGreatDoorRows
import Derived.Shelf.SlSortCmp.NoneTotal
import Derived.Test.YtnmlmicmhpkbeaaGreatDoorProg
import Derived.KernelRfl
set_option linter.unusedVariables false
set_option linter.unusedSimpArgs false
namespace Go.Sv
open Go
def cellsAt (w:World) (b:Nat):Option (List Value) :=
 match w.heap[b]? with
 | some (.cells c _ _)=>some c.toList
 | _=>none
def blk (w:World) (b:Nat):Option (List Value) :=
 match w.heap[b]? with
 | some (.cells c _ fz)=>if fz.2≤fz.1∨c.size≤fz.1 then some c.toList else none
 | _=>none
def mapAt (w:World) (r:Nat):Option (List MapEntry × Nat) :=
 match w.heap[r]? with
 | some (.map es clock)=>some (es.toList,clock)
 | _=>none
structure Ch (S:Nat→Prop) (w w':World):Prop where
 os:w'.os=w.os
 tape:w'.tape=w.tape
 output:w'.output=w.output
 size:w.heap.size≤w'.heap.size
 keep:∀ b,b<w.heap.size→¬ S b→w'.heap[b]?=w.heap[b]?
theorem Ch.refl (S:Nat→Prop) (w:World):Ch S w w:=⟨rfl,rfl,rfl,Nat.le_refl _,fun _ _ _=>rfl⟩
theorem Ch.mono {S S':Nat→Prop} {w w':World} (h:Ch S w w') (hs:∀ b,b<w.heap.size→S b→S' b):Ch S' w w' :=
 ⟨h.os,h.tape,h.output,h.size,fun b hb hn=>h.keep b hb fun hS=>hn (hs b hb hS)⟩
theorem Ch.trans {S S':Nat→Prop} {a b c:World} (h:Ch S a b) (k:Ch S' b c) (hs:∀ x,x<a.heap.size→S' x→S x):Ch S a c :=
 ⟨k.os.trans h.os,k.tape.trans h.tape,k.output.trans h.output,Nat.le_trans h.size k.size,
  fun x hx hn=>(k.keep x (Nat.lt_of_lt_of_le hx h.size) fun hS=>hn (hs x hx hS)).trans (h.keep x hx hn)⟩
theorem Ch.trans' {S:Nat→Prop} {a b c:World} (h:Ch S a b) (k:Ch S b c):Ch S a c:=h.trans k fun _ _ hx=>hx
theorem Ch.below {S:Nat→Prop} {w w':World} {B:Nat} (h:Ch S w w') (hB:B≤w.heap.size) (hs:∀ b,S b→B≤b):RowKit.Below B w w' :=
 ⟨h.os,h.tape,h.output,h.size,fun b hb=>h.keep b (by omega) fun hS=>by have:=hs b hS; omega⟩
theorem Ch.drew {S:Nat→Prop} (w:World):Ch S w w.drew:=⟨rfl,rfl,rfl,Nat.le_refl _,fun _ _ _=>rfl⟩
@[simp] theorem blk_drew (w:World) (b:Nat):blk w.drew b=blk w b:=rfl
@[simp] theorem cellsAt_drew (w:World) (b:Nat):cellsAt w.drew b=cellsAt w b:=rfl
@[simp] theorem mapAt_drew (w:World) (b:Nat):mapAt w.drew b=mapAt w b:=rfl
@[simp] theorem heap_drew' (w:World):w.drew.heap=w.heap:=rfl
theorem Ch.blk {S:Nat→Prop} {w w':World} (h:Ch S w w') {b:Nat} (hb:b<w.heap.size) (hn:¬ S b):blk w' b=Sv.blk w b:=by
 unfold Sv.blk; rw [h.keep b hb hn]
theorem Ch.cells {S:Nat→Prop} {w w':World} (h:Ch S w w') {b:Nat} (hb:b<w.heap.size) (hn:¬ S b):cellsAt w' b=cellsAt w b:=by
 unfold cellsAt; rw [h.keep b hb hn]
theorem Ch.map {S:Nat→Prop} {w w':World} (h:Ch S w w') {b:Nat} (hb:b<w.heap.size) (hn:¬ S b):mapAt w' b=mapAt w b:=by
 unfold mapAt; rw [h.keep b hb hn]
theorem lt_of_heap {w:World} {b:Nat} {o:Obj} (h:w.heap[b]?=some o):b<w.heap.size:=(Array.getElem?_eq_some_iff.1 h).1
theorem blk_lt {w:World} {b:Nat} {cs:List Value} (h:blk w b=some cs):b<w.heap.size:=by
 unfold blk at h; split at h
 ·exact lt_of_heap (by assumption)
 ·cases h
theorem cells_lt {w:World} {b:Nat} {cs:List Value} (h:cellsAt w b=some cs):b<w.heap.size:=by
 unfold cellsAt at h; split at h
 ·exact lt_of_heap (by assumption)
 ·cases h
theorem blk_cells {w:World} {b:Nat} {cs:List Value} (h:blk w b=some cs):cellsAt w b=some cs:=by
 unfold blk at h; unfold cellsAt
 cases hh:w.heap[b]? with
 | none=>simp [hh] at h
 | some o =>
  cases o<;>simp [hh] at h ⊢
  exact h.2
theorem cell_of {w:World} {b:Nat} {cs:List Value} (h:cellsAt w b=some cs) (i:Nat):w.cell? ⟨b,i,none⟩=cs[i]?:=by
 unfold cellsAt at h
 split at h
 ·rename_i c t fz hh
  cases h
  simp [World.cell?,hh]
 ·cases h
theorem cell_blk {w:World} {b:Nat} {cs:List Value} (h:blk w b=some cs) (i:Nat):w.cell? ⟨b,i,none⟩=cs[i]?:=cell_of (blk_cells h) i
@[simp] theorem add_at (b o n:Nat):Addr.add ⟨b,o,none⟩ n=⟨b,o+n,none⟩:=by
 unfold Addr.add; split<;>simp_all
theorem frozen_blk {w:World} {b:Nat} {cs:List Value} (h:blk w b=some cs) {i:Nat} (hi:i<cs.length):w.frozen? ⟨b,i,none⟩=false:=by
 unfold blk at h
 split at h
 ·rename_i c t fz hh
  split at h
  ·rename_i hc
   cases h
   obtain ⟨lo,hi'⟩:=fz
   have hi2:i<c.size:=by simpa using hi
   simp only [World.frozen?,hh]
   simp at hc ⊢
   omega
  ·cases h
 ·cases h
theorem setCell_blk {w:World} {b:Nat} {cs:List Value} (h:blk w b=some cs) (i:Nat) (v:Value):blk (w.setCell ⟨b,i,none⟩ v) b=some (cs.set i v):=by
 unfold blk at h ⊢
 split at h
 ·rename_i c t fz hh
  split at h
  ·rename_i hc
   cases h
   simp only [World.setCell,Array.getElem?_modify,if_true,hh,Option.map_some]
   obtain ⟨l⟩:=c
   simp only [List.size_toArray] at hc
   simp [hc]
  ·cases h
 ·cases h
theorem setCell_ch (w:World) (b i:Nat) (v:Value):Ch (·=b) w (w.setCell ⟨b,i,none⟩ v) :=
 ⟨rfl,rfl,rfl,by simp,fun k _ hn=>by simp only [World.setCell,Array.getElem?_modify]; rw [if_neg (fun e=>hn e.symm)]⟩
theorem st_blk {w:World} {b o:Nat} {v:Value} {K:World→Prop} {cs:List Value} (h:blk w b=some cs) (ho:o<cs.length)
 (hk:∀ w',blk w' b=some (cs.set o v)→Ch (·=b) w w'→w'.heap.size=w.heap.size→K w'):st w ⟨b,o,none⟩ v K:=by
 refine ⟨?_,frozen_blk h ho,hk _ (setCell_blk h o v) (setCell_ch w b o v) (by simp)⟩
 rw [cell_blk h]; simp [ho]
theorem alloc_blk (w:World) (cs:List Value) (t:TypeId):blk (w.alloc (.cells cs.toArray t)) w.heap.size=some cs:=by
 unfold blk
 rw [heap_alloc_new w (.cells cs.toArray t)]; simp
theorem alloc_ch (w:World) (o:Obj):Ch (fun _=>False) w (w.alloc o) :=
 ⟨rfl,rfl,rfl,by simp,fun b hb _=>RowKit.Below.heap_alloc w o b hb⟩
theorem newB_blk {w:World} {cs:List Value} {t:TypeId} {K:Addr→World→Prop}
 (hk:∀ w',blk w' w.heap.size=some cs→Ch (fun _=>False) w w'→w'.heap.size=w.heap.size+1→K ⟨w.heap.size,0,none⟩ w'):newB w cs t K :=
 hk _ (alloc_blk w cs t) (alloc_ch w _) (by simp)
def Rd (w:World) (p:Option Addr) (n sz:Nat) (xs:List Value):Prop :=
 xs.length=n*sz∧(n*sz=0∨∃ b o cs,p=some ⟨b,o,none⟩∧cellsAt w b=some cs∧o+n*sz≤cs.length∧(cs.drop o).take (n*sz)=xs)
def Ow (w:World) (p:Option Addr) (n c sz:Nat) (xs:List Value) (b:Option Nat):Prop :=
 xs.length=n*sz∧n≤c∧((b=none∧c*sz=0)∨∃ k o cs,b=some k∧p=some ⟨k,o,none⟩∧blk w k=some cs∧o+c*sz≤cs.length∧(cs.drop o).take (n*sz)=xs)
theorem Ow.rd {w:World} {p:Option Addr} {n c sz:Nat} {xs:List Value} {b:Option Nat} (h:Ow w p n c sz xs b):Rd w p n sz xs:=by
 obtain ⟨h1,h2,h3⟩:=h
 refine ⟨h1,?_⟩
 rcases h3 with ⟨_,h3⟩ | ⟨k,o,cs,_,hp,hb,hl,ht⟩
 ·left
  have:n*sz≤c*sz:=Nat.mul_le_mul_right _ h2
  omega
 ·right
  have:n*sz≤c*sz:=Nat.mul_le_mul_right _ h2
  exact ⟨k,o,cs,hp,blk_cells hb,by omega,ht⟩
theorem Rd.ch {S:Nat→Prop} {w w':World} {p:Option Addr} {n sz:Nat} {xs:List Value} (h:Rd w p n sz xs) (hc:Ch S w w') (hn:∀ a,p=some a→n*sz≠0→¬ S a.block):Rd w' p n sz xs:=by
 obtain ⟨h1,h2⟩:=h
 refine ⟨h1,?_⟩
 rcases h2 with h2 | ⟨b,o,cs,hp,hb,hl,ht⟩
 ·exact .inl h2
 ·by_cases h0:n*sz=0
  ·exact .inl h0
  ·exact .inr ⟨b,o,cs,hp,by rw [hc.cells (cells_lt hb) (hn _ hp h0)]; exact hb,hl,ht⟩
theorem Ow.ch {S:Nat→Prop} {w w':World} {p:Option Addr} {n c sz:Nat} {xs:List Value} {b:Option Nat} (h:Ow w p n c sz xs b) (hc:Ch S w w') (hn:∀ k,b=some k→¬ S k):Ow w' p n c sz xs b:=by
 obtain ⟨h1,h2,h3⟩:=h
 refine ⟨h1,h2,?_⟩
 rcases h3 with h3 | ⟨k,o,cs,hb,hp,hk,hl,ht⟩
 ·exact .inl h3
 ·exact .inr ⟨k,o,cs,hb,hp,by rw [hc.blk (blk_lt hk) (hn k hb)]; exact hk,hl,ht⟩
theorem Ow.lt {w:World} {p:Option Addr} {n c sz:Nat} {xs:List Value} {k:Nat} (h:Ow w p n c sz xs (some k)):k<w.heap.size:=by
 obtain ⟨_,_,h3⟩:=h
 rcases h3 with ⟨h3,_⟩ | ⟨k',o,cs,hb,hp,hk,_,_⟩
 ·cases h3
 ·cases hb; exact blk_lt hk
theorem Rd.cell {w:World} {p:Option Addr} {n sz:Nat} {xs:List Value} (h:Rd w p n sz xs) {i:Nat} (hi:i<n*sz):∃ b o,p=some ⟨b,o,none⟩∧w.cell? ⟨b,o+i,none⟩=xs[i]?:=by
 obtain ⟨h1,h2⟩:=h
 rcases h2 with h2 | ⟨b,o,cs,hp,hb,hl,ht⟩
 ·omega
 ·refine ⟨b,o,hp,?_⟩
  rw [cell_of hb,← ht,List.getElem?_take,if_pos hi,List.getElem?_drop]
theorem oneCell_of {v:Value}:v.oneCell'=oneV v:=by cases v<;>rfl
theorem putSeg_nil (cs:List Value) (o:Nat):putSeg cs o []=cs:=by simp [putSeg]
theorem putSeg_cons (cs:List Value) (o:Nat) (v:Value) (r:List Value) (h:o+(r.length+1)≤cs.length):putSeg (cs.set o v) (o+1) r=putSeg cs o (v::r):=by
 apply List.ext_getElem?
 intro k
 rw [get_putSeg (by simp; omega),get_putSeg (by simp; omega)]
 simp only [List.length_cons]
 by_cases h1:k<o
 ·rw [if_pos (by omega),if_pos h1,List.getElem?_set_ne (by omega)]
 ·by_cases h2:k=o
  ·subst h2
   rw [if_pos (by omega),if_neg (by omega),if_pos (by omega),List.getElem?_set_self (by omega)]; simp
  ·rw [if_neg (by omega:¬ k<o+1),if_neg h1]
   by_cases h3:k<o+1+r.length
   ·rw [if_pos h3,if_pos (by omega)]
    obtain ⟨m,hm⟩:∃ m,k-o=m+1:=⟨k-o-1,by omega⟩
    rw [hm,List.getElem?_cons_succ]; congr 1; omega
   ·rw [if_neg h3,if_neg (by omega),List.getElem?_set_ne (by omega)]
theorem setCells_blk:∀ (vs:List Value) {w:World} {b o:Nat} {cs:List Value},blk w b=some cs→o+vs.length≤cs.length →
 blk (w.setCells b o vs) b=some (putSeg cs o vs)∧Ch (·=b) w (w.setCells b o vs)∧(w.setCells b o vs).heap.size=w.heap.size
 | [],w,b,o,cs,h,_=>⟨by rw [putSeg_nil]; exact h,Ch.refl _ _,rfl⟩
 | v::r,w,b,o,cs,h,hl=>by
  simp only [List.length_cons] at hl
  obtain ⟨h1,h2,h3⟩:=setCells_blk r (setCell_blk h o v) (o:=o+1) (by simp; omega)
  refine ⟨by rw [← putSeg_cons cs o v r (by omega)]; exact h1,(setCell_ch w b o v).trans' h2,by rw [World.setCells,h3]; simp⟩
theorem append_run {P:Program} {T T2 ty e:TypeId} {inf:TypeInfo} {z:Value} (hT:P.underlying T=some (.slice e)) (hi:P.info? e=some inf) (hz:inf.zero=some z) (hzs:z.cells.size=inf.size)
 {w:World} {p:Option Addr} {n c m:Nat} {xs ys:List Value} {b:Option Nat} {x:Value} (ho:Ow w p n c inf.size xs b) (hs:Src P inf.size T2 x m ys w)
 (h1:n+m≤2^47) (h2:(n+m)*inf.bytes≤2^47) :
 ∃ p' c' w' b',(Builtin.append_ #[T,T2] ty #[.slice p n c,x]).run P w=.ok (.slice p' (n+m) c') w'∧Ow w' p' (n+m) c' inf.size (xs++ys) b' ∧
  ((n+m≤c∧b'=b∧c'=c∧p'=p∧Ch (fun k=>b=some k) w w'∧w'.heap.size=w.heap.size)∨(c<n+m∧b'=some w.heap.size∧p'=some ⟨w.heap.size,0,none⟩∧Ch (fun _=>False) w w'∧w'.heap.size=w.heap.size+1)):=by
 obtain ⟨hl,hnc,ho⟩:=ho
 have hlen:(xs++ys).length=(n+m)*inf.size:=by rw [List.length_append,hl,hs.newsLen,Nat.add_mul]
 by_cases hroom:n+m≤c
 ·rcases ho with ⟨rfl,h0⟩ | ⟨k,o,cs,rfl,rfl,hb,hle,ht⟩
  ·-- no room at all: nothing is appended
   have hm0:(n+m)*inf.size=0:=by
    have:(n+m)*inf.size≤c*inf.size:=Nat.mul_le_mul_right _ hroom
    omega
   have hy0:ys=[]:=List.eq_nil_of_length_eq_zero (by rw [hs.newsLen]; rw [Nat.add_mul] at hm0; omega)
   refine ⟨p,c,w,none,?_,⟨hlen,hroom,.inl ⟨rfl,h0⟩⟩,.inl ⟨hroom,rfl,rfl,rfl,Ch.refl _ _,rfl⟩⟩
   have hcells:=hs.cells
   rw [hy0] at hcells
   rcases hs.kind with ⟨e',hk⟩ | hk<;>cases p<;>simp [Builtin.append_,run_underlying hT,run_underlying hk,sizeOf,typeInfo,hi,hs.len,hroom,hcells,storeCells]
  ·have hfit:o+n*inf.size+ys.length≤cs.length:=by
    have:(n+m)*inf.size≤c*inf.size:=Nat.mul_le_mul_right _ hroom
    rw [Nat.add_mul] at this
    rw [hs.newsLen]; omega
   have hr:=run_append_room_src (P:=P) w T T2 ty e inf hT hi k o n c x m ys hs hroom
    (fun j hj=>by rw [cell_blk hb]; simp; omega) (fun j hj=>frozen_blk hb (by omega))
   obtain ⟨g1,g2,g3⟩:=setCells_blk ys hb hfit
   refine ⟨_,_,_,some k,hr,⟨hlen,hroom,.inr ⟨k,o,_,rfl,rfl,g1,by rw [putSeg_length hfit]; exact hle,?_⟩⟩,.inl ⟨hroom,rfl,rfl,rfl,g2.mono fun x _ hx=>by rw [hx],g3⟩⟩
   apply List.ext_getElem?
   intro j
   rw [← hlen]
   by_cases hj:j<(xs++ys).length
   ·rw [List.getElem?_take,if_pos hj,List.getElem?_drop,get_putSeg hfit]
    rw [List.length_append] at hj
    by_cases hj2:j<xs.length
    ·rw [if_pos (by omega),List.getElem?_append_left hj2,← ht,List.getElem?_take,if_pos (by omega),List.getElem?_drop]
    ·rw [if_neg (by omega),if_pos (by omega),List.getElem?_append_right (by omega)]
     congr 1; omega
   ·rw [List.getElem?_eq_none (by rw [List.length_take]; omega),List.getElem?_eq_none (by omega)]
 ·have hold:(Builtin.firstCells inf.size n (.slice p n c)).run P w.drew=.ok xs.toArray w.drew:=by
   rcases ho with ⟨_,h0⟩ | ⟨k,o,cs,_,rfl,hb,hle,ht⟩
   ·have hn0:n*inf.size=0:=by
     have:n*inf.size≤c*inf.size:=Nat.mul_le_mul_right _ hnc
     omega
    have hx0:xs=[]:=List.eq_nil_of_length_eq_zero (by omega)
    subst hx0
    cases p with
    | none=>simp [Builtin.firstCells]
    | some a=>simp [Builtin.firstCells,hn0,loadCells,loadCellsFrom]
   ·simp only [Builtin.firstCells]
    rw [← hl]
    refine run_loadCells_list (P:=P) w.drew ⟨k,o,none⟩ xs fun j v hj=>?_
    have hjl:j<xs.length:=(List.getElem?_eq_some_iff.1 hj).1
    rw [add_at,World.cell?_drew,cell_blk hb,← hj,← ht,List.getElem?_take,if_pos (by omega),List.getElem?_drop]
  have hr:=run_append_grow_src (P:=P) w T T2 ty e inf z hT hi hz p n c xs hold x m ys hs (by omega) (by omega) (growslice_fits (by omega) (by simpa using h2))
  have hge:=grownCap_ge w (n+m) c e
  refine ⟨_,_,_,some w.heap.size,hr,⟨hlen,hge,.inr ⟨w.heap.size,0,(xs++ys)++(Builtin.zeroCells z.cells (grownCap w (n+m) c e-(n+m))).toList,rfl,rfl,?_,?_,?_⟩⟩,.inr ⟨by omega,rfl,rfl,?_,by simp⟩⟩
  ·have:=alloc_blk w.drew ((xs++ys)++(Builtin.zeroCells z.cells (grownCap w (n+m) c e-(n+m))).toList) e
   have e2:((xs++ys)++(Builtin.zeroCells z.cells (grownCap w (n+m) c e-(n+m))).toList).toArray=(xs++ys).toArray++Builtin.zeroCells z.cells (grownCap w (n+m) c e-(n+m)):=by
    apply Array.ext'; simp
   rw [e2] at this
   exact this
  ·have hzc:=size_zeroCells z.cells (grownCap w (n+m) c e-(n+m))
   have hmul:(grownCap w (n+m) c e-(n+m))*inf.size+(n+m)*inf.size=grownCap w (n+m) c e*inf.size:=by rw [← Nat.add_mul]; congr 1; omega
   rw [List.length_append,hlen,Array.length_toList,hzc,hzs]; omega
  ·rw [List.drop_zero,← hlen,List.take_left]
  ·exact (Ch.drew w).trans' (alloc_ch w.drew _)
theorem Src.of_rd {P:Program} {sz:Nat} {T2 e:TypeId} (hk:P.underlying T2=some (.slice e)) {w:World} {p:Option Addr} {m c:Nat} {ys:List Value} (h:Rd w p m sz ys) (hone:∀ u∈ys,oneV u=true):Src P sz T2 (.slice p m c) m ys w:=by
 have cells:∀ w':World,(∀ a,w'.cell? a=w.cell? a)→(Builtin.firstCells sz m (.slice p m c)).run P w'=.ok ys.toArray w':=by
  intro w' hw
  obtain ⟨hl,h⟩:=h
  rcases h with h0 | ⟨b,o,cs,rfl,hb,hle,ht⟩
  ·have hy:ys=[]:=List.eq_nil_of_length_eq_zero (by omega)
   subst hy
   cases p with
   | none=>simp [Builtin.firstCells]
   | some a=>simp [Builtin.firstCells,h0,loadCells,loadCellsFrom]
  ·simp only [Builtin.firstCells]
   rw [← hl]
   refine run_loadCells_list (P:=P) w' ⟨b,o,none⟩ ys fun j v hj=>?_
   have hjl:j<ys.length:=(List.getElem?_eq_some_iff.1 hj).1
   rw [add_at,hw,cell_of hb,← hj,← ht,List.getElem?_take,if_pos (by omega),List.getElem?_drop]
 exact ⟨.inl ⟨e,hk⟩,fun _=>rfl,cells w fun _=>rfl,cells w.drew fun _=>rfl,h.1,fun u hu=>by rw [oneCell_of]; exact hone u hu⟩
def bytesV (l:List UInt8):List Value:=l.map fun b=>Value.int .u8 (b.toNat:Int)
@[simp] theorem bytesV_length (l:List UInt8):(bytesV l).length=l.length:=by simp [bytesV]
theorem bytesV_append (a b:List UInt8):bytesV (a++b)=bytesV a++bytesV b:=by simp [bytesV]
end Go.Sv
namespace Go.Sv
open Go MapKept
def Mp (d:TypeDesc) (w:World) (r:Nat) (m:List (Value × Value)):Prop :=
 ∃ es clock,w.heap[r]?=some (.map es clock)∧Stamped es clock∧(∀ x∈es.toList,IsKey d x.key)∧es.toList.map (fun e=>(e.key,e.val))=m
theorem Mp.lt {d:TypeDesc} {w:World} {r:Nat} {m:List (Value × Value)} (h:Mp d w r m):r<w.heap.size:=by
 obtain ⟨es,c,hb,_⟩:=h; exact lt_of_heap hb
theorem Mp.ch {S:Nat→Prop} {d:TypeDesc} {w w':World} {r:Nat} {m:List (Value × Value)} (h:Mp d w r m) (hc:Ch S w w') (hn:¬ S r):Mp d w' r m:=by
 have hlt:=h.lt
 obtain ⟨es,c,hb,h⟩:=h
 exact ⟨es,c,by rw [hc.keep r hlt hn]; exact hb,h⟩
@[simp] theorem Mp_drew (d:TypeDesc) (w:World) (r:Nat) (m:List (Value × Value)):Mp d w.drew r m↔Mp d w r m:=Iff.rfl
def It (d:TypeDesc) (w:World) (it r:Nat) (m left:List (Value × Value)):Prop :=
 ∃ es clock since seen c0,w.heap[it]?=some (.mapIter (some r) since seen c0)∧w.heap[r]?=some (.map es clock)∧Stamped es clock∧(∀ x∈es.toList,IsKey d x.key)∧es.toList.map (fun e=>(e.key,e.val))=m ∧
  (∀ x∈es.toList,x.born<since)∧since≤c0∧since≤clock∧((leftOf es seen).toList.map fun e=>(e.key,e.val))=left
theorem It.mp {d:TypeDesc} {w:World} {it r:Nat} {m left:List (Value × Value)} (h:It d w it r m left):Mp d w r m:=by
 obtain ⟨es,clock,since,seen,c0,_,hb,hs,hk,hm,_⟩:=h
 exact ⟨es,clock,hb,hs,hk,hm⟩
theorem It.lt {d:TypeDesc} {w:World} {it r:Nat} {m left:List (Value × Value)} (h:It d w it r m left):it<w.heap.size:=by
 obtain ⟨es,clock,since,seen,c0,hi,_⟩:=h; exact lt_of_heap hi
theorem It.ch {S:Nat→Prop} {d:TypeDesc} {w w':World} {it r:Nat} {m left:List (Value × Value)} (h:It d w it r m left) (hc:Ch S w w') (hi:¬ S it) (hr:¬ S r):It d w' it r m left:=by
 have h1:=h.lt
 have h2:=h.mp.lt
 obtain ⟨es,clock,since,seen,c0,g1,g2,g⟩:=h
 exact ⟨es,clock,since,seen,c0,by rw [hc.keep _ h1 hi]; exact g1,by rw [hc.keep _ h2 hr]; exact g2,g⟩
@[simp] theorem It_drew (d:TypeDesc) (w:World) (it r:Nat) (m left:List (Value × Value)):It d w.drew it r m left↔It d w it r m left:=Iff.rfl
end Go.Sv
namespace Go.Sv
open Go
theorem wrap_id {n:Int} (h1:-9223372036854775808≤n) (h2:n≤9223372036854775807):IntKind.wrap .i64 n=n:=by
 unfold IntKind.wrap
 simp only [show IntKind.i64.bits=64 from rfl,show IntKind.i64.signed=true from rfl,Bool.true_and]
 split
 ·rename_i h; simp at h; omega
 ·rename_i h; simp at h; omega
def InfoIs (P:Program) (t:TypeId) (sz bytes:Nat) (z:Value):Prop:=∃ inf,P.info? t=some inf∧inf.size=sz∧inf.bytes=bytes∧inf.zero=some z
theorem InfoIs.of {P:Program} {t:TypeId} {sz bytes:Nat} {z:Value} (h1:(P.info? t).map (·.size)=some sz) (h2:(P.info? t).map (·.bytes)=some bytes) (h3:(P.info? t).map (·.zero)=some (some z)):InfoIs P t sz bytes z:=by
 cases h:P.info? t with
 | none=>rw [h] at h1; cases h1
 | some i =>
  rw [h] at h1 h2 h3
  exact ⟨i,h,by simpa using h1,by simpa using h2,by simpa using h3⟩
theorem InfoIs.zero {P:Program} {t:TypeId} {sz bytes:Nat} {z:Value} (h:InfoIs P t sz bytes z) (w:World):(zeroValue t).run P w=.ok z w:=by
 obtain ⟨i,hi,_,_,hz⟩:=h
 simp [zeroValue,typeInfo,hi,hz]
theorem append_rd {P:Program} {T T2 ty e e2:TypeId} {sz bytes:Nat} {z:Value} (hT:P.underlying T=some (.slice e)) (hT2:P.underlying T2=some (.slice e2)) (hi:InfoIs P e sz bytes z) (hzs:z.cells.size=sz)
 {w:World} {p q:Option Addr} {n c m c2:Nat} {xs ys:List Value} {b:Option Nat} (ho:Ow w p n c sz xs b) (hs:Rd w q m sz ys) (hone:∀ u∈ys,oneV u=true)
 (h1:n+m≤2^47) (h2:(n+m)*bytes≤2^47) :
 ∃ p' c' w' b',(Builtin.append_ #[T,T2] ty #[.slice p n c,.slice q m c2]).run P w=.ok (.slice p' (n+m) c') w'∧Ow w' p' (n+m) c' sz (xs++ys) b' ∧
  (∀ k,b'=some k→b=some k∨k=w.heap.size)∧Ch (fun k=>b=some k) w w'∧(p≠none→p'≠none)∧(m≠0→p'≠none∨sz=0):=by
 obtain ⟨inf,hi,rfl,rfl,hz⟩:=hi
 obtain ⟨p',c',w',b',h3,h4,h5⟩:=append_run (ty:=ty) hT hi hz hzs ho (Src.of_rd hT2 hs hone) h1 h2
 refine ⟨p',c',w',b',h3,h4,?_⟩
 rcases h5 with ⟨g1,rfl,rfl,rfl,g5,_⟩ | ⟨g1,rfl,rfl,g4,_⟩
 ·refine ⟨fun k hk=>.inl hk,g5,id,fun hm=>?_⟩
  obtain ⟨_,_,h6⟩:=h4
  rcases h6 with ⟨_,h6⟩ | ⟨k,o,cs,_,hp,_⟩
  ·right
   rcases Nat.mul_eq_zero.1 h6 with h6 | h6
   ·omega
   ·exact h6
  ·left; rw [hp]; simp
 ·exact ⟨fun k hk=>.inr (Option.some.inj hk).symm,g4.mono fun _ _ h=>h.elim,fun _=>by simp,fun _=>.inl (by simp)⟩
theorem Sif_cases {b:Bool} {x y:Prop} (h1:b=true→x) (h2:b=false→y):Sif b x y:=by
 unfold Sif; cases b
 ·exact h2 rfl
 ·exact h1 rfl
theorem Sif_true {x y:Prop} (h:x):Sif true x y:=h
theorem Sif_false {x y:Prop} (h:y):Sif false x y:=h
@[simp] theorem nn_some {a:Addr} {K:Addr→Prop}:nn (some a) K↔K a:=by
 unfold nn; exact Iff.rfl
@[simp] theorem nameI_iff {n:Int} {K:Int→Prop}:nameI n K↔K n:=by unfold nameI; simp
theorem Ch.new {S:Nat→Prop} {a b c:World} (h:Ch S a b) (k:Ch (fun _=>False) b c):Ch S a c:=h.trans k fun _ _ hx=>hx.elim
end Go.Sv
namespace Go.Sv
open Go
set_option linter.unusedVariables false
theorem flat_get {α:Type} {g:α→List Value} {sz:Nat} (hg:∀ x,(g x).length=sz):∀ (L:List α) (i j:Nat),j<sz→(L.flatMap g)[i*sz+j]?=L[i]?.bind fun x=>(g x)[j]?
 | [],i,j,_=>by simp
 | x::L,0,j,hj=>by
  rw [List.flatMap_cons,Nat.zero_mul,Nat.zero_add,List.getElem?_append_left (by rw [hg]; exact hj)]; simp
 | x::L,i+1,j,hj=>by
  rw [List.flatMap_cons,List.getElem?_append_right (by rw [hg,Nat.add_mul]; omega),hg,show (i+1)*sz+j-sz=i*sz+j by rw [Nat.add_mul]; omega,flat_get hg L i j hj]; simp
theorem flat_len {α:Type} {g:α→List Value} {sz:Nat} (hg:∀ x,(g x).length=sz) (L:List α):(L.flatMap g).length=L.length*sz:=by
 induction L with
 | nil=>simp
 | cons x L ih=>rw [List.flatMap_cons,List.length_append,ih,hg,List.length_cons,Nat.add_mul]; omega
theorem Rd.at {α:Type} {g:α→List Value} {sz:Nat} (hg:∀ x,(g x).length=sz) {w:World} {p:Option Addr} {n:Nat} {L:List α} (h:Rd w p n sz (L.flatMap g)) {i:Nat} {x:α} (hi:L[i]?=some x) (h0:0<sz) :
 ∃ b o,p=some ⟨b,o,none⟩∧∀ j v,(g x)[j]?=some v→w.cell? ⟨b,o+i*sz+j,none⟩=some v:=by
 have hil:i<L.length:=(List.getElem?_eq_some_iff.1 hi).1
 have hn:n*sz=L.length*sz:=by rw [← h.1,flat_len hg]
 have hlt:∀ j,j<sz→i*sz+j<n*sz:=fun j hj=>by
  have:(i+1)*sz≤L.length*sz:=Nat.mul_le_mul_right _ hil
  rw [Nat.add_mul] at this; omega
 obtain ⟨b,o,hp,_⟩:=h.cell (hlt 0 h0)
 refine ⟨b,o,hp,fun j v hv=>?_⟩
 have hj:j<sz:=by rw [← hg x]; exact (List.getElem?_eq_some_iff.1 hv).1
 obtain ⟨b',o',hp',hc⟩:=h.cell (hlt j hj)
 rw [hp] at hp'; cases hp'
 rw [Nat.add_assoc,hc,flat_get hg L i j hj,hi]; exact hv
theorem Rd.len {w:World} {p:Option Addr} {n sz:Nat} {xs:List Value} (h:Rd w p n sz xs):xs.length=n*sz:=h.1
theorem Rd.lt {w:World} {p:Option Addr} {n sz:Nat} {xs:List Value} (h:Rd w p n sz xs):∀ a,p=some a→n*sz≠0→a.block<w.heap.size:=fun a ha h0=>by
 rcases h.2 with h2 | ⟨b,o,cs,hp,hb,_⟩
 ·exact absurd h2 h0
 ·rw [hp] at ha; cases ha; exact cells_lt hb
theorem st_all {w:World} {k:Nat} {cs:List Value}:∀ (vs:List Value) (o:Nat) {K:World→Prop},blk w k=some cs→o+vs.length≤cs.length →
 (∀ w',blk w' k=some (putSeg cs o vs)→Ch (·=k) w w'→w'.heap.size=w.heap.size→K w') →
 (List.foldr (fun (v:Value) (F:Nat→World→Prop) (i:Nat) (w:World)=>st w ⟨k,i,none⟩ v fun w=>F (i+1) w) (fun _ w=>K w) vs) o w:=by
 intro vs
 induction vs generalizing w cs with
 | nil=>intro o K hb _ hk; exact hk w (by rw [putSeg_nil]; exact hb) (Ch.refl _ _) rfl
 | cons v vs ih =>
  intro o K hb hl hk
  simp only [List.length_cons] at hl
  refine st_blk hb (by omega) fun w1 b1 c1 z1=>?_
  refine ih (o+1) b1 (by simp; omega) fun w2 b2 c2 z2=>hk w2 (by rw [b2,putSeg_cons cs o v vs (by omega)]) (c1.trans' c2) (by rw [z2,z1])
theorem Ow.nil {w:World} {sz:Nat}:Ow w none 0 0 sz [] none:=⟨by simp,Nat.le_refl _,.inl ⟨rfl,by simp⟩⟩
theorem Ow.blt {w:World} {p:Option Addr} {n c sz:Nat} {xs:List Value} {b:Option Nat} (h:Ow w p n c sz xs b):∀ k,b=some k→k<w.heap.size:=fun k hk=>by subst hk; exact h.lt
theorem push_ok {P:Program} {T ty e te:TypeId} {sz bytes:Nat} {z:Value} (hT:P.underlying T=some (.slice e)) (hi:InfoIs P e sz bytes z) (hzs:z.cells.size=sz) {α:Type} {g:α→List Value} (hg:∀ x,(g x).length=sz) (hone:∀ x,∀ v∈g x,oneV v=true)
 {w:World} {p:Option Addr} {c:Nat} {L:List α} {b:Option Nat} (ho:Ow w p L.length c sz (L.flatMap g) b) (x:α) (h1:L.length+1≤2^47) (h2:(L.length+1)*bytes≤2^47) {K:Option Addr→Nat→Nat→World→Prop}
 (hk:∀ p' c' b' w',Ow w' p' (L++[x]).length c' sz ((L++[x]).flatMap g) b'→(∀ k,b'=some k→b=some k∨w.heap.size≤k)→Ch (fun k=>b=some k) w w'→K p' (L++[x]).length c' w') :
 newB w (g x) te fun a w2=>∃ p5 n7 c5 w3,Sem.run P (Builtin.append_ #[T,T] ty #[.slice p L.length c,.slice (some a) 1 1]) w2=.ok (.slice p5 n7 c5) w3∧K p5 n7 c5 w3:=by
 refine newB_blk fun w2 b2 c2 z2=>?_
 have hrd:Rd w2 (some ⟨w.heap.size,0,none⟩) 1 sz (g x):=⟨by rw [hg]; omega,.inr ⟨_,0,_,rfl,blk_cells b2,by rw [hg]; omega,by rw [List.drop_zero,List.take_of_length_le (by rw [hg]; omega)]⟩⟩
 obtain ⟨p',c',w',b',r1,r2,r3,r4,_⟩:=append_rd (ty:=ty) (c2:=1) hT hT hi hzs (ho.ch c2 fun _ _=>id) hrd (hone x) h1 h2
 refine ⟨p',_,c',w',r1,?_⟩
 have e:(L++[x]).flatMap g=L.flatMap g++g x:=by simp
 have:=hk p' c' b' w' (by rw [e,List.length_append]; exact r2) (fun k hk=>(r3 k hk).imp id fun h=>by omega) ((c2.mono fun _ _ h=>h.elim).trans' r4)
 rw [List.length_append] at this
 exact this
theorem append_rd2 {P:Program} {T T2 ty e e2:TypeId} {sz bytes:Nat} {z:Value} (hT:P.underlying T=some (.slice e)) (hT2:P.underlying T2=some (.slice e2)) (hi:InfoIs P e sz bytes z) (hzs:z.cells.size=sz)
 {w:World} {p q:Option Addr} {n c m c2:Nat} {xs ys:List Value} {b:Option Nat} (ho:Ow w p n c sz xs b) (hs:Rd w q m sz ys) (hone:∀ u∈ys,oneV u=true)
 (h1:n+m≤2^47) (h2:(n+m)*bytes≤2^47) :
 ∃ p' c' w' b',(Builtin.append_ #[T,T2] ty #[.slice p n c,.slice q m c2]).run P w=.ok (.slice p' (n+m) c') w'∧Ow w' p' (n+m) c' sz (xs++ys) b' ∧
  ((b'=b∧p'=p∧Ch (fun k=>b=some k) w w')∨(b'=some w.heap.size∧p'=some ⟨w.heap.size,0,none⟩∧Ch (fun _=>False) w w')):=by
 obtain ⟨inf,hi,rfl,rfl,hz⟩:=hi
 obtain ⟨p',c',w',b',h3,h4,h5⟩:=append_run (ty:=ty) hT hi hz hzs ho (Src.of_rd hT2 hs hone) h1 h2
 refine ⟨p',c',w',b',h3,h4,?_⟩
 rcases h5 with ⟨g1,rfl,rfl,rfl,g5,_⟩ | ⟨g1,rfl,rfl,g4,_⟩
 ·exact .inl ⟨rfl,rfl,g5⟩
 ·exact .inr ⟨rfl,rfl,g4⟩
theorem Ow.st {w:World} {p:Option Addr} {n c sz:Nat} {xs:List Value} {b:Option Nat} (h:Ow w p n c sz xs b) {i:Nat} (hi:i<n*sz) :
 ∃ k o,p=some ⟨k,o,none⟩∧b=some k∧∀ (v:Value) (K:World→Prop),(∀ w',Ow w' p n c sz (xs.set i v) b→Ch (·=k) w w'→w'.heap.size=w.heap.size→K w')→Sv.st w ⟨k,o+i,none⟩ v K:=by
 obtain ⟨h1,h2,h3⟩:=h
 have hnc:n*sz≤c*sz:=Nat.mul_le_mul_right _ h2
 rcases h3 with ⟨_,h3⟩ | ⟨k,o,cs,rfl,rfl,hb,hl,ht⟩
 ·omega
 ·refine ⟨k,o,rfl,rfl,fun v K hK=>?_⟩
  refine st_blk hb (by omega) fun w' b' c' z'=>hK w' ⟨by simpa using h1,h2,.inr ⟨k,o,_,rfl,rfl,b',by simpa using hl,?_⟩⟩ c' z'
  rw [← ht]
  apply List.ext_getElem?
  intro j
  simp only [List.getElem?_take,List.getElem?_drop,List.getElem?_set]
  by_cases hj:j<n*sz
  ·by_cases hji:i=j
   ·subst hji
    have e1:o+i<cs.length:=by omega
    have e2:i<cs.length-o:=by omega
    simp [hj,e1]
    omega
   ·have:¬ o+i=o+j:=by omega
    simp [hj,hji,this]
  ·by_cases hji:i=j
   ·omega
   ·simp [hj,hji]
theorem flat_set {α:Type} {g:α→List Value} {sz:Nat} (hg:∀ x,(g x).length=sz) {x':α}:∀ (L:List α) (i j:Nat) (v:Value) {x:α},L[i]?=some x→j<sz→g x'=(g x).set j v→(L.flatMap g).set (i*sz+j) v=(L.set i x').flatMap g
 | [],i,j,v,x,h,_,_=>by simp at h
 | y::L,0,j,v,x,h,hj,he=>by
  simp only [List.getElem?_cons_zero,Option.some.injEq] at h
  subst h
  rw [List.set_cons_zero,List.flatMap_cons,List.flatMap_cons,Nat.zero_mul,Nat.zero_add,List.set_append_left _ _ (by rw [hg]; exact hj),he]
 | y::L,i+1,j,v,x,h,hj,he=>by
  simp only [List.getElem?_cons_succ] at h
  rw [List.set_cons_succ,List.flatMap_cons,List.flatMap_cons,List.set_append_right _ _ (by rw [hg,Nat.add_mul]; omega),hg,show (i+1)*sz+j-sz=i*sz+j by rw [Nat.add_mul]; omega,flat_set hg L i j v h hj he]
theorem data_ext {a b:ByteArray} (h:a.data.toList=b.data.toList):a=b:=Go.WideShapes.bytes_inj h
end Go.Sv
namespace Go.Sv
open Go Go.ChangeShapes Go.WideShapes Go.ChangeAt Go.RowKit
set_option linter.unusedVariables false
def Inp (P:Program) (w:World) (ok:Nat→Nat→Prop):Nat→TypeId→List Value→Prop
 | 0,_,_=>False
 | n+1,t,cs =>
  match P.underlying t with
  | some .bool=>∃ b:Bool,cs=[.bool b]
  | some (.int k)=>∃ i:Int,cs=[.int k i]∧(Lit.int k i).wf=true
  | some .string=>∃ s:ByteArray,cs=[.string s]∧ok s.size 1
  | some (.slice e)=>∃ (p:Option Addr) (L:List (List Value)) (c:Nat),cs=[.slice p L.length c]∧L.length≤c∧ok c (P.bytesOf e)∧Rd w p L.length (P.cellsOf e) L.flatten∧∀ x∈L,Inp P w ok n e x
  | some (.struct fs)=>cs.length=P.cellsOf t∧∀ f∈fs.toList,Inp P w ok n f.type ((cs.drop f.offset).take (P.cellsOf f.type))
  | _=>True
section
variable {P:Program} {w:World} {ok:Nat→Nat→Prop} {n:Nat} {t:TypeId} {cs:List Value}
theorem Inp.bool (h:Inp P w ok n t cs) (ht:P.underlying t=some .bool):∃ b:Bool,cs=[.bool b]:=by
 cases n with
 | zero=>exact h.elim
 | succ n=>unfold Inp at h; rw [ht] at h; exact h
theorem Inp.int {k:IntKind} (h:Inp P w ok n t cs) (ht:P.underlying t=some (.int k)):∃ i:Int,cs=[.int k i]∧(Lit.int k i).wf=true:=by
 cases n with
 | zero=>exact h.elim
 | succ n=>unfold Inp at h; rw [ht] at h; exact h
theorem Inp.str (h:Inp P w ok n t cs) (ht:P.underlying t=some .string):∃ s:ByteArray,cs=[.string s]∧ok s.size 1:=by
 cases n with
 | zero=>exact h.elim
 | succ n=>unfold Inp at h; rw [ht] at h; exact h
theorem Inp.slice {e:TypeId} (h:Inp P w ok n t cs) (ht:P.underlying t=some (.slice e)) :
 ∃ (p:Option Addr) (L:List (List Value)) (c:Nat),cs=[.slice p L.length c]∧L.length≤c∧ok c (P.bytesOf e)∧Rd w p L.length (P.cellsOf e) L.flatten∧∀ x∈L,∃ n,Inp P w ok n e x:=by
 cases n with
 | zero=>exact h.elim
 | succ n =>
  unfold Inp at h; rw [ht] at h
  obtain ⟨p,L,c,h1,h2,h3,h4,h5⟩:=h
  exact ⟨p,L,c,h1,h2,h3,h4,fun x hx=>⟨n,h5 x hx⟩⟩
theorem Inp.struct {fs:Array Field} (h:Inp P w ok n t cs) (ht:P.underlying t=some (.struct fs)):cs.length=P.cellsOf t∧∀ f∈fs.toList,∃ n,Inp P w ok n f.type ((cs.drop f.offset).take (P.cellsOf f.type)):=by
 cases n with
 | zero=>exact h.elim
 | succ n =>
  unfold Inp at h; rw [ht] at h
  exact ⟨h.1,fun f hf=>⟨n,h.2 f hf⟩⟩
end
theorem cell_at {w:World} {b j:Nat} {v:Value} (h:w.cell? ⟨b,j,none⟩=some v):∃ cs,cellsAt w b=some cs∧cs[j]?=some v:=by
 unfold World.cell? at h
 unfold cellsAt
 simp only at h
 split at h
 ·rename_i c t fz hh
  exact ⟨c.toList,by rw [hh],by simpa using h⟩
 ·cases h
theorem rd_of_cells {w:World} {a:Addr} {n sz:Nat} {xs:List Value} (hl:xs.length=n*sz) (hc:∀ i,i<n*sz→w.cell? (a.add i)=xs[i]?):Rd w (some a) n sz xs:=by
 refine ⟨hl,?_⟩
 by_cases h0:n*sz=0
 ·exact .inl h0
 ·have h1:=hc 0 (by omega)
  rw [List.getElem?_eq_getElem (by omega)] at h1
  have hs:=World.cell?_spot h1
  obtain ⟨b,o,sp⟩:=a
  have hsp:sp=none:=by
   unfold Addr.add at hs
   split at hs<;>simp_all
  subst hsp
  simp only [add_at] at hc h1
  obtain ⟨cs,hcs,_⟩:=cell_at h1
  right
  have hat:∀ i,i<n*sz→cs[o+i]?=xs[i]?:=fun i hi=>by
   rw [← cell_of hcs,hc i hi]
  have hlast:=hat (n*sz-1) (by omega)
  rw [List.getElem?_eq_getElem (by omega:n*sz-1<xs.length)] at hlast
  have hlt:=(List.getElem?_eq_some_iff.1 hlast).1
  refine ⟨b,o,cs,rfl,hcs,by omega,?_⟩
  apply List.ext_getElem?
  intro i
  rw [List.getElem?_take]
  split
  ·rename_i hi; rw [List.getElem?_drop,hat i hi]
  ·rw [List.getElem?_eq_none (by omega)]
section
variable {H:Type} {enc:TypeId × Value→H} {P:Program} {w:World}
theorem flatten_get {sz:Nat} (L:List (List Value)) (h:∀ x∈L,x.length=sz) (i j:Nat) (hj:j<sz):L.flatten[i*sz+j]?=L[i]?.bind fun x=>x[j]?:=by
 induction L generalizing i with
 | nil=>simp
 | cons x L ih =>
  have hx:x.length=sz:=h x (by simp)
  rw [List.flatten_cons]
  cases i with
  | zero=>rw [Nat.zero_mul,Nat.zero_add,List.getElem?_append_left (by omega)]; simp
  | succ i =>
   rw [List.getElem?_append_right (by rw [hx,Nat.add_mul]; omega),hx,show (i+1)*sz+j-sz=i*sz+j by rw [Nat.add_mul]; omega,ih (fun y hy=>h y (by simp [hy])) i]; simp
theorem flatten_len {sz:Nat} (L:List (List Value)) (h:∀ x∈L,x.length=sz):L.flatten.length=L.length*sz:=by
 induction L with
 | nil=>simp
 | cons x L ih=>rw [List.flatten_cons,List.length_append,h x (by simp),ih fun y hy=>h y (by simp [hy]),List.length_cons,Nat.add_mul]; omega
structure Measure (P:Program) (H:Type) where
 ok:Nat→Nat→Prop
 good:TypeId→DataW H→Prop
 str:∀ {t:TypeId} {l:List UInt8},good t (.lit (.string l))→ok l.length 1
 nil:∀ e,ok 0 (P.bytesOf e)
 slice:∀ {t e:TypeId} {a b:List (DataW H)},P.underlying t=some (.slice e)→good t (.slice a b)→ok (a.length+b.length) (P.bytesOf e)∧∀ d∈a,good e d
 agg:∀ {t:TypeId} {fs:Array Field} {l:List (DataW H)},P.underlying t=some (.struct fs)→good t (.agg l)→∀ (j:Nat) (f:Field) (d:DataW H),fs[j]?=some f→l[j]?=some d→good f.type d
theorem inp_of_trod (M:Measure P H) (base:Nat):∀ (fuel:Nat) (t:TypeId) (cs:List Value) (x:DataW H × List MemPlace),DataW.trod enc P w base (fun _=>true) true fuel t cs=some x→M.good t x.1→∃ n,Inp P w M.ok n t cs:=by
 have mono:∀ (a b:Nat) (t:TypeId) (cs:List Value),a≤b→Inp P w M.ok a t cs→Inp P w M.ok b t cs:=by
  intro a
  induction a with
  | zero=>intro b t cs _ h; exact h.elim
  | succ a ih =>
   intro b t cs hab h
   obtain ⟨b,rfl⟩:∃ c,b=c+1:=⟨b-1,by omega⟩
   unfold Inp at h ⊢
   split at h
   ·exact h
   ·exact h
   ·exact h
   ·obtain ⟨p,L,c,h1,h2,h3,h4,h5⟩:=h
    exact ⟨p,L,c,h1,h2,h3,h4,fun x hx=>ih b _ _ (by omega) (h5 x hx)⟩
   ·exact ⟨h.1,fun f hf=>ih b _ _ (by omega) (h.2 f hf)⟩
   ·trivial
 intro fuel
 induction fuel with
 | zero=>intro t cs x h; simp [DataW.trod] at h
 | succ fuel ih =>
  intro t cs x h hg
  cases ht:P.underlying t with
  | none=>exact ⟨1,by unfold Inp; rw [ht]; trivial⟩
  | some td =>
   cases td with
   | bool =>
    obtain ⟨b,rfl,_⟩:=DataW.trod_bool ht h
    exact ⟨1,by unfold Inp; rw [ht]; exact ⟨b,rfl⟩⟩
   | int k =>
    obtain ⟨i,rfl,_,hw⟩:=DataW.trod_int ht h
    exact ⟨1,by unfold Inp; rw [ht]; exact ⟨i,rfl,hw⟩⟩
   | string =>
    obtain ⟨s,rfl,rfl,_⟩:=DataW.trod_string ht h
    exact ⟨1,by unfold Inp; rw [ht]; exact ⟨s,rfl,by simpa using M.str hg⟩⟩
   | slice e =>
    rcases DataW.trod_slice ht h with ⟨rfl,_⟩ | ⟨a,len,cap,elems,rest,m,hm,rfl,rfl,hb,hl,hmx,hlen,hel,hsp,hns⟩
    ·exact ⟨1,by unfold Inp; rw [ht]; exact ⟨none,[],0,rfl,Nat.le_refl _,M.nil e,⟨by simp,.inl (by simp)⟩,by simp⟩⟩
    ·obtain ⟨hk,hge⟩:=M.slice ht hg
     obtain rfl:fuel=m:=by omega
     have hrest:=(hsp rfl).1
     have hcap:elems.length+rest.length=cap:=by omega
     have each:∀ i,i<len→∃ cs',w.cells? base (a.add (i*P.cellsOf e)) (P.cellsOf e)=some cs'∧∃ n,Inp P w M.ok n e cs':=fun i hi=>by
      have h1:=hel i hi
      have h2:elems[i]?=some (elems[i]'(by omega)):=List.getElem?_eq_getElem (by omega)
      rw [h2] at h1
      cases hc:w.cells? base (a.add (i*P.cellsOf e)) (P.cellsOf e) with
      | none=>rw [hc] at h1; cases h1
      | some cs' =>
       rw [hc] at h1
       exact ⟨cs',rfl,ih e cs' _ h1 (hge _ (List.mem_map.2 ⟨_,List.mem_of_getElem? h2,rfl⟩))⟩
     obtain ⟨F,hF⟩:=Deep.choose_lt each
     obtain ⟨N,hN⟩:=Deep.fuel_lt (n:=len) (q:=fun i n=>Inp P w M.ok n e (F i)) (fun i a b hab h=>mono a b _ _ hab h) (fun i hi=>(hF i hi).2)
     have hFl:∀ x∈(List.range len).map F,x.length=P.cellsOf e:=fun x hx=>by
      obtain ⟨i,hi,rfl⟩:=List.mem_map.1 hx
      exact (World.cells?_some (hF i (List.mem_range.1 hi)).1).2.1
     have hlen':((List.range len).map F).length=len:=by simp
     refine ⟨N+1,?_⟩
     unfold Inp
     rw [ht]
     refine ⟨some a,(List.range len).map F,cap,by rw [hlen'],by rw [hlen']; exact hl,by simpa [hcap] using hk,?_,fun x hx=>?_⟩
     ·rw [hlen']
      have hll:((List.range len).map F).flatten.length=len*P.cellsOf e:=by
       rw [flatten_len _ hFl,hlen']
      refine rd_of_cells hll fun i hi=>?_
      have hsz:0<P.cellsOf e:=Nat.pos_of_ne_zero fun h0=>by rw [h0] at hi; simp at hi
      have hdm:=Nat.div_add_mod i (P.cellsOf e)
      have hil:i / P.cellsOf e<len:=by rw [Nat.div_lt_iff_lt_mul hsz]; exact hi
      have hj:=Nat.mod_lt i hsz
      have h3:=(World.cells?_some (hF _ hil).1).2.2 (i%P.cellsOf e) hj
      rw [Deep.add_add,Nat.mul_comm,hdm] at h3
      rw [h3]
      have h4:=flatten_get _ hFl (i / P.cellsOf e) (i%P.cellsOf e) hj
      rw [Nat.mul_comm,hdm] at h4
      rw [h4,List.getElem?_map,List.getElem?_range hil]; simp
     ·obtain ⟨i,hi,rfl⟩:=List.mem_map.1 hx
      exact hN i (List.mem_range.1 hi)
   | struct fs =>
    obtain ⟨xs,m,hm,rfl,hcl,hxl,hf⟩:=DataW.trod_struct ht h
    obtain rfl:fuel=m:=by omega
    have each:∀ i,i<fs.size→∃ n,∀ f,fs[i]?=some f→Inp P w M.ok n f.type ((cs.drop f.offset).take (P.cellsOf f.type)):=fun i hi=>by
     have hfi:fs[i]?=some fs[i]:=Array.getElem?_eq_getElem hi
     have h1:=hf i _ hfi
     have h2:xs[i]?=some (xs[i]'(by omega)):=List.getElem?_eq_getElem (by omega)
     rw [h2] at h1
     obtain ⟨n,hn⟩:=ih _ _ _ h1 (M.agg ht hg i _ _ hfi (by rw [List.getElem?_map,h2]; rfl))
     exact ⟨n,fun f hf'=>by rw [hfi] at hf'; cases hf'; exact hn⟩
    obtain ⟨N,hN⟩:=Deep.fuel_lt (n:=fs.size) (q:=fun i n=>∀ f,fs[i]?=some f→Inp P w M.ok n f.type ((cs.drop f.offset).take (P.cellsOf f.type))) (fun i a b hab h f hf=>mono a b _ _ hab (h f hf)) each
    refine ⟨N+1,?_⟩
    unfold Inp
    rw [ht]
    refine ⟨hcl,fun f hf'=>?_⟩
    obtain ⟨i,hi,rfl⟩:=List.mem_iff_getElem.1 hf'
    exact hN i (by simpa using hi) _ (by simp)
   | _=>exact ⟨1,by unfold Inp; rw [ht]; trivial⟩
end
def InpV (P:Program) (w:World) (ok:Nat→Nat→Prop) (t:TypeId) (v:Value):Prop :=
 (∃ n,Inp P w ok n t v.cells.toList)∧(match P.underlying t with | some (.struct _) | some (.array _ _)=>∃ cs,v=.agg cs | _=>oneV v=true)
def InpAll (P:Program) (w:World) (ok:Nat→Nat→Prop):List TypeId→List Value→Prop
 | [],[]=>True
 | t::ts,v::vs=>InpV P w ok t v∧InpAll P w ok ts vs
 | _,_=>False
section
variable {H:Type} {enc:TypeId × Value→H} {P:Program} {w:World}
theorem inpAll_of (M:Measure P H):∀ {ts:List TypeId} {vs:List Value} {ds:List (DataW H)} {ps:List MemPlace},DataW.TrodAll enc P w 0 (fun _=>true) true ts vs ds ps →
 (∀ (j:Nat) t v,ts[j]?=some t→vs[j]?=some v→∃ b,Value.okWide P w .any b t v)→(∀ (j:Nat) t d,ts[j]?=some t→ds[j]?=some d→M.good t d)→InpAll P w M.ok ts vs
 | [],[],_,_,_,_,_=>trivial
 | t::ts,v::vs,d::ds,ps,h,hv,hg=>by
  obtain ⟨p,q,⟨fuel,hf⟩,h2,_⟩:=h
  refine ⟨⟨inp_of_trod M 0 fuel t _ _ hf (hg 0 t d rfl rfl),?_⟩,inpAll_of M h2 (fun j t v ht hv'=>hv (j+1) t v ht hv') fun j t d ht hd=>hg (j+1) t d ht hd⟩
  obtain ⟨b,h3⟩:=hv 0 t v rfl rfl
  unfold Value.okWide at h3
  cases ht:P.underlying t with
  | none=>simp only [ht] at h3 ⊢; unfold Cell.okWide Cell.ok at h3; rw [ht] at h3; cases v<;>first | rfl | exact h3.elim
  | some td =>
   cases td<;>simp only [ht] at h3 ⊢
   all_goals first
    | (obtain ⟨cs,h3,_⟩:=h3; exact ⟨cs,h3⟩)
    | (unfold Cell.okWide Cell.ok at h3; rw [ht] at h3; cases v<;>first | rfl | exact h3.elim)
 | [],_::_,_,_,h,_,_=>h.elim
 | _::_,[],_,_,h,_,_=>h.elim
 | _::_,_::_,[],_,h,_,_=>h.elim
theorem trodAll_stays {W W':World} (hl:laidOutB P=true) (hb:RowKit.Below W.heap.size W W'):∀ {ts:List TypeId} {vs:List Value} {ds:List (DataW H)} {ps:List MemPlace},
 (∀ t∈ts,P.readableRec t=true∧t<P.types.size)→DataW.TrodAll enc P W 0 (fun _=>true) true ts vs ds ps→DataW.TrodAll enc P W' 0 (fun b=>decide (b<W.heap.size)) true ts vs ds ps
 | [],[],[],_,_,h=>h
 | t::ts,v::vs,d::ds,ps,hr,h=>by
  obtain ⟨p,q,h1,h2,e⟩:=h
  have hlt:∀ x∈p,x.block<W.heap.size:=by obtain ⟨m,hm⟩:=h1; exact DataW.trod_lt m _ _ _ hm
  exact ⟨p,q,Below.trod hl (hr t (List.mem_cons_self ..)).1 (hr t (List.mem_cons_self ..)).2 h1 hb hlt,trodAll_stays hl hb (fun t ht=>hr t (List.mem_cons_of_mem _ ht)) h2,e⟩
 | [],_::_,_,_,_,h=>h.elim
 | _::_,[],_,_,_,h=>h.elim
 | [],[],_::_,_,_,h=>h.elim
 | _::_,_::_,[],_,_,h=>h.elim
theorem trodAll_ds_len {spare:Nat→Bool} {base:Nat} {held:Bool}:∀ {ts:List TypeId} {vs:List Value} {ds:List (DataW H)} {ps:List MemPlace},DataW.TrodAll enc P w base spare held ts vs ds ps→ds.length=ts.length
 | [],[],[],_,_=>rfl
 | t::ts,v::vs,d::ds,ps,⟨p,q,_,h,_⟩=>by simp [trodAll_ds_len h]
 | [],_::_,_,_,h=>h.elim
 | _::_,[],_,_,h=>h.elim
 | [],[],_::_,_,h=>h.elim
 | _::_,_::_,[],_,h=>h.elim
theorem law_contract {C:Checked} {f:FuncId} {fn:Func} {s:ChangeSpec} {tb:TypeId} (M:Measure C.prog H)
 (hl:laidOutB C.prog=true) (hvars:s.vars=[]) (hfun:∀ ds:List (DataW H),ds.length=fn.params.toList.length→s.fn H ds={ results:=[.lit (.bool true)],args:=ds })
 (hres:fn.resultTypes=#[tb]) (htb:C.prog.underlying tb=some .bool) (hrec:fn.params.toList.all (fun t=>C.prog.readableRec t && decide (t<C.prog.types.size))=true)
 {W:World} {base:Nat} {args:Array Value} {ds gs:List (DataW H)} {before:List MemPlace}
 (hval:∀ (j:Nat) t v,fn.params[j]?=some t→args[j]?=some v→Value.okWide C.prog W .any base t v)
 (hW:DataW.Whole enc C.prog fn.params.toList s.vars false W args.toList ds gs before) (hgood:∀ (j:Nat) (t:TypeId) (d:DataW H),fn.params.toList[j]?=some t→ds[j]?=some d→M.good t d)
 (walk:InpAll C.prog W M.ok fn.params.toList args.toList→callP C.prog f args.toList W fun v w'=>v=.bool true∧Ch (fun _=>False) W w') :
 Calls C.prog f args W fun e W'=>∃ v,e=.returned v∧s.post enc C.prog fn false true false false W args v W':=by
 have hW':=hW
 obtain ⟨p,q,hA,hV,hbef,hfz,hnd⟩:=hW
 rw [hvars] at hV
 obtain ⟨rfl,rfl⟩:=trodVars_none hV
 have hlen:=trodAll_ds_len hA
 have hrec':∀ t∈fn.params.toList,C.prog.readableRec t=true∧t<C.prog.types.size:=fun t ht=>by
  have:=List.all_eq_true.1 hrec t ht
  simpa using this
 have hin:=inpAll_of M hA (fun j t v ht hv=>⟨base,hval j t v (by simpa using ht) (by simpa using hv)⟩) hgood
 have hc:=walk hin
 have hc2:Calls C.prog f args W fun e w'=>∃ v,e=.returned v∧(v=.bool true∧Ch (fun _=>False) W w'):=by
  unfold callP at hc
  have e:args.toList.toArray=args:=by simp
  rw [e] at hc
  exact hc
 refine Calls.mono hc2 fun e W' ⟨v,he,hv,hch⟩=>?_
 subst hv
 have bel:RowKit.Below W.heap.size W W':=hch.below (Nat.le_refl _) fun _ h=>h.elim
 refine ⟨_,he,ds,[],before,[],p,[],hW',?_,?_,?_,bel.frame _,fun h=>by cases h⟩
 ·rw [List.append_nil,hfun ds hlen,hres]
  exact trodAll_mk1 (shut_bool htb _)
 ·rw [List.append_nil,hfun ds hlen]
  exact trodAll_stays hl bel hrec' hA
 ·rw [List.append_nil,hfun ds hlen,hvars]; rfl
end
end Go.Sv
namespace Go.Sv
open Go Go.ChangeShapes Go.WideShapes Go.ChangeAt Go.RowKit
set_option linter.unusedVariables false
section
variable {H:Type} {enc:TypeId × Value→H}
end
end Go.Sv
namespace Go.Proofs.YtnmlmicmhpkbeaaGreatDoor
open Go Go.Sv
theorem bulk_part {H:Type} {d:DataW H} {l:List (DataW H)} (h:d∈l):Rows.uptoBulk d≤Rows.uptoBulkAll l:=by
 induction l with
 | nil=>cases h
 | cons x r ih =>
  simp only [Rows.uptoBulkAll]
  rcases List.mem_cons.1 h with rfl | e
  ·omega
  ·have:=ih e; omega
theorem bulk_one {H:Type} (d:DataW H):1≤Rows.uptoBulk d:=by
 cases d with
 | lit l=>cases l<;>simp [Rows.uptoBulk]
 | _=>simp [Rows.uptoBulk]
theorem bulk_len {H:Type} (l:List (DataW H)):l.length≤Rows.uptoBulkAll l:=by
 induction l with
 | nil=>simp [Rows.uptoBulkAll]
 | cons x r ih=>have:=bulk_one x; simp only [Rows.uptoBulkAll,List.length_cons]; omega
def upM:Nat:=1048576
def byBulk (P:Program) (H:Type):Measure P H where
 ok n _:=n≤upM
 good _ d:=Rows.uptoBulk d≤upM
 str h:=by simp only [Rows.uptoBulk] at h; omega
 nil _:=Nat.zero_le _
 slice {_ _ a b} _ h:=by
  simp only [Rows.uptoBulk] at h
  have h1:=bulk_len a
  have h2:=bulk_len b
  exact ⟨by omega,fun d hd=>by have:=bulk_part hd; omega⟩
 agg {_ _ l} _ h j f d _ hd:=by
  simp only [Rows.uptoBulk] at h
  have:=bulk_part (List.mem_of_getElem? hd)
  omega
theorem byBulk_of {P:Program} {H:Type} (ds:List (DataW H)) (h:Rows.uptoSmall H ds=true):∀ d∈ds,∀ t,(byBulk P H).good t d:=fun d hd t=>by
 have h1:Rows.uptoBulkAll ds≤1048576:=by simpa [Rows.uptoSmall] using h
 have:=bulk_part hd
 show Rows.uptoBulk d≤upM
 unfold upM; omega
abbrev okU:Nat→Nat→Prop:=fun n _=>n≤upM
end Go.Proofs.YtnmlmicmhpkbeaaGreatDoor
namespace Go.Sv
open Go
set_option linter.unusedVariables false
theorem Rd.take {w:World} {p:Option Addr} {n m sz:Nat} {xs:List Value} (h:Rd w p n sz xs) (hm:m≤n):Rd w p m sz (xs.take (m*sz)):=by
 obtain ⟨h1,h2⟩:=h
 have hmul:m*sz≤n*sz:=Nat.mul_le_mul_right _ hm
 refine ⟨by rw [List.length_take,h1]; omega,?_⟩
 rcases h2 with h2 | ⟨b,o,cs,hp,hb,hl,ht⟩
 ·exact .inl (by omega)
 ·refine .inr ⟨b,o,cs,hp,hb,by omega,?_⟩
  rw [← ht,List.take_take,Nat.min_eq_left hmul]
theorem flat_take {α:Type} {g:α→List Value} {sz:Nat} (hg:∀ x,(g x).length=sz) (L:List α) (m:Nat):(L.flatMap g).take (m*sz)=(L.take m).flatMap g:=by
 induction L generalizing m with
 | nil=>simp
 | cons x L ih =>
  cases m with
  | zero=>simp
  | succ m =>
   rw [List.flatMap_cons,List.take_succ_cons,List.flatMap_cons,Nat.add_mul,Nat.one_mul,Nat.add_comm,List.take_append,List.take_of_length_le (by rw [hg]; omega),hg,Nat.add_sub_cancel_left,ih]
structure SL where
 p:Option Addr
 n:Nat
 c:Nat
 own:Option Nat
def SL.cells (x:SL):List Value:=[.slice x.p x.n x.c]
theorem SL.cells_len (x:SL):x.cells.length=1:=rfl
theorem SL.cells_one (x:SL):∀ v∈x.cells,oneV v=true:=by
 intro v hv; simp [SL.cells] at hv; rw [hv]; rfl
theorem SL.at {w:World} {p:Option Addr} {n:Nat} {T:List SL} (h:Rd w p n 1 (T.flatMap SL.cells)) {i:Nat} {x:SL} (hi:T[i]?=some x):∃ k o,p=some ⟨k,o,none⟩∧w.cell? ⟨k,o+i,none⟩=some (.slice x.p x.n x.c):=by
 obtain ⟨k,o,e,h⟩:=h.at SL.cells_len hi (by decide)
 exact ⟨k,o,e,by simpa using h 0 _ rfl⟩
structure Stays {α:Type} (Good:World→(Nat→Prop)→Nat→α→Prop):Prop where
 ch:∀ {w w':World} {B B':Nat→Prop} {j:Nat} {x:α},Good w B j x→Ch B w w'→(∀ b,b<w.heap.size→B' b→B b)→Good w' B' j x
def Busy (T:List SL) (i:Nat) (cb gb:Option Nat) (b:Nat):Prop:=cb=some b∨gb=some b∨∃ j x,T[j]?=some x∧i≤j∧x.own=some b
section
variable {α:Type} (g:α→List Value) (sz:Nat) (Good:World→(Nat→Prop)→Nat→α→Prop) (X:Nat→Prop)
structure Gb (w0 w:World) (T:List SL) (i:Nat) (cb:Option Nat) (gp:Option Addr) (gc:Nat) (gb:Option Nat) (G:List SL):Prop where
 rest:∀ j x,T[j]?=some x→i≤j→∃ ys:List α,Ow w x.p x.n x.c sz (ys.flatMap g) x.own∧ys.length=x.n∧∀ y∈ys,Good w (Busy T i cb gb) j y
 grown:Ow w gp G.length gc 1 (G.flatMap SL.cells) gb
 cg:∀ b,cb=some b→gb≠some b∧∀ j x,T[j]?=some x→i≤j→x.own≠some b
 gr:∀ b,gb=some b→∀ j x,T[j]?=some x→i≤j→x.own≠some b
 rr:∀ j k x y b,i≤j→i≤k→j≠k→T[j]?=some x→T[k]?=some y→x.own=some b→y.own≠some b
 loc:∀ b,Busy T i cb gb b→(∃ x∈T,x.own=some b)∨w0.heap.size≤b
 gnew:∀ b,gb=some b→w0.heap.size≤b
 place:∀ (k:Nat) (x:SL),G[k]?=some x→∀ a:Addr,x.p=some a→x.n*sz≠0→(∃ y∈T,y.own=some a.block)∨w0.heap.size≤a.block
 small:∀ (k:Nat) (x:SL),G[k]?=some x→x.n≤2^60
 ch:Ch (fun b=>∃ x∈T,x.own=some b) w0 w
structure Gs (w0 w:World) (T:List SL) (i:Nat) (gp:Option Addr) (gc:Nat) (gb:Option Nat) (G:List SL) (lab:Nat→Nat):Prop where
 b:Gb g sz Good w0 w T i none gp gc gb G
 read:∀ k x,G[k]?=some x→∃ ys:List α,Rd w x.p x.n sz (ys.flatMap g)∧ys.length=x.n∧(∀ y∈ys,Good w (Busy T i none gb) (lab k) y)∧∀ a,x.p=some a→x.n*sz≠0→¬ Busy T i none gb a.block
 own:∀ k x,k<i→T[k]?=some x→∃ ys:List α,Rd w x.p x.n sz (ys.flatMap g)∧ys.length=x.n∧(∀ y∈ys,Good w (Busy T i none gb) k y)∧∀ a,x.p=some a→x.n*sz≠0→¬ Busy T i none gb a.block
structure Gr (w0 w:World) (T:List SL) (i:Nat) (cur:SL) (xs:List α) (gp:Option Addr) (gc:Nat) (gb:Option Nat) (G:List SL) (lab:Nat→Nat):Prop where
 b:Gb g sz Good w0 w T (i+1) cur.own gp gc gb G
 now:Ow w cur.p cur.n cur.c sz (xs.flatMap g) cur.own
 len:xs.length=cur.n
 curg:∀ y∈xs,Good w (Busy T (i+1) cur.own gb) i y
 read:∀ k x,G[k]?=some x→(lab k=i∧x.p=cur.p∧x.n≤cur.n)∨∃ ys:List α,Rd w x.p x.n sz (ys.flatMap g)∧ys.length=x.n∧(∀ y∈ys,Good w (Busy T (i+1) cur.own gb) (lab k) y)∧∀ a,x.p=some a→x.n*sz≠0→¬ Busy T (i+1) cur.own gb a.block
 own:∀ k x,k≤i→T[k]?=some x→(k=i∧x.p=cur.p∧x.n≤cur.n)∨∃ ys:List α,Rd w x.p x.n sz (ys.flatMap g)∧ys.length=x.n∧(∀ y∈ys,Good w (Busy T (i+1) cur.own gb) k y)∧∀ a,x.p=some a→x.n*sz≠0→¬ Busy T (i+1) cur.own gb a.block
end
section
variable {α:Type} {g:α→List Value} {sz:Nat} {Good:World→(Nat→Prop)→Nat→α→Prop}
theorem Busy.lt {T:List SL} {i i':Nat} {cb gb:Option Nat} (h:i≤i') {b:Nat} (hb:Busy T i' cb gb b):Busy T i cb gb b:=by
 rcases hb with hb | hb | ⟨j,x,h1,h2,h3⟩
 ·exact .inl hb
 ·exact .inr (.inl hb)
 ·exact .inr (.inr ⟨j,x,h1,by omega,h3⟩)
theorem Gs.start (hst:Stays Good) {w0 w:World} {T:List SL} {i:Nat} {gp:Option Addr} {gc:Nat} {gb:Option Nat} {G:List SL} {lab:Nat→Nat} (h:Gs g sz Good w0 w T i gp gc gb G lab) {x:SL} (hx:T[i]?=some x):∃ xs,Gr g sz Good w0 w T i x xs gp gc gb G lab:=by
 obtain ⟨xs,ho,hl,hg⟩:=h.b.rest i x hx (Nat.le_refl _)
 have bz:∀ b,Busy T (i+1) x.own gb b→Busy T i none gb b:=fun b hb=>by
  rcases hb with hb | hb | ⟨j,y,h1,h2,h3⟩
  ·exact .inr (.inr ⟨i,x,hx,Nat.le_refl _,hb⟩)
  ·exact .inr (.inl hb)
  ·exact .inr (.inr ⟨j,y,h1,by omega,h3⟩)
 refine ⟨xs,⟨fun j y hj hij=>?_,h.b.grown,fun b hb=>⟨fun e=>h.b.gr b e i x hx (Nat.le_refl _) hb,fun j y hj hij e=>h.b.rr i j x y b (Nat.le_refl _) (by omega) (by omega) hx hj hb e⟩,fun b hb j y hj hij=>h.b.gr b hb j y hj (by omega),fun j k y z b hj hk=>h.b.rr j k y z b (by omega) (by omega),fun b hb=>h.b.loc b (bz b hb),h.b.gnew,h.b.place,h.b.small,h.b.ch⟩,ho,hl,fun y hy=>hst.ch (hg y hy) (Ch.refl _ _) fun b _=>bz b,fun k y hk=>.inr ?_,fun k y hki hk=>?_⟩
 ·obtain ⟨ys,g1,g2,g3⟩:=h.b.rest j y hj (by omega)
  exact ⟨ys,g1,g2,fun z hz=>hst.ch (g3 z hz) (Ch.refl _ _) fun b _=>bz b⟩
 ·obtain ⟨ys,g1,g2,g3,g4⟩:=h.read k y hk
  exact ⟨ys,g1,g2,fun z hz=>hst.ch (g3 z hz) (Ch.refl _ _) fun b _=>bz b,fun a ha h0 hb=>g4 a ha h0 (bz _ hb)⟩
 ·by_cases e:k=i
  ·subst e
   rw [hx] at hk
   cases hk
   exact .inl ⟨rfl,rfl,Nat.le_refl _⟩
  ·obtain ⟨ys,g1,g2,g3,g4⟩:=h.own k y (by omega) hk
   exact .inr ⟨ys,g1,g2,fun z hz=>hst.ch (g3 z hz) (Ch.refl _ _) fun b _=>bz b,fun a ha h0 hb=>g4 a ha h0 (bz _ hb)⟩
theorem Gr.push {P:Program} {ET ty e te:TypeId} {bytes:Nat} {z:Value} (hT:P.underlying ET=some (.slice e)) (hi:InfoIs P e sz bytes z) (hzs:z.cells.size=sz) (hst:Stays Good) (hgl:∀ x,(g x).length=sz) (hone:∀ x,∀ v∈g x,oneV v=true) (h0:0<sz)
 {w0 w:World} {T:List SL} {i:Nat} {cur:SL} {xs:List α} {gp:Option Addr} {gc:Nat} {gb:Option Nat} {G:List SL} {lab:Nat→Nat} (h:Gr g sz Good w0 w T i cur xs gp gc gb G lab) (x:α)
 (hx:∀ w' B,Ch (fun _=>False) w w'→(∀ b,B b→Busy T (i+1) cur.own gb b∨w.heap.size<b)→Good w' B i x) (hn:cur.n+1≤2^47) (hb:(cur.n+1)*bytes≤2^47) {K:Option Addr→Nat→Nat→World→Prop}
 (hk:∀ cur' w',Gr g sz Good w0 w' T i cur' (xs++[x]) gp gc gb G lab→cur'.n=cur.n+1→K cur'.p cur'.n cur'.c w') :
 newB w (g x) te fun a w2=>∃ p5 n7 c5 w3,Sem.run P (Builtin.append_ #[ET,ET] ty #[.slice cur.p cur.n cur.c,.slice (some a) 1 1]) w2=.ok (.slice p5 n7 c5) w3∧K p5 n7 c5 w3:=by
 refine newB_blk fun w2 b2 c2 z2=>?_
 have hrd:Rd w2 (some ⟨w.heap.size,0,none⟩) 1 sz (g x):=⟨by rw [hgl]; omega,.inr ⟨_,0,_,rfl,blk_cells b2,by rw [hgl]; omega,by rw [List.drop_zero,List.take_of_length_le (by rw [hgl]; omega)]⟩⟩
 obtain ⟨p',c',w',b',r1,r2,r3⟩:=append_rd2 (ty:=ty) (c2:=1) hT hT hi hzs (h.now.ch c2 fun _ _=>id) hrd (hone x) hn hb
 refine ⟨p',_,c',w',r1,?_⟩
 have hcurl:∀ b,cur.own=some b→b<w.heap.size:=fun b hb=>h.now.blt b hb
 have hgbl:∀ b,gb=some b→b<w.heap.size:=fun b hb=>h.b.grown.blt b hb
 have hrl:∀ j y,T[j]?=some y→i+1≤j→∀ b,y.own=some b→b<w.heap.size:=fun j y hj hij b hb=>by
  obtain ⟨ys,g1,_⟩:=h.b.rest j y hj hij
  exact g1.blt b hb
 have hw0:=h.b.ch.size
 -- from w to w': only the block in hand
 have hch:Ch (fun b=>cur.own=some b) w w':=by
  rcases r3 with ⟨_,_,r3⟩ | ⟨_,_,r3⟩
  ·exact (c2.mono fun _ _ g=>g.elim).trans' r3
  ·exact (c2.trans' r3).mono fun _ _ g=>g.elim
 have hb':∀ b,b'=some b→cur.own=some b∨w.heap.size<b:=fun b hbb=>by
  rcases r3 with ⟨e,_,_⟩ | ⟨e,_,_⟩
  ·rw [e] at hbb; exact .inl hbb
  ·rw [e] at hbb; cases hbb; exact .inr (by omega)
 have bz:∀ b,b<w.heap.size→Busy T (i+1) b' gb b→Busy T (i+1) cur.own gb b:=fun b hlt hbz=>by
  rcases hbz with q | q
  ·rcases hb' b q with q | q
   ·exact .inl q
   ·omega
  ·exact .inr q
 have bz2:∀ b,Busy T (i+1) b' gb b→Busy T (i+1) cur.own gb b∨w.heap.size<b:=fun b hbz=>by
  rcases hbz with q | q
  ·rcases hb' b q with q | q
   ·exact .inl (.inl q)
   ·exact .inr q
  ·exact .inl (.inr q)
 have hchB:Ch (Busy T (i+1) cur.own gb) w w':=hch.mono fun b _ q=>.inl q
 refine hk ⟨p',cur.n+1,c',b'⟩ w' ⟨⟨fun j y hj hij=>?_,h.b.grown.ch hch fun b hb q=>(h.b.cg b q).1 hb,fun b hbb=>?_,h.b.gr,h.b.rr,fun b hbz=>?_,h.b.gnew,h.b.place,h.b.small,h.b.ch.trans hch fun b hlt q=>?_⟩,?_,by simp [h.len],fun y hy=>?_,fun k y hk'=>?_,fun k y hki hk'=>?_⟩ rfl
 ·obtain ⟨ys,g1,g2,g3⟩:=h.b.rest j y hj hij
  exact ⟨ys,g1.ch hch fun b hb q=>(h.b.cg b q).2 j y hj hij hb,g2,fun z hz=>hst.ch (g3 z hz) hchB bz⟩
 ·rcases hb' b hbb with q | q
  ·exact h.b.cg b q
  ·refine ⟨fun e=>?_,fun j y hj hij e=>?_⟩
   ·have:=hgbl b e; omega
   ·have:=hrl j y hj hij b e; omega
 ·rcases bz2 b hbz with q | q
  ·exact h.b.loc b q
  ·exact .inr (by omega)
 ·rcases h.b.loc b (.inl q) with q | q
  ·exact q
  ·omega
 ·rw [List.flatMap_append,List.flatMap_singleton]; exact r2
 ·rcases List.mem_append.1 hy with hy | hy
  ·exact hst.ch (h.curg y hy) hchB bz
  ·rw [List.mem_singleton.1 hy]
   have hG2:Good w2 (Busy T (i+1) cur.own gb) i x:=hx w2 _ c2 fun b q=>.inl q
   have hc2:Ch (Busy T (i+1) cur.own gb) w2 w':=by
    rcases r3 with ⟨_,_,r3⟩ | ⟨_,_,r3⟩
    ·exact r3.mono fun b _ q=>.inl q
    ·exact r3.mono fun _ _ g=>g.elim
   refine hst.ch (hx w2 (fun b=>Busy T (i+1) cur.own gb b∨w.heap.size<b) c2 fun b q=>q) (hc2.mono fun b _ q=>.inl q) fun b _ q=>bz2 b q
 ·rcases h.read k y hk' with ⟨e1,e2,e3⟩ | ⟨ys,g1,g2,g3,g4⟩
  ·rcases r3 with ⟨eb,ep,_⟩ | ⟨eb,ep,r3⟩
   ·exact .inl ⟨e1,e2.trans ep.symm,by show y.n≤cur.n+1; omega⟩
   ·refine .inr ⟨xs.take y.n,?_,by rw [List.length_take,h.len]; omega,fun z hz=>?_,fun a ha hn0 hbz=>?_⟩
    ·have:=Rd.take h.now.rd e3
     rw [flat_take hgl] at this
     rw [e2]
     exact this.ch (c2.trans' r3) fun _ _ _=>id
    ·rw [e1]; exact hst.ch (h.curg z (List.mem_of_mem_take hz)) hchB bz
    ·obtain ⟨_,q2,q3⟩:=h.now
     rw [e2] at ha
     rcases q3 with ⟨_,q3⟩ | ⟨k2,o,cs,e4,e5,_⟩
     ·have h5:y.n*sz≤cur.n*sz:=Nat.mul_le_mul_right _ e3
      have h7:cur.n*sz≤cur.c*sz:=Nat.mul_le_mul_right _ q2
      omega
     ·rw [e5] at ha; cases ha
      have hk2:=hcurl k2 e4
      rcases hbz with q | q | ⟨j,x',q1,q2',q3'⟩
      ·have q':w2.heap.size=k2:=Option.some.inj (eb.symm.trans q)
       omega
      ·exact (h.b.cg k2 e4).1 q
      ·exact (h.b.cg k2 e4).2 j x' q1 q2' q3'
  ·refine .inr ⟨ys,g1.ch hch fun a ha hn0 q=>g4 a ha hn0 (.inl q),g2,fun z hz=>hst.ch (g3 z hz) hchB bz,fun a ha hn0 hbz=>?_⟩
   have hal:=g1.lt a ha hn0
   exact g4 a ha hn0 (bz _ hal hbz)
 ·rcases h.own k y hki hk' with ⟨e1,e2,e3⟩ | ⟨ys,g1,g2,g3,g4⟩
  ·rcases r3 with ⟨eb,ep,_⟩ | ⟨eb,ep,r3⟩
   ·exact .inl ⟨e1,e2.trans ep.symm,by show y.n≤cur.n+1; omega⟩
   ·refine .inr ⟨xs.take y.n,?_,by rw [List.length_take,h.len]; omega,fun z hz=>?_,fun a ha hn0 hbz=>?_⟩
    ·have:=Rd.take h.now.rd e3
     rw [flat_take hgl] at this
     rw [e2]
     exact this.ch (c2.trans' r3) fun _ _ _=>id
    ·rw [e1]; exact hst.ch (h.curg z (List.mem_of_mem_take hz)) hchB bz
    ·obtain ⟨_,q2,q3⟩:=h.now
     rw [e2] at ha
     rcases q3 with ⟨_,q3⟩ | ⟨k2,o,cs,e4,e5,_⟩
     ·have h5:y.n*sz≤cur.n*sz:=Nat.mul_le_mul_right _ e3
      have h7:cur.n*sz≤cur.c*sz:=Nat.mul_le_mul_right _ q2
      omega
     ·rw [e5] at ha; cases ha
      have hk2:=hcurl k2 e4
      rcases hbz with q | q | ⟨j,x',q1,q2',q3'⟩
      ·have q':w2.heap.size=k2:=Option.some.inj (eb.symm.trans q)
       omega
      ·exact (h.b.cg k2 e4).1 q
      ·exact (h.b.cg k2 e4).2 j x' q1 q2' q3'
  ·refine .inr ⟨ys,g1.ch hch fun a ha hn0 q=>g4 a ha hn0 (.inl q),g2,fun z hz=>hst.ch (g3 z hz) hchB bz,fun a ha hn0 hbz=>?_⟩
   have hal:=g1.lt a ha hn0
   exact g4 a ha hn0 (bz _ hal hbz)
theorem Gr.keep {P:Program} {LT ty e te:TypeId} {bytes:Nat} {z:Value} (hT:P.underlying LT=some (.slice e)) (hi:InfoIs P e 1 bytes z) (hzs:z.cells.size=1) (hst:Stays Good)
 {w0 w:World} {T:List SL} {i:Nat} {cur:SL} {xs:List α} {gp:Option Addr} {gc:Nat} {gb:Option Nat} {G:List SL} {lab:Nat→Nat} (h:Gr g sz Good w0 w T i cur xs gp gc gb G lab) (hlab:lab G.length=i) (hsm:cur.n≤2^60)
 (hn:G.length+1≤2^47) (hb:(G.length+1)*bytes≤2^47) {K:Option Addr→Nat→Nat→World→Prop}
 (hk:∀ gp' gc' gb' w',Gr g sz Good w0 w' T i cur xs gp' gc' gb' (G++[cur]) lab→K gp' (G.length+1) gc' w') :
 newB w [.slice cur.p cur.n cur.c] te fun a w2=>∃ p5 n7 c5 w3,Sem.run P (Builtin.append_ #[LT,LT] ty #[.slice gp G.length gc,.slice (some a) 1 1]) w2=.ok (.slice p5 n7 c5) w3∧K p5 n7 c5 w3:=by
 have hcurl:∀ b,cur.own=some b→b<w.heap.size:=fun b hb=>h.now.blt b hb
 have hrl:∀ j y,T[j]?=some y→i+1≤j→∀ b,y.own=some b→b<w.heap.size:=fun j y hj hij b hb=>by
  obtain ⟨ys,g1,_⟩:=h.b.rest j y hj hij
  exact g1.blt b hb
 have hw0:=h.b.ch.size
 refine push_ok (g:=SL.cells) hT hi hzs SL.cells_len SL.cells_one h.b.grown cur hn hb fun p' c' b' w' o' n' hch=>?_
 have bz2:∀ b,Busy T (i+1) cur.own b' b→Busy T (i+1) cur.own gb b∨w.heap.size≤b:=fun b hbz=>by
  rcases hbz with q | q | q
  ·exact .inl (.inl q)
  ·rcases n' b q with q | q
   ·exact .inl (.inr (.inl q))
   ·exact .inr q
  ·exact .inl (.inr (.inr q))
 have bz:∀ b,b<w.heap.size→Busy T (i+1) cur.own b' b→Busy T (i+1) cur.own gb b:=fun b hlt hbz=>(bz2 b hbz).resolve_right (by omega)
 have hchB:Ch (Busy T (i+1) cur.own gb) w w':=hch.mono fun b _ q=>.inr (.inl q)
 have e:(G++[cur]).length=G.length+1:=by simp
 rw [e] at o' ⊢
 refine hk p' c' b' w' ⟨⟨fun j y hj hij=>?_,by rw [e]; exact o',fun b hbb=>⟨fun q=>?_,(h.b.cg b hbb).2⟩,fun b hbb j y hj hij=>?_,h.b.rr,fun b hbz=>?_,fun b hbb=>?_,fun k y hk'=>?_,fun k y hk'=>?_,h.b.ch.trans hch fun b hlt q=>?_⟩,h.now.ch hch fun b hb q=>(h.b.cg b hb).1 q,h.len,fun y hy=>hst.ch (h.curg y hy) hchB bz,fun k y hk'=>?_,fun k y hki hk'=>?_⟩
 ·obtain ⟨ys,g1,g2,g3⟩:=h.b.rest j y hj hij
  exact ⟨ys,g1.ch hch fun b hb q=>h.b.gr b q j y hj hij hb,g2,fun z hz=>hst.ch (g3 z hz) hchB bz⟩
 ·rcases n' b q with q | q
  ·exact (h.b.cg b hbb).1 q
  ·have:=hcurl b hbb; omega
 ·rcases n' b hbb with q | q
  ·exact h.b.gr b q j y hj hij
  ·intro e; have:=hrl j y hj hij b e; omega
 ·rcases bz2 b hbz with q | q
  ·exact h.b.loc b q
  ·exact .inr (by omega)
 ·rcases n' b hbb with q | q
  ·exact h.b.gnew b q
  ·omega
 ·by_cases hkl:k<G.length
  ·rw [List.getElem?_append_left hkl] at hk'
   exact h.b.place k y hk'
  ·have hkl2:=(List.getElem?_eq_some_iff.1 hk').1
   have hk3:k=G.length:=by simp at hkl2; omega
   subst hk3
   rw [List.getElem?_append_right (Nat.le_refl _),Nat.sub_self] at hk'
   have:y=cur:=(Option.some.inj hk').symm
   subst this
   intro a ha hn0
   obtain ⟨_,q2,q3⟩:=h.now
   rcases q3 with ⟨_,q3⟩ | ⟨k2,o,cs,e4,e5,_⟩
   ·have h5:y.n*sz≤y.c*sz:=Nat.mul_le_mul_right _ q2
    omega
   ·rw [e5] at ha; cases ha
    exact h.b.loc k2 (.inl e4)
 ·by_cases hkl:k<G.length
  ·rw [List.getElem?_append_left hkl] at hk'
   exact h.b.small k y hk'
  ·have hkl2:=(List.getElem?_eq_some_iff.1 hk').1
   have hk3:k=G.length:=by simp at hkl2; omega
   subst hk3
   rw [List.getElem?_append_right (Nat.le_refl _),Nat.sub_self] at hk'
   have:y=cur:=(Option.some.inj hk').symm
   subst this
   exact hsm
 ·have:=h.b.gnew b q; omega
 ·by_cases hkl:k<G.length
  ·rw [List.getElem?_append_left hkl] at hk'
   rcases h.read k y hk' with q | ⟨ys,g1,g2,g3,g4⟩
   ·exact .inl q
   ·refine .inr ⟨ys,g1.ch hch fun a ha hn0 q=>g4 a ha hn0 (.inr (.inl q)),g2,fun z hz=>hst.ch (g3 z hz) hchB bz,fun a ha hn0 hbz=>?_⟩
    have hal:=g1.lt a ha hn0
    exact g4 a ha hn0 (bz _ hal hbz)
  ·have hkl2:=(List.getElem?_eq_some_iff.1 hk').1
   have hk3:k=G.length:=by simp at hkl2; omega
   subst hk3
   rw [List.getElem?_append_right (Nat.le_refl _),Nat.sub_self] at hk'
   have:y=cur:=(Option.some.inj hk').symm
   subst this
   exact .inl ⟨hlab,rfl,Nat.le_refl _⟩
 ·rcases h.own k y hki hk' with q | ⟨ys,g1,g2,g3,g4⟩
  ·exact .inl q
  ·refine .inr ⟨ys,g1.ch hch fun a ha hn0 q=>g4 a ha hn0 (.inr (.inl q)),g2,fun z hz=>hst.ch (g3 z hz) hchB bz,fun a ha hn0 hbz=>?_⟩
   have hal:=g1.lt a ha hn0
   exact g4 a ha hn0 (bz _ hal hbz)
theorem Gr.ch (hst:Stays Good) {w0 w w':World} {T:List SL} {i:Nat} {cur:SL} {xs:List α} {gp:Option Addr} {gc:Nat} {gb:Option Nat} {G:List SL} {lab:Nat→Nat} (h:Gr g sz Good w0 w T i cur xs gp gc gb G lab) (c:Ch (fun _=>False) w w'):Gr g sz Good w0 w' T i cur xs gp gc gb G lab:=by
 have cB:Ch (Busy T (i+1) cur.own gb) w w':=c.mono fun _ _ q=>q.elim
 refine ⟨⟨fun j y hj hij=>?_,h.b.grown.ch c fun _ _=>id,h.b.cg,h.b.gr,h.b.rr,h.b.loc,h.b.gnew,h.b.place,h.b.small,h.b.ch.new c⟩,h.now.ch c fun _ _=>id,h.len,fun y hy=>hst.ch (h.curg y hy) cB fun _ _ q=>q,fun k y hk=>?_,fun k y hki hk=>?_⟩
 ·obtain ⟨ys,g1,g2,g3⟩:=h.b.rest j y hj hij
  exact ⟨ys,g1.ch c fun _ _=>id,g2,fun z hz=>hst.ch (g3 z hz) cB fun _ _ q=>q⟩
 ·rcases h.read k y hk with q | ⟨ys,g1,g2,g3,g4⟩
  ·exact .inl q
  ·exact .inr ⟨ys,g1.ch c fun _ _ _=>id,g2,fun z hz=>hst.ch (g3 z hz) cB fun _ _ q=>q,g4⟩
 ·rcases h.own k y hki hk with q | ⟨ys,g1,g2,g3,g4⟩
  ·exact .inl q
  ·exact .inr ⟨ys,g1.ch c fun _ _ _=>id,g2,fun z hz=>hst.ch (g3 z hz) cB fun _ _ q=>q,g4⟩
theorem Gs.ch (hst:Stays Good) {w0 w w':World} {T:List SL} {i:Nat} {gp:Option Addr} {gc:Nat} {gb:Option Nat} {G:List SL} {lab:Nat→Nat} (h:Gs g sz Good w0 w T i gp gc gb G lab) (c:Ch (fun _=>False) w w'):Gs g sz Good w0 w' T i gp gc gb G lab:=by
 have cB:Ch (Busy T i none gb) w w':=c.mono fun _ _ q=>q.elim
 refine ⟨⟨fun j y hj hij=>?_,h.b.grown.ch c fun _ _=>id,h.b.cg,h.b.gr,h.b.rr,h.b.loc,h.b.gnew,h.b.place,h.b.small,h.b.ch.new c⟩,fun k y hk=>?_,fun k y hki hk=>?_⟩
 ·obtain ⟨ys,g1,g2,g3⟩:=h.b.rest j y hj hij
  exact ⟨ys,g1.ch c fun _ _=>id,g2,fun z hz=>hst.ch (g3 z hz) cB fun _ _ q=>q⟩
 ·obtain ⟨ys,g1,g2,g3,g4⟩:=h.read k y hk
  exact ⟨ys,g1.ch c fun _ _ _=>id,g2,fun z hz=>hst.ch (g3 z hz) cB fun _ _ q=>q,g4⟩
 ·obtain ⟨ys,g1,g2,g3,g4⟩:=h.own k y hki hk
  exact ⟨ys,g1.ch c fun _ _ _=>id,g2,fun z hz=>hst.ch (g3 z hz) cB fun _ _ q=>q,g4⟩
end
def Rws {α:Type} (g:α→List Value) (sz:Nat) (w:World) (T:List SL) (C:Nat→List α):Prop:=∀ j x,T[j]?=some x→Ow w x.p x.n x.c sz ((C j).flatMap g) x.own∧(C j).length=x.n
theorem Rws.ch {α:Type} {g:α→List Value} {sz:Nat} {S:Nat→Prop} {w w':World} {T:List SL} {C:Nat→List α} (h:Rws g sz w T C) (c:Ch S w w') (hn:∀ x∈T,∀ b,x.own=some b→¬ S b):Rws g sz w' T C :=
 fun j x hx=>⟨(h j x hx).1.ch c fun b hb=>hn x (List.mem_of_getElem? hx) b hb,(h j x hx).2⟩
theorem Rws.st {α:Type} {g:α→List Value} {sz:Nat} (hg:∀ x,(g x).length=sz) {w:World} {T:List SL} {C:Nat→List α} (h:Rws g sz w T C) (hd:∀ (j k:Nat) (x y:SL) (b:Nat),j≠k→T[j]?=some x→T[k]?=some y→x.own=some b→y.own≠some b)
 {i:Nat} {x:SL} (hx:T[i]?=some x) {k:Nat} {y:α} (hy:(C i)[k]?=some y) (h0:0<sz) :
 ∃ kb o,x.p=some ⟨kb,o,none⟩∧x.own=some kb∧∀ (j q:Nat) (v:Value) (y':α) (K:World→Prop),j<sz→q=o+(k*sz+j)→g y'=(g y).set j v →
  (∀ w',Rws g sz w' T (fun m=>if m=i then (C i).set k y' else C m)→Ch (·=kb) w w'→w'.heap.size=w.heap.size→K w')→Sv.st w ⟨kb,q,none⟩ v K:=by
 obtain ⟨ho,hl⟩:=h i x hx
 have hk:k<x.n:=by have:=(List.getElem?_eq_some_iff.1 hy).1; omega
 have hmul:(k+1)*sz≤x.n*sz:=Nat.mul_le_mul_right _ hk
 rw [Nat.add_mul] at hmul
 obtain ⟨kb,o,hp,hb,_⟩:=ho.st (i:=k*sz+0) (by omega)
 refine ⟨kb,o,hp,hb,fun j q v y' K hj hq he hK=>?_⟩
 obtain ⟨kb',o',hp',_,hst⟩:=ho.st (i:=k*sz+j) (by omega)
 rw [hp] at hp'; cases hp'
 subst hq
 refine hst v K fun w' ho' hc hz=>hK w' (fun m z hz'=>?_) hc hz
 by_cases hm:m=i
 ·subst hm
  rw [hx] at hz'
  have:z=x:=(Option.some.inj hz').symm
  subst this
  simp only [if_pos]
  refine ⟨?_,by simpa using hl⟩
  rw [flat_set hg (C m) k j v hy hj he] at ho'
  exact ho'
 ·simp only [if_neg hm]
  obtain ⟨q1,q2⟩:=h m z hz'
  exact ⟨q1.ch hc fun b hb' e=>hd i m x z kb (fun e=>hm e.symm) hx hz' hb (by rw [← e]; exact hb'),q2⟩
end Go.Sv
namespace Go.Sv
open Go
set_option linter.unusedVariables false
structure El (α:Type) where
 g:α→List Value
 sz:Nat
 B:α→List Nat
 Ok:World→α→Prop
 glen:∀ x,(g x).length=sz
 gone:∀ x,∀ v∈g x,oneV v=true
 ch:∀ {S:Nat→Prop} {w w':World} {x:α},Ok w x→Ch S w w'→(∀ b∈B x,¬ S b)→Ok w' x
 lt:∀ {w:World} {x:α},Ok w x→∀ b∈B x,b<w.heap.size
 nd:∀ {w:World} {x:α},Ok w x→(B x).Nodup
section
variable {α:Type} (E:El α)
def El.rowB (own:Option Nat) (R:List α):List Nat:=own.toList++R.flatMap E.B
def El.Row (w:World) (p:Option Addr) (n c:Nat) (own:Option Nat) (R:List α):Prop :=
 R.length=n∧Ow w p n c E.sz (R.flatMap E.g) own∧(∀ x∈R,E.Ok w x)∧(E.rowB own R).Nodup
variable {E}
theorem El.mem_rowB {own:Option Nat} {R:List α} {b:Nat}:b∈E.rowB own R↔own=some b∨∃ x∈R,b∈E.B x:=by
 simp [El.rowB,Option.mem_toList]
theorem El.Row.ch {S:Nat→Prop} {w w':World} {p:Option Addr} {n c:Nat} {own:Option Nat} {R:List α} (h:E.Row w p n c own R) (hc:Ch S w w') (hn:∀ b∈E.rowB own R,¬ S b):E.Row w' p n c own R :=
 ⟨h.1,h.2.1.ch hc fun b hb=>hn b (El.mem_rowB.2 (.inl hb)),fun x hx=>E.ch (h.2.2.1 x hx) hc fun b hb=>hn b (El.mem_rowB.2 (.inr ⟨x,hx,hb⟩)),h.2.2.2⟩
theorem El.Row.lt {w:World} {p:Option Addr} {n c:Nat} {own:Option Nat} {R:List α} (h:E.Row w p n c own R):∀ b∈E.rowB own R,b<w.heap.size:=fun b hb=>by
 rcases El.mem_rowB.1 hb with hb | ⟨x,hx,hb⟩
 ·exact h.2.1.blt b hb
 ·exact E.lt (h.2.2.1 x hx) b hb
theorem El.Row.nil {w:World}:E.Row w none 0 0 none []:=⟨rfl,by simpa using Ow.nil,by simp,by simp [El.rowB]⟩
theorem El.Row.push {P:Program} {T ty e te:TypeId} {bytes:Nat} {z:Value} (hT:P.underlying T=some (.slice e)) (hi:InfoIs P e E.sz bytes z) (hzs:z.cells.size=E.sz)
 {w:World} {p:Option Addr} {n c:Nat} {own:Option Nat} {R:List α} (h:E.Row w p n c own R) {x:α} (hx:E.Ok w x) (hd:∀ b∈E.B x,b ∉ E.rowB own R) (h1:n+1≤2^47) (h2:(n+1)*bytes≤2^47)
 {K:Option Addr→Nat→Nat→World→Prop}
 (hk:∀ p' c' own' w',E.Row w' p' (n+1) c' own' (R++[x])→(∀ b∈E.rowB own' (R++[x]),b∈E.rowB own R∨b∈E.B x∨w.heap.size≤b)→Ch (fun b=>own=some b) w w'→K p' (n+1) c' w') :
 newB w (E.g x) te fun a w2=>∃ p5 n7 c5 w3,Sem.run P (Builtin.append_ #[T,T] ty #[.slice p n c,.slice (some a) 1 1]) w2=.ok (.slice p5 n7 c5) w3∧K p5 n7 c5 w3:=by
 obtain ⟨hl,ho,hr,hnd⟩:=h
 subst hl
 refine push_ok (g:=E.g) hT hi hzs E.glen E.gone ho x h1 h2 fun p' c' own' w' o' n' hch=>?_
 have e:(R++[x]).length=R.length+1:=by simp
 rw [e] at o' ⊢
 have hxl:∀ b∈E.B x,b<w.heap.size:=E.lt hx
 have hRl:∀ y∈R,∀ b∈E.B y,b<w.heap.size:=fun y hy=>E.lt (hr y hy)
 have hnd2:∀ y∈R,∀ b∈E.B y,own≠some b:=fun y hy b hb he=>by
  subst he
  have:=(List.nodup_cons.1 (show (b::R.flatMap E.B).Nodup by simpa [El.rowB] using hnd)).1
  exact this (List.mem_flatMap.2 ⟨y,hy,hb⟩)
 refine hk p' c' own' w' ⟨e,o',fun y hy=>?_,?_⟩ (fun b hb=>?_) hch
 ·rcases List.mem_append.1 hy with hy | hy
  ·exact E.ch (hr y hy) hch fun b hb he=>hnd2 y hy b hb he
  ·rw [List.mem_singleton.1 hy]
   exact E.ch hx hch fun b hb he=>hd b hb (El.mem_rowB.2 (.inl he))
 ·have base:((R++[x]).flatMap E.B).Nodup:=by
   rw [List.flatMap_append,List.flatMap_singleton]
   refine List.nodup_append.2 ⟨?_,E.nd hx,fun a ha b hb he=>?_⟩
   ·have:(own.toList++R.flatMap E.B).Nodup:=hnd
    exact (List.nodup_append.1 this).2.1
   ·subst he
    obtain ⟨y,hy,hy2⟩:=List.mem_flatMap.1 ha
    exact hd a hb (El.mem_rowB.2 (.inr ⟨y,hy,hy2⟩))
  unfold El.rowB
  cases own' with
  | none=>simpa using base
  | some k =>
   refine List.nodup_cons.2 ⟨fun hm=>?_,base⟩
   obtain ⟨y,hy,hy2⟩:=List.mem_flatMap.1 hm
   rcases n' k rfl with q | q
   ·rcases List.mem_append.1 hy with hy | hy
    ·exact hnd2 y hy k hy2 q
    ·rw [List.mem_singleton.1 hy] at hy2
     exact hd k hy2 (El.mem_rowB.2 (.inl q))
   ·rcases List.mem_append.1 hy with hy | hy
    ·have:=hRl y hy k hy2; omega
    ·rw [List.mem_singleton.1 hy] at hy2
     have:=hxl k hy2; omega
 ·rcases El.mem_rowB.1 hb with hb | ⟨y,hy,hb⟩
  ·rcases n' b hb with q | q
   ·exact .inl (El.mem_rowB.2 (.inl q))
   ·exact .inr (.inr q)
  ·rcases List.mem_append.1 hy with hy | hy
   ·exact .inl (El.mem_rowB.2 (.inr ⟨y,hy,hb⟩))
   ·rw [List.mem_singleton.1 hy] at hb
    exact .inr (.inl hb)
end
structure Rc where
 s:SL
 l:List UInt8
structure Bt where
 s:SL
 r:List Rc
def Bt.says (x:Bt):List (List UInt8):=x.r.map (·.l)
end Go.Sv
namespace Go.Sv
open Go Go.Sort Go.RowKit Go.Shelf Go.Proofs
set_option linter.unusedVariables false
structure Qt (w w':World):Prop where
 ch:Ch (fun _=>False) w w'
 dr:w.drawn≤w'.drawn
theorem Qt.refl (w:World):Qt w w:=⟨Ch.refl _ _,Nat.le_refl _⟩
theorem Qt.trans {a b c:World} (h:Qt a b) (k:Qt b c):Qt a c:=⟨h.ch.trans' k.ch,Nat.le_trans h.dr k.dr⟩
theorem Qt.drew (w:World):Qt w w.drew:=⟨Ch.drew w,Nat.le_succ _⟩
theorem newB_qt {w:World} {cs:List Value} {t:TypeId} {K:Addr→World→Prop}
 (hk:∀ w',blk w' w.heap.size=some cs→Qt w w'→w'.heap.size=w.heap.size+1→K ⟨w.heap.size,0,none⟩ w'):newB w cs t K :=
 hk _ (alloc_blk w cs t) ⟨alloc_ch w _,Nat.le_refl _⟩ (by simp)
theorem Qt.grow {w w':World} (h:Qt w w'):∃ q os,w'=Go.Sort.grow (w.drewN q) os:=by
 refine ⟨w'.drawn-w.drawn,w'.heap.extract w.heap.size w'.heap.size,?_⟩
 obtain ⟨⟨h1,h2,h3,h4,h5⟩,h6⟩:=h
 have hh:w'.heap=w.heap++w'.heap.extract w.heap.size w'.heap.size:=by
  apply Array.ext_getElem?
  intro i
  by_cases hi:i<w.heap.size
  ·rw [Array.getElem?_append_left hi,h5 i hi id]
  ·by_cases hi2:i<w'.heap.size
   ·rw [Array.getElem?_append_right (by omega),Array.getElem?_extract,if_pos (by omega)]
    congr 1; omega
   ·rw [Array.getElem?_eq_none (by omega),Array.getElem?_eq_none (by simp; omega)]
 have hd:w'.drawn=w.drawn+(w'.drawn-w.drawn):=by omega
 cases w
 cases w'
 simp only [Go.Sort.grow,World.drewN] at *
 subst h1 h2 h3
 rw [← hh,← hd]
section
variable {α:Type} [Inhabited α]
theorem flatK_list {enc:α→List Value} {k:Nat} (hk:∀ x,(enc x).length=k) (d:Array α):(flatK enc k d).toList=d.toList.flatMap enc:=by
 apply List.ext_getElem?
 intro t
 by_cases ht:t<d.size*k
 ·have k0:0<k:=by rcases Nat.eq_zero_or_pos k with h | h; subst h; simp at ht; exact h
  have hq:t / k<d.size:=(Nat.div_lt_iff_lt_mul k0).2 ht
  have hm:=Nat.mod_lt t k0
  have hdm:t / k*k+t%k=t:=by rw [Nat.mul_comm]; exact Nat.div_add_mod t k
  have h1:=flat_get hk d.toList (t / k) (t%k) hm
  rw [hdm] at h1
  rw [h1]
  have h2:(flatK enc k d).toList[t]?=some ((flatK enc k d)[t]!):=by
   rw [Array.getElem?_toList,Array.getElem?_eq_getElem (by simpa using ht),getElem!_pos _ t (by simpa using ht)]
  rw [h2,get_flatK enc k d t ht,getElem!_pos d _ hq,getElem!_pos (enc d[t / k]) _ (by rw [hk]; exact hm)]
  rw [Array.getElem?_toList,Array.getElem?_eq_getElem hq,Option.bind_some,List.getElem?_eq_getElem (by rw [hk]; exact hm)]
 ·rw [List.getElem?_eq_none (by simpa using ht),List.getElem?_eq_none (by rw [flat_len hk]; simpa using ht)]
theorem putRow_blk' {w:World} {b off:Nat} {d:Array Value} {cs:List Value} (h:blk w b=some cs) (hl:off+d.size≤cs.length) :
 ∃ cs',blk (putRow id w b off d) b=some cs'∧cs'.length=cs.length∧(cs'.drop off).take d.size=d.toList∧Ch (·=b) w (putRow id w b off d):=by
 unfold blk at h
 split at h
 ·rename_i c e fz heq
  split at h
  case isFalse=>cases h
  rename_i hfz
  have hc:c.toList=cs:=by simpa using h
  subst hc
  have hsz:(putCells id off d c).size=c.size:=by simp [putCells]
  refine ⟨(putCells id off d c).toList,?_,by simp [putCells],?_,⟨rfl,rfl,rfl,by simp [putRow,mapBlock],fun x hx hne=>?_⟩⟩
  ·unfold blk
   have:(putRow id w b off d).heap[b]?=some (.cells (putCells id off d c) e fz):=by
    simp only [putRow,mapBlock,Array.getElem?_modify,if_true,heq,Option.map_some,onCells]
   rw [this]
   simp only [hsz,if_pos hfz]
  ·apply List.ext_getElem?
   intro k
   rw [List.getElem?_take]
   simp only [List.getElem?_drop,Array.getElem?_toList,putCells,Array.getElem?_mapIdx]
   by_cases hk:k<d.size
   ·have h1:off+k<c.size:=by simp at hl; omega
    rw [if_pos hk,Array.getElem?_eq_getElem h1,Option.map_some,if_pos ⟨by omega,by omega⟩,show off+k-off=k by omega,getElem!_pos d k hk,Array.getElem?_eq_getElem hk]; rfl
   ·rw [if_neg hk,Array.getElem?_eq_none (by omega)]
  ·simp only [putRow,mapBlock,Array.getElem?_modify]
   rw [if_neg (fun e=>hne e.symm)]
 ·cases h
theorem sort_grow_ch {w:World} (os:Array Obj):Ch (fun _=>False) w (Go.Sort.grow w os) :=
 ⟨rfl,rfl,rfl,by simp [Go.Sort.grow],fun b hb _=>by simp only [Go.Sort.grow]; rw [Array.getElem?_append_left hb]⟩
end
end Go.Sv
namespace Go.Sv
open Go Go.Sort Go.RowKit Go.Shelf Go.Proofs
set_option linter.unusedVariables false
section
variable {α:Type} [Inhabited α]
theorem sortW_ok {P:Program} {ρ:Ren} (Ly:SlLaysF0.n6 P ρ) {k:Nat} (aE:∀ w,(isAgg (ρ.t 24)).run P w=.ok true w) (zE:∀ w,(Go.sizeOf (ρ.t 24)).run P w=.ok k w) {enc:α→List Value} (henc:∀ x,(enc x).length=k) (h1:∀ x,∀ v∈enc x,oneV v=true)
 {cf:α→α→Int} (hO:SWO (ltOf cf)) {g:Nat} (eg:∀ args w,(callFunc g args).run P w=.ok (.enter g args) w)
 {w:World} {p:Option Addr} {c:Nat} {b:Option Nat} {L:List α}
 (hcmp:∀ (x y:α) (W:World),Ch (fun j=>b=some j) w W→Calls P g #[.agg (enc x).toArray,.agg (enc y).toArray] W fun e w'=>e=.returned (.int .i64 (cf x y))∧Qt W w')
 (ho:Ow w p L.length c k (L.flatMap enc) b) (hk0:0<k) (hL:L.length≤2^40) {K:Value→World→Prop}
 (hK:∀ (w':World) (L':List α),L'.Perm L→(L'.Pairwise fun x y=>ltOf cf y x=false)→Ow w' p L.length c k (L'.flatMap enc) b→Ch (fun j=>b=some j) w w'→K (.tuple #[]) w'):callP P (ρ.f 6) [.slice p L.length c,.func (.func g) #[] #[]] w K:=by
 by_cases h0:L.length=0
 ·have:L=[]:=List.eq_nil_of_length_eq_zero h0
  subst this
  exact Calls.mono (AnyF.slices_SortFunc_none Ly p c (.func (.func g) #[] #[]) w) fun e w' ⟨he,hw⟩=>⟨_,he,hw▸hK _ [] (.refl _) .nil ho (Ch.refl _ _)⟩
 obtain ⟨g1,g2,g3⟩:=ho
 rcases g3 with ⟨_,g3⟩ | ⟨kb,o,cs,rfl,rfl,hbk,hl,ht⟩
 ·have:L.length*k≤c*k:=Nat.mul_le_mul_right _ g2
  have:0<L.length*k:=Nat.mul_pos (by omega) hk0
  omega
 have hmul:L.length*k≤c*k:=Nat.mul_le_mul_right _ g2
 have hH:HoldsK enc k w kb o L.toArray:=fun j hj=>by
  have hj':j<L.length*k:=by simpa using hj
  refine ⟨?_,frozen_blk hbk (by omega)⟩
  obtain ⟨v,hv⟩:∃ v,(L.flatMap enc)[j]?=some v:=⟨_,List.getElem?_eq_getElem (by rw [flat_len henc]; exact hj')⟩
  have e1:(flatK enc k L.toArray)[j]! = v:=by
   have h2:=flatK_list henc L.toArray
   have h3:(flatK enc k L.toArray).toList[j]?=some v:=by rw [h2]; exact hv
   rw [Array.getElem?_toList,Array.getElem?_eq_getElem hj] at h3
   rw [getElem!_pos _ j hj]
   exact Option.some.inj h3
  rw [← ht,List.getElem?_take,if_pos (by omega),List.getElem?_drop] at hv
  rw [cell_blk hbk,hv,e1]; rfl
 have hworld:∀ (m:Nat) (os:Array Obj) (dk:Array α),dk.size=L.length→∃ cs',blk (sortWorldK enc k w kb o m dk os) kb=some cs'∧cs'.length=cs.length∧(cs'.drop o).take (L.length*k)=dk.toList.flatMap enc∧Ch (fun j=>some kb=some j) w (sortWorldK enc k w kb o m dk os):=by
  intro m os dk hs
  have hb2:blk (Go.Sort.ahead w m) kb=some cs:=hbk
  obtain ⟨cs',q1,q2,q3,q4⟩:=putRow_blk' (off:=o) (d:=flatK enc k dk) hb2 (by rw [size_flatK,hs]; omega)
  have q5:=sort_grow_ch (w:=putRowK enc k (Go.Sort.ahead w m) kb o dk) os
  refine ⟨cs',by rw [show sortWorldK enc k w kb o m dk os=Go.Sort.grow (putRowK enc k (Go.Sort.ahead w m) kb o dk) os by rfl,q5.blk (blk_lt q1) id]; exact q1,q2,?_,((⟨rfl,rfl,rfl,Nat.le_refl _,fun _ _ _=>rfl⟩:Ch (fun j=>some kb=some j) w (Go.Sort.ahead w m)).trans' ((q4.mono fun x _ h=>by rw [h]).trans' (q5.mono fun _ _ h=>h.elim)))⟩
  rw [size_flatK,hs,flatK_list henc] at q3
  exact q3
 have gg:=AnyQ.slices_SortFunc Ly k aE zE enc henc (fun x v hv=>by rw [oneCell_of]; exact h1 x v hv) cf hO g #[] kb o c L.toArray w eg (fun m os dk hs x y=>by
  obtain ⟨_,_,_,_,hc⟩:=hworld m os dk (by simpa using hs)
  exact (hcmp x y _ hc).mono fun e w' ⟨he,hq⟩=>⟨he,hq.grow⟩) hH (blk_lt hbk) (by simp; omega)
 refine Calls.mono gg fun e w' ⟨he,d',n,os,hp,hs,hw⟩=>⟨_,he,?_⟩
 obtain ⟨hp1,_,hp3⟩:=hp
 have hds:d'.size=L.length:=by simpa using hp1
 obtain ⟨cs',q1,q2,q3,q4⟩:=hworld n os d' hds
 rw [← hw] at q1 q4
 have hperm:d'.toList.Perm L:=by
  have e1:d'.extract 0 L.toArray.size=d':=by
   rw [show L.toArray.size=d'.size by rw [hp1]]; simp
  rw [e1] at hp3
  simpa using hp3
 refine hK w' d'.toList hperm ?_ ⟨by rw [flat_len henc,Array.length_toList,hds],g2,.inr ⟨kb,o,cs',rfl,rfl,q1,by omega,q3⟩⟩ q4
 rw [List.pairwise_iff_getElem]
 intro i j hi hj hij
 have:=hs i j (Nat.zero_le _) hij (by simpa [hds] using hj)
 rw [getElem!_pos d' j (by simpa using hj),getElem!_pos d' i (by simpa using hi)] at this
 simpa using this
end
end Go.Sv
namespace Go.Sv
open Go
set_option linter.unusedVariables false
theorem putObj_ch (w:World) (l:Nat) (o:Obj):Ch (·=l) w (w.putObj l o) :=
 ⟨rfl,rfl,rfl,by simp [World.putObj],fun b hb hn=>by
  simp only [World.putObj]
  rw [Array.getElem?_setIfInBounds_ne (fun e=>hn e.symm)]⟩
theorem putObj_at {w:World} {l:Nat} (h:l<w.heap.size) (o:Obj):objAt (w.putObj l o) l=some o:=by
 unfold objAt
 simp [World.putObj,h]
@[simp] theorem putObj_size (w:World) (l:Nat) (o:Obj):(w.putObj l o).heap.size=w.heap.size:=by simp [World.putObj]
theorem objAt_ch {S:Nat→Prop} {w w':World} {l:Nat} {o:Obj} (h:objAt w l=some o) (c:Ch S w w') (hn:¬ S l):objAt w' l=some o:=by
 unfold objAt at h ⊢
 rw [c.keep l (lt_of_heap h) hn]; exact h
theorem objAt_lt {w:World} {l:Nat} {o:Obj} (h:objAt w l=some o):l<w.heap.size:=lt_of_heap h
theorem alloc_obj (w:World) (o:Obj):objAt (w.alloc o) w.heap.size=some o:=heap_alloc_new w o
theorem recAt.put {w:World} {l:Nat} {rc:LoopR} {s s':LoopState} {j j':Option Code} (h:recAt w l rc s j):recAt (w.putObj l (rc s' j')) l rc s' j':=putObj_at (objAt_lt h) _
theorem recAt.ch {S:Nat→Prop} {w w':World} {l:Nat} {rc:LoopR} {s:LoopState} {j:Option Code} (h:recAt w l rc s j) (c:Ch S w w') (hn:¬ S l):recAt w' l rc s j:=objAt_ch h c hn
theorem takeM_of {w:World} {r:Nat} {K:World→Prop} (h:objAt w r=some (.deferred (some []))) (hk:∀ w',Ch (·=r) w w'→w'.heap.size=w.heap.size→K w'):takeM w r K:=⟨h,hk _ (putObj_ch w r _) (by simp)⟩
end Go.Sv
namespace Go.Sv
open Go
end Go.Sv
namespace Go.Sv
open Go Go.Sort Go.RowKit
set_option linter.unusedVariables false
end Go.Sv
namespace Go.Sv
open Go
def tn:Nat→Ann→Ann
 | 0,a=>a
 | n+1,a=>.two .leaf (tn n a)
abbrev L0:=Ann.leaf
abbrev T2:=Ann.two
theorem mkP {P:Program} {f:FuncId} {fn:Func} {args:List Value} {w:World} {K:Value→World→Prop} {X:Prop} (hf:P.funcs[f]?=some fn) (a:Ann) (e:wpF P none fn a args w K=X) (h:X):callP P f args w K:=calls_of (ann:=a) hf (e.symm▸h)
theorem mkX {P:Program} {f:FuncId} {fn:Func} {args:List Value} {w:World} {K:Value→World→Prop} {KP:List PanicEntry→World→Prop} {X:Prop} (hf:P.funcs[f]?=some fn) (a:Ann) (e:wpF P (some KP) fn a args w K=X) (h:X):callX P f args w K KP:=callsX_of (ann:=a) hf (e.symm▸h)
abbrev ii (n:Int):Value:=.int .i64 n
abbrev ci (w:World) (a:Addr) (n:Int):Prop:=w.cell? a=some (.int .i64 n)
abbrev cs (w:World) (a:Addr) (p:Option Addr) (n c:Nat):Prop:=w.cell? a=some (.slice p n c)
abbrev ct (w:World) (a:Addr) (s:ByteArray):Prop:=w.cell? a=some (.string s)
abbrev cu (w:World) (a:Addr) (n:Int):Prop:=w.cell? a=some (.int .u64 n)
abbrev cb (w:World) (a:Addr) (n:Int):Prop:=w.cell? a=some (.int .u8 n)
end Go.Sv
namespace Go.Proofs.YtnmlmicmhpkbeaaGreatDoor
open Go Go.Sv
abbrev cP:=callP Tryz.prog
abbrev cX:=callX Tryz.prog
end Go.Proofs.YtnmlmicmhpkbeaaGreatDoor
