/-
  Short words for printed texts: runs of a reading plan; a function's text and its soundness in one law. Memory, block by block: what a block holds, what a change leaves alone; loads, stores, new blocks, append, copy in these words. Over every program. Maps in memory: what a map block holds, as a list of pairs; making, looking up, laying in, taking away, ranging. Over every program. Small laws over every program: wrapping that changes nothing, facts of a type, append in these words, a mutex, a call met by a contract. Rows of structs in memory, read by index; small steps over local boxes. Over every program. Lists that are their owner's: each is grown, element by element, and kept; at the end each reads as its owner wrote it. Over every program. Lists in memory of their own, of elements that hold blocks of their own: how they lie, that they are grown. Lists of bytes, lists of these, lists of these. Over every program. The words of a note in plain Lean: characters of UTF-8, words in quotes. No program in sight. The tokens of a note in plain Lean. No program in sight. Values of the wire in plain Lean: what they are, when two are the same, when one may be. No program in sight. Reading a note in plain Lean: what its tokens say. No program in sight. Writing a note in plain Lean; its tokens; a reading of a row of tokens. No program in sight.
-/
import Derived.Test.YtlfhjkgdlclddaaGreatDoorPx1
import Derived.Test.YtlfhjkgdlclddaaGreatDoorProg
import Derived.KernelRfl
import Derived.Laws.Cells
import Derived.Below
import Derived.Deep.AppendSrc
import Derived.Laws.IdiomStrings
import Derived.Laws.IdiomCopy
import Derived.MapKept
import Derived.Maps.RangeRun
import Derived.Conc.MuLone
import Derived.Lib.RuneBytes
import GoSem.Core.Utf8
import Derived.Lib.ItoaNum
set_option linter.unusedVariables false
set_option linter.unusedSimpArgs false
namespace Go.Sv
open Go
def tn:Nat->Ann->Ann
 | 0,a=>a
 | n+1,a=>.two .leaf (tn n a)
abbrev L0:=Ann.leaf
abbrev T2:=Ann.two
theorem fQ{P:Program}{f:FuncId}{fn:Func}{args:List Value}{w:World}{K:Value->World->Prop}{X:Prop}(hf:P.funcs[f]?=some fn)(a:Ann)(e:wpF P none fn a args w K=X)(h:X):bK P f args w K:=aTp (ann:=a) hf (e.symm▸h)
theorem mkX{P:Program}{f:FuncId}{fn:Func}{args:List Value}{w:World}{K:Value->World->Prop}{KP:List PanicEntry->World->Prop}{X:Prop}(hf:P.funcs[f]?=some fn)(a:Ann)(e:wpF P (some KP) fn a args w K=X)(h:X):dL P f args w K KP:=aQd (ann:=a) hf (e.symm▸h)
abbrev ii(n:Int):Value:=.int .i64 n
abbrev ci(w:World)(a:Addr)(n:Int):Prop:=w.cell? a=some (.int .i64 n)
abbrev cs(w:World)(a:Addr)(p:Option Addr)(n c:Nat):Prop:=w.cell? a=some (.slice p n c)
abbrev ct(w:World)(a:Addr)(s:ByteArray):Prop:=w.cell? a=some (.string s)
abbrev cu(w:World)(a:Addr)(n:Int):Prop:=w.cell? a=some (.int .u64 n)
abbrev cb(w:World)(a:Addr)(n:Int):Prop:=w.cell? a=some (.int .u8 n)
end Go.Sv
namespace Go.Proofs.YtlfhjkgdlclddaaGreatDoor
open Go Go.Sv
abbrev cP:=bK Tryz.prog
abbrev cX:=dL Tryz.prog
end Go.Proofs.YtlfhjkgdlclddaaGreatDoor
namespace Go.Sv
open Go
def fI(w:World)(b:Nat):Option (List Value) :=
 match w.heap[b]? with
 | some (.cells c _ _)=>some c.toList
 | _=>none
def blk(w:World)(b:Nat):Option (List Value) :=
 match w.heap[b]? with
 | some (.cells c _ fz)=>if fz.2<=fz.1\/c.size<=fz.1 then some c.toList else none
 | _=>none
def aKd(w:World)(r:Nat):Option (List MapEntry × Nat) :=
 match w.heap[r]? with
 | some (.map es clock)=>some (es.toList,clock)
 | _=>none
structure Ch(S:Nat->Prop)(w w':World):Prop where
 os:w'.os=w.os
 tape:w'.tape=w.tape
 output:w'.output=w.output
 size:w.heap.size<=w'.heap.size
 keep:∀b,b<w.heap.size->¬S b->w'.heap[b]?=w.heap[b]?
theorem Ch.refl(S:Nat->Prop)(w:World):Ch S w w:=⟨rfl,rfl,rfl,aQ _,λ_ _ _=>rfl⟩
theorem Ch.mono{S S':Nat->Prop}{w w':World}(h:Ch S w w')(hs:∀b,b<w.heap.size->S b->S' b):Ch S' w w' :=
 ⟨h.os,h.tape,h.output,h.size,λb hb hn=>h.keep b hb λhS=>hn (hs b hb hS)⟩
theorem Ch.trans{S S':Nat->Prop}{a b c:World}(h:Ch S a b)(k:Ch S' b c)(hs:∀x,x<a.heap.size->S' x->S x):Ch S a c :=
 ⟨k.os.trans h.os,k.tape.trans h.tape,k.output.trans h.output,Nat.le_trans h.size k.size,
  λx hx hn=>(k.keep x (Nat.lt_of_lt_of_le hx h.size) λhS=>hn (hs x hx hS)).trans (h.keep x hx hn)⟩
theorem Ch.trans'{S:Nat->Prop}{a b c:World}(h:Ch S a b)(k:Ch S b c):Ch S a c:=h.trans k λ_ _ hx=>hx
theorem Ch.below{S:Nat->Prop}{w w':World}{B:Nat}(h:Ch S w w')(hB:B<=w.heap.size)(hs:∀b,S b->B<=b):RowKit.Below B w w' :=
 ⟨h.os,h.tape,h.output,h.size,λb hb=>h.keep b (by omega) λhS=>by have:=hs b hS;omega⟩
theorem Ch.drew{S:Nat->Prop}(w:World):Ch S w w.drew:=⟨rfl,rfl,rfl,aQ _,λ_ _ _=>rfl⟩
@[simp] theorem blk_drew (w:World) (b:Nat):blk w.drew b=blk w b:=rfl
@[simp] theorem cellsAt_drew (w:World) (b:Nat):fI w.drew b=fI w b:=rfl
@[simp] theorem mapAt_drew (w:World) (b:Nat):aKd w.drew b=aKd w b:=rfl
@[simp] theorem heap_drew' (w:World):w.drew.heap=w.heap:=rfl
theorem Ch.blk{S:Nat->Prop}{w w':World}(h:Ch S w w'){b:Nat}(hb:b<w.heap.size)(hn:¬S b):blk w' b=Sv.blk w b:=by
 unfold Sv.blk;rw[h.keep b hb hn]
theorem Ch.cells{S:Nat->Prop}{w w':World}(h:Ch S w w'){b:Nat}(hb:b<w.heap.size)(hn:¬S b):fI w' b=fI w b:=by
 unfold fI;rw[h.keep b hb hn]
theorem Ch.map{S:Nat->Prop}{w w':World}(h:Ch S w w'){b:Nat}(hb:b<w.heap.size)(hn:¬S b):aKd w' b=aKd w b:=by
 unfold aKd;rw[h.keep b hb hn]
theorem gL{w:World}{b:Nat}{o:Obj}(h:w.heap[b]?=some o):b<w.heap.size:=(Array.getElem?_eq_some_iff.1 h).1
theorem aH{w:World}{b:Nat}{cs:List Value}(h:blk w b=some cs):b<w.heap.size:=by
 unfold blk at h;split at h
 ·exact gL (by assumption)
 ·cases h
theorem aEt{w:World}{b:Nat}{cs:List Value}(h:fI w b=some cs):b<w.heap.size:=by
 unfold fI at h;split at h
 ·exact gL (by assumption)
 ·cases h
theorem gX{w:World}{b:Nat}{cs:List Value}(h:blk w b=some cs):fI w b=some cs:=by
 unfold blk at h;unfold fI;cases hh:w.heap[b]? with
 | none=>simp[hh]at h
 | some o =>
  cases o<;>simp[hh]at h ⊢;exact h.2
theorem rQ{w:World}{b:Nat}{cs:List Value}(h:fI w b=some cs)(i:Nat):w.cell? ⟨b,i,none⟩=cs[i]?:=by
 unfold fI at h;split at h
 ·rename_i c t fz hh;cases h;simp[World.cell?,hh]
 ·cases h
theorem eA{w:World}{b:Nat}{cs:List Value}(h:blk w b=some cs)(i:Nat):w.cell? ⟨b,i,none⟩=cs[i]?:=rQ (gX h) i
@[simp] theorem add_at (b o n:Nat):Addr.add ⟨b,o,none⟩ n=⟨b,o+n,none⟩:=by
 unfold Addr.add;split<;>simp_all
theorem jW{w:World}{b:Nat}{cs:List Value}(h:blk w b=some cs){i:Nat}(hi:i<cs.length):w.frozen? ⟨b,i,none⟩=false:=by
 unfold blk at h;split at h
 ·rename_i c t fz hh;split at h
  ·rename_i hc;cases h;obtain⟨lo,hi'⟩:=fz;have hi2:i<c.size:=by simpa using hi
   simp only[World.frozen?,hh];simp at hc ⊢;omega
  ·cases h
 ·cases h
theorem sN{w:World}{b:Nat}{cs:List Value}(h:blk w b=some cs)(i:Nat)(v:Value):blk (w.setCell ⟨b,i,none⟩ v) b=some (cs.set i v):=by
 unfold blk at h ⊢;split at h
 ·rename_i c t fz hh;split at h
  ·rename_i hc;cases h;simp only[World.setCell,Array.getElem?_modify,if_true,hh,Option.map_some];obtain⟨l⟩:=c;simp only[List.size_toArray]at hc;simp[hc]
  ·cases h
 ·cases h
theorem qN(w:World)(b i:Nat)(v:Value):Ch (·=b) w (w.setCell ⟨b,i,none⟩ v) :=
 ⟨rfl,rfl,rfl,by simp,λk _ hn=>by simp only[World.setCell,Array.getElem?_modify];rw[aD (λe=>hn e.symm)]⟩
theorem eK{w:World}{b o:Nat}{v:Value}{K:World->Prop}{cs:List Value}(h:blk w b=some cs)(ho:o<cs.length)
 (hk:∀w',blk w' b=some (cs.set o v)->Ch (·=b) w w'->w'.heap.size=w.heap.size->K w'):st w ⟨b,o,none⟩ v K:=by
 refine⟨?_,jW h ho,hk _ (sN h o v) (qN w b o v) (by simp)⟩;rw[eA h];simp[ho]
theorem nF(w:World)(cs:List Value)(t:TypeId):blk (w.alloc (.cells cs.toArray t)) w.heap.size=some cs:=by
 unfold blk;rw[heap_alloc_new w (.cells cs.toArray t)];simp
theorem eV(w:World)(o:Obj):Ch (λ_=>False) w (w.alloc o) :=
 ⟨rfl,rfl,rfl,by simp,λb hb _=>RowKit.Below.heap_alloc w o b hb⟩
theorem bD{w:World}{cs:List Value}{t:TypeId}{K:Addr->World->Prop}
 (hk:∀w',blk w' w.heap.size=some cs->Ch (λ_=>False) w w'->w'.heap.size=w.heap.size+1->K ⟨w.heap.size,0,none⟩ w'):bP w cs t K :=
 hk _ (nF w cs t) (eV w _) (by simp)
def Rd(w:World)(p:Option Addr)(n sz:Nat)(xs:List Value):Prop :=
 xs.length=n*sz/\(n*sz=0\/∃b o cs,p=some ⟨b,o,none⟩/\fI w b=some cs/\o+n*sz<=cs.length/\(cs.drop o).take (n*sz)=xs)
def Ow(w:World)(p:Option Addr)(n c sz:Nat)(xs:List Value)(b:Option Nat):Prop :=
 xs.length=n*sz/\n<=c/\((b=none/\c*sz=0)\/∃k o cs,b=some k/\p=some ⟨k,o,none⟩/\blk w k=some cs/\o+c*sz<=cs.length/\(cs.drop o).take (n*sz)=xs)
theorem Ow.rd{w:World}{p:Option Addr}{n c sz:Nat}{xs:List Value}{b:Option Nat}(h:Ow w p n c sz xs b):Rd w p n sz xs:=by
 obtain⟨h1,h2,h3⟩:=h;refine⟨h1,?_⟩;rcases h3 with⟨_,h3⟩|⟨k,o,cs,_,hp,hb,hl,ht⟩
 ·left;have:n*sz<=c*sz:=bR _ h2;omega
 ·right;have:n*sz<=c*sz:=bR _ h2;exact⟨k,o,cs,hp,gX hb,by omega,ht⟩
theorem Rd.ch{S:Nat->Prop}{w w':World}{p:Option Addr}{n sz:Nat}{xs:List Value}(h:Rd w p n sz xs)(hc:Ch S w w')(hn:∀a,p=some a->n*sz≠0->¬S a.block):Rd w' p n sz xs:=by
 obtain⟨h1,h2⟩:=h;refine⟨h1,?_⟩;rcases h2 with h2|⟨b,o,cs,hp,hb,hl,ht⟩
 ·exact .inl h2
 ·by_cases h0:n*sz=0
  ·exact .inl h0
  ·exact .inr ⟨b,o,cs,hp,by rw[hc.cells (aEt hb) (hn _ hp h0)];exact hb,hl,ht⟩
theorem Ow.ch{S:Nat->Prop}{w w':World}{p:Option Addr}{n c sz:Nat}{xs:List Value}{b:Option Nat}(h:Ow w p n c sz xs b)(hc:Ch S w w')(hn:∀k,b=some k->¬S k):Ow w' p n c sz xs b:=by
 obtain⟨h1,h2,h3⟩:=h;refine⟨h1,h2,?_⟩;rcases h3 with h3|⟨k,o,cs,hb,hp,hk,hl,ht⟩
 ·exact .inl h3
 ·exact .inr ⟨k,o,cs,hb,hp,by rw[hc.blk (aH hk) (hn k hb)];exact hk,hl,ht⟩
theorem Ow.lt{w:World}{p:Option Addr}{n c sz:Nat}{xs:List Value}{k:Nat}(h:Ow w p n c sz xs (some k)):k<w.heap.size:=by
 obtain⟨_,_,h3⟩:=h;rcases h3 with⟨h3,_⟩|⟨k',o,cs,hb,hp,hk,_,_⟩
 ·cases h3
 ·cases hb;exact aH hk
theorem Rd.cell{w:World}{p:Option Addr}{n sz:Nat}{xs:List Value}(h:Rd w p n sz xs){i:Nat}(hi:i<n*sz):∃b o,p=some ⟨b,o,none⟩/\w.cell? ⟨b,o+i,none⟩=xs[i]?:=by
 obtain⟨h1,h2⟩:=h;rcases h2 with h2|⟨b,o,cs,hp,hb,hl,ht⟩
 ·omega
 ·refine⟨b,o,hp,?_⟩;rw[rQ hb,<-ht,cZ,aF hi,cU]
theorem qQ{v:Value}:v.oneCell'=nK v:=by cases v<;>rfl
theorem aCu(cs:List Value)(o:Nat):fX cs o []=cs:=by simp[fX]
theorem aAk(cs:List Value)(o:Nat)(v:Value)(r:List Value)(h:o+(r.length+1)<=cs.length):fX (cs.set o v) (o+1) r=fX cs o (v::r):=by
 apply List.ext_getElem?;intro k;rw[nO (by simp;omega),nO (by simp;omega)];simp only[aI];by_cases h1:k<o
 ·rw[aF,aF h1,List.getElem?_set_ne (by omega)]
 ·by_cases h2:k=o
  ·subst h2;rw[aF,aD,aF,List.getElem?_set_self (by omega)];simp
  ·rw[aD (by omega:¬k<o+1),aD h1];by_cases h3:k<o+1+r.length
   ·rw[aF h3,aF];obtain⟨m,hm⟩:∃m,k-o=m+1:=⟨k-o-1,by omega⟩;rw[hm,List.getElem?_cons_succ];congr 1;omega
   ·rw[aD h3,aD,List.getElem?_set_ne (by omega)]
theorem qM:∀(vs:List Value) {w:World} {b o:Nat} {cs:List Value},blk w b=some cs->o+vs.length<=cs.length ->
 blk (w.setCells b o vs) b=some (fX cs o vs)/\Ch (·=b) w (w.setCells b o vs)/\(w.setCells b o vs).heap.size=w.heap.size
 | [],w,b,o,cs,h,_=>⟨by rw[aCu];exact h,Ch.refl _ _,rfl⟩
 | v::r,w,b,o,cs,h,hl=>by
  simp only[aI]at hl;obtain⟨h1,h2,h3⟩:=qM r (sN h o v) (o:=o+1) (by simp;omega);refine⟨by rw[<-aAk cs o v r (by omega)];exact h1,(qN w b o v).trans' h2,by rw[World.setCells,h3];simp⟩
theorem rR{P:Program}{T T2 ty e:TypeId}{inf:TypeInfo}{z:Value}(hT:P.underlying T=some (.slice e))(hi:P.info? e=some inf)(hz:inf.zero=some z)(hzs:z.cells.size=inf.size)
 {w:World} {p:Option Addr} {n c m:Nat} {xs ys:List Value} {b:Option Nat} {x:Value} (ho:Ow w p n c inf.size xs b) (hs:Src P inf.size T2 x m ys w)
 (h1:n+m<=2^47) (h2:(n+m)*inf.bytes<=2^47) :
 ∃p' c' w' b',(Builtin.append_ #[T,T2] ty #[.slice p n c,x]).run P w=.ok (.slice p' (n+m) c') w'/\Ow w' p' (n+m) c' inf.size (xs++ys) b' /\
  ((n+m<=c/\b'=b/\c'=c/\p'=p/\Ch (λk=>b=some k) w w'/\w'.heap.size=w.heap.size)\/(c<n+m/\b'=some w.heap.size/\p'=some ⟨w.heap.size,0,none⟩/\Ch (λ_=>False) w w'/\w'.heap.size=w.heap.size+1)):=by
 obtain⟨hl,hnc,ho⟩:=ho;have hlen:(xs++ys).length=(n+m)*inf.size:=by rw[aG,hl,hs.newsLen,Nat.add_mul]
 by_cases hroom:n+m<=c
 ·rcases ho with⟨rfl,h0⟩|⟨k,o,cs,rfl,rfl,hb,hle,ht⟩
  ·-- no room at all: nothing is appended
   have hm0:(n+m)*inf.size=0:=by
    have:(n+m)*inf.size<=c*inf.size:=bR _ hroom;omega
   have hy0:ys=[]:=bI (by rw[hs.newsLen];rw[Nat.add_mul]at hm0;omega);refine⟨p,c,w,none,?_,⟨hlen,hroom,.inl ⟨rfl,h0⟩⟩,.inl ⟨hroom,rfl,rfl,rfl,Ch.refl _ _,rfl⟩⟩;have hcells:=hs.cells;rw[hy0]at hcells;rcases hs.kind with⟨e',hk⟩|hk<;>cases p<;>simp[Builtin.append_,run_underlying hT,run_underlying hk,sizeOf,typeInfo,hi,hs.len,hroom,hcells,storeCells]
  ·have hfit:o+n*inf.size+ys.length<=cs.length:=by
    have:(n+m)*inf.size<=c*inf.size:=bR _ hroom;rw[Nat.add_mul]at this;rw[hs.newsLen];omega
   have hr:=run_append_room_src (P:=P) w T T2 ty e inf hT hi k o n c x m ys hs hroom
    (λj hj=>by rw[eA hb];simp;omega) (λj hj=>jW hb (by omega))
   obtain⟨g1,g2,g3⟩:=qM ys hb hfit;refine⟨_,_,_,some k,hr,⟨hlen,hroom,.inr ⟨k,o,_,rfl,rfl,g1,by rw[aE9 hfit];exact hle,?_⟩⟩,.inl ⟨hroom,rfl,rfl,rfl,g2.mono λx _ hx=>by rw[hx],g3⟩⟩;apply List.ext_getElem?;intro j;rw[<-hlen];by_cases hj:j<(xs++ys).length
   ·rw[cZ,aF hj,cU,nO hfit];rw[aG]at hj;by_cases hj2:j<xs.length
    ·rw[aF,cK hj2,<-ht,cZ,aF,cU]
    ·rw[aD,aF,dV (by omega)];congr 1;omega
   ·rw[eS (by rw[aU];omega),eS (by omega)]
 ·have hold:(Builtin.firstCells inf.size n (.slice p n c)).run P w.drew=.ok xs.toArray w.drew:=by
   rcases ho with⟨_,h0⟩|⟨k,o,cs,_,rfl,hb,hle,ht⟩
   ·have hn0:n*inf.size=0:=by
     have:n*inf.size<=c*inf.size:=bR _ hnc;omega
    have hx0:xs=[]:=bI (by omega);subst hx0;cases p with
    | none=>simp[Builtin.firstCells]
    | some a=>simp[Builtin.firstCells,hn0,loadCells,loadCellsFrom]
   ·simp only[Builtin.firstCells];rw[<-hl];refine run_loadCells_list (P:=P) w.drew ⟨k,o,none⟩ xs λj v hj=>?_;have hjl:j<xs.length:=(List.getElem?_eq_some_iff.1 hj).1;rw[add_at,World.cell?_drew,eA hb,<-hj,<-ht,cZ,aF,cU]
  have hr:=run_append_grow_src (P:=P) w T T2 ty e inf z hT hi hz p n c xs hold x m ys hs (by omega) (by omega) (growslice_fits (by omega) (by simpa using h2));have hge:=grownCap_ge w (n+m) c e;refine⟨_,_,_,some w.heap.size,hr,⟨hlen,hge,.inr ⟨w.heap.size,0,(xs++ys)++(Builtin.zeroCells z.cells (grownCap w (n+m) c e-(n+m))).toList,rfl,rfl,?_,?_,?_⟩⟩,.inr ⟨by omega,rfl,rfl,?_,by simp⟩⟩
  ·have:=nF w.drew ((xs++ys)++(Builtin.zeroCells z.cells (grownCap w (n+m) c e-(n+m))).toList) e;have e2:((xs++ys)++(Builtin.zeroCells z.cells (grownCap w (n+m) c e-(n+m))).toList).toArray=(xs++ys).toArray++Builtin.zeroCells z.cells (grownCap w (n+m) c e-(n+m)):=by
    apply Array.ext';simp
   rw[e2]at this;exact this
  ·have hzc:=size_zeroCells z.cells (grownCap w (n+m) c e-(n+m));have hmul:(grownCap w (n+m) c e-(n+m))*inf.size+(n+m)*inf.size=grownCap w (n+m) c e*inf.size:=by rw[<-Nat.add_mul];congr 1;omega
   rw[aG,hlen,Array.length_toList,hzc,hzs];omega
  ·rw[bS,<-hlen,List.take_left]
  ·exact(Ch.drew w).trans' (eV w.drew _)
theorem Src.of_rd{P:Program}{sz:Nat}{T2 e:TypeId}(hk:P.underlying T2=some (.slice e)){w:World}{p:Option Addr}{m c:Nat}{ys:List Value}(h:Rd w p m sz ys)(hone:∀u∈ys,nK u=true):Src P sz T2 (.slice p m c) m ys w:=by
 have cells:∀w':World,(∀a,w'.cell? a=w.cell? a)->(Builtin.firstCells sz m (.slice p m c)).run P w'=.ok ys.toArray w':=by
  intro w' hw;obtain⟨hl,h⟩:=h;rcases h with h0|⟨b,o,cs,rfl,hb,hle,ht⟩
  ·have hy:ys=[]:=bI (by omega);subst hy;cases p with
   | none=>simp[Builtin.firstCells]
   | some a=>simp[Builtin.firstCells,h0,loadCells,loadCellsFrom]
  ·simp only[Builtin.firstCells];rw[<-hl];refine run_loadCells_list (P:=P) w' ⟨b,o,none⟩ ys λj v hj=>?_;have hjl:j<ys.length:=(List.getElem?_eq_some_iff.1 hj).1;rw[add_at,hw,rQ hb,<-hj,<-ht,cZ,aF,cU]
 exact⟨.inl ⟨e,hk⟩,λ_=>rfl,cells w λ_=>rfl,cells w.drew λ_=>rfl,h.1,λu hu=>by rw[qQ];exact hone u hu⟩
def aV(l:List UInt8):List Value:=l.map λb=>Value.int .u8 (b.toNat:Int)
@[simp] theorem bytesV_length (l:List UInt8):(aV l).length=l.length:=by simp[aV]
theorem wP(l:List UInt8):∀u∈aV l,nK u=true:=by
 intro u hu;obtain⟨b,_,rfl⟩:=List.mem_map.1 hu;rfl
theorem eM(a b:List UInt8):aV (a++b)=aV a++aV b:=by simp[aV]
theorem cD{P:Program}{s d e:TypeId}(hs:P.underlying s=some (.slice e))(he:P.underlying e=some (.int .u8))(hd:P.underlying d=some .string){w:World}{p:Option Addr}{n c:Nat}{l:List UInt8}(h:Rd w p n 1 (aV l)) :
 (convert s d (.slice p n c)).run P w=.ok (.string ⟨l.toArray⟩) w:=by
 obtain⟨hl,h⟩:=h;have hn:n=l.length:=by simpa using hl.symm
 subst hn;cases p with
 | none =>
  have hl0:l=[]:=by
   rcases h with h|⟨b,o,cs,hp,_⟩
   ·exact bI (by omega)
   ·cases hp
  subst hl0;exact run_convert_bytes_nil w s e hs he 0 c d hd
 | some a =>
  refine run_convert_bytes_back (P:=P) w s d e a c l hs he hd λj hj=>?_;rcases h with h|⟨b,o,cs,hp,hb,hle,ht⟩
  ·omega
  ·cases hp;have:(aV l)[j]?=some (.int .u8 (l[j].toNat:Int)):=by simp[aV,hj]
   rw[add_at,rQ hb,<-this,<-ht,cZ,aF,cU]
open MapKept
def Mp(d:TypeDesc)(w:World)(r:Nat)(m:List (Value × Value)):Prop :=
 ∃es clock,w.heap[r]?=some (.map es clock)/\Stamped es clock/\(∀x∈es.toList,IsKey d x.key)/\es.toList.map (λe=>(e.key,e.val))=m
theorem Mp.lt{d:TypeDesc}{w:World}{r:Nat}{m:List (Value × Value)}(h:Mp d w r m):r<w.heap.size:=by
 obtain⟨es,c,hb,_⟩:=h;exact gL hb
theorem Mp.ch{S:Nat->Prop}{d:TypeDesc}{w w':World}{r:Nat}{m:List (Value × Value)}(h:Mp d w r m)(hc:Ch S w w')(hn:¬S r):Mp d w' r m:=by
 have hlt:=h.lt;obtain⟨es,c,hb,h⟩:=h;exact⟨es,c,by rw[hc.keep r hlt hn];exact hb,h⟩
@[simp] theorem Mp_drew (d:TypeDesc) (w:World) (r:Nat) (m:List (Value × Value)):Mp d w.drew r m↔Mp d w r m:=Iff.rfl
theorem Mp.keys{d:TypeDesc}{w:World}{r:Nat}{m:List (Value × Value)}(h:Mp d w r m):∀p∈m,IsKey d p.1:=by
 obtain⟨es,c,_,_,hk,rfl⟩:=h;intro p hp;obtain⟨e,he,rfl⟩:=List.mem_map.1 hp;exact hk e he
theorem aKe(P:Program)(t:TypeId)(d:TypeDesc)(w:World):∃w',(Instr.makeMap t none).run P w=.ok (.map (some w.heap.size)) w'/\Mp d w' w.heap.size []/\Ch (λ_=>False) w w'/\w'.heap.size=w.heap.size+1 :=
 ⟨w.alloc (.map #[] 0),by simp[Instr.makeMap,newObj,Result.andThen,Sem.run],⟨#[],0,heap_alloc_new w _,stamped_empty 0,by simp,rfl⟩,eV w _,by simp⟩
theorem Mp.find{d:TypeDesc}{P:Program}{w:World}{r:Nat}{es:Array MapEntry}{k:Value}(hks:∀x∈es.toList,IsKey d x.key)(hk:IsKey d k){m:List (Value × Value)}(hm:es.toList.map (λe=>(e.key,e.val))=m) :
 (Instr.findNow d k es.toList 0=some none/\(∀x∈es.toList,x.key≠k)/\∀p∈m,p.1≠k) \/
 ∃j e,Instr.findNow d k es.toList 0=some (some (j,e.val))/\es.toList[j]?=some e/\e.key=k/\m[j]?=some (k,e.val):=by
 subst hm;rcases findNow_spec hk es.toList 0 hks with⟨h1,h2⟩|⟨j,e,h1,h2,h3⟩
 ·refine .inl ⟨h1,h2,λp hp=>?_⟩;obtain⟨x,hx,rfl⟩:=List.mem_map.1 hp;exact h2 x hx
 ·refine .inr ⟨j,e,by simpa using h1,h2,h3,?_⟩;rw[dH,h2];simp[h3]
theorem aMu{P:Program}{t kt et:TypeId}{d:TypeDesc}(ht:P.underlying t=some (.map kt et))(hd:P.underlying kt=some d){z:Value}{w:World}(hz:(zeroValue et).run P w=.ok z w){r:Nat}{m:List (Value × Value)}(h:Mp d w r m){k:Value}(hk:IsKey d k) :
 (∃v,(k,v)∈m/\(Instr.lookup t (.map (some r)) k false).run P w=.ok v w/\(Instr.lookup t (.map (some r)) k true).run P w=.ok (.tuple #[v,.bool true]) w) \/
 ((∀p∈m,p.1≠k)/\(Instr.lookup t (.map (some r)) k false).run P w=.ok z w/\(Instr.lookup t (.map (some r)) k true).run P w=.ok (.tuple #[z,.bool false]) w):=by
 obtain⟨es,c,hb,hs,hks,hm⟩:=h;rcases Mp.find (P:=P) (w:=w) (r:=r) hks hk hm with⟨h1,h2,h3⟩|⟨j,e,h1,h2,h3,h4⟩
 ·right;refine⟨h3,?_,?_⟩<;>simp[Instr.lookup,run_underlying ht,MapKept.run_getObj_map hb,run_checkKey hd hk,run_findKey hd h1,hz,Result.andThen]
 ·left;refine⟨e.val,bJ h4,?_,?_⟩<;>simp[Instr.lookup,run_underlying ht,MapKept.run_getObj_map hb,run_checkKey hd hk,run_findKey hd h1,Result.andThen]
theorem aJn{w:World}{r:Nat}(o':Obj):Ch (·=r) w { w with heap:=w.heap.setIfInBounds r o' } :=
 ⟨rfl,rfl,rfl,by simp,λb _ hn=>by simp[Ne.symm hn]⟩
theorem aRe{α:Type}{l:List α}{j:Nat}{x:α}(h:l[j]?=some x):l=l.take j++x::l.drop (j+1):=by
 obtain⟨hj,rfl⟩:=List.getElem?_eq_some_iff.1 h;rw[List.getElem_cons_drop hj,List.take_append_drop]
theorem aLy{P:Program}{t kt et:TypeId}{d:TypeDesc}(ht:P.underlying t=some (.map kt et))(hd:P.underlying kt=some d){w:World}{r:Nat}{m:List (Value × Value)}(h:Mp d w r m){k:Value}(hk:IsKey d k)(v:Value) :
 ∃w' m',(Instr.mapUpdate t (.map (some r)) k v).run P w=.ok () w'/\Mp d w' r m'/\Ch (·=r) w w'/\w'.heap.size=w.heap.size /\
  ((∃l1 v0 l2,m=l1++(k,v0)::l2/\m'=l1++(k,v)::l2)\/((∀p∈m,p.1≠k)/\m'=m++[(k,v)])):=by
 obtain⟨es,c,hb,hs,hks,hm⟩:=h;rcases Mp.find (P:=P) (w:=w) (r:=r) hks hk hm with⟨h1,h2,h3⟩|⟨j,e,h1,h2,h3,h4⟩
 ·refine⟨_,m++[(k,v)],by
   simp[Instr.mapUpdate,run_underlying ht,MapKept.run_getObj_map hb,run_checkKey hd hk,run_findKey hd h1,run_setObj_map _ hb,Result.andThen];rfl,⟨_,_,(heap_set hb).1,stamped_push hs h2,?_,?_⟩,aJn _,by simp,.inr ⟨h3,rfl⟩⟩
  ·intro x hx;simp only[Array.toList_push,List.mem_append,List.mem_singleton]at hx;rcases hx with hx|rfl
   ·exact hks x hx
   ·exact hk
  ·simp[hm]
 ·have hj:es[j]?=some e:=by simpa using h2
  have hkey:∀e',es[j]?=some e'->({ e' with key:=k,val:=v }:MapEntry).key=e'.key:=λe' he'=>by rw[hj]at he';cases he';exact h3.symm
  refine⟨{ w with heap:=w.heap.setIfInBounds r (.map (es.modify j λe=>{ e with key:=k,val:=v }) c) },m.take j++(k,v)::m.drop (j+1),by
   simp[Instr.mapUpdate,run_underlying ht,MapKept.run_getObj_map hb,run_checkKey hd hk,run_findKey hd h1,hj,h3,run_keyThatStays hk,run_setObj_map _ hb,Result.andThen],
   ⟨_,_,(heap_set hb).1,stamped_modify hs _ _ (λ_ _=>rfl) (λe' _ he'=>hkey e' he'),isKey_modify hks _ _ hkey,?_⟩,aJn _,by simp,.inl ⟨m.take j,e.val,m.drop (j+1),aRe h4,rfl⟩⟩
  have hjl:j<m.length:=(List.getElem?_eq_some_iff.1 h4).1;subst hm;simp only[eI]at hjl;apply List.ext_getElem?;intro i;simp only[dH,Array.getElem?_toList,Array.getElem?_modify];rcases Nat.lt_trichotomy i j with hij|rfl|hij
  ·rw[aD,cK (by rw[aU,eI];omega),cZ,aF hij];simp
  ·rw[aF rfl,dV (by rw[aU,eI];omega),hj,aU,eI,Nat.min_eq_left (Nat.le_of_lt hjl),Nat.sub_self];simp
  ·rw[aD,dV (by rw[aU,eI];omega)];have e1:i-(List.take j (List.map (λe=>(e.key,e.val)) es.toList)).length=(i-j-1)+1:=by rw[aU,eI];omega
   rw[e1,List.getElem?_cons_succ,cU,show j+1+(i-j-1)=i by omega];simp
def It(d:TypeDesc)(w:World)(it r:Nat)(m left:List (Value × Value)):Prop :=
 ∃es clock since seen c0,w.heap[it]?=some (.mapIter (some r) since seen c0)/\w.heap[r]?=some (.map es clock)/\Stamped es clock/\(∀x∈es.toList,IsKey d x.key)/\es.toList.map (λe=>(e.key,e.val))=m /\
  (∀x∈es.toList,x.born<since)/\since<=c0/\since<=clock/\((leftOf es seen).toList.map λe=>(e.key,e.val))=left
theorem It.mp{d:TypeDesc}{w:World}{it r:Nat}{m left:List (Value × Value)}(h:It d w it r m left):Mp d w r m:=by
 obtain⟨es,clock,since,seen,c0,_,hb,hs,hk,hm,_⟩:=h;exact⟨es,clock,hb,hs,hk,hm⟩
theorem It.lt{d:TypeDesc}{w:World}{it r:Nat}{m left:List (Value × Value)}(h:It d w it r m left):it<w.heap.size:=by
 obtain⟨es,clock,since,seen,c0,hi,_⟩:=h;exact gL hi
theorem It.ch{S:Nat->Prop}{d:TypeDesc}{w w':World}{it r:Nat}{m left:List (Value × Value)}(h:It d w it r m left)(hc:Ch S w w')(hi:¬S it)(hr:¬S r):It d w' it r m left:=by
 have h1:=h.lt;have h2:=h.mp.lt;obtain⟨es,clock,since,seen,c0,g1,g2,g⟩:=h;exact⟨es,clock,since,seen,c0,by rw[hc.keep _ h1 hi];exact g1,by rw[hc.keep _ h2 hr];exact g2,g⟩
@[simp] theorem It_drew (d:TypeDesc) (w:World) (it r:Nat) (m left:List (Value × Value)):It d w.drew it r m left↔It d w it r m left:=Iff.rfl
end Go.Sv
namespace Go.Sv
open Go
theorem aW{n:Int}(h1:-9223372036854775808<=n:=by omega)(h2:n<=9223372036854775807:=by omega):IntKind.wrap .i64 n=n:=by
 unfold IntKind.wrap;simp only[show IntKind.i64.bits=64 from rfl,show IntKind.i64.signed=true from rfl,Bool.true_and];split
 ·rename_i h;simp at h;omega
 ·rename_i h;simp at h;omega
def InfoIs(P:Program)(t:TypeId)(sz bytes:Nat)(z:Value):Prop:=∃inf,P.info? t=some inf/\inf.size=sz/\inf.bytes=bytes/\inf.zero=some z
theorem InfoIs.of{P:Program}{t:TypeId}{sz bytes:Nat}{z:Value}(h1:(P.info? t).map (·.size)=some sz)(h2:(P.info? t).map (·.bytes)=some bytes)(h3:(P.info? t).map (·.zero)=some (some z)):InfoIs P t sz bytes z:=by
 cases h:P.info? t with
 | none=>rw[h]at h1;cases h1
 | some i =>
  rw[h]at h1 h2 h3;exact⟨i,h,by simpa using h1,by simpa using h2,by simpa using h3⟩
theorem InfoIs.zero{P:Program}{t:TypeId}{sz bytes:Nat}{z:Value}(h:InfoIs P t sz bytes z)(w:World):(zeroValue t).run P w=.ok z w:=by
 obtain⟨i,hi,_,_,hz⟩:=h;simp[zeroValue,typeInfo,hi,hz]
theorem uQ{P:Program}{T T2 ty e e2:TypeId}{sz bytes:Nat}{z:Value}(hT:P.underlying T=some (.slice e))(hT2:P.underlying T2=some (.slice e2))(hi:InfoIs P e sz bytes z)(hzs:z.cells.size=sz)
 {w:World} {p q:Option Addr} {n c m c2:Nat} {xs ys:List Value} {b:Option Nat} (ho:Ow w p n c sz xs b) (hs:Rd w q m sz ys) (hone:∀u∈ys,nK u=true)
 (h1:n+m<=2^47) (h2:(n+m)*bytes<=2^47) :
 ∃p' c' w' b',(Builtin.append_ #[T,T2] ty #[.slice p n c,.slice q m c2]).run P w=.ok (.slice p' (n+m) c') w'/\Ow w' p' (n+m) c' sz (xs++ys) b' /\
  (∀k,b'=some k->b=some k\/k=w.heap.size)/\Ch (λk=>b=some k) w w'/\(p≠none->p'≠none)/\(m≠0->p'≠none\/sz=0):=by
 obtain⟨inf,hi,rfl,rfl,hz⟩:=hi;obtain⟨p',c',w',b',h3,h4,h5⟩:=rR (ty:=ty) hT hi hz hzs ho (Src.of_rd hT2 hs hone) h1 h2;refine⟨p',c',w',b',h3,h4,?_⟩;rcases h5 with⟨g1,rfl,rfl,rfl,g5,_⟩|⟨g1,rfl,rfl,g4,_⟩
 ·refine⟨λk hk=>.inl hk,g5,id,λhm=>?_⟩;obtain⟨_,_,h6⟩:=h4;rcases h6 with⟨_,h6⟩|⟨k,o,cs,_,hp,_⟩
  ·right;rcases Nat.mul_eq_zero.1 h6 with h6|h6
   ·omega
   ·exact h6
  ·left;rw[hp];simp
 ·exact⟨λk hk=>.inr (bC hk).symm,g4.mono λ_ _ h=>h.elim,λ_=>by simp,λ_=>.inl (by simp)⟩
theorem aNc{P:Program}{f:FuncId}{args:List Value}{w:World}{K K':Value->World->Prop}(h:bK P f args w K)(hk:∀v w',K v w'->K' v w'):bK P f args w K' :=
 Calls.mono h λ_ _ ⟨v,he,hv⟩=>⟨v,he,hk _ _ hv⟩
theorem aC{b:Bool}{x y:Prop}(h1:b=true->x)(h2:b=false->y):aS b x y:=by
 unfold aS;cases b
 ·exact h2 rfl
 ·exact h1 rfl
theorem iH{x y:Prop}(h:x):aS true x y:=h
theorem dJ{x y:Prop}(h:y):aS false x y:=h
@[simp] theorem nn_some {a:Addr} {K:Addr->Prop}:nn (some a) K↔K a:=by
 unfold nn;exact Iff.rfl
@[simp] theorem nameI_iff {n:Int} {K:Int->Prop}:cF n K↔K n:=by unfold cF;simp
theorem Ch.new{S:Nat->Prop}{a b c:World}(h:Ch S a b)(k:Ch (λ_=>False) b c):Ch S a c:=h.trans k λ_ _ hx=>hx.elim
theorem Ch.more{S S':Nat->Prop}{a b c:World}(h:Ch S a b)(k:Ch S' b c)(hs:∀x,S' x->S x):Ch S a c:=h.trans k λx _ hx=>hs x hx
theorem Ch.d0{w:World}:Ch (λ_=>False) w w.drew:=Ch.drew w
theorem xU{α:Type}{g:α->List Value}{sz:Nat}(hg:∀x,(g x).length=sz):∀(L:List α) (i j:Nat),j<sz->(L.flatMap g)[i*sz+j]?=L[i]?.bind λx=>(g x)[j]?
 | [],i,j,_=>by simp
 | x::L,0,j,hj=>by
  rw[bU,Nat.zero_mul,aL,cK (by rw[hg];exact hj)];simp
 | x::L,i+1,j,hj=>by
  rw[bU,dV (by rw[hg,Nat.add_mul];omega),hg,show(i+1)*sz+j-sz=i*sz+j by rw[Nat.add_mul];omega,xU hg L i j hj];simp
theorem mB{α:Type}{g:α->List Value}{sz:Nat}(hg:∀x,(g x).length=sz)(L:List α):(L.flatMap g).length=L.length*sz:=by
 induction L with
 | nil=>simp
 | cons x L ih=>rw[bU,aG,ih,hg,aI,Nat.add_mul];omega
theorem Rd.at{α:Type}{g:α->List Value}{sz:Nat}(hg:∀x,(g x).length=sz){w:World}{p:Option Addr}{n:Nat}{L:List α}(h:Rd w p n sz (L.flatMap g)){i:Nat}{x:α}(hi:L[i]?=some x)(h0:0<sz) :
 ∃b o,p=some ⟨b,o,none⟩/\∀j v,(g x)[j]?=some v->w.cell? ⟨b,o+i*sz+j,none⟩=some v:=by
 have hil:i<L.length:=(List.getElem?_eq_some_iff.1 hi).1;have hn:n*sz=L.length*sz:=by rw[<-h.1,mB hg]
 have hlt:∀j,j<sz->i*sz+j<n*sz:=λj hj=>by
  have:(i+1)*sz<=L.length*sz:=bR _ hil;rw[Nat.add_mul]at this;omega
 obtain⟨b,o,hp,_⟩:=h.cell (hlt 0 h0);refine⟨b,o,hp,λj v hv=>?_⟩;have hj:j<sz:=by rw[<-hg x];exact(List.getElem?_eq_some_iff.1 hv).1
 obtain⟨b',o',hp',hc⟩:=h.cell (hlt j hj);rw[hp]at hp';cases hp';rw[Nat.add_assoc,hc,xU hg L i j hj,hi];exact hv
theorem Rd.len{w:World}{p:Option Addr}{n sz:Nat}{xs:List Value}(h:Rd w p n sz xs):xs.length=n*sz:=h.1
theorem Rd.lt{w:World}{p:Option Addr}{n sz:Nat}{xs:List Value}(h:Rd w p n sz xs):∀a,p=some a->n*sz≠0->a.block<w.heap.size:=λa ha h0=>by
 rcases h.2 with h2|⟨b,o,cs,hp,hb,_⟩
 ·exact absurd h2 h0
 ·rw[hp]at ha;cases ha;exact aEt hb
theorem oQ{w:World}{k:Nat}{cs:List Value}:∀(vs:List Value) (o:Nat) {K:World->Prop},blk w k=some cs->o+vs.length<=cs.length ->
 (∀w',blk w' k=some (fX cs o vs)->Ch (·=k) w w'->w'.heap.size=w.heap.size->K w') ->
 (List.foldr (λ(v:Value) (F:Nat->World->Prop) (i:Nat) (w:World)=>st w ⟨k,i,none⟩ v λw=>F (i+1) w) (λ_ w=>K w) vs) o w:=by
 intro vs
 induction vs generalizing w cs with
 | nil=>intro o K hb _ hk;exact hk w (by rw[aCu];exact hb) (Ch.refl _ _) rfl
 | cons v vs ih =>
  intro o K hb hl hk;simp only[aI]at hl;refine eK hb (by omega) λw1 b1 c1 z1=>?_;refine ih (o+1) b1 (by simp;omega) λw2 b2 c2 z2=>hk w2 (by rw[b2,aAk cs o v vs (by omega)]) (c1.trans' c2) (by rw[z2,z1])
theorem aVu{w:World}{t:TypeId}{z0 z1 z2 v0 v1 v2:Value}{K:Addr->World->Prop}(hk:∀w',blk w' w.heap.size=some [v0,v1,v2]->Ch (λ_=>False) w w'->w'.heap.size=w.heap.size+1->K ⟨w.heap.size,0,none⟩ w') :
 bP w [z0,z1,z2] t λa w1=>st w1 (a.add 0) v0 λw2=>st w2 (a.add 1) v1 λw3=>st w3 (a.add 2) v2 λw4=>K a w4:=by
 refine bD λw1 b1 c1 y1=>?_;simp only[add_at];exact oQ [v0,v1,v2] 0 (K:=λw'=>K ⟨w.heap.size,0,none⟩ w') b1 (aQ _) λw' b c y=>hk w' b (c1.trans c λx hx h=>by omega) (by omega)
theorem re3{w:World}{k:Nat}{z0 z1 z2 v0 v1 v2:Value}{K:World->Prop}(hb:blk w k=some [z0,z1,z2])(hk:∀w',blk w' k=some [v0,v1,v2]->Ch (·=k) w w'->w'.heap.size=w.heap.size->K w') :
 st w ⟨k,0,none⟩ v0 λw2=>st w2 ⟨k,1,none⟩ v1 λw3=>st w3 ⟨k,2,none⟩ v2 λw4=>K w4 :=
 oQ [v0,v1,v2] 0 (K:=K) hb (aQ _) hk
theorem aJc(s:ByteArray):(s.toList == s.toList)=true:=by simp
theorem Ow.nil{w:World}{sz:Nat}:Ow w none 0 0 sz [] none:=⟨by simp,aQ _,.inl ⟨rfl,by simp⟩⟩
theorem Ow.blt{w:World}{p:Option Addr}{n c sz:Nat}{xs:List Value}{b:Option Nat}(h:Ow w p n c sz xs b):∀k,b=some k->k<w.heap.size:=λk hk=>by subst hk;exact h.lt
theorem aBx{P:Program}{T ty e te:TypeId}{sz bytes:Nat}{z:Value}(hT:P.underlying T=some (.slice e))(hi:InfoIs P e sz bytes z)(hzs:z.cells.size=sz){α:Type}{g:α->List Value}(hg:∀x,(g x).length=sz)(hone:∀x,∀v∈g x,nK v=true)
 {w:World} {p:Option Addr} {c:Nat} {L:List α} {b:Option Nat} (ho:Ow w p L.length c sz (L.flatMap g) b) (x:α) (h1:L.length+1<=2^47) (h2:(L.length+1)*bytes<=2^47) {K:Option Addr->Nat->Nat->World->Prop}
 (hk:∀p' c' b' w',Ow w' p' (L++[x]).length c' sz ((L++[x]).flatMap g) b'->(∀k,b'=some k->b=some k\/w.heap.size<=k)->Ch (λk=>b=some k) w w'->K p' (L++[x]).length c' w') :
 bP w (g x) te λa w2=>∃p5 n7 c5 w3,Sem.run P (Builtin.append_ #[T,T] ty #[.slice p L.length c,.slice (some a) 1 1]) w2=.ok (.slice p5 n7 c5) w3/\K p5 n7 c5 w3:=by
 refine bD λw2 b2 c2 z2=>?_;have hrd:Rd w2 (some ⟨w.heap.size,0,none⟩) 1 sz (g x):=⟨by rw[hg];omega,.inr ⟨_,0,_,rfl,gX b2,by rw[hg];omega,by rw[bS,aY (by rw[hg];omega)]⟩⟩;obtain⟨p',c',w',b',r1,r2,r3,r4,_⟩:=uQ (ty:=ty) (c2:=1) hT hT hi hzs (ho.ch c2 λ_ _=>id) hrd (hone x) h1 h2;refine⟨p',_,c',w',r1,?_⟩;have e:(L++[x]).flatMap g=L.flatMap g++g x:=by simp
 have:=hk p' c' b' w' (by rw[e,aG];exact r2) (λk hk=>(r3 k hk).imp id λh=>by omega) ((c2.mono λ_ _ h=>h.elim).trans' r4);rw[aG]at this;exact this
theorem aNh{P:Program}{T T2 ty e e2:TypeId}{sz bytes:Nat}{z:Value}(hT:P.underlying T=some (.slice e))(hT2:P.underlying T2=some (.slice e2))(hi:InfoIs P e sz bytes z)(hzs:z.cells.size=sz)
 {w:World} {p q:Option Addr} {n c m c2:Nat} {xs ys:List Value} {b:Option Nat} (ho:Ow w p n c sz xs b) (hs:Rd w q m sz ys) (hone:∀u∈ys,nK u=true)
 (h1:n+m<=2^47) (h2:(n+m)*bytes<=2^47) :
 ∃p' c' w' b',(Builtin.append_ #[T,T2] ty #[.slice p n c,.slice q m c2]).run P w=.ok (.slice p' (n+m) c') w'/\Ow w' p' (n+m) c' sz (xs++ys) b' /\
  ((b'=b/\p'=p/\Ch (λk=>b=some k) w w')\/(b'=some w.heap.size/\p'=some ⟨w.heap.size,0,none⟩/\Ch (λ_=>False) w w')):=by
 obtain⟨inf,hi,rfl,rfl,hz⟩:=hi;obtain⟨p',c',w',b',h3,h4,h5⟩:=rR (ty:=ty) hT hi hz hzs ho (Src.of_rd hT2 hs hone) h1 h2;refine⟨p',c',w',b',h3,h4,?_⟩;rcases h5 with⟨g1,rfl,rfl,rfl,g5,_⟩|⟨g1,rfl,rfl,g4,_⟩
 ·exact .inl ⟨rfl,rfl,g5⟩
 ·exact .inr ⟨rfl,rfl,g4⟩
theorem Ow.st{w:World}{p:Option Addr}{n c sz:Nat}{xs:List Value}{b:Option Nat}(h:Ow w p n c sz xs b){i:Nat}(hi:i<n*sz) :
 ∃k o,p=some ⟨k,o,none⟩/\b=some k/\∀(v:Value) (K:World->Prop),(∀w',Ow w' p n c sz (xs.set i v) b->Ch (·=k) w w'->w'.heap.size=w.heap.size->K w')->Sv.st w ⟨k,o+i,none⟩ v K:=by
 obtain⟨h1,h2,h3⟩:=h;have hnc:n*sz<=c*sz:=bR _ h2;rcases h3 with⟨_,h3⟩|⟨k,o,cs,rfl,rfl,hb,hl,ht⟩
 ·omega
 ·refine⟨k,o,rfl,rfl,λv K hK=>?_⟩;refine eK hb (by omega) λw' b' c' z'=>hK w' ⟨by simpa using h1,h2,.inr ⟨k,o,_,rfl,rfl,b',by simpa using hl,?_⟩⟩ c' z';rw[<-ht];apply List.ext_getElem?;intro j;simp only[cZ,cU,List.getElem?_set];by_cases hj:j<n*sz
  ·by_cases hji:i=j
   ·subst hji;have e1:o+i<cs.length:=by omega
    have e2:i<cs.length-o:=by omega
    simp[hj,e1];omega
   ·have:¬o+i=o+j:=by omega
    simp[hj,hji,this]
  ·by_cases hji:i=j
   ·omega
   ·simp[hj,hji]
theorem aEg{α:Type}{g:α->List Value}{sz:Nat}(hg:∀x,(g x).length=sz){x':α}:∀(L:List α) (i j:Nat) (v:Value) {x:α},L[i]?=some x->j<sz->g x'=(g x).set j v->(L.flatMap g).set (i*sz+j) v=(L.set i x').flatMap g
 | [],i,j,v,x,h,_,_=>by simp at h
 | y::L,0,j,v,x,h,hj,he=>by
  simp only[List.getElem?_cons_zero,Option.some.injEq]at h;subst h;rw[List.set_cons_zero,bU,bU,Nat.zero_mul,aL,List.set_append_left _ _ (by rw[hg];exact hj),he]
 | y::L,i+1,j,v,x,h,hj,he=>by
  simp only[List.getElem?_cons_succ]at h;rw[List.set_cons_succ,bU,bU,List.set_append_right _ _ (by rw[hg,Nat.add_mul];omega),hg,show(i+1)*sz+j-sz=i*sz+j by rw[Nat.add_mul];omega,aEg hg L i j v h hj he]
theorem aK6{a b:ByteArray}(h:a.data.toList=b.data.toList):a=b:=Go.WideShapes.bytes_inj h
theorem Rd.take{w:World}{p:Option Addr}{n m sz:Nat}{xs:List Value}(h:Rd w p n sz xs)(hm:m<=n):Rd w p m sz (xs.take (m*sz)):=by
 obtain⟨h1,h2⟩:=h;have hmul:m*sz<=n*sz:=bR _ hm;refine⟨by rw[aU,h1];omega,?_⟩;rcases h2 with h2|⟨b,o,cs,hp,hb,hl,ht⟩
 ·exact .inl (by omega)
 ·refine .inr ⟨b,o,cs,hp,hb,by omega,?_⟩;rw[<-ht,List.take_take,Nat.min_eq_left hmul]
theorem nE{α:Type}{g:α->List Value}{sz:Nat}(hg:∀x,(g x).length=sz)(L:List α)(m:Nat):(L.flatMap g).take (m*sz)=(L.take m).flatMap g:=by
 induction L generalizing m with
 | nil=>simp
 | cons x L ih =>
  cases m with
  | zero=>simp
  | succ m =>
   rw[bU,List.take_succ_cons,bU,Nat.add_mul,Nat.one_mul,Nat.add_comm,List.take_append,aY (by rw[hg];omega),hg,Nat.add_sub_cancel_left,ih]
structure SL where
 p:Option Addr
 n:Nat
 c:Nat
 own:Option Nat
def SL.cells(x:SL):List Value:=[.slice x.p x.n x.c]
theorem SL.cells_len(x:SL):x.cells.length=1:=rfl
theorem SL.cells_one(x:SL):∀v∈x.cells,nK v=true:=by
 intro v hv;simp[SL.cells]at hv;rw[hv];rfl
theorem SL.at{w:World}{p:Option Addr}{n:Nat}{T:List SL}(h:Rd w p n 1 (T.flatMap SL.cells)){i:Nat}{x:SL}(hi:T[i]?=some x):∃k o,p=some ⟨k,o,none⟩/\w.cell? ⟨k,o+i,none⟩=some (.slice x.p x.n x.c):=by
 obtain⟨k,o,e,h⟩:=h.at SL.cells_len hi (by decide);exact⟨k,o,e,by simpa using h 0 _ rfl⟩
structure Stays{α:Type}(gO:World->(Nat->Prop)->Nat->α->Prop):Prop where
 ch:∀ {w w':World} {B B':Nat->Prop} {j:Nat} {x:α},gO w B j x->Ch B w w'->(∀b,b<w.heap.size->B' b->B b)->gO w' B' j x
def Busy(T:List SL)(i:Nat)(cb gb:Option Nat)(b:Nat):Prop:=cb=some b\/gb=some b\/∃j x,T[j]?=some x/\i<=j/\x.own=some b
section
variable {α:Type} (g:α->List Value) (sz:Nat) (gO:World->(Nat->Prop)->Nat->α->Prop) (X:Nat->Prop)
structure Gb(w0 w:World)(T:List SL)(i:Nat)(cb:Option Nat)(gp:Option Addr)(gc:Nat)(gb:Option Nat)(G:List SL):Prop where
 rest:∀j x,T[j]?=some x->i<=j->∃ys:List α,Ow w x.p x.n x.c sz (ys.flatMap g) x.own/\ys.length=x.n/\∀y∈ys,gO w (Busy T i cb gb) j y
 grown:Ow w gp G.length gc 1 (G.flatMap SL.cells) gb
 cg:∀b,cb=some b->gb≠some b/\∀j x,T[j]?=some x->i<=j->x.own≠some b
 gr:∀b,gb=some b->∀j x,T[j]?=some x->i<=j->x.own≠some b
 rr:∀j k x y b,i<=j->i<=k->j≠k->T[j]?=some x->T[k]?=some y->x.own=some b->y.own≠some b
 loc:∀b,Busy T i cb gb b->(∃x∈T,x.own=some b)\/w0.heap.size<=b
 gnew:∀b,gb=some b->w0.heap.size<=b
 place:∀(k:Nat) (x:SL),G[k]?=some x->∀a:Addr,x.p=some a->x.n*sz≠0->(∃y∈T,y.own=some a.block)\/w0.heap.size<=a.block
 small:∀(k:Nat) (x:SL),G[k]?=some x->x.n<=2^60
 ch:Ch (λb=>∃x∈T,x.own=some b) w0 w
structure Gs(w0 w:World)(T:List SL)(i:Nat)(gp:Option Addr)(gc:Nat)(gb:Option Nat)(G:List SL)(lab:Nat->Nat):Prop where
 b:Gb g sz gO w0 w T i none gp gc gb G
 read:∀k x,G[k]?=some x->∃ys:List α,Rd w x.p x.n sz (ys.flatMap g)/\ys.length=x.n/\(∀y∈ys,gO w (Busy T i none gb) (lab k) y)/\∀a,x.p=some a->x.n*sz≠0->¬Busy T i none gb a.block
 own:∀k x,k<i->T[k]?=some x->∃ys:List α,Rd w x.p x.n sz (ys.flatMap g)/\ys.length=x.n/\(∀y∈ys,gO w (Busy T i none gb) k y)/\∀a,x.p=some a->x.n*sz≠0->¬Busy T i none gb a.block
structure Gr(w0 w:World)(T:List SL)(i:Nat)(cur:SL)(xs:List α)(gp:Option Addr)(gc:Nat)(gb:Option Nat)(G:List SL)(lab:Nat->Nat):Prop where
 b:Gb g sz gO w0 w T (i+1) cur.own gp gc gb G
 now:Ow w cur.p cur.n cur.c sz (xs.flatMap g) cur.own
 len:xs.length=cur.n
 curg:∀y∈xs,gO w (Busy T (i+1) cur.own gb) i y
 read:∀k x,G[k]?=some x->(lab k=i/\x.p=cur.p/\x.n<=cur.n)\/∃ys:List α,Rd w x.p x.n sz (ys.flatMap g)/\ys.length=x.n/\(∀y∈ys,gO w (Busy T (i+1) cur.own gb) (lab k) y)/\∀a,x.p=some a->x.n*sz≠0->¬Busy T (i+1) cur.own gb a.block
 own:∀k x,k<=i->T[k]?=some x->(k=i/\x.p=cur.p/\x.n<=cur.n)\/∃ys:List α,Rd w x.p x.n sz (ys.flatMap g)/\ys.length=x.n/\(∀y∈ys,gO w (Busy T (i+1) cur.own gb) k y)/\∀a,x.p=some a->x.n*sz≠0->¬Busy T (i+1) cur.own gb a.block
end
section
variable {α:Type} {g:α->List Value} {sz:Nat} {gO:World->(Nat->Prop)->Nat->α->Prop}
theorem Gs.begin{w:World}{T:List SL}(lab:Nat->Nat)(hrest:∀j x,T[j]?=some x->∃ys:List α,Ow w x.p x.n x.c sz (ys.flatMap g) x.own/\ys.length=x.n/\∀y∈ys,gO w (Busy T 0 none none) j y)
 (hnd:∀(j k:Nat) (x y:SL) (b:Nat),j≠k->T[j]?=some x->T[k]?=some y->x.own=some b->y.own≠some b):Gs g sz gO w w T 0 none 0 none [] lab where
 b:=⟨λj x h _=>hrest j x h,Ow.nil,(λb h=>by cases h),(λb h=>by cases h),(λj k x y b _ _=>hnd j k x y b),(λb h=>by
  rcases h with h|h|⟨j,x,h1,_,h2⟩
  ·cases h
  ·cases h
  ·exact .inl ⟨x,bJ h1,h2⟩),(λb h=>by cases h),(λk x h=>by simp at h),(λk x h=>by simp at h),Ch.refl _ _⟩
 read:=λk x h=>by simp at h
 own:=λk x h=>by omega
theorem Busy.lt{T:List SL}{i i':Nat}{cb gb:Option Nat}(h:i<=i'){b:Nat}(hb:Busy T i' cb gb b):Busy T i cb gb b:=by
 rcases hb with hb|hb|⟨j,x,h1,h2,h3⟩
 ·exact .inl hb
 ·exact .inr (.inl hb)
 ·exact .inr (.inr ⟨j,x,h1,by omega,h3⟩)
theorem Gs.start(hst:Stays gO){w0 w:World}{T:List SL}{i:Nat}{gp:Option Addr}{gc:Nat}{gb:Option Nat}{G:List SL}{lab:Nat->Nat}(h:Gs g sz gO w0 w T i gp gc gb G lab){x:SL}(hx:T[i]?=some x):∃xs,Gr g sz gO w0 w T i x xs gp gc gb G lab:=by
 obtain⟨xs,ho,hl,hg⟩:=h.b.rest i x hx (aQ _);have bz:∀b,Busy T (i+1) x.own gb b->Busy T i none gb b:=λb hb=>by
  rcases hb with hb|hb|⟨j,y,h1,h2,h3⟩
  ·exact .inr (.inr ⟨i,x,hx,aQ _,hb⟩)
  ·exact .inr (.inl hb)
  ·exact .inr (.inr ⟨j,y,h1,by omega,h3⟩)
 refine⟨xs,⟨λj y hj hij=>?_,h.b.grown,λb hb=>⟨λe=>h.b.gr b e i x hx (aQ _) hb,λj y hj hij e=>h.b.rr i j x y b (aQ _) (by omega) (by omega) hx hj hb e⟩,λb hb j y hj hij=>h.b.gr b hb j y hj (by omega),λj k y z b hj hk=>h.b.rr j k y z b (by omega) (by omega),λb hb=>h.b.loc b (bz b hb),h.b.gnew,h.b.place,h.b.small,h.b.ch⟩,ho,hl,λy hy=>hst.ch (hg y hy) (Ch.refl _ _) λb _=>bz b,λk y hk=>.inr ?_,λk y hki hk=>?_⟩
 ·obtain⟨ys,g1,g2,g3⟩:=h.b.rest j y hj (by omega);exact⟨ys,g1,g2,λz hz=>hst.ch (g3 z hz) (Ch.refl _ _) λb _=>bz b⟩
 ·obtain⟨ys,g1,g2,g3,g4⟩:=h.read k y hk;exact⟨ys,g1,g2,λz hz=>hst.ch (g3 z hz) (Ch.refl _ _) λb _=>bz b,λa ha h0 hb=>g4 a ha h0 (bz _ hb)⟩
 ·by_cases e:k=i
  ·subst e;rw[hx]at hk;cases hk;exact .inl ⟨rfl,rfl,aQ _⟩
  ·obtain⟨ys,g1,g2,g3,g4⟩:=h.own k y (by omega) hk;exact .inr ⟨ys,g1,g2,λz hz=>hst.ch (g3 z hz) (Ch.refl _ _) λb _=>bz b,λa ha h0 hb=>g4 a ha h0 (bz _ hb)⟩
theorem Gr.stop(hst:Stays gO)(hgl:∀x,(g x).length=sz){w0 w:World}{T:List SL}{i:Nat}{cur:SL}{xs:List α}{gp:Option Addr}{gc:Nat}{gb:Option Nat}{G:List SL}{lab:Nat->Nat}(h:Gr g sz gO w0 w T i cur xs gp gc gb G lab):Gs g sz gO w0 w T (i+1) gp gc gb G lab:=by
 have bz:∀b,Busy T (i+1) none gb b->Busy T (i+1) cur.own gb b:=λb hb=>by
  rcases hb with hb|hb
  ·cases hb
  ·exact .inr hb
 refine⟨⟨λj y hj hij=>?_,h.b.grown,(λb hb=>by cases hb),h.b.gr,h.b.rr,λb hb=>h.b.loc b (bz b hb),h.b.gnew,h.b.place,h.b.small,h.b.ch⟩,λk y hk=>?_,λk y hki hk=>?_⟩
 ·obtain⟨ys,g1,g2,g3⟩:=h.b.rest j y hj hij;exact⟨ys,g1,g2,λz hz=>hst.ch (g3 z hz) (Ch.refl _ _) λb _=>bz b⟩
 ·rcases h.read k y hk with⟨e1,e2,e3⟩|⟨ys,g1,g2,g3,g4⟩
  ·refine⟨xs.take y.n,?_,by rw[aU,h.len];omega,λz hz=>?_,λa ha h0 hb=>?_⟩
   ·have:=Rd.take h.now.rd e3;rw[nE hgl]at this;rw[e2];exact this
   ·rw[e1];exact hst.ch (h.curg z (List.mem_of_mem_take hz)) (Ch.refl _ _) λb _=>bz b
   ·obtain⟨_,_,h3⟩:=h.now;rw[e2]at ha;rcases h3 with⟨_,h3⟩|⟨k2,o,cs,e4,e5,_⟩
    ·have h5:y.n*sz<=cur.n*sz:=bR _ e3;have h6:=h.now.2.1;have h7:cur.n*sz<=cur.c*sz:=bR _ h6;omega
    ·rw[e5]at ha;cases ha;rcases hb with hb|hb|⟨j,x,q1,q2,q3⟩
     ·cases hb
     ·exact(h.b.cg k2 e4).1 hb
     ·exact(h.b.cg k2 e4).2 j x q1 q2 q3
  ·exact⟨ys,g1,g2,λz hz=>hst.ch (g3 z hz) (Ch.refl _ _) λb _=>bz b,λa ha h0 hb=>g4 a ha h0 (bz _ hb)⟩
 ·rcases h.own k y (by omega) hk with⟨e1,e2,e3⟩|⟨ys,g1,g2,g3,g4⟩
  ·refine⟨xs.take y.n,?_,by rw[aU,h.len];omega,λz hz=>?_,λa ha h0 hb=>?_⟩
   ·have:=Rd.take h.now.rd e3;rw[nE hgl]at this;rw[e2];exact this
   ·rw[e1];exact hst.ch (h.curg z (List.mem_of_mem_take hz)) (Ch.refl _ _) λb _=>bz b
   ·obtain⟨_,_,h3⟩:=h.now;rw[e2]at ha;rcases h3 with⟨_,h3⟩|⟨k2,o,cs,e4,e5,_⟩
    ·have h5:y.n*sz<=cur.n*sz:=bR _ e3;have h6:=h.now.2.1;have h7:cur.n*sz<=cur.c*sz:=bR _ h6;omega
    ·rw[e5]at ha;cases ha;rcases hb with hb|hb|⟨j,x,q1,q2,q3⟩
     ·cases hb
     ·exact(h.b.cg k2 e4).1 hb
     ·exact(h.b.cg k2 e4).2 j x q1 q2 q3
  ·exact⟨ys,g1,g2,λz hz=>hst.ch (g3 z hz) (Ch.refl _ _) λb _=>bz b,λa ha h0 hb=>g4 a ha h0 (bz _ hb)⟩
theorem Gr.push{P:Program}{ET ty e te:TypeId}{bytes:Nat}{z:Value}(hT:P.underlying ET=some (.slice e))(hi:InfoIs P e sz bytes z)(hzs:z.cells.size=sz)(hst:Stays gO)(hgl:∀x,(g x).length=sz)(hone:∀x,∀v∈g x,nK v=true)(h0:0<sz)
 {w0 w:World} {T:List SL} {i:Nat} {cur:SL} {xs:List α} {gp:Option Addr} {gc:Nat} {gb:Option Nat} {G:List SL} {lab:Nat->Nat} (h:Gr g sz gO w0 w T i cur xs gp gc gb G lab) (x:α)
 (hx:∀w' B,Ch (λ_=>False) w w'->(∀b,B b->Busy T (i+1) cur.own gb b\/w.heap.size<b)->gO w' B i x) (hn:cur.n+1<=2^47) (hb:(cur.n+1)*bytes<=2^47) {K:Option Addr->Nat->Nat->World->Prop}
 (hk:∀cur' w',Gr g sz gO w0 w' T i cur' (xs++[x]) gp gc gb G lab->cur'.n=cur.n+1->K cur'.p cur'.n cur'.c w') :
 bP w (g x) te λa w2=>∃p5 n7 c5 w3,Sem.run P (Builtin.append_ #[ET,ET] ty #[.slice cur.p cur.n cur.c,.slice (some a) 1 1]) w2=.ok (.slice p5 n7 c5) w3/\K p5 n7 c5 w3:=by
 refine bD λw2 b2 c2 z2=>?_;have hrd:Rd w2 (some ⟨w.heap.size,0,none⟩) 1 sz (g x):=⟨by rw[hgl];omega,.inr ⟨_,0,_,rfl,gX b2,by rw[hgl];omega,by rw[bS,aY (by rw[hgl];omega)]⟩⟩;obtain⟨p',c',w',b',r1,r2,r3⟩:=aNh (ty:=ty) (c2:=1) hT hT hi hzs (h.now.ch c2 λ_ _=>id) hrd (hone x) hn hb;refine⟨p',_,c',w',r1,?_⟩;have hcurl:∀b,cur.own=some b->b<w.heap.size:=λb hb=>h.now.blt b hb;have hgbl:∀b,gb=some b->b<w.heap.size:=λb hb=>h.b.grown.blt b hb;have hrl:∀j y,T[j]?=some y->i+1<=j->∀b,y.own=some b->b<w.heap.size:=λj y hj hij b hb=>by
  obtain⟨ys,g1,_⟩:=h.b.rest j y hj hij;exact g1.blt b hb
 have hw0:=h.b.ch.size
 -- from w to w': only the block in hand
 have hch:Ch (λb=>cur.own=some b) w w':=by
  rcases r3 with⟨_,_,r3⟩|⟨_,_,r3⟩
  ·exact(c2.mono λ_ _ g=>g.elim).trans' r3
  ·exact(c2.trans' r3).mono λ_ _ g=>g.elim
 have hb':∀b,b'=some b->cur.own=some b\/w.heap.size<b:=λb hbb=>by
  rcases r3 with⟨e,_,_⟩|⟨e,_,_⟩
  ·rw[e]at hbb;exact .inl hbb
  ·rw[e]at hbb;cases hbb;exact .inr (by omega)
 have bz:∀b,b<w.heap.size->Busy T (i+1) b' gb b->Busy T (i+1) cur.own gb b:=λb hlt hbz=>by
  rcases hbz with q|q
  ·rcases hb' b q with q|q
   ·exact .inl q
   ·omega
  ·exact .inr q
 have bz2:∀b,Busy T (i+1) b' gb b->Busy T (i+1) cur.own gb b\/w.heap.size<b:=λb hbz=>by
  rcases hbz with q|q
  ·rcases hb' b q with q|q
   ·exact .inl (.inl q)
   ·exact .inr q
  ·exact .inl (.inr q)
 have hchB:Ch (Busy T (i+1) cur.own gb) w w':=hch.mono λb _ q=>.inl q;refine hk ⟨p',cur.n+1,c',b'⟩ w' ⟨⟨λj y hj hij=>?_,h.b.grown.ch hch λb hb q=>(h.b.cg b q).1 hb,λb hbb=>?_,h.b.gr,h.b.rr,λb hbz=>?_,h.b.gnew,h.b.place,h.b.small,h.b.ch.trans hch λb hlt q=>?_⟩,?_,by simp[h.len],λy hy=>?_,λk y hk'=>?_,λk y hki hk'=>?_⟩ rfl
 ·obtain⟨ys,g1,g2,g3⟩:=h.b.rest j y hj hij;exact⟨ys,g1.ch hch λb hb q=>(h.b.cg b q).2 j y hj hij hb,g2,λz hz=>hst.ch (g3 z hz) hchB bz⟩
 ·rcases hb' b hbb with q|q
  ·exact h.b.cg b q
  ·refine⟨λe=>?_,λj y hj hij e=>?_⟩
   ·have:=hgbl b e;omega
   ·have:=hrl j y hj hij b e;omega
 ·rcases bz2 b hbz with q|q
  ·exact h.b.loc b q
  ·exact .inr (by omega)
 ·rcases h.b.loc b (.inl q)with q|q
  ·exact q
  ·omega
 ·rw[List.flatMap_append,List.flatMap_singleton];exact r2
 ·rcases List.mem_append.1 hy with hy|hy
  ·exact hst.ch (h.curg y hy) hchB bz
  ·rw[List.mem_singleton.1 hy];have hG2:gO w2 (Busy T (i+1) cur.own gb) i x:=hx w2 _ c2 λb q=>.inl q;have hc2:Ch (Busy T (i+1) cur.own gb) w2 w':=by
    rcases r3 with⟨_,_,r3⟩|⟨_,_,r3⟩
    ·exact r3.mono λb _ q=>.inl q
    ·exact r3.mono λ_ _ g=>g.elim
   refine hst.ch (hx w2 (λb=>Busy T (i+1) cur.own gb b\/w.heap.size<b) c2 λb q=>q) (hc2.mono λb _ q=>.inl q) λb _ q=>bz2 b q
 ·rcases h.read k y hk' with⟨e1,e2,e3⟩|⟨ys,g1,g2,g3,g4⟩
  ·rcases r3 with⟨eb,ep,_⟩|⟨eb,ep,r3⟩
   ·exact .inl ⟨e1,e2.trans ep.symm,by show y.n<=cur.n+1;omega⟩
   ·refine .inr ⟨xs.take y.n,?_,by rw[aU,h.len];omega,λz hz=>?_,λa ha hn0 hbz=>?_⟩
    ·have:=Rd.take h.now.rd e3;rw[nE hgl]at this;rw[e2];exact this.ch (c2.trans' r3) λ_ _ _=>id
    ·rw[e1];exact hst.ch (h.curg z (List.mem_of_mem_take hz)) hchB bz
    ·obtain⟨_,q2,q3⟩:=h.now;rw[e2]at ha;rcases q3 with⟨_,q3⟩|⟨k2,o,cs,e4,e5,_⟩
     ·have h5:y.n*sz<=cur.n*sz:=bR _ e3;have h7:cur.n*sz<=cur.c*sz:=bR _ q2;omega
     ·rw[e5]at ha;cases ha;have hk2:=hcurl k2 e4;rcases hbz with q|q|⟨j,x',q1,q2',q3'⟩
      ·have q':w2.heap.size=k2:=bC (eb.symm.trans q);omega
      ·exact(h.b.cg k2 e4).1 q
      ·exact(h.b.cg k2 e4).2 j x' q1 q2' q3'
  ·refine .inr ⟨ys,g1.ch hch λa ha hn0 q=>g4 a ha hn0 (.inl q),g2,λz hz=>hst.ch (g3 z hz) hchB bz,λa ha hn0 hbz=>?_⟩;have hal:=g1.lt a ha hn0;exact g4 a ha hn0 (bz _ hal hbz)
 ·rcases h.own k y hki hk' with⟨e1,e2,e3⟩|⟨ys,g1,g2,g3,g4⟩
  ·rcases r3 with⟨eb,ep,_⟩|⟨eb,ep,r3⟩
   ·exact .inl ⟨e1,e2.trans ep.symm,by show y.n<=cur.n+1;omega⟩
   ·refine .inr ⟨xs.take y.n,?_,by rw[aU,h.len];omega,λz hz=>?_,λa ha hn0 hbz=>?_⟩
    ·have:=Rd.take h.now.rd e3;rw[nE hgl]at this;rw[e2];exact this.ch (c2.trans' r3) λ_ _ _=>id
    ·rw[e1];exact hst.ch (h.curg z (List.mem_of_mem_take hz)) hchB bz
    ·obtain⟨_,q2,q3⟩:=h.now;rw[e2]at ha;rcases q3 with⟨_,q3⟩|⟨k2,o,cs,e4,e5,_⟩
     ·have h5:y.n*sz<=cur.n*sz:=bR _ e3;have h7:cur.n*sz<=cur.c*sz:=bR _ q2;omega
     ·rw[e5]at ha;cases ha;have hk2:=hcurl k2 e4;rcases hbz with q|q|⟨j,x',q1,q2',q3'⟩
      ·have q':w2.heap.size=k2:=bC (eb.symm.trans q);omega
      ·exact(h.b.cg k2 e4).1 q
      ·exact(h.b.cg k2 e4).2 j x' q1 q2' q3'
  ·refine .inr ⟨ys,g1.ch hch λa ha hn0 q=>g4 a ha hn0 (.inl q),g2,λz hz=>hst.ch (g3 z hz) hchB bz,λa ha hn0 hbz=>?_⟩;have hal:=g1.lt a ha hn0;exact g4 a ha hn0 (bz _ hal hbz)
theorem Gr.keep{P:Program}{LT ty e te:TypeId}{bytes:Nat}{z:Value}(hT:P.underlying LT=some (.slice e))(hi:InfoIs P e 1 bytes z)(hzs:z.cells.size=1)(hst:Stays gO)
 {w0 w:World} {T:List SL} {i:Nat} {cur:SL} {xs:List α} {gp:Option Addr} {gc:Nat} {gb:Option Nat} {G:List SL} {lab:Nat->Nat} (h:Gr g sz gO w0 w T i cur xs gp gc gb G lab) (hlab:lab G.length=i) (hsm:cur.n<=2^60)
 (hn:G.length+1<=2^47) (hb:(G.length+1)*bytes<=2^47) {K:Option Addr->Nat->Nat->World->Prop}
 (hk:∀gp' gc' gb' w',Gr g sz gO w0 w' T i cur xs gp' gc' gb' (G++[cur]) lab->K gp' (G.length+1) gc' w') :
 bP w [.slice cur.p cur.n cur.c] te λa w2=>∃p5 n7 c5 w3,Sem.run P (Builtin.append_ #[LT,LT] ty #[.slice gp G.length gc,.slice (some a) 1 1]) w2=.ok (.slice p5 n7 c5) w3/\K p5 n7 c5 w3:=by
 have hcurl:∀b,cur.own=some b->b<w.heap.size:=λb hb=>h.now.blt b hb;have hrl:∀j y,T[j]?=some y->i+1<=j->∀b,y.own=some b->b<w.heap.size:=λj y hj hij b hb=>by
  obtain⟨ys,g1,_⟩:=h.b.rest j y hj hij;exact g1.blt b hb
 have hw0:=h.b.ch.size;refine aBx (g:=SL.cells) hT hi hzs SL.cells_len SL.cells_one h.b.grown cur hn hb λp' c' b' w' o' n' hch=>?_;have bz2:∀b,Busy T (i+1) cur.own b' b->Busy T (i+1) cur.own gb b\/w.heap.size<=b:=λb hbz=>by
  rcases hbz with q|q|q
  ·exact .inl (.inl q)
  ·rcases n' b q with q|q
   ·exact .inl (.inr (.inl q))
   ·exact .inr q
  ·exact .inl (.inr (.inr q))
 have bz:∀b,b<w.heap.size->Busy T (i+1) cur.own b' b->Busy T (i+1) cur.own gb b:=λb hlt hbz=>(bz2 b hbz).resolve_right (by omega);have hchB:Ch (Busy T (i+1) cur.own gb) w w':=hch.mono λb _ q=>.inr (.inl q);have e:(G++[cur]).length=G.length+1:=by simp
 rw[e]at o' ⊢;refine hk p' c' b' w' ⟨⟨λj y hj hij=>?_,by rw[e];exact o',λb hbb=>⟨λq=>?_,(h.b.cg b hbb).2⟩,λb hbb j y hj hij=>?_,h.b.rr,λb hbz=>?_,λb hbb=>?_,λk y hk'=>?_,λk y hk'=>?_,h.b.ch.trans hch λb hlt q=>?_⟩,h.now.ch hch λb hb q=>(h.b.cg b hb).1 q,h.len,λy hy=>hst.ch (h.curg y hy) hchB bz,λk y hk'=>?_,λk y hki hk'=>?_⟩
 ·obtain⟨ys,g1,g2,g3⟩:=h.b.rest j y hj hij;exact⟨ys,g1.ch hch λb hb q=>h.b.gr b q j y hj hij hb,g2,λz hz=>hst.ch (g3 z hz) hchB bz⟩
 ·rcases n' b q with q|q
  ·exact(h.b.cg b hbb).1 q
  ·have:=hcurl b hbb;omega
 ·rcases n' b hbb with q|q
  ·exact h.b.gr b q j y hj hij
  ·intro e;have:=hrl j y hj hij b e;omega
 ·rcases bz2 b hbz with q|q
  ·exact h.b.loc b q
  ·exact .inr (by omega)
 ·rcases n' b hbb with q|q
  ·exact h.b.gnew b q
  ·omega
 ·by_cases hkl:k<G.length
  ·rw[cK hkl]at hk';exact h.b.place k y hk'
  ·have hkl2:=(List.getElem?_eq_some_iff.1 hk').1;have hk3:k=G.length:=by simp at hkl2;omega
   subst hk3;rw[dV (aQ _),Nat.sub_self]at hk';have:y=cur:=(bC hk').symm;subst this;intro a ha hn0;obtain⟨_,q2,q3⟩:=h.now;rcases q3 with⟨_,q3⟩|⟨k2,o,cs,e4,e5,_⟩
   ·have h5:y.n*sz<=y.c*sz:=bR _ q2;omega
   ·rw[e5]at ha;cases ha;exact h.b.loc k2 (.inl e4)
 ·by_cases hkl:k<G.length
  ·rw[cK hkl]at hk';exact h.b.small k y hk'
  ·have hkl2:=(List.getElem?_eq_some_iff.1 hk').1;have hk3:k=G.length:=by simp at hkl2;omega
   subst hk3;rw[dV (aQ _),Nat.sub_self]at hk';have:y=cur:=(bC hk').symm;subst this;exact hsm
 ·have:=h.b.gnew b q;omega
 ·by_cases hkl:k<G.length
  ·rw[cK hkl]at hk';rcases h.read k y hk' with q|⟨ys,g1,g2,g3,g4⟩
   ·exact .inl q
   ·refine .inr ⟨ys,g1.ch hch λa ha hn0 q=>g4 a ha hn0 (.inr (.inl q)),g2,λz hz=>hst.ch (g3 z hz) hchB bz,λa ha hn0 hbz=>?_⟩;have hal:=g1.lt a ha hn0;exact g4 a ha hn0 (bz _ hal hbz)
  ·have hkl2:=(List.getElem?_eq_some_iff.1 hk').1;have hk3:k=G.length:=by simp at hkl2;omega
   subst hk3;rw[dV (aQ _),Nat.sub_self]at hk';have:y=cur:=(bC hk').symm;subst this;exact .inl ⟨hlab,rfl,aQ _⟩
 ·rcases h.own k y hki hk' with q|⟨ys,g1,g2,g3,g4⟩
  ·exact .inl q
  ·refine .inr ⟨ys,g1.ch hch λa ha hn0 q=>g4 a ha hn0 (.inr (.inl q)),g2,λz hz=>hst.ch (g3 z hz) hchB bz,λa ha hn0 hbz=>?_⟩;have hal:=g1.lt a ha hn0;exact g4 a ha hn0 (bz _ hal hbz)
theorem Gr.ch(hst:Stays gO){w0 w w':World}{T:List SL}{i:Nat}{cur:SL}{xs:List α}{gp:Option Addr}{gc:Nat}{gb:Option Nat}{G:List SL}{lab:Nat->Nat}(h:Gr g sz gO w0 w T i cur xs gp gc gb G lab)(c:Ch (λ_=>False) w w'):Gr g sz gO w0 w' T i cur xs gp gc gb G lab:=by
 have cB:Ch (Busy T (i+1) cur.own gb) w w':=c.mono λ_ _ q=>q.elim;refine⟨⟨λj y hj hij=>?_,h.b.grown.ch c λ_ _=>id,h.b.cg,h.b.gr,h.b.rr,h.b.loc,h.b.gnew,h.b.place,h.b.small,h.b.ch.new c⟩,h.now.ch c λ_ _=>id,h.len,λy hy=>hst.ch (h.curg y hy) cB λ_ _ q=>q,λk y hk=>?_,λk y hki hk=>?_⟩
 ·obtain⟨ys,g1,g2,g3⟩:=h.b.rest j y hj hij;exact⟨ys,g1.ch c λ_ _=>id,g2,λz hz=>hst.ch (g3 z hz) cB λ_ _ q=>q⟩
 ·rcases h.read k y hk with q|⟨ys,g1,g2,g3,g4⟩
  ·exact .inl q
  ·exact .inr ⟨ys,g1.ch c λ_ _ _=>id,g2,λz hz=>hst.ch (g3 z hz) cB λ_ _ q=>q,g4⟩
 ·rcases h.own k y hki hk with q|⟨ys,g1,g2,g3,g4⟩
  ·exact .inl q
  ·exact .inr ⟨ys,g1.ch c λ_ _ _=>id,g2,λz hz=>hst.ch (g3 z hz) cB λ_ _ q=>q,g4⟩
theorem Gs.ch(hst:Stays gO){w0 w w':World}{T:List SL}{i:Nat}{gp:Option Addr}{gc:Nat}{gb:Option Nat}{G:List SL}{lab:Nat->Nat}(h:Gs g sz gO w0 w T i gp gc gb G lab)(c:Ch (λ_=>False) w w'):Gs g sz gO w0 w' T i gp gc gb G lab:=by
 have cB:Ch (Busy T i none gb) w w':=c.mono λ_ _ q=>q.elim;refine⟨⟨λj y hj hij=>?_,h.b.grown.ch c λ_ _=>id,h.b.cg,h.b.gr,h.b.rr,h.b.loc,h.b.gnew,h.b.place,h.b.small,h.b.ch.new c⟩,λk y hk=>?_,λk y hki hk=>?_⟩
 ·obtain⟨ys,g1,g2,g3⟩:=h.b.rest j y hj hij;exact⟨ys,g1.ch c λ_ _=>id,g2,λz hz=>hst.ch (g3 z hz) cB λ_ _ q=>q⟩
 ·obtain⟨ys,g1,g2,g3,g4⟩:=h.read k y hk;exact⟨ys,g1.ch c λ_ _ _=>id,g2,λz hz=>hst.ch (g3 z hz) cB λ_ _ q=>q,g4⟩
 ·obtain⟨ys,g1,g2,g3,g4⟩:=h.own k y hki hk;exact⟨ys,g1.ch c λ_ _ _=>id,g2,λz hz=>hst.ch (g3 z hz) cB λ_ _ q=>q,g4⟩
end
def Rws{α:Type}(g:α->List Value)(sz:Nat)(w:World)(T:List SL)(C:Nat->List α):Prop:=∀j x,T[j]?=some x->Ow w x.p x.n x.c sz ((C j).flatMap g) x.own/\(C j).length=x.n
theorem Rws.ch{α:Type}{g:α->List Value}{sz:Nat}{S:Nat->Prop}{w w':World}{T:List SL}{C:Nat->List α}(h:Rws g sz w T C)(c:Ch S w w')(hn:∀x∈T,∀b,x.own=some b->¬S b):Rws g sz w' T C :=
 λj x hx=>⟨(h j x hx).1.ch c λb hb=>hn x (bJ hx) b hb,(h j x hx).2⟩
theorem Rws.st{α:Type}{g:α->List Value}{sz:Nat}(hg:∀x,(g x).length=sz){w:World}{T:List SL}{C:Nat->List α}(h:Rws g sz w T C)(hd:∀(j k:Nat) (x y:SL) (b:Nat),j≠k->T[j]?=some x->T[k]?=some y->x.own=some b->y.own≠some b)
 {i:Nat} {x:SL} (hx:T[i]?=some x) {k:Nat} {y:α} (hy:(C i)[k]?=some y) (h0:0<sz) :
 ∃kb o,x.p=some ⟨kb,o,none⟩/\x.own=some kb/\∀(j q:Nat) (v:Value) (y':α) (K:World->Prop),j<sz->q=o+(k*sz+j)->g y'=(g y).set j v ->
  (∀w',Rws g sz w' T (λm=>if m=i then(C i).set k y' else C m)->Ch (·=kb) w w'->w'.heap.size=w.heap.size->K w')->Sv.st w ⟨kb,q,none⟩ v K:=by
 obtain⟨ho,hl⟩:=h i x hx;have hk:k<x.n:=by have:=(List.getElem?_eq_some_iff.1 hy).1;omega
 have hmul:(k+1)*sz<=x.n*sz:=bR _ hk;rw[Nat.add_mul]at hmul;obtain⟨kb,o,hp,hb,_⟩:=ho.st (i:=k*sz+0) (by omega);refine⟨kb,o,hp,hb,λj q v y' K hj hq he hK=>?_⟩;obtain⟨kb',o',hp',_,hst⟩:=ho.st (i:=k*sz+j) (by omega);rw[hp]at hp';cases hp';subst hq;refine hst v K λw' ho' hc hz=>hK w' (λm z hz'=>?_) hc hz;by_cases hm:m=i
 ·subst hm;rw[hx]at hz';have:z=x:=(bC hz').symm;subst this;simp only[_root_.if_pos];refine⟨?_,by simpa using hl⟩;rw[aEg hg (C m) k j v hy hj he]at ho';exact ho'
 ·simp only[aD hm];obtain⟨q1,q2⟩:=h m z hz';exact⟨q1.ch hc λb hb' e=>hd i m x z kb (λe=>hm e.symm) hx hz' hb (by rw[<-e];exact hb'),q2⟩
structure El(α:Type) where
 g:α->List Value
 sz:Nat
 B:α->List Nat
 Ok:World->α->Prop
 glen:∀x,(g x).length=sz
 gone:∀x,∀v∈g x,nK v=true
 ch:∀ {S:Nat->Prop} {w w':World} {x:α},Ok w x->Ch S w w'->(∀b∈B x,¬S b)->Ok w' x
 lt:∀ {w:World} {x:α},Ok w x->∀b∈B x,b<w.heap.size
 nd:∀ {w:World} {x:α},Ok w x->(B x).Nodup
section
variable {α:Type} (E:El α)
def El.rowB(own:Option Nat)(R:List α):List Nat:=own.toList++R.flatMap E.B
def El.Row(w:World)(p:Option Addr)(n c:Nat)(own:Option Nat)(R:List α):Prop :=
 R.length=n/\Ow w p n c E.sz (R.flatMap E.g) own/\(∀x∈R,E.Ok w x)/\(E.rowB own R).Nodup
variable {E}
theorem El.mem_rowB{own:Option Nat}{R:List α}{b:Nat}:b∈E.rowB own R↔own=some b\/∃x∈R,b∈E.B x:=by
 simp[El.rowB,Option.mem_toList]
theorem El.Row.ch{S:Nat->Prop}{w w':World}{p:Option Addr}{n c:Nat}{own:Option Nat}{R:List α}(h:E.Row w p n c own R)(hc:Ch S w w')(hn:∀b∈E.rowB own R,¬S b):E.Row w' p n c own R :=
 ⟨h.1,h.2.1.ch hc λb hb=>hn b (El.mem_rowB.2 (.inl hb)),λx hx=>E.ch (h.2.2.1 x hx) hc λb hb=>hn b (El.mem_rowB.2 (.inr ⟨x,hx,hb⟩)),h.2.2.2⟩
theorem El.Row.lt{w:World}{p:Option Addr}{n c:Nat}{own:Option Nat}{R:List α}(h:E.Row w p n c own R):∀b∈E.rowB own R,b<w.heap.size:=λb hb=>by
 rcases El.mem_rowB.1 hb with hb|⟨x,hx,hb⟩
 ·exact h.2.1.blt b hb
 ·exact E.lt (h.2.2.1 x hx) b hb
theorem El.Row.nil{w:World}:E.Row w none 0 0 none []:=⟨rfl,by simpa using Ow.nil,by simp,by simp[El.rowB]⟩
theorem El.Row.push{P:Program}{T ty e te:TypeId}{bytes:Nat}{z:Value}(hT:P.underlying T=some (.slice e))(hi:InfoIs P e E.sz bytes z)(hzs:z.cells.size=E.sz)
 {w:World} {p:Option Addr} {n c:Nat} {own:Option Nat} {R:List α} (h:E.Row w p n c own R) {x:α} (hx:E.Ok w x) (hd:∀b∈E.B x,b ∉ E.rowB own R) (h1:n+1<=2^47) (h2:(n+1)*bytes<=2^47)
 {K:Option Addr->Nat->Nat->World->Prop}
 (hk:∀p' c' own' w',E.Row w' p' (n+1) c' own' (R++[x])->(∀b∈E.rowB own' (R++[x]),b∈E.rowB own R\/b∈E.B x\/w.heap.size<=b)->Ch (λb=>own=some b) w w'->K p' (n+1) c' w') :
 bP w (E.g x) te λa w2=>∃p5 n7 c5 w3,Sem.run P (Builtin.append_ #[T,T] ty #[.slice p n c,.slice (some a) 1 1]) w2=.ok (.slice p5 n7 c5) w3/\K p5 n7 c5 w3:=by
 obtain⟨hl,ho,hr,hnd⟩:=h;subst hl;refine aBx (g:=E.g) hT hi hzs E.glen E.gone ho x h1 h2 λp' c' own' w' o' n' hch=>?_;have e:(R++[x]).length=R.length+1:=by simp
 rw[e]at o' ⊢;have hxl:∀b∈E.B x,b<w.heap.size:=E.lt hx;have hRl:∀y∈R,∀b∈E.B y,b<w.heap.size:=λy hy=>E.lt (hr y hy);have hnd2:∀y∈R,∀b∈E.B y,own≠some b:=λy hy b hb he=>by
  subst he;have:=(List.nodup_cons.1 (show(b::R.flatMap E.B).Nodup by simpa[El.rowB]using hnd)).1;exact this (List.mem_flatMap.2 ⟨y,hy,hb⟩)
 refine hk p' c' own' w' ⟨e,o',λy hy=>?_,?_⟩ (λb hb=>?_) hch
 ·rcases List.mem_append.1 hy with hy|hy
  ·exact E.ch (hr y hy) hch λb hb he=>hnd2 y hy b hb he
  ·rw[List.mem_singleton.1 hy];exact E.ch hx hch λb hb he=>hd b hb (El.mem_rowB.2 (.inl he))
 ·have base:((R++[x]).flatMap E.B).Nodup:=by
   rw[List.flatMap_append,List.flatMap_singleton];refine List.nodup_append.2 ⟨?_,E.nd hx,λa ha b hb he=>?_⟩
   ·have:(own.toList++R.flatMap E.B).Nodup:=hnd;exact(List.nodup_append.1 this).2.1
   ·subst he;obtain⟨y,hy,hy2⟩:=List.mem_flatMap.1 ha;exact hd a hb (El.mem_rowB.2 (.inr ⟨y,hy,hy2⟩))
  unfold El.rowB;cases own' with
  | none=>simpa using base
  | some k =>
   refine List.nodup_cons.2 ⟨λhm=>?_,base⟩;obtain⟨y,hy,hy2⟩:=List.mem_flatMap.1 hm;rcases n' k rfl with q|q
   ·rcases List.mem_append.1 hy with hy|hy
    ·exact hnd2 y hy k hy2 q
    ·rw[List.mem_singleton.1 hy]at hy2;exact hd k hy2 (El.mem_rowB.2 (.inl q))
   ·rcases List.mem_append.1 hy with hy|hy
    ·have:=hRl y hy k hy2;omega
    ·rw[List.mem_singleton.1 hy]at hy2;have:=hxl k hy2;omega
 ·rcases El.mem_rowB.1 hb with hb|⟨y,hy,hb⟩
  ·rcases n' b hb with q|q
   ·exact .inl (El.mem_rowB.2 (.inl q))
   ·exact .inr (.inr q)
  ·rcases List.mem_append.1 hy with hy|hy
   ·exact .inl (El.mem_rowB.2 (.inr ⟨y,hy,hb⟩))
   ·rw[List.mem_singleton.1 hy]at hb;exact .inr (.inl hb)
end
structure Rc where
 s:SL
 l:List UInt8
structure Bt where
 s:SL
 r:List Rc
def Bt.says(x:Bt):List (List UInt8):=x.r.map (·.l)
end Go.Sv
namespace Go.Note
open Go
abbrev Bs:=List UInt8
def uI(l:Bs)(i a b:Nat):Bool :=
 match l[i]? with
 | some x=>decide (a<=x.toNat) && decide (x.toNat<=b)
 | none=>false
def chr(l:Bs):Nat :=
 if uI l 0 0 127 then 1
 else if uI l 0 194 223 && uI l 1 128 191 then 2
 else if uI l 0 224 224 && uI l 1 160 191 && uI l 2 128 191 || uI l 0 225 236 && uI l 1 128 191 && uI l 2 128 191 || uI l 0 237 237 && uI l 1 128 159 && uI l 2 128 191 || uI l 0 238 239 && uI l 1 128 191 && uI l 2 128 191 then 3
 else if uI l 0 240 240 && uI l 1 144 191 && uI l 2 128 191 && uI l 3 128 191 || uI l 0 241 243 && uI l 1 128 191 && uI l 2 128 191 && uI l 3 128 191 || uI l 0 244 244 && uI l 1 128 143 && uI l 2 128 191 && uI l 3 128 191 then 4
 else 0
theorem aN9(l:Bs)(i a b:Nat):uI l i a b=true↔∃x,l[i]?=some x/\a<=x.toNat/\x.toNat<=b:=by
 unfold uI;cases l[i]?<;>simp
theorem rP(l:Bs):chr l<=l.length/\chr l<=4:=by
 have lt:∀i a b,uI l i a b=true->i<l.length:=λi a b h=>by
  obtain⟨x,hx,_⟩:=(aN9 l i a b).1 h;exact(List.getElem?_eq_some_iff.1 hx).1
 unfold chr;split
 ·have:=lt _ _ _ (by assumption);omega
 ·split
  ·rename_i h;simp only[bH]at h;have:=lt _ _ _ h.2;omega
  ·split
   ·rename_i h;simp only[Bool.or_eq_true,bH]at h;have:2<l.length:=by
     rcases h with((h|h)|h)|h<;>exact lt _ _ _ h.2
    omega
   ·split
    ·rename_i h;simp only[Bool.or_eq_true,bH]at h;have:3<l.length:=by
      rcases h with(h|h)|h<;>exact lt _ _ _ h.2
     omega
    ·omega
def aNk(l:Bs)(r n:Nat):Prop :=
 n=chr l/\Lib.encodeRune r=l.take n/\(r<55296\/57343<r)/\r<=1114111 /\
 ((n=1/\r<128/\l.head?.map (·.toNat)=some r)\/(n=2/\128<=r/\r<=2047/\∃a b t,l=a::b::t/\r=(a.toNat-192)*64+(b.toNat-128)/\194<=a.toNat/\a.toNat<=223/\128<=b.toNat/\b.toNat<=191)\/(n=3/\2048<=r/\r<=65535)\/(n=4/\65536<=r))
theorem aSy{s:ByteArray}{i k:Nat}{x:UInt8}(h:(s.data.toList.drop i)[k]?=some x):s.get! (i+k)=x/\i+k<s.size:=by
 rw[cU]at h;have hlt:i+k<s.data.toList.length:=(List.getElem?_eq_some_iff.1 h).1;have hlt':i+k<s.data.size:=by simpa using hlt
 refine⟨?_,hlt'⟩;rw[aK hlt]at h;have:s.data.toList[i+k]=s.data[i+k]:=by simp
 rw[this]at h;simp only[ByteArray.get!];rw[getElem!_pos s.data (i+k) hlt'];exact bC h
theorem aSx{s:ByteArray}{i k:Nat}(h:(s.data.toList.drop i)[k]?=none):¬i+k<s.size:=by
 rw[cU,List.getElem?_eq_none_iff]at h;have:s.data.toList.length=s.size:=by simp
 omega
theorem aHp{x:Int}{a:UInt8}(h:x=(a.toNat:Int)):x.toNat.toUInt8=a:=by
 subst h;simp
theorem aGx{α:Type}{p q:Prop}[Decidable p][Decidable q]{x x' y y':α}(h:p↔q)(hx:q->x=x')(hy:¬q->y=y'):(if p then x else y)=if q then x' else y':=by
 by_cases hp:p
 ·rw[aF hp,aF (h.1 hp)];exact hx (h.1 hp)
 ·rw[aD hp,aD (λhq=>hp (h.2 hq))];exact hy λhq=>hp (h.2 hq)
def ch(l:Bs)(k:Nat):Nat:=match l[k]? with|some x=>x.toNat|none=>256
theorem aB2{l:Bs}{k:Nat}{x:UInt8}(h:l[k]?=some x):ch l k=x.toNat:=by simp[ch,h]
theorem mO(l:Bs)(k a b:Nat)(hb:b<256):uI l k a b=(decide (a<=ch l k) && decide (ch l k<=b)):=by
 unfold uI ch;cases l[k]? with
 | some x=>rfl
 | none=>simp;omega
theorem lP(l:Bs):chr l =
 if ch l 0<=127 then 1
 else if 194<=ch l 0/\ch l 0<=223/\128<=ch l 1/\ch l 1<=191 then 2
 else if(ch l 0=224/\160<=ch l 1/\ch l 1<=191\/225<=ch l 0/\ch l 0<=236/\128<=ch l 1/\ch l 1<=191\/ch l 0=237/\128<=ch l 1/\ch l 1<=159\/238<=ch l 0/\ch l 0<=239/\128<=ch l 1/\ch l 1<=191)/\128<=ch l 2/\ch l 2<=191 then 3
 else if(ch l 0=240/\144<=ch l 1/\ch l 1<=191\/241<=ch l 0/\ch l 0<=243/\128<=ch l 1/\ch l 1<=191\/ch l 0=244/\128<=ch l 1/\ch l 1<=143)/\128<=ch l 2/\ch l 2<=191/\128<=ch l 3/\ch l 3<=191 then 4
 else 0:=by
 unfold chr;simp only[mO l _ _ _ (show 127<256 by omega),mO l _ _ _ (show 223<256 by omega),mO l _ _ _ (show 191<256 by omega),mO l _ _ _ (show 224<256 by omega),mO l _ _ _ (show 236<256 by omega),mO l _ _ _ (show 237<256 by omega),mO l _ _ _ (show 239<256 by omega),mO l _ _ _ (show 240<256 by omega),mO l _ _ _ (show 243<256 by omega),mO l _ _ _ (show 244<256 by omega),mO l _ _ _ (show 159<256 by omega),mO l _ _ _ (show 143<256 by omega)];simp only[bH,Bool.or_eq_true,bA,bQ,true_and];generalize ch l 0=a;generalize ch l 1=b;generalize ch l 2=c;generalize ch l 3=d;have cg:∀ {p q:Prop} [Decidable p] [Decidable q] {x y y':Nat},(p↔q)->y=y'->(if p then x else y)=if q then x else y':=by
  intro p q _ _ x y y' h hy;subst hy;by_cases hp:p
  ·rw[aF hp,aF (h.1 hp)]
  ·rw[aD hp,aD (λhq=>hp (h.2 hq))]
 exact cg (by omega) (cg (by omega) (cg (by omega) (cg (by omega) rfl)))
theorem aHa{s:ByteArray}{i:Nat}(hi:i<s.size){l:Bs}(hl:l=s.data.toList.drop i):Utf8.decode s i =
 if ch l 0<128 then(ch l 0,1)
 else if ch l 0 / 32=6/\ch l 1 / 64=2 then
  if(ch l 0%32)*64+ch l 1%64>=128 then((ch l 0%32)*64+ch l 1%64,2)else(65533,1)
 else if ch l 0 / 16=14/\ch l 1 / 64=2/\ch l 2 / 64=2 then
  if(ch l 0%16)*4096+(ch l 1%64)*64+ch l 2%64>=2048/\((ch l 0%16)*4096+(ch l 1%64)*64+ch l 2%64<55296\/57343<(ch l 0%16)*4096+(ch l 1%64)*64+ch l 2%64)then((ch l 0%16)*4096+(ch l 1%64)*64+ch l 2%64,3)else(65533,1)
 else if ch l 0 / 8=30/\ch l 1 / 64=2/\ch l 2 / 64=2/\ch l 3 / 64=2 then
  if(ch l 0%8)*262144+(ch l 1%64)*4096+(ch l 2%64)*64+ch l 3%64>=65536/\(ch l 0%8)*262144+(ch l 1%64)*4096+(ch l 2%64)*64+ch l 3%64<=1114111 then((ch l 0%8)*262144+(ch l 1%64)*4096+(ch l 2%64)*64+ch l 3%64,4)else(65533,1)
 else(65533,1):=by
 have h0:(s.get! (i+0)).toNat=ch l 0:=by
  have:∃a,(s.data.toList.drop i)[0]?=some a:=by
   rw[cU];have:i+0<s.data.toList.length:=by simpa using hi
   exact⟨_,aK this⟩
  obtain⟨a,ha⟩:=this;rw[hl,aB2 ha,(aSy ha).1]
 have hk:∀k,(decide (i+k<s.size) && (s.get! (i+k)).toNat / 64 == 2)=decide (ch l k / 64=2)/\(ch l k / 64=2->(s.get! (i+k)).toNat=ch l k):=by
  intro k;cases h:(s.data.toList.drop i)[k]? with
  | some x =>
   obtain⟨e1,e2⟩:=aSy h;rw[hl,aB2 h,e1];refine⟨?_,λ_=>rfl⟩;simp[e2,beq_iff_eq];rfl
  | none =>
   have:=aSx h;have e:ch l k=256:=by rw[hl];simp[ch,h]
   rw[e];simp[this]
 have g1:=(hk 1).2;have g2:=(hk 2).2;have g3:=(hk 3).2;unfold Utf8.decode;simp only[h0,(hk _).1,Utf8.runeError,Utf8.valid];generalize (s.get! (i+1)).toNat=x1 at g1 ⊢;generalize (s.get! (i+2)).toNat=x2 at g2 ⊢;generalize (s.get! (i+3)).toNat=x3 at g3 ⊢;generalize ch l 0=a;generalize ch l 1=b at g1 ⊢;generalize ch l 2=c at g2 ⊢;generalize ch l 3=d at g3 ⊢;refine aGx Iff.rfl (λ_=>rfl) λ_=>?_;refine aGx (by simp) (λh=>?_) λ_=>?_
 ·rw[g1 h.2]
 refine aGx (by simp[and_assoc]) (λh=>?_) λ_=>?_
 ·rw[g1 h.2.1,g2 h.2.2];refine aGx ?_ (λ_=>rfl) λ_=>rfl;simp;omega
 refine aGx (by simp[and_assoc]) (λh=>?_) λ_=>rfl;rw[g1 h.2.1,g2 h.2.2.1,g3 h.2.2.2];refine aGx ?_ (λ_=>rfl) λ_=>rfl;simp;omega
theorem tT{s:ByteArray}{i:Nat}(hi:i<s.size):(chr (s.data.toList.drop i)=0/\Utf8.decode s i=(65533,1))\/∃r n,Utf8.decode s i=(r,n)/\aNk (s.data.toList.drop i) r n/\n≠0:=by
 obtain⟨l,hl⟩:∃l,l=s.data.toList.drop i:=⟨_,rfl⟩;rw[aHa hi hl,<-hl];have hc:=lP l;have hx:∀k,ch l k<256->∃x,l[k]?=some x/\ch l k=x.toNat:=by
  intro k h;unfold ch at h ⊢;cases hk:l[k]? with
  | some x=>exact⟨x,rfl,rfl⟩
  | none=>rw[hk]at h;simp at h
 have tk:∀(k:Nat) (x:UInt8),l[k]?=some x->l.take (k+1)=l.take k++[x]:=by
  intro k x h;rw[kG,h];rfl
 clear hl;have z0:ch l 0<=256:=by
  unfold ch;split
  ·have:=(by assumption:UInt8).toNat_lt;omega
  ·omega
 by_cases c1:ch l 0<=127
 ·rw[aF c1]at hc;rw[aF];obtain⟨x,h0,e0⟩:=hx 0 (by omega);refine .inr ⟨_,_,rfl,⟨hc.symm,?_,by omega,by omega,.inl ⟨rfl,by omega,?_⟩⟩,by omega⟩
  ·rw[tk 0 x h0,e0];unfold Lib.encodeRune;rw[Lib.encodeRuneZ_one (by omega) (by omega)];simp
  ·rw[e0,List.head?_eq_getElem?,h0];rfl
 rw[aD c1]at hc;rw[aD];by_cases c2:194<=ch l 0/\ch l 0<=223/\128<=ch l 1/\ch l 1<=191
 ·rw[aF c2]at hc;rw[aF,aF];obtain⟨x,h0,e0⟩:=hx 0 (by omega);obtain⟨y,h1,e1⟩:=hx 1 (by omega);refine .inr ⟨_,_,rfl,⟨hc.symm,?_,by omega,by omega,.inr (.inl ⟨rfl,by omega,by omega,?_⟩)⟩,by omega⟩
  ·rw[tk 1 y h1,tk 0 x h0,e0,e1];rw[e0,e1]at c2;unfold Lib.encodeRune;rw[Lib.encodeRuneZ_two (by omega) (by omega)];simp only[List.map_cons,List.map_nil,List.take_zero,aX,aO];rw[aHp (a:=x) (by omega),aHp (a:=y) (by omega)]
  ·rw[e0,e1]at c2 ⊢;have:l=x::y::l.drop 2:=by
    rw[<-List.take_append_drop 2 l];rw[tk 1 y h1,tk 0 x h0];simp
   exact⟨x,y,l.drop 2,this,by omega,by omega,by omega,by omega,by omega⟩
 rw[aD c2]at hc;by_cases c3:(ch l 0=224/\160<=ch l 1/\ch l 1<=191\/225<=ch l 0/\ch l 0<=236/\128<=ch l 1/\ch l 1<=191\/ch l 0=237/\128<=ch l 1/\ch l 1<=159\/238<=ch l 0/\ch l 0<=239/\128<=ch l 1/\ch l 1<=191)/\128<=ch l 2/\ch l 2<=191
 ·rw[aF c3]at hc;rw[aD,aF,aF];obtain⟨x,h0,e0⟩:=hx 0 (by omega);obtain⟨y,h1,e1⟩:=hx 1 (by omega);obtain⟨z,h2,e2⟩:=hx 2 (by omega);rw[e0,e1,e2]at c3;refine .inr ⟨_,_,rfl,⟨hc.symm,?_,by omega,by omega,.inr (.inr (.inl ⟨rfl,by omega,by omega⟩))⟩,by omega⟩;rw[tk 2 z h2,tk 1 y h1,tk 0 x h0,e0,e1,e2];unfold Lib.encodeRune;rw[Lib.encodeRuneZ_three (by omega)];simp only[List.map_cons,List.map_nil,List.take_zero,aX,aO];rw[aHp (a:=x) (by omega),aHp (a:=y) (by omega),aHp (a:=z) (by omega)]
 rw[aD c3]at hc;by_cases c4:(ch l 0=240/\144<=ch l 1/\ch l 1<=191\/241<=ch l 0/\ch l 0<=243/\128<=ch l 1/\ch l 1<=191\/ch l 0=244/\128<=ch l 1/\ch l 1<=143)/\128<=ch l 2/\ch l 2<=191/\128<=ch l 3/\ch l 3<=191
 ·rw[aF c4]at hc;rw[aD,aD,aF,aF];obtain⟨x,h0,e0⟩:=hx 0 (by omega);obtain⟨y,h1,e1⟩:=hx 1 (by omega);obtain⟨z,h2,e2⟩:=hx 2 (by omega);obtain⟨u,h3,e3⟩:=hx 3 (by omega);rw[e0,e1,e2,e3]at c4;refine .inr ⟨_,_,rfl,⟨hc.symm,?_,by omega,by omega,.inr (.inr (.inr ⟨rfl,by omega⟩))⟩,by omega⟩;rw[tk 3 u h3,tk 2 z h2,tk 1 y h1,tk 0 x h0,e0,e1,e2,e3];unfold Lib.encodeRune;rw[Lib.encodeRuneZ_four (by omega) (by omega)];simp only[List.map_cons,List.map_nil,List.take_zero,aX,aO];rw[aHp (a:=x) (by omega),aHp (a:=y) (by omega),aHp (a:=z) (by omega),aHp (a:=u) (by omega)]
 rw[aD c4]at hc;refine .inl ⟨hc,?_⟩;by_cases d2:ch l 0 / 32=6/\ch l 1 / 64=2
 ·rw[aF d2,aD]
 rw[aD d2];by_cases d3:ch l 0 / 16=14/\ch l 1 / 64=2/\ch l 2 / 64=2
 ·rw[aF d3,aD]
 rw[aD d3];by_cases d4:ch l 0 / 8=30/\ch l 1 / 64=2/\ch l 2 / 64=2/\ch l 3 / 64=2
 ·rw[aF d4,aD]
 rw[aD d4]
def kW(n:Nat):UInt8:=if n<10 then(48+n).toUInt8 else(87+n).toUInt8
def xY:Bs->Bs
 | []=>[]
 | x::l=>92::120::kW (x.toNat / 16)::kW (x.toNat%16)::xY l
def oT(p:Bs):Bool :=
 match p with
 | []=>false
 | [x]=>decide (32<=x.toNat) && decide (x.toNat<=126)
 | [x,y]=>decide (194<x.toNat) || decide (160<=y.toNat)
 | _=>true
def fK(p:Bs):Bs :=
 if p=[34]\/p=[92]then 92::p
 else if p=[10]then[92,110]
 else if oT p then p
 else xY p
def wide(l:Bs):Nat:=max 1 (chr l)
def aCs:Nat->Bs->Bs
 | 0,_=>[]
 | f+1,l=>if l=[]then[]else fK (l.take (wide l))++aCs f (l.drop (wide l))
def cA(l:Bs):Bs:=34::aCs l.length l++[34]
theorem nH(l:Bs):1<=wide l:=by unfold wide;omega
theorem aBr(l:Bs)(h:l≠[]):wide l<=l.length/\wide l<=4:=by
 have:=rP l;have:0<l.length:=List.length_pos_iff.2 h;unfold wide;omega
theorem aCr:∀(f g:Nat) (l:Bs),l.length<=f->l.length<=g->aCs f l=aCs g l
 | 0,0,l,_,_=>rfl
 | 0,g+1,l,h,_=>by
  have:l=[]:=bI (by omega);subst this;rfl
 | f+1,0,l,_,h=>by
  have:l=[]:=bI (by omega);subst this;rfl
 | f+1,g+1,l,h1,h2=>by
  unfold aCs;split
  ·rfl
  ·rename_i h;have:=nH l;have:0<l.length:=List.length_pos_iff.2 h;rw[aCr f g _ (by rw[aN];omega) (by rw[aN];omega)]
def qb(l:Bs):Bs:=aCs l.length l
theorem aCt:qb []=[]:=rfl
theorem aBw(l:Bs)(h:l≠[]):qb l=fK (l.take (wide l))++qb (l.drop (wide l)):=by
 have hp:0<l.length:=List.length_pos_iff.2 h;have hw:=nH l;unfold qb;obtain⟨n,hn⟩:∃n,l.length=n+1:=⟨l.length-1,by omega⟩;rw[hn]
 conv=>lhs;unfold aCs
 rw[aD h];rw[aCr n _ _ (by rw[aN];omega) (aQ _)]
theorem aOj(l:Bs):(xY l).length=4*l.length:=by
 induction l with
 | nil=>rfl
 | cons x l ih=>simp only[xY,aI,ih];omega
theorem aCq(p:Bs):(fK p).length<=4*p.length+2/\(p≠[]->(fK p).length<=4*p.length):=by
 have h1:0<p.length\/p=[]:=by cases p<;>simp
 unfold fK;split
 ·rename_i h;simp only[aI];rcases h with h|h<;>subst h<;>simp
 ·split
  ·rename_i h;subst h;simp
  ·split
   ·omega
   ·rw[aOj];omega
theorem aRr:∀(n:Nat) (l:Bs),l.length<=n->(qb l).length<=4*l.length
 | 0,l,h=>by
  have:l=[]:=bI (by omega);subst this;simp[aCt]
 | n+1,l,h=>by
  by_cases hl:l=[]
  ·subst hl;simp[aCt]
  ·have hp:0<l.length:=List.length_pos_iff.2 hl;have hw:=nH l;have hw2:=(aBr l hl).1;rw[aBw l hl,aG];have h1:=aRr n (l.drop (wide l)) (by rw[aN];omega);have h2:=(aCq (l.take (wide l))).2 (by
    intro e;have:=congrArg List.length e;rw[aU]at this;simp only[bN]at this;omega)
   rw[aN]at h1;rw[aU]at h2;omega
theorem aJ6{l:Bs}{r n:Nat}(hl:l≠[])(h:(chr l=0/\r=65533/\n=1)\/(aNk l r n/\n≠0)) :
 wide l=n /\
 (((r=34\/r=92)/\fK (l.take n)=92::l.take n/\Lib.encodeRune r=l.take n) \/
  (r=10/\fK (l.take n)=[92,110]) \/
  (r≠34/\r≠92/\r≠10/\((32<=r/\r<=126)\/(160<=r/\1<n))/\fK (l.take n)=l.take n/\Lib.encodeRune r=l.take n/\r<=1114111/\(r<55296\/57343<r)) \/
  (r≠34/\r≠92/\r≠10/\¬((32<=r/\r<=126)\/(160<=r/\1<n))/\fK (l.take n)=xY (l.take n))):=by
 rcases h with⟨h1,rfl,rfl⟩|⟨⟨h1,h2,h3,h4,h5⟩,h6⟩
 ·refine⟨by unfold wide;omega,.inr (.inr (.inr ⟨by omega,by omega,by omega,by omega,?_⟩))⟩;obtain⟨x,t,rfl⟩:=List.exists_cons_of_ne_nil hl;have hx:127<x.toNat:=by
   rw[lP]at h1;have e:ch (x::t) 0=x.toNat:=by simp[ch]
   rw[e]at h1;by_cases hle:x.toNat<=127
   ·rw[aF hle]at h1;cases h1
   ·omega
  have e:List.take 1 (x::t)=[x]:=by simp
  rw[e];have n34:x≠34:=λh=>by subst h;exact absurd hx (by decide)
  have n92:x≠92:=λh=>by subst h;exact absurd hx (by decide)
  have n10:x≠10:=λh=>by subst h;exact absurd hx (by decide)
  unfold fK;rw[aD (by simp[n34,n92]),aD (by simp[n10]),aD (by simp[oT];omega)]
 ·refine⟨by unfold wide;omega,?_⟩;have hcl:=rP l;rcases h5 with⟨rfl,hr,hh⟩|⟨rfl,hr1,hr2,a,b,t,rfl,e,ha1,ha2,hb1,hb2⟩|⟨rfl,hr1,hr2⟩|⟨rfl,hr1⟩
  ·obtain⟨x,t,rfl⟩:=List.exists_cons_of_ne_nil hl;have hx:x.toNat=r:=by simpa using hh
   have e:List.take 1 (x::t)=[x]:=by simp
   rw[e]at h2 ⊢;have xe:∀k:Nat,k<256->(r=k↔x=k.toUInt8):=λk hk=>by
    rw[<-UInt8.toNat_inj];simp only[Nat.toUInt8,UInt8.toNat_ofNat'];omega
   have x34:=xe 34 (by omega);have x92:=xe 92 (by omega);have x10:=xe 10 (by omega);by_cases c1:r=34\/r=92
   ·refine .inl ⟨c1,?_,h2⟩;unfold fK;rw[aF (c1.imp (λc=>by rw[x34.1 c];rfl) λc=>by rw[x92.1 c];rfl)]
   have q1:¬([x]=[34]\/[x]=[92]):=by
    rintro(h|h)
    ·exact c1 (.inl (x34.2 (by simpa using h)))
    ·exact c1 (.inr (x92.2 (by simpa using h)))
   by_cases c2:r=10
   ·refine .inr (.inl ⟨c2,?_⟩);unfold fK;rw[aD q1,aF (by rw[x10.1 c2];rfl)]
   have q2:¬([x]=[10]):=λh=>c2 (x10.2 (by simpa using h));by_cases c3:32<=r/\r<=126
   ·refine .inr (.inr (.inl ⟨by omega,by omega,c2,.inl c3,?_,h2,h4,h3⟩));unfold fK;rw[aD q1,aD q2,aF (by simp[oT];omega)]
   ·refine .inr (.inr (.inr ⟨by omega,by omega,c2,by omega,?_⟩));unfold fK;rw[aD q1,aD q2,aD (by simp[oT];omega)]
  ·have e2:List.take 2 (a::b::t)=[a,b]:=by simp
   rw[e2]at h2 ⊢;by_cases c3:160<=r
   ·refine .inr (.inr (.inl ⟨by omega,by omega,by omega,.inr ⟨c3,by omega⟩,?_,h2,h4,h3⟩));unfold fK;rw[aD (by simp),aD (by simp),aF (by simp[oT];omega)]
   ·refine .inr (.inr (.inr ⟨by omega,by omega,by omega,by omega,?_⟩));unfold fK;rw[aD (by simp),aD (by simp),aD (by simp[oT];omega)]
  all_goals
   obtain⟨x,y,z,t,e2⟩:∃x y z t,l.take (chr l)=x::y::z::t:=by
    rcases l with _|⟨x,_|⟨y,_|⟨z,t⟩⟩⟩
    ·exact absurd rfl hl
    ·simp at hcl;omega
    ·simp at hcl;omega
    ·obtain⟨k,hk⟩:∃k,chr (x::y::z::t)=k+3:=⟨chr (x::y::z::t)-3,by omega⟩;exact⟨x,y,z,t.take k,by rw[hk];rfl⟩
   rw[<-h1]at e2;refine .inr (.inr (.inl ⟨by omega,by omega,by omega,.inr ⟨by omega,by omega⟩,?_,h2,h4,h3⟩));rw[e2];unfold fK;rw[aD (by simp),aD (by simp),aF (by simp[oT])]
def aF8:Nat->Bs->Bool
 | 0,_=>true
 | f+1,l=>if l=[]then true else if chr l=0 then false else aF8 f (l.drop (chr l))
def lB(l:Bs):Bool:=aF8 l.length l
theorem aCf:∀(f g:Nat) (l:Bs),l.length<=f->l.length<=g->aF8 f l=aF8 g l
 | 0,0,l,_,_=>rfl
 | 0,g+1,l,h,_=>by
  have:l=[]:=bI (by omega);subst this;rfl
 | f+1,0,l,_,h=>by
  have:l=[]:=bI (by omega);subst this;rfl
 | f+1,g+1,l,h1,h2=>by
  unfold aF8;split
  ·rfl
  ·split
   ·rfl
   ·rename_i h h0;have:0<l.length:=List.length_pos_iff.2 h;rw[aCf f g _ (by rw[aN];omega) (by rw[aN];omega)]
theorem aO7:lB []=true:=rfl
theorem aL2(l:Bs)(h:l≠[]):lB l=(decide (chr l≠0) && lB (l.drop (chr l))):=by
 have hp:0<l.length:=List.length_pos_iff.2 h;unfold lB;obtain⟨n,hn⟩:∃n,l.length=n+1:=⟨l.length-1,by omega⟩;rw[hn]
 conv=>lhs;unfold aF8
 rw[aD h];by_cases h0:chr l=0
 ·simp[h0]
 ·rw[aD h0,aCf n _ _ (by rw[aN];omega) (aQ _)];simp[h0]
def jI(l:Bs):Bool:=l.all λx=>decide (x.toNat<=127)
def eH(x:UInt8)(capitals:Bool):Option Nat :=
 if 48<=x.toNat/\x.toNat<=57 then some (x.toNat-48)
 else if 97<=x.toNat/\x.toNat<=102 then some (x.toNat-87)
 else if capitals=true/\65<=x.toNat/\x.toNat<=70 then some (x.toNat-55)
 else none
def dX:Bs->Option (UInt8 × Nat)
 | []=>none
 | x::l =>
  if x=34\/x=92 then some (x,2)
  else if x=110 then some (10,2)
  else if x=120 then
   match l with
   | a::b::_=>(match eH a true,eH b true with
    | some m,some n=>some ((16*m+n).toUInt8,4)
    | _,_=>none)
   | _=>none
  else none
def jU:Bs->Option (Bs × Nat)
 | []=>none
 | x::l =>
  if x=92 then(dX l).map λp=>([p.1],p.2)
  else if x.toNat<32\/chr (x::l)=0 then none
  else some ((x::l).take (chr (x::l)),chr (x::l))
def kJ:Nat->Bs->Option (Bs × Nat)
 | 0,_=>none
 | f+1,l =>
  match l with
  | []=>none
  | x::_ =>
   if x=34 then some ([],1)
   else match jU l with
    | none=>none
    | some (y,n)=>(kJ f (l.drop n)).map λp=>(y++p.1,n+p.2)
def gE:Bs->Option (Bs × Nat)
 | []=>none
 | x::l=>if x=34 then(kJ (l.length+1) l).map λp=>(p.1,p.2+1)else none
theorem kV{l:Bs}{y:Bs}{n:Nat}(h:jU l=some (y,n)):1<=n/\n<=l.length:=by
 cases l with
 | nil=>cases h
 | cons x l =>
  simp only[jU]at h;split at h
  ·rename_i hx;cases hs:dX l with
   | none=>rw[hs]at h;cases h
   | some p =>
    rw[hs]at h;simp only[Option.map_some,Option.some.injEq,Prod.mk.injEq]at h;obtain⟨_,rfl⟩:=h;cases l with
    | nil=>cases hs
    | cons z l =>
     simp only[dX]at hs;split at hs
     ·cases hs;simp
     ·split at hs
      ·cases hs;simp
      ·split at hs
       ·split at hs
        ·split at hs
         ·cases hs;simp
         ·cases hs
        ·cases hs
       ·cases hs
  ·split at h
   ·cases h
   ·rename_i h0;simp only[Option.some.injEq,Prod.mk.injEq]at h;obtain⟨_,rfl⟩:=h;have:=rP (x::l);have:chr (x::l)≠0:=λe=>h0 (.inr e);omega
theorem aB9:∀(f g:Nat) (l:Bs),l.length<f->l.length<g->kJ f l=kJ g l
 | 0,_,_,h,_=>by omega
 | _,0,_,_,h=>by omega
 | f+1,g+1,l,h1,h2=>by
  unfold kJ;cases l with
  | nil=>rfl
  | cons x l =>
   simp only;split
   ·rfl
   ·split
    ·rfl
    ·rename_i y n hi;have:=kV hi;rw[aB9 f g _ (by rw[aN];simp only[aI]at *;omega) (by rw[aN];simp only[aI]at *;omega)]
def wd(l:Bs):Option (Bs × Nat):=kJ (l.length+1) l
theorem aWc:wd []=none:=rfl
theorem mR(x:UInt8)(l:Bs):wd (x::l)=if x=34 then some ([],1)else match jU (x::l)with
 | none=>none
 | some (y,n)=>(wd ((x::l).drop n)).map λp=>(y++p.1,n+p.2):=by
 show kJ ((x::l).length+1) (x::l)=_;unfold kJ;simp only;split
 ·rfl
 ·cases hi:jU (x::l)with
  | none=>rfl
  | some q =>
   obtain⟨y,n⟩:=q;have:=kV hi;simp only;unfold wd;rw[aB9 _ (((x::l).drop n).length+1) _ (by rw[aN];omega) (by omega)]
theorem aWb{l:Bs}{y:Bs}{n:Nat}(h:wd l=some (y,n)):1<=n/\n<=l.length:=by
 obtain⟨m,hm⟩:∃m,l.length<=m:=⟨_,aQ _⟩
 induction m generalizing l y n with
 | zero =>
  have:l=[]:=bI (by omega);subst this;cases h
 | succ m ih =>
  cases l with
  | nil=>cases h
  | cons x l =>
   rw[mR]at h;split at h
   ·cases h;simp
   ·split at h
    ·cases h
    ·rename_i y' n' hi;have hp:=kV hi;cases hw:wd ((x::l).drop n')with
     | none=>rw[hw]at h;cases h
     | some q =>
      rw[hw]at h;simp only[Option.map_some,Option.some.injEq,Prod.mk.injEq]at h;obtain⟨_,rfl⟩:=h;have:=ih (y:=q.1) (n:=q.2) hw (by rw[aN];omega);rw[aN]at this;omega
theorem nG(x:UInt8)(l:Bs):gE (x::l)=if x=34 then(wd l).map λp=>(p.1,p.2+1)else none:=rfl
def iK(x:UInt8):Bool:=decide (x=32) || decide (x=9) || decide (x=10) || decide (x=13)
def bX:Bool->Bs->Nat
 | _,[]=>0
 | c,x::l =>
  if c=false/\iK x=false/\x≠35 then 0
  else 1+bX (if x=10 then false else if x=35 then true else c) l
def cQ(x:UInt8):Bool:=(decide (97<=x.toNat) && decide (x.toNat<=122)) || (decide (48<=x.toNat) && decide (x.toNat<=57)) || decide (x=45)
def eQ:Bs->Nat
 | []=>0
 | x::l=>if cQ x then 1+eQ l else 0
def sL(x:UInt8):Bool:=[91,93,123,125,40,41,58,44].contains x
structure Tok where
 kind:Nat
 beg:Nat
 fin:Nat
 text:Bs
def next(s:Bs)(from_:Nat):Tok :=
 let at_:=from_+bX false (s.drop from_)
 match s.drop at_ with
 | []=>⟨0,s.length,s.length,[]⟩
 | x::l =>
  if x=34 then(match gE (x::l)with
   | none=>⟨5,at_,at_+1,[]⟩
   | some p=>⟨2,at_,at_+p.2,p.1⟩)
  else if sL x then⟨3,at_,at_+1,[x]⟩
  else if cQ x then⟨1,at_,at_+eQ (x::l),(x::l).take (eQ (x::l))⟩
  else⟨4,at_,at_+1,[x]⟩
theorem pC:∀(c:Bool) (l:Bs),bX c l<=l.length
 | _,[]=>aQ _
 | c,x::l=>by
  unfold bX;split
  ·omega
  ·have:=pC (if x=10 then false else if x=35 then true else c) l;simp only[aI];omega
theorem tG:∀(l:Bs),eQ l<=l.length
 | []=>aQ _
 | x::l=>by
  unfold eQ;split
  ·have:=tG l;simp only[aI];omega
  ·omega
theorem tY{l:Bs}{y:Bs}{n:Nat}(h:gE l=some (y,n)):2<=n/\n<=l.length:=by
 cases l with
 | nil=>cases h
 | cons x l =>
  rw[nG]at h;split at h
  ·cases hw:wd l with
   | none=>rw[hw]at h;cases h
   | some q =>
    rw[hw]at h;simp only[Option.map_some,Option.some.injEq,Prod.mk.injEq]at h;have:=aWb (l:=l) (y:=q.1) (n:=q.2) hw;simp only[aI];omega
  ·cases h
theorem dM(s:Bs)(from_:Nat)(hf:from_<=s.length):from_<=(next s from_).beg/\(next s from_).beg<=(next s from_).fin/\(next s from_).fin<=s.length/\((next s from_).kind≠0->(next s from_).beg<(next s from_).fin):=by
 have h1:=pC false (s.drop from_);rw[aN]at h1;unfold next;simp only;cases hd:s.drop (from_+bX false (s.drop from_))with
 | nil=>simp;omega
 | cons x l =>
  have hl:=congrArg List.length hd;rw[aN]at hl;simp only[aI]at hl;simp only;split
  ·cases hw:gE (x::l)with
   | none=>simp;omega
   | some p =>
    have:=tY (y:=p.1) (n:=p.2) hw;simp only[aI]at this;simp;omega
  ·split
   ·simp;omega
   ·split
    ·rename_i hlet;have h2:=tG (x::l);have h3:1<=eQ (x::l):=by unfold eQ;rw[aF hlet];omega
     simp only[aI]at h2;simp;omega
    ·simp;omega
inductive M where
 | mk (k:Int) (n:Nat) (t:Bs) (e:Int) (l:List M)
def M.k:M->Int|.mk k _ _ _ _=>k
def M.n:M->Nat|.mk _ n _ _ _=>n
def M.t:M->Bs|.mk _ _ t _ _=>t
def M.e:M->Int|.mk _ _ _ e _=>e
def M.l:M->List M|.mk _ _ _ _ l=>l
theorem M.lt_of_mem{k:Int}{n:Nat}{t:Bs}{e:Int}{l:List M}{x:M}(h:x∈l):SizeOf.sizeOf x<SizeOf.sizeOf (M.mk k n t e l):=by
 have:=List.sizeOf_lt_of_mem h;simp only[M.mk.sizeOf_spec];omega
theorem M.ind{P:M->Prop}(h:∀k n t e l,(∀x∈l,P x)->P (.mk k n t e l)):∀m,P m
 | .mk k n t e l=>h k n t e l λx hx=>M.ind h x
termination_by m=>SizeOf.sizeOf m
decreasing_by exact M.lt_of_mem hx
mutual
def M.eq:M->M->Bool
 | .mk k n t e l,.mk k' n' t' e' l'=>decide (k=k') && decide (n=n') && decide (t=t') && decide (e=e') && M.eqL l l'
def M.eqL:List M->List M->Bool
 | [],[]=>true
 | x::l,y::l'=>M.eq x y && M.eqL l l'
 | [],_::_=>false
 | _::_,[]=>false
end
theorem M.eqL_of{l:List M}(h:∀x∈l,∀b,M.eq x b=true↔x=b):∀l',M.eqL l l'=true↔l=l':=by
 induction l with
 | nil=>intro l';cases l'<;>simp[M.eqL]
 | cons x l ih =>
  intro l';cases l' with
  | nil=>simp[M.eqL]
  | cons y l'=>simp[M.eqL,h x (by simp) y,ih (λx hx=>h x (by simp[hx])) l']
theorem M.eq_iff:∀a b:M,M.eq a b=true↔a=b:=by
 refine M.ind λk n t e l ih=>?_;rintro⟨k',n',t',e',l'⟩;simp[M.eq,M.eqL_of ih,and_assoc]
instance:DecidableEq M:=λa b=>decidable_of_iff _ (M.eq_iff a b)
mutual
def M.wt:M->Nat
 | .mk _ _ t _ l=>1+t.length / 64+M.wtL l
def M.wtL:List M->Nat
 | []=>0
 | x::l=>M.wt x+M.wtL l
end
theorem M.wtL_sum(l:List M):M.wtL l=(l.map M.wt).sum:=by
 induction l with
 | nil=>rfl
 | cons x l ih=>simp[M.wtL,ih]
theorem M.wt_mk(k:Int)(n:Nat)(t:Bs)(e:Int)(l:List M):M.wt (.mk k n t e l)=1+t.length / 64+(l.map M.wt).sum:=by
 rw[M.wt,M.wtL_sum]
def vE(k:Int):Bool:=decide (1<=k) && decide (k<=16) && decide (k≠14)
def kB(k:Int):Bool:=decide (k=14) || (decide (17<=k) && decide (k<=20))
def kT(k:Int):Bool:=decide (21<=k)
def M.extra(m:M):Bool:=(!vE m.k && decide (m.n≠0)) || (!kB m.k && decide (m.t≠[])) || (!kT m.k && decide (m.l≠[])) || (decide (m.k≠23) && decide (m.e≠0))
def sgn(n b:Nat):Bool:=decide (n<2^(b-1)) || decide (2^64-2^(b-1)<=n)
def M.num(m:M):Bool :=
 if m.k=1 then decide (m.n<=1)
 else if m.k=2 then decide (m.n<=255)
 else if m.k=3 then decide (m.n<=65535)
 else if m.k=4\/m.k=10\/m.k=12 then decide (m.n<=4294967295)
 else if m.k=6 then sgn m.n 8
 else if m.k=7 then sgn m.n 16
 else if m.k=8 then sgn m.n 32
 else if m.k=15 then decide (m.n<=1114111) && (decide (m.n<55296) || decide (57343<m.n))
 else true
def M.txt(m:M):Bool :=
 if m.k=14\/m.k=17 then decide (m.t.length=16)
 else if m.k=19 then lB m.t
 else if m.k=20 then jI m.t
 else true
theorem M.num_mk(k:Int)(n:Nat)(t:Bs)(e:Int)(l:List M):M.num (.mk k n t e l) =
 if k=1 then decide (n<=1)
 else if k=2 then decide (n<=255)
 else if k=3 then decide (n<=65535)
 else if k=4\/k=10\/k=12 then decide (n<=4294967295)
 else if k=6 then sgn n 8
 else if k=7 then sgn n 16
 else if k=8 then sgn n 32
 else if k=15 then decide (n<=1114111) && (decide (n<55296) || decide (57343<n))
 else true:=rfl
theorem M.txt_mk(k:Int)(n:Nat)(t:Bs)(e:Int)(l:List M):M.txt (.mk k n t e l) =
 if k=14\/k=17 then decide (t.length=16)
 else if k=19 then lB t
 else if k=20 then jI t
 else true:=rfl
theorem M.extra_mk(k:Int)(n:Nat)(t:Bs)(e:Int)(l:List M):M.extra (.mk k n t e l)=((!vE k && decide (n≠0)) || (!kB k && decide (t≠[])) || (!kT k && decide (l≠[])) || (decide (k≠23) && decide (e≠0))):=rfl
def fS:List M->List M
 | []=>[]
 | [x]=>[x]
 | x::_::l=>x::fS l
def jE(l:List M):Bool:=decide (l.length%2=0) && decide (l.length / 2<=1024) && decide (fS l).Nodup
def gF(e:Int)(l:List M):Bool:=decide (0<e) && decide (e<24) && l.all λx=>decide (x.k=e)
def M.own(d:Nat)(m:M):Nat :=
 if m.k<0\/25<=m.k then 20
 else if 32<d then 26
 else if m.extra then 25
 else if m.num=false then 21
 else if m.txt=false then 22
 else if m.k=22/\jE m.l=false then 23
 else if m.k=23/\gF m.e m.l=false then 24
 else if m.k=24/\m.l.length≠2 then 27
 else 0
theorem M.own_mk(d:Nat)(k:Int)(n:Nat)(t:Bs)(e:Int)(l:List M):M.own d (.mk k n t e l) =
 if k<0\/25<=k then 20
 else if 32<d then 26
 else if M.extra (.mk k n t e l)=true then 25
 else if M.num (.mk k n t e l)=false then 21
 else if M.txt (.mk k n t e l)=false then 22
 else if k=22/\jE l=false then 23
 else if k=23/\gF e l=false then 24
 else if k=24/\l.length≠2 then 27
 else 0:=rfl
mutual
def M.check:Nat->M->Nat
 | d,.mk k n t e l=>if M.own d (.mk k n t e l)≠0 then M.own d (.mk k n t e l)else M.checkL (d+1) l
def M.checkL:Nat->List M->Nat
 | _,[]=>0
 | d,x::l=>if M.check d x≠0 then M.check d x else M.checkL d l
end
theorem M.checkL_iff(d:Nat)(l:List M):M.checkL d l=0↔∀x∈l,M.check d x=0:=by
 induction l with
 | nil=>simp[M.checkL]
 | cons x l ih =>
  unfold M.checkL;by_cases h:M.check d x=0
  ·rw[aD (by simp[h]),ih];simp[h]
  ·rw[aF h];simp[h]
theorem M.check_iff(d:Nat)(m:M):M.check d m=0↔M.own d m=0/\∀x∈m.l,M.check (d+1) x=0:=by
 obtain⟨k,n,t,e,l⟩:=m;rw[M.check];by_cases h:M.own d (.mk k n t e l)=0
 ·rw[aD (by simp[h]),M.checkL_iff];simp only[h,M.l,true_and]
 ·rw[aF h];simp[h]
theorem tM:∀(l:List M),l.length%2=0->(fS l).length=l.length / 2
 | [],_=>rfl
 | [_],h=>by simp at h
 | x::y::l,h=>by
  simp only[aI]at h;have:=tM l (by omega);simp only[fS,aI,this];omega
theorem lL:∀(l:List M) (i:Nat),l.length%2=0->(fS l)[i]?=l[2*i]?
 | [],i,_=>by simp[fS]
 | [_],_,h=>by simp at h
 | x::y::l,0,_=>by simp[fS]
 | x::y::l,i+1,h=>by
  simp only[aI]at h;have:=lL l i (by omega);simp only[fS,List.getElem?_cons_succ,this,show 2*(i+1)=2*i+1+1 by omega]
def names:List Bs:=[[110,117,108,108],[98,111,111,108],[117,98,121,116,101],[117,115,104,111,114,116],[117,105,110,116],[117,108,111,110,103],[98,121,116,101],[115,104,111,114,116],[105,110,116],[108,111,110,103],[102,108,111,97,116],[100,111,117,98,108,101],[100,101,99,51,50],[100,101,99,54,52],[100,101,99,49,50,56],[99,104,97,114],[116,105,109,101],[117,117,105,100],[98,105,110,97,114,121],[115,116,114,105,110,103],[115,121,109,98,111,108],[108,105,115,116],[109,97,112],[97,114,114,97,121],[100,101,115,99,114,105,98,101,100]]
def iM(t:Bs):Option Nat:=names.findIdx? λx=>decide (x=t)
inductive Fd(α:Type) where
 | ok (x:α) (fin:Nat)
 | bad (beg:Nat) (e:Nat)
def cM{α:Type}(t:Tok)(e:Nat):Fd α:=.bad t.beg (if t.kind=5 then 42 else e)
def Tok.is(t:Tok)(c:UInt8):Bool:=decide (t.kind=3) && decide (t.text=[c])
def nU(t:Tok):Bool:=t.is 93 || t.is 125 || t.is 41
def wanted{α:Type}(t:Tok):Fd α:=if t.kind=0\/nU t=true then cM t 43 else cM t 40
def dT(x:UInt8):Bool:=decide (48<=x.toNat) && decide (x.toNat<=57)
def lU(s:Bs):Nat:=s.foldl (λn x=>10*n+(x.toNat-48)) 0
def oV(s:Bs):Option Nat:=if s=[]\/(1<s.length/\s.head?=some 48)\/s.all dT=false then none else some (lU s)
def gN(k:Nat):Nat × Nat :=
 if k=2 then(255,0)else if k=3 then(65535,0)else if k=4 then(4294967295,0)
 else if k=6 then(127,128)else if k=7 then(32767,32768)else if k=8 then(2147483647,2147483648)
 else if k=9\/k=16 then(9223372036854775807,9223372036854775808)else if k=15 then(1114111,0)
 else(18446744073709551615,0)
def iB(k:Nat)(s:Bs):Option Nat :=
 if 0<(gN k).2/\1<s.length/\s.head?=some 45 then
  match oV s.tail with
  | some n=>if 0<n/\n<=(gN k).2 then some (18446744073709551616-n)else none
  | none=>none
 else
  match oV s with
  | some n=>if n<=(gN k).1/\¬(k=15/\55296<=n/\n<=57343)then some n else none
  | none=>none
def eC(k:Nat):Nat:=if k=10\/k=12 then 8 else if k=11\/k=13 then 16 else if k=14\/k=17 then 32 else 0
def dR:Bs->Option Bs
 | []=>some []
 | [_]=>none
 | a::b::l=>match eH a false,eH b false,dR l with
  | some x,some y,some r=>some ((16*x+y).toUInt8::r)
  | _,_,_=>none
def jZ(s:Bs)(many:Nat):Option Bs:=if s.length=many then dR s else none
def beN(b:Bs):Nat:=b.foldl (λn x=>256*n+x.toNat) 0
def dU(s:Bs)(k:Nat)(from_:Nat):Fd M :=
 let t:=next s from_
 if t.kind≠1 then cM t 41
 else if eC k=0 then
  match iB k t.text with
  | some n=>.ok (.mk k n [] 0 []) t.fin
  | none=>cM t 41
 else
  match jZ t.text (eC k)with
  | some b=>if eC k=32 then .ok (.mk k 0 b 0 []) t.fin else .ok (.mk k (beN b) [] 0 []) t.fin
  | none=>cM t 41
def eX(k:Nat)(t:Tok):Fd M :=
 if t.kind≠2 then cM t 42
 else if(k=19/\lB t.text=false)\/(k=20/\jI t.text=false)then cM t 22
 else .ok (.mk k 0 t.text 0 []) t.fin
def fU(rd:Nat->Fd M)(s:Bs)(elem:Option Nat):Nat->Nat->List M->Fd (List M)
 | 0,_,_=>.bad 0 0
 | f+1,at_,acc =>
  let t:=next s at_
  if t.is 93 then .ok acc t.fin
  else match rd at_ with
   | .bad a e=>.bad a e
   | .ok m a=>match elem with
    | none=>fU rd s elem f a (acc++[m])
    | some k=>if m.k=(k:Int)then fU rd s elem f a (acc++[m])else cM t 24
def fY(rd:Nat->Fd M)(s:Bs):Nat->Nat->List M->Fd (List M)
 | 0,_,_=>.bad 0 0
 | f+1,at_,acc =>
  match rd at_ with
  | .bad a e=>.bad a e
  | .ok k a =>
   let c:=next s a
   if c.is 58=false then wanted c
   else match rd c.fin with
    | .bad a e=>.bad a e
    | .ok v b =>
     let t:=next s b
     if t.is 125 then .ok (acc++[k,v]) t.fin
     else if t.is 44=false then wanted t
     else fY rd s f t.fin (acc++[k,v])
def uT(l:List M)(open_:Nat)(at_:Nat):Fd M :=
 if 2048<l.length\/¬(fS l).Nodup then .bad open_ 23 else .ok (.mk 22 0 [] 0 l) at_
def rE(rd:Nat->Fd M)(s:Bs)(open_:Tok):Fd M :=
 let first:=next s open_.fin
 if first.is 125 then uT [] open_.beg first.fin
 else match fY rd s (s.length+1) open_.fin []with
  | .bad a e=>.bad a e
  | .ok l a=>uT l open_.beg a
def listed(rd:Nat->Fd M)(s:Bs)(elem:Option Nat)(at_:Nat):Fd M :=
 match fU rd s elem (s.length+1) at_ []with
 | .bad a e=>.bad a e
 | .ok l a=>match elem with
  | none=>.ok (.mk 21 0 [] 0 l) a
  | some k=>.ok (.mk 23 0 [] k l) a
def nA(rd:Nat->Fd M)(s:Bs)(at_:Nat):Fd M :=
 let t:=next s at_
 if t.kind≠1 then cM t 40
 else match iM t.text with
  | none=>cM t 40
  | some k=>if k=0\/k=24 then cM t 24
   else
    let o:=next s t.fin
    if o.is 91=false then cM o 40 else listed rd s (some k) o.fin
def jA(rd:Nat->Fd M)(s:Bs)(at_:Nat):Fd M :=
 match rd at_ with
 | .bad a e=>.bad a e
 | .ok x a=>match rd a with
  | .bad a e=>.bad a e
  | .ok y b =>
   let t:=next s b
   if t.is 41=false then wanted t else .ok (.mk 24 0 [] 0 [x,y]) t.fin
def dA(t:Tok):Option Nat :=
 if t.kind=2 then some 19
 else if t.kind=3 then(if t.text=[91]then some 21 else if t.text=[123]then some 22 else if t.text=[40]then some 24 else none)
 else if t.kind≠1 then none
 else if t.text=[116,114,117,101]\/t.text=[102,97,108,115,101]then some 1
 else match iM t.text with
  | some k=>if k=1\/k=19\/k=21\/k=22\/k=24 then none else some k
  | none=>none
def gZ(s:Bs):Nat->Nat->Fd M
 | d,from_ =>
  let t:=next s from_
  match dA t with
  | none=>if nU t=true\/(t.kind=0/\d<32)then cM t 43 else cM t 40
  | some k=>match d with
   | 0=>cM t 26
   | d+1 =>
    if k=0 then .ok (.mk 0 0 [] 0 []) t.fin
    else if k=1 then .ok (.mk 1 (if t.text=[116,114,117,101]then 1 else 0) [] 0 []) t.fin
    else if k=19 then eX 19 t
    else if k=18\/k=20 then eX k (next s t.fin)
    else if k=21 then listed (gZ s d) s none t.fin
    else if k=22 then rE (gZ s d) s t
    else if k=23 then nA (gZ s d) s t.fin
    else if k=24 then jA (gZ s d) s t.fin
    else dU s k t.fin
def gT(s:Bs):Fd M :=
 if 1048576<s.length then .bad 0 2
 else match gZ s 32 0 with
  | .bad a e=>.bad a e
  | .ok m a=>let t:=next s a
   if t.kind≠0 then cM t 44 else .ok m 0
def aE6(s:Bs)(rd:Nat->Fd M):Prop:=∀a m b,a<=s.length->rd a=.ok m b->a<b/\b<=s.length
theorem dF{s:Bs}{a:Nat}{c:UInt8}(ha:a<=s.length)(h:(next s a).is c=true):a<(next s a).fin/\(next s a).fin<=s.length:=by
 have:=dM s a ha;have hk:(next s a).kind=3:=by simp[Tok.is]at h;exact h.1
 omega
theorem aAw{rd:Nat->Fd M}{s:Bs}(hg:aE6 s rd)(elem:Option Nat):∀(f g a:Nat) (acc:List M),a<=s.length->s.length-a<f->s.length-a<g->fU rd s elem f a acc=fU rd s elem g a acc
 | 0,_,_,_,_,h,_=>by omega
 | _,0,_,_,_,_,h=>by omega
 | f+1,g+1,a,acc,ha,h1,h2=>by
  unfold fU;simp only;split
  ·rfl
  ·cases hr:rd a with
   | bad b e=>rfl
   | ok m b =>
    have:=hg a m b ha hr;have ih:=aAw hg elem f g b (acc++[m]) (by omega) (by omega) (by omega);cases elem with
    | none=>exact ih
    | some k=>simp only[ih]
theorem aAp{rd:Nat->Fd M}{s:Bs}(hg:aE6 s rd):∀(f g a:Nat) (acc:List M),a<=s.length->s.length-a<f->s.length-a<g->fY rd s f a acc=fY rd s g a acc
 | 0,_,_,_,_,h,_=>by omega
 | _,0,_,_,_,_,h=>by omega
 | f+1,g+1,a,acc,ha,h1,h2=>by
  unfold fY;cases hr:rd a with
  | bad b e=>rfl
  | ok k b =>
   have h3:=hg a k b ha hr;simp only;split
   ·rfl
   ·rename_i hc;have h4:=dF (s:=s) (a:=b) (c:=58) (by omega) (by simpa using hc);cases hr2:rd (next s b).fin with
    | bad _ _=>rfl
    | ok v c =>
     have h5:=hg _ v c (by omega) hr2;simp only;split
     ·rfl
     ·split
      ·rfl
      ·rename_i ht;have h6:=dF (s:=s) (a:=c) (c:=44) (by omega) (by simpa using ht);exact aAp hg f g _ _ (by omega) (by omega) (by omega)
def fM(rd:Nat->Fd M)(s:Bs)(elem:Option Nat)(a:Nat)(acc:List M):Fd (List M):=fU rd s elem (s.length+1) a acc
theorem zX{rd:Nat->Fd M}{s:Bs}(hg:aE6 s rd)(elem:Option Nat){a:Nat}(acc:List M)(ha:a<=s.length):fM rd s elem a acc =
 if(next s a).is 93 then .ok acc (next s a).fin
 else match rd a with
  | .bad a e=>.bad a e
  | .ok m b=>match elem with
   | none=>fM rd s elem b (acc++[m])
   | some k=>if m.k=(k:Int)then fM rd s elem b (acc++[m])else cM (next s a) 24:=by
 unfold fM
 conv=>lhs;unfold fU
 simp only;split
 ·rfl
 ·cases hr:rd a with
  | bad b e=>rfl
  | ok m b =>
   have:=hg a m b ha hr;have ih:=aAw hg elem s.length (s.length+1) b (acc++[m]) (by omega) (by omega) (by omega);cases elem with
   | none=>exact ih
   | some k=>simp only[ih]
def wE(rd:Nat->Fd M)(s:Bs)(a:Nat)(acc:List M):Fd (List M):=fY rd s (s.length+1) a acc
theorem zA{rd:Nat->Fd M}{s:Bs}(hg:aE6 s rd){a:Nat}(acc:List M)(ha:a<=s.length):wE rd s a acc =
 match rd a with
 | .bad a e=>.bad a e
 | .ok k b =>
  if(next s b).is 58=false then wanted (next s b)
  else match rd (next s b).fin with
   | .bad a e=>.bad a e
   | .ok v c =>
    if(next s c).is 125 then .ok (acc++[k,v]) (next s c).fin
    else if(next s c).is 44=false then wanted (next s c)
    else wE rd s (next s c).fin (acc++[k,v]):=by
 unfold wE
 conv=>lhs;unfold fY
 cases hr:rd a with
 | bad b e=>rfl
 | ok k b =>
  have h3:=hg a k b ha hr;simp only;split
  ·rfl
  ·rename_i hc;have h4:=dF (s:=s) (a:=b) (c:=58) (by omega) (by simpa using hc);cases hr2:rd (next s b).fin with
   | bad _ _=>rfl
   | ok v c =>
    have h5:=hg _ v c (by omega) hr2;simp only;split
    ·rfl
    ·split
     ·rfl
     ·rename_i ht;have h6:=dF (s:=s) (a:=c) (c:=44) (by omega) (by simpa using ht);exact aAp hg _ _ _ _ (by omega) (by omega) (by omega)
theorem nP{rd:Nat->Fd M}{s:Bs}(hg:aE6 s rd)(elem:Option Nat):∀(f a:Nat) (acc:List M) (l:List M) (b:Nat),a<=s.length->fU rd s elem f a acc=.ok l b->a<b/\b<=s.length
 | 0,_,_,_,_,_,h=>by simp[fU]at h
 | f+1,a,acc,l,b,ha,h=>by
  unfold fU at h;simp only at h;split at h
  ·rename_i hi;have:=dF ha hi;cases h;omega
  ·cases hr:rd a with
   | bad c e=>rw[hr]at h;cases h
   | ok m c =>
    rw[hr]at h;have h3:=hg a m c ha hr;cases elem with
    | none =>
     have:=nP hg none f c _ l b (by omega) h;omega
    | some k =>
     simp only at h;split at h
     ·have:=nP hg (some k) f c _ l b (by omega) h;omega
     ·cases h
theorem iI{α:Type}{t:Tok}{x:α}{b:Nat}:(wanted t:Fd α)≠.ok x b:=by
 unfold wanted cM;split<;>simp
theorem wF{rd:Nat->Fd M}{s:Bs}(hg:aE6 s rd):∀(f a:Nat) (acc:List M) (l:List M) (b:Nat),a<=s.length->fY rd s f a acc=.ok l b->a<b/\b<=s.length
 | 0,_,_,_,_,_,h=>by simp[fY]at h
 | f+1,a,acc,l,b,ha,h=>by
  unfold fY at h;cases hr:rd a with
  | bad c e=>rw[hr]at h;cases h
  | ok k c =>
   rw[hr]at h;have h3:=hg a k c ha hr;simp only at h;split at h
   ·exact absurd h iI
   ·rename_i hc;have h4:=dF (s:=s) (a:=c) (c:=58) (by omega) (by simpa using hc);cases hr2:rd (next s c).fin with
    | bad _ _=>rw[hr2]at h;cases h
    | ok v d =>
     rw[hr2]at h;have h5:=hg _ v d (by omega) hr2;simp only at h;split at h
     ·rename_i ht;have h6:=dF (s:=s) (a:=d) (c:=125) (by omega) ht;cases h;omega
     ·split at h
      ·exact absurd h iI
      ·rename_i ht;have h6:=dF (s:=s) (a:=d) (c:=44) (by omega) (by simpa using ht);have:=wF hg f _ _ l b (by omega) h;omega
theorem aIb{s:Bs}{k a b:Nat}{m:M}(ha:a<=s.length)(h:dU s k a=.ok m b):b=(next s a).fin/\(next s a).kind≠0:=by
 unfold dU cM at h;simp only at h;split at h
 ·cases h
 ·rename_i h1;simp only[ne_eq,Decidable.not_not]at h1;refine⟨?_,by omega⟩;split at h
  ·split at h<;>cases h;rfl
  ·split at h
   ·split at h<;>cases h<;>rfl
   ·cases h
theorem aB8{k b:Nat}{t:Tok}{m:M}(h:eX k t=.ok m b):b=t.fin/\t.kind=2:=by
 unfold eX cM at h;split at h
 ·cases h
 ·rename_i h1;split at h
  ·cases h
  ·cases h;exact⟨rfl,by omega⟩
theorem aA1{t:Tok}{k:Nat}(h:dA t=some k):t.kind≠0:=by
 intro h0;unfold dA at h;simp[h0]at h
theorem gJ(s:Bs)(d from_:Nat):gZ s d from_ =
 match dA (next s from_)with
 | none=>if nU (next s from_)=true\/((next s from_).kind=0/\d<32)then cM (next s from_) 43 else cM (next s from_) 40
 | some k=>match d with
  | 0=>cM (next s from_) 26
  | d+1 =>
   if k=0 then .ok (.mk 0 0 [] 0 []) (next s from_).fin
   else if k=1 then .ok (.mk 1 (if(next s from_).text=[116,114,117,101]then 1 else 0) [] 0 []) (next s from_).fin
   else if k=19 then eX 19 (next s from_)
   else if k=18\/k=20 then eX k (next s (next s from_).fin)
   else if k=21 then listed (gZ s d) s none (next s from_).fin
   else if k=22 then rE (gZ s d) s (next s from_)
   else if k=23 then nA (gZ s d) s (next s from_).fin
   else if k=24 then jA (gZ s d) s (next s from_).fin
   else dU s k (next s from_).fin:=by
 cases d<;>(conv=>lhs;unfold gZ)<;>rfl
theorem aJm{l:List M}{o a b:Nat}{m:M}(h:uT l o a=.ok m b):b=a:=by
 unfold uT at h;split at h
 ·cases h
 ·cases h;rfl
theorem aD0{rd:Nat->Fd M}{s:Bs}(hg:aE6 s rd){elem:Option Nat}{a b:Nat}{m:M}(ha:a<=s.length)(h:listed rd s elem a=.ok m b):a<b/\b<=s.length:=by
 unfold listed at h;cases he:fU rd s elem (s.length+1) a []with
 | bad _ _=>rw[he]at h;cases h
 | ok l c =>
  rw[he]at h;have:=nP hg elem _ _ _ _ _ ha he;cases elem with
  | none=>cases h;omega
  | some k=>cases h;omega
theorem fE(s:Bs):∀d,aE6 s (gZ s d)
 | 0=>by
  intro a m b ha h;rw[gJ]at h;unfold cM at h;split at h
  ·split at h<;>cases h
  ·cases h
 | d+1=>by
  intro a m b ha h;rw[gJ]at h;have hg:=fE s d;have hl:=dM s a ha;cases hb:dA (next s a)with
  | none =>
   rw[hb]at h;unfold cM at h;simp only at h;split at h<;>cases h
  | some k =>
   rw[hb]at h;have h0:=aA1 hb;simp only at h;have hl2:=dM s (next s a).fin (by omega);split at h
   ·cases h;omega
   ·split at h
    ·cases h;omega
    ·split at h
     ·have:=aB8 h;omega
     ·split at h
      ·have:=aB8 h;omega
      ·split at h
       ·have:=aD0 hg (by omega) h;omega
       ·split at h
        ·unfold rE at h;simp only at h;split at h
         ·rename_i hi;have h3:=dF (s:=s) (by omega) hi;have:=aJm h;omega
         ·cases hp:fY (gZ s d) s (s.length+1) (next s a).fin []with
          | bad _ _=>rw[hp]at h;cases h
          | ok l c =>
           rw[hp]at h;have h3:=wF hg _ _ _ _ _ (by omega) hp;have:=aJm h;omega
        ·split at h
         ·unfold nA at h;simp only at h;split at h
          ·cases h
          ·split at h
           ·cases h
           ·split at h
            ·cases h
            ·split at h
             ·cases h
             ·rename_i ho;have h3:=dF (s:=s) (a:=(next s (next s a).fin).fin) (c:=91) (by omega) (by simpa using ho);have:=aD0 hg (by omega) h;omega
         ·split at h
          ·unfold jA at h;cases hr:gZ s d (next s a).fin with
           | bad _ _=>rw[hr]at h;cases h
           | ok x c =>
            rw[hr]at h;have h3:=hg _ _ _ (by omega) hr;simp only at h;cases hr2:gZ s d c with
            | bad _ _=>rw[hr2]at h;cases h
            | ok y e =>
             rw[hr2]at h;have h4:=hg _ _ _ (by omega) hr2;simp only at h;split at h
             ·exact absurd h iI
             ·rename_i ho;have h5:=dF (s:=s) (a:=e) (c:=41) (by omega) (by simpa using ho);cases h;omega
          ·have:=aIb (by omega) h;omega
def fZ(k:Int):Bs:=names.getD k.toNat []
def lA:Nat->Nat->Bs
 | 0,_=>[]
 | m+1,n=>lA m (n / 16)++[kW (n%16)]
def vZ(b:Bs):Bs:=b.flatMap λx=>lA 2 x.toNat
def wW(n:Nat):Int:=if n<9223372036854775808 then(n:Int)else(n:Int)-18446744073709551616
def cE(k:Int)(n:Nat)(t:Bs):Bs :=
 if k=6\/k=7\/k=8\/k=9\/k=16 then Lib.itoa (wW n)
 else if k=10\/k=12 then lA 8 n
 else if k=11\/k=13 then lA 16 n
 else if k=14\/k=17 then vZ t
 else if k=18\/k=20 then cA t
 else Lib.decDigits n
mutual
def bM:M->Bs
 | .mk k n t e l =>
  if k=0 then fZ 0
  else if k=1 then(if n=1 then[116,114,117,101]else[102,97,108,115,101])
  else if k=19 then cA t
  else if k=21 then 91::(eO l++[93])
  else if k=22 then 123::(gS l++[125])
  else if k=23 then[97,114,114,97,121,32]++fZ e++[32,91]++eO l++[93]
  else if k=24 then 40::(eO l++[41])
  else fZ k++[32]++cE k n t
def eO:List M->Bs
 | []=>[]
 | x::l=>bM x++gR l
def gR:List M->Bs
 | []=>[]
 | x::l=>32::(bM x++gR l)
def gS:List M->Bs
 | []=>[]
 | x::l=>bM x++jR l
def jR:List M->Bs
 | []=>[]
 | x::l=>[58,32]++bM x++kP l
def kP:List M->Bs
 | []=>[]
 | x::l=>[44,32]++bM x++jR l
end
theorem aJ4(l:List M)(x:M):gR (l++[x])=gR l++32::bM x:=by
 induction l with
 | nil=>simp[gR]
 | cons y l ih=>simp[gR,ih]
theorem sU(l:List M)(x:M):eO (l++[x])=eO l++(if l=[]then[]else[32])++bM x:=by
 cases l with
 | nil=>simp[eO,gR]
 | cons y l=>simp[eO,aJ4]
theorem xF:∀(l:List M) (x y:M),(l.length%2=0->kP (l++[x,y])=kP l++[44,32]++bM x++[58,32]++bM y)/\(l.length%2=1->jR (l++[x,y])=jR l++[44,32]++bM x++[58,32]++bM y)
 | [],x,y=>⟨λ_=>by simp[kP,jR],λh=>by simp at h⟩
 | z::l,x,y=>by
  have ih:=xF l x y;constructor
  ·intro h;simp only[aI]at h;simp[kP,ih.2 (by omega)]
  ·intro h;simp only[aI]at h;simp[jR,ih.1 (by omega)]
theorem aAl(l:List M)(x y:M)(h:l.length%2=0):gS (l++[x,y])=gS l++(if l=[]then[]else[44,32])++bM x++[58,32]++bM y:=by
 cases l with
 | nil=>simp[gS,jR,kP]
 | cons z l =>
  simp only[aI]at h;simp[gS,(xF l x y).2 (by omega)]
abbrev Tk:=Nat × Bs
def oB:Bs->Nat × Bs × Nat
 | []=>(0,[],0)
 | x::l =>
  if x=34 then(match gE (x::l)with
   | none=>(5,[],1)
   | some p=>(2,p.1,p.2))
  else if sL x then(3,[x],1)
  else if cQ x then(1,(x::l).take (eQ (x::l)),eQ (x::l))
  else(4,[x],1)
theorem pQ(x:UInt8)(l:Bs):oB (x::l)=if x=34 then(match gE (x::l)with
 | none=>(5,[],1)
 | some p=>(2,p.1,p.2))
 else if sL x then(3,[x],1)
 else if cQ x then(1,(x::l).take (eQ (x::l)),eQ (x::l))
 else(4,[x],1):=rfl
def vL:Nat->Bs->List Tk
 | 0,_=>[]
 | f+1,l =>
  match oB (l.drop (bX false l))with
  | (0,_,_)=>[]
  | (k+1,t,n)=>(k+1,t)::vL f ((l.drop (bX false l)).drop n)
def fP(l:Bs):List Tk:=vL (l.length+1) l
theorem aD5(l:Bs):(oB l).2.2<=l.length/\((oB l).1≠0->0<(oB l).2.2)/\((oB l).1=0->l=[]):=by
 cases l with
 | nil=>simp[oB]
 | cons x l =>
  rw[pQ];split
  ·cases hw:gE (x::l)with
   | none=>simp
   | some p =>
    have:=tY (y:=p.1) (n:=p.2) hw;simp only[aI]at this;simp;omega
  ·split
   ·simp
   ·split
    ·rename_i hlet;have h2:=tG (x::l);have h3:1<=eQ (x::l):=by unfold eQ;rw[aF hlet];omega
     simp only[aI]at h2;simp;omega
    ·simp
theorem aCd:∀(f g:Nat) (l:Bs),l.length<f->l.length<g->vL f l=vL g l
 | 0,_,_,h,_=>by omega
 | _,0,_,_,h=>by omega
 | f+1,g+1,l,h1,h2=>by
  unfold vL;have hl:=aD5 (l.drop (bX false l));generalize hx:oB (l.drop (bX false l))=x at hl;obtain⟨k,t,n⟩:=x;cases k with
  | zero=>rfl
  | succ k =>
   simp only;simp only[aN]at hl;have:0<n:=hl.2.1 (by simp);rw[aCd f g _ (by simp only[aN];omega) (by simp only[aN];omega)]
theorem uB(l:Bs):fP l=match oB (l.drop (bX false l))with
 | (0,_,_)=>[]
 | (k+1,t,n)=>(k+1,t)::fP ((l.drop (bX false l)).drop n):=by
 unfold fP
 conv=>lhs;unfold vL
 have hl:=aD5 (l.drop (bX false l));generalize hx:oB (l.drop (bX false l))=x at hl;obtain⟨k,t,n⟩:=x;cases k with
 | zero=>rfl
 | succ k =>
  simp only;simp only[aN]at hl;have:0<n:=hl.2.1 (by simp);rw[aCd l.length _ _ (by simp only[aN];omega) (Nat.lt_succ_self _)]
theorem aR0(s:Bs){a:Nat}(ha:a<=s.length):(next s a).kind=(oB ((s.drop a).drop (bX false (s.drop a)))).1/\(next s a).text=(oB ((s.drop a).drop (bX false (s.drop a)))).2.1/\s.drop (next s a).fin=((s.drop a).drop (bX false (s.drop a))).drop (oB ((s.drop a).drop (bX false (s.drop a)))).2.2:=by
 have hdd:(s.drop a).drop (bX false (s.drop a))=s.drop (a+bX false (s.drop a)):=List.drop_drop ..;rw[hdd];unfold next;simp only;cases hd:s.drop (a+bX false (s.drop a))with
 | nil=>simp[oB]
 | cons x l =>
  have e:∀n,s.drop (a+bX false (s.drop a)+n)=(x::l).drop n:=λn=>by rw[<-List.drop_drop,hd]
  simp only;rw[pQ];split
  ·cases hw:gE (x::l)with
   | none=>exact⟨rfl,rfl,e 1⟩
   | some p=>exact⟨rfl,rfl,e p.2⟩
  ·split
   ·exact⟨rfl,rfl,e 1⟩
   ·split
    ·exact⟨rfl,rfl,e _⟩
    ·exact⟨rfl,rfl,e 1⟩
theorem yP(s:Bs){a:Nat}(ha:a<=s.length):fP (s.drop a)=if(next s a).kind=0 then[]else((next s a).kind,(next s a).text)::fP (s.drop (next s a).fin):=by
 rw[uB];obtain⟨h1,h2,h3⟩:=aR0 s ha;rw[h1,h2,h3];generalize oB ((s.drop a).drop (bX false (s.drop a)))=x;obtain⟨k,t,n⟩:=x;cases k with
 | zero=>rfl
 | succ k=>simp
def aBu(k:Int)(n:Nat)(t:Bs):Tk:=if k=18\/k=20 then(2,t)else(1,cE k n t)
mutual
def xE:M->List Tk
 | .mk k n t e l =>
  if k=0 then[(1,fZ 0)]
  else if k=1 then[(1,if n=1 then[116,114,117,101]else[102,97,108,115,101])]
  else if k=19 then[(2,t)]
  else if k=21 then(3,[91])::(kO l++[(3,[93])])
  else if k=22 then(3,[123])::(sT l++[(3,[125])])
  else if k=23 then(1,[97,114,114,97,121])::(1,fZ e)::(3,[91])::(kO l++[(3,[93])])
  else if k=24 then(3,[40])::(kO l++[(3,[41])])
  else[(1,fZ k),aBu k n t]
def kO:List M->List Tk
 | []=>[]
 | x::l=>xE x++kO l
def sT:List M->List Tk
 | []=>[]
 | x::l=>xE x++yY l
def yY:List M->List Tk
 | []=>[]
 | x::l=>(3,[58])::(xE x++yZ l)
def yZ:List M->List Tk
 | []=>[]
 | x::l=>(3,[44])::(xE x++yY l)
end
end Go.Note
