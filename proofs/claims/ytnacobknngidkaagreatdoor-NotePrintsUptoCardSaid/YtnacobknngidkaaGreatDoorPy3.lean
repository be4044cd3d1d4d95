/-
  Values of the wire as they lie in memory: read (shared or not), and owned.
-/
import Derived.Test.YtnacobknngidkaaGreatDoorPy2
set_option linter.unusedVariables false
set_option linter.unusedSimpArgs false
namespace Go.Proofs.YtnacobknngidkaaGreatDoor
open Go Go.Sv Go.Note
set_option linter.unusedVariables false
inductive MV where
 | mk (k:Int) (n:Nat) (t:Bs) (s:SL) (e:Int) (l:List MV)
def MV.k:MV→Int | .mk k _ _ _ _ _=>k
def MV.n:MV→Nat | .mk _ n _ _ _ _=>n
def MV.t:MV→Bs | .mk _ _ t _ _ _=>t
def MV.s:MV→SL | .mk _ _ _ s _ _=>s
def MV.e:MV→Int | .mk _ _ _ _ e _=>e
def MV.l:MV→List MV | .mk _ _ _ _ _ l=>l
theorem MV.k_mk (k:Int) (n:Nat) (t:Bs) (s:SL) (e:Int) (l:List MV):(MV.mk k n t s e l).k=k:=rfl
theorem MV.n_mk (k:Int) (n:Nat) (t:Bs) (s:SL) (e:Int) (l:List MV):(MV.mk k n t s e l).n=n:=rfl
theorem MV.t_mk (k:Int) (n:Nat) (t:Bs) (s:SL) (e:Int) (l:List MV):(MV.mk k n t s e l).t=t:=rfl
theorem MV.s_mk (k:Int) (n:Nat) (t:Bs) (s:SL) (e:Int) (l:List MV):(MV.mk k n t s e l).s=s:=rfl
theorem MV.e_mk (k:Int) (n:Nat) (t:Bs) (s:SL) (e:Int) (l:List MV):(MV.mk k n t s e l).e=e:=rfl
theorem MV.l_mk (k:Int) (n:Nat) (t:Bs) (s:SL) (e:Int) (l:List MV):(MV.mk k n t s e l).l=l:=rfl
abbrev str (t:Bs):ByteArray:=⟨t.toArray⟩
def MV.g:MV→List Value
 | .mk k n t s e _=>[.int .i64 k,.int .u64 (n:Int),.string ⟨t.toArray⟩,.slice s.p s.n s.c,.int .i64 e]
def MV.v (x:MV):Value:=.agg x.g.toArray
mutual
def MV.m:MV→M
 | .mk k n t _ e l=>.mk k n t e (MV.mL l)
def MV.mL:List MV→List M
 | []=>[]
 | x::l=>MV.m x::MV.mL l
end
mutual
def MV.B:MV→List Nat
 | .mk _ _ _ s _ l=>s.own.toList++MV.BL l
def MV.BL:List MV→List Nat
 | []=>[]
 | x::l=>MV.B x++MV.BL l
end
theorem MV.mL_map (l:List MV):MV.mL l=l.map MV.m:=by
 induction l with
 | nil=>rfl
 | cons x l ih=>simp [MV.mL,ih]
theorem MV.BL_flat (l:List MV):MV.BL l=l.flatMap MV.B:=by
 induction l with
 | nil=>rfl
 | cons x l ih=>simp [MV.BL,ih]
theorem MV.m_mk (k:Int) (n:Nat) (t:Bs) (s:SL) (e:Int) (l:List MV):(MV.mk k n t s e l).m=.mk k n t e (l.map MV.m):=by rw [MV.m,MV.mL_map]
theorem MV.B_mk (k:Int) (n:Nat) (t:Bs) (s:SL) (e:Int) (l:List MV):(MV.mk k n t s e l).B=s.own.toList++l.flatMap MV.B:=by rw [MV.B,MV.BL_flat]
theorem MV.glen (x:MV):x.g.length=5:=by cases x; rfl
theorem MV.gone (x:MV):∀ v∈x.g,oneV v=true:=by
 cases x
 intro v hv
 simp only [MV.g,List.mem_cons,List.not_mem_nil,or_false] at hv
 rcases hv with h | h | h | h | h<;>rw [h]<;>rfl
theorem MV.lt_of_mem {k:Int} {n:Nat} {t:Bs} {s:SL} {e:Int} {l:List MV} {x:MV} (h:x∈l):SizeOf.sizeOf x<SizeOf.sizeOf (MV.mk k n t s e l):=by
 have:=List.sizeOf_lt_of_mem h
 simp only [MV.mk.sizeOf_spec]; omega
theorem MV.ind {P:MV→Prop} (h:∀ k n t s e l,(∀ x∈l,P x)→P (.mk k n t s e l)):∀ m,P m
 | .mk k n t s e l=>h k n t s e l fun x hx=>MV.ind h x
termination_by m=>SizeOf.sizeOf m
decreasing_by exact MV.lt_of_mem hx
inductive VR (Q:Nat→Prop) (w:World):MV→Prop where
 | mk {k:Int} {n:Nat} {t:Bs} {s:SL} {e:Int} {l:List MV}:l.length=s.n→s.n≤2^46→Rd w s.p s.n 5 (l.flatMap MV.g)→(∀ a,s.p=some a→s.n*5≠0→Q a.block)→(∀ x∈l,VR Q w x)→VR Q w (.mk k n t s e l)
theorem VR.ch {Q S:Nat→Prop} {w w':World} (hc:Ch S w w') (hn:∀ b,Q b→¬ S b):∀ x:MV,VR Q w x→VR Q w' x:=by
 refine MV.ind fun k n t s e l ih=>?_
 intro h
 cases h with
 | mk h1 h2 h3 h4 h5 =>
  exact .mk h1 h2 (h3.ch hc fun a ha h0=>hn _ (h4 a ha h0)) h4 fun x hx=>ih x hx (h5 x hx)
theorem VR.ch0 {Q:Nat→Prop} {w w':World} (hc:Ch (fun _=>False) w w') {x:MV} (h:VR Q w x):VR Q w' x:=VR.ch hc (fun _ _ h=>h) x h
theorem VR.mono {Q Q':Nat→Prop} {w:World} (hq:∀ b,Q b→Q' b):∀ x:MV,VR Q w x→VR Q' w x:=by
 refine MV.ind fun k n t s e l ih=>?_
 intro h
 cases h with
 | mk h1 h2 h3 h4 h5 =>
  exact .mk h1 h2 h3 (fun a ha h0=>hq _ (h4 a ha h0)) fun x hx=>ih x hx (h5 x hx)
theorem VR.inv {Q:Nat→Prop} {w:World} {x:MV} (h:VR Q w x):x.l.length=x.s.n∧x.s.n≤2^46∧Rd w x.s.p x.s.n 5 (x.l.flatMap MV.g)∧(∀ a,x.s.p=some a→x.s.n*5≠0→Q a.block)∧∀ y∈x.l,VR Q w y:=by
 cases h with
 | mk h1 h2 h3 h4 h5=>exact ⟨h1,h2,h3,h4,h5⟩
theorem VR.lt {Q:Nat→Prop} {w:World}:∀ x:MV,VR Q w x→VR (fun b=>Q b∧b<w.heap.size) w x:=by
 refine MV.ind fun k n t s e l ih=>?_
 intro h
 cases h with
 | mk h1 h2 h3 h4 h5 =>
  exact .mk h1 h2 h3 (fun a ha h0=>⟨h4 a ha h0,h3.lt a ha h0⟩) fun x hx=>ih x hx (h5 x hx)
def At (w:World) (b o:Nat) (x:MV):Prop:=∀ j v,x.g[j]?=some v→w.cell? ⟨b,o+j,none⟩=some v
theorem At.ch {S:Nat→Prop} {w w':World} {b o:Nat} {x:MV} (h:At w b o x) (hc:Ch S w w') (hn:¬ S b):At w' b o x:=fun j v hv=>by
 have h1:=h j v hv
 have hlt:b<w.heap.size:=by
  obtain ⟨cs,h2,_⟩:∃ cs,cellsAt w b=some cs∧cs[o+j]?=some v:=by
   unfold World.cell? at h1
   unfold cellsAt
   simp only at h1
   split at h1
   ·rename_i c t fz hh
    exact ⟨c.toList,by rw [hh],by simpa using h1⟩
   ·cases h1
  exact cells_lt h2
 have e:w'.cell? ⟨b,o+j,none⟩=w.cell? ⟨b,o+j,none⟩:=World.cell?_of_block (a:=⟨b,o+j,none⟩) (hc.keep b hlt hn)
 rw [e]; exact h1
theorem At.blk {w:World} {b:Nat} {x:MV} (h:blk w b=some x.g):At w b 0 x:=fun j v hv=>by rw [cell_blk h,Nat.zero_add]; exact hv
theorem VR.at {Q:Nat→Prop} {w:World} {x y:MV} (h:VR Q w x) {i:Nat} (hi:x.l[i]?=some y):∃ b o,x.s.p=some ⟨b,o,none⟩∧Q b∧At w b (o+i*5) y:=by
 obtain ⟨h1,h2,h3,h4,h5⟩:=h.inv
 obtain ⟨b,o,hp,ha⟩:=h3.at MV.glen hi (by decide)
 have hil:i<x.l.length:=(List.getElem?_eq_some_iff.1 hi).1
 exact ⟨b,o,hp,h4 _ hp (by omega),ha⟩
theorem rd5 {w:World} {b o:Nat} {x:MV} {K:Int→Int→ByteArray→Option Addr→Nat→Nat→Int→Prop} (h:At w b o x) (hk:K x.k (x.n:Int) ⟨x.t.toArray⟩ x.s.p x.s.n x.s.c x.e) :
 ∃ n,w.cell? ⟨b,o+0,none⟩=some (.int .i64 n)∧∃ n1,w.cell? ⟨b,o+1,none⟩=some (.int .u64 n1)∧∃ s,w.cell? ⟨b,o+2,none⟩=some (.string s)∧∃ p n2 c,w.cell? ⟨b,o+3,none⟩=some (.slice p n2 c)∧∃ n3,w.cell? ⟨b,o+4,none⟩=some (.int .i64 n3)∧K n n1 s p n2 c n3:=by
 cases x
 exact ⟨_,h 0 _ rfl,_,h 1 _ rfl,_,h 2 _ rfl,_,_,_,h 3 _ rfl,_,h 4 _ rfl,hk⟩
theorem At.k0 {w:World} {b o:Nat} {x:MV} (h:At w b o x):w.cell? ⟨b,o+0,none⟩=some (.int .i64 x.k):=by cases x; exact h 0 _ rfl
theorem At.n1 {w:World} {b o:Nat} {x:MV} (h:At w b o x):w.cell? ⟨b,o+1,none⟩=some (.int .u64 (x.n:Int)):=by cases x; exact h 1 _ rfl
theorem At.t2 {w:World} {b o:Nat} {x:MV} (h:At w b o x):w.cell? ⟨b,o+2,none⟩=some (.string ⟨x.t.toArray⟩):=by cases x; exact h 2 _ rfl
theorem At.s3 {w:World} {b o:Nat} {x:MV} (h:At w b o x):w.cell? ⟨b,o+3,none⟩=some (.slice x.s.p x.s.n x.s.c):=by cases x; exact h 3 _ rfl
theorem At.e4 {w:World} {b o:Nat} {x:MV} (h:At w b o x):w.cell? ⟨b,o+4,none⟩=some (.int .i64 x.e):=by cases x; exact h 4 _ rfl
theorem vv (x:MV):Value.agg (Array.mk [.int .i64 x.k,.int .u64 (x.n:Int),.string ⟨x.t.toArray⟩,.slice x.s.p x.s.n x.s.c,.int .i64 x.e])=x.v:=by cases x; rfl
theorem boxV {w:World} {x:MV} {t:TypeId} {K:Addr→World→Prop} (hk:∀ w',blk w' w.heap.size=some x.g→At w' w.heap.size 0 x→Ch (fun _=>False) w w'→w'.heap.size=w.heap.size+1→K ⟨w.heap.size,0,none⟩ w'):newB w x.g t K :=
 newB_blk fun w1 b1 c1 z1=>hk w1 b1 (At.blk b1) c1 (by omega)
inductive VO (w:World):MV→Prop where
 | mk {k:Int} {n:Nat} {t:Bs} {s:SL} {e:Int} {l:List MV}:l.length=s.n→s.n≤2^46→Ow w s.p s.n s.c 5 (l.flatMap MV.g) s.own→(∀ x∈l,VO w x)→(s.own.toList++l.flatMap MV.B).Nodup→VO w (.mk k n t s e l)
theorem VO.inv {w:World} {x:MV} (h:VO w x):x.l.length=x.s.n∧x.s.n≤2^46∧Ow w x.s.p x.s.n x.s.c 5 (x.l.flatMap MV.g) x.s.own∧(∀ y∈x.l,VO w y)∧x.B.Nodup:=by
 cases h with
 | mk h1 h2 h3 h4 h5=>exact ⟨h1,h2,h3,h4,by rw [MV.B_mk]; exact h5⟩
theorem VO.ch {S:Nat→Prop} {w w':World} (hc:Ch S w w'):∀ x:MV,VO w x→(∀ b∈x.B,¬ S b)→VO w' x:=by
 refine MV.ind fun k n t s e l ih=>?_
 intro h hn
 rw [MV.B_mk] at hn
 cases h with
 | mk h1 h2 h3 h4 h5 =>
  refine .mk h1 h2 (h3.ch hc fun b hb=>hn b (by simp [hb])) (fun x hx=>ih x hx (h4 x hx) fun b hb=>hn b ?_) h5
  exact List.mem_append.2 (.inr (List.mem_flatMap.2 ⟨x,hx,hb⟩))
theorem VO.lt {w:World}:∀ x:MV,VO w x→∀ b∈x.B,b<w.heap.size:=by
 refine MV.ind fun k n t s e l ih=>?_
 intro h b hb
 rw [MV.B_mk] at hb
 cases h with
 | mk h1 h2 h3 h4 h5 =>
  rcases List.mem_append.1 hb with hb | hb
  ·exact h3.blt b (by simpa [Option.mem_toList] using hb)
  ·obtain ⟨x,hx,hb⟩:=List.mem_flatMap.1 hb
   exact ih x hx (h4 x hx) b hb
def VE:El MV where
 g:=MV.g
 sz:=5
 B:=MV.B
 Ok:=VO
 glen:=MV.glen
 gone:=MV.gone
 ch h hc hn:=VO.ch hc _ h hn
 lt h:=VO.lt _ h
 nd h:=h.inv.2.2.2.2
theorem ow_block {w:World} {p:Option Addr} {n c sz:Nat} {xs:List Value} {b:Option Nat} (h:Ow w p n c sz xs b):∀ a,p=some a→n*sz≠0→b=some a.block:=by
 intro a ha h0
 obtain ⟨_,h2,h3⟩:=h
 rcases h3 with ⟨h3,h4⟩ | ⟨k,o,cs,h3,h4,_⟩
 ·have:n*sz≤c*sz:=Nat.mul_le_mul_right _ h2
  omega
 ·rw [h4] at ha; cases ha; exact h3
theorem VO.vr {w:World}:∀ x:MV,VO w x→∀ Q:Nat→Prop,(∀ b∈x.B,Q b)→VR Q w x:=by
 refine MV.ind fun k n t s e l ih=>?_
 intro h Q hq
 rw [MV.B_mk] at hq
 cases h with
 | mk h1 h2 h3 h4 h5 =>
  refine .mk h1 h2 h3.rd (fun a ha h0=>hq _ ?_) fun x hx=>ih x hx (h4 x hx) Q fun b hb=>hq b ?_
  ·have:=ow_block h3 a ha h0
   simp [this]
  ·exact List.mem_append.2 (.inr (List.mem_flatMap.2 ⟨x,hx,hb⟩))
theorem VO.vr' {w:World} {x:MV} (h:VO w x):VR (·∈x.B) w x:=VO.vr x h _ fun _ h=>h
theorem VO.none {w:World} {k:Int} {n:Nat} {t:Bs} {e:Int}:VO w (.mk k n t ⟨none,0,0,none⟩ e []):=.mk rfl (by decide) (by simpa using Ow.nil) (by simp) (by simp)
end Go.Proofs.YtnacobknngidkaaGreatDoor
