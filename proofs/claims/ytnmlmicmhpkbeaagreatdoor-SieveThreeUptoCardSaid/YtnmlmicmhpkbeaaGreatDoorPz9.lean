/-
  Taken together for one seat (rawpack.py): what other texts prove of values, texts, builders.
-/
import Derived.Test.YtnmlmicmhpkbeaaGreatDoorPz8
import Derived.Lib.IndexLaws
import Derived.Lib.ParseIntB
import Derived.Lib.Strings
import Derived.Shelf.Strings.SlTrimAscii
import Derived.Lib.Small
import Derived.Lib.Bytealg
import Derived.Sort.Statements
import Derived.Lib.ItoaMem
set_option linter.unusedVariables false
set_option linter.unusedSimpArgs false
namespace Go.Proofs.YtnmlmicmhpkbeaaGreatDoor
open Go Go.Sv Go.Note
set_option linter.unusedVariables false
theorem byteAt_get {s:ByteArray} {n:Nat} {x:UInt8} (h:s.data.toList[n]?=some x):byteAt s n=(x.toNat:Int):=by
 simp [byteAt,List.getD,h]
theorem get_lt (s:ByteArray) {n:Nat} (h:n<s.size):∃ x,s.data.toList[n]?=some x :=
 ⟨_,List.getElem?_eq_getElem (by simpa using h)⟩
def Place (ok:Bool) (r:Int):Prop:=(ok=true→r=-1)∧(ok=false→0≤r)
end Go.Proofs.YtnmlmicmhpkbeaaGreatDoor
namespace Go.Proofs.YtnmlmicmhpkbeaaGreatDoor
open Go Go.Sv Go.Note
set_option linter.unusedVariables false
def Gb (w w':World) (p':Option Addr) (n' c':Nat) (l':List UInt8) (b:Option Nat):Prop :=
 ∃ b',Ow w' p' n' c' 1 (bytesV l') b'∧(∀ k,b'=some k→b=some k∨w.heap.size≤k)∧Ch (fun k=>b=some k) w w'
theorem Gb.trans {w w1 w2:World} {p1 p2:Option Addr} {n1 n2 c1 c2:Nat} {l2:List UInt8} {b b1:Option Nat} (hb1:∀ k,b1=some k→b=some k∨w.heap.size≤k) (c1':Ch (fun k=>b=some k) w w1) (h2:Gb w1 w2 p2 n2 c2 l2 b1):Gb w w2 p2 n2 c2 l2 b:=by
 obtain ⟨b2,o2,f2,d2⟩:=h2
 refine ⟨b2,o2,fun k hk=>?_,c1'.trans d2 fun x hx hs=>?_⟩
 ·rcases f2 k hk with h | h
  ·exact hb1 k h
  ·exact .inr (Nat.le_trans c1'.size h)
 ·rcases hb1 x hs with h | h
  ·exact h
  ·omega
theorem size_of {x:ByteArray} {l:List UInt8} (h:x.data.toList=l):x.size=l.length:=by
 rw [← h,Array.length_toList]; rfl
theorem extract_data (s:ByteArray) (a b:Nat):(s.extract a b).data.toList=(s.data.toList.drop a).take (b-a):=by
 rw [ByteArray.data_extract,Array.toList_extract,List.extract_eq_take_drop]
attribute [local irreducible] Sif
end Go.Proofs.YtnmlmicmhpkbeaaGreatDoor
namespace Go.Proofs.YtnmlmicmhpkbeaaGreatDoor
open Go Go.Sv Go.Note
set_option linter.unusedVariables false
attribute [local irreducible] Sif
def UT (w:World):Prop:=Lib.Utf8Tabs 1 2 w
theorem ch_of_below {w w':World} (h:RowKit.Below w.heap.size w w'):Ch (fun _=>False) w w':=⟨h.os,h.tape,h.output,h.size,fun b hb _=>h.block b hb⟩
end Go.Proofs.YtnmlmicmhpkbeaaGreatDoor
namespace Go.Proofs.YtnmlmicmhpkbeaaGreatDoor
open Go Go.Sv Go.Note
set_option linter.unusedVariables false
attribute [local irreducible] Sif
theorem UT.ch {w w':World} (hU:UT w) (hw2:18≤w.heap.size) {S:Nat→Prop} (hc:Ch S w w') (h0:¬ S 1) (h1:¬ S 2):UT w':=by
 have e0:∀ o,w'.cell? ⟨1,o,none⟩=w.cell? ⟨1,o,none⟩:=fun o=>World.cell?_of_block (a:=⟨1,o,none⟩) (hc.keep 1 (by omega) h0)
 have e1:∀ o,w'.cell? ⟨2,o,none⟩=w.cell? ⟨2,o,none⟩:=fun o=>World.cell?_of_block (a:=⟨2,o,none⟩) (hc.keep 2 (by omega) h1)
 refine ⟨fun c hcc=>by rw [e0]; exact hU.1 c hcc,fun i hi=>?_⟩
 rw [e1,e1]
 exact hU.2 i hi
theorem oUtf8_ok {s:ByteArray} (hs:s.size≤2^48) {w:World} (hU:UT w) (hw2:18≤w.heap.size) {K:Value→World→Prop} (hk:∀ r w',Ch (fun _=>False) w w'→Place (textB s.data.toList) r→K (.int .i64 r) w') :
 callP Tryz.prog 86 [.string s] w K:=by
 apply ok_octet_Utf8
 have hlen:s.data.toList.length=s.size:=by rw [Array.length_toList]; rfl
 refine ⟨fun m i w'=>∃ k,k≤s.size∧i=(k:Int)∧m=s.size-k∧Ch (fun _=>False) w w'∧textB s.data.toList=textB (s.data.toList.drop k),⟨s.size,0,by omega,rfl,by omega,Ch.refl _ _,by rw [List.drop_zero]⟩,?_⟩
 rintro m i w1 ⟨k,hk1,rfl,rfl,c1,he⟩
 refine Sif_cases (fun h=>?_) (fun h=>?_)
 ·have hlt:k<s.size:=by have:=of_decide_eq_true h; omega
  refine ⟨by omega,by omega,?_⟩
  rw [Int.toNat_natCast]
  obtain ⟨l,hl⟩:∃ l,l=s.data.toList.drop k:=⟨_,rfl⟩
  have hll:l.length=s.size-k:=by rw [hl,List.length_drop,hlen]
  have hne:l≠[]:=fun e=>by rw [e] at hll; simp only [List.length_nil] at hll; omega
  have hR:(s.extract k s.size).data.toList=l:=by rw [extract_data,hl,List.take_of_length_le (by rw [List.length_drop,hlen]; omega)]
  have hRs:(s.extract k s.size).size=l.length:=size_of hR
  have hle:=chr_le l
  refine (Tryz.utf8_DecodeRuneInString _ w1 (hU.ch hw2 c1 (fun h=>h) fun h=>h)).mono ?_
  rintro e w3 ⟨rfl,hbel⟩
  have c3:=ch_of_below hbel
  obtain ⟨rr,n,hdec,hsp⟩:∃ rr n,Lib.decodeGo (s.extract k s.size)=(rr,n)∧((chr l=0∧rr=65533∧n=1)∨(Says l rr n∧n≠0)):=by
   unfold Lib.decodeGo
   rw [if_neg (by omega)]
   rcases decode_says (s:=s.extract k s.size) (i:=0) (by omega) with ⟨h1,h2⟩ | ⟨r,n,h1,h2,h3⟩
   ·exact ⟨_,_,h2,.inl ⟨by rw [List.drop_zero,hR] at h1; exact h1,rfl,rfl⟩⟩
   ·exact ⟨_,_,h1,.inr ⟨by rw [List.drop_zero,hR] at h2; exact h2,h3⟩⟩
  rw [hdec]
  refine ⟨_,rfl,_,_,rfl,?_⟩
  rw [← hl,textB_cons l hne] at he
  obtain ⟨J,hJ⟩:∃ J:World→Prop,J=fun w'=>w'=w3∧n=chr l∧n≠0:=⟨_,rfl⟩
  refine ⟨J,?_,?_⟩
  ·intro w4 hj
   rw [hJ] at hj
   obtain ⟨rfl,hn,hn0⟩:=hj
   simp only [nameI]
   rw [wrap_id (n:=(k:Int)+(n:Int)) (by omega) (by omega)]
   refine ⟨s.size-(k+n),by omega,k+n,by omega,by omega,rfl,c1.trans' c3,?_⟩
   rw [he,hl,List.drop_drop,← hl,← hn]
   simp [hn0]
  ·rcases hsp with ⟨h1,rfl,rfl⟩ | ⟨h1,h2⟩
   ·refine Sif_cases (fun _=>?_) (fun h=>absurd h (by decide))
    refine Sif_cases (fun _=>?_) (fun h=>absurd h (by decide))
    rw [h1] at he
    simp at he
    exact hk _ _ (c1.trans' c3) ⟨fun h=>(by rw [he] at h; cases h),fun _=>by omega⟩
   ·have toJ:J w3:=by rw [hJ]; exact ⟨rfl,h1.1,h2⟩
    refine Sif_cases (fun h3=>?_) (fun _=>toJ)
    refine Sif_cases (fun h4=>?_) (fun _=>toJ)
    have h3:=eq_of_beq h3
    have h4:=eq_of_beq h4
    obtain ⟨_,_,_,_,h5⟩:=h1
    rcases h5 with ⟨_,h,_⟩ | ⟨h,_⟩ | ⟨h,_⟩ | ⟨h,_⟩<;>omega
 ·have:k=s.size:=by have:=of_decide_eq_false h; omega
  subst this
  rw [List.drop_of_length_le (by omega),textB_nil] at he
  exact hk _ _ c1 ⟨fun _=>rfl,fun h=>(by rw [he] at h; cases h)⟩
theorem oAscii_ok {s:ByteArray} (hs:s.size≤2^48) {w:World} {K:Value→World→Prop} (hk:∀ r,Place (asciiB s.data.toList) r→K (.int .i64 r) w) :
 callP Tryz.prog 217 [.string s] w K:=by
 apply ok_octet_Ascii
 have hlen:s.data.toList.length=s.size:=by rw [Array.length_toList]; rfl
 refine ⟨fun m i w'=>∃ k,k≤s.size∧i=(k:Int)∧m=s.size-k∧w'=w∧asciiB s.data.toList=asciiB (s.data.toList.drop k),⟨s.size,0,by omega,rfl,by omega,rfl,by rw [List.drop_zero]⟩,?_⟩
 rintro m i w' ⟨k,hk1,rfl,rfl,rfl,he⟩
 refine Sif_cases (fun h=>?_) (fun h=>?_)
 ·have hlt:k<s.size:=by have:=of_decide_eq_true h; omega
  obtain ⟨x,hx⟩:=get_lt s hlt
  have hd:s.data.toList.drop k=x::s.data.toList.drop (k+1):=by
   rw [List.drop_eq_getElem_cons (by omega)]
   congr 1
   rw [List.getElem?_eq_getElem (by omega)] at hx
   exact Option.some.inj hx
  refine ⟨by omega,by omega,?_⟩
  rw [Int.toNat_natCast,byteAt_get hx]
  rw [hd] at he
  unfold asciiB at he
  rw [List.all_cons] at he
  refine Sif_cases (fun h1=>?_) (fun h1=>?_)
  ·have h2:¬ x.toNat≤127:=by have:=of_decide_eq_true h1; omega
   rw [decide_eq_false h2,Bool.false_and] at he
   exact hk _ ⟨fun h=>(by unfold asciiB at h; rw [he] at h; cases h),fun _=>by omega⟩
  ·have h2:x.toNat≤127:=by have:=of_decide_eq_false h1; omega
   rw [decide_eq_true h2,Bool.true_and] at he
   refine ⟨s.size-(k+1),by omega,k+1,by omega,?_,rfl,rfl,he⟩
   rw [wrap_id (n:=(k:Int)+1) (by omega) (by omega)]; omega
 ·have:k=s.size:=by have:=of_decide_eq_false h; omega
  subst this
  rw [List.drop_of_length_le (by omega)] at he
  exact hk _ ⟨fun _=>rfl,fun h=>(by rw [he] at h; cases h)⟩
end Go.Proofs.YtnmlmicmhpkbeaaGreatDoor
namespace Go.Proofs.YtnmlmicmhpkbeaaGreatDoor
open Go Go.Sv Go.Note
set_option linter.unusedVariables false
attribute [local irreducible] Sif
def pk (t:Tok):Nat:=if t.kind=5 then 4 else t.kind
def ptx (t:Tok):Bs:=if t.kind=5 then [34] else if t.kind=4 then [] else t.text
def rcl (S:ByteArray) (f:Nat) (t:Tok):List Value:=[.string S,.int .i64 (f:Int),.int .i64 (pk t:Int),.int .i64 (t.beg:Int),.string ⟨(ptx t).toArray⟩]
theorem cellK {w:World} {k:Nat} {cs:List Value} (h:blk w k=some cs) (i:Nat) {v:Value} (hv:cs[i]?=some v):w.cell? ⟨k,i,none⟩=some v:=by rw [cell_blk h,hv]
end Go.Proofs.YtnmlmicmhpkbeaaGreatDoor
namespace Go.Proofs.YtnmlmicmhpkbeaaGreatDoor
open Go Go.Sv Go.Note
set_option linter.unusedVariables false
attribute [local irreducible] Sif
def RS (S:ByteArray) (rb p:Nat) (w:World):Prop:=blk w rb=some (rcl S (next S.data.toList p).fin (next S.data.toList p))∧p≤S.size
theorem RS.ch {S:ByteArray} {rb p:Nat} {w w':World} (h:RS S rb p w) {Q:Nat→Prop} (c:Ch Q w w') (hn:¬ Q rb):RS S rb p w':=⟨by rw [c.blk (blk_lt h.1) hn]; exact h.1,h.2⟩
theorem RS.lt {S:ByteArray} {rb p:Nat} {w:World} (h:RS S rb p w):rb<w.heap.size:=blk_lt h.1
theorem sl (S:ByteArray):S.data.toList.length=S.size:=by rw [Array.length_toList]; rfl
end Go.Proofs.YtnmlmicmhpkbeaaGreatDoor
namespace Go.Note
open Go
set_option linter.unusedVariables false
def val (acc:Nat) (l:Bs):Nat:=l.foldl (fun n x=>10*n+(x.toNat-48)) acc
end Go.Note
namespace Go.Proofs.YtnmlmicmhpkbeaaGreatDoor
open Go Go.Sv Go.Note
set_option linter.unusedVariables false
attribute [local irreducible] Sif
structure LW (w:World):Prop where
 ut:UT w
 syn:∃ te pe,w.cell? ⟨11,0,none⟩=some (.iface te pe)
 ran:∃ te pe,w.cell? ⟨12,0,none⟩=some (.iface te pe)
 pow:Lib.TabIs Tryz.prog w "internal/strconv.uint64pow10" .u64 Lib.pow10Tab
 size:18≤w.heap.size
theorem LW.ch {w w':World} (h:LW w) {Q:Nat→Prop} (c:Ch Q w w') (hn:∀ b,b<18→¬ Q b):LW w':=by
 have hz:=h.size
 have e:∀ b,b<18→w'.cell? ⟨b,0,none⟩=w.cell? ⟨b,0,none⟩:=fun b hb=>World.cell?_of_block (a:=⟨b,0,none⟩) (c.keep b (by omega) (hn b hb))
 refine ⟨h.ut.ch (by omega) c (hn _ (by omega)) (hn _ (by omega)),by rw [e _ (by omega)]; exact h.syn,by rw [e _ (by omega)]; exact h.ran,?_,by have:=c.size; omega⟩
 have hp:=h.pow
 unfold Lib.TabIs World.var? at hp ⊢
 have hg:Tryz.prog.globalNamed "internal/strconv.uint64pow10" = some 4:=by kernel_rfl
 rw [hg] at hp ⊢
 simp only [Option.bind_some] at hp ⊢
 rw [c.keep _ (by omega) (hn _ (by omega))]; exact hp
theorem LW.ch0 {w w':World} (h:LW w) (c:Ch (fun _=>False) w w'):LW w':=h.ch c fun _ _ h=>h
theorem str_list (t:Bs):(ByteArray.mk t.toArray).data.toList=t:=by simp
end Go.Proofs.YtnmlmicmhpkbeaaGreatDoor
namespace Go.Proofs.YtnmlmicmhpkbeaaGreatDoor
open Go Go.Sv Go.Note
set_option linter.unusedVariables false
attribute [local irreducible] Sif
set_option maxRecDepth 4000
end Go.Proofs.YtnmlmicmhpkbeaaGreatDoor
namespace Go.Proofs.YtnmlmicmhpkbeaaGreatDoor
open Go Go.Sv Go.Note
set_option linter.unusedVariables false
attribute [local irreducible] Sif
set_option maxRecDepth 4000
theorem st5 {w:World} {k:Nat} {zs:List Value} {x:MV} {K:World→Prop} (h:blk w k=some zs) (hl:zs.length=5) (hk:∀ w',blk w' k=some x.g→Ch (·=k) w w'→w'.heap.size=w.heap.size→K w') :
 Sv.st w ⟨k,0,none⟩ (.int .i64 x.k) fun w1=>Sv.st w1 ⟨k,1,none⟩ (.int .u64 (x.n:Int)) fun w2=>Sv.st w2 ⟨k,2,none⟩ (.string ⟨x.t.toArray⟩) fun w3=>Sv.st w3 ⟨k,3,none⟩ (.slice x.s.p x.s.n x.s.c) fun w4=>Sv.st w4 ⟨k,4,none⟩ (.int .i64 x.e) fun w5=>K w5:=by
 obtain ⟨k1,n,t,s,e,l⟩:=x
 exact st_all [.int .i64 k1,.int .u64 (n:Int),.string ⟨t.toArray⟩,.slice s.p s.n s.c,.int .i64 e] 0 (K:=K) h (by rw [hl]; simp) fun w' b c z=>hk w' (by
  rw [b,putSeg,List.drop_of_length_le (by simp; omega)]; simp [MV.g]) c z
theorem ld5 {w:World} {k:Nat} {x:MV} {K:Value→World→Prop} (h:blk w k=some x.g) (hk:K x.v w) :
 ∃ n,w.cell? ⟨k,0,none⟩=some (.int .i64 n)∧∃ n1,w.cell? ⟨k,1,none⟩=some (.int .u64 n1)∧∃ s,w.cell? ⟨k,2,none⟩=some (.string s)∧∃ p n2 c,w.cell? ⟨k,3,none⟩=some (.slice p n2 c)∧∃ n3,w.cell? ⟨k,4,none⟩=some (.int .i64 n3) ∧
  K (.agg (Array.mk [.int .i64 n,.int .u64 n1,.string s,.slice p n2 c,.int .i64 n3])) w:=by
 cases x
 exact ⟨_,cellK h 0 rfl,_,cellK h 1 rfl,_,cellK h 2 rfl,_,_,_,cellK h 3 rfl,_,cellK h 4 rfl,hk⟩
end Go.Proofs.YtnmlmicmhpkbeaaGreatDoor
namespace Go.Proofs.YtnmlmicmhpkbeaaGreatDoor
open Go Go.Sv Go.Note
set_option linter.unusedVariables false
attribute [local irreducible] Sif
set_option maxRecDepth 4000
def VRow (Q:Nat→Prop) (w:World) (p:Option Addr) (n:Nat) (l:List MV):Prop:=l.length=n∧n≤2^46∧Rd w p n 5 (l.flatMap MV.g)∧(∀ a,p=some a→n*5≠0→Q a.block)∧∀ x∈l,VR Q w x
theorem VR.row {Q:Nat→Prop} {w:World} {x:MV} (h:VR Q w x):VRow Q w x.s.p x.s.n x.l:=h.inv
theorem VRow.ch {Q S:Nat→Prop} {w w':World} {p:Option Addr} {n:Nat} {l:List MV} (h:VRow Q w p n l) (hc:Ch S w w') (hn:∀ b,Q b→¬ S b):VRow Q w' p n l :=
 ⟨h.1,h.2.1,h.2.2.1.ch hc fun a ha h0=>hn _ (h.2.2.2.1 a ha h0),h.2.2.2.1,fun x hx=>VR.ch hc hn x (h.2.2.2.2 x hx)⟩
theorem VRow.ch0 {Q:Nat→Prop} {w w':World} {p:Option Addr} {n:Nat} {l:List MV} (h:VRow Q w p n l) (hc:Ch (fun _=>False) w w'):VRow Q w' p n l:=h.ch hc fun _ _ h=>h
theorem VRow.at {Q:Nat→Prop} {w:World} {p:Option Addr} {n:Nat} {l:List MV} (h:VRow Q w p n l) {i:Nat} {y:MV} (hi:l[i]?=some y):∃ b o,p=some ⟨b,o,none⟩∧Q b∧At w b (o+i*5) y:=by
 obtain ⟨h1,h2,h3,h4,h5⟩:=h
 obtain ⟨b,o,hp,ha⟩:=h3.at MV.glen hi (by decide)
 have hil:i<l.length:=(List.getElem?_eq_some_iff.1 hi).1
 exact ⟨b,o,hp,h4 _ hp (by omega),ha⟩
theorem nbx {w:World} {zs:List Value} (hl:zs.length=5) {x:MV} {t:TypeId} {K:Addr→World→Prop} (hk:∀ w',blk w' w.heap.size=some x.g→Ch (fun _=>False) w w'→w'.heap.size=w.heap.size+1→K ⟨w.heap.size,0,none⟩ w') :
 newB w zs t fun a w1=>Sv.st w1 (Addr.add a 0) (.int .i64 x.k) fun w2=>Sv.st w2 (Addr.add a 1) (.int .u64 (x.n:Int)) fun w3=>Sv.st w3 (Addr.add a 2) (.string ⟨x.t.toArray⟩) fun w4=>Sv.st w4 (Addr.add a 3) (.slice x.s.p x.s.n x.s.c) fun w5=>Sv.st w5 (Addr.add a 4) (.int .i64 x.e) fun w6=>K a w6:=by
 refine newB_blk fun w1 b1 c1 z1=>?_
 simp only [add_at,Nat.zero_add]
 refine st5 b1 hl fun w2 b2 c2 z2=>hk w2 b2 (c1.trans c2 fun x hx h=>by omega) (by omega)
theorem ldK {w:World} {k:Nat} {x:MV} {K:Int→Int→ByteArray→Option Addr→Nat→Nat→Int→Prop} (h:blk w k=some x.g) (hk:K x.k (x.n:Int) ⟨x.t.toArray⟩ x.s.p x.s.n x.s.c x.e) :
 ∃ n,w.cell? (Addr.add ⟨k,0,none⟩ 0)=some (.int .i64 n)∧∃ n1,w.cell? (Addr.add ⟨k,0,none⟩ 1)=some (.int .u64 n1)∧∃ s,w.cell? (Addr.add ⟨k,0,none⟩ 2)=some (.string s)∧∃ p n2 c,w.cell? (Addr.add ⟨k,0,none⟩ 3)=some (.slice p n2 c)∧∃ n3,w.cell? (Addr.add ⟨k,0,none⟩ 4)=some (.int .i64 n3)∧K n n1 s p n2 c n3:=by
 cases x
 simp only [add_at,Nat.zero_add]
 exact ⟨_,cellK h 0 rfl,_,cellK h 1 rfl,_,cellK h 2 rfl,_,_,_,cellK h 3 rfl,_,cellK h 4 rfl,hk⟩
theorem ldR {w:World} {b o i:Nat} {x:MV} {K:Int→Int→ByteArray→Option Addr→Nat→Nat→Int→Prop} (h:At w b (o+i*5) x) (hk:K x.k (x.n:Int) ⟨x.t.toArray⟩ x.s.p x.s.n x.s.c x.e) :
 ∃ n,w.cell? (Addr.add (Addr.add ⟨b,o,none⟩ (Int.toNat (i:Int)*5)) 0)=some (.int .i64 n)∧∃ n1,w.cell? (Addr.add (Addr.add ⟨b,o,none⟩ (Int.toNat (i:Int)*5)) 1)=some (.int .u64 n1)∧∃ s,w.cell? (Addr.add (Addr.add ⟨b,o,none⟩ (Int.toNat (i:Int)*5)) 2)=some (.string s)∧∃ p n2 c,w.cell? (Addr.add (Addr.add ⟨b,o,none⟩ (Int.toNat (i:Int)*5)) 3)=some (.slice p n2 c)∧∃ n3,w.cell? (Addr.add (Addr.add ⟨b,o,none⟩ (Int.toNat (i:Int)*5)) 4)=some (.int .i64 n3)∧K n n1 s p n2 c n3:=by
 simp only [add_at,Int.toNat_natCast]
 exact rd5 h hk
theorem eqF_ok {Q Q':Nat→Prop} {l l':List MV} (ih:∀ x∈l,∀ (y:MV) {w:World} {K:Value→World→Prop},VR Q w x→VR Q' w y→(∀ w',Ch (fun _=>False) w w'→K (.bool (decide (x.m=y.m))) w')→callP Tryz.prog 82 [x.v,y.v] w K)
 {w:World} {p p':Option Addr} {n n' c c':Nat} (h1:VRow Q w p n l) (h2:VRow Q' w p' n' l') {K:Value→World→Prop} (hk:∀ w',Ch (fun _=>False) w w'→K (.bool (decide (l.map MV.m=l'.map MV.m))) w') :
 callP Tryz.prog 130 [.slice p n c,.slice p' n' c',.func (.func 82) #[] #[]] w K:=by
 apply ok_slices_EqualFunc
 have hl:=h1.1
 have hl':=h2.1
 have hn46:=h1.2.1
 refine Sif_cases (fun h=>?_) (fun h=>?_)
 ·rw [int_bne,Bool.not_eq_true'] at h
  have h:=of_decide_eq_false h
  have:=hk w (Ch.refl _ _)
  rw [decide_eq_false] at this
  ·exact this
  ·intro e
   have:=(mL_eq.1 e).1
   omega
 ·rw [int_bne,Bool.not_eq_false'] at h
  have hnn:n=n':=by have:=of_decide_eq_true h; omega
  refine ⟨fun m i w1=>∃ j:Nat,i=(j:Int)∧m=n-j∧j≤n∧Ch (fun _=>False) w w1∧∀ q,q<j→∀ x y,l[q]?=some x→l'[q]?=some y→x.m=y.m,⟨n,0,rfl,rfl,Nat.zero_le _,Ch.refl _ _,fun q hq=>by omega⟩,?_⟩
  rintro m i w1 ⟨j,rfl,rfl,hj,c1,hall⟩
  refine Sif_cases (fun h=>?_) (fun h=>?_)
  ·have hjl:j<n:=by have:=of_decide_eq_true h; omega
   obtain ⟨x,hxi⟩:∃ x,l[j]?=some x:=⟨l[j]'(by omega),List.getElem?_eq_getElem _⟩
   obtain ⟨y,hyi⟩:∃ y,l'[j]?=some y:=⟨l'[j]'(by omega),List.getElem?_eq_getElem _⟩
   obtain ⟨bx,ox,rfl,_,ax⟩:=(h1.ch0 c1).at hxi
   refine ⟨by omega,by omega,?_⟩
   simp only [nn]
   refine ldR ax ?_
   refine nbx rfl fun w2 b2 c2 z2=>?_
   obtain ⟨by',oy,rfl,_,ay⟩:=(h2.ch0 (c1.trans' c2)).at hyi
   refine ⟨by omega,by omega,?_⟩
   simp only
   refine ldR ay ?_
   refine nbx rfl fun w3 b3 c3 z3=>?_
   have b2':=(c3.blk (blk_lt b2) id).trans b2
   refine ldK b2' (ldK b3 ?_)
   have c13:=(c1.trans' c2).trans' c3
   rw [vv x,vv y]
   refine ⟨by kernel_rfl,ih x (List.mem_of_getElem? hxi) y ((h1.ch0 c13).2.2.2.2 x (List.mem_of_getElem? hxi)) ((h2.ch0 c13).2.2.2.2 y (List.mem_of_getElem? hyi)) fun w4 c4=>⟨_,rfl,?_⟩⟩
   refine Sif_cases (fun h=>?_) (fun h=>?_)
   ·rw [Bool.not_eq_true'] at h
    have h:=of_decide_eq_false h
    have:=hk w4 (c13.trans' c4)
    rw [decide_eq_false] at this
    ·exact this
    ·intro e
     exact h ((mL_eq.1 e).2 j (by omega) x y hxi hyi)
   ·rw [Bool.not_eq_false'] at h
    have hxy:=of_decide_eq_true h
    rw [wrap_id (n:=(j:Int)+1) (by omega) (by omega)]
    refine ⟨n-(j+1),by omega,j+1,by omega,rfl,by omega,c13.trans' c4,fun q hq a b ha hb=>?_⟩
    by_cases hqj:q=j
    ·subst hqj
     rw [hxi] at ha; rw [hyi] at hb
     cases ha; cases hb; exact hxy
    ·exact hall q (by omega) a b ha hb
  ·have hjl:j=n:=by have:=of_decide_eq_false h; omega
   have:=hk w1 c1
   rw [decide_eq_true] at this
   ·exact this
   ·exact mL_eq.2 ⟨by omega,fun q hq=>hall q (by omega)⟩
theorem vEqual_ok {Q Q':Nat→Prop}:∀ (x y:MV) {w:World} {K:Value→World→Prop},VR Q w x→VR Q' w y→(∀ w',Ch (fun _=>False) w w'→K (.bool (decide (x.m=y.m))) w') →
 callP Tryz.prog 82 [x.v,y.v] w K:=by
 refine MV.ind fun k n t s e l ih=>?_
 rintro ⟨k',n',t',s',e',l'⟩ w K hx hy hk
 apply ok_value_Equal
 refine boxV (x:=.mk k n t s e l) fun w1 b1 a1 c1 z1=>boxV (x:=.mk k' n' t' s' e' l') fun w2 b2 a2 c2 z2=>?_
 have a1':=a1.ch c2 id
 have c12:=c1.trans' c2
 simp only [add_at]
 rw [MV.m_mk,MV.m_mk] at hk
 have no:¬ (M.mk k n t e (l.map MV.m)=M.mk k' n' t' e' (l'.map MV.m))→K (.bool false) w2:=fun h=>by
  have:=hk w2 c12
  rwa [decide_eq_false h] at this
 have ibeq:∀ a b:Int,(a == b)=decide (a=b):=fun a b=>by by_cases h:a=b<;>simp [h]
 refine ⟨_,a1'.k0,_,a2.k0,?_⟩
 simp only [MV.k_mk,ibeq]
 refine Sif_cases (fun hk1=>?_) (fun h=>no fun he=>?_)
 ·have hk1:=of_decide_eq_true hk1
  refine ⟨_,a1'.n1,_,a2.n1,?_⟩
  simp only [MV.n_mk]
  refine Sif_cases (fun hn1=>?_) (fun h=>no fun he=>?_)
  ·have hn1:n=n':=by have:=of_decide_eq_true hn1; omega
   refine ⟨_,a1'.t2,_,a2.t2,?_⟩
   simp only [MV.t_mk]
   rw [bs_eq]
   refine Sif_cases (fun ht1=>?_) (fun h=>no fun he=>?_)
   ·have ht1:=of_decide_eq_true ht1
    refine ⟨_,a1'.e4,_,a2.e4,?_⟩
    simp only [MV.e_mk]
    refine Sif_cases (fun he1=>?_) (fun h=>no fun he=>?_)
    ·have he1:=of_decide_eq_true he1
     refine ⟨_,_,_,a1'.s3,_,_,_,a2.s3,?_⟩
     refine eqF_ok (l:=l) (l':=l') ih (hx.ch0 c12).row (hy.ch0 c12).row fun w3 c3=>⟨_,rfl,?_⟩
     have:=hk w3 (c12.trans' c3)
     rw [hk1,hn1,ht1,he1] at this
     simpa using this
    ·simp only [M.mk.injEq] at he
     exact of_decide_eq_false h he.2.2.2.1
   ·simp only [M.mk.injEq] at he
    exact of_decide_eq_false h he.2.2.1
  ·simp only [M.mk.injEq] at he
   exact of_decide_eq_false h (by omega)
 ·simp only [M.mk.injEq] at he
  exact of_decide_eq_false h he.1
theorem intEq (x y:Int):(x == y)=decide (x=y):=by
 by_cases h:x=y
 ·subst h; simp
 ·rw [decide_eq_false h,beq_eq_false_iff_ne]; exact h
theorem wrap64 {n:Nat} (h:n<18446744073709551616):IntKind.i64.wrap (n:Int)=if n<9223372036854775808 then (n:Int) else (n:Int)-18446744073709551616:=by
 unfold IntKind.wrap
 simp [IntKind.bits,IntKind.signed,Int.bmod]
 split<;>split<;>omega
theorem VRow.lt {Q:Nat→Prop} {w:World} {p:Option Addr} {n:Nat} {l:List MV} (h:VRow Q w p n l):VRow (fun b=>Q b∧b<w.heap.size) w p n l :=
 ⟨h.1,h.2.1,h.2.2.1,fun a ha h0=>⟨h.2.2.2.1 a ha h0,h.2.2.1.lt a ha h0⟩,fun x hx=>VR.lt x (h.2.2.2.2 x hx)⟩
end Go.Proofs.YtnmlmicmhpkbeaaGreatDoor
namespace Go.Note
open Go
set_option linter.unusedVariables false
def lex (a b:Int):Int:=if a≠0 then a else b
mutual
def ordM:M→M→Int
 | .mk k n t e l,.mk k' n' t' e' l'=>lex (Lib.compareInt k k') (lex (Lib.compareInt n n') (lex (Lib.compareBytes t t') (lex (ordL l l') (Lib.compareInt e e'))))
def ordL:List M→List M→Int
 | [],[]=>0
 | [],_::_=>-1
 | _::_,[]=>1
 | x::l,y::l'=>lex (ordM x y) (ordL l l')
end
theorem cI_eq (x y:Int):Lib.compareInt x y=0↔x=y:=by
 unfold Lib.compareInt
 split
 ·simp; omega
 ·split
  ·simp; omega
  ·simp; omega
theorem cI_anti (x y:Int):Lib.compareInt y x=- Lib.compareInt x y:=by
 unfold Lib.compareInt
 split<;>split<;>(try split)<;>(try split)<;>omega
theorem cI_lt (x y:Int):Lib.compareInt x y<0↔x<y:=by
 unfold Lib.compareInt
 split
 ·simp; omega
 ·split
  ·simp; omega
  ·simp; omega
theorem cB_eq:∀ (x y:Bs),Lib.compareBytes x y=0↔x=y
 | [],[]=>by simp [Lib.compareBytes]
 | [],_::_=>by simp [Lib.compareBytes]
 | _::_,[]=>by simp [Lib.compareBytes]
 | a::x,b::y=>by
  unfold Lib.compareBytes
  have ih:=cB_eq x y
  by_cases h1:a<b
  ·rw [if_pos h1]
   simp only [List.cons.injEq]
   constructor
   ·intro h; cases h
   ·rintro ⟨rfl,_⟩; exact absurd h1 (UInt8.lt_irrefl _)
  ·rw [if_neg h1]
   by_cases h2:b<a
   ·rw [if_pos h2]
    simp only [List.cons.injEq]
    constructor
    ·intro h; cases h
    ·rintro ⟨rfl,_⟩; exact absurd h2 (UInt8.lt_irrefl _)
   ·rw [if_neg h2,ih]
    have:a=b:=UInt8.le_antisymm (UInt8.not_lt.1 h2) (UInt8.not_lt.1 h1)
    simp [this]
theorem cB_anti:∀ (x y:Bs),Lib.compareBytes y x=- Lib.compareBytes x y
 | [],[]=>by simp [Lib.compareBytes]
 | [],_::_=>by simp [Lib.compareBytes]
 | _::_,[]=>by simp [Lib.compareBytes]
 | a::x,b::y=>by
  unfold Lib.compareBytes
  by_cases h1:a<b
  ·have h2:¬ b<a:=fun h=>UInt8.lt_irrefl _ (UInt8.lt_trans h1 h)
   simp [h1,h2]
  ·by_cases h2:b<a
   ·simp [h1,h2]
   ·simp [h1,h2,cB_anti x y]
theorem cB_trans:∀ (x y z:Bs),Lib.compareBytes x y<0→Lib.compareBytes y z<0→Lib.compareBytes x z<0
 | [],[],_,h,_=>by simp [Lib.compareBytes] at h
 | [],_::_,[],_,h=>by simp [Lib.compareBytes] at h
 | [],_::_,_::_,_,_=>by simp [Lib.compareBytes]
 | _::_,[],_,h,_=>by simp [Lib.compareBytes] at h
 | _::_,_::_,[],_,h=>by simp [Lib.compareBytes] at h
 | a::x,b::y,c::z,h1,h2=>by
  unfold Lib.compareBytes at h1 h2 ⊢
  by_cases ab:a<b
  ·by_cases bc:b<c
   ·rw [if_pos (UInt8.lt_trans ab bc)]; decide
   ·rw [if_neg bc] at h2
    by_cases cb:c<b
    ·rw [if_pos cb] at h2; exact absurd h2 (by decide)
    ·have:b=c:=UInt8.le_antisymm (UInt8.not_lt.1 cb) (UInt8.not_lt.1 bc)
     subst this
     rw [if_pos ab]; decide
  ·rw [if_neg ab] at h1
   by_cases ba:b<a
   ·rw [if_pos ba] at h1; exact absurd h1 (by decide)
   ·have:a=b:=UInt8.le_antisymm (UInt8.not_lt.1 ba) (UInt8.not_lt.1 ab)
    subst this
    rw [if_neg ba] at h1
    by_cases bc:a<c
    ·rw [if_pos bc]; decide
    ·rw [if_neg bc] at h2 ⊢
     by_cases cb:c<a
     ·rw [if_pos cb] at h2; exact absurd h2 (by decide)
     ·rw [if_neg cb] at h2 ⊢
      exact cB_trans x y z h1 h2
theorem lex_eq {a b:Int}:lex a b=0↔a=0∧b=0:=by
 unfold lex
 split
 ·rename_i h; simp [h]
 ·rename_i h
  simp only [ne_eq,Decidable.not_not] at h
  simp [h]
theorem lex_anti {a b a' b':Int} (h1:a'=-a) (h2:b'=-b):lex a' b'=- lex a b:=by
 unfold lex
 subst h1 h2
 by_cases h:a=0
 ·simp [h]
 ·rw [if_pos (by omega),if_pos h]
theorem lex_lt {a b:Int}:lex a b<0↔a<0∨(a=0∧b<0):=by
 unfold lex
 split<;>omega
theorem ordL_eq {l:List M} (ih:∀ x∈l,∀ y,ordM x y=0↔x=y):∀ l',ordL l l'=0↔l=l':=by
 induction l with
 | nil=>intro l'; cases l'<;>simp [ordL]
 | cons x l ihl =>
  intro l'
  cases l' with
  | nil=>simp [ordL]
  | cons y l' =>
   rw [ordL,lex_eq,ih x (by simp),ihl (fun z hz=>ih z (by simp [hz]))]
   simp
theorem ordM_eq:∀ x y:M,ordM x y=0↔x=y:=by
 refine M.ind fun k n t e l ih=>?_
 rintro ⟨k',n',t',e',l'⟩
 rw [ordM,lex_eq,lex_eq,lex_eq,lex_eq,cI_eq,cI_eq,cB_eq,cI_eq,ordL_eq ih]
 simp only [M.mk.injEq]
 constructor
 ·rintro ⟨h1,h2,h3,h4,h5⟩; exact ⟨h1,by omega,h3,h5,h4⟩
 ·rintro ⟨h1,h2,h3,h4,h5⟩; exact ⟨h1,by omega,h3,h5,h4⟩
theorem ordL_anti {l:List M} (ih:∀ x∈l,∀ y,ordM y x=- ordM x y):∀ l',ordL l' l=- ordL l l':=by
 induction l with
 | nil=>intro l'; cases l'<;>simp [ordL]
 | cons x l ihl =>
  intro l'
  cases l' with
  | nil=>simp [ordL]
  | cons y l' =>
   rw [ordL,ordL]
   exact lex_anti (ih x (by simp) y) (ihl (fun z hz=>ih z (by simp [hz])) l')
theorem ordM_anti:∀ x y:M,ordM y x=- ordM x y:=by
 refine M.ind fun k n t e l ih=>?_
 rintro ⟨k',n',t',e',l'⟩
 rw [ordM,ordM]
 exact lex_anti (cI_anti _ _) (lex_anti (cI_anti _ _) (lex_anti (cB_anti _ _) (lex_anti (ordL_anti ih l') (cI_anti _ _))))
theorem ordL_trans {l:List M} (ih:∀ x∈l,∀ y z,ordM x y<0→ordM y z<0→ordM x z<0):∀ l' l'',ordL l l'<0→ordL l' l''<0→ordL l l''<0:=by
 induction l with
 | nil =>
  intro l' l'' h1 h2
  cases l' with
  | nil=>simp [ordL] at h1
  | cons y l' =>
   cases l'' with
   | nil=>simp [ordL] at h2
   | cons z l''=>simp [ordL]
 | cons x l ihl =>
  intro l' l'' h1 h2
  cases l' with
  | nil=>simp [ordL] at h1
  | cons y l' =>
   cases l'' with
   | nil=>simp [ordL] at h2
   | cons z l'' =>
    rw [ordL,lex_lt] at h1 h2 ⊢
    rcases h1 with h1 | ⟨h1,h1'⟩
    ·rcases h2 with h2 | ⟨h2,h2'⟩
     ·exact .inl (ih x (by simp) y z h1 h2)
     ·rw [ordM_eq] at h2; subst h2; exact .inl h1
    ·rw [ordM_eq] at h1; subst h1
     rcases h2 with h2 | ⟨h2,h2'⟩
     ·exact .inl h2
     ·exact .inr ⟨h2,ihl (fun z hz=>ih z (by simp [hz])) l' l'' h1' h2'⟩
theorem lex_trans {α β:Type} {c:α→α→Int} {d:β→β→Int} (ce:∀ x y,c x y=0↔x=y) {x y z:α} {u v r:β} (ct:c x y<0→c y z<0→c x z<0) (dt:d u v<0→d v r<0→d u r<0)
 (h1:lex (c x y) (d u v)<0) (h2:lex (c y z) (d v r)<0):lex (c x z) (d u r)<0:=by
 rw [lex_lt] at h1 h2 ⊢
 rcases h1 with h1 | ⟨h1,h1'⟩
 ·rcases h2 with h2 | ⟨h2,h2'⟩
  ·exact .inl (ct h1 h2)
  ·rw [ce] at h2; subst h2; exact .inl h1
 ·rw [ce] at h1; subst h1
  rcases h2 with h2 | ⟨h2,h2'⟩
  ·exact .inl h2
  ·exact .inr ⟨h2,dt h1' h2'⟩
theorem cI_trans (x y z:Int):Lib.compareInt x y<0→Lib.compareInt y z<0→Lib.compareInt x z<0:=by
 rw [cI_lt,cI_lt,cI_lt]; omega
theorem ordM_trans:∀ x y z:M,ordM x y<0→ordM y z<0→ordM x z<0:=by
 refine M.ind fun k n t e l ih=>?_
 rintro ⟨k',n',t',e',l'⟩ ⟨k'',n'',t'',e'',l''⟩ h1 h2
 rw [ordM] at h1 h2 ⊢
 have L:=ordL_trans ih l' l''
 have leq:∀ x y:List M,ordL x y=0↔x=y:=fun x y=>ordL_eq (fun z _=>ordM_eq z) y
 refine lex_trans (c:=Lib.compareInt) (d:=fun (u v:Nat × Bs × List M × Int)=>lex (Lib.compareInt u.1 v.1) (lex (Lib.compareBytes u.2.1 v.2.1) (lex (ordL u.2.2.1 v.2.2.1) (Lib.compareInt u.2.2.2 v.2.2.2)))) (u:=(n,t,l,e)) (v:=(n',t',l',e')) (r:=(n'',t'',l'',e'')) cI_eq (cI_trans _ _ _) (fun h1 h2=>?_) h1 h2
 refine lex_trans (c:=fun (x y:Nat)=>Lib.compareInt x y) (d:=fun (u v:Bs × List M × Int)=>lex (Lib.compareBytes u.1 v.1) (lex (ordL u.2.1 v.2.1) (Lib.compareInt u.2.2 v.2.2))) (u:=(t,l,e)) (v:=(t',l',e')) (r:=(t'',l'',e'')) (fun x y=>by rw [cI_eq]; omega) (cI_trans _ _ _) (fun h1 h2=>?_) h1 h2
 refine lex_trans (c:=Lib.compareBytes) (d:=fun (u v:List M × Int)=>lex (ordL u.1 v.1) (Lib.compareInt u.2 v.2)) (u:=(l,e)) (v:=(l',e')) (r:=(l'',e'')) cB_eq (cB_trans _ _ _) (fun h1 h2=>?_) h1 h2
 exact lex_trans (c:=ordL) (d:=Lib.compareInt) (u:=e) (v:=e') (r:=e'') leq L (cI_trans _ _ _) h1 h2
theorem dup_adjacent:∀ (l:List M),(l.Pairwise fun x y=>¬ ordM y x<0)→(¬ l.Nodup↔∃ i x y,l[i]?=some x∧l[i+1]?=some y∧ordM x y=0)
 | [],_=>by simp
 | [x],_=>by simp
 | x::y::l,hp=>by
  have hp':=List.pairwise_cons.1 hp
  have ih:=dup_adjacent (y::l) hp'.2
  constructor
  ·intro h
   by_cases hxy:x=y
   ·exact ⟨0,x,y,rfl,rfl,(ordM_eq x y).2 hxy⟩
   ·have hnd:¬ (y::l).Nodup:=by
     intro hnd
     apply h
     refine List.nodup_cons.2 ⟨fun hm=>?_,hnd⟩
     rcases List.mem_cons.1 hm with e | hm
     ·exact hxy e
     ·have h1:=hp'.1 y (by simp)
      have h2:=(List.pairwise_cons.1 hp'.2).1 x hm
      have h3:=ordM_anti x y
      have:ordM x y=0:=by omega
      exact hxy ((ordM_eq x y).1 this)
    obtain ⟨i,a,b,h1,h2,h3⟩:=ih.1 hnd
    exact ⟨i+1,a,b,by simpa using h1,by simpa using h2,h3⟩
  ·rintro ⟨i,a,b,h1,h2,h3⟩
   have hab:=(ordM_eq a b).1 h3
   subst hab
   intro hnd
   have h1':=List.getElem?_eq_some_iff.1 h1
   have h2':=List.getElem?_eq_some_iff.1 h2
   obtain ⟨g1,g2⟩:=h1'
   obtain ⟨g3,g4⟩:=h2'
   have:=(List.pairwise_iff_getElem.1 hnd) i (i+1) g1 g3 (by omega)
   exact this (g2.trans g4.symm)
end Go.Note
namespace Go.Proofs.YtnmlmicmhpkbeaaGreatDoor
open Go Go.Sv Go.Note
set_option linter.unusedVariables false
attribute [local irreducible] Sif
set_option maxRecDepth 4000
theorem uVals:Tryz.prog.underlying 23=some (.slice 25):=by kernel_rfl
theorem iVal:InfoIs Tryz.prog 25 5 64 (.agg #[.int .i64 0,.int .u64 0,.string ⟨#[]⟩,.slice none 0 0,.int .i64 0]):=.of (by kernel_rfl) (by kernel_rfl) (by kernel_rfl)
theorem gg (x:MV):[Value.int .i64 x.k,.int .u64 (x.n:Int),.string ⟨x.t.toArray⟩,.slice x.s.p x.s.n x.s.c,.int .i64 x.e]=x.g:=by cases x; rfl
end Go.Proofs.YtnmlmicmhpkbeaaGreatDoor
namespace Go.Proofs.YtnmlmicmhpkbeaaGreatDoor
open Go Go.Sv Go.Note Go.Sort Go.RowKit Go.Shelf
set_option linter.unusedVariables false
attribute [local irreducible] Sif
set_option maxRecDepth 4000
theorem VRow.qt {Q:Nat→Prop} {w w':World} {p:Option Addr} {n:Nat} {l:List MV} (h:VRow Q w p n l) (q:Qt w w'):VRow Q w' p n l:=h.ch0 q.ch
theorem st_dr {w:World} {b o:Nat} {v:Value} {K:World→Prop} {cs:List Value} (h:blk w b=some cs) (ho:o<cs.length)
 (hk:∀ w',blk w' b=some (cs.set o v)→Ch (·=b) w w'→w'.heap.size=w.heap.size→w'.drawn=w.drawn→K w'):Sv.st w ⟨b,o,none⟩ v K:=by
 refine ⟨?_,frozen_blk h ho,hk _ (setCell_blk h o v) (setCell_ch w b o v) (by simp) rfl⟩
 show _=_; rw [cell_blk h]; simp [ho]
theorem nbq {w:World} {zs:List Value} (hl:zs.length=5) {x:MV} {t:TypeId} {K:Addr→World→Prop} (hk:∀ w',blk w' w.heap.size=some x.g→Qt w w'→w'.heap.size=w.heap.size+1→K ⟨w.heap.size,0,none⟩ w') :
 newB w zs t fun a w1=>Sv.st w1 (Addr.add a 0) (.int .i64 x.k) fun w2=>Sv.st w2 (Addr.add a 1) (.int .u64 (x.n:Int)) fun w3=>Sv.st w3 (Addr.add a 2) (.string ⟨x.t.toArray⟩) fun w4=>Sv.st w4 (Addr.add a 3) (.slice x.s.p x.s.n x.s.c) fun w5=>Sv.st w5 (Addr.add a 4) (.int .i64 x.e) fun w6=>K a w6:=by
 refine newB_qt fun w1 b1 q1 z1=>?_
 match zs,hl with
 | [z0,z1,z2,z3,z4],_ =>
  obtain ⟨k,n,t,s,e,l⟩:=x
  simp only [add_at,Nat.zero_add]
  refine st_dr b1 (by simp) fun w2 b2 c2 g2 d2=>st_dr b2 (by simp) fun w3 b3 c3 g3 d3=>st_dr b3 (by simp) fun w4 b4 c4 g4 d4=>st_dr b4 (by simp) fun w5 b5 c5 g5 d5=>st_dr b5 (by simp) fun w6 b6 c6 g6 d6=>?_
  refine hk w6 b6 ⟨((((q1.ch.trans c2 fun x hx h=>by omega).trans c3 fun x hx h=>by omega).trans c4 fun x hx h=>by omega).trans c5 fun x hx h=>by omega).trans c6 fun x hx h=>by omega,?_⟩ (by omega)
  have:=q1.dr; omega
theorem or3_ok {w:World} {b:Nat} {x y z:Int} {K:Value→World→Prop} (hb:blk w b=some [.int .i64 x,.int .i64 y,.int .i64 z]) (hk:K (.int .i64 (lex x (lex y z))) w):callP Tryz.prog 266 [.slice (some ⟨b,0,none⟩) 3 3] w K:=by
 refine ok_cmp_Or ?_
 refine ⟨fun m i w'=>∃ j:Nat,i=(j:Int)∧j≤3∧m=3-j∧w'=w∧(0<j→x=0)∧(1<j→y=0)∧(2<j→z=0),⟨3,0,rfl,by omega,rfl,rfl,by omega,by omega,by omega⟩,?_⟩
 rintro m i w1 ⟨j,rfl,hj,rfl,rfl,h0,h1,h2⟩
 refine Sif_cases (fun hlt=>?_) fun hge=>?_
 ·have hlt':(j:Int)<3:=by simpa using hlt
  refine ⟨by omega,by omega,?_⟩
  simp only [nn,add_at,Int.toNat_natCast,Nat.mul_one,Nat.zero_add]
  have hc:j=0∨j=1∨j=2:=by omega
  rcases hc with rfl | rfl | rfl
  ·refine ⟨x,by show _=_; rw [cell_blk hb]; rfl,Sif_cases (fun h=>?_) fun h=>?_⟩
   ·have h:x≠0:=by simpa using h
    unfold lex at hk; rw [if_pos h] at hk; exact hk
   ·have h:x=0:=by simpa using h
    exact ⟨2,by omega,1,by decide,by omega,rfl,by trivial,fun _=>h,by omega,by omega⟩
  ·refine ⟨y,by show _=_; rw [cell_blk hb]; rfl,Sif_cases (fun h=>?_) fun h=>?_⟩
   ·have h:y≠0:=by simpa using h
    have hx:=h0 (by omega)
    unfold lex at hk; rw [if_neg (by simp [hx]),if_pos h] at hk; exact hk
   ·have h:y=0:=by simpa using h
    exact ⟨1,by omega,2,by decide,by omega,rfl,by trivial,fun _=>h0 (by omega),fun _=>h,by omega⟩
  ·refine ⟨z,by show _=_; rw [cell_blk hb]; rfl,Sif_cases (fun h=>?_) fun h=>?_⟩
   ·have hx:=h0 (by omega)
    have hy:=h1 (by omega)
    unfold lex at hk; rw [if_neg (by simp [hx]),if_neg (by simp [hy])] at hk; exact hk
   ·have h:z=0:=by simpa using h
    exact ⟨0,by omega,3,by decide,by omega,rfl,by trivial,fun _=>h0 (by omega),fun _=>h1 (by omega),fun _=>h⟩
 ·have:j=3:=by
   have:¬ (j:Int)<3:=by simpa using hge
   omega
  subst this
  have hx:=h0 (by omega)
  have hy:=h1 (by omega)
  have hz:=h2 (by omega)
  subst hx hy hz
  exact hk
theorem or2_ok {w:World} {b:Nat} {x y:Int} {K:Value→World→Prop} (hb:blk w b=some [.int .i64 x,.int .i64 y]) (hk:K (.int .i64 (lex x y)) w):callP Tryz.prog 266 [.slice (some ⟨b,0,none⟩) 2 2] w K:=by
 refine ok_cmp_Or ?_
 refine ⟨fun m i w'=>∃ j:Nat,i=(j:Int)∧j≤2∧m=2-j∧w'=w∧(0<j→x=0)∧(1<j→y=0),⟨2,0,rfl,by omega,rfl,rfl,by omega,by omega⟩,?_⟩
 rintro m i w1 ⟨j,rfl,hj,rfl,rfl,h0,h1⟩
 refine Sif_cases (fun hlt=>?_) fun hge=>?_
 ·have hlt':(j:Int)<2:=by simpa using hlt
  refine ⟨by omega,by omega,?_⟩
  simp only [nn,add_at,Int.toNat_natCast,Nat.mul_one,Nat.zero_add]
  have hc:j=0∨j=1:=by omega
  rcases hc with rfl | rfl
  ·refine ⟨x,by show _=_; rw [cell_blk hb]; rfl,Sif_cases (fun h=>?_) fun h=>?_⟩
   ·have h:x≠0:=by simpa using h
    unfold lex at hk; rw [if_pos h] at hk; exact hk
   ·have h:x=0:=by simpa using h
    exact ⟨1,by omega,1,by decide,by omega,rfl,by trivial,fun _=>h,by omega⟩
  ·refine ⟨y,by show _=_; rw [cell_blk hb]; rfl,Sif_cases (fun h=>?_) fun h=>?_⟩
   ·have hx:=h0 (by omega)
    unfold lex at hk; rw [if_neg (by simp [hx])] at hk; exact hk
   ·have h:y=0:=by simpa using h
    exact ⟨0,by omega,2,by decide,by omega,rfl,by trivial,fun _=>h0 (by omega),fun _=>h⟩
 ·have:j=2:=by
   have:¬ (j:Int)<2:=by simpa using hge
   omega
  subst this
  have hx:=h0 (by omega)
  have hy:=h1 (by omega)
  subst hx hy
  exact hk
theorem cmpI_ok {x y:Int} {w:World} {K:Value→World→Prop} (hk:K (.int .i64 (Lib.compareInt x y)) w):callP Tryz.prog 267 [.int .i64 x,.int .i64 y] w K:=by
 refine (Tryz.cmp_Compare_int x y w).mono ?_
 rintro e w' ⟨rfl,rfl⟩
 exact ⟨_,rfl,hk⟩
theorem isNaNU_ok {x:Int} {w:World} {K:Value→World→Prop} (hk:K (.bool false) w):callP Tryz.prog 317 [.int .u64 x] w K:=by
 refine ok_cmp_isNaN_2 ?_
 first
  | exact hk
  | (rw [show (x != x)=false by simp]; exact hk)
  | (simpa using hk)
theorem cmpU_ok {x y:Int} {w:World} {K:Value→World→Prop} (hk:K (.int .i64 (Lib.compareInt x y)) w):callP Tryz.prog 268 [.int .u64 x,.int .u64 y] w K:=by
 refine ok_cmp_Compare_2 ?_
 refine isNaNU_ok ⟨_,rfl,isNaNU_ok ⟨_,rfl,Sif_false (Sif_false ?_)⟩⟩
 unfold Lib.compareInt at hk
 refine Sif_cases (fun h=>?_) fun h=>Sif_cases (fun h2=>?_) fun h2=>?_
 ·have h:x<y:=by simpa using h
  rw [if_pos h] at hk; exact hk
 ·have h:¬ x<y:=by simpa using h
  have h2:x>y:=by simpa using h2
  rw [if_neg h,if_pos h2] at hk; exact hk
 ·have h:¬ x<y:=by simpa using h
  have h2:¬ x>y:=by simpa using h2
  rw [if_neg h,if_neg h2] at hk; exact hk
theorem cmpS_ok {x y:Bs} {w:World} {K:Value→World→Prop} (hk:K (.int .i64 (Lib.compareBytes x y)) w):callP Tryz.prog 195 [.string ⟨x.toArray⟩,.string ⟨y.toArray⟩] w K:=by
 refine (Tryz.strings_Compare _ _ w).mono ?_
 rintro e w' ⟨rfl,rfl⟩
 refine ⟨_,rfl,?_⟩
 rw [str_list,str_list]
 exact hk
theorem cmpF_ok {Q Q':Nat→Prop} {l l':List MV} (ih:∀ x∈l,∀ (y:MV) {w:World} {K:Value→World→Prop},VR Q w x→VR Q' w y→(∀ w',Qt w w'→K (.int .i64 (ordM x.m y.m)) w')→callP Tryz.prog 219 [x.v,y.v] w K)
 {w:World} {p p':Option Addr} {n n' c c':Nat} (h1:VRow Q w p n l) (h2:VRow Q' w p' n' l') {K:Value→World→Prop} (hk:∀ w',Qt w w'→K (.int .i64 (ordL (l.map MV.m) (l'.map MV.m))) w') :
 callP Tryz.prog 269 [.slice p n c,.slice p' n' c',.func (.func 219) #[] #[]] w K:=by
 apply ok_slices_CompareFunc
 have hl:=h1.1
 have hl':=h2.1
 have hn46:=h1.2.1
 have hn46':=h2.2.1
 refine ⟨fun m i w1=>∃ j:Nat,i=(j:Int)∧m=n-j∧j≤n∧j≤n'∧Qt w w1∧ordL (l.map MV.m) (l'.map MV.m)=ordL ((l.drop j).map MV.m) ((l'.drop j).map MV.m),⟨n,0,rfl,rfl,Nat.zero_le _,Nat.zero_le _,Qt.refl _,rfl⟩,?_⟩
 rintro m i w1 ⟨j,rfl,rfl,hj,hj',q1,heq⟩
 rw [heq] at hk
 refine Sif_cases (fun h=>?_) (fun h=>?_)
 ·have hjl:j<n:=by have:=of_decide_eq_true h; omega
  obtain ⟨x,hxi⟩:∃ x,l[j]?=some x:=⟨l[j]'(by omega),List.getElem?_eq_getElem _⟩
  have hd:l.drop j=x::l.drop (j+1):=by
   rw [List.drop_eq_getElem_cons (by omega)]
   congr 1
   rw [List.getElem?_eq_getElem (by omega)] at hxi
   exact Option.some.inj hxi
  obtain ⟨bx,ox,rfl,_,ax⟩:=(h1.qt q1).at hxi
  refine ⟨by omega,by omega,?_⟩
  simp only [nn]
  refine ldR ax ?_
  refine nbq rfl fun w2 b2 q2 z2=>?_
  refine Sif_cases (fun hge=>?_) (fun hge=>?_)
  ·have hjn:j=n':=by have:=of_decide_eq_true hge; omega
   have:=hk w2 (q1.trans q2)
   rw [hd,List.drop_of_length_le (l:=l') (by omega)] at this
   exact this
  ·have hjn:j<n':=by have:=of_decide_eq_false hge; omega
   obtain ⟨y,hyi⟩:∃ y,l'[j]?=some y:=⟨l'[j]'(by omega),List.getElem?_eq_getElem _⟩
   have hd':l'.drop j=y::l'.drop (j+1):=by
    rw [List.drop_eq_getElem_cons (by omega)]
    congr 1
    rw [List.getElem?_eq_getElem (by omega)] at hyi
    exact Option.some.inj hyi
   obtain ⟨by',oy,rfl,_,ay⟩:=(h2.qt (q1.trans q2)).at hyi
   refine ⟨by omega,by omega,?_⟩
   simp only
   refine ldR ay ?_
   refine nbq rfl fun w3 b3 q3 z3=>?_
   have b2':=(q3.ch.blk (blk_lt b2) id).trans b2
   refine ldK b2' (ldK b3 ?_)
   have q13:=(q1.trans q2).trans q3
   rw [vv x,vv y]
   rw [hd,hd',List.map_cons,List.map_cons,ordL] at hk
   refine ⟨by kernel_rfl,ih x (List.mem_of_getElem? hxi) y ((h1.qt q13).2.2.2.2 x (List.mem_of_getElem? hxi)) ((h2.qt q13).2.2.2.2 y (List.mem_of_getElem? hyi)) fun w4 q4=>⟨_,rfl,?_⟩⟩
   refine Sif_cases (fun h=>?_) (fun h=>?_)
   ·have h:ordM x.m y.m≠0:=by simpa using h
    have:=hk w4 (q13.trans q4)
    unfold lex at this
    rw [if_pos h] at this
    exact this
   ·have h:ordM x.m y.m=0:=by simpa using h
    rw [wrap_id (n:=(j:Int)+1) (by omega) (by omega)]
    refine ⟨n-(j+1),by omega,j+1,by omega,rfl,by omega,by omega,q13.trans q4,?_⟩
    rw [heq,hd,hd',List.map_cons,List.map_cons,ordL,h]; rfl
 ·have hjl:j=n:=by have:=of_decide_eq_false h; omega
  subst hjl
  rw [List.drop_of_length_le (l:=l) (by omega)] at hk
  refine Sif_cases (fun h=>?_) (fun h=>?_)
  ·have h:=of_decide_eq_true h
   have:=hk w1 q1
   obtain ⟨y,t,hy⟩:∃ y t,l'.drop j=y::t:=by
    cases hd:l'.drop j with
    | nil=>have:=congrArg List.length hd; simp at this; omega
    | cons y t=>exact ⟨y,t,rfl⟩
   rw [hy] at this
   exact this
  ·have h:=of_decide_eq_false h
   have:=hk w1 q1
   rw [List.drop_of_length_le (l:=l') (by omega)] at this
   exact this
theorem vOrder_ok {Q Q':Nat→Prop}:∀ (x y:MV) {w:World} {K:Value→World→Prop},VR Q w x→VR Q' w y→(∀ w',Qt w w'→K (.int .i64 (ordM x.m y.m)) w') →
 callP Tryz.prog 219 [x.v,y.v] w K:=by
 refine MV.ind fun k n t s e l ih=>?_
 rintro ⟨k',n',t',s',e',l'⟩ w K hx hy hk
 apply ok_value_Order
 refine newB_qt fun w1 b1 q1 z1=>newB_qt fun w2 b2 q2 z2=>?_
 have b1':=(q2.ch.blk (blk_lt b1) id).trans b1
 have q12:=q1.trans q2
 rw [MV.m_mk,MV.m_mk,ordM] at hk
 have b1d:blk w2.drew w.heap.size=some [.int .i64 k,.int .u64 (n:Int),.string ⟨t.toArray⟩,.slice s.p s.n s.c,.int .i64 e]:=b1'
 have b2d:blk w2.drew w1.heap.size=some [.int .i64 k',.int .u64 (n':Int),.string ⟨t'.toArray⟩,.slice s'.p s'.n s'.c,.int .i64 e']:=b2
 simp only [add_at,Nat.zero_add]
 refine ⟨_,cellK b1d 0 rfl,_,cellK b2d 0 rfl,_,cellK b1d 1 rfl,_,cellK b2d 1 rfl,_,cellK b1d 2 rfl,_,cellK b2d 2 rfl,?_⟩
 refine cmpI_ok ⟨_,rfl,⟨_,cellK b2d 2 rfl,rfl⟩,⟨_,cellK b1d 2 rfl,rfl⟩,⟨_,cellK b2d 1 rfl,rfl⟩,⟨_,cellK b1d 1 rfl,rfl⟩,?_⟩
 refine cmpU_ok ⟨_,rfl,⟨_,cellK b2d 2 rfl,rfl⟩,⟨_,cellK b1d 2 rfl,rfl⟩,?_⟩
 refine cmpS_ok ⟨_,rfl,?_⟩
 refine newB_qt fun w6 b6 q6 z6=>?_
 refine or3_ok b6 ⟨_,rfl,?_⟩
 have q26:Qt w2 w6:=(Qt.drew w2).trans q6
 have q16:=q12.trans q26
 have b16:=(q26.ch.blk (blk_lt b1') id).trans b1'
 have b26:=(q26.ch.blk (blk_lt b2) id).trans b2
 have assoc:∀ a b c d:Int,lex a (lex b (lex c d))=lex (lex a (lex b c)) d:=by
  intro a b c d
  unfold lex
  by_cases ha:a=0
  ·by_cases hb:b=0
   ·simp [ha,hb]
   ·simp [ha,hb]
  ·simp [ha]
 rw [assoc] at hk
 refine Sif_cases (fun h=>?_) (fun h=>?_)
 ·have h:lex (Lib.compareInt k k') (lex (Lib.compareInt n n') (Lib.compareBytes t t'))≠0:=by simpa using h
  have:=hk w6 q16
  generalize lex (Lib.compareInt k k') (lex (Lib.compareInt n n') (Lib.compareBytes t t'))=z at h this ⊢
  unfold lex at this
  rw [if_pos h] at this
  exact this
 ·have h:lex (Lib.compareInt k k') (lex (Lib.compareInt n n') (Lib.compareBytes t t'))=0:=by simpa using h
  rw [h] at hk
  have b16d:blk w6.drew w.heap.size=some [.int .i64 k,.int .u64 (n:Int),.string ⟨t.toArray⟩,.slice s.p s.n s.c,.int .i64 e]:=b16
  have b26d:blk w6.drew w1.heap.size=some [.int .i64 k',.int .u64 (n':Int),.string ⟨t'.toArray⟩,.slice s'.p s'.n s'.c,.int .i64 e']:=b26
  refine ⟨_,_,_,cellK b16d 3 rfl,_,_,_,cellK b26d 3 rfl,_,cellK b16d 4 rfl,_,cellK b26d 4 rfl,?_⟩
  have q16d:=q16.trans (Qt.drew w6)
  refine cmpF_ok ih (hx.row.qt q16d) (hy.row.qt q16d) fun w8 q8=>⟨_,rfl,?_⟩
  have b18:=(q8.ch.blk (blk_lt b16d) id).trans b16d
  have b28:=(q8.ch.blk (blk_lt b26d) id).trans b26d
  refine ⟨⟨_,cellK b28 4 rfl,rfl⟩,⟨_,cellK b18 4 rfl,rfl⟩,?_⟩
  refine cmpI_ok ⟨_,rfl,?_⟩
  refine newB_qt fun w10 b10 q10 z10=>?_
  refine or2_ok b10 ⟨_,rfl,?_⟩
  exact hk w10 ((q16d.trans q8).trans q10)
end Go.Proofs.YtnmlmicmhpkbeaaGreatDoor
namespace Go.Proofs.YtnmlmicmhpkbeaaGreatDoor
open Go Go.Sv Go.Note Go.Sort Go.RowKit Go.Shelf
set_option linter.unusedVariables false
attribute [local irreducible] Sif
set_option maxRecDepth 4000
def evens {α:Type}:List α→List α
 | []=>[]
 | [x]=>[x]
 | x::_::l=>x::evens l
theorem evens_keys (l:List MV):(evens l).map MV.m=keysOf (l.map MV.m):=by
 induction l using evens.induct with
 | case1=>rfl
 | case2 x=>rfl
 | case3 x y l ih=>simp [evens,keysOf,ih]
theorem evens_mem {α:Type} (l:List α):∀ x∈evens l,x∈l:=by
 induction l using evens.induct with
 | case1=>simp [evens]
 | case2 x=>simp [evens]
 | case3 x y l ih =>
  intro z hz
  simp only [evens,List.mem_cons] at hz ⊢
  rcases hz with h | h
  ·exact .inl h
  ·exact .inr (.inr (ih z h))
theorem evens_len {α:Type} (l:List α):(evens l).length=(l.length+1) / 2:=by
 induction l using evens.induct with
 | case1=>simp [evens]
 | case2 x=>simp [evens]
 | case3 x y l ih=>simp only [evens,List.length_cons,ih]; omega
theorem evens_take {α:Type} (l:List α):∀ (j:Nat) (x:α),j%2=0→l[j]?=some x→evens (l.take (j+2))=evens (l.take j)++[x]:=by
 induction l using evens.induct with
 | case1=>intro j x _ h; simp at h
 | case2 y =>
  intro j x hj h
  cases j with
  | zero=>simp at h; subst h; rfl
  | succ j=>simp at h
 | case3 y z l ih =>
  intro j x hj h
  match j,hj,h with
  | 0,_,h=>simp at h; subst h; rfl
  | 1,hj,_=>omega
  | j+2,hj,h =>
   simp only [List.getElem?_cons_succ] at h
   have:=ih j x (by omega) h
   simp only [List.take_succ_cons,evens,this,List.cons_append]
theorem make_vals {w:World} (c:Nat) (hc:c≤2^40):∃ w',(Instr.makeSlice 23 (.int .i64 0) (.int .i64 (c:Int))).run Tryz.prog w=.ok (.slice (some ⟨w.heap.size,0,none⟩) 0 c) w' ∧
 Ow w' (some ⟨w.heap.size,0,none⟩) 0 c 5 [] (some w.heap.size)∧Ch (fun _=>False) w w':=by
 obtain ⟨i,hi,h1,h2,h3⟩:=iVal
 have hr:=run_make (P:=Tryz.prog) w 23 25 i _ uVals hi h3 .i64 .i64 (0:Int) (c:Int) (by omega) (by omega) (by rw [h2]; omega) (by omega)
 rw [Int.toNat_natCast,h1] at hr
 refine ⟨_,hr,⟨rfl,Nat.zero_le _,.inr ⟨_,0,_,rfl,rfl,alloc_blk w (madeCells (.agg #[.int .i64 0,.int .u64 0,.string ⟨#[]⟩,.slice none 0 0,.int .i64 0]:Value).cells (c*5)).toList 25,?_,by simp⟩⟩,alloc_ch w _⟩
 simp [madeCells]
theorem swoM {α:Type} (f:α→M):SWO (ltOf fun x y:α=>ordM (f x) (f y)):=by
 have key:∀ x y:α,ltOf (fun x y:α=>ordM (f x) (f y)) x y=decide (ordM (f x) (f y)<0):=fun _ _=>rfl
 refine ⟨fun x=>?_,fun x y z h k=>?_,fun x y z h k=>?_⟩
 ·rw [key,(ordM_eq (f x) (f x)).2 rfl]; decide
 ·rw [key] at *
  exact decide_eq_true (ordM_trans _ _ _ (of_decide_eq_true h) (of_decide_eq_true k))
 ·rw [key] at *
  have h:=of_decide_eq_false h
  have k:=of_decide_eq_false k
  refine decide_eq_false fun hc=>?_
  have a1:=ordM_anti (f x) (f y)
  have a2:=ordM_anti (f y) (f z)
  have a3:=ordM_anti (f x) (f z)
  by_cases e1:ordM (f x) (f y)=0
  ·have:=(ordM_eq _ _).1 e1
   rw [this] at hc; exact k hc
  ·by_cases e2:ordM (f y) (f z)=0
   ·have:=(ordM_eq _ _).1 e2
    rw [← this] at hc; exact h hc
   ·have:=ordM_trans (f z) (f y) (f x) (by omega) (by omega)
    omega
theorem isMap_ok {Q:Nat→Prop} {w:World} {p:Option Addr} {n c:Nat} {l:List MV} (h:VRow Q w p n l) {K:Value→World→Prop} (hk:∀ w',Ch (fun _=>False) w w'→K (.bool (mapOk (l.map MV.m))) w') :
 callP Tryz.prog 182 [.slice p n c] w K:=by
 apply ok_value_isMap
 have hl:=h.1
 have hmod:Int.tmod (n:Int) 2=((n%2:Nat):Int):=by
  rw [Int.tmod_eq_emod_of_nonneg (by omega)]; omega
 have hdiv:Int.tdiv (n:Int) 2=((n / 2:Nat):Int):=by
  rw [Int.tdiv_eq_ediv_of_nonneg (by omega)]; omega
 have hml:(l.map MV.m).length=n:=by simp [hl]
 refine ⟨fun w1=>w1=w∧n%2=0∧n≤2048,?_,by decide,?_⟩
 rotate_left
 ·rw [hmod,int_bne,Bool.not_not]
  refine Sif_cases (fun h2=>?_) (fun h2=>?_)
  ·have h2:=of_decide_eq_true h2
   refine Sif_cases (fun h3=>?_) (fun h3=>⟨by trivial,by omega,by have:=of_decide_eq_false h3; omega⟩)
   have h3:=of_decide_eq_true h3
   have:=hk w (Ch.refl _ _)
   rw [show mapOk (l.map MV.m)=false by
    unfold mapOk
    rw [hml,decide_eq_false (p:=n / 2≤1024) (by omega)]; simp] at this
   exact this
  ·have h2:=of_decide_eq_false h2
   have:=hk w (Ch.refl _ _)
   rw [show mapOk (l.map MV.m)=false by
    unfold mapOk
    rw [hml,decide_eq_false (p:=n%2=0) (by omega)]; simp] at this
   exact this
 rintro w1 ⟨rfl,hev,hsm⟩
 have hmap:mapOk (l.map MV.m)=decide (((evens l).map MV.m).Nodup):=by
  unfold mapOk
  rw [hml,decide_eq_true (p:=n%2=0) hev,decide_eq_true (p:=n / 2≤1024) (by omega),evens_keys]; simp
 rw [hmap] at hk
 rw [hdiv,wrap_id (by omega) (by omega)]
 obtain ⟨w2,m1,o2,c2⟩:=make_vals (w:=w1) (n / 2) (by omega)
 refine ⟨by decide,_,_,_,w2,m1,?_⟩
 have hlt:=h.lt
 -- the keys are gathered
 refine ⟨fun m p1 n1 c1 i w3=>∃ (j:Nat) (own:Option Nat),i=(j:Int)∧j%2=0∧j≤n∧m=n-j∧n1=(evens (l.take j)).length∧Ow w3 p1 n1 c1 5 ((evens (l.take j)).flatMap MV.g) own∧(∀ k,own=some k→w1.heap.size≤k)∧Ch (fun _=>False) w1 w3,
  ⟨n,0,some w1.heap.size,rfl,rfl,Nat.zero_le _,rfl,rfl,by simpa [evens] using o2,fun k hk=>by cases hk; exact Nat.le_refl _,c2⟩,?_⟩
 rintro m p1 n1 c1 i w3 ⟨j,own,rfl,hj2,hjn,rfl,rfl,ho,hnew,c3⟩
 have hkl:=evens_len (l.take j)
 rw [List.length_take,hl,Nat.min_eq_left hjn] at hkl
 refine Sif_cases (fun hlt'=>?_) (fun hge=>?_)
 ·have hjl:j<n:=by have:=of_decide_eq_true hlt'; omega
  obtain ⟨x,hxi⟩:∃ x,l[j]?=some x:=⟨l[j]'(by omega),List.getElem?_eq_getElem _⟩
  obtain ⟨bx,ox,rfl,_,ax⟩:=(h.ch0 c3).at hxi
  refine ⟨by omega,by omega,?_⟩
  simp only [nn]
  refine ldR ax ?_
  rw [gg x]
  refine push_ok (g:=MV.g) uVals iVal rfl MV.glen MV.gone ho x (by omega) (by omega) fun p' c' b' w' o' n' hch=>?_
  simp only [nameI]
  rw [wrap_id (n:=(j:Int)+2) (by omega) (by omega)]
  have het:=evens_take l j x hj2 hxi
  refine ⟨n-(j+2),by omega,j+2,b',by omega,by omega,by omega,rfl,by rw [het],by rw [het]; exact o',fun k hk=>?_,c3.trans hch fun k hk h=>by have:=hnew k h; omega⟩
  rcases n' k hk with q | q
  ·exact hnew k q
  ·have:=c3.size; omega
 ·have hjl:j=n:=by have:=of_decide_eq_false hge; omega
  subst hjl
  rw [List.take_of_length_le (by omega)] at ho hkl ⊢
  obtain ⟨ks,hks⟩:∃ ks,ks=evens l:=⟨_,rfl⟩
  rw [← hks] at ho hk hkl ⊢
  have hkm:∀ x∈ks,VR (fun b=>Q b∧b<w1.heap.size) w1 x:=fun x hx=>hlt.2.2.2.2 x (evens_mem l x (by rw [← hks]; exact hx))
  -- behind the sort
  have behind:∀ (w4:World) (L':List MV),L'.Perm ks→(L'.Pairwise fun x y=>ltOf (fun x y:MV=>ordM x.m y.m) y x=false)→Ow w4 p1 ks.length c1 5 (L'.flatMap MV.g) own→Ch (fun j=>own=some j) w3 w4 →
   ∃ I1:Nat→Int→World→Prop,(∃ m1,I1 m1 1 w4)∧∀ m1 n3 w5,I1 m1 n3 w5→Sif (decide (n3<(ks.length:Int))) (0≤IntKind.i64.wrap (n3-1)∧IntKind.i64.wrap (n3-1)<(ks.length:Int)∧nn p1 fun a=>0≤n3∧n3<(ks.length:Int)∧nn p1 fun a1 =>
    ∃ n4,w5.drew.cell? (Addr.add (Addr.add a (Int.toNat (IntKind.i64.wrap (n3-1))*5)) 0)=some (.int .i64 n4)∧∃ n5,w5.drew.cell? (Addr.add (Addr.add a (Int.toNat (IntKind.i64.wrap (n3-1))*5)) 1)=some (.int .u64 n5)∧∃ s,w5.drew.cell? (Addr.add (Addr.add a (Int.toNat (IntKind.i64.wrap (n3-1))*5)) 2)=some (.string s)∧∃ p2 n6 c2,w5.drew.cell? (Addr.add (Addr.add a (Int.toNat (IntKind.i64.wrap (n3-1))*5)) 3)=some (.slice p2 n6 c2)∧∃ n7,w5.drew.cell? (Addr.add (Addr.add a (Int.toNat (IntKind.i64.wrap (n3-1))*5)) 4)=some (.int .i64 n7) ∧
    ∃ n8,w5.drew.cell? (Addr.add (Addr.add a1 (Int.toNat n3*5)) 0)=some (.int .i64 n8)∧∃ n9,w5.drew.cell? (Addr.add (Addr.add a1 (Int.toNat n3*5)) 1)=some (.int .u64 n9)∧∃ s1,w5.drew.cell? (Addr.add (Addr.add a1 (Int.toNat n3*5)) 2)=some (.string s1)∧∃ p3 n10 c3,w5.drew.cell? (Addr.add (Addr.add a1 (Int.toNat n3*5)) 3)=some (.slice p3 n10 c3)∧∃ n11,w5.drew.cell? (Addr.add (Addr.add a1 (Int.toNat n3*5)) 4)=some (.int .i64 n11) ∧
    callP Tryz.prog 219 [.agg (Array.mk [.int .i64 n4,.int .u64 n5,.string s,.slice p2 n6 c2,.int .i64 n7]),.agg (Array.mk [.int .i64 n8,.int .u64 n9,.string s1,.slice p3 n10 c3,.int .i64 n11])] w5.drew fun v1 w6=>∃ n12,v1=.int .i64 n12∧Sif (n12 == 0) (K (.bool false) w6) (nameI (IntKind.i64.wrap (n3+1)) fun n13=>∃ m',m'<m1∧I1 m' n13 w6)) (K (.bool true) w5):=by
   intro w4 L' hperm hsort ho4 c4
   have hown:∀ j,own=some j→w1.heap.size≤j:=hnew
   have c14:Ch (fun _=>False) w1 w4:=c3.trans c4 fun x hx h=>by have:=hown x h; omega
   have hLl:=hperm.length_eq
   have hv4:∀ x∈L',∀ w',Ch (fun _=>False) w4 w'→VR (fun b=>Q b∧b<w1.heap.size) w' x:=fun x hx w' c=>(hkm x (hperm.mem_iff.1 hx)).ch0 (c14.trans' c)
   have hnd:((ks.map MV.m).Nodup↔(L'.map MV.m).Nodup):=((hperm.map MV.m).nodup_iff).symm
   have hpw:(L'.map MV.m).Pairwise fun x y=>¬ ordM y x<0:=by
    rw [List.pairwise_map]
    exact hsort.imp fun h=>by unfold ltOf at h; exact of_decide_eq_false h
   have hadj:=dup_adjacent (L'.map MV.m) hpw
   refine ⟨fun m1 n3 w5=>∃ i:Nat,n3=(i:Int)∧1≤i∧m1=ks.length+1-i∧Ch (fun _=>False) w4 w5∧(i≤ks.length∨i=1)∧∀ q x y,q+1<i→L'[q]?=some x→L'[q+1]?=some y→ordM x.m y.m≠0,⟨ks.length,1,rfl,Nat.le_refl _,by omega,Ch.refl _ _,.inr rfl,fun q x y h=>by omega⟩,?_⟩
   rintro m1 n3 w5 ⟨i,rfl,hi1,rfl,c5,hile,hall⟩
   have c15:=c14.trans' c5
   refine Sif_cases (fun hlt2=>?_) (fun hge2=>?_)
   ·have hil:i<ks.length:=by have:=of_decide_eq_true hlt2; omega
    rw [wrap_id (n:=(i:Int)-1) (by omega) (by omega)]
    obtain ⟨x,hxi⟩:∃ x,L'[i-1]?=some x:=⟨L'[i-1]'(by omega),List.getElem?_eq_getElem _⟩
    obtain ⟨y,hyi⟩:∃ y,L'[i]?=some y:=⟨L'[i]'(by omega),List.getElem?_eq_getElem _⟩
    have hrow5:Rd w5.drew p1 ks.length 5 (L'.flatMap MV.g):=ho4.rd.ch (c5.trans' (Ch.drew _)) fun _ _ _=>id
    obtain ⟨bx,ox,px,ax⟩:=hrow5.at MV.glen hxi (by decide)
    obtain ⟨by',oy,py,ay⟩:=hrow5.at MV.glen hyi (by decide)
    rw [px] at py
    obtain ⟨rfl,rfl⟩:bx=by'∧ox=oy:=by simpa using py
    rw [px,show ((i:Int)-1)=(((i-1:Nat)):Int) by omega]
    refine ⟨by omega,by omega,?_⟩
    simp only [nn]
    refine ⟨by omega,by omega,?_⟩
    refine ldR (i:=i-1) ax (ldR ay ?_)
    rw [vv x,vv y]
    refine vOrder_ok x y (hv4 x (List.mem_of_getElem? hxi) _ (c5.trans' (Ch.drew _))) (hv4 y (List.mem_of_getElem? hyi) _ (c5.trans' (Ch.drew _))) fun w6 q6=>⟨_,rfl,?_⟩
    have c46:=(c5.trans' (Ch.drew _)).trans' q6.ch
    refine Sif_cases (fun h0=>?_) (fun h0=>?_)
    ·have h0:ordM x.m y.m=0:=by simpa using h0
     have hbad:¬ (ks.map MV.m).Nodup:=by
      rw [hnd]
      exact hadj.2 ⟨i-1,x.m,y.m,by rw [List.getElem?_map,hxi]; rfl,by rw [show i-1+1=i by omega,List.getElem?_map,hyi]; rfl,h0⟩
     have:=hk w6 (c14.trans' c46)
     rw [decide_eq_false hbad] at this
     exact this
    ·have h0:ordM x.m y.m≠0:=by simpa using h0
     simp only [nameI]
     rw [wrap_id (n:=(i:Int)+1) (by omega) (by omega)]
     refine ⟨ks.length+1-(i+1),by omega,i+1,by omega,by omega,rfl,c46,.inl (by omega),fun q a b hq ha hb=>?_⟩
     by_cases e:q=i-1
     ·subst e
      rw [show i-1+1=i by omega] at hb
      rw [hxi] at ha; rw [hyi] at hb
      cases ha; cases hb; exact h0
     ·exact hall q a b (by omega) ha hb
   ·have hge2:=of_decide_eq_false hge2
    have hgood:(ks.map MV.m).Nodup:=by
     rw [hnd]
     refine Classical.byContradiction fun hb=>?_
     obtain ⟨q,a,b,h1,h2,h3⟩:=hadj.1 hb
     rw [List.getElem?_map] at h1 h2
     cases hx:L'[q]? with
     | none=>rw [hx] at h1; cases h1
     | some x =>
      cases hy:L'[q+1]? with
      | none=>rw [hy] at h2; cases h2
      | some y =>
       rw [hx] at h1; rw [hy] at h2
       simp only [Option.map_some,Option.some.injEq] at h1 h2
       subst h1 h2
       have:=(List.getElem?_eq_some_iff.1 hy).1
       exact hall q x y (by omega) hx hy h3
    have:=hk w5 c15
    rw [decide_eq_true hgood] at this
    exact this
  by_cases hnil:ks=[]
  ·subst hnil
   refine Calls.mono (AnyF.slices_SortFunc_none Tryz.laysSF6 p1 c1 (.func (.func 219) #[] #[]) w3) fun e w' ⟨he,hw⟩=>⟨_,he,rfl,?_⟩
   subst hw
   exact behind w' [] (.refl _) .nil ho (Ch.refl _ _)
  ·obtain ⟨x0,hx0⟩:=List.exists_mem_of_ne_nil ks hnil
   haveI:Inhabited {x:MV // x∈ks}:=⟨⟨x0,hx0⟩⟩
   have hal:ks.attach.length=ks.length:=List.length_attach ..
   have hflat:(ks.attach.flatMap fun x:{x:MV // x∈ks}=>x.1.g)=ks.flatMap MV.g:=by
    conv=>rhs; rw [← List.attach_map_subtype_val ks,List.flatMap_map]
   have ho':Ow w3 p1 ks.attach.length c1 5 (ks.attach.flatMap fun x:{x:MV // x∈ks}=>x.1.g) own:=by rw [hal,hflat]; exact ho
   rw [← hal]
   refine sortW_ok (α:={x:MV // x∈ks}) Tryz.laysSF6 (k:=5) Tryz.isAgg25 Tryz.sizeOf25 (enc:=fun x=>x.1.g) (fun x=>x.1.glen) (fun x=>x.1.gone) (swoM fun x:{x:MV // x∈ks}=>x.1.m) (g:=219) (fun args w=>okCall_enter (by kernel_rfl) args w)
    (fun x y W hW=>?_) ho' (by decide) (by rw [hal]; omega) fun w4 L' hp hs o4 c4=>⟨rfl,?_⟩
   ·have c1W:Ch (fun _=>False) w1 W:=c3.trans hW fun z hz h=>by have:=hnew z h; omega
    refine (vOrder_ok x.1 y.1 (w:=W) (K:=fun v w'=>v=.int .i64 (ordM x.1.m y.1.m)∧Qt W w') ((hkm x.1 x.2).ch0 c1W) ((hkm y.1 y.2).ch0 c1W) fun w' q=>⟨rfl,q⟩).mono fun e w' ⟨v,he,hv,q⟩=>⟨by rw [he,hv],q⟩
   ·rw [hal] at o4 ⊢
    have hp2:=hp.map Subtype.val
    rw [List.attach_map_subtype_val] at hp2
    refine behind w4 (L'.map Subtype.val) hp2 ?_ ?_ c4
    ·rw [List.pairwise_map]; exact hs
    ·rw [List.flatMap_map]; exact o4
end Go.Proofs.YtnmlmicmhpkbeaaGreatDoor
namespace Go.Proofs.YtnmlmicmhpkbeaaGreatDoor
open Go Go.Sv Go.Note
set_option linter.unusedVariables false
attribute [local irreducible] Sif
set_option maxRecDepth 4000
theorem ldN {w:World} {k:Nat} {x:MV} {K:Int→Int→ByteArray→Option Addr→Nat→Nat→Int→Prop} (h:blk w k=some x.g) (hk:K x.k (x.n:Int) ⟨x.t.toArray⟩ x.s.p x.s.n x.s.c x.e) :
 ∃ n,w.cell? ⟨k,0,none⟩=some (.int .i64 n)∧∃ n1,w.cell? ⟨k,1,none⟩=some (.int .u64 n1)∧∃ s,w.cell? ⟨k,2,none⟩=some (.string s)∧∃ p n2 c,w.cell? ⟨k,3,none⟩=some (.slice p n2 c)∧∃ n3,w.cell? ⟨k,4,none⟩=some (.int .i64 n3)∧K n n1 s p n2 c n3:=by
 cases x
 exact ⟨_,cellK h 0 rfl,_,cellK h 1 rfl,_,cellK h 2 rfl,_,_,_,cellK h 3 rfl,_,cellK h 4 rfl,hk⟩
end Go.Proofs.YtnmlmicmhpkbeaaGreatDoor
namespace Go.Proofs.YtnmlmicmhpkbeaaGreatDoor
open Go Go.Sv Go.Note
set_option linter.unusedVariables false
attribute [local irreducible] Sif
set_option maxRecDepth 4000
theorem beqI (a b:Int):(a == b)=decide (a=b):=by by_cases h:a=b<;>simp [h]
theorem has_ok {k:Int} (h0:0≤k) (h1:k<25) {w:World} {K:Value→World→Prop} (hk:K (.tuple #[.bool (numK k),.bool (textK k),.bool (listK k)]) w) :
 callP Tryz.prog 215 [.int .i64 k] w K:=by
 apply ok_value_has
 simp only [beqI]
 refine ⟨fun b b1 b2 w1=>w1=w∧b=numK k∧b1=textK k∧b2=listK k,?_,?_⟩
 ·rintro b b1 b2 w1 ⟨rfl,rfl,rfl,rfl⟩; exact hk
 have e:∀ (a b c:Bool),(a=true↔(1≤k∧k≤16∧k≠14))→(b=true↔(k=14∨(17≤k∧k≤20)))→(c=true↔21≤k)→a=numK k∧b=textK k∧c=listK k:=by
  intro a b c ha hb hc
  have q1:numK k=true↔(1≤k∧k≤16∧k≠14):=by unfold numK; simp [and_assoc]
  have q2:textK k=true↔(k=14∨(17≤k∧k≤20)):=by unfold textK; simp
  have q3:listK k=true↔21≤k:=by unfold listK; simp
  exact ⟨Bool.eq_iff_iff.2 (ha.trans q1.symm),Bool.eq_iff_iff.2 (hb.trans q2.symm),Bool.eq_iff_iff.2 (hc.trans q3.symm)⟩
 refine Sif_cases (fun h=>?_) (fun h=>?_)
 ·have h:=of_decide_eq_true h
  exact ⟨by trivial,e _ _ _ (by simp; omega) (by simp; omega) (by simp; omega)⟩
 have hk0:=of_decide_eq_false h
 refine ⟨fun b w1=>w1=w∧b=decide (k=14∨(17≤k∧k≤20)),?_,?_⟩
 ·rintro b w1 ⟨rfl,rfl⟩
  refine Sif_cases (fun h=>?_) (fun h=>?_)
  ·have h:=of_decide_eq_true h
   exact ⟨by trivial,e _ _ _ (by simp; omega) (by simp; omega) (by simp; omega)⟩
  have hnt:=of_decide_eq_false h
  refine ⟨fun b w2=>w2=w1∧b=decide (21≤k),?_,?_⟩
  ·rintro b w2 ⟨rfl,rfl⟩
   refine Sif_cases (fun h=>?_) (fun h=>?_)
   ·have h:=of_decide_eq_true h
    exact ⟨by trivial,e _ _ _ (by simp; omega) (by simp; omega) (by simp; omega)⟩
   ·have h:=of_decide_eq_false h
    exact ⟨by trivial,e _ _ _ (by simp; omega) (by simp; omega) (by simp; omega)⟩
  ·have t:∀ (j:Int),21≤j→decide (k=j)=true→decide (k=j)=decide (21≤k):=fun j hj h=>by
    have:=of_decide_eq_true h
    rw [h,decide_eq_true (by omega)]
   refine Sif_cases (fun h=>⟨by trivial,t 21 (by decide) h⟩) (fun a1=>Sif_cases (fun h=>⟨by trivial,t 22 (by decide) h⟩) (fun a2=>Sif_cases (fun h=>⟨by trivial,t 23 (by decide) h⟩) (fun a3=>⟨by trivial,?_⟩)))
   have a1:=of_decide_eq_false a1
   have a2:=of_decide_eq_false a2
   have a3:=of_decide_eq_false a3
   exact decide_eq_decide.2 (by omega)
 ·have t:∀ (j:Int),(j=14∨(17≤j∧j≤20))→decide (k=j)=true→decide (k=j)=decide (k=14∨(17≤k∧k≤20)):=fun j hj h=>by
   have:=of_decide_eq_true h
   rw [h,decide_eq_true (by omega)]
  refine Sif_cases (fun h=>⟨by trivial,t 14 (by decide) h⟩) (fun a1=>Sif_cases (fun h=>⟨by trivial,t 17 (by decide) h⟩) (fun a2=>Sif_cases (fun h=>⟨by trivial,t 18 (by decide) h⟩) (fun a3=>Sif_cases (fun h=>⟨by trivial,t 19 (by decide) h⟩) (fun a4=>⟨by trivial,?_⟩))))
  have a1:=of_decide_eq_false a1
  have a2:=of_decide_eq_false a2
  have a3:=of_decide_eq_false a3
  have a4:=of_decide_eq_false a4
  exact decide_eq_decide.2 (by omega)
theorem mk_extra (k:Int) (n:Nat) (t:Bs) (s:SL) (e:Int) (l:List MV):(MV.mk k n t s e l).m.extra=((!numK k && decide (n≠0)) || (!textK k && decide (t≠[])) || (!listK k && decide (l≠[])) || (decide (k≠23) && decide (e≠0))):=by
 rw [MV.m_mk,M.extra_mk]
 have:(List.map MV.m l≠[])↔l≠[]:=by cases l<;>simp
 rw [decide_eq_decide.2 this]
theorem extra_ok {Q:Nat→Prop} {x:MV} (h0:0≤x.k) (h1:x.k<25) {w:World} (hx:VR Q w x) {K:Value→World→Prop} (hk:∀ w',Ch (fun _=>False) w w'→K (.bool x.m.extra) w') :
 callP Tryz.prog 179 [x.v] w K:=by
 obtain ⟨k,n,t,s,e,l⟩:=x
 apply ok_value_extra
 refine boxV (x:=.mk k n t s e l) fun w1 b1 a1 c1 z1=>?_
 simp only [add_at,Nat.zero_add]
 refine ⟨_,cellK b1 0 rfl,?_⟩
 refine has_ok (k:=k) h0 h1 ⟨_,_,_,rfl,?_⟩
 have hk:=hk w1 c1
 rw [mk_extra] at hk
 have hl:l.length=s.n:=hx.inv.1
 have hls:(l≠[])↔(0<s.n):=by rw [← hl]; exact List.length_pos_iff.symm
 rw [decide_eq_decide.2 hls] at hk
 -- the last test
 have last:K (.bool (decide (k≠23) && decide (e≠0))) w1→∃ n3,w1.cell? ⟨w.heap.size,0,none⟩=some (.int .i64 n3)∧Sif (n3 != 23) (∃ n4,w1.cell? ⟨w.heap.size,4,none⟩=some (.int .i64 n4)∧K (.bool (n4 != 0)) w1) (K (.bool false) w1):=fun hk=>by
  refine ⟨_,cellK b1 0 rfl,?_⟩
  rw [int_bne]
  refine Sif_cases (fun h=>⟨_,cellK b1 4 rfl,?_⟩) (fun h=>?_)
  ·rw [Bool.not_eq_true'] at h
   rw [decide_eq_true (p:=k≠23) (of_decide_eq_false h),Bool.true_and] at hk
   rw [int_bne,← decide_not]; exact hk
  ·rw [Bool.not_eq_false'] at h
   rw [decide_eq_false (p:=k≠23) (by simpa using of_decide_eq_true h),Bool.false_and] at hk
   exact hk
 have parts:K (.bool ((!listK k && decide (0<s.n)) || (decide (k≠23) && decide (e≠0)))) w1→Sif (!listK k) (∃ p n2 c,w1.cell? ⟨w.heap.size,3,none⟩=some (.slice p n2 c)∧Sif (!decide ((n2:Int)>0)) (∃ n3,w1.cell? ⟨w.heap.size,0,none⟩=some (.int .i64 n3)∧Sif (n3 != 23) (∃ n4,w1.cell? ⟨w.heap.size,4,none⟩=some (.int .i64 n4)∧K (.bool (n4 != 0)) w1) (K (.bool false) w1)) (K (.bool true) w1))
  (∃ n3,w1.cell? ⟨w.heap.size,0,none⟩=some (.int .i64 n3)∧Sif (n3 != 23) (∃ n4,w1.cell? ⟨w.heap.size,4,none⟩=some (.int .i64 n4)∧K (.bool (n4 != 0)) w1) (K (.bool false) w1)):=fun hk=>by
  refine Sif_cases (fun h=>⟨_,_,_,cellK b1 3 rfl,?_⟩) (fun h=>?_)
  ·rw [h,Bool.true_and] at hk
   refine Sif_cases (fun h2=>last ?_) (fun h2=>?_)
   ·rw [Bool.not_eq_true'] at h2
    rw [decide_eq_false (p:=0<s.n) (by have:=of_decide_eq_false h2; omega),Bool.false_or] at hk
    exact hk
   ·rw [Bool.not_eq_false'] at h2
    rw [decide_eq_true (p:=0<s.n) (by have:=of_decide_eq_true h2; omega),Bool.true_or] at hk
    exact hk
  ·rw [h,Bool.false_and,Bool.false_or] at hk
   exact last hk
 have emp:(ByteArray.mk (Array.mk ([]:List UInt8)))=⟨([]:Bs).toArray⟩:=rfl
 have textp:K (.bool ((!textK k && decide (t≠[])) || ((!listK k && decide (0<s.n)) || (decide (k≠23) && decide (e≠0))))) w1→Sif (!textK k) (∃ s2,w1.cell? ⟨w.heap.size,2,none⟩=some (.string s2)∧Sif (!!(s2.toList == (ByteArray.mk (Array.mk ([]:List UInt8))).toList)) (Sif (!listK k) (∃ p n2 c,w1.cell? ⟨w.heap.size,3,none⟩=some (.slice p n2 c)∧Sif (!decide ((n2:Int)>0)) (∃ n3,w1.cell? ⟨w.heap.size,0,none⟩=some (.int .i64 n3)∧Sif (n3 != 23) (∃ n4,w1.cell? ⟨w.heap.size,4,none⟩=some (.int .i64 n4)∧K (.bool (n4 != 0)) w1) (K (.bool false) w1)) (K (.bool true) w1))
  (∃ n3,w1.cell? ⟨w.heap.size,0,none⟩=some (.int .i64 n3)∧Sif (n3 != 23) (∃ n4,w1.cell? ⟨w.heap.size,4,none⟩=some (.int .i64 n4)∧K (.bool (n4 != 0)) w1) (K (.bool false) w1))) (K (.bool true) w1))
  (Sif (!listK k) (∃ p n2 c,w1.cell? ⟨w.heap.size,3,none⟩=some (.slice p n2 c)∧Sif (!decide ((n2:Int)>0)) (∃ n3,w1.cell? ⟨w.heap.size,0,none⟩=some (.int .i64 n3)∧Sif (n3 != 23) (∃ n4,w1.cell? ⟨w.heap.size,4,none⟩=some (.int .i64 n4)∧K (.bool (n4 != 0)) w1) (K (.bool false) w1)) (K (.bool true) w1))
  (∃ n3,w1.cell? ⟨w.heap.size,0,none⟩=some (.int .i64 n3)∧Sif (n3 != 23) (∃ n4,w1.cell? ⟨w.heap.size,4,none⟩=some (.int .i64 n4)∧K (.bool (n4 != 0)) w1) (K (.bool false) w1))):=fun hk=>by
  refine Sif_cases (fun h=>⟨_,cellK b1 2 rfl,?_⟩) (fun h=>?_)
  ·rw [h,Bool.true_and] at hk
   rw [emp,bs_eq,Bool.not_not]
   refine Sif_cases (fun h2=>parts ?_) (fun h2=>?_)
   ·rw [decide_eq_false (p:=t≠[]) (by simpa using of_decide_eq_true h2),Bool.false_or] at hk
    exact hk
   ·rw [decide_eq_true (p:=t≠[]) (of_decide_eq_false h2),Bool.true_or] at hk
    exact hk
  ·rw [h,Bool.false_and,Bool.false_or] at hk
   exact parts hk
 simp only [Bool.or_assoc] at hk
 refine Sif_cases (fun h=>⟨_,cellK b1 1 rfl,?_⟩) (fun h=>?_)
 ·rw [h,Bool.true_and] at hk
  rw [int_bne,Bool.not_not]
  refine Sif_cases (fun h2=>textp ?_) (fun h2=>?_)
  ·rw [decide_eq_false (p:=n≠0) (by have:=of_decide_eq_true h2; omega),Bool.false_or] at hk
   exact hk
  ·rw [decide_eq_true (p:=n≠0) (by have:=of_decide_eq_false h2; omega),Bool.true_or] at hk
   exact hk
 ·rw [h,Bool.false_and,Bool.false_or] at hk
  exact textp hk
theorem vwithin_ok {n b:Nat} (hn:n<18446744073709551616) (hb:b=8∨b=16∨b=32) {w:World} {K:Value→World→Prop} (hk:K (.bool (sgn n b)) w) :
 callP Tryz.prog 216 [.int .u64 (n:Int),.int .i64 (b:Int)] w K:=by
 apply ok_value_within
 rw [wrap_id (n:=(b:Int)-1) (by omega) (by omega)]
 refine ⟨by omega,?_⟩
 simp only [nameI]
 rw [wrap64 hn]
 have hmin:min ((b:Int)-1).toNat 64=b-1:=by omega
 rw [hmin]
 have hpos:(0:Int)<2^(b-1):=Int.pow_pos (by decide)
 rw [Int.fdiv_eq_ediv_of_nonneg _ (by omega)]
 have key:∀ z:Int,z=(if n<9223372036854775808 then (n:Int) else (n:Int)-18446744073709551616) / 2^(b-1)→((z=0∨z=-1)↔sgn n b=true):=by
  intro z hz
  unfold sgn
  rw [Bool.or_eq_true,decide_eq_true_eq,decide_eq_true_eq]
  rcases hb with rfl | rfl | rfl
  ·have e:(2:Int)^(8-1)=128:=by decide
   have e':2^(8-1)=128:=by decide
   have e2:2^64=18446744073709551616:=by decide
   rw [e] at hz; rw [e',e2]
   split at hz<;>omega
  ·have e:(2:Int)^(16-1)=32768:=by decide
   have e':2^(16-1)=32768:=by decide
   have e2:2^64=18446744073709551616:=by decide
   rw [e] at hz; rw [e',e2]
   split at hz<;>omega
  ·have e:(2:Int)^(32-1)=2147483648:=by decide
   have e':2^(32-1)=2147483648:=by decide
   have e2:2^64=18446744073709551616:=by decide
   rw [e] at hz; rw [e',e2]
   split at hz<;>omega
 have key:=key _ rfl
 generalize (if n<9223372036854775808 then (n:Int) else (n:Int)-18446744073709551616) / 2^(b-1)=z at key ⊢
 rw [beqI,beqI]
 refine Sif_cases (fun h=>?_) (fun h=>?_)
 ·rw [Bool.not_eq_true'] at h
  have h:=of_decide_eq_false h
  rw [show decide (z=-1)=sgn n b by
   cases hs:sgn n b with
   | true=>rw [decide_eq_true ((key.2 hs).resolve_left h)]
   | false=>rw [decide_eq_false (fun e=>by rw [key.1 (.inr e)] at hs; cases hs)]]
  exact hk
 ·rw [Bool.not_eq_false'] at h
  rw [key.1 (.inl (of_decide_eq_true h))] at hk
  exact hk
theorem isNum_ok {x:MV} (hf:x.n<18446744073709551616) {w:World} {K:Value→World→Prop} (hk:∀ w',Ch (fun _=>False) w w'→K (.bool x.m.num) w') :
 callP Tryz.prog 180 [x.v] w K:=by
 obtain ⟨k,n,t,s,e,l⟩:=x
 apply ok_value_isNum
 refine boxV (x:=.mk k n t s e l) fun w1 b1 a1 c1 z1=>?_
 simp only [add_at,Nat.zero_add]
 refine ⟨_,cellK b1 0 rfl,?_⟩
 have hk:=hk w1 c1
 rw [MV.m_mk,M.num_mk] at hk
 simp only [beqI]
 have hn:n<18446744073709551616:=hf
 refine Sif_cases (fun h=>⟨_,cellK b1 1 rfl,?_⟩) (fun h1=>?_)
 ·rw [if_pos (of_decide_eq_true h)] at hk
  rw [decide_eq_decide.2 (show ((n:Int)<2)↔n≤1 by omega)]; exact hk
 have h1:=of_decide_eq_false h1
 rw [if_neg h1] at hk
 refine Sif_cases (fun h=>⟨_,cellK b1 1 rfl,?_⟩) (fun h2=>?_)
 ·rw [if_pos (of_decide_eq_true h)] at hk
  rw [decide_eq_decide.2 (show ((n:Int)<256)↔n≤255 by omega)]; exact hk
 have h2:=of_decide_eq_false h2
 rw [if_neg h2] at hk
 refine Sif_cases (fun h=>⟨_,cellK b1 1 rfl,?_⟩) (fun h3=>?_)
 ·rw [if_pos (of_decide_eq_true h)] at hk
  rw [decide_eq_decide.2 (show ((n:Int)<65536)↔n≤65535 by omega)]; exact hk
 have h3:=of_decide_eq_false h3
 rw [if_neg h3] at hk
 refine ⟨fun b w2=>w2=w1∧b=decide (k=4∨k=10∨k=12),?_,?_⟩
 rotate_left
 ·refine Sif_cases (fun h=>⟨by trivial,?_⟩) (fun a1=>Sif_cases (fun h=>⟨by trivial,?_⟩) (fun a2=>⟨by trivial,?_⟩))
  ·rw [h,decide_eq_true (.inl (of_decide_eq_true h))]
  ·rw [h,decide_eq_true (.inr (.inl (of_decide_eq_true h)))]
  ·exact decide_eq_decide.2 ⟨fun e=>.inr (.inr e),fun e=>(e.resolve_left (of_decide_eq_false a1)).resolve_left (of_decide_eq_false a2)⟩
 rintro b w2 ⟨rfl,rfl⟩
 refine Sif_cases (fun h=>⟨_,cellK b1 1 rfl,?_⟩) (fun h4=>?_)
 ·rw [if_pos (of_decide_eq_true h)] at hk
  rw [decide_eq_decide.2 (show ((n:Int)<4294967296)↔n≤4294967295 by omega)]; exact hk
 have h4:=of_decide_eq_false h4
 rw [if_neg h4] at hk
 refine Sif_cases (fun h=>⟨_,cellK b1 1 rfl,?_⟩) (fun h6=>?_)
 ·rw [if_pos (of_decide_eq_true h)] at hk
  exact vwithin_ok hn (.inl rfl) ⟨_,rfl,hk⟩
 rw [if_neg (of_decide_eq_false h6)] at hk
 refine Sif_cases (fun h=>⟨_,cellK b1 1 rfl,?_⟩) (fun h7=>?_)
 ·rw [if_pos (of_decide_eq_true h)] at hk
  exact vwithin_ok hn (.inr (.inl rfl)) ⟨_,rfl,hk⟩
 rw [if_neg (of_decide_eq_false h7)] at hk
 refine Sif_cases (fun h=>⟨_,cellK b1 1 rfl,?_⟩) (fun h8=>?_)
 ·rw [if_pos (of_decide_eq_true h)] at hk
  exact vwithin_ok hn (.inr (.inr rfl)) ⟨_,rfl,hk⟩
 rw [if_neg (of_decide_eq_false h8)] at hk
 refine Sif_cases (fun h=>⟨_,cellK b1 1 rfl,?_⟩) (fun h15=>?_)
 ·rw [if_pos (of_decide_eq_true h)] at hk
  refine Sif_cases (fun h5=>⟨_,cellK b1 1 rfl,?_⟩) (fun h5=>?_)
  ·rw [Bool.not_eq_true'] at h5
   have h5:=of_decide_eq_false h5
   rw [decide_eq_false (p:=n<55296) (by omega),Bool.false_or] at hk
   refine Sif_cases (fun h9=>⟨_,cellK b1 1 rfl,?_⟩) (fun h9=>?_)
   ·have h9:=of_decide_eq_true h9
    rw [decide_eq_true (p:=57343<n) (by omega),Bool.and_true] at hk
    rw [decide_eq_decide.2 (show ((n:Int)≤1114111)↔n≤1114111 by omega)]; exact hk
   ·have h9:=of_decide_eq_false h9
    rw [decide_eq_false (p:=57343<n) (by omega),Bool.and_false] at hk
    exact hk
  ·rw [Bool.not_eq_false'] at h5
   have h5:=of_decide_eq_true h5
   rw [decide_eq_true (p:=n<55296) (by omega),decide_eq_true (p:=n≤1114111) (by omega)] at hk
   exact hk
 ·rw [if_neg (of_decide_eq_false h15)] at hk
  exact hk
theorem isText_ok {x:MV} (hs:x.t.length≤2^48) {w:World} (hL:LW w) {K:Value→World→Prop} (hk:∀ w',Ch (fun _=>False) w w'→K (.bool x.m.txt) w') :
 callP Tryz.prog 181 [x.v] w K:=by
 obtain ⟨k,n,t,s,e,l⟩:=x
 apply ok_value_isText
 refine boxV (x:=.mk k n t s e l) fun w1 b1 a1 c1 z1=>?_
 simp only [add_at,Nat.zero_add]
 refine ⟨_,cellK b1 0 rfl,?_⟩
 rw [MV.m_mk,M.txt_mk] at hk
 simp only [beqI]
 have hsz:(ByteArray.mk t.toArray).size=t.length:=by simp [ByteArray.size]
 have hs:t.length≤2^48:=hs
 refine ⟨fun b w2=>w2=w1∧b=decide (k=14∨k=17),?_,?_⟩
 rotate_left
 ·refine Sif_cases (fun h=>⟨by trivial,?_⟩) (fun a1=>⟨by trivial,?_⟩)
  ·rw [h,decide_eq_true (.inl (of_decide_eq_true h))]
  ·exact decide_eq_decide.2 ⟨fun e=>.inr e,fun e=>e.resolve_left (of_decide_eq_false a1)⟩
 rintro b w2 ⟨rfl,rfl⟩
 refine Sif_cases (fun h=>⟨_,cellK b1 2 rfl,?_⟩) (fun h14=>?_)
 ·have:=hk w2 c1
  rw [if_pos (of_decide_eq_true h)] at this
  rw [hsz,decide_eq_decide.2 (show ((t.length:Int)=16)↔t.length=16 by omega)]; exact this
 rw [if_neg (of_decide_eq_false h14)] at hk
 refine Sif_cases (fun h=>⟨_,cellK b1 2 rfl,?_⟩) (fun h19=>?_)
 ·rw [if_pos (of_decide_eq_true h)] at hk
  refine oUtf8_ok (by rw [hsz]; omega) (hL.ch0 c1).ut (by have:=(hL.ch0 c1).size; omega) fun r w3 c3 hp=>⟨_,rfl,?_⟩
  rw [str_list] at hp
  have:=hk w3 (c1.trans' c3)
  rw [show decide (r<0)=textB t by
   cases ht:textB t with
   | true=>rw [decide_eq_true (by have:=hp.1 ht; omega)]
   | false=>rw [decide_eq_false (by have:=hp.2 ht; omega)]]
  exact this
 rw [if_neg (of_decide_eq_false h19)] at hk
 refine Sif_cases (fun h=>⟨_,cellK b1 2 rfl,?_⟩) (fun h20=>?_)
 ·rw [if_pos (of_decide_eq_true h)] at hk
  refine oAscii_ok (by rw [hsz]; omega) fun r hp=>⟨_,rfl,?_⟩
  rw [str_list] at hp
  have:=hk w2 c1
  rw [show decide (r<0)=asciiB t by
   cases ht:asciiB t with
   | true=>rw [decide_eq_true (by have:=hp.1 ht; omega)]
   | false=>rw [decide_eq_false (by have:=hp.2 ht; omega)]]
  exact this
 ·rw [if_neg (of_decide_eq_false h20)] at hk
  exact hk w2 c1
theorem isArr1_ok {x:MV} {cb:Nat} {y:MV} {w:World} (hb:blk w cb=some y.g) {K:Value→World→Prop} (hk:∀ w',Ch (fun _=>False) w w'→K (.bool (decide (x.k≠y.e))) w') :
 callP Tryz.prog 221 [x.v,.pointer (some ⟨cb,0,none⟩)] w K:=by
 obtain ⟨k,n,t,s,e,l⟩:=x
 obtain ⟨k',n',t',s',e',l'⟩:=y
 apply ok_value_isArray_1
 refine boxV (x:=.mk k n t s e l) fun w1 b1 a1 c1 z1=>?_
 have hb1:=(c1.blk (blk_lt hb) id).trans hb
 simp only [add_at,Nat.zero_add,nn]
 refine ⟨_,cellK b1 0 rfl,_,cellK hb1 4 rfl,?_⟩
 have:=hk w1 c1
 rw [int_bne,← decide_not]
 exact this
theorem isArray_ok {Q:Nat→Prop} {x:MV} {w:World} (hx:VR Q w x) {K:Value→World→Prop} (hk:∀ w',Ch (fun _=>False) w w'→K (.bool (arrOk x.e (x.l.map MV.m))) w') :
 callP Tryz.prog 183 [x.v] w K:=by
 obtain ⟨k,n,t,s,e,l⟩:=x
 apply ok_value_isArray
 refine boxV (x:=.mk k n t s e l) fun w1 b1 a1 c1 z1=>?_
 simp only [add_at,Nat.zero_add]
 have hk:∀ w',Ch (fun _=>False) w w'→K (.bool (arrOk e (l.map MV.m))) w':=hk
 refine ⟨fun w2=>w2=w1∧0<e∧e<24,?_,_,cellK b1 4 rfl,?_⟩
 ·rintro w2 ⟨rfl,h0,h1⟩
  refine ⟨_,_,_,cellK b1 3 rfl,?_⟩
  apply ok_slices_ContainsFunc
  apply ok_slices_IndexFunc
  have hrow:=(hx.ch0 c1).row
  have hl:=hrow.1
  have hn46:=hrow.2.1
  simp only [MV.s_mk,MV.l_mk] at hrow hl hn46
  have harr:∀ b:Bool,b=(l.map MV.m).all (fun x=>decide (x.k=e))→∀ w',Ch (fun _=>False) w w'→K (.bool b) w':=fun b hb w' c=>by
   have:=hk w' c
   unfold arrOk at this
   rw [decide_eq_true h0,decide_eq_true h1,← hb] at this
   exact this
  refine ⟨fun m i w3=>∃ j:Nat,i=(j:Int)∧m=s.n-j∧j≤s.n∧Ch (fun _=>False) w2 w3∧∀ q,q<j→∀ y,l[q]?=some y→y.k=e,⟨s.n,0,rfl,rfl,Nat.zero_le _,Ch.refl _ _,fun q hq=>by omega⟩,?_⟩
  rintro m i w3 ⟨j,rfl,rfl,hj,c3,hall⟩
  refine Sif_cases (fun h=>?_) (fun h=>?_)
  ·have hjl:j<s.n:=by have:=of_decide_eq_true h; omega
   obtain ⟨y,hyi⟩:∃ y,l[j]?=some y:=⟨l[j]'(by omega),List.getElem?_eq_getElem _⟩
   obtain ⟨by',oy,py,_,ay⟩:=(hrow.ch0 c3).at hyi
   refine ⟨by omega,by omega,?_⟩
   rw [py]
   simp only [nn]
   refine ldR ay ?_
   rw [vv y]
   refine ⟨by kernel_rfl,isArr1_ok (y:=.mk k n t s e l) ((c3.blk (blk_lt b1) id).trans b1) fun w4 c4=>⟨_,rfl,?_⟩⟩
   have c24:=c3.trans' c4
   refine Sif_cases (fun hne=>?_) (fun hne=>?_)
   ·refine ⟨_,rfl,?_⟩
    have hne:=of_decide_eq_true hne
    refine ⟨_,rfl,harr _ ?_ w4 (c1.trans' c24)⟩
    rw [decide_eq_true (show (j:Int)≥0 by omega)]
    symm
    rw [Bool.not_true,List.all_eq_false]
    refine ⟨y.m,List.mem_map.2 ⟨y,List.mem_of_getElem? hyi,rfl⟩,?_⟩
    have:y.m.k=y.k:=by cases y; rw [MV.m_mk]; rfl
    rw [this]
    exact fun h=>hne (of_decide_eq_true h)
   ·rw [wrap_id (n:=(j:Int)+1) (by omega) (by omega)]
    refine ⟨s.n-(j+1),by omega,j+1,by omega,rfl,by omega,c24,fun q hq z hz=>?_⟩
    by_cases e1:q=j
    ·subst e1
     rw [hyi] at hz; cases hz
     have:=of_decide_eq_false hne
     exact Classical.not_not.1 this
    ·exact hall q (by omega) z hz
  ·have hjl:j=s.n:=by have:=of_decide_eq_false h; omega
   refine ⟨_,rfl,?_⟩
   refine ⟨_,rfl,harr _ ?_ w3 (c1.trans' c3)⟩
   symm
   rw [decide_eq_false (by decide),Bool.not_false,List.all_eq_true]
   intro z hz
   obtain ⟨y,hy,rfl⟩:=List.mem_map.1 hz
   obtain ⟨q,hq,he⟩:=List.mem_iff_getElem.1 hy
   have:y.m.k=y.k:=by cases y; rw [MV.m_mk]; rfl
   rw [this]
   exact decide_eq_true (hall q (by omega) y (by rw [List.getElem?_eq_getElem hq,he]))
 ·refine Sif_cases (fun h=>⟨_,cellK b1 4 rfl,?_⟩) (fun h=>?_)
  ·rw [Bool.not_eq_true'] at h
   have h:=of_decide_eq_false h
   refine Sif_cases (fun h2=>?_) (fun h2=>⟨by trivial,by omega,by have:=of_decide_eq_false h2; omega⟩)
   have h2:=of_decide_eq_true h2
   have:=hk w1 c1
   rw [show arrOk e (l.map MV.m)=false by unfold arrOk; rw [decide_eq_false (p:=e<24) (by omega)]; simp] at this
   exact this
  ·rw [Bool.not_eq_false'] at h
   have h:=of_decide_eq_true h
   have:=hk w1 c1
   rw [show arrOk e (l.map MV.m)=false by unfold arrOk; rw [decide_eq_false (p:=0<e) (by omega)]; simp] at this
   exact this
theorem alone_ok {Q:Nat→Prop} {x:MV} {d:Nat} (hf:x.n<18446744073709551616) (hs:x.t.length≤2^48) {w:World} (hL:LW w) (hx:VR Q w x) {K:Value→World→Prop} (hk:∀ w',Ch (fun _=>False) w w'→K (.int .i64 (x.m.own d:Int)) w') :
 callP Tryz.prog 133 [x.v,.int .i64 (d:Int)] w K:=by
 obtain ⟨k,n,t,s,e,l⟩:=x
 apply ok_value_alone
 refine boxV (x:=.mk k n t s e l) fun w1 b1 a1 c1 z1=>?_
 simp only [add_at,Nat.zero_add]
 have hown:(MV.mk k n t s e l).m.own d=if k<0∨25≤k then 20
  else if 32<d then 26
  else if (MV.mk k n t s e l).m.extra=true then 25
  else if (MV.mk k n t s e l).m.num=false then 21
  else if (MV.mk k n t s e l).m.txt=false then 22
  else if k=22∧mapOk (l.map MV.m)=false then 23
  else if k=23∧arrOk e (l.map MV.m)=false then 24
  else if k=24∧l.length≠2 then 27
  else 0:=by
  rw [MV.m_mk,M.own_mk]
  rw [List.length_map]
 rw [hown] at hk
 have hl:l.length=s.n:=hx.inv.1
 simp only [beqI]
 refine ⟨fun w2=>Ch (fun _=>False) w w2∧(MV.mk k n t s e l).m.own d=0,?_,_,cellK b1 0 rfl,?_⟩
 ·rintro w2 ⟨c2,h0⟩
  have:=hk w2 c2
  rw [← hown,h0] at this
  exact this
 rw [hown]
 refine Sif_cases (fun h=>?_) (fun h=>?_)
 rotate_left
 ·rw [Bool.not_eq_false'] at h
  have:=hk w1 c1
  rw [if_pos (.inl (of_decide_eq_true h))] at this
  exact this
 rw [Bool.not_eq_true'] at h
 have h0:=of_decide_eq_false h
 refine ⟨_,cellK b1 0 rfl,?_⟩
 refine Sif_cases (fun h=>?_) (fun h=>?_)
 ·have h:=of_decide_eq_true h
  have:=hk w1 c1
  rw [if_pos (.inr (by omega))] at this
  exact this
 have h1:=of_decide_eq_false h
 rw [if_neg (by omega)] at hk ⊢
 refine Sif_cases (fun h=>?_) (fun h=>?_)
 ·have h:=of_decide_eq_true h
  have:=hk w1 c1
  rw [if_pos (by omega)] at this
  exact this
 have hd:=of_decide_eq_false h
 rw [if_neg (by omega)] at hk ⊢
 refine ldN b1 ?_
 rw [vv]
 refine extra_ok (by show 0≤k; omega) (by show k<25; omega) (hx.ch0 c1) fun w2 c2=>⟨_,rfl,?_⟩
 have b2:=(c2.blk (blk_lt b1) id).trans b1
 have c12:=c1.trans' c2
 refine Sif_cases (fun h=>?_) (fun h=>?_)
 ·have:=hk w2 c12
  rw [if_pos h] at this
  exact this
 rw [if_neg (by rw [h]; decide)] at hk ⊢
 refine ldN b2 ?_
 rw [vv]
 refine isNum_ok hf fun w3 c3=>⟨_,rfl,?_⟩
 have b3:=(c3.blk (blk_lt b2) id).trans b2
 have c13:=c12.trans' c3
 refine Sif_cases (fun h=>?_) (fun h=>?_)
 ·rw [Bool.not_eq_true'] at h
  have:=hk w3 c13
  rw [if_pos h] at this
  exact this
 rw [Bool.not_eq_false'] at h
 rw [if_neg (by rw [h]; decide)] at hk ⊢
 refine ldN b3 ?_
 rw [vv]
 refine isText_ok hs (hL.ch0 c13) fun w4 c4=>⟨_,rfl,?_⟩
 have b4:=(c4.blk (blk_lt b3) id).trans b3
 have c14:=c13.trans' c4
 refine Sif_cases (fun h=>?_) (fun h=>?_)
 ·rw [Bool.not_eq_true'] at h
  have:=hk w4 c14
  rw [if_pos h] at this
  exact this
 rw [Bool.not_eq_false'] at h
 rw [if_neg (by rw [h]; decide)] at hk ⊢
 -- the last tests
 have deep:∀ w5,blk w5 w.heap.size=some (MV.mk k n t s e l).g→Ch (fun _=>False) w w5→(∀ w',Ch (fun _=>False) w w'→K (.int .i64 ((if k=24∧l.length≠2 then 27 else 0:Nat):Int)) w')→∀ J:World→Prop,(k=24∧l.length≠2→False)∨True→((¬ (k=24∧l.length≠2))→J w5) →
  ∃ n21,w5.cell? ⟨w.heap.size,0,none⟩=some (.int .i64 n21)∧Sif (decide (n21=24)) (∃ p5 n22 c5,w5.cell? ⟨w.heap.size,3,none⟩=some (.slice p5 n22 c5)∧Sif ((n22:Int) != 2) (K (.int .i64 27) w5) (J w5)) (J w5):=by
  intro w5 b5 c5 hk5 J _ hJ
  refine ⟨_,cellK b5 0 rfl,?_⟩
  refine Sif_cases (fun h=>⟨_,_,_,cellK b5 3 rfl,?_⟩) (fun h=>hJ fun e=>of_decide_eq_false h e.1)
  have h:=of_decide_eq_true h
  rw [int_bne]
  refine Sif_cases (fun h2=>?_) (fun h2=>hJ fun e=>?_)
  ·rw [Bool.not_eq_true'] at h2
   have h2:=of_decide_eq_false h2
   have:=hk5 w5 c5
   rw [if_pos ⟨h,by omega⟩] at this
   exact this
  ·rw [Bool.not_eq_false'] at h2
   have h2:=of_decide_eq_true h2
   exact e.2 (by omega)
 have arr:∀ w5,blk w5 w.heap.size=some (MV.mk k n t s e l).g→Ch (fun _=>False) w w5→(∀ w',Ch (fun _=>False) w w'→K (.int .i64 ((if k=23∧arrOk e (l.map MV.m)=false then 24 else if k=24∧l.length≠2 then 27 else 0:Nat):Int)) w')→∀ J:World→Prop,(∀ w',Ch (fun _=>False) w w'→(if k=23∧arrOk e (l.map MV.m)=false then 24 else if k=24∧l.length≠2 then 27 else 0)=0→J w') →
  ∃ n16,w5.cell? ⟨w.heap.size,0,none⟩=some (.int .i64 n16)∧Sif (decide (n16=23)) (∃ n17,w5.cell? ⟨w.heap.size,0,none⟩=some (.int .i64 n17)∧∃ n18,w5.cell? ⟨w.heap.size,1,none⟩=some (.int .u64 n18)∧∃ s3,w5.cell? ⟨w.heap.size,2,none⟩=some (.string s3)∧∃ p4 n19 c4,w5.cell? ⟨w.heap.size,3,none⟩=some (.slice p4 n19 c4)∧∃ n20,w5.cell? ⟨w.heap.size,4,none⟩=some (.int .i64 n20) ∧
   callP Tryz.prog 183 [.agg (Array.mk [.int .i64 n17,.int .u64 n18,.string s3,.slice p4 n19 c4,.int .i64 n20])] w5 fun v4 w6=>∃ b4,v4=.bool b4∧Sif (!b4) (K (.int .i64 24) w6) (∃ n21,w6.cell? ⟨w.heap.size,0,none⟩=some (.int .i64 n21)∧Sif (decide (n21=24)) (∃ p5 n22 c5,w6.cell? ⟨w.heap.size,3,none⟩=some (.slice p5 n22 c5)∧Sif ((n22:Int) != 2) (K (.int .i64 27) w6) (J w6)) (J w6)))
   (∃ n17,w5.cell? ⟨w.heap.size,0,none⟩=some (.int .i64 n17)∧Sif (decide (n17=24)) (∃ p4 n18 c4,w5.cell? ⟨w.heap.size,3,none⟩=some (.slice p4 n18 c4)∧Sif ((n18:Int) != 2) (K (.int .i64 27) w5) (J w5)) (J w5)):=by
  intro w5 b5 c5 hk5 J hJ
  refine ⟨_,cellK b5 0 rfl,?_⟩
  refine Sif_cases (fun h=>?_) (fun h=>?_)
  ·have h:=of_decide_eq_true h
   refine ldN b5 ?_
   rw [vv]
   refine isArray_ok (hx.ch0 c5) fun w6 c6=>⟨_,rfl,?_⟩
   have b6:=(c6.blk (blk_lt b5) id).trans b5
   have c56:=c5.trans' c6
   refine Sif_cases (fun h2=>?_) (fun h2=>?_)
   ·rw [Bool.not_eq_true'] at h2
    have:=hk5 w6 c56
    rw [if_pos ⟨h,h2⟩] at this
    exact this
   ·rw [Bool.not_eq_false'] at h2
    have hno:¬ (k=23∧arrOk e (l.map MV.m)=false):=fun q=>by
     have:arrOk e (l.map MV.m)=true:=h2
     rw [this] at q; exact absurd q.2 (by decide)
    rw [if_neg hno] at hk5 hJ
    exact deep w6 b6 c56 hk5 J (.inr trivial) fun hn=>hJ w6 c56 (if_neg hn)
  ·have h:=of_decide_eq_false h
   rw [if_neg (fun e=>h e.1)] at hk5 hJ
   exact deep w5 b5 c5 hk5 J (.inr trivial) fun hn=>hJ w5 c5 (if_neg hn)
 refine ⟨_,cellK b4 0 rfl,?_⟩
 refine Sif_cases (fun h22=>?_) (fun h22=>?_)
 ·have h22:=of_decide_eq_true h22
  refine ⟨_,_,_,cellK b4 3 rfl,?_⟩
  refine isMap_ok (hx.ch0 c14).row fun w5 c5=>⟨_,rfl,?_⟩
  have b5:=(c5.blk (blk_lt b4) id).trans b4
  have c15:=c14.trans' c5
  refine Sif_cases (fun h2=>?_) (fun h2=>?_)
  ·rw [Bool.not_eq_true'] at h2
   have:=hk w5 c15
   rw [if_pos ⟨h22,h2⟩] at this
   exact this
  ·rw [Bool.not_eq_false'] at h2
   have hno:¬ (k=22∧mapOk (l.map MV.m)=false):=fun e=>by
    have:mapOk (l.map MV.m)=true:=h2
    rw [this] at e; exact absurd e.2 (by decide)
   rw [if_neg hno] at hk ⊢
   exact arr w5 b5 c15 hk _ fun w' c h=>⟨c,h⟩
 ·have h22:=of_decide_eq_false h22
  rw [if_neg (fun e=>h22 e.1)] at hk ⊢
  exact arr w4 b4 c14 hk _ fun w' c h=>⟨c,h⟩
end Go.Proofs.YtnmlmicmhpkbeaaGreatDoor
namespace Go.Proofs.YtnmlmicmhpkbeaaGreatDoor
open Go Go.Sv Go.Note
set_option linter.unusedVariables false
attribute [local irreducible] Sif
set_option maxRecDepth 4000
theorem st1 {w:World} {k:Nat} {z v:Value} {K:World→Prop} (h:blk w k=some [z]) (hk:∀ w',blk w' k=some [v]→Ch (·=k) w w'→K w'):Sv.st w ⟨k,0,none⟩ v K :=
 st_blk h (by simp) fun w' b c _=>hk w' b c
end Go.Proofs.YtnmlmicmhpkbeaaGreatDoor
namespace Go.Proofs.YtnmlmicmhpkbeaaGreatDoor
open Go Go.Sv Go.Note
set_option linter.unusedVariables false
attribute [local irreducible] Sif
set_option maxRecDepth 4000
theorem le_sum_of {x:Nat} {l:List Nat} (h:x∈l):x≤l.sum:=by
 induction l with
 | nil=>cases h
 | cons y l ih =>
  rw [List.sum_cons]
  rcases List.mem_cons.1 h with h | h
  ·omega
  ·have:=ih h; omega
theorem yieldP_mono {P:Program} {l:Nat} {args:List Value} {w:World} {K K':Value→World→Prop} (h:yieldP P l args w K) (hk:∀ v w',K v w'→K' v w'):yieldP P l args w K':=by
 obtain ⟨fn,tmps,assign,body,h1,h2⟩:=h
 exact ⟨fn,tmps,assign,body,h1,RoundIn.mono h2 fun e w' ⟨v,he,hv⟩=>⟨v,he,hk _ _ hv⟩⟩
theorem over_start (w:World) (rc:LoopR):Ch (fun _=>False) w ((w.alloc (.deferred (some []))).alloc (rc .ready none))∧objAt ((w.alloc (.deferred (some []))).alloc (rc .ready none)) w.heap.size=some (.deferred (some [])) ∧
 recAt ((w.alloc (.deferred (some []))).alloc (rc .ready none)) (w.heap.size+1) rc .ready none∧((w.alloc (.deferred (some []))).alloc (rc .ready none)).heap.size=w.heap.size+2:=by
 refine ⟨(alloc_ch w _).trans' (alloc_ch _ _),?_,?_,by simp⟩
 ·exact objAt_ch (alloc_obj w _) (alloc_ch _ _) id
 ·have:=alloc_obj (w.alloc (.deferred (some []))) (rc .ready none)
  simpa [recAt] using this
theorem walk_ok {Q S:Nat→Prop} {l:Nat} {Inv:World→Prop} {Stop:Nat→World→Prop} (hst:∀ w w',Inv w→Ch (fun _=>False) w w'→Inv w') (hS:∀ w,Inv w→∀ j,S j→j<w.heap.size) (hQ:∀ b,Q b→¬ S b)
 (hy:∀ (x:MV) (d:Nat) (w:World),Inv w→VR Q w x→x.n<18446744073709551616→x.t.length≤2^48→yieldP Tryz.prog l [.int .i64 (d:Int),x.v] w fun v w'=>Ch S w w'∧((x.m.own d=0∧v=.bool true∧Inv w')∨(x.m.own d≠0∧v=.bool false∧Stop (x.m.own d) w'))) :
 ∀ (x:MV) (d:Nat) (w:World) (K:Value→World→Prop),d≤33→Inv w→VR Q w x→x.m.fits→x.m.sz≤2^48 →
  (∀ w',x.m.check d=0→Inv w'→Ch S w w'→K (.bool true) w')→(∀ w',x.m.check d≠0→Stop (x.m.check d) w'→Ch S w w'→K (.bool false) w') →
  callP Tryz.prog 178 [x.v,.int .i64 (d:Int),.func (.yield l) #[] #[]] w K:=by
 refine MV.ind fun k n t s e ls ih=>?_
 intro d w K hd hI hx hf hsz hk1 hk2
 apply ok_value_walk
 refine boxV (x:=.mk k n t s e ls) fun w1 b1 a1 c1 z1=>?_
 have hI1:=hst _ _ hI c1
 have hx1:=hx.ch0 c1
 simp only [add_at,Nat.zero_add]
 refine ldN b1 ?_
 rw [vv]
 rw [MV.m_mk] at hf hsz
 have htl:t.length≤2^48:=by rw [M.sz_mk] at hsz; omega
 have hcl:(MV.mk k n t s e ls).m.check d=if (MV.mk k n t s e ls).m.own d≠0 then (MV.mk k n t s e ls).m.own d else M.checkL (d+1) (ls.map MV.m):=by
  rw [MV.m_mk,M.check]
 have hn64:n<18446744073709551616:=by cases hf with | mk h _=>exact h
 have hfl:∀ x∈ls,x.m.fits:=fun x hx=>by
  cases hf with | mk _ h=>exact h x.m (List.mem_map.2 ⟨x,hx,rfl⟩)
 have hszl:∀ x∈ls,x.m.sz≤2^48:=fun x hx=>by
  rw [M.sz_mk] at hsz
  have:=le_sum_of (List.mem_map.2 ⟨x.m,List.mem_map.2 ⟨x,hx,rfl⟩,rfl⟩:x.m.sz∈(ls.map MV.m).map M.sz)
  omega
 have cS:∀ {a b:World},Ch (fun _=>False) a b→Ch S a b:=fun c=>c.mono fun _ _ h=>h.elim
 show yieldP _ _ _ _ _
 refine yieldP_mono (hy (.mk k n t s e ls) d w1 hI1 hx1 hn64 htl) ?_
 rintro v w2 ⟨c2,hv⟩
 have c12:Ch S w w2:=(cS c1).trans' c2
 have hns:¬ S w.heap.size:=fun h=>by have:=hS w hI _ h; omega
 rcases hv with ⟨h0,rfl,hI2⟩ | ⟨h0,rfl,hst2⟩
 ·refine ⟨_,rfl,Sif_false ?_⟩
  have b2:=(c2.blk (blk_lt b1) hns).trans b1
  refine ⟨_,_,_,cellK b2 3 rfl,?_⟩
  have hd32:d≤32:=by
   have:=own_ok h0
   exact this.2.2.1
  rw [hcl,if_neg (by simp [h0])] at hk1 hk2
  have hrow:∀ w3,Ch S w w3→VRow Q w3 s.p s.n ls:=fun w3 c=>(hx.row.ch c hQ)
  have hl:ls.length=s.n:=(hrow w (Ch.refl _ _)).1
  have hn46:s.n≤2^46:=(hrow w (Ch.refl _ _)).2.1
  refine ⟨fun m i w3=>∃ j:Nat,i=(j:Int)∧m=s.n-j∧j≤s.n∧Inv w3∧Ch S w w3∧blk w3 w.heap.size=some (MV.mk k n t s e ls).g∧M.checkL (d+1) (ls.map MV.m)=M.checkL (d+1) ((ls.drop j).map MV.m),⟨s.n,0,rfl,rfl,Nat.zero_le _,hI2,c12,b2,rfl⟩,?_⟩
  rintro m i w3 ⟨j,rfl,rfl,hj,hI3,c3,b3,heq⟩
  refine Sif_cases (fun h=>?_) (fun h=>?_)
  ·have hjl:j<s.n:=by have:=of_decide_eq_true h; omega
   obtain ⟨y,hyi⟩:∃ y,ls[j]?=some y:=⟨ls[j]'(by omega),List.getElem?_eq_getElem _⟩
   have hdr:ls.drop j=y::ls.drop (j+1):=by
    rw [List.drop_eq_getElem_cons (by omega)]
    congr 1
    rw [List.getElem?_eq_getElem (by omega)] at hyi
    exact Option.some.inj hyi
   rw [hdr,List.map_cons,M.checkL] at heq
   obtain ⟨by',oy,py,_,ay⟩:=(hrow w3 c3).at hyi
   refine ⟨by omega,by omega,?_⟩
   rw [py]
   simp only [nn]
   refine ldR ay ?_
   refine nbx rfl fun w4 b4 c4 z4=>?_
   refine ldK b4 ?_
   rw [vv y,wrap_id (n:=(d:Int)+1) (by omega) (by omega)]
   have c34:Ch S w w4:=c3.trans' (cS c4)
   have hym:=List.mem_of_getElem? hyi
   have b34:=(c4.blk (blk_lt b3) id).trans b3
   refine ih y hym (d+1) w4 _ (by omega) (hst _ _ hI3 c4) ((hrow w4 c34).2.2.2.2 y hym) (hfl y hym) (hszl y hym) (fun w5 hc0 hI5 c5=>⟨_,rfl,Sif_false ?_⟩) (fun w5 hc0 hs5 c5=>⟨_,rfl,Sif_true ?_⟩)
   ·rw [wrap_id (n:=(j:Int)+1) (by omega) (by omega)]
    refine ⟨s.n-(j+1),by omega,j+1,by omega,rfl,by omega,hI5,c34.trans' c5,(c5.blk (blk_lt b34) hns).trans b34,?_⟩
    rw [heq,if_neg (by simp [hc0])]
   ·rw [if_pos hc0] at heq
    exact hk2 w5 (by rw [heq]; exact hc0) (by rw [heq]; exact hs5) (c34.trans' c5)
  ·have hjl:j=s.n:=by have:=of_decide_eq_false h; omega
   rw [List.drop_of_length_le (by omega)] at heq
   exact hk1 w3 (by rw [heq]; rfl) hI3 c3
 ·refine ⟨_,rfl,Sif_true ?_⟩
  rw [hcl,if_pos h0] at hk2
  exact hk2 w2 h0 hst2 c12
theorem vCheck_ok {Q:Nat→Prop} {x:MV} (hf:x.m.fits) (hsz:x.m.sz≤2^48) {w:World} (hL:LW w) (hx:VR Q w x) {K:Value→World→Prop} (hk:∀ w',Ch (fun _=>False) w w'→K (.int .i64 (x.m.check 1:Int)) w') :
 callP Tryz.prog 87 [x.v] w K:=by
 have hxl:=hx.lt x
 obtain ⟨k,n,t,s,e,ls⟩:=x
 apply ok_value_Check
 refine boxV (x:=.mk k n t s e ls) fun w1 b1 a1 c1 z1=>newB_blk fun w2 b2 c2 z2=>?_
 have b12:=(c2.blk (blk_lt b1) id).trans b1
 have c12:=c1.trans' c2
 refine ldK b12 ?_
 rw [vv]
 apply ok_value_each
 refine boxV (x:=.mk k n t s e ls) fun w3 b3 a3 c3 z3=>⟨_,rfl,?_⟩
 have c13:=c12.trans' c3
 have b23:=(c3.blk (blk_lt b2) id).trans b2
 have hs3:=blk_lt b3
 have hs2:=blk_lt b2
 intro l hl rc hrc hyield
 have hl:l=w3.heap.size+1:=by rw [hl]; simp
 obtain ⟨cW,dW,rW,zW⟩:=over_start w3 rc
 subst hl
 obtain ⟨W,hW⟩:∃ W,W=(w3.alloc (.deferred (some []))).alloc (rc .ready none):=⟨_,rfl⟩
 rw [← hW] at cW dW rW zW ⊢
 have cW0:Ch (fun _=>False) w W:=c13.trans' cW
 have bW2:=(cW.blk (blk_lt b23) id).trans b23
 have bW3:=(cW.blk (blk_lt b3) id).trans b3
 obtain ⟨rb,hrb⟩:∃ rb,rb=w1.heap.size:=⟨_,rfl⟩
 rw [← hrb] at bW2 hyield ⊢
 have hw1:=c1.size
 -- the loop's record, the answer's box
 obtain ⟨S,hSd⟩:∃ S:Nat→Prop,S=fun j=>j=w3.heap.size+1∨j=rb:=⟨_,rfl⟩
 have hInvS:∀ a b:World,objAt a w3.heap.size=some (.deferred (some []))→Ch S a b→objAt b w3.heap.size=some (.deferred (some [])):=fun a b h c=>objAt_ch h c (by rw [hSd]; rintro (h | h)<;>omega)
 refine ⟨by kernel_rfl,?_⟩
 show callP _ _ [.func (.yield (w3.heap.size+1)) #[] #[],.pointer (some ⟨w2.heap.size,0,none⟩)] W _
 apply ok_value_each_1
 simp only [nn]
 refine ldK bW3 ?_
 rw [vv]
 have hLW:LW W:=hL.ch0 cW0
 refine walk_ok (Q:=fun b=>Q b∧b<w.heap.size) (S:=S) (l:=w3.heap.size+1)
  (Inv:=fun a=>recAt a (w3.heap.size+1) rc .ready none∧blk a rb=some [.int .i64 0]∧objAt a w3.heap.size=some (.deferred (some []))∧Ch S W a)
  (Stop:=fun er a=>recAt a (w3.heap.size+1) rc .done (some .ret)∧blk a rb=some [.int .i64 (er:Int)]∧objAt a w3.heap.size=some (.deferred (some []))∧Ch S W a)
  (fun a b ⟨h1,h2,h3,h4⟩ c=>⟨h1.ch c id,(c.blk (blk_lt h2) id).trans h2,objAt_ch h3 c id,h4.trans' (c.mono fun _ _ h=>h.elim)⟩)
  (fun a ⟨h1,h2,_,_⟩ j hj=>by
    rw [hSd] at hj
    rcases hj with rfl | rfl
    ·exact objAt_lt h1
    ·exact blk_lt h2)
  (fun b hb hs=>by rw [hSd] at hs; rcases hs with h | h<;>omega) ?_ (.mk k n t s e ls) 1 W _ (by decide) ⟨rW,bW2,dW,Ch.refl _ _⟩ (hxl.ch0 cW0) hf hsz (fun w4 hc ⟨r4,b4,o4,c4⟩ _=>⟨_,rfl,?_⟩) (fun w4 hc ⟨r4,b4,o4,c4⟩ _=>⟨_,rfl,?_⟩)
 ·rintro ⟨k',n',t',s',e',l'⟩ d a ⟨r1,r2,r3,r4⟩ hxa hn64 htl
  refine hyield (d:Int) k' (n':Int) ⟨t'.toArray⟩ s'.p s'.n s'.c e' a _ r1 ?_
  refine nbx (x:=.mk k' n' t' s' e' l') rfl fun w10 b10 c10 z10=>?_
  have r10:=r1.ch c10 id
  refine ⟨r10,?_⟩
  obtain ⟨w11,hw11⟩:∃ w11,w11=w10.putObj (w3.heap.size+1) (rc .busy none):=⟨_,rfl⟩
  rw [← hw11]
  have c11:Ch (·=w3.heap.size+1) w10 w11:=by rw [hw11]; exact putObj_ch ..
  have rb11:recAt w11 (w3.heap.size+1) rc .busy none:=by rw [hw11]; exact r10.put
  have hls:w3.heap.size+1<a.heap.size:=objAt_lt r1
  have b11:=(c11.blk (blk_lt b10) (by omega)).trans b10
  refine ldK b11 ?_
  rw [vv]
  have ca11:Ch S a w11:=(c10.mono fun _ _ h=>h.elim).trans c11 fun x hx h=>by rw [hSd]; exact .inl h
  have cW11:Ch S W w11:=r4.trans' ca11
  have hL11:LW w11:=hLW.ch cW11 fun b hb hs=>by
   have:=hL.size
   rw [hSd] at hs; rcases hs with h | h<;>omega
  have hx11:VR (fun b=>Q b∧b<w.heap.size) w11 (.mk k' n' t' s' e' l'):=VR.ch ca11 (fun b hb hs=>by rw [hSd] at hs; rcases hs with h | h<;>omega) _ hxa
  refine alone_ok hn64 htl hL11 hx11 fun w12 c12'=>⟨_,rfl,?_⟩
  have rb12:=rb11.ch c12' id
  have ba12:blk w12 rb=some [.int .i64 0]:=(c12'.blk (by have:=c11.size; have:=c10.size; have:=blk_lt r2; omega) id).trans ((c11.blk (by have:=c10.size; have:=blk_lt r2; omega) (by omega)).trans ((c10.blk (blk_lt r2) id).trans r2))
  have o12:objAt w12 w3.heap.size=some (.deferred (some [])):=objAt_ch (hInvS a w11 r3 ca11) c12' id
  have ca12:Ch S a w12:=ca11.trans' (c12'.mono fun _ _ h=>h.elim)
  rw [int_bne]
  refine Sif_cases (fun h=>?_) (fun h=>?_)
  ·rw [Bool.not_eq_true'] at h
   have h:=of_decide_eq_false h
   refine st1 ba12 fun w13 b13 c13'=>?_
   have r13:=rb12.ch c13' (by omega)
   refine ⟨r13,?_⟩
   have cp:=putObj_ch w13 (w3.heap.size+1) (rc .done (some .ret))
   have ca13:Ch S a w13:=ca12.trans c13' fun x hx h=>by rw [hSd]; exact .inr h
   have caf:=ca13.trans cp fun x hx h=>by rw [hSd]; exact .inl h
   refine ⟨caf,.inr ⟨by omega,rfl,r13.put,(cp.blk (blk_lt b13) (by omega)).trans b13,hInvS _ _ r3 caf,r4.trans' caf⟩⟩
  ·rw [Bool.not_eq_false'] at h
   have h:=of_decide_eq_true h
   refine ⟨rb12,?_⟩
   have cp:=putObj_ch w12 (w3.heap.size+1) (rc .ready none)
   have caf:=ca12.trans cp fun x hx h=>by rw [hSd]; exact .inl h
   refine ⟨caf,.inl ⟨by omega,rfl,rb12.put,(cp.blk (blk_lt ba12) (by omega)).trans ba12,hInvS _ _ r3 caf,r4.trans' caf⟩⟩
 ·-- all may be
  refine .inl ⟨r4,?_⟩
  have cp:=putObj_ch w4 (w3.heap.size+1) (rc .exhausted none)
  have b5:=(cp.blk (blk_lt b4) (by omega)).trans b4
  have o5:=objAt_ch o4 cp (by omega)
  simp only [add_at,Nat.zero_add]
  refine st1 b5 fun w6 b6 c6=>?_
  refine takeM_of (objAt_ch o5 c6 (by omega)) fun w7 c7 z7=>?_
  refine ⟨_,cellK ((c7.blk (blk_lt b6) (by omega)).trans b6) 0 rfl,?_⟩
  have:=hk w7 ((((cW0.trans c4 fun x hx h=>by rw [hSd] at h; rcases h with h | h<;>omega).trans cp fun x hx h=>by omega).trans c6 fun x hx h=>by omega).trans c7 fun x hx h=>by omega)
  rw [hc] at this
  exact this
 ·refine .inr (.inl ⟨r4,?_⟩)
  have cp:=putObj_ch w4 (w3.heap.size+1) (rc .exhausted (some .ret))
  have b5:=(cp.blk (blk_lt b4) (by omega)).trans b4
  refine takeM_of (objAt_ch o4 cp (by omega)) fun w7 c7 z7=>?_
  refine ⟨_,cellK ((c7.blk (blk_lt b5) (by omega)).trans b5) 0 rfl,?_⟩
  exact hk w7 (((cW0.trans c4 fun x hx h=>by rw [hSd] at h; rcases h with h | h<;>omega).trans cp fun x hx h=>by omega).trans c7 fun x hx h=>by omega)
end Go.Proofs.YtnmlmicmhpkbeaaGreatDoor
namespace Go.Proofs.YtnmlmicmhpkbeaaGreatDoor
open Go Go.Sv Go.Note Go.RowKit Go.Sort
set_option linter.unusedVariables false
attribute [local irreducible] Sif
set_option maxRecDepth 4000
def PW (base:World) (g0:Option Nat) (w:World) (b:Nat) (out:Bs):Prop:=BW base w TPr b out g0∧b<base.heap.size∧∀ k,g0=some k→k<base.heap.size
theorem PW.ch {base w:World} {g0:Option Nat} {b:Nat} {out:Bs} (h:PW base g0 w b out):Ch (fun k=>k=b∨g0=some k) base w:=by obtain ⟨⟨_,_,_,h⟩,_⟩:=h; exact h
theorem PW.ch0 {base w w':World} {g0:Option Nat} {b:Nat} {out:Bs} (h:PW base g0 w b out) (c:Ch (fun _=>False) w w'):PW base g0 w' b out:=by
 obtain ⟨⟨g,h1,h2,h3⟩,h4⟩:=h
 exact ⟨⟨g,h1.ch c id fun _ _ h=>h,h2,h3.trans' (c.mono fun _ _ h=>h.elim)⟩,h4⟩
end Go.Proofs.YtnmlmicmhpkbeaaGreatDoor
namespace Go.Note
open Go
end Go.Note
namespace Go.Proofs.YtnmlmicmhpkbeaaGreatDoor
open Go Go.Sv Go.Note
set_option linter.unusedVariables false
attribute [local irreducible] Sif
set_option maxRecDepth 4000
end Go.Proofs.YtnmlmicmhpkbeaaGreatDoor
