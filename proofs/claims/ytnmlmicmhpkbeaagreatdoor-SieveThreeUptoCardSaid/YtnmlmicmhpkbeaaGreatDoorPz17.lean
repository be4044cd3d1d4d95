/-
  What a filter says of a message: worths as they lie in memory; what a value says. What a filter says: three values, comparisons.
-/
import Derived.Test.YtnmlmicmhpkbeaaGreatDoorPz16
set_option linter.unusedVariables false
set_option linter.unusedSimpArgs false
namespace Go.Proofs.YtnmlmicmhpkbeaaGreatDoor
open Go Go.Sv Go.Note
set_option linter.unusedVariables false
attribute [local irreducible] Sif
def _root_.Go.Note.W.val:W→Value
 | .unk=>.nilIface
 | .tru b=>.iface 86 (.bool b)
 | .int n=>.iface 133 (.int .i64 n)
 | .real x=>.iface 131 (.float .f64 x)
 | .txt s=>.iface 129 (.string ⟨s.toArray⟩)
 | .odd=>.iface 182 (.agg (Array.mk []))
def isTru:W→Bool | .tru _=>true | _=>false
def theTru:W→Bool | .tru b=>b | _=>false
def isInt:W→Bool | .int _=>true | _=>false
def theInt:W→Int | .int n=>n | _=>0
def isReal:W→Bool | .real _=>true | _=>false
def theReal:W→Nat | .real x=>x | _=>0
def isTxt:W→Bool | .txt _=>true | _=>false
def theTxt:W→Bs | .txt s=>s | _=>[]
theorem ta_tru (a:W) (w:World):(Instr.typeAssert a.val 83 86 true).run Tryz.prog w=.ok (.tuple (Array.mk [.bool (theTru a),.bool (isTru a)])) w:=by cases a<;>kernel_rfl
theorem ta_int (a:W) (w:World):(Instr.typeAssert a.val 83 133 true).run Tryz.prog w=.ok (.tuple (Array.mk [.int .i64 (theInt a),.bool (isInt a)])) w:=by cases a<;>kernel_rfl
theorem ta_real (a:W) (w:World):(Instr.typeAssert a.val 83 131 true).run Tryz.prog w=.ok (.tuple (Array.mk [.float .f64 (theReal a),.bool (isReal a)])) w:=by cases a<;>kernel_rfl
theorem ta_txt (a:W) (w:World):(Instr.typeAssert a.val 83 129 true).run Tryz.prog w=.ok (.tuple (Array.mk [.string ⟨(theTxt a).toArray⟩,.bool (isTxt a)])) w:=by cases a<;>kernel_rfl
theorem fin5 {w:World} {k:Nat} {zs:List Value} {x:MV} {K:Value→World→Prop} (h:blk w k=some zs) (hl:zs.length=5) (hk:∀ w',blk w' k=some x.g→Ch (·=k) w w'→w'.heap.size=w.heap.size→K x.v w') :
 Sv.st w ⟨k,0,none⟩ (.int .i64 x.k) fun w1=>Sv.st w1 ⟨k,1,none⟩ (.int .u64 (x.n:Int)) fun w2=>Sv.st w2 ⟨k,2,none⟩ (.string ⟨x.t.toArray⟩) fun w3=>Sv.st w3 ⟨k,3,none⟩ (.slice x.s.p x.s.n x.s.c) fun w4=>Sv.st w4 ⟨k,4,none⟩ (.int .i64 x.e) fun w =>
 ∃ n,w.cell? ⟨k,0,none⟩=some (.int .i64 n)∧∃ n1,w.cell? ⟨k,1,none⟩=some (.int .u64 n1)∧∃ s,w.cell? ⟨k,2,none⟩=some (.string s)∧∃ p n2 c,w.cell? ⟨k,3,none⟩=some (.slice p n2 c)∧∃ n3,w.cell? ⟨k,4,none⟩=some (.int .i64 n3) ∧
  K (.agg (Array.mk [.int .i64 n,.int .u64 n1,.string s,.slice p n2 c,.int .i64 n3])) w :=
 st5 h hl fun w' b c z=>by
  refine ⟨_,MV.c0 b,_,MV.c1 b,_,MV.c2 b,_,_,_,MV.c3 b,_,MV.c4 b,?_⟩
  rw [vv]
  exact hk w' b c z
theorem ld5v {w:World} {k:Nat} {x:MV} {K:Int→Int→ByteArray→Option Addr→Nat→Nat→Int→Prop} (b:blk w k=some x.g) (hk:K x.k (x.n:Int) ⟨x.t.toArray⟩ x.s.p x.s.n x.s.c x.e) :
 ∃ n,w.cell? ⟨k,0,none⟩=some (.int .i64 n)∧∃ n1,w.cell? ⟨k,1,none⟩=some (.int .u64 n1)∧∃ s,w.cell? ⟨k,2,none⟩=some (.string s)∧∃ p n2 c,w.cell? ⟨k,3,none⟩=some (.slice p n2 c)∧∃ n3,w.cell? ⟨k,4,none⟩=some (.int .i64 n3)∧K n n1 s p n2 c n3 :=
 ⟨_,MV.c0 b,_,MV.c1 b,_,MV.c2 b,_,_,_,MV.c3 b,_,MV.c4 b,hk⟩
def okW (B:Prop):W→Prop
 | .int n=>-9223372036854775808≤n∧n≤9223372036854775807
 | .real x=>B∧fin64 x=true∧x<2^64
 | .txt s=>s.length≤2^40
 | _=>True
structure Fl:Prop where
 mixed:∀ {a:Int} {x:Nat},fin64 x=true→x<2^64→-9223372036854775808≤a→a≤9223372036854775807→∀ {w:World} {K:Value→World→Prop},(∀ w',Ch (fun _=>False) w w'→K (.int .i64 (mixF a x)) w')→callP Tryz.prog 194 [.int .i64 a,.float .f64 x] w K
 order:∀ {x y:Nat},fin64 x=true→x<2^64→fin64 y=true→y<2^64→DB.order x y=some (compare (valF x) (valF y))
 finite:∀ {x:Nat} (o:W),x<2^64→∀ {w:World} {K:Value→World→Prop},(∀ w',Ch (fun _=>False) w w'→K (finW x o).val w')→callP Tryz.prog 148 [.float .f64 x,o.val] w K
 conv:∀ {x:Nat},x<2^32→∀ w:World,∃ y w',(convert 167 75 (.float .f32 x)).run Tryz.prog w=.ok (.float .f64 y) w'∧Ch (fun _=>False) w w'∧y<2^64∧(if x / 2^23%256=255 then fin64 y=false else fin64 y=true∧y=fl32 x)
 ofOk:∀ {n:Nat},n<2^64→fin64 (flI n)=true∧flI n<2^64
 negOk:∀ {x:Nat},fin64 x=true→x<2^64→fin64 (negF x)=true∧negF x<2^64
 reckOk:∀ {k:Int} {a b:W},okW True a→okW True b→okW True (reckW k a b)
 reck:∀ {k:Int} {a b:W},16≤k→k≤19→okW True a→okW True b→∀ {w:World} {K:Value→World→Prop},(∀ w',Ch (fun _=>False) w w'→K (reckW k a b).val w')→callP Tryz.prog 101 [.int .i64 k,a.val,b.val] w K
theorem wrapI {n:Nat} (h:n<18446744073709551616):IntKind.i64.wrap (n:Int)=toI n:=by
 unfold toI
 rw [wrap64 h]
 by_cases h2:n<9223372036854775808
 ·rw [if_pos h2,if_pos (by omega)]
 ·rw [if_neg h2,if_neg (by omega)]; omega
theorem num_of {v:M} (h:M.check 1 v=0):v.num=true:=by
 have h1:=((M.check_iff 1 v).1 h).1
 unfold M.own at h1
 split at h1; · cases h1
 split at h1; · cases h1
 split at h1; · cases h1
 split at h1; · cases h1
 rename_i h4
 simpa using h4
theorem num10 {v:M} (h:M.check 1 v=0) (hk:v.k=10):v.n<4294967296:=by
 have:=num_of h
 unfold M.num at this
 rw [if_neg (by omega),if_neg (by omega),if_neg (by omega),if_pos (by omega)] at this
 have:=of_decide_eq_true this
 omega
theorem num15 {v:M} (h:M.check 1 v=0) (hk:v.k=15):v.n≤1114111:=by
 have:=num_of h
 unfold M.num at this
 rw [if_neg (by omega),if_neg (by omega),if_neg (by omega),if_neg (by omega),if_neg (by omega),if_neg (by omega),if_neg (by omega),if_pos hk] at this
 simp only [Bool.and_eq_true,decide_eq_true_eq] at this
 exact this.1
theorem MV.mf (v:MV):v.m.k=v.k∧v.m.n=v.n∧v.m.t=v.t:=by cases v; rw [MV.m_mk]; exact ⟨rfl,rfl,rfl⟩
variable {B:Prop}
set_option maxRecDepth 100000 in
theorem of_ok (F:B→Fl) {v:MV} (hf:v.m.fits) (hsz:v.m.sz≤2^48) (hb:v.k=10∨v.k=11→B) (hn:v.n<18446744073709551616) {Q:Nat→Prop} {w:World} (hL:LW w) (hx:VR Q w v) {K:Value→World→Prop} (hk:∀ w',Ch (fun _=>False) w w'→K (ofW v.m).val w') :
 callP Tryz.prog 96 [v.v] w K:=by
 rw [← vv]
 apply ok_sieve_of
 refine newB_blk fun w1 b1 c1 z1=>?_
 have b1:blk w1 w.heap.size=some v.g:=b1.trans (by cases v; rfl)
 simp only [add_at,Nat.zero_add]
 refine ld5v b1 ?_
 rw [vv]
 refine vEqual_ok (Q:=Q) (Q':=fun _=>True) v zMV (VR.ch0 c1 hx) (VO.vr zMV (zMV_ok w1) _ fun _ _=>trivial) fun w2 c2=>⟨_,rfl,?_⟩
 rw [zMV_m]
 have c02:=c1.trans' c2
 have b2:=(c2.blk (blk_lt b1) id).trans b1
 obtain ⟨mk,mn,mt⟩:=v.mf
 unfold ofW at hk
 refine Sif_cases (fun h=>?_) (fun h=>?_)
 ·rw [if_pos (of_decide_eq_true h)] at hk
  exact hk w2 c02
 rw [if_neg (of_decide_eq_false h)] at hk
 refine ld5v b2 ?_
 rw [vv]
 refine vCheck_ok hf hsz (hL.ch c02 fun _ _ h=>h) (VR.ch0 c02 hx) fun w3 c3=>⟨_,rfl,?_⟩
 have c03:=c02.trans' c3
 have b3:=(c3.blk (blk_lt b2) id).trans b2
 rw [show (((v.m.check 1:Nat):Int) != 0)=!decide (v.m.check 1=0) from congrArg (!·) (natBeq _ 0)]
 refine Sif_cases (fun h=>?_) (fun h=>?_)
 ·have h:¬ v.m.check 1=0:=by simpa using h
  rw [if_pos h] at hk
  exact hk w3 c03
 have hch:v.m.check 1=0:=by simpa using h
 rw [if_neg (fun e=>e hch),mk,mn,mt] at hk
 refine ⟨_,MV.c0 b3,?_⟩
 simp only [intEq]
 have ld1:∀ {w':World},Ch (fun _=>False) w3 w'→w'.cell? ⟨w.heap.size,1,none⟩=some (.int .u64 (v.n:Int)):=fun c=>MV.c1 ((c.blk (blk_lt b3) id).trans b3)
 have ld2:∀ {w':World},Ch (fun _=>False) w3 w'→w'.cell? ⟨w.heap.size,2,none⟩=some (.string ⟨v.t.toArray⟩):=fun c=>MV.c2 ((c.blk (blk_lt b3) id).trans b3)
 have r3:Ch (fun _=>False) w3 w3:=Ch.refl _ _
 refine Sif_cases (fun h1=>?_) (fun h1=>?_)
 ·rw [if_pos (of_decide_eq_true h1)] at hk
  refine ⟨_,ld1 r3,?_⟩
  rw [show decide ((v.n:Int)=1)=decide (v.n=1) from decide_eq_decide.2 (by omega)]
  exact hk w3 c03
 rw [if_neg (of_decide_eq_false h1)] at hk
 refine ⟨fun b w4=>w4=w3∧b=decide (v.k=2∨v.k=3∨v.k=4∨v.k=6∨v.k=7∨v.k=8∨v.k=9∨v.k=16),?_,?_⟩
 ·rintro b w4 ⟨rfl,rfl⟩
  refine Sif_cases (fun h2=>?_) (fun h2=>?_)
  ·rw [if_pos (of_decide_eq_true h2)] at hk
   refine ⟨_,ld1 r3,?_⟩
   rw [wrapI hn]
   exact hk w4 c03
  rw [if_neg (of_decide_eq_false h2)] at hk
  refine Sif_cases (fun h5=>?_) (fun h5=>?_)
  ·rw [if_pos (of_decide_eq_true h5)] at hk
   refine ⟨_,ld1 r3,?_⟩
   refine Sif_cases (fun h6=>?_) (fun h6=>?_)
   ·have h6:2^63≤v.n:=by have:=of_decide_eq_true h6; omega
    rw [if_pos h6] at hk
    exact ⟨_,ld1 r3,hk w4 c03⟩
   ·have h6:¬ 2^63≤v.n:=by have:=of_decide_eq_false h6; omega
    rw [if_neg h6] at hk
    refine ⟨_,ld1 r3,?_⟩
    rw [wrap_id (by omega) (by omega)]
    exact hk w4 c03
  rw [if_neg (of_decide_eq_false h5)] at hk
  refine Sif_cases (fun h10=>?_) (fun h10=>?_)
  ·have h10:=of_decide_eq_true h10
   rw [if_pos h10] at hk
   have hn32:=num10 hch (by rw [mk]; exact h10)
   rw [mn] at hn32
   refine ⟨_,ld1 r3,?_⟩
   rw [show IntKind.wrap .u32 (v.n:Int)=(v.n:Int) by simp [IntKind.wrap,IntKind.bits,IntKind.signed]; omega]
   refine ⟨.float .f32 v.n,w4,?_,_,rfl,?_⟩
   ·rw [run_callFunc_extern Tryz.func135 (by kernel_rfl) (by kernel_rfl) (by kernel_rfl) (e:=Extern.MathFloatBits.float32frombits) (by kernel_rfl)]
    rfl
   obtain ⟨y,w5,hr,c5,hy,hy2⟩:=(F (hb (.inl h10))).conv (x:=v.n) (by omega) w4
   refine ⟨y,w5,hr,(F (hb (.inl h10))).finite .odd hy fun w6 c6=>⟨_,rfl,?_⟩⟩
   have hk:=hk w6 ((c03.trans' c5).trans' c6)
   by_cases h255:v.n / 2^23%256=255
   ·rw [if_pos h255] at hk hy2
    unfold finW
    rw [hy2]; exact hk
   ·rw [if_neg h255] at hk hy2
    unfold finW
    rw [hy2.1,hy2.2]; exact hk
  rw [if_neg (of_decide_eq_false h10)] at hk
  refine Sif_cases (fun h11=>?_) (fun h11=>?_)
  ·have h11:=of_decide_eq_true h11
   rw [if_pos h11] at hk
   refine ⟨_,ld1 r3,?_⟩
   refine ⟨.float .f64 v.n,w4,?_,_,rfl,?_⟩
   ·rw [run_callFunc_extern Tryz.func114 (by kernel_rfl) (by kernel_rfl) (by kernel_rfl) (e:=Extern.MathFloatBits.float64frombits) (by kernel_rfl)]
    rfl
   exact (F (hb (.inr h11))).finite .odd (by omega) fun w6 c6=>⟨_,rfl,hk w6 (c03.trans' c6)⟩
  rw [if_neg (of_decide_eq_false h11)] at hk
  refine ⟨fun b w5=>w5=w4∧b=decide (v.k=18∨v.k=19∨v.k=20),?_,?_⟩
  ·rintro b w5 ⟨rfl,rfl⟩
   refine Sif_cases (fun h18=>?_) (fun h18=>?_)
   ·rw [if_pos (of_decide_eq_true h18)] at hk
    exact ⟨_,ld2 r3,hk w5 c03⟩
   rw [if_neg (of_decide_eq_false h18)] at hk
   refine Sif_cases (fun h15=>?_) (fun h15=>?_)
   ·have h15:=of_decide_eq_true h15
    rw [if_pos h15] at hk
    have hn15:=num15 hch (by rw [mk]; exact h15)
    rw [mn] at hn15
    refine ⟨_,ld1 r3,?_⟩
    rw [show IntKind.wrap .i32 (v.n:Int)=(v.n:Int) by simp [IntKind.wrap,IntKind.bits,IntKind.signed]; omega]
    have e:ByteArray.mk (Utf8.encode (v.n:Int)).data.toList.toArray=Utf8.encode (v.n:Int):=data_ext (by simp)
    have h9:K (.iface 129 (.string (ByteArray.mk (runB (v.n:Int)).toArray))) w5:=hk w5 c03
    unfold runB at h9
    rw [e] at h9
    exact h9
   rw [if_neg (of_decide_eq_false h15)] at hk
   exact hk w5 c03
  ·refine Sif_cases (fun h=>⟨rfl,by rw [h]; exact (decide_eq_true (.inr (.inl (of_decide_eq_true h)))).symm⟩) fun e1=>?_
   refine Sif_cases (fun h=>⟨rfl,by rw [h]; exact (decide_eq_true (.inr (.inr (of_decide_eq_true h)))).symm⟩) fun e2=>?_
   have e1:=of_decide_eq_false e1
   have e2:=of_decide_eq_false e2
   exact ⟨rfl,decide_eq_decide.2 (by omega)⟩
 ·have yes:∀ {p:Prop} [Decidable p],p→(v.k=2∨v.k=3∨v.k=4∨v.k=6∨v.k=7∨v.k=8∨v.k=9∨v.k=16)→decide p=decide (v.k=2∨v.k=3∨v.k=4∨v.k=6∨v.k=7∨v.k=8∨v.k=9∨v.k=16):=fun hp h=>by rw [decide_eq_true hp,decide_eq_true h]
  refine Sif_cases (fun h=>⟨rfl,yes (of_decide_eq_true h) (by have:=of_decide_eq_true h; omega)⟩) fun e2=>?_
  refine Sif_cases (fun h=>⟨rfl,yes (of_decide_eq_true h) (by have:=of_decide_eq_true h; omega)⟩) fun e3=>?_
  refine Sif_cases (fun h=>⟨rfl,yes (of_decide_eq_true h) (by have:=of_decide_eq_true h; omega)⟩) fun e4=>?_
  refine Sif_cases (fun h=>⟨rfl,yes (of_decide_eq_true h) (by have:=of_decide_eq_true h; omega)⟩) fun e6=>?_
  refine Sif_cases (fun h=>⟨rfl,yes (of_decide_eq_true h) (by have:=of_decide_eq_true h; omega)⟩) fun e7=>?_
  refine Sif_cases (fun h=>⟨rfl,yes (of_decide_eq_true h) (by have:=of_decide_eq_true h; omega)⟩) fun e8=>?_
  refine Sif_cases (fun h=>⟨rfl,yes (of_decide_eq_true h) (by have:=of_decide_eq_true h; omega)⟩) fun e9=>?_
  have e2:=of_decide_eq_false e2
  have e3:=of_decide_eq_false e3
  have e4:=of_decide_eq_false e4
  have e6:=of_decide_eq_false e6
  have e7:=of_decide_eq_false e7
  have e8:=of_decide_eq_false e8
  have e9:=of_decide_eq_false e9
  exact ⟨rfl,decide_eq_decide.2 (by omega)⟩
end Go.Proofs.YtnmlmicmhpkbeaaGreatDoor
namespace Go.Proofs.YtnmlmicmhpkbeaaGreatDoor
open Go Go.Sv Go.Note
set_option linter.unusedVariables false
attribute [local irreducible] Sif
variable {B:Prop}
theorem wnot_ok {a:W} {w:World} {K:Value→World→Prop} (hk:K (notW a).val w):callP Tryz.prog 98 [a.val] w K:=by
 apply ok_sieve_not
 refine ⟨_,_,ta_tru a w,?_⟩
 cases a<;>first | exact Sif_true hk | exact Sif_false hk
theorem wcmp_ok {x y:Int} {w:World} {K:Value→World→Prop} (hk:K (.int .i64 (sgnI x y)) w):callP Tryz.prog 193 [.int .i64 x,.int .i64 y] w K:=by
 apply ok_ecmp_Compare
 apply ok_ecmp_isNaN
 refine ⟨_,rfl,?_⟩
 apply ok_ecmp_isNaN
 refine ⟨_,rfl,?_⟩
 have e:∀ z:Int,(z != z)=false:=fun z=>by simp
 rw [e,e]
 refine Sif_false (Sif_false ?_)
 unfold sgnI at hk
 refine Sif_cases (fun h=>by rw [if_pos (of_decide_eq_true h)] at hk; exact hk) fun h=>?_
 rw [if_neg (of_decide_eq_false h)] at hk
 refine Sif_cases (fun h2=>by rw [if_pos (by have:=of_decide_eq_true h2; omega)] at hk; exact hk) fun h2=>?_
 rw [if_neg (by have:=of_decide_eq_false h2; omega)] at hk
 exact hk
theorem all_ok {l:List W} {p:Option Addr} {n c:Nat} {w:World} (hr:Rd w p n 1 (l.map W.val)) (d:Bool) (hn:n≤2^46) {K:Value→World→Prop} (hk:K (allW l d).val w) :
 callP Tryz.prog 99 [.slice p n c,.bool d] w K:=by
 apply ok_sieve_all
 have hln:l.length=n:=by have:=hr.len; simpa using this
 obtain ⟨acc,hacc⟩:∃ acc:List W→W,acc=fun m=>if m.all (fun w=>decide (w=.tru !d)) then .tru !d else .unk:=⟨_,rfl⟩
 refine ⟨fun m v i w1=>∃ j:Nat,i=(j:Int)∧m=n-j∧j≤n∧w1=w∧v=(acc (l.take j)).val∧W.tru d ∉ l.take j,⟨n,0,rfl,rfl,Nat.zero_le _,rfl,by rw [hacc]; rfl,by simp⟩,?_⟩
 rintro m v i w1 ⟨j,rfl,rfl,hj,rfl,rfl,hno⟩
 refine Sif_cases (fun hlt=>?_) (fun hge=>?_)
 ·have hjl:j<n:=by have:=of_decide_eq_true hlt; omega
  obtain ⟨y,hy⟩:∃ y,l[j]?=some y:=⟨l[j]'(by omega),List.getElem?_eq_getElem _⟩
  obtain ⟨b,o,hp,hc⟩:=hr.cell (i:=j) (by omega)
  rw [List.getElem?_map,hy] at hc
  have htk:l.take (j+1)=l.take j++[y]:=by rw [List.take_add_one,hy]; rfl
  refine ⟨fun v w2=>w2=w1∧v=(acc (l.take (j+1))).val∧W.tru d ∉ l.take (j+1),?_,by omega,by omega,?_⟩
  ·rintro v w2 ⟨rfl,rfl,h⟩
   rw [wrap_id (by omega) (by omega)]
   exact ⟨n-(j+1),by omega,j+1,by omega,rfl,by omega,rfl,rfl,h⟩
  ·rw [hp]
   simp only [nn,add_at,Int.toNat_natCast,Nat.mul_one]
   refine ⟨_,hc,_,_,ta_tru y w1,?_⟩
   have eacc:acc (l.take (j+1))=if y=.tru !d then acc (l.take j) else .unk:=by
    rw [hacc,htk]
    simp only [List.all_append,List.all_cons,List.all_nil,Bool.and_true]
    by_cases h:y=.tru !d
    ·rw [if_pos h,decide_eq_true h,Bool.and_true]
    ·rw [if_neg h,decide_eq_false h,Bool.and_false]; rfl
   rw [htk,List.mem_append,List.mem_singleton,← htk,eacc]
   cases y with
   | tru b =>
    refine Sif_false ?_
    show Sif (b == d) _ _
    by_cases hbd:b=d
    ·subst hbd
     rw [beq_self_eq_true]
     refine Sif_true ?_
     have:allW l b=.tru b:=by
      unfold allW
      rw [if_pos (List.mem_of_getElem? hy)]
     rw [this] at hk
     exact hk
    ·rw [show (b == d)=false by simpa using hbd]
     refine Sif_false ⟨by trivial,?_,?_⟩
     ·rw [if_pos (by cases b<;>cases d<;>simp_all)]
     ·rintro (h | h)
      ·exact hno h
      ·cases h; exact hbd rfl
   | _ =>
    refine Sif_true ⟨by trivial,?_,?_⟩
    ·rw [if_neg (by intro h; cases h)]; rfl
    ·rintro (h | h)
     ·exact hno h
     ·cases h
 ·have hj2:j=l.length:=by have:=of_decide_eq_false hge; omega
  rw [hj2,List.take_length] at hno ⊢
  unfold allW at hk
  rw [if_neg hno] at hk
  rw [hacc]
  exact hk
theorem cmp_lt (a b:Int):(some (compare a b) == some Ordering.lt)=decide (a<b):=by
 simp only [compare,compareOfLessAndEq]
 split
 ·rename_i h; rw [decide_eq_true h]; rfl
 ·rename_i h
  rw [decide_eq_false h]
  split<;>rfl
theorem cmp_gt (a b:Int):(some (compare a b) == some Ordering.gt)=decide (b<a):=by
 simp only [compare,compareOfLessAndEq]
 split
 ·rename_i h; rw [decide_eq_false (by omega)]; rfl
 ·rename_i h
  split
  ·rw [decide_eq_false (by omega)]; rfl
  ·rw [decide_eq_true (by omega)]; rfl
def ordV:Option Int→Value
 | some n=>.tuple (Array.mk [.int .i64 n,.bool true])
 | none=>.tuple (Array.mk [.int .i64 0,.bool false])
theorem mixF_b (a:Int) (x:Nat):-1≤mixF a x∧mixF a x≤1:=by
 unfold mixF sgnI
 split
 ·omega
 ·split<;>omega
theorem order_ok (F:B→Fl) {a b:W} (ha:okW B a) (hb:okW B b) {w:World} {K:Value→World→Prop} (hk:∀ w',Ch (fun _=>False) w w'→K (ordV (ordW a b)) w') :
 callP Tryz.prog 154 [a.val,b.val] w K:=by
 apply ok_sieve_order
 have hk0:=hk w (Ch.refl _ _)
 refine ⟨fun w'=>w'=w∧ordW a b=none,?_,_,_,ta_int a w,?_⟩
 ·rintro w1 ⟨rfl,h⟩; rw [h] at hk0; exact hk0
 cases a with
 | int n =>
  refine Sif_true ⟨_,_,ta_int b w,?_⟩
  cases b with
  | int m=>exact Sif_true (wcmp_ok ⟨_,rfl,hk0⟩)
  | real y =>
   refine Sif_false ⟨_,_,ta_real _ w,Sif_true ?_⟩
   exact (F hb.1).mixed hb.2.1 hb.2.2 ha.1 ha.2 fun w2 c2=>⟨_,rfl,hk w2 c2⟩
  | _=>exact Sif_false ⟨_,_,ta_real _ w,Sif_false ⟨by trivial,rfl⟩⟩
 | real x =>
  refine Sif_false ⟨_,_,ta_real _ w,Sif_true ⟨_,_,ta_int b w,?_⟩⟩
  cases b with
  | int m =>
   refine Sif_true ?_
   refine (F ha.1).mixed ha.2.1 ha.2.2 hb.1 hb.2 fun w2 c2=>⟨_,rfl,?_⟩
   have:=mixF_b m x
   rw [nameI_iff,wrap_id (by omega) (by omega),Int.zero_sub]
   exact hk w2 c2
  | real y =>
   refine Sif_false ⟨_,_,ta_real _ w,Sif_true ?_⟩
   have ho:Ieee.Format.order (FloatKind.format FloatKind.f64) (theReal (.real x)) (theReal (.real y))=some (compare (valF x) (valF y)):=(F ha.1).order ha.2.1 ha.2.2 hb.2.1 hb.2.2
   rw [ho,cmp_lt,cmp_gt]
   have hk0:K (ordV (some (sgnI (valF x) (valF y)))) w:=hk0
   unfold sgnI at hk0
   refine Sif_cases (fun h=>by rw [if_pos (of_decide_eq_true h)] at hk0; exact hk0) fun h=>?_
   rw [if_neg (of_decide_eq_false h)] at hk0
   refine Sif_cases (fun h2=>by rw [if_pos (of_decide_eq_true h2)] at hk0; exact hk0) fun h2=>?_
   rw [if_neg (of_decide_eq_false h2)] at hk0
   exact hk0
  | _=>exact Sif_false ⟨_,_,ta_real _ w,Sif_false ⟨by trivial,rfl⟩⟩
 | txt s =>
  refine Sif_false ⟨_,_,ta_real _ w,Sif_false ⟨_,_,ta_txt _ w,Sif_true ⟨_,_,ta_txt b w,?_⟩⟩⟩
  cases b with
  | txt t =>
   refine Sif_true ?_
   exact cmpS_ok (x:=s) (y:=t) ⟨_,rfl,hk0⟩
  | _=>exact Sif_false ⟨by trivial,rfl⟩
 | _=>exact Sif_false ⟨_,_,ta_real _ w,Sif_false ⟨_,_,ta_txt _ w,Sif_false ⟨by trivial,by cases b<;>rfl⟩⟩⟩
theorem compare_ok (F:B→Fl) {k:Int} (hkk:6≤k∧k≤11) {a b:W} (ha:okW B a) (hb:okW B b) {w:World} {K:Value→World→Prop} (hk:∀ w',Ch (fun _=>False) w w'→K (cmpW k a b).val w') :
 callP Tryz.prog 100 [.int .i64 k,a.val,b.val] w K:=by
 apply ok_sieve_compare
 refine ⟨_,_,ta_tru a w,_,_,ta_tru b w,fun w'=>w'=w∧cmpW k a b=(match ordW a b with | some n=>.tru (cmpK k n) | none=>.unk),?_,?_⟩
 ·rintro w1 ⟨rfl,he⟩
  refine order_ok F ha hb fun w2 c2=>?_
  have hk:=hk w2 c2
  rw [he] at hk
  cases ho:ordW a b with
  | none =>
   rw [ho] at hk
   exact ⟨_,_,rfl,Sif_true hk⟩
  | some n =>
   rw [ho] at hk
   refine ⟨_,_,rfl,Sif_false ?_⟩
   simp only [cmpK] at hk
   simp only [intEq]
   refine Sif_cases (fun h=>by rw [if_pos (of_decide_eq_true h)] at hk; exact hk) fun h6=>?_
   rw [if_neg (of_decide_eq_false h6)] at hk
   refine Sif_cases (fun h=>by rw [if_pos (of_decide_eq_true h)] at hk; rw [bne,intEq,← decide_not]; exact hk) fun h7=>?_
   rw [if_neg (of_decide_eq_false h7)] at hk
   refine Sif_cases (fun h=>by rw [if_pos (of_decide_eq_true h)] at hk; exact hk) fun h8=>?_
   rw [if_neg (of_decide_eq_false h8)] at hk
   refine Sif_cases (fun h=>by rw [if_pos (of_decide_eq_true h)] at hk; exact hk) fun h9=>?_
   rw [if_neg (of_decide_eq_false h9)] at hk
   refine Sif_cases (fun h=>by rw [if_pos (of_decide_eq_true h)] at hk; exact hk) fun h10=>?_
   rw [if_neg (of_decide_eq_false h10)] at hk
   exact hk
 ·have hk0:=hk w (Ch.refl _ _)
  cases a with
  | tru x =>
   cases b with
   | tru y =>
    refine Sif_true (Sif_true ?_)
    have e:cmpW k (.tru x) (.tru y)=if k=6∨k=7 then .tru (decide (x=y) == decide (k=6)) else .unk:=rfl
    have exy:(theTru (.tru x) == theTru (.tru y))=decide (x=y):=by cases x<;>cases y<;>rfl
    simp only [intEq,exy]
    refine Sif_cases (fun h6=>?_) (fun h6=>?_)
    ·have h6:¬ k=6:=by simpa using h6
     refine Sif_cases (fun h7=>?_) (fun h7=>?_)
     ·rw [e,if_pos (.inr (of_decide_eq_true h7))] at hk0; exact hk0
     ·have h7:¬ k=7:=of_decide_eq_false h7
      exact ⟨by trivial,by rw [e,if_neg (by omega)]; rfl⟩
    ·have h6:k=6:=by simpa using h6
     rw [e,if_pos (.inl h6)] at hk0; exact hk0
   | _=>exact Sif_true (Sif_false ⟨by trivial,rfl⟩)
  | _=>exact Sif_false ⟨by trivial,by cases b<;>rfl⟩
end Go.Proofs.YtnmlmicmhpkbeaaGreatDoor
