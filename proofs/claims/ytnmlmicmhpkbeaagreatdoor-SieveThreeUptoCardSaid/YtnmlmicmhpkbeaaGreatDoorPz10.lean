/-
  The frame of the sieve's laws: what the listed variables hold; a world for the witness; texts as arguments. Taken together for one seat (rawpack.py): what other texts prove of values, texts, builders. Floats of 64 bits in plain Lean: what is written exactly is read as it was; the whole number below a float. No program in sight. Floats of 64 bits and whole numbers in plain Lean: how they stand, exactly; the whole number below one; a float cut to a whole number. No program in sight. Patterns in plain Lean: a text's signs, a pattern's elements, when a text fits a pattern; the search that goes back to the last row alone; the same, place by place. No program in sight. Terms of filters in plain Lean: how many there are, which may be, what is alone wrong with one. No program in sight. What a filter says of a message, in plain Lean: worths, three values, comparisons, sums. No program in sight.
-/
import Derived.Test.YtnmlmicmhpkbeaaGreatDoorPz9
import Derived.Test.YtnmlmicmhpkbeaaGreatDoorCards
import Derived.Test.YtnmlmicmhpkbeaaGreatDoorTie
import Derived.Lay
import Derived.LaidLaws
import Derived.LaidHandle
import Derived.LaidSub
import Derived.Lib.LaidU8T
import Derived.PinnedBridge
import Derived.Deep.DeepWitnessRowRef
import GoSem.Core.Float
import GoSem.Extern.MathFloor
import Derived.Lib.Bytealg
import GoSem.Core.Utf8
import GoSem.Op.Unary
set_option linter.unusedVariables false
set_option linter.unusedSimpArgs false
namespace Go.Proofs.YtnmlmicmhpkbeaaGreatDoor
open Go Go.Sv Go.Note Go.ChangeShapes
set_option linter.unusedVariables false
set_option maxRecDepth 100000
theorem own:ownKnob Tryz.prog.godebug=none:=by kernel_rfl
theorem laidOut:laidOutB Tryz.prog=true:=by kernel_rfl
def ren:Shelf.Ren:=⟨fun x=>x,fun x=>if x=5 then 5 else if x=119 then 222 else if x=138 then 224 else if x=139 then 225 else x,fun x=>if x=3 then 1 else if x=4 then 2 else x⟩
theorem u8T:U8Types Tryz.prog ren:=⟨by kernel_rfl,by kernel_rfl,by kernel_rfl,by kernel_rfl⟩
theorem u8X:U8Extra Tryz.prog ren:=⟨by kernel_rfl,by kernel_rfl,by kernel_rfl,by kernel_rfl,by kernel_rfl,by kernel_rfl,by kernel_rfl⟩
abbrev laidL:List (String × DataW Unit):=Rows.sieveFitsUptoRow.laid
theorem gSyn:Tryz.prog.globalNamed "strconv.ErrSyntax" = some 11:=by kernel_rfl
theorem gRan:Tryz.prog.globalNamed "strconv.ErrRange" = some 12:=by kernel_rfl
theorem gPow:Tryz.prog.globalNamed "internal/strconv.uint64pow10" = some 4:=by kernel_rfl
theorem gLast:Tryz.prog.globalNamed "internal/strconv.float64pow10" = some 17:=by kernel_rfl
theorem tySyn:(Tryz.prog.globals[11]?).map (·.type)=some 154:=by kernel_rfl
theorem tyRan:(Tryz.prog.globals[12]?).map (·.type)=some 154:=by kernel_rfl
theorem tyPow:(Tryz.prog.globals[4]?).map (·.type)=some 243:=by kernel_rfl
theorem err_of {W:World} {n:String} {g:Nat} {nm:String} {d:DataW Unit} (hg:Tryz.prog.globalNamed n=some g) (hty:(Tryz.prog.globals[g]?).map (·.type)=some 154) (h:Lib.VarReads Tryz.prog W n (.iface nm d)):∃ te pe,W.cell? ⟨g,0,none⟩=some (.iface te pe):=by
 obtain ⟨g',t,cs,fuel,p,hg',hty',hvar,hd⟩:=h
 obtain rfl:=Option.some.inj (hg.symm.trans hg')
 obtain rfl:=Option.some.inj (hty.symm.trans hty')
 obtain ⟨f1,u,v,hcs,hn,h1⟩:=iface_of_trod Tryz.underlying154 hd
 refine ⟨u,v,?_⟩
 rw [World.var?_cell hg hvar 0,← Array.getElem?_toList,hcs]; rfl
theorem lw_of_laid {W:World} (h:laidMetH Tryz.prog laidL W):LW W:=by
 have hd:laidMet Tryz.prog laidL W:=(laidMetH_iff.1 h).1
 have r1:Lib.VarReads Tryz.prog W "unicode/utf8.first" Rows.laid_unicode_utf8_first:=Lib.laidMet.reads hd (by simp [laidL,Rows.sieveFitsUptoRow])
 have r2:Lib.VarReads Tryz.prog W "unicode/utf8.acceptRanges" Rows.laid_unicode_utf8_acceptRanges:=Lib.laidMet.reads hd (by simp [laidL,Rows.sieveFitsUptoRow])
 have r3:Lib.VarReads Tryz.prog W "strconv.ErrSyntax" Rows.laid_strconv_ErrSyntax:=Lib.laidMet.reads hd (by simp [laidL,Rows.sieveFitsUptoRow])
 have r4:Lib.VarReads Tryz.prog W "strconv.ErrRange" Rows.laid_strconv_ErrRange:=Lib.laidMet.reads hd (by simp [laidL,Rows.sieveFitsUptoRow])
 have r5:Lib.VarReads Tryz.prog W "internal/strconv.uint64pow10" Rows.laid_internal_strconv_uint64pow10:=Lib.laidMet.reads hd (by simp [laidL,Rows.sieveFitsUptoRow])
 have r6:Lib.VarReads Tryz.prog W "internal/strconv.float64pow10" Rows.laid_internal_strconv_float64pow10:=Lib.laidMet.reads hd (by simp [laidL,Rows.sieveFitsUptoRow])
 have hz:18≤W.heap.size:=by
  obtain ⟨g,t,cs,fuel,p,hg,hty,hvar,hd⟩:=r6
  obtain rfl:=Option.some.inj (gLast.symm.trans hg)
  unfold World.var? at hvar
  rw [gLast] at hvar
  by_cases hz:18≤W.heap.size
  ·exact hz
  ·rw [Option.bind_some,Array.getElem?_eq_none (by omega)] at hvar
   cases hvar
 refine ⟨?_,err_of gSyn tySyn r3,err_of gRan tyRan r4,?_,hz⟩
 ·refine utf8Tabs_of_readsT u8T u8X ?_ ?_
  ·rw [← Pinned.utf8First_eq]; exact r1
  ·exact (show Rows.laid_unicode_utf8_acceptRanges=Lib.acceptData by kernel_rfl)▸r2
 ·obtain ⟨g,t,cs,fuel,p,hg,hty,hvar,hd⟩:=r5
  obtain rfl:=Option.some.inj (gPow.symm.trans hg)
  obtain rfl:=Option.some.inj (tyPow.symm.trans hty)
  have e:(Rows.laid_internal_strconv_uint64pow10:DataW Unit)=Lib.tabData .u64 Lib.pow10Tab:=by kernel_rfl
  rw [e] at hd
  unfold Lib.TabIs
  rw [hvar,← Lib.cells_of_tab Tryz.underlying243 Tryz.underlying22 (by kernel_rfl) (by kernel_rfl) hd]
noncomputable abbrev nW (os:Os):World:=World.laidAll Tryz.prog os laidL
theorem nW_laid (os:Os) (args:Array Value):laidMet Tryz.prog laidL ((nW os).forCall (fun _ _=>0) ⟨#[],args,[]⟩).memory:=laidMet_laidAll args (by kernel_rfl) (by kernel_rfl)
theorem nW_laidH (os:Os) (args:Array Value):laidMetH Tryz.prog laidL ((nW os).forCall (fun _ _=>0) ⟨#[],args,[]⟩).memory:=by
 refine laidMetH_of_parts ?_ (by kernel_rfl)
 rw [show (laidL.filter fun x=>x.2.handleName?.isNone)=laidL by kernel_rfl]
 exact nW_laid os args
theorem witness_zip {H:Type} {enc:TypeId × Value→H} {C:Checked} {os:Os} {f:FuncId} {fn:Func} {s:OpenSpec} {conds:List PathCond} {apart:Bool} {laid:List (String × DataW Unit)} (modest:Bool) (w0:World) (args:Array Value) (hos:w0.os=os)
 (hv:(w0.forCall (fun _ _=>0) ⟨#[],args,[]⟩).variablesZipB C.prog=true)
 (hr:((w0.forCall (fun _ _=>0) ⟨#[],args,[]⟩).heap.toList.drop C.prog.globals.size).take ((begin C.prog (fun _ _=>0) default).world.heap.size-C.prog.globals.size) =
   (begin C.prog (fun _ _=>0) default).world.heap.toList.drop C.prog.globals.size)
 (hok:Input.okWideB C.prog (w0.forCall (fun _ _=>0) ⟨#[],args,[]⟩) f ⟨#[],args,[]⟩=true)
 (hrow:s.preRow enc C.prog fn conds apart laid (w0.forCall (fun _ _=>0) ⟨#[],args,[]⟩).memory args) :
 ∃ (w:World) (tape:Tape) (i:Input),w.os=os∧(w.forCall tape i).Shaped C.prog∧i.vars=[]∧Input.okWide C.prog (w.forCall tape i) .any w.heap.size f i ∧
  s.preRow enc C.prog fn conds apart laid (w.forCall tape i).memory i.args∧({ modest:=modest }:Assume).holds C.prog (lone (Frame.enter C.prog f i.args .normal) [] (w.forCall tape i)) :=
 ⟨w0,fun _ _=>0,⟨#[],args,[]⟩,hos,World.shaped_of_ZipB hv hr,(Input.okWide_of_okWideB (base:=0) hok).1,(Input.okWide_of_okWideB hok).2,hrow,by
  simp only [Assume.holds]
  exact ⟨by simp,by simp,fun _=>Modest.zero,by simp,by simp⟩⟩
theorem nW_zip (os:Os) (args:Array Value):((nW os).forCall (fun _ _=>0) ⟨#[],args,[]⟩).variablesZipB Tryz.prog=true:=by kernel_rfl
theorem nW_rest (os:Os) (args:Array Value):(((nW os).forCall (fun _ _=>0) ⟨#[],args,[]⟩).heap.toList.drop Tryz.prog.globals.size).take ((begin Tryz.prog (fun _ _=>0) default).world.heap.size-Tryz.prog.globals.size)=(begin Tryz.prog (fun _ _=>0) default).world.heap.toList.drop Tryz.prog.globals.size:=by kernel_rfl
end Go.Proofs.YtnmlmicmhpkbeaaGreatDoor
namespace Go.Proofs.YtnmlmicmhpkbeaaGreatDoor
open Go Go.Sv Go.Note
set_option linter.unusedVariables false
attribute [local irreducible] Sif
set_option maxRecDepth 4000
def nS:SL:=⟨none,0,0,none⟩
def mk7 (i:Nat):MV:=.mk (-7) i [] nS 0 []
def marks (n:Nat):List MV:=[mk7 n,mk7 (n+1),mk7 (n+2)]
inductive LV (w:World):MV→Prop where
 | mk {k:Int} {n:Nat} {t:Bs} {s:SL} {e:Int} {l:List MV} (b:Nat):s.p=some ⟨b,0,none⟩→s.own=some b→l.length=s.n→s.c=s.n+3→s.n≤2^40→blk w b=some ((l++marks s.n).flatMap MV.g)→(∀ x∈l,LV w x)→(b::l.flatMap MV.B).Nodup→LV w (.mk k n t s e l)
theorem LV.ch {S:Nat→Prop} {w w':World} (hc:Ch S w w'):∀ x:MV,LV w x→(∀ b∈x.B,¬ S b)→LV w' x:=by
 refine MV.ind fun k n t s e l ih=>?_
 intro h hn
 rw [MV.B_mk] at hn
 cases h with
 | mk b h1 h2 h3 h4 h5 h6 h7 h8 =>
  refine .mk b h1 h2 h3 h4 h5 ((hc.blk (blk_lt h6) (hn b (by rw [h2]; simp))).trans h6) (fun x hx=>ih x hx (h7 x hx) fun k hk=>hn k ?_) h8
  exact List.mem_append.2 (.inr (List.mem_flatMap.2 ⟨x,hx,hk⟩))
theorem LV.lt {w:World}:∀ x:MV,LV w x→∀ b∈x.B,b<w.heap.size:=by
 refine MV.ind fun k n t s e l ih=>?_
 intro h b hb
 rw [MV.B_mk] at hb
 cases h with
 | mk b' h1 h2 h3 h4 h5 h6 h7 h8 =>
  rcases List.mem_append.1 hb with hb | hb
  ·rw [h2] at hb
   simp only [Option.toList_some,List.mem_singleton] at hb
   subst hb; exact blk_lt h6
  ·obtain ⟨x,hx,hb⟩:=List.mem_flatMap.1 hb
   exact ih x hx (h7 x hx) b hb
theorem LV.vr {w:World}:∀ x:MV,LV w x→∀ Q:Nat→Prop,(∀ b∈x.B,Q b)→VR Q w x:=by
 refine MV.ind fun k n t s e l ih=>?_
 intro h Q hq
 rw [MV.B_mk] at hq
 cases h with
 | mk b h1 h2 h3 h4 h5 h6 h7 h8 =>
  have hl:(l.flatMap MV.g).length=s.n*5:=by rw [flat_len MV.glen,h3]
  refine .mk h3 (by omega) ⟨hl,.inr ⟨b,0,_,h1,blk_cells h6,?_,?_⟩⟩ (fun a ha _=>?_) fun x hx=>ih x hx (h7 x hx) Q fun k hk=>hq k (List.mem_append.2 (.inr (List.mem_flatMap.2 ⟨x,hx,hk⟩)))
  ·rw [List.flatMap_append,List.length_append]; omega
  ·rw [List.flatMap_append,List.drop_zero,← hl,List.take_append_of_le_length (Nat.le_refl _),List.take_length]
  ·rw [h1] at ha; cases ha
   exact hq b (by rw [h2]; simp)
theorem LV.inv {w:World} {x:MV} (h:LV w x):∃ b,x.s.p=some ⟨b,0,none⟩∧x.s.own=some b∧x.l.length=x.s.n∧x.s.c=x.s.n+3∧x.s.n≤2^40∧blk w b=some ((x.l++marks x.s.n).flatMap MV.g)∧(∀ y∈x.l,LV w y)∧(b::x.l.flatMap MV.B).Nodup:=by
 cases h with
 | mk b h1 h2 h3 h4 h5 h6 h7 h8=>exact ⟨b,h1,h2,h3,h4,h5,h6,h7,h8⟩
end Go.Proofs.YtnmlmicmhpkbeaaGreatDoor
namespace Go.Note
open Go
set_option linter.unusedVariables false
end Go.Note
namespace Go.Proofs.YtnmlmicmhpkbeaaGreatDoor
open Go Go.Sv Go.Note
set_option linter.unusedVariables false
attribute [local irreducible] Sif
set_option maxRecDepth 4000
end Go.Proofs.YtnmlmicmhpkbeaaGreatDoor
namespace Go.Proofs.YtnmlmicmhpkbeaaGreatDoor
open Go Go.Sv Go.Note
set_option linter.unusedVariables false
attribute [local irreducible] Sif
set_option maxRecDepth 4000
end Go.Proofs.YtnmlmicmhpkbeaaGreatDoor
namespace Go.Proofs.YtnmlmicmhpkbeaaGreatDoor
open Go Go.Sv Go.Note Go.RowKit
set_option linter.unusedVariables false
attribute [local irreducible] Sif
set_option maxRecDepth 4000
def WT (base:World) (b0:Option Nat) (w:World) (p:Option Addr) (n c:Nat) (l:Bs):Prop:=Gb base w p n c l b0∧∀ k,b0=some k→k<base.heap.size
theorem WT.ch {base w:World} {b0:Option Nat} {p:Option Addr} {n c:Nat} {l:Bs} (h:WT base b0 w p n c l):Ch (fun k=>b0=some k) base w:=by obtain ⟨⟨_,_,_,h⟩,_⟩:=h; exact h
theorem WT.ch0 {base w w':World} {b0:Option Nat} {p:Option Addr} {n c:Nat} {l:Bs} (h:WT base b0 w p n c l) (cc:Ch (fun _=>False) w w'):WT base b0 w' p n c l:=by
 obtain ⟨⟨b',h1,h2,h3⟩,h4⟩:=h
 exact ⟨⟨b',h1.ch cc fun _ _ h=>h,h2,h3.trans' (cc.mono fun _ _ h=>h.elim)⟩,h4⟩
end Go.Proofs.YtnmlmicmhpkbeaaGreatDoor
namespace Go.Proofs.YtnmlmicmhpkbeaaGreatDoor
open Go Go.Sv Go.Note
set_option linter.unusedVariables false
attribute [local irreducible] Sif
set_option maxRecDepth 4000
end Go.Proofs.YtnmlmicmhpkbeaaGreatDoor
namespace Go.Proofs.YtnmlmicmhpkbeaaGreatDoor
open Go Go.Sv Go.Note
set_option linter.unusedVariables false
attribute [local irreducible] Sif
set_option maxRecDepth 4000
end Go.Proofs.YtnmlmicmhpkbeaaGreatDoor
namespace Go.Note
open Go
set_option linter.unusedVariables false
abbrev DB:=Ieee.double
theorem db_binade:DB.binade=2^52:=rfl
theorem db_least:DB.leastPlace=-1074:=by decide
theorem db_inf:DB.infRung=2047*2^52:=by decide +kernel
theorem db_sign:DB.signWeight=2^63:=rfl
theorem db_frac:DB.fractionBits=52:=rfl
theorem read_word (neg:Bool) {r:Nat} (h:r<2047*2^52):DB.read (DB.word neg r)=if r<2^52 then .number neg r (-1074) else .number neg (2^52+r%2^52) (-1074+((r / 2^52-1:Nat):Int)):=by
 have h1:DB.word neg r / 2^63%2=neg.toNat∧DB.word neg r%2^63=r:=by
  unfold Ieee.Format.word
  rw [db_sign]
  cases neg
  ·simp only [Bool.false_eq_true,if_false,Bool.toNat_false]; omega
  ·simp only [if_true,Bool.toNat_true]; omega
 unfold Ieee.Format.read
 simp only [db_sign,db_binade,db_inf,db_least,h1.1,h1.2]
 have hb:(neg.toNat == 1)=neg:=by cases neg<;>rfl
 rw [hb]
 split
 ·rfl
 ·rfl
theorem cut_exact (neg:Bool) (n drop c:Nat) (h:n=c*2^drop):Ieee.Toward.even.cut neg n drop=c:=by
 by_cases h0:n=0
 ·have hc:c=0:=by
   rcases Nat.mul_eq_zero.1 (h▸h0:c*2^drop=0) with h | h
   ·exact h
   ·exact absurd h (Nat.ne_of_gt (Nat.two_pow_pos _))
  subst h0 hc
  unfold Ieee.Toward.cut
  simp
 ·have hd:drop≤n.log2:=by
   have:2^drop≤n:=by
    rw [h]
    have:1≤c:=by
     rcases Nat.eq_zero_or_pos c with hc | hc
     ·subst hc; simp at h; exact absurd h h0
     ·exact hc
    calc 2^drop=1*2^drop:=(Nat.one_mul _).symm
     _≤c*2^drop:=Nat.mul_le_mul_right _ this
   exact (Nat.le_log2 h0).2 this
  have hp:=Nat.two_pow_pos drop
  unfold Ieee.Toward.cut
  rw [Nat.min_eq_left (by omega),Nat.one_shiftLeft]
  have e1:n / 2^drop=c:=by rw [h,Nat.mul_div_cancel _ hp]
  have e2:n%2^drop=0:=by rw [h,Nat.mul_mod_left]
  simp only [e1,e2]
  simp
theorem read_nearest {neg:Bool} {mag:Nat} {place:Int} (h0:mag≠0) (h1:place+(mag.log2:Int)≤1023) (c:Nat) (hc:mag=c*2^(max (place+mag.log2-52) (-1074)-place).toNat) :
 ∃ (k:Nat) (l:Int),DB.read (DB.nearest neg mag place)=.number neg k l∧k=(mag <<< (place-max (place+mag.log2-52) (-1074)).toNat) / 2^(max (place+mag.log2-52) (-1074)-place).toNat∧l=max (place+mag.log2-52) (-1074)∧k≠0∧-1074≤l:=by
 obtain ⟨L,hL⟩:∃ L,L=max (place+mag.log2-52) (-1074):=⟨_,rfl⟩
 rw [← hL] at hc ⊢
 have hlog:mag<2^(mag.log2+1):=Nat.lt_log2_self
 have hlog2:2^mag.log2≤mag:=Nat.log2_self_le h0
 -- what is kept
 obtain ⟨kept,hk⟩:∃ kept,kept=(mag <<< (place-L).toNat) / 2^(L-place).toNat:=⟨_,rfl⟩
 have hcut:Ieee.Toward.even.cut neg (mag <<< (place-L).toNat) (L-place).toNat=kept:=by
  refine cut_exact _ _ _ _ ?_
  rw [hk]
  by_cases hle:L≤place
  ·rw [show (L-place).toNat=0 by omega]; simp
  ·rw [show (place-L).toNat=0 by omega,Nat.shiftLeft_zero]
   have:mag / 2^(L-place).toNat=c:=by
    conv=>lhs; rw [hc]
    rw [Nat.mul_div_cancel _ (Nat.two_pow_pos _)]
   rw [this]; exact hc
 have hlt:kept<2^53:=by
  rw [hk]
  apply Nat.div_lt_of_lt_mul
  by_cases hle:L≤place
  ·rw [show (L-place).toNat=0 by omega,Nat.pow_zero,Nat.one_mul,Nat.shiftLeft_eq]
   have hs:mag.log2+1+(place-L).toNat≤53:=by omega
   calc mag*2^(place-L).toNat<2^(mag.log2+1)*2^(place-L).toNat:=Nat.mul_lt_mul_of_pos_right hlog (Nat.two_pow_pos _)
    _=2^(mag.log2+1+(place-L).toNat):=(Nat.pow_add _ _ _).symm
    _≤2^53:=Nat.pow_le_pow_right (by omega) hs
  ·rw [show (place-L).toNat=0 by omega,Nat.shiftLeft_zero,← Nat.pow_add]
   exact Nat.lt_of_lt_of_le hlog (Nat.pow_le_pow_right (by omega) (by omega))
 have hbig:L≠-1074→2^52≤kept:=fun hne=>by
  rw [hk,Nat.le_div_iff_mul_le (Nat.two_pow_pos _)]
  by_cases hle:L≤place
  ·rw [show (L-place).toNat=0 by omega,Nat.pow_zero,Nat.mul_one,Nat.shiftLeft_eq]
   calc 2^52=2^mag.log2*2^(place-L).toNat:=by rw [← Nat.pow_add]; congr 1; omega
    _≤mag*2^(place-L).toNat:=Nat.mul_le_mul_right _ hlog2
  ·rw [show (place-L).toNat=0 by omega,Nat.shiftLeft_zero,← Nat.pow_add]
   exact Nat.le_trans (Nat.pow_le_pow_right (by omega) (by omega)) hlog2
 have hne:kept≠0:=by
  by_cases hle:L≤place
  ·rw [hk,show (L-place).toNat=0 by omega,Nat.pow_zero,Nat.div_one,Nat.shiftLeft_eq]
   have:=Nat.two_pow_pos (place-L).toNat
   exact Nat.mul_ne_zero h0 (by omega)
  ·intro hz
   have hm:mag=kept*2^(L-place).toNat:=by
    rw [hk,show (place-L).toNat=0 by omega,Nat.shiftLeft_zero]
    have:mag / 2^(L-place).toNat=c:=by
     conv=>lhs; rw [hc]
     rw [Nat.mul_div_cancel _ (Nat.two_pow_pos _)]
    rw [this]; exact hc
   rw [hz,Nat.zero_mul] at hm
   exact h0 hm
 have hrung:(L+1074).toNat*2^52+kept<2047*2^52:=by
  have:(L+1074).toNat≤2045:=by omega
  omega
 refine ⟨kept,L,?_,hk,rfl,hne,by omega⟩
 unfold Ieee.Format.nearest
 rw [if_neg h0]
 simp only [db_frac,db_least,db_binade,db_inf]
 rw [show place+(mag.log2:Int)-((52:Nat):Int)=place+mag.log2-52 by omega,← hL,hcut,show L - -1074=L+1074 by omega,Nat.min_eq_left (by omega),read_word _ hrung]
 by_cases hl:L=-1074
 ·rw [hl,show ((-1074:Int)+1074).toNat=0 by decide,Nat.zero_mul,Nat.zero_add]
  by_cases hs:kept<2^52
  ·rw [if_pos hs]
  ·rw [if_neg hs]
   have h1:kept / 2^52=1:=by omega
   have h2:kept%2^52=kept-2^52:=by omega
   rw [h1,h2,show 2^52+(kept-2^52)=kept by omega]
   rfl
 ·have hb:=hbig hl
  have h1:((L+1074).toNat*2^52+kept) / 2^52=(L+1074).toNat+1:=by omega
  have h2:((L+1074).toNat*2^52+kept)%2^52=kept-2^52:=by omega
  rw [if_neg (by omega),h1,h2,show 2^52+(kept-2^52)=kept by omega]
  congr 1
  omega
end Go.Note
namespace Go.Note
open Go
set_option linter.unusedVariables false
def sc (s:Bool) (m:Nat) (e:Int):Int:=if s then -((m*2^(e+1074).toNat:Nat):Int) else ((m*2^(e+1074).toNat:Nat):Int)
theorem signed_sc {s:Bool} {m:Nat} {e base:Int} (h:-1074≤base) (h2:base≤e):Ieee.signed s m (e-base).toNat*((2^(base+1074).toNat:Nat):Int)=sc s m e:=by
 have h3:(e+1074).toNat=(e-base).toNat+(base+1074).toNat:=by omega
 unfold Ieee.signed sc
 rw [h3,Nat.pow_add,Nat.shiftLeft_eq,← Nat.mul_assoc]
 cases s
 ·simp only [Bool.false_eq_true,if_false]; rw [Int.natCast_mul (m*_)]
 ·simp only [if_true]; rw [Int.neg_mul,Int.natCast_mul (m*_)]
theorem compare_mul {a b:Int} {k:Nat} (hk:0<k):compare (a*(k:Int)) (b*(k:Int))=compare a b:=by
 have hk':(0:Int)<(k:Int):=by omega
 simp only [compare,compareOfLessAndEq]
 have h1:(a*(k:Int)<b*(k:Int))↔a<b:=Int.mul_lt_mul_right hk'
 have h2:(a*(k:Int)=b*(k:Int))↔a=b:=Int.mul_eq_mul_right_iff (by omega)
 simp only [h1,h2]
theorem order_sc {s t:Bool} {m n:Nat} {i j:Int} (hi:-1074≤i) (hj:-1074≤j):Ieee.Datum.order (.number s m i) (.number t n j)=some (compare (sc s m i) (sc t n j)):=by
 unfold Ieee.Datum.order
 simp only
 have hb:-1074≤min i j:=by omega
 rw [← signed_sc (s:=s) (m:=m) hb (Int.min_le_left _ _),← signed_sc (s:=t) (m:=n) hb (Int.min_le_right _ _),compare_mul (Nat.two_pow_pos _)]
def e74:Nat:=1074
def V74:Nat:=2^e74
theorem V74_def:∃ E:Nat,E=1074∧V74=2^E:=⟨e74,rfl,Eq.refl V74⟩
theorem cut_eq (way:Ieee.Toward) (hw:way=.down∨way=.zero) (neg:Bool) (n drop:Nat):way.cut neg n drop=n / 2^drop+(decide (way=.down) && neg && decide (n%2^drop≠0)).toNat:=by
 have key:n / 2^(min drop (n.log2+2))=n / 2^drop∧n%2^(min drop (n.log2+2))=n%2^drop:=by
  by_cases h:drop≤n.log2+2
  ·rw [Nat.min_eq_left h]; exact ⟨rfl,rfl⟩
  ·rw [Nat.min_eq_right (by omega)]
   have h1:n<2^(n.log2+1):=Nat.lt_log2_self
   have h2:2^(n.log2+1)≤2^(n.log2+2):=Nat.pow_le_pow_right (by omega) (by omega)
   have h3:2^(n.log2+2)≤2^drop:=Nat.pow_le_pow_right (by omega) (by omega)
   rw [Nat.div_eq_of_lt (by omega),Nat.div_eq_of_lt (by omega),Nat.mod_eq_of_lt (by omega),Nat.mod_eq_of_lt (by omega)]
   exact ⟨rfl,rfl⟩
 unfold Ieee.Toward.cut
 simp only [Nat.one_shiftLeft,key.1,key.2]
 have hne:(n%2^drop != 0)=decide (n%2^drop≠0):=by by_cases h:n%2^drop=0<;>simp [h]
 rcases hw with rfl | rfl
 ·simp only [hne,decide_true,Bool.true_and]
 ·simp
theorem int_sc (way:Ieee.Toward) (hw:way=.down∨way=.zero) {s:Bool} {m:Nat} {i:Int} (hi:-1074≤i) :
 ∃ M:Nat,Ieee.Datum.integral way (.number s m i)=.number s M 0∧Ieee.signed s M 0=(if way=.down then sc s m i / (V74:Int) else (sc s m i).tdiv (V74:Int))∧(0≤i→M=m*2^i.toNat)∧(i<0→M≤m / 2+1):=by
 obtain ⟨n,hn⟩:∃ n,n=m <<< i.toNat:=⟨_,rfl⟩
 obtain ⟨d,hd⟩:∃ d,d=(-i).toNat:=⟨_,rfl⟩
 have hp:=Nat.two_pow_pos d
 refine ⟨_,rfl,?_,?_,?_⟩
 ·rw [cut_eq way hw,← hn,← hd]
  have hsc:sc s m i=(if s then -((n*2^(1074-d):Nat):Int) else ((n*2^(1074-d):Nat):Int)):=by
   have e:m*2^(i+1074).toNat=n*2^(1074-d):=by
    rw [hn,Nat.shiftLeft_eq,Nat.mul_assoc,← Nat.pow_add]
    congr 2; omega
   unfold sc
   rw [e]
  have hV:(V74:Int)=((2^d*2^(1074-d):Nat):Int):=by
   obtain ⟨E,hE,hE2⟩:=V74_def
   rw [hE2,← Nat.pow_add,show d+(1074-d)=E by omega]
  have hq:=Nat.two_pow_pos (1074-d)
  have hdiv:n*2^(1074-d) / (2^d*2^(1074-d))=n / 2^d:=Nat.mul_div_mul_right _ _ hq
  have hmod:n*2^(1074-d)%(2^d*2^(1074-d))=n%2^d*2^(1074-d):=Nat.mul_mod_mul_right _ _ _
  rw [hsc,hV]
  unfold Ieee.signed
  generalize 2^(1074-d)=q at *
  generalize 2^d=p at *
  have hpq:0<p*q:=Nat.mul_pos hp hq
  have hdm:=Nat.div_add_mod n p
  have hml:=Nat.mod_lt n hp
  rcases hw with rfl | rfl
  ·simp only [decide_true,Bool.true_and,if_true,Nat.shiftLeft_zero]
   cases s
   ·simp only [Bool.false_eq_true,if_false,Bool.false_and,Bool.toNat_false,Nat.add_zero]
    rw [← Int.natCast_ediv,hdiv]
   ·simp only [if_true,Bool.true_and]
    by_cases hr:n%p=0
    ·rw [hr]
     simp only [ne_eq,not_true_eq_false,decide_false,Bool.toNat_false,Nat.add_zero]
     have hdvd:((p*q:Nat):Int) ∣ ((n*q:Nat):Int):=by
      rw [Int.natCast_dvd_natCast]
      exact Nat.dvd_of_mod_eq_zero (by rw [hmod,hr,Nat.zero_mul])
     rw [Int.neg_ediv_of_dvd hdvd,← Int.natCast_ediv,hdiv]
    ·simp only [ne_eq,hr,not_false_eq_true,decide_true,Bool.toNat_true]
     symm
     have hlow:n*q=n / p*(p*q)+n%p*q:=by
      conv=>lhs; rw [← hdm]
      rw [Nat.add_mul,Nat.mul_comm p,Nat.mul_assoc]
     have hr1:0<n%p*q:=Nat.mul_pos (by omega) hq
     have hr2:n%p*q<p*q:=Nat.mul_lt_mul_of_pos_right hml hq
     rw [hlow]
     generalize n / p=a at *
     generalize p*q=x at *
     generalize n%p*q=y at *
     have he:-((a*x+y:Nat):Int)=((x:Int)-(y:Int))+(-((a:Int)+1))*(x:Int):=by
      rw [Int.neg_mul,Int.add_mul,Int.one_mul,Int.natCast_add,Int.natCast_mul]; omega
     rw [he,Int.add_mul_ediv_right _ _ (by omega),Int.ediv_eq_zero_of_lt (by omega) (by omega)]
     omega
  ·simp only [reduceCtorEq,decide_false,Bool.false_and,Bool.toNat_false,Nat.add_zero,if_false,Nat.shiftLeft_zero]
   cases s
   ·simp only [Bool.false_eq_true,if_false]
    rw [← Int.ofNat_tdiv,hdiv]
   ·simp only [if_true]
    rw [Int.neg_tdiv,← Int.ofNat_tdiv,hdiv]
 ·intro h0
  rw [cut_eq way hw,← hd,show d=0 by omega,Nat.pow_zero,Nat.div_one,Nat.mod_one,← hn,hn,Nat.shiftLeft_eq]
  simp
 ·intro h0
  rw [cut_eq way hw,← hn,← hd]
  have hn':n=m:=by rw [hn,show i.toNat=0 by omega,Nat.shiftLeft_zero]
  have:n / 2^d≤n / 2:=Nat.div_le_div_left (by
   calc 2=2^1:=rfl
    _≤2^d:=Nat.pow_le_pow_right (by omega) (by omega)) (by omega)
  have hb:∀ b:Bool,b.toNat≤1:=fun b=>by cases b<;>decide
  have:=hb (decide (way=.down) && s && decide (n%2^d≠0))
  rw [← hn']
  omega
theorem whole_read {s:Bool} {m M:Nat} {i:Int} (hm:m<2^53) (h1:0≤i→M=m*2^i.toNat) (h2:i<0→M≤m / 2+1) (hM:M<2^64) :
 ∃ k l,DB.read (DB.write (.number s M 0))=.number s k l∧-1074≤l∧sc s k l=Ieee.signed s M 0*(V74:Int):=by
 by_cases h0:M=0
 ·subst h0
  refine ⟨0,-1074,?_,by omega,?_⟩
  ·cases s<;>decide +kernel
  ·unfold sc Ieee.signed
   generalize (V74:Int)=V
   cases s<;>simp
 ·have hlog:=Nat.log2_self_le h0
  have hl64:M.log2<64:=by
   apply Classical.byContradiction
   intro hn
   have:2^64≤2^M.log2:=Nat.pow_le_pow_right (by omega) (by omega)
   omega
  have hdvd:∃ c,M=c*2^(max ((0:Int)+M.log2-52) (-1074)-0).toNat:=by
   have he:(max ((0:Int)+M.log2-52) (-1074)-0).toNat=M.log2-52:=by omega
   rw [he]
   by_cases hi:0≤i
   ·have hle:M.log2-52≤i.toNat:=by
     have:M<2^(53+i.toNat):=by
      rw [h1 hi,Nat.pow_add]
      exact Nat.mul_lt_mul_of_pos_right hm (Nat.two_pow_pos _)
     have:=(Nat.log2_lt h0).2 this
     omega
    refine ⟨m*2^(i.toNat-(M.log2-52)),?_⟩
    rw [Nat.mul_assoc,← Nat.pow_add,show i.toNat-(M.log2-52)+(M.log2-52)=i.toNat by omega]
    exact h1 hi
   ·have:M≤2^52:=by have:=h2 (by omega); omega
    have:M.log2≤52:=by
     have h3:M<2^53:=by omega
     have:=(Nat.log2_lt h0).2 h3
     omega
    exact ⟨M,by rw [show M.log2-52=0 by omega]; simp⟩
  obtain ⟨c,hc⟩:=hdvd
  obtain ⟨k,l,hr,hk,hl,hk0,hl2⟩:=read_nearest (neg:=s) (place:=0) h0 (by omega) c hc
  refine ⟨k,l,hr,hl2,?_⟩
  rw [← hl] at hk hc
  have hval:k*2^(l+1074).toNat=M*V74:=by
   obtain ⟨E,hE,hE2⟩:=V74_def
   rw [hE2]
   by_cases hle:l≤0
   ·rw [hk,show (l-0).toNat=0 by omega,Nat.pow_zero,Nat.div_one,Nat.shiftLeft_eq,Nat.mul_assoc,← Nat.pow_add,show (0-l).toNat+(l+1074).toNat=E by omega]
   ·have hkc:k=c:=by
     rw [hk,show (0-l).toNat=0 by omega,Nat.shiftLeft_zero]
     conv=>lhs; rw [hc]
     rw [Nat.mul_div_cancel _ (Nat.two_pow_pos _)]
    rw [hkc]
    conv=>rhs; rw [hc]
    rw [Nat.mul_assoc,← Nat.pow_add,show (l-0).toNat+E=(l+1074).toNat by omega]
  unfold sc Ieee.signed
  rw [hval,Nat.shiftLeft_zero]
  cases s
  ·simp only [Bool.false_eq_true,if_false]; rw [Int.natCast_mul]
  ·simp only [if_true]; rw [Int.natCast_mul,Int.neg_mul]
end Go.Note
namespace Go.Note
open Go
set_option linter.unusedVariables false
def sgF:Nat→Bs→List Bs
 | 0,_=>[]
 | f+1,l=>if l=[] then [] else l.take (wide l)::sgF f (l.drop (wide l))
def sg (l:Bs):List Bs:=sgF l.length l
theorem sgF_fuel:∀ (f g:Nat) (l:Bs),l.length≤f→l.length≤g→sgF f l=sgF g l
 | 0,0,l,_,_=>rfl
 | 0,g+1,l,h,_=>by
  have:l=[]:=List.eq_nil_of_length_eq_zero (by omega)
  subst this; rfl
 | f+1,0,l,_,h=>by
  have:l=[]:=List.eq_nil_of_length_eq_zero (by omega)
  subst this; rfl
 | f+1,g+1,l,h1,h2=>by
  unfold sgF
  split
  ·rfl
  ·rename_i h
   have:=wide_pos l
   have:0<l.length:=List.length_pos_iff.2 h
   rw [sgF_fuel f g _ (by rw [List.length_drop]; omega) (by rw [List.length_drop]; omega)]
theorem sg_nil:sg []=[]:=rfl
theorem sg_cons (l:Bs) (h:l≠[]):sg l=l.take (wide l)::sg (l.drop (wide l)):=by
 have hp:0<l.length:=List.length_pos_iff.2 h
 have hw:=wide_pos l
 unfold sg
 obtain ⟨n,hn⟩:∃ n,l.length=n+1:=⟨l.length-1,by omega⟩
 rw [hn]
 conv=>lhs; unfold sgF
 rw [if_neg h,sgF_fuel n _ _ (by rw [List.length_drop]; omega) (Nat.le_refl _)]
theorem sg_eq_nil (l:Bs):sg l=[]↔l=[]:=by
 constructor
 ·intro h
  apply Classical.byContradiction
  intro hl
  rw [sg_cons l hl] at h
  cases h
 ·rintro rfl; rfl
inductive El where
 | row | any | sgn (s:Bs)
 deriving DecidableEq
def elOf (x:Bs):El:=if x=[37] then .row else if x=[95] then .any else .sgn x
def els (e:Bs):List Bs→List El
 | []=>[]
 | [x]=>if e≠[]∧x=e then [.sgn x] else [elOf x]
 | x::y::l=>if e≠[]∧x=e then .sgn y::els e l else elOf x::els e (y::l)
def mt:List El→List Bs→Bool
 | [],s=>decide (s=[])
 | .row::p,[]=>mt p []
 | .row::p,y::s=>mt p (y::s) || mt (.row::p) s
 | .any::_,[]=>false
 | .any::p,_::s=>mt p s
 | .sgn _::_,[]=>false
 | .sgn x::p,y::s=>decide (y=x) && mt p s
termination_by p s=>(p.length,s.length)
def one:El→Bs→Bool
 | .row,_=>false
 | .any,_=>true
 | .sgn x,y=>decide (y=x)
theorem mt_nil (s:List Bs):mt [] s=decide (s=[]):=by rw [mt]
theorem mt_row_nil (p:List El):mt (.row::p) []=mt p []:=by rw [mt]
theorem mt_row_cons (p:List El) (y:Bs) (s:List Bs):mt (.row::p) (y::s)=(mt p (y::s) || mt (.row::p) s):=by rw [mt]
theorem mt_one_nil {x:El} (p:List El) (h:x≠.row):mt (x::p) []=false:=by
 cases x
 ·exact absurd rfl h
 ·rw [mt]
 ·rw [mt]
theorem mt_one_cons {x:El} (p:List El) (y:Bs) (s:List Bs) (h:x≠.row):mt (x::p) (y::s)=(one x y && mt p s):=by
 cases x
 ·exact absurd rfl h
 ·rw [mt]; simp [one]
 ·rw [mt]; rfl
theorem mt_row (p:List El):∀ s:List Bs,mt (.row::p) s=true↔∃ k,k≤s.length∧mt p (s.drop k)=true:=by
 intro s
 induction s with
 | nil =>
  rw [mt_row_nil]
  constructor
  ·intro h; exact ⟨0,Nat.le_refl _,h⟩
  ·rintro ⟨k,_,h⟩; simpa using h
 | cons y s ih =>
  rw [mt_row_cons,Bool.or_eq_true,ih]
  constructor
  ·rintro (h | ⟨k,hk,h⟩)
   ·exact ⟨0,Nat.zero_le _,h⟩
   ·exact ⟨k+1,by simpa using hk,h⟩
  ·rintro ⟨k,hk,h⟩
   cases k with
   | zero=>exact .inl h
   | succ k=>exact .inr ⟨k,by simpa using hk,h⟩
theorem mt_row_drop {p:List El} {s:List Bs} {k:Nat} (h:mt (.row::p) (s.drop k)=true):mt (.row::p) s=true:=by
 obtain ⟨j,hj,h⟩:=(mt_row p _).1 h
 rw [List.drop_drop] at h
 by_cases hk:k≤s.length
 ·exact (mt_row p s).2 ⟨k+j,by rw [List.length_drop] at hj; omega,h⟩
 ·refine (mt_row p s).2 ⟨s.length,Nat.le_refl _,?_⟩
  rw [List.drop_of_length_le (by omega)] at h ⊢
  exact h
theorem mt_append:∀ (p q:List El) (s:List Bs),mt (p++q) s=true↔∃ k,k≤s.length∧mt p (s.take k)=true∧mt q (s.drop k)=true:=by
 intro p q
 induction p with
 | nil =>
  intro s
  rw [List.nil_append]
  constructor
  ·intro h; exact ⟨0,Nat.zero_le _,by rw [mt_nil]; simp,h⟩
  ·rintro ⟨k,hk,h1,h2⟩
   rw [mt_nil,decide_eq_true_eq] at h1
   have:k=0∨s=[]:=by
    have:=congrArg List.length h1
    rw [List.length_take] at this
    simp at this
    omega
   rcases this with rfl | rfl
   ·exact h2
   ·simpa using h2
 | cons x p ih =>
  intro s
  rw [List.cons_append]
  by_cases hx:x=.row
  ·subst hx
   rw [mt_row]
   constructor
   ·rintro ⟨j,hj,h⟩
    obtain ⟨k,hk,h1,h2⟩:=(ih _).1 h
    rw [List.length_drop] at hk
    refine ⟨j+k,by omega,(mt_row p _).2 ⟨j,by rw [List.length_take]; omega,?_⟩,by rw [← List.drop_drop]; exact h2⟩
    rw [List.drop_take,show j+k-j=k by omega]; exact h1
   ·rintro ⟨k,hk,h1,h2⟩
    obtain ⟨j,hj,h1⟩:=(mt_row p _).1 h1
    rw [List.length_take] at hj
    refine ⟨j,by omega,(ih _).2 ⟨k-j,by rw [List.length_drop]; omega,?_,?_⟩⟩
    ·rw [List.drop_take] at h1; exact h1
    ·rw [List.drop_drop,show j+(k-j)=k by omega]; exact h2
  ·cases s with
   | nil =>
    rw [mt_one_nil _ hx]
    constructor
    ·intro h; cases h
    ·rintro ⟨k,hk,h1,_⟩
     rw [List.take_nil,mt_one_nil _ hx] at h1
     cases h1
   | cons y s =>
    rw [mt_one_cons _ _ _ hx,Bool.and_eq_true,ih]
    constructor
    ·rintro ⟨h,k,hk,h1,h2⟩
     refine ⟨k+1,by simpa using hk,?_,h2⟩
     rw [List.take_succ_cons,mt_one_cons _ _ _ hx,h,h1]; rfl
    ·rintro ⟨k,hk,h1,h2⟩
     cases k with
     | zero =>
      rw [List.take_zero,mt_one_nil _ hx] at h1
      cases h1
     | succ k =>
      rw [List.take_succ_cons,mt_one_cons _ _ _ hx,Bool.and_eq_true] at h1
      exact ⟨h1.1,k,by simpa using hk,h1.2,h2⟩
theorem mt_free {q:List El} (hq:∀ x∈q,x≠.row):∀ {s:List Bs},mt q s=true→s.length=q.length:=by
 induction q with
 | nil=>intro s h; rw [mt_nil,decide_eq_true_eq] at h; rw [h]; rfl
 | cons x q ih =>
  intro s h
  cases s with
  | nil=>rw [mt_one_nil _ (hq x (by simp))] at h; cases h
  | cons y s =>
   rw [mt_one_cons _ _ _ (hq x (by simp)),Bool.and_eq_true] at h
   rw [List.length_cons,List.length_cons,ih (fun x hx=>hq x (by simp [hx])) h.2]
def Seek (p:List El) (s:List Bs) (o:Option (List El × List Bs)) (r:Bool):Prop :=
 match o with
 | none=>r=mt p s
 | some (b,f)=>(∃ q,(∀ x∈q,x≠El.row)∧b=q++p∧s=f.drop q.length∧q.length≤f.length)∧r=(mt p s || (decide (f≠[]) && mt (.row::b) f.tail))
theorem Seek.start (p:List El) (s:List Bs):Seek p s none (mt p s):=rfl
theorem Seek.done {o:Option (List El × List Bs)} {r:Bool} (h:Seek [] [] o r):r=true:=by
 cases o with
 | none=>rw [h,mt_nil]; rfl
 | some x=>obtain ⟨b,f⟩:=x; rw [h.2,mt_nil]; rfl
theorem Seek.row {p:List El} {s:List Bs} {o:Option (List El × List Bs)} {r:Bool} (h:Seek (.row::p) s o r):Seek p s (some (p,s)) r:=by
 have e:∀ s:List Bs,mt (.row::p) s=(mt p s || (decide (s≠[]) && mt (.row::p) s.tail)):=by
  intro s
  cases s with
  | nil=>rw [mt_row_nil]; simp
  | cons y s=>rw [mt_row_cons]; simp
 refine ⟨⟨[],by simp,rfl,rfl,Nat.zero_le _⟩,?_⟩
 cases o with
 | none=>rw [h,e]
 | some x =>
  obtain ⟨b,f⟩:=x
  obtain ⟨⟨q,hq,rfl,rfl,hl⟩,rfl⟩:=h
  rw [← e]
  by_cases hf:f=[]
  ·subst hf; simp
  ·cases h1:mt (.row::p) (f.drop q.length) with
   | true=>simp
   | false =>
    rw [Bool.false_or,Bool.and_eq_false_iff]
    refine .inr ?_
    cases h2:mt (.row::(q++.row::p)) f.tail with
    | false=>rfl
    | true =>
     exfalso
     obtain ⟨k,hk,h2⟩:=(mt_row _ _).1 h2
     obtain ⟨j,hj,h3,h4⟩:=(mt_append q _ _).1 h2
     have hjq:=mt_free hq h3
     rw [List.length_take] at hjq
     rw [Nat.min_eq_left hj] at hjq
     subst hjq
     have:f.tail=f.drop 1:=by cases f<;>rfl
     rw [this,List.drop_drop,List.drop_drop] at h4
     have h5:mt (.row::p) ((f.drop q.length).drop (1+k))=true:=by
      rw [List.drop_drop,show q.length+(1+k)=1+(k+q.length) by omega]; exact h4
     rw [mt_row_drop h5] at h1
     cases h1
theorem Seek.step {x:El} {y:Bs} {p:List El} {s:List Bs} {o:Option (List El × List Bs)} {r:Bool} (h:Seek (x::p) (y::s) o r) (hx:x≠.row) (h1:one x y=true):Seek p s o r:=by
 cases o with
 | none =>
  have h:r=_:=h
  rw [mt_one_cons _ _ _ hx,h1,Bool.true_and] at h; exact h
 | some z =>
  obtain ⟨b,f⟩:=z
  obtain ⟨⟨q,hq,rfl,he,hl⟩,rfl⟩:=h
  have hlt:q.length<f.length:=by
   have:=congrArg List.length he
   rw [List.length_drop,List.length_cons] at this; omega
  refine ⟨⟨q++[x],fun z hz=>?_,by simp,?_,by simp; omega⟩,?_⟩
  ·rcases List.mem_append.1 hz with hz | hz
   ·exact hq z hz
   ·rw [List.mem_singleton.1 hz]; exact hx
  ·rw [List.length_append,← List.drop_drop,← he]; rfl
  ·rw [mt_one_cons _ _ _ hx,h1,Bool.true_and]
theorem Seek.back {p:List El} {s:List Bs} {b:List El} {f:List Bs} {r:Bool} (h:Seek p s (some (b,f)) r) (h0:mt p s=false) (hf:f≠[]):Seek b f.tail (some (b,f.tail)) r:=by
 refine ⟨⟨[],by simp,rfl,rfl,Nat.zero_le _⟩,?_⟩
 have:=h.2
 rw [h0,Bool.false_or,decide_eq_true hf,Bool.true_and] at this
 rw [this]
 cases f.tail with
 | nil=>rw [mt_row_nil]; simp
 | cons y s=>rw [mt_row_cons]; simp
theorem Seek.fail {p:List El} {s:List Bs} {o:Option (List El × List Bs)} {r:Bool} (h:Seek p s o r) (h0:mt p s=false) (hf:∀ b f,o=some (b,f)→f=[]):r=false:=by
 cases o with
 | none=>exact h.trans h0
 | some z =>
  obtain ⟨b,f⟩:=z
  rw [h.2,h0,hf b f rfl]; rfl
theorem mt_no {x:El} {p:List El} {s:List Bs} (hx:x≠.row) (h:∀ y t,s=y::t→one x y=false):mt (x::p) s=false:=by
 cases s with
 | nil=>exact mt_one_nil p hx
 | cons y s=>rw [mt_one_cons _ _ _ hx,h y s rfl]; rfl
theorem mt_none {y:Bs} {s:List Bs}:mt [] (y::s)=false:=by rw [mt_nil]; rfl
def now (p:List El) (s:List Bs):List Bool:=(List.range (s.length+1)).map fun k=>mt p (s.take k)
end Go.Note
namespace Go.Note
open Go
set_option linter.unusedVariables false
inductive T where
 | mk (k:Int) (t:Bs) (v:M) (l:List T)
def T.k:T→Int | .mk k _ _ _=>k
def T.t:T→Bs | .mk _ t _ _=>t
def T.v:T→M | .mk _ _ v _=>v
def T.l:T→List T | .mk _ _ _ l=>l
theorem T.lt_of_mem {k:Int} {t:Bs} {v:M} {l:List T} {x:T} (h:x∈l):SizeOf.sizeOf x<SizeOf.sizeOf (T.mk k t v l):=by
 have:=List.sizeOf_lt_of_mem h
 simp only [T.mk.sizeOf_spec]; omega
theorem T.ind {P:T→Prop} (h:∀ k t v l,(∀ x∈l,P x)→P (.mk k t v l)):∀ m,P m
 | .mk k t v l=>h k t v l fun x hx=>T.ind h x
termination_by m=>SizeOf.sizeOf m
decreasing_by exact T.lt_of_mem hx
def zeroM:M:=.mk 0 0 [] 0 []
def zeroT:T:=.mk 0 [] zeroM []
mutual
def T.cnt:Nat→T→Nat
 | n,.mk _ _ _ l=>T.cntL (n+1) l
def T.cntL:Nat→List T→Nat
 | n,[]=>n
 | n,x::l=>if 256<n then n else T.cntL (T.cnt n x) l
end
mutual
def T.sz:T→Nat
 | .mk _ _ _ l=>1+T.szL l
def T.szL:List T→Nat
 | []=>0
 | x::l=>T.sz x+T.szL l
end
theorem T.szL_sum (l:List T):T.szL l=(l.map T.sz).sum:=by
 induction l with
 | nil=>rfl
 | cons x l ih=>simp [T.szL,ih]
theorem T.sz_pos (x:T):1≤x.sz:=by cases x; rw [T.sz]; omega
theorem T.cnt_ok:∀ (x:T) (n:Nat),(x.cnt n≤256↔n+x.sz≤256)∧(n+x.sz≤256→x.cnt n=n+x.sz)∧n<x.cnt n:=by
 refine T.ind fun k t v l ih=>?_
 have hl:∀ (l:List T),(∀ x∈l,∀ n,(x.cnt n≤256↔n+x.sz≤256)∧(n+x.sz≤256→x.cnt n=n+x.sz)∧n<x.cnt n)→∀ n,(T.cntL n l≤256↔n+T.szL l≤256)∧(n+T.szL l≤256→T.cntL n l=n+T.szL l)∧n≤T.cntL n l:=by
  intro l
  induction l with
  | nil=>intro _ n; simp [T.cntL,T.szL]
  | cons x l ihl =>
   intro h n
   have hx:=h x (by simp) n
   have hpos:=T.sz_pos x
   unfold T.cntL T.szL
   split
   ·omega
   ·have:=ihl (fun y hy=>h y (by simp [hy])) (x.cnt n)
    obtain ⟨a,b,c⟩:=hx
    obtain ⟨d,e,f⟩:=this
    refine ⟨?_,?_,by omega⟩
    ·by_cases hh:n+x.sz≤256
     ·rw [b hh] at d ⊢; omega
     ·constructor
      ·intro h1
       have:x.cnt n≤256:=by omega
       exact absurd (a.1 this) hh
      ·intro; omega
    ·intro hh
     have hb:=b (by omega)
     rw [hb] at e ⊢
     rw [e (by omega)]; omega
 intro n
 have:=hl l ih (n+1)
 rw [T.cnt,T.sz]
 omega
def arity (k:Int) (n:Nat):Bool :=
 if k=1∨k=2 then decide (n=0)
 else if k=3∨k=14∨k=15∨k=20 then decide (n=1)
 else if k=4∨k=5∨k=13 then decide (2≤n)
 else if k=12 then decide (n=3)
 else decide (6≤k) && decide (k≤19) && decide (n=2)
def nameB (s:Bs):Bool:=decide (s≠[]) && decide (s.length≤64) && textB s
def escB1 (s:Bs):Bool:=decide (s≠[]) && decide (chr s=s.length) && decide (s≠[37]) && decide (s≠[95])
def loneL (e:Bs):List Bs→Bool
 | []=>false
 | [x]=>decide (x=e)
 | x::y::l=>if x=e then loneL e l else loneL e (y::l)
def loneB (p e:Bs):Bool:=loneL e (sg p)
def finB (n:Nat):Bool:=decide (n / 2^52%2048≠2047)
def litB (v:M) (listed:Bool):Bool :=
 decide (M.check 1 v=0) &&
 (if v.k=1∨v.k=19 then true
 else if v.k=9 then listed || decide (v.n<2^63)
 else if v.k=11 then finB v.n && (listed || decide (v.n<2^63))
 else false)
def T.alone (x:T) (listed:Bool):Nat :=
 if arity x.k x.l.length=false then 160
 else if (x.t≠[]∧x.k≠2∧x.k≠14)∨(x.v≠zeroM∧x.k≠1∧x.k≠14) then 160
 else if (x.k=1∧litB x.v listed=false)∨(x.k=2∧nameB x.t=false) then 161
 else if x.k=14∧textB x.t=false then 161
 else if x.k=14∧x.v≠zeroM∧(x.v.k≠19∨M.check 1 x.v≠0∨escB1 x.v.t=false∨loneB x.t x.v.t=true) then 161
 else if x.k=13∧x.l.tail.any (fun y=>decide (y.k≠1)) then 160
 else 0
mutual
def T.chk:Bool→T→Nat
 | b,.mk k t v l=>if T.alone (.mk k t v l) b≠0 then T.alone (.mk k t v l) b else T.chkL (decide (k=13)) true l
def T.chkL:Bool→Bool→List T→Nat
 | _,_,[]=>0
 | i,f,x::l=>if T.chk (i && !f) x≠0 then T.chk (i && !f) x else T.chkL i false l
end
def T.check (x:T):Nat:=if 256<x.cnt 0 then 162 else x.chk false
end Go.Note
namespace Go.Note
open Go
set_option linter.unusedVariables false
def runB (n:Int):Bs:=(Utf8.encode n).data.toList
inductive W where
 | unk | tru (b:Bool) | int (n:Int) | real (x:Nat) | txt (s:Bs) | odd
 deriving DecidableEq
def fin64 (x:Nat):Bool:=decide (x / 2^52%2048≠2047)
def finW (x:Nat) (o:W):W:=if fin64 x then .real x else o
def toI (n:Nat):Int:=if n<2^63 then (n:Int) else (n:Int)-2^64
def flI (n:Int):Nat:=FloatKind.f64.nearest n
def fl32 (n:Nat):Nat:=Ieee.double.write (Ieee.single.read n)
def ofW (v:M):W :=
 if v=zeroM then .unk
 else if M.check 1 v≠0 then .odd
 else if v.k=1 then .tru (decide (v.n=1))
 else if v.k=2∨v.k=3∨v.k=4∨v.k=6∨v.k=7∨v.k=8∨v.k=9∨v.k=16 then .int (toI v.n)
 else if v.k=5 then (if 2^63≤v.n then .real (flI v.n) else .int v.n)
 else if v.k=10 then (if v.n / 2^23%256=255 then .odd else .real (fl32 v.n))
 else if v.k=11 then finW v.n .odd
 else if v.k=18∨v.k=19∨v.k=20 then .txt v.t
 else if v.k=15 then .txt (runB v.n)
 else .odd
def notW:W→W
 | .tru b=>.tru (!b)
 | _=>.unk
def allW (l:List W) (d:Bool):W:=if .tru d∈l then .tru d else if l.all fun w=>decide (w=.tru !d) then .tru !d else .unk
def sgnI (a b:Int):Int:=if a<b then -1 else if b<a then 1 else 0
def valF (x:Nat):Int:=match DB.read x with
 | .number s m e=>sc s m e
 | _=>0
def mixF (a:Int) (x:Nat):Int:=sgnI (a*(V74:Int)) (valF x)
def ordW:W→W→Option Int
 | .int a,.int b=>some (sgnI a b)
 | .int a,.real x=>some (mixF a x)
 | .real x,.int b=>some (-mixF b x)
 | .real x,.real y=>some (sgnI (valF x) (valF y))
 | .txt a,.txt b=>some (Lib.compareBytes a b)
 | _,_=>none
def cmpK (k:Int) (n:Int):Bool :=
 if k=6 then decide (n=0) else if k=7 then decide (n≠0) else if k=8 then decide (n<0) else if k=9 then decide (n≤0) else if k=10 then decide (0<n) else decide (0≤n)
def cmpW (k:Int) (a b:W):W :=
 match a,b with
 | .tru x,.tru y=>if k=6∨k=7 then .tru (decide (x=y) == decide (k=6)) else .unk
 | a,b=>match ordW a b with
  | some n=>.tru (cmpK k n)
  | none=>.unk
def in64 (n:Int):Bool:=decide (-9223372036854775808≤n) && decide (n≤9223372036854775807)
def exactW (k:Int) (a b:Int):Option Int :=
 if k=16 then (if in64 (a+b) then some (a+b) else none)
 else if k=17 then (if in64 (a-b) then some (a-b) else none)
 else if k=18 then (if in64 (a*b) then some (a*b) else none)
 else if b=0 then none else if in64 (a.tdiv b) && decide (a.tmod b=0) then some (a.tdiv b) else none
def flW:W→Option Nat
 | .int n=>some (flI n)
 | .real x=>some x
 | _=>none
def fop (k:Int) (x y:Nat):Option Nat:=if k=16 then DB.add x y else if k=17 then DB.sub x y else if k=18 then DB.mul x y else DB.div x y
def reckW (k:Int) (a b:W):W :=
 match flW a,flW b with
 | some x,some y =>
  if k=19∧DB.order y 0=some .eq then .unk
  else match (match a,b with
   | .int n,.int m=>exactW k n m
   | _,_=>none) with
   | some n=>.int n
   | none=>match fop k x y with
    | some z=>finW z .unk
    | none=>.unk
 | _,_=>.unk
def negF (x:Nat):Nat:=Op.negFloat .f64 x
def fitW (w:W) (p e:Bs):W :=
 match w with
 | .txt s=>.tru (mt (els e (sg p)) (sg s))
 | _=>.unk
def kidsW (k:Int) (t:Bs) (v:M) (l:List W):W :=
 let a:=l.getD 0 .unk
 let b:=l.getD 1 .unk
 if k=3 then notW a
 else if k=4 then allW l false
 else if k=5 then allW l true
 else if k=12 then allW [cmpW 11 a b,cmpW 9 a (l.getD 2 .unk)] false
 else if k=13 then allW (l.tail.map (cmpW 6 a)) true
 else if k=14 then fitW a t v.t
 else if k=15 then .tru (decide (a=.unk))
 else if k=20 then (match a with
  | .real x=>.real (negF x)
  | _=>reckW 17 (.int 0) a)
 else if k=16∨k=17∨k=18∨k=19 then reckW k a b
 else cmpW k a b
mutual
def T.says (look:Bs→M):T→W
 | .mk k t v l=>if k=1 then ofW v else if k=2 then ofW (look t) else kidsW k t v (T.saysL look l)
def T.saysL (look:Bs→M):List T→List W
 | []=>[]
 | x::l=>T.says look x::T.saysL look l
end
theorem T.saysL_map (look:Bs→M) (l:List T):T.saysL look l=l.map (T.says look):=by
 induction l with
 | nil=>rfl
 | cons x l ih=>simp [T.saysL,ih]
def W.value:W→M
 | .unk=>zeroM
 | .tru b=>.mk 1 (if b then 1 else 0) [] 0 []
 | .int n=>.mk 9 (if n<0 then (n+2^64).toNat else n.toNat) [] 0 []
 | .real x=>.mk 11 x [] 0 []
 | .txt s=>.mk (if textB s then 19 else 18) 0 s 0 []
 | .odd=>zeroM
def evalB (look:Bs→M) (x:T):M:=if x.check=0 then (x.says look).value else zeroM
def fitsB (look:Bs→M) (x:T):Bool:=decide (x.check=0) && decide (x.says look=.tru true)
theorem sgnI_neg (a b:Int):sgnI b a=-sgnI a b:=by
 unfold sgnI
 split<;>split<;>omega
end Go.Note
