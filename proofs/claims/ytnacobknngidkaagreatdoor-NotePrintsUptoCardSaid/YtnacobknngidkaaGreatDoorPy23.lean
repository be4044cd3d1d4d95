/-
  The bound of the second form, as a measure. The frame of the note's laws: what the listed variables hold; a world for the witness; texts as arguments. The wrap of a law's statement, with the data that its arguments read as (a bound on a whole nested value can be had of them). Values as arguments: what comes in is a value that reads, of bounded size.
-/
import Derived.Test.YtnacobknngidkaaGreatDoorPy22
import Derived.Test.YtnacobknngidkaaGreatDoorRows
import Derived.Test.YtnacobknngidkaaGreatDoorCards
import Derived.Test.YtnacobknngidkaaGreatDoorTie
import Derived.LaidLaws
import Derived.LaidHandle
import Derived.LaidSub
import Derived.Lib.LaidU8T
import Derived.PinnedBridge
set_option linter.unusedVariables false
set_option linter.unusedSimpArgs false
namespace Go.Proofs.YtnacobknngidkaaGreatDoor
open Go Go.Sv
theorem bulk_part {H:Type} {d:DataW H} {l:List (DataW H)} (h:d∈l):Rows.uptoBulk d≤Rows.uptoBulkAll l:=by
 induction l with
 | nil=>cases h
 | cons x r ih =>
  simp only [Rows.uptoBulkAll]
  rcases List.mem_cons.1 h with rfl | e
  ·omega
  ·have:=ih e; omega
theorem bulk_one {H:Type} (d:DataW H):1≤Rows.uptoBulk d:=by
 cases d with
 | lit l=>cases l<;>simp [Rows.uptoBulk]
 | _=>simp [Rows.uptoBulk]
theorem bulk_len {H:Type} (l:List (DataW H)):l.length≤Rows.uptoBulkAll l:=by
 induction l with
 | nil=>simp [Rows.uptoBulkAll]
 | cons x r ih=>have:=bulk_one x; simp only [Rows.uptoBulkAll,List.length_cons]; omega
def upM:Nat:=1048576
def byBulk (P:Program) (H:Type):Measure P H where
 ok n _:=n≤upM
 good _ d:=Rows.uptoBulk d≤upM
 str h:=by simp only [Rows.uptoBulk] at h; omega
 nil _:=Nat.zero_le _
 slice {_ _ a b} _ h:=by
  simp only [Rows.uptoBulk] at h
  have h1:=bulk_len a
  have h2:=bulk_len b
  exact ⟨by omega,fun d hd=>by have:=bulk_part hd; omega⟩
 agg {_ _ l} _ h j f d _ hd:=by
  simp only [Rows.uptoBulk] at h
  have:=bulk_part (List.mem_of_getElem? hd)
  omega
theorem byBulk_of {P:Program} {H:Type} (ds:List (DataW H)) (h:Rows.uptoSmall H ds=true):∀ d∈ds,∀ t,(byBulk P H).good t d:=fun d hd t=>by
 have h1:Rows.uptoBulkAll ds≤1048576:=by simpa [Rows.uptoSmall] using h
 have:=bulk_part hd
 show Rows.uptoBulk d≤upM
 unfold upM; omega
abbrev okU:Nat→Nat→Prop:=fun n _=>n≤upM
end Go.Proofs.YtnacobknngidkaaGreatDoor
namespace Go.Proofs.YtnacobknngidkaaGreatDoor
open Go Go.Sv Go.Note Go.ChangeShapes
set_option linter.unusedVariables false
set_option maxRecDepth 100000
theorem own:ownKnob Tryz.prog.godebug=none:=by kernel_rfl
theorem laidOut:laidOutB Tryz.prog=true:=by kernel_rfl
def ren:Shelf.Ren:=⟨fun x=>x,fun x=>if x=5 then 5 else if x=119 then 171 else if x=138 then 173 else if x=139 then 174 else x,fun x=>if x=3 then 0 else if x=4 then 1 else x⟩
theorem u8T:U8Types Tryz.prog ren:=⟨by kernel_rfl,by kernel_rfl,by kernel_rfl,by kernel_rfl⟩
theorem u8X:U8Extra Tryz.prog ren:=⟨by kernel_rfl,by kernel_rfl,by kernel_rfl,by kernel_rfl,by kernel_rfl,by kernel_rfl,by kernel_rfl⟩
abbrev laidL:List (String × DataW Unit):=[("math/bits.deBruijn32tab",Rows.laid_math_bits_deBruijn32tab),("math/bits.deBruijn64tab",Rows.laid_math_bits_deBruijn64tab),("internal/strconv.uint64pow10",Rows.laid_internal_strconv_uint64pow10),("unicode/utf8.acceptRanges",Rows.laid_unicode_utf8_acceptRanges),("strconv.ErrRange",Rows.laid_strconv_ErrRange),("strconv.ErrSyntax",Rows.laid_strconv_ErrSyntax),("unicode/utf8.first",Rows.laid_unicode_utf8_first)]
theorem gSyn:Tryz.prog.globalNamed "strconv.ErrSyntax" = some 4:=by kernel_rfl
theorem gRan:Tryz.prog.globalNamed "strconv.ErrRange" = some 5:=by kernel_rfl
theorem gTab:Tryz.prog.globalNamed "math/bits.deBruijn64tab" = some 7:=by kernel_rfl
theorem gPow:Tryz.prog.globalNamed "internal/strconv.uint64pow10" = some 3:=by kernel_rfl
theorem tySyn:(Tryz.prog.globals[4]?).map (·.type)=some 85:=by kernel_rfl
theorem tyRan:(Tryz.prog.globals[5]?).map (·.type)=some 85:=by kernel_rfl
theorem tyPow:(Tryz.prog.globals[3]?).map (·.type)=some 207:=by kernel_rfl
theorem err_of {W:World} {n:String} {g:Nat} {nm:String} {d:DataW Unit} (hg:Tryz.prog.globalNamed n=some g) (hty:(Tryz.prog.globals[g]?).map (·.type)=some 85) (h:Lib.VarReads Tryz.prog W n (.iface nm d)):∃ te pe,W.cell? ⟨g,0,none⟩=some (.iface te pe):=by
 obtain ⟨g',t,cs,fuel,p,hg',hty',hvar,hd⟩:=h
 obtain rfl:=Option.some.inj (hg.symm.trans hg')
 obtain rfl:=Option.some.inj (hty.symm.trans hty')
 obtain ⟨f1,u,v,hcs,hn,h1⟩:=iface_of_trod Tryz.underlying85 hd
 refine ⟨u,v,?_⟩
 rw [World.var?_cell hg hvar 0,← Array.getElem?_toList,hcs]; rfl
theorem lw_of_laid {W:World} (h:laidMetH Tryz.prog laidL W):LW W:=by
 have hd:laidMet Tryz.prog laidL W:=(laidMetH_iff.1 h).1
 have r1:Lib.VarReads Tryz.prog W "unicode/utf8.first" Rows.laid_unicode_utf8_first:=Lib.laidMet.reads hd (by simp [laidL])
 have r2:Lib.VarReads Tryz.prog W "unicode/utf8.acceptRanges" Rows.laid_unicode_utf8_acceptRanges:=Lib.laidMet.reads hd (by simp [laidL])
 have r3:Lib.VarReads Tryz.prog W "strconv.ErrSyntax" Rows.laid_strconv_ErrSyntax:=Lib.laidMet.reads hd (by simp [laidL])
 have r4:Lib.VarReads Tryz.prog W "strconv.ErrRange" Rows.laid_strconv_ErrRange:=Lib.laidMet.reads hd (by simp [laidL])
 have r5:Lib.VarReads Tryz.prog W "internal/strconv.uint64pow10" Rows.laid_internal_strconv_uint64pow10:=Lib.laidMet.reads hd (by simp [laidL])
 have r6:Lib.VarReads Tryz.prog W "math/bits.deBruijn64tab" Rows.laid_math_bits_deBruijn64tab:=Lib.laidMet.reads hd (by simp [laidL])
 refine ⟨?_,err_of gSyn tySyn r3,err_of gRan tyRan r4,?_,?_⟩
 ·refine utf8Tabs_of_readsT u8T u8X ?_ ?_
  ·rw [← Pinned.utf8First_eq]; exact r1
  ·exact (show Rows.laid_unicode_utf8_acceptRanges=Lib.acceptData by kernel_rfl)▸r2
 ·obtain ⟨g,t,cs,fuel,p,hg,hty,hvar,hd⟩:=r5
  obtain rfl:=Option.some.inj (gPow.symm.trans hg)
  obtain rfl:=Option.some.inj (tyPow.symm.trans hty)
  have e:(Rows.laid_internal_strconv_uint64pow10:DataW Unit)=Lib.tabData .u64 Lib.pow10Tab:=by kernel_rfl
  rw [e] at hd
  unfold Lib.TabIs
  rw [hvar,← Lib.cells_of_tab Tryz.underlying207 Tryz.underlying23 (by kernel_rfl) (by kernel_rfl) hd]
 ·obtain ⟨g,t,cs,fuel,p,hg,hty,hvar,hd⟩:=r6
  obtain rfl:=Option.some.inj (gTab.symm.trans hg)
  unfold World.var? at hvar
  rw [gTab] at hvar
  by_cases hz:8≤W.heap.size
  ·exact hz
  ·rw [Option.bind_some,Array.getElem?_eq_none (by omega)] at hvar
   cases hvar
noncomputable def nW (os:Os):World :=
 let w0:=laidW Tryz.prog os [(0,flatD 2 Rows.laid_unicode_utf8_first),(1,flatD 3 Rows.laid_unicode_utf8_acceptRanges),(3,flatD 2 Rows.laid_internal_strconv_uint64pow10),(6,flatD 2 Rows.laid_math_bits_deBruijn32tab),(7,flatD 2 Rows.laid_math_bits_deBruijn64tab)]
 let w2:=(w0.alloc (.cells #[.string ⟨#[105,110,118,97,108,105,100,32,115,121,110,116,97,120]⟩] 232)).alloc (.cells #[.string ⟨#[118,97,108,117,101,32,111,117,116,32,111,102,32,114,97,110,103,101]⟩] 232)
 { w2 with heap:=(w2.heap.modify 4 fun | .cells _ t fz=>.cells #[.iface 230 (.pointer (some ⟨w0.heap.size,0,none⟩))] t fz | o=>o).modify 5 fun | .cells _ t fz=>.cells #[.iface 230 (.pointer (some ⟨w0.heap.size+1,0,none⟩))] t fz | o=>o }
end Go.Proofs.YtnacobknngidkaaGreatDoor
namespace Go.Sv
open Go Go.ChangeShapes Go.WideShapes Go.ChangeAt Go.RowKit
set_option linter.unusedVariables false
section
variable {H:Type} {enc:TypeId × Value→H}
theorem law_contractT {C:Checked} {f:FuncId} {fn:Func} {s:ChangeSpec} {tb:TypeId} (M:Measure C.prog H)
 (hl:laidOutB C.prog=true) (hvars:s.vars=[]) (hfun:∀ ds:List (DataW H),ds.length=fn.params.toList.length→s.fn H ds={ results:=[.lit (.bool true)],args:=ds })
 (hres:fn.resultTypes=#[tb]) (htb:C.prog.underlying tb=some .bool) (hrec:fn.params.toList.all (fun t=>C.prog.readableRec t && decide (t<C.prog.types.size))=true)
 {W:World} {base:Nat} {args:Array Value} {ds gs:List (DataW H)} {before:List MemPlace}
 (hval:∀ (j:Nat) t v,fn.params[j]?=some t→args[j]?=some v→Value.okWide C.prog W .any base t v)
 (hW:DataW.Whole enc C.prog fn.params.toList s.vars false W args.toList ds gs before) (hgood:∀ d∈ds,∀ t,M.good t d)
 (walk:∀ ps,DataW.TrodAll enc C.prog W 0 (fun _=>true) true fn.params.toList args.toList ds ps→InpAll C.prog W M.ok fn.params.toList args.toList→callP C.prog f args.toList W fun v w'=>v=.bool true∧Ch (fun _=>False) W w') :
 Calls C.prog f args W fun e W'=>∃ v,e=.returned v∧s.post enc C.prog fn false true false false W args v W':=by
 have hA':=hW
 obtain ⟨p,q,hA,hV,hbef,hfz,hnd⟩:=hA'
 exact law_contract M hl hvars hfun hres htb hrec hval hW (fun j t d ht hd=>hgood d (List.mem_of_getElem? hd) t) (walk p hA)
theorem lift_laidT {C:Checked} {os:Os} (started:os.Started) {f:FuncId} {fn:Func} {s:ChangeSpec} {o:OpenSpec} {k:(H:Type)→List (DataW H)→Bool} (M:Measure C.prog H) {dom:List PathCond} {laid:List (String × DataW Unit)} {tb:TypeId} {F:Stop.Interp}
 (ho:o={ OpenSpec.ofChange s with cond:=some k }) (hM:∀ ds:List (DataW H),k H ds=true→∀ d∈ds,∀ t,M.good t d)
 (own:ownKnob C.prog.godebug=none) (hl:laidOutB C.prog=true) (noInit:C.prog.inits.idxOf? f=none) (hfn:C.prog.funcs[f]?=some fn)
 (witness:∃ (w:World) (tape:Tape) (i:Input),w.os=os∧(w.forCall tape i).Shaped C.prog∧i.vars=[]∧Input.okWide C.prog (w.forCall tape i) .any w.heap.size f i ∧
   o.preRow enc C.prog fn dom false laid (w.forCall tape i).memory i.args∧({}:Assume).holds C.prog (lone (Frame.enter C.prog f i.args .normal) [] (w.forCall tape i)))
 (hvars:s.vars=[]) (hfun:∀ ds:List (DataW H),ds.length=fn.params.toList.length→s.fn H ds={ results:=[.lit (.bool true)],args:=ds })
 (hres:fn.resultTypes=#[tb]) (htb:C.prog.underlying tb=some .bool) (hrec:fn.params.toList.all (fun t=>C.prog.readableRec t && decide (t<C.prog.types.size))=true)
 (walk:∀ (W:World) (args:Array Value) (ds:List (DataW H)) ps,laidMetH C.prog laid W→(∀ d∈ds,∀ t,M.good t d)→DataW.TrodAll enc C.prog W 0 (fun _=>true) true fn.params.toList args.toList ds ps→InpAll C.prog W M.ok fn.params.toList args.toList →
   callP C.prog f args.toList W fun v w'=>v=.bool true∧Ch (fun _=>False) W w') :
 ReturnsInHanded {} C os f .any (o.preRow enc C.prog fn dom false laid) ((o.at F).post enc C.prog fn false true false false):=by
 subst ho
 refine returnsInHanded_of_row own started noInit hfn witness ?_
 intro W base args ds gs before hval hW _ hk _ hL _ _
 have hg:∀ d∈ds,∀ t,M.good t d:=fun d hd t=>hM _ (hk k rfl) d (List.mem_append.2 (.inl hd)) t
 exact law_contractT M hl hvars hfun hres htb hrec hval hW hg fun ps=>walk W args ds ps hL hg
end
end Go.Sv
namespace Go.Proofs.YtnacobknngidkaaGreatDoor
open Go Go.Sv Go.Note Go.ChangeShapes
set_option linter.unusedVariables false
set_option maxRecDepth 100000
section
variable {H:Type} {enc:TypeId × Value→H} {w:World} {base:Nat}
theorem trodAll_cons {P:Program} {t:TypeId} {ts:List TypeId} {v:Value} {vs:List Value} {ds:List (DataW H)} {ps:List MemPlace} (h:DataW.TrodAll enc P w 0 (fun _=>true) true (t::ts) (v::vs) ds ps) :
 ∃ d ds' p ps',ds=d::ds'∧(∃ fuel,DataW.trod enc P w 0 (fun _=>true) true fuel t v.cells.toList=some (d,p))∧DataW.TrodAll enc P w 0 (fun _=>true) true ts vs ds' ps':=by
 cases ds with
 | nil=>exact h.elim
 | cons d ds =>
  obtain ⟨p,q,h1,h2,_⟩:=h
  exact ⟨d,ds,p,q,rfl,h1,h2⟩
theorem bulkAll_sum (l:List (DataW H)):Rows.uptoBulkAll l=(l.map Rows.uptoBulk).sum:=by
 induction l with
 | nil=>rfl
 | cons x l ih=>simp [Rows.uptoBulkAll,ih]
theorem sum_le_of:∀ {a b:List Nat},a.length=b.length→(∀ (i:Nat) x y,a[i]?=some x→b[i]?=some y→x≤y)→a.sum≤b.sum
 | [],[],_,_=>Nat.le_refl _
 | x::a,y::b,h,h2=>by
  have h3:=h2 0 x y rfl rfl
  have h4:=sum_le_of (a:=a) (b:=b) (by simpa using h) fun i x y hx hy=>h2 (i+1) x y hx hy
  simp only [List.sum_cons]; omega
 | [],_::_,h,_=>by simp at h
 | _::_,[],h,_=>by simp at h
theorem str_back (s:ByteArray):(⟨s.data.toList.toArray⟩:ByteArray)=s:=by
 apply ByteArray.ext
 simp
instance:Inhabited MV:=⟨.mk 0 0 [] ⟨none,0,0,none⟩ 0 []⟩
theorem val_of_trod:∀ (fuel:Nat) (cs:List Value) (x:DataW H × List MemPlace),DataW.trod enc Tryz.prog w base (fun _=>true) true fuel 26 cs=some x→Rows.uptoBulk x.1≤1048576 →
 ∃ v:MV,cs=v.g∧VR (fun _=>True) w v∧v.m.fits∧v.m.sz≤Rows.uptoBulk x.1:=by
 intro fuel
 induction fuel using Nat.strongRecOn with
 | _ fuel ih =>
  intro cs x h hb
  obtain ⟨xs,m,rfl,rfl,hcl,hxl,hf⟩:=DataW.trod_struct Tryz.underlying26 h
  have hc5:Tryz.prog.cellsOf 26=5:=by kernel_rfl
  rw [hc5] at hcl
  match cs,hcl with
  | [c0,c1,c2,c3,c4],_ =>
   match xs,hxl with
   | [x0,x1,x2,x3,x4],_ =>
    have f0:=hf 0 _ rfl
    have f1:=hf 1 _ rfl
    have f2:=hf 2 _ rfl
    have f3:=hf 3 _ rfl
    have f4:=hf 4 _ rfl
    have f0:DataW.trod enc Tryz.prog w base (fun _=>true) true m 3 [c0]=some x0:=f0
    have f1:DataW.trod enc Tryz.prog w base (fun _=>true) true m 23 [c1]=some x1:=f1
    have f2:DataW.trod enc Tryz.prog w base (fun _=>true) true m 9 [c2]=some x2:=f2
    have f3:DataW.trod enc Tryz.prog w base (fun _=>true) true m 24 [c3]=some x3:=f3
    have f4:DataW.trod enc Tryz.prog w base (fun _=>true) true m 3 [c4]=some x4:=f4
    obtain ⟨n0,e0,rfl,w0⟩:=DataW.trod_int Tryz.underlying3 f0
    obtain ⟨n1,e1,rfl,w1⟩:=DataW.trod_int Tryz.underlying23 f1
    obtain ⟨s2,e2,rfl,w2⟩:=DataW.trod_string Tryz.underlying9 f2
    obtain ⟨n4,e4,rfl,w4⟩:=DataW.trod_int Tryz.underlying3 f4
    obtain rfl:=List.singleton_inj.1 e0
    obtain rfl:=List.singleton_inj.1 e1
    obtain rfl:=List.singleton_inj.1 e2
    obtain rfl:=List.singleton_inj.1 e4
    have hn1:0≤n1∧n1≤18446744073709551615:=by simpa [Lit.wf,IntKind.has,IntKind.min,IntKind.max,IntKind.signed,IntKind.bits] using w1
    obtain ⟨u,rfl⟩:∃ u:Nat,n1=(u:Int):=⟨n1.toNat,by omega⟩
    have hb':Rows.uptoBulk (DataW.agg (List.map (fun x=>x.1) [((DataW.lit (Lit.int .i64 n0):DataW H),([]:List MemPlace)),(.lit (.int .u64 (u:Int)),[]),(.lit (.string s2.data.toList),[]),x3,(.lit (.int .i64 n4),[])]))=1+(1+(s2.data.toList.length+1+(Rows.uptoBulk x3.1+(1+0))))+1:=rfl
    rcases DataW.trod_slice Tryz.underlying24 f3 with ⟨e3,rfl⟩ | ⟨a,len,cap,elems,rest,m',rfl,e3,rfl,hbb,hl,hmx,hlen,hel,hsp,hns⟩
    ·obtain rfl:=List.singleton_inj.1 e3
     refine ⟨.mk n0 u s2.data.toList ⟨none,0,0,none⟩ n4 [],?_,.mk rfl (Nat.zero_le _) ⟨rfl,.inl rfl⟩ (fun a h=>by cases h) (by simp),?_,?_⟩
     ·show _=[Value.int .i64 n0,.int .u64 (u:Int),.string ⟨s2.data.toList.toArray⟩,.slice none 0 0,.int .i64 n4]
      rw [str_back]
     ·rw [MV.m_mk]; exact .mk (by omega) (by simp)
     ·refine Nat.le_trans ?_ (Nat.le_of_eq hb'.symm)
      rw [MV.m_mk,M.sz_mk]; simp; omega
    ·obtain rfl:=List.singleton_inj.1 e3
     have hbs:Rows.uptoBulk (DataW.slice (elems.map (·.1)) (rest.map (·.1)))=Rows.uptoBulkAll (elems.map (·.1))+Rows.uptoBulkAll (rest.map (·.1))+1:=rfl
     have hbt:Rows.uptoBulk (DataW.agg (List.map (fun x=>x.1) [((DataW.lit (Lit.int .i64 n0):DataW H),([]:List MemPlace)),(.lit (.int .u64 (u:Int)),[]),(.lit (.string s2.data.toList),[]),(.slice (elems.map (·.1)) (rest.map (·.1)),MemPlace.row a ((elems.length+rest.length)*Tryz.prog.cellsOf 26)++(elems++rest).flatMap (·.2)),(.lit (.int .i64 n4),[])]))=1+(1+(s2.data.toList.length+1+(Rows.uptoBulkAll (elems.map (·.1))+Rows.uptoBulkAll (rest.map (·.1))+1+(1+0))))+1:=rfl
     have hb2:1+(1+(s2.data.toList.length+1+(Rows.uptoBulkAll (elems.map (·.1))+Rows.uptoBulkAll (rest.map (·.1))+1+(1+0))))+1≤1048576:=by rw [← hbt]; exact hb
     have hbl:=bulk_len (elems.map (·.1))
     rw [List.length_map] at hbl
     have each:∀ i,i<len→∃ v:MV,w.cells? base (a.add (i*Tryz.prog.cellsOf 26)) (Tryz.prog.cellsOf 26)=some v.g∧VR (fun _=>True) w v∧v.m.fits∧∀ y,(elems.map (·.1))[i]?=some y→v.m.sz≤Rows.uptoBulk y:=fun i hi=>by
      have h1:=hel i hi
      have h2:elems[i]?=some (elems[i]'(by omega)):=List.getElem?_eq_getElem (by omega)
      rw [h2] at h1
      cases hc:w.cells? base (a.add (i*Tryz.prog.cellsOf 26)) (Tryz.prog.cellsOf 26) with
      | none=>rw [hc] at h1; cases h1
      | some cs' =>
       rw [hc] at h1
       have hm:(elems[i]'(by omega)).1∈elems.map (·.1):=List.mem_map.2 ⟨_,List.mem_of_getElem? h2,rfl⟩
       have hp:=bulk_part hm
       obtain ⟨v,rfl,q2,q3,q4⟩:=ih m' (by omega) cs' _ h1 (by omega)
       exact ⟨v,rfl,q2,q3,fun y hy=>by rw [List.getElem?_map,h2] at hy; cases hy; exact q4⟩
     obtain ⟨F,hF⟩:=Deep.choose_lt each
     have hlenF:((List.range len).map F).length=len:=by simp
     refine ⟨.mk n0 u s2.data.toList ⟨some a,len,cap,none⟩ n4 ((List.range len).map F),?_,.mk hlenF (by show len≤_; omega) ?_ (fun _ _ _=>trivial) ?_,?_,?_⟩
     ·show _=[Value.int .i64 n0,.int .u64 (u:Int),.string ⟨s2.data.toList.toArray⟩,.slice (some a) len cap,.int .i64 n4]
      rw [str_back]
     ·show Rd w (some a) len 5 _
      have hll:(((List.range len).map F).flatMap MV.g).length=len*5:=by
       rw [flat_len MV.glen,hlenF]
      refine rd_of_cells hll fun i hi=>?_
      have hdm:=Nat.div_add_mod i 5
      have hil:i / 5<len:=by omega
      have hj:i%5<5:=Nat.mod_lt _ (by decide)
      have h3:=(World.cells?_some (hF _ hil).1).2.2 (i%5) (by rw [hc5]; exact hj)
      rw [Deep.add_add,hc5,Nat.mul_comm,hdm] at h3
      rw [h3]
      have h4:=flatten_get (sz:=5) (((List.range len).map F).map MV.g) (fun x hx=>by obtain ⟨y,_,rfl⟩:=List.mem_map.1 hx; exact MV.glen y) (i / 5) (i%5) hj
      rw [Nat.mul_comm,hdm] at h4
      rw [List.flatMap_def,h4,List.getElem?_map,List.getElem?_map,List.getElem?_range hil]; simp
     ·intro x hx
      obtain ⟨i,hi,rfl⟩:=List.mem_map.1 hx
      exact (hF i (List.mem_range.1 hi)).2.1
     ·rw [MV.m_mk]
      refine .mk (by omega) fun x hx=>?_
      obtain ⟨y,hy,rfl⟩:=List.mem_map.1 hx
      obtain ⟨i,hi,rfl⟩:=List.mem_map.1 hy
      exact (hF i (List.mem_range.1 hi)).2.2.1
     ·refine Nat.le_trans ?_ (Nat.le_of_eq hbt.symm)
      rw [MV.m_mk,M.sz_mk]
      have hsum:((((List.range len).map F).map MV.m).map M.sz).sum≤Rows.uptoBulkAll (elems.map (·.1)):=by
       rw [bulkAll_sum]
       refine sum_le_of (by simp [hlen]) fun i a b ha hb=>?_
       rw [List.getElem?_map] at hb
       have hi:i<len:=by
        have:=(List.getElem?_eq_some_iff.1 ha).1
        simpa using this
       rw [List.getElem?_map,List.getElem?_map,List.getElem?_map,List.getElem?_range hi] at ha
       cases ha
       obtain ⟨y,hy,rfl⟩:=Option.map_eq_some_iff.1 hb
       exact (hF i hi).2.2.2 y hy
      omega
end
theorem val_arg {H:Type} {enc:TypeId × Value→H} {W:World} {v:Value} {d:DataW H} {p:List MemPlace} (hT:∃ fuel,DataW.trod enc Tryz.prog W 0 (fun _=>true) true fuel 26 v.cells.toList=some (d,p)) (hI:InpV Tryz.prog W okU 26 v) (hb:Rows.uptoBulk d≤1048576) :
 ∃ x:MV,v=x.v∧VR (fun _=>True) W x∧x.m.fits∧x.m.sz≤1048576:=by
 obtain ⟨fuel,h⟩:=hT
 obtain ⟨_,h2⟩:=hI
 rw [Tryz.underlying26] at h2
 obtain ⟨cs,rfl⟩:=h2
 obtain ⟨x,h3,h4,h5,h6⟩:=val_of_trod fuel _ _ h hb
 refine ⟨x,?_,h4,h5,Nat.le_trans h6 hb⟩
 have:(Value.agg cs).cells.toList=cs.toList:=rfl
 rw [this] at h3
 unfold MV.v
 rw [← h3]
end Go.Proofs.YtnacobknngidkaaGreatDoor
