/-
  The chapter's first examples: what the law asks of the program ahead of all else. The wrap of a law's statement, with the data that its arguments read as (a bound on a whole nested value can be had of them). Terms and messages as arguments: what comes in reads, of bounded size. The laws of three values, in plain Lean: the plain law of SieveThree. No program in sight. What a term and a message that came in are for the walk.
-/
import Derived.Test.YtnmlmicmhpkbeaaGreatDoorPz23
set_option linter.unusedVariables false
set_option linter.unusedSimpArgs false
namespace Go.Proofs.YtnmlmicmhpkbeaaGreatDoor
open Go Go.Sv Go.Note
set_option linter.unusedVariables false
attribute [local irreducible] Sif
def blankG (k:Nat):GV:=⟨false,false,4,-1,false,0,zMV,zMV,false,zMV,[],[],[],[],zMV,[],[],-1,-1,[],-1,[],zMV,1,some ⟨k,0,none⟩,1,1,[[]],none,0,0,[],zMV,zMV⟩
theorem st7 {w:World} {k o:Nat} {cs:List Value} {v0 v1 v2 v3 v4 v5 v6:Value} {K:World→Prop} (h:blk w k=some cs) (hl:o+7≤cs.length) (hk:∀ w',blk w' k=some (putSeg cs o [v0,v1,v2,v3,v4,v5,v6])→Ch (·=k) w w'→w'.heap.size=w.heap.size→K w') :
 Sv.st w ⟨k,o,none⟩ v0 fun w1=>Sv.st w1 ⟨k,o+1,none⟩ v1 fun w2=>Sv.st w2 ⟨k,o+2,none⟩ v2 fun w3=>Sv.st w3 ⟨k,o+3,none⟩ v3 fun w4=>Sv.st w4 ⟨k,o+4,none⟩ v4 fun w5=>Sv.st w5 ⟨k,o+5,none⟩ v5 fun w6=>Sv.st w6 ⟨k,o+6,none⟩ v6 fun w7=>K w7 :=
 st_all [v0,v1,v2,v3,v4,v5,v6] o (K:=K) h hl hk
set_option maxRecDepth 100000 in
theorem Blank_ok {w:World} {K:Value→World→Prop} (hk:∀ (k:Nat) (w':World),blk w' k=some [strV []]→w.heap.size≤k→Ch (fun _=>False) w w'→K (blankG k).v w'):callP Tryz.prog 32 [] w K:=by
 apply ok_longshoreref11_Blank
 refine newB_blk fun w1 b1 c1 z1=>?_
 refine newB_blk fun w2 b2 c2 z2=>?_
 have b12:=(c2.blk (blk_lt b1) id).trans b1
 have c02:=c1.trans' c2
 simp only [add_at,Nat.zero_add]
 refine st7 (o:=0) b12 (by simp) fun w3 b3 c3 z3=>?_
 refine st7 (o:=7) b3 (by simp [putSeg]) fun w4 b4 c4 z4=>?_
 refine st7 (o:=14) b4 (by simp [putSeg]) fun w5 b5 c5 z5=>?_
 refine st7 (o:=21) b5 (by simp [putSeg]) fun w6 b6 c6 z6=>?_
 refine st7 (o:=28) b6 (by simp [putSeg]) fun w7 b7 c7 z7=>?_
 refine st7 (o:=35) b7 (by simp [putSeg]) fun w8 b8 c8 z8=>?_
 refine st7 (o:=42) b8 (by simp [putSeg]) fun w9 b9 c9 z9=>?_
 refine st7 (o:=49) b9 (by simp [putSeg]) fun w10 b10 c10 z10=>?_
 have hl:(blankG w1.heap.size).g.length=56:=GV.glen _
 have b11:blk w10 w.heap.size=some (blankG w1.heap.size).g:=b10.trans (by rw [GV.cells]; rfl)
 have c21:=((((((c3.trans' c4).trans' c5).trans' c6).trans' c7).trans' c8).trans' c9).trans' c10
 have hld:=ldBig_of (o:=0) (n:=56) (K:=fun vs=>K (.agg vs.toArray) w10) b11 (by rw [hl]; decide) (by
  rw [List.drop_zero,List.take_of_length_le (by rw [hl]; decide)]
  exact hk w1.heap.size w10 ((c21.blk (blk_lt b2) (by omega)).trans b2) (by omega) (c02.trans c21 fun y hy h=>by omega))
 rw [add_at] at hld
 exact hld
theorem isT3 {x:TV} {a b:Int} {K:Int→ByteArray→Int→Int→ByteArray→Option Addr→Nat→Nat→Int→Option Addr→Nat→Nat→Int→Int→Prop} (hk:K x.k ⟨x.t.toArray⟩ x.x.k (x.x.n:Int) ⟨x.x.t.toArray⟩ x.x.s.p x.x.s.n x.x.s.c x.x.e x.s.p x.s.n x.s.c a b) :
 ∃ n s n1 n2 s1 p n3 c n4 p1 n5 c1 n6 n7,Value.tuple (Array.mk [x.v,.int .i64 a,.int .i64 b])=.tuple (Array.mk [.agg (Array.mk [.int .i64 n,.string s,.int .i64 n1,.int .u64 n2,.string s1,.slice p n3 c,.int .i64 n4,.slice p1 n5 c1]),.int .i64 n6,.int .i64 n7])∧K n s n1 n2 s1 p n3 c n4 p1 n5 c1 n6 n7 :=
 ⟨_,_,_,_,_,_,_,_,_,_,_,_,_,_,by rw [tvv x],hk⟩
inductive Tall (P:Int→Bs→M→List T→Prop):T→Prop where
 | mk {k:Int} {t:Bs} {v:M} {l:List T}:P k t v l→(∀ y∈l,Tall P y)→Tall P (.mk k t v l)
theorem TG_of:∀ x:TV,Tall (fun k t v l=>t.length≤2^48∧v.fits∧v.sz≤2^48) x.m→TG x:=by
 refine TV.ind fun k t v s l ih=>?_
 intro h
 rw [TV.m_mk] at h
 cases h with
 | mk a b=>exact .mk a.1 a.2.1 a.2.2 fun y hy=>ih y hy (b _ (List.mem_map.2 ⟨y,hy,rfl⟩))
def SGp (B:Prop) (k:Int) (t:Bs) (v:M) (l:List T):Prop:=v.fits∧v.sz≤2^39∧t.length≤2^40∧(k=1→v.k=5∨v.k=10∨v.k=11→B)∧(16≤k→B)∧arity k l.length=true∧l.length≤2^40
theorem SG_of {B:Prop}:∀ x:TV,Tall (SGp B) x.m→SG B x:=by
 refine TV.ind fun k t v s l ih=>?_
 intro h
 rw [TV.m_mk] at h
 cases h with
 | mk a b =>
  obtain ⟨a1,a2,a3,a4,a5,a6,a7⟩:=a
  rw [List.length_map] at a6 a7
  exact .mk a1 a2 a3 (by rw [v.mf.1] at a4; exact a4) a5 a6 a7 fun y hy=>ih y hy (b _ (List.mem_map.2 ⟨y,hy,rfl⟩))
theorem aw_all {P:Int→Bs→M→List T→Prop} (h1:∀ l,l.length=2→P 4 [] zeroM l) (h2:∀ l,l.length=2→P 10 [] zeroM l) (h3:P 2 [112,114,105,111,114,105,116,121] zeroM []) (h4:P 1 [] (.mk 9 4 [] 0 []) []) (h5:∀ l,l.length=2→P 6 [] zeroM l) (h6:P 2 [99,111,108,111,117,114] zeroM []) (h7:P 1 [] (.mk 19 0 [114,101,100] 0 []) []):Tall P aw1t:=by
 have nil:∀ y∈([]:List T),Tall P y:=fun y hy=>by cases hy
 refine .mk (h1 _ rfl) fun y hy=>?_
 simp only [List.mem_cons,List.not_mem_nil,or_false] at hy
 rcases hy with rfl | rfl
 ·refine .mk (h2 _ rfl) fun y hy=>?_
  simp only [List.mem_cons,List.not_mem_nil,or_false] at hy
  rcases hy with rfl | rfl
  ·exact .mk h3 nil
  ·exact .mk h4 nil
 ·refine .mk (h5 _ rfl) fun y hy=>?_
  simp only [List.mem_cons,List.not_mem_nil,or_false] at hy
  rcases hy with rfl | rfl
  ·exact .mk h6 nil
  ·exact .mk h7 nil
theorem fits0 {k:Int} {n:Nat} {t:Bs} (h:n<18446744073709551616):(M.mk k n t 0 []).fits:=.mk h fun x hx=>by cases hx
theorem aw_TG {x:TV} (h:x.m=aw1t):TG x:=by
 refine TG_of x (h▸aw_all (fun l _=>?_) (fun l _=>?_) ?_ ?_ (fun l _=>?_) ?_ ?_)<;>exact ⟨by decide,fits0 (by decide),by decide⟩
theorem aw_SG {B:Prop} {x:TV} (h:x.m=aw1t):SG B x:=by
 have n16:∀ {k:Int},k<16→16≤k→B:=fun h1 h2=>absurd h2 (by omega)
 have n1:∀ {k:Int} {P:Prop},k≠1→k=1→P→B:=fun h1 h2=>absurd h2 h1
 have nk:∀ {k:Int},k≠5→k≠10→k≠11→k=5∨k=10∨k=11→B:=fun h1 h2 h3 h=>by rcases h with h | h | h<;>contradiction
 refine SG_of x (h▸aw_all (fun l hl=>?_) (fun l hl=>?_) ?_ ?_ (fun l hl=>?_) ?_ ?_)
 ·exact ⟨fits0 (by decide),by decide,by decide,n1 (by decide),n16 (by decide),by rw [hl]; rfl,by omega⟩
 ·exact ⟨fits0 (by decide),by decide,by decide,n1 (by decide),n16 (by decide),by rw [hl]; rfl,by omega⟩
 ·exact ⟨fits0 (by decide),by decide,by decide,n1 (by decide),n16 (by decide),rfl,by decide⟩
 ·exact ⟨fits0 (by decide),by decide,by decide,fun _=>nk (by decide) (by decide) (by decide),n16 (by decide),rfl,by decide⟩
 ·exact ⟨fits0 (by decide),by decide,by decide,n1 (by decide),n16 (by decide),by rw [hl]; rfl,by omega⟩
 ·exact ⟨fits0 (by decide),by decide,by decide,n1 (by decide),n16 (by decide),rfl,by decide⟩
 ·exact ⟨fits0 (by decide),by decide,by decide,fun _=>nk (by decide) (by decide) (by decide),n16 (by decide),rfl,by decide⟩
theorem aw_PG {x:TV} (h:x.m=aw1t):PG2 (fun _=>False) x:=by
 have key:∀ {k:Int} {t:Bs} {v:M} {l:List T},(t.length≤2^40∧v.n<18446744073709551616∧v.t.length≤2^40∧v.k≠11∧arity k l.length=true∧(k=2→t≠[])∧k≠13)→(∀ y∈l,PGm (fun _=>False) y)→PGm (fun _=>False) (.mk k t v l):=fun a b=>.mk a.1 a.2.1 a.2.2.1 (fun e=>absurd e a.2.2.2.1) a.2.2.2.2.1 a.2.2.2.2.2.1 (fun e=>absurd e a.2.2.2.2.2.2) b
 have nil:∀ y∈([]:List T),PGm (fun _=>False) y:=fun y hy=>by cases hy
 refine PG2_of x (h▸?_)
 refine key ⟨by decide,by decide,by decide,by decide,rfl,by decide,by decide⟩ fun y hy=>?_
 simp only [List.mem_cons,List.not_mem_nil,or_false] at hy
 rcases hy with rfl | rfl
 ·refine key ⟨by decide,by decide,by decide,by decide,rfl,by decide,by decide⟩ fun y hy=>?_
  simp only [List.mem_cons,List.not_mem_nil,or_false] at hy
  rcases hy with rfl | rfl
  ·exact key ⟨by decide,by decide,by decide,by decide,rfl,by decide,by decide⟩ nil
  ·exact key ⟨by decide,by decide,by decide,by decide,rfl,by decide,by decide⟩ nil
 ·refine key ⟨by decide,by decide,by decide,by decide,rfl,by decide,by decide⟩ fun y hy=>?_
  simp only [List.mem_cons,List.not_mem_nil,or_false] at hy
  rcases hy with rfl | rfl
  ·exact key ⟨by decide,by decide,by decide,by decide,rfl,by decide,by decide⟩ nil
  ·exact key ⟨by decide,by decide,by decide,by decide,rfl,by decide,by decide⟩ nil
def awMsg:Msg:=⟨false,7,-1,false,0,zeroM,[],[],[],[],zeroM,[],[],-1,.mk 22 0 [] 0 [.mk 19 0 [99,111,108,111,117,114] 0 [],.mk 19 0 [114,101,100] 0 []]⟩
theorem aw_eval:evalB (lookB awMsg) aw1t=.mk 1 1 [] 0 []:=by kernel_rfl
theorem aw_fits:fitsB (lookB awMsg) aw1t=true:=by kernel_rfl
theorem aw_els:els (escOf (-1)) (sg [114,95,100])=[.sgn [114],.any,.sgn [100]]:=by kernel_rfl
theorem aw_like:mt (els (escOf (-1)) (sg [114,95,100])) (sg [114,101,100])=true:=by
 rw [aw_els,show sg [114,101,100]=[[114],[101],[100]] by kernel_rfl]
 simp [Note.mt]
theorem aw_unlike:mt (els (escOf (-1)) (sg [114,95,100])) (sg [114,100])=false:=by
 rw [aw_els,show sg [114,100]=[[114],[100]] by kernel_rfl]
 simp [Note.mt]
def awG (k j:Nat):GV:={ blankG k with has:=true,pri:=7,app:=.mk 22 0 [] ⟨some ⟨j,0,none⟩,2,2,some j⟩ 0 [flatM 19 0 [99,111,108,111,117,114],flatM 19 0 [114,101,100]] }
theorem awG_m (k j:Nat):(awG k j).m=awMsg:=by
 have e:(awG k j).app.m=.mk 22 0 [] 0 [.mk 19 0 [99,111,108,111,117,114] 0 [],.mk 19 0 [114,101,100] 0 []]:=by
  show (MV.mk 22 0 [] ⟨some ⟨j,0,none⟩,2,2,some j⟩ 0 [flatM 19 0 [99,111,108,111,117,114],flatM 19 0 [114,101,100]]).m=_
  rw [MV.m_mk]
  simp only [List.map_cons,List.map_nil,flatM_m]
 have z:(awG k j).mid.m=zeroM:=zMV_m
 have z2:(awG k j).cor.m=zeroM:=zMV_m
 unfold GV.m
 rw [e,z,z2]
 rfl
def lookP (B:Prop) (m:M):Prop:=m.fits∧m.sz≤2^39∧(m.k=5∨m.k=10∨m.k=11→B)
theorem lookP_if {B c:Prop} [Decidable c] {a b:M} (h1:lookP B a) (h2:lookP B b):lookP B (if c then a else b):=by
 by_cases h:c
 ·rw [if_pos h]; exact h1
 ·rw [if_neg h]; exact h2
theorem lookP_flat {B:Prop} {k:Int} {n:Nat} {t:Bs} (h1:n<18446744073709551616) (h2:t.length≤2^38) (h3:k≠5) (h4:k≠10) (h5:k≠11):lookP B (.mk k n t 0 []):=by
 refine ⟨fits0 h1,?_,fun h=>?_⟩
 ·rw [M.sz_mk]; simp only [List.map_nil,List.sum_nil]; omega
 ·have h:k=5∨k=10∨k=11:=h
  omega
theorem aw_look {B:Prop} (s:Bs):lookP B (lookB awMsg s):=by
 have z:lookP B zeroM:=lookP_flat (by decide) (by decide) (by decide) (by decide) (by decide)
 have f:lookP B (findB awMsg.app (.mk 19 0 s 0 [])):=by
  have e:findB awMsg.app (.mk 19 0 s 0 [])=if (.mk 19 0 [99,111,108,111,117,114] 0 []:M)=.mk 19 0 s 0 [] then .mk 19 0 [114,101,100] 0 [] else zeroM:=rfl
  rw [e]
  exact lookP_if (lookP_flat (by decide) (by decide) (by decide) (by decide) (by decide)) z
 have n7:lookP B (.mk 2 (awMsg.pri%256).toNat [] 0 []):=lookP_flat (by decide) (by decide) (by decide) (by decide) (by decide)
 have nt:lookP B (truM false):=lookP_flat (by decide) (by decide) (by decide) (by decide) (by decide)
 have nc:lookP B (.mk 4 (awMsg.cnt%4294967296).toNat [] 0 []):=lookP_flat (by decide) (by decide) (by decide) (by decide) (by decide)
 unfold lookB
 exact lookP_if n7 <| lookP_if nt <| lookP_if nt <| lookP_if z <| lookP_if nc <| lookP_if z <| lookP_if z <| lookP_if z <| lookP_if z <| lookP_if z <| lookP_if z <| lookP_if z <| lookP_if z <| lookP_if z f
theorem aw_GG {B:Prop} (k j:Nat):GG B (awG k j):=by
 refine ⟨?_,?_,?_,fun s=>by rw [awG_m]; exact aw_look s⟩
 ·show (zMV).m.sz≤_; rw [zMV_m]; decide
 ·show (zMV).m.sz≤_; rw [zMV_m]; decide
 ·have e:(awG k j).app.m=awMsg.app:=congrArg Msg.app (awG_m k j)
  rw [e]; decide
theorem fNo:FFok (fun _=>False) (fun _=>[]):=fun x h=>h.elim
end Go.Proofs.YtnmlmicmhpkbeaaGreatDoor
namespace Go.Sv
open Go Go.ChangeShapes Go.WideShapes Go.ChangeAt Go.RowKit
set_option linter.unusedVariables false
section
variable {H:Type} {enc:TypeId × Value→H}
theorem law_contractT {C:Checked} {f:FuncId} {fn:Func} {s:ChangeSpec} {tb:TypeId} (M:Measure C.prog H)
 (hl:laidOutB C.prog=true) (hvars:s.vars=[]) (hfun:∀ ds:List (DataW H),ds.length=fn.params.toList.length→s.fn H ds={ results:=[.lit (.bool true)],args:=ds })
 (hres:fn.resultTypes=#[tb]) (htb:C.prog.underlying tb=some .bool) (hrec:fn.params.toList.all (fun t=>C.prog.readableRec t && decide (t<C.prog.types.size))=true)
 {W:World} {base:Nat} {args:Array Value} {ds gs:List (DataW H)} {before:List MemPlace}
 (hval:∀ (j:Nat) t v,fn.params[j]?=some t→args[j]?=some v→Value.okWide C.prog W .any base t v)
 (hW:DataW.Whole enc C.prog fn.params.toList s.vars false W args.toList ds gs before) (hgood:∀ d∈ds,∀ t,M.good t d)
 (walk:∀ ps,DataW.TrodAll enc C.prog W 0 (fun _=>true) true fn.params.toList args.toList ds ps→InpAll C.prog W M.ok fn.params.toList args.toList→callP C.prog f args.toList W fun v w'=>v=.bool true∧Ch (fun _=>False) W w') :
 Calls C.prog f args W fun e W'=>∃ v,e=.returned v∧s.post enc C.prog fn false true false false W args v W':=by
 have hA':=hW
 obtain ⟨p,q,hA,hV,hbef,hfz,hnd⟩:=hA'
 exact law_contract M hl hvars hfun hres htb hrec hval hW (fun j t d ht hd=>hgood d (List.mem_of_getElem? hd) t) (walk p hA)
theorem lift_laidT {C:Checked} {os:Os} (started:os.Started) {f:FuncId} {fn:Func} {s:ChangeSpec} {o:OpenSpec} {k:(H:Type)→List (DataW H)→Bool} (M:Measure C.prog H) {dom:List PathCond} {laid:List (String × DataW Unit)} {tb:TypeId} {F:Stop.Interp}
 (ho:o={ OpenSpec.ofChange s with cond:=some k }) (hM:∀ ds:List (DataW H),k H ds=true→∀ d∈ds,∀ t,M.good t d)
 (own:ownKnob C.prog.godebug=none) (hl:laidOutB C.prog=true) (noInit:C.prog.inits.idxOf? f=none) (hfn:C.prog.funcs[f]?=some fn)
 (witness:∃ (w:World) (tape:Tape) (i:Input),w.os=os∧(w.forCall tape i).Shaped C.prog∧i.vars=[]∧Input.okWide C.prog (w.forCall tape i) .any w.heap.size f i ∧
   o.preRow enc C.prog fn dom false laid (w.forCall tape i).memory i.args∧({}:Assume).holds C.prog (lone (Frame.enter C.prog f i.args .normal) [] (w.forCall tape i)))
 (hvars:s.vars=[]) (hfun:∀ ds:List (DataW H),ds.length=fn.params.toList.length→s.fn H ds={ results:=[.lit (.bool true)],args:=ds })
 (hres:fn.resultTypes=#[tb]) (htb:C.prog.underlying tb=some .bool) (hrec:fn.params.toList.all (fun t=>C.prog.readableRec t && decide (t<C.prog.types.size))=true)
 (walk:∀ (W:World) (args:Array Value) (ds:List (DataW H)) ps,laidMetH C.prog laid W→(∀ d∈ds,∀ t,M.good t d)→DataW.TrodAll enc C.prog W 0 (fun _=>true) true fn.params.toList args.toList ds ps→InpAll C.prog W M.ok fn.params.toList args.toList →
   callP C.prog f args.toList W fun v w'=>v=.bool true∧Ch (fun _=>False) W w') :
 ReturnsInHanded {} C os f .any (o.preRow enc C.prog fn dom false laid) ((o.at F).post enc C.prog fn false true false false):=by
 subst ho
 refine returnsInHanded_of_row own started noInit hfn witness ?_
 intro W base args ds gs before hval hW _ hk _ hL _ _
 have hg:∀ d∈ds,∀ t,M.good t d:=fun d hd t=>hM _ (hk k rfl) d (List.mem_append.2 (.inl hd)) t
 exact law_contractT M hl hvars hfun hres htb hrec hval hW hg fun ps=>walk W args ds ps hL hg
end
end Go.Sv
namespace Go.Proofs.YtnmlmicmhpkbeaaGreatDoor
open Go Go.Sv Go.Note Go.ChangeShapes
set_option linter.unusedVariables false
set_option maxRecDepth 100000
section
variable {H:Type} {enc:TypeId × Value→H} {w:World} {base:Nat}
theorem trodAll_cons {P:Program} {t:TypeId} {ts:List TypeId} {v:Value} {vs:List Value} {ds:List (DataW H)} {ps:List MemPlace} (h:DataW.TrodAll enc P w 0 (fun _=>true) true (t::ts) (v::vs) ds ps) :
 ∃ d ds' p ps',ds=d::ds'∧(∃ fuel,DataW.trod enc P w 0 (fun _=>true) true fuel t v.cells.toList=some (d,p))∧DataW.TrodAll enc P w 0 (fun _=>true) true ts vs ds' ps':=by
 cases ds with
 | nil=>exact h.elim
 | cons d ds =>
  obtain ⟨p,q,h1,h2,_⟩:=h
  exact ⟨d,ds,p,q,rfl,h1,h2⟩
theorem bulkAll_sum (l:List (DataW H)):Rows.uptoBulkAll l=(l.map Rows.uptoBulk).sum:=by
 induction l with
 | nil=>rfl
 | cons x l ih=>simp [Rows.uptoBulkAll,ih]
theorem sum_le_of:∀ {a b:List Nat},a.length=b.length→(∀ (i:Nat) x y,a[i]?=some x→b[i]?=some y→x≤y)→a.sum≤b.sum
 | [],[],_,_=>Nat.le_refl _
 | x::a,y::b,h,h2=>by
  have h3:=h2 0 x y rfl rfl
  have h4:=sum_le_of (a:=a) (b:=b) (by simpa using h) fun i x y hx hy=>h2 (i+1) x y hx hy
  simp only [List.sum_cons]; omega
 | [],_::_,h,_=>by simp at h
 | _::_,[],h,_=>by simp at h
theorem str_back (s:ByteArray):(⟨s.data.toList.toArray⟩:ByteArray)=s:=by
 apply ByteArray.ext
 simp
theorem bulk_agg (xs:List (DataW H × List MemPlace)):Rows.uptoBulk (DataW.agg (xs.map (·.1)))=(xs.map fun x=>Rows.uptoBulk x.1).sum+1:=by
 rw [show Rows.uptoBulk (DataW.agg (xs.map (·.1)))=Rows.uptoBulkAll (xs.map (·.1))+1 from rfl,bulkAll_sum,List.map_map]; rfl
theorem list_of_trod {ts te:TypeId} {sz:Nat} {α:Type} {g:α→List Value} {P:α→Prop} {μ:α→Nat} (ht:Tryz.prog.underlying ts=some (.slice te)) (hsz:Tryz.prog.cellsOf te=sz) (hs0:0<sz) (hg:∀ x,(g x).length=sz) {m:Nat} {c:Value} {x:DataW H × List MemPlace}
 (h:DataW.trod enc Tryz.prog w base (fun _=>true) true m ts [c]=some x) (hB:Rows.uptoBulk x.1≤1048576)
 (each:∀ m'<m,∀ cs y,DataW.trod enc Tryz.prog w base (fun _=>true) true m' te cs=some y→Rows.uptoBulk y.1≤1048576→∃ v,cs=g v∧P v∧μ v≤Rows.uptoBulk y.1) :
 ∃ (p:Option Addr) (n k:Nat) (L:List α),c=.slice p n k∧n≤k∧L.length=n∧n≤1048576∧Rd w p n sz (L.flatMap g)∧(∀ x∈L,P x)∧(L.map μ).sum+1≤Rows.uptoBulk x.1:=by
 rcases DataW.trod_slice ht h with ⟨e,rfl⟩ | ⟨a,len,cap,elems,rest,m',rfl,e3,rfl,hbb,hl,hmx,hlen,hel,hsp,hns⟩
 ·obtain rfl:=List.singleton_inj.1 e
  exact ⟨none,0,0,[],rfl,Nat.le_refl _,rfl,by omega,⟨by simp,.inl (by simp)⟩,by simp,by show 0+1≤1; omega⟩
 ·obtain rfl:=List.singleton_inj.1 e3
  have hbs:Rows.uptoBulk (DataW.slice (elems.map (·.1)) (rest.map (·.1)))=Rows.uptoBulkAll (elems.map (·.1))+Rows.uptoBulkAll (rest.map (·.1))+1:=rfl
  have hB:Rows.uptoBulk (DataW.slice (elems.map (·.1)) (rest.map (·.1)))≤1048576:=hB
  rw [hbs] at hB
  have hbl:=bulk_len (elems.map (·.1))
  rw [List.length_map] at hbl
  have one:∀ i,i<len→∃ v:α,w.cells? base (a.add (i*sz)) sz=some (g v)∧P v∧∀ y,(elems.map (·.1))[i]?=some y→μ v≤Rows.uptoBulk y:=fun i hi=>by
   have h1:=hel i hi
   have h2:elems[i]?=some (elems[i]'(by omega)):=List.getElem?_eq_getElem (by omega)
   rw [h2,hsz] at h1
   cases hc:w.cells? base (a.add (i*sz)) sz with
   | none=>rw [hc] at h1; cases h1
   | some cs' =>
    rw [hc] at h1
    have hm:(elems[i]'(by omega)).1∈elems.map (·.1):=List.mem_map.2 ⟨_,List.mem_of_getElem? h2,rfl⟩
    have hp:=bulk_part hm
    obtain ⟨v,rfl,q3,q4⟩:=each m' (by omega) cs' _ h1 (by omega)
    exact ⟨v,rfl,q3,fun y hy=>by rw [List.getElem?_map,h2] at hy; cases hy; exact q4⟩
  obtain ⟨L,hLl,hL⟩:∃ L:List α,L.length=len∧∀ i (v:α),L[i]?=some v→w.cells? base (a.add (i*sz)) sz=some (g v)∧P v∧∀ y,(elems.map (·.1))[i]?=some y→μ v≤Rows.uptoBulk y:=by
   clear hel hlen hB hbl hbs h
   have key:∀ k,k≤len→∃ L:List α,L.length=k∧∀ i (v:α),L[i]?=some v→w.cells? base (a.add (i*sz)) sz=some (g v)∧P v∧∀ y,(elems.map (·.1))[i]?=some y→μ v≤Rows.uptoBulk y:=by
    intro k
    induction k with
    | zero=>exact fun _=>⟨[],rfl,fun i v hv=>by simp at hv⟩
    | succ k ih =>
     intro hk
     obtain ⟨L,hl,hL⟩:=ih (by omega)
     obtain ⟨v,hv⟩:=one k (by omega)
     refine ⟨L++[v],by simp [hl],fun i u hu=>?_⟩
     by_cases hi:i<k
     ·rw [List.getElem?_append_left (by omega)] at hu
      exact hL i u hu
     ·rw [List.getElem?_append_right (by omega)] at hu
      have hi0:i-L.length=0:=by
       have:=(List.getElem?_eq_some_iff.1 hu).1
       simp at this; omega
      rw [hi0] at hu
      cases hu
      rw [show i=k by omega]
      exact hv
   exact key len (Nat.le_refl _)
  refine ⟨some a,len,cap,L,rfl,hl,hLl,by omega,?_,fun x hx=>?_,?_⟩
  ·have hll:(L.flatMap g).length=len*sz:=by rw [flat_len hg,hLl]
   refine rd_of_cells hll fun i hi=>?_
   have hdm:=Nat.div_add_mod i sz
   have hil:i / sz<len:=Nat.div_lt_of_lt_mul (by rw [Nat.mul_comm]; exact hi)
   have hj:i%sz<sz:=Nat.mod_lt _ hs0
   have h1:L[i / sz]?=some (L[i / sz]'(by omega)):=List.getElem?_eq_getElem _
   have h3:=(World.cells?_some (hL _ _ h1).1).2.2 (i%sz) hj
   rw [Deep.add_add,Nat.mul_comm,hdm] at h3
   rw [h3]
   have h4:=flatten_get (sz:=sz) (L.map g) (fun x hx=>by obtain ⟨y,_,rfl⟩:=List.mem_map.1 hx; exact hg y) (i / sz) (i%sz) hj
   rw [Nat.mul_comm,hdm] at h4
   rw [List.flatMap_def,h4,List.getElem?_map,h1]; rfl
  ·obtain ⟨i,hi⟩:=List.getElem?_of_mem hx
   exact (hL i x hi).2.1
  ·show _≤Rows.uptoBulk (DataW.slice (elems.map (·.1)) (rest.map (·.1)))
   rw [hbs]
   have:(L.map μ).sum≤Rows.uptoBulkAll (elems.map (·.1)):=by
    rw [bulkAll_sum]
    refine sum_le_of (by simp [hLl,hlen]) fun i x y hx hy=>?_
    rw [List.getElem?_map] at hx hy
    obtain ⟨v,hv,rfl⟩:=Option.map_eq_some_iff.1 hx
    obtain ⟨d,hd,rfl⟩:=Option.map_eq_some_iff.1 hy
    exact (hL i v hv).2.2 d hd
   omega
theorem val_of_trod:∀ (fuel:Nat) (cs:List Value) (x:DataW H × List MemPlace),DataW.trod enc Tryz.prog w base (fun _=>true) true fuel 25 cs=some x→Rows.uptoBulk x.1≤1048576 →
 ∃ v:MV,cs=v.g∧(VR (fun _=>True) w v∧v.m.fits)∧v.m.sz≤Rows.uptoBulk x.1:=by
 intro fuel
 induction fuel using Nat.strongRecOn with
 | _ fuel ih =>
  intro cs x h hb
  obtain ⟨xs,m,rfl,rfl,hcl,hxl,hf⟩:=DataW.trod_struct Tryz.underlying25 h
  have hc5:Tryz.prog.cellsOf 25=5:=by kernel_rfl
  rw [hc5] at hcl
  match cs,hcl with
  | [c0,c1,c2,c3,c4],_ =>
   match xs,hxl with
   | [x0,x1,x2,x3,x4],_ =>
    have f0:DataW.trod enc Tryz.prog w base (fun _=>true) true m 3 [c0]=some x0:=hf 0 _ rfl
    have f1:DataW.trod enc Tryz.prog w base (fun _=>true) true m 22 [c1]=some x1:=hf 1 _ rfl
    have f2:DataW.trod enc Tryz.prog w base (fun _=>true) true m 9 [c2]=some x2:=hf 2 _ rfl
    have f3:DataW.trod enc Tryz.prog w base (fun _=>true) true m 23 [c3]=some x3:=hf 3 _ rfl
    have f4:DataW.trod enc Tryz.prog w base (fun _=>true) true m 3 [c4]=some x4:=hf 4 _ rfl
    obtain ⟨n0,e0,rfl,w0⟩:=DataW.trod_int Tryz.underlying3 f0
    obtain ⟨n1,e1,rfl,w1⟩:=DataW.trod_int Tryz.underlying22 f1
    obtain ⟨s2,e2,rfl,w2⟩:=DataW.trod_string Tryz.underlying9 f2
    obtain ⟨n4,e4,rfl,w4⟩:=DataW.trod_int Tryz.underlying3 f4
    obtain rfl:=List.singleton_inj.1 e0
    obtain rfl:=List.singleton_inj.1 e1
    obtain rfl:=List.singleton_inj.1 e2
    obtain rfl:=List.singleton_inj.1 e4
    have hn1:0≤n1∧n1≤18446744073709551615:=by simpa [Lit.wf,IntKind.has,IntKind.min,IntKind.max,IntKind.signed,IntKind.bits] using w1
    obtain ⟨u,rfl⟩:∃ u:Nat,n1=(u:Int):=⟨n1.toNat,by omega⟩
    have hb':Rows.uptoBulk (DataW.agg (List.map (fun x=>x.1) [((DataW.lit (Lit.int .i64 n0):DataW H),([]:List MemPlace)),(.lit (.int .u64 (u:Int)),[]),(.lit (.string s2.data.toList),[]),x3,(.lit (.int .i64 n4),[])]))=1+(1+(s2.data.toList.length+1+(Rows.uptoBulk x3.1+(1+0))))+1:=rfl
    have hb3:1+(1+(s2.data.toList.length+1+(Rows.uptoBulk x3.1+(1+0))))+1≤1048576:=by rw [← hb']; exact hb
    obtain ⟨p,n,k,L,rfl,hnk,hLl,hn,hrd,hall,hsum⟩:=list_of_trod (g:=MV.g) (P:=fun v=>VR (fun _=>True) w v∧v.m.fits) (μ:=fun v=>v.m.sz) Tryz.underlying23 hc5 (by decide) MV.glen f3 (by omega) fun m' hm' cs y h hb=>ih m' (by omega) cs y h hb
    refine ⟨.mk n0 u s2.data.toList ⟨p,n,k,none⟩ n4 L,?_,⟨.mk hLl (by show n≤_; omega) hrd (fun _ _ _=>trivial) fun x hx=>(hall x hx).1,?_⟩,?_⟩
    ·show _=[Value.int .i64 n0,.int .u64 (u:Int),.string ⟨s2.data.toList.toArray⟩,.slice p n k,.int .i64 n4]
     rw [str_back]
    ·rw [MV.m_mk]
     refine .mk (by omega) fun x hx=>?_
     obtain ⟨y,hy,rfl⟩:=List.mem_map.1 hx
     exact (hall y hy).2
    ·refine Nat.le_trans ?_ (Nat.le_of_eq hb'.symm)
     rw [MV.m_mk,M.sz_mk,List.map_map]
     have:((L.map (M.sz ∘ MV.m)).sum)=(L.map fun v=>v.m.sz).sum:=rfl
     omega
def bndT (k:Int) (t:Bs) (v:M) (l:List T):Prop:=v.fits∧v.sz≤1048576∧t.length≤1048576∧l.length≤1048576
theorem term_of_trod:∀ (fuel:Nat) (cs:List Value) (x:DataW H × List MemPlace),DataW.trod enc Tryz.prog w base (fun _=>true) true fuel 28 cs=some x→Rows.uptoBulk x.1≤1048576 →
 ∃ v:TV,cs=v.g∧(TR (fun _=>True) w v∧Tall bndT v.m)∧v.m.sz≤Rows.uptoBulk x.1:=by
 intro fuel
 induction fuel using Nat.strongRecOn with
 | _ fuel ih =>
  intro cs x h hb
  obtain ⟨xs,m,rfl,rfl,hcl,hxl,hf⟩:=DataW.trod_struct Tryz.underlying28 h
  have hc8:Tryz.prog.cellsOf 28=8:=by kernel_rfl
  rw [hc8] at hcl
  match cs,hcl with
  | [c0,c1,c2,c3,c4,c5,c6,c7],_ =>
   match xs,hxl with
   | [x0,x1,x2,x3],_ =>
    have f0:DataW.trod enc Tryz.prog w base (fun _=>true) true m 3 [c0]=some x0:=hf 0 _ rfl
    have f1:DataW.trod enc Tryz.prog w base (fun _=>true) true m 9 [c1]=some x1:=hf 1 _ rfl
    have f2:DataW.trod enc Tryz.prog w base (fun _=>true) true m 25 [c2,c3,c4,c5,c6]=some x2:=hf 2 _ rfl
    have f3:DataW.trod enc Tryz.prog w base (fun _=>true) true m 26 [c7]=some x3:=hf 3 _ rfl
    obtain ⟨n0,e0,rfl,w0⟩:=DataW.trod_int Tryz.underlying3 f0
    obtain ⟨s1,e1,rfl,w1⟩:=DataW.trod_string Tryz.underlying9 f1
    obtain rfl:=List.singleton_inj.1 e0
    obtain rfl:=List.singleton_inj.1 e1
    have hb':Rows.uptoBulk (DataW.agg (List.map (fun x=>x.1) [((DataW.lit (Lit.int .i64 n0):DataW H),([]:List MemPlace)),(.lit (.string s1.data.toList),[]),x2,x3]))=1+(s1.data.toList.length+1+(Rows.uptoBulk x2.1+(Rows.uptoBulk x3.1+0)))+1:=rfl
    have hb3:1+(s1.data.toList.length+1+(Rows.uptoBulk x2.1+(Rows.uptoBulk x3.1+0)))+1≤1048576:=by rw [← hb']; exact hb
    obtain ⟨v,hv,⟨hv1,hv2⟩,hv3⟩:=val_of_trod m _ _ f2 (by omega)
    obtain ⟨p,n,k,L,rfl,hnk,hLl,hn,hrd,hall,hsum⟩:=list_of_trod (g:=TV.g) (P:=fun v=>TR (fun _=>True) w v∧Tall bndT v.m) (μ:=fun v=>v.m.sz) Tryz.underlying26 hc8 (by decide) TV.glen f3 (by omega) fun m' hm' cs y h hb=>ih m' (by omega) cs y h hb
    refine ⟨.mk n0 s1.data.toList v ⟨p,n,k,none⟩ L,?_,⟨.mk hv1 hLl (by show n≤_; omega) hnk hrd (fun _ _ _=>trivial) fun x hx=>(hall x hx).1,?_⟩,?_⟩
    ·have e:v.g=[.int .i64 v.k,.int .u64 (v.n:Int),.string ⟨v.t.toArray⟩,.slice v.s.p v.s.n v.s.c,.int .i64 v.e]:=by cases v; rfl
     rw [e] at hv
     simp only [List.cons.injEq,and_true] at hv
     obtain ⟨rfl,rfl,rfl,rfl,rfl⟩:=hv
     show _=[Value.int .i64 n0,.string ⟨s1.data.toList.toArray⟩,.int .i64 v.k,.int .u64 (v.n:Int),.string ⟨v.t.toArray⟩,.slice v.s.p v.s.n v.s.c,.int .i64 v.e,.slice p n k]
     rw [str_back]
    ·rw [TV.m_mk]
     refine .mk ⟨hv2,by omega,by omega,by rw [List.length_map]; omega⟩ fun x hx=>?_
     obtain ⟨y,hy,rfl⟩:=List.mem_map.1 hx
     exact (hall y hy).2
    ·refine Nat.le_trans ?_ (Nat.le_of_eq hb'.symm)
     rw [TV.m_mk,T.sz,T.szL_sum,List.map_map]
     have:((L.map (T.sz ∘ TV.m)).sum)=(L.map fun v=>v.m.sz).sum:=rfl
     omega
structure GB (g:GV):Prop where
 da:g.da.m.fits∧g.da.m.sz≤1048576
 ma:g.ma.m.fits∧g.ma.m.sz≤1048576
 mid:g.mid.m.fits∧g.mid.m.sz≤1048576
 cor:g.cor.m.fits∧g.cor.m.sz≤1048576
 app:g.app.m.fits∧g.app.m.sz≤1048576
 val:g.val.m.fits∧g.val.m.sz≤1048576
 foot:g.foot.m.fits∧g.foot.m.sz≤1048576
 sl:∀ x∈g.sl,x.m.fits∧x.m.sz≤1048576
 sn:g.sn≤1048576
 dn:g.dn≤1048576
 str:g.usr.length≤1048576∧g.to9.length≤1048576∧g.sub.length≤1048576∧g.rep.length≤1048576∧g.typ.length≤1048576∧g.grp.length≤1048576
theorem drop_cut {α:Type} (l:List α) (o n:Nat):l.drop o=(l.drop o).take n++l.drop (o+n):=by
 rw [← List.drop_drop,List.take_append_drop]
theorem strs_of_trod {m:Nat} {cs:List Value} {y:DataW H × List MemPlace} (h:DataW.trod enc Tryz.prog w base (fun _=>true) true m 9 cs=some y):∃ s:Bs,cs=[strV s]∧s.length+1=Rows.uptoBulk y.1:=by
 obtain ⟨s,e,rfl,_⟩:=DataW.trod_string Tryz.underlying9 h
 exact ⟨s.data.toList,by rw [e]; unfold strV; rw [str_back],rfl⟩
theorem flat_strV (D:List Bs):D.flatMap (fun s:Bs=>[strV s])=D.map strV:=by
 induction D with
 | nil=>rfl
 | cons x l ih=>rw [List.flatMap_cons,ih]; rfl
theorem msg_of_trod {fuel:Nat} {cs:List Value} {x:DataW H × List MemPlace} (h:DataW.trod enc Tryz.prog w base (fun _=>true) true fuel 43 cs=some x) (hb:Rows.uptoBulk x.1≤1048576) :
 ∃ g:GV,cs=g.g∧GR (fun _=>True) w g∧GB g:=by
 obtain ⟨xs,m,rfl,rfl,hcl,hxl,hf⟩:=DataW.trod_struct Tryz.underlying43 h
 have hc:Tryz.prog.cellsOf 43=56:=by kernel_rfl
 have hc5:Tryz.prog.cellsOf 25=5:=by kernel_rfl
 have hc1:Tryz.prog.cellsOf 9=1:=by kernel_rfl
 rw [hc] at hcl
 rw [bulk_agg] at hb
 match xs,hxl with
 | [x0,x1,x2,x3,x4,x5,x6,x7,x8,x9],_ =>
  simp only [List.map_cons,List.map_nil,List.sum_cons,List.sum_nil] at hb
  have f0:DataW.trod enc Tryz.prog w base (fun _=>true) true m 38 ((cs.drop 0).take 6)=some x0:=hf 0 _ rfl
  have f1:DataW.trod enc Tryz.prog w base (fun _=>true) true m 25 ((cs.drop 6).take 5)=some x1:=hf 1 _ rfl
  have f2:DataW.trod enc Tryz.prog w base (fun _=>true) true m 25 ((cs.drop 11).take 5)=some x2:=hf 2 _ rfl
  have f3:DataW.trod enc Tryz.prog w base (fun _=>true) true m 40 ((cs.drop 16).take 22)=some x3:=hf 3 _ rfl
  have f4:DataW.trod enc Tryz.prog w base (fun _=>true) true m 25 ((cs.drop 38).take 5)=some x4:=hf 4 _ rfl
  have f5:DataW.trod enc Tryz.prog w base (fun _=>true) true m 3 ((cs.drop 43).take 1)=some x5:=hf 5 _ rfl
  have f6:DataW.trod enc Tryz.prog w base (fun _=>true) true m 41 ((cs.drop 44).take 1)=some x6:=hf 6 _ rfl
  have f7:DataW.trod enc Tryz.prog w base (fun _=>true) true m 23 ((cs.drop 45).take 1)=some x7:=hf 7 _ rfl
  have f8:DataW.trod enc Tryz.prog w base (fun _=>true) true m 25 ((cs.drop 46).take 5)=some x8:=hf 8 _ rfl
  have f9:DataW.trod enc Tryz.prog w base (fun _=>true) true m 25 ((cs.drop 51).take 5)=some x9:=hf 9 _ rfl
  have kp3:Rows.uptoBulk x3.1≤1048576:=by omega
  have hcs:cs=(cs.drop 0).take 6++((cs.drop 6).take 5++((cs.drop 11).take 5++((cs.drop 16).take 22++((cs.drop 38).take 5++((cs.drop 43).take 1++((cs.drop 44).take 1++((cs.drop 45).take 1++((cs.drop 46).take 5++(cs.drop 51).take 5)))))))):=by
   have last:(cs.drop 51).take 5=cs.drop 51:=List.take_of_length_le (by rw [List.length_drop]; omega)
   rw [last,← drop_cut cs 46 5,← drop_cut cs 45 1,← drop_cut cs 44 1,← drop_cut cs 43 1,← drop_cut cs 38 5,← drop_cut cs 16 22,← drop_cut cs 11 5,← drop_cut cs 6 5,← drop_cut cs 0 6,List.drop_zero]
  obtain ⟨v1,e1,⟨r1,t1⟩,z1⟩:=val_of_trod m _ _ f1 (by omega)
  obtain ⟨v2,e2,⟨r2,t2⟩,z2⟩:=val_of_trod m _ _ f2 (by omega)
  obtain ⟨v4,e4,⟨r4,t4⟩,z4⟩:=val_of_trod m _ _ f4 (by omega)
  obtain ⟨v8,e8,⟨r8,t8⟩,z8⟩:=val_of_trod m _ _ f8 (by omega)
  obtain ⟨v9,e9,⟨r9,t9⟩,z9⟩:=val_of_trod m _ _ f9 (by omega)
  have z1:v1.m.sz≤1048576:=by omega
  have z2:v2.m.sz≤1048576:=by omega
  have z4:v4.m.sz≤1048576:=by omega
  have z8:v8.m.sz≤1048576:=by omega
  have z9:v9.m.sz≤1048576:=by omega
  obtain ⟨n5,e5,rfl,_⟩:=DataW.trod_int Tryz.underlying3 f5
  obtain ⟨c6,hc6⟩:∃ c6,(cs.drop 44).take 1=[c6]:=List.length_eq_one_iff.1 (by rw [List.length_take,List.length_drop]; omega)
  obtain ⟨c7,hc7⟩:∃ c7,(cs.drop 45).take 1=[c7]:=List.length_eq_one_iff.1 (by rw [List.length_take,List.length_drop]; omega)
  rw [hc6] at f6
  rw [hc7] at f7
  obtain ⟨dp,dn,dk,D,rfl,hdk,hDl,hdn,hDr,_,_⟩:=list_of_trod (g:=fun s:Bs=>[strV s]) (P:=fun _=>True) (μ:=fun _=>0) Tryz.underlying41 hc1 (by decide) (fun _=>rfl) f6 (by omega) fun m' hm' cs y h hb=>by
   obtain ⟨s,h1,_⟩:=strs_of_trod h
   exact ⟨s,h1,trivial,Nat.zero_le _⟩
  obtain ⟨sp,sn,sk,S,rfl,hsk,hSl,hsn,hSr,hSall,hSsum⟩:=list_of_trod (g:=MV.g) (P:=fun v=>(VR (fun _=>True) w v∧v.m.fits)∧v.m.sz≤1048576) (μ:=fun v=>v.m.sz) Tryz.underlying23 hc5 (by decide) MV.glen f7 (by omega) fun m' hm' cs y h hb=>by
   obtain ⟨v,h1,h2,h3⟩:=val_of_trod m' cs y h hb
   exact ⟨v,h1,⟨h2,by omega⟩,h3⟩
  -- the header
  obtain ⟨ys,m2,e0,rfl,hcl0,hyl,hg⟩:=DataW.trod_struct Tryz.underlying38 f0
  obtain ⟨zs,m3,e3,rfl,hcl3,hzl,hh⟩:=DataW.trod_struct Tryz.underlying40 f3
  generalize (cs.drop 0).take 6=hd at *
  generalize (cs.drop 16).take 22=pr at *
  have hcl0:hd.length=6:=by rw [hcl0]; kernel_rfl
  have hcl3:pr.length=22:=by rw [hcl3]; kernel_rfl
  have kp3:Rows.uptoBulk (DataW.agg (zs.map (·.1)))≤1048576:=kp3
  rw [bulk_agg] at kp3
  clear hb
  match ys,hyl with
  | [y0,y1,y2,y3,y4,y5],_ =>
   match zs,hzl with
   | [u0,u1,u2,u3,u4,u5,u6,u7,u8,u9,u10,u11,u12,u13],_ =>
    match hd,hcl0 with
    | [h0,h1,h2,h3,h4,h5],_ =>
     have g0:DataW.trod enc Tryz.prog w base (fun _=>true) true m2 4 [h0]=some y0:=hg 0 _ rfl
     have g1:DataW.trod enc Tryz.prog w base (fun _=>true) true m2 4 [h1]=some y1:=hg 1 _ rfl
     have g2:DataW.trod enc Tryz.prog w base (fun _=>true) true m2 3 [h2]=some y2:=hg 2 _ rfl
     have g3:DataW.trod enc Tryz.prog w base (fun _=>true) true m2 3 [h3]=some y3:=hg 3 _ rfl
     have g4:DataW.trod enc Tryz.prog w base (fun _=>true) true m2 4 [h4]=some y4:=hg 4 _ rfl
     have g5:DataW.trod enc Tryz.prog w base (fun _=>true) true m2 3 [h5]=some y5:=hg 5 _ rfl
     obtain ⟨b0,k0,_⟩:=DataW.trod_bool Tryz.underlying4 g0
     obtain ⟨b1,k1,_⟩:=DataW.trod_bool Tryz.underlying4 g1
     obtain ⟨i2,k2,_,_⟩:=DataW.trod_int Tryz.underlying3 g2
     obtain ⟨i3,k3,_,_⟩:=DataW.trod_int Tryz.underlying3 g3
     obtain ⟨b4,k4,_⟩:=DataW.trod_bool Tryz.underlying4 g4
     obtain ⟨i5,k5,_,_⟩:=DataW.trod_int Tryz.underlying3 g5
     obtain rfl:=List.singleton_inj.1 k0
     obtain rfl:=List.singleton_inj.1 k1
     obtain rfl:=List.singleton_inj.1 k2
     obtain rfl:=List.singleton_inj.1 k3
     obtain rfl:=List.singleton_inj.1 k4
     obtain rfl:=List.singleton_inj.1 k5
     match pr,hcl3 with
     | [p0,p1,p2,p3,p4,p5,p6,p7,p8,p9,p10,p11,p12,p13,p14,p15,p16,p17,p18,p19,p20,p21],_ =>
      simp only [List.map_cons,List.map_nil,List.sum_cons,List.sum_nil] at kp3
      have q0:DataW.trod enc Tryz.prog w base (fun _=>true) true m3 4 [p0]=some u0:=hh 0 _ rfl
      have q1:DataW.trod enc Tryz.prog w base (fun _=>true) true m3 25 [p1,p2,p3,p4,p5]=some u1:=hh 1 _ rfl
      have q2:DataW.trod enc Tryz.prog w base (fun _=>true) true m3 9 [p6]=some u2:=hh 2 _ rfl
      have q3:DataW.trod enc Tryz.prog w base (fun _=>true) true m3 9 [p7]=some u3:=hh 3 _ rfl
      have q4:DataW.trod enc Tryz.prog w base (fun _=>true) true m3 9 [p8]=some u4:=hh 4 _ rfl
      have q5:DataW.trod enc Tryz.prog w base (fun _=>true) true m3 9 [p9]=some u5:=hh 5 _ rfl
      have q6:DataW.trod enc Tryz.prog w base (fun _=>true) true m3 25 [p10,p11,p12,p13,p14]=some u6:=hh 6 _ rfl
      have q7:DataW.trod enc Tryz.prog w base (fun _=>true) true m3 9 [p15]=some u7:=hh 7 _ rfl
      have q8:DataW.trod enc Tryz.prog w base (fun _=>true) true m3 9 [p16]=some u8:=hh 8 _ rfl
      have q9:DataW.trod enc Tryz.prog w base (fun _=>true) true m3 3 [p17]=some u9:=hh 9 _ rfl
      have q10:DataW.trod enc Tryz.prog w base (fun _=>true) true m3 3 [p18]=some u10:=hh 10 _ rfl
      have q11:DataW.trod enc Tryz.prog w base (fun _=>true) true m3 9 [p19]=some u11:=hh 11 _ rfl
      have q12:DataW.trod enc Tryz.prog w base (fun _=>true) true m3 3 [p20]=some u12:=hh 12 _ rfl
      have q13:DataW.trod enc Tryz.prog w base (fun _=>true) true m3 9 [p21]=some u13:=hh 13 _ rfl
      obtain ⟨o0,l0,_⟩:=DataW.trod_bool Tryz.underlying4 q0
      obtain ⟨a1,d1,⟨ra,ta⟩,za⟩:=val_of_trod m3 _ _ q1 (by omega)
      obtain ⟨o2,l2,z2'⟩:=strs_of_trod q2
      obtain ⟨o3,l3,z3'⟩:=strs_of_trod q3
      obtain ⟨o4,l4,z4'⟩:=strs_of_trod q4
      obtain ⟨o5,l5,z5'⟩:=strs_of_trod q5
      obtain ⟨a6,d6,⟨rb,tb⟩,zb⟩:=val_of_trod m3 _ _ q6 (by omega)
      obtain ⟨o7,l7,z7'⟩:=strs_of_trod q7
      obtain ⟨o8,l8,z8'⟩:=strs_of_trod q8
      obtain ⟨o9,l9,_,_⟩:=DataW.trod_int Tryz.underlying3 q9
      obtain ⟨o10,l10,_,_⟩:=DataW.trod_int Tryz.underlying3 q10
      obtain ⟨o11,l11,z11'⟩:=strs_of_trod q11
      obtain ⟨o12,l12,_,_⟩:=DataW.trod_int Tryz.underlying3 q12
      obtain ⟨o13,l13,z13'⟩:=strs_of_trod q13
      obtain rfl:=List.singleton_inj.1 l0
      obtain rfl:=List.singleton_inj.1 l2
      obtain rfl:=List.singleton_inj.1 l3
      obtain rfl:=List.singleton_inj.1 l4
      obtain rfl:=List.singleton_inj.1 l5
      obtain rfl:=List.singleton_inj.1 l7
      obtain rfl:=List.singleton_inj.1 l8
      obtain rfl:=List.singleton_inj.1 l9
      obtain rfl:=List.singleton_inj.1 l10
      obtain rfl:=List.singleton_inj.1 l11
      obtain rfl:=List.singleton_inj.1 l12
      obtain rfl:=List.singleton_inj.1 l13
      refine ⟨⟨b0,b1,i2,i3,b4,i5,v1,v2,o0,a1,o2,o3,o4,o5,a6,o7,o8,o9,o10,o11,o12,o13,v4,n5,dp,dn,dk,D,sp,sn,sk,S,v8,v9⟩,?_,?_,?_⟩
      ·rw [hcs,e1,e2,e4,e5,hc6,hc7,e8,e9,
        show [Value.bool o0,p1,p2,p3,p4,p5,strV o2,strV o3,strV o4,strV o5,p10,p11,p12,p13,p14,strV o7,strV o8,.int .i64 o9,.int .i64 o10,strV o11,.int .i64 o12,strV o13]=[Value.bool o0]++[p1,p2,p3,p4,p5]++[strV o2,strV o3,strV o4,strV o5]++[p10,p11,p12,p13,p14]++[strV o7,strV o8,.int .i64 o9,.int .i64 o10,strV o11,.int .i64 o12,strV o13] from rfl,d1,d6]
       unfold GV.g
       simp only [List.append_assoc,List.cons_append,List.nil_append]
      ·refine ⟨r1,r2,ra,rb,r4,r8,r9,⟨hSl,by show sn≤_; omega,hSr,fun _ _ _=>trivial,fun x hx=>(hSall x hx).1.1⟩,?_,hDl,fun _ _ _=>trivial⟩
       rw [← flat_strV]; exact hDr
      ·exact ⟨⟨t1,z1⟩,⟨t2,z2⟩,⟨ta,by show a1.m.sz≤_; omega⟩,⟨tb,by show a6.m.sz≤_; omega⟩,⟨t4,z4⟩,⟨t8,z8⟩,⟨t9,z9⟩,fun x hx=>⟨(hSall x hx).1.2,(hSall x hx).2⟩,hsn,hdn,by show o2.length≤_; omega,by show o3.length≤_; omega,by show o4.length≤_; omega,by show o5.length≤_; omega,by show o7.length≤_; omega,by show o11.length≤_; omega⟩
end
theorem agg_of {W:World} {v:Value} {fs:Array Field} {t:TypeId} (hu:Tryz.prog.underlying t=some (.struct fs)) (hI:InpV Tryz.prog W okU t v):∃ cs,v=.agg cs:=by
 obtain ⟨_,h2⟩:=hI
 rw [hu] at h2
 exact h2
theorem term_arg {H:Type} {enc:TypeId × Value→H} {W:World} {v:Value} {d:DataW H} {p:List MemPlace} (hT:∃ fuel,DataW.trod enc Tryz.prog W 0 (fun _=>true) true fuel 28 v.cells.toList=some (d,p)) (hI:InpV Tryz.prog W okU 28 v) (hb:Rows.uptoBulk d≤1048576) :
 ∃ x:TV,v=x.v∧TR (fun _=>True) W x∧Tall bndT x.m∧x.m.sz≤1048576:=by
 obtain ⟨fuel,h⟩:=hT
 obtain ⟨cs,rfl⟩:=agg_of Tryz.underlying28 hI
 obtain ⟨x,h3,⟨h4,h5⟩,h6⟩:=term_of_trod fuel _ _ h hb
 refine ⟨x,?_,h4,h5,Nat.le_trans h6 hb⟩
 have:(Value.agg cs).cells.toList=cs.toList:=rfl
 rw [this] at h3
 unfold TV.v
 rw [← h3]
theorem msg_arg {H:Type} {enc:TypeId × Value→H} {W:World} {v:Value} {d:DataW H} {p:List MemPlace} (hT:∃ fuel,DataW.trod enc Tryz.prog W 0 (fun _=>true) true fuel 43 v.cells.toList=some (d,p)) (hI:InpV Tryz.prog W okU 43 v) (hb:Rows.uptoBulk d≤1048576) :
 ∃ g:GV,v=g.v∧GR (fun _=>True) W g∧GB g:=by
 obtain ⟨fuel,h⟩:=hT
 obtain ⟨cs,rfl⟩:=agg_of Tryz.underlying43 hI
 obtain ⟨g,h3,h4,h5⟩:=msg_of_trod h hb
 refine ⟨g,?_,h4,h5⟩
 have:(Value.agg cs).cells.toList=cs.toList:=rfl
 rw [this] at h3
 unfold GV.v
 rw [← h3]
end Go.Proofs.YtnmlmicmhpkbeaaGreatDoor
namespace Go.Note
open Go
set_option linter.unusedVariables false
theorem notW_all (x y:W):notW (allW [x,y] false)=allW [notW x,notW y] true∧notW (allW [x,y] true)=allW [notW x,notW y] false:=by
 cases x<;>cases y<;>first | exact ⟨rfl,rfl⟩ | (rename_i a; cases a<;>exact ⟨rfl,rfl⟩) | (rename_i a b; cases a<;>cases b<;>exact ⟨rfl,rfl⟩) | (rename_i a b; cases a<;>exact ⟨rfl,rfl⟩) | (rename_i a b; cases b<;>exact ⟨rfl,rfl⟩)
theorem allW_comm (x y:W) (d:Bool):allW [x,y] d=allW [y,x] d:=by
 unfold allW
 have h1:(W.tru d∈[x,y])↔(W.tru d∈[y,x]):=by simp only [List.mem_cons,List.not_mem_nil,or_false]; exact Or.comm
 have h2:([x,y].all fun w=>decide (w=W.tru !d))=([y,x].all fun w=>decide (w=W.tru !d)):=by simp only [List.all_cons,List.all_nil,Bool.and_true]; exact Bool.and_comm _ _
 simp only [h1,h2]
theorem compareBytes_neg:∀ a b:Bs,Lib.compareBytes b a=-Lib.compareBytes a b
 | [],[]=>rfl
 | [],_::_=>rfl
 | _::_,[]=>rfl
 | x::a,y::b=>by
  have ih:=compareBytes_neg a b
  have hxy:=@UInt8.lt_iff_toNat_lt x y
  have hyx:=@UInt8.lt_iff_toNat_lt y x
  simp only [Lib.compareBytes]
  by_cases h:x<y
  ·have h2:¬ y<x:=fun q=>by have:=hxy.1 h; have:=hyx.1 q; omega
   simp [h,h2]
  ·by_cases h2:y<x
   ·simp [h,h2]
   ·simp [h,h2,ih]
theorem ordW_neg (x y:W):ordW y x=(ordW x y).map fun n=>-n:=by
 cases x<;>cases y<;>first
  | rfl
  | exact congrArg some (sgnI_neg _ _)
  | exact congrArg some (compareBytes_neg _ _)
  | exact congrArg some (Int.neg_neg _).symm
theorem cmpK_not (n:Int):cmpK 7 n=!cmpK 6 n∧cmpK 11 n=!cmpK 8 n∧cmpK 9 n=!cmpK 10 n∧cmpK 8 (-n)=cmpK 10 n∧cmpK 10 (-n)=cmpK 8 n∧cmpK 6 (-n)=cmpK 6 n:=by
 refine ⟨?_,?_,?_,?_,?_,?_⟩<;>rw [Bool.eq_iff_iff]<;>simp [cmpK]<;>omega
theorem cmpW_other {k:Int} {x y:W} (h:∀ a b,¬ (x=.tru a∧y=.tru b)):cmpW k x y=match ordW x y with
 | some n=>.tru (cmpK k n)
 | none=>.unk:=by
 cases x<;>cases y<;>first | rfl | skip
 rename_i a b
 exact absurd ⟨rfl,rfl⟩ (h a b)
theorem cmpW_not (x y:W):cmpW 7 x y=notW (cmpW 6 x y)∧cmpW 11 x y=notW (cmpW 8 x y)∧cmpW 9 x y=notW (cmpW 10 x y):=by
 by_cases h:∃ a b,x=.tru a∧y=.tru b
 ·obtain ⟨a,b,rfl,rfl⟩:=h
  cases a<;>cases b<;>simp [cmpW,notW]
 ·have h':∀ a b,¬ (x=.tru a∧y=.tru b):=fun a b e=>h ⟨a,b,e⟩
  simp only [cmpW_other h']
  cases ordW x y with
  | none=>simp [notW]
  | some n =>
   obtain ⟨c1,c2,c3,_⟩:=cmpK_not n
   simp [notW,c1,c2,c3]
theorem cmpW_turn (x y:W):cmpW 8 x y=cmpW 10 y x∧cmpW 6 x y=cmpW 6 y x:=by
 by_cases h:∃ a b,x=.tru a∧y=.tru b
 ·obtain ⟨a,b,rfl,rfl⟩:=h
  cases a<;>cases b<;>simp [cmpW]
 ·have h':∀ a b,¬ (x=.tru a∧y=.tru b):=fun a b e=>h ⟨a,b,e⟩
  have h'':∀ a b,¬ (y=.tru a∧x=.tru b):=fun a b e=>h ⟨b,a,e.2,e.1⟩
  simp only [cmpW_other h',cmpW_other h'',ordW_neg x y]
  cases ordW x y with
  | none=>simp
  | some n =>
   obtain ⟨_,_,_,c4,c5,c6⟩:=cmpK_not n
   simp [c4,c5,c6]
def oneT (k:Int) (l:List T):T:=.mk k [] zeroM l
theorem chk_two {k:Int} {x y:T} {b:Bool} (h1:arity k 2=true) (hk:k≠1∧k≠2∧k≠14∧k≠13):(oneT k [x,y]).chk b=0↔x.chk false=0∧y.chk false=0:=by
 obtain ⟨k1,k2,k3,k4⟩:=hk
 have ha:T.alone (.mk k [] zeroM [x,y]) b=0:=by
  unfold T.alone
  simp [T.k,T.l,T.t,T.v,h1,k1,k2,k3,k4]
 unfold oneT
 rw [T.chk,ha]
 simp only [ne_eq,not_true_eq_false,if_false,T.chkL,k4,decide_false,Bool.false_and]
 by_cases hx:x.chk false=0
 ·by_cases hy:y.chk false=0<;>simp [hx,hy]
 ·simp [hx]
theorem chk_one {k:Int} {x:T} {b:Bool} (hk:k=3):(oneT k [x]).chk b=0↔x.chk false=0:=by
 subst hk
 have ha:T.alone (.mk 3 [] zeroM [x]) b=0:=by
  unfold T.alone
  simp [T.k,T.l,T.t,T.v,arity]
 unfold oneT
 rw [T.chk,ha]
 simp only [ne_eq,not_true_eq_false,if_false,T.chkL]
 by_cases hx:x.chk false=0<;>simp [hx]
theorem sz_two (k:Int) (x y:T):(oneT k [x,y]).sz=1+(x.sz+(y.sz+0)):=by unfold oneT; rw [T.sz,T.szL,T.szL,T.szL]
theorem sz_one (k:Int) (x:T):(oneT k [x]).sz=1+(x.sz+0):=by unfold oneT; rw [T.sz,T.szL,T.szL]
theorem check_iff (x:T):x.check=0↔x.sz≤256∧x.chk false=0:=by
 have:=(x.cnt_ok 0).1
 unfold T.check
 split
 ·constructor
  ·intro h; omega
  ·rintro ⟨h,_⟩; omega
 ·constructor
  ·intro h; exact ⟨by omega,h⟩
  ·exact fun h=>h.2
def smallB (x:T):Bool:=decide ((oneT 5 [oneT 4 [x,x],oneT 4 [x,x]]).check=0)
theorem small_iff {x:T} (h:smallB x=true):x.chk false=0∧x.sz≤63:=by
 have h:=of_decide_eq_true h
 rw [check_iff,chk_two (by decide) (by decide),chk_two (by decide) (by decide),sz_two,sz_two] at h
 exact ⟨h.2.1.1,by omega⟩
theorem eval_two (look:Bs→M) {k:Int} {x y:T} (hx:x.chk false=0∧x.sz≤63) (hy:y.chk false=0∧y.sz≤63) (h1:arity k 2=true) (hk:k≠1∧k≠2∧k≠14∧k≠13) :
 (oneT k [x,y]).check=0∧(oneT k [x,y]).says look=kidsW k [] zeroM [x.says look,y.says look]:=by
 refine ⟨(check_iff _).2 ⟨by rw [sz_two]; omega,(chk_two h1 hk).2 ⟨hx.1,hy.1⟩⟩,?_⟩
 unfold oneT
 rw [T.says,if_neg hk.1,if_neg hk.2.1,T.saysL_map]; rfl
theorem eval_not (look:Bs→M) {x:T} (hx:x.chk false=0∧x.sz≤250):(oneT 3 [x]).check=0∧(oneT 3 [x]).says look=notW (x.says look):=by
 refine ⟨(check_iff _).2 ⟨by rw [sz_one]; omega,(chk_one rfl).2 hx.1⟩,?_⟩
 unfold oneT
 rw [T.says,if_neg (by decide),if_neg (by decide),T.saysL_map]; rfl
def three (look:Bs→M) (a b:T):Bool :=
 let al x y:=decide (evalB look x=evalB look y)
 let no x:=oneT 3 [x]
 al (no (oneT 4 [a,b])) (oneT 5 [no a,no b]) && al (no (oneT 5 [a,b])) (oneT 4 [no a,no b]) && al (oneT 7 [a,b]) (no (oneT 6 [a,b])) && al (oneT 11 [a,b]) (no (oneT 8 [a,b])) && al (oneT 9 [a,b]) (no (oneT 10 [a,b])) &&
 al (oneT 8 [a,b]) (oneT 10 [b,a]) && al (oneT 6 [a,b]) (oneT 6 [b,a]) && al (oneT 4 [a,b]) (oneT 4 [b,a]) && (al (no (no a)) a || decide ((evalB look a).k≠1)) && (fitsB look a == (decide ((evalB look a).k=1) && decide ((evalB look a).n=1)))
theorem alike_of {look:Bs→M} {x y:T} {v w:W} (hx:x.check=0∧x.says look=v) (hy:y.check=0∧y.says look=w) (h:v=w):evalB look x=evalB look y:=by
 unfold evalB
 rw [if_pos hx.1,if_pos hy.1,hx.2,hy.2,h]
theorem chk_small {x y:T} {k:Int} (h:x.chk false=0∧x.sz≤63) (h2:y.chk false=0∧y.sz≤63) (h1:arity k 2=true) (hk:k≠1∧k≠2∧k≠14∧k≠13):(oneT k [x,y]).chk false=0∧(oneT k [x,y]).sz≤250 :=
 ⟨(chk_two h1 hk).2 ⟨h.1,h2.1⟩,by rw [sz_two]; omega⟩
theorem three_all (look:Bs→M) {a b:T} (ha:smallB a=true) (hb:smallB b=true):three look a b=true:=by
 have ha:=small_iff ha
 have hb:=small_iff hb
 have n3:∀ {k:Int},k=4∨k=5∨k=6∨k=7∨k=8∨k=9∨k=10∨k=11→arity k 2=true∧(k≠1∧k≠2∧k≠14∧k≠13):=by
  rintro k (rfl | rfl | rfl | rfl | rfl | rfl | rfl | rfl)<;>decide
 have e2:∀ {k:Int} {x y:T},x.chk false=0∧x.sz≤63→y.chk false=0∧y.sz≤63→k=4∨k=5∨k=6∨k=7∨k=8∨k=9∨k=10∨k=11→(oneT k [x,y]).check=0∧(oneT k [x,y]).says look=kidsW k [] zeroM [x.says look,y.says look]:=fun hx hy hk=>eval_two look hx hy (n3 hk).1 (n3 hk).2
 have en:∀ {k:Int} {x y:T},x.chk false=0∧x.sz≤63→y.chk false=0∧y.sz≤63→k=4∨k=5∨k=6∨k=7∨k=8∨k=9∨k=10∨k=11→(oneT 3 [oneT k [x,y]]).check=0∧(oneT 3 [oneT k [x,y]]).says look=notW (kidsW k [] zeroM [x.says look,y.says look]):=fun hx hy hk=>by
  have:=eval_not look (chk_small hx hy (n3 hk).1 (n3 hk).2)
  rw [(e2 hx hy hk).2] at this
  exact this
 have hna:(oneT 3 [a]).chk false=0∧(oneT 3 [a]).sz≤64:=⟨(chk_one rfl).2 ha.1,by rw [sz_one]; omega⟩
 have hnb:(oneT 3 [b]).chk false=0∧(oneT 3 [b]).sz≤64:=⟨(chk_one rfl).2 hb.1,by rw [sz_one]; omega⟩
 have sa:=(eval_not look (x:=a) ⟨ha.1,by omega⟩).2
 have sb:=(eval_not look (x:=b) ⟨hb.1,by omega⟩).2
 have eo:∀ {k:Int},k=4∨k=5→(oneT k [oneT 3 [a],oneT 3 [b]]).check=0∧(oneT k [oneT 3 [a],oneT 3 [b]]).says look=kidsW k [] zeroM [notW (a.says look),notW (b.says look)]:=fun {k} hk=>by
  have hk':=n3 (k:=k) (by omega)
  refine ⟨(check_iff _).2 ⟨by rw [sz_two]; omega,(chk_two hk'.1 hk'.2).2 ⟨hna.1,hnb.1⟩⟩,?_⟩
  unfold oneT
  rw [T.says,if_neg hk'.2.1,if_neg hk'.2.2.1,T.saysL_map]
  have sa':T.says look (.mk 3 [] zeroM [a])=notW (a.says look):=sa
  have sb':T.says look (.mk 3 [] zeroM [b])=notW (b.says look):=sb
  simp only [List.map_cons,List.map_nil,sa',sb']
 have hca:a.check=0:=(check_iff a).2 ⟨by omega,ha.1⟩
 unfold three
 simp only [Bool.and_eq_true,decide_eq_true_eq,Bool.or_eq_true,beq_iff_eq]
 refine ⟨⟨⟨⟨⟨⟨⟨⟨⟨?_,?_⟩,?_⟩,?_⟩,?_⟩,?_⟩,?_⟩,?_⟩,?_⟩,?_⟩
 ·exact alike_of (en ha hb (by omega)) (eo (by omega)) (notW_all _ _).1
 ·exact alike_of (en ha hb (by omega)) (eo (by omega)) (notW_all _ _).2
 ·exact alike_of (e2 ha hb (by omega)) (en ha hb (by omega)) (cmpW_not _ _).1
 ·exact alike_of (e2 ha hb (by omega)) (en ha hb (by omega)) (cmpW_not _ _).2.1
 ·exact alike_of (e2 ha hb (by omega)) (en ha hb (by omega)) (cmpW_not _ _).2.2
 ·exact alike_of (e2 ha hb (by omega)) (e2 hb ha (by omega)) (cmpW_turn _ _).1
 ·exact alike_of (e2 ha hb (by omega)) (e2 hb ha (by omega)) (cmpW_turn _ _).2
 ·exact alike_of (e2 ha hb (by omega)) (e2 hb ha (by omega)) (allW_comm _ _ _)
 ·have h2:=eval_not look (x:=oneT 3 [a]) ⟨hna.1,by omega⟩
  rw [sa] at h2
  have hk:(evalB look a).k=1→∃ c,a.says look=.tru c:=by
   unfold evalB
   rw [if_pos hca]
   cases h:a.says look<;>simp [W.value,zeroM,M.k]
   split<;>simp
  by_cases hk1:(evalB look a).k=1
  ·obtain ⟨c,hc⟩:=hk hk1
   refine .inl (alike_of h2 ⟨hca,rfl⟩ ?_)
   rw [hc]; cases c<;>rfl
  ·exact .inr hk1
 ·unfold fitsB evalB
  rw [decide_eq_true hca,Bool.true_and,if_pos hca]
  cases h:a.says look with
  | tru c=>cases c<;>simp [W.value,M.k,M.n]
  | txt s=>by_cases ht:textB s=true<;>simp [W.value,M.k,M.n,ht]
  | unk=>simp [W.value,zeroM,M.k,M.n]
  | int n=>simp [W.value,M.k,M.n]
  | real n=>simp [W.value,M.k,M.n]
  | odd=>simp [W.value,zeroM,M.k,M.n]
end Go.Note
namespace Go.Proofs.YtnmlmicmhpkbeaaGreatDoor
open Go Go.Sv Go.Note
set_option linter.unusedVariables false
theorem Tall.imp {P P':Int→Bs→M→List T→Prop} (h:∀ k t v l,P k t v l→P' k t v l):∀ x:T,Tall P x→Tall P' x:=by
 refine T.ind fun k t v l ih=>?_
 intro hx
 cases hx with
 | mk a b=>exact .mk (h _ _ _ _ a) fun y hy=>ih y hy (b y hy)
theorem tall_TG {x:TV} (h:Tall bndT x.m):TG x :=
 TG_of x (Tall.imp (fun k t v l h=>⟨Nat.le_trans h.2.2.1 (by decide),h.1,Nat.le_trans h.2.1 (by decide)⟩) _ h)
theorem chkL_all {i:Bool}:∀ {l:List T} {f:Bool},T.chkL i f l=0→∀ y∈l,∃ b,y.chk b=0
 | [],_,_,y,hy=>by cases hy
 | x::l,f,h,y,hy=>by
  rw [T.chkL] at h
  by_cases h1:T.chk (i && !f) x=0
  ·rw [if_neg (fun q=>q h1)] at h
   rcases List.mem_cons.1 hy with rfl | hy
   ·exact ⟨_,h1⟩
   ·exact chkL_all h y hy
  ·rw [if_pos h1] at h; exact absurd h h1
theorem chk_SG:∀ (x:T) (b:Bool),x.chk b=0→Tall bndT x→Tall (SGp True) x:=by
 refine T.ind fun k t v l ih=>?_
 intro b h hx
 cases hx with
 | mk a c =>
  rw [T.chk] at h
  by_cases h1:T.alone (.mk k t v l) b=0
  ·rw [if_neg (fun q=>q h1)] at h
   have har:arity k l.length=true:=by
    unfold T.alone at h1
    cases hr:arity k l.length with
    | true=>rfl
    | false =>
     rw [if_pos (show arity (T.mk k t v l).k (T.mk k t v l).l.length=false from hr)] at h1
     cases h1
   refine .mk ⟨a.1,Nat.le_trans a.2.1 (by decide),Nat.le_trans a.2.2.1 (by decide),fun _ _=>trivial,fun _=>trivial,har,Nat.le_trans a.2.2.2 (by decide)⟩ fun y hy=>?_
   obtain ⟨b',hb'⟩:=chkL_all h y hy
   exact ih y hy b' hb' (c y hy)
  ·rw [if_pos h1] at h; exact absurd h h1
theorem tall_SG {x:TV} (h:Tall bndT x.m) (hc:x.m.check=0):SG True x:=SG_of x (chk_SG x.m false ((check_iff x.m).1 hc).2 h)
theorem zeroM_fits:zeroM.fits:=fits0 (by decide)
theorem zeroM_sz:zeroM.sz=1:=by decide
theorem flat_good {k:Int} {n:Nat} {t:Bs} (hn:n<18446744073709551616) (ht:t.length≤1048576):(M.mk k n t 0 []).fits∧(M.mk k n t 0 []).sz≤2^39:=⟨fits0 hn,by rw [M.sz_mk]; simp; omega⟩
theorem zero_good:zeroM.fits∧zeroM.sz≤2^39:=⟨zeroM_fits,by rw [zeroM_sz]; decide⟩
theorem findP_good {n:Nat} (hn:1≤n) {key:M}:∀ l:List M,(∀ x∈l,x.fits∧x.sz≤n)→(findP key l).fits∧(findP key l).sz≤n
 | [],_=>⟨zeroM_fits,by show zeroM.sz≤n; rw [zeroM_sz]; exact hn⟩
 | [x],_=>⟨zeroM_fits,by show zeroM.sz≤n; rw [zeroM_sz]; exact hn⟩
 | x::y::l,h=>by
  unfold findP
  split
  ·exact h y (by simp)
  ·exact findP_good hn l fun z hz=>h z (by simp [hz])
theorem part_good {m:M} (hf:m.fits):∀ y∈m.l,y.fits∧y.sz≤m.sz:=by
 obtain ⟨k,n,t,e,l⟩:=m
 intro y hy
 cases hf with
 | mk h1 h2 =>
  refine ⟨h2 y hy,?_⟩
  rw [M.sz_mk]
  have:=sum_mem (List.mem_map.2 ⟨y,hy,rfl⟩:y.sz∈l.map M.sz)
  omega
theorem say_good {k:Int} {s:Bs} (h:s.length≤1048576):(sayM k s).fits∧(sayM k s).sz≤2^39:=by
 unfold sayM
 split
 ·exact zero_good
 ·exact flat_good (by decide) h
theorem low_good (n:Int):(lowM n).fits∧(lowM n).sz≤2^39:=by
 unfold lowM
 split
 ·exact zero_good
 ·exact flat_good (by omega) (by decide)
theorem tru_good (b:Bool):(truM b).fits∧(truM b).sz≤2^39:=by cases b<;>exact flat_good (by decide) (by decide)
def GdM (m:M):Prop:=m.fits∧m.sz≤2^39
theorem ite_good {c:Prop} [Decidable c] {a b:M} (ha:GdM a) (hb:GdM b):GdM (if c then a else b):=by
 by_cases h:c
 ·rw [if_pos h]; exact ha
 ·rw [if_neg h]; exact hb
theorem find_good {m key:M} (h:m.fits∧m.sz≤1048576):GdM (findB m key):=by
 unfold findB
 refine ite_good ?_ zero_good
 have:=findP_good (n:=1048576) (by decide) (key:=key) m.l fun x hx=>by
  have:=part_good h.1 x hx
  exact ⟨this.1,Nat.le_trans this.2 h.2⟩
 exact ⟨this.1,Nat.le_trans this.2 (by decide)⟩
theorem look_good {g:GV} (h:GB g) (s:Bs):GdM (lookB g.m s):=by
 have up:∀ {m:M},m.fits∧m.sz≤1048576→GdM m:=fun h=>⟨h.1,Nat.le_trans h.2 (by decide)⟩
 unfold lookB
 refine ite_good (flat_good (by omega) (by decide)) (ite_good (tru_good _) (ite_good (tru_good _) (ite_good (low_good _) (ite_good (flat_good (by omega) (by decide)) (ite_good (up h.mid) (ite_good (up h.cor) (ite_good (say_good h.str.1) (ite_good (say_good h.str.2.1) (ite_good (say_good h.str.2.2.1) (ite_good (say_good h.str.2.2.2.1) (ite_good (say_good h.str.2.2.2.2.2) (ite_good (say_good h.str.2.2.2.2.1) (ite_good (low_good _) (find_good h.app))))))))))))))
theorem GG_of {g:GV} (h:GB g):GG True g :=
 ⟨Nat.le_trans h.mid.2 (by decide),Nat.le_trans h.cor.2 (by decide),Nat.le_trans h.app.2 (by decide),fun s=>⟨(look_good h s).1,(look_good h s).2,fun _=>trivial⟩⟩
theorem sum_le_map {f g:M→Nat}:∀ {l:List M},(∀ x∈l,f x≤g x)→(l.map f).sum≤(l.map g).sum
 | [],_=>Nat.le_refl _
 | x::l,h=>by
  have h1:=h x (by simp)
  have h2:=sum_le_map (l:=l) fun y hy=>h y (by simp [hy])
  simp only [List.map_cons,List.sum_cons]; omega
theorem wt_sz:∀ m:M,m.wt≤m.sz:=by
 refine M.ind fun k n t e l ih=>?_
 rw [M.wt_mk,M.sz_mk]
 have:=sum_le_map ih
 omega
end Go.Proofs.YtnmlmicmhpkbeaaGreatDoor
