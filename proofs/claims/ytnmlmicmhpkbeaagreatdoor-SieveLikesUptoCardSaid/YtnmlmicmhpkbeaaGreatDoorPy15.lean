/-
  The document's matcher (longshoreref16): a text's signs; a pattern's elements. The document's matcher: a pattern's elements. The document's matcher: likes, Like.
-/
import Derived.Test.YtnmlmicmhpkbeaaGreatDoorPy14
set_option linter.unusedVariables false
set_option linter.unusedSimpArgs false
namespace Go.Proofs.YtnmlmicmhpkbeaaGreatDoor
open Go Go.Sv Go.Note
set_option linter.unusedVariables false
attribute [local irreducible] Sif
def sC (x:Bs):List Value:=[Value.string ⟨x.toArray⟩]
theorem sC_len (x:Bs):(sC x).length=1:=rfl
theorem sC_one (x:Bs):∀ v∈sC x,oneV v=true:=by
 intro v hv; simp only [sC,List.mem_singleton] at hv; rw [hv]; rfl
theorem sC_info:InfoIs Tryz.prog 9 1 16 (.string ⟨#[]⟩):=.of (by kernel_rfl) (by kernel_rfl) (by kernel_rfl)
theorem sC_push {w:World} {p:Option Addr} {n c:Nat} {L:List Bs} {ow:Option Nat} (hn:L.length=n) (o:Ow w p n c 1 (L.flatMap sC) ow) (hL:n≤2^41) (x:Bs) {K:Option Addr→Nat→Nat→World→Prop}
 (hk:∀ p' c' ow' w',Ow w' p' (n+1) c' 1 ((L++[x]).flatMap sC) ow'→(∀ b,ow'=some b→ow=some b∨w.heap.size≤b)→Ch (fun b=>ow=some b) w w'→K p' (n+1) c' w') :
 newB w [.string ⟨x.toArray⟩] 9 fun a w2=>∃ p5 n7 c5 w3,Sem.run Tryz.prog (Builtin.append_ #[41,41] 41 #[.slice p n c,.slice (some a) 1 1]) w2=.ok (.slice p5 n7 c5) w3∧K p5 n7 c5 w3:=by
 subst hn
 have h:=push_ok (P:=Tryz.prog) (ty:=41) (te:=9) (g:=sC) (sz:=1) (bytes:=16) (K:=K) Tryz.underlying41 sC_info rfl sC_len sC_one o x (by omega) (by omega) fun p' c' ow' w' o' f' c1=>?_
 ·exact h
 ·rw [List.length_append,List.length_singleton]
  exact hk p' c' ow' w' (by rw [List.length_append,List.length_singleton] at o'; exact o') f' c1
theorem sg_len:∀ l:Bs,(sg l).length≤l.length:=by
 refine sg_ind (Nat.le_refl _) fun l hl ih=>?_
 rw [sg_cons l hl,List.length_cons]
 have:=wide_pos l
 have:=(wide_le l hl).1
 rw [List.length_drop] at ih
 omega
theorem ext_mid (l:Bs) (i j:Nat):(ByteArray.mk l.toArray).extract i j=⟨((l.take j).drop i).toArray⟩:=data_ext (by rw [extract_data,sl3,sl3,List.drop_take])
theorem grow_ch {w w1 w2:World} {ow:Option Nat} (a:Ch (fun _=>False) w w1) (f:∀ b,ow=some b→w.heap.size≤b) (b:Ch (fun b=>ow=some b) w1 w2):Ch (fun _=>False) w w2:=a.trans b fun y hy h=>by have:=f y h; omega
theorem grow_own {w w1:World} {ow ow':Option Nat} (a:Ch (fun _=>False) w w1) (f:∀ b,ow=some b→w.heap.size≤b) (f':∀ b,ow'=some b→ow=some b∨w1.heap.size≤b):∀ b,ow'=some b→w.heap.size≤b:=fun b hb=>(f' b hb).elim (f b) fun h=>by have:=a.size; omega
theorem rsigns_ok {s:Bs} (hs:s.length≤2^40) {w:World} {K:Value→World→Prop} (hk:∀ p c ow w',Ow w' p (sg s).length c 1 ((sg s).flatMap sC) ow→(∀ b,ow=some b→w.heap.size≤b)→Ch (fun _=>False) w w'→K (.slice p (sg s).length c) w'):callP Tryz.prog 104 [.string ⟨s.toArray⟩] w K:=by
 apply ok_longshoreref16_signs
 refine ⟨fun m p n c i w1=>∃ (j:Nat) (L:List Bs) (ow:Option Nat),i=(j:Int)∧j≤s.length∧m=s.length-j∧n=L.length∧n≤j∧sg s=L++sg (s.drop j)∧Ow w1 p n c 1 (L.flatMap sC) ow∧(∀ b,ow=some b→w.heap.size≤b)∧Ch (fun _=>False) w w1,⟨s.length,0,[],none,rfl,Nat.zero_le _,rfl,rfl,Nat.le_refl _,rfl,Ow.nil,fun b hb=>(by cases hb),Ch.refl _ _⟩,?_⟩
 rintro m p n c i w1 ⟨j,L,ow,rfl,hj,rfl,hn,hnj,heq,o1,f1,c1⟩
 rw [sz3]
 refine Sif_cases (fun h=>?_) (fun h=>?_)
 ·have hjl:j<s.length:=by have:=of_decide_eq_true h; omega
  have hne:s.drop j≠[]:=fun e=>by have:=congrArg List.length e; rw [List.length_drop,List.length_nil] at this; omega
  refine Character_ok (by omega) ⟨_,rfl,?_⟩
  rw [sl3]
  have hwl:=(wide_le (s.drop j) hne).1
  have hw0:=wide_pos (s.drop j)
  rw [List.length_drop] at hwl
  refine ⟨fun n3 w3=>n3=(wide (s.drop j):Int)∧w3=w1,?_,?_⟩
  ·rintro n3 w3 ⟨rfl,rfl⟩
   rw [wrap_id (by omega) (by omega)]
   refine ⟨by omega,by omega,by omega,by omega,?_⟩
   rw [show ((j:Int)+(wide (s.drop j):Int)).toNat=j+wide (s.drop j) by omega,Int.toNat_natCast,ext_mid]
   have e:(s.take (j+wide (s.drop j))).drop j=(s.drop j).take (wide (s.drop j)):=by rw [List.drop_take,Nat.add_sub_cancel_left]
   rw [e]
   refine sC_push hn.symm o1 (by omega) ((s.drop j).take (wide (s.drop j))) fun p' c' ow' w' o' f' c'=>?_
   simp only [nameI]
   refine ⟨s.length-(j+wide (s.drop j)),by omega,j+wide (s.drop j),L++[(s.drop j).take (wide (s.drop j))],ow',by omega,by omega,rfl,by rw [List.length_append,hn]; rfl,by omega,?_,o',grow_own c1 f1 f',grow_ch c1 f1 c'⟩
   rw [heq,sg_cons _ hne,List.drop_drop,List.append_assoc]; rfl
  ·refine Sif_cases (fun h1=>⟨?_,rfl⟩) (fun h1=>⟨?_,rfl⟩)
   ·have h1:=of_decide_eq_true h1
    unfold wide; omega
   ·have h1:=of_decide_eq_false h1
    unfold wide; omega
 ·have hjl:j=s.length:=by have:=of_decide_eq_false h; omega
  rw [hjl,List.drop_of_length_le (Nat.le_refl _),sg_nil,List.append_nil] at heq
  subst hn
  rw [← heq] at o1 ⊢
  exact hk p c ow w1 o1 f1 c1
def eC:El→List Value
 | .row=>[.bool true,.bool false,.string ⟨#[37]⟩]
 | .any=>[.bool false,.bool true,.string ⟨#[95]⟩]
 | .sgn x=>[.bool false,.bool false,.string ⟨x.toArray⟩]
theorem eC_len (x:El):(eC x).length=3:=by cases x<;>rfl
theorem eC_one (x:El):∀ v∈eC x,oneV v=true:=by
 intro v hv; cases x<;>simp only [eC,List.mem_cons,List.not_mem_nil,or_false] at hv<;>rcases hv with rfl | rfl | rfl<;>rfl
theorem eC_of (x:Bs):eC (elOf x)=[.bool (decide (x=[37])),.bool (decide (x=[95])),.string ⟨x.toArray⟩]:=by
 unfold elOf
 by_cases h1:x=[37]
 ·subst h1; rfl
 ·by_cases h2:x=[95]
  ·subst h2; rfl
  ·rw [if_neg h1,if_neg h2,decide_eq_false h1,decide_eq_false h2]; rfl
theorem eC_info:InfoIs Tryz.prog 142 3 24 (.agg #[.bool false,.bool false,.string ⟨#[]⟩]):=.of (by kernel_rfl) (by kernel_rfl) (by kernel_rfl)
theorem eC_push {w:World} {p:Option Addr} {n c:Nat} {L:List El} {ow:Option Nat} (hn:L.length=n) (o:Ow w p n c 3 (L.flatMap eC) ow) (hL:n≤2^41) (x:El) {cs:List Value} (hcs:cs=eC x) {K:Option Addr→Nat→Nat→World→Prop}
 (hk:∀ p' c' ow' w',Ow w' p' (n+1) c' 3 ((L++[x]).flatMap eC) ow'→(∀ b,ow'=some b→ow=some b∨w.heap.size≤b)→Ch (fun b=>ow=some b) w w'→K p' (n+1) c' w') :
 newB w cs 142 fun a w2=>∃ p5 n7 c5 w3,Sem.run Tryz.prog (Builtin.append_ #[91,91] 91 #[.slice p n c,.slice (some a) 1 1]) w2=.ok (.slice p5 n7 c5) w3∧K p5 n7 c5 w3:=by
 subst hn hcs
 have h:=push_ok (P:=Tryz.prog) (ty:=91) (te:=142) (g:=eC) (sz:=3) (bytes:=24) (K:=K) Tryz.underlying91 eC_info rfl eC_len eC_one o x (by omega) (by omega) fun p' c' ow' w' o' f' c1=>?_
 ·exact h
 ·rw [List.length_append,List.length_singleton]
  exact hk p' c' ow' w' (by rw [List.length_append,List.length_singleton] at o'; exact o') f' c1
end Go.Proofs.YtnmlmicmhpkbeaaGreatDoor
namespace Go.Proofs.YtnmlmicmhpkbeaaGreatDoor
open Go Go.Sv Go.Note
set_option linter.unusedVariables false
attribute [local irreducible] Sif
theorem els_two {e x y:Bs} {l:List Bs}:els e (x::y::l)=if e≠[]∧x=e then .sgn y::els e l else elOf x::els e (y::l):=by rw [els]
theorem els_last {e x:Bs}:els e [x]=if e≠[]∧x=e then [.sgn x] else [elOf x]:=by rw [els]
theorem elements_ok {pt e:Bs} (hp:pt.length≤2^40) {w:World} {K:Value→World→Prop} (hk:∀ p c ow w',Ow w' p (els e (sg pt)).length c 3 ((els e (sg pt)).flatMap eC) ow→(els e (sg pt)).length≤2^40→(∀ b,ow=some b→w.heap.size≤b)→Ch (fun _=>False) w w'→K (.slice p (els e (sg pt)).length c) w'):callP Tryz.prog 56 [.string ⟨pt.toArray⟩,.string ⟨e.toArray⟩] w K:=by
 apply ok_longshoreref16_elements
 refine rsigns_ok hp fun p c ow w1 o1 f1 c1=>⟨_,_,_,rfl,?_⟩
 have hln:=sg_len pt
 generalize hG:sg pt=G at *
 have e37:(ByteArray.mk (Array.mk [(37:UInt8)]))=ByteArray.mk ([37]:Bs).toArray:=rfl
 have e95:(ByteArray.mk (Array.mk [(95:UInt8)]))=ByteArray.mk ([95]:Bs).toArray:=rfl
 have e0:(ByteArray.mk (Array.mk []))=ByteArray.mk ([]:Bs).toArray:=rfl
 -- a sign of the row
 have rd:∀ {w':World},Ch (fun _=>False) w1 w'→∀ {i:Nat} (hi:i<G.length) {K:Addr→Prop},(∀ a,(∀ {K2:ByteArray→Prop},K2 ⟨(G[i]'hi).toArray⟩→∃ s,w'.cell? (a.add ((i:Int).toNat*1))=some (.string s)∧K2 s)→K a)→nn p K:=by
  intro w' cw i hi K hK
  obtain ⟨k,o,rfl,hc⟩:=(o1.rd.ch cw fun _ _ _ h=>h).at sC_len (List.getElem?_eq_getElem hi) (by decide)
  rw [nn_some]
  refine hK _ fun {K2} h2=>⟨_,?_,h2⟩
  have:=hc 0 _ rfl
  rw [Int.toNat_natCast,add_at]
  simpa using this
 let I:Nat→Option Addr→Nat→Nat→Int→World→Prop:=fun m p2 n2 c2 i w2=>∃ (j:Nat) (E:List El) (ow2:Option Nat),i=(j:Int)∧j≤G.length∧m=G.length-j∧n2=E.length∧n2≤j∧els e G=E++els e (G.drop j)∧Ow w2 p2 n2 c2 3 (E.flatMap eC) ow2∧(∀ b,ow2=some b→w.heap.size≤b)∧Ch (fun _=>False) w1 w2∧(∀ b,ow2=some b→w1.heap.size≤b)
 refine ⟨I,⟨G.length,0,[],none,rfl,Nat.zero_le _,rfl,rfl,Nat.le_refl _,rfl,Ow.nil,fun b hb=>(by cases hb),Ch.refl _ _,fun b hb=>(by cases hb)⟩,?_⟩
 rintro m p2 n2 c2 i w2 ⟨j,E,ow2,rfl,hj,rfl,hn2,hnj,heq,o2,f2,c2',f2'⟩
 refine Sif_cases (fun h=>?_) (fun h=>?_)
 ·have hjl:j<G.length:=by have:=of_decide_eq_true h; omega
  have hd:G.drop j=G[j]'hjl::G.drop (j+1):=List.drop_eq_getElem_cons hjl
  -- one more element, up to the sign k
  let J:Option Addr→Nat→Nat→Int→World→Prop:=fun p3 n3 c3 i w3=>∃ (k:Nat) (E3:List El) (ow3:Option Nat),i=(k:Int)∧j≤k∧k<G.length∧n3=E3.length∧n3≤k+1∧els e G=E3++els e (G.drop (k+1))∧Ow w3 p3 n3 c3 3 (E3.flatMap eC) ow3∧(∀ b,ow3=some b→w1.heap.size≤b)∧Ch (fun _=>False) w1 w3
  -- the element, put
  have put:∀ {w3:World},Ch (fun _=>False) w2 w3→∀ (k:Nat),j≤k→k<G.length→∀ (x:El) {cs:List Value},cs=eC x→els e (G.drop j)=x::els e (G.drop (k+1)) →
   newB w3 cs 142 fun a w4=>∃ p5 n7 c5 w5,Sem.run Tryz.prog (Builtin.append_ #[91,91] 91 #[.slice p2 n2 c2,.slice (some a) 1 1]) w4=.ok (.slice p5 n7 c5) w5∧J p5 n7 c5 (k:Int) w5:=by
   intro w3 c23 k hk1 hk2 x cs hcs hx
   have c13:=c2'.trans' c23
   refine eC_push hn2.symm (o2.ch c23 fun _ _ h=>h) (by omega) x hcs fun p' c' ow' w' o' f' c'=>⟨k,E++[x],ow',rfl,hk1,hk2,by rw [List.length_append,hn2]; rfl,by omega,by rw [heq,hx,List.append_assoc]; rfl,o',grow_own c13 f2' f',grow_ch c13 f2' c'⟩
  refine ⟨J,?_,?_⟩
  ·rintro p3 n3 c3 i w3 ⟨k,E3,ow3,rfl,hk1,hk2,hn3,hn3k,heq3,o3,f3,c3'⟩
   rw [wrap_id (by omega) (by omega)]
   simp only [nameI]
   exact ⟨G.length-(k+1),by omega,k+1,E3,ow3,by omega,by omega,rfl,hn3,by omega,heq3,o3,fun b hb=>by have:=f3 b hb; have:=c1.size; omega,c3',f3⟩
  ·-- is the sign the escape?
   let J1:Option Addr→Nat→Nat→Int→World→Prop:=fun p3 n3 c3 i w3=>p2=p3∧n2=n3∧c2=c3∧i=(j:Int)∧w2=w3∧((e≠[]∧G[j]'hjl=e)→j+1=G.length)
   refine ⟨J1,?_,?_⟩
   ·rintro p3 n3 c3 i w3 ⟨rfl,rfl,rfl,rfl,rfl,hesc⟩
    let J2:Option Addr→Nat→Nat→World→Prop:=fun p3 n3 c3 w3=>p2=p3∧n2=n3∧c2=c3∧w2=w3∧¬ (e≠[]∧G[j]'hjl=e)
    refine ⟨J2,?_,?_⟩
    ·rintro p3 n3 c3 w3 ⟨rfl,rfl,rfl,rfl,hne⟩
     refine ⟨by omega,by omega,rd (c2'.trans' (Ch.drew _)) hjl fun a ha=>⟨by omega,by omega,rd (c2'.trans' (Ch.drew _)) hjl fun a1 ha1=>⟨by omega,by omega,rd (c2'.trans' (Ch.drew _)) hjl fun a2 ha2=>?_⟩⟩⟩
     refine ha (ha1 (ha2 ?_))
     rw [e37,e95,seq3,seq3]
     refine put (Ch.drew _) j (Nat.le_refl _) hjl (elOf (G[j]'hjl)) (eC_of _).symm ?_
     rw [hd]
     cases hr:G.drop (j+1) with
     | nil=>rw [els_last,if_neg hne]; rfl
     | cons y l=>rw [els_two,if_neg hne]
    ·rw [e0,seq3]
     refine Sif_cases (fun h0=>?_) (fun h0=>?_)
     ·have he0:e≠[]:=by simpa using h0
      refine ⟨by omega,by omega,rd c2' hjl fun a ha=>ha ?_⟩
      rw [seq3]
      refine Sif_cases (fun hx=>?_) (fun hx=>?_)
      ·have hx:=of_decide_eq_true hx
       have hlast:=hesc ⟨he0,hx⟩
       refine ⟨by omega,by omega,rd c2' hjl fun a1 ha1=>ha1 ?_⟩
       refine put (Ch.refl _ _) j (Nat.le_refl _) hjl (.sgn (G[j]'hjl)) rfl ?_
       rw [hd,List.drop_of_length_le (by omega:G.length≤j+1),els_last,if_pos ⟨he0,hx⟩]; rfl
      ·exact ⟨rfl,rfl,rfl,rfl,fun h=>of_decide_eq_false hx h.2⟩
     ·have he0:e=[]:=by simpa using h0
      exact ⟨rfl,rfl,rfl,rfl,fun h=>h.1 he0⟩
   ·rw [e0,seq3]
    have no:¬ (e≠[]∧G[j]'hjl=e)→J1 p2 n2 c2 (j:Int) w2:=fun h=>⟨rfl,rfl,rfl,rfl,rfl,fun h'=>absurd h' h⟩
    refine Sif_cases (fun h0=>?_) (fun h0=>?_)
    ·have he0:e≠[]:=by simpa using h0
     refine ⟨by omega,by omega,rd c2' hjl fun a ha=>ha ?_⟩
     rw [seq3]
     refine Sif_cases (fun hx=>?_) (fun hx=>?_)
     ·have hx:=of_decide_eq_true hx
      rw [wrap_id (by omega) (by omega)]
      refine Sif_cases (fun hl=>?_) (fun hl=>?_)
      ·have hj1:j+1<G.length:=by have:=of_decide_eq_true hl; omega
       simp only [nameI]
       rw [show ((j:Int)+1)=((j+1:Nat):Int) by omega]
       refine ⟨by omega,by omega,rd c2' hj1 fun a1 ha1=>ha1 ?_⟩
       refine put (Ch.refl _ _) (j+1) (by omega) hj1 (.sgn (G[j+1]'hj1)) rfl ?_
       rw [hd,List.drop_eq_getElem_cons hj1,els_two,if_pos ⟨he0,hx⟩]
      ·have:=of_decide_eq_false hl
       exact ⟨rfl,rfl,rfl,rfl,rfl,fun _=>by omega⟩
     ·exact no fun h=>of_decide_eq_false hx h.2
    ·have he0:e=[]:=by simpa using h0
     exact no fun h=>h.1 he0
 ·have hjl:j=G.length:=by have:=of_decide_eq_false h; omega
  rw [hjl,List.drop_of_length_le (Nat.le_refl _),show els e []=[] from rfl,List.append_nil] at heq
  subst hn2
  rw [← heq] at o2 hnj ⊢
  exact hk p2 c2 ow2 w2 o2 (by omega) f2 (c1.trans' c2')
end Go.Proofs.YtnmlmicmhpkbeaaGreatDoor
namespace Go.Proofs.YtnmlmicmhpkbeaaGreatDoor
open Go Go.Sv Go.Note
set_option linter.unusedVariables false
attribute [local irreducible] Sif
def tC (b:Bool):List Value:=[Value.bool b]
theorem tC_len (x:Bool):(tC x).length=1:=rfl
theorem tC_flat (l:List Bool):l.flatMap tC=l.map Value.bool:=by
 induction l with
 | nil=>rfl
 | cons x l ih=>rw [List.flatMap_cons,ih]; rfl
theorem tC_info:InfoIs Tryz.prog 4 1 1 (.bool false):=.of (by kernel_rfl) (by kernel_rfl) (by kernel_rfl)
theorem make_bools {w:World} (n:Nat) (hn:n≤2^41):∃ w',(Instr.makeSlice 140 (.int .i64 (n:Int)) (.int .i64 (n:Int))).run Tryz.prog w=.ok (.slice (some ⟨w.heap.size,0,none⟩) n n) w' ∧
 Ow w' (some ⟨w.heap.size,0,none⟩) n n 1 ((List.replicate n false).flatMap tC) (some w.heap.size)∧Ch (fun _=>False) w w'∧w'.heap.size=w.heap.size+1:=by
 obtain ⟨i,hi,h1,h2,h3⟩:=tC_info
 have hr:=run_make (P:=Tryz.prog) w 140 4 i _ Tryz.underlying140 hi h3 .i64 .i64 (n:Int) (n:Int) (by omega) (by omega) (by rw [h2]; omega) (by omega)
 rw [Int.toNat_natCast,h1,Nat.mul_one] at hr
 have hm:madeCells (Value.bool false).cells n=((List.replicate n false).flatMap tC).toArray:=by
  rw [tC_flat,List.map_replicate]
  apply Array.ext'
  apply List.ext_getElem
  ·simp [madeCells]
  ·intro j g1 g2
   simp [madeCells,Value.cells,Nat.mod_one]
 rw [hm] at hr
 refine ⟨_,hr,⟨by rw [flat_len tC_len,List.length_replicate],Nat.le_refl _,.inr ⟨_,0,_,rfl,rfl,alloc_blk w _ _,by rw [flat_len tC_len,List.length_replicate]; omega,by rw [List.drop_zero,List.take_of_length_le (by rw [flat_len tC_len,List.length_replicate]; omega)]⟩⟩,alloc_ch w _,by simp⟩
def rowAt (n k:Nat) (g:Nat→Bool):List Bool:=(List.range (n+1)).map fun j=>decide (j<k) && g j
theorem rowAt_get {n k:Nat} {g:Nat→Bool} {i:Nat} (hi:i≤n) (hk:i<k):(rowAt n k g)[i]?=some (g i):=by
 unfold rowAt
 rw [List.getElem?_map,List.getElem?_range (by omega)]
 simp [hk]
theorem rowAt_zero (n:Nat) (g:Nat→Bool):rowAt n 0 g=List.replicate (n+1) false:=by
 apply List.ext_getElem
 ·simp [rowAt]
 ·intro j h1 h2
  simp [rowAt]
theorem rowAt_succ {n k:Nat} {g:Nat→Bool} {v:Bool} (hk:k≤n) (hv:v=g k):((rowAt n k g).flatMap tC).set k (.bool v)=(rowAt n (k+1) g).flatMap tC:=by
 subst hv
 rw [tC_flat,tC_flat]
 apply List.ext_getElem
 ·simp [rowAt]
 ·intro j h1 h2
  simp only [rowAt,List.getElem_set,List.getElem_map,List.getElem_range]
  by_cases hj:k=j
  ·subst hj; simp
  ·rw [if_neg hj,show decide (j<k+1)=decide (j<k) from decide_eq_decide.2 (by omega)]
theorem rowAt_same {n k:Nat} {g:Nat→Bool} (hv:g k=false):rowAt n k g=rowAt n (k+1) g:=by
 unfold rowAt
 apply List.map_congr_left
 intro j _
 by_cases hj:k=j
 ·subst hj; simp [hv]
 ·rw [show decide (j<k+1)=decide (j<k) from decide_eq_decide.2 (by omega)]
theorem rowAt_one {n:Nat} {g:Nat→Bool} (h0:g 0=true) (h:∀ j,0<j→j≤n→g j=false):((List.replicate (n+1) false).flatMap tC).set 0 (.bool true)=(rowAt n (n+1) g).flatMap tC:=by
 rw [← rowAt_zero n g,rowAt_succ (Nat.zero_le _) h0.symm]
 congr 1
 unfold rowAt
 apply List.map_congr_left
 intro j hj
 have hj:=List.mem_range.1 hj
 by_cases h1:j=0
 ·subst h1; simp
 ·rw [h j (by omega) (by omega),Bool.and_false,Bool.and_false]
set_option maxRecDepth 10000 in
theorem likes_ok {s:Bs} (hs:s.length≤2^40) {P:List El} {p0:Option Addr} {c0:Nat} {w:World} (hP:Rd w p0 P.length 3 (P.flatMap eC)) (hPl:P.length≤2^41) {K:Value→World→Prop} (hk:∀ w',Ch (fun _=>False) w w'→K (.bool (mt P (sg s))) w'):callP Tryz.prog 55 [.string ⟨s.toArray⟩,.slice p0 P.length c0] w K:=by
 apply ok_longshoreref16_likes
 refine rsigns_ok hs fun p c ow w1 o1 f1 c1=>⟨_,_,_,rfl,?_⟩
 have hln:=sg_len s
 generalize hG:sg s=G at *
 generalize hn:G.length=n at *
 have ewn:IntKind.wrap .i64 ((n:Int)+1)=((n+1:Nat):Int):=by rw [wrap_id (by omega) (by omega)]; omega
 rw [ewn]
 obtain ⟨w2,r2,o2,c2,z2⟩:=make_bools (w:=w1) (n+1) (by omega)
 refine ⟨_,_,_,_,r2,by omega,by omega,?_⟩
 rw [nn_some]
 obtain ⟨k0,q0,e0,eb,S0⟩:=o2.st (i:=0) (by omega)
 cases e0
 simp only [add_at,Nat.add_zero,Nat.zero_add] at S0 ⊢
 refine S0 _ _ fun w3 o3 c3 z3=>?_
 have hP0:∀ k,k≤n→G.take k=[]→k=0:=fun k hk h=>by have:=congrArg List.length h; rw [List.length_take,hn] at this; simp only [List.length_nil] at this; omega
 rw [rowAt_one (n:=n) (g:=fun k=>mt [] (G.take k)) (by rw [List.take_zero,mt_nil]; rfl) (fun j h1 h2=>by rw [mt_nil]; exact decide_eq_false fun e=>by have:=hP0 j h2 e; omega)] at o3
 have c13:Ch (fun _=>False) w1 w3:=c2.trans c3 fun y hy h=>by omega
 let I:Nat→Option Addr→Nat→Nat→Int→World→Prop:=fun m p2 n2 c2 i w4=>∃ (j:Nat) (ow2:Option Nat),i=(j:Int)∧j≤P.length∧m=P.length-j∧n2=n+1∧Ow w4 p2 (n+1) c2 1 ((rowAt n (n+1) fun k=>mt (P.take j) (G.take k)).flatMap tC) ow2∧Ch (fun _=>False) w1 w4
 refine ⟨I,⟨P.length,0,_,rfl,Nat.zero_le _,rfl,rfl,by rw [List.take_zero]; exact o3,c13⟩,?_⟩
 rintro m p2 n2 c2' i w4 ⟨j,ow2,rfl,hj,rfl,rfl,o4,c14⟩
 refine Sif_cases (fun h=>?_) (fun h=>?_)
 ·have hjl:j<P.length:=by have:=of_decide_eq_true h; omega
  obtain ⟨x,hx⟩:∃ x,P[j]?=some x:=⟨_,List.getElem?_eq_getElem hjl⟩
  have htk:P.take (j+1)=P.take j++[x]:=by rw [List.take_add_one,hx]; rfl
  refine ⟨by omega,by omega,?_⟩
  obtain ⟨kp,qp,rfl,hcp⟩:=(hP.ch (c1.trans' c14) fun _ _ _ h=>h).at eC_len hx (by decide)
  rw [nn_some]
  obtain ⟨b,b1,s1,hcs⟩:∃ b b1 s1,eC x=[.bool b,.bool b1,.string s1]:=by cases x<;>exact ⟨_,_,_,rfl⟩
  simp only [add_at,Nat.add_zero,Nat.zero_add,Int.toNat_natCast]
  refine ⟨b,by simpa using hcp 0 (.bool b) (by rw [hcs]; rfl),b1,hcp 1 (.bool b1) (by rw [hcs]; rfl),s1,hcp 2 (.string s1) (by rw [hcs]; rfl),?_⟩
  refine newB_blk fun w5 b5 c5 z5=>?_
  simp only [add_at,Nat.zero_add]
  refine st_blk b5 (by simp) fun w6 b6 c6 z6=>?_
  refine st_blk b6 (by simp) fun w7 b7 c7 z7=>?_
  refine st_blk b7 (by simp) fun w8 b8 c8 z8=>?_
  have b8:blk w8 w4.heap.size=some [.bool b,.bool b1,.string s1]:=b8
  obtain ⟨w9,r9,o9,c9,z9⟩:=make_bools (w:=w8) (n+1) (by omega)
  refine ⟨_,_,_,_,r9,?_⟩
  have c48:Ch (fun _=>False) w4 w8:=c5.trans ((c6.trans' c7).trans' c8) fun y hy h=>by omega
  have c49:=c48.trans' c9
  have b9:=(c9.blk (blk_lt b8) id).trans b8
  generalize hg:(fun k=>mt (P.take (j+1)) (G.take k))=g
  have gk:∀ k,g k=mt (P.take j++[x]) (G.take k):=fun k=>by rw [← hg,← htk]
  let I1:Nat→Int→World→Prop:=fun m1 i w10=>∃ k:Nat,i=(k:Int)∧k≤n+1∧m1=n+1-k∧Ow w10 (some ⟨w8.heap.size,0,none⟩) (n+1) (n+1) 1 ((rowAt n k g).flatMap tC) (some w8.heap.size)∧Ch (·=w8.heap.size) w9 w10
  refine ⟨I1,⟨n+1,0,rfl,Nat.zero_le _,rfl,by rw [rowAt_zero]; exact o9,Ch.refl _ _⟩,?_⟩
  rintro m1 i w10 ⟨k,rfl,hk1,rfl,o10,c10⟩
  have c410:Ch (fun _=>False) w4 w10:=c49.trans c10 fun y hy h=>by have:=c48.size; omega
  refine Sif_cases (fun h=>?_) (fun h=>?_)
  ·have hkn:k≤n:=by have:=of_decide_eq_true h; omega
   -- a place, written
   have put:∀ {w':World},Ch (·=w8.heap.size) w10 w'→Ow w' (some ⟨w8.heap.size,0,none⟩) (n+1) (n+1) 1 ((rowAt n k g).flatMap tC) (some w8.heap.size)→∀ {v:Bool},v=g k→∀ {K:World→Prop},(∀ w11,Ow w11 (some ⟨w8.heap.size,0,none⟩) (n+1) (n+1) 1 ((rowAt n (k+1) g).flatMap tC) (some w8.heap.size)→Ch (·=w8.heap.size) w10 w11→K w11)→Sv.st w' ⟨w8.heap.size,k,none⟩ (.bool v) K:=by
    intro w' cw ow' v hv K hK
    obtain ⟨k1,q1,e1,eb1,S1⟩:=ow'.st (i:=k) (by omega)
    cases e1
    rw [Nat.zero_add] at S1
    refine S1 _ _ fun w11 o11 c11 z11=>hK w11 (by rw [rowAt_succ hkn hv] at o11; exact o11) (cw.trans' c11)
   let J:World→Prop:=fun w11=>Ow w11 (some ⟨w8.heap.size,0,none⟩) (n+1) (n+1) 1 ((rowAt n (k+1) g).flatMap tC) (some w8.heap.size)∧Ch (·=w8.heap.size) w10 w11
   refine ⟨J,?_,b,cellK ((c10.blk (blk_lt b9) (by have:=blk_lt b8; omega)).trans b9) 0 rfl,?_⟩
   ·rintro w11 ⟨o11,c11⟩
    rw [wrap_id (by omega) (by omega)]
    simp only [nameI]
    exact ⟨n+1-(k+1),by omega,k+1,by omega,by omega,rfl,o11,c10.trans' c11⟩
   have putJ:∀ {w':World},Ch (·=w8.heap.size) w10 w'→Ow w' (some ⟨w8.heap.size,0,none⟩) (n+1) (n+1) 1 ((rowAt n k g).flatMap tC) (some w8.heap.size)→∀ {v:Bool},v=g k→Sv.st w' ⟨w8.heap.size,k,none⟩ (.bool v) J:=by
    intro w' a o v hv
    exact put a o hv fun w11 o11 c11=>⟨o11,c11⟩
   have rdN:∀ {w':World},Ch (·=w8.heap.size) w10 w'→∀ {i:Nat},i≤n→∃ kb q,p2=some ⟨kb,q,none⟩∧w'.cell? ⟨kb,q+i,none⟩=some (.bool (mt (P.take j) (G.take i))):=by
    intro w' cw i hi
    have cc:Ch (fun _=>False) w4 w':=c410.trans cw fun y hy h=>by have:=c48.size; omega
    obtain ⟨kb,q,e,hc⟩:=(o4.rd.ch cc fun _ _ _ h=>h).at tC_len (rowAt_get hi (by omega)) (by decide)
    exact ⟨kb,q,e,by simpa using hc 0 _ rfl⟩
   have rdX:∀ {i:Nat},i<k→i≤n→w10.cell? ⟨w8.heap.size,i,none⟩=some (.bool (g i)):=by
    intro i hi hin
    obtain ⟨kb,q,e,hc⟩:=o10.rd.at tC_len (rowAt_get hin hi) (by decide)
    cases e
    simpa using hc 0 _ rfl
   have hy:0<k→∃ y,G[k-1]?=some y:=fun h0=>⟨_,List.getElem?_eq_getElem (by omega)⟩
   refine Sif_cases (fun hb=>?_) (fun hb=>?_)
   ·-- a row
    have hxr:x=.row:=by cases x<;>first | rfl | (injection hcs with h _; injection h with h; rw [← h] at hb; cases hb)
    subst hxr
    refine ⟨by omega,by omega,?_⟩
    obtain ⟨kb,q,rfl,hc⟩:=rdN (Ch.refl _ _) hkn
    rw [nn_some]
    refine ⟨_,by rw [add_at,Int.toNat_natCast,Nat.mul_one]; exact hc,?_⟩
    refine Sif_cases (fun hm=>?_) (fun hm=>?_)
    ·have hm:mt (P.take j) (G.take k)=false:=by simpa using hm
     refine Sif_cases (fun h0=>?_) (fun h0=>?_)
     ·have h0:0<k:=by have:=of_decide_eq_true h0; omega
      obtain ⟨y,hy⟩:=hy h0
      rw [wrap_id (by omega) (by omega),show ((k:Int)-1)=((k-1:Nat):Int) by omega]
      refine ⟨by omega,by omega,?_⟩
      rw [nn_some]
      refine ⟨_,by rw [add_at,Int.toNat_natCast,Nat.mul_one,Nat.zero_add]; exact rdX (by omega) (by omega),by omega,by omega,?_⟩
      rw [nn_some,add_at,add_at,Int.toNat_natCast,Nat.mul_one,Nat.zero_add,Nat.add_zero]
      refine putJ (Ch.refl _ _) o10 ?_
      have:=now_succ (p:=P.take j) (x:=.row) hy
      rw [show k-1+1=k by omega,if_pos rfl,hm,Bool.false_or] at this
      rw [gk,gk,this]
     ·have h0:k=0:=by have:=of_decide_eq_false h0; omega
      subst h0
      refine ⟨by omega,by omega,?_⟩
      rw [nn_some,add_at,add_at,Int.toNat_natCast,Nat.mul_one,Nat.zero_add]
      refine putJ (Ch.refl _ _) o10 ?_
      rw [gk,now_zero,hm]; rfl
    ·have hm:mt (P.take j) (G.take k)=true:=by simpa using hm
     refine ⟨by omega,by omega,?_⟩
     rw [nn_some,add_at,add_at,Int.toNat_natCast,Nat.mul_one,Nat.zero_add,Nat.add_zero]
     refine putJ (Ch.refl _ _) o10 ?_
     rw [gk]
     by_cases h0:k=0
     ·subst h0; rw [now_zero,hm]; rfl
     ·obtain ⟨y,hy⟩:=hy (by omega)
      have:=now_succ (p:=P.take j) (x:=.row) hy
      rw [show k-1+1=k by omega,if_pos rfl,hm,Bool.true_or] at this
      exact this.symm
   ·have hxr:x≠.row:=fun e=>by subst e; injection hcs with h _; injection h with h; rw [← h] at hb; cases hb
    refine Sif_cases (fun h0=>?_) (fun h0=>?_)
    ·have h0:0<k:=by have:=of_decide_eq_true h0; omega
     obtain ⟨y,hy⟩:=hy h0
     have hgk:g k=(mt (P.take j) (G.take (k-1)) && Note.one x y):=by
      have:=now_succ (p:=P.take j) (x:=x) hy
      rw [show k-1+1=k by omega,if_neg hxr] at this
      rw [gk]; exact this
     rw [wrap_id (by omega) (by omega),show ((k:Int)-1)=((k-1:Nat):Int) by omega]
     refine ⟨by omega,by omega,?_⟩
     obtain ⟨kb,q,rfl,hc⟩:=rdN (Ch.drew w10) (i:=k-1) (by omega)
     rw [nn_some]
     refine ⟨_,by rw [add_at,Int.toNat_natCast,Nat.mul_one]; exact hc,?_⟩
     have od:Ow w10.drew (some ⟨w8.heap.size,0,none⟩) (n+1) (n+1) 1 ((rowAt n k g).flatMap tC) (some w8.heap.size):=o10.ch (Ch.drew (S:=fun _=>False) w10) fun _ _ h=>h
     have bd:blk w10.drew w4.heap.size=some [.bool b,.bool b1,.string s1]:=(c10.blk (blk_lt b9) (by have:=blk_lt b8; omega)).trans b9
     refine Sif_cases (fun hm=>?_) (fun hm=>?_)
     ·refine ⟨b1,cellK bd 1 rfl,?_⟩
      refine Sif_cases (fun ha=>?_) (fun ha=>?_)
      ·have ha:b1=false:=by simpa using ha
       obtain ⟨z,rfl⟩:∃ z,x=.sgn z:=by
        cases x with
        | row=>exact absurd rfl hxr
        | any=>injection hcs with _ h; injection h with h _; injection h with h; rw [← h] at ha; cases ha
        | sgn z=>exact ⟨z,rfl⟩
       have hz:s1=⟨z.toArray⟩:=by injection hcs with _ h; injection h with _ h; injection h with h _; injection h with h; exact h.symm
       subst hz
       refine ⟨by omega,by omega,?_⟩
       obtain ⟨ks,qs,e,hcS⟩:=(o1.rd.ch ((c14.trans' c410).trans' (Ch.drew w10)) fun _ _ _ h=>h).at sC_len hy (by decide)
       subst e
       rw [nn_some]
       refine ⟨_,by rw [add_at,Int.toNat_natCast]; simpa using hcS 0 _ rfl,_,cellK bd 2 rfl,by omega,by omega,?_⟩
       rw [nn_some,add_at,add_at,Int.toNat_natCast,Nat.mul_one,Nat.zero_add,Nat.add_zero,seq3]
       refine putJ (Ch.drew _) od ?_
       rw [hgk,hm]; rfl
      ·have ha:b1=true:=by simpa using ha
       obtain rfl:x=.any:=by
        cases x with
        | row=>exact absurd rfl hxr
        | any=>rfl
        | sgn z=>injection hcs with _ h; injection h with h _; injection h with h; rw [← h] at ha; cases ha
       refine ⟨by omega,by omega,?_⟩
       rw [nn_some,add_at,add_at,Int.toNat_natCast,Nat.mul_one,Nat.zero_add,Nat.add_zero]
       refine putJ (Ch.drew _) od ?_
       rw [hgk,hm]; rfl
     ·refine ⟨by omega,by omega,?_⟩
      rw [nn_some,add_at,add_at,Int.toNat_natCast,Nat.mul_one,Nat.zero_add,Nat.add_zero]
      refine putJ (Ch.drew _) od ?_
      rw [hgk,hm]; rfl
    ·have h0:k=0:=by have:=of_decide_eq_false h0; omega
     subst h0
     refine ⟨?_,Ch.refl _ _⟩
     rw [← rowAt_same (by rw [gk,now_zero,decide_eq_false hxr]; rfl)]
     exact o10
  ·have hkn:k=n+1:=by have:=of_decide_eq_false h; omega
   subst hkn
   rw [wrap_id (by omega) (by omega)]
   simp only [nameI]
   exact ⟨P.length-(j+1),by omega,j+1,_,by omega,by omega,rfl,rfl,by rw [hg]; exact o10,c14.trans' c410⟩
 ·have hjl:j=P.length:=by have:=of_decide_eq_false h; omega
  subst hjl
  refine ⟨by omega,by omega,?_⟩
  rw [List.take_length] at o4
  obtain ⟨kb,q,rfl,hc⟩:=o4.rd.at tC_len (rowAt_get (Nat.le_refl n) (by omega)) (by decide)
  rw [nn_some]
  refine ⟨_,by rw [add_at,Int.toNat_natCast]; simpa using hc 0 _ rfl,?_⟩
  rw [← hn,List.take_length]
  exact hk w4 (c1.trans' c14)
end Go.Proofs.YtnmlmicmhpkbeaaGreatDoor
