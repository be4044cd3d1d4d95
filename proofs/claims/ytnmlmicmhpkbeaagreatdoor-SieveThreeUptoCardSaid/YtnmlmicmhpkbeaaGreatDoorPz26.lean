/-
  Is a term, a message too great for the statements? The document's functions answer (what they answer is not asked here). Floats of 64 bits in plain Lean: which words are finite, how finite ones stand, the whole number below one, sums of whole numbers. No program in sight. What is asked of the code on floats: math.Floor and the like, the program's comparing and reckoning with floats. The chapter's first examples: the walk. Patterns that say a text alone (each %, _ and ! behind a !): the plain law of SieveFits. No program in sight. A text whose signs a pattern would read, escaped: the program's escaped. SieveFits: the law's walk. SieveThree: the law's walk.
-/
import Derived.Test.YtnmlmicmhpkbeaaGreatDoorPz25
import GoSem.Conv.FloatToFloat
set_option linter.unusedVariables false
set_option linter.unusedSimpArgs false
namespace Go.Proofs.YtnmlmicmhpkbeaaGreatDoor
open Go Go.Sv Go.Note
set_option linter.unusedVariables false
attribute [local irreducible] Sif
theorem tall_inv {P:Int→Bs→M→List T→Prop} {k:Int} {t:Bs} {v:MV} {s:SL} {l:List TV} (h:Tall P (TV.mk k t v s l).m):P k t v.m (l.map TV.m)∧∀ y∈l,Tall P y.m:=by
 rw [TV.m_mk] at h
 cases h with
 | mk a b=>exact ⟨a,fun y hy=>b _ (List.mem_map.2 ⟨y,hy,rfl⟩)⟩
theorem tweigh_ok:∀ (x:TV) {Q:Nat→Prop} {n:Int} {w:World} {K:Value→World→Prop},TR Q w x→Tall bndT x.m→(∀ (d:Int) w',Ch (fun _=>False) w w'→K (.int .i64 d) w')→callP Tryz.prog 33 [x.v,.int .i64 n] w K:=by
 refine TV.ind fun k t v s l ih=>?_
 intro Q n w K hx ht hk
 obtain ⟨hb,hkids⟩:=tall_inv ht
 have hln:l.length=s.n:=hx.inv.2.1
 have hs46:s.n≤2^46:=hx.inv.2.2.1
 rw [← tvv]
 apply ok_longshoreref16_weigh
 refine boxT (x:=.mk k t v s l) fun w1 b1 a1 c1 z1=>?_
 simp only [add_at]
 refine ⟨_,a1.k2,_,a1.n3,_,a1.t4,_,_,_,a1.s5,_,a1.e6,?_⟩
 rw [vv]
 have hwt:=wt_sz v.m
 have hvz:v.m.sz≤1048576:=hb.2.1
 refine Great_ok (VR.ch0 c1 hx.inv.1) (show v.m.wt≤2^60 by omega) fun w2 c2=>⟨_,rfl,?_⟩
 have a2:=a1.ch c2 id
 refine ⟨_,a2.t1,by decide,_,a2.t4,by decide,_,_,_,a2.s5,?_⟩
 simp only [nameI_iff]
 refine ⟨fun _ w3=>w3=w2,?_,Sif_cases (fun _=>rfl) (fun _=>rfl)⟩
 rintro n7 w3 rfl
 refine ⟨fun m _ i w4=>∃ j:Nat,i=(j:Int)∧m=s.n-j∧j≤s.n∧Ch (fun _=>False) w1 w4,⟨s.n,0,rfl,rfl,Nat.zero_le _,c2⟩,?_⟩
 rintro m d i w4 ⟨j,rfl,rfl,hj,c4⟩
 have a4:=a1.ch c4 id
 refine ⟨fun w5=>w5=w4∧j<s.n,?_,_,_,_,a4.s7,?_⟩
 ·rintro w5 ⟨rfl,hjl⟩
  obtain ⟨y,hy⟩:∃ y,l[j]?=some y:=⟨l[j]'(by omega),List.getElem?_eq_getElem _⟩
  have hX:=TR.ch0 (c1.trans' c4) hx
  obtain ⟨b,o,hp,_,hat⟩:=hX.at (i:=j) hy
  have hp:s.p=some ⟨b,o,none⟩:=hp
  refine ⟨_,_,_,a4.s7,by omega,(by show (j:Int)<((s.n:Nat):Int); omega),?_⟩
  show nn s.p _
  rw [hp]
  simp only [nn,add_at,Int.toNat_natCast]
  refine rd8 hat ?_
  rw [tvv]
  have hm:=List.mem_of_getElem? hy
  refine ih y hm (hX.inv.2.2.2.2.2 y hm) (hkids y hm) fun d' w6 c6=>⟨_,rfl,?_⟩
  rw [wrap_id (by omega) (by omega)]
  exact ⟨s.n-(j+1),by omega,j+1,by omega,rfl,by omega,c4.trans' c6⟩
 ·refine Sif_cases (fun h=>?_) (fun _=>hk _ w4 (c1.trans' c4))
  have h:(j:Int)<((s.n:Nat):Int):=of_decide_eq_true h
  exact Sif_cases (fun _=>⟨rfl,by omega⟩) (fun _=>hk _ w4 (c1.trans' c4))
theorem tGreat_ok {x:TV} {Q:Nat→Prop} {w:World} {K:Value→World→Prop} (hx:TR Q w x) (ht:Tall bndT x.m) (hk:∀ (b:Bool) w',Ch (fun _=>False) w w'→K (.bool b) w'):callP Tryz.prog 9 [x.v] w K:=by
 rw [← tvv]
 apply ok_longshoreref16_Great
 refine newB_blk fun w1 b1 c1 z1=>?_
 have b1:blk w1 w.heap.size=some x.g:=b1.trans (by cases x; rfl)
 refine ld8a b1 ?_
 rw [tvv]
 exact tweigh_ok x (TR.ch0 c1 hx) ht fun d w2 c2=>⟨_,rfl,hk _ w2 (c1.trans' c2)⟩
theorem GreatAll_ok {L:List MV} {p:Option Addr} {n c:Nat} {Q:Nat→Prop} {w:World} {K:Value→World→Prop} (hr:VRow Q w p n L) (hL:∀ x∈L,x.m.wt≤2^60) (hk:∀ (b:Bool) w',Ch (fun _=>False) w w'→K (.bool b) w') :
 callP Tryz.prog 44 [.slice p n c] w K:=by
 apply ok_longshoreref02_GreatAll
 have hln:=hr.1
 have hn46:=hr.2.1
 refine ⟨fun m d i w1=>∃ j e:Nat,i=(j:Int)∧d=(e:Int)∧m=n-j∧j≤n∧Ch (fun _=>False) w w1,⟨n,0,0,rfl,rfl,rfl,Nat.zero_le _,Ch.refl _ _⟩,?_⟩
 rintro m d i w1 ⟨j,e,rfl,rfl,rfl,hj,c1⟩
 refine ⟨fun w2=>w2=w1∧j<n∧e≤100000,?_,?_⟩
 ·rintro w2 ⟨rfl,hjl,he⟩
  obtain ⟨y,hy⟩:∃ y,L[j]?=some y:=⟨L[j]'(by omega),List.getElem?_eq_getElem _⟩
  have hm:=List.mem_of_getElem? hy
  have hR:=hr.ch0 c1
  obtain ⟨b,o,hp,_,hat⟩:=hR.at hy
  refine ⟨by omega,by omega,?_⟩
  rw [hp]
  simp only [nn]
  refine ldR hat ?_
  rw [vv]
  refine weigh_ok y (hR.2.2.2.2 y hm) (hL y hm) he fun e' w3 c3 _=>⟨_,rfl,?_⟩
  rw [nameI_iff,wrap_id (by omega) (by omega)]
  exact ⟨n-(j+1),by omega,j+1,e',by omega,rfl,rfl,by omega,c1.trans' c3⟩
 ·refine Sif_cases (fun h=>?_) (fun _=>hk _ w1 c1)
  have h:=of_decide_eq_true h
  refine Sif_cases (fun h2=>⟨rfl,by omega,by have:=of_decide_eq_true h2; omega⟩) (fun _=>hk _ w1 c1)
theorem GV.at {g:GV} {w:World} {k:Nat} (h:blk w k=some g.g) {i:Nat} {v:Value} (hi:g.g[i]?=some v):w.cell? ⟨k,i,none⟩=some v:=(cell_blk h i).trans hi
set_option maxRecDepth 100000 in
theorem mGreat_ok {g:GV} {Q:Nat→Prop} {w:World} {K:Value→World→Prop} (hg:GR Q w g) (hb:GB g) (hk:∀ (b:Bool) w',Ch (fun _=>False) w w'→K (.bool b) w'):callP Tryz.prog 16 [g.v] w K:=by
 apply ok_longshoreref11_Great
 refine asAgg_of g.glen ?_
 refine newB_blk fun w1 b1 c1 z1=>?_
 have ev:∀ y:MV,y.g=[.int .i64 y.k,.int .u64 (y.n:Int),.string ⟨y.t.toArray⟩,.slice y.s.p y.s.n y.s.c,.int .i64 y.e]:=fun y=>by cases y; rfl
 simp only [add_at,Nat.zero_add]
 have lk:∀ {w':World} (i:Nat) {v:Value},Ch (fun _=>False) w1 w'→g.g[i]?=some v→w'.cell? ⟨w.heap.size,i,none⟩=some v:=fun i v c hi=>GV.at ((c.blk (blk_lt b1) id).trans b1) hi
 rw [GV.cells] at lk
 have r1:=Ch.refl (fun _=>False) w1
 refine ⟨_,lk 6 r1 rfl,_,lk 7 r1 rfl,_,lk 8 r1 rfl,_,_,_,lk 9 r1 rfl,_,lk 10 r1 rfl,?_⟩
 refine ⟨_,lk 11 r1 rfl,_,lk 12 r1 rfl,_,lk 13 r1 rfl,_,_,_,lk 14 r1 rfl,_,lk 15 r1 rfl,?_⟩
 refine ⟨_,lk 38 r1 rfl,_,lk 39 r1 rfl,_,lk 40 r1 rfl,_,_,_,lk 41 r1 rfl,_,lk 42 r1 rfl,?_⟩
 refine ⟨_,lk 46 r1 rfl,_,lk 47 r1 rfl,_,lk 48 r1 rfl,_,_,_,lk 49 r1 rfl,_,lk 50 r1 rfl,?_⟩
 refine ⟨_,lk 51 r1 rfl,_,lk 52 r1 rfl,_,lk 53 r1 rfl,_,_,_,lk 54 r1 rfl,_,lk 55 r1 rfl,?_⟩
 refine ⟨_,lk 17 r1 rfl,_,lk 18 r1 rfl,_,lk 19 r1 rfl,_,_,_,lk 20 r1 rfl,_,lk 21 r1 rfl,?_⟩
 refine ⟨_,lk 26 r1 rfl,_,lk 27 r1 rfl,_,lk 28 r1 rfl,_,_,_,lk 29 r1 rfl,_,lk 30 r1 rfl,?_⟩
 obtain ⟨L7,hL7⟩:∃ L7,L7=[g.da,g.ma,g.app,g.val,g.foot,g.mid,g.cor]:=⟨_,rfl⟩
 have h7:L7.length=7:=by rw [hL7]; rfl
 refine newB_blk fun w2 b2 c2 z2=>?_
 have b2:blk w2 w1.heap.size=some (L7.flatMap MV.g):=b2.trans (congrArg some (by
  rw [hL7]
  simp only [List.flatMap_cons,List.flatMap_nil,ev]
  rfl))
 refine ⟨_,_,_,lk 45 c2 rfl,?_⟩
 have c02:=c1.trans' c2
 have ho:Ow w2 (some ⟨w1.heap.size,0,none⟩) 7 7 5 (L7.flatMap MV.g) (some w1.heap.size):=by
  have hl:(L7.flatMap MV.g).length=7*5:=by rw [flat_len MV.glen,h7]
  exact ⟨hl,Nat.le_refl _,.inr ⟨_,0,_,rfl,rfl,b2,by omega,by rw [List.drop_zero,List.take_of_length_le (by omega)]⟩⟩
 have hs:=(GR.ch0 c02 hg).seqs
 have hsl:g.sl.length=g.sn:=hs.1
 have hsn:=hb.sn
 obtain ⟨p',c',w3,b',r1',r2,r3,r4,_⟩:=append_rd (ty:=23) (c2:=g.sc) uVals uVals iVal rfl ho hs.2.2.1 (fun u hu=>by obtain ⟨y,_,hy⟩:=List.mem_flatMap.1 hu; exact MV.gone y u hy) (by omega) (by omega)
 refine ⟨_,_,_,_,r1',?_⟩
 have hs1:=c1.size
 have kq:∀ b,(b<w.heap.size)→¬ (some w1.heap.size=some b):=fun b hb q=>by
  have:=Option.some.inj q
  omega
 have old:∀ x,VR Q w x→VR (fun _=>True) w3 x:=fun x h=>VR.mono (fun _ _=>trivial) x (VR.ch (Q:=fun b=>Q b∧b<w.heap.size) r4 (fun b hb=>kq b hb.2) x (VR.ch0 c02 (VR.lt x h)))
 have wtb:∀ x:MV,x.m.sz≤1048576→x.m.wt≤2^60:=fun x h=>Nat.le_trans (wt_sz x.m) (Nat.le_trans h (by decide))
 refine GreatAll_ok (L:=L7++g.sl) (Q:=fun _=>True) ⟨by rw [List.length_append,h7,hsl],by omega,by rw [List.flatMap_append]; exact r2.rd,fun _ _ _=>trivial,fun x hx=>?_⟩ (fun x hx=>?_) fun b w4 c4=>⟨_,rfl,?_⟩
 ·rcases List.mem_append.1 hx with hx | hx
  ·rw [hL7] at hx
   simp only [List.mem_cons,List.not_mem_nil,or_false] at hx
   rcases hx with rfl | rfl | rfl | rfl | rfl | rfl | rfl
   ·exact old _ hg.da
   ·exact old _ hg.ma
   ·exact old _ hg.app
   ·exact old _ hg.val
   ·exact old _ hg.foot
   ·exact old _ hg.mid
   ·exact old _ hg.cor
  ·exact old x (hg.seqs.2.2.2.2 x hx)
 ·rcases List.mem_append.1 hx with hx | hx
  ·rw [hL7] at hx
   simp only [List.mem_cons,List.not_mem_nil,or_false] at hx
   rcases hx with rfl | rfl | rfl | rfl | rfl | rfl | rfl
   ·exact wtb _ hb.da.2
   ·exact wtb _ hb.ma.2
   ·exact wtb _ hb.app.2
   ·exact wtb _ hb.val.2
   ·exact wtb _ hb.foot.2
   ·exact wtb _ hb.mid.2
   ·exact wtb _ hb.cor.2
  ·exact wtb x (hb.sl x hx).2
 ·have cf:Ch (fun _=>False) w w4:=(c02.trans r4 fun y hy q=>(kq y hy q).elim).trans' c4
  have b4:blk w4 w.heap.size=some g.g:=by
   have h1:blk w2 w.heap.size=some g.g:=(c2.blk (blk_lt b1) id).trans b1
   have h3:blk w3 w.heap.size=some g.g:=(r4.blk (blk_lt h1) (fun q=>by have:=Option.some.inj q; have:=blk_lt b1; omega)).trans h1
   exact (c4.blk (blk_lt h3) id).trans h3
  refine Sif_cases (fun _=>?_) (fun _=>hk _ w4 cf)
  refine ⟨_,_,_,GV.at b4 (i:=44) (by rw [GV.cells]; rfl),hk _ w4 cf⟩
end Go.Proofs.YtnmlmicmhpkbeaaGreatDoor
namespace Go.Note
open Go
set_option linter.unusedVariables false
theorem fin64_read {x:Nat} (h:fin64 x=true):∃ s m e,DB.read x=.number s m e∧-1074≤e∧m<2^53:=by
 unfold fin64 at h
 have h:=of_decide_eq_true h
 unfold Ieee.Format.read
 simp only [db_sign,db_binade,db_inf,db_least]
 by_cases h1:x%2^63<2^52
 ·rw [if_pos h1]; exact ⟨_,_,_,rfl,by omega,by omega⟩
 ·rw [if_neg h1,if_pos (by omega)]; exact ⟨_,_,_,rfl,by omega,by omega⟩
theorem valF_of {x:Nat} {s:Bool} {m:Nat} {e:Int} (h:DB.read x=.number s m e):valF x=sc s m e:=by unfold valF; rw [h]
theorem order_fin {x y:Nat} (hx:fin64 x=true) (hy:fin64 y=true):DB.order x y=some (compare (valF x) (valF y)):=by
 obtain ⟨s,m,e,hr,he,_⟩:=fin64_read hx
 obtain ⟨t,n,j,hs,hj,_⟩:=fin64_read hy
 unfold Ieee.Format.order
 rw [valF_of hr,valF_of hs,hr,hs,order_sc he hj]
theorem neg_fin (x:Nat):fin64 (negF x)=fin64 x:=by
 have e:negF x / 2^52%2048=x / 2^52%2048:=by
  show (x ^^^ 2^63) / 2^52%2^11=_
  rw [← Nat.shiftRight_eq_div_pow,Nat.shiftRight_xor_distrib,Nat.xor_mod_two_pow,show (2^63 >>> 52)%2^11=0 by decide,Nat.xor_zero,Nat.shiftRight_eq_div_pow]
 unfold fin64
 rw [e]
theorem neg_lt {x:Nat} (h:x<2^64):negF x<2^64:=Nat.xor_lt_two_pow h (by decide)
theorem word_lt {neg:Bool} {r:Nat} (hr:r<2^63):DB.word neg r<2^64:=by
 unfold Ieee.Format.word
 rw [db_sign]
 split<;>omega
theorem nearest_lt (neg:Bool) (mag:Nat) (place:Int):DB.nearest neg mag place<2^64:=by
 unfold Ieee.Format.nearest
 split
 ·exact word_lt (by omega)
 ·refine word_lt (Nat.lt_of_le_of_lt (Nat.min_le_right _ _) ?_)
  rw [db_inf]; omega
theorem write_lt (d:Ieee.Datum):DB.write d<2^64:=by
 unfold Ieee.Format.write
 cases d with
 | number s m e=>exact nearest_lt _ _ _
 | infinity s=>exact word_lt (by rw [db_inf]; omega)
 | nan s f =>
  refine word_lt ?_
  rw [db_inf,db_binade]
  have:=Nat.mod_lt f (show 0<2^52 by decide)
  omega
theorem word_fin {neg:Bool} {r:Nat} (hr:r<2047*2^52):fin64 (DB.word neg r)=true:=by
 unfold fin64 Ieee.Format.word
 rw [db_sign]
 refine decide_eq_true ?_
 split<;>omega
theorem word_inf (neg:Bool):fin64 (DB.word neg DB.infRung)=false:=by cases neg<;>decide +kernel
theorem cut_le (neg:Bool) (n drop:Nat):Ieee.Toward.even.cut neg n drop≤n / 2^drop+1:=by
 have hb:∀ b:Bool,b.toNat≤1:=fun b=>by cases b<;>decide
 have key:n / 2^(min drop (n.log2+2))=n / 2^drop:=by
  by_cases h:drop≤n.log2+2
  ·rw [Nat.min_eq_left h]
  ·rw [Nat.min_eq_right (by omega)]
   have h1:n<2^(n.log2+1):=Nat.lt_log2_self
   have h2:2^(n.log2+1)≤2^(n.log2+2):=Nat.pow_le_pow_right (by omega) (by omega)
   have h3:2^(n.log2+2)≤2^drop:=Nat.pow_le_pow_right (by omega) (by omega)
   rw [Nat.div_eq_of_lt (by omega),Nat.div_eq_of_lt (by omega)]
 unfold Ieee.Toward.cut
 simp only [Nat.one_shiftLeft,key]
 exact Nat.add_le_add_left (hb _) _
theorem nearest_fin {neg:Bool} {mag:Nat} {place:Int} (hm:mag<2^64) (h1:-1074≤place) (h2:place≤900):fin64 (DB.nearest neg mag place)=true:=by
 unfold Ieee.Format.nearest
 by_cases h0:mag=0
 ·rw [if_pos h0]; exact word_fin (by omega)
 rw [if_neg h0]
 simp only [db_frac,db_least,db_binade,db_inf]
 have hlog:mag.log2<64:=(Nat.log2_lt h0).2 hm
 have hlt:mag<2^(mag.log2+1):=Nat.lt_log2_self
 generalize mag.log2=lg at hlog hlt ⊢
 obtain ⟨L,hL⟩:∃ L,L=max (place+(lg:Int)-((52:Nat):Int)) (-1074):=⟨_,rfl⟩
 rw [← hL]
 have hk:Ieee.Toward.even.cut neg (mag <<< (place-L).toNat) (L-place).toNat≤2^53:=by
  by_cases hle:L≤place
  ·rw [show (L-place).toNat=0 by omega,cut_exact neg _ 0 _ (by rw [Nat.pow_zero,Nat.mul_one]),Nat.shiftLeft_eq]
   have:mag*2^(place-L).toNat≤2^(lg+1)*2^(place-L).toNat:=Nat.mul_le_mul_right _ (Nat.le_of_lt hlt)
   rw [← Nat.pow_add] at this
   exact Nat.le_trans this (Nat.pow_le_pow_right (by omega) (by omega))
  ·rw [show (place-L).toNat=0 by omega,Nat.shiftLeft_zero]
   refine Nat.le_trans (cut_le _ _ _) ?_
   have:mag / 2^(L-place).toNat<2^53:=by
    apply Nat.div_lt_of_lt_mul
    rw [← Nat.pow_add]
    exact Nat.lt_of_lt_of_le hlt (Nat.pow_le_pow_right (by omega) (by omega))
   omega
 generalize Ieee.Toward.even.cut neg (mag <<< (place-L).toNat) (L-place).toNat=kept at hk ⊢
 have:(L - -1074).toNat≤2044:=by omega
 rw [Nat.min_eq_left (by omega)]
 exact word_fin (by omega)
theorem flI_ok {n:Int} (h:n.natAbs<2^64):fin64 (flI n)=true∧flI n<2^64:=by
 unfold flI FloatKind.nearest FloatKind.encode
 exact ⟨nearest_fin (place:=0) h (by omega) (by omega),write_lt _⟩
theorem read32 {x:Nat} (hx:x<2^32):(x / 2^23%256≠255→∃ s m e,Ieee.single.read x=.number s m e∧m<2^24∧-149≤e∧e≤104) ∧
 (x / 2^23%256=255→(∃ s,Ieee.single.read x=.infinity s)∨∃ s f,Ieee.single.read x=.nan s f):=by
 have e1:Ieee.single.signWeight=2^31:=rfl
 have e2:Ieee.single.binade=2^23:=rfl
 have e3:Ieee.single.infRung=255*2^23:=by decide +kernel
 have e4:Ieee.single.leastPlace=-149:=by decide
 unfold Ieee.Format.read
 simp only [e1,e2,e3,e4]
 constructor
 ·intro h
  by_cases h1:x%2^31<2^23
  ·rw [if_pos h1]; exact ⟨_,_,_,rfl,by omega,by omega,by omega⟩
  ·rw [if_neg h1,if_pos (by omega)]; exact ⟨_,_,_,rfl,by omega,by omega,by omega⟩
 ·intro h
  rw [if_neg (by omega),if_neg (by omega)]
  split
  ·exact .inl ⟨_,rfl⟩
  ·exact .inr ⟨_,_,rfl⟩
theorem fl32_ok {x:Nat} (hx:x<2^32) (h:x / 2^23%256≠255):fin64 (fl32 x)=true∧fl32 x<2^64:=by
 obtain ⟨s,m,e,hr,h1,h2,h3⟩:=(read32 hx).1 h
 unfold fl32
 rw [hr]
 exact ⟨nearest_fin (by omega) (by omega) (by omega),write_lt _⟩
theorem nan_fin {x:Nat} (h:∀ s m e,DB.read x≠.number s m e):fin64 x=false:=by
 cases hf:fin64 x with
 | false=>rfl
 | true =>
  obtain ⟨s,m,e,hr,_⟩:=fin64_read hf
  exact absurd hr (h _ _ _)
theorem mix_law {a v V q:Int} (hV:0<V) (hq:q=v / V):sgnI (a*V) v=if a≠q then sgnI a q else if q*V<v then -1 else 0:=by
 have h1:q*V≤v:=by rw [hq]; exact Int.ediv_mul_le _ (by omega)
 have h2:v<(q+1)*V:=by rw [hq]; exact Int.lt_ediv_add_one_mul_self _ hV
 have mono:∀ {x y:Int},x≤y→x*V≤y*V:=fun h=>Int.mul_le_mul_of_nonneg_right h (by omega)
 unfold sgnI
 by_cases h:a=q
 ·rw [h,if_neg (c:=q≠q) (fun z=>z rfl)]
  by_cases h3:q*V<v
  ·rw [if_pos h3,if_pos h3]
  ·rw [if_neg h3,if_neg (show ¬ v<q*V by omega),if_neg h3]
 ·rw [if_pos (c:=a≠q) h]
  by_cases h3:a<q
  ·have:=mono (x:=a+1) (y:=q) (by omega)
   rw [Int.add_mul,Int.one_mul] at this
   rw [if_pos h3,if_pos (show a*V<v by omega)]
  ·have:=mono (x:=q+1) (y:=a) (by omega)
   rw [if_neg h3,if_pos (show q<a by omega),if_neg (show ¬ a*V<v by omega),if_pos (show v<a*V by omega)]
theorem V74_pos:(0:Int)<(V74:Int):=by
 obtain ⟨E,_,hE⟩:=V74_def
 rw [hE]
 exact Int.natCast_pos.2 (Nat.two_pow_pos _)
theorem val63:valF 4890909195324358656=9223372036854775808*(V74:Int):=by decide +kernel
theorem val63n:valF 14114281232179134464=-9223372036854775808*(V74:Int):=by decide +kernel
theorem floor_law {x:Nat} (h:fin64 x=true) (hlo:-9223372036854775808*(V74:Int)≤valF x) (hhi:valF x<9223372036854775808*(V74:Int)) :
 ∃ (s:Bool) (m:Nat) (e:Int) (y:Nat) (q:Int),FloatKind.f64.decode x=.number s m e∧FloatKind.f64.encode ((Ieee.Datum.number s m e).integral .down)=y∧y<2^64∧q=valF x / (V74:Int)∧-9223372036854775808≤q∧q≤9223372036854775807 ∧
  (FloatKind.f64.decode y).toInt .zero=some q∧DB.order y x=some (compare (q*(V74:Int)) (valF x)):=by
 obtain ⟨s,m,e,hr,he,hm⟩:=fin64_read h
 have hv:=valF_of hr
 have hV:=V74_pos
 obtain ⟨M,hM1,hM2,hM3,hM4⟩:=int_sc .down (.inl rfl) (s:=s) (m:=m) he
 rw [if_pos rfl,← hv] at hM2
 obtain ⟨q,hq⟩:∃ q,q=valF x / (V74:Int):=⟨_,rfl⟩
 have hq1:-9223372036854775808≤q:=by rw [hq]; exact Int.le_ediv_of_mul_le hV hlo
 have hq2:q<9223372036854775808:=by rw [hq]; exact Int.ediv_lt_of_lt_mul hV hhi
 rw [← hq] at hM2
 have hM:M<2^64:=by
  unfold Ieee.signed at hM2
  rw [Nat.shiftLeft_zero] at hM2
  cases s
  ·simp only [Bool.false_eq_true,if_false] at hM2; omega
  ·simp only [if_true] at hM2; omega
 obtain ⟨k,l,hk1,hl,hsc⟩:=whole_read (s:=s) (m:=m) (i:=e) hm hM3 hM4 hM
 rw [hM2] at hsc
 refine ⟨s,m,e,DB.write (.number s M 0),q,hr,?_,write_lt _,hq,hq1,by omega,?_,?_⟩
 ·rw [hM1]; rfl
 ·show (DB.read (DB.write (.number s M 0))).toInt .zero=some q
  obtain ⟨M',i1,i2,_⟩:=int_sc .zero (.inr rfl) (s:=s) (m:=k) hl
  rw [hk1]
  unfold Ieee.Datum.toInt
  rw [i1]
  show some (Ieee.signed s M' 0)=some q
  rw [i2,hsc,if_neg (by decide),Int.mul_tdiv_cancel _ (by omega)]
 ·unfold Ieee.Format.order
  rw [hk1,hr,order_sc hl he,hsc,hv]
theorem wrap_i64 (n:Int):IntKind.i64.wrap n=(n+9223372036854775808)%18446744073709551616-9223372036854775808:=by
 simp [IntKind.wrap,IntKind.bits,IntKind.signed]
 split<;>omega
theorem ex_plus {a b:Int} (ha:-9223372036854775808≤a∧a≤9223372036854775807) (hb:-9223372036854775808≤b∧b≤9223372036854775807):(decide (0≤b) == decide (a≤IntKind.i64.wrap (a+b)))=in64 (a+b):=by
 rw [wrap_i64,Bool.eq_iff_iff]
 unfold in64
 simp only [beq_iff_eq,decide_eq_decide,Bool.and_eq_true,decide_eq_true_eq]
 omega
theorem ex_minus {a b:Int} (ha:-9223372036854775808≤a∧a≤9223372036854775807) (hb:-9223372036854775808≤b∧b≤9223372036854775807):(decide (0≤b) == decide (IntKind.i64.wrap (a-b)≤a))=in64 (a-b):=by
 rw [wrap_i64,Bool.eq_iff_iff]
 unfold in64
 simp only [beq_iff_eq,decide_eq_decide,Bool.and_eq_true,decide_eq_true_eq]
 omega
theorem in64_iff {n:Int}:in64 n=true↔-9223372036854775808≤n∧n≤9223372036854775807:=by
 unfold in64
 simp
theorem wrap_in {n:Int} (h:in64 n=true):IntKind.i64.wrap n=n:=by
 have:=in64_iff.1 h
 rw [wrap_i64]; omega
theorem tdiv_in {a b:Int} (ha:-9223372036854775808≤a∧a≤9223372036854775807) (hm:¬ (a=-9223372036854775808∧b=-1)):in64 (a.tdiv b)=true:=by
 apply in64_iff.2
 by_cases h0:b=0
 ·subst h0; rw [Int.tdiv_zero]; omega
 by_cases h1:b=1
 ·subst h1; rw [Int.tdiv_one]; exact ha
 by_cases h2:b=-1
 ·subst h2
  rw [show (-1:Int)=-(1:Int) by rfl,Int.tdiv_neg,Int.tdiv_one]; omega
 have:(a.tdiv b).natAbs*2≤a.natAbs:=by
  rw [Int.natAbs_tdiv]
  have h3:2≤b.natAbs:=by omega
  calc a.natAbs / b.natAbs*2≤a.natAbs / b.natAbs*b.natAbs:=Nat.mul_le_mul_left _ h3
   _≤a.natAbs:=Nat.div_mul_le_self _ _
 omega
theorem ex_times {a b:Int} (ha:-9223372036854775808≤a∧a≤9223372036854775807) (hb:-9223372036854775808≤b∧b≤9223372036854775807) (hb0:b≠0) (hm:¬ (a=-9223372036854775808∧b=-1)) :
 (IntKind.i64.wrap (Int.tdiv (IntKind.i64.wrap (a*b)) b) == a)=in64 (a*b):=by
 rw [Bool.eq_iff_iff,beq_iff_eq]
 constructor
 ·intro h
  apply Classical.byContradiction
  intro hn
  have hw:=wrap_i64 (a*b)
  obtain ⟨t,ht⟩:∃ t:Int,IntKind.i64.wrap (a*b)=a*b-t*18446744073709551616:=⟨(a*b+9223372036854775808) / 18446744073709551616,by rw [hw]; omega⟩
  have hr:-9223372036854775808≤IntKind.i64.wrap (a*b)∧IntKind.i64.wrap (a*b)≤9223372036854775807:=by rw [hw]; omega
  have ht0:t≠0:=by
   rintro rfl
   refine hn (in64_iff.2 ?_)
   omega
  generalize IntKind.i64.wrap (a*b)=c at h ht hr
  by_cases hc:c=-9223372036854775808∧b=-1
  ·obtain ⟨rfl,rfl⟩:=hc
   rw [show a * -1=-a by omega] at hn
   exact hn (in64_iff.2 (by omega))
  ·rw [wrap_in (tdiv_in hr hc)] at h
   have hd:=Int.mul_tdiv_add_tmod c b
   have hab:b*c.tdiv b=a*b:=by rw [h,Int.mul_comm]
   rw [hab] at hd
   have habs:(c.tmod b).natAbs<b.natAbs:=by
    rw [Int.natAbs_tmod]
    exact Nat.mod_lt _ (by omega)
   generalize a*b=z at *
   omega
 ·intro h
  rw [wrap_in h,Int.mul_tdiv_cancel _ hb0,wrap_in (in64_iff.2 ha)]
theorem fop_lt {k:Int} {x y z:Nat} (h:fop k x y=some z):z<2^64:=by
 have key:∀ {o:Option Ieee.Datum},o.map DB.write=some z→z<2^64:=fun h=>by
  obtain ⟨d,_,rfl⟩:=Option.map_eq_some_iff.1 h
  exact write_lt d
 unfold fop at h
 split at h
 ·exact key h
 split at h
 ·exact key h
 split at h
 ·exact key h
 ·exact key h
theorem zero_fin:fin64 0=true:=by decide
theorem valF_zero:valF 0=0:=by decide +kernel
theorem fop_some {k:Int} {x y:Nat} (hx:fin64 x=true) (hy:fin64 y=true) (h:¬ (k=16∨k=17∨k=18)→DB.order y 0≠some .eq):∃ z,fop k x y=some z:=by
 obtain ⟨s,m,e,hr,he,_⟩:=fin64_read hx
 obtain ⟨t,n,j,hs,hj,_⟩:=fin64_read hy
 unfold fop
 by_cases h1:k=16
 ·rw [if_pos h1]; unfold Ieee.Format.add; rw [hr,hs]; exact ⟨_,rfl⟩
 by_cases h2:k=17
 ·rw [if_neg h1,if_pos h2]; unfold Ieee.Format.sub; rw [hr,hs]; exact ⟨_,rfl⟩
 by_cases h3:k=18
 ·rw [if_neg h1,if_neg h2,if_pos h3]; unfold Ieee.Format.mul; rw [hr,hs]; exact ⟨_,rfl⟩
 rw [if_neg h1,if_neg h2,if_neg h3]
 have h:=h (by omega)
 rw [order_fin hy zero_fin,valF_of hs,valF_zero] at h
 have hn:n≠0:=by
  rintro rfl
  refine h ?_
  have:sc t 0 j=0:=by unfold sc; cases t<;>simp
  rw [this]; rfl
 unfold Ieee.Format.div
 rw [hr,hs]
 show ∃ z,Option.map _ (Ieee.Datum.quotient _ (.number s m e) (.number t n j))=some z
 unfold Ieee.Datum.quotient
 simp only [if_neg hn]
 exact ⟨_,rfl⟩
theorem exactW_in {k a b n:Int} (h:exactW k a b=some n):-9223372036854775808≤n∧n≤9223372036854775807:=by
 apply in64_iff.1
 unfold exactW at h
 split at h
 ·split at h
  ·cases h; assumption
  ·cases h
 split at h
 ·split at h
  ·cases h; assumption
  ·cases h
 split at h
 ·split at h
  ·cases h; assumption
  ·cases h
 split at h
 ·cases h
 ·split at h
  ·rename_i hh
   cases h
   simp only [Bool.and_eq_true] at hh
   exact hh.1
  ·cases h
theorem fin64_top {x:Nat} (h:fin64 x=true):∃ s m e,DB.read x=.number s m e∧-1074≤e∧m≤2^53-1∧e≤971:=by
 unfold fin64 at h
 have h:=of_decide_eq_true h
 unfold Ieee.Format.read
 simp only [db_sign,db_binade,db_inf,db_least]
 by_cases h1:x%2^63<2^52
 ·rw [if_pos h1]; exact ⟨_,_,_,rfl,by omega,by omega,by omega⟩
 ·rw [if_neg h1,if_pos (by omega)]; exact ⟨_,_,_,rfl,by omega,by omega,by omega⟩
theorem not_fin {x:Nat} (h:fin64 x=false):(∃ s,DB.read x=.infinity s∧DB.read (x%2^63)=.infinity false)∨∃ s f,DB.read x=.nan s f:=by
 unfold fin64 at h
 have h:=of_decide_eq_false h
 have rd:∀ y,y%2^63=x%2^63→DB.read y=if x%2^63=2047*2^52 then .infinity (y / 2^63%2 == 1) else .nan (y / 2^63%2 == 1) (x%2^63-2047*2^52):=by
  intro y hy
  unfold Ieee.Format.read
  simp only [db_sign,db_binade,db_inf,db_least]
  rw [hy,if_neg (show ¬ x%2^63<2^52 by omega),if_neg (show ¬ x%2^63<2047*2^52 by omega)]
 by_cases h1:x%2^63=2047*2^52
 ·left
  rw [rd x rfl,rd (x%2^63) (Nat.mod_mod _ _),if_pos h1,if_pos h1]
  exact ⟨_,rfl,by rw [show x%2^63 / 2^63=0 from Nat.div_eq_of_lt (Nat.mod_lt _ (by decide))]; rfl⟩
 ·right
  rw [rd x rfl,if_neg h1]
  exact ⟨_,_,rfl⟩
theorem max_read:DB.read 9218868437227405311=.number false 9007199254740991 971:=by decide +kernel
theorem nan_law (x:Nat):(DB.order x x != some .eq)=true↔∃ s f,DB.read x=.nan s f:=by
 unfold Ieee.Format.order
 cases h:DB.read x with
 | number s m e =>
  have:Ieee.Datum.order (.number s m e) (.number s m e)=some .eq:=by
   unfold Ieee.Datum.order
   simp only [compare,compareOfLessAndEq,Int.lt_irrefl,if_false,if_true]
  rw [this]; simp
 | infinity s=>cases s<;>simp [Ieee.Datum.order]
 | nan s f=>simp [Ieee.Datum.order]
theorem inf_law {x:Nat} (hn:¬ ∃ s f,DB.read x=.nan s f):(DB.order (x%2^63) 9218868437227405311 == some .gt)=!fin64 x:=by
 cases hf:fin64 x with
 | false =>
  rcases not_fin hf with ⟨s,h1,h2⟩ | h
  ·unfold Ieee.Format.order
   rw [h2,max_read]; rfl
  ·exact absurd h hn
 | true =>
  have hf2:fin64 (x%2^63)=true:=by
   unfold fin64 at hf ⊢
   have:=of_decide_eq_true hf
   exact decide_eq_true (by omega)
  obtain ⟨s,m,e,hr,he,hm,he2⟩:=fin64_top hf2
  unfold Ieee.Format.order
  rw [hr,max_read,order_sc he (by omega)]
  have hle:sc s m e≤sc false 9007199254740991 971:=by
   have h1:m*2^(e+1074).toNat≤9007199254740991*2^((971:Int)+1074).toNat:=Nat.mul_le_mul (by omega) (Nat.pow_le_pow_right (by omega) (by omega))
   unfold sc
   generalize m*2^(e+1074).toNat=a at *
   generalize 9007199254740991*2^((971:Int)+1074).toNat=b at *
   cases s
   ·simp only [Bool.false_eq_true,if_false]; omega
   ·simp only [if_true,Bool.false_eq_true,if_false]; omega
  generalize sc s m e=a at *
  generalize sc false 9007199254740991 971=b at *
  simp only [compare,compareOfLessAndEq]
  by_cases h1:a<b
  ·rw [if_pos h1]; rfl
  ·rw [if_neg h1,if_pos (by omega)]; rfl
end Go.Note
namespace Go.Proofs.YtnmlmicmhpkbeaaGreatDoor
open Go Go.Sv Go.Note
set_option linter.unusedVariables false
attribute [local irreducible] Sif
theorem isNaN_ok {x:Nat} {w:World} {K:Value→World→Prop} (hk:K (.bool (DB.order x x != some .eq)) w):callP Tryz.prog 189 [.float .f64 x] w K:=by
 apply ok_math_IsNaN
 exact hk
theorem andNot63 {x:Nat} (hx:x<18446744073709551616):bitsV .andNot .u64 (x:Int) 9223372036854775808=((x%2^63:Nat):Int):=by
 have e:bitsV .andNot .u64 (x:Int) 9223372036854775808=IntKind.wrap .u64 ((BitVec.ofInt 64 (x:Int) &&& ~~~ BitVec.ofInt 64 9223372036854775808).toNat:Int):=rfl
 have o:∀ n:Nat,BitVec.ofInt 64 (n:Int)=BitVec.ofNat 64 n:=fun n=>by
  apply BitVec.eq_of_toNat_eq
  simp [BitVec.toNat_ofInt]
 have q:(~~~ BitVec.ofInt 64 9223372036854775808:BitVec 64)=BitVec.ofNat 64 (2^63-1):=by decide
 rw [e,o,q,BitVec.toNat_and,BitVec.toNat_ofNat,BitVec.toNat_ofNat,Nat.mod_eq_of_lt hx,Nat.mod_eq_of_lt (by omega:2^63-1<2^64),Nat.and_two_pow_sub_one_eq_mod]
 unfold IntKind.wrap
 simp [IntKind.bits,IntKind.signed]
 omega
theorem abs_ok {x:Nat} (hx:x<2^64) {w:World} {K:Value→World→Prop} (hk:K (.float .f64 (x%2^63)) w):callP Tryz.prog 224 [.float .f64 x] w K:=by
 apply ok_math_Abs
 refine ⟨.int .u64 (x:Int),w,?_,_,rfl,?_⟩
 ·rw [run_callFunc_extern Tryz.func46 (by kernel_rfl) (by kernel_rfl) (by kernel_rfl) (e:=Extern.MathFloatBits.float64bits) (by kernel_rfl)]
  rfl
 rw [andNot63 hx]
 refine ⟨.float .f64 (x%2^63),w,?_,_,rfl,hk⟩
 rw [run_callFunc_extern Tryz.func114 (by kernel_rfl) (by kernel_rfl) (by kernel_rfl) (e:=Extern.MathFloatBits.float64frombits) (by kernel_rfl)]
 rfl
theorem isInf_ok {x:Nat} (hx:x<2^64) {w:World} {K:Value→World→Prop} (hk:K (.bool (DB.order (x%2^63) 9218868437227405311 == some .gt)) w):callP Tryz.prog 190 [.float .f64 x,.int .i64 0] w K:=by
 apply ok_math_IsInf
 refine ⟨fun b w1=>b=x%2^63∧w1=w,?_,?_⟩
 ·rintro b w1 ⟨rfl,rfl⟩; exact hk
 ·exact Sif_true (abs_ok hx ⟨_,rfl,rfl,rfl⟩)
theorem finite_ok {x:Nat} (o:W) (hx:x<2^64) {w:World} {K:Value→World→Prop} (hk:∀ w',Ch (fun _=>False) w w'→K (finW x o).val w'):callP Tryz.prog 148 [.float .f64 x,o.val] w K:=by
 apply ok_sieve_finite
 have hk:=hk w (Ch.refl _ _)
 unfold finW at hk
 refine ⟨fun w1=>w1=w∧fin64 x=true,?_,?_⟩
 ·rintro w1 ⟨rfl,h⟩
  rw [if_pos h] at hk; exact hk
 ·refine isNaN_ok ⟨_,rfl,?_⟩
  refine Sif_cases (fun h=>?_) (fun h=>?_)
  ·have hn:¬ ∃ s f,DB.read x=.nan s f:=fun q=>by
    have:=(nan_law x).2 q
    rw [this] at h; cases h
   refine isInf_ok hx ⟨_,rfl,?_⟩
   rw [inf_law hn]
   refine Sif_cases (fun h=>?_) (fun h=>?_)
   ·have h:fin64 x=false:=by simpa using h
    rw [if_neg (by rw [h]; decide)] at hk; exact hk
   ·exact ⟨rfl,by simpa using h⟩
  ·have h:(DB.order x x != some .eq)=true:=by simpa using h
   obtain ⟨s,f,hr⟩:=(nan_law x).1 h
   rw [if_neg (by rw [nan_fin fun s m e q=>by rw [hr] at q; cases q]; decide)] at hk
   exact hk
theorem floor_ok {x y:Nat} {s:Bool} {m:Nat} {e:Int} (hr:FloatKind.f64.decode x=.number s m e) (hy:FloatKind.f64.encode ((Ieee.Datum.number s m e).integral .down)=y) {w:World} {K:Value→World→Prop} (hk:K (.float .f64 y) w):callP Tryz.prog 226 [.float .f64 x] w K:=by
 apply ok_math_Floor
 refine ⟨.float .f64 y,w,?_,_,rfl,hk⟩
 rw [run_callFunc_extern Tryz.func271 (by kernel_rfl) (by kernel_rfl) (by kernel_rfl) (e:=Extern.MathFloor.toIntegral "math.archFloor" .down) (by kernel_rfl)]
 have e:Extern.MathFloor.toIntegral "math.archFloor" .down #[.float .f64 x]=pure (.float .f64 y):=by
  show (match FloatKind.f64.decode x with
   | .nan s t=>_
   | d=>(pure (Value.float .f64 (FloatKind.f64.encode (d.integral .down))):Sem Value))=_
  rw [hr]
  exact congrArg (fun z=>(pure (Value.float .f64 z):Sem Value)) hy
 rw [e]
 rfl
theorem gcmp_ok {x y:Int} {w:World} {K:Value→World→Prop} (hk:K (.int .i64 (sgnI x y)) w):callP Tryz.prog 227 [.int .i64 x,.int .i64 y] w K:=by
 apply ok_ecmp_Compare_2
 apply ok_ecmp_isNaN_2
 refine ⟨_,rfl,?_⟩
 apply ok_ecmp_isNaN_2
 refine ⟨_,rfl,?_⟩
 have e:∀ z:Int,(z != z)=false:=fun z=>by simp
 rw [e,e]
 refine Sif_false (Sif_false ?_)
 unfold sgnI at hk
 refine Sif_cases (fun h=>by rw [if_pos (of_decide_eq_true h)] at hk; exact hk) fun h=>?_
 rw [if_neg (of_decide_eq_false h)] at hk
 refine Sif_cases (fun h2=>by rw [if_pos (by have:=of_decide_eq_true h2; omega)] at hk; exact hk) fun h2=>?_
 rw [if_neg (by have:=of_decide_eq_false h2; omega)] at hk
 exact hk
theorem fin63:fin64 4890909195324358656=true∧fin64 14114281232179134464=true:=by decide +kernel
theorem cmp_ge (a b:Int):(some (compare a b) == some Ordering.gt || some (compare a b) == some Ordering.eq)=decide (b≤a):=by
 simp only [compare,compareOfLessAndEq]
 split
 ·rename_i h; rw [decide_eq_false (by omega)]; rfl
 ·rename_i h
  rw [decide_eq_true (by omega)]
  split<;>rfl
theorem floor_any {x:Nat} (h:fin64 x=true):∃ (s:Bool) (m:Nat) (e:Int) (y:Nat),FloatKind.f64.decode x=.number s m e∧FloatKind.f64.encode ((Ieee.Datum.number s m e).integral .down)=y:=by
 obtain ⟨s,m,e,hr,_⟩:=fin64_read h
 exact ⟨s,m,e,_,hr,rfl⟩
theorem mixed_ok {a:Int} {x:Nat} (hx:fin64 x=true) (ha:-9223372036854775808≤a) (ha2:a≤9223372036854775807) {w:World} {K:Value→World→Prop} (hk:∀ w',Ch (fun _=>False) w w'→K (.int .i64 (mixF a x)) w'):callP Tryz.prog 194 [.int .i64 a,.float .f64 x] w K:=by
 have hk:=hk w (Ch.refl _ _)
 have hV:=V74_pos
 apply ok_sieve_mixed
 have e1:Ieee.Format.order (FloatKind.format FloatKind.f64) x 4890909195324358656=some (compare (valF x) (9223372036854775808*(V74:Int))):=by
  rw [← val63]; exact order_fin hx fin63.1
 have e2:Ieee.Format.order (FloatKind.format FloatKind.f64) x 14114281232179134464=some (compare (valF x) (-9223372036854775808*(V74:Int))):=by
  rw [← val63n]; exact order_fin hx fin63.2
 simp only [e1,e2,cmp_ge,cmp_lt]
 have mono:∀ {u v:Int},u≤v→u*(V74:Int)≤v*(V74:Int):=fun h=>Int.mul_le_mul_of_nonneg_right h (by omega)
 unfold mixF at hk
 by_cases hhi:9223372036854775808*(V74:Int)≤valF x
 ·obtain ⟨s,m,e,y,hr,hy⟩:=floor_any hx
  refine floor_ok hr hy ⟨_,rfl,?_⟩
  refine Sif_cases (fun _=>?_) (fun h=>absurd hhi (of_decide_eq_false h))
  have h1:=mono (u:=a+1) (v:=9223372036854775808) (by omega)
  rw [Int.add_mul,Int.one_mul] at h1
  unfold sgnI at hk
  generalize a*(V74:Int)=aV at *
  generalize 9223372036854775808*(V74:Int)=cV at *
  generalize (V74:Int)=V at *
  rw [if_pos (by omega)] at hk
  exact hk
 ·by_cases hlo:valF x < -9223372036854775808*(V74:Int)
  ·obtain ⟨s,m,e,y,hr,hy⟩:=floor_any hx
   refine floor_ok hr hy ⟨_,rfl,?_⟩
   refine Sif_cases (fun h=>absurd (of_decide_eq_true h) hhi) (fun _=>?_)
   refine Sif_cases (fun _=>?_) (fun h=>absurd hlo (of_decide_eq_false h))
   have h1:=mono (u:=-9223372036854775808) (v:=a) ha
   unfold sgnI at hk
   generalize a*(V74:Int)=aV at *
   generalize -9223372036854775808*(V74:Int)=cV at *
   rw [if_neg (by omega),if_pos (by omega)] at hk
   exact hk
  ·obtain ⟨s,m,e,y,q,hr,hy,hy2,hq,hq1,hq2,hti,hord⟩:=floor_law hx (by omega) (by omega)
   refine floor_ok hr hy ⟨_,rfl,?_⟩
   refine Sif_cases (fun h=>absurd (of_decide_eq_true h) hhi) (fun _=>?_)
   refine Sif_cases (fun h=>absurd (of_decide_eq_true h) hlo) (fun _=>?_)
   rw [hti]
   rw [mix_law hV hq] at hk
   refine ⟨⟨hq1,hq2⟩,?_⟩
   have ord:Ieee.Format.order (FloatKind.format FloatKind.f64) y x=some (compare (q*(V74:Int)) (valF x)):=hord
   rw [ord,cmp_lt]
   refine Sif_cases (fun h=>?_) (fun h=>?_)
   ·have h:a≠q:=by simpa using h
    rw [if_pos h] at hk
    exact ⟨⟨hq1,hq2⟩,gcmp_ok ⟨_,rfl,hk⟩⟩
   ·have h:a=q:=by simpa using h
    rw [if_neg (fun z=>z h)] at hk
    refine Sif_cases (fun h=>?_) (fun h=>?_)
    ·rw [if_pos (of_decide_eq_true h)] at hk; exact hk
    ·rw [if_neg (of_decide_eq_false h)] at hk; exact hk
theorem exact_ok {k a b:Int} (hk2:16≤k∧k≤19) (ha:-9223372036854775808≤a∧a≤9223372036854775807) (hb:-9223372036854775808≤b∧b≤9223372036854775807) {w:World} {K:Value→World→Prop}
 (hk:∀ w' (n:Int) (c:Bool),Ch (fun _=>False) w w'→(if c then some n else none)=exactW k a b→K (.tuple (Array.mk [.int .i64 n,.bool c])) w'):callP Tryz.prog 156 [.int .i64 k,.int .i64 a,.int .i64 b] w K:=by
 apply ok_sieve_exact
 simp only [nameI_iff,intEq]
 have r:=Ch.refl (fun _=>False) w
 have e:∀ {c:Bool} {n m:Int},(c=true→n=m)→(if c then some n else none)=(if c then some m else none):=fun {c n m} h=>by cases c<;>simp_all
 refine Sif_cases (fun h=>?_) (fun h=>?_)
 ·have h:=of_decide_eq_true h
  refine hk w _ _ r ?_
  unfold exactW
  rw [if_pos h,show (decide (b≥0) == decide (IntKind.wrap .i64 (a+b)≥a))=in64 (a+b) from ex_plus ha hb]
  exact e wrap_in
 have h16:=of_decide_eq_false h
 refine Sif_cases (fun h=>?_) (fun h=>?_)
 ·have h:=of_decide_eq_true h
  refine hk w _ _ r ?_
  unfold exactW
  rw [if_neg h16,if_pos h,show (decide (b≥0) == decide (IntKind.wrap .i64 (a-b)≤a))=in64 (a-b) from ex_minus ha hb]
  exact e wrap_in
 have h17:=of_decide_eq_false h
 refine Sif_cases (fun h=>?_) (fun h=>?_)
 ·have h18:=of_decide_eq_true h
  have no:¬ (in64 (a*b)=true)→(if false then some (0:Int) else none)=exactW k a b:=fun h=>by
   unfold exactW
   rw [if_neg h16,if_neg h17,if_pos h18,if_neg h]; rfl
  refine ⟨fun w1=>w1=w∧¬ (a=-9223372036854775808∧b=-1)∧¬ (b=-9223372036854775808∧a=-1),?_,?_⟩
  ·rintro w1 ⟨rfl,m1,m2⟩
   have rd:=Ch.drew (S:=fun _=>False) w1
   refine Sif_cases (fun h=>?_) (fun h=>?_)
   ·have h0:b≠0:=by simpa using h
    refine ⟨h0,hk _ _ _ rd ?_⟩
    unfold exactW
    have et:=ex_times ha hb h0 m1
    rw [intEq] at et
    rw [if_neg h16,if_neg h17,if_pos h18,et]
    exact e wrap_in
   ·have h0:b=0:=by simpa using h
    refine hk _ _ _ rd ?_
    unfold exactW
    rw [if_neg h16,if_neg h17,if_pos h18,h0,Int.mul_zero]; rfl
  ·have n1:a=-9223372036854775808→b=-1→¬ in64 (a*b)=true:=fun h1 h2 q=>by
    rw [h1,h2] at q; exact absurd q (by decide)
   have n2:b=-9223372036854775808→a=-1→¬ in64 (a*b)=true:=fun h1 h2 q=>by
    rw [h1,h2] at q; exact absurd q (by decide)
   have tail:¬ (a=-9223372036854775808∧b=-1)→Sif (decide (b=-9223372036854775808)) (Sif (decide (a=-1)) (K (.tuple (Array.mk [.int .i64 0,.bool false])) w) (w=w∧¬ (a=-9223372036854775808∧b=-1)∧¬ (b=-9223372036854775808∧a=-1))) (w=w∧¬ (a=-9223372036854775808∧b=-1)∧¬ (b=-9223372036854775808∧a=-1)):=fun m1=>by
    refine Sif_cases (fun h=>?_) (fun h=>⟨rfl,m1,fun q=>of_decide_eq_false h q.1⟩)
    refine Sif_cases (fun h2=>?_) (fun h2=>⟨rfl,m1,fun q=>of_decide_eq_false h2 q.2⟩)
    exact hk w _ _ r (no (n2 (of_decide_eq_true h) (of_decide_eq_true h2)))
   refine Sif_cases (fun h=>?_) (fun h=>tail fun q=>of_decide_eq_false h q.1)
   have h:=of_decide_eq_true h
   refine Sif_cases (fun h2=>tail fun q=>?_) (fun h2=>?_)
   ·have h2:¬ b=-1:=by simpa using h2
    exact h2 q.2
   ·have h2:b=-1:=by simpa using h2
    exact hk w _ _ r (no (n1 h h2))
 have h18:=of_decide_eq_false h
 have no:¬ (b≠0∧in64 (a.tdiv b)=true∧a.tmod b=0)→(none:Option Int)=exactW k a b:=fun h=>by
  unfold exactW
  rw [if_neg h16,if_neg h17,if_neg h18]
  by_cases hb0:b=0
  ·rw [if_pos hb0]
  ·rw [if_neg hb0,if_neg]
   intro q
   simp only [Bool.and_eq_true,decide_eq_true_eq] at q
   exact h ⟨hb0,q⟩
 refine ⟨fun w1=>w1=w∧b≠0∧¬ (a=-9223372036854775808∧b=-1)∧a.tmod b=0,?_,?_⟩
 ·rintro w1 ⟨rfl,h0,m1,hm⟩
  refine ⟨h0,hk _ _ _ r ?_⟩
  have hin:=tdiv_in ha m1
  have e:exactW k a b=some (a.tdiv b):=by
   unfold exactW
   rw [if_neg h16,if_neg h17,if_neg h18,if_neg h0,if_pos (show (in64 (a.tdiv b) && decide (a.tmod b=0))=true by rw [hin,hm]; rfl)]
  rw [e,wrap_in hin]; rfl
 ·have rest:b≠0→¬ (a=-9223372036854775808∧b=-1)→(b≠0∧Sif (Int.tmod a b != 0) (K (.tuple (Array.mk [.int .i64 0,.bool false])) w) (w=w∧b≠0∧¬ (a=-9223372036854775808∧b=-1)∧a.tmod b=0)):=fun h0 m1=>by
   refine ⟨h0,?_⟩
   refine Sif_cases (fun h=>?_) (fun h=>?_)
   ·have h:a.tmod b≠0:=by simpa using h
    exact hk w _ _ r (no fun q=>h q.2.2)
   ·have h:a.tmod b=0:=by simpa using h
    exact ⟨rfl,h0,m1,h⟩
  refine Sif_cases (fun h=>?_) (fun h=>?_)
  ·have h0:b≠0:=by simpa using h
   refine Sif_cases (fun h=>?_) (fun h=>?_)
   ·have h:=of_decide_eq_true h
    refine Sif_cases (fun h2=>?_) (fun h2=>?_)
    ·have h2:¬ b=-1:=by simpa using h2
     exact rest h0 fun q=>h2 q.2
    ·have h2:b=-1:=by simpa using h2
     refine hk w _ _ r (no fun q=>?_)
     rw [h,h2] at q
     exact absurd q.2.1 (by decide)
   ·exact rest h0 fun q=>of_decide_eq_false h q.1
  ·have h0:b=0:=by simpa using h
   exact hk w _ _ r (no fun q=>q.1 h0)
theorem wfloat_ok {a:W} {w:World} {K:Value→World→Prop} (hk:∀ (x:Nat) (c:Bool),(if c then some x else none)=flW a→K (.tuple (Array.mk [.float .f64 x,.bool c])) w):callP Tryz.prog 155 [a.val] w K:=by
 apply ok_sieve_float
 refine ⟨_,_,ta_int a w,?_⟩
 cases a with
 | int n=>exact Sif_true (hk _ _ rfl)
 | real x=>exact Sif_false ⟨_,_,ta_real _ w,Sif_true (hk _ _ rfl)⟩
 | _=>exact Sif_false ⟨_,_,ta_real _ w,Sif_false (hk _ _ rfl)⟩
theorem okW_fl {B:Prop} {a:W} (h:okW B a) {x:Nat} (hx:flW a=some x):fin64 x=true∧x<2^64:=by
 cases a with
 | int n =>
  cases hx
  have h:-9223372036854775808≤n∧n≤9223372036854775807:=h
  exact flI_ok (by omega)
 | real y=>cases hx; exact h.2
 | _=>cases hx
theorem reck_okW {k:Int} {a b:W}:okW True (reckW k a b):=by
 unfold reckW
 split
 ·split
  ·trivial
  ·split
   ·rename_i n h
    have:∃ x y,exactW k x y=some n:=by
     cases a<;>cases b<;>first | exact ⟨_,_,h⟩ | cases h
    obtain ⟨x,y,h⟩:=this
    exact exactW_in h
   ·split
    ·rename_i z hz
     unfold finW
     split
     ·exact ⟨trivial,by assumption,fop_lt hz⟩
     ·trivial
    ·trivial
 ·trivial
def pairX (k:Int):W→W→Option Int
 | .int n,.int m=>exactW k n m
 | _,_=>none
theorem reckW_eq {k:Int} {a b:W} {x y:Nat} (hx:flW a=some x) (hy:flW b=some y) (hz:¬ (k=19∧DB.order y 0=some .eq)):reckW k a b=match pairX k a b with
 | some n=>.int n
 | none=>match fop k x y with
  | some z=>finW z .unk
  | none=>.unk:=by
 unfold reckW
 rw [hx,hy]
 simp only [if_neg hz]
 cases a<;>cases b<;>rfl
theorem reck_ok {k:Int} {a b:W} (h16:16≤k) (h19:k≤19) (ha:okW True a) (hb:okW True b) {w:World} {K:Value→World→Prop} (hk:∀ w',Ch (fun _=>False) w w'→K (reckW k a b).val w'):callP Tryz.prog 101 [.int .i64 k,a.val,b.val] w K:=by
 apply ok_sieve_reckon
 refine wfloat_ok fun x c hxc=>⟨_,_,rfl,wfloat_ok fun y d hyd=>⟨_,_,rfl,?_⟩⟩
 have hk0:=hk w (Ch.refl _ _)
 cases c with
 | false =>
  have hx0:flW a=none:=hxc.symm
  have:reckW k a b=.unk:=by unfold reckW; rw [hx0]
  rw [this] at hk0
  exact ⟨fun _=>False,fun _ h=>h.elim,Sif_false hk0⟩
 | true =>
 cases d with
 | false =>
  have hy0:flW b=none:=hyd.symm
  have:reckW k a b=.unk:=by unfold reckW; rw [hy0]; cases flW a<;>rfl
  rw [this] at hk0
  exact ⟨fun _=>False,fun _ h=>h.elim,Sif_true (Sif_false hk0)⟩
 | true =>
 have hx:flW a=some x:=hxc.symm
 have hy:flW b=some y:=hyd.symm
 have fx:=okW_fl ha hx
 have fy:=okW_fl hb hy
 -- no division by nought
 refine ⟨fun w3=>w3=w∧¬ (k=19∧DB.order y 0=some .eq),?_,?_⟩
 ·rintro w3 ⟨rfl,hz⟩
  refine ⟨_,_,ta_int a w3,_,_,ta_int b w3,?_⟩
  have go:pairX k a b=none→∀ w4,Ch (fun _=>False) w3 w4→Sif (k == 16) (optF (Ieee.Format.add (FloatKind.format FloatKind.f64) x y) fun r=>callP Tryz.prog 148 [.float .f64 r,.nilIface] w4 fun v2 w5=>∃ v3,v2=v3∧K (tupV [v3]) w5) (Sif (k == 17) (optF (Ieee.Format.sub (FloatKind.format FloatKind.f64) x y) fun r=>callP Tryz.prog 148 [.float .f64 r,.nilIface] w4 fun v2 w5=>∃ v3,v2=v3∧K (tupV [v3]) w5) (Sif (k == 18) (optF (Ieee.Format.mul (FloatKind.format FloatKind.f64) x y) fun r=>callP Tryz.prog 148 [.float .f64 r,.nilIface] w4 fun v2 w5=>∃ v3,v2=v3∧K (tupV [v3]) w5) (optF (Ieee.Format.div (FloatKind.format FloatKind.f64) x y) fun r=>callP Tryz.prog 148 [.float .f64 r,.nilIface] w4 fun v2 w5=>∃ v3,v2=v3∧K (tupV [v3]) w5))):=by
   intro hex w4 c4
   obtain ⟨z,hz2⟩:=fop_some (k:=k) fx.1 fy.1 fun h=>fun q=>hz ⟨by omega,q⟩
   have hzl:=fop_lt hz2
   have fin:callP Tryz.prog 148 [.float .f64 z,.nilIface] w4 fun v2 w5=>∃ v3,v2=v3∧K (tupV [v3]) w5:=by
    refine finite_ok (x:=z) .unk hzl fun w5 c5=>⟨_,rfl,?_⟩
    have:=hk w5 (c4.trans' c5)
    rw [reckW_eq hx hy hz,hex] at this
    simp only [hz2] at this
    exact this
   unfold fop at hz2
   simp only [intEq]
   refine Sif_cases (fun h=>?_) (fun h=>?_)
   ·rw [if_pos (of_decide_eq_true h)] at hz2
    have hz2:Ieee.Format.add (FloatKind.format FloatKind.f64) x y=some z:=hz2
    rw [hz2]; exact fin
   rw [if_neg (of_decide_eq_false h)] at hz2
   refine Sif_cases (fun h=>?_) (fun h=>?_)
   ·rw [if_pos (of_decide_eq_true h)] at hz2
    have hz2:Ieee.Format.sub (FloatKind.format FloatKind.f64) x y=some z:=hz2
    rw [hz2]; exact fin
   rw [if_neg (of_decide_eq_false h)] at hz2
   refine Sif_cases (fun h=>?_) (fun h=>?_)
   ·rw [if_pos (of_decide_eq_true h)] at hz2
    have hz2:Ieee.Format.mul (FloatKind.format FloatKind.f64) x y=some z:=hz2
    rw [hz2]; exact fin
   rw [if_neg (of_decide_eq_false h)] at hz2
   have hz2:Ieee.Format.div (FloatKind.format FloatKind.f64) x y=some z:=hz2
   rw [hz2]; exact fin
  refine ⟨fun w4=>pairX k a b=none∧Ch (fun _=>False) w3 w4,fun w4 h=>go h.1 w4 h.2,?_⟩
  cases a with
  | int n =>
   cases b with
   | int m =>
    refine Sif_true (Sif_true ?_)
    refine exact_ok ⟨h16,h19⟩ ha hb fun w4 q c c4 he=>⟨_,_,rfl,?_⟩
    cases c with
    | true =>
     refine Sif_true ?_
     have he:pairX k (.int n) (.int m)=some q:=he.symm
     have:=hk w4 c4
     rw [reckW_eq hx hy hz,he] at this
     exact this
    | false=>exact Sif_false ⟨he.symm,c4⟩
   | _=>exact Sif_true (Sif_false ⟨rfl,Ch.refl _ _⟩)
  | _=>exact Sif_false ⟨by cases b<;>rfl,Ch.refl _ _⟩
 ·refine Sif_true (Sif_true ?_)
  rw [intEq]
  refine Sif_cases (fun h=>?_) (fun h=>⟨by trivial,fun q=>of_decide_eq_false h q.1⟩)
  have h:=of_decide_eq_true h
  have hzz:∀ {c:Bool},(DB.order y 0 == some Ordering.eq)=c→Sif c (K .nilIface w) (w=w∧¬ (k=19∧DB.order y 0=some .eq)):=fun {c} hc=>by
   cases c with
   | true =>
    have he:DB.order y 0=some .eq:=by simpa using hc
    have:reckW k a b=.unk:=by
     unfold reckW
     rw [hx,hy]
     simp only [h,he,and_self,if_true]
    rw [this] at hk0
    exact Sif_true hk0
   | false=>exact Sif_false ⟨rfl,fun q=>by rw [q.2] at hc; cases hc⟩
  exact hzz rfl
theorem conv_run (x:Nat) (w:World):(convert 167 75 (.float .f32 x)).run Tryz.prog w=(Conv.floatToFloat .f32 x .f64).run Tryz.prog w:=by
 unfold convert
 simp [go_sem,Tryz.underlying167,Tryz.underlying75]
theorem conv_ok {x:Nat} (hx:x<2^32) (w:World):∃ y w',(convert 167 75 (.float .f32 x)).run Tryz.prog w=.ok (.float .f64 y) w'∧Ch (fun _=>False) w w'∧y<2^64∧(if x / 2^23%256=255 then fin64 y=false else fin64 y=true∧y=fl32 x):=by
 rw [conv_run]
 unfold Conv.floatToFloat
 rw [if_neg (by decide)]
 by_cases h:x / 2^23%256=255
 ·simp only [if_pos h]
  rcases (read32 hx).2 h with ⟨s,hr⟩ | ⟨s,f,hr⟩
  ·have hr:FloatKind.f32.decode x=.infinity s:=hr
   simp only [hr]
   exact ⟨_,w,rfl,Ch.refl _ _,write_lt _,word_inf s⟩
  ·have hr:FloatKind.f32.decode x=.nan s f:=hr
   simp only [hr]
   have key:∀ T:Nat,(T%2)*2^63+0x7ff0000000000000+1+(T / 2)%(2^52-1)<2^64∧fin64 ((T%2)*2^63+0x7ff0000000000000+1+(T / 2)%(2^52-1))=false:=fun T=>by
    have h1:=Nat.mod_lt T (show 0<2 by decide)
    have h2:=Nat.mod_lt (T / 2) (show 0<2^52-1 by decide)
    generalize T / 2%(2^52-1)=v at *
    generalize T%2=u at *
    have hu:u=0∨u=1:=by omega
    unfold fin64
    rcases hu with rfl | rfl
    ·exact ⟨by omega,decide_eq_false (by omega)⟩
    ·exact ⟨by omega,decide_eq_false (by omega)⟩
   exact ⟨_,w.drew,rfl,Ch.drew w,(key _).1,(key _).2⟩
 ·simp only [if_neg h]
  obtain ⟨s,m,e,hr,hm,he,he2⟩:=(read32 hx).1 h
  have hr:FloatKind.f32.decode x=.number s m e:=hr
  have hf:=fl32_ok hx h
  have he:FloatKind.f64.encode (.number s m e)=fl32 x:=by
   unfold fl32
   rw [show Ieee.single.read x=.number s m e from hr]; rfl
  simp only [hr,he]
  obtain ⟨s',m',e',hr',_⟩:=fin64_read hf.1
  have hr':FloatKind.f64.decode (fl32 x)=.number s' m' e':=hr'
  rw [hr']
  exact ⟨_,w,rfl,Ch.refl _ _,hf.2,hf.1,rfl⟩
theorem flTrue:True→Fl:=fun _ =>
 ⟨fun hx _ ha ha2=>mixed_ok hx ha ha2,fun hx _ hy _=>order_fin hx hy,fun o hx=>finite_ok o hx,fun hx w=>conv_ok hx w,fun h=>flI_ok (by omega),fun h1 h2=>⟨by rw [neg_fin]; exact h1,neg_lt h2⟩,fun _ _=>reck_okW,fun h1 h2 ha hb=>reck_ok h1 h2 ha hb⟩
end Go.Proofs.YtnmlmicmhpkbeaaGreatDoor
namespace Go.Proofs.YtnmlmicmhpkbeaaGreatDoor
open Go Go.Sv Go.Note
set_option linter.unusedVariables false
attribute [local irreducible] Sif
set_option maxHeartbeats 1000000 in
set_option maxRecDepth 100000 in
theorem awake_ok {w:World} (hL:LW w) {K:Value→World→Prop} (hk:∀ w',Ch (fun _=>False) w w'→K (.bool true) w'):callP Tryz.prog 8 [] w K:=by
 apply ok_longshorelaw16_awake
 refine Parse_ok (s:=aw1s) (by decide) aw1_parse hL fun x w1 ox ex fx c1=>?_
 refine isT3 ?_
 have hL1:LW w1:=hL.ch c1 fun _ _ h=>h
 refine newB_blk fun w2 b2 c2 z2=>?_
 simp only [add_at,Nat.zero_add,Nat.add_zero,Nat.reduceAdd]
 refine st8 (x:=x) b2 rfl fun w3 b3 c3 z3=>?_
 have c13:Ch (fun _=>False) w1 w3:=c2.trans c3 fun y hy h=>by omega
 refine ld8 (x:=x) b3 ?_
 rw [tvv]
 have x3:TO w3 x:=TO.ch c13 x ox fun _ _ h=>h
 have xr:∀ {w':World},Ch (fun _=>False) w3 w'→TR (fun _=>True) w' x:=fun c=>TR.ch0 c (TO.tr x x3 _ fun _ _=>trivial)
 have c03:=c1.trans' c13
 refine Print_ok fNo (hL.ch c03 fun _ _ h=>h) (xr (Ch.refl _ _)) (aw_TG ex) (fun _=>aw_PG ex) (by rw [ex]; show (T.pr (fun _=>[]) aw1t).length≤_; rw [show T.pr (fun _=>[]) aw1t=aw1s by kernel_rfl]; decide) fun w4 c4=>?_
 rw [show printB (fun _=>[]) x.m=(aw1s,0) by rw [ex]; exact aw1_print]
 refine ⟨_,_,rfl,?_⟩
 have b4:=(c4.blk (blk_lt b3) id).trans b3
 refine Blank_ok fun k w5 b5 hk5 c5=>?_
 refine ⟨(blankG k).g,GV.glen _,rfl,?_⟩
 have c35:=c4.trans' c5
 refine newB_blk fun w6 b6 c6 z6=>?_
 refine asAgg_of (GV.glen _) ?_
 have hone:∀ v∈(blankG k).g,oneV v=true:=by
  rw [GV.cells]
  intro v hv
  simp only [List.mem_cons,List.not_mem_nil,or_false] at hv
  rcases hv with h | h | h | h | h | h | h | h | h | h | h | h | h | h | h | h | h | h | h | h | h | h | h | h | h | h | h | h | h | h | h | h | h | h | h | h | h | h | h | h | h | h | h | h | h | h | h | h | h | h | h | h | h | h | h | h<;>rw [h]<;>rfl
 refine stCells_blk _ 0 b6 (by rw [GV.glen]; decide) hone fun w7 b7 c7 z7=>?_
 have b7:blk w7 w5.heap.size=some (blankG k).g:=b7.trans (by rw [putSeg,List.take_zero,List.nil_append,List.drop_of_length_le (by rw [GV.glen]; decide),List.append_nil])
 have hg56:=(blankG k).glen
 refine st_blk (o:=0) b7 (by omega) fun w8 b8 c8 z8=>?_
 refine st_blk (o:=2) b8 (by rw [List.length_set]; omega) fun w9 b9 c9 z9=>?_
 refine newB_blk fun w10 b10 c10 z10=>?_
 have bm:=(c10.blk (blk_lt b9) id).trans b9
 refine st_blk (o:=38) bm (by simp only [List.length_set]; omega) fun w11 b11 c11 z11=>?_
 refine st_blk (o:=39) b11 (by simp only [List.length_set]; omega) fun w12 b12 c12 z12=>?_
 refine st_blk (o:=40) b12 (by simp only [List.length_set]; omega) fun w13 b13 c13' z13=>?_
 refine st_blk (o:=41) b13 (by simp only [List.length_set]; omega) fun w14 b14 c14 z14=>?_
 refine st_blk (o:=42) b14 (by simp only [List.length_set]; omega) fun w15 b15 c15 z15=>?_
 have hs5:=c35.size
 have hs6:=z6
 -- the message, and what has not changed
 have ca:Ch (·=w5.heap.size) w6 w9:=(c7.trans' c8).trans' c9
 have cb:Ch (·=w5.heap.size) w10 w15:=(((c11.trans' c12).trans' c13').trans' c14).trans' c15
 have bg:blk w15 w5.heap.size=some (awG k w9.heap.size).g:=b15.trans (by rw [GV.cells,GV.cells]; rfl)
 have c3f:Ch (fun _=>False) w3 w15:=((c35.trans' c6).trans ((ca.trans' (c10.mono fun _ _ h=>h.elim)).trans' cb) fun y hy h=>by omega)
 have c0f:Ch (fun _=>False) w w15:=c03.trans' c3f
 have hs9:w5.heap.size<w9.heap.size:=by have:=ca.size; omega
 have bd:blk w15 w9.heap.size=some (([flatM 19 0 [99,111,108,111,117,114],flatM 19 0 [114,101,100]]:List MV).flatMap MV.g):=(cb.blk (blk_lt b10) (by omega)).trans b10
 have bk:blk w15 k=some [strV []]:=((cb.blk (by have:=blk_lt b5; have:=ca.size; have:=c10.size; omega) (by have:=blk_lt b5; omega)).trans ((c10.blk (by have:=blk_lt b5; have:=ca.size; omega) id).trans ((ca.blk (by have:=blk_lt b5; omega) (by have:=blk_lt b5; omega)).trans (c6.blk (blk_lt b5) id)))).trans b5
 have gr:GR (fun _=>True) w15 (awG k w9.heap.size):=by
  have z:VR (fun _=>True) w15 zMV:=VR.zero w15
  have fl:∀ a b c,VR (fun _=>True) w15 (flatM a b c):=fun a b c=>VO.vr _ (flatM_ok w15 a b c) _ fun _ _=>trivial
  refine ⟨z,z,z,z,?_,z,z,⟨rfl,Nat.le_of_ble_eq_true rfl,⟨rfl,.inl rfl⟩,fun a ha=>(by cases ha),fun x hx=>(by cases hx)⟩,⟨rfl,.inr ⟨k,0,_,rfl,blk_cells bk,Nat.le_of_ble_eq_true rfl,rfl⟩⟩,rfl,fun _ _ _=>trivial⟩
  refine .mk rfl (Nat.le_of_ble_eq_true rfl) ⟨rfl,.inr ⟨w9.heap.size,0,_,rfl,blk_cells bd,Nat.le_of_ble_eq_true rfl,rfl⟩⟩ (fun _ _ _=>trivial) fun x hx=>?_
  simp only [List.mem_cons,List.not_mem_nil,or_false] at hx
  rcases hx with rfl | rfl<;>exact fl _ _ _
 have bf:=(c3f.blk (blk_lt b3) id).trans b3
 refine ld8 (x:=x) bf ?_
 rw [tvv]
 have ldg:∀ {w':World},Ch (fun _=>False) w15 w'→∀ {K2:List Value→Prop},K2 (awG k w9.heap.size).g→ldBig w' ⟨w5.heap.size,0,none⟩ 56 K2:=fun {w'} c {K2} hk2=>by
  have:=ldBig_of (o:=0) (n:=56) (K:=K2) ((c.blk (blk_lt bg) id).trans bg) (by rw [GV.glen]; decide) (by rw [List.drop_zero,List.take_of_length_le (by rw [GV.glen]; decide)]; exact hk2)
  rwa [add_at] at this
 have hLf:LW w15:=hL.ch c0f fun _ _ h=>h
 refine ldg (Ch.refl _ _) ?_
 refine Eval_ok (B:=False) (fun h=>h.elim) (aw_GG k w9.heap.size) (aw_TG ex) (fun _=>aw_SG ex) hLf (xr c3f) gr fun y w16 ey oy By c16=>is5 ?_
 rw [awG_m,ex,show evalB (lookB awMsg) (aw1t,0,0).1=.mk 1 1 [] 0 [] from aw_eval] at ey
 have hyk:y.k=1:=by rw [← y.mf.1,ey]; rfl
 have hyn:y.n=1:=by rw [← y.mf.2.1,ey]; rfl
 refine newB_blk fun w17 b17 c17 z17=>?_
 refine st5 (x:=y) b17 rfl fun w18 b18 c18 z18=>?_
 have c1f:Ch (fun _=>False) w15 w18:=(c16.trans' c17).trans c18 fun q hq h=>by have:=c16.size; omega
 refine ld8 (x:=x) ((c1f.blk (blk_lt bf) id).trans bf) ?_
 rw [tvv]
 refine ldg c1f ?_
 refine Fits_ok (B:=False) (fun h=>h.elim) (aw_GG k w9.heap.size) (aw_TG ex) (fun _=>aw_SG ex) (hLf.ch c1f fun _ _ h=>h) (xr (c3f.trans' c1f)) (gr.ch0 c1f) fun w19 c19=>⟨_,rfl,?_⟩
 rw [awG_m,ex,show fitsB (lookB awMsg) (aw1t,0,0).1=true from aw_fits]
 have hL19:LW w19:=hLf.ch (c1f.trans' c19) fun _ _ h=>h
 refine Parse_ok (s:=[97,32,63,32,98]) (by decide) aw2_parse hL19 fun x2 w20 ox2 ex2 fx2 c20=>?_
 refine isT3 ?_
 refine newB_blk fun w21 b21 c21 z21=>?_
 refine st8 (x:=x2) b21 rfl fun w22 b22 c22 z22=>?_
 have c2f:Ch (fun _=>False) w19 w22:=(c20.trans' c21).trans c22 fun q hq h=>by have:=c20.size; omega
 have hL22:LW w22:=hL19.ch c2f fun _ _ h=>h
 refine Like_ok (s:=[114,101,100]) (p:=[114,95,100]) (n:=-1) (by decide) (by decide) hL22 fun w23 c23=>⟨_,rfl,?_⟩
 refine Like_ok (s:=[114,100]) (p:=[114,95,100]) (n:=-1) (by decide) (by decide) (hL22.ch c23 fun _ _ h=>h) fun w24 c24=>⟨_,rfl,?_⟩
 rw [aw_like,aw_unlike]
 have cz:Ch (fun _=>False) w18 w24:=((c19.trans' c2f).trans' c23).trans' c24
 have b24:=(cz.blk (blk_lt b18) id).trans b18
 have e1:((ByteArray.mk aw1s.toArray).toList == (ByteArray.mk (Array.mk [112,114,105,111,114,105,116,121,32,62,32,52,32,97,110,100,32,99,111,108,111,117,114,32,61,32,39,114,101,100,39])).toList)=true:=(seq3 aw1s aw1s).trans (decide_eq_true rfl)
 refine Sif_true (Sif_true (Sif_true ?_))
 rw [show (ByteArray.mk ((aw1s,0):Bs × Nat).1.toArray)=ByteArray.mk aw1s.toArray from rfl,e1]
 refine Sif_true ⟨_,MV.c0 b24,?_⟩
 rw [hyk]
 refine Sif_true ⟨_,MV.c1 b24,?_⟩
 rw [hyn]
 refine Sif_true (Sif_true (Sif_true (Sif_true (Sif_true ?_))))
 exact hk w24 (((c0f.trans' c1f).trans' cz))
end Go.Proofs.YtnmlmicmhpkbeaaGreatDoor
namespace Go.Note
open Go
set_option linter.unusedVariables false
def spec (c:UInt8):Bool:=decide (c=37) || decide (c=95) || decide (c=33)
end Go.Note
namespace Go.Proofs.YtnmlmicmhpkbeaaGreatDoor
open Go Go.Sv Go.Note
set_option linter.unusedVariables false
attribute [local irreducible] Sif
end Go.Proofs.YtnmlmicmhpkbeaaGreatDoor
namespace Go.Proofs.YtnmlmicmhpkbeaaGreatDoor
open Go Go.Sv Go.Note
set_option linter.unusedVariables false
attribute [local irreducible] Sif
theorem sift {b:Bool} {x y:Prop} (h:b=true) (hx:x):Sif b x y:=by subst h; exact Sif_true hx
theorem beqT (a b:Bool) (h:a=b):(a == b)=true:=by rw [h]; cases b<;>rfl
end Go.Proofs.YtnmlmicmhpkbeaaGreatDoor
namespace Go.Proofs.YtnmlmicmhpkbeaaGreatDoor
open Go Go.Sv Go.Note
set_option linter.unusedVariables false
attribute [local irreducible] Sif
def ofV (k:Int) (p:Option Addr) (n c:Nat) (l:List TV):TV:=.mk k [] zMV ⟨p,n,c,none⟩ l
theorem ofV_m (k:Int) (p:Option Addr) (n c:Nat) (l:List TV):(ofV k p n c l).m=oneT k (l.map TV.m):=by unfold ofV oneT; rw [TV.m_mk,zMV_m]
theorem lof_ok {k:Int} {p:Option Addr} {n c:Nat} (l:List TV) {w:World} {K:Value→World→Prop} (hk:∀ w',Ch (fun _=>False) w w'→K (ofV k p n c l).v w'):callP Tryz.prog 28 [.int .i64 k,.slice p n c] w K:=by
 apply ok_longshorelaw16_of
 refine newB_blk fun w1 b1 c1 z1=>?_
 simp only [add_at,Nat.zero_add]
 exact fin8 (x:=ofV k p n c l) b1 rfl fun w2 b2 c2 z2=>hk w2 (c1.trans c2 fun x hx h=>by omega)
structure Tm (w:World) (x:TV):Prop where
 tr:TR (fun _=>True) w x
 ta:Tall bndT x.m
theorem Tm.ch0 {w w':World} (c:Ch (fun _=>False) w w') {x:TV} (h:Tm w x):Tm w' x:=⟨TR.ch0 c h.tr,h.ta⟩
theorem Tm.of {w:World} {j n:Nat} {l:List TV} (k:Int) (hl:l.length=n) (hn:n≤2) (hb:blk w j=some (l.flatMap TV.g)) (h:∀ x∈l,Tm w x):Tm w (ofV k (some ⟨j,0,none⟩) n n l):=by
 have hfl:(l.flatMap TV.g).length=n*8:=by rw [flat_len TV.glen,hl]
 refine ⟨.mk (VO.vr zMV (zMV_ok w) _ fun _ _=>trivial) hl (by show n≤2^46; omega) (Nat.le_refl _) ⟨hfl,.inr ⟨j,0,_,rfl,blk_cells hb,by rw [hfl]; show 0+n*8≤n*8; omega,?_⟩⟩ (fun _ _ _=>trivial) fun x hx=>(h x hx).tr,?_⟩
 ·rw [List.drop_zero]; exact List.take_of_length_le (by rw [hfl]; exact Nat.le_refl _)
 ·rw [ofV_m]
  refine .mk ⟨zeroM_fits,by rw [zeroM_sz]; decide,by decide,by rw [List.length_map]; omega⟩ fun y hy=>?_
  obtain ⟨x,hx,rfl⟩:=List.mem_map.1 hy
  exact (h x hx).ta
def noV (j:Nat) (x:TV):TV:=ofV 3 (some ⟨j,0,none⟩) 1 1 [x]
theorem noV_m (j:Nat) (x:TV):(noV j x).m=oneT 3 [x.m]:=ofV_m _ _ _ _ _
theorem Tm.no {w:World} {j:Nat} {x:TV} (hb:blk w j=some x.g) (h:Tm w x):Tm w (noV j x) :=
 Tm.of 3 rfl (by decide) (by rw [hb]; simp) fun y hy=>by rw [List.mem_singleton.1 hy]; exact h
theorem Tm.two {w:World} {j:Nat} {x y:TV} (k:Int) (hb:blk w j=some (x.g++y.g)) (h:Tm w x) (h2:Tm w y):Tm w (ofV k (some ⟨j,0,none⟩) 2 2 [x,y]) :=
 Tm.of k rfl (by decide) (by rw [hb]; simp) fun z hz=>by
  simp only [List.mem_cons,List.not_mem_nil,or_false] at hz
  rcases hz with rfl | rfl
  ·exact h
  ·exact h2
theorem lno_ok {x:TV} {w:World} {K:Value→World→Prop} (hk:∀ j w',blk w' j=some x.g→Ch (fun _=>False) w w'→K (noV j x).v w'):callP Tryz.prog 26 [x.v] w K:=by
 rw [← tvv]
 apply ok_longshorelaw16_no
 refine newB_blk fun w1 b1 c1 z1=>newB_blk fun w2 b2 c2 z2=>?_
 have b1:blk w1 w.heap.size=some x.g:=b1.trans (by cases x; rfl)
 have b12:=(c2.blk (blk_lt b1) id).trans b1
 refine ld8a b12 ?_
 refine newB_blk fun w3 b3 c3 z3=>?_
 have b3:blk w3 w2.heap.size=some x.g:=b3.trans (by cases x; rfl)
 refine lof_ok [x] fun w4 c4=>isT ?_
 have c24:=c3.trans' c4
 have b23:=(c24.blk (blk_lt b2) id).trans b2
 have b34:=(c4.blk (blk_lt b3) id).trans b3
 simp only [add_at,Nat.zero_add]
 refine fin8 (x:=noV w2.heap.size x) b23 rfl fun w5 b5 c5 z5=>hk w2.heap.size w5 ?_ ?_
 ·exact (c5.blk (blk_lt b34) (by omega)).trans b34
 ·have:=c1.size
  exact ((c1.trans' c2).trans' c24).trans c5 fun y hy h=>by omega
theorem small_ok {x:TV} {w:World} (hL:LW w) (h:Tm w x) {K:Value→World→Prop} (hk:∀ w',Ch (fun _=>False) w w'→K (.bool (smallB x.m)) w'):callP Tryz.prog 25 [x.v] w K:=by
 rw [← tvv]
 apply ok_longshorelaw16_small
 refine newB_blk fun w1 b1 c1 z1=>?_
 have b1:blk w1 w.heap.size=some x.g:=b1.trans (by cases x; rfl)
 refine ld8a b1 (ld8a b1 ?_)
 refine newB_blk fun w2 b2 c2 z2=>?_
 have b2:blk w2 w1.heap.size=some (x.g++x.g):=b2.trans (by cases x; rfl)
 refine lof_ok [x,x] fun w3 c3=>isT ?_
 refine lof_ok [x,x] fun w4 c4=>isT ?_
 obtain ⟨y,hy⟩:∃ y,y=ofV 4 (some ⟨w1.heap.size,0,none⟩) 2 2 [x,x]:=⟨_,rfl⟩
 rw [← hy]
 refine newB_blk fun w5 b5 c5 z5=>?_
 have b5:blk w5 w4.heap.size=some (y.g++y.g):=b5.trans (by cases y; rfl)
 refine lof_ok [y,y] fun w6 c6=>isT ?_
 rw [tvv]
 have c02:=c1.trans' c2
 have c25:=(c3.trans' c4).trans' c5
 have b25:=(c25.blk (blk_lt b2) id).trans b2
 have X5:=h.ch0 (c02.trans' c25)
 have Y5:Tm w5 y:=by rw [hy]; exact Tm.two 4 b25 X5 X5
 have Z6:=(Tm.two 5 b5 Y5 Y5).ch0 c6
 have c06:=(c02.trans' c25).trans' c6
 refine Check_ok (hL.ch c06 fun _ _ h=>h) Z6.tr (tall_TG Z6.ta) fun w7 c7=>⟨_,rfl,?_⟩
 have e:((((ofV 5 (some ⟨w4.heap.size,0,none⟩) 2 2 [y,y]).m.check:Nat):Int) == 0)=smallB x.m:=by
  refine (natBeq _ 0).trans ?_
  rw [ofV_m,hy]
  simp only [List.map_cons,List.map_nil,ofV_m]
  rfl
 rw [e]
 exact hk w7 (c06.trans' c7)
theorem newB_k {w:World} {cs:List Value} {t:TypeId} {K:Addr→World→Prop} (hk:∀ k w',blk w' k=some cs→Ch (fun _=>False) w w'→K ⟨k,0,none⟩ w'):newB w cs t K :=
 newB_blk fun w' b c z=>hk _ w' b c
theorem ldG {w:World} {k:Nat} {g:GV} {K:List Value→Prop} (h:blk w k=some g.g) (hk:K g.g):ldBig w ⟨k,0,none⟩ 56 K:=by
 have hld:=ldBig_of (o:=0) (n:=56) (K:=K) h (by rw [g.glen]; decide) (by rw [List.drop_zero,List.take_of_length_le (by rw [g.glen]; decide)]; exact hk)
 rwa [add_at] at hld
theorem st5a {w:World} {k:Nat} {zs:List Value} {x:MV} {K:World→Prop} (h:blk w k=some zs) (hl:zs.length=5) (hk:∀ w',blk w' k=some x.g→Ch (·=k) w w'→w'.heap.size=w.heap.size→K w') :
 Sv.st w (Addr.add ⟨k,0,none⟩ 0) (.int .i64 x.k) fun w1=>Sv.st w1 (Addr.add ⟨k,0,none⟩ 1) (.int .u64 (x.n:Int)) fun w2=>Sv.st w2 (Addr.add ⟨k,0,none⟩ 2) (.string ⟨x.t.toArray⟩) fun w3=>Sv.st w3 (Addr.add ⟨k,0,none⟩ 3) (.slice x.s.p x.s.n x.s.c) fun w4=>Sv.st w4 (Addr.add ⟨k,0,none⟩ 4) (.int .i64 x.e) fun w5=>K w5:=by
 simp only [add_at,Nat.zero_add]
 exact st5 h hl hk
theorem ld5a {w:World} {k:Nat} {x:MV} {K:Int→Int→ByteArray→Option Addr→Nat→Nat→Int→Prop} (h:blk w k=some x.g) (hk:K x.k (x.n:Int) ⟨x.t.toArray⟩ x.s.p x.s.n x.s.c x.e) :
 ∃ n,w.cell? (Addr.add ⟨k,0,none⟩ 0)=some (.int .i64 n)∧∃ n1,w.cell? (Addr.add ⟨k,0,none⟩ 1)=some (.int .u64 n1)∧∃ s,w.cell? (Addr.add ⟨k,0,none⟩ 2)=some (.string s)∧∃ p n2 c,w.cell? (Addr.add ⟨k,0,none⟩ 3)=some (.slice p n2 c)∧∃ n3,w.cell? (Addr.add ⟨k,0,none⟩ 4)=some (.int .i64 n3)∧K n n1 s p n2 c n3:=by
 simp only [add_at,Nat.zero_add]
 exact ld5v h hk
theorem ev_ok {g:GV} (hg:GB g) {x:TV} {w:World} (hL:LW w) (hx:Tm w x) (hr:GR (fun _=>True) w g) {K:Value→World→Prop} (hk:∀ (y:MV) (w':World),y.m=evalB (lookB g.m) x.m→VO w' y→y.B=[]→Ch (fun _=>False) w w'→K y.v w'):callP Tryz.prog 19 [x.v,g.v] w K :=
 Eval_ok flTrue (GG_of hg) (tall_TG hx.ta) (fun hc=>tall_SG hx.ta hc) hL hx.tr hr hk
theorem alike_ok {g:GV} (hg:GB g) {x y:TV} {w:World} (hL:LW w) (hx:Tm w x) (hy:Tm w y) (hr:GR (fun _=>True) w g) {K:Value→World→Prop} (hk:∀ w',Ch (fun _=>False) w w'→K (.bool (decide (evalB (lookB g.m) x.m=evalB (lookB g.m) y.m))) w') :
 callP Tryz.prog 27 [x.v,y.v,g.v] w K:=by
 rw [← tvv x,← tvv y]
 apply ok_longshorelaw16_alike
 refine newB_blk fun w1 b1 c1 z1=>newB_blk fun w2 b2 c2 z2=>?_
 have b1:blk w1 w.heap.size=some x.g:=b1.trans (by cases x; rfl)
 have b2:blk w2 w1.heap.size=some y.g:=b2.trans (by cases y; rfl)
 refine asAgg_of g.glen ?_
 refine newB_blk fun w3 b3 c3 z3=>?_
 have c03:=(c1.trans' c2).trans' c3
 refine ld8a (((c2.trans' c3).blk (blk_lt b1) id).trans b1) ?_
 rw [tvv]
 refine ldG b3 ?_
 refine ev_ok hg (hL.ch c03 fun _ _ h=>h) (hx.ch0 c03) (hr.ch0 c03) fun u w4 hu uo uB c4=>is5 ?_
 refine newB_blk fun w5 b5 c5 z5=>?_
 have c35:=c4.trans' c5
 refine st5a (x:=u) b5 rfl fun w6 b6 c6 z6=>?_
 have h1:=c1.size
 have h2:=c2.size
 have h3:=c3.size
 have h4:=c4.size
 have b26:blk w6 w1.heap.size=some y.g:=by
  have q:blk w5 w1.heap.size=some y.g:=((c3.trans' c35).blk (blk_lt b2) id).trans b2
  have:=blk_lt b2
  exact (c6.blk (blk_lt q) (by omega)).trans q
 have b36:blk w6 w2.heap.size=some g.g:=by
  have q:blk w5 w2.heap.size=some g.g:=(c35.blk (blk_lt b3) id).trans b3
  have:=blk_lt b3
  exact (c6.blk (blk_lt q) (by omega)).trans q
 have c06:Ch (fun _=>False) w w6:=(c03.trans' c35).trans c6 fun z hz h=>by omega
 refine ld8a b26 ?_
 rw [tvv]
 refine ldG b36 ?_
 refine ev_ok hg (hL.ch c06 fun _ _ h=>h) (hy.ch0 c06) (hr.ch0 c06) fun v w7 hv vo vB c7=>is5 ?_
 refine newB_blk fun w8 b8 c8 z8=>?_
 refine st5a (x:=v) b8 rfl fun w9 b9 c9 z9=>?_
 have h7:=c7.size
 have c68:=c7.trans' c8
 have b69:blk w9 w4.heap.size=some u.g:=by
  have q:blk w8 w4.heap.size=some u.g:=(c68.blk (blk_lt b6) id).trans b6
  have:=blk_lt b6
  exact (c9.blk (blk_lt q) (by omega)).trans q
 refine ld5a b69 (ld5a b9 ?_)
 rw [vv,vv]
 have nb:∀ {z:MV} {S:Nat→Prop},z.B=[]→∀ b∈z.B,¬ S b:=fun h b hb=>by rw [h] at hb; cases hb
 have uo9:VO w9 u:=VO.ch c9 u (VO.ch c68 u (VO.ch c6 u (VO.ch c5 u uo (nb uB)) (nb uB)) (nb uB)) (nb uB)
 have vo9:VO w9 v:=VO.ch c9 v (VO.ch c8 v vo (nb vB)) (nb vB)
 refine rEqual_ok (Q:=fun _=>True) (Q':=fun _=>True) u v (VO.vr u uo9 _ fun _ _=>trivial) (VO.vr v vo9 _ fun _ _=>trivial) fun w10 c10=>⟨_,rfl,?_⟩
 rw [hu,hv]
 exact hk w10 (((c06.trans' c68).trans c9 fun z hz h=>by omega).trans' c10)
set_option maxRecDepth 100000 in
set_option maxHeartbeats 4000000 in
theorem three_law {x y:TV} {g:GV} {w:World} (hL:LW w) (hx:TR (fun _=>True) w x) (hxb:Tall bndT x.m) (hy:TR (fun _=>True) w y) (hyb:Tall bndT y.m) (hr:GR (fun _=>True) w g) (hg:GB g) {K:Value→World→Prop} (hk:∀ w',Ch (fun _=>False) w w'→K (.bool true) w'):callP Tryz.prog 6 [x.v,y.v,g.v] w K:=by
 rw [← tvv x,← tvv y]
 apply ok_longshorelaw16_SieveThree
 have X:Tm w x:=⟨hx,hxb⟩
 have Y:Tm w y:=⟨hy,hyb⟩
 refine newB_blk fun w1 b1 c1 z1=>newB_blk fun w2 b2 c2 z2=>?_
 have b1:blk w1 w.heap.size=some x.g:=b1.trans (by cases x; rfl)
 have b2:blk w2 w1.heap.size=some y.g:=b2.trans (by cases y; rfl)
 refine asAgg_of g.glen ?_
 refine newB_blk fun w3 b3 c3 z3=>?_
 have c03:=(c1.trans' c2).trans' c3
 have bx:∀ {u:World},Ch (fun _=>False) w3 u→blk u w.heap.size=some x.g:=fun c=>(((c2.trans' c3).trans' c).blk (blk_lt b1) id).trans b1
 have by2:∀ {u:World},Ch (fun _=>False) w3 u→blk u w1.heap.size=some y.g:=fun c=>((c3.trans' c).blk (blk_lt b2) id).trans b2
 have bg:∀ {u:World},Ch (fun _=>False) w3 u→blk u w2.heap.size=some g.g:=fun c=>(c.blk (blk_lt b3) id).trans b3
 have lw:∀ {u:World},Ch (fun _=>False) w3 u→LW u:=fun c=>hL.ch (c03.trans' c) fun _ _ h=>h
 have X3:=X.ch0 c03
 have Y3:=Y.ch0 c03
 have R3:=hr.ch0 c03
 have fin:∀ {u:World},Ch (fun _=>False) w3 u→K (.bool true) u:=fun c=>hk _ (c03.trans' c)
 clear b1 b2 b3 z1 z2 z3 hk
 refine awake_ok (lw (Ch.refl _ _)) fun w4 c4=>⟨_,rfl,Sif_false ?_⟩
 refine ld8a (bx c4) ?_
 rw [tvv]
 refine tGreat_ok (X3.ch0 c4).tr hxb fun g1 w5 d5=>⟨_,rfl,?_⟩
 have c5:=c4.trans' d5
 refine ld8a (by2 c5) ?_
 rw [tvv]
 refine tGreat_ok (Y3.ch0 c5).tr hyb fun g2 w6 d6=>⟨_,rfl,?_⟩
 have c6:=c5.trans' d6
 refine ldG (bg c6) ?_
 refine mGreat_ok (R3.ch0 c6) hg fun g3 w7 d7=>⟨_,rfl,?_⟩
 have c7:=c6.trans' d7
 refine ⟨fun u=>u=w7,?_,Sif_cases (fun _=>Sif_cases (fun _=>Sif_cases (fun _=>fin c7) fun _=>rfl) fun _=>fin c7) fun _=>fin c7⟩
 rintro w8 rfl
 refine ld8a (bx c7) ?_
 rw [tvv]
 refine small_ok (lw c7) (X3.ch0 c7) fun w9 d9=>⟨_,rfl,?_⟩
 have c9:=c7.trans' d9
 refine ld8a (by2 c9) ?_
 rw [tvv]
 refine small_ok (lw c9) (Y3.ch0 c9) fun w10 d10=>⟨_,rfl,?_⟩
 have c10:=c9.trans' d10
 refine ⟨fun u=>u=w10∧smallB x.m=true∧smallB y.m=true,?_,?_⟩
 ·rintro w11 ⟨rfl,sx,sy⟩
  have h3:=three_all (lookB g.m) sx sy
  unfold three at h3
  simp only [Bool.and_eq_true] at h3
  obtain ⟨⟨⟨⟨⟨⟨⟨⟨⟨t1,t2⟩,t3⟩,t4⟩,t5⟩,t6⟩,t7⟩,t8⟩,t9⟩,t10⟩:=h3
  refine ld8a (bx c10) (ld8a (by2 c10) ?_)
  refine newB_k fun a3 u1 p1 q1=>?_
  have p1:blk u1 a3=some (x.g++y.g):=p1.trans (by cases x; cases y; rfl)
  have e1:=c10.trans' q1
  refine ld8a (by2 e1) (ld8a (bx e1) ?_)
  refine newB_k fun a4 u2 p2 q2=>?_
  have p2:blk u2 a4=some (y.g++x.g):=p2.trans (by cases x; cases y; rfl)
  have e2:=(e1.trans' q2).trans' (Ch.drew u2)
  refine ld8a (w:=u2.drew) (bx e2) (ld8a (w:=u2.drew) (by2 e2) ?_)
  rw [tvv x,tvv y]
  refine lno_ok fun j1 u3 m1 q3=>?_
  have e3:=e2.trans' q3
  refine isT ⟨ld8a (by2 e3) (tvv y),?_⟩
  refine lno_ok fun j2 u4 m2 q4=>?_
  have e4:=e3.trans' q4
  refine isT ?_
  obtain ⟨nx,hnx⟩:∃ nx,nx=noV j1 x:=⟨_,rfl⟩
  obtain ⟨ny,hny⟩:∃ ny,ny=noV j2 y:=⟨_,rfl⟩
  rw [← hnx,← hny]
  refine newB_k fun a5 u5 p5 q5=>?_
  have p5:blk u5 a5=some (nx.g++ny.g):=p5.trans (by cases nx; cases ny; rfl)
  have E:=e4.trans' q5
  have k25:=(((Ch.drew (S:=fun _=>False) u2).trans' q3).trans' q4).trans' q5
  have X5:=X3.ch0 E
  have Y5:=Y3.ch0 E
  have G5:=R3.ch0 E
  have B3:blk u5 a3=some (x.g++y.g):=((q2.trans' k25).blk (blk_lt p1) id).trans p1
  have B4:blk u5 a4=some (y.g++x.g):=(k25.blk (blk_lt p2) id).trans p2
  have NX:Tm u5 nx:=by rw [hnx]; exact Tm.no (((q4.trans' q5).blk (blk_lt m1) id).trans m1) X5
  have NY:Tm u5 ny:=by rw [hny]; exact Tm.no ((q5.blk (blk_lt m2) id).trans m2) Y5
  have TA:∀ k,Tm u5 (ofV k (some ⟨a3,0,none⟩) 2 2 [x,y]):=fun k=>Tm.two k B3 X5 Y5
  have TB:∀ k,Tm u5 (ofV k (some ⟨a4,0,none⟩) 2 2 [y,x]):=fun k=>Tm.two k B4 Y5 X5
  have TN:∀ k,Tm u5 (ofV k (some ⟨a5,0,none⟩) 2 2 [nx,ny]):=fun k=>Tm.two k p5 NX NY
  have F:∀ {u:World},Ch (fun _=>False) u5 u→Ch (fun _=>False) w3 u:=fun c=>E.trans' c
  have i0:=Ch.drew (S:=fun _=>False) u5
  refine ldG (bg (F i0)) ?_
  refine lof_ok [x,y] fun o1 g1=>?_
  have h1:=i0.trans' g1
  refine isT ⟨ldG (bg (F h1)) rfl,?_⟩
  rw [tvv]
  refine lno_ok fun n2 o2 s2 g2=>?_
  have h2:=h1.trans' g2
  refine isT ⟨ldG (bg (F h2)) rfl,?_⟩
  refine lof_ok [nx,ny] fun o3 g3=>?_
  have h3:=h2.trans' g3
  refine isT ⟨ldG (bg (F h3)) rfl,?_⟩
  rw [tvv,tvv]
  refine alike_ok hg (lw (F h3)) ((Tm.no s2 ((TA 4).ch0 h2)).ch0 g3) ((TN 5).ch0 h3) (G5.ch0 h3) fun o4 g4=>⟨_,rfl,?_⟩
  have h4:=(h3.trans' g4).trans' (Ch.drew o4)
  refine ldG (bg (F h4)) ?_
  refine lof_ok [x,y] fun o5 g5=>?_
  have h5:=h4.trans' g5
  refine isT ⟨ldG (bg (F h5)) rfl,?_⟩
  rw [tvv]
  refine lno_ok fun n6 o6 s6 g6=>?_
  have h6:=h5.trans' g6
  refine isT ⟨ldG (bg (F h6)) rfl,?_⟩
  refine lof_ok [nx,ny] fun o7 g7=>?_
  have h7:=h6.trans' g7
  refine isT ⟨ldG (bg (F h7)) rfl,?_⟩
  rw [tvv,tvv]
  refine alike_ok hg (lw (F h7)) ((Tm.no s6 ((TA 5).ch0 h6)).ch0 g7) ((TN 4).ch0 h7) (G5.ch0 h7) fun o8 g8=>⟨_,rfl,?_⟩
  have h8:=(h7.trans' g8).trans' (Ch.drew o8)
  refine ldG (bg (F h8)) ?_
  refine lof_ok [x,y] fun o9 g9=>?_
  have h9:=h8.trans' g9
  refine isT ⟨ldG (bg (F h9)) rfl,?_⟩
  refine lof_ok [x,y] fun o10 g10=>?_
  have h10:=h9.trans' g10
  refine isT ⟨ldG (bg (F h10)) rfl,?_⟩
  rw [tvv,tvv]
  refine lno_ok fun n11 o11 s11 g11=>?_
  have h11:=h10.trans' g11
  refine isT ⟨ldG (bg (F h11)) rfl,?_⟩
  rw [tvv]
  refine alike_ok hg (lw (F h11)) ((TA 7).ch0 h11) (Tm.no s11 ((TA 6).ch0 h11)) (G5.ch0 h11) fun o12 g12=>⟨_,rfl,?_⟩
  have h12:=(h11.trans' g12).trans' (Ch.drew o12)
  refine ldG (bg (F h12)) ?_
  refine lof_ok [x,y] fun o13 g13=>?_
  have h13:=h12.trans' g13
  refine isT ⟨ldG (bg (F h13)) rfl,?_⟩
  refine lof_ok [x,y] fun o14 g14=>?_
  have h14:=h13.trans' g14
  refine isT ⟨ldG (bg (F h14)) rfl,?_⟩
  rw [tvv,tvv]
  refine lno_ok fun n15 o15 s15 g15=>?_
  have h15:=h14.trans' g15
  refine isT ⟨ldG (bg (F h15)) rfl,?_⟩
  rw [tvv]
  refine alike_ok hg (lw (F h15)) ((TA 11).ch0 h15) (Tm.no s15 ((TA 8).ch0 h15)) (G5.ch0 h15) fun o16 g16=>⟨_,rfl,?_⟩
  have h16:=(h15.trans' g16).trans' (Ch.drew o16)
  refine ldG (bg (F h16)) ?_
  refine lof_ok [x,y] fun o17 g17=>?_
  have h17:=h16.trans' g17
  refine isT ⟨ldG (bg (F h17)) rfl,?_⟩
  refine lof_ok [x,y] fun o18 g18=>?_
  have h18:=h17.trans' g18
  refine isT ⟨ldG (bg (F h18)) rfl,?_⟩
  rw [tvv,tvv]
  refine lno_ok fun n19 o19 s19 g19=>?_
  have h19:=h18.trans' g19
  refine isT ⟨ldG (bg (F h19)) rfl,?_⟩
  rw [tvv]
  refine alike_ok hg (lw (F h19)) ((TA 9).ch0 h19) (Tm.no s19 ((TA 10).ch0 h19)) (G5.ch0 h19) fun o20 g20=>⟨_,rfl,?_⟩
  have h20:=(h19.trans' g20).trans' (Ch.drew o20)
  refine ldG (bg (F h20)) ?_
  refine lof_ok [x,y] fun o21 g21=>?_
  have h21:=h20.trans' g21
  refine isT ⟨ldG (bg (F h21)) rfl,?_⟩
  refine lof_ok [y,x] fun o22 g22=>?_
  have h22:=h21.trans' g22
  refine isT ⟨ldG (bg (F h22)) rfl,?_⟩
  rw [tvv,tvv]
  refine alike_ok hg (lw (F h22)) ((TA 8).ch0 h22) ((TB 10).ch0 h22) (G5.ch0 h22) fun o23 g23=>⟨_,rfl,?_⟩
  have h23:=(h22.trans' g23).trans' (Ch.drew o23)
  refine ldG (bg (F h23)) ?_
  refine lof_ok [x,y] fun o24 g24=>?_
  have h24:=h23.trans' g24
  refine isT ⟨ldG (bg (F h24)) rfl,?_⟩
  refine lof_ok [y,x] fun o25 g25=>?_
  have h25:=h24.trans' g25
  refine isT ⟨ldG (bg (F h25)) rfl,?_⟩
  rw [tvv,tvv]
  refine alike_ok hg (lw (F h25)) ((TA 6).ch0 h25) ((TB 6).ch0 h25) (G5.ch0 h25) fun o26 g26=>⟨_,rfl,?_⟩
  have h26:=(h25.trans' g26).trans' (Ch.drew o26)
  refine ldG (bg (F h26)) ?_
  refine lof_ok [x,y] fun o27 g27=>?_
  have h27:=h26.trans' g27
  refine isT ⟨ldG (bg (F h27)) rfl,?_⟩
  refine lof_ok [y,x] fun o28 g28=>?_
  have h28:=h27.trans' g28
  refine isT ⟨ldG (bg (F h28)) rfl,?_⟩
  rw [tvv,tvv]
  refine alike_ok hg (lw (F h28)) ((TA 4).ch0 h28) ((TB 4).ch0 h28) (G5.ch0 h28) fun o29 g29=>⟨_,rfl,?_⟩
  have h29:=h28.trans' g29
  refine ld8a (bx (F h29)) ?_
  rw [tvv]
  refine ldG (bg (F h29)) ?_
  refine ev_ok hg (lw (F h29)) (X5.ch0 h29) (G5.ch0 h29) fun v v1 hv vo vB d1=>is5 ?_
  have f1:=h29.trans' d1
  refine newB_blk fun v2 p6 d2 z2=>?_
  refine st5a (x:=v) p6 rfl fun v3 b6 d3 z3=>?_
  have f1s:=f1.size
  have f3:=((f1.trans' d2).trans d3 fun z hz h=>by omega).trans' (Ch.drew v3)
  refine ld8a (w:=v3.drew) (bx (F f3)) (ld8a (w:=v3.drew) (bx (F f3)) ?_)
  refine ldG (bg (F f3)) ?_
  rw [tvv]
  refine lno_ok fun j5 v4 m5 d4=>?_
  have f4:=f3.trans' d4
  refine isT ⟨ldG (bg (F f4)) rfl,ld8a (bx (F f4)) (tvv x),?_⟩
  rw [tvv]
  refine lno_ok fun j6 v5 m6 d5=>?_
  have f5:=f4.trans' d5
  refine isT ⟨ldG (bg (F f5)) rfl,ld8a (bx (F f5)) (tvv x),?_⟩
  rw [tvv]
  refine alike_ok hg (lw (F f5)) (Tm.no m6 ((Tm.no m5 (X5.ch0 f4)).ch0 d5)) (X5.ch0 f5) (G5.ch0 f5) fun v6 d6=>⟨_,rfl,?_⟩
  have f6:=f5.trans' d6
  refine ld8a (bx (F f6)) ?_
  rw [tvv]
  refine ldG (bg (F f6)) ?_
  refine Fits_ok flTrue (GG_of hg) (tall_TG X5.ta) (fun hc=>tall_SG X5.ta hc) (lw (F f6)) (X5.ch0 f6).tr (G5.ch0 f6) fun v7 d7=>⟨_,rfl,?_⟩
  have hk8:=fin (F (f6.trans' d7))
  have b8:blk v7 v1.heap.size=some v.g:=((((((Ch.drew (S:=fun _=>False) v3).trans' d4).trans' d5).trans' d6).trans' d7).blk (blk_lt b6) id).trans b6
  simp only [noV_m,ofV_m,hnx,hny,List.map_cons,List.map_nil]
  have mf:=v.mf
  rw [hv] at mf
  rw [mf.1,mf.2.1] at t10
  have t10:=beq_iff_eq.1 t10
  have tail:∃ n,v7.cell? (Addr.add ⟨v1.heap.size,0,none⟩ 0)=some (.int .i64 n)∧Sif (n == 1) (∃ n1,v7.cell? (Addr.add ⟨v1.heap.size,0,none⟩ 1)=some (.int .u64 n1)∧K (.bool (fitsB (lookB g.m) x.m == (n1 == 1))) v7) (K (.bool (fitsB (lookB g.m) x.m == false)) v7):=by
   simp only [add_at]
   refine ⟨_,MV.c0 b8,?_⟩
   rw [intEq]
   refine Sif_cases (fun h=>⟨_,MV.c1 b8,?_⟩) (fun h=>?_)
   ·rw [h,Bool.true_and] at t10
    rw [intEq,show decide ((v.n:Int)=1)=decide (v.n=1) from decide_eq_decide.2 (by omega),t10,beqT _ _ rfl]
    exact hk8
   ·rw [h,Bool.false_and] at t10
    rw [t10]; exact hk8
  refine sift t1 (sift t2 (sift t3 (sift t4 (sift t5 (sift t6 (sift t7 (sift t8 ?_)))))))
  refine Sif_cases (fun h=>?_) (fun _=>tail)
  simp only [add_at]
  refine ⟨_,MV.c0 b8,?_⟩
  refine sift ?_ (by simpa only [add_at] using tail)
  have h:decide (evalB (lookB g.m) (oneT 3 [oneT 3 [x.m]])=evalB (lookB g.m) x.m)=false:=by simpa using h
  rw [h,mf.1,Bool.false_or] at t9
  simpa using t9
 ·refine Sif_cases (fun h=>?_) (fun _=>fin c10)
  refine Sif_cases (fun _=>fin c10) (fun h2=>⟨rfl,by simpa using h,by simpa using h2⟩)
end Go.Proofs.YtnmlmicmhpkbeaaGreatDoor
