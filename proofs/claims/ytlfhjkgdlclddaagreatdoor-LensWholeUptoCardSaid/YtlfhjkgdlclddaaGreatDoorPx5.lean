/-
  strings.Builder, also where it is embedded in a struct of its own: what its methods do.
-/
import Derived.Test.YtlfhjkgdlclddaaGreatDoorPx4
import Derived.Lib.Builder
import Derived.Lib.UnsafeStr
import Derived.Laws.AppendOwn
import Derived.Lib.AppendStr
import Derived.Lib.RuneBytes
set_option linter.unusedVariables false
set_option linter.unusedSimpArgs false
namespace Go.Proofs.YtlfhjkgdlclddaaGreatDoor
open Go Go.Sv Go.RowKit
def TB:TypeId:=56
def TPr:TypeId:=120
def BAt(w:World)(T:TypeId)(b:Nat)(l:List UInt8)(g:Option Nat):Prop :=
 ∃p v,w.heap[b]?=some (.cells #[.pointer p,v] T (0,0))/\(p=none\/p=some ⟨b,0,none⟩)/\w.ownsRow 0 5 1 v l.length (aV l)/\v.ownBlock=g/\g≠some b/\(l=[]->v=.slice none 0 0)
def BT(T:TypeId):Prop:=T=TB\/T=TPr
theorem iL:Tryz.prog.underlying 5=some (.int .u8):=by kernel_rfl
theorem fD:Tryz.prog.underlying 22=some (.slice 5):=by kernel_rfl
theorem dN:Tryz.prog.underlying 9=some .string:=by kernel_rfl
theorem aSp:(Tryz.prog.info? 5).map (λi=>(i.zero,i.size,i.bytes))=some (some (.int .u8 0),1,1):=by kernel_rfl
theorem aSw{w w':World}{row:Option Nat}(h:w.grownBy w' row):Ch (λk=>row=some k) w w' :=
 ⟨h.os,h.tape,h.output,h.size,λb hb hn=>h.block b hb λe=>hn e.symm⟩
theorem yE{w w':World}{S:Nat->Prop}(h:Ch S w w'){row:Option Nat}(hs:∀k,k<w.heap.size->S k->row=some k):w.grownBy w' row :=
 ⟨h.os,h.tape,h.output,h.size,λk hk hn=>h.keep k hk λhS=>hn (hs k hk hS).symm⟩
theorem BAt.lt{w:World}{T:TypeId}{b:Nat}{l:List UInt8}{g:Option Nat}(h:BAt w T b l g):b<w.heap.size:=by
 obtain⟨p,v,h1,_⟩:=h;exact gL h1
theorem BAt.glt{w:World}{T:TypeId}{b:Nat}{l:List UInt8}{g:Option Nat}(h:BAt w T b l g):∀k,g=some k->k<w.heap.size:=by
 obtain⟨p,v,_,_,h3,h4,_⟩:=h;intro k hk;exact(h3.lt k (h4.trans hk)).2
theorem BAt.ch{w w':World}{T:TypeId}{b:Nat}{l:List UInt8}{g:Option Nat}{S:Nat->Prop}(h:BAt w T b l g)(hc:Ch S w w')(hb:¬S b)(hg:∀k,g=some k->¬S k):BAt w' T b l g:=by
 have hl:=h.lt;have hgl:=h.glt;obtain⟨p,v,h1,h2,h3,h4,h5,h6⟩:=h;refine⟨p,v,by rw[hc.keep b hl hb];exact h1,h2,?_,h4,h5,h6⟩;refine⟨h3.1,?_⟩;rcases h3.2 with hn|⟨g',cap,cur,rfl,hb',hgg,rest⟩
 ·exact .inl hn
 ·have e:g=some g':=by rw[<-h4];rfl
  exact .inr ⟨g',cap,cur,rfl,hb',by rw[hc.keep g' (gL hgg) (hg g' e)];exact hgg,rest⟩
theorem BAt.new{w:World}{T:TypeId}:BAt (w.alloc (.cells #[.pointer none,.slice none 0 0] T)) T w.heap.size [] none :=
 ⟨none,.slice none 0 0,heap_alloc_new w _,.inl rfl,World.ownsRow_nil _ _ _ _,rfl,by simp,λ_=>rfl⟩
theorem lN{w:World}{b:Nat}{x y:Value}{T:TypeId}{fz:Nat × Nat}(h:w.heap[b]?=some (.cells #[x,y] T fz)):w.cell? ⟨b,0,none⟩=some x/\w.cell? ⟨b,1,none⟩=some y:=by
 constructor<;>simp[World.cell?,h]
theorem aKt{w:World}{b:Nat}{x y:Value}{T:TypeId}(h:w.heap[b]?=some (.cells #[x,y] T (0,0))):blk w b=some [x,y]:=by
 simp[blk,h]
theorem aRc{w:World}{b:Nat}{x y v:Value}{T:TypeId}(h:w.heap[b]?=some (.cells #[x,y] T (0,0))){K:World->Prop}(i:Nat)(hi:i<2)
 (hk:∀w',w'.heap[b]?=some (.cells (#[x,y].setIfInBounds i v) T (0,0))->Ch (·=b) w w'->w'.heap.size=w.heap.size->K w'):Sv.st w ⟨b,i,none⟩ v K:=by
 refine⟨?_,jW (aKt h) (by simpa using hi),hk _ ?_ (qN w b i v) (by simp)⟩
 ·rw[eA (aKt h)]
  match i,hi with
  | 0,_=>rfl
  | 1,_=>rfl
 ·simp only[World.setCell,Array.getElem?_modify,if_true,h,Option.map_some];have hi2:i<#[x,y].size:=by simpa using hi
  congr 2
theorem BAt.keep{w w':World}{T:TypeId}{b:Nat}{l:List UInt8}{g:Option Nat}{p:Option Addr}{v:Value}(h3:w.ownsRow 0 5 1 v l.length (aV l))(h4:v.ownBlock=g)(h5:g≠some b)(h6:l=[]->v=.slice none 0 0)
 (hp:p=none\/p=some ⟨b,0,none⟩) (hc:Ch (·=b) w w') (hb:w'.heap[b]?=some (.cells #[.pointer p,v] T (0,0))):BAt w' T b l g :=
 ⟨p,v,hb,hp,h3.kept (yE hc (row:=some b) λk _ hk=>by rw[hk]) (.inr (by rw[h4];exact h5)),h4,h5,h6⟩
theorem rO{w:World}{T:TypeId}{b:Nat}{l:List UInt8}{g:Option Nat}(hB:BAt w T b l g)(hT:BT T){K:Value->World->Prop}
 (hk:∀w',BAt w' T b l g->Ch (·=b) w w'->w'.heap.size=w.heap.size->K (.tuple #[]) w'):bK Tryz.prog 66 [.pointer (some ⟨b,0,none⟩)] w K:=by
 apply mJ;have hB':=hB;obtain⟨p,v,h1,h2,h3,h4,h5,h6⟩:=hB;obtain⟨c0,c1⟩:=lN h1;have hsh:w.shape? b=some (T,2):=by simp[World.shape?,h1]
 refine⟨p,by simpa[Addr.add]using c0,?_⟩;have hptr:Tryz.prog.underlying 54=some (.pointer 56):=by kernel_rfl
 have hun:Tryz.prog.underlying 126=some .unsafePointer:=by kernel_rfl
 obtain⟨j,hj,hjs⟩:=Option.map_eq_some_iff.1 (show(Tryz.prog.info? 56).map (·.size)=some 2 by kernel_rfl);rcases h2 with rfl|rfl
 ·refine iH ?_;have hlies:liesAt Tryz.prog Tryz.prog.depth T (2 / Tryz.prog.cellsOf T) 0 56 1=true:=by
   rcases hT with rfl|rfl<;>kernel_rfl
  refine⟨_,Lib.run_to_unsafe w ⟨b,0,none⟩ hptr hun hj (by omega) hsh (by show 0<2;omega),?_⟩;refine⟨.pointer (some ⟨b,0,none⟩),w,?_,?_⟩
  ·rw[run_callFunc_extern Tryz.func97 (by kernel_rfl) (by kernel_rfl) (by kernel_rfl) (e:=Extern.AbiNoEscape.same) (by kernel_rfl),Lib.run_noEscape];rfl
  refine⟨_,rfl,_,Lib.run_from_unsafe w ⟨b,0,none⟩ hun hptr hj hsh hlies,?_⟩;simp only[nn,add_at];refine aRc h1 0 (by decide) λw' b' c' z'=>hk w' ?_ c' z';exact BAt.keep h3 h4 h5 h6 (.inr rfl) c' (by simpa using b')
 ·refine dJ ?_;refine⟨_,by simpa[Addr.add]using c0,?_⟩;refine⟨false,?_,dJ (hk w hB' (Ch.refl _ _) rfl)⟩;intro x y;have e:=Lib.run_neq_ptr_same (P:=Tryz.prog) w ⟨b,0,none⟩ hptr hj;simp only[bV,eqGuard_at_pointer,cI,aZ];exact e
def BW(w w':World)(T:TypeId)(b:Nat)(l:List UInt8)(g:Option Nat):Prop :=
 ∃g',BAt w' T b l g'/\(∀k,g'=some k->g=some k\/w.heap.size<=k)/\Ch (λk=>k=b\/g=some k) w w'
theorem aGk{w:World}{v:Value}{n:Nat}{xs:List Value}(h:w.ownsRow 0 5 1 v n xs):∃p c,v=.slice p n c/\Ow w p n c 1 xs v.ownBlock:=by
 obtain⟨h1,h2⟩:=h;rcases h2 with⟨rfl,rfl⟩|⟨g,cap,cur,rfl,_,hg,hn,_,hs,ht⟩
 ·exact⟨none,0,rfl,h1,aQ _,.inl ⟨rfl,rfl⟩⟩
 ·refine⟨some ⟨g,0,none⟩,cap,rfl,h1,hn,.inr ⟨g,0,cur.toList,rfl,rfl,?_,by simp[hs],by simpa using ht⟩⟩;simp[blk,hg]
theorem aE1{w:World}{v:Value}{n:Nat}{xs:List Value}(hown:w.ownsRow 0 5 1 v n xs){T2:TypeId}{x:Value}{m:Nat}{ys:List Value}(hs:Src Tryz.prog 1 T2 x m ys w)(h1:n+m<=2^47){ty:TypeId}
 (hkit:∃v' w',(Builtin.append_ #[22,T2] ty #[v,x]).run Tryz.prog w=.ok v' w'/\w'.ownsRow 0 5 1 v' (n+m) (xs++ys)/\w.grownBy w' v.ownBlock/\(v'=.slice none 0 0↔v=.slice none 0 0/\m=0)) :
 ∃p' c' w',(Builtin.append_ #[22,T2] ty #[v,x]).run Tryz.prog w=.ok (.slice p' (n+m) c') w'/\w'.ownsRow 0 5 1 (.slice p' (n+m) c') (n+m) (xs++ys)/\w.grownBy w' v.ownBlock/\(∀k,(Value.slice p' (n+m) c').ownBlock=some k->v.ownBlock=some k\/w.heap.size<=k)/\(Value.slice p' (n+m) c'=.slice none 0 0↔v=.slice none 0 0/\m=0):=by
 obtain⟨v',w',r1,r2,r3,r4⟩:=hkit;obtain⟨p,c,rfl,ho⟩:=aGk hown;obtain⟨inf,hi,hi2⟩:=Option.map_eq_some_iff.1 aSp;simp only[Prod.mk.injEq]at hi2;obtain⟨hz,hsz,hby⟩:=hi2;obtain⟨p',c',w2,b',q1,q2,q3⟩:=rR (ty:=ty) fD hi hz (by rw[hsz];rfl) (by rw[hsz];exact ho) (by rw[hsz];exact hs) h1 (by rw[hby];omega);rw[r1]at q1;injection q1 with e1 e2
 subst e1;subst e2;refine⟨p',c',w',r1,r2,r3,λk hk=>?_,r4⟩;rcases q3 with⟨_,_,_,rfl,_⟩|⟨_,_,rfl,_⟩
 ·left;cases p' with
  | none=>cases hk
  | some a=>exact hk
 ·right;simp only[Value.ownBlock,Option.some.injEq]at hk;omega
theorem yJ{w:World}{v:Value}{n:Nat}{xs:List Value}(hown:w.ownsRow 0 5 1 v n xs){b m c:Nat}{ys:List Value}(hb:blk w b=some ys)(hm:ys.length=m)(hone:∀u∈ys,nK u=true)(h1:n+m<=2^46){ty:TypeId} :
 ∃p' c' w',(Builtin.append_ #[22,22] ty #[v,.slice (some ⟨b,0,none⟩) m c]).run Tryz.prog w=.ok (.slice p' (n+m) c') w'/\w'.ownsRow 0 5 1 (.slice p' (n+m) c') (n+m) (xs++ys)/\w.grownBy w' v.ownBlock/\(∀k,(Value.slice p' (n+m) c').ownBlock=some k->v.ownBlock=some k\/w.heap.size<=k)/\(Value.slice p' (n+m) c'=.slice none 0 0↔v=.slice none 0 0/\m=0):=by
 obtain⟨inf,hi,hi2⟩:=Option.map_eq_some_iff.1 aSp;simp only[Prod.mk.injEq]at hi2;obtain⟨hz,hsz,hby⟩:=hi2;refine aE1 hown (Src.of_rd fD ⟨by omega,.inr ⟨b,0,ys,rfl,gX hb,by omega,by rw[bS,aY (by omega)]⟩⟩ hone) (by omega) ?_;obtain⟨v',w',r1,r2,r3,r4⟩:=run_append_own (P:=Tryz.prog) w 0 22 ty 5 inf (.int .u8 0) 1 1 fD hi hz hsz hby rfl (by omega) v n xs hown ⟨b,0,none⟩ m c ys (by omega)
  (λj u hj=>by rw[add_at,aL,eA hb];exact hj) (λu hu=>by rw[qQ];exact hone u hu) (by unfold maxLen;omega) (by omega) (by omega)
 exact⟨v',w',r1,r2,r3,r4⟩
theorem aNg{w:World}{v:Value}{n:Nat}{xs:List Value}(hown:w.ownsRow 0 5 1 v n xs)(s:ByteArray)(h1:n+s.size<=2^46){ty:TypeId} :
 ∃p' c' w',(Builtin.append_ #[22,9] ty #[v,.string s]).run Tryz.prog w=.ok (.slice p' (n+s.size) c') w'/\w'.ownsRow 0 5 1 (.slice p' (n+s.size) c') (n+s.size) (xs++aV s.data.toList)/\w.grownBy w' v.ownBlock/\(∀k,(Value.slice p' (n+s.size) c').ownBlock=some k->v.ownBlock=some k\/w.heap.size<=k)/\(Value.slice p' (n+s.size) c'=.slice none 0 0↔v=.slice none 0 0/\s.size=0):=by
 obtain⟨inf,hi,hi2⟩:=Option.map_eq_some_iff.1 aSp;simp only[Prod.mk.injEq]at hi2;obtain⟨hz,hsz,hby⟩:=hi2;refine aE1 hown (Src.ofString (w:=w) dN s) (by omega) ?_;obtain⟨v',w',r1,r2,r3,r4⟩:=Lib.run_append_own_string (P:=Tryz.prog) w 0 22 9 ty 5 inf fD dN hi hz hsz hby v n xs hown s (by unfold maxLen;omega) (by omega) (by omega);exact⟨v',w',r1,r2,r3,r4⟩
theorem yO{w w1 w2 w3:World}{T:TypeId}{b:Nat}{l':List UInt8}{g:Option Nat}{p:Option Addr}{v v':Value}(hb:b<w.heap.size)(hgl:∀k,g=some k->k<w.heap.size)
 (h1:w1.heap[b]?=some (.cells #[.pointer p,v] T (0,0))) (hp:p=none\/p=some ⟨b,0,none⟩) (hv:v.ownBlock=g) (hg:g≠some b) (c1:Ch (·=b) w w1) (c2:Ch (λ_=>False) w1 w2) (g3:w2.grownBy w3 v.ownBlock)
 (ho:w3.ownsRow 0 5 1 v' l'.length (aV l')) (hv':∀k,v'.ownBlock=some k->v.ownBlock=some k\/w2.heap.size<=k) (h6:l'=[]->v'=.slice none 0 0) {K:World->Prop} (hk:∀w',BW w w' T b l' g->K w'):Sv.st w3 ⟨b,1,none⟩ v' K:=by
 have hb1:b<w1.heap.size:=gL h1;have h3:w3.heap[b]?=some (.cells #[.pointer p,v] T (0,0)):=by
  rw[g3.block b (Nat.lt_of_lt_of_le hb1 c2.size) (by rw[hv];exact hg.symm),c2.keep b hb1 (λh=>h)];exact h1
 refine aRc h3 1 (by decide) λw4 b4 c4 z4=>hk w4 ?_;have hne:v'.ownBlock≠some b:=λe=>by
  rcases hv' b e with h|h
  ·exact hg (hv.symm.trans h)
  ·have:=c2.size;omega
 have hsz:w.heap.size<=w2.heap.size:=Nat.le_trans c1.size c2.size;refine⟨v'.ownBlock,BAt.keep ho rfl hne h6 hp c4 (by simpa using b4),λk hk=>(hv' k hk).imp (λh=>hv.symm.trans h) λh=>by omega,?_⟩;refine((((c1.mono λ_ _ h=>Or.inl h).trans' (c2.mono λ_ _ h=>h.elim)).trans' ((aSw g3).mono λ_ _ h=>Or.inr (by rw[<-hv];exact h))).trans' (c4.mono λ_ _ h=>Or.inl h))
theorem gG{w:World}{T:TypeId}{b:Nat}{l:List UInt8}{g:Option Nat}(hB:BAt w T b l g)(hT:BT T)(c:UInt8)(hl:l.length+1<=2^46){K:Value->World->Prop}
 (hk:∀w',BW w w' T b (l++[c]) g->K .nilIface w'):bK Tryz.prog 36 [.pointer (some ⟨b,0,none⟩),.int .u8 (c.toNat:Int)] w K:=by
 apply mM;refine rO hB hT λw1 B1 c1 z1=>⟨rfl,?_⟩;have hlt:=hB.lt;have hgl:=hB.glt;obtain⟨p,v,h1,h2,h3,h4,h5,h6⟩:=B1;obtain⟨d0,d1⟩:=lN h1;simp only[nn,add_at];obtain⟨q,cq,rfl,_⟩:=aGk h3;refine⟨q,_,cq,d1,?_⟩;refine bD λw2 b2 c2 z2=>?_;have h3':=h3.kept (yE c2 (row:=none) λ_ _ h=>h.elim) (by cases hv:(Value.slice q l.length cq).ownBlock<;>simp);obtain⟨p',c',w3,r1,r2,r3,r4,r5⟩:=yJ (ty:=22) (c:=1) h3' b2 rfl (by intro u hu;simp only[List.mem_singleton]at hu;subst hu;rfl) (by simpa using hl);refine⟨p',_,c',w3,r1,?_⟩;refine yO (l':=l++[c]) hlt hgl h1 h2 h4 h5 c1 c2 r3 ?_ r4 (λh=>by simp at h) hk;rw[aG,eM];exact r2
theorem iW{w:World}{T:TypeId}{b:Nat}{l:List UInt8}{g:Option Nat}(hB:BAt w T b l g)(hT:BT T)(s:ByteArray)(hl:l.length+s.size<=2^46){K:Value->World->Prop}
 (hk:∀w',BW w w' T b (l++s.data.toList) g->K (.tuple #[.int .i64 (s.size:Int),.nilIface]) w'):bK Tryz.prog 35 [.pointer (some ⟨b,0,none⟩),.string s] w K:=by
 apply lH;refine rO hB hT λw1 B1 c1 z1=>⟨rfl,?_⟩;have hlt:=hB.lt;have hgl:=hB.glt;obtain⟨p,v,h1,h2,h3,h4,h5,h6⟩:=B1;obtain⟨d0,d1⟩:=lN h1;simp only[nn,add_at];obtain⟨q,cq,rfl,_⟩:=aGk h3;refine⟨q,_,cq,d1,?_⟩;obtain⟨p',c',w3,r1,r2,r3,r4,r5⟩:=aNg (ty:=22) h3 s hl;refine⟨p',_,c',w3,r1,?_⟩;refine yO (l':=l++s.data.toList) hlt hgl h1 h2 h4 h5 c1 (Ch.refl _ _) r3 ?_ r4 (λh=>by
  obtain⟨e1,e2⟩:=List.append_eq_nil_iff.1 h;exact r5.2 ⟨h6 e1,by have:=congrArg List.length e2;simpa using this⟩) λw' hw=>by simpa only[cF]using hk w' hw
 rw[aG,eM,Array.length_toList];exact r2
theorem aB3(a m:Nat)(hm:(a=192/\m<32)\/(a=224/\m<16)\/(a=240/\m<8)\/(a=128/\m<64)):cL .or .u8 (a:Int) (m:Int)=((a+m:Nat):Int):=by
 have h:∀m:Fin 64,(m.val<32->cL .or .u8 192 (m.val:Int)=((192+m.val:Nat):Int))/\(m.val<16->cL .or .u8 224 (m.val:Int)=((224+m.val:Nat):Int))/\(m.val<8->cL .or .u8 240 (m.val:Int)=((240+m.val:Nat):Int))/\cL .or .u8 128 (m.val:Int)=((128+m.val:Nat):Int):=by decide +kernel
 rcases hm with⟨rfl,hm⟩|⟨rfl,hm⟩|⟨rfl,hm⟩|⟨rfl,hm⟩
 ·exact(h ⟨m,by omega⟩).1 hm
 ·exact(h ⟨m,by omega⟩).2.1 hm
 ·exact(h ⟨m,by omega⟩).2.2.1 hm
 ·exact(h ⟨m,by omega⟩).2.2.2
theorem aNd(x:Nat)(hx:x<256):cL .and .u8 (x:Int) 63=((x%64:Nat):Int):=by
 have h:∀x:Fin 256,cL .and .u8 (x.val:Int) 63=((x.val%64:Nat):Int):=by decide +kernel
 exact h ⟨x,hx⟩
theorem wU(x:Nat):IntKind.wrap .u8 (x:Int)=((x%256:Nat):Int):=by
 unfold IntKind.wrap;simp[IntKind.bits,IntKind.signed]
theorem aPd{r:Nat}{w:World}{J:Bool->World->Prop}(hr:r<55296\/57343<r)(h:J (decide (r<55296\/r<=65535)) w) :
 aS (decide ((r:Int)<55296)) (J (decide ((r:Int)<55296)) w) (aS (decide (57343<(r:Int))) (J (decide ((r:Int)<=65535)) w) (J false w)):=by
 have e0:decide ((r:Int)<55296)=decide (r<55296):=by rw[decide_eq_decide];omega
 have e1:decide (57343<(r:Int))=decide (57343<r):=by rw[decide_eq_decide];omega
 have e2:decide ((r:Int)<=65535)=decide (r<=65535):=by rw[decide_eq_decide];omega
 rw[e0,e1,e2];generalize hx:decide (r<55296\/r<=65535)=x at h;generalize ha:decide (r<55296)=a;generalize hb:decide (57343<r)=b;generalize hc:decide (r<=65535)=c;have h1:a=true->x=true:=λhh=>by
  subst ha;subst hx;have:=aB hh;exact aR (Or.inl this)
 have h2:a=false->b=true:=λhh=>by
  subst ha;subst hb;have:=aA hh;exact aR (by omega)
 have h3:a=false->x=c:=λhh=>by
  subst ha;subst hx;subst hc;have:=aA hh;rw[decide_eq_decide];omega
 cases a with
 | true=>have:=h1 rfl;subst this;exact h
 | false =>
  have e:=h2 rfl;have e3:=h3 rfl;subst e;subst e3;exact h
attribute [local irreducible] aS
theorem aFw{w:World}{q:Option Addr}{n c:Nat}{l:List UInt8}(h3:w.ownsRow 0 5 1 (.slice q n c) n (aV l))(r:Nat)(hr1:r<=1114111)(hr2:r<55296\/57343<r)(hl:n+4<=2^46){K:Value->World->Prop}
 (hk:∀p' c' w1 w',Ch (λ_=>False) w w1->w'.ownsRow 0 5 1 (.slice p' (n+(Lib.encodeRune r).length) c') (n+(Lib.encodeRune r).length) (aV (l++Lib.encodeRune r))->w1.grownBy w' (Value.slice q n c).ownBlock ->
   (∀k,(Value.slice p' (n+(Lib.encodeRune r).length) c').ownBlock=some k->(Value.slice q n c).ownBlock=some k\/w1.heap.size<=k)->K (.slice p' (n+(Lib.encodeRune r).length) c') w') :
 bK Tryz.prog 85 [.slice q n c,.int .i32 (r:Int)] w K:=by
 apply wI
 -- one piece of bytes behind
 have piece:∀(ys:List UInt8) (w:World) (K:Value->World->Prop),ys.length<=4->w.ownsRow 0 5 1 (.slice q n c) n (aV l) ->
  (∀p' c' w1 w',Ch (λ_=>False) w w1->w'.ownsRow 0 5 1 (.slice p' (n+ys.length) c') (n+ys.length) (aV (l++ys))->w1.grownBy w' (Value.slice q n c).ownBlock ->
    (∀k,(Value.slice p' (n+ys.length) c').ownBlock=some k->(Value.slice q n c).ownBlock=some k\/w1.heap.size<=k)->K (.slice p' (n+ys.length) c') w') ->
  bP w (aV ys) 5 λa w1=>∃p1 n1 c1 w2,Sem.run Tryz.prog (Builtin.append_ #[22,22] 22 #[.slice q n c,.slice (some a) ys.length ys.length]) w1=.ok (.slice p1 n1 c1) w2/\K (.slice p1 n1 c1) w2:=by
  intro ys w K hys h3 hk;refine bD λw2 b2 c2 z2=>?_;have h3':=h3.kept (yE c2 (row:=none) λ_ _ h=>h.elim) (by cases hv:(Value.slice q n c).ownBlock<;>simp);obtain⟨p',c',w3,r1,r2,r3,r4,r5⟩:=yJ (ty:=22) (m:=ys.length) (c:=ys.length) h3' b2 (by simp) (wP _) (by omega);refine⟨p',_,c',w3,r1,hk p' c' w2 w3 c2 ?_ r3 r4⟩;rw[eM];exact r2
 have w32:IntKind.wrap .u32 (r:Int)=(r:Int):=by
  unfold IntKind.wrap;simp[IntKind.bits,IntKind.signed];omega
 rw[w32];have d6:Int.fdiv (r:Int) (2^6)=((r / 64:Nat):Int):=by rw[cJ _ (by decide)];rfl
 have d12:Int.fdiv (r:Int) (2^12)=((r / 4096:Nat):Int):=by rw[cJ _ (by decide)];rfl
 have d18:Int.fdiv (r:Int) (2^18)=((r / 262144:Nat):Int):=by rw[cJ _ (by decide)];rfl
 have tail:∀x:Nat,cL .or .u8 128 (cL .and .u8 (IntKind.wrap .u8 (x:Int)) 63)=((128+x%64:Nat):Int):=by
  intro x;rw[wU,aNd _ (by omega)];have:=aB3 128 (x%256%64) (by omega);rw[show((128:Nat):Int)=128 from rfl]at this;rw[this];omega
 by_cases h1:r<=127
 ·refine aC (λ_=>?_) (λh=>by simp at h;omega);have e:Lib.encodeRune r=[r.toUInt8]:=by
   unfold Lib.encodeRune;rw[Lib.encodeRuneZ_one (by omega) (by omega)];simp
  rw[e]at hk;have:=piece [r.toUInt8] w K (by simp) h3 hk;have e2:IntKind.wrap .u8 (r:Int)=(r.toUInt8.toNat:Int):=by rw[wU];simp
  rw[e2];exact this
 ·refine aC (λh=>by simp at h;omega) (λ_=>?_);refine aNc (K:=λv w'=>∃p' c',v=.slice p' (n+(Lib.encodeRune r).length) c'/\K v w') ?_ λv w' ⟨p',c',hv,hK⟩=>⟨p',_,c',hv,by rw[<-hv];exact hK⟩;apply nL;rw[w32];simp only[cF,d6,d12,d18,tail];have key:∀(ys:List UInt8) (w1:World),Ch (λ_=>False) w w1->Lib.encodeRune r=ys->ys.length<=4->bP w1 (aV ys) 5 λa w2=>∃p1 n1 c1 w3,Sem.run Tryz.prog (Builtin.append_ #[22,22] 22 #[.slice q n c,.slice (some a) ys.length ys.length]) w2=.ok (.slice p1 n1 c1) w3/\∃p' c',Value.slice p1 n1 c1=.slice p' (n+(Lib.encodeRune r).length) c'/\K (.slice p1 n1 c1) w3:=by
   intro ys w1 hc he hy;have h3':=h3.kept (yE hc (row:=none) λ_ _ h=>h.elim) (by cases hv:(Value.slice q n c).ownBlock<;>simp);have:=piece ys w1 (λv w'=>∃p' c',v=.slice p' (n+(Lib.encodeRune r).length) c'/\K v w') hy h3' (λp' c' w2 w3 g1 g2 g3 g4=>by
    subst he;exact⟨p',c',rfl,hk p' c' w2 w3 (hc.trans' g1) g2 g3 g4⟩)
   exact this
  by_cases h2:r<=2047
  ·refine aC (λ_=>?_) (λh=>by simp at h;omega);refine⟨by omega,?_⟩;have e:Lib.encodeRune r=[(192+r / 64).toUInt8,(128+r%64).toUInt8]:=by
    unfold Lib.encodeRune;rw[Lib.encodeRuneZ_two (by omega) (by omega)];simp only[List.map_cons,List.map_nil];congr 2
   have:=key _ w (Ch.refl _ _) e (by simp);have e1:cL .or .u8 192 (IntKind.wrap .u8 ((r / 64:Nat):Int))=((192+r / 64:Nat):Int):=by
    rw[wU,Nat.mod_eq_of_lt (by omega)];exact aB3 192 (r / 64) (by omega)
   rw[e1];have e2:aV [(192+r / 64).toUInt8,(128+r%64).toUInt8]=[.int .u8 ((192+r / 64:Nat):Int),.int .u8 ((128+r%64:Nat):Int)]:=by
    simp[aV];omega
   rw[e2]at this;exact this
  ·refine aC (λh=>by simp at h;omega) (λ_=>?_);obtain⟨J,hJ⟩:∃J:Bool->World->Prop,J=λb w1=>w1=w/\b=decide (r<55296\/r<=65535):=⟨_,rfl⟩;have hJ':J (decide (r<55296\/r<=65535)) w:=by rw[hJ];exact⟨rfl,rfl⟩
   refine⟨J,?_,@aPd r w J hr2 hJ'⟩
   ·intro b w1 hj;rw[hJ]at hj;obtain⟨rfl,rfl⟩:=hj;by_cases h3:r<=65535
    ·refine aC (λ_=>?_) (λh=>by simp at h;omega);refine⟨by omega,by omega,?_⟩;have e:Lib.encodeRune r=[(224+r / 4096).toUInt8,(128+r / 64%64).toUInt8,(128+r%64).toUInt8]:=by
      unfold Lib.encodeRune;rw[Lib.encodeRuneZ_three (by omega)];simp only[List.map_cons,List.map_nil];congr 2
     have:=key _ w1 (Ch.refl _ _) e (by simp);have e1:cL .or .u8 224 (IntKind.wrap .u8 ((r / 4096:Nat):Int))=((224+r / 4096:Nat):Int):=by
      rw[wU,Nat.mod_eq_of_lt (by omega)];exact aB3 224 (r / 4096) (by omega)
     rw[e1];have e2:aV [(224+r / 4096).toUInt8,(128+r / 64%64).toUInt8,(128+r%64).toUInt8]=[.int .u8 ((224+r / 4096:Nat):Int),.int .u8 ((128+r / 64%64:Nat):Int),.int .u8 ((128+r%64:Nat):Int)]:=by
      simp[aV];omega
     rw[e2]at this;exact this
    ·refine aC (λh=>by simp at h;omega) (λ_=>?_);refine aC (λ_=>?_) (λh=>by simp at h;omega);refine aC (λ_=>?_) (λh=>by simp at h;omega);refine⟨by omega,by omega,by omega,?_⟩;have e:Lib.encodeRune r=[(240+r / 262144).toUInt8,(128+r / 4096%64).toUInt8,(128+r / 64%64).toUInt8,(128+r%64).toUInt8]:=by
      unfold Lib.encodeRune;rw[Lib.encodeRuneZ_four (by omega) (by omega)];simp only[List.map_cons,List.map_nil];congr 2
     have:=key _ w1 (Ch.refl _ _) e (by simp);have e1:cL .or .u8 240 (IntKind.wrap .u8 ((r / 262144:Nat):Int))=((240+r / 262144:Nat):Int):=by
      rw[wU,Nat.mod_eq_of_lt (by omega)];exact aB3 240 (r / 262144) (by omega)
     rw[e1];have e2:aV [(240+r / 262144).toUInt8,(128+r / 4096%64).toUInt8,(128+r / 64%64).toUInt8,(128+r%64).toUInt8]=[.int .u8 ((240+r / 262144:Nat):Int),.int .u8 ((128+r / 4096%64:Nat):Int),.int .u8 ((128+r / 64%64:Nat):Int),.int .u8 ((128+r%64:Nat):Int)]:=by
      simp[aV];omega
     rw[e2]at this;exact this
theorem aEn(r:Int):0<(Lib.encodeRune r).length:=by
 unfold Lib.encodeRune Lib.encodeRuneZ
 repeat' split
 all_goals simp
theorem yN{w:World}{T:TypeId}{b:Nat}{l:List UInt8}{g:Option Nat}(hB:BAt w T b l g)(hT:BT T)(r:Nat)(hr1:r<=1114111)(hr2:r<55296\/57343<r)(hl:l.length+4<=2^46){K:Value->World->Prop}
 (hk:∀w' n,BW w w' T b (l++Lib.encodeRune r) g->K (.tuple #[.int .i64 n,.nilIface]) w'):bK Tryz.prog 58 [.pointer (some ⟨b,0,none⟩),.int .i32 (r:Int)] w K:=by
 apply mK;refine rO hB hT λw1 B1 c1 z1=>⟨rfl,?_⟩;have hlt:=hB.lt;have hgl:=hB.glt;obtain⟨p,v,h1,h2,h3,h4,h5,h6⟩:=B1;obtain⟨d0,d1⟩:=lN h1;simp only[nn,add_at];obtain⟨q,cq,rfl,_⟩:=aGk h3;refine⟨q,_,cq,d1,q,_,cq,d1,?_⟩;refine aFw h3 r hr1 hr2 hl λp' c' w2 w3 g1 g2 g3 g4=>⟨p',_,c',rfl,?_⟩;refine yO (l':=l++Lib.encodeRune r) hlt hgl h1 h2 h4 h5 c1 g1 g3 ?_ g4 (λh=>by
  have e:=(List.append_eq_nil_iff.1 h).2;have:=aEn r;rw[e]at this;exact absurd this (by decide)) λw' hw=>?_
 ·rw[aG];exact g2
 ·have hw':=hw;obtain⟨g',⟨p3,v3,i1,i2,i3,i4,i5,i6⟩,_⟩:=hw';obtain⟨e0,e1⟩:=lN i1;obtain⟨q3,c3,rfl,_⟩:=aGk i3;exact⟨q3,_,c3,e1,hk w' _ hw⟩
theorem aW9{w:World}{T:TypeId}{b:Nat}{l:List UInt8}{g:Option Nat}(hB:BAt w T b l g){K:Value->World->Prop}
 (hk:K (.int .i64 (l.length:Int)) w):bK Tryz.prog 92 [.pointer (some ⟨b,0,none⟩)] w K:=by
 apply qR;obtain⟨p,v,h1,h2,h3,h4,h5,h6⟩:=hB;obtain⟨d0,d1⟩:=lN h1;obtain⟨q,cq,rfl,_⟩:=aGk h3;simp only[nn,add_at];exact⟨q,_,cq,d1,hk⟩
theorem uR{w:World}{T:TypeId}{b:Nat}{l:List UInt8}{g:Option Nat}(hB:BAt w T b l g)(hl:l.length<=2^46){K:Value->World->Prop}
 (hk:∀w',Ch (λk=>g=some k) w w'->K (.string ⟨l.toArray⟩) w'):bK Tryz.prog 34 [.pointer (some ⟨b,0,none⟩)] w K:=by
 apply oA;obtain⟨p,v,h1,h2,h3,h4,h5,h6⟩:=hB;obtain⟨d0,d1⟩:=lN h1;simp only[nn,add_at];by_cases hl0:l=[]
 ·have hv:=h6 hl0;subst hv hl0;refine⟨none,0,0,d1,none,rfl,none,0,0,d1,ByteArray.mk #[],w.drew,rfl,?_⟩;exact hk w.drew (Ch.drew w)
 ·rcases h3.2 with⟨rfl,hl1⟩|⟨g',cap,cur,rfl,_,hg,hn,hcm,hs,ht⟩
  ·exact absurd (bI hl1) hl0
  ·have hpos:0<l.length:=List.length_pos_iff.2 hl0;refine⟨some ⟨g',0,none⟩,_,cap,d1,?_⟩;refine⟨_,Lib.run_unsafeSliceData_row _ _ _ _ _ _ (by omega),_,_,_,d1,?_⟩;have hg':w.drew.heap[g']?=some (.cells cur 5 (0,0)):=hg;have hUS:=Lib.run_unsafeString_row (P:=Tryz.prog) w.drew 95 3 9 5 (by kernel_rfl) (by kernel_rfl) g' cur.size (by unfold World.shape?;rw[hg']) l hl0 (by omega) (by omega)
    (λj x hx=>by
      have:=h3.cells (g:=g') rfl j (.int .u8 x.toNat) (by simp[aV,hx]);exact this)
   refine⟨_,_,hUS,hk _ ?_⟩;have:g=some g':=by rw[<-h4];rfl
   subst this;unfold World.freeze;split
   ·exact(Ch.drew w)
   ·refine⟨rfl,rfl,rfl,by simp,λb hb hn=>?_⟩;simp only[Array.getElem?_modify];rw[aD (λe=>hn (congrArg some e))];rfl
end Go.Proofs.YtlfhjkgdlclddaaGreatDoor
