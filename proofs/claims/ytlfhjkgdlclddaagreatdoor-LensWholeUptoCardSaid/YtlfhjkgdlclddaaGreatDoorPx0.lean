/-
  A reading of the model's code by a function: 'Go.Sv.wpC' computes, from a function's code and from values known at the entry, what must hold for the call to return as wanted. It is sound over every program (XSvSound). Nothing of this file names a program.
-/
import Derived.OrdersIn
import Derived.RangeFuncRecord
import Derived.Scope
set_option linter.unusedVariables false
set_option linter.unusedSimpArgs false
theorem aA{p:Prop}[Decidable p](h:decide p=false):¬p:=of_decide_eq_false h
theorem aB{p:Prop}[Decidable p](h:decide p=true):p:=of_decide_eq_true h
theorem aD{c:Prop}{h:Decidable c}(hnc:¬c:=by omega){α:Sort _}{t e:α}:(ite c t e)=e:=if_neg hnc
theorem aF{c:Prop}{h:Decidable c}(hc:c:=by omega){α:Sort _}{t e:α}:(ite c t e)=t:=if_pos hc
theorem aG:∀ {α : Type _} {as bs : List α}, List.length (as ++ bs) = List.length as + List.length bs:=@List.length_append
theorem aI:∀ {α : Type _} {a : α} {as : List α}, List.length (a :: as) = List.length as + 1:=@List.length_cons
theorem aK:∀ {α : Type _} {l : List α} {i : Nat} (h : i < List.length l), l[i]? = some l[i]:=@List.getElem?_eq_getElem
theorem aL:∀ (n : Nat), 0 + n = n:=@Nat.zero_add
theorem aM:∀ (n : Nat), Int.toNat (n : Int) = n:=@Int.toNat_natCast
theorem aN:∀ {α : Type _} {i : Nat} {l : List α}, List.length (List.drop i l) = List.length l - i:=@List.length_drop
theorem aO:∀ {α : Type _} {a : α} {as bs : List α}, a :: as ++ bs = a :: (as ++ bs):=@List.cons_append
theorem aP:∀ {α : Type _} (as bs cs : List α), as ++ bs ++ cs = as ++ (bs ++ cs):=@List.append_assoc
theorem aQ:∀ (n : Nat), n <= n:=@Nat.le_refl
theorem aR:∀ {p : Prop} [Decidable p], p -> decide p = true:=@decide_eq_true
theorem aU:∀ {α : Type _} {i : Nat} {l : List α}, List.length (List.take i l) = min i (List.length l):=@List.length_take
theorem aX:∀ {α : Type _} (as : List α), [] ++ as = as:=@List.nil_append
theorem aY:∀ {α : Type _} {i : Nat} {l : List α}, List.length l <= i -> List.take i l = l:=@List.take_of_length_le
theorem aZ:∀ {α β : Type} (a : α) (w : Go.World) (f : α -> Go.World -> Go.Result β), Go.Result.andThen (Go.Result.ok a w) f = f a w:=@Go.Result.andThen_ok
theorem bA:∀ {p : Prop} [Decidable p], (decide p = true) = p:=@decide_eq_true_eq
theorem bB:∀ {p : Prop} [Decidable p], ¬p -> decide p = false:=@decide_eq_false
theorem bC:∀ {α : Type _} {val val_1 : α}, some val = some val_1 -> val = val_1:=@Option.some.inj
theorem bF:∀ (b : Bool), ((!b) = false) = (b = true):=@Bool.not_eq_false'
theorem bG:∀ (b : Bool), ((!b) = true) = (b = false):=@Bool.not_eq_true'
theorem bH:∀ (a b : Bool), ((a && b) = true) = (a = true /\ b = true):=@Bool.and_eq_true
theorem bI:∀ {α : Type _} {l : List α}, List.length l = 0 -> l = []:=@List.eq_nil_of_length_eq_zero
theorem bJ:∀ {α : Type _} {l : List α} {i : Nat} {a : α}, l[i]? = some a -> a ∈ l:=@List.mem_of_getElem?
theorem bN:∀ {α : Type _}, List.length ([]:List α) = 0:=@List.length_nil
theorem bQ:∀ (n : Nat), 0 <= n:=@Nat.zero_le
theorem bR:∀ {n m : Nat} (k : Nat), n <= m -> n * k <= m * k:=@Nat.mul_le_mul_right
theorem bS:∀ {α : Type _} {l : List α}, List.drop 0 l = l:=@List.drop_zero
theorem bU:∀ {α : Type _} {β : Type _} {x : α} {xs : List α} {f : α -> List β}, List.flatMap f (x :: xs) = f x ++ List.flatMap f xs:=@List.flatMap_cons
theorem bV:∀ {α β : Type} (P : Go.Program) (w : Go.World) (x : Go.Sem α) (f : α -> Go.Sem β), Go.Sem.run P (x >>= f) w = Go.Result.andThen (Go.Sem.run P x w) fun a w' => Go.Sem.run P (f a) w':=@Go.Sem.run_bind
theorem bW:∀ {α : Type _} {i : Nat} {l : List α}, List.length l <= i -> List.drop i l = []:=@List.drop_of_length_le
theorem cI:∀ {α : Type} (P : Go.Program) (w : Go.World) (a : α), Go.Sem.run P (pure a) w = Go.Result.ok a w:=@Go.Sem.run_pure
theorem cJ:∀ (a : Int) {b : Int}, 0 <= b -> Int.fdiv a b = a / b:=@Int.fdiv_eq_ediv_of_nonneg
theorem cK:∀ {α : Type _} {l₁ l₂ : List α} {i : Nat}, i < List.length l₁ -> (l₁ ++ l₂)[i]? = l₁[i]?:=@List.getElem?_append_left
theorem cN:∀ {α : Type _} (y : α) {a : α} {l : List α}, a ∈ l -> a ∈ y :: l:=@List.mem_cons_of_mem
theorem cO:∀ (n : Nat), n + 0 = n:=@Nat.add_zero
theorem cU:∀ {α : Type _} {xs : List α} {i j : Nat}, (List.drop i xs)[j]? = xs[i + j]?:=@List.getElem?_drop
theorem cZ:∀ {α : Type _} {l : List α} {i j : Nat}, (List.take i l)[j]? = if j < i then l[j]? else none:=@List.getElem?_take
theorem dB:∀ {α : Type _} {i : Nat} {l : List α} (h : i < List.length l), List.drop i l = l[i] :: List.drop (i + 1) l:=@List.drop_eq_getElem_cons
theorem dH:∀ {α : Type _} {β : Type _} {f : α -> β} {l : List α} {i : Nat}, (List.map f l)[i]? = Option.map f l[i]?:=@List.getElem?_map
theorem dQ:∀ {α : Type _} {a : α}, List.length [a] = 1:=@List.length_singleton
theorem dV:∀ {α : Type _} {l₁ l₂ : List α} {i : Nat}, List.length l₁ <= i -> (l₁ ++ l₂)[i]? = l₂[i - List.length l₁]?:=@List.getElem?_append_right
theorem eI:∀ {α : Type _} {β : Type _} {as : List α} (f : α -> β), List.length (List.map f as) = List.length as:=@List.length_map
theorem eS:∀ {α : Type _} {l : List α} {i : Nat}, List.length l <= i -> l[i]? = none:=@List.getElem?_eq_none
theorem fB:∀ {α : Type _} {l₁ l₂ : List α} {i : Nat}, i <= List.length l₁ -> List.drop i (l₁ ++ l₂) = List.drop i l₁ ++ l₂:=@List.drop_append_of_le_length
theorem gC:∀ {p : Prop} {x : Decidable p}, decide p = false ↔ ¬p:=@decide_eq_false_iff_not
theorem kF:∀ {α : Type _} {l₁ l₂ : List α} {i : Nat}, i <= List.length l₁ -> List.take i (l₁ ++ l₂) = List.take i l₁:=@List.take_append_of_le_length
theorem kG:∀ {α : Type _} {l : List α} {i : Nat}, List.take (i + 1) l = List.take i l ++ Option.toList l[i]?:=@List.take_add_one
namespace Go.Sv
open Go
inductive Sh where
 | bool|int (k:IntKind)|str|ptr|slice|map|raw
inductive VSh where
 | cell (s:Sh)
 | agg (l:List Sh)
inductive RSh where
 | one (s:VSh)
 | tup (l:List VSh)
def exC:Sh->(Value->Prop)->Prop
 | .bool,K=>∃b:Bool,K (.bool b)
 | .int k,K=>∃n:Int,K (.int k n)
 | .str,K=>∃s:ByteArray,K (.string s)
 | .ptr,K=>∃p:Option Addr,K (.pointer p)
 | .slice,K=>∃(p:Option Addr) (n c:Nat),K (.slice p n c)
 | .map,K=>∃r:Option Nat,K (.map r)
 | .raw,K=>∃v:Value,K v
def exL:List Sh->(List Value->Prop)->Prop
 | [],K=>K []
 | s::l,K=>exC s λv=>exL l λvs=>K (v::vs)
def exV:VSh->(Value->Prop)->Prop
 | .cell s,K=>exC s K
 | .agg l,K=>exL l λvs=>K (.agg vs.toArray)
def aVc:List VSh->(List Value->Prop)->Prop
 | [],K=>K []
 | s::l,K=>exV s λv=>aVc l λvs=>K (v::vs)
def exR:RSh->(Value->Prop)->Prop
 | .one s,K=>exV s K
 | .tup l,K=>aVc l λvs=>K (.tuple vs.toArray)
def aVw:Sh->(Value->Prop)->Prop
 | .bool,K=>∀b:Bool,K (.bool b)
 | .int k,K=>∀n:Int,K (.int k n)
 | .str,K=>∀s:ByteArray,K (.string s)
 | .ptr,K=>∀p:Option Addr,K (.pointer p)
 | .slice,K=>∀(p:Option Addr) (n c:Nat),K (.slice p n c)
 | .map,K=>∀r:Option Nat,K (.map r)
 | .raw,K=>∀v:Value,K v
def aW7:List Sh->(List Value->Prop)->Prop
 | [],K=>K []
 | s::l,K=>aVw s λv=>aW7 l λvs=>K (v::vs)
def aX2:VSh->(Value->Prop)->Prop
 | .cell s,K=>aVw s K
 | .agg l,K=>aW7 l λvs=>K (.agg vs.toArray)
def aT8:List VSh->(List Value->Prop)->Prop
 | [],K=>K []
 | s::l,K=>aX2 s λv=>aT8 l λvs=>K (v::vs)
def aPb(P:Program)(t:TypeId):Sh :=
 match P.underlying t with
 | some .bool=>.bool
 | some (.int k)=>.int k
 | some .string=>.str
 | some (.pointer _)=>.ptr
 | some .unsafePointer=>.ptr
 | some (.slice _)=>.slice
 | some (.map _ _)=>.map
 | _=>.raw
def iU(P:Program)(t:TypeId):Bool :=
 match P.underlying t with
 | some (.struct _)|some (.array _ _)=>true
 | _=>false
def rep(n:Nat)(l:List Sh):List Sh :=
 match n with
 | 0=>[]
 | n+1=>l++rep n l
def aTo{α β:Type}(f:α->List β):List α->List β
 | []=>[]
 | x::l=>f x++aTo f l
def rJ(P:Program):Nat->TypeId->List Sh
 | 0,_=>[]
 | d+1,t =>
  match P.underlying t with
  | some (.struct fs)=>aTo (λf:Field=>rJ P d f.type) fs.toList
  | some (.array n e)=>rep n (rJ P d e)
  | _=>[aPb P t]
def aF1(P:Program)(t:TypeId):VSh:=if iU P t then .agg (rJ P 12 t)else .cell (aPb P t)
def aGe(P:Program)(t:TypeId):RSh :=
 match P.underlying t with
 | some (.tuple ts)=>.tup (ts.toList.map (aF1 P))
 | _=>.one (aF1 P t)
def aS(b:Bool)(x y:Prop):Prop :=
 match b with
 | true=>x
 | false=>y
def nn(p:Option Addr)(K:Addr->Prop):Prop :=
 match p with
 | some a=>K a
 | none=>False
def nK:Value->Bool
 | .agg _|.tuple _=>false
 | _=>true
def cH(s:ByteArray)(n:Nat):Int:=((s.data.toList.getD n 0).toNat:Int)
def gI(a:Option Addr)(l m size:Nat):Option Addr:=if m=l then a else a.map (·.add (l*size))
def isI:Value->Bool
 | .nilIface|.iface _ _=>true
 | _=>false
def jV:Value->Bool
 | .nilIface=>true
 | _=>false
def cL(op:BinOp)(k:IntKind)(x y:Int):Int :=
 k.wrap (match op with
  | .and=>BitVec.ofInt k.bits x &&& BitVec.ofInt k.bits y
  | .or=>BitVec.ofInt k.bits x ||| BitVec.ofInt k.bits y
  | .xor=>BitVec.ofInt k.bits x ^^^ BitVec.ofInt k.bits y
  | _=>BitVec.ofInt k.bits x &&& ~~~(BitVec.ofInt k.bits y)).toNat
def aIi(op:BinOp)(k:IntKind)(a b:Int)(K:Value->Prop):Prop :=
 match op with
 | .add=>K (.int k (k.wrap (a+b)))
 | .sub=>K (.int k (k.wrap (a-b)))
 | .mul=>K (.int k (k.wrap (a*b)))
 | .quo=>b≠0/\K (.int k (k.wrap (a.tdiv b)))
 | .rem=>b≠0/\K (.int k (a.tmod b))
 | .and=>K (.int k (cL .and k a b))
 | .or=>K (.int k (cL .or k a b))
 | .xor=>K (.int k (cL .xor k a b))
 | .andNot=>K (.int k (cL .andNot k a b))
 | .eql=>K (.bool (a == b))
 | .neq=>K (.bool (a != b))
 | .lss=>K (.bool (decide (a<b)))
 | .leq=>K (.bool (decide (a<=b)))
 | .gtr=>K (.bool (decide (a>b)))
 | .geq=>K (.bool (decide (a>=b)))
 | _=>False
def aNr(op:BinOp)(x y:ByteArray)(K:Value->Prop):Prop :=
 match op with
 | .add=>((x.size+y.size:Nat):Int)<=9223372036854775807/\K (.string (x++y))
 | .eql=>K (.bool (x.toList == y.toList))
 | .neq=>K (.bool (!(x.toList == y.toList)))
 | .lss=>K (.bool (Op.bytesLess x.toList y.toList))
 | .leq=>K (.bool (Op.bytesLess x.toList y.toList || x.toList == y.toList))
 | .gtr=>K (.bool (!(Op.bytesLess x.toList y.toList || x.toList == y.toList)))
 | .geq=>K (.bool (!(Op.bytesLess x.toList y.toList)))
 | _=>False
def rL(op:BinOp)(r:Bool)(K:Value->Prop):Prop :=
 match op with
 | .eql=>K (.bool r)
 | .neq=>K (.bool (!r))
 | _=>False
def wL:Operand->Bool
 | .const .nilIface=>true
 | _=>false
def aOa(P:Program)(op:BinOp)(T:TypeId)(u v:Value)(w:World)(K:Bool->Prop):Prop :=
 ∃r:Bool,(∀x y:Operand,(do eqGuard op T x y u v;binOp op T u v:Sem Value).run P w=.ok (.bool r) w)/\K r
def aSj(u:Value)(K:Bool->Prop):Prop :=
 match u with
 | .nilFunc=>K true
 | .func _ _ _=>K false
 | _=>False
def aBp(P:Program)(t:TypeId)(u v:Value)(K:Bool->Prop):Prop :=
 match P.underlying t with
 | some .bool=>(match u,v with
  | .bool a,.bool b=>K (a == b)
  | _,_=>False)
 | some (.int _)=>(match u,v with
  | .int k a,.int k' b=>(match decide (k=k')with
   | true=>K (a == b)
   | false=>False)
  | _,_=>False)
 | some .string=>(match u,v with
  | .string a,.string b=>K (a.toList == b.toList)
  | _,_=>False)
 | _=>False
def aVg(P:Program):List Field->List Value->List Value->(Bool->Prop)->Prop
 | [],_,_,K=>K true
 | f::fs,xs,ys,K=>match f.name != "_" with
  | true=>(match xs[f.offset]?,ys[f.offset]? with
   | some a,some b=>aBp P f.type a b λr=>aVg P fs xs ys λr2=>K (r && r2)
   | _,_=>False)
  | false=>False
def pG(P:Program)(op:BinOp)(T:TypeId)(y:Operand)(u v:Value)(K:Value->Prop):Prop :=
 match P.underlying T with
 | some .bool=>match u,v with
  | .bool a,.bool b=>rL op (a == b) K
  | _,_=>False
 | some (.pointer _)=>match u,v with
  | .pointer a,.pointer none=>rL op a.isNone K
  | _,_=>False
 | some (.slice _)=>match u,v with
  | .slice a _ _,.slice none _ _=>rL op a.isNone K
  | _,_=>False
 | some (.map _ _)=>match u,v with
  | .map a,.map none=>rL op a.isNone K
  | _,_=>False
 | some (.interface _)=>match wL y with
  | true=>(match v with
   | .nilIface=>isI u=true/\rL op (jV u) K
   | _=>False)
  | false=>False
 | some (.func _ _ _)=>match v with
  | .nilFunc=>aSj u λr=>rL op r K
  | _=>False
 | some (.struct fs)=>(match u,v with
  | .agg a,.agg b=>(match P.stoodInHeld T || P.eqGuardType P.depth T with
   | false=>aVg P fs.toList a.toList b.toList λr=>rL op r K
   | true=>False)
  | _,_=>False)
 | _=>False
def aEy(P:Program)(op:BinOp)(T:TypeId)(y:Operand)(u v:Value)(K:Value->Prop):Prop :=
 match u,v with
 | .int k a,.int k' b =>
  match op with
  | .shl=>0<=b/\K (.int k (k.wrap (a*2^(min b.toNat k.bits))))
  | .shr=>0<=b/\K (.int k (a.fdiv (2^(min b.toNat k.bits))))
  | _=>if k=k' then aIi op k a b K else False
 | .string a,.string b=>aNr op a b K
 | u,v=>pG P op T y u v K
def aIz(P:Program)(op:BinOp)(T:TypeId)(y:Operand)(u v:Value)(K:Value->Prop):Prop :=
 match P.underlying T with
 | some (.interface _)=>pG P op T y u v K
 | some (.func _ _ _)=>pG P op T y u v K
 | _=>aEy P op T y u v K
def aL0(op:UnOp)(x:Value)(K:Value->Prop):Prop :=
 match op,x with
 | .neg,.int k n=>K (.int k (k.wrap (0-n)))
 | .xor,.int k n=>K (.int k (cL .xor k (if k.signed then -1 else k.max) n))
 | .not,.bool b=>K (.bool (!b))
 | _,_=>False
def aEr(P:Program)(src dst:TypeId)(x:Value)(K:Value->Prop):Prop :=
 match P.underlying src with
 | none=>False
 | some _ =>
  match P.underlying dst,x with
  | some (.int k),.int _ n=>K (.int k (k.wrap n))
  | some .string,.string s=>K (.string s)
  | _,_=>False
def lC(P:Program)(t:TypeId):Nat:=((P.info? t).map (·.size)).getD 0
def oZ(P:Program)(T:TypeId)(x:Value)(f:Nat)(K:Value->Prop):Prop :=
 match P.underlying T with
 | some (.struct fs) =>
  match fs.toList[f]? with
  | some fd=>if lC P fd.type=0 then False else
   match x with
   | .pointer p=>nn p λa=>K (.pointer (some (a.add fd.offset)))
   | _=>False
  | none=>False
 | _=>False
def zT(P:Program)(T:TypeId)(x:Value)(f:Nat)(K:Value->Prop):Prop :=
 match P.underlying T with
 | some (.struct fs) =>
  match fs.toList[f]? with
  | some fd =>
   match x with
   | .agg cs =>
    if iU P fd.type then
         match P.info? fd.type with
         | some i=>K (.agg ((cs.toList.drop fd.offset).take i.size).toArray)
         | none=>False
    else match P.underlying fd.type with
         | none=>False
         | some _=>match cs.toList[fd.offset]? with
          | some v=>K v
          | none=>False
   | _=>False
  | none=>False
 | _=>False
def oY(P:Program)(T:TypeId)(x i:Value)(K:Value->Prop):Prop :=
 match i with
 | .int _ n =>
  match P.underlying T with
  | some (.slice e) =>
   match x with
   | .slice p len _=>match P.info? e with
    | some inf=>0<=n/\n<(len:Int)/\nn p λa=>K (.pointer (some (a.add (n.toNat*inf.size))))
    | none=>False
   | _=>False
  | some (.array len e) =>
   match x with
   | .pointer p=>match P.info? e with
    | some inf=>0<=n/\n<(len:Int)/\nn p λa=>K (.pointer (some (a.add (n.toNat*inf.size))))
    | none=>False
   | _=>False
  | _=>False
 | _=>False
def zP(P:Program)(T:TypeId)(x i:Value)(K:Value->Prop):Prop :=
 match i with
 | .int _ n =>
  match P.underlying T with
  | some .string =>
   match x with
   | .string s=>0<=n/\n<(s.size:Int)/\K (.int .u8 (cH s n.toNat))
   | _=>False
  | some (.array len e) =>
   match x with
   | .agg cs=>(match iU P e || !(Nat.beq (lC P e) 1) || (P.underlying e).isNone with
    | false=>0<=n/\n<(len:Int)/\exC (aPb P e) λv=>cs.toList[n.toNat]?=some v/\K v
    | true=>False)
   | _=>False
  | _=>False
 | _=>False
def kA(len cap:Nat)(low high max:Option Value)(K:Nat->Nat->Nat->Prop):Prop :=
 match low,high,max with
 | none,none,none=>K 0 len cap
 | some (.int _ l),none,none=>0<=l/\l<=(len:Int)/\K l.toNat len cap
 | none,some (.int _ h),none=>0<=h/\h<=(cap:Int)/\K 0 h.toNat cap
 | some (.int _ l),some (.int _ h),none=>0<=h/\h<=(cap:Int)/\0<=l/\l<=h/\K l.toNat h.toNat cap
 | none,some (.int _ h),some (.int _ m)=>0<=m/\m<=(cap:Int)/\0<=h/\h<=m/\K 0 h.toNat m.toNat
 | some (.int _ l),some (.int _ h),some (.int _ m)=>0<=m/\m<=(cap:Int)/\0<=h/\h<=m/\0<=l/\l<=h/\K l.toNat h.toNat m.toNat
 | _,_,_=>False
def aV4(o:Option Value):Bool:=match o with|none=>true|some _=>false
def yU(P:Program)(T:TypeId)(x:Value)(low high max:Option Value)(K:Value->Prop):Prop :=
 match P.underlying T with
 | some .string =>
  match x with
  | .string s=>if aV4 max then kA s.size s.size low high none λl h _=>K (.string (s.extract l h))else False
  | _=>False
 | some (.slice e) =>
  match x with
  | .slice a len cap=>match P.info? e with
   | some inf=>(match low with
    | none=>kA len cap none high max λ_ h m=>K (.slice a h m)
    | some lo=>kA len cap (some lo) high max λl h m=>K (.slice (gI a l m inf.size) (h-l) (m-l)))
   | none=>False
  | _=>False
 | some (.array n e) =>
  match x with
  | .pointer p=>nn p λa=>(match P.info? e with
   | some inf=>(match low with
    | none=>kA n n none high max λ_ h m=>K (.slice (some a) h m)
    | some lo=>kA n n (some lo) high max λl h m=>K (.slice (gI (some a) l m inf.size) (h-l) (m-l)))
   | none=>False)
  | _=>False
 | _=>False
def fX(cs:List Value)(off:Nat)(vs:List Value):List Value:=cs.take off++vs++cs.drop (off+vs.length)
def aT5(n:Nat)(cs:Array Value)(K:List Value->Prop):Prop:=if cs.toList.length=n then K cs.toList else False
def aT4(n:Nat)(v:Value)(K:List Value->Prop):Prop :=
 match v with
 | .agg cs=>aT5 n cs K
 | _=>False
def aAb(P:Program)(t:TypeId)(v:Value)(K:List Value->Prop):Prop :=
 if iU P t then aT4 (lC P t) v K
 else if lC P t=1 then
  (match P.underlying t with
  | some _=>aS (nK v) (K [v]) False
  | none=>False)
 else False
def aQv(P:Program)(t:TypeId):Option Value:=(P.info? t).bind (·.zero)
def aOi(P:Program)(fs:List Field)(cs:List Value):List (Nat × Value)->(List Value->Prop)->Prop
 | [],K=>K cs
 | (i,v)::rest,K =>
  match fs[i]? with
  | some fd=>aAb P fd.type v λvs=>if fd.offset+vs.length<=cs.length then aOi P fs (fX cs fd.offset vs) rest K else False
  | none=>False
def aKy(P:Program)(e:TypeId)(size:Nat)(cs:List Value):List (Nat × Value)->(List Value->Prop)->Prop
 | [],K=>K cs
 | (i,v)::rest,K=>aAb P e v λvs=>if i*size+vs.length<=cs.length then aKy P e size (fX cs (i*size) vs) rest K else False
def aAe(P:Program)(T:TypeId)(parts:List (Nat × Value))(K:Value->Prop):Prop :=
 match P.underlying T with
 | some (.struct fs) =>
  match aQv P T with
  | some (.agg z)=>if fs.toList.all (λf=>(P.info? f.type).isSome)then aOi P fs.toList z.toList parts λcs=>K (.agg cs.toArray)else False
  | _=>False
 | some (.array _ e) =>
  match aQv P T,P.info? e with
  | some (.agg z),some inf=>aKy P e inf.size z.toList parts λcs=>K (.agg cs.toArray)
  | _,_=>False
 | _=>False
def aJw(n:Nat)(l:List Value):List Value :=
 match n with
 | 0=>[]
 | n+1=>l++aJw n l
def aIf(P:Program)(t:TypeId)(x:Value)(K:Value->Prop):Prop :=
 match P.underlying t with
 | some .string=>match x with
  | .string s=>K (.int .i64 (s.size:Int))
  | _=>False
 | some (.slice _)=>match x with
  | .slice _ n _=>K (.int .i64 (n:Int))
  | _=>False
 | _=>False
abbrev Env:=List (Nat × Value)
def Env.get:Env->Nat->Option Value
 | [],_=>none
 | (j,v)::r,i=>match Nat.beq j i with
  | true=>some v
  | false=>Env.get r i
def tR(env:Env):Operand->Option Value
 | .tmp t=>Env.get env t
 | .const v=>some v
 | .global g=>some (.pointer (some ⟨g,0,none⟩))
 | .func f=>some (.func (.func f) #[] #[])
def fW(env:Env)(x:Operand):Value :=
 match tR env x with
 | some v=>v
 | none=>undef
def aJ7:Op->List Operand
 | .alloc _|.ready _|.waits _=>[]
 | .move x|.assign x|.box _ x|.load _ x|.nilCheck x|.unOp _ _ x|.convert _ _ x|.sliceToArrayPointer _ x|.makeInterface _ x
 | .makeChan _ x|.fieldAddr _ x _|.field _ x _|.range _ x|.next x _|.entry x|.typeAssert x _ _ _|.extract x _|.panic x|.recv _ x _=>[x]
 | .pick c a b=>[c,a,b]
 | .build _ ps|.buildSlice _ _ ps=>ps.toList.map (·.2)
 | .store _ a v|.binOp _ _ a v _|.makeSlice _ a v|.indexAddr _ a v|.index _ a v|.lookup _ a v _|.mapEntry _ a v|.send a v=>[a,v]
 | .makeFunc _ first captured=>first.toList++captured.toList
 | .makeMap _ r=>match r with|none=>[] | some x=>[x]
 | .slice _ x l h m=>x::((match l with|none=>[] | some y=>[y])++((match h with|none=>[] | some y=>[y])++(match m with|none=>[] | some y=>[y])))
 | .mapUpdate _ m k v|.entryStore _ m k v|.insert _ m k v=>[m,k,v]
 | .call c|.go c|.defer c=>(match c.callee with|.value f=>[f] | .invoke r _=>[r] | .builtin _=>[])++c.args.toList
 | .select _ _=>[]
def kU(env:Env):List Operand->Bool
 | []=>true
 | x::l=>match tR env x with
  | some _=>kU env l
  | none=>false
def iP(env:Env):List Operand->List Value
 | []=>[]
 | x::l=>fW env x::iP env l
def wD(env:Env):List (Nat × Operand)->List (Nat × Value)
 | []=>[]
 | (i,x)::l=>(i,fW env x)::wD env l
def aXq:Builtin->Nat
 | .len=>0
 | .max|.min=>0
 | _=>2
def aSm:Operand->Bool
 | .const _=>true
 | _=>false
def fR(P:Program):Op->Nat
 | .binOp _ t _ y _=>match P.underlying t with
  | some (.interface _)=>(match wL y with
   | true=>0
   | false=>1)
  | some (.pointer _)=>(match aSm y with
   | true=>0
   | false=>1)
  | _=>0
 | .move _|.assign _|.pick _ _ _|.build _ _|.nilCheck _|.unOp _ _ _|.makeInterface _ _|.makeFunc _ _ _
 | .slice _ _ _ _ _|.fieldAddr _ _ _|.field _ _ _|.indexAddr _ _ _|.index _ _ _|.extract _ _=>0
 | .convert s d _=>(match P.underlying s with
  | some .string=>(match P.underlying d with
   | some (.slice _)=>2
   | _=>1)
  | _=>1)
 | .load _ _|.lookup _ _ _ _|.entry _|.typeAssert _ _ _ _=>1
 | .call c=>match c.callee with
  | .builtin .len=>(match c.argTypes.toList with
   | [t]=>(match P.underlying t with
    | some (.map _ _)=>1
    | _=>0)
   | _=>0)
  | .builtin .unsafeSliceData=>1
  | .builtin b=>aXq b
  | _=>2
 | _=>2
def rD(mx:Bool)(u v:Value)(K:Value->Prop):Prop :=
 match u,v with
 | .int k x,.int _ y=>match mx with
  | true=>K (.int k (max x y))
  | false=>K (.int k (min x y))
 | _,_=>False
def cF(n:Int)(K:Int->Prop):Prop:=K n
def nameV(v:Value)(K:Value->Prop):Prop :=
 match v with
 | .int k n=>cF n λn=>K (.int k n)
 | v=>K v
def aOr(v:Value)(K:Bool->Prop):Prop:=match v with|.bool b=>K b|_=>False
def aT3(k:IntKind)(v:Value)(K:Int->Prop):Prop:=match v with|.int k' n=>(match decide (k'=k)with|true=>K n|false=>False)|_=>False
def aT0(v:Value)(K:ByteArray->Prop):Prop:=match v with|.string s=>K s|_=>False
def aT1(v:Value)(K:Option Addr->Prop):Prop:=match v with|.pointer p=>K p|_=>False
def aLq(v:Value)(K:Option Addr->Nat->Nat->Prop):Prop:=match v with|.slice p n c=>K p n c|_=>False
def aT2(v:Value)(K:Option Nat->Prop):Prop:=match v with|.map r=>K r|_=>False
def asV(s:Sh)(v:Value)(K:Value->Prop):Prop :=
 match s with
 | .bool=>aOr v λb=>K (.bool b)
 | .int k=>aT3 k v λn=>K (.int k n)
 | .str=>aT0 v λx=>K (.string x)
 | .ptr=>aT1 v λp=>K (.pointer p)
 | .slice=>aLq v λp n c=>K (.slice p n c)
 | .map=>aT2 v λr=>K (.map r)
 | .raw=>K v
def asT(P:Program)(t:TypeId)(v:Value)(K:Value->Prop):Prop :=
 match iU P t with
 | true=>K v
 | false=>match P.underlying t with
  | some (.tuple _)=>K v
  | _=>asV (aPb P t) v K
def aCv(P:Program)(env:Env)(op:Op)(ty:TypeId)(K:Value->Prop):Prop :=
 match op with
 | .move x=>K (fW env x)
 | .assign x=>(match x with
  | .tmp _=>(match P.underlying ty with
   | some (.int _)=>nameV (fW env x) K
   | _=>K (fW env x))
  | _=>K (fW env x))
 | .pick c a b=>match fW env c with
  | .bool t=>aS t (K (fW env a)) (K (fW env b))
  | _=>False
 | .build t ps=>aAe P t (wD env ps.toList) K
 | .nilCheck x=>match fW env x with
  | .pointer p=>nn p λa=>K (.pointer (some a))
  | _=>False
 | .binOp op t x y _=>aIz P op t y (fW env x) (fW env y) K
 | .unOp op _ x=>aL0 op (fW env x) K
 | .makeInterface t x=>match P.underlying t with
  | some (.interface _)=>False
  | some _=>K (.iface t (fW env x))
  | none=>False
 | .makeFunc fn a b=>K (.func fn (iP env a.toList).toArray (iP env b.toList).toArray)
 | .slice t x l h m=>yU P t (fW env x) (l.map (fW env)) (h.map (fW env)) (m.map (fW env)) K
 | .fieldAddr t x f=>oZ P t (fW env x) f K
 | .field t x f=>zT P t (fW env x) f K
 | .indexAddr t x i=>oY P t (fW env x) (fW env i) K
 | .index t x i=>zP P t (fW env x) (fW env i) K
 | .extract x i=>match fW env x with
  | .tuple vs=>match vs.toList[i]? with
   | some v=>asT P ty v K
   | none=>False
  | _=>False
 | .call c=>match c.callee with
  | .builtin .len=>match c.args.toList,c.argTypes.toList with
   | [x],[t]=>aIf P t (fW env x) K
   | _,_=>False
  | .builtin .max=>match c.args.toList with
   | [x,y]=>rD true (fW env x) (fW env y) K
   | _=>False
  | .builtin .min=>match c.args.toList with
   | [x,y]=>rD false (fW env x) (fW env y) K
   | _=>False
  | _=>False
 | _=>False
def aBy(w:World)(a:Addr):List Sh->Nat->(List Value->Prop)->Prop
 | [],_,K=>K []
 | s::l,i,K=>exC s λv=>w.cell? (a.add i)=some v/\aBy w a l (i+1) λvs=>K (v::vs)
def ld(w:World)(a:Addr)(s:Sh)(K:Value->Prop):Prop:=exC s λv=>w.cell? a=some v/\K v
def aJt(P:Program)(s:RSh)(x:Sem Value)(w:World)(K:Value->Prop):Prop:=exR s λv=>x.run P w=.ok v w/\K v
def aA4(P:Program)(s:RSh)(x:Sem Value)(w:World)(K:Value->World->Prop):Prop:=exR s λv=>∃w',x.run P w=.ok v w'/\K v w'
def aXm(P:Program)(s:List VSh)(x:Sem Value)(w:World)(K:Value->World->Prop):Prop :=
 (∃w',x.run P w=.ok (.tuple #[.bool false]) w'/\K (.tuple #[.bool false]) w') \/
 aVc s λvs=>∃w',x.run P w=.ok (.tuple (.bool true::vs).toArray) w'/\K (.tuple (.bool true::vs).toArray) w'
def aUq(P:Program)(x:Sem Unit)(w:World)(K:World->Prop):Prop:=∃w',x.run P w=.ok () w'/\K w'
def yT(P:Program)(env:Env)(o:Oper)(w:World)(K:Value->Prop):Prop :=
 match o.op with
 | .load t x=>match fW env x with
  | .pointer p=>nn p λa =>
   if iU P t then(match(rJ P 12 t).length == lC P t && (P.info? t).isSome with
    | true=>aBy w a (rJ P 12 t) 0 λvs=>K (.agg vs.toArray)
    | false=>False)
   else match P.underlying t with
    | some _=>ld w a (aPb P t) K
    | none=>False
  | _=>False
 | .lookup t x i ok=>(match P.underlying t with
  | some (.map _ e)=>aJt P (match ok with|true=>.tup [aF1 P e,.cell .bool] | false=>.one (aF1 P e)) (Instr.lookup t (fW env x) (fW env i) ok) w K
  | _=>False)
 | .convert s d x=>match fW env x with
  | .slice _ _ _=>aJt P (aGe P o.type) (convert s d (fW env x)) w K
  | .pointer _=>aJt P (.one (.cell .ptr)) (convert s d (fW env x)) w K
  | x=>aEr P s d x K
 | .binOp op t x y _=>aOa P op t (fW env x) (fW env y) w λb=>K (.bool b)
 | .entry it=>aJt P (.tup [.cell .raw,.cell .raw]) (Instr.entry (fW env it)) w K
 | .typeAssert x t a ok=>aJt P (match ok with|true=>.tup [aF1 P a,.cell .bool] | false=>.one (aF1 P a)) (Instr.typeAssert (fW env x) t a ok) w K
 | .call c=>match c.callee with
  | .builtin .len=>aJt P (.one (.cell (.int .i64))) (Builtin.len_ c.argTypes o.type (iP env c.args.toList).toArray) w K
  | .builtin .unsafeSliceData=>aJt P (.one (.cell .ptr)) (Builtin.unsafeSliceData_ c.argTypes o.type (iP env c.args.toList).toArray) w K
  | _=>False
 | _=>False
def st(w:World)(a:Addr)(v:Value)(K:World->Prop):Prop:=(w.cell? a).isSome=true/\w.frozen? a=false/\K (w.setCell a v)
def aHr(w:World)(a:Addr):List Value->Nat->(World->Prop)->Prop
 | [],_,K=>K w
 | [v],i,K=>aS (nK v) (st w (a.add i) v K) False
 | v::l,i,K=>aS (nK v) (st w (a.add i) v λw=>aHr w a l (i+1) K) False
def bP(w:World)(cs:List Value)(t:TypeId)(K:Addr->World->Prop):Prop:=K ⟨w.heap.size,0,none⟩ (w.alloc (.cells cs.toArray t))
def bK(P:Program)(f:FuncId)(args:List Value)(w:World)(K:Value->World->Prop):Prop :=
 Calls P f args.toArray w λe w'=>∃v,e=.returned v/\K v w'
abbrev Pk:=Option (List PanicEntry->World->Prop)
def dL(P:Program)(f:FuncId)(args:List Value)(w:World)(K:Value->World->Prop)(KP:List PanicEntry->World->Prop):Prop :=
 Calls P f args.toArray w λe w'=>(∃v,e=.returned v/\K v w')\/∃c,e=.panicked c/\KP c w'
def aOn(P:Program)(pk:Pk)(f:FuncId)(args:List Value)(w:World)(K:Value->World->Prop):Prop :=
 match pk with
 | none=>bK P f args w K
 | some KP=>dL P f args w K KP
def aV7(P:Program)(pk:Pk)(s:RSh)(f:FuncId)(args:List Value)(w:World)(K:Value->World->Prop):Prop :=
 aOn P pk f args w λv w'=>exR s λu=>v=u/\K u w'
def sH(P:Program)(l:Nat)(args:List Value)(w:World)(K:Value->World->Prop):Prop :=
 ∃fn tmps assign body,(Instr.yield l args.toArray).run P w=.ok (.round l fn tmps assign body) w /\
  RoundIn Fence.wide 0 P l fn tmps assign body w λe w'=>∃v,e=.returned v/\K v w'
def tE(P:Program)(f:FuncId):Bool :=
 match P.funcs[f]? with
 | some fn=>fn.body.isSome && !(fn.name == "runtime.NumGoroutine")
 | none=>false
def aWx(P:Program)(f:FuncId)(args:List Value)(w:World)(K:Value->World->Prop):Prop:=∃v w',(callFunc f args.toArray).run P w=.ok (.value v) w'/\K v w'
def aXs(P:Program)(f:FuncId):Bool :=
 match P.funcs[f]? with
 | some fn=>fn.body.isNone
 | none=>false
def jM(P:Program)(pk:Pk)(fv:Value)(args:List Value)(w:World)(K:Value->World->Prop):Prop :=
 match fv with
 | .func (.func f) first cap=>tE P f=true/\aOn P pk f (first.toList++args++cap.toList) w K
 | .func (.yield l) first _=>sH P l (first.toList++args) w K
 | _=>False
def aTq(P:Program)(pk:Pk)(s:RSh)(fv:Value)(args:List Value)(w:World)(K:Value->World->Prop):Prop :=
 jM P pk fv args w λv w'=>exR s λu=>v=u/\K u w'
def aXx(P:Program)(pk:Pk)(r:Value)(name:String)(args:List Value)(w:World)(K:Value->World->Prop):Prop :=
 ∃t v f x,r=.iface t v/\(method (P.types.size+Made.depth) t v name).run P w=.ok (f,x) w/\((tE P f=true/\aOn P pk f (x::args) w K)\/aWx P f (x::args) w K)
def aW4(P:Program)(pk:Pk)(s:RSh)(r:Value)(name:String)(args:List Value)(w:World)(K:Value->World->Prop):Prop :=
 aXx P pk r name args w λv w'=>exR s λu=>v=u/\K u w'
def aGi(pk:Pk)(x:Value)(w:World):Prop :=
 match pk,x with
 | some KP,.iface t v=>KP [{ v:=.iface t v,recovered:=false }] w
 | _,_=>False
structure St where
 env:Env
 ds:List Deferred
def aB1(P:Program)(pk:Pk)(env:Env)(o:Oper)(ds:List Deferred)(w:World)(K:Value->List Deferred->World->Prop):Prop :=
 match o.op with
 | .alloc t=>match aQv P t with
  | some v=>bP w v.cells.toList t λa w=>K (.pointer (some a)) ds w
  | none=>False
 | .box t x=>aAb P t (fW env x) λvs=>bP w vs t λa w=>K (.pointer (some a)) ds w
 | .buildSlice t n ps=>match P.underlying t with
  | some (.slice e)=>match P.info? e with
   | some inf=>match Nat.beq (n*inf.size) 0 with
    | true=>match ps.toList with
     | []=>bP w [] e λa w=>K (.slice (some a) n n) ds w
     | _::_=>False
    | false=>match inf.zero with
     | some z=>if n*inf.size<=16777216/\(n*inf.size≠0)/\z.cells.toList.length=inf.size then
      aKy P e inf.size (aJw n z.cells.toList) (wD env ps.toList) λcs=>bP w cs e λa w=>K (.slice (some a) n n) ds w
          else False
     | none=>False
   | none=>False
  | _=>False
 | .store t x y=>match fW env x with
  | .pointer p=>nn p λa=>aAb P t (fW env y) λvs=>aHr w a vs 0 λw=>K undef ds w
  | _=>False
 | .makeMap t r=>match r with
  | none=>aA4 P (.one (.cell .map)) (Instr.makeMap t none) w λv w=>K v ds w
  | some x=>aA4 P (.one (.cell .map)) (Instr.makeMap t (some (fW env x))) w λv w=>K v ds w
 | .makeSlice t l c=>aA4 P (.one (.cell .slice)) (Instr.makeSlice t (fW env l) (fW env c)) w λv w=>K v ds w
 | .convert s d x=>aA4 P (.one (.cell .slice)) (convert s d (fW env x)) w λv w=>K v ds w
 | .mapUpdate t m k x=>aUq P (Instr.mapUpdate t (fW env m) (fW env k) (fW env x)) w λw=>K undef ds w
 | .insert t m k x=>aUq P (Instr.mapUpdate t (fW env m) (fW env k) (fW env x)) w λw=>K undef ds w
 | .mapEntry t m k=>aA4 P (aGe P o.type) (Instr.mapEntry t (fW env m) (fW env k)) w λv w=>K v ds w
 | .entryStore t m s x=>aUq P (Instr.entryStore t (fW env m) (fW env s) (fW env x)) w λw=>K undef ds w
 | .range t x=>aA4 P (.one (.cell .ptr)) (Instr.range t (fW env x)) w λv w=>K v ds w
 | .next it isStr=>aXm P (match isStr with|true=>[.cell (.int .i64),.cell (.int .i32)] | false=>[.cell .raw,.cell .raw]) (Instr.next (fW env it) isStr o.type) w λv w=>K v ds w
 | .call c=>match c.callee with
  | .value (.func f)=>if tE P f then aV7 P pk (aGe P o.type) f (iP env c.args.toList) w λv w=>K v ds w else if aXs P f then aWx P f (iP env c.args.toList) w (λv w'=>exR (aGe P o.type) λu=>v=u/\K u ds w')else False
  | .value x=>aTq P pk (aGe P o.type) (fW env x) (iP env c.args.toList) w λv w=>K v ds w
  | .invoke r name=>aW4 P pk (aGe P o.type) (fW env r) name (iP env c.args.toList) w λv w=>K v ds w
  | .builtin .append=>aA4 P (.one (.cell .slice)) (Builtin.append_ c.argTypes o.type (iP env c.args.toList).toArray) w λv w=>K v ds w
  | .builtin .copy=>aA4 P (.one (.cell (.int .i64))) (Builtin.copy_ c.argTypes o.type (iP env c.args.toList).toArray) w λv w=>K v ds w
  | .builtin .delete=>aA4 P (.tup []) (Builtin.delete_ c.argTypes o.type (iP env c.args.toList).toArray) w λv w=>K v ds w
  | .builtin .clear=>aA4 P (.tup []) (Builtin.clear_ c.argTypes o.type (iP env c.args.toList).toArray) w λv w=>K v ds w
  | .builtin .unsafeString=>aA4 P (.one (.cell .str)) (Builtin.unsafeString_ c.argTypes o.type (iP env c.args.toList).toArray) w λv w=>K v ds w
  | _=>False
 | .defer c=>match c.callee with
  | .value (.func f)=>K undef ({ target:=.fn (.func f) #[],args:=(iP env c.args.toList).toArray }::ds) w
  | .value x=>match fW env x with
   | .func fn first cap=>K undef ({ target:=.fn fn cap,args:=(first.toList++iP env c.args.toList).toArray }::ds) w
   | _=>False
  | _=>False
 | .panic x=>aGi pk (fW env x) w
 | _=>False
def oU(P:Program)(pk:Pk)(st:St)(o:Oper)(w:World)(K:Value->List Deferred->World->Prop):Prop :=
 match fR P o.op with
 | 0=>aCv P st.env o.op o.type λv=>K v st.ds w
 | 1=>yT P st.env o w λv=>K v st.ds w
 | _=>aB1 P pk st.env o st.ds w K
def aFa(st:St)(d:Option Tmp)(v:Value):St :=
 match d with
 | none=>st
 | some i=>{ st with env:=(i,v)::st.env }
def aG8(n:Nat)(d:Option Tmp):Bool :=
 match d with
 | none=>true
 | some i=>Nat.blt i n
def aIl(want b:Bool):Bool :=
 match want with
 | true=>b
 | false=>!b
abbrev nB:=List (Nat × (World->Prop))
def aNm:nB->World->Prop->Prop
 | [],_,R=>R
 | p::l,w,R=>p.2 w/\aNm l w R
def bit(m i:Nat):Bool:=Nat.beq (Nat.land (Nat.shiftRight m i) 1) 1
def tN(bef:Nat):nB->nB
 | []=>[]
 | p::l=>match bit bef p.1 with
  | true=>tN bef l
  | false=>p::tN bef l
def aX3(dr:Bool)(i:Nat)(X:World->Prop)(pd:nB):nB :=
 match dr with
 | true=>(i,X)::pd
 | false=>pd
def aPe(P:Program)(pk:Pk)(dr:Bool)(befs:List Nat)(i:Nat)(o:Oper)(pd:nB)(st:St)(w:World)(rec:nB->St->World->Prop):Prop :=
 match fR P o.op with
 | 0=>oU P pk st o w λv ds w=>rec pd (aFa { st with ds:=ds } o.dst v) w
 | 1=>oU P pk st o w λv ds w=>rec (aX3 dr i (λw'=>oU P pk st o w' λu _ _=>u=v) pd) (aFa { st with ds:=ds } o.dst v) w
 | _=>oU P pk st o w λv ds w=>aNm (tN (befs.getD i 0) pd) w (rec (tN (befs.getD i 0) pd) (aFa { st with ds:=ds } o.dst v) w)
def aA5(P:Program)(pk:Pk)(n:Nat)(ops:List Oper)(dr:Bool)(befs:List Nat):List Nat->nB->St->World->(St->World->Prop)->Prop
 | [],_,st,w,K=>K st w
 | i::is,pd,st,w,K =>
  match ops[i]? with
  | none=>False
  | some o =>
   match aG8 n o.dst with
   | false=>False
   | true =>
    match o.guard with
    | none=>match kU st.env (aJ7 o.op)with
         | true=>aPe P pk dr befs i o pd st w λpd st w=>aA5 P pk n ops dr befs is pd st w K
         | false=>False
    | some (j,want) =>
         match ops[j]? with
         | none=>False
         | some oj=>match oj.dst with
          | none=>False
          | some t=>match Env.get st.env t with
           | some (.bool b) =>
            aS (aIl want b)
             (match kU ((t,.bool want)::st.env) (aJ7 o.op)with
             | true=>aPe P pk dr befs i o pd { st with env:=(t,.bool want)::st.env } w λpd st w=>aA5 P pk n ops dr befs is pd st w K
             | false=>False)
             (aA5 P pk n ops dr befs is pd (aFa { st with env:=(t,.bool (!want))::st.env } o.dst undef) w K)
           | some (.tuple _)=>aA5 P pk n ops dr befs is pd (aFa st o.dst undef) w K
           | _=>False
def aRb(P:Program)(pk:Pk)(n:Nat)(ops:List Oper)(dr:Bool)(befs:List Nat)(i:Nat)(rec:nB->St->World->Prop)(pd:nB)(st:St)(w:World):Prop :=
 match ops[i]? with
 | none=>False
 | some o =>
  match aG8 n o.dst with
  | false=>False
  | true =>
   match o.guard with
   | none=>match kU st.env (aJ7 o.op)with
    | true=>aPe P pk dr befs i o pd st w rec
    | false=>False
   | some (j,want) =>
    match ops[j]? with
    | none=>False
    | some oj=>match oj.dst with
     | none=>False
     | some t=>match Env.get st.env t with
      | some (.bool b) =>
           aS (aIl want b)
            (match kU ((t,.bool want)::st.env) (aJ7 o.op)with
            | true=>aPe P pk dr befs i o pd { st with env:=(t,.bool want)::st.env } w rec
            | false=>False)
            (rec pd (aFa { st with env:=(t,.bool (!want))::st.env } o.dst undef) w)
      | some (.tuple _)=>rec pd (aFa st o.dst undef) w
      | _=>False
inductive OT where
 | nil
 | op (i:Nat) (t:OT)
 | alt (a b:OT)
def aL8(P:Program)(pk:Pk)(n:Nat)(ops:List Oper)(befs:List Nat)(K:St->World->Prop):OT->nB->St->World->Prop
 | .nil,_,st,w=>K st w
 | .op i t,pd,st,w=>aRb P pk n ops true befs i (aL8 P pk n ops befs K t) pd st w
 | .alt a b,pd,st,w=>aL8 P pk n ops befs K a pd st w/\aL8 P pk n ops befs K b pd st w
def OT.len:OT->Nat
 | .nil=>0
 | .op _ t=>t.len+1
 | .alt a b=>Nat.max a.len b.len
def OT.heads:OT->List Nat
 | .nil=>[]
 | .op i _=>[i]
 | .alt a b=>a.heads++b.heads
def yC:List Edge->Nat
 | []=>0
 | e::l=>match Region.binds .any e with
  | true=>Nat.lor (Nat.shiftLeft 1 e.on) (yC l)
  | false=>yC l
def aQo(acc:List Nat):List Edge->Nat
 | []=>0
 | e::l=>match Region.binds .any e with
  | true=>Nat.lor (Nat.shiftLeft 1 e.on) (Nat.lor (acc.getD e.on 0) (aQo acc l))
  | false=>aQo acc l
def vJ:List Oper->List Nat->List Nat
 | [],acc=>acc
 | o::l,acc=>vJ l (acc++[aQo acc o.after.toList])
def sub(a b:Nat):Bool:=Nat.beq (Nat.land a b) a
def yM(n:Nat)(f:Nat->Bool):Bool :=
 match n with
 | 0=>true
 | n+1=>match f n with
  | true=>yM n f
  | false=>false
def tL(P:Program)(ops:List Oper)(i:Nat):Nat :=
 match ops[i]? with
 | some o=>fR P o.op
 | none=>0
def aK5(deps:List Nat)(i:Nat):Nat:=deps.getD i 0
def qP(deps:List Nat)(L i:Nat):Bool:=match bit L i with
 | true=>false
 | false=>sub (aK5 deps i) L
def yK(ops:Array Oper)(deps:List Nat)(l:List Oper):Bool :=
 yM l.length λi=>yM l.length λj=>match Nat.beq i j with
  | true=>true
  | false=>match bit (aK5 deps j) i with
   | true=>true
   | false=>match bit (aK5 deps i) j with
    | true=>true
    | false=>match l[i]?,l[j]? with
     | some x,some y=>x.apart ops y
     | _,_=>false
def aNt(P:Program)(ops:List Oper)(deps:List Nat)(L i:Nat):Bool :=
 match Nat.blt i ops.length with
 | false=>false
 | true=>match qP deps L i with
  | false=>false
  | true=>match tL P ops i with
   | 0=>true
   | 1=>true
   | _=>yM ops.length λj=>match Nat.beq i j with
    | true=>true
    | false=>!(qP deps L j)
def aHz(P:Program)(ops:List Oper)(deps:List Nat):List Nat->Nat->Bool
 | [],L=>yM ops.length λj=>!(qP deps L j)
 | i::is,L=>match aNt P ops deps L i with
  | true=>aHz P ops deps is (Nat.lor L (Nat.shiftLeft 1 i))
  | false=>false
def aSl(j:Nat):List Nat->Bool
 | []=>false
 | i::l=>match Nat.beq j i with
  | true=>true
  | false=>aSl j l
def hC(P:Program)(ops:List Oper)(deps:List Nat):Bool->OT->Nat->Bool
 | false,.nil,L=>yM ops.length λj=>!(qP deps L j)
 | true,.nil,_=>false
 | false,.op i t,L=>match aNt P ops deps L i with
  | true=>hC P ops deps false t (Nat.lor L (Nat.shiftLeft 1 i))
  | false=>false
 | true,.op i t,L=>match Nat.blt i ops.length with
  | true=>(match qP deps L i with
   | true=>(match Nat.blt 1 (tL P ops i)with
    | true=>hC P ops deps false t (Nat.lor L (Nat.shiftLeft 1 i))
    | false=>false)
   | false=>false)
  | false=>false
 | false,.alt a b,L=>match yM ops.length λj=>(match qP deps L j with
  | true=>aSl j (a.heads++b.heads)
  | false=>true)with
  | true=>(match hC P ops deps true a L with
   | true=>hC P ops deps true b L
   | false=>false)
  | false=>false
 | true,.alt a b,L=>match hC P ops deps true a L with
  | true=>hC P ops deps true b L
  | false=>false
def rU:List Oper->List Nat
 | []=>[]
 | o::l=>yC o.after.toList::rU l
def aIt(P:Program)(ops:List Oper)(ord:List Nat):Bool :=
 match P.follows .mixedOrders with
 | false=>false
 | true=>match Region.noSelect ops.toArray with
  | false=>false
  | true=>match Nat.ble ord.length ops.length with
   | false=>false
   | true=>match yK ops.toArray (rU ops) ops with
    | false=>false
    | true=>match ops.all (λo=>o.after.toList.all λe=>!(Region.binds .any e) || Nat.blt e.on ops.length)with
     | false=>false
     | true=>aHz P ops (rU ops) ord 0
def aEo(P:Program)(ops:List Oper)(ord:OT):Bool :=
 match P.follows .mixedOrders with
 | false=>false
 | true=>match Region.noSelect ops.toArray with
  | false=>false
  | true=>match Nat.ble ord.len ops.length with
   | false=>false
   | true=>match yK ops.toArray (rU ops) ops with
    | false=>false
    | true=>match ops.all (λo=>o.after.toList.all λe=>!(Region.binds .any e) || Nat.blt e.on ops.length)with
     | false=>false
     | true=>hC P ops (rU ops) false ord 0
abbrev nZ:=Exit->St->World->Prop
def aCe(next:St->World->Prop)(Q:nZ):nZ
 | .normal,s,w=>next s w
 | e,s,w=>Q e s w
def aKq(id:Nat)(Q:nZ):nZ
 | .exit i,s,w=>match Nat.beq i id with
  | true=>Q .normal s w
  | false=>Q (.exit i) s w
 | e,s,w=>Q e s w
def aUx(Q:nZ):nZ
 | .goto _,_,_=>False
 | e,s,w=>Q e s w
def vI:List Oper->List Nat
 | []=>[]
 | o::l=>match o.dst with
  | some d=>d::vI l
  | none=>vI l
def eD:Code->List Nat
 | .region _ ops _=>vI ops.toList
 | .seq a b=>eD a++eD b
 | .cond _ a b=>eD a++eD b
 | .block _ a=>eD a
 | .loop a=>eD a
 | .scope a=>eD a
 | _=>[]
def dK:Code->Bool
 | .region _ ops _=>ops.toList.all λo=>match o.op with|.defer _=>false|_=>true
 | .seq a b=>dK a && dK b
 | .cond _ a b=>dK a && dK b
 | .block _ a=>dK a
 | .loop a=>dK a
 | .scope a=>dK a
 | .rangeFunc _ _ _ _=>false
 | _=>true
def aMr:Nat->List Nat->Bool
 | _,[]=>false
 | i,j::l=>match Nat.beq i j with
  | true=>true
  | false=>aMr i l
def kK(ws:List Nat):Env->Env
 | []=>[]
 | (i,v)::r=>match aMr i ws with
  | true=>kK ws r
  | false=>(i,v)::kK ws r
def JT:List Sh->Type
 | []=>World->Prop
 | .bool::l=>Bool->JT l
 | .int _::l=>Int->JT l
 | .str::l=>ByteArray->JT l
 | .ptr::l=>Option Addr->JT l
 | .slice::l=>Option Addr->Nat->Nat->JT l
 | .map::l=>Option Nat->JT l
 | .raw::l=>Value->JT l
def JT.app:(l:List Sh)->JT l->List Value->World->Prop
 | [],J,vs,w=>match vs with
  | []=>J w
  | _::_=>False
 | s::l,J,vs,w=>match vs with
  | []=>False
  | v::r=>match s,J with
   | .bool,J=>match v with
    | .bool b=>JT.app l (J b) r w
    | _=>False
   | .int k,J=>match v with
    | .int k' n=>if k=k' then JT.app l (J n) r w else False
    | _=>False
   | .str,J=>match v with
    | .string x=>JT.app l (J x) r w
    | _=>False
   | .ptr,J=>match v with
    | .pointer p=>JT.app l (J p) r w
    | _=>False
   | .slice,J=>match v with
    | .slice p n c=>JT.app l (J p n c) r w
    | _=>False
   | .map,J=>match v with
    | .map p=>JT.app l (J p) r w
    | _=>False
   | .raw,J=>JT.app l (J v) r w
def JT.all:(l:List Sh)->JT l->(List Value->World->Prop)->Prop
 | [],J,K=>∀w,J w->K [] w
 | s::l,J,K=>match s,J with
  | .bool,J=>∀b:Bool,JT.all l (J b) λvs w=>K (.bool b::vs) w
  | .int k,J=>∀n:Int,JT.all l (J n) λvs w=>K (.int k n::vs) w
  | .str,J=>∀x:ByteArray,JT.all l (J x) λvs w=>K (.string x::vs) w
  | .ptr,J=>∀p:Option Addr,JT.all l (J p) λvs w=>K (.pointer p::vs) w
  | .slice,J=>∀(p:Option Addr) (n c:Nat),JT.all l (J p n c) λvs w=>K (.slice p n c::vs) w
  | .map,J=>∀p:Option Nat,JT.all l (J p) λvs w=>K (.map p::vs) w
  | .raw,J=>∀v:Value,JT.all l (J v) λvs w=>K (v::vs) w
abbrev Vars:=List (Nat × VSh)
def Vars.shs:Vars->List Sh
 | []=>[]
 | (_,.cell s)::l=>s::Vars.shs l
 | (_,.agg ss)::l=>ss++Vars.shs l
def Vars.vals:Vars->Env->Option (List Value)
 | [],_=>some []
 | (i,.cell _)::l,env=>match Env.get env i with
  | some v=>match Vars.vals l env with
   | some r=>some (v::r)
   | none=>none
  | none=>none
 | (i,.agg ss)::l,env=>match Env.get env i with
  | some (.agg cs)=>match Nat.beq cs.toList.length ss.length with
   | true=>match Vars.vals l env with
    | some r=>some (cs.toList++r)
    | none=>none
   | false=>none
  | _=>none
def Vars.env:Vars->List Value->Env->Env
 | [],_,env=>env
 | (i,.cell _)::l,vs,env=>match vs with
  | v::r=>(i,v)::Vars.env l r env
  | []=>Vars.env l [] env
 | (i,.agg ss)::l,vs,env=>(i,.agg (vs.take ss.length).toArray)::Vars.env l (vs.drop ss.length) env
def Vars.holds(vs:Vars)(J:JT vs.shs)(st:St)(w:World):Prop :=
 match Vars.vals vs st.env with
 | some l=>JT.app vs.shs J l w
 | none=>False
inductive Ann where
 | leaf
 | draw (ord:List Nat)
 | draws (ord:OT)
 | meet (vs:Vars) (a:Ann)
 | two (a b:Ann)
 | loop (vs:Vars) (a:Ann)
 | over (shs:List VSh) (ret:Bool) (ex:List Nat) (x y:Ann)
def lY(w:World)(r:Nat):Option Obj:=w.heap[r]?
abbrev mE:=LoopState->Option Code->Obj
def recAt(w:World)(l:Nat)(rc:mE)(s:LoopState)(j:Option Code):Prop:=lY w l=some (rc s j)
def aWs(o:Option Obj):Prop:=∃r:Loop,o=some (.loop r)
def aMa(l:Nat)(rc:mE)(K:Value->World->Prop):nZ
 | .normal,_,w=>recAt w l rc .busy none/\K (.bool true) (w.putObj l (rc .ready none))
 | .ret,_,w=>recAt w l rc .busy none/\K (.bool false) (w.putObj l (rc .done (some .ret)))
 | .exit i,_,w=>recAt w l rc .busy none/\K (.bool false) (w.putObj l (rc .done (some (.exit i))))
 | _,_,_=>False
def aSe(l:Nat)(rc:mE)(Q:nZ)(s:St)(w:World):List Nat->Prop
 | []=>False
 | i::r=>(recAt w l rc .done (some (.exit i))/\Q (.exit i) s (w.putObj l (rc .exhausted (some (.exit i)))))\/aSe l rc Q s w r
def aYc(l:Nat)(rc:mE)(Q:nZ)(s:St)(w:World):Bool->Prop
 | true=>recAt w l rc .done (some .ret)/\Q .ret s (w.putObj l (rc .exhausted (some .ret)))
 | false=>False
def aN0(l:Nat)(rc:mE)(Q:nZ)(s:St)(w:World)(ret:Bool)(ex:List Nat):Prop :=
 (recAt w l rc .ready none/\Q .normal s (w.putObj l (rc .exhausted none)))\/aYc l rc Q s w ret\/aSe l rc Q s w ex
def aTr(P:Program)(fv:Value)(args:List Value)(w:World)(K:World->Prop):Prop :=
 match fv with
 | .func (.func f) first cap=>tE P f=true/\bK P f (first.toList++args++cap.toList) w λ_ w'=>K w'
 | _=>False
def isRec(rc:mE):Prop:=∀s j,∃r:Loop,rc s j=.loop r
def aRw(P:Program)(shs:List VSh)(fv:Value)(w:World)(body:Nat->mE->List Value->World->(Value->World->Prop)->Prop)(done:Nat->mE->World->Prop):Prop :=
 ∀l:Nat,l=w.heap.size->∀rc:mE,isRec rc ->
  (aT8 shs λargs=>∀w' K',recAt w' l rc .ready none->body l rc args w' K'->sH P l args w' K') ->
  aTr P fv [.func (.yield l) #[] #[]] (w.alloc (rc .ready none)) λw2=>done l rc w2
def aI2:List Nat->List Value->Env->Env
 | t::ts,v::vs,env=>aI2 ts vs ((t,v)::env)
 | _,_,env=>env
def aUs(ro:Option Nat)(c:Code):Bool :=
 match ro with
 | none=>true
 | some _=>dK c
def sI(P:Program)(n:Nat):Pk->Option Nat->Ann->Code->nZ->St->World->Prop
 | pk,ro,.meet vs a,c,Q,s,w =>
  match dK c with
  | true=>∃J:JT vs.shs,
   JT.all vs.shs J (λl w'=>Q .normal { env:=Vars.env vs l (kK (eD c) s.env),ds:=s.ds } w') /\
   sI P n pk ro a c (aCe (λs' w'=>Vars.holds vs J s' w') Q) s w
  | false=>False
 | pk,ro,.two x y,.seq a b,Q,s,w=>sI P n pk ro x a (aCe (sI P n pk ro y b Q) Q) s w
 | pk,ro,.two x y,.cond c a b,Q,s,w=>match tR s.env c with
  | some (.bool t)=>aS t (sI P n pk ro x a Q s w) (sI P n pk ro y b Q s w)
  | _=>False
 | pk,ro,.two x _,.block id c,Q,s,w=>sI P n pk ro x c (aKq id Q) s w
 | pk,ro,.two x _,.scope c,Q,s,w=>sI P n pk ro x c (aUx Q) s w
 | pk,ro,.loop vs a,.loop c,Q,s,w =>
  match dK c with
  | true=>∃I:Nat->JT vs.shs,(∃m,Vars.holds vs (I m) s w) /\
   ∀m,JT.all vs.shs (I m) λl w'=>sI P n pk ro a c (aCe (λs' w''=>∃m',m'<m/\Vars.holds vs (I m') s' w'') Q)
    { env:=Vars.env vs l (kK (eD c) s.env),ds:=s.ds } w'
  | false=>False
 | pk,ro,.leaf,.skip,Q,s,w=>Q .normal s w
 | pk,ro,.leaf,.label _,Q,s,w=>Q .normal s w
 | pk,ro,.leaf,.region id ops draw,Q,s,w =>
  match aUs ro (.region id ops draw)with
  | false=>False
  | true=>match draw with
   | false=>aA5 P pk n ops.toList false [] (List.range ops.toList.length) [] s w (Q .normal)
   | true=>False
 | pk,ro,.draw ord,.region id ops draw,Q,s,w =>
  match aUs ro (.region id ops draw)with
  | false=>False
  | true=>match draw with
   | false=>False
   | true=>match aIt P ops.toList ord with
    | true=>aA5 P pk n ops.toList true (vJ ops.toList []) ord [] s w.drew (Q .normal)
    | false=>False
 | pk,ro,.draws ord,.region id ops draw,Q,s,w =>
  match aUs ro (.region id ops draw)with
  | false=>False
  | true=>match draw with
   | false=>False
   | true=>match aEo P ops.toList ord with
    | true=>aL8 P pk n ops.toList (vJ ops.toList []) (Q .normal) ord [] s w.drew
    | false=>False
 | _,ro,.over shs ret ex x y,.rangeFunc g ps assign body,Q,s,w =>
  match tR s.env g with
  | none=>False
  | some gv=>match Nat.beq shs.length ps.toList.length && ps.toList.all (λt=>Nat.blt t n)with
   | false=>False
   | true=>match ro with
    | none=>aRw P shs gv (w.alloc (.deferred (some [])))
     (λl rc args w' K'=>sI P n none (some l) x assign
       (aCe (λs1 w1=>recAt w1 l rc .ready none/\sI P n none (some l) y body (aMa l rc K') s1 (w1.putObj l (rc .busy none))) λ_ _ _=>False)
       { env:=aI2 ps.toList args s.env,ds:=[] } w')
     (λl rc w2=>aN0 l rc Q { env:=s.env,ds:={ target:=.collected w.heap.size,args:=#[] }::s.ds } w2 ret ex)
    | some l0=>aWs (lY w l0)/\aRw P shs gv w
     (λl rc args w' K'=>sI P n none (some l) x assign
       (aCe (λs1 w1=>recAt w1 l rc .ready none/\sI P n none (some l) y body (aMa l rc K') s1 (w1.putObj l (rc .busy none))) λ_ _ _=>False)
       { env:=aI2 ps.toList args s.env,ds:=[] } w')
     (λl rc w2=>aN0 l rc Q s w2 ret ex)
 | pk,ro,.leaf,.exit id,Q,s,w=>Q (.exit id) s w
 | pk,ro,.leaf,.ret,Q,s,w=>Q .ret s w
 | _,_,_,_,_,_,_=>False
def mZ:Nat->List Value->Env
 | _,[]=>[]
 | i,v::l=>(i,v)::mZ (i+1) l
def aK9(P:Program)(f:FuncId)(args:List Value)(w:World)(K:World->Prop):Prop :=
 CallsD P f args.toArray .returning w λe u w'=>(∃v,e=.returned v)/\u=.returning/\K w'
def aG9(P:Program)(d:Deferred)(w:World)(K:World->Prop):Prop :=
 match d.target with
 | .fn (.func f) cap=>match tE P f with
  | true=>aK9 P f (d.args.toList++cap.toList) w K
  | false=>False
 | _=>False
def mT(P:Program)(env:Env)(w:World):List ResultVar->(List Value->Prop)->Prop
 | [],K=>K []
 | .tmp t::l,K=>match Env.get env t with
  | some v=>mT P env w l λvs=>K (v::vs)
  | none=>False
 | .cell a t::l,K=>match Env.get env a with
  | some (.pointer p)=>nn p λa=>if iU P t then(match(rJ P 12 t).length == lC P t && (P.info? t).isSome with
   | true=>aBy w a (rJ P 12 t) 0 λcs=>mT P env w l λvs=>K (.agg cs.toArray::vs)
   | false=>False)else match P.underlying t with
   | some _=>ld w a (aPb P t) λv=>mT P env w l λvs=>K (v::vs)
   | none=>False
  | _=>False
def aNo(w:World)(r:Nat)(K:World->Prop):Prop:=lY w r=some (.deferred (some []))/\K (w.putObj r (.deferred none))
def aQ4:List Value->Value
 | [v]=>v
 | vs=>.tuple vs.toArray
def rK(P:Program)(fn:Func)(K:Value->World->Prop)(env:Env):List Deferred->World->Prop
 | [],w=>mT P env w fn.results.toList λvs=>K (aQ4 vs) w
 | d::ds,w=>match d.target with
  | .collected r=>aNo w r λw=>rK P fn K env ds w
  | _=>aG9 P d w λw=>rK P fn K env ds w
def aOh(P:Program)(fn:Func)(K:Value->World->Prop):nZ
 | .normal,s,w|.ret,s,w=>rK P fn K s.env s.ds w
 | _,_,_=>False
def aYd(pk:Pk)(c:Code):Bool :=
 match pk with
 | none=>true
 | some _=>dK c
def wpF(P:Program)(pk:Pk)(fn:Func)(ann:Ann)(args:List Value)(w:World)(K:Value->World->Prop):Prop :=
 match fn.body with
 | some c=>match Nat.ble args.length fn.ntmps && aYd pk c with
  | true=>sI P fn.ntmps pk none ann c (aOh P fn K) { env:=mZ 0 args,ds:=[] } w
  | false=>False
 | none=>False
def jX(P:Program)(f:FuncId)(args:List Value)(u:FrameMode)(w:World)(K:FrameMode->World->Prop):Prop :=
 CallsD P f args.toArray u w λe u' w'=>(∃v,e=.returned v)/\K u' w'
def aMx(P:Program)(fn:Func)(K:Value->World->Prop)(env:Env)(ch:List PanicEntry):List Deferred->World->Prop
 | [],_=>False
 | d::ds,w=>match ds with
  | []=>(match d.target with
   | .fn (.func f) cap=>(match tE P f with
    | true=>jX P f (d.args.toList++cap.toList) (.panicking ch) w λu' w'=>settle u'=.returning/\mT P env w' fn.results.toList λvs=>K (aQ4 vs) w'
    | false=>False)
   | _=>False)
  | _=>False
def aU9(P:Program)(fn:Func)(K:Value->World->Prop):nZ
 | .normal,s,w|.ret,s,w=>rK P fn K s.env s.ds w
 | .panic ch,s,w=>aMx P fn K s.env ch s.ds w
 | _,_,_=>False
def wpG(P:Program)(n:Nat):List Ann->Code->nZ->St->World->Prop
 | [],_,_,_,_=>False
 | x::xs,c,Q,s,w=>match xs with
  | []=>(match dK c with
   | true=>sI P n (some λch w'=>Q (.panic ch) { env:=kK (eD c) s.env,ds:=s.ds } w') none x c Q s w
   | false=>False)
  | y::ys=>(match c with
   | .seq a b=>sI P n none none x a (aCe (wpG P n (y::ys) b Q) Q) s w
   | _=>False)
def aUf(P:Program)(fn:Func)(anns:List Ann)(args:List Value)(w:World)(K:Value->World->Prop):Prop :=
 match fn.body with
 | some c=>match Nat.ble args.length fn.ntmps with
  | true=>wpG P fn.ntmps anns c (aU9 P fn K) { env:=mZ 0 args,ds:=[] } w
  | false=>False
 | none=>False
def aCo(ops:Array Oper):Option (Nat × Nat) :=
 match ops.toList with
 | [o1,o2]=>(match o1.dst,o1.op,o1.guard,o2.dst,o2.op,o2.guard with
  | some d1,.call c,none,some d2,.assign (.tmp t),none=>(match c.callee,Nat.beq t d1 with
   | .builtin .recover,true=>some (d1,d2)
   | _,_=>none)
  | _,_,_,_,_,_=>none)
 | _=>none
def wpR(P:Program)(fn:Func)(ann:Ann)(args:List Value)(x:Value)(w:World)(K:World->Prop):Prop :=
 match fn.body with
 | some (.seq (.region _ ops false) rest)=>(match aCo ops,dK rest && Nat.ble args.length fn.ntmps with
  | some (d1,d2),true=>(match Nat.blt d1 fn.ntmps && Nat.blt d2 fn.ntmps with
   | true=>sI P fn.ntmps none none ann rest (aOh P fn λ_ w'=>K w') { env:=(d2,x)::(d1,x)::mZ 0 args,ds:=[] } w
   | false=>False)
  | _,_=>False)
 | _=>False
end Go.Sv
