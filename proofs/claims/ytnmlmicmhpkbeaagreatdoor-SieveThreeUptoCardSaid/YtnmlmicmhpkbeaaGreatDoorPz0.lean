/-
  A reading of the model's code by a function: 'Go.Sv.wpC' computes, from a function's code and from values known at the entry, what must hold for the call to return as wanted. It is sound over every program (XSvSound). Nothing of this file names a program.
-/
import Derived.OrdersIn
import Derived.RangeFuncRecord
import Derived.Scope
set_option linter.unusedVariables false
set_option linter.unusedSimpArgs false
namespace Go.Sv
open Go
inductive Sh where
 | bool | int (k:IntKind) | str | ptr | slice | map | raw | flt (k:FloatKind)
inductive VSh where
 | cell (s:Sh)
 | agg (l:List Sh)
inductive RSh where
 | one (s:VSh)
 | tup (l:List VSh)
def exC:Sh→(Value→Prop)→Prop
 | .bool,K=>∃ b:Bool,K (.bool b)
 | .int k,K=>∃ n:Int,K (.int k n)
 | .str,K=>∃ s:ByteArray,K (.string s)
 | .ptr,K=>∃ p:Option Addr,K (.pointer p)
 | .slice,K=>∃ (p:Option Addr) (n c:Nat),K (.slice p n c)
 | .map,K=>∃ r:Option Nat,K (.map r)
 | .flt k,K=>∃ b:Nat,K (.float k b)
 | .raw,K=>∃ v:Value,K v
def exL:List Sh→(List Value→Prop)→Prop
 | [],K=>K []
 | s::l,K=>exC s fun v=>exL l fun vs=>K (v::vs)
def exBig (n:Nat) (K:List Value→Prop):Prop:=∃ vs:List Value,vs.length=n∧K vs
def exV:VSh→(Value→Prop)→Prop
 | .cell s,K=>exC s K
 | .agg l,K=>match Nat.blt 20 l.length with
  | true=>exBig l.length fun vs=>K (.agg vs.toArray)
  | false=>exL l fun vs=>K (.agg vs.toArray)
def exVs:List VSh→(List Value→Prop)→Prop
 | [],K=>K []
 | s::l,K=>exV s fun v=>exVs l fun vs=>K (v::vs)
def exR:RSh→(Value→Prop)→Prop
 | .one s,K=>exV s K
 | .tup l,K=>exVs l fun vs=>K (.tuple vs.toArray)
def allC:Sh→(Value→Prop)→Prop
 | .bool,K=>∀ b:Bool,K (.bool b)
 | .int k,K=>∀ n:Int,K (.int k n)
 | .str,K=>∀ s:ByteArray,K (.string s)
 | .ptr,K=>∀ p:Option Addr,K (.pointer p)
 | .slice,K=>∀ (p:Option Addr) (n c:Nat),K (.slice p n c)
 | .map,K=>∀ r:Option Nat,K (.map r)
 | .flt k,K=>∀ b:Nat,K (.float k b)
 | .raw,K=>∀ v:Value,K v
def allL:List Sh→(List Value→Prop)→Prop
 | [],K=>K []
 | s::l,K=>allC s fun v=>allL l fun vs=>K (v::vs)
def allV:VSh→(Value→Prop)→Prop
 | .cell s,K=>allC s K
 | .agg l,K=>allL l fun vs=>K (.agg vs.toArray)
def allVs:List VSh→(List Value→Prop)→Prop
 | [],K=>K []
 | s::l,K=>allV s fun v=>allVs l fun vs=>K (v::vs)
def shOf (P:Program) (t:TypeId):Sh :=
 match P.underlying t with
 | some .bool=>.bool
 | some (.int k)=>.int k
 | some .string=>.str
 | some (.pointer _)=>.ptr
 | some .unsafePointer=>.ptr
 | some (.slice _)=>.slice
 | some (.map _ _)=>.map
 | some (.float k)=>.flt k
 | _=>.raw
def isAggB (P:Program) (t:TypeId):Bool :=
 match P.underlying t with
 | some (.struct _) | some (.array _ _)=>true
 | _=>false
def rep (n:Nat) (l:List Sh):List Sh :=
 match n with
 | 0=>[]
 | n+1=>l++rep n l
def catMap {α β:Type} (f:α→List β):List α→List β
 | []=>[]
 | x::l=>f x++catMap f l
def flatSh (P:Program):Nat→TypeId→List Sh
 | 0,_=>[]
 | d+1,t =>
  match P.underlying t with
  | some (.struct fs)=>catMap (fun f:Field=>flatSh P d f.type) fs.toList
  | some (.array n e)=>rep n (flatSh P d e)
  | _=>[shOf P t]
def vshOf (P:Program) (t:TypeId):VSh:=if isAggB P t then .agg (flatSh P 12 t) else .cell (shOf P t)
def rshOf (P:Program) (t:TypeId):RSh :=
 match P.underlying t with
 | some (.tuple ts)=>.tup (ts.toList.map (vshOf P))
 | _=>.one (vshOf P t)
def Sif (b:Bool) (x y:Prop):Prop :=
 match b with
 | true=>x
 | false=>y
def nn (p:Option Addr) (K:Addr→Prop):Prop :=
 match p with
 | some a=>K a
 | none=>False
def oneV:Value→Bool
 | .agg _ | .tuple _=>false
 | _=>true
def byteAt (s:ByteArray) (n:Nat):Int:=((s.data.toList.getD n 0).toNat:Int)
def subA (a:Option Addr) (l m size:Nat):Option Addr:=if m=l then a else a.map (·.add (l*size))
def isI:Value→Bool
 | .nilIface | .iface _ _=>true
 | _=>false
def isNilI:Value→Bool
 | .nilIface=>true
 | _=>false
def bitsV (op:BinOp) (k:IntKind) (x y:Int):Int :=
 k.wrap (match op with
  | .and=>BitVec.ofInt k.bits x &&& BitVec.ofInt k.bits y
  | .or=>BitVec.ofInt k.bits x ||| BitVec.ofInt k.bits y
  | .xor=>BitVec.ofInt k.bits x ^^^ BitVec.ofInt k.bits y
  | _=>BitVec.ofInt k.bits x &&& ~~~(BitVec.ofInt k.bits y)).toNat
def intStep (op:BinOp) (k:IntKind) (a b:Int) (K:Value→Prop):Prop :=
 match op with
 | .add=>K (.int k (k.wrap (a+b)))
 | .sub=>K (.int k (k.wrap (a-b)))
 | .mul=>K (.int k (k.wrap (a*b)))
 | .quo=>b≠0∧K (.int k (k.wrap (a.tdiv b)))
 | .rem=>b≠0∧K (.int k (a.tmod b))
 | .and=>K (.int k (bitsV .and k a b))
 | .or=>K (.int k (bitsV .or k a b))
 | .xor=>K (.int k (bitsV .xor k a b))
 | .andNot=>K (.int k (bitsV .andNot k a b))
 | .eql=>K (.bool (a == b))
 | .neq=>K (.bool (a != b))
 | .lss=>K (.bool (decide (a<b)))
 | .leq=>K (.bool (decide (a≤b)))
 | .gtr=>K (.bool (decide (a>b)))
 | .geq=>K (.bool (decide (a≥b)))
 | _=>False
def strStep (op:BinOp) (x y:ByteArray) (K:Value→Prop):Prop :=
 match op with
 | .add=>((x.size+y.size:Nat):Int)≤9223372036854775807∧K (.string (x++y))
 | .eql=>K (.bool (x.toList == y.toList))
 | .neq=>K (.bool (!(x.toList == y.toList)))
 | .lss=>K (.bool (Op.bytesLess x.toList y.toList))
 | .leq=>K (.bool (Op.bytesLess x.toList y.toList || x.toList == y.toList))
 | .gtr=>K (.bool (!(Op.bytesLess x.toList y.toList || x.toList == y.toList)))
 | .geq=>K (.bool (!(Op.bytesLess x.toList y.toList)))
 | _=>False
def optF (o:Option Nat) (K:Nat→Prop):Prop :=
 match o with
 | some r=>K r
 | none=>False
def fltStep (op:BinOp) (k:FloatKind) (a b:Nat) (K:Value→Prop):Prop :=
 match op with
 | .add=>optF (k.format.add a b) fun r=>K (.float k r)
 | .sub=>optF (k.format.sub a b) fun r=>K (.float k r)
 | .mul=>optF (k.format.mul a b) fun r=>K (.float k r)
 | .quo=>optF (k.format.div a b) fun r=>K (.float k r)
 | .eql=>K (.bool (k.format.order a b == some .eq))
 | .neq=>K (.bool (k.format.order a b != some .eq))
 | .lss=>K (.bool (k.format.order a b == some .lt))
 | .leq=>K (.bool (k.format.order a b == some .lt || k.format.order a b == some .eq))
 | .gtr=>K (.bool (k.format.order a b == some .gt))
 | .geq=>K (.bool (k.format.order a b == some .gt || k.format.order a b == some .eq))
 | _=>False
def eqStep (op:BinOp) (r:Bool) (K:Value→Prop):Prop :=
 match op with
 | .eql=>K (.bool r)
 | .neq=>K (.bool (!r))
 | _=>False
def isConstNil:Operand→Bool
 | .const .nilIface=>true
 | _=>false
def ifaceEq (P:Program) (op:BinOp) (T:TypeId) (u v:Value) (w:World) (K:Bool→Prop):Prop :=
 ∃ r:Bool,(∀ x y:Operand,(do eqGuard op T x y u v; binOp op T u v:Sem Value).run P w=.ok (.bool r) w)∧K r
def isNilF (u:Value) (K:Bool→Prop):Prop :=
 match u with
 | .nilFunc=>K true
 | .func _ _ _=>K false
 | _=>False
def eqAt (P:Program) (t:TypeId) (u v:Value) (K:Bool→Prop):Prop :=
 match P.underlying t with
 | some .bool=>(match u,v with
  | .bool a,.bool b=>K (a == b)
  | _,_=>False)
 | some (.int _)=>(match u,v with
  | .int k a,.int k' b=>(match decide (k=k') with
   | true=>K (a == b)
   | false=>False)
  | _,_=>False)
 | some .string=>(match u,v with
  | .string a,.string b=>K (a.toList == b.toList)
  | _,_=>False)
 | _=>False
def eqFs (P:Program):List Field→List Value→List Value→(Bool→Prop)→Prop
 | [],_,_,K=>K true
 | f::fs,xs,ys,K=>match f.name != "_" with
  | true=>(match xs[f.offset]?,ys[f.offset]? with
   | some a,some b=>eqAt P f.type a b fun r=>eqFs P fs xs ys fun r2=>K (r && r2)
   | _,_=>False)
  | false=>False
def otherStep (P:Program) (op:BinOp) (T:TypeId) (y:Operand) (u v:Value) (K:Value→Prop):Prop :=
 match P.underlying T with
 | some .bool=>match u,v with
  | .bool a,.bool b=>eqStep op (a == b) K
  | _,_=>False
 | some (.pointer _)=>match u,v with
  | .pointer a,.pointer none=>eqStep op a.isNone K
  | _,_=>False
 | some (.slice _)=>match u,v with
  | .slice a _ _,.slice none _ _=>eqStep op a.isNone K
  | _,_=>False
 | some (.map _ _)=>match u,v with
  | .map a,.map none=>eqStep op a.isNone K
  | _,_=>False
 | some (.interface _)=>match isConstNil y with
  | true=>(match v with
   | .nilIface=>isI u=true∧eqStep op (isNilI u) K
   | _=>False)
  | false=>False
 | some (.func _ _ _)=>match v with
  | .nilFunc=>isNilF u fun r=>eqStep op r K
  | _=>False
 | some (.struct fs)=>(match u,v with
  | .agg a,.agg b=>(match P.stoodInHeld T || P.eqGuardType P.depth T with
   | false=>eqFs P fs.toList a.toList b.toList fun r=>eqStep op r K
   | true=>False)
  | _,_=>False)
 | _=>False
def binStep2 (P:Program) (op:BinOp) (T:TypeId) (y:Operand) (u v:Value) (K:Value→Prop):Prop :=
 match u,v with
 | .int k a,.int k' b =>
  match op with
  | .shl=>0≤b∧K (.int k (k.wrap (a*2^(min b.toNat k.bits))))
  | .shr=>0≤b∧K (.int k (a.fdiv (2^(min b.toNat k.bits))))
  | _=>if k=k' then intStep op k a b K else False
 | .string a,.string b=>strStep op a b K
 | .float k a,.float k' b=>if k=k' then fltStep op k a b K else False
 | u,v=>otherStep P op T y u v K
def binStep (P:Program) (op:BinOp) (T:TypeId) (y:Operand) (u v:Value) (K:Value→Prop):Prop :=
 match P.underlying T with
 | some (.interface _)=>otherStep P op T y u v K
 | some (.func _ _ _)=>otherStep P op T y u v K
 | _=>binStep2 P op T y u v K
def unStep (op:UnOp) (x:Value) (K:Value→Prop):Prop :=
 match op,x with
 | .neg,.int k n=>K (.int k (k.wrap (0-n)))
 | .xor,.int k n=>K (.int k (bitsV .xor k (if k.signed then -1 else k.max) n))
 | .not,.bool b=>K (.bool (!b))
 | .neg,.float k b=>K (.float k (Op.negFloat k b))
 | _,_=>False
def f2i (o:Option Int) (k:IntKind) (K:Int→Prop):Prop :=
 match o with
 | some n=>(k.min≤n∧n≤k.max)∧K n
 | none=>False
def convStep (P:Program) (src dst:TypeId) (x:Value) (K:Value→Prop):Prop :=
 match P.underlying src with
 | none=>False
 | some _ =>
  match P.underlying dst,x with
  | some (.int k),.int _ n=>K (.int k (k.wrap n))
  | some (.float k),.int _ n=>K (.float k (k.nearest n))
  | some (.int k),.float s b=>f2i ((s.decode b).toInt .zero) k fun n=>K (.int k n)
  | some (.float k),.float s b=>(match decide (s=k) with
   | true=>K (.float k b)
   | false=>False)
  | some .string,.string s=>K (.string s)
  | some .string,.int _ n=>K (.string (Utf8.encode n))
  | _,_=>False
def sizeB (P:Program) (t:TypeId):Nat:=((P.info? t).map (·.size)).getD 0
def fieldAddrStep (P:Program) (T:TypeId) (x:Value) (f:Nat) (K:Value→Prop):Prop :=
 match P.underlying T with
 | some (.struct fs) =>
  match fs.toList[f]? with
  | some fd=>if sizeB P fd.type=0 then False else
   match x with
   | .pointer p=>nn p fun a=>K (.pointer (some (a.add fd.offset)))
   | _=>False
  | none=>False
 | _=>False
def fieldStep (P:Program) (T:TypeId) (x:Value) (f:Nat) (K:Value→Prop):Prop :=
 match P.underlying T with
 | some (.struct fs) =>
  match fs.toList[f]? with
  | some fd =>
   match x with
   | .agg cs =>
    if isAggB P fd.type then
         match P.info? fd.type with
         | some i=>K (.agg ((cs.toList.drop fd.offset).take i.size).toArray)
         | none=>False
    else match P.underlying fd.type with
         | none=>False
         | some _=>match cs.toList[fd.offset]? with
          | some v=>K v
          | none=>False
   | _=>False
  | none=>False
 | _=>False
def indexAddrStep (P:Program) (T:TypeId) (x i:Value) (K:Value→Prop):Prop :=
 match i with
 | .int _ n =>
  match P.underlying T with
  | some (.slice e) =>
   match x with
   | .slice p len _=>match P.info? e with
    | some inf=>0≤n∧n<(len:Int)∧nn p fun a=>K (.pointer (some (a.add (n.toNat*inf.size))))
    | none=>False
   | _=>False
  | some (.array len e) =>
   match x with
   | .pointer p=>match P.info? e with
    | some inf=>0≤n∧n<(len:Int)∧nn p fun a=>K (.pointer (some (a.add (n.toNat*inf.size))))
    | none=>False
   | _=>False
  | _=>False
 | _=>False
def indexStep (P:Program) (T:TypeId) (x i:Value) (K:Value→Prop):Prop :=
 match i with
 | .int _ n =>
  match P.underlying T with
  | some .string =>
   match x with
   | .string s=>0≤n∧n<(s.size:Int)∧K (.int .u8 (byteAt s n.toNat))
   | _=>False
  | some (.array len e) =>
   match x with
   | .agg cs=>(match isAggB P e || !(Nat.beq (sizeB P e) 1) || (P.underlying e).isNone with
    | false=>0≤n∧n<(len:Int)∧exC (shOf P e) fun v=>cs.toList[n.toNat]?=some v∧K v
    | true=>False)
   | _=>False
  | _=>False
 | _=>False
def boundsStep (len cap:Nat) (low high max:Option Value) (K:Nat→Nat→Nat→Prop):Prop :=
 match low,high,max with
 | none,none,none=>K 0 len cap
 | some (.int _ l),none,none=>0≤l∧l≤(len:Int)∧K l.toNat len cap
 | none,some (.int _ h),none=>0≤h∧h≤(cap:Int)∧K 0 h.toNat cap
 | some (.int _ l),some (.int _ h),none=>0≤h∧h≤(cap:Int)∧0≤l∧l≤h∧K l.toNat h.toNat cap
 | none,some (.int _ h),some (.int _ m)=>0≤m∧m≤(cap:Int)∧0≤h∧h≤m∧K 0 h.toNat m.toNat
 | some (.int _ l),some (.int _ h),some (.int _ m)=>0≤m∧m≤(cap:Int)∧0≤h∧h≤m∧0≤l∧l≤h∧K l.toNat h.toNat m.toNat
 | _,_,_=>False
def noVal (o:Option Value):Bool:=match o with | none=>true | some _=>false
def sliceStep (P:Program) (T:TypeId) (x:Value) (low high max:Option Value) (K:Value→Prop):Prop :=
 match P.underlying T with
 | some .string =>
  match x with
  | .string s=>if noVal max then boundsStep s.size s.size low high none fun l h _=>K (.string (s.extract l h)) else False
  | _=>False
 | some (.slice e) =>
  match x with
  | .slice a len cap=>match P.info? e with
   | some inf=>(match low with
    | none=>boundsStep len cap none high max fun _ h m=>K (.slice a h m)
    | some lo=>boundsStep len cap (some lo) high max fun l h m=>K (.slice (subA a l m inf.size) (h-l) (m-l)))
   | none=>False
  | _=>False
 | some (.array n e) =>
  match x with
  | .pointer p=>nn p fun a=>(match P.info? e with
   | some inf=>(match low with
    | none=>boundsStep n n none high max fun _ h m=>K (.slice (some a) h m)
    | some lo=>boundsStep n n (some lo) high max fun l h m=>K (.slice (subA (some a) l m inf.size) (h-l) (m-l)))
   | none=>False)
  | _=>False
 | _=>False
def putSeg (cs:List Value) (off:Nat) (vs:List Value):List Value:=cs.take off++vs++cs.drop (off+vs.length)
def asAggC (n:Nat) (cs:Array Value) (K:List Value→Prop):Prop:=if cs.toList.length=n then K cs.toList else False
def asAggV (n:Nat) (v:Value) (K:List Value→Prop):Prop :=
 match v with
 | .agg cs=>asAggC n cs K
 | _=>False
def cellsV (P:Program) (t:TypeId) (v:Value) (K:List Value→Prop):Prop :=
 if isAggB P t then asAggV (sizeB P t) v K
 else if sizeB P t=1 then
  (match P.underlying t with
  | some _=>Sif (oneV v) (K [v]) False
  | none=>False)
 else False
def zeroV (P:Program) (t:TypeId):Option Value:=(P.info? t).bind (·.zero)
def fillS (P:Program) (fs:List Field) (cs:List Value):List (Nat × Value)→(List Value→Prop)→Prop
 | [],K=>K cs
 | (i,v)::rest,K =>
  match fs[i]? with
  | some fd=>cellsV P fd.type v fun vs=>if fd.offset+vs.length≤cs.length then fillS P fs (putSeg cs fd.offset vs) rest K else False
  | none=>False
def fillE (P:Program) (e:TypeId) (size:Nat) (cs:List Value):List (Nat × Value)→(List Value→Prop)→Prop
 | [],K=>K cs
 | (i,v)::rest,K=>cellsV P e v fun vs=>if i*size+vs.length≤cs.length then fillE P e size (putSeg cs (i*size) vs) rest K else False
def buildStep (P:Program) (T:TypeId) (parts:List (Nat × Value)) (K:Value→Prop):Prop :=
 match P.underlying T with
 | some (.struct fs) =>
  match zeroV P T with
  | some (.agg z)=>if fs.toList.all (fun f=>(P.info? f.type).isSome) then fillS P fs.toList z.toList parts fun cs=>K (.agg cs.toArray) else False
  | _=>False
 | some (.array _ e) =>
  match zeroV P T,P.info? e with
  | some (.agg z),some inf=>fillE P e inf.size z.toList parts fun cs=>K (.agg cs.toArray)
  | _,_=>False
 | _=>False
def repV (n:Nat) (l:List Value):List Value :=
 match n with
 | 0=>[]
 | n+1=>l++repV n l
def lenStep (P:Program) (t:TypeId) (x:Value) (K:Value→Prop):Prop :=
 match P.underlying t with
 | some .string=>match x with
  | .string s=>K (.int .i64 (s.size:Int))
  | _=>False
 | some (.slice _)=>match x with
  | .slice _ n _=>K (.int .i64 (n:Int))
  | _=>False
 | _=>False
def capStep (P:Program) (t:TypeId) (x:Value) (K:Value→Prop):Prop :=
 match P.underlying t with
 | some (.slice _)=>match x with
  | .slice _ _ n=>K (.int .i64 (n:Int))
  | _=>False
 | _=>False
abbrev Env:=List (Nat × Value)
def Env.get:Env→Nat→Option Value
 | [],_=>none
 | (j,v)::r,i=>match Nat.beq j i with
  | true=>some v
  | false=>Env.get r i
def evalO (env:Env):Operand→Option Value
 | .tmp t=>Env.get env t
 | .const v=>some v
 | .global g=>some (.pointer (some ⟨g,0,none⟩))
 | .func f=>some (.func (.func f) #[] #[])
def rho (env:Env) (x:Operand):Value :=
 match evalO env x with
 | some v=>v
 | none=>undef
def opsL:Op→List Operand
 | .alloc _ | .ready _ | .waits _=>[]
 | .move x | .assign x | .box _ x | .load _ x | .nilCheck x | .unOp _ _ x | .convert _ _ x | .sliceToArrayPointer _ x | .makeInterface _ x
 | .makeChan _ x | .fieldAddr _ x _ | .field _ x _ | .range _ x | .next x _ | .entry x | .typeAssert x _ _ _ | .extract x _ | .panic x | .recv _ x _=>[x]
 | .pick c a b=>[c,a,b]
 | .build _ ps | .buildSlice _ _ ps=>ps.toList.map (·.2)
 | .store _ a v | .binOp _ _ a v _ | .makeSlice _ a v | .indexAddr _ a v | .index _ a v | .lookup _ a v _ | .mapEntry _ a v | .send a v=>[a,v]
 | .makeFunc _ first captured=>first.toList++captured.toList
 | .makeMap _ r=>match r with | none=>[] | some x=>[x]
 | .slice _ x l h m=>x::((match l with | none=>[] | some y=>[y])++((match h with | none=>[] | some y=>[y])++(match m with | none=>[] | some y=>[y])))
 | .mapUpdate _ m k v | .entryStore _ m k v | .insert _ m k v=>[m,k,v]
 | .call c | .go c | .defer c=>(match c.callee with | .value f=>[f] | .invoke r _=>[r] | .builtin _=>[])++c.args.toList
 | .select _ _=>[]
def knownAll (env:Env):List Operand→Bool
 | []=>true
 | x::l=>match evalO env x with
  | some _=>knownAll env l
  | none=>false
def valsL (env:Env):List Operand→List Value
 | []=>[]
 | x::l=>rho env x::valsL env l
def partsL (env:Env):List (Nat × Operand)→List (Nat × Value)
 | []=>[]
 | (i,x)::l=>(i,rho env x)::partsL env l
def kindB:Builtin→Nat
 | .len=>0
 | .max | .min | .cap=>0
 | _=>2
def isConstO:Operand→Bool
 | .const _=>true
 | _=>false
def kindOf (P:Program):Op→Nat
 | .binOp _ t _ y _=>match P.underlying t with
  | some (.interface _)=>(match isConstNil y with
   | true=>0
   | false=>1)
  | some (.pointer _)=>(match isConstO y with
   | true=>0
   | false=>1)
  | _=>0
 | .move _ | .assign _ | .pick _ _ _ | .build _ _ | .nilCheck _ | .unOp _ _ _ | .makeInterface _ _ | .makeFunc _ _ _
 | .slice _ _ _ _ _ | .fieldAddr _ _ _ | .field _ _ _ | .indexAddr _ _ _ | .index _ _ _ | .extract _ _=>0
 | .convert s d _=>(match P.underlying s with
  | some .string=>(match P.underlying d with
   | some (.slice _)=>2
   | _=>1)
  | some (.float a)=>(match P.underlying d with
   | some (.float b)=>(match decide (a=b) with
    | true=>1
    | false=>2)
   | _=>1)
  | _=>1)
 | .load _ _ | .lookup _ _ _ _ | .entry _ | .typeAssert _ _ _ _=>1
 | .call c=>match c.callee with
  | .builtin .len=>(match c.argTypes.toList with
   | [t]=>(match P.underlying t with
    | some (.map _ _)=>1
    | _=>0)
   | _=>0)
  | .builtin .unsafeSliceData=>1
  | .builtin b=>kindB b
  | _=>2
 | _=>2
def minmaxStep (mx:Bool) (u v:Value) (K:Value→Prop):Prop :=
 match u,v with
 | .int k x,.int _ y=>match mx with
  | true=>K (.int k (max x y))
  | false=>K (.int k (min x y))
 | _,_=>False
def nameI (n:Int) (K:Int→Prop):Prop:=K n
def nameV (v:Value) (K:Value→Prop):Prop :=
 match v with
 | .int k n=>nameI n fun n=>K (.int k n)
 | v=>K v
def asBoolV (v:Value) (K:Bool→Prop):Prop:=match v with | .bool b=>K b | _=>False
def asIntV (k:IntKind) (v:Value) (K:Int→Prop):Prop:=match v with | .int k' n=>(match decide (k'=k) with | true=>K n | false=>False) | _=>False
def asStrV (v:Value) (K:ByteArray→Prop):Prop:=match v with | .string s=>K s | _=>False
def asPtrV (v:Value) (K:Option Addr→Prop):Prop:=match v with | .pointer p=>K p | _=>False
def asSliceV (v:Value) (K:Option Addr→Nat→Nat→Prop):Prop:=match v with | .slice p n c=>K p n c | _=>False
def asMapV (v:Value) (K:Option Nat→Prop):Prop:=match v with | .map r=>K r | _=>False
def asFltV (k:FloatKind) (v:Value) (K:Nat→Prop):Prop:=match v with | .float k' n=>(match decide (k'=k) with | true=>K n | false=>False) | _=>False
def asV (s:Sh) (v:Value) (K:Value→Prop):Prop :=
 match s with
 | .bool=>asBoolV v fun b=>K (.bool b)
 | .int k=>asIntV k v fun n=>K (.int k n)
 | .str=>asStrV v fun x=>K (.string x)
 | .ptr=>asPtrV v fun p=>K (.pointer p)
 | .slice=>asSliceV v fun p n c=>K (.slice p n c)
 | .map=>asMapV v fun r=>K (.map r)
 | .flt k=>asFltV k v fun b=>K (.float k b)
 | .raw=>K v
def asT (P:Program) (t:TypeId) (v:Value) (K:Value→Prop):Prop :=
 match isAggB P t with
 | true=>K v
 | false=>match P.underlying t with
  | some (.tuple _)=>K v
  | _=>asV (shOf P t) v K
def pureStep (P:Program) (env:Env) (op:Op) (ty:TypeId) (K:Value→Prop):Prop :=
 match op with
 | .move x=>K (rho env x)
 | .assign x=>(match x with
  | .tmp _=>(match P.underlying ty with
   | some (.int _)=>nameV (rho env x) K
   | _=>K (rho env x))
  | _=>K (rho env x))
 | .pick c a b=>match rho env c with
  | .bool t=>Sif t (K (rho env a)) (K (rho env b))
  | _=>False
 | .build t ps=>buildStep P t (partsL env ps.toList) K
 | .nilCheck x=>match rho env x with
  | .pointer p=>nn p fun a=>K (.pointer (some a))
  | _=>False
 | .binOp op t x y _=>binStep P op t y (rho env x) (rho env y) K
 | .unOp op _ x=>unStep op (rho env x) K
 | .makeInterface t x=>match P.underlying t with
  | some (.interface _)=>False
  | some _=>K (.iface t (rho env x))
  | none=>False
 | .makeFunc fn a b=>K (.func fn (valsL env a.toList).toArray (valsL env b.toList).toArray)
 | .slice t x l h m=>sliceStep P t (rho env x) (l.map (rho env)) (h.map (rho env)) (m.map (rho env)) K
 | .fieldAddr t x f=>fieldAddrStep P t (rho env x) f K
 | .field t x f=>fieldStep P t (rho env x) f K
 | .indexAddr t x i=>indexAddrStep P t (rho env x) (rho env i) K
 | .index t x i=>indexStep P t (rho env x) (rho env i) K
 | .extract x i=>match rho env x with
  | .tuple vs=>match vs.toList[i]? with
   | some v=>asT P ty v K
   | none=>False
  | _=>False
 | .call c=>match c.callee with
  | .builtin .len=>match c.args.toList,c.argTypes.toList with
   | [x],[t]=>lenStep P t (rho env x) K
   | _,_=>False
  | .builtin .cap=>match c.args.toList,c.argTypes.toList with
   | [x],[t]=>capStep P t (rho env x) K
   | _,_=>False
  | .builtin .max=>match c.args.toList with
   | [x,y]=>minmaxStep true (rho env x) (rho env y) K
   | _=>False
  | .builtin .min=>match c.args.toList with
   | [x,y]=>minmaxStep false (rho env x) (rho env y) K
   | _=>False
  | _=>False
 | _=>False
def ldCells (w:World) (a:Addr):List Sh→Nat→(List Value→Prop)→Prop
 | [],_,K=>K []
 | s::l,i,K=>exC s fun v=>w.cell? (a.add i)=some v∧ldCells w a l (i+1) fun vs=>K (v::vs)
def ldBig (w:World) (a:Addr) (n:Nat) (K:List Value→Prop):Prop:=∃ vs:List Value,vs.length=n∧(∀ i v,vs[i]?=some v→w.cell? (a.add i)=some v)∧K vs
def ldAll (w:World) (a:Addr) (l:List Sh) (K:List Value→Prop):Prop :=
 match Nat.blt 20 l.length with
 | true=>ldBig w a l.length K
 | false=>ldCells w a l 0 K
def ld (w:World) (a:Addr) (s:Sh) (K:Value→Prop):Prop:=exC s fun v=>w.cell? a=some v∧K v
def runS (P:Program) (s:RSh) (x:Sem Value) (w:World) (K:Value→Prop):Prop:=exR s fun v=>x.run P w=.ok v w∧K v
def runW (P:Program) (s:RSh) (x:Sem Value) (w:World) (K:Value→World→Prop):Prop:=exR s fun v=>∃ w',x.run P w=.ok v w'∧K v w'
def runN (P:Program) (s:List VSh) (x:Sem Value) (w:World) (K:Value→World→Prop):Prop :=
 (∃ w',x.run P w=.ok (.tuple #[.bool false]) w'∧K (.tuple #[.bool false]) w') ∨
 exVs s fun vs=>∃ w',x.run P w=.ok (.tuple (.bool true::vs).toArray) w'∧K (.tuple (.bool true::vs).toArray) w'
def runU (P:Program) (x:Sem Unit) (w:World) (K:World→Prop):Prop:=∃ w',x.run P w=.ok () w'∧K w'
def stillStep (P:Program) (env:Env) (o:Oper) (w:World) (K:Value→Prop):Prop :=
 match o.op with
 | .load t x=>match rho env x with
  | .pointer p=>nn p fun a =>
   if isAggB P t then (match (flatSh P 12 t).length == sizeB P t && (P.info? t).isSome with
    | true=>ldAll w a (flatSh P 12 t) fun vs=>K (.agg vs.toArray)
    | false=>False)
   else match P.underlying t with
    | some _=>ld w a (shOf P t) K
    | none=>False
  | _=>False
 | .lookup t x i ok=>(match P.underlying t with
  | some (.map _ e)=>runS P (match ok with | true=>.tup [vshOf P e,.cell .bool] | false=>.one (vshOf P e)) (Instr.lookup t (rho env x) (rho env i) ok) w K
  | _=>False)
 | .convert s d x=>match rho env x with
  | .slice _ _ _=>runS P (rshOf P o.type) (convert s d (rho env x)) w K
  | .pointer _=>runS P (.one (.cell .ptr)) (convert s d (rho env x)) w K
  | x=>convStep P s d x K
 | .binOp op t x y _=>ifaceEq P op t (rho env x) (rho env y) w fun b=>K (.bool b)
 | .entry it=>runS P (.tup [.cell .raw,.cell .raw]) (Instr.entry (rho env it)) w K
 | .typeAssert x t a ok=>runS P (match ok with | true=>.tup [vshOf P a,.cell .bool] | false=>.one (vshOf P a)) (Instr.typeAssert (rho env x) t a ok) w K
 | .call c=>match c.callee with
  | .builtin .len=>runS P (.one (.cell (.int .i64))) (Builtin.len_ c.argTypes o.type (valsL env c.args.toList).toArray) w K
  | .builtin .unsafeSliceData=>runS P (.one (.cell .ptr)) (Builtin.unsafeSliceData_ c.argTypes o.type (valsL env c.args.toList).toArray) w K
  | _=>False
 | _=>False
def st (w:World) (a:Addr) (v:Value) (K:World→Prop):Prop:=(w.cell? a).isSome=true∧w.frozen? a=false∧K (w.setCell a v)
def stCells (w:World) (a:Addr):List Value→Nat→(World→Prop)→Prop
 | [],_,K=>K w
 | [v],i,K=>Sif (oneV v) (st w (a.add i) v K) False
 | v::l,i,K=>Sif (oneV v) (st w (a.add i) v fun w=>stCells w a l (i+1) K) False
def newB (w:World) (cs:List Value) (t:TypeId) (K:Addr→World→Prop):Prop:=K ⟨w.heap.size,0,none⟩ (w.alloc (.cells cs.toArray t))
def callP (P:Program) (f:FuncId) (args:List Value) (w:World) (K:Value→World→Prop):Prop :=
 Calls P f args.toArray w fun e w'=>∃ v,e=.returned v∧K v w'
abbrev Pk:=Option (List PanicEntry→World→Prop)
def callX (P:Program) (f:FuncId) (args:List Value) (w:World) (K:Value→World→Prop) (KP:List PanicEntry→World→Prop):Prop :=
 Calls P f args.toArray w fun e w'=>(∃ v,e=.returned v∧K v w')∨∃ c,e=.panicked c∧KP c w'
def callM (P:Program) (pk:Pk) (f:FuncId) (args:List Value) (w:World) (K:Value→World→Prop):Prop :=
 match pk with
 | none=>callP P f args w K
 | some KP=>callX P f args w K KP
def callR (P:Program) (pk:Pk) (s:RSh) (f:FuncId) (args:List Value) (w:World) (K:Value→World→Prop):Prop :=
 callM P pk f args w fun v w'=>exR s fun u=>v=u∧K u w'
def yieldP (P:Program) (l:Nat) (args:List Value) (w:World) (K:Value→World→Prop):Prop :=
 ∃ fn tmps assign body,(Instr.yield l args.toArray).run P w=.ok (.round l fn tmps assign body) w ∧
  RoundIn Fence.wide 0 P l fn tmps assign body w fun e w'=>∃ v,e=.returned v∧K v w'
def okCall (P:Program) (f:FuncId):Bool :=
 match P.funcs[f]? with
 | some fn=>fn.body.isSome && !(fn.name == "runtime.NumGoroutine")
 | none=>false
def extP (P:Program) (f:FuncId) (args:List Value) (w:World) (K:Value→World→Prop):Prop:=∃ v w',(callFunc f args.toArray).run P w=.ok (.value v) w'∧K v w'
def isExt (P:Program) (f:FuncId):Bool :=
 match P.funcs[f]? with
 | some fn=>fn.body.isNone
 | none=>false
def callV (P:Program) (pk:Pk) (fv:Value) (args:List Value) (w:World) (K:Value→World→Prop):Prop :=
 match fv with
 | .func (.func f) first cap=>okCall P f=true∧callM P pk f (first.toList++args++cap.toList) w K
 | .func (.yield l) first _=>yieldP P l (first.toList++args) w K
 | _=>False
def callVR (P:Program) (pk:Pk) (s:RSh) (fv:Value) (args:List Value) (w:World) (K:Value→World→Prop):Prop :=
 callV P pk fv args w fun v w'=>exR s fun u=>v=u∧K u w'
def callI (P:Program) (pk:Pk) (r:Value) (name:String) (args:List Value) (w:World) (K:Value→World→Prop):Prop :=
 ∃ t v f x,r=.iface t v∧(method (P.types.size+Made.depth) t v name).run P w=.ok (f,x) w∧((okCall P f=true∧callM P pk f (x::args) w K)∨extP P f (x::args) w K)
def callIR (P:Program) (pk:Pk) (s:RSh) (r:Value) (name:String) (args:List Value) (w:World) (K:Value→World→Prop):Prop :=
 callI P pk r name args w fun v w'=>exR s fun u=>v=u∧K u w'
def panicStep (pk:Pk) (x:Value) (w:World):Prop :=
 match pk,x with
 | some KP,.iface t v=>KP [{ v:=.iface t v,recovered:=false }] w
 | _,_=>False
structure St where
 env:Env
 ds:List Deferred
def effStep (P:Program) (pk:Pk) (env:Env) (o:Oper) (ds:List Deferred) (w:World) (K:Value→List Deferred→World→Prop):Prop :=
 match o.op with
 | .alloc t=>match zeroV P t with
  | some v=>newB w v.cells.toList t fun a w=>K (.pointer (some a)) ds w
  | none=>False
 | .box t x=>cellsV P t (rho env x) fun vs=>newB w vs t fun a w=>K (.pointer (some a)) ds w
 | .buildSlice t n ps=>match P.underlying t with
  | some (.slice e)=>match P.info? e with
   | some inf=>match Nat.beq (n*inf.size) 0 with
    | true=>match ps.toList with
     | []=>newB w [] e fun a w=>K (.slice (some a) n n) ds w
     | _::_=>False
    | false=>match inf.zero with
     | some z=>if n*inf.size≤16777216∧(n*inf.size≠0)∧z.cells.toList.length=inf.size then
      fillE P e inf.size (repV n z.cells.toList) (partsL env ps.toList) fun cs=>newB w cs e fun a w=>K (.slice (some a) n n) ds w
          else False
     | none=>False
   | none=>False
  | _=>False
 | .store t x y=>match rho env x with
  | .pointer p=>nn p fun a=>cellsV P t (rho env y) fun vs=>stCells w a vs 0 fun w=>K undef ds w
  | _=>False
 | .makeMap t r=>match r with
  | none=>runW P (.one (.cell .map)) (Instr.makeMap t none) w fun v w=>K v ds w
  | some x=>runW P (.one (.cell .map)) (Instr.makeMap t (some (rho env x))) w fun v w=>K v ds w
 | .makeSlice t l c=>runW P (.one (.cell .slice)) (Instr.makeSlice t (rho env l) (rho env c)) w fun v w=>K v ds w
 | .convert s d x=>(match P.underlying d with
  | some (.float k)=>runW P (.one (.cell (.flt k))) (convert s d (rho env x)) w fun v w=>K v ds w
  | _=>runW P (.one (.cell .slice)) (convert s d (rho env x)) w fun v w=>K v ds w)
 | .mapUpdate t m k x=>runU P (Instr.mapUpdate t (rho env m) (rho env k) (rho env x)) w fun w=>K undef ds w
 | .insert t m k x=>runU P (Instr.mapUpdate t (rho env m) (rho env k) (rho env x)) w fun w=>K undef ds w
 | .mapEntry t m k=>runW P (rshOf P o.type) (Instr.mapEntry t (rho env m) (rho env k)) w fun v w=>K v ds w
 | .entryStore t m s x=>runU P (Instr.entryStore t (rho env m) (rho env s) (rho env x)) w fun w=>K undef ds w
 | .range t x=>runW P (.one (.cell .ptr)) (Instr.range t (rho env x)) w fun v w=>K v ds w
 | .next it isStr=>runN P (match isStr with | true=>[.cell (.int .i64),.cell (.int .i32)] | false=>[.cell .raw,.cell .raw]) (Instr.next (rho env it) isStr o.type) w fun v w=>K v ds w
 | .call c=>match c.callee with
  | .value (.func f)=>if okCall P f then callR P pk (rshOf P o.type) f (valsL env c.args.toList) w fun v w=>K v ds w else if isExt P f then extP P f (valsL env c.args.toList) w (fun v w'=>exR (rshOf P o.type) fun u=>v=u∧K u ds w') else False
  | .value x=>callVR P pk (rshOf P o.type) (rho env x) (valsL env c.args.toList) w fun v w=>K v ds w
  | .invoke r name=>callIR P pk (rshOf P o.type) (rho env r) name (valsL env c.args.toList) w fun v w=>K v ds w
  | .builtin .append=>runW P (.one (.cell .slice)) (Builtin.append_ c.argTypes o.type (valsL env c.args.toList).toArray) w fun v w=>K v ds w
  | .builtin .copy=>runW P (.one (.cell (.int .i64))) (Builtin.copy_ c.argTypes o.type (valsL env c.args.toList).toArray) w fun v w=>K v ds w
  | .builtin .delete=>runW P (.tup []) (Builtin.delete_ c.argTypes o.type (valsL env c.args.toList).toArray) w fun v w=>K v ds w
  | .builtin .clear=>runW P (.tup []) (Builtin.clear_ c.argTypes o.type (valsL env c.args.toList).toArray) w fun v w=>K v ds w
  | .builtin .unsafeString=>runW P (.one (.cell .str)) (Builtin.unsafeString_ c.argTypes o.type (valsL env c.args.toList).toArray) w fun v w=>K v ds w
  | _=>False
 | .defer c=>match c.callee with
  | .value (.func f)=>K undef ({ target:=.fn (.func f) #[],args:=(valsL env c.args.toList).toArray }::ds) w
  | .value x=>match rho env x with
   | .func fn first cap=>K undef ({ target:=.fn fn cap,args:=(first.toList++valsL env c.args.toList).toArray }::ds) w
   | _=>False
  | _=>False
 | .panic x=>panicStep pk (rho env x) w
 | _=>False
def opStep (P:Program) (pk:Pk) (st:St) (o:Oper) (w:World) (K:Value→List Deferred→World→Prop):Prop :=
 match kindOf P o.op with
 | 0=>pureStep P st.env o.op o.type fun v=>K v st.ds w
 | 1=>stillStep P st.env o w fun v=>K v st.ds w
 | _=>effStep P pk st.env o st.ds w K
def putS (st:St) (d:Option Tmp) (v:Value):St :=
 match d with
 | none=>st
 | some i=>{ st with env:=(i,v)::st.env }
def dstOk (n:Nat) (d:Option Tmp):Bool :=
 match d with
 | none=>true
 | some i=>Nat.blt i n
def guardB (want b:Bool):Bool :=
 match want with
 | true=>b
 | false=>!b
abbrev Pend:=List (Nat × (World→Prop))
def withP:Pend→World→Prop→Prop
 | [],_,R=>R
 | p::l,w,R=>p.2 w∧withP l w R
def bit (m i:Nat):Bool:=Nat.beq (Nat.land (Nat.shiftRight m i) 1) 1
def keepP (bef:Nat):Pend→Pend
 | []=>[]
 | p::l=>match bit bef p.1 with
  | true=>keepP bef l
  | false=>p::keepP bef l
def addP (dr:Bool) (i:Nat) (X:World→Prop) (pd:Pend):Pend :=
 match dr with
 | true=>(i,X)::pd
 | false=>pd
def runO (P:Program) (pk:Pk) (dr:Bool) (befs:List Nat) (i:Nat) (o:Oper) (pd:Pend) (st:St) (w:World) (rec:Pend→St→World→Prop):Prop :=
 match kindOf P o.op with
 | 0=>opStep P pk st o w fun v ds w=>rec pd (putS { st with ds:=ds } o.dst v) w
 | 1=>opStep P pk st o w fun v ds w=>rec (addP dr i (fun w'=>opStep P pk st o w' fun u _ _=>u=v) pd) (putS { st with ds:=ds } o.dst v) w
 | _=>opStep P pk st o w fun v ds w=>withP (keepP (befs.getD i 0) pd) w (rec (keepP (befs.getD i 0) pd) (putS { st with ds:=ds } o.dst v) w)
def runL (P:Program) (pk:Pk) (n:Nat) (ops:List Oper) (dr:Bool) (befs:List Nat):List Nat→Pend→St→World→(St→World→Prop)→Prop
 | [],_,st,w,K=>K st w
 | i::is,pd,st,w,K =>
  match ops[i]? with
  | none=>False
  | some o =>
   match dstOk n o.dst with
   | false=>False
   | true =>
    match o.guard with
    | none=>match knownAll st.env (opsL o.op) with
          | true=>runO P pk dr befs i o pd st w fun pd st w=>runL P pk n ops dr befs is pd st w K
          | false=>False
    | some (j,want) =>
          match ops[j]? with
          | none=>False
          | some oj=>match oj.dst with
           | none=>False
           | some t=>match Env.get st.env t with
            | some (.bool b) =>
            Sif (guardB want b)
             (match knownAll ((t,.bool want)::st.env) (opsL o.op) with
             | true=>runO P pk dr befs i o pd { st with env:=(t,.bool want)::st.env } w fun pd st w=>runL P pk n ops dr befs is pd st w K
             | false=>False)
             (runL P pk n ops dr befs is pd (putS { st with env:=(t,.bool (!want))::st.env } o.dst undef) w K)
            | some (.tuple _)=>runL P pk n ops dr befs is pd (putS st o.dst undef) w K
            | _=>False
def stepL (P:Program) (pk:Pk) (n:Nat) (ops:List Oper) (dr:Bool) (befs:List Nat) (i:Nat) (rec:Pend→St→World→Prop) (pd:Pend) (st:St) (w:World):Prop :=
 match ops[i]? with
 | none=>False
 | some o =>
  match dstOk n o.dst with
  | false=>False
  | true =>
   match o.guard with
   | none=>match knownAll st.env (opsL o.op) with
    | true=>runO P pk dr befs i o pd st w rec
    | false=>False
   | some (j,want) =>
    match ops[j]? with
    | none=>False
    | some oj=>match oj.dst with
     | none=>False
     | some t=>match Env.get st.env t with
      | some (.bool b) =>
           Sif (guardB want b)
            (match knownAll ((t,.bool want)::st.env) (opsL o.op) with
            | true=>runO P pk dr befs i o pd { st with env:=(t,.bool want)::st.env } w rec
            | false=>False)
            (rec pd (putS { st with env:=(t,.bool (!want))::st.env } o.dst undef) w)
      | some (.tuple _)=>rec pd (putS st o.dst undef) w
      | _=>False
inductive OT where
 | nil
 | op (i:Nat) (t:OT)
 | alt (a b:OT)
def runT (P:Program) (pk:Pk) (n:Nat) (ops:List Oper) (befs:List Nat) (K:St→World→Prop):OT→Pend→St→World→Prop
 | .nil,_,st,w=>K st w
 | .op i t,pd,st,w=>stepL P pk n ops true befs i (runT P pk n ops befs K t) pd st w
 | .alt a b,pd,st,w=>runT P pk n ops befs K a pd st w∧runT P pk n ops befs K b pd st w
def OT.len:OT→Nat
 | .nil=>0
 | .op _ t=>t.len+1
 | .alt a b=>Nat.max a.len b.len
def OT.heads:OT→List Nat
 | .nil=>[]
 | .op i _=>[i]
 | .alt a b=>a.heads++b.heads
def depM:List Edge→Nat
 | []=>0
 | e::l=>match Region.binds .any e with
  | true=>Nat.lor (Nat.shiftLeft 1 e.on) (depM l)
  | false=>depM l
def befM (acc:List Nat):List Edge→Nat
 | []=>0
 | e::l=>match Region.binds .any e with
  | true=>Nat.lor (Nat.shiftLeft 1 e.on) (Nat.lor (acc.getD e.on 0) (befM acc l))
  | false=>befM acc l
def befL:List Oper→List Nat→List Nat
 | [],acc=>acc
 | o::l,acc=>befL l (acc++[befM acc o.after.toList])
def sub (a b:Nat):Bool:=Nat.beq (Nat.land a b) a
def allLt (n:Nat) (f:Nat→Bool):Bool :=
 match n with
 | 0=>true
 | n+1=>match f n with
  | true=>allLt n f
  | false=>false
def kindAt (P:Program) (ops:List Oper) (i:Nat):Nat :=
 match ops[i]? with
 | some o=>kindOf P o.op
 | none=>0
def depAt (deps:List Nat) (i:Nat):Nat:=deps.getD i 0
def readyM (deps:List Nat) (L i:Nat):Bool:=match bit L i with
 | true=>false
 | false=>sub (depAt deps i) L
def apartAll (ops:Array Oper) (deps:List Nat) (l:List Oper):Bool :=
 allLt l.length fun i=>allLt l.length fun j=>match Nat.beq i j with
  | true=>true
  | false=>match bit (depAt deps j) i with
   | true=>true
   | false=>match bit (depAt deps i) j with
    | true=>true
    | false=>match l[i]?,l[j]? with
     | some x,some y=>x.apart ops y
     | _,_=>false
def stepM (P:Program) (ops:List Oper) (deps:List Nat) (L i:Nat):Bool :=
 match Nat.blt i ops.length with
 | false=>false
 | true=>match readyM deps L i with
  | false=>false
  | true=>match kindAt P ops i with
   | 0=>true
   | 1=>true
   | _=>allLt ops.length fun j=>match Nat.beq i j with
    | true=>true
    | false=>!(readyM deps L j)
def orderM (P:Program) (ops:List Oper) (deps:List Nat):List Nat→Nat→Bool
 | [],L=>allLt ops.length fun j=>!(readyM deps L j)
 | i::is,L=>match stepM P ops deps L i with
  | true=>orderM P ops deps is (Nat.lor L (Nat.shiftLeft 1 i))
  | false=>false
def isIn (j:Nat):List Nat→Bool
 | []=>false
 | i::l=>match Nat.beq j i with
  | true=>true
  | false=>isIn j l
def orderT (P:Program) (ops:List Oper) (deps:List Nat):Bool→OT→Nat→Bool
 | false,.nil,L=>allLt ops.length fun j=>!(readyM deps L j)
 | true,.nil,_=>false
 | false,.op i t,L=>match stepM P ops deps L i with
  | true=>orderT P ops deps false t (Nat.lor L (Nat.shiftLeft 1 i))
  | false=>false
 | true,.op i t,L=>match Nat.blt i ops.length with
  | true=>(match readyM deps L i with
   | true=>(match Nat.blt 1 (kindAt P ops i) with
    | true=>orderT P ops deps false t (Nat.lor L (Nat.shiftLeft 1 i))
    | false=>false)
   | false=>false)
  | false=>false
 | false,.alt a b,L=>match allLt ops.length fun j=>(match readyM deps L j with
  | true=>isIn j (a.heads++b.heads)
  | false=>true) with
  | true=>(match orderT P ops deps true a L with
   | true=>orderT P ops deps true b L
   | false=>false)
  | false=>false
 | true,.alt a b,L=>match orderT P ops deps true a L with
  | true=>orderT P ops deps true b L
  | false=>false
def depsL:List Oper→List Nat
 | []=>[]
 | o::l=>depM o.after.toList::depsL l
def drawChk (P:Program) (ops:List Oper) (ord:List Nat):Bool :=
 match P.follows .mixedOrders with
 | false=>false
 | true=>match Region.noSelect ops.toArray with
  | false=>false
  | true=>match Nat.ble ord.length ops.length with
   | false=>false
   | true=>match apartAll ops.toArray (depsL ops) ops with
    | false=>false
    | true=>match ops.all (fun o=>o.after.toList.all fun e=>!(Region.binds .any e) || Nat.blt e.on ops.length) with
     | false=>false
     | true=>orderM P ops (depsL ops) ord 0
def drawChkT (P:Program) (ops:List Oper) (ord:OT):Bool :=
 match P.follows .mixedOrders with
 | false=>false
 | true=>match Region.noSelect ops.toArray with
  | false=>false
  | true=>match Nat.ble ord.len ops.length with
   | false=>false
   | true=>match apartAll ops.toArray (depsL ops) ops with
    | false=>false
    | true=>match ops.all (fun o=>o.after.toList.all fun e=>!(Region.binds .any e) || Nat.blt e.on ops.length) with
     | false=>false
     | true=>orderT P ops (depsL ops) false ord 0
abbrev Cont:=Exit→St→World→Prop
def thenC (next:St→World→Prop) (Q:Cont):Cont
 | .normal,s,w=>next s w
 | e,s,w=>Q e s w
def inBlockC (id:Nat) (Q:Cont):Cont
 | .exit i,s,w=>match Nat.beq i id with
  | true=>Q .normal s w
  | false=>Q (.exit i) s w
 | e,s,w=>Q e s w
def noGotoC (Q:Cont):Cont
 | .goto _,_,_=>False
 | e,s,w=>Q e s w
def dsts:List Oper→List Nat
 | []=>[]
 | o::l=>match o.dst with
  | some d=>d::dsts l
  | none=>dsts l
def written:Code→List Nat
 | .region _ ops _=>dsts ops.toList
 | .seq a b=>written a++written b
 | .cond _ a b=>written a++written b
 | .block _ a=>written a
 | .loop a=>written a
 | .scope a=>written a
 | _=>[]
def noDefer:Code→Bool
 | .region _ ops _=>ops.toList.all fun o=>match o.op with | .defer _=>false | _=>true
 | .seq a b=>noDefer a && noDefer b
 | .cond _ a b=>noDefer a && noDefer b
 | .block _ a=>noDefer a
 | .loop a=>noDefer a
 | .scope a=>noDefer a
 | .rangeFunc _ _ _ _=>false
 | _=>true
def memN:Nat→List Nat→Bool
 | _,[]=>false
 | i,j::l=>match Nat.beq i j with
  | true=>true
  | false=>memN i l
def without (ws:List Nat):Env→Env
 | []=>[]
 | (i,v)::r=>match memN i ws with
  | true=>without ws r
  | false=>(i,v)::without ws r
def JT:List Sh→Type
 | []=>World→Prop
 | .bool::l=>Bool→JT l
 | .int _::l=>Int→JT l
 | .str::l=>ByteArray→JT l
 | .ptr::l=>Option Addr→JT l
 | .slice::l=>Option Addr→Nat→Nat→JT l
 | .map::l=>Option Nat→JT l
 | .flt _::l=>Nat→JT l
 | .raw::l=>Value→JT l
def JT.app:(l:List Sh)→JT l→List Value→World→Prop
 | [],J,vs,w=>match vs with
  | []=>J w
  | _::_=>False
 | s::l,J,vs,w=>match vs with
  | []=>False
  | v::r=>match s,J with
   | .bool,J=>match v with
    | .bool b=>JT.app l (J b) r w
    | _=>False
   | .int k,J=>match v with
    | .int k' n=>if k=k' then JT.app l (J n) r w else False
    | _=>False
   | .str,J=>match v with
    | .string x=>JT.app l (J x) r w
    | _=>False
   | .ptr,J=>match v with
    | .pointer p=>JT.app l (J p) r w
    | _=>False
   | .slice,J=>match v with
    | .slice p n c=>JT.app l (J p n c) r w
    | _=>False
   | .map,J=>match v with
    | .map p=>JT.app l (J p) r w
    | _=>False
   | .flt k,J=>match v with
    | .float k' n=>if k=k' then JT.app l (J n) r w else False
    | _=>False
   | .raw,J=>JT.app l (J v) r w
def JT.all:(l:List Sh)→JT l→(List Value→World→Prop)→Prop
 | [],J,K=>∀ w,J w→K [] w
 | s::l,J,K=>match s,J with
  | .bool,J=>∀ b:Bool,JT.all l (J b) fun vs w=>K (.bool b::vs) w
  | .int k,J=>∀ n:Int,JT.all l (J n) fun vs w=>K (.int k n::vs) w
  | .str,J=>∀ x:ByteArray,JT.all l (J x) fun vs w=>K (.string x::vs) w
  | .ptr,J=>∀ p:Option Addr,JT.all l (J p) fun vs w=>K (.pointer p::vs) w
  | .slice,J=>∀ (p:Option Addr) (n c:Nat),JT.all l (J p n c) fun vs w=>K (.slice p n c::vs) w
  | .map,J=>∀ p:Option Nat,JT.all l (J p) fun vs w=>K (.map p::vs) w
  | .flt k,J=>∀ b:Nat,JT.all l (J b) fun vs w=>K (.float k b::vs) w
  | .raw,J=>∀ v:Value,JT.all l (J v) fun vs w=>K (v::vs) w
abbrev Vars:=List (Nat × VSh)
def Vars.shs:Vars→List Sh
 | []=>[]
 | (_,.cell s)::l=>s::Vars.shs l
 | (_,.agg ss)::l=>ss++Vars.shs l
def Vars.vals:Vars→Env→Option (List Value)
 | [],_=>some []
 | (i,.cell _)::l,env=>match Env.get env i with
  | some v=>match Vars.vals l env with
   | some r=>some (v::r)
   | none=>none
  | none=>none
 | (i,.agg ss)::l,env=>match Env.get env i with
  | some (.agg cs)=>match Nat.beq cs.toList.length ss.length with
   | true=>match Vars.vals l env with
    | some r=>some (cs.toList++r)
    | none=>none
   | false=>none
  | _=>none
def Vars.env:Vars→List Value→Env→Env
 | [],_,env=>env
 | (i,.cell _)::l,vs,env=>match vs with
  | v::r=>(i,v)::Vars.env l r env
  | []=>Vars.env l [] env
 | (i,.agg ss)::l,vs,env=>(i,.agg (vs.take ss.length).toArray)::Vars.env l (vs.drop ss.length) env
def Vars.holds (vs:Vars) (J:JT vs.shs) (st:St) (w:World):Prop :=
 match Vars.vals vs st.env with
 | some l=>JT.app vs.shs J l w
 | none=>False
inductive Ann where
 | leaf
 | draw (ord:List Nat)
 | draws (ord:OT)
 | meet (vs:Vars) (a:Ann)
 | two (a b:Ann)
 | loop (vs:Vars) (a:Ann)
 | over (shs:List VSh) (ret:Bool) (ex:List Nat) (x y:Ann)
def objAt (w:World) (r:Nat):Option Obj:=w.heap[r]?
abbrev LoopR:=LoopState→Option Code→Obj
def recAt (w:World) (l:Nat) (rc:LoopR) (s:LoopState) (j:Option Code):Prop:=objAt w l=some (rc s j)
def isLoop (o:Option Obj):Prop:=∃ r:Loop,o=some (.loop r)
def roundC (l:Nat) (rc:LoopR) (K:Value→World→Prop):Cont
 | .normal,_,w=>recAt w l rc .busy none∧K (.bool true) (w.putObj l (rc .ready none))
 | .ret,_,w=>recAt w l rc .busy none∧K (.bool false) (w.putObj l (rc .done (some .ret)))
 | .exit i,_,w=>recAt w l rc .busy none∧K (.bool false) (w.putObj l (rc .done (some (.exit i))))
 | _,_,_=>False
def jumpsC (l:Nat) (rc:LoopR) (Q:Cont) (s:St) (w:World):List Nat→Prop
 | []=>False
 | i::r=>(recAt w l rc .done (some (.exit i))∧Q (.exit i) s (w.putObj l (rc .exhausted (some (.exit i)))))∨jumpsC l rc Q s w r
def retC (l:Nat) (rc:LoopR) (Q:Cont) (s:St) (w:World):Bool→Prop
 | true=>recAt w l rc .done (some .ret)∧Q .ret s (w.putObj l (rc .exhausted (some .ret)))
 | false=>False
def overC (l:Nat) (rc:LoopR) (Q:Cont) (s:St) (w:World) (ret:Bool) (ex:List Nat):Prop :=
 (recAt w l rc .ready none∧Q .normal s (w.putObj l (rc .exhausted none)))∨retC l rc Q s w ret∨jumpsC l rc Q s w ex
def callF (P:Program) (fv:Value) (args:List Value) (w:World) (K:World→Prop):Prop :=
 match fv with
 | .func (.func f) first cap=>okCall P f=true∧callP P f (first.toList++args++cap.toList) w fun _ w'=>K w'
 | _=>False
def isRec (rc:LoopR):Prop:=∀ s j,∃ r:Loop,rc s j=.loop r
def overP (P:Program) (shs:List VSh) (fv:Value) (w:World) (body:Nat→LoopR→List Value→World→(Value→World→Prop)→Prop) (done:Nat→LoopR→World→Prop):Prop :=
 ∀ l:Nat,l=w.heap.size→∀ rc:LoopR,isRec rc →
  (allVs shs fun args=>∀ w' K',recAt w' l rc .ready none→body l rc args w' K'→yieldP P l args w' K') →
  callF P fv [.func (.yield l) #[] #[]] (w.alloc (rc .ready none)) fun w2=>done l rc w2
def zipE:List Nat→List Value→Env→Env
 | t::ts,v::vs,env=>zipE ts vs ((t,v)::env)
 | _,_,env=>env
def roOk (ro:Option Nat) (c:Code):Bool :=
 match ro with
 | none=>true
 | some _=>noDefer c
def wpC (P:Program) (n:Nat):Pk→Option Nat→Ann→Code→Cont→St→World→Prop
 | pk,ro,.meet vs a,c,Q,s,w =>
  match noDefer c with
  | true=>∃ J:JT vs.shs,
   JT.all vs.shs J (fun l w'=>Q .normal { env:=Vars.env vs l (without (written c) s.env),ds:=s.ds } w') ∧
   wpC P n pk ro a c (thenC (fun s' w'=>Vars.holds vs J s' w') Q) s w
  | false=>False
 | pk,ro,.two x y,.seq a b,Q,s,w=>wpC P n pk ro x a (thenC (wpC P n pk ro y b Q) Q) s w
 | pk,ro,.two x y,.cond c a b,Q,s,w=>match evalO s.env c with
  | some (.bool t)=>Sif t (wpC P n pk ro x a Q s w) (wpC P n pk ro y b Q s w)
  | _=>False
 | pk,ro,.two x _,.block id c,Q,s,w=>wpC P n pk ro x c (inBlockC id Q) s w
 | pk,ro,.two x _,.scope c,Q,s,w=>wpC P n pk ro x c (noGotoC Q) s w
 | pk,ro,.loop vs a,.loop c,Q,s,w =>
  match noDefer c with
  | true=>∃ I:Nat→JT vs.shs,(∃ m,Vars.holds vs (I m) s w) ∧
   ∀ m,JT.all vs.shs (I m) fun l w'=>wpC P n pk ro a c (thenC (fun s' w''=>∃ m',m'<m∧Vars.holds vs (I m') s' w'') Q)
    { env:=Vars.env vs l (without (written c) s.env),ds:=s.ds } w'
  | false=>False
 | pk,ro,.leaf,.skip,Q,s,w=>Q .normal s w
 | pk,ro,.leaf,.label _,Q,s,w=>Q .normal s w
 | pk,ro,.leaf,.region id ops draw,Q,s,w =>
  match roOk ro (.region id ops draw) with
  | false=>False
  | true=>match draw with
   | false=>runL P pk n ops.toList false [] (List.range ops.toList.length) [] s w (Q .normal)
   | true=>False
 | pk,ro,.draw ord,.region id ops draw,Q,s,w =>
  match roOk ro (.region id ops draw) with
  | false=>False
  | true=>match draw with
   | false=>False
   | true=>match drawChk P ops.toList ord with
    | true=>runL P pk n ops.toList true (befL ops.toList []) ord [] s w.drew (Q .normal)
    | false=>False
 | pk,ro,.draws ord,.region id ops draw,Q,s,w =>
  match roOk ro (.region id ops draw) with
  | false=>False
  | true=>match draw with
   | false=>False
   | true=>match drawChkT P ops.toList ord with
    | true=>runT P pk n ops.toList (befL ops.toList []) (Q .normal) ord [] s w.drew
    | false=>False
 | _,ro,.over shs ret ex x y,.rangeFunc g ps assign body,Q,s,w =>
  match evalO s.env g with
  | none=>False
  | some gv=>match Nat.beq shs.length ps.toList.length && ps.toList.all (fun t=>Nat.blt t n) with
   | false=>False
   | true=>match ro with
    | none=>overP P shs gv (w.alloc (.deferred (some [])))
     (fun l rc args w' K'=>wpC P n none (some l) x assign
       (thenC (fun s1 w1=>recAt w1 l rc .ready none∧wpC P n none (some l) y body (roundC l rc K') s1 (w1.putObj l (rc .busy none))) fun _ _ _=>False)
       { env:=zipE ps.toList args s.env,ds:=[] } w')
     (fun l rc w2=>overC l rc Q { env:=s.env,ds:={ target:=.collected w.heap.size,args:=#[] }::s.ds } w2 ret ex)
    | some l0=>isLoop (objAt w l0)∧overP P shs gv w
     (fun l rc args w' K'=>wpC P n none (some l) x assign
       (thenC (fun s1 w1=>recAt w1 l rc .ready none∧wpC P n none (some l) y body (roundC l rc K') s1 (w1.putObj l (rc .busy none))) fun _ _ _=>False)
       { env:=zipE ps.toList args s.env,ds:=[] } w')
     (fun l rc w2=>overC l rc Q s w2 ret ex)
 | pk,ro,.leaf,.exit id,Q,s,w=>Q (.exit id) s w
 | pk,ro,.leaf,.ret,Q,s,w=>Q .ret s w
 | _,_,_,_,_,_,_=>False
def envArgs:Nat→List Value→Env
 | _,[]=>[]
 | i,v::l=>(i,v)::envArgs (i+1) l
def callD (P:Program) (f:FuncId) (args:List Value) (w:World) (K:World→Prop):Prop :=
 CallsD P f args.toArray .returning w fun e u w'=>(∃ v,e=.returned v)∧u=.returning∧K w'
def deferStep (P:Program) (d:Deferred) (w:World) (K:World→Prop):Prop :=
 match d.target with
 | .fn (.func f) cap=>match okCall P f with
  | true=>callD P f (d.args.toList++cap.toList) w K
  | false=>False
 | _=>False
def resVals (P:Program) (env:Env) (w:World):List ResultVar→(List Value→Prop)→Prop
 | [],K=>K []
 | .tmp t::l,K=>match Env.get env t with
  | some v=>resVals P env w l fun vs=>K (v::vs)
  | none=>False
 | .cell a t::l,K=>match Env.get env a with
  | some (.pointer p)=>nn p fun a=>if isAggB P t then (match (flatSh P 12 t).length == sizeB P t && (P.info? t).isSome with
   | true=>ldAll w a (flatSh P 12 t) fun cs=>resVals P env w l fun vs=>K (.agg cs.toArray::vs)
   | false=>False) else match P.underlying t with
   | some _=>ld w a (shOf P t) fun v=>resVals P env w l fun vs=>K (v::vs)
   | none=>False
  | _=>False
def takeM (w:World) (r:Nat) (K:World→Prop):Prop:=objAt w r=some (.deferred (some []))∧K (w.putObj r (.deferred none))
def tupV:List Value→Value
 | [v]=>v
 | vs=>.tuple vs.toArray
def finish (P:Program) (fn:Func) (K:Value→World→Prop) (env:Env):List Deferred→World→Prop
 | [],w=>resVals P env w fn.results.toList fun vs=>K (tupV vs) w
 | d::ds,w=>match d.target with
  | .collected r=>takeM w r fun w=>finish P fn K env ds w
  | _=>deferStep P d w fun w=>finish P fn K env ds w
def finishC (P:Program) (fn:Func) (K:Value→World→Prop):Cont
 | .normal,s,w | .ret,s,w=>finish P fn K s.env s.ds w
 | _,_,_=>False
def pkOk (pk:Pk) (c:Code):Bool :=
 match pk with
 | none=>true
 | some _=>noDefer c
def wpF (P:Program) (pk:Pk) (fn:Func) (ann:Ann) (args:List Value) (w:World) (K:Value→World→Prop):Prop :=
 match fn.body with
 | some c=>match Nat.ble args.length fn.ntmps && pkOk pk c with
  | true=>wpC P fn.ntmps pk none ann c (finishC P fn K) { env:=envArgs 0 args,ds:=[] } w
  | false=>False
 | none=>False
end Go.Sv
