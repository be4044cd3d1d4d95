/-
  Short words for printed texts: runs of a reading plan; a function's text and its soundness in one law.
-/
import Derived.Test.YtnmlmicmhpkbeaaGreatDoorPy1
import Derived.Test.YtnmlmicmhpkbeaaGreatDoorProg
import Derived.KernelRfl
set_option linter.unusedVariables false
set_option linter.unusedSimpArgs false
namespace Go.Sv
open Go
def tn:Nat→Ann→Ann
 | 0,a=>a
 | n+1,a=>.two .leaf (tn n a)
abbrev L0:=Ann.leaf
abbrev T2:=Ann.two
theorem mkP {P:Program} {f:FuncId} {fn:Func} {args:List Value} {w:World} {K:Value→World→Prop} {X:Prop} (hf:P.funcs[f]?=some fn) (a:Ann) (e:wpF P none fn a args w K=X) (h:X):callP P f args w K:=calls_of (ann:=a) hf (e.symm▸h)
theorem mkX {P:Program} {f:FuncId} {fn:Func} {args:List Value} {w:World} {K:Value→World→Prop} {KP:List PanicEntry→World→Prop} {X:Prop} (hf:P.funcs[f]?=some fn) (a:Ann) (e:wpF P (some KP) fn a args w K=X) (h:X):callX P f args w K KP:=callsX_of (ann:=a) hf (e.symm▸h)
abbrev ii (n:Int):Value:=.int .i64 n
abbrev ci (w:World) (a:Addr) (n:Int):Prop:=w.cell? a=some (.int .i64 n)
abbrev cs (w:World) (a:Addr) (p:Option Addr) (n c:Nat):Prop:=w.cell? a=some (.slice p n c)
abbrev ct (w:World) (a:Addr) (s:ByteArray):Prop:=w.cell? a=some (.string s)
abbrev cu (w:World) (a:Addr) (n:Int):Prop:=w.cell? a=some (.int .u64 n)
abbrev cb (w:World) (a:Addr) (n:Int):Prop:=w.cell? a=some (.int .u8 n)
end Go.Sv
namespace Go.Proofs.YtnmlmicmhpkbeaaGreatDoor
open Go Go.Sv
abbrev cP:=callP Tryz.prog
abbrev cX:=callX Tryz.prog
end Go.Proofs.YtnmlmicmhpkbeaaGreatDoor
