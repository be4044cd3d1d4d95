/-
  What a call of each function comes to (definitions 'wp_..', reckoned by a program out of the model's code), and that it is sound ('ok_..'). Written by program (sv.py).
-/
import Derived.Test.YtlfhjkgdlclddaaGreatDoorPx7
import Derived.Test.YtlfhjkgdlclddaaGreatDoorProg
import Derived.KernelRfl
set_option linter.unusedVariables false
set_option linter.unusedSimpArgs false
namespace Go.Proofs.YtlfhjkgdlclddaaGreatDoor
open Go Go.Sv
set_option maxRecDepth 100000
variable {w:World} {K:Value->World->Prop} {KP:List PanicEntry->World->Prop}
theorem sD{out:Option Addr}{outn outc:Nat}{s:ByteArray}(h:∃(I:Nat->Option Addr->Nat->Nat->Int->World->Prop),(∃m,I m out outn outc 0 w)/\∀m p n c n1 w1,I m p n c n1 w1->aS (decide (n1<(↑(ByteArray.size s):Int))) (0<=n1/\n1<(↑(ByteArray.size s):Int)/\bP w1 [.int .u8 (cH s (Int.toNat n1))] 5 λa w2=>∃p1 n2 c1 w3,Sem.run Tryz.prog (Builtin.append_ #[22,22] 22 #[.slice p n c,.slice (some a) 1 1]) w2=Result.ok (.slice p1 n2 c1) w3/\cF (IntKind.wrap .i64 (n1+1)) λn3=>∃m',m'<m/\I m' p1 n2 c1 n3 w3) (K (.slice p n c) w1)):cP 48 [.slice out outn outc,.string s] w K:=fQ Tryz.func48 (T2 L0 (T2 (T2 L0 (T2 (.loop [(0,.cell .slice),(5,.cell (.int .i64))] (T2 (tn 2 L0) (T2 (T2 L0 L0) L0))) L0)) (T2 L0 L0))) (by kernel_rfl) h
end Go.Proofs.YtlfhjkgdlclddaaGreatDoor
