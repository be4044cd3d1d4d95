/-
  What a call of each function comes to (definitions 'wp_..', reckoned by a program out of the model's code), and that it is sound ('ok_..'). Written by program (sv.py).
-/
import Derived.Test.YtlfhjkgdlclddaaGreatDoorPx28
import Derived.Test.YtlfhjkgdlclddaaGreatDoorProg
import Derived.KernelRfl
set_option linter.unusedVariables false
set_option linter.unusedSimpArgs false
namespace Go.Proofs.YtlfhjkgdlclddaaGreatDoor
open Go Go.Sv
set_option maxRecDepth 100000
variable {w:World} {K:Value->World->Prop} {KP:List PanicEntry->World->Prop}
theorem qY{f_0 f_1:Int}{f_2:Option Addr}{f_2n f_2c:Nat}{f_3:Option Addr}{f_3n f_3c:Nat}{g_0 g_1:Int}{g_2:Option Addr}{g_2n g_2c:Nat}{g_3:Option Addr}{g_3n g_3c:Nat}(h:bP w [ii f_0,ii f_1,.slice f_2 f_2n f_2c,.slice f_3 f_3n f_3c] 24 λa w1=>bP w1 [ii g_0,ii g_1,.slice g_2 g_2n g_2c,.slice g_3 g_3n g_3c] 24 λa1 w2=>∃n,ci w2 (a.add 0) n/\∃n1,ci w2 (a1.add 0) n1/\aS (n == n1) (∃n2,ci w2 (a.add 1) n2/\∃n3,ci w2 (a1.add 1) n3/\aS (n2 == n3) (∃p n4 c,cs w2 (a.add 2) p n4 c/\∃s,Sem.run Tryz.prog (convert 22 9 (.slice p n4 c)) w2=Result.ok (.string s) w2/\∃p1 n5 c1,cs w2 (a1.add 2) p1 n5 c1/\∃s1,Sem.run Tryz.prog (convert 22 9 (.slice p1 n5 c1)) w2=Result.ok (.string s1) w2/\aS (ByteArray.toList s == ByteArray.toList s1) (∃p2 n6 c2,cs w2 (a.add 3) p2 n6 c2/\∃s2,Sem.run Tryz.prog (convert 22 9 (.slice p2 n6 c2)) w2=Result.ok (.string s2) w2/\∃p3 n7 c3,cs w2 (a1.add 3) p3 n7 c3/\∃s3,Sem.run Tryz.prog (convert 22 9 (.slice p3 n7 c3)) w2=Result.ok (.string s3) w2/\K (.bool (ByteArray.toList s2 == ByteArray.toList s3)) w2) (K (.bool false) w2)) (K (.bool false) w2)) (K (.bool false) w2)):cP 19 [.agg #[ii f_0,ii f_1,.slice f_2 f_2n f_2c,.slice f_3 f_3n f_3c],.agg #[ii g_0,ii g_1,.slice g_2 g_2n g_2c,.slice g_3 g_3n g_3c]] w K:=fQ Tryz.func19 (tn 2 L0) (by kernel_rfl) h
end Go.Proofs.YtlfhjkgdlclddaaGreatDoor
