/-
  What a call of each function comes to (definitions 'wp_..', reckoned by a program out of the model's code), and that it is sound ('ok_..'). Written by program (sv.py).
-/
import Derived.Test.YtnmlmicmhpkbeaaGreatDoorPz4
import Derived.Test.YtnmlmicmhpkbeaaGreatDoorProg
import Derived.KernelRfl
set_option linter.unusedVariables false
set_option linter.unusedSimpArgs false
namespace Go.Proofs.YtnmlmicmhpkbeaaGreatDoor
open Go Go.Sv
set_option linter.unusedVariables false
set_option maxRecDepth 100000
variable {w:World} {K:Value→World→Prop} {KP:List PanicEntry→World→Prop}
theorem ok_octet_Utf8 {s:ByteArray} (h:∃ (I:Nat→Int→World→Prop),(∃ m,I m 0 w)∧∀ m n w1,I m n w1→Sif (decide (n<(↑(ByteArray.size s):Int))) (0≤n∧n≤(↑(ByteArray.size s):Int)∧cP 131 [.string (ByteArray.extract s (Int.toNat n) (ByteArray.size s))] w1 fun v w2=>∃ n1 n2,v=.tuple #[.int .i32 n1,ii n2]∧∃ (J:World→Prop),(∀ w3,J w3→nameI (IntKind.wrap .i64 (n+n2)) fun n3=>∃ m',m'<m∧I m' n3 w3)∧Sif (n1 == 65533) (Sif (n2 == 1) (K (ii n) w2) (J w2)) (J w2)) (K (ii (-1)) w1)):cP 86 [.string s] w K:=mkP Tryz.func86 (T2 L0 (T2 (T2 L0 (T2 (.loop [(3,.cell (.int .i64))] (T2 (tn 2 L0) (T2 (T2 L0 (T2 (.meet [] (T2 L0 (T2 (T2 L0 L0) L0))) L0)) L0))) L0)) (T2 L0 L0))) (by kernel_rfl) h
theorem ok_octet_Ascii {s:ByteArray} (h:∃ (I:Nat→Int→World→Prop),(∃ m,I m 0 w)∧∀ m n w1,I m n w1→Sif (decide (n<(↑(ByteArray.size s):Int))) (0≤n∧n<(↑(ByteArray.size s):Int)∧Sif (decide (byteAt s (Int.toNat n)≥128)) (K (ii n) w1) (∃ m',m'<m∧I m' (IntKind.wrap .i64 (n+1)) w1)) (K (ii (-1)) w1)):cP 217 [.string s] w K:=mkP Tryz.func217 (T2 L0 (T2 (T2 L0 (T2 (.loop [(6,.cell (.int .i64))] (T2 L0 (T2 (T2 L0 L0) (T2 (T2 (tn 2 (T2 (T2 L0 L0) L0)) L0) L0)))) L0)) (T2 L0 L0))) (by kernel_rfl) h
end Go.Proofs.YtnmlmicmhpkbeaaGreatDoor
