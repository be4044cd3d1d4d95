/-
  What a call of each function comes to (definitions 'wp_..', reckoned by a program out of the model's code), and that it is sound ('ok_..'). Written by program (sv.py).
-/
import Derived.Test.YtnmlmicmhpkbeaaGreatDoorPy12
import Derived.Test.YtnmlmicmhpkbeaaGreatDoorProg
import Derived.KernelRfl
set_option linter.unusedVariables false
set_option linter.unusedSimpArgs false
namespace Go.Proofs.YtnmlmicmhpkbeaaGreatDoor
open Go Go.Sv
set_option linter.unusedVariables false
set_option maxRecDepth 100000
variable {w:World} {K:Value→World→Prop} {KP:List PanicEntry→World→Prop}
theorem ok_longshoreref16_signs {s:ByteArray} (h:∃ (I:Nat→Option Addr→Nat→Nat→Int→World→Prop),(∃ m,I m none 0 0 0 w)∧∀ m p n c n1 w1,I m p n c n1 w1→Sif (decide (n1<(↑(ByteArray.size s):Int))) (cP 95 [.string s,ii n1] w1 fun v w2=>∃ n2,v=.int .i64 n2∧∃ (J:Int→World→Prop),(∀ n3 w3,J n3 w3→0≤IntKind.wrap .i64 (n1+n3)∧IntKind.wrap .i64 (n1+n3)≤(↑(ByteArray.size s):Int)∧0≤n1∧n1≤IntKind.wrap .i64 (n1+n3)∧newB w3 [.string (ByteArray.extract s (Int.toNat n1) (Int.toNat (IntKind.wrap .i64 (n1+n3))))] 9 fun a w4=>∃ p1 n4 c1 w5,Sem.run Tryz.prog (Builtin.append_ #[41,41] 41 #[.slice p n c,.slice (some a) 1 1]) w4=Result.ok (.slice p1 n4 c1) w5∧nameI (IntKind.wrap .i64 (n1+n3)) fun n5=>∃ m',m'<m∧I m' p1 n4 c1 n5 w5)∧Sif (decide (n2<1)) (J 1 w2) (J n2 w2)) (K (.slice p n c) w1)):cP 104 [.string s] w K:=mkP Tryz.func104 (tn 3 (T2 (T2 (.loop [(3,.cell .slice),(4,.cell (.int .i64))] (T2 (tn 2 L0) (T2 (T2 L0 (T2 (.meet [(5,.cell (.int .i64))] (tn 2 L0)) (T2 L0 L0))) L0))) L0) (T2 L0 L0))) (by kernel_rfl) h
end Go.Proofs.YtnmlmicmhpkbeaaGreatDoor
