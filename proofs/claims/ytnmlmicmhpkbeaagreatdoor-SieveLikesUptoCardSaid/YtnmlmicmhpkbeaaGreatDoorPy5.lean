/-
  What a call of each function comes to (definitions 'wp_..', reckoned by a program out of the model's code), and that it is sound ('ok_..'). Written by program (sv.py).
-/
import Derived.Test.YtnmlmicmhpkbeaaGreatDoorPy4
import Derived.Test.YtnmlmicmhpkbeaaGreatDoorProg
import Derived.KernelRfl
set_option linter.unusedVariables false
set_option linter.unusedSimpArgs false
namespace Go.Proofs.YtnmlmicmhpkbeaaGreatDoor
open Go Go.Sv
set_option linter.unusedVariables false
set_option maxRecDepth 100000
variable {w:World} {K:Value→World→Prop} {KP:List PanicEntry→World→Prop}
theorem ok_longshoreref01_Character {s:ByteArray} {at_:Int} (h:cP 146 [.string s,ii at_,ii 0,ii 127] w fun v w1=>∃ b,v=.bool b∧Sif b (K (ii 1) w1) (cP 147 [.string s,ii at_,ii 194,ii 223,ii 128,ii 191,ii 0] w1 fun v1 w2=>∃ b1,v1=.bool b1∧Sif b1 (K (ii 2) w2) (cP 147 [.string s,ii at_,ii 224,ii 224,ii 160,ii 191,ii 1] w2 fun v2 w3=>∃ b2,v2=.bool b2∧cP 147 [.string s,ii at_,ii 225,ii 236,ii 128,ii 191,ii 1] w3 fun v3 w4=>∃ b3,v3=.bool b3∧cP 147 [.string s,ii at_,ii 237,ii 237,ii 128,ii 159,ii 1] w4 fun v4 w5=>∃ b4,v4=.bool b4∧cP 147 [.string s,ii at_,ii 238,ii 239,ii 128,ii 191,ii 1] w5 fun v5 w6=>∃ b5,v5=.bool b5∧∃ (J:World→Prop),(∀ w7,J w7→cP 147 [.string s,ii at_,ii 240,ii 240,ii 144,ii 191,ii 2] w7 fun v6 w8=>∃ b6,v6=.bool b6∧cP 147 [.string s,ii at_,ii 241,ii 243,ii 128,ii 191,ii 2] w8 fun v7 w9=>∃ b7,v7=.bool b7∧cP 147 [.string s,ii at_,ii 244,ii 244,ii 128,ii 143,ii 2] w9 fun v8 w10=>∃ b8,v8=.bool b8∧∃ (J1:World→Prop),(∀ w11,J1 w11→K (ii 0) w11)∧Sif (!b6) (Sif (!b7) (Sif b8 (K (ii 4) w10) (J1 w10)) (K (ii 4) w10)) (K (ii 4) w10))∧Sif (!b2) (Sif (!b3) (Sif (!b4) (Sif b5 (K (ii 3) w6) (J w6)) (K (ii 3) w6)) (K (ii 3) w6)) (K (ii 3) w6)))):cP 95 [.string s,ii at_] w K:=mkP Tryz.func95 (tn 2 (T2 (T2 L0 (T2 (T2 L0 L0) L0)) (T2 L0 (T2 (T2 L0 (T2 (T2 L0 L0) L0)) (tn 4 (T2 (.meet [] (T2 L0 (T2 (T2 L0 L0) L0))) (tn 3 (T2 (.meet [] (T2 L0 (T2 (T2 L0 L0) L0))) (T2 L0 L0))))))))) (by kernel_rfl) h
theorem ok_longshoreref01_within {s:ByteArray} {at_ from_ to:Int} (h:Sif (decide (at_≥0)) (Sif (decide (at_<(↑(ByteArray.size s):Int))) (0≤at_∧at_<(↑(ByteArray.size s):Int)∧Sif (decide (IntKind.wrap .i64 (byteAt s (Int.toNat at_))≥from_)) (0≤at_∧at_<(↑(ByteArray.size s):Int)∧K (.bool (decide (IntKind.wrap .i64 (byteAt s (Int.toNat at_))≤to))) w) (K (.bool false) w)) (K (.bool false) w)) (K (.bool false) w)):cP 146 [.string s,ii at_,ii from_,ii to] w K:=mkP Tryz.func146 (tn 2 L0) (by kernel_rfl) h
theorem ok_longshoreref01_pair {s:ByteArray} {at_ a b c d more:Int} (h:cP 146 [.string s,ii at_,ii a,ii b] w fun v w1=>∃ b1,v=.bool b1∧cP 146 [.string s,ii (IntKind.wrap .i64 (at_+1)),ii c,ii d] w1 fun v1 w2=>∃ b2,v1=.bool b2∧cP 188 [.string s,ii (IntKind.wrap .i64 (at_+2)),ii more] w2 fun v2 w3=>∃ b3,v2=.bool b3∧Sif b1 (Sif b2 (K (.bool b3) w3) (K (.bool false) w3)) (K (.bool false) w3)):cP 147 [.string s,ii at_,ii a,ii b,ii c,ii d,ii more] w K:=mkP Tryz.func147 (tn 5 L0) (by kernel_rfl) h
theorem ok_longshoreref01_tail {s:ByteArray} {at_ n:Int} (h:∃ (I:Nat→Int→World→Prop),(∃ m,I m 0 w)∧∀ m n1 w1,I m n1 w1→Sif (decide (n1<n)) (cP 146 [.string s,ii (IntKind.wrap .i64 (at_+n1)),ii 128,ii 191] w1 fun v w2=>∃ b,v=.bool b∧Sif (!b) (K (.bool false) w2) (nameI (IntKind.wrap .i64 (n1+1)) fun n2=>∃ m',m'<m∧I m' n2 w2)) (K (.bool true) w1)):cP 188 [.string s,ii at_,ii n] w K:=mkP Tryz.func188 (T2 L0 (T2 (T2 L0 (T2 (.loop [(7,.cell (.int .i64))] (T2 (tn 2 L0) (T2 (T2 (tn 2 (T2 (T2 L0 L0) L0)) L0) L0))) L0)) (T2 L0 L0))) (by kernel_rfl) h
end Go.Proofs.YtnmlmicmhpkbeaaGreatDoor
