/-
  What a call of each function comes to (definitions 'wp_..', reckoned by a program out of the model's code), and that it is sound ('ok_..'). Written by program (sv.py).
-/
import Derived.Test.YtnacobknngidkaaGreatDoorPy20
import Derived.Test.YtnacobknngidkaaGreatDoorProg
import Derived.KernelRfl
set_option linter.unusedVariables false
set_option linter.unusedSimpArgs false
namespace Go.Proofs.YtnacobknngidkaaGreatDoor
open Go Go.Sv
set_option linter.unusedVariables false
set_option maxRecDepth 100000
def wp_longshorelaw04_live (w:World) (K:Value→World→Prop):Prop :=
 callP Tryz.prog 19 [.string (ByteArray.mk #[(123:UInt8),(115:UInt8),(121:UInt8),(109:UInt8),(98:UInt8),(111:UInt8),(108:UInt8),(32:UInt8),(34:UInt8),(107:UInt8),(34:UInt8),(58:UInt8),(32:UInt8),(91:UInt8),(110:UInt8),(117:UInt8),(108:UInt8),(108:UInt8),(93:UInt8),(44:UInt8),(32:UInt8),(117:UInt8),(105:UInt8),(110:UInt8),(116:UInt8),(32:UInt8),(49:UInt8),(58:UInt8),(32:UInt8),(99:UInt8),(104:UInt8),(97:UInt8),(114:UInt8),(32:UInt8),(54:UInt8),(53:UInt8),(125:UInt8)])] w fun v w1 =>
 ∃ n n1,
 ∃ s p,
 ∃ n2 c,
 ∃ n3 n4 n5,
 v=.tuple #[.agg #[.int .i64 n,.int .u64 n1,.string s,.slice p n2 c,.int .i64 n3],.int .i64 n4,.int .i64 n5] ∧
 newB w1 [.int .i64 0,.int .u64 0,.string (ByteArray.mk #[]),.slice none 0 0,.int .i64 0] 26 fun a w2=>st w2 (a.add 0) (.int .i64 n) fun w3=>st w3 (a.add 1) (.int .u64 n1) fun w4=>st w4 (a.add 2) (.string s) fun w5=>st w5 (a.add 3) (.slice p n2 c) fun w6=>st w6 (a.add 4) (.int .i64 n3) fun w7=>∃ n6,w7.cell? (a.add 0)=some (.int .i64 n6)∧∃ n7,w7.cell? (a.add 1)=some (.int .u64 n7)∧∃ s1,w7.cell? (a.add 2)=some (.string s1)∧∃ p1 n8 c1,w7.cell? (a.add 3)=some (.slice p1 n8 c1)∧∃ n9,w7.cell? (a.add 4)=some (.int .i64 n9)∧callP Tryz.prog 16 [.agg #[.int .i64 n6,.int .u64 n7,.string s1,.slice p1 n8 c1,.int .i64 n9]] w7 fun v1 w8=>∃ s2 n10,v1=.tuple #[.string s2,.int .i64 n10]∧callP Tryz.prog 26 [.string (ByteArray.mk #[(0:UInt8),(34:UInt8)])] w8 fun v2 w9=>∃ s3,v2=.string s3∧callP Tryz.prog 28 [.string (ByteArray.mk #[(34:UInt8),(92:UInt8),(120:UInt8),(52:UInt8),(49:UInt8),(34:UInt8)])] w9 fun v3 w10=>∃ s4 b,v3=.tuple #[.string s4,.bool b]∧Sif (n5 == 0) (Sif (n10 == 0) (Sif (ByteArray.toList s2 == ByteArray.toList (ByteArray.mk #[(123:UInt8),(115:UInt8),(121:UInt8),(109:UInt8),(98:UInt8),(111:UInt8),(108:UInt8),(32:UInt8),(34:UInt8),(107:UInt8),(34:UInt8),(58:UInt8),(32:UInt8),(91:UInt8),(110:UInt8),(117:UInt8),(108:UInt8),(108:UInt8),(93:UInt8),(44:UInt8),(32:UInt8),(117:UInt8),(105:UInt8),(110:UInt8),(116:UInt8),(32:UInt8),(49:UInt8),(58:UInt8),(32:UInt8),(99:UInt8),(104:UInt8),(97:UInt8),(114:UInt8),(32:UInt8),(54:UInt8),(53:UInt8),(125:UInt8)])) (Sif (ByteArray.toList s3 == ByteArray.toList (ByteArray.mk #[(34:UInt8),(92:UInt8),(120:UInt8),(48:UInt8),(48:UInt8),(92:UInt8),(34:UInt8),(34:UInt8)])) (Sif (ByteArray.toList s4 == ByteArray.toList (ByteArray.mk #[(65:UInt8)])) (K (.bool b) w10) (K (.bool false) w10)) (K (.bool false) w10)) (K (.bool false) w10)) (K (.bool false) w10)) (K (.bool false) w10)
theorem ok_longshorelaw04_live {w:World} {K:Value→World→Prop} (hwp:wp_longshorelaw04_live w K):callP Tryz.prog 13 [] w K :=
 calls_of Tryz.func13 ((by kernel_rfl:wpF Tryz.prog none Tryz.f13 (.two .leaf (.two .leaf (.two .leaf (.two .leaf (.two .leaf (.two .leaf .leaf)))))) [] w K=wp_longshorelaw04_live w K).symm▸hwp)
def wp_longshorelaw04_NotePrints (v_0 v_1:Int) (v_2:ByteArray) (v_3:Option Addr) (v_3n v_3c:Nat) (v_4:Int) (w:World) (K:Value→World→Prop):Prop :=
 newB w [.int .i64 v_0,.int .u64 v_1,.string v_2,.slice v_3 v_3n v_3c,.int .i64 v_4] 26 fun a w1 =>
 ∃ n,
 w1.cell? (a.add 0)=some (.int .i64 n) ∧
 ∃ n1,
 w1.cell? (a.add 1)=some (.int .u64 n1) ∧
 ∃ s,
 w1.cell? (a.add 2)=some (.string s) ∧
 ∃ p n2 c,
 w1.cell? (a.add 3)=some (.slice p n2 c) ∧
 ∃ n3,
 w1.cell? (a.add 4)=some (.int .i64 n3) ∧
 callP Tryz.prog 14 [.agg #[.int .i64 n,.int .u64 n1,.string s,.slice p n2 c,.int .i64 n3]] w1 fun v w2 =>
 ∃ b,
 v=.bool b ∧
 Sif b (K (.bool true) w2)
 (callP Tryz.prog 13 [] w2 fun v1 w3 =>
 ∃ b1,
 v1=.bool b1 ∧
 ∃ n4,
 w3.cell? (a.add 0)=some (.int .i64 n4) ∧
 ∃ n5,
 w3.cell? (a.add 1)=some (.int .u64 n5) ∧
 ∃ s1,
 w3.cell? (a.add 2)=some (.string s1) ∧
 ∃ p1 n6 c1,
 w3.cell? (a.add 3)=some (.slice p1 n6 c1) ∧
 ∃ n7,
 w3.cell? (a.add 4)=some (.int .i64 n7) ∧
 callP Tryz.prog 15 [.agg #[.int .i64 n4,.int .u64 n5,.string s1,.slice p1 n6 c1,.int .i64 n7]] w3 fun v2 w4 =>
 ∃ n8 n9,
 ∃ s2 p2,
 ∃ n10 c2 n11,
 v2=.agg #[.int .i64 n8,.int .u64 n9,.string s2,.slice p2 n10 c2,.int .i64 n11] ∧
 newB w4 [.int .i64 0,.int .u64 0,.string (ByteArray.mk #[]),.slice none 0 0,.int .i64 0] 26 fun a1 w5 =>
 st w5 (a1.add 0) (.int .i64 n8) fun w6 =>
 st w6 (a1.add 1) (.int .u64 n9) fun w7 =>
 st w7 (a1.add 2) (.string s2) fun w8 =>
 st w8 (a1.add 3) (.slice p2 n10 c2) fun w9 =>
 st w9 (a1.add 4) (.int .i64 n11) fun w10 =>
 ∃ n12,
 w10.cell? (a1.add 0)=some (.int .i64 n12) ∧
 ∃ n13,
 w10.cell? (a1.add 1)=some (.int .u64 n13) ∧
 ∃ s3,
 w10.cell? (a1.add 2)=some (.string s3) ∧
 ∃ p3 n14 c3,w10.cell? (a1.add 3)=some (.slice p3 n14 c3)∧∃ n15,w10.cell? (a1.add 4)=some (.int .i64 n15)∧callP Tryz.prog 16 [.agg #[.int .i64 n12,.int .u64 n13,.string s3,.slice p3 n14 c3,.int .i64 n15]] w10 fun v3 w11=>∃ s4 n16,v3=.tuple #[.string s4,.int .i64 n16]∧∃ n17,w11.cell? (a.add 0)=some (.int .i64 n17)∧∃ n18,w11.cell? (a.add 1)=some (.int .u64 n18)∧∃ s5,w11.cell? (a.add 2)=some (.string s5)∧∃ p4 n19 c4,w11.cell? (a.add 3)=some (.slice p4 n19 c4)∧∃ n20,w11.cell? (a.add 4)=some (.int .i64 n20)∧callP Tryz.prog 17 [.agg #[.int .i64 n17,.int .u64 n18,.string s5,.slice p4 n19 c4,.int .i64 n20]] w11 fun v4 w12=>∃ s6 n21,v4=.tuple #[.string s6,.int .i64 n21]∧∃ n22,w12.cell? (a1.add 0)=some (.int .i64 n22)∧∃ n23,w12.cell? (a1.add 1)=some (.int .u64 n23)∧∃ s7,w12.cell? (a1.add 2)=some (.string s7)∧∃ p5 n24 c5,w12.cell? (a1.add 3)=some (.slice p5 n24 c5)∧∃ n25,w12.cell? (a1.add 4)=some (.int .i64 n25)∧∃ n26,w12.cell? (a.add 0)=some (.int .i64 n26)∧∃ n27,w12.cell? (a.add 1)=some (.int .u64 n27)∧∃ s8,w12.cell? (a.add 2)=some (.string s8)∧∃ p6 n28 c6,w12.cell? (a.add 3)=some (.slice p6 n28 c6)∧∃ n29,w12.cell? (a.add 4)=some (.int .i64 n29)∧callP Tryz.prog 18 [.agg #[.int .i64 n22,.int .u64 n23,.string s7,.slice p5 n24 c5,.int .i64 n25],.agg #[.int .i64 n26,.int .u64 n27,.string s8,.slice p6 n28 c6,.int .i64 n29]] w12 fun v5 w13=>∃ b2,v5=.bool b2∧Sif b1 (Sif (ByteArray.toList s4 == ByteArray.toList s6) (Sif (n16 == n21) (K (.bool b2) w13) (K (.bool false) w13)) (K (.bool false) w13)) (K (.bool false) w13))
theorem ok_longshorelaw04_NotePrints {v_0 v_1:Int} {v_2:ByteArray} {v_3:Option Addr} {v_3n v_3c:Nat} {v_4:Int} {w:World} {K:Value→World→Prop} (hwp:wp_longshorelaw04_NotePrints v_0 v_1 v_2 v_3 v_3n v_3c v_4 w K):callP Tryz.prog 4 [.agg #[.int .i64 v_0,.int .u64 v_1,.string v_2,.slice v_3 v_3n v_3c,.int .i64 v_4]] w K :=
 calls_of Tryz.func4 ((by kernel_rfl:wpF Tryz.prog none Tryz.f4 (.two .leaf (.two .leaf (.two (.two .leaf (.two (.two .leaf .leaf) .leaf)) (.two .leaf (.two .leaf (.two .leaf (.two .leaf (.two .leaf (.two .leaf .leaf))))))))) [Value.agg #[Value.int .i64 v_0,Value.int .u64 v_1,Value.string v_2,Value.slice v_3 v_3n v_3c,Value.int .i64 v_4]] w K=wp_longshorelaw04_NotePrints v_0 v_1 v_2 v_3 v_3n v_3c v_4 w K).symm▸hwp)
end Go.Proofs.YtnacobknngidkaaGreatDoor
