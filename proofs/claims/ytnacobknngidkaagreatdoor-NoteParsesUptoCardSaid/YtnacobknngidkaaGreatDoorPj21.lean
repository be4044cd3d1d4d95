/-
  What a call of each function comes to (definitions 'wp_..', reckoned by a program out of the model's code), and that it is sound ('ok_..'). Written by program (sv.py).
-/
import Derived.Test.YtnacobknngidkaaGreatDoorPj20
import Derived.Test.YtnacobknngidkaaGreatDoorProg
import Derived.KernelRfl
set_option linter.unusedVariables false
set_option linter.unusedSimpArgs false
namespace Go.Proofs.YtnacobknngidkaaGreatDoor
open Go Go.Sv
set_option linter.unusedVariables false
set_option maxRecDepth 100000
def wp_longshorelaw04_live (w:World) (K:Value→World→Prop):Prop :=
 callP Tryz.prog 19 [.string (ByteArray.mk #[(123:UInt8),(115:UInt8),(121:UInt8),(109:UInt8),(98:UInt8),(111:UInt8),(108:UInt8),(32:UInt8),(34:UInt8),(107:UInt8),(34:UInt8),(58:UInt8),(32:UInt8),(91:UInt8),(110:UInt8),(117:UInt8),(108:UInt8),(108:UInt8),(93:UInt8),(44:UInt8),(32:UInt8),(117:UInt8),(105:UInt8),(110:UInt8),(116:UInt8),(32:UInt8),(49:UInt8),(58:UInt8),(32:UInt8),(99:UInt8),(104:UInt8),(97:UInt8),(114:UInt8),(32:UInt8),(54:UInt8),(53:UInt8),(125:UInt8)])] w fun v w1 =>
 ∃ n n1,
 ∃ s p,
 ∃ n2 c,
 ∃ n3 n4 n5,
 v=.tuple #[.agg #[.int .i64 n,.int .u64 n1,.string s,.slice p n2 c,.int .i64 n3],.int .i64 n4,.int .i64 n5] ∧
 newB w1 [.int .i64 0,.int .u64 0,.string (ByteArray.mk #[]),.slice none 0 0,.int .i64 0] 26 fun a w2=>st w2 (a.add 0) (.int .i64 n) fun w3=>st w3 (a.add 1) (.int .u64 n1) fun w4=>st w4 (a.add 2) (.string s) fun w5=>st w5 (a.add 3) (.slice p n2 c) fun w6=>st w6 (a.add 4) (.int .i64 n3) fun w7=>∃ n6,w7.cell? (a.add 0)=some (.int .i64 n6)∧∃ n7,w7.cell? (a.add 1)=some (.int .u64 n7)∧∃ s1,w7.cell? (a.add 2)=some (.string s1)∧∃ p1 n8 c1,w7.cell? (a.add 3)=some (.slice p1 n8 c1)∧∃ n9,w7.cell? (a.add 4)=some (.int .i64 n9)∧callP Tryz.prog 16 [.agg #[.int .i64 n6,.int .u64 n7,.string s1,.slice p1 n8 c1,.int .i64 n9]] w7 fun v1 w8=>∃ s2 n10,v1=.tuple #[.string s2,.int .i64 n10]∧callP Tryz.prog 26 [.string (ByteArray.mk #[(0:UInt8),(34:UInt8)])] w8 fun v2 w9=>∃ s3,v2=.string s3∧callP Tryz.prog 28 [.string (ByteArray.mk #[(34:UInt8),(92:UInt8),(120:UInt8),(52:UInt8),(49:UInt8),(34:UInt8)])] w9 fun v3 w10=>∃ s4 b,v3=.tuple #[.string s4,.bool b]∧Sif (n5 == 0) (Sif (n10 == 0) (Sif (ByteArray.toList s2 == ByteArray.toList (ByteArray.mk #[(123:UInt8),(115:UInt8),(121:UInt8),(109:UInt8),(98:UInt8),(111:UInt8),(108:UInt8),(32:UInt8),(34:UInt8),(107:UInt8),(34:UInt8),(58:UInt8),(32:UInt8),(91:UInt8),(110:UInt8),(117:UInt8),(108:UInt8),(108:UInt8),(93:UInt8),(44:UInt8),(32:UInt8),(117:UInt8),(105:UInt8),(110:UInt8),(116:UInt8),(32:UInt8),(49:UInt8),(58:UInt8),(32:UInt8),(99:UInt8),(104:UInt8),(97:UInt8),(114:UInt8),(32:UInt8),(54:UInt8),(53:UInt8),(125:UInt8)])) (Sif (ByteArray.toList s3 == ByteArray.toList (ByteArray.mk #[(34:UInt8),(92:UInt8),(120:UInt8),(48:UInt8),(48:UInt8),(92:UInt8),(34:UInt8),(34:UInt8)])) (Sif (ByteArray.toList s4 == ByteArray.toList (ByteArray.mk #[(65:UInt8)])) (K (.bool b) w10) (K (.bool false) w10)) (K (.bool false) w10)) (K (.bool false) w10)) (K (.bool false) w10)) (K (.bool false) w10)
theorem ok_longshorelaw04_live {w:World} {K:Value→World→Prop} (hwp:wp_longshorelaw04_live w K):callP Tryz.prog 13 [] w K :=
 calls_of Tryz.func13 ((by kernel_rfl:wpF Tryz.prog none Tryz.f13 (.two .leaf (.two .leaf (.two .leaf (.two .leaf (.two .leaf (.two .leaf .leaf)))))) [] w K=wp_longshorelaw04_live w K).symm▸hwp)
def wp_longshorelaw04_NoteParses (text:ByteArray) (w:World) (K:Value→World→Prop):Prop :=
 callP Tryz.prog 13 [] w fun v w1 =>
 ∃ b,
 v=.bool b ∧
 callP Tryz.prog 19 [.string text] w1 fun v1 w2 =>
 ∃ n n1,
 ∃ s p,
 ∃ n2 c,
 ∃ n3 n4 n5,
 v1=.tuple #[.agg #[.int .i64 n,.int .u64 n1,.string s,.slice p n2 c,.int .i64 n3],.int .i64 n4,.int .i64 n5] ∧
 newB w2 [.int .i64 0,.int .u64 0,.string (ByteArray.mk #[]),.slice none 0 0,.int .i64 0] 26 fun a w3 =>
 st w3 (a.add 0) (.int .i64 n) fun w4 =>
 st w4 (a.add 1) (.int .u64 n1) fun w5 =>
 st w5 (a.add 2) (.string s) fun w6 =>
 st w6 (a.add 3) (.slice p n2 c) fun w7 =>
 st w7 (a.add 4) (.int .i64 n3) fun w8 =>
 callP Tryz.prog 20 [.string text] w8 fun v2 w9 =>
 ∃ n6 n7,
 ∃ s1 p1,
 ∃ n8 c1,
 ∃ n9 n10 n11,
 v2=.tuple #[.agg #[.int .i64 n6,.int .u64 n7,.string s1,.slice p1 n8 c1,.int .i64 n9],.int .i64 n10,.int .i64 n11] ∧
 newB w9 [.int .i64 0,.int .u64 0,.string (ByteArray.mk #[]),.slice none 0 0,.int .i64 0] 26 fun a1 w10 =>
 st w10 (a1.add 0) (.int .i64 n6) fun w11 =>
 st w11 (a1.add 1) (.int .u64 n7) fun w12 =>
 st w12 (a1.add 2) (.string s1) fun w13 =>
 st w13 (a1.add 3) (.slice p1 n8 c1) fun w14 =>
 st w14 (a1.add 4) (.int .i64 n9) fun w15 =>
 ∃ n12,
 w15.cell? (a.add 0)=some (.int .i64 n12) ∧
 ∃ n13,
 w15.cell? (a.add 1)=some (.int .u64 n13) ∧
 ∃ s2,
 w15.cell? (a.add 2)=some (.string s2) ∧
 ∃ p2 n14 c2,
 w15.cell? (a.add 3)=some (.slice p2 n14 c2) ∧
 ∃ n15,
 w15.cell? (a.add 4)=some (.int .i64 n15) ∧
 ∃ n16,
 w15.cell? (a1.add 0)=some (.int .i64 n16) ∧
 ∃ n17,
 w15.cell? (a1.add 1)=some (.int .u64 n17) ∧
 ∃ s3,
 w15.cell? (a1.add 2)=some (.string s3) ∧
 ∃ p3 n18 c3,
 w15.cell? (a1.add 3)=some (.slice p3 n18 c3) ∧
 ∃ n19,
 w15.cell? (a1.add 4)=some (.int .i64 n19) ∧
 callP Tryz.prog 21 [.agg #[.int .i64 n12,.int .u64 n13,.string s2,.slice p2 n14 c2,.int .i64 n15],.agg #[.int .i64 n16,.int .u64 n17,.string s3,.slice p3 n18 c3,.int .i64 n19]] w15 fun v3 w16 =>
 ∃ b1,
 v3=.bool b1 ∧
 callP Tryz.prog 19 [.string text] w16 fun v4 w17 =>
 ∃ n20 n21,
 ∃ s4 p4,
 ∃ n22 c4,
 ∃ n23 n24 n25,
 v4=.tuple #[.agg #[.int .i64 n20,.int .u64 n21,.string s4,.slice p4 n22 c4,.int .i64 n23],.int .i64 n24,.int .i64 n25] ∧
 newB w17 [.int .i64 0,.int .u64 0,.string (ByteArray.mk #[]),.slice none 0 0,.int .i64 0] 26 fun a2 w18 =>
 st w18 (a2.add 0) (.int .i64 n20) fun w19 =>
 st w19 (a2.add 1) (.int .u64 n21) fun w20 =>
 st w20 (a2.add 2) (.string s4) fun w21 =>
 st w21 (a2.add 3) (.slice p4 n22 c4) fun w22 =>
 st w22 (a2.add 4) (.int .i64 n23) fun w23 =>
 ∃ n26,
 w23.cell? (a2.add 0)=some (.int .i64 n26) ∧
 ∃ n27,
 w23.cell? (a2.add 1)=some (.int .u64 n27) ∧
 ∃ s5,
 w23.cell? (a2.add 2)=some (.string s5) ∧
 ∃ p5 n28 c5,
 w23.cell? (a2.add 3)=some (.slice p5 n28 c5) ∧
 ∃ n29,
 w23.cell? (a2.add 4)=some (.int .i64 n29) ∧
 ∃ n30,
 w23.cell? (a1.add 0)=some (.int .i64 n30) ∧
 ∃ n31,
 w23.cell? (a1.add 1)=some (.int .u64 n31) ∧
 ∃ s6,
 w23.cell? (a1.add 2)=some (.string s6) ∧
 ∃ p6 n32 c6,
 w23.cell? (a1.add 3)=some (.slice p6 n32 c6) ∧
 ∃ n33,
 w23.cell? (a1.add 4)=some (.int .i64 n33) ∧
 callP Tryz.prog 21 [.agg #[.int .i64 n26,.int .u64 n27,.string s5,.slice p5 n28 c5,.int .i64 n29],.agg #[.int .i64 n30,.int .u64 n31,.string s6,.slice p6 n32 c6,.int .i64 n33]] w23 fun v5 w24 =>
 ∃ b2,
 v5=.bool b2 ∧
 ∃ (J:World→Prop),
 (∀ w25,J w25 →
 newB w25 [.slice none 0 0] 38 fun a3 w26 =>
 ∃ n34,
 w26.cell? (a.add 0)=some (.int .i64 n34) ∧
 ∃ n35,
 w26.cell? (a.add 1)=some (.int .u64 n35) ∧
 ∃ s7,
 w26.cell? (a.add 2)=some (.string s7) ∧
 ∃ p7 n36 c7,
 w26.cell? (a.add 3)=some (.slice p7 n36 c7) ∧
 ∃ n37,
 w26.cell? (a.add 4)=some (.int .i64 n37) ∧
 callP Tryz.prog 22 [.pointer (some a3),.agg #[.int .i64 n34,.int .u64 n35,.string s7,.slice p7 n36 c7,.int .i64 n37]] w26 fun v6 w27 =>
 v6=.tuple #[] ∧
 ∃ n38,
 w27.cell? (a2.add 0)=some (.int .i64 n38) ∧
 ∃ n39,
 w27.cell? (a2.add 1)=some (.int .u64 n39) ∧
 ∃ s8,
 w27.cell? (a2.add 2)=some (.string s8) ∧
 ∃ p8 n40 c8,
 w27.cell? (a2.add 3)=some (.slice p8 n40 c8) ∧
 ∃ n41,
 w27.cell? (a2.add 4)=some (.int .i64 n41) ∧
 callP Tryz.prog 22 [.pointer (some a3),.agg #[.int .i64 n38,.int .u64 n39,.string s8,.slice p8 n40 c8,.int .i64 n41]] w27 fun v7 w28 =>
 v7=.tuple #[] ∧
 callP Tryz.prog 23 [.pointer (some a3)] w28 fun v8 w29=>∃ b3,v8=.bool b3∧callP Tryz.prog 19 [.string text] w29 fun v9 w30=>∃ n42 n43,∃ s9 p9,∃ n44 c9,∃ n45 n46 n47,v9=.tuple #[.agg #[.int .i64 n42,.int .u64 n43,.string s9,.slice p9 n44 c9,.int .i64 n45],.int .i64 n46,.int .i64 n47]∧newB w30 [.int .i64 0,.int .u64 0,.string (ByteArray.mk #[]),.slice none 0 0,.int .i64 0] 26 fun a4 w31=>st w31 (a4.add 0) (.int .i64 n42) fun w32=>st w32 (a4.add 1) (.int .u64 n43) fun w33=>st w33 (a4.add 2) (.string s9) fun w34=>st w34 (a4.add 3) (.slice p9 n44 c9) fun w35=>st w35 (a4.add 4) (.int .i64 n45) fun w36=>∃ n48,w36.cell? (a4.add 0)=some (.int .i64 n48)∧∃ n49,w36.cell? (a4.add 1)=some (.int .u64 n49)∧∃ s10,w36.cell? (a4.add 2)=some (.string s10)∧∃ p10 n50 c10,w36.cell? (a4.add 3)=some (.slice p10 n50 c10)∧∃ n51,w36.cell? (a4.add 4)=some (.int .i64 n51)∧∃ n52,w36.cell? (a1.add 0)=some (.int .i64 n52)∧∃ n53,w36.cell? (a1.add 1)=some (.int .u64 n53)∧∃ s11,w36.cell? (a1.add 2)=some (.string s11)∧∃ p11 n54 c11,w36.cell? (a1.add 3)=some (.slice p11 n54 c11)∧∃ n55,w36.cell? (a1.add 4)=some (.int .i64 n55)∧callP Tryz.prog 21 [.agg #[.int .i64 n48,.int .u64 n49,.string s10,.slice p10 n50 c10,.int .i64 n51],.agg #[.int .i64 n52,.int .u64 n53,.string s11,.slice p11 n54 c11,.int .i64 n55]] w36 fun v10 w37=>∃ b4,v10=.bool b4∧Sif b3 (Sif b4 (K (.bool (n47 == n11)) w37) (K (.bool false) w37)) (K (.bool false) w37)) ∧
 Sif (!!b) (Sif (!!b1) (Sif (!n4 != n10) (Sif (!n5 != n11) (Sif (!!b2) (Sif (!n24 != n10) (Sif (n25 != n11) (K (.bool false) w24) (J w24)) (K (.bool false) w24)) (K (.bool false) w24)) (K (.bool false) w24)) (K (.bool false) w24)) (K (.bool false) w24)) (K (.bool false) w24)
theorem ok_longshorelaw04_NoteParses {text:ByteArray} {w:World} {K:Value→World→Prop} (hwp:wp_longshorelaw04_NoteParses text w K):callP Tryz.prog 5 [.string text] w K :=
 calls_of Tryz.func5 ((by kernel_rfl:wpF Tryz.prog none Tryz.f5 (.two .leaf (.two .leaf (.two .leaf (.two .leaf (.two .leaf (.two .leaf (.two .leaf (.two (.meet [] (.two .leaf (.two (.two .leaf .leaf) .leaf))) (.two .leaf (.two .leaf (.two .leaf (.two .leaf (.two .leaf (.two .leaf (.two .leaf .leaf))))))))))))))) [Value.string text] w K=wp_longshorelaw04_NoteParses text w K).symm▸hwp)
end Go.Proofs.YtnacobknngidkaaGreatDoor
