/-
  What a call of each function comes to (definitions 'wp_..', reckoned by a program out of the model's code), and that it is sound ('ok_..'). Written by program (sv.py).
-/
import Derived.Test.YtnacobknngidkaaGreatDoorPz20
import Derived.Test.YtnacobknngidkaaGreatDoorProg
import Derived.KernelRfl
set_option linter.unusedVariables false
set_option linter.unusedSimpArgs false
namespace Go.Proofs.YtnacobknngidkaaGreatDoor
open Go Go.Sv
set_option linter.unusedVariables false
set_option maxRecDepth 100000
def wp_longshorelaw04_live (w : World) (K : Value → World → Prop) : Prop :=
  callP Tryz.prog 19 [.string (ByteArray.mk #[(123 : UInt8), (115 : UInt8), (121 : UInt8), (109 : UInt8), (98 : UInt8), (111 : UInt8), (108 : UInt8), (32 : UInt8), (34 : UInt8), (107 : UInt8), (34 : UInt8), (58 : UInt8), (32 : UInt8), (91 : UInt8), (110 : UInt8), (117 : UInt8), (108 : UInt8), (108 : UInt8), (93 : UInt8), (44 : UInt8), (32 : UInt8), (117 : UInt8), (105 : UInt8), (110 : UInt8), (116 : UInt8), (32 : UInt8), (49 : UInt8), (58 : UInt8), (32 : UInt8), (99 : UInt8), (104 : UInt8), (97 : UInt8), (114 : UInt8), (32 : UInt8), (54 : UInt8), (53 : UInt8), (125 : UInt8)])] w fun v w1 =>
  ∃ n n1,
  ∃ s p,
  ∃ n2 c,
  ∃ n3 n4 n5,
  v = .tuple #[.agg #[.int .i64 n, .int .u64 n1, .string s, .slice p n2 c, .int .i64 n3], .int .i64 n4, .int .i64 n5] ∧
  newB w1 [.int .i64 0, .int .u64 0, .string (ByteArray.mk #[]), .slice none 0 0, .int .i64 0] 26 fun a w2 => st w2 (a.add 0) (.int .i64 n) fun w3 => st w3 (a.add 1) (.int .u64 n1) fun w4 => st w4 (a.add 2) (.string s) fun w5 => st w5 (a.add 3) (.slice p n2 c) fun w6 => st w6 (a.add 4) (.int .i64 n3) fun w7 => ∃ n6, w7.cell? (a.add 0) = some (.int .i64 n6) ∧ ∃ n7, w7.cell? (a.add 1) = some (.int .u64 n7) ∧ ∃ s1, w7.cell? (a.add 2) = some (.string s1) ∧ ∃ p1 n8 c1, w7.cell? (a.add 3) = some (.slice p1 n8 c1) ∧ ∃ n9, w7.cell? (a.add 4) = some (.int .i64 n9) ∧ callP Tryz.prog 16 [.agg #[.int .i64 n6, .int .u64 n7, .string s1, .slice p1 n8 c1, .int .i64 n9]] w7 fun v1 w8 => ∃ s2 n10, v1 = .tuple #[.string s2, .int .i64 n10] ∧ callP Tryz.prog 26 [.string (ByteArray.mk #[(0 : UInt8), (34 : UInt8)])] w8 fun v2 w9 => ∃ s3, v2 = .string s3 ∧ callP Tryz.prog 28 [.string (ByteArray.mk #[(34 : UInt8), (92 : UInt8), (120 : UInt8), (52 : UInt8), (49 : UInt8), (34 : UInt8)])] w9 fun v3 w10 => ∃ s4 b, v3 = .tuple #[.string s4, .bool b] ∧ Sif (n5 == 0) (Sif (n10 == 0) (Sif (ByteArray.toList s2 == ByteArray.toList (ByteArray.mk #[(123 : UInt8), (115 : UInt8), (121 : UInt8), (109 : UInt8), (98 : UInt8), (111 : UInt8), (108 : UInt8), (32 : UInt8), (34 : UInt8), (107 : UInt8), (34 : UInt8), (58 : UInt8), (32 : UInt8), (91 : UInt8), (110 : UInt8), (117 : UInt8), (108 : UInt8), (108 : UInt8), (93 : UInt8), (44 : UInt8), (32 : UInt8), (117 : UInt8), (105 : UInt8), (110 : UInt8), (116 : UInt8), (32 : UInt8), (49 : UInt8), (58 : UInt8), (32 : UInt8), (99 : UInt8), (104 : UInt8), (97 : UInt8), (114 : UInt8), (32 : UInt8), (54 : UInt8), (53 : UInt8), (125 : UInt8)])) (Sif (ByteArray.toList s3 == ByteArray.toList (ByteArray.mk #[(34 : UInt8), (92 : UInt8), (120 : UInt8), (48 : UInt8), (48 : UInt8), (92 : UInt8), (34 : UInt8), (34 : UInt8)])) (Sif (ByteArray.toList s4 == ByteArray.toList (ByteArray.mk #[(65 : UInt8)])) (K (.bool b) w10) (K (.bool false) w10)) (K (.bool false) w10)) (K (.bool false) w10)) (K (.bool false) w10)) (K (.bool false) w10)
theorem eq_longshorelaw04_live (w : World) (K : Value → World → Prop) : wpF Tryz.prog none Tryz.f13 (.two .leaf (.two .leaf (.two .leaf (.two .leaf (.two .leaf (.two .leaf .leaf)))))) [] w K = wp_longshorelaw04_live w K := by kernel_rfl
theorem ok_longshorelaw04_live {w : World} {K : Value → World → Prop} (hwp : wp_longshorelaw04_live w K) : callP Tryz.prog 13 [] w K :=
  calls_of Tryz.func13 ((eq_longshorelaw04_live w K).symm ▸ hwp)
def wp_longshorelaw04_NoteNumbers (w : World) (K : Value → World → Prop) : Prop :=
  callP Tryz.prog 13 [] w fun v w1 => ∃ b, v = .bool b ∧ Sif b (K (.bool true) w1) (K (.bool false) w1)
theorem eq_longshorelaw04_NoteNumbers (w : World) (K : Value → World → Prop) : wpF Tryz.prog none Tryz.f3 (.two .leaf (.two .leaf (.two .leaf .leaf))) [] w K = wp_longshorelaw04_NoteNumbers w K := by kernel_rfl
theorem ok_longshorelaw04_NoteNumbers {w : World} {K : Value → World → Prop} (hwp : wp_longshorelaw04_NoteNumbers w K) : callP Tryz.prog 3 [] w K :=
  calls_of Tryz.func3 ((eq_longshorelaw04_NoteNumbers w K).symm ▸ hwp)
def wp_longshorelaw04_NoteBack (v_0 v_1 : Int) (v_2 : ByteArray) (v_3 : Option Addr) (v_3n v_3c : Nat) (v_4 : Int) (w : World) (K : Value → World → Prop) : Prop :=
  newB w [.int .i64 v_0, .int .u64 v_1, .string v_2, .slice v_3 v_3n v_3c, .int .i64 v_4] 26 fun a w1 =>
  ∃ n,
  w1.cell? (a.add 0) = some (.int .i64 n) ∧
  ∃ n1,
  w1.cell? (a.add 1) = some (.int .u64 n1) ∧
  ∃ s,
  w1.cell? (a.add 2) = some (.string s) ∧
  ∃ p n2 c,
  w1.cell? (a.add 3) = some (.slice p n2 c) ∧
  ∃ n3,
  w1.cell? (a.add 4) = some (.int .i64 n3) ∧
  callP Tryz.prog 14 [.agg #[.int .i64 n, .int .u64 n1, .string s, .slice p n2 c, .int .i64 n3]] w1 fun v w2 =>
  ∃ b,
  v = .bool b ∧
  callP Tryz.prog 13 [] w2 fun v1 w3 =>
  ∃ b1,
  v1 = .bool b1 ∧
  ∃ (J : World → Prop),
  (∀ w4, J w4 →
  ∃ n4,
  w4.cell? (a.add 0) = some (.int .i64 n4) ∧
  ∃ n5,
  w4.cell? (a.add 1) = some (.int .u64 n5) ∧
  ∃ s1,
  w4.cell? (a.add 2) = some (.string s1) ∧
  ∃ p1 n6 c1,
  w4.cell? (a.add 3) = some (.slice p1 n6 c1) ∧
  ∃ n7,
  w4.cell? (a.add 4) = some (.int .i64 n7) ∧
  callP Tryz.prog 16 [.agg #[.int .i64 n4, .int .u64 n5, .string s1, .slice p1 n6 c1, .int .i64 n7]] w4 fun v2 w5 =>
  ∃ s2 n8, v2 = .tuple #[.string s2, .int .i64 n8] ∧ Sif (n8 != 0) (K (.bool (ByteArray.toList s2 == ByteArray.toList (ByteArray.mk #[]))) w5) (callP Tryz.prog 19 [.string s2] w5 fun v3 w6 => ∃ n9 n10, ∃ s3 p2, ∃ n11 c2, ∃ n12 n13 n14, v3 = .tuple #[.agg #[.int .i64 n9, .int .u64 n10, .string s3, .slice p2 n11 c2, .int .i64 n12], .int .i64 n13, .int .i64 n14] ∧ newB w6 [.int .i64 0, .int .u64 0, .string (ByteArray.mk #[]), .slice none 0 0, .int .i64 0] 26 fun a1 w7 => st w7 (a1.add 0) (.int .i64 n9) fun w8 => st w8 (a1.add 1) (.int .u64 n10) fun w9 => st w9 (a1.add 2) (.string s3) fun w10 => st w10 (a1.add 3) (.slice p2 n11 c2) fun w11 => st w11 (a1.add 4) (.int .i64 n12) fun w12 => ∃ n15, w12.cell? (a.add 0) = some (.int .i64 n15) ∧ ∃ n16, w12.cell? (a.add 1) = some (.int .u64 n16) ∧ ∃ s4, w12.cell? (a.add 2) = some (.string s4) ∧ ∃ p3 n17 c3, w12.cell? (a.add 3) = some (.slice p3 n17 c3) ∧ ∃ n18, w12.cell? (a.add 4) = some (.int .i64 n18) ∧ ∃ n19, w12.cell? (a1.add 0) = some (.int .i64 n19) ∧ ∃ n20, w12.cell? (a1.add 1) = some (.int .u64 n20) ∧ ∃ s5, w12.cell? (a1.add 2) = some (.string s5) ∧ ∃ p4 n21 c4, w12.cell? (a1.add 3) = some (.slice p4 n21 c4) ∧ ∃ n22, w12.cell? (a1.add 4) = some (.int .i64 n22) ∧ callP Tryz.prog 21 [.agg #[.int .i64 n15, .int .u64 n16, .string s4, .slice p3 n17 c3, .int .i64 n18], .agg #[.int .i64 n19, .int .u64 n20, .string s5, .slice p4 n21 c4, .int .i64 n22]] w12 fun v4 w13 => ∃ b2, v4 = .bool b2 ∧ Sif b2 (Sif (n13 == 0) (K (.bool (n14 == 0)) w13) (K (.bool false) w13)) (K (.bool false) w13))) ∧
  Sif (!b) (Sif (!b1) (K (.bool b1) w3) (J w3)) (K (.bool b1) w3)
theorem eq_longshorelaw04_NoteBack (v_0 v_1 : Int) (v_2 : ByteArray) (v_3 : Option Addr) (v_3n v_3c : Nat) (v_4 : Int) (w : World) (K : Value → World → Prop) : wpF Tryz.prog none Tryz.f6 (.two .leaf (.two .leaf (.two .leaf (.two (.meet [] (.two .leaf (.two (.two .leaf .leaf) .leaf))) (.two .leaf (.two (.two .leaf (.two (.two .leaf .leaf) .leaf)) (.two .leaf (.two .leaf (.two .leaf .leaf))))))))) [Value.agg #[Value.int .i64 v_0, Value.int .u64 v_1, Value.string v_2, Value.slice v_3 v_3n v_3c, Value.int .i64 v_4]] w K = wp_longshorelaw04_NoteBack v_0 v_1 v_2 v_3 v_3n v_3c v_4 w K := by kernel_rfl
theorem ok_longshorelaw04_NoteBack {v_0 v_1 : Int} {v_2 : ByteArray} {v_3 : Option Addr} {v_3n v_3c : Nat} {v_4 : Int} {w : World} {K : Value → World → Prop} (hwp : wp_longshorelaw04_NoteBack v_0 v_1 v_2 v_3 v_3n v_3c v_4 w K) : callP Tryz.prog 6 [.agg #[.int .i64 v_0, .int .u64 v_1, .string v_2, .slice v_3 v_3n v_3c, .int .i64 v_4]] w K :=
  calls_of Tryz.func6 ((eq_longshorelaw04_NoteBack v_0 v_1 v_2 v_3 v_3n v_3c v_4 w K).symm ▸ hwp)
def wp_longshorelaw04_NoteAgain (text : ByteArray) (w : World) (K : Value → World → Prop) : Prop :=
  callP Tryz.prog 13 [] w fun v w1 =>
  ∃ b,
  v = .bool b ∧
  callP Tryz.prog 19 [.string text] w1 fun v1 w2 =>
  ∃ n n1,
  ∃ s p,
  ∃ n2 c,
  ∃ n3 n4 n5,
  v1 = .tuple #[.agg #[.int .i64 n, .int .u64 n1, .string s, .slice p n2 c, .int .i64 n3], .int .i64 n4, .int .i64 n5] ∧
  newB w2 [.int .i64 0, .int .u64 0, .string (ByteArray.mk #[]), .slice none 0 0, .int .i64 0] 26 fun a w3 =>
  st w3 (a.add 0) (.int .i64 n) fun w4 =>
  st w4 (a.add 1) (.int .u64 n1) fun w5 =>
  st w5 (a.add 2) (.string s) fun w6 =>
  st w6 (a.add 3) (.slice p n2 c) fun w7 =>
  st w7 (a.add 4) (.int .i64 n3) fun w8 =>
  Sif (n5 != 0) (K (.bool b) w8)
  (∃ n6,
  w8.cell? (a.add 0) = some (.int .i64 n6) ∧
  ∃ n7,
  w8.cell? (a.add 1) = some (.int .u64 n7) ∧
  ∃ s1,
  w8.cell? (a.add 2) = some (.string s1) ∧
  ∃ p1 n8 c1,
  w8.cell? (a.add 3) = some (.slice p1 n8 c1) ∧
  ∃ n9,
  w8.cell? (a.add 4) = some (.int .i64 n9) ∧
  callP Tryz.prog 16 [.agg #[.int .i64 n6, .int .u64 n7, .string s1, .slice p1 n8 c1, .int .i64 n9]] w8 fun v2 w9 =>
  ∃ s2 n10,
  v2 = .tuple #[.string s2, .int .i64 n10] ∧
  Sif (n10 == 2) (K (.bool b) w9)
  (callP Tryz.prog 19 [.string s2] w9 fun v3 w10 =>
  ∃ n11 n12,
  ∃ s3 p2,
  ∃ n13 c2,
  ∃ n14 n15 n16,
  v3 = .tuple #[.agg #[.int .i64 n11, .int .u64 n12, .string s3, .slice p2 n13 c2, .int .i64 n14], .int .i64 n15, .int .i64 n16] ∧
  newB w10 [.int .i64 0, .int .u64 0, .string (ByteArray.mk #[]), .slice none 0 0, .int .i64 0] 26 fun a1 w11 =>
  st w11 (a1.add 0) (.int .i64 n11) fun w12 => st w12 (a1.add 1) (.int .u64 n12) fun w13 => st w13 (a1.add 2) (.string s3) fun w14 => st w14 (a1.add 3) (.slice p2 n13 c2) fun w15 => st w15 (a1.add 4) (.int .i64 n14) fun w16 => ∃ n17, w16.cell? (a.add 0) = some (.int .i64 n17) ∧ ∃ n18, w16.cell? (a.add 1) = some (.int .u64 n18) ∧ ∃ s4, w16.cell? (a.add 2) = some (.string s4) ∧ ∃ p3 n19 c3, w16.cell? (a.add 3) = some (.slice p3 n19 c3) ∧ ∃ n20, w16.cell? (a.add 4) = some (.int .i64 n20) ∧ ∃ n21, w16.cell? (a1.add 0) = some (.int .i64 n21) ∧ ∃ n22, w16.cell? (a1.add 1) = some (.int .u64 n22) ∧ ∃ s5, w16.cell? (a1.add 2) = some (.string s5) ∧ ∃ p4 n23 c4, w16.cell? (a1.add 3) = some (.slice p4 n23 c4) ∧ ∃ n24, w16.cell? (a1.add 4) = some (.int .i64 n24) ∧ callP Tryz.prog 21 [.agg #[.int .i64 n17, .int .u64 n18, .string s4, .slice p3 n19 c3, .int .i64 n20], .agg #[.int .i64 n21, .int .u64 n22, .string s5, .slice p4 n23 c4, .int .i64 n24]] w16 fun v4 w17 => ∃ b1, v4 = .bool b1 ∧ ∃ n25, w17.cell? (a1.add 0) = some (.int .i64 n25) ∧ ∃ n26, w17.cell? (a1.add 1) = some (.int .u64 n26) ∧ ∃ s6, w17.cell? (a1.add 2) = some (.string s6) ∧ ∃ p5 n27 c5, w17.cell? (a1.add 3) = some (.slice p5 n27 c5) ∧ ∃ n28, w17.cell? (a1.add 4) = some (.int .i64 n28) ∧ callP Tryz.prog 16 [.agg #[.int .i64 n25, .int .u64 n26, .string s6, .slice p5 n27 c5, .int .i64 n28]] w17 fun v5 w18 => ∃ s7 n29, v5 = .tuple #[.string s7, .int .i64 n29] ∧ Sif b (Sif b1 (Sif (n10 == 0) (Sif (n16 == 0) (Sif (n29 == 0) (K (.bool (ByteArray.toList s2 == ByteArray.toList s7)) w18) (K (.bool false) w18)) (K (.bool false) w18)) (K (.bool false) w18)) (K (.bool false) w18)) (K (.bool false) w18)))
theorem eq_longshorelaw04_NoteAgain (text : ByteArray) (w : World) (K : Value → World → Prop) : wpF Tryz.prog none Tryz.f7 (.two .leaf (.two .leaf (.two .leaf (.two (.two .leaf (.two (.two .leaf .leaf) .leaf)) (.two .leaf (.two (.two .leaf (.two (.two .leaf .leaf) .leaf)) (.two .leaf (.two .leaf (.two .leaf (.two .leaf .leaf)))))))))) [Value.string text] w K = wp_longshorelaw04_NoteAgain text w K := by kernel_rfl
theorem ok_longshorelaw04_NoteAgain {text : ByteArray} {w : World} {K : Value → World → Prop} (hwp : wp_longshorelaw04_NoteAgain text w K) : callP Tryz.prog 7 [.string text] w K :=
  calls_of Tryz.func7 ((eq_longshorelaw04_NoteAgain text w K).symm ▸ hwp)
def wp_longshorelaw04_NoteUnlike (v_0 v_1 : Int) (v_2 : ByteArray) (v_3 : Option Addr) (v_3n v_3c : Nat) (v_4 w__0 w__1 : Int) (w__2 : ByteArray) (w__3 : Option Addr) (w__3n w__3c : Nat) (w__4 : Int) (w : World) (K : Value → World → Prop) : Prop :=
  newB w [.int .i64 v_0, .int .u64 v_1, .string v_2, .slice v_3 v_3n v_3c, .int .i64 v_4] 26 fun a w1 =>
  newB w1 [.int .i64 w__0, .int .u64 w__1, .string w__2, .slice w__3 w__3n w__3c, .int .i64 w__4] 26 fun a1 w2 =>
  ∃ n,
  w2.cell? (a.add 0) = some (.int .i64 n) ∧
  ∃ n1,
  w2.cell? (a.add 1) = some (.int .u64 n1) ∧
  ∃ s,
  w2.cell? (a.add 2) = some (.string s) ∧
  ∃ p n2 c,
  w2.cell? (a.add 3) = some (.slice p n2 c) ∧
  ∃ n3,
  w2.cell? (a.add 4) = some (.int .i64 n3) ∧
  callP Tryz.prog 14 [.agg #[.int .i64 n, .int .u64 n1, .string s, .slice p n2 c, .int .i64 n3]] w2 fun v w3 =>
  ∃ b,
  v = .bool b ∧
  ∃ n4,
  w3.cell? (a1.add 0) = some (.int .i64 n4) ∧
  ∃ n5,
  w3.cell? (a1.add 1) = some (.int .u64 n5) ∧
  ∃ s1,
  w3.cell? (a1.add 2) = some (.string s1) ∧
  ∃ p1 n6 c1,
  w3.cell? (a1.add 3) = some (.slice p1 n6 c1) ∧
  ∃ n7,
  w3.cell? (a1.add 4) = some (.int .i64 n7) ∧
  callP Tryz.prog 14 [.agg #[.int .i64 n4, .int .u64 n5, .string s1, .slice p1 n6 c1, .int .i64 n7]] w3 fun v1 w4 =>
  ∃ b1,
  v1 = .bool b1 ∧
  callP Tryz.prog 13 [] w4 fun v2 w5 =>
  ∃ b2,
  v2 = .bool b2 ∧
  ∃ (J : World → Prop),
  (∀ w6, J w6 →
  ∃ n8,
  w6.cell? (a.add 0) = some (.int .i64 n8) ∧
  ∃ n9,
  w6.cell? (a.add 1) = some (.int .u64 n9) ∧
  ∃ s2,
  w6.cell? (a.add 2) = some (.string s2) ∧
  ∃ p2 n10 c2, w6.cell? (a.add 3) = some (.slice p2 n10 c2) ∧ ∃ n11, w6.cell? (a.add 4) = some (.int .i64 n11) ∧ callP Tryz.prog 16 [.agg #[.int .i64 n8, .int .u64 n9, .string s2, .slice p2 n10 c2, .int .i64 n11]] w6 fun v3 w7 => ∃ s3 n12, v3 = .tuple #[.string s3, .int .i64 n12] ∧ ∃ n13, w7.cell? (a1.add 0) = some (.int .i64 n13) ∧ ∃ n14, w7.cell? (a1.add 1) = some (.int .u64 n14) ∧ ∃ s4, w7.cell? (a1.add 2) = some (.string s4) ∧ ∃ p3 n15 c3, w7.cell? (a1.add 3) = some (.slice p3 n15 c3) ∧ ∃ n16, w7.cell? (a1.add 4) = some (.int .i64 n16) ∧ callP Tryz.prog 16 [.agg #[.int .i64 n13, .int .u64 n14, .string s4, .slice p3 n15 c3, .int .i64 n16]] w7 fun v4 w8 => ∃ s5 n17, v4 = .tuple #[.string s5, .int .i64 n17] ∧ ∃ n18, w8.cell? (a.add 0) = some (.int .i64 n18) ∧ ∃ n19, w8.cell? (a.add 1) = some (.int .u64 n19) ∧ ∃ s6, w8.cell? (a.add 2) = some (.string s6) ∧ ∃ p4 n20 c4, w8.cell? (a.add 3) = some (.slice p4 n20 c4) ∧ ∃ n21, w8.cell? (a.add 4) = some (.int .i64 n21) ∧ ∃ n22, w8.cell? (a1.add 0) = some (.int .i64 n22) ∧ ∃ n23, w8.cell? (a1.add 1) = some (.int .u64 n23) ∧ ∃ s7, w8.cell? (a1.add 2) = some (.string s7) ∧ ∃ p5 n24 c5, w8.cell? (a1.add 3) = some (.slice p5 n24 c5) ∧ ∃ n25, w8.cell? (a1.add 4) = some (.int .i64 n25) ∧ callP Tryz.prog 21 [.agg #[.int .i64 n18, .int .u64 n19, .string s6, .slice p4 n20 c4, .int .i64 n21], .agg #[.int .i64 n22, .int .u64 n23, .string s7, .slice p5 n24 c5, .int .i64 n25]] w8 fun v5 w9 => ∃ b3, v5 = .bool b3 ∧ ∃ (J1 : World → Prop), (∀ w10, J1 w10 → Sif b2 (K (.bool ((ByteArray.toList s3 == ByteArray.toList s5) == b3)) w10) (K (.bool false) w10)) ∧ Sif (!n12 != 0) (Sif (n17 != 0) (K (.bool b2) w9) (J1 w9)) (K (.bool b2) w9)) ∧
  Sif (!b) (Sif b1 (K (.bool b2) w5) (J w5)) (K (.bool b2) w5)
theorem eq_longshorelaw04_NoteUnlike (v_0 v_1 : Int) (v_2 : ByteArray) (v_3 : Option Addr) (v_3n v_3c : Nat) (v_4 w__0 w__1 : Int) (w__2 : ByteArray) (w__3 : Option Addr) (w__3n w__3c : Nat) (w__4 : Int) (w : World) (K : Value → World → Prop) : wpF Tryz.prog none Tryz.f8 (.two .leaf (.two .leaf (.two .leaf (.two .leaf (.two (.meet [] (.two .leaf (.two (.two .leaf .leaf) .leaf))) (.two .leaf (.two .leaf (.two .leaf (.two (.meet [] (.two .leaf (.two (.two .leaf .leaf) .leaf))) (.two .leaf .leaf)))))))))) [Value.agg #[Value.int .i64 v_0, Value.int .u64 v_1, Value.string v_2, Value.slice v_3 v_3n v_3c, Value.int .i64 v_4], Value.agg #[Value.int .i64 w__0, Value.int .u64 w__1, Value.string w__2, Value.slice w__3 w__3n w__3c, Value.int .i64 w__4]] w K = wp_longshorelaw04_NoteUnlike v_0 v_1 v_2 v_3 v_3n v_3c v_4 w__0 w__1 w__2 w__3 w__3n w__3c w__4 w K := by kernel_rfl
theorem ok_longshorelaw04_NoteUnlike {v_0 v_1 : Int} {v_2 : ByteArray} {v_3 : Option Addr} {v_3n v_3c : Nat} {v_4 w__0 w__1 : Int} {w__2 : ByteArray} {w__3 : Option Addr} {w__3n w__3c : Nat} {w__4 : Int} {w : World} {K : Value → World → Prop} (hwp : wp_longshorelaw04_NoteUnlike v_0 v_1 v_2 v_3 v_3n v_3c v_4 w__0 w__1 w__2 w__3 w__3n w__3c w__4 w K) : callP Tryz.prog 8 [.agg #[.int .i64 v_0, .int .u64 v_1, .string v_2, .slice v_3 v_3n v_3c, .int .i64 v_4], .agg #[.int .i64 w__0, .int .u64 w__1, .string w__2, .slice w__3 w__3n w__3c, .int .i64 w__4]] w K :=
  calls_of Tryz.func8 ((eq_longshorelaw04_NoteUnlike v_0 v_1 v_2 v_3 v_3n v_3c v_4 w__0 w__1 w__2 w__3 w__3n w__3c w__4 w K).symm ▸ hwp)
def wp_longshorelaw04_blank (n : Int) (w : World) (K : Value → World → Prop) : Prop :=
  (7 : Int) ≠ (0 : Int) ∧ Sif (Int.tmod n 7 == 0) (K (.string (ByteArray.mk #[(32 : UInt8)])) w) (Sif (Int.tmod n 7 == 1) (K (.string (ByteArray.mk #[(10 : UInt8), (9 : UInt8)])) w) (Sif (Int.tmod n 7 == 2) (K (.string (ByteArray.mk #[(32 : UInt8), (35 : UInt8), (32 : UInt8), (93 : UInt8), (125 : UInt8), (41 : UInt8), (32 : UInt8), (34 : UInt8), (92 : UInt8), (32 : UInt8), (255 : UInt8), (13 : UInt8), (10 : UInt8)])) w) (Sif (Int.tmod n 7 == 3) (K (.string (ByteArray.mk #[(13 : UInt8)])) w) (Sif (Int.tmod n 7 == 4) (K (.string (ByteArray.mk #[(35 : UInt8), (10 : UInt8), (35 : UInt8), (10 : UInt8)])) w) (Sif (Int.tmod n 7 == 5) (K (.string (ByteArray.mk #[(32 : UInt8), (32 : UInt8)])) w) (K (.string (ByteArray.mk #[])) w))))))
theorem eq_longshorelaw04_blank (n : Int) (w : World) (K : Value → World → Prop) : wpF Tryz.prog none Tryz.f24 (.two .leaf (.two (.two .leaf (.two (.two .leaf (.two (.two .leaf .leaf) (.two .leaf (.two (.two .leaf .leaf) (.two .leaf (.two (.two .leaf .leaf) (.two .leaf (.two (.two .leaf .leaf) (.two .leaf (.two (.two .leaf .leaf) (.two .leaf (.two (.two .leaf .leaf) .leaf)))))))))))) .leaf)) (.two .leaf .leaf))) [Value.int .i64 n] w K = wp_longshorelaw04_blank n w K := by kernel_rfl
theorem ok_longshorelaw04_blank {n : Int} {w : World} {K : Value → World → Prop} (hwp : wp_longshorelaw04_blank n w K) : callP Tryz.prog 24 [.int .i64 n] w K :=
  calls_of Tryz.func24 ((eq_longshorelaw04_blank n w K).symm ▸ hwp)
def wp_longshorelaw04_spread (s : ByteArray) (raws : Option Addr) (rawsn rawsc : Nat) (w : World) (K : Value → World → Prop) : Prop :=
  ∃ (I : Nat → ByteArray → Bool → Int → Int → World → Prop),
  (∃ m, I m (ByteArray.mk #[]) false 0 0 w) ∧
  ∀ m x b n n1 w1, I m x b n n1 w1 →
  Sif (decide (n1 < (↑(ByteArray.size s) : Int)))
  (∃ (J : ByteArray → Bool → Int → Int → World → Prop),
  (∀ x1 b1 n2 n3 w2, J x1 b1 n2 n3 w2 → nameI (IntKind.wrap .i64 (n3 + 1)) fun n4 => ∃ m', m' < m ∧ I m' x1 b1 n2 n4 w2) ∧
  0 ≤ n1 ∧
  n1 < (↑(ByteArray.size s) : Int) ∧
  nameI (byteAt s (Int.toNat n1)) fun n2 =>
  ∃ (J1 : Bool → World → Prop),
  (∀ b1 w2, J1 b1 w2 →
  ∃ (J2 : Int → ByteArray → World → Prop),
  (∀ n3 x1 w3, J2 n3 x1 w3 → (↑(ByteArray.size x + ByteArray.size x1) : Int) ≤ 9223372036854775807 ∧ 0 ≤ IntKind.wrap .i64 (n1 + 1) ∧ IntKind.wrap .i64 (n1 + 1) ≤ (↑(ByteArray.size s) : Int) ∧ 0 ≤ n1 ∧ n1 ≤ IntKind.wrap .i64 (n1 + 1) ∧ (↑(ByteArray.size (x ++ x1) + ByteArray.size (ByteArray.extract s (Int.toNat n1) (Int.toNat (IntKind.wrap .i64 (n1 + 1))))) : Int) ≤ 9223372036854775807 ∧ ∃ (J3 : ByteArray → World → Prop), (∀ x2 w4, J3 x2 w4 → Sif b (Sif (n2 == 92) (Sif (decide (IntKind.wrap .i64 (n1 + 1) < (↑(ByteArray.size s) : Int))) (nameI (IntKind.wrap .i64 (n1 + 1)) fun n4 => 0 ≤ IntKind.wrap .i64 (n4 + 1) ∧ IntKind.wrap .i64 (n4 + 1) ≤ (↑(ByteArray.size s) : Int) ∧ 0 ≤ n4 ∧ n4 ≤ IntKind.wrap .i64 (n4 + 1) ∧ (↑(ByteArray.size x2 + ByteArray.size (ByteArray.extract s (Int.toNat n4) (Int.toNat (IntKind.wrap .i64 (n4 + 1))))) : Int) ≤ 9223372036854775807 ∧ J (x2 ++ ByteArray.extract s (Int.toNat n4) (Int.toNat (IntKind.wrap .i64 (n4 + 1)))) b n3 n4 w4) (Sif (n2 == 34) (J x2 (!b) n3 n1 w4) (J x2 b n3 n1 w4))) (Sif (n2 == 34) (J x2 (!b) n3 n1 w4) (J x2 b n3 n1 w4))) (Sif (n2 == 34) (J x2 (!b) n3 n1 w4) (J x2 b n3 n1 w4))) ∧ Sif (!b) (Sif b1 ((↑(ByteArray.size (x ++ x1 ++ ByteArray.extract s (Int.toNat n1) (Int.toNat (IntKind.wrap .i64 (n1 + 1)))) + ByteArray.size x1) : Int) ≤ 9223372036854775807 ∧ J3 (x ++ x1 ++ ByteArray.extract s (Int.toNat n1) (Int.toNat (IntKind.wrap .i64 (n1 + 1))) ++ x1) w3) (J3 (x ++ x1 ++ ByteArray.extract s (Int.toNat n1) (Int.toNat (IntKind.wrap .i64 (n1 + 1)))) w3)) (J3 (x ++ x1 ++ ByteArray.extract s (Int.toNat n1) (Int.toNat (IntKind.wrap .i64 (n1 + 1)))) w3)) ∧
  Sif (!b) (Sif (!b1) (Sif (n2 == 32) (Sif (decide (n < (↑rawsn : Int))) (0 ≤ n ∧ n < (↑rawsn : Int) ∧ nn raws fun a => ∃ n3, w2.cell? (a.add (Int.toNat n * 1)) = some (.int .i64 n3) ∧ callP Tryz.prog 24 [.int .i64 n3] w2 fun v w3 => ∃ s1, v = .string s1 ∧ nameI (IntKind.wrap .i64 (n + 1)) fun n4 => J2 n4 s1 w3) (J2 n (ByteArray.mk #[]) w2)) (J2 n (ByteArray.mk #[]) w2)) (Sif (decide (n < (↑rawsn : Int))) (0 ≤ n ∧ n < (↑rawsn : Int) ∧ nn raws fun a => ∃ n3, w2.cell? (a.add (Int.toNat n * 1)) = some (.int .i64 n3) ∧ callP Tryz.prog 24 [.int .i64 n3] w2 fun v w3 => ∃ s1, v = .string s1 ∧ nameI (IntKind.wrap .i64 (n + 1)) fun n4 => J2 n4 s1 w3) (J2 n (ByteArray.mk #[]) w2))) (J2 n (ByteArray.mk #[]) w2)) ∧
  Sif (!n2 == 91) (Sif (!n2 == 93) (Sif (!n2 == 123) (Sif (!n2 == 125) (Sif (!n2 == 40) (Sif (!n2 == 41) (Sif (!n2 == 58) (J1 (n2 == 44) w1) (J1 true w1)) (J1 true w1)) (J1 true w1)) (J1 true w1)) (J1 true w1)) (J1 true w1)) (J1 true w1))
  (K (.string x) w1)
theorem eq_longshorelaw04_spread (s : ByteArray) (raws : Option Addr) (rawsn rawsc : Nat) (w : World) (K : Value → World → Prop) : wpF Tryz.prog none Tryz.f25 (.two .leaf (.two .leaf (.two .leaf (.two .leaf (.two (.two .leaf (.two (.loop [(5, .cell .str), (6, .cell .bool), (7, .cell (.int .i64)), (8, .cell (.int .i64))] (.two (.two .leaf (.two .leaf .leaf)) (.two (.meet [(5, .cell .str), (6, .cell .bool), (7, .cell (.int .i64)), (8, .cell (.int .i64))] (.two (.two .leaf (.two (.meet [(10, .cell .bool)] .leaf) (.two .leaf (.two (.meet [(7, .cell (.int .i64)), (11, .cell .str)] (.two .leaf (.two (.two .leaf .leaf) .leaf))) (.two .leaf (.two (.meet [(5, .cell .str)] (.two .leaf (.two .leaf .leaf))) (.two .leaf (.two (.two .leaf .leaf) (.two .leaf (.two .leaf .leaf)))))))))) .leaf)) .leaf))) .leaf)) (.two .leaf .leaf)))))) [Value.string s, Value.slice raws rawsn rawsc] w K = wp_longshorelaw04_spread s raws rawsn rawsc w K := by kernel_rfl
theorem ok_longshorelaw04_spread {s : ByteArray} {raws : Option Addr} {rawsn rawsc : Nat} {w : World} {K : Value → World → Prop} (hwp : wp_longshorelaw04_spread s raws rawsn rawsc w K) : callP Tryz.prog 25 [.string s, .slice raws rawsn rawsc] w K :=
  calls_of Tryz.func25 ((eq_longshorelaw04_spread s raws rawsn rawsc w K).symm ▸ hwp)
def wp_longshorelaw04_NoteBlanks (v_0 v_1 : Int) (v_2 : ByteArray) (v_3 : Option Addr) (v_3n v_3c : Nat) (v_4 : Int) (raws : Option Addr) (rawsn rawsc : Nat) (ahead behind : Int) (w : World) (K : Value → World → Prop) : Prop :=
  newB w [.int .i64 v_0, .int .u64 v_1, .string v_2, .slice v_3 v_3n v_3c, .int .i64 v_4] 26 fun a w1 =>
  ∃ n,
  w1.cell? (a.add 0) = some (.int .i64 n) ∧
  ∃ n1,
  w1.cell? (a.add 1) = some (.int .u64 n1) ∧
  ∃ s,
  w1.cell? (a.add 2) = some (.string s) ∧
  ∃ p n2 c,
  w1.cell? (a.add 3) = some (.slice p n2 c) ∧
  ∃ n3,
  w1.cell? (a.add 4) = some (.int .i64 n3) ∧
  callP Tryz.prog 14 [.agg #[.int .i64 n, .int .u64 n1, .string s, .slice p n2 c, .int .i64 n3]] w1 fun v w2 =>
  ∃ b,
  v = .bool b ∧
  callP Tryz.prog 13 [] w2 fun v1 w3 =>
  ∃ b1,
  v1 = .bool b1 ∧
  ∃ (J : World → Prop),
  (∀ w4, J w4 →
  ∃ n4,
  w4.cell? (a.add 0) = some (.int .i64 n4) ∧
  ∃ n5,
  w4.cell? (a.add 1) = some (.int .u64 n5) ∧
  ∃ s1,
  w4.cell? (a.add 2) = some (.string s1) ∧
  ∃ p1 n6 c1,
  w4.cell? (a.add 3) = some (.slice p1 n6 c1) ∧
  ∃ n7,
  w4.cell? (a.add 4) = some (.int .i64 n7) ∧
  callP Tryz.prog 16 [.agg #[.int .i64 n4, .int .u64 n5, .string s1, .slice p1 n6 c1, .int .i64 n7]] w4 fun v2 w5 =>
  ∃ s2 n8,
  v2 = .tuple #[.string s2, .int .i64 n8] ∧
  ∃ (J1 : World → Prop),
  (∀ w6, J1 w6 →
  callP Tryz.prog 24 [.int .i64 ahead] w6 fun v3 w7 =>
  ∃ s3,
  v3 = .string s3 ∧
  callP Tryz.prog 24 [.int .i64 behind] w7 fun v4 w8 =>
  ∃ s4,
  v4 = .string s4 ∧
  callP Tryz.prog 25 [.string s2, .slice raws rawsn rawsc] w8 fun v5 w9 =>
  ∃ s5,
  v5 = .string s5 ∧
  (↑(ByteArray.size s3 + ByteArray.size s5) : Int) ≤ 9223372036854775807 ∧
  (↑(ByteArray.size (s3 ++ s5) + ByteArray.size s4) : Int) ≤ 9223372036854775807 ∧
  (↑(ByteArray.size (s3 ++ s5 ++ s4) + 9) : Int) ≤ 9223372036854775807 ∧ callP Tryz.prog 19 [.string (s3 ++ s5 ++ s4 ++ ByteArray.mk #[(35 : UInt8), (32 : UInt8), (116 : UInt8), (104 : UInt8), (101 : UInt8), (32 : UInt8), (101 : UInt8), (110 : UInt8), (100 : UInt8)])] w9 fun v6 w10 => ∃ n9 n10, ∃ s6 p2, ∃ n11 c2, ∃ n12 n13 n14, v6 = .tuple #[.agg #[.int .i64 n9, .int .u64 n10, .string s6, .slice p2 n11 c2, .int .i64 n12], .int .i64 n13, .int .i64 n14] ∧ newB w10 [.int .i64 0, .int .u64 0, .string (ByteArray.mk #[]), .slice none 0 0, .int .i64 0] 26 fun a1 w11 => st w11 (a1.add 0) (.int .i64 n9) fun w12 => st w12 (a1.add 1) (.int .u64 n10) fun w13 => st w13 (a1.add 2) (.string s6) fun w14 => st w14 (a1.add 3) (.slice p2 n11 c2) fun w15 => st w15 (a1.add 4) (.int .i64 n12) fun w16 => ∃ n15, w16.cell? (a.add 0) = some (.int .i64 n15) ∧ ∃ n16, w16.cell? (a.add 1) = some (.int .u64 n16) ∧ ∃ s7, w16.cell? (a.add 2) = some (.string s7) ∧ ∃ p3 n17 c3, w16.cell? (a.add 3) = some (.slice p3 n17 c3) ∧ ∃ n18, w16.cell? (a.add 4) = some (.int .i64 n18) ∧ ∃ n19, w16.cell? (a1.add 0) = some (.int .i64 n19) ∧ ∃ n20, w16.cell? (a1.add 1) = some (.int .u64 n20) ∧ ∃ s8, w16.cell? (a1.add 2) = some (.string s8) ∧ ∃ p4 n21 c4, w16.cell? (a1.add 3) = some (.slice p4 n21 c4) ∧ ∃ n22, w16.cell? (a1.add 4) = some (.int .i64 n22) ∧ callP Tryz.prog 21 [.agg #[.int .i64 n15, .int .u64 n16, .string s7, .slice p3 n17 c3, .int .i64 n18], .agg #[.int .i64 n19, .int .u64 n20, .string s8, .slice p4 n21 c4, .int .i64 n22]] w16 fun v7 w17 => ∃ b2, v7 = .bool b2 ∧ Sif b2 (Sif (n13 == 0) (K (.bool (n14 == 0)) w17) (K (.bool false) w17)) (K (.bool false) w17)) ∧
  Sif (!n8 != 0) (Sif (decide ((↑(ByteArray.size s2) : Int) > 20000)) (Sif (!ByteArray.toList s2 == ByteArray.toList (ByteArray.mk #[])) (K (.bool (n8 == 0)) w5) (K (.bool true) w5)) (J1 w5)) (Sif (!ByteArray.toList s2 == ByteArray.toList (ByteArray.mk #[])) (K (.bool (n8 == 0)) w5) (K (.bool true) w5))) ∧
  Sif (!b) (Sif (!b1) (K (.bool b1) w3) (J w3)) (K (.bool b1) w3)
theorem eq_longshorelaw04_NoteBlanks (v_0 v_1 : Int) (v_2 : ByteArray) (v_3 : Option Addr) (v_3n v_3c : Nat) (v_4 : Int) (raws : Option Addr) (rawsn rawsc : Nat) (ahead behind : Int) (w : World) (K : Value → World → Prop) : wpF Tryz.prog none Tryz.f9 (.two .leaf (.two .leaf (.two .leaf (.two (.meet [] (.two .leaf (.two (.two .leaf .leaf) .leaf))) (.two .leaf (.two (.meet [] (.two .leaf (.two (.two .leaf .leaf) .leaf))) (.two .leaf (.two .leaf (.two .leaf (.two .leaf (.two .leaf (.two .leaf .leaf)))))))))))) [Value.agg #[Value.int .i64 v_0, Value.int .u64 v_1, Value.string v_2, Value.slice v_3 v_3n v_3c, Value.int .i64 v_4], Value.slice raws rawsn rawsc, Value.int .i64 ahead, Value.int .i64 behind] w K = wp_longshorelaw04_NoteBlanks v_0 v_1 v_2 v_3 v_3n v_3c v_4 raws rawsn rawsc ahead behind w K := by kernel_rfl
theorem ok_longshorelaw04_NoteBlanks {v_0 v_1 : Int} {v_2 : ByteArray} {v_3 : Option Addr} {v_3n v_3c : Nat} {v_4 : Int} {raws : Option Addr} {rawsn rawsc : Nat} {ahead behind : Int} {w : World} {K : Value → World → Prop} (hwp : wp_longshorelaw04_NoteBlanks v_0 v_1 v_2 v_3 v_3n v_3c v_4 raws rawsn rawsc ahead behind w K) : callP Tryz.prog 9 [.agg #[.int .i64 v_0, .int .u64 v_1, .string v_2, .slice v_3 v_3n v_3c, .int .i64 v_4], .slice raws rawsn rawsc, .int .i64 ahead, .int .i64 behind] w K :=
  calls_of Tryz.func9 ((eq_longshorelaw04_NoteBlanks v_0 v_1 v_2 v_3 v_3n v_3c v_4 raws rawsn rawsc ahead behind w K).symm ▸ hwp)
def wp_longshorelaw04_NoteQuotes (s : ByteArray) (w : World) (K : Value → World → Prop) : Prop :=
  callP Tryz.prog 13 [] w fun v w1 => ∃ b, v = .bool b ∧ callP Tryz.prog 26 [.string s] w1 fun v1 w2 => ∃ s1, v1 = .string s1 ∧ callP Tryz.prog 27 [.string s] w2 fun v2 w3 => ∃ s2, v2 = .string s2 ∧ callP Tryz.prog 28 [.string s1] w3 fun v3 w4 => ∃ s3 b1, v3 = .tuple #[.string s3, .bool b1] ∧ callP Tryz.prog 29 [.string s1] w4 fun v4 w5 => ∃ n, v4 = .int .i64 n ∧ Sif b (Sif (ByteArray.toList s1 == ByteArray.toList s2) (Sif b1 (Sif (ByteArray.toList s3 == ByteArray.toList s) (K (.bool (n == (-1))) w5) (K (.bool false) w5)) (K (.bool false) w5)) (K (.bool false) w5)) (K (.bool false) w5)
theorem eq_longshorelaw04_NoteQuotes (s : ByteArray) (w : World) (K : Value → World → Prop) : wpF Tryz.prog none Tryz.f10 (.two .leaf (.two .leaf (.two .leaf (.two .leaf (.two .leaf (.two .leaf (.two .leaf .leaf))))))) [Value.string s] w K = wp_longshorelaw04_NoteQuotes s w K := by kernel_rfl
theorem ok_longshorelaw04_NoteQuotes {s : ByteArray} {w : World} {K : Value → World → Prop} (hwp : wp_longshorelaw04_NoteQuotes s w K) : callP Tryz.prog 10 [.string s] w K :=
  calls_of Tryz.func10 ((eq_longshorelaw04_NoteQuotes s w K).symm ▸ hwp)
def wp_longshorelaw04_NoteUnquotes (s more : ByteArray) (w : World) (K : Value → World → Prop) : Prop :=
  callP Tryz.prog 13 [] w fun v w1 => ∃ b, v = .bool b ∧ callP Tryz.prog 28 [.string s] w1 fun v1 w2 => ∃ s1 b1, v1 = .tuple #[.string s1, .bool b1] ∧ callP Tryz.prog 30 [.string s] w2 fun v2 w3 => ∃ s2 b2, v2 = .tuple #[.string s2, .bool b2] ∧ (↑(ByteArray.size s + ByteArray.size more) : Int) ≤ 9223372036854775807 ∧ callP Tryz.prog 28 [.string (s ++ more)] w3 fun v3 w4 => ∃ s3 b3, v3 = .tuple #[.string s3, .bool b3] ∧ (↑(ByteArray.size s + ByteArray.size more) : Int) ≤ 9223372036854775807 ∧ callP Tryz.prog 30 [.string (s ++ more)] w4 fun v4 w5 => ∃ s4 b4, v4 = .tuple #[.string s4, .bool b4] ∧ Sif b (Sif (ByteArray.toList s1 == ByteArray.toList s2) (Sif (b1 == b2) (Sif (ByteArray.toList s3 == ByteArray.toList s4) (K (.bool (b3 == b4)) w5) (K (.bool false) w5)) (K (.bool false) w5)) (K (.bool false) w5)) (K (.bool false) w5)
theorem eq_longshorelaw04_NoteUnquotes (s more : ByteArray) (w : World) (K : Value → World → Prop) : wpF Tryz.prog none Tryz.f11 (.two .leaf (.two .leaf (.two .leaf (.two .leaf (.two .leaf (.two .leaf (.two .leaf .leaf))))))) [Value.string s, Value.string more] w K = wp_longshorelaw04_NoteUnquotes s more w K := by kernel_rfl
theorem ok_longshorelaw04_NoteUnquotes {s more : ByteArray} {w : World} {K : Value → World → Prop} (hwp : wp_longshorelaw04_NoteUnquotes s more w K) : callP Tryz.prog 11 [.string s, .string more] w K :=
  calls_of Tryz.func11 ((eq_longshorelaw04_NoteUnquotes s more w K).symm ▸ hwp)
def wp_longshorelaw04_NoteDeep (n kind : Int) (w : World) (K : Value → World → Prop) : Prop :=
  callP Tryz.prog 13 [] w fun v w1 =>
  ∃ b,
  v = .bool b ∧
  ∃ (J : World → Prop),
  (∀ w2, J w2 →
  ∃ (I : Nat → ByteArray → ByteArray → Int → World → Prop),
  (∃ m, I m (ByteArray.mk #[]) (ByteArray.mk #[]) 0 w2) ∧
  ∀ m x x1 n1 w3, I m x x1 n1 w3 →
  Sif (decide (n1 < n)) (∃ (J1 : ByteArray → ByteArray → World → Prop), (∀ x2 x3 w4, J1 x2 x3 w4 → nameI (IntKind.wrap .i64 (n1 + 1)) fun n2 => ∃ m', m' < m ∧ I m' x2 x3 n2 w4) ∧ (3 : Int) ≠ (0 : Int) ∧ Sif (Int.tmod kind 3 == 1) ((↑(ByteArray.size x + 6) : Int) ≤ 9223372036854775807 ∧ (↑(1 + ByteArray.size x1) : Int) ≤ 9223372036854775807 ∧ J1 (x ++ ByteArray.mk #[(40 : UInt8), (110 : UInt8), (117 : UInt8), (108 : UInt8), (108 : UInt8), (32 : UInt8)]) (ByteArray.mk #[(41 : UInt8)] ++ x1) w3) ((3 : Int) ≠ (0 : Int) ∧ Sif (Int.tmod kind 3 == 2) (Sif (decide (IntKind.wrap .i64 (n1 + 1) < n)) ((↑(ByteArray.size x + 5) : Int) ≤ 9223372036854775807 ∧ (↑(1 + ByteArray.size x1) : Int) ≤ 9223372036854775807 ∧ J1 (x ++ ByteArray.mk #[(123 : UInt8), (91 : UInt8), (93 : UInt8), (58 : UInt8), (32 : UInt8)]) (ByteArray.mk #[(125 : UInt8)] ++ x1) w3) ((↑(ByteArray.size x + 1) : Int) ≤ 9223372036854775807 ∧ (↑(1 + ByteArray.size x1) : Int) ≤ 9223372036854775807 ∧ J1 (x ++ ByteArray.mk #[(91 : UInt8)]) (ByteArray.mk #[(93 : UInt8)] ++ x1) w3)) ((↑(ByteArray.size x + 1) : Int) ≤ 9223372036854775807 ∧ (↑(1 + ByteArray.size x1) : Int) ≤ 9223372036854775807 ∧ J1 (x ++ ByteArray.mk #[(91 : UInt8)]) (ByteArray.mk #[(93 : UInt8)] ++ x1) w3)))
  (∃ (J1 : ByteArray → World → Prop),
  (∀ x2 w4, J1 x2 w4 →
  (↑(ByteArray.size x + ByteArray.size x2) : Int) ≤ 9223372036854775807 ∧
  (↑(ByteArray.size (x ++ x2) + ByteArray.size x1) : Int) ≤ 9223372036854775807 ∧
  callP Tryz.prog 19 [.string (x ++ x2 ++ x1)] w4 fun v1 w5 =>
  ∃ n2 n3,
  ∃ s p,
  ∃ n4 c,
  ∃ n5 n6 n7,
  v1 = .tuple #[.agg #[.int .i64 n2, .int .u64 n3, .string s, .slice p n4 c, .int .i64 n5], .int .i64 n6, .int .i64 n7] ∧
  newB w5 [.int .i64 0, .int .u64 0, .string (ByteArray.mk #[]), .slice none 0 0, .int .i64 0] 26 fun a w6 =>
  st w6 (a.add 0) (.int .i64 n2) fun w7 =>
  st w7 (a.add 1) (.int .u64 n3) fun w8 =>
  st w8 (a.add 2) (.string s) fun w9 =>
  st w9 (a.add 3) (.slice p n4 c) fun w10 =>
  st w10 (a.add 4) (.int .i64 n5) fun w11 =>
  (↑(ByteArray.size x + ByteArray.size x2) : Int) ≤ 9223372036854775807 ∧
  0 ≤ IntKind.wrap .i64 ((↑(ByteArray.size x1) : Int) - 1) ∧
  IntKind.wrap .i64 ((↑(ByteArray.size x1) : Int) - 1) ≤ (↑(ByteArray.size x1) : Int) ∧
  (↑(ByteArray.size (x ++ x2) + ByteArray.size (ByteArray.extract x1 0 (Int.toNat (IntKind.wrap .i64 ((↑(ByteArray.size x1) : Int) - 1))))) : Int) ≤ 9223372036854775807 ∧
  callP Tryz.prog 19 [.string (x ++ x2 ++ ByteArray.extract x1 0 (Int.toNat (IntKind.wrap .i64 ((↑(ByteArray.size x1) : Int) - 1))))] w11 fun v2 w12 =>
  ∃ n8 n9,
  ∃ s1 p1,
  ∃ n10 c1,
  ∃ n11 n12 n13,
  v2 = .tuple #[.agg #[.int .i64 n8, .int .u64 n9, .string s1, .slice p1 n10 c1, .int .i64 n11], .int .i64 n12, .int .i64 n13] ∧
  newB w12 [.int .i64 0, .int .u64 0, .string (ByteArray.mk #[]), .slice none 0 0, .int .i64 0] 26 fun a1 w13 =>
  st w13 (a1.add 0) (.int .i64 n8) fun w14 =>
  st w14 (a1.add 1) (.int .u64 n9) fun w15 =>
  st w15 (a1.add 2) (.string s1) fun w16 =>
  st w16 (a1.add 3) (.slice p1 n10 c1) fun w17 =>
  st w17 (a1.add 4) (.int .i64 n11) fun w18 =>
  (↑(ByteArray.size x + ByteArray.size x2) : Int) ≤ 9223372036854775807 ∧
  (↑(ByteArray.size (x ++ x2) + ByteArray.size x1) : Int) ≤ 9223372036854775807 ∧
  (↑(ByteArray.size (x ++ x2 ++ x1) + 1) : Int) ≤ 9223372036854775807 ∧
  callP Tryz.prog 19 [.string (x ++ x2 ++ x1 ++ ByteArray.mk #[(93 : UInt8)])] w18 fun v3 w19 =>
  ∃ n14 n15,
  ∃ s2 p2,
  ∃ n16 c2,
  ∃ n17 n18 n19,
  v3 = .tuple #[.agg #[.int .i64 n14, .int .u64 n15, .string s2, .slice p2 n16 c2, .int .i64 n17], .int .i64 n18, .int .i64 n19] ∧
  newB w19 [.int .i64 0, .int .u64 0, .string (ByteArray.mk #[]), .slice none 0 0, .int .i64 0] 26 fun a2 w20 =>
  st w20 (a2.add 0) (.int .i64 n14) fun w21 =>
  st w21 (a2.add 1) (.int .u64 n15) fun w22 => st w22 (a2.add 2) (.string s2) fun w23 => st w23 (a2.add 3) (.slice p2 n16 c2) fun w24 => st w24 (a2.add 4) (.int .i64 n17) fun w25 => ∃ (J2 : Int → World → Prop), (∀ n20 w26, J2 n20 w26 → Sif (decide (n20 ≤ 32)) (∃ n21, w26.cell? (a.add 0) = some (.int .i64 n21) ∧ ∃ n22, w26.cell? (a.add 1) = some (.int .u64 n22) ∧ ∃ s3, w26.cell? (a.add 2) = some (.string s3) ∧ ∃ p3 n23 c3, w26.cell? (a.add 3) = some (.slice p3 n23 c3) ∧ ∃ n24, w26.cell? (a.add 4) = some (.int .i64 n24) ∧ callP Tryz.prog 16 [.agg #[.int .i64 n21, .int .u64 n22, .string s3, .slice p3 n23 c3, .int .i64 n24]] w26 fun v4 w27 => ∃ s4 n25, v4 = .tuple #[.string s4, .int .i64 n25] ∧ Sif b (Sif (n6 == 0) (Sif (n7 == 0) (Sif (n25 == 0) ((↑(ByteArray.size x + ByteArray.size x2) : Int) ≤ 9223372036854775807 ∧ (↑(ByteArray.size (x ++ x2) + ByteArray.size x1) : Int) ≤ 9223372036854775807 ∧ Sif (ByteArray.toList s4 == ByteArray.toList (x ++ x2 ++ x1)) (Sif (n13 == 43) (Sif (n19 == 44) ((↑(ByteArray.size x + ByteArray.size x2) : Int) ≤ 9223372036854775807 ∧ (↑(ByteArray.size (x ++ x2) + ByteArray.size x1) : Int) ≤ 9223372036854775807 ∧ K (.bool (n18 == (↑(ByteArray.size (x ++ x2 ++ x1)) : Int))) w27) (K (.bool false) w27)) (K (.bool false) w27)) (K (.bool false) w27)) (K (.bool false) w27)) (K (.bool false) w27)) (K (.bool false) w27)) (K (.bool false) w27)) (Sif b (Sif (n7 == 26) (Sif (n13 == 26) (Sif (n19 == 26) (Sif (decide (n6 > 0)) (Sif (decide (n6 < IntKind.wrap .i64 ((↑(ByteArray.size x) : Int) + 1))) (∃ n21, w26.cell? (a.add 0) = some (.int .i64 n21) ∧ Sif (n21 == 0) (∃ p3 n22 c3, w26.cell? (a.add 3) = some (.slice p3 n22 c3) ∧ K (.bool ((↑n22 : Int) == 0)) w26) (K (.bool false) w26)) (K (.bool false) w26)) (K (.bool false) w26)) (K (.bool false) w26)) (K (.bool false) w26)) (K (.bool false) w26)) (K (.bool false) w26))) ∧ (3 : Int) ≠ (0 : Int) ∧ Sif (Int.tmod kind 3 == 1) (nameI (IntKind.wrap .i64 (n + 1)) fun n20 => J2 n20 w25) (J2 n w25)) ∧
  (3 : Int) ≠ (0 : Int) ∧ Sif (Int.tmod kind 3 == 1) (J1 (ByteArray.mk #[(91 : UInt8), (93 : UInt8)]) w3) (J1 (ByteArray.mk #[]) w3))) ∧
  Sif (!decide (n < 1)) (Sif (decide (n > 3000)) (K (.bool b) w1) (J w1)) (K (.bool b) w1)
theorem eq_longshorelaw04_NoteDeep (n kind : Int) (w : World) (K : Value → World → Prop) : wpF Tryz.prog none Tryz.f12 (.two .leaf (.two .leaf (.two (.meet [] (.two .leaf (.two (.two .leaf .leaf) .leaf))) (.two .leaf (.two .leaf (.two (.two .leaf (.two (.loop [(6, .cell .str), (7, .cell .str), (8, .cell (.int .i64))] (.two (.two .leaf (.two .leaf .leaf)) (.two (.meet [(6, .cell .str), (7, .cell .str)] (.two (.two .leaf (.two (.two .leaf .leaf) (.two .leaf (.two (.two .leaf .leaf) (.two .leaf .leaf))))) .leaf)) .leaf))) .leaf)) (.two .leaf (.two (.meet [(9, .cell .str)] (.two .leaf (.two .leaf .leaf))) (.two .leaf (.two .leaf (.two .leaf (.two .leaf (.two (.meet [(19, .cell (.int .i64))] (.two .leaf (.two .leaf .leaf))) (.two (.two .leaf (.two (.two .leaf (.two .leaf .leaf)) .leaf)) (.two .leaf .leaf))))))))))))))) [Value.int .i64 n, Value.int .i64 kind] w K = wp_longshorelaw04_NoteDeep n kind w K := by kernel_rfl
theorem ok_longshorelaw04_NoteDeep {n kind : Int} {w : World} {K : Value → World → Prop} (hwp : wp_longshorelaw04_NoteDeep n kind w K) : callP Tryz.prog 12 [.int .i64 n, .int .i64 kind] w K :=
  calls_of Tryz.func12 ((eq_longshorelaw04_NoteDeep n kind w K).symm ▸ hwp)
end Go.Proofs.YtnacobknngidkaaGreatDoor
