/-
  What a call of each function comes to (definitions 'wp_..', reckoned by a program out of the model's code), and that it is sound ('ok_..'). Written by program (sv.py).
-/
import Derived.Test.YtipbbjnmpnfhpaaGreatDoorPr8
import Derived.Test.YtipbbjnmpnfhpaaGreatDoorProg
import Derived.KernelRfl
namespace Go.Proofs.YtipbbjnmpnfhpaaGreatDoor
open Go Go.Sv
set_option linter.unusedVariables false
set_option maxRecDepth 100000

/-- (longshore.queue.Queue).Take -/
def wp_queue_Queue_Take_n (q : Option Addr) (holder : Int) (w : World) (K : Value → World → Prop) : Prop :=
  newB w [.pointer q] 27 fun a w1 =>
  newB w1 [.int .i64 0, .int .i64 0, .int .i64 0, .bool false, .int .i64 0, .int .i64 0, .slice none 0 0] 34 fun a1 w2 =>
  Sif (decide (holder < 1)) (st w2 (a1.add 0) (.int .i64 0) fun w3 => st w3 (a1.add 1) (.int .i64 0) fun w4 => st w4 (a1.add 2) (.int .i64 0) fun w5 => st w5 (a1.add 3) (.bool false) fun w6 => st w6 (a1.add 4) (.int .i64 0) fun w7 => st w7 (a1.add 5) (.int .i64 0) fun w8 => st w8 (a1.add 6) (.slice none 0 0) fun w9 => ∃ n, w9.cell? (a1.add 0) = some (.int .i64 n) ∧ ∃ n1, w9.cell? (a1.add 1) = some (.int .i64 n1) ∧ ∃ n2, w9.cell? (a1.add 2) = some (.int .i64 n2) ∧ ∃ b, w9.cell? (a1.add 3) = some (.bool b) ∧ ∃ n3, w9.cell? (a1.add 4) = some (.int .i64 n3) ∧ ∃ n4, w9.cell? (a1.add 5) = some (.int .i64 n4) ∧ ∃ p n5 c, w9.cell? (a1.add 6) = some (.slice p n5 c) ∧ K (.tuple #[.agg #[.int .i64 n, .int .i64 n1, .int .i64 n2, .bool b, .int .i64 n3, .int .i64 n4, .slice p n5 c], .bool false]) w9)
  (newB w2 [.slice none 0 0] 24 fun a2 w3 =>
  ∃ (I : Nat → World → Prop),
  (∃ m, I m w3) ∧
  ∀ m w4, I m w4 →
  ∃ p,
  w4.cell? a = some (.pointer p) ∧
  nn p fun a3 =>
  ∃ p1 n c,
  w4.cell? (a3.add 5) = some (.slice p1 n c) ∧
  Sif (decide ((↑n : Int) > 0))
  (∃ p2,
  w4.cell? a = some (.pointer p2) ∧
  nn p2 fun a4 =>
  callP Tryz.prog 49 [.iface 88 (.pointer (some (a4.add 5)))] w4 fun v w5 =>
  ∃ v1,
  v = v1 ∧
  ∃ n1 n2,
  ∃ n3 b,
  ∃ n4 n5,
  ∃ p3 n6 c1,
  Sem.run Tryz.prog (Instr.typeAssert v1 20 34 false) w5 = Result.ok (.agg #[.int .i64 n1, .int .i64 n2, .int .i64 n3, .bool b, .int .i64 n4, .int .i64 n5, .slice p3 n6 c1]) w5 ∧
  newB w5 [.int .i64 0, .int .i64 0, .int .i64 0, .bool false, .int .i64 0, .int .i64 0, .slice none 0 0] 34 fun a5 w6 =>
  st w6 (a5.add 0) (.int .i64 n1) fun w7 =>
  st w7 (a5.add 1) (.int .i64 n2) fun w8 =>
  st w8 (a5.add 2) (.int .i64 n3) fun w9 =>
  st w9 (a5.add 3) (.bool b) fun w10 =>
  st w10 (a5.add 4) (.int .i64 n4) fun w11 =>
  st w11 (a5.add 5) (.int .i64 n5) fun w12 =>
  st w12 (a5.add 6) (.slice p3 n6 c1) fun w13 =>
  ∃ (J : World → Prop),
  (∀ w14, J w14 → ∃ p4 n7 c2, w14.cell? a2 = some (.slice p4 n7 c2) ∧ ∃ n8, w14.cell? (a5.add 0) = some (.int .i64 n8) ∧ ∃ n9, w14.cell? (a5.add 1) = some (.int .i64 n9) ∧ ∃ n10, w14.cell? (a5.add 2) = some (.int .i64 n10) ∧ ∃ b1, w14.cell? (a5.add 3) = some (.bool b1) ∧ ∃ n11, w14.cell? (a5.add 4) = some (.int .i64 n11) ∧ ∃ n12, w14.cell? (a5.add 5) = some (.int .i64 n12) ∧ ∃ p5 n13 c3, w14.cell? (a5.add 6) = some (.slice p5 n13 c3) ∧ newB w14 [.int .i64 n8, .int .i64 n9, .int .i64 n10, .bool b1, .int .i64 n11, .int .i64 n12, .slice p5 n13 c3] 34 fun a6 w15 => ∃ p6 n14, ∃ c4 w16, Sem.run Tryz.prog (Builtin.append_ #[24, 24] 24 #[.slice p4 n7 c2, .slice (some a6) 1 1]) w15 = Result.ok (.slice p6 n14 c4) w16 ∧ st w16 (a2.add 0) (.slice p6 n14 c4) fun w17 => ∃ m', m' < m ∧ I m' w17) ∧
  st w13 ((a5.add 5).add 0) (.int .i64 holder) fun w14 =>
  ∃ p4,
  w14.drew.cell? a = some (.pointer p4) ∧
  nn p4 fun a6 =>
  ∃ (r : Option Nat),
  w14.drew.cell? (a6.add 6) = some (.map r) ∧
  ∃ n7,
  w14.drew.cell? (a5.add 0) = some (.int .i64 n7) ∧
  ∃ n8,
  w14.drew.cell? (a5.add 0) = some (.int .i64 n8) ∧
  ∃ n9,
  w14.drew.cell? (a5.add 1) = some (.int .i64 n9) ∧
  ∃ n10,
  w14.drew.cell? (a5.add 2) = some (.int .i64 n10) ∧
  ∃ b1,
  w14.drew.cell? (a5.add 3) = some (.bool b1) ∧
  ∃ n11,
  w14.drew.cell? (a5.add 4) = some (.int .i64 n11) ∧
  ∃ n12,
  w14.drew.cell? (a5.add 5) = some (.int .i64 n12) ∧
  ∃ p5 n13 c2,
  w14.drew.cell? (a5.add 6) = some (.slice p5 n13 c2) ∧
  runU Tryz.prog (Instr.mapUpdate 63 (.map r) (.int .i64 n7) (.agg #[.int .i64 n8, .int .i64 n9, .int .i64 n10, .bool b1, .int .i64 n11, .int .i64 n12, .slice p5 n13 c2])) w14.drew fun w15 =>
  ∃ n14, w15.cell? (a5.add 0) = some (.int .i64 n14) ∧ ∃ n15, w15.cell? (a5.add 1) = some (.int .i64 n15) ∧ ∃ n16, w15.cell? (a5.add 2) = some (.int .i64 n16) ∧ ∃ b2, w15.cell? (a5.add 3) = some (.bool b2) ∧ ∃ n17, w15.cell? (a5.add 4) = some (.int .i64 n17) ∧ ∃ n18, w15.cell? (a5.add 5) = some (.int .i64 n18) ∧ ∃ p6 n19 c3, w15.cell? (a5.add 6) = some (.slice p6 n19 c3) ∧ callP Tryz.prog 27 [.agg #[.int .i64 n14, .int .i64 n15, .int .i64 n16, .bool b2, .int .i64 n17, .int .i64 n18, .slice p6 n19 c3]] w15 fun v2 w16 => ∃ n20 n21, ∃ n22 b3, ∃ n23 n24, ∃ p7 n25 c4, v2 = .agg #[.int .i64 n20, .int .i64 n21, .int .i64 n22, .bool b3, .int .i64 n23, .int .i64 n24, .slice p7 n25 c4] ∧ st w16 (a1.add 0) (.int .i64 n20) fun w17 => st w17 (a1.add 1) (.int .i64 n21) fun w18 => st w18 (a1.add 2) (.int .i64 n22) fun w19 => st w19 (a1.add 3) (.bool b3) fun w20 => st w20 (a1.add 4) (.int .i64 n23) fun w21 => st w21 (a1.add 5) (.int .i64 n24) fun w22 => st w22 (a1.add 6) (.slice p7 n25 c4) fun w23 => callD Tryz.prog 48 [.pointer (some a2), .pointer (some a)] w23 fun w24 => ∃ n26, w24.cell? (a1.add 0) = some (.int .i64 n26) ∧ ∃ n27, w24.cell? (a1.add 1) = some (.int .i64 n27) ∧ ∃ n28, w24.cell? (a1.add 2) = some (.int .i64 n28) ∧ ∃ b4, w24.cell? (a1.add 3) = some (.bool b4) ∧ ∃ n29, w24.cell? (a1.add 4) = some (.int .i64 n29) ∧ ∃ n30, w24.cell? (a1.add 5) = some (.int .i64 n30) ∧ ∃ p8 n31 c5, w24.cell? (a1.add 6) = some (.slice p8 n31 c5) ∧ K (.tuple #[.agg #[.int .i64 n26, .int .i64 n27, .int .i64 n28, .bool b4, .int .i64 n29, .int .i64 n30, .slice p8 n31 c5], .bool true]) w24)
  (st w4 (a1.add 0) (.int .i64 0) fun w5 => st w5 (a1.add 1) (.int .i64 0) fun w6 => st w6 (a1.add 2) (.int .i64 0) fun w7 => st w7 (a1.add 3) (.bool false) fun w8 => st w8 (a1.add 4) (.int .i64 0) fun w9 => st w9 (a1.add 5) (.int .i64 0) fun w10 => st w10 (a1.add 6) (.slice none 0 0) fun w11 => callD Tryz.prog 48 [.pointer (some a2), .pointer (some a)] w11 fun w12 => ∃ n1, w12.cell? (a1.add 0) = some (.int .i64 n1) ∧ ∃ n2, w12.cell? (a1.add 1) = some (.int .i64 n2) ∧ ∃ n3, w12.cell? (a1.add 2) = some (.int .i64 n3) ∧ ∃ b, w12.cell? (a1.add 3) = some (.bool b) ∧ ∃ n4, w12.cell? (a1.add 4) = some (.int .i64 n4) ∧ ∃ n5, w12.cell? (a1.add 5) = some (.int .i64 n5) ∧ ∃ p2 n6 c1, w12.cell? (a1.add 6) = some (.slice p2 n6 c1) ∧ K (.tuple #[.agg #[.int .i64 n1, .int .i64 n2, .int .i64 n3, .bool b, .int .i64 n4, .int .i64 n5, .slice p2 n6 c1], .bool false]) w12))
theorem eq_queue_Queue_Take_n (q : Option Addr) (holder : Int) (w : World) (K : Value → World → Prop) : wpF Tryz.prog none Tryz.f18 (.two .leaf (.two (.two .leaf (.two (.two .leaf .leaf) .leaf)) (.two .leaf (.two .leaf (.two (.two (.loop [] (.two (.two .leaf (.two .leaf .leaf)) (.two (.two .leaf (.two (.meet [] (.two .leaf (.two (.two .leaf (.two (.draw [4, 0, 1, 2, 3, 5, 6, 7]) (.two .leaf .leaf))) .leaf))) .leaf)) .leaf))) .leaf) (.two .leaf .leaf)))))) [Value.pointer q, Value.int .i64 holder, Value.nilFunc] w K = wp_queue_Queue_Take_n q holder w K := by kernel_rfl
theorem ok_queue_Queue_Take_n {q : Option Addr} {holder : Int} {w : World} {K : Value → World → Prop} (hwp : wp_queue_Queue_Take_n q holder w K) : callP Tryz.prog 18 [.pointer q, .int .i64 holder, .nilFunc] w K :=
  calls_of Tryz.func18 ((eq_queue_Queue_Take_n q holder w K).symm ▸ hwp)

/-- (longshore.queue.Queue).Take -/
def wp_queue_Queue_Take_f (q : Option Addr) (holder : Int) (fits : Fn) (fitsa fitsc : Array Value) (w : World) (K : Value → World → Prop) : Prop :=
  newB w [.pointer q] 27 fun a w1 =>
  newB w1 [.int .i64 0, .int .i64 0, .int .i64 0, .bool false, .int .i64 0, .int .i64 0, .slice none 0 0] 34 fun a1 w2 =>
  Sif (decide (holder < 1)) (st w2 (a1.add 0) (.int .i64 0) fun w3 => st w3 (a1.add 1) (.int .i64 0) fun w4 => st w4 (a1.add 2) (.int .i64 0) fun w5 => st w5 (a1.add 3) (.bool false) fun w6 => st w6 (a1.add 4) (.int .i64 0) fun w7 => st w7 (a1.add 5) (.int .i64 0) fun w8 => st w8 (a1.add 6) (.slice none 0 0) fun w9 => ∃ n, w9.cell? (a1.add 0) = some (.int .i64 n) ∧ ∃ n1, w9.cell? (a1.add 1) = some (.int .i64 n1) ∧ ∃ n2, w9.cell? (a1.add 2) = some (.int .i64 n2) ∧ ∃ b, w9.cell? (a1.add 3) = some (.bool b) ∧ ∃ n3, w9.cell? (a1.add 4) = some (.int .i64 n3) ∧ ∃ n4, w9.cell? (a1.add 5) = some (.int .i64 n4) ∧ ∃ p n5 c, w9.cell? (a1.add 6) = some (.slice p n5 c) ∧ K (.tuple #[.agg #[.int .i64 n, .int .i64 n1, .int .i64 n2, .bool b, .int .i64 n3, .int .i64 n4, .slice p n5 c], .bool false]) w9)
  (newB w2 [.slice none 0 0] 24 fun a2 w3 =>
  ∃ (I : Nat → World → Prop),
  (∃ m, I m w3) ∧
  ∀ m w4, I m w4 →
  ∃ p,
  w4.cell? a = some (.pointer p) ∧
  nn p fun a3 =>
  ∃ p1 n c,
  w4.cell? (a3.add 5) = some (.slice p1 n c) ∧
  Sif (decide ((↑n : Int) > 0))
  (∃ p2,
  w4.cell? a = some (.pointer p2) ∧
  nn p2 fun a4 =>
  callP Tryz.prog 49 [.iface 88 (.pointer (some (a4.add 5)))] w4 fun v w5 =>
  ∃ v1,
  v = v1 ∧
  ∃ n1 n2,
  ∃ n3 b,
  ∃ n4 n5,
  ∃ p3 n6 c1,
  Sem.run Tryz.prog (Instr.typeAssert v1 20 34 false) w5 = Result.ok (.agg #[.int .i64 n1, .int .i64 n2, .int .i64 n3, .bool b, .int .i64 n4, .int .i64 n5, .slice p3 n6 c1]) w5 ∧
  newB w5 [.int .i64 0, .int .i64 0, .int .i64 0, .bool false, .int .i64 0, .int .i64 0, .slice none 0 0] 34 fun a5 w6 =>
  st w6 (a5.add 0) (.int .i64 n1) fun w7 =>
  st w7 (a5.add 1) (.int .i64 n2) fun w8 =>
  st w8 (a5.add 2) (.int .i64 n3) fun w9 =>
  st w9 (a5.add 3) (.bool b) fun w10 =>
  st w10 (a5.add 4) (.int .i64 n4) fun w11 =>
  st w11 (a5.add 5) (.int .i64 n5) fun w12 =>
  st w12 (a5.add 6) (.slice p3 n6 c1) fun w13 =>
  ∃ (J : World → Prop),
  (∀ w14, J w14 → ∃ p4 n7 c2, w14.cell? a2 = some (.slice p4 n7 c2) ∧ ∃ n8, w14.cell? (a5.add 0) = some (.int .i64 n8) ∧ ∃ n9, w14.cell? (a5.add 1) = some (.int .i64 n9) ∧ ∃ n10, w14.cell? (a5.add 2) = some (.int .i64 n10) ∧ ∃ b1, w14.cell? (a5.add 3) = some (.bool b1) ∧ ∃ n11, w14.cell? (a5.add 4) = some (.int .i64 n11) ∧ ∃ n12, w14.cell? (a5.add 5) = some (.int .i64 n12) ∧ ∃ p5 n13 c3, w14.cell? (a5.add 6) = some (.slice p5 n13 c3) ∧ newB w14 [.int .i64 n8, .int .i64 n9, .int .i64 n10, .bool b1, .int .i64 n11, .int .i64 n12, .slice p5 n13 c3] 34 fun a6 w15 => ∃ p6 n14, ∃ c4 w16, Sem.run Tryz.prog (Builtin.append_ #[24, 24] 24 #[.slice p4 n7 c2, .slice (some a6) 1 1]) w15 = Result.ok (.slice p6 n14 c4) w16 ∧ st w16 (a2.add 0) (.slice p6 n14 c4) fun w17 => ∃ m', m' < m ∧ I m' w17) ∧
  ∃ n7,
  w13.cell? (a5.add 0) = some (.int .i64 n7) ∧
  ∃ n8,
  w13.cell? (a5.add 1) = some (.int .i64 n8) ∧
  ∃ n9,
  w13.cell? (a5.add 2) = some (.int .i64 n9) ∧
  ∃ b1,
  w13.cell? (a5.add 3) = some (.bool b1) ∧
  ∃ n10,
  w13.cell? (a5.add 4) = some (.int .i64 n10) ∧
  ∃ n11,
  w13.cell? (a5.add 5) = some (.int .i64 n11) ∧
  ∃ p4 n12 c2,
  w13.cell? (a5.add 6) = some (.slice p4 n12 c2) ∧
  callP Tryz.prog 27 [.agg #[.int .i64 n7, .int .i64 n8, .int .i64 n9, .bool b1, .int .i64 n10, .int .i64 n11, .slice p4 n12 c2]] w13 fun v2 w14 =>
  ∃ n13 n14,
  ∃ n15 b2,
  ∃ n16 n17,
  ∃ p5 n18 c3,
  v2 = .agg #[.int .i64 n13, .int .i64 n14, .int .i64 n15, .bool b2, .int .i64 n16, .int .i64 n17, .slice p5 n18 c3] ∧
  callV Tryz.prog none (.func fits fitsa fitsc) [.agg #[.int .i64 n13, .int .i64 n14, .int .i64 n15, .bool b2, .int .i64 n16, .int .i64 n17, .slice p5 n18 c3]] w14 fun v3 w15 =>
  ∃ b3,
  v3 = .bool b3 ∧
  Sif b3
  (st w15 ((a5.add 5).add 0) (.int .i64 holder) fun w16 =>
  ∃ p6,
  w16.drew.cell? a = some (.pointer p6) ∧
  nn p6 fun a6 =>
  ∃ (r : Option Nat),
  w16.drew.cell? (a6.add 6) = some (.map r) ∧
  ∃ n19,
  w16.drew.cell? (a5.add 0) = some (.int .i64 n19) ∧
  ∃ n20,
  w16.drew.cell? (a5.add 0) = some (.int .i64 n20) ∧
  ∃ n21,
  w16.drew.cell? (a5.add 1) = some (.int .i64 n21) ∧
  ∃ n22,
  w16.drew.cell? (a5.add 2) = some (.int .i64 n22) ∧
  ∃ b4,
  w16.drew.cell? (a5.add 3) = some (.bool b4) ∧
  ∃ n23,
  w16.drew.cell? (a5.add 4) = some (.int .i64 n23) ∧
  ∃ n24,
  w16.drew.cell? (a5.add 5) = some (.int .i64 n24) ∧
  ∃ p7 n25 c4,
  w16.drew.cell? (a5.add 6) = some (.slice p7 n25 c4) ∧
  runU Tryz.prog (Instr.mapUpdate 63 (.map r) (.int .i64 n19) (.agg #[.int .i64 n20, .int .i64 n21, .int .i64 n22, .bool b4, .int .i64 n23, .int .i64 n24, .slice p7 n25 c4])) w16.drew fun w17 =>
  ∃ n26,
  w17.cell? (a5.add 0) = some (.int .i64 n26) ∧
  ∃ n27, w17.cell? (a5.add 1) = some (.int .i64 n27) ∧ ∃ n28, w17.cell? (a5.add 2) = some (.int .i64 n28) ∧ ∃ b5, w17.cell? (a5.add 3) = some (.bool b5) ∧ ∃ n29, w17.cell? (a5.add 4) = some (.int .i64 n29) ∧ ∃ n30, w17.cell? (a5.add 5) = some (.int .i64 n30) ∧ ∃ p8 n31 c5, w17.cell? (a5.add 6) = some (.slice p8 n31 c5) ∧ callP Tryz.prog 27 [.agg #[.int .i64 n26, .int .i64 n27, .int .i64 n28, .bool b5, .int .i64 n29, .int .i64 n30, .slice p8 n31 c5]] w17 fun v4 w18 => ∃ n32 n33, ∃ n34 b6, ∃ n35 n36, ∃ p9 n37 c6, v4 = .agg #[.int .i64 n32, .int .i64 n33, .int .i64 n34, .bool b6, .int .i64 n35, .int .i64 n36, .slice p9 n37 c6] ∧ st w18 (a1.add 0) (.int .i64 n32) fun w19 => st w19 (a1.add 1) (.int .i64 n33) fun w20 => st w20 (a1.add 2) (.int .i64 n34) fun w21 => st w21 (a1.add 3) (.bool b6) fun w22 => st w22 (a1.add 4) (.int .i64 n35) fun w23 => st w23 (a1.add 5) (.int .i64 n36) fun w24 => st w24 (a1.add 6) (.slice p9 n37 c6) fun w25 => callD Tryz.prog 48 [.pointer (some a2), .pointer (some a)] w25 fun w26 => ∃ n38, w26.cell? (a1.add 0) = some (.int .i64 n38) ∧ ∃ n39, w26.cell? (a1.add 1) = some (.int .i64 n39) ∧ ∃ n40, w26.cell? (a1.add 2) = some (.int .i64 n40) ∧ ∃ b7, w26.cell? (a1.add 3) = some (.bool b7) ∧ ∃ n41, w26.cell? (a1.add 4) = some (.int .i64 n41) ∧ ∃ n42, w26.cell? (a1.add 5) = some (.int .i64 n42) ∧ ∃ p10 n43 c7, w26.cell? (a1.add 6) = some (.slice p10 n43 c7) ∧ K (.tuple #[.agg #[.int .i64 n38, .int .i64 n39, .int .i64 n40, .bool b7, .int .i64 n41, .int .i64 n42, .slice p10 n43 c7], .bool true]) w26)
  (J w15))
  (st w4 (a1.add 0) (.int .i64 0) fun w5 => st w5 (a1.add 1) (.int .i64 0) fun w6 => st w6 (a1.add 2) (.int .i64 0) fun w7 => st w7 (a1.add 3) (.bool false) fun w8 => st w8 (a1.add 4) (.int .i64 0) fun w9 => st w9 (a1.add 5) (.int .i64 0) fun w10 => st w10 (a1.add 6) (.slice none 0 0) fun w11 => callD Tryz.prog 48 [.pointer (some a2), .pointer (some a)] w11 fun w12 => ∃ n1, w12.cell? (a1.add 0) = some (.int .i64 n1) ∧ ∃ n2, w12.cell? (a1.add 1) = some (.int .i64 n2) ∧ ∃ n3, w12.cell? (a1.add 2) = some (.int .i64 n3) ∧ ∃ b, w12.cell? (a1.add 3) = some (.bool b) ∧ ∃ n4, w12.cell? (a1.add 4) = some (.int .i64 n4) ∧ ∃ n5, w12.cell? (a1.add 5) = some (.int .i64 n5) ∧ ∃ p2 n6 c1, w12.cell? (a1.add 6) = some (.slice p2 n6 c1) ∧ K (.tuple #[.agg #[.int .i64 n1, .int .i64 n2, .int .i64 n3, .bool b, .int .i64 n4, .int .i64 n5, .slice p2 n6 c1], .bool false]) w12))
theorem eq_queue_Queue_Take_f (q : Option Addr) (holder : Int) (fits : Fn) (fitsa fitsc : Array Value) (w : World) (K : Value → World → Prop) : wpF Tryz.prog none Tryz.f18 (.two .leaf (.two (.two .leaf (.two (.two .leaf .leaf) .leaf)) (.two .leaf (.two .leaf (.two (.two (.loop [] (.two (.two .leaf (.two .leaf .leaf)) (.two (.two .leaf (.two (.meet [] (.two .leaf (.two (.two .leaf (.two (.draw [4, 0, 1, 2, 3, 5, 6, 7]) (.two .leaf .leaf))) .leaf))) .leaf)) .leaf))) .leaf) (.two .leaf .leaf)))))) [Value.pointer q, Value.int .i64 holder, Value.func fits fitsa fitsc] w K = wp_queue_Queue_Take_f q holder fits fitsa fitsc w K := by kernel_rfl
theorem ok_queue_Queue_Take_f {q : Option Addr} {holder : Int} {fits : Fn} {fitsa fitsc : Array Value} {w : World} {K : Value → World → Prop} (hwp : wp_queue_Queue_Take_f q holder fits fitsa fitsc w K) : callP Tryz.prog 18 [.pointer q, .int .i64 holder, .func fits fitsa fitsc] w K :=
  calls_of Tryz.func18 ((eq_queue_Queue_Take_f q holder fits fitsa fitsc w K).symm ▸ hwp)

/-- (longshore.queue.Queue).Take$1 -/
def wp_queue_Queue_Take_1 (cap0 cap1 : Option Addr) (w : World) (K : Value → World → Prop) : Prop :=
  nn cap0 fun a =>
  ∃ p n c,
  w.cell? a = some (.slice p n c) ∧
  ∃ (I : Nat → Int → World → Prop),
  (∃ m, I m 0 w) ∧
  ∀ m n1 w1, I m n1 w1 →
  Sif (decide (n1 < (↑n : Int)))
  (0 ≤ n1 ∧
  n1 < (↑n : Int) ∧
  nn p fun a1 =>
  ∃ n2,
  w1.cell? (Addr.add (a1.add (Int.toNat n1 * 7)) 0) = some (.int .i64 n2) ∧
  ∃ n3, w1.cell? (Addr.add (a1.add (Int.toNat n1 * 7)) 1) = some (.int .i64 n3) ∧ ∃ n4, w1.cell? (Addr.add (a1.add (Int.toNat n1 * 7)) 2) = some (.int .i64 n4) ∧ ∃ b, w1.cell? (Addr.add (a1.add (Int.toNat n1 * 7)) 3) = some (.bool b) ∧ ∃ n5, w1.cell? (Addr.add (a1.add (Int.toNat n1 * 7)) 4) = some (.int .i64 n5) ∧ ∃ n6, w1.cell? (Addr.add (a1.add (Int.toNat n1 * 7)) 5) = some (.int .i64 n6) ∧ ∃ p1 n7 c1, w1.cell? (Addr.add (a1.add (Int.toNat n1 * 7)) 6) = some (.slice p1 n7 c1) ∧ newB w1 [.int .i64 0, .int .i64 0, .int .i64 0, .bool false, .int .i64 0, .int .i64 0, .slice none 0 0] 34 fun a2 w2 => st w2 (a2.add 0) (.int .i64 n2) fun w3 => st w3 (a2.add 1) (.int .i64 n3) fun w4 => st w4 (a2.add 2) (.int .i64 n4) fun w5 => st w5 (a2.add 3) (.bool b) fun w6 => st w6 (a2.add 4) (.int .i64 n5) fun w7 => st w7 (a2.add 5) (.int .i64 n6) fun w8 => st w8 (a2.add 6) (.slice p1 n7 c1) fun w9 => nn cap1 fun a3 => ∃ p2, w9.drew.cell? a3 = some (.pointer p2) ∧ nn p2 fun a4 => ∃ n8, w9.drew.cell? (a2.add 0) = some (.int .i64 n8) ∧ ∃ n9, w9.drew.cell? (a2.add 1) = some (.int .i64 n9) ∧ ∃ n10, w9.drew.cell? (a2.add 2) = some (.int .i64 n10) ∧ ∃ b1, w9.drew.cell? (a2.add 3) = some (.bool b1) ∧ ∃ n11, w9.drew.cell? (a2.add 4) = some (.int .i64 n11) ∧ ∃ n12, w9.drew.cell? (a2.add 5) = some (.int .i64 n12) ∧ ∃ p3 n13 c2, w9.drew.cell? (a2.add 6) = some (.slice p3 n13 c2) ∧ callP Tryz.prog 47 [.iface 88 (.pointer (some (a4.add 5))), .iface 34 (.agg #[.int .i64 n8, .int .i64 n9, .int .i64 n10, .bool b1, .int .i64 n11, .int .i64 n12, .slice p3 n13 c2])] w9.drew fun v w10 => v = .tuple #[] ∧ ∃ m', m' < m ∧ I m' (IntKind.wrap .i64 (n1 + 1)) w10)
  (K (.tuple #[]) w1)
theorem eq_queue_Queue_Take_1 (cap0 cap1 : Option Addr) (w : World) (K : Value → World → Prop) : wpF Tryz.prog none Tryz.f48 (.two .leaf (.two (.loop [(6, .cell (.int .i64))] (.two .leaf (.two (.two .leaf .leaf) (.two (.two (.two .leaf (.draw [0, 1, 2, 3, 4, 5, 6])) .leaf) .leaf)))) .leaf)) [Value.pointer cap0, Value.pointer cap1] w K = wp_queue_Queue_Take_1 cap0 cap1 w K := by kernel_rfl
/-- (longshore.queue.Queue).Peek -/
def wp_queue_Queue_Peek_n (q : Option Addr) (behind : Int) (w : World) (K : Value → World → Prop) : Prop :=
  newB w [.int .i64 0, .int .i64 0, .int .i64 0, .bool false, .int .i64 0, .int .i64 0, .slice none 0 0] 34 fun a w1 =>
  nn q fun a1 =>
  ∃ p n c,
  w1.cell? (a1.add 5) = some (.slice p n c) ∧
  callP Tryz.prog 94 [.slice p n c] w1 fun v w2 =>
  ∃ p1 n1 c1,
  v = .slice p1 n1 c1 ∧
  callP Tryz.prog 95 [.slice p1 n1 c1, .func (Fn.func 96) #[] #[]] w2 fun v1 w3 =>
  v1 = .tuple #[] ∧
  ∃ (I : Nat → Int → World → Prop),
  (∃ m, I m 0 w3) ∧
  ∀ m n2 w4, I m n2 w4 →
  Sif (decide (n2 < (↑n1 : Int)))
  (∃ (J : World → Prop),
  (∀ w5, J w5 → ∃ m', m' < m ∧ I m' (IntKind.wrap .i64 (n2 + 1)) w5) ∧
  0 ≤ n2 ∧
  n2 < (↑n1 : Int) ∧
  nn p1 fun a2 =>
  ∃ n3,
  w4.cell? (Addr.add (a2.add (Int.toNat n2 * 7)) 0) = some (.int .i64 n3) ∧
  ∃ n4,
  w4.cell? (Addr.add (a2.add (Int.toNat n2 * 7)) 1) = some (.int .i64 n4) ∧
  ∃ n5,
  w4.cell? (Addr.add (a2.add (Int.toNat n2 * 7)) 2) = some (.int .i64 n5) ∧
  ∃ b,
  w4.cell? (Addr.add (a2.add (Int.toNat n2 * 7)) 3) = some (.bool b) ∧
  ∃ n6,
  w4.cell? (Addr.add (a2.add (Int.toNat n2 * 7)) 4) = some (.int .i64 n6) ∧
  ∃ n7,
  w4.cell? (Addr.add (a2.add (Int.toNat n2 * 7)) 5) = some (.int .i64 n7) ∧
  ∃ p2 n8 c2,
  w4.cell? (Addr.add (a2.add (Int.toNat n2 * 7)) 6) = some (.slice p2 n8 c2) ∧
  newB w4 [.int .i64 0, .int .i64 0, .int .i64 0, .bool false, .int .i64 0, .int .i64 0, .slice none 0 0] 34 fun a3 w5 =>
  st w5 (a3.add 0) (.int .i64 n3) fun w6 =>
  st w6 (a3.add 1) (.int .i64 n4) fun w7 =>
  st w7 (a3.add 2) (.int .i64 n5) fun w8 =>
  st w8 (a3.add 3) (.bool b) fun w9 =>
  st w9 (a3.add 4) (.int .i64 n6) fun w10 =>
  st w10 (a3.add 5) (.int .i64 n7) fun w11 =>
  st w11 (a3.add 6) (.slice p2 n8 c2) fun w12 =>
  ∃ n9, w12.cell? (a3.add 0) = some (.int .i64 n9) ∧ Sif (decide (n9 > behind)) (∃ n10, w12.cell? (a3.add 0) = some (.int .i64 n10) ∧ ∃ n11, w12.cell? (a3.add 1) = some (.int .i64 n11) ∧ ∃ n12, w12.cell? (a3.add 2) = some (.int .i64 n12) ∧ ∃ b1, w12.cell? (a3.add 3) = some (.bool b1) ∧ ∃ n13, w12.cell? (a3.add 4) = some (.int .i64 n13) ∧ ∃ n14, w12.cell? (a3.add 5) = some (.int .i64 n14) ∧ ∃ p3 n15 c3, w12.cell? (a3.add 6) = some (.slice p3 n15 c3) ∧ callP Tryz.prog 27 [.agg #[.int .i64 n10, .int .i64 n11, .int .i64 n12, .bool b1, .int .i64 n13, .int .i64 n14, .slice p3 n15 c3]] w12 fun v2 w13 => ∃ n16 n17, ∃ n18 b2, ∃ n19 n20, ∃ p4 n21 c4, v2 = .agg #[.int .i64 n16, .int .i64 n17, .int .i64 n18, .bool b2, .int .i64 n19, .int .i64 n20, .slice p4 n21 c4] ∧ st w13 (a.add 0) (.int .i64 n16) fun w14 => st w14 (a.add 1) (.int .i64 n17) fun w15 => st w15 (a.add 2) (.int .i64 n18) fun w16 => st w16 (a.add 3) (.bool b2) fun w17 => st w17 (a.add 4) (.int .i64 n19) fun w18 => st w18 (a.add 5) (.int .i64 n20) fun w19 => st w19 (a.add 6) (.slice p4 n21 c4) fun w20 => ∃ n22, w20.cell? (a.add 0) = some (.int .i64 n22) ∧ ∃ n23, w20.cell? (a.add 1) = some (.int .i64 n23) ∧ ∃ n24, w20.cell? (a.add 2) = some (.int .i64 n24) ∧ ∃ b3, w20.cell? (a.add 3) = some (.bool b3) ∧ ∃ n25, w20.cell? (a.add 4) = some (.int .i64 n25) ∧ ∃ n26, w20.cell? (a.add 5) = some (.int .i64 n26) ∧ ∃ p5 n27 c5, w20.cell? (a.add 6) = some (.slice p5 n27 c5) ∧ K (.tuple #[.agg #[.int .i64 n22, .int .i64 n23, .int .i64 n24, .bool b3, .int .i64 n25, .int .i64 n26, .slice p5 n27 c5], .bool true]) w20) (J w12))
  (st w4 (a.add 0) (.int .i64 0) fun w5 => st w5 (a.add 1) (.int .i64 0) fun w6 => st w6 (a.add 2) (.int .i64 0) fun w7 => st w7 (a.add 3) (.bool false) fun w8 => st w8 (a.add 4) (.int .i64 0) fun w9 => st w9 (a.add 5) (.int .i64 0) fun w10 => st w10 (a.add 6) (.slice none 0 0) fun w11 => ∃ n3, w11.cell? (a.add 0) = some (.int .i64 n3) ∧ ∃ n4, w11.cell? (a.add 1) = some (.int .i64 n4) ∧ ∃ n5, w11.cell? (a.add 2) = some (.int .i64 n5) ∧ ∃ b, w11.cell? (a.add 3) = some (.bool b) ∧ ∃ n6, w11.cell? (a.add 4) = some (.int .i64 n6) ∧ ∃ n7, w11.cell? (a.add 5) = some (.int .i64 n7) ∧ ∃ p2 n8 c2, w11.cell? (a.add 6) = some (.slice p2 n8 c2) ∧ K (.tuple #[.agg #[.int .i64 n3, .int .i64 n4, .int .i64 n5, .bool b, .int .i64 n6, .int .i64 n7, .slice p2 n8 c2], .bool false]) w11)
theorem eq_queue_Queue_Peek_n (q : Option Addr) (behind : Int) (w : World) (K : Value → World → Prop) : wpF Tryz.prog none Tryz.f63 (.two .leaf (.two .leaf (.two .leaf (.two (.two .leaf (.two (.loop [(20, .cell (.int .i64))] (.two .leaf (.two (.two .leaf .leaf) (.two (.meet [] (.two (.two .leaf (.two .leaf (.two (.two .leaf .leaf) .leaf))) .leaf)) .leaf)))) .leaf)) (.two .leaf .leaf))))) [Value.pointer q, Value.int .i64 behind, Value.nilFunc] w K = wp_queue_Queue_Peek_n q behind w K := by kernel_rfl
theorem ok_queue_Queue_Peek_n {q : Option Addr} {behind : Int} {w : World} {K : Value → World → Prop} (hwp : wp_queue_Queue_Peek_n q behind w K) : callP Tryz.prog 63 [.pointer q, .int .i64 behind, .nilFunc] w K :=
  calls_of Tryz.func63 ((eq_queue_Queue_Peek_n q behind w K).symm ▸ hwp)

/-- (longshore.queue.Queue).Peek -/
def wp_queue_Queue_Peek_f (q : Option Addr) (behind : Int) (fits : Fn) (fitsa fitsc : Array Value) (w : World) (K : Value → World → Prop) : Prop :=
  newB w [.int .i64 0, .int .i64 0, .int .i64 0, .bool false, .int .i64 0, .int .i64 0, .slice none 0 0] 34 fun a w1 =>
  nn q fun a1 =>
  ∃ p n c,
  w1.cell? (a1.add 5) = some (.slice p n c) ∧
  callP Tryz.prog 94 [.slice p n c] w1 fun v w2 =>
  ∃ p1 n1 c1,
  v = .slice p1 n1 c1 ∧
  callP Tryz.prog 95 [.slice p1 n1 c1, .func (Fn.func 96) #[] #[]] w2 fun v1 w3 =>
  v1 = .tuple #[] ∧
  ∃ (I : Nat → Int → World → Prop),
  (∃ m, I m 0 w3) ∧
  ∀ m n2 w4, I m n2 w4 →
  Sif (decide (n2 < (↑n1 : Int)))
  (∃ (J : World → Prop),
  (∀ w5, J w5 → ∃ m', m' < m ∧ I m' (IntKind.wrap .i64 (n2 + 1)) w5) ∧
  0 ≤ n2 ∧
  n2 < (↑n1 : Int) ∧
  nn p1 fun a2 =>
  ∃ n3,
  w4.cell? (Addr.add (a2.add (Int.toNat n2 * 7)) 0) = some (.int .i64 n3) ∧
  ∃ n4,
  w4.cell? (Addr.add (a2.add (Int.toNat n2 * 7)) 1) = some (.int .i64 n4) ∧
  ∃ n5,
  w4.cell? (Addr.add (a2.add (Int.toNat n2 * 7)) 2) = some (.int .i64 n5) ∧
  ∃ b,
  w4.cell? (Addr.add (a2.add (Int.toNat n2 * 7)) 3) = some (.bool b) ∧
  ∃ n6,
  w4.cell? (Addr.add (a2.add (Int.toNat n2 * 7)) 4) = some (.int .i64 n6) ∧
  ∃ n7,
  w4.cell? (Addr.add (a2.add (Int.toNat n2 * 7)) 5) = some (.int .i64 n7) ∧
  ∃ p2 n8 c2,
  w4.cell? (Addr.add (a2.add (Int.toNat n2 * 7)) 6) = some (.slice p2 n8 c2) ∧
  newB w4 [.int .i64 0, .int .i64 0, .int .i64 0, .bool false, .int .i64 0, .int .i64 0, .slice none 0 0] 34 fun a3 w5 =>
  st w5 (a3.add 0) (.int .i64 n3) fun w6 =>
  st w6 (a3.add 1) (.int .i64 n4) fun w7 =>
  st w7 (a3.add 2) (.int .i64 n5) fun w8 =>
  st w8 (a3.add 3) (.bool b) fun w9 =>
  st w9 (a3.add 4) (.int .i64 n6) fun w10 =>
  st w10 (a3.add 5) (.int .i64 n7) fun w11 =>
  st w11 (a3.add 6) (.slice p2 n8 c2) fun w12 =>
  ∃ n9,
  w12.cell? (a3.add 0) = some (.int .i64 n9) ∧
  Sif (decide (n9 > behind))
  (∃ n10,
  w12.cell? (a3.add 0) = some (.int .i64 n10) ∧
  ∃ n11,
  w12.cell? (a3.add 1) = some (.int .i64 n11) ∧
  ∃ n12,
  w12.cell? (a3.add 2) = some (.int .i64 n12) ∧
  ∃ b1,
  w12.cell? (a3.add 3) = some (.bool b1) ∧
  ∃ n13,
  w12.cell? (a3.add 4) = some (.int .i64 n13) ∧
  ∃ n14,
  w12.cell? (a3.add 5) = some (.int .i64 n14) ∧
  ∃ p3 n15 c3,
  w12.cell? (a3.add 6) = some (.slice p3 n15 c3) ∧
  callP Tryz.prog 27 [.agg #[.int .i64 n10, .int .i64 n11, .int .i64 n12, .bool b1, .int .i64 n13, .int .i64 n14, .slice p3 n15 c3]] w12 fun v2 w13 =>
  ∃ n16 n17,
  ∃ n18 b2,
  ∃ n19 n20,
  ∃ p4 n21 c4,
  v2 = .agg #[.int .i64 n16, .int .i64 n17, .int .i64 n18, .bool b2, .int .i64 n19, .int .i64 n20, .slice p4 n21 c4] ∧
  callV Tryz.prog none (.func fits fitsa fitsc) [.agg #[.int .i64 n16, .int .i64 n17, .int .i64 n18, .bool b2, .int .i64 n19, .int .i64 n20, .slice p4 n21 c4]] w13 fun v3 w14 =>
  ∃ b3, v3 = .bool b3 ∧ Sif b3 (∃ n22, w14.cell? (a3.add 0) = some (.int .i64 n22) ∧ ∃ n23, w14.cell? (a3.add 1) = some (.int .i64 n23) ∧ ∃ n24, w14.cell? (a3.add 2) = some (.int .i64 n24) ∧ ∃ b4, w14.cell? (a3.add 3) = some (.bool b4) ∧ ∃ n25, w14.cell? (a3.add 4) = some (.int .i64 n25) ∧ ∃ n26, w14.cell? (a3.add 5) = some (.int .i64 n26) ∧ ∃ p5 n27 c5, w14.cell? (a3.add 6) = some (.slice p5 n27 c5) ∧ callP Tryz.prog 27 [.agg #[.int .i64 n22, .int .i64 n23, .int .i64 n24, .bool b4, .int .i64 n25, .int .i64 n26, .slice p5 n27 c5]] w14 fun v4 w15 => ∃ n28 n29, ∃ n30 b5, ∃ n31 n32, ∃ p6 n33 c6, v4 = .agg #[.int .i64 n28, .int .i64 n29, .int .i64 n30, .bool b5, .int .i64 n31, .int .i64 n32, .slice p6 n33 c6] ∧ st w15 (a.add 0) (.int .i64 n28) fun w16 => st w16 (a.add 1) (.int .i64 n29) fun w17 => st w17 (a.add 2) (.int .i64 n30) fun w18 => st w18 (a.add 3) (.bool b5) fun w19 => st w19 (a.add 4) (.int .i64 n31) fun w20 => st w20 (a.add 5) (.int .i64 n32) fun w21 => st w21 (a.add 6) (.slice p6 n33 c6) fun w22 => ∃ n34, w22.cell? (a.add 0) = some (.int .i64 n34) ∧ ∃ n35, w22.cell? (a.add 1) = some (.int .i64 n35) ∧ ∃ n36, w22.cell? (a.add 2) = some (.int .i64 n36) ∧ ∃ b6, w22.cell? (a.add 3) = some (.bool b6) ∧ ∃ n37, w22.cell? (a.add 4) = some (.int .i64 n37) ∧ ∃ n38, w22.cell? (a.add 5) = some (.int .i64 n38) ∧ ∃ p7 n39 c7, w22.cell? (a.add 6) = some (.slice p7 n39 c7) ∧ K (.tuple #[.agg #[.int .i64 n34, .int .i64 n35, .int .i64 n36, .bool b6, .int .i64 n37, .int .i64 n38, .slice p7 n39 c7], .bool true]) w22) (J w14))
  (J w12))
  (st w4 (a.add 0) (.int .i64 0) fun w5 => st w5 (a.add 1) (.int .i64 0) fun w6 => st w6 (a.add 2) (.int .i64 0) fun w7 => st w7 (a.add 3) (.bool false) fun w8 => st w8 (a.add 4) (.int .i64 0) fun w9 => st w9 (a.add 5) (.int .i64 0) fun w10 => st w10 (a.add 6) (.slice none 0 0) fun w11 => ∃ n3, w11.cell? (a.add 0) = some (.int .i64 n3) ∧ ∃ n4, w11.cell? (a.add 1) = some (.int .i64 n4) ∧ ∃ n5, w11.cell? (a.add 2) = some (.int .i64 n5) ∧ ∃ b, w11.cell? (a.add 3) = some (.bool b) ∧ ∃ n6, w11.cell? (a.add 4) = some (.int .i64 n6) ∧ ∃ n7, w11.cell? (a.add 5) = some (.int .i64 n7) ∧ ∃ p2 n8 c2, w11.cell? (a.add 6) = some (.slice p2 n8 c2) ∧ K (.tuple #[.agg #[.int .i64 n3, .int .i64 n4, .int .i64 n5, .bool b, .int .i64 n6, .int .i64 n7, .slice p2 n8 c2], .bool false]) w11)
theorem eq_queue_Queue_Peek_f (q : Option Addr) (behind : Int) (fits : Fn) (fitsa fitsc : Array Value) (w : World) (K : Value → World → Prop) : wpF Tryz.prog none Tryz.f63 (.two .leaf (.two .leaf (.two .leaf (.two (.two .leaf (.two (.loop [(20, .cell (.int .i64))] (.two .leaf (.two (.two .leaf .leaf) (.two (.meet [] (.two (.two .leaf (.two .leaf (.two (.two .leaf .leaf) .leaf))) .leaf)) .leaf)))) .leaf)) (.two .leaf .leaf))))) [Value.pointer q, Value.int .i64 behind, Value.func fits fitsa fitsc] w K = wp_queue_Queue_Peek_f q behind fits fitsa fitsc w K := by kernel_rfl
theorem ok_queue_Queue_Peek_f {q : Option Addr} {behind : Int} {fits : Fn} {fitsa fitsc : Array Value} {w : World} {K : Value → World → Prop} (hwp : wp_queue_Queue_Peek_f q behind fits fitsa fitsc w K) : callP Tryz.prog 63 [.pointer q, .int .i64 behind, .func fits fitsa fitsc] w K :=
  calls_of Tryz.func63 ((eq_queue_Queue_Peek_f q behind fits fitsa fitsc w K).symm ▸ hwp)

end Go.Proofs.YtipbbjnmpnfhpaaGreatDoor
