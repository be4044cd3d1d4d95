/-
  What a call of each function comes to (definitions 'wp_..', reckoned by a program out of the model's code), and that it is sound ('ok_..'). Written by program (sv.py).
-/
import Derived.Test.YtipbbjnmpnfhpaaGreatDoorPr4
import Derived.Test.YtipbbjnmpnfhpaaGreatDoorProg
import Derived.KernelRfl
namespace Go.Proofs.YtipbbjnmpnfhpaaGreatDoor
open Go Go.Sv
set_option linter.unusedVariables false
set_option maxRecDepth 100000

/-- longshore.queue.New -/
def wp_queue_New (c_0 : ByteArray) (c_1 : Int) (c_2 : ByteArray) (c_3 : Int) (c_4 : Bool) (w : World) (K : Value → World → Prop) : Prop :=
  newB w [.string c_0, .int .i64 c_1, .string c_2, .int .i64 c_3, .bool c_4] 23 fun a w1 => ∃ (J : World → Prop), (∀ w2, J w2 → ∃ s, w2.cell? (a.add 0) = some (.string s) ∧ ∃ n, w2.cell? (a.add 1) = some (.int .i64 n) ∧ ∃ s1, w2.cell? (a.add 2) = some (.string s1) ∧ ∃ n1, w2.cell? (a.add 3) = some (.int .i64 n1) ∧ ∃ b, w2.cell? (a.add 4) = some (.bool b) ∧ ∃ (r : Option Nat) (w3 : World), Sem.run Tryz.prog (Instr.makeMap 63 none) w2 = Result.ok (.map r) w3 ∧ newB w3 [.string s, .int .i64 n, .string s1, .int .i64 n1, .bool b, .slice none 0 0, .map r, .int .i64 0] 66 fun a1 w4 => K (.pointer (some a1)) w4) ∧ ∃ s, w1.cell? (a.add 0) = some (.string s) ∧ callP Tryz.prog 21 [.string s] w1 fun v w2 => ∃ b, v = .bool b ∧ Sif (!!b) (∃ n, w2.cell? (a.add 1) = some (.int .i64 n) ∧ Sif (!decide (n < 1)) (∃ n1, w2.cell? (a.add 1) = some (.int .i64 n1) ∧ Sif (!decide (n1 > 4096)) (∃ n2, w2.cell? (a.add 3) = some (.int .i64 n2) ∧ Sif (!decide (n2 < 0)) (∃ n3, w2.cell? (a.add 3) = some (.int .i64 n3) ∧ Sif (decide (n3 > 4294967295)) (K (.pointer none) w2) (∃ s1, w2.cell? (a.add 2) = some (.string s1) ∧ Sif (!ByteArray.toList s1 == ByteArray.toList (ByteArray.mk #[])) (∃ s2, w2.cell? (a.add 2) = some (.string s2) ∧ callP Tryz.prog 21 [.string s2] w2 fun v1 w3 => ∃ b1, v1 = .bool b1 ∧ Sif (!!b1) (∃ s3, w3.cell? (a.add 2) = some (.string s3) ∧ ∃ s4, w3.cell? (a.add 0) = some (.string s4) ∧ Sif (ByteArray.toList s3 == ByteArray.toList s4) (K (.pointer none) w3) (J w3)) (K (.pointer none) w3)) (J w2))) (K (.pointer none) w2)) (K (.pointer none) w2)) (K (.pointer none) w2)) (K (.pointer none) w2)
theorem eq_queue_New (c_0 : ByteArray) (c_1 : Int) (c_2 : ByteArray) (c_3 : Int) (c_4 : Bool) (w : World) (K : Value → World → Prop) : wpF Tryz.prog none Tryz.f6 (.two .leaf (.two (.meet [] (.two (.two .leaf (.two (.two .leaf .leaf) (.two .leaf (.two (.two .leaf .leaf) .leaf)))) .leaf)) (.two .leaf .leaf))) [Value.agg #[Value.string c_0, Value.int .i64 c_1, Value.string c_2, Value.int .i64 c_3, Value.bool c_4]] w K = wp_queue_New c_0 c_1 c_2 c_3 c_4 w K := by kernel_rfl
theorem ok_queue_New {c_0 : ByteArray} {c_1 : Int} {c_2 : ByteArray} {c_3 : Int} {c_4 : Bool} {w : World} {K : Value → World → Prop} (hwp : wp_queue_New c_0 c_1 c_2 c_3 c_4 w K) : callP Tryz.prog 6 [.agg #[.string c_0, .int .i64 c_1, .string c_2, .int .i64 c_3, .bool c_4]] w K :=
  calls_of Tryz.func6 ((eq_queue_New c_0 c_1 c_2 c_3 c_4 w K).symm ▸ hwp)

/-- longshore.queue.named -/
def wp_queue_named (s : ByteArray) (w : World) (K : Value → World → Prop) : Prop :=
  Sif (decide ((↑(ByteArray.size s) : Int) ≥ 1)) (Sif (decide ((↑(ByteArray.size s) : Int) ≤ 64)) (callP Tryz.prog 50 [.string s, .string (ByteArray.mk #[(97 : UInt8), (98 : UInt8), (99 : UInt8), (100 : UInt8), (101 : UInt8), (102 : UInt8), (103 : UInt8), (104 : UInt8), (105 : UInt8), (106 : UInt8), (107 : UInt8), (108 : UInt8), (109 : UInt8), (110 : UInt8), (111 : UInt8), (112 : UInt8), (113 : UInt8), (114 : UInt8), (115 : UInt8), (116 : UInt8), (117 : UInt8), (118 : UInt8), (119 : UInt8), (120 : UInt8), (121 : UInt8), (122 : UInt8), (48 : UInt8), (49 : UInt8), (50 : UInt8), (51 : UInt8), (52 : UInt8), (53 : UInt8), (54 : UInt8), (55 : UInt8), (56 : UInt8), (57 : UInt8), (45 : UInt8), (46 : UInt8), (95 : UInt8)])] w fun v w1 => ∃ s1, v = .string s1 ∧ K (.bool (ByteArray.toList s1 == ByteArray.toList (ByteArray.mk #[]))) w1) (K (.bool false) w)) (K (.bool false) w)
theorem eq_queue_named (s : ByteArray) (w : World) (K : Value → World → Prop) : wpF Tryz.prog none Tryz.f21 (.two .leaf (.two .leaf .leaf)) [Value.string s] w K = wp_queue_named s w K := by kernel_rfl
theorem ok_queue_named {s : ByteArray} {w : World} {K : Value → World → Prop} (hwp : wp_queue_named s w K) : callP Tryz.prog 21 [.string s] w K :=
  calls_of Tryz.func21 ((eq_queue_named s w K).symm ▸ hwp)

/-- longshore.queue.own -/
def wp_queue_own (e_0 e_1 e_2 : Int) (e_3 : Bool) (e_4 e_5 : Int) (e_6 : Option Addr) (e_6n e_6c : Nat) (w : World) (K : Value → World → Prop) : Prop :=
  newB w [.int .i64 e_0, .int .i64 e_1, .int .i64 e_2, .bool e_3, .int .i64 e_4, .int .i64 e_5, .slice e_6 e_6n e_6c] 34 fun a w1 => newB w1 [.int .i64 0, .int .i64 0, .int .i64 0, .bool false, .int .i64 0, .int .i64 0, .slice none 0 0] 34 fun a1 w2 => ∃ p n c, w2.cell? (a.add 6) = some (.slice p n c) ∧ callP Tryz.prog 53 [.slice p n c] w2 fun v w3 => ∃ p1 n1 c1, v = .slice p1 n1 c1 ∧ st w3 ((a.add 6).add 0) (.slice p1 n1 c1) fun w4 => ∃ n2, w4.cell? (a.add 0) = some (.int .i64 n2) ∧ ∃ n3, w4.cell? (a.add 1) = some (.int .i64 n3) ∧ ∃ n4, w4.cell? (a.add 2) = some (.int .i64 n4) ∧ ∃ b, w4.cell? (a.add 3) = some (.bool b) ∧ ∃ n5, w4.cell? (a.add 4) = some (.int .i64 n5) ∧ ∃ n6, w4.cell? (a.add 5) = some (.int .i64 n6) ∧ ∃ p2 n7 c2, w4.cell? (a.add 6) = some (.slice p2 n7 c2) ∧ st w4 (a1.add 0) (.int .i64 n2) fun w5 => st w5 (a1.add 1) (.int .i64 n3) fun w6 => st w6 (a1.add 2) (.int .i64 n4) fun w7 => st w7 (a1.add 3) (.bool b) fun w8 => st w8 (a1.add 4) (.int .i64 n5) fun w9 => st w9 (a1.add 5) (.int .i64 n6) fun w10 => st w10 (a1.add 6) (.slice p2 n7 c2) fun w11 => ∃ n8, w11.cell? (a1.add 0) = some (.int .i64 n8) ∧ ∃ n9, w11.cell? (a1.add 1) = some (.int .i64 n9) ∧ ∃ n10, w11.cell? (a1.add 2) = some (.int .i64 n10) ∧ ∃ b1, w11.cell? (a1.add 3) = some (.bool b1) ∧ ∃ n11, w11.cell? (a1.add 4) = some (.int .i64 n11) ∧ ∃ n12, w11.cell? (a1.add 5) = some (.int .i64 n12) ∧ ∃ p3 n13 c3, w11.cell? (a1.add 6) = some (.slice p3 n13 c3) ∧ K (.agg #[.int .i64 n8, .int .i64 n9, .int .i64 n10, .bool b1, .int .i64 n11, .int .i64 n12, .slice p3 n13 c3]) w11
theorem eq_queue_own (e_0 e_1 e_2 : Int) (e_3 : Bool) (e_4 e_5 : Int) (e_6 : Option Addr) (e_6n e_6c : Nat) (w : World) (K : Value → World → Prop) : wpF Tryz.prog none Tryz.f27 (.two .leaf (.two .leaf (.two .leaf .leaf))) [Value.agg #[Value.int .i64 e_0, Value.int .i64 e_1, Value.int .i64 e_2, Value.bool e_3, Value.int .i64 e_4, Value.int .i64 e_5, Value.slice e_6 e_6n e_6c]] w K = wp_queue_own e_0 e_1 e_2 e_3 e_4 e_5 e_6 e_6n e_6c w K := by kernel_rfl
theorem ok_queue_own {e_0 e_1 e_2 : Int} {e_3 : Bool} {e_4 e_5 : Int} {e_6 : Option Addr} {e_6n e_6c : Nat} {w : World} {K : Value → World → Prop} (hwp : wp_queue_own e_0 e_1 e_2 e_3 e_4 e_5 e_6 e_6n e_6c w K) : callP Tryz.prog 27 [.agg #[.int .i64 e_0, .int .i64 e_1, .int .i64 e_2, .bool e_3, .int .i64 e_4, .int .i64 e_5, .slice e_6 e_6n e_6c]] w K :=
  calls_of Tryz.func27 ((eq_queue_own e_0 e_1 e_2 e_3 e_4 e_5 e_6 e_6n e_6c w K).symm ▸ hwp)

/-- (longshore.queue.Queue).Len -/
def wp_queue_Queue_Len (q : Option Addr) (w : World) (K : Value → World → Prop) : Prop :=
  nn q fun a => nn q fun a1 => ∃ p n c, w.drew.cell? (a.add 5) = some (.slice p n c) ∧ ∃ (r : Option Nat), w.drew.cell? (a1.add 6) = some (.map r) ∧ ∃ n1, Sem.run Tryz.prog (Builtin.len_ #[63] 3 #[.map r]) w.drew = Result.ok (.int .i64 n1) w.drew ∧ K (.tuple #[.int .i64 (↑n : Int), .int .i64 n1]) w.drew
theorem eq_queue_Queue_Len (q : Option Addr) (w : World) (K : Value → World → Prop) : wpF Tryz.prog none Tryz.f20 (.two .leaf (.two (.draw [0, 1, 2, 5, 6, 7, 3, 4, 8, 9, 10, 11]) .leaf)) [Value.pointer q] w K = wp_queue_Queue_Len q w K := by kernel_rfl
theorem ok_queue_Queue_Len {q : Option Addr} {w : World} {K : Value → World → Prop} (hwp : wp_queue_Queue_Len q w K) : callP Tryz.prog 20 [.pointer q] w K :=
  calls_of Tryz.func20 ((eq_queue_Queue_Len q w K).symm ▸ hwp)

/-- (longshore.queue.Queue).Put -/
def wp_queue_Queue_Put (q : Option Addr) (e_0 e_1 e_2 : Int) (e_3 : Bool) (e_4 e_5 : Int) (e_6 : Option Addr) (e_6n e_6c : Nat) (w : World) (K : Value → World → Prop) : Prop :=
  newB w [.int .i64 e_0, .int .i64 e_1, .int .i64 e_2, .bool e_3, .int .i64 e_4, .int .i64 e_5, .slice e_6 e_6n e_6c] 34 fun a w1 =>
  ∃ (J : World → Prop),
  (∀ w2, J w2 → ∃ n, w2.cell? (a.add 0) = some (.int .i64 n) ∧ nn q fun a1 => st w2 ((a1.add 7).add 0) (.int .i64 n) fun w3 => nn q fun a2 => ∃ n1, w3.drew.cell? (a.add 0) = some (.int .i64 n1) ∧ ∃ n2, w3.drew.cell? (a.add 1) = some (.int .i64 n2) ∧ ∃ n3, w3.drew.cell? (a.add 2) = some (.int .i64 n3) ∧ ∃ b, w3.drew.cell? (a.add 3) = some (.bool b) ∧ ∃ n4, w3.drew.cell? (a.add 4) = some (.int .i64 n4) ∧ ∃ n5, w3.drew.cell? (a.add 5) = some (.int .i64 n5) ∧ ∃ p n6 c, w3.drew.cell? (a.add 6) = some (.slice p n6 c) ∧ callP Tryz.prog 27 [.agg #[.int .i64 n1, .int .i64 n2, .int .i64 n3, .bool b, .int .i64 n4, .int .i64 n5, .slice p n6 c]] w3.drew fun v w4 => ∃ n7 n8, ∃ n9 b1, ∃ n10 n11, ∃ p1 n12 c1, v = .agg #[.int .i64 n7, .int .i64 n8, .int .i64 n9, .bool b1, .int .i64 n10, .int .i64 n11, .slice p1 n12 c1] ∧ callP Tryz.prog 47 [.iface 88 (.pointer (some (a2.add 5))), .iface 34 (.agg #[.int .i64 n7, .int .i64 n8, .int .i64 n9, .bool b1, .int .i64 n10, .int .i64 n11, .slice p1 n12 c1])] w4 fun v1 w5 => v1 = .tuple #[] ∧ K (.int .i64 0) w5) ∧
  nn q fun a1 => ∃ n, w1.drew.cell? (a.add 0) = some (.int .i64 n) ∧ ∃ n1, w1.drew.cell? (a1.add 7) = some (.int .i64 n1) ∧ Sif (!decide (n ≤ n1)) (∃ n2, w1.drew.cell? (a.add 0) = some (.int .i64 n2) ∧ Sif (!decide (n2 < 1)) (∃ n3, w1.drew.cell? (a.add 1) = some (.int .i64 n3) ∧ Sif (!decide (n3 < 0)) (∃ n4, w1.drew.cell? (a.add 1) = some (.int .i64 n4) ∧ Sif (!decide (n4 > 9)) (∃ n5, w1.drew.cell? (a.add 2) = some (.int .i64 n5) ∧ Sif (!decide (n5 < (-1))) (∃ n6, w1.drew.cell? (a.add 2) = some (.int .i64 n6) ∧ Sif (!decide (n6 > 1125899906842624)) (∃ n7, w1.drew.cell? (a.add 4) = some (.int .i64 n7) ∧ Sif (!decide (n7 < 0)) (∃ n8, w1.drew.cell? (a.add 4) = some (.int .i64 n8) ∧ Sif (!decide (n8 > 4294967295)) (∃ n9, w1.drew.cell? (a.add 5) = some (.int .i64 n9) ∧ Sif (n9 != 0) (K (.int .i64 171) w1.drew) (∃ p n10 c, w1.drew.cell? (a.add 6) = some (.slice p n10 c) ∧ Sif (decide ((↑n10 : Int) > 1048576)) (K (.int .i64 2) w1.drew) (nn q fun a2 => nn q fun a3 => nn q fun a4 => ∃ p1 n11 c1, w1.drew.drew.cell? (a2.add 5) = some (.slice p1 n11 c1) ∧ ∃ (r : Option Nat), w1.drew.drew.cell? (a3.add 6) = some (.map r) ∧ ∃ n12, Sem.run Tryz.prog (Builtin.len_ #[63] 3 #[.map r]) w1.drew.drew = Result.ok (.int .i64 n12) w1.drew.drew ∧ ∃ n13, w1.drew.drew.cell? ((a4.add 0).add 1) = some (.int .i64 n13) ∧ Sif (decide (IntKind.wrap .i64 ((↑n11 : Int) + n12) ≥ n13)) (K (.int .i64 170) w1.drew.drew) (J w1.drew.drew)))) (K (.int .i64 171) w1.drew)) (K (.int .i64 171) w1.drew)) (K (.int .i64 171) w1.drew)) (K (.int .i64 171) w1.drew)) (K (.int .i64 171) w1.drew)) (K (.int .i64 171) w1.drew)) (K (.int .i64 171) w1.drew)) (K (.int .i64 171) w1.drew)
theorem eq_queue_Queue_Put (q : Option Addr) (e_0 e_1 e_2 : Int) (e_3 : Bool) (e_4 e_5 : Int) (e_6 : Option Addr) (e_6n e_6c : Nat) (w : World) (K : Value → World → Prop) : wpF Tryz.prog none Tryz.f17
  (.two .leaf
    (.two
      (.meet []
        (.two
          (.two
            (.draw
              (let y :=
                let y :=
                  let y := [42, 43, 44, 45, 46, 47];
                  36 :: 37 :: 38 :: 39 :: 40 :: 41 :: y;
                let y := 30 :: 31 :: 32 :: 33 :: 34 :: 35 :: y;
                24 :: 25 :: 26 :: 27 :: 28 :: 29 :: y;
              let y :=
                let y := 18 :: 19 :: 20 :: 21 :: 22 :: 23 :: y;
                12 :: 13 :: 14 :: 15 :: 16 :: 17 :: y;
              let y := 6 :: 7 :: 8 :: 9 :: 10 :: 11 :: y;
              0 :: 2 :: 3 :: 4 :: 1 :: 5 :: y))
            (.two (.two .leaf .leaf) (.two .leaf (.two (.two .leaf .leaf) (.two (.draw [0, 1, 2, 5, 6, 7, 11, 12, 13, 14, 3, 4, 8, 9, 10, 15, 16, 17]) (.two (.two .leaf .leaf) .leaf))))))
          .leaf))
      (.two .leaf (.two (.draw [0, 1, 2, 3, 4, 5, 6, 7]) (.two .leaf .leaf)))))
  [Value.pointer q, Value.agg #[Value.int .i64 e_0, Value.int .i64 e_1, Value.int .i64 e_2, Value.bool e_3, Value.int .i64 e_4, Value.int .i64 e_5, Value.slice e_6 e_6n e_6c]] w K = wp_queue_Queue_Put q e_0 e_1 e_2 e_3 e_4 e_5 e_6 e_6n e_6c w K := by kernel_rfl
theorem ok_queue_Queue_Put {q : Option Addr} {e_0 e_1 e_2 : Int} {e_3 : Bool} {e_4 e_5 : Int} {e_6 : Option Addr} {e_6n e_6c : Nat} {w : World} {K : Value → World → Prop} (hwp : wp_queue_Queue_Put q e_0 e_1 e_2 e_3 e_4 e_5 e_6 e_6n e_6c w K) : callP Tryz.prog 17 [.pointer q, .agg #[.int .i64 e_0, .int .i64 e_1, .int .i64 e_2, .bool e_3, .int .i64 e_4, .int .i64 e_5, .slice e_6 e_6n e_6c]] w K :=
  calls_of Tryz.func17 ((eq_queue_Queue_Put q e_0 e_1 e_2 e_3 e_4 e_5 e_6 e_6n e_6c w K).symm ▸ hwp)

/-- (longshore.queue.Queue).Peek$1 -/
def wp_queue_Queue_Peek_1 (a_0 a_1 a_2 : Int) (a_3 : Bool) (a_4 a_5 : Int) (a_6 : Option Addr) (a_6n a_6c : Nat) (b_0 b_1 b_2 : Int) (b_3 : Bool) (b_4 b_5 : Int) (b_6 : Option Addr) (b_6n b_6c : Nat) (w : World) (K : Value → World → Prop) : Prop :=
  newB w [.int .i64 a_0, .int .i64 a_1, .int .i64 a_2, .bool a_3, .int .i64 a_4, .int .i64 a_5, .slice a_6 a_6n a_6c] 34 fun a w1 => newB w1 [.int .i64 b_0, .int .i64 b_1, .int .i64 b_2, .bool b_3, .int .i64 b_4, .int .i64 b_5, .slice b_6 b_6n b_6c] 34 fun a1 w2 => ∃ n, w2.cell? (a.add 0) = some (.int .i64 n) ∧ ∃ n1, w2.cell? (a1.add 0) = some (.int .i64 n1) ∧ callP Tryz.prog 57 [.int .i64 n, .int .i64 n1] w2 fun v w3 => ∃ n2, v = .int .i64 n2 ∧ K (.int .i64 n2) w3
theorem eq_queue_Queue_Peek_1 (a_0 a_1 a_2 : Int) (a_3 : Bool) (a_4 a_5 : Int) (a_6 : Option Addr) (a_6n a_6c : Nat) (b_0 b_1 b_2 : Int) (b_3 : Bool) (b_4 b_5 : Int) (b_6 : Option Addr) (b_6n b_6c : Nat) (w : World) (K : Value → World → Prop) : wpF Tryz.prog none Tryz.f96 (.two .leaf (.two .leaf .leaf)) [Value.agg #[Value.int .i64 a_0, Value.int .i64 a_1, Value.int .i64 a_2, Value.bool a_3, Value.int .i64 a_4, Value.int .i64 a_5, Value.slice a_6 a_6n a_6c], Value.agg #[Value.int .i64 b_0, Value.int .i64 b_1, Value.int .i64 b_2, Value.bool b_3, Value.int .i64 b_4, Value.int .i64 b_5, Value.slice b_6 b_6n b_6c]] w K = wp_queue_Queue_Peek_1 a_0 a_1 a_2 a_3 a_4 a_5 a_6 a_6n a_6c b_0 b_1 b_2 b_3 b_4 b_5 b_6 b_6n b_6c w K := by kernel_rfl
theorem ok_queue_Queue_Peek_1 {a_0 a_1 a_2 : Int} {a_3 : Bool} {a_4 a_5 : Int} {a_6 : Option Addr} {a_6n a_6c : Nat} {b_0 b_1 b_2 : Int} {b_3 : Bool} {b_4 b_5 : Int} {b_6 : Option Addr} {b_6n b_6c : Nat} {w : World} {K : Value → World → Prop} (hwp : wp_queue_Queue_Peek_1 a_0 a_1 a_2 a_3 a_4 a_5 a_6 a_6n a_6c b_0 b_1 b_2 b_3 b_4 b_5 b_6 b_6n b_6c w K) : callP Tryz.prog 96 [.agg #[.int .i64 a_0, .int .i64 a_1, .int .i64 a_2, .bool a_3, .int .i64 a_4, .int .i64 a_5, .slice a_6 a_6n a_6c], .agg #[.int .i64 b_0, .int .i64 b_1, .int .i64 b_2, .bool b_3, .int .i64 b_4, .int .i64 b_5, .slice b_6 b_6n b_6c]] w K :=
  calls_of Tryz.func96 ((eq_queue_Queue_Peek_1 a_0 a_1 a_2 a_3 a_4 a_5 a_6 a_6n a_6c b_0 b_1 b_2 b_3 b_4 b_5 b_6 b_6n b_6c w K).symm ▸ hwp)

/-- (longshore.queue.Queue).Back -/
def wp_queue_Queue_Back (q : Option Addr) (seq holder : Int) (failed : Bool) (w : World) (K : Value → World → Prop) : Prop :=
  newB w [.int .i64 0, .int .i64 0, .int .i64 0, .bool false, .int .i64 0, .int .i64 0, .slice none 0 0] 34 fun a w1 =>
  nn q fun a1 =>
  ∃ (r : Option Nat),
  w1.cell? (a1.add 6) = some (.map r) ∧
  ∃ n n1,
  ∃ n2 b,
  ∃ n3 n4,
  ∃ p n5,
  ∃ c b1,
  Sem.run Tryz.prog (Instr.lookup 63 (.map r) (.int .i64 seq) true) w1 = Result.ok (.tuple #[.agg #[.int .i64 n, .int .i64 n1, .int .i64 n2, .bool b, .int .i64 n3, .int .i64 n4, .slice p n5 c], .bool b1]) w1 ∧
  newB w1 [.int .i64 0, .int .i64 0, .int .i64 0, .bool false, .int .i64 0, .int .i64 0, .slice none 0 0] 34 fun a2 w2 =>
  st w2 (a2.add 0) (.int .i64 n) fun w3 =>
  st w3 (a2.add 1) (.int .i64 n1) fun w4 =>
  st w4 (a2.add 2) (.int .i64 n2) fun w5 =>
  st w5 (a2.add 3) (.bool b) fun w6 =>
  st w6 (a2.add 4) (.int .i64 n3) fun w7 =>
  st w7 (a2.add 5) (.int .i64 n4) fun w8 =>
  st w8 (a2.add 6) (.slice p n5 c) fun w9 =>
  ∃ (J : World → Prop),
  (∀ w10, J w10 →
  nn q fun a3 =>
  ∃ (r1 : Option Nat),
  w10.cell? (a3.add 6) = some (.map r1) ∧
  ∃ w11,
  Sem.run Tryz.prog (Builtin.delete_ #[63, 3] 0 #[.map r1, .int .i64 seq]) w10 = Result.ok (.tuple #[]) w11 ∧
  st w11 ((a2.add 5).add 0) (.int .i64 0) fun w12 =>
  ∃ (J1 : World → Prop),
  (∀ w13, J1 w13 →
  nn q fun a4 =>
  ∃ n6,
  w13.drew.cell? (a2.add 0) = some (.int .i64 n6) ∧
  ∃ n7,
  w13.drew.cell? (a2.add 1) = some (.int .i64 n7) ∧
  ∃ n8,
  w13.drew.cell? (a2.add 2) = some (.int .i64 n8) ∧
  ∃ b2,
  w13.drew.cell? (a2.add 3) = some (.bool b2) ∧
  ∃ n9,
  w13.drew.cell? (a2.add 4) = some (.int .i64 n9) ∧
  ∃ n10,
  w13.drew.cell? (a2.add 5) = some (.int .i64 n10) ∧
  ∃ p1 n11 c1,
  w13.drew.cell? (a2.add 6) = some (.slice p1 n11 c1) ∧
  callP Tryz.prog 47 [.iface 88 (.pointer (some (a4.add 5))), .iface 34 (.agg #[.int .i64 n6, .int .i64 n7, .int .i64 n8, .bool b2, .int .i64 n9, .int .i64 n10, .slice p1 n11 c1])] w13.drew fun v w14 =>
  v = .tuple #[] ∧ ∃ n12, w14.cell? (a2.add 0) = some (.int .i64 n12) ∧ ∃ n13, w14.cell? (a2.add 1) = some (.int .i64 n13) ∧ ∃ n14, w14.cell? (a2.add 2) = some (.int .i64 n14) ∧ ∃ b3, w14.cell? (a2.add 3) = some (.bool b3) ∧ ∃ n15, w14.cell? (a2.add 4) = some (.int .i64 n15) ∧ ∃ n16, w14.cell? (a2.add 5) = some (.int .i64 n16) ∧ ∃ p2 n17 c2, w14.cell? (a2.add 6) = some (.slice p2 n17 c2) ∧ callP Tryz.prog 27 [.agg #[.int .i64 n12, .int .i64 n13, .int .i64 n14, .bool b3, .int .i64 n15, .int .i64 n16, .slice p2 n17 c2]] w14 fun v1 w15 => ∃ n18 n19, ∃ n20 b4, ∃ n21 n22, ∃ p3 n23 c3, v1 = .agg #[.int .i64 n18, .int .i64 n19, .int .i64 n20, .bool b4, .int .i64 n21, .int .i64 n22, .slice p3 n23 c3] ∧ st w15 (a.add 0) (.int .i64 n18) fun w16 => st w16 (a.add 1) (.int .i64 n19) fun w17 => st w17 (a.add 2) (.int .i64 n20) fun w18 => st w18 (a.add 3) (.bool b4) fun w19 => st w19 (a.add 4) (.int .i64 n21) fun w20 => st w20 (a.add 5) (.int .i64 n22) fun w21 => st w21 (a.add 6) (.slice p3 n23 c3) fun w22 => ∃ n24, w22.cell? (a.add 0) = some (.int .i64 n24) ∧ ∃ n25, w22.cell? (a.add 1) = some (.int .i64 n25) ∧ ∃ n26, w22.cell? (a.add 2) = some (.int .i64 n26) ∧ ∃ b5, w22.cell? (a.add 3) = some (.bool b5) ∧ ∃ n27, w22.cell? (a.add 4) = some (.int .i64 n27) ∧ ∃ n28, w22.cell? (a.add 5) = some (.int .i64 n28) ∧ ∃ p4 n29 c4, w22.cell? (a.add 6) = some (.slice p4 n29 c4) ∧ K (.tuple #[.agg #[.int .i64 n24, .int .i64 n25, .int .i64 n26, .bool b5, .int .i64 n27, .int .i64 n28, .slice p4 n29 c4], .bool false, .int .i64 0]) w22) ∧
  Sif failed
  (∃ n6,
  w12.cell? (a2.add 4) = some (.int .i64 n6) ∧
  st w12 ((a2.add 4).add 0) (.int .i64 (min (IntKind.wrap .i64 (n6 + 1)) 4294967295)) fun w13 => nn q fun a4 => ∃ n7, w13.drew.cell? ((a4.add 0).add 3) = some (.int .i64 n7) ∧ Sif (decide (n7 > 0)) (nn q fun a5 => ∃ n8, w13.drew.cell? (a2.add 4) = some (.int .i64 n8) ∧ ∃ n9, w13.drew.cell? ((a5.add 0).add 3) = some (.int .i64 n9) ∧ Sif (decide (n8 ≥ n9)) (∃ n10, w13.drew.cell? (a2.add 0) = some (.int .i64 n10) ∧ ∃ n11, w13.drew.cell? (a2.add 1) = some (.int .i64 n11) ∧ ∃ n12, w13.drew.cell? (a2.add 2) = some (.int .i64 n12) ∧ ∃ b2, w13.drew.cell? (a2.add 3) = some (.bool b2) ∧ ∃ n13, w13.drew.cell? (a2.add 4) = some (.int .i64 n13) ∧ ∃ n14, w13.drew.cell? (a2.add 5) = some (.int .i64 n14) ∧ ∃ p1 n15 c1, w13.drew.cell? (a2.add 6) = some (.slice p1 n15 c1) ∧ st w13.drew (a.add 0) (.int .i64 n10) fun w14 => st w14 (a.add 1) (.int .i64 n11) fun w15 => st w15 (a.add 2) (.int .i64 n12) fun w16 => st w16 (a.add 3) (.bool b2) fun w17 => st w17 (a.add 4) (.int .i64 n13) fun w18 => st w18 (a.add 5) (.int .i64 n14) fun w19 => st w19 (a.add 6) (.slice p1 n15 c1) fun w20 => ∃ n16, w20.cell? (a.add 0) = some (.int .i64 n16) ∧ ∃ n17, w20.cell? (a.add 1) = some (.int .i64 n17) ∧ ∃ n18, w20.cell? (a.add 2) = some (.int .i64 n18) ∧ ∃ b3, w20.cell? (a.add 3) = some (.bool b3) ∧ ∃ n19, w20.cell? (a.add 4) = some (.int .i64 n19) ∧ ∃ n20, w20.cell? (a.add 5) = some (.int .i64 n20) ∧ ∃ p2 n21 c2, w20.cell? (a.add 6) = some (.slice p2 n21 c2) ∧ K (.tuple #[.agg #[.int .i64 n16, .int .i64 n17, .int .i64 n18, .bool b3, .int .i64 n19, .int .i64 n20, .slice p2 n21 c2], .bool true, .int .i64 0]) w20) (J1 w13.drew)) (J1 w13.drew))
  (J1 w12)) ∧
  Sif (!!b1) (∃ n6, w9.cell? (a2.add 5) = some (.int .i64 n6) ∧ Sif (n6 != holder) (st w9 (a.add 0) (.int .i64 0) fun w10 => st w10 (a.add 1) (.int .i64 0) fun w11 => st w11 (a.add 2) (.int .i64 0) fun w12 => st w12 (a.add 3) (.bool false) fun w13 => st w13 (a.add 4) (.int .i64 0) fun w14 => st w14 (a.add 5) (.int .i64 0) fun w15 => st w15 (a.add 6) (.slice none 0 0) fun w16 => ∃ n7, w16.cell? (a.add 0) = some (.int .i64 n7) ∧ ∃ n8, w16.cell? (a.add 1) = some (.int .i64 n8) ∧ ∃ n9, w16.cell? (a.add 2) = some (.int .i64 n9) ∧ ∃ b2, w16.cell? (a.add 3) = some (.bool b2) ∧ ∃ n10, w16.cell? (a.add 4) = some (.int .i64 n10) ∧ ∃ n11, w16.cell? (a.add 5) = some (.int .i64 n11) ∧ ∃ p1 n12 c1, w16.cell? (a.add 6) = some (.slice p1 n12 c1) ∧ K (.tuple #[.agg #[.int .i64 n7, .int .i64 n8, .int .i64 n9, .bool b2, .int .i64 n10, .int .i64 n11, .slice p1 n12 c1], .bool false, .int .i64 171]) w16) (J w9))
  (st w9 (a.add 0) (.int .i64 0) fun w10 => st w10 (a.add 1) (.int .i64 0) fun w11 => st w11 (a.add 2) (.int .i64 0) fun w12 => st w12 (a.add 3) (.bool false) fun w13 => st w13 (a.add 4) (.int .i64 0) fun w14 => st w14 (a.add 5) (.int .i64 0) fun w15 => st w15 (a.add 6) (.slice none 0 0) fun w16 => ∃ n6, w16.cell? (a.add 0) = some (.int .i64 n6) ∧ ∃ n7, w16.cell? (a.add 1) = some (.int .i64 n7) ∧ ∃ n8, w16.cell? (a.add 2) = some (.int .i64 n8) ∧ ∃ b2, w16.cell? (a.add 3) = some (.bool b2) ∧ ∃ n9, w16.cell? (a.add 4) = some (.int .i64 n9) ∧ ∃ n10, w16.cell? (a.add 5) = some (.int .i64 n10) ∧ ∃ p1 n11 c1, w16.cell? (a.add 6) = some (.slice p1 n11 c1) ∧ K (.tuple #[.agg #[.int .i64 n6, .int .i64 n7, .int .i64 n8, .bool b2, .int .i64 n9, .int .i64 n10, .slice p1 n11 c1], .bool false, .int .i64 171]) w16)
theorem eq_queue_Queue_Back (q : Option Addr) (seq holder : Int) (failed : Bool) (w : World) (K : Value → World → Prop) : wpF Tryz.prog none Tryz.f19 (.two .leaf (.two .leaf (.two (.meet [] (.two .leaf (.two (.two .leaf .leaf) .leaf))) (.two .leaf (.two .leaf (.two (.meet [] (.two .leaf (.two (.two .leaf (.two (.draw [0, 1, 2, 3, 4, 5, 6, 7, 9, 10, 11, 12, 8, 13, 14, 15]) (.two (.two .leaf .leaf) .leaf))) .leaf))) (.two (.draw [0, 1, 2, 3, 4, 5, 6]) (.two .leaf .leaf)))))))) [Value.pointer q, Value.int .i64 seq, Value.int .i64 holder, Value.bool failed] w K = wp_queue_Queue_Back q seq holder failed w K := by kernel_rfl
theorem ok_queue_Queue_Back {q : Option Addr} {seq holder : Int} {failed : Bool} {w : World} {K : Value → World → Prop} (hwp : wp_queue_Queue_Back q seq holder failed w K) : callP Tryz.prog 19 [.pointer q, .int .i64 seq, .int .i64 holder, .bool failed] w K :=
  calls_of Tryz.func19 ((eq_queue_Queue_Back q seq holder failed w K).symm ▸ hwp)

/-- (longshore.queue.Queue).Remove -/
def wp_queue_Queue_Remove (q : Option Addr) (seq holder : Int) (w : World) (K : Value → World → Prop) : Prop :=
  newB w [.int .i64 seq] 3 fun a w1 =>
  newB w1 [.int .i64 0, .int .i64 0, .int .i64 0, .bool false, .int .i64 0, .int .i64 0, .slice none 0 0] 34 fun a1 w2 =>
  Sif (holder == 0)
  (nn q fun a2 =>
  ∃ p n c,
  w2.cell? (a2.add 5) = some (.slice p n c) ∧
  callP Tryz.prog 67 [.slice p n c, .func (Fn.func 68) #[] #[.pointer (some a)]] w2 fun v w3 =>
  ∃ n1,
  v = .int .i64 n1 ∧
  Sif (decide (n1 < 0)) (st w3 (a1.add 0) (.int .i64 0) fun w4 => st w4 (a1.add 1) (.int .i64 0) fun w5 => st w5 (a1.add 2) (.int .i64 0) fun w6 => st w6 (a1.add 3) (.bool false) fun w7 => st w7 (a1.add 4) (.int .i64 0) fun w8 => st w8 (a1.add 5) (.int .i64 0) fun w9 => st w9 (a1.add 6) (.slice none 0 0) fun w10 => ∃ n2, w10.cell? (a1.add 0) = some (.int .i64 n2) ∧ ∃ n3, w10.cell? (a1.add 1) = some (.int .i64 n3) ∧ ∃ n4, w10.cell? (a1.add 2) = some (.int .i64 n4) ∧ ∃ b, w10.cell? (a1.add 3) = some (.bool b) ∧ ∃ n5, w10.cell? (a1.add 4) = some (.int .i64 n5) ∧ ∃ n6, w10.cell? (a1.add 5) = some (.int .i64 n6) ∧ ∃ p1 n7 c1, w10.cell? (a1.add 6) = some (.slice p1 n7 c1) ∧ K (.tuple #[.agg #[.int .i64 n2, .int .i64 n3, .int .i64 n4, .bool b, .int .i64 n5, .int .i64 n6, .slice p1 n7 c1], .int .i64 171]) w10)
  (nn q fun a3 => callP Tryz.prog 69 [.iface 88 (.pointer (some (a3.add 5))), .int .i64 n1] w3 fun v1 w4 => ∃ v2, v1 = v2 ∧ ∃ n2 n3, ∃ n4 b, ∃ n5 n6, ∃ p1 n7 c1, Sem.run Tryz.prog (Instr.typeAssert v2 20 34 false) w4 = Result.ok (.agg #[.int .i64 n2, .int .i64 n3, .int .i64 n4, .bool b, .int .i64 n5, .int .i64 n6, .slice p1 n7 c1]) w4 ∧ st w4 (a1.add 0) (.int .i64 n2) fun w5 => st w5 (a1.add 1) (.int .i64 n3) fun w6 => st w6 (a1.add 2) (.int .i64 n4) fun w7 => st w7 (a1.add 3) (.bool b) fun w8 => st w8 (a1.add 4) (.int .i64 n5) fun w9 => st w9 (a1.add 5) (.int .i64 n6) fun w10 => st w10 (a1.add 6) (.slice p1 n7 c1) fun w11 => ∃ n8, w11.cell? (a1.add 0) = some (.int .i64 n8) ∧ ∃ n9, w11.cell? (a1.add 1) = some (.int .i64 n9) ∧ ∃ n10, w11.cell? (a1.add 2) = some (.int .i64 n10) ∧ ∃ b1, w11.cell? (a1.add 3) = some (.bool b1) ∧ ∃ n11, w11.cell? (a1.add 4) = some (.int .i64 n11) ∧ ∃ n12, w11.cell? (a1.add 5) = some (.int .i64 n12) ∧ ∃ p2 n13 c2, w11.cell? (a1.add 6) = some (.slice p2 n13 c2) ∧ K (.tuple #[.agg #[.int .i64 n8, .int .i64 n9, .int .i64 n10, .bool b1, .int .i64 n11, .int .i64 n12, .slice p2 n13 c2], .int .i64 0]) w11))
  (nn q fun a2 =>
  ∃ (r : Option Nat),
  w2.drew.cell? (a2.add 6) = some (.map r) ∧
  ∃ n,
  w2.drew.cell? a = some (.int .i64 n) ∧
  ∃ n1 n2,
  ∃ n3 b,
  ∃ n4 n5,
  ∃ p n6,
  ∃ c b1,
  Sem.run Tryz.prog (Instr.lookup 63 (.map r) (.int .i64 n) true) w2.drew = Result.ok (.tuple #[.agg #[.int .i64 n1, .int .i64 n2, .int .i64 n3, .bool b, .int .i64 n4, .int .i64 n5, .slice p n6 c], .bool b1]) w2.drew ∧
  newB w2.drew [.int .i64 0, .int .i64 0, .int .i64 0, .bool false, .int .i64 0, .int .i64 0, .slice none 0 0] 34 fun a3 w3 =>
  (∃ n7 n8, ∃ n9 b2, ∃ n10 n11, ∃ p1 n12, ∃ c1 b3, Sem.run Tryz.prog (Instr.lookup 63 (.map r) (.int .i64 n) true) w3 = Result.ok (.tuple #[.agg #[.int .i64 n7, .int .i64 n8, .int .i64 n9, .bool b2, .int .i64 n10, .int .i64 n11, .slice p1 n12 c1], .bool b3]) w3 ∧ Value.tuple #[.agg #[.int .i64 n7, .int .i64 n8, .int .i64 n9, .bool b2, .int .i64 n10, .int .i64 n11, .slice p1 n12 c1], .bool b3] = .tuple #[.agg #[.int .i64 n1, .int .i64 n2, .int .i64 n3, .bool b, .int .i64 n4, .int .i64 n5, .slice p n6 c], .bool b1]) ∧
  (∃ n7, w3.cell? a = some (.int .i64 n7) ∧ Value.int .i64 n7 = .int .i64 n) ∧
  (∃ (r1 : Option Nat), w3.cell? (a2.add 6) = some (.map r1) ∧ Value.map r1 = .map r) ∧
  st w3 (a3.add 0) (.int .i64 n1) fun w4 =>
  st w4 (a3.add 1) (.int .i64 n2) fun w5 =>
  st w5 (a3.add 2) (.int .i64 n3) fun w6 =>
  st w6 (a3.add 3) (.bool b) fun w7 =>
  st w7 (a3.add 4) (.int .i64 n4) fun w8 =>
  st w8 (a3.add 5) (.int .i64 n5) fun w9 =>
  st w9 (a3.add 6) (.slice p n6 c) fun w10 =>
  ∃ (J : World → Prop),
  (∀ w11, J w11 → nn q fun a4 => ∃ (r1 : Option Nat), w11.drew.cell? (a4.add 6) = some (.map r1) ∧ ∃ n7, w11.drew.cell? a = some (.int .i64 n7) ∧ ∃ w12, Sem.run Tryz.prog (Builtin.delete_ #[63, 3] 0 #[.map r1, .int .i64 n7]) w11.drew = Result.ok (.tuple #[]) w12 ∧ ∃ n8, w12.cell? (a3.add 0) = some (.int .i64 n8) ∧ ∃ n9, w12.cell? (a3.add 1) = some (.int .i64 n9) ∧ ∃ n10, w12.cell? (a3.add 2) = some (.int .i64 n10) ∧ ∃ b2, w12.cell? (a3.add 3) = some (.bool b2) ∧ ∃ n11, w12.cell? (a3.add 4) = some (.int .i64 n11) ∧ ∃ n12, w12.cell? (a3.add 5) = some (.int .i64 n12) ∧ ∃ p1 n13 c1, w12.cell? (a3.add 6) = some (.slice p1 n13 c1) ∧ st w12 (a1.add 0) (.int .i64 n8) fun w13 => st w13 (a1.add 1) (.int .i64 n9) fun w14 => st w14 (a1.add 2) (.int .i64 n10) fun w15 => st w15 (a1.add 3) (.bool b2) fun w16 => st w16 (a1.add 4) (.int .i64 n11) fun w17 => st w17 (a1.add 5) (.int .i64 n12) fun w18 => st w18 (a1.add 6) (.slice p1 n13 c1) fun w19 => ∃ n14, w19.cell? (a1.add 0) = some (.int .i64 n14) ∧ ∃ n15, w19.cell? (a1.add 1) = some (.int .i64 n15) ∧ ∃ n16, w19.cell? (a1.add 2) = some (.int .i64 n16) ∧ ∃ b3, w19.cell? (a1.add 3) = some (.bool b3) ∧ ∃ n17, w19.cell? (a1.add 4) = some (.int .i64 n17) ∧ ∃ n18, w19.cell? (a1.add 5) = some (.int .i64 n18) ∧ ∃ p2 n19 c2, w19.cell? (a1.add 6) = some (.slice p2 n19 c2) ∧ K (.tuple #[.agg #[.int .i64 n14, .int .i64 n15, .int .i64 n16, .bool b3, .int .i64 n17, .int .i64 n18, .slice p2 n19 c2], .int .i64 0]) w19) ∧
  Sif (!!b1) (∃ n7, w10.cell? (a3.add 5) = some (.int .i64 n7) ∧ Sif (n7 != holder) (st w10 (a1.add 0) (.int .i64 0) fun w11 => st w11 (a1.add 1) (.int .i64 0) fun w12 => st w12 (a1.add 2) (.int .i64 0) fun w13 => st w13 (a1.add 3) (.bool false) fun w14 => st w14 (a1.add 4) (.int .i64 0) fun w15 => st w15 (a1.add 5) (.int .i64 0) fun w16 => st w16 (a1.add 6) (.slice none 0 0) fun w17 => ∃ n8, w17.cell? (a1.add 0) = some (.int .i64 n8) ∧ ∃ n9, w17.cell? (a1.add 1) = some (.int .i64 n9) ∧ ∃ n10, w17.cell? (a1.add 2) = some (.int .i64 n10) ∧ ∃ b2, w17.cell? (a1.add 3) = some (.bool b2) ∧ ∃ n11, w17.cell? (a1.add 4) = some (.int .i64 n11) ∧ ∃ n12, w17.cell? (a1.add 5) = some (.int .i64 n12) ∧ ∃ p1 n13 c1, w17.cell? (a1.add 6) = some (.slice p1 n13 c1) ∧ K (.tuple #[.agg #[.int .i64 n8, .int .i64 n9, .int .i64 n10, .bool b2, .int .i64 n11, .int .i64 n12, .slice p1 n13 c1], .int .i64 171]) w17) (J w10))
  (st w10 (a1.add 0) (.int .i64 0) fun w11 => st w11 (a1.add 1) (.int .i64 0) fun w12 => st w12 (a1.add 2) (.int .i64 0) fun w13 => st w13 (a1.add 3) (.bool false) fun w14 => st w14 (a1.add 4) (.int .i64 0) fun w15 => st w15 (a1.add 5) (.int .i64 0) fun w16 => st w16 (a1.add 6) (.slice none 0 0) fun w17 => ∃ n7, w17.cell? (a1.add 0) = some (.int .i64 n7) ∧ ∃ n8, w17.cell? (a1.add 1) = some (.int .i64 n8) ∧ ∃ n9, w17.cell? (a1.add 2) = some (.int .i64 n9) ∧ ∃ b2, w17.cell? (a1.add 3) = some (.bool b2) ∧ ∃ n10, w17.cell? (a1.add 4) = some (.int .i64 n10) ∧ ∃ n11, w17.cell? (a1.add 5) = some (.int .i64 n11) ∧ ∃ p1 n12 c1, w17.cell? (a1.add 6) = some (.slice p1 n12 c1) ∧ K (.tuple #[.agg #[.int .i64 n7, .int .i64 n8, .int .i64 n9, .bool b2, .int .i64 n10, .int .i64 n11, .slice p1 n12 c1], .int .i64 171]) w17))
theorem eq_queue_Queue_Remove (q : Option Addr) (seq holder : Int) (w : World) (K : Value → World → Prop) : wpF Tryz.prog none Tryz.f34 (.two .leaf (.two (.two .leaf (.two (.two .leaf (.two (.two .leaf (.two (.two .leaf .leaf) .leaf)) (.two .leaf .leaf))) .leaf)) (.two (.draw [0, 1, 2, 3, 4, 5, 6, 7, 8, 9, 10, 11]) (.two (.meet [] (.two .leaf (.two (.two .leaf .leaf) .leaf))) (.two (.draw [0, 1, 2, 3, 4, 5]) (.two .leaf .leaf)))))) [Value.pointer q, Value.int .i64 seq, Value.int .i64 holder] w K = wp_queue_Queue_Remove q seq holder w K := by kernel_rfl
theorem ok_queue_Queue_Remove {q : Option Addr} {seq holder : Int} {w : World} {K : Value → World → Prop} (hwp : wp_queue_Queue_Remove q seq holder w K) : callP Tryz.prog 34 [.pointer q, .int .i64 seq, .int .i64 holder] w K :=
  calls_of Tryz.func34 ((eq_queue_Queue_Remove q seq holder w K).symm ▸ hwp)

/-- (longshore.queue.Queue).Remove$1 -/
def wp_queue_Queue_Remove_1 (e_0 e_1 e_2 : Int) (e_3 : Bool) (e_4 e_5 : Int) (e_6 : Option Addr) (e_6n e_6c : Nat) (cap0 : Option Addr) (w : World) (K : Value → World → Prop) : Prop :=
  newB w [.int .i64 e_0, .int .i64 e_1, .int .i64 e_2, .bool e_3, .int .i64 e_4, .int .i64 e_5, .slice e_6 e_6n e_6c] 34 fun a w1 => ∃ n, w1.cell? (a.add 0) = some (.int .i64 n) ∧ nn cap0 fun a1 => ∃ n1, w1.cell? a1 = some (.int .i64 n1) ∧ K (.bool (n == n1)) w1
theorem eq_queue_Queue_Remove_1 (e_0 e_1 e_2 : Int) (e_3 : Bool) (e_4 e_5 : Int) (e_6 : Option Addr) (e_6n e_6c : Nat) (cap0 : Option Addr) (w : World) (K : Value → World → Prop) : wpF Tryz.prog none Tryz.f68 (.two .leaf (.two .leaf .leaf)) [Value.agg #[Value.int .i64 e_0, Value.int .i64 e_1, Value.int .i64 e_2, Value.bool e_3, Value.int .i64 e_4, Value.int .i64 e_5, Value.slice e_6 e_6n e_6c], Value.pointer cap0] w K = wp_queue_Queue_Remove_1 e_0 e_1 e_2 e_3 e_4 e_5 e_6 e_6n e_6c cap0 w K := by kernel_rfl
theorem ok_queue_Queue_Remove_1 {e_0 e_1 e_2 : Int} {e_3 : Bool} {e_4 e_5 : Int} {e_6 : Option Addr} {e_6n e_6c : Nat} {cap0 : Option Addr} {w : World} {K : Value → World → Prop} (hwp : wp_queue_Queue_Remove_1 e_0 e_1 e_2 e_3 e_4 e_5 e_6 e_6n e_6c cap0 w K) : callP Tryz.prog 68 [.agg #[.int .i64 e_0, .int .i64 e_1, .int .i64 e_2, .bool e_3, .int .i64 e_4, .int .i64 e_5, .slice e_6 e_6n e_6c], .pointer cap0] w K :=
  calls_of Tryz.func68 ((eq_queue_Queue_Remove_1 e_0 e_1 e_2 e_3 e_4 e_5 e_6 e_6n e_6c cap0 w K).symm ▸ hwp)

/-- (longshore.queue.Queue).Release -/
def wp_queue_Queue_Release (q : Option Addr) (holder : Int) (w : World) (K : Value → World → Prop) : Prop :=
  nn q fun a =>
  ∃ (r : Option Nat),
  w.cell? (a.add 6) = some (.map r) ∧
  ∃ p w1,
  Sem.run Tryz.prog (Instr.range 63 (.map r)) w = Result.ok (.pointer p) w1 ∧
  ∃ (I : Nat → Option Addr → Nat → Nat → World → Prop),
  (∃ m, I m none 0 0 w1) ∧
  ∀ m p1 n c w2, I m p1 n c w2 →
  (∃ w3,
  Sem.run Tryz.prog (Instr.next (.pointer p) false 0) w2 = Result.ok (.tuple #[.bool false]) w3 ∧
  callP Tryz.prog 70 [.slice p1 n c] w3 fun v w4 =>
  v = .tuple #[] ∧
  ∃ (I1 : Nat → Int → World → Prop),
  (∃ m1, I1 m1 0 w4) ∧
  ∀ m1 n1 w5, I1 m1 n1 w5 →
  Sif (decide (n1 < (↑n : Int)))
  (0 ≤ n1 ∧
  n1 < (↑n : Int) ∧
  nn p1 fun a1 =>
  ∃ n2,
  w5.cell? (a1.add (Int.toNat n1 * 1)) = some (.int .i64 n2) ∧
  nn q fun a2 =>
  ∃ (r1 : Option Nat),
  w5.cell? (a2.add 6) = some (.map r1) ∧
  ∃ n3 n4, ∃ n5 b, ∃ n6 n7, ∃ p2 n8 c1, Sem.run Tryz.prog (Instr.lookup 63 (.map r1) (.int .i64 n2) false) w5 = Result.ok (.agg #[.int .i64 n3, .int .i64 n4, .int .i64 n5, .bool b, .int .i64 n6, .int .i64 n7, .slice p2 n8 c1]) w5 ∧ newB w5 [.int .i64 0, .int .i64 0, .int .i64 0, .bool false, .int .i64 0, .int .i64 0, .slice none 0 0] 34 fun a3 w6 => st w6 (a3.add 0) (.int .i64 n3) fun w7 => st w7 (a3.add 1) (.int .i64 n4) fun w8 => st w8 (a3.add 2) (.int .i64 n5) fun w9 => st w9 (a3.add 3) (.bool b) fun w10 => st w10 (a3.add 4) (.int .i64 n6) fun w11 => st w11 (a3.add 5) (.int .i64 n7) fun w12 => st w12 (a3.add 6) (.slice p2 n8 c1) fun w13 => nn q fun a4 => ∃ (r2 : Option Nat), w13.cell? (a4.add 6) = some (.map r2) ∧ ∃ w14, Sem.run Tryz.prog (Builtin.delete_ #[63, 3] 0 #[.map r2, .int .i64 n2]) w13 = Result.ok (.tuple #[]) w14 ∧ st w14 ((a3.add 5).add 0) (.int .i64 0) fun w15 => nn q fun a5 => ∃ n9, w15.drew.cell? (a3.add 0) = some (.int .i64 n9) ∧ ∃ n10, w15.drew.cell? (a3.add 1) = some (.int .i64 n10) ∧ ∃ n11, w15.drew.cell? (a3.add 2) = some (.int .i64 n11) ∧ ∃ b1, w15.drew.cell? (a3.add 3) = some (.bool b1) ∧ ∃ n12, w15.drew.cell? (a3.add 4) = some (.int .i64 n12) ∧ ∃ n13, w15.drew.cell? (a3.add 5) = some (.int .i64 n13) ∧ ∃ p3 n14 c2, w15.drew.cell? (a3.add 6) = some (.slice p3 n14 c2) ∧ callP Tryz.prog 47 [.iface 88 (.pointer (some (a5.add 5))), .iface 34 (.agg #[.int .i64 n9, .int .i64 n10, .int .i64 n11, .bool b1, .int .i64 n12, .int .i64 n13, .slice p3 n14 c2])] w15.drew fun v1 w16 => v1 = .tuple #[] ∧ ∃ m', m' < m1 ∧ I1 m' (IntKind.wrap .i64 (n1 + 1)) w16)
  (K (.slice p1 n c) w5)) ∨
  ∃ v v1 w3, Sem.run Tryz.prog (Instr.next (.pointer p) false 0) w2 = Result.ok (.tuple #[.bool true, v, v1]) w3 ∧ ∃ v2 v3, Sem.run Tryz.prog (Instr.entry (.pointer p)) w3 = Result.ok (.tuple #[v2, v3]) w3 ∧ asIntV IntKind.i64 v2 fun n1 => newB w3 [.int .i64 0, .int .i64 0, .int .i64 0, .bool false, .int .i64 0, .int .i64 0, .slice none 0 0] 34 fun a1 w4 => asAggV (nat_lit 7) v3 fun (vs : List Value) => stCells w4 a1 vs 0 fun w5 => ∃ n2, w5.cell? (a1.add 5) = some (.int .i64 n2) ∧ Sif (n2 == holder) (newB w5 [.int .i64 n1] 3 fun a2 w6 => ∃ p2 n3, ∃ c1 w7, Sem.run Tryz.prog (Builtin.append_ #[44, 44] 44 #[.slice p1 n c, .slice (some a2) 1 1]) w6 = Result.ok (.slice p2 n3 c1) w7 ∧ ∃ m', m' < m ∧ I m' p2 n3 c1 w7) (∃ m', m' < m ∧ I m' p1 n c w5)
theorem eq_queue_Queue_Release (q : Option Addr) (holder : Int) (w : World) (K : Value → World → Prop) : wpF Tryz.prog none Tryz.f36 (.two .leaf (.two .leaf (.two (.two .leaf (.two (.loop [(5, .cell .slice)] (.two .leaf (.two (.two .leaf .leaf) (.two (.two .leaf (.two .leaf (.two .leaf .leaf))) .leaf)))) .leaf)) (.two .leaf (.two (.two .leaf (.two (.loop [(33, .cell (.int .i64))] (.two .leaf (.two (.two .leaf .leaf) (.two (.two (.two .leaf (.two .leaf (.two .leaf (.two .leaf (.draw [0, 1, 2, 3, 4, 5, 6]))))) .leaf) .leaf)))) .leaf)) (.two .leaf .leaf)))))) [Value.pointer q, Value.int .i64 holder] w K = wp_queue_Queue_Release q holder w K := by kernel_rfl
theorem ok_queue_Queue_Release {q : Option Addr} {holder : Int} {w : World} {K : Value → World → Prop} (hwp : wp_queue_Queue_Release q holder w K) : callP Tryz.prog 36 [.pointer q, .int .i64 holder] w K :=
  calls_of Tryz.func36 ((eq_queue_Queue_Release q holder w K).symm ▸ hwp)

/-- (longshore.queue.Queue).Expire -/
def wp_queue_Queue_Expire (q : Option Addr) (now : Int) (w : World) (K : Value → World → Prop) : Prop :=
  nn q fun a =>
  ∃ p n c,
  w.cell? (a.add 5) = some (.slice p n c) ∧
  ∃ (I : Nat → Option Addr → Nat → Nat → Option Addr → Nat → Nat → Int → World → Prop),
  (∃ m, I m none 0 0 none 0 0 0 w) ∧
  ∀ m p1 n1 c1 p2 n2 c2 n3 w1, I m p1 n1 c1 p2 n2 c2 n3 w1 →
  Sif (decide (n3 < (↑n : Int)))
  (∃ (J : Option Addr → Nat → Nat → Option Addr → Nat → Nat → World → Prop),
  (∀ p3 n4 c3 p4 n5 c4 w2, J p3 n4 c3 p4 n5 c4 w2 → ∃ m', m' < m ∧ I m' p3 n4 c3 p4 n5 c4 (IntKind.wrap .i64 (n3 + 1)) w2) ∧
  0 ≤ n3 ∧
  n3 < (↑n : Int) ∧
  nn p fun a1 =>
  ∃ n4,
  w1.cell? (Addr.add (a1.add (Int.toNat n3 * 7)) 0) = some (.int .i64 n4) ∧
  ∃ n5,
  w1.cell? (Addr.add (a1.add (Int.toNat n3 * 7)) 1) = some (.int .i64 n5) ∧
  ∃ n6,
  w1.cell? (Addr.add (a1.add (Int.toNat n3 * 7)) 2) = some (.int .i64 n6) ∧
  ∃ b,
  w1.cell? (Addr.add (a1.add (Int.toNat n3 * 7)) 3) = some (.bool b) ∧
  ∃ n7,
  w1.cell? (Addr.add (a1.add (Int.toNat n3 * 7)) 4) = some (.int .i64 n7) ∧
  ∃ n8,
  w1.cell? (Addr.add (a1.add (Int.toNat n3 * 7)) 5) = some (.int .i64 n8) ∧
  ∃ p3 n9 c3,
  w1.cell? (Addr.add (a1.add (Int.toNat n3 * 7)) 6) = some (.slice p3 n9 c3) ∧
  newB w1 [.int .i64 0, .int .i64 0, .int .i64 0, .bool false, .int .i64 0, .int .i64 0, .slice none 0 0] 34 fun a2 w2 =>
  st w2 (a2.add 0) (.int .i64 n4) fun w3 =>
  st w3 (a2.add 1) (.int .i64 n5) fun w4 =>
  st w4 (a2.add 2) (.int .i64 n6) fun w5 =>
  st w5 (a2.add 3) (.bool b) fun w6 =>
  st w6 (a2.add 4) (.int .i64 n7) fun w7 =>
  st w7 (a2.add 5) (.int .i64 n8) fun w8 =>
  st w8 (a2.add 6) (.slice p3 n9 c3) fun w9 =>
  ∃ n10,
  w9.cell? (a2.add 2) = some (.int .i64 n10) ∧
  Sif (decide (n10 ≥ 0)) (∃ n11, w9.cell? (a2.add 2) = some (.int .i64 n11) ∧ Sif (decide (n11 ≤ now)) (∃ n12, w9.cell? (a2.add 0) = some (.int .i64 n12) ∧ ∃ n13, w9.cell? (a2.add 1) = some (.int .i64 n13) ∧ ∃ n14, w9.cell? (a2.add 2) = some (.int .i64 n14) ∧ ∃ b1, w9.cell? (a2.add 3) = some (.bool b1) ∧ ∃ n15, w9.cell? (a2.add 4) = some (.int .i64 n15) ∧ ∃ n16, w9.cell? (a2.add 5) = some (.int .i64 n16) ∧ ∃ p4 n17 c4, w9.cell? (a2.add 6) = some (.slice p4 n17 c4) ∧ newB w9 [.int .i64 n12, .int .i64 n13, .int .i64 n14, .bool b1, .int .i64 n15, .int .i64 n16, .slice p4 n17 c4] 34 fun a3 w10 => ∃ p5 n18, ∃ c5 w11, Sem.run Tryz.prog (Builtin.append_ #[24, 24] 24 #[.slice p1 n1 c1, .slice (some a3) 1 1]) w10 = Result.ok (.slice p5 n18 c5) w11 ∧ J p5 n18 c5 p2 n2 c2 w11) (∃ n12, w9.cell? (a2.add 0) = some (.int .i64 n12) ∧ ∃ n13, w9.cell? (a2.add 1) = some (.int .i64 n13) ∧ ∃ n14, w9.cell? (a2.add 2) = some (.int .i64 n14) ∧ ∃ b1, w9.cell? (a2.add 3) = some (.bool b1) ∧ ∃ n15, w9.cell? (a2.add 4) = some (.int .i64 n15) ∧ ∃ n16, w9.cell? (a2.add 5) = some (.int .i64 n16) ∧ ∃ p4 n17 c4, w9.cell? (a2.add 6) = some (.slice p4 n17 c4) ∧ newB w9 [.int .i64 n12, .int .i64 n13, .int .i64 n14, .bool b1, .int .i64 n15, .int .i64 n16, .slice p4 n17 c4] 34 fun a3 w10 => ∃ p5 n18, ∃ c5 w11, Sem.run Tryz.prog (Builtin.append_ #[24, 24] 24 #[.slice p2 n2 c2, .slice (some a3) 1 1]) w10 = Result.ok (.slice p5 n18 c5) w11 ∧ J p1 n1 c1 p5 n18 c5 w11))
  (∃ n11, w9.cell? (a2.add 0) = some (.int .i64 n11) ∧ ∃ n12, w9.cell? (a2.add 1) = some (.int .i64 n12) ∧ ∃ n13, w9.cell? (a2.add 2) = some (.int .i64 n13) ∧ ∃ b1, w9.cell? (a2.add 3) = some (.bool b1) ∧ ∃ n14, w9.cell? (a2.add 4) = some (.int .i64 n14) ∧ ∃ n15, w9.cell? (a2.add 5) = some (.int .i64 n15) ∧ ∃ p4 n16 c4, w9.cell? (a2.add 6) = some (.slice p4 n16 c4) ∧ newB w9 [.int .i64 n11, .int .i64 n12, .int .i64 n13, .bool b1, .int .i64 n14, .int .i64 n15, .slice p4 n16 c4] 34 fun a3 w10 => ∃ p5 n17, ∃ c5 w11, Sem.run Tryz.prog (Builtin.append_ #[24, 24] 24 #[.slice p2 n2 c2, .slice (some a3) 1 1]) w10 = Result.ok (.slice p5 n17 c5) w11 ∧ J p1 n1 c1 p5 n17 c5 w11))
  (nn q fun a1 => st w1 ((a1.add 5).add 0) (.slice p2 n2 c2) fun w2 => nn q fun a2 => callP Tryz.prog 71 [.iface 88 (.pointer (some (a2.add 5)))] w2 fun v w3 => v = .tuple #[] ∧ callP Tryz.prog 28 [.slice p1 n1 c1, .func (Fn.func 29) #[] #[]] w3 fun v1 w4 => v1 = .tuple #[] ∧ K (.slice p1 n1 c1) w4)
theorem eq_queue_Queue_Expire (q : Option Addr) (now : Int) (w : World) (K : Value → World → Prop) : wpF Tryz.prog none Tryz.f40 (.two .leaf (.two .leaf (.two (.two .leaf (.two (.loop [(5, .cell .slice), (6, .cell .slice), (14, .cell (.int .i64))] (.two .leaf (.two (.two .leaf .leaf) (.two (.meet [(5, .cell .slice), (6, .cell .slice)] (.two (.two .leaf (.two .leaf (.two .leaf .leaf))) .leaf)) .leaf)))) .leaf)) (.two .leaf (.two .leaf (.two .leaf (.two .leaf .leaf))))))) [Value.pointer q, Value.int .i64 now] w K = wp_queue_Queue_Expire q now w K := by kernel_rfl
theorem ok_queue_Queue_Expire {q : Option Addr} {now : Int} {w : World} {K : Value → World → Prop} (hwp : wp_queue_Queue_Expire q now w K) : callP Tryz.prog 40 [.pointer q, .int .i64 now] w K :=
  calls_of Tryz.func40 ((eq_queue_Queue_Expire q now w K).symm ▸ hwp)

/-- (longshore.queue.Queue).All -/
def wp_queue_Queue_All (q : Option Addr) (w : World) (K : Value → World → Prop) : Prop :=
  newB w [.pointer q] 27 fun a w1 => K (.func (Fn.func 26) #[] #[.pointer (some a)]) w1
theorem eq_queue_Queue_All (q : Option Addr) (w : World) (K : Value → World → Prop) : wpF Tryz.prog none Tryz.f9 (.two .leaf (.two .leaf .leaf)) [Value.pointer q] w K = wp_queue_Queue_All q w K := by kernel_rfl
theorem ok_queue_Queue_All {q : Option Addr} {w : World} {K : Value → World → Prop} (hwp : wp_queue_Queue_All q w K) : callP Tryz.prog 9 [.pointer q] w K :=
  calls_of Tryz.func9 ((eq_queue_Queue_All q w K).symm ▸ hwp)

/-- (longshore.queue.Queue).All$1 -/
def wp_queue_Queue_All_1 (yield : Value) (cap0 : Option Addr) (w : World) (K : Value → World → Prop) : Prop :=
  nn cap0 fun a =>
  ∃ p,
  w.drew.cell? a = some (.pointer p) ∧
  nn p fun a1 =>
  ∃ p1 n c,
  w.drew.cell? (a1.add 5) = some (.slice p1 n c) ∧
  nn cap0 fun a2 =>
  ∃ p2,
  w.drew.cell? a2 = some (.pointer p2) ∧
  nn p2 fun a3 =>
  ∃ (r : Option Nat),
  w.drew.cell? (a3.add 6) = some (.map r) ∧
  ∃ n1,
  Sem.run Tryz.prog (Builtin.len_ #[63] 3 #[.map r]) w.drew = Result.ok (.int .i64 n1) w.drew ∧
  ∃ p3 n2,
  ∃ c1 w1,
  Sem.run Tryz.prog (Instr.makeSlice 24 (.int .i64 0) (.int .i64 (IntKind.wrap .i64 ((↑n : Int) + n1)))) w.drew = Result.ok (.slice p3 n2 c1) w1 ∧
  nn cap0 fun a4 =>
  ∃ p4,
  w1.cell? a4 = some (.pointer p4) ∧
  nn p4 fun a5 =>
  ∃ p5 n3 c2,
  w1.cell? (a5.add 5) = some (.slice p5 n3 c2) ∧
  ∃ (I : Nat → Option Addr → Nat → Nat → Int → World → Prop),
  (∃ m, I m p3 n2 c1 0 w1) ∧
  ∀ m p6 n4 c3 n5 w2, I m p6 n4 c3 n5 w2 →
  Sif (decide (n5 < (↑n3 : Int)))
  (0 ≤ n5 ∧
  n5 < (↑n3 : Int) ∧
  nn p5 fun a6 =>
  ∃ n6,
  w2.cell? (Addr.add (a6.add (Int.toNat n5 * 7)) 0) = some (.int .i64 n6) ∧
  ∃ n7,
  w2.cell? (Addr.add (a6.add (Int.toNat n5 * 7)) 1) = some (.int .i64 n7) ∧
  ∃ n8,
  w2.cell? (Addr.add (a6.add (Int.toNat n5 * 7)) 2) = some (.int .i64 n8) ∧
  ∃ b,
  w2.cell? (Addr.add (a6.add (Int.toNat n5 * 7)) 3) = some (.bool b) ∧
  ∃ n9,
  w2.cell? (Addr.add (a6.add (Int.toNat n5 * 7)) 4) = some (.int .i64 n9) ∧
  ∃ n10,
  w2.cell? (Addr.add (a6.add (Int.toNat n5 * 7)) 5) = some (.int .i64 n10) ∧
  ∃ p7 n11 c4, w2.cell? (Addr.add (a6.add (Int.toNat n5 * 7)) 6) = some (.slice p7 n11 c4) ∧ newB w2 [.int .i64 0, .int .i64 0, .int .i64 0, .bool false, .int .i64 0, .int .i64 0, .slice none 0 0] 34 fun a7 w3 => st w3 (a7.add 0) (.int .i64 n6) fun w4 => st w4 (a7.add 1) (.int .i64 n7) fun w5 => st w5 (a7.add 2) (.int .i64 n8) fun w6 => st w6 (a7.add 3) (.bool b) fun w7 => st w7 (a7.add 4) (.int .i64 n9) fun w8 => st w8 (a7.add 5) (.int .i64 n10) fun w9 => st w9 (a7.add 6) (.slice p7 n11 c4) fun w10 => ∃ n12, w10.cell? (a7.add 0) = some (.int .i64 n12) ∧ ∃ n13, w10.cell? (a7.add 1) = some (.int .i64 n13) ∧ ∃ n14, w10.cell? (a7.add 2) = some (.int .i64 n14) ∧ ∃ b1, w10.cell? (a7.add 3) = some (.bool b1) ∧ ∃ n15, w10.cell? (a7.add 4) = some (.int .i64 n15) ∧ ∃ n16, w10.cell? (a7.add 5) = some (.int .i64 n16) ∧ ∃ p8 n17 c5, w10.cell? (a7.add 6) = some (.slice p8 n17 c5) ∧ callP Tryz.prog 27 [.agg #[.int .i64 n12, .int .i64 n13, .int .i64 n14, .bool b1, .int .i64 n15, .int .i64 n16, .slice p8 n17 c5]] w10 fun v w11 => ∃ n18 n19, ∃ n20 b2, ∃ n21 n22, ∃ p9 n23 c6, v = .agg #[.int .i64 n18, .int .i64 n19, .int .i64 n20, .bool b2, .int .i64 n21, .int .i64 n22, .slice p9 n23 c6] ∧ newB w11 [.int .i64 n18, .int .i64 n19, .int .i64 n20, .bool b2, .int .i64 n21, .int .i64 n22, .slice p9 n23 c6] 34 fun a8 w12 => ∃ p10 n24, ∃ c7 w13, Sem.run Tryz.prog (Builtin.append_ #[24, 24] 24 #[.slice p6 n4 c3, .slice (some a8) 1 1]) w12 = Result.ok (.slice p10 n24 c7) w13 ∧ ∃ m', m' < m ∧ I m' p10 n24 c7 (IntKind.wrap .i64 (n5 + 1)) w13)
  (nn cap0 fun a6 =>
  ∃ p7,
  w2.cell? a6 = some (.pointer p7) ∧
  nn p7 fun a7 =>
  ∃ (r1 : Option Nat),
  w2.cell? (a7.add 6) = some (.map r1) ∧
  ∃ p8 w3,
  Sem.run Tryz.prog (Instr.range 63 (.map r1)) w2 = Result.ok (.pointer p8) w3 ∧
  ∃ (I1 : Nat → Option Addr → Nat → Nat → World → Prop),
  (∃ m1, I1 m1 p6 n4 c3 w3) ∧
  ∀ m1 p9 n6 c4 w4, I1 m1 p9 n6 c4 w4 →
  (∃ w5,
  Sem.run Tryz.prog (Instr.next (.pointer p8) false 0) w4 = Result.ok (.tuple #[.bool false]) w5 ∧
  callP Tryz.prog 28 [.slice p9 n6 c4, .func (Fn.func 29) #[] #[]] w5 fun v w6 =>
  v = .tuple #[] ∧
  ∃ (I2 : Nat → Int → World → Prop),
  (∃ m2, I2 m2 0 w6) ∧
  ∀ m2 n7 w7, I2 m2 n7 w7 →
  Sif (decide (n7 < (↑n6 : Int)))
  (0 ≤ n7 ∧ n7 < (↑n6 : Int) ∧ nn p9 fun a8 => ∃ n8, w7.cell? (Addr.add (a8.add (Int.toNat n7 * 7)) 0) = some (.int .i64 n8) ∧ ∃ n9, w7.cell? (Addr.add (a8.add (Int.toNat n7 * 7)) 1) = some (.int .i64 n9) ∧ ∃ n10, w7.cell? (Addr.add (a8.add (Int.toNat n7 * 7)) 2) = some (.int .i64 n10) ∧ ∃ b, w7.cell? (Addr.add (a8.add (Int.toNat n7 * 7)) 3) = some (.bool b) ∧ ∃ n11, w7.cell? (Addr.add (a8.add (Int.toNat n7 * 7)) 4) = some (.int .i64 n11) ∧ ∃ n12, w7.cell? (Addr.add (a8.add (Int.toNat n7 * 7)) 5) = some (.int .i64 n12) ∧ ∃ p10 n13 c5, w7.cell? (Addr.add (a8.add (Int.toNat n7 * 7)) 6) = some (.slice p10 n13 c5) ∧ newB w7 [.int .i64 0, .int .i64 0, .int .i64 0, .bool false, .int .i64 0, .int .i64 0, .slice none 0 0] 34 fun a9 w8 => st w8 (a9.add 0) (.int .i64 n8) fun w9 => st w9 (a9.add 1) (.int .i64 n9) fun w10 => st w10 (a9.add 2) (.int .i64 n10) fun w11 => st w11 (a9.add 3) (.bool b) fun w12 => st w12 (a9.add 4) (.int .i64 n11) fun w13 => st w13 (a9.add 5) (.int .i64 n12) fun w14 => st w14 (a9.add 6) (.slice p10 n13 c5) fun w15 => ∃ n14, w15.cell? (a9.add 0) = some (.int .i64 n14) ∧ ∃ n15, w15.cell? (a9.add 1) = some (.int .i64 n15) ∧ ∃ n16, w15.cell? (a9.add 2) = some (.int .i64 n16) ∧ ∃ b1, w15.cell? (a9.add 3) = some (.bool b1) ∧ ∃ n17, w15.cell? (a9.add 4) = some (.int .i64 n17) ∧ ∃ n18, w15.cell? (a9.add 5) = some (.int .i64 n18) ∧ ∃ p11 n19 c6, w15.cell? (a9.add 6) = some (.slice p11 n19 c6) ∧ callV Tryz.prog none yield [.agg #[.int .i64 n14, .int .i64 n15, .int .i64 n16, .bool b1, .int .i64 n17, .int .i64 n18, .slice p11 n19 c6]] w15 fun v1 w16 => ∃ b2, v1 = .bool b2 ∧ Sif (!b2) (K (.tuple #[]) w16) (∃ m', m' < m2 ∧ I2 m' (IntKind.wrap .i64 (n7 + 1)) w16))
  (K (.tuple #[]) w7)) ∨
  ∃ v v1 w5, Sem.run Tryz.prog (Instr.next (.pointer p8) false 0) w4 = Result.ok (.tuple #[.bool true, v, v1]) w5 ∧ ∃ v2 v3, Sem.run Tryz.prog (Instr.entry (.pointer p8)) w5 = Result.ok (.tuple #[v2, v3]) w5 ∧ newB w5 [.int .i64 0, .int .i64 0, .int .i64 0, .bool false, .int .i64 0, .int .i64 0, .slice none 0 0] 34 fun a8 w6 => asAggV (nat_lit 7) v3 fun (vs : List Value) => stCells w6 a8 vs 0 fun w7 => ∃ n7, w7.cell? (a8.add 0) = some (.int .i64 n7) ∧ ∃ n8, w7.cell? (a8.add 1) = some (.int .i64 n8) ∧ ∃ n9, w7.cell? (a8.add 2) = some (.int .i64 n9) ∧ ∃ b, w7.cell? (a8.add 3) = some (.bool b) ∧ ∃ n10, w7.cell? (a8.add 4) = some (.int .i64 n10) ∧ ∃ n11, w7.cell? (a8.add 5) = some (.int .i64 n11) ∧ ∃ p10 n12 c5, w7.cell? (a8.add 6) = some (.slice p10 n12 c5) ∧ callP Tryz.prog 27 [.agg #[.int .i64 n7, .int .i64 n8, .int .i64 n9, .bool b, .int .i64 n10, .int .i64 n11, .slice p10 n12 c5]] w7 fun v4 w8 => ∃ n13 n14, ∃ n15 b1, ∃ n16 n17, ∃ p11 n18 c6, v4 = .agg #[.int .i64 n13, .int .i64 n14, .int .i64 n15, .bool b1, .int .i64 n16, .int .i64 n17, .slice p11 n18 c6] ∧ newB w8 [.int .i64 n13, .int .i64 n14, .int .i64 n15, .bool b1, .int .i64 n16, .int .i64 n17, .slice p11 n18 c6] 34 fun a9 w9 => ∃ p12 n19, ∃ c7 w10, Sem.run Tryz.prog (Builtin.append_ #[24, 24] 24 #[.slice p9 n6 c4, .slice (some a9) 1 1]) w9 = Result.ok (.slice p12 n19 c7) w10 ∧ ∃ m', m' < m1 ∧ I1 m' p12 n19 c7 w10)
theorem eq_queue_Queue_All_1 (yield : Value) (cap0 : Option Addr) (w : World) (K : Value → World → Prop) : wpF Tryz.prog none Tryz.f26 (.two (.draw [0, 1, 2, 3, 4, 5, 6, 7, 8, 9, 10, 11, 12]) (.two (.two .leaf (.two (.loop [(3, .cell .slice), (27, .cell (.int .i64))] (.two .leaf (.two (.two .leaf .leaf) (.two (.two (.two .leaf .leaf) .leaf) .leaf)))) .leaf)) (.two (.two .leaf (.two (.loop [(3, .cell .slice)] (.two .leaf (.two (.two .leaf .leaf) (.two (.two .leaf .leaf) .leaf)))) .leaf)) (.two .leaf (.two .leaf (.two (.loop [(55, .cell (.int .i64))] (.two .leaf (.two (.two .leaf .leaf) (.two (.two (.two .leaf (.two .leaf (.two .leaf .leaf))) .leaf) .leaf)))) .leaf)))))) [yield, Value.pointer cap0] w K = wp_queue_Queue_All_1 yield cap0 w K := by kernel_rfl
theorem ok_queue_Queue_All_1 {yield : Value} {cap0 : Option Addr} {w : World} {K : Value → World → Prop} (hwp : wp_queue_Queue_All_1 yield cap0 w K) : callP Tryz.prog 26 [yield, .pointer cap0] w K :=
  calls_of Tryz.func26 ((eq_queue_Queue_All_1 yield cap0 w K).symm ▸ hwp)

/-- slices.IndexFunc[longshore.queue.free,longshore.api.Entry] -/
def wp_slices_IndexFunc (s : Option Addr) (sn sc : Nat) (f : Value) (w : World) (K : Value → World → Prop) : Prop :=
  ∃ (I : Nat → Int → World → Prop), (∃ m, I m 0 w) ∧ ∀ m n w1, I m n w1 → Sif (decide (n < (↑sn : Int))) (0 ≤ n ∧ n < (↑sn : Int) ∧ nn s fun a => ∃ n1, w1.cell? (Addr.add (a.add (Int.toNat n * 7)) 0) = some (.int .i64 n1) ∧ ∃ n2, w1.cell? (Addr.add (a.add (Int.toNat n * 7)) 1) = some (.int .i64 n2) ∧ ∃ n3, w1.cell? (Addr.add (a.add (Int.toNat n * 7)) 2) = some (.int .i64 n3) ∧ ∃ b, w1.cell? (Addr.add (a.add (Int.toNat n * 7)) 3) = some (.bool b) ∧ ∃ n4, w1.cell? (Addr.add (a.add (Int.toNat n * 7)) 4) = some (.int .i64 n4) ∧ ∃ n5, w1.cell? (Addr.add (a.add (Int.toNat n * 7)) 5) = some (.int .i64 n5) ∧ ∃ p n6 c, w1.cell? (Addr.add (a.add (Int.toNat n * 7)) 6) = some (.slice p n6 c) ∧ callV Tryz.prog none f [.agg #[.int .i64 n1, .int .i64 n2, .int .i64 n3, .bool b, .int .i64 n4, .int .i64 n5, .slice p n6 c]] w1 fun v w2 => ∃ b1, v = .bool b1 ∧ Sif b1 (K (.int .i64 n) w2) (∃ m', m' < m ∧ I m' (IntKind.wrap .i64 (n + 1)) w2)) (K (.int .i64 (-1)) w1)
theorem eq_slices_IndexFunc (s : Option Addr) (sn sc : Nat) (f : Value) (w : World) (K : Value → World → Prop) : wpF Tryz.prog none Tryz.f67 (.two .leaf (.two (.two .leaf (.two (.loop [(8, .cell (.int .i64))] (.two .leaf (.two (.two .leaf .leaf) (.two (.two (.two .leaf (.two .leaf (.two (.two .leaf .leaf) .leaf))) .leaf) .leaf)))) .leaf)) (.two .leaf .leaf))) [Value.slice s sn sc, f] w K = wp_slices_IndexFunc s sn sc f w K := by kernel_rfl
theorem ok_slices_IndexFunc {s : Option Addr} {sn sc : Nat} {f : Value} {w : World} {K : Value → World → Prop} (hwp : wp_slices_IndexFunc s sn sc f w K) : callP Tryz.prog 67 [.slice s sn sc, f] w K :=
  calls_of Tryz.func67 ((eq_slices_IndexFunc s sn sc f w K).symm ▸ hwp)

/-- bytes.Clone -/
def wp_bytes_Clone (b : Option Addr) (bn bc : Nat) (w : World) (K : Value → World → Prop) : Prop :=
  Sif (Option.isNone b) (K (.slice none 0 0) w) (newB w [] 5 fun a w1 => ∃ p n, ∃ c w2, Sem.run Tryz.prog (Builtin.append_ #[32, 32] 32 #[.slice (some a) 0 0, .slice b bn bc]) w1 = Result.ok (.slice p n c) w2 ∧ K (.slice p n c) w2)
theorem eq_bytes_Clone (b : Option Addr) (bn bc : Nat) (w : World) (K : Value → World → Prop) : wpF Tryz.prog none Tryz.f53 (.two .leaf (.two (.two .leaf (.two (.two .leaf .leaf) .leaf)) (.two .leaf .leaf))) [Value.slice b bn bc] w K = wp_bytes_Clone b bn bc w K := by kernel_rfl
theorem ok_bytes_Clone {b : Option Addr} {bn bc : Nat} {w : World} {K : Value → World → Prop} (hwp : wp_bytes_Clone b bn bc w K) : callP Tryz.prog 53 [.slice b bn bc] w K :=
  calls_of Tryz.func53 ((eq_bytes_Clone b bn bc w K).symm ▸ hwp)

/-- slices.Clone[longshore.queue.free,longshore.api.Entry] -/
def wp_slices_Clone (s : Option Addr) (sn sc : Nat) (w : World) (K : Value → World → Prop) : Prop :=
  Sif (Option.isNone s) (K (.slice none 0 0) w) (newB w [] 34 fun a w1 => ∃ p n, ∃ c w2, Sem.run Tryz.prog (Builtin.append_ #[64, 64] 64 #[.slice (some a) 0 0, .slice s sn sc]) w1 = Result.ok (.slice p n c) w2 ∧ K (.slice p n c) w2)
theorem eq_slices_Clone (s : Option Addr) (sn sc : Nat) (w : World) (K : Value → World → Prop) : wpF Tryz.prog none Tryz.f94 (.two .leaf (.two (.two .leaf (.two (.two .leaf .leaf) .leaf)) (.two .leaf .leaf))) [Value.slice s sn sc] w K = wp_slices_Clone s sn sc w K := by kernel_rfl
theorem ok_slices_Clone {s : Option Addr} {sn sc : Nat} {w : World} {K : Value → World → Prop} (hwp : wp_slices_Clone s sn sc w K) : callP Tryz.prog 94 [.slice s sn sc] w K :=
  calls_of Tryz.func94 ((eq_slices_Clone s sn sc w K).symm ▸ hwp)

end Go.Proofs.YtipbbjnmpnfhpaaGreatDoor
