/-
  What a call of each function comes to (definitions 'wp_..', reckoned by a program out of the model's code), and that it is sound ('ok_..'). Written by program (sv.py).
-/
import Derived.Test.YtipbbjnmpnfhpaaGreatDoorPa4
import Derived.Test.YtipbbjnmpnfhpaaGreatDoorProg
import Derived.KernelRfl
namespace Go.Proofs.YtipbbjnmpnfhpaaGreatDoor
open Go Go.Sv
set_option linter.unusedVariables false

/-- longshore.queue.New -/
def wp_queue_New (c_0 : ByteArray) (c_1 : Int) (c_2 : ByteArray) (c_3 : Int) (c_4 : Bool) (w : World) (K : Value → World → Prop) : Prop :=
  newB w [.string c_0, .int .i64 c_1, .string c_2, .int .i64 c_3, .bool c_4] 23 fun a w1 => ∃ (J : World → Prop), (∀ (w2 : World), J w2 → ∃ (s : ByteArray), w2.cell? (Addr.add a 0) = some (.string s) ∧ ∃ (n : Int), w2.cell? (Addr.add a 1) = some (.int .i64 n) ∧ ∃ (s1 : ByteArray), w2.cell? (Addr.add a 2) = some (.string s1) ∧ ∃ (n1 : Int), w2.cell? (Addr.add a 3) = some (.int .i64 n1) ∧ ∃ (b : Bool), w2.cell? (Addr.add a 4) = some (.bool b) ∧ ∃ (r : Option Nat) (w3 : World), Sem.run Tryz.prog (Instr.makeMap 63 none) w2 = Result.ok (.map r) w3 ∧ newB w3 [.string s, .int .i64 n, .string s1, .int .i64 n1, .bool b, .slice none 0 0, .map r, .int .i64 0] 66 fun a1 w4 => K (.pointer (some a1)) w4) ∧ ∃ (s : ByteArray), w1.cell? (Addr.add a 0) = some (.string s) ∧ callP Tryz.prog 21 [.string s] w1 fun v w2 => ∃ (b : Bool), v = .bool b ∧ Sif (!!b) (∃ (n : Int), w2.cell? (Addr.add a 1) = some (.int .i64 n) ∧ Sif (!decide (n < 1)) (∃ (n1 : Int), w2.cell? (Addr.add a 1) = some (.int .i64 n1) ∧ Sif (!decide (n1 > 4096)) (∃ (n2 : Int), w2.cell? (Addr.add a 3) = some (.int .i64 n2) ∧ Sif (!decide (n2 < 0)) (∃ (n3 : Int), w2.cell? (Addr.add a 3) = some (.int .i64 n3) ∧ Sif (decide (n3 > 4294967295)) (K (.pointer none) w2) (∃ (s1 : ByteArray), w2.cell? (Addr.add a 2) = some (.string s1) ∧ Sif (!ByteArray.toList s1 == ByteArray.toList (ByteArray.mk (Array.mk []))) (∃ (s2 : ByteArray), w2.cell? (Addr.add a 2) = some (.string s2) ∧ callP Tryz.prog 21 [.string s2] w2 fun v1 w3 => ∃ (b1 : Bool), v1 = .bool b1 ∧ Sif (!!b1) (∃ (s3 : ByteArray), w3.cell? (Addr.add a 2) = some (.string s3) ∧ ∃ (s4 : ByteArray), w3.cell? (Addr.add a 0) = some (.string s4) ∧ Sif (ByteArray.toList s3 == ByteArray.toList s4) (K (.pointer none) w3) (J w3)) (K (.pointer none) w3)) (J w2))) (K (.pointer none) w2)) (K (.pointer none) w2)) (K (.pointer none) w2)) (K (.pointer none) w2)
set_option maxRecDepth 100000 in
theorem eq_queue_New (c_0 : ByteArray) (c_1 : Int) (c_2 : ByteArray) (c_3 : Int) (c_4 : Bool) (w : World) (K : Value → World → Prop) : wpF Tryz.prog none Tryz.f6 (.two .leaf (.two (Ann.meet [] (.two (.two .leaf (.two (.two .leaf .leaf) (.two .leaf (.two (.two .leaf .leaf) .leaf)))) .leaf)) (.two .leaf .leaf))) [Value.agg #[Value.string c_0, Value.int IntKind.i64 c_1, Value.string c_2, Value.int IntKind.i64 c_3, Value.bool c_4]] w K = wp_queue_New c_0 c_1 c_2 c_3 c_4 w K := by kernel_rfl
theorem ok_queue_New {c_0 : ByteArray} {c_1 : Int} {c_2 : ByteArray} {c_3 : Int} {c_4 : Bool} {w : World} {K : Value → World → Prop} (hwp : wp_queue_New c_0 c_1 c_2 c_3 c_4 w K) : callP Tryz.prog 6 [.agg #[.string c_0, .int .i64 c_1, .string c_2, .int .i64 c_3, .bool c_4]] w K :=
  calls_of Tryz.func6 ((eq_queue_New c_0 c_1 c_2 c_3 c_4 w K).symm ▸ hwp)

/-- longshore.queue.named -/
def wp_queue_named (s : ByteArray) (w : World) (K : Value → World → Prop) : Prop :=
  Sif (decide ((↑(ByteArray.size s) : Int) ≥ 1)) (Sif (decide ((↑(ByteArray.size s) : Int) ≤ 64)) (callP Tryz.prog 50 [.string s, .string (ByteArray.mk (Array.mk [(97 : UInt8), (98 : UInt8), (99 : UInt8), (100 : UInt8), (101 : UInt8), (102 : UInt8), (103 : UInt8), (104 : UInt8), (105 : UInt8), (106 : UInt8), (107 : UInt8), (108 : UInt8), (109 : UInt8), (110 : UInt8), (111 : UInt8), (112 : UInt8), (113 : UInt8), (114 : UInt8), (115 : UInt8), (116 : UInt8), (117 : UInt8), (118 : UInt8), (119 : UInt8), (120 : UInt8), (121 : UInt8), (122 : UInt8), (48 : UInt8), (49 : UInt8), (50 : UInt8), (51 : UInt8), (52 : UInt8), (53 : UInt8), (54 : UInt8), (55 : UInt8), (56 : UInt8), (57 : UInt8), (45 : UInt8), (46 : UInt8), (95 : UInt8)]))] w fun v w1 => ∃ (s1 : ByteArray), v = .string s1 ∧ K (.bool (ByteArray.toList s1 == ByteArray.toList (ByteArray.mk (Array.mk [])))) w1) (K (.bool false) w)) (K (.bool false) w)
set_option maxRecDepth 100000 in
theorem eq_queue_named (s : ByteArray) (w : World) (K : Value → World → Prop) : wpF Tryz.prog none Tryz.f21 (.two .leaf (.two .leaf .leaf)) [Value.string s] w K = wp_queue_named s w K := by kernel_rfl
theorem ok_queue_named {s : ByteArray} {w : World} {K : Value → World → Prop} (hwp : wp_queue_named s w K) : callP Tryz.prog 21 [.string s] w K :=
  calls_of Tryz.func21 ((eq_queue_named s w K).symm ▸ hwp)

/-- longshore.queue.own -/
def wp_queue_own (e_0 : Int) (e_1 : Int) (e_2 : Int) (e_3 : Bool) (e_4 : Int) (e_5 : Int) (e_6 : Option Addr) (e_6n : Nat) (e_6c : Nat) (w : World) (K : Value → World → Prop) : Prop :=
  newB w [.int .i64 e_0, .int .i64 e_1, .int .i64 e_2, .bool e_3, .int .i64 e_4, .int .i64 e_5, .slice e_6 e_6n e_6c] 34 fun a w1 => newB w1 [.int .i64 0, .int .i64 0, .int .i64 0, .bool false, .int .i64 0, .int .i64 0, .slice none 0 0] 34 fun a1 w2 => ∃ (p : Option Addr) (n c : Nat), w2.cell? (Addr.add a 6) = some (.slice p n c) ∧ callP Tryz.prog 53 [.slice p n c] w2 fun v w3 => ∃ (p1 : Option Addr) (n1 c1 : Nat), v = .slice p1 n1 c1 ∧ st w3 (Addr.add (Addr.add a 6) 0) (.slice p1 n1 c1) fun w4 => ∃ (n2 : Int), w4.cell? (Addr.add a 0) = some (.int .i64 n2) ∧ ∃ (n3 : Int), w4.cell? (Addr.add a 1) = some (.int .i64 n3) ∧ ∃ (n4 : Int), w4.cell? (Addr.add a 2) = some (.int .i64 n4) ∧ ∃ (b : Bool), w4.cell? (Addr.add a 3) = some (.bool b) ∧ ∃ (n5 : Int), w4.cell? (Addr.add a 4) = some (.int .i64 n5) ∧ ∃ (n6 : Int), w4.cell? (Addr.add a 5) = some (.int .i64 n6) ∧ ∃ (p2 : Option Addr) (n7 c2 : Nat), w4.cell? (Addr.add a 6) = some (.slice p2 n7 c2) ∧ st w4 (Addr.add a1 0) (.int .i64 n2) fun w5 => st w5 (Addr.add a1 1) (.int .i64 n3) fun w6 => st w6 (Addr.add a1 2) (.int .i64 n4) fun w7 => st w7 (Addr.add a1 3) (.bool b) fun w8 => st w8 (Addr.add a1 4) (.int .i64 n5) fun w9 => st w9 (Addr.add a1 5) (.int .i64 n6) fun w10 => st w10 (Addr.add a1 6) (.slice p2 n7 c2) fun w11 => ∃ (n8 : Int), w11.cell? (Addr.add a1 0) = some (.int .i64 n8) ∧ ∃ (n9 : Int), w11.cell? (Addr.add a1 1) = some (.int .i64 n9) ∧ ∃ (n10 : Int), w11.cell? (Addr.add a1 2) = some (.int .i64 n10) ∧ ∃ (b1 : Bool), w11.cell? (Addr.add a1 3) = some (.bool b1) ∧ ∃ (n11 : Int), w11.cell? (Addr.add a1 4) = some (.int .i64 n11) ∧ ∃ (n12 : Int), w11.cell? (Addr.add a1 5) = some (.int .i64 n12) ∧ ∃ (p3 : Option Addr) (n13 c3 : Nat), w11.cell? (Addr.add a1 6) = some (.slice p3 n13 c3) ∧ K (.agg (Array.mk [.int .i64 n8, .int .i64 n9, .int .i64 n10, .bool b1, .int .i64 n11, .int .i64 n12, .slice p3 n13 c3])) w11
set_option maxRecDepth 100000 in
theorem eq_queue_own (e_0 : Int) (e_1 : Int) (e_2 : Int) (e_3 : Bool) (e_4 : Int) (e_5 : Int) (e_6 : Option Addr) (e_6n : Nat) (e_6c : Nat) (w : World) (K : Value → World → Prop) : wpF Tryz.prog none Tryz.f27 (.two .leaf (.two .leaf (.two .leaf .leaf))) [Value.agg #[Value.int IntKind.i64 e_0, Value.int IntKind.i64 e_1, Value.int IntKind.i64 e_2, Value.bool e_3, Value.int IntKind.i64 e_4, Value.int IntKind.i64 e_5, Value.slice e_6 e_6n e_6c]] w K = wp_queue_own e_0 e_1 e_2 e_3 e_4 e_5 e_6 e_6n e_6c w K := by kernel_rfl
theorem ok_queue_own {e_0 : Int} {e_1 : Int} {e_2 : Int} {e_3 : Bool} {e_4 : Int} {e_5 : Int} {e_6 : Option Addr} {e_6n : Nat} {e_6c : Nat} {w : World} {K : Value → World → Prop} (hwp : wp_queue_own e_0 e_1 e_2 e_3 e_4 e_5 e_6 e_6n e_6c w K) : callP Tryz.prog 27 [.agg #[.int .i64 e_0, .int .i64 e_1, .int .i64 e_2, .bool e_3, .int .i64 e_4, .int .i64 e_5, .slice e_6 e_6n e_6c]] w K :=
  calls_of Tryz.func27 ((eq_queue_own e_0 e_1 e_2 e_3 e_4 e_5 e_6 e_6n e_6c w K).symm ▸ hwp)

/-- (longshore.queue.Queue).Len -/
def wp_queue_Queue_Len (q : Option Addr) (w : World) (K : Value → World → Prop) : Prop :=
  nn q fun a => nn q fun a1 => ∃ (p : Option Addr) (n c : Nat), World.cell? (World.drew w) (Addr.add a 5) = some (.slice p n c) ∧ ∃ (r : Option Nat), World.cell? (World.drew w) (Addr.add a1 6) = some (.map r) ∧ ∃ (n1 : Int), Sem.run Tryz.prog (Builtin.len_ (Array.mk [63]) 3 (Array.mk [.map r])) (World.drew w) = Result.ok (.int .i64 n1) (World.drew w) ∧ K (.tuple (Array.mk [.int .i64 (↑n : Int), .int .i64 n1])) (World.drew w)
set_option maxRecDepth 100000 in
theorem eq_queue_Queue_Len (q : Option Addr) (w : World) (K : Value → World → Prop) : wpF Tryz.prog none Tryz.f20 (.two .leaf (.two (Ann.draw [(0 : Nat), (1 : Nat), (2 : Nat), (5 : Nat), (6 : Nat), (7 : Nat), (3 : Nat), (4 : Nat), (8 : Nat), (9 : Nat), (10 : Nat), (11 : Nat)]) .leaf)) [Value.pointer q] w K = wp_queue_Queue_Len q w K := by kernel_rfl
theorem ok_queue_Queue_Len {q : Option Addr} {w : World} {K : Value → World → Prop} (hwp : wp_queue_Queue_Len q w K) : callP Tryz.prog 20 [.pointer q] w K :=
  calls_of Tryz.func20 ((eq_queue_Queue_Len q w K).symm ▸ hwp)

/-- (longshore.queue.Queue).Config -/
def wp_queue_Queue_Config (q : Option Addr) (w : World) (K : Value → World → Prop) : Prop :=
  newB w [.string (ByteArray.mk (Array.mk [])), .int .i64 0, .string (ByteArray.mk (Array.mk [])), .int .i64 0, .bool false] 23 fun a w1 => nn q fun a1 => ∃ (s : ByteArray), w1.cell? (Addr.add (Addr.add a1 0) 0) = some (.string s) ∧ ∃ (n : Int), w1.cell? (Addr.add (Addr.add a1 0) 1) = some (.int .i64 n) ∧ ∃ (s1 : ByteArray), w1.cell? (Addr.add (Addr.add a1 0) 2) = some (.string s1) ∧ ∃ (n1 : Int), w1.cell? (Addr.add (Addr.add a1 0) 3) = some (.int .i64 n1) ∧ ∃ (b : Bool), w1.cell? (Addr.add (Addr.add a1 0) 4) = some (.bool b) ∧ st w1 (Addr.add a 0) (.string s) fun w2 => st w2 (Addr.add a 1) (.int .i64 n) fun w3 => st w3 (Addr.add a 2) (.string s1) fun w4 => st w4 (Addr.add a 3) (.int .i64 n1) fun w5 => st w5 (Addr.add a 4) (.bool b) fun w6 => ∃ (s2 : ByteArray), w6.cell? (Addr.add a 0) = some (.string s2) ∧ ∃ (n2 : Int), w6.cell? (Addr.add a 1) = some (.int .i64 n2) ∧ ∃ (s3 : ByteArray), w6.cell? (Addr.add a 2) = some (.string s3) ∧ ∃ (n3 : Int), w6.cell? (Addr.add a 3) = some (.int .i64 n3) ∧ ∃ (b1 : Bool), w6.cell? (Addr.add a 4) = some (.bool b1) ∧ K (.agg (Array.mk [.string s2, .int .i64 n2, .string s3, .int .i64 n3, .bool b1])) w6
set_option maxRecDepth 100000 in
theorem eq_queue_Queue_Config (q : Option Addr) (w : World) (K : Value → World → Prop) : wpF Tryz.prog none Tryz.f16 (.two .leaf (.two .leaf .leaf)) [Value.pointer q] w K = wp_queue_Queue_Config q w K := by kernel_rfl
theorem ok_queue_Queue_Config {q : Option Addr} {w : World} {K : Value → World → Prop} (hwp : wp_queue_Queue_Config q w K) : callP Tryz.prog 16 [.pointer q] w K :=
  calls_of Tryz.func16 ((eq_queue_Queue_Config q w K).symm ▸ hwp)

/-- (longshore.queue.Queue).Put -/
def wp_queue_Queue_Put (q : Option Addr) (e_0 : Int) (e_1 : Int) (e_2 : Int) (e_3 : Bool) (e_4 : Int) (e_5 : Int) (e_6 : Option Addr) (e_6n : Nat) (e_6c : Nat) (w : World) (K : Value → World → Prop) : Prop :=
  newB w [.int .i64 e_0, .int .i64 e_1, .int .i64 e_2, .bool e_3, .int .i64 e_4, .int .i64 e_5, .slice e_6 e_6n e_6c] 34 fun a w1 =>
  ∃ (J : World → Prop),
  (∀ (w2 : World), J w2 → ∃ (n : Int), w2.cell? (Addr.add a 0) = some (.int .i64 n) ∧ nn q fun a1 => st w2 (Addr.add (Addr.add a1 7) 0) (.int .i64 n) fun w3 => nn q fun a2 => ∃ (n1 : Int), World.cell? (World.drew w3) (Addr.add a 0) = some (.int .i64 n1) ∧ ∃ (n2 : Int), World.cell? (World.drew w3) (Addr.add a 1) = some (.int .i64 n2) ∧ ∃ (n3 : Int), World.cell? (World.drew w3) (Addr.add a 2) = some (.int .i64 n3) ∧ ∃ (b : Bool), World.cell? (World.drew w3) (Addr.add a 3) = some (.bool b) ∧ ∃ (n4 : Int), World.cell? (World.drew w3) (Addr.add a 4) = some (.int .i64 n4) ∧ ∃ (n5 : Int), World.cell? (World.drew w3) (Addr.add a 5) = some (.int .i64 n5) ∧ ∃ (p : Option Addr) (n6 c : Nat), World.cell? (World.drew w3) (Addr.add a 6) = some (.slice p n6 c) ∧ callP Tryz.prog 27 [.agg (Array.mk [.int .i64 n1, .int .i64 n2, .int .i64 n3, .bool b, .int .i64 n4, .int .i64 n5, .slice p n6 c])] (World.drew w3) fun v w4 => ∃ (n7 n8 : Int), ∃ (n9 : Int) (b1 : Bool), ∃ (n10 n11 : Int), ∃ (p1 : Option Addr) (n12 c1 : Nat), v = .agg (Array.mk [.int .i64 n7, .int .i64 n8, .int .i64 n9, .bool b1, .int .i64 n10, .int .i64 n11, .slice p1 n12 c1]) ∧ callP Tryz.prog 47 [.iface 88 (.pointer (some (Addr.add a2 5))), .iface 34 (.agg (Array.mk [.int .i64 n7, .int .i64 n8, .int .i64 n9, .bool b1, .int .i64 n10, .int .i64 n11, .slice p1 n12 c1]))] w4 fun v1 w5 => v1 = .tuple (Array.mk []) ∧ K (.int .i64 0) w5) ∧
  nn q fun a1 => ∃ (n : Int), World.cell? (World.drew w1) (Addr.add a 0) = some (.int .i64 n) ∧ ∃ (n1 : Int), World.cell? (World.drew w1) (Addr.add a1 7) = some (.int .i64 n1) ∧ Sif (!decide (n ≤ n1)) (∃ (n2 : Int), World.cell? (World.drew w1) (Addr.add a 0) = some (.int .i64 n2) ∧ Sif (!decide (n2 < 1)) (∃ (n3 : Int), World.cell? (World.drew w1) (Addr.add a 1) = some (.int .i64 n3) ∧ Sif (!decide (n3 < 0)) (∃ (n4 : Int), World.cell? (World.drew w1) (Addr.add a 1) = some (.int .i64 n4) ∧ Sif (!decide (n4 > 9)) (∃ (n5 : Int), World.cell? (World.drew w1) (Addr.add a 2) = some (.int .i64 n5) ∧ Sif (!decide (n5 < (-1))) (∃ (n6 : Int), World.cell? (World.drew w1) (Addr.add a 2) = some (.int .i64 n6) ∧ Sif (!decide (n6 > 1125899906842624)) (∃ (n7 : Int), World.cell? (World.drew w1) (Addr.add a 4) = some (.int .i64 n7) ∧ Sif (!decide (n7 < 0)) (∃ (n8 : Int), World.cell? (World.drew w1) (Addr.add a 4) = some (.int .i64 n8) ∧ Sif (!decide (n8 > 4294967295)) (∃ (n9 : Int), World.cell? (World.drew w1) (Addr.add a 5) = some (.int .i64 n9) ∧ Sif (n9 != 0) (K (.int .i64 171) (World.drew w1)) (∃ (p : Option Addr) (n10 c : Nat), World.cell? (World.drew w1) (Addr.add a 6) = some (.slice p n10 c) ∧ Sif (decide ((↑n10 : Int) > 1048576)) (K (.int .i64 2) (World.drew w1)) (nn q fun a2 => nn q fun a3 => nn q fun a4 => ∃ (p1 : Option Addr) (n11 c1 : Nat), World.cell? (World.drew (World.drew w1)) (Addr.add a2 5) = some (.slice p1 n11 c1) ∧ ∃ (r : Option Nat), World.cell? (World.drew (World.drew w1)) (Addr.add a3 6) = some (.map r) ∧ ∃ (n12 : Int), Sem.run Tryz.prog (Builtin.len_ (Array.mk [63]) 3 (Array.mk [.map r])) (World.drew (World.drew w1)) = Result.ok (.int .i64 n12) (World.drew (World.drew w1)) ∧ ∃ (n13 : Int), World.cell? (World.drew (World.drew w1)) (Addr.add (Addr.add a4 0) 1) = some (.int .i64 n13) ∧ Sif (decide (IntKind.wrap .i64 ((↑n11 : Int) + n12) ≥ n13)) (K (.int .i64 170) (World.drew (World.drew w1))) (J (World.drew (World.drew w1)))))) (K (.int .i64 171) (World.drew w1))) (K (.int .i64 171) (World.drew w1))) (K (.int .i64 171) (World.drew w1))) (K (.int .i64 171) (World.drew w1))) (K (.int .i64 171) (World.drew w1))) (K (.int .i64 171) (World.drew w1))) (K (.int .i64 171) (World.drew w1))) (K (.int .i64 171) (World.drew w1))
set_option maxRecDepth 100000 in
theorem eq_queue_Queue_Put (q : Option Addr) (e_0 : Int) (e_1 : Int) (e_2 : Int) (e_3 : Bool) (e_4 : Int) (e_5 : Int) (e_6 : Option Addr) (e_6n : Nat) (e_6c : Nat) (w : World) (K : Value → World → Prop) : wpF Tryz.prog none Tryz.f17
  (Ann.two Ann.leaf
    (Ann.two
      (Ann.meet []
        (Ann.two
          (Ann.two
            (Ann.draw
              (let y :=
                let y :=
                  let y := [(42 : Nat), (43 : Nat), (44 : Nat), (45 : Nat), (46 : Nat), (47 : Nat)];
                  (36 : Nat) :: (37 : Nat) :: (38 : Nat) :: (39 : Nat) :: (40 : Nat) :: (41 : Nat) :: y;
                let y := (30 : Nat) :: (31 : Nat) :: (32 : Nat) :: (33 : Nat) :: (34 : Nat) :: (35 : Nat) :: y;
                (24 : Nat) :: (25 : Nat) :: (26 : Nat) :: (27 : Nat) :: (28 : Nat) :: (29 : Nat) :: y;
              let y :=
                let y := (18 : Nat) :: (19 : Nat) :: (20 : Nat) :: (21 : Nat) :: (22 : Nat) :: (23 : Nat) :: y;
                (12 : Nat) :: (13 : Nat) :: (14 : Nat) :: (15 : Nat) :: (16 : Nat) :: (17 : Nat) :: y;
              let y := (6 : Nat) :: (7 : Nat) :: (8 : Nat) :: (9 : Nat) :: (10 : Nat) :: (11 : Nat) :: y;
              (0 : Nat) :: (2 : Nat) :: (3 : Nat) :: (4 : Nat) :: (1 : Nat) :: (5 : Nat) :: y))
            (Ann.two (Ann.two Ann.leaf Ann.leaf) (Ann.two Ann.leaf (Ann.two (Ann.two Ann.leaf Ann.leaf) (Ann.two (Ann.draw [(0 : Nat), (1 : Nat), (2 : Nat), (5 : Nat), (6 : Nat), (7 : Nat), (11 : Nat), (12 : Nat), (13 : Nat), (14 : Nat), (3 : Nat), (4 : Nat), (8 : Nat), (9 : Nat), (10 : Nat), (15 : Nat), (16 : Nat), (17 : Nat)]) (Ann.two (Ann.two Ann.leaf Ann.leaf) Ann.leaf))))))
          Ann.leaf))
      (Ann.two Ann.leaf (Ann.two (Ann.draw [(0 : Nat), (1 : Nat), (2 : Nat), (3 : Nat), (4 : Nat), (5 : Nat), (6 : Nat), (7 : Nat)]) (Ann.two Ann.leaf Ann.leaf)))))
  [Value.pointer q, Value.agg #[Value.int IntKind.i64 e_0, Value.int IntKind.i64 e_1, Value.int IntKind.i64 e_2, Value.bool e_3, Value.int IntKind.i64 e_4, Value.int IntKind.i64 e_5, Value.slice e_6 e_6n e_6c]] w K = wp_queue_Queue_Put q e_0 e_1 e_2 e_3 e_4 e_5 e_6 e_6n e_6c w K := by kernel_rfl
theorem ok_queue_Queue_Put {q : Option Addr} {e_0 : Int} {e_1 : Int} {e_2 : Int} {e_3 : Bool} {e_4 : Int} {e_5 : Int} {e_6 : Option Addr} {e_6n : Nat} {e_6c : Nat} {w : World} {K : Value → World → Prop} (hwp : wp_queue_Queue_Put q e_0 e_1 e_2 e_3 e_4 e_5 e_6 e_6n e_6c w K) : callP Tryz.prog 17 [.pointer q, .agg #[.int .i64 e_0, .int .i64 e_1, .int .i64 e_2, .bool e_3, .int .i64 e_4, .int .i64 e_5, .slice e_6 e_6n e_6c]] w K :=
  calls_of Tryz.func17 ((eq_queue_Queue_Put q e_0 e_1 e_2 e_3 e_4 e_5 e_6 e_6n e_6c w K).symm ▸ hwp)

/-- (longshore.queue.Queue).Peek$1 -/
def wp_queue_Queue_Peek_1 (a_0 : Int) (a_1 : Int) (a_2 : Int) (a_3 : Bool) (a_4 : Int) (a_5 : Int) (a_6 : Option Addr) (a_6n : Nat) (a_6c : Nat) (b_0 : Int) (b_1 : Int) (b_2 : Int) (b_3 : Bool) (b_4 : Int) (b_5 : Int) (b_6 : Option Addr) (b_6n : Nat) (b_6c : Nat) (w : World) (K : Value → World → Prop) : Prop :=
  newB w [.int .i64 a_0, .int .i64 a_1, .int .i64 a_2, .bool a_3, .int .i64 a_4, .int .i64 a_5, .slice a_6 a_6n a_6c] 34 fun a w1 => newB w1 [.int .i64 b_0, .int .i64 b_1, .int .i64 b_2, .bool b_3, .int .i64 b_4, .int .i64 b_5, .slice b_6 b_6n b_6c] 34 fun a1 w2 => ∃ (n : Int), w2.cell? (Addr.add a 0) = some (.int .i64 n) ∧ ∃ (n1 : Int), w2.cell? (Addr.add a1 0) = some (.int .i64 n1) ∧ callP Tryz.prog 57 [.int .i64 n, .int .i64 n1] w2 fun v w3 => ∃ (n2 : Int), v = .int .i64 n2 ∧ K (.int .i64 n2) w3
set_option maxRecDepth 100000 in
theorem eq_queue_Queue_Peek_1 (a_0 : Int) (a_1 : Int) (a_2 : Int) (a_3 : Bool) (a_4 : Int) (a_5 : Int) (a_6 : Option Addr) (a_6n : Nat) (a_6c : Nat) (b_0 : Int) (b_1 : Int) (b_2 : Int) (b_3 : Bool) (b_4 : Int) (b_5 : Int) (b_6 : Option Addr) (b_6n : Nat) (b_6c : Nat) (w : World) (K : Value → World → Prop) : wpF Tryz.prog none Tryz.f96 (.two .leaf (.two .leaf .leaf)) [Value.agg #[Value.int IntKind.i64 a_0, Value.int IntKind.i64 a_1, Value.int IntKind.i64 a_2, Value.bool a_3, Value.int IntKind.i64 a_4, Value.int IntKind.i64 a_5, Value.slice a_6 a_6n a_6c], Value.agg #[Value.int IntKind.i64 b_0, Value.int IntKind.i64 b_1, Value.int IntKind.i64 b_2, Value.bool b_3, Value.int IntKind.i64 b_4, Value.int IntKind.i64 b_5, Value.slice b_6 b_6n b_6c]] w K = wp_queue_Queue_Peek_1 a_0 a_1 a_2 a_3 a_4 a_5 a_6 a_6n a_6c b_0 b_1 b_2 b_3 b_4 b_5 b_6 b_6n b_6c w K := by kernel_rfl
theorem ok_queue_Queue_Peek_1 {a_0 : Int} {a_1 : Int} {a_2 : Int} {a_3 : Bool} {a_4 : Int} {a_5 : Int} {a_6 : Option Addr} {a_6n : Nat} {a_6c : Nat} {b_0 : Int} {b_1 : Int} {b_2 : Int} {b_3 : Bool} {b_4 : Int} {b_5 : Int} {b_6 : Option Addr} {b_6n : Nat} {b_6c : Nat} {w : World} {K : Value → World → Prop} (hwp : wp_queue_Queue_Peek_1 a_0 a_1 a_2 a_3 a_4 a_5 a_6 a_6n a_6c b_0 b_1 b_2 b_3 b_4 b_5 b_6 b_6n b_6c w K) : callP Tryz.prog 96 [.agg #[.int .i64 a_0, .int .i64 a_1, .int .i64 a_2, .bool a_3, .int .i64 a_4, .int .i64 a_5, .slice a_6 a_6n a_6c], .agg #[.int .i64 b_0, .int .i64 b_1, .int .i64 b_2, .bool b_3, .int .i64 b_4, .int .i64 b_5, .slice b_6 b_6n b_6c]] w K :=
  calls_of Tryz.func96 ((eq_queue_Queue_Peek_1 a_0 a_1 a_2 a_3 a_4 a_5 a_6 a_6n a_6c b_0 b_1 b_2 b_3 b_4 b_5 b_6 b_6n b_6c w K).symm ▸ hwp)

/-- (longshore.queue.Queue).Back -/
def wp_queue_Queue_Back (q : Option Addr) (seq : Int) (holder : Int) (failed : Bool) (w : World) (K : Value → World → Prop) : Prop :=
  newB w [.int .i64 0, .int .i64 0, .int .i64 0, .bool false, .int .i64 0, .int .i64 0, .slice none 0 0] 34 fun a w1 =>
  nn q fun a1 =>
  ∃ (r : Option Nat),
  w1.cell? (Addr.add a1 6) = some (.map r) ∧
  ∃ (n n1 : Int),
  ∃ (n2 : Int) (b : Bool),
  ∃ (n3 n4 : Int),
  ∃ (p : Option Addr) (n5 : Nat),
  ∃ (c : Nat) (b1 : Bool),
  Sem.run Tryz.prog (Instr.lookup 63 (.map r) (.int .i64 seq) true) w1 = Result.ok (.tuple (Array.mk [.agg (Array.mk [.int .i64 n, .int .i64 n1, .int .i64 n2, .bool b, .int .i64 n3, .int .i64 n4, .slice p n5 c]), .bool b1])) w1 ∧
  newB w1 [.int .i64 0, .int .i64 0, .int .i64 0, .bool false, .int .i64 0, .int .i64 0, .slice none 0 0] 34 fun a2 w2 =>
  st w2 (Addr.add a2 0) (.int .i64 n) fun w3 =>
  st w3 (Addr.add a2 1) (.int .i64 n1) fun w4 =>
  st w4 (Addr.add a2 2) (.int .i64 n2) fun w5 =>
  st w5 (Addr.add a2 3) (.bool b) fun w6 =>
  st w6 (Addr.add a2 4) (.int .i64 n3) fun w7 =>
  st w7 (Addr.add a2 5) (.int .i64 n4) fun w8 =>
  st w8 (Addr.add a2 6) (.slice p n5 c) fun w9 =>
  ∃ (J : World → Prop),
  (∀ (w10 : World),
  J w10 →
  nn q fun a3 =>
  ∃ (r1 : Option Nat),
  w10.cell? (Addr.add a3 6) = some (.map r1) ∧
  ∃ (w11 : World),
  Sem.run Tryz.prog (Builtin.delete_ (Array.mk [63, 3]) 0 (Array.mk [.map r1, .int .i64 seq])) w10 = Result.ok (.tuple (Array.mk [])) w11 ∧
  st w11 (Addr.add (Addr.add a2 5) 0) (.int .i64 0) fun w12 =>
  ∃ (J1 : World → Prop),
  (∀ (w13 : World),
  J1 w13 →
  nn q fun a4 =>
  ∃ (n6 : Int),
  World.cell? (World.drew w13) (Addr.add a2 0) = some (.int .i64 n6) ∧
  ∃ (n7 : Int),
  World.cell? (World.drew w13) (Addr.add a2 1) = some (.int .i64 n7) ∧
  ∃ (n8 : Int),
  World.cell? (World.drew w13) (Addr.add a2 2) = some (.int .i64 n8) ∧
  ∃ (b2 : Bool),
  World.cell? (World.drew w13) (Addr.add a2 3) = some (.bool b2) ∧
  ∃ (n9 : Int),
  World.cell? (World.drew w13) (Addr.add a2 4) = some (.int .i64 n9) ∧
  ∃ (n10 : Int),
  World.cell? (World.drew w13) (Addr.add a2 5) = some (.int .i64 n10) ∧
  ∃ (p1 : Option Addr) (n11 c1 : Nat),
  World.cell? (World.drew w13) (Addr.add a2 6) = some (.slice p1 n11 c1) ∧
  callP Tryz.prog 47 [.iface 88 (.pointer (some (Addr.add a4 5))), .iface 34 (.agg (Array.mk [.int .i64 n6, .int .i64 n7, .int .i64 n8, .bool b2, .int .i64 n9, .int .i64 n10, .slice p1 n11 c1]))] (World.drew w13) fun v w14 =>
  v = .tuple (Array.mk []) ∧ ∃ (n12 : Int), w14.cell? (Addr.add a2 0) = some (.int .i64 n12) ∧ ∃ (n13 : Int), w14.cell? (Addr.add a2 1) = some (.int .i64 n13) ∧ ∃ (n14 : Int), w14.cell? (Addr.add a2 2) = some (.int .i64 n14) ∧ ∃ (b3 : Bool), w14.cell? (Addr.add a2 3) = some (.bool b3) ∧ ∃ (n15 : Int), w14.cell? (Addr.add a2 4) = some (.int .i64 n15) ∧ ∃ (n16 : Int), w14.cell? (Addr.add a2 5) = some (.int .i64 n16) ∧ ∃ (p2 : Option Addr) (n17 c2 : Nat), w14.cell? (Addr.add a2 6) = some (.slice p2 n17 c2) ∧ callP Tryz.prog 27 [.agg (Array.mk [.int .i64 n12, .int .i64 n13, .int .i64 n14, .bool b3, .int .i64 n15, .int .i64 n16, .slice p2 n17 c2])] w14 fun v1 w15 => ∃ (n18 n19 : Int), ∃ (n20 : Int) (b4 : Bool), ∃ (n21 n22 : Int), ∃ (p3 : Option Addr) (n23 c3 : Nat), v1 = .agg (Array.mk [.int .i64 n18, .int .i64 n19, .int .i64 n20, .bool b4, .int .i64 n21, .int .i64 n22, .slice p3 n23 c3]) ∧ st w15 (Addr.add a 0) (.int .i64 n18) fun w16 => st w16 (Addr.add a 1) (.int .i64 n19) fun w17 => st w17 (Addr.add a 2) (.int .i64 n20) fun w18 => st w18 (Addr.add a 3) (.bool b4) fun w19 => st w19 (Addr.add a 4) (.int .i64 n21) fun w20 => st w20 (Addr.add a 5) (.int .i64 n22) fun w21 => st w21 (Addr.add a 6) (.slice p3 n23 c3) fun w22 => ∃ (n24 : Int), w22.cell? (Addr.add a 0) = some (.int .i64 n24) ∧ ∃ (n25 : Int), w22.cell? (Addr.add a 1) = some (.int .i64 n25) ∧ ∃ (n26 : Int), w22.cell? (Addr.add a 2) = some (.int .i64 n26) ∧ ∃ (b5 : Bool), w22.cell? (Addr.add a 3) = some (.bool b5) ∧ ∃ (n27 : Int), w22.cell? (Addr.add a 4) = some (.int .i64 n27) ∧ ∃ (n28 : Int), w22.cell? (Addr.add a 5) = some (.int .i64 n28) ∧ ∃ (p4 : Option Addr) (n29 c4 : Nat), w22.cell? (Addr.add a 6) = some (.slice p4 n29 c4) ∧ K (.tuple (Array.mk [.agg (Array.mk [.int .i64 n24, .int .i64 n25, .int .i64 n26, .bool b5, .int .i64 n27, .int .i64 n28, .slice p4 n29 c4]), .bool false, .int .i64 0])) w22) ∧
  Sif failed
  (∃ (n6 : Int),
  w12.cell? (Addr.add a2 4) = some (.int .i64 n6) ∧
  st w12 (Addr.add (Addr.add a2 4) 0) (.int .i64 (min (IntKind.wrap .i64 (n6 + 1)) 4294967295)) fun w13 => nn q fun a4 => ∃ (n7 : Int), World.cell? (World.drew w13) (Addr.add (Addr.add a4 0) 3) = some (.int .i64 n7) ∧ Sif (decide (n7 > 0)) (nn q fun a5 => ∃ (n8 : Int), World.cell? (World.drew w13) (Addr.add a2 4) = some (.int .i64 n8) ∧ ∃ (n9 : Int), World.cell? (World.drew w13) (Addr.add (Addr.add a5 0) 3) = some (.int .i64 n9) ∧ Sif (decide (n8 ≥ n9)) (∃ (n10 : Int), World.cell? (World.drew w13) (Addr.add a2 0) = some (.int .i64 n10) ∧ ∃ (n11 : Int), World.cell? (World.drew w13) (Addr.add a2 1) = some (.int .i64 n11) ∧ ∃ (n12 : Int), World.cell? (World.drew w13) (Addr.add a2 2) = some (.int .i64 n12) ∧ ∃ (b2 : Bool), World.cell? (World.drew w13) (Addr.add a2 3) = some (.bool b2) ∧ ∃ (n13 : Int), World.cell? (World.drew w13) (Addr.add a2 4) = some (.int .i64 n13) ∧ ∃ (n14 : Int), World.cell? (World.drew w13) (Addr.add a2 5) = some (.int .i64 n14) ∧ ∃ (p1 : Option Addr) (n15 c1 : Nat), World.cell? (World.drew w13) (Addr.add a2 6) = some (.slice p1 n15 c1) ∧ st (World.drew w13) (Addr.add a 0) (.int .i64 n10) fun w14 => st w14 (Addr.add a 1) (.int .i64 n11) fun w15 => st w15 (Addr.add a 2) (.int .i64 n12) fun w16 => st w16 (Addr.add a 3) (.bool b2) fun w17 => st w17 (Addr.add a 4) (.int .i64 n13) fun w18 => st w18 (Addr.add a 5) (.int .i64 n14) fun w19 => st w19 (Addr.add a 6) (.slice p1 n15 c1) fun w20 => ∃ (n16 : Int), w20.cell? (Addr.add a 0) = some (.int .i64 n16) ∧ ∃ (n17 : Int), w20.cell? (Addr.add a 1) = some (.int .i64 n17) ∧ ∃ (n18 : Int), w20.cell? (Addr.add a 2) = some (.int .i64 n18) ∧ ∃ (b3 : Bool), w20.cell? (Addr.add a 3) = some (.bool b3) ∧ ∃ (n19 : Int), w20.cell? (Addr.add a 4) = some (.int .i64 n19) ∧ ∃ (n20 : Int), w20.cell? (Addr.add a 5) = some (.int .i64 n20) ∧ ∃ (p2 : Option Addr) (n21 c2 : Nat), w20.cell? (Addr.add a 6) = some (.slice p2 n21 c2) ∧ K (.tuple (Array.mk [.agg (Array.mk [.int .i64 n16, .int .i64 n17, .int .i64 n18, .bool b3, .int .i64 n19, .int .i64 n20, .slice p2 n21 c2]), .bool true, .int .i64 0])) w20) (J1 (World.drew w13))) (J1 (World.drew w13)))
  (J1 w12)) ∧
  Sif (!!b1) (∃ (n6 : Int), w9.cell? (Addr.add a2 5) = some (.int .i64 n6) ∧ Sif (n6 != holder) (st w9 (Addr.add a 0) (.int .i64 0) fun w10 => st w10 (Addr.add a 1) (.int .i64 0) fun w11 => st w11 (Addr.add a 2) (.int .i64 0) fun w12 => st w12 (Addr.add a 3) (.bool false) fun w13 => st w13 (Addr.add a 4) (.int .i64 0) fun w14 => st w14 (Addr.add a 5) (.int .i64 0) fun w15 => st w15 (Addr.add a 6) (.slice none 0 0) fun w16 => ∃ (n7 : Int), w16.cell? (Addr.add a 0) = some (.int .i64 n7) ∧ ∃ (n8 : Int), w16.cell? (Addr.add a 1) = some (.int .i64 n8) ∧ ∃ (n9 : Int), w16.cell? (Addr.add a 2) = some (.int .i64 n9) ∧ ∃ (b2 : Bool), w16.cell? (Addr.add a 3) = some (.bool b2) ∧ ∃ (n10 : Int), w16.cell? (Addr.add a 4) = some (.int .i64 n10) ∧ ∃ (n11 : Int), w16.cell? (Addr.add a 5) = some (.int .i64 n11) ∧ ∃ (p1 : Option Addr) (n12 c1 : Nat), w16.cell? (Addr.add a 6) = some (.slice p1 n12 c1) ∧ K (.tuple (Array.mk [.agg (Array.mk [.int .i64 n7, .int .i64 n8, .int .i64 n9, .bool b2, .int .i64 n10, .int .i64 n11, .slice p1 n12 c1]), .bool false, .int .i64 171])) w16) (J w9))
  (st w9 (Addr.add a 0) (.int .i64 0) fun w10 => st w10 (Addr.add a 1) (.int .i64 0) fun w11 => st w11 (Addr.add a 2) (.int .i64 0) fun w12 => st w12 (Addr.add a 3) (.bool false) fun w13 => st w13 (Addr.add a 4) (.int .i64 0) fun w14 => st w14 (Addr.add a 5) (.int .i64 0) fun w15 => st w15 (Addr.add a 6) (.slice none 0 0) fun w16 => ∃ (n6 : Int), w16.cell? (Addr.add a 0) = some (.int .i64 n6) ∧ ∃ (n7 : Int), w16.cell? (Addr.add a 1) = some (.int .i64 n7) ∧ ∃ (n8 : Int), w16.cell? (Addr.add a 2) = some (.int .i64 n8) ∧ ∃ (b2 : Bool), w16.cell? (Addr.add a 3) = some (.bool b2) ∧ ∃ (n9 : Int), w16.cell? (Addr.add a 4) = some (.int .i64 n9) ∧ ∃ (n10 : Int), w16.cell? (Addr.add a 5) = some (.int .i64 n10) ∧ ∃ (p1 : Option Addr) (n11 c1 : Nat), w16.cell? (Addr.add a 6) = some (.slice p1 n11 c1) ∧ K (.tuple (Array.mk [.agg (Array.mk [.int .i64 n6, .int .i64 n7, .int .i64 n8, .bool b2, .int .i64 n9, .int .i64 n10, .slice p1 n11 c1]), .bool false, .int .i64 171])) w16)
set_option maxRecDepth 100000 in
theorem eq_queue_Queue_Back (q : Option Addr) (seq : Int) (holder : Int) (failed : Bool) (w : World) (K : Value → World → Prop) : wpF Tryz.prog none Tryz.f19 (.two .leaf (.two .leaf (.two (Ann.meet [] (.two .leaf (.two (.two .leaf .leaf) .leaf))) (.two .leaf (.two .leaf (.two (Ann.meet [] (.two .leaf (.two (.two .leaf (.two (Ann.draw [(0 : Nat), (1 : Nat), (2 : Nat), (3 : Nat), (4 : Nat), (5 : Nat), (6 : Nat), (7 : Nat), (9 : Nat), (10 : Nat), (11 : Nat), (12 : Nat), (8 : Nat), (13 : Nat), (14 : Nat), (15 : Nat)]) (.two (.two .leaf .leaf) .leaf))) .leaf))) (.two (Ann.draw [(0 : Nat), (1 : Nat), (2 : Nat), (3 : Nat), (4 : Nat), (5 : Nat), (6 : Nat)]) (.two .leaf .leaf)))))))) [Value.pointer q, Value.int IntKind.i64 seq, Value.int IntKind.i64 holder, Value.bool failed] w K = wp_queue_Queue_Back q seq holder failed w K := by kernel_rfl
theorem ok_queue_Queue_Back {q : Option Addr} {seq : Int} {holder : Int} {failed : Bool} {w : World} {K : Value → World → Prop} (hwp : wp_queue_Queue_Back q seq holder failed w K) : callP Tryz.prog 19 [.pointer q, .int .i64 seq, .int .i64 holder, .bool failed] w K :=
  calls_of Tryz.func19 ((eq_queue_Queue_Back q seq holder failed w K).symm ▸ hwp)

/-- (longshore.queue.Queue).Remove -/
def wp_queue_Queue_Remove (q : Option Addr) (seq : Int) (holder : Int) (w : World) (K : Value → World → Prop) : Prop :=
  newB w [.int .i64 seq] 3 fun a w1 =>
  newB w1 [.int .i64 0, .int .i64 0, .int .i64 0, .bool false, .int .i64 0, .int .i64 0, .slice none 0 0] 34 fun a1 w2 =>
  Sif (holder == 0)
  (nn q fun a2 =>
  ∃ (p : Option Addr) (n c : Nat),
  w2.cell? (Addr.add a2 5) = some (.slice p n c) ∧
  callP Tryz.prog 67 [.slice p n c, .func (Fn.func 68) (Array.mk []) (Array.mk [.pointer (some a)])] w2 fun v w3 =>
  ∃ (n1 : Int),
  v = .int .i64 n1 ∧
  Sif (decide (n1 < 0)) (st w3 (Addr.add a1 0) (.int .i64 0) fun w4 => st w4 (Addr.add a1 1) (.int .i64 0) fun w5 => st w5 (Addr.add a1 2) (.int .i64 0) fun w6 => st w6 (Addr.add a1 3) (.bool false) fun w7 => st w7 (Addr.add a1 4) (.int .i64 0) fun w8 => st w8 (Addr.add a1 5) (.int .i64 0) fun w9 => st w9 (Addr.add a1 6) (.slice none 0 0) fun w10 => ∃ (n2 : Int), w10.cell? (Addr.add a1 0) = some (.int .i64 n2) ∧ ∃ (n3 : Int), w10.cell? (Addr.add a1 1) = some (.int .i64 n3) ∧ ∃ (n4 : Int), w10.cell? (Addr.add a1 2) = some (.int .i64 n4) ∧ ∃ (b : Bool), w10.cell? (Addr.add a1 3) = some (.bool b) ∧ ∃ (n5 : Int), w10.cell? (Addr.add a1 4) = some (.int .i64 n5) ∧ ∃ (n6 : Int), w10.cell? (Addr.add a1 5) = some (.int .i64 n6) ∧ ∃ (p1 : Option Addr) (n7 c1 : Nat), w10.cell? (Addr.add a1 6) = some (.slice p1 n7 c1) ∧ K (.tuple (Array.mk [.agg (Array.mk [.int .i64 n2, .int .i64 n3, .int .i64 n4, .bool b, .int .i64 n5, .int .i64 n6, .slice p1 n7 c1]), .int .i64 171])) w10)
  (nn q fun a3 => callP Tryz.prog 69 [.iface 88 (.pointer (some (Addr.add a3 5))), .int .i64 n1] w3 fun v1 w4 => ∃ (v2 : Value), v1 = v2 ∧ ∃ (n2 n3 : Int), ∃ (n4 : Int) (b : Bool), ∃ (n5 n6 : Int), ∃ (p1 : Option Addr) (n7 c1 : Nat), Sem.run Tryz.prog (Instr.typeAssert v2 20 34 false) w4 = Result.ok (.agg (Array.mk [.int .i64 n2, .int .i64 n3, .int .i64 n4, .bool b, .int .i64 n5, .int .i64 n6, .slice p1 n7 c1])) w4 ∧ st w4 (Addr.add a1 0) (.int .i64 n2) fun w5 => st w5 (Addr.add a1 1) (.int .i64 n3) fun w6 => st w6 (Addr.add a1 2) (.int .i64 n4) fun w7 => st w7 (Addr.add a1 3) (.bool b) fun w8 => st w8 (Addr.add a1 4) (.int .i64 n5) fun w9 => st w9 (Addr.add a1 5) (.int .i64 n6) fun w10 => st w10 (Addr.add a1 6) (.slice p1 n7 c1) fun w11 => ∃ (n8 : Int), w11.cell? (Addr.add a1 0) = some (.int .i64 n8) ∧ ∃ (n9 : Int), w11.cell? (Addr.add a1 1) = some (.int .i64 n9) ∧ ∃ (n10 : Int), w11.cell? (Addr.add a1 2) = some (.int .i64 n10) ∧ ∃ (b1 : Bool), w11.cell? (Addr.add a1 3) = some (.bool b1) ∧ ∃ (n11 : Int), w11.cell? (Addr.add a1 4) = some (.int .i64 n11) ∧ ∃ (n12 : Int), w11.cell? (Addr.add a1 5) = some (.int .i64 n12) ∧ ∃ (p2 : Option Addr) (n13 c2 : Nat), w11.cell? (Addr.add a1 6) = some (.slice p2 n13 c2) ∧ K (.tuple (Array.mk [.agg (Array.mk [.int .i64 n8, .int .i64 n9, .int .i64 n10, .bool b1, .int .i64 n11, .int .i64 n12, .slice p2 n13 c2]), .int .i64 0])) w11))
  (nn q fun a2 =>
  ∃ (r : Option Nat),
  World.cell? (World.drew w2) (Addr.add a2 6) = some (.map r) ∧
  ∃ (n : Int),
  World.cell? (World.drew w2) a = some (.int .i64 n) ∧
  ∃ (n1 n2 : Int),
  ∃ (n3 : Int) (b : Bool),
  ∃ (n4 n5 : Int),
  ∃ (p : Option Addr) (n6 : Nat),
  ∃ (c : Nat) (b1 : Bool),
  Sem.run Tryz.prog (Instr.lookup 63 (.map r) (.int .i64 n) true) (World.drew w2) = Result.ok (.tuple (Array.mk [.agg (Array.mk [.int .i64 n1, .int .i64 n2, .int .i64 n3, .bool b, .int .i64 n4, .int .i64 n5, .slice p n6 c]), .bool b1])) (World.drew w2) ∧
  newB (World.drew w2) [.int .i64 0, .int .i64 0, .int .i64 0, .bool false, .int .i64 0, .int .i64 0, .slice none 0 0] 34 fun a3 w3 =>
  (∃ (n7 n8 : Int), ∃ (n9 : Int) (b2 : Bool), ∃ (n10 n11 : Int), ∃ (p1 : Option Addr) (n12 : Nat), ∃ (c1 : Nat) (b3 : Bool), Sem.run Tryz.prog (Instr.lookup 63 (.map r) (.int .i64 n) true) w3 = Result.ok (.tuple (Array.mk [.agg (Array.mk [.int .i64 n7, .int .i64 n8, .int .i64 n9, .bool b2, .int .i64 n10, .int .i64 n11, .slice p1 n12 c1]), .bool b3])) w3 ∧ Value.tuple (Array.mk [.agg (Array.mk [.int .i64 n7, .int .i64 n8, .int .i64 n9, .bool b2, .int .i64 n10, .int .i64 n11, .slice p1 n12 c1]), .bool b3]) = .tuple (Array.mk [.agg (Array.mk [.int .i64 n1, .int .i64 n2, .int .i64 n3, .bool b, .int .i64 n4, .int .i64 n5, .slice p n6 c]), .bool b1])) ∧
  (∃ (n7 : Int), w3.cell? a = some (.int .i64 n7) ∧ Value.int .i64 n7 = .int .i64 n) ∧
  (∃ (r1 : Option Nat), w3.cell? (Addr.add a2 6) = some (.map r1) ∧ Value.map r1 = .map r) ∧
  st w3 (Addr.add a3 0) (.int .i64 n1) fun w4 =>
  st w4 (Addr.add a3 1) (.int .i64 n2) fun w5 =>
  st w5 (Addr.add a3 2) (.int .i64 n3) fun w6 =>
  st w6 (Addr.add a3 3) (.bool b) fun w7 =>
  st w7 (Addr.add a3 4) (.int .i64 n4) fun w8 =>
  st w8 (Addr.add a3 5) (.int .i64 n5) fun w9 =>
  st w9 (Addr.add a3 6) (.slice p n6 c) fun w10 =>
  ∃ (J : World → Prop),
  (∀ (w11 : World), J w11 → nn q fun a4 => ∃ (r1 : Option Nat), World.cell? (World.drew w11) (Addr.add a4 6) = some (.map r1) ∧ ∃ (n7 : Int), World.cell? (World.drew w11) a = some (.int .i64 n7) ∧ ∃ (w12 : World), Sem.run Tryz.prog (Builtin.delete_ (Array.mk [63, 3]) 0 (Array.mk [.map r1, .int .i64 n7])) (World.drew w11) = Result.ok (.tuple (Array.mk [])) w12 ∧ ∃ (n8 : Int), w12.cell? (Addr.add a3 0) = some (.int .i64 n8) ∧ ∃ (n9 : Int), w12.cell? (Addr.add a3 1) = some (.int .i64 n9) ∧ ∃ (n10 : Int), w12.cell? (Addr.add a3 2) = some (.int .i64 n10) ∧ ∃ (b2 : Bool), w12.cell? (Addr.add a3 3) = some (.bool b2) ∧ ∃ (n11 : Int), w12.cell? (Addr.add a3 4) = some (.int .i64 n11) ∧ ∃ (n12 : Int), w12.cell? (Addr.add a3 5) = some (.int .i64 n12) ∧ ∃ (p1 : Option Addr) (n13 c1 : Nat), w12.cell? (Addr.add a3 6) = some (.slice p1 n13 c1) ∧ st w12 (Addr.add a1 0) (.int .i64 n8) fun w13 => st w13 (Addr.add a1 1) (.int .i64 n9) fun w14 => st w14 (Addr.add a1 2) (.int .i64 n10) fun w15 => st w15 (Addr.add a1 3) (.bool b2) fun w16 => st w16 (Addr.add a1 4) (.int .i64 n11) fun w17 => st w17 (Addr.add a1 5) (.int .i64 n12) fun w18 => st w18 (Addr.add a1 6) (.slice p1 n13 c1) fun w19 => ∃ (n14 : Int), w19.cell? (Addr.add a1 0) = some (.int .i64 n14) ∧ ∃ (n15 : Int), w19.cell? (Addr.add a1 1) = some (.int .i64 n15) ∧ ∃ (n16 : Int), w19.cell? (Addr.add a1 2) = some (.int .i64 n16) ∧ ∃ (b3 : Bool), w19.cell? (Addr.add a1 3) = some (.bool b3) ∧ ∃ (n17 : Int), w19.cell? (Addr.add a1 4) = some (.int .i64 n17) ∧ ∃ (n18 : Int), w19.cell? (Addr.add a1 5) = some (.int .i64 n18) ∧ ∃ (p2 : Option Addr) (n19 c2 : Nat), w19.cell? (Addr.add a1 6) = some (.slice p2 n19 c2) ∧ K (.tuple (Array.mk [.agg (Array.mk [.int .i64 n14, .int .i64 n15, .int .i64 n16, .bool b3, .int .i64 n17, .int .i64 n18, .slice p2 n19 c2]), .int .i64 0])) w19) ∧
  Sif (!!b1) (∃ (n7 : Int), w10.cell? (Addr.add a3 5) = some (.int .i64 n7) ∧ Sif (n7 != holder) (st w10 (Addr.add a1 0) (.int .i64 0) fun w11 => st w11 (Addr.add a1 1) (.int .i64 0) fun w12 => st w12 (Addr.add a1 2) (.int .i64 0) fun w13 => st w13 (Addr.add a1 3) (.bool false) fun w14 => st w14 (Addr.add a1 4) (.int .i64 0) fun w15 => st w15 (Addr.add a1 5) (.int .i64 0) fun w16 => st w16 (Addr.add a1 6) (.slice none 0 0) fun w17 => ∃ (n8 : Int), w17.cell? (Addr.add a1 0) = some (.int .i64 n8) ∧ ∃ (n9 : Int), w17.cell? (Addr.add a1 1) = some (.int .i64 n9) ∧ ∃ (n10 : Int), w17.cell? (Addr.add a1 2) = some (.int .i64 n10) ∧ ∃ (b2 : Bool), w17.cell? (Addr.add a1 3) = some (.bool b2) ∧ ∃ (n11 : Int), w17.cell? (Addr.add a1 4) = some (.int .i64 n11) ∧ ∃ (n12 : Int), w17.cell? (Addr.add a1 5) = some (.int .i64 n12) ∧ ∃ (p1 : Option Addr) (n13 c1 : Nat), w17.cell? (Addr.add a1 6) = some (.slice p1 n13 c1) ∧ K (.tuple (Array.mk [.agg (Array.mk [.int .i64 n8, .int .i64 n9, .int .i64 n10, .bool b2, .int .i64 n11, .int .i64 n12, .slice p1 n13 c1]), .int .i64 171])) w17) (J w10))
  (st w10 (Addr.add a1 0) (.int .i64 0) fun w11 => st w11 (Addr.add a1 1) (.int .i64 0) fun w12 => st w12 (Addr.add a1 2) (.int .i64 0) fun w13 => st w13 (Addr.add a1 3) (.bool false) fun w14 => st w14 (Addr.add a1 4) (.int .i64 0) fun w15 => st w15 (Addr.add a1 5) (.int .i64 0) fun w16 => st w16 (Addr.add a1 6) (.slice none 0 0) fun w17 => ∃ (n7 : Int), w17.cell? (Addr.add a1 0) = some (.int .i64 n7) ∧ ∃ (n8 : Int), w17.cell? (Addr.add a1 1) = some (.int .i64 n8) ∧ ∃ (n9 : Int), w17.cell? (Addr.add a1 2) = some (.int .i64 n9) ∧ ∃ (b2 : Bool), w17.cell? (Addr.add a1 3) = some (.bool b2) ∧ ∃ (n10 : Int), w17.cell? (Addr.add a1 4) = some (.int .i64 n10) ∧ ∃ (n11 : Int), w17.cell? (Addr.add a1 5) = some (.int .i64 n11) ∧ ∃ (p1 : Option Addr) (n12 c1 : Nat), w17.cell? (Addr.add a1 6) = some (.slice p1 n12 c1) ∧ K (.tuple (Array.mk [.agg (Array.mk [.int .i64 n7, .int .i64 n8, .int .i64 n9, .bool b2, .int .i64 n10, .int .i64 n11, .slice p1 n12 c1]), .int .i64 171])) w17))
set_option maxRecDepth 100000 in
theorem eq_queue_Queue_Remove (q : Option Addr) (seq : Int) (holder : Int) (w : World) (K : Value → World → Prop) : wpF Tryz.prog none Tryz.f34 (.two .leaf (.two (.two .leaf (.two (.two .leaf (.two (.two .leaf (.two (.two .leaf .leaf) .leaf)) (.two .leaf .leaf))) .leaf)) (.two (Ann.draw [(0 : Nat), (1 : Nat), (2 : Nat), (3 : Nat), (4 : Nat), (5 : Nat), (6 : Nat), (7 : Nat), (8 : Nat), (9 : Nat), (10 : Nat), (11 : Nat)]) (.two (Ann.meet [] (.two .leaf (.two (.two .leaf .leaf) .leaf))) (.two (Ann.draw [(0 : Nat), (1 : Nat), (2 : Nat), (3 : Nat), (4 : Nat), (5 : Nat)]) (.two .leaf .leaf)))))) [Value.pointer q, Value.int IntKind.i64 seq, Value.int IntKind.i64 holder] w K = wp_queue_Queue_Remove q seq holder w K := by kernel_rfl
theorem ok_queue_Queue_Remove {q : Option Addr} {seq : Int} {holder : Int} {w : World} {K : Value → World → Prop} (hwp : wp_queue_Queue_Remove q seq holder w K) : callP Tryz.prog 34 [.pointer q, .int .i64 seq, .int .i64 holder] w K :=
  calls_of Tryz.func34 ((eq_queue_Queue_Remove q seq holder w K).symm ▸ hwp)

/-- (longshore.queue.Queue).Remove$1 -/
def wp_queue_Queue_Remove_1 (e_0 : Int) (e_1 : Int) (e_2 : Int) (e_3 : Bool) (e_4 : Int) (e_5 : Int) (e_6 : Option Addr) (e_6n : Nat) (e_6c : Nat) (cap0 : Option Addr) (w : World) (K : Value → World → Prop) : Prop :=
  newB w [.int .i64 e_0, .int .i64 e_1, .int .i64 e_2, .bool e_3, .int .i64 e_4, .int .i64 e_5, .slice e_6 e_6n e_6c] 34 fun a w1 => ∃ (n : Int), w1.cell? (Addr.add a 0) = some (.int .i64 n) ∧ nn cap0 fun a1 => ∃ (n1 : Int), w1.cell? a1 = some (.int .i64 n1) ∧ K (.bool (n == n1)) w1
set_option maxRecDepth 100000 in
theorem eq_queue_Queue_Remove_1 (e_0 : Int) (e_1 : Int) (e_2 : Int) (e_3 : Bool) (e_4 : Int) (e_5 : Int) (e_6 : Option Addr) (e_6n : Nat) (e_6c : Nat) (cap0 : Option Addr) (w : World) (K : Value → World → Prop) : wpF Tryz.prog none Tryz.f68 (.two .leaf (.two .leaf .leaf)) [Value.agg #[Value.int IntKind.i64 e_0, Value.int IntKind.i64 e_1, Value.int IntKind.i64 e_2, Value.bool e_3, Value.int IntKind.i64 e_4, Value.int IntKind.i64 e_5, Value.slice e_6 e_6n e_6c], Value.pointer cap0] w K = wp_queue_Queue_Remove_1 e_0 e_1 e_2 e_3 e_4 e_5 e_6 e_6n e_6c cap0 w K := by kernel_rfl
theorem ok_queue_Queue_Remove_1 {e_0 : Int} {e_1 : Int} {e_2 : Int} {e_3 : Bool} {e_4 : Int} {e_5 : Int} {e_6 : Option Addr} {e_6n : Nat} {e_6c : Nat} {cap0 : Option Addr} {w : World} {K : Value → World → Prop} (hwp : wp_queue_Queue_Remove_1 e_0 e_1 e_2 e_3 e_4 e_5 e_6 e_6n e_6c cap0 w K) : callP Tryz.prog 68 [.agg #[.int .i64 e_0, .int .i64 e_1, .int .i64 e_2, .bool e_3, .int .i64 e_4, .int .i64 e_5, .slice e_6 e_6n e_6c], .pointer cap0] w K :=
  calls_of Tryz.func68 ((eq_queue_Queue_Remove_1 e_0 e_1 e_2 e_3 e_4 e_5 e_6 e_6n e_6c cap0 w K).symm ▸ hwp)

/-- (longshore.queue.Queue).Release -/
def wp_queue_Queue_Release (q : Option Addr) (holder : Int) (w : World) (K : Value → World → Prop) : Prop :=
  nn q fun a =>
  ∃ (r : Option Nat),
  w.cell? (Addr.add a 6) = some (.map r) ∧
  ∃ (p : Option Addr) (w1 : World),
  Sem.run Tryz.prog (Instr.range 63 (.map r)) w = Result.ok (.pointer p) w1 ∧
  ∃ (I : Nat → Option Addr → Nat → Nat → World → Prop),
  (∃ (m : Nat), I m none 0 0 w1) ∧
  ∀ (m : Nat) (p1 : Option Addr) (n c : Nat) (w2 : World),
  I m p1 n c w2 →
  (∃ (w3 : World),
  Sem.run Tryz.prog (Instr.next (.pointer p) false 0) w2 = Result.ok (.tuple (Array.mk [.bool false])) w3 ∧
  callP Tryz.prog 70 [.slice p1 n c] w3 fun v w4 =>
  v = .tuple (Array.mk []) ∧
  ∃ (I1 : Nat → Int → World → Prop),
  (∃ (m1 : Nat), I1 m1 0 w4) ∧
  ∀ (m1 : Nat) (n1 : Int) (w5 : World),
  I1 m1 n1 w5 →
  Sif (decide (n1 < (↑n : Int)))
  (0 ≤ n1 ∧
  n1 < (↑n : Int) ∧
  nn p1 fun a1 =>
  ∃ (n2 : Int),
  w5.cell? (Addr.add a1 (Int.toNat n1 * 1)) = some (.int .i64 n2) ∧
  nn q fun a2 =>
  ∃ (r1 : Option Nat),
  w5.cell? (Addr.add a2 6) = some (.map r1) ∧
  ∃ (n3 n4 : Int), ∃ (n5 : Int) (b : Bool), ∃ (n6 n7 : Int), ∃ (p2 : Option Addr) (n8 c1 : Nat), Sem.run Tryz.prog (Instr.lookup 63 (.map r1) (.int .i64 n2) false) w5 = Result.ok (.agg (Array.mk [.int .i64 n3, .int .i64 n4, .int .i64 n5, .bool b, .int .i64 n6, .int .i64 n7, .slice p2 n8 c1])) w5 ∧ newB w5 [.int .i64 0, .int .i64 0, .int .i64 0, .bool false, .int .i64 0, .int .i64 0, .slice none 0 0] 34 fun a3 w6 => st w6 (Addr.add a3 0) (.int .i64 n3) fun w7 => st w7 (Addr.add a3 1) (.int .i64 n4) fun w8 => st w8 (Addr.add a3 2) (.int .i64 n5) fun w9 => st w9 (Addr.add a3 3) (.bool b) fun w10 => st w10 (Addr.add a3 4) (.int .i64 n6) fun w11 => st w11 (Addr.add a3 5) (.int .i64 n7) fun w12 => st w12 (Addr.add a3 6) (.slice p2 n8 c1) fun w13 => nn q fun a4 => ∃ (r2 : Option Nat), w13.cell? (Addr.add a4 6) = some (.map r2) ∧ ∃ (w14 : World), Sem.run Tryz.prog (Builtin.delete_ (Array.mk [63, 3]) 0 (Array.mk [.map r2, .int .i64 n2])) w13 = Result.ok (.tuple (Array.mk [])) w14 ∧ st w14 (Addr.add (Addr.add a3 5) 0) (.int .i64 0) fun w15 => nn q fun a5 => ∃ (n9 : Int), World.cell? (World.drew w15) (Addr.add a3 0) = some (.int .i64 n9) ∧ ∃ (n10 : Int), World.cell? (World.drew w15) (Addr.add a3 1) = some (.int .i64 n10) ∧ ∃ (n11 : Int), World.cell? (World.drew w15) (Addr.add a3 2) = some (.int .i64 n11) ∧ ∃ (b1 : Bool), World.cell? (World.drew w15) (Addr.add a3 3) = some (.bool b1) ∧ ∃ (n12 : Int), World.cell? (World.drew w15) (Addr.add a3 4) = some (.int .i64 n12) ∧ ∃ (n13 : Int), World.cell? (World.drew w15) (Addr.add a3 5) = some (.int .i64 n13) ∧ ∃ (p3 : Option Addr) (n14 c2 : Nat), World.cell? (World.drew w15) (Addr.add a3 6) = some (.slice p3 n14 c2) ∧ callP Tryz.prog 47 [.iface 88 (.pointer (some (Addr.add a5 5))), .iface 34 (.agg (Array.mk [.int .i64 n9, .int .i64 n10, .int .i64 n11, .bool b1, .int .i64 n12, .int .i64 n13, .slice p3 n14 c2]))] (World.drew w15) fun v1 w16 => v1 = .tuple (Array.mk []) ∧ ∃ (m' : Nat), m' < m1 ∧ I1 m' (IntKind.wrap .i64 (n1 + 1)) w16)
  (K (.slice p1 n c) w5)) ∨
  ∃ (v v1 : Value) (w3 : World), Sem.run Tryz.prog (Instr.next (.pointer p) false 0) w2 = Result.ok (.tuple (Array.mk [.bool true, v, v1])) w3 ∧ ∃ (v2 v3 : Value), Sem.run Tryz.prog (Instr.entry (.pointer p)) w3 = Result.ok (.tuple (Array.mk [v2, v3])) w3 ∧ asIntV IntKind.i64 v2 fun n1 => newB w3 [.int .i64 0, .int .i64 0, .int .i64 0, .bool false, .int .i64 0, .int .i64 0, .slice none 0 0] 34 fun a1 w4 => asAggV (nat_lit 7) v3 fun (vs : List Value) => stCells w4 a1 vs 0 fun w5 => ∃ (n2 : Int), w5.cell? (Addr.add a1 5) = some (.int .i64 n2) ∧ Sif (n2 == holder) (newB w5 [.int .i64 n1] 3 fun a2 w6 => ∃ (p2 : Option Addr) (n3 : Nat), ∃ (c1 : Nat) (w7 : World), Sem.run Tryz.prog (Builtin.append_ (Array.mk [44, 44]) 44 (Array.mk [.slice p1 n c, .slice (some a2) 1 1])) w6 = Result.ok (.slice p2 n3 c1) w7 ∧ ∃ (m' : Nat), m' < m ∧ I m' p2 n3 c1 w7) (∃ (m' : Nat), m' < m ∧ I m' p1 n c w5)
set_option maxRecDepth 100000 in
theorem eq_queue_Queue_Release (q : Option Addr) (holder : Int) (w : World) (K : Value → World → Prop) : wpF Tryz.prog none Tryz.f36 (.two .leaf (.two .leaf (.two (.two .leaf (.two (Ann.loop [((5 : Nat), VSh.cell Sh.slice)] (.two .leaf (.two (.two .leaf .leaf) (.two (.two .leaf (.two .leaf (.two .leaf .leaf))) .leaf)))) .leaf)) (.two .leaf (.two (.two .leaf (.two (Ann.loop [((33 : Nat), VSh.cell (Sh.int IntKind.i64))] (.two .leaf (.two (.two .leaf .leaf) (.two (.two (.two .leaf (.two .leaf (.two .leaf (.two .leaf (Ann.draw [(0 : Nat), (1 : Nat), (2 : Nat), (3 : Nat), (4 : Nat), (5 : Nat), (6 : Nat)]))))) .leaf) .leaf)))) .leaf)) (.two .leaf .leaf)))))) [Value.pointer q, Value.int IntKind.i64 holder] w K = wp_queue_Queue_Release q holder w K := by kernel_rfl
theorem ok_queue_Queue_Release {q : Option Addr} {holder : Int} {w : World} {K : Value → World → Prop} (hwp : wp_queue_Queue_Release q holder w K) : callP Tryz.prog 36 [.pointer q, .int .i64 holder] w K :=
  calls_of Tryz.func36 ((eq_queue_Queue_Release q holder w K).symm ▸ hwp)

/-- (longshore.queue.Queue).Expire -/
def wp_queue_Queue_Expire (q : Option Addr) (now : Int) (w : World) (K : Value → World → Prop) : Prop :=
  nn q fun a =>
  ∃ (p : Option Addr) (n c : Nat),
  w.cell? (Addr.add a 5) = some (.slice p n c) ∧
  ∃ (I : Nat → Option Addr → Nat → Nat → Option Addr → Nat → Nat → Int → World → Prop),
  (∃ (m : Nat), I m none 0 0 none 0 0 0 w) ∧
  ∀ (m : Nat) (p1 : Option Addr) (n1 c1 : Nat) (p2 : Option Addr) (n2 c2 : Nat) (n3 : Int) (w1 : World),
  I m p1 n1 c1 p2 n2 c2 n3 w1 →
  Sif (decide (n3 < (↑n : Int)))
  (∃ (J : Option Addr → Nat → Nat → Option Addr → Nat → Nat → World → Prop),
  (∀ (p3 : Option Addr) (n4 c3 : Nat) (p4 : Option Addr) (n5 c4 : Nat) (w2 : World), J p3 n4 c3 p4 n5 c4 w2 → ∃ (m' : Nat), m' < m ∧ I m' p3 n4 c3 p4 n5 c4 (IntKind.wrap .i64 (n3 + 1)) w2) ∧
  0 ≤ n3 ∧
  n3 < (↑n : Int) ∧
  nn p fun a1 =>
  ∃ (n4 : Int),
  w1.cell? (Addr.add (Addr.add a1 (Int.toNat n3 * 7)) 0) = some (.int .i64 n4) ∧
  ∃ (n5 : Int),
  w1.cell? (Addr.add (Addr.add a1 (Int.toNat n3 * 7)) 1) = some (.int .i64 n5) ∧
  ∃ (n6 : Int),
  w1.cell? (Addr.add (Addr.add a1 (Int.toNat n3 * 7)) 2) = some (.int .i64 n6) ∧
  ∃ (b : Bool),
  w1.cell? (Addr.add (Addr.add a1 (Int.toNat n3 * 7)) 3) = some (.bool b) ∧
  ∃ (n7 : Int),
  w1.cell? (Addr.add (Addr.add a1 (Int.toNat n3 * 7)) 4) = some (.int .i64 n7) ∧
  ∃ (n8 : Int),
  w1.cell? (Addr.add (Addr.add a1 (Int.toNat n3 * 7)) 5) = some (.int .i64 n8) ∧
  ∃ (p3 : Option Addr) (n9 c3 : Nat),
  w1.cell? (Addr.add (Addr.add a1 (Int.toNat n3 * 7)) 6) = some (.slice p3 n9 c3) ∧
  newB w1 [.int .i64 0, .int .i64 0, .int .i64 0, .bool false, .int .i64 0, .int .i64 0, .slice none 0 0] 34 fun a2 w2 =>
  st w2 (Addr.add a2 0) (.int .i64 n4) fun w3 =>
  st w3 (Addr.add a2 1) (.int .i64 n5) fun w4 =>
  st w4 (Addr.add a2 2) (.int .i64 n6) fun w5 =>
  st w5 (Addr.add a2 3) (.bool b) fun w6 =>
  st w6 (Addr.add a2 4) (.int .i64 n7) fun w7 =>
  st w7 (Addr.add a2 5) (.int .i64 n8) fun w8 =>
  st w8 (Addr.add a2 6) (.slice p3 n9 c3) fun w9 =>
  ∃ (n10 : Int),
  w9.cell? (Addr.add a2 2) = some (.int .i64 n10) ∧
  Sif (decide (n10 ≥ 0)) (∃ (n11 : Int), w9.cell? (Addr.add a2 2) = some (.int .i64 n11) ∧ Sif (decide (n11 ≤ now)) (∃ (n12 : Int), w9.cell? (Addr.add a2 0) = some (.int .i64 n12) ∧ ∃ (n13 : Int), w9.cell? (Addr.add a2 1) = some (.int .i64 n13) ∧ ∃ (n14 : Int), w9.cell? (Addr.add a2 2) = some (.int .i64 n14) ∧ ∃ (b1 : Bool), w9.cell? (Addr.add a2 3) = some (.bool b1) ∧ ∃ (n15 : Int), w9.cell? (Addr.add a2 4) = some (.int .i64 n15) ∧ ∃ (n16 : Int), w9.cell? (Addr.add a2 5) = some (.int .i64 n16) ∧ ∃ (p4 : Option Addr) (n17 c4 : Nat), w9.cell? (Addr.add a2 6) = some (.slice p4 n17 c4) ∧ newB w9 [.int .i64 n12, .int .i64 n13, .int .i64 n14, .bool b1, .int .i64 n15, .int .i64 n16, .slice p4 n17 c4] 34 fun a3 w10 => ∃ (p5 : Option Addr) (n18 : Nat), ∃ (c5 : Nat) (w11 : World), Sem.run Tryz.prog (Builtin.append_ (Array.mk [24, 24]) 24 (Array.mk [.slice p1 n1 c1, .slice (some a3) 1 1])) w10 = Result.ok (.slice p5 n18 c5) w11 ∧ J p5 n18 c5 p2 n2 c2 w11) (∃ (n12 : Int), w9.cell? (Addr.add a2 0) = some (.int .i64 n12) ∧ ∃ (n13 : Int), w9.cell? (Addr.add a2 1) = some (.int .i64 n13) ∧ ∃ (n14 : Int), w9.cell? (Addr.add a2 2) = some (.int .i64 n14) ∧ ∃ (b1 : Bool), w9.cell? (Addr.add a2 3) = some (.bool b1) ∧ ∃ (n15 : Int), w9.cell? (Addr.add a2 4) = some (.int .i64 n15) ∧ ∃ (n16 : Int), w9.cell? (Addr.add a2 5) = some (.int .i64 n16) ∧ ∃ (p4 : Option Addr) (n17 c4 : Nat), w9.cell? (Addr.add a2 6) = some (.slice p4 n17 c4) ∧ newB w9 [.int .i64 n12, .int .i64 n13, .int .i64 n14, .bool b1, .int .i64 n15, .int .i64 n16, .slice p4 n17 c4] 34 fun a3 w10 => ∃ (p5 : Option Addr) (n18 : Nat), ∃ (c5 : Nat) (w11 : World), Sem.run Tryz.prog (Builtin.append_ (Array.mk [24, 24]) 24 (Array.mk [.slice p2 n2 c2, .slice (some a3) 1 1])) w10 = Result.ok (.slice p5 n18 c5) w11 ∧ J p1 n1 c1 p5 n18 c5 w11))
  (∃ (n11 : Int), w9.cell? (Addr.add a2 0) = some (.int .i64 n11) ∧ ∃ (n12 : Int), w9.cell? (Addr.add a2 1) = some (.int .i64 n12) ∧ ∃ (n13 : Int), w9.cell? (Addr.add a2 2) = some (.int .i64 n13) ∧ ∃ (b1 : Bool), w9.cell? (Addr.add a2 3) = some (.bool b1) ∧ ∃ (n14 : Int), w9.cell? (Addr.add a2 4) = some (.int .i64 n14) ∧ ∃ (n15 : Int), w9.cell? (Addr.add a2 5) = some (.int .i64 n15) ∧ ∃ (p4 : Option Addr) (n16 c4 : Nat), w9.cell? (Addr.add a2 6) = some (.slice p4 n16 c4) ∧ newB w9 [.int .i64 n11, .int .i64 n12, .int .i64 n13, .bool b1, .int .i64 n14, .int .i64 n15, .slice p4 n16 c4] 34 fun a3 w10 => ∃ (p5 : Option Addr) (n17 : Nat), ∃ (c5 : Nat) (w11 : World), Sem.run Tryz.prog (Builtin.append_ (Array.mk [24, 24]) 24 (Array.mk [.slice p2 n2 c2, .slice (some a3) 1 1])) w10 = Result.ok (.slice p5 n17 c5) w11 ∧ J p1 n1 c1 p5 n17 c5 w11))
  (nn q fun a1 => st w1 (Addr.add (Addr.add a1 5) 0) (.slice p2 n2 c2) fun w2 => nn q fun a2 => callP Tryz.prog 71 [.iface 88 (.pointer (some (Addr.add a2 5)))] w2 fun v w3 => v = .tuple (Array.mk []) ∧ callP Tryz.prog 28 [.slice p1 n1 c1, .func (Fn.func 29) (Array.mk []) (Array.mk [])] w3 fun v1 w4 => v1 = .tuple (Array.mk []) ∧ K (.slice p1 n1 c1) w4)
set_option maxRecDepth 100000 in
theorem eq_queue_Queue_Expire (q : Option Addr) (now : Int) (w : World) (K : Value → World → Prop) : wpF Tryz.prog none Tryz.f40 (.two .leaf (.two .leaf (.two (.two .leaf (.two (Ann.loop [((5 : Nat), VSh.cell Sh.slice), ((6 : Nat), VSh.cell Sh.slice), ((14 : Nat), VSh.cell (Sh.int IntKind.i64))] (.two .leaf (.two (.two .leaf .leaf) (.two (Ann.meet [((5 : Nat), VSh.cell Sh.slice), ((6 : Nat), VSh.cell Sh.slice)] (.two (.two .leaf (.two .leaf (.two .leaf .leaf))) .leaf)) .leaf)))) .leaf)) (.two .leaf (.two .leaf (.two .leaf (.two .leaf .leaf))))))) [Value.pointer q, Value.int IntKind.i64 now] w K = wp_queue_Queue_Expire q now w K := by kernel_rfl
theorem ok_queue_Queue_Expire {q : Option Addr} {now : Int} {w : World} {K : Value → World → Prop} (hwp : wp_queue_Queue_Expire q now w K) : callP Tryz.prog 40 [.pointer q, .int .i64 now] w K :=
  calls_of Tryz.func40 ((eq_queue_Queue_Expire q now w K).symm ▸ hwp)

/-- (longshore.queue.Queue).All -/
def wp_queue_Queue_All (q : Option Addr) (w : World) (K : Value → World → Prop) : Prop :=
  newB w [.pointer q] 27 fun a w1 => K (.func (Fn.func 26) (Array.mk []) (Array.mk [.pointer (some a)])) w1
set_option maxRecDepth 100000 in
theorem eq_queue_Queue_All (q : Option Addr) (w : World) (K : Value → World → Prop) : wpF Tryz.prog none Tryz.f9 (.two .leaf (.two .leaf .leaf)) [Value.pointer q] w K = wp_queue_Queue_All q w K := by kernel_rfl
theorem ok_queue_Queue_All {q : Option Addr} {w : World} {K : Value → World → Prop} (hwp : wp_queue_Queue_All q w K) : callP Tryz.prog 9 [.pointer q] w K :=
  calls_of Tryz.func9 ((eq_queue_Queue_All q w K).symm ▸ hwp)

/-- (longshore.queue.Queue).All$1 -/
def wp_queue_Queue_All_1 (yield : Value) (cap0 : Option Addr) (w : World) (K : Value → World → Prop) : Prop :=
  nn cap0 fun a =>
  ∃ (p : Option Addr),
  World.cell? (World.drew w) a = some (.pointer p) ∧
  nn p fun a1 =>
  ∃ (p1 : Option Addr) (n c : Nat),
  World.cell? (World.drew w) (Addr.add a1 5) = some (.slice p1 n c) ∧
  nn cap0 fun a2 =>
  ∃ (p2 : Option Addr),
  World.cell? (World.drew w) a2 = some (.pointer p2) ∧
  nn p2 fun a3 =>
  ∃ (r : Option Nat),
  World.cell? (World.drew w) (Addr.add a3 6) = some (.map r) ∧
  ∃ (n1 : Int),
  Sem.run Tryz.prog (Builtin.len_ (Array.mk [63]) 3 (Array.mk [.map r])) (World.drew w) = Result.ok (.int .i64 n1) (World.drew w) ∧
  ∃ (p3 : Option Addr) (n2 : Nat),
  ∃ (c1 : Nat) (w1 : World),
  Sem.run Tryz.prog (Instr.makeSlice 24 (.int .i64 0) (.int .i64 (IntKind.wrap .i64 ((↑n : Int) + n1)))) (World.drew w) = Result.ok (.slice p3 n2 c1) w1 ∧
  nn cap0 fun a4 =>
  ∃ (p4 : Option Addr),
  w1.cell? a4 = some (.pointer p4) ∧
  nn p4 fun a5 =>
  ∃ (p5 : Option Addr) (n3 c2 : Nat),
  w1.cell? (Addr.add a5 5) = some (.slice p5 n3 c2) ∧
  ∃ (I : Nat → Option Addr → Nat → Nat → Int → World → Prop),
  (∃ (m : Nat), I m p3 n2 c1 0 w1) ∧
  ∀ (m : Nat) (p6 : Option Addr) (n4 c3 : Nat) (n5 : Int) (w2 : World),
  I m p6 n4 c3 n5 w2 →
  Sif (decide (n5 < (↑n3 : Int)))
  (0 ≤ n5 ∧
  n5 < (↑n3 : Int) ∧
  nn p5 fun a6 =>
  ∃ (n6 : Int),
  w2.cell? (Addr.add (Addr.add a6 (Int.toNat n5 * 7)) 0) = some (.int .i64 n6) ∧
  ∃ (n7 : Int),
  w2.cell? (Addr.add (Addr.add a6 (Int.toNat n5 * 7)) 1) = some (.int .i64 n7) ∧
  ∃ (n8 : Int),
  w2.cell? (Addr.add (Addr.add a6 (Int.toNat n5 * 7)) 2) = some (.int .i64 n8) ∧
  ∃ (b : Bool),
  w2.cell? (Addr.add (Addr.add a6 (Int.toNat n5 * 7)) 3) = some (.bool b) ∧
  ∃ (n9 : Int),
  w2.cell? (Addr.add (Addr.add a6 (Int.toNat n5 * 7)) 4) = some (.int .i64 n9) ∧
  ∃ (n10 : Int),
  w2.cell? (Addr.add (Addr.add a6 (Int.toNat n5 * 7)) 5) = some (.int .i64 n10) ∧
  ∃ (p7 : Option Addr) (n11 c4 : Nat), w2.cell? (Addr.add (Addr.add a6 (Int.toNat n5 * 7)) 6) = some (.slice p7 n11 c4) ∧ newB w2 [.int .i64 0, .int .i64 0, .int .i64 0, .bool false, .int .i64 0, .int .i64 0, .slice none 0 0] 34 fun a7 w3 => st w3 (Addr.add a7 0) (.int .i64 n6) fun w4 => st w4 (Addr.add a7 1) (.int .i64 n7) fun w5 => st w5 (Addr.add a7 2) (.int .i64 n8) fun w6 => st w6 (Addr.add a7 3) (.bool b) fun w7 => st w7 (Addr.add a7 4) (.int .i64 n9) fun w8 => st w8 (Addr.add a7 5) (.int .i64 n10) fun w9 => st w9 (Addr.add a7 6) (.slice p7 n11 c4) fun w10 => ∃ (n12 : Int), w10.cell? (Addr.add a7 0) = some (.int .i64 n12) ∧ ∃ (n13 : Int), w10.cell? (Addr.add a7 1) = some (.int .i64 n13) ∧ ∃ (n14 : Int), w10.cell? (Addr.add a7 2) = some (.int .i64 n14) ∧ ∃ (b1 : Bool), w10.cell? (Addr.add a7 3) = some (.bool b1) ∧ ∃ (n15 : Int), w10.cell? (Addr.add a7 4) = some (.int .i64 n15) ∧ ∃ (n16 : Int), w10.cell? (Addr.add a7 5) = some (.int .i64 n16) ∧ ∃ (p8 : Option Addr) (n17 c5 : Nat), w10.cell? (Addr.add a7 6) = some (.slice p8 n17 c5) ∧ callP Tryz.prog 27 [.agg (Array.mk [.int .i64 n12, .int .i64 n13, .int .i64 n14, .bool b1, .int .i64 n15, .int .i64 n16, .slice p8 n17 c5])] w10 fun v w11 => ∃ (n18 n19 : Int), ∃ (n20 : Int) (b2 : Bool), ∃ (n21 n22 : Int), ∃ (p9 : Option Addr) (n23 c6 : Nat), v = .agg (Array.mk [.int .i64 n18, .int .i64 n19, .int .i64 n20, .bool b2, .int .i64 n21, .int .i64 n22, .slice p9 n23 c6]) ∧ newB w11 [.int .i64 n18, .int .i64 n19, .int .i64 n20, .bool b2, .int .i64 n21, .int .i64 n22, .slice p9 n23 c6] 34 fun a8 w12 => ∃ (p10 : Option Addr) (n24 : Nat), ∃ (c7 : Nat) (w13 : World), Sem.run Tryz.prog (Builtin.append_ (Array.mk [24, 24]) 24 (Array.mk [.slice p6 n4 c3, .slice (some a8) 1 1])) w12 = Result.ok (.slice p10 n24 c7) w13 ∧ ∃ (m' : Nat), m' < m ∧ I m' p10 n24 c7 (IntKind.wrap .i64 (n5 + 1)) w13)
  (nn cap0 fun a6 =>
  ∃ (p7 : Option Addr),
  w2.cell? a6 = some (.pointer p7) ∧
  nn p7 fun a7 =>
  ∃ (r1 : Option Nat),
  w2.cell? (Addr.add a7 6) = some (.map r1) ∧
  ∃ (p8 : Option Addr) (w3 : World),
  Sem.run Tryz.prog (Instr.range 63 (.map r1)) w2 = Result.ok (.pointer p8) w3 ∧
  ∃ (I1 : Nat → Option Addr → Nat → Nat → World → Prop),
  (∃ (m1 : Nat), I1 m1 p6 n4 c3 w3) ∧
  ∀ (m1 : Nat) (p9 : Option Addr) (n6 c4 : Nat) (w4 : World),
  I1 m1 p9 n6 c4 w4 →
  (∃ (w5 : World),
  Sem.run Tryz.prog (Instr.next (.pointer p8) false 0) w4 = Result.ok (.tuple (Array.mk [.bool false])) w5 ∧
  callP Tryz.prog 28 [.slice p9 n6 c4, .func (Fn.func 29) (Array.mk []) (Array.mk [])] w5 fun v w6 =>
  v = .tuple (Array.mk []) ∧
  ∃ (I2 : Nat → Int → World → Prop),
  (∃ (m2 : Nat), I2 m2 0 w6) ∧
  ∀ (m2 : Nat) (n7 : Int) (w7 : World),
  I2 m2 n7 w7 →
  Sif (decide (n7 < (↑n6 : Int)))
  (0 ≤ n7 ∧ n7 < (↑n6 : Int) ∧ nn p9 fun a8 => ∃ (n8 : Int), w7.cell? (Addr.add (Addr.add a8 (Int.toNat n7 * 7)) 0) = some (.int .i64 n8) ∧ ∃ (n9 : Int), w7.cell? (Addr.add (Addr.add a8 (Int.toNat n7 * 7)) 1) = some (.int .i64 n9) ∧ ∃ (n10 : Int), w7.cell? (Addr.add (Addr.add a8 (Int.toNat n7 * 7)) 2) = some (.int .i64 n10) ∧ ∃ (b : Bool), w7.cell? (Addr.add (Addr.add a8 (Int.toNat n7 * 7)) 3) = some (.bool b) ∧ ∃ (n11 : Int), w7.cell? (Addr.add (Addr.add a8 (Int.toNat n7 * 7)) 4) = some (.int .i64 n11) ∧ ∃ (n12 : Int), w7.cell? (Addr.add (Addr.add a8 (Int.toNat n7 * 7)) 5) = some (.int .i64 n12) ∧ ∃ (p10 : Option Addr) (n13 c5 : Nat), w7.cell? (Addr.add (Addr.add a8 (Int.toNat n7 * 7)) 6) = some (.slice p10 n13 c5) ∧ newB w7 [.int .i64 0, .int .i64 0, .int .i64 0, .bool false, .int .i64 0, .int .i64 0, .slice none 0 0] 34 fun a9 w8 => st w8 (Addr.add a9 0) (.int .i64 n8) fun w9 => st w9 (Addr.add a9 1) (.int .i64 n9) fun w10 => st w10 (Addr.add a9 2) (.int .i64 n10) fun w11 => st w11 (Addr.add a9 3) (.bool b) fun w12 => st w12 (Addr.add a9 4) (.int .i64 n11) fun w13 => st w13 (Addr.add a9 5) (.int .i64 n12) fun w14 => st w14 (Addr.add a9 6) (.slice p10 n13 c5) fun w15 => ∃ (n14 : Int), w15.cell? (Addr.add a9 0) = some (.int .i64 n14) ∧ ∃ (n15 : Int), w15.cell? (Addr.add a9 1) = some (.int .i64 n15) ∧ ∃ (n16 : Int), w15.cell? (Addr.add a9 2) = some (.int .i64 n16) ∧ ∃ (b1 : Bool), w15.cell? (Addr.add a9 3) = some (.bool b1) ∧ ∃ (n17 : Int), w15.cell? (Addr.add a9 4) = some (.int .i64 n17) ∧ ∃ (n18 : Int), w15.cell? (Addr.add a9 5) = some (.int .i64 n18) ∧ ∃ (p11 : Option Addr) (n19 c6 : Nat), w15.cell? (Addr.add a9 6) = some (.slice p11 n19 c6) ∧ callV Tryz.prog none yield [.agg (Array.mk [.int .i64 n14, .int .i64 n15, .int .i64 n16, .bool b1, .int .i64 n17, .int .i64 n18, .slice p11 n19 c6])] w15 fun v1 w16 => ∃ (b2 : Bool), v1 = .bool b2 ∧ Sif (!b2) (K (.tuple (Array.mk [])) w16) (∃ (m' : Nat), m' < m2 ∧ I2 m' (IntKind.wrap .i64 (n7 + 1)) w16))
  (K (.tuple (Array.mk [])) w7)) ∨
  ∃ (v v1 : Value) (w5 : World), Sem.run Tryz.prog (Instr.next (.pointer p8) false 0) w4 = Result.ok (.tuple (Array.mk [.bool true, v, v1])) w5 ∧ ∃ (v2 v3 : Value), Sem.run Tryz.prog (Instr.entry (.pointer p8)) w5 = Result.ok (.tuple (Array.mk [v2, v3])) w5 ∧ newB w5 [.int .i64 0, .int .i64 0, .int .i64 0, .bool false, .int .i64 0, .int .i64 0, .slice none 0 0] 34 fun a8 w6 => asAggV (nat_lit 7) v3 fun (vs : List Value) => stCells w6 a8 vs 0 fun w7 => ∃ (n7 : Int), w7.cell? (Addr.add a8 0) = some (.int .i64 n7) ∧ ∃ (n8 : Int), w7.cell? (Addr.add a8 1) = some (.int .i64 n8) ∧ ∃ (n9 : Int), w7.cell? (Addr.add a8 2) = some (.int .i64 n9) ∧ ∃ (b : Bool), w7.cell? (Addr.add a8 3) = some (.bool b) ∧ ∃ (n10 : Int), w7.cell? (Addr.add a8 4) = some (.int .i64 n10) ∧ ∃ (n11 : Int), w7.cell? (Addr.add a8 5) = some (.int .i64 n11) ∧ ∃ (p10 : Option Addr) (n12 c5 : Nat), w7.cell? (Addr.add a8 6) = some (.slice p10 n12 c5) ∧ callP Tryz.prog 27 [.agg (Array.mk [.int .i64 n7, .int .i64 n8, .int .i64 n9, .bool b, .int .i64 n10, .int .i64 n11, .slice p10 n12 c5])] w7 fun v4 w8 => ∃ (n13 n14 : Int), ∃ (n15 : Int) (b1 : Bool), ∃ (n16 n17 : Int), ∃ (p11 : Option Addr) (n18 c6 : Nat), v4 = .agg (Array.mk [.int .i64 n13, .int .i64 n14, .int .i64 n15, .bool b1, .int .i64 n16, .int .i64 n17, .slice p11 n18 c6]) ∧ newB w8 [.int .i64 n13, .int .i64 n14, .int .i64 n15, .bool b1, .int .i64 n16, .int .i64 n17, .slice p11 n18 c6] 34 fun a9 w9 => ∃ (p12 : Option Addr) (n19 : Nat), ∃ (c7 : Nat) (w10 : World), Sem.run Tryz.prog (Builtin.append_ (Array.mk [24, 24]) 24 (Array.mk [.slice p9 n6 c4, .slice (some a9) 1 1])) w9 = Result.ok (.slice p12 n19 c7) w10 ∧ ∃ (m' : Nat), m' < m1 ∧ I1 m' p12 n19 c7 w10)
set_option maxRecDepth 100000 in
theorem eq_queue_Queue_All_1 (yield : Value) (cap0 : Option Addr) (w : World) (K : Value → World → Prop) : wpF Tryz.prog none Tryz.f26 (.two (Ann.draw [(0 : Nat), (1 : Nat), (2 : Nat), (3 : Nat), (4 : Nat), (5 : Nat), (6 : Nat), (7 : Nat), (8 : Nat), (9 : Nat), (10 : Nat), (11 : Nat), (12 : Nat)]) (.two (.two .leaf (.two (Ann.loop [((3 : Nat), VSh.cell Sh.slice), ((27 : Nat), VSh.cell (Sh.int IntKind.i64))] (.two .leaf (.two (.two .leaf .leaf) (.two (.two (.two .leaf .leaf) .leaf) .leaf)))) .leaf)) (.two (.two .leaf (.two (Ann.loop [((3 : Nat), VSh.cell Sh.slice)] (.two .leaf (.two (.two .leaf .leaf) (.two (.two .leaf .leaf) .leaf)))) .leaf)) (.two .leaf (.two .leaf (.two (Ann.loop [((55 : Nat), VSh.cell (Sh.int IntKind.i64))] (.two .leaf (.two (.two .leaf .leaf) (.two (.two (.two .leaf (.two .leaf (.two .leaf .leaf))) .leaf) .leaf)))) .leaf)))))) [yield, Value.pointer cap0] w K = wp_queue_Queue_All_1 yield cap0 w K := by kernel_rfl
theorem ok_queue_Queue_All_1 {yield : Value} {cap0 : Option Addr} {w : World} {K : Value → World → Prop} (hwp : wp_queue_Queue_All_1 yield cap0 w K) : callP Tryz.prog 26 [yield, .pointer cap0] w K :=
  calls_of Tryz.func26 ((eq_queue_Queue_All_1 yield cap0 w K).symm ▸ hwp)

/-- slices.IndexFunc[longshore.queue.free,longshore.api.Entry] -/
def wp_slices_IndexFunc (s : Option Addr) (sn : Nat) (sc : Nat) (f : Value) (w : World) (K : Value → World → Prop) : Prop :=
  ∃ (I : Nat → Int → World → Prop), (∃ (m : Nat), I m 0 w) ∧ ∀ (m : Nat) (n : Int) (w1 : World), I m n w1 → Sif (decide (n < (↑sn : Int))) (0 ≤ n ∧ n < (↑sn : Int) ∧ nn s fun a => ∃ (n1 : Int), w1.cell? (Addr.add (Addr.add a (Int.toNat n * 7)) 0) = some (.int .i64 n1) ∧ ∃ (n2 : Int), w1.cell? (Addr.add (Addr.add a (Int.toNat n * 7)) 1) = some (.int .i64 n2) ∧ ∃ (n3 : Int), w1.cell? (Addr.add (Addr.add a (Int.toNat n * 7)) 2) = some (.int .i64 n3) ∧ ∃ (b : Bool), w1.cell? (Addr.add (Addr.add a (Int.toNat n * 7)) 3) = some (.bool b) ∧ ∃ (n4 : Int), w1.cell? (Addr.add (Addr.add a (Int.toNat n * 7)) 4) = some (.int .i64 n4) ∧ ∃ (n5 : Int), w1.cell? (Addr.add (Addr.add a (Int.toNat n * 7)) 5) = some (.int .i64 n5) ∧ ∃ (p : Option Addr) (n6 c : Nat), w1.cell? (Addr.add (Addr.add a (Int.toNat n * 7)) 6) = some (.slice p n6 c) ∧ callV Tryz.prog none f [.agg (Array.mk [.int .i64 n1, .int .i64 n2, .int .i64 n3, .bool b, .int .i64 n4, .int .i64 n5, .slice p n6 c])] w1 fun v w2 => ∃ (b1 : Bool), v = .bool b1 ∧ Sif b1 (K (.int .i64 n) w2) (∃ (m' : Nat), m' < m ∧ I m' (IntKind.wrap .i64 (n + 1)) w2)) (K (.int .i64 (-1)) w1)
set_option maxRecDepth 100000 in
theorem eq_slices_IndexFunc (s : Option Addr) (sn : Nat) (sc : Nat) (f : Value) (w : World) (K : Value → World → Prop) : wpF Tryz.prog none Tryz.f67 (.two .leaf (.two (.two .leaf (.two (Ann.loop [((8 : Nat), VSh.cell (Sh.int IntKind.i64))] (.two .leaf (.two (.two .leaf .leaf) (.two (.two (.two .leaf (.two .leaf (.two (.two .leaf .leaf) .leaf))) .leaf) .leaf)))) .leaf)) (.two .leaf .leaf))) [Value.slice s sn sc, f] w K = wp_slices_IndexFunc s sn sc f w K := by kernel_rfl
theorem ok_slices_IndexFunc {s : Option Addr} {sn : Nat} {sc : Nat} {f : Value} {w : World} {K : Value → World → Prop} (hwp : wp_slices_IndexFunc s sn sc f w K) : callP Tryz.prog 67 [.slice s sn sc, f] w K :=
  calls_of Tryz.func67 ((eq_slices_IndexFunc s sn sc f w K).symm ▸ hwp)

/-- bytes.Clone -/
def wp_bytes_Clone (b : Option Addr) (bn : Nat) (bc : Nat) (w : World) (K : Value → World → Prop) : Prop :=
  Sif (Option.isNone b) (K (.slice none 0 0) w) (newB w [] 5 fun a w1 => ∃ (p : Option Addr) (n : Nat), ∃ (c : Nat) (w2 : World), Sem.run Tryz.prog (Builtin.append_ (Array.mk [32, 32]) 32 (Array.mk [.slice (some a) 0 0, .slice b bn bc])) w1 = Result.ok (.slice p n c) w2 ∧ K (.slice p n c) w2)
set_option maxRecDepth 100000 in
theorem eq_bytes_Clone (b : Option Addr) (bn : Nat) (bc : Nat) (w : World) (K : Value → World → Prop) : wpF Tryz.prog none Tryz.f53 (.two .leaf (.two (.two .leaf (.two (.two .leaf .leaf) .leaf)) (.two .leaf .leaf))) [Value.slice b bn bc] w K = wp_bytes_Clone b bn bc w K := by kernel_rfl
theorem ok_bytes_Clone {b : Option Addr} {bn : Nat} {bc : Nat} {w : World} {K : Value → World → Prop} (hwp : wp_bytes_Clone b bn bc w K) : callP Tryz.prog 53 [.slice b bn bc] w K :=
  calls_of Tryz.func53 ((eq_bytes_Clone b bn bc w K).symm ▸ hwp)

/-- slices.Clone[longshore.queue.free,longshore.api.Entry] -/
def wp_slices_Clone (s : Option Addr) (sn : Nat) (sc : Nat) (w : World) (K : Value → World → Prop) : Prop :=
  Sif (Option.isNone s) (K (.slice none 0 0) w) (newB w [] 34 fun a w1 => ∃ (p : Option Addr) (n : Nat), ∃ (c : Nat) (w2 : World), Sem.run Tryz.prog (Builtin.append_ (Array.mk [64, 64]) 64 (Array.mk [.slice (some a) 0 0, .slice s sn sc])) w1 = Result.ok (.slice p n c) w2 ∧ K (.slice p n c) w2)
set_option maxRecDepth 100000 in
theorem eq_slices_Clone (s : Option Addr) (sn : Nat) (sc : Nat) (w : World) (K : Value → World → Prop) : wpF Tryz.prog none Tryz.f94 (.two .leaf (.two (.two .leaf (.two (.two .leaf .leaf) .leaf)) (.two .leaf .leaf))) [Value.slice s sn sc] w K = wp_slices_Clone s sn sc w K := by kernel_rfl
theorem ok_slices_Clone {s : Option Addr} {sn : Nat} {sc : Nat} {w : World} {K : Value → World → Prop} (hwp : wp_slices_Clone s sn sc w K) : callP Tryz.prog 94 [.slice s sn sc] w K :=
  calls_of Tryz.func94 ((eq_slices_Clone s sn sc w K).symm ▸ hwp)

end Go.Proofs.YtipbbjnmpnfhpaaGreatDoor
