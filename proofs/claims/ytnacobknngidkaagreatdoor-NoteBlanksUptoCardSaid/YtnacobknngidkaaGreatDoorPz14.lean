/-
  What a call of each function comes to (definitions 'wp_..', reckoned by a program out of the model's code), and that it is sound ('ok_..'). Written by program (sv.py).
-/
import Derived.Test.YtnacobknngidkaaGreatDoorPz13
import Derived.Test.YtnacobknngidkaaGreatDoorProg
import Derived.KernelRfl
set_option linter.unusedVariables false
set_option linter.unusedSimpArgs false
namespace Go.Proofs.YtnacobknngidkaaGreatDoor
open Go Go.Sv
set_option linter.unusedVariables false
set_option maxRecDepth 100000
def wp_value_Check (v_0 v_1 : Int) (v_2 : ByteArray) (v_3 : Option Addr) (v_3n v_3c : Nat) (v_4 : Int) (w : World) (K : Value → World → Prop) : Prop :=
  newB w [.int .i64 v_0, .int .u64 v_1, .string v_2, .slice v_3 v_3n v_3c, .int .i64 v_4] 26 fun a w1 =>
  newB w1 [.int .i64 0] 29 fun a1 w2 =>
  ∃ n,
  w2.cell? (a.add 0) = some (.int .i64 n) ∧
  ∃ n1,
  w2.cell? (a.add 1) = some (.int .u64 n1) ∧
  ∃ s,
  w2.cell? (a.add 2) = some (.string s) ∧
  ∃ p n2 c,
  w2.cell? (a.add 3) = some (.slice p n2 c) ∧
  ∃ n3,
  w2.cell? (a.add 4) = some (.int .i64 n3) ∧
  callP Tryz.prog 60 [.agg #[.int .i64 n, .int .u64 n1, .string s, .slice p n2 c, .int .i64 n3]] w2 fun v w3 =>
  ∃ v1,
  v = v1 ∧
  ∀ (l : Nat),
  l = Array.size (Array.mk (List.concat w3.heap.toList (Obj.deferred (some [])))) →
  ∀ (rc : LoopR),
  Sv.isRec rc →
  (∀ (n4 n5 n6 : Int) (s1 : ByteArray) (p1 : Option Addr) (n7 c1 : Nat) (n8 : Int) (w4 : World) (K' : Value → World → Prop), recAt w4 l rc LoopState.ready none → (newB w4 [.int .i64 0, .int .u64 0, .string (ByteArray.mk #[]), .slice none 0 0, .int .i64 0] 26 fun a2 w5 => st w5 (a2.add 0) (.int .i64 n5) fun w6 => st w6 (a2.add 1) (.int .u64 n6) fun w7 => st w7 (a2.add 2) (.string s1) fun w8 => st w8 (a2.add 3) (.slice p1 n7 c1) fun w9 => st w9 (a2.add 4) (.int .i64 n8) fun w10 => recAt w10 l rc LoopState.ready none ∧ ∃ n9, World.cell? (World.putObj w10 l (rc LoopState.busy none)) (a2.add 0) = some (.int .i64 n9) ∧ ∃ n10, World.cell? (World.putObj w10 l (rc LoopState.busy none)) (a2.add 1) = some (.int .u64 n10) ∧ ∃ s2, World.cell? (World.putObj w10 l (rc LoopState.busy none)) (a2.add 2) = some (.string s2) ∧ ∃ p2 n11 c2, World.cell? (World.putObj w10 l (rc LoopState.busy none)) (a2.add 3) = some (.slice p2 n11 c2) ∧ ∃ n12, World.cell? (World.putObj w10 l (rc LoopState.busy none)) (a2.add 4) = some (.int .i64 n12) ∧ callP Tryz.prog 61 [.agg #[.int .i64 n9, .int .u64 n10, .string s2, .slice p2 n11 c2, .int .i64 n12], .int .i64 n4] (World.putObj w10 l (rc LoopState.busy none)) fun v2 w11 => ∃ n13, v2 = .int .i64 n13 ∧ Sif (n13 != 0) (st w11 (a1.add 0) (.int .i64 n13) fun w12 => recAt w12 l rc LoopState.busy none ∧ K' (.bool false) (World.putObj w12 l (rc LoopState.done (some Code.ret)))) (recAt w11 l rc LoopState.busy none ∧ K' (.bool true) (World.putObj w11 l (rc LoopState.ready none)))) → yieldP Tryz.prog l [.int .i64 n4, .agg #[.int .i64 n5, .int .u64 n6, .string s1, .slice p1 n7 c1, .int .i64 n8]] w4 fun a2 w5 => K' a2 w5) →
  callF Tryz.prog v1 [.func (Fn.yield l) #[] #[]] (World.alloc (World.alloc w3 (Obj.deferred (some []))) (rc LoopState.ready none)) fun w4 => (recAt w4 l rc LoopState.ready none ∧ st (World.putObj w4 l (rc LoopState.exhausted none)) (a1.add 0) (.int .i64 0) fun w5 => takeM w5 (Array.size w3.heap) fun w6 => ∃ n4, w6.cell? a1 = some (.int .i64 n4) ∧ K (.int .i64 n4) w6) ∨ (recAt w4 l rc LoopState.done (some Code.ret) ∧ takeM (World.putObj w4 l (rc LoopState.exhausted (some Code.ret))) (Array.size w3.heap) fun w5 => ∃ n4, w5.cell? a1 = some (.int .i64 n4) ∧ K (.int .i64 n4) w5) ∨ False
theorem eq_value_Check (v_0 v_1 : Int) (v_2 : ByteArray) (v_3 : Option Addr) (v_3n v_3c : Nat) (v_4 : Int) (w : World) (K : Value → World → Prop) : wpF Tryz.prog none Tryz.f33 (.two .leaf (.two (.two .leaf (.two (.over [.cell (.int .i64), .agg [.int .i64, .int .u64, .str, .slice, .int .i64]] true [] (.two .leaf .leaf) (.two (.two .leaf (.two .leaf (.two (.two .leaf .leaf) .leaf))) .leaf)) .leaf)) (.two .leaf .leaf))) [Value.agg #[Value.int .i64 v_0, Value.int .u64 v_1, Value.string v_2, Value.slice v_3 v_3n v_3c, Value.int .i64 v_4]] w K = wp_value_Check v_0 v_1 v_2 v_3 v_3n v_3c v_4 w K := by kernel_rfl
theorem ok_value_Check {v_0 v_1 : Int} {v_2 : ByteArray} {v_3 : Option Addr} {v_3n v_3c : Nat} {v_4 : Int} {w : World} {K : Value → World → Prop} (hwp : wp_value_Check v_0 v_1 v_2 v_3 v_3n v_3c v_4 w K) : callP Tryz.prog 33 [.agg #[.int .i64 v_0, .int .u64 v_1, .string v_2, .slice v_3 v_3n v_3c, .int .i64 v_4]] w K :=
  calls_of Tryz.func33 ((eq_value_Check v_0 v_1 v_2 v_3 v_3n v_3c v_4 w K).symm ▸ hwp)
def wp_value_each (v_0 v_1 : Int) (v_2 : ByteArray) (v_3 : Option Addr) (v_3n v_3c : Nat) (v_4 : Int) (w : World) (K : Value → World → Prop) : Prop :=
  newB w [.int .i64 v_0, .int .u64 v_1, .string v_2, .slice v_3 v_3n v_3c, .int .i64 v_4] 26 fun a w1 => K (.func (Fn.func 98) #[] #[.pointer (some a)]) w1
theorem eq_value_each (v_0 v_1 : Int) (v_2 : ByteArray) (v_3 : Option Addr) (v_3n v_3c : Nat) (v_4 : Int) (w : World) (K : Value → World → Prop) : wpF Tryz.prog none Tryz.f60 (.two .leaf (.two .leaf .leaf)) [Value.agg #[Value.int .i64 v_0, Value.int .u64 v_1, Value.string v_2, Value.slice v_3 v_3n v_3c, Value.int .i64 v_4]] w K = wp_value_each v_0 v_1 v_2 v_3 v_3n v_3c v_4 w K := by kernel_rfl
theorem ok_value_each {v_0 v_1 : Int} {v_2 : ByteArray} {v_3 : Option Addr} {v_3n v_3c : Nat} {v_4 : Int} {w : World} {K : Value → World → Prop} (hwp : wp_value_each v_0 v_1 v_2 v_3 v_3n v_3c v_4 w K) : callP Tryz.prog 60 [.agg #[.int .i64 v_0, .int .u64 v_1, .string v_2, .slice v_3 v_3n v_3c, .int .i64 v_4]] w K :=
  calls_of Tryz.func60 ((eq_value_each v_0 v_1 v_2 v_3 v_3n v_3c v_4 w K).symm ▸ hwp)
def wp_value_each_1 (yield : Value) (cap0 : Option Addr) (w : World) (K : Value → World → Prop) : Prop :=
  nn cap0 fun a => ∃ n, w.cell? (a.add 0) = some (.int .i64 n) ∧ ∃ n1, w.cell? (a.add 1) = some (.int .u64 n1) ∧ ∃ s, w.cell? (a.add 2) = some (.string s) ∧ ∃ p n2 c, w.cell? (a.add 3) = some (.slice p n2 c) ∧ ∃ n3, w.cell? (a.add 4) = some (.int .i64 n3) ∧ callP Tryz.prog 99 [.agg #[.int .i64 n, .int .u64 n1, .string s, .slice p n2 c, .int .i64 n3], .int .i64 1, yield] w fun v w1 => ∃ b, v = .bool b ∧ K (.tuple #[]) w1
theorem eq_value_each_1 (yield : Value) (cap0 : Option Addr) (w : World) (K : Value → World → Prop) : wpF Tryz.prog none Tryz.f98 .leaf [yield, Value.pointer cap0] w K = wp_value_each_1 yield cap0 w K := by kernel_rfl
theorem ok_value_each_1 {yield : Value} {cap0 : Option Addr} {w : World} {K : Value → World → Prop} (hwp : wp_value_each_1 yield cap0 w K) : callP Tryz.prog 98 [yield, .pointer cap0] w K :=
  calls_of Tryz.func98 ((eq_value_each_1 yield cap0 w K).symm ▸ hwp)
def wp_value_walk (v_0 v_1 : Int) (v_2 : ByteArray) (v_3 : Option Addr) (v_3n v_3c : Nat) (v_4 depth : Int) (yield : Value) (w : World) (K : Value → World → Prop) : Prop :=
  newB w [.int .i64 v_0, .int .u64 v_1, .string v_2, .slice v_3 v_3n v_3c, .int .i64 v_4] 26 fun a w1 =>
  ∃ n,
  w1.cell? (a.add 0) = some (.int .i64 n) ∧
  ∃ n1,
  w1.cell? (a.add 1) = some (.int .u64 n1) ∧
  ∃ s,
  w1.cell? (a.add 2) = some (.string s) ∧
  ∃ p n2 c,
  w1.cell? (a.add 3) = some (.slice p n2 c) ∧
  ∃ n3, w1.cell? (a.add 4) = some (.int .i64 n3) ∧ callV Tryz.prog none yield [.int .i64 depth, .agg #[.int .i64 n, .int .u64 n1, .string s, .slice p n2 c, .int .i64 n3]] w1 fun v w2 => ∃ b, v = .bool b ∧ Sif (!b) (K (.bool false) w2) (∃ p1 n4 c1, w2.cell? (a.add 3) = some (.slice p1 n4 c1) ∧ ∃ (I : Nat → Int → World → Prop), (∃ m, I m 0 w2) ∧ ∀ m n5 w3, I m n5 w3 → Sif (decide (n5 < (↑n4 : Int))) (0 ≤ n5 ∧ n5 < (↑n4 : Int) ∧ nn p1 fun a1 => ∃ n6, w3.cell? (Addr.add (a1.add (Int.toNat n5 * 5)) 0) = some (.int .i64 n6) ∧ ∃ n7, w3.cell? (Addr.add (a1.add (Int.toNat n5 * 5)) 1) = some (.int .u64 n7) ∧ ∃ s1, w3.cell? (Addr.add (a1.add (Int.toNat n5 * 5)) 2) = some (.string s1) ∧ ∃ p2 n8 c2, w3.cell? (Addr.add (a1.add (Int.toNat n5 * 5)) 3) = some (.slice p2 n8 c2) ∧ ∃ n9, w3.cell? (Addr.add (a1.add (Int.toNat n5 * 5)) 4) = some (.int .i64 n9) ∧ newB w3 [.int .i64 0, .int .u64 0, .string (ByteArray.mk #[]), .slice none 0 0, .int .i64 0] 26 fun a2 w4 => st w4 (a2.add 0) (.int .i64 n6) fun w5 => st w5 (a2.add 1) (.int .u64 n7) fun w6 => st w6 (a2.add 2) (.string s1) fun w7 => st w7 (a2.add 3) (.slice p2 n8 c2) fun w8 => st w8 (a2.add 4) (.int .i64 n9) fun w9 => ∃ n10, w9.cell? (a2.add 0) = some (.int .i64 n10) ∧ ∃ n11, w9.cell? (a2.add 1) = some (.int .u64 n11) ∧ ∃ s2, w9.cell? (a2.add 2) = some (.string s2) ∧ ∃ p3 n12 c3, w9.cell? (a2.add 3) = some (.slice p3 n12 c3) ∧ ∃ n13, w9.cell? (a2.add 4) = some (.int .i64 n13) ∧ callP Tryz.prog 99 [.agg #[.int .i64 n10, .int .u64 n11, .string s2, .slice p3 n12 c3, .int .i64 n13], .int .i64 (IntKind.wrap .i64 (depth + 1)), yield] w9 fun v1 w10 => ∃ b1, v1 = .bool b1 ∧ Sif (!b1) (K (.bool false) w10) (∃ m', m' < m ∧ I m' (IntKind.wrap .i64 (n5 + 1)) w10)) (K (.bool true) w3))
theorem eq_value_walk (v_0 v_1 : Int) (v_2 : ByteArray) (v_3 : Option Addr) (v_3n v_3c : Nat) (v_4 depth : Int) (yield : Value) (w : World) (K : Value → World → Prop) : wpF Tryz.prog none Tryz.f99 (.two .leaf (.two (.two .leaf (.two (.two .leaf .leaf) .leaf)) (.two (.two .leaf (.two (.loop [(17, .cell (.int .i64))] (.two .leaf (.two (.two .leaf .leaf) (.two (.two (.two .leaf (.two .leaf (.two (.two .leaf .leaf) .leaf))) .leaf) .leaf)))) .leaf)) (.two .leaf .leaf)))) [Value.agg #[Value.int .i64 v_0, Value.int .u64 v_1, Value.string v_2, Value.slice v_3 v_3n v_3c, Value.int .i64 v_4], Value.int .i64 depth, yield] w K = wp_value_walk v_0 v_1 v_2 v_3 v_3n v_3c v_4 depth yield w K := by kernel_rfl
theorem ok_value_walk {v_0 v_1 : Int} {v_2 : ByteArray} {v_3 : Option Addr} {v_3n v_3c : Nat} {v_4 depth : Int} {yield : Value} {w : World} {K : Value → World → Prop} (hwp : wp_value_walk v_0 v_1 v_2 v_3 v_3n v_3c v_4 depth yield w K) : callP Tryz.prog 99 [.agg #[.int .i64 v_0, .int .u64 v_1, .string v_2, .slice v_3 v_3n v_3c, .int .i64 v_4], .int .i64 depth, yield] w K :=
  calls_of Tryz.func99 ((eq_value_walk v_0 v_1 v_2 v_3 v_3n v_3c v_4 depth yield w K).symm ▸ hwp)
def wp_value_extra (v_0 v_1 : Int) (v_2 : ByteArray) (v_3 : Option Addr) (v_3n v_3c : Nat) (v_4 : Int) (w : World) (K : Value → World → Prop) : Prop :=
  newB w [.int .i64 v_0, .int .u64 v_1, .string v_2, .slice v_3 v_3n v_3c, .int .i64 v_4] 26 fun a w1 =>
  ∃ n,
  w1.cell? (a.add 0) = some (.int .i64 n) ∧
  callP Tryz.prog 137 [.int .i64 n] w1 fun v w2 =>
  ∃ b b1 b2,
  v = .tuple #[.bool b, .bool b1, .bool b2] ∧
  Sif (!b) (∃ n1, w2.cell? (a.add 1) = some (.int .u64 n1) ∧ Sif (!n1 != 0) (Sif (!b1) (∃ s, w2.cell? (a.add 2) = some (.string s) ∧ Sif (!!ByteArray.toList s == ByteArray.toList (ByteArray.mk #[])) (Sif (!b2) (∃ p n2 c, w2.cell? (a.add 3) = some (.slice p n2 c) ∧ Sif (!decide ((↑n2 : Int) > 0)) (∃ n3, w2.cell? (a.add 0) = some (.int .i64 n3) ∧ Sif (n3 != 23) (∃ n4, w2.cell? (a.add 4) = some (.int .i64 n4) ∧ K (.bool (n4 != 0)) w2) (K (.bool false) w2)) (K (.bool true) w2)) (∃ n2, w2.cell? (a.add 0) = some (.int .i64 n2) ∧ Sif (n2 != 23) (∃ n3, w2.cell? (a.add 4) = some (.int .i64 n3) ∧ K (.bool (n3 != 0)) w2) (K (.bool false) w2))) (K (.bool true) w2)) (Sif (!b2) (∃ p n2 c, w2.cell? (a.add 3) = some (.slice p n2 c) ∧ Sif (!decide ((↑n2 : Int) > 0)) (∃ n3, w2.cell? (a.add 0) = some (.int .i64 n3) ∧ Sif (n3 != 23) (∃ n4, w2.cell? (a.add 4) = some (.int .i64 n4) ∧ K (.bool (n4 != 0)) w2) (K (.bool false) w2)) (K (.bool true) w2)) (∃ n2, w2.cell? (a.add 0) = some (.int .i64 n2) ∧ Sif (n2 != 23) (∃ n3, w2.cell? (a.add 4) = some (.int .i64 n3) ∧ K (.bool (n3 != 0)) w2) (K (.bool false) w2)))) (K (.bool true) w2))
  (Sif (!b1) (∃ s, w2.cell? (a.add 2) = some (.string s) ∧ Sif (!!ByteArray.toList s == ByteArray.toList (ByteArray.mk #[])) (Sif (!b2) (∃ p n1 c, w2.cell? (a.add 3) = some (.slice p n1 c) ∧ Sif (!decide ((↑n1 : Int) > 0)) (∃ n2, w2.cell? (a.add 0) = some (.int .i64 n2) ∧ Sif (n2 != 23) (∃ n3, w2.cell? (a.add 4) = some (.int .i64 n3) ∧ K (.bool (n3 != 0)) w2) (K (.bool false) w2)) (K (.bool true) w2)) (∃ n1, w2.cell? (a.add 0) = some (.int .i64 n1) ∧ Sif (n1 != 23) (∃ n2, w2.cell? (a.add 4) = some (.int .i64 n2) ∧ K (.bool (n2 != 0)) w2) (K (.bool false) w2))) (K (.bool true) w2)) (Sif (!b2) (∃ p n1 c, w2.cell? (a.add 3) = some (.slice p n1 c) ∧ Sif (!decide ((↑n1 : Int) > 0)) (∃ n2, w2.cell? (a.add 0) = some (.int .i64 n2) ∧ Sif (n2 != 23) (∃ n3, w2.cell? (a.add 4) = some (.int .i64 n3) ∧ K (.bool (n3 != 0)) w2) (K (.bool false) w2)) (K (.bool true) w2)) (∃ n1, w2.cell? (a.add 0) = some (.int .i64 n1) ∧ Sif (n1 != 23) (∃ n2, w2.cell? (a.add 4) = some (.int .i64 n2) ∧ K (.bool (n2 != 0)) w2) (K (.bool false) w2))))
theorem eq_value_extra (v_0 v_1 : Int) (v_2 : ByteArray) (v_3 : Option Addr) (v_3n v_3c : Nat) (v_4 : Int) (w : World) (K : Value → World → Prop) : wpF Tryz.prog none Tryz.f100 (.two .leaf (.two .leaf (.two .leaf .leaf))) [Value.agg #[Value.int .i64 v_0, Value.int .u64 v_1, Value.string v_2, Value.slice v_3 v_3n v_3c, Value.int .i64 v_4]] w K = wp_value_extra v_0 v_1 v_2 v_3 v_3n v_3c v_4 w K := by kernel_rfl
theorem ok_value_extra {v_0 v_1 : Int} {v_2 : ByteArray} {v_3 : Option Addr} {v_3n v_3c : Nat} {v_4 : Int} {w : World} {K : Value → World → Prop} (hwp : wp_value_extra v_0 v_1 v_2 v_3 v_3n v_3c v_4 w K) : callP Tryz.prog 100 [.agg #[.int .i64 v_0, .int .u64 v_1, .string v_2, .slice v_3 v_3n v_3c, .int .i64 v_4]] w K :=
  calls_of Tryz.func100 ((eq_value_extra v_0 v_1 v_2 v_3 v_3n v_3c v_4 w K).symm ▸ hwp)
def wp_value_isNum (v_0 v_1 : Int) (v_2 : ByteArray) (v_3 : Option Addr) (v_3n v_3c : Nat) (v_4 : Int) (w : World) (K : Value → World → Prop) : Prop :=
  newB w [.int .i64 v_0, .int .u64 v_1, .string v_2, .slice v_3 v_3n v_3c, .int .i64 v_4] 26 fun a w1 => ∃ n, w1.cell? (a.add 0) = some (.int .i64 n) ∧ Sif (n == 1) (∃ n1, w1.cell? (a.add 1) = some (.int .u64 n1) ∧ K (.bool (decide (n1 < 2))) w1) (Sif (n == 2) (∃ n1, w1.cell? (a.add 1) = some (.int .u64 n1) ∧ K (.bool (decide (n1 < 256))) w1) (Sif (n == 3) (∃ n1, w1.cell? (a.add 1) = some (.int .u64 n1) ∧ K (.bool (decide (n1 < 65536))) w1) (∃ (J : Bool → World → Prop), (∀ b w2, J b w2 → Sif b (∃ n1, w2.cell? (a.add 1) = some (.int .u64 n1) ∧ K (.bool (decide (n1 < 4294967296))) w2) (Sif (n == 6) (∃ n1, w2.cell? (a.add 1) = some (.int .u64 n1) ∧ callP Tryz.prog 138 [.int .u64 n1, .int .i64 8] w2 fun v w3 => ∃ b1, v = .bool b1 ∧ K (.bool b1) w3) (Sif (n == 7) (∃ n1, w2.cell? (a.add 1) = some (.int .u64 n1) ∧ callP Tryz.prog 138 [.int .u64 n1, .int .i64 16] w2 fun v w3 => ∃ b1, v = .bool b1 ∧ K (.bool b1) w3) (Sif (n == 8) (∃ n1, w2.cell? (a.add 1) = some (.int .u64 n1) ∧ callP Tryz.prog 138 [.int .u64 n1, .int .i64 32] w2 fun v w3 => ∃ b1, v = .bool b1 ∧ K (.bool b1) w3) (Sif (n == 15) (∃ n1, w2.cell? (a.add 1) = some (.int .u64 n1) ∧ Sif (!decide (n1 < 55296)) (∃ n2, w2.cell? (a.add 1) = some (.int .u64 n2) ∧ Sif (decide (n2 > 57343)) (∃ n3, w2.cell? (a.add 1) = some (.int .u64 n3) ∧ K (.bool (decide (n3 ≤ 1114111))) w2) (K (.bool false) w2)) (K (.bool true) w2)) (K (.bool true) w2)))))) ∧ Sif (n == 4) (J (n == 4) w1) (Sif (n == 10) (J (n == 10) w1) (J (n == 12) w1)))))
theorem eq_value_isNum (v_0 v_1 : Int) (v_2 : ByteArray) (v_3 : Option Addr) (v_3n v_3c : Nat) (v_4 : Int) (w : World) (K : Value → World → Prop) : wpF Tryz.prog none Tryz.f101 (.two .leaf (.two (.two .leaf (.two (.two .leaf (.two (.two .leaf .leaf) (.two .leaf (.two (.two .leaf .leaf) (.two .leaf (.two (.two .leaf .leaf) (.two (.meet [(20, .cell .bool)] (.two .leaf (.two .leaf (.two .leaf (.two .leaf .leaf))))) (.two (.two .leaf .leaf) (.two .leaf (.two (.two .leaf .leaf) (.two .leaf (.two (.two .leaf .leaf) (.two .leaf (.two (.two .leaf .leaf) (.two .leaf (.two (.two .leaf .leaf) .leaf)))))))))))))))) .leaf)) (.two .leaf .leaf))) [Value.agg #[Value.int .i64 v_0, Value.int .u64 v_1, Value.string v_2, Value.slice v_3 v_3n v_3c, Value.int .i64 v_4]] w K = wp_value_isNum v_0 v_1 v_2 v_3 v_3n v_3c v_4 w K := by kernel_rfl
theorem ok_value_isNum {v_0 v_1 : Int} {v_2 : ByteArray} {v_3 : Option Addr} {v_3n v_3c : Nat} {v_4 : Int} {w : World} {K : Value → World → Prop} (hwp : wp_value_isNum v_0 v_1 v_2 v_3 v_3n v_3c v_4 w K) : callP Tryz.prog 101 [.agg #[.int .i64 v_0, .int .u64 v_1, .string v_2, .slice v_3 v_3n v_3c, .int .i64 v_4]] w K :=
  calls_of Tryz.func101 ((eq_value_isNum v_0 v_1 v_2 v_3 v_3n v_3c v_4 w K).symm ▸ hwp)
def wp_value_isText (v_0 v_1 : Int) (v_2 : ByteArray) (v_3 : Option Addr) (v_3n v_3c : Nat) (v_4 : Int) (w : World) (K : Value → World → Prop) : Prop :=
  newB w [.int .i64 v_0, .int .u64 v_1, .string v_2, .slice v_3 v_3n v_3c, .int .i64 v_4] 26 fun a w1 => ∃ n, w1.cell? (a.add 0) = some (.int .i64 n) ∧ ∃ (J : Bool → World → Prop), (∀ b w2, J b w2 → Sif b (∃ s, w2.cell? (a.add 2) = some (.string s) ∧ K (.bool ((↑(ByteArray.size s) : Int) == 16)) w2) (Sif (n == 19) (∃ s, w2.cell? (a.add 2) = some (.string s) ∧ callP Tryz.prog 116 [.string s] w2 fun v w3 => ∃ n1, v = .int .i64 n1 ∧ K (.bool (decide (n1 < 0))) w3) (Sif (n == 20) (∃ s, w2.cell? (a.add 2) = some (.string s) ∧ callP Tryz.prog 117 [.string s] w2 fun v w3 => ∃ n1, v = .int .i64 n1 ∧ K (.bool (decide (n1 < 0))) w3) (K (.bool true) w2)))) ∧ Sif (n == 14) (J (n == 14) w1) (J (n == 17) w1)
theorem eq_value_isText (v_0 v_1 : Int) (v_2 : ByteArray) (v_3 : Option Addr) (v_3n v_3c : Nat) (v_4 : Int) (w : World) (K : Value → World → Prop) : wpF Tryz.prog none Tryz.f102 (.two .leaf (.two (.two .leaf (.two (.two (.meet [(5, .cell .bool)] (.two .leaf (.two .leaf .leaf))) (.two (.two .leaf .leaf) (.two .leaf (.two (.two .leaf .leaf) (.two .leaf (.two (.two .leaf .leaf) .leaf)))))) .leaf)) (.two .leaf .leaf))) [Value.agg #[Value.int .i64 v_0, Value.int .u64 v_1, Value.string v_2, Value.slice v_3 v_3n v_3c, Value.int .i64 v_4]] w K = wp_value_isText v_0 v_1 v_2 v_3 v_3n v_3c v_4 w K := by kernel_rfl
theorem ok_value_isText {v_0 v_1 : Int} {v_2 : ByteArray} {v_3 : Option Addr} {v_3n v_3c : Nat} {v_4 : Int} {w : World} {K : Value → World → Prop} (hwp : wp_value_isText v_0 v_1 v_2 v_3 v_3n v_3c v_4 w K) : callP Tryz.prog 102 [.agg #[.int .i64 v_0, .int .u64 v_1, .string v_2, .slice v_3 v_3n v_3c, .int .i64 v_4]] w K :=
  calls_of Tryz.func102 ((eq_value_isText v_0 v_1 v_2 v_3 v_3n v_3c v_4 w K).symm ▸ hwp)
def wp_value_isMap (l : Option Addr) (ln lc : Nat) (w : World) (K : Value → World → Prop) : Prop :=
  ∃ (J : World → Prop),
  (∀ w1, J w1 →
  (2 : Int) ≠ (0 : Int) ∧
  ∃ p n,
  ∃ c w2,
  Sem.run Tryz.prog (Instr.makeSlice 24 (.int .i64 0) (.int .i64 (IntKind.wrap .i64 (Int.tdiv (↑ln : Int) 2)))) w1 = Result.ok (.slice p n c) w2 ∧
  ∃ (I : Nat → Option Addr → Nat → Nat → Int → World → Prop),
  (∃ m, I m p n c 0 w2) ∧
  ∀ m p1 n1 c1 n2 w3, I m p1 n1 c1 n2 w3 →
  Sif (decide (n2 < (↑ln : Int))) (0 ≤ n2 ∧ n2 < (↑ln : Int) ∧ nn l fun a => ∃ n3, w3.cell? (Addr.add (a.add (Int.toNat n2 * 5)) 0) = some (.int .i64 n3) ∧ ∃ n4, w3.cell? (Addr.add (a.add (Int.toNat n2 * 5)) 1) = some (.int .u64 n4) ∧ ∃ s, w3.cell? (Addr.add (a.add (Int.toNat n2 * 5)) 2) = some (.string s) ∧ ∃ p2 n5 c2, w3.cell? (Addr.add (a.add (Int.toNat n2 * 5)) 3) = some (.slice p2 n5 c2) ∧ ∃ n6, w3.cell? (Addr.add (a.add (Int.toNat n2 * 5)) 4) = some (.int .i64 n6) ∧ newB w3 [.int .i64 n3, .int .u64 n4, .string s, .slice p2 n5 c2, .int .i64 n6] 26 fun a1 w4 => ∃ p3 n7, ∃ c3 w5, Sem.run Tryz.prog (Builtin.append_ #[24, 24] 24 #[.slice p1 n1 c1, .slice (some a1) 1 1]) w4 = Result.ok (.slice p3 n7 c3) w5 ∧ nameI (IntKind.wrap .i64 (n2 + 2)) fun n8 => ∃ m', m' < m ∧ I m' p3 n7 c3 n8 w5)
  (callP Tryz.prog 139 [.slice p1 n1 c1, .func (Fn.func 140) #[] #[]] w3 fun v w4 => v = .tuple #[] ∧ ∃ (I1 : Nat → Int → World → Prop), (∃ m1, I1 m1 1 w4) ∧ ∀ m1 n3 w5, I1 m1 n3 w5 → Sif (decide (n3 < (↑n1 : Int))) (0 ≤ IntKind.wrap .i64 (n3 - 1) ∧ IntKind.wrap .i64 (n3 - 1) < (↑n1 : Int) ∧ nn p1 fun a => 0 ≤ n3 ∧ n3 < (↑n1 : Int) ∧ nn p1 fun a1 => ∃ n4, w5.drew.cell? (Addr.add (Addr.add a (Int.toNat (IntKind.wrap .i64 (n3 - 1)) * 5)) 0) = some (.int .i64 n4) ∧ ∃ n5, w5.drew.cell? (Addr.add (Addr.add a (Int.toNat (IntKind.wrap .i64 (n3 - 1)) * 5)) 1) = some (.int .u64 n5) ∧ ∃ s, w5.drew.cell? (Addr.add (Addr.add a (Int.toNat (IntKind.wrap .i64 (n3 - 1)) * 5)) 2) = some (.string s) ∧ ∃ p2 n6 c2, w5.drew.cell? (Addr.add (Addr.add a (Int.toNat (IntKind.wrap .i64 (n3 - 1)) * 5)) 3) = some (.slice p2 n6 c2) ∧ ∃ n7, w5.drew.cell? (Addr.add (Addr.add a (Int.toNat (IntKind.wrap .i64 (n3 - 1)) * 5)) 4) = some (.int .i64 n7) ∧ ∃ n8, w5.drew.cell? (Addr.add (a1.add (Int.toNat n3 * 5)) 0) = some (.int .i64 n8) ∧ ∃ n9, w5.drew.cell? (Addr.add (a1.add (Int.toNat n3 * 5)) 1) = some (.int .u64 n9) ∧ ∃ s1, w5.drew.cell? (Addr.add (a1.add (Int.toNat n3 * 5)) 2) = some (.string s1) ∧ ∃ p3 n10 c3, w5.drew.cell? (Addr.add (a1.add (Int.toNat n3 * 5)) 3) = some (.slice p3 n10 c3) ∧ ∃ n11, w5.drew.cell? (Addr.add (a1.add (Int.toNat n3 * 5)) 4) = some (.int .i64 n11) ∧ callP Tryz.prog 140 [.agg #[.int .i64 n4, .int .u64 n5, .string s, .slice p2 n6 c2, .int .i64 n7], .agg #[.int .i64 n8, .int .u64 n9, .string s1, .slice p3 n10 c3, .int .i64 n11]] w5.drew fun v1 w6 => ∃ n12, v1 = .int .i64 n12 ∧ Sif (n12 == 0) (K (.bool false) w6) (nameI (IntKind.wrap .i64 (n3 + 1)) fun n13 => ∃ m', m' < m1 ∧ I1 m' n13 w6)) (K (.bool true) w5))) ∧
  (2 : Int) ≠ (0 : Int) ∧ Sif (!Int.tmod (↑ln : Int) 2 != 0) (Sif (decide ((↑ln : Int) > 2048)) (K (.bool false) w) (J w)) (K (.bool false) w)
theorem eq_value_isMap (l : Option Addr) (ln lc : Nat) (w : World) (K : Value → World → Prop) : wpF Tryz.prog none Tryz.f103 (.two .leaf (.two (.meet [] (.two .leaf (.two (.two .leaf .leaf) .leaf))) (.two .leaf (.two (.two .leaf (.two (.loop [(3, .cell .slice), (4, .cell (.int .i64))] (.two (.two .leaf (.two .leaf .leaf)) (.two (.two .leaf .leaf) .leaf))) .leaf)) (.two .leaf (.two (.two .leaf (.two (.loop [(5, .cell (.int .i64))] (.two (.two .leaf (.two .leaf .leaf)) (.two (.two (.two (.draw [0, 1, 2, 3, 5, 6, 7, 4, 8, 9, 10]) (.two (.two .leaf .leaf) .leaf)) .leaf) .leaf))) .leaf)) (.two .leaf .leaf))))))) [Value.slice l ln lc] w K = wp_value_isMap l ln lc w K := by kernel_rfl
theorem ok_value_isMap {l : Option Addr} {ln lc : Nat} {w : World} {K : Value → World → Prop} (hwp : wp_value_isMap l ln lc w K) : callP Tryz.prog 103 [.slice l ln lc] w K :=
  calls_of Tryz.func103 ((eq_value_isMap l ln lc w K).symm ▸ hwp)
def wp_value_isArray (v_0 v_1 : Int) (v_2 : ByteArray) (v_3 : Option Addr) (v_3n v_3c : Nat) (v_4 : Int) (w : World) (K : Value → World → Prop) : Prop :=
  newB w [.int .i64 v_0, .int .u64 v_1, .string v_2, .slice v_3 v_3n v_3c, .int .i64 v_4] 26 fun a w1 => ∃ (J : World → Prop), (∀ w2, J w2 → ∃ p n c, w2.cell? (a.add 3) = some (.slice p n c) ∧ callP Tryz.prog 141 [.slice p n c, .func (Fn.func 142) #[] #[.pointer (some a)]] w2 fun v w3 => ∃ b, v = .bool b ∧ K (.bool !b) w3) ∧ ∃ n, w1.cell? (a.add 4) = some (.int .i64 n) ∧ Sif (!decide (n ≤ 0)) (∃ n1, w1.cell? (a.add 4) = some (.int .i64 n1) ∧ Sif (decide (n1 ≥ 24)) (K (.bool false) w1) (J w1)) (K (.bool false) w1)
theorem eq_value_isArray (v_0 v_1 : Int) (v_2 : ByteArray) (v_3 : Option Addr) (v_3n v_3c : Nat) (v_4 : Int) (w : World) (K : Value → World → Prop) : wpF Tryz.prog none Tryz.f104 (.two .leaf (.two (.meet [] (.two .leaf (.two (.two .leaf .leaf) .leaf))) (.two .leaf .leaf))) [Value.agg #[Value.int .i64 v_0, Value.int .u64 v_1, Value.string v_2, Value.slice v_3 v_3n v_3c, Value.int .i64 v_4]] w K = wp_value_isArray v_0 v_1 v_2 v_3 v_3n v_3c v_4 w K := by kernel_rfl
theorem ok_value_isArray {v_0 v_1 : Int} {v_2 : ByteArray} {v_3 : Option Addr} {v_3n v_3c : Nat} {v_4 : Int} {w : World} {K : Value → World → Prop} (hwp : wp_value_isArray v_0 v_1 v_2 v_3 v_3n v_3c v_4 w K) : callP Tryz.prog 104 [.agg #[.int .i64 v_0, .int .u64 v_1, .string v_2, .slice v_3 v_3n v_3c, .int .i64 v_4]] w K :=
  calls_of Tryz.func104 ((eq_value_isArray v_0 v_1 v_2 v_3 v_3n v_3c v_4 w K).symm ▸ hwp)
def wp_value_isArray_1 (x_0 x_1 : Int) (x_2 : ByteArray) (x_3 : Option Addr) (x_3n x_3c : Nat) (x_4 : Int) (cap0 : Option Addr) (w : World) (K : Value → World → Prop) : Prop :=
  newB w [.int .i64 x_0, .int .u64 x_1, .string x_2, .slice x_3 x_3n x_3c, .int .i64 x_4] 26 fun a w1 => ∃ n, w1.cell? (a.add 0) = some (.int .i64 n) ∧ nn cap0 fun a1 => ∃ n1, w1.cell? (a1.add 4) = some (.int .i64 n1) ∧ K (.bool (n != n1)) w1
theorem eq_value_isArray_1 (x_0 x_1 : Int) (x_2 : ByteArray) (x_3 : Option Addr) (x_3n x_3c : Nat) (x_4 : Int) (cap0 : Option Addr) (w : World) (K : Value → World → Prop) : wpF Tryz.prog none Tryz.f142 (.two .leaf (.two .leaf .leaf)) [Value.agg #[Value.int .i64 x_0, Value.int .u64 x_1, Value.string x_2, Value.slice x_3 x_3n x_3c, Value.int .i64 x_4], Value.pointer cap0] w K = wp_value_isArray_1 x_0 x_1 x_2 x_3 x_3n x_3c x_4 cap0 w K := by kernel_rfl
theorem ok_value_isArray_1 {x_0 x_1 : Int} {x_2 : ByteArray} {x_3 : Option Addr} {x_3n x_3c : Nat} {x_4 : Int} {cap0 : Option Addr} {w : World} {K : Value → World → Prop} (hwp : wp_value_isArray_1 x_0 x_1 x_2 x_3 x_3n x_3c x_4 cap0 w K) : callP Tryz.prog 142 [.agg #[.int .i64 x_0, .int .u64 x_1, .string x_2, .slice x_3 x_3n x_3c, .int .i64 x_4], .pointer cap0] w K :=
  calls_of Tryz.func142 ((eq_value_isArray_1 x_0 x_1 x_2 x_3 x_3n x_3c x_4 cap0 w K).symm ▸ hwp)
def wp_value_alone (v_0 v_1 : Int) (v_2 : ByteArray) (v_3 : Option Addr) (v_3n v_3c : Nat) (v_4 depth : Int) (w : World) (K : Value → World → Prop) : Prop :=
  newB w [.int .i64 v_0, .int .u64 v_1, .string v_2, .slice v_3 v_3n v_3c, .int .i64 v_4] 26 fun a w1 =>
  ∃ (J : World → Prop),
  (∀ w2, J w2 → K (.int .i64 0) w2) ∧
  ∃ n,
  w1.cell? (a.add 0) = some (.int .i64 n) ∧
  Sif (!decide (n < 0))
  (∃ n1,
  w1.cell? (a.add 0) = some (.int .i64 n1) ∧
  Sif (decide (n1 > 24)) (K (.int .i64 20) w1)
  (Sif (decide (depth > 32)) (K (.int .i64 26) w1)
  (∃ n2,
  w1.cell? (a.add 0) = some (.int .i64 n2) ∧
  ∃ n3,
  w1.cell? (a.add 1) = some (.int .u64 n3) ∧
  ∃ s,
  w1.cell? (a.add 2) = some (.string s) ∧
  ∃ p n4 c,
  w1.cell? (a.add 3) = some (.slice p n4 c) ∧
  ∃ n5,
  w1.cell? (a.add 4) = some (.int .i64 n5) ∧
  callP Tryz.prog 100 [.agg #[.int .i64 n2, .int .u64 n3, .string s, .slice p n4 c, .int .i64 n5]] w1 fun v w2 =>
  ∃ b,
  v = .bool b ∧
  Sif b (K (.int .i64 25) w2)
  (∃ n6,
  w2.cell? (a.add 0) = some (.int .i64 n6) ∧
  ∃ n7,
  w2.cell? (a.add 1) = some (.int .u64 n7) ∧
  ∃ s1,
  w2.cell? (a.add 2) = some (.string s1) ∧
  ∃ p1 n8 c1,
  w2.cell? (a.add 3) = some (.slice p1 n8 c1) ∧
  ∃ n9,
  w2.cell? (a.add 4) = some (.int .i64 n9) ∧
  callP Tryz.prog 101 [.agg #[.int .i64 n6, .int .u64 n7, .string s1, .slice p1 n8 c1, .int .i64 n9]] w2 fun v1 w3 =>
  ∃ b1,
  v1 = .bool b1 ∧
  Sif (!b1) (K (.int .i64 21) w3)
  (∃ n10,
  w3.cell? (a.add 0) = some (.int .i64 n10) ∧
  ∃ n11,
  w3.cell? (a.add 1) = some (.int .u64 n11) ∧
  ∃ s2,
  w3.cell? (a.add 2) = some (.string s2) ∧
  ∃ p2 n12 c2,
  w3.cell? (a.add 3) = some (.slice p2 n12 c2) ∧
  ∃ n13,
  w3.cell? (a.add 4) = some (.int .i64 n13) ∧
  callP Tryz.prog 102 [.agg #[.int .i64 n10, .int .u64 n11, .string s2, .slice p2 n12 c2, .int .i64 n13]] w3 fun v2 w4 =>
  ∃ b2,
  v2 = .bool b2 ∧
  Sif (!b2) (K (.int .i64 22) w4)
  (∃ n14,
  w4.cell? (a.add 0) = some (.int .i64 n14) ∧
  Sif (n14 == 22) (∃ p3 n15 c3, w4.cell? (a.add 3) = some (.slice p3 n15 c3) ∧ callP Tryz.prog 103 [.slice p3 n15 c3] w4 fun v3 w5 => ∃ b3, v3 = .bool b3 ∧ Sif (!b3) (K (.int .i64 23) w5) (∃ n16, w5.cell? (a.add 0) = some (.int .i64 n16) ∧ Sif (n16 == 23) (∃ n17, w5.cell? (a.add 0) = some (.int .i64 n17) ∧ ∃ n18, w5.cell? (a.add 1) = some (.int .u64 n18) ∧ ∃ s3, w5.cell? (a.add 2) = some (.string s3) ∧ ∃ p4 n19 c4, w5.cell? (a.add 3) = some (.slice p4 n19 c4) ∧ ∃ n20, w5.cell? (a.add 4) = some (.int .i64 n20) ∧ callP Tryz.prog 104 [.agg #[.int .i64 n17, .int .u64 n18, .string s3, .slice p4 n19 c4, .int .i64 n20]] w5 fun v4 w6 => ∃ b4, v4 = .bool b4 ∧ Sif (!b4) (K (.int .i64 24) w6) (∃ n21, w6.cell? (a.add 0) = some (.int .i64 n21) ∧ Sif (n21 == 24) (∃ p5 n22 c5, w6.cell? (a.add 3) = some (.slice p5 n22 c5) ∧ Sif ((↑n22 : Int) != 2) (K (.int .i64 27) w6) (J w6)) (J w6))) (∃ n17, w5.cell? (a.add 0) = some (.int .i64 n17) ∧ Sif (n17 == 24) (∃ p4 n18 c4, w5.cell? (a.add 3) = some (.slice p4 n18 c4) ∧ Sif ((↑n18 : Int) != 2) (K (.int .i64 27) w5) (J w5)) (J w5))))
  (∃ n15, w4.cell? (a.add 0) = some (.int .i64 n15) ∧ Sif (n15 == 23) (∃ n16, w4.cell? (a.add 0) = some (.int .i64 n16) ∧ ∃ n17, w4.cell? (a.add 1) = some (.int .u64 n17) ∧ ∃ s3, w4.cell? (a.add 2) = some (.string s3) ∧ ∃ p3 n18 c3, w4.cell? (a.add 3) = some (.slice p3 n18 c3) ∧ ∃ n19, w4.cell? (a.add 4) = some (.int .i64 n19) ∧ callP Tryz.prog 104 [.agg #[.int .i64 n16, .int .u64 n17, .string s3, .slice p3 n18 c3, .int .i64 n19]] w4 fun v3 w5 => ∃ b3, v3 = .bool b3 ∧ Sif (!b3) (K (.int .i64 24) w5) (∃ n20, w5.cell? (a.add 0) = some (.int .i64 n20) ∧ Sif (n20 == 24) (∃ p4 n21 c4, w5.cell? (a.add 3) = some (.slice p4 n21 c4) ∧ Sif ((↑n21 : Int) != 2) (K (.int .i64 27) w5) (J w5)) (J w5))) (∃ n16, w4.cell? (a.add 0) = some (.int .i64 n16) ∧ Sif (n16 == 24) (∃ p3 n17 c3, w4.cell? (a.add 3) = some (.slice p3 n17 c3) ∧ Sif ((↑n17 : Int) != 2) (K (.int .i64 27) w4) (J w4)) (J w4)))))))))
  (K (.int .i64 20) w1)
theorem eq_value_alone (v_0 v_1 : Int) (v_2 : ByteArray) (v_3 : Option Addr) (v_3n v_3c : Nat) (v_4 depth : Int) (w : World) (K : Value → World → Prop) : wpF Tryz.prog none Tryz.f61 (.two .leaf (.two (.meet [] (.two (.two .leaf (.two (.two .leaf .leaf) (.two .leaf (.two (.two .leaf .leaf) (.two .leaf (.two (.two .leaf .leaf) (.two .leaf (.two (.two .leaf .leaf) (.two .leaf (.two (.two .leaf .leaf) (.two .leaf (.two (.two .leaf .leaf) (.two .leaf (.two (.two .leaf .leaf) (.two .leaf (.two (.two .leaf .leaf) .leaf)))))))))))))))) .leaf)) (.two .leaf .leaf))) [Value.agg #[Value.int .i64 v_0, Value.int .u64 v_1, Value.string v_2, Value.slice v_3 v_3n v_3c, Value.int .i64 v_4], Value.int .i64 depth] w K = wp_value_alone v_0 v_1 v_2 v_3 v_3n v_3c v_4 depth w K := by kernel_rfl
theorem ok_value_alone {v_0 v_1 : Int} {v_2 : ByteArray} {v_3 : Option Addr} {v_3n v_3c : Nat} {v_4 depth : Int} {w : World} {K : Value → World → Prop} (hwp : wp_value_alone v_0 v_1 v_2 v_3 v_3n v_3c v_4 depth w K) : callP Tryz.prog 61 [.agg #[.int .i64 v_0, .int .u64 v_1, .string v_2, .slice v_3 v_3n v_3c, .int .i64 v_4], .int .i64 depth] w K :=
  calls_of Tryz.func61 ((eq_value_alone v_0 v_1 v_2 v_3 v_3n v_3c v_4 depth w K).symm ▸ hwp)
def wp_value_has (kind : Int) (w : World) (K : Value → World → Prop) : Prop :=
  ∃ (J : Bool → Bool → Bool → World → Prop), (∀ b b1 b2 w1, J b b1 b2 w1 → K (.tuple #[.bool b, .bool b1, .bool b2]) w1) ∧ Sif (kind == 0) (J false false false w) (∃ (J1 : Bool → World → Prop), (∀ b w1, J1 b w1 → Sif b (J false true false w1) (∃ (J2 : Bool → World → Prop), (∀ b1 w2, J2 b1 w2 → Sif b1 (J false false true w2) (J true false false w2)) ∧ Sif (kind == 21) (J2 (kind == 21) w1) (Sif (kind == 22) (J2 (kind == 22) w1) (Sif (kind == 23) (J2 (kind == 23) w1) (J2 (kind == 24) w1))))) ∧ Sif (kind == 14) (J1 (kind == 14) w) (Sif (kind == 17) (J1 (kind == 17) w) (Sif (kind == 18) (J1 (kind == 18) w) (Sif (kind == 19) (J1 (kind == 19) w) (J1 (kind == 20) w)))))
theorem eq_value_has (kind : Int) (w : World) (K : Value → World → Prop) : wpF Tryz.prog none Tryz.f137 (.two .leaf (.two (.meet [(2, .cell .bool), (3, .cell .bool), (4, .cell .bool)] (.two .leaf (.two (.two .leaf (.two .leaf (.two (.meet [(8, .cell .bool)] (.two .leaf (.two .leaf (.two .leaf (.two .leaf (.two .leaf (.two .leaf (.two .leaf (.two .leaf .leaf))))))))) (.two .leaf (.two (.meet [(14, .cell .bool)] (.two .leaf (.two .leaf (.two .leaf (.two .leaf (.two .leaf (.two .leaf .leaf))))))) (.two .leaf .leaf)))))) .leaf))) (.two .leaf .leaf))) [Value.int .i64 kind] w K = wp_value_has kind w K := by kernel_rfl
theorem ok_value_has {kind : Int} {w : World} {K : Value → World → Prop} (hwp : wp_value_has kind w K) : callP Tryz.prog 137 [.int .i64 kind] w K :=
  calls_of Tryz.func137 ((eq_value_has kind w K).symm ▸ hwp)
def wp_value_within (n bits : Int) (w : World) (K : Value → World → Prop) : Prop :=
  0 ≤ IntKind.wrap .i64 (bits - 1) ∧ nameI (Int.fdiv (IntKind.wrap .i64 n) ((2 : Int) ^ min (Int.toNat (IntKind.wrap .i64 (bits - 1))) 64)) fun n1 => Sif (!n1 == 0) (K (.bool (n1 == (-1))) w) (K (.bool true) w)
theorem eq_value_within (n bits : Int) (w : World) (K : Value → World → Prop) : wpF Tryz.prog none Tryz.f138 (.two .leaf (.two .leaf (.two .leaf .leaf))) [Value.int .u64 n, Value.int .i64 bits] w K = wp_value_within n bits w K := by kernel_rfl
theorem ok_value_within {n bits : Int} {w : World} {K : Value → World → Prop} (hwp : wp_value_within n bits w K) : callP Tryz.prog 138 [.int .u64 n, .int .i64 bits] w K :=
  calls_of Tryz.func138 ((eq_value_within n bits w K).symm ▸ hwp)
def wp_value_Equal (a_0 a_1 : Int) (a_2 : ByteArray) (a_3 : Option Addr) (a_3n a_3c : Nat) (a_4 b_0 b_1 : Int) (b_2 : ByteArray) (b_3 : Option Addr) (b_3n b_3c : Nat) (b_4 : Int) (w : World) (K : Value → World → Prop) : Prop :=
  newB w [.int .i64 a_0, .int .u64 a_1, .string a_2, .slice a_3 a_3n a_3c, .int .i64 a_4] 26 fun a w1 => newB w1 [.int .i64 b_0, .int .u64 b_1, .string b_2, .slice b_3 b_3n b_3c, .int .i64 b_4] 26 fun a1 w2 => ∃ n, w2.cell? (a.add 0) = some (.int .i64 n) ∧ ∃ n1, w2.cell? (a1.add 0) = some (.int .i64 n1) ∧ Sif (n == n1) (∃ n2, w2.cell? (a.add 1) = some (.int .u64 n2) ∧ ∃ n3, w2.cell? (a1.add 1) = some (.int .u64 n3) ∧ Sif (n2 == n3) (∃ s, w2.cell? (a.add 2) = some (.string s) ∧ ∃ s1, w2.cell? (a1.add 2) = some (.string s1) ∧ Sif (ByteArray.toList s == ByteArray.toList s1) (∃ n4, w2.cell? (a.add 4) = some (.int .i64 n4) ∧ ∃ n5, w2.cell? (a1.add 4) = some (.int .i64 n5) ∧ Sif (n4 == n5) (∃ p n6 c, w2.cell? (a.add 3) = some (.slice p n6 c) ∧ ∃ p1 n7 c1, w2.cell? (a1.add 3) = some (.slice p1 n7 c1) ∧ callP Tryz.prog 157 [.slice p n6 c, .slice p1 n7 c1, .func (Fn.func 118) #[] #[]] w2 fun v w3 => ∃ b, v = .bool b ∧ K (.bool b) w3) (K (.bool false) w2)) (K (.bool false) w2)) (K (.bool false) w2)) (K (.bool false) w2)
theorem eq_value_Equal (a_0 a_1 : Int) (a_2 : ByteArray) (a_3 : Option Addr) (a_3n a_3c : Nat) (a_4 b_0 b_1 : Int) (b_2 : ByteArray) (b_3 : Option Addr) (b_3n b_3c : Nat) (b_4 : Int) (w : World) (K : Value → World → Prop) : wpF Tryz.prog none Tryz.f118 (.two .leaf (.two .leaf .leaf)) [Value.agg #[Value.int .i64 a_0, Value.int .u64 a_1, Value.string a_2, Value.slice a_3 a_3n a_3c, Value.int .i64 a_4], Value.agg #[Value.int .i64 b_0, Value.int .u64 b_1, Value.string b_2, Value.slice b_3 b_3n b_3c, Value.int .i64 b_4]] w K = wp_value_Equal a_0 a_1 a_2 a_3 a_3n a_3c a_4 b_0 b_1 b_2 b_3 b_3n b_3c b_4 w K := by kernel_rfl
theorem ok_value_Equal {a_0 a_1 : Int} {a_2 : ByteArray} {a_3 : Option Addr} {a_3n a_3c : Nat} {a_4 b_0 b_1 : Int} {b_2 : ByteArray} {b_3 : Option Addr} {b_3n b_3c : Nat} {b_4 : Int} {w : World} {K : Value → World → Prop} (hwp : wp_value_Equal a_0 a_1 a_2 a_3 a_3n a_3c a_4 b_0 b_1 b_2 b_3 b_3n b_3c b_4 w K) : callP Tryz.prog 118 [.agg #[.int .i64 a_0, .int .u64 a_1, .string a_2, .slice a_3 a_3n a_3c, .int .i64 a_4], .agg #[.int .i64 b_0, .int .u64 b_1, .string b_2, .slice b_3 b_3n b_3c, .int .i64 b_4]] w K :=
  calls_of Tryz.func118 ((eq_value_Equal a_0 a_1 a_2 a_3 a_3n a_3c a_4 b_0 b_1 b_2 b_3 b_3n b_3c b_4 w K).symm ▸ hwp)
def wp_value_Order (a_0 a_1 : Int) (a_2 : ByteArray) (a_3 : Option Addr) (a_3n a_3c : Nat) (a_4 b_0 b_1 : Int) (b_2 : ByteArray) (b_3 : Option Addr) (b_3n b_3c : Nat) (b_4 : Int) (w : World) (K : Value → World → Prop) : Prop :=
  newB w [.int .i64 a_0, .int .u64 a_1, .string a_2, .slice a_3 a_3n a_3c, .int .i64 a_4] 26 fun a w1 =>
  newB w1 [.int .i64 b_0, .int .u64 b_1, .string b_2, .slice b_3 b_3n b_3c, .int .i64 b_4] 26 fun a1 w2 =>
  ∃ n,
  w2.drew.cell? (a.add 0) = some (.int .i64 n) ∧
  ∃ n1,
  w2.drew.cell? (a1.add 0) = some (.int .i64 n1) ∧
  ∃ n2,
  w2.drew.cell? (a.add 1) = some (.int .u64 n2) ∧
  ∃ n3,
  w2.drew.cell? (a1.add 1) = some (.int .u64 n3) ∧
  ∃ s,
  w2.drew.cell? (a.add 2) = some (.string s) ∧
  ∃ s1,
  w2.drew.cell? (a1.add 2) = some (.string s1) ∧
  callP Tryz.prog 168 [.int .i64 n, .int .i64 n1] w2.drew fun v w3 =>
  ∃ n4, v = .int .i64 n4 ∧ (∃ s2, w3.cell? (a1.add 2) = some (.string s2) ∧ Value.string s2 = .string s1) ∧ (∃ s2, w3.cell? (a.add 2) = some (.string s2) ∧ Value.string s2 = .string s) ∧ (∃ n5, w3.cell? (a1.add 1) = some (.int .u64 n5) ∧ Value.int .u64 n5 = .int .u64 n3) ∧ (∃ n5, w3.cell? (a.add 1) = some (.int .u64 n5) ∧ Value.int .u64 n5 = .int .u64 n2) ∧ callP Tryz.prog 169 [.int .u64 n2, .int .u64 n3] w3 fun v1 w4 => ∃ n5, v1 = .int .i64 n5 ∧ (∃ s2, w4.cell? (a1.add 2) = some (.string s2) ∧ Value.string s2 = .string s1) ∧ (∃ s2, w4.cell? (a.add 2) = some (.string s2) ∧ Value.string s2 = .string s) ∧ callP Tryz.prog 170 [.string s, .string s1] w4 fun v2 w5 => ∃ n6, v2 = .int .i64 n6 ∧ newB w5 [.int .i64 n4, .int .i64 n5, .int .i64 n6] 3 fun a2 w6 => callP Tryz.prog 167 [.slice (some a2) 3 3] w6 fun v3 w7 => ∃ n7, v3 = .int .i64 n7 ∧ Sif (n7 != 0) (K (.int .i64 n7) w7) (∃ p n8 c, w7.drew.cell? (a.add 3) = some (.slice p n8 c) ∧ ∃ p1 n9 c1, w7.drew.cell? (a1.add 3) = some (.slice p1 n9 c1) ∧ ∃ n10, w7.drew.cell? (a.add 4) = some (.int .i64 n10) ∧ ∃ n11, w7.drew.cell? (a1.add 4) = some (.int .i64 n11) ∧ callP Tryz.prog 171 [.slice p n8 c, .slice p1 n9 c1, .func (Fn.func 140) #[] #[]] w7.drew fun v4 w8 => ∃ n12, v4 = .int .i64 n12 ∧ (∃ n13, w8.cell? (a1.add 4) = some (.int .i64 n13) ∧ Value.int .i64 n13 = .int .i64 n11) ∧ (∃ n13, w8.cell? (a.add 4) = some (.int .i64 n13) ∧ Value.int .i64 n13 = .int .i64 n10) ∧ callP Tryz.prog 168 [.int .i64 n10, .int .i64 n11] w8 fun v5 w9 => ∃ n13, v5 = .int .i64 n13 ∧ newB w9 [.int .i64 n12, .int .i64 n13] 3 fun a3 w10 => callP Tryz.prog 167 [.slice (some a3) 2 2] w10 fun v6 w11 => ∃ n14, v6 = .int .i64 n14 ∧ K (.int .i64 n14) w11)
theorem eq_value_Order (a_0 a_1 : Int) (a_2 : ByteArray) (a_3 : Option Addr) (a_3n a_3c : Nat) (a_4 b_0 b_1 : Int) (b_2 : ByteArray) (b_3 : Option Addr) (b_3n b_3c : Nat) (b_4 : Int) (w : World) (K : Value → World → Prop) : wpF Tryz.prog none Tryz.f140 (.two .leaf (.two (.two (.draw [0, 2, 5, 7, 10, 12, 1, 3, 6, 8, 11, 13, 4, 9, 14, 15, 16, 17]) (.two .leaf (.two (.two .leaf .leaf) .leaf))) (.two (.draw [0, 2, 5, 7, 1, 3, 6, 8, 4, 9, 10, 11, 12]) .leaf))) [Value.agg #[Value.int .i64 a_0, Value.int .u64 a_1, Value.string a_2, Value.slice a_3 a_3n a_3c, Value.int .i64 a_4], Value.agg #[Value.int .i64 b_0, Value.int .u64 b_1, Value.string b_2, Value.slice b_3 b_3n b_3c, Value.int .i64 b_4]] w K = wp_value_Order a_0 a_1 a_2 a_3 a_3n a_3c a_4 b_0 b_1 b_2 b_3 b_3n b_3c b_4 w K := by kernel_rfl
theorem ok_value_Order {a_0 a_1 : Int} {a_2 : ByteArray} {a_3 : Option Addr} {a_3n a_3c : Nat} {a_4 b_0 b_1 : Int} {b_2 : ByteArray} {b_3 : Option Addr} {b_3n b_3c : Nat} {b_4 : Int} {w : World} {K : Value → World → Prop} (hwp : wp_value_Order a_0 a_1 a_2 a_3 a_3n a_3c a_4 b_0 b_1 b_2 b_3 b_3n b_3c b_4 w K) : callP Tryz.prog 140 [.agg #[.int .i64 a_0, .int .u64 a_1, .string a_2, .slice a_3 a_3n a_3c, .int .i64 a_4], .agg #[.int .i64 b_0, .int .u64 b_1, .string b_2, .slice b_3 b_3n b_3c, .int .i64 b_4]] w K :=
  calls_of Tryz.func140 ((eq_value_Order a_0 a_1 a_2 a_3 a_3n a_3c a_4 b_0 b_1 b_2 b_3 b_3n b_3c b_4 w K).symm ▸ hwp)
def wp_slices_EqualFunc (s1 : Option Addr) (s1n s1c : Nat) (s2 : Option Addr) (s2n s2c : Nat) (eq : Value) (w : World) (K : Value → World → Prop) : Prop :=
  Sif ((↑s1n : Int) != (↑s2n : Int)) (K (.bool false) w)
  (∃ (I : Nat → Int → World → Prop),
  (∃ m, I m 0 w) ∧
  ∀ m n w1, I m n w1 →
  Sif (decide (n < (↑s1n : Int)))
  (0 ≤ n ∧
  n < (↑s1n : Int) ∧
  nn s1 fun a =>
  ∃ n1,
  w1.cell? (Addr.add (a.add (Int.toNat n * 5)) 0) = some (.int .i64 n1) ∧
  ∃ n2,
  w1.cell? (Addr.add (a.add (Int.toNat n * 5)) 1) = some (.int .u64 n2) ∧
  ∃ s,
  w1.cell? (Addr.add (a.add (Int.toNat n * 5)) 2) = some (.string s) ∧
  ∃ p n3 c,
  w1.cell? (Addr.add (a.add (Int.toNat n * 5)) 3) = some (.slice p n3 c) ∧
  ∃ n4,
  w1.cell? (Addr.add (a.add (Int.toNat n * 5)) 4) = some (.int .i64 n4) ∧
  newB w1 [.int .i64 0, .int .u64 0, .string (ByteArray.mk #[]), .slice none 0 0, .int .i64 0] 26 fun a1 w2 =>
  st w2 (a1.add 0) (.int .i64 n1) fun w3 =>
  st w3 (a1.add 1) (.int .u64 n2) fun w4 =>
  st w4 (a1.add 2) (.string s) fun w5 =>
  st w5 (a1.add 3) (.slice p n3 c) fun w6 => st w6 (a1.add 4) (.int .i64 n4) fun w7 => 0 ≤ n ∧ n < (↑s2n : Int) ∧ nn s2 fun a2 => ∃ n5, w7.cell? (Addr.add (a2.add (Int.toNat n * 5)) 0) = some (.int .i64 n5) ∧ ∃ n6, w7.cell? (Addr.add (a2.add (Int.toNat n * 5)) 1) = some (.int .u64 n6) ∧ ∃ s3, w7.cell? (Addr.add (a2.add (Int.toNat n * 5)) 2) = some (.string s3) ∧ ∃ p1 n7 c1, w7.cell? (Addr.add (a2.add (Int.toNat n * 5)) 3) = some (.slice p1 n7 c1) ∧ ∃ n8, w7.cell? (Addr.add (a2.add (Int.toNat n * 5)) 4) = some (.int .i64 n8) ∧ newB w7 [.int .i64 0, .int .u64 0, .string (ByteArray.mk #[]), .slice none 0 0, .int .i64 0] 26 fun a3 w8 => st w8 (a3.add 0) (.int .i64 n5) fun w9 => st w9 (a3.add 1) (.int .u64 n6) fun w10 => st w10 (a3.add 2) (.string s3) fun w11 => st w11 (a3.add 3) (.slice p1 n7 c1) fun w12 => st w12 (a3.add 4) (.int .i64 n8) fun w13 => ∃ n9, w13.cell? (a1.add 0) = some (.int .i64 n9) ∧ ∃ n10, w13.cell? (a1.add 1) = some (.int .u64 n10) ∧ ∃ s4, w13.cell? (a1.add 2) = some (.string s4) ∧ ∃ p2 n11 c2, w13.cell? (a1.add 3) = some (.slice p2 n11 c2) ∧ ∃ n12, w13.cell? (a1.add 4) = some (.int .i64 n12) ∧ ∃ n13, w13.cell? (a3.add 0) = some (.int .i64 n13) ∧ ∃ n14, w13.cell? (a3.add 1) = some (.int .u64 n14) ∧ ∃ s5, w13.cell? (a3.add 2) = some (.string s5) ∧ ∃ p3 n15 c3, w13.cell? (a3.add 3) = some (.slice p3 n15 c3) ∧ ∃ n16, w13.cell? (a3.add 4) = some (.int .i64 n16) ∧ callV Tryz.prog none eq [.agg #[.int .i64 n9, .int .u64 n10, .string s4, .slice p2 n11 c2, .int .i64 n12], .agg #[.int .i64 n13, .int .u64 n14, .string s5, .slice p3 n15 c3, .int .i64 n16]] w13 fun v w14 => ∃ b, v = .bool b ∧ Sif (!b) (K (.bool false) w14) (∃ m', m' < m ∧ I m' (IntKind.wrap .i64 (n + 1)) w14))
  (K (.bool true) w1))
theorem eq_slices_EqualFunc (s1 : Option Addr) (s1n s1c : Nat) (s2 : Option Addr) (s2n s2c : Nat) (eq : Value) (w : World) (K : Value → World → Prop) : wpF Tryz.prog none Tryz.f157 (.two .leaf (.two (.two .leaf (.two (.two .leaf .leaf) .leaf)) (.two (.two .leaf (.two (.loop [(17, .cell (.int .i64))] (.two .leaf (.two (.two .leaf .leaf) (.two (.two (.two .leaf (.two .leaf (.two .leaf (.two (.two .leaf .leaf) .leaf)))) .leaf) .leaf)))) .leaf)) (.two .leaf .leaf)))) [Value.slice s1 s1n s1c, Value.slice s2 s2n s2c, eq] w K = wp_slices_EqualFunc s1 s1n s1c s2 s2n s2c eq w K := by kernel_rfl
theorem ok_slices_EqualFunc {s1 : Option Addr} {s1n s1c : Nat} {s2 : Option Addr} {s2n s2c : Nat} {eq : Value} {w : World} {K : Value → World → Prop} (hwp : wp_slices_EqualFunc s1 s1n s1c s2 s2n s2c eq w K) : callP Tryz.prog 157 [.slice s1 s1n s1c, .slice s2 s2n s2c, eq] w K :=
  calls_of Tryz.func157 ((eq_slices_EqualFunc s1 s1n s1c s2 s2n s2c eq w K).symm ▸ hwp)
def wp_slices_CompareFunc (s1 : Option Addr) (s1n s1c : Nat) (s2 : Option Addr) (s2n s2c : Nat) (cmp : Value) (w : World) (K : Value → World → Prop) : Prop :=
  ∃ (I : Nat → Int → World → Prop),
  (∃ m, I m 0 w) ∧
  ∀ m n w1, I m n w1 →
  Sif (decide (n < (↑s1n : Int)))
  (0 ≤ n ∧
  n < (↑s1n : Int) ∧
  nn s1 fun a =>
  ∃ n1,
  w1.cell? (Addr.add (a.add (Int.toNat n * 5)) 0) = some (.int .i64 n1) ∧
  ∃ n2,
  w1.cell? (Addr.add (a.add (Int.toNat n * 5)) 1) = some (.int .u64 n2) ∧
  ∃ s,
  w1.cell? (Addr.add (a.add (Int.toNat n * 5)) 2) = some (.string s) ∧
  ∃ p n3 c,
  w1.cell? (Addr.add (a.add (Int.toNat n * 5)) 3) = some (.slice p n3 c) ∧
  ∃ n4,
  w1.cell? (Addr.add (a.add (Int.toNat n * 5)) 4) = some (.int .i64 n4) ∧
  newB w1 [.int .i64 0, .int .u64 0, .string (ByteArray.mk #[]), .slice none 0 0, .int .i64 0] 26 fun a1 w2 =>
  st w2 (a1.add 0) (.int .i64 n1) fun w3 =>
  st w3 (a1.add 1) (.int .u64 n2) fun w4 =>
  st w4 (a1.add 2) (.string s) fun w5 =>
  st w5 (a1.add 3) (.slice p n3 c) fun w6 =>
  st w6 (a1.add 4) (.int .i64 n4) fun w7 =>
  Sif (decide (n ≥ (↑s2n : Int))) (K (.int .i64 1) w7) (0 ≤ n ∧ n < (↑s2n : Int) ∧ nn s2 fun a2 => ∃ n5, w7.cell? (Addr.add (a2.add (Int.toNat n * 5)) 0) = some (.int .i64 n5) ∧ ∃ n6, w7.cell? (Addr.add (a2.add (Int.toNat n * 5)) 1) = some (.int .u64 n6) ∧ ∃ s3, w7.cell? (Addr.add (a2.add (Int.toNat n * 5)) 2) = some (.string s3) ∧ ∃ p1 n7 c1, w7.cell? (Addr.add (a2.add (Int.toNat n * 5)) 3) = some (.slice p1 n7 c1) ∧ ∃ n8, w7.cell? (Addr.add (a2.add (Int.toNat n * 5)) 4) = some (.int .i64 n8) ∧ newB w7 [.int .i64 0, .int .u64 0, .string (ByteArray.mk #[]), .slice none 0 0, .int .i64 0] 26 fun a3 w8 => st w8 (a3.add 0) (.int .i64 n5) fun w9 => st w9 (a3.add 1) (.int .u64 n6) fun w10 => st w10 (a3.add 2) (.string s3) fun w11 => st w11 (a3.add 3) (.slice p1 n7 c1) fun w12 => st w12 (a3.add 4) (.int .i64 n8) fun w13 => ∃ n9, w13.cell? (a1.add 0) = some (.int .i64 n9) ∧ ∃ n10, w13.cell? (a1.add 1) = some (.int .u64 n10) ∧ ∃ s4, w13.cell? (a1.add 2) = some (.string s4) ∧ ∃ p2 n11 c2, w13.cell? (a1.add 3) = some (.slice p2 n11 c2) ∧ ∃ n12, w13.cell? (a1.add 4) = some (.int .i64 n12) ∧ ∃ n13, w13.cell? (a3.add 0) = some (.int .i64 n13) ∧ ∃ n14, w13.cell? (a3.add 1) = some (.int .u64 n14) ∧ ∃ s5, w13.cell? (a3.add 2) = some (.string s5) ∧ ∃ p3 n15 c3, w13.cell? (a3.add 3) = some (.slice p3 n15 c3) ∧ ∃ n16, w13.cell? (a3.add 4) = some (.int .i64 n16) ∧ callV Tryz.prog none cmp [.agg #[.int .i64 n9, .int .u64 n10, .string s4, .slice p2 n11 c2, .int .i64 n12], .agg #[.int .i64 n13, .int .u64 n14, .string s5, .slice p3 n15 c3, .int .i64 n16]] w13 fun v w14 => ∃ n17, v = .int .i64 n17 ∧ Sif (n17 != 0) (K (.int .i64 n17) w14) (∃ m', m' < m ∧ I m' (IntKind.wrap .i64 (n + 1)) w14)))
  (Sif (decide ((↑s1n : Int) < (↑s2n : Int))) (K (.int .i64 (-1)) w1) (K (.int .i64 0) w1))
theorem eq_slices_CompareFunc (s1 : Option Addr) (s1n s1c : Nat) (s2 : Option Addr) (s2n s2c : Nat) (cmp : Value) (w : World) (K : Value → World → Prop) : wpF Tryz.prog none Tryz.f171 (.two .leaf (.two (.two .leaf (.two (.loop [(13, .cell (.int .i64))] (.two .leaf (.two (.two .leaf .leaf) (.two (.two (.two .leaf (.two (.two .leaf (.two (.two .leaf .leaf) .leaf)) (.two .leaf (.two .leaf (.two .leaf (.two (.two .leaf .leaf) .leaf)))))) .leaf) .leaf)))) .leaf)) (.two (.two .leaf (.two (.two .leaf .leaf) .leaf)) (.two .leaf .leaf)))) [Value.slice s1 s1n s1c, Value.slice s2 s2n s2c, cmp] w K = wp_slices_CompareFunc s1 s1n s1c s2 s2n s2c cmp w K := by kernel_rfl
theorem ok_slices_CompareFunc {s1 : Option Addr} {s1n s1c : Nat} {s2 : Option Addr} {s2n s2c : Nat} {cmp : Value} {w : World} {K : Value → World → Prop} (hwp : wp_slices_CompareFunc s1 s1n s1c s2 s2n s2c cmp w K) : callP Tryz.prog 171 [.slice s1 s1n s1c, .slice s2 s2n s2c, cmp] w K :=
  calls_of Tryz.func171 ((eq_slices_CompareFunc s1 s1n s1c s2 s2n s2c cmp w K).symm ▸ hwp)
def wp_slices_ContainsFunc (s : Option Addr) (sn sc : Nat) (f : Value) (w : World) (K : Value → World → Prop) : Prop :=
  callP Tryz.prog 172 [.slice s sn sc, f] w fun v w1 => ∃ n, v = .int .i64 n ∧ K (.bool (decide (n ≥ 0))) w1
theorem eq_slices_ContainsFunc (s : Option Addr) (sn sc : Nat) (f : Value) (w : World) (K : Value → World → Prop) : wpF Tryz.prog none Tryz.f141 (.two .leaf (.two .leaf .leaf)) [Value.slice s sn sc, f] w K = wp_slices_ContainsFunc s sn sc f w K := by kernel_rfl
theorem ok_slices_ContainsFunc {s : Option Addr} {sn sc : Nat} {f : Value} {w : World} {K : Value → World → Prop} (hwp : wp_slices_ContainsFunc s sn sc f w K) : callP Tryz.prog 141 [.slice s sn sc, f] w K :=
  calls_of Tryz.func141 ((eq_slices_ContainsFunc s sn sc f w K).symm ▸ hwp)
def wp_slices_IndexFunc (s : Option Addr) (sn sc : Nat) (f : Value) (w : World) (K : Value → World → Prop) : Prop :=
  ∃ (I : Nat → Int → World → Prop), (∃ m, I m 0 w) ∧ ∀ m n w1, I m n w1 → Sif (decide (n < (↑sn : Int))) (0 ≤ n ∧ n < (↑sn : Int) ∧ nn s fun a => ∃ n1, w1.cell? (Addr.add (a.add (Int.toNat n * 5)) 0) = some (.int .i64 n1) ∧ ∃ n2, w1.cell? (Addr.add (a.add (Int.toNat n * 5)) 1) = some (.int .u64 n2) ∧ ∃ s1, w1.cell? (Addr.add (a.add (Int.toNat n * 5)) 2) = some (.string s1) ∧ ∃ p n3 c, w1.cell? (Addr.add (a.add (Int.toNat n * 5)) 3) = some (.slice p n3 c) ∧ ∃ n4, w1.cell? (Addr.add (a.add (Int.toNat n * 5)) 4) = some (.int .i64 n4) ∧ callV Tryz.prog none f [.agg #[.int .i64 n1, .int .u64 n2, .string s1, .slice p n3 c, .int .i64 n4]] w1 fun v w2 => ∃ b, v = .bool b ∧ Sif b (K (.int .i64 n) w2) (∃ m', m' < m ∧ I m' (IntKind.wrap .i64 (n + 1)) w2)) (K (.int .i64 (-1)) w1)
theorem eq_slices_IndexFunc (s : Option Addr) (sn sc : Nat) (f : Value) (w : World) (K : Value → World → Prop) : wpF Tryz.prog none Tryz.f172 (.two .leaf (.two (.two .leaf (.two (.loop [(8, .cell (.int .i64))] (.two .leaf (.two (.two .leaf .leaf) (.two (.two (.two .leaf (.two .leaf (.two (.two .leaf .leaf) .leaf))) .leaf) .leaf)))) .leaf)) (.two .leaf .leaf))) [Value.slice s sn sc, f] w K = wp_slices_IndexFunc s sn sc f w K := by kernel_rfl
theorem ok_slices_IndexFunc {s : Option Addr} {sn sc : Nat} {f : Value} {w : World} {K : Value → World → Prop} (hwp : wp_slices_IndexFunc s sn sc f w K) : callP Tryz.prog 172 [.slice s sn sc, f] w K :=
  calls_of Tryz.func172 ((eq_slices_IndexFunc s sn sc f w K).symm ▸ hwp)
def wp_cmp_Or (vals : Option Addr) (valsn valsc : Nat) (w : World) (K : Value → World → Prop) : Prop :=
  ∃ (I : Nat → Int → World → Prop), (∃ m, I m 0 w) ∧ ∀ m n w1, I m n w1 → Sif (decide (n < (↑valsn : Int))) (0 ≤ n ∧ n < (↑valsn : Int) ∧ nn vals fun a => ∃ n1, w1.cell? (a.add (Int.toNat n * 1)) = some (.int .i64 n1) ∧ Sif (n1 != 0) (K (.int .i64 n1) w1) (∃ m', m' < m ∧ I m' (IntKind.wrap .i64 (n + 1)) w1)) (K (.int .i64 0) w1)
theorem eq_cmp_Or (vals : Option Addr) (valsn valsc : Nat) (w : World) (K : Value → World → Prop) : wpF Tryz.prog none Tryz.f167 (.two .leaf (.two .leaf (.two (.two .leaf (.two (.loop [(8, .cell (.int .i64))] (.two .leaf (.two (.two .leaf .leaf) (.two (.two (.two .leaf (.two .leaf (.two (.two .leaf .leaf) .leaf))) .leaf) .leaf)))) .leaf)) (.two .leaf .leaf)))) [Value.slice vals valsn valsc] w K = wp_cmp_Or vals valsn valsc w K := by kernel_rfl
theorem ok_cmp_Or {vals : Option Addr} {valsn valsc : Nat} {w : World} {K : Value → World → Prop} (hwp : wp_cmp_Or vals valsn valsc w K) : callP Tryz.prog 167 [.slice vals valsn valsc] w K :=
  calls_of Tryz.func167 ((eq_cmp_Or vals valsn valsc w K).symm ▸ hwp)
def wp_cmp_Compare_2 (x y : Int) (w : World) (K : Value → World → Prop) : Prop :=
  callP Tryz.prog 202 [.int .u64 x] w fun v w1 => ∃ b, v = .bool b ∧ callP Tryz.prog 202 [.int .u64 y] w1 fun v1 w2 => ∃ b1, v1 = .bool b1 ∧ Sif b (Sif b1 (K (.int .i64 0) w2) (K (.int .i64 (-1)) w2)) (Sif b1 (K (.int .i64 1) w2) (Sif (decide (x < y)) (K (.int .i64 (-1)) w2) (Sif (decide (x > y)) (K (.int .i64 1) w2) (K (.int .i64 0) w2))))
theorem eq_cmp_Compare_2 (x y : Int) (w : World) (K : Value → World → Prop) : wpF Tryz.prog none Tryz.f169 (.two .leaf (.two .leaf (.two .leaf (.two (.two .leaf (.two (.two (.two .leaf (.two (.two .leaf .leaf) .leaf)) (.two .leaf .leaf)) .leaf)) (.two (.two .leaf (.two (.two .leaf .leaf) .leaf)) (.two (.two .leaf (.two (.two .leaf .leaf) .leaf)) (.two (.two .leaf (.two (.two .leaf .leaf) .leaf)) (.two .leaf .leaf)))))))) [Value.int .u64 x, Value.int .u64 y] w K = wp_cmp_Compare_2 x y w K := by kernel_rfl
theorem ok_cmp_Compare_2 {x y : Int} {w : World} {K : Value → World → Prop} (hwp : wp_cmp_Compare_2 x y w K) : callP Tryz.prog 169 [.int .u64 x, .int .u64 y] w K :=
  calls_of Tryz.func169 ((eq_cmp_Compare_2 x y w K).symm ▸ hwp)
def wp_cmp_isNaN_2 (x : Int) (w : World) (K : Value → World → Prop) : Prop :=
  K (.bool (x != x)) w
theorem eq_cmp_isNaN_2 (x : Int) (w : World) (K : Value → World → Prop) : wpF Tryz.prog none Tryz.f202 (.two .leaf (.two .leaf .leaf)) [Value.int .u64 x] w K = wp_cmp_isNaN_2 x w K := by kernel_rfl
theorem ok_cmp_isNaN_2 {x : Int} {w : World} {K : Value → World → Prop} (hwp : wp_cmp_isNaN_2 x w K) : callP Tryz.prog 202 [.int .u64 x] w K :=
  calls_of Tryz.func202 ((eq_cmp_isNaN_2 x w K).symm ▸ hwp)
end Go.Proofs.YtnacobknngidkaaGreatDoor
