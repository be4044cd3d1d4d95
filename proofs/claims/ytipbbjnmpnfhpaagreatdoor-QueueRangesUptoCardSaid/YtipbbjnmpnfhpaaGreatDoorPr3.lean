/-
  What a call of each function comes to (definitions 'wp_..', reckoned by a program out of the model's code), and that it is sound ('ok_..'). Written by program (sv.py).
-/
import Derived.Test.YtipbbjnmpnfhpaaGreatDoorPr2
import Derived.Test.YtipbbjnmpnfhpaaGreatDoorProg
import Derived.KernelRfl
namespace Go.Proofs.YtipbbjnmpnfhpaaGreatDoor
open Go Go.Sv
set_option linter.unusedVariables false
set_option maxRecDepth 100000

/-- container.heap.Push -/
def wp_heap_Push (h x : Value) (w : World) (K : Value → World → Prop) : Prop :=
  callI Tryz.prog none h "Push" [x] w fun v w1 => v = .tuple #[] ∧ callI Tryz.prog none h "Len" [] w1 fun v1 w2 => ∃ n, v1 = .int .i64 n ∧ callP Tryz.prog 73 [h, .int .i64 (IntKind.wrap .i64 (n - 1))] w2 fun v2 w3 => v2 = .tuple #[] ∧ K (.tuple #[]) w3
theorem eq_heap_Push (h x : Value) (w : World) (K : Value → World → Prop) : wpF Tryz.prog none Tryz.f47 (.two .leaf .leaf) [h, x] w K = wp_heap_Push h x w K := by kernel_rfl
theorem ok_heap_Push {h x : Value} {w : World} {K : Value → World → Prop} (hwp : wp_heap_Push h x w K) : callP Tryz.prog 47 [h, x] w K :=
  calls_of Tryz.func47 ((eq_heap_Push h x w K).symm ▸ hwp)

/-- container.heap.Pop -/
def wp_heap_Pop (h : Value) (w : World) (K : Value → World → Prop) : Prop :=
  callI Tryz.prog none h "Len" [] w fun v w1 => ∃ n, v = .int .i64 n ∧ nameI (IntKind.wrap .i64 (n - 1)) fun n1 => callI Tryz.prog none h "Swap" [.int .i64 0, .int .i64 n1] w1 fun v1 w2 => v1 = .tuple #[] ∧ callP Tryz.prog 74 [h, .int .i64 0, .int .i64 n1] w2 fun v2 w3 => ∃ b, v2 = .bool b ∧ callI Tryz.prog none h "Pop" [] w3 fun v3 w4 => ∃ v4, v3 = v4 ∧ K (tupV [v4]) w4
theorem eq_heap_Pop (h : Value) (w : World) (K : Value → World → Prop) : wpF Tryz.prog none Tryz.f49 (.two .leaf (.two .leaf (.two .leaf (.two .leaf (.two .leaf .leaf))))) [h] w K = wp_heap_Pop h w K := by kernel_rfl
theorem ok_heap_Pop {h : Value} {w : World} {K : Value → World → Prop} (hwp : wp_heap_Pop h w K) : callP Tryz.prog 49 [h] w K :=
  calls_of Tryz.func49 ((eq_heap_Pop h w K).symm ▸ hwp)

/-- container.heap.Remove -/
def wp_heap_Remove (h : Value) (i : Int) (w : World) (K : Value → World → Prop) : Prop :=
  callI Tryz.prog none h "Len" [] w fun v w1 => ∃ n, v = .int .i64 n ∧ nameI (IntKind.wrap .i64 (n - 1)) fun n1 => ∃ (J : World → Prop), (∀ w2, J w2 → callI Tryz.prog none h "Pop" [] w2 fun v1 w3 => ∃ v2, v1 = v2 ∧ K (tupV [v2]) w3) ∧ Sif (n1 != i) (callI Tryz.prog none h "Swap" [.int .i64 i, .int .i64 n1] w1 fun v1 w2 => v1 = .tuple #[] ∧ callP Tryz.prog 74 [h, .int .i64 i, .int .i64 n1] w2 fun v2 w3 => ∃ b, v2 = .bool b ∧ Sif (!b) (callP Tryz.prog 73 [h, .int .i64 i] w3 fun v3 w4 => v3 = .tuple #[] ∧ J w4) (J w3)) (J w1)
theorem eq_heap_Remove (h : Value) (i : Int) (w : World) (K : Value → World → Prop) : wpF Tryz.prog none Tryz.f69 (.two .leaf (.two .leaf (.two (.meet [] (.two .leaf (.two (.two .leaf (.two .leaf (.two .leaf .leaf))) .leaf))) (.two .leaf .leaf)))) [h, Value.int .i64 i] w K = wp_heap_Remove h i w K := by kernel_rfl
theorem ok_heap_Remove {h : Value} {i : Int} {w : World} {K : Value → World → Prop} (hwp : wp_heap_Remove h i w K) : callP Tryz.prog 69 [h, .int .i64 i] w K :=
  calls_of Tryz.func69 ((eq_heap_Remove h i w K).symm ▸ hwp)

/-- container.heap.Init -/
def wp_heap_Init (h : Value) (w : World) (K : Value → World → Prop) : Prop :=
  callI Tryz.prog none h "Len" [] w fun v w1 => ∃ n, v = .int .i64 n ∧ (2 : Int) ≠ (0 : Int) ∧ nameI (IntKind.wrap .i64 (IntKind.wrap .i64 (Int.tdiv n 2) - 1)) fun n1 => ∃ (I : Nat → Int → World → Prop), (∃ m, I m n1 w1) ∧ ∀ m n2 w2, I m n2 w2 → Sif (decide (n2 ≥ 0)) (callP Tryz.prog 74 [h, .int .i64 n2, .int .i64 n] w2 fun v1 w3 => ∃ b, v1 = .bool b ∧ nameI (IntKind.wrap .i64 (n2 - 1)) fun n3 => ∃ m', m' < m ∧ I m' n3 w3) (K (.tuple #[]) w2)
theorem eq_heap_Init (h : Value) (w : World) (K : Value → World → Prop) : wpF Tryz.prog none Tryz.f71 (.two .leaf (.two .leaf (.two (.loop [(3, .cell (.int .i64))] (.two (.two .leaf (.two .leaf .leaf)) (.two (.two .leaf .leaf) .leaf))) .leaf))) [h] w K = wp_heap_Init h w K := by kernel_rfl
theorem ok_heap_Init {h : Value} {w : World} {K : Value → World → Prop} (hwp : wp_heap_Init h w K) : callP Tryz.prog 71 [h] w K :=
  calls_of Tryz.func71 ((eq_heap_Init h w K).symm ▸ hwp)

/-- container.heap.up -/
def wp_heap_up (h : Value) (j : Int) (w : World) (K : Value → World → Prop) : Prop :=
  ∃ (I : Nat → Int → World → Prop), (∃ m, I m j w) ∧ ∀ m n w1, I m n w1 → (2 : Int) ≠ (0 : Int) ∧ nameI (IntKind.wrap .i64 (Int.tdiv (IntKind.wrap .i64 (n - 1)) 2)) fun n1 => ∃ (J : World → Prop), (∀ w2, J w2 → callI Tryz.prog none h "Swap" [.int .i64 n1, .int .i64 n] w2 fun v w3 => v = .tuple #[] ∧ ∃ m', m' < m ∧ I m' n1 w3) ∧ Sif (!n1 == n) (callI Tryz.prog none h "Less" [.int .i64 n, .int .i64 n1] w1 fun v w2 => ∃ b, v = .bool b ∧ Sif (!b) (K (.tuple #[]) w2) (J w2)) (K (.tuple #[]) w1)
theorem eq_heap_up (h : Value) (j : Int) (w : World) (K : Value → World → Prop) : wpF Tryz.prog none Tryz.f73 (.two (.loop [(1, .cell (.int .i64))] (.two (.two .leaf (.two (.meet [] (.two .leaf (.two .leaf .leaf))) (.two .leaf .leaf))) .leaf)) .leaf) [h, Value.int .i64 j] w K = wp_heap_up h j w K := by kernel_rfl
theorem ok_heap_up {h : Value} {j : Int} {w : World} {K : Value → World → Prop} (hwp : wp_heap_up h j w K) : callP Tryz.prog 73 [h, .int .i64 j] w K :=
  calls_of Tryz.func73 ((eq_heap_up h j w K).symm ▸ hwp)

/-- container.heap.down -/
def wp_heap_down (h : Value) (i0 n : Int) (w : World) (K : Value → World → Prop) : Prop :=
  ∃ (J : Int → World → Prop), (∀ n1 w1, J n1 w1 → K (.bool (decide (n1 > i0))) w1) ∧ ∃ (I : Nat → Int → World → Prop), (∃ m, I m i0 w) ∧ ∀ m n1 w1, I m n1 w1 → nameI (IntKind.wrap .i64 (IntKind.wrap .i64 (2 * n1) + 1)) fun n2 => ∃ (J1 : World → Prop), (∀ w2, J1 w2 → ∃ (J2 : Int → World → Prop), (∀ n3 w3, J2 n3 w3 → callI Tryz.prog none h "Less" [.int .i64 n3, .int .i64 n1] w3 fun v w4 => ∃ b, v = .bool b ∧ Sif (!b) (J n1 w4) (callI Tryz.prog none h "Swap" [.int .i64 n1, .int .i64 n3] w4 fun v1 w5 => v1 = .tuple #[] ∧ ∃ m', m' < m ∧ I m' n3 w5)) ∧ nameI (IntKind.wrap .i64 (n2 + 1)) fun n3 => Sif (decide (n3 < n)) (callI Tryz.prog none h "Less" [.int .i64 n3, .int .i64 n2] w2 fun v w3 => ∃ b, v = .bool b ∧ Sif b (J2 n3 w3) (J2 n2 w3)) (J2 n2 w2)) ∧ Sif (!decide (n2 ≥ n)) (Sif (decide (n2 < 0)) (J n1 w1) (J1 w1)) (J n1 w1)
theorem eq_heap_down (h : Value) (i0 n : Int) (w : World) (K : Value → World → Prop) : wpF Tryz.prog none Tryz.f74 (.two .leaf (.two .leaf (.two (.meet [(7, .cell (.int .i64))] (.two (.loop [(7, .cell (.int .i64))] (.two (.two .leaf (.two (.meet [] (.two .leaf (.two .leaf .leaf))) (.two .leaf (.two (.meet [(9, .cell (.int .i64))] (.two .leaf (.two .leaf (.two .leaf .leaf)))) (.two (.two .leaf (.two .leaf .leaf)) (.two .leaf .leaf)))))) .leaf)) .leaf)) (.two .leaf .leaf)))) [h, Value.int .i64 i0, Value.int .i64 n] w K = wp_heap_down h i0 n w K := by kernel_rfl
theorem ok_heap_down {h : Value} {i0 n : Int} {w : World} {K : Value → World → Prop} (hwp : wp_heap_down h i0 n w K) : callP Tryz.prog 74 [h, .int .i64 i0, .int .i64 n] w K :=
  calls_of Tryz.func74 ((eq_heap_down h i0 n w K).symm ▸ hwp)

/-- (longshore.queue.free).Len -/
def wp_queue_free_Len (f : Option Addr) (fn fc : Nat) (w : World) (K : Value → World → Prop) : Prop :=
  K (.int .i64 (↑fn : Int)) w
theorem eq_queue_free_Len (f : Option Addr) (fn fc : Nat) (w : World) (K : Value → World → Prop) : wpF Tryz.prog none Tryz.f146 (.two .leaf (.two .leaf .leaf)) [Value.slice f fn fc] w K = wp_queue_free_Len f fn fc w K := by kernel_rfl
theorem ok_queue_free_Len {f : Option Addr} {fn fc : Nat} {w : World} {K : Value → World → Prop} (hwp : wp_queue_free_Len f fn fc w K) : callP Tryz.prog 146 [.slice f fn fc] w K :=
  calls_of Tryz.func146 ((eq_queue_free_Len f fn fc w K).symm ▸ hwp)

/-- (longshore.queue.free).Less -/
def wp_queue_free_Less (f : Option Addr) (fn fc : Nat) (i j : Int) (w : World) (K : Value → World → Prop) : Prop :=
  0 ≤ i ∧ i < (↑fn : Int) ∧ nn f fun a => 0 ≤ j ∧ j < (↑fn : Int) ∧ nn f fun a1 => ∃ n, w.drew.cell? (Addr.add (a.add (Int.toNat i * 7)) 0) = some (.int .i64 n) ∧ ∃ n1, w.drew.cell? (Addr.add (a.add (Int.toNat i * 7)) 1) = some (.int .i64 n1) ∧ ∃ n2, w.drew.cell? (Addr.add (a.add (Int.toNat i * 7)) 2) = some (.int .i64 n2) ∧ ∃ b, w.drew.cell? (Addr.add (a.add (Int.toNat i * 7)) 3) = some (.bool b) ∧ ∃ n3, w.drew.cell? (Addr.add (a.add (Int.toNat i * 7)) 4) = some (.int .i64 n3) ∧ ∃ n4, w.drew.cell? (Addr.add (a.add (Int.toNat i * 7)) 5) = some (.int .i64 n4) ∧ ∃ p n5 c, w.drew.cell? (Addr.add (a.add (Int.toNat i * 7)) 6) = some (.slice p n5 c) ∧ ∃ n6, w.drew.cell? (Addr.add (a1.add (Int.toNat j * 7)) 0) = some (.int .i64 n6) ∧ ∃ n7, w.drew.cell? (Addr.add (a1.add (Int.toNat j * 7)) 1) = some (.int .i64 n7) ∧ ∃ n8, w.drew.cell? (Addr.add (a1.add (Int.toNat j * 7)) 2) = some (.int .i64 n8) ∧ ∃ b1, w.drew.cell? (Addr.add (a1.add (Int.toNat j * 7)) 3) = some (.bool b1) ∧ ∃ n9, w.drew.cell? (Addr.add (a1.add (Int.toNat j * 7)) 4) = some (.int .i64 n9) ∧ ∃ n10, w.drew.cell? (Addr.add (a1.add (Int.toNat j * 7)) 5) = some (.int .i64 n10) ∧ ∃ p1 n11 c1, w.drew.cell? (Addr.add (a1.add (Int.toNat j * 7)) 6) = some (.slice p1 n11 c1) ∧ callP Tryz.prog 29 [.agg #[.int .i64 n, .int .i64 n1, .int .i64 n2, .bool b, .int .i64 n3, .int .i64 n4, .slice p n5 c], .agg #[.int .i64 n6, .int .i64 n7, .int .i64 n8, .bool b1, .int .i64 n9, .int .i64 n10, .slice p1 n11 c1]] w.drew fun v w1 => ∃ n12, v = .int .i64 n12 ∧ K (.bool (decide (n12 < 0))) w1
theorem eq_queue_free_Less (f : Option Addr) (fn fc : Nat) (i j : Int) (w : World) (K : Value → World → Prop) : wpF Tryz.prog none Tryz.f147 (.two .leaf (.two (.draw [0, 1, 2, 4, 5, 6, 3, 7, 8, 9, 10]) .leaf)) [Value.slice f fn fc, Value.int .i64 i, Value.int .i64 j] w K = wp_queue_free_Less f fn fc i j w K := by kernel_rfl
theorem ok_queue_free_Less {f : Option Addr} {fn fc : Nat} {i j : Int} {w : World} {K : Value → World → Prop} (hwp : wp_queue_free_Less f fn fc i j w K) : callP Tryz.prog 147 [.slice f fn fc, .int .i64 i, .int .i64 j] w K :=
  calls_of Tryz.func147 ((eq_queue_free_Less f fn fc i j w K).symm ▸ hwp)

/-- (longshore.queue.free).Swap -/
def wp_queue_free_Swap (f : Option Addr) (fn fc : Nat) (i j : Int) (w : World) (K : Value → World → Prop) : Prop :=
  0 ≤ j ∧
  j < (↑fn : Int) ∧
  nn f fun a =>
  0 ≤ i ∧
  i < (↑fn : Int) ∧
  nn f fun a1 =>
  ∃ n,
  w.drew.cell? (Addr.add (a.add (Int.toNat j * 7)) 0) = some (.int .i64 n) ∧
  ∃ n1,
  w.drew.cell? (Addr.add (a.add (Int.toNat j * 7)) 1) = some (.int .i64 n1) ∧
  ∃ n2,
  w.drew.cell? (Addr.add (a.add (Int.toNat j * 7)) 2) = some (.int .i64 n2) ∧
  ∃ b,
  w.drew.cell? (Addr.add (a.add (Int.toNat j * 7)) 3) = some (.bool b) ∧
  ∃ n3,
  w.drew.cell? (Addr.add (a.add (Int.toNat j * 7)) 4) = some (.int .i64 n3) ∧
  ∃ n4,
  w.drew.cell? (Addr.add (a.add (Int.toNat j * 7)) 5) = some (.int .i64 n4) ∧
  ∃ p n5 c, w.drew.cell? (Addr.add (a.add (Int.toNat j * 7)) 6) = some (.slice p n5 c) ∧ ∃ n6, w.drew.cell? (Addr.add (a1.add (Int.toNat i * 7)) 0) = some (.int .i64 n6) ∧ ∃ n7, w.drew.cell? (Addr.add (a1.add (Int.toNat i * 7)) 1) = some (.int .i64 n7) ∧ ∃ n8, w.drew.cell? (Addr.add (a1.add (Int.toNat i * 7)) 2) = some (.int .i64 n8) ∧ ∃ b1, w.drew.cell? (Addr.add (a1.add (Int.toNat i * 7)) 3) = some (.bool b1) ∧ ∃ n9, w.drew.cell? (Addr.add (a1.add (Int.toNat i * 7)) 4) = some (.int .i64 n9) ∧ ∃ n10, w.drew.cell? (Addr.add (a1.add (Int.toNat i * 7)) 5) = some (.int .i64 n10) ∧ ∃ p1 n11 c1, w.drew.cell? (Addr.add (a1.add (Int.toNat i * 7)) 6) = some (.slice p1 n11 c1) ∧ 0 ≤ i ∧ i < (↑fn : Int) ∧ nn f fun a2 => st w.drew (Addr.add (a2.add (Int.toNat i * 7)) 0) (.int .i64 n) fun w1 => st w1 (Addr.add (a2.add (Int.toNat i * 7)) 1) (.int .i64 n1) fun w2 => st w2 (Addr.add (a2.add (Int.toNat i * 7)) 2) (.int .i64 n2) fun w3 => st w3 (Addr.add (a2.add (Int.toNat i * 7)) 3) (.bool b) fun w4 => st w4 (Addr.add (a2.add (Int.toNat i * 7)) 4) (.int .i64 n3) fun w5 => st w5 (Addr.add (a2.add (Int.toNat i * 7)) 5) (.int .i64 n4) fun w6 => st w6 (Addr.add (a2.add (Int.toNat i * 7)) 6) (.slice p n5 c) fun w7 => 0 ≤ j ∧ j < (↑fn : Int) ∧ nn f fun a3 => st w7 (Addr.add (a3.add (Int.toNat j * 7)) 0) (.int .i64 n6) fun w8 => st w8 (Addr.add (a3.add (Int.toNat j * 7)) 1) (.int .i64 n7) fun w9 => st w9 (Addr.add (a3.add (Int.toNat j * 7)) 2) (.int .i64 n8) fun w10 => st w10 (Addr.add (a3.add (Int.toNat j * 7)) 3) (.bool b1) fun w11 => st w11 (Addr.add (a3.add (Int.toNat j * 7)) 4) (.int .i64 n9) fun w12 => st w12 (Addr.add (a3.add (Int.toNat j * 7)) 5) (.int .i64 n10) fun w13 => st w13 (Addr.add (a3.add (Int.toNat j * 7)) 6) (.slice p1 n11 c1) fun w14 => K (.tuple #[]) w14
theorem eq_queue_free_Swap (f : Option Addr) (fn fc : Nat) (i j : Int) (w : World) (K : Value → World → Prop) : wpF Tryz.prog none Tryz.f148 (.draw [0, 1, 2, 3, 4, 5, 6, 8, 9, 10, 7, 11, 12, 13, 14, 15]) [Value.slice f fn fc, Value.int .i64 i, Value.int .i64 j] w K = wp_queue_free_Swap f fn fc i j w K := by kernel_rfl
theorem ok_queue_free_Swap {f : Option Addr} {fn fc : Nat} {i j : Int} {w : World} {K : Value → World → Prop} (hwp : wp_queue_free_Swap f fn fc i j w K) : callP Tryz.prog 148 [.slice f fn fc, .int .i64 i, .int .i64 j] w K :=
  calls_of Tryz.func148 ((eq_queue_free_Swap f fn fc i j w K).symm ▸ hwp)

/-- (longshore.queue.free).Pop -/
def wp_queue_free_Pop (f : Option Addr) (w : World) (K : Value → World → Prop) : Prop :=
  nn f fun a =>
  ∃ p n c,
  w.cell? a = some (.slice p n c) ∧
  nameI (IntKind.wrap .i64 ((↑n : Int) - 1)) fun n1 =>
  0 ≤ n1 ∧
  n1 < (↑n : Int) ∧
  nn p fun a1 =>
  ∃ n2,
  w.cell? (Addr.add (a1.add (Int.toNat n1 * 7)) 0) = some (.int .i64 n2) ∧
  ∃ n3,
  w.cell? (Addr.add (a1.add (Int.toNat n1 * 7)) 1) = some (.int .i64 n3) ∧
  ∃ n4,
  w.cell? (Addr.add (a1.add (Int.toNat n1 * 7)) 2) = some (.int .i64 n4) ∧
  ∃ b,
  w.cell? (Addr.add (a1.add (Int.toNat n1 * 7)) 3) = some (.bool b) ∧
  ∃ n5,
  w.cell? (Addr.add (a1.add (Int.toNat n1 * 7)) 4) = some (.int .i64 n5) ∧
  ∃ n6,
  w.cell? (Addr.add (a1.add (Int.toNat n1 * 7)) 5) = some (.int .i64 n6) ∧
  ∃ p1 n7 c1, w.cell? (Addr.add (a1.add (Int.toNat n1 * 7)) 6) = some (.slice p1 n7 c1) ∧ newB w [.int .i64 0, .int .i64 0, .int .i64 0, .bool false, .int .i64 0, .int .i64 0, .slice none 0 0] 34 fun a2 w1 => st w1 (a2.add 0) (.int .i64 n2) fun w2 => st w2 (a2.add 1) (.int .i64 n3) fun w3 => st w3 (a2.add 2) (.int .i64 n4) fun w4 => st w4 (a2.add 3) (.bool b) fun w5 => st w5 (a2.add 4) (.int .i64 n5) fun w6 => st w6 (a2.add 5) (.int .i64 n6) fun w7 => st w7 (a2.add 6) (.slice p1 n7 c1) fun w8 => 0 ≤ n1 ∧ n1 < (↑n : Int) ∧ nn p fun a3 => st w8 (Addr.add (a3.add (Int.toNat n1 * 7)) 0) (.int .i64 0) fun w9 => st w9 (Addr.add (a3.add (Int.toNat n1 * 7)) 1) (.int .i64 0) fun w10 => st w10 (Addr.add (a3.add (Int.toNat n1 * 7)) 2) (.int .i64 0) fun w11 => st w11 (Addr.add (a3.add (Int.toNat n1 * 7)) 3) (.bool false) fun w12 => st w12 (Addr.add (a3.add (Int.toNat n1 * 7)) 4) (.int .i64 0) fun w13 => st w13 (Addr.add (a3.add (Int.toNat n1 * 7)) 5) (.int .i64 0) fun w14 => st w14 (Addr.add (a3.add (Int.toNat n1 * 7)) 6) (.slice none 0 0) fun w15 => 0 ≤ n1 ∧ n1 ≤ (↑c : Int) ∧ nn f fun a4 => st w15 (a4.add 0) (.slice p (Int.toNat n1) c) fun w16 => ∃ n8, w16.cell? (a2.add 0) = some (.int .i64 n8) ∧ ∃ n9, w16.cell? (a2.add 1) = some (.int .i64 n9) ∧ ∃ n10, w16.cell? (a2.add 2) = some (.int .i64 n10) ∧ ∃ b1, w16.cell? (a2.add 3) = some (.bool b1) ∧ ∃ n11, w16.cell? (a2.add 4) = some (.int .i64 n11) ∧ ∃ n12, w16.cell? (a2.add 5) = some (.int .i64 n12) ∧ ∃ p2 n13 c2, w16.cell? (a2.add 6) = some (.slice p2 n13 c2) ∧ K (.iface 34 (.agg #[.int .i64 n8, .int .i64 n9, .int .i64 n10, .bool b1, .int .i64 n11, .int .i64 n12, .slice p2 n13 c2])) w16
theorem eq_queue_free_Pop (f : Option Addr) (w : World) (K : Value → World → Prop) : wpF Tryz.prog none Tryz.f149 (.two .leaf (.two .leaf (.two .leaf (.two .leaf (.two .leaf (.two .leaf (.two .leaf .leaf))))))) [Value.pointer f] w K = wp_queue_free_Pop f w K := by kernel_rfl
theorem ok_queue_free_Pop {f : Option Addr} {w : World} {K : Value → World → Prop} (hwp : wp_queue_free_Pop f w K) : callP Tryz.prog 149 [.pointer f] w K :=
  calls_of Tryz.func149 ((eq_queue_free_Pop f w K).symm ▸ hwp)

/-- (longshore.queue.free).Push -/
def wp_queue_free_Push (f : Option Addr) (x : Value) (w : World) (K : Value → World → Prop) : Prop :=
  nn f fun a => ∃ p n c, w.drew.cell? a = some (.slice p n c) ∧ ∃ n1 n2, ∃ n3 b, ∃ n4 n5, ∃ p1 n6 c1, Sem.run Tryz.prog (Instr.typeAssert x 20 34 false) w.drew = Result.ok (.agg #[.int .i64 n1, .int .i64 n2, .int .i64 n3, .bool b, .int .i64 n4, .int .i64 n5, .slice p1 n6 c1]) w.drew ∧ newB w.drew [.int .i64 n1, .int .i64 n2, .int .i64 n3, .bool b, .int .i64 n4, .int .i64 n5, .slice p1 n6 c1] 34 fun a1 w1 => (∃ p2 n7 c2, w1.cell? a = some (.slice p2 n7 c2) ∧ Value.slice p2 n7 c2 = .slice p n c) ∧ ∃ p2 n7, ∃ c2 w2, Sem.run Tryz.prog (Builtin.append_ #[64, 64] 64 #[.slice p n c, .slice (some a1) 1 1]) w1 = Result.ok (.slice p2 n7 c2) w2 ∧ nn f fun a2 => st w2 (a2.add 0) (.slice p2 n7 c2) fun w3 => K (.tuple #[]) w3
theorem eq_queue_free_Push (f : Option Addr) (x : Value) (w : World) (K : Value → World → Prop) : wpF Tryz.prog none Tryz.f150 (.draw [0, 1, 2, 4, 3, 5, 6, 7, 8, 9]) [Value.pointer f, x] w K = wp_queue_free_Push f x w K := by kernel_rfl
theorem ok_queue_free_Push {f : Option Addr} {x : Value} {w : World} {K : Value → World → Prop} (hwp : wp_queue_free_Push f x w K) : callP Tryz.prog 150 [.pointer f, x] w K :=
  calls_of Tryz.func150 ((eq_queue_free_Push f x w K).symm ▸ hwp)

/-- longshore.queue.order -/
def wp_queue_order (a_0 a_1 a_2 : Int) (a_3 : Bool) (a_4 a_5 : Int) (a_6 : Option Addr) (a_6n a_6c : Nat) (b_0 b_1 b_2 : Int) (b_3 : Bool) (b_4 b_5 : Int) (b_6 : Option Addr) (b_6n b_6c : Nat) (w : World) (K : Value → World → Prop) : Prop :=
  newB w [.int .i64 a_0, .int .i64 a_1, .int .i64 a_2, .bool a_3, .int .i64 a_4, .int .i64 a_5, .slice a_6 a_6n a_6c] 34 fun a w1 => newB w1 [.int .i64 b_0, .int .i64 b_1, .int .i64 b_2, .bool b_3, .int .i64 b_4, .int .i64 b_5, .slice b_6 b_6n b_6c] 34 fun a1 w2 => ∃ n, w2.drew.cell? (a1.add 1) = some (.int .i64 n) ∧ ∃ n1, w2.drew.cell? (a.add 1) = some (.int .i64 n1) ∧ ∃ n2, w2.drew.cell? (a.add 0) = some (.int .i64 n2) ∧ ∃ n3, w2.drew.cell? (a1.add 0) = some (.int .i64 n3) ∧ callP Tryz.prog 57 [.int .i64 n, .int .i64 n1] w2.drew fun v w3 => ∃ n4, v = .int .i64 n4 ∧ (∃ n5, w3.cell? (a1.add 0) = some (.int .i64 n5) ∧ Value.int .i64 n5 = .int .i64 n3) ∧ (∃ n5, w3.cell? (a.add 0) = some (.int .i64 n5) ∧ Value.int .i64 n5 = .int .i64 n2) ∧ callP Tryz.prog 57 [.int .i64 n2, .int .i64 n3] w3 fun v1 w4 => ∃ n5, v1 = .int .i64 n5 ∧ newB w4 [.int .i64 n4, .int .i64 n5] 3 fun a2 w5 => callP Tryz.prog 56 [.slice (some a2) 2 2] w5 fun v2 w6 => ∃ n6, v2 = .int .i64 n6 ∧ K (.int .i64 n6) w6
theorem eq_queue_order (a_0 a_1 a_2 : Int) (a_3 : Bool) (a_4 a_5 : Int) (a_6 : Option Addr) (a_6n a_6c : Nat) (b_0 b_1 b_2 : Int) (b_3 : Bool) (b_4 b_5 : Int) (b_6 : Option Addr) (b_6n b_6c : Nat) (w : World) (K : Value → World → Prop) : wpF Tryz.prog none Tryz.f29 (.two .leaf (.two (.draw [0, 2, 5, 7, 1, 3, 6, 8, 4, 9, 10, 11, 12]) .leaf)) [Value.agg #[Value.int .i64 a_0, Value.int .i64 a_1, Value.int .i64 a_2, Value.bool a_3, Value.int .i64 a_4, Value.int .i64 a_5, Value.slice a_6 a_6n a_6c], Value.agg #[Value.int .i64 b_0, Value.int .i64 b_1, Value.int .i64 b_2, Value.bool b_3, Value.int .i64 b_4, Value.int .i64 b_5, Value.slice b_6 b_6n b_6c]] w K = wp_queue_order a_0 a_1 a_2 a_3 a_4 a_5 a_6 a_6n a_6c b_0 b_1 b_2 b_3 b_4 b_5 b_6 b_6n b_6c w K := by kernel_rfl
theorem ok_queue_order {a_0 a_1 a_2 : Int} {a_3 : Bool} {a_4 a_5 : Int} {a_6 : Option Addr} {a_6n a_6c : Nat} {b_0 b_1 b_2 : Int} {b_3 : Bool} {b_4 b_5 : Int} {b_6 : Option Addr} {b_6n b_6c : Nat} {w : World} {K : Value → World → Prop} (hwp : wp_queue_order a_0 a_1 a_2 a_3 a_4 a_5 a_6 a_6n a_6c b_0 b_1 b_2 b_3 b_4 b_5 b_6 b_6n b_6c w K) : callP Tryz.prog 29 [.agg #[.int .i64 a_0, .int .i64 a_1, .int .i64 a_2, .bool a_3, .int .i64 a_4, .int .i64 a_5, .slice a_6 a_6n a_6c], .agg #[.int .i64 b_0, .int .i64 b_1, .int .i64 b_2, .bool b_3, .int .i64 b_4, .int .i64 b_5, .slice b_6 b_6n b_6c]] w K :=
  calls_of Tryz.func29 ((eq_queue_order a_0 a_1 a_2 a_3 a_4 a_5 a_6 a_6n a_6c b_0 b_1 b_2 b_3 b_4 b_5 b_6 b_6n b_6c w K).symm ▸ hwp)

/-- cmp.Or[int] -/
def wp_cmp_Or (vals : Option Addr) (valsn valsc : Nat) (w : World) (K : Value → World → Prop) : Prop :=
  ∃ (I : Nat → Int → World → Prop), (∃ m, I m 0 w) ∧ ∀ m n w1, I m n w1 → Sif (decide (n < (↑valsn : Int))) (0 ≤ n ∧ n < (↑valsn : Int) ∧ nn vals fun a => ∃ n1, w1.cell? (a.add (Int.toNat n * 1)) = some (.int .i64 n1) ∧ Sif (n1 != 0) (K (.int .i64 n1) w1) (∃ m', m' < m ∧ I m' (IntKind.wrap .i64 (n + 1)) w1)) (K (.int .i64 0) w1)
theorem eq_cmp_Or (vals : Option Addr) (valsn valsc : Nat) (w : World) (K : Value → World → Prop) : wpF Tryz.prog none Tryz.f56 (.two .leaf (.two .leaf (.two (.two .leaf (.two (.loop [(8, .cell (.int .i64))] (.two .leaf (.two (.two .leaf .leaf) (.two (.two (.two .leaf (.two .leaf (.two (.two .leaf .leaf) .leaf))) .leaf) .leaf)))) .leaf)) (.two .leaf .leaf)))) [Value.slice vals valsn valsc] w K = wp_cmp_Or vals valsn valsc w K := by kernel_rfl
theorem ok_cmp_Or {vals : Option Addr} {valsn valsc : Nat} {w : World} {K : Value → World → Prop} (hwp : wp_cmp_Or vals valsn valsc w K) : callP Tryz.prog 56 [.slice vals valsn valsc] w K :=
  calls_of Tryz.func56 ((eq_cmp_Or vals valsn valsc w K).symm ▸ hwp)

/-- cmp.Compare[int] -/
def wp_cmp_Compare (x y : Int) (w : World) (K : Value → World → Prop) : Prop :=
  callP Tryz.prog 92 [.int .i64 x] w fun v w1 => ∃ b, v = .bool b ∧ callP Tryz.prog 92 [.int .i64 y] w1 fun v1 w2 => ∃ b1, v1 = .bool b1 ∧ Sif b (Sif b1 (K (.int .i64 0) w2) (K (.int .i64 (-1)) w2)) (Sif b1 (K (.int .i64 1) w2) (Sif (decide (x < y)) (K (.int .i64 (-1)) w2) (Sif (decide (x > y)) (K (.int .i64 1) w2) (K (.int .i64 0) w2))))
theorem eq_cmp_Compare (x y : Int) (w : World) (K : Value → World → Prop) : wpF Tryz.prog none Tryz.f57 (.two .leaf (.two .leaf (.two .leaf (.two (.two .leaf (.two (.two (.two .leaf (.two (.two .leaf .leaf) .leaf)) (.two .leaf .leaf)) .leaf)) (.two (.two .leaf (.two (.two .leaf .leaf) .leaf)) (.two (.two .leaf (.two (.two .leaf .leaf) .leaf)) (.two (.two .leaf (.two (.two .leaf .leaf) .leaf)) (.two .leaf .leaf)))))))) [Value.int .i64 x, Value.int .i64 y] w K = wp_cmp_Compare x y w K := by kernel_rfl
theorem ok_cmp_Compare {x y : Int} {w : World} {K : Value → World → Prop} (hwp : wp_cmp_Compare x y w K) : callP Tryz.prog 57 [.int .i64 x, .int .i64 y] w K :=
  calls_of Tryz.func57 ((eq_cmp_Compare x y w K).symm ▸ hwp)

/-- cmp.isNaN[int] -/
def wp_cmp_isNaN (x : Int) (w : World) (K : Value → World → Prop) : Prop :=
  K (.bool (x != x)) w
theorem eq_cmp_isNaN (x : Int) (w : World) (K : Value → World → Prop) : wpF Tryz.prog none Tryz.f92 (.two .leaf (.two .leaf .leaf)) [Value.int .i64 x] w K = wp_cmp_isNaN x w K := by kernel_rfl
theorem ok_cmp_isNaN {x : Int} {w : World} {K : Value → World → Prop} (hwp : wp_cmp_isNaN x w K) : callP Tryz.prog 92 [.int .i64 x] w K :=
  calls_of Tryz.func92 ((eq_cmp_isNaN x w K).symm ▸ hwp)

end Go.Proofs.YtipbbjnmpnfhpaaGreatDoor
