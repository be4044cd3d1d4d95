/-
  What a call of each function comes to (definitions 'wp_..', reckoned by a program out of the model's code), and that it is sound ('ok_..'). Written by program (sv.py).
-/
import Derived.Test.YtipbbjnmpnfhpaaGreatDoorPr13
import Derived.Test.YtipbbjnmpnfhpaaGreatDoorProg
import Derived.KernelRfl
namespace Go.Proofs.YtipbbjnmpnfhpaaGreatDoor
open Go Go.Sv
set_option linter.unusedVariables false
set_option maxRecDepth 100000

/-- slices.SortFunc[longshore.queue.free,longshore.api.Entry] -/
def wp_slices_SortFunc (x : Option Addr) (xn xc : Nat) (cmp : Value) (w : World) (K : Value → World → Prop) : Prop :=
  callP Tryz.prog 55 [.int .u64 (IntKind.wrap IntKind.u64 (↑xn : Int))] w fun v w1 => ∃ n, v = .int .i64 n ∧ callP Tryz.prog 54 [.slice x xn xc, .int .i64 0, .int .i64 (↑xn : Int), .int .i64 n, cmp] w1 fun v1 w2 => v1 = .tuple #[] ∧ K (.tuple #[]) w2
theorem eq_slices_SortFunc (x : Option Addr) (xn xc : Nat) (cmp : Value) (w : World) (K : Value → World → Prop) : wpF Tryz.prog none Tryz.f95 (.two .leaf .leaf) [Value.slice x xn xc, cmp] w K = wp_slices_SortFunc x xn xc cmp w K := by kernel_rfl
theorem ok_slices_SortFunc {x : Option Addr} {xn xc : Nat} {cmp : Value} {w : World} {K : Value → World → Prop} (hwp : wp_slices_SortFunc x xn xc cmp w K) : callP Tryz.prog 95 [.slice x xn xc, cmp] w K :=
  calls_of Tryz.func95 ((eq_slices_SortFunc x xn xc cmp w K).symm ▸ hwp)

/-- slices.pdqsortCmpFunc[longshore.api.Entry] -/
def wp_slices_pdqsortCmpFunc (data : Option Addr) (datan datac : Nat) (a b limit : Int) (cmp : Value) (w : World) (K : Value → World → Prop) : Prop :=
  ∃ (I : Nat → Int → Int → Int → Bool → Bool → World → Prop),
  (∃ m, I m a b limit true true w) ∧
  ∀ m n n1 n2 b1 b2 w1, I m n n1 n2 b1 b2 w1 →
  nameI (IntKind.wrap .i64 (n1 - n)) fun n3 =>
  Sif (decide (n3 ≤ 12)) (callP Tryz.prog 82 [.slice data datan datac, .int .i64 n, .int .i64 n1, cmp] w1 fun v w2 => v = .tuple #[] ∧ K (.tuple #[]) w2)
  (Sif (n2 == 0) (callP Tryz.prog 83 [.slice data datan datac, .int .i64 n, .int .i64 n1, cmp] w1 fun v w2 => v = .tuple #[] ∧ K (.tuple #[]) w2)
  (∃ (J : Int → World → Prop),
  (∀ n4 w2, J n4 w2 →
  callP Tryz.prog 85 [.slice data datan datac, .int .i64 n, .int .i64 n1, cmp] w2 fun v w3 =>
  ∃ n5 n6,
  v = .tuple #[.int .i64 n5, .int .i64 n6] ∧
  ∃ (J1 : Int → Int → World → Prop),
  (∀ n7 n8 w4, J1 n7 n8 w4 →
  ∃ (J2 : World → Prop),
  (∀ w5, J2 w5 →
  ∃ (J3 : Int → World → Prop),
  (∀ n9 w6, J3 n9 w6 → callP Tryz.prog 89 [.slice data datan datac, .int .i64 n9, .int .i64 n1, .int .i64 n7, cmp] w6 fun v1 w7 => ∃ n10 b3, v1 = .tuple #[.int .i64 n10, .bool b3] ∧ nameI (IntKind.wrap .i64 (n10 - n9)) fun n11 => nameI (IntKind.wrap .i64 (n1 - n10)) fun n12 => (8 : Int) ≠ (0 : Int) ∧ nameI (IntKind.wrap .i64 (Int.tdiv n3 8)) fun n13 => Sif (decide (n11 < n12)) (callP Tryz.prog 54 [.slice data datan datac, .int .i64 n9, .int .i64 n10, .int .i64 n4, cmp] w7 fun v2 w8 => v2 = .tuple #[] ∧ nameI (IntKind.wrap .i64 (n10 + 1)) fun n14 => ∃ m', m' < m ∧ I m' n14 n1 n4 (decide (n11 ≥ n13)) b3 w8) (callP Tryz.prog 54 [.slice data datan datac, .int .i64 (IntKind.wrap .i64 (n10 + 1)), .int .i64 n1, .int .i64 n4, cmp] w7 fun v2 w8 => v2 = .tuple #[] ∧ ∃ m', m' < m ∧ I m' n9 n10 n4 (decide (n12 ≥ n13)) b3 w8)) ∧
  Sif (decide (n > 0))
  (0 ≤ IntKind.wrap .i64 (n - 1) ∧
  IntKind.wrap .i64 (n - 1) < (↑datan : Int) ∧
  nn data fun a1 =>
  0 ≤ n7 ∧
  n7 < (↑datan : Int) ∧
  nn data fun a2 =>
  ∃ n9,
  w5.drew.cell? (Addr.add (Addr.add a1 (Int.toNat (IntKind.wrap .i64 (n - 1)) * 7)) 0) = some (.int .i64 n9) ∧
  ∃ n10,
  w5.drew.cell? (Addr.add (Addr.add a1 (Int.toNat (IntKind.wrap .i64 (n - 1)) * 7)) 1) = some (.int .i64 n10) ∧
  ∃ n11, w5.drew.cell? (Addr.add (Addr.add a1 (Int.toNat (IntKind.wrap .i64 (n - 1)) * 7)) 2) = some (.int .i64 n11) ∧ ∃ b3, w5.drew.cell? (Addr.add (Addr.add a1 (Int.toNat (IntKind.wrap .i64 (n - 1)) * 7)) 3) = some (.bool b3) ∧ ∃ n12, w5.drew.cell? (Addr.add (Addr.add a1 (Int.toNat (IntKind.wrap .i64 (n - 1)) * 7)) 4) = some (.int .i64 n12) ∧ ∃ n13, w5.drew.cell? (Addr.add (Addr.add a1 (Int.toNat (IntKind.wrap .i64 (n - 1)) * 7)) 5) = some (.int .i64 n13) ∧ ∃ p n14 c, w5.drew.cell? (Addr.add (Addr.add a1 (Int.toNat (IntKind.wrap .i64 (n - 1)) * 7)) 6) = some (.slice p n14 c) ∧ ∃ n15, w5.drew.cell? (Addr.add (a2.add (Int.toNat n7 * 7)) 0) = some (.int .i64 n15) ∧ ∃ n16, w5.drew.cell? (Addr.add (a2.add (Int.toNat n7 * 7)) 1) = some (.int .i64 n16) ∧ ∃ n17, w5.drew.cell? (Addr.add (a2.add (Int.toNat n7 * 7)) 2) = some (.int .i64 n17) ∧ ∃ b4, w5.drew.cell? (Addr.add (a2.add (Int.toNat n7 * 7)) 3) = some (.bool b4) ∧ ∃ n18, w5.drew.cell? (Addr.add (a2.add (Int.toNat n7 * 7)) 4) = some (.int .i64 n18) ∧ ∃ n19, w5.drew.cell? (Addr.add (a2.add (Int.toNat n7 * 7)) 5) = some (.int .i64 n19) ∧ ∃ p1 n20 c1, w5.drew.cell? (Addr.add (a2.add (Int.toNat n7 * 7)) 6) = some (.slice p1 n20 c1) ∧ callV Tryz.prog none cmp [.agg #[.int .i64 n9, .int .i64 n10, .int .i64 n11, .bool b3, .int .i64 n12, .int .i64 n13, .slice p n14 c], .agg #[.int .i64 n15, .int .i64 n16, .int .i64 n17, .bool b4, .int .i64 n18, .int .i64 n19, .slice p1 n20 c1]] w5.drew fun v1 w6 => ∃ n21, v1 = .int .i64 n21 ∧ Sif (!decide (n21 < 0)) (callP Tryz.prog 88 [.slice data datan datac, .int .i64 n, .int .i64 n1, .int .i64 n7, cmp] w6 fun v2 w7 => ∃ n22, v2 = .int .i64 n22 ∧ ∃ m', m' < m ∧ I m' n22 n1 n4 b1 b2 w7) (J3 n w6))
  (J3 n w5.drew)) ∧
  Sif b1 (Sif b2 (Sif (n8 == 1) (callP Tryz.prog 87 [.slice data datan datac, .int .i64 n, .int .i64 n1, cmp] w4 fun v1 w5 => ∃ b3, v1 = .bool b3 ∧ Sif b3 (K (.tuple #[]) w5) (J2 w5)) (J2 w4)) (J2 w4)) (J2 w4)) ∧
  Sif (n6 == 2) (callP Tryz.prog 86 [.slice data datan datac, .int .i64 n, .int .i64 n1, cmp] w3 fun v1 w4 => v1 = .tuple #[] ∧ nameI (IntKind.wrap .i64 (IntKind.wrap .i64 (n1 - 1) - IntKind.wrap .i64 (n5 - n))) fun n7 => J1 n7 1 w4) (J1 n5 n6 w3)) ∧
  Sif (!b1) (callP Tryz.prog 84 [.slice data datan datac, .int .i64 n, .int .i64 n1, cmp] w1 fun v w2 => v = .tuple #[] ∧ nameI (IntKind.wrap .i64 (n2 - 1)) fun n4 => J n4 w2) (J n2 w1)))
theorem eq_slices_pdqsortCmpFunc (data : Option Addr) (datan datac : Nat) (a b limit : Int) (cmp : Value) (w : World) (K : Value → World → Prop) : wpF Tryz.prog none Tryz.f54 (.two .leaf (.two .leaf (.two (.loop [(1, .cell (.int .i64)), (2, .cell (.int .i64)), (3, .cell (.int .i64)), (10, .cell .bool), (11, .cell .bool)] (.two (.two .leaf (.two (.two .leaf (.two (.two .leaf .leaf) .leaf)) (.two (.two .leaf (.two (.two .leaf .leaf) .leaf)) (.two (.meet [(3, .cell (.int .i64))] (.two .leaf (.two (.two .leaf .leaf) .leaf))) (.two .leaf (.two (.meet [(13, .cell (.int .i64)), (14, .cell (.int .i64))] (.two .leaf (.two (.two .leaf (.two .leaf .leaf)) .leaf))) (.two (.meet [] (.two .leaf (.two (.two .leaf (.two .leaf .leaf)) .leaf))) (.two (.meet [(1, .cell (.int .i64))] (.two (.draw [0, 1, 2, 3, 4, 5, 6, 7, 9, 10, 11, 8, 12, 13, 14, 15, 16]) (.two (.two .leaf (.two .leaf .leaf)) .leaf))) (.two .leaf (.two .leaf (.two .leaf (.two .leaf (.two .leaf (.two (.two .leaf (.two .leaf .leaf)) (.two .leaf (.two .leaf .leaf)))))))))))))))) .leaf)) .leaf))) [Value.slice data datan datac, Value.int .i64 a, Value.int .i64 b, Value.int .i64 limit, cmp] w K = wp_slices_pdqsortCmpFunc data datan datac a b limit cmp w K := by kernel_rfl
theorem ok_slices_pdqsortCmpFunc {data : Option Addr} {datan datac : Nat} {a b limit : Int} {cmp : Value} {w : World} {K : Value → World → Prop} (hwp : wp_slices_pdqsortCmpFunc data datan datac a b limit cmp w K) : callP Tryz.prog 54 [.slice data datan datac, .int .i64 a, .int .i64 b, .int .i64 limit, cmp] w K :=
  calls_of Tryz.func54 ((eq_slices_pdqsortCmpFunc data datan datac a b limit cmp w K).symm ▸ hwp)

/-- slices.insertionSortCmpFunc[longshore.api.Entry] -/
def wp_slices_insertionSortCmpFunc (data : Option Addr) (datan datac : Nat) (a b : Int) (cmp : Value) (w : World) (K : Value → World → Prop) : Prop :=
  nameI (IntKind.wrap .i64 (a + 1)) fun n =>
  ∃ (I : Nat → Int → World → Prop),
  (∃ m, I m n w) ∧
  ∀ m n1 w1, I m n1 w1 →
  Sif (decide (n1 < b))
  (∃ (I1 : Nat → Int → World → Prop),
  (∃ m1, I1 m1 n1 w1) ∧
  ∀ m1 n2 w2, I1 m1 n2 w2 →
  ∃ (J : World → Prop),
  (∀ w3, J w3 →
  0 ≤ IntKind.wrap .i64 (n2 - 1) ∧
  IntKind.wrap .i64 (n2 - 1) < (↑datan : Int) ∧
  nn data fun a1 =>
  0 ≤ n2 ∧
  n2 < (↑datan : Int) ∧
  nn data fun a2 =>
  ∃ n3,
  w3.drew.cell? (Addr.add (Addr.add a1 (Int.toNat (IntKind.wrap .i64 (n2 - 1)) * 7)) 0) = some (.int .i64 n3) ∧
  ∃ n4,
  w3.drew.cell? (Addr.add (Addr.add a1 (Int.toNat (IntKind.wrap .i64 (n2 - 1)) * 7)) 1) = some (.int .i64 n4) ∧
  ∃ n5,
  w3.drew.cell? (Addr.add (Addr.add a1 (Int.toNat (IntKind.wrap .i64 (n2 - 1)) * 7)) 2) = some (.int .i64 n5) ∧
  ∃ b1,
  w3.drew.cell? (Addr.add (Addr.add a1 (Int.toNat (IntKind.wrap .i64 (n2 - 1)) * 7)) 3) = some (.bool b1) ∧
  ∃ n6,
  w3.drew.cell? (Addr.add (Addr.add a1 (Int.toNat (IntKind.wrap .i64 (n2 - 1)) * 7)) 4) = some (.int .i64 n6) ∧
  ∃ n7,
  w3.drew.cell? (Addr.add (Addr.add a1 (Int.toNat (IntKind.wrap .i64 (n2 - 1)) * 7)) 5) = some (.int .i64 n7) ∧
  ∃ p n8 c,
  w3.drew.cell? (Addr.add (Addr.add a1 (Int.toNat (IntKind.wrap .i64 (n2 - 1)) * 7)) 6) = some (.slice p n8 c) ∧
  ∃ n9,
  w3.drew.cell? (Addr.add (a2.add (Int.toNat n2 * 7)) 0) = some (.int .i64 n9) ∧
  ∃ n10,
  w3.drew.cell? (Addr.add (a2.add (Int.toNat n2 * 7)) 1) = some (.int .i64 n10) ∧
  ∃ n11,
  w3.drew.cell? (Addr.add (a2.add (Int.toNat n2 * 7)) 2) = some (.int .i64 n11) ∧
  ∃ b2, w3.drew.cell? (Addr.add (a2.add (Int.toNat n2 * 7)) 3) = some (.bool b2) ∧ ∃ n12, w3.drew.cell? (Addr.add (a2.add (Int.toNat n2 * 7)) 4) = some (.int .i64 n12) ∧ ∃ n13, w3.drew.cell? (Addr.add (a2.add (Int.toNat n2 * 7)) 5) = some (.int .i64 n13) ∧ ∃ p1 n14 c1, w3.drew.cell? (Addr.add (a2.add (Int.toNat n2 * 7)) 6) = some (.slice p1 n14 c1) ∧ 0 ≤ n2 ∧ n2 < (↑datan : Int) ∧ nn data fun a3 => st w3.drew (Addr.add (a3.add (Int.toNat n2 * 7)) 0) (.int .i64 n3) fun w4 => st w4 (Addr.add (a3.add (Int.toNat n2 * 7)) 1) (.int .i64 n4) fun w5 => st w5 (Addr.add (a3.add (Int.toNat n2 * 7)) 2) (.int .i64 n5) fun w6 => st w6 (Addr.add (a3.add (Int.toNat n2 * 7)) 3) (.bool b1) fun w7 => st w7 (Addr.add (a3.add (Int.toNat n2 * 7)) 4) (.int .i64 n6) fun w8 => st w8 (Addr.add (a3.add (Int.toNat n2 * 7)) 5) (.int .i64 n7) fun w9 => st w9 (Addr.add (a3.add (Int.toNat n2 * 7)) 6) (.slice p n8 c) fun w10 => 0 ≤ IntKind.wrap .i64 (n2 - 1) ∧ IntKind.wrap .i64 (n2 - 1) < (↑datan : Int) ∧ nn data fun a4 => st w10 (Addr.add (Addr.add a4 (Int.toNat (IntKind.wrap .i64 (n2 - 1)) * 7)) 0) (.int .i64 n9) fun w11 => st w11 (Addr.add (Addr.add a4 (Int.toNat (IntKind.wrap .i64 (n2 - 1)) * 7)) 1) (.int .i64 n10) fun w12 => st w12 (Addr.add (Addr.add a4 (Int.toNat (IntKind.wrap .i64 (n2 - 1)) * 7)) 2) (.int .i64 n11) fun w13 => st w13 (Addr.add (Addr.add a4 (Int.toNat (IntKind.wrap .i64 (n2 - 1)) * 7)) 3) (.bool b2) fun w14 => st w14 (Addr.add (Addr.add a4 (Int.toNat (IntKind.wrap .i64 (n2 - 1)) * 7)) 4) (.int .i64 n12) fun w15 => st w15 (Addr.add (Addr.add a4 (Int.toNat (IntKind.wrap .i64 (n2 - 1)) * 7)) 5) (.int .i64 n13) fun w16 => st w16 (Addr.add (Addr.add a4 (Int.toNat (IntKind.wrap .i64 (n2 - 1)) * 7)) 6) (.slice p1 n14 c1) fun w17 => nameI (IntKind.wrap .i64 (n2 - 1)) fun n15 => ∃ m', m' < m1 ∧ I1 m' n15 w17) ∧
  Sif (decide (n2 > a))
  (0 ≤ n2 ∧
  n2 < (↑datan : Int) ∧
  nn data fun a1 =>
  0 ≤ IntKind.wrap .i64 (n2 - 1) ∧
  IntKind.wrap .i64 (n2 - 1) < (↑datan : Int) ∧
  nn data fun a2 =>
  ∃ n3, w2.drew.cell? (Addr.add (a1.add (Int.toNat n2 * 7)) 0) = some (.int .i64 n3) ∧ ∃ n4, w2.drew.cell? (Addr.add (a1.add (Int.toNat n2 * 7)) 1) = some (.int .i64 n4) ∧ ∃ n5, w2.drew.cell? (Addr.add (a1.add (Int.toNat n2 * 7)) 2) = some (.int .i64 n5) ∧ ∃ b1, w2.drew.cell? (Addr.add (a1.add (Int.toNat n2 * 7)) 3) = some (.bool b1) ∧ ∃ n6, w2.drew.cell? (Addr.add (a1.add (Int.toNat n2 * 7)) 4) = some (.int .i64 n6) ∧ ∃ n7, w2.drew.cell? (Addr.add (a1.add (Int.toNat n2 * 7)) 5) = some (.int .i64 n7) ∧ ∃ p n8 c, w2.drew.cell? (Addr.add (a1.add (Int.toNat n2 * 7)) 6) = some (.slice p n8 c) ∧ ∃ n9, w2.drew.cell? (Addr.add (Addr.add a2 (Int.toNat (IntKind.wrap .i64 (n2 - 1)) * 7)) 0) = some (.int .i64 n9) ∧ ∃ n10, w2.drew.cell? (Addr.add (Addr.add a2 (Int.toNat (IntKind.wrap .i64 (n2 - 1)) * 7)) 1) = some (.int .i64 n10) ∧ ∃ n11, w2.drew.cell? (Addr.add (Addr.add a2 (Int.toNat (IntKind.wrap .i64 (n2 - 1)) * 7)) 2) = some (.int .i64 n11) ∧ ∃ b2, w2.drew.cell? (Addr.add (Addr.add a2 (Int.toNat (IntKind.wrap .i64 (n2 - 1)) * 7)) 3) = some (.bool b2) ∧ ∃ n12, w2.drew.cell? (Addr.add (Addr.add a2 (Int.toNat (IntKind.wrap .i64 (n2 - 1)) * 7)) 4) = some (.int .i64 n12) ∧ ∃ n13, w2.drew.cell? (Addr.add (Addr.add a2 (Int.toNat (IntKind.wrap .i64 (n2 - 1)) * 7)) 5) = some (.int .i64 n13) ∧ ∃ p1 n14 c1, w2.drew.cell? (Addr.add (Addr.add a2 (Int.toNat (IntKind.wrap .i64 (n2 - 1)) * 7)) 6) = some (.slice p1 n14 c1) ∧ callV Tryz.prog none cmp [.agg #[.int .i64 n3, .int .i64 n4, .int .i64 n5, .bool b1, .int .i64 n6, .int .i64 n7, .slice p n8 c], .agg #[.int .i64 n9, .int .i64 n10, .int .i64 n11, .bool b2, .int .i64 n12, .int .i64 n13, .slice p1 n14 c1]] w2.drew fun v w3 => ∃ n15, v = .int .i64 n15 ∧ Sif (decide (n15 < 0)) (J w3) (nameI (IntKind.wrap .i64 (n1 + 1)) fun n16 => ∃ m', m' < m ∧ I m' n16 w3))
  (nameI (IntKind.wrap .i64 (n1 + 1)) fun n3 => ∃ m', m' < m ∧ I m' n3 w2.drew))
  (K (.tuple #[]) w1)
theorem eq_slices_insertionSortCmpFunc (data : Option Addr) (datan datac : Nat) (a b : Int) (cmp : Value) (w : World) (K : Value → World → Prop) : wpF Tryz.prog none Tryz.f82 (.two .leaf (.two (.loop [(8, .cell (.int .i64))] (.two (.two .leaf (.two .leaf .leaf)) (.two (.two (.two .leaf (.two (.loop [(9, .cell (.int .i64))] (.two (.meet [] (.two (.draw [0, 1, 2, 3, 4, 5, 6, 7, 9, 10, 11, 12, 8, 13, 14, 15, 16]) (.two .leaf .leaf))) (.two (.two (.draw [0, 1, 2, 3, 4, 5, 6, 7, 8, 10, 11, 12, 9, 13, 14, 15, 16, 17]) .leaf) .leaf))) .leaf)) .leaf) .leaf))) .leaf)) [Value.slice data datan datac, Value.int .i64 a, Value.int .i64 b, cmp] w K = wp_slices_insertionSortCmpFunc data datan datac a b cmp w K := by kernel_rfl
theorem ok_slices_insertionSortCmpFunc {data : Option Addr} {datan datac : Nat} {a b : Int} {cmp : Value} {w : World} {K : Value → World → Prop} (hwp : wp_slices_insertionSortCmpFunc data datan datac a b cmp w K) : callP Tryz.prog 82 [.slice data datan datac, .int .i64 a, .int .i64 b, cmp] w K :=
  calls_of Tryz.func82 ((eq_slices_insertionSortCmpFunc data datan datac a b cmp w K).symm ▸ hwp)

end Go.Proofs.YtipbbjnmpnfhpaaGreatDoor
