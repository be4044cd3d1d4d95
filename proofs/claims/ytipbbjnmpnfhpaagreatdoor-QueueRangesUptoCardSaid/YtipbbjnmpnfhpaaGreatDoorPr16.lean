/-
  What a call of each function comes to (definitions 'wp_..', reckoned by a program out of the model's code), and that it is sound ('ok_..'). Written by program (sv.py).
-/
import Derived.Test.YtipbbjnmpnfhpaaGreatDoorPr15
import Derived.Test.YtipbbjnmpnfhpaaGreatDoorProg
import Derived.KernelRfl
namespace Go.Proofs.YtipbbjnmpnfhpaaGreatDoor
open Go Go.Sv
set_option linter.unusedVariables false
set_option maxRecDepth 100000

/-- (longshore.longshoreref03.ByteBook).Take -/
def wp_longshoreref03_ByteBook_Take (b l : Option Addr) (ln lc : Nat) (w : World) (K : Value → World → Prop) : Prop :=
  nn b fun a => ∃ p n c, w.cell? (a.add 0) = some (.slice p n c) ∧ newB w [.slice l ln lc] 32 fun a1 w1 => ∃ p1 n1, ∃ c1 w2, Sem.run Tryz.prog (Builtin.append_ #[84, 84] 84 #[.slice p n c, .slice (some a1) 1 1]) w1 = Result.ok (.slice p1 n1 c1) w2 ∧ nn b fun a2 => st w2 ((a2.add 0).add 0) (.slice p1 n1 c1) fun w3 => K (.tuple #[]) w3
theorem eq_longshoreref03_ByteBook_Take (b l : Option Addr) (ln lc : Nat) (w : World) (K : Value → World → Prop) : wpF Tryz.prog none Tryz.f43 .leaf [Value.pointer b, Value.slice l ln lc] w K = wp_longshoreref03_ByteBook_Take b l ln lc w K := by kernel_rfl
theorem ok_longshoreref03_ByteBook_Take {b l : Option Addr} {ln lc : Nat} {w : World} {K : Value → World → Prop} (hwp : wp_longshoreref03_ByteBook_Take b l ln lc w K) : callP Tryz.prog 43 [.pointer b, .slice l ln lc] w K :=
  calls_of Tryz.func43 ((eq_longshoreref03_ByteBook_Take b l ln lc w K).symm ▸ hwp)

/-- (longshore.longshoreref03.ByteBook).Owned -/
def wp_longshoreref03_ByteBook_Owned (b : Option Addr) (w : World) (K : Value → World → Prop) : Prop :=
  ∃ (I : Nat → Int → World → Prop),
  (∃ m, I m 0 w) ∧
  ∀ m n w1, I m n w1 →
  nn b fun a =>
  ∃ p n1 c,
  w1.cell? (a.add 0) = some (.slice p n1 c) ∧
  Sif (decide (n < (↑n1 : Int))) (nn b fun a1 => ∃ p1 n2 c1, w1.cell? (a1.add 0) = some (.slice p1 n2 c1) ∧ 0 ≤ n ∧ n < (↑n2 : Int) ∧ nn p1 fun a2 => ∃ p2 n3 c2, w1.cell? (a2.add (Int.toNat n * 1)) = some (.slice p2 n3 c2) ∧ ∃ (I1 : Nat → Int → World → Prop), (∃ m1, I1 m1 0 w1) ∧ ∀ m1 n4 w2, I1 m1 n4 w2 → Sif (decide (n4 < (↑n3 : Int))) ((251 : Int) ≠ (0 : Int) ∧ 0 ≤ n4 ∧ n4 < (↑n3 : Int) ∧ nn p2 fun a3 => st w2 (Addr.add (a3.add (Int.toNat n4 * 1)) 0) (.int .u8 (IntKind.wrap IntKind.u8 (IntKind.wrap .i64 (n + IntKind.wrap .i64 (Int.tdiv n4 251))))) fun w3 => nameI (IntKind.wrap .i64 (n4 + 1)) fun n5 => ∃ m', m' < m1 ∧ I1 m' n5 w3) (nameI (IntKind.wrap .i64 (n + 1)) fun n5 => ∃ m', m' < m ∧ I m' n5 w2))
  (∃ (I1 : Nat → Option Addr → Nat → Nat → Int → World → Prop),
  (∃ m1, I1 m1 none 0 0 0 w1) ∧
  ∀ m1 p1 n2 c1 n3 w2, I1 m1 p1 n2 c1 n3 w2 →
  nn b fun a1 =>
  ∃ p2 n4 c2,
  w2.cell? (a1.add 0) = some (.slice p2 n4 c2) ∧
  Sif (decide (n3 < (↑n4 : Int))) (nn b fun a2 => ∃ p3 n5 c3, w2.cell? (a2.add 0) = some (.slice p3 n5 c3) ∧ 0 ≤ n3 ∧ n3 < (↑n5 : Int) ∧ nn p3 fun a3 => ∃ p4 n6 c4, w2.cell? (a3.add (Int.toNat n3 * 1)) = some (.slice p4 n6 c4) ∧ ∃ (I2 : Nat → Option Addr → Nat → Nat → Option Addr → Nat → Nat → Int → World → Prop), (∃ m2, I2 m2 p1 n2 c1 p4 n6 c4 0 w2) ∧ ∀ m2 p5 n7 c5 p6 n8 c6 n9 w3, I2 m2 p5 n7 c5 p6 n8 c6 n9 w3 → Sif (decide (n9 < 20)) (∃ (J : Option Addr → Nat → Nat → Option Addr → Nat → Nat → World → Prop), (∀ p7 n10 c7 p8 n11 c8 w4, J p7 n10 c7 p8 n11 c8 w4 → nameI (IntKind.wrap .i64 (n9 + 1)) fun n12 => ∃ m', m' < m2 ∧ I2 m' p7 n10 c7 p8 n11 c8 n12 w4) ∧ (251 : Int) ≠ (0 : Int) ∧ newB w3 [.int .u8 (IntKind.wrap IntKind.u8 (IntKind.wrap .i64 (n3 + IntKind.wrap .i64 (Int.tdiv (↑n8 : Int) 251))))] 5 fun a4 w4 => ∃ p7 n10, ∃ c7 w5, Sem.run Tryz.prog (Builtin.append_ #[32, 32] 32 #[.slice p6 n8 c6, .slice (some a4) 1 1]) w4 = Result.ok (.slice p7 n10 c7) w5 ∧ Sif (!decide (n9 < 3)) (Sif (!n9 == 8) (Sif (n9 == 19) (newB w5 [.slice p7 n10 c7] 32 fun a5 w6 => ∃ p8 n11, ∃ c8 w7, Sem.run Tryz.prog (Builtin.append_ #[84, 84] 84 #[.slice p5 n7 c5, .slice (some a5) 1 1]) w6 = Result.ok (.slice p8 n11 c8) w7 ∧ J p8 n11 c8 p7 n10 c7 w7) (J p5 n7 c5 p7 n10 c7 w5)) (newB w5 [.slice p7 n10 c7] 32 fun a5 w6 => ∃ p8 n11, ∃ c8 w7, Sem.run Tryz.prog (Builtin.append_ #[84, 84] 84 #[.slice p5 n7 c5, .slice (some a5) 1 1]) w6 = Result.ok (.slice p8 n11 c8) w7 ∧ J p8 n11 c8 p7 n10 c7 w7)) (newB w5 [.slice p7 n10 c7] 32 fun a5 w6 => ∃ p8 n11, ∃ c8 w7, Sem.run Tryz.prog (Builtin.append_ #[84, 84] 84 #[.slice p5 n7 c5, .slice (some a5) 1 1]) w6 = Result.ok (.slice p8 n11 c8) w7 ∧ J p8 n11 c8 p7 n10 c7 w7)) (nameI (IntKind.wrap .i64 (n3 + 1)) fun n10 => ∃ m', m' < m1 ∧ I1 m' p5 n7 c5 n10 w3))
  (∃ (I2 : Nat → Int → World → Prop), (∃ m2, I2 m2 0 w2) ∧ ∀ m2 n5 w3, I2 m2 n5 w3 → nn b fun a2 => ∃ p3 n6 c3, w3.cell? (a2.add 0) = some (.slice p3 n6 c3) ∧ Sif (decide (n5 < (↑n6 : Int))) (nn b fun a3 => ∃ p4 n7 c4, w3.cell? (a3.add 0) = some (.slice p4 n7 c4) ∧ 0 ≤ n5 ∧ n5 < (↑n7 : Int) ∧ nn p4 fun a4 => ∃ p5 n8 c5, w3.cell? (a4.add (Int.toNat n5 * 1)) = some (.slice p5 n8 c5) ∧ callP Tryz.prog 72 [.slice p5 n8 c5, .int .i64 n5] w3 fun v w4 => ∃ b1, v = .bool b1 ∧ Sif (!b1) (K (.bool false) w4) (nameI (IntKind.wrap .i64 (n5 + 1)) fun n9 => ∃ m', m' < m2 ∧ I2 m' n9 w4)) (∃ (I3 : Nat → Int → World → Prop), (∃ m3, I3 m3 0 w3) ∧ ∀ m3 n7 w4, I3 m3 n7 w4 → Sif (decide (n7 < (↑n2 : Int))) (0 ≤ n7 ∧ n7 < (↑n2 : Int) ∧ nn p1 fun a3 => ∃ p4 n8 c4, w4.cell? (a3.add (Int.toNat n7 * 1)) = some (.slice p4 n8 c4) ∧ (5 : Int) ≠ (0 : Int) ∧ callP Tryz.prog 72 [.slice p4 n8 c4, .int .i64 (IntKind.wrap .i64 (Int.tdiv n7 5))] w4 fun v w5 => ∃ b1, v = .bool b1 ∧ Sif (!b1) (K (.bool false) w5) (nameI (IntKind.wrap .i64 (n7 + 1)) fun n9 => ∃ m', m' < m3 ∧ I3 m' n9 w5)) (K (.bool true) w4))))
theorem eq_longshoreref03_ByteBook_Owned (b : Option Addr) (w : World) (K : Value → World → Prop) : wpF Tryz.prog none Tryz.f44 (.two .leaf (.two (.two .leaf (.two (.loop [(3, .cell (.int .i64))] (.two (.two .leaf (.two .leaf .leaf)) (.two (.two (.two .leaf (.two .leaf (.two (.loop [(5, .cell (.int .i64))] (.two (.two .leaf (.two .leaf .leaf)) (.two (.two .leaf .leaf) .leaf))) .leaf))) .leaf) .leaf))) .leaf)) (.two .leaf (.two (.two .leaf (.two (.loop [(6, .cell .slice), (7, .cell (.int .i64))] (.two (.two .leaf (.two .leaf .leaf)) (.two (.two (.two .leaf (.two .leaf (.two (.loop [(6, .cell .slice), (8, .cell .slice), (9, .cell (.int .i64))] (.two (.two .leaf (.two .leaf .leaf)) (.two (.meet [(6, .cell .slice), (8, .cell .slice)] (.two (.two .leaf (.two .leaf (.two .leaf .leaf))) .leaf)) .leaf))) .leaf))) .leaf) .leaf))) .leaf)) (.two (.two .leaf (.two (.loop [(10, .cell (.int .i64))] (.two (.two .leaf (.two .leaf .leaf)) (.two (.two (.two .leaf (.two .leaf (.two (.two .leaf .leaf) .leaf))) .leaf) .leaf))) .leaf)) (.two (.two .leaf (.two (.loop [(12, .cell (.int .i64))] (.two (.two .leaf (.two .leaf .leaf)) (.two (.two (.two .leaf (.two .leaf (.two (.two .leaf .leaf) .leaf))) .leaf) .leaf))) .leaf)) (.two .leaf .leaf))))))) [Value.pointer b] w K = wp_longshoreref03_ByteBook_Owned b w K := by kernel_rfl
theorem ok_longshoreref03_ByteBook_Owned {b : Option Addr} {w : World} {K : Value → World → Prop} (hwp : wp_longshoreref03_ByteBook_Owned b w K) : callP Tryz.prog 44 [.pointer b] w K :=
  calls_of Tryz.func44 ((eq_longshoreref03_ByteBook_Owned b w K).symm ▸ hwp)

/-- longshore.longshoreref03.marked -/
def wp_longshoreref03_marked (l : Option Addr) (ln lc : Nat) (n : Int) (w : World) (K : Value → World → Prop) : Prop :=
  ∃ (I : Nat → Int → World → Prop), (∃ m, I m 0 w) ∧ ∀ m n1 w1, I m n1 w1 → Sif (decide (n1 < (↑ln : Int))) (0 ≤ n1 ∧ n1 < (↑ln : Int) ∧ nn l fun a => ∃ n2, w1.cell? (a.add (Int.toNat n1 * 1)) = some (.int .u8 n2) ∧ (251 : Int) ≠ (0 : Int) ∧ Sif (n2 != IntKind.wrap IntKind.u8 (IntKind.wrap .i64 (n + IntKind.wrap .i64 (Int.tdiv n1 251)))) (K (.bool false) w1) (nameI (IntKind.wrap .i64 (n1 + 1)) fun n3 => ∃ m', m' < m ∧ I m' n3 w1)) (K (.bool true) w1)
theorem eq_longshoreref03_marked (l : Option Addr) (ln lc : Nat) (n : Int) (w : World) (K : Value → World → Prop) : wpF Tryz.prog none Tryz.f72 (.two .leaf (.two (.two .leaf (.two (.loop [(5, .cell (.int .i64))] (.two (.two .leaf (.two .leaf .leaf)) (.two (.two (.two .leaf (.two (.two .leaf .leaf) .leaf)) .leaf) .leaf))) .leaf)) (.two .leaf .leaf))) [Value.slice l ln lc, Value.int .i64 n] w K = wp_longshoreref03_marked l ln lc n w K := by kernel_rfl
theorem ok_longshoreref03_marked {l : Option Addr} {ln lc : Nat} {n : Int} {w : World} {K : Value → World → Prop} (hwp : wp_longshoreref03_marked l ln lc n w K) : callP Tryz.prog 72 [.slice l ln lc, .int .i64 n] w K :=
  calls_of Tryz.func72 ((eq_longshoreref03_marked l ln lc n w K).symm ▸ hwp)

end Go.Proofs.YtipbbjnmpnfhpaaGreatDoor
