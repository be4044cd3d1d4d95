/-
  What a call of each function comes to (definitions 'wp_..', reckoned by a program out of the model's code), and that it is sound ('ok_..'). Written by program (sv.py).
-/
import Derived.Test.YtipbbjnmpnfhpaaGreatDoorPr10
import Derived.Test.YtipbbjnmpnfhpaaGreatDoorProg
import Derived.KernelRfl
namespace Go.Proofs.YtipbbjnmpnfhpaaGreatDoor
open Go Go.Sv
set_option linter.unusedVariables false
set_option maxRecDepth 100000

/-- longshore.longshoreref17.Name -/
def wp_longshoreref17_Name (s : ByteArray) (w : World) (K : Value → World → Prop) : Prop :=
  ∃ (J : World → Prop), (∀ w1, J w1 → ∃ (I : Nat → Int → World → Prop), (∃ m, I m 0 w1) ∧ ∀ m n w2, I m n w2 → Sif (decide (n < (↑(ByteArray.size s) : Int))) (∃ (J1 : World → Prop), (∀ w3, J1 w3 → nameI (IntKind.wrap .i64 (n + 1)) fun n1 => ∃ m', m' < m ∧ I m' n1 w3) ∧ 0 ≤ n ∧ n < (↑(ByteArray.size s) : Int) ∧ nameI (byteAt s (Int.toNat n)) fun n1 => ∃ (J2 : Bool → World → Prop), (∀ b w3, J2 b w3 → Sif (!b) (K (.bool false) w3) (J1 w3)) ∧ Sif (decide (n1 ≥ 97)) (Sif (!decide (n1 ≤ 122)) (Sif (decide (n1 ≥ 48)) (Sif (!decide (n1 ≤ 57)) (Sif (!n1 == 45) (Sif (!n1 == 46) (J2 (n1 == 95) w2) (J2 true w2)) (J2 true w2)) (J2 true w2)) (Sif (!n1 == 45) (Sif (!n1 == 46) (J2 (n1 == 95) w2) (J2 true w2)) (J2 true w2))) (J2 true w2)) (Sif (decide (n1 ≥ 48)) (Sif (!decide (n1 ≤ 57)) (Sif (!n1 == 45) (Sif (!n1 == 46) (J2 (n1 == 95) w2) (J2 true w2)) (J2 true w2)) (J2 true w2)) (Sif (!n1 == 45) (Sif (!n1 == 46) (J2 (n1 == 95) w2) (J2 true w2)) (J2 true w2)))) (K (.bool true) w2)) ∧ Sif (!decide ((↑(ByteArray.size s) : Int) < 1)) (Sif (decide ((↑(ByteArray.size s) : Int) > 64)) (K (.bool false) w) (J w)) (K (.bool false) w)
theorem eq_longshoreref17_Name (s : ByteArray) (w : World) (K : Value → World → Prop) : wpF Tryz.prog none Tryz.f51 (.two .leaf (.two (.meet [] (.two .leaf (.two (.two .leaf .leaf) .leaf))) (.two (.two .leaf (.two (.loop [(3, .cell (.int .i64))] (.two (.two .leaf (.two .leaf .leaf)) (.two (.meet [] (.two (.two .leaf (.two (.meet [(5, .cell .bool)] .leaf) (.two .leaf (.two (.two .leaf .leaf) .leaf)))) .leaf)) .leaf))) .leaf)) (.two .leaf .leaf)))) [Value.string s] w K = wp_longshoreref17_Name s w K := by kernel_rfl
theorem ok_longshoreref17_Name {s : ByteArray} {w : World} {K : Value → World → Prop} (hwp : wp_longshoreref17_Name s w K) : callP Tryz.prog 51 [.string s] w K :=
  calls_of Tryz.func51 ((eq_longshoreref17_Name s w K).symm ▸ hwp)

/-- longshore.longshoreref17.Config -/
def wp_longshoreref17_Config (c_0 : ByteArray) (c_1 : Int) (c_2 : ByteArray) (c_3 : Int) (c_4 : Bool) (w : World) (K : Value → World → Prop) : Prop :=
  newB w [.string c_0, .int .i64 c_1, .string c_2, .int .i64 c_3, .bool c_4] 23 fun a w1 => ∃ s, w1.cell? (a.add 0) = some (.string s) ∧ callP Tryz.prog 51 [.string s] w1 fun v w2 => ∃ b, v = .bool b ∧ ∃ s1, w2.cell? (a.add 2) = some (.string s1) ∧ callP Tryz.prog 51 [.string s1] w2 fun v1 w3 => ∃ b1, v1 = .bool b1 ∧ Sif b (∃ n, w3.cell? (a.add 1) = some (.int .i64 n) ∧ Sif (decide (n ≥ 1)) (∃ n1, w3.cell? (a.add 1) = some (.int .i64 n1) ∧ Sif (decide (n1 ≤ 4096)) (∃ s2, w3.cell? (a.add 2) = some (.string s2) ∧ Sif (!ByteArray.toList s2 == ByteArray.toList (ByteArray.mk #[])) (Sif b1 (∃ s3, w3.cell? (a.add 2) = some (.string s3) ∧ ∃ s4, w3.cell? (a.add 0) = some (.string s4) ∧ Sif (!ByteArray.toList s3 == ByteArray.toList s4) (∃ n2, w3.cell? (a.add 3) = some (.int .i64 n2) ∧ Sif (decide (n2 ≥ 0)) (∃ n3, w3.cell? (a.add 3) = some (.int .i64 n3) ∧ K (.bool (decide (n3 ≤ 4294967295))) w3) (K (.bool false) w3)) (K (.bool false) w3)) (K (.bool false) w3)) (∃ n2, w3.cell? (a.add 3) = some (.int .i64 n2) ∧ Sif (decide (n2 ≥ 0)) (∃ n3, w3.cell? (a.add 3) = some (.int .i64 n3) ∧ K (.bool (decide (n3 ≤ 4294967295))) w3) (K (.bool false) w3))) (K (.bool false) w3)) (K (.bool false) w3)) (K (.bool false) w3)
theorem eq_longshoreref17_Config (c_0 : ByteArray) (c_1 : Int) (c_2 : ByteArray) (c_3 : Int) (c_4 : Bool) (w : World) (K : Value → World → Prop) : wpF Tryz.prog none Tryz.f22 (.two .leaf (.two .leaf (.two .leaf (.two .leaf .leaf)))) [Value.agg #[Value.string c_0, Value.int .i64 c_1, Value.string c_2, Value.int .i64 c_3, Value.bool c_4]] w K = wp_longshoreref17_Config c_0 c_1 c_2 c_3 c_4 w K := by kernel_rfl
theorem ok_longshoreref17_Config {c_0 : ByteArray} {c_1 : Int} {c_2 : ByteArray} {c_3 : Int} {c_4 : Bool} {w : World} {K : Value → World → Prop} (hwp : wp_longshoreref17_Config c_0 c_1 c_2 c_3 c_4 w K) : callP Tryz.prog 22 [.agg #[.string c_0, .int .i64 c_1, .string c_2, .int .i64 c_3, .bool c_4]] w K :=
  calls_of Tryz.func22 ((eq_longshoreref17_Config c_0 c_1 c_2 c_3 c_4 w K).symm ▸ hwp)

/-- longshore.longshoreref17.Entry -/
def wp_longshoreref17_Entry (e_0 e_1 e_2 : Int) (e_3 : Bool) (e_4 e_5 : Int) (e_6 : Option Addr) (e_6n e_6c : Nat) (w : World) (K : Value → World → Prop) : Prop :=
  newB w [.int .i64 e_0, .int .i64 e_1, .int .i64 e_2, .bool e_3, .int .i64 e_4, .int .i64 e_5, .slice e_6 e_6n e_6c] 34 fun a w1 => ∃ n, w1.cell? (a.add 0) = some (.int .i64 n) ∧ Sif (decide (n ≥ 1)) (∃ n1, w1.cell? (a.add 1) = some (.int .i64 n1) ∧ Sif (decide (n1 ≥ 0)) (∃ n2, w1.cell? (a.add 1) = some (.int .i64 n2) ∧ Sif (decide (n2 ≤ 9)) (∃ n3, w1.cell? (a.add 2) = some (.int .i64 n3) ∧ Sif (!n3 == (-1)) (∃ n4, w1.cell? (a.add 2) = some (.int .i64 n4) ∧ Sif (decide (n4 ≥ 0)) (∃ n5, w1.cell? (a.add 2) = some (.int .i64 n5) ∧ Sif (decide (n5 ≤ 1125899906842624)) (∃ n6, w1.cell? (a.add 4) = some (.int .i64 n6) ∧ Sif (decide (n6 ≥ 0)) (∃ n7, w1.cell? (a.add 4) = some (.int .i64 n7) ∧ Sif (decide (n7 ≤ 4294967295)) (∃ n8, w1.cell? (a.add 5) = some (.int .i64 n8) ∧ K (.bool (n8 == 0)) w1) (K (.bool false) w1)) (K (.bool false) w1)) (K (.bool false) w1)) (K (.bool false) w1)) (∃ n4, w1.cell? (a.add 4) = some (.int .i64 n4) ∧ Sif (decide (n4 ≥ 0)) (∃ n5, w1.cell? (a.add 4) = some (.int .i64 n5) ∧ Sif (decide (n5 ≤ 4294967295)) (∃ n6, w1.cell? (a.add 5) = some (.int .i64 n6) ∧ K (.bool (n6 == 0)) w1) (K (.bool false) w1)) (K (.bool false) w1))) (K (.bool false) w1)) (K (.bool false) w1)) (K (.bool false) w1)
theorem eq_longshoreref17_Entry (e_0 e_1 e_2 : Int) (e_3 : Bool) (e_4 e_5 : Int) (e_6 : Option Addr) (e_6n e_6c : Nat) (w : World) (K : Value → World → Prop) : wpF Tryz.prog none Tryz.f52 (.two .leaf (.two .leaf .leaf)) [Value.agg #[Value.int .i64 e_0, Value.int .i64 e_1, Value.int .i64 e_2, Value.bool e_3, Value.int .i64 e_4, Value.int .i64 e_5, Value.slice e_6 e_6n e_6c]] w K = wp_longshoreref17_Entry e_0 e_1 e_2 e_3 e_4 e_5 e_6 e_6n e_6c w K := by kernel_rfl
theorem ok_longshoreref17_Entry {e_0 e_1 e_2 : Int} {e_3 : Bool} {e_4 e_5 : Int} {e_6 : Option Addr} {e_6n e_6c : Nat} {w : World} {K : Value → World → Prop} (hwp : wp_longshoreref17_Entry e_0 e_1 e_2 e_3 e_4 e_5 e_6 e_6n e_6c w K) : callP Tryz.prog 52 [.agg #[.int .i64 e_0, .int .i64 e_1, .int .i64 e_2, .bool e_3, .int .i64 e_4, .int .i64 e_5, .slice e_6 e_6n e_6c]] w K :=
  calls_of Tryz.func52 ((eq_longshoreref17_Entry e_0 e_1 e_2 e_3 e_4 e_5 e_6 e_6n e_6c w K).symm ▸ hwp)

/-- longshore.longshoreref17.New -/
def wp_longshoreref17_New (c_0 : ByteArray) (c_1 : Int) (c_2 : ByteArray) (c_3 : Int) (c_4 : Bool) (w : World) (K : Value → World → Prop) : Prop :=
  newB w [.string c_0, .int .i64 c_1, .string c_2, .int .i64 c_3, .bool c_4] 23 fun a w1 => ∃ s, w1.cell? (a.add 0) = some (.string s) ∧ ∃ n, w1.cell? (a.add 1) = some (.int .i64 n) ∧ ∃ s1, w1.cell? (a.add 2) = some (.string s1) ∧ ∃ n1, w1.cell? (a.add 3) = some (.int .i64 n1) ∧ ∃ b, w1.cell? (a.add 4) = some (.bool b) ∧ callP Tryz.prog 22 [.agg #[.string s, .int .i64 n, .string s1, .int .i64 n1, .bool b]] w1 fun v w2 => ∃ b1, v = .bool b1 ∧ Sif (!b1) (K (.pointer none) w2) (∃ s2, w2.cell? (a.add 0) = some (.string s2) ∧ ∃ n2, w2.cell? (a.add 1) = some (.int .i64 n2) ∧ ∃ s3, w2.cell? (a.add 2) = some (.string s3) ∧ ∃ n3, w2.cell? (a.add 3) = some (.int .i64 n3) ∧ ∃ b2, w2.cell? (a.add 4) = some (.bool b2) ∧ newB w2 [.string s2, .int .i64 n2, .string s3, .int .i64 n3, .bool b2, .slice none 0 0, .int .i64 0] 69 fun a1 w3 => K (.pointer (some a1)) w3)
theorem eq_longshoreref17_New (c_0 : ByteArray) (c_1 : Int) (c_2 : ByteArray) (c_3 : Int) (c_4 : Bool) (w : World) (K : Value → World → Prop) : wpF Tryz.prog none Tryz.f7 (.two .leaf (.two .leaf (.two (.two .leaf (.two (.two .leaf .leaf) .leaf)) (.two .leaf .leaf)))) [Value.agg #[Value.string c_0, Value.int .i64 c_1, Value.string c_2, Value.int .i64 c_3, Value.bool c_4]] w K = wp_longshoreref17_New c_0 c_1 c_2 c_3 c_4 w K := by kernel_rfl
theorem ok_longshoreref17_New {c_0 : ByteArray} {c_1 : Int} {c_2 : ByteArray} {c_3 : Int} {c_4 : Bool} {w : World} {K : Value → World → Prop} (hwp : wp_longshoreref17_New c_0 c_1 c_2 c_3 c_4 w K) : callP Tryz.prog 7 [.agg #[.string c_0, .int .i64 c_1, .string c_2, .int .i64 c_3, .bool c_4]] w K :=
  calls_of Tryz.func7 ((eq_longshoreref17_New c_0 c_1 c_2 c_3 c_4 w K).symm ▸ hwp)

/-- longshore.longshoreref17.among -/
def wp_longshoreref17_among (seq : Int) (fits : Option Addr) (fitsn fitsc : Nat) (w : World) (K : Value → World → Prop) : Prop :=
  ∃ (I : Nat → Int → World → Prop), (∃ m, I m 0 w) ∧ ∀ m n w1, I m n w1 → Sif (decide (n < (↑fitsn : Int))) (0 ≤ n ∧ n < (↑fitsn : Int) ∧ nn fits fun a => ∃ n1, w1.cell? (a.add (Int.toNat n * 1)) = some (.int .i64 n1) ∧ Sif (n1 == seq) (K (.bool true) w1) (nameI (IntKind.wrap .i64 (n + 1)) fun n2 => ∃ m', m' < m ∧ I m' n2 w1)) (K (.bool false) w1)
theorem eq_longshoreref17_among (seq : Int) (fits : Option Addr) (fitsn fitsc : Nat) (w : World) (K : Value → World → Prop) : wpF Tryz.prog none Tryz.f93 (.two .leaf (.two (.two .leaf (.two (.loop [(5, .cell (.int .i64))] (.two (.two .leaf (.two .leaf .leaf)) (.two (.two (.two .leaf (.two (.two .leaf .leaf) .leaf)) .leaf) .leaf))) .leaf)) (.two .leaf .leaf))) [Value.int .i64 seq, Value.slice fits fitsn fitsc] w K = wp_longshoreref17_among seq fits fitsn fitsc w K := by kernel_rfl
theorem ok_longshoreref17_among {seq : Int} {fits : Option Addr} {fitsn fitsc : Nat} {w : World} {K : Value → World → Prop} (hwp : wp_longshoreref17_among seq fits fitsn fitsc w K) : callP Tryz.prog 93 [.int .i64 seq, .slice fits fitsn fitsc] w K :=
  calls_of Tryz.func93 ((eq_longshoreref17_among seq fits fitsn fitsc w K).symm ▸ hwp)

/-- longshore.longshoreref17.ahead -/
def wp_longshoreref17_ahead (a_0 a_1 a_2 : Int) (a_3 : Bool) (a_4 a_5 : Int) (a_6 : Option Addr) (a_6n a_6c : Nat) (b_0 b_1 b_2 : Int) (b_3 : Bool) (b_4 b_5 : Int) (b_6 : Option Addr) (b_6n b_6c : Nat) (w : World) (K : Value → World → Prop) : Prop :=
  newB w [.int .i64 a_0, .int .i64 a_1, .int .i64 a_2, .bool a_3, .int .i64 a_4, .int .i64 a_5, .slice a_6 a_6n a_6c] 34 fun a w1 => newB w1 [.int .i64 b_0, .int .i64 b_1, .int .i64 b_2, .bool b_3, .int .i64 b_4, .int .i64 b_5, .slice b_6 b_6n b_6c] 34 fun a1 w2 => ∃ n, w2.cell? (a.add 1) = some (.int .i64 n) ∧ ∃ n1, w2.cell? (a1.add 1) = some (.int .i64 n1) ∧ Sif (!decide (n > n1)) (∃ n2, w2.cell? (a.add 1) = some (.int .i64 n2) ∧ ∃ n3, w2.cell? (a1.add 1) = some (.int .i64 n3) ∧ Sif (n2 == n3) (∃ n4, w2.cell? (a.add 0) = some (.int .i64 n4) ∧ ∃ n5, w2.cell? (a1.add 0) = some (.int .i64 n5) ∧ K (.bool (decide (n4 < n5))) w2) (K (.bool false) w2)) (K (.bool true) w2)
theorem eq_longshoreref17_ahead (a_0 a_1 a_2 : Int) (a_3 : Bool) (a_4 a_5 : Int) (a_6 : Option Addr) (a_6n a_6c : Nat) (b_0 b_1 b_2 : Int) (b_3 : Bool) (b_4 b_5 : Int) (b_6 : Option Addr) (b_6n b_6c : Nat) (w : World) (K : Value → World → Prop) : wpF Tryz.prog none Tryz.f58 (.two .leaf (.two .leaf .leaf)) [Value.agg #[Value.int .i64 a_0, Value.int .i64 a_1, Value.int .i64 a_2, Value.bool a_3, Value.int .i64 a_4, Value.int .i64 a_5, Value.slice a_6 a_6n a_6c], Value.agg #[Value.int .i64 b_0, Value.int .i64 b_1, Value.int .i64 b_2, Value.bool b_3, Value.int .i64 b_4, Value.int .i64 b_5, Value.slice b_6 b_6n b_6c]] w K = wp_longshoreref17_ahead a_0 a_1 a_2 a_3 a_4 a_5 a_6 a_6n a_6c b_0 b_1 b_2 b_3 b_4 b_5 b_6 b_6n b_6c w K := by kernel_rfl
theorem ok_longshoreref17_ahead {a_0 a_1 a_2 : Int} {a_3 : Bool} {a_4 a_5 : Int} {a_6 : Option Addr} {a_6n a_6c : Nat} {b_0 b_1 b_2 : Int} {b_3 : Bool} {b_4 b_5 : Int} {b_6 : Option Addr} {b_6n b_6c : Nat} {w : World} {K : Value → World → Prop} (hwp : wp_longshoreref17_ahead a_0 a_1 a_2 a_3 a_4 a_5 a_6 a_6n a_6c b_0 b_1 b_2 b_3 b_4 b_5 b_6 b_6n b_6c w K) : callP Tryz.prog 58 [.agg #[.int .i64 a_0, .int .i64 a_1, .int .i64 a_2, .bool a_3, .int .i64 a_4, .int .i64 a_5, .slice a_6 a_6n a_6c], .agg #[.int .i64 b_0, .int .i64 b_1, .int .i64 b_2, .bool b_3, .int .i64 b_4, .int .i64 b_5, .slice b_6 b_6n b_6c]] w K :=
  calls_of Tryz.func58 ((eq_longshoreref17_ahead a_0 a_1 a_2 a_3 a_4 a_5 a_6 a_6n a_6c b_0 b_1 b_2 b_3 b_4 b_5 b_6 b_6n b_6c w K).symm ▸ hwp)

/-- longshore.longshoreref17.Asked -/
def wp_longshoreref17_Asked (l : Option Addr) (ln lc : Nat) (any : Bool) (fits : Option Addr) (fitsn fitsc : Nat) (w : World) (K : Value → World → Prop) : Prop :=
  ∃ (I : Nat → Option Addr → Nat → Nat → Int → World → Prop), (∃ m, I m none 0 0 0 w) ∧ ∀ m p n c n1 w1, I m p n c n1 w1 → Sif (decide (n1 < (↑ln : Int))) (∃ (J : Option Addr → Nat → Nat → World → Prop), (∀ p1 n2 c1 w2, J p1 n2 c1 w2 → nameI (IntKind.wrap .i64 (n1 + 1)) fun n3 => ∃ m', m' < m ∧ I m' p1 n2 c1 n3 w2) ∧ 0 ≤ n1 ∧ n1 < (↑ln : Int) ∧ nn l fun a => ∃ n2, w1.cell? (Addr.add (a.add (Int.toNat n1 * 7)) 5) = some (.int .i64 n2) ∧ Sif (n2 == 0) (0 ≤ n1 ∧ n1 < (↑ln : Int) ∧ nn l fun a1 => ∃ n3, w1.cell? (Addr.add (a1.add (Int.toNat n1 * 7)) 0) = some (.int .i64 n3) ∧ callP Tryz.prog 93 [.int .i64 n3, .slice fits fitsn fitsc] w1 fun v w2 => ∃ b, v = .bool b ∧ 0 ≤ n1 ∧ n1 < (↑ln : Int) ∧ nn l fun a2 => ∃ n4, w2.cell? (Addr.add (a2.add (Int.toNat n1 * 7)) 0) = some (.int .i64 n4) ∧ newB w2 [.int .i64 n4] 3 fun a3 w3 => ∃ p1 n5, ∃ c1 w4, Sem.run Tryz.prog (Builtin.append_ #[44, 44] 44 #[.slice p n c, .slice (some a3) 1 1]) w3 = Result.ok (.slice p1 n5 c1) w4 ∧ Sif (!any) (Sif b (0 ≤ n1 ∧ n1 < (↑ln : Int) ∧ nn l fun a4 => ∃ n6, w4.drew.cell? (Addr.add (a4.add (Int.toNat n1 * 7)) 0) = some (.int .i64 n6) ∧ K (.tuple #[.slice p1 n5 c1, .int .i64 n6]) w4.drew) (J p1 n5 c1 w4)) (0 ≤ n1 ∧ n1 < (↑ln : Int) ∧ nn l fun a4 => ∃ n6, w4.drew.cell? (Addr.add (a4.add (Int.toNat n1 * 7)) 0) = some (.int .i64 n6) ∧ K (.tuple #[.slice p1 n5 c1, .int .i64 n6]) w4.drew)) (J p n c w1)) (K (.tuple #[.slice p n c, .int .i64 0]) w1)
theorem eq_longshoreref17_Asked (l : Option Addr) (ln lc : Nat) (any : Bool) (fits : Option Addr) (fitsn fitsc : Nat) (w : World) (K : Value → World → Prop) : wpF Tryz.prog none Tryz.f59 (.two .leaf (.two .leaf (.two (.two .leaf (.two (.loop [(8, .cell .slice), (9, .cell (.int .i64))] (.two (.two .leaf (.two .leaf .leaf)) (.two (.meet [(8, .cell .slice)] (.two (.two .leaf (.two (.two .leaf (.two .leaf (.two .leaf (.two (.two (.draw [0, 1, 2, 3, 4, 6, 5, 7]) .leaf) .leaf)))) .leaf)) .leaf)) .leaf))) .leaf)) (.two .leaf .leaf)))) [Value.slice l ln lc, Value.bool any, Value.slice fits fitsn fitsc] w K = wp_longshoreref17_Asked l ln lc any fits fitsn fitsc w K := by kernel_rfl
theorem ok_longshoreref17_Asked {l : Option Addr} {ln lc : Nat} {any : Bool} {fits : Option Addr} {fitsn fitsc : Nat} {w : World} {K : Value → World → Prop} (hwp : wp_longshoreref17_Asked l ln lc any fits fitsn fitsc w K) : callP Tryz.prog 59 [.slice l ln lc, .bool any, .slice fits fitsn fitsc] w K :=
  calls_of Tryz.func59 ((eq_longshoreref17_Asked l ln lc any fits fitsn fitsc w K).symm ▸ hwp)

/-- (longshore.longshoreref17.Queue).Put -/
def wp_longshoreref17_Queue_Put (q : Option Addr) (e_0 e_1 e_2 : Int) (e_3 : Bool) (e_4 e_5 : Int) (e_6 : Option Addr) (e_6n e_6c : Nat) (w : World) (K : Value → World → Prop) : Prop :=
  newB w [.int .i64 e_0, .int .i64 e_1, .int .i64 e_2, .bool e_3, .int .i64 e_4, .int .i64 e_5, .slice e_6 e_6n e_6c] 34 fun a w1 =>
  ∃ n,
  w1.cell? (a.add 0) = some (.int .i64 n) ∧
  ∃ n1,
  w1.cell? (a.add 1) = some (.int .i64 n1) ∧
  ∃ n2,
  w1.cell? (a.add 2) = some (.int .i64 n2) ∧
  ∃ b,
  w1.cell? (a.add 3) = some (.bool b) ∧
  ∃ n3,
  w1.cell? (a.add 4) = some (.int .i64 n3) ∧
  ∃ n4,
  w1.cell? (a.add 5) = some (.int .i64 n4) ∧
  ∃ p n5 c,
  w1.cell? (a.add 6) = some (.slice p n5 c) ∧
  callP Tryz.prog 52 [.agg #[.int .i64 n, .int .i64 n1, .int .i64 n2, .bool b, .int .i64 n3, .int .i64 n4, .slice p n5 c]] w1 fun v w2 =>
  ∃ b1,
  v = .bool b1 ∧
  ∃ (J : World → Prop),
  (∀ w3, J w3 →
  ∃ p1 n6 c1,
  w3.cell? (a.add 6) = some (.slice p1 n6 c1) ∧
  Sif (decide ((↑n6 : Int) > 1048576)) (K (.int .i64 2) w3)
  (nn q fun a1 =>
  nn q fun a2 =>
  ∃ p2 n7 c2,
  w3.drew.cell? (a1.add 5) = some (.slice p2 n7 c2) ∧
  ∃ n8,
  w3.drew.cell? ((a2.add 0).add 1) = some (.int .i64 n8) ∧
  Sif (decide ((↑n7 : Int) ≥ n8)) (K (.int .i64 170) w3.drew)
  (∃ (I : Nat → Option Addr → Nat → Nat → Int → World → Prop),
  (∃ m, I m none 0 0 0 w3.drew) ∧
  ∀ m p3 n9 c3 n10 w4, I m p3 n9 c3 n10 w4 →
  ∃ p4 n11 c4,
  w4.cell? (a.add 6) = some (.slice p4 n11 c4) ∧
  Sif (decide (n10 < (↑n11 : Int))) (∃ p5 n12 c5, w4.cell? (a.add 6) = some (.slice p5 n12 c5) ∧ 0 ≤ n10 ∧ n10 < (↑n12 : Int) ∧ nn p5 fun a3 => ∃ n13, w4.cell? (a3.add (Int.toNat n10 * 1)) = some (.int .u8 n13) ∧ newB w4 [.int .u8 n13] 5 fun a4 w5 => ∃ p6 n14, ∃ c6 w6, Sem.run Tryz.prog (Builtin.append_ #[32, 32] 32 #[.slice p3 n9 c3, .slice (some a4) 1 1]) w5 = Result.ok (.slice p6 n14 c6) w6 ∧ nameI (IntKind.wrap .i64 (n10 + 1)) fun n15 => ∃ m', m' < m ∧ I m' p6 n14 c6 n15 w6) (st w4 ((a.add 6).add 0) (.slice p3 n9 c3) fun w5 => nn q fun a3 => ∃ p5 n12 c5, w5.drew.cell? (a3.add 5) = some (.slice p5 n12 c5) ∧ ∃ n13, w5.drew.cell? (a.add 0) = some (.int .i64 n13) ∧ ∃ n14, w5.drew.cell? (a.add 1) = some (.int .i64 n14) ∧ ∃ n15, w5.drew.cell? (a.add 2) = some (.int .i64 n15) ∧ ∃ b2, w5.drew.cell? (a.add 3) = some (.bool b2) ∧ ∃ n16, w5.drew.cell? (a.add 4) = some (.int .i64 n16) ∧ ∃ n17, w5.drew.cell? (a.add 5) = some (.int .i64 n17) ∧ ∃ p6 n18 c6, w5.drew.cell? (a.add 6) = some (.slice p6 n18 c6) ∧ newB w5.drew [.int .i64 n13, .int .i64 n14, .int .i64 n15, .bool b2, .int .i64 n16, .int .i64 n17, .slice p6 n18 c6] 34 fun a4 w6 => (∃ p7 n19 c7, w6.cell? (a3.add 5) = some (.slice p7 n19 c7) ∧ Value.slice p7 n19 c7 = .slice p5 n12 c5) ∧ ∃ p7 n19, ∃ c7 w7, Sem.run Tryz.prog (Builtin.append_ #[24, 24] 24 #[.slice p5 n12 c5, .slice (some a4) 1 1]) w6 = Result.ok (.slice p7 n19 c7) w7 ∧ nn q fun a5 => st w7 ((a5.add 5).add 0) (.slice p7 n19 c7) fun w8 => ∃ n20, w8.cell? (a.add 0) = some (.int .i64 n20) ∧ nn q fun a6 => st w8 ((a6.add 6).add 0) (.int .i64 n20) fun w9 => K (.int .i64 0) w9)))) ∧
  Sif (!!b1) (nn q fun a1 => ∃ n6, w2.drew.cell? (a.add 0) = some (.int .i64 n6) ∧ ∃ n7, w2.drew.cell? (a1.add 6) = some (.int .i64 n7) ∧ Sif (decide (n6 ≤ n7)) (K (.int .i64 171) w2.drew) (J w2.drew)) (K (.int .i64 171) w2.drew)
theorem eq_longshoreref17_Queue_Put (q : Option Addr) (e_0 e_1 e_2 : Int) (e_3 : Bool) (e_4 e_5 : Int) (e_6 : Option Addr) (e_6n e_6c : Nat) (w : World) (K : Value → World → Prop) : wpF Tryz.prog none Tryz.f23 (.two .leaf (.two .leaf (.two (.meet [] (.two (.draw [0, 1, 2, 3, 5, 6, 7, 4, 8, 9, 10]) (.two (.two .leaf .leaf) .leaf))) (.two (.two .leaf (.two (.two .leaf .leaf) .leaf)) (.two (.two (.draw [0, 1, 2, 5, 6, 7, 8, 3, 4, 9, 10]) (.two (.two .leaf .leaf) .leaf)) (.two .leaf (.two (.two .leaf (.two (.loop [(6, .cell .slice), (7, .cell (.int .i64))] (.two (.two .leaf (.two .leaf .leaf)) (.two (.two .leaf .leaf) .leaf))) .leaf)) (.two .leaf (.two (.draw [0, 1, 2, 3, 4, 5, 6, 7, 8, 9, 10]) (.two .leaf (.two .leaf .leaf))))))))))) [Value.pointer q, Value.agg #[Value.int .i64 e_0, Value.int .i64 e_1, Value.int .i64 e_2, Value.bool e_3, Value.int .i64 e_4, Value.int .i64 e_5, Value.slice e_6 e_6n e_6c]] w K = wp_longshoreref17_Queue_Put q e_0 e_1 e_2 e_3 e_4 e_5 e_6 e_6n e_6c w K := by kernel_rfl
theorem ok_longshoreref17_Queue_Put {q : Option Addr} {e_0 e_1 e_2 : Int} {e_3 : Bool} {e_4 e_5 : Int} {e_6 : Option Addr} {e_6n e_6c : Nat} {w : World} {K : Value → World → Prop} (hwp : wp_longshoreref17_Queue_Put q e_0 e_1 e_2 e_3 e_4 e_5 e_6 e_6n e_6c w K) : callP Tryz.prog 23 [.pointer q, .agg #[.int .i64 e_0, .int .i64 e_1, .int .i64 e_2, .bool e_3, .int .i64 e_4, .int .i64 e_5, .slice e_6 e_6n e_6c]] w K :=
  calls_of Tryz.func23 ((eq_longshoreref17_Queue_Put q e_0 e_1 e_2 e_3 e_4 e_5 e_6 e_6n e_6c w K).symm ▸ hwp)

/-- (longshore.longshoreref17.Queue).Ordered -/
def wp_longshoreref17_Queue_Ordered (q : Option Addr) (w : World) (K : Value → World → Prop) : Prop :=
  ∃ (I : Nat → Option Addr → Nat → Nat → Int → World → Prop),
  (∃ m, I m none 0 0 0 w) ∧
  ∀ m p n c n1 w1, I m p n c n1 w1 →
  nn q fun a =>
  ∃ p1 n2 c1,
  w1.cell? (a.add 5) = some (.slice p1 n2 c1) ∧
  Sif (decide (n1 < (↑n2 : Int)))
  (∃ (J : Int → World → Prop),
  (∀ n3 w2, J n3 w2 →
  nn q fun a1 =>
  ∃ p2 n4 c2,
  w2.cell? (a1.add 5) = some (.slice p2 n4 c2) ∧
  0 ≤ n1 ∧
  n1 < (↑n4 : Int) ∧
  nn p2 fun a2 =>
  ∃ n5,
  w2.cell? (Addr.add (a2.add (Int.toNat n1 * 7)) 0) = some (.int .i64 n5) ∧
  ∃ n6,
  w2.cell? (Addr.add (a2.add (Int.toNat n1 * 7)) 1) = some (.int .i64 n6) ∧
  ∃ n7,
  w2.cell? (Addr.add (a2.add (Int.toNat n1 * 7)) 2) = some (.int .i64 n7) ∧
  ∃ b,
  w2.cell? (Addr.add (a2.add (Int.toNat n1 * 7)) 3) = some (.bool b) ∧
  ∃ n8,
  w2.cell? (Addr.add (a2.add (Int.toNat n1 * 7)) 4) = some (.int .i64 n8) ∧
  ∃ n9,
  w2.cell? (Addr.add (a2.add (Int.toNat n1 * 7)) 5) = some (.int .i64 n9) ∧
  ∃ p3 n10 c3,
  w2.cell? (Addr.add (a2.add (Int.toNat n1 * 7)) 6) = some (.slice p3 n10 c3) ∧
  newB w2 [.int .i64 n5, .int .i64 n6, .int .i64 n7, .bool b, .int .i64 n8, .int .i64 n9, .slice p3 n10 c3] 34 fun a3 w3 =>
  ∃ p4 n11,
  ∃ c4 w4,
  Sem.run Tryz.prog (Builtin.append_ #[24, 24] 24 #[.slice p n c, .slice (some a3) 1 1]) w3 = Result.ok (.slice p4 n11 c4) w4 ∧
  nameI (IntKind.wrap .i64 ((↑n11 : Int) - 1)) fun n12 =>
  ∃ (I1 : Nat → Int → World → Prop),
  (∃ m1, I1 m1 n12 w4) ∧
  ∀ m1 n13 w5, I1 m1 n13 w5 →
  Sif (decide (n13 > n3))
  (0 ≤ IntKind.wrap .i64 (n13 - 1) ∧
  IntKind.wrap .i64 (n13 - 1) < (↑n11 : Int) ∧
  nn p4 fun a4 =>
  ∃ n14,
  w5.cell? (Addr.add (Addr.add a4 (Int.toNat (IntKind.wrap .i64 (n13 - 1)) * 7)) 0) = some (.int .i64 n14) ∧
  ∃ n15,
  w5.cell? (Addr.add (Addr.add a4 (Int.toNat (IntKind.wrap .i64 (n13 - 1)) * 7)) 1) = some (.int .i64 n15) ∧
  ∃ n16,
  w5.cell? (Addr.add (Addr.add a4 (Int.toNat (IntKind.wrap .i64 (n13 - 1)) * 7)) 2) = some (.int .i64 n16) ∧
  ∃ b1,
  w5.cell? (Addr.add (Addr.add a4 (Int.toNat (IntKind.wrap .i64 (n13 - 1)) * 7)) 3) = some (.bool b1) ∧
  ∃ n17,
  w5.cell? (Addr.add (Addr.add a4 (Int.toNat (IntKind.wrap .i64 (n13 - 1)) * 7)) 4) = some (.int .i64 n17) ∧
  ∃ n18,
  w5.cell? (Addr.add (Addr.add a4 (Int.toNat (IntKind.wrap .i64 (n13 - 1)) * 7)) 5) = some (.int .i64 n18) ∧
  ∃ p5 n19 c5,
  w5.cell? (Addr.add (Addr.add a4 (Int.toNat (IntKind.wrap .i64 (n13 - 1)) * 7)) 6) = some (.slice p5 n19 c5) ∧
  newB w5 [.int .i64 0, .int .i64 0, .int .i64 0, .bool false, .int .i64 0, .int .i64 0, .slice none 0 0] 34 fun a5 w6 =>
  st w6 (a5.add 0) (.int .i64 n14) fun w7 =>
  st w7 (a5.add 1) (.int .i64 n15) fun w8 =>
  st w8 (a5.add 2) (.int .i64 n16) fun w9 =>
  st w9 (a5.add 3) (.bool b1) fun w10 =>
  st w10 (a5.add 4) (.int .i64 n17) fun w11 =>
  st w11 (a5.add 5) (.int .i64 n18) fun w12 =>
  st w12 (a5.add 6) (.slice p5 n19 c5) fun w13 =>
  0 ≤ n13 ∧
  n13 < (↑n11 : Int) ∧
  nn p4 fun a6 =>
  ∃ n20,
  w13.cell? (Addr.add (a6.add (Int.toNat n13 * 7)) 0) = some (.int .i64 n20) ∧
  ∃ n21,
  w13.cell? (Addr.add (a6.add (Int.toNat n13 * 7)) 1) = some (.int .i64 n21) ∧
  ∃ n22,
  w13.cell? (Addr.add (a6.add (Int.toNat n13 * 7)) 2) = some (.int .i64 n22) ∧
  ∃ b2,
  w13.cell? (Addr.add (a6.add (Int.toNat n13 * 7)) 3) = some (.bool b2) ∧
  ∃ n23,
  w13.cell? (Addr.add (a6.add (Int.toNat n13 * 7)) 4) = some (.int .i64 n23) ∧
  ∃ n24,
  w13.cell? (Addr.add (a6.add (Int.toNat n13 * 7)) 5) = some (.int .i64 n24) ∧
  ∃ p6 n25 c6,
  w13.cell? (Addr.add (a6.add (Int.toNat n13 * 7)) 6) = some (.slice p6 n25 c6) ∧
  0 ≤ IntKind.wrap .i64 (n13 - 1) ∧
  IntKind.wrap .i64 (n13 - 1) < (↑n11 : Int) ∧
  nn p4 fun a7 => st w13 (Addr.add (Addr.add a7 (Int.toNat (IntKind.wrap .i64 (n13 - 1)) * 7)) 0) (.int .i64 n20) fun w14 => st w14 (Addr.add (Addr.add a7 (Int.toNat (IntKind.wrap .i64 (n13 - 1)) * 7)) 1) (.int .i64 n21) fun w15 => st w15 (Addr.add (Addr.add a7 (Int.toNat (IntKind.wrap .i64 (n13 - 1)) * 7)) 2) (.int .i64 n22) fun w16 => st w16 (Addr.add (Addr.add a7 (Int.toNat (IntKind.wrap .i64 (n13 - 1)) * 7)) 3) (.bool b2) fun w17 => st w17 (Addr.add (Addr.add a7 (Int.toNat (IntKind.wrap .i64 (n13 - 1)) * 7)) 4) (.int .i64 n23) fun w18 => st w18 (Addr.add (Addr.add a7 (Int.toNat (IntKind.wrap .i64 (n13 - 1)) * 7)) 5) (.int .i64 n24) fun w19 => st w19 (Addr.add (Addr.add a7 (Int.toNat (IntKind.wrap .i64 (n13 - 1)) * 7)) 6) (.slice p6 n25 c6) fun w20 => ∃ n26, w20.cell? (a5.add 0) = some (.int .i64 n26) ∧ ∃ n27, w20.cell? (a5.add 1) = some (.int .i64 n27) ∧ ∃ n28, w20.cell? (a5.add 2) = some (.int .i64 n28) ∧ ∃ b3, w20.cell? (a5.add 3) = some (.bool b3) ∧ ∃ n29, w20.cell? (a5.add 4) = some (.int .i64 n29) ∧ ∃ n30, w20.cell? (a5.add 5) = some (.int .i64 n30) ∧ ∃ p7 n31 c7, w20.cell? (a5.add 6) = some (.slice p7 n31 c7) ∧ 0 ≤ n13 ∧ n13 < (↑n11 : Int) ∧ nn p4 fun a8 => st w20 (Addr.add (a8.add (Int.toNat n13 * 7)) 0) (.int .i64 n26) fun w21 => st w21 (Addr.add (a8.add (Int.toNat n13 * 7)) 1) (.int .i64 n27) fun w22 => st w22 (Addr.add (a8.add (Int.toNat n13 * 7)) 2) (.int .i64 n28) fun w23 => st w23 (Addr.add (a8.add (Int.toNat n13 * 7)) 3) (.bool b3) fun w24 => st w24 (Addr.add (a8.add (Int.toNat n13 * 7)) 4) (.int .i64 n29) fun w25 => st w25 (Addr.add (a8.add (Int.toNat n13 * 7)) 5) (.int .i64 n30) fun w26 => st w26 (Addr.add (a8.add (Int.toNat n13 * 7)) 6) (.slice p7 n31 c7) fun w27 => nameI (IntKind.wrap .i64 (n13 - 1)) fun n32 => ∃ m', m' < m1 ∧ I1 m' n32 w27)
  (nameI (IntKind.wrap .i64 (n1 + 1)) fun n14 => ∃ m', m' < m ∧ I m' p4 n11 c4 n14 w5)) ∧
  ∃ (I1 : Nat → Int → World → Prop),
  (∃ m1, I1 m1 0 w1) ∧
  ∀ m1 n3 w2, I1 m1 n3 w2 →
  Sif (decide (n3 < (↑n : Int))) (0 ≤ n3 ∧ n3 < (↑n : Int) ∧ nn p fun a1 => nn q fun a2 => ∃ n4, w2.drew.cell? (Addr.add (a1.add (Int.toNat n3 * 7)) 0) = some (.int .i64 n4) ∧ ∃ n5, w2.drew.cell? (Addr.add (a1.add (Int.toNat n3 * 7)) 1) = some (.int .i64 n5) ∧ ∃ n6, w2.drew.cell? (Addr.add (a1.add (Int.toNat n3 * 7)) 2) = some (.int .i64 n6) ∧ ∃ b, w2.drew.cell? (Addr.add (a1.add (Int.toNat n3 * 7)) 3) = some (.bool b) ∧ ∃ n7, w2.drew.cell? (Addr.add (a1.add (Int.toNat n3 * 7)) 4) = some (.int .i64 n7) ∧ ∃ n8, w2.drew.cell? (Addr.add (a1.add (Int.toNat n3 * 7)) 5) = some (.int .i64 n8) ∧ ∃ p2 n9 c2, w2.drew.cell? (Addr.add (a1.add (Int.toNat n3 * 7)) 6) = some (.slice p2 n9 c2) ∧ ∃ p3 n10 c3, w2.drew.cell? (a2.add 5) = some (.slice p3 n10 c3) ∧ 0 ≤ n1 ∧ n1 < (↑n10 : Int) ∧ nn p3 fun a3 => ∃ n11, w2.drew.cell? (Addr.add (a3.add (Int.toNat n1 * 7)) 0) = some (.int .i64 n11) ∧ ∃ n12, w2.drew.cell? (Addr.add (a3.add (Int.toNat n1 * 7)) 1) = some (.int .i64 n12) ∧ ∃ n13, w2.drew.cell? (Addr.add (a3.add (Int.toNat n1 * 7)) 2) = some (.int .i64 n13) ∧ ∃ b1, w2.drew.cell? (Addr.add (a3.add (Int.toNat n1 * 7)) 3) = some (.bool b1) ∧ ∃ n14, w2.drew.cell? (Addr.add (a3.add (Int.toNat n1 * 7)) 4) = some (.int .i64 n14) ∧ ∃ n15, w2.drew.cell? (Addr.add (a3.add (Int.toNat n1 * 7)) 5) = some (.int .i64 n15) ∧ ∃ p4 n16 c4, w2.drew.cell? (Addr.add (a3.add (Int.toNat n1 * 7)) 6) = some (.slice p4 n16 c4) ∧ callP Tryz.prog 58 [.agg #[.int .i64 n4, .int .i64 n5, .int .i64 n6, .bool b, .int .i64 n7, .int .i64 n8, .slice p2 n9 c2], .agg #[.int .i64 n11, .int .i64 n12, .int .i64 n13, .bool b1, .int .i64 n14, .int .i64 n15, .slice p4 n16 c4]] w2.drew fun v w3 => ∃ b2, v = .bool b2 ∧ Sif (!b2) (J n3 w3) (nameI (IntKind.wrap .i64 (n3 + 1)) fun n17 => ∃ m', m' < m1 ∧ I1 m' n17 w3)) (J n3 w2))
  (K (.slice p n c) w1)
theorem eq_longshoreref17_Queue_Ordered (q : Option Addr) (w : World) (K : Value → World → Prop) : wpF Tryz.prog none Tryz.f30 (.two .leaf (.two .leaf (.two (.two .leaf (.two (.loop [(3, .cell .slice), (4, .cell (.int .i64))] (.two (.two .leaf (.two .leaf .leaf)) (.two (.two (.two .leaf (.two (.meet [(5, .cell (.int .i64))] (.two (.loop [(5, .cell (.int .i64))] (.two (.two .leaf (.two .leaf .leaf)) (.two (.two (.draw [0, 1, 2, 4, 5, 6, 8, 3, 7, 9, 10, 11, 12]) (.two (.two .leaf (.two .leaf .leaf)) .leaf)) .leaf))) .leaf)) (.two .leaf (.two .leaf (.two (.loop [(7, .cell (.int .i64))] (.two (.two .leaf (.two .leaf .leaf)) (.two (.two (.two .leaf (.two .leaf .leaf)) .leaf) .leaf))) .leaf))))) .leaf) .leaf))) .leaf)) (.two .leaf .leaf)))) [Value.pointer q] w K = wp_longshoreref17_Queue_Ordered q w K := by kernel_rfl
theorem ok_longshoreref17_Queue_Ordered {q : Option Addr} {w : World} {K : Value → World → Prop} (hwp : wp_longshoreref17_Queue_Ordered q w K) : callP Tryz.prog 30 [.pointer q] w K :=
  calls_of Tryz.func30 ((eq_longshoreref17_Queue_Ordered q w K).symm ▸ hwp)

/-- (longshore.longshoreref17.Queue).All -/
def wp_longshoreref17_Queue_All (q : Option Addr) (w : World) (K : Value → World → Prop) : Prop :=
  callP Tryz.prog 30 [.pointer q] w fun v w1 => ∃ p n c, v = .slice p n c ∧ K (.slice p n c) w1
theorem eq_longshoreref17_Queue_All (q : Option Addr) (w : World) (K : Value → World → Prop) : wpF Tryz.prog none Tryz.f10 (.two .leaf (.two .leaf .leaf)) [Value.pointer q] w K = wp_longshoreref17_Queue_All q w K := by kernel_rfl
theorem ok_longshoreref17_Queue_All {q : Option Addr} {w : World} {K : Value → World → Prop} (hwp : wp_longshoreref17_Queue_All q w K) : callP Tryz.prog 10 [.pointer q] w K :=
  calls_of Tryz.func10 ((eq_longshoreref17_Queue_All q w K).symm ▸ hwp)

/-- (longshore.longshoreref17.Queue).Later -/
def wp_longshoreref17_Queue_Later (q : Option Addr) (behind : Int) (w : World) (K : Value → World → Prop) : Prop :=
  ∃ (I : Nat → Option Addr → Nat → Nat → Int → World → Prop), (∃ m, I m none 0 0 0 w) ∧ ∀ m p n c n1 w1, I m p n c n1 w1 → nn q fun a => ∃ p1 n2 c1, w1.cell? (a.add 5) = some (.slice p1 n2 c1) ∧ Sif (decide (n1 < (↑n2 : Int))) (∃ (J : Option Addr → Nat → Nat → World → Prop), (∀ p2 n3 c2 w2, J p2 n3 c2 w2 → nameI (IntKind.wrap .i64 (n1 + 1)) fun n4 => ∃ m', m' < m ∧ I m' p2 n3 c2 n4 w2) ∧ nn q fun a1 => ∃ p2 n3 c2, w1.cell? (a1.add 5) = some (.slice p2 n3 c2) ∧ 0 ≤ n1 ∧ n1 < (↑n3 : Int) ∧ nn p2 fun a2 => ∃ n4, w1.cell? (Addr.add (a2.add (Int.toNat n1 * 7)) 0) = some (.int .i64 n4) ∧ Sif (decide (n4 > behind)) (nn q fun a3 => ∃ p3 n5 c3, w1.cell? (a3.add 5) = some (.slice p3 n5 c3) ∧ 0 ≤ n1 ∧ n1 < (↑n5 : Int) ∧ nn p3 fun a4 => ∃ n6, w1.cell? (Addr.add (a4.add (Int.toNat n1 * 7)) 0) = some (.int .i64 n6) ∧ ∃ n7, w1.cell? (Addr.add (a4.add (Int.toNat n1 * 7)) 1) = some (.int .i64 n7) ∧ ∃ n8, w1.cell? (Addr.add (a4.add (Int.toNat n1 * 7)) 2) = some (.int .i64 n8) ∧ ∃ b, w1.cell? (Addr.add (a4.add (Int.toNat n1 * 7)) 3) = some (.bool b) ∧ ∃ n9, w1.cell? (Addr.add (a4.add (Int.toNat n1 * 7)) 4) = some (.int .i64 n9) ∧ ∃ n10, w1.cell? (Addr.add (a4.add (Int.toNat n1 * 7)) 5) = some (.int .i64 n10) ∧ ∃ p4 n11 c4, w1.cell? (Addr.add (a4.add (Int.toNat n1 * 7)) 6) = some (.slice p4 n11 c4) ∧ newB w1 [.int .i64 n6, .int .i64 n7, .int .i64 n8, .bool b, .int .i64 n9, .int .i64 n10, .slice p4 n11 c4] 34 fun a5 w2 => ∃ p5 n12, ∃ c5 w3, Sem.run Tryz.prog (Builtin.append_ #[24, 24] 24 #[.slice p n c, .slice (some a5) 1 1]) w2 = Result.ok (.slice p5 n12 c5) w3 ∧ J p5 n12 c5 w3) (J p n c w1)) (K (.slice p n c) w1)
theorem eq_longshoreref17_Queue_Later (q : Option Addr) (behind : Int) (w : World) (K : Value → World → Prop) : wpF Tryz.prog none Tryz.f62 (.two .leaf (.two .leaf (.two (.two .leaf (.two (.loop [(5, .cell .slice), (6, .cell (.int .i64))] (.two (.two .leaf (.two .leaf .leaf)) (.two (.meet [(5, .cell .slice)] (.two (.two .leaf (.two .leaf .leaf)) .leaf)) .leaf))) .leaf)) (.two .leaf .leaf)))) [Value.pointer q, Value.int .i64 behind] w K = wp_longshoreref17_Queue_Later q behind w K := by kernel_rfl
theorem ok_longshoreref17_Queue_Later {q : Option Addr} {behind : Int} {w : World} {K : Value → World → Prop} (hwp : wp_longshoreref17_Queue_Later q behind w K) : callP Tryz.prog 62 [.pointer q, .int .i64 behind] w K :=
  calls_of Tryz.func62 ((eq_longshoreref17_Queue_Later q behind w K).symm ▸ hwp)

/-- (longshore.longshoreref17.Queue).Take -/
def wp_longshoreref17_Queue_Take (q : Option Addr) (holder : Int) (any : Bool) (fits : Option Addr) (fitsn fitsc : Nat) (w : World) (K : Value → World → Prop) : Prop :=
  newB w [.int .i64 0, .int .i64 0, .int .i64 0, .bool false, .int .i64 0, .int .i64 0, .slice none 0 0] 34 fun a w1 =>
  Sif (decide (holder < 1)) (st w1 (a.add 0) (.int .i64 0) fun w2 => st w2 (a.add 1) (.int .i64 0) fun w3 => st w3 (a.add 2) (.int .i64 0) fun w4 => st w4 (a.add 3) (.bool false) fun w5 => st w5 (a.add 4) (.int .i64 0) fun w6 => st w6 (a.add 5) (.int .i64 0) fun w7 => st w7 (a.add 6) (.slice none 0 0) fun w8 => ∃ n, w8.cell? (a.add 0) = some (.int .i64 n) ∧ ∃ n1, w8.cell? (a.add 1) = some (.int .i64 n1) ∧ ∃ n2, w8.cell? (a.add 2) = some (.int .i64 n2) ∧ ∃ b, w8.cell? (a.add 3) = some (.bool b) ∧ ∃ n3, w8.cell? (a.add 4) = some (.int .i64 n3) ∧ ∃ n4, w8.cell? (a.add 5) = some (.int .i64 n4) ∧ ∃ p n5 c, w8.cell? (a.add 6) = some (.slice p n5 c) ∧ K (.tuple #[.agg #[.int .i64 n, .int .i64 n1, .int .i64 n2, .bool b, .int .i64 n3, .int .i64 n4, .slice p n5 c], .bool false]) w8)
  (callP Tryz.prog 30 [.pointer q] w1 fun v w2 =>
  ∃ p n c,
  v = .slice p n c ∧
  callP Tryz.prog 59 [.slice p n c, .bool any, .slice fits fitsn fitsc] w2 fun v1 w3 =>
  ∃ p1 n1,
  ∃ c1 n2,
  v1 = .tuple #[.slice p1 n1 c1, .int .i64 n2] ∧
  callP Tryz.prog 65 [.pointer q, .int .i64 n2] w3 fun v2 w4 =>
  ∃ n3,
  v2 = .int .i64 n3 ∧
  Sif (decide (n3 < 0)) (st w4 (a.add 0) (.int .i64 0) fun w5 => st w5 (a.add 1) (.int .i64 0) fun w6 => st w6 (a.add 2) (.int .i64 0) fun w7 => st w7 (a.add 3) (.bool false) fun w8 => st w8 (a.add 4) (.int .i64 0) fun w9 => st w9 (a.add 5) (.int .i64 0) fun w10 => st w10 (a.add 6) (.slice none 0 0) fun w11 => ∃ n4, w11.cell? (a.add 0) = some (.int .i64 n4) ∧ ∃ n5, w11.cell? (a.add 1) = some (.int .i64 n5) ∧ ∃ n6, w11.cell? (a.add 2) = some (.int .i64 n6) ∧ ∃ b, w11.cell? (a.add 3) = some (.bool b) ∧ ∃ n7, w11.cell? (a.add 4) = some (.int .i64 n7) ∧ ∃ n8, w11.cell? (a.add 5) = some (.int .i64 n8) ∧ ∃ p2 n9 c2, w11.cell? (a.add 6) = some (.slice p2 n9 c2) ∧ K (.tuple #[.agg #[.int .i64 n4, .int .i64 n5, .int .i64 n6, .bool b, .int .i64 n7, .int .i64 n8, .slice p2 n9 c2], .bool false]) w11)
  (nn q fun a1 => ∃ p2 n4 c2, w4.cell? (a1.add 5) = some (.slice p2 n4 c2) ∧ 0 ≤ n3 ∧ n3 < (↑n4 : Int) ∧ nn p2 fun a2 => st w4 (Addr.add (Addr.add (a2.add (Int.toNat n3 * 7)) 5) 0) (.int .i64 holder) fun w5 => nn q fun a3 => ∃ p3 n5 c3, w5.cell? (a3.add 5) = some (.slice p3 n5 c3) ∧ 0 ≤ n3 ∧ n3 < (↑n5 : Int) ∧ nn p3 fun a4 => ∃ n6, w5.cell? (Addr.add (a4.add (Int.toNat n3 * 7)) 0) = some (.int .i64 n6) ∧ ∃ n7, w5.cell? (Addr.add (a4.add (Int.toNat n3 * 7)) 1) = some (.int .i64 n7) ∧ ∃ n8, w5.cell? (Addr.add (a4.add (Int.toNat n3 * 7)) 2) = some (.int .i64 n8) ∧ ∃ b, w5.cell? (Addr.add (a4.add (Int.toNat n3 * 7)) 3) = some (.bool b) ∧ ∃ n9, w5.cell? (Addr.add (a4.add (Int.toNat n3 * 7)) 4) = some (.int .i64 n9) ∧ ∃ n10, w5.cell? (Addr.add (a4.add (Int.toNat n3 * 7)) 5) = some (.int .i64 n10) ∧ ∃ p4 n11 c4, w5.cell? (Addr.add (a4.add (Int.toNat n3 * 7)) 6) = some (.slice p4 n11 c4) ∧ st w5 (a.add 0) (.int .i64 n6) fun w6 => st w6 (a.add 1) (.int .i64 n7) fun w7 => st w7 (a.add 2) (.int .i64 n8) fun w8 => st w8 (a.add 3) (.bool b) fun w9 => st w9 (a.add 4) (.int .i64 n9) fun w10 => st w10 (a.add 5) (.int .i64 n10) fun w11 => st w11 (a.add 6) (.slice p4 n11 c4) fun w12 => ∃ n12, w12.cell? (a.add 0) = some (.int .i64 n12) ∧ ∃ n13, w12.cell? (a.add 1) = some (.int .i64 n13) ∧ ∃ n14, w12.cell? (a.add 2) = some (.int .i64 n14) ∧ ∃ b1, w12.cell? (a.add 3) = some (.bool b1) ∧ ∃ n15, w12.cell? (a.add 4) = some (.int .i64 n15) ∧ ∃ n16, w12.cell? (a.add 5) = some (.int .i64 n16) ∧ ∃ p5 n17 c5, w12.cell? (a.add 6) = some (.slice p5 n17 c5) ∧ K (.tuple #[.agg #[.int .i64 n12, .int .i64 n13, .int .i64 n14, .bool b1, .int .i64 n15, .int .i64 n16, .slice p5 n17 c5], .bool true]) w12))
theorem eq_longshoreref17_Queue_Take (q : Option Addr) (holder : Int) (any : Bool) (fits : Option Addr) (fitsn fitsc : Nat) (w : World) (K : Value → World → Prop) : wpF Tryz.prog none Tryz.f61 (.two .leaf (.two (.two .leaf (.two (.two .leaf .leaf) .leaf)) (.two .leaf (.two .leaf (.two .leaf (.two (.two .leaf (.two (.two .leaf .leaf) .leaf)) (.two .leaf (.two .leaf .leaf)))))))) [Value.pointer q, Value.int .i64 holder, Value.bool any, Value.slice fits fitsn fitsc] w K = wp_longshoreref17_Queue_Take q holder any fits fitsn fitsc w K := by kernel_rfl
theorem ok_longshoreref17_Queue_Take {q : Option Addr} {holder : Int} {any : Bool} {fits : Option Addr} {fitsn fitsc : Nat} {w : World} {K : Value → World → Prop} (hwp : wp_longshoreref17_Queue_Take q holder any fits fitsn fitsc w K) : callP Tryz.prog 61 [.pointer q, .int .i64 holder, .bool any, .slice fits fitsn fitsc] w K :=
  calls_of Tryz.func61 ((eq_longshoreref17_Queue_Take q holder any fits fitsn fitsc w K).symm ▸ hwp)

/-- (longshore.longshoreref17.Queue).Peek -/
def wp_longshoreref17_Queue_Peek (q : Option Addr) (behind : Int) (any : Bool) (fits : Option Addr) (fitsn fitsc : Nat) (w : World) (K : Value → World → Prop) : Prop :=
  newB w [.int .i64 0, .int .i64 0, .int .i64 0, .bool false, .int .i64 0, .int .i64 0, .slice none 0 0] 34 fun a w1 =>
  callP Tryz.prog 62 [.pointer q, .int .i64 behind] w1 fun v w2 =>
  ∃ p n c,
  v = .slice p n c ∧
  callP Tryz.prog 59 [.slice p n c, .bool any, .slice fits fitsn fitsc] w2 fun v1 w3 =>
  ∃ p1 n1,
  ∃ c1 n2,
  v1 = .tuple #[.slice p1 n1 c1, .int .i64 n2] ∧
  callP Tryz.prog 65 [.pointer q, .int .i64 n2] w3 fun v2 w4 =>
  ∃ n3,
  v2 = .int .i64 n3 ∧
  Sif (decide (n3 < 0)) (st w4 (a.add 0) (.int .i64 0) fun w5 => st w5 (a.add 1) (.int .i64 0) fun w6 => st w6 (a.add 2) (.int .i64 0) fun w7 => st w7 (a.add 3) (.bool false) fun w8 => st w8 (a.add 4) (.int .i64 0) fun w9 => st w9 (a.add 5) (.int .i64 0) fun w10 => st w10 (a.add 6) (.slice none 0 0) fun w11 => ∃ n4, w11.cell? (a.add 0) = some (.int .i64 n4) ∧ ∃ n5, w11.cell? (a.add 1) = some (.int .i64 n5) ∧ ∃ n6, w11.cell? (a.add 2) = some (.int .i64 n6) ∧ ∃ b, w11.cell? (a.add 3) = some (.bool b) ∧ ∃ n7, w11.cell? (a.add 4) = some (.int .i64 n7) ∧ ∃ n8, w11.cell? (a.add 5) = some (.int .i64 n8) ∧ ∃ p2 n9 c2, w11.cell? (a.add 6) = some (.slice p2 n9 c2) ∧ K (.tuple #[.agg #[.int .i64 n4, .int .i64 n5, .int .i64 n6, .bool b, .int .i64 n7, .int .i64 n8, .slice p2 n9 c2], .bool false]) w11)
  (nn q fun a1 => ∃ p2 n4 c2, w4.cell? (a1.add 5) = some (.slice p2 n4 c2) ∧ 0 ≤ n3 ∧ n3 < (↑n4 : Int) ∧ nn p2 fun a2 => ∃ n5, w4.cell? (Addr.add (a2.add (Int.toNat n3 * 7)) 0) = some (.int .i64 n5) ∧ ∃ n6, w4.cell? (Addr.add (a2.add (Int.toNat n3 * 7)) 1) = some (.int .i64 n6) ∧ ∃ n7, w4.cell? (Addr.add (a2.add (Int.toNat n3 * 7)) 2) = some (.int .i64 n7) ∧ ∃ b, w4.cell? (Addr.add (a2.add (Int.toNat n3 * 7)) 3) = some (.bool b) ∧ ∃ n8, w4.cell? (Addr.add (a2.add (Int.toNat n3 * 7)) 4) = some (.int .i64 n8) ∧ ∃ n9, w4.cell? (Addr.add (a2.add (Int.toNat n3 * 7)) 5) = some (.int .i64 n9) ∧ ∃ p3 n10 c3, w4.cell? (Addr.add (a2.add (Int.toNat n3 * 7)) 6) = some (.slice p3 n10 c3) ∧ st w4 (a.add 0) (.int .i64 n5) fun w5 => st w5 (a.add 1) (.int .i64 n6) fun w6 => st w6 (a.add 2) (.int .i64 n7) fun w7 => st w7 (a.add 3) (.bool b) fun w8 => st w8 (a.add 4) (.int .i64 n8) fun w9 => st w9 (a.add 5) (.int .i64 n9) fun w10 => st w10 (a.add 6) (.slice p3 n10 c3) fun w11 => ∃ n11, w11.cell? (a.add 0) = some (.int .i64 n11) ∧ ∃ n12, w11.cell? (a.add 1) = some (.int .i64 n12) ∧ ∃ n13, w11.cell? (a.add 2) = some (.int .i64 n13) ∧ ∃ b1, w11.cell? (a.add 3) = some (.bool b1) ∧ ∃ n14, w11.cell? (a.add 4) = some (.int .i64 n14) ∧ ∃ n15, w11.cell? (a.add 5) = some (.int .i64 n15) ∧ ∃ p4 n16 c4, w11.cell? (a.add 6) = some (.slice p4 n16 c4) ∧ K (.tuple #[.agg #[.int .i64 n11, .int .i64 n12, .int .i64 n13, .bool b1, .int .i64 n14, .int .i64 n15, .slice p4 n16 c4], .bool true]) w11)
theorem eq_longshoreref17_Queue_Peek (q : Option Addr) (behind : Int) (any : Bool) (fits : Option Addr) (fitsn fitsc : Nat) (w : World) (K : Value → World → Prop) : wpF Tryz.prog none Tryz.f64 (.two .leaf (.two .leaf (.two .leaf (.two .leaf (.two (.two .leaf (.two (.two .leaf .leaf) .leaf)) (.two .leaf .leaf)))))) [Value.pointer q, Value.int .i64 behind, Value.bool any, Value.slice fits fitsn fitsc] w K = wp_longshoreref17_Queue_Peek q behind any fits fitsn fitsc w K := by kernel_rfl
theorem ok_longshoreref17_Queue_Peek {q : Option Addr} {behind : Int} {any : Bool} {fits : Option Addr} {fitsn fitsc : Nat} {w : World} {K : Value → World → Prop} (hwp : wp_longshoreref17_Queue_Peek q behind any fits fitsn fitsc w K) : callP Tryz.prog 64 [.pointer q, .int .i64 behind, .bool any, .slice fits fitsn fitsc] w K :=
  calls_of Tryz.func64 ((eq_longshoreref17_Queue_Peek q behind any fits fitsn fitsc w K).symm ▸ hwp)

/-- (longshore.longshoreref17.Queue).Back -/
def wp_longshoreref17_Queue_Back (q : Option Addr) (seq holder : Int) (failed : Bool) (w : World) (K : Value → World → Prop) : Prop :=
  newB w [.int .i64 0, .int .i64 0, .int .i64 0, .bool false, .int .i64 0, .int .i64 0, .slice none 0 0] 34 fun a w1 =>
  callP Tryz.prog 65 [.pointer q, .int .i64 seq] w1 fun v w2 =>
  ∃ n,
  v = .int .i64 n ∧
  ∃ (J : World → Prop),
  (∀ w3, J w3 →
  nn q fun a1 =>
  ∃ p n1 c,
  w3.cell? (a1.add 5) = some (.slice p n1 c) ∧
  0 ≤ n ∧
  n < (↑n1 : Int) ∧
  nn p fun a2 =>
  st w3 (Addr.add (Addr.add (a2.add (Int.toNat n * 7)) 5) 0) (.int .i64 0) fun w4 =>
  ∃ (J1 : World → Prop),
  (∀ w5, J1 w5 →
  nn q fun a3 =>
  ∃ p1 n2 c1,
  w5.cell? (a3.add 5) = some (.slice p1 n2 c1) ∧
  0 ≤ n ∧
  n < (↑n2 : Int) ∧
  nn p1 fun a4 =>
  ∃ n3,
  w5.cell? (Addr.add (a4.add (Int.toNat n * 7)) 0) = some (.int .i64 n3) ∧
  ∃ n4,
  w5.cell? (Addr.add (a4.add (Int.toNat n * 7)) 1) = some (.int .i64 n4) ∧
  ∃ n5,
  w5.cell? (Addr.add (a4.add (Int.toNat n * 7)) 2) = some (.int .i64 n5) ∧
  ∃ b,
  w5.cell? (Addr.add (a4.add (Int.toNat n * 7)) 3) = some (.bool b) ∧
  ∃ n6,
  w5.cell? (Addr.add (a4.add (Int.toNat n * 7)) 4) = some (.int .i64 n6) ∧
  ∃ n7,
  w5.cell? (Addr.add (a4.add (Int.toNat n * 7)) 5) = some (.int .i64 n7) ∧
  ∃ p2 n8 c2,
  w5.cell? (Addr.add (a4.add (Int.toNat n * 7)) 6) = some (.slice p2 n8 c2) ∧
  newB w5 [.int .i64 0, .int .i64 0, .int .i64 0, .bool false, .int .i64 0, .int .i64 0, .slice none 0 0] 34 fun a5 w6 =>
  st w6 (a5.add 0) (.int .i64 n3) fun w7 =>
  st w7 (a5.add 1) (.int .i64 n4) fun w8 =>
  st w8 (a5.add 2) (.int .i64 n5) fun w9 =>
  st w9 (a5.add 3) (.bool b) fun w10 =>
  st w10 (a5.add 4) (.int .i64 n6) fun w11 =>
  st w11 (a5.add 5) (.int .i64 n7) fun w12 =>
  st w12 (a5.add 6) (.slice p2 n8 c2) fun w13 =>
  ∃ (J2 : Bool → World → Prop),
  (∀ b1 w14, J2 b1 w14 → ∃ (J3 : World → Prop), (∀ w15, J3 w15 → ∃ n9, w15.cell? (a5.add 0) = some (.int .i64 n9) ∧ ∃ n10, w15.cell? (a5.add 1) = some (.int .i64 n10) ∧ ∃ n11, w15.cell? (a5.add 2) = some (.int .i64 n11) ∧ ∃ b2, w15.cell? (a5.add 3) = some (.bool b2) ∧ ∃ n12, w15.cell? (a5.add 4) = some (.int .i64 n12) ∧ ∃ n13, w15.cell? (a5.add 5) = some (.int .i64 n13) ∧ ∃ p3 n14 c3, w15.cell? (a5.add 6) = some (.slice p3 n14 c3) ∧ st w15 (a.add 0) (.int .i64 n9) fun w16 => st w16 (a.add 1) (.int .i64 n10) fun w17 => st w17 (a.add 2) (.int .i64 n11) fun w18 => st w18 (a.add 3) (.bool b2) fun w19 => st w19 (a.add 4) (.int .i64 n12) fun w20 => st w20 (a.add 5) (.int .i64 n13) fun w21 => st w21 (a.add 6) (.slice p3 n14 c3) fun w22 => ∃ n15, w22.cell? (a.add 0) = some (.int .i64 n15) ∧ ∃ n16, w22.cell? (a.add 1) = some (.int .i64 n16) ∧ ∃ n17, w22.cell? (a.add 2) = some (.int .i64 n17) ∧ ∃ b3, w22.cell? (a.add 3) = some (.bool b3) ∧ ∃ n18, w22.cell? (a.add 4) = some (.int .i64 n18) ∧ ∃ n19, w22.cell? (a.add 5) = some (.int .i64 n19) ∧ ∃ p4 n20 c4, w22.cell? (a.add 6) = some (.slice p4 n20 c4) ∧ K (.tuple #[.agg #[.int .i64 n15, .int .i64 n16, .int .i64 n17, .bool b3, .int .i64 n18, .int .i64 n19, .slice p4 n20 c4], .bool b1, .int .i64 0]) w22) ∧ Sif b1 (callP Tryz.prog 66 [.pointer q, .int .i64 n] w14 fun v1 w15 => v1 = .tuple #[] ∧ J3 w15) (J3 w14)) ∧
  Sif failed (nn q fun a6 => ∃ n9, w13.drew.cell? ((a6.add 0).add 3) = some (.int .i64 n9) ∧ Sif (decide (n9 > 0)) (nn q fun a7 => ∃ n10, w13.drew.cell? (a5.add 4) = some (.int .i64 n10) ∧ ∃ n11, w13.drew.cell? ((a7.add 0).add 3) = some (.int .i64 n11) ∧ J2 (decide (n10 ≥ n11)) w13.drew) (J2 false w13.drew)) (J2 false w13.drew)) ∧
  Sif failed (nn q fun a3 => ∃ p1 n2 c1, w4.cell? (a3.add 5) = some (.slice p1 n2 c1) ∧ 0 ≤ n ∧ n < (↑n2 : Int) ∧ nn p1 fun a4 => ∃ n3, w4.cell? (Addr.add (a4.add (Int.toNat n * 7)) 4) = some (.int .i64 n3) ∧ Sif (decide (n3 < 4294967295)) (nn q fun a5 => nn q fun a6 => ∃ p2 n4 c2, w4.drew.cell? (a5.add 5) = some (.slice p2 n4 c2) ∧ ∃ p3 n5 c3, w4.drew.cell? (a6.add 5) = some (.slice p3 n5 c3) ∧ 0 ≤ n ∧ n < (↑n5 : Int) ∧ nn p3 fun a7 => ∃ n6, w4.drew.cell? (Addr.add (a7.add (Int.toNat n * 7)) 4) = some (.int .i64 n6) ∧ 0 ≤ n ∧ n < (↑n4 : Int) ∧ nn p2 fun a8 => st w4.drew (Addr.add (Addr.add (a8.add (Int.toNat n * 7)) 4) 0) (.int .i64 (IntKind.wrap .i64 (n6 + 1))) fun w5 => J1 w5) (J1 w4)) (J1 w4)) ∧
  Sif (!decide (n < 0))
  (Sif (!decide (holder < 1)) (nn q fun a1 => ∃ p n1 c, w2.cell? (a1.add 5) = some (.slice p n1 c) ∧ 0 ≤ n ∧ n < (↑n1 : Int) ∧ nn p fun a2 => ∃ n2, w2.cell? (Addr.add (a2.add (Int.toNat n * 7)) 5) = some (.int .i64 n2) ∧ Sif (n2 != holder) (st w2 (a.add 0) (.int .i64 0) fun w3 => st w3 (a.add 1) (.int .i64 0) fun w4 => st w4 (a.add 2) (.int .i64 0) fun w5 => st w5 (a.add 3) (.bool false) fun w6 => st w6 (a.add 4) (.int .i64 0) fun w7 => st w7 (a.add 5) (.int .i64 0) fun w8 => st w8 (a.add 6) (.slice none 0 0) fun w9 => ∃ n3, w9.cell? (a.add 0) = some (.int .i64 n3) ∧ ∃ n4, w9.cell? (a.add 1) = some (.int .i64 n4) ∧ ∃ n5, w9.cell? (a.add 2) = some (.int .i64 n5) ∧ ∃ b, w9.cell? (a.add 3) = some (.bool b) ∧ ∃ n6, w9.cell? (a.add 4) = some (.int .i64 n6) ∧ ∃ n7, w9.cell? (a.add 5) = some (.int .i64 n7) ∧ ∃ p1 n8 c1, w9.cell? (a.add 6) = some (.slice p1 n8 c1) ∧ K (.tuple #[.agg #[.int .i64 n3, .int .i64 n4, .int .i64 n5, .bool b, .int .i64 n6, .int .i64 n7, .slice p1 n8 c1], .bool false, .int .i64 171]) w9) (J w2))
  (st w2 (a.add 0) (.int .i64 0) fun w3 => st w3 (a.add 1) (.int .i64 0) fun w4 => st w4 (a.add 2) (.int .i64 0) fun w5 => st w5 (a.add 3) (.bool false) fun w6 => st w6 (a.add 4) (.int .i64 0) fun w7 => st w7 (a.add 5) (.int .i64 0) fun w8 => st w8 (a.add 6) (.slice none 0 0) fun w9 => ∃ n1, w9.cell? (a.add 0) = some (.int .i64 n1) ∧ ∃ n2, w9.cell? (a.add 1) = some (.int .i64 n2) ∧ ∃ n3, w9.cell? (a.add 2) = some (.int .i64 n3) ∧ ∃ b, w9.cell? (a.add 3) = some (.bool b) ∧ ∃ n4, w9.cell? (a.add 4) = some (.int .i64 n4) ∧ ∃ n5, w9.cell? (a.add 5) = some (.int .i64 n5) ∧ ∃ p n6 c, w9.cell? (a.add 6) = some (.slice p n6 c) ∧ K (.tuple #[.agg #[.int .i64 n1, .int .i64 n2, .int .i64 n3, .bool b, .int .i64 n4, .int .i64 n5, .slice p n6 c], .bool false, .int .i64 171]) w9))
  (st w2 (a.add 0) (.int .i64 0) fun w3 => st w3 (a.add 1) (.int .i64 0) fun w4 => st w4 (a.add 2) (.int .i64 0) fun w5 => st w5 (a.add 3) (.bool false) fun w6 => st w6 (a.add 4) (.int .i64 0) fun w7 => st w7 (a.add 5) (.int .i64 0) fun w8 => st w8 (a.add 6) (.slice none 0 0) fun w9 => ∃ n1, w9.cell? (a.add 0) = some (.int .i64 n1) ∧ ∃ n2, w9.cell? (a.add 1) = some (.int .i64 n2) ∧ ∃ n3, w9.cell? (a.add 2) = some (.int .i64 n3) ∧ ∃ b, w9.cell? (a.add 3) = some (.bool b) ∧ ∃ n4, w9.cell? (a.add 4) = some (.int .i64 n4) ∧ ∃ n5, w9.cell? (a.add 5) = some (.int .i64 n5) ∧ ∃ p n6 c, w9.cell? (a.add 6) = some (.slice p n6 c) ∧ K (.tuple #[.agg #[.int .i64 n1, .int .i64 n2, .int .i64 n3, .bool b, .int .i64 n4, .int .i64 n5, .slice p n6 c], .bool false, .int .i64 171]) w9)
theorem eq_longshoreref17_Queue_Back (q : Option Addr) (seq holder : Int) (failed : Bool) (w : World) (K : Value → World → Prop) : wpF Tryz.prog none Tryz.f32 (.two .leaf (.two .leaf (.two (.meet [] (.two .leaf (.two (.two .leaf .leaf) .leaf))) (.two .leaf (.two (.meet [] (.two .leaf (.two (.draw [0, 1, 2, 4, 5, 6, 7, 9, 3, 8, 10, 11, 12, 13, 14, 15, 16]) .leaf))) (.two .leaf (.two (.meet [(13, .cell .bool)] (.draw [0, 1, 2, 3, 4, 5, 6, 7, 8, 9, 10, 12, 13, 14, 15, 11, 16, 17, 18, 19])) (.two (.meet [] (.two .leaf (.two .leaf .leaf))) (.two .leaf .leaf))))))))) [Value.pointer q, Value.int .i64 seq, Value.int .i64 holder, Value.bool failed] w K = wp_longshoreref17_Queue_Back q seq holder failed w K := by kernel_rfl
theorem ok_longshoreref17_Queue_Back {q : Option Addr} {seq holder : Int} {failed : Bool} {w : World} {K : Value → World → Prop} (hwp : wp_longshoreref17_Queue_Back q seq holder failed w K) : callP Tryz.prog 32 [.pointer q, .int .i64 seq, .int .i64 holder, .bool failed] w K :=
  calls_of Tryz.func32 ((eq_longshoreref17_Queue_Back q seq holder failed w K).symm ▸ hwp)

/-- (longshore.longshoreref17.Queue).Remove -/
def wp_longshoreref17_Queue_Remove (q : Option Addr) (seq holder : Int) (w : World) (K : Value → World → Prop) : Prop :=
  newB w [.int .i64 0, .int .i64 0, .int .i64 0, .bool false, .int .i64 0, .int .i64 0, .slice none 0 0] 34 fun a w1 =>
  callP Tryz.prog 65 [.pointer q, .int .i64 seq] w1 fun v w2 =>
  ∃ n,
  v = .int .i64 n ∧
  ∃ (J : World → Prop),
  (∀ w3, J w3 →
  nn q fun a1 =>
  ∃ p n1 c,
  w3.cell? (a1.add 5) = some (.slice p n1 c) ∧
  0 ≤ n ∧
  n < (↑n1 : Int) ∧
  nn p fun a2 =>
  ∃ n2,
  w3.cell? (Addr.add (a2.add (Int.toNat n * 7)) 0) = some (.int .i64 n2) ∧
  ∃ n3,
  w3.cell? (Addr.add (a2.add (Int.toNat n * 7)) 1) = some (.int .i64 n3) ∧
  ∃ n4,
  w3.cell? (Addr.add (a2.add (Int.toNat n * 7)) 2) = some (.int .i64 n4) ∧
  ∃ b,
  w3.cell? (Addr.add (a2.add (Int.toNat n * 7)) 3) = some (.bool b) ∧
  ∃ n5,
  w3.cell? (Addr.add (a2.add (Int.toNat n * 7)) 4) = some (.int .i64 n5) ∧
  ∃ n6,
  w3.cell? (Addr.add (a2.add (Int.toNat n * 7)) 5) = some (.int .i64 n6) ∧
  ∃ p1 n7 c1,
  w3.cell? (Addr.add (a2.add (Int.toNat n * 7)) 6) = some (.slice p1 n7 c1) ∧
  newB w3 [.int .i64 0, .int .i64 0, .int .i64 0, .bool false, .int .i64 0, .int .i64 0, .slice none 0 0] 34 fun a3 w4 =>
  st w4 (a3.add 0) (.int .i64 n2) fun w5 => st w5 (a3.add 1) (.int .i64 n3) fun w6 => st w6 (a3.add 2) (.int .i64 n4) fun w7 => st w7 (a3.add 3) (.bool b) fun w8 => st w8 (a3.add 4) (.int .i64 n5) fun w9 => st w9 (a3.add 5) (.int .i64 n6) fun w10 => st w10 (a3.add 6) (.slice p1 n7 c1) fun w11 => callP Tryz.prog 66 [.pointer q, .int .i64 n] w11 fun v1 w12 => v1 = .tuple #[] ∧ ∃ n8, w12.cell? (a3.add 0) = some (.int .i64 n8) ∧ ∃ n9, w12.cell? (a3.add 1) = some (.int .i64 n9) ∧ ∃ n10, w12.cell? (a3.add 2) = some (.int .i64 n10) ∧ ∃ b1, w12.cell? (a3.add 3) = some (.bool b1) ∧ ∃ n11, w12.cell? (a3.add 4) = some (.int .i64 n11) ∧ ∃ n12, w12.cell? (a3.add 5) = some (.int .i64 n12) ∧ ∃ p2 n13 c2, w12.cell? (a3.add 6) = some (.slice p2 n13 c2) ∧ st w12 (a.add 0) (.int .i64 n8) fun w13 => st w13 (a.add 1) (.int .i64 n9) fun w14 => st w14 (a.add 2) (.int .i64 n10) fun w15 => st w15 (a.add 3) (.bool b1) fun w16 => st w16 (a.add 4) (.int .i64 n11) fun w17 => st w17 (a.add 5) (.int .i64 n12) fun w18 => st w18 (a.add 6) (.slice p2 n13 c2) fun w19 => ∃ n14, w19.cell? (a.add 0) = some (.int .i64 n14) ∧ ∃ n15, w19.cell? (a.add 1) = some (.int .i64 n15) ∧ ∃ n16, w19.cell? (a.add 2) = some (.int .i64 n16) ∧ ∃ b2, w19.cell? (a.add 3) = some (.bool b2) ∧ ∃ n17, w19.cell? (a.add 4) = some (.int .i64 n17) ∧ ∃ n18, w19.cell? (a.add 5) = some (.int .i64 n18) ∧ ∃ p3 n19 c3, w19.cell? (a.add 6) = some (.slice p3 n19 c3) ∧ K (.tuple #[.agg #[.int .i64 n14, .int .i64 n15, .int .i64 n16, .bool b2, .int .i64 n17, .int .i64 n18, .slice p3 n19 c3], .int .i64 0]) w19) ∧
  Sif (!decide (n < 0)) (nn q fun a1 => ∃ p n1 c, w2.cell? (a1.add 5) = some (.slice p n1 c) ∧ 0 ≤ n ∧ n < (↑n1 : Int) ∧ nn p fun a2 => ∃ n2, w2.cell? (Addr.add (a2.add (Int.toNat n * 7)) 5) = some (.int .i64 n2) ∧ Sif (n2 != holder) (st w2 (a.add 0) (.int .i64 0) fun w3 => st w3 (a.add 1) (.int .i64 0) fun w4 => st w4 (a.add 2) (.int .i64 0) fun w5 => st w5 (a.add 3) (.bool false) fun w6 => st w6 (a.add 4) (.int .i64 0) fun w7 => st w7 (a.add 5) (.int .i64 0) fun w8 => st w8 (a.add 6) (.slice none 0 0) fun w9 => ∃ n3, w9.cell? (a.add 0) = some (.int .i64 n3) ∧ ∃ n4, w9.cell? (a.add 1) = some (.int .i64 n4) ∧ ∃ n5, w9.cell? (a.add 2) = some (.int .i64 n5) ∧ ∃ b, w9.cell? (a.add 3) = some (.bool b) ∧ ∃ n6, w9.cell? (a.add 4) = some (.int .i64 n6) ∧ ∃ n7, w9.cell? (a.add 5) = some (.int .i64 n7) ∧ ∃ p1 n8 c1, w9.cell? (a.add 6) = some (.slice p1 n8 c1) ∧ K (.tuple #[.agg #[.int .i64 n3, .int .i64 n4, .int .i64 n5, .bool b, .int .i64 n6, .int .i64 n7, .slice p1 n8 c1], .int .i64 171]) w9) (J w2))
  (st w2 (a.add 0) (.int .i64 0) fun w3 => st w3 (a.add 1) (.int .i64 0) fun w4 => st w4 (a.add 2) (.int .i64 0) fun w5 => st w5 (a.add 3) (.bool false) fun w6 => st w6 (a.add 4) (.int .i64 0) fun w7 => st w7 (a.add 5) (.int .i64 0) fun w8 => st w8 (a.add 6) (.slice none 0 0) fun w9 => ∃ n1, w9.cell? (a.add 0) = some (.int .i64 n1) ∧ ∃ n2, w9.cell? (a.add 1) = some (.int .i64 n2) ∧ ∃ n3, w9.cell? (a.add 2) = some (.int .i64 n3) ∧ ∃ b, w9.cell? (a.add 3) = some (.bool b) ∧ ∃ n4, w9.cell? (a.add 4) = some (.int .i64 n4) ∧ ∃ n5, w9.cell? (a.add 5) = some (.int .i64 n5) ∧ ∃ p n6 c, w9.cell? (a.add 6) = some (.slice p n6 c) ∧ K (.tuple #[.agg #[.int .i64 n1, .int .i64 n2, .int .i64 n3, .bool b, .int .i64 n4, .int .i64 n5, .slice p n6 c], .int .i64 171]) w9)
theorem eq_longshoreref17_Queue_Remove (q : Option Addr) (seq holder : Int) (w : World) (K : Value → World → Prop) : wpF Tryz.prog none Tryz.f35 (.two .leaf (.two .leaf (.two (.meet [] (.two .leaf (.two (.two .leaf .leaf) .leaf))) (.two .leaf (.two .leaf (.two .leaf .leaf)))))) [Value.pointer q, Value.int .i64 seq, Value.int .i64 holder] w K = wp_longshoreref17_Queue_Remove q seq holder w K := by kernel_rfl
theorem ok_longshoreref17_Queue_Remove {q : Option Addr} {seq holder : Int} {w : World} {K : Value → World → Prop} (hwp : wp_longshoreref17_Queue_Remove q seq holder w K) : callP Tryz.prog 35 [.pointer q, .int .i64 seq, .int .i64 holder] w K :=
  calls_of Tryz.func35 ((eq_longshoreref17_Queue_Remove q seq holder w K).symm ▸ hwp)

/-- (longshore.longshoreref17.Queue).Release -/
def wp_longshoreref17_Queue_Release (q : Option Addr) (holder : Int) (w : World) (K : Value → World → Prop) : Prop :=
  ∃ (I : Nat → Option Addr → Nat → Nat → Int → World → Prop), (∃ m, I m none 0 0 0 w) ∧ ∀ m p n c n1 w1, I m p n c n1 w1 → nn q fun a => ∃ p1 n2 c1, w1.cell? (a.add 5) = some (.slice p1 n2 c1) ∧ Sif (decide (n1 < (↑n2 : Int))) (∃ (J : Option Addr → Nat → Nat → World → Prop), (∀ p2 n3 c2 w2, J p2 n3 c2 w2 → nameI (IntKind.wrap .i64 (n1 + 1)) fun n4 => ∃ m', m' < m ∧ I m' p2 n3 c2 n4 w2) ∧ Sif (decide (holder ≥ 1)) (nn q fun a1 => ∃ p2 n3 c2, w1.cell? (a1.add 5) = some (.slice p2 n3 c2) ∧ 0 ≤ n1 ∧ n1 < (↑n3 : Int) ∧ nn p2 fun a2 => ∃ n4, w1.cell? (Addr.add (a2.add (Int.toNat n1 * 7)) 5) = some (.int .i64 n4) ∧ Sif (n4 == holder) (nn q fun a3 => ∃ p3 n5 c3, w1.cell? (a3.add 5) = some (.slice p3 n5 c3) ∧ 0 ≤ n1 ∧ n1 < (↑n5 : Int) ∧ nn p3 fun a4 => st w1 (Addr.add (Addr.add (a4.add (Int.toNat n1 * 7)) 5) 0) (.int .i64 0) fun w2 => nn q fun a5 => ∃ p4 n6 c4, w2.cell? (a5.add 5) = some (.slice p4 n6 c4) ∧ 0 ≤ n1 ∧ n1 < (↑n6 : Int) ∧ nn p4 fun a6 => ∃ n7, w2.cell? (Addr.add (a6.add (Int.toNat n1 * 7)) 0) = some (.int .i64 n7) ∧ newB w2 [.int .i64 n7] 3 fun a7 w3 => ∃ p5 n8, ∃ c5 w4, Sem.run Tryz.prog (Builtin.append_ #[44, 44] 44 #[.slice p n c, .slice (some a7) 1 1]) w3 = Result.ok (.slice p5 n8 c5) w4 ∧ J p5 n8 c5 w4) (J p n c w1)) (J p n c w1)) (K (.slice p n c) w1)
theorem eq_longshoreref17_Queue_Release (q : Option Addr) (holder : Int) (w : World) (K : Value → World → Prop) : wpF Tryz.prog none Tryz.f37 (.two .leaf (.two .leaf (.two (.two .leaf (.two (.loop [(5, .cell .slice), (6, .cell (.int .i64))] (.two (.two .leaf (.two .leaf .leaf)) (.two (.meet [(5, .cell .slice)] (.two (.two .leaf (.two (.two .leaf .leaf) .leaf)) .leaf)) .leaf))) .leaf)) (.two .leaf .leaf)))) [Value.pointer q, Value.int .i64 holder] w K = wp_longshoreref17_Queue_Release q holder w K := by kernel_rfl
theorem ok_longshoreref17_Queue_Release {q : Option Addr} {holder : Int} {w : World} {K : Value → World → Prop} (hwp : wp_longshoreref17_Queue_Release q holder w K) : callP Tryz.prog 37 [.pointer q, .int .i64 holder] w K :=
  calls_of Tryz.func37 ((eq_longshoreref17_Queue_Release q holder w K).symm ▸ hwp)

/-- (longshore.longshoreref17.Queue).Expire -/
def wp_longshoreref17_Queue_Expire (q : Option Addr) (now : Int) (w : World) (K : Value → World → Prop) : Prop :=
  callP Tryz.prog 30 [.pointer q] w fun v w1 =>
  ∃ p n c,
  v = .slice p n c ∧
  ∃ (I : Nat → Option Addr → Nat → Nat → Int → World → Prop),
  (∃ m, I m none 0 0 0 w1) ∧
  ∀ m p1 n1 c1 n2 w2, I m p1 n1 c1 n2 w2 → Sif (decide (n2 < (↑n : Int))) (∃ (J : Option Addr → Nat → Nat → World → Prop), (∀ p2 n3 c2 w3, J p2 n3 c2 w3 → nameI (IntKind.wrap .i64 (n2 + 1)) fun n4 => ∃ m', m' < m ∧ I m' p2 n3 c2 n4 w3) ∧ 0 ≤ n2 ∧ n2 < (↑n : Int) ∧ nn p fun a => ∃ n3, w2.cell? (Addr.add (a.add (Int.toNat n2 * 7)) 5) = some (.int .i64 n3) ∧ Sif (n3 == 0) (0 ≤ n2 ∧ n2 < (↑n : Int) ∧ nn p fun a1 => ∃ n4, w2.cell? (Addr.add (a1.add (Int.toNat n2 * 7)) 2) = some (.int .i64 n4) ∧ Sif (decide (n4 ≥ 0)) (0 ≤ n2 ∧ n2 < (↑n : Int) ∧ nn p fun a2 => ∃ n5, w2.cell? (Addr.add (a2.add (Int.toNat n2 * 7)) 2) = some (.int .i64 n5) ∧ Sif (decide (n5 ≤ now)) (0 ≤ n2 ∧ n2 < (↑n : Int) ∧ nn p fun a3 => ∃ n6, w2.cell? (Addr.add (a3.add (Int.toNat n2 * 7)) 0) = some (.int .i64 n6) ∧ ∃ n7, w2.cell? (Addr.add (a3.add (Int.toNat n2 * 7)) 1) = some (.int .i64 n7) ∧ ∃ n8, w2.cell? (Addr.add (a3.add (Int.toNat n2 * 7)) 2) = some (.int .i64 n8) ∧ ∃ b, w2.cell? (Addr.add (a3.add (Int.toNat n2 * 7)) 3) = some (.bool b) ∧ ∃ n9, w2.cell? (Addr.add (a3.add (Int.toNat n2 * 7)) 4) = some (.int .i64 n9) ∧ ∃ n10, w2.cell? (Addr.add (a3.add (Int.toNat n2 * 7)) 5) = some (.int .i64 n10) ∧ ∃ p2 n11 c2, w2.cell? (Addr.add (a3.add (Int.toNat n2 * 7)) 6) = some (.slice p2 n11 c2) ∧ newB w2 [.int .i64 n6, .int .i64 n7, .int .i64 n8, .bool b, .int .i64 n9, .int .i64 n10, .slice p2 n11 c2] 34 fun a4 w3 => ∃ p3 n12, ∃ c3 w4, Sem.run Tryz.prog (Builtin.append_ #[24, 24] 24 #[.slice p1 n1 c1, .slice (some a4) 1 1]) w3 = Result.ok (.slice p3 n12 c3) w4 ∧ 0 ≤ n2 ∧ n2 < (↑n : Int) ∧ nn p fun a5 => ∃ n13, w4.cell? (Addr.add (a5.add (Int.toNat n2 * 7)) 0) = some (.int .i64 n13) ∧ callP Tryz.prog 65 [.pointer q, .int .i64 n13] w4 fun v1 w5 => ∃ n14, v1 = .int .i64 n14 ∧ callP Tryz.prog 66 [.pointer q, .int .i64 n14] w5 fun v2 w6 => v2 = .tuple #[] ∧ J p3 n12 c3 w6) (J p1 n1 c1 w2)) (J p1 n1 c1 w2)) (J p1 n1 c1 w2)) (K (.slice p1 n1 c1) w2)
theorem eq_longshoreref17_Queue_Expire (q : Option Addr) (now : Int) (w : World) (K : Value → World → Prop) : wpF Tryz.prog none Tryz.f41 (.two .leaf (.two .leaf (.two .leaf (.two (.two .leaf (.two (.loop [(5, .cell .slice), (7, .cell (.int .i64))] (.two (.two .leaf (.two .leaf .leaf)) (.two (.meet [(5, .cell .slice)] (.two (.two .leaf (.two (.two .leaf (.two .leaf .leaf)) .leaf)) .leaf)) .leaf))) .leaf)) (.two .leaf .leaf))))) [Value.pointer q, Value.int .i64 now] w K = wp_longshoreref17_Queue_Expire q now w K := by kernel_rfl
theorem ok_longshoreref17_Queue_Expire {q : Option Addr} {now : Int} {w : World} {K : Value → World → Prop} (hwp : wp_longshoreref17_Queue_Expire q now w K) : callP Tryz.prog 41 [.pointer q, .int .i64 now] w K :=
  calls_of Tryz.func41 ((eq_longshoreref17_Queue_Expire q now w K).symm ▸ hwp)

/-- (longshore.longshoreref17.Queue).Len -/
def wp_longshoreref17_Queue_Len (q : Option Addr) (w : World) (K : Value → World → Prop) : Prop :=
  ∃ (I : Nat → Int → Int → World → Prop), (∃ m, I m 0 0 w) ∧ ∀ m n n1 w1, I m n n1 w1 → nn q fun a => ∃ p n2 c, w1.cell? (a.add 5) = some (.slice p n2 c) ∧ Sif (decide (n1 < (↑n2 : Int))) (∃ (J : Int → World → Prop), (∀ n3 w2, J n3 w2 → nameI (IntKind.wrap .i64 (n1 + 1)) fun n4 => ∃ m', m' < m ∧ I m' n3 n4 w2) ∧ nn q fun a1 => ∃ p1 n3 c1, w1.cell? (a1.add 5) = some (.slice p1 n3 c1) ∧ 0 ≤ n1 ∧ n1 < (↑n3 : Int) ∧ nn p1 fun a2 => ∃ n4, w1.cell? (Addr.add (a2.add (Int.toNat n1 * 7)) 5) = some (.int .i64 n4) ∧ Sif (n4 != 0) (nameI (IntKind.wrap .i64 (n + 1)) fun n5 => J n5 w1) (J n w1)) (nn q fun a1 => ∃ p1 n3 c1, w1.cell? (a1.add 5) = some (.slice p1 n3 c1) ∧ nameI (IntKind.wrap .i64 ((↑n3 : Int) - n)) fun n4 => K (.tuple #[.int .i64 n4, .int .i64 n]) w1)
theorem eq_longshoreref17_Queue_Len (q : Option Addr) (w : World) (K : Value → World → Prop) : wpF Tryz.prog none Tryz.f42 (.two .leaf (.two .leaf (.two (.two .leaf (.two (.loop [(4, .cell (.int .i64)), (5, .cell (.int .i64))] (.two (.two .leaf (.two .leaf .leaf)) (.two (.meet [(4, .cell (.int .i64))] (.two (.two .leaf (.two .leaf .leaf)) .leaf)) .leaf))) .leaf)) (.two .leaf .leaf)))) [Value.pointer q] w K = wp_longshoreref17_Queue_Len q w K := by kernel_rfl
theorem ok_longshoreref17_Queue_Len {q : Option Addr} {w : World} {K : Value → World → Prop} (hwp : wp_longshoreref17_Queue_Len q w K) : callP Tryz.prog 42 [.pointer q] w K :=
  calls_of Tryz.func42 ((eq_longshoreref17_Queue_Len q w K).symm ▸ hwp)

/-- (longshore.longshoreref17.Queue).drop -/
def wp_longshoreref17_Queue_drop (q : Option Addr) (at_ : Int) (w : World) (K : Value → World → Prop) : Prop :=
  ∃ (I : Nat → Option Addr → Nat → Nat → Int → World → Prop), (∃ m, I m none 0 0 0 w) ∧ ∀ m p n c n1 w1, I m p n c n1 w1 → nn q fun a => ∃ p1 n2 c1, w1.cell? (a.add 5) = some (.slice p1 n2 c1) ∧ Sif (decide (n1 < (↑n2 : Int))) (∃ (J : Option Addr → Nat → Nat → World → Prop), (∀ p2 n3 c2 w2, J p2 n3 c2 w2 → nameI (IntKind.wrap .i64 (n1 + 1)) fun n4 => ∃ m', m' < m ∧ I m' p2 n3 c2 n4 w2) ∧ Sif (n1 != at_) (nn q fun a1 => ∃ p2 n3 c2, w1.cell? (a1.add 5) = some (.slice p2 n3 c2) ∧ 0 ≤ n1 ∧ n1 < (↑n3 : Int) ∧ nn p2 fun a2 => ∃ n4, w1.cell? (Addr.add (a2.add (Int.toNat n1 * 7)) 0) = some (.int .i64 n4) ∧ ∃ n5, w1.cell? (Addr.add (a2.add (Int.toNat n1 * 7)) 1) = some (.int .i64 n5) ∧ ∃ n6, w1.cell? (Addr.add (a2.add (Int.toNat n1 * 7)) 2) = some (.int .i64 n6) ∧ ∃ b, w1.cell? (Addr.add (a2.add (Int.toNat n1 * 7)) 3) = some (.bool b) ∧ ∃ n7, w1.cell? (Addr.add (a2.add (Int.toNat n1 * 7)) 4) = some (.int .i64 n7) ∧ ∃ n8, w1.cell? (Addr.add (a2.add (Int.toNat n1 * 7)) 5) = some (.int .i64 n8) ∧ ∃ p3 n9 c3, w1.cell? (Addr.add (a2.add (Int.toNat n1 * 7)) 6) = some (.slice p3 n9 c3) ∧ newB w1 [.int .i64 n4, .int .i64 n5, .int .i64 n6, .bool b, .int .i64 n7, .int .i64 n8, .slice p3 n9 c3] 34 fun a3 w2 => ∃ p4 n10, ∃ c4 w3, Sem.run Tryz.prog (Builtin.append_ #[24, 24] 24 #[.slice p n c, .slice (some a3) 1 1]) w2 = Result.ok (.slice p4 n10 c4) w3 ∧ J p4 n10 c4 w3) (J p n c w1)) (nn q fun a1 => st w1 ((a1.add 5).add 0) (.slice p n c) fun w2 => K (.tuple #[]) w2)
theorem eq_longshoreref17_Queue_drop (q : Option Addr) (at_ : Int) (w : World) (K : Value → World → Prop) : wpF Tryz.prog none Tryz.f66 (.two .leaf (.two (.two .leaf (.two (.loop [(4, .cell .slice), (5, .cell (.int .i64))] (.two (.two .leaf (.two .leaf .leaf)) (.two (.meet [(4, .cell .slice)] (.two (.two .leaf (.two .leaf .leaf)) .leaf)) .leaf))) .leaf)) .leaf)) [Value.pointer q, Value.int .i64 at_] w K = wp_longshoreref17_Queue_drop q at_ w K := by kernel_rfl
theorem ok_longshoreref17_Queue_drop {q : Option Addr} {at_ : Int} {w : World} {K : Value → World → Prop} (hwp : wp_longshoreref17_Queue_drop q at_ w K) : callP Tryz.prog 66 [.pointer q, .int .i64 at_] w K :=
  calls_of Tryz.func66 ((eq_longshoreref17_Queue_drop q at_ w K).symm ▸ hwp)

/-- (longshore.longshoreref17.Queue).find -/
def wp_longshoreref17_Queue_find (q : Option Addr) (seq : Int) (w : World) (K : Value → World → Prop) : Prop :=
  ∃ (I : Nat → Int → World → Prop), (∃ m, I m 0 w) ∧ ∀ m n w1, I m n w1 → nn q fun a => ∃ p n1 c, w1.cell? (a.add 5) = some (.slice p n1 c) ∧ Sif (decide (n < (↑n1 : Int))) (nn q fun a1 => ∃ p1 n2 c1, w1.cell? (a1.add 5) = some (.slice p1 n2 c1) ∧ 0 ≤ n ∧ n < (↑n2 : Int) ∧ nn p1 fun a2 => ∃ n3, w1.cell? (Addr.add (a2.add (Int.toNat n * 7)) 0) = some (.int .i64 n3) ∧ Sif (n3 == seq) (K (.int .i64 n) w1) (nameI (IntKind.wrap .i64 (n + 1)) fun n4 => ∃ m', m' < m ∧ I m' n4 w1)) (K (.int .i64 (-1)) w1)
theorem eq_longshoreref17_Queue_find (q : Option Addr) (seq : Int) (w : World) (K : Value → World → Prop) : wpF Tryz.prog none Tryz.f65 (.two .leaf (.two (.two .leaf (.two (.loop [(5, .cell (.int .i64))] (.two (.two .leaf (.two .leaf .leaf)) (.two (.two (.two .leaf (.two (.two .leaf .leaf) .leaf)) .leaf) .leaf))) .leaf)) (.two .leaf .leaf))) [Value.pointer q, Value.int .i64 seq] w K = wp_longshoreref17_Queue_find q seq w K := by kernel_rfl
theorem ok_longshoreref17_Queue_find {q : Option Addr} {seq : Int} {w : World} {K : Value → World → Prop} (hwp : wp_longshoreref17_Queue_find q seq w K) : callP Tryz.prog 65 [.pointer q, .int .i64 seq] w K :=
  calls_of Tryz.func65 ((eq_longshoreref17_Queue_find q seq w K).symm ▸ hwp)

end Go.Proofs.YtipbbjnmpnfhpaaGreatDoor
