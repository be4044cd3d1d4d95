/-
  What a call of each function comes to (definitions 'wp_..', reckoned by a program out of the model's code), and that it is sound ('ok_..'). Written by program (sv.py).
-/
import Derived.Test.YtipbbjnmpnfhpaaDoorSvCode
import Derived.Test.YtipbbjnmpnfhpaaDoorProg
import Derived.KernelRfl
namespace Go.Proofs.YtipbbjnmpnfhpaaDoor
open Go Go.Sv
set_option linter.unusedVariables false

/-- longshore.longshorelaw17.QueueNumbers -/
def wp_longshorelaw17_QueueNumbers (w : World) (K : Value → World → Prop) : Prop :=
  callP Tryd.prog (7 : Nat) [] w fun (v : Value) (w1 : World) => ∃ (b : Bool), v = Value.bool b ∧ Sif b (K (Value.bool true) w1) (K (Value.bool false) w1)
set_option maxRecDepth 100000 in
theorem eq_longshorelaw17_QueueNumbers (w : World) (K : Value → World → Prop) : wpF Tryd.prog none Tryd.f3 (Ann.two Ann.leaf (Ann.two Ann.leaf (Ann.two Ann.leaf Ann.leaf))) [] w K = wp_longshorelaw17_QueueNumbers w K := by kernel_rfl
theorem ok_longshorelaw17_QueueNumbers {w : World} {K : Value → World → Prop} (hwp : wp_longshorelaw17_QueueNumbers w K) : callP Tryd.prog 3 [] w K :=
  calls_of Tryd.func3 ((eq_longshorelaw17_QueueNumbers w K).symm ▸ hwp)

/-- longshore.longshorelaw17.QueueMakes -/
def wp_longshorelaw17_QueueMakes (c_0 : ByteArray) (c_1 : Int) (c_2 : ByteArray) (c_3 : Int) (c_4 : Bool) (w : World) (K : Value → World → Prop) : Prop :=
  newB w [Value.string c_0, Value.int IntKind.i64 c_1, Value.string c_2, Value.int IntKind.i64 c_3, Value.bool c_4] (24 : Nat) fun (a : Addr) (w1 : World) =>
  callP Tryd.prog (7 : Nat) [] w1 fun (v : Value) (w2 : World) =>
  ∃ (b : Bool),
  v = Value.bool b ∧
  ∃ (s : ByteArray),
  World.cell? w2 (Addr.add a (0 : Nat)) = some (Value.string s) ∧
  ∃ (n : Int),
  World.cell? w2 (Addr.add a (1 : Nat)) = some (Value.int IntKind.i64 n) ∧
  ∃ (s1 : ByteArray),
  World.cell? w2 (Addr.add a (2 : Nat)) = some (Value.string s1) ∧
  ∃ (n1 : Int),
  World.cell? w2 (Addr.add a (3 : Nat)) = some (Value.int IntKind.i64 n1) ∧
  ∃ (b1 : Bool),
  World.cell? w2 (Addr.add a (4 : Nat)) = some (Value.bool b1) ∧
  callP Tryd.prog (8 : Nat) [Value.agg (Array.mk [Value.string s, Value.int IntKind.i64 n, Value.string s1, Value.int IntKind.i64 n1, Value.bool b1])] w2 fun (v1 : Value) (w3 : World) =>
  ∃ (p : Option Addr), v1 = Value.pointer p ∧ ∃ (s2 : ByteArray), World.cell? w3 (Addr.add a (0 : Nat)) = some (Value.string s2) ∧ ∃ (n2 : Int), World.cell? w3 (Addr.add a (1 : Nat)) = some (Value.int IntKind.i64 n2) ∧ ∃ (s3 : ByteArray), World.cell? w3 (Addr.add a (2 : Nat)) = some (Value.string s3) ∧ ∃ (n3 : Int), World.cell? w3 (Addr.add a (3 : Nat)) = some (Value.int IntKind.i64 n3) ∧ ∃ (b2 : Bool), World.cell? w3 (Addr.add a (4 : Nat)) = some (Value.bool b2) ∧ callP Tryd.prog (9 : Nat) [Value.agg (Array.mk [Value.string s2, Value.int IntKind.i64 n2, Value.string s3, Value.int IntKind.i64 n3, Value.bool b2])] w3 fun (v2 : Value) (w4 : World) => ∃ (p1 : Option Addr), v2 = Value.pointer p1 ∧ ∃ (J : World → Prop), (∀ (w5 : World), J w5 → callP Tryd.prog (10 : Nat) [Value.pointer p] w5 fun (v3 : Value) (w6 : World) => ∃ (n4 : Int), ∃ (n5 : Int), v3 = Value.tuple (Array.mk [Value.int IntKind.i64 n4, Value.int IntKind.i64 n5]) ∧ Sif b (∃ (s4 : ByteArray), World.cell? (World.drew w6) (Addr.add a (0 : Nat)) = some (Value.string s4) ∧ ∃ (n6 : Int), World.cell? (World.drew w6) (Addr.add a (1 : Nat)) = some (Value.int IntKind.i64 n6) ∧ ∃ (s5 : ByteArray), World.cell? (World.drew w6) (Addr.add a (2 : Nat)) = some (Value.string s5) ∧ ∃ (n7 : Int), World.cell? (World.drew w6) (Addr.add a (3 : Nat)) = some (Value.int IntKind.i64 n7) ∧ ∃ (b3 : Bool), World.cell? (World.drew w6) (Addr.add a (4 : Nat)) = some (Value.bool b3) ∧ callP Tryd.prog (11 : Nat) [Value.pointer p] (World.drew w6) fun (v4 : Value) (w7 : World) => ∃ (s6 : ByteArray), ∃ (n8 : Int), ∃ (s7 : ByteArray), ∃ (n9 : Int), ∃ (b4 : Bool), v4 = Value.agg (Array.mk [Value.string s6, Value.int IntKind.i64 n8, Value.string s7, Value.int IntKind.i64 n9, Value.bool b4]) ∧ (∃ (s8 : ByteArray), World.cell? w7 (Addr.add a (0 : Nat)) = some (Value.string s8) ∧ ∃ (n10 : Int), World.cell? w7 (Addr.add a (1 : Nat)) = some (Value.int IntKind.i64 n10) ∧ ∃ (s9 : ByteArray), World.cell? w7 (Addr.add a (2 : Nat)) = some (Value.string s9) ∧ ∃ (n11 : Int), World.cell? w7 (Addr.add a (3 : Nat)) = some (Value.int IntKind.i64 n11) ∧ ∃ (b5 : Bool), World.cell? w7 (Addr.add a (4 : Nat)) = some (Value.bool b5) ∧ Value.agg (Array.mk [Value.string s8, Value.int IntKind.i64 n10, Value.string s9, Value.int IntKind.i64 n11, Value.bool b5]) = Value.agg (Array.mk [Value.string s4, Value.int IntKind.i64 n6, Value.string s5, Value.int IntKind.i64 n7, Value.bool b3])) ∧ Sif (ByteArray.toList s6 == ByteArray.toList s4 && (n8 == n6 && (ByteArray.toList s7 == ByteArray.toList s5 && (n9 == n7 && (b4 == b3 && true))))) (Sif (n4 == (0 : Int)) (K (Value.bool (n5 == (0 : Int))) w7) (K (Value.bool false) w7)) (K (Value.bool false) w7)) (K (Value.bool false) (World.drew w6))) ∧ Sif (!Option.isNone p) (Sif (Option.isNone p1) (Sif b (K (Value.bool (Option.isNone p == Option.isNone p1)) w4) (K (Value.bool false) w4)) (J w4)) (Sif b (K (Value.bool (Option.isNone p == Option.isNone p1)) w4) (K (Value.bool false) w4))
set_option maxRecDepth 100000 in
theorem eq_longshorelaw17_QueueMakes (c_0 : ByteArray) (c_1 : Int) (c_2 : ByteArray) (c_3 : Int) (c_4 : Bool) (w : World) (K : Value → World → Prop) : wpF Tryd.prog none Tryd.f4 (Ann.two Ann.leaf (Ann.two Ann.leaf (Ann.two Ann.leaf (Ann.two Ann.leaf (Ann.two (Ann.meet [] (Ann.two Ann.leaf (Ann.two (Ann.two Ann.leaf Ann.leaf) Ann.leaf))) (Ann.two Ann.leaf (Ann.two (Ann.draw [(0 : Nat), (1 : Nat), (2 : Nat), (4 : Nat), (3 : Nat), (5 : Nat), (6 : Nat), (7 : Nat), (8 : Nat), (9 : Nat), (10 : Nat), (11 : Nat), (12 : Nat), (13 : Nat), (14 : Nat), (15 : Nat)]) Ann.leaf))))))) [Value.agg #[Value.string c_0, Value.int IntKind.i64 c_1, Value.string c_2, Value.int IntKind.i64 c_3, Value.bool c_4]] w K = wp_longshorelaw17_QueueMakes c_0 c_1 c_2 c_3 c_4 w K := by kernel_rfl
theorem ok_longshorelaw17_QueueMakes {c_0 : ByteArray} {c_1 : Int} {c_2 : ByteArray} {c_3 : Int} {c_4 : Bool} {w : World} {K : Value → World → Prop} (hwp : wp_longshorelaw17_QueueMakes c_0 c_1 c_2 c_3 c_4 w K) : callP Tryd.prog 4 [.agg #[.string c_0, .int .i64 c_1, .string c_2, .int .i64 c_3, .bool c_4]] w K :=
  calls_of Tryd.func4 ((eq_longshorelaw17_QueueMakes c_0 c_1 c_2 c_3 c_4 w K).symm ▸ hwp)

set_option maxRecDepth 100000 in
/-- longshore.longshorelaw17.QueueOrder -/
def wp_longshorelaw17_QueueOrder (entries : Option Addr) (entriesn : Nat) (entriesc : Nat) (takes : Option Addr) (takesn : Nat) (takesc : Nat) (w : World) (K : Value → World → Prop) : Prop :=
  callP Tryd.prog (7 : Nat) [] w fun (v : Value) (w1 : World) =>
  ∃ (b : Bool),
  v = Value.bool b ∧
  callP Tryd.prog (8 : Nat) [Value.agg (Array.mk [Value.string (ByteArray.mk (Array.mk [(113 : UInt8)])), Value.int IntKind.i64 (4096 : Int), Value.string (ByteArray.mk (Array.mk [])), Value.int IntKind.i64 (0 : Int), Value.bool false])] w1 fun (v1 : Value) (w2 : World) =>
  ∃ (p : Option Addr),
  v1 = Value.pointer p ∧
  ∃ (J : World → Prop),
  (∀ (w3 : World),
  J w3 →
  ∃ (I : Nat → Option Addr → Nat → Nat → Int → Int → World → Prop),
  (∃ (m : Nat), I m none (0 : Nat) (0 : Nat) (0 : Int) (0 : Int) w3) ∧
  ∀ (m : Nat) (p1 : Option Addr) (n c : Nat) (n1 n2 : Int) (w4 : World),
  I m p1 n c n1 n2 w4 →
  Sif (decide (n2 < (↑entriesn : Int)))
  (∃ (J1 : Option Addr → Nat → Nat → Int → World → Prop),
  (∀ (p2 : Option Addr) (n3 c1 : Nat) (n4 : Int) (w5 : World), J1 p2 n3 c1 n4 w5 → nameI (IntKind.wrap IntKind.i64 (n2 + (1 : Int))) fun (n5 : Int) => ∃ (m' : Nat), m' < m ∧ I m' p2 n3 c1 n4 n5 w5) ∧
  nameI (IntKind.wrap IntKind.i64 (n1 + (1 : Int))) fun (n3 : Int) =>
  (0 : Int) ≤ n2 ∧
  n2 < (↑entriesn : Int) ∧
  nn entries fun (a : Addr) =>
  ∃ (n4 : Int),
  World.cell? w4 (Addr.add (Addr.add a (Int.toNat n2 * (7 : Nat))) (0 : Nat)) = some (Value.int IntKind.i64 n4) ∧
  ∃ (n5 : Int),
  World.cell? w4 (Addr.add (Addr.add a (Int.toNat n2 * (7 : Nat))) (1 : Nat)) = some (Value.int IntKind.i64 n5) ∧
  ∃ (n6 : Int),
  World.cell? w4 (Addr.add (Addr.add a (Int.toNat n2 * (7 : Nat))) (2 : Nat)) = some (Value.int IntKind.i64 n6) ∧
  ∃ (b1 : Bool),
  World.cell? w4 (Addr.add (Addr.add a (Int.toNat n2 * (7 : Nat))) (3 : Nat)) = some (Value.bool b1) ∧
  ∃ (n7 : Int),
  World.cell? w4 (Addr.add (Addr.add a (Int.toNat n2 * (7 : Nat))) (4 : Nat)) = some (Value.int IntKind.i64 n7) ∧
  ∃ (n8 : Int),
  World.cell? w4 (Addr.add (Addr.add a (Int.toNat n2 * (7 : Nat))) (5 : Nat)) = some (Value.int IntKind.i64 n8) ∧
  ∃ (p2 : Option Addr),
  ∃ (n9 : Nat),
  ∃ (c1 : Nat),
  World.cell? w4 (Addr.add (Addr.add a (Int.toNat n2 * (7 : Nat))) (6 : Nat)) = some (Value.slice p2 n9 c1) ∧
  newB w4 [Value.int IntKind.i64 (0 : Int), Value.int IntKind.i64 (0 : Int), Value.int IntKind.i64 (0 : Int), Value.bool false, Value.int IntKind.i64 (0 : Int), Value.int IntKind.i64 (0 : Int), Value.slice none (0 : Nat) (0 : Nat)] (37 : Nat) fun (a1 : Addr) (w5 : World) =>
  st w5 (Addr.add a1 (0 : Nat)) (Value.int IntKind.i64 n4) fun (w6 : World) =>
  st w6 (Addr.add a1 (1 : Nat)) (Value.int IntKind.i64 n5) fun (w7 : World) =>
  st w7 (Addr.add a1 (2 : Nat)) (Value.int IntKind.i64 n6) fun (w8 : World) =>
  st w8 (Addr.add a1 (3 : Nat)) (Value.bool b1) fun (w9 : World) =>
  st w9 (Addr.add a1 (4 : Nat)) (Value.int IntKind.i64 n7) fun (w10 : World) =>
  st w10 (Addr.add a1 (5 : Nat)) (Value.int IntKind.i64 n8) fun (w11 : World) =>
  st w11 (Addr.add a1 (6 : Nat)) (Value.slice p2 n9 c1) fun (w12 : World) =>
  st w12 (Addr.add (Addr.add a1 (0 : Nat)) (0 : Nat)) (Value.int IntKind.i64 n3) fun (w13 : World) =>
  st w13 (Addr.add (Addr.add a1 (5 : Nat)) (0 : Nat)) (Value.int IntKind.i64 (0 : Int)) fun (w14 : World) =>
  ∃ (n10 : Int),
  World.cell? w14 (Addr.add a1 (0 : Nat)) = some (Value.int IntKind.i64 n10) ∧
  ∃ (n11 : Int),
  World.cell? w14 (Addr.add a1 (1 : Nat)) = some (Value.int IntKind.i64 n11) ∧
  ∃ (n12 : Int),
  World.cell? w14 (Addr.add a1 (2 : Nat)) = some (Value.int IntKind.i64 n12) ∧
  ∃ (b2 : Bool),
  World.cell? w14 (Addr.add a1 (3 : Nat)) = some (Value.bool b2) ∧
  ∃ (n13 : Int),
  World.cell? w14 (Addr.add a1 (4 : Nat)) = some (Value.int IntKind.i64 n13) ∧
  ∃ (n14 : Int),
  World.cell? w14 (Addr.add a1 (5 : Nat)) = some (Value.int IntKind.i64 n14) ∧
  ∃ (p3 : Option Addr),
  ∃ (n15 : Nat),
  ∃ (c2 : Nat),
  World.cell? w14 (Addr.add a1 (6 : Nat)) = some (Value.slice p3 n15 c2) ∧
  callP Tryd.prog (12 : Nat) [Value.pointer p, Value.agg (Array.mk [Value.int IntKind.i64 n10, Value.int IntKind.i64 n11, Value.int IntKind.i64 n12, Value.bool b2, Value.int IntKind.i64 n13, Value.int IntKind.i64 n14, Value.slice p3 n15 c2])] w14 fun (v2 : Value) (w15 : World) =>
  ∃ (n16 : Int),
  v2 = Value.int IntKind.i64 n16 ∧
  ∃ (J2 : Option Addr → Nat → Nat → World → Prop),
  (∀ (p4 : Option Addr) (n17 c3 : Nat) (w16 : World),
  J2 p4 n17 c3 w16 →
  ∃ (J3 : Int → World → Prop),
  (∀ (n18 : Int) (w17 : World),
  J3 n18 w17 →
  ∃ (J4 : Int → World → Prop),
  (∀ (n19 : Int) (w18 : World),
  J4 n19 w18 →
  ∃ (I1 : Nat → Option Addr → Nat → Nat → Int → World → Prop),
  (∃ (m1 : Nat), I1 m1 p4 n17 c3 n19 w18) ∧
  ∀ (m1 : Nat) (p5 : Option Addr) (n20 c4 : Nat) (n21 : Int) (w19 : World),
  I1 m1 p5 n20 c4 n21 w19 →
  Sif (decide (n21 > (0 : Int)))
  (nameI (IntKind.wrap IntKind.i64 (n21 - (1 : Int))) fun (n22 : Int) =>
  callP Tryd.prog (13 : Nat) [Value.pointer p, Value.int IntKind.i64 (IntKind.wrap IntKind.i64 ((1 : Int) + n2)), Value.nilFunc] w19 fun (v3 : Value) (w20 : World) =>
  ∃ (n23 : Int),
  ∃ (n24 : Int),
  ∃ (n25 : Int),
  ∃ (b3 : Bool),
  ∃ (n26 : Int),
  ∃ (n27 : Int),
  ∃ (p6 : Option Addr),
  ∃ (n28 : Nat),
  ∃ (c5 : Nat),
  ∃ (b4 : Bool),
  v3 = Value.tuple (Array.mk [Value.agg (Array.mk [Value.int IntKind.i64 n23, Value.int IntKind.i64 n24, Value.int IntKind.i64 n25, Value.bool b3, Value.int IntKind.i64 n26, Value.int IntKind.i64 n27, Value.slice p6 n28 c5]), Value.bool b4]) ∧
  newB w20 [Value.int IntKind.i64 (0 : Int), Value.int IntKind.i64 (0 : Int), Value.int IntKind.i64 (0 : Int), Value.bool false, Value.int IntKind.i64 (0 : Int), Value.int IntKind.i64 (0 : Int), Value.slice none (0 : Nat) (0 : Nat)] (37 : Nat) fun (a2 : Addr) (w21 : World) =>
  st w21 (Addr.add a2 (0 : Nat)) (Value.int IntKind.i64 n23) fun (w22 : World) =>
  st w22 (Addr.add a2 (1 : Nat)) (Value.int IntKind.i64 n24) fun (w23 : World) =>
  st w23 (Addr.add a2 (2 : Nat)) (Value.int IntKind.i64 n25) fun (w24 : World) =>
  st w24 (Addr.add a2 (3 : Nat)) (Value.bool b3) fun (w25 : World) =>
  st w25 (Addr.add a2 (4 : Nat)) (Value.int IntKind.i64 n26) fun (w26 : World) =>
  st w26 (Addr.add a2 (5 : Nat)) (Value.int IntKind.i64 n27) fun (w27 : World) =>
  st w27 (Addr.add a2 (6 : Nat)) (Value.slice p6 n28 c5) fun (w28 : World) =>
  ∃ (I2 : Nat → Int → Int → World → Prop),
  (∃ (m2 : Nat), I2 m2 (-1 : Int) (0 : Int) w28) ∧
  ∀ (m2 : Nat) (n29 n30 : Int) (w29 : World),
  I2 m2 n29 n30 w29 →
  Sif (decide (n30 < (↑n20 : Int))) (∃ (J5 : Int → World → Prop), (∀ (n31 : Int) (w30 : World), J5 n31 w30 → nameI (IntKind.wrap IntKind.i64 (n30 + (1 : Int))) fun (n32 : Int) => ∃ (m' : Nat), m' < m2 ∧ I2 m' n31 n32 w30) ∧ Sif (!decide (n29 < (0 : Int))) ((0 : Int) ≤ n30 ∧ n30 < (↑n20 : Int) ∧ nn p5 fun (a3 : Addr) => (0 : Int) ≤ n29 ∧ n29 < (↑n20 : Int) ∧ nn p5 fun (a4 : Addr) => ∃ (n31 : Int), World.cell? (World.drew w29) (Addr.add (Addr.add a3 (Int.toNat n30 * (7 : Nat))) (1 : Nat)) = some (Value.int IntKind.i64 n31) ∧ ∃ (n32 : Int), World.cell? (World.drew w29) (Addr.add (Addr.add a4 (Int.toNat n29 * (7 : Nat))) (1 : Nat)) = some (Value.int IntKind.i64 n32) ∧ Sif (decide (n31 > n32)) (J5 n30 (World.drew w29)) (J5 n29 (World.drew w29))) (J5 n30 (World.drew w29)))
  (Sif (!b4 == decide (n29 ≥ (0 : Int))) (K (Value.bool false) w29)
  (Sif (!b4) (J1 p5 n20 c4 n3 w29)
  ((0 : Int) ≤ n29 ∧
  n29 < (↑n20 : Int) ∧
  nn p5 fun (a3 : Addr) =>
  ∃ (n31 : Int),
  World.cell? w29 (Addr.add (Addr.add a3 (Int.toNat n29 * (7 : Nat))) (0 : Nat)) = some (Value.int IntKind.i64 n31) ∧
  ∃ (n32 : Int),
  World.cell? w29 (Addr.add (Addr.add a3 (Int.toNat n29 * (7 : Nat))) (1 : Nat)) = some (Value.int IntKind.i64 n32) ∧
  ∃ (n33 : Int),
  World.cell? w29 (Addr.add (Addr.add a3 (Int.toNat n29 * (7 : Nat))) (2 : Nat)) = some (Value.int IntKind.i64 n33) ∧
  ∃ (b5 : Bool),
  World.cell? w29 (Addr.add (Addr.add a3 (Int.toNat n29 * (7 : Nat))) (3 : Nat)) = some (Value.bool b5) ∧
  ∃ (n34 : Int),
  World.cell? w29 (Addr.add (Addr.add a3 (Int.toNat n29 * (7 : Nat))) (4 : Nat)) = some (Value.int IntKind.i64 n34) ∧
  ∃ (n35 : Int),
  World.cell? w29 (Addr.add (Addr.add a3 (Int.toNat n29 * (7 : Nat))) (5 : Nat)) = some (Value.int IntKind.i64 n35) ∧
  ∃ (p7 : Option Addr),
  ∃ (n36 : Nat),
  ∃ (c6 : Nat),
  World.cell? w29 (Addr.add (Addr.add a3 (Int.toNat n29 * (7 : Nat))) (6 : Nat)) = some (Value.slice p7 n36 c6) ∧
  newB w29 [Value.int IntKind.i64 (0 : Int), Value.int IntKind.i64 (0 : Int), Value.int IntKind.i64 (0 : Int), Value.bool false, Value.int IntKind.i64 (0 : Int), Value.int IntKind.i64 (0 : Int), Value.slice none (0 : Nat) (0 : Nat)] (37 : Nat) fun (a4 : Addr) (w30 : World) =>
  st w30 (Addr.add a4 (0 : Nat)) (Value.int IntKind.i64 n31) fun (w31 : World) =>
  st w31 (Addr.add a4 (1 : Nat)) (Value.int IntKind.i64 n32) fun (w32 : World) =>
  st w32 (Addr.add a4 (2 : Nat)) (Value.int IntKind.i64 n33) fun (w33 : World) =>
  st w33 (Addr.add a4 (3 : Nat)) (Value.bool b5) fun (w34 : World) =>
  st w34 (Addr.add a4 (4 : Nat)) (Value.int IntKind.i64 n34) fun (w35 : World) =>
  st w35 (Addr.add a4 (5 : Nat)) (Value.int IntKind.i64 n35) fun (w36 : World) =>
  st w36 (Addr.add a4 (6 : Nat)) (Value.slice p7 n36 c6) fun (w37 : World) =>
  st w37 (Addr.add (Addr.add a4 (5 : Nat)) (0 : Nat)) (Value.int IntKind.i64 (IntKind.wrap IntKind.i64 ((1 : Int) + n2))) fun (w38 : World) =>
  ∃ (n37 : Int),
  World.cell? w38 (Addr.add a2 (0 : Nat)) = some (Value.int IntKind.i64 n37) ∧
  ∃ (n38 : Int),
  World.cell? w38 (Addr.add a2 (1 : Nat)) = some (Value.int IntKind.i64 n38) ∧
  ∃ (n39 : Int),
  World.cell? w38 (Addr.add a2 (2 : Nat)) = some (Value.int IntKind.i64 n39) ∧
  ∃ (b6 : Bool),
  World.cell? w38 (Addr.add a2 (3 : Nat)) = some (Value.bool b6) ∧
  ∃ (n40 : Int),
  World.cell? w38 (Addr.add a2 (4 : Nat)) = some (Value.int IntKind.i64 n40) ∧
  ∃ (n41 : Int),
  World.cell? w38 (Addr.add a2 (5 : Nat)) = some (Value.int IntKind.i64 n41) ∧
  ∃ (p8 : Option Addr),
  ∃ (n42 : Nat),
  ∃ (c7 : Nat),
  World.cell? w38 (Addr.add a2 (6 : Nat)) = some (Value.slice p8 n42 c7) ∧
  ∃ (n43 : Int),
  World.cell? w38 (Addr.add a4 (0 : Nat)) = some (Value.int IntKind.i64 n43) ∧
  ∃ (n44 : Int),
  World.cell? w38 (Addr.add a4 (1 : Nat)) = some (Value.int IntKind.i64 n44) ∧
  ∃ (n45 : Int),
  World.cell? w38 (Addr.add a4 (2 : Nat)) = some (Value.int IntKind.i64 n45) ∧
  ∃ (b7 : Bool),
  World.cell? w38 (Addr.add a4 (3 : Nat)) = some (Value.bool b7) ∧
  ∃ (n46 : Int),
  World.cell? w38 (Addr.add a4 (4 : Nat)) = some (Value.int IntKind.i64 n46) ∧
  ∃ (n47 : Int),
  World.cell? w38 (Addr.add a4 (5 : Nat)) = some (Value.int IntKind.i64 n47) ∧
  ∃ (p9 : Option Addr),
  ∃ (n48 : Nat),
  ∃ (c8 : Nat),
  World.cell? w38 (Addr.add a4 (6 : Nat)) = some (Value.slice p9 n48 c8) ∧
  callP Tryd.prog (14 : Nat) [Value.agg (Array.mk [Value.int IntKind.i64 n37, Value.int IntKind.i64 n38, Value.int IntKind.i64 n39, Value.bool b6, Value.int IntKind.i64 n40, Value.int IntKind.i64 n41, Value.slice p8 n42 c7]), Value.agg (Array.mk [Value.int IntKind.i64 n43, Value.int IntKind.i64 n44, Value.int IntKind.i64 n45, Value.bool b7, Value.int IntKind.i64 n46, Value.int IntKind.i64 n47, Value.slice p9 n48 c8])] w38 fun (v4 : Value) (w39 : World) =>
  ∃ (b8 : Bool),
  v4 = Value.bool b8 ∧
  ∃ (n49 : Int),
  World.cell? w39 (Addr.add a2 (0 : Nat)) = some (Value.int IntKind.i64 n49) ∧
  callP Tryd.prog (15 : Nat) [Value.pointer p, Value.int IntKind.i64 n49, Value.int IntKind.i64 (IntKind.wrap IntKind.i64 ((1 : Int) + n2))] w39 fun (v5 : Value) (w40 : World) =>
  ∃ (n50 : Int),
  ∃ (n51 : Int),
  ∃ (n52 : Int),
  ∃ (b9 : Bool),
  ∃ (n53 : Int),
  ∃ (n54 : Int),
  ∃ (p10 : Option Addr),
  ∃ (n55 : Nat),
  ∃ (c9 : Nat),
  ∃ (n56 : Int),
  v5 = Value.tuple (Array.mk [Value.agg (Array.mk [Value.int IntKind.i64 n50, Value.int IntKind.i64 n51, Value.int IntKind.i64 n52, Value.bool b9, Value.int IntKind.i64 n53, Value.int IntKind.i64 n54, Value.slice p10 n55 c9]), Value.int IntKind.i64 n56]) ∧
  newB w40 [Value.int IntKind.i64 (0 : Int), Value.int IntKind.i64 (0 : Int), Value.int IntKind.i64 (0 : Int), Value.bool false, Value.int IntKind.i64 (0 : Int), Value.int IntKind.i64 (0 : Int), Value.slice none (0 : Nat) (0 : Nat)] (37 : Nat) fun (a5 : Addr) (w41 : World) =>
  st w41 (Addr.add a5 (0 : Nat)) (Value.int IntKind.i64 n50) fun (w42 : World) =>
  st w42 (Addr.add a5 (1 : Nat)) (Value.int IntKind.i64 n51) fun (w43 : World) =>
  st w43 (Addr.add a5 (2 : Nat)) (Value.int IntKind.i64 n52) fun (w44 : World) =>
  st w44 (Addr.add a5 (3 : Nat)) (Value.bool b9) fun (w45 : World) =>
  st w45 (Addr.add a5 (4 : Nat)) (Value.int IntKind.i64 n53) fun (w46 : World) =>
  st w46 (Addr.add a5 (5 : Nat)) (Value.int IntKind.i64 n54) fun (w47 : World) =>
  st w47 (Addr.add a5 (6 : Nat)) (Value.slice p10 n55 c9) fun (w48 : World) =>
  ∃ (n57 : Int),
  World.cell? w48 (Addr.add a5 (0 : Nat)) = some (Value.int IntKind.i64 n57) ∧
  ∃ (n58 : Int),
  World.cell? w48 (Addr.add a5 (1 : Nat)) = some (Value.int IntKind.i64 n58) ∧
  ∃ (n59 : Int),
  World.cell? w48 (Addr.add a5 (2 : Nat)) = some (Value.int IntKind.i64 n59) ∧
  ∃ (b10 : Bool),
  World.cell? w48 (Addr.add a5 (3 : Nat)) = some (Value.bool b10) ∧
  ∃ (n60 : Int),
  World.cell? w48 (Addr.add a5 (4 : Nat)) = some (Value.int IntKind.i64 n60) ∧
  ∃ (n61 : Int),
  World.cell? w48 (Addr.add a5 (5 : Nat)) = some (Value.int IntKind.i64 n61) ∧
  ∃ (p11 : Option Addr),
  ∃ (n62 : Nat),
  ∃ (c10 : Nat),
  World.cell? w48 (Addr.add a5 (6 : Nat)) = some (Value.slice p11 n62 c10) ∧
  ∃ (n63 : Int),
  World.cell? w48 (Addr.add a4 (0 : Nat)) = some (Value.int IntKind.i64 n63) ∧
  ∃ (n64 : Int),
  World.cell? w48 (Addr.add a4 (1 : Nat)) = some (Value.int IntKind.i64 n64) ∧
  ∃ (n65 : Int),
  World.cell? w48 (Addr.add a4 (2 : Nat)) = some (Value.int IntKind.i64 n65) ∧
  ∃ (b11 : Bool),
  World.cell? w48 (Addr.add a4 (3 : Nat)) = some (Value.bool b11) ∧
  ∃ (n66 : Int),
  World.cell? w48 (Addr.add a4 (4 : Nat)) = some (Value.int IntKind.i64 n66) ∧
  ∃ (n67 : Int),
  World.cell? w48 (Addr.add a4 (5 : Nat)) = some (Value.int IntKind.i64 n67) ∧
  ∃ (p12 : Option Addr),
  ∃ (n68 : Nat),
  ∃ (c11 : Nat),
  World.cell? w48 (Addr.add a4 (6 : Nat)) = some (Value.slice p12 n68 c11) ∧
  callP Tryd.prog (14 : Nat) [Value.agg (Array.mk [Value.int IntKind.i64 n57, Value.int IntKind.i64 n58, Value.int IntKind.i64 n59, Value.bool b10, Value.int IntKind.i64 n60, Value.int IntKind.i64 n61, Value.slice p11 n62 c10]), Value.agg (Array.mk [Value.int IntKind.i64 n63, Value.int IntKind.i64 n64, Value.int IntKind.i64 n65, Value.bool b11, Value.int IntKind.i64 n66, Value.int IntKind.i64 n67, Value.slice p12 n68 c11])] w48 fun (v6 : Value) (w49 : World) =>
  ∃ (b12 : Bool), v6 = Value.bool b12 ∧ ∃ (J5 : World → Prop), (∀ (w50 : World), J5 w50 → ∃ (I3 : Nat → Option Addr → Nat → Nat → Int → World → Prop), (∃ (m3 : Nat), I3 m3 none (0 : Nat) (0 : Nat) (0 : Int) w50) ∧ ∀ (m3 : Nat) (p13 : Option Addr) (n69 c12 : Nat) (n70 : Int) (w51 : World), I3 m3 p13 n69 c12 n70 w51 → Sif (decide (n70 < (↑n20 : Int))) (∃ (J6 : Option Addr → Nat → Nat → World → Prop), (∀ (p14 : Option Addr) (n71 c13 : Nat) (w52 : World), J6 p14 n71 c13 w52 → nameI (IntKind.wrap IntKind.i64 (n70 + (1 : Int))) fun (n72 : Int) => ∃ (m' : Nat), m' < m3 ∧ I3 m' p14 n71 c13 n72 w52) ∧ Sif (n70 != n29) ((0 : Int) ≤ n70 ∧ n70 < (↑n20 : Int) ∧ nn p5 fun (a6 : Addr) => ∃ (n71 : Int), World.cell? w51 (Addr.add (Addr.add a6 (Int.toNat n70 * (7 : Nat))) (0 : Nat)) = some (Value.int IntKind.i64 n71) ∧ ∃ (n72 : Int), World.cell? w51 (Addr.add (Addr.add a6 (Int.toNat n70 * (7 : Nat))) (1 : Nat)) = some (Value.int IntKind.i64 n72) ∧ ∃ (n73 : Int), World.cell? w51 (Addr.add (Addr.add a6 (Int.toNat n70 * (7 : Nat))) (2 : Nat)) = some (Value.int IntKind.i64 n73) ∧ ∃ (b13 : Bool), World.cell? w51 (Addr.add (Addr.add a6 (Int.toNat n70 * (7 : Nat))) (3 : Nat)) = some (Value.bool b13) ∧ ∃ (n74 : Int), World.cell? w51 (Addr.add (Addr.add a6 (Int.toNat n70 * (7 : Nat))) (4 : Nat)) = some (Value.int IntKind.i64 n74) ∧ ∃ (n75 : Int), World.cell? w51 (Addr.add (Addr.add a6 (Int.toNat n70 * (7 : Nat))) (5 : Nat)) = some (Value.int IntKind.i64 n75) ∧ ∃ (p14 : Option Addr), ∃ (n76 : Nat), ∃ (c13 : Nat), World.cell? w51 (Addr.add (Addr.add a6 (Int.toNat n70 * (7 : Nat))) (6 : Nat)) = some (Value.slice p14 n76 c13) ∧ newB w51 [Value.int IntKind.i64 n71, Value.int IntKind.i64 n72, Value.int IntKind.i64 n73, Value.bool b13, Value.int IntKind.i64 n74, Value.int IntKind.i64 n75, Value.slice p14 n76 c13] (37 : Nat) fun (a7 : Addr) (w52 : World) => ∃ (p15 : Option Addr), ∃ (n77 : Nat), ∃ (c14 : Nat), ∃ (w53 : World), Sem.run Tryd.prog (Builtin.append_ (Array.mk [(33 : Nat), (33 : Nat)]) (33 : Nat) (Array.mk [Value.slice p13 n69 c12, Value.slice (some a7) (1 : Nat) (1 : Nat)])) w52 = Result.ok (Value.slice p15 n77 c14) w53 ∧ J6 p15 n77 c14 w53) (J6 p13 n69 c12 w51)) (∃ (m' : Nat), m' < m1 ∧ I1 m' p13 n69 c12 n22 w51)) ∧ Sif (!!b8) (Sif (!!b12) (Sif (n56 != (0 : Int)) (K (Value.bool false) w49) (J5 w49)) (K (Value.bool false) w49)) (K (Value.bool false) w49)))))
  (J1 p5 n20 c4 n3 w19)) ∧
  Sif (n2 == IntKind.wrap IntKind.i64 ((↑entriesn : Int) - (1 : Int))) (J4 (↑n17 : Int) w17) (J4 n18 w17)) ∧
  Sif (decide (n2 < (↑takesn : Int))) ((0 : Int) ≤ n2 ∧ n2 < (↑takesn : Int) ∧ nn takes fun (a2 : Addr) => ∃ (n18 : Int), World.cell? w16 (Addr.add a2 (Int.toNat n2 * (1 : Nat))) = some (Value.int IntKind.i64 n18) ∧ (4 : Int) ≠ (0 : Int) ∧ nameI (Int.tmod n18 (4 : Int)) fun (n19 : Int) => J3 n19 w16) (J3 (0 : Int) w16)) ∧
  Sif (n16 == (0 : Int)) (∃ (n17 : Int), World.cell? w15 (Addr.add a1 (0 : Nat)) = some (Value.int IntKind.i64 n17) ∧ ∃ (n18 : Int), World.cell? w15 (Addr.add a1 (1 : Nat)) = some (Value.int IntKind.i64 n18) ∧ ∃ (n19 : Int), World.cell? w15 (Addr.add a1 (2 : Nat)) = some (Value.int IntKind.i64 n19) ∧ ∃ (b3 : Bool), World.cell? w15 (Addr.add a1 (3 : Nat)) = some (Value.bool b3) ∧ ∃ (n20 : Int), World.cell? w15 (Addr.add a1 (4 : Nat)) = some (Value.int IntKind.i64 n20) ∧ ∃ (n21 : Int), World.cell? w15 (Addr.add a1 (5 : Nat)) = some (Value.int IntKind.i64 n21) ∧ ∃ (p4 : Option Addr), ∃ (n22 : Nat), ∃ (c3 : Nat), World.cell? w15 (Addr.add a1 (6 : Nat)) = some (Value.slice p4 n22 c3) ∧ newB w15 [Value.int IntKind.i64 n17, Value.int IntKind.i64 n18, Value.int IntKind.i64 n19, Value.bool b3, Value.int IntKind.i64 n20, Value.int IntKind.i64 n21, Value.slice p4 n22 c3] (37 : Nat) fun (a2 : Addr) (w16 : World) => ∃ (p5 : Option Addr), ∃ (n23 : Nat), ∃ (c4 : Nat), ∃ (w17 : World), Sem.run Tryd.prog (Builtin.append_ (Array.mk [(33 : Nat), (33 : Nat)]) (33 : Nat) (Array.mk [Value.slice p1 n c, Value.slice (some a2) (1 : Nat) (1 : Nat)])) w16 = Result.ok (Value.slice p5 n23 c4) w17 ∧ J2 p5 n23 c4 w17) (J2 p1 n c w15))
  (callP Tryd.prog (10 : Nat) [Value.pointer p] w4 fun (v2 : Value) (w5 : World) => ∃ (n3 : Int), ∃ (n4 : Int), v2 = Value.tuple (Array.mk [Value.int IntKind.i64 n3, Value.int IntKind.i64 n4]) ∧ Sif (n3 == (0 : Int)) (K (Value.bool (n4 == (0 : Int))) w5) (K (Value.bool false) w5))) ∧
  Sif (!!b) (Sif (Option.isNone p) (K (Value.bool false) w2) (J w2)) (K (Value.bool false) w2)
set_option maxRecDepth 100000 in
theorem eq_longshorelaw17_QueueOrder (entries : Option Addr) (entriesn : Nat) (entriesc : Nat) (takes : Option Addr) (takesn : Nat) (takesc : Nat) (w : World) (K : Value → World → Prop) : wpF Tryd.prog none Tryd.f5 (Ann.two Ann.leaf (Ann.two Ann.leaf (Ann.two Ann.leaf (Ann.two (Ann.meet [] (Ann.two Ann.leaf (Ann.two (Ann.two Ann.leaf Ann.leaf) Ann.leaf))) (Ann.two Ann.leaf (Ann.two Ann.leaf (Ann.two (Ann.two Ann.leaf (Ann.two (Ann.loop [((7 : Nat), VSh.cell Sh.slice), ((8 : Nat), VSh.cell (Sh.int IntKind.i64)), ((9 : Nat), VSh.cell (Sh.int IntKind.i64))] (Ann.two (Ann.two Ann.leaf (Ann.two Ann.leaf Ann.leaf)) (Ann.two (Ann.meet [((7 : Nat), VSh.cell Sh.slice), ((8 : Nat), VSh.cell (Sh.int IntKind.i64))] (Ann.two (Ann.two Ann.leaf (Ann.two Ann.leaf (Ann.two Ann.leaf (Ann.two Ann.leaf (Ann.two Ann.leaf (Ann.two (Ann.meet [((7 : Nat), VSh.cell Sh.slice)] (Ann.two Ann.leaf (Ann.two Ann.leaf Ann.leaf))) (Ann.two Ann.leaf (Ann.two (Ann.meet [((12 : Nat), VSh.cell (Sh.int IntKind.i64))] (Ann.two Ann.leaf (Ann.two Ann.leaf Ann.leaf))) (Ann.two (Ann.meet [((12 : Nat), VSh.cell (Sh.int IntKind.i64))] (Ann.two Ann.leaf (Ann.two Ann.leaf Ann.leaf))) (Ann.two (Ann.loop [((7 : Nat), VSh.cell Sh.slice), ((12 : Nat), VSh.cell (Sh.int IntKind.i64))] (Ann.two (Ann.two Ann.leaf (Ann.two Ann.leaf Ann.leaf)) (Ann.two (Ann.two Ann.leaf (Ann.two Ann.leaf (Ann.two Ann.leaf (Ann.two (Ann.two Ann.leaf (Ann.two (Ann.loop [((15 : Nat), VSh.cell (Sh.int IntKind.i64)), ((16 : Nat), VSh.cell (Sh.int IntKind.i64))] (Ann.two (Ann.two Ann.leaf (Ann.two Ann.leaf Ann.leaf)) (Ann.two (Ann.meet [((15 : Nat), VSh.cell (Sh.int IntKind.i64))] (Ann.two (Ann.two (Ann.draw [(0 : Nat), (1 : Nat), (2 : Nat), (3 : Nat), (4 : Nat), (5 : Nat), (6 : Nat), (8 : Nat), (9 : Nat), (10 : Nat), (11 : Nat), (7 : Nat), (12 : Nat), (13 : Nat), (14 : Nat)]) (Ann.two Ann.leaf Ann.leaf)) Ann.leaf)) Ann.leaf))) Ann.leaf)) (Ann.two (Ann.two Ann.leaf (Ann.two (Ann.two Ann.leaf Ann.leaf) Ann.leaf)) (Ann.two (Ann.two Ann.leaf (Ann.two Ann.leaf Ann.leaf)) (Ann.two Ann.leaf (Ann.two Ann.leaf (Ann.two Ann.leaf (Ann.two Ann.leaf (Ann.two Ann.leaf (Ann.two (Ann.meet [] (Ann.two Ann.leaf (Ann.two (Ann.two Ann.leaf Ann.leaf) Ann.leaf))) (Ann.two Ann.leaf (Ann.two (Ann.two Ann.leaf (Ann.two (Ann.loop [((22 : Nat), VSh.cell Sh.slice), ((23 : Nat), VSh.cell (Sh.int IntKind.i64))] (Ann.two (Ann.two Ann.leaf (Ann.two Ann.leaf Ann.leaf)) (Ann.two (Ann.meet [((22 : Nat), VSh.cell Sh.slice)] (Ann.two (Ann.two Ann.leaf (Ann.two Ann.leaf Ann.leaf)) Ann.leaf)) Ann.leaf))) Ann.leaf)) Ann.leaf)))))))))))))) Ann.leaf))) Ann.leaf)))))))))) Ann.leaf)) Ann.leaf))) Ann.leaf)) (Ann.two Ann.leaf (Ann.two Ann.leaf Ann.leaf))))))))) [Value.slice entries entriesn entriesc, Value.slice takes takesn takesc] w K = wp_longshorelaw17_QueueOrder entries entriesn entriesc takes takesn takesc w K := by kernel_rfl
theorem ok_longshorelaw17_QueueOrder {entries : Option Addr} {entriesn : Nat} {entriesc : Nat} {takes : Option Addr} {takesn : Nat} {takesc : Nat} {w : World} {K : Value → World → Prop} (hwp : wp_longshorelaw17_QueueOrder entries entriesn entriesc takes takesn takesc w K) : callP Tryd.prog 5 [.slice entries entriesn entriesc, .slice takes takesn takesc] w K :=
  calls_of Tryd.func5 ((eq_longshorelaw17_QueueOrder entries entriesn entriesc takes takesn takesc w K).symm ▸ hwp)

set_option maxRecDepth 100000 in
/-- longshore.longshorelaw17.QueueKeeps -/
def wp_longshorelaw17_QueueKeeps (most : Int) (entries : Option Addr) (entriesn : Nat) (entriesc : Nat) (script : Option Addr) (scriptn : Nat) (scriptc : Nat) (w : World) (K : Value → World → Prop) : Prop :=
  newB w [Value.slice entries entriesn entriesc] (33 : Nat) fun (a : Addr) (w1 : World) =>
  newB w1 [Value.bool false] (4 : Nat) fun (a1 : Addr) (w2 : World) =>
  callP Tryd.prog (7 : Nat) [] w2 fun (v : Value) (w3 : World) =>
  ∃ (b : Bool),
  v = Value.bool b ∧
  callP Tryd.prog (8 : Nat) [Value.agg (Array.mk [Value.string (ByteArray.mk (Array.mk [(113 : UInt8)])), Value.int IntKind.i64 most, Value.string (ByteArray.mk (Array.mk [])), Value.int IntKind.i64 (3 : Int), Value.bool false])] w3 fun (v1 : Value) (w4 : World) =>
  ∃ (p : Option Addr),
  v1 = Value.pointer p ∧
  ∃ (J : World → Prop),
  (∀ (w5 : World),
  J w5 →
  ∃ (I : Nat → Int → Int → Int → World → Prop),
  (∃ (m : Nat), I m (0 : Int) (0 : Int) (0 : Int) w5) ∧
  ∀ (m : Nat) (n n1 n2 : Int) (w6 : World),
  I m n n1 n2 w6 →
  ∃ (p1 : Option Addr),
  ∃ (n3 : Nat),
  ∃ (c : Nat),
  World.cell? w6 a = some (Value.slice p1 n3 c) ∧
  Sif (decide (n2 < (↑n3 : Int)))
  (∃ (J1 : Int → Int → World → Prop),
  (∀ (n4 n5 : Int) (w7 : World), J1 n4 n5 w7 → nameI (IntKind.wrap IntKind.i64 (n2 + (1 : Int))) fun (n6 : Int) => ∃ (m' : Nat), m' < m ∧ I m' n4 n5 n6 w7) ∧
  ∃ (p2 : Option Addr),
  ∃ (n4 : Nat),
  ∃ (c1 : Nat),
  World.cell? w6 a = some (Value.slice p2 n4 c1) ∧
  (0 : Int) ≤ n2 ∧
  n2 < (↑n4 : Int) ∧
  nn p2 fun (a2 : Addr) =>
  ∃ (n5 : Int),
  World.cell? w6 (Addr.add (Addr.add a2 (Int.toNat n2 * (7 : Nat))) (0 : Nat)) = some (Value.int IntKind.i64 n5) ∧
  ∃ (n6 : Int),
  World.cell? w6 (Addr.add (Addr.add a2 (Int.toNat n2 * (7 : Nat))) (1 : Nat)) = some (Value.int IntKind.i64 n6) ∧
  ∃ (n7 : Int),
  World.cell? w6 (Addr.add (Addr.add a2 (Int.toNat n2 * (7 : Nat))) (2 : Nat)) = some (Value.int IntKind.i64 n7) ∧
  ∃ (b1 : Bool),
  World.cell? w6 (Addr.add (Addr.add a2 (Int.toNat n2 * (7 : Nat))) (3 : Nat)) = some (Value.bool b1) ∧
  ∃ (n8 : Int),
  World.cell? w6 (Addr.add (Addr.add a2 (Int.toNat n2 * (7 : Nat))) (4 : Nat)) = some (Value.int IntKind.i64 n8) ∧
  ∃ (n9 : Int),
  World.cell? w6 (Addr.add (Addr.add a2 (Int.toNat n2 * (7 : Nat))) (5 : Nat)) = some (Value.int IntKind.i64 n9) ∧
  ∃ (p3 : Option Addr),
  ∃ (n10 : Nat),
  ∃ (c2 : Nat),
  World.cell? w6 (Addr.add (Addr.add a2 (Int.toNat n2 * (7 : Nat))) (6 : Nat)) = some (Value.slice p3 n10 c2) ∧
  newB w6 [Value.int IntKind.i64 (0 : Int), Value.int IntKind.i64 (0 : Int), Value.int IntKind.i64 (0 : Int), Value.bool false, Value.int IntKind.i64 (0 : Int), Value.int IntKind.i64 (0 : Int), Value.slice none (0 : Nat) (0 : Nat)] (37 : Nat) fun (a3 : Addr) (w7 : World) =>
  st w7 (Addr.add a3 (0 : Nat)) (Value.int IntKind.i64 n5) fun (w8 : World) =>
  st w8 (Addr.add a3 (1 : Nat)) (Value.int IntKind.i64 n6) fun (w9 : World) =>
  st w9 (Addr.add a3 (2 : Nat)) (Value.int IntKind.i64 n7) fun (w10 : World) =>
  st w10 (Addr.add a3 (3 : Nat)) (Value.bool b1) fun (w11 : World) =>
  st w11 (Addr.add a3 (4 : Nat)) (Value.int IntKind.i64 n8) fun (w12 : World) =>
  st w12 (Addr.add a3 (5 : Nat)) (Value.int IntKind.i64 n9) fun (w13 : World) =>
  st w13 (Addr.add a3 (6 : Nat)) (Value.slice p3 n10 c2) fun (w14 : World) =>
  st w14 (Addr.add (Addr.add a3 (0 : Nat)) (0 : Nat)) (Value.int IntKind.i64 (IntKind.wrap IntKind.i64 (n2 + (1 : Int)))) fun (w15 : World) =>
  callP Tryd.prog (10 : Nat) [Value.pointer p] w15 fun (v2 : Value) (w16 : World) =>
  ∃ (n11 : Int),
  ∃ (n12 : Int),
  v2 = Value.tuple (Array.mk [Value.int IntKind.i64 n11, Value.int IntKind.i64 n12]) ∧
  ∃ (n13 : Int),
  World.cell? w16 (Addr.add a3 (0 : Nat)) = some (Value.int IntKind.i64 n13) ∧
  ∃ (n14 : Int),
  World.cell? w16 (Addr.add a3 (1 : Nat)) = some (Value.int IntKind.i64 n14) ∧
  ∃ (n15 : Int),
  World.cell? w16 (Addr.add a3 (2 : Nat)) = some (Value.int IntKind.i64 n15) ∧
  ∃ (b2 : Bool),
  World.cell? w16 (Addr.add a3 (3 : Nat)) = some (Value.bool b2) ∧
  ∃ (n16 : Int),
  World.cell? w16 (Addr.add a3 (4 : Nat)) = some (Value.int IntKind.i64 n16) ∧
  ∃ (n17 : Int),
  World.cell? w16 (Addr.add a3 (5 : Nat)) = some (Value.int IntKind.i64 n17) ∧
  ∃ (p4 : Option Addr),
  ∃ (n18 : Nat),
  ∃ (c3 : Nat),
  World.cell? w16 (Addr.add a3 (6 : Nat)) = some (Value.slice p4 n18 c3) ∧
  callP Tryd.prog (12 : Nat) [Value.pointer p, Value.agg (Array.mk [Value.int IntKind.i64 n13, Value.int IntKind.i64 n14, Value.int IntKind.i64 n15, Value.bool b2, Value.int IntKind.i64 n16, Value.int IntKind.i64 n17, Value.slice p4 n18 c3])] w16 fun (v3 : Value) (w17 : World) =>
  ∃ (n19 : Int),
  v3 = Value.int IntKind.i64 n19 ∧
  callP Tryd.prog (10 : Nat) [Value.pointer p] w17 fun (v4 : Value) (w18 : World) =>
  ∃ (n20 : Int),
  ∃ (n21 : Int),
  v4 = Value.tuple (Array.mk [Value.int IntKind.i64 n20, Value.int IntKind.i64 n21]) ∧
  ∃ (J2 : Int → World → Prop),
  (∀ (n22 : Int) (w19 : World),
  J2 n22 w19 →
  ∃ (J3 : Int → World → Prop),
  (∀ (n23 : Int) (w20 : World), J3 n23 w20 → callP Tryd.prog (10 : Nat) [Value.pointer p] w20 fun (v5 : Value) (w21 : World) => ∃ (n24 : Int), ∃ (n25 : Int), v5 = Value.tuple (Array.mk [Value.int IntKind.i64 n24, Value.int IntKind.i64 n25]) ∧ Sif (!IntKind.wrap IntKind.i64 (n24 + n25) != IntKind.wrap IntKind.i64 (n22 - n23)) (Sif (decide (IntKind.wrap IntKind.i64 (n24 + n25) > most)) (st w21 (Addr.add a1 (0 : Nat)) (Value.bool false) fun (w22 : World) => ∃ (b3 : Bool), World.cell? w22 a1 = some (Value.bool b3) ∧ K (Value.bool b3) w22) (J1 n22 n23 w21)) (st w21 (Addr.add a1 (0 : Nat)) (Value.bool false) fun (w22 : World) => ∃ (b3 : Bool), World.cell? w22 a1 = some (Value.bool b3) ∧ K (Value.bool b3) w22)) ∧
  Sif (decide (n2 < (↑scriptn : Int)))
  ((0 : Int) ≤ n2 ∧
  n2 < (↑scriptn : Int) ∧
  nn script fun (a4 : Addr) =>
  ∃ (n23 : Int),
  World.cell? w19 (Addr.add (Addr.add a4 (Int.toNat n2 * (13 : Nat))) (0 : Nat)) = some (Value.int IntKind.i64 n23) ∧
  ∃ (n24 : Int),
  World.cell? w19 (Addr.add (Addr.add a4 (Int.toNat n2 * (13 : Nat))) (1 : Nat)) = some (Value.int IntKind.i64 n24) ∧
  ∃ (n25 : Int),
  World.cell? w19 (Addr.add (Addr.add a4 (Int.toNat n2 * (13 : Nat))) (2 : Nat)) = some (Value.int IntKind.i64 n25) ∧
  ∃ (n26 : Int),
  World.cell? w19 (Addr.add (Addr.add a4 (Int.toNat n2 * (13 : Nat))) (3 : Nat)) = some (Value.int IntKind.i64 n26) ∧
  ∃ (p5 : Option Addr),
  ∃ (n27 : Nat),
  ∃ (c4 : Nat),
  World.cell? w19 (Addr.add (Addr.add a4 (Int.toNat n2 * (13 : Nat))) (4 : Nat)) = some (Value.slice p5 n27 c4) ∧
  ∃ (b3 : Bool),
  World.cell? w19 (Addr.add (Addr.add a4 (Int.toNat n2 * (13 : Nat))) (5 : Nat)) = some (Value.bool b3) ∧
  ∃ (n28 : Int),
  World.cell? w19 (Addr.add (Addr.add a4 (Int.toNat n2 * (13 : Nat))) (6 : Nat)) = some (Value.int IntKind.i64 n28) ∧
  ∃ (n29 : Int),
  World.cell? w19 (Addr.add (Addr.add a4 (Int.toNat n2 * (13 : Nat))) (7 : Nat)) = some (Value.int IntKind.i64 n29) ∧
  ∃ (n30 : Int),
  World.cell? w19 (Addr.add (Addr.add a4 (Int.toNat n2 * (13 : Nat))) (8 : Nat)) = some (Value.int IntKind.i64 n30) ∧
  ∃ (b4 : Bool),
  World.cell? w19 (Addr.add (Addr.add a4 (Int.toNat n2 * (13 : Nat))) (9 : Nat)) = some (Value.bool b4) ∧
  ∃ (n31 : Int),
  World.cell? w19 (Addr.add (Addr.add a4 (Int.toNat n2 * (13 : Nat))) (10 : Nat)) = some (Value.int IntKind.i64 n31) ∧
  ∃ (n32 : Int),
  World.cell? w19 (Addr.add (Addr.add a4 (Int.toNat n2 * (13 : Nat))) (11 : Nat)) = some (Value.int IntKind.i64 n32) ∧
  ∃ (p6 : Option Addr),
  ∃ (n33 : Nat),
  ∃ (c5 : Nat),
  World.cell? w19 (Addr.add (Addr.add a4 (Int.toNat n2 * (13 : Nat))) (12 : Nat)) = some (Value.slice p6 n33 c5) ∧
  newB w19 [Value.int IntKind.i64 (0 : Int), Value.int IntKind.i64 (0 : Int), Value.int IntKind.i64 (0 : Int), Value.int IntKind.i64 (0 : Int), Value.slice none (0 : Nat) (0 : Nat), Value.bool false, Value.int IntKind.i64 (0 : Int), Value.int IntKind.i64 (0 : Int), Value.int IntKind.i64 (0 : Int), Value.bool false, Value.int IntKind.i64 (0 : Int), Value.int IntKind.i64 (0 : Int), Value.slice none (0 : Nat) (0 : Nat)] (48 : Nat) fun (a5 : Addr) (w20 : World) =>
  st w20 (Addr.add a5 (0 : Nat)) (Value.int IntKind.i64 n23) fun (w21 : World) =>
  st w21 (Addr.add a5 (1 : Nat)) (Value.int IntKind.i64 n24) fun (w22 : World) =>
  st w22 (Addr.add a5 (2 : Nat)) (Value.int IntKind.i64 n25) fun (w23 : World) =>
  st w23 (Addr.add a5 (3 : Nat)) (Value.int IntKind.i64 n26) fun (w24 : World) =>
  st w24 (Addr.add a5 (4 : Nat)) (Value.slice p5 n27 c4) fun (w25 : World) =>
  st w25 (Addr.add a5 (5 : Nat)) (Value.bool b3) fun (w26 : World) =>
  st w26 (Addr.add a5 (6 : Nat)) (Value.int IntKind.i64 n28) fun (w27 : World) =>
  st w27 (Addr.add a5 (7 : Nat)) (Value.int IntKind.i64 n29) fun (w28 : World) =>
  st w28 (Addr.add a5 (8 : Nat)) (Value.int IntKind.i64 n30) fun (w29 : World) =>
  st w29 (Addr.add a5 (9 : Nat)) (Value.bool b4) fun (w30 : World) =>
  st w30 (Addr.add a5 (10 : Nat)) (Value.int IntKind.i64 n31) fun (w31 : World) =>
  st w31 (Addr.add a5 (11 : Nat)) (Value.int IntKind.i64 n32) fun (w32 : World) =>
  st w32 (Addr.add a5 (12 : Nat)) (Value.slice p6 n33 c5) fun (w33 : World) =>
  ∃ (n34 : Int),
  World.cell? w33 (Addr.add a5 (0 : Nat)) = some (Value.int IntKind.i64 n34) ∧
  Sif (n34 == (2 : Int)) (∃ (n35 : Int), World.cell? w33 (Addr.add a5 (1 : Nat)) = some (Value.int IntKind.i64 n35) ∧ callP Tryd.prog (13 : Nat) [Value.pointer p, Value.int IntKind.i64 n35, Value.nilFunc] w33 fun (v5 : Value) (w34 : World) => ∃ (n36 : Int), ∃ (n37 : Int), ∃ (n38 : Int), ∃ (b5 : Bool), ∃ (n39 : Int), ∃ (n40 : Int), ∃ (p7 : Option Addr), ∃ (n41 : Nat), ∃ (c6 : Nat), ∃ (b6 : Bool), v5 = Value.tuple (Array.mk [Value.agg (Array.mk [Value.int IntKind.i64 n36, Value.int IntKind.i64 n37, Value.int IntKind.i64 n38, Value.bool b5, Value.int IntKind.i64 n39, Value.int IntKind.i64 n40, Value.slice p7 n41 c6]), Value.bool b6]) ∧ J3 n1 w34)
  (Sif (n34 == (4 : Int)) (∃ (n35 : Int), World.cell? w33 (Addr.add a5 (1 : Nat)) = some (Value.int IntKind.i64 n35) ∧ ∃ (n36 : Int), World.cell? w33 (Addr.add a5 (2 : Nat)) = some (Value.int IntKind.i64 n36) ∧ callP Tryd.prog (16 : Nat) [Value.pointer p, Value.int IntKind.i64 n35, Value.int IntKind.i64 n36, Value.bool true] w33 fun (v5 : Value) (w34 : World) => ∃ (n37 : Int), ∃ (n38 : Int), ∃ (n39 : Int), ∃ (b5 : Bool), ∃ (n40 : Int), ∃ (n41 : Int), ∃ (p7 : Option Addr), ∃ (n42 : Nat), ∃ (c6 : Nat), ∃ (b6 : Bool), ∃ (n43 : Int), v5 = Value.tuple (Array.mk [Value.agg (Array.mk [Value.int IntKind.i64 n37, Value.int IntKind.i64 n38, Value.int IntKind.i64 n39, Value.bool b5, Value.int IntKind.i64 n40, Value.int IntKind.i64 n41, Value.slice p7 n42 c6]), Value.bool b6, Value.int IntKind.i64 n43]) ∧ newB w34 [Value.int IntKind.i64 (0 : Int), Value.int IntKind.i64 (0 : Int), Value.int IntKind.i64 (0 : Int), Value.bool false, Value.int IntKind.i64 (0 : Int), Value.int IntKind.i64 (0 : Int), Value.slice none (0 : Nat) (0 : Nat)] (37 : Nat) fun (a6 : Addr) (w35 : World) => st w35 (Addr.add a6 (0 : Nat)) (Value.int IntKind.i64 n37) fun (w36 : World) => st w36 (Addr.add a6 (1 : Nat)) (Value.int IntKind.i64 n38) fun (w37 : World) => st w37 (Addr.add a6 (2 : Nat)) (Value.int IntKind.i64 n39) fun (w38 : World) => st w38 (Addr.add a6 (3 : Nat)) (Value.bool b5) fun (w39 : World) => st w39 (Addr.add a6 (4 : Nat)) (Value.int IntKind.i64 n40) fun (w40 : World) => st w40 (Addr.add a6 (5 : Nat)) (Value.int IntKind.i64 n41) fun (w41 : World) => st w41 (Addr.add a6 (6 : Nat)) (Value.slice p7 n42 c6) fun (w42 : World) => Sif (n43 == (0 : Int)) (Sif b6 (nameI (IntKind.wrap IntKind.i64 (n1 + (1 : Int))) fun (n44 : Int) => J3 n44 w42) (J3 n1 w42)) (J3 n1 w42))
  (Sif (n34 == (5 : Int)) (∃ (n35 : Int), World.cell? w33 (Addr.add a5 (1 : Nat)) = some (Value.int IntKind.i64 n35) ∧ ∃ (n36 : Int), World.cell? w33 (Addr.add a5 (2 : Nat)) = some (Value.int IntKind.i64 n36) ∧ callP Tryd.prog (15 : Nat) [Value.pointer p, Value.int IntKind.i64 n35, Value.int IntKind.i64 n36] w33 fun (v5 : Value) (w34 : World) => ∃ (n37 : Int), ∃ (n38 : Int), ∃ (n39 : Int), ∃ (b5 : Bool), ∃ (n40 : Int), ∃ (n41 : Int), ∃ (p7 : Option Addr), ∃ (n42 : Nat), ∃ (c6 : Nat), ∃ (n43 : Int), v5 = Value.tuple (Array.mk [Value.agg (Array.mk [Value.int IntKind.i64 n37, Value.int IntKind.i64 n38, Value.int IntKind.i64 n39, Value.bool b5, Value.int IntKind.i64 n40, Value.int IntKind.i64 n41, Value.slice p7 n42 c6]), Value.int IntKind.i64 n43]) ∧ newB w34 [Value.int IntKind.i64 (0 : Int), Value.int IntKind.i64 (0 : Int), Value.int IntKind.i64 (0 : Int), Value.bool false, Value.int IntKind.i64 (0 : Int), Value.int IntKind.i64 (0 : Int), Value.slice none (0 : Nat) (0 : Nat)] (37 : Nat) fun (a6 : Addr) (w35 : World) => st w35 (Addr.add a6 (0 : Nat)) (Value.int IntKind.i64 n37) fun (w36 : World) => st w36 (Addr.add a6 (1 : Nat)) (Value.int IntKind.i64 n38) fun (w37 : World) => st w37 (Addr.add a6 (2 : Nat)) (Value.int IntKind.i64 n39) fun (w38 : World) => st w38 (Addr.add a6 (3 : Nat)) (Value.bool b5) fun (w39 : World) => st w39 (Addr.add a6 (4 : Nat)) (Value.int IntKind.i64 n40) fun (w40 : World) => st w40 (Addr.add a6 (5 : Nat)) (Value.int IntKind.i64 n41) fun (w41 : World) => st w41 (Addr.add a6 (6 : Nat)) (Value.slice p7 n42 c6) fun (w42 : World) => Sif (n43 == (0 : Int)) (nameI (IntKind.wrap IntKind.i64 (n1 + (1 : Int))) fun (n44 : Int) => J3 n44 w42) (J3 n1 w42)) (Sif (n34 == (7 : Int)) (∃ (n35 : Int), World.cell? w33 (Addr.add a5 (1 : Nat)) = some (Value.int IntKind.i64 n35) ∧ callP Tryd.prog (17 : Nat) [Value.pointer p, Value.int IntKind.i64 n35] w33 fun (v5 : Value) (w34 : World) => ∃ (p7 : Option Addr), ∃ (n36 : Nat), ∃ (c6 : Nat), v5 = Value.slice p7 n36 c6 ∧ nameI (IntKind.wrap IntKind.i64 (n1 + (↑n36 : Int))) fun (n37 : Int) => J3 n37 w34) (Sif (n34 == (6 : Int)) (∃ (n35 : Int), World.cell? w33 (Addr.add a5 (1 : Nat)) = some (Value.int IntKind.i64 n35) ∧ callP Tryd.prog (18 : Nat) [Value.pointer p, Value.int IntKind.i64 n35] w33 fun (v5 : Value) (w34 : World) => ∃ (p7 : Option Addr), ∃ (n36 : Nat), ∃ (c6 : Nat), v5 = Value.slice p7 n36 c6 ∧ J3 n1 w34) (J3 n1 w33))))))
  (J3 n1 w19)) ∧
  Sif (n19 == (0 : Int)) (nameI (IntKind.wrap IntKind.i64 (n + (1 : Int))) fun (n22 : Int) => Sif (!n20 != IntKind.wrap IntKind.i64 (n11 + (1 : Int))) (Sif (n21 != n12) (st w18 (Addr.add a1 (0 : Nat)) (Value.bool false) fun (w19 : World) => ∃ (b3 : Bool), World.cell? w19 a1 = some (Value.bool b3) ∧ K (Value.bool b3) w19) (J2 n22 w18)) (st w18 (Addr.add a1 (0 : Nat)) (Value.bool false) fun (w19 : World) => ∃ (b3 : Bool), World.cell? w19 a1 = some (Value.bool b3) ∧ K (Value.bool b3) w19)) (Sif (!n20 != n11) (Sif (!n21 != n12) (Sif (n19 == (170 : Int)) (Sif (IntKind.wrap IntKind.i64 (n11 + n12) != most) (st w18 (Addr.add a1 (0 : Nat)) (Value.bool false) fun (w19 : World) => ∃ (b3 : Bool), World.cell? w19 a1 = some (Value.bool b3) ∧ K (Value.bool b3) w19) (J2 n w18)) (J2 n w18)) (st w18 (Addr.add a1 (0 : Nat)) (Value.bool false) fun (w19 : World) => ∃ (b3 : Bool), World.cell? w19 a1 = some (Value.bool b3) ∧ K (Value.bool b3) w19)) (st w18 (Addr.add a1 (0 : Nat)) (Value.bool false) fun (w19 : World) => ∃ (b3 : Bool), World.cell? w19 a1 = some (Value.bool b3) ∧ K (Value.bool b3) w19)))
  (∃ (p2 : Option Addr),
  ∃ (n4 : Nat),
  ∃ (c1 : Nat),
  World.cell? w6 a = some (Value.slice p2 n4 c1) ∧
  ∃ (p3 : Option Addr),
  ∃ (n5 : Nat),
  ∃ (c2 : Nat),
  ∃ (w7 : World),
  Sem.run Tryd.prog (Instr.makeSlice (34 : Nat) (Value.int IntKind.i64 (IntKind.wrap IntKind.i64 ((↑n4 : Int) + (1 : Int)))) (Value.int IntKind.i64 (IntKind.wrap IntKind.i64 ((↑n4 : Int) + (1 : Int))))) w6 = Result.ok (Value.slice p3 n5 c2) w7 ∧
  newB w7 [Value.slice none (0 : Nat) (0 : Nat)] (34 : Nat) fun (a2 : Addr) (w8 : World) =>
  st w8 (Addr.add a2 (0 : Nat)) (Value.slice p3 n5 c2) fun (w9 : World) =>
  newB w9 [Value.int IntKind.i64 (0 : Int)] (3 : Nat) fun (a3 : Addr) (w10 : World) =>
  st w10 (Addr.add a3 (0 : Nat)) (Value.int IntKind.i64 (0 : Int)) fun (w11 : World) =>
  callP Tryd.prog (19 : Nat) [Value.pointer p] w11 fun (v2 : Value) (w12 : World) =>
  ∃ (v3 : Value),
  v2 = v3 ∧
  isNilF v3 fun (r : Bool) =>
  Sif r (st w12 (Addr.add a1 (0 : Nat)) (Value.bool false) fun (w13 : World) => ∃ (b1 : Bool), World.cell? w13 a1 = some (Value.bool b1) ∧ K (Value.bool b1) w13)
  (∀ (l : Nat),
  l = Array.size (Array.mk (List.concat w12.heap.toList (Obj.deferred (some [])))) →
  ∀ (rc : LoopR),
  Sv.isRec rc →
  (∀ (n6 n7 n8 : Int) (b1 : Bool) (n9 n10 : Int) (p4 : Option Addr) (n11 c3 : Nat) (w13 : World) (K' : Value → World → Prop),
  recAt w13 l rc LoopState.ready none →
  (newB w13 [Value.int IntKind.i64 (0 : Int), Value.int IntKind.i64 (0 : Int), Value.int IntKind.i64 (0 : Int), Value.bool false, Value.int IntKind.i64 (0 : Int), Value.int IntKind.i64 (0 : Int), Value.slice none (0 : Nat) (0 : Nat)] (37 : Nat) fun (a4 : Addr) (w14 : World) =>
  st w14 (Addr.add a4 (0 : Nat)) (Value.int IntKind.i64 n6) fun (w15 : World) =>
  st w15 (Addr.add a4 (1 : Nat)) (Value.int IntKind.i64 n7) fun (w16 : World) =>
  st w16 (Addr.add a4 (2 : Nat)) (Value.int IntKind.i64 n8) fun (w17 : World) =>
  st w17 (Addr.add a4 (3 : Nat)) (Value.bool b1) fun (w18 : World) =>
  st w18 (Addr.add a4 (4 : Nat)) (Value.int IntKind.i64 n9) fun (w19 : World) =>
  st w19 (Addr.add a4 (5 : Nat)) (Value.int IntKind.i64 n10) fun (w20 : World) =>
  st w20 (Addr.add a4 (6 : Nat)) (Value.slice p4 n11 c3) fun (w21 : World) =>
  recAt w21 l rc LoopState.ready none ∧
  ∃ (J1 : World → Prop),
  (∀ (w22 : World),
  J1 w22 →
  ∃ (p5 : Option Addr),
  ∃ (n12 : Nat),
  ∃ (c4 : Nat),
  World.cell? w22 a2 = some (Value.slice p5 n12 c4) ∧
  ∃ (n13 : Int),
  World.cell? w22 (Addr.add a4 (0 : Nat)) = some (Value.int IntKind.i64 n13) ∧
  (0 : Int) ≤ n13 ∧
  n13 < (↑n12 : Int) ∧
  nn p5 fun (a5 : Addr) =>
  st w22 (Addr.add (Addr.add a5 (Int.toNat n13 * (1 : Nat))) (0 : Nat)) (Value.int IntKind.i64 (1 : Int)) fun (w23 : World) =>
  ∃ (n14 : Int),
  World.cell? w23 a3 = some (Value.int IntKind.i64 n14) ∧
  st w23 (Addr.add a3 (0 : Nat)) (Value.int IntKind.i64 (IntKind.wrap IntKind.i64 (n14 + (1 : Int)))) fun (w24 : World) =>
  ∃ (p6 : Option Addr),
  ∃ (n15 : Nat),
  ∃ (c5 : Nat),
  World.cell? w24 a = some (Value.slice p6 n15 c5) ∧
  ∃ (n16 : Int),
  World.cell? w24 (Addr.add a4 (0 : Nat)) = some (Value.int IntKind.i64 n16) ∧
  (0 : Int) ≤ IntKind.wrap IntKind.i64 (n16 - (1 : Int)) ∧
  IntKind.wrap IntKind.i64 (n16 - (1 : Int)) < (↑n15 : Int) ∧
  nn p6 fun (a6 : Addr) =>
  ∃ (n17 : Int),
  World.cell? w24 (Addr.add (Addr.add a6 (Int.toNat (IntKind.wrap IntKind.i64 (n16 - (1 : Int))) * (7 : Nat))) (0 : Nat)) = some (Value.int IntKind.i64 n17) ∧
  ∃ (n18 : Int),
  World.cell? w24 (Addr.add (Addr.add a6 (Int.toNat (IntKind.wrap IntKind.i64 (n16 - (1 : Int))) * (7 : Nat))) (1 : Nat)) = some (Value.int IntKind.i64 n18) ∧
  ∃ (n19 : Int),
  World.cell? w24 (Addr.add (Addr.add a6 (Int.toNat (IntKind.wrap IntKind.i64 (n16 - (1 : Int))) * (7 : Nat))) (2 : Nat)) = some (Value.int IntKind.i64 n19) ∧
  ∃ (b2 : Bool),
  World.cell? w24 (Addr.add (Addr.add a6 (Int.toNat (IntKind.wrap IntKind.i64 (n16 - (1 : Int))) * (7 : Nat))) (3 : Nat)) = some (Value.bool b2) ∧
  ∃ (n20 : Int),
  World.cell? w24 (Addr.add (Addr.add a6 (Int.toNat (IntKind.wrap IntKind.i64 (n16 - (1 : Int))) * (7 : Nat))) (4 : Nat)) = some (Value.int IntKind.i64 n20) ∧
  ∃ (n21 : Int),
  World.cell? w24 (Addr.add (Addr.add a6 (Int.toNat (IntKind.wrap IntKind.i64 (n16 - (1 : Int))) * (7 : Nat))) (5 : Nat)) = some (Value.int IntKind.i64 n21) ∧
  ∃ (p7 : Option Addr),
  ∃ (n22 : Nat),
  ∃ (c6 : Nat),
  World.cell? w24 (Addr.add (Addr.add a6 (Int.toNat (IntKind.wrap IntKind.i64 (n16 - (1 : Int))) * (7 : Nat))) (6 : Nat)) = some (Value.slice p7 n22 c6) ∧
  newB w24 [Value.int IntKind.i64 (0 : Int), Value.int IntKind.i64 (0 : Int), Value.int IntKind.i64 (0 : Int), Value.bool false, Value.int IntKind.i64 (0 : Int), Value.int IntKind.i64 (0 : Int), Value.slice none (0 : Nat) (0 : Nat)] (37 : Nat) fun (a7 : Addr) (w25 : World) =>
  st w25 (Addr.add a7 (0 : Nat)) (Value.int IntKind.i64 n17) fun (w26 : World) =>
  st w26 (Addr.add a7 (1 : Nat)) (Value.int IntKind.i64 n18) fun (w27 : World) => st w27 (Addr.add a7 (2 : Nat)) (Value.int IntKind.i64 n19) fun (w28 : World) => st w28 (Addr.add a7 (3 : Nat)) (Value.bool b2) fun (w29 : World) => st w29 (Addr.add a7 (4 : Nat)) (Value.int IntKind.i64 n20) fun (w30 : World) => st w30 (Addr.add a7 (5 : Nat)) (Value.int IntKind.i64 n21) fun (w31 : World) => st w31 (Addr.add a7 (6 : Nat)) (Value.slice p7 n22 c6) fun (w32 : World) => ∃ (p8 : Option Addr), ∃ (n23 : Nat), ∃ (c7 : Nat), World.cell? w32 (Addr.add a4 (6 : Nat)) = some (Value.slice p8 n23 c7) ∧ ∃ (p9 : Option Addr), ∃ (n24 : Nat), ∃ (c8 : Nat), World.cell? w32 (Addr.add a7 (6 : Nat)) = some (Value.slice p9 n24 c8) ∧ callP Tryd.prog (20 : Nat) [Value.slice p8 n23 c7, Value.slice p9 n24 c8] w32 fun (v4 : Value) (w33 : World) => ∃ (b3 : Bool), v4 = Value.bool b3 ∧ Sif (!!b3) (∃ (n25 : Int), World.cell? w33 (Addr.add a4 (1 : Nat)) = some (Value.int IntKind.i64 n25) ∧ ∃ (n26 : Int), World.cell? w33 (Addr.add a7 (1 : Nat)) = some (Value.int IntKind.i64 n26) ∧ Sif (!n25 != n26) (∃ (n27 : Int), World.cell? w33 (Addr.add a4 (2 : Nat)) = some (Value.int IntKind.i64 n27) ∧ ∃ (n28 : Int), World.cell? w33 (Addr.add a7 (2 : Nat)) = some (Value.int IntKind.i64 n28) ∧ Sif (!n27 != n28) (∃ (b4 : Bool), World.cell? w33 (Addr.add a4 (3 : Nat)) = some (Value.bool b4) ∧ ∃ (b5 : Bool), World.cell? w33 (Addr.add a7 (3 : Nat)) = some (Value.bool b5) ∧ Sif (!!b4 == b5) (∃ (n29 : Int), World.cell? w33 (Addr.add a4 (4 : Nat)) = some (Value.int IntKind.i64 n29) ∧ ∃ (n30 : Int), World.cell? w33 (Addr.add a7 (4 : Nat)) = some (Value.int IntKind.i64 n30) ∧ Sif (decide (n29 < n30)) (st w33 (Addr.add a1 (0 : Nat)) (Value.bool false) fun (w34 : World) => recAt w34 l rc LoopState.busy none ∧ K' (Value.bool false) (World.putObj w34 l (rc LoopState.done (some Code.ret)))) (recAt w33 l rc LoopState.busy none ∧ K' (Value.bool true) (World.putObj w33 l (rc LoopState.ready none)))) (st w33 (Addr.add a1 (0 : Nat)) (Value.bool false) fun (w34 : World) => recAt w34 l rc LoopState.busy none ∧ K' (Value.bool false) (World.putObj w34 l (rc LoopState.done (some Code.ret))))) (st w33 (Addr.add a1 (0 : Nat)) (Value.bool false) fun (w34 : World) => recAt w34 l rc LoopState.busy none ∧ K' (Value.bool false) (World.putObj w34 l (rc LoopState.done (some Code.ret))))) (st w33 (Addr.add a1 (0 : Nat)) (Value.bool false) fun (w34 : World) => recAt w34 l rc LoopState.busy none ∧ K' (Value.bool false) (World.putObj w34 l (rc LoopState.done (some Code.ret))))) (st w33 (Addr.add a1 (0 : Nat)) (Value.bool false) fun (w34 : World) => recAt w34 l rc LoopState.busy none ∧ K' (Value.bool false) (World.putObj w34 l (rc LoopState.done (some Code.ret))))) ∧
  ∃ (n12 : Int), World.cell? (World.putObj w21 l (rc LoopState.busy none)) (Addr.add a4 (0 : Nat)) = some (Value.int IntKind.i64 n12) ∧ Sif (!decide (n12 < (1 : Int))) (∃ (n13 : Int), World.cell? (World.putObj w21 l (rc LoopState.busy none)) (Addr.add a4 (0 : Nat)) = some (Value.int IntKind.i64 n13) ∧ ∃ (p5 : Option Addr), ∃ (n14 : Nat), ∃ (c4 : Nat), World.cell? (World.putObj w21 l (rc LoopState.busy none)) a = some (Value.slice p5 n14 c4) ∧ Sif (!decide (n13 > (↑n14 : Int))) (∃ (p6 : Option Addr), ∃ (n15 : Nat), ∃ (c5 : Nat), World.cell? (World.putObj w21 l (rc LoopState.busy none)) a2 = some (Value.slice p6 n15 c5) ∧ ∃ (n16 : Int), World.cell? (World.putObj w21 l (rc LoopState.busy none)) (Addr.add a4 (0 : Nat)) = some (Value.int IntKind.i64 n16) ∧ (0 : Int) ≤ n16 ∧ n16 < (↑n15 : Int) ∧ nn p6 fun (a5 : Addr) => ∃ (n17 : Int), World.cell? (World.putObj w21 l (rc LoopState.busy none)) (Addr.add a5 (Int.toNat n16 * (1 : Nat))) = some (Value.int IntKind.i64 n17) ∧ Sif (n17 != (0 : Int)) (st (World.putObj w21 l (rc LoopState.busy none)) (Addr.add a1 (0 : Nat)) (Value.bool false) fun (w22 : World) => recAt w22 l rc LoopState.busy none ∧ K' (Value.bool false) (World.putObj w22 l (rc LoopState.done (some Code.ret)))) (J1 (World.putObj w21 l (rc LoopState.busy none)))) (st (World.putObj w21 l (rc LoopState.busy none)) (Addr.add a1 (0 : Nat)) (Value.bool false) fun (w22 : World) => recAt w22 l rc LoopState.busy none ∧ K' (Value.bool false) (World.putObj w22 l (rc LoopState.done (some Code.ret))))) (st (World.putObj w21 l (rc LoopState.busy none)) (Addr.add a1 (0 : Nat)) (Value.bool false) fun (w22 : World) => recAt w22 l rc LoopState.busy none ∧ K' (Value.bool false) (World.putObj w22 l (rc LoopState.done (some Code.ret))))) →
  yieldP Tryd.prog l [Value.agg (Array.mk [Value.int IntKind.i64 n6, Value.int IntKind.i64 n7, Value.int IntKind.i64 n8, Value.bool b1, Value.int IntKind.i64 n9, Value.int IntKind.i64 n10, Value.slice p4 n11 c3])] w13 fun (a4 : Value) (w14 : World) => K' a4 w14) →
  callF Tryd.prog v3 [Value.func (Fn.yield l) (Array.mk []) (Array.mk [])] (World.alloc (World.alloc w12 (Obj.deferred (some []))) (rc LoopState.ready none)) fun (w13 : World) => (recAt w13 l rc LoopState.ready none ∧ ∃ (n6 : Int), World.cell? (World.putObj w13 l (rc LoopState.exhausted none)) a3 = some (Value.int IntKind.i64 n6) ∧ st (World.putObj w13 l (rc LoopState.exhausted none)) (Addr.add a1 (0 : Nat)) (Value.bool (n6 == IntKind.wrap IntKind.i64 (n - n1))) fun (w14 : World) => takeM w14 (Array.size w12.heap) fun (w15 : World) => ∃ (b1 : Bool), World.cell? w15 a1 = some (Value.bool b1) ∧ K (Value.bool b1) w15) ∨ (recAt w13 l rc LoopState.done (some Code.ret) ∧ takeM (World.putObj w13 l (rc LoopState.exhausted (some Code.ret))) (Array.size w12.heap) fun (w14 : World) => ∃ (b1 : Bool), World.cell? w14 a1 = some (Value.bool b1) ∧ K (Value.bool b1) w14) ∨ False))) ∧
  Sif (!!b) (Sif (Option.isNone p) (Sif b (Sif (!decide (most < (1 : Int))) (st w4 (Addr.add a1 (0 : Nat)) (Value.bool (decide (most > (4096 : Int)))) fun (w5 : World) => ∃ (b1 : Bool), World.cell? w5 a1 = some (Value.bool b1) ∧ K (Value.bool b1) w5) (st w4 (Addr.add a1 (0 : Nat)) (Value.bool true) fun (w5 : World) => ∃ (b1 : Bool), World.cell? w5 a1 = some (Value.bool b1) ∧ K (Value.bool b1) w5)) (st w4 (Addr.add a1 (0 : Nat)) (Value.bool false) fun (w5 : World) => ∃ (b1 : Bool), World.cell? w5 a1 = some (Value.bool b1) ∧ K (Value.bool b1) w5)) (J w4)) (Sif b (Sif (!decide (most < (1 : Int))) (st w4 (Addr.add a1 (0 : Nat)) (Value.bool (decide (most > (4096 : Int)))) fun (w5 : World) => ∃ (b1 : Bool), World.cell? w5 a1 = some (Value.bool b1) ∧ K (Value.bool b1) w5) (st w4 (Addr.add a1 (0 : Nat)) (Value.bool true) fun (w5 : World) => ∃ (b1 : Bool), World.cell? w5 a1 = some (Value.bool b1) ∧ K (Value.bool b1) w5)) (st w4 (Addr.add a1 (0 : Nat)) (Value.bool false) fun (w5 : World) => ∃ (b1 : Bool), World.cell? w5 a1 = some (Value.bool b1) ∧ K (Value.bool b1) w5))
set_option maxRecDepth 100000 in
theorem eq_longshorelaw17_QueueKeeps (most : Int) (entries : Option Addr) (entriesn : Nat) (entriesc : Nat) (script : Option Addr) (scriptn : Nat) (scriptc : Nat) (w : World) (K : Value → World → Prop) : wpF Tryd.prog none Tryd.f6 (Ann.two Ann.leaf (Ann.two Ann.leaf (Ann.two Ann.leaf (Ann.two (Ann.meet [] (Ann.two Ann.leaf (Ann.two (Ann.two Ann.leaf Ann.leaf) Ann.leaf))) (Ann.two Ann.leaf (Ann.two Ann.leaf (Ann.two (Ann.two Ann.leaf (Ann.two (Ann.loop [((9 : Nat), VSh.cell (Sh.int IntKind.i64)), ((10 : Nat), VSh.cell (Sh.int IntKind.i64)), ((11 : Nat), VSh.cell (Sh.int IntKind.i64))] (Ann.two (Ann.two Ann.leaf (Ann.two Ann.leaf Ann.leaf)) (Ann.two (Ann.meet [((9 : Nat), VSh.cell (Sh.int IntKind.i64)), ((10 : Nat), VSh.cell (Sh.int IntKind.i64))] (Ann.two (Ann.two Ann.leaf (Ann.two Ann.leaf (Ann.two Ann.leaf (Ann.two Ann.leaf (Ann.two Ann.leaf (Ann.two (Ann.meet [((9 : Nat), VSh.cell (Sh.int IntKind.i64))] (Ann.two Ann.leaf (Ann.two (Ann.two Ann.leaf (Ann.two Ann.leaf (Ann.two (Ann.two Ann.leaf Ann.leaf) Ann.leaf))) (Ann.two Ann.leaf (Ann.two (Ann.two Ann.leaf Ann.leaf) Ann.leaf))))) (Ann.two (Ann.meet [((10 : Nat), VSh.cell (Sh.int IntKind.i64))] (Ann.two Ann.leaf (Ann.two (Ann.two Ann.leaf (Ann.two Ann.leaf (Ann.two (Ann.two Ann.leaf (Ann.two Ann.leaf (Ann.two Ann.leaf (Ann.two (Ann.two Ann.leaf (Ann.two Ann.leaf (Ann.two Ann.leaf Ann.leaf))) (Ann.two Ann.leaf (Ann.two (Ann.two Ann.leaf (Ann.two Ann.leaf (Ann.two Ann.leaf Ann.leaf))) (Ann.two Ann.leaf (Ann.two (Ann.two Ann.leaf Ann.leaf) (Ann.two Ann.leaf (Ann.two Ann.leaf Ann.leaf)))))))))) Ann.leaf))) Ann.leaf))) (Ann.two Ann.leaf (Ann.two Ann.leaf (Ann.two (Ann.two Ann.leaf Ann.leaf) Ann.leaf)))))))))) Ann.leaf)) Ann.leaf))) Ann.leaf)) (Ann.two Ann.leaf (Ann.two Ann.leaf (Ann.two Ann.leaf (Ann.two (Ann.two Ann.leaf (Ann.two (Ann.two Ann.leaf Ann.leaf) Ann.leaf)) (Ann.two (Ann.two Ann.leaf (Ann.two (Ann.over [VSh.agg [Sh.int IntKind.i64, Sh.int IntKind.i64, Sh.int IntKind.i64, Sh.bool, Sh.int IntKind.i64, Sh.int IntKind.i64, Sh.slice]] true [] Ann.leaf (Ann.two (Ann.two (Ann.meet [] (Ann.two Ann.leaf (Ann.two (Ann.two Ann.leaf Ann.leaf) Ann.leaf))) (Ann.two Ann.leaf (Ann.two Ann.leaf (Ann.two Ann.leaf (Ann.two Ann.leaf (Ann.two Ann.leaf (Ann.two (Ann.two Ann.leaf Ann.leaf) Ann.leaf))))))) Ann.leaf)) Ann.leaf)) (Ann.two Ann.leaf Ann.leaf))))))))))))) [Value.int IntKind.i64 most, Value.slice entries entriesn entriesc, Value.slice script scriptn scriptc] w K = wp_longshorelaw17_QueueKeeps most entries entriesn entriesc script scriptn scriptc w K := by kernel_rfl
theorem ok_longshorelaw17_QueueKeeps {most : Int} {entries : Option Addr} {entriesn : Nat} {entriesc : Nat} {script : Option Addr} {scriptn : Nat} {scriptc : Nat} {w : World} {K : Value → World → Prop} (hwp : wp_longshorelaw17_QueueKeeps most entries entriesn entriesc script scriptn scriptc w K) : callP Tryd.prog 6 [.int .i64 most, .slice entries entriesn entriesc, .slice script scriptn scriptc] w K :=
  calls_of Tryd.func6 ((eq_longshorelaw17_QueueKeeps most entries entriesn entriesc script scriptn scriptc w K).symm ▸ hwp)

/-- longshore.longshorelaw17.live -/
def wp_longshorelaw17_live (w : World) (K : Value → World → Prop) : Prop :=
  callP Tryd.prog (8 : Nat) [Value.agg (Array.mk [Value.string (ByteArray.mk (Array.mk [(113 : UInt8)])), Value.int IntKind.i64 (2 : Int), Value.string (ByteArray.mk (Array.mk [])), Value.int IntKind.i64 (2 : Int), Value.bool false])] w fun (v : Value) (w1 : World) =>
  ∃ (p : Option Addr),
  v = Value.pointer p ∧
  Sif (Option.isNone p) (K (Value.bool false) w1)
  (newB w1 [Value.int IntKind.u8 (7 : Int)] (5 : Nat) fun (a : Addr) (w2 : World) =>
  callP Tryd.prog (12 : Nat) [Value.pointer p, Value.agg (Array.mk [Value.int IntKind.i64 (5 : Int), Value.int IntKind.i64 (4 : Int), Value.int IntKind.i64 (-1 : Int), Value.bool false, Value.int IntKind.i64 (0 : Int), Value.int IntKind.i64 (0 : Int), Value.slice (some a) (1 : Nat) (1 : Nat)])] w2 fun (v1 : Value) (w3 : World) =>
  ∃ (n : Int),
  v1 = Value.int IntKind.i64 n ∧
  callP Tryd.prog (13 : Nat) [Value.pointer p, Value.int IntKind.i64 (1 : Int), Value.nilFunc] w3 fun (v2 : Value) (w4 : World) =>
  ∃ (n1 : Int),
  ∃ (n2 : Int),
  ∃ (n3 : Int),
  ∃ (b : Bool),
  ∃ (n4 : Int),
  ∃ (n5 : Int),
  ∃ (p1 : Option Addr),
  ∃ (n6 : Nat),
  ∃ (c : Nat),
  ∃ (b1 : Bool),
  v2 = Value.tuple (Array.mk [Value.agg (Array.mk [Value.int IntKind.i64 n1, Value.int IntKind.i64 n2, Value.int IntKind.i64 n3, Value.bool b, Value.int IntKind.i64 n4, Value.int IntKind.i64 n5, Value.slice p1 n6 c]), Value.bool b1]) ∧
  newB w4 [Value.int IntKind.i64 (0 : Int), Value.int IntKind.i64 (0 : Int), Value.int IntKind.i64 (0 : Int), Value.bool false, Value.int IntKind.i64 (0 : Int), Value.int IntKind.i64 (0 : Int), Value.slice none (0 : Nat) (0 : Nat)] (37 : Nat) fun (a1 : Addr) (w5 : World) =>
  st w5 (Addr.add a1 (0 : Nat)) (Value.int IntKind.i64 n1) fun (w6 : World) =>
  st w6 (Addr.add a1 (1 : Nat)) (Value.int IntKind.i64 n2) fun (w7 : World) =>
  st w7 (Addr.add a1 (2 : Nat)) (Value.int IntKind.i64 n3) fun (w8 : World) =>
  st w8 (Addr.add a1 (3 : Nat)) (Value.bool b) fun (w9 : World) =>
  st w9 (Addr.add a1 (4 : Nat)) (Value.int IntKind.i64 n4) fun (w10 : World) =>
  st w10 (Addr.add a1 (5 : Nat)) (Value.int IntKind.i64 n5) fun (w11 : World) =>
  st w11 (Addr.add a1 (6 : Nat)) (Value.slice p1 n6 c) fun (w12 : World) =>
  callP Tryd.prog (16 : Nat) [Value.pointer p, Value.int IntKind.i64 (5 : Int), Value.int IntKind.i64 (1 : Int), Value.bool true] w12 fun (v3 : Value) (w13 : World) =>
  ∃ (n7 : Int),
  ∃ (n8 : Int),
  ∃ (n9 : Int),
  ∃ (b2 : Bool),
  ∃ (n10 : Int),
  ∃ (n11 : Int),
  ∃ (p2 : Option Addr),
  ∃ (n12 : Nat),
  ∃ (c1 : Nat),
  ∃ (b3 : Bool),
  ∃ (n13 : Int),
  v3 = Value.tuple (Array.mk [Value.agg (Array.mk [Value.int IntKind.i64 n7, Value.int IntKind.i64 n8, Value.int IntKind.i64 n9, Value.bool b2, Value.int IntKind.i64 n10, Value.int IntKind.i64 n11, Value.slice p2 n12 c1]), Value.bool b3, Value.int IntKind.i64 n13]) ∧
  newB w13 [Value.int IntKind.i64 (0 : Int), Value.int IntKind.i64 (0 : Int), Value.int IntKind.i64 (0 : Int), Value.bool false, Value.int IntKind.i64 (0 : Int), Value.int IntKind.i64 (0 : Int), Value.slice none (0 : Nat) (0 : Nat)] (37 : Nat) fun (a2 : Addr) (w14 : World) =>
  st w14 (Addr.add a2 (0 : Nat)) (Value.int IntKind.i64 n7) fun (w15 : World) =>
  st w15 (Addr.add a2 (1 : Nat)) (Value.int IntKind.i64 n8) fun (w16 : World) =>
  st w16 (Addr.add a2 (2 : Nat)) (Value.int IntKind.i64 n9) fun (w17 : World) =>
  st w17 (Addr.add a2 (3 : Nat)) (Value.bool b2) fun (w18 : World) =>
  st w18 (Addr.add a2 (4 : Nat)) (Value.int IntKind.i64 n10) fun (w19 : World) =>
  st w19 (Addr.add a2 (5 : Nat)) (Value.int IntKind.i64 n11) fun (w20 : World) =>
  st w20 (Addr.add a2 (6 : Nat)) (Value.slice p2 n12 c1) fun (w21 : World) =>
  callP Tryd.prog (10 : Nat) [Value.pointer p] w21 fun (v4 : Value) (w22 : World) =>
  ∃ (n14 : Int),
  ∃ (n15 : Int),
  v4 = Value.tuple (Array.mk [Value.int IntKind.i64 n14, Value.int IntKind.i64 n15]) ∧
  newB w22 [Value.int IntKind.i64 (0 : Int)] (3 : Nat) fun (a3 : Addr) (w23 : World) =>
  st w23 (Addr.add a3 (0 : Nat)) (Value.int IntKind.i64 (0 : Int)) fun (w24 : World) =>
  callP Tryd.prog (19 : Nat) [Value.pointer p] w24 fun (v5 : Value) (w25 : World) =>
  ∃ (v6 : Value),
  v5 = v6 ∧
  isNilF v6 fun (r : Bool) =>
  Sif r (K (Value.bool false) w25)
  (∀ (l : Nat),
  l = Array.size (Array.mk (List.concat w25.heap.toList (Obj.deferred (some [])))) →
  ∀ (rc : LoopR),
  Sv.isRec rc →
  (∀ (n16 n17 n18 : Int) (b4 : Bool) (n19 n20 : Int) (p3 : Option Addr) (n21 c2 : Nat) (w26 : World) (K' : Value → World → Prop), recAt w26 l rc LoopState.ready none → (newB w26 [Value.int IntKind.i64 (0 : Int), Value.int IntKind.i64 (0 : Int), Value.int IntKind.i64 (0 : Int), Value.bool false, Value.int IntKind.i64 (0 : Int), Value.int IntKind.i64 (0 : Int), Value.slice none (0 : Nat) (0 : Nat)] (37 : Nat) fun (a4 : Addr) (w27 : World) => st w27 (Addr.add a4 (0 : Nat)) (Value.int IntKind.i64 n16) fun (w28 : World) => st w28 (Addr.add a4 (1 : Nat)) (Value.int IntKind.i64 n17) fun (w29 : World) => st w29 (Addr.add a4 (2 : Nat)) (Value.int IntKind.i64 n18) fun (w30 : World) => st w30 (Addr.add a4 (3 : Nat)) (Value.bool b4) fun (w31 : World) => st w31 (Addr.add a4 (4 : Nat)) (Value.int IntKind.i64 n19) fun (w32 : World) => st w32 (Addr.add a4 (5 : Nat)) (Value.int IntKind.i64 n20) fun (w33 : World) => st w33 (Addr.add a4 (6 : Nat)) (Value.slice p3 n21 c2) fun (w34 : World) => recAt w34 l rc LoopState.ready none ∧ ∃ (n22 : Int), World.cell? (World.putObj w34 l (rc LoopState.busy none)) a3 = some (Value.int IntKind.i64 n22) ∧ ∃ (n23 : Int), World.cell? (World.putObj w34 l (rc LoopState.busy none)) (Addr.add a4 (0 : Nat)) = some (Value.int IntKind.i64 n23) ∧ st (World.putObj w34 l (rc LoopState.busy none)) (Addr.add a3 (0 : Nat)) (Value.int IntKind.i64 (IntKind.wrap IntKind.i64 (n22 + n23))) fun (w35 : World) => recAt w35 l rc LoopState.busy none ∧ K' (Value.bool true) (World.putObj w35 l (rc LoopState.ready none))) → yieldP Tryd.prog l [Value.agg (Array.mk [Value.int IntKind.i64 n16, Value.int IntKind.i64 n17, Value.int IntKind.i64 n18, Value.bool b4, Value.int IntKind.i64 n19, Value.int IntKind.i64 n20, Value.slice p3 n21 c2])] w26 fun (a4 : Value) (w27 : World) => K' a4 w27) →
  callF Tryd.prog v6 [Value.func (Fn.yield l) (Array.mk []) (Array.mk [])] (World.alloc (World.alloc w25 (Obj.deferred (some []))) (rc LoopState.ready none)) fun (w26 : World) => recAt w26 l rc LoopState.ready none ∧ Sif (n == (0 : Int)) (Sif b1 (∃ (n16 : Int), World.cell? (World.putObj w26 l (rc LoopState.exhausted none)) (Addr.add a1 (5 : Nat)) = some (Value.int IntKind.i64 n16) ∧ Sif (n16 == (1 : Int)) (Sif (n13 == (0 : Int)) (Sif (!b3) (∃ (n17 : Int), World.cell? (World.putObj w26 l (rc LoopState.exhausted none)) (Addr.add a2 (4 : Nat)) = some (Value.int IntKind.i64 n17) ∧ Sif (n17 == (1 : Int)) (∃ (p3 : Option Addr), ∃ (n18 : Nat), ∃ (c2 : Nat), World.cell? (World.putObj w26 l (rc LoopState.exhausted none)) (Addr.add a2 (6 : Nat)) = some (Value.slice p3 n18 c2) ∧ Sif ((↑n18 : Int) == (1 : Int)) (Sif (n14 == (1 : Int)) (Sif (n15 == (0 : Int)) (∃ (n19 : Int), World.cell? (World.putObj w26 l (rc LoopState.exhausted none)) a3 = some (Value.int IntKind.i64 n19) ∧ takeM (World.putObj w26 l (rc LoopState.exhausted none)) (Array.size w25.heap) fun (w27 : World) => K (Value.bool (n19 == (5 : Int))) w27) (takeM (World.putObj w26 l (rc LoopState.exhausted none)) (Array.size w25.heap) fun (w27 : World) => K (Value.bool false) w27)) (takeM (World.putObj w26 l (rc LoopState.exhausted none)) (Array.size w25.heap) fun (w27 : World) => K (Value.bool false) w27)) (takeM (World.putObj w26 l (rc LoopState.exhausted none)) (Array.size w25.heap) fun (w27 : World) => K (Value.bool false) w27)) (takeM (World.putObj w26 l (rc LoopState.exhausted none)) (Array.size w25.heap) fun (w27 : World) => K (Value.bool false) w27)) (takeM (World.putObj w26 l (rc LoopState.exhausted none)) (Array.size w25.heap) fun (w27 : World) => K (Value.bool false) w27)) (takeM (World.putObj w26 l (rc LoopState.exhausted none)) (Array.size w25.heap) fun (w27 : World) => K (Value.bool false) w27)) (takeM (World.putObj w26 l (rc LoopState.exhausted none)) (Array.size w25.heap) fun (w27 : World) => K (Value.bool false) w27)) (takeM (World.putObj w26 l (rc LoopState.exhausted none)) (Array.size w25.heap) fun (w27 : World) => K (Value.bool false) w27)) (takeM (World.putObj w26 l (rc LoopState.exhausted none)) (Array.size w25.heap) fun (w27 : World) => K (Value.bool false) w27) ∨ False ∨ False))
set_option maxRecDepth 100000 in
theorem eq_longshorelaw17_live (w : World) (K : Value → World → Prop) : wpF Tryd.prog none Tryd.f7 (Ann.two Ann.leaf (Ann.two Ann.leaf (Ann.two (Ann.two Ann.leaf (Ann.two (Ann.two Ann.leaf Ann.leaf) Ann.leaf)) (Ann.two Ann.leaf (Ann.two Ann.leaf (Ann.two Ann.leaf (Ann.two Ann.leaf (Ann.two Ann.leaf (Ann.two Ann.leaf (Ann.two (Ann.two Ann.leaf (Ann.two (Ann.two Ann.leaf Ann.leaf) Ann.leaf)) (Ann.two (Ann.two Ann.leaf (Ann.two (Ann.over [VSh.agg [Sh.int IntKind.i64, Sh.int IntKind.i64, Sh.int IntKind.i64, Sh.bool, Sh.int IntKind.i64, Sh.int IntKind.i64, Sh.slice]] false [] Ann.leaf (Ann.two Ann.leaf Ann.leaf)) Ann.leaf)) (Ann.two Ann.leaf Ann.leaf)))))))))))) [] w K = wp_longshorelaw17_live w K := by kernel_rfl
theorem ok_longshorelaw17_live {w : World} {K : Value → World → Prop} (hwp : wp_longshorelaw17_live w K) : callP Tryd.prog 7 [] w K :=
  calls_of Tryd.func7 ((eq_longshorelaw17_live w K).symm ▸ hwp)

/-- longshore.longshorelaw17.same -/
def wp_longshorelaw17_same (a_0 : Int) (a_1 : Int) (a_2 : Int) (a_3 : Bool) (a_4 : Int) (a_5 : Int) (a_6 : Option Addr) (a_6n : Nat) (a_6c : Nat) (b_0 : Int) (b_1 : Int) (b_2 : Int) (b_3 : Bool) (b_4 : Int) (b_5 : Int) (b_6 : Option Addr) (b_6n : Nat) (b_6c : Nat) (w : World) (K : Value → World → Prop) : Prop :=
  newB w [Value.int IntKind.i64 a_0, Value.int IntKind.i64 a_1, Value.int IntKind.i64 a_2, Value.bool a_3, Value.int IntKind.i64 a_4, Value.int IntKind.i64 a_5, Value.slice a_6 a_6n a_6c] (37 : Nat) fun (a : Addr) (w1 : World) => newB w1 [Value.int IntKind.i64 b_0, Value.int IntKind.i64 b_1, Value.int IntKind.i64 b_2, Value.bool b_3, Value.int IntKind.i64 b_4, Value.int IntKind.i64 b_5, Value.slice b_6 b_6n b_6c] (37 : Nat) fun (a1 : Addr) (w2 : World) => ∃ (p : Option Addr), ∃ (n : Nat), ∃ (c : Nat), World.cell? w2 (Addr.add a (6 : Nat)) = some (Value.slice p n c) ∧ ∃ (p1 : Option Addr), ∃ (n1 : Nat), ∃ (c1 : Nat), World.cell? w2 (Addr.add a1 (6 : Nat)) = some (Value.slice p1 n1 c1) ∧ callP Tryd.prog (20 : Nat) [Value.slice p n c, Value.slice p1 n1 c1] w2 fun (v : Value) (w3 : World) => ∃ (b : Bool), v = Value.bool b ∧ Sif b (∃ (n2 : Int), World.cell? w3 (Addr.add a (0 : Nat)) = some (Value.int IntKind.i64 n2) ∧ ∃ (n3 : Int), World.cell? w3 (Addr.add a1 (0 : Nat)) = some (Value.int IntKind.i64 n3) ∧ Sif (n2 == n3) (∃ (n4 : Int), World.cell? w3 (Addr.add a (1 : Nat)) = some (Value.int IntKind.i64 n4) ∧ ∃ (n5 : Int), World.cell? w3 (Addr.add a1 (1 : Nat)) = some (Value.int IntKind.i64 n5) ∧ Sif (n4 == n5) (∃ (n6 : Int), World.cell? w3 (Addr.add a (2 : Nat)) = some (Value.int IntKind.i64 n6) ∧ ∃ (n7 : Int), World.cell? w3 (Addr.add a1 (2 : Nat)) = some (Value.int IntKind.i64 n7) ∧ Sif (n6 == n7) (∃ (b1 : Bool), World.cell? w3 (Addr.add a (3 : Nat)) = some (Value.bool b1) ∧ ∃ (b2 : Bool), World.cell? w3 (Addr.add a1 (3 : Nat)) = some (Value.bool b2) ∧ Sif (b1 == b2) (∃ (n8 : Int), World.cell? w3 (Addr.add a (4 : Nat)) = some (Value.int IntKind.i64 n8) ∧ ∃ (n9 : Int), World.cell? w3 (Addr.add a1 (4 : Nat)) = some (Value.int IntKind.i64 n9) ∧ Sif (n8 == n9) (∃ (n10 : Int), World.cell? w3 (Addr.add a (5 : Nat)) = some (Value.int IntKind.i64 n10) ∧ ∃ (n11 : Int), World.cell? w3 (Addr.add a1 (5 : Nat)) = some (Value.int IntKind.i64 n11) ∧ K (Value.bool (n10 == n11)) w3) (K (Value.bool false) w3)) (K (Value.bool false) w3)) (K (Value.bool false) w3)) (K (Value.bool false) w3)) (K (Value.bool false) w3)) (K (Value.bool false) w3)
set_option maxRecDepth 100000 in
theorem eq_longshorelaw17_same (a_0 : Int) (a_1 : Int) (a_2 : Int) (a_3 : Bool) (a_4 : Int) (a_5 : Int) (a_6 : Option Addr) (a_6n : Nat) (a_6c : Nat) (b_0 : Int) (b_1 : Int) (b_2 : Int) (b_3 : Bool) (b_4 : Int) (b_5 : Int) (b_6 : Option Addr) (b_6n : Nat) (b_6c : Nat) (w : World) (K : Value → World → Prop) : wpF Tryd.prog none Tryd.f14 (Ann.two Ann.leaf (Ann.two Ann.leaf (Ann.two Ann.leaf Ann.leaf))) [Value.agg #[Value.int IntKind.i64 a_0, Value.int IntKind.i64 a_1, Value.int IntKind.i64 a_2, Value.bool a_3, Value.int IntKind.i64 a_4, Value.int IntKind.i64 a_5, Value.slice a_6 a_6n a_6c], Value.agg #[Value.int IntKind.i64 b_0, Value.int IntKind.i64 b_1, Value.int IntKind.i64 b_2, Value.bool b_3, Value.int IntKind.i64 b_4, Value.int IntKind.i64 b_5, Value.slice b_6 b_6n b_6c]] w K = wp_longshorelaw17_same a_0 a_1 a_2 a_3 a_4 a_5 a_6 a_6n a_6c b_0 b_1 b_2 b_3 b_4 b_5 b_6 b_6n b_6c w K := by kernel_rfl
theorem ok_longshorelaw17_same {a_0 : Int} {a_1 : Int} {a_2 : Int} {a_3 : Bool} {a_4 : Int} {a_5 : Int} {a_6 : Option Addr} {a_6n : Nat} {a_6c : Nat} {b_0 : Int} {b_1 : Int} {b_2 : Int} {b_3 : Bool} {b_4 : Int} {b_5 : Int} {b_6 : Option Addr} {b_6n : Nat} {b_6c : Nat} {w : World} {K : Value → World → Prop} (hwp : wp_longshorelaw17_same a_0 a_1 a_2 a_3 a_4 a_5 a_6 a_6n a_6c b_0 b_1 b_2 b_3 b_4 b_5 b_6 b_6n b_6c w K) : callP Tryd.prog 14 [.agg #[.int .i64 a_0, .int .i64 a_1, .int .i64 a_2, .bool a_3, .int .i64 a_4, .int .i64 a_5, .slice a_6 a_6n a_6c], .agg #[.int .i64 b_0, .int .i64 b_1, .int .i64 b_2, .bool b_3, .int .i64 b_4, .int .i64 b_5, .slice b_6 b_6n b_6c]] w K :=
  calls_of Tryd.func14 ((eq_longshorelaw17_same a_0 a_1 a_2 a_3 a_4 a_5 a_6 a_6n a_6c b_0 b_1 b_2 b_3 b_4 b_5 b_6 b_6n b_6c w K).symm ▸ hwp)

/-- longshore.longshorelaw17.sameBytes -/
def wp_longshorelaw17_sameBytes (a : Option Addr) (an : Nat) (ac : Nat) (b : Option Addr) (bn : Nat) (bc : Nat) (w : World) (K : Value → World → Prop) : Prop :=
  ∃ (s : ByteArray), Sem.run Tryd.prog (convert (35 : Nat) (9 : Nat) (Value.slice a an ac)) w = Result.ok (Value.string s) w ∧ ∃ (s1 : ByteArray), Sem.run Tryd.prog (convert (35 : Nat) (9 : Nat) (Value.slice b bn bc)) w = Result.ok (Value.string s1) w ∧ K (Value.bool (ByteArray.toList s == ByteArray.toList s1)) w
set_option maxRecDepth 100000 in
theorem eq_longshorelaw17_sameBytes (a : Option Addr) (an : Nat) (ac : Nat) (b : Option Addr) (bn : Nat) (bc : Nat) (w : World) (K : Value → World → Prop) : wpF Tryd.prog none Tryd.f20 (Ann.two Ann.leaf (Ann.two Ann.leaf Ann.leaf)) [Value.slice a an ac, Value.slice b bn bc] w K = wp_longshorelaw17_sameBytes a an ac b bn bc w K := by kernel_rfl
theorem ok_longshorelaw17_sameBytes {a : Option Addr} {an : Nat} {ac : Nat} {b : Option Addr} {bn : Nat} {bc : Nat} {w : World} {K : Value → World → Prop} (hwp : wp_longshorelaw17_sameBytes a an ac b bn bc w K) : callP Tryd.prog 20 [.slice a an ac, .slice b bn bc] w K :=
  calls_of Tryd.func20 ((eq_longshorelaw17_sameBytes a an ac b bn bc w K).symm ▸ hwp)

end Go.Proofs.YtipbbjnmpnfhpaaDoor
