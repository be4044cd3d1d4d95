/-
  What a call of each function comes to (definitions 'wp_..', reckoned by a program out of the model's code), and that it is sound ('ok_..'). Written by program (sv.py).
-/
import Derived.Test.YtipbbjnmpnfhpaaGreatDoorPa6
import Derived.Test.YtipbbjnmpnfhpaaGreatDoorProg
import Derived.KernelRfl
namespace Go.Proofs.YtipbbjnmpnfhpaaGreatDoor
open Go Go.Sv
set_option linter.unusedVariables false

set_option maxRecDepth 100000 in
/-- longshore.longshorelaw17.QueuePlays -/
def wp_longshorelaw17_QueuePlays (c_0 : ByteArray) (c_1 : Int) (c_2 : ByteArray) (c_3 : Int) (c_4 : Bool) (d_0 : ByteArray) (d_1 : Int) (d_2 : ByteArray) (d_3 : Int) (d_4 : Bool) (script : Option Addr) (scriptn : Nat) (scriptc : Nat) (w : World) (K : Value → World → Prop) : Prop :=
  newB w [.string c_0, .int .i64 c_1, .string c_2, .int .i64 c_3, .bool c_4] 23 fun a w1 =>
  newB w1 [.string d_0, .int .i64 d_1, .string d_2, .int .i64 d_3, .bool d_4] 23 fun a1 w2 =>
  callP Tryz.prog 5 [] w2 fun v w3 =>
  ∃ (b : Bool),
  v = .bool b ∧
  ∃ (s : ByteArray),
  w3.cell? (Addr.add a 0) = some (.string s) ∧
  ∃ (n : Int),
  w3.cell? (Addr.add a 1) = some (.int .i64 n) ∧
  ∃ (s1 : ByteArray),
  w3.cell? (Addr.add a 2) = some (.string s1) ∧
  ∃ (n1 : Int),
  w3.cell? (Addr.add a 3) = some (.int .i64 n1) ∧
  ∃ (b1 : Bool),
  w3.cell? (Addr.add a 4) = some (.bool b1) ∧
  callP Tryz.prog 6 [.agg (Array.mk [.string s, .int .i64 n, .string s1, .int .i64 n1, .bool b1])] w3 fun v1 w4 =>
  ∃ (p : Option Addr),
  v1 = .pointer p ∧
  ∃ (s2 : ByteArray),
  w4.cell? (Addr.add a 0) = some (.string s2) ∧
  ∃ (n2 : Int),
  w4.cell? (Addr.add a 1) = some (.int .i64 n2) ∧
  ∃ (s3 : ByteArray),
  w4.cell? (Addr.add a 2) = some (.string s3) ∧
  ∃ (n3 : Int),
  w4.cell? (Addr.add a 3) = some (.int .i64 n3) ∧
  ∃ (b2 : Bool),
  w4.cell? (Addr.add a 4) = some (.bool b2) ∧
  callP Tryz.prog 7 [.agg (Array.mk [.string s2, .int .i64 n2, .string s3, .int .i64 n3, .bool b2])] w4 fun v2 w5 =>
  ∃ (p1 : Option Addr),
  v2 = .pointer p1 ∧
  ∃ (s4 : ByteArray),
  w5.cell? (Addr.add a1 0) = some (.string s4) ∧
  ∃ (n4 : Int),
  w5.cell? (Addr.add a1 1) = some (.int .i64 n4) ∧
  ∃ (s5 : ByteArray),
  w5.cell? (Addr.add a1 2) = some (.string s5) ∧
  ∃ (n5 : Int),
  w5.cell? (Addr.add a1 3) = some (.int .i64 n5) ∧
  ∃ (b3 : Bool),
  w5.cell? (Addr.add a1 4) = some (.bool b3) ∧
  callP Tryz.prog 6 [.agg (Array.mk [.string s4, .int .i64 n4, .string s5, .int .i64 n5, .bool b3])] w5 fun v3 w6 =>
  ∃ (p2 : Option Addr),
  v3 = .pointer p2 ∧
  ∃ (s6 : ByteArray),
  w6.cell? (Addr.add a1 0) = some (.string s6) ∧
  ∃ (n6 : Int),
  w6.cell? (Addr.add a1 1) = some (.int .i64 n6) ∧
  ∃ (s7 : ByteArray),
  w6.cell? (Addr.add a1 2) = some (.string s7) ∧
  ∃ (n7 : Int),
  w6.cell? (Addr.add a1 3) = some (.int .i64 n7) ∧
  ∃ (b4 : Bool),
  w6.cell? (Addr.add a1 4) = some (.bool b4) ∧
  callP Tryz.prog 7 [.agg (Array.mk [.string s6, .int .i64 n6, .string s7, .int .i64 n7, .bool b4])] w6 fun v4 w7 =>
  ∃ (p3 : Option Addr),
  v4 = .pointer p3 ∧
  ∃ (J : World → Prop),
  (∀ (w8 : World),
  J w8 →
  newB w8 [.int .i64 0, .slice none 0 0, .slice none 0 0, .slice none 0 0, .slice none 0 0, .slice none 0 0] 39 fun a2 w9 =>
  ∃ (I : Nat → Int → World → Prop),
  (∃ (m : Nat), I m 0 w9) ∧
  ∀ (m : Nat) (n8 : Int) (w10 : World),
  I m n8 w10 →
  Sif (decide (n8 < (↑scriptn : Int)))
  (∃ (J1 : Bool → World → Prop),
  (∀ (b5 : Bool) (w11 : World), J1 b5 w11 → Sif (!b5) (K (.bool false) w11) (nameI (IntKind.wrap .i64 (n8 + 1)) fun n9 => ∃ (m' : Nat), m' < m ∧ I m' n9 w11)) ∧
  (4 : Int) ≠ (0 : Int) ∧
  Sif (Int.tmod n8 4 == 3) (0 ≤ n8 ∧ n8 < (↑scriptn : Int) ∧ nn script fun a3 => ∃ (n9 : Int), w10.cell? (Addr.add (Addr.add a3 (Int.toNat n8 * 13)) 0) = some (.int .i64 n9) ∧ ∃ (n10 : Int), w10.cell? (Addr.add (Addr.add a3 (Int.toNat n8 * 13)) 1) = some (.int .i64 n10) ∧ ∃ (n11 : Int), w10.cell? (Addr.add (Addr.add a3 (Int.toNat n8 * 13)) 2) = some (.int .i64 n11) ∧ ∃ (n12 : Int), w10.cell? (Addr.add (Addr.add a3 (Int.toNat n8 * 13)) 3) = some (.int .i64 n12) ∧ ∃ (p4 : Option Addr) (n13 c : Nat), w10.cell? (Addr.add (Addr.add a3 (Int.toNat n8 * 13)) 4) = some (.slice p4 n13 c) ∧ ∃ (b5 : Bool), w10.cell? (Addr.add (Addr.add a3 (Int.toNat n8 * 13)) 5) = some (.bool b5) ∧ ∃ (n14 : Int), w10.cell? (Addr.add (Addr.add a3 (Int.toNat n8 * 13)) 6) = some (.int .i64 n14) ∧ ∃ (n15 : Int), w10.cell? (Addr.add (Addr.add a3 (Int.toNat n8 * 13)) 7) = some (.int .i64 n15) ∧ ∃ (n16 : Int), w10.cell? (Addr.add (Addr.add a3 (Int.toNat n8 * 13)) 8) = some (.int .i64 n16) ∧ ∃ (b6 : Bool), w10.cell? (Addr.add (Addr.add a3 (Int.toNat n8 * 13)) 9) = some (.bool b6) ∧ ∃ (n17 : Int), w10.cell? (Addr.add (Addr.add a3 (Int.toNat n8 * 13)) 10) = some (.int .i64 n17) ∧ ∃ (n18 : Int), w10.cell? (Addr.add (Addr.add a3 (Int.toNat n8 * 13)) 11) = some (.int .i64 n18) ∧ ∃ (p5 : Option Addr) (n19 c1 : Nat), w10.cell? (Addr.add (Addr.add a3 (Int.toNat n8 * 13)) 12) = some (.slice p5 n19 c1) ∧ callP Tryz.prog 12 [.pointer (some a2), .pointer p2, .pointer p3, .agg (Array.mk [.int .i64 n9, .int .i64 n10, .int .i64 n11, .int .i64 n12, .slice p4 n13 c, .bool b5, .int .i64 n14, .int .i64 n15, .int .i64 n16, .bool b6, .int .i64 n17, .int .i64 n18, .slice p5 n19 c1])] w10 fun v5 w11 => ∃ (b7 : Bool), v5 = .bool b7 ∧ J1 b7 w11)
  (0 ≤ n8 ∧ n8 < (↑scriptn : Int) ∧ nn script fun a3 => ∃ (n9 : Int), w10.cell? (Addr.add (Addr.add a3 (Int.toNat n8 * 13)) 0) = some (.int .i64 n9) ∧ ∃ (n10 : Int), w10.cell? (Addr.add (Addr.add a3 (Int.toNat n8 * 13)) 1) = some (.int .i64 n10) ∧ ∃ (n11 : Int), w10.cell? (Addr.add (Addr.add a3 (Int.toNat n8 * 13)) 2) = some (.int .i64 n11) ∧ ∃ (n12 : Int), w10.cell? (Addr.add (Addr.add a3 (Int.toNat n8 * 13)) 3) = some (.int .i64 n12) ∧ ∃ (p4 : Option Addr) (n13 c : Nat), w10.cell? (Addr.add (Addr.add a3 (Int.toNat n8 * 13)) 4) = some (.slice p4 n13 c) ∧ ∃ (b5 : Bool), w10.cell? (Addr.add (Addr.add a3 (Int.toNat n8 * 13)) 5) = some (.bool b5) ∧ ∃ (n14 : Int), w10.cell? (Addr.add (Addr.add a3 (Int.toNat n8 * 13)) 6) = some (.int .i64 n14) ∧ ∃ (n15 : Int), w10.cell? (Addr.add (Addr.add a3 (Int.toNat n8 * 13)) 7) = some (.int .i64 n15) ∧ ∃ (n16 : Int), w10.cell? (Addr.add (Addr.add a3 (Int.toNat n8 * 13)) 8) = some (.int .i64 n16) ∧ ∃ (b6 : Bool), w10.cell? (Addr.add (Addr.add a3 (Int.toNat n8 * 13)) 9) = some (.bool b6) ∧ ∃ (n17 : Int), w10.cell? (Addr.add (Addr.add a3 (Int.toNat n8 * 13)) 10) = some (.int .i64 n17) ∧ ∃ (n18 : Int), w10.cell? (Addr.add (Addr.add a3 (Int.toNat n8 * 13)) 11) = some (.int .i64 n18) ∧ ∃ (p5 : Option Addr) (n19 c1 : Nat), w10.cell? (Addr.add (Addr.add a3 (Int.toNat n8 * 13)) 12) = some (.slice p5 n19 c1) ∧ callP Tryz.prog 12 [.pointer (some a2), .pointer p, .pointer p1, .agg (Array.mk [.int .i64 n9, .int .i64 n10, .int .i64 n11, .int .i64 n12, .slice p4 n13 c, .bool b5, .int .i64 n14, .int .i64 n15, .int .i64 n16, .bool b6, .int .i64 n17, .int .i64 n18, .slice p5 n19 c1])] w10 fun v5 w11 => ∃ (b7 : Bool), v5 = .bool b7 ∧ J1 b7 w11))
  (callP Tryz.prog 14 [.pointer (some a2), .pointer p, .pointer p1, .int .i64 (-1)] w10 fun v5 w11 =>
  ∃ (b5 : Bool),
  v5 = .bool b5 ∧
  callP Tryz.prog 14 [.pointer (some a2), .pointer p2, .pointer p3, .int .i64 (-1)] w11 fun v6 w12 =>
  ∃ (b6 : Bool),
  v6 = .bool b6 ∧
  callP Tryz.prog 15 [.pointer (some a2)] w12 fun v7 w13 =>
  ∃ (b7 : Bool),
  v7 = .bool b7 ∧
  callP Tryz.prog 14 [.pointer (some a2), .pointer p, .pointer p1, .int .i64 (-1)] w13 fun v8 w14 =>
  ∃ (b8 : Bool),
  v8 = .bool b8 ∧
  Sif b5
  (Sif b6
  (Sif b7
  (Sif b8
  (∃ (s8 : ByteArray),
  World.cell? (World.drew w14) (Addr.add a 0) = some (.string s8) ∧
  ∃ (n9 : Int),
  World.cell? (World.drew w14) (Addr.add a 1) = some (.int .i64 n9) ∧
  ∃ (s9 : ByteArray),
  World.cell? (World.drew w14) (Addr.add a 2) = some (.string s9) ∧
  ∃ (n10 : Int),
  World.cell? (World.drew w14) (Addr.add a 3) = some (.int .i64 n10) ∧
  ∃ (b9 : Bool),
  World.cell? (World.drew w14) (Addr.add a 4) = some (.bool b9) ∧
  callP Tryz.prog 16 [.pointer p] (World.drew w14) fun v9 w15 =>
  ∃ (s10 : ByteArray) (n11 : Int), ∃ (s11 : ByteArray) (n12 : Int) (b10 : Bool), v9 = .agg (Array.mk [.string s10, .int .i64 n11, .string s11, .int .i64 n12, .bool b10]) ∧ (∃ (s12 : ByteArray), w15.cell? (Addr.add a 0) = some (.string s12) ∧ ∃ (n13 : Int), w15.cell? (Addr.add a 1) = some (.int .i64 n13) ∧ ∃ (s13 : ByteArray), w15.cell? (Addr.add a 2) = some (.string s13) ∧ ∃ (n14 : Int), w15.cell? (Addr.add a 3) = some (.int .i64 n14) ∧ ∃ (b11 : Bool), w15.cell? (Addr.add a 4) = some (.bool b11) ∧ Value.agg (Array.mk [.string s12, .int .i64 n13, .string s13, .int .i64 n14, .bool b11]) = .agg (Array.mk [.string s8, .int .i64 n9, .string s9, .int .i64 n10, .bool b9])) ∧ Sif (ByteArray.toList s10 == ByteArray.toList s8 && (n11 == n9 && (ByteArray.toList s11 == ByteArray.toList s9 && (n12 == n10 && (b10 == b9 && true))))) (∃ (s12 : ByteArray), w15.cell? (Addr.add a1 0) = some (.string s12) ∧ ∃ (n13 : Int), w15.cell? (Addr.add a1 1) = some (.int .i64 n13) ∧ ∃ (s13 : ByteArray), w15.cell? (Addr.add a1 2) = some (.string s13) ∧ ∃ (n14 : Int), w15.cell? (Addr.add a1 3) = some (.int .i64 n14) ∧ ∃ (b11 : Bool), w15.cell? (Addr.add a1 4) = some (.bool b11) ∧ callP Tryz.prog 16 [.pointer p2] w15 fun v10 w16 => ∃ (s14 : ByteArray) (n15 : Int), ∃ (s15 : ByteArray) (n16 : Int) (b12 : Bool), v10 = .agg (Array.mk [.string s14, .int .i64 n15, .string s15, .int .i64 n16, .bool b12]) ∧ (∃ (s16 : ByteArray), w16.cell? (Addr.add a1 0) = some (.string s16) ∧ ∃ (n17 : Int), w16.cell? (Addr.add a1 1) = some (.int .i64 n17) ∧ ∃ (s17 : ByteArray), w16.cell? (Addr.add a1 2) = some (.string s17) ∧ ∃ (n18 : Int), w16.cell? (Addr.add a1 3) = some (.int .i64 n18) ∧ ∃ (b13 : Bool), w16.cell? (Addr.add a1 4) = some (.bool b13) ∧ Value.agg (Array.mk [.string s16, .int .i64 n17, .string s17, .int .i64 n18, .bool b13]) = .agg (Array.mk [.string s12, .int .i64 n13, .string s13, .int .i64 n14, .bool b11])) ∧ K (.bool (ByteArray.toList s14 == ByteArray.toList s12 && (n15 == n13 && (ByteArray.toList s15 == ByteArray.toList s13 && (n16 == n14 && (b12 == b11 && true)))))) w16) (K (.bool false) w15))
  (K (.bool false) (World.drew w14)))
  (K (.bool false) (World.drew w14)))
  (K (.bool false) (World.drew w14)))
  (K (.bool false) (World.drew w14)))) ∧
  Sif (!!b) (Sif (!Option.isNone p) (Sif (!Option.isNone p1) (Sif (!Option.isNone p2) (Sif (Option.isNone p3) (Sif b (Sif (Option.isNone p == Option.isNone p1) (K (.bool (Option.isNone p2 == Option.isNone p3)) w7) (K (.bool false) w7)) (K (.bool false) w7)) (J w7)) (Sif b (Sif (Option.isNone p == Option.isNone p1) (K (.bool (Option.isNone p2 == Option.isNone p3)) w7) (K (.bool false) w7)) (K (.bool false) w7))) (Sif b (Sif (Option.isNone p == Option.isNone p1) (K (.bool (Option.isNone p2 == Option.isNone p3)) w7) (K (.bool false) w7)) (K (.bool false) w7))) (Sif b (Sif (Option.isNone p == Option.isNone p1) (K (.bool (Option.isNone p2 == Option.isNone p3)) w7) (K (.bool false) w7)) (K (.bool false) w7))) (Sif b (Sif (Option.isNone p == Option.isNone p1) (K (.bool (Option.isNone p2 == Option.isNone p3)) w7) (K (.bool false) w7)) (K (.bool false) w7))
set_option maxRecDepth 100000 in
theorem eq_longshorelaw17_QueuePlays (c_0 : ByteArray) (c_1 : Int) (c_2 : ByteArray) (c_3 : Int) (c_4 : Bool) (d_0 : ByteArray) (d_1 : Int) (d_2 : ByteArray) (d_3 : Int) (d_4 : Bool) (script : Option Addr) (scriptn : Nat) (scriptc : Nat) (w : World) (K : Value → World → Prop) : wpF Tryz.prog none Tryz.f4 (.two .leaf (.two .leaf (.two .leaf (.two .leaf (.two .leaf (.two .leaf (.two (Ann.meet [] (.two .leaf (.two (.two .leaf .leaf) .leaf))) (.two .leaf (.two (.two .leaf (.two (Ann.loop [((13 : Nat), VSh.cell (Sh.int IntKind.i64))] (.two (.two .leaf (.two .leaf .leaf)) (.two (.two (.two .leaf (.two (Ann.meet [((14 : Nat), VSh.cell Sh.bool)] (.two .leaf (.two .leaf .leaf))) (.two .leaf (.two (.two .leaf .leaf) .leaf)))) .leaf) .leaf))) .leaf)) (.two .leaf (.two .leaf (.two .leaf (.two .leaf (.two (Ann.draw [(0 : Nat), (1 : Nat), (2 : Nat), (3 : Nat), (4 : Nat), (5 : Nat), (6 : Nat), (7 : Nat), (8 : Nat), (9 : Nat), (10 : Nat), (11 : Nat), (13 : Nat), (12 : Nat), (14 : Nat), (15 : Nat), (16 : Nat), (17 : Nat), (19 : Nat), (18 : Nat), (20 : Nat), (21 : Nat), (22 : Nat)]) .leaf)))))))))))))) [Value.agg #[Value.string c_0, Value.int IntKind.i64 c_1, Value.string c_2, Value.int IntKind.i64 c_3, Value.bool c_4], Value.agg #[Value.string d_0, Value.int IntKind.i64 d_1, Value.string d_2, Value.int IntKind.i64 d_3, Value.bool d_4], Value.slice script scriptn scriptc] w K = wp_longshorelaw17_QueuePlays c_0 c_1 c_2 c_3 c_4 d_0 d_1 d_2 d_3 d_4 script scriptn scriptc w K := by kernel_rfl
theorem ok_longshorelaw17_QueuePlays {c_0 : ByteArray} {c_1 : Int} {c_2 : ByteArray} {c_3 : Int} {c_4 : Bool} {d_0 : ByteArray} {d_1 : Int} {d_2 : ByteArray} {d_3 : Int} {d_4 : Bool} {script : Option Addr} {scriptn : Nat} {scriptc : Nat} {w : World} {K : Value → World → Prop} (hwp : wp_longshorelaw17_QueuePlays c_0 c_1 c_2 c_3 c_4 d_0 d_1 d_2 d_3 d_4 script scriptn scriptc w K) : callP Tryz.prog 4 [.agg #[.string c_0, .int .i64 c_1, .string c_2, .int .i64 c_3, .bool c_4], .agg #[.string d_0, .int .i64 d_1, .string d_2, .int .i64 d_3, .bool d_4], .slice script scriptn scriptc] w K :=
  calls_of Tryz.func4 ((eq_longshorelaw17_QueuePlays c_0 c_1 c_2 c_3 c_4 d_0 d_1 d_2 d_3 d_4 script scriptn scriptc w K).symm ▸ hwp)

/-- longshore.longshorelaw17.live -/
def wp_longshorelaw17_live (w : World) (K : Value → World → Prop) : Prop :=
  callP Tryz.prog 6 [.agg (Array.mk [.string (ByteArray.mk (Array.mk [(113 : UInt8)])), .int .i64 2, .string (ByteArray.mk (Array.mk [])), .int .i64 2, .bool false])] w fun v w1 =>
  ∃ (p : Option Addr),
  v = .pointer p ∧
  Sif (Option.isNone p) (K (.bool false) w1)
  (newB w1 [.int .u8 7] 5 fun a w2 =>
  callP Tryz.prog 17 [.pointer p, .agg (Array.mk [.int .i64 5, .int .i64 4, .int .i64 (-1), .bool false, .int .i64 0, .int .i64 0, .slice (some a) 1 1])] w2 fun v1 w3 =>
  ∃ (n : Int),
  v1 = .int .i64 n ∧
  callP Tryz.prog 18 [.pointer p, .int .i64 1, .nilFunc] w3 fun v2 w4 =>
  ∃ (n1 n2 : Int),
  ∃ (n3 : Int) (b : Bool),
  ∃ (n4 n5 : Int),
  ∃ (p1 : Option Addr) (n6 : Nat),
  ∃ (c : Nat) (b1 : Bool),
  v2 = .tuple (Array.mk [.agg (Array.mk [.int .i64 n1, .int .i64 n2, .int .i64 n3, .bool b, .int .i64 n4, .int .i64 n5, .slice p1 n6 c]), .bool b1]) ∧
  newB w4 [.int .i64 0, .int .i64 0, .int .i64 0, .bool false, .int .i64 0, .int .i64 0, .slice none 0 0] 34 fun a1 w5 =>
  st w5 (Addr.add a1 0) (.int .i64 n1) fun w6 =>
  st w6 (Addr.add a1 1) (.int .i64 n2) fun w7 =>
  st w7 (Addr.add a1 2) (.int .i64 n3) fun w8 =>
  st w8 (Addr.add a1 3) (.bool b) fun w9 =>
  st w9 (Addr.add a1 4) (.int .i64 n4) fun w10 =>
  st w10 (Addr.add a1 5) (.int .i64 n5) fun w11 =>
  st w11 (Addr.add a1 6) (.slice p1 n6 c) fun w12 =>
  callP Tryz.prog 19 [.pointer p, .int .i64 5, .int .i64 1, .bool true] w12 fun v3 w13 =>
  ∃ (n7 n8 : Int),
  ∃ (n9 : Int) (b2 : Bool),
  ∃ (n10 n11 : Int),
  ∃ (p2 : Option Addr) (n12 : Nat),
  ∃ (c1 : Nat) (b3 : Bool) (n13 : Int),
  v3 = .tuple (Array.mk [.agg (Array.mk [.int .i64 n7, .int .i64 n8, .int .i64 n9, .bool b2, .int .i64 n10, .int .i64 n11, .slice p2 n12 c1]), .bool b3, .int .i64 n13]) ∧
  newB w13 [.int .i64 0, .int .i64 0, .int .i64 0, .bool false, .int .i64 0, .int .i64 0, .slice none 0 0] 34 fun a2 w14 =>
  st w14 (Addr.add a2 0) (.int .i64 n7) fun w15 =>
  st w15 (Addr.add a2 1) (.int .i64 n8) fun w16 =>
  st w16 (Addr.add a2 2) (.int .i64 n9) fun w17 =>
  st w17 (Addr.add a2 3) (.bool b2) fun w18 =>
  st w18 (Addr.add a2 4) (.int .i64 n10) fun w19 =>
  st w19 (Addr.add a2 5) (.int .i64 n11) fun w20 =>
  st w20 (Addr.add a2 6) (.slice p2 n12 c1) fun w21 =>
  callP Tryz.prog 20 [.pointer p] w21 fun v4 w22 =>
  ∃ (n14 n15 : Int),
  v4 = .tuple (Array.mk [.int .i64 n14, .int .i64 n15]) ∧
  newB w22 [.int .i64 0] 3 fun a3 w23 =>
  st w23 (Addr.add a3 0) (.int .i64 0) fun w24 =>
  callP Tryz.prog 9 [.pointer p] w24 fun v5 w25 =>
  ∃ (v6 : Value),
  v5 = v6 ∧
  isNilF v6 fun r =>
  Sif r (K (.bool false) w25)
  (∀ (l : Nat),
  l = Array.size (Array.mk (List.concat w25.heap.toList (Obj.deferred (some [])))) →
  ∀ (rc : LoopR),
  Sv.isRec rc →
  (∀ (n16 n17 n18 : Int) (b4 : Bool) (n19 n20 : Int) (p3 : Option Addr) (n21 c2 : Nat) (w26 : World) (K' : Value → World → Prop), recAt w26 l rc LoopState.ready none → (newB w26 [.int .i64 0, .int .i64 0, .int .i64 0, .bool false, .int .i64 0, .int .i64 0, .slice none 0 0] 34 fun a4 w27 => st w27 (Addr.add a4 0) (.int .i64 n16) fun w28 => st w28 (Addr.add a4 1) (.int .i64 n17) fun w29 => st w29 (Addr.add a4 2) (.int .i64 n18) fun w30 => st w30 (Addr.add a4 3) (.bool b4) fun w31 => st w31 (Addr.add a4 4) (.int .i64 n19) fun w32 => st w32 (Addr.add a4 5) (.int .i64 n20) fun w33 => st w33 (Addr.add a4 6) (.slice p3 n21 c2) fun w34 => recAt w34 l rc LoopState.ready none ∧ ∃ (n22 : Int), World.cell? (World.putObj w34 l (rc LoopState.busy none)) a3 = some (.int .i64 n22) ∧ ∃ (n23 : Int), World.cell? (World.putObj w34 l (rc LoopState.busy none)) (Addr.add a4 0) = some (.int .i64 n23) ∧ st (World.putObj w34 l (rc LoopState.busy none)) (Addr.add a3 0) (.int .i64 (IntKind.wrap .i64 (n22 + n23))) fun w35 => recAt w35 l rc LoopState.busy none ∧ K' (.bool true) (World.putObj w35 l (rc LoopState.ready none))) → yieldP Tryz.prog l [.agg (Array.mk [.int .i64 n16, .int .i64 n17, .int .i64 n18, .bool b4, .int .i64 n19, .int .i64 n20, .slice p3 n21 c2])] w26 fun a4 w27 => K' a4 w27) →
  callF Tryz.prog v6 [.func (Fn.yield l) (Array.mk []) (Array.mk [])] (World.alloc (World.alloc w25 (Obj.deferred (some []))) (rc LoopState.ready none)) fun w26 => recAt w26 l rc LoopState.ready none ∧ Sif (n == 0) (Sif b1 (∃ (n16 : Int), World.cell? (World.putObj w26 l (rc LoopState.exhausted none)) (Addr.add a1 5) = some (.int .i64 n16) ∧ Sif (n16 == 1) (Sif (n13 == 0) (Sif (!b3) (∃ (n17 : Int), World.cell? (World.putObj w26 l (rc LoopState.exhausted none)) (Addr.add a2 4) = some (.int .i64 n17) ∧ Sif (n17 == 1) (∃ (p3 : Option Addr) (n18 c2 : Nat), World.cell? (World.putObj w26 l (rc LoopState.exhausted none)) (Addr.add a2 6) = some (.slice p3 n18 c2) ∧ Sif ((↑n18 : Int) == 1) (Sif (n14 == 1) (Sif (n15 == 0) (∃ (n19 : Int), World.cell? (World.putObj w26 l (rc LoopState.exhausted none)) a3 = some (.int .i64 n19) ∧ takeM (World.putObj w26 l (rc LoopState.exhausted none)) (Array.size w25.heap) fun w27 => K (.bool (n19 == 5)) w27) (takeM (World.putObj w26 l (rc LoopState.exhausted none)) (Array.size w25.heap) fun w27 => K (.bool false) w27)) (takeM (World.putObj w26 l (rc LoopState.exhausted none)) (Array.size w25.heap) fun w27 => K (.bool false) w27)) (takeM (World.putObj w26 l (rc LoopState.exhausted none)) (Array.size w25.heap) fun w27 => K (.bool false) w27)) (takeM (World.putObj w26 l (rc LoopState.exhausted none)) (Array.size w25.heap) fun w27 => K (.bool false) w27)) (takeM (World.putObj w26 l (rc LoopState.exhausted none)) (Array.size w25.heap) fun w27 => K (.bool false) w27)) (takeM (World.putObj w26 l (rc LoopState.exhausted none)) (Array.size w25.heap) fun w27 => K (.bool false) w27)) (takeM (World.putObj w26 l (rc LoopState.exhausted none)) (Array.size w25.heap) fun w27 => K (.bool false) w27)) (takeM (World.putObj w26 l (rc LoopState.exhausted none)) (Array.size w25.heap) fun w27 => K (.bool false) w27)) (takeM (World.putObj w26 l (rc LoopState.exhausted none)) (Array.size w25.heap) fun w27 => K (.bool false) w27) ∨ False ∨ False))
set_option maxRecDepth 100000 in
theorem eq_longshorelaw17_live (w : World) (K : Value → World → Prop) : wpF Tryz.prog none Tryz.f5 (.two .leaf (.two .leaf (.two (.two .leaf (.two (.two .leaf .leaf) .leaf)) (.two .leaf (.two .leaf (.two .leaf (.two .leaf (.two .leaf (.two .leaf (.two (.two .leaf (.two (.two .leaf .leaf) .leaf)) (.two (.two .leaf (.two (Ann.over [VSh.agg [Sh.int IntKind.i64, Sh.int IntKind.i64, Sh.int IntKind.i64, Sh.bool, Sh.int IntKind.i64, Sh.int IntKind.i64, Sh.slice]] false [] .leaf (.two .leaf .leaf)) .leaf)) (.two .leaf .leaf)))))))))))) [] w K = wp_longshorelaw17_live w K := by kernel_rfl
theorem ok_longshorelaw17_live {w : World} {K : Value → World → Prop} (hwp : wp_longshorelaw17_live w K) : callP Tryz.prog 5 [] w K :=
  calls_of Tryz.func5 ((eq_longshorelaw17_live w K).symm ▸ hwp)

/-- longshore.longshorelaw17.same -/
def wp_longshorelaw17_same (a_0 : Int) (a_1 : Int) (a_2 : Int) (a_3 : Bool) (a_4 : Int) (a_5 : Int) (a_6 : Option Addr) (a_6n : Nat) (a_6c : Nat) (b_0 : Int) (b_1 : Int) (b_2 : Int) (b_3 : Bool) (b_4 : Int) (b_5 : Int) (b_6 : Option Addr) (b_6n : Nat) (b_6c : Nat) (w : World) (K : Value → World → Prop) : Prop :=
  newB w [.int .i64 a_0, .int .i64 a_1, .int .i64 a_2, .bool a_3, .int .i64 a_4, .int .i64 a_5, .slice a_6 a_6n a_6c] 34 fun a w1 => newB w1 [.int .i64 b_0, .int .i64 b_1, .int .i64 b_2, .bool b_3, .int .i64 b_4, .int .i64 b_5, .slice b_6 b_6n b_6c] 34 fun a1 w2 => ∃ (p : Option Addr) (n c : Nat), w2.cell? (Addr.add a 6) = some (.slice p n c) ∧ ∃ (p1 : Option Addr) (n1 c1 : Nat), w2.cell? (Addr.add a1 6) = some (.slice p1 n1 c1) ∧ callP Tryz.prog 24 [.slice p n c, .slice p1 n1 c1] w2 fun v w3 => ∃ (b : Bool), v = .bool b ∧ Sif b (∃ (n2 : Int), w3.cell? (Addr.add a 0) = some (.int .i64 n2) ∧ ∃ (n3 : Int), w3.cell? (Addr.add a1 0) = some (.int .i64 n3) ∧ Sif (n2 == n3) (∃ (n4 : Int), w3.cell? (Addr.add a 1) = some (.int .i64 n4) ∧ ∃ (n5 : Int), w3.cell? (Addr.add a1 1) = some (.int .i64 n5) ∧ Sif (n4 == n5) (∃ (n6 : Int), w3.cell? (Addr.add a 2) = some (.int .i64 n6) ∧ ∃ (n7 : Int), w3.cell? (Addr.add a1 2) = some (.int .i64 n7) ∧ Sif (n6 == n7) (∃ (b1 : Bool), w3.cell? (Addr.add a 3) = some (.bool b1) ∧ ∃ (b2 : Bool), w3.cell? (Addr.add a1 3) = some (.bool b2) ∧ Sif (b1 == b2) (∃ (n8 : Int), w3.cell? (Addr.add a 4) = some (.int .i64 n8) ∧ ∃ (n9 : Int), w3.cell? (Addr.add a1 4) = some (.int .i64 n9) ∧ Sif (n8 == n9) (∃ (n10 : Int), w3.cell? (Addr.add a 5) = some (.int .i64 n10) ∧ ∃ (n11 : Int), w3.cell? (Addr.add a1 5) = some (.int .i64 n11) ∧ K (.bool (n10 == n11)) w3) (K (.bool false) w3)) (K (.bool false) w3)) (K (.bool false) w3)) (K (.bool false) w3)) (K (.bool false) w3)) (K (.bool false) w3)
set_option maxRecDepth 100000 in
theorem eq_longshorelaw17_same (a_0 : Int) (a_1 : Int) (a_2 : Int) (a_3 : Bool) (a_4 : Int) (a_5 : Int) (a_6 : Option Addr) (a_6n : Nat) (a_6c : Nat) (b_0 : Int) (b_1 : Int) (b_2 : Int) (b_3 : Bool) (b_4 : Int) (b_5 : Int) (b_6 : Option Addr) (b_6n : Nat) (b_6c : Nat) (w : World) (K : Value → World → Prop) : wpF Tryz.prog none Tryz.f11 (.two .leaf (.two .leaf (.two .leaf .leaf))) [Value.agg #[Value.int IntKind.i64 a_0, Value.int IntKind.i64 a_1, Value.int IntKind.i64 a_2, Value.bool a_3, Value.int IntKind.i64 a_4, Value.int IntKind.i64 a_5, Value.slice a_6 a_6n a_6c], Value.agg #[Value.int IntKind.i64 b_0, Value.int IntKind.i64 b_1, Value.int IntKind.i64 b_2, Value.bool b_3, Value.int IntKind.i64 b_4, Value.int IntKind.i64 b_5, Value.slice b_6 b_6n b_6c]] w K = wp_longshorelaw17_same a_0 a_1 a_2 a_3 a_4 a_5 a_6 a_6n a_6c b_0 b_1 b_2 b_3 b_4 b_5 b_6 b_6n b_6c w K := by kernel_rfl
theorem ok_longshorelaw17_same {a_0 : Int} {a_1 : Int} {a_2 : Int} {a_3 : Bool} {a_4 : Int} {a_5 : Int} {a_6 : Option Addr} {a_6n : Nat} {a_6c : Nat} {b_0 : Int} {b_1 : Int} {b_2 : Int} {b_3 : Bool} {b_4 : Int} {b_5 : Int} {b_6 : Option Addr} {b_6n : Nat} {b_6c : Nat} {w : World} {K : Value → World → Prop} (hwp : wp_longshorelaw17_same a_0 a_1 a_2 a_3 a_4 a_5 a_6 a_6n a_6c b_0 b_1 b_2 b_3 b_4 b_5 b_6 b_6n b_6c w K) : callP Tryz.prog 11 [.agg #[.int .i64 a_0, .int .i64 a_1, .int .i64 a_2, .bool a_3, .int .i64 a_4, .int .i64 a_5, .slice a_6 a_6n a_6c], .agg #[.int .i64 b_0, .int .i64 b_1, .int .i64 b_2, .bool b_3, .int .i64 b_4, .int .i64 b_5, .slice b_6 b_6n b_6c]] w K :=
  calls_of Tryz.func11 ((eq_longshorelaw17_same a_0 a_1 a_2 a_3 a_4 a_5 a_6 a_6n a_6c b_0 b_1 b_2 b_3 b_4 b_5 b_6 b_6n b_6c w K).symm ▸ hwp)

/-- longshore.longshorelaw17.sameBytes -/
def wp_longshorelaw17_sameBytes (a : Option Addr) (an : Nat) (ac : Nat) (b : Option Addr) (bn : Nat) (bc : Nat) (w : World) (K : Value → World → Prop) : Prop :=
  ∃ (s : ByteArray), Sem.run Tryz.prog (convert 32 9 (.slice a an ac)) w = Result.ok (.string s) w ∧ ∃ (s1 : ByteArray), Sem.run Tryz.prog (convert 32 9 (.slice b bn bc)) w = Result.ok (.string s1) w ∧ K (.bool (ByteArray.toList s == ByteArray.toList s1)) w
set_option maxRecDepth 100000 in
theorem eq_longshorelaw17_sameBytes (a : Option Addr) (an : Nat) (ac : Nat) (b : Option Addr) (bn : Nat) (bc : Nat) (w : World) (K : Value → World → Prop) : wpF Tryz.prog none Tryz.f24 (.two .leaf (.two .leaf .leaf)) [Value.slice a an ac, Value.slice b bn bc] w K = wp_longshorelaw17_sameBytes a an ac b bn bc w K := by kernel_rfl
theorem ok_longshorelaw17_sameBytes {a : Option Addr} {an : Nat} {ac : Nat} {b : Option Addr} {bn : Nat} {bc : Nat} {w : World} {K : Value → World → Prop} (hwp : wp_longshorelaw17_sameBytes a an ac b bn bc w K) : callP Tryz.prog 24 [.slice a an ac, .slice b bn bc] w K :=
  calls_of Tryz.func24 ((eq_longshorelaw17_sameBytes a an ac b bn bc w K).symm ▸ hwp)

/-- longshore.longshorelaw17.over -/
def wp_longshorelaw17_over (b : Option Addr) (bn : Nat) (bc : Nat) (w : World) (K : Value → World → Prop) : Prop :=
  ∃ (I : Nat → Int → World → Prop), (∃ (m : Nat), I m 0 w) ∧ ∀ (m : Nat) (n : Int) (w1 : World), I m n w1 → Sif (decide (n < (↑bn : Int))) (0 ≤ n ∧ n < (↑bn : Int) ∧ nn b fun a => st w1 (Addr.add (Addr.add a (Int.toNat n * 1)) 0) (.int .u8 91) fun w2 => nameI (IntKind.wrap .i64 (n + 1)) fun n1 => ∃ (m' : Nat), m' < m ∧ I m' n1 w2) (newB w1 [.int .u8 92, .int .u8 93, .int .u8 94, .int .u8 95] 5 fun a w2 => ∃ (p : Option Addr) (n1 : Nat), ∃ (c : Nat) (w3 : World), Sem.run Tryz.prog (Builtin.append_ (Array.mk [32, 32]) 32 (Array.mk [.slice b bn bc, .slice (some a) 4 4])) w2 = Result.ok (.slice p n1 c) w3 ∧ K (.tuple (Array.mk [])) w3)
set_option maxRecDepth 100000 in
theorem eq_longshorelaw17_over (b : Option Addr) (bn : Nat) (bc : Nat) (w : World) (K : Value → World → Prop) : wpF Tryz.prog none Tryz.f25 (.two (.two .leaf (.two (Ann.loop [((2 : Nat), VSh.cell (Sh.int IntKind.i64))] (.two (.two .leaf (.two .leaf .leaf)) (.two (.two .leaf .leaf) .leaf))) .leaf)) .leaf) [Value.slice b bn bc] w K = wp_longshorelaw17_over b bn bc w K := by kernel_rfl
theorem ok_longshorelaw17_over {b : Option Addr} {bn : Nat} {bc : Nat} {w : World} {K : Value → World → Prop} (hwp : wp_longshorelaw17_over b bn bc w K) : callP Tryz.prog 25 [.slice b bn bc] w K :=
  calls_of Tryz.func25 ((eq_longshorelaw17_over b bn bc w K).symm ▸ hwp)

/-- longshore.longshorelaw17.sameAll -/
def wp_longshorelaw17_sameAll (b : Option Addr) (a : Option Addr) (an : Nat) (ac : Nat) (want : Option Addr) (wantn : Nat) (wantc : Nat) (w : World) (K : Value → World → Prop) : Prop :=
  Sif ((↑an : Int) != (↑wantn : Int)) (K (.bool false) w)
  (∃ (I : Nat → Int → World → Prop),
  (∃ (m : Nat), I m 0 w) ∧
  ∀ (m : Nat) (n : Int) (w1 : World),
  I m n w1 →
  Sif (decide (n < (↑an : Int))) (0 ≤ n ∧ n < (↑an : Int) ∧ nn a fun a1 => 0 ≤ n ∧ n < (↑wantn : Int) ∧ nn want fun a2 => ∃ (n1 : Int), World.cell? (World.drew w1) (Addr.add (Addr.add a1 (Int.toNat n * 7)) 0) = some (.int .i64 n1) ∧ ∃ (n2 : Int), World.cell? (World.drew w1) (Addr.add (Addr.add a1 (Int.toNat n * 7)) 1) = some (.int .i64 n2) ∧ ∃ (n3 : Int), World.cell? (World.drew w1) (Addr.add (Addr.add a1 (Int.toNat n * 7)) 2) = some (.int .i64 n3) ∧ ∃ (b1 : Bool), World.cell? (World.drew w1) (Addr.add (Addr.add a1 (Int.toNat n * 7)) 3) = some (.bool b1) ∧ ∃ (n4 : Int), World.cell? (World.drew w1) (Addr.add (Addr.add a1 (Int.toNat n * 7)) 4) = some (.int .i64 n4) ∧ ∃ (n5 : Int), World.cell? (World.drew w1) (Addr.add (Addr.add a1 (Int.toNat n * 7)) 5) = some (.int .i64 n5) ∧ ∃ (p : Option Addr) (n6 c : Nat), World.cell? (World.drew w1) (Addr.add (Addr.add a1 (Int.toNat n * 7)) 6) = some (.slice p n6 c) ∧ ∃ (n7 : Int), World.cell? (World.drew w1) (Addr.add (Addr.add a2 (Int.toNat n * 7)) 0) = some (.int .i64 n7) ∧ ∃ (n8 : Int), World.cell? (World.drew w1) (Addr.add (Addr.add a2 (Int.toNat n * 7)) 1) = some (.int .i64 n8) ∧ ∃ (n9 : Int), World.cell? (World.drew w1) (Addr.add (Addr.add a2 (Int.toNat n * 7)) 2) = some (.int .i64 n9) ∧ ∃ (b2 : Bool), World.cell? (World.drew w1) (Addr.add (Addr.add a2 (Int.toNat n * 7)) 3) = some (.bool b2) ∧ ∃ (n10 : Int), World.cell? (World.drew w1) (Addr.add (Addr.add a2 (Int.toNat n * 7)) 4) = some (.int .i64 n10) ∧ ∃ (n11 : Int), World.cell? (World.drew w1) (Addr.add (Addr.add a2 (Int.toNat n * 7)) 5) = some (.int .i64 n11) ∧ ∃ (p1 : Option Addr) (n12 c1 : Nat), World.cell? (World.drew w1) (Addr.add (Addr.add a2 (Int.toNat n * 7)) 6) = some (.slice p1 n12 c1) ∧ callP Tryz.prog 11 [.agg (Array.mk [.int .i64 n1, .int .i64 n2, .int .i64 n3, .bool b1, .int .i64 n4, .int .i64 n5, .slice p n6 c]), .agg (Array.mk [.int .i64 n7, .int .i64 n8, .int .i64 n9, .bool b2, .int .i64 n10, .int .i64 n11, .slice p1 n12 c1])] (World.drew w1) fun v w2 => ∃ (b3 : Bool), v = .bool b3 ∧ Sif (!b3) (K (.bool false) w2) (nameI (IntKind.wrap .i64 (n + 1)) fun n13 => ∃ (m' : Nat), m' < m ∧ I m' n13 w2))
  (∃ (I1 : Nat → Int → World → Prop), (∃ (m1 : Nat), I1 m1 0 w1) ∧ ∀ (m1 : Nat) (n1 : Int) (w2 : World), I1 m1 n1 w2 → Sif (decide (n1 < (↑an : Int))) (0 ≤ n1 ∧ n1 < (↑an : Int) ∧ nn a fun a1 => ∃ (n2 : Int), w2.cell? (Addr.add (Addr.add a1 (Int.toNat n1 * 7)) 0) = some (.int .i64 n2) ∧ ∃ (n3 : Int), w2.cell? (Addr.add (Addr.add a1 (Int.toNat n1 * 7)) 1) = some (.int .i64 n3) ∧ ∃ (n4 : Int), w2.cell? (Addr.add (Addr.add a1 (Int.toNat n1 * 7)) 2) = some (.int .i64 n4) ∧ ∃ (b1 : Bool), w2.cell? (Addr.add (Addr.add a1 (Int.toNat n1 * 7)) 3) = some (.bool b1) ∧ ∃ (n5 : Int), w2.cell? (Addr.add (Addr.add a1 (Int.toNat n1 * 7)) 4) = some (.int .i64 n5) ∧ ∃ (n6 : Int), w2.cell? (Addr.add (Addr.add a1 (Int.toNat n1 * 7)) 5) = some (.int .i64 n6) ∧ ∃ (p : Option Addr) (n7 c : Nat), w2.cell? (Addr.add (Addr.add a1 (Int.toNat n1 * 7)) 6) = some (.slice p n7 c) ∧ callP Tryz.prog 33 [.pointer b, .agg (Array.mk [.int .i64 n2, .int .i64 n3, .int .i64 n4, .bool b1, .int .i64 n5, .int .i64 n6, .slice p n7 c])] w2 fun v w3 => v = .tuple (Array.mk []) ∧ nameI (IntKind.wrap .i64 (n1 + 1)) fun n8 => ∃ (m' : Nat), m' < m1 ∧ I1 m' n8 w3) (K (.bool true) w2)))
set_option maxRecDepth 100000 in
theorem eq_longshorelaw17_sameAll (b : Option Addr) (a : Option Addr) (an : Nat) (ac : Nat) (want : Option Addr) (wantn : Nat) (wantc : Nat) (w : World) (K : Value → World → Prop) : wpF Tryz.prog none Tryz.f13 (.two .leaf (.two (.two .leaf (.two (.two .leaf .leaf) .leaf)) (.two (.two .leaf (.two (Ann.loop [((7 : Nat), VSh.cell (Sh.int IntKind.i64))] (.two (.two .leaf (.two .leaf .leaf)) (.two (.two (.two (Ann.draw [(0 : Nat), (1 : Nat), (2 : Nat), (4 : Nat), (5 : Nat), (6 : Nat), (3 : Nat), (7 : Nat), (8 : Nat), (9 : Nat)]) (.two .leaf (.two (.two .leaf .leaf) .leaf))) .leaf) .leaf))) .leaf)) (.two (.two .leaf (.two (Ann.loop [((9 : Nat), VSh.cell (Sh.int IntKind.i64))] (.two (.two .leaf (.two .leaf .leaf)) (.two (.two .leaf .leaf) .leaf))) .leaf)) (.two .leaf .leaf))))) [Value.pointer b, Value.slice a an ac, Value.slice want wantn wantc] w K = wp_longshorelaw17_sameAll b a an ac want wantn wantc w K := by kernel_rfl
theorem ok_longshorelaw17_sameAll {b : Option Addr} {a : Option Addr} {an : Nat} {ac : Nat} {want : Option Addr} {wantn : Nat} {wantc : Nat} {w : World} {K : Value → World → Prop} (hwp : wp_longshorelaw17_sameAll b a an ac want wantn wantc w K) : callP Tryz.prog 13 [.pointer b, .slice a an ac, .slice want wantn wantc] w K :=
  calls_of Tryz.func13 ((eq_longshorelaw17_sameAll b a an ac want wantn wantc w K).symm ▸ hwp)

/-- longshore.longshorelaw17.sameNumbers -/
def wp_longshorelaw17_sameNumbers (a : Option Addr) (an : Nat) (ac : Nat) (b : Option Addr) (bn : Nat) (bc : Nat) (w : World) (K : Value → World → Prop) : Prop :=
  Sif ((↑an : Int) != (↑bn : Int)) (K (.bool false) w) (∃ (I : Nat → Int → World → Prop), (∃ (m : Nat), I m 0 w) ∧ ∀ (m : Nat) (n : Int) (w1 : World), I m n w1 → Sif (decide (n < (↑an : Int))) (0 ≤ n ∧ n < (↑an : Int) ∧ nn a fun a1 => 0 ≤ n ∧ n < (↑bn : Int) ∧ nn b fun a2 => ∃ (n1 : Int), World.cell? (World.drew w1) (Addr.add a1 (Int.toNat n * 1)) = some (.int .i64 n1) ∧ ∃ (n2 : Int), World.cell? (World.drew w1) (Addr.add a2 (Int.toNat n * 1)) = some (.int .i64 n2) ∧ Sif (n1 != n2) (K (.bool false) (World.drew w1)) (nameI (IntKind.wrap .i64 (n + 1)) fun n3 => ∃ (m' : Nat), m' < m ∧ I m' n3 (World.drew w1))) (K (.bool true) w1))
set_option maxRecDepth 100000 in
theorem eq_longshorelaw17_sameNumbers (a : Option Addr) (an : Nat) (ac : Nat) (b : Option Addr) (bn : Nat) (bc : Nat) (w : World) (K : Value → World → Prop) : wpF Tryz.prog none Tryz.f38 (.two .leaf (.two (.two .leaf (.two (.two .leaf .leaf) .leaf)) (.two (.two .leaf (.two (Ann.loop [((5 : Nat), VSh.cell (Sh.int IntKind.i64))] (.two (.two .leaf (.two .leaf .leaf)) (.two (.two (.two (Ann.draw [(0 : Nat), (1 : Nat), (2 : Nat), (4 : Nat), (5 : Nat), (6 : Nat), (3 : Nat), (7 : Nat), (8 : Nat)]) (.two (.two .leaf .leaf) .leaf)) .leaf) .leaf))) .leaf)) (.two .leaf .leaf)))) [Value.slice a an ac, Value.slice b bn bc] w K = wp_longshorelaw17_sameNumbers a an ac b bn bc w K := by kernel_rfl
theorem ok_longshorelaw17_sameNumbers {a : Option Addr} {an : Nat} {ac : Nat} {b : Option Addr} {bn : Nat} {bc : Nat} {w : World} {K : Value → World → Prop} (hwp : wp_longshorelaw17_sameNumbers a an ac b bn bc w K) : callP Tryz.prog 38 [.slice a an ac, .slice b bn bc] w K :=
  calls_of Tryz.func38 ((eq_longshorelaw17_sameNumbers a an ac b bn bc w K).symm ▸ hwp)

set_option maxRecDepth 100000 in
/-- longshore.longshorelaw17.search -/
def wp_longshorelaw17_search (k : Option Addr) (q : Option Addr) (x : Option Addr) (o_0 : Int) (o_1 : Int) (o_2 : Int) (o_3 : Int) (o_4 : Option Addr) (o_4n : Nat) (o_4c : Nat) (o_5 : Bool) (o_6 : Int) (o_7 : Int) (o_8 : Int) (o_9 : Bool) (o_10 : Int) (o_11 : Int) (o_12 : Option Addr) (o_12n : Nat) (o_12c : Nat) (w : World) (K : Value → World → Prop) : Prop :=
  newB w [.int .i64 o_0, .int .i64 o_1, .int .i64 o_2, .int .i64 o_3, .slice o_4 o_4n o_4c, .bool o_5, .int .i64 o_6, .int .i64 o_7, .int .i64 o_8, .bool o_9, .int .i64 o_10, .int .i64 o_11, .slice o_12 o_12n o_12c] 46 fun a w1 =>
  ∃ (n : Int),
  w1.cell? (Addr.add a 3) = some (.int .i64 n) ∧
  ∃ (p : Option Addr) (n1 c : Nat),
  w1.cell? (Addr.add a 4) = some (.slice p n1 c) ∧
  newB w1 [.pointer k, .bool (n == 1), .slice p n1 c, .slice none 0 0, .pointer x, .bool false] 99 fun a1 w2 =>
  ∃ (J : Bool → World → Prop),
  (∀ (b : Bool) (w3 : World),
  J b w3 →
  newB w3 [.int .i64 0, .int .i64 0, .int .i64 0, .bool false, .int .i64 0, .int .i64 0, .slice none 0 0] 34 fun a2 w4 =>
  st w4 (Addr.add a2 0) (.int .i64 0) fun w5 =>
  st w5 (Addr.add a2 1) (.int .i64 0) fun w6 =>
  st w6 (Addr.add a2 2) (.int .i64 0) fun w7 =>
  st w7 (Addr.add a2 3) (.bool false) fun w8 =>
  st w8 (Addr.add a2 4) (.int .i64 0) fun w9 =>
  st w9 (Addr.add a2 5) (.int .i64 0) fun w10 =>
  st w10 (Addr.add a2 6) (.slice none 0 0) fun w11 =>
  newB w11 [.int .i64 0, .int .i64 0, .int .i64 0, .bool false, .int .i64 0, .int .i64 0, .slice none 0 0] 34 fun a3 w12 =>
  st w12 (Addr.add a3 0) (.int .i64 0) fun w13 =>
  st w13 (Addr.add a3 1) (.int .i64 0) fun w14 =>
  st w14 (Addr.add a3 2) (.int .i64 0) fun w15 =>
  st w15 (Addr.add a3 3) (.bool false) fun w16 =>
  st w16 (Addr.add a3 4) (.int .i64 0) fun w17 =>
  st w17 (Addr.add a3 5) (.int .i64 0) fun w18 =>
  st w18 (Addr.add a3 6) (.slice none 0 0) fun w19 =>
  ∃ (J1 : Option Addr → Nat → Nat → Bool → Bool → World → Prop),
  (∀ (p1 : Option Addr) (n2 c1 : Nat) (b1 b2 : Bool) (w20 : World),
  J1 p1 n2 c1 b1 b2 w20 →
  ∃ (n3 : Int),
  w20.cell? (Addr.add a2 0) = some (.int .i64 n3) ∧
  ∃ (n4 : Int),
  w20.cell? (Addr.add a2 1) = some (.int .i64 n4) ∧
  ∃ (n5 : Int),
  w20.cell? (Addr.add a2 2) = some (.int .i64 n5) ∧
  ∃ (b3 : Bool),
  w20.cell? (Addr.add a2 3) = some (.bool b3) ∧
  ∃ (n6 : Int),
  w20.cell? (Addr.add a2 4) = some (.int .i64 n6) ∧
  ∃ (n7 : Int),
  w20.cell? (Addr.add a2 5) = some (.int .i64 n7) ∧
  ∃ (p2 : Option Addr) (n8 c2 : Nat),
  w20.cell? (Addr.add a2 6) = some (.slice p2 n8 c2) ∧
  ∃ (n9 : Int),
  w20.cell? (Addr.add a3 0) = some (.int .i64 n9) ∧
  ∃ (n10 : Int), w20.cell? (Addr.add a3 1) = some (.int .i64 n10) ∧ ∃ (n11 : Int), w20.cell? (Addr.add a3 2) = some (.int .i64 n11) ∧ ∃ (b4 : Bool), w20.cell? (Addr.add a3 3) = some (.bool b4) ∧ ∃ (n12 : Int), w20.cell? (Addr.add a3 4) = some (.int .i64 n12) ∧ ∃ (n13 : Int), w20.cell? (Addr.add a3 5) = some (.int .i64 n13) ∧ ∃ (p3 : Option Addr) (n14 c3 : Nat), w20.cell? (Addr.add a3 6) = some (.slice p3 n14 c3) ∧ callP Tryz.prog 11 [.agg (Array.mk [.int .i64 n3, .int .i64 n4, .int .i64 n5, .bool b3, .int .i64 n6, .int .i64 n7, .slice p2 n8 c2]), .agg (Array.mk [.int .i64 n9, .int .i64 n10, .int .i64 n11, .bool b4, .int .i64 n12, .int .i64 n13, .slice p3 n14 c3])] w20 fun v w21 => ∃ (b5 : Bool), v = .bool b5 ∧ ∃ (n15 : Int), w21.cell? (Addr.add a2 0) = some (.int .i64 n15) ∧ ∃ (n16 : Int), w21.cell? (Addr.add a2 1) = some (.int .i64 n16) ∧ ∃ (n17 : Int), w21.cell? (Addr.add a2 2) = some (.int .i64 n17) ∧ ∃ (b6 : Bool), w21.cell? (Addr.add a2 3) = some (.bool b6) ∧ ∃ (n18 : Int), w21.cell? (Addr.add a2 4) = some (.int .i64 n18) ∧ ∃ (n19 : Int), w21.cell? (Addr.add a2 5) = some (.int .i64 n19) ∧ ∃ (p4 : Option Addr) (n20 c4 : Nat), w21.cell? (Addr.add a2 6) = some (.slice p4 n20 c4) ∧ callP Tryz.prog 33 [.pointer k, .agg (Array.mk [.int .i64 n15, .int .i64 n16, .int .i64 n17, .bool b6, .int .i64 n18, .int .i64 n19, .slice p4 n20 c4])] w21 fun v1 w22 => v1 = .tuple (Array.mk []) ∧ ∃ (p5 : Option Addr) (n21 c5 : Nat), w22.cell? (Addr.add a1 3) = some (.slice p5 n21 c5) ∧ callP Tryz.prog 38 [.slice p5 n21 c5, .slice p1 n2 c1] w22 fun v2 w23 => ∃ (b7 : Bool), v2 = .bool b7 ∧ Sif b5 (Sif (b1 == b2) (∃ (b8 : Bool), w23.cell? (Addr.add a1 5) = some (.bool b8) ∧ Sif (!b8) (Sif (!b7) (∃ (n22 : Int), w23.cell? (Addr.add a 3) = some (.int .i64 n22) ∧ Sif (n22 == 0) (∃ (p6 : Option Addr) (n23 c6 : Nat), w23.cell? (Addr.add a1 3) = some (.slice p6 n23 c6) ∧ K (.bool ((↑n23 : Int) == 0)) w23) (K (.bool false) w23)) (K (.bool true) w23)) (K (.bool false) w23)) (K (.bool false) w23)) (K (.bool false) w23)) ∧
  ∃ (n2 : Int),
  w19.cell? (Addr.add a 0) = some (.int .i64 n2) ∧
  Sif (n2 == 2)
  (∃ (J2 : Option Addr → Nat → Nat → World → Prop),
  (∀ (p1 : Option Addr) (n3 c1 : Nat) (w20 : World),
  J2 p1 n3 c1 w20 →
  ∃ (J3 : Bool → World → Prop),
  (∀ (b1 : Bool) (w21 : World), J3 b1 w21 → ∃ (n4 : Int), w21.cell? (Addr.add a 1) = some (.int .i64 n4) ∧ ∃ (p2 : Option Addr) (n5 c2 : Nat), w21.cell? (Addr.add a 4) = some (.slice p2 n5 c2) ∧ callP Tryz.prog 61 [.pointer x, .int .i64 n4, .bool b, .slice p2 n5 c2] w21 fun v w22 => ∃ (n6 n7 : Int), ∃ (n8 : Int) (b2 : Bool), ∃ (n9 n10 : Int), ∃ (p3 : Option Addr) (n11 : Nat), ∃ (c3 : Nat) (b3 : Bool), v = .tuple (Array.mk [.agg (Array.mk [.int .i64 n6, .int .i64 n7, .int .i64 n8, .bool b2, .int .i64 n9, .int .i64 n10, .slice p3 n11 c3]), .bool b3]) ∧ st w22 (Addr.add a3 0) (.int .i64 n6) fun w23 => st w23 (Addr.add a3 1) (.int .i64 n7) fun w24 => st w24 (Addr.add a3 2) (.int .i64 n8) fun w25 => st w25 (Addr.add a3 3) (.bool b2) fun w26 => st w26 (Addr.add a3 4) (.int .i64 n9) fun w27 => st w27 (Addr.add a3 5) (.int .i64 n10) fun w28 => st w28 (Addr.add a3 6) (.slice p3 n11 c3) fun w29 => J1 p1 n3 c1 b1 b3 w29) ∧
  ∃ (n4 : Int), w20.cell? (Addr.add a 3) = some (.int .i64 n4) ∧ Sif (n4 == 0) (∃ (n5 : Int), w20.cell? (Addr.add a 1) = some (.int .i64 n5) ∧ callP Tryz.prog 18 [.pointer q, .int .i64 n5, .nilFunc] w20 fun v w21 => ∃ (n6 n7 : Int), ∃ (n8 : Int) (b1 : Bool), ∃ (n9 n10 : Int), ∃ (p2 : Option Addr) (n11 : Nat), ∃ (c2 : Nat) (b2 : Bool), v = .tuple (Array.mk [.agg (Array.mk [.int .i64 n6, .int .i64 n7, .int .i64 n8, .bool b1, .int .i64 n9, .int .i64 n10, .slice p2 n11 c2]), .bool b2]) ∧ st w21 (Addr.add a2 0) (.int .i64 n6) fun w22 => st w22 (Addr.add a2 1) (.int .i64 n7) fun w23 => st w23 (Addr.add a2 2) (.int .i64 n8) fun w24 => st w24 (Addr.add a2 3) (.bool b1) fun w25 => st w25 (Addr.add a2 4) (.int .i64 n9) fun w26 => st w26 (Addr.add a2 5) (.int .i64 n10) fun w27 => st w27 (Addr.add a2 6) (.slice p2 n11 c2) fun w28 => J3 b2 w28) (∃ (n5 : Int), w20.cell? (Addr.add a 1) = some (.int .i64 n5) ∧ callP Tryz.prog 18 [.pointer q, .int .i64 n5, .func (Fn.func 60) (Array.mk [.pointer (some a1)]) (Array.mk [])] w20 fun v w21 => ∃ (n6 n7 : Int), ∃ (n8 : Int) (b1 : Bool), ∃ (n9 n10 : Int), ∃ (p2 : Option Addr) (n11 : Nat), ∃ (c2 : Nat) (b2 : Bool), v = .tuple (Array.mk [.agg (Array.mk [.int .i64 n6, .int .i64 n7, .int .i64 n8, .bool b1, .int .i64 n9, .int .i64 n10, .slice p2 n11 c2]), .bool b2]) ∧ st w21 (Addr.add a2 0) (.int .i64 n6) fun w22 => st w22 (Addr.add a2 1) (.int .i64 n7) fun w23 => st w23 (Addr.add a2 2) (.int .i64 n8) fun w24 => st w24 (Addr.add a2 3) (.bool b1) fun w25 => st w25 (Addr.add a2 4) (.int .i64 n9) fun w26 => st w26 (Addr.add a2 5) (.int .i64 n10) fun w27 => st w27 (Addr.add a2 6) (.slice p2 n11 c2) fun w28 => J3 b2 w28)) ∧
  ∃ (n3 : Int), w19.cell? (Addr.add a 1) = some (.int .i64 n3) ∧ Sif (decide (n3 ≥ 1)) (callP Tryz.prog 30 [.pointer x] w19 fun v w20 => ∃ (p1 : Option Addr) (n4 c1 : Nat), v = .slice p1 n4 c1 ∧ ∃ (p2 : Option Addr) (n5 c2 : Nat), w20.cell? (Addr.add a 4) = some (.slice p2 n5 c2) ∧ callP Tryz.prog 59 [.slice p1 n4 c1, .bool b, .slice p2 n5 c2] w20 fun v1 w21 => ∃ (p3 : Option Addr) (n6 : Nat), ∃ (c3 : Nat) (n7 : Int), v1 = .tuple (Array.mk [.slice p3 n6 c3, .int .i64 n7]) ∧ J2 p3 n6 c3 w21) (J2 none 0 0 w19))
  (∃ (n3 : Int),
  w19.cell? (Addr.add a 1) = some (.int .i64 n3) ∧
  callP Tryz.prog 62 [.pointer x, .int .i64 n3] w19 fun v w20 =>
  ∃ (p1 : Option Addr) (n4 c1 : Nat),
  v = .slice p1 n4 c1 ∧
  ∃ (p2 : Option Addr) (n5 c2 : Nat),
  w20.cell? (Addr.add a 4) = some (.slice p2 n5 c2) ∧
  callP Tryz.prog 59 [.slice p1 n4 c1, .bool b, .slice p2 n5 c2] w20 fun v1 w21 =>
  ∃ (p3 : Option Addr) (n6 : Nat),
  ∃ (c3 : Nat) (n7 : Int),
  v1 = .tuple (Array.mk [.slice p3 n6 c3, .int .i64 n7]) ∧
  ∃ (J2 : Bool → World → Prop),
  (∀ (b1 : Bool) (w22 : World), J2 b1 w22 → ∃ (n8 : Int), w22.cell? (Addr.add a 1) = some (.int .i64 n8) ∧ ∃ (p4 : Option Addr) (n9 c4 : Nat), w22.cell? (Addr.add a 4) = some (.slice p4 n9 c4) ∧ callP Tryz.prog 64 [.pointer x, .int .i64 n8, .bool b, .slice p4 n9 c4] w22 fun v2 w23 => ∃ (n10 n11 : Int), ∃ (n12 : Int) (b2 : Bool), ∃ (n13 n14 : Int), ∃ (p5 : Option Addr) (n15 : Nat), ∃ (c5 : Nat) (b3 : Bool), v2 = .tuple (Array.mk [.agg (Array.mk [.int .i64 n10, .int .i64 n11, .int .i64 n12, .bool b2, .int .i64 n13, .int .i64 n14, .slice p5 n15 c5]), .bool b3]) ∧ st w23 (Addr.add a3 0) (.int .i64 n10) fun w24 => st w24 (Addr.add a3 1) (.int .i64 n11) fun w25 => st w25 (Addr.add a3 2) (.int .i64 n12) fun w26 => st w26 (Addr.add a3 3) (.bool b2) fun w27 => st w27 (Addr.add a3 4) (.int .i64 n13) fun w28 => st w28 (Addr.add a3 5) (.int .i64 n14) fun w29 => st w29 (Addr.add a3 6) (.slice p5 n15 c5) fun w30 => J1 p3 n6 c3 b1 b3 w30) ∧
  ∃ (n8 : Int), w21.cell? (Addr.add a 3) = some (.int .i64 n8) ∧ Sif (n8 == 0) (∃ (n9 : Int), w21.cell? (Addr.add a 1) = some (.int .i64 n9) ∧ callP Tryz.prog 63 [.pointer q, .int .i64 n9, .nilFunc] w21 fun v2 w22 => ∃ (n10 n11 : Int), ∃ (n12 : Int) (b1 : Bool), ∃ (n13 n14 : Int), ∃ (p4 : Option Addr) (n15 : Nat), ∃ (c4 : Nat) (b2 : Bool), v2 = .tuple (Array.mk [.agg (Array.mk [.int .i64 n10, .int .i64 n11, .int .i64 n12, .bool b1, .int .i64 n13, .int .i64 n14, .slice p4 n15 c4]), .bool b2]) ∧ st w22 (Addr.add a2 0) (.int .i64 n10) fun w23 => st w23 (Addr.add a2 1) (.int .i64 n11) fun w24 => st w24 (Addr.add a2 2) (.int .i64 n12) fun w25 => st w25 (Addr.add a2 3) (.bool b1) fun w26 => st w26 (Addr.add a2 4) (.int .i64 n13) fun w27 => st w27 (Addr.add a2 5) (.int .i64 n14) fun w28 => st w28 (Addr.add a2 6) (.slice p4 n15 c4) fun w29 => J2 b2 w29) (∃ (n9 : Int), w21.cell? (Addr.add a 1) = some (.int .i64 n9) ∧ callP Tryz.prog 63 [.pointer q, .int .i64 n9, .func (Fn.func 60) (Array.mk [.pointer (some a1)]) (Array.mk [])] w21 fun v2 w22 => ∃ (n10 n11 : Int), ∃ (n12 : Int) (b1 : Bool), ∃ (n13 n14 : Int), ∃ (p4 : Option Addr) (n15 : Nat), ∃ (c4 : Nat) (b2 : Bool), v2 = .tuple (Array.mk [.agg (Array.mk [.int .i64 n10, .int .i64 n11, .int .i64 n12, .bool b1, .int .i64 n13, .int .i64 n14, .slice p4 n15 c4]), .bool b2]) ∧ st w22 (Addr.add a2 0) (.int .i64 n10) fun w23 => st w23 (Addr.add a2 1) (.int .i64 n11) fun w24 => st w24 (Addr.add a2 2) (.int .i64 n12) fun w25 => st w25 (Addr.add a2 3) (.bool b1) fun w26 => st w26 (Addr.add a2 4) (.int .i64 n13) fun w27 => st w27 (Addr.add a2 5) (.int .i64 n14) fun w28 => st w28 (Addr.add a2 6) (.slice p4 n15 c4) fun w29 => J2 b2 w29))) ∧
  ∃ (n2 : Int), w2.cell? (Addr.add a 3) = some (.int .i64 n2) ∧ Sif (!n2 == 0) (∃ (n3 : Int), w2.cell? (Addr.add a 3) = some (.int .i64 n3) ∧ J (n3 == 1) w2) (J true w2)
set_option maxRecDepth 100000 in
theorem eq_longshorelaw17_search (k : Option Addr) (q : Option Addr) (x : Option Addr) (o_0 : Int) (o_1 : Int) (o_2 : Int) (o_3 : Int) (o_4 : Option Addr) (o_4n : Nat) (o_4c : Nat) (o_5 : Bool) (o_6 : Int) (o_7 : Int) (o_8 : Int) (o_9 : Bool) (o_10 : Int) (o_11 : Int) (o_12 : Option Addr) (o_12n : Nat) (o_12c : Nat) (w : World) (K : Value → World → Prop) : wpF Tryz.prog none Tryz.f31 (.two .leaf (.two .leaf (.two (Ann.meet [((10 : Nat), VSh.cell Sh.bool)] .leaf) (.two .leaf (.two .leaf (.two .leaf (.two .leaf (.two .leaf (.two (Ann.meet [((11 : Nat), VSh.cell Sh.slice), ((13 : Nat), VSh.cell Sh.bool), ((15 : Nat), VSh.cell Sh.bool)] (.two .leaf (.two (.two (Ann.meet [((11 : Nat), VSh.cell Sh.slice)] (.two .leaf (.two (.two .leaf (.two .leaf .leaf)) .leaf))) (.two (Ann.meet [((13 : Nat), VSh.cell Sh.bool)] (.two .leaf (.two .leaf .leaf))) .leaf)) (.two .leaf (.two .leaf (.two .leaf (.two (Ann.meet [((13 : Nat), VSh.cell Sh.bool)] (.two .leaf (.two .leaf .leaf))) .leaf))))))) (.two .leaf (.two .leaf (.two .leaf (.two .leaf .leaf))))))))))))) [Value.pointer k, Value.pointer q, Value.pointer x, Value.agg #[Value.int IntKind.i64 o_0, Value.int IntKind.i64 o_1, Value.int IntKind.i64 o_2, Value.int IntKind.i64 o_3, Value.slice o_4 o_4n o_4c, Value.bool o_5, Value.int IntKind.i64 o_6, Value.int IntKind.i64 o_7, Value.int IntKind.i64 o_8, Value.bool o_9, Value.int IntKind.i64 o_10, Value.int IntKind.i64 o_11, Value.slice o_12 o_12n o_12c]] w K = wp_longshorelaw17_search k q x o_0 o_1 o_2 o_3 o_4 o_4n o_4c o_5 o_6 o_7 o_8 o_9 o_10 o_11 o_12 o_12n o_12c w K := by kernel_rfl
theorem ok_longshorelaw17_search {k : Option Addr} {q : Option Addr} {x : Option Addr} {o_0 : Int} {o_1 : Int} {o_2 : Int} {o_3 : Int} {o_4 : Option Addr} {o_4n : Nat} {o_4c : Nat} {o_5 : Bool} {o_6 : Int} {o_7 : Int} {o_8 : Int} {o_9 : Bool} {o_10 : Int} {o_11 : Int} {o_12 : Option Addr} {o_12n : Nat} {o_12c : Nat} {w : World} {K : Value → World → Prop} (hwp : wp_longshorelaw17_search k q x o_0 o_1 o_2 o_3 o_4 o_4n o_4c o_5 o_6 o_7 o_8 o_9 o_10 o_11 o_12 o_12n o_12c w K) : callP Tryz.prog 31 [.pointer k, .pointer q, .pointer x, .agg #[.int .i64 o_0, .int .i64 o_1, .int .i64 o_2, .int .i64 o_3, .slice o_4 o_4n o_4c, .bool o_5, .int .i64 o_6, .int .i64 o_7, .int .i64 o_8, .bool o_9, .int .i64 o_10, .int .i64 o_11, .slice o_12 o_12n o_12c]] w K :=
  calls_of Tryz.func31 ((eq_longshorelaw17_search k q x o_0 o_1 o_2 o_3 o_4 o_4n o_4c o_5 o_6 o_7 o_8 o_9 o_10 o_11 o_12 o_12n o_12c w K).symm ▸ hwp)

/-- longshore.longshorelaw17.put -/
def wp_longshorelaw17_put (q : Option Addr) (x : Option Addr) (e_0 : Int) (e_1 : Int) (e_2 : Int) (e_3 : Bool) (e_4 : Int) (e_5 : Int) (e_6 : Option Addr) (e_6n : Nat) (e_6c : Nat) (w : World) (K : Value → World → Prop) : Prop :=
  newB w [.int .i64 e_0, .int .i64 e_1, .int .i64 e_2, .bool e_3, .int .i64 e_4, .int .i64 e_5, .slice e_6 e_6n e_6c] 34 fun a w1 =>
  ∃ (p : Option Addr) (n c : Nat),
  w1.cell? (Addr.add a 6) = some (.slice p n c) ∧
  ∃ (p1 : Option Addr) (n1 : Nat),
  ∃ (c1 : Nat) (w2 : World),
  Sem.run Tryz.prog (Instr.makeSlice 32 (.int .i64 (IntKind.wrap .i64 ((↑n : Int) + 2))) (.int .i64 (IntKind.wrap .i64 ((↑n : Int) + 2)))) w1 = Result.ok (.slice p1 n1 c1) w2 ∧
  ∃ (p2 : Option Addr) (n2 c2 : Nat),
  w2.cell? (Addr.add a 6) = some (.slice p2 n2 c2) ∧
  ∃ (n3 : Int) (w3 : World),
  Sem.run Tryz.prog (Builtin.copy_ (Array.mk [32, 32]) 3 (Array.mk [.slice p1 n1 c1, .slice p2 n2 c2])) w2 = Result.ok (.int .i64 n3) w3 ∧
  0 ≤ (↑n : Int) ∧
  (↑n : Int) < (↑n1 : Int) ∧
  nn p1 fun a1 =>
  st w3 (Addr.add (Addr.add a1 (Int.toNat (↑n : Int) * 1)) 0) (.int .u8 71) fun w4 =>
  0 ≤ IntKind.wrap .i64 ((↑n : Int) + 1) ∧
  IntKind.wrap .i64 ((↑n : Int) + 1) < (↑n1 : Int) ∧
  nn p1 fun a2 =>
  st w4 (Addr.add (Addr.add a2 (Int.toNat (IntKind.wrap .i64 ((↑n : Int) + 1)) * 1)) 0) (.int .u8 72) fun w5 =>
  ∃ (n4 : Int),
  w5.cell? (Addr.add a 0) = some (.int .i64 n4) ∧
  ∃ (n5 : Int),
  w5.cell? (Addr.add a 1) = some (.int .i64 n5) ∧
  ∃ (n6 : Int),
  w5.cell? (Addr.add a 2) = some (.int .i64 n6) ∧
  ∃ (b : Bool),
  w5.cell? (Addr.add a 3) = some (.bool b) ∧
  ∃ (n7 : Int),
  w5.cell? (Addr.add a 4) = some (.int .i64 n7) ∧
  ∃ (n8 : Int),
  w5.cell? (Addr.add a 5) = some (.int .i64 n8) ∧
  ∃ (p3 : Option Addr) (n9 c3 : Nat),
  w5.cell? (Addr.add a 6) = some (.slice p3 n9 c3) ∧
  newB w5 [.int .i64 0, .int .i64 0, .int .i64 0, .bool false, .int .i64 0, .int .i64 0, .slice none 0 0] 34 fun a3 w6 =>
  st w6 (Addr.add a3 0) (.int .i64 n4) fun w7 =>
  st w7 (Addr.add a3 1) (.int .i64 n5) fun w8 =>
  st w8 (Addr.add a3 2) (.int .i64 n6) fun w9 =>
  st w9 (Addr.add a3 3) (.bool b) fun w10 =>
  st w10 (Addr.add a3 4) (.int .i64 n7) fun w11 =>
  st w11 (Addr.add a3 5) (.int .i64 n8) fun w12 =>
  st w12 (Addr.add a3 6) (.slice p3 n9 c3) fun w13 =>
  0 ≤ (↑n : Int) ∧
  (↑n : Int) ≤ (↑c1 : Int) ∧
  st w13 (Addr.add (Addr.add a3 6) 0) (.slice p1 (Int.toNat (↑n : Int)) c1) fun w14 =>
  ∃ (n10 : Int),
  w14.cell? (Addr.add a3 0) = some (.int .i64 n10) ∧
  ∃ (n11 : Int),
  w14.cell? (Addr.add a3 1) = some (.int .i64 n11) ∧
  ∃ (n12 : Int),
  w14.cell? (Addr.add a3 2) = some (.int .i64 n12) ∧
  ∃ (b1 : Bool),
  w14.cell? (Addr.add a3 3) = some (.bool b1) ∧
  ∃ (n13 : Int), w14.cell? (Addr.add a3 4) = some (.int .i64 n13) ∧ ∃ (n14 : Int), w14.cell? (Addr.add a3 5) = some (.int .i64 n14) ∧ ∃ (p4 : Option Addr) (n15 c4 : Nat), w14.cell? (Addr.add a3 6) = some (.slice p4 n15 c4) ∧ callP Tryz.prog 17 [.pointer q, .agg (Array.mk [.int .i64 n10, .int .i64 n11, .int .i64 n12, .bool b1, .int .i64 n13, .int .i64 n14, .slice p4 n15 c4])] w14 fun v w15 => ∃ (n16 : Int), v = .int .i64 n16 ∧ ∃ (n17 : Int), w15.cell? (Addr.add a 0) = some (.int .i64 n17) ∧ ∃ (n18 : Int), w15.cell? (Addr.add a 1) = some (.int .i64 n18) ∧ ∃ (n19 : Int), w15.cell? (Addr.add a 2) = some (.int .i64 n19) ∧ ∃ (b2 : Bool), w15.cell? (Addr.add a 3) = some (.bool b2) ∧ ∃ (n20 : Int), w15.cell? (Addr.add a 4) = some (.int .i64 n20) ∧ ∃ (n21 : Int), w15.cell? (Addr.add a 5) = some (.int .i64 n21) ∧ ∃ (p5 : Option Addr) (n22 c5 : Nat), w15.cell? (Addr.add a 6) = some (.slice p5 n22 c5) ∧ callP Tryz.prog 23 [.pointer x, .agg (Array.mk [.int .i64 n17, .int .i64 n18, .int .i64 n19, .bool b2, .int .i64 n20, .int .i64 n21, .slice p5 n22 c5])] w15 fun v1 w16 => ∃ (n23 : Int), v1 = .int .i64 n23 ∧ ∃ (J : Bool → World → Prop), (∀ (b3 : Bool) (w17 : World), J b3 w17 → callP Tryz.prog 25 [.slice p1 n1 c1] w17 fun v2 w18 => v2 = .tuple (Array.mk []) ∧ Sif (n16 == n23) (K (.bool b3) w18) (K (.bool false) w18)) ∧ 0 ≤ (↑n : Int) ∧ (↑n : Int) ≤ (↑c1 : Int) ∧ ∃ (p6 : Option Addr) (n24 c6 : Nat), World.cell? (World.drew w16) (Addr.add a 6) = some (.slice p6 n24 c6) ∧ callP Tryz.prog 24 [.slice p1 (Int.toNat (↑n : Int)) c1, .slice p6 n24 c6] (World.drew w16) fun v2 w17 => ∃ (b3 : Bool), v2 = .bool b3 ∧ Sif b3 (0 ≤ (↑n : Int) ∧ (↑n : Int) < (↑n1 : Int) ∧ nn p1 fun a4 => ∃ (n25 : Int), w17.cell? (Addr.add a4 (Int.toNat (↑n : Int) * 1)) = some (.int .u8 n25) ∧ Sif (n25 == 71) (0 ≤ IntKind.wrap .i64 ((↑n : Int) + 1) ∧ IntKind.wrap .i64 ((↑n : Int) + 1) < (↑n1 : Int) ∧ nn p1 fun a5 => ∃ (n26 : Int), w17.cell? (Addr.add a5 (Int.toNat (IntKind.wrap .i64 ((↑n : Int) + 1)) * 1)) = some (.int .u8 n26) ∧ J (n26 == 72) w17) (J false w17)) (J false w17)
set_option maxRecDepth 100000 in
theorem eq_longshorelaw17_put (q : Option Addr) (x : Option Addr) (e_0 : Int) (e_1 : Int) (e_2 : Int) (e_3 : Bool) (e_4 : Int) (e_5 : Int) (e_6 : Option Addr) (e_6n : Nat) (e_6c : Nat) (w : World) (K : Value → World → Prop) : wpF Tryz.prog none Tryz.f8 (.two .leaf (.two .leaf (.two .leaf (.two .leaf (.two .leaf (.two .leaf (.two .leaf (.two .leaf (.two .leaf (.two .leaf (.two (Ann.meet [((12 : Nat), VSh.cell Sh.bool)] (Ann.draw [(0 : Nat), (1 : Nat), (2 : Nat), (3 : Nat), (4 : Nat), (5 : Nat), (6 : Nat), (7 : Nat), (8 : Nat), (9 : Nat), (10 : Nat), (11 : Nat), (12 : Nat), (13 : Nat), (14 : Nat), (15 : Nat), (16 : Nat), (17 : Nat), (18 : Nat), (19 : Nat), (20 : Nat), (21 : Nat)])) (.two .leaf (.two .leaf .leaf))))))))))))) [Value.pointer q, Value.pointer x, Value.agg #[Value.int IntKind.i64 e_0, Value.int IntKind.i64 e_1, Value.int IntKind.i64 e_2, Value.bool e_3, Value.int IntKind.i64 e_4, Value.int IntKind.i64 e_5, Value.slice e_6 e_6n e_6c]] w K = wp_longshorelaw17_put q x e_0 e_1 e_2 e_3 e_4 e_5 e_6 e_6n e_6c w K := by kernel_rfl
theorem ok_longshorelaw17_put {q : Option Addr} {x : Option Addr} {e_0 : Int} {e_1 : Int} {e_2 : Int} {e_3 : Bool} {e_4 : Int} {e_5 : Int} {e_6 : Option Addr} {e_6n : Nat} {e_6c : Nat} {w : World} {K : Value → World → Prop} (hwp : wp_longshorelaw17_put q x e_0 e_1 e_2 e_3 e_4 e_5 e_6 e_6n e_6c w K) : callP Tryz.prog 8 [.pointer q, .pointer x, .agg #[.int .i64 e_0, .int .i64 e_1, .int .i64 e_2, .bool e_3, .int .i64 e_4, .int .i64 e_5, .slice e_6 e_6n e_6c]] w K :=
  calls_of Tryz.func8 ((eq_longshorelaw17_put q x e_0 e_1 e_2 e_3 e_4 e_5 e_6 e_6n e_6c w K).symm ▸ hwp)

set_option maxRecDepth 100000 in
/-- longshore.longshorelaw17.step -/
def wp_longshorelaw17_step (k : Option Addr) (q : Option Addr) (x : Option Addr) (o_0 : Int) (o_1 : Int) (o_2 : Int) (o_3 : Int) (o_4 : Option Addr) (o_4n : Nat) (o_4c : Nat) (o_5 : Bool) (o_6 : Int) (o_7 : Int) (o_8 : Int) (o_9 : Bool) (o_10 : Int) (o_11 : Int) (o_12 : Option Addr) (o_12n : Nat) (o_12c : Nat) (w : World) (K : Value → World → Prop) : Prop :=
  newB w [.int .i64 o_0, .int .i64 o_1, .int .i64 o_2, .int .i64 o_3, .slice o_4 o_4n o_4c, .bool o_5, .int .i64 o_6, .int .i64 o_7, .int .i64 o_8, .bool o_9, .int .i64 o_10, .int .i64 o_11, .slice o_12 o_12n o_12c] 46 fun a w1 =>
  ∃ (n : Int),
  w1.cell? (Addr.add a 0) = some (.int .i64 n) ∧
  Sif (n == 1) (∃ (n1 : Int), w1.cell? (Addr.add (Addr.add a 6) 0) = some (.int .i64 n1) ∧ ∃ (n2 : Int), w1.cell? (Addr.add (Addr.add a 6) 1) = some (.int .i64 n2) ∧ ∃ (n3 : Int), w1.cell? (Addr.add (Addr.add a 6) 2) = some (.int .i64 n3) ∧ ∃ (b : Bool), w1.cell? (Addr.add (Addr.add a 6) 3) = some (.bool b) ∧ ∃ (n4 : Int), w1.cell? (Addr.add (Addr.add a 6) 4) = some (.int .i64 n4) ∧ ∃ (n5 : Int), w1.cell? (Addr.add (Addr.add a 6) 5) = some (.int .i64 n5) ∧ ∃ (p : Option Addr) (n6 c : Nat), w1.cell? (Addr.add (Addr.add a 6) 6) = some (.slice p n6 c) ∧ callP Tryz.prog 8 [.pointer q, .pointer x, .agg (Array.mk [.int .i64 n1, .int .i64 n2, .int .i64 n3, .bool b, .int .i64 n4, .int .i64 n5, .slice p n6 c])] w1 fun v w2 => ∃ (b1 : Bool), v = .bool b1 ∧ K (.bool b1) w2)
  (∃ (J : Bool → World → Prop),
  (∀ (b : Bool) (w2 : World),
  J b w2 →
  Sif b (∃ (n1 : Int), w2.cell? (Addr.add a 0) = some (.int .i64 n1) ∧ ∃ (n2 : Int), w2.cell? (Addr.add a 1) = some (.int .i64 n2) ∧ ∃ (n3 : Int), w2.cell? (Addr.add a 2) = some (.int .i64 n3) ∧ ∃ (n4 : Int), w2.cell? (Addr.add a 3) = some (.int .i64 n4) ∧ ∃ (p : Option Addr) (n5 c : Nat), w2.cell? (Addr.add a 4) = some (.slice p n5 c) ∧ ∃ (b1 : Bool), w2.cell? (Addr.add a 5) = some (.bool b1) ∧ ∃ (n6 : Int), w2.cell? (Addr.add a 6) = some (.int .i64 n6) ∧ ∃ (n7 : Int), w2.cell? (Addr.add a 7) = some (.int .i64 n7) ∧ ∃ (n8 : Int), w2.cell? (Addr.add a 8) = some (.int .i64 n8) ∧ ∃ (b2 : Bool), w2.cell? (Addr.add a 9) = some (.bool b2) ∧ ∃ (n9 : Int), w2.cell? (Addr.add a 10) = some (.int .i64 n9) ∧ ∃ (n10 : Int), w2.cell? (Addr.add a 11) = some (.int .i64 n10) ∧ ∃ (p1 : Option Addr) (n11 c1 : Nat), w2.cell? (Addr.add a 12) = some (.slice p1 n11 c1) ∧ callP Tryz.prog 31 [.pointer k, .pointer q, .pointer x, .agg (Array.mk [.int .i64 n1, .int .i64 n2, .int .i64 n3, .int .i64 n4, .slice p n5 c, .bool b1, .int .i64 n6, .int .i64 n7, .int .i64 n8, .bool b2, .int .i64 n9, .int .i64 n10, .slice p1 n11 c1])] w2 fun v w3 => ∃ (b3 : Bool), v = .bool b3 ∧ K (.bool b3) w3)
  (Sif (n == 4)
  (∃ (n1 : Int),
  w2.cell? (Addr.add a 1) = some (.int .i64 n1) ∧
  ∃ (n2 : Int),
  w2.cell? (Addr.add a 2) = some (.int .i64 n2) ∧
  ∃ (b1 : Bool),
  w2.cell? (Addr.add a 5) = some (.bool b1) ∧
  callP Tryz.prog 19 [.pointer q, .int .i64 n1, .int .i64 n2, .bool b1] w2 fun v w3 =>
  ∃ (n3 n4 : Int),
  ∃ (n5 : Int) (b2 : Bool),
  ∃ (n6 n7 : Int),
  ∃ (p : Option Addr) (n8 : Nat),
  ∃ (c : Nat) (b3 : Bool) (n9 : Int),
  v = .tuple (Array.mk [.agg (Array.mk [.int .i64 n3, .int .i64 n4, .int .i64 n5, .bool b2, .int .i64 n6, .int .i64 n7, .slice p n8 c]), .bool b3, .int .i64 n9]) ∧
  newB w3 [.int .i64 0, .int .i64 0, .int .i64 0, .bool false, .int .i64 0, .int .i64 0, .slice none 0 0] 34 fun a1 w4 =>
  st w4 (Addr.add a1 0) (.int .i64 n3) fun w5 =>
  st w5 (Addr.add a1 1) (.int .i64 n4) fun w6 =>
  st w6 (Addr.add a1 2) (.int .i64 n5) fun w7 =>
  st w7 (Addr.add a1 3) (.bool b2) fun w8 =>
  st w8 (Addr.add a1 4) (.int .i64 n6) fun w9 =>
  st w9 (Addr.add a1 5) (.int .i64 n7) fun w10 =>
  st w10 (Addr.add a1 6) (.slice p n8 c) fun w11 =>
  ∃ (n10 : Int),
  w11.cell? (Addr.add a 1) = some (.int .i64 n10) ∧
  ∃ (n11 : Int),
  w11.cell? (Addr.add a 2) = some (.int .i64 n11) ∧
  ∃ (b4 : Bool),
  w11.cell? (Addr.add a 5) = some (.bool b4) ∧
  callP Tryz.prog 32 [.pointer x, .int .i64 n10, .int .i64 n11, .bool b4] w11 fun v1 w12 =>
  ∃ (n12 n13 : Int),
  ∃ (n14 : Int) (b5 : Bool),
  ∃ (n15 n16 : Int),
  ∃ (p1 : Option Addr) (n17 : Nat),
  ∃ (c1 : Nat) (b6 : Bool) (n18 : Int),
  v1 = .tuple (Array.mk [.agg (Array.mk [.int .i64 n12, .int .i64 n13, .int .i64 n14, .bool b5, .int .i64 n15, .int .i64 n16, .slice p1 n17 c1]), .bool b6, .int .i64 n18]) ∧
  newB w12 [.int .i64 0, .int .i64 0, .int .i64 0, .bool false, .int .i64 0, .int .i64 0, .slice none 0 0] 34 fun a2 w13 =>
  st w13 (Addr.add a2 0) (.int .i64 n12) fun w14 =>
  st w14 (Addr.add a2 1) (.int .i64 n13) fun w15 =>
  st w15 (Addr.add a2 2) (.int .i64 n14) fun w16 =>
  st w16 (Addr.add a2 3) (.bool b5) fun w17 =>
  st w17 (Addr.add a2 4) (.int .i64 n15) fun w18 =>
  st w18 (Addr.add a2 5) (.int .i64 n16) fun w19 =>
  st w19 (Addr.add a2 6) (.slice p1 n17 c1) fun w20 =>
  ∃ (n19 : Int),
  w20.cell? (Addr.add a1 0) = some (.int .i64 n19) ∧
  ∃ (n20 : Int), w20.cell? (Addr.add a1 1) = some (.int .i64 n20) ∧ ∃ (n21 : Int), w20.cell? (Addr.add a1 2) = some (.int .i64 n21) ∧ ∃ (b7 : Bool), w20.cell? (Addr.add a1 3) = some (.bool b7) ∧ ∃ (n22 : Int), w20.cell? (Addr.add a1 4) = some (.int .i64 n22) ∧ ∃ (n23 : Int), w20.cell? (Addr.add a1 5) = some (.int .i64 n23) ∧ ∃ (p2 : Option Addr) (n24 c2 : Nat), w20.cell? (Addr.add a1 6) = some (.slice p2 n24 c2) ∧ ∃ (n25 : Int), w20.cell? (Addr.add a2 0) = some (.int .i64 n25) ∧ ∃ (n26 : Int), w20.cell? (Addr.add a2 1) = some (.int .i64 n26) ∧ ∃ (n27 : Int), w20.cell? (Addr.add a2 2) = some (.int .i64 n27) ∧ ∃ (b8 : Bool), w20.cell? (Addr.add a2 3) = some (.bool b8) ∧ ∃ (n28 : Int), w20.cell? (Addr.add a2 4) = some (.int .i64 n28) ∧ ∃ (n29 : Int), w20.cell? (Addr.add a2 5) = some (.int .i64 n29) ∧ ∃ (p3 : Option Addr) (n30 c3 : Nat), w20.cell? (Addr.add a2 6) = some (.slice p3 n30 c3) ∧ callP Tryz.prog 11 [.agg (Array.mk [.int .i64 n19, .int .i64 n20, .int .i64 n21, .bool b7, .int .i64 n22, .int .i64 n23, .slice p2 n24 c2]), .agg (Array.mk [.int .i64 n25, .int .i64 n26, .int .i64 n27, .bool b8, .int .i64 n28, .int .i64 n29, .slice p3 n30 c3])] w20 fun v2 w21 => ∃ (b9 : Bool), v2 = .bool b9 ∧ ∃ (n31 : Int), w21.cell? (Addr.add a1 0) = some (.int .i64 n31) ∧ ∃ (n32 : Int), w21.cell? (Addr.add a1 1) = some (.int .i64 n32) ∧ ∃ (n33 : Int), w21.cell? (Addr.add a1 2) = some (.int .i64 n33) ∧ ∃ (b10 : Bool), w21.cell? (Addr.add a1 3) = some (.bool b10) ∧ ∃ (n34 : Int), w21.cell? (Addr.add a1 4) = some (.int .i64 n34) ∧ ∃ (n35 : Int), w21.cell? (Addr.add a1 5) = some (.int .i64 n35) ∧ ∃ (p4 : Option Addr) (n36 c4 : Nat), w21.cell? (Addr.add a1 6) = some (.slice p4 n36 c4) ∧ callP Tryz.prog 33 [.pointer k, .agg (Array.mk [.int .i64 n31, .int .i64 n32, .int .i64 n33, .bool b10, .int .i64 n34, .int .i64 n35, .slice p4 n36 c4])] w21 fun v3 w22 => v3 = .tuple (Array.mk []) ∧ Sif b9 (Sif (b3 == b6) (K (.bool (n9 == n18)) w22) (K (.bool false) w22)) (K (.bool false) w22))
  (Sif (n == 5)
  (∃ (n1 : Int),
  w2.cell? (Addr.add a 1) = some (.int .i64 n1) ∧
  ∃ (n2 : Int),
  w2.cell? (Addr.add a 2) = some (.int .i64 n2) ∧
  callP Tryz.prog 34 [.pointer q, .int .i64 n1, .int .i64 n2] w2 fun v w3 =>
  ∃ (n3 n4 : Int),
  ∃ (n5 : Int) (b1 : Bool),
  ∃ (n6 n7 : Int),
  ∃ (p : Option Addr) (n8 : Nat),
  ∃ (c : Nat) (n9 : Int),
  v = .tuple (Array.mk [.agg (Array.mk [.int .i64 n3, .int .i64 n4, .int .i64 n5, .bool b1, .int .i64 n6, .int .i64 n7, .slice p n8 c]), .int .i64 n9]) ∧
  newB w3 [.int .i64 0, .int .i64 0, .int .i64 0, .bool false, .int .i64 0, .int .i64 0, .slice none 0 0] 34 fun a1 w4 =>
  st w4 (Addr.add a1 0) (.int .i64 n3) fun w5 =>
  st w5 (Addr.add a1 1) (.int .i64 n4) fun w6 =>
  st w6 (Addr.add a1 2) (.int .i64 n5) fun w7 =>
  st w7 (Addr.add a1 3) (.bool b1) fun w8 =>
  st w8 (Addr.add a1 4) (.int .i64 n6) fun w9 =>
  st w9 (Addr.add a1 5) (.int .i64 n7) fun w10 =>
  st w10 (Addr.add a1 6) (.slice p n8 c) fun w11 =>
  ∃ (n10 : Int),
  w11.cell? (Addr.add a 1) = some (.int .i64 n10) ∧
  ∃ (n11 : Int),
  w11.cell? (Addr.add a 2) = some (.int .i64 n11) ∧
  callP Tryz.prog 35 [.pointer x, .int .i64 n10, .int .i64 n11] w11 fun v1 w12 =>
  ∃ (n12 n13 : Int),
  ∃ (n14 : Int) (b2 : Bool),
  ∃ (n15 n16 : Int),
  ∃ (p1 : Option Addr) (n17 : Nat),
  ∃ (c1 : Nat) (n18 : Int),
  v1 = .tuple (Array.mk [.agg (Array.mk [.int .i64 n12, .int .i64 n13, .int .i64 n14, .bool b2, .int .i64 n15, .int .i64 n16, .slice p1 n17 c1]), .int .i64 n18]) ∧
  newB w12 [.int .i64 0, .int .i64 0, .int .i64 0, .bool false, .int .i64 0, .int .i64 0, .slice none 0 0] 34 fun a2 w13 =>
  st w13 (Addr.add a2 0) (.int .i64 n12) fun w14 =>
  st w14 (Addr.add a2 1) (.int .i64 n13) fun w15 =>
  st w15 (Addr.add a2 2) (.int .i64 n14) fun w16 =>
  st w16 (Addr.add a2 3) (.bool b2) fun w17 =>
  st w17 (Addr.add a2 4) (.int .i64 n15) fun w18 =>
  st w18 (Addr.add a2 5) (.int .i64 n16) fun w19 =>
  st w19 (Addr.add a2 6) (.slice p1 n17 c1) fun w20 =>
  ∃ (n19 : Int), w20.cell? (Addr.add a1 0) = some (.int .i64 n19) ∧ ∃ (n20 : Int), w20.cell? (Addr.add a1 1) = some (.int .i64 n20) ∧ ∃ (n21 : Int), w20.cell? (Addr.add a1 2) = some (.int .i64 n21) ∧ ∃ (b3 : Bool), w20.cell? (Addr.add a1 3) = some (.bool b3) ∧ ∃ (n22 : Int), w20.cell? (Addr.add a1 4) = some (.int .i64 n22) ∧ ∃ (n23 : Int), w20.cell? (Addr.add a1 5) = some (.int .i64 n23) ∧ ∃ (p2 : Option Addr) (n24 c2 : Nat), w20.cell? (Addr.add a1 6) = some (.slice p2 n24 c2) ∧ ∃ (n25 : Int), w20.cell? (Addr.add a2 0) = some (.int .i64 n25) ∧ ∃ (n26 : Int), w20.cell? (Addr.add a2 1) = some (.int .i64 n26) ∧ ∃ (n27 : Int), w20.cell? (Addr.add a2 2) = some (.int .i64 n27) ∧ ∃ (b4 : Bool), w20.cell? (Addr.add a2 3) = some (.bool b4) ∧ ∃ (n28 : Int), w20.cell? (Addr.add a2 4) = some (.int .i64 n28) ∧ ∃ (n29 : Int), w20.cell? (Addr.add a2 5) = some (.int .i64 n29) ∧ ∃ (p3 : Option Addr) (n30 c3 : Nat), w20.cell? (Addr.add a2 6) = some (.slice p3 n30 c3) ∧ callP Tryz.prog 11 [.agg (Array.mk [.int .i64 n19, .int .i64 n20, .int .i64 n21, .bool b3, .int .i64 n22, .int .i64 n23, .slice p2 n24 c2]), .agg (Array.mk [.int .i64 n25, .int .i64 n26, .int .i64 n27, .bool b4, .int .i64 n28, .int .i64 n29, .slice p3 n30 c3])] w20 fun v2 w21 => ∃ (b5 : Bool), v2 = .bool b5 ∧ ∃ (n31 : Int), w21.cell? (Addr.add a1 0) = some (.int .i64 n31) ∧ ∃ (n32 : Int), w21.cell? (Addr.add a1 1) = some (.int .i64 n32) ∧ ∃ (n33 : Int), w21.cell? (Addr.add a1 2) = some (.int .i64 n33) ∧ ∃ (b6 : Bool), w21.cell? (Addr.add a1 3) = some (.bool b6) ∧ ∃ (n34 : Int), w21.cell? (Addr.add a1 4) = some (.int .i64 n34) ∧ ∃ (n35 : Int), w21.cell? (Addr.add a1 5) = some (.int .i64 n35) ∧ ∃ (p4 : Option Addr) (n36 c4 : Nat), w21.cell? (Addr.add a1 6) = some (.slice p4 n36 c4) ∧ callP Tryz.prog 33 [.pointer k, .agg (Array.mk [.int .i64 n31, .int .i64 n32, .int .i64 n33, .bool b6, .int .i64 n34, .int .i64 n35, .slice p4 n36 c4])] w21 fun v3 w22 => v3 = .tuple (Array.mk []) ∧ Sif b5 (K (.bool (n9 == n18)) w22) (K (.bool false) w22))
  (Sif (n == 6) (∃ (n1 : Int), w2.cell? (Addr.add a 1) = some (.int .i64 n1) ∧ callP Tryz.prog 36 [.pointer q, .int .i64 n1] w2 fun v w3 => ∃ (p : Option Addr) (n2 c : Nat), v = .slice p n2 c ∧ ∃ (n3 : Int), w3.cell? (Addr.add a 1) = some (.int .i64 n3) ∧ callP Tryz.prog 37 [.pointer x, .int .i64 n3] w3 fun v1 w4 => ∃ (p1 : Option Addr) (n4 c1 : Nat), v1 = .slice p1 n4 c1 ∧ callP Tryz.prog 38 [.slice p n2 c, .slice p1 n4 c1] w4 fun v2 w5 => ∃ (b1 : Bool), v2 = .bool b1 ∧ callP Tryz.prog 39 [.pointer k, .slice p n2 c] w5 fun v3 w6 => v3 = .tuple (Array.mk []) ∧ K (.bool b1) w6)
  (Sif (n == 7) (∃ (n1 : Int), w2.cell? (Addr.add a 1) = some (.int .i64 n1) ∧ callP Tryz.prog 40 [.pointer q, .int .i64 n1] w2 fun v w3 => ∃ (p : Option Addr) (n2 c : Nat), v = .slice p n2 c ∧ ∃ (n3 : Int), w3.cell? (Addr.add a 1) = some (.int .i64 n3) ∧ callP Tryz.prog 41 [.pointer x, .int .i64 n3] w3 fun v1 w4 => ∃ (p1 : Option Addr) (n4 c1 : Nat), v1 = .slice p1 n4 c1 ∧ callP Tryz.prog 13 [.pointer k, .slice p n2 c, .slice p1 n4 c1] w4 fun v2 w5 => ∃ (b1 : Bool), v2 = .bool b1 ∧ nn k fun a1 => ∃ (p2 : Option Addr) (n5 c2 : Nat), w5.cell? (Addr.add a1 3) = some (.slice p2 n5 c2) ∧ newB w5 [.slice p n2 c] 24 fun a2 w6 => ∃ (p3 : Option Addr) (n6 : Nat), ∃ (c3 : Nat) (w7 : World), Sem.run Tryz.prog (Builtin.append_ (Array.mk [36, 36]) 36 (Array.mk [.slice p2 n5 c2, .slice (some a2) 1 1])) w6 = Result.ok (.slice p3 n6 c3) w7 ∧ nn k fun a3 => st w7 (Addr.add (Addr.add a3 3) 0) (.slice p3 n6 c3) fun w8 => K (.bool b1) w8) (Sif (n == 8) (∃ (n1 : Int), w2.cell? (Addr.add a 1) = some (.int .i64 n1) ∧ callP Tryz.prog 14 [.pointer k, .pointer q, .pointer x, .int .i64 n1] w2 fun v w3 => ∃ (b1 : Bool), v = .bool b1 ∧ K (.bool b1) w3) (Sif (n == 9) (callP Tryz.prog 20 [.pointer q] w2 fun v w3 => ∃ (n1 n2 : Int), v = .tuple (Array.mk [.int .i64 n1, .int .i64 n2]) ∧ callP Tryz.prog 42 [.pointer x] w3 fun v1 w4 => ∃ (n3 n4 : Int), v1 = .tuple (Array.mk [.int .i64 n3, .int .i64 n4]) ∧ Sif (n1 == n3) (K (.bool (n2 == n4)) w4) (K (.bool false) w4)) (K (.bool true) w2)))))))) ∧
  Sif (n == 2) (J (n == 2) w1) (J (n == 3) w1))
set_option maxRecDepth 100000 in
theorem eq_longshorelaw17_step (k : Option Addr) (q : Option Addr) (x : Option Addr) (o_0 : Int) (o_1 : Int) (o_2 : Int) (o_3 : Int) (o_4 : Option Addr) (o_4n : Nat) (o_4c : Nat) (o_5 : Bool) (o_6 : Int) (o_7 : Int) (o_8 : Int) (o_9 : Bool) (o_10 : Int) (o_11 : Int) (o_12 : Option Addr) (o_12n : Nat) (o_12c : Nat) (w : World) (K : Value → World → Prop) : wpF Tryz.prog none Tryz.f12 (.two .leaf (.two (.two .leaf (.two (.two .leaf (.two (.two .leaf .leaf) (.two (Ann.meet [((40 : Nat), VSh.cell Sh.bool)] (.two .leaf (.two .leaf .leaf))) (.two (.two .leaf .leaf) (.two .leaf (.two (.two .leaf (.two .leaf (.two .leaf (.two .leaf (.two .leaf .leaf))))) (.two .leaf (.two (.two .leaf (.two .leaf (.two .leaf (.two .leaf (.two .leaf .leaf))))) (.two .leaf (.two (.two .leaf (.two .leaf (.two .leaf (.two .leaf (.two .leaf .leaf))))) (.two .leaf (.two (.two .leaf (.two .leaf (.two .leaf (.two .leaf (.two .leaf .leaf))))) (.two .leaf (.two (.two .leaf .leaf) (.two .leaf (.two (.two .leaf (.two .leaf (.two .leaf .leaf))) .leaf)))))))))))))))) .leaf)) (.two .leaf .leaf))) [Value.pointer k, Value.pointer q, Value.pointer x, Value.agg #[Value.int IntKind.i64 o_0, Value.int IntKind.i64 o_1, Value.int IntKind.i64 o_2, Value.int IntKind.i64 o_3, Value.slice o_4 o_4n o_4c, Value.bool o_5, Value.int IntKind.i64 o_6, Value.int IntKind.i64 o_7, Value.int IntKind.i64 o_8, Value.bool o_9, Value.int IntKind.i64 o_10, Value.int IntKind.i64 o_11, Value.slice o_12 o_12n o_12c]] w K = wp_longshorelaw17_step k q x o_0 o_1 o_2 o_3 o_4 o_4n o_4c o_5 o_6 o_7 o_8 o_9 o_10 o_11 o_12 o_12n o_12c w K := by kernel_rfl
theorem ok_longshorelaw17_step {k : Option Addr} {q : Option Addr} {x : Option Addr} {o_0 : Int} {o_1 : Int} {o_2 : Int} {o_3 : Int} {o_4 : Option Addr} {o_4n : Nat} {o_4c : Nat} {o_5 : Bool} {o_6 : Int} {o_7 : Int} {o_8 : Int} {o_9 : Bool} {o_10 : Int} {o_11 : Int} {o_12 : Option Addr} {o_12n : Nat} {o_12c : Nat} {w : World} {K : Value → World → Prop} (hwp : wp_longshorelaw17_step k q x o_0 o_1 o_2 o_3 o_4 o_4n o_4c o_5 o_6 o_7 o_8 o_9 o_10 o_11 o_12 o_12n o_12c w K) : callP Tryz.prog 12 [.pointer k, .pointer q, .pointer x, .agg #[.int .i64 o_0, .int .i64 o_1, .int .i64 o_2, .int .i64 o_3, .slice o_4 o_4n o_4c, .bool o_5, .int .i64 o_6, .int .i64 o_7, .int .i64 o_8, .bool o_9, .int .i64 o_10, .int .i64 o_11, .slice o_12 o_12n o_12c]] w K :=
  calls_of Tryz.func12 ((eq_longshorelaw17_step k q x o_0 o_1 o_2 o_3 o_4 o_4n o_4c o_5 o_6 o_7 o_8 o_9 o_10 o_11 o_12 o_12n o_12c w K).symm ▸ hwp)

/-- longshore.longshorelaw17.alls -/
def wp_longshorelaw17_alls (k : Option Addr) (q : Option Addr) (x : Option Addr) (most : Int) (w : World) (K : Value → World → Prop) : Prop :=
  newB w [.int .i64 most] 3 fun a w1 =>
  callP Tryz.prog 10 [.pointer x] w1 fun v w2 =>
  ∃ (p : Option Addr) (n c : Nat),
  v = .slice p n c ∧
  newB w2 [.slice none 0 0] 24 fun a1 w3 =>
  callP Tryz.prog 9 [.pointer q] w3 fun v1 w4 =>
  ∃ (v2 : Value),
  v1 = v2 ∧
  isNilF v2 fun r =>
  Sif r (K (.bool false) w4)
  (∀ (l : Nat),
  l = Array.size (Array.mk (List.concat w4.heap.toList (Obj.deferred (some [])))) →
  ∀ (rc : LoopR),
  Sv.isRec rc →
  (∀ (n1 n2 n3 : Int) (b : Bool) (n4 n5 : Int) (p1 : Option Addr) (n6 c1 : Nat) (w5 : World) (K' : Value → World → Prop),
  recAt w5 l rc LoopState.ready none →
  (newB w5 [.int .i64 0, .int .i64 0, .int .i64 0, .bool false, .int .i64 0, .int .i64 0, .slice none 0 0] 34 fun a2 w6 =>
  st w6 (Addr.add a2 0) (.int .i64 n1) fun w7 => st w7 (Addr.add a2 1) (.int .i64 n2) fun w8 => st w8 (Addr.add a2 2) (.int .i64 n3) fun w9 => st w9 (Addr.add a2 3) (.bool b) fun w10 => st w10 (Addr.add a2 4) (.int .i64 n4) fun w11 => st w11 (Addr.add a2 5) (.int .i64 n5) fun w12 => st w12 (Addr.add a2 6) (.slice p1 n6 c1) fun w13 => recAt w13 l rc LoopState.ready none ∧ ∃ (p2 : Option Addr) (n7 c2 : Nat), World.cell? (World.putObj w13 l (rc LoopState.busy none)) a1 = some (.slice p2 n7 c2) ∧ ∃ (n8 : Int), World.cell? (World.putObj w13 l (rc LoopState.busy none)) (Addr.add a2 0) = some (.int .i64 n8) ∧ ∃ (n9 : Int), World.cell? (World.putObj w13 l (rc LoopState.busy none)) (Addr.add a2 1) = some (.int .i64 n9) ∧ ∃ (n10 : Int), World.cell? (World.putObj w13 l (rc LoopState.busy none)) (Addr.add a2 2) = some (.int .i64 n10) ∧ ∃ (b1 : Bool), World.cell? (World.putObj w13 l (rc LoopState.busy none)) (Addr.add a2 3) = some (.bool b1) ∧ ∃ (n11 : Int), World.cell? (World.putObj w13 l (rc LoopState.busy none)) (Addr.add a2 4) = some (.int .i64 n11) ∧ ∃ (n12 : Int), World.cell? (World.putObj w13 l (rc LoopState.busy none)) (Addr.add a2 5) = some (.int .i64 n12) ∧ ∃ (p3 : Option Addr) (n13 c3 : Nat), World.cell? (World.putObj w13 l (rc LoopState.busy none)) (Addr.add a2 6) = some (.slice p3 n13 c3) ∧ newB (World.putObj w13 l (rc LoopState.busy none)) [.int .i64 n8, .int .i64 n9, .int .i64 n10, .bool b1, .int .i64 n11, .int .i64 n12, .slice p3 n13 c3] 34 fun a3 w14 => ∃ (p4 : Option Addr) (n14 : Nat), ∃ (c4 : Nat) (w15 : World), Sem.run Tryz.prog (Builtin.append_ (Array.mk [24, 24]) 24 (Array.mk [.slice p2 n7 c2, .slice (some a3) 1 1])) w14 = Result.ok (.slice p4 n14 c4) w15 ∧ st w15 (Addr.add a1 0) (.slice p4 n14 c4) fun w16 => ∃ (p5 : Option Addr) (n15 c5 : Nat), w16.cell? a1 = some (.slice p5 n15 c5) ∧ ∃ (n16 : Int), w16.cell? a = some (.int .i64 n16) ∧ Sif ((↑n15 : Int) == n16) (recAt w16 l rc LoopState.busy none ∧ K' (.bool false) (World.putObj w16 l (rc LoopState.done (some (Code.exit 0))))) (recAt w16 l rc LoopState.busy none ∧ K' (.bool true) (World.putObj w16 l (rc LoopState.ready none)))) →
  yieldP Tryz.prog l [.agg (Array.mk [.int .i64 n1, .int .i64 n2, .int .i64 n3, .bool b, .int .i64 n4, .int .i64 n5, .slice p1 n6 c1])] w5 fun a2 w6 => K' a2 w6) →
  callF Tryz.prog v2 [.func (Fn.yield l) (Array.mk []) (Array.mk [])] (World.alloc (World.alloc w4 (Obj.deferred (some []))) (rc LoopState.ready none)) fun w5 => (recAt w5 l rc LoopState.ready none ∧ ∃ (J : Option Addr → Nat → Nat → World → Prop), (∀ (p1 : Option Addr) (n1 c1 : Nat) (w6 : World), J p1 n1 c1 w6 → ∃ (p2 : Option Addr) (n2 c2 : Nat), w6.cell? a1 = some (.slice p2 n2 c2) ∧ callP Tryz.prog 13 [.pointer k, .slice p2 n2 c2, .slice p1 n1 c1] w6 fun v3 w7 => ∃ (b : Bool), v3 = .bool b ∧ takeM w7 (Array.size w4.heap) fun w8 => K (.bool b) w8) ∧ ∃ (n1 : Int), World.cell? (World.putObj w5 l (rc LoopState.exhausted none)) a = some (.int .i64 n1) ∧ Sif (decide (n1 > 0)) (∃ (n2 : Int), World.cell? (World.putObj w5 l (rc LoopState.exhausted none)) a = some (.int .i64 n2) ∧ Sif (decide ((↑n : Int) > n2)) (∃ (n3 : Int), World.cell? (World.putObj w5 l (rc LoopState.exhausted none)) a = some (.int .i64 n3) ∧ 0 ≤ n3 ∧ n3 ≤ (↑c : Int) ∧ J p (Int.toNat n3) c (World.putObj w5 l (rc LoopState.exhausted none))) (J p n c (World.putObj w5 l (rc LoopState.exhausted none)))) (J p n c (World.putObj w5 l (rc LoopState.exhausted none)))) ∨ False ∨ (recAt w5 l rc LoopState.done (some (Code.exit 0)) ∧ ∃ (J : Option Addr → Nat → Nat → World → Prop), (∀ (p1 : Option Addr) (n1 c1 : Nat) (w6 : World), J p1 n1 c1 w6 → ∃ (p2 : Option Addr) (n2 c2 : Nat), w6.cell? a1 = some (.slice p2 n2 c2) ∧ callP Tryz.prog 13 [.pointer k, .slice p2 n2 c2, .slice p1 n1 c1] w6 fun v3 w7 => ∃ (b : Bool), v3 = .bool b ∧ takeM w7 (Array.size w4.heap) fun w8 => K (.bool b) w8) ∧ ∃ (n1 : Int), World.cell? (World.putObj w5 l (rc LoopState.exhausted (some (Code.exit 0)))) a = some (.int .i64 n1) ∧ Sif (decide (n1 > 0)) (∃ (n2 : Int), World.cell? (World.putObj w5 l (rc LoopState.exhausted (some (Code.exit 0)))) a = some (.int .i64 n2) ∧ Sif (decide ((↑n : Int) > n2)) (∃ (n3 : Int), World.cell? (World.putObj w5 l (rc LoopState.exhausted (some (Code.exit 0)))) a = some (.int .i64 n3) ∧ 0 ≤ n3 ∧ n3 ≤ (↑c : Int) ∧ J p (Int.toNat n3) c (World.putObj w5 l (rc LoopState.exhausted (some (Code.exit 0))))) (J p n c (World.putObj w5 l (rc LoopState.exhausted (some (Code.exit 0)))))) (J p n c (World.putObj w5 l (rc LoopState.exhausted (some (Code.exit 0)))))) ∨ False)
set_option maxRecDepth 100000 in
theorem eq_longshorelaw17_alls (k : Option Addr) (q : Option Addr) (x : Option Addr) (most : Int) (w : World) (K : Value → World → Prop) : wpF Tryz.prog none Tryz.f14 (.two .leaf (.two .leaf (.two .leaf (.two .leaf (.two (.two .leaf (.two (.two .leaf .leaf) .leaf)) (.two (.two .leaf (.two (Ann.over [VSh.agg [Sh.int IntKind.i64, Sh.int IntKind.i64, Sh.int IntKind.i64, Sh.bool, Sh.int IntKind.i64, Sh.int IntKind.i64, Sh.slice]] false [(0 : Nat)] .leaf (.two (.two .leaf (.two .leaf (.two .leaf .leaf))) .leaf)) .leaf)) (.two (Ann.meet [((9 : Nat), VSh.cell Sh.slice)] (.two .leaf (.two .leaf .leaf))) (.two .leaf .leaf)))))))) [Value.pointer k, Value.pointer q, Value.pointer x, Value.int IntKind.i64 most] w K = wp_longshorelaw17_alls k q x most w K := by kernel_rfl
theorem ok_longshorelaw17_alls {k : Option Addr} {q : Option Addr} {x : Option Addr} {most : Int} {w : World} {K : Value → World → Prop} (hwp : wp_longshorelaw17_alls k q x most w K) : callP Tryz.prog 14 [.pointer k, .pointer q, .pointer x, .int .i64 most] w K :=
  calls_of Tryz.func14 ((eq_longshorelaw17_alls k q x most w K).symm ▸ hwp)

/-- (longshore.longshorelaw17.book).take -/
def wp_longshorelaw17_book_take (b : Option Addr) (e_0 : Int) (e_1 : Int) (e_2 : Int) (e_3 : Bool) (e_4 : Int) (e_5 : Int) (e_6 : Option Addr) (e_6n : Nat) (e_6c : Nat) (w : World) (K : Value → World → Prop) : Prop :=
  newB w [.int .i64 e_0, .int .i64 e_1, .int .i64 e_2, .bool e_3, .int .i64 e_4, .int .i64 e_5, .slice e_6 e_6n e_6c] 34 fun a w1 =>
  nn b fun a1 =>
  ∃ (n : Int),
  w1.cell? (Addr.add a1 0) = some (.int .i64 n) ∧
  nn b fun a2 =>
  st w1 (Addr.add (Addr.add a2 0) 0) (.int .i64 (IntKind.wrap .i64 (n + 1))) fun w2 =>
  nn b fun a3 =>
  ∃ (n1 : Int),
  w2.cell? (Addr.add a3 0) = some (.int .i64 n1) ∧
  (2 : Int) ≠ (0 : Int) ∧
  Sif (Int.tmod n1 2 == 1) (∃ (p : Option Addr) (n2 c : Nat), w2.cell? (Addr.add a 6) = some (.slice p n2 c) ∧ callP Tryz.prog 25 [.slice p n2 c] w2 fun v w3 => v = .tuple (Array.mk []) ∧ K (.tuple (Array.mk [])) w3)
  (∃ (n2 : Int),
  w2.cell? (Addr.add a 0) = some (.int .i64 n2) ∧
  ∃ (n3 : Int),
  w2.cell? (Addr.add a 1) = some (.int .i64 n3) ∧
  ∃ (n4 : Int),
  w2.cell? (Addr.add a 2) = some (.int .i64 n4) ∧
  ∃ (b1 : Bool),
  w2.cell? (Addr.add a 3) = some (.bool b1) ∧
  ∃ (n5 : Int),
  w2.cell? (Addr.add a 4) = some (.int .i64 n5) ∧
  ∃ (n6 : Int),
  w2.cell? (Addr.add a 5) = some (.int .i64 n6) ∧
  ∃ (p : Option Addr) (n7 c : Nat),
  w2.cell? (Addr.add a 6) = some (.slice p n7 c) ∧
  newB w2 [.int .i64 0, .int .i64 0, .int .i64 0, .bool false, .int .i64 0, .int .i64 0, .slice none 0 0] 34 fun a4 w3 =>
  st w3 (Addr.add a4 0) (.int .i64 n2) fun w4 =>
  st w4 (Addr.add a4 1) (.int .i64 n3) fun w5 =>
  st w5 (Addr.add a4 2) (.int .i64 n4) fun w6 =>
  st w6 (Addr.add a4 3) (.bool b1) fun w7 =>
  st w7 (Addr.add a4 4) (.int .i64 n5) fun w8 =>
  st w8 (Addr.add a4 5) (.int .i64 n6) fun w9 =>
  st w9 (Addr.add a4 6) (.slice p n7 c) fun w10 =>
  st w10 (Addr.add (Addr.add a4 6) 0) (.slice none 0 0) fun w11 =>
  ∃ (I : Nat → Int → World → Prop),
  (∃ (m : Nat), I m 0 w11) ∧
  ∀ (m : Nat) (n8 : Int) (w12 : World),
  I m n8 w12 →
  ∃ (p1 : Option Addr) (n9 c1 : Nat),
  w12.cell? (Addr.add a 6) = some (.slice p1 n9 c1) ∧
  Sif (decide (n8 < (↑n9 : Int))) (∃ (p2 : Option Addr) (n10 c2 : Nat), World.cell? (World.drew w12) (Addr.add a4 6) = some (.slice p2 n10 c2) ∧ ∃ (p3 : Option Addr) (n11 c3 : Nat), World.cell? (World.drew w12) (Addr.add a 6) = some (.slice p3 n11 c3) ∧ 0 ≤ n8 ∧ n8 < (↑n11 : Int) ∧ nn p3 fun a5 => ∃ (n12 : Int), World.cell? (World.drew w12) (Addr.add a5 (Int.toNat n8 * 1)) = some (.int .u8 n12) ∧ newB (World.drew w12) [.int .u8 n12] 5 fun a6 w13 => (∃ (p4 : Option Addr) (n13 c4 : Nat), w13.cell? (Addr.add a4 6) = some (.slice p4 n13 c4) ∧ Value.slice p4 n13 c4 = .slice p2 n10 c2) ∧ ∃ (p4 : Option Addr) (n13 : Nat), ∃ (c4 : Nat) (w14 : World), Sem.run Tryz.prog (Builtin.append_ (Array.mk [32, 32]) 32 (Array.mk [.slice p2 n10 c2, .slice (some a6) 1 1])) w13 = Result.ok (.slice p4 n13 c4) w14 ∧ st w14 (Addr.add (Addr.add a4 6) 0) (.slice p4 n13 c4) fun w15 => nameI (IntKind.wrap .i64 (n8 + 1)) fun n14 => ∃ (m' : Nat), m' < m ∧ I m' n14 w15)
  (nn b fun a5 =>
  ∃ (p2 : Option Addr) (n10 c2 : Nat),
  World.cell? (World.drew w12) (Addr.add a5 1) = some (.slice p2 n10 c2) ∧
  ∃ (n11 : Int),
  World.cell? (World.drew w12) (Addr.add a 0) = some (.int .i64 n11) ∧
  ∃ (n12 : Int),
  World.cell? (World.drew w12) (Addr.add a 1) = some (.int .i64 n12) ∧
  ∃ (n13 : Int),
  World.cell? (World.drew w12) (Addr.add a 2) = some (.int .i64 n13) ∧
  ∃ (b2 : Bool),
  World.cell? (World.drew w12) (Addr.add a 3) = some (.bool b2) ∧
  ∃ (n14 : Int),
  World.cell? (World.drew w12) (Addr.add a 4) = some (.int .i64 n14) ∧
  ∃ (n15 : Int), World.cell? (World.drew w12) (Addr.add a 5) = some (.int .i64 n15) ∧ ∃ (p3 : Option Addr) (n16 c3 : Nat), World.cell? (World.drew w12) (Addr.add a 6) = some (.slice p3 n16 c3) ∧ newB (World.drew w12) [.int .i64 n11, .int .i64 n12, .int .i64 n13, .bool b2, .int .i64 n14, .int .i64 n15, .slice p3 n16 c3] 34 fun a6 w13 => (∃ (p4 : Option Addr) (n17 c4 : Nat), w13.cell? (Addr.add a5 1) = some (.slice p4 n17 c4) ∧ Value.slice p4 n17 c4 = .slice p2 n10 c2) ∧ ∃ (p4 : Option Addr) (n17 : Nat), ∃ (c4 : Nat) (w14 : World), Sem.run Tryz.prog (Builtin.append_ (Array.mk [24, 24]) 24 (Array.mk [.slice p2 n10 c2, .slice (some a6) 1 1])) w13 = Result.ok (.slice p4 n17 c4) w14 ∧ nn b fun a7 => st w14 (Addr.add (Addr.add a7 1) 0) (.slice p4 n17 c4) fun w15 => nn b fun a8 => ∃ (p5 : Option Addr) (n18 c5 : Nat), World.cell? (World.drew w15) (Addr.add a8 2) = some (.slice p5 n18 c5) ∧ ∃ (n19 : Int), World.cell? (World.drew w15) (Addr.add a4 0) = some (.int .i64 n19) ∧ ∃ (n20 : Int), World.cell? (World.drew w15) (Addr.add a4 1) = some (.int .i64 n20) ∧ ∃ (n21 : Int), World.cell? (World.drew w15) (Addr.add a4 2) = some (.int .i64 n21) ∧ ∃ (b3 : Bool), World.cell? (World.drew w15) (Addr.add a4 3) = some (.bool b3) ∧ ∃ (n22 : Int), World.cell? (World.drew w15) (Addr.add a4 4) = some (.int .i64 n22) ∧ ∃ (n23 : Int), World.cell? (World.drew w15) (Addr.add a4 5) = some (.int .i64 n23) ∧ ∃ (p6 : Option Addr) (n24 c6 : Nat), World.cell? (World.drew w15) (Addr.add a4 6) = some (.slice p6 n24 c6) ∧ newB (World.drew w15) [.int .i64 n19, .int .i64 n20, .int .i64 n21, .bool b3, .int .i64 n22, .int .i64 n23, .slice p6 n24 c6] 34 fun a9 w16 => (∃ (p7 : Option Addr) (n25 c7 : Nat), w16.cell? (Addr.add a8 2) = some (.slice p7 n25 c7) ∧ Value.slice p7 n25 c7 = .slice p5 n18 c5) ∧ ∃ (p7 : Option Addr) (n25 : Nat), ∃ (c7 : Nat) (w17 : World), Sem.run Tryz.prog (Builtin.append_ (Array.mk [24, 24]) 24 (Array.mk [.slice p5 n18 c5, .slice (some a9) 1 1])) w16 = Result.ok (.slice p7 n25 c7) w17 ∧ nn b fun a10 => st w17 (Addr.add (Addr.add a10 2) 0) (.slice p7 n25 c7) fun w18 => K (.tuple (Array.mk [])) w18))
set_option maxRecDepth 100000 in
theorem eq_longshorelaw17_book_take (b : Option Addr) (e_0 : Int) (e_1 : Int) (e_2 : Int) (e_3 : Bool) (e_4 : Int) (e_5 : Int) (e_6 : Option Addr) (e_6n : Nat) (e_6c : Nat) (w : World) (K : Value → World → Prop) : wpF Tryz.prog none Tryz.f33 (.two .leaf (.two .leaf (.two (.two .leaf (.two (.two .leaf .leaf) .leaf)) (.two .leaf (.two .leaf (.two (.two .leaf (.two (Ann.loop [((5 : Nat), VSh.cell (Sh.int IntKind.i64))] (.two (.two .leaf (.two .leaf .leaf)) (.two (.two (Ann.draw [(0 : Nat), (2 : Nat), (4 : Nat), (1 : Nat), (3 : Nat), (5 : Nat), (6 : Nat), (7 : Nat), (8 : Nat), (9 : Nat), (10 : Nat)]) .leaf) .leaf))) .leaf)) (.two (Ann.draw [(0 : Nat), (1 : Nat), (2 : Nat), (3 : Nat), (4 : Nat), (5 : Nat), (6 : Nat), (7 : Nat), (8 : Nat), (9 : Nat), (10 : Nat)]) (Ann.draw [(0 : Nat), (1 : Nat), (2 : Nat), (3 : Nat), (4 : Nat), (5 : Nat), (6 : Nat), (7 : Nat), (8 : Nat), (9 : Nat), (10 : Nat)])))))))) [Value.pointer b, Value.agg #[Value.int IntKind.i64 e_0, Value.int IntKind.i64 e_1, Value.int IntKind.i64 e_2, Value.bool e_3, Value.int IntKind.i64 e_4, Value.int IntKind.i64 e_5, Value.slice e_6 e_6n e_6c]] w K = wp_longshorelaw17_book_take b e_0 e_1 e_2 e_3 e_4 e_5 e_6 e_6n e_6c w K := by kernel_rfl
theorem ok_longshorelaw17_book_take {b : Option Addr} {e_0 : Int} {e_1 : Int} {e_2 : Int} {e_3 : Bool} {e_4 : Int} {e_5 : Int} {e_6 : Option Addr} {e_6n : Nat} {e_6c : Nat} {w : World} {K : Value → World → Prop} (hwp : wp_longshorelaw17_book_take b e_0 e_1 e_2 e_3 e_4 e_5 e_6 e_6n e_6c w K) : callP Tryz.prog 33 [.pointer b, .agg #[.int .i64 e_0, .int .i64 e_1, .int .i64 e_2, .bool e_3, .int .i64 e_4, .int .i64 e_5, .slice e_6 e_6n e_6c]] w K :=
  calls_of Tryz.func33 ((eq_longshorelaw17_book_take b e_0 e_1 e_2 e_3 e_4 e_5 e_6 e_6n e_6c w K).symm ▸ hwp)

/-- (longshore.longshorelaw17.book).takeNumbers -/
def wp_longshorelaw17_book_takeNumbers (b : Option Addr) (l : Option Addr) (ln : Nat) (lc : Nat) (w : World) (K : Value → World → Prop) : Prop :=
  ∃ (I : Nat → Option Addr → Nat → Nat → Int → World → Prop), (∃ (m : Nat), I m none 0 0 0 w) ∧ ∀ (m : Nat) (p : Option Addr) (n c : Nat) (n1 : Int) (w1 : World), I m p n c n1 w1 → Sif (decide (n1 < (↑ln : Int))) (0 ≤ n1 ∧ n1 < (↑ln : Int) ∧ nn l fun a => ∃ (n2 : Int), w1.cell? (Addr.add a (Int.toNat n1 * 1)) = some (.int .i64 n2) ∧ newB w1 [.int .i64 n2] 3 fun a1 w2 => ∃ (p1 : Option Addr) (n3 : Nat), ∃ (c1 : Nat) (w3 : World), Sem.run Tryz.prog (Builtin.append_ (Array.mk [44, 44]) 44 (Array.mk [.slice p n c, .slice (some a1) 1 1])) w2 = Result.ok (.slice p1 n3 c1) w3 ∧ nameI (IntKind.wrap .i64 (n1 + 1)) fun n4 => ∃ (m' : Nat), m' < m ∧ I m' p1 n3 c1 n4 w3) (nn b fun a => ∃ (p1 : Option Addr) (n2 c1 : Nat), w1.cell? (Addr.add a 4) = some (.slice p1 n2 c1) ∧ newB w1 [.slice l ln lc] 44 fun a1 w2 => ∃ (p2 : Option Addr) (n3 : Nat), ∃ (c2 : Nat) (w3 : World), Sem.run Tryz.prog (Builtin.append_ (Array.mk [37, 37]) 37 (Array.mk [.slice p1 n2 c1, .slice (some a1) 1 1])) w2 = Result.ok (.slice p2 n3 c2) w3 ∧ nn b fun a2 => st w3 (Addr.add (Addr.add a2 4) 0) (.slice p2 n3 c2) fun w4 => nn b fun a3 => ∃ (p3 : Option Addr) (n4 c3 : Nat), w4.cell? (Addr.add a3 5) = some (.slice p3 n4 c3) ∧ newB w4 [.slice p n c] 44 fun a4 w5 => ∃ (p4 : Option Addr) (n5 : Nat), ∃ (c4 : Nat) (w6 : World), Sem.run Tryz.prog (Builtin.append_ (Array.mk [37, 37]) 37 (Array.mk [.slice p3 n4 c3, .slice (some a4) 1 1])) w5 = Result.ok (.slice p4 n5 c4) w6 ∧ nn b fun a5 => st w6 (Addr.add (Addr.add a5 5) 0) (.slice p4 n5 c4) fun w7 => K (.tuple (Array.mk [])) w7)
set_option maxRecDepth 100000 in
theorem eq_longshorelaw17_book_takeNumbers (b : Option Addr) (l : Option Addr) (ln : Nat) (lc : Nat) (w : World) (K : Value → World → Prop) : wpF Tryz.prog none Tryz.f39 (.two .leaf (.two (.two .leaf (.two (Ann.loop [((4 : Nat), VSh.cell Sh.slice), ((5 : Nat), VSh.cell (Sh.int IntKind.i64))] (.two (.two .leaf (.two .leaf .leaf)) (.two (.two .leaf .leaf) .leaf))) .leaf)) (.two .leaf .leaf))) [Value.pointer b, Value.slice l ln lc] w K = wp_longshorelaw17_book_takeNumbers b l ln lc w K := by kernel_rfl
theorem ok_longshorelaw17_book_takeNumbers {b : Option Addr} {l : Option Addr} {ln : Nat} {lc : Nat} {w : World} {K : Value → World → Prop} (hwp : wp_longshorelaw17_book_takeNumbers b l ln lc w K) : callP Tryz.prog 39 [.pointer b, .slice l ln lc] w K :=
  calls_of Tryz.func39 ((eq_longshorelaw17_book_takeNumbers b l ln lc w K).symm ▸ hwp)

/-- (longshore.longshorelaw17.book).stands -/
def wp_longshorelaw17_book_stands (b : Option Addr) (w : World) (K : Value → World → Prop) : Prop :=
  newB w [.slice none 0 0] 86 fun a w1 =>
  ∃ (I : Nat → Int → World → Prop),
  (∃ (m : Nat), I m 0 w1) ∧
  ∀ (m : Nat) (n : Int) (w2 : World),
  I m n w2 →
  nn b fun a1 =>
  ∃ (p : Option Addr) (n1 c : Nat),
  w2.cell? (Addr.add a1 1) = some (.slice p n1 c) ∧
  Sif (decide (n < (↑n1 : Int)))
  (nn b fun a2 =>
  nn b fun a3 =>
  ∃ (p1 : Option Addr) (n2 c1 : Nat),
  World.cell? (World.drew w2) (Addr.add a2 1) = some (.slice p1 n2 c1) ∧
  0 ≤ n ∧
  n < (↑n2 : Int) ∧
  nn p1 fun a4 =>
  ∃ (n3 : Int),
  World.cell? (World.drew w2) (Addr.add (Addr.add a4 (Int.toNat n * 7)) 0) = some (.int .i64 n3) ∧
  ∃ (n4 : Int),
  World.cell? (World.drew w2) (Addr.add (Addr.add a4 (Int.toNat n * 7)) 1) = some (.int .i64 n4) ∧
  ∃ (n5 : Int),
  World.cell? (World.drew w2) (Addr.add (Addr.add a4 (Int.toNat n * 7)) 2) = some (.int .i64 n5) ∧
  ∃ (b1 : Bool), World.cell? (World.drew w2) (Addr.add (Addr.add a4 (Int.toNat n * 7)) 3) = some (.bool b1) ∧ ∃ (n6 : Int), World.cell? (World.drew w2) (Addr.add (Addr.add a4 (Int.toNat n * 7)) 4) = some (.int .i64 n6) ∧ ∃ (n7 : Int), World.cell? (World.drew w2) (Addr.add (Addr.add a4 (Int.toNat n * 7)) 5) = some (.int .i64 n7) ∧ ∃ (p2 : Option Addr) (n8 c2 : Nat), World.cell? (World.drew w2) (Addr.add (Addr.add a4 (Int.toNat n * 7)) 6) = some (.slice p2 n8 c2) ∧ ∃ (p3 : Option Addr) (n9 c3 : Nat), World.cell? (World.drew w2) (Addr.add a3 2) = some (.slice p3 n9 c3) ∧ 0 ≤ n ∧ n < (↑n9 : Int) ∧ nn p3 fun a5 => ∃ (n10 : Int), World.cell? (World.drew w2) (Addr.add (Addr.add a5 (Int.toNat n * 7)) 0) = some (.int .i64 n10) ∧ ∃ (n11 : Int), World.cell? (World.drew w2) (Addr.add (Addr.add a5 (Int.toNat n * 7)) 1) = some (.int .i64 n11) ∧ ∃ (n12 : Int), World.cell? (World.drew w2) (Addr.add (Addr.add a5 (Int.toNat n * 7)) 2) = some (.int .i64 n12) ∧ ∃ (b2 : Bool), World.cell? (World.drew w2) (Addr.add (Addr.add a5 (Int.toNat n * 7)) 3) = some (.bool b2) ∧ ∃ (n13 : Int), World.cell? (World.drew w2) (Addr.add (Addr.add a5 (Int.toNat n * 7)) 4) = some (.int .i64 n13) ∧ ∃ (n14 : Int), World.cell? (World.drew w2) (Addr.add (Addr.add a5 (Int.toNat n * 7)) 5) = some (.int .i64 n14) ∧ ∃ (p4 : Option Addr) (n15 c4 : Nat), World.cell? (World.drew w2) (Addr.add (Addr.add a5 (Int.toNat n * 7)) 6) = some (.slice p4 n15 c4) ∧ callP Tryz.prog 11 [.agg (Array.mk [.int .i64 n3, .int .i64 n4, .int .i64 n5, .bool b1, .int .i64 n6, .int .i64 n7, .slice p2 n8 c2]), .agg (Array.mk [.int .i64 n10, .int .i64 n11, .int .i64 n12, .bool b2, .int .i64 n13, .int .i64 n14, .slice p4 n15 c4])] (World.drew w2) fun v w3 => ∃ (b3 : Bool), v = .bool b3 ∧ Sif (!b3) (K (.bool false) w3) (nn b fun a6 => ∃ (p5 : Option Addr) (n16 c5 : Nat), w3.cell? (Addr.add a6 1) = some (.slice p5 n16 c5) ∧ 0 ≤ n ∧ n < (↑n16 : Int) ∧ nn p5 fun a7 => ∃ (p6 : Option Addr) (n17 c6 : Nat), w3.cell? (Addr.add (Addr.add a7 (Int.toNat n * 7)) 6) = some (.slice p6 n17 c6) ∧ callP Tryz.prog 43 [.pointer (some a), .slice p6 n17 c6] w3 fun v1 w4 => v1 = .tuple (Array.mk []) ∧ nameI (IntKind.wrap .i64 (n + 1)) fun n18 => ∃ (m' : Nat), m' < m ∧ I m' n18 w4))
  (∃ (I1 : Nat → Int → World → Prop), (∃ (m1 : Nat), I1 m1 0 w2) ∧ ∀ (m1 : Nat) (n2 : Int) (w3 : World), I1 m1 n2 w3 → nn b fun a2 => ∃ (p1 : Option Addr) (n3 c1 : Nat), w3.cell? (Addr.add a2 4) = some (.slice p1 n3 c1) ∧ Sif (decide (n2 < (↑n3 : Int))) (nn b fun a3 => nn b fun a4 => ∃ (p2 : Option Addr) (n4 c2 : Nat), World.cell? (World.drew w3) (Addr.add a3 4) = some (.slice p2 n4 c2) ∧ 0 ≤ n2 ∧ n2 < (↑n4 : Int) ∧ nn p2 fun a5 => ∃ (p3 : Option Addr) (n5 c3 : Nat), World.cell? (World.drew w3) (Addr.add a5 (Int.toNat n2 * 1)) = some (.slice p3 n5 c3) ∧ ∃ (p4 : Option Addr) (n6 c4 : Nat), World.cell? (World.drew w3) (Addr.add a4 5) = some (.slice p4 n6 c4) ∧ 0 ≤ n2 ∧ n2 < (↑n6 : Int) ∧ nn p4 fun a6 => ∃ (p5 : Option Addr) (n7 c5 : Nat), World.cell? (World.drew w3) (Addr.add a6 (Int.toNat n2 * 1)) = some (.slice p5 n7 c5) ∧ callP Tryz.prog 38 [.slice p3 n5 c3, .slice p5 n7 c5] (World.drew w3) fun v w4 => ∃ (b1 : Bool), v = .bool b1 ∧ Sif (!b1) (K (.bool false) w4) (nameI (IntKind.wrap .i64 (n2 + 1)) fun n8 => ∃ (m' : Nat), m' < m1 ∧ I1 m' n8 w4)) (callP Tryz.prog 44 [.pointer (some a)] w3 fun v w4 => ∃ (b1 : Bool), v = .bool b1 ∧ callP Tryz.prog 45 [.pointer b] w4 fun v1 w5 => ∃ (b2 : Bool), v1 = .bool b2 ∧ callP Tryz.prog 46 [.pointer b] w5 fun v2 w6 => ∃ (b3 : Bool), v2 = .bool b3 ∧ Sif b1 (Sif b2 (K (.bool b3) w6) (K (.bool false) w6)) (K (.bool false) w6)))
set_option maxRecDepth 100000 in
theorem eq_longshorelaw17_book_stands (b : Option Addr) (w : World) (K : Value → World → Prop) : wpF Tryz.prog none Tryz.f15 (.two .leaf (.two .leaf (.two (.two .leaf (.two (Ann.loop [((4 : Nat), VSh.cell (Sh.int IntKind.i64))] (.two (.two .leaf (.two .leaf .leaf)) (.two (.two (.two (Ann.draw [(0 : Nat), (1 : Nat), (2 : Nat), (4 : Nat), (7 : Nat), (8 : Nat), (9 : Nat), (11 : Nat), (3 : Nat), (5 : Nat), (6 : Nat), (10 : Nat), (12 : Nat), (13 : Nat), (14 : Nat), (15 : Nat)]) (.two (.two .leaf (.two (.two .leaf .leaf) .leaf)) .leaf)) .leaf) .leaf))) .leaf)) (.two (.two .leaf (.two (Ann.loop [((6 : Nat), VSh.cell (Sh.int IntKind.i64))] (.two (.two .leaf (.two .leaf .leaf)) (.two (.two (.two (Ann.draw [(0 : Nat), (1 : Nat), (2 : Nat), (4 : Nat), (7 : Nat), (8 : Nat), (9 : Nat), (11 : Nat), (3 : Nat), (5 : Nat), (6 : Nat), (10 : Nat), (12 : Nat), (13 : Nat), (14 : Nat), (15 : Nat)]) (.two .leaf (.two (.two .leaf .leaf) .leaf))) .leaf) .leaf))) .leaf)) (.two .leaf (.two .leaf (.two .leaf (.two .leaf .leaf)))))))) [Value.pointer b] w K = wp_longshorelaw17_book_stands b w K := by kernel_rfl
theorem ok_longshorelaw17_book_stands {b : Option Addr} {w : World} {K : Value → World → Prop} (hwp : wp_longshorelaw17_book_stands b w K) : callP Tryz.prog 15 [.pointer b] w K :=
  calls_of Tryz.func15 ((eq_longshorelaw17_book_stands b w K).symm ▸ hwp)

/-- (longshore.longshorelaw17.book).lists -/
def wp_longshorelaw17_book_lists (b : Option Addr) (w : World) (K : Value → World → Prop) : Prop :=
  ∃ (I : Nat → Int → World → Prop),
  (∃ (m : Nat), I m 0 w) ∧
  ∀ (m : Nat) (n : Int) (w1 : World),
  I m n w1 →
  nn b fun a =>
  ∃ (p : Option Addr) (n1 c : Nat),
  w1.cell? (Addr.add a 3) = some (.slice p n1 c) ∧
  Sif (decide (n < (↑n1 : Int))) (∃ (I1 : Nat → Int → World → Prop), (∃ (m1 : Nat), I1 m1 0 w1) ∧ ∀ (m1 : Nat) (n2 : Int) (w2 : World), I1 m1 n2 w2 → nn b fun a1 => ∃ (p1 : Option Addr) (n3 c1 : Nat), w2.cell? (Addr.add a1 3) = some (.slice p1 n3 c1) ∧ 0 ≤ n ∧ n < (↑n3 : Int) ∧ nn p1 fun a2 => ∃ (p2 : Option Addr) (n4 c2 : Nat), w2.cell? (Addr.add a2 (Int.toNat n * 1)) = some (.slice p2 n4 c2) ∧ Sif (decide (n2 < (↑n4 : Int))) (nn b fun a3 => ∃ (p3 : Option Addr) (n5 c3 : Nat), w2.cell? (Addr.add a3 3) = some (.slice p3 n5 c3) ∧ 0 ≤ n ∧ n < (↑n5 : Int) ∧ nn p3 fun a4 => ∃ (p4 : Option Addr) (n6 c4 : Nat), w2.cell? (Addr.add a4 (Int.toNat n * 1)) = some (.slice p4 n6 c4) ∧ 0 ≤ n2 ∧ n2 < (↑n6 : Int) ∧ nn p4 fun a5 => st w2 (Addr.add (Addr.add a5 (Int.toNat n2 * 7)) 0) (.int .i64 (IntKind.wrap .i64 ((-1000) - n))) fun w3 => st w3 (Addr.add (Addr.add a5 (Int.toNat n2 * 7)) 1) (.int .i64 0) fun w4 => st w4 (Addr.add (Addr.add a5 (Int.toNat n2 * 7)) 2) (.int .i64 0) fun w5 => st w5 (Addr.add (Addr.add a5 (Int.toNat n2 * 7)) 3) (.bool false) fun w6 => st w6 (Addr.add (Addr.add a5 (Int.toNat n2 * 7)) 4) (.int .i64 0) fun w7 => st w7 (Addr.add (Addr.add a5 (Int.toNat n2 * 7)) 5) (.int .i64 0) fun w8 => st w8 (Addr.add (Addr.add a5 (Int.toNat n2 * 7)) 6) (.slice none 0 0) fun w9 => nameI (IntKind.wrap .i64 (n2 + 1)) fun n7 => ∃ (m' : Nat), m' < m1 ∧ I1 m' n7 w9) (nameI (IntKind.wrap .i64 (n + 1)) fun n5 => ∃ (m' : Nat), m' < m ∧ I m' n5 w2))
  (∃ (I1 : Nat → Option Addr → Nat → Nat → Int → World → Prop),
  (∃ (m1 : Nat), I1 m1 none 0 0 0 w1) ∧
  ∀ (m1 : Nat) (p1 : Option Addr) (n2 c1 : Nat) (n3 : Int) (w2 : World),
  I1 m1 p1 n2 c1 n3 w2 →
  nn b fun a1 =>
  ∃ (p2 : Option Addr) (n4 c2 : Nat),
  w2.cell? (Addr.add a1 3) = some (.slice p2 n4 c2) ∧
  Sif (decide (n3 < (↑n4 : Int))) (nn b fun a2 => ∃ (p3 : Option Addr) (n5 c3 : Nat), w2.cell? (Addr.add a2 3) = some (.slice p3 n5 c3) ∧ 0 ≤ n3 ∧ n3 < (↑n5 : Int) ∧ nn p3 fun a3 => ∃ (p4 : Option Addr) (n6 c4 : Nat), w2.cell? (Addr.add a3 (Int.toNat n3 * 1)) = some (.slice p4 n6 c4) ∧ ∃ (I2 : Nat → Option Addr → Nat → Nat → Option Addr → Nat → Nat → Int → World → Prop), (∃ (m2 : Nat), I2 m2 p1 n2 c1 p4 n6 c4 0 w2) ∧ ∀ (m2 : Nat) (p5 : Option Addr) (n7 c5 : Nat) (p6 : Option Addr) (n8 c6 : Nat) (n9 : Int) (w3 : World), I2 m2 p5 n7 c5 p6 n8 c6 n9 w3 → Sif (decide (n9 < 8)) (newB w3 [.int .i64 (IntKind.wrap .i64 ((-1000) - n3)), .int .i64 0, .int .i64 0, .bool false, .int .i64 0, .int .i64 0, .slice none 0 0] 34 fun a4 w4 => ∃ (p7 : Option Addr) (n10 : Nat), ∃ (c7 : Nat) (w5 : World), Sem.run Tryz.prog (Builtin.append_ (Array.mk [24, 24]) 24 (Array.mk [.slice p6 n8 c6, .slice (some a4) 1 1])) w4 = Result.ok (.slice p7 n10 c7) w5 ∧ newB w5 [.slice p7 n10 c7] 24 fun a5 w6 => ∃ (p8 : Option Addr) (n11 : Nat), ∃ (c8 : Nat) (w7 : World), Sem.run Tryz.prog (Builtin.append_ (Array.mk [36, 36]) 36 (Array.mk [.slice p5 n7 c5, .slice (some a5) 1 1])) w6 = Result.ok (.slice p8 n11 c8) w7 ∧ nameI (IntKind.wrap .i64 (n9 + 1)) fun n12 => ∃ (m' : Nat), m' < m2 ∧ I2 m' p8 n11 c8 p7 n10 c7 n12 w7) (nn b fun a4 => ∃ (p7 : Option Addr) (n10 c7 : Nat), w3.cell? (Addr.add a4 3) = some (.slice p7 n10 c7) ∧ 0 ≤ n3 ∧ n3 < (↑n10 : Int) ∧ nn p7 fun a5 => ∃ (p8 : Option Addr) (n11 c8 : Nat), w3.cell? (Addr.add a5 (Int.toNat n3 * 1)) = some (.slice p8 n11 c8) ∧ newB w3 [.slice p8 n11 c8] 24 fun a6 w4 => ∃ (p9 : Option Addr) (n12 : Nat), ∃ (c9 : Nat) (w5 : World), Sem.run Tryz.prog (Builtin.append_ (Array.mk [36, 36]) 36 (Array.mk [.slice p5 n7 c5, .slice (some a6) 1 1])) w4 = Result.ok (.slice p9 n12 c9) w5 ∧ nameI (IntKind.wrap .i64 (n3 + 1)) fun n13 => ∃ (m' : Nat), m' < m1 ∧ I1 m' p9 n12 c9 n13 w5))
  (∃ (I2 : Nat → Int → World → Prop), (∃ (m2 : Nat), I2 m2 0 w2) ∧ ∀ (m2 : Nat) (n5 : Int) (w3 : World), I2 m2 n5 w3 → Sif (decide (n5 < (↑n2 : Int))) (∃ (I3 : Nat → Int → World → Prop), (∃ (m3 : Nat), I3 m3 0 w3) ∧ ∀ (m3 : Nat) (n6 : Int) (w4 : World), I3 m3 n6 w4 → 0 ≤ n5 ∧ n5 < (↑n2 : Int) ∧ nn p1 fun a2 => ∃ (p3 : Option Addr) (n7 c3 : Nat), w4.cell? (Addr.add a2 (Int.toNat n5 * 1)) = some (.slice p3 n7 c3) ∧ Sif (decide (n6 < (↑n7 : Int))) (0 ≤ n5 ∧ n5 < (↑n2 : Int) ∧ nn p1 fun a3 => ∃ (p4 : Option Addr) (n8 c4 : Nat), w4.cell? (Addr.add a3 (Int.toNat n5 * 1)) = some (.slice p4 n8 c4) ∧ 0 ≤ n6 ∧ n6 < (↑n8 : Int) ∧ nn p4 fun a4 => ∃ (n9 : Int), w4.cell? (Addr.add (Addr.add a4 (Int.toNat n6 * 7)) 0) = some (.int .i64 n9) ∧ (9 : Int) ≠ (0 : Int) ∧ Sif (n9 != IntKind.wrap .i64 ((-1000) - IntKind.wrap .i64 (Int.tdiv n5 9))) (K (.bool false) w4) (nameI (IntKind.wrap .i64 (n6 + 1)) fun n10 => ∃ (m' : Nat), m' < m3 ∧ I3 m' n10 w4)) (nameI (IntKind.wrap .i64 (n5 + 1)) fun n8 => ∃ (m' : Nat), m' < m2 ∧ I2 m' n8 w4)) (K (.bool true) w3)))
set_option maxRecDepth 100000 in
theorem eq_longshorelaw17_book_lists (b : Option Addr) (w : World) (K : Value → World → Prop) : wpF Tryz.prog none Tryz.f45 (.two .leaf (.two (.two .leaf (.two (Ann.loop [((3 : Nat), VSh.cell (Sh.int IntKind.i64))] (.two (.two .leaf (.two .leaf .leaf)) (.two (.two (.two .leaf (.two (Ann.loop [((4 : Nat), VSh.cell (Sh.int IntKind.i64))] (.two (.two .leaf (.two .leaf .leaf)) (.two (.two .leaf .leaf) .leaf))) .leaf)) .leaf) .leaf))) .leaf)) (.two .leaf (.two (.two .leaf (.two (Ann.loop [((5 : Nat), VSh.cell Sh.slice), ((6 : Nat), VSh.cell (Sh.int IntKind.i64))] (.two (.two .leaf (.two .leaf .leaf)) (.two (.two (.two .leaf (.two (.two .leaf (.two (Ann.loop [((5 : Nat), VSh.cell Sh.slice), ((7 : Nat), VSh.cell Sh.slice), ((8 : Nat), VSh.cell (Sh.int IntKind.i64))] (.two (.two .leaf (.two .leaf .leaf)) (.two (.two (.two .leaf .leaf) .leaf) .leaf))) .leaf)) .leaf)) .leaf) .leaf))) .leaf)) (.two (.two .leaf (.two (Ann.loop [((9 : Nat), VSh.cell (Sh.int IntKind.i64))] (.two (.two .leaf (.two .leaf .leaf)) (.two (.two (.two .leaf (.two (Ann.loop [((10 : Nat), VSh.cell (Sh.int IntKind.i64))] (.two (.two .leaf (.two .leaf .leaf)) (.two (.two (.two .leaf (.two (.two .leaf .leaf) .leaf)) .leaf) .leaf))) .leaf)) .leaf) .leaf))) .leaf)) (.two .leaf .leaf)))))) [Value.pointer b] w K = wp_longshorelaw17_book_lists b w K := by kernel_rfl
theorem ok_longshorelaw17_book_lists {b : Option Addr} {w : World} {K : Value → World → Prop} (hwp : wp_longshorelaw17_book_lists b w K) : callP Tryz.prog 45 [.pointer b] w K :=
  calls_of Tryz.func45 ((eq_longshorelaw17_book_lists b w K).symm ▸ hwp)

/-- (longshore.longshorelaw17.book).numbers -/
def wp_longshorelaw17_book_numbers (b : Option Addr) (w : World) (K : Value → World → Prop) : Prop :=
  ∃ (I : Nat → Int → World → Prop),
  (∃ (m : Nat), I m 0 w) ∧
  ∀ (m : Nat) (n : Int) (w1 : World),
  I m n w1 →
  nn b fun a =>
  ∃ (p : Option Addr) (n1 c : Nat),
  w1.cell? (Addr.add a 4) = some (.slice p n1 c) ∧
  Sif (decide (n < (↑n1 : Int))) (∃ (I1 : Nat → Int → World → Prop), (∃ (m1 : Nat), I1 m1 0 w1) ∧ ∀ (m1 : Nat) (n2 : Int) (w2 : World), I1 m1 n2 w2 → nn b fun a1 => ∃ (p1 : Option Addr) (n3 c1 : Nat), w2.cell? (Addr.add a1 4) = some (.slice p1 n3 c1) ∧ 0 ≤ n ∧ n < (↑n3 : Int) ∧ nn p1 fun a2 => ∃ (p2 : Option Addr) (n4 c2 : Nat), w2.cell? (Addr.add a2 (Int.toNat n * 1)) = some (.slice p2 n4 c2) ∧ Sif (decide (n2 < (↑n4 : Int))) (nn b fun a3 => ∃ (p3 : Option Addr) (n5 c3 : Nat), w2.cell? (Addr.add a3 4) = some (.slice p3 n5 c3) ∧ 0 ≤ n ∧ n < (↑n5 : Int) ∧ nn p3 fun a4 => ∃ (p4 : Option Addr) (n6 c4 : Nat), w2.cell? (Addr.add a4 (Int.toNat n * 1)) = some (.slice p4 n6 c4) ∧ 0 ≤ n2 ∧ n2 < (↑n6 : Int) ∧ nn p4 fun a5 => st w2 (Addr.add (Addr.add a5 (Int.toNat n2 * 1)) 0) (.int .i64 (IntKind.wrap .i64 ((-1000) - n))) fun w3 => nameI (IntKind.wrap .i64 (n2 + 1)) fun n7 => ∃ (m' : Nat), m' < m1 ∧ I1 m' n7 w3) (nameI (IntKind.wrap .i64 (n + 1)) fun n5 => ∃ (m' : Nat), m' < m ∧ I m' n5 w2))
  (∃ (I1 : Nat → Option Addr → Nat → Nat → Int → World → Prop),
  (∃ (m1 : Nat), I1 m1 none 0 0 0 w1) ∧
  ∀ (m1 : Nat) (p1 : Option Addr) (n2 c1 : Nat) (n3 : Int) (w2 : World),
  I1 m1 p1 n2 c1 n3 w2 →
  nn b fun a1 =>
  ∃ (p2 : Option Addr) (n4 c2 : Nat),
  w2.cell? (Addr.add a1 4) = some (.slice p2 n4 c2) ∧
  Sif (decide (n3 < (↑n4 : Int))) (nn b fun a2 => ∃ (p3 : Option Addr) (n5 c3 : Nat), w2.cell? (Addr.add a2 4) = some (.slice p3 n5 c3) ∧ 0 ≤ n3 ∧ n3 < (↑n5 : Int) ∧ nn p3 fun a3 => ∃ (p4 : Option Addr) (n6 c4 : Nat), w2.cell? (Addr.add a3 (Int.toNat n3 * 1)) = some (.slice p4 n6 c4) ∧ ∃ (I2 : Nat → Option Addr → Nat → Nat → Option Addr → Nat → Nat → Int → World → Prop), (∃ (m2 : Nat), I2 m2 p1 n2 c1 p4 n6 c4 0 w2) ∧ ∀ (m2 : Nat) (p5 : Option Addr) (n7 c5 : Nat) (p6 : Option Addr) (n8 c6 : Nat) (n9 : Int) (w3 : World), I2 m2 p5 n7 c5 p6 n8 c6 n9 w3 → Sif (decide (n9 < 8)) (newB w3 [.int .i64 (IntKind.wrap .i64 ((-1000) - n3))] 3 fun a4 w4 => ∃ (p7 : Option Addr) (n10 : Nat), ∃ (c7 : Nat) (w5 : World), Sem.run Tryz.prog (Builtin.append_ (Array.mk [44, 44]) 44 (Array.mk [.slice p6 n8 c6, .slice (some a4) 1 1])) w4 = Result.ok (.slice p7 n10 c7) w5 ∧ newB w5 [.slice p7 n10 c7] 44 fun a5 w6 => ∃ (p8 : Option Addr) (n11 : Nat), ∃ (c8 : Nat) (w7 : World), Sem.run Tryz.prog (Builtin.append_ (Array.mk [37, 37]) 37 (Array.mk [.slice p5 n7 c5, .slice (some a5) 1 1])) w6 = Result.ok (.slice p8 n11 c8) w7 ∧ nameI (IntKind.wrap .i64 (n9 + 1)) fun n12 => ∃ (m' : Nat), m' < m2 ∧ I2 m' p8 n11 c8 p7 n10 c7 n12 w7) (nn b fun a4 => ∃ (p7 : Option Addr) (n10 c7 : Nat), w3.cell? (Addr.add a4 4) = some (.slice p7 n10 c7) ∧ 0 ≤ n3 ∧ n3 < (↑n10 : Int) ∧ nn p7 fun a5 => ∃ (p8 : Option Addr) (n11 c8 : Nat), w3.cell? (Addr.add a5 (Int.toNat n3 * 1)) = some (.slice p8 n11 c8) ∧ newB w3 [.slice p8 n11 c8] 44 fun a6 w4 => ∃ (p9 : Option Addr) (n12 : Nat), ∃ (c9 : Nat) (w5 : World), Sem.run Tryz.prog (Builtin.append_ (Array.mk [37, 37]) 37 (Array.mk [.slice p5 n7 c5, .slice (some a6) 1 1])) w4 = Result.ok (.slice p9 n12 c9) w5 ∧ nameI (IntKind.wrap .i64 (n3 + 1)) fun n13 => ∃ (m' : Nat), m' < m1 ∧ I1 m' p9 n12 c9 n13 w5))
  (∃ (I2 : Nat → Int → World → Prop), (∃ (m2 : Nat), I2 m2 0 w2) ∧ ∀ (m2 : Nat) (n5 : Int) (w3 : World), I2 m2 n5 w3 → Sif (decide (n5 < (↑n2 : Int))) (∃ (I3 : Nat → Int → World → Prop), (∃ (m3 : Nat), I3 m3 0 w3) ∧ ∀ (m3 : Nat) (n6 : Int) (w4 : World), I3 m3 n6 w4 → 0 ≤ n5 ∧ n5 < (↑n2 : Int) ∧ nn p1 fun a2 => ∃ (p3 : Option Addr) (n7 c3 : Nat), w4.cell? (Addr.add a2 (Int.toNat n5 * 1)) = some (.slice p3 n7 c3) ∧ Sif (decide (n6 < (↑n7 : Int))) (0 ≤ n5 ∧ n5 < (↑n2 : Int) ∧ nn p1 fun a3 => ∃ (p4 : Option Addr) (n8 c4 : Nat), w4.cell? (Addr.add a3 (Int.toNat n5 * 1)) = some (.slice p4 n8 c4) ∧ 0 ≤ n6 ∧ n6 < (↑n8 : Int) ∧ nn p4 fun a4 => ∃ (n9 : Int), w4.cell? (Addr.add a4 (Int.toNat n6 * 1)) = some (.int .i64 n9) ∧ (9 : Int) ≠ (0 : Int) ∧ Sif (n9 != IntKind.wrap .i64 ((-1000) - IntKind.wrap .i64 (Int.tdiv n5 9))) (K (.bool false) w4) (nameI (IntKind.wrap .i64 (n6 + 1)) fun n10 => ∃ (m' : Nat), m' < m3 ∧ I3 m' n10 w4)) (nameI (IntKind.wrap .i64 (n5 + 1)) fun n8 => ∃ (m' : Nat), m' < m2 ∧ I2 m' n8 w4)) (K (.bool true) w3)))
set_option maxRecDepth 100000 in
theorem eq_longshorelaw17_book_numbers (b : Option Addr) (w : World) (K : Value → World → Prop) : wpF Tryz.prog none Tryz.f46 (.two .leaf (.two (.two .leaf (.two (Ann.loop [((3 : Nat), VSh.cell (Sh.int IntKind.i64))] (.two (.two .leaf (.two .leaf .leaf)) (.two (.two (.two .leaf (.two (Ann.loop [((4 : Nat), VSh.cell (Sh.int IntKind.i64))] (.two (.two .leaf (.two .leaf .leaf)) (.two (.two .leaf .leaf) .leaf))) .leaf)) .leaf) .leaf))) .leaf)) (.two .leaf (.two (.two .leaf (.two (Ann.loop [((5 : Nat), VSh.cell Sh.slice), ((6 : Nat), VSh.cell (Sh.int IntKind.i64))] (.two (.two .leaf (.two .leaf .leaf)) (.two (.two (.two .leaf (.two (.two .leaf (.two (Ann.loop [((5 : Nat), VSh.cell Sh.slice), ((7 : Nat), VSh.cell Sh.slice), ((8 : Nat), VSh.cell (Sh.int IntKind.i64))] (.two (.two .leaf (.two .leaf .leaf)) (.two (.two (.two .leaf .leaf) .leaf) .leaf))) .leaf)) .leaf)) .leaf) .leaf))) .leaf)) (.two (.two .leaf (.two (Ann.loop [((9 : Nat), VSh.cell (Sh.int IntKind.i64))] (.two (.two .leaf (.two .leaf .leaf)) (.two (.two (.two .leaf (.two (Ann.loop [((10 : Nat), VSh.cell (Sh.int IntKind.i64))] (.two (.two .leaf (.two .leaf .leaf)) (.two (.two (.two .leaf (.two (.two .leaf .leaf) .leaf)) .leaf) .leaf))) .leaf)) .leaf) .leaf))) .leaf)) (.two .leaf .leaf)))))) [Value.pointer b] w K = wp_longshorelaw17_book_numbers b w K := by kernel_rfl
theorem ok_longshorelaw17_book_numbers {b : Option Addr} {w : World} {K : Value → World → Prop} (hwp : wp_longshorelaw17_book_numbers b w K) : callP Tryz.prog 46 [.pointer b] w K :=
  calls_of Tryz.func46 ((eq_longshorelaw17_book_numbers b w K).symm ▸ hwp)

/-- (longshore.longshorelaw17.fitter).fits -/
def wp_longshorelaw17_fitter_fits (f : Option Addr) (e_0 : Int) (e_1 : Int) (e_2 : Int) (e_3 : Bool) (e_4 : Int) (e_5 : Int) (e_6 : Option Addr) (e_6n : Nat) (e_6c : Nat) (w : World) (K : Value → World → Prop) : Prop :=
  newB w [.int .i64 e_0, .int .i64 e_1, .int .i64 e_2, .bool e_3, .int .i64 e_4, .int .i64 e_5, .slice e_6 e_6n e_6c] 34 fun a w1 =>
  nn f fun a1 =>
  ∃ (p : Option Addr) (n c : Nat),
  World.cell? (World.drew w1) (Addr.add a1 3) = some (.slice p n c) ∧
  ∃ (n1 : Int),
  World.cell? (World.drew w1) (Addr.add a 0) = some (.int .i64 n1) ∧
  newB (World.drew w1) [.int .i64 n1] 3 fun a2 w2 =>
  (∃ (p1 : Option Addr) (n2 c1 : Nat), w2.cell? (Addr.add a1 3) = some (.slice p1 n2 c1) ∧ Value.slice p1 n2 c1 = .slice p n c) ∧
  ∃ (p1 : Option Addr) (n2 : Nat),
  ∃ (c1 : Nat) (w3 : World),
  Sem.run Tryz.prog (Builtin.append_ (Array.mk [44, 44]) 44 (Array.mk [.slice p n c, .slice (some a2) 1 1])) w2 = Result.ok (.slice p1 n2 c1) w3 ∧
  nn f fun a3 =>
  st w3 (Addr.add (Addr.add a3 3) 0) (.slice p1 n2 c1) fun w4 =>
  ∃ (I : Nat → Bool → Int → World → Prop),
  (∃ (m : Nat), I m false 0 w4) ∧
  ∀ (m : Nat) (b : Bool) (n3 : Int) (w5 : World),
  I m b n3 w5 →
  nn f fun a4 =>
  ∃ (p2 : Option Addr),
  w5.cell? (Addr.add a4 4) = some (.pointer p2) ∧
  nn p2 fun a5 =>
  ∃ (p3 : Option Addr) (n4 c2 : Nat),
  w5.cell? (Addr.add a5 5) = some (.slice p3 n4 c2) ∧
  Sif (decide (n3 < (↑n4 : Int)))
  (∃ (J : Bool → World → Prop),
  (∀ (b1 : Bool) (w6 : World), J b1 w6 → nameI (IntKind.wrap .i64 (n3 + 1)) fun n5 => ∃ (m' : Nat), m' < m ∧ I m' b1 n5 w6) ∧
  nn f fun a6 =>
  ∃ (p4 : Option Addr),
  World.cell? (World.drew w5) (Addr.add a6 4) = some (.pointer p4) ∧
  nn p4 fun a7 =>
  ∃ (p5 : Option Addr) (n5 c3 : Nat),
  World.cell? (World.drew w5) (Addr.add a7 5) = some (.slice p5 n5 c3) ∧
  0 ≤ n3 ∧
  n3 < (↑n5 : Int) ∧
  nn p5 fun a8 =>
  ∃ (n6 : Int),
  World.cell? (World.drew w5) (Addr.add (Addr.add a8 (Int.toNat n3 * 7)) 0) = some (.int .i64 n6) ∧
  ∃ (n7 : Int),
  World.cell? (World.drew w5) (Addr.add a 0) = some (.int .i64 n7) ∧
  Sif (n6 == n7) (nn f fun a9 => ∃ (n8 : Int), World.cell? (World.drew (World.drew w5)) (Addr.add a 0) = some (.int .i64 n8) ∧ ∃ (n9 : Int), World.cell? (World.drew (World.drew w5)) (Addr.add a 1) = some (.int .i64 n9) ∧ ∃ (n10 : Int), World.cell? (World.drew (World.drew w5)) (Addr.add a 2) = some (.int .i64 n10) ∧ ∃ (b1 : Bool), World.cell? (World.drew (World.drew w5)) (Addr.add a 3) = some (.bool b1) ∧ ∃ (n11 : Int), World.cell? (World.drew (World.drew w5)) (Addr.add a 4) = some (.int .i64 n11) ∧ ∃ (n12 : Int), World.cell? (World.drew (World.drew w5)) (Addr.add a 5) = some (.int .i64 n12) ∧ ∃ (p6 : Option Addr) (n13 c4 : Nat), World.cell? (World.drew (World.drew w5)) (Addr.add a 6) = some (.slice p6 n13 c4) ∧ ∃ (p7 : Option Addr), World.cell? (World.drew (World.drew w5)) (Addr.add a9 4) = some (.pointer p7) ∧ nn p7 fun a10 => ∃ (p8 : Option Addr) (n14 c5 : Nat), World.cell? (World.drew (World.drew w5)) (Addr.add a10 5) = some (.slice p8 n14 c5) ∧ 0 ≤ n3 ∧ n3 < (↑n14 : Int) ∧ nn p8 fun a11 => ∃ (n15 : Int), World.cell? (World.drew (World.drew w5)) (Addr.add (Addr.add a11 (Int.toNat n3 * 7)) 0) = some (.int .i64 n15) ∧ ∃ (n16 : Int), World.cell? (World.drew (World.drew w5)) (Addr.add (Addr.add a11 (Int.toNat n3 * 7)) 1) = some (.int .i64 n16) ∧ ∃ (n17 : Int), World.cell? (World.drew (World.drew w5)) (Addr.add (Addr.add a11 (Int.toNat n3 * 7)) 2) = some (.int .i64 n17) ∧ ∃ (b2 : Bool), World.cell? (World.drew (World.drew w5)) (Addr.add (Addr.add a11 (Int.toNat n3 * 7)) 3) = some (.bool b2) ∧ ∃ (n18 : Int), World.cell? (World.drew (World.drew w5)) (Addr.add (Addr.add a11 (Int.toNat n3 * 7)) 4) = some (.int .i64 n18) ∧ ∃ (n19 : Int), World.cell? (World.drew (World.drew w5)) (Addr.add (Addr.add a11 (Int.toNat n3 * 7)) 5) = some (.int .i64 n19) ∧ ∃ (p9 : Option Addr) (n20 c6 : Nat), World.cell? (World.drew (World.drew w5)) (Addr.add (Addr.add a11 (Int.toNat n3 * 7)) 6) = some (.slice p9 n20 c6) ∧ callP Tryz.prog 11 [.agg (Array.mk [.int .i64 n8, .int .i64 n9, .int .i64 n10, .bool b1, .int .i64 n11, .int .i64 n12, .slice p6 n13 c4]), .agg (Array.mk [.int .i64 n15, .int .i64 n16, .int .i64 n17, .bool b2, .int .i64 n18, .int .i64 n19, .slice p9 n20 c6])] (World.drew (World.drew w5)) fun v w6 => ∃ (b3 : Bool), v = .bool b3 ∧ J b3 w6) (J b (World.drew w5)))
  (∃ (J : World → Prop), (∀ (w6 : World), J w6 → nn f fun a6 => ∃ (p4 : Option Addr), World.cell? (World.drew w6) (Addr.add a6 0) = some (.pointer p4) ∧ ∃ (n5 : Int), World.cell? (World.drew w6) (Addr.add a 0) = some (.int .i64 n5) ∧ ∃ (n6 : Int), World.cell? (World.drew w6) (Addr.add a 1) = some (.int .i64 n6) ∧ ∃ (n7 : Int), World.cell? (World.drew w6) (Addr.add a 2) = some (.int .i64 n7) ∧ ∃ (b1 : Bool), World.cell? (World.drew w6) (Addr.add a 3) = some (.bool b1) ∧ ∃ (n8 : Int), World.cell? (World.drew w6) (Addr.add a 4) = some (.int .i64 n8) ∧ ∃ (n9 : Int), World.cell? (World.drew w6) (Addr.add a 5) = some (.int .i64 n9) ∧ ∃ (p5 : Option Addr) (n10 c3 : Nat), World.cell? (World.drew w6) (Addr.add a 6) = some (.slice p5 n10 c3) ∧ callP Tryz.prog 33 [.pointer p4, .agg (Array.mk [.int .i64 n5, .int .i64 n6, .int .i64 n7, .bool b1, .int .i64 n8, .int .i64 n9, .slice p5 n10 c3])] (World.drew w6) fun v w7 => v = .tuple (Array.mk []) ∧ nn f fun a7 => ∃ (b2 : Bool), w7.cell? (Addr.add a7 1) = some (.bool b2) ∧ Sif b2 (K (.bool true) w7) (∃ (I1 : Nat → Int → World → Prop), (∃ (m1 : Nat), I1 m1 0 w7) ∧ ∀ (m1 : Nat) (n11 : Int) (w8 : World), I1 m1 n11 w8 → nn f fun a8 => ∃ (p6 : Option Addr) (n12 c4 : Nat), w8.cell? (Addr.add a8 2) = some (.slice p6 n12 c4) ∧ Sif (decide (n11 < (↑n12 : Int))) (nn f fun a9 => ∃ (p7 : Option Addr) (n13 c5 : Nat), World.cell? (World.drew w8) (Addr.add a9 2) = some (.slice p7 n13 c5) ∧ 0 ≤ n11 ∧ n11 < (↑n13 : Int) ∧ nn p7 fun a10 => ∃ (n14 : Int), World.cell? (World.drew w8) (Addr.add a10 (Int.toNat n11 * 1)) = some (.int .i64 n14) ∧ ∃ (n15 : Int), World.cell? (World.drew w8) (Addr.add a 0) = some (.int .i64 n15) ∧ Sif (n14 == n15) (K (.bool true) (World.drew w8)) (nameI (IntKind.wrap .i64 (n11 + 1)) fun n16 => ∃ (m' : Nat), m' < m1 ∧ I1 m' n16 (World.drew w8))) (K (.bool false) w8))) ∧ Sif (!b) (nn f fun a6 => st w5 (Addr.add (Addr.add a6 5) 0) (.bool true) fun w6 => J w6) (J w5))
set_option maxRecDepth 100000 in
theorem eq_longshorelaw17_fitter_fits (f : Option Addr) (e_0 : Int) (e_1 : Int) (e_2 : Int) (e_3 : Bool) (e_4 : Int) (e_5 : Int) (e_6 : Option Addr) (e_6n : Nat) (e_6c : Nat) (w : World) (K : Value → World → Prop) : wpF Tryz.prog none Tryz.f60 (.two .leaf (.two (Ann.draw [(0 : Nat), (1 : Nat), (2 : Nat), (3 : Nat), (5 : Nat), (4 : Nat), (6 : Nat), (7 : Nat), (8 : Nat), (9 : Nat), (10 : Nat), (11 : Nat)]) (.two .leaf (.two (.two .leaf (.two (Ann.loop [((5 : Nat), VSh.cell Sh.bool), ((6 : Nat), VSh.cell (Sh.int IntKind.i64))] (.two (.two .leaf (.two .leaf .leaf)) (.two (Ann.meet [((5 : Nat), VSh.cell Sh.bool)] (.two (.two (Ann.draw [(0 : Nat), (1 : Nat), (2 : Nat), (7 : Nat), (11 : Nat), (3 : Nat), (4 : Nat), (5 : Nat), (6 : Nat), (8 : Nat), (9 : Nat), (10 : Nat), (12 : Nat), (13 : Nat)]) (.two (Ann.draw [(1 : Nat), (2 : Nat), (3 : Nat), (8 : Nat), (0 : Nat), (4 : Nat), (5 : Nat), (6 : Nat), (7 : Nat), (9 : Nat), (10 : Nat), (11 : Nat), (12 : Nat)]) .leaf)) .leaf)) .leaf))) .leaf)) (.two (Ann.meet [] (.two .leaf (.two .leaf .leaf))) (.two (Ann.draw [(0 : Nat), (1 : Nat), (2 : Nat), (3 : Nat), (4 : Nat), (5 : Nat)]) (.two (.two .leaf (.two (.two .leaf .leaf) .leaf)) (.two (.two .leaf (.two (Ann.loop [((7 : Nat), VSh.cell (Sh.int IntKind.i64))] (.two (.two .leaf (.two .leaf .leaf)) (.two (.two (.two (Ann.draw [(0 : Nat), (1 : Nat), (2 : Nat), (4 : Nat), (7 : Nat), (3 : Nat), (5 : Nat), (6 : Nat), (8 : Nat), (9 : Nat)]) (.two (.two .leaf .leaf) .leaf)) .leaf) .leaf))) .leaf)) (.two .leaf .leaf))))))))) [Value.pointer f, Value.agg #[Value.int IntKind.i64 e_0, Value.int IntKind.i64 e_1, Value.int IntKind.i64 e_2, Value.bool e_3, Value.int IntKind.i64 e_4, Value.int IntKind.i64 e_5, Value.slice e_6 e_6n e_6c]] w K = wp_longshorelaw17_fitter_fits f e_0 e_1 e_2 e_3 e_4 e_5 e_6 e_6n e_6c w K := by kernel_rfl
theorem ok_longshorelaw17_fitter_fits {f : Option Addr} {e_0 : Int} {e_1 : Int} {e_2 : Int} {e_3 : Bool} {e_4 : Int} {e_5 : Int} {e_6 : Option Addr} {e_6n : Nat} {e_6c : Nat} {w : World} {K : Value → World → Prop} (hwp : wp_longshorelaw17_fitter_fits f e_0 e_1 e_2 e_3 e_4 e_5 e_6 e_6n e_6c w K) : callP Tryz.prog 60 [.pointer f, .agg #[.int .i64 e_0, .int .i64 e_1, .int .i64 e_2, .bool e_3, .int .i64 e_4, .int .i64 e_5, .slice e_6 e_6n e_6c]] w K :=
  calls_of Tryz.func60 ((eq_longshorelaw17_fitter_fits f e_0 e_1 e_2 e_3 e_4 e_5 e_6 e_6n e_6c w K).symm ▸ hwp)

end Go.Proofs.YtipbbjnmpnfhpaaGreatDoor
