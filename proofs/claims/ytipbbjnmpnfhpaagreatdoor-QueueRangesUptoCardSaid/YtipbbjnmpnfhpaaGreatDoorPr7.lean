/-
  What a call of each function comes to (definitions 'wp_..', reckoned by a program out of the model's code), and that it is sound ('ok_..'). Written by program (sv.py).
-/
import Derived.Test.YtipbbjnmpnfhpaaGreatDoorPr6
import Derived.Test.YtipbbjnmpnfhpaaGreatDoorProg
import Derived.KernelRfl
namespace Go.Proofs.YtipbbjnmpnfhpaaGreatDoor
open Go Go.Sv
set_option linter.unusedVariables false
set_option maxRecDepth 100000

/-- longshore.longshorelaw17.QueueRanges -/
def wp_longshorelaw17_QueueRanges (c_0 : ByteArray) (c_1 : Int) (c_2 : ByteArray) (c_3 : Int) (c_4 : Bool) (entries : Option Addr) (entriesn entriesc : Nat) (within : Option Addr) (withinn withinc : Nat) (most : Int) (w : World) (K : Value → World → Prop) : Prop :=
  newB w [.string c_0, .int .i64 c_1, .string c_2, .int .i64 c_3, .bool c_4] 23 fun a w1 =>
  newB w1 [.slice within withinn withinc] 25 fun a1 w2 =>
  newB w2 [.int .i64 most] 3 fun a2 w3 =>
  callP Tryz.prog 5 [] w3 fun v w4 =>
  ∃ b,
  v = .bool b ∧
  ∃ s,
  w4.cell? (a.add 0) = some (.string s) ∧
  ∃ n,
  w4.cell? (a.add 1) = some (.int .i64 n) ∧
  ∃ s1,
  w4.cell? (a.add 2) = some (.string s1) ∧
  ∃ n1,
  w4.cell? (a.add 3) = some (.int .i64 n1) ∧
  ∃ b1,
  w4.cell? (a.add 4) = some (.bool b1) ∧
  callP Tryz.prog 6 [.agg #[.string s, .int .i64 n, .string s1, .int .i64 n1, .bool b1]] w4 fun v1 w5 =>
  ∃ p,
  v1 = .pointer p ∧
  newB w5 [.pointer none] 27 fun a3 w6 =>
  st w6 (a3.add 0) (.pointer p) fun w7 =>
  ∃ s2,
  w7.cell? (a.add 0) = some (.string s2) ∧
  ∃ n2,
  w7.cell? (a.add 1) = some (.int .i64 n2) ∧
  ∃ s3,
  w7.cell? (a.add 2) = some (.string s3) ∧
  ∃ n3,
  w7.cell? (a.add 3) = some (.int .i64 n3) ∧
  ∃ b2,
  w7.cell? (a.add 4) = some (.bool b2) ∧
  callP Tryz.prog 7 [.agg #[.string s2, .int .i64 n2, .string s3, .int .i64 n3, .bool b2]] w7 fun v2 w8 =>
  ∃ p1,
  v2 = .pointer p1 ∧
  newB w8 [.pointer none] 29 fun a4 w9 =>
  st w9 (a4.add 0) (.pointer p1) fun w10 =>
  ∃ (J : World → Prop),
  (∀ w11, J w11 →
  ∃ (I : Nat → Int → World → Prop),
  (∃ m, I m 0 w11) ∧
  ∀ m n4 w12, I m n4 w12 →
  Sif (decide (n4 < (↑entriesn : Int))) (0 ≤ n4 ∧ n4 < (↑entriesn : Int) ∧ nn entries fun a5 => ∃ p2, w12.drew.cell? a3 = some (.pointer p2) ∧ ∃ p3, w12.drew.cell? a4 = some (.pointer p3) ∧ ∃ n5, w12.drew.cell? (Addr.add (a5.add (Int.toNat n4 * 7)) 0) = some (.int .i64 n5) ∧ ∃ n6, w12.drew.cell? (Addr.add (a5.add (Int.toNat n4 * 7)) 1) = some (.int .i64 n6) ∧ ∃ n7, w12.drew.cell? (Addr.add (a5.add (Int.toNat n4 * 7)) 2) = some (.int .i64 n7) ∧ ∃ b3, w12.drew.cell? (Addr.add (a5.add (Int.toNat n4 * 7)) 3) = some (.bool b3) ∧ ∃ n8, w12.drew.cell? (Addr.add (a5.add (Int.toNat n4 * 7)) 4) = some (.int .i64 n8) ∧ ∃ n9, w12.drew.cell? (Addr.add (a5.add (Int.toNat n4 * 7)) 5) = some (.int .i64 n9) ∧ ∃ p4 n10 c, w12.drew.cell? (Addr.add (a5.add (Int.toNat n4 * 7)) 6) = some (.slice p4 n10 c) ∧ callP Tryz.prog 8 [.pointer p2, .pointer p3, .agg #[.int .i64 n5, .int .i64 n6, .int .i64 n7, .bool b3, .int .i64 n8, .int .i64 n9, .slice p4 n10 c]] w12.drew fun v3 w13 => ∃ b4, v3 = .bool b4 ∧ Sif (!b4) (K (.bool false) w13) (nameI (IntKind.wrap .i64 (n4 + 1)) fun n11 => ∃ m', m' < m ∧ I m' n11 w13))
  (newB w12 [.int .i64 0, .slice none 0 0, .slice none 0 0, .slice none 0 0, .slice none 0 0, .slice none 0 0] 39 fun a5 w13 =>
  newB w13 [.pointer none] 35 fun a6 w14 =>
  st w14 (a6.add 0) (.pointer (some a5)) fun w15 =>
  ∃ p2,
  w15.cell? a3 = some (.pointer p2) ∧
  callP Tryz.prog 9 [.pointer p2] w15 fun v3 w16 =>
  ∃ v4,
  v3 = v4 ∧
  newB w16 [.nilFunc] 41 fun a7 w17 =>
  Sif (oneV v4)
  (Sif (oneV v4)
  (st w17 (a7.add 0) v4 fun w18 =>
  ∃ p3,
  w18.cell? a4 = some (.pointer p3) ∧
  callP Tryz.prog 10 [.pointer p3] w18 fun v5 w19 =>
  ∃ p4 n5 c,
  v5 = .slice p4 n5 c ∧
  newB w19 [.slice none 0 0] 24 fun a8 w20 =>
  newB w20 [.bool false] 4 fun a9 w21 =>
  st w21 (a9.add 0) (.bool true) fun w22 =>
  ∃ v6,
  w22.cell? a7 = some v6 ∧
  ∀ (l : Nat),
  l = Array.size (Array.mk (List.concat w22.heap.toList (Obj.deferred (some [])))) →
  ∀ (rc : LoopR),
  Sv.isRec rc →
  (∀ (n6 n7 n8 : Int) (b3 : Bool) (n9 n10 : Int) (p5 : Option Addr) (n11 c1 : Nat) (w23 : World) (K' : Value → World → Prop),
  recAt w23 l rc LoopState.ready none →
  (newB w23 [.int .i64 0, .int .i64 0, .int .i64 0, .bool false, .int .i64 0, .int .i64 0, .slice none 0 0] 34 fun a10 w24 =>
  st w24 (a10.add 0) (.int .i64 n6) fun w25 =>
  st w25 (a10.add 1) (.int .i64 n7) fun w26 =>
  st w26 (a10.add 2) (.int .i64 n8) fun w27 =>
  st w27 (a10.add 3) (.bool b3) fun w28 =>
  st w28 (a10.add 4) (.int .i64 n9) fun w29 =>
  st w29 (a10.add 5) (.int .i64 n10) fun w30 =>
  st w30 (a10.add 6) (.slice p5 n11 c1) fun w31 =>
  recAt w31 l rc LoopState.ready none ∧
  ∃ p6 n12 c2,
  World.cell? (World.putObj w31 l (rc LoopState.busy none)) a8 = some (.slice p6 n12 c2) ∧
  ∃ n13,
  World.cell? (World.putObj w31 l (rc LoopState.busy none)) (a10.add 0) = some (.int .i64 n13) ∧
  ∃ n14,
  World.cell? (World.putObj w31 l (rc LoopState.busy none)) (a10.add 1) = some (.int .i64 n14) ∧
  ∃ n15,
  World.cell? (World.putObj w31 l (rc LoopState.busy none)) (a10.add 2) = some (.int .i64 n15) ∧
  ∃ b4,
  World.cell? (World.putObj w31 l (rc LoopState.busy none)) (a10.add 3) = some (.bool b4) ∧
  ∃ n16,
  World.cell? (World.putObj w31 l (rc LoopState.busy none)) (a10.add 4) = some (.int .i64 n16) ∧
  ∃ n17,
  World.cell? (World.putObj w31 l (rc LoopState.busy none)) (a10.add 5) = some (.int .i64 n17) ∧
  ∃ p7 n18 c3,
  World.cell? (World.putObj w31 l (rc LoopState.busy none)) (a10.add 6) = some (.slice p7 n18 c3) ∧
  newB (World.putObj w31 l (rc LoopState.busy none)) [.int .i64 n13, .int .i64 n14, .int .i64 n15, .bool b4, .int .i64 n16, .int .i64 n17, .slice p7 n18 c3] 34 fun a11 w32 =>
  ∃ p8 n19,
  ∃ c4 w33,
  Sem.run Tryz.prog (Builtin.append_ #[24, 24] 24 #[.slice p6 n12 c2, .slice (some a11) 1 1]) w32 = Result.ok (.slice p8 n19 c4) w33 ∧
  st w33 (a8.add 0) (.slice p8 n19 c4) fun w34 =>
  ∃ p9 n20 c5,
  w34.cell? a8 = some (.slice p9 n20 c5) ∧
  nameI (IntKind.wrap .i64 ((↑n20 : Int) - 1)) fun n21 =>
  ∃ p10 n22 c6,
  w34.cell? a1 = some (.slice p10 n22 c6) ∧
  Sif (decide (n21 < (↑n22 : Int)))
  (∃ p11 n23 c7,
  w34.cell? a1 = some (.slice p11 n23 c7) ∧
  0 ≤ n21 ∧
  n21 < (↑n23 : Int) ∧
  nn p11 fun a12 =>
  ∃ n24,
  w34.cell? (Addr.add (a12.add (Int.toNat n21 * 13)) 0) = some (.int .i64 n24) ∧
  ∃ n25,
  w34.cell? (Addr.add (a12.add (Int.toNat n21 * 13)) 1) = some (.int .i64 n25) ∧
  ∃ n26,
  w34.cell? (Addr.add (a12.add (Int.toNat n21 * 13)) 2) = some (.int .i64 n26) ∧
  ∃ n27,
  w34.cell? (Addr.add (a12.add (Int.toNat n21 * 13)) 3) = some (.int .i64 n27) ∧
  ∃ p12 n28 c8,
  w34.cell? (Addr.add (a12.add (Int.toNat n21 * 13)) 4) = some (.slice p12 n28 c8) ∧
  ∃ b5,
  w34.cell? (Addr.add (a12.add (Int.toNat n21 * 13)) 5) = some (.bool b5) ∧
  ∃ n29,
  w34.cell? (Addr.add (a12.add (Int.toNat n21 * 13)) 6) = some (.int .i64 n29) ∧
  ∃ n30,
  w34.cell? (Addr.add (a12.add (Int.toNat n21 * 13)) 7) = some (.int .i64 n30) ∧
  ∃ n31,
  w34.cell? (Addr.add (a12.add (Int.toNat n21 * 13)) 8) = some (.int .i64 n31) ∧
  ∃ b6,
  w34.cell? (Addr.add (a12.add (Int.toNat n21 * 13)) 9) = some (.bool b6) ∧
  ∃ n32,
  w34.cell? (Addr.add (a12.add (Int.toNat n21 * 13)) 10) = some (.int .i64 n32) ∧
  ∃ n33,
  w34.cell? (Addr.add (a12.add (Int.toNat n21 * 13)) 11) = some (.int .i64 n33) ∧
  ∃ p13 n34 c9,
  w34.cell? (Addr.add (a12.add (Int.toNat n21 * 13)) 12) = some (.slice p13 n34 c9) ∧
  newB w34 [.int .i64 0, .int .i64 0, .int .i64 0, .int .i64 0, .slice none 0 0, .bool false, .int .i64 0, .int .i64 0, .int .i64 0, .bool false, .int .i64 0, .int .i64 0, .slice none 0 0] 46 fun a13 w35 =>
  st w35 (a13.add 0) (.int .i64 n24) fun w36 =>
  st w36 (a13.add 1) (.int .i64 n25) fun w37 =>
  st w37 (a13.add 2) (.int .i64 n26) fun w38 =>
  st w38 (a13.add 3) (.int .i64 n27) fun w39 =>
  st w39 (a13.add 4) (.slice p12 n28 c8) fun w40 =>
  st w40 (a13.add 5) (.bool b5) fun w41 =>
  st w41 (a13.add 6) (.int .i64 n29) fun w42 =>
  st w42 (a13.add 7) (.int .i64 n30) fun w43 =>
  st w43 (a13.add 8) (.int .i64 n31) fun w44 =>
  st w44 (a13.add 9) (.bool b6) fun w45 =>
  st w45 (a13.add 10) (.int .i64 n32) fun w46 =>
  st w46 (a13.add 11) (.int .i64 n33) fun w47 =>
  st w47 (a13.add 12) (.slice p13 n34 c9) fun w48 =>
  st w48 (Addr.add ((a13.add 6).add 0) 0) (.int .i64 0) fun w49 =>
  ∃ n35,
  w49.cell? (a13.add 0) = some (.int .i64 n35) ∧
  Sif (n35 == 8)
  (∃ p14,
  w49.cell? a4 = some (.pointer p14) ∧
  callP Tryz.prog 10 [.pointer p14] w49 fun v7 w50 =>
  ∃ p15 n36 c10,
  v7 = .slice p15 n36 c10 ∧
  newB w50 [.slice none 0 0] 24 fun a14 w51 =>
  st w51 (a14.add 0) (.slice p15 n36 c10) fun w52 =>
  newB w52 [.int .i64 0] 3 fun a15 w53 =>
  st w53 (a15.add 0) (.int .i64 0) fun w54 =>
  ∃ v8,
  w54.cell? a7 = some v8 ∧
  (∃ (r : Go.Loop), objAt w54 l = some (Obj.loop r)) ∧
  ∀ (l1 : Nat),
  l1 = Array.size w54.heap →
  ∀ (rc1 : LoopR),
  Sv.isRec rc1 →
  (∀ (n37 n38 n39 : Int) (b7 : Bool) (n40 n41 : Int) (p16 : Option Addr) (n42 c11 : Nat) (w55 : World) (K'1 : Value → World → Prop),
  recAt w55 l1 rc1 LoopState.ready none →
  (newB w55 [.int .i64 0, .int .i64 0, .int .i64 0, .bool false, .int .i64 0, .int .i64 0, .slice none 0 0] 34 fun a16 w56 =>
  st w56 (a16.add 0) (.int .i64 n37) fun w57 =>
  st w57 (a16.add 1) (.int .i64 n38) fun w58 =>
  st w58 (a16.add 2) (.int .i64 n39) fun w59 =>
  st w59 (a16.add 3) (.bool b7) fun w60 =>
  st w60 (a16.add 4) (.int .i64 n40) fun w61 =>
  st w61 (a16.add 5) (.int .i64 n41) fun w62 =>
  st w62 (a16.add 6) (.slice p16 n42 c11) fun w63 =>
  recAt w63 l1 rc1 LoopState.ready none ∧
  ∃ n43,
  World.cell? (World.putObj w63 l1 (rc1 LoopState.busy none)) a15 = some (.int .i64 n43) ∧
  ∃ p17 n44 c12,
  World.cell? (World.putObj w63 l1 (rc1 LoopState.busy none)) a14 = some (.slice p17 n44 c12) ∧
  Sif (decide (n43 ≥ (↑n44 : Int))) (st (World.putObj w63 l1 (rc1 LoopState.busy none)) (a9.add 0) (.bool false) fun w64 => recAt w64 l1 rc1 LoopState.busy none ∧ K'1 (.bool false) (World.putObj w64 l1 (rc1 LoopState.done (some (Code.exit 4)))))
  (∃ n45,
  World.cell? (World.drew (World.putObj w63 l1 (rc1 LoopState.busy none))) (a16.add 0) = some (.int .i64 n45) ∧
  ∃ n46,
  World.cell? (World.drew (World.putObj w63 l1 (rc1 LoopState.busy none))) (a16.add 1) = some (.int .i64 n46) ∧
  ∃ n47,
  World.cell? (World.drew (World.putObj w63 l1 (rc1 LoopState.busy none))) (a16.add 2) = some (.int .i64 n47) ∧
  ∃ b8,
  World.cell? (World.drew (World.putObj w63 l1 (rc1 LoopState.busy none))) (a16.add 3) = some (.bool b8) ∧
  ∃ n48,
  World.cell? (World.drew (World.putObj w63 l1 (rc1 LoopState.busy none))) (a16.add 4) = some (.int .i64 n48) ∧
  ∃ n49,
  World.cell? (World.drew (World.putObj w63 l1 (rc1 LoopState.busy none))) (a16.add 5) = some (.int .i64 n49) ∧
  ∃ p18 n50 c13,
  World.cell? (World.drew (World.putObj w63 l1 (rc1 LoopState.busy none))) (a16.add 6) = some (.slice p18 n50 c13) ∧
  ∃ p19 n51 c14,
  World.cell? (World.drew (World.putObj w63 l1 (rc1 LoopState.busy none))) a14 = some (.slice p19 n51 c14) ∧
  ∃ n52,
  World.cell? (World.drew (World.putObj w63 l1 (rc1 LoopState.busy none))) a15 = some (.int .i64 n52) ∧
  0 ≤ n52 ∧
  n52 < (↑n51 : Int) ∧
  nn p19 fun a17 =>
  ∃ n53,
  World.cell? (World.drew (World.putObj w63 l1 (rc1 LoopState.busy none))) (Addr.add (a17.add (Int.toNat n52 * 7)) 0) = some (.int .i64 n53) ∧
  ∃ n54,
  World.cell? (World.drew (World.putObj w63 l1 (rc1 LoopState.busy none))) (Addr.add (a17.add (Int.toNat n52 * 7)) 1) = some (.int .i64 n54) ∧
  ∃ n55, World.cell? (World.drew (World.putObj w63 l1 (rc1 LoopState.busy none))) (Addr.add (a17.add (Int.toNat n52 * 7)) 2) = some (.int .i64 n55) ∧ ∃ b9, World.cell? (World.drew (World.putObj w63 l1 (rc1 LoopState.busy none))) (Addr.add (a17.add (Int.toNat n52 * 7)) 3) = some (.bool b9) ∧ ∃ n56, World.cell? (World.drew (World.putObj w63 l1 (rc1 LoopState.busy none))) (Addr.add (a17.add (Int.toNat n52 * 7)) 4) = some (.int .i64 n56) ∧ ∃ n57, World.cell? (World.drew (World.putObj w63 l1 (rc1 LoopState.busy none))) (Addr.add (a17.add (Int.toNat n52 * 7)) 5) = some (.int .i64 n57) ∧ ∃ p20 n58 c15, World.cell? (World.drew (World.putObj w63 l1 (rc1 LoopState.busy none))) (Addr.add (a17.add (Int.toNat n52 * 7)) 6) = some (.slice p20 n58 c15) ∧ callP Tryz.prog 11 [.agg #[.int .i64 n45, .int .i64 n46, .int .i64 n47, .bool b8, .int .i64 n48, .int .i64 n49, .slice p18 n50 c13], .agg #[.int .i64 n53, .int .i64 n54, .int .i64 n55, .bool b9, .int .i64 n56, .int .i64 n57, .slice p20 n58 c15]] (World.drew (World.putObj w63 l1 (rc1 LoopState.busy none))) fun v9 w64 => ∃ b10, v9 = .bool b10 ∧ ∃ (J1 : World → Prop), (∀ w65, J1 w65 → ∃ n59, w65.cell? a15 = some (.int .i64 n59) ∧ st w65 (a15.add 0) (.int .i64 (IntKind.wrap .i64 (n59 + 1))) fun w66 => ∃ n60, w66.cell? a15 = some (.int .i64 n60) ∧ ∃ n61, w66.cell? a2 = some (.int .i64 n61) ∧ Sif (n60 == n61) (recAt w66 l1 rc1 LoopState.busy none ∧ K'1 (.bool false) (World.putObj w66 l1 (rc1 LoopState.done (some (Code.exit 4))))) (recAt w66 l1 rc1 LoopState.busy none ∧ K'1 (.bool true) (World.putObj w66 l1 (rc1 LoopState.ready none)))) ∧ ∃ b11, w64.cell? a9 = some (.bool b11) ∧ Sif b11 (st w64 (a9.add 0) (.bool b10) fun w65 => J1 w65) (st w64 (a9.add 0) (.bool false) fun w65 => J1 w65))) →
  yieldP Tryz.prog l1 [.agg #[.int .i64 n37, .int .i64 n38, .int .i64 n39, .bool b7, .int .i64 n40, .int .i64 n41, .slice p16 n42 c11]] w55 fun a16 w56 => K'1 a16 w56) →
  callF Tryz.prog v8 [.func (Fn.yield l1) #[] #[]] (World.alloc w54 (rc1 LoopState.ready none)) fun w55 =>
  (recAt w55 l1 rc1 LoopState.ready none ∧ ∃ b7, World.cell? (World.putObj w55 l1 (rc1 LoopState.exhausted none)) a9 = some (.bool b7) ∧ Sif b7 (∃ n37, World.cell? (World.putObj w55 l1 (rc1 LoopState.exhausted none)) a15 = some (.int .i64 n37) ∧ ∃ p16 n38 c11, World.cell? (World.putObj w55 l1 (rc1 LoopState.exhausted none)) a14 = some (.slice p16 n38 c11) ∧ Sif (!n37 == (↑n38 : Int)) (∃ n39, World.cell? (World.putObj w55 l1 (rc1 LoopState.exhausted none)) a15 = some (.int .i64 n39) ∧ ∃ n40, World.cell? (World.putObj w55 l1 (rc1 LoopState.exhausted none)) a2 = some (.int .i64 n40) ∧ st (World.putObj w55 l1 (rc1 LoopState.exhausted none)) (a9.add 0) (.bool (n39 == n40)) fun w56 => recAt w56 l rc LoopState.busy none ∧ K' (.bool true) (World.putObj w56 l (rc LoopState.ready none))) (st (World.putObj w55 l1 (rc1 LoopState.exhausted none)) (a9.add 0) (.bool true) fun w56 => recAt w56 l rc LoopState.busy none ∧ K' (.bool true) (World.putObj w56 l (rc LoopState.ready none)))) (st (World.putObj w55 l1 (rc1 LoopState.exhausted none)) (a9.add 0) (.bool false) fun w56 => recAt w56 l rc LoopState.busy none ∧ K' (.bool true) (World.putObj w56 l (rc LoopState.ready none)))) ∨
  False ∨ (recAt w55 l1 rc1 LoopState.done (some (Code.exit 4)) ∧ ∃ b7, World.cell? (World.putObj w55 l1 (rc1 LoopState.exhausted (some (Code.exit 4)))) a9 = some (.bool b7) ∧ Sif b7 (∃ n37, World.cell? (World.putObj w55 l1 (rc1 LoopState.exhausted (some (Code.exit 4)))) a15 = some (.int .i64 n37) ∧ ∃ p16 n38 c11, World.cell? (World.putObj w55 l1 (rc1 LoopState.exhausted (some (Code.exit 4)))) a14 = some (.slice p16 n38 c11) ∧ Sif (!n37 == (↑n38 : Int)) (∃ n39, World.cell? (World.putObj w55 l1 (rc1 LoopState.exhausted (some (Code.exit 4)))) a15 = some (.int .i64 n39) ∧ ∃ n40, World.cell? (World.putObj w55 l1 (rc1 LoopState.exhausted (some (Code.exit 4)))) a2 = some (.int .i64 n40) ∧ st (World.putObj w55 l1 (rc1 LoopState.exhausted (some (Code.exit 4)))) (a9.add 0) (.bool (n39 == n40)) fun w56 => recAt w56 l rc LoopState.busy none ∧ K' (.bool true) (World.putObj w56 l (rc LoopState.ready none))) (st (World.putObj w55 l1 (rc1 LoopState.exhausted (some (Code.exit 4)))) (a9.add 0) (.bool true) fun w56 => recAt w56 l rc LoopState.busy none ∧ K' (.bool true) (World.putObj w56 l (rc LoopState.ready none)))) (st (World.putObj w55 l1 (rc1 LoopState.exhausted (some (Code.exit 4)))) (a9.add 0) (.bool false) fun w56 => recAt w56 l rc LoopState.busy none ∧ K' (.bool true) (World.putObj w56 l (rc LoopState.ready none)))) ∨ False)
  (∃ p14, w49.cell? a6 = some (.pointer p14) ∧ ∃ p15, w49.cell? a3 = some (.pointer p15) ∧ ∃ p16, w49.cell? a4 = some (.pointer p16) ∧ ∃ n36, w49.cell? (a13.add 0) = some (.int .i64 n36) ∧ ∃ n37, w49.cell? (a13.add 1) = some (.int .i64 n37) ∧ ∃ n38, w49.cell? (a13.add 2) = some (.int .i64 n38) ∧ ∃ n39, w49.cell? (a13.add 3) = some (.int .i64 n39) ∧ ∃ p17 n40 c10, w49.cell? (a13.add 4) = some (.slice p17 n40 c10) ∧ ∃ b7, w49.cell? (a13.add 5) = some (.bool b7) ∧ ∃ n41, w49.cell? (a13.add 6) = some (.int .i64 n41) ∧ ∃ n42, w49.cell? (a13.add 7) = some (.int .i64 n42) ∧ ∃ n43, w49.cell? (a13.add 8) = some (.int .i64 n43) ∧ ∃ b8, w49.cell? (a13.add 9) = some (.bool b8) ∧ ∃ n44, w49.cell? (a13.add 10) = some (.int .i64 n44) ∧ ∃ n45, w49.cell? (a13.add 11) = some (.int .i64 n45) ∧ ∃ p18 n46 c11, w49.cell? (a13.add 12) = some (.slice p18 n46 c11) ∧ callP Tryz.prog 12 [.pointer p14, .pointer p15, .pointer p16, .agg #[.int .i64 n36, .int .i64 n37, .int .i64 n38, .int .i64 n39, .slice p17 n40 c10, .bool b7, .int .i64 n41, .int .i64 n42, .int .i64 n43, .bool b8, .int .i64 n44, .int .i64 n45, .slice p18 n46 c11]] w49 fun v7 w50 => ∃ b9, v7 = .bool b9 ∧ ∃ b10, w50.cell? a9 = some (.bool b10) ∧ Sif b10 (st w50 (a9.add 0) (.bool b9) fun w51 => recAt w51 l rc LoopState.busy none ∧ K' (.bool true) (World.putObj w51 l (rc LoopState.ready none))) (st w50 (a9.add 0) (.bool false) fun w51 => recAt w51 l rc LoopState.busy none ∧ K' (.bool true) (World.putObj w51 l (rc LoopState.ready none)))))
  (recAt w34 l rc LoopState.busy none ∧ K' (.bool true) (World.putObj w34 l (rc LoopState.ready none)))) →
  yieldP Tryz.prog l [.agg #[.int .i64 n6, .int .i64 n7, .int .i64 n8, .bool b3, .int .i64 n9, .int .i64 n10, .slice p5 n11 c1]] w23 fun a10 w24 => K' a10 w24) →
  callF Tryz.prog v6 [.func (Fn.yield l) #[] #[]] (World.alloc (World.alloc w22 (Obj.deferred (some []))) (rc LoopState.ready none)) fun w23 => (recAt w23 l rc LoopState.ready none ∧ ∃ p5, World.cell? (World.putObj w23 l (rc LoopState.exhausted none)) a6 = some (.pointer p5) ∧ ∃ p6 n6 c1, World.cell? (World.putObj w23 l (rc LoopState.exhausted none)) a8 = some (.slice p6 n6 c1) ∧ callP Tryz.prog 13 [.pointer p5, .slice p6 n6 c1, .slice p4 n5 c] (World.putObj w23 l (rc LoopState.exhausted none)) fun v7 w24 => ∃ b3, v7 = .bool b3 ∧ ∃ p7, w24.cell? a6 = some (.pointer p7) ∧ ∃ p8, w24.cell? a3 = some (.pointer p8) ∧ ∃ p9, w24.cell? a4 = some (.pointer p9) ∧ callP Tryz.prog 14 [.pointer p7, .pointer p8, .pointer p9, .int .i64 (-1)] w24 fun v8 w25 => ∃ b4, v8 = .bool b4 ∧ ∃ p10, w25.cell? a6 = some (.pointer p10) ∧ callP Tryz.prog 15 [.pointer p10] w25 fun v9 w26 => ∃ b5, v9 = .bool b5 ∧ ∃ p11, w26.cell? a6 = some (.pointer p11) ∧ ∃ p12, w26.cell? a3 = some (.pointer p12) ∧ ∃ p13, w26.cell? a4 = some (.pointer p13) ∧ callP Tryz.prog 14 [.pointer p11, .pointer p12, .pointer p13, .int .i64 (-1)] w26 fun v10 w27 => ∃ b6, v10 = .bool b6 ∧ ∃ b7, w27.cell? a9 = some (.bool b7) ∧ Sif b7 (Sif b3 (Sif b4 (Sif b5 (takeM w27 (Array.size w22.heap) fun w28 => K (.bool b6) w28) (takeM w27 (Array.size w22.heap) fun w28 => K (.bool false) w28)) (takeM w27 (Array.size w22.heap) fun w28 => K (.bool false) w28)) (takeM w27 (Array.size w22.heap) fun w28 => K (.bool false) w28)) (takeM w27 (Array.size w22.heap) fun w28 => K (.bool false) w28)) ∨ False ∨ False)
  False)
  False)) ∧
  Sif (!!b) (∃ p2, w10.cell? a3 = some (.pointer p2) ∧ Sif (!Option.isNone p2) (∃ p3, w10.cell? a4 = some (.pointer p3) ∧ Sif (Option.isNone p3) (Sif b (∃ p4, w10.cell? a3 = some (.pointer p4) ∧ ∃ p5, w10.cell? a4 = some (.pointer p5) ∧ K (.bool (Option.isNone p4 == Option.isNone p5)) w10) (K (.bool false) w10)) (J w10)) (Sif b (∃ p3, w10.cell? a3 = some (.pointer p3) ∧ ∃ p4, w10.cell? a4 = some (.pointer p4) ∧ K (.bool (Option.isNone p3 == Option.isNone p4)) w10) (K (.bool false) w10))) (Sif b (∃ p2, w10.cell? a3 = some (.pointer p2) ∧ ∃ p3, w10.cell? a4 = some (.pointer p3) ∧ K (.bool (Option.isNone p2 == Option.isNone p3)) w10) (K (.bool false) w10))
theorem eq_longshorelaw17_QueueRanges (c_0 : ByteArray) (c_1 : Int) (c_2 : ByteArray) (c_3 : Int) (c_4 : Bool) (entries : Option Addr) (entriesn entriesc : Nat) (within : Option Addr) (withinn withinc : Nat) (most : Int) (w : World) (K : Value → World → Prop) : wpF Tryz.prog none Tryz.f3 (.two .leaf (.two .leaf (.two .leaf (.two .leaf (.two (.meet [] (.two .leaf (.two (.two .leaf .leaf) .leaf))) (.two (.two .leaf (.two (.loop [(12, .cell (.int .i64))] (.two (.two .leaf (.two .leaf .leaf)) (.two (.two (.two (.draw [2, 3, 4, 0, 1, 5, 6, 7]) (.two .leaf (.two (.two .leaf .leaf) .leaf))) .leaf) .leaf))) .leaf)) (.two .leaf (.two .leaf (.two .leaf (.two .leaf (.two .leaf (.two (.two .leaf (.two (.over [.agg [.int .i64, .int .i64, .int .i64, .bool, .int .i64, .int .i64, .slice]] false [] .leaf (.two (.two .leaf (.two .leaf (.two .leaf (.two (.two .leaf (.two .leaf (.two .leaf (.two (.two .leaf (.two .leaf (.two (.two .leaf (.two (.over [.agg [.int .i64, .int .i64, .int .i64, .bool, .int .i64, .int .i64, .slice]] false [4] .leaf (.two (.two (.two .leaf (.two (.two .leaf .leaf) .leaf)) (.two (.draw [0, 1, 2, 3, 4, 5, 6]) (.two (.meet [] .leaf) (.two .leaf (.two .leaf (.two .leaf .leaf)))))) .leaf)) .leaf)) .leaf))) (.two .leaf .leaf))))) .leaf)))) .leaf)) .leaf)) (.two .leaf (.two .leaf (.two .leaf (.two .leaf (.two .leaf .leaf))))))))))))))))) [Value.agg #[Value.string c_0, Value.int .i64 c_1, Value.string c_2, Value.int .i64 c_3, Value.bool c_4], Value.slice entries entriesn entriesc, Value.slice within withinn withinc, Value.int .i64 most] w K = wp_longshorelaw17_QueueRanges c_0 c_1 c_2 c_3 c_4 entries entriesn entriesc within withinn withinc most w K := by kernel_rfl
theorem ok_longshorelaw17_QueueRanges {c_0 : ByteArray} {c_1 : Int} {c_2 : ByteArray} {c_3 : Int} {c_4 : Bool} {entries : Option Addr} {entriesn entriesc : Nat} {within : Option Addr} {withinn withinc : Nat} {most : Int} {w : World} {K : Value → World → Prop} (hwp : wp_longshorelaw17_QueueRanges c_0 c_1 c_2 c_3 c_4 entries entriesn entriesc within withinn withinc most w K) : callP Tryz.prog 3 [.agg #[.string c_0, .int .i64 c_1, .string c_2, .int .i64 c_3, .bool c_4], .slice entries entriesn entriesc, .slice within withinn withinc, .int .i64 most] w K :=
  calls_of Tryz.func3 ((eq_longshorelaw17_QueueRanges c_0 c_1 c_2 c_3 c_4 entries entriesn entriesc within withinn withinc most w K).symm ▸ hwp)

/-- longshore.longshorelaw17.live -/
def wp_longshorelaw17_live (w : World) (K : Value → World → Prop) : Prop :=
  callP Tryz.prog 6 [.agg #[.string (ByteArray.mk #[(113 : UInt8)]), .int .i64 2, .string (ByteArray.mk #[]), .int .i64 2, .bool false]] w fun v w1 =>
  ∃ p,
  v = .pointer p ∧
  Sif (Option.isNone p) (K (.bool false) w1)
  (newB w1 [.int .u8 7] 5 fun a w2 =>
  callP Tryz.prog 17 [.pointer p, .agg #[.int .i64 5, .int .i64 4, .int .i64 (-1), .bool false, .int .i64 0, .int .i64 0, .slice (some a) 1 1]] w2 fun v1 w3 =>
  ∃ n,
  v1 = .int .i64 n ∧
  callP Tryz.prog 18 [.pointer p, .int .i64 1, .nilFunc] w3 fun v2 w4 =>
  ∃ n1 n2,
  ∃ n3 b,
  ∃ n4 n5,
  ∃ p1 n6,
  ∃ c b1,
  v2 = .tuple #[.agg #[.int .i64 n1, .int .i64 n2, .int .i64 n3, .bool b, .int .i64 n4, .int .i64 n5, .slice p1 n6 c], .bool b1] ∧
  newB w4 [.int .i64 0, .int .i64 0, .int .i64 0, .bool false, .int .i64 0, .int .i64 0, .slice none 0 0] 34 fun a1 w5 =>
  st w5 (a1.add 0) (.int .i64 n1) fun w6 =>
  st w6 (a1.add 1) (.int .i64 n2) fun w7 =>
  st w7 (a1.add 2) (.int .i64 n3) fun w8 =>
  st w8 (a1.add 3) (.bool b) fun w9 =>
  st w9 (a1.add 4) (.int .i64 n4) fun w10 =>
  st w10 (a1.add 5) (.int .i64 n5) fun w11 =>
  st w11 (a1.add 6) (.slice p1 n6 c) fun w12 =>
  callP Tryz.prog 19 [.pointer p, .int .i64 5, .int .i64 1, .bool true] w12 fun v3 w13 =>
  ∃ n7 n8,
  ∃ n9 b2,
  ∃ n10 n11,
  ∃ p2 n12,
  ∃ c1 b3 n13,
  v3 = .tuple #[.agg #[.int .i64 n7, .int .i64 n8, .int .i64 n9, .bool b2, .int .i64 n10, .int .i64 n11, .slice p2 n12 c1], .bool b3, .int .i64 n13] ∧
  newB w13 [.int .i64 0, .int .i64 0, .int .i64 0, .bool false, .int .i64 0, .int .i64 0, .slice none 0 0] 34 fun a2 w14 =>
  st w14 (a2.add 0) (.int .i64 n7) fun w15 =>
  st w15 (a2.add 1) (.int .i64 n8) fun w16 =>
  st w16 (a2.add 2) (.int .i64 n9) fun w17 =>
  st w17 (a2.add 3) (.bool b2) fun w18 =>
  st w18 (a2.add 4) (.int .i64 n10) fun w19 =>
  st w19 (a2.add 5) (.int .i64 n11) fun w20 =>
  st w20 (a2.add 6) (.slice p2 n12 c1) fun w21 =>
  callP Tryz.prog 20 [.pointer p] w21 fun v4 w22 =>
  ∃ n14 n15,
  v4 = .tuple #[.int .i64 n14, .int .i64 n15] ∧
  newB w22 [.int .i64 0] 3 fun a3 w23 =>
  st w23 (a3.add 0) (.int .i64 0) fun w24 =>
  callP Tryz.prog 9 [.pointer p] w24 fun v5 w25 =>
  ∃ v6,
  v5 = v6 ∧
  isNilF v6 fun r =>
  Sif r (K (.bool false) w25)
  (∀ (l : Nat),
  l = Array.size (Array.mk (List.concat w25.heap.toList (Obj.deferred (some [])))) →
  ∀ (rc : LoopR),
  Sv.isRec rc →
  (∀ (n16 n17 n18 : Int) (b4 : Bool) (n19 n20 : Int) (p3 : Option Addr) (n21 c2 : Nat) (w26 : World) (K' : Value → World → Prop), recAt w26 l rc LoopState.ready none → (newB w26 [.int .i64 0, .int .i64 0, .int .i64 0, .bool false, .int .i64 0, .int .i64 0, .slice none 0 0] 34 fun a4 w27 => st w27 (a4.add 0) (.int .i64 n16) fun w28 => st w28 (a4.add 1) (.int .i64 n17) fun w29 => st w29 (a4.add 2) (.int .i64 n18) fun w30 => st w30 (a4.add 3) (.bool b4) fun w31 => st w31 (a4.add 4) (.int .i64 n19) fun w32 => st w32 (a4.add 5) (.int .i64 n20) fun w33 => st w33 (a4.add 6) (.slice p3 n21 c2) fun w34 => recAt w34 l rc LoopState.ready none ∧ ∃ n22, World.cell? (World.putObj w34 l (rc LoopState.busy none)) a3 = some (.int .i64 n22) ∧ ∃ n23, World.cell? (World.putObj w34 l (rc LoopState.busy none)) (a4.add 0) = some (.int .i64 n23) ∧ st (World.putObj w34 l (rc LoopState.busy none)) (a3.add 0) (.int .i64 (IntKind.wrap .i64 (n22 + n23))) fun w35 => recAt w35 l rc LoopState.busy none ∧ K' (.bool true) (World.putObj w35 l (rc LoopState.ready none))) → yieldP Tryz.prog l [.agg #[.int .i64 n16, .int .i64 n17, .int .i64 n18, .bool b4, .int .i64 n19, .int .i64 n20, .slice p3 n21 c2]] w26 fun a4 w27 => K' a4 w27) →
  callF Tryz.prog v6 [.func (Fn.yield l) #[] #[]] (World.alloc (World.alloc w25 (Obj.deferred (some []))) (rc LoopState.ready none)) fun w26 => recAt w26 l rc LoopState.ready none ∧ Sif (n == 0) (Sif b1 (∃ n16, World.cell? (World.putObj w26 l (rc LoopState.exhausted none)) (a1.add 5) = some (.int .i64 n16) ∧ Sif (n16 == 1) (Sif (n13 == 0) (Sif (!b3) (∃ n17, World.cell? (World.putObj w26 l (rc LoopState.exhausted none)) (a2.add 4) = some (.int .i64 n17) ∧ Sif (n17 == 1) (∃ p3 n18 c2, World.cell? (World.putObj w26 l (rc LoopState.exhausted none)) (a2.add 6) = some (.slice p3 n18 c2) ∧ Sif ((↑n18 : Int) == 1) (Sif (n14 == 1) (Sif (n15 == 0) (∃ n19, World.cell? (World.putObj w26 l (rc LoopState.exhausted none)) a3 = some (.int .i64 n19) ∧ takeM (World.putObj w26 l (rc LoopState.exhausted none)) (Array.size w25.heap) fun w27 => K (.bool (n19 == 5)) w27) (takeM (World.putObj w26 l (rc LoopState.exhausted none)) (Array.size w25.heap) fun w27 => K (.bool false) w27)) (takeM (World.putObj w26 l (rc LoopState.exhausted none)) (Array.size w25.heap) fun w27 => K (.bool false) w27)) (takeM (World.putObj w26 l (rc LoopState.exhausted none)) (Array.size w25.heap) fun w27 => K (.bool false) w27)) (takeM (World.putObj w26 l (rc LoopState.exhausted none)) (Array.size w25.heap) fun w27 => K (.bool false) w27)) (takeM (World.putObj w26 l (rc LoopState.exhausted none)) (Array.size w25.heap) fun w27 => K (.bool false) w27)) (takeM (World.putObj w26 l (rc LoopState.exhausted none)) (Array.size w25.heap) fun w27 => K (.bool false) w27)) (takeM (World.putObj w26 l (rc LoopState.exhausted none)) (Array.size w25.heap) fun w27 => K (.bool false) w27)) (takeM (World.putObj w26 l (rc LoopState.exhausted none)) (Array.size w25.heap) fun w27 => K (.bool false) w27)) (takeM (World.putObj w26 l (rc LoopState.exhausted none)) (Array.size w25.heap) fun w27 => K (.bool false) w27) ∨ False ∨ False))
theorem eq_longshorelaw17_live (w : World) (K : Value → World → Prop) : wpF Tryz.prog none Tryz.f5 (.two .leaf (.two .leaf (.two (.two .leaf (.two (.two .leaf .leaf) .leaf)) (.two .leaf (.two .leaf (.two .leaf (.two .leaf (.two .leaf (.two .leaf (.two (.two .leaf (.two (.two .leaf .leaf) .leaf)) (.two (.two .leaf (.two (.over [.agg [.int .i64, .int .i64, .int .i64, .bool, .int .i64, .int .i64, .slice]] false [] .leaf (.two .leaf .leaf)) .leaf)) (.two .leaf .leaf)))))))))))) [] w K = wp_longshorelaw17_live w K := by kernel_rfl
theorem ok_longshorelaw17_live {w : World} {K : Value → World → Prop} (hwp : wp_longshorelaw17_live w K) : callP Tryz.prog 5 [] w K :=
  calls_of Tryz.func5 ((eq_longshorelaw17_live w K).symm ▸ hwp)

/-- longshore.longshorelaw17.same -/
def wp_longshorelaw17_same (a_0 a_1 a_2 : Int) (a_3 : Bool) (a_4 a_5 : Int) (a_6 : Option Addr) (a_6n a_6c : Nat) (b_0 b_1 b_2 : Int) (b_3 : Bool) (b_4 b_5 : Int) (b_6 : Option Addr) (b_6n b_6c : Nat) (w : World) (K : Value → World → Prop) : Prop :=
  newB w [.int .i64 a_0, .int .i64 a_1, .int .i64 a_2, .bool a_3, .int .i64 a_4, .int .i64 a_5, .slice a_6 a_6n a_6c] 34 fun a w1 => newB w1 [.int .i64 b_0, .int .i64 b_1, .int .i64 b_2, .bool b_3, .int .i64 b_4, .int .i64 b_5, .slice b_6 b_6n b_6c] 34 fun a1 w2 => ∃ p n c, w2.cell? (a.add 6) = some (.slice p n c) ∧ ∃ p1 n1 c1, w2.cell? (a1.add 6) = some (.slice p1 n1 c1) ∧ callP Tryz.prog 24 [.slice p n c, .slice p1 n1 c1] w2 fun v w3 => ∃ b, v = .bool b ∧ Sif b (∃ n2, w3.cell? (a.add 0) = some (.int .i64 n2) ∧ ∃ n3, w3.cell? (a1.add 0) = some (.int .i64 n3) ∧ Sif (n2 == n3) (∃ n4, w3.cell? (a.add 1) = some (.int .i64 n4) ∧ ∃ n5, w3.cell? (a1.add 1) = some (.int .i64 n5) ∧ Sif (n4 == n5) (∃ n6, w3.cell? (a.add 2) = some (.int .i64 n6) ∧ ∃ n7, w3.cell? (a1.add 2) = some (.int .i64 n7) ∧ Sif (n6 == n7) (∃ b1, w3.cell? (a.add 3) = some (.bool b1) ∧ ∃ b2, w3.cell? (a1.add 3) = some (.bool b2) ∧ Sif (b1 == b2) (∃ n8, w3.cell? (a.add 4) = some (.int .i64 n8) ∧ ∃ n9, w3.cell? (a1.add 4) = some (.int .i64 n9) ∧ Sif (n8 == n9) (∃ n10, w3.cell? (a.add 5) = some (.int .i64 n10) ∧ ∃ n11, w3.cell? (a1.add 5) = some (.int .i64 n11) ∧ K (.bool (n10 == n11)) w3) (K (.bool false) w3)) (K (.bool false) w3)) (K (.bool false) w3)) (K (.bool false) w3)) (K (.bool false) w3)) (K (.bool false) w3)
theorem eq_longshorelaw17_same (a_0 a_1 a_2 : Int) (a_3 : Bool) (a_4 a_5 : Int) (a_6 : Option Addr) (a_6n a_6c : Nat) (b_0 b_1 b_2 : Int) (b_3 : Bool) (b_4 b_5 : Int) (b_6 : Option Addr) (b_6n b_6c : Nat) (w : World) (K : Value → World → Prop) : wpF Tryz.prog none Tryz.f11 (.two .leaf (.two .leaf (.two .leaf .leaf))) [Value.agg #[Value.int .i64 a_0, Value.int .i64 a_1, Value.int .i64 a_2, Value.bool a_3, Value.int .i64 a_4, Value.int .i64 a_5, Value.slice a_6 a_6n a_6c], Value.agg #[Value.int .i64 b_0, Value.int .i64 b_1, Value.int .i64 b_2, Value.bool b_3, Value.int .i64 b_4, Value.int .i64 b_5, Value.slice b_6 b_6n b_6c]] w K = wp_longshorelaw17_same a_0 a_1 a_2 a_3 a_4 a_5 a_6 a_6n a_6c b_0 b_1 b_2 b_3 b_4 b_5 b_6 b_6n b_6c w K := by kernel_rfl
theorem ok_longshorelaw17_same {a_0 a_1 a_2 : Int} {a_3 : Bool} {a_4 a_5 : Int} {a_6 : Option Addr} {a_6n a_6c : Nat} {b_0 b_1 b_2 : Int} {b_3 : Bool} {b_4 b_5 : Int} {b_6 : Option Addr} {b_6n b_6c : Nat} {w : World} {K : Value → World → Prop} (hwp : wp_longshorelaw17_same a_0 a_1 a_2 a_3 a_4 a_5 a_6 a_6n a_6c b_0 b_1 b_2 b_3 b_4 b_5 b_6 b_6n b_6c w K) : callP Tryz.prog 11 [.agg #[.int .i64 a_0, .int .i64 a_1, .int .i64 a_2, .bool a_3, .int .i64 a_4, .int .i64 a_5, .slice a_6 a_6n a_6c], .agg #[.int .i64 b_0, .int .i64 b_1, .int .i64 b_2, .bool b_3, .int .i64 b_4, .int .i64 b_5, .slice b_6 b_6n b_6c]] w K :=
  calls_of Tryz.func11 ((eq_longshorelaw17_same a_0 a_1 a_2 a_3 a_4 a_5 a_6 a_6n a_6c b_0 b_1 b_2 b_3 b_4 b_5 b_6 b_6n b_6c w K).symm ▸ hwp)

/-- longshore.longshorelaw17.sameBytes -/
def wp_longshorelaw17_sameBytes (a : Option Addr) (an ac : Nat) (b : Option Addr) (bn bc : Nat) (w : World) (K : Value → World → Prop) : Prop :=
  ∃ s, Sem.run Tryz.prog (convert 32 9 (.slice a an ac)) w = Result.ok (.string s) w ∧ ∃ s1, Sem.run Tryz.prog (convert 32 9 (.slice b bn bc)) w = Result.ok (.string s1) w ∧ K (.bool (ByteArray.toList s == ByteArray.toList s1)) w
theorem eq_longshorelaw17_sameBytes (a : Option Addr) (an ac : Nat) (b : Option Addr) (bn bc : Nat) (w : World) (K : Value → World → Prop) : wpF Tryz.prog none Tryz.f24 (.two .leaf (.two .leaf .leaf)) [Value.slice a an ac, Value.slice b bn bc] w K = wp_longshorelaw17_sameBytes a an ac b bn bc w K := by kernel_rfl
theorem ok_longshorelaw17_sameBytes {a : Option Addr} {an ac : Nat} {b : Option Addr} {bn bc : Nat} {w : World} {K : Value → World → Prop} (hwp : wp_longshorelaw17_sameBytes a an ac b bn bc w K) : callP Tryz.prog 24 [.slice a an ac, .slice b bn bc] w K :=
  calls_of Tryz.func24 ((eq_longshorelaw17_sameBytes a an ac b bn bc w K).symm ▸ hwp)

/-- longshore.longshorelaw17.over -/
def wp_longshorelaw17_over (b : Option Addr) (bn bc : Nat) (w : World) (K : Value → World → Prop) : Prop :=
  ∃ (I : Nat → Int → World → Prop), (∃ m, I m 0 w) ∧ ∀ m n w1, I m n w1 → Sif (decide (n < (↑bn : Int))) (0 ≤ n ∧ n < (↑bn : Int) ∧ nn b fun a => st w1 (Addr.add (a.add (Int.toNat n * 1)) 0) (.int .u8 91) fun w2 => nameI (IntKind.wrap .i64 (n + 1)) fun n1 => ∃ m', m' < m ∧ I m' n1 w2) (newB w1 [.int .u8 92, .int .u8 93, .int .u8 94, .int .u8 95] 5 fun a w2 => ∃ p n1, ∃ c w3, Sem.run Tryz.prog (Builtin.append_ #[32, 32] 32 #[.slice b bn bc, .slice (some a) 4 4]) w2 = Result.ok (.slice p n1 c) w3 ∧ K (.tuple #[]) w3)
theorem eq_longshorelaw17_over (b : Option Addr) (bn bc : Nat) (w : World) (K : Value → World → Prop) : wpF Tryz.prog none Tryz.f25 (.two (.two .leaf (.two (.loop [(2, .cell (.int .i64))] (.two (.two .leaf (.two .leaf .leaf)) (.two (.two .leaf .leaf) .leaf))) .leaf)) .leaf) [Value.slice b bn bc] w K = wp_longshorelaw17_over b bn bc w K := by kernel_rfl
theorem ok_longshorelaw17_over {b : Option Addr} {bn bc : Nat} {w : World} {K : Value → World → Prop} (hwp : wp_longshorelaw17_over b bn bc w K) : callP Tryz.prog 25 [.slice b bn bc] w K :=
  calls_of Tryz.func25 ((eq_longshorelaw17_over b bn bc w K).symm ▸ hwp)

/-- longshore.longshorelaw17.sameAll -/
def wp_longshorelaw17_sameAll (b a : Option Addr) (an ac : Nat) (want : Option Addr) (wantn wantc : Nat) (w : World) (K : Value → World → Prop) : Prop :=
  Sif ((↑an : Int) != (↑wantn : Int)) (K (.bool false) w)
  (∃ (I : Nat → Int → World → Prop),
  (∃ m, I m 0 w) ∧
  ∀ m n w1, I m n w1 →
  Sif (decide (n < (↑an : Int))) (0 ≤ n ∧ n < (↑an : Int) ∧ nn a fun a1 => 0 ≤ n ∧ n < (↑wantn : Int) ∧ nn want fun a2 => ∃ n1, w1.drew.cell? (Addr.add (a1.add (Int.toNat n * 7)) 0) = some (.int .i64 n1) ∧ ∃ n2, w1.drew.cell? (Addr.add (a1.add (Int.toNat n * 7)) 1) = some (.int .i64 n2) ∧ ∃ n3, w1.drew.cell? (Addr.add (a1.add (Int.toNat n * 7)) 2) = some (.int .i64 n3) ∧ ∃ b1, w1.drew.cell? (Addr.add (a1.add (Int.toNat n * 7)) 3) = some (.bool b1) ∧ ∃ n4, w1.drew.cell? (Addr.add (a1.add (Int.toNat n * 7)) 4) = some (.int .i64 n4) ∧ ∃ n5, w1.drew.cell? (Addr.add (a1.add (Int.toNat n * 7)) 5) = some (.int .i64 n5) ∧ ∃ p n6 c, w1.drew.cell? (Addr.add (a1.add (Int.toNat n * 7)) 6) = some (.slice p n6 c) ∧ ∃ n7, w1.drew.cell? (Addr.add (a2.add (Int.toNat n * 7)) 0) = some (.int .i64 n7) ∧ ∃ n8, w1.drew.cell? (Addr.add (a2.add (Int.toNat n * 7)) 1) = some (.int .i64 n8) ∧ ∃ n9, w1.drew.cell? (Addr.add (a2.add (Int.toNat n * 7)) 2) = some (.int .i64 n9) ∧ ∃ b2, w1.drew.cell? (Addr.add (a2.add (Int.toNat n * 7)) 3) = some (.bool b2) ∧ ∃ n10, w1.drew.cell? (Addr.add (a2.add (Int.toNat n * 7)) 4) = some (.int .i64 n10) ∧ ∃ n11, w1.drew.cell? (Addr.add (a2.add (Int.toNat n * 7)) 5) = some (.int .i64 n11) ∧ ∃ p1 n12 c1, w1.drew.cell? (Addr.add (a2.add (Int.toNat n * 7)) 6) = some (.slice p1 n12 c1) ∧ callP Tryz.prog 11 [.agg #[.int .i64 n1, .int .i64 n2, .int .i64 n3, .bool b1, .int .i64 n4, .int .i64 n5, .slice p n6 c], .agg #[.int .i64 n7, .int .i64 n8, .int .i64 n9, .bool b2, .int .i64 n10, .int .i64 n11, .slice p1 n12 c1]] w1.drew fun v w2 => ∃ b3, v = .bool b3 ∧ Sif (!b3) (K (.bool false) w2) (nameI (IntKind.wrap .i64 (n + 1)) fun n13 => ∃ m', m' < m ∧ I m' n13 w2))
  (∃ (I1 : Nat → Int → World → Prop), (∃ m1, I1 m1 0 w1) ∧ ∀ m1 n1 w2, I1 m1 n1 w2 → Sif (decide (n1 < (↑an : Int))) (0 ≤ n1 ∧ n1 < (↑an : Int) ∧ nn a fun a1 => ∃ n2, w2.cell? (Addr.add (a1.add (Int.toNat n1 * 7)) 0) = some (.int .i64 n2) ∧ ∃ n3, w2.cell? (Addr.add (a1.add (Int.toNat n1 * 7)) 1) = some (.int .i64 n3) ∧ ∃ n4, w2.cell? (Addr.add (a1.add (Int.toNat n1 * 7)) 2) = some (.int .i64 n4) ∧ ∃ b1, w2.cell? (Addr.add (a1.add (Int.toNat n1 * 7)) 3) = some (.bool b1) ∧ ∃ n5, w2.cell? (Addr.add (a1.add (Int.toNat n1 * 7)) 4) = some (.int .i64 n5) ∧ ∃ n6, w2.cell? (Addr.add (a1.add (Int.toNat n1 * 7)) 5) = some (.int .i64 n6) ∧ ∃ p n7 c, w2.cell? (Addr.add (a1.add (Int.toNat n1 * 7)) 6) = some (.slice p n7 c) ∧ callP Tryz.prog 33 [.pointer b, .agg #[.int .i64 n2, .int .i64 n3, .int .i64 n4, .bool b1, .int .i64 n5, .int .i64 n6, .slice p n7 c]] w2 fun v w3 => v = .tuple #[] ∧ nameI (IntKind.wrap .i64 (n1 + 1)) fun n8 => ∃ m', m' < m1 ∧ I1 m' n8 w3) (K (.bool true) w2)))
theorem eq_longshorelaw17_sameAll (b a : Option Addr) (an ac : Nat) (want : Option Addr) (wantn wantc : Nat) (w : World) (K : Value → World → Prop) : wpF Tryz.prog none Tryz.f13 (.two .leaf (.two (.two .leaf (.two (.two .leaf .leaf) .leaf)) (.two (.two .leaf (.two (.loop [(7, .cell (.int .i64))] (.two (.two .leaf (.two .leaf .leaf)) (.two (.two (.two (.draw [0, 1, 2, 4, 5, 6, 3, 7, 8, 9]) (.two .leaf (.two (.two .leaf .leaf) .leaf))) .leaf) .leaf))) .leaf)) (.two (.two .leaf (.two (.loop [(9, .cell (.int .i64))] (.two (.two .leaf (.two .leaf .leaf)) (.two (.two .leaf .leaf) .leaf))) .leaf)) (.two .leaf .leaf))))) [Value.pointer b, Value.slice a an ac, Value.slice want wantn wantc] w K = wp_longshorelaw17_sameAll b a an ac want wantn wantc w K := by kernel_rfl
theorem ok_longshorelaw17_sameAll {b a : Option Addr} {an ac : Nat} {want : Option Addr} {wantn wantc : Nat} {w : World} {K : Value → World → Prop} (hwp : wp_longshorelaw17_sameAll b a an ac want wantn wantc w K) : callP Tryz.prog 13 [.pointer b, .slice a an ac, .slice want wantn wantc] w K :=
  calls_of Tryz.func13 ((eq_longshorelaw17_sameAll b a an ac want wantn wantc w K).symm ▸ hwp)

/-- longshore.longshorelaw17.sameNumbers -/
def wp_longshorelaw17_sameNumbers (a : Option Addr) (an ac : Nat) (b : Option Addr) (bn bc : Nat) (w : World) (K : Value → World → Prop) : Prop :=
  Sif ((↑an : Int) != (↑bn : Int)) (K (.bool false) w) (∃ (I : Nat → Int → World → Prop), (∃ m, I m 0 w) ∧ ∀ m n w1, I m n w1 → Sif (decide (n < (↑an : Int))) (0 ≤ n ∧ n < (↑an : Int) ∧ nn a fun a1 => 0 ≤ n ∧ n < (↑bn : Int) ∧ nn b fun a2 => ∃ n1, w1.drew.cell? (a1.add (Int.toNat n * 1)) = some (.int .i64 n1) ∧ ∃ n2, w1.drew.cell? (a2.add (Int.toNat n * 1)) = some (.int .i64 n2) ∧ Sif (n1 != n2) (K (.bool false) w1.drew) (nameI (IntKind.wrap .i64 (n + 1)) fun n3 => ∃ m', m' < m ∧ I m' n3 w1.drew)) (K (.bool true) w1))
theorem eq_longshorelaw17_sameNumbers (a : Option Addr) (an ac : Nat) (b : Option Addr) (bn bc : Nat) (w : World) (K : Value → World → Prop) : wpF Tryz.prog none Tryz.f38 (.two .leaf (.two (.two .leaf (.two (.two .leaf .leaf) .leaf)) (.two (.two .leaf (.two (.loop [(5, .cell (.int .i64))] (.two (.two .leaf (.two .leaf .leaf)) (.two (.two (.two (.draw [0, 1, 2, 4, 5, 6, 3, 7, 8]) (.two (.two .leaf .leaf) .leaf)) .leaf) .leaf))) .leaf)) (.two .leaf .leaf)))) [Value.slice a an ac, Value.slice b bn bc] w K = wp_longshorelaw17_sameNumbers a an ac b bn bc w K := by kernel_rfl
theorem ok_longshorelaw17_sameNumbers {a : Option Addr} {an ac : Nat} {b : Option Addr} {bn bc : Nat} {w : World} {K : Value → World → Prop} (hwp : wp_longshorelaw17_sameNumbers a an ac b bn bc w K) : callP Tryz.prog 38 [.slice a an ac, .slice b bn bc] w K :=
  calls_of Tryz.func38 ((eq_longshorelaw17_sameNumbers a an ac b bn bc w K).symm ▸ hwp)

/-- longshore.longshorelaw17.search -/
def wp_longshorelaw17_search (k q x : Option Addr) (o_0 o_1 o_2 o_3 : Int) (o_4 : Option Addr) (o_4n o_4c : Nat) (o_5 : Bool) (o_6 o_7 o_8 : Int) (o_9 : Bool) (o_10 o_11 : Int) (o_12 : Option Addr) (o_12n o_12c : Nat) (w : World) (K : Value → World → Prop) : Prop :=
  newB w [.int .i64 o_0, .int .i64 o_1, .int .i64 o_2, .int .i64 o_3, .slice o_4 o_4n o_4c, .bool o_5, .int .i64 o_6, .int .i64 o_7, .int .i64 o_8, .bool o_9, .int .i64 o_10, .int .i64 o_11, .slice o_12 o_12n o_12c] 46 fun a w1 =>
  ∃ n,
  w1.cell? (a.add 3) = some (.int .i64 n) ∧
  ∃ p n1 c,
  w1.cell? (a.add 4) = some (.slice p n1 c) ∧
  newB w1 [.pointer k, .bool (n == 1), .slice p n1 c, .slice none 0 0, .pointer x, .bool false] 99 fun a1 w2 =>
  ∃ (J : Bool → World → Prop),
  (∀ b w3, J b w3 →
  newB w3 [.int .i64 0, .int .i64 0, .int .i64 0, .bool false, .int .i64 0, .int .i64 0, .slice none 0 0] 34 fun a2 w4 =>
  st w4 (a2.add 0) (.int .i64 0) fun w5 =>
  st w5 (a2.add 1) (.int .i64 0) fun w6 =>
  st w6 (a2.add 2) (.int .i64 0) fun w7 =>
  st w7 (a2.add 3) (.bool false) fun w8 =>
  st w8 (a2.add 4) (.int .i64 0) fun w9 =>
  st w9 (a2.add 5) (.int .i64 0) fun w10 =>
  st w10 (a2.add 6) (.slice none 0 0) fun w11 =>
  newB w11 [.int .i64 0, .int .i64 0, .int .i64 0, .bool false, .int .i64 0, .int .i64 0, .slice none 0 0] 34 fun a3 w12 =>
  st w12 (a3.add 0) (.int .i64 0) fun w13 =>
  st w13 (a3.add 1) (.int .i64 0) fun w14 =>
  st w14 (a3.add 2) (.int .i64 0) fun w15 =>
  st w15 (a3.add 3) (.bool false) fun w16 =>
  st w16 (a3.add 4) (.int .i64 0) fun w17 =>
  st w17 (a3.add 5) (.int .i64 0) fun w18 =>
  st w18 (a3.add 6) (.slice none 0 0) fun w19 =>
  ∃ (J1 : Option Addr → Nat → Nat → Bool → Bool → World → Prop),
  (∀ p1 n2 c1 b1 b2 w20, J1 p1 n2 c1 b1 b2 w20 →
  ∃ n3,
  w20.cell? (a2.add 0) = some (.int .i64 n3) ∧
  ∃ n4,
  w20.cell? (a2.add 1) = some (.int .i64 n4) ∧
  ∃ n5,
  w20.cell? (a2.add 2) = some (.int .i64 n5) ∧
  ∃ b3,
  w20.cell? (a2.add 3) = some (.bool b3) ∧
  ∃ n6,
  w20.cell? (a2.add 4) = some (.int .i64 n6) ∧
  ∃ n7,
  w20.cell? (a2.add 5) = some (.int .i64 n7) ∧
  ∃ p2 n8 c2,
  w20.cell? (a2.add 6) = some (.slice p2 n8 c2) ∧
  ∃ n9,
  w20.cell? (a3.add 0) = some (.int .i64 n9) ∧
  ∃ n10, w20.cell? (a3.add 1) = some (.int .i64 n10) ∧ ∃ n11, w20.cell? (a3.add 2) = some (.int .i64 n11) ∧ ∃ b4, w20.cell? (a3.add 3) = some (.bool b4) ∧ ∃ n12, w20.cell? (a3.add 4) = some (.int .i64 n12) ∧ ∃ n13, w20.cell? (a3.add 5) = some (.int .i64 n13) ∧ ∃ p3 n14 c3, w20.cell? (a3.add 6) = some (.slice p3 n14 c3) ∧ callP Tryz.prog 11 [.agg #[.int .i64 n3, .int .i64 n4, .int .i64 n5, .bool b3, .int .i64 n6, .int .i64 n7, .slice p2 n8 c2], .agg #[.int .i64 n9, .int .i64 n10, .int .i64 n11, .bool b4, .int .i64 n12, .int .i64 n13, .slice p3 n14 c3]] w20 fun v w21 => ∃ b5, v = .bool b5 ∧ ∃ n15, w21.cell? (a2.add 0) = some (.int .i64 n15) ∧ ∃ n16, w21.cell? (a2.add 1) = some (.int .i64 n16) ∧ ∃ n17, w21.cell? (a2.add 2) = some (.int .i64 n17) ∧ ∃ b6, w21.cell? (a2.add 3) = some (.bool b6) ∧ ∃ n18, w21.cell? (a2.add 4) = some (.int .i64 n18) ∧ ∃ n19, w21.cell? (a2.add 5) = some (.int .i64 n19) ∧ ∃ p4 n20 c4, w21.cell? (a2.add 6) = some (.slice p4 n20 c4) ∧ callP Tryz.prog 33 [.pointer k, .agg #[.int .i64 n15, .int .i64 n16, .int .i64 n17, .bool b6, .int .i64 n18, .int .i64 n19, .slice p4 n20 c4]] w21 fun v1 w22 => v1 = .tuple #[] ∧ ∃ p5 n21 c5, w22.cell? (a1.add 3) = some (.slice p5 n21 c5) ∧ callP Tryz.prog 38 [.slice p5 n21 c5, .slice p1 n2 c1] w22 fun v2 w23 => ∃ b7, v2 = .bool b7 ∧ Sif b5 (Sif (b1 == b2) (∃ b8, w23.cell? (a1.add 5) = some (.bool b8) ∧ Sif (!b8) (Sif (!b7) (∃ n22, w23.cell? (a.add 3) = some (.int .i64 n22) ∧ Sif (n22 == 0) (∃ p6 n23 c6, w23.cell? (a1.add 3) = some (.slice p6 n23 c6) ∧ K (.bool ((↑n23 : Int) == 0)) w23) (K (.bool false) w23)) (K (.bool true) w23)) (K (.bool false) w23)) (K (.bool false) w23)) (K (.bool false) w23)) ∧
  ∃ n2,
  w19.cell? (a.add 0) = some (.int .i64 n2) ∧
  Sif (n2 == 2)
  (∃ (J2 : Option Addr → Nat → Nat → World → Prop),
  (∀ p1 n3 c1 w20, J2 p1 n3 c1 w20 →
  ∃ (J3 : Bool → World → Prop),
  (∀ b1 w21, J3 b1 w21 → ∃ n4, w21.cell? (a.add 1) = some (.int .i64 n4) ∧ ∃ p2 n5 c2, w21.cell? (a.add 4) = some (.slice p2 n5 c2) ∧ callP Tryz.prog 61 [.pointer x, .int .i64 n4, .bool b, .slice p2 n5 c2] w21 fun v w22 => ∃ n6 n7, ∃ n8 b2, ∃ n9 n10, ∃ p3 n11, ∃ c3 b3, v = .tuple #[.agg #[.int .i64 n6, .int .i64 n7, .int .i64 n8, .bool b2, .int .i64 n9, .int .i64 n10, .slice p3 n11 c3], .bool b3] ∧ st w22 (a3.add 0) (.int .i64 n6) fun w23 => st w23 (a3.add 1) (.int .i64 n7) fun w24 => st w24 (a3.add 2) (.int .i64 n8) fun w25 => st w25 (a3.add 3) (.bool b2) fun w26 => st w26 (a3.add 4) (.int .i64 n9) fun w27 => st w27 (a3.add 5) (.int .i64 n10) fun w28 => st w28 (a3.add 6) (.slice p3 n11 c3) fun w29 => J1 p1 n3 c1 b1 b3 w29) ∧
  ∃ n4, w20.cell? (a.add 3) = some (.int .i64 n4) ∧ Sif (n4 == 0) (∃ n5, w20.cell? (a.add 1) = some (.int .i64 n5) ∧ callP Tryz.prog 18 [.pointer q, .int .i64 n5, .nilFunc] w20 fun v w21 => ∃ n6 n7, ∃ n8 b1, ∃ n9 n10, ∃ p2 n11, ∃ c2 b2, v = .tuple #[.agg #[.int .i64 n6, .int .i64 n7, .int .i64 n8, .bool b1, .int .i64 n9, .int .i64 n10, .slice p2 n11 c2], .bool b2] ∧ st w21 (a2.add 0) (.int .i64 n6) fun w22 => st w22 (a2.add 1) (.int .i64 n7) fun w23 => st w23 (a2.add 2) (.int .i64 n8) fun w24 => st w24 (a2.add 3) (.bool b1) fun w25 => st w25 (a2.add 4) (.int .i64 n9) fun w26 => st w26 (a2.add 5) (.int .i64 n10) fun w27 => st w27 (a2.add 6) (.slice p2 n11 c2) fun w28 => J3 b2 w28) (∃ n5, w20.cell? (a.add 1) = some (.int .i64 n5) ∧ callP Tryz.prog 18 [.pointer q, .int .i64 n5, .func (Fn.func 60) #[.pointer (some a1)] #[]] w20 fun v w21 => ∃ n6 n7, ∃ n8 b1, ∃ n9 n10, ∃ p2 n11, ∃ c2 b2, v = .tuple #[.agg #[.int .i64 n6, .int .i64 n7, .int .i64 n8, .bool b1, .int .i64 n9, .int .i64 n10, .slice p2 n11 c2], .bool b2] ∧ st w21 (a2.add 0) (.int .i64 n6) fun w22 => st w22 (a2.add 1) (.int .i64 n7) fun w23 => st w23 (a2.add 2) (.int .i64 n8) fun w24 => st w24 (a2.add 3) (.bool b1) fun w25 => st w25 (a2.add 4) (.int .i64 n9) fun w26 => st w26 (a2.add 5) (.int .i64 n10) fun w27 => st w27 (a2.add 6) (.slice p2 n11 c2) fun w28 => J3 b2 w28)) ∧
  ∃ n3, w19.cell? (a.add 1) = some (.int .i64 n3) ∧ Sif (decide (n3 ≥ 1)) (callP Tryz.prog 30 [.pointer x] w19 fun v w20 => ∃ p1 n4 c1, v = .slice p1 n4 c1 ∧ ∃ p2 n5 c2, w20.cell? (a.add 4) = some (.slice p2 n5 c2) ∧ callP Tryz.prog 59 [.slice p1 n4 c1, .bool b, .slice p2 n5 c2] w20 fun v1 w21 => ∃ p3 n6, ∃ c3 n7, v1 = .tuple #[.slice p3 n6 c3, .int .i64 n7] ∧ J2 p3 n6 c3 w21) (J2 none 0 0 w19))
  (∃ n3,
  w19.cell? (a.add 1) = some (.int .i64 n3) ∧
  callP Tryz.prog 62 [.pointer x, .int .i64 n3] w19 fun v w20 =>
  ∃ p1 n4 c1,
  v = .slice p1 n4 c1 ∧
  ∃ p2 n5 c2,
  w20.cell? (a.add 4) = some (.slice p2 n5 c2) ∧
  callP Tryz.prog 59 [.slice p1 n4 c1, .bool b, .slice p2 n5 c2] w20 fun v1 w21 =>
  ∃ p3 n6,
  ∃ c3 n7,
  v1 = .tuple #[.slice p3 n6 c3, .int .i64 n7] ∧
  ∃ (J2 : Bool → World → Prop),
  (∀ b1 w22, J2 b1 w22 → ∃ n8, w22.cell? (a.add 1) = some (.int .i64 n8) ∧ ∃ p4 n9 c4, w22.cell? (a.add 4) = some (.slice p4 n9 c4) ∧ callP Tryz.prog 64 [.pointer x, .int .i64 n8, .bool b, .slice p4 n9 c4] w22 fun v2 w23 => ∃ n10 n11, ∃ n12 b2, ∃ n13 n14, ∃ p5 n15, ∃ c5 b3, v2 = .tuple #[.agg #[.int .i64 n10, .int .i64 n11, .int .i64 n12, .bool b2, .int .i64 n13, .int .i64 n14, .slice p5 n15 c5], .bool b3] ∧ st w23 (a3.add 0) (.int .i64 n10) fun w24 => st w24 (a3.add 1) (.int .i64 n11) fun w25 => st w25 (a3.add 2) (.int .i64 n12) fun w26 => st w26 (a3.add 3) (.bool b2) fun w27 => st w27 (a3.add 4) (.int .i64 n13) fun w28 => st w28 (a3.add 5) (.int .i64 n14) fun w29 => st w29 (a3.add 6) (.slice p5 n15 c5) fun w30 => J1 p3 n6 c3 b1 b3 w30) ∧
  ∃ n8, w21.cell? (a.add 3) = some (.int .i64 n8) ∧ Sif (n8 == 0) (∃ n9, w21.cell? (a.add 1) = some (.int .i64 n9) ∧ callP Tryz.prog 63 [.pointer q, .int .i64 n9, .nilFunc] w21 fun v2 w22 => ∃ n10 n11, ∃ n12 b1, ∃ n13 n14, ∃ p4 n15, ∃ c4 b2, v2 = .tuple #[.agg #[.int .i64 n10, .int .i64 n11, .int .i64 n12, .bool b1, .int .i64 n13, .int .i64 n14, .slice p4 n15 c4], .bool b2] ∧ st w22 (a2.add 0) (.int .i64 n10) fun w23 => st w23 (a2.add 1) (.int .i64 n11) fun w24 => st w24 (a2.add 2) (.int .i64 n12) fun w25 => st w25 (a2.add 3) (.bool b1) fun w26 => st w26 (a2.add 4) (.int .i64 n13) fun w27 => st w27 (a2.add 5) (.int .i64 n14) fun w28 => st w28 (a2.add 6) (.slice p4 n15 c4) fun w29 => J2 b2 w29) (∃ n9, w21.cell? (a.add 1) = some (.int .i64 n9) ∧ callP Tryz.prog 63 [.pointer q, .int .i64 n9, .func (Fn.func 60) #[.pointer (some a1)] #[]] w21 fun v2 w22 => ∃ n10 n11, ∃ n12 b1, ∃ n13 n14, ∃ p4 n15, ∃ c4 b2, v2 = .tuple #[.agg #[.int .i64 n10, .int .i64 n11, .int .i64 n12, .bool b1, .int .i64 n13, .int .i64 n14, .slice p4 n15 c4], .bool b2] ∧ st w22 (a2.add 0) (.int .i64 n10) fun w23 => st w23 (a2.add 1) (.int .i64 n11) fun w24 => st w24 (a2.add 2) (.int .i64 n12) fun w25 => st w25 (a2.add 3) (.bool b1) fun w26 => st w26 (a2.add 4) (.int .i64 n13) fun w27 => st w27 (a2.add 5) (.int .i64 n14) fun w28 => st w28 (a2.add 6) (.slice p4 n15 c4) fun w29 => J2 b2 w29))) ∧
  ∃ n2, w2.cell? (a.add 3) = some (.int .i64 n2) ∧ Sif (!n2 == 0) (∃ n3, w2.cell? (a.add 3) = some (.int .i64 n3) ∧ J (n3 == 1) w2) (J true w2)
theorem eq_longshorelaw17_search (k q x : Option Addr) (o_0 o_1 o_2 o_3 : Int) (o_4 : Option Addr) (o_4n o_4c : Nat) (o_5 : Bool) (o_6 o_7 o_8 : Int) (o_9 : Bool) (o_10 o_11 : Int) (o_12 : Option Addr) (o_12n o_12c : Nat) (w : World) (K : Value → World → Prop) : wpF Tryz.prog none Tryz.f31 (.two .leaf (.two .leaf (.two (.meet [(10, .cell .bool)] .leaf) (.two .leaf (.two .leaf (.two .leaf (.two .leaf (.two .leaf (.two (.meet [(11, .cell .slice), (13, .cell .bool), (15, .cell .bool)] (.two .leaf (.two (.two (.meet [(11, .cell .slice)] (.two .leaf (.two (.two .leaf (.two .leaf .leaf)) .leaf))) (.two (.meet [(13, .cell .bool)] (.two .leaf (.two .leaf .leaf))) .leaf)) (.two .leaf (.two .leaf (.two .leaf (.two (.meet [(13, .cell .bool)] (.two .leaf (.two .leaf .leaf))) .leaf))))))) (.two .leaf (.two .leaf (.two .leaf (.two .leaf .leaf))))))))))))) [Value.pointer k, Value.pointer q, Value.pointer x, Value.agg #[Value.int .i64 o_0, Value.int .i64 o_1, Value.int .i64 o_2, Value.int .i64 o_3, Value.slice o_4 o_4n o_4c, Value.bool o_5, Value.int .i64 o_6, Value.int .i64 o_7, Value.int .i64 o_8, Value.bool o_9, Value.int .i64 o_10, Value.int .i64 o_11, Value.slice o_12 o_12n o_12c]] w K = wp_longshorelaw17_search k q x o_0 o_1 o_2 o_3 o_4 o_4n o_4c o_5 o_6 o_7 o_8 o_9 o_10 o_11 o_12 o_12n o_12c w K := by kernel_rfl
theorem ok_longshorelaw17_search {k q x : Option Addr} {o_0 o_1 o_2 o_3 : Int} {o_4 : Option Addr} {o_4n o_4c : Nat} {o_5 : Bool} {o_6 o_7 o_8 : Int} {o_9 : Bool} {o_10 o_11 : Int} {o_12 : Option Addr} {o_12n o_12c : Nat} {w : World} {K : Value → World → Prop} (hwp : wp_longshorelaw17_search k q x o_0 o_1 o_2 o_3 o_4 o_4n o_4c o_5 o_6 o_7 o_8 o_9 o_10 o_11 o_12 o_12n o_12c w K) : callP Tryz.prog 31 [.pointer k, .pointer q, .pointer x, .agg #[.int .i64 o_0, .int .i64 o_1, .int .i64 o_2, .int .i64 o_3, .slice o_4 o_4n o_4c, .bool o_5, .int .i64 o_6, .int .i64 o_7, .int .i64 o_8, .bool o_9, .int .i64 o_10, .int .i64 o_11, .slice o_12 o_12n o_12c]] w K :=
  calls_of Tryz.func31 ((eq_longshorelaw17_search k q x o_0 o_1 o_2 o_3 o_4 o_4n o_4c o_5 o_6 o_7 o_8 o_9 o_10 o_11 o_12 o_12n o_12c w K).symm ▸ hwp)

/-- longshore.longshorelaw17.put -/
def wp_longshorelaw17_put (q x : Option Addr) (e_0 e_1 e_2 : Int) (e_3 : Bool) (e_4 e_5 : Int) (e_6 : Option Addr) (e_6n e_6c : Nat) (w : World) (K : Value → World → Prop) : Prop :=
  newB w [.int .i64 e_0, .int .i64 e_1, .int .i64 e_2, .bool e_3, .int .i64 e_4, .int .i64 e_5, .slice e_6 e_6n e_6c] 34 fun a w1 =>
  ∃ p n c,
  w1.cell? (a.add 6) = some (.slice p n c) ∧
  ∃ p1 n1,
  ∃ c1 w2,
  Sem.run Tryz.prog (Instr.makeSlice 32 (.int .i64 (IntKind.wrap .i64 ((↑n : Int) + 2))) (.int .i64 (IntKind.wrap .i64 ((↑n : Int) + 2)))) w1 = Result.ok (.slice p1 n1 c1) w2 ∧
  ∃ p2 n2 c2,
  w2.cell? (a.add 6) = some (.slice p2 n2 c2) ∧
  ∃ n3 w3,
  Sem.run Tryz.prog (Builtin.copy_ #[32, 32] 3 #[.slice p1 n1 c1, .slice p2 n2 c2]) w2 = Result.ok (.int .i64 n3) w3 ∧
  0 ≤ (↑n : Int) ∧
  (↑n : Int) < (↑n1 : Int) ∧
  nn p1 fun a1 =>
  st w3 (Addr.add (a1.add (Int.toNat (↑n : Int) * 1)) 0) (.int .u8 71) fun w4 =>
  0 ≤ IntKind.wrap .i64 ((↑n : Int) + 1) ∧
  IntKind.wrap .i64 ((↑n : Int) + 1) < (↑n1 : Int) ∧
  nn p1 fun a2 =>
  st w4 (Addr.add (Addr.add a2 (Int.toNat (IntKind.wrap .i64 ((↑n : Int) + 1)) * 1)) 0) (.int .u8 72) fun w5 =>
  ∃ n4,
  w5.cell? (a.add 0) = some (.int .i64 n4) ∧
  ∃ n5,
  w5.cell? (a.add 1) = some (.int .i64 n5) ∧
  ∃ n6,
  w5.cell? (a.add 2) = some (.int .i64 n6) ∧
  ∃ b,
  w5.cell? (a.add 3) = some (.bool b) ∧
  ∃ n7,
  w5.cell? (a.add 4) = some (.int .i64 n7) ∧
  ∃ n8,
  w5.cell? (a.add 5) = some (.int .i64 n8) ∧
  ∃ p3 n9 c3,
  w5.cell? (a.add 6) = some (.slice p3 n9 c3) ∧
  newB w5 [.int .i64 0, .int .i64 0, .int .i64 0, .bool false, .int .i64 0, .int .i64 0, .slice none 0 0] 34 fun a3 w6 =>
  st w6 (a3.add 0) (.int .i64 n4) fun w7 =>
  st w7 (a3.add 1) (.int .i64 n5) fun w8 =>
  st w8 (a3.add 2) (.int .i64 n6) fun w9 =>
  st w9 (a3.add 3) (.bool b) fun w10 =>
  st w10 (a3.add 4) (.int .i64 n7) fun w11 =>
  st w11 (a3.add 5) (.int .i64 n8) fun w12 =>
  st w12 (a3.add 6) (.slice p3 n9 c3) fun w13 =>
  0 ≤ (↑n : Int) ∧
  (↑n : Int) ≤ (↑c1 : Int) ∧
  st w13 ((a3.add 6).add 0) (.slice p1 (Int.toNat (↑n : Int)) c1) fun w14 =>
  ∃ n10,
  w14.cell? (a3.add 0) = some (.int .i64 n10) ∧
  ∃ n11,
  w14.cell? (a3.add 1) = some (.int .i64 n11) ∧
  ∃ n12,
  w14.cell? (a3.add 2) = some (.int .i64 n12) ∧
  ∃ b1,
  w14.cell? (a3.add 3) = some (.bool b1) ∧
  ∃ n13, w14.cell? (a3.add 4) = some (.int .i64 n13) ∧ ∃ n14, w14.cell? (a3.add 5) = some (.int .i64 n14) ∧ ∃ p4 n15 c4, w14.cell? (a3.add 6) = some (.slice p4 n15 c4) ∧ callP Tryz.prog 17 [.pointer q, .agg #[.int .i64 n10, .int .i64 n11, .int .i64 n12, .bool b1, .int .i64 n13, .int .i64 n14, .slice p4 n15 c4]] w14 fun v w15 => ∃ n16, v = .int .i64 n16 ∧ ∃ n17, w15.cell? (a.add 0) = some (.int .i64 n17) ∧ ∃ n18, w15.cell? (a.add 1) = some (.int .i64 n18) ∧ ∃ n19, w15.cell? (a.add 2) = some (.int .i64 n19) ∧ ∃ b2, w15.cell? (a.add 3) = some (.bool b2) ∧ ∃ n20, w15.cell? (a.add 4) = some (.int .i64 n20) ∧ ∃ n21, w15.cell? (a.add 5) = some (.int .i64 n21) ∧ ∃ p5 n22 c5, w15.cell? (a.add 6) = some (.slice p5 n22 c5) ∧ callP Tryz.prog 23 [.pointer x, .agg #[.int .i64 n17, .int .i64 n18, .int .i64 n19, .bool b2, .int .i64 n20, .int .i64 n21, .slice p5 n22 c5]] w15 fun v1 w16 => ∃ n23, v1 = .int .i64 n23 ∧ ∃ (J : Bool → World → Prop), (∀ b3 w17, J b3 w17 → callP Tryz.prog 25 [.slice p1 n1 c1] w17 fun v2 w18 => v2 = .tuple #[] ∧ Sif (n16 == n23) (K (.bool b3) w18) (K (.bool false) w18)) ∧ 0 ≤ (↑n : Int) ∧ (↑n : Int) ≤ (↑c1 : Int) ∧ ∃ p6 n24 c6, w16.drew.cell? (a.add 6) = some (.slice p6 n24 c6) ∧ callP Tryz.prog 24 [.slice p1 (Int.toNat (↑n : Int)) c1, .slice p6 n24 c6] w16.drew fun v2 w17 => ∃ b3, v2 = .bool b3 ∧ Sif b3 (0 ≤ (↑n : Int) ∧ (↑n : Int) < (↑n1 : Int) ∧ nn p1 fun a4 => ∃ n25, w17.cell? (a4.add (Int.toNat (↑n : Int) * 1)) = some (.int .u8 n25) ∧ Sif (n25 == 71) (0 ≤ IntKind.wrap .i64 ((↑n : Int) + 1) ∧ IntKind.wrap .i64 ((↑n : Int) + 1) < (↑n1 : Int) ∧ nn p1 fun a5 => ∃ n26, w17.cell? (Addr.add a5 (Int.toNat (IntKind.wrap .i64 ((↑n : Int) + 1)) * 1)) = some (.int .u8 n26) ∧ J (n26 == 72) w17) (J false w17)) (J false w17)
theorem eq_longshorelaw17_put (q x : Option Addr) (e_0 e_1 e_2 : Int) (e_3 : Bool) (e_4 e_5 : Int) (e_6 : Option Addr) (e_6n e_6c : Nat) (w : World) (K : Value → World → Prop) : wpF Tryz.prog none Tryz.f8 (.two .leaf (.two .leaf (.two .leaf (.two .leaf (.two .leaf (.two .leaf (.two .leaf (.two .leaf (.two .leaf (.two .leaf (.two (.meet [(12, .cell .bool)] (.draw [0, 1, 2, 3, 4, 5, 6, 7, 8, 9, 10, 11, 12, 13, 14, 15, 16, 17, 18, 19, 20, 21])) (.two .leaf (.two .leaf .leaf))))))))))))) [Value.pointer q, Value.pointer x, Value.agg #[Value.int .i64 e_0, Value.int .i64 e_1, Value.int .i64 e_2, Value.bool e_3, Value.int .i64 e_4, Value.int .i64 e_5, Value.slice e_6 e_6n e_6c]] w K = wp_longshorelaw17_put q x e_0 e_1 e_2 e_3 e_4 e_5 e_6 e_6n e_6c w K := by kernel_rfl
theorem ok_longshorelaw17_put {q x : Option Addr} {e_0 e_1 e_2 : Int} {e_3 : Bool} {e_4 e_5 : Int} {e_6 : Option Addr} {e_6n e_6c : Nat} {w : World} {K : Value → World → Prop} (hwp : wp_longshorelaw17_put q x e_0 e_1 e_2 e_3 e_4 e_5 e_6 e_6n e_6c w K) : callP Tryz.prog 8 [.pointer q, .pointer x, .agg #[.int .i64 e_0, .int .i64 e_1, .int .i64 e_2, .bool e_3, .int .i64 e_4, .int .i64 e_5, .slice e_6 e_6n e_6c]] w K :=
  calls_of Tryz.func8 ((eq_longshorelaw17_put q x e_0 e_1 e_2 e_3 e_4 e_5 e_6 e_6n e_6c w K).symm ▸ hwp)

/-- longshore.longshorelaw17.step -/
def wp_longshorelaw17_step (k q x : Option Addr) (o_0 o_1 o_2 o_3 : Int) (o_4 : Option Addr) (o_4n o_4c : Nat) (o_5 : Bool) (o_6 o_7 o_8 : Int) (o_9 : Bool) (o_10 o_11 : Int) (o_12 : Option Addr) (o_12n o_12c : Nat) (w : World) (K : Value → World → Prop) : Prop :=
  newB w [.int .i64 o_0, .int .i64 o_1, .int .i64 o_2, .int .i64 o_3, .slice o_4 o_4n o_4c, .bool o_5, .int .i64 o_6, .int .i64 o_7, .int .i64 o_8, .bool o_9, .int .i64 o_10, .int .i64 o_11, .slice o_12 o_12n o_12c] 46 fun a w1 =>
  ∃ n,
  w1.cell? (a.add 0) = some (.int .i64 n) ∧
  Sif (n == 1) (∃ n1, w1.cell? ((a.add 6).add 0) = some (.int .i64 n1) ∧ ∃ n2, w1.cell? ((a.add 6).add 1) = some (.int .i64 n2) ∧ ∃ n3, w1.cell? ((a.add 6).add 2) = some (.int .i64 n3) ∧ ∃ b, w1.cell? ((a.add 6).add 3) = some (.bool b) ∧ ∃ n4, w1.cell? ((a.add 6).add 4) = some (.int .i64 n4) ∧ ∃ n5, w1.cell? ((a.add 6).add 5) = some (.int .i64 n5) ∧ ∃ p n6 c, w1.cell? ((a.add 6).add 6) = some (.slice p n6 c) ∧ callP Tryz.prog 8 [.pointer q, .pointer x, .agg #[.int .i64 n1, .int .i64 n2, .int .i64 n3, .bool b, .int .i64 n4, .int .i64 n5, .slice p n6 c]] w1 fun v w2 => ∃ b1, v = .bool b1 ∧ K (.bool b1) w2)
  (∃ (J : Bool → World → Prop),
  (∀ b w2, J b w2 →
  Sif b (∃ n1, w2.cell? (a.add 0) = some (.int .i64 n1) ∧ ∃ n2, w2.cell? (a.add 1) = some (.int .i64 n2) ∧ ∃ n3, w2.cell? (a.add 2) = some (.int .i64 n3) ∧ ∃ n4, w2.cell? (a.add 3) = some (.int .i64 n4) ∧ ∃ p n5 c, w2.cell? (a.add 4) = some (.slice p n5 c) ∧ ∃ b1, w2.cell? (a.add 5) = some (.bool b1) ∧ ∃ n6, w2.cell? (a.add 6) = some (.int .i64 n6) ∧ ∃ n7, w2.cell? (a.add 7) = some (.int .i64 n7) ∧ ∃ n8, w2.cell? (a.add 8) = some (.int .i64 n8) ∧ ∃ b2, w2.cell? (a.add 9) = some (.bool b2) ∧ ∃ n9, w2.cell? (a.add 10) = some (.int .i64 n9) ∧ ∃ n10, w2.cell? (a.add 11) = some (.int .i64 n10) ∧ ∃ p1 n11 c1, w2.cell? (a.add 12) = some (.slice p1 n11 c1) ∧ callP Tryz.prog 31 [.pointer k, .pointer q, .pointer x, .agg #[.int .i64 n1, .int .i64 n2, .int .i64 n3, .int .i64 n4, .slice p n5 c, .bool b1, .int .i64 n6, .int .i64 n7, .int .i64 n8, .bool b2, .int .i64 n9, .int .i64 n10, .slice p1 n11 c1]] w2 fun v w3 => ∃ b3, v = .bool b3 ∧ K (.bool b3) w3)
  (Sif (n == 4)
  (∃ n1,
  w2.cell? (a.add 1) = some (.int .i64 n1) ∧
  ∃ n2,
  w2.cell? (a.add 2) = some (.int .i64 n2) ∧
  ∃ b1,
  w2.cell? (a.add 5) = some (.bool b1) ∧
  callP Tryz.prog 19 [.pointer q, .int .i64 n1, .int .i64 n2, .bool b1] w2 fun v w3 =>
  ∃ n3 n4,
  ∃ n5 b2,
  ∃ n6 n7,
  ∃ p n8,
  ∃ c b3 n9,
  v = .tuple #[.agg #[.int .i64 n3, .int .i64 n4, .int .i64 n5, .bool b2, .int .i64 n6, .int .i64 n7, .slice p n8 c], .bool b3, .int .i64 n9] ∧
  newB w3 [.int .i64 0, .int .i64 0, .int .i64 0, .bool false, .int .i64 0, .int .i64 0, .slice none 0 0] 34 fun a1 w4 =>
  st w4 (a1.add 0) (.int .i64 n3) fun w5 =>
  st w5 (a1.add 1) (.int .i64 n4) fun w6 =>
  st w6 (a1.add 2) (.int .i64 n5) fun w7 =>
  st w7 (a1.add 3) (.bool b2) fun w8 =>
  st w8 (a1.add 4) (.int .i64 n6) fun w9 =>
  st w9 (a1.add 5) (.int .i64 n7) fun w10 =>
  st w10 (a1.add 6) (.slice p n8 c) fun w11 =>
  ∃ n10,
  w11.cell? (a.add 1) = some (.int .i64 n10) ∧
  ∃ n11,
  w11.cell? (a.add 2) = some (.int .i64 n11) ∧
  ∃ b4,
  w11.cell? (a.add 5) = some (.bool b4) ∧
  callP Tryz.prog 32 [.pointer x, .int .i64 n10, .int .i64 n11, .bool b4] w11 fun v1 w12 =>
  ∃ n12 n13,
  ∃ n14 b5,
  ∃ n15 n16,
  ∃ p1 n17,
  ∃ c1 b6 n18,
  v1 = .tuple #[.agg #[.int .i64 n12, .int .i64 n13, .int .i64 n14, .bool b5, .int .i64 n15, .int .i64 n16, .slice p1 n17 c1], .bool b6, .int .i64 n18] ∧
  newB w12 [.int .i64 0, .int .i64 0, .int .i64 0, .bool false, .int .i64 0, .int .i64 0, .slice none 0 0] 34 fun a2 w13 =>
  st w13 (a2.add 0) (.int .i64 n12) fun w14 =>
  st w14 (a2.add 1) (.int .i64 n13) fun w15 =>
  st w15 (a2.add 2) (.int .i64 n14) fun w16 =>
  st w16 (a2.add 3) (.bool b5) fun w17 =>
  st w17 (a2.add 4) (.int .i64 n15) fun w18 =>
  st w18 (a2.add 5) (.int .i64 n16) fun w19 =>
  st w19 (a2.add 6) (.slice p1 n17 c1) fun w20 =>
  ∃ n19,
  w20.cell? (a1.add 0) = some (.int .i64 n19) ∧
  ∃ n20, w20.cell? (a1.add 1) = some (.int .i64 n20) ∧ ∃ n21, w20.cell? (a1.add 2) = some (.int .i64 n21) ∧ ∃ b7, w20.cell? (a1.add 3) = some (.bool b7) ∧ ∃ n22, w20.cell? (a1.add 4) = some (.int .i64 n22) ∧ ∃ n23, w20.cell? (a1.add 5) = some (.int .i64 n23) ∧ ∃ p2 n24 c2, w20.cell? (a1.add 6) = some (.slice p2 n24 c2) ∧ ∃ n25, w20.cell? (a2.add 0) = some (.int .i64 n25) ∧ ∃ n26, w20.cell? (a2.add 1) = some (.int .i64 n26) ∧ ∃ n27, w20.cell? (a2.add 2) = some (.int .i64 n27) ∧ ∃ b8, w20.cell? (a2.add 3) = some (.bool b8) ∧ ∃ n28, w20.cell? (a2.add 4) = some (.int .i64 n28) ∧ ∃ n29, w20.cell? (a2.add 5) = some (.int .i64 n29) ∧ ∃ p3 n30 c3, w20.cell? (a2.add 6) = some (.slice p3 n30 c3) ∧ callP Tryz.prog 11 [.agg #[.int .i64 n19, .int .i64 n20, .int .i64 n21, .bool b7, .int .i64 n22, .int .i64 n23, .slice p2 n24 c2], .agg #[.int .i64 n25, .int .i64 n26, .int .i64 n27, .bool b8, .int .i64 n28, .int .i64 n29, .slice p3 n30 c3]] w20 fun v2 w21 => ∃ b9, v2 = .bool b9 ∧ ∃ n31, w21.cell? (a1.add 0) = some (.int .i64 n31) ∧ ∃ n32, w21.cell? (a1.add 1) = some (.int .i64 n32) ∧ ∃ n33, w21.cell? (a1.add 2) = some (.int .i64 n33) ∧ ∃ b10, w21.cell? (a1.add 3) = some (.bool b10) ∧ ∃ n34, w21.cell? (a1.add 4) = some (.int .i64 n34) ∧ ∃ n35, w21.cell? (a1.add 5) = some (.int .i64 n35) ∧ ∃ p4 n36 c4, w21.cell? (a1.add 6) = some (.slice p4 n36 c4) ∧ callP Tryz.prog 33 [.pointer k, .agg #[.int .i64 n31, .int .i64 n32, .int .i64 n33, .bool b10, .int .i64 n34, .int .i64 n35, .slice p4 n36 c4]] w21 fun v3 w22 => v3 = .tuple #[] ∧ Sif b9 (Sif (b3 == b6) (K (.bool (n9 == n18)) w22) (K (.bool false) w22)) (K (.bool false) w22))
  (Sif (n == 5)
  (∃ n1,
  w2.cell? (a.add 1) = some (.int .i64 n1) ∧
  ∃ n2,
  w2.cell? (a.add 2) = some (.int .i64 n2) ∧
  callP Tryz.prog 34 [.pointer q, .int .i64 n1, .int .i64 n2] w2 fun v w3 =>
  ∃ n3 n4,
  ∃ n5 b1,
  ∃ n6 n7,
  ∃ p n8,
  ∃ c n9,
  v = .tuple #[.agg #[.int .i64 n3, .int .i64 n4, .int .i64 n5, .bool b1, .int .i64 n6, .int .i64 n7, .slice p n8 c], .int .i64 n9] ∧
  newB w3 [.int .i64 0, .int .i64 0, .int .i64 0, .bool false, .int .i64 0, .int .i64 0, .slice none 0 0] 34 fun a1 w4 =>
  st w4 (a1.add 0) (.int .i64 n3) fun w5 =>
  st w5 (a1.add 1) (.int .i64 n4) fun w6 =>
  st w6 (a1.add 2) (.int .i64 n5) fun w7 =>
  st w7 (a1.add 3) (.bool b1) fun w8 =>
  st w8 (a1.add 4) (.int .i64 n6) fun w9 =>
  st w9 (a1.add 5) (.int .i64 n7) fun w10 =>
  st w10 (a1.add 6) (.slice p n8 c) fun w11 =>
  ∃ n10,
  w11.cell? (a.add 1) = some (.int .i64 n10) ∧
  ∃ n11,
  w11.cell? (a.add 2) = some (.int .i64 n11) ∧
  callP Tryz.prog 35 [.pointer x, .int .i64 n10, .int .i64 n11] w11 fun v1 w12 =>
  ∃ n12 n13,
  ∃ n14 b2,
  ∃ n15 n16,
  ∃ p1 n17,
  ∃ c1 n18,
  v1 = .tuple #[.agg #[.int .i64 n12, .int .i64 n13, .int .i64 n14, .bool b2, .int .i64 n15, .int .i64 n16, .slice p1 n17 c1], .int .i64 n18] ∧
  newB w12 [.int .i64 0, .int .i64 0, .int .i64 0, .bool false, .int .i64 0, .int .i64 0, .slice none 0 0] 34 fun a2 w13 =>
  st w13 (a2.add 0) (.int .i64 n12) fun w14 =>
  st w14 (a2.add 1) (.int .i64 n13) fun w15 =>
  st w15 (a2.add 2) (.int .i64 n14) fun w16 =>
  st w16 (a2.add 3) (.bool b2) fun w17 =>
  st w17 (a2.add 4) (.int .i64 n15) fun w18 =>
  st w18 (a2.add 5) (.int .i64 n16) fun w19 =>
  st w19 (a2.add 6) (.slice p1 n17 c1) fun w20 =>
  ∃ n19, w20.cell? (a1.add 0) = some (.int .i64 n19) ∧ ∃ n20, w20.cell? (a1.add 1) = some (.int .i64 n20) ∧ ∃ n21, w20.cell? (a1.add 2) = some (.int .i64 n21) ∧ ∃ b3, w20.cell? (a1.add 3) = some (.bool b3) ∧ ∃ n22, w20.cell? (a1.add 4) = some (.int .i64 n22) ∧ ∃ n23, w20.cell? (a1.add 5) = some (.int .i64 n23) ∧ ∃ p2 n24 c2, w20.cell? (a1.add 6) = some (.slice p2 n24 c2) ∧ ∃ n25, w20.cell? (a2.add 0) = some (.int .i64 n25) ∧ ∃ n26, w20.cell? (a2.add 1) = some (.int .i64 n26) ∧ ∃ n27, w20.cell? (a2.add 2) = some (.int .i64 n27) ∧ ∃ b4, w20.cell? (a2.add 3) = some (.bool b4) ∧ ∃ n28, w20.cell? (a2.add 4) = some (.int .i64 n28) ∧ ∃ n29, w20.cell? (a2.add 5) = some (.int .i64 n29) ∧ ∃ p3 n30 c3, w20.cell? (a2.add 6) = some (.slice p3 n30 c3) ∧ callP Tryz.prog 11 [.agg #[.int .i64 n19, .int .i64 n20, .int .i64 n21, .bool b3, .int .i64 n22, .int .i64 n23, .slice p2 n24 c2], .agg #[.int .i64 n25, .int .i64 n26, .int .i64 n27, .bool b4, .int .i64 n28, .int .i64 n29, .slice p3 n30 c3]] w20 fun v2 w21 => ∃ b5, v2 = .bool b5 ∧ ∃ n31, w21.cell? (a1.add 0) = some (.int .i64 n31) ∧ ∃ n32, w21.cell? (a1.add 1) = some (.int .i64 n32) ∧ ∃ n33, w21.cell? (a1.add 2) = some (.int .i64 n33) ∧ ∃ b6, w21.cell? (a1.add 3) = some (.bool b6) ∧ ∃ n34, w21.cell? (a1.add 4) = some (.int .i64 n34) ∧ ∃ n35, w21.cell? (a1.add 5) = some (.int .i64 n35) ∧ ∃ p4 n36 c4, w21.cell? (a1.add 6) = some (.slice p4 n36 c4) ∧ callP Tryz.prog 33 [.pointer k, .agg #[.int .i64 n31, .int .i64 n32, .int .i64 n33, .bool b6, .int .i64 n34, .int .i64 n35, .slice p4 n36 c4]] w21 fun v3 w22 => v3 = .tuple #[] ∧ Sif b5 (K (.bool (n9 == n18)) w22) (K (.bool false) w22))
  (Sif (n == 6) (∃ n1, w2.cell? (a.add 1) = some (.int .i64 n1) ∧ callP Tryz.prog 36 [.pointer q, .int .i64 n1] w2 fun v w3 => ∃ p n2 c, v = .slice p n2 c ∧ ∃ n3, w3.cell? (a.add 1) = some (.int .i64 n3) ∧ callP Tryz.prog 37 [.pointer x, .int .i64 n3] w3 fun v1 w4 => ∃ p1 n4 c1, v1 = .slice p1 n4 c1 ∧ callP Tryz.prog 38 [.slice p n2 c, .slice p1 n4 c1] w4 fun v2 w5 => ∃ b1, v2 = .bool b1 ∧ callP Tryz.prog 39 [.pointer k, .slice p n2 c] w5 fun v3 w6 => v3 = .tuple #[] ∧ K (.bool b1) w6)
  (Sif (n == 7) (∃ n1, w2.cell? (a.add 1) = some (.int .i64 n1) ∧ callP Tryz.prog 40 [.pointer q, .int .i64 n1] w2 fun v w3 => ∃ p n2 c, v = .slice p n2 c ∧ ∃ n3, w3.cell? (a.add 1) = some (.int .i64 n3) ∧ callP Tryz.prog 41 [.pointer x, .int .i64 n3] w3 fun v1 w4 => ∃ p1 n4 c1, v1 = .slice p1 n4 c1 ∧ callP Tryz.prog 13 [.pointer k, .slice p n2 c, .slice p1 n4 c1] w4 fun v2 w5 => ∃ b1, v2 = .bool b1 ∧ nn k fun a1 => ∃ p2 n5 c2, w5.cell? (a1.add 3) = some (.slice p2 n5 c2) ∧ newB w5 [.slice p n2 c] 24 fun a2 w6 => ∃ p3 n6, ∃ c3 w7, Sem.run Tryz.prog (Builtin.append_ #[36, 36] 36 #[.slice p2 n5 c2, .slice (some a2) 1 1]) w6 = Result.ok (.slice p3 n6 c3) w7 ∧ nn k fun a3 => st w7 ((a3.add 3).add 0) (.slice p3 n6 c3) fun w8 => K (.bool b1) w8) (Sif (n == 8) (∃ n1, w2.cell? (a.add 1) = some (.int .i64 n1) ∧ callP Tryz.prog 14 [.pointer k, .pointer q, .pointer x, .int .i64 n1] w2 fun v w3 => ∃ b1, v = .bool b1 ∧ K (.bool b1) w3) (Sif (n == 9) (callP Tryz.prog 20 [.pointer q] w2 fun v w3 => ∃ n1 n2, v = .tuple #[.int .i64 n1, .int .i64 n2] ∧ callP Tryz.prog 42 [.pointer x] w3 fun v1 w4 => ∃ n3 n4, v1 = .tuple #[.int .i64 n3, .int .i64 n4] ∧ Sif (n1 == n3) (K (.bool (n2 == n4)) w4) (K (.bool false) w4)) (K (.bool true) w2)))))))) ∧
  Sif (n == 2) (J (n == 2) w1) (J (n == 3) w1))
theorem eq_longshorelaw17_step (k q x : Option Addr) (o_0 o_1 o_2 o_3 : Int) (o_4 : Option Addr) (o_4n o_4c : Nat) (o_5 : Bool) (o_6 o_7 o_8 : Int) (o_9 : Bool) (o_10 o_11 : Int) (o_12 : Option Addr) (o_12n o_12c : Nat) (w : World) (K : Value → World → Prop) : wpF Tryz.prog none Tryz.f12 (.two .leaf (.two (.two .leaf (.two (.two .leaf (.two (.two .leaf .leaf) (.two (.meet [(40, .cell .bool)] (.two .leaf (.two .leaf .leaf))) (.two (.two .leaf .leaf) (.two .leaf (.two (.two .leaf (.two .leaf (.two .leaf (.two .leaf (.two .leaf .leaf))))) (.two .leaf (.two (.two .leaf (.two .leaf (.two .leaf (.two .leaf (.two .leaf .leaf))))) (.two .leaf (.two (.two .leaf (.two .leaf (.two .leaf (.two .leaf (.two .leaf .leaf))))) (.two .leaf (.two (.two .leaf (.two .leaf (.two .leaf (.two .leaf (.two .leaf .leaf))))) (.two .leaf (.two (.two .leaf .leaf) (.two .leaf (.two (.two .leaf (.two .leaf (.two .leaf .leaf))) .leaf)))))))))))))))) .leaf)) (.two .leaf .leaf))) [Value.pointer k, Value.pointer q, Value.pointer x, Value.agg #[Value.int .i64 o_0, Value.int .i64 o_1, Value.int .i64 o_2, Value.int .i64 o_3, Value.slice o_4 o_4n o_4c, Value.bool o_5, Value.int .i64 o_6, Value.int .i64 o_7, Value.int .i64 o_8, Value.bool o_9, Value.int .i64 o_10, Value.int .i64 o_11, Value.slice o_12 o_12n o_12c]] w K = wp_longshorelaw17_step k q x o_0 o_1 o_2 o_3 o_4 o_4n o_4c o_5 o_6 o_7 o_8 o_9 o_10 o_11 o_12 o_12n o_12c w K := by kernel_rfl
theorem ok_longshorelaw17_step {k q x : Option Addr} {o_0 o_1 o_2 o_3 : Int} {o_4 : Option Addr} {o_4n o_4c : Nat} {o_5 : Bool} {o_6 o_7 o_8 : Int} {o_9 : Bool} {o_10 o_11 : Int} {o_12 : Option Addr} {o_12n o_12c : Nat} {w : World} {K : Value → World → Prop} (hwp : wp_longshorelaw17_step k q x o_0 o_1 o_2 o_3 o_4 o_4n o_4c o_5 o_6 o_7 o_8 o_9 o_10 o_11 o_12 o_12n o_12c w K) : callP Tryz.prog 12 [.pointer k, .pointer q, .pointer x, .agg #[.int .i64 o_0, .int .i64 o_1, .int .i64 o_2, .int .i64 o_3, .slice o_4 o_4n o_4c, .bool o_5, .int .i64 o_6, .int .i64 o_7, .int .i64 o_8, .bool o_9, .int .i64 o_10, .int .i64 o_11, .slice o_12 o_12n o_12c]] w K :=
  calls_of Tryz.func12 ((eq_longshorelaw17_step k q x o_0 o_1 o_2 o_3 o_4 o_4n o_4c o_5 o_6 o_7 o_8 o_9 o_10 o_11 o_12 o_12n o_12c w K).symm ▸ hwp)

/-- longshore.longshorelaw17.alls -/
def wp_longshorelaw17_alls (k q x : Option Addr) (most : Int) (w : World) (K : Value → World → Prop) : Prop :=
  newB w [.int .i64 most] 3 fun a w1 =>
  callP Tryz.prog 10 [.pointer x] w1 fun v w2 =>
  ∃ p n c,
  v = .slice p n c ∧
  newB w2 [.slice none 0 0] 24 fun a1 w3 =>
  callP Tryz.prog 9 [.pointer q] w3 fun v1 w4 =>
  ∃ v2,
  v1 = v2 ∧
  isNilF v2 fun r =>
  Sif r (K (.bool false) w4)
  (∀ (l : Nat),
  l = Array.size (Array.mk (List.concat w4.heap.toList (Obj.deferred (some [])))) →
  ∀ (rc : LoopR),
  Sv.isRec rc →
  (∀ (n1 n2 n3 : Int) (b : Bool) (n4 n5 : Int) (p1 : Option Addr) (n6 c1 : Nat) (w5 : World) (K' : Value → World → Prop),
  recAt w5 l rc LoopState.ready none →
  (newB w5 [.int .i64 0, .int .i64 0, .int .i64 0, .bool false, .int .i64 0, .int .i64 0, .slice none 0 0] 34 fun a2 w6 =>
  st w6 (a2.add 0) (.int .i64 n1) fun w7 => st w7 (a2.add 1) (.int .i64 n2) fun w8 => st w8 (a2.add 2) (.int .i64 n3) fun w9 => st w9 (a2.add 3) (.bool b) fun w10 => st w10 (a2.add 4) (.int .i64 n4) fun w11 => st w11 (a2.add 5) (.int .i64 n5) fun w12 => st w12 (a2.add 6) (.slice p1 n6 c1) fun w13 => recAt w13 l rc LoopState.ready none ∧ ∃ p2 n7 c2, World.cell? (World.putObj w13 l (rc LoopState.busy none)) a1 = some (.slice p2 n7 c2) ∧ ∃ n8, World.cell? (World.putObj w13 l (rc LoopState.busy none)) (a2.add 0) = some (.int .i64 n8) ∧ ∃ n9, World.cell? (World.putObj w13 l (rc LoopState.busy none)) (a2.add 1) = some (.int .i64 n9) ∧ ∃ n10, World.cell? (World.putObj w13 l (rc LoopState.busy none)) (a2.add 2) = some (.int .i64 n10) ∧ ∃ b1, World.cell? (World.putObj w13 l (rc LoopState.busy none)) (a2.add 3) = some (.bool b1) ∧ ∃ n11, World.cell? (World.putObj w13 l (rc LoopState.busy none)) (a2.add 4) = some (.int .i64 n11) ∧ ∃ n12, World.cell? (World.putObj w13 l (rc LoopState.busy none)) (a2.add 5) = some (.int .i64 n12) ∧ ∃ p3 n13 c3, World.cell? (World.putObj w13 l (rc LoopState.busy none)) (a2.add 6) = some (.slice p3 n13 c3) ∧ newB (World.putObj w13 l (rc LoopState.busy none)) [.int .i64 n8, .int .i64 n9, .int .i64 n10, .bool b1, .int .i64 n11, .int .i64 n12, .slice p3 n13 c3] 34 fun a3 w14 => ∃ p4 n14, ∃ c4 w15, Sem.run Tryz.prog (Builtin.append_ #[24, 24] 24 #[.slice p2 n7 c2, .slice (some a3) 1 1]) w14 = Result.ok (.slice p4 n14 c4) w15 ∧ st w15 (a1.add 0) (.slice p4 n14 c4) fun w16 => ∃ p5 n15 c5, w16.cell? a1 = some (.slice p5 n15 c5) ∧ ∃ n16, w16.cell? a = some (.int .i64 n16) ∧ Sif ((↑n15 : Int) == n16) (recAt w16 l rc LoopState.busy none ∧ K' (.bool false) (World.putObj w16 l (rc LoopState.done (some (Code.exit 0))))) (recAt w16 l rc LoopState.busy none ∧ K' (.bool true) (World.putObj w16 l (rc LoopState.ready none)))) →
  yieldP Tryz.prog l [.agg #[.int .i64 n1, .int .i64 n2, .int .i64 n3, .bool b, .int .i64 n4, .int .i64 n5, .slice p1 n6 c1]] w5 fun a2 w6 => K' a2 w6) →
  callF Tryz.prog v2 [.func (Fn.yield l) #[] #[]] (World.alloc (World.alloc w4 (Obj.deferred (some []))) (rc LoopState.ready none)) fun w5 => (recAt w5 l rc LoopState.ready none ∧ ∃ (J : Option Addr → Nat → Nat → World → Prop), (∀ p1 n1 c1 w6, J p1 n1 c1 w6 → ∃ p2 n2 c2, w6.cell? a1 = some (.slice p2 n2 c2) ∧ callP Tryz.prog 13 [.pointer k, .slice p2 n2 c2, .slice p1 n1 c1] w6 fun v3 w7 => ∃ b, v3 = .bool b ∧ takeM w7 (Array.size w4.heap) fun w8 => K (.bool b) w8) ∧ ∃ n1, World.cell? (World.putObj w5 l (rc LoopState.exhausted none)) a = some (.int .i64 n1) ∧ Sif (decide (n1 > 0)) (∃ n2, World.cell? (World.putObj w5 l (rc LoopState.exhausted none)) a = some (.int .i64 n2) ∧ Sif (decide ((↑n : Int) > n2)) (∃ n3, World.cell? (World.putObj w5 l (rc LoopState.exhausted none)) a = some (.int .i64 n3) ∧ 0 ≤ n3 ∧ n3 ≤ (↑c : Int) ∧ J p (Int.toNat n3) c (World.putObj w5 l (rc LoopState.exhausted none))) (J p n c (World.putObj w5 l (rc LoopState.exhausted none)))) (J p n c (World.putObj w5 l (rc LoopState.exhausted none)))) ∨ False ∨ (recAt w5 l rc LoopState.done (some (Code.exit 0)) ∧ ∃ (J : Option Addr → Nat → Nat → World → Prop), (∀ p1 n1 c1 w6, J p1 n1 c1 w6 → ∃ p2 n2 c2, w6.cell? a1 = some (.slice p2 n2 c2) ∧ callP Tryz.prog 13 [.pointer k, .slice p2 n2 c2, .slice p1 n1 c1] w6 fun v3 w7 => ∃ b, v3 = .bool b ∧ takeM w7 (Array.size w4.heap) fun w8 => K (.bool b) w8) ∧ ∃ n1, World.cell? (World.putObj w5 l (rc LoopState.exhausted (some (Code.exit 0)))) a = some (.int .i64 n1) ∧ Sif (decide (n1 > 0)) (∃ n2, World.cell? (World.putObj w5 l (rc LoopState.exhausted (some (Code.exit 0)))) a = some (.int .i64 n2) ∧ Sif (decide ((↑n : Int) > n2)) (∃ n3, World.cell? (World.putObj w5 l (rc LoopState.exhausted (some (Code.exit 0)))) a = some (.int .i64 n3) ∧ 0 ≤ n3 ∧ n3 ≤ (↑c : Int) ∧ J p (Int.toNat n3) c (World.putObj w5 l (rc LoopState.exhausted (some (Code.exit 0))))) (J p n c (World.putObj w5 l (rc LoopState.exhausted (some (Code.exit 0)))))) (J p n c (World.putObj w5 l (rc LoopState.exhausted (some (Code.exit 0)))))) ∨ False)
theorem eq_longshorelaw17_alls (k q x : Option Addr) (most : Int) (w : World) (K : Value → World → Prop) : wpF Tryz.prog none Tryz.f14 (.two .leaf (.two .leaf (.two .leaf (.two .leaf (.two (.two .leaf (.two (.two .leaf .leaf) .leaf)) (.two (.two .leaf (.two (.over [.agg [.int .i64, .int .i64, .int .i64, .bool, .int .i64, .int .i64, .slice]] false [0] .leaf (.two (.two .leaf (.two .leaf (.two .leaf .leaf))) .leaf)) .leaf)) (.two (.meet [(9, .cell .slice)] (.two .leaf (.two .leaf .leaf))) (.two .leaf .leaf)))))))) [Value.pointer k, Value.pointer q, Value.pointer x, Value.int .i64 most] w K = wp_longshorelaw17_alls k q x most w K := by kernel_rfl
theorem ok_longshorelaw17_alls {k q x : Option Addr} {most : Int} {w : World} {K : Value → World → Prop} (hwp : wp_longshorelaw17_alls k q x most w K) : callP Tryz.prog 14 [.pointer k, .pointer q, .pointer x, .int .i64 most] w K :=
  calls_of Tryz.func14 ((eq_longshorelaw17_alls k q x most w K).symm ▸ hwp)

/-- (longshore.longshorelaw17.book).take -/
def wp_longshorelaw17_book_take (b : Option Addr) (e_0 e_1 e_2 : Int) (e_3 : Bool) (e_4 e_5 : Int) (e_6 : Option Addr) (e_6n e_6c : Nat) (w : World) (K : Value → World → Prop) : Prop :=
  newB w [.int .i64 e_0, .int .i64 e_1, .int .i64 e_2, .bool e_3, .int .i64 e_4, .int .i64 e_5, .slice e_6 e_6n e_6c] 34 fun a w1 =>
  nn b fun a1 =>
  ∃ n,
  w1.cell? (a1.add 0) = some (.int .i64 n) ∧
  nn b fun a2 =>
  st w1 ((a2.add 0).add 0) (.int .i64 (IntKind.wrap .i64 (n + 1))) fun w2 =>
  nn b fun a3 =>
  ∃ n1,
  w2.cell? (a3.add 0) = some (.int .i64 n1) ∧
  (2 : Int) ≠ (0 : Int) ∧
  Sif (Int.tmod n1 2 == 1) (∃ p n2 c, w2.cell? (a.add 6) = some (.slice p n2 c) ∧ callP Tryz.prog 25 [.slice p n2 c] w2 fun v w3 => v = .tuple #[] ∧ K (.tuple #[]) w3)
  (∃ n2,
  w2.cell? (a.add 0) = some (.int .i64 n2) ∧
  ∃ n3,
  w2.cell? (a.add 1) = some (.int .i64 n3) ∧
  ∃ n4,
  w2.cell? (a.add 2) = some (.int .i64 n4) ∧
  ∃ b1,
  w2.cell? (a.add 3) = some (.bool b1) ∧
  ∃ n5,
  w2.cell? (a.add 4) = some (.int .i64 n5) ∧
  ∃ n6,
  w2.cell? (a.add 5) = some (.int .i64 n6) ∧
  ∃ p n7 c,
  w2.cell? (a.add 6) = some (.slice p n7 c) ∧
  newB w2 [.int .i64 0, .int .i64 0, .int .i64 0, .bool false, .int .i64 0, .int .i64 0, .slice none 0 0] 34 fun a4 w3 =>
  st w3 (a4.add 0) (.int .i64 n2) fun w4 =>
  st w4 (a4.add 1) (.int .i64 n3) fun w5 =>
  st w5 (a4.add 2) (.int .i64 n4) fun w6 =>
  st w6 (a4.add 3) (.bool b1) fun w7 =>
  st w7 (a4.add 4) (.int .i64 n5) fun w8 =>
  st w8 (a4.add 5) (.int .i64 n6) fun w9 =>
  st w9 (a4.add 6) (.slice p n7 c) fun w10 =>
  st w10 ((a4.add 6).add 0) (.slice none 0 0) fun w11 =>
  ∃ (I : Nat → Int → World → Prop),
  (∃ m, I m 0 w11) ∧
  ∀ m n8 w12, I m n8 w12 →
  ∃ p1 n9 c1,
  w12.cell? (a.add 6) = some (.slice p1 n9 c1) ∧
  Sif (decide (n8 < (↑n9 : Int))) (∃ p2 n10 c2, w12.drew.cell? (a4.add 6) = some (.slice p2 n10 c2) ∧ ∃ p3 n11 c3, w12.drew.cell? (a.add 6) = some (.slice p3 n11 c3) ∧ 0 ≤ n8 ∧ n8 < (↑n11 : Int) ∧ nn p3 fun a5 => ∃ n12, w12.drew.cell? (a5.add (Int.toNat n8 * 1)) = some (.int .u8 n12) ∧ newB w12.drew [.int .u8 n12] 5 fun a6 w13 => (∃ p4 n13 c4, w13.cell? (a4.add 6) = some (.slice p4 n13 c4) ∧ Value.slice p4 n13 c4 = .slice p2 n10 c2) ∧ ∃ p4 n13, ∃ c4 w14, Sem.run Tryz.prog (Builtin.append_ #[32, 32] 32 #[.slice p2 n10 c2, .slice (some a6) 1 1]) w13 = Result.ok (.slice p4 n13 c4) w14 ∧ st w14 ((a4.add 6).add 0) (.slice p4 n13 c4) fun w15 => nameI (IntKind.wrap .i64 (n8 + 1)) fun n14 => ∃ m', m' < m ∧ I m' n14 w15)
  (nn b fun a5 =>
  ∃ p2 n10 c2,
  w12.drew.cell? (a5.add 1) = some (.slice p2 n10 c2) ∧
  ∃ n11,
  w12.drew.cell? (a.add 0) = some (.int .i64 n11) ∧
  ∃ n12,
  w12.drew.cell? (a.add 1) = some (.int .i64 n12) ∧
  ∃ n13,
  w12.drew.cell? (a.add 2) = some (.int .i64 n13) ∧
  ∃ b2,
  w12.drew.cell? (a.add 3) = some (.bool b2) ∧
  ∃ n14,
  w12.drew.cell? (a.add 4) = some (.int .i64 n14) ∧
  ∃ n15, w12.drew.cell? (a.add 5) = some (.int .i64 n15) ∧ ∃ p3 n16 c3, w12.drew.cell? (a.add 6) = some (.slice p3 n16 c3) ∧ newB w12.drew [.int .i64 n11, .int .i64 n12, .int .i64 n13, .bool b2, .int .i64 n14, .int .i64 n15, .slice p3 n16 c3] 34 fun a6 w13 => (∃ p4 n17 c4, w13.cell? (a5.add 1) = some (.slice p4 n17 c4) ∧ Value.slice p4 n17 c4 = .slice p2 n10 c2) ∧ ∃ p4 n17, ∃ c4 w14, Sem.run Tryz.prog (Builtin.append_ #[24, 24] 24 #[.slice p2 n10 c2, .slice (some a6) 1 1]) w13 = Result.ok (.slice p4 n17 c4) w14 ∧ nn b fun a7 => st w14 ((a7.add 1).add 0) (.slice p4 n17 c4) fun w15 => nn b fun a8 => ∃ p5 n18 c5, w15.drew.cell? (a8.add 2) = some (.slice p5 n18 c5) ∧ ∃ n19, w15.drew.cell? (a4.add 0) = some (.int .i64 n19) ∧ ∃ n20, w15.drew.cell? (a4.add 1) = some (.int .i64 n20) ∧ ∃ n21, w15.drew.cell? (a4.add 2) = some (.int .i64 n21) ∧ ∃ b3, w15.drew.cell? (a4.add 3) = some (.bool b3) ∧ ∃ n22, w15.drew.cell? (a4.add 4) = some (.int .i64 n22) ∧ ∃ n23, w15.drew.cell? (a4.add 5) = some (.int .i64 n23) ∧ ∃ p6 n24 c6, w15.drew.cell? (a4.add 6) = some (.slice p6 n24 c6) ∧ newB w15.drew [.int .i64 n19, .int .i64 n20, .int .i64 n21, .bool b3, .int .i64 n22, .int .i64 n23, .slice p6 n24 c6] 34 fun a9 w16 => (∃ p7 n25 c7, w16.cell? (a8.add 2) = some (.slice p7 n25 c7) ∧ Value.slice p7 n25 c7 = .slice p5 n18 c5) ∧ ∃ p7 n25, ∃ c7 w17, Sem.run Tryz.prog (Builtin.append_ #[24, 24] 24 #[.slice p5 n18 c5, .slice (some a9) 1 1]) w16 = Result.ok (.slice p7 n25 c7) w17 ∧ nn b fun a10 => st w17 ((a10.add 2).add 0) (.slice p7 n25 c7) fun w18 => K (.tuple #[]) w18))
theorem eq_longshorelaw17_book_take (b : Option Addr) (e_0 e_1 e_2 : Int) (e_3 : Bool) (e_4 e_5 : Int) (e_6 : Option Addr) (e_6n e_6c : Nat) (w : World) (K : Value → World → Prop) : wpF Tryz.prog none Tryz.f33 (.two .leaf (.two .leaf (.two (.two .leaf (.two (.two .leaf .leaf) .leaf)) (.two .leaf (.two .leaf (.two (.two .leaf (.two (.loop [(5, .cell (.int .i64))] (.two (.two .leaf (.two .leaf .leaf)) (.two (.two (.draw [0, 2, 4, 1, 3, 5, 6, 7, 8, 9, 10]) .leaf) .leaf))) .leaf)) (.two (.draw [0, 1, 2, 3, 4, 5, 6, 7, 8, 9, 10]) (.draw [0, 1, 2, 3, 4, 5, 6, 7, 8, 9, 10])))))))) [Value.pointer b, Value.agg #[Value.int .i64 e_0, Value.int .i64 e_1, Value.int .i64 e_2, Value.bool e_3, Value.int .i64 e_4, Value.int .i64 e_5, Value.slice e_6 e_6n e_6c]] w K = wp_longshorelaw17_book_take b e_0 e_1 e_2 e_3 e_4 e_5 e_6 e_6n e_6c w K := by kernel_rfl
theorem ok_longshorelaw17_book_take {b : Option Addr} {e_0 e_1 e_2 : Int} {e_3 : Bool} {e_4 e_5 : Int} {e_6 : Option Addr} {e_6n e_6c : Nat} {w : World} {K : Value → World → Prop} (hwp : wp_longshorelaw17_book_take b e_0 e_1 e_2 e_3 e_4 e_5 e_6 e_6n e_6c w K) : callP Tryz.prog 33 [.pointer b, .agg #[.int .i64 e_0, .int .i64 e_1, .int .i64 e_2, .bool e_3, .int .i64 e_4, .int .i64 e_5, .slice e_6 e_6n e_6c]] w K :=
  calls_of Tryz.func33 ((eq_longshorelaw17_book_take b e_0 e_1 e_2 e_3 e_4 e_5 e_6 e_6n e_6c w K).symm ▸ hwp)

/-- (longshore.longshorelaw17.book).takeNumbers -/
def wp_longshorelaw17_book_takeNumbers (b l : Option Addr) (ln lc : Nat) (w : World) (K : Value → World → Prop) : Prop :=
  ∃ (I : Nat → Option Addr → Nat → Nat → Int → World → Prop), (∃ m, I m none 0 0 0 w) ∧ ∀ m p n c n1 w1, I m p n c n1 w1 → Sif (decide (n1 < (↑ln : Int))) (0 ≤ n1 ∧ n1 < (↑ln : Int) ∧ nn l fun a => ∃ n2, w1.cell? (a.add (Int.toNat n1 * 1)) = some (.int .i64 n2) ∧ newB w1 [.int .i64 n2] 3 fun a1 w2 => ∃ p1 n3, ∃ c1 w3, Sem.run Tryz.prog (Builtin.append_ #[44, 44] 44 #[.slice p n c, .slice (some a1) 1 1]) w2 = Result.ok (.slice p1 n3 c1) w3 ∧ nameI (IntKind.wrap .i64 (n1 + 1)) fun n4 => ∃ m', m' < m ∧ I m' p1 n3 c1 n4 w3) (nn b fun a => ∃ p1 n2 c1, w1.cell? (a.add 4) = some (.slice p1 n2 c1) ∧ newB w1 [.slice l ln lc] 44 fun a1 w2 => ∃ p2 n3, ∃ c2 w3, Sem.run Tryz.prog (Builtin.append_ #[37, 37] 37 #[.slice p1 n2 c1, .slice (some a1) 1 1]) w2 = Result.ok (.slice p2 n3 c2) w3 ∧ nn b fun a2 => st w3 ((a2.add 4).add 0) (.slice p2 n3 c2) fun w4 => nn b fun a3 => ∃ p3 n4 c3, w4.cell? (a3.add 5) = some (.slice p3 n4 c3) ∧ newB w4 [.slice p n c] 44 fun a4 w5 => ∃ p4 n5, ∃ c4 w6, Sem.run Tryz.prog (Builtin.append_ #[37, 37] 37 #[.slice p3 n4 c3, .slice (some a4) 1 1]) w5 = Result.ok (.slice p4 n5 c4) w6 ∧ nn b fun a5 => st w6 ((a5.add 5).add 0) (.slice p4 n5 c4) fun w7 => K (.tuple #[]) w7)
theorem eq_longshorelaw17_book_takeNumbers (b l : Option Addr) (ln lc : Nat) (w : World) (K : Value → World → Prop) : wpF Tryz.prog none Tryz.f39 (.two .leaf (.two (.two .leaf (.two (.loop [(4, .cell .slice), (5, .cell (.int .i64))] (.two (.two .leaf (.two .leaf .leaf)) (.two (.two .leaf .leaf) .leaf))) .leaf)) (.two .leaf .leaf))) [Value.pointer b, Value.slice l ln lc] w K = wp_longshorelaw17_book_takeNumbers b l ln lc w K := by kernel_rfl
theorem ok_longshorelaw17_book_takeNumbers {b l : Option Addr} {ln lc : Nat} {w : World} {K : Value → World → Prop} (hwp : wp_longshorelaw17_book_takeNumbers b l ln lc w K) : callP Tryz.prog 39 [.pointer b, .slice l ln lc] w K :=
  calls_of Tryz.func39 ((eq_longshorelaw17_book_takeNumbers b l ln lc w K).symm ▸ hwp)

/-- (longshore.longshorelaw17.book).stands -/
def wp_longshorelaw17_book_stands (b : Option Addr) (w : World) (K : Value → World → Prop) : Prop :=
  newB w [.slice none 0 0] 86 fun a w1 =>
  ∃ (I : Nat → Int → World → Prop),
  (∃ m, I m 0 w1) ∧
  ∀ m n w2, I m n w2 →
  nn b fun a1 =>
  ∃ p n1 c,
  w2.cell? (a1.add 1) = some (.slice p n1 c) ∧
  Sif (decide (n < (↑n1 : Int)))
  (nn b fun a2 =>
  nn b fun a3 =>
  ∃ p1 n2 c1,
  w2.drew.cell? (a2.add 1) = some (.slice p1 n2 c1) ∧
  0 ≤ n ∧
  n < (↑n2 : Int) ∧
  nn p1 fun a4 =>
  ∃ n3,
  w2.drew.cell? (Addr.add (a4.add (Int.toNat n * 7)) 0) = some (.int .i64 n3) ∧
  ∃ n4,
  w2.drew.cell? (Addr.add (a4.add (Int.toNat n * 7)) 1) = some (.int .i64 n4) ∧
  ∃ n5,
  w2.drew.cell? (Addr.add (a4.add (Int.toNat n * 7)) 2) = some (.int .i64 n5) ∧
  ∃ b1, w2.drew.cell? (Addr.add (a4.add (Int.toNat n * 7)) 3) = some (.bool b1) ∧ ∃ n6, w2.drew.cell? (Addr.add (a4.add (Int.toNat n * 7)) 4) = some (.int .i64 n6) ∧ ∃ n7, w2.drew.cell? (Addr.add (a4.add (Int.toNat n * 7)) 5) = some (.int .i64 n7) ∧ ∃ p2 n8 c2, w2.drew.cell? (Addr.add (a4.add (Int.toNat n * 7)) 6) = some (.slice p2 n8 c2) ∧ ∃ p3 n9 c3, w2.drew.cell? (a3.add 2) = some (.slice p3 n9 c3) ∧ 0 ≤ n ∧ n < (↑n9 : Int) ∧ nn p3 fun a5 => ∃ n10, w2.drew.cell? (Addr.add (a5.add (Int.toNat n * 7)) 0) = some (.int .i64 n10) ∧ ∃ n11, w2.drew.cell? (Addr.add (a5.add (Int.toNat n * 7)) 1) = some (.int .i64 n11) ∧ ∃ n12, w2.drew.cell? (Addr.add (a5.add (Int.toNat n * 7)) 2) = some (.int .i64 n12) ∧ ∃ b2, w2.drew.cell? (Addr.add (a5.add (Int.toNat n * 7)) 3) = some (.bool b2) ∧ ∃ n13, w2.drew.cell? (Addr.add (a5.add (Int.toNat n * 7)) 4) = some (.int .i64 n13) ∧ ∃ n14, w2.drew.cell? (Addr.add (a5.add (Int.toNat n * 7)) 5) = some (.int .i64 n14) ∧ ∃ p4 n15 c4, w2.drew.cell? (Addr.add (a5.add (Int.toNat n * 7)) 6) = some (.slice p4 n15 c4) ∧ callP Tryz.prog 11 [.agg #[.int .i64 n3, .int .i64 n4, .int .i64 n5, .bool b1, .int .i64 n6, .int .i64 n7, .slice p2 n8 c2], .agg #[.int .i64 n10, .int .i64 n11, .int .i64 n12, .bool b2, .int .i64 n13, .int .i64 n14, .slice p4 n15 c4]] w2.drew fun v w3 => ∃ b3, v = .bool b3 ∧ Sif (!b3) (K (.bool false) w3) (nn b fun a6 => ∃ p5 n16 c5, w3.cell? (a6.add 1) = some (.slice p5 n16 c5) ∧ 0 ≤ n ∧ n < (↑n16 : Int) ∧ nn p5 fun a7 => ∃ p6 n17 c6, w3.cell? (Addr.add (a7.add (Int.toNat n * 7)) 6) = some (.slice p6 n17 c6) ∧ callP Tryz.prog 43 [.pointer (some a), .slice p6 n17 c6] w3 fun v1 w4 => v1 = .tuple #[] ∧ nameI (IntKind.wrap .i64 (n + 1)) fun n18 => ∃ m', m' < m ∧ I m' n18 w4))
  (∃ (I1 : Nat → Int → World → Prop), (∃ m1, I1 m1 0 w2) ∧ ∀ m1 n2 w3, I1 m1 n2 w3 → nn b fun a2 => ∃ p1 n3 c1, w3.cell? (a2.add 4) = some (.slice p1 n3 c1) ∧ Sif (decide (n2 < (↑n3 : Int))) (nn b fun a3 => nn b fun a4 => ∃ p2 n4 c2, w3.drew.cell? (a3.add 4) = some (.slice p2 n4 c2) ∧ 0 ≤ n2 ∧ n2 < (↑n4 : Int) ∧ nn p2 fun a5 => ∃ p3 n5 c3, w3.drew.cell? (a5.add (Int.toNat n2 * 1)) = some (.slice p3 n5 c3) ∧ ∃ p4 n6 c4, w3.drew.cell? (a4.add 5) = some (.slice p4 n6 c4) ∧ 0 ≤ n2 ∧ n2 < (↑n6 : Int) ∧ nn p4 fun a6 => ∃ p5 n7 c5, w3.drew.cell? (a6.add (Int.toNat n2 * 1)) = some (.slice p5 n7 c5) ∧ callP Tryz.prog 38 [.slice p3 n5 c3, .slice p5 n7 c5] w3.drew fun v w4 => ∃ b1, v = .bool b1 ∧ Sif (!b1) (K (.bool false) w4) (nameI (IntKind.wrap .i64 (n2 + 1)) fun n8 => ∃ m', m' < m1 ∧ I1 m' n8 w4)) (callP Tryz.prog 44 [.pointer (some a)] w3 fun v w4 => ∃ b1, v = .bool b1 ∧ callP Tryz.prog 45 [.pointer b] w4 fun v1 w5 => ∃ b2, v1 = .bool b2 ∧ callP Tryz.prog 46 [.pointer b] w5 fun v2 w6 => ∃ b3, v2 = .bool b3 ∧ Sif b1 (Sif b2 (K (.bool b3) w6) (K (.bool false) w6)) (K (.bool false) w6)))
theorem eq_longshorelaw17_book_stands (b : Option Addr) (w : World) (K : Value → World → Prop) : wpF Tryz.prog none Tryz.f15 (.two .leaf (.two .leaf (.two (.two .leaf (.two (.loop [(4, .cell (.int .i64))] (.two (.two .leaf (.two .leaf .leaf)) (.two (.two (.two (.draw [0, 1, 2, 4, 7, 8, 9, 11, 3, 5, 6, 10, 12, 13, 14, 15]) (.two (.two .leaf (.two (.two .leaf .leaf) .leaf)) .leaf)) .leaf) .leaf))) .leaf)) (.two (.two .leaf (.two (.loop [(6, .cell (.int .i64))] (.two (.two .leaf (.two .leaf .leaf)) (.two (.two (.two (.draw [0, 1, 2, 4, 7, 8, 9, 11, 3, 5, 6, 10, 12, 13, 14, 15]) (.two .leaf (.two (.two .leaf .leaf) .leaf))) .leaf) .leaf))) .leaf)) (.two .leaf (.two .leaf (.two .leaf (.two .leaf .leaf)))))))) [Value.pointer b] w K = wp_longshorelaw17_book_stands b w K := by kernel_rfl
theorem ok_longshorelaw17_book_stands {b : Option Addr} {w : World} {K : Value → World → Prop} (hwp : wp_longshorelaw17_book_stands b w K) : callP Tryz.prog 15 [.pointer b] w K :=
  calls_of Tryz.func15 ((eq_longshorelaw17_book_stands b w K).symm ▸ hwp)

/-- (longshore.longshorelaw17.book).lists -/
def wp_longshorelaw17_book_lists (b : Option Addr) (w : World) (K : Value → World → Prop) : Prop :=
  ∃ (I : Nat → Int → World → Prop),
  (∃ m, I m 0 w) ∧
  ∀ m n w1, I m n w1 →
  nn b fun a =>
  ∃ p n1 c,
  w1.cell? (a.add 3) = some (.slice p n1 c) ∧
  Sif (decide (n < (↑n1 : Int))) (∃ (I1 : Nat → Int → World → Prop), (∃ m1, I1 m1 0 w1) ∧ ∀ m1 n2 w2, I1 m1 n2 w2 → nn b fun a1 => ∃ p1 n3 c1, w2.cell? (a1.add 3) = some (.slice p1 n3 c1) ∧ 0 ≤ n ∧ n < (↑n3 : Int) ∧ nn p1 fun a2 => ∃ p2 n4 c2, w2.cell? (a2.add (Int.toNat n * 1)) = some (.slice p2 n4 c2) ∧ Sif (decide (n2 < (↑n4 : Int))) (nn b fun a3 => ∃ p3 n5 c3, w2.cell? (a3.add 3) = some (.slice p3 n5 c3) ∧ 0 ≤ n ∧ n < (↑n5 : Int) ∧ nn p3 fun a4 => ∃ p4 n6 c4, w2.cell? (a4.add (Int.toNat n * 1)) = some (.slice p4 n6 c4) ∧ 0 ≤ n2 ∧ n2 < (↑n6 : Int) ∧ nn p4 fun a5 => st w2 (Addr.add (a5.add (Int.toNat n2 * 7)) 0) (.int .i64 (IntKind.wrap .i64 ((-1000) - n))) fun w3 => st w3 (Addr.add (a5.add (Int.toNat n2 * 7)) 1) (.int .i64 0) fun w4 => st w4 (Addr.add (a5.add (Int.toNat n2 * 7)) 2) (.int .i64 0) fun w5 => st w5 (Addr.add (a5.add (Int.toNat n2 * 7)) 3) (.bool false) fun w6 => st w6 (Addr.add (a5.add (Int.toNat n2 * 7)) 4) (.int .i64 0) fun w7 => st w7 (Addr.add (a5.add (Int.toNat n2 * 7)) 5) (.int .i64 0) fun w8 => st w8 (Addr.add (a5.add (Int.toNat n2 * 7)) 6) (.slice none 0 0) fun w9 => nameI (IntKind.wrap .i64 (n2 + 1)) fun n7 => ∃ m', m' < m1 ∧ I1 m' n7 w9) (nameI (IntKind.wrap .i64 (n + 1)) fun n5 => ∃ m', m' < m ∧ I m' n5 w2))
  (∃ (I1 : Nat → Option Addr → Nat → Nat → Int → World → Prop),
  (∃ m1, I1 m1 none 0 0 0 w1) ∧
  ∀ m1 p1 n2 c1 n3 w2, I1 m1 p1 n2 c1 n3 w2 →
  nn b fun a1 =>
  ∃ p2 n4 c2,
  w2.cell? (a1.add 3) = some (.slice p2 n4 c2) ∧
  Sif (decide (n3 < (↑n4 : Int))) (nn b fun a2 => ∃ p3 n5 c3, w2.cell? (a2.add 3) = some (.slice p3 n5 c3) ∧ 0 ≤ n3 ∧ n3 < (↑n5 : Int) ∧ nn p3 fun a3 => ∃ p4 n6 c4, w2.cell? (a3.add (Int.toNat n3 * 1)) = some (.slice p4 n6 c4) ∧ ∃ (I2 : Nat → Option Addr → Nat → Nat → Option Addr → Nat → Nat → Int → World → Prop), (∃ m2, I2 m2 p1 n2 c1 p4 n6 c4 0 w2) ∧ ∀ m2 p5 n7 c5 p6 n8 c6 n9 w3, I2 m2 p5 n7 c5 p6 n8 c6 n9 w3 → Sif (decide (n9 < 8)) (newB w3 [.int .i64 (IntKind.wrap .i64 ((-1000) - n3)), .int .i64 0, .int .i64 0, .bool false, .int .i64 0, .int .i64 0, .slice none 0 0] 34 fun a4 w4 => ∃ p7 n10, ∃ c7 w5, Sem.run Tryz.prog (Builtin.append_ #[24, 24] 24 #[.slice p6 n8 c6, .slice (some a4) 1 1]) w4 = Result.ok (.slice p7 n10 c7) w5 ∧ newB w5 [.slice p7 n10 c7] 24 fun a5 w6 => ∃ p8 n11, ∃ c8 w7, Sem.run Tryz.prog (Builtin.append_ #[36, 36] 36 #[.slice p5 n7 c5, .slice (some a5) 1 1]) w6 = Result.ok (.slice p8 n11 c8) w7 ∧ nameI (IntKind.wrap .i64 (n9 + 1)) fun n12 => ∃ m', m' < m2 ∧ I2 m' p8 n11 c8 p7 n10 c7 n12 w7) (nn b fun a4 => ∃ p7 n10 c7, w3.cell? (a4.add 3) = some (.slice p7 n10 c7) ∧ 0 ≤ n3 ∧ n3 < (↑n10 : Int) ∧ nn p7 fun a5 => ∃ p8 n11 c8, w3.cell? (a5.add (Int.toNat n3 * 1)) = some (.slice p8 n11 c8) ∧ newB w3 [.slice p8 n11 c8] 24 fun a6 w4 => ∃ p9 n12, ∃ c9 w5, Sem.run Tryz.prog (Builtin.append_ #[36, 36] 36 #[.slice p5 n7 c5, .slice (some a6) 1 1]) w4 = Result.ok (.slice p9 n12 c9) w5 ∧ nameI (IntKind.wrap .i64 (n3 + 1)) fun n13 => ∃ m', m' < m1 ∧ I1 m' p9 n12 c9 n13 w5))
  (∃ (I2 : Nat → Int → World → Prop), (∃ m2, I2 m2 0 w2) ∧ ∀ m2 n5 w3, I2 m2 n5 w3 → Sif (decide (n5 < (↑n2 : Int))) (∃ (I3 : Nat → Int → World → Prop), (∃ m3, I3 m3 0 w3) ∧ ∀ m3 n6 w4, I3 m3 n6 w4 → 0 ≤ n5 ∧ n5 < (↑n2 : Int) ∧ nn p1 fun a2 => ∃ p3 n7 c3, w4.cell? (a2.add (Int.toNat n5 * 1)) = some (.slice p3 n7 c3) ∧ Sif (decide (n6 < (↑n7 : Int))) (0 ≤ n5 ∧ n5 < (↑n2 : Int) ∧ nn p1 fun a3 => ∃ p4 n8 c4, w4.cell? (a3.add (Int.toNat n5 * 1)) = some (.slice p4 n8 c4) ∧ 0 ≤ n6 ∧ n6 < (↑n8 : Int) ∧ nn p4 fun a4 => ∃ n9, w4.cell? (Addr.add (a4.add (Int.toNat n6 * 7)) 0) = some (.int .i64 n9) ∧ (9 : Int) ≠ (0 : Int) ∧ Sif (n9 != IntKind.wrap .i64 ((-1000) - IntKind.wrap .i64 (Int.tdiv n5 9))) (K (.bool false) w4) (nameI (IntKind.wrap .i64 (n6 + 1)) fun n10 => ∃ m', m' < m3 ∧ I3 m' n10 w4)) (nameI (IntKind.wrap .i64 (n5 + 1)) fun n8 => ∃ m', m' < m2 ∧ I2 m' n8 w4)) (K (.bool true) w3)))
theorem eq_longshorelaw17_book_lists (b : Option Addr) (w : World) (K : Value → World → Prop) : wpF Tryz.prog none Tryz.f45 (.two .leaf (.two (.two .leaf (.two (.loop [(3, .cell (.int .i64))] (.two (.two .leaf (.two .leaf .leaf)) (.two (.two (.two .leaf (.two (.loop [(4, .cell (.int .i64))] (.two (.two .leaf (.two .leaf .leaf)) (.two (.two .leaf .leaf) .leaf))) .leaf)) .leaf) .leaf))) .leaf)) (.two .leaf (.two (.two .leaf (.two (.loop [(5, .cell .slice), (6, .cell (.int .i64))] (.two (.two .leaf (.two .leaf .leaf)) (.two (.two (.two .leaf (.two (.two .leaf (.two (.loop [(5, .cell .slice), (7, .cell .slice), (8, .cell (.int .i64))] (.two (.two .leaf (.two .leaf .leaf)) (.two (.two (.two .leaf .leaf) .leaf) .leaf))) .leaf)) .leaf)) .leaf) .leaf))) .leaf)) (.two (.two .leaf (.two (.loop [(9, .cell (.int .i64))] (.two (.two .leaf (.two .leaf .leaf)) (.two (.two (.two .leaf (.two (.loop [(10, .cell (.int .i64))] (.two (.two .leaf (.two .leaf .leaf)) (.two (.two (.two .leaf (.two (.two .leaf .leaf) .leaf)) .leaf) .leaf))) .leaf)) .leaf) .leaf))) .leaf)) (.two .leaf .leaf)))))) [Value.pointer b] w K = wp_longshorelaw17_book_lists b w K := by kernel_rfl
theorem ok_longshorelaw17_book_lists {b : Option Addr} {w : World} {K : Value → World → Prop} (hwp : wp_longshorelaw17_book_lists b w K) : callP Tryz.prog 45 [.pointer b] w K :=
  calls_of Tryz.func45 ((eq_longshorelaw17_book_lists b w K).symm ▸ hwp)

/-- (longshore.longshorelaw17.book).numbers -/
def wp_longshorelaw17_book_numbers (b : Option Addr) (w : World) (K : Value → World → Prop) : Prop :=
  ∃ (I : Nat → Int → World → Prop),
  (∃ m, I m 0 w) ∧
  ∀ m n w1, I m n w1 →
  nn b fun a =>
  ∃ p n1 c,
  w1.cell? (a.add 4) = some (.slice p n1 c) ∧
  Sif (decide (n < (↑n1 : Int))) (∃ (I1 : Nat → Int → World → Prop), (∃ m1, I1 m1 0 w1) ∧ ∀ m1 n2 w2, I1 m1 n2 w2 → nn b fun a1 => ∃ p1 n3 c1, w2.cell? (a1.add 4) = some (.slice p1 n3 c1) ∧ 0 ≤ n ∧ n < (↑n3 : Int) ∧ nn p1 fun a2 => ∃ p2 n4 c2, w2.cell? (a2.add (Int.toNat n * 1)) = some (.slice p2 n4 c2) ∧ Sif (decide (n2 < (↑n4 : Int))) (nn b fun a3 => ∃ p3 n5 c3, w2.cell? (a3.add 4) = some (.slice p3 n5 c3) ∧ 0 ≤ n ∧ n < (↑n5 : Int) ∧ nn p3 fun a4 => ∃ p4 n6 c4, w2.cell? (a4.add (Int.toNat n * 1)) = some (.slice p4 n6 c4) ∧ 0 ≤ n2 ∧ n2 < (↑n6 : Int) ∧ nn p4 fun a5 => st w2 (Addr.add (a5.add (Int.toNat n2 * 1)) 0) (.int .i64 (IntKind.wrap .i64 ((-1000) - n))) fun w3 => nameI (IntKind.wrap .i64 (n2 + 1)) fun n7 => ∃ m', m' < m1 ∧ I1 m' n7 w3) (nameI (IntKind.wrap .i64 (n + 1)) fun n5 => ∃ m', m' < m ∧ I m' n5 w2))
  (∃ (I1 : Nat → Option Addr → Nat → Nat → Int → World → Prop),
  (∃ m1, I1 m1 none 0 0 0 w1) ∧
  ∀ m1 p1 n2 c1 n3 w2, I1 m1 p1 n2 c1 n3 w2 →
  nn b fun a1 =>
  ∃ p2 n4 c2,
  w2.cell? (a1.add 4) = some (.slice p2 n4 c2) ∧
  Sif (decide (n3 < (↑n4 : Int))) (nn b fun a2 => ∃ p3 n5 c3, w2.cell? (a2.add 4) = some (.slice p3 n5 c3) ∧ 0 ≤ n3 ∧ n3 < (↑n5 : Int) ∧ nn p3 fun a3 => ∃ p4 n6 c4, w2.cell? (a3.add (Int.toNat n3 * 1)) = some (.slice p4 n6 c4) ∧ ∃ (I2 : Nat → Option Addr → Nat → Nat → Option Addr → Nat → Nat → Int → World → Prop), (∃ m2, I2 m2 p1 n2 c1 p4 n6 c4 0 w2) ∧ ∀ m2 p5 n7 c5 p6 n8 c6 n9 w3, I2 m2 p5 n7 c5 p6 n8 c6 n9 w3 → Sif (decide (n9 < 8)) (newB w3 [.int .i64 (IntKind.wrap .i64 ((-1000) - n3))] 3 fun a4 w4 => ∃ p7 n10, ∃ c7 w5, Sem.run Tryz.prog (Builtin.append_ #[44, 44] 44 #[.slice p6 n8 c6, .slice (some a4) 1 1]) w4 = Result.ok (.slice p7 n10 c7) w5 ∧ newB w5 [.slice p7 n10 c7] 44 fun a5 w6 => ∃ p8 n11, ∃ c8 w7, Sem.run Tryz.prog (Builtin.append_ #[37, 37] 37 #[.slice p5 n7 c5, .slice (some a5) 1 1]) w6 = Result.ok (.slice p8 n11 c8) w7 ∧ nameI (IntKind.wrap .i64 (n9 + 1)) fun n12 => ∃ m', m' < m2 ∧ I2 m' p8 n11 c8 p7 n10 c7 n12 w7) (nn b fun a4 => ∃ p7 n10 c7, w3.cell? (a4.add 4) = some (.slice p7 n10 c7) ∧ 0 ≤ n3 ∧ n3 < (↑n10 : Int) ∧ nn p7 fun a5 => ∃ p8 n11 c8, w3.cell? (a5.add (Int.toNat n3 * 1)) = some (.slice p8 n11 c8) ∧ newB w3 [.slice p8 n11 c8] 44 fun a6 w4 => ∃ p9 n12, ∃ c9 w5, Sem.run Tryz.prog (Builtin.append_ #[37, 37] 37 #[.slice p5 n7 c5, .slice (some a6) 1 1]) w4 = Result.ok (.slice p9 n12 c9) w5 ∧ nameI (IntKind.wrap .i64 (n3 + 1)) fun n13 => ∃ m', m' < m1 ∧ I1 m' p9 n12 c9 n13 w5))
  (∃ (I2 : Nat → Int → World → Prop), (∃ m2, I2 m2 0 w2) ∧ ∀ m2 n5 w3, I2 m2 n5 w3 → Sif (decide (n5 < (↑n2 : Int))) (∃ (I3 : Nat → Int → World → Prop), (∃ m3, I3 m3 0 w3) ∧ ∀ m3 n6 w4, I3 m3 n6 w4 → 0 ≤ n5 ∧ n5 < (↑n2 : Int) ∧ nn p1 fun a2 => ∃ p3 n7 c3, w4.cell? (a2.add (Int.toNat n5 * 1)) = some (.slice p3 n7 c3) ∧ Sif (decide (n6 < (↑n7 : Int))) (0 ≤ n5 ∧ n5 < (↑n2 : Int) ∧ nn p1 fun a3 => ∃ p4 n8 c4, w4.cell? (a3.add (Int.toNat n5 * 1)) = some (.slice p4 n8 c4) ∧ 0 ≤ n6 ∧ n6 < (↑n8 : Int) ∧ nn p4 fun a4 => ∃ n9, w4.cell? (a4.add (Int.toNat n6 * 1)) = some (.int .i64 n9) ∧ (9 : Int) ≠ (0 : Int) ∧ Sif (n9 != IntKind.wrap .i64 ((-1000) - IntKind.wrap .i64 (Int.tdiv n5 9))) (K (.bool false) w4) (nameI (IntKind.wrap .i64 (n6 + 1)) fun n10 => ∃ m', m' < m3 ∧ I3 m' n10 w4)) (nameI (IntKind.wrap .i64 (n5 + 1)) fun n8 => ∃ m', m' < m2 ∧ I2 m' n8 w4)) (K (.bool true) w3)))
theorem eq_longshorelaw17_book_numbers (b : Option Addr) (w : World) (K : Value → World → Prop) : wpF Tryz.prog none Tryz.f46 (.two .leaf (.two (.two .leaf (.two (.loop [(3, .cell (.int .i64))] (.two (.two .leaf (.two .leaf .leaf)) (.two (.two (.two .leaf (.two (.loop [(4, .cell (.int .i64))] (.two (.two .leaf (.two .leaf .leaf)) (.two (.two .leaf .leaf) .leaf))) .leaf)) .leaf) .leaf))) .leaf)) (.two .leaf (.two (.two .leaf (.two (.loop [(5, .cell .slice), (6, .cell (.int .i64))] (.two (.two .leaf (.two .leaf .leaf)) (.two (.two (.two .leaf (.two (.two .leaf (.two (.loop [(5, .cell .slice), (7, .cell .slice), (8, .cell (.int .i64))] (.two (.two .leaf (.two .leaf .leaf)) (.two (.two (.two .leaf .leaf) .leaf) .leaf))) .leaf)) .leaf)) .leaf) .leaf))) .leaf)) (.two (.two .leaf (.two (.loop [(9, .cell (.int .i64))] (.two (.two .leaf (.two .leaf .leaf)) (.two (.two (.two .leaf (.two (.loop [(10, .cell (.int .i64))] (.two (.two .leaf (.two .leaf .leaf)) (.two (.two (.two .leaf (.two (.two .leaf .leaf) .leaf)) .leaf) .leaf))) .leaf)) .leaf) .leaf))) .leaf)) (.two .leaf .leaf)))))) [Value.pointer b] w K = wp_longshorelaw17_book_numbers b w K := by kernel_rfl
theorem ok_longshorelaw17_book_numbers {b : Option Addr} {w : World} {K : Value → World → Prop} (hwp : wp_longshorelaw17_book_numbers b w K) : callP Tryz.prog 46 [.pointer b] w K :=
  calls_of Tryz.func46 ((eq_longshorelaw17_book_numbers b w K).symm ▸ hwp)

/-- (longshore.longshorelaw17.fitter).fits -/
def wp_longshorelaw17_fitter_fits (f : Option Addr) (e_0 e_1 e_2 : Int) (e_3 : Bool) (e_4 e_5 : Int) (e_6 : Option Addr) (e_6n e_6c : Nat) (w : World) (K : Value → World → Prop) : Prop :=
  newB w [.int .i64 e_0, .int .i64 e_1, .int .i64 e_2, .bool e_3, .int .i64 e_4, .int .i64 e_5, .slice e_6 e_6n e_6c] 34 fun a w1 =>
  nn f fun a1 =>
  ∃ p n c,
  w1.drew.cell? (a1.add 3) = some (.slice p n c) ∧
  ∃ n1,
  w1.drew.cell? (a.add 0) = some (.int .i64 n1) ∧
  newB w1.drew [.int .i64 n1] 3 fun a2 w2 =>
  (∃ p1 n2 c1, w2.cell? (a1.add 3) = some (.slice p1 n2 c1) ∧ Value.slice p1 n2 c1 = .slice p n c) ∧
  ∃ p1 n2,
  ∃ c1 w3,
  Sem.run Tryz.prog (Builtin.append_ #[44, 44] 44 #[.slice p n c, .slice (some a2) 1 1]) w2 = Result.ok (.slice p1 n2 c1) w3 ∧
  nn f fun a3 =>
  st w3 ((a3.add 3).add 0) (.slice p1 n2 c1) fun w4 =>
  ∃ (I : Nat → Bool → Int → World → Prop),
  (∃ m, I m false 0 w4) ∧
  ∀ m b n3 w5, I m b n3 w5 →
  nn f fun a4 =>
  ∃ p2,
  w5.cell? (a4.add 4) = some (.pointer p2) ∧
  nn p2 fun a5 =>
  ∃ p3 n4 c2,
  w5.cell? (a5.add 5) = some (.slice p3 n4 c2) ∧
  Sif (decide (n3 < (↑n4 : Int)))
  (∃ (J : Bool → World → Prop),
  (∀ b1 w6, J b1 w6 → nameI (IntKind.wrap .i64 (n3 + 1)) fun n5 => ∃ m', m' < m ∧ I m' b1 n5 w6) ∧
  nn f fun a6 =>
  ∃ p4,
  w5.drew.cell? (a6.add 4) = some (.pointer p4) ∧
  nn p4 fun a7 =>
  ∃ p5 n5 c3,
  w5.drew.cell? (a7.add 5) = some (.slice p5 n5 c3) ∧
  0 ≤ n3 ∧
  n3 < (↑n5 : Int) ∧
  nn p5 fun a8 =>
  ∃ n6,
  w5.drew.cell? (Addr.add (a8.add (Int.toNat n3 * 7)) 0) = some (.int .i64 n6) ∧
  ∃ n7,
  w5.drew.cell? (a.add 0) = some (.int .i64 n7) ∧
  Sif (n6 == n7) (nn f fun a9 => ∃ n8, w5.drew.drew.cell? (a.add 0) = some (.int .i64 n8) ∧ ∃ n9, w5.drew.drew.cell? (a.add 1) = some (.int .i64 n9) ∧ ∃ n10, w5.drew.drew.cell? (a.add 2) = some (.int .i64 n10) ∧ ∃ b1, w5.drew.drew.cell? (a.add 3) = some (.bool b1) ∧ ∃ n11, w5.drew.drew.cell? (a.add 4) = some (.int .i64 n11) ∧ ∃ n12, w5.drew.drew.cell? (a.add 5) = some (.int .i64 n12) ∧ ∃ p6 n13 c4, w5.drew.drew.cell? (a.add 6) = some (.slice p6 n13 c4) ∧ ∃ p7, w5.drew.drew.cell? (a9.add 4) = some (.pointer p7) ∧ nn p7 fun a10 => ∃ p8 n14 c5, w5.drew.drew.cell? (a10.add 5) = some (.slice p8 n14 c5) ∧ 0 ≤ n3 ∧ n3 < (↑n14 : Int) ∧ nn p8 fun a11 => ∃ n15, w5.drew.drew.cell? (Addr.add (a11.add (Int.toNat n3 * 7)) 0) = some (.int .i64 n15) ∧ ∃ n16, w5.drew.drew.cell? (Addr.add (a11.add (Int.toNat n3 * 7)) 1) = some (.int .i64 n16) ∧ ∃ n17, w5.drew.drew.cell? (Addr.add (a11.add (Int.toNat n3 * 7)) 2) = some (.int .i64 n17) ∧ ∃ b2, w5.drew.drew.cell? (Addr.add (a11.add (Int.toNat n3 * 7)) 3) = some (.bool b2) ∧ ∃ n18, w5.drew.drew.cell? (Addr.add (a11.add (Int.toNat n3 * 7)) 4) = some (.int .i64 n18) ∧ ∃ n19, w5.drew.drew.cell? (Addr.add (a11.add (Int.toNat n3 * 7)) 5) = some (.int .i64 n19) ∧ ∃ p9 n20 c6, w5.drew.drew.cell? (Addr.add (a11.add (Int.toNat n3 * 7)) 6) = some (.slice p9 n20 c6) ∧ callP Tryz.prog 11 [.agg #[.int .i64 n8, .int .i64 n9, .int .i64 n10, .bool b1, .int .i64 n11, .int .i64 n12, .slice p6 n13 c4], .agg #[.int .i64 n15, .int .i64 n16, .int .i64 n17, .bool b2, .int .i64 n18, .int .i64 n19, .slice p9 n20 c6]] w5.drew.drew fun v w6 => ∃ b3, v = .bool b3 ∧ J b3 w6) (J b w5.drew))
  (∃ (J : World → Prop), (∀ w6, J w6 → nn f fun a6 => ∃ p4, w6.drew.cell? (a6.add 0) = some (.pointer p4) ∧ ∃ n5, w6.drew.cell? (a.add 0) = some (.int .i64 n5) ∧ ∃ n6, w6.drew.cell? (a.add 1) = some (.int .i64 n6) ∧ ∃ n7, w6.drew.cell? (a.add 2) = some (.int .i64 n7) ∧ ∃ b1, w6.drew.cell? (a.add 3) = some (.bool b1) ∧ ∃ n8, w6.drew.cell? (a.add 4) = some (.int .i64 n8) ∧ ∃ n9, w6.drew.cell? (a.add 5) = some (.int .i64 n9) ∧ ∃ p5 n10 c3, w6.drew.cell? (a.add 6) = some (.slice p5 n10 c3) ∧ callP Tryz.prog 33 [.pointer p4, .agg #[.int .i64 n5, .int .i64 n6, .int .i64 n7, .bool b1, .int .i64 n8, .int .i64 n9, .slice p5 n10 c3]] w6.drew fun v w7 => v = .tuple #[] ∧ nn f fun a7 => ∃ b2, w7.cell? (a7.add 1) = some (.bool b2) ∧ Sif b2 (K (.bool true) w7) (∃ (I1 : Nat → Int → World → Prop), (∃ m1, I1 m1 0 w7) ∧ ∀ m1 n11 w8, I1 m1 n11 w8 → nn f fun a8 => ∃ p6 n12 c4, w8.cell? (a8.add 2) = some (.slice p6 n12 c4) ∧ Sif (decide (n11 < (↑n12 : Int))) (nn f fun a9 => ∃ p7 n13 c5, w8.drew.cell? (a9.add 2) = some (.slice p7 n13 c5) ∧ 0 ≤ n11 ∧ n11 < (↑n13 : Int) ∧ nn p7 fun a10 => ∃ n14, w8.drew.cell? (a10.add (Int.toNat n11 * 1)) = some (.int .i64 n14) ∧ ∃ n15, w8.drew.cell? (a.add 0) = some (.int .i64 n15) ∧ Sif (n14 == n15) (K (.bool true) w8.drew) (nameI (IntKind.wrap .i64 (n11 + 1)) fun n16 => ∃ m', m' < m1 ∧ I1 m' n16 w8.drew)) (K (.bool false) w8))) ∧ Sif (!b) (nn f fun a6 => st w5 ((a6.add 5).add 0) (.bool true) fun w6 => J w6) (J w5))
theorem eq_longshorelaw17_fitter_fits (f : Option Addr) (e_0 e_1 e_2 : Int) (e_3 : Bool) (e_4 e_5 : Int) (e_6 : Option Addr) (e_6n e_6c : Nat) (w : World) (K : Value → World → Prop) : wpF Tryz.prog none Tryz.f60 (.two .leaf (.two (.draw [0, 1, 2, 3, 5, 4, 6, 7, 8, 9, 10, 11]) (.two .leaf (.two (.two .leaf (.two (.loop [(5, .cell .bool), (6, .cell (.int .i64))] (.two (.two .leaf (.two .leaf .leaf)) (.two (.meet [(5, .cell .bool)] (.two (.two (.draw [0, 1, 2, 7, 11, 3, 4, 5, 6, 8, 9, 10, 12, 13]) (.two (.draw [1, 2, 3, 8, 0, 4, 5, 6, 7, 9, 10, 11, 12]) .leaf)) .leaf)) .leaf))) .leaf)) (.two (.meet [] (.two .leaf (.two .leaf .leaf))) (.two (.draw [0, 1, 2, 3, 4, 5]) (.two (.two .leaf (.two (.two .leaf .leaf) .leaf)) (.two (.two .leaf (.two (.loop [(7, .cell (.int .i64))] (.two (.two .leaf (.two .leaf .leaf)) (.two (.two (.two (.draw [0, 1, 2, 4, 7, 3, 5, 6, 8, 9]) (.two (.two .leaf .leaf) .leaf)) .leaf) .leaf))) .leaf)) (.two .leaf .leaf))))))))) [Value.pointer f, Value.agg #[Value.int .i64 e_0, Value.int .i64 e_1, Value.int .i64 e_2, Value.bool e_3, Value.int .i64 e_4, Value.int .i64 e_5, Value.slice e_6 e_6n e_6c]] w K = wp_longshorelaw17_fitter_fits f e_0 e_1 e_2 e_3 e_4 e_5 e_6 e_6n e_6c w K := by kernel_rfl
theorem ok_longshorelaw17_fitter_fits {f : Option Addr} {e_0 e_1 e_2 : Int} {e_3 : Bool} {e_4 e_5 : Int} {e_6 : Option Addr} {e_6n e_6c : Nat} {w : World} {K : Value → World → Prop} (hwp : wp_longshorelaw17_fitter_fits f e_0 e_1 e_2 e_3 e_4 e_5 e_6 e_6n e_6c w K) : callP Tryz.prog 60 [.pointer f, .agg #[.int .i64 e_0, .int .i64 e_1, .int .i64 e_2, .bool e_3, .int .i64 e_4, .int .i64 e_5, .slice e_6 e_6n e_6c]] w K :=
  calls_of Tryz.func60 ((eq_longshorelaw17_fitter_fits f e_0 e_1 e_2 e_3 e_4 e_5 e_6 e_6n e_6c w K).symm ▸ hwp)

end Go.Proofs.YtipbbjnmpnfhpaaGreatDoor
