/-
  What a call of each function comes to (definitions 'wp_..', reckoned by a program out of the model's code), and that it is sound ('ok_..'). Written by program (sv.py).
-/
import Derived.Test.YtnibmhjdomndbaaGreatDoorSvCode
import Derived.Test.YtnibmhjdomndbaaGreatDoorProg
import Derived.KernelRfl
namespace Go.Proofs.YtnibmhjdomndbaaGreatDoor
open Go Go.Sv
set_option linter.unusedVariables false

/-- longshore.route.Covers -/
def wp_route_Covers (a : ByteArray) (b : ByteArray) (w : World) (K : Value → World → Prop) : Prop :=
  callP Tryz.prog (28 : Nat) [Value.string a, Value.bool true] w fun (v : Value) (w1 : World) =>
  ∃ (p : Option Addr),
  ∃ (n : Nat),
  ∃ (c : Nat),
  v = Value.slice p n c ∧
  callP Tryz.prog (28 : Nat) [Value.string b, Value.bool true] w1 fun (v1 : Value) (w2 : World) =>
  ∃ (p1 : Option Addr),
  ∃ (n1 : Nat),
  ∃ (c1 : Nat),
  v1 = Value.slice p1 n1 c1 ∧
  ∃ (J : World → Prop),
  (∀ (w3 : World),
  J w3 →
  newB w3 [Value.string (ByteArray.mk (Array.mk []))] (9 : Nat) fun (a1 : Addr) (w4 : World) =>
  ∃ (p2 : Option Addr),
  ∃ (n2 : Nat),
  ∃ (c2 : Nat),
  ∃ (w5 : World),
  Sem.run Tryz.prog (Builtin.append_ (Array.mk [(49 : Nat), (49 : Nat)]) (49 : Nat) (Array.mk [Value.slice (some a1) (1 : Nat) (1 : Nat), Value.slice p n c])) w4 = Result.ok (Value.slice p2 n2 c2) w5 ∧
  ∃ (p3 : Option Addr),
  ∃ (n3 : Nat),
  ∃ (c3 : Nat),
  ∃ (w6 : World),
  Sem.run Tryz.prog (Builtin.append_ (Array.mk [(49 : Nat), (49 : Nat)]) (49 : Nat) (Array.mk [Value.slice p2 n2 c2, Value.slice p1 n1 c1])) w5 = Result.ok (Value.slice p3 n3 c3) w6 ∧
  callP Tryz.prog (30 : Nat) [Value.slice p3 n3 c3, Value.func (Fn.func (31 : Nat)) (Array.mk []) (Array.mk [])] w6 fun (v2 : Value) (w7 : World) =>
  ∃ (p4 : Option Addr),
  ∃ (n4 : Nat),
  ∃ (c4 : Nat),
  v2 = Value.slice p4 n4 c4 ∧
  ∃ (r : Option Nat),
  ∃ (w8 : World),
  Sem.run Tryz.prog (Instr.makeMap (72 : Nat) none) w7 = Result.ok (Value.map r) w8 ∧
  callP Tryz.prog (32 : Nat) [Value.slice p n c, Value.int IntKind.u16 (1 : Int)] w8 fun (v3 : Value) (w9 : World) =>
  ∃ (n5 : Int),
  v3 = Value.int IntKind.u16 n5 ∧
  callP Tryz.prog (32 : Nat) [Value.slice p1 n1 c1, Value.int IntKind.u16 (1 : Int)] w9 fun (v4 : Value) (w10 : World) =>
  ∃ (n6 : Int),
  v4 = Value.int IntKind.u16 n6 ∧
  runU Tryz.prog (Instr.mapUpdate (72 : Nat) (Value.map r) (Value.agg (Array.mk [Value.int IntKind.u16 n5, Value.int IntKind.u16 n6])) (Value.agg (Array.mk []))) w10 fun (w11 : World) =>
  ∃ (I : Nat → Option Nat → Int → World → Prop),
  (∃ (m : Nat), I m r (0 : Int) w11) ∧
  ∀ (m : Nat) (p5 : Option Nat) (n7 : Int) (w12 : World),
  I m p5 n7 w12 →
  Sif (decide (n7 < (8 : Int)))
  (∃ (r1 : Option Nat),
  ∃ (w13 : World),
  Sem.run Tryz.prog (Instr.makeMap (72 : Nat) none) w12 = Result.ok (Value.map r1) w13 ∧
  ∃ (p6 : Option Addr),
  ∃ (w14 : World),
  Sem.run Tryz.prog (Instr.range (72 : Nat) (Value.map p5)) w13 = Result.ok (Value.pointer p6) w14 ∧
  ∃ (I1 : Nat → World → Prop),
  (∃ (m1 : Nat), I1 m1 w14) ∧
  ∀ (m1 : Nat) (w15 : World),
  I1 m1 w15 →
  (∃ (w16 : World), Sem.run Tryz.prog (Instr.next (Value.pointer p6) false (0 : Nat)) w15 = Result.ok (Value.tuple (Array.mk [Value.bool false])) w16 ∧ ∃ (m' : Nat), m' < m ∧ I m' r1 (IntKind.wrap IntKind.i64 (n7 + (1 : Int))) w16) ∨
  ∃ (v5 : Value),
  ∃ (v6 : Value),
  ∃ (w16 : World),
  Sem.run Tryz.prog (Instr.next (Value.pointer p6) false (0 : Nat)) w15 = Result.ok (Value.tuple (Array.mk [Value.bool true, v5, v6])) w16 ∧
  ∃ (v7 : Value),
  ∃ (v8 : Value),
  Sem.run Tryz.prog (Instr.entry (Value.pointer p6)) w16 = Result.ok (Value.tuple (Array.mk [v7, v8])) w16 ∧
  newB w16 [Value.int IntKind.u16 (0 : Int), Value.int IntKind.u16 (0 : Int)] (70 : Nat) fun (a2 : Addr) (w17 : World) =>
  asAggV (nat_lit 2) v7 fun (vs : List Value) =>
  stCells w17 a2 vs (0 : Nat) fun (w18 : World) =>
  ∃ (I2 : Nat → Int → World → Prop),
  (∃ (m2 : Nat), I2 m2 (0 : Int) w18) ∧
  ∀ (m2 : Nat) (n8 : Int) (w19 : World),
  I2 m2 n8 w19 →
  Sif (decide (n8 < (↑n4 : Int)))
  (∃ (J1 : World → Prop),
  (∀ (w20 : World), J1 w20 → ∃ (m' : Nat), m' < m2 ∧ I2 m' (IntKind.wrap IntKind.i64 (n8 + (1 : Int))) w20) ∧
  (0 : Int) ≤ n8 ∧
  n8 < (↑n4 : Int) ∧
  nn p4 fun (a3 : Addr) =>
  ∃ (s : ByteArray),
  World.cell? w19 (Addr.add a3 (Int.toNat n8 * (1 : Nat))) = some (Value.string s) ∧
  ∃ (n9 : Int),
  World.cell? (World.drew w19) (Addr.add a2 (0 : Nat)) = some (Value.int IntKind.u16 n9) ∧
  ∃ (n10 : Int),
  World.cell? (World.drew w19) (Addr.add a2 (1 : Nat)) = some (Value.int IntKind.u16 n10) ∧
  (callP Tryz.prog (33 : Nat) [Value.slice p n c, Value.int IntKind.u16 n9, Value.string s] (World.drew w19) fun (v9 : Value) (w20 : World) =>
  ∃ (n11 : Int),
  v9 = Value.int IntKind.u16 n11 ∧
  (∃ (n12 : Int), World.cell? w20 (Addr.add a2 (1 : Nat)) = some (Value.int IntKind.u16 n12) ∧ Value.int IntKind.u16 n12 = Value.int IntKind.u16 n10) ∧
  (callP Tryz.prog (33 : Nat) [Value.slice p1 n1 c1, Value.int IntKind.u16 n10, Value.string s] w20 fun (v10 : Value) (w21 : World) => ∃ (n12 : Int), v10 = Value.int IntKind.u16 n12 ∧ newB w21 [Value.int IntKind.u16 (0 : Int), Value.int IntKind.u16 (0 : Int)] (70 : Nat) fun (a4 : Addr) (w22 : World) => st w22 (Addr.add a4 (0 : Nat)) (Value.int IntKind.u16 n11) fun (w23 : World) => st w23 (Addr.add a4 (1 : Nat)) (Value.int IntKind.u16 n12) fun (w24 : World) => ∃ (J2 : World → Prop), (∀ (w25 : World), J2 w25 → ∃ (n13 : Int), World.cell? w25 (Addr.add a4 (1 : Nat)) = some (Value.int IntKind.u16 n13) ∧ Sif (n13 != (0 : Int)) (∃ (n14 : Int), World.cell? w25 (Addr.add a4 (0 : Nat)) = some (Value.int IntKind.u16 n14) ∧ ∃ (n15 : Int), World.cell? w25 (Addr.add a4 (1 : Nat)) = some (Value.int IntKind.u16 n15) ∧ runU Tryz.prog (Instr.mapUpdate (72 : Nat) (Value.map r1) (Value.agg (Array.mk [Value.int IntKind.u16 n14, Value.int IntKind.u16 n15])) (Value.agg (Array.mk []))) w25 fun (w26 : World) => J1 w26) (J1 w25)) ∧ (0 : Int) ≤ (↑n1 : Int) ∧ ∃ (n13 : Int), World.cell? (World.drew w24) (Addr.add a4 (1 : Nat)) = some (Value.int IntKind.u16 n13) ∧ Sif (bitsV BinOp.and IntKind.u16 n13 (IntKind.wrap IntKind.u16 ((1 : Int) * (2 : Int) ^ min (Int.toNat (↑n1 : Int)) (16 : Nat))) != (0 : Int)) ((0 : Int) ≤ (↑n : Int) ∧ ∃ (n14 : Int), World.cell? (World.drew w24) (Addr.add a4 (0 : Nat)) = some (Value.int IntKind.u16 n14) ∧ Sif (bitsV BinOp.and IntKind.u16 n14 (IntKind.wrap IntKind.u16 ((1 : Int) * (2 : Int) ^ min (Int.toNat (↑n : Int)) (16 : Nat))) == (0 : Int)) (K (Value.tuple (Array.mk [Value.bool false, Value.int IntKind.i64 (0 : Int)])) (World.drew w24)) (J2 (World.drew w24))) (J2 (World.drew w24))) ∧
  newB w20 [Value.int IntKind.u16 (0 : Int), Value.int IntKind.u16 (0 : Int)] (70 : Nat) fun (a4 : Addr) (w21 : World) => (∃ (n12 : Int), World.cell? w21 (Addr.add a2 (1 : Nat)) = some (Value.int IntKind.u16 n12) ∧ Value.int IntKind.u16 n12 = Value.int IntKind.u16 n10) ∧ callP Tryz.prog (33 : Nat) [Value.slice p1 n1 c1, Value.int IntKind.u16 n10, Value.string s] w21 fun (v10 : Value) (w22 : World) => ∃ (n12 : Int), v10 = Value.int IntKind.u16 n12 ∧ st w22 (Addr.add a4 (0 : Nat)) (Value.int IntKind.u16 n11) fun (w23 : World) => st w23 (Addr.add a4 (1 : Nat)) (Value.int IntKind.u16 n12) fun (w24 : World) => ∃ (J2 : World → Prop), (∀ (w25 : World), J2 w25 → ∃ (n13 : Int), World.cell? w25 (Addr.add a4 (1 : Nat)) = some (Value.int IntKind.u16 n13) ∧ Sif (n13 != (0 : Int)) (∃ (n14 : Int), World.cell? w25 (Addr.add a4 (0 : Nat)) = some (Value.int IntKind.u16 n14) ∧ ∃ (n15 : Int), World.cell? w25 (Addr.add a4 (1 : Nat)) = some (Value.int IntKind.u16 n15) ∧ runU Tryz.prog (Instr.mapUpdate (72 : Nat) (Value.map r1) (Value.agg (Array.mk [Value.int IntKind.u16 n14, Value.int IntKind.u16 n15])) (Value.agg (Array.mk []))) w25 fun (w26 : World) => J1 w26) (J1 w25)) ∧ (0 : Int) ≤ (↑n1 : Int) ∧ ∃ (n13 : Int), World.cell? (World.drew w24) (Addr.add a4 (1 : Nat)) = some (Value.int IntKind.u16 n13) ∧ Sif (bitsV BinOp.and IntKind.u16 n13 (IntKind.wrap IntKind.u16 ((1 : Int) * (2 : Int) ^ min (Int.toNat (↑n1 : Int)) (16 : Nat))) != (0 : Int)) ((0 : Int) ≤ (↑n : Int) ∧ ∃ (n14 : Int), World.cell? (World.drew w24) (Addr.add a4 (0 : Nat)) = some (Value.int IntKind.u16 n14) ∧ Sif (bitsV BinOp.and IntKind.u16 n14 (IntKind.wrap IntKind.u16 ((1 : Int) * (2 : Int) ^ min (Int.toNat (↑n : Int)) (16 : Nat))) == (0 : Int)) (K (Value.tuple (Array.mk [Value.bool false, Value.int IntKind.i64 (0 : Int)])) (World.drew w24)) (J2 (World.drew w24))) (J2 (World.drew w24))) ∧
  newB (World.drew w19) [Value.int IntKind.u16 (0 : Int), Value.int IntKind.u16 (0 : Int)] (70 : Nat) fun (a4 : Addr) (w20 : World) => (∃ (n11 : Int), World.cell? w20 (Addr.add a2 (1 : Nat)) = some (Value.int IntKind.u16 n11) ∧ Value.int IntKind.u16 n11 = Value.int IntKind.u16 n10) ∧ (∃ (n11 : Int), World.cell? w20 (Addr.add a2 (0 : Nat)) = some (Value.int IntKind.u16 n11) ∧ Value.int IntKind.u16 n11 = Value.int IntKind.u16 n9) ∧ callP Tryz.prog (33 : Nat) [Value.slice p n c, Value.int IntKind.u16 n9, Value.string s] w20 fun (v9 : Value) (w21 : World) => ∃ (n11 : Int), v9 = Value.int IntKind.u16 n11 ∧ (∃ (n12 : Int), World.cell? w21 (Addr.add a2 (1 : Nat)) = some (Value.int IntKind.u16 n12) ∧ Value.int IntKind.u16 n12 = Value.int IntKind.u16 n10) ∧ callP Tryz.prog (33 : Nat) [Value.slice p1 n1 c1, Value.int IntKind.u16 n10, Value.string s] w21 fun (v10 : Value) (w22 : World) => ∃ (n12 : Int), v10 = Value.int IntKind.u16 n12 ∧ st w22 (Addr.add a4 (0 : Nat)) (Value.int IntKind.u16 n11) fun (w23 : World) => st w23 (Addr.add a4 (1 : Nat)) (Value.int IntKind.u16 n12) fun (w24 : World) => ∃ (J2 : World → Prop), (∀ (w25 : World), J2 w25 → ∃ (n13 : Int), World.cell? w25 (Addr.add a4 (1 : Nat)) = some (Value.int IntKind.u16 n13) ∧ Sif (n13 != (0 : Int)) (∃ (n14 : Int), World.cell? w25 (Addr.add a4 (0 : Nat)) = some (Value.int IntKind.u16 n14) ∧ ∃ (n15 : Int), World.cell? w25 (Addr.add a4 (1 : Nat)) = some (Value.int IntKind.u16 n15) ∧ runU Tryz.prog (Instr.mapUpdate (72 : Nat) (Value.map r1) (Value.agg (Array.mk [Value.int IntKind.u16 n14, Value.int IntKind.u16 n15])) (Value.agg (Array.mk []))) w25 fun (w26 : World) => J1 w26) (J1 w25)) ∧ (0 : Int) ≤ (↑n1 : Int) ∧ ∃ (n13 : Int), World.cell? (World.drew w24) (Addr.add a4 (1 : Nat)) = some (Value.int IntKind.u16 n13) ∧ Sif (bitsV BinOp.and IntKind.u16 n13 (IntKind.wrap IntKind.u16 ((1 : Int) * (2 : Int) ^ min (Int.toNat (↑n1 : Int)) (16 : Nat))) != (0 : Int)) ((0 : Int) ≤ (↑n : Int) ∧ ∃ (n14 : Int), World.cell? (World.drew w24) (Addr.add a4 (0 : Nat)) = some (Value.int IntKind.u16 n14) ∧ Sif (bitsV BinOp.and IntKind.u16 n14 (IntKind.wrap IntKind.u16 ((1 : Int) * (2 : Int) ^ min (Int.toNat (↑n : Int)) (16 : Nat))) == (0 : Int)) (K (Value.tuple (Array.mk [Value.bool false, Value.int IntKind.i64 (0 : Int)])) (World.drew w24)) (J2 (World.drew w24))) (J2 (World.drew w24)))
  (∃ (m' : Nat), m' < m1 ∧ I1 m' w19))
  (K (Value.tuple (Array.mk [Value.bool true, Value.int IntKind.i64 (0 : Int)])) w12)) ∧
  Sif (!Option.isNone p) (Sif (Option.isNone p1) (K (Value.tuple (Array.mk [Value.bool false, Value.int IntKind.i64 (180 : Int)])) w2) (J w2)) (K (Value.tuple (Array.mk [Value.bool false, Value.int IntKind.i64 (180 : Int)])) w2)
set_option maxRecDepth 100000 in
theorem eq_route_Covers (a : ByteArray) (b : ByteArray) (w : World) (K : Value → World → Prop) : wpF Tryz.prog Tryz.f12 (Ann.two Ann.leaf (Ann.two Ann.leaf (Ann.two (Ann.meet [] (Ann.two Ann.leaf (Ann.two (Ann.two Ann.leaf Ann.leaf) Ann.leaf))) (Ann.two Ann.leaf (Ann.two Ann.leaf (Ann.two Ann.leaf (Ann.two Ann.leaf (Ann.two (Ann.two Ann.leaf (Ann.two (Ann.loop [((9 : Nat), VSh.cell Sh.map), ((41 : Nat), VSh.cell (Sh.int IntKind.i64))] (Ann.two Ann.leaf (Ann.two (Ann.two Ann.leaf Ann.leaf) (Ann.two (Ann.two (Ann.two Ann.leaf (Ann.two (Ann.two Ann.leaf (Ann.two (Ann.loop [] (Ann.two Ann.leaf (Ann.two (Ann.two Ann.leaf Ann.leaf) (Ann.two (Ann.two Ann.leaf (Ann.two Ann.leaf (Ann.two (Ann.loop [((52 : Nat), VSh.cell (Sh.int IntKind.i64))] (Ann.two Ann.leaf (Ann.two (Ann.two Ann.leaf Ann.leaf) (Ann.two (Ann.meet [] (Ann.two (Ann.two Ann.leaf (Ann.two (Ann.draws (OT.op (0 : Nat) (OT.op (1 : Nat) (OT.op (3 : Nat) (OT.op (5 : Nat) (OT.op (6 : Nat) (OT.op (8 : Nat) (OT.op (2 : Nat) (OT.op (7 : Nat) (OT.alt (OT.op (4 : Nat) (OT.alt (OT.op (9 : Nat) (OT.op (10 : Nat) (OT.op (11 : Nat) (OT.op (12 : Nat) OT.nil)))) (OT.op (11 : Nat) (OT.op (9 : Nat) (OT.op (10 : Nat) (OT.op (12 : Nat) OT.nil)))))) (OT.op (11 : Nat) (OT.op (4 : Nat) (OT.op (9 : Nat) (OT.op (10 : Nat) (OT.op (12 : Nat) OT.nil))))))))))))))) (Ann.two (Ann.meet [] (Ann.two (Ann.draw [(0 : Nat), (2 : Nat), (3 : Nat), (4 : Nat), (1 : Nat), (5 : Nat), (6 : Nat), (7 : Nat), (8 : Nat), (10 : Nat), (11 : Nat), (12 : Nat), (9 : Nat), (13 : Nat), (14 : Nat), (15 : Nat)]) (Ann.two (Ann.two Ann.leaf Ann.leaf) Ann.leaf))) (Ann.two Ann.leaf (Ann.two Ann.leaf Ann.leaf))))) Ann.leaf)) Ann.leaf)))) Ann.leaf))) Ann.leaf)))) Ann.leaf)) Ann.leaf)) Ann.leaf) Ann.leaf)))) Ann.leaf)) (Ann.two Ann.leaf Ann.leaf))))))))) [Value.string a, Value.string b] w K = wp_route_Covers a b w K := by kernel_rfl
theorem ok_route_Covers {a : ByteArray} {b : ByteArray} {w : World} {K : Value → World → Prop} (h : wp_route_Covers a b w K) : callP Tryz.prog 12 [.string a, .string b] w K :=
  calls_of Tryz.func12 ((eq_route_Covers a b w K).symm ▸ h)

end Go.Proofs.YtnibmhjdomndbaaGreatDoor
