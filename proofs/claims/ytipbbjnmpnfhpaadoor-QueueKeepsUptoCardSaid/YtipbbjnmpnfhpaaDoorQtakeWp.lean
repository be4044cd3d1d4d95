/-
  What a call of each function comes to (definitions 'wp_..', reckoned by a program out of the model's code), and that it is sound ('ok_..'). Written by program (sv.py).
-/
import Derived.Test.YtipbbjnmpnfhpaaDoorSvCode
import Derived.Test.YtipbbjnmpnfhpaaDoorProg
import Derived.KernelRfl
namespace Go.Proofs.YtipbbjnmpnfhpaaDoor
open Go Go.Sv
set_option linter.unusedVariables false

/-- (longshore.queue.Queue).Take -/
def wp_queue_Queue_Take_n (q : Option Addr) (holder : Int) (w : World) (K : Value → World → Prop) : Prop :=
  newB w [Value.pointer q] (25 : Nat) fun (a : Addr) (w1 : World) =>
  newB w1 [Value.int IntKind.i64 (0 : Int), Value.int IntKind.i64 (0 : Int), Value.int IntKind.i64 (0 : Int), Value.bool false, Value.int IntKind.i64 (0 : Int), Value.int IntKind.i64 (0 : Int), Value.slice none (0 : Nat) (0 : Nat)] (37 : Nat) fun (a1 : Addr) (w2 : World) =>
  Sif (decide (holder < (1 : Int))) (st w2 (Addr.add a1 (0 : Nat)) (Value.int IntKind.i64 (0 : Int)) fun (w3 : World) => st w3 (Addr.add a1 (1 : Nat)) (Value.int IntKind.i64 (0 : Int)) fun (w4 : World) => st w4 (Addr.add a1 (2 : Nat)) (Value.int IntKind.i64 (0 : Int)) fun (w5 : World) => st w5 (Addr.add a1 (3 : Nat)) (Value.bool false) fun (w6 : World) => st w6 (Addr.add a1 (4 : Nat)) (Value.int IntKind.i64 (0 : Int)) fun (w7 : World) => st w7 (Addr.add a1 (5 : Nat)) (Value.int IntKind.i64 (0 : Int)) fun (w8 : World) => st w8 (Addr.add a1 (6 : Nat)) (Value.slice none (0 : Nat) (0 : Nat)) fun (w9 : World) => ∃ (n : Int), World.cell? w9 (Addr.add a1 (0 : Nat)) = some (Value.int IntKind.i64 n) ∧ ∃ (n1 : Int), World.cell? w9 (Addr.add a1 (1 : Nat)) = some (Value.int IntKind.i64 n1) ∧ ∃ (n2 : Int), World.cell? w9 (Addr.add a1 (2 : Nat)) = some (Value.int IntKind.i64 n2) ∧ ∃ (b : Bool), World.cell? w9 (Addr.add a1 (3 : Nat)) = some (Value.bool b) ∧ ∃ (n3 : Int), World.cell? w9 (Addr.add a1 (4 : Nat)) = some (Value.int IntKind.i64 n3) ∧ ∃ (n4 : Int), World.cell? w9 (Addr.add a1 (5 : Nat)) = some (Value.int IntKind.i64 n4) ∧ ∃ (p : Option Addr), ∃ (n5 : Nat), ∃ (c : Nat), World.cell? w9 (Addr.add a1 (6 : Nat)) = some (Value.slice p n5 c) ∧ K (Value.tuple (Array.mk [Value.agg (Array.mk [Value.int IntKind.i64 n, Value.int IntKind.i64 n1, Value.int IntKind.i64 n2, Value.bool b, Value.int IntKind.i64 n3, Value.int IntKind.i64 n4, Value.slice p n5 c]), Value.bool false])) w9)
  (newB w2 [Value.slice none (0 : Nat) (0 : Nat)] (33 : Nat) fun (a2 : Addr) (w3 : World) =>
  ∃ (I : Nat → World → Prop),
  (∃ (m : Nat), I m w3) ∧
  ∀ (m : Nat) (w4 : World),
  I m w4 →
  ∃ (p : Option Addr),
  World.cell? w4 a = some (Value.pointer p) ∧
  nn p fun (a3 : Addr) =>
  ∃ (p1 : Option Addr),
  ∃ (n : Nat),
  ∃ (c : Nat),
  World.cell? w4 (Addr.add a3 (5 : Nat)) = some (Value.slice p1 n c) ∧
  Sif (decide ((↑n : Int) > (0 : Int)))
  (∃ (p2 : Option Addr),
  World.cell? w4 a = some (Value.pointer p2) ∧
  nn p2 fun (a4 : Addr) =>
  callP Tryd.prog (26 : Nat) [Value.iface (66 : Nat) (Value.pointer (some (Addr.add a4 (5 : Nat))))] w4 fun (v : Value) (w5 : World) =>
  ∃ (v1 : Value),
  v = v1 ∧
  ∃ (n1 : Int),
  ∃ (n2 : Int),
  ∃ (n3 : Int),
  ∃ (b : Bool),
  ∃ (n4 : Int),
  ∃ (n5 : Int),
  ∃ (p3 : Option Addr),
  ∃ (n6 : Nat),
  ∃ (c1 : Nat),
  Sem.run Tryd.prog (Instr.typeAssert v1 (20 : Nat) (37 : Nat) false) w5 = Result.ok (Value.agg (Array.mk [Value.int IntKind.i64 n1, Value.int IntKind.i64 n2, Value.int IntKind.i64 n3, Value.bool b, Value.int IntKind.i64 n4, Value.int IntKind.i64 n5, Value.slice p3 n6 c1])) w5 ∧
  newB w5 [Value.int IntKind.i64 (0 : Int), Value.int IntKind.i64 (0 : Int), Value.int IntKind.i64 (0 : Int), Value.bool false, Value.int IntKind.i64 (0 : Int), Value.int IntKind.i64 (0 : Int), Value.slice none (0 : Nat) (0 : Nat)] (37 : Nat) fun (a5 : Addr) (w6 : World) =>
  st w6 (Addr.add a5 (0 : Nat)) (Value.int IntKind.i64 n1) fun (w7 : World) =>
  st w7 (Addr.add a5 (1 : Nat)) (Value.int IntKind.i64 n2) fun (w8 : World) =>
  st w8 (Addr.add a5 (2 : Nat)) (Value.int IntKind.i64 n3) fun (w9 : World) =>
  st w9 (Addr.add a5 (3 : Nat)) (Value.bool b) fun (w10 : World) =>
  st w10 (Addr.add a5 (4 : Nat)) (Value.int IntKind.i64 n4) fun (w11 : World) =>
  st w11 (Addr.add a5 (5 : Nat)) (Value.int IntKind.i64 n5) fun (w12 : World) =>
  st w12 (Addr.add a5 (6 : Nat)) (Value.slice p3 n6 c1) fun (w13 : World) =>
  ∃ (J : World → Prop),
  (∀ (w14 : World), J w14 → ∃ (p4 : Option Addr), ∃ (n7 : Nat), ∃ (c2 : Nat), World.cell? w14 a2 = some (Value.slice p4 n7 c2) ∧ ∃ (n8 : Int), World.cell? w14 (Addr.add a5 (0 : Nat)) = some (Value.int IntKind.i64 n8) ∧ ∃ (n9 : Int), World.cell? w14 (Addr.add a5 (1 : Nat)) = some (Value.int IntKind.i64 n9) ∧ ∃ (n10 : Int), World.cell? w14 (Addr.add a5 (2 : Nat)) = some (Value.int IntKind.i64 n10) ∧ ∃ (b1 : Bool), World.cell? w14 (Addr.add a5 (3 : Nat)) = some (Value.bool b1) ∧ ∃ (n11 : Int), World.cell? w14 (Addr.add a5 (4 : Nat)) = some (Value.int IntKind.i64 n11) ∧ ∃ (n12 : Int), World.cell? w14 (Addr.add a5 (5 : Nat)) = some (Value.int IntKind.i64 n12) ∧ ∃ (p5 : Option Addr), ∃ (n13 : Nat), ∃ (c3 : Nat), World.cell? w14 (Addr.add a5 (6 : Nat)) = some (Value.slice p5 n13 c3) ∧ newB w14 [Value.int IntKind.i64 n8, Value.int IntKind.i64 n9, Value.int IntKind.i64 n10, Value.bool b1, Value.int IntKind.i64 n11, Value.int IntKind.i64 n12, Value.slice p5 n13 c3] (37 : Nat) fun (a6 : Addr) (w15 : World) => ∃ (p6 : Option Addr), ∃ (n14 : Nat), ∃ (c4 : Nat), ∃ (w16 : World), Sem.run Tryd.prog (Builtin.append_ (Array.mk [(33 : Nat), (33 : Nat)]) (33 : Nat) (Array.mk [Value.slice p4 n7 c2, Value.slice (some a6) (1 : Nat) (1 : Nat)])) w15 = Result.ok (Value.slice p6 n14 c4) w16 ∧ st w16 (Addr.add a2 (0 : Nat)) (Value.slice p6 n14 c4) fun (w17 : World) => ∃ (m' : Nat), m' < m ∧ I m' w17) ∧
  st w13 (Addr.add (Addr.add a5 (5 : Nat)) (0 : Nat)) (Value.int IntKind.i64 holder) fun (w14 : World) =>
  ∃ (p4 : Option Addr),
  World.cell? (World.drew w14) a = some (Value.pointer p4) ∧
  nn p4 fun (a6 : Addr) =>
  ∃ (r : Option Nat),
  World.cell? (World.drew w14) (Addr.add a6 (6 : Nat)) = some (Value.map r) ∧
  ∃ (n7 : Int),
  World.cell? (World.drew w14) (Addr.add a5 (0 : Nat)) = some (Value.int IntKind.i64 n7) ∧
  ∃ (n8 : Int),
  World.cell? (World.drew w14) (Addr.add a5 (0 : Nat)) = some (Value.int IntKind.i64 n8) ∧
  ∃ (n9 : Int),
  World.cell? (World.drew w14) (Addr.add a5 (1 : Nat)) = some (Value.int IntKind.i64 n9) ∧
  ∃ (n10 : Int),
  World.cell? (World.drew w14) (Addr.add a5 (2 : Nat)) = some (Value.int IntKind.i64 n10) ∧
  ∃ (b1 : Bool),
  World.cell? (World.drew w14) (Addr.add a5 (3 : Nat)) = some (Value.bool b1) ∧
  ∃ (n11 : Int),
  World.cell? (World.drew w14) (Addr.add a5 (4 : Nat)) = some (Value.int IntKind.i64 n11) ∧
  ∃ (n12 : Int),
  World.cell? (World.drew w14) (Addr.add a5 (5 : Nat)) = some (Value.int IntKind.i64 n12) ∧
  ∃ (p5 : Option Addr),
  ∃ (n13 : Nat),
  ∃ (c2 : Nat),
  World.cell? (World.drew w14) (Addr.add a5 (6 : Nat)) = some (Value.slice p5 n13 c2) ∧
  runU Tryd.prog (Instr.mapUpdate (59 : Nat) (Value.map r) (Value.int IntKind.i64 n7) (Value.agg (Array.mk [Value.int IntKind.i64 n8, Value.int IntKind.i64 n9, Value.int IntKind.i64 n10, Value.bool b1, Value.int IntKind.i64 n11, Value.int IntKind.i64 n12, Value.slice p5 n13 c2]))) (World.drew w14) fun (w15 : World) =>
  ∃ (n14 : Int), World.cell? w15 (Addr.add a5 (0 : Nat)) = some (Value.int IntKind.i64 n14) ∧ ∃ (n15 : Int), World.cell? w15 (Addr.add a5 (1 : Nat)) = some (Value.int IntKind.i64 n15) ∧ ∃ (n16 : Int), World.cell? w15 (Addr.add a5 (2 : Nat)) = some (Value.int IntKind.i64 n16) ∧ ∃ (b2 : Bool), World.cell? w15 (Addr.add a5 (3 : Nat)) = some (Value.bool b2) ∧ ∃ (n17 : Int), World.cell? w15 (Addr.add a5 (4 : Nat)) = some (Value.int IntKind.i64 n17) ∧ ∃ (n18 : Int), World.cell? w15 (Addr.add a5 (5 : Nat)) = some (Value.int IntKind.i64 n18) ∧ ∃ (p6 : Option Addr), ∃ (n19 : Nat), ∃ (c3 : Nat), World.cell? w15 (Addr.add a5 (6 : Nat)) = some (Value.slice p6 n19 c3) ∧ callP Tryd.prog (24 : Nat) [Value.agg (Array.mk [Value.int IntKind.i64 n14, Value.int IntKind.i64 n15, Value.int IntKind.i64 n16, Value.bool b2, Value.int IntKind.i64 n17, Value.int IntKind.i64 n18, Value.slice p6 n19 c3])] w15 fun (v2 : Value) (w16 : World) => ∃ (n20 : Int), ∃ (n21 : Int), ∃ (n22 : Int), ∃ (b3 : Bool), ∃ (n23 : Int), ∃ (n24 : Int), ∃ (p7 : Option Addr), ∃ (n25 : Nat), ∃ (c4 : Nat), v2 = Value.agg (Array.mk [Value.int IntKind.i64 n20, Value.int IntKind.i64 n21, Value.int IntKind.i64 n22, Value.bool b3, Value.int IntKind.i64 n23, Value.int IntKind.i64 n24, Value.slice p7 n25 c4]) ∧ st w16 (Addr.add a1 (0 : Nat)) (Value.int IntKind.i64 n20) fun (w17 : World) => st w17 (Addr.add a1 (1 : Nat)) (Value.int IntKind.i64 n21) fun (w18 : World) => st w18 (Addr.add a1 (2 : Nat)) (Value.int IntKind.i64 n22) fun (w19 : World) => st w19 (Addr.add a1 (3 : Nat)) (Value.bool b3) fun (w20 : World) => st w20 (Addr.add a1 (4 : Nat)) (Value.int IntKind.i64 n23) fun (w21 : World) => st w21 (Addr.add a1 (5 : Nat)) (Value.int IntKind.i64 n24) fun (w22 : World) => st w22 (Addr.add a1 (6 : Nat)) (Value.slice p7 n25 c4) fun (w23 : World) => callD Tryd.prog (25 : Nat) [Value.pointer (some a2), Value.pointer (some a)] w23 fun (w24 : World) => ∃ (n26 : Int), World.cell? w24 (Addr.add a1 (0 : Nat)) = some (Value.int IntKind.i64 n26) ∧ ∃ (n27 : Int), World.cell? w24 (Addr.add a1 (1 : Nat)) = some (Value.int IntKind.i64 n27) ∧ ∃ (n28 : Int), World.cell? w24 (Addr.add a1 (2 : Nat)) = some (Value.int IntKind.i64 n28) ∧ ∃ (b4 : Bool), World.cell? w24 (Addr.add a1 (3 : Nat)) = some (Value.bool b4) ∧ ∃ (n29 : Int), World.cell? w24 (Addr.add a1 (4 : Nat)) = some (Value.int IntKind.i64 n29) ∧ ∃ (n30 : Int), World.cell? w24 (Addr.add a1 (5 : Nat)) = some (Value.int IntKind.i64 n30) ∧ ∃ (p8 : Option Addr), ∃ (n31 : Nat), ∃ (c5 : Nat), World.cell? w24 (Addr.add a1 (6 : Nat)) = some (Value.slice p8 n31 c5) ∧ K (Value.tuple (Array.mk [Value.agg (Array.mk [Value.int IntKind.i64 n26, Value.int IntKind.i64 n27, Value.int IntKind.i64 n28, Value.bool b4, Value.int IntKind.i64 n29, Value.int IntKind.i64 n30, Value.slice p8 n31 c5]), Value.bool true])) w24)
  (st w4 (Addr.add a1 (0 : Nat)) (Value.int IntKind.i64 (0 : Int)) fun (w5 : World) => st w5 (Addr.add a1 (1 : Nat)) (Value.int IntKind.i64 (0 : Int)) fun (w6 : World) => st w6 (Addr.add a1 (2 : Nat)) (Value.int IntKind.i64 (0 : Int)) fun (w7 : World) => st w7 (Addr.add a1 (3 : Nat)) (Value.bool false) fun (w8 : World) => st w8 (Addr.add a1 (4 : Nat)) (Value.int IntKind.i64 (0 : Int)) fun (w9 : World) => st w9 (Addr.add a1 (5 : Nat)) (Value.int IntKind.i64 (0 : Int)) fun (w10 : World) => st w10 (Addr.add a1 (6 : Nat)) (Value.slice none (0 : Nat) (0 : Nat)) fun (w11 : World) => callD Tryd.prog (25 : Nat) [Value.pointer (some a2), Value.pointer (some a)] w11 fun (w12 : World) => ∃ (n1 : Int), World.cell? w12 (Addr.add a1 (0 : Nat)) = some (Value.int IntKind.i64 n1) ∧ ∃ (n2 : Int), World.cell? w12 (Addr.add a1 (1 : Nat)) = some (Value.int IntKind.i64 n2) ∧ ∃ (n3 : Int), World.cell? w12 (Addr.add a1 (2 : Nat)) = some (Value.int IntKind.i64 n3) ∧ ∃ (b : Bool), World.cell? w12 (Addr.add a1 (3 : Nat)) = some (Value.bool b) ∧ ∃ (n4 : Int), World.cell? w12 (Addr.add a1 (4 : Nat)) = some (Value.int IntKind.i64 n4) ∧ ∃ (n5 : Int), World.cell? w12 (Addr.add a1 (5 : Nat)) = some (Value.int IntKind.i64 n5) ∧ ∃ (p2 : Option Addr), ∃ (n6 : Nat), ∃ (c1 : Nat), World.cell? w12 (Addr.add a1 (6 : Nat)) = some (Value.slice p2 n6 c1) ∧ K (Value.tuple (Array.mk [Value.agg (Array.mk [Value.int IntKind.i64 n1, Value.int IntKind.i64 n2, Value.int IntKind.i64 n3, Value.bool b, Value.int IntKind.i64 n4, Value.int IntKind.i64 n5, Value.slice p2 n6 c1]), Value.bool false])) w12))
set_option maxRecDepth 100000 in
theorem eq_queue_Queue_Take_n (q : Option Addr) (holder : Int) (w : World) (K : Value → World → Prop) : wpF Tryd.prog none Tryd.f13 (Ann.two Ann.leaf (Ann.two (Ann.two Ann.leaf (Ann.two (Ann.two Ann.leaf Ann.leaf) Ann.leaf)) (Ann.two Ann.leaf (Ann.two Ann.leaf (Ann.two (Ann.two (Ann.loop [] (Ann.two (Ann.two Ann.leaf (Ann.two Ann.leaf Ann.leaf)) (Ann.two (Ann.two Ann.leaf (Ann.two (Ann.meet [] (Ann.two Ann.leaf (Ann.two (Ann.two Ann.leaf (Ann.two (Ann.draw [(4 : Nat), (0 : Nat), (1 : Nat), (2 : Nat), (3 : Nat), (5 : Nat), (6 : Nat), (7 : Nat)]) (Ann.two Ann.leaf Ann.leaf))) Ann.leaf))) Ann.leaf)) Ann.leaf))) Ann.leaf) (Ann.two Ann.leaf Ann.leaf)))))) [Value.pointer q, Value.int IntKind.i64 holder, Value.nilFunc] w K = wp_queue_Queue_Take_n q holder w K := by kernel_rfl
theorem ok_queue_Queue_Take_n {q : Option Addr} {holder : Int} {w : World} {K : Value → World → Prop} (hwp : wp_queue_Queue_Take_n q holder w K) : callP Tryd.prog 13 [.pointer q, .int .i64 holder, .nilFunc] w K :=
  calls_of Tryd.func13 ((eq_queue_Queue_Take_n q holder w K).symm ▸ hwp)

/-- (longshore.queue.Queue).Take -/
def wp_queue_Queue_Take_f (q : Option Addr) (holder : Int) (fits : Fn) (fitsa : Array Value) (fitsc : Array Value) (w : World) (K : Value → World → Prop) : Prop :=
  newB w [Value.pointer q] (25 : Nat) fun (a : Addr) (w1 : World) =>
  newB w1 [Value.int IntKind.i64 (0 : Int), Value.int IntKind.i64 (0 : Int), Value.int IntKind.i64 (0 : Int), Value.bool false, Value.int IntKind.i64 (0 : Int), Value.int IntKind.i64 (0 : Int), Value.slice none (0 : Nat) (0 : Nat)] (37 : Nat) fun (a1 : Addr) (w2 : World) =>
  Sif (decide (holder < (1 : Int))) (st w2 (Addr.add a1 (0 : Nat)) (Value.int IntKind.i64 (0 : Int)) fun (w3 : World) => st w3 (Addr.add a1 (1 : Nat)) (Value.int IntKind.i64 (0 : Int)) fun (w4 : World) => st w4 (Addr.add a1 (2 : Nat)) (Value.int IntKind.i64 (0 : Int)) fun (w5 : World) => st w5 (Addr.add a1 (3 : Nat)) (Value.bool false) fun (w6 : World) => st w6 (Addr.add a1 (4 : Nat)) (Value.int IntKind.i64 (0 : Int)) fun (w7 : World) => st w7 (Addr.add a1 (5 : Nat)) (Value.int IntKind.i64 (0 : Int)) fun (w8 : World) => st w8 (Addr.add a1 (6 : Nat)) (Value.slice none (0 : Nat) (0 : Nat)) fun (w9 : World) => ∃ (n : Int), World.cell? w9 (Addr.add a1 (0 : Nat)) = some (Value.int IntKind.i64 n) ∧ ∃ (n1 : Int), World.cell? w9 (Addr.add a1 (1 : Nat)) = some (Value.int IntKind.i64 n1) ∧ ∃ (n2 : Int), World.cell? w9 (Addr.add a1 (2 : Nat)) = some (Value.int IntKind.i64 n2) ∧ ∃ (b : Bool), World.cell? w9 (Addr.add a1 (3 : Nat)) = some (Value.bool b) ∧ ∃ (n3 : Int), World.cell? w9 (Addr.add a1 (4 : Nat)) = some (Value.int IntKind.i64 n3) ∧ ∃ (n4 : Int), World.cell? w9 (Addr.add a1 (5 : Nat)) = some (Value.int IntKind.i64 n4) ∧ ∃ (p : Option Addr), ∃ (n5 : Nat), ∃ (c : Nat), World.cell? w9 (Addr.add a1 (6 : Nat)) = some (Value.slice p n5 c) ∧ K (Value.tuple (Array.mk [Value.agg (Array.mk [Value.int IntKind.i64 n, Value.int IntKind.i64 n1, Value.int IntKind.i64 n2, Value.bool b, Value.int IntKind.i64 n3, Value.int IntKind.i64 n4, Value.slice p n5 c]), Value.bool false])) w9)
  (newB w2 [Value.slice none (0 : Nat) (0 : Nat)] (33 : Nat) fun (a2 : Addr) (w3 : World) =>
  ∃ (I : Nat → World → Prop),
  (∃ (m : Nat), I m w3) ∧
  ∀ (m : Nat) (w4 : World),
  I m w4 →
  ∃ (p : Option Addr),
  World.cell? w4 a = some (Value.pointer p) ∧
  nn p fun (a3 : Addr) =>
  ∃ (p1 : Option Addr),
  ∃ (n : Nat),
  ∃ (c : Nat),
  World.cell? w4 (Addr.add a3 (5 : Nat)) = some (Value.slice p1 n c) ∧
  Sif (decide ((↑n : Int) > (0 : Int)))
  (∃ (p2 : Option Addr),
  World.cell? w4 a = some (Value.pointer p2) ∧
  nn p2 fun (a4 : Addr) =>
  callP Tryd.prog (26 : Nat) [Value.iface (66 : Nat) (Value.pointer (some (Addr.add a4 (5 : Nat))))] w4 fun (v : Value) (w5 : World) =>
  ∃ (v1 : Value),
  v = v1 ∧
  ∃ (n1 : Int),
  ∃ (n2 : Int),
  ∃ (n3 : Int),
  ∃ (b : Bool),
  ∃ (n4 : Int),
  ∃ (n5 : Int),
  ∃ (p3 : Option Addr),
  ∃ (n6 : Nat),
  ∃ (c1 : Nat),
  Sem.run Tryd.prog (Instr.typeAssert v1 (20 : Nat) (37 : Nat) false) w5 = Result.ok (Value.agg (Array.mk [Value.int IntKind.i64 n1, Value.int IntKind.i64 n2, Value.int IntKind.i64 n3, Value.bool b, Value.int IntKind.i64 n4, Value.int IntKind.i64 n5, Value.slice p3 n6 c1])) w5 ∧
  newB w5 [Value.int IntKind.i64 (0 : Int), Value.int IntKind.i64 (0 : Int), Value.int IntKind.i64 (0 : Int), Value.bool false, Value.int IntKind.i64 (0 : Int), Value.int IntKind.i64 (0 : Int), Value.slice none (0 : Nat) (0 : Nat)] (37 : Nat) fun (a5 : Addr) (w6 : World) =>
  st w6 (Addr.add a5 (0 : Nat)) (Value.int IntKind.i64 n1) fun (w7 : World) =>
  st w7 (Addr.add a5 (1 : Nat)) (Value.int IntKind.i64 n2) fun (w8 : World) =>
  st w8 (Addr.add a5 (2 : Nat)) (Value.int IntKind.i64 n3) fun (w9 : World) =>
  st w9 (Addr.add a5 (3 : Nat)) (Value.bool b) fun (w10 : World) =>
  st w10 (Addr.add a5 (4 : Nat)) (Value.int IntKind.i64 n4) fun (w11 : World) =>
  st w11 (Addr.add a5 (5 : Nat)) (Value.int IntKind.i64 n5) fun (w12 : World) =>
  st w12 (Addr.add a5 (6 : Nat)) (Value.slice p3 n6 c1) fun (w13 : World) =>
  ∃ (J : World → Prop),
  (∀ (w14 : World), J w14 → ∃ (p4 : Option Addr), ∃ (n7 : Nat), ∃ (c2 : Nat), World.cell? w14 a2 = some (Value.slice p4 n7 c2) ∧ ∃ (n8 : Int), World.cell? w14 (Addr.add a5 (0 : Nat)) = some (Value.int IntKind.i64 n8) ∧ ∃ (n9 : Int), World.cell? w14 (Addr.add a5 (1 : Nat)) = some (Value.int IntKind.i64 n9) ∧ ∃ (n10 : Int), World.cell? w14 (Addr.add a5 (2 : Nat)) = some (Value.int IntKind.i64 n10) ∧ ∃ (b1 : Bool), World.cell? w14 (Addr.add a5 (3 : Nat)) = some (Value.bool b1) ∧ ∃ (n11 : Int), World.cell? w14 (Addr.add a5 (4 : Nat)) = some (Value.int IntKind.i64 n11) ∧ ∃ (n12 : Int), World.cell? w14 (Addr.add a5 (5 : Nat)) = some (Value.int IntKind.i64 n12) ∧ ∃ (p5 : Option Addr), ∃ (n13 : Nat), ∃ (c3 : Nat), World.cell? w14 (Addr.add a5 (6 : Nat)) = some (Value.slice p5 n13 c3) ∧ newB w14 [Value.int IntKind.i64 n8, Value.int IntKind.i64 n9, Value.int IntKind.i64 n10, Value.bool b1, Value.int IntKind.i64 n11, Value.int IntKind.i64 n12, Value.slice p5 n13 c3] (37 : Nat) fun (a6 : Addr) (w15 : World) => ∃ (p6 : Option Addr), ∃ (n14 : Nat), ∃ (c4 : Nat), ∃ (w16 : World), Sem.run Tryd.prog (Builtin.append_ (Array.mk [(33 : Nat), (33 : Nat)]) (33 : Nat) (Array.mk [Value.slice p4 n7 c2, Value.slice (some a6) (1 : Nat) (1 : Nat)])) w15 = Result.ok (Value.slice p6 n14 c4) w16 ∧ st w16 (Addr.add a2 (0 : Nat)) (Value.slice p6 n14 c4) fun (w17 : World) => ∃ (m' : Nat), m' < m ∧ I m' w17) ∧
  ∃ (n7 : Int),
  World.cell? w13 (Addr.add a5 (0 : Nat)) = some (Value.int IntKind.i64 n7) ∧
  ∃ (n8 : Int),
  World.cell? w13 (Addr.add a5 (1 : Nat)) = some (Value.int IntKind.i64 n8) ∧
  ∃ (n9 : Int),
  World.cell? w13 (Addr.add a5 (2 : Nat)) = some (Value.int IntKind.i64 n9) ∧
  ∃ (b1 : Bool),
  World.cell? w13 (Addr.add a5 (3 : Nat)) = some (Value.bool b1) ∧
  ∃ (n10 : Int),
  World.cell? w13 (Addr.add a5 (4 : Nat)) = some (Value.int IntKind.i64 n10) ∧
  ∃ (n11 : Int),
  World.cell? w13 (Addr.add a5 (5 : Nat)) = some (Value.int IntKind.i64 n11) ∧
  ∃ (p4 : Option Addr),
  ∃ (n12 : Nat),
  ∃ (c2 : Nat),
  World.cell? w13 (Addr.add a5 (6 : Nat)) = some (Value.slice p4 n12 c2) ∧
  callP Tryd.prog (24 : Nat) [Value.agg (Array.mk [Value.int IntKind.i64 n7, Value.int IntKind.i64 n8, Value.int IntKind.i64 n9, Value.bool b1, Value.int IntKind.i64 n10, Value.int IntKind.i64 n11, Value.slice p4 n12 c2])] w13 fun (v2 : Value) (w14 : World) =>
  ∃ (n13 : Int),
  ∃ (n14 : Int),
  ∃ (n15 : Int),
  ∃ (b2 : Bool),
  ∃ (n16 : Int),
  ∃ (n17 : Int),
  ∃ (p5 : Option Addr),
  ∃ (n18 : Nat),
  ∃ (c3 : Nat),
  v2 = Value.agg (Array.mk [Value.int IntKind.i64 n13, Value.int IntKind.i64 n14, Value.int IntKind.i64 n15, Value.bool b2, Value.int IntKind.i64 n16, Value.int IntKind.i64 n17, Value.slice p5 n18 c3]) ∧
  callV Tryd.prog none (Value.func fits fitsa fitsc) [Value.agg (Array.mk [Value.int IntKind.i64 n13, Value.int IntKind.i64 n14, Value.int IntKind.i64 n15, Value.bool b2, Value.int IntKind.i64 n16, Value.int IntKind.i64 n17, Value.slice p5 n18 c3])] w14 fun (v3 : Value) (w15 : World) =>
  ∃ (b3 : Bool),
  v3 = Value.bool b3 ∧
  Sif b3
  (st w15 (Addr.add (Addr.add a5 (5 : Nat)) (0 : Nat)) (Value.int IntKind.i64 holder) fun (w16 : World) =>
  ∃ (p6 : Option Addr),
  World.cell? (World.drew w16) a = some (Value.pointer p6) ∧
  nn p6 fun (a6 : Addr) =>
  ∃ (r : Option Nat),
  World.cell? (World.drew w16) (Addr.add a6 (6 : Nat)) = some (Value.map r) ∧
  ∃ (n19 : Int),
  World.cell? (World.drew w16) (Addr.add a5 (0 : Nat)) = some (Value.int IntKind.i64 n19) ∧
  ∃ (n20 : Int),
  World.cell? (World.drew w16) (Addr.add a5 (0 : Nat)) = some (Value.int IntKind.i64 n20) ∧
  ∃ (n21 : Int),
  World.cell? (World.drew w16) (Addr.add a5 (1 : Nat)) = some (Value.int IntKind.i64 n21) ∧
  ∃ (n22 : Int),
  World.cell? (World.drew w16) (Addr.add a5 (2 : Nat)) = some (Value.int IntKind.i64 n22) ∧
  ∃ (b4 : Bool),
  World.cell? (World.drew w16) (Addr.add a5 (3 : Nat)) = some (Value.bool b4) ∧
  ∃ (n23 : Int),
  World.cell? (World.drew w16) (Addr.add a5 (4 : Nat)) = some (Value.int IntKind.i64 n23) ∧
  ∃ (n24 : Int),
  World.cell? (World.drew w16) (Addr.add a5 (5 : Nat)) = some (Value.int IntKind.i64 n24) ∧
  ∃ (p7 : Option Addr),
  ∃ (n25 : Nat),
  ∃ (c4 : Nat),
  World.cell? (World.drew w16) (Addr.add a5 (6 : Nat)) = some (Value.slice p7 n25 c4) ∧
  runU Tryd.prog (Instr.mapUpdate (59 : Nat) (Value.map r) (Value.int IntKind.i64 n19) (Value.agg (Array.mk [Value.int IntKind.i64 n20, Value.int IntKind.i64 n21, Value.int IntKind.i64 n22, Value.bool b4, Value.int IntKind.i64 n23, Value.int IntKind.i64 n24, Value.slice p7 n25 c4]))) (World.drew w16) fun (w17 : World) =>
  ∃ (n26 : Int),
  World.cell? w17 (Addr.add a5 (0 : Nat)) = some (Value.int IntKind.i64 n26) ∧
  ∃ (n27 : Int), World.cell? w17 (Addr.add a5 (1 : Nat)) = some (Value.int IntKind.i64 n27) ∧ ∃ (n28 : Int), World.cell? w17 (Addr.add a5 (2 : Nat)) = some (Value.int IntKind.i64 n28) ∧ ∃ (b5 : Bool), World.cell? w17 (Addr.add a5 (3 : Nat)) = some (Value.bool b5) ∧ ∃ (n29 : Int), World.cell? w17 (Addr.add a5 (4 : Nat)) = some (Value.int IntKind.i64 n29) ∧ ∃ (n30 : Int), World.cell? w17 (Addr.add a5 (5 : Nat)) = some (Value.int IntKind.i64 n30) ∧ ∃ (p8 : Option Addr), ∃ (n31 : Nat), ∃ (c5 : Nat), World.cell? w17 (Addr.add a5 (6 : Nat)) = some (Value.slice p8 n31 c5) ∧ callP Tryd.prog (24 : Nat) [Value.agg (Array.mk [Value.int IntKind.i64 n26, Value.int IntKind.i64 n27, Value.int IntKind.i64 n28, Value.bool b5, Value.int IntKind.i64 n29, Value.int IntKind.i64 n30, Value.slice p8 n31 c5])] w17 fun (v4 : Value) (w18 : World) => ∃ (n32 : Int), ∃ (n33 : Int), ∃ (n34 : Int), ∃ (b6 : Bool), ∃ (n35 : Int), ∃ (n36 : Int), ∃ (p9 : Option Addr), ∃ (n37 : Nat), ∃ (c6 : Nat), v4 = Value.agg (Array.mk [Value.int IntKind.i64 n32, Value.int IntKind.i64 n33, Value.int IntKind.i64 n34, Value.bool b6, Value.int IntKind.i64 n35, Value.int IntKind.i64 n36, Value.slice p9 n37 c6]) ∧ st w18 (Addr.add a1 (0 : Nat)) (Value.int IntKind.i64 n32) fun (w19 : World) => st w19 (Addr.add a1 (1 : Nat)) (Value.int IntKind.i64 n33) fun (w20 : World) => st w20 (Addr.add a1 (2 : Nat)) (Value.int IntKind.i64 n34) fun (w21 : World) => st w21 (Addr.add a1 (3 : Nat)) (Value.bool b6) fun (w22 : World) => st w22 (Addr.add a1 (4 : Nat)) (Value.int IntKind.i64 n35) fun (w23 : World) => st w23 (Addr.add a1 (5 : Nat)) (Value.int IntKind.i64 n36) fun (w24 : World) => st w24 (Addr.add a1 (6 : Nat)) (Value.slice p9 n37 c6) fun (w25 : World) => callD Tryd.prog (25 : Nat) [Value.pointer (some a2), Value.pointer (some a)] w25 fun (w26 : World) => ∃ (n38 : Int), World.cell? w26 (Addr.add a1 (0 : Nat)) = some (Value.int IntKind.i64 n38) ∧ ∃ (n39 : Int), World.cell? w26 (Addr.add a1 (1 : Nat)) = some (Value.int IntKind.i64 n39) ∧ ∃ (n40 : Int), World.cell? w26 (Addr.add a1 (2 : Nat)) = some (Value.int IntKind.i64 n40) ∧ ∃ (b7 : Bool), World.cell? w26 (Addr.add a1 (3 : Nat)) = some (Value.bool b7) ∧ ∃ (n41 : Int), World.cell? w26 (Addr.add a1 (4 : Nat)) = some (Value.int IntKind.i64 n41) ∧ ∃ (n42 : Int), World.cell? w26 (Addr.add a1 (5 : Nat)) = some (Value.int IntKind.i64 n42) ∧ ∃ (p10 : Option Addr), ∃ (n43 : Nat), ∃ (c7 : Nat), World.cell? w26 (Addr.add a1 (6 : Nat)) = some (Value.slice p10 n43 c7) ∧ K (Value.tuple (Array.mk [Value.agg (Array.mk [Value.int IntKind.i64 n38, Value.int IntKind.i64 n39, Value.int IntKind.i64 n40, Value.bool b7, Value.int IntKind.i64 n41, Value.int IntKind.i64 n42, Value.slice p10 n43 c7]), Value.bool true])) w26)
  (J w15))
  (st w4 (Addr.add a1 (0 : Nat)) (Value.int IntKind.i64 (0 : Int)) fun (w5 : World) => st w5 (Addr.add a1 (1 : Nat)) (Value.int IntKind.i64 (0 : Int)) fun (w6 : World) => st w6 (Addr.add a1 (2 : Nat)) (Value.int IntKind.i64 (0 : Int)) fun (w7 : World) => st w7 (Addr.add a1 (3 : Nat)) (Value.bool false) fun (w8 : World) => st w8 (Addr.add a1 (4 : Nat)) (Value.int IntKind.i64 (0 : Int)) fun (w9 : World) => st w9 (Addr.add a1 (5 : Nat)) (Value.int IntKind.i64 (0 : Int)) fun (w10 : World) => st w10 (Addr.add a1 (6 : Nat)) (Value.slice none (0 : Nat) (0 : Nat)) fun (w11 : World) => callD Tryd.prog (25 : Nat) [Value.pointer (some a2), Value.pointer (some a)] w11 fun (w12 : World) => ∃ (n1 : Int), World.cell? w12 (Addr.add a1 (0 : Nat)) = some (Value.int IntKind.i64 n1) ∧ ∃ (n2 : Int), World.cell? w12 (Addr.add a1 (1 : Nat)) = some (Value.int IntKind.i64 n2) ∧ ∃ (n3 : Int), World.cell? w12 (Addr.add a1 (2 : Nat)) = some (Value.int IntKind.i64 n3) ∧ ∃ (b : Bool), World.cell? w12 (Addr.add a1 (3 : Nat)) = some (Value.bool b) ∧ ∃ (n4 : Int), World.cell? w12 (Addr.add a1 (4 : Nat)) = some (Value.int IntKind.i64 n4) ∧ ∃ (n5 : Int), World.cell? w12 (Addr.add a1 (5 : Nat)) = some (Value.int IntKind.i64 n5) ∧ ∃ (p2 : Option Addr), ∃ (n6 : Nat), ∃ (c1 : Nat), World.cell? w12 (Addr.add a1 (6 : Nat)) = some (Value.slice p2 n6 c1) ∧ K (Value.tuple (Array.mk [Value.agg (Array.mk [Value.int IntKind.i64 n1, Value.int IntKind.i64 n2, Value.int IntKind.i64 n3, Value.bool b, Value.int IntKind.i64 n4, Value.int IntKind.i64 n5, Value.slice p2 n6 c1]), Value.bool false])) w12))
set_option maxRecDepth 100000 in
theorem eq_queue_Queue_Take_f (q : Option Addr) (holder : Int) (fits : Fn) (fitsa : Array Value) (fitsc : Array Value) (w : World) (K : Value → World → Prop) : wpF Tryd.prog none Tryd.f13 (Ann.two Ann.leaf (Ann.two (Ann.two Ann.leaf (Ann.two (Ann.two Ann.leaf Ann.leaf) Ann.leaf)) (Ann.two Ann.leaf (Ann.two Ann.leaf (Ann.two (Ann.two (Ann.loop [] (Ann.two (Ann.two Ann.leaf (Ann.two Ann.leaf Ann.leaf)) (Ann.two (Ann.two Ann.leaf (Ann.two (Ann.meet [] (Ann.two Ann.leaf (Ann.two (Ann.two Ann.leaf (Ann.two (Ann.draw [(4 : Nat), (0 : Nat), (1 : Nat), (2 : Nat), (3 : Nat), (5 : Nat), (6 : Nat), (7 : Nat)]) (Ann.two Ann.leaf Ann.leaf))) Ann.leaf))) Ann.leaf)) Ann.leaf))) Ann.leaf) (Ann.two Ann.leaf Ann.leaf)))))) [Value.pointer q, Value.int IntKind.i64 holder, Value.func fits fitsa fitsc] w K = wp_queue_Queue_Take_f q holder fits fitsa fitsc w K := by kernel_rfl
theorem ok_queue_Queue_Take_f {q : Option Addr} {holder : Int} {fits : Fn} {fitsa : Array Value} {fitsc : Array Value} {w : World} {K : Value → World → Prop} (hwp : wp_queue_Queue_Take_f q holder fits fitsa fitsc w K) : callP Tryd.prog 13 [.pointer q, .int .i64 holder, .func fits fitsa fitsc] w K :=
  calls_of Tryd.func13 ((eq_queue_Queue_Take_f q holder fits fitsa fitsc w K).symm ▸ hwp)

/-- (longshore.queue.Queue).Take$1 -/
def wp_queue_Queue_Take_1 (cap0 : Option Addr) (cap1 : Option Addr) (w : World) (K : Value → World → Prop) : Prop :=
  nn cap0 fun (a : Addr) =>
  ∃ (p : Option Addr),
  ∃ (n : Nat),
  ∃ (c : Nat),
  World.cell? w a = some (Value.slice p n c) ∧
  ∃ (I : Nat → Int → World → Prop),
  (∃ (m : Nat), I m (0 : Int) w) ∧
  ∀ (m : Nat) (n1 : Int) (w1 : World),
  I m n1 w1 →
  Sif (decide (n1 < (↑n : Int)))
  ((0 : Int) ≤ n1 ∧
  n1 < (↑n : Int) ∧
  nn p fun (a1 : Addr) =>
  ∃ (n2 : Int),
  World.cell? w1 (Addr.add (Addr.add a1 (Int.toNat n1 * (7 : Nat))) (0 : Nat)) = some (Value.int IntKind.i64 n2) ∧
  ∃ (n3 : Int), World.cell? w1 (Addr.add (Addr.add a1 (Int.toNat n1 * (7 : Nat))) (1 : Nat)) = some (Value.int IntKind.i64 n3) ∧ ∃ (n4 : Int), World.cell? w1 (Addr.add (Addr.add a1 (Int.toNat n1 * (7 : Nat))) (2 : Nat)) = some (Value.int IntKind.i64 n4) ∧ ∃ (b : Bool), World.cell? w1 (Addr.add (Addr.add a1 (Int.toNat n1 * (7 : Nat))) (3 : Nat)) = some (Value.bool b) ∧ ∃ (n5 : Int), World.cell? w1 (Addr.add (Addr.add a1 (Int.toNat n1 * (7 : Nat))) (4 : Nat)) = some (Value.int IntKind.i64 n5) ∧ ∃ (n6 : Int), World.cell? w1 (Addr.add (Addr.add a1 (Int.toNat n1 * (7 : Nat))) (5 : Nat)) = some (Value.int IntKind.i64 n6) ∧ ∃ (p1 : Option Addr), ∃ (n7 : Nat), ∃ (c1 : Nat), World.cell? w1 (Addr.add (Addr.add a1 (Int.toNat n1 * (7 : Nat))) (6 : Nat)) = some (Value.slice p1 n7 c1) ∧ newB w1 [Value.int IntKind.i64 (0 : Int), Value.int IntKind.i64 (0 : Int), Value.int IntKind.i64 (0 : Int), Value.bool false, Value.int IntKind.i64 (0 : Int), Value.int IntKind.i64 (0 : Int), Value.slice none (0 : Nat) (0 : Nat)] (37 : Nat) fun (a2 : Addr) (w2 : World) => st w2 (Addr.add a2 (0 : Nat)) (Value.int IntKind.i64 n2) fun (w3 : World) => st w3 (Addr.add a2 (1 : Nat)) (Value.int IntKind.i64 n3) fun (w4 : World) => st w4 (Addr.add a2 (2 : Nat)) (Value.int IntKind.i64 n4) fun (w5 : World) => st w5 (Addr.add a2 (3 : Nat)) (Value.bool b) fun (w6 : World) => st w6 (Addr.add a2 (4 : Nat)) (Value.int IntKind.i64 n5) fun (w7 : World) => st w7 (Addr.add a2 (5 : Nat)) (Value.int IntKind.i64 n6) fun (w8 : World) => st w8 (Addr.add a2 (6 : Nat)) (Value.slice p1 n7 c1) fun (w9 : World) => nn cap1 fun (a3 : Addr) => ∃ (p2 : Option Addr), World.cell? (World.drew w9) a3 = some (Value.pointer p2) ∧ nn p2 fun (a4 : Addr) => ∃ (n8 : Int), World.cell? (World.drew w9) (Addr.add a2 (0 : Nat)) = some (Value.int IntKind.i64 n8) ∧ ∃ (n9 : Int), World.cell? (World.drew w9) (Addr.add a2 (1 : Nat)) = some (Value.int IntKind.i64 n9) ∧ ∃ (n10 : Int), World.cell? (World.drew w9) (Addr.add a2 (2 : Nat)) = some (Value.int IntKind.i64 n10) ∧ ∃ (b1 : Bool), World.cell? (World.drew w9) (Addr.add a2 (3 : Nat)) = some (Value.bool b1) ∧ ∃ (n11 : Int), World.cell? (World.drew w9) (Addr.add a2 (4 : Nat)) = some (Value.int IntKind.i64 n11) ∧ ∃ (n12 : Int), World.cell? (World.drew w9) (Addr.add a2 (5 : Nat)) = some (Value.int IntKind.i64 n12) ∧ ∃ (p3 : Option Addr), ∃ (n13 : Nat), ∃ (c2 : Nat), World.cell? (World.drew w9) (Addr.add a2 (6 : Nat)) = some (Value.slice p3 n13 c2) ∧ callP Tryd.prog (23 : Nat) [Value.iface (66 : Nat) (Value.pointer (some (Addr.add a4 (5 : Nat)))), Value.iface (37 : Nat) (Value.agg (Array.mk [Value.int IntKind.i64 n8, Value.int IntKind.i64 n9, Value.int IntKind.i64 n10, Value.bool b1, Value.int IntKind.i64 n11, Value.int IntKind.i64 n12, Value.slice p3 n13 c2]))] (World.drew w9) fun (v : Value) (w10 : World) => v = Value.tuple (Array.mk []) ∧ ∃ (m' : Nat), m' < m ∧ I m' (IntKind.wrap IntKind.i64 (n1 + (1 : Int))) w10)
  (K (Value.tuple (Array.mk [])) w1)
set_option maxRecDepth 100000 in
theorem eq_queue_Queue_Take_1 (cap0 : Option Addr) (cap1 : Option Addr) (w : World) (K : Value → World → Prop) : wpF Tryd.prog none Tryd.f25 (Ann.two Ann.leaf (Ann.two (Ann.loop [((6 : Nat), VSh.cell (Sh.int IntKind.i64))] (Ann.two Ann.leaf (Ann.two (Ann.two Ann.leaf Ann.leaf) (Ann.two (Ann.two (Ann.two Ann.leaf (Ann.draw [(0 : Nat), (1 : Nat), (2 : Nat), (3 : Nat), (4 : Nat), (5 : Nat), (6 : Nat)])) Ann.leaf) Ann.leaf)))) Ann.leaf)) [Value.pointer cap0, Value.pointer cap1] w K = wp_queue_Queue_Take_1 cap0 cap1 w K := by kernel_rfl
theorem ok_queue_Queue_Take_1 {cap0 : Option Addr} {cap1 : Option Addr} {w : World} {K : Value → World → Prop} (hwp : wp_queue_Queue_Take_1 cap0 cap1 w K) : callP Tryd.prog 25 [.pointer cap0, .pointer cap1] w K :=
  calls_of Tryd.func25 ((eq_queue_Queue_Take_1 cap0 cap1 w K).symm ▸ hwp)

end Go.Proofs.YtipbbjnmpnfhpaaDoor
