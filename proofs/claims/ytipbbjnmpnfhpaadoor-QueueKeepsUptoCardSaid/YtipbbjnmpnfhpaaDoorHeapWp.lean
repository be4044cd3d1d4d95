/-
  What a call of each function comes to (definitions 'wp_..', reckoned by a program out of the model's code), and that it is sound ('ok_..'). Written by program (sv.py).
-/
import Derived.Test.YtipbbjnmpnfhpaaDoorSvCode
import Derived.Test.YtipbbjnmpnfhpaaDoorProg
import Derived.KernelRfl
namespace Go.Proofs.YtipbbjnmpnfhpaaDoor
open Go Go.Sv
set_option linter.unusedVariables false

/-- container.heap.Push -/
def wp_heap_Push (h : Value) (x : Value) (w : World) (K : Value → World → Prop) : Prop :=
  callI Tryd.prog none h "Push" [x] w fun (v : Value) (w1 : World) => v = Value.tuple (Array.mk []) ∧ callI Tryd.prog none h "Len" [] w1 fun (v1 : Value) (w2 : World) => ∃ (n : Int), v1 = Value.int IntKind.i64 n ∧ callP Tryd.prog (37 : Nat) [h, Value.int IntKind.i64 (IntKind.wrap IntKind.i64 (n - (1 : Int)))] w2 fun (v2 : Value) (w3 : World) => v2 = Value.tuple (Array.mk []) ∧ K (Value.tuple (Array.mk [])) w3
set_option maxRecDepth 100000 in
theorem eq_heap_Push (h : Value) (x : Value) (w : World) (K : Value → World → Prop) : wpF Tryd.prog none Tryd.f23 (Ann.two Ann.leaf Ann.leaf) [h, x] w K = wp_heap_Push h x w K := by kernel_rfl
theorem ok_heap_Push {h : Value} {x : Value} {w : World} {K : Value → World → Prop} (hwp : wp_heap_Push h x w K) : callP Tryd.prog 23 [h, x] w K :=
  calls_of Tryd.func23 ((eq_heap_Push h x w K).symm ▸ hwp)

/-- container.heap.Pop -/
def wp_heap_Pop (h : Value) (w : World) (K : Value → World → Prop) : Prop :=
  callI Tryd.prog none h "Len" [] w fun (v : Value) (w1 : World) => ∃ (n : Int), v = Value.int IntKind.i64 n ∧ nameI (IntKind.wrap IntKind.i64 (n - (1 : Int))) fun (n1 : Int) => callI Tryd.prog none h "Swap" [Value.int IntKind.i64 (0 : Int), Value.int IntKind.i64 n1] w1 fun (v1 : Value) (w2 : World) => v1 = Value.tuple (Array.mk []) ∧ callP Tryd.prog (39 : Nat) [h, Value.int IntKind.i64 (0 : Int), Value.int IntKind.i64 n1] w2 fun (v2 : Value) (w3 : World) => ∃ (b : Bool), v2 = Value.bool b ∧ callI Tryd.prog none h "Pop" [] w3 fun (v3 : Value) (w4 : World) => ∃ (v4 : Value), v3 = v4 ∧ K (tupV [v4]) w4
set_option maxRecDepth 100000 in
theorem eq_heap_Pop (h : Value) (w : World) (K : Value → World → Prop) : wpF Tryd.prog none Tryd.f26 (Ann.two Ann.leaf (Ann.two Ann.leaf (Ann.two Ann.leaf (Ann.two Ann.leaf (Ann.two Ann.leaf Ann.leaf))))) [h] w K = wp_heap_Pop h w K := by kernel_rfl
theorem ok_heap_Pop {h : Value} {w : World} {K : Value → World → Prop} (hwp : wp_heap_Pop h w K) : callP Tryd.prog 26 [h] w K :=
  calls_of Tryd.func26 ((eq_heap_Pop h w K).symm ▸ hwp)

/-- container.heap.Remove -/
def wp_heap_Remove (h : Value) (i : Int) (w : World) (K : Value → World → Prop) : Prop :=
  callI Tryd.prog none h "Len" [] w fun (v : Value) (w1 : World) => ∃ (n : Int), v = Value.int IntKind.i64 n ∧ nameI (IntKind.wrap IntKind.i64 (n - (1 : Int))) fun (n1 : Int) => ∃ (J : World → Prop), (∀ (w2 : World), J w2 → callI Tryd.prog none h "Pop" [] w2 fun (v1 : Value) (w3 : World) => ∃ (v2 : Value), v1 = v2 ∧ K (tupV [v2]) w3) ∧ Sif (n1 != i) (callI Tryd.prog none h "Swap" [Value.int IntKind.i64 i, Value.int IntKind.i64 n1] w1 fun (v1 : Value) (w2 : World) => v1 = Value.tuple (Array.mk []) ∧ callP Tryd.prog (39 : Nat) [h, Value.int IntKind.i64 i, Value.int IntKind.i64 n1] w2 fun (v2 : Value) (w3 : World) => ∃ (b : Bool), v2 = Value.bool b ∧ Sif (!b) (callP Tryd.prog (37 : Nat) [h, Value.int IntKind.i64 i] w3 fun (v3 : Value) (w4 : World) => v3 = Value.tuple (Array.mk []) ∧ J w4) (J w3)) (J w1)
set_option maxRecDepth 100000 in
theorem eq_heap_Remove (h : Value) (i : Int) (w : World) (K : Value → World → Prop) : wpF Tryd.prog none Tryd.f29 (Ann.two Ann.leaf (Ann.two Ann.leaf (Ann.two (Ann.meet [] (Ann.two Ann.leaf (Ann.two (Ann.two Ann.leaf (Ann.two Ann.leaf (Ann.two Ann.leaf Ann.leaf))) Ann.leaf))) (Ann.two Ann.leaf Ann.leaf)))) [h, Value.int IntKind.i64 i] w K = wp_heap_Remove h i w K := by kernel_rfl
theorem ok_heap_Remove {h : Value} {i : Int} {w : World} {K : Value → World → Prop} (hwp : wp_heap_Remove h i w K) : callP Tryd.prog 29 [h, .int .i64 i] w K :=
  calls_of Tryd.func29 ((eq_heap_Remove h i w K).symm ▸ hwp)

/-- container.heap.Init -/
def wp_heap_Init (h : Value) (w : World) (K : Value → World → Prop) : Prop :=
  callI Tryd.prog none h "Len" [] w fun (v : Value) (w1 : World) => ∃ (n : Int), v = Value.int IntKind.i64 n ∧ (2 : Int) ≠ (0 : Int) ∧ nameI (IntKind.wrap IntKind.i64 (IntKind.wrap IntKind.i64 (Int.tdiv n (2 : Int)) - (1 : Int))) fun (n1 : Int) => ∃ (I : Nat → Int → World → Prop), (∃ (m : Nat), I m n1 w1) ∧ ∀ (m : Nat) (n2 : Int) (w2 : World), I m n2 w2 → Sif (decide (n2 ≥ (0 : Int))) (callP Tryd.prog (39 : Nat) [h, Value.int IntKind.i64 n2, Value.int IntKind.i64 n] w2 fun (v1 : Value) (w3 : World) => ∃ (b : Bool), v1 = Value.bool b ∧ nameI (IntKind.wrap IntKind.i64 (n2 - (1 : Int))) fun (n3 : Int) => ∃ (m' : Nat), m' < m ∧ I m' n3 w3) (K (Value.tuple (Array.mk [])) w2)
set_option maxRecDepth 100000 in
theorem eq_heap_Init (h : Value) (w : World) (K : Value → World → Prop) : wpF Tryd.prog none Tryd.f30 (Ann.two Ann.leaf (Ann.two Ann.leaf (Ann.two (Ann.loop [((3 : Nat), VSh.cell (Sh.int IntKind.i64))] (Ann.two (Ann.two Ann.leaf (Ann.two Ann.leaf Ann.leaf)) (Ann.two (Ann.two Ann.leaf Ann.leaf) Ann.leaf))) Ann.leaf))) [h] w K = wp_heap_Init h w K := by kernel_rfl
theorem ok_heap_Init {h : Value} {w : World} {K : Value → World → Prop} (hwp : wp_heap_Init h w K) : callP Tryd.prog 30 [h] w K :=
  calls_of Tryd.func30 ((eq_heap_Init h w K).symm ▸ hwp)

/-- container.heap.up -/
def wp_heap_up (h : Value) (j : Int) (w : World) (K : Value → World → Prop) : Prop :=
  ∃ (I : Nat → Int → World → Prop), (∃ (m : Nat), I m j w) ∧ ∀ (m : Nat) (n : Int) (w1 : World), I m n w1 → (2 : Int) ≠ (0 : Int) ∧ nameI (IntKind.wrap IntKind.i64 (Int.tdiv (IntKind.wrap IntKind.i64 (n - (1 : Int))) (2 : Int))) fun (n1 : Int) => ∃ (J : World → Prop), (∀ (w2 : World), J w2 → callI Tryd.prog none h "Swap" [Value.int IntKind.i64 n1, Value.int IntKind.i64 n] w2 fun (v : Value) (w3 : World) => v = Value.tuple (Array.mk []) ∧ ∃ (m' : Nat), m' < m ∧ I m' n1 w3) ∧ Sif (!n1 == n) (callI Tryd.prog none h "Less" [Value.int IntKind.i64 n, Value.int IntKind.i64 n1] w1 fun (v : Value) (w2 : World) => ∃ (b : Bool), v = Value.bool b ∧ Sif (!b) (K (Value.tuple (Array.mk [])) w2) (J w2)) (K (Value.tuple (Array.mk [])) w1)
set_option maxRecDepth 100000 in
theorem eq_heap_up (h : Value) (j : Int) (w : World) (K : Value → World → Prop) : wpF Tryd.prog none Tryd.f37 (Ann.two (Ann.loop [((1 : Nat), VSh.cell (Sh.int IntKind.i64))] (Ann.two (Ann.two Ann.leaf (Ann.two (Ann.meet [] (Ann.two Ann.leaf (Ann.two Ann.leaf Ann.leaf))) (Ann.two Ann.leaf Ann.leaf))) Ann.leaf)) Ann.leaf) [h, Value.int IntKind.i64 j] w K = wp_heap_up h j w K := by kernel_rfl
theorem ok_heap_up {h : Value} {j : Int} {w : World} {K : Value → World → Prop} (hwp : wp_heap_up h j w K) : callP Tryd.prog 37 [h, .int .i64 j] w K :=
  calls_of Tryd.func37 ((eq_heap_up h j w K).symm ▸ hwp)

/-- container.heap.down -/
def wp_heap_down (h : Value) (i0 : Int) (n : Int) (w : World) (K : Value → World → Prop) : Prop :=
  ∃ (J : Int → World → Prop), (∀ (n1 : Int) (w1 : World), J n1 w1 → K (Value.bool (decide (n1 > i0))) w1) ∧ ∃ (I : Nat → Int → World → Prop), (∃ (m : Nat), I m i0 w) ∧ ∀ (m : Nat) (n1 : Int) (w1 : World), I m n1 w1 → nameI (IntKind.wrap IntKind.i64 (IntKind.wrap IntKind.i64 ((2 : Int) * n1) + (1 : Int))) fun (n2 : Int) => ∃ (J1 : World → Prop), (∀ (w2 : World), J1 w2 → ∃ (J2 : Int → World → Prop), (∀ (n3 : Int) (w3 : World), J2 n3 w3 → callI Tryd.prog none h "Less" [Value.int IntKind.i64 n3, Value.int IntKind.i64 n1] w3 fun (v : Value) (w4 : World) => ∃ (b : Bool), v = Value.bool b ∧ Sif (!b) (J n1 w4) (callI Tryd.prog none h "Swap" [Value.int IntKind.i64 n1, Value.int IntKind.i64 n3] w4 fun (v1 : Value) (w5 : World) => v1 = Value.tuple (Array.mk []) ∧ ∃ (m' : Nat), m' < m ∧ I m' n3 w5)) ∧ nameI (IntKind.wrap IntKind.i64 (n2 + (1 : Int))) fun (n3 : Int) => Sif (decide (n3 < n)) (callI Tryd.prog none h "Less" [Value.int IntKind.i64 n3, Value.int IntKind.i64 n2] w2 fun (v : Value) (w3 : World) => ∃ (b : Bool), v = Value.bool b ∧ Sif b (J2 n3 w3) (J2 n2 w3)) (J2 n2 w2)) ∧ Sif (!decide (n2 ≥ n)) (Sif (decide (n2 < (0 : Int))) (J n1 w1) (J1 w1)) (J n1 w1)
set_option maxRecDepth 100000 in
theorem eq_heap_down (h : Value) (i0 : Int) (n : Int) (w : World) (K : Value → World → Prop) : wpF Tryd.prog none Tryd.f39 (Ann.two Ann.leaf (Ann.two Ann.leaf (Ann.two (Ann.meet [((7 : Nat), VSh.cell (Sh.int IntKind.i64))] (Ann.two (Ann.loop [((7 : Nat), VSh.cell (Sh.int IntKind.i64))] (Ann.two (Ann.two Ann.leaf (Ann.two (Ann.meet [] (Ann.two Ann.leaf (Ann.two Ann.leaf Ann.leaf))) (Ann.two Ann.leaf (Ann.two (Ann.meet [((9 : Nat), VSh.cell (Sh.int IntKind.i64))] (Ann.two Ann.leaf (Ann.two Ann.leaf (Ann.two Ann.leaf Ann.leaf)))) (Ann.two (Ann.two Ann.leaf (Ann.two Ann.leaf Ann.leaf)) (Ann.two Ann.leaf Ann.leaf)))))) Ann.leaf)) Ann.leaf)) (Ann.two Ann.leaf Ann.leaf)))) [h, Value.int IntKind.i64 i0, Value.int IntKind.i64 n] w K = wp_heap_down h i0 n w K := by kernel_rfl
theorem ok_heap_down {h : Value} {i0 : Int} {n : Int} {w : World} {K : Value → World → Prop} (hwp : wp_heap_down h i0 n w K) : callP Tryd.prog 39 [h, .int .i64 i0, .int .i64 n] w K :=
  calls_of Tryd.func39 ((eq_heap_down h i0 n w K).symm ▸ hwp)

/-- (longshore.queue.free).Len -/
def wp_queue_free_Len (f : Option Addr) (fn : Nat) (fc : Nat) (w : World) (K : Value → World → Prop) : Prop :=
  K (Value.int IntKind.i64 (↑fn : Int)) w
set_option maxRecDepth 100000 in
theorem eq_queue_free_Len (f : Option Addr) (fn : Nat) (fc : Nat) (w : World) (K : Value → World → Prop) : wpF Tryd.prog none Tryd.f113 (Ann.two Ann.leaf (Ann.two Ann.leaf Ann.leaf)) [Value.slice f fn fc] w K = wp_queue_free_Len f fn fc w K := by kernel_rfl
theorem ok_queue_free_Len {f : Option Addr} {fn : Nat} {fc : Nat} {w : World} {K : Value → World → Prop} (hwp : wp_queue_free_Len f fn fc w K) : callP Tryd.prog 113 [.slice f fn fc] w K :=
  calls_of Tryd.func113 ((eq_queue_free_Len f fn fc w K).symm ▸ hwp)

/-- (longshore.queue.free).Less -/
def wp_queue_free_Less (f : Option Addr) (fn : Nat) (fc : Nat) (i : Int) (j : Int) (w : World) (K : Value → World → Prop) : Prop :=
  (0 : Int) ≤ i ∧ i < (↑fn : Int) ∧ nn f fun (a : Addr) => (0 : Int) ≤ j ∧ j < (↑fn : Int) ∧ nn f fun (a1 : Addr) => ∃ (n : Int), World.cell? (World.drew w) (Addr.add (Addr.add a (Int.toNat i * (7 : Nat))) (0 : Nat)) = some (Value.int IntKind.i64 n) ∧ ∃ (n1 : Int), World.cell? (World.drew w) (Addr.add (Addr.add a (Int.toNat i * (7 : Nat))) (1 : Nat)) = some (Value.int IntKind.i64 n1) ∧ ∃ (n2 : Int), World.cell? (World.drew w) (Addr.add (Addr.add a (Int.toNat i * (7 : Nat))) (2 : Nat)) = some (Value.int IntKind.i64 n2) ∧ ∃ (b : Bool), World.cell? (World.drew w) (Addr.add (Addr.add a (Int.toNat i * (7 : Nat))) (3 : Nat)) = some (Value.bool b) ∧ ∃ (n3 : Int), World.cell? (World.drew w) (Addr.add (Addr.add a (Int.toNat i * (7 : Nat))) (4 : Nat)) = some (Value.int IntKind.i64 n3) ∧ ∃ (n4 : Int), World.cell? (World.drew w) (Addr.add (Addr.add a (Int.toNat i * (7 : Nat))) (5 : Nat)) = some (Value.int IntKind.i64 n4) ∧ ∃ (p : Option Addr), ∃ (n5 : Nat), ∃ (c : Nat), World.cell? (World.drew w) (Addr.add (Addr.add a (Int.toNat i * (7 : Nat))) (6 : Nat)) = some (Value.slice p n5 c) ∧ ∃ (n6 : Int), World.cell? (World.drew w) (Addr.add (Addr.add a1 (Int.toNat j * (7 : Nat))) (0 : Nat)) = some (Value.int IntKind.i64 n6) ∧ ∃ (n7 : Int), World.cell? (World.drew w) (Addr.add (Addr.add a1 (Int.toNat j * (7 : Nat))) (1 : Nat)) = some (Value.int IntKind.i64 n7) ∧ ∃ (n8 : Int), World.cell? (World.drew w) (Addr.add (Addr.add a1 (Int.toNat j * (7 : Nat))) (2 : Nat)) = some (Value.int IntKind.i64 n8) ∧ ∃ (b1 : Bool), World.cell? (World.drew w) (Addr.add (Addr.add a1 (Int.toNat j * (7 : Nat))) (3 : Nat)) = some (Value.bool b1) ∧ ∃ (n9 : Int), World.cell? (World.drew w) (Addr.add (Addr.add a1 (Int.toNat j * (7 : Nat))) (4 : Nat)) = some (Value.int IntKind.i64 n9) ∧ ∃ (n10 : Int), World.cell? (World.drew w) (Addr.add (Addr.add a1 (Int.toNat j * (7 : Nat))) (5 : Nat)) = some (Value.int IntKind.i64 n10) ∧ ∃ (p1 : Option Addr), ∃ (n11 : Nat), ∃ (c1 : Nat), World.cell? (World.drew w) (Addr.add (Addr.add a1 (Int.toNat j * (7 : Nat))) (6 : Nat)) = some (Value.slice p1 n11 c1) ∧ callP Tryd.prog (32 : Nat) [Value.agg (Array.mk [Value.int IntKind.i64 n, Value.int IntKind.i64 n1, Value.int IntKind.i64 n2, Value.bool b, Value.int IntKind.i64 n3, Value.int IntKind.i64 n4, Value.slice p n5 c]), Value.agg (Array.mk [Value.int IntKind.i64 n6, Value.int IntKind.i64 n7, Value.int IntKind.i64 n8, Value.bool b1, Value.int IntKind.i64 n9, Value.int IntKind.i64 n10, Value.slice p1 n11 c1])] (World.drew w) fun (v : Value) (w1 : World) => ∃ (n12 : Int), v = Value.int IntKind.i64 n12 ∧ K (Value.bool (decide (n12 < (0 : Int)))) w1
set_option maxRecDepth 100000 in
theorem eq_queue_free_Less (f : Option Addr) (fn : Nat) (fc : Nat) (i : Int) (j : Int) (w : World) (K : Value → World → Prop) : wpF Tryd.prog none Tryd.f114 (Ann.two Ann.leaf (Ann.two (Ann.draw [(0 : Nat), (1 : Nat), (2 : Nat), (4 : Nat), (5 : Nat), (6 : Nat), (3 : Nat), (7 : Nat), (8 : Nat), (9 : Nat), (10 : Nat)]) Ann.leaf)) [Value.slice f fn fc, Value.int IntKind.i64 i, Value.int IntKind.i64 j] w K = wp_queue_free_Less f fn fc i j w K := by kernel_rfl
theorem ok_queue_free_Less {f : Option Addr} {fn : Nat} {fc : Nat} {i : Int} {j : Int} {w : World} {K : Value → World → Prop} (hwp : wp_queue_free_Less f fn fc i j w K) : callP Tryd.prog 114 [.slice f fn fc, .int .i64 i, .int .i64 j] w K :=
  calls_of Tryd.func114 ((eq_queue_free_Less f fn fc i j w K).symm ▸ hwp)

/-- (longshore.queue.free).Swap -/
def wp_queue_free_Swap (f : Option Addr) (fn : Nat) (fc : Nat) (i : Int) (j : Int) (w : World) (K : Value → World → Prop) : Prop :=
  (0 : Int) ≤ j ∧
  j < (↑fn : Int) ∧
  nn f fun (a : Addr) =>
  (0 : Int) ≤ i ∧
  i < (↑fn : Int) ∧
  nn f fun (a1 : Addr) =>
  ∃ (n : Int),
  World.cell? (World.drew w) (Addr.add (Addr.add a (Int.toNat j * (7 : Nat))) (0 : Nat)) = some (Value.int IntKind.i64 n) ∧
  ∃ (n1 : Int),
  World.cell? (World.drew w) (Addr.add (Addr.add a (Int.toNat j * (7 : Nat))) (1 : Nat)) = some (Value.int IntKind.i64 n1) ∧
  ∃ (n2 : Int),
  World.cell? (World.drew w) (Addr.add (Addr.add a (Int.toNat j * (7 : Nat))) (2 : Nat)) = some (Value.int IntKind.i64 n2) ∧
  ∃ (b : Bool),
  World.cell? (World.drew w) (Addr.add (Addr.add a (Int.toNat j * (7 : Nat))) (3 : Nat)) = some (Value.bool b) ∧
  ∃ (n3 : Int),
  World.cell? (World.drew w) (Addr.add (Addr.add a (Int.toNat j * (7 : Nat))) (4 : Nat)) = some (Value.int IntKind.i64 n3) ∧
  ∃ (n4 : Int),
  World.cell? (World.drew w) (Addr.add (Addr.add a (Int.toNat j * (7 : Nat))) (5 : Nat)) = some (Value.int IntKind.i64 n4) ∧
  ∃ (p : Option Addr), ∃ (n5 : Nat), ∃ (c : Nat), World.cell? (World.drew w) (Addr.add (Addr.add a (Int.toNat j * (7 : Nat))) (6 : Nat)) = some (Value.slice p n5 c) ∧ ∃ (n6 : Int), World.cell? (World.drew w) (Addr.add (Addr.add a1 (Int.toNat i * (7 : Nat))) (0 : Nat)) = some (Value.int IntKind.i64 n6) ∧ ∃ (n7 : Int), World.cell? (World.drew w) (Addr.add (Addr.add a1 (Int.toNat i * (7 : Nat))) (1 : Nat)) = some (Value.int IntKind.i64 n7) ∧ ∃ (n8 : Int), World.cell? (World.drew w) (Addr.add (Addr.add a1 (Int.toNat i * (7 : Nat))) (2 : Nat)) = some (Value.int IntKind.i64 n8) ∧ ∃ (b1 : Bool), World.cell? (World.drew w) (Addr.add (Addr.add a1 (Int.toNat i * (7 : Nat))) (3 : Nat)) = some (Value.bool b1) ∧ ∃ (n9 : Int), World.cell? (World.drew w) (Addr.add (Addr.add a1 (Int.toNat i * (7 : Nat))) (4 : Nat)) = some (Value.int IntKind.i64 n9) ∧ ∃ (n10 : Int), World.cell? (World.drew w) (Addr.add (Addr.add a1 (Int.toNat i * (7 : Nat))) (5 : Nat)) = some (Value.int IntKind.i64 n10) ∧ ∃ (p1 : Option Addr), ∃ (n11 : Nat), ∃ (c1 : Nat), World.cell? (World.drew w) (Addr.add (Addr.add a1 (Int.toNat i * (7 : Nat))) (6 : Nat)) = some (Value.slice p1 n11 c1) ∧ (0 : Int) ≤ i ∧ i < (↑fn : Int) ∧ nn f fun (a2 : Addr) => st (World.drew w) (Addr.add (Addr.add a2 (Int.toNat i * (7 : Nat))) (0 : Nat)) (Value.int IntKind.i64 n) fun (w1 : World) => st w1 (Addr.add (Addr.add a2 (Int.toNat i * (7 : Nat))) (1 : Nat)) (Value.int IntKind.i64 n1) fun (w2 : World) => st w2 (Addr.add (Addr.add a2 (Int.toNat i * (7 : Nat))) (2 : Nat)) (Value.int IntKind.i64 n2) fun (w3 : World) => st w3 (Addr.add (Addr.add a2 (Int.toNat i * (7 : Nat))) (3 : Nat)) (Value.bool b) fun (w4 : World) => st w4 (Addr.add (Addr.add a2 (Int.toNat i * (7 : Nat))) (4 : Nat)) (Value.int IntKind.i64 n3) fun (w5 : World) => st w5 (Addr.add (Addr.add a2 (Int.toNat i * (7 : Nat))) (5 : Nat)) (Value.int IntKind.i64 n4) fun (w6 : World) => st w6 (Addr.add (Addr.add a2 (Int.toNat i * (7 : Nat))) (6 : Nat)) (Value.slice p n5 c) fun (w7 : World) => (0 : Int) ≤ j ∧ j < (↑fn : Int) ∧ nn f fun (a3 : Addr) => st w7 (Addr.add (Addr.add a3 (Int.toNat j * (7 : Nat))) (0 : Nat)) (Value.int IntKind.i64 n6) fun (w8 : World) => st w8 (Addr.add (Addr.add a3 (Int.toNat j * (7 : Nat))) (1 : Nat)) (Value.int IntKind.i64 n7) fun (w9 : World) => st w9 (Addr.add (Addr.add a3 (Int.toNat j * (7 : Nat))) (2 : Nat)) (Value.int IntKind.i64 n8) fun (w10 : World) => st w10 (Addr.add (Addr.add a3 (Int.toNat j * (7 : Nat))) (3 : Nat)) (Value.bool b1) fun (w11 : World) => st w11 (Addr.add (Addr.add a3 (Int.toNat j * (7 : Nat))) (4 : Nat)) (Value.int IntKind.i64 n9) fun (w12 : World) => st w12 (Addr.add (Addr.add a3 (Int.toNat j * (7 : Nat))) (5 : Nat)) (Value.int IntKind.i64 n10) fun (w13 : World) => st w13 (Addr.add (Addr.add a3 (Int.toNat j * (7 : Nat))) (6 : Nat)) (Value.slice p1 n11 c1) fun (w14 : World) => K (Value.tuple (Array.mk [])) w14
set_option maxRecDepth 100000 in
theorem eq_queue_free_Swap (f : Option Addr) (fn : Nat) (fc : Nat) (i : Int) (j : Int) (w : World) (K : Value → World → Prop) : wpF Tryd.prog none Tryd.f115 (Ann.draw [(0 : Nat), (1 : Nat), (2 : Nat), (3 : Nat), (4 : Nat), (5 : Nat), (6 : Nat), (8 : Nat), (9 : Nat), (10 : Nat), (7 : Nat), (11 : Nat), (12 : Nat), (13 : Nat), (14 : Nat), (15 : Nat)]) [Value.slice f fn fc, Value.int IntKind.i64 i, Value.int IntKind.i64 j] w K = wp_queue_free_Swap f fn fc i j w K := by kernel_rfl
theorem ok_queue_free_Swap {f : Option Addr} {fn : Nat} {fc : Nat} {i : Int} {j : Int} {w : World} {K : Value → World → Prop} (hwp : wp_queue_free_Swap f fn fc i j w K) : callP Tryd.prog 115 [.slice f fn fc, .int .i64 i, .int .i64 j] w K :=
  calls_of Tryd.func115 ((eq_queue_free_Swap f fn fc i j w K).symm ▸ hwp)

/-- (longshore.queue.free).Pop -/
def wp_queue_free_Pop (f : Option Addr) (w : World) (K : Value → World → Prop) : Prop :=
  nn f fun (a : Addr) =>
  ∃ (p : Option Addr),
  ∃ (n : Nat),
  ∃ (c : Nat),
  World.cell? w a = some (Value.slice p n c) ∧
  nameI (IntKind.wrap IntKind.i64 ((↑n : Int) - (1 : Int))) fun (n1 : Int) =>
  (0 : Int) ≤ n1 ∧
  n1 < (↑n : Int) ∧
  nn p fun (a1 : Addr) =>
  ∃ (n2 : Int),
  World.cell? w (Addr.add (Addr.add a1 (Int.toNat n1 * (7 : Nat))) (0 : Nat)) = some (Value.int IntKind.i64 n2) ∧
  ∃ (n3 : Int),
  World.cell? w (Addr.add (Addr.add a1 (Int.toNat n1 * (7 : Nat))) (1 : Nat)) = some (Value.int IntKind.i64 n3) ∧
  ∃ (n4 : Int),
  World.cell? w (Addr.add (Addr.add a1 (Int.toNat n1 * (7 : Nat))) (2 : Nat)) = some (Value.int IntKind.i64 n4) ∧
  ∃ (b : Bool),
  World.cell? w (Addr.add (Addr.add a1 (Int.toNat n1 * (7 : Nat))) (3 : Nat)) = some (Value.bool b) ∧
  ∃ (n5 : Int),
  World.cell? w (Addr.add (Addr.add a1 (Int.toNat n1 * (7 : Nat))) (4 : Nat)) = some (Value.int IntKind.i64 n5) ∧
  ∃ (n6 : Int),
  World.cell? w (Addr.add (Addr.add a1 (Int.toNat n1 * (7 : Nat))) (5 : Nat)) = some (Value.int IntKind.i64 n6) ∧
  ∃ (p1 : Option Addr), ∃ (n7 : Nat), ∃ (c1 : Nat), World.cell? w (Addr.add (Addr.add a1 (Int.toNat n1 * (7 : Nat))) (6 : Nat)) = some (Value.slice p1 n7 c1) ∧ newB w [Value.int IntKind.i64 (0 : Int), Value.int IntKind.i64 (0 : Int), Value.int IntKind.i64 (0 : Int), Value.bool false, Value.int IntKind.i64 (0 : Int), Value.int IntKind.i64 (0 : Int), Value.slice none (0 : Nat) (0 : Nat)] (37 : Nat) fun (a2 : Addr) (w1 : World) => st w1 (Addr.add a2 (0 : Nat)) (Value.int IntKind.i64 n2) fun (w2 : World) => st w2 (Addr.add a2 (1 : Nat)) (Value.int IntKind.i64 n3) fun (w3 : World) => st w3 (Addr.add a2 (2 : Nat)) (Value.int IntKind.i64 n4) fun (w4 : World) => st w4 (Addr.add a2 (3 : Nat)) (Value.bool b) fun (w5 : World) => st w5 (Addr.add a2 (4 : Nat)) (Value.int IntKind.i64 n5) fun (w6 : World) => st w6 (Addr.add a2 (5 : Nat)) (Value.int IntKind.i64 n6) fun (w7 : World) => st w7 (Addr.add a2 (6 : Nat)) (Value.slice p1 n7 c1) fun (w8 : World) => (0 : Int) ≤ n1 ∧ n1 < (↑n : Int) ∧ nn p fun (a3 : Addr) => st w8 (Addr.add (Addr.add a3 (Int.toNat n1 * (7 : Nat))) (0 : Nat)) (Value.int IntKind.i64 (0 : Int)) fun (w9 : World) => st w9 (Addr.add (Addr.add a3 (Int.toNat n1 * (7 : Nat))) (1 : Nat)) (Value.int IntKind.i64 (0 : Int)) fun (w10 : World) => st w10 (Addr.add (Addr.add a3 (Int.toNat n1 * (7 : Nat))) (2 : Nat)) (Value.int IntKind.i64 (0 : Int)) fun (w11 : World) => st w11 (Addr.add (Addr.add a3 (Int.toNat n1 * (7 : Nat))) (3 : Nat)) (Value.bool false) fun (w12 : World) => st w12 (Addr.add (Addr.add a3 (Int.toNat n1 * (7 : Nat))) (4 : Nat)) (Value.int IntKind.i64 (0 : Int)) fun (w13 : World) => st w13 (Addr.add (Addr.add a3 (Int.toNat n1 * (7 : Nat))) (5 : Nat)) (Value.int IntKind.i64 (0 : Int)) fun (w14 : World) => st w14 (Addr.add (Addr.add a3 (Int.toNat n1 * (7 : Nat))) (6 : Nat)) (Value.slice none (0 : Nat) (0 : Nat)) fun (w15 : World) => (0 : Int) ≤ n1 ∧ n1 ≤ (↑c : Int) ∧ nn f fun (a4 : Addr) => st w15 (Addr.add a4 (0 : Nat)) (Value.slice p (Int.toNat n1) c) fun (w16 : World) => ∃ (n8 : Int), World.cell? w16 (Addr.add a2 (0 : Nat)) = some (Value.int IntKind.i64 n8) ∧ ∃ (n9 : Int), World.cell? w16 (Addr.add a2 (1 : Nat)) = some (Value.int IntKind.i64 n9) ∧ ∃ (n10 : Int), World.cell? w16 (Addr.add a2 (2 : Nat)) = some (Value.int IntKind.i64 n10) ∧ ∃ (b1 : Bool), World.cell? w16 (Addr.add a2 (3 : Nat)) = some (Value.bool b1) ∧ ∃ (n11 : Int), World.cell? w16 (Addr.add a2 (4 : Nat)) = some (Value.int IntKind.i64 n11) ∧ ∃ (n12 : Int), World.cell? w16 (Addr.add a2 (5 : Nat)) = some (Value.int IntKind.i64 n12) ∧ ∃ (p2 : Option Addr), ∃ (n13 : Nat), ∃ (c2 : Nat), World.cell? w16 (Addr.add a2 (6 : Nat)) = some (Value.slice p2 n13 c2) ∧ K (Value.iface (37 : Nat) (Value.agg (Array.mk [Value.int IntKind.i64 n8, Value.int IntKind.i64 n9, Value.int IntKind.i64 n10, Value.bool b1, Value.int IntKind.i64 n11, Value.int IntKind.i64 n12, Value.slice p2 n13 c2]))) w16
set_option maxRecDepth 100000 in
theorem eq_queue_free_Pop (f : Option Addr) (w : World) (K : Value → World → Prop) : wpF Tryd.prog none Tryd.f116 (Ann.two Ann.leaf (Ann.two Ann.leaf (Ann.two Ann.leaf (Ann.two Ann.leaf (Ann.two Ann.leaf (Ann.two Ann.leaf (Ann.two Ann.leaf Ann.leaf))))))) [Value.pointer f] w K = wp_queue_free_Pop f w K := by kernel_rfl
theorem ok_queue_free_Pop {f : Option Addr} {w : World} {K : Value → World → Prop} (hwp : wp_queue_free_Pop f w K) : callP Tryd.prog 116 [.pointer f] w K :=
  calls_of Tryd.func116 ((eq_queue_free_Pop f w K).symm ▸ hwp)

/-- (longshore.queue.free).Push -/
def wp_queue_free_Push (f : Option Addr) (x : Value) (w : World) (K : Value → World → Prop) : Prop :=
  nn f fun (a : Addr) => ∃ (p : Option Addr), ∃ (n : Nat), ∃ (c : Nat), World.cell? (World.drew w) a = some (Value.slice p n c) ∧ ∃ (n1 : Int), ∃ (n2 : Int), ∃ (n3 : Int), ∃ (b : Bool), ∃ (n4 : Int), ∃ (n5 : Int), ∃ (p1 : Option Addr), ∃ (n6 : Nat), ∃ (c1 : Nat), Sem.run Tryd.prog (Instr.typeAssert x (20 : Nat) (37 : Nat) false) (World.drew w) = Result.ok (Value.agg (Array.mk [Value.int IntKind.i64 n1, Value.int IntKind.i64 n2, Value.int IntKind.i64 n3, Value.bool b, Value.int IntKind.i64 n4, Value.int IntKind.i64 n5, Value.slice p1 n6 c1])) (World.drew w) ∧ newB (World.drew w) [Value.int IntKind.i64 n1, Value.int IntKind.i64 n2, Value.int IntKind.i64 n3, Value.bool b, Value.int IntKind.i64 n4, Value.int IntKind.i64 n5, Value.slice p1 n6 c1] (37 : Nat) fun (a1 : Addr) (w1 : World) => (∃ (p2 : Option Addr), ∃ (n7 : Nat), ∃ (c2 : Nat), World.cell? w1 a = some (Value.slice p2 n7 c2) ∧ Value.slice p2 n7 c2 = Value.slice p n c) ∧ ∃ (p2 : Option Addr), ∃ (n7 : Nat), ∃ (c2 : Nat), ∃ (w2 : World), Sem.run Tryd.prog (Builtin.append_ (Array.mk [(60 : Nat), (60 : Nat)]) (60 : Nat) (Array.mk [Value.slice p n c, Value.slice (some a1) (1 : Nat) (1 : Nat)])) w1 = Result.ok (Value.slice p2 n7 c2) w2 ∧ nn f fun (a2 : Addr) => st w2 (Addr.add a2 (0 : Nat)) (Value.slice p2 n7 c2) fun (w3 : World) => K (Value.tuple (Array.mk [])) w3
set_option maxRecDepth 100000 in
theorem eq_queue_free_Push (f : Option Addr) (x : Value) (w : World) (K : Value → World → Prop) : wpF Tryd.prog none Tryd.f117 (Ann.draw [(0 : Nat), (1 : Nat), (2 : Nat), (4 : Nat), (3 : Nat), (5 : Nat), (6 : Nat), (7 : Nat), (8 : Nat), (9 : Nat)]) [Value.pointer f, x] w K = wp_queue_free_Push f x w K := by kernel_rfl
theorem ok_queue_free_Push {f : Option Addr} {x : Value} {w : World} {K : Value → World → Prop} (hwp : wp_queue_free_Push f x w K) : callP Tryd.prog 117 [.pointer f, x] w K :=
  calls_of Tryd.func117 ((eq_queue_free_Push f x w K).symm ▸ hwp)

/-- longshore.queue.order -/
def wp_queue_order (a_0 : Int) (a_1 : Int) (a_2 : Int) (a_3 : Bool) (a_4 : Int) (a_5 : Int) (a_6 : Option Addr) (a_6n : Nat) (a_6c : Nat) (b_0 : Int) (b_1 : Int) (b_2 : Int) (b_3 : Bool) (b_4 : Int) (b_5 : Int) (b_6 : Option Addr) (b_6n : Nat) (b_6c : Nat) (w : World) (K : Value → World → Prop) : Prop :=
  newB w [Value.int IntKind.i64 a_0, Value.int IntKind.i64 a_1, Value.int IntKind.i64 a_2, Value.bool a_3, Value.int IntKind.i64 a_4, Value.int IntKind.i64 a_5, Value.slice a_6 a_6n a_6c] (37 : Nat) fun (a : Addr) (w1 : World) => newB w1 [Value.int IntKind.i64 b_0, Value.int IntKind.i64 b_1, Value.int IntKind.i64 b_2, Value.bool b_3, Value.int IntKind.i64 b_4, Value.int IntKind.i64 b_5, Value.slice b_6 b_6n b_6c] (37 : Nat) fun (a1 : Addr) (w2 : World) => ∃ (n : Int), World.cell? (World.drew w2) (Addr.add a1 (1 : Nat)) = some (Value.int IntKind.i64 n) ∧ ∃ (n1 : Int), World.cell? (World.drew w2) (Addr.add a (1 : Nat)) = some (Value.int IntKind.i64 n1) ∧ ∃ (n2 : Int), World.cell? (World.drew w2) (Addr.add a (0 : Nat)) = some (Value.int IntKind.i64 n2) ∧ ∃ (n3 : Int), World.cell? (World.drew w2) (Addr.add a1 (0 : Nat)) = some (Value.int IntKind.i64 n3) ∧ callP Tryd.prog (43 : Nat) [Value.int IntKind.i64 n, Value.int IntKind.i64 n1] (World.drew w2) fun (v : Value) (w3 : World) => ∃ (n4 : Int), v = Value.int IntKind.i64 n4 ∧ (∃ (n5 : Int), World.cell? w3 (Addr.add a1 (0 : Nat)) = some (Value.int IntKind.i64 n5) ∧ Value.int IntKind.i64 n5 = Value.int IntKind.i64 n3) ∧ (∃ (n5 : Int), World.cell? w3 (Addr.add a (0 : Nat)) = some (Value.int IntKind.i64 n5) ∧ Value.int IntKind.i64 n5 = Value.int IntKind.i64 n2) ∧ callP Tryd.prog (43 : Nat) [Value.int IntKind.i64 n2, Value.int IntKind.i64 n3] w3 fun (v1 : Value) (w4 : World) => ∃ (n5 : Int), v1 = Value.int IntKind.i64 n5 ∧ newB w4 [Value.int IntKind.i64 n4, Value.int IntKind.i64 n5] (3 : Nat) fun (a2 : Addr) (w5 : World) => callP Tryd.prog (42 : Nat) [Value.slice (some a2) (2 : Nat) (2 : Nat)] w5 fun (v2 : Value) (w6 : World) => ∃ (n6 : Int), v2 = Value.int IntKind.i64 n6 ∧ K (Value.int IntKind.i64 n6) w6
set_option maxRecDepth 100000 in
theorem eq_queue_order (a_0 : Int) (a_1 : Int) (a_2 : Int) (a_3 : Bool) (a_4 : Int) (a_5 : Int) (a_6 : Option Addr) (a_6n : Nat) (a_6c : Nat) (b_0 : Int) (b_1 : Int) (b_2 : Int) (b_3 : Bool) (b_4 : Int) (b_5 : Int) (b_6 : Option Addr) (b_6n : Nat) (b_6c : Nat) (w : World) (K : Value → World → Prop) : wpF Tryd.prog none Tryd.f32 (Ann.two Ann.leaf (Ann.two (Ann.draw [(0 : Nat), (2 : Nat), (5 : Nat), (7 : Nat), (1 : Nat), (3 : Nat), (6 : Nat), (8 : Nat), (4 : Nat), (9 : Nat), (10 : Nat), (11 : Nat), (12 : Nat)]) Ann.leaf)) [Value.agg #[Value.int IntKind.i64 a_0, Value.int IntKind.i64 a_1, Value.int IntKind.i64 a_2, Value.bool a_3, Value.int IntKind.i64 a_4, Value.int IntKind.i64 a_5, Value.slice a_6 a_6n a_6c], Value.agg #[Value.int IntKind.i64 b_0, Value.int IntKind.i64 b_1, Value.int IntKind.i64 b_2, Value.bool b_3, Value.int IntKind.i64 b_4, Value.int IntKind.i64 b_5, Value.slice b_6 b_6n b_6c]] w K = wp_queue_order a_0 a_1 a_2 a_3 a_4 a_5 a_6 a_6n a_6c b_0 b_1 b_2 b_3 b_4 b_5 b_6 b_6n b_6c w K := by kernel_rfl
theorem ok_queue_order {a_0 : Int} {a_1 : Int} {a_2 : Int} {a_3 : Bool} {a_4 : Int} {a_5 : Int} {a_6 : Option Addr} {a_6n : Nat} {a_6c : Nat} {b_0 : Int} {b_1 : Int} {b_2 : Int} {b_3 : Bool} {b_4 : Int} {b_5 : Int} {b_6 : Option Addr} {b_6n : Nat} {b_6c : Nat} {w : World} {K : Value → World → Prop} (hwp : wp_queue_order a_0 a_1 a_2 a_3 a_4 a_5 a_6 a_6n a_6c b_0 b_1 b_2 b_3 b_4 b_5 b_6 b_6n b_6c w K) : callP Tryd.prog 32 [.agg #[.int .i64 a_0, .int .i64 a_1, .int .i64 a_2, .bool a_3, .int .i64 a_4, .int .i64 a_5, .slice a_6 a_6n a_6c], .agg #[.int .i64 b_0, .int .i64 b_1, .int .i64 b_2, .bool b_3, .int .i64 b_4, .int .i64 b_5, .slice b_6 b_6n b_6c]] w K :=
  calls_of Tryd.func32 ((eq_queue_order a_0 a_1 a_2 a_3 a_4 a_5 a_6 a_6n a_6c b_0 b_1 b_2 b_3 b_4 b_5 b_6 b_6n b_6c w K).symm ▸ hwp)

/-- cmp.Or[int] -/
def wp_cmp_Or (vals : Option Addr) (valsn : Nat) (valsc : Nat) (w : World) (K : Value → World → Prop) : Prop :=
  ∃ (I : Nat → Int → World → Prop), (∃ (m : Nat), I m (0 : Int) w) ∧ ∀ (m : Nat) (n : Int) (w1 : World), I m n w1 → Sif (decide (n < (↑valsn : Int))) ((0 : Int) ≤ n ∧ n < (↑valsn : Int) ∧ nn vals fun (a : Addr) => ∃ (n1 : Int), World.cell? w1 (Addr.add a (Int.toNat n * (1 : Nat))) = some (Value.int IntKind.i64 n1) ∧ Sif (n1 != (0 : Int)) (K (Value.int IntKind.i64 n1) w1) (∃ (m' : Nat), m' < m ∧ I m' (IntKind.wrap IntKind.i64 (n + (1 : Int))) w1)) (K (Value.int IntKind.i64 (0 : Int)) w1)
set_option maxRecDepth 100000 in
theorem eq_cmp_Or (vals : Option Addr) (valsn : Nat) (valsc : Nat) (w : World) (K : Value → World → Prop) : wpF Tryd.prog none Tryd.f42 (Ann.two Ann.leaf (Ann.two Ann.leaf (Ann.two (Ann.two Ann.leaf (Ann.two (Ann.loop [((8 : Nat), VSh.cell (Sh.int IntKind.i64))] (Ann.two Ann.leaf (Ann.two (Ann.two Ann.leaf Ann.leaf) (Ann.two (Ann.two (Ann.two Ann.leaf (Ann.two Ann.leaf (Ann.two (Ann.two Ann.leaf Ann.leaf) Ann.leaf))) Ann.leaf) Ann.leaf)))) Ann.leaf)) (Ann.two Ann.leaf Ann.leaf)))) [Value.slice vals valsn valsc] w K = wp_cmp_Or vals valsn valsc w K := by kernel_rfl
theorem ok_cmp_Or {vals : Option Addr} {valsn : Nat} {valsc : Nat} {w : World} {K : Value → World → Prop} (hwp : wp_cmp_Or vals valsn valsc w K) : callP Tryd.prog 42 [.slice vals valsn valsc] w K :=
  calls_of Tryd.func42 ((eq_cmp_Or vals valsn valsc w K).symm ▸ hwp)

/-- cmp.Compare[int] -/
def wp_cmp_Compare (x : Int) (y : Int) (w : World) (K : Value → World → Prop) : Prop :=
  callP Tryd.prog (62 : Nat) [Value.int IntKind.i64 x] w fun (v : Value) (w1 : World) => ∃ (b : Bool), v = Value.bool b ∧ callP Tryd.prog (62 : Nat) [Value.int IntKind.i64 y] w1 fun (v1 : Value) (w2 : World) => ∃ (b1 : Bool), v1 = Value.bool b1 ∧ Sif b (Sif b1 (K (Value.int IntKind.i64 (0 : Int)) w2) (K (Value.int IntKind.i64 (-1 : Int)) w2)) (Sif b1 (K (Value.int IntKind.i64 (1 : Int)) w2) (Sif (decide (x < y)) (K (Value.int IntKind.i64 (-1 : Int)) w2) (Sif (decide (x > y)) (K (Value.int IntKind.i64 (1 : Int)) w2) (K (Value.int IntKind.i64 (0 : Int)) w2))))
set_option maxRecDepth 100000 in
theorem eq_cmp_Compare (x : Int) (y : Int) (w : World) (K : Value → World → Prop) : wpF Tryd.prog none Tryd.f43 (Ann.two Ann.leaf (Ann.two Ann.leaf (Ann.two Ann.leaf (Ann.two (Ann.two Ann.leaf (Ann.two (Ann.two (Ann.two Ann.leaf (Ann.two (Ann.two Ann.leaf Ann.leaf) Ann.leaf)) (Ann.two Ann.leaf Ann.leaf)) Ann.leaf)) (Ann.two (Ann.two Ann.leaf (Ann.two (Ann.two Ann.leaf Ann.leaf) Ann.leaf)) (Ann.two (Ann.two Ann.leaf (Ann.two (Ann.two Ann.leaf Ann.leaf) Ann.leaf)) (Ann.two (Ann.two Ann.leaf (Ann.two (Ann.two Ann.leaf Ann.leaf) Ann.leaf)) (Ann.two Ann.leaf Ann.leaf)))))))) [Value.int IntKind.i64 x, Value.int IntKind.i64 y] w K = wp_cmp_Compare x y w K := by kernel_rfl
theorem ok_cmp_Compare {x : Int} {y : Int} {w : World} {K : Value → World → Prop} (hwp : wp_cmp_Compare x y w K) : callP Tryd.prog 43 [.int .i64 x, .int .i64 y] w K :=
  calls_of Tryd.func43 ((eq_cmp_Compare x y w K).symm ▸ hwp)

/-- cmp.Less[int] -/
def wp_cmp_Less (x : Int) (y : Int) (w : World) (K : Value → World → Prop) : Prop :=
  callP Tryd.prog (62 : Nat) [Value.int IntKind.i64 x] w fun (v : Value) (w1 : World) => ∃ (b : Bool), v = Value.bool b ∧ Sif b (callP Tryd.prog (62 : Nat) [Value.int IntKind.i64 y] w1 fun (v1 : Value) (w2 : World) => ∃ (b1 : Bool), v1 = Value.bool b1 ∧ Sif (!!b1) (K (Value.bool (decide (x < y))) w2) (K (Value.bool true) w2)) (K (Value.bool (decide (x < y))) w1)
set_option maxRecDepth 100000 in
theorem eq_cmp_Less (x : Int) (y : Int) (w : World) (K : Value → World → Prop) : wpF Tryd.prog none Tryd.f69 (Ann.two Ann.leaf (Ann.two Ann.leaf Ann.leaf)) [Value.int IntKind.i64 x, Value.int IntKind.i64 y] w K = wp_cmp_Less x y w K := by kernel_rfl
theorem ok_cmp_Less {x : Int} {y : Int} {w : World} {K : Value → World → Prop} (hwp : wp_cmp_Less x y w K) : callP Tryd.prog 69 [.int .i64 x, .int .i64 y] w K :=
  calls_of Tryd.func69 ((eq_cmp_Less x y w K).symm ▸ hwp)

/-- cmp.isNaN[int] -/
def wp_cmp_isNaN (x : Int) (w : World) (K : Value → World → Prop) : Prop :=
  K (Value.bool (x != x)) w
set_option maxRecDepth 100000 in
theorem eq_cmp_isNaN (x : Int) (w : World) (K : Value → World → Prop) : wpF Tryd.prog none Tryd.f62 (Ann.two Ann.leaf (Ann.two Ann.leaf Ann.leaf)) [Value.int IntKind.i64 x] w K = wp_cmp_isNaN x w K := by kernel_rfl
theorem ok_cmp_isNaN {x : Int} {w : World} {K : Value → World → Prop} (hwp : wp_cmp_isNaN x w K) : callP Tryd.prog 62 [.int .i64 x] w K :=
  calls_of Tryd.func62 ((eq_cmp_isNaN x w K).symm ▸ hwp)

end Go.Proofs.YtipbbjnmpnfhpaaDoor
