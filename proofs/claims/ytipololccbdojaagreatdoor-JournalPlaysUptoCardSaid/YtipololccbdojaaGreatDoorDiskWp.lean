/-
  What a call of each function comes to (definitions 'wp_..', reckoned by a program out of the model's code), and that it is sound ('ok_..'). Written by program (sv.py).
-/
import Derived.Test.YtipololccbdojaaGreatDoorSvCode
import Derived.Test.YtipololccbdojaaGreatDoorProg
import Derived.KernelRfl
namespace Go.Proofs.YtipololccbdojaaGreatDoor
open Go Go.Sv
set_option linter.unusedVariables false

/-- longshore.disk.New -/
def wp_disk_New (room : Int) (w : World) (K : Value → World → Prop) : Prop :=
  ∃ (J : World → Prop), (∀ (w1 : World), J w1 → ∃ (r : Option Nat) (w2 : World), Sem.run Tryz.prog (Instr.makeMap 97 none) w1 = Result.ok (.map r) w2 ∧ newB w2 [.int .i32 0, .int .u32 0, .int .i64 room, .int .i64 0, .map r, .bool false, .int .i64 (-1), .int .i64 0] 106 fun a w3 => K (.pointer (some a)) w3) ∧ Sif (!decide (room < 0)) (Sif (decide (room > 16777216)) (K (.pointer none) w) (J w)) (K (.pointer none) w)
set_option maxRecDepth 100000 in
theorem eq_disk_New (room : Int) (w : World) (K : Value → World → Prop) : wpF Tryz.prog none Tryz.f17 (.two .leaf (.two (Ann.meet [] (.two .leaf (.two (.two .leaf .leaf) .leaf))) (.two .leaf .leaf))) [Value.int IntKind.i64 room] w K = wp_disk_New room w K := by kernel_rfl
theorem ok_disk_New {room : Int} {w : World} {K : Value → World → Prop} (h : wp_disk_New room w K) : callP Tryz.prog 17 [.int .i64 room] w K :=
  calls_of Tryz.func17 ((eq_disk_New room w K).symm ▸ h)

/-- (longshore.disk.Disk).Arm -/
def wp_disk_Disk_Arm (d : Option Addr) (acts : Int) (keep : Int) (w : World) (K : Value → World → Prop) : Prop :=
  nn d fun a => callP Tryz.prog 55 [.pointer (some (Addr.add a 0))] w fun v w1 => v = .tuple (Array.mk []) ∧ nn d fun a1 => nn d fun a2 => ∃ (b : Bool), w1.cell? (Addr.add a2 5) = some (.bool b) ∧ Sif (!b) (nn d fun a3 => st w1 (Addr.add (Addr.add a3 6) 0) (.int .i64 (max acts (-1))) fun w2 => nn d fun a4 => st w2 (Addr.add (Addr.add a4 7) 0) (.int .i64 keep) fun w3 => callD Tryz.prog 56 [.pointer (some (Addr.add a1 0))] w3 fun w4 => K (.tuple (Array.mk [])) w4) (callD Tryz.prog 56 [.pointer (some (Addr.add a1 0))] w1 fun w2 => K (.tuple (Array.mk [])) w2)
set_option maxRecDepth 100000 in
theorem eq_disk_Disk_Arm (d : Option Addr) (acts : Int) (keep : Int) (w : World) (K : Value → World → Prop) : wpF Tryz.prog none Tryz.f30 (.two .leaf (.two .leaf (.two .leaf (.two .leaf .leaf)))) [Value.pointer d, Value.int IntKind.i64 acts, Value.int IntKind.i64 keep] w K = wp_disk_Disk_Arm d acts keep w K := by kernel_rfl
theorem ok_disk_Disk_Arm {d : Option Addr} {acts : Int} {keep : Int} {w : World} {K : Value → World → Prop} (h : wp_disk_Disk_Arm d acts keep w K) : callP Tryz.prog 30 [.pointer d, .int .i64 acts, .int .i64 keep] w K :=
  calls_of Tryz.func30 ((eq_disk_Disk_Arm d acts keep w K).symm ▸ h)

/-- (longshore.disk.Disk).Files -/
def wp_disk_Disk_Files (d : Option Addr) (w : World) (K : Value → World → Prop) : Prop :=
  nn d fun a => callP Tryz.prog 55 [.pointer (some (Addr.add a 0))] w fun v w1 => v = .tuple (Array.mk []) ∧ nn d fun a1 => nn d fun a2 => ∃ (r : Option Nat), w1.cell? (Addr.add a2 4) = some (.map r) ∧ callP Tryz.prog 113 [.map r] w1 fun v1 w2 => ∃ (v2 : Value), v1 = v2 ∧ callP Tryz.prog 112 [v2] w2 fun v3 w3 => ∃ (p : Option Addr) (n c : Nat), v3 = .slice p n c ∧ ∃ (I : Nat → Option Addr → Nat → Nat → Int → World → Prop), (∃ (m : Nat), I m none 0 0 0 w3) ∧ ∀ (m : Nat) (p1 : Option Addr) (n1 c1 : Nat) (n2 : Int) (w4 : World), I m p1 n1 c1 n2 w4 → Sif (decide (n2 < (↑n : Int))) (0 ≤ n2 ∧ n2 < (↑n : Int) ∧ nn p fun a3 => ∃ (s : ByteArray), w4.cell? (Addr.add a3 (Int.toNat n2 * 1)) = some (.string s) ∧ nn d fun a4 => ∃ (r1 : Option Nat), w4.cell? (Addr.add a4 4) = some (.map r1) ∧ ∃ (p2 : Option Addr), Sem.run Tryz.prog (Instr.lookup 97 (.map r1) (.string s) false) w4 = Result.ok (.pointer p2) w4 ∧ nn p2 fun a5 => nn p2 fun a6 => ∃ (p3 : Option Addr) (n3 c2 : Nat), World.cell? (World.drew w4) (Addr.add a5 0) = some (.slice p3 n3 c2) ∧ ∃ (n4 : Int), World.cell? (World.drew w4) (Addr.add a6 1) = some (.int .i64 n4) ∧ callP Tryz.prog 58 [.slice p3 n3 c2] (World.drew w4) fun v4 w5 => ∃ (p4 : Option Addr) (n5 c3 : Nat), v4 = .slice p4 n5 c3 ∧ (∃ (n6 : Int), w5.cell? (Addr.add a6 1) = some (.int .i64 n6) ∧ Value.int .i64 n6 = .int .i64 n4) ∧ newB w5 [.string s, .slice p4 n5 c3, .int .i64 n4] 51 fun a7 w6 => ∃ (p5 : Option Addr) (n6 : Nat), ∃ (c4 : Nat) (w7 : World), Sem.run Tryz.prog (Builtin.append_ (Array.mk [52, 52]) 52 (Array.mk [.slice p1 n1 c1, .slice (some a7) 1 1])) w6 = Result.ok (.slice p5 n6 c4) w7 ∧ ∃ (m' : Nat), m' < m ∧ I m' p5 n6 c4 (IntKind.wrap .i64 (n2 + 1)) w7) (callD Tryz.prog 56 [.pointer (some (Addr.add a1 0))] w4 fun w5 => K (.slice p1 n1 c1) w5)
set_option maxRecDepth 100000 in
theorem eq_disk_Disk_Files (d : Option Addr) (w : World) (K : Value → World → Prop) : wpF Tryz.prog none Tryz.f76 (.two .leaf (.two .leaf (.two .leaf (.two .leaf (.two (.two .leaf (.two (Ann.loop [((3 : Nat), VSh.cell Sh.slice), ((21 : Nat), VSh.cell (Sh.int IntKind.i64))] (.two .leaf (.two (.two .leaf .leaf) (.two (.two (.two .leaf (.two .leaf (Ann.draw [(0 : Nat), (1 : Nat), (2 : Nat), (3 : Nat), (4 : Nat), (7 : Nat), (8 : Nat), (9 : Nat), (5 : Nat), (10 : Nat), (6 : Nat), (11 : Nat), (12 : Nat), (13 : Nat), (14 : Nat)]))) .leaf) .leaf)))) .leaf)) (.two .leaf .leaf)))))) [Value.pointer d] w K = wp_disk_Disk_Files d w K := by kernel_rfl
theorem ok_disk_Disk_Files {d : Option Addr} {w : World} {K : Value → World → Prop} (h : wp_disk_Disk_Files d w K) : callP Tryz.prog 76 [.pointer d] w K :=
  calls_of Tryz.func76 ((eq_disk_Disk_Files d w K).symm ▸ h)

/-- (longshore.disk.Disk).Up -/
def wp_disk_Disk_Up (d : Option Addr) (w : World) (K : Value → World → Prop) : Prop :=
  nn d fun a => callP Tryz.prog 55 [.pointer (some (Addr.add a 0))] w fun v w1 => v = .tuple (Array.mk []) ∧ nn d fun a1 => nn d fun a2 => ∃ (b : Bool), w1.cell? (Addr.add a2 5) = some (.bool b) ∧ callD Tryz.prog 56 [.pointer (some (Addr.add a1 0))] w1 fun w2 => K (.bool !b) w2
set_option maxRecDepth 100000 in
theorem eq_disk_Disk_Up (d : Option Addr) (w : World) (K : Value → World → Prop) : wpF Tryz.prog none Tryz.f32 (.two .leaf (.two .leaf (.two .leaf (.two .leaf .leaf)))) [Value.pointer d] w K = wp_disk_Disk_Up d w K := by kernel_rfl
theorem ok_disk_Disk_Up {d : Option Addr} {w : World} {K : Value → World → Prop} (h : wp_disk_Disk_Up d w K) : callP Tryz.prog 32 [.pointer d] w K :=
  calls_of Tryz.func32 ((eq_disk_Disk_Up d w K).symm ▸ h)

/-- (longshore.disk.Disk).Start -/
def wp_disk_Disk_Start (d : Option Addr) (w : World) (K : Value → World → Prop) : Prop :=
  nn d fun a => callP Tryz.prog 55 [.pointer (some (Addr.add a 0))] w fun v w1 => v = .tuple (Array.mk []) ∧ nn d fun a1 => nn d fun a2 => st w1 (Addr.add (Addr.add a2 5) 0) (.bool false) fun w2 => callD Tryz.prog 56 [.pointer (some (Addr.add a1 0))] w2 fun w3 => K (.tuple (Array.mk [])) w3
set_option maxRecDepth 100000 in
theorem eq_disk_Disk_Start (d : Option Addr) (w : World) (K : Value → World → Prop) : wpF Tryz.prog none Tryz.f60 (.two .leaf (.two .leaf .leaf)) [Value.pointer d] w K = wp_disk_Disk_Start d w K := by kernel_rfl
theorem ok_disk_Disk_Start {d : Option Addr} {w : World} {K : Value → World → Prop} (h : wp_disk_Disk_Start d w K) : callP Tryz.prog 60 [.pointer d] w K :=
  calls_of Tryz.func60 ((eq_disk_Disk_Start d w K).symm ▸ h)

/-- longshore.disk.Load -/
def wp_disk_Load (files : Option Addr) (filesn : Nat) (filesc : Nat) (room : Int) (w : World) (K : Value → World → Prop) : Prop :=
  callP Tryz.prog 17 [.int .i64 room] w fun v w1 =>
  ∃ (p : Option Addr),
  v = .pointer p ∧
  Sif (Option.isNone p) (K (.tuple (Array.mk [.pointer none, .int .i64 1])) w1)
  (∃ (I : Nat → Int → World → Prop),
  (∃ (m : Nat), I m 0 w1) ∧
  ∀ (m : Nat) (n : Int) (w2 : World),
  I m n w2 →
  Sif (decide (n < (↑filesn : Int)))
  (∃ (J : World → Prop),
  (∀ (w3 : World), J w3 → ∃ (m' : Nat), m' < m ∧ I m' (IntKind.wrap .i64 (n + 1)) w3) ∧
  0 ≤ n ∧
  n < (↑filesn : Int) ∧
  nn files fun a =>
  ∃ (s : ByteArray),
  w2.cell? (Addr.add (Addr.add a (Int.toNat n * 3)) 0) = some (.string s) ∧
  ∃ (p1 : Option Addr) (n1 c : Nat),
  w2.cell? (Addr.add (Addr.add a (Int.toNat n * 3)) 1) = some (.slice p1 n1 c) ∧
  ∃ (n2 : Int),
  w2.cell? (Addr.add (Addr.add a (Int.toNat n * 3)) 2) = some (.int .i64 n2) ∧
  newB w2 [.string (ByteArray.mk (Array.mk [])), .slice none 0 0, .int .i64 0] 51 fun a1 w3 =>
  st w3 (Addr.add a1 0) (.string s) fun w4 =>
  st w4 (Addr.add a1 1) (.slice p1 n1 c) fun w5 =>
  st w5 (Addr.add a1 2) (.int .i64 n2) fun w6 =>
  ∃ (J1 : World → Prop),
  (∀ (w7 : World), J1 w7 → nn p fun a2 => ∃ (r : Option Nat), World.cell? (World.drew w7) (Addr.add a2 4) = some (.map r) ∧ ∃ (s1 : ByteArray), World.cell? (World.drew w7) (Addr.add a1 0) = some (.string s1) ∧ ∃ (p2 : Option Addr) (n3 c1 : Nat), World.cell? (World.drew w7) (Addr.add a1 1) = some (.slice p2 n3 c1) ∧ ∃ (n4 : Int), World.cell? (World.drew w7) (Addr.add a1 2) = some (.int .i64 n4) ∧ callP Tryz.prog 58 [.slice p2 n3 c1] (World.drew w7) fun v1 w8 => ∃ (p3 : Option Addr) (n5 c2 : Nat), v1 = .slice p3 n5 c2 ∧ (∃ (n6 : Int), w8.cell? (Addr.add a1 2) = some (.int .i64 n6) ∧ Value.int .i64 n6 = .int .i64 n4) ∧ (∃ (s2 : ByteArray), w8.cell? (Addr.add a1 0) = some (.string s2) ∧ Value.string s2 = .string s1) ∧ (∃ (r1 : Option Nat), w8.cell? (Addr.add a2 4) = some (.map r1) ∧ Value.map r1 = .map r) ∧ newB w8 [.slice p3 n5 c2, .int .i64 n4] 121 fun a3 w9 => (∃ (s2 : ByteArray), w9.cell? (Addr.add a1 0) = some (.string s2) ∧ Value.string s2 = .string s1) ∧ (∃ (r1 : Option Nat), w9.cell? (Addr.add a2 4) = some (.map r1) ∧ Value.map r1 = .map r) ∧ runU Tryz.prog (Instr.mapUpdate 97 (.map r) (.string s1) (.pointer (some a3))) w9 fun w10 => nn p fun a4 => ∃ (n6 : Int), World.cell? (World.drew w10) (Addr.add a4 3) = some (.int .i64 n6) ∧ ∃ (p4 : Option Addr) (n7 c3 : Nat), World.cell? (World.drew w10) (Addr.add a1 1) = some (.slice p4 n7 c3) ∧ nn p fun a5 => st (World.drew w10) (Addr.add (Addr.add a5 3) 0) (.int .i64 (IntKind.wrap .i64 (n6 + (↑n7 : Int)))) fun w11 => J w11) ∧
  nn p fun a2 => ∃ (r : Option Nat), World.cell? (World.drew w6) (Addr.add a2 4) = some (.map r) ∧ ∃ (s1 : ByteArray), World.cell? (World.drew w6) (Addr.add a1 0) = some (.string s1) ∧ ∃ (p2 : Option Addr) (b : Bool), Sem.run Tryz.prog (Instr.lookup 97 (.map r) (.string s1) true) (World.drew w6) = Result.ok (.tuple (Array.mk [.pointer p2, .bool b])) (World.drew w6) ∧ Sif (!b) (∃ (s2 : ByteArray), World.cell? (World.drew w6) (Addr.add a1 0) = some (.string s2) ∧ callP Tryz.prog 59 [.string s2] (World.drew w6) fun v1 w7 => ∃ (b1 : Bool), v1 = .bool b1 ∧ Sif (!!b1) (∃ (n3 : Int), w7.cell? (Addr.add a1 2) = some (.int .i64 n3) ∧ Sif (!decide (n3 < 0)) (∃ (n4 : Int), w7.cell? (Addr.add a1 2) = some (.int .i64 n4) ∧ ∃ (p3 : Option Addr) (n5 c1 : Nat), w7.cell? (Addr.add a1 1) = some (.slice p3 n5 c1) ∧ Sif (decide (n4 > (↑n5 : Int))) (K (.tuple (Array.mk [.pointer none, .int .i64 1])) w7) (J1 w7)) (K (.tuple (Array.mk [.pointer none, .int .i64 1])) w7)) (K (.tuple (Array.mk [.pointer none, .int .i64 1])) w7)) (K (.tuple (Array.mk [.pointer none, .int .i64 1])) (World.drew w6)))
  (nn p fun a => ∃ (n1 : Int), w2.cell? (Addr.add a 3) = some (.int .i64 n1) ∧ Sif (decide (n1 > room)) (K (.tuple (Array.mk [.pointer none, .int .i64 190])) w2) (K (.tuple (Array.mk [.pointer p, .int .i64 0])) w2)))
set_option maxRecDepth 100000 in
theorem eq_disk_Load (files : Option Addr) (filesn : Nat) (filesc : Nat) (room : Int) (w : World) (K : Value → World → Prop) : wpF Tryz.prog none Tryz.f24 (.two .leaf (.two .leaf (.two (.two .leaf (.two (.two .leaf .leaf) .leaf)) (.two (.two .leaf (.two (Ann.loop [((17 : Nat), VSh.cell (Sh.int IntKind.i64))] (.two .leaf (.two (.two .leaf .leaf) (.two (Ann.meet [] (.two (.two .leaf (.two (Ann.meet [] (.two (Ann.draw [(0 : Nat), (1 : Nat), (2 : Nat), (4 : Nat), (3 : Nat), (5 : Nat), (6 : Nat), (7 : Nat), (8 : Nat), (9 : Nat), (10 : Nat), (11 : Nat)]) (.two .leaf (.two (.two .leaf .leaf) .leaf)))) (.two (Ann.draw [(0 : Nat), (1 : Nat), (2 : Nat), (4 : Nat), (6 : Nat), (9 : Nat), (3 : Nat), (5 : Nat), (7 : Nat), (10 : Nat), (8 : Nat), (11 : Nat), (12 : Nat), (13 : Nat)]) (Ann.draw [(0 : Nat), (1 : Nat), (2 : Nat), (4 : Nat), (3 : Nat), (5 : Nat), (6 : Nat), (7 : Nat), (8 : Nat), (9 : Nat), (10 : Nat)])))) .leaf)) .leaf)))) .leaf)) (.two (.two .leaf (.two (.two .leaf .leaf) .leaf)) (.two .leaf .leaf)))))) [Value.slice files filesn filesc, Value.int IntKind.i64 room] w K = wp_disk_Load files filesn filesc room w K := by kernel_rfl
theorem ok_disk_Load {files : Option Addr} {filesn : Nat} {filesc : Nat} {room : Int} {w : World} {K : Value → World → Prop} (h : wp_disk_Load files filesn filesc room w K) : callP Tryz.prog 24 [.slice files filesn filesc, .int .i64 room] w K :=
  calls_of Tryz.func24 ((eq_disk_Load files filesn filesc room w K).symm ▸ h)

/-- (longshore.disk.Disk).Append -/
def wp_disk_Disk_Append (d : Option Addr) (name : ByteArray) (b : Option Addr) (bn : Nat) (bc : Nat) (w : World) (K : Value → World → Prop) : Prop :=
  nn d fun a =>
  callP Tryz.prog 55 [.pointer (some (Addr.add a 0))] w fun v w1 =>
  v = .tuple (Array.mk []) ∧
  nn d fun a1 =>
  newB w1 [.string name] 9 fun a2 w2 =>
  callP Tryz.prog 57 [.pointer d, .slice (some a2) 1 1] w2 fun v1 w3 => ∃ (p : Option Addr) (n : Int), v1 = .tuple (Array.mk [.pointer p, .int .i64 n]) ∧ ∃ (J : Option Addr → World → Prop), (∀ (p1 : Option Addr) (w4 : World), J p1 w4 → callP Tryz.prog 98 [.pointer d] w4 fun v2 w5 => ∃ (b1 : Bool), v2 = .bool b1 ∧ nn p1 fun a3 => ∃ (p2 : Option Addr) (n1 c : Nat), w5.cell? (Addr.add a3 0) = some (.slice p2 n1 c) ∧ ∃ (p3 : Option Addr) (n2 : Nat), ∃ (c1 : Nat) (w6 : World), Sem.run Tryz.prog (Builtin.append_ (Array.mk [23, 23]) 23 (Array.mk [.slice p2 n1 c, .slice b bn bc])) w5 = Result.ok (.slice p3 n2 c1) w6 ∧ nn p1 fun a4 => st w6 (Addr.add (Addr.add a4 0) 0) (.slice p3 n2 c1) fun w7 => nn d fun a5 => ∃ (n3 : Int), w7.cell? (Addr.add a5 3) = some (.int .i64 n3) ∧ nn d fun a6 => st w7 (Addr.add (Addr.add a6 3) 0) (.int .i64 (IntKind.wrap .i64 (n3 + (↑bn : Int)))) fun w8 => Sif b1 (nn d fun a7 => ∃ (n4 : Int), w8.cell? (Addr.add a7 7) = some (.int .i64 n4) ∧ callP Tryz.prog 62 [.pointer d, .int .i64 n4] w8 fun v3 w9 => v3 = .tuple (Array.mk []) ∧ callD Tryz.prog 56 [.pointer (some (Addr.add a1 0))] w9 fun w10 => K (.int .i64 3) w10) (callD Tryz.prog 56 [.pointer (some (Addr.add a1 0))] w8 fun w9 => K (.int .i64 0) w9)) ∧ Sif (!n == 3) (Sif (n == 1) (callD Tryz.prog 56 [.pointer (some (Addr.add a1 0))] w3 fun w4 => K (.int .i64 n) w4) (nn d fun a3 => nn d fun a4 => ∃ (n1 : Int), World.cell? (World.drew w3) (Addr.add a3 2) = some (.int .i64 n1) ∧ ∃ (n2 : Int), World.cell? (World.drew w3) (Addr.add a4 3) = some (.int .i64 n2) ∧ Sif (decide ((↑bn : Int) > IntKind.wrap .i64 (n1 - n2))) (callD Tryz.prog 56 [.pointer (some (Addr.add a1 0))] (World.drew w3) fun w4 => K (.int .i64 190) w4) (Sif (n == 191) (newB (World.drew w3) [.slice none 0 0, .int .i64 0] 121 fun a5 w4 => nn d fun a6 => ∃ (r : Option Nat), w4.cell? (Addr.add a6 4) = some (.map r) ∧ runU Tryz.prog (Instr.mapUpdate 97 (.map r) (.string name) (.pointer (some a5))) w4 fun w5 => J (some a5) w5) (J p (World.drew w3))))) (callD Tryz.prog 56 [.pointer (some (Addr.add a1 0))] w3 fun w4 => K (.int .i64 n) w4)
set_option maxRecDepth 100000 in
theorem eq_disk_Disk_Append (d : Option Addr) (name : ByteArray) (b : Option Addr) (bn : Nat) (bc : Nat) (w : World) (K : Value → World → Prop) : wpF Tryz.prog none Tryz.f54 (.two .leaf (.two .leaf (.two .leaf (.two .leaf (.two (Ann.meet [((7 : Nat), VSh.cell Sh.ptr)] (.two (.two .leaf (.two (.two .leaf .leaf) (.two (Ann.draw [(0 : Nat), (1 : Nat), (2 : Nat), (3 : Nat), (4 : Nat), (6 : Nat), (7 : Nat), (8 : Nat), (5 : Nat), (9 : Nat), (10 : Nat), (11 : Nat), (12 : Nat)]) (.two (.two .leaf .leaf) (.two .leaf (.two (.two .leaf .leaf) .leaf)))))) .leaf)) (.two .leaf (.two .leaf (.two .leaf (.two (.two .leaf (.two (.two .leaf (.two .leaf .leaf)) .leaf)) (.two .leaf .leaf)))))))))) [Value.pointer d, Value.string name, Value.slice b bn bc] w K = wp_disk_Disk_Append d name b bn bc w K := by kernel_rfl
theorem ok_disk_Disk_Append {d : Option Addr} {name : ByteArray} {b : Option Addr} {bn : Nat} {bc : Nat} {w : World} {K : Value → World → Prop} (h : wp_disk_Disk_Append d name b bn bc w K) : callP Tryz.prog 54 [.pointer d, .string name, .slice b bn bc] w K :=
  calls_of Tryz.func54 ((eq_disk_Disk_Append d name b bn bc w K).symm ▸ h)

/-- (longshore.disk.Disk).Sync -/
def wp_disk_Disk_Sync (d : Option Addr) (name : ByteArray) (w : World) (K : Value → World → Prop) : Prop :=
  nn d fun a => callP Tryz.prog 55 [.pointer (some (Addr.add a 0))] w fun v w1 => v = .tuple (Array.mk []) ∧ nn d fun a1 => newB w1 [.string name] 9 fun a2 w2 => callP Tryz.prog 57 [.pointer d, .slice (some a2) 1 1] w2 fun v1 w3 => ∃ (p : Option Addr) (n : Int), v1 = .tuple (Array.mk [.pointer p, .int .i64 n]) ∧ newB w3 [.pointer none] 117 fun a3 w4 => st w4 (Addr.add a3 0) (.pointer p) fun w5 => Sif (n != 0) (callD Tryz.prog 56 [.pointer (some (Addr.add a1 0))] w5 fun w6 => K (.int .i64 n) w6) (callP Tryz.prog 92 [.pointer d, .func (Fn.func 95) (Array.mk []) (Array.mk [.pointer (some a3)])] w5 fun v2 w6 => ∃ (n1 : Int), v2 = .int .i64 n1 ∧ callD Tryz.prog 56 [.pointer (some (Addr.add a1 0))] w6 fun w7 => K (.int .i64 n1) w7)
set_option maxRecDepth 100000 in
theorem eq_disk_Disk_Sync (d : Option Addr) (name : ByteArray) (w : World) (K : Value → World → Prop) : wpF Tryz.prog none Tryz.f49 (.two .leaf (.two .leaf (.two .leaf (.two .leaf (.two (.two .leaf (.two (.two .leaf .leaf) .leaf)) (.two .leaf .leaf)))))) [Value.pointer d, Value.string name] w K = wp_disk_Disk_Sync d name w K := by kernel_rfl
theorem ok_disk_Disk_Sync {d : Option Addr} {name : ByteArray} {w : World} {K : Value → World → Prop} (h : wp_disk_Disk_Sync d name w K) : callP Tryz.prog 49 [.pointer d, .string name] w K :=
  calls_of Tryz.func49 ((eq_disk_Disk_Sync d name w K).symm ▸ h)

/-- (longshore.disk.Disk).Rename -/
def wp_disk_Disk_Rename (d : Option Addr) (from_ : ByteArray) (to : ByteArray) (w : World) (K : Value → World → Prop) : Prop :=
  newB w [.pointer d] 35 fun a w1 => newB w1 [.string from_] 9 fun a1 w2 => newB w2 [.string to] 9 fun a2 w3 => ∃ (p : Option Addr), w3.cell? a = some (.pointer p) ∧ nn p fun a3 => callP Tryz.prog 55 [.pointer (some (Addr.add a3 0))] w3 fun v w4 => v = .tuple (Array.mk []) ∧ ∃ (p1 : Option Addr), w4.cell? a = some (.pointer p1) ∧ nn p1 fun a4 => ∃ (p2 : Option Addr), w4.cell? a = some (.pointer p2) ∧ ∃ (s : ByteArray), w4.cell? a1 = some (.string s) ∧ ∃ (s1 : ByteArray), w4.cell? a2 = some (.string s1) ∧ newB w4 [.string s, .string s1] 9 fun a5 w5 => callP Tryz.prog 57 [.pointer p2, .slice (some a5) 2 2] w5 fun v1 w6 => ∃ (p3 : Option Addr) (n : Int), v1 = .tuple (Array.mk [.pointer p3, .int .i64 n]) ∧ newB w6 [.pointer none] 117 fun a6 w7 => st w7 (Addr.add a6 0) (.pointer p3) fun w8 => Sif (n != 0) (callD Tryz.prog 56 [.pointer (some (Addr.add a4 0))] w8 fun w9 => K (.int .i64 n) w9) (∃ (p4 : Option Addr), World.cell? (World.drew w8) a6 = some (.pointer p4) ∧ nn p4 fun a7 => ∃ (n1 : Int), World.cell? (World.drew w8) (Addr.add a7 1) = some (.int .i64 n1) ∧ ∃ (p5 : Option Addr), World.cell? (World.drew w8) a6 = some (.pointer p5) ∧ nn p5 fun a8 => ∃ (p6 : Option Addr) (n2 c : Nat), World.cell? (World.drew w8) (Addr.add a8 0) = some (.slice p6 n2 c) ∧ Sif (decide (n1 < (↑n2 : Int))) (callD Tryz.prog 56 [.pointer (some (Addr.add a4 0))] (World.drew w8) fun w9 => K (.int .i64 192) w9) (∃ (p7 : Option Addr), World.cell? (World.drew w8) a = some (.pointer p7) ∧ callP Tryz.prog 92 [.pointer p7, .func (Fn.func 130) (Array.mk []) (Array.mk [.pointer (some a1), .pointer (some a2), .pointer (some a), .pointer (some a6)])] (World.drew w8) fun v2 w9 => ∃ (n3 : Int), v2 = .int .i64 n3 ∧ callD Tryz.prog 56 [.pointer (some (Addr.add a4 0))] w9 fun w10 => K (.int .i64 n3) w10))
set_option maxRecDepth 100000 in
theorem eq_disk_Disk_Rename (d : Option Addr) (from_ : ByteArray) (to : ByteArray) (w : World) (K : Value → World → Prop) : wpF Tryz.prog none Tryz.f101 (.two .leaf (.two .leaf (.two .leaf (.two .leaf (.two (.two (.two .leaf (.two (.two .leaf .leaf) (.two (Ann.draw [(0 : Nat), (1 : Nat), (2 : Nat), (3 : Nat), (4 : Nat), (5 : Nat), (6 : Nat), (7 : Nat), (8 : Nat), (9 : Nat), (10 : Nat)]) (.two (.two .leaf .leaf) .leaf)))) .leaf) (.two .leaf .leaf)))))) [Value.pointer d, Value.string from_, Value.string to] w K = wp_disk_Disk_Rename d from_ to w K := by kernel_rfl
theorem ok_disk_Disk_Rename {d : Option Addr} {from_ : ByteArray} {to : ByteArray} {w : World} {K : Value → World → Prop} (h : wp_disk_Disk_Rename d from_ to w K) : callP Tryz.prog 101 [.pointer d, .string from_, .string to] w K :=
  calls_of Tryz.func101 ((eq_disk_Disk_Rename d from_ to w K).symm ▸ h)

/-- (longshore.disk.Disk).Crash -/
def wp_disk_Disk_Crash (d : Option Addr) (keep : Int) (w : World) (K : Value → World → Prop) : Prop :=
  nn d fun a => callP Tryz.prog 55 [.pointer (some (Addr.add a 0))] w fun v w1 => v = .tuple (Array.mk []) ∧ nn d fun a1 => nn d fun a2 => ∃ (b : Bool), w1.cell? (Addr.add a2 5) = some (.bool b) ∧ Sif (!b) (callP Tryz.prog 62 [.pointer d, .int .i64 keep] w1 fun v1 w2 => v1 = .tuple (Array.mk []) ∧ callD Tryz.prog 56 [.pointer (some (Addr.add a1 0))] w2 fun w3 => K (.tuple (Array.mk [])) w3) (callD Tryz.prog 56 [.pointer (some (Addr.add a1 0))] w1 fun w2 => K (.tuple (Array.mk [])) w2)
set_option maxRecDepth 100000 in
theorem eq_disk_Disk_Crash (d : Option Addr) (keep : Int) (w : World) (K : Value → World → Prop) : wpF Tryz.prog none Tryz.f31 (.two .leaf (.two .leaf (.two .leaf (.two .leaf .leaf)))) [Value.pointer d, Value.int IntKind.i64 keep] w K = wp_disk_Disk_Crash d keep w K := by kernel_rfl
theorem ok_disk_Disk_Crash {d : Option Addr} {keep : Int} {w : World} {K : Value → World → Prop} (h : wp_disk_Disk_Crash d keep w K) : callP Tryz.prog 31 [.pointer d, .int .i64 keep] w K :=
  calls_of Tryz.func31 ((eq_disk_Disk_Crash d keep w K).symm ▸ h)

/-- (longshore.disk.Disk).Read -/
def wp_disk_Disk_Read (d : Option Addr) (name : ByteArray) (w : World) (K : Value → World → Prop) : Prop :=
  nn d fun a => callP Tryz.prog 55 [.pointer (some (Addr.add a 0))] w fun v w1 => v = .tuple (Array.mk []) ∧ nn d fun a1 => newB w1 [.string name] 9 fun a2 w2 => callP Tryz.prog 57 [.pointer d, .slice (some a2) 1 1] w2 fun v1 w3 => ∃ (p : Option Addr) (n : Int), v1 = .tuple (Array.mk [.pointer p, .int .i64 n]) ∧ Sif (n != 0) (callD Tryz.prog 56 [.pointer (some (Addr.add a1 0))] w3 fun w4 => K (.tuple (Array.mk [.slice none 0 0, .int .i64 n])) w4) (nn p fun a3 => ∃ (p1 : Option Addr) (n1 c : Nat), w3.cell? (Addr.add a3 0) = some (.slice p1 n1 c) ∧ callP Tryz.prog 58 [.slice p1 n1 c] w3 fun v2 w4 => ∃ (p2 : Option Addr) (n2 c1 : Nat), v2 = .slice p2 n2 c1 ∧ callD Tryz.prog 56 [.pointer (some (Addr.add a1 0))] w4 fun w5 => K (.tuple (Array.mk [.slice p2 n2 c1, .int .i64 0])) w5)
set_option maxRecDepth 100000 in
theorem eq_disk_Disk_Read (d : Option Addr) (name : ByteArray) (w : World) (K : Value → World → Prop) : wpF Tryz.prog none Tryz.f22 (.two .leaf (.two .leaf (.two .leaf (.two .leaf (.two (.two .leaf (.two (.two .leaf .leaf) .leaf)) (.two .leaf .leaf)))))) [Value.pointer d, Value.string name] w K = wp_disk_Disk_Read d name w K := by kernel_rfl
theorem ok_disk_Disk_Read {d : Option Addr} {name : ByteArray} {w : World} {K : Value → World → Prop} (h : wp_disk_Disk_Read d name w K) : callP Tryz.prog 22 [.pointer d, .string name] w K :=
  calls_of Tryz.func22 ((eq_disk_Disk_Read d name w K).symm ▸ h)

/-- slices.Clone[[]byte,byte] -/
def wp_slices_Clone (s : Option Addr) (sn : Nat) (sc : Nat) (w : World) (K : Value → World → Prop) : Prop :=
  Sif (Option.isNone s) (K (.slice none 0 0) w) (newB w [] 5 fun a w1 => ∃ (p : Option Addr) (n : Nat), ∃ (c : Nat) (w2 : World), Sem.run Tryz.prog (Builtin.append_ (Array.mk [23, 23]) 23 (Array.mk [.slice (some a) 0 0, .slice s sn sc])) w1 = Result.ok (.slice p n c) w2 ∧ K (.slice p n c) w2)
set_option maxRecDepth 100000 in
theorem eq_slices_Clone (s : Option Addr) (sn : Nat) (sc : Nat) (w : World) (K : Value → World → Prop) : wpF Tryz.prog none Tryz.f58 (.two .leaf (.two (.two .leaf (.two (.two .leaf .leaf) .leaf)) (.two .leaf .leaf))) [Value.slice s sn sc] w K = wp_slices_Clone s sn sc w K := by kernel_rfl
theorem ok_slices_Clone {s : Option Addr} {sn : Nat} {sc : Nat} {w : World} {K : Value → World → Prop} (h : wp_slices_Clone s sn sc w K) : callP Tryz.prog 58 [.slice s sn sc] w K :=
  calls_of Tryz.func58 ((eq_slices_Clone s sn sc w K).symm ▸ h)

/-- (longshore.disk.Disk).Delete -/
def wp_disk_Disk_Delete (d : Option Addr) (name : ByteArray) (w : World) (K : Value → World → Prop) : Prop :=
  newB w [.pointer d] 35 fun a w1 => newB w1 [.string name] 9 fun a1 w2 => ∃ (p : Option Addr), w2.cell? a = some (.pointer p) ∧ nn p fun a2 => callP Tryz.prog 55 [.pointer (some (Addr.add a2 0))] w2 fun v w3 => v = .tuple (Array.mk []) ∧ ∃ (p1 : Option Addr), w3.cell? a = some (.pointer p1) ∧ nn p1 fun a3 => ∃ (p2 : Option Addr), w3.cell? a = some (.pointer p2) ∧ ∃ (s : ByteArray), w3.cell? a1 = some (.string s) ∧ newB w3 [.string s] 9 fun a4 w4 => callP Tryz.prog 57 [.pointer p2, .slice (some a4) 1 1] w4 fun v1 w5 => ∃ (p3 : Option Addr) (n : Int), v1 = .tuple (Array.mk [.pointer p3, .int .i64 n]) ∧ Sif (n != 0) (callD Tryz.prog 56 [.pointer (some (Addr.add a3 0))] w5 fun w6 => K (.int .i64 n) w6) (∃ (p4 : Option Addr), w5.cell? a = some (.pointer p4) ∧ callP Tryz.prog 92 [.pointer p4, .func (Fn.func 93) (Array.mk []) (Array.mk [.pointer (some a), .pointer (some a1)])] w5 fun v2 w6 => ∃ (n1 : Int), v2 = .int .i64 n1 ∧ callD Tryz.prog 56 [.pointer (some (Addr.add a3 0))] w6 fun w7 => K (.int .i64 n1) w7)
set_option maxRecDepth 100000 in
theorem eq_disk_Disk_Delete (d : Option Addr) (name : ByteArray) (w : World) (K : Value → World → Prop) : wpF Tryz.prog none Tryz.f47 (.two .leaf (.two .leaf (.two .leaf (.two (.two .leaf (.two .leaf (.two (.two .leaf .leaf) .leaf))) (.two .leaf .leaf))))) [Value.pointer d, Value.string name] w K = wp_disk_Disk_Delete d name w K := by kernel_rfl
theorem ok_disk_Disk_Delete {d : Option Addr} {name : ByteArray} {w : World} {K : Value → World → Prop} (h : wp_disk_Disk_Delete d name w K) : callP Tryz.prog 47 [.pointer d, .string name] w K :=
  calls_of Tryz.func47 ((eq_disk_Disk_Delete d name w K).symm ▸ h)

/-- longshore.disk.isName -/
def wp_disk_isName (s : ByteArray) (w : World) (K : Value → World → Prop) : Prop :=
  ∃ (I : Nat → Int → World → Prop), (∃ (m : Nat), I m 0 w) ∧ ∀ (m : Nat) (n : Int) (w1 : World), I m n w1 → Sif (decide (n < (↑(ByteArray.size s) : Int))) (∃ (J : World → Prop), (∀ (w2 : World), J w2 → ∃ (m' : Nat), m' < m ∧ I m' (IntKind.wrap .i64 (n + 1)) w2) ∧ 0 ≤ n ∧ n < (↑(ByteArray.size s) : Int) ∧ nameI (byteAt s (Int.toNat n)) fun n1 => Sif (!decide (n1 < 97)) (Sif (decide (n1 > 122)) (Sif (n1 != 46) (K (.bool false) w1) (J w1)) (J w1)) (Sif (n1 != 46) (K (.bool false) w1) (J w1))) (Sif (decide ((↑(ByteArray.size s) : Int) ≥ 1)) (K (.bool (decide ((↑(ByteArray.size s) : Int) ≤ 16))) w1) (K (.bool false) w1))
set_option maxRecDepth 100000 in
theorem eq_disk_isName (s : ByteArray) (w : World) (K : Value → World → Prop) : wpF Tryz.prog none Tryz.f59 (.two .leaf (.two (.two .leaf (.two (Ann.loop [((7 : Nat), VSh.cell (Sh.int IntKind.i64))] (.two .leaf (.two (.two .leaf .leaf) (.two (Ann.meet [] (.two (.two .leaf (.two .leaf (.two .leaf (.two (.two .leaf .leaf) .leaf)))) .leaf)) .leaf)))) .leaf)) (.two .leaf .leaf))) [Value.string s] w K = wp_disk_isName s w K := by kernel_rfl
theorem ok_disk_isName {s : ByteArray} {w : World} {K : Value → World → Prop} (h : wp_disk_isName s w K) : callP Tryz.prog 59 [.string s] w K :=
  calls_of Tryz.func59 ((eq_disk_isName s w K).symm ▸ h)

/-- (longshore.disk.Disk).of -/
def wp_disk_Disk_of (d : Option Addr) (names : Option Addr) (namesn : Nat) (namesc : Nat) (w : World) (K : Value → World → Prop) : Prop :=
  nn d fun a => ∃ (b : Bool), w.cell? (Addr.add a 5) = some (.bool b) ∧ Sif b (K (.tuple (Array.mk [.pointer none, .int .i64 (3 : Int)])) w) (∃ (I : Nat → Int → World → Prop), (∃ (m : Nat), I m (0 : Int) w) ∧ ∀ (m : Nat) (n : Int) (w1 : World), I m n w1 → Sif (decide (n < (↑namesn : Int))) ((0 : Int) ≤ n ∧ n < (↑namesn : Int) ∧ nn names fun a1 => ∃ (s : ByteArray), w1.cell? (Addr.add a1 (Int.toNat n * 1)) = some (.string s) ∧ callP Tryz.prog 59 [.string s] w1 fun v w2 => ∃ (b1 : Bool), v = .bool b1 ∧ Sif (!b1) (K (.tuple (Array.mk [.pointer none, .int .i64 (1 : Int)])) w2) (∃ (m' : Nat), m' < m ∧ I m' (IntKind.wrap .i64 (n + (1 : Int))) w2)) (nn d fun a1 => (0 : Int) ≤ (0 : Int) ∧ (0 : Int) < (↑namesn : Int) ∧ nn names fun a2 => ∃ (r : Option Nat), World.cell? (World.drew w1) (Addr.add a1 4) = some (.map r) ∧ ∃ (s : ByteArray), World.cell? (World.drew w1) (Addr.add a2 0) = some (.string s) ∧ ∃ (p : Option Addr) (b1 : Bool), Sem.run Tryz.prog (Instr.lookup 97 (.map r) (.string s) true) (World.drew w1) = Result.ok (.tuple (Array.mk [.pointer p, .bool b1])) (World.drew w1) ∧ Sif (!b1) (K (.tuple (Array.mk [.pointer none, .int .i64 (191 : Int)])) (World.drew w1)) (K (.tuple (Array.mk [.pointer p, .int .i64 (0 : Int)])) (World.drew w1))))
set_option maxRecDepth 100000 in
theorem eq_disk_Disk_of (d : Option Addr) (names : Option Addr) (namesn : Nat) (namesc : Nat) (w : World) (K : Value → World → Prop) : wpF Tryz.prog none Tryz.f57 (.two .leaf (.two (.two .leaf (.two (.two .leaf .leaf) .leaf)) (.two (.two .leaf (.two (Ann.loop [((16 : Nat), VSh.cell (Sh.int IntKind.i64))] (.two .leaf (.two (.two .leaf .leaf) (.two (.two (.two .leaf (.two .leaf (.two (.two .leaf .leaf) .leaf))) .leaf) .leaf)))) .leaf)) (.two (Ann.draw [(0 : Nat), (1 : Nat), (2 : Nat), (4 : Nat), (5 : Nat), (3 : Nat), (6 : Nat), (7 : Nat), (8 : Nat), (9 : Nat), (10 : Nat), (11 : Nat), (12 : Nat)]) (.two (.two .leaf (.two (.two .leaf .leaf) .leaf)) (.two .leaf .leaf)))))) [Value.pointer d, Value.slice names namesn namesc] w K = wp_disk_Disk_of d names namesn namesc w K := by kernel_rfl
theorem ok_disk_Disk_of {d : Option Addr} {names : Option Addr} {namesn : Nat} {namesc : Nat} {w : World} {K : Value → World → Prop} (h : wp_disk_Disk_of d names namesn namesc w K) : callP Tryz.prog 57 [.pointer d, .slice names namesn namesc] w K :=
  calls_of Tryz.func57 ((eq_disk_Disk_of d names namesn namesc w K).symm ▸ h)

/-- (longshore.disk.Disk).act -/
def wp_disk_Disk_act (d : Option Addr) (w : World) (K : Value → World → Prop) : Prop :=
  nn d fun a => ∃ (n : Int), w.cell? (Addr.add a 6) = some (.int .i64 n) ∧ Sif (n == 0) (K (.bool true) w) (nn d fun a1 => ∃ (n1 : Int), w.cell? (Addr.add a1 6) = some (.int .i64 n1) ∧ nn d fun a2 => st w (Addr.add (Addr.add a2 6) 0) (.int .i64 (max (IntKind.wrap .i64 (n1 - 1)) (-1))) fun w1 => K (.bool false) w1)
set_option maxRecDepth 100000 in
theorem eq_disk_Disk_act (d : Option Addr) (w : World) (K : Value → World → Prop) : wpF Tryz.prog none Tryz.f98 (.two .leaf (.two (.two .leaf (.two (.two .leaf .leaf) .leaf)) (.two .leaf (.two .leaf .leaf)))) [Value.pointer d] w K = wp_disk_Disk_act d w K := by kernel_rfl
theorem ok_disk_Disk_act {d : Option Addr} {w : World} {K : Value → World → Prop} (h : wp_disk_Disk_act d w K) : callP Tryz.prog 98 [.pointer d] w K :=
  calls_of Tryz.func98 ((eq_disk_Disk_act d w K).symm ▸ h)

/-- (longshore.disk.Disk).fall -/
def wp_disk_Disk_fall (d : Option Addr) (keep : Int) (w : World) (K : Value → World → Prop) : Prop :=
  nn d fun a => st w (Addr.add (Addr.add a 3) 0) (.int .i64 0) fun w1 => nn d fun a1 => ∃ (r : Option Nat), w1.cell? (Addr.add a1 4) = some (.map r) ∧ ∃ (p : Option Addr) (w2 : World), Sem.run Tryz.prog (Instr.range 97 (.map r)) w1 = Result.ok (.pointer p) w2 ∧ ∃ (I : Nat → World → Prop), (∃ (m : Nat), I m w2) ∧ ∀ (m : Nat) (w3 : World), I m w3 → (∃ (w4 : World), Sem.run Tryz.prog (Instr.next (.pointer p) false 0) w3 = Result.ok (.tuple (Array.mk [.bool false])) w4 ∧ nn d fun a2 => st w4 (Addr.add (Addr.add a2 5) 0) (.bool true) fun w5 => nn d fun a3 => st w5 (Addr.add (Addr.add a3 6) 0) (.int .i64 (-1)) fun w6 => K (.tuple (Array.mk [])) w6) ∨ ∃ (v v1 : Value) (w4 : World), Sem.run Tryz.prog (Instr.next (.pointer p) false 0) w3 = Result.ok (.tuple (Array.mk [.bool true, v, v1])) w4 ∧ ∃ (v2 v3 : Value), Sem.run Tryz.prog (Instr.entry (.pointer p)) w4 = Result.ok (.tuple (Array.mk [v2, v3])) w4 ∧ asPtrV v3 fun (p1 : Option Addr) => nn p1 fun a2 => nn p1 fun a3 => nn p1 fun a4 => ∃ (p2 : Option Addr) (n c : Nat), World.cell? (World.drew w4) (Addr.add a2 0) = some (.slice p2 n c) ∧ ∃ (n1 : Int), World.cell? (World.drew w4) (Addr.add a3 1) = some (.int .i64 n1) ∧ ∃ (p3 : Option Addr) (n2 c1 : Nat), World.cell? (World.drew w4) (Addr.add a4 0) = some (.slice p3 n2 c1) ∧ nameI (min (↑n : Int) (IntKind.wrap .i64 (n1 + min (max keep 0) (↑n2 : Int)))) fun n3 => nn p1 fun a5 => ∃ (p4 : Option Addr) (n4 c2 : Nat), World.cell? (World.drew w4) (Addr.add a5 0) = some (.slice p4 n4 c2) ∧ 0 ≤ n3 ∧ n3 ≤ (↑c2 : Int) ∧ callP Tryz.prog 58 [.slice p4 (Int.toNat n3) c2] (World.drew w4) fun v4 w5 => ∃ (p5 : Option Addr) (n5 c3 : Nat), v4 = .slice p5 n5 c3 ∧ nn p1 fun a6 => st w5 (Addr.add (Addr.add a6 0) 0) (.slice p5 n5 c3) fun w6 => nn p1 fun a7 => st w6 (Addr.add (Addr.add a7 1) 0) (.int .i64 n3) fun w7 => nn d fun a8 => ∃ (n6 : Int), w7.cell? (Addr.add a8 3) = some (.int .i64 n6) ∧ nn d fun a9 => st w7 (Addr.add (Addr.add a9 3) 0) (.int .i64 (IntKind.wrap .i64 (n6 + n3))) fun w8 => ∃ (m' : Nat), m' < m ∧ I m' w8
set_option maxRecDepth 100000 in
theorem eq_disk_Disk_fall (d : Option Addr) (keep : Int) (w : World) (K : Value → World → Prop) : wpF Tryz.prog none Tryz.f62 (.two .leaf (.two (.two .leaf (.two (Ann.loop [] (.two .leaf (.two (.two .leaf .leaf) (.two (.two .leaf (.two (Ann.draw [(0 : Nat), (1 : Nat), (2 : Nat), (5 : Nat), (6 : Nat), (7 : Nat), (9 : Nat), (10 : Nat), (11 : Nat), (12 : Nat), (13 : Nat), (3 : Nat), (4 : Nat), (8 : Nat), (14 : Nat), (15 : Nat), (16 : Nat), (17 : Nat), (18 : Nat), (19 : Nat)]) (.two .leaf (.two .leaf .leaf)))) .leaf)))) .leaf)) (.two .leaf .leaf))) [Value.pointer d, Value.int IntKind.i64 keep] w K = wp_disk_Disk_fall d keep w K := by kernel_rfl
theorem ok_disk_Disk_fall {d : Option Addr} {keep : Int} {w : World} {K : Value → World → Prop} (h : wp_disk_Disk_fall d keep w K) : callP Tryz.prog 62 [.pointer d, .int .i64 keep] w K :=
  calls_of Tryz.func62 ((eq_disk_Disk_fall d keep w K).symm ▸ h)

/-- (longshore.disk.Disk).done -/
def wp_disk_Disk_done (d : Option Addr) (what : Value) (w : World) (K : Value → World → Prop) : Prop :=
  callP Tryz.prog 98 [.pointer d] w fun v w1 => ∃ (b : Bool), v = .bool b ∧ Sif b (nn d fun a => ∃ (n : Int), w1.cell? (Addr.add a 7) = some (.int .i64 n) ∧ callP Tryz.prog 62 [.pointer d, .int .i64 n] w1 fun v1 w2 => v1 = .tuple (Array.mk []) ∧ K (.int .i64 3) w2) (callV Tryz.prog none what [] w1 fun v1 w2 => v1 = .tuple (Array.mk []) ∧ K (.int .i64 0) w2)
set_option maxRecDepth 100000 in
theorem eq_disk_Disk_done (d : Option Addr) (what : Value) (w : World) (K : Value → World → Prop) : wpF Tryz.prog none Tryz.f92 (.two .leaf (.two (.two .leaf (.two (.two .leaf (.two .leaf .leaf)) .leaf)) (.two .leaf (.two .leaf .leaf)))) [Value.pointer d, what] w K = wp_disk_Disk_done d what w K := by kernel_rfl
theorem ok_disk_Disk_done {d : Option Addr} {what : Value} {w : World} {K : Value → World → Prop} (h : wp_disk_Disk_done d what w K) : callP Tryz.prog 92 [.pointer d, what] w K :=
  calls_of Tryz.func92 ((eq_disk_Disk_done d what w K).symm ▸ h)

/-- (longshore.disk.Disk).Sync$1 -/
def wp_disk_Disk_Sync_1 (cap0 : Option Addr) (w : World) (K : Value → World → Prop) : Prop :=
  nn cap0 fun a => ∃ (p : Option Addr), World.cell? (World.drew w) a = some (.pointer p) ∧ nn cap0 fun a1 => ∃ (p1 : Option Addr), World.cell? (World.drew w) a1 = some (.pointer p1) ∧ nn p1 fun a2 => ∃ (p2 : Option Addr) (n c : Nat), World.cell? (World.drew w) (Addr.add a2 0) = some (.slice p2 n c) ∧ nn p fun a3 => st (World.drew w) (Addr.add (Addr.add a3 1) 0) (.int .i64 (↑n : Int)) fun w1 => K (.tuple (Array.mk [])) w1
set_option maxRecDepth 100000 in
theorem eq_disk_Disk_Sync_1 (cap0 : Option Addr) (w : World) (K : Value → World → Prop) : wpF Tryz.prog none Tryz.f95 (Ann.draw [(0 : Nat), (1 : Nat), (2 : Nat), (3 : Nat), (4 : Nat), (5 : Nat), (6 : Nat), (7 : Nat), (8 : Nat)]) [Value.pointer cap0] w K = wp_disk_Disk_Sync_1 cap0 w K := by kernel_rfl
theorem ok_disk_Disk_Sync_1 {cap0 : Option Addr} {w : World} {K : Value → World → Prop} (h : wp_disk_Disk_Sync_1 cap0 w K) : callP Tryz.prog 95 [.pointer cap0] w K :=
  calls_of Tryz.func95 ((eq_disk_Disk_Sync_1 cap0 w K).symm ▸ h)

/-- (longshore.disk.Disk).Rename$1 -/
def wp_disk_Disk_Rename_1 (cap0 : Option Addr) (cap1 : Option Addr) (cap2 : Option Addr) (cap3 : Option Addr) (w : World) (K : Value → World → Prop) : Prop :=
  nn cap0 fun a => ∃ (s : ByteArray), w.cell? a = some (.string s) ∧ nn cap1 fun a1 => ∃ (s1 : ByteArray), w.cell? a1 = some (.string s1) ∧ Sif (!ByteArray.toList s == ByteArray.toList s1) (nn cap2 fun a2 => ∃ (p : Option Addr), w.cell? a2 = some (.pointer p) ∧ nn cap1 fun a3 => ∃ (s2 : ByteArray), w.cell? a3 = some (.string s2) ∧ callP Tryz.prog 94 [.pointer p, .string s2] w fun v w1 => v = .tuple (Array.mk []) ∧ nn cap2 fun a4 => ∃ (p1 : Option Addr), World.cell? (World.drew w1) a4 = some (.pointer p1) ∧ nn p1 fun a5 => ∃ (r : Option Nat), World.cell? (World.drew w1) (Addr.add a5 4) = some (.map r) ∧ nn cap1 fun a6 => ∃ (s3 : ByteArray), World.cell? (World.drew w1) a6 = some (.string s3) ∧ nn cap3 fun a7 => ∃ (p2 : Option Addr), World.cell? (World.drew w1) a7 = some (.pointer p2) ∧ runU Tryz.prog (Instr.mapUpdate 97 (.map r) (.string s3) (.pointer p2)) (World.drew w1) fun w2 => nn cap2 fun a8 => ∃ (p3 : Option Addr), World.cell? (World.drew w2) a8 = some (.pointer p3) ∧ nn p3 fun a9 => ∃ (r1 : Option Nat), World.cell? (World.drew w2) (Addr.add a9 4) = some (.map r1) ∧ nn cap0 fun a10 => ∃ (s4 : ByteArray), World.cell? (World.drew w2) a10 = some (.string s4) ∧ ∃ (w3 : World), Sem.run Tryz.prog (Builtin.delete_ (Array.mk [97, 9]) 0 (Array.mk [.map r1, .string s4])) (World.drew w2) = Result.ok (.tuple (Array.mk [])) w3 ∧ K (.tuple (Array.mk [])) w3) (K (.tuple (Array.mk [])) w)
set_option maxRecDepth 100000 in
theorem eq_disk_Disk_Rename_1 (cap0 : Option Addr) (cap1 : Option Addr) (cap2 : Option Addr) (cap3 : Option Addr) (w : World) (K : Value → World → Prop) : wpF Tryz.prog none Tryz.f130 (.two .leaf (.two (.two .leaf (.two (Ann.draw [(0 : Nat), (1 : Nat), (2 : Nat), (3 : Nat), (4 : Nat), (5 : Nat), (6 : Nat)]) (Ann.draw [(0 : Nat), (1 : Nat), (2 : Nat), (3 : Nat), (4 : Nat), (5 : Nat)]))) .leaf)) [Value.pointer cap0, Value.pointer cap1, Value.pointer cap2, Value.pointer cap3] w K = wp_disk_Disk_Rename_1 cap0 cap1 cap2 cap3 w K := by kernel_rfl
theorem ok_disk_Disk_Rename_1 {cap0 : Option Addr} {cap1 : Option Addr} {cap2 : Option Addr} {cap3 : Option Addr} {w : World} {K : Value → World → Prop} (h : wp_disk_Disk_Rename_1 cap0 cap1 cap2 cap3 w K) : callP Tryz.prog 130 [.pointer cap0, .pointer cap1, .pointer cap2, .pointer cap3] w K :=
  calls_of Tryz.func130 ((eq_disk_Disk_Rename_1 cap0 cap1 cap2 cap3 w K).symm ▸ h)

/-- (longshore.disk.Disk).gone -/
def wp_disk_Disk_gone (d : Option Addr) (name : ByteArray) (w : World) (K : Value → World → Prop) : Prop :=
  nn d fun a => ∃ (r : Option Nat), w.cell? (Addr.add a 4) = some (.map r) ∧ ∃ (p : Option Addr) (b : Bool), Sem.run Tryz.prog (Instr.lookup 97 (.map r) (.string name) true) w = Result.ok (.tuple (Array.mk [.pointer p, .bool b])) w ∧ Sif b (nn d fun a1 => nn p fun a2 => ∃ (n : Int), World.cell? (World.drew w) (Addr.add a1 3) = some (.int .i64 n) ∧ ∃ (p1 : Option Addr) (n1 c : Nat), World.cell? (World.drew w) (Addr.add a2 0) = some (.slice p1 n1 c) ∧ nn d fun a3 => st (World.drew w) (Addr.add (Addr.add a3 3) 0) (.int .i64 (IntKind.wrap .i64 (n - (↑n1 : Int)))) fun w1 => nn d fun a4 => ∃ (r1 : Option Nat), w1.cell? (Addr.add a4 4) = some (.map r1) ∧ ∃ (w2 : World), Sem.run Tryz.prog (Builtin.delete_ (Array.mk [97, 9]) 0 (Array.mk [.map r1, .string name])) w1 = Result.ok (.tuple (Array.mk [])) w2 ∧ K (.tuple (Array.mk [])) w2) (K (.tuple (Array.mk [])) w)
set_option maxRecDepth 100000 in
theorem eq_disk_Disk_gone (d : Option Addr) (name : ByteArray) (w : World) (K : Value → World → Prop) : wpF Tryz.prog none Tryz.f94 (.two .leaf (.two .leaf (.two (.two (Ann.draw [(0 : Nat), (1 : Nat), (2 : Nat), (4 : Nat), (5 : Nat), (6 : Nat), (3 : Nat), (7 : Nat), (8 : Nat), (9 : Nat), (10 : Nat), (11 : Nat), (12 : Nat)]) .leaf) .leaf))) [Value.pointer d, Value.string name] w K = wp_disk_Disk_gone d name w K := by kernel_rfl
theorem ok_disk_Disk_gone {d : Option Addr} {name : ByteArray} {w : World} {K : Value → World → Prop} (h : wp_disk_Disk_gone d name w K) : callP Tryz.prog 94 [.pointer d, .string name] w K :=
  calls_of Tryz.func94 ((eq_disk_Disk_gone d name w K).symm ▸ h)

/-- (longshore.disk.Disk).Delete$1 -/
def wp_disk_Disk_Delete_1 (cap0 : Option Addr) (cap1 : Option Addr) (w : World) (K : Value → World → Prop) : Prop :=
  nn cap0 fun a => ∃ (p : Option Addr), w.cell? a = some (.pointer p) ∧ nn cap1 fun a1 => ∃ (s : ByteArray), w.cell? a1 = some (.string s) ∧ callP Tryz.prog 94 [.pointer p, .string s] w fun v w1 => v = .tuple (Array.mk []) ∧ K (.tuple (Array.mk [])) w1
set_option maxRecDepth 100000 in
theorem eq_disk_Disk_Delete_1 (cap0 : Option Addr) (cap1 : Option Addr) (w : World) (K : Value → World → Prop) : wpF Tryz.prog none Tryz.f93 .leaf [Value.pointer cap0, Value.pointer cap1] w K = wp_disk_Disk_Delete_1 cap0 cap1 w K := by kernel_rfl
theorem ok_disk_Disk_Delete_1 {cap0 : Option Addr} {cap1 : Option Addr} {w : World} {K : Value → World → Prop} (h : wp_disk_Disk_Delete_1 cap0 cap1 w K) : callP Tryz.prog 93 [.pointer cap0, .pointer cap1] w K :=
  calls_of Tryz.func93 ((eq_disk_Disk_Delete_1 cap0 cap1 w K).symm ▸ h)

/-- longshore.longshoreref19.Same -/
def wp_longshoreref19_Same (a : Option Addr) (an : Nat) (ac : Nat) (b : Option Addr) (bn : Nat) (bc : Nat) (w : World) (K : Value → World → Prop) : Prop :=
  Sif ((↑an : Int) != (↑bn : Int)) (K (.bool false) w) (∃ (I : Nat → Int → World → Prop), (∃ (m : Nat), I m 0 w) ∧ ∀ (m : Nat) (n : Int) (w1 : World), I m n w1 → Sif (decide (n < (↑an : Int))) (∃ (J : World → Prop), (∀ (w2 : World), J w2 → nameI (IntKind.wrap .i64 (n + 1)) fun n1 => ∃ (m' : Nat), m' < m ∧ I m' n1 w2) ∧ 0 ≤ n ∧ n < (↑an : Int) ∧ nn a fun a1 => 0 ≤ n ∧ n < (↑bn : Int) ∧ nn b fun a2 => ∃ (s : ByteArray), World.cell? (World.drew w1) (Addr.add (Addr.add a1 (Int.toNat n * 3)) 0) = some (.string s) ∧ ∃ (s1 : ByteArray), World.cell? (World.drew w1) (Addr.add (Addr.add a2 (Int.toNat n * 3)) 0) = some (.string s1) ∧ Sif (!!ByteArray.toList s == ByteArray.toList s1) (0 ≤ n ∧ n < (↑an : Int) ∧ nn a fun a3 => 0 ≤ n ∧ n < (↑bn : Int) ∧ nn b fun a4 => ∃ (n1 : Int), World.cell? (World.drew w1) (Addr.add (Addr.add a3 (Int.toNat n * 3)) 2) = some (.int .i64 n1) ∧ ∃ (n2 : Int), World.cell? (World.drew w1) (Addr.add (Addr.add a4 (Int.toNat n * 3)) 2) = some (.int .i64 n2) ∧ Sif (!n1 != n2) (0 ≤ n ∧ n < (↑an : Int) ∧ nn a fun a5 => 0 ≤ n ∧ n < (↑bn : Int) ∧ nn b fun a6 => ∃ (p : Option Addr) (n3 c : Nat), World.cell? (World.drew w1) (Addr.add (Addr.add a5 (Int.toNat n * 3)) 1) = some (.slice p n3 c) ∧ ∃ (s2 : ByteArray), Sem.run Tryz.prog (convert 23 9 (.slice p n3 c)) (World.drew w1) = Result.ok (.string s2) (World.drew w1) ∧ ∃ (p1 : Option Addr) (n4 c1 : Nat), World.cell? (World.drew w1) (Addr.add (Addr.add a6 (Int.toNat n * 3)) 1) = some (.slice p1 n4 c1) ∧ ∃ (s3 : ByteArray), Sem.run Tryz.prog (convert 23 9 (.slice p1 n4 c1)) (World.drew w1) = Result.ok (.string s3) (World.drew w1) ∧ Sif (!ByteArray.toList s2 == ByteArray.toList s3) (K (.bool false) (World.drew w1)) (J (World.drew w1))) (K (.bool false) (World.drew w1))) (K (.bool false) (World.drew w1))) (K (.bool true) w1))
set_option maxRecDepth 100000 in
theorem eq_longshoreref19_Same (a : Option Addr) (an : Nat) (ac : Nat) (b : Option Addr) (bn : Nat) (bc : Nat) (w : World) (K : Value → World → Prop) : wpF Tryz.prog none Tryz.f78
  (Ann.two Ann.leaf
    (Ann.two (Ann.two Ann.leaf (Ann.two (Ann.two Ann.leaf Ann.leaf) Ann.leaf))
      (Ann.two
        (Ann.two Ann.leaf
          (Ann.two
            (Ann.loop [((5 : Nat), VSh.cell (Sh.int IntKind.i64))]
              (Ann.two (Ann.two Ann.leaf (Ann.two Ann.leaf Ann.leaf))
                (Ann.two
                  (Ann.meet []
                    (Ann.two
                      (Ann.two
                        (Ann.draw
                          (let y :=
                            let y :=
                              let y := [(30 : Nat), (35 : Nat), (36 : Nat), (37 : Nat), (38 : Nat)];
                              (31 : Nat) :: (32 : Nat) :: (33 : Nat) :: (34 : Nat) :: (29 : Nat) :: y;
                            let y := (24 : Nat) :: (25 : Nat) :: (26 : Nat) :: (27 : Nat) :: (28 : Nat) :: y;
                            (20 : Nat) :: (16 : Nat) :: (21 : Nat) :: (22 : Nat) :: (23 : Nat) :: y;
                          let y :=
                            let y := (14 : Nat) :: (15 : Nat) :: (17 : Nat) :: (18 : Nat) :: (19 : Nat) :: y;
                            (9 : Nat) :: (10 : Nat) :: (11 : Nat) :: (12 : Nat) :: (13 : Nat) :: y;
                          let y := (5 : Nat) :: (6 : Nat) :: (7 : Nat) :: (8 : Nat) :: (4 : Nat) :: y;
                          (0 : Nat) :: (1 : Nat) :: (2 : Nat) :: (3 : Nat) :: y))
                        (Ann.two (Ann.two Ann.leaf Ann.leaf) Ann.leaf))
                      Ann.leaf))
                  Ann.leaf)))
            Ann.leaf))
        (Ann.two Ann.leaf Ann.leaf))))
  [Value.slice a an ac, Value.slice b bn bc] w K = wp_longshoreref19_Same a an ac b bn bc w K := by kernel_rfl
theorem ok_longshoreref19_Same {a : Option Addr} {an : Nat} {ac : Nat} {b : Option Addr} {bn : Nat} {bc : Nat} {w : World} {K : Value → World → Prop} (h : wp_longshoreref19_Same a an ac b bn bc w K) : callP Tryz.prog 78 [.slice a an ac, .slice b bn bc] w K :=
  calls_of Tryz.func78 ((eq_longshoreref19_Same a an ac b bn bc w K).symm ▸ h)

end Go.Proofs.YtipololccbdojaaGreatDoor
