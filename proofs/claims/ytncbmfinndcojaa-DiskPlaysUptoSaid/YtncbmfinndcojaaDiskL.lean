/-
  The chapter's first examples hold (awake).
-/
import Derived.Test.YtncbmfinndcojaaDiskK
import Derived.Test.YtncbmfinndcojaaLawWp
namespace Go.Proofs.Ytncbmfinndcojaa
open Go Go.Sv Go.MapKept
set_option linter.unusedVariables false
set_option maxRecDepth 4000

/-- all of B is new since w -/
structure Fresh (w w' : World) (B : Nat → Prop) : Prop where
  ch : Ch (fun _ => False) w w'
  new : ∀ b, B b → w.heap.size ≤ b
theorem Fresh.step {w w1 w2 : World} {B B' : Nat → Prop} (F : Fresh w w1 B) (hc : Ch B w1 w2) (hb : ∀ b, B' b → B b ∨ w1.heap.size ≤ b) : Fresh w w2 B' :=
  ⟨F.ch.trans hc fun x hx h => by have := F.new x h; omega, fun b h => by
    have := F.ch.size
    rcases hb b h with h | h
    · exact F.new b h
    · omega⟩
theorem Fresh.more {w w1 w2 : World} {B : Nat → Prop} (F : Fresh w w1 B) (hc : Ch (fun _ => False) w1 w2) : Fresh w w2 B := ⟨F.ch.new hc, F.new⟩
abbrev sLog : ByteArray := ⟨#[108, 111, 103]⟩
abbrev sB : ByteArray := ⟨#[98]⟩
def awA (k : Nat) (dat : List UInt8) (safe : Nat) (down : Bool) : AD := { room := 10, down := down, acts := -1, keep := 0, fs := [⟨sLog, dat, safe⟩] }
theorem aw1 : (newA 10).append sLog [1, 2, 3] = (0, awA 0 [1, 2, 3] 0 false) := by kernel_rfl
theorem aw2 : (awA 0 [1, 2, 3] 0 false).sync sLog = (0, awA 0 [1, 2, 3] 3 false) := by kernel_rfl
theorem aw3 : (awA 0 [1, 2, 3] 3 false).append sLog [4, 5] = (0, awA 0 [1, 2, 3, 4, 5] 3 false) := by kernel_rfl
theorem aw4 : (awA 0 [1, 2, 3, 4, 5] 3 false).append sLog [0, 0, 0, 0, 0, 0] = (190, awA 0 [1, 2, 3, 4, 5] 3 false) := by kernel_rfl
theorem aw5 : (awA 0 [1, 2, 3, 4, 5] 3 false).rename sLog sB = (192, awA 0 [1, 2, 3, 4, 5] 3 false) := by kernel_rfl
theorem aw6 : (awA 0 [1, 2, 3, 4, 5] 3 false).crash 1 = awA 0 [1, 2, 3, 4] 4 true := by kernel_rfl
theorem aw7 : (awA 0 [1, 2, 3, 4] 4 true).err [sLog] sLog = 3 := by kernel_rfl
theorem aw8 : (awA 0 [1, 2, 3, 4] 4 false).err [sLog] sLog = 0 := by kernel_rfl
theorem aw9 : (awA 0 [1, 2, 3, 4] 4 false).get sLog = [1, 2, 3, 4] := by kernel_rfl
theorem make_bytes {w : World} (n : Nat) (hn : n ≤ 2 ^ 41) : ∃ w', (Instr.makeSlice 31 (.int .i64 (n : Int)) (.int .i64 (n : Int))).run Try.prog w = .ok (.slice (some ⟨w.heap.size, 0, none⟩) n n) w' ∧
    blk w' w.heap.size = some (bytesV (List.replicate n 0)) ∧ Ch (fun _ => False) w w' ∧ w'.heap.size = w.heap.size + 1 := by
  obtain ⟨i, hi, h1, h2, h3⟩ := byte_info
  have hr := run_make (P := Try.prog) w 31 5 i _ Try.underlying31 hi h3 .i64 .i64 (n : Int) (n : Int) (by omega) (by omega) (by rw [h2]; omega) (by omega)
  rw [Int.toNat_natCast, h1, Nat.mul_one] at hr
  have hm : madeCells (Value.int .u8 0).cells n = (bytesV (List.replicate n 0)).toArray := by
    apply Array.ext'
    apply List.ext_getElem
    · simp [madeCells]
    · intro j g1 g2
      simp [madeCells, bytesV, Value.cells, Nat.mod_one]
  rw [hm] at hr
  exact ⟨_, hr, alloc_blk w _ _, alloc_ch w _, by simp⟩
theorem rd_new {w : World} {k : Nat} {l : List UInt8} (hb : blk w k = some (bytesV l)) : Rd w (some ⟨k, 0, none⟩) l.length 1 (bytesV l) := ⟨by simp, .inr ⟨k, 0, _, rfl, blk_cells hb, by simp, by rw [List.drop_zero, Nat.mul_one, List.take_of_length_le (by simp)]⟩⟩
set_option maxHeartbeats 2000000 in
theorem awake_ok {w : World} {K : Value → World → Prop} (hk : ∀ w', Ch (fun _ => False) w w' → K (.bool true) w') : callP Try.prog 6 [] w K := by
  refine ok_longshorelaw19_awake ?_
  unfold wp_longshorelaw19_awake
  refine new_ok (fun h => by omega) fun _ _ d w1 B1 D1 c1 n1 => ⟨_, rfl, ?_⟩
  have F1 : Fresh w w1 B1 := ⟨c1, n1⟩
  refine new_ok (fun _ => ⟨_, rfl, ?_⟩) (fun h => by omega)
  refine ⟨fun w3 => w3 = w1, ?_, Sif_true (Sif_false rfl)⟩
  rintro w3 rfl
  refine newB_blk fun w4 b4 c4 z4 => ?_
  refine append_ok (D1.ch c4 fun _ _ => id) (by decide) (rd_new (l := [1, 2, 3]) b4) (by decide) (fun p hp _ hB => by cases hp; have := D1.lt _ hB; exact Nat.lt_irrefl _ this) ?_
  rw [aw1]
  intro w5 B5 D5 e5 n5
  have F5 := (F1.more c4).step e5 n5
  refine ⟨_, rfl, sync_ok D5 (by decide) ?_⟩
  rw [aw2]
  intro w6 B6 D6 e6 n6
  have F6 := F5.step e6 n6
  refine ⟨_, rfl, newB_blk fun w7 b7 c7 z7 => ?_⟩
  refine append_ok (D6.ch c7 fun _ _ => id) (by decide) (rd_new (l := [4, 5]) b7) (by decide) (fun p hp _ hB => by cases hp; have := D6.lt _ hB; exact Nat.lt_irrefl _ this) ?_
  rw [aw3]
  intro w8 B8 D8 e8 n8
  have F8 := (F6.more c7).step e8 n8
  obtain ⟨w9, r9, b9, c9, z9⟩ := make_bytes (w := w8) 6 (by decide)
  refine ⟨_, rfl, _, _, _, w9, r9, ?_⟩
  refine append_ok (D8.ch c9 fun _ _ => id) (by decide) (rd_new (l := [0, 0, 0, 0, 0, 0]) b9) (by decide) (fun p hp _ hB => by cases hp; have := D8.lt _ hB; exact Nat.lt_irrefl _ this) ?_
  rw [aw4]
  intro w10 B10 D10 e10 n10
  have F10 := (F8.more c9).step e10 n10
  refine ⟨_, rfl, rename_ok D10 (by decide) (by decide) ?_⟩
  rw [aw5]
  intro w11 B11 D11 e11 n11
  have F11 := F10.step e11 n11
  refine ⟨_, rfl, crash_ok D11 ?_⟩
  rw [aw6]
  intro w12 B12 D12 e12 n12
  have F12 := F11.step e12 n12
  refine ⟨rfl, read_ok D12 (by decide) ?_⟩
  intro p13 q13 o13
  rw [aw7]
  intro l w13 B13 D13 e13 n13 _ _
  have F13 := F12.step e13 fun b h => .inl (n13 b h)
  refine ⟨_, _, _, _, rfl, start_ok D13 ?_⟩
  intro w14 B14 D14 e14 n14
  have F14 := F13.step e14 n14
  refine ⟨rfl, read_ok (a := awA 0 [1, 2, 3, 4] 4 false) D14 (by decide) ?_⟩
  intro p15 q15 o15
  rw [aw8, aw9]
  intro l2 w15 B15 D15 e15 n15 h15 f15
  have F15 := F14.step e15 fun b h => .inl (n15 b h)
  refine ⟨_, _, _, _, rfl, up_ok D15 ?_⟩
  intro w16 B16 D16 e16 n16
  have F16 := F15.step e16 n16
  refine ⟨_, rfl, Sif_true (Sif_true (Sif_true (Sif_true (Sif_true (Sif_true (Sif_true ?_))))))⟩
  have h16 : Rd w16 p15 4 1 (bytesV [1, 2, 3, 4]) := (h15.ch e16 fun k hk hB => by
    have h1 := f15 k hk
    have h2 := D14.lt _ (n15 _ hB)
    omega).rd
  refine ⟨_, toString_run (l := [1, 2, 3, 4]) Try.underlying31 Try.underlying5 Try.underlying9 h16, ?_⟩
  refine Sif_cases (fun _ => ?_) fun h => ?_
  · exact hk w16 F16.ch
  · simp at h
end Go.Proofs.Ytncbmfinndcojaa
