/-
  Bytes that are lent (longshoreref03): LentBytes, AsLentBytes; the marks of a book of bytes.
-/
import Derived.Test.YtncbmfinndcojaaDiskL
import Derived.Test.YtncbmfinndcojaaSvRow
import Derived.Test.YtncbmfinndcojaaDiskM
namespace Go.Sv
open Go
theorem wrap_u8 {n : Int} (h1 : 0 ≤ n) : IntKind.wrap .u8 n = n % 256 := by
  unfold IntKind.wrap
  simp [IntKind.bits, IntKind.signed]
theorem take_set_succ {α : Type} {l : List α} {i : Nat} {v : α} (h : i < l.length) : (l.set i v).take (i + 1) = l.take i ++ [v] := by
  rw [List.take_add_one, List.take_set_of_le (Nat.le_refl _), List.getElem?_set_self h]; rfl
theorem drop_set_succ {α : Type} {l : List α} {i : Nat} {v : α} : (l.set i v).drop (i + 1) = l.drop (i + 1) := by
  rw [List.drop_set_of_lt (by omega)]
theorem Rd.of_blk {w : World} {k n sz : Nat} {cs : List Value} (h : blk w k = some cs) (hn : n * sz ≤ cs.length) : Rd w (some ⟨k, 0, none⟩) n sz (cs.take (n * sz)) :=
  ⟨by simp; omega, .inr ⟨k, 0, cs, rfl, blk_cells h, by omega, by rw [List.drop_zero]⟩⟩
end Go.Sv
namespace Go.Proofs.Ytncbmfinndcojaa
open Go Go.Sv Go.MapKept
set_option linter.unusedVariables false
set_option maxRecDepth 4000

def marks9 : List UInt8 := (List.range 9).map fun j => UInt8.ofNat (200 + j)
theorem marks9_at {j : Nat} (h : j < 9) : (bytesV marks9)[j]? = some (.int .u8 (200 + j : Int)) := by
  unfold marks9 bytesV
  rw [List.getElem?_map, List.getElem?_map, List.getElem?_range h]
  simp
  omega
theorem lentAt {l : List UInt8} {i : Nat} (h1 : l.length ≤ i) (h2 : i < l.length + 9) : (bytesV (l ++ marks9))[i]? = some (.int .u8 (200 + i - l.length : Int)) := by
  rw [bytesV_append, List.getElem?_append_right (by simp; omega), bytesV_length, marks9_at (by omega)]
  congr 2; omega
theorem lentLen (l : List UInt8) : (bytesV (l ++ marks9)).length = l.length + 9 := by rw [bytesV_length, List.length_append]; rfl
theorem byte_size : (Try.prog.info? 5).map (·.size) = some 1 := by kernel_rfl
set_option maxHeartbeats 1000000 in
theorem lent_ok {b : Option Addr} {n c : Nat} {w : World} {l : List UInt8} {K : Value → World → Prop} (h : Rd w b n 1 (bytesV l)) (hn : n ≤ 2 ^ 40)
    (hk : ∀ k w', blk w' k = some (bytesV (l ++ marks9)) → w.heap.size ≤ k → Ch (fun _ => False) w w' → K (.slice (some ⟨k, 0, none⟩) n (n + 9)) w') : callP Try.prog 17 [.slice b n c] w K := by
  have hl : l.length = n := by have := h.1; simpa using this
  refine ok_longshoreref03_LentBytes ?_
  unfold wp_longshoreref03_LentBytes
  rw [wrap_id (by omega) (by omega)]
  obtain ⟨w1, r1, b1, c1, z1⟩ := make_bytes (w := w) (n + 9) (by omega)
  rw [show ((n + 9 : Nat) : Int) = (n : Int) + 9 by omega] at r1
  refine ⟨_, _, _, w1, r1, ?_⟩
  have hr1 : Rd w1 b n 1 (bytesV l) := h.ch c1 fun _ _ _ => id
  have hlz : (bytesV (List.replicate (n + 9) 0)).length = n + 9 := by simp
  -- the bytes are copied
  have hcopy : ∃ n1 w2, Sem.run Try.prog (Builtin.copy_ #[31, 31] 3 #[.slice (some ⟨w.heap.size, 0, none⟩) (n + 9) (n + 9), .slice b n c]) w1 = .ok (.int .i64 n1) w2 ∧ (∃ cs, blk w2 w.heap.size = some cs ∧ cs.length = n + 9 ∧ cs.take n = bytesV l) ∧ Ch (· = w.heap.size) w1 w2 := by
    by_cases h0 : n = 0
    · refine ⟨0, w1, run_copy_none w1 _ _ _ _ _ _ _ _ _ _ Try.underlying31 byte_size (by subst h0; exact Nat.zero_min _), ⟨_, b1, hlz, ?_⟩, Ch.refl _ _⟩
      subst h0
      have : l = [] := List.eq_nil_of_length_eq_zero hl
      subst this; rfl
    · obtain ⟨h1, h2⟩ := hr1
      rcases h2 with h2 | ⟨k, o, cs, rfl, hcs, hle, ht⟩
      · omega
      have hr := run_copy_cells (P := Try.prog) w1 31 31 3 5 w.heap.size 0 (n + 9) (n + 9) ⟨k, o, none⟩ n c (bytesV l) Try.underlying31 byte_size (by rw [bytesV_length, hl]; exact (Nat.min_eq_left (by omega)).symm)
        (fun j v hj => by
          have hjl := (List.getElem?_eq_some_iff.1 hj).1
          rw [add_at, cell_of hcs, ← hj, ← ht, List.getElem?_take, if_pos (by omega), List.getElem?_drop])
        (fun j hj => by rw [cell_blk b1]; simp at hj ⊢; omega) (fun j hj => frozen_blk b1 (by simp at hj ⊢; omega)) (fun v hv => by rw [oneCell_of]; exact bytesV_one l v hv)
      obtain ⟨g1, g2, _⟩ := setCells_blk (bytesV l) b1 (o := 0) (by simp; omega)
      refine ⟨_, _, hr, ⟨_, g1, ?_, ?_⟩, g2⟩
      · rw [putSeg_length (by simp; omega)]; simp
      · unfold putSeg
        rw [List.take_zero, List.nil_append, List.take_append_of_le_length (by simp; omega), List.take_of_length_le (by simp; omega)]
  obtain ⟨n1, w2, r2, ⟨cs2, b2, hcl, hct⟩, c2⟩ := hcopy
  refine ⟨n1, w2, r2, ?_⟩
  refine ⟨fun m k w' => ∃ (i : Nat) (cs : List Value), k = i ∧ n ≤ i ∧ i ≤ n + 9 ∧ m = n + 9 - i ∧ blk w' w.heap.size = some cs ∧ cs.length = n + 9 ∧ cs.take i = (bytesV (l ++ marks9)).take i ∧ Ch (· = w.heap.size) w1 w',
    ⟨9, n, cs2, rfl, by omega, by omega, by omega, b2, hcl, by rw [hct, bytesV_append, List.take_append_of_le_length (by simp; omega), List.take_of_length_le (by simp; omega)], c2⟩, ?_⟩
  rintro m k w3 ⟨i, cs, rfl, hi1, hi2, rfl, b3, hl3, ht3, c3⟩
  simp only [nn_some, add_at, Nat.zero_add, Nat.add_zero, Nat.mul_one, Int.toNat_natCast]
  refine Sif_cases (fun g => ?_) fun g => ?_
  · have hlt : i < n + 9 := by have := of_decide_eq_true g; omega
    refine ⟨by omega, by omega, st_blk b3 (by omega) fun w4 b4 c4 z4 => ?_⟩
    rw [nameI_iff, wrap_id (n := (i : Int) + 1) (by omega) (by omega)]
    refine ⟨n + 9 - (i + 1), by omega, i + 1, _, by simp, by omega, by omega, rfl, b4, by simpa using hl3, ?_, c3.trans' c4⟩
    rw [take_set_succ (by omega), ht3, List.take_add_one, lentAt (by omega) (by omega)]
    rw [wrap_id (n := 200 + (i : Int)) (by omega) (by omega), wrap_id (by omega) (by omega), wrap_u8 (by omega), hl]
    simp only [Option.toList_some, List.append_cancel_left_eq, List.cons.injEq, Value.int.injEq, true_and, and_true]
    omega
  · have hge : i = n + 9 := by have := of_decide_eq_false g; omega
    subst hge
    have hfin : cs = bytesV (l ++ marks9) := by
      rw [List.take_of_length_le (by omega), List.take_of_length_le (by rw [lentLen]; omega)] at ht3; exact ht3
    rw [hfin] at b3
    exact ⟨by omega, by omega, hk _ w3 b3 (Nat.le_refl _) (c1.trans c3 fun x hx h => by omega)⟩
set_option maxHeartbeats 1000000 in
theorem asLent_ok {k : Nat} {b : Option Addr} {n c : Nat} {w : World} {l : List UInt8} {K : Value → World → Prop} (hb : blk w k = some (bytesV (l ++ marks9))) (h : Rd w b n 1 (bytesV l)) (hn : n ≤ 2 ^ 40)
    (hk : ∀ w', Ch (· = k) w w' → w'.heap.size = w.heap.size → K (.bool true) w') : callP Try.prog 19 [.slice (some ⟨k, 0, none⟩) n (n + 9), .slice b n c] w K := by
  have hl : l.length = n := by have := h.1; simpa using this
  refine ok_longshoreref03_AsLentBytes ?_
  unfold wp_longshoreref03_AsLentBytes
  refine Sif_cases (fun g => by simp at g) fun _ => ?_
  rw [wrap_id (n := (n : Int) + 9) (by omega) (by omega)]
  have hrd : Rd w (some ⟨k, 0, none⟩) n 1 (bytesV l) := by
    have := Rd.of_blk (n := n) (sz := 1) hb (by rw [lentLen]; omega)
    rw [Nat.mul_one, bytesV_append, List.take_append_of_le_length (by simp; omega), List.take_of_length_le (by simp; omega)] at this
    exact this
  refine ⟨by omega, by omega, _, toStr hrd, _, toStr h, ?_⟩
  rw [str_eq_self, show ((n : Int) + 9).toNat = n + 9 by omega]
  refine ⟨fun m g j w' => ∃ (i : Nat) (cs : List Value), g = true ∧ j = i ∧ i ≤ n + 9 ∧ m = n + 9 - i ∧ blk w' k = some cs ∧ cs.length = n + 9 ∧ cs.drop i = (bytesV (l ++ marks9)).drop i ∧ Ch (· = k) w w' ∧ w'.heap.size = w.heap.size,
    ⟨n + 9, 0, _, rfl, rfl, by omega, by omega, hb, by rw [lentLen, hl], rfl, Ch.refl _ _, rfl⟩, ?_⟩
  rintro m g j w1 ⟨i, cs, rfl, rfl, hi, rfl, b1, hcl, hd, c1, z1⟩
  refine Sif_cases (fun g => ?_) fun g => hk w1 c1 z1
  have hlt : i < n + 9 := by have := of_decide_eq_true g; omega
  simp only [nn_some, add_at, Nat.zero_add, Nat.add_zero, Nat.mul_one, Int.toNat_natCast]
  refine ⟨fun g' w' => g' = true ∧ ∃ cs, blk w' k = some cs ∧ cs.length = n + 9 ∧ cs.drop (i + 1) = (bytesV (l ++ marks9)).drop (i + 1) ∧ Ch (· = k) w w' ∧ w'.heap.size = w.heap.size, ?_, fun g' w' => g' = true ∧ w' = w1, ?_, ?_⟩
  · rintro g' w2 ⟨rfl, cs', h1, h2, h3, h4, h5⟩
    rw [nameI_iff, wrap_id (by omega) (by omega)]
    exact ⟨n + 9 - (i + 1), by omega, i + 1, cs', rfl, by simp, by omega, rfl, h1, h2, h3, h4, h5⟩
  · rintro g' w2 ⟨rfl, rfl⟩
    refine ⟨by omega, by omega, st_blk b1 (by omega) fun w3 b3 c3 z3 => ⟨rfl, _, b3, by simpa using hcl, ?_, c1.trans' c3, by omega⟩⟩
    rw [drop_set_succ, ← List.drop_drop (i := 1) (j := i), hd, List.drop_drop]
  · refine Sif_cases (fun q => ⟨by omega, by omega, ?_⟩) fun q => ⟨rfl, rfl⟩
    have hq : n ≤ i := by have := of_decide_eq_true q; omega
    have hcell : w1.cell? ⟨k, i, none⟩ = some (.int .u8 (200 + i - l.length : Int)) := by
      rw [cell_blk b1]
      have h1 : cs[i]? = (cs.drop i)[0]? := by simp
      rw [h1, hd, List.getElem?_drop, Nat.add_zero, lentAt (by omega) (by omega)]
    refine ⟨_, hcell, Sif_cases (fun q2 => ?_) fun _ => ⟨rfl, rfl⟩⟩
    exfalso
    rw [wrap_id (n := 200 + (i : Int)) (by omega) (by omega), wrap_id (by omega) (by omega), wrap_u8 (by omega), hl] at q2
    simp at q2
    omega
end Go.Proofs.Ytncbmfinndcojaa
