/-
  Small laws of memory: many cells stored at once, rows that are written over, numbers in a row. Over every program.
-/
import Derived.Test.YtipbbjnmpnfhpaaDoorSvSort
namespace Go.Sv
open Go Go.Sort Go.RowKit
set_option linter.unusedVariables false
theorem putRow_blk {α : Type} [Inhabited α] {enc : α → Value} {w : World} {b off : Nat} {d : Array α} {cs : List Value} (h : blk w b = some cs) (hl : off + d.size ≤ cs.length) :
    ∃ cs', blk (putRow enc w b off d) b = some cs' ∧ cs'.length = cs.length ∧ (cs'.drop off).take d.size = d.toList.map enc ∧ Ch (· = b) w (putRow enc w b off d) := by
  unfold blk at h
  have hlt : b < w.heap.size := by
    cases hh : w.heap[b]? with
    | none => rw [hh] at h; cases h
    | some o => exact (Array.getElem?_eq_some_iff.1 hh).1
  split at h
  · rename_i c e fz heq
    split at h
    case isFalse => cases h
    rename_i hfz
    have hc : c.toList = cs := by simpa using h
    subst hc
    have hsz : (putCells enc off d c).size = c.size := by simp [putCells]
    refine ⟨(putCells enc off d c).toList, ?_, by simp [putCells], ?_, ⟨rfl, rfl, rfl, by simp [putRow, mapBlock], fun x hx hne => ?_⟩⟩
    · unfold blk
      have : (putRow enc w b off d).heap[b]? = some (.cells (putCells enc off d c) e fz) := by
        simp only [putRow, mapBlock, Array.getElem?_modify, if_true, heq, Option.map_some, onCells]
      rw [this]
      simp only [hsz, if_pos hfz]
    · apply List.ext_getElem?
      intro k
      rw [List.getElem?_take]
      simp only [List.getElem?_drop, Array.getElem?_toList, putCells, Array.getElem?_mapIdx, List.getElem?_map]
      by_cases hk : k < d.size
      · have h1 : off + k < c.size := by simp at hl; omega
        rw [if_pos hk, Array.getElem?_eq_getElem h1, Option.map_some, if_pos ⟨by omega, by omega⟩, show off + k - off = k by omega, getElem!_pos d k hk, Array.getElem?_eq_getElem hk]; rfl
      · rw [if_neg hk, Array.getElem?_eq_none (by omega)]; rfl
    · simp only [putRow, mapBlock, Array.getElem?_modify]
      rw [if_neg (fun e => hne e.symm)]
  · cases h
theorem stCells_seg : ∀ (vs : List Value) {w : World} {b o i : Nat} {cs : List Value} {K : World → Prop}, blk w b = some cs → o + i + vs.length ≤ cs.length → (∀ v ∈ vs, oneV v = true) →
    (∀ w', blk w' b = some (putSeg cs (o + i) vs) → Ch (· = b) w w' → w'.heap.size = w.heap.size → K w') → stCells w ⟨b, o, none⟩ vs i K
  | [], w, b, o, i, cs, K, h, _, _, hk => hk w (by rw [putSeg_nil]; exact h) (Ch.refl _ _) rfl
  | [v], w, b, o, i, cs, K, h, hl, h1, hk => by
    unfold stCells
    rw [h1 v (by simp), add_at]
    refine Sif_true ?_
    refine st_blk (o := o + i) h (by simp at hl; omega) fun w1 hb hc hz => hk w1 ?_ hc hz
    rw [← putSeg_cons cs (o + i) v [] (by simpa using hl), putSeg_nil]; exact hb
  | v :: u :: r, w, b, o, i, cs, K, h, hl, h1, hk => by
    unfold stCells
    rw [h1 v (by simp), add_at]
    refine Sif_true ?_
    refine st_blk (o := o + i) h (by simp at hl; omega) fun w1 hb hc hz => ?_
    refine stCells_seg (u :: r) hb (by simp at hl ⊢; omega) (fun x hx => h1 x (List.mem_cons_of_mem _ hx)) fun w2 hb2 hc2 hz2 => hk w2 ?_ (hc.trans' hc2) (by omega)
    rw [← putSeg_cons cs (o + i) v (u :: r) (by simp at hl ⊢; omega)]; exact hb2
def tab : List Int := [0, 498536548, 997073096, 651767980, 1994146192, 1802195444, 1303535960, 1342533948, 3988292384, 4027552580, 3604390888, 3412177804, 2607071920, 2262029012, 2685067896, 3183342108]
/-- a number in a row -/
def iC (n : Int) : List Value := [.int .i64 n]
theorem iC_len (n : Int) : (iC n).length = 1 := rfl
theorem iC_one (n : Int) : ∀ v ∈ iC n, oneV v = true := by
  intro v hv; simp [iC] at hv; rw [hv]; rfl
theorem iC_flat (l : List Int) : l.flatMap iC = l.map (Value.int .i64) := by
  induction l with
  | nil => rfl
  | cons x l ih => simp [iC, ih]
theorem more_ahead {w : World} (n : Nat) : Ch (fun _ => False) w (Go.Sort.ahead w n) := ⟨rfl, rfl, rfl, Nat.le_refl _, fun _ _ _ => rfl⟩
theorem holdsI {w : World} {k o : Nat} {L : List Int} {cs : List Value} (hb : blk w k = some cs) (hl : o + L.length ≤ cs.length) (ht : (cs.drop o).take L.length = L.flatMap iC) : Holds (Value.int .i64) w k o L.toArray := by
  intro j hj
  have hj' : j < L.length := by simpa using hj
  refine ⟨?_, frozen_blk hb (by omega)⟩
  have h1 : (L.flatMap iC)[j]? = some (.int .i64 L[j]) := by rw [iC_flat, List.getElem?_map, List.getElem?_eq_getElem hj']; rfl
  rw [← ht, List.getElem?_take, if_pos hj', List.getElem?_drop] at h1
  rw [cell_blk hb, h1, getElem!_pos _ j hj]
  simp
/-- sorted numbers: the row behind slices.Sort -/
theorem sorted_row {w w' : World} {k o c n : Nat} {L : List Int} {cs : List Value} {os : Array Obj} (hbk : blk w k = some cs) (h2 : L.length ≤ c) (hl : o + c * 1 ≤ cs.length) (hw : w' = Go.Sort.grow (putRow (Value.int .i64) (Go.Sort.ahead w n) k o (L.mergeSort fun x y => decide (x ≤ y)).toArray) os) :
    Ow w' (some ⟨k, o, none⟩) L.length c 1 ((L.mergeSort fun x y => decide (x ≤ y)).flatMap iC) (some k) ∧ Ch (fun j => some k = some j) w w' := by
  have hb2 : blk (Go.Sort.ahead w n) k = some cs := hbk
  obtain ⟨cs', g1, g2, g3, g4⟩ := putRow_blk (enc := Value.int .i64) (off := o) (d := (L.mergeSort fun x y => decide (x ≤ y)).toArray) hb2 (by simp; omega)
  have g5 := sort_grow_ch (w := putRow (Value.int .i64) (Go.Sort.ahead w n) k o (L.mergeSort fun x y => decide (x ≤ y)).toArray) os
  rw [← hw] at g5
  refine ⟨⟨by rw [flat_len iC_len, List.length_mergeSort], h2, .inr ⟨k, o, cs', rfl, rfl, by rw [g5.blk (blk_lt g1) id]; exact g1, by omega, ?_⟩⟩, ((more_ahead n).mono fun _ _ h => h.elim).trans' ((g4.mono fun x _ h => by rw [h]).trans' (g5.mono fun _ _ h => h.elim))⟩
  have e2 : (L.mergeSort fun x y => decide (x ≤ y)).toArray.size = L.length := by simp
  rw [e2] at g3
  rw [iC_flat]
  simpa using g3
end Go.Sv
