/-
  Memory, block by block: what a block holds, what a change leaves alone; loads, stores, new blocks, append, copy in these words. Over every program.
-/
import Derived.Test.YtnibmhjdomndbaaDoorSvCode
import Derived.Laws.Cells
import Derived.Below
import Derived.Deep.AppendSrc
import Derived.Laws.IdiomStrings
import Derived.Laws.IdiomCopy
namespace Go.Sv
open Go

/-- the cells of a block -/
def cellsAt (w : World) (b : Nat) : Option (List Value) :=
  match w.heap[b]? with
  | some (.cells c _ _) => some c.toList
  | _ => none
/-- the cells of a block of which no cell is frozen -/
def blk (w : World) (b : Nat) : Option (List Value) :=
  match w.heap[b]? with
  | some (.cells c _ fz) => if fz.2 ≤ fz.1 ∨ c.size ≤ fz.1 then some c.toList else none
  | _ => none
def mapAt (w : World) (r : Nat) : Option (List MapEntry × Nat) :=
  match w.heap[r]? with
  | some (.map es clock) => some (es.toList, clock)
  | _ => none
/-- from w to w' nothing that was there has changed but blocks of S -/
structure Ch (S : Nat → Prop) (w w' : World) : Prop where
  os : w'.os = w.os
  tape : w'.tape = w.tape
  output : w'.output = w.output
  size : w.heap.size ≤ w'.heap.size
  keep : ∀ b, b < w.heap.size → ¬ S b → w'.heap[b]? = w.heap[b]?
theorem Ch.refl (S : Nat → Prop) (w : World) : Ch S w w := ⟨rfl, rfl, rfl, Nat.le_refl _, fun _ _ _ => rfl⟩
theorem Ch.mono {S S' : Nat → Prop} {w w' : World} (h : Ch S w w') (hs : ∀ b, b < w.heap.size → S b → S' b) : Ch S' w w' :=
  ⟨h.os, h.tape, h.output, h.size, fun b hb hn => h.keep b hb fun hS => hn (hs b hb hS)⟩
theorem Ch.trans {S S' : Nat → Prop} {a b c : World} (h : Ch S a b) (k : Ch S' b c) (hs : ∀ x, x < a.heap.size → S' x → S x) : Ch S a c :=
  ⟨k.os.trans h.os, k.tape.trans h.tape, k.output.trans h.output, Nat.le_trans h.size k.size,
   fun x hx hn => (k.keep x (Nat.lt_of_lt_of_le hx h.size) fun hS => hn (hs x hx hS)).trans (h.keep x hx hn)⟩
theorem Ch.trans' {S : Nat → Prop} {a b c : World} (h : Ch S a b) (k : Ch S b c) : Ch S a c := h.trans k fun _ _ hx => hx
theorem Ch.below {S : Nat → Prop} {w w' : World} {B : Nat} (h : Ch S w w') (hB : B ≤ w.heap.size) (hs : ∀ b, S b → B ≤ b) : RowKit.Below B w w' :=
  ⟨h.os, h.tape, h.output, h.size, fun b hb => h.keep b (by omega) fun hS => by have := hs b hS; omega⟩
theorem Ch.drew {S : Nat → Prop} (w : World) : Ch S w w.drew := ⟨rfl, rfl, rfl, Nat.le_refl _, fun _ _ _ => rfl⟩
@[simp] theorem blk_drew (w : World) (b : Nat) : blk w.drew b = blk w b := rfl
@[simp] theorem cellsAt_drew (w : World) (b : Nat) : cellsAt w.drew b = cellsAt w b := rfl
@[simp] theorem mapAt_drew (w : World) (b : Nat) : mapAt w.drew b = mapAt w b := rfl
@[simp] theorem heap_drew' (w : World) : w.drew.heap = w.heap := rfl
theorem Ch.blk {S : Nat → Prop} {w w' : World} (h : Ch S w w') {b : Nat} (hb : b < w.heap.size) (hn : ¬ S b) : blk w' b = Sv.blk w b := by
  unfold Sv.blk; rw [h.keep b hb hn]
theorem Ch.cells {S : Nat → Prop} {w w' : World} (h : Ch S w w') {b : Nat} (hb : b < w.heap.size) (hn : ¬ S b) : cellsAt w' b = cellsAt w b := by
  unfold cellsAt; rw [h.keep b hb hn]
theorem Ch.map {S : Nat → Prop} {w w' : World} (h : Ch S w w') {b : Nat} (hb : b < w.heap.size) (hn : ¬ S b) : mapAt w' b = mapAt w b := by
  unfold mapAt; rw [h.keep b hb hn]
theorem lt_of_heap {w : World} {b : Nat} {o : Obj} (h : w.heap[b]? = some o) : b < w.heap.size := (Array.getElem?_eq_some_iff.1 h).1
theorem blk_lt {w : World} {b : Nat} {cs : List Value} (h : blk w b = some cs) : b < w.heap.size := by
  unfold blk at h; split at h
  · exact lt_of_heap (by assumption)
  · cases h
theorem cells_lt {w : World} {b : Nat} {cs : List Value} (h : cellsAt w b = some cs) : b < w.heap.size := by
  unfold cellsAt at h; split at h
  · exact lt_of_heap (by assumption)
  · cases h
theorem map_lt {w : World} {b : Nat} {m : List MapEntry × Nat} (h : mapAt w b = some m) : b < w.heap.size := by
  unfold mapAt at h; split at h
  · exact lt_of_heap (by assumption)
  · cases h
theorem blk_cells {w : World} {b : Nat} {cs : List Value} (h : blk w b = some cs) : cellsAt w b = some cs := by
  unfold blk at h; unfold cellsAt
  cases hh : w.heap[b]? with
  | none => simp [hh] at h
  | some o =>
    cases o <;> simp [hh] at h ⊢
    exact h.2
theorem cell_of {w : World} {b : Nat} {cs : List Value} (h : cellsAt w b = some cs) (i : Nat) : w.cell? ⟨b, i, none⟩ = cs[i]? := by
  unfold cellsAt at h
  split at h
  · rename_i c t fz hh
    cases h
    simp [World.cell?, hh]
  · cases h
theorem cell_blk {w : World} {b : Nat} {cs : List Value} (h : blk w b = some cs) (i : Nat) : w.cell? ⟨b, i, none⟩ = cs[i]? := cell_of (blk_cells h) i
@[simp] theorem add_at (b o n : Nat) : Addr.add ⟨b, o, none⟩ n = ⟨b, o + n, none⟩ := by
  unfold Addr.add; split <;> simp_all
theorem frozen_blk {w : World} {b : Nat} {cs : List Value} (h : blk w b = some cs) {i : Nat} (hi : i < cs.length) : w.frozen? ⟨b, i, none⟩ = false := by
  unfold blk at h
  split at h
  · rename_i c t fz hh
    split at h
    · rename_i hc
      cases h
      obtain ⟨lo, hi'⟩ := fz
      have hi2 : i < c.size := by simpa using hi
      simp only [World.frozen?, hh]
      simp at hc ⊢
      omega
    · cases h
  · cases h
theorem setCell_blk {w : World} {b : Nat} {cs : List Value} (h : blk w b = some cs) (i : Nat) (v : Value) : blk (w.setCell ⟨b, i, none⟩ v) b = some (cs.set i v) := by
  unfold blk at h ⊢
  split at h
  · rename_i c t fz hh
    split at h
    · rename_i hc
      cases h
      simp only [World.setCell, Array.getElem?_modify, if_true, hh, Option.map_some]
      obtain ⟨l⟩ := c
      simp only [List.size_toArray] at hc
      simp [hc]
    · cases h
  · cases h
theorem setCell_ch (w : World) (b i : Nat) (v : Value) : Ch (· = b) w (w.setCell ⟨b, i, none⟩ v) :=
  ⟨rfl, rfl, rfl, by simp, fun k _ hn => by simp only [World.setCell, Array.getElem?_modify]; rw [if_neg (fun e => hn e.symm)]⟩
theorem st_blk {w : World} {b o : Nat} {v : Value} {K : World → Prop} {cs : List Value} (h : blk w b = some cs) (ho : o < cs.length)
    (hk : ∀ w', blk w' b = some (cs.set o v) → Ch (· = b) w w' → w'.heap.size = w.heap.size → K w') : st w ⟨b, o, none⟩ v K := by
  refine ⟨?_, frozen_blk h ho, hk _ (setCell_blk h o v) (setCell_ch w b o v) (by simp)⟩
  rw [cell_blk h]; simp [ho]
theorem alloc_blk (w : World) (cs : List Value) (t : TypeId) : blk (w.alloc (.cells cs.toArray t)) w.heap.size = some cs := by
  unfold blk
  rw [heap_alloc_new w (.cells cs.toArray t)]; simp
theorem alloc_ch (w : World) (o : Obj) : Ch (fun _ => False) w (w.alloc o) :=
  ⟨rfl, rfl, rfl, by simp, fun b hb _ => RowKit.Below.heap_alloc w o b hb⟩
theorem newB_blk {w : World} {cs : List Value} {t : TypeId} {K : Addr → World → Prop}
    (hk : ∀ w', blk w' w.heap.size = some cs → Ch (fun _ => False) w w' → w'.heap.size = w.heap.size + 1 → K ⟨w.heap.size, 0, none⟩ w') : newB w cs t K :=
  hk _ (alloc_blk w cs t) (alloc_ch w _) (by simp)

/-! ### Rows of cells: slices -/
/-- the slice (p, n elements of sz cells) reads as xs -/
def Rd (w : World) (p : Option Addr) (n sz : Nat) (xs : List Value) : Prop :=
  xs.length = n * sz ∧ (n * sz = 0 ∨ ∃ b o cs, p = some ⟨b, o, none⟩ ∧ cellsAt w b = some cs ∧ o + n * sz ≤ cs.length ∧ (cs.drop o).take (n * sz) = xs)
/-- .. and is owned, with its spare room: block b (none: it has no room at all) -/
def Ow (w : World) (p : Option Addr) (n c sz : Nat) (xs : List Value) (b : Option Nat) : Prop :=
  xs.length = n * sz ∧ n ≤ c ∧ ((b = none ∧ c * sz = 0) ∨ ∃ k o cs, b = some k ∧ p = some ⟨k, o, none⟩ ∧ blk w k = some cs ∧ o + c * sz ≤ cs.length ∧ (cs.drop o).take (n * sz) = xs)
theorem Ow.rd {w : World} {p : Option Addr} {n c sz : Nat} {xs : List Value} {b : Option Nat} (h : Ow w p n c sz xs b) : Rd w p n sz xs := by
  obtain ⟨h1, h2, h3⟩ := h
  refine ⟨h1, ?_⟩
  rcases h3 with ⟨_, h3⟩ | ⟨k, o, cs, _, hp, hb, hl, ht⟩
  · left
    have : n * sz ≤ c * sz := Nat.mul_le_mul_right _ h2
    omega
  · right
    have : n * sz ≤ c * sz := Nat.mul_le_mul_right _ h2
    exact ⟨k, o, cs, hp, blk_cells hb, by omega, ht⟩
theorem Rd.ch {S : Nat → Prop} {w w' : World} {p : Option Addr} {n sz : Nat} {xs : List Value} (h : Rd w p n sz xs) (hc : Ch S w w') (hn : ∀ a, p = some a → n * sz ≠ 0 → ¬ S a.block) : Rd w' p n sz xs := by
  obtain ⟨h1, h2⟩ := h
  refine ⟨h1, ?_⟩
  rcases h2 with h2 | ⟨b, o, cs, hp, hb, hl, ht⟩
  · exact .inl h2
  · by_cases h0 : n * sz = 0
    · exact .inl h0
    · exact .inr ⟨b, o, cs, hp, by rw [hc.cells (cells_lt hb) (hn _ hp h0)]; exact hb, hl, ht⟩
theorem Ow.ch {S : Nat → Prop} {w w' : World} {p : Option Addr} {n c sz : Nat} {xs : List Value} {b : Option Nat} (h : Ow w p n c sz xs b) (hc : Ch S w w') (hn : ∀ k, b = some k → ¬ S k) : Ow w' p n c sz xs b := by
  obtain ⟨h1, h2, h3⟩ := h
  refine ⟨h1, h2, ?_⟩
  rcases h3 with h3 | ⟨k, o, cs, hb, hp, hk, hl, ht⟩
  · exact .inl h3
  · exact .inr ⟨k, o, cs, hb, hp, by rw [hc.blk (blk_lt hk) (hn k hb)]; exact hk, hl, ht⟩
theorem Ow.lt {w : World} {p : Option Addr} {n c sz : Nat} {xs : List Value} {k : Nat} (h : Ow w p n c sz xs (some k)) : k < w.heap.size := by
  obtain ⟨_, _, h3⟩ := h
  rcases h3 with ⟨h3, _⟩ | ⟨k', o, cs, hb, hp, hk, _, _⟩
  · cases h3
  · cases hb; exact blk_lt hk
/-- a cell of a row that reads -/
theorem Rd.cell {w : World} {p : Option Addr} {n sz : Nat} {xs : List Value} (h : Rd w p n sz xs) {i : Nat} (hi : i < n * sz) : ∃ b o, p = some ⟨b, o, none⟩ ∧ w.cell? ⟨b, o + i, none⟩ = xs[i]? := by
  obtain ⟨h1, h2⟩ := h
  rcases h2 with h2 | ⟨b, o, cs, hp, hb, hl, ht⟩
  · omega
  · refine ⟨b, o, hp, ?_⟩
    rw [cell_of hb, ← ht, List.getElem?_take, if_pos hi, List.getElem?_drop]
theorem oneCell_of {v : Value} : v.oneCell' = oneV v := by cases v <;> rfl
theorem putSeg_nil (cs : List Value) (o : Nat) : putSeg cs o [] = cs := by simp [putSeg]
theorem putSeg_cons (cs : List Value) (o : Nat) (v : Value) (r : List Value) (h : o + (r.length + 1) ≤ cs.length) : putSeg (cs.set o v) (o + 1) r = putSeg cs o (v :: r) := by
  apply List.ext_getElem?
  intro k
  rw [get_putSeg (by simp; omega), get_putSeg (by simp; omega)]
  simp only [List.length_cons]
  by_cases h1 : k < o
  · rw [if_pos (by omega), if_pos h1, List.getElem?_set_ne (by omega)]
  · by_cases h2 : k = o
    · subst h2
      rw [if_pos (by omega), if_neg (by omega), if_pos (by omega), List.getElem?_set_self (by omega)]; simp
    · rw [if_neg (by omega : ¬ k < o + 1), if_neg h1]
      by_cases h3 : k < o + 1 + r.length
      · rw [if_pos h3, if_pos (by omega)]
        obtain ⟨m, hm⟩ : ∃ m, k - o = m + 1 := ⟨k - o - 1, by omega⟩
        rw [hm, List.getElem?_cons_succ]; congr 1; omega
      · rw [if_neg h3, if_neg (by omega), List.getElem?_set_ne (by omega)]
theorem setCells_blk : ∀ (vs : List Value) {w : World} {b o : Nat} {cs : List Value}, blk w b = some cs → o + vs.length ≤ cs.length →
    blk (w.setCells b o vs) b = some (putSeg cs o vs) ∧ Ch (· = b) w (w.setCells b o vs) ∧ (w.setCells b o vs).heap.size = w.heap.size
  | [], w, b, o, cs, h, _ => ⟨by rw [putSeg_nil]; exact h, Ch.refl _ _, rfl⟩
  | v :: r, w, b, o, cs, h, hl => by
    simp only [List.length_cons] at hl
    obtain ⟨h1, h2, h3⟩ := setCells_blk r (setCell_blk h o v) (o := o + 1) (by simp; omega)
    refine ⟨by rw [← putSeg_cons cs o v r (by omega)]; exact h1, (setCell_ch w b o v).trans' h2, by rw [World.setCells, h3]; simp⟩
/-- an append to what is owned -/
theorem append_run {P : Program} {T T2 ty e : TypeId} {inf : TypeInfo} {z : Value} (hT : P.underlying T = some (.slice e)) (hi : P.info? e = some inf) (hz : inf.zero = some z) (hzs : z.cells.size = inf.size)
    {w : World} {p : Option Addr} {n c m : Nat} {xs ys : List Value} {b : Option Nat} {x : Value} (ho : Ow w p n c inf.size xs b) (hs : Src P inf.size T2 x m ys w)
    (h1 : n + m ≤ 2 ^ 47) (h2 : (n + m) * inf.bytes ≤ 2 ^ 47) :
    ∃ p' c' w' b', (Builtin.append_ #[T, T2] ty #[.slice p n c, x]).run P w = .ok (.slice p' (n + m) c') w' ∧ Ow w' p' (n + m) c' inf.size (xs ++ ys) b' ∧
      ((n + m ≤ c ∧ b' = b ∧ c' = c ∧ p' = p ∧ Ch (fun k => b = some k) w w' ∧ w'.heap.size = w.heap.size) ∨ (c < n + m ∧ b' = some w.heap.size ∧ p' = some ⟨w.heap.size, 0, none⟩ ∧ Ch (fun _ => False) w w' ∧ w'.heap.size = w.heap.size + 1)) := by
  obtain ⟨hl, hnc, ho⟩ := ho
  have hlen : (xs ++ ys).length = (n + m) * inf.size := by rw [List.length_append, hl, hs.newsLen, Nat.add_mul]
  by_cases hroom : n + m ≤ c
  · rcases ho with ⟨rfl, h0⟩ | ⟨k, o, cs, rfl, rfl, hb, hle, ht⟩
    · -- no room at all: nothing is appended
      have hm0 : (n + m) * inf.size = 0 := by
        have : (n + m) * inf.size ≤ c * inf.size := Nat.mul_le_mul_right _ hroom
        omega
      have hy0 : ys = [] := List.eq_nil_of_length_eq_zero (by rw [hs.newsLen]; rw [Nat.add_mul] at hm0; omega)
      refine ⟨p, c, w, none, ?_, ⟨hlen, hroom, .inl ⟨rfl, h0⟩⟩, .inl ⟨hroom, rfl, rfl, rfl, Ch.refl _ _, rfl⟩⟩
      have hcells := hs.cells
      rw [hy0] at hcells
      rcases hs.kind with ⟨e', hk⟩ | hk <;> cases p <;> simp [Builtin.append_, run_underlying hT, run_underlying hk, sizeOf, typeInfo, hi, hs.len, hroom, hcells, storeCells]
    · have hfit : o + n * inf.size + ys.length ≤ cs.length := by
        have : (n + m) * inf.size ≤ c * inf.size := Nat.mul_le_mul_right _ hroom
        rw [Nat.add_mul] at this
        rw [hs.newsLen]; omega
      have hr := run_append_room_src (P := P) w T T2 ty e inf hT hi k o n c x m ys hs hroom
        (fun j hj => by rw [cell_blk hb]; simp; omega) (fun j hj => frozen_blk hb (by omega))
      obtain ⟨g1, g2, g3⟩ := setCells_blk ys hb hfit
      refine ⟨_, _, _, some k, hr, ⟨hlen, hroom, .inr ⟨k, o, _, rfl, rfl, g1, by rw [putSeg_length hfit]; exact hle, ?_⟩⟩, .inl ⟨hroom, rfl, rfl, rfl, g2.mono fun x _ hx => by rw [hx], g3⟩⟩
      apply List.ext_getElem?
      intro j
      rw [← hlen]
      by_cases hj : j < (xs ++ ys).length
      · rw [List.getElem?_take, if_pos hj, List.getElem?_drop, get_putSeg hfit]
        rw [List.length_append] at hj
        by_cases hj2 : j < xs.length
        · rw [if_pos (by omega), List.getElem?_append_left hj2, ← ht, List.getElem?_take, if_pos (by omega), List.getElem?_drop]
        · rw [if_neg (by omega), if_pos (by omega), List.getElem?_append_right (by omega)]
          congr 1; omega
      · rw [List.getElem?_eq_none (by rw [List.length_take]; omega), List.getElem?_eq_none (by omega)]
  · have hold : (Builtin.firstCells inf.size n (.slice p n c)).run P w.drew = .ok xs.toArray w.drew := by
      rcases ho with ⟨_, h0⟩ | ⟨k, o, cs, _, rfl, hb, hle, ht⟩
      · have hn0 : n * inf.size = 0 := by
          have : n * inf.size ≤ c * inf.size := Nat.mul_le_mul_right _ hnc
          omega
        have hx0 : xs = [] := List.eq_nil_of_length_eq_zero (by omega)
        subst hx0
        cases p with
        | none => simp [Builtin.firstCells]
        | some a => simp [Builtin.firstCells, hn0, loadCells, loadCellsFrom]
      · simp only [Builtin.firstCells]
        rw [← hl]
        refine run_loadCells_list (P := P) w.drew ⟨k, o, none⟩ xs fun j v hj => ?_
        have hjl : j < xs.length := (List.getElem?_eq_some_iff.1 hj).1
        rw [add_at, World.cell?_drew, cell_blk hb, ← hj, ← ht, List.getElem?_take, if_pos (by omega), List.getElem?_drop]
    have hr := run_append_grow_src (P := P) w T T2 ty e inf z hT hi hz p n c xs hold x m ys hs (by omega) (by omega) (growslice_fits (by omega) (by simpa using h2))
    have hge := grownCap_ge w (n + m) c e
    refine ⟨_, _, _, some w.heap.size, hr, ⟨hlen, hge, .inr ⟨w.heap.size, 0, (xs ++ ys) ++ (Builtin.zeroCells z.cells (grownCap w (n + m) c e - (n + m))).toList, rfl, rfl, ?_, ?_, ?_⟩⟩, .inr ⟨by omega, rfl, rfl, ?_, by simp⟩⟩
    · have := alloc_blk w.drew ((xs ++ ys) ++ (Builtin.zeroCells z.cells (grownCap w (n + m) c e - (n + m))).toList) e
      have e2 : ((xs ++ ys) ++ (Builtin.zeroCells z.cells (grownCap w (n + m) c e - (n + m))).toList).toArray = (xs ++ ys).toArray ++ Builtin.zeroCells z.cells (grownCap w (n + m) c e - (n + m)) := by
        apply Array.ext'; simp
      rw [e2] at this
      exact this
    · have hzc := size_zeroCells z.cells (grownCap w (n + m) c e - (n + m))
      have hmul : (grownCap w (n + m) c e - (n + m)) * inf.size + (n + m) * inf.size = grownCap w (n + m) c e * inf.size := by rw [← Nat.add_mul]; congr 1; omega
      rw [List.length_append, hlen, Array.length_toList, hzc, hzs]; omega
    · rw [List.drop_zero, ← hlen, List.take_left]
    · exact (Ch.drew w).trans' (alloc_ch w.drew _)
/-- the source of an append: a slice that reads -/
theorem Src.of_rd {P : Program} {sz : Nat} {T2 e : TypeId} (hk : P.underlying T2 = some (.slice e)) {w : World} {p : Option Addr} {m c : Nat} {ys : List Value} (h : Rd w p m sz ys) (hone : ∀ u ∈ ys, oneV u = true) : Src P sz T2 (.slice p m c) m ys w := by
  have cells : ∀ w' : World, (∀ a, w'.cell? a = w.cell? a) → (Builtin.firstCells sz m (.slice p m c)).run P w' = .ok ys.toArray w' := by
    intro w' hw
    obtain ⟨hl, h⟩ := h
    rcases h with h0 | ⟨b, o, cs, rfl, hb, hle, ht⟩
    · have hy : ys = [] := List.eq_nil_of_length_eq_zero (by omega)
      subst hy
      cases p with
      | none => simp [Builtin.firstCells]
      | some a => simp [Builtin.firstCells, h0, loadCells, loadCellsFrom]
    · simp only [Builtin.firstCells]
      rw [← hl]
      refine run_loadCells_list (P := P) w' ⟨b, o, none⟩ ys fun j v hj => ?_
      have hjl : j < ys.length := (List.getElem?_eq_some_iff.1 hj).1
      rw [add_at, hw, cell_of hb, ← hj, ← ht, List.getElem?_take, if_pos (by omega), List.getElem?_drop]
  exact ⟨.inl ⟨e, hk⟩, fun _ => rfl, cells w fun _ => rfl, cells w.drew fun _ => rfl, h.1, fun u hu => by rw [oneCell_of]; exact hone u hu⟩

/-! ### Bytes -/
def bytesV (l : List UInt8) : List Value := l.map fun b => Value.int .u8 (b.toNat : Int)
@[simp] theorem bytesV_length (l : List UInt8) : (bytesV l).length = l.length := by simp [bytesV]
theorem bytesV_one (l : List UInt8) : ∀ u ∈ bytesV l, oneV u = true := by
  intro u hu; obtain ⟨b, _, rfl⟩ := List.mem_map.1 hu; rfl
theorem bytesV_append (a b : List UInt8) : bytesV (a ++ b) = bytesV a ++ bytesV b := by simp [bytesV]
theorem bytesV_take (a : List UInt8) (n : Nat) : bytesV (a.take n) = (bytesV a).take n := by simp [bytesV, List.map_take]
theorem bytesV_inj {a b : List UInt8} (h : bytesV a = bytesV b) : a = b := by
  induction a generalizing b with
  | nil => cases b <;> simp [bytesV] at h ⊢
  | cons x a ih =>
    cases b with
    | nil => simp [bytesV] at h
    | cons y b =>
      simp only [bytesV, List.map_cons, List.cons.injEq, Value.int.injEq, true_and] at h
      obtain ⟨h1, h2⟩ := h
      have hxy : x = y := UInt8.toNat_inj.1 (by omega)
      rw [ih h2, hxy]
theorem toString_run {P : Program} {s d e : TypeId} (hs : P.underlying s = some (.slice e)) (he : P.underlying e = some (.int .u8)) (hd : P.underlying d = some .string) {w : World} {p : Option Addr} {n c : Nat} {l : List UInt8} (h : Rd w p n 1 (bytesV l)) :
    (convert s d (.slice p n c)).run P w = .ok (.string ⟨l.toArray⟩) w := by
  obtain ⟨hl, h⟩ := h
  have hn : n = l.length := by simpa using hl.symm
  subst hn
  cases p with
  | none =>
    have hl0 : l = [] := by
      rcases h with h | ⟨b, o, cs, hp, _⟩
      · exact List.eq_nil_of_length_eq_zero (by omega)
      · cases hp
    subst hl0
    exact run_convert_bytes_nil w s e hs he 0 c d hd
  | some a =>
    refine run_convert_bytes_back (P := P) w s d e a c l hs he hd fun j hj => ?_
    rcases h with h | ⟨b, o, cs, hp, hb, hle, ht⟩
    · omega
    · cases hp
      have : (bytesV l)[j]? = some (.int .u8 (l[j].toNat : Int)) := by simp [bytesV, hj]
      rw [add_at, cell_of hb, ← this, ← ht, List.getElem?_take, if_pos (by omega), List.getElem?_drop]
end Go.Sv
