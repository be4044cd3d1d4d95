/-
  Memory, block by block: what a block holds, what a change leaves alone; loads, stores, new blocks, append, copy in these words. Over every program. Maps in memory: what a map block holds, as a list of pairs; making, looking up, laying in, taking away, ranging. Over every program. Small laws over every program: wrapping that changes nothing, facts of a type, append in these words, a mutex, a call met by a contract. Rows of structs in memory, read by index; small steps over local boxes. Over every program. Heaps, plain: what up and down do to a row, over any order.
-/
import Derived.Test.YtipbbjnmpnfhpaaGreatDoorPr1
import Derived.Laws.Cells
import Derived.Below
import Derived.Deep.AppendSrc
import Derived.Laws.IdiomStrings
import Derived.Laws.IdiomCopy
import Derived.MapKept
import Derived.Maps.RangeRun
import Derived.Conc.MuLone
namespace Go.Sv
open Go

/-- the cells of a block -/
def cellsAt (w : World) (b : Nat) : Option (List Value) :=
  match w.heap[b]? with
  | some (.cells c _ _) => some c.toList
  | _ => none
/-- the cells of a block of which no cell is frozen -/
def blk (w : World) (b : Nat) : Option (List Value) :=
  match w.heap[b]? with
  | some (.cells c _ fz) => if fz.2 ≤ fz.1 ∨ c.size ≤ fz.1 then some c.toList else none
  | _ => none
def mapAt (w : World) (r : Nat) : Option (List MapEntry × Nat) :=
  match w.heap[r]? with
  | some (.map es clock) => some (es.toList, clock)
  | _ => none
/-- from w to w' nothing that was there has changed but blocks of S -/
structure Ch (S : Nat → Prop) (w w' : World) : Prop where
  os : w'.os = w.os
  tape : w'.tape = w.tape
  output : w'.output = w.output
  size : w.heap.size ≤ w'.heap.size
  keep : ∀ b, b < w.heap.size → ¬ S b → w'.heap[b]? = w.heap[b]?
theorem Ch.refl (S : Nat → Prop) (w : World) : Ch S w w := ⟨rfl, rfl, rfl, Nat.le_refl _, fun _ _ _ => rfl⟩
theorem Ch.mono {S S' : Nat → Prop} {w w' : World} (h : Ch S w w') (hs : ∀ b, b < w.heap.size → S b → S' b) : Ch S' w w' :=
  ⟨h.os, h.tape, h.output, h.size, fun b hb hn => h.keep b hb fun hS => hn (hs b hb hS)⟩
theorem Ch.trans {S S' : Nat → Prop} {a b c : World} (h : Ch S a b) (k : Ch S' b c) (hs : ∀ x, x < a.heap.size → S' x → S x) : Ch S a c :=
  ⟨k.os.trans h.os, k.tape.trans h.tape, k.output.trans h.output, Nat.le_trans h.size k.size,
   fun x hx hn => (k.keep x (Nat.lt_of_lt_of_le hx h.size) fun hS => hn (hs x hx hS)).trans (h.keep x hx hn)⟩
theorem Ch.trans' {S : Nat → Prop} {a b c : World} (h : Ch S a b) (k : Ch S b c) : Ch S a c := h.trans k fun _ _ hx => hx
theorem Ch.below {S : Nat → Prop} {w w' : World} {B : Nat} (h : Ch S w w') (hB : B ≤ w.heap.size) (hs : ∀ b, S b → B ≤ b) : RowKit.Below B w w' :=
  ⟨h.os, h.tape, h.output, h.size, fun b hb => h.keep b (by omega) fun hS => by have := hs b hS; omega⟩
theorem Ch.drew {S : Nat → Prop} (w : World) : Ch S w w.drew := ⟨rfl, rfl, rfl, Nat.le_refl _, fun _ _ _ => rfl⟩
@[simp] theorem blk_drew (w : World) (b : Nat) : blk w.drew b = blk w b := rfl
@[simp] theorem cellsAt_drew (w : World) (b : Nat) : cellsAt w.drew b = cellsAt w b := rfl
@[simp] theorem mapAt_drew (w : World) (b : Nat) : mapAt w.drew b = mapAt w b := rfl
@[simp] theorem heap_drew' (w : World) : w.drew.heap = w.heap := rfl
theorem Ch.blk {S : Nat → Prop} {w w' : World} (h : Ch S w w') {b : Nat} (hb : b < w.heap.size) (hn : ¬ S b) : blk w' b = Sv.blk w b := by
  unfold Sv.blk; rw [h.keep b hb hn]
theorem Ch.cells {S : Nat → Prop} {w w' : World} (h : Ch S w w') {b : Nat} (hb : b < w.heap.size) (hn : ¬ S b) : cellsAt w' b = cellsAt w b := by
  unfold cellsAt; rw [h.keep b hb hn]
theorem Ch.map {S : Nat → Prop} {w w' : World} (h : Ch S w w') {b : Nat} (hb : b < w.heap.size) (hn : ¬ S b) : mapAt w' b = mapAt w b := by
  unfold mapAt; rw [h.keep b hb hn]
theorem lt_of_heap {w : World} {b : Nat} {o : Obj} (h : w.heap[b]? = some o) : b < w.heap.size := (Array.getElem?_eq_some_iff.1 h).1
theorem blk_lt {w : World} {b : Nat} {cs : List Value} (h : blk w b = some cs) : b < w.heap.size := by
  unfold blk at h; split at h
  · exact lt_of_heap (by assumption)
  · cases h
theorem cells_lt {w : World} {b : Nat} {cs : List Value} (h : cellsAt w b = some cs) : b < w.heap.size := by
  unfold cellsAt at h; split at h
  · exact lt_of_heap (by assumption)
  · cases h
theorem blk_cells {w : World} {b : Nat} {cs : List Value} (h : blk w b = some cs) : cellsAt w b = some cs := by
  unfold blk at h; unfold cellsAt
  cases hh : w.heap[b]? with
  | none => simp [hh] at h
  | some o =>
    cases o <;> simp [hh] at h ⊢
    exact h.2
theorem cell_of {w : World} {b : Nat} {cs : List Value} (h : cellsAt w b = some cs) (i : Nat) : w.cell? ⟨b, i, none⟩ = cs[i]? := by
  unfold cellsAt at h
  split at h
  · rename_i c t fz hh
    cases h
    simp [World.cell?, hh]
  · cases h
theorem cell_blk {w : World} {b : Nat} {cs : List Value} (h : blk w b = some cs) (i : Nat) : w.cell? ⟨b, i, none⟩ = cs[i]? := cell_of (blk_cells h) i
@[simp] theorem add_at (b o n : Nat) : Addr.add ⟨b, o, none⟩ n = ⟨b, o + n, none⟩ := by
  unfold Addr.add; split <;> simp_all
theorem frozen_blk {w : World} {b : Nat} {cs : List Value} (h : blk w b = some cs) {i : Nat} (hi : i < cs.length) : w.frozen? ⟨b, i, none⟩ = false := by
  unfold blk at h
  split at h
  · rename_i c t fz hh
    split at h
    · rename_i hc
      cases h
      obtain ⟨lo, hi'⟩ := fz
      have hi2 : i < c.size := by simpa using hi
      simp only [World.frozen?, hh]
      simp at hc ⊢
      omega
    · cases h
  · cases h
theorem setCell_blk {w : World} {b : Nat} {cs : List Value} (h : blk w b = some cs) (i : Nat) (v : Value) : blk (w.setCell ⟨b, i, none⟩ v) b = some (cs.set i v) := by
  unfold blk at h ⊢
  split at h
  · rename_i c t fz hh
    split at h
    · rename_i hc
      cases h
      simp only [World.setCell, Array.getElem?_modify, if_true, hh, Option.map_some]
      obtain ⟨l⟩ := c
      simp only [List.size_toArray] at hc
      simp [hc]
    · cases h
  · cases h
theorem setCell_ch (w : World) (b i : Nat) (v : Value) : Ch (· = b) w (w.setCell ⟨b, i, none⟩ v) :=
  ⟨rfl, rfl, rfl, by simp, fun k _ hn => by simp only [World.setCell, Array.getElem?_modify]; rw [if_neg (fun e => hn e.symm)]⟩
theorem st_blk {w : World} {b o : Nat} {v : Value} {K : World → Prop} {cs : List Value} (h : blk w b = some cs) (ho : o < cs.length)
    (hk : ∀ w', blk w' b = some (cs.set o v) → Ch (· = b) w w' → w'.heap.size = w.heap.size → K w') : st w ⟨b, o, none⟩ v K := by
  refine ⟨?_, frozen_blk h ho, hk _ (setCell_blk h o v) (setCell_ch w b o v) (by simp)⟩
  rw [cell_blk h]; simp [ho]
theorem alloc_blk (w : World) (cs : List Value) (t : TypeId) : blk (w.alloc (.cells cs.toArray t)) w.heap.size = some cs := by
  unfold blk
  rw [heap_alloc_new w (.cells cs.toArray t)]; simp
theorem alloc_ch (w : World) (o : Obj) : Ch (fun _ => False) w (w.alloc o) :=
  ⟨rfl, rfl, rfl, by simp, fun b hb _ => RowKit.Below.heap_alloc w o b hb⟩
theorem newB_blk {w : World} {cs : List Value} {t : TypeId} {K : Addr → World → Prop}
    (hk : ∀ w', blk w' w.heap.size = some cs → Ch (fun _ => False) w w' → w'.heap.size = w.heap.size + 1 → K ⟨w.heap.size, 0, none⟩ w') : newB w cs t K :=
  hk _ (alloc_blk w cs t) (alloc_ch w _) (by simp)

/-! ### Rows of cells: slices -/
/-- the slice (p, n elements of sz cells) reads as xs -/
def Rd (w : World) (p : Option Addr) (n sz : Nat) (xs : List Value) : Prop :=
  xs.length = n * sz ∧ (n * sz = 0 ∨ ∃ b o cs, p = some ⟨b, o, none⟩ ∧ cellsAt w b = some cs ∧ o + n * sz ≤ cs.length ∧ (cs.drop o).take (n * sz) = xs)
/-- .. and is owned, with its spare room: block b (none: it has no room at all) -/
def Ow (w : World) (p : Option Addr) (n c sz : Nat) (xs : List Value) (b : Option Nat) : Prop :=
  xs.length = n * sz ∧ n ≤ c ∧ ((b = none ∧ c * sz = 0) ∨ ∃ k o cs, b = some k ∧ p = some ⟨k, o, none⟩ ∧ blk w k = some cs ∧ o + c * sz ≤ cs.length ∧ (cs.drop o).take (n * sz) = xs)
theorem Ow.rd {w : World} {p : Option Addr} {n c sz : Nat} {xs : List Value} {b : Option Nat} (h : Ow w p n c sz xs b) : Rd w p n sz xs := by
  obtain ⟨h1, h2, h3⟩ := h
  refine ⟨h1, ?_⟩
  rcases h3 with ⟨_, h3⟩ | ⟨k, o, cs, _, hp, hb, hl, ht⟩
  · left
    have : n * sz ≤ c * sz := Nat.mul_le_mul_right _ h2
    omega
  · right
    have : n * sz ≤ c * sz := Nat.mul_le_mul_right _ h2
    exact ⟨k, o, cs, hp, blk_cells hb, by omega, ht⟩
theorem Rd.ch {S : Nat → Prop} {w w' : World} {p : Option Addr} {n sz : Nat} {xs : List Value} (h : Rd w p n sz xs) (hc : Ch S w w') (hn : ∀ a, p = some a → n * sz ≠ 0 → ¬ S a.block) : Rd w' p n sz xs := by
  obtain ⟨h1, h2⟩ := h
  refine ⟨h1, ?_⟩
  rcases h2 with h2 | ⟨b, o, cs, hp, hb, hl, ht⟩
  · exact .inl h2
  · by_cases h0 : n * sz = 0
    · exact .inl h0
    · exact .inr ⟨b, o, cs, hp, by rw [hc.cells (cells_lt hb) (hn _ hp h0)]; exact hb, hl, ht⟩
theorem Ow.ch {S : Nat → Prop} {w w' : World} {p : Option Addr} {n c sz : Nat} {xs : List Value} {b : Option Nat} (h : Ow w p n c sz xs b) (hc : Ch S w w') (hn : ∀ k, b = some k → ¬ S k) : Ow w' p n c sz xs b := by
  obtain ⟨h1, h2, h3⟩ := h
  refine ⟨h1, h2, ?_⟩
  rcases h3 with h3 | ⟨k, o, cs, hb, hp, hk, hl, ht⟩
  · exact .inl h3
  · exact .inr ⟨k, o, cs, hb, hp, by rw [hc.blk (blk_lt hk) (hn k hb)]; exact hk, hl, ht⟩
theorem Ow.lt {w : World} {p : Option Addr} {n c sz : Nat} {xs : List Value} {k : Nat} (h : Ow w p n c sz xs (some k)) : k < w.heap.size := by
  obtain ⟨_, _, h3⟩ := h
  rcases h3 with ⟨h3, _⟩ | ⟨k', o, cs, hb, hp, hk, _, _⟩
  · cases h3
  · cases hb; exact blk_lt hk
/-- a cell of a row that reads -/
theorem Rd.cell {w : World} {p : Option Addr} {n sz : Nat} {xs : List Value} (h : Rd w p n sz xs) {i : Nat} (hi : i < n * sz) : ∃ b o, p = some ⟨b, o, none⟩ ∧ w.cell? ⟨b, o + i, none⟩ = xs[i]? := by
  obtain ⟨h1, h2⟩ := h
  rcases h2 with h2 | ⟨b, o, cs, hp, hb, hl, ht⟩
  · omega
  · refine ⟨b, o, hp, ?_⟩
    rw [cell_of hb, ← ht, List.getElem?_take, if_pos hi, List.getElem?_drop]
theorem oneCell_of {v : Value} : v.oneCell' = oneV v := by cases v <;> rfl
theorem putSeg_nil (cs : List Value) (o : Nat) : putSeg cs o [] = cs := by simp [putSeg]
theorem putSeg_cons (cs : List Value) (o : Nat) (v : Value) (r : List Value) (h : o + (r.length + 1) ≤ cs.length) : putSeg (cs.set o v) (o + 1) r = putSeg cs o (v :: r) := by
  apply List.ext_getElem?
  intro k
  rw [get_putSeg (by simp; omega), get_putSeg (by simp; omega)]
  simp only [List.length_cons]
  by_cases h1 : k < o
  · rw [if_pos (by omega), if_pos h1, List.getElem?_set_ne (by omega)]
  · by_cases h2 : k = o
    · subst h2
      rw [if_pos (by omega), if_neg (by omega), if_pos (by omega), List.getElem?_set_self (by omega)]; simp
    · rw [if_neg (by omega : ¬ k < o + 1), if_neg h1]
      by_cases h3 : k < o + 1 + r.length
      · rw [if_pos h3, if_pos (by omega)]
        obtain ⟨m, hm⟩ : ∃ m, k - o = m + 1 := ⟨k - o - 1, by omega⟩
        rw [hm, List.getElem?_cons_succ]; congr 1; omega
      · rw [if_neg h3, if_neg (by omega), List.getElem?_set_ne (by omega)]
theorem setCells_blk : ∀ (vs : List Value) {w : World} {b o : Nat} {cs : List Value}, blk w b = some cs → o + vs.length ≤ cs.length →
    blk (w.setCells b o vs) b = some (putSeg cs o vs) ∧ Ch (· = b) w (w.setCells b o vs) ∧ (w.setCells b o vs).heap.size = w.heap.size
  | [], w, b, o, cs, h, _ => ⟨by rw [putSeg_nil]; exact h, Ch.refl _ _, rfl⟩
  | v :: r, w, b, o, cs, h, hl => by
    simp only [List.length_cons] at hl
    obtain ⟨h1, h2, h3⟩ := setCells_blk r (setCell_blk h o v) (o := o + 1) (by simp; omega)
    refine ⟨by rw [← putSeg_cons cs o v r (by omega)]; exact h1, (setCell_ch w b o v).trans' h2, by rw [World.setCells, h3]; simp⟩
/-- an append to what is owned -/
theorem append_run {P : Program} {T T2 ty e : TypeId} {inf : TypeInfo} {z : Value} (hT : P.underlying T = some (.slice e)) (hi : P.info? e = some inf) (hz : inf.zero = some z) (hzs : z.cells.size = inf.size)
    {w : World} {p : Option Addr} {n c m : Nat} {xs ys : List Value} {b : Option Nat} {x : Value} (ho : Ow w p n c inf.size xs b) (hs : Src P inf.size T2 x m ys w)
    (h1 : n + m ≤ 2 ^ 47) (h2 : (n + m) * inf.bytes ≤ 2 ^ 47) :
    ∃ p' c' w' b', (Builtin.append_ #[T, T2] ty #[.slice p n c, x]).run P w = .ok (.slice p' (n + m) c') w' ∧ Ow w' p' (n + m) c' inf.size (xs ++ ys) b' ∧
      ((n + m ≤ c ∧ b' = b ∧ c' = c ∧ p' = p ∧ Ch (fun k => b = some k) w w' ∧ w'.heap.size = w.heap.size) ∨ (c < n + m ∧ b' = some w.heap.size ∧ p' = some ⟨w.heap.size, 0, none⟩ ∧ Ch (fun _ => False) w w' ∧ w'.heap.size = w.heap.size + 1)) := by
  obtain ⟨hl, hnc, ho⟩ := ho
  have hlen : (xs ++ ys).length = (n + m) * inf.size := by rw [List.length_append, hl, hs.newsLen, Nat.add_mul]
  by_cases hroom : n + m ≤ c
  · rcases ho with ⟨rfl, h0⟩ | ⟨k, o, cs, rfl, rfl, hb, hle, ht⟩
    · -- no room at all: nothing is appended
      have hm0 : (n + m) * inf.size = 0 := by
        have : (n + m) * inf.size ≤ c * inf.size := Nat.mul_le_mul_right _ hroom
        omega
      have hy0 : ys = [] := List.eq_nil_of_length_eq_zero (by rw [hs.newsLen]; rw [Nat.add_mul] at hm0; omega)
      refine ⟨p, c, w, none, ?_, ⟨hlen, hroom, .inl ⟨rfl, h0⟩⟩, .inl ⟨hroom, rfl, rfl, rfl, Ch.refl _ _, rfl⟩⟩
      have hcells := hs.cells
      rw [hy0] at hcells
      rcases hs.kind with ⟨e', hk⟩ | hk <;> cases p <;> simp [Builtin.append_, run_underlying hT, run_underlying hk, sizeOf, typeInfo, hi, hs.len, hroom, hcells, storeCells]
    · have hfit : o + n * inf.size + ys.length ≤ cs.length := by
        have : (n + m) * inf.size ≤ c * inf.size := Nat.mul_le_mul_right _ hroom
        rw [Nat.add_mul] at this
        rw [hs.newsLen]; omega
      have hr := run_append_room_src (P := P) w T T2 ty e inf hT hi k o n c x m ys hs hroom
        (fun j hj => by rw [cell_blk hb]; simp; omega) (fun j hj => frozen_blk hb (by omega))
      obtain ⟨g1, g2, g3⟩ := setCells_blk ys hb hfit
      refine ⟨_, _, _, some k, hr, ⟨hlen, hroom, .inr ⟨k, o, _, rfl, rfl, g1, by rw [putSeg_length hfit]; exact hle, ?_⟩⟩, .inl ⟨hroom, rfl, rfl, rfl, g2.mono fun x _ hx => by rw [hx], g3⟩⟩
      apply List.ext_getElem?
      intro j
      rw [← hlen]
      by_cases hj : j < (xs ++ ys).length
      · rw [List.getElem?_take, if_pos hj, List.getElem?_drop, get_putSeg hfit]
        rw [List.length_append] at hj
        by_cases hj2 : j < xs.length
        · rw [if_pos (by omega), List.getElem?_append_left hj2, ← ht, List.getElem?_take, if_pos (by omega), List.getElem?_drop]
        · rw [if_neg (by omega), if_pos (by omega), List.getElem?_append_right (by omega)]
          congr 1; omega
      · rw [List.getElem?_eq_none (by rw [List.length_take]; omega), List.getElem?_eq_none (by omega)]
  · have hold : (Builtin.firstCells inf.size n (.slice p n c)).run P w.drew = .ok xs.toArray w.drew := by
      rcases ho with ⟨_, h0⟩ | ⟨k, o, cs, _, rfl, hb, hle, ht⟩
      · have hn0 : n * inf.size = 0 := by
          have : n * inf.size ≤ c * inf.size := Nat.mul_le_mul_right _ hnc
          omega
        have hx0 : xs = [] := List.eq_nil_of_length_eq_zero (by omega)
        subst hx0
        cases p with
        | none => simp [Builtin.firstCells]
        | some a => simp [Builtin.firstCells, hn0, loadCells, loadCellsFrom]
      · simp only [Builtin.firstCells]
        rw [← hl]
        refine run_loadCells_list (P := P) w.drew ⟨k, o, none⟩ xs fun j v hj => ?_
        have hjl : j < xs.length := (List.getElem?_eq_some_iff.1 hj).1
        rw [add_at, World.cell?_drew, cell_blk hb, ← hj, ← ht, List.getElem?_take, if_pos (by omega), List.getElem?_drop]
    have hr := run_append_grow_src (P := P) w T T2 ty e inf z hT hi hz p n c xs hold x m ys hs (by omega) (by omega) (growslice_fits (by omega) (by simpa using h2))
    have hge := grownCap_ge w (n + m) c e
    refine ⟨_, _, _, some w.heap.size, hr, ⟨hlen, hge, .inr ⟨w.heap.size, 0, (xs ++ ys) ++ (Builtin.zeroCells z.cells (grownCap w (n + m) c e - (n + m))).toList, rfl, rfl, ?_, ?_, ?_⟩⟩, .inr ⟨by omega, rfl, rfl, ?_, by simp⟩⟩
    · have := alloc_blk w.drew ((xs ++ ys) ++ (Builtin.zeroCells z.cells (grownCap w (n + m) c e - (n + m))).toList) e
      have e2 : ((xs ++ ys) ++ (Builtin.zeroCells z.cells (grownCap w (n + m) c e - (n + m))).toList).toArray = (xs ++ ys).toArray ++ Builtin.zeroCells z.cells (grownCap w (n + m) c e - (n + m)) := by
        apply Array.ext'; simp
      rw [e2] at this
      exact this
    · have hzc := size_zeroCells z.cells (grownCap w (n + m) c e - (n + m))
      have hmul : (grownCap w (n + m) c e - (n + m)) * inf.size + (n + m) * inf.size = grownCap w (n + m) c e * inf.size := by rw [← Nat.add_mul]; congr 1; omega
      rw [List.length_append, hlen, Array.length_toList, hzc, hzs]; omega
    · rw [List.drop_zero, ← hlen, List.take_left]
    · exact (Ch.drew w).trans' (alloc_ch w.drew _)
/-- the source of an append: a slice that reads -/
theorem Src.of_rd {P : Program} {sz : Nat} {T2 e : TypeId} (hk : P.underlying T2 = some (.slice e)) {w : World} {p : Option Addr} {m c : Nat} {ys : List Value} (h : Rd w p m sz ys) (hone : ∀ u ∈ ys, oneV u = true) : Src P sz T2 (.slice p m c) m ys w := by
  have cells : ∀ w' : World, (∀ a, w'.cell? a = w.cell? a) → (Builtin.firstCells sz m (.slice p m c)).run P w' = .ok ys.toArray w' := by
    intro w' hw
    obtain ⟨hl, h⟩ := h
    rcases h with h0 | ⟨b, o, cs, rfl, hb, hle, ht⟩
    · have hy : ys = [] := List.eq_nil_of_length_eq_zero (by omega)
      subst hy
      cases p with
      | none => simp [Builtin.firstCells]
      | some a => simp [Builtin.firstCells, h0, loadCells, loadCellsFrom]
    · simp only [Builtin.firstCells]
      rw [← hl]
      refine run_loadCells_list (P := P) w' ⟨b, o, none⟩ ys fun j v hj => ?_
      have hjl : j < ys.length := (List.getElem?_eq_some_iff.1 hj).1
      rw [add_at, hw, cell_of hb, ← hj, ← ht, List.getElem?_take, if_pos (by omega), List.getElem?_drop]
  exact ⟨.inl ⟨e, hk⟩, fun _ => rfl, cells w fun _ => rfl, cells w.drew fun _ => rfl, h.1, fun u hu => by rw [oneCell_of]; exact hone u hu⟩

/-! ### Bytes -/
def bytesV (l : List UInt8) : List Value := l.map fun b => Value.int .u8 (b.toNat : Int)
@[simp] theorem bytesV_length (l : List UInt8) : (bytesV l).length = l.length := by simp [bytesV]
theorem bytesV_one (l : List UInt8) : ∀ u ∈ bytesV l, oneV u = true := by
  intro u hu; obtain ⟨b, _, rfl⟩ := List.mem_map.1 hu; rfl
theorem bytesV_append (a b : List UInt8) : bytesV (a ++ b) = bytesV a ++ bytesV b := by simp [bytesV]
theorem bytesV_take (a : List UInt8) (n : Nat) : bytesV (a.take n) = (bytesV a).take n := by simp [bytesV, List.map_take]
theorem toString_run {P : Program} {s d e : TypeId} (hs : P.underlying s = some (.slice e)) (he : P.underlying e = some (.int .u8)) (hd : P.underlying d = some .string) {w : World} {p : Option Addr} {n c : Nat} {l : List UInt8} (h : Rd w p n 1 (bytesV l)) :
    (convert s d (.slice p n c)).run P w = .ok (.string ⟨l.toArray⟩) w := by
  obtain ⟨hl, h⟩ := h
  have hn : n = l.length := by simpa using hl.symm
  subst hn
  cases p with
  | none =>
    have hl0 : l = [] := by
      rcases h with h | ⟨b, o, cs, hp, _⟩
      · exact List.eq_nil_of_length_eq_zero (by omega)
      · cases hp
    subst hl0
    exact run_convert_bytes_nil w s e hs he 0 c d hd
  | some a =>
    refine run_convert_bytes_back (P := P) w s d e a c l hs he hd fun j hj => ?_
    rcases h with h | ⟨b, o, cs, hp, hb, hle, ht⟩
    · omega
    · cases hp
      have : (bytesV l)[j]? = some (.int .u8 (l[j].toNat : Int)) := by simp [bytesV, hj]
      rw [add_at, cell_of hb, ← this, ← ht, List.getElem?_take, if_pos (by omega), List.getElem?_drop]
end Go.Sv
namespace Go.Sv
open Go MapKept

/-- map block r holds the pairs m, in this order; its keys are of the kind d -/
def Mp (d : TypeDesc) (w : World) (r : Nat) (m : List (Value × Value)) : Prop :=
  ∃ es clock, w.heap[r]? = some (.map es clock) ∧ Stamped es clock ∧ (∀ x ∈ es.toList, IsKey d x.key) ∧ es.toList.map (fun e => (e.key, e.val)) = m
theorem Mp.lt {d : TypeDesc} {w : World} {r : Nat} {m : List (Value × Value)} (h : Mp d w r m) : r < w.heap.size := by
  obtain ⟨es, c, hb, _⟩ := h; exact lt_of_heap hb
theorem Mp.ch {S : Nat → Prop} {d : TypeDesc} {w w' : World} {r : Nat} {m : List (Value × Value)} (h : Mp d w r m) (hc : Ch S w w') (hn : ¬ S r) : Mp d w' r m := by
  have hlt := h.lt
  obtain ⟨es, c, hb, h⟩ := h
  exact ⟨es, c, by rw [hc.keep r hlt hn]; exact hb, h⟩
@[simp] theorem Mp_drew (d : TypeDesc) (w : World) (r : Nat) (m : List (Value × Value)) : Mp d w.drew r m ↔ Mp d w r m := Iff.rfl
theorem Mp.nodup {d : TypeDesc} {w : World} {r : Nat} {m : List (Value × Value)} (h : Mp d w r m) : (m.map (·.1)).Nodup := by
  obtain ⟨es, c, _, hs, _, rfl⟩ := h
  have := hs.2.2
  simpa [List.map_map, Function.comp_def] using this
theorem Mp.keys {d : TypeDesc} {w : World} {r : Nat} {m : List (Value × Value)} (h : Mp d w r m) : ∀ p ∈ m, IsKey d p.1 := by
  obtain ⟨es, c, _, _, hk, rfl⟩ := h
  intro p hp
  obtain ⟨e, he, rfl⟩ := List.mem_map.1 hp
  exact hk e he
theorem makeMap_run (P : Program) (t : TypeId) (d : TypeDesc) (w : World) : ∃ w', (Instr.makeMap t none).run P w = .ok (.map (some w.heap.size)) w' ∧ Mp d w' w.heap.size [] ∧ Ch (fun _ => False) w w' ∧ w'.heap.size = w.heap.size + 1 :=
  ⟨w.alloc (.map #[] 0), by simp [Instr.makeMap, newObj, Result.andThen, Sem.run], ⟨#[], 0, heap_alloc_new w _, stamped_empty 0, by simp, rfl⟩, alloc_ch w _, by simp⟩
/-- the finding of a key -/
theorem Mp.find {d : TypeDesc} {P : Program} {w : World} {r : Nat} {es : Array MapEntry} {k : Value} (hks : ∀ x ∈ es.toList, IsKey d x.key) (hk : IsKey d k) {m : List (Value × Value)} (hm : es.toList.map (fun e => (e.key, e.val)) = m) :
    (Instr.findNow d k es.toList 0 = some none ∧ (∀ x ∈ es.toList, x.key ≠ k) ∧ ∀ p ∈ m, p.1 ≠ k) ∨
    ∃ j e, Instr.findNow d k es.toList 0 = some (some (j, e.val)) ∧ es.toList[j]? = some e ∧ e.key = k ∧ m[j]? = some (k, e.val) := by
  subst hm
  rcases findNow_spec hk es.toList 0 hks with ⟨h1, h2⟩ | ⟨j, e, h1, h2, h3⟩
  · refine .inl ⟨h1, h2, fun p hp => ?_⟩
    obtain ⟨x, hx, rfl⟩ := List.mem_map.1 hp
    exact h2 x hx
  · refine .inr ⟨j, e, by simpa using h1, h2, h3, ?_⟩
    rw [List.getElem?_map, h2]; simp [h3]
theorem lookup_run {P : Program} {t kt et : TypeId} {d : TypeDesc} (ht : P.underlying t = some (.map kt et)) (hd : P.underlying kt = some d) {z : Value} {w : World} (hz : (zeroValue et).run P w = .ok z w) {r : Nat} {m : List (Value × Value)} (h : Mp d w r m) {k : Value} (hk : IsKey d k) :
    (∃ v, (k, v) ∈ m ∧ (Instr.lookup t (.map (some r)) k false).run P w = .ok v w ∧ (Instr.lookup t (.map (some r)) k true).run P w = .ok (.tuple #[v, .bool true]) w) ∨
    ((∀ p ∈ m, p.1 ≠ k) ∧ (Instr.lookup t (.map (some r)) k false).run P w = .ok z w ∧ (Instr.lookup t (.map (some r)) k true).run P w = .ok (.tuple #[z, .bool false]) w) := by
  obtain ⟨es, c, hb, hs, hks, hm⟩ := h
  rcases Mp.find (P := P) (w := w) (r := r) hks hk hm with ⟨h1, h2, h3⟩ | ⟨j, e, h1, h2, h3, h4⟩
  · right
    refine ⟨h3, ?_, ?_⟩ <;> simp [Instr.lookup, run_underlying ht, MapKept.run_getObj_map hb, run_checkKey hd hk, run_findKey hd h1, hz, Result.andThen]
  · left
    refine ⟨e.val, List.mem_of_getElem? h4, ?_, ?_⟩ <;> simp [Instr.lookup, run_underlying ht, MapKept.run_getObj_map hb, run_checkKey hd hk, run_findKey hd h1, Result.andThen]
theorem setIf_ch {w : World} {r : Nat} (o' : Obj) : Ch (· = r) w { w with heap := w.heap.setIfInBounds r o' } :=
  ⟨rfl, rfl, rfl, by simp, fun b _ hn => by simp [Ne.symm hn]⟩
theorem split_at {α : Type} {l : List α} {j : Nat} {x : α} (h : l[j]? = some x) : l = l.take j ++ x :: l.drop (j + 1) := by
  obtain ⟨hj, rfl⟩ := List.getElem?_eq_some_iff.1 h
  rw [List.getElem_cons_drop hj, List.take_append_drop]
theorem update_run {P : Program} {t kt et : TypeId} {d : TypeDesc} (ht : P.underlying t = some (.map kt et)) (hd : P.underlying kt = some d) {w : World} {r : Nat} {m : List (Value × Value)} (h : Mp d w r m) {k : Value} (hk : IsKey d k) (v : Value) :
    ∃ w' m', (Instr.mapUpdate t (.map (some r)) k v).run P w = .ok () w' ∧ Mp d w' r m' ∧ Ch (· = r) w w' ∧ w'.heap.size = w.heap.size ∧
      ((∃ l1 v0 l2, m = l1 ++ (k, v0) :: l2 ∧ m' = l1 ++ (k, v) :: l2) ∨ ((∀ p ∈ m, p.1 ≠ k) ∧ m' = m ++ [(k, v)])) := by
  obtain ⟨es, c, hb, hs, hks, hm⟩ := h
  rcases Mp.find (P := P) (w := w) (r := r) hks hk hm with ⟨h1, h2, h3⟩ | ⟨j, e, h1, h2, h3, h4⟩
  · refine ⟨_, m ++ [(k, v)], by
      simp [Instr.mapUpdate, run_underlying ht, MapKept.run_getObj_map hb, run_checkKey hd hk, run_findKey hd h1, run_setObj_map _ hb, Result.andThen]; rfl, ⟨_, _, (heap_set hb).1, stamped_push hs h2, ?_, ?_⟩, setIf_ch _, by simp, .inr ⟨h3, rfl⟩⟩
    · intro x hx
      simp only [Array.toList_push, List.mem_append, List.mem_singleton] at hx
      rcases hx with hx | rfl
      · exact hks x hx
      · exact hk
    · simp [hm]
  · have hj : es[j]? = some e := by simpa using h2
    have hkey : ∀ e', es[j]? = some e' → ({ e' with key := k, val := v } : MapEntry).key = e'.key := fun e' he' => by rw [hj] at he'; cases he'; exact h3.symm
    refine ⟨{ w with heap := w.heap.setIfInBounds r (.map (es.modify j fun e => { e with key := k, val := v }) c) }, m.take j ++ (k, v) :: m.drop (j + 1), by
      simp [Instr.mapUpdate, run_underlying ht, MapKept.run_getObj_map hb, run_checkKey hd hk, run_findKey hd h1, hj, h3, run_keyThatStays hk, run_setObj_map _ hb, Result.andThen],
      ⟨_, _, (heap_set hb).1, stamped_modify hs _ _ (fun _ _ => rfl) (fun e' _ he' => hkey e' he'), isKey_modify hks _ _ hkey, ?_⟩, setIf_ch _, by simp, .inl ⟨m.take j, e.val, m.drop (j + 1), split_at h4, rfl⟩⟩
    have hjl : j < m.length := (List.getElem?_eq_some_iff.1 h4).1
    subst hm
    simp only [List.length_map] at hjl
    apply List.ext_getElem?
    intro i
    simp only [List.getElem?_map, Array.getElem?_toList, Array.getElem?_modify]
    rcases Nat.lt_trichotomy i j with hij | rfl | hij
    · rw [if_neg (by omega), List.getElem?_append_left (by rw [List.length_take, List.length_map]; omega), List.getElem?_take, if_pos hij]; simp
    · rw [if_pos rfl, List.getElem?_append_right (by rw [List.length_take, List.length_map]; omega), hj, List.length_take, List.length_map, Nat.min_eq_left (Nat.le_of_lt hjl), Nat.sub_self]; simp
    · rw [if_neg (by omega), List.getElem?_append_right (by rw [List.length_take, List.length_map]; omega)]
      have e1 : i - (List.take j (List.map (fun e => (e.key, e.val)) es.toList)).length = (i - j - 1) + 1 := by rw [List.length_take, List.length_map]; omega
      rw [e1, List.getElem?_cons_succ, List.getElem?_drop, show j + 1 + (i - j - 1) = i by omega]; simp
theorem delete_run {P : Program} {t kt et ty : TypeId} {d : TypeDesc} (ht : P.underlying t = some (.map kt et)) (hd : P.underlying kt = some d) {w : World} {r : Nat} {m : List (Value × Value)} (h : Mp d w r m) {k : Value} (hk : IsKey d k) :
    ∃ w' m', (Builtin.delete_ #[t, kt] ty #[.map (some r), k]).run P w = .ok (.tuple #[]) w' ∧ Mp d w' r m' ∧ Ch (· = r) w w' ∧ w'.heap.size = w.heap.size ∧
      ((∃ l1 v0 l2, m = l1 ++ (k, v0) :: l2 ∧ m' = l1 ++ l2) ∨ ((∀ p ∈ m, p.1 ≠ k) ∧ m' = m)) := by
  obtain ⟨es, c, hb, hs, hks, hm⟩ := h
  rcases Mp.find (P := P) (w := w) (r := r) hks hk hm with ⟨h1, h2, h3⟩ | ⟨j, e, h1, h2, h3, h4⟩
  · exact ⟨_, m, by
      simp [Builtin.delete_, run_underlying ht, MapKept.run_getObj_map hb, run_checkKey hd hk, run_findKey hd h1, run_setObj_map _ hb, Result.andThen], ⟨_, _, (heap_set hb).1, hs, hks, hm⟩, setIf_ch _, by simp, .inr ⟨h3, rfl⟩⟩
  · have hsub : (es.eraseIdxIfInBounds j).toList.Sublist es.toList := by
      unfold Array.eraseIdxIfInBounds
      split
      · simp only [Array.toList_eraseIdx]; exact List.eraseIdx_sublist _ _
      · exact List.Sublist.refl _
    refine ⟨_, m.take j ++ m.drop (j + 1), by
      simp [Builtin.delete_, run_underlying ht, MapKept.run_getObj_map hb, run_checkKey hd hk, run_findKey hd h1, run_setObj_map _ hb, Result.andThen],
      ⟨_, _, (heap_set hb).1, stamped_erase hs _, fun x hx => hks x (hsub.subset hx), ?_⟩, setIf_ch _, by simp, .inl ⟨m.take j, e.val, m.drop (j + 1), split_at h4, rfl⟩⟩
    have hjl : j < es.size := by
      have := (List.getElem?_eq_some_iff.1 h2).1
      simpa using this
    subst hm
    rw [← List.eraseIdx_eq_take_drop_succ]
    unfold Array.eraseIdxIfInBounds
    rw [dif_pos hjl]
    simp only [Array.toList_eraseIdx]
    rw [List.eraseIdx_eq_take_drop_succ, List.eraseIdx_eq_take_drop_succ, List.map_append, List.map_take, List.map_drop]

/-! ### Ranging -/
/-- iterator block it goes over map block r: m is what the map holds, and left, without order, what has not come out yet -/
def It (d : TypeDesc) (w : World) (it r : Nat) (m left : List (Value × Value)) : Prop :=
  ∃ es clock since seen c0, w.heap[it]? = some (.mapIter (some r) since seen c0) ∧ w.heap[r]? = some (.map es clock) ∧ Stamped es clock ∧ (∀ x ∈ es.toList, IsKey d x.key) ∧ es.toList.map (fun e => (e.key, e.val)) = m ∧
    (∀ x ∈ es.toList, x.born < since) ∧ since ≤ c0 ∧ since ≤ clock ∧ ((leftOf es seen).toList.map fun e => (e.key, e.val)) = left
theorem It.mp {d : TypeDesc} {w : World} {it r : Nat} {m left : List (Value × Value)} (h : It d w it r m left) : Mp d w r m := by
  obtain ⟨es, clock, since, seen, c0, _, hb, hs, hk, hm, _⟩ := h
  exact ⟨es, clock, hb, hs, hk, hm⟩
theorem It.lt {d : TypeDesc} {w : World} {it r : Nat} {m left : List (Value × Value)} (h : It d w it r m left) : it < w.heap.size := by
  obtain ⟨es, clock, since, seen, c0, hi, _⟩ := h; exact lt_of_heap hi
theorem It.ch {S : Nat → Prop} {d : TypeDesc} {w w' : World} {it r : Nat} {m left : List (Value × Value)} (h : It d w it r m left) (hc : Ch S w w') (hi : ¬ S it) (hr : ¬ S r) : It d w' it r m left := by
  have h1 := h.lt
  have h2 := h.mp.lt
  obtain ⟨es, clock, since, seen, c0, g1, g2, g⟩ := h
  exact ⟨es, clock, since, seen, c0, by rw [hc.keep _ h1 hi]; exact g1, by rw [hc.keep _ h2 hr]; exact g2, g⟩
@[simp] theorem It_drew (d : TypeDesc) (w : World) (it r : Nat) (m left : List (Value × Value)) : It d w.drew it r m left ↔ It d w it r m left := Iff.rfl
theorem range_run {P : Program} {t kt et : TypeId} {d : TypeDesc} (ht : P.underlying t = some (.map kt et)) {w : World} {r : Nat} {m : List (Value × Value)} (h : Mp d w r m) :
    ∃ w', (Instr.range t (.map (some r))).run P w = .ok (.pointer (some ⟨w.heap.size, 0, none⟩)) w' ∧ It d w' w.heap.size r m m ∧ Ch (fun _ => False) w w' ∧ w'.heap.size = w.heap.size + 1 := by
  have hlt := h.lt
  obtain ⟨es, c, hb, hs, hk, hm⟩ := h
  refine ⟨_, run_range_map w t kt et r es c ht hb, ⟨es, c, c, #[], c, heap_alloc_new w _, ?_, hs, hk, hm, hs.1, Nat.le_refl _, Nat.le_refl _, ?_⟩, alloc_ch w _, by simp⟩
  · rw [heap_alloc_old w _ hlt]; exact hb
  · rw [← hm]
    unfold leftOf
    congr 1
    have : es.filter (fun e => !(#[] : Array Nat).contains e.born) = es := Array.filter_eq_self.2 fun x hx => by simp
    rw [this]
/-- one step: nothing is left; or some pair comes out, and 'entry' reads it -/
theorem next_run {P : Program} {ty : TypeId} {d : TypeDesc} {w : World} {it r : Nat} {m left : List (Value × Value)} (h : It d w it r m left) :
    (left = [] ∧ (Instr.next (.pointer (some ⟨it, 0, none⟩)) false ty).run P w = .ok (.tuple #[.bool false]) w) ∨
    ∃ k v l1 l2 w', left = l1 ++ (k, v) :: l2 ∧ (k, v) ∈ m ∧ (Instr.next (.pointer (some ⟨it, 0, none⟩)) false ty).run P w = .ok (.tuple #[.bool true, k, v]) w' ∧
      (Instr.entry (.pointer (some ⟨it, 0, none⟩))).run P w' = .ok (.tuple #[k, v]) w' ∧ It d w' it r m (l1 ++ l2) ∧ Ch (· = it) w w' ∧ w'.heap.size = w.heap.size := by
  have hne : it ≠ r := fun e => by
    obtain ⟨es, clock, since, seen, c0, g1, g2, _⟩ := h
    rw [e, g2] at g1; cases g1
  have hlt := h.lt
  obtain ⟨es, clock, since, seen, c0, g1, g2, hs, hk, hm, hold, hsc, hcl, hl⟩ := h
  rcases run_next_at (P := P) w ty it r since c0 seen es clock g1 g2 hold hsc with ⟨h0, h1⟩ | ⟨e, he, w1, hw1, h1⟩
  · left
    refine ⟨?_, h1⟩
    rw [← hl]
    have : (leftOf es seen).toList = [] := List.eq_nil_of_length_eq_zero (by simpa using h0)
    rw [this]; rfl
  · right
    have hw : Ch (fun _ => False) w w1 ∧ w1.heap = w.heap := by
      rcases hw1 with rfl | rfl
      · exact ⟨Ch.refl _ _, rfl⟩
      · exact ⟨Ch.drew w, rfl⟩
    have hem := mem_left he
    obtain ⟨i, hi⟩ := List.getElem?_of_mem he
    have hsp := split_at hi
    have hr' : (ChangeMaps.setBlock w1 it (.mapIter (some r) since (seen.push e.born) clock)).heap[it]? = some (.mapIter (some r) since (seen.push e.born) clock) := by
      simp [ChangeMaps.setBlock, hw.2, hlt]
    have hb' : (ChangeMaps.setBlock w1 it (.mapIter (some r) since (seen.push e.born) clock)).heap[r]? = some (.map es clock) := by
      simp [ChangeMaps.setBlock, hw.2, hne, g2]
    have hnd : ((leftOf es seen).toList.map (·.born)).Nodup := by
      have hsub : (leftOf es seen).toList.Sublist es.toList := by
        unfold leftOf; rw [Array.toList_filter]; exact List.filter_sublist
      exact (hsub.map _).nodup hs.2.1
    refine ⟨e.key, e.val, ((leftOf es seen).toList.take i).map fun e => (e.key, e.val), ((leftOf es seen).toList.drop (i + 1)).map fun e => (e.key, e.val), _, ?_, ?_, h1,
      run_entry_at _ it r since seen es clock e hr' hb' hem.1 hs.2.1, ⟨es, clock, since, seen.push e.born, clock, hr', hb', hs, hk, hm, hold, hcl, hcl, ?_⟩, ?_, ?_⟩
    · rw [← hl, ← List.map_cons (f := fun e : MapEntry => (e.key, e.val)), ← List.map_append, ← hsp]
    · rw [← hm]; exact List.mem_map.2 ⟨e, hem.1, rfl⟩
    · rw [← List.map_append]
      congr 1
      have h2 : (leftOf es (seen.push e.born)).toList = (leftOf es seen).toList.filter fun x => !(x.born == e.born) := by
        unfold leftOf
        simp only [Array.toList_filter, List.filter_filter]
        congr 1
        funext x
        rw [contains_push]
        cases seen.contains x.born <;> cases (x.born == e.born) <;> rfl
      rw [h2]
      conv => lhs; rw [hsp]
      rw [hsp, List.map_append, List.map_cons] at hnd
      obtain ⟨n1, n2, n3⟩ := List.nodup_append.1 hnd
      rw [List.filter_append, List.filter_cons]
      simp only [BEq.rfl, Bool.not_true, Bool.false_eq_true, if_false]
      congr 1
      · refine List.filter_eq_self.2 fun x hx => ?_
        have := n3 x.born (List.mem_map.2 ⟨x, hx, rfl⟩) e.born (by simp)
        simp [this]
      · refine List.filter_eq_self.2 fun x hx => ?_
        have := (List.nodup_cons.1 n2).1
        have hx2 : x.born ≠ e.born := fun q => this (q ▸ List.mem_map.2 ⟨x, hx, rfl⟩)
        simp [hx2]
    · refine ⟨hw.1.os, hw.1.tape, hw.1.output, by simp [ChangeMaps.setBlock, hw.2], fun b hb hn => ?_⟩
      simp [ChangeMaps.setBlock, hw.2, Ne.symm hn]
    · simp [ChangeMaps.setBlock, hw.2]
end Go.Sv
namespace Go.Sv
open Go

theorem wrap_id {n : Int} (h1 : -9223372036854775808 ≤ n) (h2 : n ≤ 9223372036854775807) : IntKind.wrap .i64 n = n := by
  unfold IntKind.wrap
  simp only [show IntKind.i64.bits = 64 from rfl, show IntKind.i64.signed = true from rfl, Bool.true_and]
  split
  · rename_i h; simp at h; omega
  · rename_i h; simp at h; omega
def InfoIs (P : Program) (t : TypeId) (sz bytes : Nat) (z : Value) : Prop := ∃ inf, P.info? t = some inf ∧ inf.size = sz ∧ inf.bytes = bytes ∧ inf.zero = some z
theorem InfoIs.of {P : Program} {t : TypeId} {sz bytes : Nat} {z : Value} (h1 : (P.info? t).map (·.size) = some sz) (h2 : (P.info? t).map (·.bytes) = some bytes) (h3 : (P.info? t).map (·.zero) = some (some z)) : InfoIs P t sz bytes z := by
  cases h : P.info? t with
  | none => rw [h] at h1; cases h1
  | some i =>
    rw [h] at h1 h2 h3
    exact ⟨i, h, by simpa using h1, by simpa using h2, by simpa using h3⟩
theorem InfoIs.zero {P : Program} {t : TypeId} {sz bytes : Nat} {z : Value} (h : InfoIs P t sz bytes z) (w : World) : (zeroValue t).run P w = .ok z w := by
  obtain ⟨i, hi, _, _, hz⟩ := h
  simp [zeroValue, typeInfo, hi, hz]
theorem append_rd {P : Program} {T T2 ty e e2 : TypeId} {sz bytes : Nat} {z : Value} (hT : P.underlying T = some (.slice e)) (hT2 : P.underlying T2 = some (.slice e2)) (hi : InfoIs P e sz bytes z) (hzs : z.cells.size = sz)
    {w : World} {p q : Option Addr} {n c m c2 : Nat} {xs ys : List Value} {b : Option Nat} (ho : Ow w p n c sz xs b) (hs : Rd w q m sz ys) (hone : ∀ u ∈ ys, oneV u = true)
    (h1 : n + m ≤ 2 ^ 47) (h2 : (n + m) * bytes ≤ 2 ^ 47) :
    ∃ p' c' w' b', (Builtin.append_ #[T, T2] ty #[.slice p n c, .slice q m c2]).run P w = .ok (.slice p' (n + m) c') w' ∧ Ow w' p' (n + m) c' sz (xs ++ ys) b' ∧
      (∀ k, b' = some k → b = some k ∨ k = w.heap.size) ∧ Ch (fun k => b = some k) w w' ∧ (p ≠ none → p' ≠ none) ∧ (m ≠ 0 → p' ≠ none ∨ sz = 0) := by
  obtain ⟨inf, hi, rfl, rfl, hz⟩ := hi
  obtain ⟨p', c', w', b', h3, h4, h5⟩ := append_run (ty := ty) hT hi hz hzs ho (Src.of_rd hT2 hs hone) h1 h2
  refine ⟨p', c', w', b', h3, h4, ?_⟩
  rcases h5 with ⟨g1, rfl, rfl, rfl, g5, _⟩ | ⟨g1, rfl, rfl, g4, _⟩
  · refine ⟨fun k hk => .inl hk, g5, id, fun hm => ?_⟩
    obtain ⟨_, _, h6⟩ := h4
    rcases h6 with ⟨_, h6⟩ | ⟨k, o, cs, _, hp, _⟩
    · right
      rcases Nat.mul_eq_zero.1 h6 with h6 | h6
      · omega
      · exact h6
    · left; rw [hp]; simp
  · exact ⟨fun k hk => .inr (Option.some.inj hk).symm, g4.mono fun _ _ h => h.elim, fun _ => by simp, fun _ => .inl (by simp)⟩
theorem Sif_cases {b : Bool} {x y : Prop} (h1 : b = true → x) (h2 : b = false → y) : Sif b x y := by
  unfold Sif; cases b
  · exact h2 rfl
  · exact h1 rfl
theorem Sif_true {x y : Prop} (h : x) : Sif true x y := h
theorem Sif_false {x y : Prop} (h : y) : Sif false x y := h
@[simp] theorem nn_some {a : Addr} {K : Addr → Prop} : nn (some a) K ↔ K a := by
  unfold nn; exact Iff.rfl
@[simp] theorem nameI_iff {n : Int} {K : Int → Prop} : nameI n K ↔ K n := by unfold nameI; simp
theorem Ch.new {S : Nat → Prop} {a b c : World} (h : Ch S a b) (k : Ch (fun _ => False) b c) : Ch S a c := h.trans k fun _ _ hx => hx.elim
theorem Ch.more {S S' : Nat → Prop} {a b c : World} (h : Ch S a b) (k : Ch S' b c) (hs : ∀ x, S' x → S x) : Ch S a c := h.trans k fun x _ hx => hs x hx
theorem Ch.d0 {w : World} : Ch (fun _ => False) w w.drew := Ch.drew w
theorem inj_of_nodup {α β : Type} {f : α → β} : ∀ {l : List α}, (l.map f).Nodup → ∀ {x y : α}, x ∈ l → y ∈ l → f x = f y → x = y
  | a :: l, h, x, y, hx, hy, e => by
    simp only [List.map_cons] at h
    obtain ⟨h1, h2⟩ := List.nodup_cons.1 h
    rcases List.mem_cons.1 hx with ex | hx2
    · rcases List.mem_cons.1 hy with ey | hy2
      · rw [ex, ey]
      · exact (h1 (List.mem_map.2 ⟨y, hy2, by rw [← e, ex]⟩)).elim
    · rcases List.mem_cons.1 hy with ey | hy2
      · exact (h1 (List.mem_map.2 ⟨x, hx2, by rw [e, ey]⟩)).elim
      · exact inj_of_nodup h2 hx2 hy2 e
end Go.Sv
namespace Go.Sv
open Go
set_option linter.unusedVariables false

theorem flat_get {α : Type} {g : α → List Value} {sz : Nat} (hg : ∀ x, (g x).length = sz) : ∀ (L : List α) (i j : Nat), j < sz → (L.flatMap g)[i * sz + j]? = L[i]?.bind fun x => (g x)[j]?
  | [], i, j, _ => by simp
  | x :: L, 0, j, hj => by
    rw [List.flatMap_cons, Nat.zero_mul, Nat.zero_add, List.getElem?_append_left (by rw [hg]; exact hj)]; simp
  | x :: L, i + 1, j, hj => by
    rw [List.flatMap_cons, List.getElem?_append_right (by rw [hg, Nat.add_mul]; omega), hg, show (i + 1) * sz + j - sz = i * sz + j by rw [Nat.add_mul]; omega, flat_get hg L i j hj]; simp
theorem flat_len {α : Type} {g : α → List Value} {sz : Nat} (hg : ∀ x, (g x).length = sz) (L : List α) : (L.flatMap g).length = L.length * sz := by
  induction L with
  | nil => simp
  | cons x L ih => rw [List.flatMap_cons, List.length_append, ih, hg, List.length_cons, Nat.add_mul]; omega
/-- an element of a row that reads -/
theorem Rd.at {α : Type} {g : α → List Value} {sz : Nat} (hg : ∀ x, (g x).length = sz) {w : World} {p : Option Addr} {n : Nat} {L : List α} (h : Rd w p n sz (L.flatMap g)) {i : Nat} {x : α} (hi : L[i]? = some x) (h0 : 0 < sz) :
    ∃ b o, p = some ⟨b, o, none⟩ ∧ ∀ j v, (g x)[j]? = some v → w.cell? ⟨b, o + i * sz + j, none⟩ = some v := by
  have hil : i < L.length := (List.getElem?_eq_some_iff.1 hi).1
  have hn : n * sz = L.length * sz := by rw [← h.1, flat_len hg]
  have hlt : ∀ j, j < sz → i * sz + j < n * sz := fun j hj => by
    have : (i + 1) * sz ≤ L.length * sz := Nat.mul_le_mul_right _ hil
    rw [Nat.add_mul] at this; omega
  obtain ⟨b, o, hp, _⟩ := h.cell (hlt 0 h0)
  refine ⟨b, o, hp, fun j v hv => ?_⟩
  have hj : j < sz := by rw [← hg x]; exact (List.getElem?_eq_some_iff.1 hv).1
  obtain ⟨b', o', hp', hc⟩ := h.cell (hlt j hj)
  rw [hp] at hp'; cases hp'
  rw [Nat.add_assoc, hc, flat_get hg L i j hj, hi]; exact hv
theorem Rd.len {w : World} {p : Option Addr} {n sz : Nat} {xs : List Value} (h : Rd w p n sz xs) : xs.length = n * sz := h.1
theorem Rd.lt {w : World} {p : Option Addr} {n sz : Nat} {xs : List Value} (h : Rd w p n sz xs) : ∀ a, p = some a → n * sz ≠ 0 → a.block < w.heap.size := fun a ha h0 => by
  rcases h.2 with h2 | ⟨b, o, cs, hp, hb, _⟩
  · exact absurd h2 h0
  · rw [hp] at ha; cases ha; exact cells_lt hb
/-- a block of one's own, and what is stored into it at once -/
theorem st_all {w : World} {k : Nat} {cs : List Value} : ∀ (vs : List Value) (o : Nat) {K : World → Prop}, blk w k = some cs → o + vs.length ≤ cs.length →
    (∀ w', blk w' k = some (putSeg cs o vs) → Ch (· = k) w w' → w'.heap.size = w.heap.size → K w') →
    (List.foldr (fun (v : Value) (F : Nat → World → Prop) (i : Nat) (w : World) => st w ⟨k, i, none⟩ v fun w => F (i + 1) w) (fun _ w => K w) vs) o w := by
  intro vs
  induction vs generalizing w cs with
  | nil => intro o K hb _ hk; exact hk w (by rw [putSeg_nil]; exact hb) (Ch.refl _ _) rfl
  | cons v vs ih =>
    intro o K hb hl hk
    simp only [List.length_cons] at hl
    refine st_blk hb (by omega) fun w1 b1 c1 z1 => ?_
    refine ih (o + 1) b1 (by simp; omega) fun w2 b2 c2 z2 => hk w2 (by rw [b2, putSeg_cons cs o v vs (by omega)]) (c1.trans' c2) (by rw [z2, z1])
/-! ### Building a row, element by element -/
theorem Ow.nil {w : World} {sz : Nat} : Ow w none 0 0 sz [] none := ⟨by simp, Nat.le_refl _, .inl ⟨rfl, by simp⟩⟩
theorem Ow.blt {w : World} {p : Option Addr} {n c sz : Nat} {xs : List Value} {b : Option Nat} (h : Ow w p n c sz xs b) : ∀ k, b = some k → k < w.heap.size := fun k hk => by subst hk; exact h.lt
theorem push_ok {P : Program} {T ty e te : TypeId} {sz bytes : Nat} {z : Value} (hT : P.underlying T = some (.slice e)) (hi : InfoIs P e sz bytes z) (hzs : z.cells.size = sz) {α : Type} {g : α → List Value} (hg : ∀ x, (g x).length = sz) (hone : ∀ x, ∀ v ∈ g x, oneV v = true)
    {w : World} {p : Option Addr} {c : Nat} {L : List α} {b : Option Nat} (ho : Ow w p L.length c sz (L.flatMap g) b) (x : α) (h1 : L.length + 1 ≤ 2 ^ 47) (h2 : (L.length + 1) * bytes ≤ 2 ^ 47) {K : Option Addr → Nat → Nat → World → Prop}
    (hk : ∀ p' c' b' w', Ow w' p' (L ++ [x]).length c' sz ((L ++ [x]).flatMap g) b' → (∀ k, b' = some k → b = some k ∨ w.heap.size ≤ k) → Ch (fun k => b = some k) w w' → K p' (L ++ [x]).length c' w') :
    newB w (g x) te fun a w2 => ∃ p5 n7 c5 w3, Sem.run P (Builtin.append_ #[T, T] ty #[.slice p L.length c, .slice (some a) 1 1]) w2 = .ok (.slice p5 n7 c5) w3 ∧ K p5 n7 c5 w3 := by
  refine newB_blk fun w2 b2 c2 z2 => ?_
  have hrd : Rd w2 (some ⟨w.heap.size, 0, none⟩) 1 sz (g x) := ⟨by rw [hg]; omega, .inr ⟨_, 0, _, rfl, blk_cells b2, by rw [hg]; omega, by rw [List.drop_zero, List.take_of_length_le (by rw [hg]; omega)]⟩⟩
  obtain ⟨p', c', w', b', r1, r2, r3, r4, _⟩ := append_rd (ty := ty) (c2 := 1) hT hT hi hzs (ho.ch c2 fun _ _ => id) hrd (hone x) h1 h2
  refine ⟨p', _, c', w', r1, ?_⟩
  have e : (L ++ [x]).flatMap g = L.flatMap g ++ g x := by simp
  have := hk p' c' b' w' (by rw [e, List.length_append]; exact r2) (fun k hk => (r3 k hk).imp id fun h => by omega) ((c2.mono fun _ _ h => h.elim).trans' r4)
  rw [List.length_append] at this
  exact this
theorem append_rd2 {P : Program} {T T2 ty e e2 : TypeId} {sz bytes : Nat} {z : Value} (hT : P.underlying T = some (.slice e)) (hT2 : P.underlying T2 = some (.slice e2)) (hi : InfoIs P e sz bytes z) (hzs : z.cells.size = sz)
    {w : World} {p q : Option Addr} {n c m c2 : Nat} {xs ys : List Value} {b : Option Nat} (ho : Ow w p n c sz xs b) (hs : Rd w q m sz ys) (hone : ∀ u ∈ ys, oneV u = true)
    (h1 : n + m ≤ 2 ^ 47) (h2 : (n + m) * bytes ≤ 2 ^ 47) :
    ∃ p' c' w' b', (Builtin.append_ #[T, T2] ty #[.slice p n c, .slice q m c2]).run P w = .ok (.slice p' (n + m) c') w' ∧ Ow w' p' (n + m) c' sz (xs ++ ys) b' ∧
      ((b' = b ∧ p' = p ∧ Ch (fun k => b = some k) w w') ∨ (b' = some w.heap.size ∧ p' = some ⟨w.heap.size, 0, none⟩ ∧ Ch (fun _ => False) w w')) := by
  obtain ⟨inf, hi, rfl, rfl, hz⟩ := hi
  obtain ⟨p', c', w', b', h3, h4, h5⟩ := append_run (ty := ty) hT hi hz hzs ho (Src.of_rd hT2 hs hone) h1 h2
  refine ⟨p', c', w', b', h3, h4, ?_⟩
  rcases h5 with ⟨g1, rfl, rfl, rfl, g5, _⟩ | ⟨g1, rfl, rfl, g4, _⟩
  · exact .inl ⟨rfl, rfl, g5⟩
  · exact .inr ⟨rfl, rfl, g4⟩
theorem newB_mono' {w : World} {cs : List Value} {t : TypeId} {K K' : Addr → World → Prop} (h : newB w cs t K) (hk : ∀ a w', Ch (fun _ => False) w w' → K a w' → K' a w') : newB w cs t K' := hk _ _ (alloc_ch w _) h
/-- a store into a row that is owned -/
theorem Ow.st {w : World} {p : Option Addr} {n c sz : Nat} {xs : List Value} {b : Option Nat} (h : Ow w p n c sz xs b) {i : Nat} (hi : i < n * sz) :
    ∃ k o, p = some ⟨k, o, none⟩ ∧ b = some k ∧ ∀ (v : Value) (K : World → Prop), (∀ w', Ow w' p n c sz (xs.set i v) b → Ch (· = k) w w' → w'.heap.size = w.heap.size → K w') → Sv.st w ⟨k, o + i, none⟩ v K := by
  obtain ⟨h1, h2, h3⟩ := h
  have hnc : n * sz ≤ c * sz := Nat.mul_le_mul_right _ h2
  rcases h3 with ⟨_, h3⟩ | ⟨k, o, cs, rfl, rfl, hb, hl, ht⟩
  · omega
  · refine ⟨k, o, rfl, rfl, fun v K hK => ?_⟩
    refine st_blk hb (by omega) fun w' b' c' z' => hK w' ⟨by simpa using h1, h2, .inr ⟨k, o, _, rfl, rfl, b', by simpa using hl, ?_⟩⟩ c' z'
    rw [← ht]
    apply List.ext_getElem?
    intro j
    simp only [List.getElem?_take, List.getElem?_drop, List.getElem?_set]
    by_cases hj : j < n * sz
    · by_cases hji : i = j
      · subst hji
        have e1 : o + i < cs.length := by omega
        have e2 : i < cs.length - o := by omega
        simp [hj, e1]
        omega
      · have : ¬ o + i = o + j := by omega
        simp [hj, hji, this]
    · by_cases hji : i = j
      · omega
      · simp [hj, hji]
theorem flat_set {α : Type} {g : α → List Value} {sz : Nat} (hg : ∀ x, (g x).length = sz) {x' : α} : ∀ (L : List α) (i j : Nat) (v : Value) {x : α}, L[i]? = some x → j < sz → g x' = (g x).set j v → (L.flatMap g).set (i * sz + j) v = (L.set i x').flatMap g
  | [], i, j, v, x, h, _, _ => by simp at h
  | y :: L, 0, j, v, x, h, hj, he => by
    simp only [List.getElem?_cons_zero, Option.some.injEq] at h
    subst h
    rw [List.set_cons_zero, List.flatMap_cons, List.flatMap_cons, Nat.zero_mul, Nat.zero_add, List.set_append_left _ _ (by rw [hg]; exact hj), he]
  | y :: L, i + 1, j, v, x, h, hj, he => by
    simp only [List.getElem?_cons_succ] at h
    rw [List.set_cons_succ, List.flatMap_cons, List.flatMap_cons, List.set_append_right _ _ (by rw [hg, Nat.add_mul]; omega), hg, show (i + 1) * sz + j - sz = i * sz + j by rw [Nat.add_mul]; omega, flat_set hg L i j v h hj he]
theorem data_ext {a b : ByteArray} (h : a.data.toList = b.data.toList) : a = b := Go.WideShapes.bytes_inj h
end Go.Sv
namespace Go.Heap
set_option linter.unusedVariables false

/-- an order: what is before -/
structure Ord {α : Type} (lt : α → α → Bool) : Prop where
  tr : ∀ a b c, lt b a = false → lt c b = false → lt c a = false
  as : ∀ a b, lt a b = true → lt b a = false
def par (c : Nat) : Nat := (c - 1) / 2
def sw {α : Type} (f : Nat → α) (i j : Nat) : Nat → α := fun k => if k = i then f j else if k = j then f i else f k
section
variable {α : Type} {lt : α → α → Bool} {f : Nat → α} {n s i j : Nat}
/-- a heap of n, from place s on -/
def HeapFrom (lt : α → α → Bool) (f : Nat → α) (n s : Nat) : Prop := ∀ c, 0 < c → c < n → s ≤ par c → lt (f c) (f (par c)) = false
def UpInv (lt : α → α → Bool) (f : Nat → α) (n j : Nat) : Prop := (∀ c, 0 < c → c < n → c ≠ j → lt (f c) (f (par c)) = false) ∧ ∀ c, 0 < c → c < n → par c = j → 0 < j → lt (f c) (f (par j)) = false
def DnInv (lt : α → α → Bool) (f : Nat → α) (n s i : Nat) : Prop := s ≤ i ∧ (∀ c, 0 < c → c < n → s ≤ par c → par c ≠ i → lt (f c) (f (par c)) = false) ∧ ∀ c, 0 < c → c < n → par c = i → 0 < i → s ≤ par i → lt (f c) (f (par i)) = false
theorem par_lt {c : Nat} (h : 0 < c) : par c < c := by unfold par; omega
theorem up_done (h : UpInv lt f n j) (hd : j = 0 ∨ lt (f j) (f (par j)) = false) : HeapFrom lt f n 0 := fun c h0 hn _ => by
  by_cases e : c = j
  · subst e
    rcases hd with hd | hd
    · omega
    · exact hd
  · exact h.1 c h0 hn e
theorem up_step (O : Ord lt) (h : UpInv lt f n j) (hj : 0 < j) (hjn : j < n) (hl : lt (f j) (f (par j)) = true) : UpInv lt (sw f (par j) j) n (par j) := by
  have hpj := par_lt hj
  have hne : par j ≠ j := by omega
  have vp : sw f (par j) j (par j) = f j := by unfold sw; simp
  have vj : sw f (par j) j j = f (par j) := by unfold sw; simp [Ne.symm hne]
  have vk : ∀ k, k ≠ par j → k ≠ j → sw f (par j) j k = f k := fun k h1 h2 => by unfold sw; simp [h1, h2]
  refine ⟨fun c h0 hn hc => ?_, fun c h0 hn hc hp => ?_⟩
  · by_cases e : c = j
    · subst e
      rw [vj, vp]
      exact O.as _ _ hl
    · rw [vk c hc e]
      by_cases e2 : par c = j
      · rw [e2, vj]
        exact h.2 c h0 hn e2 hj
      · by_cases e3 : par c = par j
        · rw [e3, vp]
          have h1 := h.1 c h0 hn e
          rw [e3] at h1
          exact O.tr _ _ _ (O.as _ _ hl) h1
        · rw [vk _ e3 e2]
          exact h.1 c h0 hn e
  · have hpp := par_lt hp
    rw [vk (par (par j)) (by omega) (by omega)]
    have h1 := h.1 (par j) hp (by omega) hne
    by_cases e : c = j
    · subst e
      rw [vj]; exact h1
    · have hcp : c ≠ par j := fun e2 => by
        have := par_lt h0
        omega
      rw [vk c hcp e]
      have h2 := h.1 c h0 hn e
      rw [hc] at h2
      exact O.tr _ _ _ h1 h2
theorem down_done (h : DnInv lt f n s i) (hd : ∀ c, 0 < c → c < n → par c = i → lt (f c) (f i) = false) : HeapFrom lt f n s := fun c h0 hn hs => by
  by_cases e : par c = i
  · rw [e]; exact hd c h0 hn e
  · exact h.2.1 c h0 hn hs e
theorem down_step (O : Ord lt) (h : DnInv lt f n s i) (hj0 : 0 < j) (hjn : j < n) (hjp : par j = i) (hmin : ∀ c, 0 < c → c < n → par c = i → lt (f c) (f j) = false) (hl : lt (f j) (f i) = true) : DnInv lt (sw f i j) n s j := by
  have hij : i < j := by rw [← hjp]; exact par_lt hj0
  have vi : sw f i j i = f j := by unfold sw; simp
  have vj : sw f i j j = f i := by unfold sw; simp [Nat.ne_of_gt hij]
  have vk : ∀ k, k ≠ i → k ≠ j → sw f i j k = f k := fun k h1 h2 => by unfold sw; simp [h1, h2]
  obtain ⟨hs, h1, h2⟩ := h
  refine ⟨by omega, fun c h0 hn hsc hc => ?_, fun c h0 hn hc _ hsp => ?_⟩
  · by_cases e : c = j
    · subst e
      rw [vj, hjp, vi]
      exact O.as _ _ hl
    · by_cases e2 : c = i
      · subst e2
        have hpc := par_lt h0
        rw [vi, vk (par c) (by omega) (by omega)]
        exact h2 j hj0 hjn hjp h0 hsc
      · rw [vk c e2 e]
        by_cases e3 : par c = i
        · rw [e3, vi]
          exact hmin c h0 hn e3
        · rw [vk (par c) e3 hc]
          exact h1 c h0 hn hsc e3
  · have hjc : j < c := by rw [← hc]; exact par_lt h0
    rw [hjp, vi, vk c (by omega) (by omega)]
    have h3 := h1 c h0 hn (by omega) (by omega)
    rw [hc] at h3
    exact h3
/-- the first of a heap is before none -/
theorem heap_first (O : Ord lt) (hr : ∀ a, lt a a = false) (h : HeapFrom lt f n 0) : ∀ c, c < n → lt (f c) (f 0) = false := by
  intro c
  induction c using Nat.strongRecOn with
  | _ c ih =>
    intro hn
    by_cases h0 : c = 0
    · subst h0; exact hr _
    · have hp := par_lt (c := c) (by omega)
      exact O.tr _ _ _ (ih (par c) hp (by omega)) (h c (by omega) hn (Nat.zero_le _))
end
end Go.Heap
