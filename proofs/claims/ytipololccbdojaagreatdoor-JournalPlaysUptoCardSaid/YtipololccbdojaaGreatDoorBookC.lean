/-
  Bytes that are lent (longshoreref03): LentBytes, AsLentBytes; the marks of a book of bytes. A book of bytes that came out (longshoreref03.ByteBook): Take, Owned. Owned: each list is written full, all are grown, each reads as it was written. Owned holds of every book.
-/
import Derived.Test.YtipololccbdojaaGreatDoorDiskS
import Derived.Test.YtipololccbdojaaGreatDoorLentWp
import Derived.Test.YtipololccbdojaaGreatDoorSvRow
namespace Go.Sv
open Go
theorem wrap_u8 {n : Int} (h1 : 0 ≤ n) : IntKind.wrap .u8 n = n % 256 := by
  unfold IntKind.wrap
  simp [IntKind.bits, IntKind.signed]
theorem take_set_succ {α : Type} {l : List α} {i : Nat} {v : α} (h : i < l.length) : (l.set i v).take (i + 1) = l.take i ++ [v] := by
  rw [List.take_add_one, List.take_set_of_le (Nat.le_refl _), List.getElem?_set_self h]; rfl
theorem drop_set_succ {α : Type} {l : List α} {i : Nat} {v : α} : (l.set i v).drop (i + 1) = l.drop (i + 1) := by
  rw [List.drop_set_of_lt (by omega)]
theorem Rd.of_blk {w : World} {k n sz : Nat} {cs : List Value} (h : blk w k = some cs) (hn : n * sz ≤ cs.length) : Rd w (some ⟨k, 0, none⟩) n sz (cs.take (n * sz)) :=
  ⟨by simp; omega, .inr ⟨k, 0, cs, rfl, blk_cells h, by omega, by rw [List.drop_zero]⟩⟩
end Go.Sv
namespace Go.Proofs.YtipololccbdojaaGreatDoor
open Go Go.Sv Go.MapKept
set_option linter.unusedVariables false
set_option maxRecDepth 4000

def marks9 : List UInt8 := (List.range 9).map fun j => UInt8.ofNat (200 + j)
theorem marks9_at {j : Nat} (h : j < 9) : (bytesV marks9)[j]? = some (.int .u8 (200 + j : Int)) := by
  unfold marks9 bytesV
  rw [List.getElem?_map, List.getElem?_map, List.getElem?_range h]
  simp
  omega
theorem lentAt {l : List UInt8} {i : Nat} (h1 : l.length ≤ i) (h2 : i < l.length + 9) : (bytesV (l ++ marks9))[i]? = some (.int .u8 (200 + i - l.length : Int)) := by
  rw [bytesV_append, List.getElem?_append_right (by simp; omega), bytesV_length, marks9_at (by omega)]
  congr 2; omega
theorem lentLen (l : List UInt8) : (bytesV (l ++ marks9)).length = l.length + 9 := by rw [bytesV_length, List.length_append]; rfl
theorem byte_size : (Tryz.prog.info? 5).map (·.size) = some 1 := by kernel_rfl
set_option maxHeartbeats 1000000 in
theorem lent_ok {b : Option Addr} {n c : Nat} {w : World} {l : List UInt8} {K : Value → World → Prop} (h : Rd w b n 1 (bytesV l)) (hn : n ≤ 2 ^ 40)
    (hk : ∀ k w', blk w' k = some (bytesV (l ++ marks9)) → w.heap.size ≤ k → Ch (fun _ => False) w w' → K (.slice (some ⟨k, 0, none⟩) n (n + 9)) w') : callP Tryz.prog 12 [.slice b n c] w K := by
  have hl : l.length = n := by have := h.1; simpa using this
  refine ok_longshoreref03_LentBytes ?_
  unfold wp_longshoreref03_LentBytes
  rw [wrap_id (by omega) (by omega)]
  obtain ⟨w1, r1, b1, c1, z1⟩ := make_bytes (w := w) (n + 9) (by omega)
  rw [show ((n + 9 : Nat) : Int) = (n : Int) + 9 by omega] at r1
  refine ⟨_, _, _, w1, r1, ?_⟩
  have hr1 : Rd w1 b n 1 (bytesV l) := h.ch c1 fun _ _ _ => id
  have hlz : (bytesV (List.replicate (n + 9) 0)).length = n + 9 := by simp
  -- the bytes are copied
  have hcopy : ∃ n1 w2, Sem.run Tryz.prog (Builtin.copy_ #[23, 23] 3 #[.slice (some ⟨w.heap.size, 0, none⟩) (n + 9) (n + 9), .slice b n c]) w1 = .ok (.int .i64 n1) w2 ∧ (∃ cs, blk w2 w.heap.size = some cs ∧ cs.length = n + 9 ∧ cs.take n = bytesV l) ∧ Ch (· = w.heap.size) w1 w2 := by
    by_cases h0 : n = 0
    · refine ⟨0, w1, run_copy_none w1 _ _ _ _ _ _ _ _ _ _ Tryz.underlying23 byte_size (by subst h0; exact Nat.zero_min _), ⟨_, b1, hlz, ?_⟩, Ch.refl _ _⟩
      subst h0
      have : l = [] := List.eq_nil_of_length_eq_zero hl
      subst this; rfl
    · obtain ⟨h1, h2⟩ := hr1
      rcases h2 with h2 | ⟨k, o, cs, rfl, hcs, hle, ht⟩
      · omega
      have hr := run_copy_cells (P := Tryz.prog) w1 23 23 3 5 w.heap.size 0 (n + 9) (n + 9) ⟨k, o, none⟩ n c (bytesV l) Tryz.underlying23 byte_size (by rw [bytesV_length, hl]; exact (Nat.min_eq_left (by omega)).symm)
        (fun j v hj => by
          have hjl := (List.getElem?_eq_some_iff.1 hj).1
          rw [add_at, cell_of hcs, ← hj, ← ht, List.getElem?_take, if_pos (by omega), List.getElem?_drop])
        (fun j hj => by rw [cell_blk b1]; simp at hj ⊢; omega) (fun j hj => frozen_blk b1 (by simp at hj ⊢; omega)) (fun v hv => by rw [oneCell_of]; exact bytesV_one l v hv)
      obtain ⟨g1, g2, _⟩ := setCells_blk (bytesV l) b1 (o := 0) (by simp; omega)
      refine ⟨_, _, hr, ⟨_, g1, ?_, ?_⟩, g2⟩
      · rw [putSeg_length (by simp; omega)]; simp
      · unfold putSeg
        rw [List.take_zero, List.nil_append, List.take_append_of_le_length (by simp; omega), List.take_of_length_le (by simp; omega)]
  obtain ⟨n1, w2, r2, ⟨cs2, b2, hcl, hct⟩, c2⟩ := hcopy
  refine ⟨n1, w2, r2, ?_⟩
  refine ⟨fun m k w' => ∃ (i : Nat) (cs : List Value), k = i ∧ n ≤ i ∧ i ≤ n + 9 ∧ m = n + 9 - i ∧ blk w' w.heap.size = some cs ∧ cs.length = n + 9 ∧ cs.take i = (bytesV (l ++ marks9)).take i ∧ Ch (· = w.heap.size) w1 w',
    ⟨9, n, cs2, rfl, by omega, by omega, by omega, b2, hcl, by rw [hct, bytesV_append, List.take_append_of_le_length (by simp; omega), List.take_of_length_le (by simp; omega)], c2⟩, ?_⟩
  rintro m k w3 ⟨i, cs, rfl, hi1, hi2, rfl, b3, hl3, ht3, c3⟩
  simp only [nn_some, add_at, Nat.zero_add, Nat.add_zero, Nat.mul_one, Int.toNat_natCast]
  refine Sif_cases (fun g => ?_) fun g => ?_
  · have hlt : i < n + 9 := by have := of_decide_eq_true g; omega
    refine ⟨by omega, by omega, st_blk b3 (by omega) fun w4 b4 c4 z4 => ?_⟩
    rw [nameI_iff, wrap_id (n := (i : Int) + 1) (by omega) (by omega)]
    refine ⟨n + 9 - (i + 1), by omega, i + 1, _, by simp, by omega, by omega, rfl, b4, by simpa using hl3, ?_, c3.trans' c4⟩
    rw [take_set_succ (by omega), ht3, List.take_add_one, lentAt (by omega) (by omega)]
    rw [wrap_id (n := 200 + (i : Int)) (by omega) (by omega), wrap_id (by omega) (by omega), wrap_u8 (by omega), hl]
    simp only [Option.toList_some, List.append_cancel_left_eq, List.cons.injEq, Value.int.injEq, true_and, and_true]
    omega
  · have hge : i = n + 9 := by have := of_decide_eq_false g; omega
    subst hge
    have hfin : cs = bytesV (l ++ marks9) := by
      rw [List.take_of_length_le (by omega), List.take_of_length_le (by rw [lentLen]; omega)] at ht3; exact ht3
    rw [hfin] at b3
    exact ⟨by omega, by omega, hk _ w3 b3 (Nat.le_refl _) (c1.trans c3 fun x hx h => by omega)⟩
set_option maxHeartbeats 1000000 in
theorem asLent_ok {k : Nat} {b : Option Addr} {n c : Nat} {w : World} {l : List UInt8} {K : Value → World → Prop} (hb : blk w k = some (bytesV (l ++ marks9))) (h : Rd w b n 1 (bytesV l)) (hn : n ≤ 2 ^ 40)
    (hk : ∀ w', Ch (· = k) w w' → w'.heap.size = w.heap.size → K (.bool true) w') : callP Tryz.prog 14 [.slice (some ⟨k, 0, none⟩) n (n + 9), .slice b n c] w K := by
  have hl : l.length = n := by have := h.1; simpa using this
  refine ok_longshoreref03_AsLentBytes ?_
  unfold wp_longshoreref03_AsLentBytes
  refine Sif_cases (fun g => by simp at g) fun _ => ?_
  rw [wrap_id (n := (n : Int) + 9) (by omega) (by omega)]
  have hrd : Rd w (some ⟨k, 0, none⟩) n 1 (bytesV l) := by
    have := Rd.of_blk (n := n) (sz := 1) hb (by rw [lentLen]; omega)
    rw [Nat.mul_one, bytesV_append, List.take_append_of_le_length (by simp; omega), List.take_of_length_le (by simp; omega)] at this
    exact this
  refine ⟨by omega, by omega, _, toStr hrd, _, toStr h, ?_⟩
  rw [str_eq_self, show ((n : Int) + 9).toNat = n + 9 by omega]
  refine ⟨fun m g j w' => ∃ (i : Nat) (cs : List Value), g = true ∧ j = i ∧ i ≤ n + 9 ∧ m = n + 9 - i ∧ blk w' k = some cs ∧ cs.length = n + 9 ∧ cs.drop i = (bytesV (l ++ marks9)).drop i ∧ Ch (· = k) w w' ∧ w'.heap.size = w.heap.size,
    ⟨n + 9, 0, _, rfl, rfl, by omega, by omega, hb, by rw [lentLen, hl], rfl, Ch.refl _ _, rfl⟩, ?_⟩
  rintro m g j w1 ⟨i, cs, rfl, rfl, hi, rfl, b1, hcl, hd, c1, z1⟩
  refine Sif_cases (fun g => ?_) fun g => hk w1 c1 z1
  have hlt : i < n + 9 := by have := of_decide_eq_true g; omega
  simp only [nn_some, add_at, Nat.zero_add, Nat.add_zero, Nat.mul_one, Int.toNat_natCast]
  refine ⟨fun g' w' => g' = true ∧ ∃ cs, blk w' k = some cs ∧ cs.length = n + 9 ∧ cs.drop (i + 1) = (bytesV (l ++ marks9)).drop (i + 1) ∧ Ch (· = k) w w' ∧ w'.heap.size = w.heap.size, ?_, fun g' w' => g' = true ∧ w' = w1, ?_, ?_⟩
  · rintro g' w2 ⟨rfl, cs', h1, h2, h3, h4, h5⟩
    rw [nameI_iff, wrap_id (by omega) (by omega)]
    exact ⟨n + 9 - (i + 1), by omega, i + 1, cs', rfl, by simp, by omega, rfl, h1, h2, h3, h4, h5⟩
  · rintro g' w2 ⟨rfl, rfl⟩
    refine ⟨by omega, by omega, st_blk b1 (by omega) fun w3 b3 c3 z3 => ⟨rfl, _, b3, by simpa using hcl, ?_, c1.trans' c3, by omega⟩⟩
    rw [drop_set_succ, ← List.drop_drop (i := 1) (j := i), hd, List.drop_drop]
  · refine Sif_cases (fun q => ⟨by omega, by omega, ?_⟩) fun q => ⟨rfl, rfl⟩
    have hq : n ≤ i := by have := of_decide_eq_true q; omega
    have hcell : w1.cell? ⟨k, i, none⟩ = some (.int .u8 (200 + i - l.length : Int)) := by
      rw [cell_blk b1]
      have h1 : cs[i]? = (cs.drop i)[0]? := by simp
      rw [h1, hd, List.getElem?_drop, Nat.add_zero, lentAt (by omega) (by omega)]
    refine ⟨_, hcell, Sif_cases (fun q2 => ?_) fun _ => ⟨rfl, rfl⟩⟩
    exfalso
    rw [wrap_id (n := 200 + (i : Int)) (by omega) (by omega), wrap_id (by omega) (by omega), wrap_u8 (by omega), hl] at q2
    simp at q2
    omega
end Go.Proofs.YtipololccbdojaaGreatDoor
namespace Go.Proofs.YtipololccbdojaaGreatDoor
open Go Go.Sv Go.MapKept
set_option linter.unusedVariables false
set_option maxRecDepth 4000

/-- a list of bytes that is its owner's -/
structure BL where
  p : Option Addr
  n : Nat
  c : Nat
  own : Option Nat
def BL.cells (x : BL) : List Value := [.slice x.p x.n x.c]
theorem BL.cells_len (o : BL) : o.cells.length = 1 := rfl
theorem BL.cells_one (o : BL) : ∀ v ∈ o.cells, oneV v = true := by intro v hv; simp [BL.cells] at hv; subst hv; rfl
def bowns (T : List BL) : List Nat := T.flatMap fun x => x.own.toList
structure BookR (w : World) (a : Nat) (T : List BL) (p : Option Addr) (c : Nat) (tb : Option Nat) : Prop where
  head : blk w a = some [.slice p T.length c]
  row : Ow w p T.length c 1 (T.flatMap BL.cells) tb
  each : ∀ x ∈ T, ∃ l : List UInt8, Ow w x.p x.n x.c 1 (bytesV l) x.own
  nodup : (a :: (tb.toList ++ bowns T)).Nodup
theorem lists_info : InfoIs Tryz.prog 23 1 24 (.slice none 0 0) := .of (by kernel_rfl) (by kernel_rfl) (by kernel_rfl)
theorem BookR.lt {w : World} {a : Nat} {T : List BL} {p : Option Addr} {c : Nat} {tb : Option Nat} (B : BookR w a T p c tb) : ∀ b ∈ a :: (tb.toList ++ bowns T), b < w.heap.size := by
  intro b hb
  rcases List.mem_cons.1 hb with rfl | hb
  · exact blk_lt B.head
  · rcases List.mem_append.1 hb with hb | hb
    · exact B.row.blt b (by simpa using hb)
    · obtain ⟨x, hx, hxb⟩ := List.mem_flatMap.1 hb
      obtain ⟨l, hl⟩ := B.each x hx
      exact hl.blt b (by simpa using hxb)
theorem BookR.ch {S : Nat → Prop} {w w' : World} {a : Nat} {T : List BL} {p : Option Addr} {c : Nat} {tb : Option Nat} (B : BookR w a T p c tb) (hc : Ch S w w') (hn : ∀ b ∈ a :: (tb.toList ++ bowns T), ¬ S b) : BookR w' a T p c tb := by
  refine ⟨by rw [hc.blk (blk_lt B.head) (hn a (by simp))]; exact B.head, B.row.ch hc fun k hk => hn k (by simp [hk]), fun x hx => ?_, B.nodup⟩
  obtain ⟨l, hl⟩ := B.each x hx
  exact ⟨l, hl.ch hc fun k hk => hn k (List.mem_cons_of_mem _ (List.mem_append.2 (.inr (List.mem_flatMap.2 ⟨x, hx, by simp [hk]⟩))))⟩
theorem book_new {w : World} {a : Nat} (h : blk w a = some [.slice none 0 0]) : BookR w a [] none 0 none := ⟨h, Ow.nil, by simp, by simp [bowns]⟩
theorem take_ok {w : World} {a : Nat} {T : List BL} {p : Option Addr} {c : Nat} {tb : Option Nat} {x : BL} {l : List UInt8} {K : Value → World → Prop} (B : BookR w a T p c tb) (hlen : T.length < 2 ^ 42) (hx : Ow w x.p x.n x.c 1 (bytesV l) x.own)
    (hn : ∀ k, x.own = some k → k ∉ a :: (tb.toList ++ bowns T))
    (hk : ∀ p' c' tb' w', BookR w' a (T ++ [x]) p' c' tb' → Ch (fun k => k = a ∨ tb = some k) w w' → (∀ k, tb' = some k → tb = some k ∨ w.heap.size ≤ k) → K (.tuple #[]) w') :
    callP Tryz.prog 43 [.pointer (some ⟨a, 0, none⟩), .slice x.p x.n x.c] w K := by
  refine ok_longshoreref03_ByteBook_Take ?_
  unfold wp_longshoreref03_ByteBook_Take
  simp only [nn_some, add_at, Nat.zero_add]
  refine ⟨_, _, _, by rw [cell_blk B.head]; rfl, ?_⟩
  have hlt := B.lt
  have hnd := B.nodup
  obtain ⟨na, nr⟩ := List.nodup_cons.1 hnd
  refine push_ok (g := BL.cells) Tryz.underlying29 lists_info rfl BL.cells_len BL.cells_one B.row x (by omega) (by omega) fun p' c' b' w' o' n' c1 => ?_
  have hta : ∀ k, tb = some k → k ≠ a := fun k hk e => na (by rw [← e, hk]; simp)
  have B1h : blk w' a = some [.slice p T.length c] := by rw [c1.blk (blk_lt B.head) fun e => na (by rw [e]; simp)]; exact B.head
  refine st_blk B1h (by simp) fun w2 b2 c2 z2 => ?_
  have hba : ∀ k, b' = some k → k ≠ a := fun k hk e => by
    rcases n' k hk with h | h
    · exact hta k h e
    · have := hlt a (by simp); omega
  have hown : ∀ y ∈ T, ∀ k, y.own = some k → k ∈ bowns T := fun y hy k hk => List.mem_flatMap.2 ⟨y, hy, by simp [hk]⟩
  have hsep : ∀ k ∈ bowns T, tb ≠ some k ∧ k ≠ a := fun k hk => by
    refine ⟨fun e => ?_, fun e => na (by rw [← e]; exact List.mem_append.2 (.inr hk))⟩
    exact (List.nodup_append.1 nr).2.2 k (by simp [e]) k hk rfl
  have hsepx : ∀ k, x.own = some k → tb ≠ some k ∧ k ≠ a := fun k hk => by
    have := hn k hk
    simp only [List.mem_cons, List.mem_append, not_or] at this
    exact ⟨fun e => this.2.1 (by simp [e]), this.1⟩
  refine hk p' c' b' w2 ⟨?_, o'.ch c2 hba, fun y hy => ?_, ?_⟩ ((c1.mono fun k _ h => .inr h).trans' (c2.mono fun k _ h => .inl h)) n'
  · rw [b2]; rfl
  · rcases List.mem_append.1 hy with hy | hy
    · obtain ⟨l', hl'⟩ := B.each y hy
      exact ⟨l', (hl'.ch c1 fun k hk => (hsep k (hown y hy k hk)).1).ch c2 fun k hk => (hsep k (hown y hy k hk)).2⟩
    · simp only [List.mem_singleton] at hy
      subst hy
      exact ⟨l, (hx.ch c1 fun k hk => (hsepx k hk).1).ch c2 fun k hk => (hsepx k hk).2⟩
  · have e : bowns (T ++ [x]) = bowns T ++ x.own.toList := by simp [bowns]
    rw [e]
    have hxlt : ∀ k, x.own = some k → k < w.heap.size := hx.blt
    have hT : (bowns T ++ x.own.toList).Nodup := by
      refine List.nodup_append.2 ⟨(List.nodup_append.1 nr).2.1, by cases x.own <;> simp, fun u hu v hv e => ?_⟩
      subst e
      exact hn u (by simpa using hv) (List.mem_cons_of_mem _ (List.mem_append.2 (.inr hu)))
    refine List.nodup_cons.2 ⟨fun h => ?_, List.nodup_append.2 ⟨by cases b' <;> simp, hT, fun u hu v hv e => ?_⟩⟩
    · rcases List.mem_append.1 h with h | h
      · exact hba a (by simpa using h) rfl
      · rcases List.mem_append.1 h with h | h
        · exact na (List.mem_append.2 (.inr h))
        · exact (hsepx a (by simpa using h)).2 rfl
    · subst e
      have hv' : u ∈ bowns T ∨ x.own = some u := (List.mem_append.1 hv).imp id fun h => by simpa using h
      rcases n' u (by simpa using hu) with h | h
      · rcases hv' with h2 | h2
        · exact (hsep u h2).1 h
        · exact (hsepx u h2).1 h
      · rcases hv' with h2 | h2
        · have := hlt u (List.mem_cons_of_mem _ (List.mem_append.2 (.inr h2))); omega
        · have := hxlt u h2; omega

/-! ### Owned -/
/-- the i-th mark, so many of them -/
def mk (i n : Nat) : List UInt8 := (List.range n).map fun k => UInt8.ofNat (i + k / 251)
@[simp] theorem mk_len (i n : Nat) : (mk i n).length = n := by simp [mk]
theorem mk_take {i n m : Nat} (h : m ≤ n) : (mk i n).take m = mk i m := by
  unfold mk; rw [← List.map_take, List.take_range, Nat.min_eq_left h]
theorem mk_succ (i n : Nat) : mk i (n + 1) = mk i n ++ [UInt8.ofNat (i + n / 251)] := by simp [mk, List.range_succ]
theorem mkV_succ (i n : Nat) : bytesV (mk i (n + 1)) = bytesV (mk i n) ++ [.int .u8 (((i + n / 251) % 256 : Nat) : Int)] := by rw [mk_succ, bytesV_append]; simp [bytesV]
theorem mkV_at {i n k : Nat} (h : k < n) : (bytesV (mk i n))[k]? = some (.int .u8 (((i + k / 251) % 256 : Nat) : Int)) := by
  unfold bytesV mk
  rw [List.getElem?_map, List.getElem?_map, List.getElem?_range h]; simp
theorem mark_val {i k : Nat} (h1 : i ≤ 2 ^ 60) (h2 : k ≤ 2 ^ 60) : IntKind.wrap .u8 (IntKind.wrap .i64 ((i : Int) + IntKind.wrap .i64 (Int.tdiv (k : Int) 251))) = (((i + k / 251) % 256 : Nat) : Int) := by
  have e : Int.tdiv (k : Int) 251 = ((k / 251 : Nat) : Int) := by rw [Int.tdiv_eq_ediv_of_nonneg (by omega)]; rfl
  rw [e, wrap_id (n := ((k / 251 : Nat) : Int)) (by omega) (by omega), wrap_id (by omega) (by omega), wrap_u8 (by omega)]
  omega
theorem marked_ok {w : World} {p : Option Addr} {n c i : Nat} {K : Value → World → Prop} (h : Rd w p n 1 (bytesV (mk i n))) (hi : i ≤ 2 ^ 60) (hn : n ≤ 2 ^ 60) (hk : K (.bool true) w) : callP Tryz.prog 91 [.slice p n c, .int .i64 (i : Int)] w K := by
  refine ok_longshoreref03_marked ?_
  unfold wp_longshoreref03_marked
  refine ⟨fun m k w' => ∃ j : Nat, k = j ∧ j ≤ n ∧ m = n - j ∧ w' = w, ⟨n, 0, rfl, by omega, by omega, rfl⟩, ?_⟩
  rintro m k w1 ⟨j, rfl, hj, rfl, rfl⟩
  refine Sif_cases (fun g => ?_) fun g => hk
  have hlt : j < n := by have := of_decide_eq_true g; omega
  obtain ⟨b, o, rfl, hc⟩ := h.cell (i := j) (by omega)
  rw [mkV_at hlt] at hc
  simp only [nn_some, add_at, Nat.mul_one, Int.toNat_natCast]
  refine ⟨by omega, by omega, _, hc, by omega, ?_⟩
  rw [mark_val hi (by omega), show (((((i + j / 251) % 256 : Nat) : Int)) != (((i + j / 251) % 256 : Nat) : Int)) = false by simp]
  refine Sif_false ?_
  rw [nameI_iff, wrap_id (by omega) (by omega)]
  exact ⟨n - (j + 1), by omega, j + 1, by simp, by omega, rfl, by trivial⟩
/-- a slice that was put aside, that reads as the i-th marks, in a block where nothing is done any more -/
def Aside (w : World) (busy : Nat → Prop) (i : Nat) (p : Option Addr) (n : Nat) : Prop := n ≤ 2 ^ 60 ∧ Rd w p n 1 (bytesV (mk i n)) ∧ ∀ a, p = some a → n ≠ 0 → a.block < w.heap.size ∧ ¬ busy a.block
theorem Aside.ch {S busy busy' : Nat → Prop} {w w' : World} {i n : Nat} {p : Option Addr} (h : Aside w busy i p n) (hc : Ch S w w') (hS : ∀ b, b < w.heap.size → S b → busy b) (hb : ∀ b, b < w.heap.size → busy' b → busy b) : Aside w' busy' i p n :=
  ⟨h.1, h.2.1.ch hc fun a ha h0 hs => (h.2.2 a ha (by omega)).2 (hS _ (h.2.2 a ha (by omega)).1 hs), fun a ha h0 => ⟨Nat.lt_of_lt_of_le (h.2.2 a ha h0).1 hc.size, fun hh => (h.2.2 a ha h0).2 (hb _ (h.2.2 a ha h0).1 hh)⟩⟩
end Go.Proofs.YtipololccbdojaaGreatDoor
namespace Go.Proofs.YtipololccbdojaaGreatDoor
open Go Go.Sv Go.MapKept
set_option linter.unusedVariables false
set_option maxRecDepth 10000

theorem own_ne {T : List BL} (h : (bowns T).Nodup) {i j : Nat} {x y : BL} (hi : T[i]? = some x) (hj : T[j]? = some y) (hne : i ≠ j) : ∀ k, x.own = some k → y.own ≠ some k := by
  induction T generalizing i j with
  | nil => simp at hi
  | cons z T ih =>
    have h' : (z.own.toList ++ bowns T).Nodup := h
    obtain ⟨n1, n2, n3⟩ := List.nodup_append.1 h'
    intro k hk hk2
    cases i with
    | zero =>
      cases j with
      | zero => exact hne rfl
      | succ j =>
        simp only [List.getElem?_cons_zero, Option.some.injEq] at hi
        subst hi
        exact n3 k (by simp [hk]) k (List.mem_flatMap.2 ⟨y, List.mem_of_getElem? hj, by simp [hk2]⟩) rfl
    | succ i =>
      cases j with
      | zero =>
        simp only [List.getElem?_cons_zero, Option.some.injEq] at hj
        subst hj
        exact n3 k (by simp [hk2]) k (List.mem_flatMap.2 ⟨x, List.mem_of_getElem? hi, by simp [hk]⟩) rfl
      | succ j => exact ih n2 hi hj (fun e => hne (by omega)) k hk hk2
/-- what is done to a book's lists when they are grown: at list i, whose slice is now (q, m), in block ob; gb: the block of what is put aside -/
structure Grow (w0 w : World) (a : Nat) (T : List BL) (tp : Option Addr) (tc : Nat) (tb : Option Nat) (i : Nat) (q : Option Addr) (m cc : Nat) (ob : Option Nat) (gp : Option Addr) (gc : Nat) (gb : Option Nat) (G : List BL) : Prop where
  head : blk w a = some [.slice tp T.length tc]
  row : Ow w tp T.length tc 1 (T.flatMap BL.cells) tb
  cur : Ow w q m cc 1 (bytesV (mk i m)) ob
  rest : ∀ j x, T[j]? = some x → i < j → Ow w x.p x.n x.c 1 (bytesV (mk j x.n)) x.own
  curN : ∀ k, ob = some k → k ≠ a ∧ tb ≠ some k ∧ gb ≠ some k ∧ ∀ j x, T[j]? = some x → i < j → x.own ≠ some k
  grown : Ow w gp G.length gc 1 (G.flatMap BL.cells) gb
  gbN : ∀ k, gb = some k → w0.heap.size ≤ k
  past : ∀ j x, T[j]? = some x → j ≤ i → Aside w (fun b => b = a ∨ tb = some b ∨ gb = some b ∨ ob = some b ∨ ∃ j x, T[j]? = some x ∧ i < j ∧ x.own = some b) j x.p x.n ∨ (j = i ∧ x.p = q ∧ x.n ≤ m)
  put : ∀ t g, G[t]? = some g → Aside w (fun b => b = a ∨ tb = some b ∨ gb = some b ∨ ob = some b ∨ ∃ j x, T[j]? = some x ∧ i < j ∧ x.own = some b) (t / 5) g.p g.n ∨ (t / 5 = i ∧ g.p = q ∧ g.n ≤ m)
  ch : Ch (fun b => b ∈ bowns T) w0 w
/-- .. between two lists -/
structure Grows (w0 w : World) (a : Nat) (T : List BL) (tp : Option Addr) (tc : Nat) (tb : Option Nat) (i : Nat) (gp : Option Addr) (gc : Nat) (gb : Option Nat) (G : List BL) : Prop where
  head : blk w a = some [.slice tp T.length tc]
  row : Ow w tp T.length tc 1 (T.flatMap BL.cells) tb
  rest : ∀ j x, T[j]? = some x → i ≤ j → Ow w x.p x.n x.c 1 (bytesV (mk j x.n)) x.own
  grown : Ow w gp G.length gc 1 (G.flatMap BL.cells) gb
  gbN : ∀ k, gb = some k → w0.heap.size ≤ k
  past : ∀ j x, T[j]? = some x → j < i → Aside w (fun b => b = a ∨ tb = some b ∨ gb = some b ∨ ∃ j x, T[j]? = some x ∧ i ≤ j ∧ x.own = some b) j x.p x.n
  put : ∀ t g, G[t]? = some g → Aside w (fun b => b = a ∨ tb = some b ∨ gb = some b ∨ ∃ j x, T[j]? = some x ∧ i ≤ j ∧ x.own = some b) (t / 5) g.p g.n
  ch : Ch (fun b => b ∈ bowns T) w0 w
/-- what stands in a book -/
structure BookN (w0 : World) (a : Nat) (T : List BL) (tb : Option Nat) : Prop where
  nd : (a :: (tb.toList ++ bowns T)).Nodup
  lt : ∀ b ∈ a :: (tb.toList ++ bowns T), b < w0.heap.size
  small : ∀ x ∈ T, x.n ≤ 2 ^ 46
  len : T.length ≤ 2 ^ 40
theorem BookN.own {w0 : World} {a : Nat} {T : List BL} {tb : Option Nat} (N : BookN w0 a T tb) {j : Nat} {x : BL} (hx : T[j]? = some x) {k : Nat} (hk : x.own = some k) : k ∈ bowns T ∧ k ≠ a ∧ tb ≠ some k ∧ k < w0.heap.size := by
  have h1 : k ∈ bowns T := List.mem_flatMap.2 ⟨x, List.mem_of_getElem? hx, by simp [hk]⟩
  obtain ⟨n1, n2⟩ := List.nodup_cons.1 N.nd
  refine ⟨h1, fun e => n1 (by rw [← e]; exact List.mem_append.2 (.inr h1)), fun e => ?_, N.lt k (List.mem_cons_of_mem _ (List.mem_append.2 (.inr h1)))⟩
  exact (List.nodup_append.1 n2).2.2 k (by simp [e]) k h1 rfl
theorem BookN.bn {w0 : World} {a : Nat} {T : List BL} {tb : Option Nat} (N : BookN w0 a T tb) : (bowns T).Nodup := (List.nodup_append.1 (List.nodup_cons.1 N.nd).2).2.1
theorem BookN.ta {w0 : World} {a : Nat} {T : List BL} {tb : Option Nat} (N : BookN w0 a T tb) : ∀ k, tb = some k → k ≠ a ∧ k < w0.heap.size ∧ k ∉ bowns T := fun k hk => by
  obtain ⟨n1, n2⟩ := List.nodup_cons.1 N.nd
  exact ⟨fun e => n1 (by rw [← e, hk]; simp), N.lt k (by simp [hk]), fun h => (List.nodup_append.1 n2).2.2 k (by simp [hk]) k h rfl⟩
theorem BookN.al {w0 : World} {a : Nat} {T : List BL} {tb : Option Nat} (N : BookN w0 a T tb) : a < w0.heap.size ∧ a ∉ bowns T := ⟨N.lt a (by simp), fun h => (List.nodup_cons.1 N.nd).1 (List.mem_append.2 (.inr h))⟩
/-- a list is taken in hand -/
theorem Grows.start {w0 w : World} {a : Nat} {T : List BL} {tp : Option Addr} {tc : Nat} {tb : Option Nat} {i : Nat} {gp : Option Addr} {gc : Nat} {gb : Option Nat} {G : List BL} (N : BookN w0 a T tb) (H : Grows w0 w a T tp tc tb i gp gc gb G) {x : BL} (hx : T[i]? = some x) :
    Grow w0 w a T tp tc tb i x.p x.n x.c x.own gp gc gb G := by
  have busy : ∀ b, (b = a ∨ tb = some b ∨ gb = some b ∨ x.own = some b ∨ ∃ j x, T[j]? = some x ∧ i < j ∧ x.own = some b) → (b = a ∨ tb = some b ∨ gb = some b ∨ ∃ j x, T[j]? = some x ∧ i ≤ j ∧ x.own = some b) := by
    rintro b (h | h | h | h | ⟨j, y, h1, h2, h3⟩)
    · exact .inl h
    · exact .inr (.inl h)
    · exact .inr (.inr (.inl h))
    · exact .inr (.inr (.inr ⟨i, x, hx, Nat.le_refl _, h⟩))
    · exact .inr (.inr (.inr ⟨j, y, h1, by omega, h3⟩))
  refine ⟨H.head, H.row, H.rest i x hx (Nat.le_refl _), fun j y hy hj => H.rest j y hy (by omega), fun k hk => ?_, H.grown, H.gbN, fun j y hy hj => ?_, fun t g hg => .inl ?_, H.ch⟩
  · have h1 := N.own hx hk
    refine ⟨h1.2.1, h1.2.2.1, fun e => by have := H.gbN k e; omega, fun j y hy hj => own_ne N.bn hx hy (by omega) k hk⟩
  · by_cases h : j = i
    · subst h
      rw [hx] at hy; cases hy
      exact .inr ⟨rfl, rfl, Nat.le_refl _⟩
    · exact .inl ((H.past j y hy (by omega)).ch (Ch.refl (fun _ => False) w) (fun _ _ h => h.elim) fun b _ hb => busy b hb)
  · exact (H.put t g hg).ch (Ch.refl (fun _ => False) w) (fun _ _ h => h.elim) fun b _ hb => busy b hb
/-- what was in hand is put aside -/
theorem Grow.aside {w0 w : World} {a : Nat} {T : List BL} {tp : Option Addr} {tc : Nat} {tb : Option Nat} {i : Nat} {q : Option Addr} {m cc : Nat} {ob : Option Nat} {gp : Option Addr} {gc : Nat} {gb : Option Nat} {G : List BL}
    (H : Grow w0 w a T tp tc tb i q m cc ob gp gc gb G) (hm : m ≤ 2 ^ 60) {n : Nat} (hn : n ≤ m) {busy : Nat → Prop} (hb : ∀ k, ob = some k → ¬ busy k) : Aside w busy i q n := by
  refine ⟨by omega, ?_, fun b hb' h0 => ?_⟩
  · have := Rd.take H.cur.rd hn
    rw [mk_take hn] at this; exact this
  · obtain ⟨h1, h2, h3⟩ := H.cur
    rcases h3 with ⟨_, h3⟩ | ⟨k, o, cs, hk, hp, hcs, _⟩
    · omega
    · rw [hp] at hb'; cases hb'
      exact ⟨blk_lt hcs, hb k hk⟩
theorem Grow.stop {w0 w : World} {a : Nat} {T : List BL} {tp : Option Addr} {tc : Nat} {tb : Option Nat} {i : Nat} {q : Option Addr} {m cc : Nat} {ob : Option Nat} {gp : Option Addr} {gc : Nat} {gb : Option Nat} {G : List BL}
    (H : Grow w0 w a T tp tc tb i q m cc ob gp gc gb G) (hm : m ≤ 2 ^ 60) : Grows w0 w a T tp tc tb (i + 1) gp gc gb G := by
  have nb : ∀ k, ob = some k → ¬ (k = a ∨ tb = some k ∨ gb = some k ∨ ∃ j x, T[j]? = some x ∧ i + 1 ≤ j ∧ x.own = some k) := by
    rintro k hk (h | h | h | ⟨j, y, h1, h2, h3⟩)
    · exact (H.curN k hk).1 h
    · exact (H.curN k hk).2.1 h
    · exact (H.curN k hk).2.2.1 h
    · exact (H.curN k hk).2.2.2 j y h1 (by omega) h3
  have busy : ∀ b, (b = a ∨ tb = some b ∨ gb = some b ∨ ∃ j x, T[j]? = some x ∧ i + 1 ≤ j ∧ x.own = some b) → (b = a ∨ tb = some b ∨ gb = some b ∨ ob = some b ∨ ∃ j x, T[j]? = some x ∧ i < j ∧ x.own = some b) := by
    rintro b (h | h | h | ⟨j, y, h1, h2, h3⟩)
    · exact .inl h
    · exact .inr (.inl h)
    · exact .inr (.inr (.inl h))
    · exact .inr (.inr (.inr (.inr ⟨j, y, h1, by omega, h3⟩)))
  refine ⟨H.head, H.row, fun j x hx hj => H.rest j x hx (by omega), H.grown, H.gbN, fun j x hx hj => ?_, fun t g hg => ?_, H.ch⟩
  · rcases H.past j x hx (by omega) with h | ⟨rfl, h1, h2⟩
    · exact h.ch (Ch.refl (fun _ => False) w) (fun _ _ h => h.elim) fun b _ hb => busy b hb
    · rw [h1]; exact H.aside hm h2 nb
  · rcases H.put t g hg with h | ⟨h0, h1, h2⟩
    · exact h.ch (Ch.refl (fun _ => False) w) (fun _ _ h => h.elim) fun b _ hb => busy b hb
    · rw [h0, h1]; exact H.aside hm h2 nb
/-- one byte more -/
theorem Grow.byte {te : TypeId} {w0 w : World} {a : Nat} {T : List BL} {tp : Option Addr} {tc : Nat} {tb : Option Nat} {i : Nat} {q : Option Addr} {m cc : Nat} {ob : Option Nat} {gp : Option Addr} {gc : Nat} {gb : Option Nat} {G : List BL}
    (N : BookN w0 a T tb) (H : Grow w0 w a T tp tc tb i q m cc ob gp gc gb G) (hi : i ≤ 2 ^ 60) (hm : m < 2 ^ 47) (hobs : ∀ k, ob = some k → k ∈ bowns T ∨ w0.heap.size ≤ k) {K : Option Addr → Nat → Nat → World → Prop}
    (hk : ∀ q' cc' ob' w', Grow w0 w' a T tp tc tb i q' (m + 1) cc' ob' gp gc gb G → (∀ k, ob' = some k → k ∈ bowns T ∨ w0.heap.size ≤ k) → K q' (m + 1) cc' w') :
    newB w [.int .u8 (IntKind.wrap .u8 (IntKind.wrap .i64 ((i : Int) + IntKind.wrap .i64 (Int.tdiv (m : Int) 251))))] te fun a4 w4 => ∃ p7 n10 c7 w5, Sem.run Tryz.prog (Builtin.append_ #[23, 23] 23 #[.slice q m cc, .slice (some a4) 1 1]) w4 = .ok (.slice p7 n10 c7) w5 ∧ K p7 n10 c7 w5 := by
  rw [mark_val hi (by omega)]
  refine newB_blk fun w4 b4 c4 z4 => ?_
  have hrd : Rd w4 (some ⟨w.heap.size, 0, none⟩) 1 1 [.int .u8 (((i + m / 251) % 256 : Nat) : Int)] := ⟨rfl, .inr ⟨_, 0, _, rfl, blk_cells b4, by simp, rfl⟩⟩
  obtain ⟨p', c', w', b', r1, r2, r3⟩ := append_rd2 (ty := 23) (c2 := 1) Tryz.underlying23 Tryz.underlying23 byte_info rfl (H.cur.ch c4 fun _ _ => id) hrd (by simp [oneV]) (by omega) (by omega)
  rw [← mkV_succ] at r2
  refine ⟨p', _, c', w', r1, hk p' c' b' w' ?_ ?_⟩
  rotate_left
  · intro k hk
    rcases r3 with ⟨rfl, _, _⟩ | ⟨rfl, _, _⟩
    · exact hobs k hk
    · cases hk; have := H.ch.size; have := c4.size; exact .inr (by omega)
  have hlt : ∀ (j : Nat) (x : BL), T[j]? = some x → ∀ k, x.own = some k → k < w.heap.size := fun j x hx k hk => by have := (N.own hx hk).2.2.2; have := H.ch.size; omega
  have hal : a < w.heap.size := by have := N.al.1; have := H.ch.size; omega
  have htl : ∀ k, tb = some k → k < w.heap.size := H.row.blt
  have hgl : ∀ k, gb = some k → k < w.heap.size := H.grown.blt
  have hol : ∀ k, ob = some k → k < w.heap.size := H.cur.blt
  -- whatever happened, only what was in hand has changed
  have hch : Ch (fun k => ob = some k) w w' := by
    rcases r3 with ⟨_, _, h⟩ | ⟨_, _, h⟩
    · exact (c4.mono fun _ _ h => h.elim).trans' h
    · exact ((c4.new h).mono fun _ _ h => h.elim)
  have hb' : ∀ k, b' = some k → ob = some k ∨ w.heap.size ≤ k := fun k hk => by
    rcases r3 with ⟨rfl, _, _⟩ | ⟨rfl, _, _⟩
    · exact .inl hk
    · cases hk; exact .inr (by omega)
  have busy : ∀ b, b < w.heap.size → (b = a ∨ tb = some b ∨ gb = some b ∨ b' = some b ∨ ∃ j x, T[j]? = some x ∧ i < j ∧ x.own = some b) → (b = a ∨ tb = some b ∨ gb = some b ∨ ob = some b ∨ ∃ j x, T[j]? = some x ∧ i < j ∧ x.own = some b) := by
    rintro b hbl (h | h | h | h | h)
    · exact .inl h
    · exact .inr (.inl h)
    · exact .inr (.inr (.inl h))
    · rcases hb' b h with h | h
      · exact .inr (.inr (.inr (.inl h)))
      · omega
    · exact .inr (.inr (.inr (.inr h)))
  -- what was put aside earlier in the same row
  have same : ∀ n (p : Option Addr), p = q → n ≤ m → Aside w' (fun b => b = a ∨ tb = some b ∨ gb = some b ∨ b' = some b ∨ ∃ j x, T[j]? = some x ∧ i < j ∧ x.own = some b) i p n ∨ (p = p' ∧ n ≤ m + 1) := by
    rintro n p rfl hn
    rcases r3 with ⟨_, rfl, _⟩ | ⟨rfl, _, h⟩
    · exact .inr ⟨rfl, by omega⟩
    · refine .inl ((H.aside (busy := fun b => False) (by omega) hn fun _ _ => id).ch (c4.new h) (fun _ _ h => h) (fun _ _ h => h) |> fun A => ⟨A.1, A.2.1, fun b hb h0 => ⟨(A.2.2 b hb h0).1, ?_⟩⟩)
      have hq := (H.aside (busy := fun b => False) (by omega) hn fun _ _ => id).2.2 b hb h0
      have hbob : ob = some b.block := by
        obtain ⟨h1, h2, h3⟩ := H.cur
        rcases h3 with ⟨_, h3⟩ | ⟨k, o, cs, hk, hp, _⟩
        · omega
        · rw [hp] at hb; cases hb; exact hk
      rintro (h | h | h | h | ⟨j, y, h1, h2, h3⟩)
      · exact (H.curN _ hbob).1 h
      · exact (H.curN _ hbob).2.1 h
      · exact (H.curN _ hbob).2.2.1 h
      · have := Option.some.inj h; omega
      · exact (H.curN _ hbob).2.2.2 j y h1 h2 h3
  refine ⟨by rw [hch.blk hal fun e => (H.curN a e).1 rfl]; exact H.head, H.row.ch hch fun k hk e => (H.curN k e).2.1 hk, r2, fun j x hx hj => (H.rest j x hx hj).ch hch fun k hk e => (H.curN k e).2.2.2 j x hx hj hk, fun k hk => ?_,
    H.grown.ch hch fun k hk e => (H.curN k e).2.2.1 hk, H.gbN, fun j x hx hj => ?_, fun t g hg => ?_, ?_⟩
  · rcases hb' k hk with h | h
    · exact H.curN k h
    · exact ⟨by omega, fun e => by have := htl k e; omega, fun e => by have := hgl k e; omega, fun j y hy _ e => by have := hlt j y hy k e; omega⟩
  · rcases H.past j x hx hj with h | ⟨rfl, h1, h2⟩
    · exact .inl (h.ch hch (fun b _ hb => .inr (.inr (.inr (.inl hb)))) busy)
    · exact (same _ _ h1 h2).imp id fun h => ⟨rfl, h⟩
  · rcases H.put t g hg with h | ⟨h0, h1, h2⟩
    · exact .inl (h.ch hch (fun b _ hb => .inr (.inr (.inr (.inl hb)))) busy)
    · rw [h0]
      exact (same _ _ h1 h2).imp id fun h => ⟨rfl, h⟩
  · exact H.ch.trans hch fun k hk h => (hobs k h).resolve_right (by omega)
/-- it is put aside as it stands -/
theorem Grow.putA {te : TypeId} {w0 w : World} {a : Nat} {T : List BL} {tp : Option Addr} {tc : Nat} {tb : Option Nat} {i : Nat} {q : Option Addr} {m cc : Nat} {ob : Option Nat} {gp : Option Addr} {gc : Nat} {gb : Option Nat} {G : List BL}
    (N : BookN w0 a T tb) (H : Grow w0 w a T tp tc tb i q m cc ob gp gc gb G) (hG : G.length / 5 = i) (hi : i < T.length) {K : Option Addr → Nat → Nat → World → Prop}
    (hk : ∀ gp' gc' gb' w', Grow w0 w' a T tp tc tb i q m cc ob gp' gc' gb' (G ++ [({ p := q, n := m, c := cc, own := none } : BL)]) → K gp' (G ++ [({ p := q, n := m, c := cc, own := none } : BL)]).length gc' w') :
    newB w [.slice q m cc] te fun a4 w4 => ∃ p7 n10 c7 w5, Sem.run Tryz.prog (Builtin.append_ #[29, 29] 29 #[.slice gp G.length gc, .slice (some a4) 1 1]) w4 = .ok (.slice p7 n10 c7) w5 ∧ K p7 n10 c7 w5 := by
  have hlen := N.len
  refine push_ok (g := BL.cells) Tryz.underlying29 lists_info rfl BL.cells_len BL.cells_one H.grown ({ p := q, n := m, c := cc, own := none } : BL) (by omega) (by omega) fun p' c' b' w' o' n' c1 => hk p' c' b' w' ?_
  have hz := H.ch.size
  have hal : a < w.heap.size := by have := N.al.1; omega
  have hlt : ∀ (j : Nat) (x : BL), T[j]? = some x → ∀ k, x.own = some k → k < w0.heap.size := fun j x hx k hk => (N.own hx hk).2.2.2
  have hob' : ∀ k, ob = some k → b' ≠ some k := fun k hk e => by
    rcases n' k e with h | h
    · exact (H.curN k hk).2.2.1 h
    · have := H.cur.blt k hk; omega
  have busy : ∀ b, b < w.heap.size → (b = a ∨ tb = some b ∨ b' = some b ∨ ob = some b ∨ ∃ j x, T[j]? = some x ∧ i < j ∧ x.own = some b) → (b = a ∨ tb = some b ∨ gb = some b ∨ ob = some b ∨ ∃ j x, T[j]? = some x ∧ i < j ∧ x.own = some b) := by
    rintro b hbl (h | h | h | h)
    · exact .inl h
    · exact .inr (.inl h)
    · rcases n' b h with h | h
      · exact .inr (.inr (.inl h))
      · omega
    · exact .inr (.inr (.inr h))
  have hhd : blk w' a = some [.slice tp T.length tc] := by
    rw [c1.blk hal fun e => by have := H.gbN a e; have := N.al.1; omega]; exact H.head
  refine ⟨hhd, H.row.ch c1 fun k hk e => by have := H.gbN k e; have := (N.ta k hk).2.1; omega, H.cur.ch c1 fun k hk e => (H.curN k hk).2.2.1 e,
    fun j x hx hj => (H.rest j x hx hj).ch c1 fun k hk e => by have := H.gbN k e; have := hlt j x hx k hk; omega, fun k hk => ⟨(H.curN k hk).1, (H.curN k hk).2.1, hob' k hk, (H.curN k hk).2.2.2⟩, o', fun k hk => ?_, fun j x hx hj => ?_, fun t g hg => ?_, ?_⟩
  · rcases n' k hk with h | h
    · exact H.gbN k h
    · omega
  · rcases H.past j x hx hj with h | h
    · exact .inl (h.ch c1 (fun b _ hb => .inr (.inr (.inl hb))) busy)
    · exact .inr h
  · by_cases ht : t < G.length
    · rw [List.getElem?_append_left ht] at hg
      rcases H.put t g hg with h | h
      · exact .inl (h.ch c1 (fun b _ hb => .inr (.inr (.inl hb))) busy)
      · exact .inr h
    · have htl := (List.getElem?_eq_some_iff.1 hg).1
      simp only [List.length_append, List.length_cons, List.length_nil] at htl
      have hte : t = G.length := by omega
      subst hte
      rw [List.getElem?_append_right (Nat.le_refl _)] at hg
      simp at hg
      subst hg
      exact .inr ⟨hG, rfl, Nat.le_refl _⟩
  · exact H.ch.trans c1 fun k hk h => by have := H.gbN k h; omega
end Go.Proofs.YtipololccbdojaaGreatDoor
namespace Go.Proofs.YtipololccbdojaaGreatDoor
open Go Go.Sv Go.MapKept
set_option linter.unusedVariables false
set_option maxRecDepth 10000

theorem BL.at {w : World} {p : Option Addr} {T : List BL} {c : Nat} {b : Option Nat} (h : Ow w p T.length c 1 (T.flatMap BL.cells) b) {i : Nat} {x : BL} (hi : T[i]? = some x) : ∃ k o, p = some ⟨k, o, none⟩ ∧ w.cell? ⟨k, o + i, none⟩ = some (.slice x.p x.n x.c) := by
  obtain ⟨k, o, hp, hc⟩ := Rd.at BL.cells_len h.rd hi (by omega)
  exact ⟨k, o, hp, by have := hc 0 _ rfl; simpa using this⟩
def cntG (k : Nat) : Nat := min k 3 + (if 8 < k then 1 else 0) + (if 19 < k then 1 else 0)
theorem Grow.putB {te : TypeId} {w0 w : World} {a : Nat} {T : List BL} {tp : Option Addr} {tc : Nat} {tb : Option Nat} {i k : Nat} {q : Option Addr} {m cc : Nat} {ob : Option Nat} {gp : Option Addr} {gc : Nat} {gb : Option Nat} {G : List BL}
    (N : BookN w0 a T tb) (H : Grow w0 w a T tp tc tb i q m cc ob gp gc gb G) (hG : G.length = 5 * i + cntG k) (hk5 : cntG k < 5) (hk1 : cntG (k + 1) = cntG k + 1) (hi : i < T.length) {K : Option Addr → Nat → Nat → World → Prop}
    (hk : ∀ gp' gc' gb' w' G', Grow w0 w' a T tp tc tb i q m cc ob gp' gc' gb' G' → G'.length = 5 * i + cntG (k + 1) → K gp' G'.length gc' w') :
    newB w [.slice q m cc] te fun a4 w4 => ∃ p7 n10 c7 w5, Sem.run Tryz.prog (Builtin.append_ #[29, 29] 29 #[.slice gp G.length gc, .slice (some a4) 1 1]) w4 = .ok (.slice p7 n10 c7) w5 ∧ K p7 n10 c7 w5 :=
  H.putA N (by omega) hi fun gp' gc' gb' w' H' => hk gp' gc' gb' w' _ H' (by simp; omega)
set_option maxHeartbeats 4000000 in
theorem owned_ok {w : World} {a : Nat} {T : List BL} {p : Option Addr} {c : Nat} {tb : Option Nat} {K : Value → World → Prop} (B : BookR w a T p c tb) (hsmall : ∀ x ∈ T, x.n ≤ 2 ^ 46) (hlen : T.length ≤ 2 ^ 40)
    (hk : ∀ w', Ch (fun b => b ∈ bowns T) w w' → K (.bool true) w') : callP Tryz.prog 44 [.pointer (some ⟨a, 0, none⟩)] w K := by
  have N : BookN w a T tb := ⟨B.nodup, B.lt, hsmall, hlen⟩
  have hal := N.al
  refine ok_longshoreref03_ByteBook_Owned ?_
  unfold wp_longshoreref03_ByteBook_Owned
  -- each list is written full
  refine ⟨fun m k w' => ∃ i : Nat, k = i ∧ i ≤ T.length ∧ m = T.length - i ∧ blk w' a = some [.slice p T.length c] ∧ Ow w' p T.length c 1 (T.flatMap BL.cells) tb ∧
      (∀ (j : Nat) (x : BL), T[j]? = some x → ∃ l : List UInt8, Ow w' x.p x.n x.c 1 (bytesV l) x.own ∧ (j < i → l = mk j x.n)) ∧ Ch (fun b => b ∈ bowns T) w w',
    ⟨T.length, 0, rfl, by omega, by omega, B.head, B.row, fun j x hx => (B.each x (List.mem_of_getElem? hx)).imp fun l h => ⟨h, fun h => by omega⟩, Ch.refl _ _⟩, ?_⟩
  rintro m k w1 ⟨i, rfl, hi, rfl, hd1, hr1, he1, c1⟩
  simp only [nn_some, add_at, Nat.zero_add, Nat.mul_one]
  refine ⟨_, _, _, by rw [cell_blk hd1]; rfl, Sif_cases (fun g => ?_) fun g => ?_⟩
  · have hlt : i < T.length := by have := of_decide_eq_true g; omega
    have hx : T[i]? = some T[i] := List.getElem?_eq_getElem hlt
    generalize T[i] = x at hx
    have hxm := List.mem_of_getElem? hx
    have hxn := hsmall x hxm
    obtain ⟨kb, ko, rfl, hcell⟩ := BL.at hr1 hx
    refine ⟨_, _, _, by rw [cell_blk hd1]; rfl, by omega, by omega, ?_⟩
    simp only [nn_some, add_at, Int.toNat_natCast]
    refine ⟨_, _, _, hcell, ?_⟩
    obtain ⟨l0, hl0, _⟩ := he1 i x hx
    refine ⟨fun m' k' w' => ∃ (j : Nat) (xs : List Value), k' = j ∧ j ≤ x.n ∧ m' = x.n - j ∧ Ow w' x.p x.n x.c 1 xs x.own ∧ xs.take j = (bytesV (mk i x.n)).take j ∧ Ch (fun b => x.own = some b) w1 w',
      ⟨x.n, 0, _, rfl, by omega, by omega, hl0, by simp, Ch.refl _ _⟩, ?_⟩
    rintro m' k' w2 ⟨j, xs, rfl, hj, rfl, ho2, ht2, c2⟩
    refine Sif_cases (fun g2 => ?_) fun g2 => ?_
    · have hjl : j < x.n := by have := of_decide_eq_true g2; omega
      obtain ⟨xb, xo, hxp, hxo, hst⟩ := ho2.st (i := j) (by omega)
      rw [hxp]
      simp only [nn_some, add_at, Nat.mul_one, Nat.add_zero, Int.toNat_natCast]
      refine ⟨by omega, by omega, by omega, hst _ _ fun w3 o3 c3 z3 => ?_⟩
      rw [nameI_iff, wrap_id (n := (j : Int) + 1) (by omega) (by omega)]
      have hxl : xs.length = x.n := by have := ho2.1; omega
      rw [hxp] at o3
      refine ⟨x.n - (j + 1), by omega, j + 1, _, by simp, by omega, rfl, o3, ?_, c2.trans' (c3.mono fun b _ hb => by rw [hb]; exact hxo)⟩
      rw [take_set_succ (by omega), ht2, List.take_add_one, mkV_at hjl, mark_val (by omega) (by omega)]; rfl
    · have hjn : j = x.n := by have := of_decide_eq_false g2; omega
      subst hjn
      rw [nameI_iff, wrap_id (by omega) (by omega)]
      have hxl : xs.length = x.n := by have := ho2.1; omega
      have hfin : xs = bytesV (mk i x.n) := by
        rw [List.take_of_length_le (by omega), List.take_of_length_le (by simp)] at ht2; exact ht2
      rw [hfin] at ho2
      have own := fun k (hk : x.own = some k) => N.own hx hk
      refine ⟨T.length - (i + 1), by omega, i + 1, by simp, by omega, rfl, by rw [c2.blk (blk_lt hd1) fun e => (own a e).2.1 rfl]; exact hd1, hr1.ch c2 fun k hk e => (own k e).2.2.1 hk, fun j' y hy => ?_, c1.more c2 fun k hk => (own k hk).1⟩
      by_cases hji : j' = i
      · subst hji
        rw [hx] at hy; cases hy
        exact ⟨_, ho2, fun _ => rfl⟩
      · obtain ⟨l, hl1, hl2⟩ := he1 j' y hy
        exact ⟨l, hl1.ch c2 fun k hk e => own_ne N.bn hy hx hji k hk e, fun h => hl2 (by omega)⟩
  have hge : i = T.length := by have := of_decide_eq_false g; omega
  subst hge
  clear g
  -- all are grown
  have H0 : Grows w w1 a T p c tb 0 none 0 none [] := ⟨hd1, hr1, fun j x hx _ => by
      obtain ⟨l, h1, h2⟩ := he1 j x hx
      rw [← h2 (List.getElem?_eq_some_iff.1 hx).1]; exact h1, Ow.nil, by simp, fun j x hx hj => by omega, fun t g hg => by simp at hg, c1⟩
  refine ⟨fun m' gp gn gc k' w' => ∃ (i : Nat) (gb : Option Nat) (G : List BL), k' = i ∧ i ≤ T.length ∧ m' = T.length - i ∧ gn = G.length ∧ G.length = 5 * i ∧ Grows w w' a T p c tb i gp gc gb G, ⟨T.length, 0, none, [], rfl, by omega, by omega, rfl, rfl, H0⟩, ?_⟩
  rintro m' gp gn gc k' w2 ⟨i, gb, G, rfl, hi2, rfl, rfl, hGl, H⟩
  refine ⟨_, _, _, by rw [cell_blk H.head]; rfl, Sif_cases (fun g => ?_) fun g => ?_⟩
  · have hlt : i < T.length := by have := of_decide_eq_true g; omega
    have hx : T[i]? = some T[i] := List.getElem?_eq_getElem hlt
    generalize T[i] = x at hx
    have hxm := List.mem_of_getElem? hx
    have hxn := hsmall x hxm
    obtain ⟨kb, ko, rfl, hcell⟩ := BL.at H.row hx
    refine ⟨_, _, _, by rw [cell_blk H.head]; rfl, by omega, by omega, ?_⟩
    simp only [nn_some, add_at, Int.toNat_natCast]
    refine ⟨_, _, _, hcell, ?_⟩
    have HG := H.start N hx
    refine ⟨fun m2 gp2 gn2 gc2 q2 n2 cc2 k2 w' => ∃ (k : Nat) (ob gb2 : Option Nat) (G2 : List BL), k2 = k ∧ k ≤ 20 ∧ m2 = 20 - k ∧ gn2 = G2.length ∧ G2.length = 5 * i + cntG k ∧ n2 = x.n + k ∧ Grow w w' a T (some ⟨kb, ko, none⟩) c tb i q2 n2 cc2 ob gp2 gc2 gb2 G2 ∧ (∀ k, ob = some k → k ∈ bowns T ∨ w.heap.size ≤ k),
      ⟨20, 0, x.own, gb, G, rfl, by omega, by omega, rfl, by rw [hGl]; rfl, rfl, HG, fun k hk => .inl (N.own hx hk).1⟩, ?_⟩
    rintro m2 gp2 gn2 gc2 q2 n2 cc2 k2 w3 ⟨k, ob, gb2, G2, rfl, hk20, rfl, rfl, hG2, rfl, H2, hob⟩
    refine Sif_cases (fun g2 => ?_) fun g2 => ?_
    · have hk2 : k < 20 := by have := of_decide_eq_true g2; omega
      refine ⟨fun gp3 gn3 gc3 q3 n3 cc3 w' => ∃ (ob3 gb3 : Option Nat) (G3 : List BL), gn3 = G3.length ∧ G3.length = 5 * i + cntG (k + 1) ∧ n3 = x.n + (k + 1) ∧ Grow w w' a T (some ⟨kb, ko, none⟩) c tb i q3 n3 cc3 ob3 gp3 gc3 gb3 G3 ∧ (∀ k, ob3 = some k → k ∈ bowns T ∨ w.heap.size ≤ k), ?_, by omega, ?_⟩
      · rintro gp3 gn3 gc3 q3 n3 cc3 w4 ⟨ob3, gb3, G3, rfl, h1, rfl, h2, h3⟩
        rw [nameI_iff, wrap_id (by omega) (by omega)]
        exact ⟨20 - (k + 1), by omega, k + 1, ob3, gb3, G3, by simp, by omega, rfl, rfl, h1, rfl, h2, h3⟩
      refine H2.byte N (by omega) (by omega) hob fun q3 cc3 ob3 w4 H3 hob3 => ?_
      rw [Nat.add_assoc] at H3 ⊢
      have nop : cntG (k + 1) = cntG k → ∃ (ob3' gb3 : Option Nat) (G3 : List BL), G2.length = G3.length ∧ G3.length = 5 * i + cntG (k + 1) ∧ x.n + (k + 1) = x.n + (k + 1) ∧ Grow w w4 a T (some ⟨kb, ko, none⟩) c tb i q3 (x.n + (k + 1)) cc3 ob3' gp2 gc2 gb3 G3 ∧ (∀ k, ob3' = some k → k ∈ bowns T ∨ w.heap.size ≤ k) := fun h => ⟨ob3, gb2, G2, rfl, by rw [h]; exact hG2, rfl, H3, hob3⟩
      refine Sif_cases (fun q1 => Sif_cases (fun q2' => Sif_cases (fun q3' => ?_) fun q3' => nop ?_) fun q2' => ?_) fun q1 => ?_
      · have h19 : k = 19 := by simp at q3'; omega
        exact H3.putB N hG2 (by subst h19; decide) (by subst h19; rfl) hlt fun gp' gc' gb' w' G' H' hG' => ⟨ob3, gb', G', rfl, hG', rfl, H', hob3⟩
      · have h1 : ¬ k < 3 := by simp at q1; omega
        have h2 : k ≠ 8 := by simp at q2'; omega
        have h3 : k ≠ 19 := by simp at q3'; omega
        unfold cntG
        split <;> split <;> split <;> split <;> omega
      · have h8 : k = 8 := by simp at q2'; omega
        exact H3.putB N hG2 (by subst h8; decide) (by subst h8; rfl) hlt fun gp' gc' gb' w' G' H' hG' => ⟨ob3, gb', G', rfl, hG', rfl, H', hob3⟩
      · have h3 : k < 3 := by simp at q1; omega
        exact H3.putB N hG2 (by unfold cntG; split <;> split <;> omega) (by unfold cntG; split <;> split <;> split <;> split <;> omega) hlt fun gp' gc' gb' w' G' H' hG' => ⟨ob3, gb', G', rfl, hG', rfl, H', hob3⟩
    · have hk2 : k = 20 := by have := of_decide_eq_false g2; omega
      subst hk2
      rw [nameI_iff, wrap_id (by omega) (by omega)]
      exact ⟨T.length - (i + 1), by omega, i + 1, gb2, G2, by simp, by omega, rfl, rfl, by rw [hG2]; show 5 * i + 5 = _; omega, H2.stop (by omega)⟩
  have hge : i = T.length := by have := of_decide_eq_false g; omega
  subst hge
  clear g
  -- each reads as it was written
  refine ⟨fun m' k' w' => ∃ i : Nat, k' = i ∧ i ≤ T.length ∧ m' = T.length - i ∧ w' = w2, ⟨T.length, 0, rfl, by omega, by omega, rfl⟩, ?_⟩
  rintro m' k' w3 ⟨i, rfl, hi3, rfl, rfl⟩
  refine ⟨_, _, _, by rw [cell_blk H.head]; rfl, Sif_cases (fun g => ?_) fun g => ?_⟩
  · have hlt : i < T.length := by have := of_decide_eq_true g; omega
    have hx : T[i]? = some T[i] := List.getElem?_eq_getElem hlt
    generalize T[i] = x at hx
    have hxn := hsmall x (List.mem_of_getElem? hx)
    obtain ⟨kb, ko, rfl, hcell⟩ := BL.at H.row hx
    refine ⟨_, _, _, by rw [cell_blk H.head]; rfl, by omega, by omega, ?_⟩
    simp only [nn_some, add_at, Int.toNat_natCast]
    refine ⟨_, _, _, hcell, marked_ok (H.past i x hx hlt).2.1 (by omega) (by omega) ⟨_, rfl, Sif_false ?_⟩⟩
    rw [nameI_iff, wrap_id (by omega) (by omega)]
    exact ⟨T.length - (i + 1), by omega, i + 1, by simp, by omega, rfl, by trivial⟩
  · refine ⟨fun m' k' w' => ∃ t : Nat, k' = t ∧ t ≤ G.length ∧ m' = G.length - t ∧ w' = w3, ⟨G.length, 0, rfl, by omega, by omega, rfl⟩, ?_⟩
    rintro m' k' w4 ⟨t, rfl, ht, rfl, rfl⟩
    refine Sif_cases (fun g2 => ?_) fun g2 => hk w4 H.ch
    have hlt : t < G.length := by have := of_decide_eq_true g2; omega
    have hx : G[t]? = some G[t] := List.getElem?_eq_getElem hlt
    generalize G[t] = x at hx
    obtain ⟨kb, ko, rfl, hcell⟩ := BL.at H.grown hx
    simp only [nn_some, add_at, Int.toNat_natCast]
    refine ⟨by omega, by omega, _, _, _, hcell, by omega, ?_⟩
    have e5 : IntKind.wrap .i64 (Int.tdiv (t : Int) 5) = ((t / 5 : Nat) : Int) := by
      have e : Int.tdiv (t : Int) 5 = ((t / 5 : Nat) : Int) := by rw [Int.tdiv_eq_ediv_of_nonneg (by omega)]; rfl
      rw [e, wrap_id (by omega) (by omega)]
    rw [e5]
    have hA := H.put t x hx
    refine marked_ok hA.2.1 (by omega) hA.1 ⟨_, rfl, Sif_false ?_⟩
    rw [nameI_iff, wrap_id (by omega) (by omega)]
    exact ⟨G.length - (t + 1), by omega, t + 1, by simp, by omega, rfl, by trivial⟩
end Go.Proofs.YtipololccbdojaaGreatDoor
