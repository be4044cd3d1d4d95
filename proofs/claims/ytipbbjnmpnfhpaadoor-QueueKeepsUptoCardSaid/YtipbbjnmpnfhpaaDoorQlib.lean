/-
  Entries that are read, written, boxed; own: an entry in memory of its own.
-/
import Derived.Test.YtipbbjnmpnfhpaaDoorQk
namespace Go.Proofs.YtipbbjnmpnfhpaaDoor
open Go Go.Sv Go.Heap Go.Qu Go.MapKept
set_option linter.unusedVariables false
set_option maxRecDepth 4000
/-- an entry's cells, read -/
theorem rd7 {w : World} {k : Nat} {e : En} {K : Int → Int → Int → Bool → Int → Int → Option Addr → Nat → Nat → Prop} (h : blk w k = some e.cells) (hk : K e.seq e.pri e.exp e.dur e.cnt e.hold e.p e.n e.c) :
    ∃ n, w.cell? (Addr.add ⟨k, 0, none⟩ 0) = some (.int .i64 n) ∧ ∃ n1, w.cell? (Addr.add ⟨k, 0, none⟩ 1) = some (.int .i64 n1) ∧ ∃ n2, w.cell? (Addr.add ⟨k, 0, none⟩ 2) = some (.int .i64 n2) ∧ ∃ b, w.cell? (Addr.add ⟨k, 0, none⟩ 3) = some (.bool b) ∧
      ∃ n3, w.cell? (Addr.add ⟨k, 0, none⟩ 4) = some (.int .i64 n3) ∧ ∃ n4, w.cell? (Addr.add ⟨k, 0, none⟩ 5) = some (.int .i64 n4) ∧ ∃ p n5 c, w.cell? (Addr.add ⟨k, 0, none⟩ 6) = some (.slice p n5 c) ∧ K n n1 n2 b n3 n4 p n5 c := by
  simp only [add_at, cell_blk h]
  exact ⟨_, rfl, _, rfl, _, rfl, _, rfl, _, rfl, _, rfl, _, _, _, rfl, hk⟩
/-- an entry's cells, written over -/
theorem re7 {w : World} {k : Nat} {e0 : En} (e : En) {K : World → Prop} (h : blk w k = some e0.cells) (hk : ∀ w', blk w' k = some e.cells → Ch (· = k) w w' → w'.heap.size = w.heap.size → K w') :
    Sv.st w (Addr.add ⟨k, 0, none⟩ 0) (.int .i64 e.seq) fun w => Sv.st w (Addr.add ⟨k, 0, none⟩ 1) (.int .i64 e.pri) fun w => Sv.st w (Addr.add ⟨k, 0, none⟩ 2) (.int .i64 e.exp) fun w => Sv.st w (Addr.add ⟨k, 0, none⟩ 3) (.bool e.dur) fun w => Sv.st w (Addr.add ⟨k, 0, none⟩ 4) (.int .i64 e.cnt) fun w => Sv.st w (Addr.add ⟨k, 0, none⟩ 5) (.int .i64 e.hold) fun w => Sv.st w (Addr.add ⟨k, 0, none⟩ 6) (.slice e.p e.n e.c) K := by
  simp only [add_at]
  exact st_all [.int .i64 e.seq, .int .i64 e.pri, .int .i64 e.exp, .bool e.dur, .int .i64 e.cnt, .int .i64 e.hold, .slice e.p e.n e.c] 0 (K := K) h (Nat.le_refl _) fun w' b c y => hk w' b c y
/-- an entry in a box -/
theorem boxE {w : World} {t : TypeId} {e0 : En} (e : En) {K : Addr → World → Prop} (hk : ∀ w', blk w' w.heap.size = some e.cells → Ch (fun _ => False) w w' → w'.heap.size = w.heap.size + 1 → K ⟨w.heap.size, 0, none⟩ w') :
    newB w e0.cells t fun a w => Sv.st w (Addr.add a 0) (.int .i64 e.seq) fun w => Sv.st w (Addr.add a 1) (.int .i64 e.pri) fun w => Sv.st w (Addr.add a 2) (.int .i64 e.exp) fun w => Sv.st w (Addr.add a 3) (.bool e.dur) fun w => Sv.st w (Addr.add a 4) (.int .i64 e.cnt) fun w => Sv.st w (Addr.add a 5) (.int .i64 e.hold) fun w => Sv.st w (Addr.add a 6) (.slice e.p e.n e.c) fun w => K a w := by
  refine newB_blk fun w1 b1 c1 z1 => re7 e b1 fun w2 b2 c2 z2 => hk w2 b2 (c1.trans c2 fun x hx h => by omega) (by omega)
/-- a value that is seen to be an entry -/
theorem isE {e : En} {K : Int → Int → Int → Bool → Int → Int → Option Addr → Nat → Nat → Prop} (hk : K e.seq e.pri e.exp e.dur e.cnt e.hold e.p e.n e.c) :
    ∃ n n1 n2 b n3 n4 p n5 c, e.val = .agg #[.int .i64 n, .int .i64 n1, .int .i64 n2, .bool b, .int .i64 n3, .int .i64 n4, .slice p n5 c] ∧ K n n1 n2 b n3 n4 p n5 c := ⟨_, _, _, _, _, _, _, _, _, rfl, hk⟩
/-- .. with the places reckoned -/
theorem rdN {w : World} {k : Nat} {e : En} {K : Int → Int → Int → Bool → Int → Int → Option Addr → Nat → Nat → Prop} (h : blk w k = some e.cells) (hk : K e.seq e.pri e.exp e.dur e.cnt e.hold e.p e.n e.c) :
    ∃ n, w.cell? ⟨k, 0, none⟩ = some (.int .i64 n) ∧ ∃ n1, w.cell? ⟨k, 1, none⟩ = some (.int .i64 n1) ∧ ∃ n2, w.cell? ⟨k, 2, none⟩ = some (.int .i64 n2) ∧ ∃ b, w.cell? ⟨k, 3, none⟩ = some (.bool b) ∧
      ∃ n3, w.cell? ⟨k, 4, none⟩ = some (.int .i64 n3) ∧ ∃ n4, w.cell? ⟨k, 5, none⟩ = some (.int .i64 n4) ∧ ∃ p n5 c, w.cell? ⟨k, 6, none⟩ = some (.slice p n5 c) ∧ K n n1 n2 b n3 n4 p n5 c := by
  simp only [cell_blk h]
  exact ⟨_, rfl, _, rfl, _, rfl, _, rfl, _, rfl, _, rfl, _, _, _, rfl, hk⟩
theorem reN {w : World} {k : Nat} {e0 e : En} {K : World → Prop} (h : blk w k = some e0.cells) (hk : ∀ w', blk w' k = some e.cells → Ch (· = k) w w' → w'.heap.size = w.heap.size → K w') :
    Sv.st w ⟨k, 0, none⟩ (.int .i64 e.seq) fun w => Sv.st w ⟨k, 1, none⟩ (.int .i64 e.pri) fun w => Sv.st w ⟨k, 2, none⟩ (.int .i64 e.exp) fun w => Sv.st w ⟨k, 3, none⟩ (.bool e.dur) fun w => Sv.st w ⟨k, 4, none⟩ (.int .i64 e.cnt) fun w => Sv.st w ⟨k, 5, none⟩ (.int .i64 e.hold) fun w => Sv.st w ⟨k, 6, none⟩ (.slice e.p e.n e.c) fun w => K w := 
  st_all [.int .i64 e.seq, .int .i64 e.pri, .int .i64 e.exp, .bool e.dur, .int .i64 e.cnt, .int .i64 e.hold, .slice e.p e.n e.c] 0 (K := K) h (Nat.le_refl _) fun w' b c y => hk w' b c y
theorem newE {w : World} {t : TypeId} {e0 e : En} {K : Addr → World → Prop} (hk : ∀ w', blk w' w.heap.size = some e.cells → Ch (fun _ => False) w w' → w'.heap.size = w.heap.size + 1 → K ⟨w.heap.size, 0, none⟩ w') :
    newB w e0.cells t fun a w => Sv.st w (Addr.add a 0) (.int .i64 e.seq) fun w => Sv.st w (Addr.add a 1) (.int .i64 e.pri) fun w => Sv.st w (Addr.add a 2) (.int .i64 e.exp) fun w => Sv.st w (Addr.add a 3) (.bool e.dur) fun w => Sv.st w (Addr.add a 4) (.int .i64 e.cnt) fun w => Sv.st w (Addr.add a 5) (.int .i64 e.hold) fun w => Sv.st w (Addr.add a 6) (.slice e.p e.n e.c) fun w => K a w := boxE e hk
theorem own_ok {w : World} {e : En} {l : List UInt8} {K : Value → World → Prop} (h : Rd w e.p e.n 1 (bytesV l)) (hn : e.n ≤ 2 ^ 46)
    (hk : ∀ w' x, EtE.Ok w' x → x.pe = ⟨e.seq, e.pri, e.exp, e.dur, e.cnt, e.hold, l⟩ → (∀ k, x.own = some k → w.heap.size ≤ k) → Ch (fun _ => False) w w' → K x.e.val w') : callP Tryd.prog 24 [e.val] w K := by
  refine ok_queue_own ?_
  unfold wp_queue_own
  refine newB_blk fun w1 b1 c1 z1 => newB_blk fun w2 b2 c2 z2 => ?_
  have b1' : blk w2 w.heap.size = some e.cells := by rw [c2.blk (blk_lt b1) id]; exact b1
  refine ⟨e.p, e.n, e.c, by simp only [add_at]; rw [cell_blk b1']; rfl, ?_⟩
  refine qclone_ok (l := l) ((h.ch c1 fun _ _ _ => id).ch c2 fun _ _ _ => id) hn fun p' c' w3 b' o3 n3 c3 => ⟨_, _, _, rfl, ?_⟩
  have hl := blk_lt b1'
  have b13 : blk w3 w.heap.size = some e.cells := by rw [c3.blk hl id]; exact b1'
  have b23 : blk w3 w1.heap.size = some En0.cells := by rw [c3.blk (blk_lt b2) id]; exact b2
  simp only [add_at, Nat.zero_add]
  refine st_blk b13 (by simp [En.cells]) fun w4 b14 c4 z4 => ?_
  have b24 : blk w4 w1.heap.size = some En0.cells := by rw [c4.blk (blk_lt b23) (by omega)]; exact b23
  refine rdN (e := { e with p := p', c := c' }) b14 ?_
  refine reN (e := { e with p := p', c := c' }) b24 fun w11 b11 c11 z11 => rdN b11 ?_
  have hch : Ch (fun b => b = w.heap.size ∨ b = w1.heap.size) w3 w11 := (c4.mono fun _ _ h => .inl h).trans (c11.mono fun _ _ h => .inr h) fun _ _ h => h
  refine hk w11 ⟨{ e with p := p', c := c' }, l, b'⟩ (o3.ch hch fun k hk h => ?_) rfl (fun k hk => ?_) ((((c1.trans' c2).trans' c3)).trans hch fun x hx h => by omega)
  · have := n3 k hk; omega
  · have := n3 k hk; omega
end Go.Proofs.YtipbbjnmpnfhpaaDoor
