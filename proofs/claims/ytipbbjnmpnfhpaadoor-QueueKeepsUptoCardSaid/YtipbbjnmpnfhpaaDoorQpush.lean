/-
  The queue's heap: an entry behind the interface.
-/
import Derived.Test.YtipbbjnmpnfhpaaDoorQdown
namespace Go.Proofs.YtipbbjnmpnfhpaaDoor
open Go Go.Sv Go.Heap
set_option linter.unusedVariables false
set_option maxRecDepth 100000
theorem isEntry (v : Value) (w : World) : (Instr.typeAssert (.iface 37 v) 20 37 false).run Tryd.prog w = .ok v w := by kernel_rfl
theorem entry_info : InfoIs Tryd.prog 37 7 72 (.agg #[.int .i64 0, .int .i64 0, .int .i64 0, .bool false, .int .i64 0, .int .i64 0, .slice none 0 0]) := .of (by kernel_rfl) (by kernel_rfl) (by kernel_rfl)
theorem En.cells_one (e : En) : ∀ v ∈ e.cells, oneV v = true := by
  intro v hv
  simp [En.cells] at hv
  rcases hv with rfl | rfl | rfl | rfl | rfl | rfl | rfl <;> rfl
set_option maxRecDepth 4000 in
theorem fpush_ok {w : World} {qb o n c : Nat} {p : Option Addr} {L : List En} {own : Option Nat} {cs : List Value} {e : En} {K : Value → World → Prop} (hb : blk w qb = some cs) (hcs : cs[o]? = some (.slice p n c)) (hown : own ≠ some qb) (ho : Ow w p n c 7 (L.flatMap En.cells) own) (hl : L.length = n) (hn : n ≤ 2 ^ 40)
    (hk : ∀ w' p' c' own', blk w' qb = some (cs.set o (.slice p' (n + 1) c')) → Ow w' p' (n + 1) c' 7 ((L ++ [e]).flatMap En.cells) own' → (∀ k, own' = some k → own = some k ∨ w.heap.size ≤ k) → Ch (fun b => own = some b ∨ b = qb) w w' → K (.tuple #[]) w') :
    callP Tryd.prog 117 [.pointer (some ⟨qb, o, none⟩), .iface 37 e.val] w K := by
  have hol := (List.getElem?_eq_some_iff.1 hcs).1
  subst hl
  refine ok_queue_free_Push ?_
  unfold wp_queue_free_Push
  simp only [nn_some]
  have hbd : blk w.drew qb = some cs := by rw [(Ch.drew (S := fun _ => False) w).blk (blk_lt hb) id]; exact hb
  have od := ho.ch (Ch.drew (S := fun _ => False) w) fun _ _ => id
  refine ⟨_, _, _, by rw [cell_blk hbd]; exact hcs, _, _, _, _, _, _, _, _, _, isEntry _ _, ?_⟩
  have key := push_ok (P := Tryd.prog) (ty := 60) (te := 37) (g := En.cells) (sz := 7) (bytes := 72) Tryd.underlying60 entry_info rfl En.cells_len En.cells_one od e (by omega) (by omega)
    (K := fun p' n' c' w2 => Sv.st w2 ⟨qb, o, none⟩ (.slice p' n' c') fun w3 => K (.tuple #[]) w3) fun p' c' own' w' o' n' c1 => by
      have b' : blk w' qb = some cs := by rw [c1.blk (blk_lt hbd) hown]; exact hbd
      refine st_blk b' hol fun w3 b3 c3 z3 => ?_
      have el : (L ++ [e]).length = L.length + 1 := by simp
      rw [el] at o' b3
      refine hk w3 p' c' own' b3 (o'.ch c3 fun k hk2 he => ?_) n' (((Ch.drew w).trans c1 fun x hx h => .inl h).trans c3 fun x hx h => .inr h)
      rcases n' k hk2 with h | h
      · exact hown (he ▸ h)
      · have := blk_lt hbd; omega
  refine newB_mono' key fun a w' c h => ⟨⟨_, _, _, ?_, rfl⟩, ?_⟩
  · have b' : blk w' qb = some cs := by rw [c.blk (blk_lt hbd) id]; exact hbd
    rw [cell_blk b']; exact hcs
  · obtain ⟨p5, n7, c5, w3, h1, h2⟩ := h
    exact ⟨p5, n7, c5, w3, h1, h2⟩
theorem atE_app {L : List En} {e : En} {i : Nat} (h : i < L.length) : atE (L ++ [e]) i = atE L i := by
  unfold atE; rw [List.getElem?_append_left h]
set_option maxRecDepth 4000 in
theorem hpush_ok {w : World} {qb o n c : Nat} {p : Option Addr} {L : List En} {own : Option Nat} {cs : List Value} {e : En} {K : Value → World → Prop} (hb : blk w qb = some cs) (hcs : cs[o]? = some (.slice p n c)) (hown : own ≠ some qb) (ho : Ow w p n c 7 (L.flatMap En.cells) own) (hl : L.length = n) (hn : n ≤ 2 ^ 39) (hh : HeapFrom En.lt (atE L) n 0)
    (hk : ∀ w' p' c' own' L', L'.Perm (L ++ [e]) → HeapFrom En.lt (atE L') (n + 1) 0 → blk w' qb = some (cs.set o (.slice p' (n + 1) c')) → Ow w' p' (n + 1) c' 7 (L'.flatMap En.cells) own' → (∀ k, own' = some k → own = some k ∨ w.heap.size ≤ k) → Ch (fun b => own = some b ∨ b = qb) w w' → K (.tuple #[]) w') :
    callP Tryd.prog 23 [fH ⟨qb, o, none⟩, .iface 37 e.val] w K := by
  have hol := (List.getElem?_eq_some_iff.1 hcs).1
  have hqb := blk_lt hb
  refine ok_heap_Push ?_
  unfold wp_heap_Push
  refine ⟨_, _, _, _, rfl, methPush _ _, .inl ⟨by kernel_rfl, ?_⟩⟩
  refine fpush_ok hb hcs hown ho hl (by omega) fun w1 p1 c1 own1 b1 o1 n1 ch1 => ⟨rfl, ?_⟩
  have hown1 : own1 ≠ some qb := fun h => by
    rcases n1 qb h with h | h
    · exact hown h
    · omega
  have hcell : ∀ w', Ch (fun b => own1 = some b) w1 w' → w'.cell? ⟨qb, o, none⟩ = some (.slice p1 (n + 1) c1) := fun w' c => by
    have b' : blk w' qb = some (cs.set o (.slice p1 (n + 1) c1)) := by rw [c.blk (blk_lt b1) hown1]; exact b1
    rw [cell_blk b', List.getElem?_set_self hol]
  refine iLen (hcell w1 (Ch.refl _ _)) ⟨_, rfl, ?_⟩
  have hw : IntKind.wrap .i64 (((n + 1 : Nat) : Int) - 1) = (n : Int) := by rw [wrap_id (by omega) (by omega)]; omega
  rw [hw]
  refine hup_ok (j := n) (N := n + 1) hcell o1 (by simp [hl]) (by omega) (Nat.le_refl _) (by omega) ⟨fun c h0 hcn hne => ?_, fun c h0 hcn hpc _ => ?_⟩ fun w2 L2 hp _ hheap o2 c2 => ⟨rfl, ?_⟩
  · have hpc := par_lt h0
    rw [atE_app (by omega), atE_app (by omega)]
    exact hh c h0 (by omega) (Nat.zero_le _)
  · have := par_lt h0; omega
  · have b2 : blk w2 qb = some (cs.set o (.slice p1 (n + 1) c1)) := by rw [c2.blk (blk_lt b1) hown1]; exact b1
    refine hk w2 p1 c1 own1 L2 hp hheap b2 o2 n1 (ch1.trans c2 fun x hx h => ?_)
    rcases n1 x h with h | h
    · exact .inl h
    · omega
end Go.Proofs.YtipbbjnmpnfhpaaDoor
