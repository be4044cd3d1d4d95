/-
  The queue's heap: Pop.
-/
import Derived.Test.YtipbbjnmpnfhpaaDoorQpush
namespace Go.Proofs.YtipbbjnmpnfhpaaDoor
open Go Go.Sv Go.Heap
set_option linter.unusedVariables false
set_option maxRecDepth 4000
theorem Ow.less {w : World} {p : Option Addr} {m c : Nat} {xs : List Value} {own : Option Nat} (h : Ow w p (m + 1) c 7 xs own) : Ow w p m c 7 (xs.take (m * 7)) own := by
  obtain ⟨h1, h2, h3⟩ := h
  refine ⟨by rw [List.length_take]; omega, by omega, ?_⟩
  rcases h3 with h3 | ⟨k, o, cs, hb, hp, hk, hl, ht⟩
  · exact .inl h3
  · refine .inr ⟨k, o, cs, hb, hp, hk, hl, ?_⟩
    rw [← ht, List.take_take]
    congr 1; omega
theorem take_flat {L : List En} {m : Nat} (h : m ≤ L.length) : (L.flatMap En.cells).take (m * 7) = (L.take m).flatMap En.cells := by
  have e : L.flatMap En.cells = (L.take m).flatMap En.cells ++ (L.drop m).flatMap En.cells := by
    conv => lhs; rw [← List.take_append_drop m L]
    rw [List.flatMap_append]
  have hl : ((L.take m).flatMap En.cells).length = m * 7 := by rw [flat_len En.cells_len, List.length_take]; omega
  rw [e, ← hl, List.take_left]
theorem fpop_ok {w : World} {qb o m c : Nat} {p : Option Addr} {L : List En} {own : Option Nat} {cs : List Value} {e : En} {K : Value → World → Prop} (hb : blk w qb = some cs) (hcs : cs[o]? = some (.slice p (m + 1) c)) (hown : own ≠ some qb) (ho : Ow w p (m + 1) c 7 (L.flatMap En.cells) own) (hl : L.length = m + 1) (hn : m ≤ 2 ^ 40) (he : L[m]? = some e)
    (hk : ∀ w', blk w' qb = some (cs.set o (.slice p m c)) → Ow w' p m c 7 ((L.take m).flatMap En.cells) own → Ch (fun b => own = some b ∨ b = qb) w w' → K (.iface 37 e.val) w') :
    callP Tryd.prog 116 [.pointer (some ⟨qb, o, none⟩)] w K := by
  have hol := (List.getElem?_eq_some_iff.1 hcs).1
  have hqb := blk_lt hb
  obtain ⟨k, ko, rfl, rfl, -⟩ := ho.st (i := m * 7) (by omega)
  obtain ⟨kb, ob, e2, hcell⟩ := ho.rd.at En.cells_len he (by decide)
  cases e2
  have hklt := ho.blt k rfl
  have hkq : k ≠ qb := fun h => hown (by rw [h])
  refine ok_queue_free_Pop ?_
  unfold wp_queue_free_Pop
  simp only [nn_some]
  have hw : IntKind.wrap .i64 (((m + 1 : Nat) : Int) - 1) = (m : Int) := by rw [wrap_id (by omega) (by omega)]; omega
  refine ⟨_, _, _, by rw [cell_blk hb]; exact hcs, ?_⟩
  rw [hw, nameI_iff]
  simp only [nn_some, add_at, Int.toNat_natCast]
  refine ⟨by omega, by omega, _, hcell 0 _ rfl, _, hcell 1 _ rfl, _, hcell 2 _ rfl, _, hcell 3 _ rfl, _, hcell 4 _ rfl, _, hcell 5 _ rfl, _, _, _, hcell 6 _ rfl, ?_⟩
  refine newB_blk fun w1 b1 c1 z1 => ?_
  refine st_blk b1 (by simp) fun w2 b2 c2 z2 => st_blk b2 (by simp) fun w3 b3 c3 z3 => st_blk b3 (by simp) fun w4 b4 c4 z4 => st_blk b4 (by simp) fun w5 b5 c5 z5 => st_blk b5 (by simp) fun w6 b6 c6 z6 => st_blk b6 (by simp) fun w7 b7 c7 z7 => st_blk b7 (by simp) fun w8 b8 c8 z8 => ?_
  have b8 : blk w8 w.heap.size = some e.cells := b8
  have c18 : Ch (fun _ => False) w w8 := c1.trans ((((((c2.trans' c3).trans' c4).trans' c5).trans' c6).trans' c7).trans' c8) fun x hx h => by omega
  have o8 := ho.ch c18 fun _ _ => id
  refine ⟨by omega, by omega, ?_⟩
  refine en_put (x := ⟨0, 0, 0, false, 0, 0, none, 0, 0⟩) o8 hl he fun w15 o15 c15 z15 => ?_
  have hcap := ho.2.1
  have b15 : blk w15 qb = some cs := by rw [c15.blk (by have := c18.size; omega) (fun h => hkq h.symm), c18.blk hqb id]; exact hb
  have bx15 : blk w15 w.heap.size = some e.cells := by rw [c15.blk (blk_lt b8) (fun h => by omega)]; exact b8
  refine ⟨by omega, by omega, ?_⟩
  refine st_blk b15 hol fun w16 b16 c16 z16 => ?_
  have bx16 : blk w16 w.heap.size = some e.cells := by rw [c16.blk (blk_lt bx15) (fun h => by omega)]; exact bx15
  simp only [add_at, Nat.zero_add]
  refine ⟨_, by rw [cell_blk bx16]; rfl, _, by rw [cell_blk bx16]; rfl, _, by rw [cell_blk bx16]; rfl, _, by rw [cell_blk bx16]; rfl, _, by rw [cell_blk bx16]; rfl, _, by rw [cell_blk bx16]; rfl, _, _, _, by rw [cell_blk bx16]; rfl, ?_⟩
  refine hk w16 b16 ?_ (((c18.mono fun _ _ h => h.elim).trans c15 fun x hx h => .inl (by rw [h])).trans c16 fun x hx h => .inr h)
  have o16 := (Ow.less o15).ch c16 fun b hb2 h => by cases hb2; exact hkq h
  rw [take_flat (by rw [List.length_set]; omega), List.take_set_of_le (Nat.le_refl _)] at o16
  exact o16
theorem atE_take {L : List En} {m i : Nat} (h : i < m) : atE (L.take m) i = atE L i := by
  unfold atE; rw [List.getElem?_take, if_pos h]
theorem hpop_ok {w : World} {qb o m c : Nat} {p : Option Addr} {L : List En} {own : Option Nat} {cs : List Value} {K : Value → World → Prop} (hb : blk w qb = some cs) (hcs : cs[o]? = some (.slice p (m + 1) c)) (hown : own ≠ some qb) (ho : Ow w p (m + 1) c 7 (L.flatMap En.cells) own) (hl : L.length = m + 1) (hn : m ≤ 2 ^ 39) (hh : HeapFrom En.lt (atE L) (m + 1) 0)
    (hk : ∀ w' F, (F ++ [atE L 0]).Perm L → F.length = m → HeapFrom En.lt (atE F) m 0 → blk w' qb = some (cs.set o (.slice p m c)) → Ow w' p m c 7 (F.flatMap En.cells) own → Ch (fun b => own = some b ∨ b = qb) w w' → K (tupV [.iface 37 (atE L 0).val]) w') :
    callP Tryd.prog 26 [fH ⟨qb, o, none⟩] w K := by
  have hqb := blk_lt hb
  have hcell : ∀ w', Ch (fun b => own = some b) w w' → w'.cell? ⟨qb, o, none⟩ = some (.slice p (m + 1) c) := fun w' ch => by
    have b' : blk w' qb = some cs := by rw [ch.blk hqb hown]; exact hb
    rw [cell_blk b']; exact hcs
  refine ok_heap_Pop ?_
  unfold wp_heap_Pop
  refine iLen (hcell w (Ch.refl _ _)) ⟨_, rfl, ?_⟩
  have hw : IntKind.wrap .i64 (((m + 1 : Nat) : Int) - 1) = (m : Int) := by rw [wrap_id (by omega) (by omega)]; omega
  rw [hw, nameI_iff]
  refine iSwap (i := 0) (j := m) (hcell w (Ch.refl _ _)) ho hl (atE_get (by omega)) (atE_get (by omega)) fun w1 o1 c1 z1 => ⟨rfl, ?_⟩
  have hsw := atE_sw (L := L) (i := 0) (j := m) (by omega) (by omega)
  have hpm := sw_perm (L := L) (i := 0) (j := m) (by omega) (by omega)
  refine hdown_ok (i0 := 0) (s := 0) (N := m) (fun w' ch => hcell w' (c1.trans' ch)) o1 (by simp [hl]) (by omega) (by omega) (by omega) ⟨Nat.le_refl _, fun c h0 hcn _ hpc => ?_, fun c _ _ _ h => by omega⟩ fun w2 L2 b2 _ _ hp htail hheap o2 c2 => ⟨_, rfl, ?_⟩
  · have h1 := par_lt h0
    rw [hsw]
    unfold sw
    rw [if_neg (by omega), if_neg (by omega), if_neg hpc, if_neg (by omega)]
    exact hh c h0 (by omega) (Nat.zero_le _)
  have hl2 : L2.length = m + 1 := by rw [hp.length_eq, hpm.length_eq]; exact hl
  have hx : atE L2 m = atE L 0 := by
    rw [htail m (Nat.le_refl _), hsw]
    unfold sw
    by_cases h : m = 0
    · rw [if_pos h, h]
    · rw [if_neg h, if_pos rfl]
  have hL2 : L2 = L2.take m ++ [atE L 0] := by
    have h1 : L2[m]? = some (atE L 0) := by rw [← hx]; exact atE_get (by omega)
    obtain ⟨h2, h3⟩ := List.getElem?_eq_some_iff.1 h1
    rw [← h3, ← List.take_succ_eq_append_getElem h2, List.take_of_length_le (by omega)]
  have c02 := c1.trans' c2
  have b2' : blk w2 qb = some cs := by rw [c02.blk hqb hown]; exact hb
  refine ⟨_, _, _, _, rfl, methPop _ _, .inl ⟨by kernel_rfl, ?_⟩⟩
  refine fpop_ok (e := atE L 0) b2' hcs hown o2 hl2 (by omega) (by rw [← hx]; exact atE_get (by omega)) fun w3 b3 o3 c3 => ⟨_, rfl, ?_⟩
  refine hk w3 (L2.take m) (by rw [← hL2]; exact hp.trans hpm) (by rw [List.length_take]; omega) (fun c h0 hcn hs => ?_) b3 o3 ((c02.mono fun _ _ h => .inl h).trans' c3)
  have h1 := par_lt h0
  rw [atE_take hcn, atE_take (by omega)]
  exact hheap c h0 hcn hs
end Go.Proofs.YtipbbjnmpnfhpaaDoor
