/-
  The queue's rows, sorted by the queue's order.
-/
import Derived.Test.YtipbbjnmpnfhpaaDoorQmap
import Derived.Test.YtipbbjnmpnfhpaaDoorSvSort
import Derived.Test.YtipbbjnmpnfhpaaDoorShelf3
namespace Go.Proofs.YtipbbjnmpnfhpaaDoor
open Go Go.Sv Go.Heap Go.Qu Go.Sort
set_option linter.unusedVariables false
set_option maxRecDepth 4000
theorem order_qt {a b : En} {w : World} {K : Value → World → Prop} (hk : ∀ w', Qt w w' → K (.int .i64 (ordE a b)) w') : callP Tryd.prog 32 [a.val, b.val] w K := by
  refine ok_queue_order ?_
  unfold wp_queue_order
  refine newB_qt fun w1 b1 c1 z1 => newB_qt fun w2 b2 c2 z2 => ?_
  have b1' : blk w2 w.heap.size = some a.cells := by rw [c2.ch.blk (blk_lt b1) id]; exact b1
  have e1 : blk w2.drew w.heap.size = some a.cells := by rw [(Ch.drew (S := fun _ => False) w2).blk (blk_lt b1') id]; exact b1'
  have e2 : blk w2.drew w1.heap.size = some b.cells := by rw [(Ch.drew (S := fun _ => False) w2).blk (blk_lt b2) id]; exact b2
  simp only [add_at, Nat.zero_add]
  refine ⟨_, by rw [cell_blk e2]; rfl, _, by rw [cell_blk e1]; rfl, _, by rw [cell_blk e1]; rfl, _, by rw [cell_blk e2]; rfl, ?_⟩
  refine compare_ok ⟨_, rfl, ⟨_, by rw [cell_blk e2]; rfl, rfl⟩, ⟨_, by rw [cell_blk e1]; rfl, rfl⟩, compare_ok ⟨_, rfl, ?_⟩⟩
  refine newB_qt fun w5 b5 c5 z5 => ?_
  refine or_ok b5 ⟨_, rfl, ?_⟩
  exact hk w5 (((c1.trans c2).trans (Qt.drew w2)).trans c5)
theorem Pe.lt_of {L : List Et} (hn : (L.map fun x : Et => x.e.seq).Nodup) {x y : Et} (hx : x ∈ L) (hy : y ∈ L) (h : x.pe.lt y.pe = false) (k : y.pe.lt x.pe = false) : x = y := by
  refine Classical.byContradiction fun hne => ?_
  have hs : x.pe.seq ≠ y.pe.seq := fun e => hne (inj_of_nodup hn hx hy e)
  have := PE.tri hs h
  rw [k] at this
  cases this
theorem swoE (L : List Et) : SWO (ltOf fun x y : {x : Et // x ∈ L} => ordE x.1.e y.1.e) := by
  have e : ∀ x y : {x : Et // x ∈ L}, ltOf (fun x y : {x : Et // x ∈ L} => ordE x.1.e y.1.e) x y = x.1.e.lt y.1.e := fun x y => ordE_lt x.1.e y.1.e
  refine ⟨fun x => ?_, fun x y z h k => ?_, fun x y z h k => ?_⟩
  · rw [e]; exact En.irr _
  · rw [e] at *; exact PE.tr (a := x.1.pe) (b := y.1.pe) (c := z.1.pe) h k
  · rw [e] at *
    exact En.ord.tr _ _ _ k h
theorem attach_flat (L : List Et) : (L.attach.flatMap fun x : {x : Et // x ∈ L} => x.1.e.cells) = (L.map (·.e)).flatMap En.cells := by
  rw [List.flatMap_map]
  conv => rhs; rw [← List.attach_map_subtype_val L, List.flatMap_map]
theorem sortQ_ok {w : World} {p : Option Addr} {c : Nat} {b : Option Nat} {L : List Et} (ho : Ow w p L.length c 7 ((L.map (·.e)).flatMap En.cells) b) (hL : L.length ≤ 2 ^ 40) (hn : (L.map fun x : Et => x.e.seq).Nodup) {K : Value → World → Prop}
    (hK : ∀ w' (L' : List Et), L'.Perm L → Sorted (L'.map Et.pe) → Ow w' p L'.length c 7 ((L'.map (·.e)).flatMap En.cells) b → Ch (fun j => b = some j) w w' → K (.tuple #[]) w') : callP Tryd.prog 31 [.slice p L.length c, .func (.func 32) #[] #[]] w K := by
  by_cases h0 : L = []
  · subst h0
    exact Calls.mono (AnyF.slices_SortFunc_none Tryd.laysSF6 p c (.func (.func 32) #[] #[]) w) fun e w' ⟨he, hw⟩ => ⟨_, he, hw ▸ hK _ [] (.refl _) .nil ho (Ch.refl _ _)⟩
  obtain ⟨x0, hx0⟩ := List.exists_mem_of_ne_nil L h0
  haveI : Inhabited {x : Et // x ∈ L} := ⟨⟨x0, hx0⟩⟩
  have hl : L.attach.length = L.length := List.length_attach ..
  have ho' : Ow w p L.attach.length c 7 (L.attach.flatMap fun x : {x : Et // x ∈ L} => x.1.e.cells) b := by rw [hl, attach_flat]; exact ho
  rw [← hl] at hL
  rw [← hl]
  refine sortK_ok (α := {x : Et // x ∈ L}) Tryd.laysSF6 (k := 7) Tryd.isAgg37 Tryd.sizeOf37 (enc := fun x => x.1.e.cells) (fun _ => rfl) (fun x => x.1.e.cells_one) (swoE L)
    (fun x y h k => Subtype.ext (Pe.lt_of hn x.2 y.2 (by rw [← h]; exact (ordE_lt x.1.e y.1.e).symm) (by rw [← k]; exact (ordE_lt y.1.e x.1.e).symm)))
    (g := 32) (fun args w => okCall_enter (by kernel_rfl) args w) (fun x y W => (order_qt (a := x.1.e) (b := y.1.e) (w := W) (K := fun v w' => v = .int .i64 (ordE x.1.e y.1.e) ∧ Qt W w') fun w' q => ⟨rfl, q⟩).mono fun e w' ⟨v, he, hv, q⟩ => ⟨by rw [he, hv], q⟩) ho' (by decide) hL fun w' o' c' => ?_
  have hp := (srtBy_perm (fun x y : {x : Et // x ∈ L} => ordE x.1.e y.1.e) L.attach).map Subtype.val
  rw [List.attach_map_subtype_val] at hp
  have hs := srtBy_sorted (fun x y : {x : Et // x ∈ L} => ordE x.1.e y.1.e) (swoE L) L.attach
  obtain ⟨S, hS⟩ : ∃ S, S = srtBy (fun x y : {x : Et // x ∈ L} => ordE x.1.e y.1.e) L.attach := ⟨_, rfl⟩
  rw [← hS] at hp hs o'
  refine hK w' (S.map Subtype.val) hp ?_ ?_ c'
  · have hnd : ((S.map Subtype.val).map fun x : Et => x.e.seq).Nodup := by rw [(hp.map _).nodup_iff]; exact hn
    rw [List.map_map, Sorted, List.pairwise_map]
    rw [List.map_map, List.Nodup, List.pairwise_map] at hnd
    refine (hs.and hnd).imp fun {a b} h => ?_
    have h1 : b.1.e.lt a.1.e = false := by rw [← h.1]; exact (ordE_lt b.1.e a.1.e).symm
    exact PE.tri (a := b.1.pe) (b := a.1.pe) (fun e => h.2 e.symm) h1
  · have hlen : S.length = L.length := by rw [hS, srtBy_len]; exact hl
    rw [List.length_map, List.map_map, List.flatMap_map]
    rw [hl] at o'
    rw [hlen]
    exact o'
end Go.Proofs.YtipbbjnmpnfhpaaDoor
