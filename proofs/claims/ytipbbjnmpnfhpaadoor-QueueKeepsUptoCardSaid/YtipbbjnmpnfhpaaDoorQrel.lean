/-
  The queue's Release.
-/
import Derived.Test.YtipbbjnmpnfhpaaDoorQback
import Derived.Test.YtipbbjnmpnfhpaaDoorSvMore
import Derived.Test.YtipbbjnmpnfhpaaDoorShelf
namespace Go.Proofs.YtipbbjnmpnfhpaaDoor
open Go Go.Sv Go.Heap Go.Qu Go.MapKept
set_option linter.unusedVariables false
set_option maxRecDepth 4000
theorem qint_info : InfoIs Tryd.prog 3 1 8 (.int .i64 0) := .of (by kernel_rfl) (by kernel_rfl) (by kernel_rfl)
theorem sortI_ok {w : World} {p : Option Addr} {c : Nat} {b : Option Nat} {L : List Int} {K : Value → World → Prop} (hO : Ow w p L.length c 1 (L.flatMap iC) b) (hL : L.length ≤ 2 ^ 40)
    (hk : ∀ w', Ow w' p L.length c 1 ((L.mergeSort fun x y => decide (x ≤ y)).flatMap iC) b → Ch (fun k => b = some k) w w' → K (.tuple #[]) w') : callP Tryd.prog 33 [.slice p L.length c] w K := by
  by_cases h0 : L.length = 0
  · have : L = [] := List.eq_nil_of_length_eq_zero h0
    subst this
    exact Calls.mono (Tryd.slices_Sort_int_none p c w) fun e w' ⟨he, hw⟩ => ⟨_, he, hw ▸ hk _ (by simpa using hO) (Ch.refl _ _)⟩
  obtain ⟨h1, h2, h3⟩ := hO
  rcases h3 with ⟨_, h3⟩ | ⟨k, o, cs, rfl, rfl, hbk, hl, ht⟩
  · omega
  have g := Tryd.slices_Sort_int k o c L w (holdsI hbk (by omega) (by simpa using ht)) (blk_lt hbk) (by omega)
  refine Calls.mono g fun e w' ⟨he, n, os, hw⟩ => ⟨_, he, ?_⟩
  obtain ⟨q1, q2⟩ := sorted_row hbk h2 hl hw
  exact hk w' q1 q2
theorem asE {e : En} {K : List Value → Prop} (h : K e.cells) : asAggV (nat_lit 7) e.val K := by
  unfold asAggV En.val
  simp only [asAggC]
  exact h
theorem rel_out {A : AQ} {F H : List Et} (E : QF A F H) (W : WQ A) (h : Int) {l : List Int} (hp : l.Perm ((H.filter fun x => decide (x.e.hold = h)).map fun x => x.e.seq)) : (l.mergeSort fun x y => decide (x ≤ y)) = (A.release h).1 := by
  have h1 : ((A.L.filter (has h)).map (·.seq)).Perm l := by
    have e1 := (E.perm.filter (has h)).map (·.seq)
    rw [List.map_append, List.filter_append] at e1
    have f1 : (F.map Et.pe).filter (has h) = [] := List.filter_eq_nil_iff.2 fun y hy => by
      obtain ⟨x, hx, rfl⟩ := List.mem_map.1 hy
      have := E.free x hx
      have e : x.pe.hold = x.e.hold := rfl
      unfold has
      simp only [Bool.and_eq_true, decide_eq_true_eq, not_and]
      omega
    have f2 : (H.map Et.pe).filter (has h) = (H.filter fun x => decide (x.e.hold = h)).map Et.pe := by
      rw [List.filter_map]
      congr 1
      refine List.filter_congr fun x hx => ?_
      have h2 := (W.ok _ (E.all (List.mem_append_right F hx))).hold
      have h2 : 0 ≤ x.e.hold := h2
      have h3 := E.held x hx
      show (decide (1 ≤ h) && decide (x.e.hold = h)) = decide (x.e.hold = h)
      rw [Bool.eq_iff_iff]
      simp only [Bool.and_eq_true, decide_eq_true_eq]
      omega
    rw [f1, f2, List.nil_append, List.map_map] at e1
    exact e1.symm.trans hp.symm
  have hs : ((A.L.filter (has h)).map (·.seq)).Pairwise (· < ·) := by
    rw [List.pairwise_map]
    exact W.asc.filter _
  refine sorted_one (r := fun a b : Int => a < b) (fun a b h1 h2 => by omega) ?_ hs (((List.mergeSort_perm ..).trans h1.symm))
  have q1 := List.pairwise_mergeSort (le := fun x y : Int => decide (x ≤ y)) (fun a b c h1 h2 => by simp at h1 h2 ⊢; omega) (fun a b => by simp; omega) l
  have q2 : (l.mergeSort fun x y => decide (x ≤ y)).Nodup := by
    rw [((List.mergeSort_perm ..).trans h1.symm).nodup_iff]
    exact hs.imp fun h => by omega
  exact (q1.and q2).imp fun {a b} h => by
    have := h.1
    have := h.2
    simp at *
    omega
/-- all of one holder are given back -/
theorem QF.released {A : AQ} {F F' H D H' : List Et} {h : Int} (E : QF A F H) (W : WQ A) (hp : H.Perm (D ++ H')) (hF : F'.Perm (D.map (·.setH 0) ++ F)) (hD : D.map (fun x : Et => x.e.seq) = (A.release h).1) (hheap : HeapFrom En.lt (atE (F'.map (·.e))) F'.length 0) : QF (A.release h).2 F' H' := by
  have hH0 : ∀ x ∈ H, 0 ≤ x.e.hold := fun x hx => (W.ok _ (E.all (List.mem_append_right F hx))).hold
  have hHn := E.held
  have hndH : (H.map fun x : Et => x.e.seq).Nodup := by
    have := E.ndq W
    rw [List.map_append] at this
    exact (List.nodup_append.1 this).2.1
  have key : ∀ x ∈ H, x.e.seq ∈ (A.release h).1 ↔ x.e.hold = h := fun x hx => by
    show x.pe.seq ∈ (A.L.filter (has h)).map (·.seq) ↔ _
    constructor
    · intro hm
      obtain ⟨y, hy, he⟩ := List.mem_map.1 hm
      obtain ⟨hy1, hy2⟩ := List.mem_filter.1 hy
      have : y = x.pe := inj_of_nodup W.nd hy1 (E.all (List.mem_append_right F hx)) he
      subst this
      unfold has at hy2
      simp at hy2
      exact hy2.2
    · intro hh
      refine List.mem_map.2 ⟨x.pe, List.mem_filter.2 ⟨E.all (List.mem_append_right F hx), ?_⟩, rfl⟩
      have h1 := hH0 x hx
      have h2 := hHn x hx
      show (decide (1 ≤ h) && decide (x.e.hold = h)) = true
      simp only [Bool.and_eq_true, decide_eq_true_eq]
      omega
  have hDh : ∀ x ∈ D, x.e.hold = h ∧ 1 ≤ h := fun x hx => by
    have hxH := hp.mem_iff.2 (List.mem_append_left _ hx)
    have h1 := (key x hxH).1 (hD ▸ List.mem_map.2 ⟨x, hx, rfl⟩)
    have := hH0 x hxH
    have := hHn x hxH
    omega
  have hH' : ∀ x ∈ H', x.e.hold ≠ h := fun x hx e => by
    have hxH := hp.mem_iff.2 (List.mem_append_right _ hx)
    have h1 := (key x hxH).2 e
    rw [← hD] at h1
    have h2 : ((D ++ H').map fun x : Et => x.e.seq).Nodup := by rw [← (hp.map _).nodup_iff]; exact hndH
    rw [List.map_append] at h2
    exact (List.nodup_append.1 h2).2.2 _ h1 _ (List.mem_map.2 ⟨x, hx, rfl⟩) rfl
  refine ⟨hheap, ?_, fun x hx => ?_, fun x hx => E.held x (hp.mem_iff.2 (List.mem_append_right _ hx))⟩
  · show ((F' ++ H').map Et.pe).Perm (A.L.map _)
    refine List.Perm.trans ?_ ((E.perm.map _))
    have e1 : (F ++ H).Perm (D ++ F ++ H') := (hp.append_left F).trans (by rw [← List.append_assoc]; exact (List.perm_append_comm).append_right H')
    refine List.Perm.trans ?_ ((e1.map Et.pe).map _).symm
    refine ((hF.append_right H').map Et.pe).trans (.of_eq ?_)
    simp only [List.map_append, List.map_map]
    congr 1
    · congr 1
      · refine List.map_congr_left fun x hx => ?_
        obtain ⟨h1, h2⟩ := hDh x hx
        have e : has h x.pe = true := by
          show (decide (1 ≤ h) && decide (x.e.hold = h)) = true
          simp [h1, h2]
        show (x.setH 0).pe = if has h x.pe = true then _ else _
        rw [if_pos e]; rfl
      · refine List.map_congr_left fun x hx => ?_
        have e : ¬ has h x.pe = true := by
          show ¬ (decide (1 ≤ h) && decide (x.e.hold = h)) = true
          have := E.free x hx
          simp only [Bool.and_eq_true, decide_eq_true_eq]
          omega
        show x.pe = if has h x.pe = true then _ else _
        rw [if_neg e]
    · refine List.map_congr_left fun x hx => ?_
      have e : ¬ has h x.pe = true := by
        show ¬ (decide (1 ≤ h) && decide (x.e.hold = h)) = true
        have := hH' x hx
        simp only [Bool.and_eq_true, decide_eq_true_eq]
        omega
      show x.pe = if has h x.pe = true then _ else _
      rw [if_neg e]
  · rcases List.mem_append.1 (hF.mem_iff.1 hx) with hx | hx
    · obtain ⟨y, hy, rfl⟩ := List.mem_map.1 hx
      rfl
    · exact E.free x hx
end Go.Proofs.YtipbbjnmpnfhpaaDoor
