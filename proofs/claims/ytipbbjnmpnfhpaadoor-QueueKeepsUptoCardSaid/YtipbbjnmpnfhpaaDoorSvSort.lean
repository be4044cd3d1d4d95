/-
  slices.SortFunc at rows of structs, in the words of the memory laws; calls that lay blocks and draw alone. Over every program.
-/
import Derived.Test.YtipbbjnmpnfhpaaDoorSvRow
import Derived.Shelf.SlSortCmp.NoneTotal
namespace Go.Sv
open Go Go.Sort Go.RowKit Go.Shelf Go.Proofs
set_option linter.unusedVariables false
/-- from w to w' nothing but new blocks and draws -/
structure Qt (w w' : World) : Prop where
  ch : Ch (fun _ => False) w w'
  dr : w.drawn ≤ w'.drawn
theorem Qt.refl (w : World) : Qt w w := ⟨Ch.refl _ _, Nat.le_refl _⟩
theorem Qt.trans {a b c : World} (h : Qt a b) (k : Qt b c) : Qt a c := ⟨h.ch.trans' k.ch, Nat.le_trans h.dr k.dr⟩
theorem Qt.drew (w : World) : Qt w w.drew := ⟨Ch.drew w, Nat.le_succ _⟩
theorem newB_qt {w : World} {cs : List Value} {t : TypeId} {K : Addr → World → Prop}
    (hk : ∀ w', blk w' w.heap.size = some cs → Qt w w' → w'.heap.size = w.heap.size + 1 → K ⟨w.heap.size, 0, none⟩ w') : newB w cs t K :=
  hk _ (alloc_blk w cs t) ⟨alloc_ch w _, Nat.le_refl _⟩ (by simp)
theorem Qt.grow {w w' : World} (h : Qt w w') : ∃ q os, w' = Go.Sort.grow (w.drewN q) os := by
  refine ⟨w'.drawn - w.drawn, w'.heap.extract w.heap.size w'.heap.size, ?_⟩
  obtain ⟨⟨h1, h2, h3, h4, h5⟩, h6⟩ := h
  have hh : w'.heap = w.heap ++ w'.heap.extract w.heap.size w'.heap.size := by
    apply Array.ext_getElem?
    intro i
    by_cases hi : i < w.heap.size
    · rw [Array.getElem?_append_left hi, h5 i hi id]
    · by_cases hi2 : i < w'.heap.size
      · rw [Array.getElem?_append_right (by omega), Array.getElem?_extract, if_pos (by omega)]
        congr 1; omega
      · rw [Array.getElem?_eq_none (by omega), Array.getElem?_eq_none (by simp; omega)]
  have hd : w'.drawn = w.drawn + (w'.drawn - w.drawn) := by omega
  cases w
  cases w'
  simp only [Go.Sort.grow, World.drewN] at *
  subst h1 h2 h3
  rw [← hh, ← hd]
section
variable {α : Type} [Inhabited α]
theorem flatK_list {enc : α → List Value} {k : Nat} (hk : ∀ x, (enc x).length = k) (d : Array α) : (flatK enc k d).toList = d.toList.flatMap enc := by
  apply List.ext_getElem?
  intro t
  by_cases ht : t < d.size * k
  · have k0 : 0 < k := by rcases Nat.eq_zero_or_pos k with h | h; subst h; simp at ht; exact h
    have hq : t / k < d.size := (Nat.div_lt_iff_lt_mul k0).2 ht
    have hm := Nat.mod_lt t k0
    have hdm : t / k * k + t % k = t := by rw [Nat.mul_comm]; exact Nat.div_add_mod t k
    have h1 := flat_get hk d.toList (t / k) (t % k) hm
    rw [hdm] at h1
    rw [h1]
    have h2 : (flatK enc k d).toList[t]? = some ((flatK enc k d)[t]!) := by
      rw [Array.getElem?_toList, Array.getElem?_eq_getElem (by simpa using ht), getElem!_pos _ t (by simpa using ht)]
    rw [h2, get_flatK enc k d t ht, getElem!_pos d _ hq, getElem!_pos (enc d[t / k]) _ (by rw [hk]; exact hm)]
    rw [Array.getElem?_toList, Array.getElem?_eq_getElem hq, Option.bind_some, List.getElem?_eq_getElem (by rw [hk]; exact hm)]
  · rw [List.getElem?_eq_none (by simpa using ht), List.getElem?_eq_none (by rw [flat_len hk]; simpa using ht)]
theorem putRow_blk' {w : World} {b off : Nat} {d : Array Value} {cs : List Value} (h : blk w b = some cs) (hl : off + d.size ≤ cs.length) :
    ∃ cs', blk (putRow id w b off d) b = some cs' ∧ cs'.length = cs.length ∧ (cs'.drop off).take d.size = d.toList ∧ Ch (· = b) w (putRow id w b off d) := by
  unfold blk at h
  split at h
  · rename_i c e fz heq
    split at h
    case isFalse => cases h
    rename_i hfz
    have hc : c.toList = cs := by simpa using h
    subst hc
    have hsz : (putCells id off d c).size = c.size := by simp [putCells]
    refine ⟨(putCells id off d c).toList, ?_, by simp [putCells], ?_, ⟨rfl, rfl, rfl, by simp [putRow, mapBlock], fun x hx hne => ?_⟩⟩
    · unfold blk
      have : (putRow id w b off d).heap[b]? = some (.cells (putCells id off d c) e fz) := by
        simp only [putRow, mapBlock, Array.getElem?_modify, if_true, heq, Option.map_some, onCells]
      rw [this]
      simp only [hsz, if_pos hfz]
    · apply List.ext_getElem?
      intro k
      rw [List.getElem?_take]
      simp only [List.getElem?_drop, Array.getElem?_toList, putCells, Array.getElem?_mapIdx]
      by_cases hk : k < d.size
      · have h1 : off + k < c.size := by simp at hl; omega
        rw [if_pos hk, Array.getElem?_eq_getElem h1, Option.map_some, if_pos ⟨by omega, by omega⟩, show off + k - off = k by omega, getElem!_pos d k hk, Array.getElem?_eq_getElem hk]; rfl
      · rw [if_neg hk, Array.getElem?_eq_none (by omega)]
    · simp only [putRow, mapBlock, Array.getElem?_modify]
      rw [if_neg (fun e => hne e.symm)]
  · cases h
theorem sort_grow_ch {w : World} (os : Array Obj) : Ch (fun _ => False) w (Go.Sort.grow w os) :=
  ⟨rfl, rfl, rfl, by simp [Go.Sort.grow], fun b hb _ => by simp only [Go.Sort.grow]; rw [Array.getElem?_append_left hb]⟩
/-- sorted by a cmp that parts any two -/
def srtBy (cf : α → α → Int) (L : List α) : List α := L.mergeSort fun x y => !(ltOf cf) y x
omit [Inhabited α] in
theorem srtBy_perm (cf : α → α → Int) (L : List α) : (srtBy cf L).Perm L := List.mergeSort_perm ..
omit [Inhabited α] in
theorem srtBy_len (cf : α → α → Int) (L : List α) : (srtBy cf L).length = L.length := (srtBy_perm cf L).length_eq
omit [Inhabited α] in
theorem srtBy_sorted (cf : α → α → Int) (hO : SWO (ltOf cf)) (L : List α) : (srtBy cf L).Pairwise fun x y => ltOf cf y x = false := by
  have := List.pairwise_mergeSort (le := fun x y : α => !(ltOf cf) y x) (fun a b c h1 h2 => by
    simp only [Bool.not_eq_true'] at h1 h2 ⊢
    exact hO.ntrans c b a h2 h1) (fun a b => by
    cases h : ltOf cf b a
    · simp
    · cases h2 : ltOf cf a b
      · simp
      · have := hO.trans _ _ _ h h2
        rw [hO.irrefl] at this; cases this) L
  exact this.imp fun h => by simpa using h
theorem sortK_ok {P : Program} {ρ : Ren} (Ly : SlLaysF0.n6 P ρ) {k : Nat} (aE : ∀ w, (isAgg (ρ.t 24)).run P w = .ok true w) (zE : ∀ w, (Go.sizeOf (ρ.t 24)).run P w = .ok k w) {enc : α → List Value} (henc : ∀ x, (enc x).length = k) (h1 : ∀ x, ∀ v ∈ enc x, oneV v = true)
    {cf : α → α → Int} (hO : SWO (ltOf cf)) (hT : ∀ x y, (ltOf cf) x y = false → (ltOf cf) y x = false → x = y) {g : Nat} (eg : ∀ args w, (callFunc g args).run P w = .ok (.enter g args) w)
    (hcmp : ∀ (x y : α) (W : World), Calls P g #[.agg (enc x).toArray, .agg (enc y).toArray] W fun e w' => e = .returned (.int .i64 (cf x y)) ∧ Qt W w')
    {w : World} {p : Option Addr} {c : Nat} {b : Option Nat} {L : List α} (ho : Ow w p L.length c k (L.flatMap enc) b) (hk0 : 0 < k) (hL : L.length ≤ 2 ^ 40) {K : Value → World → Prop}
    (hK : ∀ w', Ow w' p L.length c k ((srtBy cf L).flatMap enc) b → Ch (fun j => b = some j) w w' → K (.tuple #[]) w') : callP P (ρ.f 6) [.slice p L.length c, .func (.func g) #[] #[]] w K := by
  by_cases h0 : L.length = 0
  · have : L = [] := List.eq_nil_of_length_eq_zero h0
    subst this
    have e0 : srtBy cf [] = [] := by simp [srtBy]
    rw [e0] at hK
    exact Calls.mono (AnyF.slices_SortFunc_none Ly p c (.func (.func g) #[] #[]) w) fun e w' ⟨he, hw⟩ => ⟨_, he, hw ▸ hK _ ho (Ch.refl _ _)⟩
  obtain ⟨g1, g2, g3⟩ := ho
  rcases g3 with ⟨_, g3⟩ | ⟨kb, o, cs, rfl, rfl, hbk, hl, ht⟩
  · have : L.length * k ≤ c * k := Nat.mul_le_mul_right _ g2
    have : 0 < L.length * k := Nat.mul_pos (by omega) hk0
    omega
  have hmul : L.length * k ≤ c * k := Nat.mul_le_mul_right _ g2
  have hH : HoldsK enc k w kb o L.toArray := fun j hj => by
    have hj' : j < L.length * k := by simpa using hj
    refine ⟨?_, frozen_blk hbk (by omega)⟩
    obtain ⟨v, hv⟩ : ∃ v, (L.flatMap enc)[j]? = some v := ⟨_, List.getElem?_eq_getElem (by rw [flat_len henc]; exact hj')⟩
    have e1 : (flatK enc k L.toArray)[j]! = v := by
      have h2 := flatK_list henc L.toArray
      have h3 : (flatK enc k L.toArray).toList[j]? = some v := by rw [h2]; exact hv
      rw [Array.getElem?_toList, Array.getElem?_eq_getElem hj] at h3
      rw [getElem!_pos _ j hj]
      exact Option.some.inj h3
    rw [← ht, List.getElem?_take, if_pos (by omega), List.getElem?_drop] at hv
    rw [cell_blk hbk, hv, e1]; rfl
  have gg := AnyQ.slices_SortFunc_total Ly k aE zE enc henc (fun x v hv => by rw [oneCell_of]; exact h1 x v hv) cf hO g #[] kb o c L.toArray w eg (fun m os dk _ x y => (hcmp x y _).mono fun e w' ⟨he, hq⟩ => ⟨he, hq.grow⟩) hH (blk_lt hbk) (by simp; omega) hT
  refine Calls.mono gg fun e w' ⟨he, n, os, hw⟩ => ⟨_, he, ?_⟩
  have hb2 : blk (Go.Sort.ahead w n) kb = some cs := hbk
  obtain ⟨R, hR⟩ : ∃ R, R = (L.toArray.toList.mergeSort fun x y => !(ltOf cf) y x).toArray := ⟨_, rfl⟩
  rw [← hR] at hw
  have hRl : R.toList = srtBy cf L := by rw [hR]; simp [srtBy]
  have hRs : R.size = L.length := by rw [← Array.length_toList, hRl, srtBy_len]
  obtain ⟨cs', q1, q2, q3, q4⟩ := putRow_blk' (off := o) (d := flatK enc k R) hb2 (by rw [size_flatK, hRs]; omega)
  have q5 := sort_grow_ch (w := putRowK enc k (Go.Sort.ahead w n) kb o R) os
  have hw2 : w' = Go.Sort.grow (putRowK enc k (Go.Sort.ahead w n) kb o R) os := hw
  rw [← hw2] at q5
  refine hK w' ⟨by rw [flat_len henc, srtBy_len], g2, .inr ⟨kb, o, cs', rfl, rfl, by rw [q5.blk (blk_lt q1) id]; exact q1, by omega, ?_⟩⟩ ((⟨rfl, rfl, rfl, Nat.le_refl _, fun _ _ _ => rfl⟩ : Ch (fun j => some kb = some j) w (Go.Sort.ahead w n)).trans' ((q4.mono fun x _ h => by rw [h]).trans' (q5.mono fun _ _ h => h.elim)))
  rw [size_flatK, hRs, flatK_list henc, hRl] at q3
  exact q3
end
end Go.Sv
