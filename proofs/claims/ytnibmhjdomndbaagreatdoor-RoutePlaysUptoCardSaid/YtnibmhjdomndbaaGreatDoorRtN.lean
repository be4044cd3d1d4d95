/-
  The document's Covers. slices.DeleteFunc at the words: '*' and '#' are struck.
-/
import Derived.Test.YtnibmhjdomndbaaGreatDoorRtL
namespace Go.Proofs.YtnibmhjdomndbaaGreatDoor
open Go Go.Sv Go.Rt
set_option linter.unusedVariables false
/-- what Covers says -/
def CovR (a b : ByteArray) (r : Bool) (e : Int) : Prop :=
  (¬ (isPat a = true ∧ isPat b = true) ∧ r = false ∧ e = 180) ∨ (isPat a = true ∧ isPat b = true ∧ e = 0 ∧ (r = true ↔ Cov (parts a) (parts b)))
theorem CovR.one {p t : ByteArray} {b b' : Bool} {e e' : Int} (h : CovR p t b e) (k : CovR p t b' e') : b = b' ∧ e = e' := by
  rcases h with ⟨h1, rfl, rfl⟩ | ⟨h1, h2, rfl, h4⟩ <;> rcases k with ⟨k1, rfl, rfl⟩ | ⟨k1, k2, rfl, k4⟩
  · exact ⟨rfl, rfl⟩
  · exact absurd ⟨k1, k2⟩ h1
  · exact absurd ⟨h1, h2⟩ k1
  · refine ⟨?_, rfl⟩
    rw [Bool.eq_iff_iff, h4, k4]
theorem word_none : word none0 = false := by decide
theorem pat_ne {s : ByteArray} (h : isPat s = true) : ∀ x ∈ parts s, x ≠ none0 := by
  rw [isPat_eq] at h; simp only [Bool.and_eq_true, decide_eq_true_eq] at h
  intro x hx e
  have := List.all_eq_true.1 h.1.1 x hx
  rw [e] at this
  revert this; decide
theorem pat_known {s : ByteArray} (h : isPat s = true) : Known (Wd (parts s)) (parts s) := fun x hx => ⟨pat_ne h x hx, by
  by_cases h1 : x = star
  · exact .inl h1
  · by_cases h2 : x = Rt.hash
    · exact .inr (.inl h2)
    · exact .inr (.inr ⟨hx, h1, h2⟩)⟩
theorem Nw.put {w w1 : World} {p : Option Addr} {c : Nat} {b : Option Nat} {L : List ByteArray} (h : Nw w w1 p c b L) {j : Nat} (hj : j < L.length) : ∃ k o, p = some ⟨k, o, none⟩ ∧ b = some k ∧ w.heap.size ≤ k ∧ ∀ (v : ByteArray) (K : World → Prop), (∀ w2, Nw w w2 p c b (L.set j v) → Ch (· = k) w1 w2 → K w2) → st w1 ⟨k, o + j, none⟩ (.string v) K := by
  obtain ⟨k, o, hp, hb, h3⟩ := h.ow.st (i := j) (by omega)
  refine ⟨k, o, hp, hb, h.new k hb, fun v K hK => h3 _ _ fun w2 o2 c2 z2 => hK w2 ⟨?_, h.new, h.ch.trans c2 fun x hx e => ?_⟩ c2⟩
  · rw [flat1 _ _ _ hj] at o2
    rw [List.length_set]; exact o2
  · rw [e] at hx; exact absurd hx (Nat.not_lt.2 (h.new k hb))
theorem Rd_far {w w' : World} {p : Option Addr} {n k : Nat} {xs : List Value} {w0 : World} (h0 : Rd w0 p n 1 xs) (h : Rd w p n 1 xs) (c : Ch (· = k) w w') (hk : w0.heap.size ≤ k) : Rd w' p n 1 xs := h.ch c fun a ha h1 e => by
  have := h0.lt a ha h1
  rw [e] at this; omega
end Go.Proofs.YtnibmhjdomndbaaGreatDoor
namespace Go.Proofs.YtnibmhjdomndbaaGreatDoor
open Go Go.Sv Go.Rt Go.Sort
set_option linter.unusedVariables false
theorem putRow_blk {α : Type} [Inhabited α] {enc : α → Value} {w : World} {b off : Nat} {d : Array α} {cs : List Value} (h : blk w b = some cs) (hl : off + d.size ≤ cs.length) :
    ∃ cs', blk (putRow enc w b off d) b = some cs' ∧ cs'.length = cs.length ∧ (cs'.drop off).take d.size = d.toList.map enc ∧ Ch (· = b) w (putRow enc w b off d) := by
  unfold blk at h
  have hlt : b < w.heap.size := by
    cases hh : w.heap[b]? with
    | none => rw [hh] at h; cases h
    | some o => exact (Array.getElem?_eq_some_iff.1 hh).1
  split at h
  · rename_i c e fz heq
    split at h
    case isFalse => cases h
    rename_i hfz
    have hc : c.toList = cs := by simpa using h
    subst hc
    have hsz : (putCells enc off d c).size = c.size := by simp [putCells]
    refine ⟨(putCells enc off d c).toList, ?_, by simp [putCells], ?_, ⟨rfl, rfl, rfl, by simp [putRow, mapBlock], fun x hx hne => ?_⟩⟩
    · unfold blk
      have : (putRow enc w b off d).heap[b]? = some (.cells (putCells enc off d c) e fz) := by
        simp only [putRow, mapBlock, Array.getElem?_modify, if_true, heq, Option.map_some, onCells]
      rw [this]
      simp only [hsz, if_pos hfz]
    · apply List.ext_getElem?
      intro k
      rw [List.getElem?_take]
      simp only [List.getElem?_drop, Array.getElem?_toList, putCells, Array.getElem?_mapIdx, List.getElem?_map]
      by_cases hk : k < d.size
      · have h1 : off + k < c.size := by simp at hl; omega
        rw [if_pos hk, Array.getElem?_eq_getElem h1, Option.map_some, if_pos ⟨by omega, by omega⟩, show off + k - off = k by omega, getElem!_pos d k hk, Array.getElem?_eq_getElem hk]; rfl
      · rw [if_neg hk, Array.getElem?_eq_none (by omega)]; rfl
    · simp only [putRow, mapBlock, Array.getElem?_modify]
      rw [if_neg (fun e => hne e.symm)]
  · cases h
instance : Inhabited ByteArray := ⟨⟨#[]⟩⟩
def isWild (s : ByteArray) : Bool := s == star || s == Rt.hash
theorem wild_gives (s : ByteArray) (w : World) : FnGives Tryz.prog 31 #[] #[.string s] (.bool (isWild s)) w := by
  have : callP Tryz.prog 31 [.string s] w fun v w' => v = .bool (isWild s) ∧ w' = w := by
    refine ok_route_Covers_1 ?_
    unfold wp_route_Covers_1 isWild
    rw [star_eq, hash_eq]
    refine Sif_cases (fun h => ⟨?_, rfl⟩) fun h => ⟨?_, rfl⟩
    · have h : (s == star) = false := by simpa using h
      rw [h, Bool.false_or]
    · have h : (s == star) = true := by simpa using h
      rw [h, Bool.true_or]
  exact Calls.mono this fun e w' ⟨v, he, hv, hw⟩ => ⟨by rw [he, hv], 0, hw⟩
set_option maxHeartbeats 1000000 in
theorem delete_ok {w : World} {p : Option Addr} {c k : Nat} {L : List ByteArray} {K : Value → World → Prop} (hO : Ow w p L.length c 1 (L.flatMap sCell) (some k)) (hL : L.length ≤ 2 ^ 40)
    (hk : ∀ w', Ow w' p (L.filter fun x => !isWild x).length c 1 ((L.filter fun x => !isWild x).flatMap sCell) (some k) → Ch (· = k) w w' → K (.slice p (L.filter fun x => !isWild x).length c) w') :
    callP Tryz.prog 30 [.slice p L.length c, .func (.func 31) #[] #[]] w K := by
  obtain ⟨h1, h2, h3⟩ := hO
  rcases h3 with ⟨h3, _⟩ | ⟨k', o, cs, hb, rfl, hbk, hl, ht⟩
  · cases h3
  cases hb
  have hH : Holds (fun s : ByteArray => Value.string s) w k o L.toArray := fun j hj => by
    have hj' : j < L.length := by simpa using hj
    refine ⟨?_, frozen_blk hbk (by omega)⟩
    obtain ⟨b', o', e, hc⟩ := sAt (p := some ⟨k, o, none⟩) (w := w) (L := L) ⟨h1, .inr ⟨k, o, cs, rfl, blk_cells hbk, by omega, ht⟩⟩ (List.getElem?_eq_getElem hj')
    cases e
    rw [hc, getElem!_pos _ j hj]; simp
  have g := Tryz.slices_DeleteFunc (fun s : ByteArray => Value.string s) (fun _ => rfl) isWild 31 #[] (fun args w => okCall_enter (by kernel_rfl) args w) ⟨#[]⟩ (fun w => strings_info.zero w) k o c L.toArray w (fun W x _ => wild_gives x W) (fun _ _ _ x _ => wild_gives x _) hH (by simp; omega) (by simpa using h2)
  obtain ⟨F, hF⟩ : ∃ F, F = L.filter fun x => !isWild x := ⟨_, rfl⟩
  have hFl : F.length ≤ L.length := by rw [hF]; exact List.length_filter_le _ _
  have hrow : (L.toArray.toList.filter fun x => !isWild x) ++ List.replicate (L.toArray.size - (L.toArray.toList.filter fun x => !isWild x).length) (⟨#[]⟩ : ByteArray) = F ++ List.replicate (L.length - F.length) ⟨#[]⟩ := by simp [hF]
  rw [hrow] at g
  rw [← hF] at hk
  refine Calls.mono g fun e w' ⟨he, q, hw⟩ => ⟨_, he, ?_⟩
  have hb2 : blk (Go.Sort.ahead w q) k = some cs := hbk
  obtain ⟨cs', g1, g2, g3, g4⟩ := putRow_blk (enc := fun s : ByteArray => Value.string s) (off := o) (d := (F ++ List.replicate (L.length - F.length) (⟨#[]⟩ : ByteArray)).toArray) hb2 (by simp; omega)
  rw [← hw] at g1 g4
  have hk' := hk w' ⟨by rw [flat_len sCell_len], by omega, .inr ⟨k, o, cs', rfl, rfl, g1, by omega, ?_⟩⟩ (Ch.trans' (⟨rfl, rfl, rfl, Nat.le_refl _, fun _ _ _ => rfl⟩ : Ch (· = k) w (Go.Sort.ahead w q)) g4)
  · simpa [hF] using hk'
  · have hm : ∀ M : List ByteArray, M.flatMap sCell = M.map Value.string := fun M => by induction M with
      | nil => rfl
      | cons x M ih => simp [sCell, ih]
    have := congrArg (List.take (F.length)) g3
    rw [List.take_take] at this
    simp only [List.size_toArray, List.length_append, List.length_replicate, List.map_append] at this
    rw [Nat.min_eq_left (by omega), List.take_left' (by simp)] at this
    rw [Nat.mul_one, this, hm]
end Go.Proofs.YtnibmhjdomndbaaGreatDoor
