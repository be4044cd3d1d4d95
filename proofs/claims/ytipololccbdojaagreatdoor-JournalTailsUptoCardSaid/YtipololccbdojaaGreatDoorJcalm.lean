/-
  A journal on a disk whose power does not fail: plain: what is added stands in the log; a byte that is changed is told.
-/
import Derived.Test.YtipololccbdojaaGreatDoorJsame
namespace Go.Proofs.YtipololccbdojaaGreatDoor
open Go Go.Sv
set_option linter.unusedVariables false
set_option maxRecDepth 4000

structure Calm (a : AD) (j : AJ) (L : List Batch) : Prop where
  live : Live a j L
  tail : j.tail = false
  tot : total a.fs = (allB L).length
  room : a.room = 16777216
  acts : a.acts = -1
theorem new_open (r : Int) : (newA r).jopen = (0, newA r, some (⟨0, false, false⟩, [])) := rfl
theorem calm_new : Calm (newA 16777216) ⟨0, false, false⟩ [] :=
  ⟨⟨List.nodup_nil, rfl, rfl, rfl, by simp, rfl, ⟨rfl, rfl⟩⟩, rfl, rfl, rfl, rfl⟩
theorem Calm.sort {a : AD} {j : AJ} {L : List Batch} (h : Calm a j L) : Calm a.sorted j L := ⟨h.live.sort, h.tail, by rw [tot_sorted]; exact h.tot, h.room, h.acts⟩
theorem Calm.file {a : AD} {j : AJ} {L : List Batch} (h : Calm a j L) : match a.file sLog with | none => L = [] | some f => f.dat = allB L ∧ f.safe = f.dat.length := by
  have := h.live.log
  cases hf : a.file sLog with
  | none => rw [hf] at this; exact this.1
  | some f =>
    rw [hf] at this
    obtain ⟨h1, t, h2, h3, h4⟩ := this
    exact ⟨by rw [h2, h4.1 h.tail, List.append_nil], h1⟩
/-- what Read gives -/
theorem Calm.read {a : AD} {j : AJ} {L : List Batch} (h : Calm a j L) : (if a.err [sLog] sLog = 0 then a.get sLog else []) = allB L := by
  have hf := h.file
  have he := err_up (a := a) h.live.up name_log
  have hg : a.get sLog = ((a.file sLog).map (·.dat)).getD [] := rfl
  cases hfile : a.file sLog with
  | none =>
    rw [hfile] at hf he
    have he : a.err [sLog] sLog = 191 := he
    have hf : L = [] := hf
    rw [he, hf]; rfl
  | some f =>
    rw [hfile] at hf he
    have he : a.err [sLog] sLog = 0 := he
    rw [he, if_pos rfl, hg, hfile]
    exact hf.1

theorem calm_add {a : AD} {j : AJ} {L : List Batch} (R : Batch) (h : Calm a j L) :
    (∃ a' j', a.add j R = (200, a', j') ∧ Calm a' j' L ∧ recsB R = false) ∨
    (∃ a' j', a.add j R = (0, a', j') ∧ Calm a' j' L ∧ R = []) ∨
    (∃ a' j', a.add j R = (190, a', j') ∧ Calm a' j' L ∧ R ≠ [] ∧ recsB R = true ∧ ((batchB R).length : Int) > 16777216 - (allB L).length) ∨
    (∃ a' j', a.add j R = (0, a', j') ∧ Calm a' j' (L ++ [R]) ∧ R ≠ [] ∧ goodB R ∧ ((batchB R).length : Int) ≤ 16777216 - (allB L).length) := by
  have hcut : a.cut j = (0, a, j) := by unfold AD.cut; rw [if_pos h.tail]
  unfold AD.add
  rw [h.live.look, h.live.jup]
  simp only [Bool.false_eq_true, if_false]
  cases hr : recsB R with
  | false => exact .inl ⟨a, j, by simp, h, rfl⟩
  | true =>
    right
    simp only [Bool.true_eq_false, if_false]
    by_cases hne : R = []
    · exact .inl ⟨a, j, by rw [if_pos hne], h, hne⟩
    right
    rw [if_neg hne, hcut]
    simp only [ne_eq, not_true, if_false]
    have ht := h.tot
    have hroom := h.room
    rcases h.live.lay h.tail hne hr (by omega) with ⟨a2, j2, g1, g2, g3⟩ | ⟨a2, j2, g1, g2, g3, g4⟩ | ⟨a2, j2, g1, g2, g3, g4, g5, g6, g7⟩
    · left
      have hl : a.lay j R = (190, a.sorted, j) := by
        unfold AD.lay
        rcases append_up (l := batchB R) h.live.nd h.live.up name_log with ⟨q1, q2⟩ | ⟨a', q1, q2⟩ | ⟨a', q1, q2, q3, q4⟩
        · rw [q1]; simp only []
          rw [if_pos (by decide), noted190]
        · unfold AD.lay at g1; rw [q1] at g1; simp at g1
        · omega
      exact ⟨_, _, hl, h.sort, hne, by trivial, by omega⟩
    · exact absurd h.acts g2.armed
    · right
      refine ⟨a2, j2, g1, ⟨g3, g4, by rw [g5, ht, allB_append, List.length_append]; simp [allB], by rw [g2.room]; exact hroom, g2.free h.acts⟩, hne, g7, by omega⟩
/-! ### A byte that has changed -/
theorem allB_take_len (L : List Batch) (i : Nat) : (allB (L.take i)).length ≤ (allB L).length := by
  have e : allB L = allB (L.take i) ++ allB (L.drop i) := by
    conv => lhs; rw [← List.take_append_drop i L]
    simp only [allB, List.flatMap_append]
  rw [e, List.length_append]; omega
theorem allB_succ_len {L : List Batch} {i : Nat} (hi : i < L.length) : allB (L.take (i + 1)) = allB (L.take i) ++ batchB L[i] := by
  rw [List.take_succ_eq_append_getElem hi]
  simp only [allB, List.flatMap_append, List.flatMap_cons, List.flatMap_nil, List.append_nil]
/-- how many batches end ahead of a place -/
def aheadN (L : List Batch) (place : Nat) : Nat → Nat
  | 0 => 0
  | i + 1 => if (allB (L.take (i + 1))).length ≤ place then i + 1 else aheadN L place i
theorem aheadN_le (L : List Batch) (place : Nat) : ∀ i, aheadN L place i ≤ i
  | 0 => Nat.le_refl _
  | i + 1 => by unfold aheadN; split; omega; have := aheadN_le L place i; omega
theorem aheadN_spec (L : List Batch) (place : Nat) : ∀ i, (allB (L.take (aheadN L place i))).length ≤ place ∧ ∀ k, aheadN L place i < k → k ≤ i → place < (allB (L.take k)).length
  | 0 => ⟨by simp [aheadN, allB], fun k h1 h2 => by omega⟩
  | i + 1 => by
    unfold aheadN
    split
    · rename_i h; exact ⟨h, fun k h1 h2 => by omega⟩
    · rename_i h
      obtain ⟨h1, h2⟩ := aheadN_spec L place i
      refine ⟨h1, fun k h3 h4 => ?_⟩
      by_cases hk : k = i + 1
      · subst hk; omega
      · exact h2 k h3 (by omega)
theorem turned_scan {L : List Batch} (hL : ∀ R ∈ L, goodB R) {place : Nat} (hp : place < (allB L).length) {x : UInt8} (hx : (allB L)[place]? ≠ some x) :
    let m := aheadN L place L.length
    scanL ((allB L).set place x) = (L.take m, (allB (L.take m)).length) ∧ broken (((allB L).set place x).drop (allB (L.take m)).length) := by
  intro m
  obtain ⟨h1, h2⟩ := aheadN_spec L place L.length
  have hml : m < L.length := by
    have hle := aheadN_le L place L.length
    rcases Nat.lt_or_ge m L.length with h | h
    · exact h
    · have : m = L.length := by show aheadN _ _ _ = _; omega
      have h1' : (allB (L.take m)).length ≤ place := h1
      rw [this, List.take_length] at h1'
      omega
  have h3 : place < (allB (L.take (m + 1))).length := h2 (m + 1) (Nat.lt_succ_self _) (by omega)
  have h1' : (allB (L.take m)).length ≤ place := h1
  have hg := hL _ (List.getElem_mem hml)
  have e : allB L = allB (L.take m) ++ (batchB L[m] ++ allB (L.drop (m + 1))) := by
    conv => lhs; rw [← List.take_append_drop m L, ← List.getElem_cons_drop (h := hml)]
    simp only [allB, List.flatMap_append, List.flatMap_cons]
  rw [allB_succ_len hml, List.length_append] at h3
  have es : (allB L).set place x = allB (L.take m) ++ ((batchB L[m]).set (place - (allB (L.take m)).length) x ++ allB (L.drop (m + 1))) := by
    conv => lhs; rw [e]
    rw [List.set_append_right _ _ h1', List.set_append_left _ _ (by omega)]
  have hx2 : (batchB L[m])[place - (allB (L.take m)).length]? ≠ some x := fun h => hx (by
    rw [e, List.getElem?_append_right h1', List.getElem?_append_left (by omega)]; exact h)
  obtain ⟨t1, t2⟩ := turned_ok hg (by omega : place - (allB (L.take m)).length < (batchB L[m]).length) hx2 (allB (L.drop (m + 1)))
  rw [es]
  refine ⟨?_, by rw [List.drop_left]; exact t2⟩
  rw [scanL_all _ _ fun R hR => hL R (List.mem_of_mem_take hR), scanL_none t1]
  simp
/-- what Scan answers behind that -/
theorem turned_law {L : List Batch} (hL : ∀ R ∈ L, goodB R) {place : Nat} (hp : place < (allB L).length) {x : UInt8} {s : Int} (hs0 : 0 ≤ s) (hs1 : s ≤ (allB L).length) :
    ((allB L)[place]? = some x → scanA ((allB L).set place x) s = (L, (allB L).length, 0)) ∧
    ((allB L)[place]? ≠ some x → (allB (L.take (aheadN L place L.length))).length < s → scanA ((allB L).set place x) s = ([], (allB (L.take (aheadN L place L.length))).length, 201)) ∧
    ((allB L)[place]? ≠ some x → ¬ (allB (L.take (aheadN L place L.length))).length < s → scanA ((allB L).set place x) s = (L.take (aheadN L place L.length), (allB (L.take (aheadN L place L.length))).length, 0)) := by
  refine ⟨fun h => ?_, fun h hb => ?_, fun h hb => ?_⟩
  · have e : (allB L).set place x = allB L := by
      obtain ⟨h1, h2⟩ := List.getElem?_eq_some_iff.1 h
      rw [← h2, List.set_getElem_self]
    rw [e]
    have := (scan_part hL (t := []) (.inl rfl)).2 s hs0 (by simpa using hs1)
    rwa [List.append_nil] at this
  · obtain ⟨t1, t2⟩ := turned_scan hL hp h
    unfold scanA
    rw [if_neg (by simp; omega), t1]
    simp only []
    rw [if_pos ⟨t2, by exact_mod_cast hb⟩]
  · obtain ⟨t1, t2⟩ := turned_scan hL hp h
    unfold scanA
    rw [if_neg (by simp; omega), t1]
    simp only []
    rw [if_neg (fun hh => hb (by exact_mod_cast hh.2))]
end Go.Proofs.YtipololccbdojaaGreatDoor
