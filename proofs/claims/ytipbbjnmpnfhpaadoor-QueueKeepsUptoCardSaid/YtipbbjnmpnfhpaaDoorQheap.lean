/-
  Heaps, plain: what up and down do to a row, over any order.
-/
import Derived.Test.YtipbbjnmpnfhpaaDoorSvRow
namespace Go.Heap
set_option linter.unusedVariables false

/-- an order: what is before -/
structure Ord {α : Type} (lt : α → α → Bool) : Prop where
  tr : ∀ a b c, lt b a = false → lt c b = false → lt c a = false
  as : ∀ a b, lt a b = true → lt b a = false
def par (c : Nat) : Nat := (c - 1) / 2
def sw {α : Type} (f : Nat → α) (i j : Nat) : Nat → α := fun k => if k = i then f j else if k = j then f i else f k
section
variable {α : Type} {lt : α → α → Bool} {f : Nat → α} {n s i j : Nat}
/-- a heap of n, from place s on -/
def HeapFrom (lt : α → α → Bool) (f : Nat → α) (n s : Nat) : Prop := ∀ c, 0 < c → c < n → s ≤ par c → lt (f c) (f (par c)) = false
def UpInv (lt : α → α → Bool) (f : Nat → α) (n j : Nat) : Prop := (∀ c, 0 < c → c < n → c ≠ j → lt (f c) (f (par c)) = false) ∧ ∀ c, 0 < c → c < n → par c = j → 0 < j → lt (f c) (f (par j)) = false
def DnInv (lt : α → α → Bool) (f : Nat → α) (n s i : Nat) : Prop := s ≤ i ∧ (∀ c, 0 < c → c < n → s ≤ par c → par c ≠ i → lt (f c) (f (par c)) = false) ∧ ∀ c, 0 < c → c < n → par c = i → 0 < i → s ≤ par i → lt (f c) (f (par i)) = false
theorem par_lt {c : Nat} (h : 0 < c) : par c < c := by unfold par; omega
theorem up_done (h : UpInv lt f n j) (hd : j = 0 ∨ lt (f j) (f (par j)) = false) : HeapFrom lt f n 0 := fun c h0 hn _ => by
  by_cases e : c = j
  · subst e
    rcases hd with hd | hd
    · omega
    · exact hd
  · exact h.1 c h0 hn e
theorem up_step (O : Ord lt) (h : UpInv lt f n j) (hj : 0 < j) (hjn : j < n) (hl : lt (f j) (f (par j)) = true) : UpInv lt (sw f (par j) j) n (par j) := by
  have hpj := par_lt hj
  have hne : par j ≠ j := by omega
  have vp : sw f (par j) j (par j) = f j := by unfold sw; simp
  have vj : sw f (par j) j j = f (par j) := by unfold sw; simp [Ne.symm hne]
  have vk : ∀ k, k ≠ par j → k ≠ j → sw f (par j) j k = f k := fun k h1 h2 => by unfold sw; simp [h1, h2]
  refine ⟨fun c h0 hn hc => ?_, fun c h0 hn hc hp => ?_⟩
  · by_cases e : c = j
    · subst e
      rw [vj, vp]
      exact O.as _ _ hl
    · rw [vk c hc e]
      by_cases e2 : par c = j
      · rw [e2, vj]
        exact h.2 c h0 hn e2 hj
      · by_cases e3 : par c = par j
        · rw [e3, vp]
          have h1 := h.1 c h0 hn e
          rw [e3] at h1
          exact O.tr _ _ _ (O.as _ _ hl) h1
        · rw [vk _ e3 e2]
          exact h.1 c h0 hn e
  · have hpp := par_lt hp
    rw [vk (par (par j)) (by omega) (by omega)]
    have h1 := h.1 (par j) hp (by omega) hne
    by_cases e : c = j
    · subst e
      rw [vj]; exact h1
    · have hcp : c ≠ par j := fun e2 => by
        have := par_lt h0
        omega
      rw [vk c hcp e]
      have h2 := h.1 c h0 hn e
      rw [hc] at h2
      exact O.tr _ _ _ h1 h2
theorem down_done (h : DnInv lt f n s i) (hd : ∀ c, 0 < c → c < n → par c = i → lt (f c) (f i) = false) : HeapFrom lt f n s := fun c h0 hn hs => by
  by_cases e : par c = i
  · rw [e]; exact hd c h0 hn e
  · exact h.2.1 c h0 hn hs e
theorem down_step (O : Ord lt) (h : DnInv lt f n s i) (hj0 : 0 < j) (hjn : j < n) (hjp : par j = i) (hmin : ∀ c, 0 < c → c < n → par c = i → lt (f c) (f j) = false) (hl : lt (f j) (f i) = true) : DnInv lt (sw f i j) n s j := by
  have hij : i < j := by rw [← hjp]; exact par_lt hj0
  have vi : sw f i j i = f j := by unfold sw; simp
  have vj : sw f i j j = f i := by unfold sw; simp [Nat.ne_of_gt hij]
  have vk : ∀ k, k ≠ i → k ≠ j → sw f i j k = f k := fun k h1 h2 => by unfold sw; simp [h1, h2]
  obtain ⟨hs, h1, h2⟩ := h
  refine ⟨by omega, fun c h0 hn hsc hc => ?_, fun c h0 hn hc _ hsp => ?_⟩
  · by_cases e : c = j
    · subst e
      rw [vj, hjp, vi]
      exact O.as _ _ hl
    · by_cases e2 : c = i
      · subst e2
        have hpc := par_lt h0
        rw [vi, vk (par c) (by omega) (by omega)]
        exact h2 j hj0 hjn hjp h0 hsc
      · rw [vk c e2 e]
        by_cases e3 : par c = i
        · rw [e3, vi]
          exact hmin c h0 hn e3
        · rw [vk (par c) e3 hc]
          exact h1 c h0 hn hsc e3
  · have hjc : j < c := by rw [← hc]; exact par_lt h0
    rw [hjp, vi, vk c (by omega) (by omega)]
    have h3 := h1 c h0 hn (by omega) (by omega)
    rw [hc] at h3
    exact h3
/-- the first of a heap is before none -/
theorem heap_first (O : Ord lt) (hr : ∀ a, lt a a = false) (h : HeapFrom lt f n 0) : ∀ c, c < n → lt (f c) (f 0) = false := by
  intro c
  induction c using Nat.strongRecOn with
  | _ c ih =>
    intro hn
    by_cases h0 : c = 0
    · subst h0; exact hr _
    · have hp := par_lt (c := c) (by omega)
      exact O.tr _ _ _ (ih (par c) hp (by omega)) (h c (by omega) hn (Nat.zero_le _))
end
end Go.Heap
