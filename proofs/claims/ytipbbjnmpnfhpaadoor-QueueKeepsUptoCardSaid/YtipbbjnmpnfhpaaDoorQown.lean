/-
  The queue: an entry in memory of its own.
-/
import Derived.Test.YtipbbjnmpnfhpaaDoorQpop
import Derived.Test.YtipbbjnmpnfhpaaDoorQuWp
namespace Go.Proofs.YtipbbjnmpnfhpaaDoor
open Go Go.Sv
set_option linter.unusedVariables false
set_option maxRecDepth 4000
theorem qoct_info : InfoIs Tryd.prog 5 1 1 (.int .u8 0) := .of (by kernel_rfl) (by kernel_rfl) (by kernel_rfl)
theorem qclone_ok {s : Option Addr} {n c : Nat} {w : World} {K : Value → World → Prop} {l : List UInt8} (h : Rd w s n 1 (bytesV l)) (hn : n ≤ 2 ^ 46)
    (hk : ∀ p' c' w' b', Ow w' p' n c' 1 (bytesV l) b' → (∀ k, b' = some k → w.heap.size ≤ k) → Ch (fun _ => False) w w' → K (.slice p' n c') w') : callP Tryd.prog 38 [.slice s n c] w K := by
  refine ok_bytes_Clone ?_
  unfold wp_bytes_Clone
  have hl : l.length = n := by have := h.1; simpa using this
  refine Sif_cases (fun hs => ?_) fun hs => ?_
  · have hs' : s = none := by simpa using hs
    subst hs'
    have h0 : n = 0 := by
      rcases h.2 with h | ⟨b, o, cs, hp, _⟩
      · omega
      · cases hp
    subst h0
    exact hk none 0 w none ⟨by simpa using hl, Nat.le_refl _, .inl ⟨rfl, rfl⟩⟩ (fun k hk => by cases hk) (Ch.refl _ _)
  · refine newB_blk fun w1 hb1 hc1 hz1 => ?_
    have hr : Rd w1 s n 1 (bytesV l) := h.ch hc1 fun _ _ _ => id
    have ho : Ow w1 (some ⟨w.heap.size, 0, none⟩) 0 0 1 [] (some w.heap.size) := ⟨rfl, Nat.le_refl _, .inr ⟨w.heap.size, 0, [], rfl, rfl, hb1, by simp, by simp⟩⟩
    obtain ⟨p', c', w', b', h1, h2, h3, h4, _⟩ := append_rd (ty := 35) (c2 := c) Tryd.underlying35 Tryd.underlying35 qoct_info rfl ho hr (bytesV_one l) (by omega) (by omega)
    rw [Nat.zero_add] at h1 h2
    refine ⟨p', n, c', w', h1, hk p' c' w' b' h2 (fun k hk => ?_) (hc1.trans h4 fun x _ hx => by cases hx; omega)⟩
    rcases h3 k hk with h3 | h3
    · cases h3; exact Nat.le_refl _
    · omega
end Go.Proofs.YtipbbjnmpnfhpaaDoor
