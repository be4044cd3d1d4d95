/-
  A new disk; all its files, sorted.
-/
import Derived.Test.YtncbmfinndcojaaDiskI
namespace Go.Proofs.Ytncbmfinndcojaa
open Go Go.Sv Go.MapKept
set_option linter.unusedVariables false
set_option maxRecDepth 4000

def newA (room : Int) : AD := { room := room, down := false, acts := -1, keep := 0, fs := [] }
theorem new_ok {w : World} {room : Int} {K : Value → World → Prop}
    (hno : room < 0 ∨ room > 16777216 → K (.pointer none) w)
    (hk : 0 ≤ room → room ≤ 16777216 → ∀ d w' B', DK w' d (newA room) B' → Ch (fun _ => False) w w' → (∀ b, B' b → w.heap.size ≤ b) → K (.pointer (some ⟨d, 0, none⟩)) w') :
    callP Try.prog 7 [.int .i64 room] w K := by
  refine ok_disk_New ?_
  unfold wp_disk_New
  refine ⟨fun w' => w' = w ∧ 0 ≤ room ∧ room ≤ 16777216, ?_, Sif_cases (fun g => Sif_cases (fun g2 => ?_) fun g2 => ?_) fun g => ?_⟩
  · rintro w1 ⟨rfl, h1, h2⟩
    obtain ⟨w2, hr, hm, c2, z2⟩ := makeMap_run Try.prog 66 .string w1
    refine ⟨some w1.heap.size, w2, hr, newB_blk fun w3 b3 c3 z3 => ?_⟩
    have hm3 := hm.ch c3 id
    refine hk h1 h2 w2.heap.size w3 _ (DK.of (h := (newA room).hd) (r := w1.heap.size) (L := []) ⟨by rw [b3]; rfl, ⟨[], hm3, .refl _⟩, by simp, by simp [blocks]; omega⟩ rfl (by exact .refl _) ⟨by simp [newA], by simpa [newA, total] using h1, h2, by simp [newA], by simp [newA], by simp [newA]⟩) (c2.new c3) fun b hb => ?_
    simp [blocks] at hb
    rcases hb with rfl | rfl <;> omega
  · exact hno (.inr (by have := of_decide_eq_true g2; omega))
  · have h1 : ¬ room < 0 := by simpa using g
    have h2 : ¬ room > 16777216 := of_decide_eq_false g2
    exact ⟨rfl, by omega, by omega⟩
  · have h1 : room < 0 := by simpa using g
    exact hno (.inl h1)
end Go.Proofs.Ytncbmfinndcojaa
