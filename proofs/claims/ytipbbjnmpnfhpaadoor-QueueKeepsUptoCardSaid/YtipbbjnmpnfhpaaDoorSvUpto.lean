/-
  The bound of the second form, as a measure.
-/
import Derived.Test.YtipbbjnmpnfhpaaDoorRows
import Derived.Test.YtipbbjnmpnfhpaaDoorSvLaid
namespace Go.Proofs.YtipbbjnmpnfhpaaDoor
open Go Go.Sv
theorem bulk_part {H : Type} {d : DataW H} {l : List (DataW H)} (h : d ∈ l) : Rows.uptoBulk d ≤ Rows.uptoBulkAll l := by
  induction l with
  | nil => cases h
  | cons x r ih =>
    simp only [Rows.uptoBulkAll]
    rcases List.mem_cons.1 h with rfl | e
    · omega
    · have := ih e; omega
theorem bulk_one {H : Type} (d : DataW H) : 1 ≤ Rows.uptoBulk d := by
  cases d with
  | lit l => cases l <;> simp [Rows.uptoBulk]
  | _ => simp [Rows.uptoBulk]
theorem bulk_len {H : Type} (l : List (DataW H)) : l.length ≤ Rows.uptoBulkAll l := by
  induction l with
  | nil => simp [Rows.uptoBulkAll]
  | cons x r ih => have := bulk_one x; simp only [Rows.uptoBulkAll, List.length_cons]; omega
def upM : Nat := 1048576
def byBulk (P : Program) (H : Type) : Measure P H where
  ok n _ := n ≤ upM
  good _ d := Rows.uptoBulk d ≤ upM
  str h := by simp only [Rows.uptoBulk] at h; omega
  nil _ := Nat.zero_le _
  slice {_ _ a b} _ h := by
    simp only [Rows.uptoBulk] at h
    have h1 := bulk_len a
    have h2 := bulk_len b
    exact ⟨by omega, fun d hd => by have := bulk_part hd; omega⟩
  agg {_ _ l} _ h j f d _ hd := by
    simp only [Rows.uptoBulk] at h
    have := bulk_part (List.mem_of_getElem? hd)
    omega
theorem byBulk_of {P : Program} {H : Type} (ds : List (DataW H)) (h : Rows.uptoSmall H ds = true) : ∀ d ∈ ds, ∀ t, (byBulk P H).good t d := fun d hd t => by
  have h1 : Rows.uptoBulkAll ds ≤ 1048576 := by simpa [Rows.uptoSmall] using h
  have := bulk_part hd
  show Rows.uptoBulk d ≤ upM
  unfold upM; omega
abbrev okU : Nat → Nat → Prop := fun n _ => n ≤ upM
end Go.Proofs.YtipbbjnmpnfhpaaDoor
