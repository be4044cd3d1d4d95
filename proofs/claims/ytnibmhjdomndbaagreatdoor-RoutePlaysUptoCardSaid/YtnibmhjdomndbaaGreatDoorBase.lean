/-
  Small facts of this program: the types of strings and of their rows; equal texts.
-/
import Derived.Test.YtnibmhjdomndbaaGreatDoorSvRow
import Derived.Test.YtnibmhjdomndbaaGreatDoorProg
import Derived.KernelRfl
namespace Go.Proofs.YtnibmhjdomndbaaGreatDoor
open Go Go.Sv
set_option linter.unusedVariables false
theorem strings_info : InfoIs Tryz.prog 9 1 16 (.string ⟨#[]⟩) := .of (by kernel_rfl) (by kernel_rfl) (by kernel_rfl)
theorem neS {a b : ByteArray} (h : a ≠ b) : (a.toList == b.toList) = false := by
  rw [beq_eq_false_iff_ne, ByteArray.toList_eq, ByteArray.toList_eq]
  exact fun e => h (data_ext e)
theorem eqS {a b : ByteArray} (h : (a.toList == b.toList) = true) : a = b := by
  have h5 := beq_iff_eq.1 h
  rw [ByteArray.toList_eq, ByteArray.toList_eq] at h5
  exact data_ext h5
def sCell (s : ByteArray) : List Value := [.string s]
theorem sCell_len (s : ByteArray) : (sCell s).length = 1 := rfl
theorem sCell_one (s : ByteArray) : ∀ v ∈ sCell s, oneV v = true := by intro v hv; simp [sCell] at hv; subst hv; rfl
/-- a row of texts, read at a place -/
theorem sAt {w : World} {p : Option Addr} {n : Nat} {L : List ByteArray} (h : Rd w p n 1 (L.flatMap sCell)) {i : Nat} {x : ByteArray} (hi : L[i]? = some x) : ∃ b o, p = some ⟨b, o, none⟩ ∧ w.cell? ⟨b, o + i, none⟩ = some (.string x) := by
  obtain ⟨b, o, hp, hc⟩ := Rd.at sCell_len h hi (by omega)
  exact ⟨b, o, hp, by have := hc 0 _ rfl; simpa using this⟩
end Go.Proofs.YtnibmhjdomndbaaGreatDoor
