/-
  The document's rows of places: spread, next. The document's rows of places: next. The document's search: lacks. The document's words of a pattern: alike.
-/
import Derived.Test.YtnibmhjdomndbaaGreatDoorRtH
namespace Go.Proofs.YtnibmhjdomndbaaGreatDoor
open Go Go.Sv Go.Rt
set_option linter.unusedVariables false
end Go.Proofs.YtnibmhjdomndbaaGreatDoor
namespace Go.Proofs.YtnibmhjdomndbaaGreatDoor
open Go Go.Sv Go.Rt
set_option linter.unusedVariables false
end Go.Proofs.YtnibmhjdomndbaaGreatDoor
namespace Go.Proofs.YtnibmhjdomndbaaGreatDoor
open Go Go.Sv Go.Rt
set_option linter.unusedVariables false
end Go.Proofs.YtnibmhjdomndbaaGreatDoor
namespace Go.Proofs.YtnibmhjdomndbaaGreatDoor
open Go Go.Sv Go.Rt
set_option linter.unusedVariables false
theorem Nw.d {w w1 w2 : World} {p : Option Addr} {c : Nat} {b : Option Nat} {L : List ByteArray} (h : Nw w w1 p c b L) (k : Ch (fun _ => False) w1 w2) : Nw w w2 p c b L := ⟨h.ow.ch k fun _ _ => id, h.new, h.ch.trans' k⟩
/-- the words of a pattern -/
def Wd (a : List ByteArray) (y : ByteArray) : Prop := y ∈ a ∧ y ≠ star ∧ y ≠ Rt.hash
theorem take_mem_succ {a : List ByteArray} {i : Nat} {x y : ByteArray} (hx : a[i]? = some x) : Wd (a.take (i + 1)) y ↔ Wd (a.take i) y ∨ (y = x ∧ x ≠ star ∧ x ≠ Rt.hash) := by
  unfold Wd
  rw [List.take_add_one, hx, Option.toList_some, List.mem_append, List.mem_singleton]
  constructor
  · rintro ⟨h | rfl, h2, h3⟩
    · exact .inl ⟨h, h2, h3⟩
    · exact .inr ⟨rfl, h2, h3⟩
  · rintro (⟨h, h2, h3⟩ | ⟨rfl, h2, h3⟩)
    · exact ⟨.inl h, h2, h3⟩
    · exact ⟨.inr rfl, h2, h3⟩
end Go.Proofs.YtnibmhjdomndbaaGreatDoor
