/-
  The frame of the laws of routes: a world for the witness, texts as arguments.
-/
import Derived.Test.YtnibmhjdomndbaaGreatDoorCards
import Derived.Test.YtnibmhjdomndbaaGreatDoorTie
import Derived.Test.YtnibmhjdomndbaaGreatDoorSvUpto
import Derived.Test.YtnibmhjdomndbaaGreatDoorSvLaid
import Derived.Test.YtnibmhjdomndbaaGreatDoorRtT
namespace Go.Proofs.YtnibmhjdomndbaaGreatDoor
open Go Go.Sv
set_option linter.unusedVariables false
set_option maxRecDepth 100000
theorem own : ownKnob Tryz.prog.godebug = none := by kernel_rfl
theorem laidOut : laidOutB Tryz.prog = true := by kernel_rfl
/-- a world for the witness -/
noncomputable def tabW (os : Os) : World := laidW Tryz.prog os [(1, flatD 2 Rows.laid_unicode_utf8_first), (2, flatD 3 Rows.laid_unicode_utf8_acceptRanges)]
theorem str_arg {w : World} {v : Value} (h : InpV Tryz.prog w okU 9 v) : ∃ s : ByteArray, v = .string s ∧ s.size ≤ 2 ^ 40 := by
  obtain ⟨⟨n, h⟩, h2⟩ := h
  obtain ⟨s, e, hb⟩ := h.str Tryz.underlying9
  simp only [okU] at hb
  have : upM = 1048576 := rfl
  rw [Tryz.underlying9] at h2
  refine ⟨s, ?_, by omega⟩
  cases v <;> simp_all [Value.cells, oneV]
end Go.Proofs.YtnibmhjdomndbaaGreatDoor
