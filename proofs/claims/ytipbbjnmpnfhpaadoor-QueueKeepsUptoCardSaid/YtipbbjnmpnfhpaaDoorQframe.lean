/-
  The frame of the queue's laws: a world for the witness; configurations, entries, numbers as arguments.
-/
import Derived.Test.YtipbbjnmpnfhpaaDoorCards
import Derived.Test.YtipbbjnmpnfhpaaDoorTie
import Derived.Test.YtipbbjnmpnfhpaaDoorSvUpto
import Derived.Test.YtipbbjnmpnfhpaaDoorSvLaid
import Derived.Test.YtipbbjnmpnfhpaaDoorQst
import Derived.Test.YtipbbjnmpnfhpaaDoorSvMore
namespace Go.Proofs.YtipbbjnmpnfhpaaDoor
open Go Go.Sv Go.Qu
set_option linter.unusedVariables false
set_option maxRecDepth 100000
theorem own : ownKnob Tryd.prog.godebug = none := by kernel_rfl
theorem laidOut : laidOutB Tryd.prog = true := by kernel_rfl
/-- a world for the witness -/
noncomputable def tabW (os : Os) : World := laidW Tryd.prog os [(0, flatD 2 Rows.laid_unicode_utf8_first), (1, flatD 3 Rows.laid_unicode_utf8_acceptRanges)]
theorem int_arg {w : World} {v : Value} (h : InpV Tryd.prog w okU 3 v) : ∃ n : Int, v = .int .i64 n ∧ -9223372036854775808 ≤ n ∧ n ≤ 9223372036854775807 := by
  obtain ⟨⟨n, h⟩, h2⟩ := h
  obtain ⟨i, e, hw⟩ := h.int Tryd.underlying3
  rw [Tryd.underlying3] at h2
  have hb : -9223372036854775808 ≤ i ∧ i ≤ 9223372036854775807 := by simpa [Lit.wf, IntKind.min, IntKind.max, IntKind.signed, IntKind.bits] using hw
  refine ⟨i, ?_, hb.1, hb.2⟩
  cases v <;> simp_all [Value.cells, oneV]
theorem cfg_arg {w : World} {v : Value} (h : InpV Tryd.prog w okU 24 v) : ∃ c : Cfg, v = .agg #[.string c.name, .int .i64 c.most, .string c.dead, .int .i64 c.tries, .bool c.dur] ∧ c.name.size ≤ 2 ^ 40 ∧ c.dead.size ≤ 2 ^ 40 := by
  obtain ⟨⟨n, h⟩, h2⟩ := h
  rw [Tryd.underlying24] at h2
  obtain ⟨cs, rfl⟩ := h2
  obtain ⟨l⟩ := cs
  have h1 := h.fields Tryd.underlying24 (by kernel_rfl) (by kernel_rfl)
  have hl : (Value.agg ⟨l⟩).cells.toList = l := rfl
  rw [hl] at h1
  match l, h1 with
  | [c0, c1, c2, c3, c4], ⟨⟨_, h0⟩, ⟨_, h1⟩, ⟨_, h2⟩, ⟨_, h3⟩, ⟨_, h4⟩, _⟩ =>
    obtain ⟨s0, e0, b0⟩ := h0.str Tryd.underlying9
    obtain ⟨i1, e1, _⟩ := h1.int Tryd.underlying3
    obtain ⟨s2, e2, b2⟩ := h2.str Tryd.underlying9
    obtain ⟨i3, e3, _⟩ := h3.int Tryd.underlying3
    obtain ⟨b, e4⟩ := h4.bool Tryd.underlying4
    simp only [okU] at b0 b2
    have : upM = 1048576 := rfl
    simp only [List.cons.injEq, and_true] at e0 e1 e2 e3 e4
    subst e0 e1 e2 e3 e4
    exact ⟨⟨s0, i1, s2, i3, b⟩, rfl, by show s0.size ≤ _; omega, by show s2.size ≤ _; omega⟩
end Go.Proofs.YtipbbjnmpnfhpaaDoor
