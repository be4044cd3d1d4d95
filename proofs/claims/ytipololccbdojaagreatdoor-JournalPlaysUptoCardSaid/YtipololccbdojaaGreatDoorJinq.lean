/-
  The journal's laws: a script as it comes in.
-/
import Derived.Test.YtipololccbdojaaGreatDoorJinp
import Derived.Test.YtipololccbdojaaGreatDoorJscript
namespace Go.Proofs.YtipololccbdojaaGreatDoor
open Go Go.Sv
set_option linter.unusedVariables false
set_option maxRecDepth 10000
theorem ov_of {w : World} {n : Nat} {x : List Value} (h : Inp Tryz.prog w okU n 61 x) : ∃ o : OV, x = o.cells ∧ o.ok w := by
  have h1 := h.fields Tryz.underlying61 (by kernel_rfl) (by kernel_rfl)
  match x, h1 with
  | [c0, c1, c2, c3, c4], ⟨⟨_, h0⟩, ⟨_, h1⟩, ⟨_, h2⟩, ⟨_, h3⟩, ⟨_, h4⟩, _⟩ =>
    obtain ⟨i0, e0, _⟩ := h0.int Tryz.underlying3
    obtain ⟨i1, e1, w1⟩ := h1.int Tryz.underlying3
    obtain ⟨i2, e2, w2⟩ := h2.int Tryz.underlying3
    obtain ⟨l, e3, hl, hls⟩ := vr_of h3
    obtain ⟨m, e4, hm⟩ := vl_of h4
    refine ⟨⟨i0, i1, i2, l, m⟩, ?_, (wf64 w1).2, (wf64 w1).1, (wf64 w2).1, hl, hls, hm⟩
    unfold BV.cells at e3
    unfold LV.cells at e4
    simp only [List.cons.injEq, and_true] at e0 e1 e2 e3 e4
    subst e0 e1 e2 e3 e4
    rfl
theorem script_arg {w : World} {v : Value} (h : InpV Tryz.prog w okU 54 v) : ∃ (p : Option Addr) (n c : Nat) (X : List OV), v = .slice p n c ∧ ScV w p n X := by
  have h1 := one_of Tryz.underlying54 trivial h
  obtain ⟨⟨n, h⟩, _⟩ := h
  rw [cells_one h1] at h
  obtain ⟨p, L, c, e, hc, hb, hr, hi⟩ := h.slice Tryz.underlying54
  obtain ⟨A, h1, h2, h3⟩ := list_of (g := OV.cells) (Good := fun o => o.ok w) (L := L) fun x hx => by
    obtain ⟨m, hm⟩ := hi x hx
    exact ov_of hm
  have h4 : Tryz.prog.cellsOf 61 = 5 := by kernel_rfl
  rw [h4, h2] at hr
  simp only [okU] at hb
  have : upM = 1048576 := rfl
  exact ⟨p, L.length, c, A, by simpa using e, h1, hr, by omega, h3⟩
end Go.Proofs.YtipololccbdojaaGreatDoor
