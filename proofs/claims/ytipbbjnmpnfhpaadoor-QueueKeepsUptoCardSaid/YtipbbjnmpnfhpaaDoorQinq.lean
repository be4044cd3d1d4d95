/-
  The queue's laws: rows of calls as they come in.
-/
import Derived.Test.YtipbbjnmpnfhpaaDoorQinp
import Derived.Test.YtipbbjnmpnfhpaaDoorQkeepa
namespace Go.Proofs.YtipbbjnmpnfhpaaDoor
open Go Go.Sv Go.Qu
set_option linter.unusedVariables false
set_option maxRecDepth 4000
theorem op_inp {w : World} {n : Nat} {cs : List Value} (h : Inp Tryd.prog w okU n 48 cs) : ∃ o : OpV, cs = o.cells := by
  obtain ⟨hl, hf⟩ := h.struct Tryd.underlying48
  have h13 : Tryd.prog.cellsOf 48 = 13 := by kernel_rfl
  have hi1 : Tryd.prog.cellsOf 3 = 1 := by kernel_rfl
  have hb1 : Tryd.prog.cellsOf 4 = 1 := by kernel_rfl
  have hs1 : Tryd.prog.cellsOf 34 = 1 := by kernel_rfl
  have he7 : Tryd.prog.cellsOf 37 = 7 := by kernel_rfl
  rw [h13] at hl
  simp only [List.forall_mem_cons] at hf
  match cs, hl with
  | [c0, c1, c2, c3, c4, c5, c6, c7, c8, c9, c10, c11, c12], _ =>
    obtain ⟨⟨_, h0⟩, ⟨_, h1⟩, ⟨_, h2⟩, ⟨_, h3⟩, ⟨_, h4⟩, ⟨_, h5⟩, ⟨_, h6⟩, _⟩ := hf
    obtain ⟨i0, e0, _⟩ := h0.int Tryd.underlying3
    obtain ⟨i1, e1, _⟩ := h1.int Tryd.underlying3
    obtain ⟨i2, e2, _⟩ := h2.int Tryd.underlying3
    obtain ⟨i3, e3, _⟩ := h3.int Tryd.underlying3
    obtain ⟨p, L, c, e4, _⟩ := h4.slice Tryd.underlying34
    obtain ⟨b5, e5⟩ := h5.bool Tryd.underlying4
    obtain ⟨x, e6, _⟩ := entry_inp h6
    simp only [hi1, hb1, hs1, he7, List.drop_succ_cons, List.drop_zero, List.take_succ_cons, List.take_zero, List.cons.injEq, and_true] at e0 e1 e2 e3 e4 e5 e6
    subst e0 e1 e2 e3 e4 e5
    refine ⟨⟨i0, i1, i2, i3, p, L.length, c, b5, x.1⟩, ?_⟩
    unfold En.cells at e6
    simp only [List.cons.injEq, and_true] at e6
    obtain ⟨rfl, rfl, rfl, rfl, rfl, rfl, rfl⟩ := e6
    rfl
theorem ops_arg {w : World} {v : Value} (h : InpV Tryd.prog w okU 46 v) : ∃ (p : Option Addr) (Os : List OpV) (c : Nat), v = .slice p Os.length c ∧ Rd w p Os.length 13 (Os.flatMap OpV.cells) := by
  have h0 := qone_of Tryd.underlying46 trivial h
  obtain ⟨⟨n, h⟩, _⟩ := h
  rw [qcells_one h0] at h
  obtain ⟨p, L, c, e, hc, hb, hr, hi⟩ := h.slice Tryd.underlying46
  obtain ⟨A, h1, h2, -⟩ := list_of (g := OpV.cells) (Good := fun _ => True) (L := L) fun x hx => by
    obtain ⟨m, hm⟩ := hi x hx
    obtain ⟨o, rfl⟩ := op_inp hm
    exact ⟨o, rfl, trivial⟩
  have h4 : Tryd.prog.cellsOf 48 = 13 := by kernel_rfl
  rw [h4, h2, ← h1] at hr
  exact ⟨p, A, c, by rw [h1]; exact (List.cons.inj e).1, hr⟩
end Go.Proofs.YtipbbjnmpnfhpaaDoor
