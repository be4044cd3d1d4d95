/-
  The journal's laws: files as they come in.
-/
import Derived.Test.YtipololccbdojaaGreatDoorJinp
import Derived.Test.YtipololccbdojaaGreatDoorRefH
namespace Go.Proofs.YtipololccbdojaaGreatDoor
open Go Go.Sv
set_option linter.unusedVariables false
set_option maxRecDepth 10000
theorem jfv_of {w : World} {n : Nat} {x : List Value} (h : Inp Tryz.prog w okU n 51 x) : ∃ o : FV, x = o.cells ∧ Rd w o.p o.dat.length 1 (bytesV o.dat) ∧ o.dat.length ≤ 2 ^ 20 ∧ o.name.size ≤ 2 ^ 20 := by
  have h1 := h.fields Tryz.underlying51 (by kernel_rfl) (by kernel_rfl)
  match x, h1 with
  | [c0, c1, c2], ⟨⟨_, h0⟩, ⟨_, h1⟩, ⟨_, h2⟩, _⟩ =>
    obtain ⟨s0, e0, b0⟩ := h0.str Tryz.underlying9
    obtain ⟨y, e1, hy, hyn⟩ := rv_of h1
    obtain ⟨i2, e2, _⟩ := h2.int Tryz.underlying3
    simp only [okU] at b0
    have hM : upM = 1048576 := rfl
    have hyl := hy.len
    refine ⟨⟨s0, y.l, i2, y.p, y.c⟩, ?_, by show Rd w y.p y.l.length 1 _; rw [hyl]; exact hy.rd, by show y.l.length ≤ _; omega, by show s0.size ≤ _; omega⟩
    unfold RV.cells at e1
    simp only [List.cons.injEq, and_true] at e0 e1 e2
    subst e0 e1 e2
    simp [FV.cells, hyl]
theorem files_arg {w : World} {v : Value} (h : InpV Tryz.prog w okU 52 v) : ∃ (p : Option Addr) (L : List FV) (c : Nat), v = .slice p L.length c ∧ L.length ≤ 2 ^ 20 ∧ FVIn w p L := by
  have h1 := one_of Tryz.underlying52 trivial h
  obtain ⟨⟨n, h⟩, _⟩ := h
  rw [cells_one h1] at h
  obtain ⟨p, L, c, e, hc, hb, hr, hi⟩ := h.slice Tryz.underlying52
  obtain ⟨A, h1, h2, h3⟩ := list_of (g := FV.cells) (Good := fun o => Rd w o.p o.dat.length 1 (bytesV o.dat) ∧ o.dat.length ≤ 2 ^ 20 ∧ o.name.size ≤ 2 ^ 20) (L := L) fun x hx => by
    obtain ⟨m, hm⟩ := hi x hx
    exact jfv_of hm
  have h4 : Tryz.prog.cellsOf 51 = 3 := by kernel_rfl
  rw [h4, h2] at hr
  simp only [okU] at hb
  have hM : upM = 1048576 := rfl
  have hsum : ∀ F : List FV, (∀ o ∈ F, o.dat.length ≤ 2 ^ 20) → (F.map fun x => x.dat.length).sum ≤ F.length * 2 ^ 20 := by
    intro F
    induction F with
    | nil => simp
    | cons x F ih =>
      intro h
      have h4 := ih fun o ho => h o (List.mem_cons_of_mem _ ho)
      have h5 := h x (List.mem_cons_self ..)
      simp only [List.map_cons, List.sum_cons, List.length_cons, Nat.add_mul]
      omega
  have hs := hsum A fun o ho => (h3 o ho).2.1
  have hAl : A.length ≤ 2 ^ 20 := by omega
  have hmul : A.length * 2 ^ 20 ≤ 2 ^ 20 * 2 ^ 20 := Nat.mul_le_mul_right _ hAl
  refine ⟨p, A, c, by rw [h1]; simpa using e, hAl, by rw [h1]; exact hr, fun x hx => (h3 x hx).1, fun x hx => by have := (h3 x hx).2.2; omega, fun x hx => by have := (h3 x hx).2.1; omega, by omega, by omega⟩
end Go.Proofs.YtipololccbdojaaGreatDoor
