/-
  The queue's laws: rows of entries, of numbers, of calls as they come in.
-/
import Derived.Test.YtipbbjnmpnfhpaaDoorQframe
import Derived.Test.YtipbbjnmpnfhpaaDoorQordw
namespace Go.Sv
open Go
set_option linter.unusedVariables false
theorem list_of {α : Type} {g : α → List Value} {Good : α → Prop} : ∀ {L : List (List Value)}, (∀ x ∈ L, ∃ a, x = g a ∧ Good a) → ∃ A : List α, A.length = L.length ∧ L.flatten = A.flatMap g ∧ ∀ a ∈ A, Good a
  | [], _ => ⟨[], rfl, rfl, by simp⟩
  | x :: L, h => by
    obtain ⟨A, h1, h2, h3⟩ := list_of (L := L) fun y hy => h y (List.mem_cons_of_mem _ hy)
    obtain ⟨a, rfl, ha⟩ := h x (List.mem_cons_self ..)
    refine ⟨a :: A, by simp [h1], by rw [List.flatten_cons, h2, List.flatMap_cons], fun z hz => ?_⟩
    rcases List.mem_cons.1 hz with rfl | hz
    · exact ha
    · exact h3 z hz
end Go.Sv
namespace Go.Proofs.YtipbbjnmpnfhpaaDoor
open Go Go.Sv Go.Qu
set_option linter.unusedVariables false
set_option maxRecDepth 4000
theorem qone_of {P : Program} {w : World} {ok : Nat → Nat → Prop} {t : TypeId} {v : Value} {d : TypeDesc} (ht : P.underlying t = some d) (hd : match d with | .struct _ | .array _ _ => False | _ => True) (h : InpV P w ok t v) : oneV v = true := by
  obtain ⟨_, h2⟩ := h
  rw [ht] at h2
  cases d <;> simp_all
theorem qcells_one {v : Value} (h : oneV v = true) : v.cells.toList = [v] := by cases v <;> simp_all [oneV, Value.cells]
theorem data_inp {w : World} {n : Nat} {cs : List Value} (h : Inp Tryd.prog w okU n 35 cs) : ∃ (p : Option Addr) (m c : Nat) (l : List UInt8), cs = [.slice p m c] ∧ Rd w p m 1 (bytesV l) ∧ m ≤ 2 ^ 20 := by
  obtain ⟨p, L, c, rfl, hc, hb, hr, hi⟩ := h.slice Tryd.underlying35
  obtain ⟨A, h1, h2, -⟩ := list_of (g := fun b : UInt8 => [Value.int .u8 (b.toNat : Int)]) (Good := fun _ => True) (L := L) fun x hx => by
    obtain ⟨m, hm⟩ := hi x hx
    obtain ⟨i, rfl, hwf⟩ := hm.int Tryd.underlying5
    have hw : 0 ≤ i ∧ i ≤ 255 := by
      simp [Lit.wf, IntKind.min, IntKind.max, IntKind.signed, IntKind.bits] at hwf
      omega
    refine ⟨UInt8.ofNat i.toNat, ?_, trivial⟩
    have : ((UInt8.ofNat i.toNat).toNat : Int) = i := by simp [UInt8.toNat_ofNat]; omega
    rw [this]
  have h3 : Tryd.prog.cellsOf 5 = 1 := by kernel_rfl
  rw [h3, h2] at hr
  have e : (A.flatMap fun b : UInt8 => [Value.int .u8 (b.toNat : Int)]) = bytesV A := by
    unfold bytesV
    clear h1 h2 hr
    induction A with
    | nil => rfl
    | cons a A ih => rw [List.flatMap_cons, ih]; rfl
  rw [e] at hr
  simp only [okU] at hb
  have : upM = 1048576 := rfl
  exact ⟨p, L.length, c, A, rfl, hr, by omega⟩
theorem entry_inp {w : World} {n : Nat} {cs : List Value} (h : Inp Tryd.prog w okU n 37 cs) : ∃ x : EX, cs = x.1.cells ∧ EIn w x := by
  have h1 := h.fields Tryd.underlying37 (by kernel_rfl) (by kernel_rfl)
  match cs, h1 with
  | [c0, c1, c2, c3, c4, c5, c6], ⟨⟨_, h0⟩, ⟨_, h1⟩, ⟨_, h2⟩, ⟨_, h3⟩, ⟨_, h4⟩, ⟨_, h5⟩, ⟨_, h6⟩, _⟩ =>
    obtain ⟨i0, e0, _⟩ := h0.int Tryd.underlying3
    obtain ⟨i1, e1, _⟩ := h1.int Tryd.underlying3
    obtain ⟨i2, e2, _⟩ := h2.int Tryd.underlying3
    obtain ⟨b3, e3⟩ := h3.bool Tryd.underlying4
    obtain ⟨i4, e4, _⟩ := h4.int Tryd.underlying3
    obtain ⟨i5, e5, _⟩ := h5.int Tryd.underlying3
    obtain ⟨p, m, c, l, e6, hr, hm⟩ := data_inp h6
    simp only [List.cons.injEq, and_true] at e0 e1 e2 e3 e4 e5 e6
    subst e0 e1 e2 e3 e4 e5 e6
    exact ⟨(⟨i0, i1, i2, b3, i4, i5, p, m, c⟩, l), rfl, hr, hm⟩
theorem entries_arg {w : World} {v : Value} (h : InpV Tryd.prog w okU 33 v) : ∃ (p : Option Addr) (Es : List EX) (c : Nat), v = .slice p Es.length c ∧ Rd w p Es.length 7 ((Es.map (·.1)).flatMap En.cells) ∧ (∀ x ∈ Es, EIn w x) ∧ Es.length ≤ 2 ^ 20 := by
  have h0 := qone_of Tryd.underlying33 trivial h
  obtain ⟨⟨n, h⟩, _⟩ := h
  rw [qcells_one h0] at h
  obtain ⟨p, L, c, e, hc, hb, hr, hi⟩ := h.slice Tryd.underlying33
  obtain ⟨A, h1, h2, h3⟩ := list_of (g := fun x : EX => x.1.cells) (Good := fun x => EIn w x) (L := L) fun x hx => by
    obtain ⟨m, hm⟩ := hi x hx
    exact entry_inp hm
  have h4 : Tryd.prog.cellsOf 37 = 7 := by kernel_rfl
  rw [h4, h2, ← h1] at hr
  simp only [okU] at hb
  have : upM = 1048576 := rfl
  refine ⟨p, A, c, by rw [h1]; exact (List.cons.inj e).1, ?_, h3, by omega⟩
  rw [List.flatMap_map]; exact hr
theorem ints_arg {w : World} {v : Value} (h : InpV Tryd.prog w okU 34 v) : ∃ (p : Option Addr) (Ts : List Int) (c : Nat), v = .slice p Ts.length c ∧ Rd w p Ts.length 1 (Ts.flatMap iC) := by
  have h0 := qone_of Tryd.underlying34 trivial h
  obtain ⟨⟨n, h⟩, _⟩ := h
  rw [qcells_one h0] at h
  obtain ⟨p, L, c, e, hc, hb, hr, hi⟩ := h.slice Tryd.underlying34
  obtain ⟨A, h1, h2, -⟩ := list_of (g := iC) (Good := fun _ => True) (L := L) fun x hx => by
    obtain ⟨m, hm⟩ := hi x hx
    obtain ⟨i, rfl, _⟩ := hm.int Tryd.underlying3
    exact ⟨i, rfl, trivial⟩
  have h4 : Tryd.prog.cellsOf 3 = 1 := by kernel_rfl
  rw [h4, h2, ← h1] at hr
  exact ⟨p, A, c, by rw [h1]; exact (List.cons.inj e).1, hr⟩
end Go.Proofs.YtipbbjnmpnfhpaaDoor
