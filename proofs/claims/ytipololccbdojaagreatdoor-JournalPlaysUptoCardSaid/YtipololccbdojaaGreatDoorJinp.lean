/-
  The journal's laws: arguments as they come in.
-/
import Derived.Test.YtipololccbdojaaGreatDoorSvUpto
import Derived.Test.YtipololccbdojaaGreatDoorJview
namespace Go.Sv
open Go
set_option linter.unusedVariables false
theorem list_of {α : Type} {g : α → List Value} {Good : α → Prop} : ∀ {L : List (List Value)}, (∀ x ∈ L, ∃ a, x = g a ∧ Good a) → ∃ A : List α, A.length = L.length ∧ L.flatten = A.flatMap g ∧ ∀ a ∈ A, Good a
  | [], _ => ⟨[], rfl, rfl, by simp⟩
  | x :: L, h => by
    obtain ⟨A, h1, h2, h3⟩ := list_of (L := L) fun y hy => h y (List.mem_cons_of_mem _ hy)
    obtain ⟨a, rfl, ha⟩ := h x (List.mem_cons_self ..)
    refine ⟨a :: A, by simp [h1], by rw [List.flatten_cons, h2, List.flatMap_cons], fun z hz => ?_⟩
    rcases List.mem_cons.1 hz with rfl | hz
    · exact ha
    · exact h3 z hz
end Go.Sv
namespace Go.Proofs.YtipololccbdojaaGreatDoor
open Go Go.Sv
set_option linter.unusedVariables false
set_option maxRecDepth 4000
theorem old_in {w : World} {p : Option Addr} {n sz : Nat} {xs : List Value} (h : Rd w p n sz xs) (hs : sz ≠ 0) : inB (Old w) p n := fun a ha hn => h.lt a ha fun e => by
  rcases Nat.mul_eq_zero.1 e with e | e
  · exact hn e
  · exact hs e
theorem rv_of {w : World} {n : Nat} {cs : List Value} (h : Inp Tryz.prog w okU n 23 cs) : ∃ x : RV, cs = x.cells ∧ x.ok w (Old w) ∧ x.n ≤ 2 ^ 20 := by
  obtain ⟨p, L, c, rfl, hc, hb, hr, hi⟩ := h.slice Tryz.underlying23
  obtain ⟨A, h1, h2, -⟩ := list_of (g := fun b : UInt8 => [Value.int .u8 (b.toNat : Int)]) (Good := fun _ => True) (L := L) fun x hx => by
    obtain ⟨m, hm⟩ := hi x hx
    obtain ⟨i, rfl, hwf⟩ := hm.int Tryz.underlying5
    have hw : 0 ≤ i ∧ i ≤ 255 := by
      simp [Lit.wf, IntKind.min, IntKind.max, IntKind.signed, IntKind.bits] at hwf
      omega
    refine ⟨UInt8.ofNat i.toNat, ?_, trivial⟩
    have : ((UInt8.ofNat i.toNat).toNat : Int) = i := by simp [UInt8.toNat_ofNat]; omega
    rw [this]
  have h3 : Tryz.prog.cellsOf 5 = 1 := by kernel_rfl
  rw [h3, h2] at hr
  have e : (A.flatMap fun b : UInt8 => [Value.int .u8 (b.toNat : Int)]) = bytesV A := by
    unfold bytesV
    clear h1 h2 hr
    induction A with
    | nil => rfl
    | cons a A ih => rw [List.flatMap_cons, ih]; rfl
  rw [e] at hr
  simp only [okU] at hb
  have : upM = 1048576 := rfl
  exact ⟨⟨p, L.length, c, A⟩, rfl, ⟨hr, hc, old_in hr (by decide)⟩, by show L.length ≤ _; omega⟩
theorem vr_of {w : World} {n : Nat} {cs : List Value} (h : Inp Tryz.prog w okU n 29 cs) : ∃ y : BV, cs = y.cells ∧ y.ok w (Old w) ∧ BV.small y := by
  obtain ⟨p, L, c, rfl, hc, hb, hr, hi⟩ := h.slice Tryz.underlying29
  obtain ⟨A, h1, h2, h3⟩ := list_of (g := RV.cells) (Good := fun x => x.ok w (Old w) ∧ x.n ≤ 2 ^ 20) (L := L) fun x hx => by
    obtain ⟨m, hm⟩ := hi x hx
    exact rv_of hm
  have h4 : Tryz.prog.cellsOf 23 = 1 := by kernel_rfl
  rw [h4, h2] at hr
  simp only [okU] at hb
  have : upM = 1048576 := rfl
  exact ⟨⟨p, L.length, c, A⟩, rfl, ⟨⟨h1, hr, fun x hx => (h3 x hx).1, old_in hr (by decide)⟩, hc⟩, by show L.length ≤ _; omega, fun x hx => (h3 x hx).2⟩
theorem vl_of {w : World} {n : Nat} {cs : List Value} (h : Inp Tryz.prog w okU n 24 cs) : ∃ x : LV, cs = x.cells ∧ x.ok w := by
  obtain ⟨p, L, c, rfl, hc, hb, hr, hi⟩ := h.slice Tryz.underlying24
  obtain ⟨A, h1, h2, h3⟩ := list_of (g := BV.cells) (Good := fun y => y.ok w (Old w) ∧ BV.small y) (L := L) fun x hx => by
    obtain ⟨m, hm⟩ := hi x hx
    exact vr_of hm
  have h4 : Tryz.prog.cellsOf 29 = 1 := by kernel_rfl
  rw [h4, h2] at hr
  simp only [okU] at hb
  have : upM = 1048576 := rfl
  exact ⟨⟨p, L.length, c, A⟩, rfl, ⟨h1, hr, fun x hx => (h3 x hx).1, old_in hr (by decide)⟩, hc, by show L.length ≤ _; omega, fun x hx => (h3 x hx).2⟩
theorem one_of {P : Program} {w : World} {ok : Nat → Nat → Prop} {t : TypeId} {v : Value} {d : TypeDesc} (ht : P.underlying t = some d) (hd : match d with | .struct _ | .array _ _ => False | _ => True) (h : InpV P w ok t v) : oneV v = true := by
  obtain ⟨_, h2⟩ := h
  rw [ht] at h2
  cases d <;> simp_all
theorem cells_one {v : Value} (h : oneV v = true) : v.cells.toList = [v] := by cases v <;> simp_all [oneV, Value.cells]
theorem int_arg {w : World} {v : Value} (h : InpV Tryz.prog w okU 3 v) : ∃ n : Int, v = .int .i64 n ∧ -9223372036854775808 ≤ n ∧ n ≤ 9223372036854775807 := by
  have h1 := one_of Tryz.underlying3 trivial h
  obtain ⟨⟨n, h⟩, _⟩ := h
  rw [cells_one h1] at h
  obtain ⟨i, e, hwf⟩ := h.int Tryz.underlying3
  exact ⟨i, by simpa using e, wf64 hwf⟩
end Go.Proofs.YtipololccbdojaaGreatDoor
