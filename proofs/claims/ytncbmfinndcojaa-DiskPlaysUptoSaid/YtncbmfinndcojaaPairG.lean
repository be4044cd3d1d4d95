/-
  DiskPlays: every script over two disks of any rooms, of bulk at most 1048576: the call returns true, and the input reads as it did.
-/
import Derived.Test.YtncbmfinndcojaaSvUpto
import Derived.Test.YtncbmfinndcojaaDiskP
import Derived.Test.YtncbmfinndcojaaPairF
namespace Go.Proofs.Ytncbmfinndcojaa
open Go Go.Sv Go.MapKept
set_option linter.unusedVariables false
set_option maxRecDepth 10000

theorem opU_of {w : World} {n : Nat} {x : List Value} (h : Inp Try.prog w okU n 33 x) : ∃ o : OpV, x = o.cells ∧ (Rd w o.dp o.dat.length 1 (bytesV o.dat) ∧ o.dat.length ≤ upM ∧ o.name.size ≤ upM ∧ o.to.size ≤ upM) ∧ (-9223372036854775808 ≤ o.n ∧ o.n ≤ 9223372036854775807) ∧ -9223372036854775808 ≤ o.m := by
  have h1 := h.fields Try.underlying33 (by kernel_rfl) (by kernel_rfl)
  match x, h1 with
  | [c0, c1, c2, c3, c4, c5, c6], ⟨⟨_, h0⟩, ⟨_, h1⟩, ⟨_, h2⟩, ⟨_, h3⟩, ⟨_, h4⟩, ⟨_, h5⟩, ⟨_, h6⟩, _⟩ =>
    obtain ⟨i0, e0, _⟩ := h0.int Try.underlying3
    obtain ⟨i1, e1, _⟩ := h1.int Try.underlying3
    obtain ⟨i2, e2, w2⟩ := h2.int Try.underlying3
    obtain ⟨i3, e3, w3⟩ := h3.int Try.underlying3
    obtain ⟨s4, e4, b4⟩ := h4.str Try.underlying9
    obtain ⟨s5, e5, b5⟩ := h5.str Try.underlying9
    obtain ⟨p, L, c, e6, hc, b6, hr, hi⟩ := h6.slice Try.underlying31
    obtain ⟨l, hl, hrd⟩ := bytes_of hr hi
    simp only [okU] at b4 b5 b6
    refine ⟨⟨i0, i1, i2, i3, s4, s5, p, l, c⟩, ?_, ⟨hrd, by show l.length ≤ _; omega, b4, b5⟩, wf64 w2, (wf64 w3).1⟩
    simp only [List.cons.injEq, and_true] at e0 e1 e2 e3 e4 e5 e6
    subst e0 e1 e2 e3 e4 e5 e6
    simp [OpV.cells, hl]
theorem opsU_of {w : World} {n : Nat} {cs : List Value} (h : Inp Try.prog w okU n 22 cs) : ∃ (p : Option Addr) (ops : List OpV) (c : Nat), cs = [.slice p ops.length c] ∧ OpsU w p ops := by
  obtain ⟨p, L, c, rfl, hc, hb, hr, hi⟩ := h.slice Try.underlying22
  have : ∃ ops : List OpV, ops.length = L.length ∧ L.flatten = ops.flatMap OpV.cells ∧ ∀ o ∈ ops, (Rd w o.dp o.dat.length 1 (bytesV o.dat) ∧ o.dat.length ≤ upM ∧ o.name.size ≤ upM ∧ o.to.size ≤ upM) ∧ (-9223372036854775808 ≤ o.n ∧ o.n ≤ 9223372036854775807) ∧ -9223372036854775808 ≤ o.m := by
    clear hr hb hc h
    induction L with
    | nil => exact ⟨[], rfl, rfl, by simp⟩
    | cons x L ih =>
      obtain ⟨l, h1, h2, h3⟩ := ih fun y hy => hi y (List.mem_cons_of_mem _ hy)
      obtain ⟨m, hm⟩ := hi x (List.mem_cons_self ..)
      obtain ⟨o, rfl, ho⟩ := opU_of hm
      refine ⟨o :: l, by simp [h1], by rw [List.flatten_cons, h2, List.flatMap_cons], fun z hz => ?_⟩
      rcases List.mem_cons.1 hz with rfl | hz
      · exact ho
      · exact h3 z hz
  obtain ⟨ops, h1, h2, h3⟩ := this
  have hC : Try.prog.cellsOf 33 = 7 := by kernel_rfl
  rw [hC] at hr
  simp only [okU] at hb
  have hM : upM = 1048576 := rfl
  exact ⟨p, ops, c, by rw [h1], ⟨by rw [h1, ← h2]; exact hr, fun o ho => ⟨(h3 o ho).1.1, by have := (h3 o ho).1.2.1; omega, by have := (h3 o ho).1.2.2.1; omega, by have := (h3 o ho).1.2.2.2; omega⟩, by omega⟩, fun o ho => (h3 o ho).2, fun o ho => by have := (h3 o ho).1.2.1; omega, by omega⟩
set_option maxRecDepth 100000 in
theorem plays_lifted (os : Os) (started : os.Started) (H : Type) (enc : TypeId × Value → H) (F : Stop.Interp) :
    ReturnsInHanded {} Try.checked os 5 .any ((Rows.OpenSpec.upto Rows.diskPlaysSpec).pre6 enc Try.prog Try.f5 Rows.diskPlaysUptoRow.domain false) (((Rows.OpenSpec.upto Rows.diskPlaysSpec).at F).post enc Try.prog Try.f5 false true false false) := by
  refine lift_upto (C := Try.checked) (tb := 4) (k := Rows.uptoSmall) started (byBulk Try.prog H) rfl byBulk_of own laidOut (by kernel_rfl) Try.func5
    (OpenSpec.witness (enc := enc) (C := Try.checked) (s := Rows.OpenSpec.upto Rows.diskPlaysSpec) (k := Rows.uptoSmall) rfl false ⟨#[], #[.int .i64 0, .int .i64 0, .slice none 0 0], []⟩ 8 (by kernel_rfl) (by kernel_rfl) (by kernel_rfl)
      (x := ([.lit (.int .i64 0), .lit (.int .i64 0), .nil], [], [])) (by kernel_rfl) rfl (by kernel_rfl))
    rfl (fun ds h => ?_) rfl Try.underlying4 (by kernel_rfl) fun W args hin => ?_
  · match ds, h with
    | [a, b, c], _ => rfl
  · generalize args.toList = vs at hin ⊢
    rw [Try.params5] at hin
    match vs, hin with
    | [v0, v1, v2], ⟨⟨⟨n0, i0⟩, s0⟩, ⟨⟨n1, i1⟩, s1⟩, ⟨⟨n2, i2⟩, s2⟩, _⟩ =>
      obtain ⟨k0, e0, hw0⟩ := i0.int Try.underlying3
      obtain ⟨k1, e1, hw1⟩ := i1.int Try.underlying3
      obtain ⟨p, ops, c, e2, H0⟩ := opsU_of i2
      rw [show Try.checked.prog = Try.prog from rfl, Try.underlying3] at s0
      rw [show Try.checked.prog = Try.prog from rfl, Try.underlying3] at s1
      rw [show Try.checked.prog = Try.prog from rfl, Try.underlying22] at s2
      obtain rfl : v0 = .int .i64 k0 := by cases v0 <;> simp_all [Value.cells, oneV]
      obtain rfl : v1 = .int .i64 k1 := by cases v1 <;> simp_all [Value.cells, oneV]
      obtain rfl : v2 = .slice p ops.length c := by cases v2 <;> simp_all [Value.cells, oneV]
      exact plays_ok H0 fun w' hc => ⟨rfl, hc⟩
namespace diskPlays
theorem over : Rows.diskPlaysUptoRow.holds Try.pinned (Rows.OpenSpec.upto Rows.diskPlaysSpec) :=
  OpenClaim.holds_of_cond 5 Try.f5 rfl rfl rfl rfl rfl rfl rfl ⟨rfl, rfl, rfl, rfl, rfl⟩ rfl rfl rfl rfl rfl (by kernel_rfl) Try.func5 (by kernel_rfl)
    (of_decide_eq_true (by kernel_rfl)) (by unfold Func.isWrapper; first | (rw [if_pos (by decide +kernel)]; kernel_rfl) | (rw [if_neg (by decide +kernel)]; exact ⟨rfl, rfl⟩))
    (fun os started H enc _ F => plays_lifted os started H enc F)
theorem proved : Rows.DiskPlaysUptoSaid := over
end diskPlays
#print axioms diskPlays.proved
end Go.Proofs.Ytncbmfinndcojaa
