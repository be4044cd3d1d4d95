/-
  DiskLasts: whatever the script, wherever the power fails: the call returns true, and the input reads as it did.
-/
import Derived.Test.YtncbmfinndcojaaRows
import Derived.Test.YtncbmfinndcojaaDiskO
import Derived.Test.YtncbmfinndcojaaSvInp
namespace Go.Proofs.Ytncbmfinndcojaa
open Go Go.Sv Go.MapKept
set_option linter.unusedVariables false
set_option maxRecDepth 10000

abbrev okB : Nat → Nat → Prop := fun n b => n * b ≤ reachBytes
theorem bytes_of {ok : Nat → Nat → Prop} {w : World} {p : Option Addr} {L : List (List Value)} (hr : Rd w p L.length (Try.prog.cellsOf 5) L.flatten) (hi : ∀ x ∈ L, ∃ n, Inp Try.prog w ok n 5 x) : ∃ l : List UInt8, l.length = L.length ∧ Rd w p l.length 1 (bytesV l) := by
  have hx : ∀ x ∈ L, ∃ b : UInt8, x = [.int .u8 (b.toNat : Int)] := fun x hx => by
    obtain ⟨n, h⟩ := hi x hx
    obtain ⟨i, rfl, hw⟩ := h.int Try.underlying5
    have : 0 ≤ i ∧ i ≤ 255 := by simpa [Lit.wf, IntKind.has, IntKind.min, IntKind.max, IntKind.signed, IntKind.bits] using hw
    exact ⟨UInt8.ofNat i.toNat, by simp; omega⟩
  have : ∃ l : List UInt8, L.flatten = bytesV l ∧ l.length = L.length := by
    clear hr hi
    induction L with
    | nil => exact ⟨[], rfl, rfl⟩
    | cons x L ih =>
      obtain ⟨l, h1, h2⟩ := ih fun y hy => hx y (List.mem_cons_of_mem _ hy)
      obtain ⟨b, rfl⟩ := hx x (List.mem_cons_self ..)
      exact ⟨b :: l, by rw [List.flatten_cons, h1]; rfl, by simp [h2]⟩
  obtain ⟨l, h1, h2⟩ := this
  refine ⟨l, h2, ?_⟩
  have h3 : Try.prog.cellsOf 5 = 1 := by kernel_rfl
  rw [h2, ← h1]
  rw [h3] at hr
  exact hr
theorem op_of {w : World} {n : Nat} {x : List Value} (h : Inp Try.prog w okB n 33 x) : ∃ o : OpV, x = o.cells ∧ Rd w o.dp o.dat.length 1 (bytesV o.dat) ∧ o.dat.length ≤ 2 ^ 62 ∧ o.name.size ≤ 2 ^ 62 ∧ o.to.size ≤ 2 ^ 62 := by
  have h1 := h.fields Try.underlying33 (by kernel_rfl) (by kernel_rfl)
  match x, h1 with
  | [c0, c1, c2, c3, c4, c5, c6], ⟨⟨_, h0⟩, ⟨_, h1⟩, ⟨_, h2⟩, ⟨_, h3⟩, ⟨_, h4⟩, ⟨_, h5⟩, ⟨_, h6⟩, _⟩ =>
    obtain ⟨i0, e0, _⟩ := h0.int Try.underlying3
    obtain ⟨i1, e1, _⟩ := h1.int Try.underlying3
    obtain ⟨i2, e2, _⟩ := h2.int Try.underlying3
    obtain ⟨i3, e3, _⟩ := h3.int Try.underlying3
    obtain ⟨s4, e4, b4⟩ := h4.str Try.underlying9
    obtain ⟨s5, e5, b5⟩ := h5.str Try.underlying9
    obtain ⟨p, L, c, e6, hc, b6, hr, hi⟩ := h6.slice Try.underlying31
    obtain ⟨l, hl, hrd⟩ := bytes_of hr hi
    have hb : Try.prog.bytesOf 5 = 1 := by kernel_rfl
    have hr2 := reachBytes_lt
    simp only [okB] at b4 b5 b6
    rw [hb] at b6
    refine ⟨⟨i0, i1, i2, i3, s4, s5, p, l, c⟩, ?_, hrd, by show l.length ≤ _; omega, by show s4.size ≤ _; omega, by show s5.size ≤ _; omega⟩
    simp only [List.cons.injEq, and_true] at e0 e1 e2 e3 e4 e5 e6
    subst e0 e1 e2 e3 e4 e5 e6
    simp [OpV.cells, hl]
theorem ops_of {w : World} {n : Nat} {cs : List Value} (h : Inp Try.prog w okB n 22 cs) : ∃ (p : Option Addr) (ops : List OpV) (c : Nat), cs = [.slice p ops.length c] ∧ OpsIn w p ops := by
  obtain ⟨p, L, c, rfl, hc, hb, hr, hi⟩ := h.slice Try.underlying22
  have : ∃ ops : List OpV, ops.length = L.length ∧ L.flatten = ops.flatMap OpV.cells ∧ ∀ o ∈ ops, Rd w o.dp o.dat.length 1 (bytesV o.dat) ∧ o.dat.length ≤ 2 ^ 62 ∧ o.name.size ≤ 2 ^ 62 ∧ o.to.size ≤ 2 ^ 62 := by
    clear hr hb hc h
    induction L with
    | nil => exact ⟨[], rfl, rfl, by simp⟩
    | cons x L ih =>
      obtain ⟨l, h1, h2, h3⟩ := ih fun y hy => hi y (List.mem_cons_of_mem _ hy)
      obtain ⟨m, hm⟩ := hi x (List.mem_cons_self ..)
      obtain ⟨o, rfl, ho⟩ := op_of hm
      refine ⟨o :: l, by simp [h1], by rw [List.flatten_cons, h2, List.flatMap_cons], fun z hz => ?_⟩
      rcases List.mem_cons.1 hz with rfl | hz
      · exact ho
      · exact h3 z hz
  obtain ⟨ops, h1, h2, h3⟩ := this
  have hC : Try.prog.cellsOf 33 = 7 := by kernel_rfl
  have hB : Try.prog.bytesOf 33 = 88 := by kernel_rfl
  have hr2 := reachBytes_lt
  rw [hC] at hr
  simp only [okB] at hb
  rw [hB] at hb
  exact ⟨p, ops, c, by rw [h1], by rw [h1, ← h2]; exact hr, h3, by omega⟩
theorem own : ownKnob Try.prog.godebug = none := by kernel_rfl
theorem laidOut : laidOutB Try.prog = true := by kernel_rfl
set_option maxRecDepth 100000 in
theorem lasts_lifted (os : Os) (started : os.Started) (H : Type) (enc : TypeId × Value → H) :
    ReturnsInHanded {} Try.checked os 3 .any (Rows.diskLastsSpec.pre6 enc Try.prog Try.f3 Rows.diskLastsRow.domain false) (Rows.diskLastsSpec.post enc Try.prog Try.f3 false true false false) := by
  refine lift_said (C := Try.checked) (tb := 4) started own laidOut (by kernel_rfl) Try.func3
    (ChangeSpec.witness6 (enc := enc) (C := Try.checked) false ⟨#[], #[.slice none 0 0, .int .i64 0, .agg #[.int .i64 0, .int .i64 0]], []⟩ 8 (by kernel_rfl) (by kernel_rfl) (by kernel_rfl) (by kernel_rfl))
    rfl (fun ds h => ?_) rfl Try.underlying4 (by kernel_rfl) fun W args hin => ?_
  · match ds, h with
    | [a, b, c], _ => rfl
  · generalize args.toList = vs at hin ⊢
    rw [Try.params3] at hin
    match vs, hin with
    | [v0, v1, v2], ⟨⟨⟨n0, i0⟩, s0⟩, ⟨⟨n1, i1⟩, s1⟩, ⟨⟨n2, i2⟩, s2⟩, _⟩ =>
      obtain ⟨p, ops, c, e0, H0⟩ := ops_of i0
      obtain ⟨k, e1, hw1⟩ := i1.int Try.underlying3
      have h2 := i2.fields Try.underlying24 (by kernel_rfl) (by kernel_rfl)
      rw [show Try.checked.prog = Try.prog from rfl, Try.underlying22] at s0
      rw [show Try.checked.prog = Try.prog from rfl, Try.underlying3] at s1
      rw [show Try.checked.prog = Try.prog from rfl, Try.underlying24] at s2
      obtain ⟨cs, rfl⟩ := s2
      obtain ⟨cl⟩ := cs
      simp only [Value.cells] at h2
      match cl, h2 with
      | [a, b], ⟨⟨_, ha⟩, ⟨_, hb⟩, _⟩ =>
        obtain ⟨ka, ea, hwa⟩ := ha.int Try.underlying3
        obtain ⟨kb, eb, hwb⟩ := hb.int Try.underlying3
        obtain rfl : v0 = .slice p ops.length c := by cases v0 <;> simp_all [Value.cells, oneV]
        obtain rfl : v1 = .int .i64 k := by cases v1 <;> simp_all [Value.cells, oneV]
        simp only [List.cons.injEq, and_true] at ea eb
        subst ea eb
        have w1 := wf64 hw1
        have wa := wf64 hwa
        exact lasts_ok H0 w1.1 w1.2 wa.2 fun w' hc => ⟨rfl, hc⟩
namespace diskLasts
theorem over : Rows.diskLastsRow.holds Try.pinned (OpenSpec.ofChange Rows.diskLastsSpec) :=
  OpenClaim.holds_of_wide 3 Try.f3 rfl rfl rfl rfl rfl rfl rfl ⟨rfl, rfl, rfl, rfl, rfl⟩ rfl rfl rfl rfl rfl (by kernel_rfl) Try.func3 (by kernel_rfl)
    (of_decide_eq_true (by kernel_rfl)) (by unfold Func.isWrapper; first | (rw [if_pos (by decide +kernel)]; kernel_rfl) | (rw [if_neg (by decide +kernel)]; exact ⟨rfl, rfl⟩))
    (fun os started H enc _ => lasts_lifted os started H enc)
theorem proved : Rows.DiskLastsSaid := over
end diskLasts
#print axioms diskLasts.proved
end Go.Proofs.Ytncbmfinndcojaa
