/-
  DiskLoads: any files, any room, of bulk at most 1048576: the call returns true, and the input reads as it did.
-/
import Derived.Test.YtncbmfinndcojaaSvUpto
import Derived.Test.YtncbmfinndcojaaDiskP
import Derived.Test.YtncbmfinndcojaaDiskQ
namespace Go.Proofs.Ytncbmfinndcojaa
open Go Go.Sv Go.MapKept
set_option linter.unusedVariables false
set_option maxRecDepth 10000

theorem fv_of {w : World} {n : Nat} {x : List Value} (h : Inp Try.prog w okU n 37 x) : ∃ o : FV, x = o.cells ∧ Rd w o.p o.dat.length 1 (bytesV o.dat) ∧ o.dat.length ≤ upM ∧ o.name.size ≤ upM := by
  have h1 := h.fields Try.underlying37 (by kernel_rfl) (by kernel_rfl)
  match x, h1 with
  | [c0, c1, c2], ⟨⟨_, h0⟩, ⟨_, h1⟩, ⟨_, h2⟩, _⟩ =>
    obtain ⟨s0, e0, b0⟩ := h0.str Try.underlying9
    obtain ⟨p, L, c, e1, hc, b1, hr, hi⟩ := h1.slice Try.underlying31
    obtain ⟨i2, e2, _⟩ := h2.int Try.underlying3
    obtain ⟨l, hl, hrd⟩ := bytes_of hr hi
    simp only [okU] at b0 b1
    refine ⟨⟨s0, l, i2, p, c⟩, ?_, hrd, by show l.length ≤ _; omega, b0⟩
    simp only [List.cons.injEq, and_true] at e0 e1 e2
    subst e0 e1 e2
    simp [FV.cells, hl]
theorem fvs_of {w : World} {n : Nat} {cs : List Value} (h : Inp Try.prog w okU n 29 cs) : ∃ (p : Option Addr) (L : List FV) (c : Nat), cs = [.slice p L.length c] ∧ L.length ≤ c ∧ L.length ≤ upM ∧ FVIn w p L := by
  obtain ⟨p, L, c, rfl, hc, hb, hr, hi⟩ := h.slice Try.underlying29
  have : ∃ F : List FV, F.length = L.length ∧ L.flatten = F.flatMap FV.cells ∧ ∀ o ∈ F, Rd w o.p o.dat.length 1 (bytesV o.dat) ∧ o.dat.length ≤ upM ∧ o.name.size ≤ upM := by
    clear hr hb hc h
    induction L with
    | nil => exact ⟨[], rfl, rfl, by simp⟩
    | cons x L ih =>
      obtain ⟨l, h1, h2, h3⟩ := ih fun y hy => hi y (List.mem_cons_of_mem _ hy)
      obtain ⟨m, hm⟩ := hi x (List.mem_cons_self ..)
      obtain ⟨o, rfl, ho⟩ := fv_of hm
      refine ⟨o :: l, by simp [h1], by rw [List.flatten_cons, h2, List.flatMap_cons], fun z hz => ?_⟩
      rcases List.mem_cons.1 hz with rfl | hz
      · exact ho
      · exact h3 z hz
  obtain ⟨F, h1, h2, h3⟩ := this
  have hC : Try.prog.cellsOf 37 = 3 := by kernel_rfl
  rw [hC] at hr
  have hM : upM = 1048576 := rfl
  simp only [okU] at hb
  have hsum : ∀ F : List FV, (∀ o ∈ F, o.dat.length ≤ upM) → (F.map fun x => x.dat.length).sum ≤ F.length * upM := by
    intro F
    induction F with
    | nil => simp
    | cons x F ih =>
      intro h
      have h4 := ih fun o ho => h o (List.mem_cons_of_mem _ ho)
      have h5 := h x (List.mem_cons_self ..)
      simp only [List.map_cons, List.sum_cons, List.length_cons, Nat.add_mul]
      omega
  have hs := hsum F fun o ho => (h3 o ho).2.1
  have hFl : F.length ≤ upM := by omega
  have hmul : F.length * upM ≤ upM * upM := Nat.mul_le_mul_right _ hFl
  refine ⟨p, F, c, by rw [h1], by omega, hFl, by rw [h1, ← h2]; exact hr, fun x hx => (h3 x hx).1, fun x hx => by have := (h3 x hx).2.2; omega, fun x hx => by have := (h3 x hx).2.1; omega, ?_, by omega⟩
  rw [hM] at hs
  omega
set_option maxRecDepth 100000 in
theorem loads_lifted (os : Os) (started : os.Started) (H : Type) (enc : TypeId × Value → H) (F : Stop.Interp) :
    ReturnsInHanded {} Try.checked os 4 .any ((Rows.OpenSpec.upto Rows.diskLoadsSpec).pre6 enc Try.prog Try.f4 Rows.diskLoadsUptoRow.domain false) (((Rows.OpenSpec.upto Rows.diskLoadsSpec).at F).post enc Try.prog Try.f4 false true false false) := by
  refine lift_upto (C := Try.checked) (tb := 4) (k := Rows.uptoSmall) started (byBulk Try.prog H) rfl byBulk_of own laidOut (by kernel_rfl) Try.func4
    (OpenSpec.witness (enc := enc) (C := Try.checked) (s := Rows.OpenSpec.upto Rows.diskLoadsSpec) (k := Rows.uptoSmall) rfl false ⟨#[], #[.slice none 0 0, .int .i64 0], []⟩ 8 (by kernel_rfl) (by kernel_rfl) (by kernel_rfl)
      (x := ([.nil, .lit (.int .i64 0)], [], [])) (by kernel_rfl) rfl (by kernel_rfl))
    rfl (fun ds h => ?_) rfl Try.underlying4 (by kernel_rfl) fun W args hin => ?_
  · match ds, h with
    | [a, b], _ => rfl
  · generalize args.toList = vs at hin ⊢
    rw [Try.params4] at hin
    match vs, hin with
    | [v0, v1], ⟨⟨⟨n0, i0⟩, s0⟩, ⟨⟨n1, i1⟩, s1⟩, _⟩ =>
      obtain ⟨p, L, c, e0, hc, hL, H0⟩ := fvs_of i0
      obtain ⟨k, e1, hw1⟩ := i1.int Try.underlying3
      rw [show Try.checked.prog = Try.prog from rfl, Try.underlying29] at s0
      rw [show Try.checked.prog = Try.prog from rfl, Try.underlying3] at s1
      obtain rfl : v0 = .slice p L.length c := by cases v0 <;> simp_all [Value.cells, oneV]
      obtain rfl : v1 = .int .i64 k := by cases v1 <;> simp_all [Value.cells, oneV]
      exact loads_ok H0 (by have : upM = 1048576 := rfl; omega) hc fun w' hc => ⟨rfl, hc⟩
namespace diskLoads
theorem over : Rows.diskLoadsUptoRow.holds Try.pinned (Rows.OpenSpec.upto Rows.diskLoadsSpec) :=
  OpenClaim.holds_of_cond 4 Try.f4 rfl rfl rfl rfl rfl rfl rfl ⟨rfl, rfl, rfl, rfl, rfl⟩ rfl rfl rfl rfl rfl (by kernel_rfl) Try.func4 (by kernel_rfl)
    (of_decide_eq_true (by kernel_rfl)) (by unfold Func.isWrapper; first | (rw [if_pos (by decide +kernel)]; kernel_rfl) | (rw [if_neg (by decide +kernel)]; exact ⟨rfl, rfl⟩))
    (fun os started H enc _ F => loads_lifted os started H enc F)
theorem proved : Rows.DiskLoadsUptoSaid := over
end diskLoads
#print axioms diskLoads.proved
end Go.Proofs.Ytncbmfinndcojaa
