/-
  RoutePlays: any calls on two routers, in any order, are answered by the program as by the document, and what is told is its owner's: the call returns true, and the script reads as it did. Condition: the input is of bulk at most 1048576 (the second form's card); the listed tables of unicode/utf8 lie as the program's text lays them.
-/
import Derived.Test.YtnibmhjdomndbaaGreatDoorRtU
import Derived.Test.YtnibmhjdomndbaaGreatDoorRtPe
namespace Go.Proofs.YtnibmhjdomndbaaGreatDoor
open Go Go.Sv
set_option linter.unusedVariables false
set_option maxRecDepth 100000
theorem op_inp {w : World} {n : Nat} {x : List Value} (h : Inp Tryz.prog w okU n 36 x) : ∃ o : OpR, x = o.cells ∧ o.tx.size ≤ 2 ^ 39 ∧ o.qu.size ≤ 2 ^ 39 := by
  have h1 := h.fields Tryz.underlying36 (by kernel_rfl) (by kernel_rfl)
  match x, h1 with
  | [c0, c1, c2, c3], ⟨⟨_, h0⟩, ⟨_, h1⟩, ⟨_, h2⟩, ⟨_, h3⟩, _⟩ =>
    obtain ⟨s0, e0, _⟩ := h0.int Tryz.underlying3
    obtain ⟨s1, e1, b1⟩ := h1.str Tryz.underlying9
    obtain ⟨s2, e2, b2⟩ := h2.str Tryz.underlying9
    obtain ⟨s3, e3⟩ := h3.bool Tryz.underlying4
    simp only [okU] at b1 b2
    have : upM = 1048576 := rfl
    simp only [List.cons.injEq, and_true] at e0 e1 e2 e3
    subst e0 e1 e2 e3
    exact ⟨⟨s0, s1, s2, s3⟩, rfl, by show s1.size ≤ _; omega, by show s2.size ≤ _; omega⟩
theorem ops_arg {w : World} {v : Value} (h : InpV Tryz.prog w okU 22 v) : ∃ (p : Option Addr) (L : List OpR) (c : Nat), v = .slice p L.length c ∧ Rd w p L.length 4 (L.flatMap OpR.cells) ∧ L.length ≤ 2 ^ 40 ∧ ∀ o ∈ L, o.tx.size ≤ 2 ^ 39 ∧ o.qu.size ≤ 2 ^ 39 := by
  obtain ⟨⟨n, h⟩, h2⟩ := h
  obtain ⟨p, L, c, e, hc, hb, hr, hi⟩ := h.slice Tryz.underlying22
  have : ∃ F : List OpR, F.length = L.length ∧ L.flatten = F.flatMap OpR.cells ∧ ∀ o ∈ F, o.tx.size ≤ 2 ^ 39 ∧ o.qu.size ≤ 2 ^ 39 := by
    clear hr hb hc h e
    induction L with
    | nil => exact ⟨[], rfl, rfl, by simp⟩
    | cons x L ih =>
      obtain ⟨l, h1, h2, h3⟩ := ih fun y hy => hi y (List.mem_cons_of_mem _ hy)
      obtain ⟨m, hm⟩ := hi x (List.mem_cons_self ..)
      obtain ⟨o, rfl, ho⟩ := op_inp hm
      refine ⟨o :: l, by simp [h1], by rw [List.flatten_cons, h2, List.flatMap_cons], fun z hz => ?_⟩
      rcases List.mem_cons.1 hz with rfl | hz
      · exact ho
      · exact h3 z hz
  obtain ⟨F, h1, h3, h4⟩ := this
  have hC : Tryz.prog.cellsOf 36 = 4 := by kernel_rfl
  rw [hC, h3] at hr
  simp only [okU] at hb
  have : upM = 1048576 := rfl
  rw [Tryz.underlying22] at h2
  rw [← h1] at hr e hc
  exact ⟨p, F, c, by cases v <;> simp_all [Value.cells, oneV], hr, by omega, h4⟩
theorem routePlays_lifted (os : Os) (started : os.Started) (H : Type) (enc : TypeId × Value → H) (F : Stop.Interp) :
    ReturnsInHanded {} Tryz.checked os 3 .any ((Rows.OpenSpec.upto Rows.routePlaysSpec).preRow enc Tryz.prog Tryz.f3 Rows.routePlaysUptoRow.domain false Rows.routePlaysUptoRow.laid) (((Rows.OpenSpec.upto Rows.routePlaysSpec).at F).post enc Tryz.prog Tryz.f3 false true false false) := by
  refine lift_laid (C := Tryz.checked) (tb := 4) (k := Rows.uptoSmall) started (byBulk Tryz.prog H) rfl byBulk_of own laidOut (by kernel_rfl) Tryz.func3
    (witness_row_at (enc := enc) (C := Tryz.checked) false (tabW os) #[.slice none 0 0] rfl (by kernel_rfl) (by kernel_rfl) (by kernel_rfl)
      (OpenSpec.preRow_of_cond 8 (x := ([.nil], [], [])) (by kernel_rfl) (by kernel_rfl) (fun k hk => by cases hk; kernel_rfl) (by kernel_rfl) (laidMet_of_run' 8 (by kernel_rfl) (by kernel_rfl))))
    rfl (fun ds h => ?_) rfl Tryz.underlying4 (by kernel_rfl) fun W args hLaid hin => ?_
  · match ds, h with
    | [d0], _ => rfl
  · generalize args.toList = vs at hin ⊢
    rw [Tryz.params3] at hin
    match vs, hin with
    | [v0], ⟨i0, _⟩ =>
      obtain ⟨p, L, c, rfl, hR, hl, hs⟩ := ops_arg i0
      exact plays_law hR hl hs fun w' hc => ⟨rfl, hc⟩
namespace routePlays
theorem over : Rows.routePlaysUptoRow.holds Tryz.pinned (Rows.OpenSpec.upto Rows.routePlaysSpec) :=
  OpenClaim.holds_of_cond 3 Tryz.f3 rfl rfl rfl rfl rfl rfl rfl ⟨rfl, rfl, rfl, rfl, rfl⟩ rfl rfl rfl rfl rfl (by kernel_rfl) Tryz.func3 (by kernel_rfl)
    (of_decide_eq_true (by kernel_rfl)) (by unfold Func.isWrapper; first | (rw [if_pos (by decide +kernel)]; kernel_rfl) | (rw [if_neg (by decide +kernel)]; exact ⟨rfl, rfl⟩))
    (fun os started H enc _ F => by rw [OpenClaim.pre_eq_preRow]; exact routePlays_lifted os started H enc F)
theorem plain (f : FuncId) (fn : Func) (hf : Tryz.pinned.checked.prog.funcNamed "longshore/longshorelaw18.RoutePlays" = some f) (hfn : Tryz.pinned.checked.prog.funcs[f]? = some fn) :
    false = Tryz.pinned.checked.prog.looks [] ∧ ∀ (j : Nat) t, fn.params[j]? = some t → Tryz.pinned.checked.prog.wantsStandIn t = false := by
  obtain rfl : f = 3 := Option.some.inj ((show Tryz.prog.funcNamed "longshore/longshorelaw18.RoutePlays" = some 3 by kernel_rfl).symm.trans hf) |>.symm
  obtain rfl : fn = Tryz.f3 := (Option.some.inj (Tryz.func3.symm.trans hfn)).symm
  have hall : Tryz.f3.params.toList.all (fun t => Tryz.prog.wantsStandIn t == false) = true := by kernel_rfl
  refine ⟨by kernel_rfl, fun j t ht => ?_⟩
  have := List.all_eq_true.1 hall t (Array.mem_toList_iff.2 (Array.mem_of_getElem? ht))
  exact eq_of_beq this
theorem proved : Rows.RoutePlaysUptoCardSaid :=
  Claim7.holds_tied_plain_at .later [] _ _ _ _ over (fun _ h => by cases h) (by kernel_rfl) (fun _ h => by cases h) routePlaysUpto_row_tie rfl ⟨rfl, rfl⟩ (by kernel_rfl) rfl plain (by kernel_rfl)
end routePlays
#print axioms routePlays.proved
end Go.Proofs.YtnibmhjdomndbaaGreatDoor
