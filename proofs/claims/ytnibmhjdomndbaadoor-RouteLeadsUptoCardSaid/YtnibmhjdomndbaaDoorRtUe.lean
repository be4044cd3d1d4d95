/-
  RouteLeads: for any bindings, any topic and any queue that is dropped, Match tells just what Bindings and Fits say: the call returns true, and the inputs read as they did. Condition: the inputs are of bulk at most 1048576 (the second form's card); the listed tables of unicode/utf8 lie as the program's text lays them.
-/
import Derived.Test.YtnibmhjdomndbaaDoorRtU
import Derived.Test.YtnibmhjdomndbaaDoorRtX
namespace Go.Proofs.YtnibmhjdomndbaaDoor
open Go Go.Sv
set_option linter.unusedVariables false
set_option maxRecDepth 100000
theorem bind_inp {w : World} {n : Nat} {x : List Value} (h : Inp Tryd.prog w okU n 36 x) : ∃ o : Bd, x = bCells o ∧ o.1.size ≤ 2 ^ 40 ∧ o.2.size ≤ 2 ^ 40 := by
  have h1 := h.fields Tryd.underlying36 (by kernel_rfl) (by kernel_rfl)
  match x, h1 with
  | [c0, c1], ⟨⟨_, h0⟩, ⟨_, h1⟩, _⟩ =>
    obtain ⟨s0, e0, b0⟩ := h0.str Tryd.underlying9
    obtain ⟨s1, e1, b1⟩ := h1.str Tryd.underlying9
    simp only [okU] at b0 b1
    have : upM = 1048576 := rfl
    simp only [List.cons.injEq, and_true] at e0 e1
    subst e0 e1
    exact ⟨(s0, s1), rfl, by show s0.size ≤ _; omega, by show s1.size ≤ _; omega⟩
theorem binds_arg {w : World} {v : Value} (h : InpV Tryd.prog w okU 31 v) : ∃ (p : Option Addr) (L : List Bd) (c : Nat), v = .slice p L.length c ∧ Rd w p L.length 2 (L.flatMap bCells) ∧ L.length ≤ 2 ^ 40 ∧ ∀ x ∈ L, x.1.size ≤ 2 ^ 40 ∧ x.2.size ≤ 2 ^ 40 := by
  obtain ⟨⟨n, h⟩, h2⟩ := h
  obtain ⟨p, L, c, e, hc, hb, hr, hi⟩ := h.slice Tryd.underlying31
  have : ∃ F : List Bd, F.length = L.length ∧ L.flatten = F.flatMap bCells ∧ ∀ o ∈ F, o.1.size ≤ 2 ^ 40 ∧ o.2.size ≤ 2 ^ 40 := by
    clear hr hb hc h e
    induction L with
    | nil => exact ⟨[], rfl, rfl, by simp⟩
    | cons x L ih =>
      obtain ⟨l, h1, h2, h3⟩ := ih fun y hy => hi y (List.mem_cons_of_mem _ hy)
      obtain ⟨m, hm⟩ := hi x (List.mem_cons_self ..)
      obtain ⟨o, rfl, ho⟩ := bind_inp hm
      refine ⟨o :: l, by simp [h1], by rw [List.flatten_cons, h2, List.flatMap_cons], fun z hz => ?_⟩
      rcases List.mem_cons.1 hz with rfl | hz
      · exact ho
      · exact h3 z hz
  obtain ⟨F, h1, h3, h4⟩ := this
  have hC : Tryd.prog.cellsOf 36 = 2 := by kernel_rfl
  rw [hC, h3] at hr
  simp only [okU] at hb
  have : upM = 1048576 := rfl
  rw [Tryd.underlying31] at h2
  rw [← h1] at hr e hc
  exact ⟨p, F, c, by cases v <;> simp_all [Value.cells, oneV], hr, by omega, h4⟩
theorem routeLeads_lifted (os : Os) (started : os.Started) (H : Type) (enc : TypeId × Value → H) (F : Stop.Interp) :
    ReturnsInHanded {} Tryd.checked os 7 .any ((Rows.OpenSpec.upto Rows.routeLeadsSpec).preRow enc Tryd.prog Tryd.f7 Rows.routeLeadsUptoRow.domain false Rows.routeLeadsUptoRow.laid) (((Rows.OpenSpec.upto Rows.routeLeadsSpec).at F).post enc Tryd.prog Tryd.f7 false true false false) := by
  refine lift_laid (C := Tryd.checked) (tb := 4) (k := Rows.uptoSmall) started (byBulk Tryd.prog H) rfl byBulk_of own laidOut (by kernel_rfl) Tryd.func7
    (witness_row_at (enc := enc) (C := Tryd.checked) false (tabW os) #[.slice none 0 0, .string ⟨#[]⟩, .string ⟨#[]⟩] rfl (by kernel_rfl) (by kernel_rfl) (by kernel_rfl)
      (OpenSpec.preRow_of_cond 8 (x := ([.nil, .lit (.string []), .lit (.string [])], [], [])) (by kernel_rfl) (by kernel_rfl) (fun k hk => by cases hk; kernel_rfl) (by kernel_rfl) (laidMet_of_run' 8 (by kernel_rfl) (by kernel_rfl))))
    rfl (fun ds h => ?_) rfl Tryd.underlying4 (by kernel_rfl) fun W args hLaid hin => ?_
  · match ds, h with
    | [d0, d1, d2], _ => rfl
  · generalize args.toList = vs at hin ⊢
    rw [Tryd.params7] at hin
    match vs, hin with
    | [v0, v1, v2], ⟨i0, i1, i2, _⟩ =>
      obtain ⟨p, L, c, rfl, hR, hl, hs⟩ := binds_arg i0
      obtain ⟨s1, rfl, h1⟩ := str_arg i1
      obtain ⟨s2, rfl, h2⟩ := str_arg i2
      exact leads_law hR hl hs h1 fun w' hc => ⟨rfl, hc⟩
namespace routeLeads
theorem over : Rows.routeLeadsUptoRow.holds Tryd.pinned (Rows.OpenSpec.upto Rows.routeLeadsSpec) :=
  OpenClaim.holds_of_cond 7 Tryd.f7 rfl rfl rfl rfl rfl rfl rfl ⟨rfl, rfl, rfl, rfl, rfl⟩ rfl rfl rfl rfl rfl (by kernel_rfl) Tryd.func7 (by kernel_rfl)
    (of_decide_eq_true (by kernel_rfl)) (by unfold Func.isWrapper; first | (rw [if_pos (by decide +kernel)]; kernel_rfl) | (rw [if_neg (by decide +kernel)]; exact ⟨rfl, rfl⟩))
    (fun os started H enc _ F => by rw [OpenClaim.pre_eq_preRow]; exact routeLeads_lifted os started H enc F)
theorem plain (f : FuncId) (fn : Func) (hf : Tryd.pinned.checked.prog.funcNamed "longshore/longshorelaw18.RouteLeads" = some f) (hfn : Tryd.pinned.checked.prog.funcs[f]? = some fn) :
    false = Tryd.pinned.checked.prog.looks [] ∧ ∀ (j : Nat) t, fn.params[j]? = some t → Tryd.pinned.checked.prog.wantsStandIn t = false := by
  obtain rfl : f = 7 := Option.some.inj ((show Tryd.prog.funcNamed "longshore/longshorelaw18.RouteLeads" = some 7 by kernel_rfl).symm.trans hf) |>.symm
  obtain rfl : fn = Tryd.f7 := (Option.some.inj (Tryd.func7.symm.trans hfn)).symm
  have hall : Tryd.f7.params.toList.all (fun t => Tryd.prog.wantsStandIn t == false) = true := by kernel_rfl
  refine ⟨by kernel_rfl, fun j t ht => ?_⟩
  have := List.all_eq_true.1 hall t (Array.mem_toList_iff.2 (Array.mem_of_getElem? ht))
  exact eq_of_beq this
theorem proved : Rows.RouteLeadsUptoCardSaid :=
  Claim7.holds_tied_plain_at .later [] _ _ _ _ over (fun _ h => by cases h) (by kernel_rfl) (fun _ h => by cases h) routeLeadsUpto_row_tie rfl ⟨rfl, rfl⟩ (by kernel_rfl) rfl plain (by kernel_rfl)
end routeLeads
#print axioms routeLeads.proved
end Go.Proofs.YtnibmhjdomndbaaDoor
