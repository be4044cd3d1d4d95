/-
  What comes out is small; what Read may be asked for.
-/
import Derived.Test.YtipololccbdojaaGreatDoorJhold
import Derived.Test.YtipololccbdojaaGreatDoorJview
import Derived.Test.YtipololccbdojaaGreatDoorJadd
namespace Go.Sv
open Go
set_option linter.unusedVariables false
/-- all records of batches -/
def recsOf (L : List Bt) : List Rc := L.flatMap (·.r)
theorem mem_recsOf {L : List Bt} {x : Rc} : x ∈ recsOf L ↔ ∃ y ∈ L, x ∈ y.r := by simp [recsOf]
end Go.Sv
namespace Go.Proofs.YtipololccbdojaaGreatDoor
open Go Go.Sv
set_option linter.unusedVariables false
set_option maxRecDepth 4000

/-! ### Sizes -/
theorem body_recs (R : Batch) : R.length ≤ (body R).length ∧ ∀ r ∈ R, r.length ≤ (body R).length := by
  induction R with
  | nil => simp
  | cons r R ih =>
    rw [body_cons]
    simp only [List.length_append, be_length, List.length_cons]
    refine ⟨by omega, fun x hx => ?_⟩
    rcases List.mem_cons.1 hx with rfl | hx
    · omega
    · have := ih.2 x hx; omega
def cntR (L : List Batch) : Nat := (L.map List.length).sum
theorem cntR_le (L : List Batch) : cntR L ≤ (allB L).length := by
  induction L with
  | nil => simp [cntR]
  | cons R L ih =>
    rw [allB_cons, List.length_append]
    have h1 := (body_recs R).1
    have h2 := body_le R
    unfold cntR at ih ⊢
    rw [List.map_cons, List.sum_cons]
    omega
theorem allB_cnt {L : List Batch} (h : ∀ R ∈ L, goodB R) : L.length ≤ (allB L).length := by
  induction L with
  | nil => simp
  | cons R L ih =>
    rw [allB_cons, List.length_append, List.length_cons]
    have h1 := batchB_length (h R (by simp)).1
    have h2 := ih fun Q hQ => h Q (by simp [hQ])
    omega
/-- batches that came out are small -/
structure Small (M : Nat) (L : List Bt) : Prop where
  n : L.length ≤ M
  each : ∀ y ∈ L, y.s.n ≤ M
  recs : ∀ x ∈ recsOf L, x.s.n ≤ M
  all : (recsOf L).length ≤ M
theorem recsOf_cnt (L : List Bt) : (recsOf L).length = cntR (L.map Bt.says) := by
  induction L with
  | nil => rfl
  | cons y L ih =>
    have e : recsOf (y :: L) = y.r ++ recsOf L := by simp [recsOf]
    rw [e, List.length_append, ih]
    unfold cntR
    simp [Bt.says]
theorem small_of {w : World} {p : Option Addr} {n c : Nat} {own : Option Nat} {L : List Bt} {M : Nat} (H : BtE.Row w p n c own L) (hg : ∀ R ∈ L.map Bt.says, goodB R) (hM : (allB (L.map Bt.says)).length ≤ M) : Small M L := by
  have h1 := allB_cnt hg
  have h2 := cntR_le (L.map Bt.says)
  rw [List.length_map] at h1
  have hb : ∀ y ∈ L, (body y.says).length ≤ M := fun y hy => by
    have := allB_le (R := y.says) (L := L.map Bt.says) (List.mem_map.2 ⟨y, hy, rfl⟩)
    have := body_le y.says
    omega
  refine ⟨by omega, fun y hy => ?_, fun x hx => ?_, by rw [recsOf_cnt]; omega⟩
  · have hR : RcE.Row w y.s.p y.s.n y.s.c y.s.own y.r := H.2.2.1 y hy
    have h3 := (body_recs y.says).1
    have h4 := hb y hy
    have h5 : y.says.length = y.r.length := by simp [Bt.says]
    have h6 := hR.1
    omega
  · obtain ⟨y, hy, hxy⟩ := mem_recsOf.1 hx
    have hR : RcE.Row w y.s.p y.s.n y.s.c y.s.own y.r := H.2.2.1 y hy
    have hO : Ow w x.s.p x.s.n x.s.c 1 (bytesV x.l) x.s.own := hR.2.2.1 x hxy
    have h3 : x.l.length = x.s.n := by have := hO.1; simpa using this
    have h4 := (body_recs y.says).2 x.l (List.mem_map.2 ⟨x, hxy, rfl⟩)
    have h5 := hb y hy
    omega
theorem scanA_small (d : List UInt8) (safe : Int) : (∀ R ∈ (scanA d safe).1, goodB R) ∧ (allB (scanA d safe).1).length ≤ d.length := by
  obtain ⟨h1, h2⟩ := scanL_back d
  have h3 : (allB (scanL d).1).length ≤ d.length := by rw [← h1]; simp; omega
  unfold scanA
  split
  · exact ⟨by simp, by simp [allB]⟩
  · split
    · exact ⟨by simp, by simp [allB]⟩
    · exact ⟨h2, h3⟩
theorem view_small {M : Nat} {L : List Bt} (h : Small M L) : ∀ y ∈ L.map Bt.view, y.n ≤ M := fun y hy => by
  obtain ⟨x, hx, rfl⟩ := List.mem_map.1 hy
  exact h.each x hx
theorem Live.sure {a : AD} {j : AJ} {L : List Batch} (h : Live a j L) : Sure a j := fun _ _ => by
  have := h.log
  have hg : a.get sLog = ((a.file sLog).map (·.dat)).getD [] := rfl
  rw [hg, h.size]
  cases hf : a.file sLog with
  | none => rw [hf] at this; rw [this.1]; exact Nat.le_refl _
  | some f =>
    rw [hf] at this
    obtain ⟨h1, t, h2, h3, h4⟩ := this
    simp [h2]
end Go.Proofs.YtipololccbdojaaGreatDoor
