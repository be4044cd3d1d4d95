/-
  The queue's entries, as they are read; their order.
-/
import Derived.Test.YtipbbjnmpnfhpaaDoorQheap
import Derived.Test.YtipbbjnmpnfhpaaDoorHeapWp
namespace Go.Proofs.YtipbbjnmpnfhpaaDoor
open Go Go.Sv
set_option linter.unusedVariables false
set_option maxRecDepth 4000

/-- an entry -/
structure En where
  seq : Int
  pri : Int
  exp : Int
  dur : Bool
  cnt : Int
  hold : Int
  p : Option Addr
  n : Nat
  c : Nat
def En.cells (e : En) : List Value := [.int .i64 e.seq, .int .i64 e.pri, .int .i64 e.exp, .bool e.dur, .int .i64 e.cnt, .int .i64 e.hold, .slice e.p e.n e.c]
theorem En.cells_len (e : En) : e.cells.length = 7 := rfl
def En.val (e : En) : Value := .agg #[.int .i64 e.seq, .int .i64 e.pri, .int .i64 e.exp, .bool e.dur, .int .i64 e.cnt, .int .i64 e.hold, .slice e.p e.n e.c]
/-- ahead of -/
def En.lt (a b : En) : Bool := decide (b.pri < a.pri) || (decide (a.pri = b.pri) && decide (a.seq < b.seq))
theorem En.ord : Heap.Ord En.lt := by
  refine ⟨fun a b c h1 h2 => ?_, fun a b h => ?_⟩
  · unfold En.lt at *
    simp only [Bool.or_eq_false_iff, Bool.and_eq_false_iff, decide_eq_false_iff_not] at *
    omega
  · unfold En.lt at *
    simp only [Bool.or_eq_true, Bool.and_eq_true, decide_eq_true_eq, Bool.or_eq_false_iff, Bool.and_eq_false_iff, decide_eq_false_iff_not] at *
    omega
theorem En.irr (a : En) : a.lt a = false := by unfold En.lt; simp
def cmpI (x y : Int) : Int := if x < y then -1 else if x > y then 1 else 0
def ordE (a b : En) : Int := if cmpI b.pri a.pri ≠ 0 then cmpI b.pri a.pri else cmpI a.seq b.seq
theorem ordE_lt (a b : En) : decide (ordE a b < 0) = a.lt b := by
  unfold ordE cmpI En.lt
  rw [Bool.eq_iff_iff]
  simp only [decide_eq_true_eq, Bool.or_eq_true, Bool.and_eq_true]
  repeat' split
  all_goals omega
theorem isNaN_ok {x : Int} {w : World} {K : Value → World → Prop} (hk : K (.bool false) w) : callP Tryd.prog 62 [.int .i64 x] w K := by
  refine ok_cmp_isNaN ?_
  unfold wp_cmp_isNaN
  rw [show (x != x) = false by simp]
  exact hk
theorem compare_ok {x y : Int} {w : World} {K : Value → World → Prop} (hk : K (.int .i64 (cmpI x y)) w) : callP Tryd.prog 43 [.int .i64 x, .int .i64 y] w K := by
  refine ok_cmp_Compare ?_
  unfold wp_cmp_Compare
  refine isNaN_ok ⟨_, rfl, isNaN_ok ⟨_, rfl, Sif_false (Sif_false ?_)⟩⟩
  unfold cmpI at hk
  refine Sif_cases (fun h => ?_) fun h => Sif_cases (fun h2 => ?_) fun h2 => ?_
  · have h : x < y := by simpa using h
    rw [if_pos h] at hk; exact hk
  · have h : ¬ x < y := by simpa using h
    have h2 : x > y := by simpa using h2
    rw [if_neg h, if_pos h2] at hk; exact hk
  · have h : ¬ x < y := by simpa using h
    have h2 : ¬ x > y := by simpa using h2
    rw [if_neg h, if_neg h2] at hk; exact hk
theorem or_ok {w : World} {b : Nat} {x y : Int} {K : Value → World → Prop} (hb : blk w b = some [.int .i64 x, .int .i64 y]) (hk : K (.int .i64 (if x ≠ 0 then x else y)) w) : callP Tryd.prog 42 [.slice (some ⟨b, 0, none⟩) 2 2] w K := by
  refine ok_cmp_Or ?_
  unfold wp_cmp_Or
  refine ⟨fun m i w' => ∃ j : Nat, i = (j : Int) ∧ j ≤ 2 ∧ m = 2 - j ∧ w' = w ∧ (0 < j → x = 0) ∧ (1 < j → y = 0), ⟨2, 0, rfl, by omega, rfl, rfl, by omega, by omega⟩, ?_⟩
  rintro m i w1 ⟨j, rfl, hj, rfl, rfl, h0, h1⟩
  refine Sif_cases (fun hlt => ?_) fun hge => ?_
  · have hlt' : (j : Int) < 2 := by simpa using hlt
    refine ⟨by omega, by omega, ?_⟩
    simp only [nn_some, add_at, Int.toNat_natCast, Nat.mul_one, Nat.zero_add]
    have hc : j = 0 ∨ j = 1 := by omega
    rcases hc with rfl | rfl
    · refine ⟨x, by rw [cell_blk hb]; rfl, Sif_cases (fun h => ?_) fun h => ?_⟩
      · have h : x ≠ 0 := by simpa using h
        rw [if_pos h] at hk; exact hk
      · have h : x = 0 := by simpa using h
        rw [wrap_id (by omega) (by omega)]
        exact ⟨1, by omega, 1, rfl, by omega, rfl, by trivial, fun _ => h, fun h => by omega⟩
    · have hx := h0 (by omega)
      rw [if_neg (by simpa using hx)] at hk
      refine ⟨y, by rw [cell_blk hb]; rfl, Sif_cases (fun h => ?_) fun h => ?_⟩
      · exact hk
      · have h : y = 0 := by simpa using h
        rw [wrap_id (by omega) (by omega)]
        exact ⟨0, by omega, 2, rfl, by omega, rfl, by trivial, fun _ => hx, fun _ => h⟩
  · have hge' : ¬ (j : Int) < 2 := by simpa using hge
    rw [if_neg (by simpa using h0 (by omega)), h1 (by omega)] at hk
    exact hk
theorem order_ok {a b : En} {w : World} {K : Value → World → Prop} (hk : ∀ w', Ch (fun _ => False) w w' → K (.int .i64 (ordE a b)) w') : callP Tryd.prog 32 [a.val, b.val] w K := by
  refine ok_queue_order ?_
  unfold wp_queue_order
  refine newB_blk fun w1 b1 c1 z1 => newB_blk fun w2 b2 c2 z2 => ?_
  have b1' : blk w2 w.heap.size = some a.cells := by rw [c2.blk (blk_lt b1) id]; exact b1
  have e1 : blk w2.drew w.heap.size = some a.cells := by rw [(Ch.drew (S := fun _ => False) w2).blk (blk_lt b1') id]; exact b1'
  have e2 : blk w2.drew w1.heap.size = some b.cells := by rw [(Ch.drew (S := fun _ => False) w2).blk (blk_lt b2) id]; exact b2
  simp only [add_at, Nat.zero_add]
  refine ⟨_, by rw [cell_blk e2]; rfl, _, by rw [cell_blk e1]; rfl, _, by rw [cell_blk e1]; rfl, _, by rw [cell_blk e2]; rfl, ?_⟩
  refine compare_ok ⟨_, rfl, ⟨_, by rw [cell_blk e2]; rfl, rfl⟩, ⟨_, by rw [cell_blk e1]; rfl, rfl⟩, compare_ok ⟨_, rfl, ?_⟩⟩
  refine newB_blk fun w5 b5 c5 z5 => ?_
  refine or_ok b5 ⟨_, rfl, ?_⟩
  exact hk w5 (((c1.trans' c2).trans' (Ch.drew w2)).trans' c5)
end Go.Proofs.YtipbbjnmpnfhpaaDoor
