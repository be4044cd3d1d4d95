/-
  The program's values: has, extra, within, isNum, isText, isArray, alone. Ranges over functions: the loop's record and the block of deferred calls, as memory. Over every program. A function that defers one call which recovers, and that deferred call. Over every program.
-/
import Derived.Test.YtnacobknngidkaaGreatDoorPz15
import Derived.Recover
set_option linter.unusedVariables false
set_option linter.unusedSimpArgs false
namespace Go.Proofs.YtnacobknngidkaaGreatDoor
open Go Go.Sv Go.Note
set_option linter.unusedVariables false
attribute [local irreducible] Sif
set_option maxRecDepth 4000
theorem beqI (a b : Int) : (a == b) = decide (a = b) := by by_cases h : a = b <;> simp [h]
theorem has_ok {k : Int} (h0 : 0 ≤ k) (h1 : k < 25) {w : World} {K : Value → World → Prop} (hk : K (.tuple #[.bool (numK k), .bool (textK k), .bool (listK k)]) w) :
    callP Tryz.prog 137 [.int .i64 k] w K := by
  apply ok_value_has
  unfold wp_value_has
  simp only [beqI]
  refine ⟨fun b b1 b2 w1 => w1 = w ∧ b = numK k ∧ b1 = textK k ∧ b2 = listK k, ?_, ?_⟩
  · rintro b b1 b2 w1 ⟨rfl, rfl, rfl, rfl⟩; exact hk
  have e : ∀ (a b c : Bool), (a = true ↔ (1 ≤ k ∧ k ≤ 16 ∧ k ≠ 14)) → (b = true ↔ (k = 14 ∨ (17 ≤ k ∧ k ≤ 20))) → (c = true ↔ 21 ≤ k) → a = numK k ∧ b = textK k ∧ c = listK k := by
    intro a b c ha hb hc
    have q1 : numK k = true ↔ (1 ≤ k ∧ k ≤ 16 ∧ k ≠ 14) := by unfold numK; simp [and_assoc]
    have q2 : textK k = true ↔ (k = 14 ∨ (17 ≤ k ∧ k ≤ 20)) := by unfold textK; simp
    have q3 : listK k = true ↔ 21 ≤ k := by unfold listK; simp
    exact ⟨Bool.eq_iff_iff.2 (ha.trans q1.symm), Bool.eq_iff_iff.2 (hb.trans q2.symm), Bool.eq_iff_iff.2 (hc.trans q3.symm)⟩
  refine Sif_cases (fun h => ?_) (fun h => ?_)
  · have h := of_decide_eq_true h
    exact ⟨by trivial, e _ _ _ (by simp; omega) (by simp; omega) (by simp; omega)⟩
  have hk0 := of_decide_eq_false h
  refine ⟨fun b w1 => w1 = w ∧ b = decide (k = 14 ∨ (17 ≤ k ∧ k ≤ 20)), ?_, ?_⟩
  · rintro b w1 ⟨rfl, rfl⟩
    refine Sif_cases (fun h => ?_) (fun h => ?_)
    · have h := of_decide_eq_true h
      exact ⟨by trivial, e _ _ _ (by simp; omega) (by simp; omega) (by simp; omega)⟩
    have hnt := of_decide_eq_false h
    refine ⟨fun b w2 => w2 = w1 ∧ b = decide (21 ≤ k), ?_, ?_⟩
    · rintro b w2 ⟨rfl, rfl⟩
      refine Sif_cases (fun h => ?_) (fun h => ?_)
      · have h := of_decide_eq_true h
        exact ⟨by trivial, e _ _ _ (by simp; omega) (by simp; omega) (by simp; omega)⟩
      · have h := of_decide_eq_false h
        exact ⟨by trivial, e _ _ _ (by simp; omega) (by simp; omega) (by simp; omega)⟩
    · have t : ∀ (j : Int), 21 ≤ j → decide (k = j) = true → decide (k = j) = decide (21 ≤ k) := fun j hj h => by
        have := of_decide_eq_true h
        rw [h, decide_eq_true (by omega)]
      refine Sif_cases (fun h => ⟨by trivial, t 21 (by decide) h⟩) (fun a1 => Sif_cases (fun h => ⟨by trivial, t 22 (by decide) h⟩) (fun a2 => Sif_cases (fun h => ⟨by trivial, t 23 (by decide) h⟩) (fun a3 => ⟨by trivial, ?_⟩)))
      have a1 := of_decide_eq_false a1
      have a2 := of_decide_eq_false a2
      have a3 := of_decide_eq_false a3
      exact decide_eq_decide.2 (by omega)
  · have t : ∀ (j : Int), (j = 14 ∨ (17 ≤ j ∧ j ≤ 20)) → decide (k = j) = true → decide (k = j) = decide (k = 14 ∨ (17 ≤ k ∧ k ≤ 20)) := fun j hj h => by
      have := of_decide_eq_true h
      rw [h, decide_eq_true (by omega)]
    refine Sif_cases (fun h => ⟨by trivial, t 14 (by decide) h⟩) (fun a1 => Sif_cases (fun h => ⟨by trivial, t 17 (by decide) h⟩) (fun a2 => Sif_cases (fun h => ⟨by trivial, t 18 (by decide) h⟩) (fun a3 => Sif_cases (fun h => ⟨by trivial, t 19 (by decide) h⟩) (fun a4 => ⟨by trivial, ?_⟩))))
    have a1 := of_decide_eq_false a1
    have a2 := of_decide_eq_false a2
    have a3 := of_decide_eq_false a3
    have a4 := of_decide_eq_false a4
    exact decide_eq_decide.2 (by omega)
theorem mk_extra (k : Int) (n : Nat) (t : Bs) (s : SL) (e : Int) (l : List MV) : (MV.mk k n t s e l).m.extra = ((!numK k && decide (n ≠ 0)) || (!textK k && decide (t ≠ [])) || (!listK k && decide (l ≠ [])) || (decide (k ≠ 23) && decide (e ≠ 0))) := by
  rw [MV.m_mk, M.extra_mk]
  have : (List.map MV.m l ≠ []) ↔ l ≠ [] := by cases l <;> simp
  rw [decide_eq_decide.2 this]
theorem extra_ok {Q : Nat → Prop} {x : MV} (h0 : 0 ≤ x.k) (h1 : x.k < 25) {w : World} (hx : VR Q w x) {K : Value → World → Prop} (hk : ∀ w', Ch (fun _ => False) w w' → K (.bool x.m.extra) w') :
    callP Tryz.prog 100 [x.v] w K := by
  obtain ⟨k, n, t, s, e, l⟩ := x
  apply ok_value_extra
  unfold wp_value_extra
  refine boxV (x := .mk k n t s e l) fun w1 b1 a1 c1 z1 => ?_
  simp only [add_at, Nat.zero_add]
  refine ⟨_, cellK b1 0 rfl, ?_⟩
  refine has_ok (k := k) h0 h1 ⟨_, _, _, rfl, ?_⟩
  have hk := hk w1 c1
  rw [mk_extra] at hk
  have hl : l.length = s.n := hx.inv.1
  have hls : (l ≠ []) ↔ (0 < s.n) := by rw [← hl]; exact List.length_pos_iff.symm
  rw [decide_eq_decide.2 hls] at hk
  -- the last test
  have last : K (.bool (decide (k ≠ 23) && decide (e ≠ 0))) w1 → ∃ n3, w1.cell? ⟨w.heap.size, 0, none⟩ = some (.int .i64 n3) ∧ Sif (n3 != 23) (∃ n4, w1.cell? ⟨w.heap.size, 4, none⟩ = some (.int .i64 n4) ∧ K (.bool (n4 != 0)) w1) (K (.bool false) w1) := fun hk => by
    refine ⟨_, cellK b1 0 rfl, ?_⟩
    rw [int_bne]
    refine Sif_cases (fun h => ⟨_, cellK b1 4 rfl, ?_⟩) (fun h => ?_)
    · rw [Bool.not_eq_true'] at h
      rw [decide_eq_true (p := k ≠ 23) (of_decide_eq_false h), Bool.true_and] at hk
      rw [int_bne, ← decide_not]; exact hk
    · rw [Bool.not_eq_false'] at h
      rw [decide_eq_false (p := k ≠ 23) (by simpa using of_decide_eq_true h), Bool.false_and] at hk
      exact hk
  have parts : K (.bool ((!listK k && decide (0 < s.n)) || (decide (k ≠ 23) && decide (e ≠ 0)))) w1 → Sif (!listK k) (∃ p n2 c, w1.cell? ⟨w.heap.size, 3, none⟩ = some (.slice p n2 c) ∧ Sif (!decide ((n2 : Int) > 0)) (∃ n3, w1.cell? ⟨w.heap.size, 0, none⟩ = some (.int .i64 n3) ∧ Sif (n3 != 23) (∃ n4, w1.cell? ⟨w.heap.size, 4, none⟩ = some (.int .i64 n4) ∧ K (.bool (n4 != 0)) w1) (K (.bool false) w1)) (K (.bool true) w1))
      (∃ n3, w1.cell? ⟨w.heap.size, 0, none⟩ = some (.int .i64 n3) ∧ Sif (n3 != 23) (∃ n4, w1.cell? ⟨w.heap.size, 4, none⟩ = some (.int .i64 n4) ∧ K (.bool (n4 != 0)) w1) (K (.bool false) w1)) := fun hk => by
    refine Sif_cases (fun h => ⟨_, _, _, cellK b1 3 rfl, ?_⟩) (fun h => ?_)
    · rw [h, Bool.true_and] at hk
      refine Sif_cases (fun h2 => last ?_) (fun h2 => ?_)
      · rw [Bool.not_eq_true'] at h2
        rw [decide_eq_false (p := 0 < s.n) (by have := of_decide_eq_false h2; omega), Bool.false_or] at hk
        exact hk
      · rw [Bool.not_eq_false'] at h2
        rw [decide_eq_true (p := 0 < s.n) (by have := of_decide_eq_true h2; omega), Bool.true_or] at hk
        exact hk
    · rw [h, Bool.false_and, Bool.false_or] at hk
      exact last hk
  have emp : (ByteArray.mk (Array.mk ([] : List UInt8))) = ⟨([] : Bs).toArray⟩ := rfl
  have textp : K (.bool ((!textK k && decide (t ≠ [])) || ((!listK k && decide (0 < s.n)) || (decide (k ≠ 23) && decide (e ≠ 0))))) w1 → Sif (!textK k) (∃ s2, w1.cell? ⟨w.heap.size, 2, none⟩ = some (.string s2) ∧ Sif (!!(s2.toList == (ByteArray.mk (Array.mk ([] : List UInt8))).toList)) (Sif (!listK k) (∃ p n2 c, w1.cell? ⟨w.heap.size, 3, none⟩ = some (.slice p n2 c) ∧ Sif (!decide ((n2 : Int) > 0)) (∃ n3, w1.cell? ⟨w.heap.size, 0, none⟩ = some (.int .i64 n3) ∧ Sif (n3 != 23) (∃ n4, w1.cell? ⟨w.heap.size, 4, none⟩ = some (.int .i64 n4) ∧ K (.bool (n4 != 0)) w1) (K (.bool false) w1)) (K (.bool true) w1))
      (∃ n3, w1.cell? ⟨w.heap.size, 0, none⟩ = some (.int .i64 n3) ∧ Sif (n3 != 23) (∃ n4, w1.cell? ⟨w.heap.size, 4, none⟩ = some (.int .i64 n4) ∧ K (.bool (n4 != 0)) w1) (K (.bool false) w1))) (K (.bool true) w1))
      (Sif (!listK k) (∃ p n2 c, w1.cell? ⟨w.heap.size, 3, none⟩ = some (.slice p n2 c) ∧ Sif (!decide ((n2 : Int) > 0)) (∃ n3, w1.cell? ⟨w.heap.size, 0, none⟩ = some (.int .i64 n3) ∧ Sif (n3 != 23) (∃ n4, w1.cell? ⟨w.heap.size, 4, none⟩ = some (.int .i64 n4) ∧ K (.bool (n4 != 0)) w1) (K (.bool false) w1)) (K (.bool true) w1))
      (∃ n3, w1.cell? ⟨w.heap.size, 0, none⟩ = some (.int .i64 n3) ∧ Sif (n3 != 23) (∃ n4, w1.cell? ⟨w.heap.size, 4, none⟩ = some (.int .i64 n4) ∧ K (.bool (n4 != 0)) w1) (K (.bool false) w1))) := fun hk => by
    refine Sif_cases (fun h => ⟨_, cellK b1 2 rfl, ?_⟩) (fun h => ?_)
    · rw [h, Bool.true_and] at hk
      rw [emp, bs_eq, Bool.not_not]
      refine Sif_cases (fun h2 => parts ?_) (fun h2 => ?_)
      · rw [decide_eq_false (p := t ≠ []) (by simpa using of_decide_eq_true h2), Bool.false_or] at hk
        exact hk
      · rw [decide_eq_true (p := t ≠ []) (of_decide_eq_false h2), Bool.true_or] at hk
        exact hk
    · rw [h, Bool.false_and, Bool.false_or] at hk
      exact parts hk
  simp only [Bool.or_assoc] at hk
  refine Sif_cases (fun h => ⟨_, cellK b1 1 rfl, ?_⟩) (fun h => ?_)
  · rw [h, Bool.true_and] at hk
    rw [int_bne, Bool.not_not]
    refine Sif_cases (fun h2 => textp ?_) (fun h2 => ?_)
    · rw [decide_eq_false (p := n ≠ 0) (by have := of_decide_eq_true h2; omega), Bool.false_or] at hk
      exact hk
    · rw [decide_eq_true (p := n ≠ 0) (by have := of_decide_eq_false h2; omega), Bool.true_or] at hk
      exact hk
  · rw [h, Bool.false_and, Bool.false_or] at hk
    exact textp hk
theorem wrap64 {n : Nat} (h : n < 18446744073709551616) : IntKind.i64.wrap (n : Int) = if n < 9223372036854775808 then (n : Int) else (n : Int) - 18446744073709551616 := by
  unfold IntKind.wrap
  simp [IntKind.bits, IntKind.signed, Int.bmod]
  split <;> split <;> omega
theorem vwithin_ok {n b : Nat} (hn : n < 18446744073709551616) (hb : b = 8 ∨ b = 16 ∨ b = 32) {w : World} {K : Value → World → Prop} (hk : K (.bool (sgn n b)) w) :
    callP Tryz.prog 138 [.int .u64 (n : Int), .int .i64 (b : Int)] w K := by
  apply ok_value_within
  unfold wp_value_within
  rw [wrap_id (n := (b : Int) - 1) (by omega) (by omega)]
  refine ⟨by omega, ?_⟩
  simp only [nameI]
  rw [wrap64 hn]
  have hmin : min ((b : Int) - 1).toNat 64 = b - 1 := by omega
  rw [hmin]
  have hpos : (0 : Int) < 2 ^ (b - 1) := Int.pow_pos (by decide)
  rw [Int.fdiv_eq_ediv_of_nonneg _ (by omega)]
  have key : ∀ z : Int, z = (if n < 9223372036854775808 then (n : Int) else (n : Int) - 18446744073709551616) / 2 ^ (b - 1) → ((z = 0 ∨ z = -1) ↔ sgn n b = true) := by
    intro z hz
    unfold sgn
    rw [Bool.or_eq_true, decide_eq_true_eq, decide_eq_true_eq]
    rcases hb with rfl | rfl | rfl
    · have e : (2 : Int) ^ (8 - 1) = 128 := by decide
      have e' : 2 ^ (8 - 1) = 128 := by decide
      have e2 : 2 ^ 64 = 18446744073709551616 := by decide
      rw [e] at hz; rw [e', e2]
      split at hz <;> omega
    · have e : (2 : Int) ^ (16 - 1) = 32768 := by decide
      have e' : 2 ^ (16 - 1) = 32768 := by decide
      have e2 : 2 ^ 64 = 18446744073709551616 := by decide
      rw [e] at hz; rw [e', e2]
      split at hz <;> omega
    · have e : (2 : Int) ^ (32 - 1) = 2147483648 := by decide
      have e' : 2 ^ (32 - 1) = 2147483648 := by decide
      have e2 : 2 ^ 64 = 18446744073709551616 := by decide
      rw [e] at hz; rw [e', e2]
      split at hz <;> omega
  have key := key _ rfl
  generalize (if n < 9223372036854775808 then (n : Int) else (n : Int) - 18446744073709551616) / 2 ^ (b - 1) = z at key ⊢
  rw [beqI, beqI]
  refine Sif_cases (fun h => ?_) (fun h => ?_)
  · rw [Bool.not_eq_true'] at h
    have h := of_decide_eq_false h
    rw [show decide (z = -1) = sgn n b by
      cases hs : sgn n b with
      | true => rw [decide_eq_true ((key.2 hs).resolve_left h)]
      | false => rw [decide_eq_false (fun e => by rw [key.1 (.inr e)] at hs; cases hs)]]
    exact hk
  · rw [Bool.not_eq_false'] at h
    rw [key.1 (.inl (of_decide_eq_true h))] at hk
    exact hk
theorem isNum_ok {x : MV} (hf : x.n < 18446744073709551616) {w : World} {K : Value → World → Prop} (hk : ∀ w', Ch (fun _ => False) w w' → K (.bool x.m.num) w') :
    callP Tryz.prog 101 [x.v] w K := by
  obtain ⟨k, n, t, s, e, l⟩ := x
  apply ok_value_isNum
  unfold wp_value_isNum
  refine boxV (x := .mk k n t s e l) fun w1 b1 a1 c1 z1 => ?_
  simp only [add_at, Nat.zero_add]
  refine ⟨_, cellK b1 0 rfl, ?_⟩
  have hk := hk w1 c1
  rw [MV.m_mk, M.num_mk] at hk
  simp only [beqI]
  have hn : n < 18446744073709551616 := hf
  refine Sif_cases (fun h => ⟨_, cellK b1 1 rfl, ?_⟩) (fun h1 => ?_)
  · rw [if_pos (of_decide_eq_true h)] at hk
    rw [decide_eq_decide.2 (show ((n : Int) < 2) ↔ n ≤ 1 by omega)]; exact hk
  have h1 := of_decide_eq_false h1
  rw [if_neg h1] at hk
  refine Sif_cases (fun h => ⟨_, cellK b1 1 rfl, ?_⟩) (fun h2 => ?_)
  · rw [if_pos (of_decide_eq_true h)] at hk
    rw [decide_eq_decide.2 (show ((n : Int) < 256) ↔ n ≤ 255 by omega)]; exact hk
  have h2 := of_decide_eq_false h2
  rw [if_neg h2] at hk
  refine Sif_cases (fun h => ⟨_, cellK b1 1 rfl, ?_⟩) (fun h3 => ?_)
  · rw [if_pos (of_decide_eq_true h)] at hk
    rw [decide_eq_decide.2 (show ((n : Int) < 65536) ↔ n ≤ 65535 by omega)]; exact hk
  have h3 := of_decide_eq_false h3
  rw [if_neg h3] at hk
  refine ⟨fun b w2 => w2 = w1 ∧ b = decide (k = 4 ∨ k = 10 ∨ k = 12), ?_, ?_⟩
  rotate_left
  · refine Sif_cases (fun h => ⟨by trivial, ?_⟩) (fun a1 => Sif_cases (fun h => ⟨by trivial, ?_⟩) (fun a2 => ⟨by trivial, ?_⟩))
    · rw [h, decide_eq_true (.inl (of_decide_eq_true h))]
    · rw [h, decide_eq_true (.inr (.inl (of_decide_eq_true h)))]
    · exact decide_eq_decide.2 ⟨fun e => .inr (.inr e), fun e => (e.resolve_left (of_decide_eq_false a1)).resolve_left (of_decide_eq_false a2)⟩
  rintro b w2 ⟨rfl, rfl⟩
  refine Sif_cases (fun h => ⟨_, cellK b1 1 rfl, ?_⟩) (fun h4 => ?_)
  · rw [if_pos (of_decide_eq_true h)] at hk
    rw [decide_eq_decide.2 (show ((n : Int) < 4294967296) ↔ n ≤ 4294967295 by omega)]; exact hk
  have h4 := of_decide_eq_false h4
  rw [if_neg h4] at hk
  refine Sif_cases (fun h => ⟨_, cellK b1 1 rfl, ?_⟩) (fun h6 => ?_)
  · rw [if_pos (of_decide_eq_true h)] at hk
    exact vwithin_ok hn (.inl rfl) ⟨_, rfl, hk⟩
  rw [if_neg (of_decide_eq_false h6)] at hk
  refine Sif_cases (fun h => ⟨_, cellK b1 1 rfl, ?_⟩) (fun h7 => ?_)
  · rw [if_pos (of_decide_eq_true h)] at hk
    exact vwithin_ok hn (.inr (.inl rfl)) ⟨_, rfl, hk⟩
  rw [if_neg (of_decide_eq_false h7)] at hk
  refine Sif_cases (fun h => ⟨_, cellK b1 1 rfl, ?_⟩) (fun h8 => ?_)
  · rw [if_pos (of_decide_eq_true h)] at hk
    exact vwithin_ok hn (.inr (.inr rfl)) ⟨_, rfl, hk⟩
  rw [if_neg (of_decide_eq_false h8)] at hk
  refine Sif_cases (fun h => ⟨_, cellK b1 1 rfl, ?_⟩) (fun h15 => ?_)
  · rw [if_pos (of_decide_eq_true h)] at hk
    refine Sif_cases (fun h5 => ⟨_, cellK b1 1 rfl, ?_⟩) (fun h5 => ?_)
    · rw [Bool.not_eq_true'] at h5
      have h5 := of_decide_eq_false h5
      rw [decide_eq_false (p := n < 55296) (by omega), Bool.false_or] at hk
      refine Sif_cases (fun h9 => ⟨_, cellK b1 1 rfl, ?_⟩) (fun h9 => ?_)
      · have h9 := of_decide_eq_true h9
        rw [decide_eq_true (p := 57343 < n) (by omega), Bool.and_true] at hk
        rw [decide_eq_decide.2 (show ((n : Int) ≤ 1114111) ↔ n ≤ 1114111 by omega)]; exact hk
      · have h9 := of_decide_eq_false h9
        rw [decide_eq_false (p := 57343 < n) (by omega), Bool.and_false] at hk
        exact hk
    · rw [Bool.not_eq_false'] at h5
      have h5 := of_decide_eq_true h5
      rw [decide_eq_true (p := n < 55296) (by omega), decide_eq_true (p := n ≤ 1114111) (by omega)] at hk
      exact hk
  · rw [if_neg (of_decide_eq_false h15)] at hk
    exact hk
theorem isText_ok {x : MV} (hs : x.t.length ≤ 2 ^ 48) {w : World} (hL : LW w) {K : Value → World → Prop} (hk : ∀ w', Ch (fun _ => False) w w' → K (.bool x.m.txt) w') :
    callP Tryz.prog 102 [x.v] w K := by
  obtain ⟨k, n, t, s, e, l⟩ := x
  apply ok_value_isText
  unfold wp_value_isText
  refine boxV (x := .mk k n t s e l) fun w1 b1 a1 c1 z1 => ?_
  simp only [add_at, Nat.zero_add]
  refine ⟨_, cellK b1 0 rfl, ?_⟩
  rw [MV.m_mk, M.txt_mk] at hk
  simp only [beqI]
  have hsz : (ByteArray.mk t.toArray).size = t.length := by simp [ByteArray.size]
  have hs : t.length ≤ 2 ^ 48 := hs
  refine ⟨fun b w2 => w2 = w1 ∧ b = decide (k = 14 ∨ k = 17), ?_, ?_⟩
  rotate_left
  · refine Sif_cases (fun h => ⟨by trivial, ?_⟩) (fun a1 => ⟨by trivial, ?_⟩)
    · rw [h, decide_eq_true (.inl (of_decide_eq_true h))]
    · exact decide_eq_decide.2 ⟨fun e => .inr e, fun e => e.resolve_left (of_decide_eq_false a1)⟩
  rintro b w2 ⟨rfl, rfl⟩
  refine Sif_cases (fun h => ⟨_, cellK b1 2 rfl, ?_⟩) (fun h14 => ?_)
  · have := hk w2 c1
    rw [if_pos (of_decide_eq_true h)] at this
    rw [hsz, decide_eq_decide.2 (show ((t.length : Int) = 16) ↔ t.length = 16 by omega)]; exact this
  rw [if_neg (of_decide_eq_false h14)] at hk
  refine Sif_cases (fun h => ⟨_, cellK b1 2 rfl, ?_⟩) (fun h19 => ?_)
  · rw [if_pos (of_decide_eq_true h)] at hk
    refine oUtf8_ok (by rw [hsz]; omega) (hL.ch0 c1).ut (by have := (hL.ch0 c1).size; omega) fun r w3 c3 hp => ⟨_, rfl, ?_⟩
    rw [str_list] at hp
    have := hk w3 (c1.trans' c3)
    rw [show decide (r < 0) = textB t by
      cases ht : textB t with
      | true => rw [decide_eq_true (by have := hp.1 ht; omega)]
      | false => rw [decide_eq_false (by have := hp.2 ht; omega)]]
    exact this
  rw [if_neg (of_decide_eq_false h19)] at hk
  refine Sif_cases (fun h => ⟨_, cellK b1 2 rfl, ?_⟩) (fun h20 => ?_)
  · rw [if_pos (of_decide_eq_true h)] at hk
    refine oAscii_ok (by rw [hsz]; omega) fun r hp => ⟨_, rfl, ?_⟩
    rw [str_list] at hp
    have := hk w2 c1
    rw [show decide (r < 0) = asciiB t by
      cases ht : asciiB t with
      | true => rw [decide_eq_true (by have := hp.1 ht; omega)]
      | false => rw [decide_eq_false (by have := hp.2 ht; omega)]]
    exact this
  · rw [if_neg (of_decide_eq_false h20)] at hk
    exact hk w2 c1
theorem isArr1_ok {x : MV} {cb : Nat} {y : MV} {w : World} (hb : blk w cb = some y.g) {K : Value → World → Prop} (hk : ∀ w', Ch (fun _ => False) w w' → K (.bool (decide (x.k ≠ y.e))) w') :
    callP Tryz.prog 142 [x.v, .pointer (some ⟨cb, 0, none⟩)] w K := by
  obtain ⟨k, n, t, s, e, l⟩ := x
  obtain ⟨k', n', t', s', e', l'⟩ := y
  apply ok_value_isArray_1
  unfold wp_value_isArray_1
  refine boxV (x := .mk k n t s e l) fun w1 b1 a1 c1 z1 => ?_
  have hb1 := (c1.blk (blk_lt hb) id).trans hb
  simp only [add_at, Nat.zero_add, nn]
  refine ⟨_, cellK b1 0 rfl, _, cellK hb1 4 rfl, ?_⟩
  have := hk w1 c1
  rw [int_bne, ← decide_not]
  exact this
theorem isArray_ok {Q : Nat → Prop} {x : MV} {w : World} (hx : VR Q w x) {K : Value → World → Prop} (hk : ∀ w', Ch (fun _ => False) w w' → K (.bool (arrOk x.e (x.l.map MV.m))) w') :
    callP Tryz.prog 104 [x.v] w K := by
  obtain ⟨k, n, t, s, e, l⟩ := x
  apply ok_value_isArray
  unfold wp_value_isArray
  refine boxV (x := .mk k n t s e l) fun w1 b1 a1 c1 z1 => ?_
  simp only [add_at, Nat.zero_add]
  have hk : ∀ w', Ch (fun _ => False) w w' → K (.bool (arrOk e (l.map MV.m))) w' := hk
  refine ⟨fun w2 => w2 = w1 ∧ 0 < e ∧ e < 24, ?_, _, cellK b1 4 rfl, ?_⟩
  · rintro w2 ⟨rfl, h0, h1⟩
    refine ⟨_, _, _, cellK b1 3 rfl, ?_⟩
    apply ok_slices_ContainsFunc
    unfold wp_slices_ContainsFunc
    apply ok_slices_IndexFunc
    unfold wp_slices_IndexFunc
    have hrow := (hx.ch0 c1).row
    have hl := hrow.1
    have hn46 := hrow.2.1
    simp only [MV.s_mk, MV.l_mk] at hrow hl hn46
    have harr : ∀ b : Bool, b = (l.map MV.m).all (fun x => decide (x.k = e)) → ∀ w', Ch (fun _ => False) w w' → K (.bool b) w' := fun b hb w' c => by
      have := hk w' c
      unfold arrOk at this
      rw [decide_eq_true h0, decide_eq_true h1, ← hb] at this
      exact this
    refine ⟨fun m i w3 => ∃ j : Nat, i = (j : Int) ∧ m = s.n - j ∧ j ≤ s.n ∧ Ch (fun _ => False) w2 w3 ∧ ∀ q, q < j → ∀ y, l[q]? = some y → y.k = e, ⟨s.n, 0, rfl, rfl, Nat.zero_le _, Ch.refl _ _, fun q hq => by omega⟩, ?_⟩
    rintro m i w3 ⟨j, rfl, rfl, hj, c3, hall⟩
    refine Sif_cases (fun h => ?_) (fun h => ?_)
    · have hjl : j < s.n := by have := of_decide_eq_true h; omega
      obtain ⟨y, hyi⟩ : ∃ y, l[j]? = some y := ⟨l[j]'(by omega), List.getElem?_eq_getElem _⟩
      obtain ⟨by', oy, py, _, ay⟩ := (hrow.ch0 c3).at hyi
      refine ⟨by omega, by omega, ?_⟩
      rw [py]
      simp only [nn]
      refine ldR ay ?_
      rw [vv y]
      refine ⟨by kernel_rfl, isArr1_ok (y := .mk k n t s e l) ((c3.blk (blk_lt b1) id).trans b1) fun w4 c4 => ⟨_, rfl, ?_⟩⟩
      have c24 := c3.trans' c4
      refine Sif_cases (fun hne => ?_) (fun hne => ?_)
      · refine ⟨_, rfl, ?_⟩
        have hne := of_decide_eq_true hne
        refine ⟨_, rfl, harr _ ?_ w4 (c1.trans' c24)⟩
        rw [decide_eq_true (show (j : Int) ≥ 0 by omega)]
        symm
        rw [Bool.not_true, List.all_eq_false]
        refine ⟨y.m, List.mem_map.2 ⟨y, List.mem_of_getElem? hyi, rfl⟩, ?_⟩
        have : y.m.k = y.k := by cases y; rw [MV.m_mk]; rfl
        rw [this]
        exact fun h => hne (of_decide_eq_true h)
      · rw [wrap_id (n := (j : Int) + 1) (by omega) (by omega)]
        refine ⟨s.n - (j + 1), by omega, j + 1, by omega, rfl, by omega, c24, fun q hq z hz => ?_⟩
        by_cases e1 : q = j
        · subst e1
          rw [hyi] at hz; cases hz
          have := of_decide_eq_false hne
          exact Classical.not_not.1 this
        · exact hall q (by omega) z hz
    · have hjl : j = s.n := by have := of_decide_eq_false h; omega
      refine ⟨_, rfl, ?_⟩
      refine ⟨_, rfl, harr _ ?_ w3 (c1.trans' c3)⟩
      symm
      rw [decide_eq_false (by decide), Bool.not_false, List.all_eq_true]
      intro z hz
      obtain ⟨y, hy, rfl⟩ := List.mem_map.1 hz
      obtain ⟨q, hq, he⟩ := List.mem_iff_getElem.1 hy
      have : y.m.k = y.k := by cases y; rw [MV.m_mk]; rfl
      rw [this]
      exact decide_eq_true (hall q (by omega) y (by rw [List.getElem?_eq_getElem hq, he]))
  · refine Sif_cases (fun h => ⟨_, cellK b1 4 rfl, ?_⟩) (fun h => ?_)
    · rw [Bool.not_eq_true'] at h
      have h := of_decide_eq_false h
      refine Sif_cases (fun h2 => ?_) (fun h2 => ⟨by trivial, by omega, by have := of_decide_eq_false h2; omega⟩)
      have h2 := of_decide_eq_true h2
      have := hk w1 c1
      rw [show arrOk e (l.map MV.m) = false by unfold arrOk; rw [decide_eq_false (p := e < 24) (by omega)]; simp] at this
      exact this
    · rw [Bool.not_eq_false'] at h
      have h := of_decide_eq_true h
      have := hk w1 c1
      rw [show arrOk e (l.map MV.m) = false by unfold arrOk; rw [decide_eq_false (p := 0 < e) (by omega)]; simp] at this
      exact this
theorem alone_ok {Q : Nat → Prop} {x : MV} {d : Nat} (hf : x.n < 18446744073709551616) (hs : x.t.length ≤ 2 ^ 48) {w : World} (hL : LW w) (hx : VR Q w x) {K : Value → World → Prop} (hk : ∀ w', Ch (fun _ => False) w w' → K (.int .i64 (x.m.own d : Int)) w') :
    callP Tryz.prog 61 [x.v, .int .i64 (d : Int)] w K := by
  obtain ⟨k, n, t, s, e, l⟩ := x
  apply ok_value_alone
  unfold wp_value_alone
  refine boxV (x := .mk k n t s e l) fun w1 b1 a1 c1 z1 => ?_
  simp only [add_at, Nat.zero_add]
  have hown : (MV.mk k n t s e l).m.own d = if k < 0 ∨ 25 ≤ k then 20
    else if 32 < d then 26
    else if (MV.mk k n t s e l).m.extra = true then 25
    else if (MV.mk k n t s e l).m.num = false then 21
    else if (MV.mk k n t s e l).m.txt = false then 22
    else if k = 22 ∧ mapOk (l.map MV.m) = false then 23
    else if k = 23 ∧ arrOk e (l.map MV.m) = false then 24
    else if k = 24 ∧ l.length ≠ 2 then 27
    else 0 := by
    rw [MV.m_mk, M.own_mk]
    rw [List.length_map]
  rw [hown] at hk
  have hl : l.length = s.n := hx.inv.1
  simp only [beqI]
  refine ⟨fun w2 => Ch (fun _ => False) w w2 ∧ (MV.mk k n t s e l).m.own d = 0, ?_, _, cellK b1 0 rfl, ?_⟩
  · rintro w2 ⟨c2, h0⟩
    have := hk w2 c2
    rw [← hown, h0] at this
    exact this
  rw [hown]
  refine Sif_cases (fun h => ?_) (fun h => ?_)
  rotate_left
  · rw [Bool.not_eq_false'] at h
    have := hk w1 c1
    rw [if_pos (.inl (of_decide_eq_true h))] at this
    exact this
  rw [Bool.not_eq_true'] at h
  have h0 := of_decide_eq_false h
  refine ⟨_, cellK b1 0 rfl, ?_⟩
  refine Sif_cases (fun h => ?_) (fun h => ?_)
  · have h := of_decide_eq_true h
    have := hk w1 c1
    rw [if_pos (.inr (by omega))] at this
    exact this
  have h1 := of_decide_eq_false h
  rw [if_neg (by omega)] at hk ⊢
  refine Sif_cases (fun h => ?_) (fun h => ?_)
  · have h := of_decide_eq_true h
    have := hk w1 c1
    rw [if_pos (by omega)] at this
    exact this
  have hd := of_decide_eq_false h
  rw [if_neg (by omega)] at hk ⊢
  refine ldN b1 ?_
  rw [vv]
  refine extra_ok (by show 0 ≤ k; omega) (by show k < 25; omega) (hx.ch0 c1) fun w2 c2 => ⟨_, rfl, ?_⟩
  have b2 := (c2.blk (blk_lt b1) id).trans b1
  have c12 := c1.trans' c2
  refine Sif_cases (fun h => ?_) (fun h => ?_)
  · have := hk w2 c12
    rw [if_pos h] at this
    exact this
  rw [if_neg (by rw [h]; decide)] at hk ⊢
  refine ldN b2 ?_
  rw [vv]
  refine isNum_ok hf fun w3 c3 => ⟨_, rfl, ?_⟩
  have b3 := (c3.blk (blk_lt b2) id).trans b2
  have c13 := c12.trans' c3
  refine Sif_cases (fun h => ?_) (fun h => ?_)
  · rw [Bool.not_eq_true'] at h
    have := hk w3 c13
    rw [if_pos h] at this
    exact this
  rw [Bool.not_eq_false'] at h
  rw [if_neg (by rw [h]; decide)] at hk ⊢
  refine ldN b3 ?_
  rw [vv]
  refine isText_ok hs (hL.ch0 c13) fun w4 c4 => ⟨_, rfl, ?_⟩
  have b4 := (c4.blk (blk_lt b3) id).trans b3
  have c14 := c13.trans' c4
  refine Sif_cases (fun h => ?_) (fun h => ?_)
  · rw [Bool.not_eq_true'] at h
    have := hk w4 c14
    rw [if_pos h] at this
    exact this
  rw [Bool.not_eq_false'] at h
  rw [if_neg (by rw [h]; decide)] at hk ⊢
  -- the last tests
  have deep : ∀ w5, blk w5 w.heap.size = some (MV.mk k n t s e l).g → Ch (fun _ => False) w w5 → (∀ w', Ch (fun _ => False) w w' → K (.int .i64 ((if k = 24 ∧ l.length ≠ 2 then 27 else 0 : Nat) : Int)) w') → ∀ J : World → Prop, (k = 24 ∧ l.length ≠ 2 → False) ∨ True → ((¬ (k = 24 ∧ l.length ≠ 2)) → J w5) →
      ∃ n21, w5.cell? ⟨w.heap.size, 0, none⟩ = some (.int .i64 n21) ∧ Sif (decide (n21 = 24)) (∃ p5 n22 c5, w5.cell? ⟨w.heap.size, 3, none⟩ = some (.slice p5 n22 c5) ∧ Sif ((n22 : Int) != 2) (K (.int .i64 27) w5) (J w5)) (J w5) := by
    intro w5 b5 c5 hk5 J _ hJ
    refine ⟨_, cellK b5 0 rfl, ?_⟩
    refine Sif_cases (fun h => ⟨_, _, _, cellK b5 3 rfl, ?_⟩) (fun h => hJ fun e => of_decide_eq_false h e.1)
    have h := of_decide_eq_true h
    rw [int_bne]
    refine Sif_cases (fun h2 => ?_) (fun h2 => hJ fun e => ?_)
    · rw [Bool.not_eq_true'] at h2
      have h2 := of_decide_eq_false h2
      have := hk5 w5 c5
      rw [if_pos ⟨h, by omega⟩] at this
      exact this
    · rw [Bool.not_eq_false'] at h2
      have h2 := of_decide_eq_true h2
      exact e.2 (by omega)
  have arr : ∀ w5, blk w5 w.heap.size = some (MV.mk k n t s e l).g → Ch (fun _ => False) w w5 → (∀ w', Ch (fun _ => False) w w' → K (.int .i64 ((if k = 23 ∧ arrOk e (l.map MV.m) = false then 24 else if k = 24 ∧ l.length ≠ 2 then 27 else 0 : Nat) : Int)) w') → ∀ J : World → Prop, (∀ w', Ch (fun _ => False) w w' → (if k = 23 ∧ arrOk e (l.map MV.m) = false then 24 else if k = 24 ∧ l.length ≠ 2 then 27 else 0) = 0 → J w') →
      ∃ n16, w5.cell? ⟨w.heap.size, 0, none⟩ = some (.int .i64 n16) ∧ Sif (decide (n16 = 23)) (∃ n17, w5.cell? ⟨w.heap.size, 0, none⟩ = some (.int .i64 n17) ∧ ∃ n18, w5.cell? ⟨w.heap.size, 1, none⟩ = some (.int .u64 n18) ∧ ∃ s3, w5.cell? ⟨w.heap.size, 2, none⟩ = some (.string s3) ∧ ∃ p4 n19 c4, w5.cell? ⟨w.heap.size, 3, none⟩ = some (.slice p4 n19 c4) ∧ ∃ n20, w5.cell? ⟨w.heap.size, 4, none⟩ = some (.int .i64 n20) ∧
        callP Tryz.prog 104 [.agg (Array.mk [.int .i64 n17, .int .u64 n18, .string s3, .slice p4 n19 c4, .int .i64 n20])] w5 fun v4 w6 => ∃ b4, v4 = .bool b4 ∧ Sif (!b4) (K (.int .i64 24) w6) (∃ n21, w6.cell? ⟨w.heap.size, 0, none⟩ = some (.int .i64 n21) ∧ Sif (decide (n21 = 24)) (∃ p5 n22 c5, w6.cell? ⟨w.heap.size, 3, none⟩ = some (.slice p5 n22 c5) ∧ Sif ((n22 : Int) != 2) (K (.int .i64 27) w6) (J w6)) (J w6)))
        (∃ n17, w5.cell? ⟨w.heap.size, 0, none⟩ = some (.int .i64 n17) ∧ Sif (decide (n17 = 24)) (∃ p4 n18 c4, w5.cell? ⟨w.heap.size, 3, none⟩ = some (.slice p4 n18 c4) ∧ Sif ((n18 : Int) != 2) (K (.int .i64 27) w5) (J w5)) (J w5)) := by
    intro w5 b5 c5 hk5 J hJ
    refine ⟨_, cellK b5 0 rfl, ?_⟩
    refine Sif_cases (fun h => ?_) (fun h => ?_)
    · have h := of_decide_eq_true h
      refine ldN b5 ?_
      rw [vv]
      refine isArray_ok (hx.ch0 c5) fun w6 c6 => ⟨_, rfl, ?_⟩
      have b6 := (c6.blk (blk_lt b5) id).trans b5
      have c56 := c5.trans' c6
      refine Sif_cases (fun h2 => ?_) (fun h2 => ?_)
      · rw [Bool.not_eq_true'] at h2
        have := hk5 w6 c56
        rw [if_pos ⟨h, h2⟩] at this
        exact this
      · rw [Bool.not_eq_false'] at h2
        have hno : ¬ (k = 23 ∧ arrOk e (l.map MV.m) = false) := fun q => by
          have : arrOk e (l.map MV.m) = true := h2
          rw [this] at q; exact absurd q.2 (by decide)
        rw [if_neg hno] at hk5 hJ
        exact deep w6 b6 c56 hk5 J (.inr trivial) fun hn => hJ w6 c56 (if_neg hn)
    · have h := of_decide_eq_false h
      rw [if_neg (fun e => h e.1)] at hk5 hJ
      exact deep w5 b5 c5 hk5 J (.inr trivial) fun hn => hJ w5 c5 (if_neg hn)
  refine ⟨_, cellK b4 0 rfl, ?_⟩
  refine Sif_cases (fun h22 => ?_) (fun h22 => ?_)
  · have h22 := of_decide_eq_true h22
    refine ⟨_, _, _, cellK b4 3 rfl, ?_⟩
    refine isMap_ok (hx.ch0 c14).row fun w5 c5 => ⟨_, rfl, ?_⟩
    have b5 := (c5.blk (blk_lt b4) id).trans b4
    have c15 := c14.trans' c5
    refine Sif_cases (fun h2 => ?_) (fun h2 => ?_)
    · rw [Bool.not_eq_true'] at h2
      have := hk w5 c15
      rw [if_pos ⟨h22, h2⟩] at this
      exact this
    · rw [Bool.not_eq_false'] at h2
      have hno : ¬ (k = 22 ∧ mapOk (l.map MV.m) = false) := fun e => by
        have : mapOk (l.map MV.m) = true := h2
        rw [this] at e; exact absurd e.2 (by decide)
      rw [if_neg hno] at hk ⊢
      exact arr w5 b5 c15 hk _ fun w' c h => ⟨c, h⟩
  · have h22 := of_decide_eq_false h22
    rw [if_neg (fun e => h22 e.1)] at hk ⊢
    exact arr w4 b4 c14 hk _ fun w' c h => ⟨c, h⟩
end Go.Proofs.YtnacobknngidkaaGreatDoor
namespace Go.Sv
open Go
set_option linter.unusedVariables false
theorem putObj_ch (w : World) (l : Nat) (o : Obj) : Ch (· = l) w (w.putObj l o) :=
  ⟨rfl, rfl, rfl, by simp [World.putObj], fun b hb hn => by
    simp only [World.putObj]
    rw [Array.getElem?_setIfInBounds_ne (fun e => hn e.symm)]⟩
theorem putObj_at {w : World} {l : Nat} (h : l < w.heap.size) (o : Obj) : objAt (w.putObj l o) l = some o := by
  unfold objAt
  simp [World.putObj, h]
@[simp] theorem putObj_size (w : World) (l : Nat) (o : Obj) : (w.putObj l o).heap.size = w.heap.size := by simp [World.putObj]
theorem objAt_ch {S : Nat → Prop} {w w' : World} {l : Nat} {o : Obj} (h : objAt w l = some o) (c : Ch S w w') (hn : ¬ S l) : objAt w' l = some o := by
  unfold objAt at h ⊢
  rw [c.keep l (lt_of_heap h) hn]; exact h
theorem objAt_lt {w : World} {l : Nat} {o : Obj} (h : objAt w l = some o) : l < w.heap.size := lt_of_heap h
theorem alloc_obj (w : World) (o : Obj) : objAt (w.alloc o) w.heap.size = some o := heap_alloc_new w o
theorem recAt.put {w : World} {l : Nat} {rc : LoopR} {s s' : LoopState} {j j' : Option Code} (h : recAt w l rc s j) : recAt (w.putObj l (rc s' j')) l rc s' j' := putObj_at (objAt_lt h) _
theorem recAt.ch {S : Nat → Prop} {w w' : World} {l : Nat} {rc : LoopR} {s : LoopState} {j : Option Code} (h : recAt w l rc s j) (c : Ch S w w') (hn : ¬ S l) : recAt w' l rc s j := objAt_ch h c hn
theorem takeM_of {w : World} {r : Nat} {K : World → Prop} (h : objAt w r = some (.deferred (some []))) (hk : ∀ w', Ch (· = r) w w' → w'.heap.size = w.heap.size → K w') : takeM w r K := ⟨h, hk _ (putObj_ch w r _) (by simp)⟩
end Go.Sv
namespace Go.Sv
open Go
set_option linter.unusedVariables false
theorem leaveP_sound {P : Program} {fn : Func} {K : Value → World → Prop} {env : Env} {tmps : Array Value} {R : Ending → World → Prop} {ch : List PanicEntry} (hR : ∀ v w', K v w' → R (.returned v) w') (hv : ∀ i v, Env.get env i = some v → tmps.getD i undef = v) :
    ∀ (ds : List Deferred) {w : World}, leaveP P fn K env ch ds w → LeavesW P fn tmps R ds (.panicking ch) w := by
  intro ds w h
  cases ds with
  | nil => exact h.elim
  | cons d ds =>
    obtain ⟨tg, dargs⟩ := d
    unfold leaveP at h
    simp only at h
    split at h
    · split at h
      · rename_i f cap
        split at h
        case h_2 => exact h.elim
        rename_i hok
        refine ⟨by simp, .inr ⟨_, _, f, (dargs.toList ++ cap.toList).toArray, rfl, ?_, ?_⟩⟩
        · have e : (dargs.toList ++ cap.toList).toArray = dargs ++ cap := by simp
          rw [e]
          simp only [invoke]
          exact okCall_enter hok _ _
        · refine CallsD.mono h fun e u w' ⟨he, hu, hk⟩ => ⟨he, ?_⟩
          rw [hu]
          obtain ⟨vs, hr, hk⟩ := results_sound hv hk
          exact ⟨_, hr, hR _ _ hk⟩
      · exact h.elim
    · exact h.elim
def GAfter (P : Program) (n : Nat) (Q : Cont) : Exit → Act → World → Prop
  | .panic ch, a, w => ∃ st : St, a.defers = st.ds ∧ (∀ i v, Env.get st.env i = some v → a.tmps.getD i undef = v) ∧ Q (.panic ch) st w
  | e, a, w => ∃ st, Agree n a st ∧ Q e st w
theorem wpG_sound {P : Program} {n : Nat} : ∀ (anns : List Ann) (c : Code) (Q : Cont) {st : St} {a : Act} {w : World}, wpG P n anns c Q st w → Agree n a st → c.wpIn (FW none) 0 P (GAfter P n Q) a w
  | [], c, Q, st, a, w, h, ha => h.elim
  | [x], c, Q, st, a, w, h, ha => by
    simp only [wpG] at h
    split at h
    · rename_i hn
      refine wpIn_mono (wpC_sound _ none x c _ h ha) ?_
      rintro e a1 w1 h1
      cases e with
      | panic ch =>
        obtain ⟨⟨KP, hk, hK⟩, hs, hd⟩ := h1
        cases hk
        refine ⟨{ env := without (written c) st.env, ds := st.ds }, (hd hn).trans ha.ds, fun i v hi => ?_, hK⟩
        obtain ⟨h2, h3⟩ := get_without hi
        rw [hs i h2]
        exact ha.val i v h3
      | normal => exact h1.1
      | ret => exact h1.1
      | exit i => exact h1.1
      | goto i => exact h1.1
      | outgrown => exact h1.1
    · exact h.elim
  | x :: y :: ys, c, Q, st, a, w, h, ha => by
    simp only [wpG] at h
    split at h
    · rename_i b d
      refine wpIn_seq (wpIn_mono (wpC_sound none none x b _ h ha) ?_)
      rintro e a1 w1 h1
      cases e with
      | normal =>
        obtain ⟨⟨s1, ha1, h2⟩, _⟩ := h1
        exact wpG_sound (y :: ys) d Q h2 ha1
      | panic ch => obtain ⟨⟨KP, hk, _⟩, _⟩ := h1; cases hk
      | ret => exact h1.1
      | exit i => exact h1.1
      | goto i => exact h1.1
      | outgrown => exact h1.1
    · exact h.elim
theorem callsG_of {P : Program} {f : FuncId} {fn : Func} {anns : List Ann} {args : List Value} {w : World} {K : Value → World → Prop} (hf : P.funcs[f]? = some fn) (h : wpFG P fn anns args w K) : callP P f args w K := by
  unfold wpFG at h
  split at h
  · rename_i c hb
    split at h
    · rename_i hle
      have hle' : args.length ≤ fn.ntmps := Nat.le_of_ble_eq_true hle
      refine calls_of_wpW hf hb ?_
      refine wpIn_mono (wpG_sound anns c _ h (enter_agree args hle')) ?_
      rintro e a' w' hh
      have fin : ∀ st : St, Agree fn.ntmps a' st → finish P fn K st.env st.ds w' → LeavesW P fn a'.tmps (fun e w => ∃ v, e = .returned v ∧ K v w) a'.defers .returning w' := fun st ha hq => by
        rw [ha.ds]; exact finish_sound (fun v w' hk => ⟨v, rfl, hk⟩) ha.val st.ds hq
      cases e with
      | normal => obtain ⟨st, ha, hq⟩ := hh; exact fin st ha hq
      | ret => obtain ⟨st, ha, hq⟩ := hh; exact fin st ha hq
      | panic ch =>
        obtain ⟨st, hd, hv, hq⟩ := hh
        show LeavesW P fn a'.tmps _ a'.defers (.panicking ch) w'
        rw [hd]
        exact leaveP_sound (fun v w' hk => ⟨v, rfl, hk⟩) hv st.ds hq
      | exit i => obtain ⟨st, ha, hq⟩ := hh; exact hq.elim
      | goto i => obtain ⟨st, ha, hq⟩ := hh; exact hq.elim
      | outgrown => obtain ⟨st, ha, hq⟩ := hh; exact hq.elim
    · exact h.elim
  · exact h.elim
def recMode : FrameMode → Value × FrameMode
  | .panicking ({ v, recovered := false, goexit := false } :: older) => (v, .panicking ({ v, recovered := true } :: older))
  | u => (.nilIface, u)
theorem recSlots_some {ops : Array Oper} {d1 d2 : Nat} (h : recSlots ops = some (d1, d2)) : ∃ o1 o2 c, ops = #[o1, o2] ∧ o1.dst = some d1 ∧ o1.op = .call c ∧ c.callee = .builtin .recover ∧ o1.guard = none ∧ o2.dst = some d2 ∧ o2.op = .assign (.tmp d1) ∧ o2.guard = none := by
  unfold recSlots at h
  split at h
  · rename_i o1 o2 ho
    split at h
    · rename_i e1 e2 e3 e4 e5 e6
      split at h
      · rename_i hc ht
        cases h
        refine ⟨o1, o2, _, ?_, e1, e2, hc, e3, e4, ?_, e6⟩
        · apply Array.ext'; simpa using ho
        · rw [e5, Nat.eq_of_beq_eq_true ht]
      · cases h
    · cases h
  · cases h
theorem callDM_of {P : Program} {f : FuncId} {fn : Func} {ann : Ann} {args : List Value} {u : FrameMode} {w : World} {K : World → Prop} (hf : P.funcs[f]? = some fn) (h : wpR P fn ann args (recMode u).1 w K) : callDM P f args u w fun u' w' => u' = (recMode u).2 ∧ K w' := by
  unfold wpR at h
  split at h
  · rename_i id ops rest hb
    split at h
    · rename_i d1 d2 hslots hle
      split at h
      case h_2 => exact h.elim
      rename_i hlt
      rw [Bool.and_eq_true] at hle hlt
      have hle' : args.length ≤ fn.ntmps := Nat.le_of_ble_eq_true hle.2
      have hl1 : d1 < fn.ntmps := by simpa using hlt.1
      have hl2 : d2 < fn.ntmps := by simpa using hlt.2
      obtain ⟨o1, o2, c, rfl, e1, e2, e3, e4, e5, e6, e7⟩ := recSlots_some hslots
      refine callsD_of_wpS (R := fun e u' w' => (∃ v, e = .returned v) ∧ u' = (recMode u).2 ∧ K w') hf hb fun c₀ cs hu => ?_
      have hag := enter_agree args hle'
      refine wpS_seq (wpS_region ?_)
      have hr1 : ∀ a : Act, (execOp a.eval o1).run P w = .ok .recover w := fun a => by
        unfold execOp
        rw [e2]
        simp only [resolve, e3]
        rfl
      have hr2 : ∀ a : Act, (execOp a.eval o2).run P w = .ok (.value (a.eval (.tmp d1))) w := fun a => by
        unfold execOp
        rw [e6]
        rfl
      have hrest : ∀ (cs' : List Frame) (u' : FrameMode) (x : Value), cs' = { c₀ with mode := u' } :: cs → u' = (recMode u).2 → x = (recMode u).1 →
          rest.wpS P (bodyPostS P fn c₀ cs fun e u' w' => (∃ v, e = .returned v) ∧ u' = (recMode u).2 ∧ K w') ((({ tmps := args.toArray ++ Array.replicate (fn.ntmps - args.toArray.size) undef, defers := [] } : Act).put o1.dst x).put o2.dst x) cs' w := by
        intro cs' u' x hcs hu' hx
        subst hx
        have ha2 : Agree fn.ntmps ((({ tmps := args.toArray ++ Array.replicate (fn.ntmps - args.toArray.size) undef, defers := [] } : Act).put o1.dst (recMode u).1).put o2.dst (recMode u).1) { env := (d2, (recMode u).1) :: (d1, (recMode u).1) :: envArgs 0 args, ds := [] } := by
          have h1 := put_agree (put_agree hag (d := o1.dst) (by rw [e1]; exact hlt.1) (recMode u).1) (d := o2.dst) (by rw [e5]; exact hlt.2) (recMode u).1
          rw [e1, e5] at h1 ⊢
          exact h1
        have h2 := wpC_sound (P := P) none none ann rest _ h ha2
        refine wpS_of_wp (wpIn_wide.1 (wpIn_mono h2 ?_))
        rintro e a' w' hh
        have fin : ∀ st : St, Agree fn.ntmps a' st → finish P fn (fun _ w' => K w') st.env st.ds w' → a'.defers = [] → ∃ v, (results fn a'.tmps).run P w' = .ok v w' ∧ (∃ u, Ending.returned v = .returned u) ∧ u' = (recMode u).2 ∧ K w' := fun st ha hq hd => by
          rw [← ha.ds, hd] at hq
          obtain ⟨vs, hr, hk⟩ := results_sound ha.val hq
          exact ⟨_, hr, ⟨_, rfl⟩, hu', hk⟩
        have hnd := hle.1
        cases e with
        | normal =>
          obtain ⟨⟨st, ha, hq⟩, _, hd⟩ := hh
          have hd := hd hnd
          rw [e1, e5] at hd
          exact ⟨hd, u', hcs, fin st ha hq hd⟩
        | ret =>
          obtain ⟨⟨st, ha, hq⟩, _, hd⟩ := hh
          have hd := hd hnd
          rw [e1, e5] at hd
          exact ⟨hd, u', hcs, fin st ha hq hd⟩
        | panic ch =>
          obtain ⟨⟨KP, hpk, hk⟩, _, hd⟩ := hh
          cases hpk
        | exit i => obtain ⟨⟨st, ha, hq⟩, _⟩ := hh; exact hq.elim
        | goto i => obtain ⟨⟨st, ha, hq⟩, _⟩ := hh; exact hq.elim
        | outgrown => obtain ⟨⟨st, ha, hq⟩, _⟩ := hh; exact hq.elim
      show wpOpsS P #[o1, o2] _ [0, 1] _ _ w
      have key : ∀ (cs' : List Frame) (x : Value), (Code.region id #[o1, o2] false = Code.region id #[o1, o2] false) → rest.wpS P (bodyPostS P fn c₀ cs fun e u' w' => (∃ v, e = .returned v) ∧ u' = (recMode u).2 ∧ K w') ((({ tmps := args.toArray ++ Array.replicate (fn.ntmps - args.toArray.size) undef, defers := [] } : Act).put o1.dst x).put o2.dst x) cs' w →
          wpOpsS P #[o1, o2] (Exit.thenS (rest.wpS P (bodyPostS P fn c₀ cs fun e u' w' => (∃ v, e = .returned v) ∧ u' = (recMode u).2 ∧ K w')) (bodyPostS P fn c₀ cs fun e u' w' => (∃ v, e = .returned v) ∧ u' = (recMode u).2 ∧ K w')) [1] (({ tmps := args.toArray ++ Array.replicate (fn.ntmps - args.toArray.size) undef, defers := [] } : Act).put o1.dst x) cs' w := by
        intro cs' x _ hh
        have hx : (({ tmps := args.toArray ++ Array.replicate (fn.ntmps - args.toArray.size) undef, defers := [] } : Act).put o1.dst x).eval (.tmp d1) = x := by
          have := (put_agree hag (d := o1.dst) (by rw [e1]; exact hlt.1) x).val d1 x (by rw [e1]; exact Env.get_cons_self ..)
          exact this
        unfold wpOpsS
        have e8 : (#[o1, o2] : Array Oper)[1]? = some o2 := rfl
        simp only [e8, Region.wanted, e7, hr2, hx, if_true]
        exact hh
      unfold wpOpsS
      have e9 : (#[o1, o2] : Array Oper)[0]? = some o1 := rfl
      simp only [e9, Region.wanted, e4, hr1, if_true]
      have hm : (recoverD (c₀ :: cs) = none ∧ recMode u = (.nilIface, u)) ∨ recoverD (c₀ :: cs) = some ((recMode u).1, { c₀ with mode := (recMode u).2 } :: cs) := by
        subst hu
        unfold recoverD recMode
        simp only
        split
        · rename_i v older hv
          exact .inr (by rw [hv])
        · rename_i hno
          refine .inl ⟨rfl, ?_⟩
          split
          · rename_i v older hv
            exact absurd hv (hno v older)
          · rfl
      rcases hm with ⟨hm, hu2⟩ | hm
      · simp only [hm]
        refine key _ _ rfl (hrest _ u _ ?_ (by rw [hu2]) (by rw [hu2]))
        subst hu; rfl
      · simp only [hm]
        exact key _ _ rfl (hrest _ _ _ rfl rfl rfl)
    · exact h.elim
  · exact h.elim
end Go.Sv
