/-
  The document's values (longshoreref02): Equal, weigh, Great.
-/
import Derived.Test.YtnacobknngidkaaGreatDoorPz4
set_option linter.unusedVariables false
set_option linter.unusedSimpArgs false
namespace Go.Proofs.YtnacobknngidkaaGreatDoor
open Go Go.Sv Go.Note
set_option linter.unusedVariables false
attribute [local irreducible] Sif
theorem bs_eq (a b : Bs) : ((ByteArray.mk a.toArray).toList == (ByteArray.mk b.toArray).toList) = decide (a = b) := by
  rw [ByteArray.toList_eq, ByteArray.toList_eq]
  by_cases h : a = b
  · subst h; simp
  · simp [h]
theorem nat_beq (a b : Nat) : (((a : Nat) : Int) == (b : Int)) = decide (a = b) := by
  by_cases h : a = b
  · subst h; simp
  · simp [h]; omega
theorem int_bne (a b : Int) : (a != b) = !decide (a = b) := by
  by_cases h : a = b <;> simp [h]
theorem mL_eq {a b : List MV} : a.map MV.m = b.map MV.m ↔ a.length = b.length ∧ ∀ i, i < a.length → ∀ x y, a[i]? = some x → b[i]? = some y → x.m = y.m := by
  constructor
  · intro h
    have hl : a.length = b.length := by simpa using congrArg List.length h
    refine ⟨hl, fun i hi x y hx hy => ?_⟩
    have := congrArg (fun l => l[i]?) h
    simp only [List.getElem?_map, hx, hy, Option.map_some, Option.some.injEq] at this
    exact this
  · rintro ⟨hl, h⟩
    apply List.ext_getElem?
    intro i
    simp only [List.getElem?_map]
    by_cases hi : i < a.length
    · have hx : a[i]? = some a[i] := List.getElem?_eq_getElem hi
      have hy : b[i]? = some b[i] := List.getElem?_eq_getElem (by omega)
      rw [hx, hy]
      simp [h i hi _ _ hx hy]
    · rw [List.getElem?_eq_none (by omega), List.getElem?_eq_none (by omega)]
theorem rEqual_ok {Q Q' : Nat → Prop} : ∀ (x y : MV) {w : World} {K : Value → World → Prop}, VR Q w x → VR Q' w y → (∀ w', Ch (fun _ => False) w w' → K (.bool (decide (x.m = y.m))) w') →
    callP Tryz.prog 21 [x.v, y.v] w K := by
  refine MV.ind fun k n t s e l ih => ?_
  rintro ⟨k', n', t', s', e', l'⟩ w K hx hy hk
  apply ok_longshoreref02_Equal
  unfold wp_longshoreref02_Equal
  refine boxV (x := .mk k n t s e l) fun w1 b1 a1 c1 z1 => boxV (x := .mk k' n' t' s' e' l') fun w2 b2 a2 c2 z2 => ?_
  have a1' := a1.ch c2 id
  have c12 := c1.trans' c2
  simp only [add_at]
  rw [MV.m_mk, MV.m_mk] at hk
  have hl1 := hx.inv.1
  have hl2 := hy.inv.1
  have hs1 := hx.inv.2.1
  simp only [MV.l_mk, MV.s_mk] at hl1 hl2 hs1
  have no : ¬ (M.mk k n t e (l.map MV.m) = M.mk k' n' t' e' (l'.map MV.m)) → K (.bool false) w2 := fun h => by
    have := hk w2 c12
    rwa [decide_eq_false h] at this
  refine ⟨fun w3 => w3 = w2 ∧ k = k' ∧ n = n' ∧ t = t' ∧ e = e' ∧ s.n = s'.n, ?_, ?_⟩
  · rintro w3 ⟨rfl, rfl, rfl, rfl, rfl, hn⟩
    refine ⟨fun m i w4 => ∃ j : Nat, i = (j : Int) ∧ m = s.n - j ∧ j ≤ s.n ∧ Ch (fun _ => False) w3 w4 ∧ ∀ q, q < j → ∀ x y, l[q]? = some x → l'[q]? = some y → x.m = y.m, ⟨s.n, 0, rfl, rfl, Nat.zero_le _, Ch.refl _ _, fun q hq => by omega⟩, ?_⟩
    rintro m i w4 ⟨j, rfl, rfl, hj, c4, hall⟩
    have c34 := c12.trans' c4
    refine ⟨_, _, _, (a1'.ch c4 id).s3, ?_⟩
    simp only [MV.s_mk]
    refine Sif_cases (fun h => ?_) (fun h => ?_)
    · have hjl : j < s.n := by have := of_decide_eq_true h; omega
      obtain ⟨x, hxi⟩ : ∃ x, l[j]? = some x := ⟨l[j]'(by omega), List.getElem?_eq_getElem _⟩
      obtain ⟨y, hyi⟩ : ∃ y, l'[j]? = some y := ⟨l'[j]'(by omega), List.getElem?_eq_getElem _⟩
      have hX := hx.ch0 (c34.trans' (Ch.drew _))
      have hY := hy.ch0 (c34.trans' (Ch.drew _))
      obtain ⟨bx, ox, px, _, ax⟩ := hX.at (i := j) hxi
      obtain ⟨by', oy, py, _, ay⟩ := hY.at (i := j) hyi
      simp only [MV.s_mk] at px py
      refine ⟨_, _, _, (a1'.ch (c4.trans' (Ch.drew _)) id).s3, by omega, by simp only [MV.s_mk]; omega, ?_⟩
      simp only [MV.s_mk, px]
      show nn (some _) _
      simp only [nn, add_at, Int.toNat_natCast]
      refine rd5 ax ?_
      refine ⟨_, _, _, (a2.ch (c4.trans' (Ch.drew _)) id).s3, by omega, by simp only [MV.s_mk]; omega, ?_⟩
      simp only [MV.s_mk, py, add_at, Int.toNat_natCast]
      refine rd5 ay ?_
      have vx := hX.inv.2.2.2.2 x (List.mem_of_getElem? hxi)
      have vy := hY.inv.2.2.2.2 y (List.mem_of_getElem? hyi)
      rw [vv x, vv y]
      refine ih x (List.mem_of_getElem? hxi) y vx vy fun w5 c5 => ⟨_, rfl, ?_⟩
      · refine Sif_cases (fun h => ?_) (fun h => ?_)
        · rw [Bool.not_eq_true'] at h
          have h := of_decide_eq_false h
          have := hk w5 ((c34.trans' (Ch.drew _)).trans' c5)
          rw [decide_eq_false] at this
          · exact this
          · intro he
            simp only [M.mk.injEq] at he
            exact h ((mL_eq.1 he.2.2.2.2).2 j (by omega) x y hxi hyi)
        · rw [Bool.not_eq_false'] at h
          have hxy := of_decide_eq_true h
          simp only [nameI]
          rw [wrap_id (n := (j : Int) + 1) (by omega) (by omega)]
          refine ⟨s.n - (j + 1), by omega, j + 1, by omega, rfl, by omega, (c4.trans' (Ch.drew _)).trans' c5, fun q hq a b ha hb => ?_⟩
          by_cases hqj : q = j
          · subst hqj
            rw [hxi] at ha; rw [hyi] at hb
            cases ha; cases hb; exact hxy
          · exact hall q (by omega) a b ha hb
    · have hjl : j = s.n := by have := of_decide_eq_false h; omega
      have := hk w4 c34
      rw [decide_eq_true] at this
      · exact this
      · simp only [M.mk.injEq, true_and]
        exact mL_eq.2 ⟨by omega, fun q hq => hall q (by omega)⟩
  · refine ⟨_, a1'.k0, _, a2.k0, ?_⟩
    simp only [MV.k_mk, int_bne, Bool.not_not]
    refine Sif_cases (fun hk1 => ?_) (fun h => no fun he => ?_)
    · have hk1 := of_decide_eq_true hk1
      refine ⟨_, a1'.n1, _, a2.n1, ?_⟩
      simp only [MV.n_mk]
      refine Sif_cases (fun hn1 => ?_) (fun h => no fun he => ?_)
      · have hn1 : n = n' := by have := of_decide_eq_true hn1; omega
        refine ⟨_, a1'.t2, _, a2.t2, ?_⟩
        simp only [MV.t_mk]
        rw [bs_eq]
        refine Sif_cases (fun ht1 => ?_) (fun h => no fun he => ?_)
        · have ht1 : t = t' := by simpa using ht1
          refine ⟨_, a1'.e4, _, a2.e4, ?_⟩
          simp only [MV.e_mk]
          refine Sif_cases (fun he1 => ?_) (fun h => no fun he => ?_)
          · have he1 := of_decide_eq_true he1
            refine ⟨_, _, _, a1'.s3, _, _, _, a2.s3, ?_⟩
            simp only [MV.s_mk]
            refine Sif_cases (fun h => no fun he => ?_) (fun h => ?_)
            · simp only [M.mk.injEq] at he
              have := (mL_eq.1 he.2.2.2.2).1
              rw [Bool.not_eq_true'] at h
              have h := of_decide_eq_false h
              omega
            · have hs1 : s.n = s'.n := by
                rw [Bool.not_eq_false'] at h
                have h := of_decide_eq_true h
                omega
              exact ⟨by trivial, hk1, hn1, ht1, he1, hs1⟩
          · simp only [M.mk.injEq] at he
            exact of_decide_eq_false h he.2.2.2.1
        · simp only [M.mk.injEq] at he
          rw [he.2.2.1] at h; simp at h
      · simp only [M.mk.injEq] at he
        exact of_decide_eq_false h (by omega)
    · simp only [M.mk.injEq] at he
      exact of_decide_eq_false h he.1
theorem wt_mk (k : Int) (n : Nat) (t : Bs) (s : SL) (e : Int) (l : List MV) : (MV.mk k n t s e l).m.wt = 1 + t.length / 64 + (l.map fun x => x.m.wt).sum := by
  rw [MV.m_mk, M.wt_mk, List.map_map]; rfl
theorem sum_take {α : Type} (f : α → Nat) {l : List α} {j : Nat} {y : α} (h : l[j]? = some y) : ((l.take (j + 1)).map f).sum = ((l.take j).map f).sum + f y := by
  rw [List.take_add_one, h]; simp
theorem sum_take_le {α : Type} (f : α → Nat) (l : List α) (j : Nat) : ((l.take j).map f).sum ≤ (l.map f).sum := by
  conv => rhs; rw [← List.take_append_drop j l]
  rw [List.map_append, List.sum_append]; omega
theorem weigh_ok : ∀ (x : MV) {Q : Nat → Prop} {c : Nat} {w : World} {K : Value → World → Prop}, VR Q w x → x.m.wt ≤ 2 ^ 60 → c ≤ 100000 → (∀ (d : Nat) w', Ch (fun _ => False) w w' → ((x.m.wt + c ≤ 100000 ∧ d = x.m.wt + c) ∨ (100000 < x.m.wt + c ∧ 100000 < d)) → K (.int .i64 (d : Int)) w') →
    callP Tryz.prog 31 [x.v, .int .i64 (c : Int)] w K := by
  refine MV.ind fun k n t s e l ih => ?_
  intro Q c w K hx hwt hc hk
  apply ok_longshoreref02_weigh
  unfold wp_longshoreref02_weigh
  refine boxV (x := .mk k n t s e l) fun w1 b1 a1 c1 z1 => ?_
  simp only [add_at]
  rw [wt_mk] at hwt hk
  have hl1 : l.length = s.n := hx.inv.1
  have hs1 : s.n ≤ 2 ^ 46 := hx.inv.2.1
  have hsum : ∀ j, ((l.take j).map fun x => x.m.wt).sum ≤ (l.map fun x => x.m.wt).sum := sum_take_le _ l
  refine ⟨_, a1.t2, by decide, ?_⟩
  simp only [MV.t_mk, nameI]
  have hsz : (ByteArray.mk t.toArray).size = t.length := by simp [ByteArray.size]
  rw [hsz]
  have hdiv : Int.tdiv (t.length : Int) 64 = ((t.length / 64 : Nat) : Int) := by
    rw [Int.tdiv_eq_ediv_of_nonneg (by omega)]; rfl
  rw [hdiv, wrap_id (n := (c : Int) + 1) (by omega) (by omega), wrap_id (n := ((t.length / 64 : Nat) : Int)) (by omega) (by omega), wrap_id (by omega) (by omega)]
  refine ⟨fun m n2 n3 w2 => ∃ j d : Nat, n3 = (j : Int) ∧ n2 = (d : Int) ∧ m = s.n - j ∧ j ≤ s.n ∧ Ch (fun _ => False) w1 w2 ∧ ((d = c + 1 + t.length / 64 + ((l.take j).map fun x => x.m.wt).sum) ∨ (100000 < d ∧ 100000 < c + 1 + t.length / 64 + (l.map fun x => x.m.wt).sum)),
    ⟨s.n, 0, c + 1 + t.length / 64, rfl, by omega, rfl, Nat.zero_le _, Ch.refl _ _, .inl (by simp)⟩, ?_⟩
  rintro m n2 n3 w2 ⟨j, d, rfl, rfl, rfl, hj, c2, hd⟩
  have c12 := c1.trans' c2
  have fin : ¬ j < s.n ∨ 100000 < d → K (.int .i64 (d : Int)) w2 := by
    intro h
    refine hk d w2 c12 ?_
    have hall : ¬ j < s.n → ((l.take j).map fun x => x.m.wt).sum = (l.map fun x => x.m.wt).sum := fun h => by rw [List.take_of_length_le (by omega)]
    have := hsum j
    rcases h with h | h
    · have := hall h; omega
    · omega
  refine ⟨fun w3 => w3 = w2 ∧ j < s.n ∧ d ≤ 100000, ?_, _, _, _, (a1.ch c2 id).s3, ?_⟩
  · rintro w3 ⟨rfl, hjl, hd100⟩
    obtain ⟨x, hxi⟩ : ∃ x, l[j]? = some x := ⟨l[j]'(by omega), List.getElem?_eq_getElem _⟩
    have hX := hx.ch0 c12
    obtain ⟨bx, ox, px, _, ax⟩ := hX.at (i := j) hxi
    simp only [MV.s_mk] at px
    refine ⟨_, _, _, (a1.ch c2 id).s3, by omega, by simp only [MV.s_mk]; omega, ?_⟩
    simp only [MV.s_mk, px, nn, add_at, Int.toNat_natCast]
    refine rd5 ax ?_
    have hsx := sum_take (fun x : MV => x.m.wt) hxi
    have hs2 := hsum (j + 1)
    rw [vv x]
    refine ih x (List.mem_of_getElem? hxi) (hX.inv.2.2.2.2 x (List.mem_of_getElem? hxi)) (by omega) hd100 fun d' w4 c4 hd' => ⟨_, rfl, ?_⟩
    rw [wrap_id (n := (j : Int) + 1) (by omega) (by omega)]
    refine ⟨s.n - (j + 1), by omega, j + 1, d', by omega, rfl, rfl, by omega, c2.trans' c4, ?_⟩
    omega
  · simp only [MV.s_mk]
    refine Sif_cases (fun h => ?_) (fun h => fin (.inl (by have := of_decide_eq_false h; omega)))
    have h := of_decide_eq_true h
    refine Sif_cases (fun h2 => ⟨by trivial, by omega, by have := of_decide_eq_true h2; omega⟩) (fun h2 => fin (.inr (by have := of_decide_eq_false h2; omega)))
theorem Great_ok {x : MV} {Q : Nat → Prop} {w : World} {K : Value → World → Prop} (hx : VR Q w x) (hwt : x.m.wt ≤ 2 ^ 60) (hk : ∀ w', Ch (fun _ => False) w w' → K (.bool (decide (100000 < x.m.wt))) w') :
    callP Tryz.prog 14 [x.v] w K := by
  obtain ⟨k, n, t, s, e, l⟩ := x
  apply ok_longshoreref02_Great
  unfold wp_longshoreref02_Great
  refine boxV (x := .mk k n t s e l) fun w1 b1 a1 c1 z1 => ?_
  simp only [add_at]
  refine rd5 a1 ?_
  rw [vv]
  refine weigh_ok _ (c := 0) (hx.ch0 c1) hwt (by omega) fun d w2 c2 hd => ⟨_, rfl, ?_⟩
  have := hk w2 (c1.trans' c2)
  have e : decide ((d : Int) > 100000) = decide (100000 < (MV.mk k n t s e l).m.wt) := by
    apply decide_eq_decide.2
    omega
  rw [e]; exact this
end Go.Proofs.YtnacobknngidkaaGreatDoor
