/-
  The law's apart, owned: batches that came out are their owner's.
-/
import Derived.Test.YtipololccbdojaaGreatDoorJview
import Derived.Test.YtipololccbdojaaGreatDoorBookC
import Derived.Test.YtipololccbdojaaGreatDoorJlawWp
namespace Go.Proofs.YtipololccbdojaaGreatDoor
open Go Go.Sv
set_option linter.unusedVariables false
set_option maxRecDepth 4000

theorem lsts_info : InfoIs Tryz.prog 29 1 24 (.slice none 0 0) := .of (by kernel_rfl) (by kernel_rfl) (by kernel_rfl)
def mk2 (j : Nat) : List UInt8 := [UInt8.ofNat j, UInt8.ofNat (j / 256)]
theorem mk2V (j : Nat) : [Value.int .u8 (IntKind.wrap .u8 (j : Int)), .int .u8 (IntKind.wrap .u8 (Int.fdiv (j : Int) (2 ^ 8)))] = bytesV (mk2 j) := by
  have e : Int.fdiv (j : Int) (2 ^ 8) = ((j / 256 : Nat) : Int) := by rw [Int.fdiv_eq_ediv_of_nonneg _ (by decide)]; omega
  rw [e, w8, w8]; rfl
def GoodM (w : World) (B : Nat → Prop) (j : Nat) (x : SL) : Prop := x.n = 2 ∧ Rd w x.p 2 1 (bytesV (mk2 j)) ∧ ∀ a, x.p = some a → ¬ B a.block ∧ a.block < w.heap.size
theorem staysM : Stays GoodM := ⟨fun {w w' B B' j x} h c hb => ⟨h.1, h.2.1.ch c fun a ha _ => (h.2.2 a ha).1, fun a ha => ⟨fun k => (h.2.2 a ha).1 (hb _ (h.2.2 a ha).2 k), by have := (h.2.2 a ha).2; have := c.size; omega⟩⟩⟩
/-- a list of lists, and these -/
structure Lsts (w : World) (lp : Option Addr) (T : List SL) (C : Nat → List SL) : Prop where
  row : Rd w lp T.length 1 (T.flatMap SL.cells)
  rows : Rws SL.cells 1 w T C
  nd : ∀ (j k : Nat) (x y : SL) (b : Nat), j ≠ k → T[j]? = some x → T[k]? = some y → x.own = some b → y.own ≠ some b
  apart : ∀ a, lp = some a → T.length ≠ 0 → ∀ x ∈ T, x.own ≠ some a.block
abbrev Own (T : List SL) (b : Nat) : Prop := ∃ x ∈ T, x.own = some b
theorem busy_own {T : List SL} {b : Nat} (h : Busy T 0 none none b) : Own T b := by
  rcases h with h | h | ⟨j, x, h1, _, h2⟩
  · cases h
  · cases h
  · exact ⟨x, List.mem_of_getElem? h1, h2⟩
theorem Lsts.hdr {w w' : World} {lp : Option Addr} {T : List SL} {C : Nat → List SL} (h : Lsts w lp T C) (c : Ch (Own T) w w') {i : Nat} {x : SL} (hx : T[i]? = some x) : ∃ k o, lp = some ⟨k, o, none⟩ ∧ w'.cell? ⟨k, o + i, none⟩ = some (.slice x.p x.n x.c) := by
  have hlt := (List.getElem?_eq_some_iff.1 hx).1
  have hr : Rd w' lp T.length 1 (T.flatMap SL.cells) := h.row.ch c fun a ha _ hs => by
    obtain ⟨y, hy, hb⟩ := hs
    exact h.apart a ha (by omega) y hy hb
  exact SL.at hr hx
/-- a mark is there -/
theorem mark_there {w : World} {B : Nat → Prop} {j : Nat} {x : SL} (h : GoodM w B j x) {Kf J : Prop} (hJ : J) :
    Sif (!(((x.n : Nat) : Int) != 2)) (0 ≤ (0 : Int) ∧ (0 : Int) < (x.n : Int) ∧ nn x.p fun a => ∃ n9 : Int, w.cell? (a.add ((0 : Int).toNat * 1)) = some (.int .u8 n9) ∧ Sif (!(n9 != IntKind.wrap .u8 (j : Int)))
      (0 ≤ (1 : Int) ∧ (1 : Int) < (x.n : Int) ∧ nn x.p fun a => ∃ n10 : Int, w.cell? (a.add ((1 : Int).toNat * 1)) = some (.int .u8 n10) ∧ 0 ≤ (8 : Int) ∧ Sif (n10 != IntKind.wrap .u8 (Int.fdiv (j : Int) (2 ^ 8))) Kf J) Kf) Kf := by
  obtain ⟨h1, h2, h3⟩ := h
  rw [h1]
  obtain ⟨k, o, hp, hc0⟩ := h2.cell (i := 0) (by omega)
  obtain ⟨k', o', hp', hc1⟩ := h2.cell (i := 1) (by omega)
  rw [hp] at hp'; cases hp'
  rw [← mk2V] at hc0 hc1
  rw [hp]
  refine Sif_true ⟨by omega, by omega, ?_⟩
  simp only [nn_some, add_at]
  refine ⟨_, by simpa using hc0, ?_⟩
  have e0 : (!(IntKind.wrap .u8 (j : Int) != IntKind.wrap .u8 (j : Int))) = true := by simp
  rw [e0]
  refine Sif_true ⟨by omega, by omega, IntKind.wrap .u8 (Int.fdiv (j : Int) (2 ^ 8)), by simpa using hc1, by omega, ?_⟩
  have e1 : (IntKind.wrap .u8 (Int.fdiv (j : Int) (2 ^ 8)) != IntKind.wrap .u8 (Int.fdiv (j : Int) (2 ^ 8))) = false := by simp
  rw [e1]
  exact Sif_false hJ
set_option maxHeartbeats 2000000 in
theorem apart_ok {w : World} {lp : Option Addr} {lc : Nat} {T : List SL} {C : Nat → List SL} {K : Value → World → Prop} (H : Lsts w lp T C) (hT : T.length ≤ 2 ^ 40) (hs : ∀ x ∈ T, x.n ≤ 2 ^ 40) (hk : ∀ w', Ch (Own T) w w' → K (.bool true) w') :
    callP Tryz.prog 45 [.slice lp T.length lc] w K := by
  refine ok_longshorelaw20_apart ?_
  unfold wp_longshorelaw20_apart
  refine ⟨fun m i w' => ∃ (j : Nat) (C' : Nat → List SL), i = (j : Int) ∧ j ≤ T.length ∧ m = T.length - j ∧ Ch (Own T) w w' ∧ Rws SL.cells 1 w' T C' ∧ ∀ q, q < j → ∀ y ∈ C' q, GoodM w' (Own T) q y, ⟨T.length, 0, C, rfl, by omega, rfl, Ch.refl _ _, H.rows, fun q hq => by omega⟩, ?_⟩
  rintro m i wA ⟨j, C', rfl, hj, rfl, cA, rA, gA⟩
  refine Sif_cases (fun hlt => ?_) fun hge => ?_
  · have hlt' : (j : Int) < T.length := by simpa using hlt
    have hjl : j < T.length := by omega
    have hx := List.getElem?_eq_getElem hjl
    have hxn := hs _ (List.getElem_mem hjl)
    refine ⟨fun m i w' => ∃ (k : Nat) (C2 : Nat → List SL), i = (k : Int) ∧ k ≤ T[j].n ∧ m = T[j].n - k ∧ Ch (Own T) w w' ∧ Rws SL.cells 1 w' T C2 ∧ (∀ q, q < j → ∀ y ∈ C2 q, GoodM w' (Own T) q y) ∧ ∀ y ∈ (C2 j).take k, GoodM w' (Own T) j y, ⟨T[j].n, 0, C', rfl, by omega, rfl, cA, rA, gA, by simp⟩, ?_⟩
    rintro m i wB ⟨k, C2, rfl, hk1, rfl, cB, rB, gB, gBj⟩
    obtain ⟨kb, ko, rfl, hc⟩ := H.hdr cB hx
    refine ⟨by omega, hlt', ?_⟩
    simp only [nn_some, add_at, Int.toNat_natCast, Nat.mul_one]
    refine ⟨_, _, _, hc, Sif_cases (fun hk2 => ?_) fun hk2 => ?_⟩
    · have hk2' : (k : Int) < T[j].n := by simpa using hk2
      refine ⟨by omega, hlt', _, _, _, hc, by omega, ?_⟩
      rw [mk2V]
      refine newB_blk fun wC bC cC zC => ?_
      have rC := rB.ch cC fun _ _ _ _ => id
      obtain ⟨hoC, hlC⟩ := rC j _ hx
      have hkl : k < (C2 j).length := by omega
      obtain ⟨vb, vo, hp, hown, hst⟩ := rC.st SL.cells_len H.nd hx (List.getElem?_eq_getElem hkl) (by decide)
      refine ⟨by omega, hk2', ?_⟩
      rw [hp]
      simp only [nn_some, add_at, Nat.add_zero]
      have cBC : Ch (Own T) w wC := cB.new cC
      refine hst 0 _ (.slice (some ⟨wB.heap.size, 0, none⟩) 2 2) ⟨some ⟨wB.heap.size, 0, none⟩, 2, 2, none⟩ _ (by decide) (by omega) rfl fun wD rD cD zD => ?_
      have hvb : Own T vb := ⟨_, List.getElem_mem hjl, hown⟩
      have hvl : vb < wB.heap.size := by have := (rB j _ hx).1.blt vb hown; omega
      have hT2 : ∀ b, Own T b → b < wB.heap.size := fun b ⟨x, hxm, hb⟩ => by
        obtain ⟨q, hq⟩ := List.getElem?_of_mem hxm
        exact (rB q x hq).1.blt b hb
      have cBD : Ch (Own T) wB wD := (cC.mono fun _ _ h => h.elim).trans' (cD.mono fun b _ e => e ▸ hvb)
      have gnew : GoodM wD (Own T) j ⟨some ⟨wB.heap.size, 0, none⟩, 2, 2, none⟩ := by
        have hl2 : (mk2 j).length = 2 := rfl
        refine ⟨rfl, (rd_blk bC hl2).ch cD fun a ha _ e => ?_, fun a ha => ?_⟩
        · cases ha
          have e : wB.heap.size = vb := e
          omega
        · cases ha
          exact ⟨fun h => by have := hT2 _ h; exact Nat.lt_irrefl _ this, by show wB.heap.size < _; omega⟩
      have hgo : ∀ q y, GoodM wB (Own T) q y → GoodM wD (Own T) q y := fun q y h => staysM.ch h cBD fun _ _ h => h
      rw [wrap_id (by omega) (by omega), nameI_iff]
      refine ⟨T[j].n - (k + 1), by omega, k + 1, _, by omega, by omega, rfl, cB.trans' cBD, rD, fun q hq y hy => ?_, fun y hy => ?_⟩
      · rw [if_neg (by omega)] at hy
        exact hgo q y (gB q hq y hy)
      · simp only [if_pos] at hy
        rw [take_set_succ (by omega)] at hy
        rcases List.mem_append.1 hy with hy | hy
        · exact hgo j y (gBj y hy)
        · rw [List.mem_singleton.1 hy]; exact gnew
    · have hk2' : ¬ (k : Int) < T[j].n := by simpa using hk2
      rw [wrap_id (by omega) (by omega), nameI_iff]
      refine ⟨T.length - (j + 1), by omega, j + 1, C2, by omega, by omega, rfl, cB, rB, fun q hq y hy => ?_⟩
      by_cases hqj : q = j
      · subst hqj
        refine gBj y ?_
        rw [List.take_of_length_le (by have := (rB q _ hx).2; omega)]; exact hy
      · exact gB q (by omega) y hy
  have hj' : ¬ (j : Int) < T.length := by simpa using hge
  obtain rfl : j = T.length := by omega
  have S0 : Gs SL.cells 1 GoodM wA wA T 0 none 0 none [] (fun k => k / 5) := Gs.begin _ (fun j x hx => ⟨C' j, (rA j x hx).1, (rA j x hx).2, fun y hy => staysM.ch (gA j (List.getElem?_eq_some_iff.1 hx).1 y hy) (Ch.refl _ _) fun b _ h => busy_own h⟩) H.nd
  refine ⟨fun m p n c i w3 => ∃ (j : Nat) (gb : Option Nat) (G : List SL), i = (j : Int) ∧ j ≤ T.length ∧ m = T.length - j ∧ n = G.length ∧ Gs SL.cells 1 GoodM wA w3 T j p c gb G (fun k => k / 5) ∧ G.length = 5 * j, ⟨T.length, 0, none, [], rfl, by omega, rfl, rfl, S0, rfl⟩, ?_⟩
  rintro m pg ng cg i wC ⟨j, gb, G, rfl, hj2, rfl, rfl, SC, hG⟩
  have cC : Ch (Own T) w wC := cA.trans' SC.b.ch
  refine Sif_cases (fun hlt => ?_) fun hge2 => ?_
  · have hlt' : (j : Int) < T.length := by simpa using hlt
    have hjl : j < T.length := by omega
    have hx := List.getElem?_eq_getElem hjl
    have hxn := hs _ (List.getElem_mem hjl)
    obtain ⟨kb, ko, rfl, hc⟩ := H.hdr cC hx
    refine ⟨by omega, hlt', ?_⟩
    simp only [nn_some, add_at, Int.toNat_natCast, Nat.mul_one]
    refine ⟨_, _, _, hc, ?_⟩
    obtain ⟨xs0, R0⟩ := SC.start staysM hx
    refine ⟨fun m pg ng cg pl nl cl i w4 => ∃ (k : Nat) (cur : SL) (xs : List SL) (gb : Option Nat) (G : List SL), i = (k : Int) ∧ k ≤ 5 ∧ m = 5 - k ∧ pl = cur.p ∧ nl = cur.n ∧ cl = cur.c ∧ ng = G.length ∧ Gr SL.cells 1 GoodM wA w4 T j cur xs pg cg gb G (fun k => k / 5) ∧ G.length = 5 * j + k ∧ cur.n ≤ T[j].n + k,
      ⟨5, 0, T[j], xs0, gb, G, rfl, by omega, rfl, rfl, rfl, rfl, rfl, R0, by omega, by omega⟩, ?_⟩
    rintro m pg ng cg pl nl cl i w4 ⟨k, cur, xs, gb, G, rfl, hk5, rfl, rfl, rfl, rfl, rfl, R4, hG4, hcur⟩
    refine Sif_cases (fun g4 => ?_) fun g4 => ?_
    · have g4' : (k : Int) < 5 := by simpa using g4
      refine ⟨by omega, ?_⟩
      rw [mk2V]
      refine newB_blk fun w5 b5 c5 z5 => ?_
      have R5 := R4.ch staysM c5
      refine R5.push (bytes := 24) Tryz.underlying29 lists_info (by rfl) staysM SL.cells_len SL.cells_one (by decide) ⟨some ⟨w4.heap.size, 0, none⟩, 2, 2, none⟩ (fun w' B c hB => ?_) (by omega) (by omega) fun cur' w7 R7 hn7 => ?_
      · have hl2 : (mk2 j).length = 2 := rfl
        refine ⟨rfl, (rd_blk b5 hl2).ch c fun _ _ _ => id, fun a ha => ?_⟩
        cases ha
        refine ⟨fun h => ?_, by show w4.heap.size < _; have := c.size; omega⟩
        rcases hB _ h with h | h
        · have hbl : ∀ b, Busy T (j + 1) cur.own gb b → b < w4.heap.size := fun b hb => by
            rcases hb with h | h | ⟨q, x, h1, h2, h3⟩
            · exact R4.now.blt b h
            · exact R4.b.grown.blt b h
            · obtain ⟨ys, g1, _⟩ := R4.b.rest q x h1 h2
              exact g1.blt b h3
          have := hbl _ h
          exact Nat.lt_irrefl _ this
        · have h : w5.heap.size < w4.heap.size := h
          omega
      refine R7.keep (bytes := 24) Tryz.underlying24 lsts_info (by rfl) staysM (by show G.length / 5 = j; omega) (by omega) (by omega) (by omega) fun gp' gc' gb' w9 R9 => ?_
      rw [nameI_iff, wrap_id (n := (k : Int) + 1) (by omega) (by omega)]
      exact ⟨5 - (k + 1), by omega, k + 1, cur', _, gb', G ++ [cur'], by omega, by omega, rfl, rfl, rfl, rfl, by simp, R9, by simp; omega, by omega⟩
    · have g4' : ¬ (k : Int) < 5 := by simpa using g4
      rw [nameI_iff, wrap_id (n := (j : Int) + 1) (by omega) (by omega)]
      exact ⟨T.length - (j + 1), by omega, j + 1, gb, G, by omega, by omega, rfl, rfl, R4.stop staysM SL.cells_len, by omega⟩
  have hj2' : ¬ (j : Int) < T.length := by simpa using hge2
  obtain rfl : j = T.length := by omega
  -- all read as they were written
  refine ⟨fun m i w' => ∃ q : Nat, i = (q : Int) ∧ q ≤ G.length ∧ m = G.length - q ∧ w' = wC, ⟨G.length, 0, rfl, by omega, rfl, rfl⟩, ?_⟩
  rintro m i w4 ⟨q, rfl, hq, rfl, rfl⟩
  refine Sif_cases (fun g5 => ?_) fun g5 => ?_
  · have g5' : (q : Int) < G.length := by simpa using g5
    have hql : q < G.length := by omega
    have hgq := List.getElem?_eq_getElem hql
    obtain ⟨gk, go, rfl, hgc⟩ := SL.at SC.b.grown.rd hgq
    have hsm := SC.b.small q _ hgq
    obtain ⟨ys, y1, y2, y3, y4⟩ := SC.read q _ hgq
    refine ⟨by decide, ?_⟩
    have e5 : Int.tdiv (q : Int) 5 = ((q / 5 : Nat) : Int) := by rw [Int.tdiv_eq_ediv_of_nonneg (by omega)]; omega
    rw [e5, wrap_id (by omega) (by omega), nameI_iff]
    refine ⟨fun m i w' => ∃ k : Nat, i = (k : Int) ∧ k ≤ G[q].n ∧ m = G[q].n - k ∧ w' = w4, ⟨G[q].n, 0, rfl, by omega, rfl, rfl⟩, ?_⟩
    rintro m i w5 ⟨k, rfl, hkn, rfl, rfl⟩
    refine ⟨by omega, g5', ?_⟩
    simp only [nn_some, add_at, Int.toNat_natCast, Nat.mul_one]
    refine ⟨_, _, _, hgc, Sif_cases (fun g6 => ?_) fun g6 => ?_⟩
    · have g6' : (k : Int) < G[q].n := by simpa using g6
      have hkl : k < ys.length := by omega
      obtain ⟨yk, yo, hyp, hyc⟩ := SL.at y1 (List.getElem?_eq_getElem hkl)
      have hgood := y3 _ (List.getElem_mem hkl)
      refine ⟨fun w6 => w6 = w5, ?_, by omega, g5', _, _, _, hgc, by omega, g6', ?_⟩
      · rintro w6 rfl
        rw [wrap_id (by omega) (by omega), nameI_iff]
        exact ⟨G[q].n - (k + 1), by omega, k + 1, by omega, by omega, rfl, rfl⟩
      · rw [hyp]
        simp only [nn_some, add_at, Int.toNat_natCast, Nat.mul_one]
        refine ⟨_, _, _, hyc, ?_⟩
        exact mark_there hgood (by trivial)
    · have g6' : ¬ (k : Int) < G[q].n := by simpa using g6
      rw [wrap_id (by omega) (by omega), nameI_iff]
      exact ⟨G.length - (q + 1), by omega, q + 1, by omega, by omega, rfl, by trivial⟩
  have cC' := cC
  refine ⟨fun m i w' => ∃ q : Nat, i = (q : Int) ∧ q ≤ T.length ∧ m = T.length - q ∧ w' = w4, ⟨T.length, 0, rfl, by omega, rfl, rfl⟩, ?_⟩
  rintro m i w5 ⟨q, rfl, hq, rfl, rfl⟩
  refine Sif_cases (fun g5 => ?_) fun g5 => ?_
  · have g5' : (q : Int) < T.length := by simpa using g5
    have hql : q < T.length := by omega
    have hx := List.getElem?_eq_getElem hql
    have hxn := hs _ (List.getElem_mem hql)
    obtain ⟨ys, y1, y2, y3, y4⟩ := SC.own q _ hql hx
    obtain ⟨kb, ko, rfl, hc⟩ := H.hdr cC hx
    refine ⟨fun m i w' => ∃ k : Nat, i = (k : Int) ∧ k ≤ T[q].n ∧ m = T[q].n - k ∧ w' = w5, ⟨T[q].n, 0, rfl, by omega, rfl, rfl⟩, ?_⟩
    rintro m i w6 ⟨k, rfl, hkn, rfl, rfl⟩
    refine ⟨by omega, g5', ?_⟩
    simp only [nn_some, add_at, Int.toNat_natCast, Nat.mul_one]
    refine ⟨_, _, _, hc, Sif_cases (fun g6 => ?_) fun g6 => ?_⟩
    · have g6' : (k : Int) < T[q].n := by simpa using g6
      have hkl : k < ys.length := by omega
      obtain ⟨yk, yo, hyp, hyc⟩ := SL.at y1 (List.getElem?_eq_getElem hkl)
      have hgood := y3 _ (List.getElem_mem hkl)
      refine ⟨fun w7 => w7 = w6, ?_, by omega, g5', _, _, _, hc, by omega, g6', ?_⟩
      · rintro w7 rfl
        rw [wrap_id (by omega) (by omega), nameI_iff]
        exact ⟨T[q].n - (k + 1), by omega, k + 1, by omega, by omega, rfl, rfl⟩
      · rw [hyp]
        simp only [nn_some, add_at, Int.toNat_natCast, Nat.mul_one]
        refine ⟨_, _, _, hyc, ?_⟩
        exact mark_there hgood (by trivial)
    · have g6' : ¬ (k : Int) < T[q].n := by simpa using g6
      rw [wrap_id (by omega) (by omega), nameI_iff]
      exact ⟨T.length - (q + 1), by omega, q + 1, by omega, by omega, rfl, by trivial⟩
  exact hk w5 cC
end Go.Proofs.YtipololccbdojaaGreatDoor
