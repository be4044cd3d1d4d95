/-
  The document's router. The document's router: Unbind, Drop, Match, Bindings. The document's router: Match, Bindings.
-/
import Derived.Test.YtnibmhjdomndbaaGreatDoorRtW
import Derived.Test.YtnibmhjdomndbaaGreatDoorRtT
import Derived.Test.YtnibmhjdomndbaaGreatDoorPlayWp
namespace Go.Proofs.YtnibmhjdomndbaaGreatDoor
open Go Go.Sv Go.Rt Go.Sort
set_option linter.unusedVariables false
theorem bAt {w : World} {p : Option Addr} {n : Nat} {L : List Bd} (h : Rd w p n 2 (L.flatMap bCells)) {i : Nat} {x : Bd} (hi : L[i]? = some x) : ∃ k o, p = some ⟨k, o, none⟩ ∧ w.cell? ⟨k, o + i * 2, none⟩ = some (.string x.1) ∧ w.cell? ⟨k, o + i * 2 + 1, none⟩ = some (.string x.2) := by
  obtain ⟨k, o, e, h⟩ := h.at bCells_len hi (by decide)
  exact ⟨k, o, e, by simpa using h 0 _ rfl, by simpa using h 1 _ rfl⟩
theorem lessD (a b : ByteArray) : Op.bytesLess a.toList b.toList = decide (dl a < dl b) := lessB a b
theorem grtD (a b : ByteArray) : (!(Op.bytesLess a.toList b.toList || a.toList == b.toList)) = decide (dl b < dl a) := grtB a b
theorem no_lt {a b : List UInt8} (h : a < b) : ¬ b < a := fun k => List.lt_irrefl _ (List.lt_trans h k)
/-- the document's router x holds B, in a row of its own -/
def XR (w : World) (x : Nat) (B : List Bd) (p : Option Addr) (c : Nat) (b : Option Nat) : Prop := blk w x = some [.slice p B.length c] ∧ Ow w p B.length c 2 (B.flatMap bCells) b ∧ b ≠ some x
theorem XR.ch {S : Nat → Prop} {w w' : World} {x : Nat} {B : List Bd} {p : Option Addr} {c : Nat} {b : Option Nat} (h : XR w x B p c b) (k : Ch S w w') (h1 : ¬ S x) (h2 : ∀ j, b = some j → ¬ S j) : XR w' x B p c b :=
  ⟨by rw [k.blk (blk_lt h.1) h1]; exact h.1, h.2.1.ch k h2, h.2.2⟩
theorem XR.cell {w : World} {x : Nat} {B : List Bd} {p : Option Addr} {c : Nat} {b : Option Nat} (h : XR w x B p c b) : w.cell? ⟨x, 0, none⟩ = some (.slice p B.length c) := by simpa using cell_blk h.1 0
theorem XR.new {w w' : World} {x : Nat} {B : List Bd} {p : Option Addr} {c : Nat} {b : Option Nat} (h : XR w x B p c b) (k : Ch (fun _ => False) w w') : XR w' x B p c b := h.ch k id fun _ _ => id
set_option maxHeartbeats 1000000 in
theorem place_ok {w : World} {x : Nat} {B : List Bd} {p : Option Addr} {c : Nat} {b : Option Nat} {y : Bd} {K : Value → World → Prop} (h : XR w x B p c b) (hl : B.length ≤ 2 ^ 40)
    (hk : ∀ (n : Int) w', (y ∈ B → ∃ i : Nat, n = i ∧ B[i]? = some y) → (y ∉ B → n = -1) → Ch (fun _ => False) w w' → K (.int .i64 n) w') : callP Tryz.prog 40 [.pointer (some ⟨x, 0, none⟩), .agg #[.string y.1, .string y.2]] w K := by
  refine ok_longshoreref18_Router_place ?_
  unfold wp_longshoreref18_Router_place
  refine newB_blk fun w1 b1 c1 z1 => ?_
  refine ⟨fun m n w2 => ∃ i : Nat, n = (i : Int) ∧ m + i = B.length ∧ y ∉ B.take i ∧ Ch (fun _ => False) w1 w2, ⟨B.length, 0, rfl, rfl, by simp, Ch.refl _ _⟩, ?_⟩
  rintro m n w2 ⟨i, rfl, hm, hn, c2⟩
  rw [nn_some]
  have c02 := c1.trans' c2
  have R2 := h.new c02
  have d2 := Ch.d0 (w := w2)
  have R2d := R2.new d2
  have b2 : blk w2.drew w.heap.size = some [.string y.1, .string y.2] := by rw [(c2.trans' d2).blk (blk_lt b1) id]; exact b1
  refine ⟨p, B.length, c, by simpa using R2.cell, Sif_cases (fun g => ?_) fun g => ?_⟩
  · have g := of_decide_eq_true g
    obtain ⟨z, hz⟩ : ∃ z, B[i]? = some z := ⟨_, List.getElem?_eq_getElem (by omega)⟩
    obtain ⟨k, o, rfl, h1, h2⟩ := bAt R2d.2.1.rd hz
    have step : z ≠ y → y ∉ B.take (i + 1) := fun hne => by
      rw [List.take_add_one, hz, Option.toList_some, List.mem_append, List.mem_singleton]
      rintro (q | q)
      · exact hn q
      · exact hne q.symm
    refine ⟨fun w3 => Ch (fun _ => False) w1 w3 ∧ y ∉ B.take (i + 1), ?_, ?_⟩
    · rintro w3 ⟨c3, hn3⟩
      rw [nameI_iff, wrap_id (n := (i : Int) + 1) (by omega) (by omega)]
      exact ⟨m - 1, by omega, i + 1, by omega, by omega, hn3, c3⟩
    · simp only [nn_some, add_at, Int.toNat_natCast, Nat.add_zero, Nat.zero_add]
      refine ⟨_, _, _, R2d.cell, by omega, g, ?_⟩
      simp only [nn_some, add_at, Int.toNat_natCast, Nat.add_zero, Nat.zero_add]
      refine ⟨z.1, h1, y.1, by simpa using cell_blk b2 0, ?_⟩
      rw [beq_ba]
      refine Sif_cases (fun e1 => ⟨_, _, _, R2d.cell, by omega, g, ?_⟩) fun e1 => ⟨c2.trans' d2, step fun e => ?_⟩
      · simp only [nn_some, add_at, Int.toNat_natCast]
        refine ⟨z.2, h2, y.2, by simpa using cell_blk b2 1, ?_⟩
        rw [beq_ba]
        refine Sif_cases (fun e2 => ?_) fun e2 => ⟨c2.trans' d2, step fun e => ?_⟩
        · have e : z = y := Prod.ext (eq_of_beq e1) (eq_of_beq e2)
          subst e
          exact hk _ _ (fun _ => ⟨i, rfl, hz⟩) (fun q => absurd (List.mem_of_getElem? hz) q) (c02.trans' d2)
        · rw [e, beq_self_eq_true] at e2; cases e2
      · rw [e, beq_self_eq_true] at e1; cases e1
  · have g := of_decide_eq_false g
    have hi : i = B.length := by omega
    rw [hi, List.take_length] at hn
    exact hk _ _ (fun q => absurd q hn) (fun _ => rfl) c02
set_option maxHeartbeats 1000000 in
theorem xbind_ok {w : World} {x : Nat} {B : List Bd} {p : Option Addr} {c : Nat} {b : Option Nat} {y : Bd} {K : Value → World → Prop} (h : XR w x B p c b) (hl : B.length ≤ 2 ^ 39) (h1 : y.1.size ≤ 2 ^ 40) (h2 : y.2.size ≤ 2 ^ 40)
    (hk : ∀ p' c' b' w', XR w' x (bindB B y) p' c' b' → (∀ j, b' = some j → b = some j ∨ w.heap.size ≤ j) → Ch (fun j => j = x ∨ b = some j) w w' → K (.int .i64 (bindE B y)) w') : callP Tryz.prog 16 [.pointer (some ⟨x, 0, none⟩), .agg #[.string y.1, .string y.2]] w K := by
  refine ok_longshoreref18_Router_Bind ?_
  unfold wp_longshoreref18_Router_Bind
  refine newB_blk fun w1 b1 c1 z1 => ⟨y.1, by simpa using cell_blk b1 0, pattern_ok h1 fun w2 c2 => ⟨_, rfl, ?_⟩⟩
  have bb : ∀ w', Ch (fun _ => False) w1 w' → blk w' w.heap.size = some [.string y.1, .string y.2] := fun w' c' => by rw [c'.blk (blk_lt b1) id]; exact b1
  refine ⟨y.2, by simpa using cell_blk (bb _ c2) 1, named_ok h2 ⟨_, rfl, y.1, by simpa using cell_blk (bb _ c2) 0, y.2, by simpa using cell_blk (bb _ c2) 1, place_ok (h.new (c1.trans' c2)) (by omega) fun n w4 hin hout c4 => ⟨n, rfl, ?_⟩⟩⟩
  have c14 := c2.trans' c4
  have R4 := h.new (c1.trans' c14)
  have c04 := c1.trans' c14
  have stay : bindE B y ≠ 0 → K (.int .i64 (bindE B y)) w4 := fun hne => hk p c b w4 (by rw [bindB, if_neg hne]; exact R4) (fun j hj => .inl hj) (c04.mono fun _ _ g => g.elim)
  refine Sif_cases (fun g => ?_) fun g => Sif_cases (fun g2 => ?_) fun g2 => Sif_cases (fun g3 => ?_) fun g3 => ?_
  · have e : bindE B y = 180 := by rw [bindE, if_pos (by simpa using g)]
    rw [e] at stay; exact stay (by decide)
  · have e : bindE B y = 82 := by rw [bindE, if_neg (by simpa using g), if_pos (by simpa using g2)]
    rw [e] at stay; exact stay (by decide)
  · have hy : y ∈ B := Classical.byContradiction fun q => by have := hout q; have := of_decide_eq_true g3; omega
    have e : bindE B y = 181 := by rw [bindE, if_neg (by simpa using g), if_neg (by simpa using g2), if_pos hy]
    rw [e] at stay; exact stay (by decide)
  · have hy : y ∉ B := fun q => by obtain ⟨i, rfl, _⟩ := hin q; have := of_decide_eq_false g3; omega
    rw [nn_some]
    refine ⟨p, B.length, c, by simpa using R4.cell, Sif_cases (fun g4 => ?_) fun g4 => ?_⟩
    · have g4 := of_decide_eq_true g4
      have e : bindE B y = 183 := by rw [bindE, if_neg (by simpa using g), if_neg (by simpa using g2), if_neg hy, if_pos (by omega)]
      rw [e] at stay; exact stay (by decide)
    · have g4 := of_decide_eq_false g4
      have e : bindE B y = 0 := by rw [bindE, if_neg (by simpa using g), if_neg (by simpa using g2), if_neg hy, if_neg (by omega)]
      rw [nn_some]
      have d4 := Ch.d0 (w := w4)
      have R4d := R4.new d4
      refine ⟨p, B.length, c, by simpa using R4d.cell, y.1, by simpa using cell_blk (bb _ (c14.trans' d4)) 0, y.2, by simpa using cell_blk (bb _ (c14.trans' d4)) 1, ?_⟩
      have N4 : Nb w4.drew w4.drew p c b B ∨ True := .inr trivial
      refine newB_mono' (push_ok (te := 48) (sz := 2) (g := bCells) Tryz.underlying27 bind_info (by rfl) bCells_len bCells_one R4d.2.1 y (ty := 27) (by omega) (by omega) (K := fun p2 n3 c2 w6 => nn (some ⟨x, 0, none⟩) fun a4 => st w6 (Addr.add (Addr.add a4 0) 0) (.slice p2 n3 c2) fun w7 => K (.int .i64 0) w7) fun p' c' b' w6 o6 n6 c6 => ?_) fun a w5 c5 hpush => ⟨⟨p, B.length, c, by simpa using (R4d.new c5).cell, rfl⟩, hpush⟩
      rw [nn_some]
      have hx : blk w6 x = some [.slice p B.length c] := by rw [c6.blk (blk_lt R4d.1) fun q => R4d.2.2 q]; exact R4d.1
      simp only [add_at, Nat.add_zero]
      refine st_blk hx (by simp) fun w7 b7 c7 z7 => ?_
      have hb'x : b' ≠ some x := fun q => by
        rcases n6 x q with q2 | q2
        · exact R4d.2.2 q2
        · have := blk_lt R4d.1; omega
      have := hk p' c' b' w7 ⟨by rw [b7, bindB, if_pos e]; rfl, by rw [bindB, if_pos e]; exact o6.ch c7 fun j hj e => hb'x (by rw [hj, e]), hb'x⟩ (fun j hj => (n6 j hj).imp id fun q => by have := (c04.trans' d4).size; omega) ((((c04.trans' d4).mono (S' := fun j => j = x ∨ b = some j) fun _ _ g => g.elim).trans' (c6.mono fun _ _ q => .inr q)).trans' (c7.mono fun _ _ q => .inl q))
      rw [e] at this
      exact this
end Go.Proofs.YtnibmhjdomndbaaGreatDoor
namespace Go.Proofs.YtnibmhjdomndbaaGreatDoor
open Go Go.Sv Go.Rt Go.Sort
set_option linter.unusedVariables false
theorem filter_snoc {α : Type} {B : List α} {i : Nat} {z : α} (hz : B[i]? = some z) (f : α → Bool) : (B.take (i + 1)).filter f = (B.take i).filter f ++ if f z then [z] else [] := by
  rw [List.take_add_one, hz, Option.toList_some, List.filter_append]
  congr 1
  cases h : f z <;> simp [h]
set_option maxHeartbeats 1000000 in
theorem xunbind_ok {w : World} {x : Nat} {B : List Bd} {p : Option Addr} {c : Nat} {b : Option Nat} {y : Bd} {K : Value → World → Prop} (h : XR w x B p c b) (hl : B.length ≤ 2 ^ 39) (hn : B.Nodup)
    (hk : ∀ p' c' b' w', XR w' x (unbindB B y) p' c' b' → (∀ j, b' = some j → b = some j ∨ w.heap.size ≤ j) → Ch (fun j => j = x) w w' → K (.int .i64 (if y ∈ B then 0 else 182)) w') : callP Tryz.prog 18 [.pointer (some ⟨x, 0, none⟩), .agg #[.string y.1, .string y.2]] w K := by
  refine ok_longshoreref18_Router_Unbind ?_
  unfold wp_longshoreref18_Router_Unbind
  refine newB_blk fun w1 b1 c1 z1 => ⟨y.1, by simpa using cell_blk b1 0, y.2, by simpa using cell_blk b1 1, place_ok (h.new c1) (by omega) fun n w2 hin hout c2 => ⟨n, rfl, ?_⟩⟩
  have c02 := c1.trans' c2
  refine Sif_cases (fun g => ?_) fun g => ?_
  · have g := of_decide_eq_true g
    have hy : y ∉ B := fun q => by obtain ⟨i, rfl, _⟩ := hin q; omega
    have := hk p c b w2 (by rw [show unbindB B y = B from List.filter_eq_self.2 fun z hz => by simp only [decide_eq_true_eq]; intro e; rw [e] at hz; exact hy hz]; exact h.new c02) (fun j hj => .inl hj) (c02.mono fun _ _ g => g.elim)
    rw [if_neg hy] at this; exact this
  · have g := of_decide_eq_false g
    have hy : y ∈ B := Classical.byContradiction fun q => by have := hout q; omega
    obtain ⟨i0, rfl, hi0⟩ := hin hy
    rw [if_pos hy] at hk
    refine ⟨fun m p1 n1 c1 n2 w3 => ∃ (i : Nat) (bb : Option Nat) (M : List Bd), n2 = (i : Int) ∧ m + i = B.length ∧ n1 = M.length ∧ M = (B.take i).filter (fun z => decide (z ≠ y)) ∧ Nb w2 w3 p1 c1 bb M, ⟨B.length, 0, none, [], rfl, rfl, rfl, rfl, Nb.nil _⟩, ?_⟩
    rintro m p1 n1 c1' n2 w3 ⟨i, bb, M, rfl, hm, rfl, hM, N3⟩
    have R3 := (h.new c02).new N3.ch
    have hMl : M.length ≤ B.length := by rw [hM]; exact Nat.le_trans (List.length_filter_le ..) (by rw [List.length_take]; omega)
    rw [nn_some]
    refine ⟨p, B.length, c, by simpa using R3.cell, Sif_cases (fun g2 => ?_) fun g2 => ?_⟩
    · have g2 := of_decide_eq_true g2
      obtain ⟨z, hz⟩ : ∃ z, B[i]? = some z := ⟨_, List.getElem?_eq_getElem (by omega)⟩
      have hzy : (z = y) ↔ i = i0 := by
        constructor
        · intro e
          subst e
          obtain ⟨q1, q2⟩ := List.getElem?_eq_some_iff.1 hz
          obtain ⟨q3, q4⟩ := List.getElem?_eq_some_iff.1 hi0
          exact (List.getElem_inj hn).1 (q2.trans q4.symm)
        · intro e; subst e; rw [hz] at hi0; exact Option.some.inj hi0
      refine ⟨fun p2 n4 c2 w4 => ∃ (bb' : Option Nat) (M' : List Bd), n4 = M'.length ∧ M' = (B.take (i + 1)).filter (fun z => decide (z ≠ y)) ∧ Nb w2 w4 p2 c2 bb' M', ?_, ?_⟩
      · rintro p2 n4 c2 w4 ⟨bb', M', rfl, hM', N4⟩
        rw [nameI_iff, wrap_id (n := (i : Int) + 1) (by omega) (by omega)]
        exact ⟨m - 1, by omega, i + 1, bb', M', by omega, by omega, rfl, hM', N4⟩
      · refine Sif_cases (fun g3 => ?_) fun g3 => ⟨bb, M, rfl, ?_, N3⟩
        · have hne : z ≠ y := fun e => by rw [hzy.1 e] at g3; simp at g3
          rw [nn_some]
          refine ⟨p, B.length, c, by simpa using R3.cell, by omega, g2, ?_⟩
          obtain ⟨k, o, rfl, h1, h2⟩ := bAt R3.2.1.rd hz
          simp only [nn_some, add_at, Int.toNat_natCast, Nat.add_zero]
          refine ⟨z.1, h1, z.2, h2, N3.push z (by omega) fun p4 c4 b4 w9 N9 c9 hb4 => ⟨b4, _, rfl, ?_, N9⟩⟩
          rw [filter_snoc hz, if_pos (by simpa using hne), hM]
        · have e : z = y := hzy.2 (by have := (bne_eq_false_iff_eq.1 g3); omega)
          rw [filter_snoc hz, if_neg (by simp [e]), List.append_nil, hM]
    · have g2 := of_decide_eq_false g2
      have hi : i = B.length := by omega
      rw [hi, List.take_length] at hM
      rw [nn_some]
      simp only [add_at, Nat.add_zero]
      refine st_blk R3.1 (by simp) fun w4 b4 c4 z4 => ?_
      have hxl := blk_lt h.1
      have hs2 := c02.size
      have hbx : bb ≠ some x := fun e => by have := N3.new x e; omega
      exact hk p1 c1' bb w4 ⟨by rw [b4, hM]; rfl, by rw [← show M = unbindB B y from hM]; exact N3.ow.ch c4 fun j hj e => hbx (by rw [hj, e]), hbx⟩ (fun j hj => .inr (by have := N3.new j hj; omega)) (((c02.trans' N3.ch).mono (S' := fun j => j = x) fun _ _ g => g.elim).trans' c4)
set_option maxHeartbeats 1000000 in
theorem xdrop_ok {w : World} {x : Nat} {B : List Bd} {p : Option Addr} {c : Nat} {b : Option Nat} {q : ByteArray} {K : Value → World → Prop} (h : XR w x B p c b) (hl : B.length ≤ 2 ^ 39)
    (hk : ∀ p' c' b' w', XR w' x (dropB B q) p' c' b' → (∀ j, b' = some j → w.heap.size ≤ j) → Ch (fun j => j = x) w w' → K (.int .i64 ((B.length : Int) - (dropB B q).length)) w') : callP Tryz.prog 20 [.pointer (some ⟨x, 0, none⟩), .string q] w K := by
  refine ok_longshoreref18_Router_Drop ?_
  unfold wp_longshoreref18_Router_Drop
  refine ⟨fun m p1 n1 c1 n2 w3 => ∃ (i : Nat) (bb : Option Nat) (M : List Bd), n2 = (i : Int) ∧ m + i = B.length ∧ n1 = M.length ∧ M = (B.take i).filter (fun z => decide (z.2 ≠ q)) ∧ Nb w w3 p1 c1 bb M, ⟨B.length, 0, none, [], rfl, rfl, rfl, rfl, Nb.nil _⟩, ?_⟩
  rintro m p1 n1 c1' n2 w3 ⟨i, bb, M, rfl, hm, rfl, hM, N3⟩
  have R3 := h.new N3.ch
  have hMl : M.length ≤ B.length := by rw [hM]; exact Nat.le_trans (List.length_filter_le ..) (by rw [List.length_take]; omega)
  rw [nn_some]
  refine ⟨p, B.length, c, by simpa using R3.cell, Sif_cases (fun g2 => ?_) fun g2 => ?_⟩
  · have g2 := of_decide_eq_true g2
    obtain ⟨z, hz⟩ : ∃ z, B[i]? = some z := ⟨_, List.getElem?_eq_getElem (by omega)⟩
    refine ⟨fun p2 n4 c2 w4 => ∃ (bb' : Option Nat) (M' : List Bd), n4 = M'.length ∧ M' = (B.take (i + 1)).filter (fun z => decide (z.2 ≠ q)) ∧ Nb w w4 p2 c2 bb' M', ?_, ?_⟩
    · rintro p2 n4 c2 w4 ⟨bb', M', rfl, hM', N4⟩
      rw [nameI_iff, wrap_id (n := (i : Int) + 1) (by omega) (by omega)]
      exact ⟨m - 1, by omega, i + 1, bb', M', by omega, by omega, rfl, hM', N4⟩
    · rw [nn_some]
      obtain ⟨k, o, rfl, h1, h2⟩ := bAt R3.2.1.rd hz
      refine ⟨_, B.length, c, by simpa using R3.cell, by omega, g2, ?_⟩
      simp only [nn_some, add_at, Int.toNat_natCast, Nat.add_zero]
      refine ⟨z.2, h2, ?_⟩
      rw [beq_ba]
      refine Sif_cases (fun g3 => ⟨_, B.length, c, by simpa using R3.cell, by omega, g2, ?_⟩) fun g3 => ⟨bb, M, rfl, ?_, N3⟩
      · have hne : z.2 ≠ q := by simpa using g3
        simp only [nn_some, add_at, Int.toNat_natCast, Nat.add_zero]
        refine ⟨z.1, h1, z.2, h2, N3.push z (by omega) fun p4 c4 b4 w9 N9 c9 hb4 => ⟨b4, _, rfl, ?_, N9⟩⟩
        rw [filter_snoc hz, if_pos (by simpa using hne), hM]
      · have e : z.2 = q := by simpa using g3
        rw [filter_snoc hz, if_neg (by simp [e]), List.append_nil, hM]
  · have g2 := of_decide_eq_false g2
    have hi : i = B.length := by omega
    rw [hi, List.take_length] at hM
    rw [nn_some]
    refine ⟨p, B.length, c, by simpa using R3.cell, ?_⟩
    rw [nameI_iff, wrap_id (n := (B.length : Int) - M.length) (by omega) (by omega), nn_some]
    simp only [add_at, Nat.add_zero]
    refine st_blk R3.1 (by simp) fun w4 b4 c4 z4 => ?_
    have hxl := blk_lt h.1
    have hbx : bb ≠ some x := fun e => by have := N3.new x e; omega
    have hMd : M = dropB B q := hM
    rw [hMd]
    exact hk p1 c1' bb w4 ⟨by rw [b4, hMd]; rfl, by rw [← hMd]; exact N3.ow.ch c4 fun j hj e => hbx (by rw [hj, e]), hbx⟩ (fun j hj => N3.new j hj) ((N3.ch.mono (S' := fun j => j = x) fun _ _ g => g.elim).trans' c4)
/-! ### Into a sorted list -/
/-- what stands in the new list behind i elements of L -/
structure Into {α : Type} (lt : α → α → Prop) (L : List α) (s : α) (i : Nat) (put : Bool) (O : List α) : Prop where
  asc : O.Pairwise lt
  mem : ∀ z, z ∈ O ↔ z ∈ L.take i ∨ (put = true ∧ z = s)
  no : put = false → ∀ z ∈ L.take i, lt z s
  yes : put = true → ∀ z ∈ L.drop i, lt s z
  len : O.length ≤ i + 1
  len0 : put = false → O.length ≤ i
theorem Into.zero {α : Type} {lt : α → α → Prop} {L : List α} {s : α} : Into lt L s 0 false [] := ⟨by simp, by simp, by simp, by simp, by simp, by simp⟩
theorem drop_at {α : Type} {L : List α} {i : Nat} {x : α} (hx : L[i]? = some x) : L.drop i = x :: L.drop (i + 1) := by
  obtain ⟨hl, rfl⟩ := List.getElem?_eq_some_iff.1 hx
  rw [List.getElem_cons_drop hl]
theorem take_at {α : Type} {L : List α} {i : Nat} {x : α} (hx : L[i]? = some x) : L.take (i + 1) = L.take i ++ [x] := by rw [List.take_add_one, hx]; rfl
/-- all that stands is ahead of the next one -/
theorem Into.ahead {α : Type} {lt : α → α → Prop} {L : List α} {s : α} {i : Nat} {put : Bool} {O : List α} (h : Into lt L s i put O) (hL : L.Pairwise lt) {x : α} (hx : L[i]? = some x) : ∀ z ∈ O, lt z x := by
  intro z hz
  rcases (h.mem z).1 hz with hz | ⟨hp, rfl⟩
  · have hs : L = L.take i ++ x :: L.drop (i + 1) := by rw [← drop_at hx, List.take_append_drop]
    rw [hs] at hL
    exact (List.pairwise_append.1 hL).2.2 z hz x (by simp)
  · exact h.yes hp x (by rw [drop_at hx]; simp)
theorem Into.step {α : Type} {lt : α → α → Prop} {L : List α} {s : α} {i : Nat} {put : Bool} {O : List α} (h : Into lt L s i put O) (hL : L.Pairwise lt) {x : α} (hx : L[i]? = some x) (hlt : put = false → lt x s) : Into lt L s (i + 1) put (O ++ [x]) := by
  refine ⟨List.pairwise_append.2 ⟨h.asc, by simp, fun z hz y hy => by rw [List.mem_singleton.1 hy]; exact h.ahead hL hx z hz⟩, fun z => ?_, fun hp z hz => ?_, fun hp z hz => h.yes hp z (by rw [drop_at hx]; simp [hz]), by have := h.len; simp; omega, fun hp => by have := h.len0 hp; simp; omega⟩
  · rw [List.mem_append, h.mem, take_at hx, List.mem_append]
    constructor
    · rintro ((q | q) | q)
      · exact .inl (.inl q)
      · exact .inr q
      · exact .inl (.inr q)
    · rintro ((q | q) | q)
      · exact .inl (.inl q)
      · exact .inr q
      · exact .inl (.inr q)
  · rw [take_at hx, List.mem_append, List.mem_singleton] at hz
    rcases hz with hz | rfl
    · exact h.no hp z hz
    · exact hlt hp
/-- .. put in ahead of x -/
theorem Into.put {α : Type} {lt : α → α → Prop} {L : List α} {s : α} {i : Nat} {O : List α} (h : Into lt L s i false O) (hL : L.Pairwise lt) (htr : ∀ {a b c : α}, lt a b → lt b c → lt a c) {x : α} (hx : L[i]? = some x) (hlt : lt s x) : Into lt L s i true (O ++ [s]) := by
  refine ⟨List.pairwise_append.2 ⟨h.asc, by simp, fun z hz y hy => by
    rw [List.mem_singleton.1 hy]
    rcases (h.mem z).1 hz with hz | ⟨hp, _⟩
    · exact h.no rfl z hz
    · cases hp⟩, fun z => ?_, (fun hp => by cases hp), fun _ z hz => ?_, by have := h.len0 rfl; simp; omega, fun hp => by cases hp⟩
  · rw [List.mem_append, h.mem]
    constructor
    · rintro ((q | ⟨q, _⟩) | q)
      · exact .inl q
      · cases q
      · exact .inr ⟨rfl, by simpa using q⟩
    · rintro (q | ⟨_, q⟩)
      · exact .inl (.inl q)
      · exact .inr (by simp [q])
  · rw [drop_at hx] at hz
    rcases List.mem_cons.1 hz with rfl | hz
    · exact hlt
    · have hs : L = L.take i ++ x :: L.drop (i + 1) := by rw [← drop_at hx, List.take_append_drop]
      rw [hs] at hL
      exact htr hlt ((List.pairwise_cons.1 (List.pairwise_append.1 hL).2.1).1 z hz)
/-- .. it is x -/
theorem Into.is {α : Type} {lt : α → α → Prop} {L : List α} {s : α} {i : Nat} {put : Bool} {O : List α} (h : Into lt L s i put O) (hL : L.Pairwise lt) (hx : L[i]? = some s) : Into lt L s (i + 1) true (O ++ [s]) := by
  have hs : L = L.take i ++ s :: L.drop (i + 1) := by rw [← drop_at hx, List.take_append_drop]
  refine ⟨List.pairwise_append.2 ⟨h.asc, by simp, fun z hz y hy => by rw [List.mem_singleton.1 hy]; exact h.ahead hL hx z hz⟩, fun z => ?_, (fun hp => by cases hp), fun _ z hz => ?_, by have := h.len; simp; omega, fun hp => by cases hp⟩
  · rw [List.mem_append, h.mem, take_at hx, List.mem_append, List.mem_singleton]
    constructor
    · rintro ((q | ⟨_, q⟩) | q)
      · exact .inl (.inl q)
      · exact .inr ⟨rfl, q⟩
      · exact .inr ⟨rfl, q⟩
    · rintro ((q | q) | ⟨_, q⟩)
      · exact .inl (.inl q)
      · exact .inr q
      · exact .inr q
  · rw [hs] at hL
    exact (List.pairwise_cons.1 (List.pairwise_append.1 hL).2.1).1 z hz
/-- at the end -/
theorem Into.done {α : Type} {lt : α → α → Prop} {L : List α} {s : α} {put : Bool} {O : List α} (h : Into lt L s L.length put O) : (put = true → O.Pairwise lt ∧ ∀ z, z ∈ O ↔ z ∈ L ∨ z = s) ∧ (put = false → (O ++ [s]).Pairwise lt ∧ ∀ z, z ∈ O ++ [s] ↔ z ∈ L ∨ z = s) := by
  have hm := h.mem
  have hno := h.no
  rw [List.take_length] at hm hno
  refine ⟨fun hp => ⟨h.asc, fun z => by rw [hm]; simp [hp]⟩, fun hp => ⟨List.pairwise_append.2 ⟨h.asc, by simp, fun z hz y hy => ?_⟩, fun z => by rw [List.mem_append, hm, List.mem_singleton]; simp [hp]⟩⟩
  rw [List.mem_singleton.1 hy]
  rcases (hm z).1 hz with hz | ⟨hp', _⟩
  · exact hno hp z hz
  · rw [hp] at hp'; cases hp'
theorem dl_tri (a b : ByteArray) : dl a < dl b ∨ a = b ∨ dl b < dl a := by
  rcases Std.lt_trichotomy (dl a) (dl b) with h | h | h
  · exact .inl h
  · exact .inr (.inl (dl_inj h))
  · exact .inr (.inr h)
set_option maxHeartbeats 1000000 in
theorem into_ok {w : World} {p : Option Addr} {c : Nat} {L : List ByteArray} {s : ByteArray} {K : Value → World → Prop} (hR : Rd w p L.length 1 (L.flatMap sCell)) (hL : Asc L) (hl : L.length ≤ 2 ^ 40)
    (hk : ∀ p' c' b' M w', Nw w w' p' c' b' M → Asc M → (∀ z, z ∈ M ↔ z ∈ L ∨ z = s) → M.length ≤ L.length + 1 → K (.slice p' M.length c') w') : callP Tryz.prog 43 [.slice p L.length c, .string s] w K := by
  refine ok_longshoreref18_into ?_
  unfold wp_longshoreref18_into
  refine ⟨fun m p1 n c1 put n1 w1 => ∃ (i : Nat) (bb : Option Nat) (O : List ByteArray), n1 = (i : Int) ∧ m + i = L.length ∧ n = O.length ∧ Nw w w1 p1 c1 bb O ∧ Into (fun x y => dl x < dl y) L s i put O, ⟨L.length, 0, none, [], rfl, rfl, rfl, Nw.nil _, Into.zero⟩, ?_⟩
  rintro m p1 n c1 put n1 w1 ⟨i, bb, O, rfl, hm, rfl, N1, I1⟩
  have hOl := I1.len
  refine Sif_cases (fun h => ?_) fun h => ?_
  · have h := of_decide_eq_true h
    obtain ⟨x, hx⟩ : ∃ x, L[i]? = some x := ⟨_, List.getElem?_eq_getElem (by omega)⟩
    obtain ⟨k, o, rfl, _⟩ := sAt hR hx
    have rd : ∀ w', Ch (fun _ => False) w w' → w'.cell? ⟨k, o + i, none⟩ = some (.string x) := fun w' c' => by
      obtain ⟨_, _, e, h⟩ := sAt (Rd_d hR c') hx
      cases e; exact h
    refine ⟨fun p2 n2 c2 put2 w2 => ∃ (bb : Option Nat) (O : List ByteArray), n2 = O.length ∧ Nw w w2 p2 c2 bb O ∧ Into (fun x y => dl x < dl y) L s (i + 1) put2 O, ?_, ?_⟩
    · rintro p2 n2 c2 put2 w2 ⟨bb', O', rfl, N2, I2⟩
      rw [nameI_iff, wrap_id (n := (i : Int) + 1) (by omega) (by omega)]
      exact ⟨m - 1, by omega, i + 1, bb', O', by omega, by omega, rfl, N2, I2⟩
    refine ⟨fun put2 w2 => w2 = w1 ∧ put2 = (put || decide (x = s)), ?_, by omega, h, ?_⟩
    · rintro put2 w2 ⟨rfl, rfl⟩
      refine ⟨fun p3 n3 c3 put3 w3 => ∃ (bb : Option Nat) (O : List ByteArray), n3 = O.length ∧ O.length ≤ i + 1 ∧ Nw w w3 p3 c3 bb O ∧ Into (fun x y => dl x < dl y) L s (i + 1) put3 (O ++ [x]), ?_, ?_⟩
      · rintro p3 n3 c3 put3 w3 ⟨bb', O', rfl, hOl', N3, I3⟩
        refine ⟨by omega, h, ?_⟩
        simp only [nn_some, add_at, Int.toNat_natCast, Nat.mul_one]
        refine ⟨x, rd _ N3.ch, N3.push x (by omega) fun p4 c4 b4 w4 N4 _ _ => ⟨b4, _, rfl, N4, I3⟩⟩
      · refine Sif_cases (fun g => ?_) fun g => ⟨bb, O, rfl, hOl, N1, ?_⟩
        · have g : put = false ∧ x ≠ s := by
            rw [Bool.not_eq_true'] at g
            rw [Bool.or_eq_false_iff] at g
            exact ⟨g.1, by simpa using g.2⟩
          obtain ⟨rfl, hne⟩ := g
          refine ⟨by omega, h, ?_⟩
          simp only [nn_some, add_at, Int.toNat_natCast, Nat.mul_one]
          refine ⟨x, rd _ N1.ch, ?_⟩
          rw [grtD]
          refine Sif_cases (fun g2 => ?_) fun g2 => ⟨bb, O, rfl, hOl, N1, ?_⟩
          · have g2 := of_decide_eq_true g2
            refine N1.push s (by have := I1.len0 rfl; omega) fun p4 c4 b4 w4 N4 _ _ => ⟨b4, _, rfl, by have := I1.len0 rfl; simp; omega, N4, ?_⟩
            exact (I1.put hL (fun a b => List.lt_trans a b) hx g2).step hL hx (fun e => by cases e)
          · have g2 := of_decide_eq_false g2
            have hlt : dl x < dl s := by
              rcases dl_tri x s with q | q | q
              · exact q
              · exact absurd q hne
              · exact absurd q g2
            have e : (false || decide (x = s)) = false := by simp [hne]
            rw [e]
            exact I1.step hL hx fun _ => hlt
        · have g : put = true ∨ x = s := by
            rw [Bool.not_eq_false'] at g
            rw [Bool.or_eq_true] at g
            exact g.imp id (by simp)
          by_cases hxs : x = s
          · subst hxs
            rw [decide_eq_true rfl, Bool.or_true]
            exact I1.is hL hx
          · have hp : put = true := g.resolve_right hxs
            subst hp
            rw [Bool.true_or]
            exact I1.step hL hx fun e => by cases e
    · simp only [nn_some, add_at, Int.toNat_natCast, Nat.mul_one]
      refine ⟨x, rd _ N1.ch, ?_⟩
      rw [beq_ba]
      refine Sif_cases (fun g => ⟨by trivial, ?_⟩) fun g => ⟨by trivial, ?_⟩
      · rw [decide_eq_true (eq_of_beq g), Bool.or_true]
      · rw [decide_eq_false (beq_eq_false_iff_ne.1 g), Bool.or_false]
  · have h := of_decide_eq_false h
    have hi : i = L.length := by omega
    subst hi
    obtain ⟨d1, d2⟩ := I1.done
    refine ⟨fun p2 n2 c2 w2 => ∃ (bb : Option Nat) (O : List ByteArray), n2 = O.length ∧ Nw w w2 p2 c2 bb O ∧ (Asc O ∧ ∀ z, z ∈ O ↔ z ∈ L ∨ z = s) ∧ O.length ≤ L.length + 1, ?_, ?_⟩
    · rintro p2 n2 c2 w2 ⟨bb', O', rfl, N2, ⟨A2, M2⟩, hl2⟩
      exact hk _ _ _ _ _ N2 A2 M2 hl2
    · refine Sif_cases (fun g => ?_) fun g => ⟨bb, O, rfl, N1, d1 (by simpa using g), hOl⟩
      have hp : put = false := by simpa using g
      exact N1.push s (by omega) fun p4 c4 b4 w4 N4 _ _ => ⟨b4, _, rfl, N4, d2 hp, by have := I1.len0 hp; simp; omega⟩
end Go.Proofs.YtnibmhjdomndbaaGreatDoor
namespace Go.Proofs.YtnibmhjdomndbaaGreatDoor
open Go Go.Sv Go.Rt Go.Sort
set_option linter.unusedVariables false
set_option maxHeartbeats 1000000 in
theorem xmatch_ok {w : World} {x : Nat} {B : List Bd} {p : Option Addr} {c : Nat} {b : Option Nat} {t : ByteArray} {K : Value → World → Prop} (h : XR w x B p c b) (hB : ∀ y ∈ B, isPat y.1 = true ∧ y.1.size ≤ 2 ^ 40) (hl : B.length ≤ 2 ^ 39) (ht : t.size ≤ 2 ^ 40)
    (hk0 : isTop t = false → ∀ w', Ch (fun _ => False) w w' → K (.tuple #[.slice none 0 0, .int .i64 82]) w')
    (hk1 : isTop t = true → ∀ p' c' b' M w', Nw w w' p' c' b' M → Asc M → (∀ q, q ∈ M ↔ leads B t q) → M.length ≤ B.length → K (.tuple #[.slice p' M.length c', .int .i64 0]) w') :
    callP Tryz.prog 21 [.pointer (some ⟨x, 0, none⟩), .string t] w K := by
  refine ok_longshoreref18_Router_Match ?_
  unfold wp_longshoreref18_Router_Match
  refine topic_ok ht fun w1 c1 => ⟨_, rfl, Sif_cases (fun g => hk0 (by simpa using g) _ c1) fun g => ?_⟩
  have hT : isTop t = true := by simpa using g
  refine ⟨fun m p1 n c1 n1 w2 => ∃ (i : Nat) (bb : Option Nat) (M : List ByteArray), n1 = (i : Int) ∧ m + i = B.length ∧ n = M.length ∧ Nw w w2 p1 c1 bb M ∧ Asc M ∧ (∀ q, q ∈ M ↔ leads (B.take i) t q) ∧ M.length ≤ i, ⟨B.length, 0, none, [], rfl, rfl, rfl, ⟨Ow.nil, by simp, c1⟩, by simp [Asc], by simp [leads], by simp⟩, ?_⟩
  rintro m p1 n c1' n1 w2 ⟨i, bb, M, rfl, hm, rfl, N2, hA, hM, hMl⟩
  have R2 := h.new N2.ch
  rw [nn_some]
  refine ⟨p, B.length, c, by simpa using R2.cell, Sif_cases (fun g2 => ?_) fun g2 => ?_⟩
  · have g2 := of_decide_eq_true g2
    obtain ⟨z, hz⟩ : ∃ z, B[i]? = some z := ⟨_, List.getElem?_eq_getElem (by omega)⟩
    have hzB := List.mem_of_getElem? hz
    have hlead : ∀ q, leads (B.take (i + 1)) t q ↔ leads (B.take i) t q ∨ (z.2 = q ∧ Rt.Mp (parts z.1) (parts t)) := fun q => by
      unfold leads
      rw [take_at hz]
      constructor
      · rintro ⟨y, hy, q1, q2⟩
        rcases List.mem_append.1 hy with hy | hy
        · exact .inl ⟨y, hy, q1, q2⟩
        · rw [List.mem_singleton.1 hy] at q1 q2; exact .inr ⟨q1, q2⟩
      · rintro (⟨y, hy, q1, q2⟩ | ⟨q1, q2⟩)
        · exact ⟨y, List.mem_append.2 (.inl hy), q1, q2⟩
        · exact ⟨z, by simp, q1, q2⟩
    refine ⟨fun p2 n3 c2 w3 => ∃ (bb : Option Nat) (M : List ByteArray), n3 = M.length ∧ Nw w w3 p2 c2 bb M ∧ Asc M ∧ (∀ q, q ∈ M ↔ leads (B.take (i + 1)) t q) ∧ M.length ≤ i + 1, ?_, ?_⟩
    · rintro p2 n3 c2 w3 ⟨bb', M', rfl, q1, q2, q3, q4⟩
      rw [nameI_iff, wrap_id (n := (i : Int) + 1) (by omega) (by omega)]
      exact ⟨m - 1, by omega, i + 1, bb', M', by omega, by omega, rfl, q1, q2, q3, q4⟩
    rw [nn_some]
    refine ⟨_, _, _, by simpa using R2.cell, by omega, g2, ?_⟩
    obtain ⟨k, o, rfl, h1, h2⟩ := bAt R2.2.1.rd hz
    simp only [nn_some, add_at, Int.toNat_natCast, Nat.add_zero]
    refine ⟨z.1, h1, fits_ref (hB z hzB).2 ht fun fb e w3 hf c3 => ⟨fb, e, rfl, ?_⟩⟩
    have R3 := R2.new c3
    have N3 : Nw w w3 p1 c1' bb M := ⟨N2.ow.ch c3 fun _ _ => id, N2.new, N2.ch.trans' c3⟩
    have hfit : fb = true ↔ Rt.Mp (parts z.1) (parts t) := by
      rcases fitsR_in hf (hB z hzB).1 with ⟨q, _⟩ | ⟨_, _, q⟩
      · rw [hT] at q; cases q
      · exact q
    refine Sif_cases (fun g3 => ⟨_, _, _, by simpa using R3.cell, by omega, g2, ?_⟩) fun g3 => ⟨bb, M, rfl, N3, hA, fun q => ?_, by omega⟩
    · obtain ⟨k', o', e', _, h4⟩ := bAt R3.2.1.rd hz
      cases e'
      simp only [nn_some, add_at, Int.toNat_natCast]
      refine ⟨z.2, h4, into_ok N3.rd hA (by omega) fun p5 c5 b5 M' w5 N5 hA5 hM5 hl5 => ⟨_, _, _, rfl, b5, M', rfl, ⟨N5.ow, fun j hj => Nat.le_trans N3.ch.size (N5.new j hj), N3.ch.trans' N5.ch⟩, hA5, fun q => ?_, by omega⟩⟩
      rw [hM5, hM, hlead]
      constructor
      · rintro (q | q)
        · exact .inl q
        · exact .inr ⟨q.symm, hfit.1 g3⟩
      · rintro (q | ⟨q, _⟩)
        · exact .inl q
        · exact .inr q.symm
    · rw [hM, hlead]
      constructor
      · exact .inl
      · rintro (q | ⟨_, q⟩)
        · exact q
        · rw [hfit.2 q] at g3; cases g3
  · have g2 := of_decide_eq_false g2
    have hi : i = B.length := by omega
    subst hi
    rw [List.take_length] at hM
    exact hk1 hT _ _ _ _ _ N2 hA hM hMl
theorem ne_of_ltB {a b : Bd} (h : ltB a b) : a ≠ b := fun e => by
  rw [e] at h; exact ltB_irr _ h
set_option maxHeartbeats 2000000 in
theorem xbindings_ok {w : World} {x : Nat} {B : List Bd} {p : Option Addr} {c : Nat} {b : Option Nat} {K : Value → World → Prop} (h : XR w x B p c b) (hl : B.length ≤ 2 ^ 39) (hn : B.Nodup)
    (hk : ∀ p' c' b' w', Nb w w' p' c' b' (sortB B) → K (.slice p' B.length c') w') : callP Tryz.prog 10 [.pointer (some ⟨x, 0, none⟩)] w K := by
  refine ok_longshoreref18_Router_Bindings ?_
  unfold wp_longshoreref18_Router_Bindings
  refine ⟨fun m p1 n c1 n1 w2 => ∃ (i : Nat) (bb : Option Nat) (M : List Bd), n1 = (i : Int) ∧ m + i = B.length ∧ n = M.length ∧ Nb w w2 p1 c1 bb M ∧ AscB M ∧ (∀ q, q ∈ M ↔ q ∈ B.take i) ∧ M.length = i, ⟨B.length, 0, none, [], rfl, rfl, rfl, Nb.nil _, by simp [AscB], by simp, rfl⟩, ?_⟩
  rintro m p1 n c1 n1 w1 ⟨i, bb, M, rfl, hm, rfl, N1, hA, hM, hMl⟩
  have R1 := h.new N1.ch
  rw [nn_some]
  refine ⟨p, B.length, c, by simpa using R1.cell, Sif_cases (fun g2 => ?_) fun g2 => ?_⟩
  · have g2 := of_decide_eq_true g2
    obtain ⟨s, hs⟩ : ∃ z, B[i]? = some z := ⟨_, List.getElem?_eq_getElem (by omega)⟩
    have hsM : s ∉ M := fun q => by
      have := (hM s).1 q
      obtain ⟨q1, q2⟩ := List.getElem?_eq_some_iff.1 hs
      obtain ⟨j, hj, q3⟩ := List.mem_iff_getElem.1 this
      rw [List.getElem_take] at q3
      have := (List.getElem_inj hn).1 (q3.trans q2.symm)
      simp at hj; omega
    rw [nn_some]
    refine ⟨_, _, _, by simpa using R1.cell, by omega, g2, ?_⟩
    obtain ⟨k, o, rfl, h1, h2⟩ := bAt R1.2.1.rd hs
    simp only [nn_some, add_at, Int.toNat_natCast, Nat.add_zero]
    refine ⟨s.1, h1, s.2, h2, newB_blk fun w2 b2 c2 z2 => st_blk (by simpa using b2) (by simp) fun w3 b3 c3 z3 => st_blk b3 (by simp) fun w4 b4 c4 z4 => ?_⟩
    simp only [List.set_cons_zero, List.set_cons_succ] at b4
    generalize hQ : w1.heap.size = Q at *
    have c14 : Ch (fun _ => False) w1 w4 := c2.trans (c3.trans' c4) fun y hy e => by rw [e] at hy; omega
    have hs4 : Q < w4.heap.size := by omega
    have N4 : Nb w w4 p1 c1 bb M := ⟨N1.ow.ch c14 fun _ _ => id, N1.new, N1.ch.trans' c14⟩
    have bS : ∀ w', Ch (fun _ => False) w4 w' → blk w' Q = some [.string s.1, .string s.2] := fun w' c' => by rw [c'.blk (blk_lt b4) id]; exact b4
    have rdM : ∀ w', Ch (fun _ => False) w4 w' → Rd w' p1 M.length 2 (M.flatMap bCells) := fun w' c' => N4.ow.rd.ch c' fun _ _ _ => id
    refine ⟨fun m1 p3 n4 c3 put n5 w5 => ∃ (j : Nat) (b3 : Option Nat) (O : List Bd), n5 = (j : Int) ∧ m1 + j = M.length ∧ n4 = O.length ∧ Nb w4 w5 p3 c3 b3 O ∧ Into ltB M s j put O, ⟨M.length, 0, none, [], rfl, rfl, rfl, Nb.nil _, Into.zero⟩, ?_⟩
    rintro m1 p3 n4 c3' put n5 w5 ⟨j, b3, O, rfl, hm1, rfl, N5, I5⟩
    have hOl := I5.len
    have d5 := Ch.d0 (w := w5)
    have cd := N5.ch.trans' d5
    have N5d : Nb w4 w5.drew p3 c3' b3 O := ⟨N5.ow.ch d5 fun _ _ => id, N5.new, cd⟩
    refine Sif_cases (fun g3 => ?_) fun g3 => ?_
    · have g3 := of_decide_eq_true g3
      obtain ⟨y, hy⟩ : ∃ z, M[j]? = some z := ⟨_, List.getElem?_eq_getElem (by omega)⟩
      have hys : y ≠ s := fun e => hsM (by rw [← e]; exact List.mem_of_getElem? hy)
      obtain ⟨ky, oy, rfl, _, _⟩ := bAt (rdM _ (Ch.refl _ _)) hy
      have rd : ∀ w', Ch (fun _ => False) w4 w' → w'.cell? ⟨ky, oy + j * 2, none⟩ = some (.string y.1) ∧ w'.cell? ⟨ky, oy + j * 2 + 1, none⟩ = some (.string y.2) := fun w' c' => by
        obtain ⟨_, _, e, h3, h4⟩ := bAt (rdM _ c') hy
        cases e; exact ⟨h3, h4⟩
      refine ⟨fun p4 n6 c4 put4 w6 => ∃ (b3 : Option Nat) (O : List Bd), n6 = O.length ∧ Nb w4 w6 p4 c4 b3 O ∧ Into ltB M s (j + 1) put4 O, ?_, ?_⟩
      · rintro p4 n6 c4 put4 w6 ⟨b6, O6, rfl, N6, I6⟩
        rw [nameI_iff, wrap_id (n := (j : Int) + 1) (by omega) (by omega)]
        exact ⟨m1 - 1, by omega, j + 1, b6, O6, by omega, by omega, rfl, N6, I6⟩
      refine ⟨fun p4 n6 c4 put4 w6 => ∃ (b3 : Option Nat) (O : List Bd), n6 = O.length ∧ O.length ≤ j + 1 ∧ Nb w4 w6 p4 c4 b3 O ∧ Into ltB M s (j + 1) put4 (O ++ [y]), ?_, ?_⟩
      · rintro p4 n6 c4 put4 w6 ⟨b6, O6, rfl, hO6, N6, I6⟩
        refine ⟨by omega, g3, ?_⟩
        simp only [nn_some, add_at, Int.toNat_natCast, Nat.add_zero]
        exact ⟨y.1, (rd _ N6.ch).1, y.2, (rd _ N6.ch).2, N6.push y (by omega) fun p7 c7 b7 w7 N7 _ _ => ⟨b7, _, rfl, N7, I6⟩⟩
      have fin : put = false → ltB s y → newB w5.drew [.string s.1, .string s.2] 48 fun a7 w6 => ∃ p4 n6 c4 w7, Sem.run Tryz.prog (Builtin.append_ #[27, 27] 27 #[.slice p3 O.length c3', .slice (some a7) 1 1]) w6 = .ok (.slice p4 n6 c4) w7 ∧ ∃ (b3 : Option Nat) (O : List Bd), n6 = O.length ∧ O.length ≤ j + 1 ∧ Nb w4 w7 p4 c4 b3 O ∧ Into ltB M s (j + 1) true (O ++ [y]) := fun hp hlt => by
        subst hp
        refine N5d.push s (by omega) fun p7 c7 b7 w7 N7 _ _ => ⟨b7, _, rfl, by have := I5.len0 rfl; simp; omega, N7, ?_⟩
        exact (I5.put hA (fun a b => ltB_trans a b) hy hlt).step hA hy fun e => by cases e
      have stay : (put = false → ltB y s) → ∀ w6, Ch (fun _ => False) w5 w6 → ∃ (b3 : Option Nat) (O' : List Bd), O.length = O'.length ∧ O'.length ≤ j + 1 ∧ Nb w4 w6 p3 c3' b3 O' ∧ Into ltB M s (j + 1) put (O' ++ [y]) := fun hlt w6 c6 =>
        ⟨b3, O, rfl, hOl, ⟨N5.ow.ch c6 fun _ _ => id, N5.new, N5.ch.trans' c6⟩, I5.step hA hy hlt⟩
      refine Sif_cases (fun g4 => ?_) fun g4 => stay (fun e => by rw [e] at g4; cases g4) _ d5
      have hp : put = false := by simpa using g4
      refine ⟨by omega, g3, ?_⟩
      simp only [nn_some, add_at, Int.toNat_natCast, Nat.add_zero, Nat.zero_add]
      have s0 : w5.drew.cell? ⟨Q, 0, none⟩ = some (.string s.1) := by simpa using cell_blk (bS _ cd) 0
      have s1 : w5.drew.cell? ⟨Q, 1, none⟩ = some (.string s.2) := by simpa using cell_blk (bS _ cd) 1
      refine ⟨y.1, (rd _ cd).1, s.1, s0, ?_⟩
      rw [grtD]
      refine Sif_cases (fun g5 => ⟨by omega, g3, y.1, (rd _ cd).1, s.1, s0, ?_⟩) fun g5 => ?_
      · have g5 : ¬ dl s.1 < dl y.1 := by simpa using g5
        rw [beq_ba]
        refine Sif_cases (fun g6 => ⟨by omega, g3, y.2, (rd _ cd).2, s.2, s1, ?_⟩) fun g6 => stay (fun _ => ?_) _ d5
        · have g6 := eq_of_beq g6
          rw [grtD]
          refine Sif_cases (fun g7 => ⟨s.1, s0, s.2, s1, fin hp (.inr ⟨g6.symm, of_decide_eq_true g7⟩)⟩) fun g7 => stay (fun _ => ?_) _ d5
          have g7 := of_decide_eq_false g7
          rcases ltB_tri y s with q | q | q
          · exact q
          · exact absurd q hys
          · rcases q with q | ⟨_, q⟩
            · exact absurd q g5
            · exact absurd q g7
        · have g6 := beq_eq_false_iff_ne.1 g6
          rcases ltB_tri y s with q | q | q
          · exact q
          · exact absurd q hys
          · rcases q with q | ⟨q, _⟩
            · exact absurd q g5
            · exact absurd q.symm g6
      · have g5 : dl s.1 < dl y.1 := by simpa using g5
        exact ⟨s.1, s0, s.2, s1, fin hp (.inl g5)⟩
    · have g3 := of_decide_eq_false g3
      have hj : j = M.length := by omega
      subst hj
      obtain ⟨e1, e2⟩ := I5.done
      refine ⟨fun p4 n6 c4 w6 => ∃ (b3 : Option Nat) (O : List Bd), n6 = O.length ∧ Nb w4 w6 p4 c4 b3 O ∧ (O.Pairwise ltB ∧ ∀ z, z ∈ O ↔ z ∈ M ∨ z = s), ?_, ?_⟩
      · rintro p4 n6 c4 w6 ⟨b6, O6, rfl, N6, A6, M6⟩
        have hO6 : O6.length = i + 1 := by
          have p1 : O6.Perm (s :: M) := by
            refine (List.perm_ext_iff_of_nodup (A6.imp fun {a b} q => ne_of_ltB q) (List.nodup_cons.2 ⟨hsM, hA.imp fun {a b} q => ne_of_ltB q⟩)).2 fun z => ?_
            rw [M6, List.mem_cons]
            exact Or.comm
          rw [p1.length_eq, List.length_cons, hMl]
        rw [nameI_iff, wrap_id (n := (i : Int) + 1) (by omega) (by omega)]
        refine ⟨m - 1, by omega, i + 1, b6, O6, by omega, by omega, rfl, ⟨N6.ow, fun k hk => by have := N6.new k hk; have := N4.ch.size; omega, N4.ch.trans' N6.ch⟩, A6, fun z => ?_, hO6⟩
        rw [M6, hM, take_at hs, List.mem_append, List.mem_singleton]
      · refine Sif_cases (fun g4 => ?_) fun g4 => ⟨b3, O, rfl, N5, e1 (by simpa using g4)⟩
        have hp : put = false := by simpa using g4
        refine ⟨s.1, by simpa using cell_blk (bS _ N5.ch) 0, s.2, by simpa using cell_blk (bS _ N5.ch) 1, N5.push s (by omega) fun p7 c7 b7 w7 N7 _ _ => ⟨b7, _, rfl, N7, e2 hp⟩⟩
  · have g2 := of_decide_eq_false g2
    have hi : i = B.length := by omega
    subst hi
    rw [List.take_length] at hM
    have e : M = sortB B := hA.eq (sortB_asc hn) fun z => by rw [hM, sortB_mem]
    rw [e] at N1
    rw [hMl]
    exact hk _ _ _ _ N1
end Go.Proofs.YtnibmhjdomndbaaGreatDoor
