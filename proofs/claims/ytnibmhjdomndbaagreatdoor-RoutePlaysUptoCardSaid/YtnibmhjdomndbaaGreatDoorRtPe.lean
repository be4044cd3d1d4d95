/-
  RoutePlays: marks; whether two lists are the same; what was told. RoutePlays: what was told is its owner's. RoutePlays: one call on both routers. RoutePlays: a call on both routers; the whole script. RoutePlays: the whole script.
-/
import Derived.Test.YtnibmhjdomndbaaGreatDoorRtZa
import Derived.Test.YtnibmhjdomndbaaGreatDoorSvPool
namespace Go.Proofs.YtnibmhjdomndbaaGreatDoor
open Go Go.Sv Go.Rt Go.Sort
set_option linter.unusedVariables false
def markB (x : Int) : UInt8 := (IntKind.wrap .u8 x).toNat.toUInt8
theorem markB_eq (x : Int) : IntKind.wrap .u8 x = ((markB x).toNat : Int) := by
  have h1 : 0 ≤ IntKind.wrap .u8 x ∧ IntKind.wrap .u8 x < 256 := by
    unfold IntKind.wrap
    simp [IntKind.bits, IntKind.signed]
    omega
  unfold markB
  rw [Nat.toUInt8_eq, UInt8.toNat_ofNat']
  omega
/-- the n-th list's mark -/
def markS (n : Int) : ByteArray := ⟨#[109, 97, 114, 107, 32]⟩ ++ ⟨[markB (IntKind.wrap .i64 (65 + Int.tmod n 26)), markB (IntKind.wrap .i64 (65 + Int.tmod (IntKind.wrap .i64 (Int.tdiv n 26)) 26)), markB (IntKind.wrap .i64 (65 + Int.tmod (IntKind.wrap .i64 (Int.tdiv n 676)) 26))].toArray⟩
theorem mark_ok {n : Int} {w : World} {K : Value → World → Prop} (hk : ∀ w', Ch (fun _ => False) w w' → K (.string (markS n)) w') : callP Tryz.prog 23 [.int .i64 n] w K := by
  refine ok_longshorelaw18_mark ?_
  unfold wp_longshorelaw18_mark
  rw [markB_eq, markB_eq, markB_eq]
  refine ⟨by decide, by decide, by decide, by decide, by decide, newB_blk fun w1 b1 c1 z1 => ?_⟩
  have hr : Rd w1 (some ⟨w.heap.size, 0, none⟩) 3 1 (bytesV [markB (IntKind.wrap .i64 (65 + Int.tmod n 26)), markB (IntKind.wrap .i64 (65 + Int.tmod (IntKind.wrap .i64 (Int.tdiv n 26)) 26)), markB (IntKind.wrap .i64 (65 + Int.tmod (IntKind.wrap .i64 (Int.tdiv n 676)) 26))]) :=
    ⟨rfl, .inr ⟨_, 0, _, rfl, blk_cells b1, by simp, rfl⟩⟩
  refine ⟨_, toString_run Tryz.underlying57 Tryz.underlying5 Tryz.underlying9 hr, by show (((5 + 3 : Nat) : Nat) : Int) ≤ _; decide, hk w1 c1⟩
theorem sames_ok {w : World} {p q : Option Addr} {c d : Nat} {L M : List ByteArray} {K : Value → World → Prop} (hL : Rd w p L.length 1 (L.flatMap sCell)) (hM : Rd w q M.length 1 (M.flatMap sCell)) (hl : L.length ≤ 2 ^ 40) (he : L = M)
    (hk : ∀ w', Ch (fun _ => False) w w' → K (.bool true) w') : callP Tryz.prog 22 [.slice p L.length c, .slice q M.length d] w K := by
  subst he
  refine ok_longshorelaw18_sames ?_
  unfold wp_longshorelaw18_sames
  rw [bne_self_eq_false]
  refine Sif_false ⟨fun m n w1 => ∃ i : Nat, n = (i : Int) ∧ m + i = L.length ∧ Ch (fun _ => False) w w1, ⟨L.length, 0, rfl, rfl, Ch.refl _ _⟩, ?_⟩
  rintro m n w1 ⟨i, rfl, hm, c1⟩
  refine Sif_cases (fun h => ?_) fun h => hk _ c1
  have h := of_decide_eq_true h
  obtain ⟨x, hx⟩ : ∃ x, L[i]? = some x := ⟨_, List.getElem?_eq_getElem (by omega)⟩
  have cd := c1.trans' (Ch.d0 (w := w1))
  obtain ⟨k, o, rfl, h1⟩ := sAt (Rd_d hL cd) hx
  obtain ⟨k', o', rfl, h2⟩ := sAt (Rd_d hM cd) hx
  refine ⟨by omega, h, ?_⟩
  rw [nn_some]
  refine ⟨by omega, h, ?_⟩
  rw [nn_some]
  simp only [add_at, Int.toNat_natCast, Nat.mul_one]
  refine ⟨x, h1, x, h2, ?_⟩
  rw [str_eq_self]
  refine Sif_false ?_
  rw [nameI_iff, wrap_id (n := (i : Int) + 1) (by omega) (by omega)]
  exact ⟨m - 1, by omega, i + 1, by omega, by omega, cd⟩
theorem blike_ok {w : World} {p q : Option Addr} {c d : Nat} {L M : List Bd} {K : Value → World → Prop} (hL : Rd w p L.length 2 (L.flatMap bCells)) (hM : Rd w q M.length 2 (M.flatMap bCells)) (hl : L.length ≤ 2 ^ 40) (he : L = M)
    (hk : ∀ w', Ch (fun _ => False) w w' → K (.bool true) w') : callP Tryz.prog 8 [.slice p L.length c, .slice q M.length d] w K := by
  subst he
  refine ok_longshorelaw18_alike ?_
  unfold wp_longshorelaw18_alike
  rw [bne_self_eq_false]
  refine Sif_false ⟨fun m n w1 => ∃ i : Nat, n = (i : Int) ∧ m + i = L.length ∧ Ch (fun _ => False) w w1, ⟨L.length, 0, rfl, rfl, Ch.refl _ _⟩, ?_⟩
  rintro m n w1 ⟨i, rfl, hm, c1⟩
  refine Sif_cases (fun h => ?_) fun h => hk _ c1
  have h := of_decide_eq_true h
  obtain ⟨x, hx⟩ : ∃ x, L[i]? = some x := ⟨_, List.getElem?_eq_getElem (by omega)⟩
  have cd := c1.trans' (Ch.d0 (w := w1))
  obtain ⟨k, o, rfl, h1, h3⟩ := bAt (hL.ch cd fun _ _ _ => id) hx
  obtain ⟨k', o', rfl, h2, h4⟩ := bAt (hM.ch cd fun _ _ _ => id) hx
  refine ⟨fun w2 => Ch (fun _ => False) w w2, fun w2 c2 => ?_, by omega, h, ?_⟩
  · rw [nameI_iff, wrap_id (n := (i : Int) + 1) (by omega) (by omega)]
    exact ⟨m - 1, by omega, i + 1, by omega, by omega, c2⟩
  rw [nn_some]
  refine ⟨by omega, h, ?_⟩
  rw [nn_some]
  simp only [add_at, Int.toNat_natCast, Nat.add_zero, nn_some]
  refine ⟨x.1, h1, x.1, h2, ?_⟩
  rw [str_eq_self]
  refine Sif_true ⟨by omega, h, by omega, h, x.2, h3, x.2, h4, ?_⟩
  rw [str_eq_self]
  exact Sif_false cd
theorem texts_info : InfoIs Tryz.prog 49 1 24 (.slice none 0 0) := .of (by kernel_rfl) (by kernel_rfl) (by kernel_rfl)
theorem bindss_info : InfoIs Tryz.prog 27 1 24 (.slice none 0 0) := .of (by kernel_rfl) (by kernel_rfl) (by kernel_rfl)
/-- what was told: lists of texts, lists of bindings -/
structure Told (w : World) (a : Nat) (p1 : Option Addr) (c1 : Nat) (b1 : Option Nat) (T1 : List SL) (p2 : Option Addr) (c2 : Nat) (b2 : Option Nat) (T2 : List SL) : Prop where
  head : blk w a = some [.slice p1 T1.length c1, .slice p2 T2.length c2]
  row1 : Ow w p1 T1.length c1 1 (T1.flatMap SL.cells) b1
  row2 : Ow w p2 T2.length c2 1 (T2.flatMap SL.cells) b2
  l1 : ∃ C : Nat → List ByteArray, Rws sCell 1 w T1 C
  l2 : ∃ C : Nat → List Bd, Rws bCells 2 w T2 C
/-- each block has a tag -/
structure Tags (tg : Nat → Nat × Nat) (a : Nat) (b1 : Option Nat) (T1 : List SL) (b2 : Option Nat) (T2 : List SL) : Prop where
  ta : tg a = (0, 0)
  t1 : ∀ k, b1 = some k → tg k = (1, 0)
  t2 : ∀ k, b2 = some k → tg k = (2, 0)
  l1 : ∀ j x k, T1[j]? = some x → x.own = some k → tg k = (3, j)
  l2 : ∀ j x k, T2[j]? = some x → x.own = some k → tg k = (4, j)
def Own (T : List SL) (b : Nat) : Prop := ∃ x ∈ T, x.own = some b
theorem Own.at {T : List SL} {b : Nat} (h : Own T b) : ∃ (j : Nat) (x : SL), T[j]? = some x ∧ x.own = some b := by
  obtain ⟨x, hx, hb⟩ := h
  obtain ⟨j, hj, e⟩ := List.mem_iff_getElem.1 hx
  exact ⟨j, x, by rw [List.getElem?_eq_getElem hj, e], hb⟩
theorem Tags.o1 {tg : Nat → Nat × Nat} {a : Nat} {b1 : Option Nat} {T1 : List SL} {b2 : Option Nat} {T2 : List SL} (G : Tags tg a b1 T1 b2 T2) {b : Nat} (h : Own T1 b) : ∃ j, tg b = (3, j) := by
  obtain ⟨j, x, h1, h2⟩ := h.at
  exact ⟨j, G.l1 j x b h1 h2⟩
theorem Tags.o2 {tg : Nat → Nat × Nat} {a : Nat} {b1 : Option Nat} {T1 : List SL} {b2 : Option Nat} {T2 : List SL} (G : Tags tg a b1 T1 b2 T2) {b : Nat} (h : Own T2 b) : ∃ j, tg b = (4, j) := by
  obtain ⟨j, x, h1, h2⟩ := h.at
  exact ⟨j, G.l2 j x b h1 h2⟩
theorem Tags.n1 {tg : Nat → Nat × Nat} {a : Nat} {b1 : Option Nat} {T1 : List SL} {b2 : Option Nat} {T2 : List SL} (G : Tags tg a b1 T1 b2 T2) (j k : Nat) (x y : SL) (b : Nat) (hjk : j ≠ k) (hx : T1[j]? = some x) (hy : T1[k]? = some y) (hb : x.own = some b) : y.own ≠ some b := fun e => by
  have h1 := G.l1 j x b hx hb
  have h2 := G.l1 k y b hy e
  rw [h1] at h2
  exact hjk (congrArg Prod.snd h2)
theorem Tags.n2 {tg : Nat → Nat × Nat} {a : Nat} {b1 : Option Nat} {T1 : List SL} {b2 : Option Nat} {T2 : List SL} (G : Tags tg a b1 T1 b2 T2) (j k : Nat) (x y : SL) (b : Nat) (hjk : j ≠ k) (hx : T2[j]? = some x) (hy : T2[k]? = some y) (hb : x.own = some b) : y.own ≠ some b := fun e => by
  have h1 := G.l2 j x b hx hb
  have h2 := G.l2 k y b hy e
  rw [h1] at h2
  exact hjk (congrArg Prod.snd h2)
end Go.Proofs.YtnibmhjdomndbaaGreatDoor
namespace Go.Proofs.YtnibmhjdomndbaaGreatDoor
open Go Go.Sv Go.Rt Go.Sort
set_option linter.unusedVariables false
def goodT : World → (Nat → Prop) → Nat → ByteArray → Prop := fun _ _ j y => y = markS j
theorem goodT_st : Stays goodT := ⟨fun h _ _ => h⟩
def goodB (n : Int) : World → (Nat → Prop) → Nat → Bd → Prop := fun _ _ j y => y = (markS (n + j), markS j)
theorem goodB_st (n : Int) : Stays (goodB n) := ⟨fun h _ _ => h⟩
theorem all_filled {α : Type} {C : List α} {y0 : α} {n : Nat} (hl : C.length = n) (h : ∀ k y, k < n → C[k]? = some y → y = y0) : ∀ y ∈ C, y = y0 := fun y hy => by
  obtain ⟨k, hk, e⟩ := List.mem_iff_getElem.1 hy
  exact h k y (by omega) (by rw [List.getElem?_eq_getElem hk, e])
set_option maxHeartbeats 8000000 in
theorem owned_ok {w : World} {tg : Nat → Nat × Nat} {a : Nat} {p1 : Option Addr} {c1 : Nat} {b1 : Option Nat} {T1 : List SL} {p2 : Option Addr} {c2 : Nat} {b2 : Option Nat} {T2 : List SL} {K : Value → World → Prop}
    (H : Told w a p1 c1 b1 T1 p2 c2 b2 T2) (G : Tags tg a b1 T1 b2 T2) (hT1 : T1.length ≤ 2 ^ 30) (hT2 : T2.length ≤ 2 ^ 30) (hs1 : ∀ x ∈ T1, x.n ≤ 2 ^ 30) (hs2 : ∀ x ∈ T2, x.n ≤ 2 ^ 30)
    (hk : ∀ w', Ch (fun b => Own T1 b ∨ Own T2 b) w w' → K (.bool true) w') : callP Tryz.prog 7 [.pointer (some ⟨a, 0, none⟩)] w K := by
  refine ok_longshorelaw18_told_owned ?_
  unfold wp_longshorelaw18_told_owned
  have na : ¬ (Own T1 a ∨ Own T2 a) := by
    rintro (h | h)
    · obtain ⟨j, e⟩ := G.o1 h; rw [G.ta] at e; cases e
    · obtain ⟨j, e⟩ := G.o2 h; rw [G.ta] at e; cases e
  have nb1 : ∀ k, b1 = some k → ¬ (Own T1 k ∨ Own T2 k) := fun k hk => by
    rintro (h | h)
    · obtain ⟨j, e⟩ := G.o1 h; rw [G.t1 k hk] at e; cases e
    · obtain ⟨j, e⟩ := G.o2 h; rw [G.t1 k hk] at e; cases e
  have nb2 : ∀ k, b2 = some k → ¬ (Own T1 k ∨ Own T2 k) := fun k hk => by
    rintro (h | h)
    · obtain ⟨j, e⟩ := G.o1 h; rw [G.t2 k hk] at e; cases e
    · obtain ⟨j, e⟩ := G.o2 h; rw [G.t2 k hk] at e; cases e
  have n12 : ∀ b, Own T1 b → ¬ Own T2 b := fun b h k => by
    obtain ⟨j, e⟩ := G.o1 h
    obtain ⟨j', e'⟩ := G.o2 k
    rw [e] at e'; cases e'
  have hd : ∀ w', Ch (fun b => Own T1 b ∨ Own T2 b) w w' → w'.cell? ⟨a, 0, none⟩ = some (.slice p1 T1.length c1) ∧ w'.cell? ⟨a, 1, none⟩ = some (.slice p2 T2.length c2) := fun w' c => by
    have : blk w' a = some [.slice p1 T1.length c1, .slice p2 T2.length c2] := by rw [c.blk (blk_lt H.head) na]; exact H.head
    exact ⟨by simpa using cell_blk this 0, by simpa using cell_blk this 1⟩
  have r1 : ∀ w', Ch (fun b => Own T1 b ∨ Own T2 b) w w' → Rd w' p1 T1.length 1 (T1.flatMap SL.cells) := fun w' c => (H.row1.ch c nb1).rd
  have r2 : ∀ w', Ch (fun b => Own T1 b ∨ Own T2 b) w w' → Rd w' p2 T2.length 1 (T2.flatMap SL.cells) := fun w' c => (H.row2.ch c nb2).rd
  have x1 : ∀ i x, T1[i]? = some x → ∃ k o, p1 = some ⟨k, o, none⟩ ∧ ∀ w', Ch (fun b => Own T1 b ∨ Own T2 b) w w' → w'.cell? ⟨k, o + i, none⟩ = some (.slice x.p x.n x.c) := fun i x hx => by
    obtain ⟨k, o, e, _⟩ := SL.at (r1 w (Ch.refl _ _)) hx
    refine ⟨k, o, e, fun w' c => ?_⟩
    obtain ⟨k', o', e', h⟩ := SL.at (r1 w' c) hx
    rw [e] at e'; cases e'; exact h
  have x2 : ∀ i x, T2[i]? = some x → ∃ k o, p2 = some ⟨k, o, none⟩ ∧ ∀ w', Ch (fun b => Own T1 b ∨ Own T2 b) w w' → w'.cell? ⟨k, o + i, none⟩ = some (.slice x.p x.n x.c) := fun i x hx => by
    obtain ⟨k, o, e, _⟩ := SL.at (r2 w (Ch.refl _ _)) hx
    refine ⟨k, o, e, fun w' c => ?_⟩
    obtain ⟨k', o', e', h⟩ := SL.at (r2 w' c) hx
    rw [e] at e'; cases e'; exact h
  have d0 : ∀ w' : World, Ch (fun b => Own T1 b ∨ Own T2 b) w w' → Ch (fun b => Own T1 b ∨ Own T2 b) w w'.drew := fun w' c => c.new Ch.d0
  obtain ⟨C10, hC10⟩ := H.l1
  obtain ⟨C20, hC20⟩ := H.l2
  rw [nn_some]
  refine ⟨p1, T1.length, c1, by simpa using (hd w (Ch.refl _ _)).1, ?_⟩
  refine ⟨fun m n1 w1 => ∃ (i : Nat) (C : Nat → List ByteArray), n1 = (i : Int) ∧ m + i = T1.length ∧ Rws sCell 1 w1 T1 C ∧ (∀ j, j < i → ∀ y ∈ C j, y = markS j) ∧ Ch (Own T1) w w1, ⟨T1.length, 0, C10, rfl, rfl, hC10, fun j hj => by omega, Ch.refl _ _⟩, ?_⟩
  rintro m n1 wA ⟨i, C, rfl, hm, hC, hmk, cA⟩
  have cA' := cA.mono (S' := fun b => Own T1 b ∨ Own T2 b) fun _ _ h => .inl h
  refine Sif_cases (fun g => ?_) fun g => ?_
  · -- the texts are written full
    have g := of_decide_eq_true g
    obtain ⟨x, hx⟩ : ∃ x, T1[i]? = some x := ⟨_, List.getElem?_eq_getElem (by omega)⟩
    obtain ⟨kr, orr, rfl, hrow⟩ := x1 i x hx
    have hxn := hs1 x (List.mem_of_getElem? hx)
    refine ⟨fun m1 n2 w2 => ∃ (k : Nat) (C : Nat → List ByteArray), n2 = (k : Int) ∧ m1 + k = x.n ∧ Rws sCell 1 w2 T1 C ∧ (∀ j, j < i → ∀ y ∈ C j, y = markS j) ∧ (∀ k' y, k' < k → (C i)[k']? = some y → y = markS i) ∧ Ch (Own T1) w w2, ⟨x.n, 0, C, rfl, rfl, hC, hmk, fun k' y h => by omega, cA⟩, ?_⟩
    rintro m1 n2 w2 ⟨k, C, rfl, hm1, hC, hmk, hfill, c2⟩
    have c2' := c2.mono (S' := fun b => Own T1 b ∨ Own T2 b) fun _ _ h => .inl h
    rw [nn_some]
    refine ⟨_, _, _, by simpa using (hd w2 c2').1, by omega, g, ?_⟩
    simp only [nn_some, add_at, Int.toNat_natCast, Nat.mul_one, Nat.add_zero]
    refine ⟨x.p, x.n, x.c, hrow w2 c2', Sif_cases (fun g2 => ?_) fun g2 => ?_⟩
    · have g2 := of_decide_eq_true g2
      refine ⟨_, _, _, (hd _ (d0 _ c2')).1, by omega, g, ?_⟩
      simp only [nn_some, add_at]
      refine ⟨x.p, x.n, x.c, hrow _ (d0 _ c2'), mark_ok fun w3 c3 => ⟨_, rfl, ⟨_, _, _, hrow _ ((d0 _ c2').new c3), rfl⟩, ⟨_, _, _, (hd _ ((d0 _ c2').new c3)).1, rfl⟩, by omega, g2, ?_⟩⟩
      have hCl := (hC i x hx).2
      obtain ⟨y, hy⟩ : ∃ y, (C i)[k]? = some y := ⟨_, List.getElem?_eq_getElem (by omega)⟩
      have cd : Ch (fun _ => False) w2 w3 := (Ch.d0 (w := w2)).trans' c3
      have hC3 := hC.ch cd fun _ _ _ _ => id
      obtain ⟨kb, o, hp, hown, hst⟩ := hC3.st sCell_len G.n1 hx hy (by decide)
      rw [hp, nn_some]
      simp only [add_at]
      refine hst 0 _ (.string (markS i)) (markS i) _ (by decide) (by omega) rfl fun w4 hC4 c4 z4 => ?_
      rw [nameI_iff, wrap_id (n := (k : Int) + 1) (by omega) (by omega)]
      refine ⟨m1 - 1, by omega, k + 1, _, by omega, by omega, hC4, fun j hj z hz => ?_, fun k' z hk' hz => ?_, (c2.new cd).trans c4 fun b hb e => by rw [e]; exact ⟨x, List.mem_of_getElem? hx, hown⟩⟩
      · rw [if_neg (by omega)] at hz
        exact hmk j hj z hz
      · rw [if_pos rfl, List.getElem?_set] at hz
        by_cases e : k = k'
        · rw [if_pos e, if_pos (by omega)] at hz
          exact (Option.some.inj hz).symm
        · rw [if_neg e] at hz
          exact hfill k' z (by omega) hz
    · have g2 := of_decide_eq_false g2
      rw [nameI_iff, wrap_id (n := (i : Int) + 1) (by omega) (by omega)]
      refine ⟨m - 1, by omega, i + 1, C, by omega, by omega, hC, fun j hj y hy => ?_, c2⟩
      by_cases e : j = i
      · subst e
        exact all_filled (hC j x hx).2 (fun k' y hk' hy' => hfill k' y (by omega) hy') y hy
      · exact hmk j (by omega) y hy
  have g := of_decide_eq_false g
  have hi : i = T1.length := by omega
  subst hi
  -- the bindings are written full
  have hC20A : Rws bCells 2 wA T2 C20 := hC20.ch cA fun x hx b hb h => n12 b h ⟨x, hx, hb⟩
  refine ⟨fun m n1 w1 => ∃ (i : Nat) (D : Nat → List Bd), n1 = (i : Int) ∧ m + i = T2.length ∧ Rws bCells 2 w1 T2 D ∧ (∀ j, j < i → ∀ y ∈ D j, y = (markS ((T1.length : Int) + j), markS j)) ∧ Ch (Own T2) wA w1, ⟨T2.length, 0, C20, rfl, rfl, hC20A, fun j hj => by omega, Ch.refl _ _⟩, ?_⟩
  rintro m2 n2 wB ⟨i, D, rfl, hm2, hD, hmkD, cB⟩
  have cB' : Ch (fun b => Own T1 b ∨ Own T2 b) w wB := cA'.trans' (cB.mono fun _ _ h => .inr h)
  rw [nn_some]
  refine ⟨_, _, _, by simpa using (hd _ cB').2, Sif_cases (fun g2 => ?_) fun g2 => ?_⟩
  · have g2 := of_decide_eq_true g2
    obtain ⟨x, hx⟩ : ∃ x, T2[i]? = some x := ⟨_, List.getElem?_eq_getElem (by omega)⟩
    obtain ⟨kr, orr, rfl, hrow⟩ := x2 i x hx
    have hxn := hs2 x (List.mem_of_getElem? hx)
    refine ⟨fun m1 n4 w3 => ∃ (k : Nat) (D : Nat → List Bd), n4 = (k : Int) ∧ m1 + k = x.n ∧ Rws bCells 2 w3 T2 D ∧ (∀ j, j < i → ∀ y ∈ D j, y = (markS ((T1.length : Int) + j), markS j)) ∧ (∀ k' y, k' < k → (D i)[k']? = some y → y = (markS ((T1.length : Int) + i), markS i)) ∧ Ch (Own T2) wA w3, ⟨x.n, 0, D, rfl, rfl, hD, hmkD, fun k' y h => by omega, cB⟩, ?_⟩
    rintro m1 n4 w3 ⟨k, D, rfl, hm1, hD, hmkD, hfill, c3⟩
    have c3' : Ch (fun b => Own T1 b ∨ Own T2 b) w w3 := cA'.trans' (c3.mono fun _ _ h => .inr h)
    rw [nn_some]
    refine ⟨_, _, _, by simpa using (hd _ c3').2, by omega, g2, ?_⟩
    simp only [nn_some, add_at, Int.toNat_natCast, Nat.mul_one, Nat.add_zero, Nat.zero_add]
    refine ⟨x.p, x.n, x.c, hrow _ c3', Sif_cases (fun g3 => ?_) fun g3 => ?_⟩
    · have g3 := of_decide_eq_true g3
      refine ⟨_, _, _, (hd _ (d0 _ c3')).2, by omega, g2, ?_⟩
      simp only [nn_some, add_at]
      rw [wrap_id (n := (T1.length : Int) + (i : Int)) (by omega) (by omega)]
      refine ⟨x.p, x.n, x.c, hrow _ (d0 _ c3'), mark_ok fun w4 c4 => ⟨_, rfl, ⟨_, _, _, hrow _ ((d0 _ c3').new c4), rfl⟩, ⟨_, _, _, (hd _ ((d0 _ c3').new c4)).2, rfl⟩, mark_ok fun w5 c5 => ⟨_, rfl, ⟨_, _, _, hrow _ (((d0 _ c3').new c4).new c5), rfl⟩, ⟨_, _, _, (hd _ (((d0 _ c3').new c4).new c5)).2, rfl⟩, by omega, g3, ?_⟩⟩⟩
      have hDl := (hD i x hx).2
      obtain ⟨y, hy⟩ : ∃ y, (D i)[k]? = some y := ⟨_, List.getElem?_eq_getElem (by omega)⟩
      have cd : Ch (fun _ => False) w3 w5 := (Ch.d0 (w := w3)).trans' (c4.trans' c5)
      have hD3 := hD.ch cd fun _ _ _ _ => id
      obtain ⟨kb, o, hp, hown, hst⟩ := hD3.st bCells_len G.n2 hx hy (by decide)
      rw [hp, nn_some]
      simp only [add_at]
      refine hst 0 _ (.string (markS ((T1.length : Int) + i))) (markS ((T1.length : Int) + i), y.2) _ (by decide) (by omega) rfl fun w6 hD6 c6 z6 => ?_
      have hy6 : ((fun m => if m = i then (D i).set k (markS ((T1.length : Int) + i), y.2) else D m) i)[k]? = some (markS ((T1.length : Int) + i), y.2) := by
        simp only [if_pos]
        rw [List.getElem?_set, if_pos rfl, if_pos (by omega)]
      obtain ⟨kb', o', hp', _, hst'⟩ := hD6.st bCells_len G.n2 hx hy6 (by decide)
      rw [hp] at hp'; cases hp'
      refine hst' 1 _ (.string (markS i)) (markS ((T1.length : Int) + i), markS i) _ (by decide) (by omega) rfl fun w7 hD7 c7 z7 => ?_
      rw [nameI_iff, wrap_id (n := (k : Int) + 1) (by omega) (by omega)]
      refine ⟨m1 - 1, by omega, k + 1, _, by omega, by omega, hD7, fun j hj z hz => ?_, fun k' z hk' hz => ?_, (c3.new cd).trans (c6.trans' c7) fun b hb e => by rw [e]; exact ⟨x, List.mem_of_getElem? hx, hown⟩⟩
      · rw [if_neg (by omega), if_neg (by omega)] at hz
        exact hmkD j hj z hz
      · simp only [if_pos] at hz
        rw [List.getElem?_set, List.length_set] at hz
        by_cases e : k = k'
        · rw [if_pos e, if_pos (by omega)] at hz
          exact (Option.some.inj hz).symm
        · rw [if_neg e, List.getElem?_set, if_neg e] at hz
          exact hfill k' z (by omega) hz
    · have g3 := of_decide_eq_false g3
      rw [nameI_iff, wrap_id (n := (i : Int) + 1) (by omega) (by omega)]
      refine ⟨m2 - 1, by omega, i + 1, D, by omega, by omega, hD, fun j hj y hy => ?_, c3⟩
      by_cases e : j = i
      · subst e
        exact all_filled (hD j x hx).2 (fun k' y hk' hy' => hfill k' y (by omega) hy') y hy
      · exact hmkD j (by omega) y hy
  have g2 := of_decide_eq_false g2
  have hi : i = T2.length := by omega
  subst hi
  -- the texts are grown
  have hCB : Rws sCell 1 wB T1 C := hC.ch cB fun x hx b hb h => n12 b ⟨x, hx, hb⟩ h
  have S0 : Gs sCell 1 goodT wB wB T1 0 none 0 none [] (fun k => k / 8) := Gs.begin _ (fun j x hx => ⟨C j, (hCB j x hx).1, (hCB j x hx).2, fun y hy => hmk j (by have := (List.getElem?_eq_some_iff.1 hx).1; omega) y hy⟩) G.n1
  refine ⟨fun m p n c n5 w3 => ∃ (i : Nat) (gb : Option Nat) (Gl : List SL), n5 = (i : Int) ∧ m + i = T1.length ∧ n = Gl.length ∧ Gs sCell 1 goodT wB w3 T1 i p c gb Gl (fun k => k / 8) ∧ Gl.length = 8 * i, ⟨T1.length, 0, none, [], rfl, rfl, rfl, S0, rfl⟩, ?_⟩
  rintro m3 pg ng cg n5 wC ⟨i, gb, Gl, rfl, hm3, rfl, SC, hGl⟩
  have cC' : Ch (fun b => Own T1 b ∨ Own T2 b) w wC := cB'.trans' (SC.b.ch.mono fun _ _ h => .inl h)
  refine Sif_cases (fun g3 => ?_) fun g3 => ?_
  · have g3 := of_decide_eq_true g3
    obtain ⟨x, hx⟩ : ∃ x, T1[i]? = some x := ⟨_, List.getElem?_eq_getElem (by omega)⟩
    obtain ⟨kr, orr, rfl, hrow⟩ := x1 i x hx
    have hxn := hs1 x (List.mem_of_getElem? hx)
    rw [nn_some]
    refine ⟨_, _, _, by simpa using (hd _ cC').1, by omega, g3, ?_⟩
    simp only [nn_some, add_at, Int.toNat_natCast, Nat.mul_one]
    refine ⟨x.p, x.n, x.c, hrow _ cC', ?_⟩
    obtain ⟨xs0, R0⟩ := SC.start goodT_st hx
    refine ⟨fun m pg ng cg pl nl cl n10 w4 => ∃ (k : Nat) (cur : SL) (xs : List ByteArray) (gb : Option Nat) (Gl : List SL), n10 = (k : Int) ∧ m + k = 8 ∧ pl = cur.p ∧ nl = cur.n ∧ cl = cur.c ∧ ng = Gl.length ∧ Gr sCell 1 goodT wB w4 T1 i cur xs pg cg gb Gl (fun k => k / 8) ∧ Gl.length = 8 * i + k ∧ cur.n ≤ x.n + k,
      ⟨8, 0, x, xs0, gb, Gl, rfl, rfl, rfl, rfl, rfl, rfl, R0, by omega, by omega⟩, ?_⟩
    rintro m4 pg ng cg pl nl cl n10 w4 ⟨k, cur, xs, gb, Gl, rfl, hm4, rfl, rfl, rfl, rfl, R4, hGl4, hcur⟩
    refine Sif_cases (fun g4 => ?_) fun g4 => ?_
    · have g4 := of_decide_eq_true g4
      refine mark_ok fun w5 c5 => ⟨_, rfl, ?_⟩
      refine (R4.ch goodT_st c5).push Tryz.underlying49 strings_info (by rfl) goodT_st sCell_len sCell_one (by decide) (markS i) (fun _ _ _ _ => rfl) (by omega) (by omega) fun cur' w7 R7 hn7 => ?_
      refine R7.keep Tryz.underlying31 texts_info (by rfl) goodT_st (by show Gl.length / 8 = i; omega) (by omega) (by omega) (by omega) fun gp' gc' gb' w9 R9 => ?_
      rw [nameI_iff, wrap_id (n := (k : Int) + 1) (by omega) (by omega)]
      exact ⟨m4 - 1, by omega, k + 1, cur', _, gb', Gl ++ [cur'], by omega, by omega, rfl, rfl, rfl, by simp, R9, by simp; omega, by omega⟩
    · have g4 := of_decide_eq_false g4
      rw [nameI_iff, wrap_id (n := (i : Int) + 1) (by omega) (by omega)]
      exact ⟨m3 - 1, by omega, i + 1, gb, Gl, by omega, by omega, rfl, R4.stop goodT_st sCell_len, by omega⟩
  have g3 := of_decide_eq_false g3
  have hi : i = T1.length := by omega
  subst hi
  -- the bindings are grown
  have nO2 : ∀ b, (∃ y ∈ T1, y.own = some b) ∨ wB.heap.size ≤ b → ¬ Own T2 b := by
    rintro b (h | h) k
    · exact n12 b h k
    · obtain ⟨j, x, hx, hb⟩ := k.at
      have := (hD j x hx).1.blt b hb
      omega
  have hDC : Rws bCells 2 wC T2 D := hD.ch SC.b.ch fun x hx b hb h => n12 b h ⟨x, hx, hb⟩
  have S1 : Gs bCells 2 (goodB T1.length) wC wC T2 0 none 0 none [] (fun k => k / 8) := Gs.begin _ (fun j x hx => ⟨D j, (hDC j x hx).1, (hDC j x hx).2, fun y hy => hmkD j (by have := (List.getElem?_eq_some_iff.1 hx).1; omega) y hy⟩) G.n2
  refine ⟨fun m p n c n7 w4 => ∃ (i : Nat) (gb : Option Nat) (Gl : List SL), n7 = (i : Int) ∧ m + i = T2.length ∧ n = Gl.length ∧ Gs bCells 2 (goodB T1.length) wC w4 T2 i p c gb Gl (fun k => k / 8) ∧ Gl.length = 8 * i, ⟨T2.length, 0, none, [], rfl, rfl, rfl, S1, rfl⟩, ?_⟩
  rintro m5 ph nh ch n7 wD ⟨i, gb2, Hl, rfl, hm5, rfl, SD, hHl⟩
  have cD' : Ch (fun b => Own T1 b ∨ Own T2 b) w wD := cC'.trans' (SD.b.ch.mono fun _ _ h => .inr h)
  rw [nn_some]
  refine ⟨_, _, _, by simpa using (hd _ cD').2, Sif_cases (fun g4 => ?_) fun g4 => ?_⟩
  · have g4 := of_decide_eq_true g4
    obtain ⟨x, hx⟩ : ∃ x, T2[i]? = some x := ⟨_, List.getElem?_eq_getElem (by omega)⟩
    obtain ⟨kr, orr, rfl, hrow⟩ := x2 i x hx
    have hxn := hs2 x (List.mem_of_getElem? hx)
    rw [nn_some]
    refine ⟨_, _, _, by simpa using (hd _ cD').2, by omega, g4, ?_⟩
    simp only [nn_some, add_at, Int.toNat_natCast, Nat.mul_one]
    refine ⟨x.p, x.n, x.c, hrow _ cD', ?_⟩
    obtain ⟨xs0, R0⟩ := SD.start (goodB_st _) hx
    refine ⟨fun m pg ng cg pl nl cl n10 w4 => ∃ (k : Nat) (cur : SL) (xs : List Bd) (gb : Option Nat) (Gl : List SL), n10 = (k : Int) ∧ m + k = 8 ∧ pl = cur.p ∧ nl = cur.n ∧ cl = cur.c ∧ ng = Gl.length ∧ Gr bCells 2 (goodB T1.length) wC w4 T2 i cur xs pg cg gb Gl (fun k => k / 8) ∧ Gl.length = 8 * i + k ∧ cur.n ≤ x.n + k,
      ⟨8, 0, x, xs0, gb2, Hl, rfl, rfl, rfl, rfl, rfl, rfl, R0, by omega, by omega⟩, ?_⟩
    rintro m4 pg ng cg pl nl cl n10 w4 ⟨k, cur, xs, gb, Gl, rfl, hm4, rfl, rfl, rfl, rfl, R4, hGl4, hcur⟩
    refine Sif_cases (fun g5 => ?_) fun g5 => ?_
    · have g5 := of_decide_eq_true g5
      rw [wrap_id (n := (T1.length : Int) + (i : Int)) (by omega) (by omega)]
      refine mark_ok fun w5 c5 => ⟨_, rfl, mark_ok fun w6 c6 => ⟨_, rfl, ?_⟩⟩
      refine (R4.ch (goodB_st _) (c5.trans' c6)).push Tryz.underlying27 bind_info (by rfl) (goodB_st _) bCells_len bCells_one (by decide) (markS ((T1.length : Int) + i), markS i) (fun _ _ _ _ => rfl) (by omega) (by omega) fun cur' w7 R7 hn7 => ?_
      refine R7.keep Tryz.underlying32 bindss_info (by rfl) (goodB_st _) (by show Gl.length / 8 = i; omega) (by omega) (by omega) (by omega) fun gp' gc' gb' w9 R9 => ?_
      rw [nameI_iff, wrap_id (n := (k : Int) + 1) (by omega) (by omega)]
      exact ⟨m4 - 1, by omega, k + 1, cur', _, gb', Gl ++ [cur'], by omega, by omega, rfl, rfl, rfl, by simp, R9, by simp; omega, by omega⟩
    · have g5 := of_decide_eq_false g5
      rw [nameI_iff, wrap_id (n := (i : Int) + 1) (by omega) (by omega)]
      exact ⟨m5 - 1, by omega, i + 1, gb, Gl, by omega, by omega, rfl, R4.stop (goodB_st _) bCells_len, by omega⟩
  have g4 := of_decide_eq_false g4
  have hi : i = T2.length := by omega
  subst hi
  -- each reads as its owner wrote it
  have hG1 : Rd wD pg Gl.length 1 (Gl.flatMap SL.cells) := SC.b.grown.rd.ch SD.b.ch fun a' ha h0 h => by
    obtain ⟨_, q2, q3⟩ := SC.b.grown
    rcases q3 with ⟨_, q3⟩ | ⟨k2, o, cs, e4, e5, _⟩
    · have : Gl.length * 1 ≤ cg * 1 := Nat.mul_le_mul_right _ q2
      omega
    · rw [e5] at ha; cases ha
      exact nO2 _ (.inr (SC.b.gnew _ e4)) h
  have hE1 : ∀ k x, Gl[k]? = some x → ∃ ys : List ByteArray, Rd wD x.p x.n 1 (ys.flatMap sCell) ∧ ys.length = x.n ∧ ∀ y ∈ ys, y = markS ((k / 8 : Nat) : Int) := fun k x hx => by
    obtain ⟨ys, q1, q2, q3, _⟩ := SC.read k x hx
    exact ⟨ys, q1.ch SD.b.ch fun a' ha h0 h => nO2 _ (SC.b.place k x hx a' ha h0) h, q2, q3⟩
  have hG2 := SD.b.grown.rd
  refine ⟨fun m n9 w5 => ∃ i : Nat, n9 = (i : Int) ∧ m + i = Gl.length ∧ Ch (fun _ => False) wD w5, ⟨Gl.length, 0, rfl, rfl, Ch.refl _ _⟩, ?_⟩
  rintro m6 n9 wE ⟨i, rfl, hm6, cE⟩
  refine Sif_cases (fun g5 => ?_) fun g5 => ?_
  · have g5 := of_decide_eq_true g5
    obtain ⟨x, hx⟩ : ∃ x, Gl[i]? = some x := ⟨_, List.getElem?_eq_getElem (by omega)⟩
    obtain ⟨ys, q1, q2, q3⟩ := hE1 i x hx
    have hsm := SC.b.small i x hx
    obtain ⟨kg, og, rfl, _⟩ := SL.at hG1 hx
    have hrow : ∀ w', Ch (fun _ => False) wD w' → w'.cell? ⟨kg, og + i, none⟩ = some (.slice x.p x.n x.c) := fun w' c => by
      obtain ⟨_, _, e, h⟩ := SL.at (hG1.ch c fun _ _ _ => id) hx
      cases e; exact h
    refine ⟨fun m n10 w6 => ∃ k : Nat, n10 = (k : Int) ∧ m + k = x.n ∧ Ch (fun _ => False) wD w6, ⟨x.n, 0, rfl, rfl, cE⟩, ?_⟩
    rintro m7 n10 w6 ⟨k, rfl, hm7, c6⟩
    refine ⟨by omega, g5, ?_⟩
    simp only [nn_some, add_at, Int.toNat_natCast, Nat.mul_one]
    refine ⟨x.p, x.n, x.c, hrow _ c6, Sif_cases (fun g6 => ?_) fun g6 => ?_⟩
    · have g6 := of_decide_eq_true g6
      obtain ⟨y, hy⟩ : ∃ y, ys[k]? = some y := ⟨_, List.getElem?_eq_getElem (by omega)⟩
      have hym := q3 y (List.mem_of_getElem? hy)
      have c6d := c6.new Ch.d0
      rw [← q2] at q1
      obtain ⟨ke, oe, hpe, _⟩ := sAt q1 hy
      have hcell : ∀ w', Ch (fun _ => False) wD w' → w'.cell? ⟨ke, oe + k, none⟩ = some (.string y) := fun w' c => by
        obtain ⟨_, _, e, h⟩ := sAt (Rd_d q1 c) hy
        rw [hpe] at e; cases e; exact h
      refine ⟨by omega, g5, by decide, x.p, x.n, x.c, hrow _ c6d, by omega, g6, ?_⟩
      rw [hpe, nn_some]
      simp only [add_at]
      have htd : IntKind.wrap .i64 (Int.tdiv (i : Int) 8) = ((i / 8 : Nat) : Int) := by
        rw [Int.tdiv_eq_ediv_of_nonneg (by omega), wrap_id (by omega) (by omega)]
        omega
      rw [htd]
      refine ⟨y, hcell _ c6d, mark_ok fun w7 c7 => ⟨_, rfl, ⟨y, hcell _ (c6d.new c7), rfl⟩, ⟨_, _, _, by rw [← hpe]; exact hrow _ (c6d.new c7), rfl⟩, ?_⟩⟩
      rw [hym, str_eq_self]
      refine Sif_false ?_
      rw [nameI_iff, wrap_id (n := (k : Int) + 1) (by omega) (by omega)]
      exact ⟨m7 - 1, by omega, k + 1, by omega, by omega, c6d.new c7⟩
    · rw [nameI_iff, wrap_id (n := (i : Int) + 1) (by omega) (by omega)]
      exact ⟨m6 - 1, by omega, i + 1, by omega, by omega, c6⟩
  refine ⟨fun m n9 w5 => ∃ i : Nat, n9 = (i : Int) ∧ m + i = Hl.length ∧ Ch (fun _ => False) wD w5, ⟨Hl.length, 0, rfl, rfl, cE⟩, ?_⟩
  rintro m8 n11 wF ⟨i, rfl, hm8, cF⟩
  refine Sif_cases (fun g6 => ?_) fun g6 => hk _ (cD'.new cF)
  have g6 := of_decide_eq_true g6
  obtain ⟨x, hx⟩ : ∃ x, Hl[i]? = some x := ⟨_, List.getElem?_eq_getElem (by omega)⟩
  obtain ⟨ys, q1, q2, q3, _⟩ := SD.read i x hx
  have hsm := SD.b.small i x hx
  obtain ⟨kg, og, rfl, _⟩ := SL.at hG2 hx
  have hrow : ∀ w', Ch (fun _ => False) wD w' → w'.cell? ⟨kg, og + i, none⟩ = some (.slice x.p x.n x.c) := fun w' c => by
    obtain ⟨_, _, e, h⟩ := SL.at (hG2.ch c fun _ _ _ => id) hx
    cases e; exact h
  refine ⟨fun m n10 w6 => ∃ k : Nat, n10 = (k : Int) ∧ m + k = x.n ∧ Ch (fun _ => False) wD w6, ⟨x.n, 0, rfl, rfl, cF⟩, ?_⟩
  rintro m7 n10 w6 ⟨k, rfl, hm7, c6⟩
  refine ⟨by omega, g6, ?_⟩
  simp only [nn_some, add_at, Int.toNat_natCast, Nat.mul_one]
  refine ⟨x.p, x.n, x.c, hrow _ c6, Sif_cases (fun g7 => ?_) fun g7 => ?_⟩
  · have g7 := of_decide_eq_true g7
    obtain ⟨y, hy⟩ : ∃ y, ys[k]? = some y := ⟨_, List.getElem?_eq_getElem (by omega)⟩
    have hym : y = (markS ((T1.length : Int) + ((i / 8 : Nat) : Int)), markS ((i / 8 : Nat) : Int)) := q3 y (List.mem_of_getElem? hy)
    have c6d := c6.new Ch.d0
    rw [← q2] at q1
    obtain ⟨ke, oe, hpe, _⟩ := bAt q1 hy
    have hcell : ∀ w', Ch (fun _ => False) wD w' → w'.cell? ⟨ke, oe + k * 2, none⟩ = some (.string y.1) ∧ w'.cell? ⟨ke, oe + k * 2 + 1, none⟩ = some (.string y.2) := fun w' c => by
      obtain ⟨_, _, e, h1, h2⟩ := bAt (q1.ch c fun _ _ _ => id) hy
      rw [hpe] at e; cases e; exact ⟨h1, h2⟩
    have htd : IntKind.wrap .i64 (Int.tdiv (i : Int) 8) = ((i / 8 : Nat) : Int) := by
      rw [Int.tdiv_eq_ediv_of_nonneg (by omega), wrap_id (by omega) (by omega)]
      omega
    rw [htd, wrap_id (n := (T1.length : Int) + ((i / 8 : Nat) : Int)) (by omega) (by omega)]
    refine ⟨fun w8 => Ch (fun _ => False) wD w8, fun w8 c8 => ?_, by omega, g6, by decide, x.p, x.n, x.c, hrow _ c6d, by omega, g7, ?_⟩
    · rw [nameI_iff, wrap_id (n := (k : Int) + 1) (by omega) (by omega)]
      exact ⟨m7 - 1, by omega, k + 1, by omega, by omega, c8⟩
    rw [hpe, nn_some]
    simp only [add_at, Nat.add_zero]
    refine ⟨y.1, (hcell _ c6d).1, mark_ok fun w7 c7 => ⟨_, rfl, ⟨y.1, (hcell _ (c6d.new c7)).1, rfl⟩, ⟨_, _, _, by rw [← hpe]; exact hrow _ (c6d.new c7), rfl⟩, ?_⟩⟩
    have c67 := c6d.new c7
    rw [hym, str_eq_self]
    refine Sif_true ⟨by omega, g6, by decide, x.p, x.n, x.c, hrow _ c67, by omega, g7, ?_⟩
    rw [hpe, nn_some]
    simp only [add_at]
    refine ⟨y.2, (hcell _ c67).2, mark_ok fun w8 c8 => ⟨_, rfl, ⟨y.2, (hcell _ (c67.new c8)).2, rfl⟩, ⟨_, _, _, by rw [← hpe]; exact hrow _ (c67.new c8), rfl⟩, ?_⟩⟩
    rw [hym, str_eq_self]
    exact Sif_false (c67.new c8)
  · rw [nameI_iff, wrap_id (n := (i : Int) + 1) (by omega) (by omega)]
    exact ⟨m8 - 1, by omega, i + 1, by omega, by omega, c6⟩
end Go.Proofs.YtnibmhjdomndbaaGreatDoor
namespace Go.Proofs.YtnibmhjdomndbaaGreatDoor
open Go Go.Sv Go.Rt Go.Sort
set_option linter.unusedVariables false
theorem RtK.chs {S : Nat → Prop} {w w' : World} {k r : Nat} {B : List Bd} (h : RtK w k r B) (c : Ch S w w') (h1 : ¬ S k) (h2 : ¬ S r) : RtK w' k r B := ⟨by rw [c.blk (blk_lt h.1) h1]; exact h.1, h.2.ch c h2⟩
theorem RtK.lt {w : World} {k r : Nat} {B : List Bd} (h : RtK w k r B) : k < w.heap.size ∧ r < w.heap.size := ⟨blk_lt h.1, h.2.lt⟩
/-- a router of the program's and one of the document's that hold the same -/
structure PR (w : World) (tg : Nat → Nat × Nat) (id k r x : Nat) (B : List Bd) (px : Option Addr) (cx : Nat) (xb : Option Nat) : Prop where
  rt : RtK w k r B
  xr : XR w x B px cx xb
  tk : tg k = (5, id)
  tr : tg r = (6, id)
  tx : tg x = (7, id)
  tb : ∀ j, xb = some j → tg j = (8, id)
  pat : ∀ y ∈ B, isPat y.1 = true ∧ y.1.size ≤ 2 ^ 40
  len : B.length ≤ 256
/-- what a call may touch -/
def Touch (id : Nat) (t : Nat × Nat) : Prop := t = (6, id) ∨ t = (7, id) ∨ t = (8, id) ∨ t.1 ≤ 2
theorem PR.ne {w : World} {tg : Nat → Nat × Nat} {id k r x : Nat} {B : List Bd} {px : Option Addr} {cx : Nat} {xb : Option Nat} (P : PR w tg id k r x B px cx xb) : k ≠ r ∧ k ≠ x ∧ r ≠ x ∧ xb ≠ some k ∧ xb ≠ some r ∧ xb ≠ some x := by
  have h1 := P.tk; have h2 := P.tr; have h3 := P.tx; have h4 := P.tb
  refine ⟨fun e => ?_, fun e => ?_, fun e => ?_, fun e => ?_, fun e => ?_, fun e => ?_⟩
  · rw [e, h2] at h1; cases h1
  · rw [e, h3] at h1; cases h1
  · rw [e, h3] at h2; cases h2
  · rw [h4 k e] at h1; cases h1
  · rw [h4 r e] at h2; cases h2
  · rw [h4 x e] at h3; cases h3
/-- another pair stays -/
theorem PR.other {w w' : World} {tg tg' : Nat → Nat × Nat} {id id2 k r x : Nat} {B : List Bd} {px : Option Addr} {cx : Nat} {xb : Option Nat} (P : PR w tg id k r x B px cx xb) (hne : id ≠ id2) (ht : ∀ b, b < w.heap.size → tg' b = tg b) (c : Ch (fun b => Touch id2 (tg b)) w w') : PR w' tg' id k r x B px cx xb := by
  have hl := P.rt.lt
  have hx := blk_lt P.xr.1
  have hb := P.xr.2.1.blt
  have no : ∀ (b n : Nat), tg b = (n, id) → 5 ≤ n → ¬ Touch id2 (tg b) := fun b n e h5 => by
    rw [e]
    rintro (h | h | h | h)
    · exact hne (congrArg Prod.snd h)
    · exact hne (congrArg Prod.snd h)
    · exact hne (congrArg Prod.snd h)
    · simp at h; omega
  exact ⟨P.rt.chs c (no _ _ P.tk (by omega)) (no _ _ P.tr (by omega)), P.xr.ch c (no _ _ P.tx (by omega)) fun j hj => no _ _ (P.tb j hj) (by omega), by rw [ht _ hl.1]; exact P.tk, by rw [ht _ hl.2]; exact P.tr, by rw [ht _ hx]; exact P.tx, fun j hj => by rw [ht _ (hb j hj)]; exact P.tb j hj, P.pat, P.len⟩
theorem Told.chs {S : Nat → Prop} {w w' : World} {tg : Nat → Nat × Nat} {a : Nat} {p1 : Option Addr} {c1 : Nat} {b1 : Option Nat} {T1 : List SL} {p2 : Option Addr} {c2 : Nat} {b2 : Option Nat} {T2 : List SL} (H : Told w a p1 c1 b1 T1 p2 c2 b2 T2) (G : Tags tg a b1 T1 b2 T2) (c : Ch S w w') (hS : ∀ b, S b → 5 ≤ (tg b).1) : Told w' a p1 c1 b1 T1 p2 c2 b2 T2 := by
  have no : ∀ b n m, tg b = (n, m) → n < 5 → ¬ S b := fun b n m e h5 h => by
    have := hS b h; rw [e] at this; simp at this; omega
  obtain ⟨C, hC⟩ := H.l1
  obtain ⟨D, hD⟩ := H.l2
  exact ⟨by rw [c.blk (blk_lt H.head) (no _ _ _ G.ta (by omega))]; exact H.head, H.row1.ch c fun k hk => no _ _ _ (G.t1 k hk) (by omega), H.row2.ch c fun k hk => no _ _ _ (G.t2 k hk) (by omega),
    ⟨C, hC.ch c fun x hx b hb h => by obtain ⟨j, e⟩ := G.o1 ⟨x, hx, hb⟩; exact no _ _ _ e (by omega) h⟩, ⟨D, hD.ch c fun x hx b hb h => by obtain ⟨j, e⟩ := G.o2 ⟨x, hx, hb⟩; exact no _ _ _ e (by omega) h⟩⟩
/-- tags stay where new blocks get their own -/
theorem Tags.stay {w : World} {tg tg' : Nat → Nat × Nat} {a : Nat} {p1 : Option Addr} {c1 : Nat} {b1 : Option Nat} {T1 : List SL} {p2 : Option Addr} {c2 : Nat} {b2 : Option Nat} {T2 : List SL} (G : Tags tg a b1 T1 b2 T2) (H : Told w a p1 c1 b1 T1 p2 c2 b2 T2) (ht : ∀ b, b < w.heap.size → tg' b = tg b) : Tags tg' a b1 T1 b2 T2 := by
  obtain ⟨C, hC⟩ := H.l1
  obtain ⟨D, hD⟩ := H.l2
  exact ⟨by rw [ht _ (blk_lt H.head)]; exact G.ta, fun k hk => by rw [ht _ (H.row1.blt k hk)]; exact G.t1 k hk, fun k hk => by rw [ht _ (H.row2.blt k hk)]; exact G.t2 k hk,
    fun j x k hx hk => by rw [ht _ ((hC j x hx).1.blt k hk)]; exact G.l1 j x k hx hk, fun j x k hx hk => by rw [ht _ ((hD j x hx).1.blt k hk)]; exact G.l2 j x k hx hk⟩
/-- the tag of a row that may have moved -/
def retag (tg : Nat → Nat × Nat) (N : Nat) (b : Option Nat) (t : Nat × Nat) : Nat → Nat × Nat := fun j => if N ≤ j ∧ b = some j then t else tg j
theorem retag_old {tg : Nat → Nat × Nat} {N : Nat} {b : Option Nat} {t : Nat × Nat} {j : Nat} (h : j < N) : retag tg N b t j = tg j := by unfold retag; rw [if_neg (by omega)]
theorem retag_new {tg : Nat → Nat × Nat} {N : Nat} {b : Option Nat} {t : Nat × Nat} {j : Nat} (h : N ≤ j) (hb : b = some j) : retag tg N b t j = t := by unfold retag; rw [if_pos ⟨h, hb⟩]
/-- both have been called: the pair stands again -/
theorem PR.again {w w' : World} {tg : Nat → Nat × Nat} {id k r x : Nat} {B B' : List Bd} {px px' : Option Addr} {cx cx' : Nat} {xb xb' : Option Nat} (P : PR w tg id k r x B px cx xb) (hr : RtK w' k r B') (hx : XR w' x B' px' cx' xb') (hb : ∀ j, xb' = some j → xb = some j ∨ w.heap.size ≤ j)
    (hp : ∀ y ∈ B', isPat y.1 = true ∧ y.1.size ≤ 2 ^ 40) (hl : B'.length ≤ 256) : PR w' (retag tg w.heap.size xb' (8, id)) id k r x B' px' cx' xb' := by
  have hlt := P.rt.lt
  have hxl := blk_lt P.xr.1
  have hbl := P.xr.2.1.blt
  refine ⟨hr, hx, by rw [retag_old hlt.1]; exact P.tk, by rw [retag_old hlt.2]; exact P.tr, by rw [retag_old hxl]; exact P.tx, fun j hj => ?_, hp, hl⟩
  rcases hb j hj with q | q
  · rw [retag_old (hbl j q)]; exact P.tb j q
  · exact retag_new q hj
theorem bind_pat {B : List Bd} {y : Bd} (hB : ∀ y ∈ B, isPat y.1 = true ∧ y.1.size ≤ 2 ^ 40) (hy : y.1.size ≤ 2 ^ 40) (hl : B.length ≤ 256) : (∀ y' ∈ bindB B y, isPat y'.1 = true ∧ y'.1.size ≤ 2 ^ 40) ∧ (bindB B y).length ≤ 256 := by
  unfold bindB
  split
  · rename_i h
    have hz : isPat y.1 = true ∧ B.length < 256 := by
      unfold bindE at h
      split at h
      · cases h
      · split at h
        · cases h
        · split at h
          · cases h
          · split at h
            · cases h
            · rename_i h1 h2 h3 h4
              exact ⟨by simpa using h1, by omega⟩
    refine ⟨fun y' hy' => ?_, by simp; omega⟩
    rcases List.mem_append.1 hy' with q | q
    · exact hB y' q
    · rw [List.mem_singleton.1 q]; exact ⟨hz.1, hy⟩
  · exact ⟨hB, hl⟩
/-- what Match says -/
def MR (B : List Bd) (t : ByteArray) (M : List ByteArray) (e : Int) : Prop := (isTop t = false ∧ M = [] ∧ e = 82) ∨ (isTop t = true ∧ Asc M ∧ (∀ q, q ∈ M ↔ leads B t q) ∧ M.length ≤ B.length ∧ e = 0)
theorem MR.one {B : List Bd} {t : ByteArray} {M M' : List ByteArray} {e e' : Int} (h : MR B t M e) (k : MR B t M' e') : M = M' ∧ e = e' := by
  rcases h with ⟨h1, rfl, rfl⟩ | ⟨h1, h2, h3, _, rfl⟩ <;> rcases k with ⟨k1, rfl, rfl⟩ | ⟨k1, k2, k3, _, rfl⟩
  · exact ⟨rfl, rfl⟩
  · rw [h1] at k1; cases k1
  · rw [h1] at k1; cases k1
  · exact ⟨h2.eq k2 fun q => by rw [h3, k3], rfl⟩
theorem MR.len {B : List Bd} {t : ByteArray} {M : List ByteArray} {e : Int} (h : MR B t M e) : M.length ≤ B.length := by
  rcases h with ⟨_, rfl, _⟩ | ⟨_, _, _, h, _⟩
  · exact Nat.zero_le _
  · exact h
theorem match2_ok {w : World} {k r : Nat} {B : List Bd} {t : ByteArray} {K : Value → World → Prop} (h : RtK w k r B) (hB : ∀ x ∈ B, isPat x.1 = true ∧ x.1.size ≤ 2 ^ 40) (hl : B.length ≤ 256) (ht : t.size ≤ 2 ^ 40)
    (hk : ∀ p c b M e w', Nw w w' p c b M → MR B t M e → K (.tuple #[.slice p M.length c, .int .i64 e]) w') : callP Tryz.prog 15 [.pointer (some ⟨k, 0, none⟩), .string t] w K :=
  match_ok h hB (by omega) ht (fun h0 w' c => hk none 0 none [] 82 w' ⟨Ow.nil, by simp, c⟩ (.inl ⟨h0, rfl, rfl⟩)) fun h1 p c b M w' N hA hM hl => hk p c b M 0 w' N (.inr ⟨h1, hA, hM, hl, rfl⟩)
theorem xmatch2_ok {w : World} {x : Nat} {B : List Bd} {p : Option Addr} {c : Nat} {b : Option Nat} {t : ByteArray} {K : Value → World → Prop} (h : XR w x B p c b) (hB : ∀ x ∈ B, isPat x.1 = true ∧ x.1.size ≤ 2 ^ 40) (hl : B.length ≤ 256) (ht : t.size ≤ 2 ^ 40)
    (hk : ∀ p c b M e w', Nw w w' p c b M → MR B t M e → K (.tuple #[.slice p M.length c, .int .i64 e]) w') : callP Tryz.prog 21 [.pointer (some ⟨x, 0, none⟩), .string t] w K :=
  xmatch_ok h hB (by omega) ht (fun h0 w' c => hk none 0 none [] 82 w' ⟨Ow.nil, by simp, c⟩ (.inl ⟨h0, rfl, rfl⟩)) fun h1 p c b M w' N hA hM hl => hk p c b M 0 w' N (.inr ⟨h1, hA, hM, hl, rfl⟩)
theorem two_read {w : World} {k : Nat} {x y : SL} (h : blk w k = some [.slice x.p x.n x.c, .slice y.p y.n y.c]) : Rd w (some ⟨k, 0, none⟩) 2 1 ([x, y].flatMap SL.cells) := ⟨rfl, .inr ⟨k, 0, _, rfl, blk_cells h, by simp, rfl⟩⟩
/-- two texts' lists are told -/
theorem Told.texts {w : World} {tg : Nat → Nat × Nat} {a : Nat} {p1 : Option Addr} {c1 : Nat} {b1 : Option Nat} {T1 : List SL} {p2 : Option Addr} {c2 : Nat} {b2 : Option Nat} {T2 : List SL} (H : Told w a p1 c1 b1 T1 p2 c2 b2 T2) (G : Tags tg a b1 T1 b2 T2) {x y : SL} {L M : List ByteArray}
    (hx : Ow w x.p x.n x.c 1 (L.flatMap sCell) x.own) (hy : Ow w y.p y.n y.c 1 (M.flatMap sCell) y.own) (hxl : L.length = x.n) (hyl : M.length = y.n) (tx : ∀ j, x.own = some j → tg j = (3, T1.length)) (ty : ∀ j, y.own = some j → tg j = (3, T1.length + 1)) (hT : T1.length ≤ 2 ^ 30) {ET : TypeId} {K : World → Prop}
    (hk : ∀ p' c' b' w', Told w' a p' c' b' (T1 ++ [x, y]) p2 c2 b2 T2 → Tags (retag tg w.heap.size b' (1, 0)) a b' (T1 ++ [x, y]) b2 T2 → Ch (fun b => (tg b).1 ≤ 1) w w' → (∀ j, b' = some j → b1 = some j ∨ w.heap.size ≤ j) → K w') :
    newB w [.slice x.p x.n x.c, .slice y.p y.n y.c] ET fun a3 w9 => ∃ p4 n8 c4 w10, Sem.run Tryz.prog (Builtin.append_ #[31, 31] 31 #[.slice p1 T1.length c1, .slice (some a3) 2 2]) w9 = .ok (.slice p4 n8 c4) w10 ∧ nn (some ⟨a, 0, none⟩) fun a4 => st w10 (Addr.add (Addr.add a4 0) 0) (.slice p4 n8 c4) fun w11 => K w11 := by
  refine newB_blk fun w9 b9 c9 z9 => ?_
  obtain ⟨C, hC⟩ := H.l1
  obtain ⟨D, hD⟩ := H.l2
  obtain ⟨p', c', w10, b', r1, r2, r3, r4, _⟩ := append_rd (ty := 31) (c2 := 2) Tryz.underlying31 Tryz.underlying31 texts_info (by rfl) (H.row1.ch c9 fun _ _ => id) (two_read b9) (fun u hu => by
    obtain ⟨z, _, hz⟩ := List.mem_flatMap.1 hu
    exact SL.cells_one z u hz) (by omega) (by omega)
  refine ⟨p', _, c', w10, r1, ?_⟩
  rw [nn_some]
  have c10 : Ch (fun b => b1 = some b) w w10 := (c9.mono fun _ _ g => g.elim).trans' r4
  have hal := blk_lt H.head
  have ha1 : b1 ≠ some a := fun e => by have := G.t1 a e; rw [G.ta] at this; cases this
  have h10 : blk w10 a = some [.slice p1 T1.length c1, .slice p2 T2.length c2] := by rw [c10.blk hal ha1]; exact H.head
  simp only [add_at, Nat.add_zero]
  refine st_blk h10 (by simp) fun w11 b11 c11 z11 => ?_
  have hb' : ∀ j, b' = some j → b1 = some j ∨ w.heap.size ≤ j := fun j hj => (r3 j hj).imp id fun e => by omega
  have cS : Ch (fun b => b = a ∨ b1 = some b) w w11 := (c10.mono fun _ _ h => .inr h).trans' (c11.mono fun _ _ h => .inl h)
  have nS : ∀ (b n m : Nat), tg b = (n, m) → 2 ≤ n → ¬ (b = a ∨ b1 = some b) := fun b n m e h2 => by
    rintro (h | h)
    · rw [h, G.ta] at e; cases e; omega
    · rw [G.t1 b h] at e; cases e; omega
  have hb'a : ∀ j, b' = some j → j ≠ a := fun j hj e => by
    rcases hb' j hj with q | q
    · exact ha1 (e ▸ q)
    · omega
  have hlen : (T1 ++ [x, y]).length = T1.length + 2 := by simp
  refine hk p' c' b' w11 ⟨by rw [b11, hlen]; rfl, by rw [hlen, List.flatMap_append]; exact r2.ch c11 fun j hj e => hb'a j hj e, H.row2.ch cS fun k hk => nS _ _ _ (G.t2 k hk) (by omega), ⟨fun j => if j < T1.length then C j else if j = T1.length then L else M, fun j z hz => ?_⟩, ⟨D, hD.ch cS fun z hz b hb => by obtain ⟨j, e⟩ := G.o2 ⟨z, hz, hb⟩; exact nS _ _ _ e (by omega)⟩⟩ ⟨?_, fun j hj => ?_, fun j hj => ?_, fun j z b hz hb => ?_, fun j z b hz hb => ?_⟩ (cS.mono fun b _ h => by
    rcases h with h | h
    · rw [h, G.ta]; decide
    · rw [G.t1 b h]; decide) hb'
  · by_cases h1 : j < T1.length
    · rw [List.getElem?_append_left h1] at hz
      simp only [if_pos h1]
      exact ⟨(hC j z hz).1.ch cS fun b hb => by
        have := G.l1 j z b hz hb
        exact nS _ _ _ this (by omega), (hC j z hz).2⟩
    · simp only [if_neg h1]
      rw [List.getElem?_append_right (by omega)] at hz
      by_cases h2 : j = T1.length
      · simp only [if_pos h2]
        rw [h2, Nat.sub_self] at hz
        have : z = x := (Option.some.inj hz).symm
        subst this
        exact ⟨hx.ch cS fun b hb => nS _ _ _ (tx b hb) (by omega), hxl⟩
      · simp only [if_neg h2]
        obtain ⟨d, hd⟩ : ∃ d, j - T1.length = d + 1 := ⟨j - T1.length - 1, by omega⟩
        rw [hd, List.getElem?_cons_succ] at hz
        cases d with
        | succ d => simp at hz
        | zero =>
          have : z = y := (Option.some.inj hz).symm
          subst this
          exact ⟨hy.ch cS fun b hb => nS _ _ _ (ty b hb) (by omega), hyl⟩
  · rw [retag_old hal]; exact G.ta
  · rcases hb' j hj with q | q
    · rw [retag_old (H.row1.blt j q)]; exact G.t1 j q
    · exact retag_new q hj
  · rw [retag_old (H.row2.blt j hj)]; exact G.t2 j hj
  · by_cases h1 : j < T1.length
    · rw [List.getElem?_append_left h1] at hz
      rw [retag_old ((hC j z hz).1.blt b hb)]; exact G.l1 j z b hz hb
    · rw [List.getElem?_append_right (by omega)] at hz
      by_cases h2 : j = T1.length
      · rw [h2, Nat.sub_self] at hz
        have : z = x := (Option.some.inj hz).symm
        subst this
        rw [retag_old (hx.blt b hb), h2]; exact tx b hb
      · obtain ⟨d, hd⟩ : ∃ d, j - T1.length = d + 1 := ⟨j - T1.length - 1, by omega⟩
        rw [hd, List.getElem?_cons_succ] at hz
        cases d with
        | succ d => simp at hz
        | zero =>
          have : z = y := (Option.some.inj hz).symm
          subst this
          rw [retag_old (hy.blt b hb), show j = T1.length + 1 by omega]; exact ty b hb
  · rw [retag_old ((hD j z hz).1.blt b hb)]; exact G.l2 j z b hz hb
/-- two lists of bindings are told -/
theorem Told.binds {w : World} {tg : Nat → Nat × Nat} {a : Nat} {p1 : Option Addr} {c1 : Nat} {b1 : Option Nat} {T1 : List SL} {p2 : Option Addr} {c2 : Nat} {b2 : Option Nat} {T2 : List SL} (H : Told w a p1 c1 b1 T1 p2 c2 b2 T2) (G : Tags tg a b1 T1 b2 T2) {x y : SL} {L M : List Bd}
    (hx : Ow w x.p x.n x.c 2 (L.flatMap bCells) x.own) (hy : Ow w y.p y.n y.c 2 (M.flatMap bCells) y.own) (hxl : L.length = x.n) (hyl : M.length = y.n) (tx : ∀ j, x.own = some j → tg j = (4, T2.length)) (ty : ∀ j, y.own = some j → tg j = (4, T2.length + 1)) (hT : T2.length ≤ 2 ^ 30) {ET : TypeId} {K : World → Prop}
    (hk : ∀ p' c' b' w', Told w' a p1 c1 b1 T1 p' c' b' (T2 ++ [x, y]) → Tags (retag tg w.heap.size b' (2, 0)) a b1 T1 b' (T2 ++ [x, y]) → Ch (fun b => (tg b).1 ≤ 2) w w' → (∀ j, b' = some j → b2 = some j ∨ w.heap.size ≤ j) → K w') :
    newB w [.slice x.p x.n x.c, .slice y.p y.n y.c] ET fun a3 w9 => ∃ p4 n8 c4 w10, Sem.run Tryz.prog (Builtin.append_ #[32, 32] 32 #[.slice p2 T2.length c2, .slice (some a3) 2 2]) w9 = .ok (.slice p4 n8 c4) w10 ∧ nn (some ⟨a, 0, none⟩) fun a4 => st w10 (Addr.add (Addr.add a4 1) 0) (.slice p4 n8 c4) fun w11 => K w11 := by
  refine newB_blk fun w9 b9 c9 z9 => ?_
  obtain ⟨C, hC⟩ := H.l1
  obtain ⟨D, hD⟩ := H.l2
  obtain ⟨p', c', w10, b', r1, r2, r3, r4, _⟩ := append_rd (ty := 32) (c2 := 2) Tryz.underlying32 Tryz.underlying32 bindss_info (by rfl) (H.row2.ch c9 fun _ _ => id) (two_read b9) (fun u hu => by
    obtain ⟨z, _, hz⟩ := List.mem_flatMap.1 hu
    exact SL.cells_one z u hz) (by omega) (by omega)
  refine ⟨p', _, c', w10, r1, ?_⟩
  rw [nn_some]
  have c10 : Ch (fun b => b2 = some b) w w10 := (c9.mono fun _ _ g => g.elim).trans' r4
  have hal := blk_lt H.head
  have ha1 : b2 ≠ some a := fun e => by have := G.t2 a e; rw [G.ta] at this; cases this
  have h10 : blk w10 a = some [.slice p1 T1.length c1, .slice p2 T2.length c2] := by rw [c10.blk hal ha1]; exact H.head
  simp only [add_at, Nat.add_zero, Nat.zero_add]
  refine st_blk h10 (by simp) fun w11 b11 c11 z11 => ?_
  have hb' : ∀ j, b' = some j → b2 = some j ∨ w.heap.size ≤ j := fun j hj => (r3 j hj).imp id fun e => by omega
  have cS : Ch (fun b => b = a ∨ b2 = some b) w w11 := (c10.mono fun _ _ h => .inr h).trans' (c11.mono fun _ _ h => .inl h)
  have nS : ∀ (b n m : Nat), tg b = (n, m) → n ≠ 0 → n ≠ 2 → ¬ (b = a ∨ b2 = some b) := fun b n m e h2 h3 => by
    rintro (h | h)
    · rw [h, G.ta] at e; cases e; omega
    · rw [G.t2 b h] at e; cases e; omega
  have hb'a : ∀ j, b' = some j → j ≠ a := fun j hj e => by
    rcases hb' j hj with q | q
    · exact ha1 (e ▸ q)
    · omega
  have hlen : (T2 ++ [x, y]).length = T2.length + 2 := by simp
  refine hk p' c' b' w11 ⟨by rw [b11, hlen]; rfl, H.row1.ch cS fun k hk => nS _ _ _ (G.t1 k hk) (by omega) (by omega), by rw [hlen, List.flatMap_append]; exact r2.ch c11 fun j hj e => hb'a j hj e, ⟨C, hC.ch cS fun z hz b hb => by obtain ⟨j, e⟩ := G.o1 ⟨z, hz, hb⟩; exact nS _ _ _ e (by omega) (by omega)⟩, ⟨fun j => if j < T2.length then D j else if j = T2.length then L else M, fun j z hz => ?_⟩⟩ ⟨?_, fun j hj => ?_, fun j hj => ?_, fun j z b hz hb => ?_, fun j z b hz hb => ?_⟩ (cS.mono fun b _ h => by
    rcases h with h | h
    · rw [h, G.ta]; decide
    · rw [G.t2 b h]; decide) hb'
  · by_cases h1 : j < T2.length
    · rw [List.getElem?_append_left h1] at hz
      simp only [if_pos h1]
      exact ⟨(hD j z hz).1.ch cS fun b hb => by
        have := G.l2 j z b hz hb
        exact nS _ _ _ this (by omega) (by omega), (hD j z hz).2⟩
    · simp only [if_neg h1]
      rw [List.getElem?_append_right (by omega)] at hz
      by_cases h2 : j = T2.length
      · simp only [if_pos h2]
        rw [h2, Nat.sub_self] at hz
        have : z = x := (Option.some.inj hz).symm
        subst this
        exact ⟨hx.ch cS fun b hb => nS _ _ _ (tx b hb) (by omega) (by omega), hxl⟩
      · simp only [if_neg h2]
        obtain ⟨d, hd⟩ : ∃ d, j - T2.length = d + 1 := ⟨j - T2.length - 1, by omega⟩
        rw [hd, List.getElem?_cons_succ] at hz
        cases d with
        | succ d => simp at hz
        | zero =>
          have : z = y := (Option.some.inj hz).symm
          subst this
          exact ⟨hy.ch cS fun b hb => nS _ _ _ (ty b hb) (by omega) (by omega), hyl⟩
  · rw [retag_old hal]; exact G.ta
  · rw [retag_old (H.row1.blt j hj)]; exact G.t1 j hj
  · rcases hb' j hj with q | q
    · rw [retag_old (H.row2.blt j q)]; exact G.t2 j q
    · exact retag_new q hj
  · rw [retag_old ((hC j z hz).1.blt b hb)]; exact G.l1 j z b hz hb
  · by_cases h1 : j < T2.length
    · rw [List.getElem?_append_left h1] at hz
      rw [retag_old ((hD j z hz).1.blt b hb)]; exact G.l2 j z b hz hb
    · rw [List.getElem?_append_right (by omega)] at hz
      by_cases h2 : j = T2.length
      · rw [h2, Nat.sub_self] at hz
        have : z = x := (Option.some.inj hz).symm
        subst this
        rw [retag_old (hx.blt b hb), h2]; exact tx b hb
      · obtain ⟨d, hd⟩ : ∃ d, j - T2.length = d + 1 := ⟨j - T2.length - 1, by omega⟩
        rw [hd, List.getElem?_cons_succ] at hz
        cases d with
        | succ d => simp at hz
        | zero =>
          have : z = y := (Option.some.inj hz).symm
          subst this
          rw [retag_old (hy.blt b hb), show j = T2.length + 1 by omega]; exact ty b hb
end Go.Proofs.YtnibmhjdomndbaaGreatDoor
namespace Go.Proofs.YtnibmhjdomndbaaGreatDoor
open Go Go.Sv Go.Rt Go.Sort
set_option linter.unusedVariables false
theorem PR.chs {S : Nat → Prop} {w w' : World} {tg tg' : Nat → Nat × Nat} {id k r x : Nat} {B : List Bd} {px : Option Addr} {cx : Nat} {xb : Option Nat} (P : PR w tg id k r x B px cx xb) (ht : ∀ b, b < w.heap.size → tg' b = tg b) (c : Ch S w w') (hS : ∀ b, b < w.heap.size → S b → (tg b).1 ≤ 4) : PR w' tg' id k r x B px cx xb := by
  have hl := P.rt.lt
  have hx := blk_lt P.xr.1
  have hb := P.xr.2.1.blt
  have no : ∀ (b n : Nat), b < w.heap.size → tg b = (n, id) → 5 ≤ n → ¬ S b := fun b n hlt e h5 h => by
    have := hS b hlt h
    rw [e] at this; simp at this; omega
  exact ⟨P.rt.chs c (no _ _ hl.1 P.tk (by omega)) (no _ _ hl.2 P.tr (by omega)), P.xr.ch c (no _ _ hx P.tx (by omega)) fun j hj => no _ _ (hb j hj) (P.tb j hj) (by omega), by rw [ht _ hl.1]; exact P.tk, by rw [ht _ hl.2]; exact P.tr, by rw [ht _ hx]; exact P.tx, fun j hj => by rw [ht _ (hb j hj)]; exact P.tb j hj, P.pat, P.len⟩
set_option maxHeartbeats 8000000 in
theorem play_ok {w : World} {tg : Nat → Nat × Nat} {rid k r x : Nat} {B : List Bd} {px : Option Addr} {cx : Nat} {xb : Option Nat} {a : Nat} {p1 : Option Addr} {c1 : Nat} {b1 : Option Nat} {T1 : List SL} {p2 : Option Addr} {c2 : Nat} {b2 : Option Nat} {T2 : List SL} {kd : Int} {tx qu : ByteArray} {ot : Bool} {K : Value → World → Prop}
    (P : PR w tg rid k r x B px cx xb) (H : Told w a p1 c1 b1 T1 p2 c2 b2 T2) (G : Tags tg a b1 T1 b2 T2) (hT1 : T1.length ≤ 1000) (hT2 : T2.length ≤ 1000) (hs1 : ∀ z ∈ T1, z.n ≤ 256) (hs2 : ∀ z ∈ T2, z.n ≤ 256) (htx : tx.size ≤ 2 ^ 39) (hqu : qu.size ≤ 2 ^ 39)
    (hk : ∀ w' tg' B' px' cx' xb' p1' c1' b1' T1' p2' c2' b2' T2', PR w' tg' rid k r x B' px' cx' xb' → Told w' a p1' c1' b1' T1' p2' c2' b2' T2' → Tags tg' a b1' T1' b2' T2' → T1'.length ≤ T1.length + 2 → T2'.length ≤ T2.length + 2 → (∀ z ∈ T1', z.n ≤ 256) → (∀ z ∈ T2', z.n ≤ 256) →
      (∀ b, b < w.heap.size → tg' b = tg b) → Ch (fun b => Touch rid (tg b)) w w' → K (.bool true) w') :
    callP Tryz.prog 6 [.pointer (some ⟨k, 0, none⟩), .pointer (some ⟨x, 0, none⟩), .agg #[.int .i64 kd, .string tx, .string qu, .bool ot], .pointer (some ⟨a, 0, none⟩)] w K := by
  refine ok_longshorelaw18_play ?_
  unfold wp_longshorelaw18_play
  obtain ⟨nkr, nkx, nrx, nbk, nbr, nbx⟩ := P.ne
  have hBn := nodup_of P.rt
  have hBl := P.len
  have hlt := P.rt.lt
  have hxl := blk_lt P.xr.1
  have hxbl := P.xr.2.1.blt
  -- a call that turns the routers alone
  have done : ∀ (w' : World) (B' : List Bd) (px' : Option Addr) (cx' : Nat) (xb' : Option Nat), RtK w' k r B' → XR w' x B' px' cx' xb' → (∀ j, xb' = some j → xb = some j ∨ w.heap.size ≤ j) → (∀ y ∈ B', isPat y.1 = true ∧ y.1.size ≤ 2 ^ 40) → B'.length ≤ 256 → Ch (fun b => b = r ∨ b = x ∨ xb = some b) w w' → K (.bool true) w' :=
    fun w' B' px' cx' xb' hr hx hb hp hl c => hk w' (retag tg w.heap.size xb' (8, rid)) B' px' cx' xb' p1 c1 b1 T1 p2 c2 b2 T2 (P.again hr hx hb hp hl) (H.chs G c fun b h => by
      rcases h with h | h | h
      · rw [h, P.tr]; exact Nat.le_add_left _ _
      · rw [h, P.tx]; exact Nat.le_add_left _ _
      · rw [P.tb b h]; exact Nat.le_add_left _ _) (G.stay H fun b hb => retag_old hb) (by omega) (by omega) hs1 hs2 (fun b hb => retag_old hb) (c.mono fun b _ h => by
      rcases h with h | h | h
      · rw [h, P.tr]; exact .inl rfl
      · rw [h, P.tx]; exact .inr (.inl rfl)
      · rw [P.tb b h]; exact .inr (.inr (.inl rfl)))
  refine newB_blk fun w1 bo c01 z1 => ⟨tx, by simpa using cell_blk bo 1, qu, by simpa using cell_blk bo 2, newB_blk fun w2 bb c02 z2 => ?_⟩
  simp only [add_at, Nat.zero_add, Nat.add_zero]
  refine st_blk bb (by simp) fun w3 bb3 c03 z3 => st_blk bb3 (by simp) fun w4 bb4 c04 z4 => ?_
  simp only [List.set_cons_zero, List.set_cons_succ] at bb4
  generalize hO : w.heap.size = O at *
  generalize hQ : w1.heap.size = Q at *
  have c14 : Ch (fun _ => False) w1 w4 := c02.trans (c03.trans' c04) fun b hb e => by rw [e] at hb; omega
  have c4 : Ch (fun _ => False) w w4 := c01.trans' c14
  have bo4 : blk w4 O = some [.int .i64 kd, .string tx, .string qu, .bool ot] := by rw [c14.blk (blk_lt bo) id]; exact bo
  have hs4 : Q < w4.heap.size := by omega
  have P4 : RtK w4 k r B := P.rt.chs c4 id id
  have X4 : XR w4 x B px cx xb := P.xr.new c4
  have box : ∀ (S : Nat → Prop) (w' : World), Ch S w4 w' → (∀ b, S b → b < O) → blk w' O = some [.int .i64 kd, .string tx, .string qu, .bool ot] ∧ blk w' Q = some [.string tx, .string qu] := fun S w' c hS =>
    ⟨by rw [c.blk (blk_lt bo4) fun h => by have := hS _ h; omega]; exact bo4, by rw [c.blk (blk_lt bb4) fun h => by have := hS _ h; omega]; exact bb4⟩
  have Sr : ∀ b, b = r → b < O := fun b e => by rw [e]; exact hlt.2
  have Sx : ∀ b, (b = x ∨ xb = some b) → b < O := fun b e => by
    rcases e with e | e
    · rw [e]; exact hxl
    · exact hxbl b e
  refine ⟨kd, by simpa using cell_blk bo4 0, by decide, by decide, ?_⟩
  refine Sif_cases (fun g => ?_) fun _ => Sif_cases (fun g => ?_) fun _ => Sif_cases (fun g => ?_) fun _ => Sif_cases (fun g => ?_) fun _ => Sif_cases (fun g => ?_) fun _ => ?_
  · -- Bind
    refine ⟨tx, by simpa using cell_blk bb4 0, qu, by simpa using cell_blk bb4 1, bind_ok (x := (tx, qu)) P4 nkr (by show tx.size ≤ _; omega) (by show qu.size ≤ _; omega) fun w5 R5 c5 => ⟨_, rfl, ?_⟩⟩
    have b5 := (box _ _ c5 Sr).2
    have X5 := X4.ch c5 (fun e => nrx e.symm) fun j hj e => nbr (by rw [hj, e])
    refine ⟨tx, by simpa using cell_blk b5 0, qu, by simpa using cell_blk b5 1, xbind_ok (y := (tx, qu)) X5 (by omega) (by show tx.size ≤ _; omega) (by show qu.size ≤ _; omega) fun p' c' b' w6 X6 hb6 c6 => ⟨_, rfl, ?_⟩⟩
    rw [beq_self_eq_true]
    obtain ⟨q1, q2⟩ := bind_pat (y := (tx, qu)) P.pat (by show tx.size ≤ _; omega) P.len
    have R6 := R5.chs c6 (fun h => by rcases h with h | h; exact nkx h; exact nbk h) (fun h => by rcases h with h | h; exact nrx h; exact nbr h)
    refine done w6 _ p' c' b' R6 X6 (fun j hj => (hb6 j hj).imp id fun h => by have := c5.size; have := c4.size; omega) q1 q2 (((c4.mono fun _ _ h => h.elim).trans' (c5.mono fun b _ h => .inl h)).trans' (c6.mono fun b _ h => .inr h))
  · -- Unbind
    refine ⟨tx, by simpa using cell_blk bb4 0, qu, by simpa using cell_blk bb4 1, unbind_ok (x := (tx, qu)) P4 nkr fun w5 R5 c5 => ⟨_, rfl, ?_⟩⟩
    have b5 := (box _ _ c5 Sr).2
    have X5 := X4.ch c5 (fun e => nrx e.symm) fun j hj e => nbr (by rw [hj, e])
    refine ⟨tx, by simpa using cell_blk b5 0, qu, by simpa using cell_blk b5 1, xunbind_ok (y := (tx, qu)) X5 (by omega) hBn fun p' c' b' w6 X6 hb6 c6 => ⟨_, rfl, ?_⟩⟩
    rw [beq_self_eq_true]
    have R6 := R5.chs c6 nkx nrx
    refine done w6 _ p' c' b' R6 X6 (fun j hj => (hb6 j hj).imp id fun h => by have := c5.size; have := c4.size; omega) (fun y hy => P.pat y (List.mem_filter.1 hy).1) (Nat.le_trans (List.length_filter_le ..) hBl) (((c4.mono fun _ _ h => h.elim).trans' (c5.mono fun b _ h => .inl h)).trans' (c6.mono fun b _ h => .inr (.inl h)))
  · -- Drop
    refine ⟨qu, by simpa using cell_blk bo4 2, drop_ok P4 nkr (by omega) fun w5 R5 c5 => ⟨_, rfl, ?_⟩⟩
    have b5 := (box _ _ c5 Sr).1
    have X5 := X4.ch c5 (fun e => nrx e.symm) fun j hj e => nbr (by rw [hj, e])
    refine ⟨qu, by simpa using cell_blk b5 2, xdrop_ok X5 (by omega) fun p' c' b' w6 X6 hb6 c6 => ⟨_, rfl, ?_⟩⟩
    rw [beq_self_eq_true]
    have R6 := R5.chs c6 nkx nrx
    refine done w6 _ p' c' b' R6 X6 (fun j hj => .inr (by have := hb6 j hj; have := c5.size; have := c4.size; omega)) (fun y hy => P.pat y (List.mem_filter.1 hy).1) (Nat.le_trans (List.length_filter_le ..) hBl) (((c4.mono fun _ _ h => h.elim).trans' (c5.mono fun b _ h => .inl h)).trans' (c6.mono fun b _ h => .inr (.inl h)))
  · -- Match
    refine ⟨tx, by simpa using cell_blk bo4 1, match2_ok P4 P.pat hBl (by omega) fun pl cl bl L e5 w5 N5 M5 => ⟨_, _, _, _, rfl, ?_⟩⟩
    have b5 := (box _ _ N5.ch fun _ h => h.elim).1
    refine ⟨tx, by simpa using cell_blk b5 1, xmatch2_ok (X4.new N5.ch) P.pat hBl (by omega) fun pm cm bm M e6 w6 N6 M6 => ⟨_, _, _, _, rfl, ?_⟩⟩
    have c46 := N5.ch.trans' N6.ch
    have b6 := (box _ _ c46 fun _ h => h.elim).1
    refine ⟨tx, by simpa using cell_blk b6 1, match2_ok (P4.chs c46 id id) P.pat hBl (by omega) fun pa ca ba A e7 w7 N7 M7 => ⟨_, _, _, _, rfl, ?_⟩⟩
    obtain ⟨hLM, he56⟩ := M5.one M6
    obtain ⟨hAM, he76⟩ := M7.one M6
    have c47 := c46.trans' N7.ch
    have hLl := M5.len
    have hAl := M7.len
    refine ⟨fun b w8 => b = true ∧ Ch (fun _ => False) w7 w8, ?_, ?_⟩
    · rintro b w8 ⟨rfl, c78⟩
      have c8 := c4.trans' (c47.trans' c78)
      have hz5 := N5.ch.size
      have hz6 := N6.ch.size
      have hz4 := c4.size
      have H8 := H.chs (S := fun _ => False) G c8 fun _ h => h.elim
      have t8 : ∀ b, b < O → retag (retag tg w4.heap.size bl (3, T1.length)) w6.heap.size ba (3, T1.length + 1) b = tg b := fun b hb => by
        rw [retag_old (by omega), retag_old (by omega)]
      have G8 := G.stay H fun b hb => t8 b (by omega)
      rw [nn_some]
      refine ⟨_, _, _, by simpa using cell_blk H8.head 0, ?_⟩
      refine H8.texts G8 (x := ⟨pl, L.length, cl, bl⟩) (y := ⟨pa, A.length, ca, ba⟩) (L := L) (M := A) (N5.ow.ch (N6.ch.trans' (N7.ch.trans' c78)) fun _ _ => id) (N7.ow.ch c78 fun _ _ => id) rfl rfl (fun j hj => ?_) (fun j hj => retag_new (N7.new j hj) hj) (by omega) fun p' c' b' w11 H11 G11 c11 hb11 => ?_
      · have := N5.ow.blt j hj
        rw [retag_old (by omega)]
        exact retag_new (N5.new j hj) hj
      · rw [he56, he76, beq_self_eq_true]
        refine Sif_true (Sif_true ?_)
        have t11 : ∀ b, b < O → retag (retag (retag tg w4.heap.size bl (3, T1.length)) w6.heap.size ba (3, T1.length + 1)) w8.heap.size b' (1, 0) b = tg b := fun b hb => by
          have := c8.size
          rw [retag_old (by omega)]; exact t8 b hb
        have c0 : Ch (fun b => (tg b).1 ≤ 1) w w11 := (c8.mono fun _ _ h => h.elim).trans c11 fun b hb h => by rw [t8 b (by omega)] at h; exact h
        refine hk w11 _ B px cx xb p' c' b' _ p2 c2 b2 T2 (P.chs (fun b hb => t11 b (by omega)) c0 fun b hb h => by omega) H11 G11 (by simp) (by omega) (fun z hz => ?_) hs2 t11 (c0.mono fun b _ h => .inr (.inr (.inr (by omega))))
        rcases List.mem_append.1 hz with hz | hz
        · exact hs1 z hz
        · simp only [List.mem_cons, List.not_mem_nil, or_false] at hz
          rcases hz with rfl | rfl
          · show L.length ≤ 256; omega
          · show A.length ≤ 256; omega
    · refine sames_ok (Rd_d N5.rd (N6.ch.trans' N7.ch)) (Rd_d N6.rd N7.ch) (by omega) hLM fun w8 c8 => ⟨_, rfl, Sif_true (sames_ok (Rd_d N7.rd c8) (Rd_d N6.rd (N7.ch.trans' c8)) (by omega) hAM fun w9 c9 => ⟨_, rfl, rfl, c8.trans' c9⟩)⟩
  · -- many
    refine ⟨fun m n1 w5 => ∃ (i : Nat) (B' : List Bd) (px' : Option Addr) (cx' : Nat) (xb' : Option Nat) (q0 : ByteArray), n1 = (i : Int) ∧ m + i = 26 ∧ RtK w5 k r B' ∧ XR w5 x B' px' cx' xb' ∧ (∀ j, xb' = some j → xb = some j ∨ w4.heap.size ≤ j) ∧ (∀ y ∈ B', isPat y.1 = true ∧ y.1.size ≤ 2 ^ 40) ∧ B'.length ≤ 256 ∧
        Ch (fun b => b = r ∨ b = x ∨ xb = some b ∨ b = Q) w4 w5 ∧ blk w5 Q = some [.string tx, .string q0], ⟨26, 0, B, px, cx, xb, qu, rfl, rfl, P4, X4, fun j hj => .inl hj, P.pat, hBl, Ch.refl _ _, bb4⟩, ?_⟩
    rintro m n1 w5 ⟨i, B', px', cx', xb', q0, rfl, hm, R5, X5, hxb5, hp5, hl5, c5, b5⟩
    have hz5 := c5.size
    have hOx : ∀ b, (b = r ∨ b = x ∨ xb = some b ∨ b = Q) → b = O → False := fun b h e => by
      rcases h with h | h | h | h
      · have := hlt.2; omega
      · omega
      · have := hxbl b h; omega
      · omega
    have bo5 : blk w5 O = some [.int .i64 kd, .string tx, .string qu, .bool ot] := by rw [c5.blk (blk_lt bo4) fun h => hOx _ h rfl]; exact bo4
    refine Sif_cases (fun g2 => ?_) fun g2 => ?_
    · have g2 := of_decide_eq_true g2
      rw [markB_eq]
      refine ⟨qu, by simpa using cell_blk bo5 2, newB_blk fun w6 b6 c6 z6 => ?_⟩
      have hr : Rd w6 (some ⟨w5.heap.size, 0, none⟩) 1 1 (bytesV [markB (IntKind.wrap .i64 (97 + (i : Int)))]) := ⟨rfl, .inr ⟨_, 0, _, rfl, blk_cells b6, by simp, rfl⟩⟩
      have hsz : (qu ++ (⟨[markB (IntKind.wrap .i64 (97 + (i : Int)))].toArray⟩ : ByteArray)).size = qu.size + 1 := by rw [ByteArray.size_append]; rfl
      refine ⟨_, toString_run Tryz.underlying57 Tryz.underlying5 Tryz.underlying9 hr, by rw [ByteArray.size_append] at hsz; omega, ?_⟩
      generalize hqi : qu ++ (⟨[markB (IntKind.wrap .i64 (97 + (i : Int)))].toArray⟩ : ByteArray) = qi at *
      have b6Q : blk w6 Q = some [.string tx, .string q0] := by rw [c6.blk (blk_lt b5) id]; exact b5
      simp only [add_at, Nat.add_zero, Nat.zero_add]
      refine st_blk b6Q (by simp) fun w7 b7 c7 z7 => ?_
      simp only [List.set_cons_zero, List.set_cons_succ] at b7
      have hkQ : k ≠ Q ∧ r ≠ Q ∧ x ≠ Q := ⟨by omega, by omega, by omega⟩
      have hxb'lt := X5.2.1.blt
      have hxbQ : xb' ≠ some Q := fun e => by
        rcases hxb5 Q e with q | q
        · have := hxbl Q q; omega
        · omega
      have c57 : Ch (fun b => b = Q) w5 w7 := (c6.mono fun _ _ h => h.elim).trans' c7
      have R7 := R5.chs c57 hkQ.1 hkQ.2.1
      have X7 := X5.ch c57 hkQ.2.2 fun j hj e => hxbQ (by rw [hj, e])
      have nb' : xb' ≠ some k ∧ xb' ≠ some r := by
        have hz4 := c4.size
        constructor
        · intro e
          rcases hxb5 k e with q | q
          · exact nbk q
          · omega
        · intro e
          rcases hxb5 r e with q | q
          · exact nbr q
          · omega
      refine ⟨tx, by simpa using cell_blk b7 0, qi, by simpa using cell_blk b7 1, bind_ok (x := (tx, qi)) R7 nkr (by show tx.size ≤ _; omega) (by show qi.size ≤ _; omega) fun w8 R8 c8 => ⟨_, rfl, ?_⟩⟩
      have b8 : blk w8 Q = some [.string tx, .string qi] := by rw [c8.blk (blk_lt b7) fun e => hkQ.2.1 e.symm]; exact b7
      have X8 := X7.ch c8 (fun e => nrx e.symm) fun j hj e => nb'.2 (by rw [hj, e])
      refine ⟨tx, by simpa using cell_blk b8 0, qi, by simpa using cell_blk b8 1, xbind_ok (y := (tx, qi)) X8 (by omega) (by show tx.size ≤ _; omega) (by show qi.size ≤ _; omega) fun p9 c9' b9' w9 X9 hb9 c9 => ⟨_, rfl, ?_⟩⟩
      rw [bne_self_eq_false]
      refine Sif_false ?_
      obtain ⟨q1, q2⟩ := bind_pat (y := (tx, qi)) hp5 (by show tx.size ≤ _; omega) hl5
      have R9 := R8.chs c9 (fun h => by rcases h with h | h; exact nkx h; exact nb'.1 h) (fun h => by rcases h with h | h; exact nrx h; exact nb'.2 h)
      have hz8 := c57.size
      have hz9 := c8.size
      rw [nameI_iff, wrap_id (n := (i : Int) + 1) (by omega) (by omega)]
      refine ⟨m - 1, by omega, i + 1, _, p9, c9', b9', qi, by omega, by omega, R9, X9, fun j hj => ?_, q1, q2, ?_, ?_⟩
      · rcases hb9 j hj with q | q
        · exact hxb5 j q
        · exact .inr (by omega)
      · refine ((c5.trans' (c57.mono fun b _ h => .inr (.inr (.inr h)))).trans' (c8.mono fun b _ h => .inl h)).trans c9 fun b hb h => ?_
        rcases h with h | h
        · exact .inr (.inl h)
        · rcases hxb5 b h with q | q
          · exact .inr (.inr (.inl q))
          · omega
      · rw [c9.blk (blk_lt b8) fun h => by rcases h with h | h; exact hkQ.2.2 h.symm; exact hxbQ h]; exact b8
    · refine done w5 B' px' cx' xb' R5 X5 (fun j hj => (hxb5 j hj).imp id fun h => by have := c4.size; omega) hp5 hl5 ((c4.mono (S' := fun b => b = r ∨ b = x ∨ xb = some b) fun _ _ h => h.elim).trans c5 fun b hb h => ?_)
      rcases h with h | h | h | h
      · exact .inl h
      · exact .inr (.inl h)
      · exact .inr (.inr h)
      · have := c01.size; omega
  · -- Bindings
    refine bindings_ok P4 (by omega) fun pl cl bl w5 N5 _ => ⟨_, _, _, rfl, xbindings_ok (X4.new N5.ch) (by omega) hBn fun pm cm bm w6 N6 => ⟨_, _, _, rfl, bindings_ok (P4.chs (N5.ch.trans' N6.ch) id id) (by omega) fun pa ca ba w7 N7 _ => ⟨_, _, _, rfl, ?_⟩⟩⟩
    have c47 := N5.ch.trans' (N6.ch.trans' N7.ch)
    have hSl := sortB_len B
    refine ⟨fun b w8 => b = true ∧ Ch (fun _ => False) w7 w8, ?_, ?_⟩
    · rintro b w8 ⟨rfl, c78⟩
      have c8 := c4.trans' (c47.trans' c78)
      have hz5 := N5.ch.size
      have hz6 := N6.ch.size
      have hz4 := c4.size
      have H8 := H.chs (S := fun _ => False) G c8 fun _ h => h.elim
      have t8 : ∀ b, b < O → retag (retag tg w4.heap.size bl (4, T2.length)) w6.heap.size ba (4, T2.length + 1) b = tg b := fun b hb => by
        rw [retag_old (by omega), retag_old (by omega)]
      have G8 := G.stay H fun b hb => t8 b (by omega)
      rw [nn_some]
      refine ⟨_, _, _, by simpa using cell_blk H8.head 1, ?_⟩
      have ol := N5.ow
      have oa := N7.ow
      rw [hSl] at ol oa
      refine H8.binds G8 (x := ⟨pl, B.length, cl, bl⟩) (y := ⟨pa, B.length, ca, ba⟩) (L := sortB B) (M := sortB B) (ol.ch (N6.ch.trans' (N7.ch.trans' c78)) fun _ _ => id) (oa.ch c78 fun _ _ => id) hSl hSl (fun j hj => ?_) (fun j hj => retag_new (N7.new j hj) hj) (by omega) fun p' c' b' w11 H11 G11 c11 hb11 => ?_
      · have := N5.ow.blt j hj
        rw [retag_old (by omega)]
        exact retag_new (N5.new j hj) hj
      · have t11 : ∀ b, b < O → retag (retag (retag tg w4.heap.size bl (4, T2.length)) w6.heap.size ba (4, T2.length + 1)) w8.heap.size b' (2, 0) b = tg b := fun b hb => by
          have := c8.size
          rw [retag_old (by omega)]; exact t8 b hb
        have c0 : Ch (fun b => (tg b).1 ≤ 2) w w11 := (c8.mono fun _ _ h => h.elim).trans c11 fun b hb h => by rw [t8 b (by omega)] at h; exact h
        refine hk w11 _ B px cx xb p1 c1 b1 T1 p' c' b' _ (P.chs (fun b hb => t11 b (by omega)) c0 fun b hb h => by omega) H11 G11 (by omega) (by simp) hs1 (fun z hz => ?_) t11 (c0.mono fun b _ h => .inr (.inr (.inr (by omega))))
        rcases List.mem_append.1 hz with hz | hz
        · exact hs2 z hz
        · simp only [List.mem_cons, List.not_mem_nil, or_false] at hz
          rcases hz with rfl | rfl <;> exact hBl
    · have r5 := N5.ow.rd
      have r6 := N6.ow.rd
      have r7 := N7.ow.rd
      have g1 := blike_ok (c := cl) (d := cm) (K := fun v3 w8 => ∃ b, v3 = .bool b ∧ Sif b (callP Tryz.prog 8 [.slice pa B.length ca, .slice pm B.length cm] w8 fun v4 w9 => ∃ b1, v4 = .bool b1 ∧ b1 = true ∧ Ch (fun _ => False) w7 w9) (false = true ∧ Ch (fun _ => False) w7 w8)) (r5.ch (N6.ch.trans' N7.ch) fun _ _ _ => id) (r6.ch N7.ch fun _ _ _ => id) (by omega) rfl fun w8 c8 => ⟨_, rfl, Sif_true ?_⟩
      · rw [hSl] at g1; exact g1
      · have g2 := blike_ok (c := ca) (d := cm) (K := fun v4 w9 => ∃ b1, v4 = .bool b1 ∧ b1 = true ∧ Ch (fun _ => False) w7 w9) (r7.ch c8 fun _ _ _ => id) (r6.ch (N7.ch.trans' c8) fun _ _ _ => id) (by omega) rfl fun w9 c9 => ⟨_, rfl, rfl, c8.trans' c9⟩
        rw [hSl] at g2; exact g2
end Go.Proofs.YtnibmhjdomndbaaGreatDoor
namespace Go.Proofs.YtnibmhjdomndbaaGreatDoor
open Go Go.Sv Go.Rt Go.Sort
set_option linter.unusedVariables false
structure OpR where
  kd : Int
  tx : ByteArray
  qu : ByteArray
  ot : Bool
def OpR.cells (o : OpR) : List Value := [.int .i64 o.kd, .string o.tx, .string o.qu, .bool o.ot]
theorem OpR.cells_len (o : OpR) : o.cells.length = 4 := rfl
theorem opAt {w : World} {p : Option Addr} {n : Nat} {L : List OpR} (h : Rd w p n 4 (L.flatMap OpR.cells)) {i : Nat} {x : OpR} (hi : L[i]? = some x) : ∃ k o, p = some ⟨k, o, none⟩ ∧ w.cell? ⟨k, o + i * 4, none⟩ = some (.int .i64 x.kd) ∧ w.cell? ⟨k, o + i * 4 + 1, none⟩ = some (.string x.tx) ∧ w.cell? ⟨k, o + i * 4 + 2, none⟩ = some (.string x.qu) ∧ w.cell? ⟨k, o + i * 4 + 3, none⟩ = some (.bool x.ot) := by
  obtain ⟨k, o, e, h⟩ := h.at OpR.cells_len hi (by decide)
  exact ⟨k, o, e, by simpa using h 0 _ rfl, by simpa using h 1 _ rfl, by simpa using h 2 _ rfl, by simpa using h 3 _ rfl⟩
/-- how all stands between two calls -/
def St (w w8 : World) (p : Option Addr) (k1 r1 x1 k2 r2 x2 lim : Nat) : Prop :=
  ∃ (a : Nat) (tg : Nat → Nat × Nat) (B1 : List Bd) (px1 : Option Addr) (cx1 : Nat) (xb1 : Option Nat) (B2 : List Bd) (px2 : Option Addr) (cx2 : Nat) (xb2 : Option Nat) (p1 : Option Addr) (c1 : Nat) (b1 : Option Nat) (T1 : List SL) (p2 : Option Addr) (c2 : Nat) (b2 : Option Nat) (T2 : List SL),
    p = some ⟨a, 0, none⟩ ∧ PR w8 tg 1 k1 r1 x1 B1 px1 cx1 xb1 ∧ PR w8 tg 2 k2 r2 x2 B2 px2 cx2 xb2 ∧ Told w8 a p1 c1 b1 T1 p2 c2 b2 T2 ∧ Tags tg a b1 T1 b2 T2 ∧ T1.length ≤ lim ∧ T2.length ≤ lim ∧ (∀ z ∈ T1, z.n ≤ 256) ∧ (∀ z ∈ T2, z.n ≤ 256) ∧ (∀ b, b < w.heap.size → tg b = (9, 0)) ∧ Ch (fun _ => False) w w8
theorem St.fresh {w w' : World} {tg : Nat → Nat × Nat} {k1 r1 x1 k2 r2 x2 lim : Nat} {B1 : List Bd} {px1 : Option Addr} {cx1 : Nat} {xb1 : Option Nat} {B2 : List Bd} {px2 : Option Addr} {cx2 : Nat} {xb2 : Option Nat} (P1 : PR w' tg 1 k1 r1 x1 B1 px1 cx1 xb1) (P2 : PR w' tg 2 k2 r2 x2 B2 px2 cx2 xb2)
    (hold : ∀ b, b < w.heap.size → tg b = (9, 0)) (c : Ch (fun _ => False) w w') {w2 : World} (hb : blk w2 w'.heap.size = some [.slice none 0 0, .slice none 0 0]) (c2 : Ch (fun _ => False) w' w2) : St w w2 (some ⟨w'.heap.size, 0, none⟩) k1 r1 x1 k2 r2 x2 lim := by
  have ht : ∀ b, b < w'.heap.size → (fun b => if b = w'.heap.size then (0, 0) else tg b) b = tg b := fun b h => if_neg (by omega)
  refine ⟨_, fun b => if b = w'.heap.size then (0, 0) else tg b, B1, px1, cx1, xb1, B2, px2, cx2, xb2, none, 0, none, [], none, 0, none, [], rfl, P1.chs ht c2 fun _ _ h => h.elim, P2.chs ht c2 fun _ _ h => h.elim,
    ⟨hb, Ow.nil, Ow.nil, ⟨fun _ => [], fun j x hx => by simp at hx⟩, ⟨fun _ => [], fun j x hx => by simp at hx⟩⟩, ⟨if_pos rfl, fun k hk => by simp at hk, fun k hk => by simp at hk, fun j x k hx => by simp at hx, fun j x k hx => by simp at hx⟩, Nat.zero_le _, Nat.zero_le _, by simp, by simp, fun b hb' => ?_, c.trans' c2⟩
  have := c.size
  rw [ht b (by omega)]; exact hold b hb'
set_option maxHeartbeats 8000000 in
theorem plays_law {w : World} {p : Option Addr} {c : Nat} {L : List OpR} {K : Value → World → Prop} (hR : Rd w p L.length 4 (L.flatMap OpR.cells)) (hL : L.length ≤ 2 ^ 40) (hs : ∀ o ∈ L, o.tx.size ≤ 2 ^ 39 ∧ o.qu.size ≤ 2 ^ 39)
    (hk : ∀ w', Ch (fun _ => False) w w' → K (.bool true) w') : callP Tryz.prog 3 [.slice p L.length c] w K := by
  refine ok_longshorelaw18_RoutePlays ?_
  unfold wp_longshorelaw18_RoutePlays
  refine awake_ok fun w1 c1 => ⟨_, rfl, new_ok fun k1 r1 w2 R2 hk1 hr1 hkr1 c2 => ⟨_, rfl, new_ok fun k2 r2 w3 R3 hk2 hr2 hkr2 c3 => ⟨_, rfl, ?_⟩⟩⟩
  refine ⟨fun w4 => w4 = w3, ?_, Sif_true (Sif_true (Sif_false rfl))⟩
  rintro w4 rfl
  refine newB_blk fun w5 b5 c5 z5 => newB_blk fun w6 b6 c6 z6 => newB_blk fun w7 b7 c7 z7 => ?_
  have hl2 := R2.lt
  have hl3 := R3.lt
  have s1 := c1.size
  have s2 := c2.size
  have s3 := c3.size
  generalize hX1 : w4.heap.size = X1 at *
  generalize hX2 : w5.heap.size = X2 at *
  have c36 := c3.trans' (c5.trans' c6)
  have R26 := R2.chs c36 id id
  have R36 := R3.chs (c5.trans' c6) id id
  have b56 : blk w6 X1 = some [.slice none 0 0] := by rw [c6.blk (blk_lt b5) id]; exact b5
  have c06 := c1.trans' (c2.trans' c36)
  -- the tags
  obtain ⟨tg, htg⟩ : ∃ tg : Nat → Nat × Nat, tg = fun b => if b = k1 then (5, 1) else if b = r1 then (6, 1) else if b = X1 then (7, 1) else if b = k2 then (5, 2) else if b = r2 then (6, 2) else if b = X2 then (7, 2) else (9, 0) := ⟨_, rfl⟩
  have P1 : PR w6 tg 1 k1 r1 X1 [] none 0 none := ⟨R26, ⟨b56, Ow.nil, by simp⟩, by rw [htg]; simp, by rw [htg]; simp [hkr1.symm], by rw [htg]; simp [show X1 ≠ k1 by omega, show X1 ≠ r1 by omega], by simp, by simp, by simp⟩
  have P2 : PR w6 tg 2 k2 r2 X2 [] none 0 none := ⟨R36, ⟨b6, Ow.nil, by simp⟩, by rw [htg]; simp [show k2 ≠ k1 by omega, show k2 ≠ r1 by omega, show k2 ≠ X1 by omega], by rw [htg]; simp [show r2 ≠ k1 by omega, show r2 ≠ r1 by omega, show r2 ≠ X1 by omega, hkr2.symm], by rw [htg]; simp [show X2 ≠ k1 by omega, show X2 ≠ r1 by omega, show X2 ≠ X1 by omega, show X2 ≠ k2 by omega, show X2 ≠ r2 by omega], by simp, by simp, by simp⟩
  have hold : ∀ b, b < w.heap.size → tg b = (9, 0) := fun b hb => by
    rw [htg]; simp [show b ≠ k1 by omega, show b ≠ r1 by omega, show b ≠ X1 by omega, show b ≠ k2 by omega, show b ≠ r2 by omega, show b ≠ X2 by omega]
  have S0 : St w w7 (some ⟨w6.heap.size, 0, none⟩) k1 r1 X1 k2 r2 X2 (2 * (0 % 16)) := St.fresh P1 P2 hold c06 b7 c7
  refine ⟨fun m q n w8 => ∃ i : Nat, n = (i : Int) ∧ m + i = L.length ∧ St w w8 q k1 r1 X1 k2 r2 X2 (2 * (i % 16)), ⟨L.length, 0, rfl, rfl, S0⟩, ?_⟩
  clear S0 P1 P2 hold htg c06 b56 R26 R36 c36 tg
  rintro m q n w8 ⟨i, rfl, hm, a, tg, B1, px1, cx1, xb1, B2, px2, cx2, xb2, p1, cc1, b1, T1, p2, cc2, b2, T2, rfl, P1, P2, H, G, hT1, hT2, hs1, hs2, hold, c8⟩
  have hmod : i % 16 < 16 := Nat.mod_lt _ (by decide)
  refine Sif_cases (fun g => ?_) fun g => ?_
  · have g := of_decide_eq_true g
    obtain ⟨o, ho⟩ : ∃ o, L[i]? = some o := ⟨_, List.getElem?_eq_getElem (by omega)⟩
    obtain ⟨ht, hq⟩ := hs o (List.mem_of_getElem? ho)
    obtain ⟨kb, ob, rfl, q0, q1, q2, q3⟩ := opAt (hR.ch c8 fun _ _ _ => id) ho
    refine ⟨fun q w9 => St w w9 q k1 r1 X1 k2 r2 X2 (2 * ((i + 1) % 16)), fun q w9 S9 => by rw [nameI_iff, wrap_id (n := (i : Int) + 1) (by omega) (by omega)]; exact ⟨m - 1, by omega, i + 1, by omega, by omega, S9⟩, ?_⟩
    refine ⟨fun b w9 => b = true ∧ St w w9 (some ⟨a, 0, none⟩) k1 r1 X1 k2 r2 X2 (2 * (i % 16) + 2), ?_, by omega, g, ?_⟩
    · rintro b w9 ⟨rfl, a', tg', B1, px1, cx1, xb1, B2, px2, cx2, xb2, p1, cc1, b1, T1, p2, cc2, b2, T2, ha, P1, P2, H, G, hT1, hT2, hs1, hs2, hold, c9⟩
      cases ha
      refine Sif_false ⟨by decide, ?_⟩
      rw [Int.tmod_eq_emod_of_nonneg (by omega)]
      refine Sif_cases (fun g2 => ?_) fun g2 => ?_
      · have g2 : i % 16 = 15 := by have := eq_of_beq g2; omega
        refine owned_ok H G (by omega) (by omega) (fun z hz => by have := hs1 z hz; omega) (fun z hz => by have := hs2 z hz; omega) fun w10 c10 => ⟨_, rfl, Sif_false (newB_blk fun w11 b11 c11 z11 => ?_)⟩
        have hS : ∀ b, b < w9.heap.size → (Own T1 b ∨ Own T2 b) → (tg' b).1 ≤ 4 := fun b _ h => by
          rcases h with h | h
          · obtain ⟨j, e⟩ := G.o1 h; rw [e]; exact (by decide : 3 ≤ 4)
          · obtain ⟨j, e⟩ := G.o2 h; rw [e]; exact (by decide : 4 ≤ 4)
        refine St.fresh (P1.chs (fun _ _ => rfl) c10 hS) (P2.chs (fun _ _ => rfl) c10 hS) hold (c9.trans c10 fun b hb h => ?_) b11 c11
        have hz := c9.size
        have h1 := hS b (by omega) h
        rw [hold b hb] at h1
        simp at h1
      · have g2 : i % 16 ≠ 15 := fun e => by
          rw [beq_eq_false_iff_ne] at g2
          exact g2 (by omega)
        have e : (i + 1) % 16 = i % 16 + 1 := by omega
        exact ⟨_, tg', B1, px1, cx1, xb1, B2, px2, cx2, xb2, p1, cc1, b1, T1, p2, cc2, b2, T2, rfl, P1, P2, H, G, by omega, by omega, hs1, hs2, hold, c9⟩
    · rw [nn_some]
      simp only [add_at, Int.toNat_natCast, Nat.add_zero]
      have hCh : ∀ (id : Nat) (w' : World), Ch (fun b => Touch id (tg b)) w8 w' → Ch (fun _ => False) w w' := fun id w' c' => c8.trans c' fun b hb h => by
        rw [hold b hb] at h
        rcases h with h | h | h | h
        · cases h
        · cases h
        · cases h
        · simp at h
      have hz8 := c8.size
      refine ⟨o.ot, q3, Sif_cases (fun _ => ⟨by omega, g, ?_⟩) fun _ => ⟨by omega, g, ?_⟩⟩
      · rw [nn_some]
        simp only [add_at]
        refine ⟨o.kd, q0, o.tx, q1, o.qu, q2, o.ot, q3, play_ok P2 H G (by omega) (by omega) hs1 hs2 ht hq fun w9 tg' B' px' cx' xb' p1' c1' b1' T1' p2' c2' b2' T2' P' H' G' hl1 hl2 hs1' hs2' ht' c9 => ⟨_, rfl, rfl, ?_⟩⟩
        exact ⟨a, tg', B1, px1, cx1, xb1, B', px', cx', xb', p1', c1', b1', T1', p2', c2', b2', T2', rfl, P1.other (by decide) ht' c9, P', H', G', by omega, by omega, hs1', hs2', fun b hb => by rw [ht' b (by omega)]; exact hold b hb, hCh 2 w9 c9⟩
      · rw [nn_some]
        simp only [add_at]
        refine ⟨o.kd, q0, o.tx, q1, o.qu, q2, o.ot, q3, play_ok P1 H G (by omega) (by omega) hs1 hs2 ht hq fun w9 tg' B' px' cx' xb' p1' c1' b1' T1' p2' c2' b2' T2' P' H' G' hl1 hl2 hs1' hs2' ht' c9 => ⟨_, rfl, rfl, ?_⟩⟩
        exact ⟨a, tg', B', px', cx', xb', B2, px2, cx2, xb2, p1', c1', b1', T1', p2', c2', b2', T2', rfl, P', P2.other (by decide) ht' c9, H', G', by omega, by omega, hs1', hs2', fun b hb => by rw [ht' b (by omega)]; exact hold b hb, hCh 1 w9 c9⟩
  · refine owned_ok H G (by omega) (by omega) (fun z hz => by have := hs1 z hz; omega) (fun z hz => by have := hs2 z hz; omega) fun w9 c9 => ⟨_, rfl, ?_⟩
    have hS : ∀ b, b < w8.heap.size → (Own T1 b ∨ Own T2 b) → (tg b).1 ≤ 4 := fun b _ h => by
      rcases h with h | h
      · obtain ⟨j, e⟩ := G.o1 h; rw [e]; exact (by decide : 3 ≤ 4)
      · obtain ⟨j, e⟩ := G.o2 h; rw [e]; exact (by decide : 4 ≤ 4)
    have Q1 := P1.chs (fun _ _ => rfl) c9 hS
    have Q2 := P2.chs (fun _ _ => rfl) c9 hS
    have c09 : Ch (fun _ => False) w w9 := c8.trans c9 fun b hb h => by
      have hz := c8.size
      have h1 := hS b (by omega) h
      rw [hold b hb] at h1
      simp at h1
    have l1 := Q1.len
    have l2 := Q2.len
    have e1 := sortB_len B1
    have e2 := sortB_len B2
    refine bindings_ok Q1.rt (by omega) fun pa ca ba w10 N10 _ => ⟨_, _, _, rfl, xbindings_ok (Q1.xr.new N10.ch) (by omega) (nodup_of Q1.rt) fun pb cb bb w11 N11 => ⟨_, _, _, rfl, ?_⟩⟩
    have g1 := blike_ok (c := ca) (d := cb) (K := fun v w12 => ∃ b, v = .bool b ∧ callP Tryz.prog 9 [.pointer (some ⟨k2, 0, none⟩)] w12 fun v7 w13 => ∃ p5 n3 c2, v7 = .slice p5 n3 c2 ∧ callP Tryz.prog 10 [.pointer (some ⟨X2, 0, none⟩)] w13 fun v8 w14 => ∃ p6 n4 c3, v8 = .slice p6 n4 c3 ∧ callP Tryz.prog 8 [.slice p5 n3 c2, .slice p6 n4 c3] w14 fun v9 w15 => ∃ b3, v9 = .bool b3 ∧ Sif true (Sif b (K (.bool b3) w15) (K (.bool false) w15)) (K (.bool false) w15)) (N10.ow.rd.ch N11.ch fun _ _ _ => id) N11.ow.rd (by omega) rfl fun w12 c12 => ⟨true, rfl, ?_⟩
    · rw [e1] at g1; exact g1
    · have cA := N10.ch.trans' (N11.ch.trans' c12)
      refine bindings_ok (Q2.rt.chs cA id id) (by omega) fun pc cc bc w13 N13 _ => ⟨_, _, _, rfl, xbindings_ok (Q2.xr.new (cA.trans' N13.ch)) (by omega) (nodup_of Q2.rt) fun pd cd bd w14 N14 => ⟨_, _, _, rfl, ?_⟩⟩
      have g2 := blike_ok (c := cc) (d := cd) (K := fun v9 w15 => ∃ b3, v9 = .bool b3 ∧ Sif true (Sif true (K (.bool b3) w15) (K (.bool false) w15)) (K (.bool false) w15)) (N13.ow.rd.ch N14.ch fun _ _ _ => id) N14.ow.rd (by omega) rfl fun w15 c15 => ⟨true, rfl, Sif_true (Sif_true (hk _ ?_))⟩
      · rw [e2] at g2; exact g2
      · exact c09.trans' (cA.trans' (N13.ch.trans' (N14.ch.trans' c15)))
end Go.Proofs.YtnibmhjdomndbaaGreatDoor
