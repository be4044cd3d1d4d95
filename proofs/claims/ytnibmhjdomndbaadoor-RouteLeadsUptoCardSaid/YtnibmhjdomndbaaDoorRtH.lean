/-
  lies and Fits of the program; fits and Fits of the document.
-/
import Derived.Test.YtnibmhjdomndbaaDoorRtG
namespace Go.Proofs.YtnibmhjdomndbaaDoor
open Go Go.Sv Go.Rt
set_option linter.unusedVariables false
theorem Rd_sub {w : World} {p : Option Addr} {n c : Nat} {xs : List Value} (h : Rd w p n 1 xs) {j : Nat} (hj : j ≤ n) (hc : n ≤ c) : Rd w (subA p j c 1) (n - j) 1 (xs.drop j) := by
  obtain ⟨h1, h2⟩ := h
  refine ⟨by rw [List.length_drop, h1]; omega, ?_⟩
  by_cases hjn : j = n
  · exact .inl (by omega)
  · rcases h2 with h2 | ⟨b, o, cs, rfl, hb, hl, ht⟩
    · omega
    · refine .inr ⟨b, o + j, cs, ?_, hb, by omega, ?_⟩
      · unfold subA; rw [if_neg (by omega)]; simp
      · rw [← ht, ← List.drop_drop, List.drop_take]
        congr 1; omega
theorem drop_cells (L : List ByteArray) (j : Nat) : (L.flatMap sCell).drop j = (L.drop j).flatMap sCell := by
  induction L generalizing j with
  | nil => simp
  | cons x L ih =>
    cases j with
    | zero => rfl
    | succ j => simp [sCell, ih]
theorem Rd_drop {w : World} {p : Option Addr} {c : Nat} {L : List ByteArray} (h : Rd w p L.length 1 (L.flatMap sCell)) {j : Nat} (hj : j ≤ L.length) (hc : L.length ≤ c) :
    Rd w (subA p j c 1) (L.drop j).length 1 ((L.drop j).flatMap sCell) := by
  rw [List.length_drop, ← drop_cells]; exact Rd_sub h hj hc
theorem Rd_d {w w' : World} {p : Option Addr} {n : Nat} {xs : List Value} (h : Rd w p n 1 xs) (c : Ch (fun _ => False) w w') : Rd w' p n 1 xs := h.ch c fun _ _ _ => id
set_option maxHeartbeats 1000000 in
theorem lies_ok {w : World} {p q : Option Addr} {c d : Nat} {L ws : List ByteArray} {K : Value → World → Prop} (hR : Rd w p L.length 1 (L.flatMap sCell)) (hW : Rd w q ws.length 1 (ws.flatMap sCell)) (h8 : L.length ≤ 8) (hw : ws.length ≤ 2 ^ 40)
    (hk : ∀ b : Bool, (b = true ↔ Mp L ws) → K (.bool b) w) : callP Tryd.prog 22 [.slice p L.length c, .slice q ws.length d] w K := by
  refine ok_route_lies ?_
  unfold wp_route_lies
  refine wide_ok (a := 1) (I := (· = 0)) hR h8 (IsSet.one _) fun b hb => ⟨_, rfl, ?_⟩
  refine ⟨fun m n1 n2 w2 => ∃ (i b : Nat), n2 = (i : Int) ∧ n1 = (b : Int) ∧ m + i = ws.length ∧ IsSet b L.length (At L (ws.take i)) ∧ w2 = w, ⟨ws.length, 0, b, rfl, rfl, rfl, hb.congr (fun k hk => by rw [List.take_zero]; exact At_start L k hk), rfl⟩, ?_⟩
  rintro m n1 n2 w2 ⟨i, b, rfl, rfl, hm, hb, rfl⟩
  refine Sif_cases (fun h => ?_) fun h => ?_
  · have h := of_decide_eq_true h
    have hx : ws[i]? = some ws[i] := List.getElem?_eq_getElem (by omega)
    refine ⟨by omega, h, ?_⟩
    obtain ⟨b', o, rfl, hc⟩ := sAt hW hx
    rw [nn_some]
    have hc' : w2.cell? ((⟨b', o, none⟩ : Addr).add ((i : Int).toNat * 1)) = some (.string ws[i]) := by simp only [add_at, Int.toNat_natCast, Nat.mul_one]; exact hc
    refine ⟨_, hc', on_ok hR h8 hb fun b2 hb2 => ⟨_, rfl, m - 1, by omega, ?_⟩⟩
    rw [wrap_id (n := (i : Int) + 1) (by omega) (by omega)]
    refine ⟨i + 1, b2, by omega, rfl, by omega, hb2.congr fun k hk => ?_, rfl⟩
    rw [List.take_add_one, hx, Option.toList_some]
    exact At_step L _ _ k hk
  · have h := of_decide_eq_false h
    have hi : i = ws.length := by omega
    subst hi
    rw [List.take_length] at hb
    refine ⟨by omega, ?_⟩
    rw [tst (hb.lt h8) h8]
    refine hk _ ?_
    rw [hb L.length, At_end]
    exact ⟨fun h => h.2, fun h => ⟨Nat.le_refl _, h⟩⟩
/-- what Fits says -/
def FitsR (p t : ByteArray) (b : Bool) (e : Int) : Prop :=
  (isPat p = false ∧ b = false ∧ e = 180) ∨ (isPat p = true ∧ isTop t = false ∧ b = false ∧ e = 82) ∨ (isPat p = true ∧ isTop t = true ∧ e = 0 ∧ (b = true ↔ Mp (parts p) (parts t)))
theorem FitsR.one {p t : ByteArray} {b b' : Bool} {e e' : Int} (h : FitsR p t b e) (k : FitsR p t b' e') : b = b' ∧ e = e' := by
  rcases h with ⟨h1, rfl, rfl⟩ | ⟨h1, h2, rfl, rfl⟩ | ⟨h1, h2, rfl, h4⟩ <;> rcases k with ⟨k1, rfl, rfl⟩ | ⟨k1, k2, rfl, rfl⟩ | ⟨k1, k2, rfl, k4⟩
  all_goals (first | (rw [h1] at k1; cases k1; done) | (rw [h2] at k2; cases k2; done) | exact ⟨rfl, rfl⟩ | skip)
  refine ⟨?_, rfl⟩
  rw [Bool.eq_iff_iff, h4, k4]
theorem pat_len {s : ByteArray} (h : isPat s = true) : (parts s).length ≤ 8 := by
  rw [isPat_eq] at h; simp only [Bool.and_eq_true, decide_eq_true_eq] at h; exact h.1.2
theorem top_len {s : ByteArray} (h : isTop s = true) : (parts s).length ≤ 8 := by
  rw [isTop_eq] at h; simp only [Bool.and_eq_true, decide_eq_true_eq] at h; exact h.2
theorem fits_prog {p t : ByteArray} {w : World} {K : Value → World → Prop} (hp : p.size ≤ 2 ^ 40) (ht : t.size ≤ 2 ^ 40) (hk : ∀ b e w', FitsR p t b e → Ch (fun _ => False) w w' → K (.tuple #[.bool b, .int .i64 e]) w') :
    callP Tryd.prog 9 [.string p, .string t] w K := by
  refine ok_route_Fits ?_
  unfold wp_route_Fits
  refine cut_ok hp (fun hf w1 C1 => ⟨_, _, _, rfl, Sif_false (cut_ok ht (fun hg w2 C2 => ⟨_, _, _, rfl, Sif_false ?_⟩) fun hg w2 c2 => ⟨_, _, _, rfl, Sif_true (hk _ _ _ (.inr (.inl ⟨hf, hg, rfl, rfl⟩)) (C1.1.ch.trans' c2))⟩)⟩) fun hf w1 c1 => ⟨_, _, _, rfl, Sif_true (hk _ _ _ (.inl ⟨hf, rfl, rfl⟩) c1)⟩
  have hg' : isTop t = true := hg
  have := top_len hg'
  refine lies_ok (Rd_d C1.1.rd C2.1.ch) C2.1.rd (pat_len hf) (by omega) fun b hb => ⟨_, rfl, hk _ _ _ (.inr (.inr ⟨hf, hg, rfl, hb⟩)) (C1.1.ch.trans' C2.1.ch)⟩
set_option maxHeartbeats 1000000 in
theorem fitsw_ok : ∀ (L ws : List ByteArray) {w : World} {p q : Option Addr} {c d : Nat} {K : Value → World → Prop}, Rd w p L.length 1 (L.flatMap sCell) → Rd w q ws.length 1 (ws.flatMap sCell) → L.length ≤ c → ws.length ≤ d → ws.length ≤ 2 ^ 40 →
    (∀ (b : Bool) w', (b = true ↔ Mp L ws) → Ch (fun _ => False) w w' → K (.bool b) w') → callP Tryd.prog 25 [.slice p L.length c, .slice q ws.length d] w K
  | [], ws, w, p, q, c, d, K, hR, hW, hc, hd, hw, hk => by
    refine ok_longshoreref18_fits ?_
    unfold wp_longshoreref18_fits
    refine Sif_true (hk _ _ ?_ (Ch.refl _ _))
    simp only [Rt.Mp, beq_iff_eq]
    rw [← List.length_eq_zero_iff]; omega
  | x :: L, ws, w, p, q, c, d, K, hR, hW, hc, hd, hw, hk => by
    refine ok_longshoreref18_fits ?_
    unfold wp_longshoreref18_fits
    have h0 : (((x :: L).length : Int) == 0) = false := by rw [beq_eq_false_iff_ne, List.length_cons]; omega
    rw [h0]
    refine Sif_false ⟨by decide, by rw [List.length_cons]; omega, ?_⟩
    obtain ⟨b0, o0, hp, hc0⟩ := sAt (i := 0) (x := x) hR rfl
    have hR1 := Rd_drop hR (j := 1) (by rw [List.length_cons]; omega) hc
    rw [hp, nn_some, ← hp]
    refine ⟨x, hc0, ?_⟩
    rw [hash_eq]
    refine Sif_cases (fun h1 => ?_) fun h1 => ?_
    · have h1 : x = Rt.hash := eq_of_beq h1
      subst h1
      refine ⟨fun m n w1 => ∃ i : Nat, n = (i : Int) ∧ m + i = ws.length + 1 ∧ (∀ j, j < i → ¬ Mp L (ws.drop j)) ∧ Ch (fun _ => False) w w1, ⟨_, 0, rfl, rfl, (fun j hj => by omega), Ch.refl _ _⟩, ?_⟩
      rintro m n w1 ⟨i, rfl, hm, hn, c1⟩
      refine Sif_cases (fun h => ?_) fun h => ?_
      · have h := of_decide_eq_true h
        have c2 := c1.trans' (Ch.d0 (w := w1))
        refine ⟨by decide, by rw [List.length_cons]; omega, by omega, h, ?_⟩
        rw [Int.toNat_natCast]
        have g := fitsw_ok L (ws.drop i) (w := w1.drew) (c := c - 1) (d := d - i) (Rd_d hR1 c2) (Rd_d (Rd_drop hW (j := i) (by omega) hd) c2) (by rw [List.length_cons] at hc; omega) (by rw [List.length_drop]; omega) (by rw [List.length_drop]; omega)
          (K := fun v w2 => ∃ b : Bool, v = .bool b ∧ Sif b (K (.bool true) w2) (nameI (IntKind.wrap .i64 ((i : Int) + 1)) fun n1 => ∃ m', m' < m ∧ ∃ i : Nat, n1 = (i : Int) ∧ m' + i = ws.length + 1 ∧ (∀ j, j < i → ¬ Mp L (ws.drop j)) ∧ Ch (fun _ => False) w w2))
          fun b w2 hb c3 => ⟨b, rfl, Sif_cases (fun h5 => ?_) fun h5 => ?_⟩
        · rw [List.length_drop] at g
          exact g
        · refine hk _ _ ?_ (c2.trans' c3)
          simp only [true_iff]
          exact .inl ⟨rfl, ws.take i, ws.drop i, (List.take_append_drop _ _).symm, hb.1 h5⟩
        · rw [nameI_iff, wrap_id (n := (i : Int) + 1) (by omega) (by omega)]
          refine ⟨m - 1, by omega, i + 1, by omega, by omega, fun j hj => ?_, c2.trans' c3⟩
          by_cases hji : j = i
          · rw [hji]; intro h6; rw [hb.2 h6] at h5; cases h5
          · exact hn j (by omega)
      · have h := of_decide_eq_false h
        refine hk _ _ ?_ c1
        simp only [Bool.false_eq_true, false_iff, Rt.Mp]
        rintro (⟨_, u, v, rfl, h2⟩ | ⟨h1, _⟩)
        · exact hn u.length (by simp at hm h; omega) (by rw [List.drop_left]; exact h2)
        · exact h1 rfl
    · have h1 : x ≠ Rt.hash := beq_eq_false_iff_ne.1 h1
      have rej : (∀ y v, ws = y :: v → okw x y → False) → K (.bool false) w.drew := fun hn => by
        refine hk _ _ ?_ Ch.d0
        simp only [Bool.false_eq_true, false_iff, Rt.Mp]
        rintro (⟨h2, _⟩ | ⟨_, y, v, h3, h4, _⟩)
        · exact h1 h2
        · exact hn y v h3 h4
      refine ⟨fun w1 => Ch (fun _ => False) w w1 ∧ ∃ y v, ws = y :: v ∧ okw x y, ?_, ?_⟩
      · rintro w1 ⟨c1, y, v, rfl, hok⟩
        have c2 := c1.trans' (Ch.d0 (w := w1))
        refine ⟨by decide, by rw [List.length_cons]; omega, by decide, by rw [List.length_cons]; omega, ?_⟩
        have g := fitsw_ok L v (w := w1.drew) (c := c - 1) (d := d - 1) (Rd_d hR1 c2) (Rd_d (Rd_drop hW (j := 1) (by rw [List.length_cons]; omega) hd) c2) (by rw [List.length_cons] at hc; omega) (by rw [List.length_cons] at hd; omega) (by rw [List.length_cons] at hw; omega)
          (K := fun v w2 => ∃ b : Bool, v = .bool b ∧ K (.bool b) w2) fun b w2 hb c3 => ⟨b, rfl, hk _ _ ?_ (c2.trans' c3)⟩
        · exact g
        · rw [hb]
          simp only [Rt.Mp]
          constructor
          · exact fun h => .inr ⟨h1, y, v, rfl, hok, h⟩
          · rintro (⟨h2, _⟩ | ⟨_, y', v', h3, h4, h5⟩)
            · exact absurd h2 h1
            · obtain ⟨rfl, rfl⟩ := List.cons.inj h3; exact h5
      · refine Sif_cases (fun h2 => ⟨by decide, by rw [List.length_cons]; omega, ?_⟩) fun h2 => rej fun y v e _ => ?_
        · obtain ⟨y, v, rfl⟩ : ∃ y v, ws = y :: v := by
            cases ws with
            | nil => exact absurd h2 (by decide)
            | cons y v => exact ⟨y, v, rfl⟩
          obtain ⟨b1, o1, hq, hc1⟩ := sAt (i := 0) (x := y) hW rfl
          rw [hp, nn_some, ← hp]
          refine ⟨x, hc0, ?_⟩
          rw [star_eq]
          refine Sif_cases (fun h3 => ⟨by decide, by rw [List.length_cons]; omega, ?_⟩) fun h3 => ⟨Ch.d0, y, v, rfl, .inl (eq_of_beq (by simpa using h3))⟩
          rw [hp, nn_some]
          refine ⟨by decide, by rw [List.length_cons]; omega, ?_⟩
          rw [hq, nn_some]
          refine ⟨x, hc0, y, hc1, ?_⟩
          rw [beq_ba]
          refine Sif_cases (fun h4 => rej fun y' v' e hok => ?_) fun h4 => ⟨Ch.d0, y, v, rfl, .inr (eq_of_beq (by simpa using h4))⟩
          obtain ⟨rfl, rfl⟩ := List.cons.inj e
          rcases hok with h5 | h5
          · rw [h5] at h3; simp at h3
          · rw [h5] at h4; simp at h4
        · subst e
          revert h2
          have : (((y :: v).length : Int) == 0) = false := by rw [beq_eq_false_iff_ne, List.length_cons]; omega
          rw [this]; decide
theorem fits_ref {p t : ByteArray} {w : World} {K : Value → World → Prop} (hp : p.size ≤ 2 ^ 40) (ht : t.size ≤ 2 ^ 40) (hk : ∀ b e w', FitsR p t b e → Ch (fun _ => False) w w' → K (.tuple #[.bool b, .int .i64 e]) w') :
    callP Tryd.prog 10 [.string p, .string t] w K := by
  refine ok_longshoreref18_Fits ?_
  unfold wp_longshoreref18_Fits
  refine pattern_ok hp fun w1 c1 => ⟨_, rfl, Sif_cases (fun h => hk _ _ _ (.inl ⟨by simpa using h, rfl, rfl⟩) c1) fun h => ?_⟩
  have h : isPat p = true := by simpa using h
  refine topic_ok ht fun w2 c2 => ⟨_, rfl, Sif_cases (fun h3 => hk _ _ _ (.inr (.inl ⟨h, by simpa using h3, rfl, rfl⟩)) (c1.trans' c2)) fun h3 => ?_⟩
  have h3 : isTop t = true := by simpa using h3
  have h8 := top_len h3
  refine parts_ok hp fun p1 d1 b1 w3 N1 => ⟨_, _, _, rfl, parts_ok ht fun p2 d2 b2 w4 N2 => ⟨_, _, _, rfl, ?_⟩⟩
  refine fitsw_ok _ _ (Rd_d N1.rd N2.ch) N2.rd N1.ow.2.1 N2.ow.2.1 (by omega) fun b w5 hb c5 => ⟨_, rfl, hk _ _ _ (.inr (.inr ⟨h, h3, rfl, hb⟩)) (((((c1.trans' c2).trans' N1.ch)).trans' N2.ch).trans' c5)⟩
end Go.Proofs.YtnibmhjdomndbaaDoor
