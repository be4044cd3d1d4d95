/-
  RouteLeads: Match is what Bindings and Fits say.
-/
import Derived.Test.YtnibmhjdomndbaaDoorRtW
import Derived.Test.YtnibmhjdomndbaaDoorRtT
namespace Go.Proofs.YtnibmhjdomndbaaDoor
open Go Go.Sv Go.Rt Go.Sort
set_option linter.unusedVariables false
theorem bAt {w : World} {p : Option Addr} {n : Nat} {L : List Bd} (h : Rd w p n 2 (L.flatMap bCells)) {i : Nat} {x : Bd} (hi : L[i]? = some x) : ∃ k o, p = some ⟨k, o, none⟩ ∧ w.cell? ⟨k, o + i * 2, none⟩ = some (.string x.1) ∧ w.cell? ⟨k, o + i * 2 + 1, none⟩ = some (.string x.2) := by
  obtain ⟨k, o, e, h⟩ := h.at bCells_len hi (by decide)
  exact ⟨k, o, e, by simpa using h 0 _ rfl, by simpa using h 1 _ rfl⟩
theorem has_ok {w : World} {p : Option Addr} {c : Nat} {L : List ByteArray} {s : ByteArray} {K : Value → World → Prop} (hR : Rd w p L.length 1 (L.flatMap sCell)) (hL : L.length ≤ 2 ^ 40) (hk : K (.bool (decide (s ∈ L))) w) : callP Tryd.prog 43 [.slice p L.length c, .string s] w K := by
  refine ok_longshorelaw18_has ?_
  unfold wp_longshorelaw18_has
  refine ⟨fun m n w1 => ∃ i : Nat, n = (i : Int) ∧ m + i = L.length ∧ w1 = w ∧ s ∉ L.take i, ⟨L.length, 0, rfl, rfl, rfl, by simp⟩, ?_⟩
  rintro m n w1 ⟨i, rfl, hm, rfl, hn⟩
  refine Sif_cases (fun h => ⟨by omega, of_decide_eq_true h, ?_⟩) fun h => ?_
  · have h := of_decide_eq_true h
    obtain ⟨x, hx⟩ : ∃ x, L[i]? = some x := ⟨_, List.getElem?_eq_getElem (by omega)⟩
    obtain ⟨k, o, rfl, hc⟩ := sAt hR hx
    rw [nn_some]
    simp only [add_at, Int.toNat_natCast, Nat.mul_one]
    refine ⟨x, hc, Sif_cases (fun g => ?_) fun g => ?_⟩
    · rw [beq_ba] at g
      have := List.mem_of_getElem? hx
      rw [eq_of_beq g] at this
      rw [decide_eq_true this] at hk; exact hk
    · rw [beq_ba, beq_eq_false_iff_ne] at g
      rw [nameI_iff, wrap_id (n := (i : Int) + 1) (by omega) (by omega)]
      refine ⟨m - 1, by omega, i + 1, by omega, by omega, by trivial, ?_⟩
      rw [List.take_add_one, hx, Option.toList_some, List.mem_append, List.mem_singleton]
      rintro (e | e)
      · exact hn e
      · exact g e.symm
  · have h := of_decide_eq_false h
    have hi : i = L.length := by omega
    rw [hi, List.take_length] at hn
    rw [decide_eq_false hn] at hk; exact hk
theorem lessD (a b : ByteArray) : Op.bytesLess a.toList b.toList = decide (dl a < dl b) := lessB a b
theorem grtD (a b : ByteArray) : (!(Op.bytesLess a.toList b.toList || a.toList == b.toList)) = decide (dl b < dl a) := grtB a b
theorem no_lt {a b : List UInt8} (h : a < b) : ¬ b < a := fun k => List.lt_irrefl _ (List.lt_trans h k)
set_option maxHeartbeats 4000000 in
theorem led_ok {w : World} {p q : Option Addr} {c d : Nat} {L : List Bd} {M : List ByteArray} {t dr : ByteArray} {K : Value → World → Prop} (hR : Rd w p L.length 2 (L.flatMap bCells)) (hM : Rd w q M.length 1 (M.flatMap sCell)) (hL : L.length ≤ 2 ^ 40) (hMl : M.length ≤ 2 ^ 40)
    (hA : AscB L) (hx : ∀ x ∈ L, isPat x.1 = true ∧ x.1.size ≤ 2 ^ 40 ∧ x.2 ≠ dr) (ht : isTop t = true) (hts : t.size ≤ 2 ^ 40) (hMA : Asc M) (hMm : ∀ z, z ∈ M ↔ leads L t z) (hk : ∀ w', Ch (fun _ => False) w w' → K (.bool true) w') :
    callP Tryd.prog 20 [.slice p L.length c, .slice q M.length d, .string t, .string dr] w K := by
  refine ok_longshorelaw18_led ?_
  unfold wp_longshorelaw18_led
  refine ⟨fun m n w1 => ∃ i : Nat, n = (i : Int) ∧ m + i = L.length ∧ Ch (fun _ => False) w w1, ⟨L.length, 0, rfl, rfl, Ch.refl _ _⟩, ?_⟩
  rintro m n w1 ⟨i, rfl, hm, c1⟩
  refine Sif_cases (fun h => ?_) fun h => ?_
  · have h := of_decide_eq_true h
    obtain ⟨x, hxi⟩ : ∃ x, L[i]? = some x := ⟨_, List.getElem?_eq_getElem (by omega)⟩
    obtain ⟨hp, hs, hq⟩ := hx x (List.mem_of_getElem? hxi)
    refine ⟨fun w2 => Ch (fun _ => False) w w2, fun w2 c2 => by rw [nameI_iff, wrap_id (n := (i : Int) + 1) (by omega) (by omega)]; exact ⟨m - 1, by omega, i + 1, by omega, by omega, c2⟩, ?_⟩
    refine ⟨fun w2 => Ch (fun _ => False) w w2, fun w2 c2 => ?_, ?_⟩
    · obtain ⟨k, o, rfl, h1, h2⟩ := bAt (hR.ch c2 fun _ _ _ => id) hxi
      refine ⟨by omega, h, ?_⟩
      rw [nn_some]
      simp only [add_at, Int.toNat_natCast, Nat.add_zero]
      refine ⟨x.1, h1, fits_prog hs hts fun b e w3 hf c3 => ⟨b, e, rfl, ?_⟩⟩
      obtain ⟨k3, o3, e3, h3, h4⟩ := bAt (hR.ch (c2.trans' c3) fun _ _ _ => id) hxi
      cases e3
      rcases fitsR_in hf hp with ⟨g, _⟩ | ⟨_, rfl, hb⟩
      · rw [ht] at g; cases g
      refine ⟨fun w4 => w4 = w3, ?_, Sif_true ⟨by omega, h, ?_⟩⟩
      · rintro w4 rfl
        refine ⟨by omega, h, ?_⟩
        rw [nn_some]
        simp only [add_at]
        refine ⟨x.2, h4, has_ok (Rd_d hM (c2.trans' c3)) hMl ⟨_, rfl, Sif_cases (fun g => Sif_cases (fun g2 => ?_) fun _ => c2.trans' c3) fun _ => c2.trans' c3⟩⟩
        have : x.2 ∈ M := (hMm _).2 ⟨x, List.mem_of_getElem? hxi, rfl, hb.1 g⟩
        rw [decide_eq_true this] at g2; cases g2
      · rw [nn_some]
        simp only [add_at]
        refine ⟨x.2, h4, Sif_cases (fun g => ?_) fun _ => by trivial⟩
        rw [beq_ba] at g
        exact absurd (eq_of_beq g) hq
    · refine Sif_cases (fun h0 => ?_) fun _ => c1.trans' Ch.d0
      have h0 := of_decide_eq_true h0
      have hw : IntKind.wrap .i64 ((i : Int) - 1) = ((i - 1 : Nat) : Int) := by rw [wrap_id (by omega) (by omega)]; omega
      rw [hw]
      obtain ⟨y, hyi⟩ : ∃ y, L[i - 1]? = some y := ⟨_, List.getElem?_eq_getElem (by omega)⟩
      have hlt : ltB y x := by
        obtain ⟨h5, e5⟩ := List.getElem?_eq_some_iff.1 hyi
        obtain ⟨h6, e6⟩ := List.getElem?_eq_some_iff.1 hxi
        rw [← e5, ← e6]
        exact List.pairwise_iff_getElem.1 hA (i - 1) i h5 h6 (by omega)
      have cd := c1.trans' (Ch.d0 (w := w1))
      obtain ⟨k, o, rfl, h1, h2⟩ := bAt (hR.ch cd fun _ _ _ => id) hxi
      obtain ⟨k', o', e, h3, h4⟩ := bAt (hR.ch cd fun _ _ _ => id) hyi
      cases e
      refine ⟨by omega, by omega, ?_⟩
      rw [nn_some]
      refine ⟨by omega, h, ?_⟩
      rw [nn_some]
      simp only [add_at, Int.toNat_natCast, Nat.add_zero, nn_some]
      refine ⟨y.1, h3, x.1, h1, ?_⟩
      rw [grtD]
      refine Sif_cases (fun g => ⟨by omega, by omega, by omega, h, y.1, h3, x.1, h1, Sif_cases (fun g2 => ⟨by omega, by omega, by omega, h, y.2, h4, x.2, h2, ?_⟩) fun _ => cd⟩) fun g => ?_
      · rcases hlt with hl | ⟨_, hl⟩
        · rw [beq_ba] at g2
          rw [eq_of_beq g2] at hl; exact absurd hl (List.lt_irrefl _)
        · rw [lessD, decide_eq_true hl]; exact Sif_false cd
      · have g : dl x.1 < dl y.1 := by simpa using g
        rcases hlt with hl | ⟨e, _⟩
        · exact absurd g (no_lt hl)
        · rw [e] at g; exact absurd g (List.lt_irrefl _)
  · refine ⟨fun m n w2 => ∃ i : Nat, n = (i : Int) ∧ m + i = M.length ∧ Ch (fun _ => False) w w2, ⟨M.length, 0, rfl, rfl, c1⟩, ?_⟩
    rintro m2 n2 w2 ⟨j, rfl, hm2, c2⟩
    refine Sif_cases (fun h2 => ?_) fun h2 => hk _ c2
    have h2 := of_decide_eq_true h2
    obtain ⟨z, hzj⟩ : ∃ z, M[j]? = some z := ⟨_, List.getElem?_eq_getElem (by omega)⟩
    obtain ⟨x0, hx0, hxz, hxf⟩ := (hMm z).1 (List.mem_of_getElem? hzj)
    refine ⟨fun w3 => Ch (fun _ => False) w w3, fun w3 c3 => by rw [nameI_iff, wrap_id (n := (j : Int) + 1) (by omega) (by omega)]; exact ⟨m2 - 1, by omega, j + 1, by omega, by omega, c3⟩, ?_⟩
    refine ⟨fun w3 => Ch (fun _ => False) w w3, fun w3 c3 => ?_, ?_⟩
    · refine ⟨fun m3 b n3 w4 => ∃ i : Nat, n3 = (i : Int) ∧ m3 + i = L.length ∧ Ch (fun _ => False) w w4 ∧ (b = false → ∀ x ∈ L.take i, ¬ (x.2 = z ∧ Rt.Mp (parts x.1) (parts t))), ⟨L.length, 0, rfl, rfl, c3, by simp⟩, ?_⟩
      rintro m3 b n3 w4 ⟨i', rfl, hm3, c4, hno⟩
      refine ⟨fun w5 => w5 = w4 ∧ i' < L.length ∧ b = false, ?_, ?_⟩
      · rintro w5 ⟨rfl, hi', rfl⟩
        have hno := hno rfl
        obtain ⟨x, hxi⟩ : ∃ x, L[i']? = some x := ⟨_, List.getElem?_eq_getElem hi'⟩
        obtain ⟨hp, hs, hq⟩ := hx x (List.mem_of_getElem? hxi)
        have cd := c4.trans' (Ch.d0 (w := w5))
        obtain ⟨k, o, rfl, h3, h4⟩ := bAt (hR.ch cd fun _ _ _ => id) hxi
        obtain ⟨k2, o2, rfl, h5⟩ := sAt (Rd_d hM cd) hzj
        refine ⟨fun b1 w6 => Ch (fun _ => False) w w6 ∧ (b1 = false → ¬ (x.2 = z ∧ Rt.Mp (parts x.1) (parts t))), ?_, by omega, by omega, ?_⟩
        · rintro b1 w6 ⟨c6, hb1⟩
          rw [nameI_iff, wrap_id (n := (i' : Int) + 1) (by omega) (by omega)]
          refine ⟨m3 - 1, by omega, i' + 1, by omega, by omega, c6, fun e y hy => ?_⟩
          rw [List.take_add_one, hxi, Option.toList_some, List.mem_append, List.mem_singleton] at hy
          rcases hy with hy | rfl
          · exact hno y hy
          · exact hb1 e
        · rw [nn_some]
          refine ⟨by omega, h2, ?_⟩
          rw [nn_some]
          simp only [add_at, Int.toNat_natCast, Nat.mul_one, Nat.add_zero, nn_some]
          refine ⟨x.2, h4, z, h5, ?_⟩
          rw [beq_ba]
          refine Sif_cases (fun g => ⟨by omega, by omega, x.1, h3, fits_prog hs hts fun b e w6 hf c6 => ⟨b, e, rfl, cd.trans' c6, fun eb => ?_⟩⟩) fun g => ⟨cd, fun _ => fun k => ?_⟩
          · rcases fitsR_in hf hp with ⟨g, _⟩ | ⟨_, _, hb⟩
            · rw [ht] at g; cases g
            · rintro ⟨_, k⟩
              rw [hb.2 k] at eb; cases eb
          · rw [beq_eq_false_iff_ne] at g
            exact g k.1
      · refine Sif_cases (fun g => Sif_cases (fun g2 => ⟨rfl, by have := of_decide_eq_true g; omega, by simpa using g2⟩) fun g2 => ?_) fun g => Sif_cases (fun g2 => ?_) fun g2 => c4
        · have hb : b = true := by simpa using g2
          rw [hb]; exact Sif_false c4
        · exfalso
          have g := of_decide_eq_false g
          have hi : i' = L.length := by omega
          subst hi
          have := hno (by simpa using g2) x0 (by rw [List.take_length]; exact hx0)
          exact this ⟨hxz, hxf⟩
    · refine Sif_cases (fun h0 => ?_) fun _ => c2.trans' Ch.d0
      have h0 := of_decide_eq_true h0
      have hw : IntKind.wrap .i64 ((j : Int) - 1) = ((j - 1 : Nat) : Int) := by rw [wrap_id (by omega) (by omega)]; omega
      rw [hw]
      obtain ⟨y, hyi⟩ : ∃ y, M[j - 1]? = some y := ⟨_, List.getElem?_eq_getElem (by omega)⟩
      have hlt : dl y < dl z := by
        obtain ⟨h5, e5⟩ := List.getElem?_eq_some_iff.1 hyi
        obtain ⟨h6, e6⟩ := List.getElem?_eq_some_iff.1 hzj
        rw [← e5, ← e6]
        exact List.pairwise_iff_getElem.1 hMA (j - 1) j h5 h6 (by omega)
      have cd := c2.trans' (Ch.d0 (w := w2))
      obtain ⟨k, o, rfl, h3⟩ := sAt (Rd_d hM cd) hzj
      obtain ⟨k', o', e, h4⟩ := sAt (Rd_d hM cd) hyi
      cases e
      refine ⟨by omega, by omega, ?_⟩
      rw [nn_some]
      refine ⟨by omega, h2, ?_⟩
      rw [nn_some]
      simp only [add_at, Int.toNat_natCast, Nat.mul_one]
      refine ⟨y, h4, z, h3, ?_⟩
      rw [lessD, decide_eq_true hlt]
      exact Sif_false cd
theorem bindE_zero {B : List Bd} {x : Bd} (h : bindE B x = 0) : isPat x.1 = true ∧ named x.2 = true ∧ x ∉ B ∧ B.length < 256 := by
  unfold bindE at h
  split at h
  · cases h
  · split at h
    · cases h
    · split at h
      · cases h
      · split at h
        · cases h
        · rename_i h1 h2 h3 h4
          exact ⟨by simpa using h1, by simpa using h2, h3, by omega⟩
theorem bindE_again {B : List Bd} {x : Bd} (h : bindE B x = 0) : bindE (B ++ [x]) x = 181 := by
  obtain ⟨h1, h2, h3, h4⟩ := bindE_zero h
  rw [bindE, if_neg (by rw [h1]; decide), if_neg (by rw [h2]; decide), if_pos (by simp)]
theorem bindB_again (B : List Bd) (x : Bd) : bindB (bindB B x) x = bindB B x := by
  by_cases h : bindE B x = 0
  · have e : bindB B x = B ++ [x] := by rw [bindB, if_pos h]
    rw [e, bindB, if_neg (by rw [bindE_again h]; decide)]
  · have e : bindB B x = B := by rw [bindB, if_neg h]
    rw [e, e]
theorem bindB_len (B : List Bd) (x : Bd) : (bindB B x).length ≤ B.length + 1 := by
  unfold bindB; split <;> simp
def cntB (B : List Bd) (q : ByteArray) : Nat := (B.filter fun y => decide (y.2 = q)).length
theorem cnt_drop (B : List Bd) (q : ByteArray) : cntB B q + (dropB B q).length = B.length := by
  unfold cntB dropB
  induction B with
  | nil => rfl
  | cons x B ih =>
    by_cases h : x.2 = q
    · rw [List.filter_cons_of_pos (by simpa using h), List.filter_cons_of_neg (by simpa using h)]; simp only [List.length_cons]; omega
    · rw [List.filter_cons_of_neg (by simpa using h), List.filter_cons_of_pos (by simpa using h)]; simp only [List.length_cons]; omega
theorem cnt_snoc (B : List Bd) (x : Bd) (q : ByteArray) : cntB (B ++ [x]) q = cntB B q + if x.2 = q then 1 else 0 := by
  unfold cntB
  rw [List.filter_append, List.length_append]
  congr 1
  by_cases h : x.2 = q <;> simp [h]
set_option maxHeartbeats 4000000 in
theorem leads_law {w : World} {p : Option Addr} {c : Nat} {L : List Bd} {t dr : ByteArray} {K : Value → World → Prop} (hR : Rd w p L.length 2 (L.flatMap bCells)) (hL : L.length ≤ 2 ^ 40) (hs : ∀ x ∈ L, x.1.size ≤ 2 ^ 40 ∧ x.2.size ≤ 2 ^ 40) (ht : t.size ≤ 2 ^ 40)
    (hk : ∀ w', Ch (fun _ => False) w w' → K (.bool true) w') : callP Tryd.prog 7 [.slice p L.length c, .string t, .string dr] w K := by
  refine ok_longshorelaw18_RouteLeads ?_
  unfold wp_longshorelaw18_RouteLeads
  refine awake_ok fun w1 c1 => ⟨_, rfl, new_ok fun k r w2 R2 hk2 hr2 hkr c2 => ⟨_, rfl, ?_⟩⟩
  have c12 := c1.trans' c2
  have hs1 := c1.size
  have far : ∀ w', Ch (· = r) w2 w' → Rd w' p L.length 2 (L.flatMap bCells) := fun w' c' => (hR.ch c12 fun _ _ _ => id).ch c' fun a ha h1 e => by
    have := hR.lt a ha h1
    omega
  have back : ∀ w', Ch (· = r) w2 w' → Ch (fun _ => False) w w' := fun w' c' => c12.trans c' fun x hx e => by rw [e] at hx; omega
  refine ⟨fun w3 => w3 = w2, ?_, Sif_true (Sif_false rfl)⟩
  rintro w3 rfl
  refine ⟨fun m n n1 n2 w4 => ∃ (i : Nat) (B : List Bd), n2 = (i : Int) ∧ m + i = L.length ∧ RtK w4 k r B ∧ n = (B.length : Int) ∧ n1 = (cntB B dr : Int) ∧ (∀ x ∈ B, isPat x.1 = true ∧ x.1.size ≤ 2 ^ 40) ∧ B.length ≤ i ∧ Ch (· = r) w3 w4,
    ⟨L.length, 0, [], rfl, rfl, R2, rfl, rfl, by simp, Nat.le_refl _, Ch.refl _ _⟩, ?_⟩
  rintro m n n1 n2 w4 ⟨i, B, rfl, hm, R4, rfl, rfl, hB, hBl, c4⟩
  have hcn := cnt_drop B dr
  refine Sif_cases (fun h => ?_) fun h => ?_
  · have h := of_decide_eq_true h
    obtain ⟨x, hxi⟩ : ∃ x, L[i]? = some x := ⟨_, List.getElem?_eq_getElem (by omega)⟩
    obtain ⟨hx1, hx2⟩ := hs x (List.mem_of_getElem? hxi)
    obtain ⟨kb, o, rfl, h1, h2⟩ := bAt (far _ c4) hxi
    refine ⟨fun n3 n4 w5 => ∃ B' : List Bd, RtK w5 k r B' ∧ n3 = (B'.length : Int) ∧ n4 = (cntB B' dr : Int) ∧ (∀ x ∈ B', isPat x.1 = true ∧ x.1.size ≤ 2 ^ 40) ∧ B'.length ≤ i + 1 ∧ Ch (· = r) w3 w5, ?_, by omega, h, ?_⟩
    · rintro n3 n4 w5 ⟨B', g1, rfl, rfl, g4, g5, g6⟩
      rw [nameI_iff, wrap_id (n := (i : Int) + 1) (by omega) (by omega)]
      exact ⟨m - 1, by omega, i + 1, B', by omega, by omega, g1, rfl, rfl, g4, g5, g6⟩
    rw [nn_some]
    simp only [add_at, Int.toNat_natCast, Nat.add_zero]
    refine ⟨x.1, h1, x.2, h2, bind_ok (x := x) R4 hkr hx1 hx2 fun w5 R5 c5 => ⟨_, rfl, by omega, h, ?_⟩⟩
    have c45 := c4.trans' c5
    obtain ⟨kb', o', e, h3, h4⟩ := bAt (far _ c45) hxi
    cases e
    rw [nn_some]
    simp only [add_at]
    refine ⟨x.1, h3, x.2, h4, bind_ok (x := x) R5 hkr hx1 hx2 fun w6 R6 c6 => ⟨_, rfl, ?_⟩⟩
    rw [bindB_again] at R6
    have c46 := c45.trans' c6
    refine Sif_cases (fun g => ?_) fun g => ?_
    · have g : bindE B x = 0 := by simpa using g
      have eB : bindB B x = B ++ [x] := by rw [bindB, if_pos g]
      rw [eB] at R6
      rw [eB, bindE_again g, nameI_iff, wrap_id (n := (B.length : Int) + 1) (by omega) (by omega)]
      have hnew : ∀ y ∈ B ++ [x], isPat y.1 = true ∧ y.1.size ≤ 2 ^ 40 := fun y hy => by
        rcases List.mem_append.1 hy with hy | hy
        · exact hB y hy
        · rw [List.mem_singleton.1 hy]; exact ⟨(bindE_zero g).1, hx1⟩
      refine ⟨fun n6 w7 => w7 = w6 ∧ n6 = (cntB (B ++ [x]) dr : Int), ?_, by omega, h, ?_⟩
      · rintro n6 w7 ⟨rfl, rfl⟩
        exact Sif_false ⟨B ++ [x], R6, by simp, rfl, hnew, by simp; omega, c46⟩
      · obtain ⟨kb', o', e, h5, h6⟩ := bAt (far _ c46) hxi
        cases e
        rw [nn_some]
        simp only [add_at]
        refine ⟨x.2, h6, Sif_cases (fun g2 => ?_) fun g2 => ?_⟩
        · rw [beq_ba] at g2
          have g2 := eq_of_beq g2
          rw [nameI_iff, wrap_id (n := (cntB B dr : Int) + 1) (by omega) (by omega)]
          exact ⟨by trivial, by rw [cnt_snoc, if_pos g2]; omega⟩
        · rw [beq_ba, beq_eq_false_iff_ne] at g2
          exact ⟨by trivial, by rw [cnt_snoc, if_neg g2]; omega⟩
    · have g : ¬ bindE B x = 0 := by simpa using g
      have eB : bindB B x = B := by rw [bindB, if_neg g]
      rw [eB] at R6
      exact ⟨B, R6, rfl, rfl, hB, by omega, c46⟩
  · have hBl2 : B.length ≤ 2 ^ 40 := by have := of_decide_eq_false h; omega
    refine bindings_ok R4 hBl2 fun p1 c1' b1 w5 N5 _ => ⟨_, _, _, rfl, ?_⟩
    have c45 := c4.trans' (N5.ch.mono (S' := (· = r)) fun _ _ g => g.elim)
    rw [bne_self_eq_false]
    refine Sif_false (drop_ok (R4.ch N5.ch) hkr hBl2 fun w6 R6 c6 => ⟨_, rfl, ?_⟩)
    have c46 := c45.trans' c6
    have hDl : (dropB B dr).length ≤ B.length := List.length_filter_le ..
    refine bindings_ok R6 (by omega) fun p2 c2' b2 w7 N7 _ => ⟨_, _, _, rfl, ?_⟩
    have c47 := c46.trans' (N7.ch.mono (S' := (· = r)) fun _ _ g => g.elim)
    have R7 := R6.ch N7.ch
    have hD : ∀ x ∈ dropB B dr, (isPat x.1 = true ∧ x.1.size ≤ 2 ^ 40) ∧ x.2 ≠ dr := fun x hx => by
      have := List.mem_filter.1 hx
      exact ⟨hB x this.1, by simpa using this.2⟩
    refine ⟨fun w8 => w8 = w7, ?_, ?_⟩
    · rintro w8 rfl
      refine match_ok R7 (fun x hx => (hD x hx).1) (by omega) ht (fun hT w9 c9 => ?_) fun hT p3 c3 b3 M w9 N9 hMA hMm hMl => ?_
      · refine ⟨_, _, _, _, rfl, fits_prog (p := Rt.hash) (by decide) ht fun b e w10 hf c10 => ⟨b, e, rfl, ?_⟩⟩
        have cf := back _ (c47.trans' ((c9.trans' c10).mono (S' := (· = r)) fun _ _ g => g.elim))
        rcases fitsR_in hf hash_pat.1 with ⟨_, _, rfl⟩ | ⟨g, _⟩
        · refine ⟨fun w11 => w11 = w10, ?_, Sif_true (Sif_true (Sif_false rfl))⟩
          rintro w11 rfl
          exact Sif_false (hk _ cf)
        · rw [hT] at g; cases g
      · refine ⟨_, _, _, _, rfl, fits_prog (p := Rt.hash) (by decide) ht fun b e w10 hf c10 => ⟨b, e, rfl, ?_⟩⟩
        have cf := back _ (c47.trans' ((N9.ch.trans' c10).mono (S' := (· = r)) fun _ _ g => g.elim))
        rcases fitsR_in hf hash_pat.1 with ⟨g, _⟩ | ⟨_, rfl, _⟩
        · rw [hT] at g; cases g
        · refine ⟨fun w11 => w11 = w10, ?_, Sif_true (Sif_false rfl)⟩
          rintro w11 rfl
          refine Sif_true ?_
          have RL : Rd w11 p2 (sortB (dropB B dr)).length 2 ((sortB (dropB B dr)).flatMap bCells) := (N7.ow.rd.ch N9.ch fun _ _ _ => id).ch c10 fun _ _ _ => id
          have hlen := sortB_len (dropB B dr)
          have g := led_ok (c := c2') (d := c3) (dr := dr) (K := fun v w12 => ∃ b2, v = .bool b2 ∧ K (.bool b2) w12) RL (Rd_d N9.rd c10) (by omega) (by omega) (sortB_asc (nodup_of R6)) (fun x hx => by
            have := hD x ((sortB_mem _ _).1 hx)
            exact ⟨this.1.1, this.1.2, this.2⟩) hT ht hMA (fun z => by
            rw [hMm]
            constructor
            · rintro ⟨x, hx, g⟩; exact ⟨x, (sortB_mem _ _).2 hx, g⟩
            · rintro ⟨x, hx, g⟩; exact ⟨x, (sortB_mem _ _).1 hx, g⟩) fun w12 c12' => ⟨true, rfl, hk _ (cf.trans' c12')⟩
          rw [hlen] at g
          exact g
    · have e1 : ((B.length : Int) - (dropB B dr).length) = (cntB B dr : Int) := by omega
      rw [e1, bne_self_eq_false, wrap_id (n := (B.length : Int) - (cntB B dr : Int)) (by omega) (by omega), show ((dropB B dr).length : Int) = (B.length : Int) - (cntB B dr : Int) by omega, bne_self_eq_false]
      exact Sif_true (Sif_false rfl)
end Go.Proofs.YtnibmhjdomndbaaDoor
