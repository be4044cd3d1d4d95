/-
  The program's places: wide, on, lies; Fits.
-/
import Derived.Test.YtnibmhjdomndbaaDoorRtF
namespace Go.Proofs.YtnibmhjdomndbaaDoor
open Go Go.Sv Go.Rt
set_option linter.unusedVariables false
theorem shl16 {i : Nat} (hi : i ≤ 8) : IntKind.wrap .u16 (1 * 2 ^ min ((i : Int)).toNat 16) = ((2 ^ i : Nat) : Int) := by
  rw [Int.toNat_natCast, Nat.min_eq_left (by omega), Int.one_mul]
  have h := pow_small hi
  have e : (2 : Int) ^ i = ((2 ^ i : Nat) : Int) := by norm_cast
  rw [e]
  generalize (2 ^ i : Nat) = m at *
  exact wrap_u16 (by omega) (by omega)
theorem tst {a i : Nat} (ha : a < 65536) (hi : i ≤ 8) : (bitsV BinOp.and IntKind.u16 (a : Int) (IntKind.wrap .u16 (1 * 2 ^ min ((i : Int)).toNat 16)) != 0) = a.testBit i := by
  rw [shl16 hi, and_u16 ha (pow_small hi)]
  cases h : a.testBit i with
  | false => rw [and_bit.2 h]; rfl
  | true =>
    have : (a &&& 2 ^ i) ≠ 0 := fun e => by rw [and_bit.1 e] at h; cases h
    rw [bne_iff_ne]; omega
theorem tst0 {a i : Nat} (ha : a < 65536) (hi : i ≤ 8) : (bitsV BinOp.and IntKind.u16 (a : Int) (IntKind.wrap .u16 (1 * 2 ^ min ((i : Int)).toNat 16)) == 0) = !a.testBit i := by
  rw [← tst ha hi, bne, Bool.not_not]
theorem orr {a i : Nat} (ha : a < 65536) (hi : i ≤ 8) : bitsV BinOp.or IntKind.u16 (a : Int) (IntKind.wrap .u16 (1 * 2 ^ min ((i : Int)).toNat 16)) = ((a ||| 2 ^ i : Nat) : Int) := by
  rw [shl16 hi, or_u16 ha (pow_small hi)]
set_option maxHeartbeats 1000000 in
theorem wide_ok {w : World} {p : Option Addr} {c : Nat} {L : List ByteArray} {a : Nat} {I : Nat → Prop} {K : Value → World → Prop} (hR : Rd w p L.length 1 (L.flatMap sCell)) (h8 : L.length ≤ 8) (ha : IsSet a L.length I)
    (hk : ∀ b : Nat, IsSet b L.length (Clo L I) → K (.int .u16 (b : Int)) w) : callP Tryd.prog 29 [.slice p L.length c, .int .u16 (a : Int)] w K := by
  refine ok_route_wide ?_
  unfold wp_route_wide
  refine ⟨fun m n n1 w1 => ∃ (i b : Nat), n1 = (i : Int) ∧ n = (b : Int) ∧ m + i = L.length ∧ IsSet b L.length (fun k => if k ≤ i then Clo L I k else I k) ∧ w1 = w, ⟨L.length, 0, a, rfl, rfl, rfl, ha.congr (fun k hk => ?_), rfl⟩, ?_⟩
  · by_cases h0 : k ≤ 0
    · have : k = 0 := by omega
      subst this; simp [Clo]
    · simp [h0]
  rintro m n n1 w1 ⟨i, b, rfl, rfl, hm, hb, rfl⟩
  have hb16 := hb.lt h8
  refine Sif_cases (fun h => ?_) fun h => ?_
  · have h := of_decide_eq_true h
    have hx : L[i]? = some L[i] := List.getElem?_eq_getElem (by omega)
    refine ⟨fun n2 w2 => w2 = w1 ∧ ∃ b' : Nat, n2 = (b' : Int) ∧ IsSet b' L.length (fun k => if k ≤ i + 1 then Clo L I k else I k), ?_, by omega, h, ?_⟩
    · rintro n2 w2 ⟨rfl, b', rfl, hb'⟩
      rw [wrap_id (n := (i : Int) + 1) (by omega) (by omega)]
      exact ⟨m - 1, by omega, i + 1, b', by omega, rfl, by omega, hb', rfl⟩
    · obtain ⟨b', o, rfl, hc⟩ := sAt hR hx
      rw [nn_some]
      have hc' : w1.cell? ((⟨b', o, none⟩ : Addr).add ((i : Int).toNat * 1)) = some (.string L[i]) := by simp only [add_at, Int.toNat_natCast, Nat.mul_one]; exact hc
      refine ⟨_, hc', ?_⟩
      generalize L[i] = x at *
      have stay : ¬ (x = Rt.hash ∧ b.testBit i = true) → IsSet b L.length (fun k => if k ≤ i + 1 then Clo L I k else I k) := fun hn => hb.congr fun k hk => by
        by_cases h1 : k ≤ i
        · simp [h1, show k ≤ i + 1 by omega]
        · by_cases h2 : k = i + 1
          · subst h2
            simp only [show ¬ (i + 1 ≤ i) by omega, if_false, Nat.le_refl, if_true, Clo]
            refine ⟨fun h => .inl h, fun h => h.elim id fun ⟨h3, h4⟩ => ?_⟩
            rw [hx] at h3
            exact absurd ⟨Option.some.inj h3, (hb i).2 ⟨by omega, by simp only [Nat.le_refl, if_true]; exact h4⟩⟩ hn
          · simp [h1, show ¬ k ≤ i + 1 by omega]
      rw [hash_eq]
      refine Sif_cases (fun h1 => ⟨by omega, ?_⟩) fun h1 => ⟨rfl, b, rfl, stay fun h2 => ?_⟩
      · have h1 : x = Rt.hash := eq_of_beq h1
        rw [tst hb16 (by omega)]
        refine Sif_cases (fun h2 => ?_) fun h2 => ⟨rfl, b, rfl, stay fun h3 => by rw [h2] at h3; exact absurd h3.2 (by decide)⟩
        rw [wrap_id (n := (i : Int) + 1) (by omega) (by omega)]
        refine ⟨by omega, ?_⟩
        rw [nameI_iff, show ((i : Int) + 1) = ((i + 1 : Nat) : Int) by omega, orr hb16 (by omega)]
        refine ⟨rfl, _, rfl, (hb.add (j := i + 1) (by omega)).congr fun k hk => ?_⟩
        by_cases h3 : k ≤ i
        · simp [h3, show k ≤ i + 1 by omega, show ¬ k = i + 1 by omega]
        · by_cases h4 : k = i + 1
          · subst h4
            simp only [show ¬ (i + 1 ≤ i) by omega, if_false, Nat.le_refl, if_true, Clo, or_true, true_iff]
            have := ((hb i).1 h2).2
            simp only [Nat.le_refl, if_true] at this
            exact .inr ⟨by rw [hx, h1], this⟩
          · simp [h3, h4, show ¬ k ≤ i + 1 by omega]
      · exact absurd h2.1 (beq_eq_false_iff_ne.1 h1)
  · have h := of_decide_eq_false h
    exact hk b (hb.congr fun k hk' => by simp [show k ≤ i by omega])
set_option maxHeartbeats 1000000 in
theorem on_ok {w : World} {p : Option Addr} {c : Nat} {L : List ByteArray} {a : Nat} {A : Nat → Prop} {x : ByteArray} {K : Value → World → Prop} (hR : Rd w p L.length 1 (L.flatMap sCell)) (h8 : L.length ≤ 8) (ha : IsSet a L.length A)
    (hk : ∀ b : Nat, IsSet b L.length (Clo L (Stp L A x)) → K (.int .u16 (b : Int)) w) : callP Tryd.prog 30 [.slice p L.length c, .int .u16 (a : Int), .string x] w K := by
  refine ok_route_on ?_
  unfold wp_route_on
  have ha16 := ha.lt h8
  refine ⟨fun m n n1 w1 => ∃ (i b : Nat), n1 = (i : Int) ∧ n = (b : Int) ∧ m + i = L.length ∧ IsSet b L.length (fun k => (k < i ∧ A k ∧ L[k]? = some Rt.hash) ∨ ∃ j, j < i ∧ k = j + 1 ∧ A j ∧ ∃ y, L[j]? = some y ∧ y ≠ Rt.hash ∧ okw y x) ∧ w1 = w,
    ⟨L.length, 0, 0, rfl, rfl, rfl, (IsSet.none _).congr (fun k hk => by simp), rfl⟩, ?_⟩
  rintro m n n1 w1 ⟨i, b, rfl, rfl, hm, hb, rfl⟩
  have hb16 := hb.lt h8
  refine Sif_cases (fun h => ?_) fun h => ?_
  · have h := of_decide_eq_true h
    have hx : L[i]? = some L[i] := List.getElem?_eq_getElem (by omega)
    refine ⟨fun n2 w2 => w2 = w1 ∧ ∃ b' : Nat, n2 = (b' : Int) ∧ IsSet b' L.length (fun k => (k < i + 1 ∧ A k ∧ L[k]? = some Rt.hash) ∨ ∃ j, j < i + 1 ∧ k = j + 1 ∧ A j ∧ ∃ y, L[j]? = some y ∧ y ≠ Rt.hash ∧ okw y x), ?_, by omega, h, ?_⟩
    · rintro n2 w2 ⟨rfl, b', rfl, hb'⟩
      rw [wrap_id (n := (i : Int) + 1) (by omega) (by omega)]
      exact ⟨m - 1, by omega, i + 1, b', by omega, rfl, by omega, hb', rfl⟩
    · obtain ⟨b', o, rfl, hc⟩ := sAt hR hx
      rw [nn_some]
      have hc' : w1.cell? ((⟨b', o, none⟩ : Addr).add ((i : Int).toNat * 1)) = some (.string L[i]) := by simp only [add_at, Int.toNat_natCast, Nat.mul_one]; exact hc
      refine ⟨_, hc', by omega, ?_⟩
      generalize L[i] = y at *
      have hA : a.testBit i = true ↔ A i := by rw [ha i]; exact ⟨fun h => h.2, fun h => ⟨by omega, h⟩⟩
      have stay : ¬ (A i ∧ (y = Rt.hash ∨ okw y x)) → IsSet b L.length (fun k => (k < i + 1 ∧ A k ∧ L[k]? = some Rt.hash) ∨ ∃ j, j < i + 1 ∧ k = j + 1 ∧ A j ∧ ∃ y, L[j]? = some y ∧ y ≠ Rt.hash ∧ okw y x) := fun hn => hb.congr fun k hk => by
        constructor
        · rintro (⟨h1, h2⟩ | ⟨j, h1, h2⟩)
          · exact .inl ⟨by omega, h2⟩
          · exact .inr ⟨j, by omega, h2⟩
        · rintro (⟨h1, h2, h3⟩ | ⟨j, h1, h2, h3, z, h4, h5, h6⟩)
          · by_cases hki : k = i
            · subst hki; rw [hx] at h3; exact absurd ⟨h2, .inl (Option.some.inj h3)⟩ hn
            · exact .inl ⟨by omega, h2, h3⟩
          · by_cases hji : j = i
            · subst hji; rw [hx] at h4; obtain rfl := Option.some.inj h4; exact absurd ⟨h3, .inr h6⟩ hn
            · exact .inr ⟨j, by omega, h2, h3, z, h4, h5, h6⟩
      have next : A i → y ≠ Rt.hash → okw y x → IsSet (b ||| 2 ^ (i + 1)) L.length (fun k => (k < i + 1 ∧ A k ∧ L[k]? = some Rt.hash) ∨ ∃ j, j < i + 1 ∧ k = j + 1 ∧ A j ∧ ∃ y, L[j]? = some y ∧ y ≠ Rt.hash ∧ okw y x) := fun g1 g2 g3 => (hb.add (j := i + 1) (by omega)).congr fun k hk => by
        constructor
        · rintro ((⟨h1, h2⟩ | ⟨j, h1, h2⟩) | h1)
          · exact .inl ⟨by omega, h2⟩
          · exact .inr ⟨j, by omega, h2⟩
          · exact .inr ⟨i, by omega, h1, g1, y, hx, g2, g3⟩
        · rintro (⟨h1, h2, h3⟩ | ⟨j, h1, h2, h3, z, h4, h5, h6⟩)
          · by_cases hki : k = i
            · subst hki; rw [hx] at h3; exact absurd (Option.some.inj h3) g2
            · exact .inl (.inl ⟨by omega, h2, h3⟩)
          · by_cases hji : j = i
            · subst hji; exact .inr h2
            · exact .inl (.inr ⟨j, by omega, h2, h3, z, h4, h5, h6⟩)
      have e1 : ((i : Int) + 1) = ((i + 1 : Nat) : Int) := by omega
      rw [tst0 ha16 (by omega)]
      refine Sif_cases (fun h1 => ⟨rfl, b, rfl, stay fun h2 => ?_⟩) fun h1 => ?_
      · rw [hA.2 h2.1] at h1; cases h1
      · have hAi : A i := hA.1 (by simpa using h1)
        rw [hash_eq, star_eq]
        refine Sif_cases (fun h2 => ⟨by omega, ?_⟩) fun h2 => Sif_cases (fun h3 => ?_) fun h3 => ?_
        · have h2 : y = Rt.hash := eq_of_beq h2
          rw [nameI_iff, orr hb16 (by omega)]
          refine ⟨rfl, _, rfl, (hb.add (j := i) (by omega)).congr fun k hk => ?_⟩
          constructor
          · rintro ((⟨h1, h2⟩ | ⟨j, h1, h2⟩) | h1)
            · exact .inl ⟨by omega, h2⟩
            · exact .inr ⟨j, by omega, h2⟩
            · subst h1; exact .inl ⟨by omega, hAi, by rw [hx, h2]⟩
          · rintro (⟨h1, h2', h3⟩ | ⟨j, h1, h2', h3, z, h4, h5, h6⟩)
            · by_cases hki : k = i
              · exact .inr hki
              · exact .inl (.inl ⟨by omega, h2', h3⟩)
            · by_cases hji : j = i
              · subst hji; rw [hx] at h4; exact absurd ((Option.some.inj h4).symm.trans h2) h5
              · exact .inl (.inr ⟨j, by omega, h2', h3, z, h4, h5, h6⟩)
        · have h2 : y ≠ Rt.hash := beq_eq_false_iff_ne.1 h2
          have h3 : y ≠ star := by intro e; subst e; revert h3; simp
          rw [beq_ba]
          refine Sif_cases (fun h4 => ?_) fun h4 => ⟨rfl, b, rfl, stay fun h5 => ?_⟩
          · have h4 : y = x := eq_of_beq h4
            rw [wrap_id (n := (i : Int) + 1) (by omega) (by omega), nameI_iff, e1, orr hb16 (by omega)]
            exact ⟨by omega, rfl, _, rfl, next hAi h2 (.inr h4)⟩
          · rcases h5.2 with h6 | h6 | h6
            · exact h2 h6
            · exact h3 h6
            · exact beq_eq_false_iff_ne.1 h4 h6
        · have h2 : y ≠ Rt.hash := beq_eq_false_iff_ne.1 h2
          have h3 : y = star := eq_of_beq (by simpa using h3)
          rw [wrap_id (n := (i : Int) + 1) (by omega) (by omega), nameI_iff, e1, orr hb16 (by omega)]
          exact ⟨by omega, rfl, _, rfl, next hAi h2 (.inl h3)⟩
  · have h := of_decide_eq_false h
    have hi : i = L.length := by omega
    subst hi
    refine wide_ok hR h8 hb fun b' hb' => ⟨_, rfl, hk b' (hb'.congr fun k hk' => ?_)⟩
    refine Clo_congr (fun k => ?_) k
    cases k with
    | zero =>
      simp only [Stp]
      constructor
      · rintro (⟨h1, h2, h3⟩ | ⟨j, h1, h2, _⟩)
        · exact ⟨h2, h3⟩
        · omega
      · rintro ⟨h2, h3⟩
        exact .inl ⟨(List.getElem?_eq_some_iff.1 h3).1, h2, h3⟩
    | succ k =>
      simp only [Stp]
      constructor
      · rintro (⟨h1, h2, h3⟩ | ⟨j, h1, h2, h3⟩)
        · exact .inl ⟨h2, h3⟩
        · obtain rfl : k = j := by omega
          exact .inr h3
      · rintro (⟨h2, h3⟩ | ⟨h2, y, h3, h4⟩)
        · exact .inl ⟨(List.getElem?_eq_some_iff.1 h3).1, h2, h3⟩
        · exact .inr ⟨k, (List.getElem?_eq_some_iff.1 h3).1, rfl, h2, y, h3, h4⟩
end Go.Proofs.YtnibmhjdomndbaaDoor
