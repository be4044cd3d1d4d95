/-
  The document's rows of places: next.
-/
import Derived.Test.YtnibmhjdomndbaaDoorRtI
namespace Go.Proofs.YtnibmhjdomndbaaDoor
open Go Go.Sv Go.Rt
set_option linter.unusedVariables false
def StpT (L : List ByteArray) (A : Nat → Prop) (x : ByteArray) (i : Nat) : Nat → Prop := fun k => (k < i ∧ A k ∧ L[k]? = some Rt.hash) ∨ ∃ j, j < i ∧ k = j + 1 ∧ A j ∧ ∃ y, L[j]? = some y ∧ y ≠ Rt.hash ∧ okw y x
theorem StpT_end {L : List ByteArray} {A : Nat → Prop} {x : ByteArray} (k : Nat) : StpT L A x L.length k ↔ Stp L A x k := by
  unfold StpT
  cases k with
  | zero =>
    simp only [Stp]
    constructor
    · rintro (⟨h1, h2, h3⟩ | ⟨j, h1, h2, _⟩)
      · exact ⟨h2, h3⟩
      · omega
    · rintro ⟨h2, h3⟩
      exact .inl ⟨(List.getElem?_eq_some_iff.1 h3).1, h2, h3⟩
  | succ k =>
    simp only [Stp]
    constructor
    · rintro (⟨h1, h2, h3⟩ | ⟨j, h1, h2, h3⟩)
      · exact .inl ⟨h2, h3⟩
      · obtain rfl : k = j := by omega
        exact .inr h3
    · rintro (⟨h2, h3⟩ | ⟨h2, y, h3, h4⟩)
      · exact .inl ⟨(List.getElem?_eq_some_iff.1 h3).1, h2, h3⟩
      · exact .inr ⟨k, (List.getElem?_eq_some_iff.1 h3).1, rfl, h2, y, h3, h4⟩
theorem StpT_stay {L : List ByteArray} {A : Nat → Prop} {x y : ByteArray} {i : Nat} (hx : L[i]? = some y) (hn : ¬ (A i ∧ (y = Rt.hash ∨ okw y x))) (k : Nat) : StpT L A x i k ↔ StpT L A x (i + 1) k := by
  constructor
  · rintro (⟨h1, h2⟩ | ⟨j, h1, h2⟩)
    · exact .inl ⟨by omega, h2⟩
    · exact .inr ⟨j, by omega, h2⟩
  · rintro (⟨h1, h2, h3⟩ | ⟨j, h1, h2, h3, z, h4, h5, h6⟩)
    · by_cases hki : k = i
      · subst hki; rw [hx] at h3; exact absurd ⟨h2, .inl (Option.some.inj h3)⟩ hn
      · exact .inl ⟨by omega, h2, h3⟩
    · by_cases hji : j = i
      · subst hji; rw [hx] at h4; obtain rfl := Option.some.inj h4; exact absurd ⟨h3, .inr h6⟩ hn
      · exact .inr ⟨j, by omega, h2, h3, z, h4, h5, h6⟩
theorem StpT_word {L : List ByteArray} {A : Nat → Prop} {x y : ByteArray} {i : Nat} (hx : L[i]? = some y) (g1 : A i) (g2 : y ≠ Rt.hash) (g3 : okw y x) (k : Nat) : (StpT L A x i k ∨ k = i + 1) ↔ StpT L A x (i + 1) k := by
  constructor
  · rintro ((⟨h1, h2⟩ | ⟨j, h1, h2⟩) | h1)
    · exact .inl ⟨by omega, h2⟩
    · exact .inr ⟨j, by omega, h2⟩
    · exact .inr ⟨i, by omega, h1, g1, y, hx, g2, g3⟩
  · rintro (⟨h1, h2, h3⟩ | ⟨j, h1, h2, h3, z, h4, h5, h6⟩)
    · by_cases hki : k = i
      · subst hki; rw [hx] at h3; exact absurd (Option.some.inj h3) g2
      · exact .inl (.inl ⟨by omega, h2, h3⟩)
    · by_cases hji : j = i
      · subst hji; exact .inr h2
      · exact .inl (.inr ⟨j, by omega, h2, h3, z, h4, h5, h6⟩)
theorem StpT_many {L : List ByteArray} {A : Nat → Prop} {x y : ByteArray} {i : Nat} (hx : L[i]? = some y) (g1 : A i) (g2 : y = Rt.hash) (k : Nat) : (StpT L A x i k ∨ k = i) ↔ StpT L A x (i + 1) k := by
  constructor
  · rintro ((⟨h1, h2⟩ | ⟨j, h1, h2⟩) | h1)
    · exact .inl ⟨by omega, h2⟩
    · exact .inr ⟨j, by omega, h2⟩
    · subst h1; exact .inl ⟨by omega, g1, by rw [hx, g2]⟩
  · rintro (⟨h1, h2', h3⟩ | ⟨j, h1, h2', h3, z, h4, h5, h6⟩)
    · by_cases hki : k = i
      · exact .inr hki
      · exact .inl (.inl ⟨by omega, h2', h3⟩)
    · by_cases hji : j = i
      · subst hji; rw [hx] at h4; exact absurd ((Option.some.inj h4).symm.trans g2) h5
      · exact .inl (.inr ⟨j, by omega, h2', h3, z, h4, h5, h6⟩)
set_option maxHeartbeats 1000000 in
theorem next_ok {w : World} {p q : Option Addr} {c d : Nat} {L : List ByteArray} {R : List Int} {A : Nat → Prop} {x : ByteArray} {K : Value → World → Prop} (hR : Rd w p L.length 1 (L.flatMap sCell)) (h8 : L.length ≤ 8)
    (hA : Rd w q R.length 1 (R.flatMap iCell)) (hI : SetR R L.length A)
    (hk : ∀ p' c' b' w' R', Ni w w' p' c' b' R' → SetR R' L.length (Clo L (Stp L A x)) → K (.slice p' R'.length c') w') : callP Tryd.prog 48 [.slice p L.length c, .slice q R.length d, .string x] w K := by
  refine ok_longshoreref18_next ?_
  unfold wp_longshoreref18_next
  rw [wrap_id (n := (L.length : Int) + 1) (by omega) (by omega), show ((L.length : Int) + 1) = ((L.length + 1 : Nat) : Int) by omega]
  obtain ⟨p1, w1, r1, N1⟩ := Ni.make w (L.length + 1) (by omega)
  refine ⟨p1, _, _, w1, r1, ?_⟩
  refine ⟨fun m n1 w2 => ∃ (i : Nat) (R2 : List Int), n1 = (i : Int) ∧ m + i = L.length ∧ Ni w w2 p1 (L.length + 1) w.heap.size R2 ∧ SetR R2 L.length (StpT L A x i), ⟨_, 0, _, rfl, rfl, N1, (SetR.none _).congr (fun k hk => by simp [StpT])⟩, ?_⟩
  rintro m n1 w2 ⟨i, R2, rfl, hm, N2, S2⟩
  refine Sif_cases (fun h => ?_) fun h => ?_
  · have h := of_decide_eq_true h
    have hx : L[i]? = some L[i] := List.getElem?_eq_getElem (by omega)
    refine ⟨fun w3 => ∃ R3 : List Int, Ni w w3 p1 (L.length + 1) w.heap.size R3 ∧ SetR R3 L.length (StpT L A x (i + 1)), ?_, by omega, by rw [hI.1]; omega, ?_⟩
    · rintro w3 ⟨R3, N3, S3⟩
      rw [nameI_iff, wrap_id (n := (i : Int) + 1) (by omega) (by omega)]
      exact ⟨m - 1, by omega, i + 1, R3, by omega, by omega, N3, S3⟩
    · obtain ⟨v, hv, hvI⟩ := hI.2 i (by omega)
      obtain ⟨b', o, rfl, hc⟩ := iAt (Rd_d hA N2.ch) hv
      obtain ⟨b7, o7, rfl, hc7⟩ := sAt (Rd_d hR N2.ch) hx
      generalize L[i] = y at *
      simp only [nn_some, add_at, Int.toNat_natCast, Nat.mul_one, Nat.add_zero]
      refine ⟨_, hc, Sif_cases (fun h1 => ⟨R2, N2, S2.congr fun j hj => StpT_stay hx (fun g => ?_) j⟩) fun h1 => ⟨by omega, h, _, hc7, ?_⟩⟩
      · exact absurd (show v = 0 by simpa using h1) (hvI.2 g.1)
      · have hAi : A i := hvI.1 (by simpa using h1)
        have e1 : ((i : Int) + 1).toNat = i + 1 := by omega
        have set (j : Nat) (hj : j ≤ L.length) (hS : ∀ k, (StpT L A x i k ∨ k = j) ↔ StpT L A x (i + 1) k) : nn p1 fun a2 => st w2 ((a2.add j).add 0) (.int .i64 1) fun w3 => ∃ R3 : List Int, Ni w w3 p1 (L.length + 1) w.heap.size R3 ∧ SetR R3 L.length (StpT L A x (i + 1)) := by
          obtain ⟨k0, o0, rfl, hst⟩ := N2.put (j := j) (by rw [S2.1]; omega)
          rw [nn_some, add_at, add_at, Nat.add_zero]
          exact hst _ _ fun w3 N3 => ⟨_, N3, (S2.add hj).congr fun k _ => hS k⟩
        rw [hash_eq]
        refine Sif_cases (fun h2 => ⟨by omega, by omega, ?_⟩) fun h2 => ⟨by omega, h, _, hc7, ?_⟩
        · have := set i (by omega) fun k => StpT_many hx hAi (eq_of_beq h2) k
          exact this
        · have h2 : y ≠ Rt.hash := beq_eq_false_iff_ne.1 h2
          rw [wrap_id (n := (i : Int) + 1) (by omega) (by omega), e1, star_eq]
          refine Sif_cases (fun h3 => ⟨by omega, h, _, hc7, ?_⟩) fun h3 => ⟨by omega, by omega, ?_⟩
          · rw [beq_ba]
            refine Sif_cases (fun h4 => ⟨by omega, by omega, ?_⟩) fun h4 => ⟨R2, N2, S2.congr fun j hj => StpT_stay hx (fun g => ?_) j⟩
            · have := set (i + 1) (by omega) fun k => StpT_word hx hAi h2 (.inr (eq_of_beq h4)) k
              exact this
            · rcases g.2 with g | g | g
              · exact h2 g
              · rw [g] at h3; simp at h3
              · rw [g] at h4; simp at h4
          · have := set (i + 1) (by omega) fun k => StpT_word hx hAi h2 (.inl (eq_of_beq (by simpa using h3))) k
            exact this
  · have h := of_decide_eq_false h
    have hi : i = L.length := by omega
    subst hi
    have hl : L.length + 1 = R2.length := S2.1.symm
    have g := spread_ok (d := L.length + 1) (Rd_d hR N2.ch) h8 N2.ow.rd (S2.congr fun k _ => StpT_end k) (c := c) (K := fun v w3 => ∃ p2 n2 c1, v = .slice p2 n2 c1 ∧ K (.slice p2 n2 c1) w3)
      fun p' c' b' w' R' N S => ⟨_, _, _, rfl, hk p' c' b' w' R' ⟨N.ow, Nat.le_trans N2.ch.size N.new, N2.ch.trans' N.ch⟩ S⟩
    rw [← hl] at g
    exact g
end Go.Proofs.YtnibmhjdomndbaaDoor
