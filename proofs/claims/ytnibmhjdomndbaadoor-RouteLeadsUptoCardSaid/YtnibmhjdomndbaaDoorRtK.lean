/-
  The document's search: lacks.
-/
import Derived.Test.YtnibmhjdomndbaaDoorRtJ
namespace Go.Proofs.YtnibmhjdomndbaaDoor
open Go Go.Sv Go.Rt
set_option linter.unusedVariables false
/-- is there a way on, over words of W, behind us, to a topic that the second pattern fits from that place on, and the first one does not? -/
def Lk (a b W : List ByteArray) (place : Nat) (us : List ByteArray) : Prop :=
  ∃ v : List ByteArray, (∀ y ∈ v, y ∈ W) ∧ us.length + v.length ≤ 8 ∧ 0 < us.length + v.length ∧ Rt.Mp (b.drop place) v ∧ ¬ Rt.Mp a (us ++ v)
theorem Lk_end {a b W us : List ByteArray} {place : Nat} (h : place = b.length) (h8 : us.length ≤ 8) : Lk a b W place us ↔ 0 < us.length ∧ ¬ Rt.Mp a us := by
  subst h
  unfold Lk
  rw [List.drop_length]
  constructor
  · rintro ⟨v, _, _, h2, h3, h4⟩
    have h3 : v = [] := h3
    subst h3
    simp at h2 h4
    exact ⟨by simpa [List.length_pos_iff] using h2, h4⟩
  · rintro ⟨h1, h2⟩
    exact ⟨[], by simp, by simpa using h8, by simpa using h1, rfl, by simpa using h2⟩
theorem Lk_word {a b W us : List ByteArray} {place : Nat} {x y : ByteArray} (hx : b[place]? = some x) (hy : y ∈ W) (h : (x = Rt.hash ∧ Lk a b W place (us ++ [y])) ∨ (x ≠ Rt.hash ∧ okw x y ∧ Lk a b W (place + 1) (us ++ [y]))) : Lk a b W place us := by
  have hd : b.drop place = x :: b.drop (place + 1) := by
    obtain ⟨hl, rfl⟩ := List.getElem?_eq_some_iff.1 hx
    rw [List.getElem_cons_drop hl]
  rcases h with ⟨rfl, v, h1, h2, h3, h4, h5⟩ | ⟨hne, hok, v, h1, h2, h3, h4, h5⟩
  · rw [hd] at h4
    refine ⟨y :: v, fun z hz => ?_, by simp at h2 ⊢; omega, by simp only [List.length_cons]; omega, ?_, by simpa using h5⟩
    · rcases List.mem_cons.1 hz with rfl | hz
      · exact hy
      · exact h1 z hz
    · rw [hd]; exact (Mp_hash_cons _ _).2 (.inr ⟨y, v, rfl, h4⟩)
  · refine ⟨y :: v, fun z hz => ?_, by simp at h2 ⊢; omega, by simp only [List.length_cons]; omega, ?_, by simpa using h5⟩
    · rcases List.mem_cons.1 hz with rfl | hz
      · exact hy
      · exact h1 z hz
    · rw [hd]; exact (Mp_part hne _ _).2 ⟨y, v, rfl, hok, h4⟩
theorem Lk_skip {a b W us : List ByteArray} {place : Nat} (hx : b[place]? = some Rt.hash) (h : Lk a b W (place + 1) us) : Lk a b W place us := by
  have hd : b.drop place = Rt.hash :: b.drop (place + 1) := by
    obtain ⟨hl, he⟩ := List.getElem?_eq_some_iff.1 hx
    rw [← he, List.getElem_cons_drop hl]
  obtain ⟨v, h1, h2, h3, h4, h5⟩ := h
  exact ⟨v, h1, h2, h3, by rw [hd]; exact (Mp_hash_cons _ _).2 (.inl h4), h5⟩
theorem Lk_no {a b W us : List ByteArray} {place : Nat} {x : ByteArray} (hx : b[place]? = some x) (h1 : x = Rt.hash → ¬ Lk a b W (place + 1) us)
    (h2 : us.length < 8 → ∀ y ∈ W, (x = Rt.hash → ¬ Lk a b W place (us ++ [y])) ∧ (x ≠ Rt.hash → okw x y → ¬ Lk a b W (place + 1) (us ++ [y]))) : ¬ Lk a b W place us := by
  have hd : b.drop place = x :: b.drop (place + 1) := by
    obtain ⟨hl, rfl⟩ := List.getElem?_eq_some_iff.1 hx
    rw [List.getElem_cons_drop hl]
  rintro ⟨v, g1, g2, g3, g4, g5⟩
  rw [hd] at g4
  by_cases hh : x = Rt.hash
  · subst hh
    rcases (Mp_hash_cons _ _).1 g4 with g6 | ⟨y, v', rfl, g6⟩
    · exact h1 rfl ⟨v, g1, g2, g3, g6, g5⟩
    · refine (h2 (by simp at g2; omega) y (g1 y (by simp))).1 rfl ⟨v', fun z hz => g1 z (by simp [hz]), by simp at g2 ⊢; omega, by simp; omega, by rw [hd]; exact g6, by simpa using g5⟩
  · obtain ⟨y, v', rfl, hok, g6⟩ := (Mp_part hh _ _).1 g4
    exact (h2 (by simp at g2; omega) y (g1 y (by simp))).2 hh hok ⟨v', fun z hz => g1 z (by simp [hz]), by simp at g2 ⊢; omega, by simp; omega, g6, by simpa using g5⟩
set_option maxHeartbeats 4000000 in
theorem lacks_ok {a b W : List ByteArray} (ha8 : a.length ≤ 8) (hb8 : b.length ≤ 8) (hW : W.length ≤ 100) : ∀ (N : Nat) {place : Nat} {us : List ByteArray} {w : World} {pa pb pW q : Option Addr} {ca cb cW d : Nat} {R : List Int} {K : Value → World → Prop},
    (8 - us.length) * (b.length + 1) + (b.length - place) ≤ N → place ≤ b.length → us.length ≤ 8 →
    Rd w pa a.length 1 (a.flatMap sCell) → Rd w pb b.length 1 (b.flatMap sCell) → Rd w pW W.length 1 (W.flatMap sCell) → Rd w q R.length 1 (R.flatMap iCell) → SetR R a.length (At a us) →
    (∀ (r : Bool) w', (r = true ↔ Lk a b W place us) → Ch (fun _ => False) w w' → K (.bool r) w') →
    callP Tryd.prog 32 [.slice pa a.length ca, .slice pb b.length cb, .slice q R.length d, .int .i64 (place : Int), .slice pW W.length cW, .int .i64 (us.length : Int)] w K := by
  intro N
  induction N using Nat.strongRecOn with
  | _ N ih =>
  intro place us w pa pb pW q ca cb cW d R K hN hp hu hA hB hWr hI hS hk
  refine ok_longshoreref18_lacks ?_
  unfold wp_longshoreref18_lacks
  have hpl : ((place : Int) == (b.length : Int)) = decide (place = b.length) := by
    by_cases h : place = b.length
    · rw [decide_eq_true h, h]; simp
    · rw [decide_eq_false h, beq_eq_false_iff_ne]; omega
  rw [hpl]
  refine ⟨fun w1 => w1 = w ∧ (place = b.length → ¬ Lk a b W place us), ?_, Sif_cases (fun h => ?_) fun h => ⟨rfl, fun e => absurd e (of_decide_eq_false h)⟩⟩
  · rintro w1 ⟨rfl, hno⟩
    refine Sif_cases (fun h => hk _ _ (by simpa using hno (of_decide_eq_true h)) (Ch.refl _ _)) fun h => ?_
    have hlt : place < b.length := by have := of_decide_eq_false h; omega
    have hx : b[place]? = some b[place] := List.getElem?_eq_getElem hlt
    obtain ⟨b0, o0, hpb, hc0⟩ := sAt hB hx
    generalize b[place] = x at *
    refine ⟨fun w2 => Ch (fun _ => False) w1 w2 ∧ (x = Rt.hash → ¬ Lk a b W (place + 1) us), ?_, by omega, by omega, ?_⟩
    · rintro w2 ⟨c2, hskip⟩
      have h8e : ((us.length : Int) == 8) = decide (us.length = 8) := by
        by_cases h : us.length = 8
        · rw [decide_eq_true h, h]; rfl
        · rw [decide_eq_false h, beq_eq_false_iff_ne]; omega
      rw [h8e]
      refine Sif_cases (fun h5 => hk _ _ (by simpa using Lk_no hx hskip fun h6 => absurd (of_decide_eq_true h5) (by omega)) c2) fun h5 => ?_
      have h5 := of_decide_eq_false h5
      refine ⟨fun m n1 w3 => ∃ i : Nat, n1 = (i : Int) ∧ m + i = W.length ∧ Ch (fun _ => False) w1 w3 ∧ ∀ y ∈ W.take i, (x = Rt.hash → ¬ Lk a b W place (us ++ [y])) ∧ (x ≠ Rt.hash → okw x y → ¬ Lk a b W (place + 1) (us ++ [y])), ⟨_, 0, rfl, rfl, c2, by simp⟩, ?_⟩
      rintro m n1 w3 ⟨i, rfl, hm, c3, hn⟩
      refine Sif_cases (fun h6 => ?_) fun h6 => ?_
      · have h6 := of_decide_eq_true h6
        have hy : W[i]? = some W[i] := List.getElem?_eq_getElem (by omega)
        have hyW := List.mem_of_getElem? hy
        obtain ⟨b7, o7, hpW, hc7⟩ := sAt (Rd_d hWr c3) hy
        generalize W[i] = y at *
        have hc0' : w3.cell? ⟨b0, o0 + place, none⟩ = some (.string x) := by
          obtain ⟨b0', o0', e, h⟩ := sAt (Rd_d hB c3) hx
          rw [hpb] at e; cases e; exact h
        refine ⟨fun w4 => Ch (fun _ => False) w1 w4 ∧ (x = Rt.hash → ¬ Lk a b W place (us ++ [y])) ∧ (x ≠ Rt.hash → okw x y → ¬ Lk a b W (place + 1) (us ++ [y])), ?_, by omega, h6, ?_⟩
        · rintro w4 ⟨c4, h7⟩
          rw [nameI_iff, wrap_id (n := (i : Int) + 1) (by omega) (by omega)]
          refine ⟨m - 1, by omega, i + 1, by omega, by omega, c4, fun z hz => ?_⟩
          rw [List.take_add_one, hy, Option.toList_some] at hz
          rcases List.mem_append.1 hz with hz | hz
          · exact hn z hz
          · rw [List.mem_singleton.1 hz]; exact h7
        · rw [hpW, nn_some, ← hpW]
          simp only [add_at, Int.toNat_natCast, Nat.mul_one]
          refine ⟨_, hc7, ?_⟩
          refine ⟨fun w4 => w4 = w3 ∧ (x = Rt.hash ∨ okw x y), ?_, ?_⟩
          · rintro w4 ⟨rfl, hgo⟩
            rw [nameI_iff, wrap_id (n := (place : Int) + 1) (by omega) (by omega)]
            refine ⟨fun n3 w5 => w5 = w4 ∧ ∃ tp : Nat, n3 = (tp : Int) ∧ ((x = Rt.hash ∧ tp = place) ∨ (x ≠ Rt.hash ∧ tp = place + 1)), ?_, by omega, by omega, ?_⟩
            · rintro n3 w5 ⟨rfl, tp, rfl, hto⟩
              refine next_ok (x := y) (Rd_d hA c3) ha8 (Rd_d hI c3) hS fun p' c' b' w6 R' N6 S6 => ⟨_, _, _, rfl, ?_⟩
              have c6 := c3.trans' N6.ch
              have S6' : SetR R' a.length (At a (us ++ [y])) := S6.congr fun k hk' => At_step a us y k hk'
              rw [wrap_id (n := (us.length : Int) + 1) (by omega) (by omega)]
              have e1 : ((us.length : Int) + 1) = (((us ++ [y]).length : Nat) : Int) := by simp
              rw [e1]
              have hms : (8 - (us ++ [y]).length) * (b.length + 1) + (b.length - tp) < N := by
                have h9 : 8 - us.length = (8 - (us ++ [y]).length) + 1 := by simp; omega
                rw [h9, Nat.add_mul, Nat.one_mul] at hN
                rcases hto with ⟨_, h⟩ | ⟨_, h⟩ <;> omega
              refine ih _ hms (Nat.le_refl _) (by rcases hto with ⟨_, h⟩ | ⟨_, h⟩ <;> omega) (by simp; omega) (Rd_d hA c6) (Rd_d hB c6) (Rd_d hWr c6) N6.ow.rd S6' fun r w7 hr c7 => ⟨_, rfl, Sif_cases (fun h8 => ?_) fun h8 => ?_⟩
              · refine hk _ _ ?_ (c6.trans' c7)
                simp only [true_iff]
                have := hr.1 h8
                rcases hto with ⟨gx, gt⟩ | ⟨gx, gt⟩ <;> rw [gt] at this
                · exact Lk_word hx hyW (.inl ⟨gx, this⟩)
                · exact Lk_word hx hyW (.inr ⟨gx, hgo.resolve_left gx, this⟩)
              · refine ⟨c6.trans' c7, ?_⟩
                have : ¬ Lk a b W tp (us ++ [y]) := fun g => by rw [hr.2 g] at h8; cases h8
                rcases hto with ⟨gx, gt⟩ | ⟨gx, gt⟩ <;> rw [gt] at this
                · exact ⟨fun _ => this, fun g => absurd gx g⟩
                · exact ⟨fun g => absurd g gx, fun _ _ => this⟩
            · rw [hpb, nn_some]
              simp only [add_at, Int.toNat_natCast, Nat.mul_one]
              refine ⟨_, hc0', ?_⟩
              rw [hash_eq]
              refine Sif_cases (fun h8 => ⟨by trivial, place, rfl, .inl ⟨eq_of_beq h8, rfl⟩⟩) fun h8 => ⟨by trivial, place + 1, by omega, .inr ⟨beq_eq_false_iff_ne.1 h8, rfl⟩⟩
          · refine ⟨by omega, by omega, ?_⟩
            simp only [hpb, nn_some, add_at, Int.toNat_natCast, Nat.mul_one]
            refine ⟨_, hc0', ?_⟩
            rw [hash_eq]
            refine Sif_cases (fun h8 => ⟨by omega, by omega, ?_⟩) fun h8 => ⟨by trivial, .inl (eq_of_beq (by simpa using h8))⟩
            have h8 : x ≠ Rt.hash := beq_eq_false_iff_ne.1 (by simpa using h8)
            refine ⟨_, hc0', ?_⟩
            rw [star_eq]
            refine Sif_cases (fun h9 => ⟨by omega, by omega, ?_⟩) fun h9 => ⟨by trivial, .inr (.inl (eq_of_beq (by simpa using h9)))⟩
            have h9 : x ≠ star := beq_eq_false_iff_ne.1 (by simpa using h9)
            refine ⟨_, hc0', ?_⟩
            rw [beq_ba]
            refine Sif_cases (fun h10 => ⟨c3, fun g => absurd g h8, fun _ g => ?_⟩) fun h10 => ⟨by trivial, .inr (.inr (eq_of_beq (by simpa using h10)))⟩
            have h10 : x ≠ y := beq_eq_false_iff_ne.1 (by simpa using h10)
            rcases g with g | g
            · exact absurd g h9
            · exact absurd g h10
      · have h6 := of_decide_eq_false h6
        have hi : i = W.length := by omega
        subst hi
        rw [List.take_length] at hn
        exact hk _ _ (by simpa using Lk_no hx hskip fun _ => hn) c3
    · rw [hpb, nn_some, ← hpb]
      simp only [add_at, Int.toNat_natCast, Nat.mul_one]
      refine ⟨_, hc0, ?_⟩
      rw [hash_eq]
      refine Sif_cases (fun h8 => ?_) fun h8 => ⟨Ch.refl _ _, fun g => absurd g (beq_eq_false_iff_ne.1 h8)⟩
      have h8 : x = Rt.hash := eq_of_beq h8
      rw [wrap_id (n := (place : Int) + 1) (by omega) (by omega), show ((place : Int) + 1) = ((place + 1 : Nat) : Int) by omega]
      refine ih ((8 - us.length) * (b.length + 1) + (b.length - (place + 1))) (by omega) (Nat.le_refl _) (by omega) hu hA hB hWr hI hS fun r w7 hr c7 => ⟨_, rfl, Sif_cases (fun h9 => ?_) fun h9 => ⟨c7, fun _ g => by rw [hr.2 g] at h9; cases h9⟩⟩
      refine hk _ _ ?_ c7
      simp only [true_iff]
      exact Lk_skip (by rw [hx, h8]) (hr.1 h9)
  · have h := of_decide_eq_true h
    have he := Lk_end (a := a) (W := W) h hu
    obtain ⟨v, hv, hvI⟩ := hS.2 a.length (Nat.le_refl _)
    rw [At_end] at hvI
    obtain ⟨b', o, hq, hc⟩ := iAt hI hv
    refine ⟨by omega, by rw [hS.1]; omega, ?_⟩
    rw [hq, nn_some]
    simp only [add_at, Int.toNat_natCast, Nat.mul_one]
    refine ⟨_, hc, Sif_cases (fun h1 => Sif_cases (fun h2 => hk _ _ ?_ (Ch.refl _ _)) fun h2 => ⟨by trivial, fun _ => ?_⟩) fun h1 => ⟨by trivial, fun _ => ?_⟩⟩
    · simp only [true_iff]
      exact he.2 ⟨by have := of_decide_eq_true h2; omega, fun g => hvI.2 g (by simpa using h1)⟩
    · rw [he]; rintro ⟨g, _⟩; have := of_decide_eq_false h2; omega
    · rw [he]; rintro ⟨_, g⟩; exact g (hvI.1 (by simpa using h1))
end Go.Proofs.YtnibmhjdomndbaaDoor
