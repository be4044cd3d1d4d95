/-
  The document's readings: letter, word, Named, parts, Topic, Pattern; the program's cut.
-/
import Derived.Test.YtnibmhjdomndbaaDoorRtA
namespace Go.Proofs.YtnibmhjdomndbaaDoor
open Go Go.Sv Go.Rt
set_option linter.unusedVariables false
theorem letter_ok {c : Int} {w : World} {K : Value → World → Prop} (hk : K (.bool (letter c)) w) : callP Tryd.prog 50 [.int .u8 c] w K := by
  refine ok_longshoreref18_letter ?_
  unfold wp_longshoreref18_letter
  unfold letter at hk
  refine Sif_cases (fun h1 => Sif_cases (fun h2 => Sif_cases (fun h3 => Sif_cases (fun h4 => ?_) fun h4 => ?_) fun h3 => ?_) fun h2 => ?_) fun h1 => Sif_cases (fun h3 => Sif_cases (fun h4 => ?_) fun h4 => ?_) fun h3 => ?_
  all_goals (simp only [ge_iff_le, decide_eq_true_eq, decide_eq_false_iff_not, Bool.not_eq_true', Bool.not_eq_false', Bool.not_eq_false, decide_not] at *)
  all_goals (simp only [*, decide_true, decide_false, Bool.and_true, Bool.true_and, Bool.false_and, Bool.and_false, Bool.or_true, Bool.true_or, Bool.or_false, Bool.false_or] at hk; exact hk)
theorem all_letters {s : ByteArray} {f : Int → Bool} (h : ∀ j, j < s.size → f (byteAt s j) = true) : (List.range s.size).all (fun i => f (byteAt s i)) = true := all_range h
set_option maxHeartbeats 1000000 in
theorem word_ok {s : ByteArray} {w : World} {K : Value → World → Prop} (hs : s.size ≤ 2 ^ 40) (hk : K (.bool (word s)) w) : callP Tryd.prog 46 [.string s] w K := by
  refine ok_longshoreref18_word ?_
  unfold wp_longshoreref18_word
  refine ⟨fun m n w1 => ∃ i : Nat, n = (i : Int) ∧ m + i = s.size ∧ (∀ j, j < i → letter (byteAt s j) = true) ∧ w1 = w, ⟨s.size, 0, rfl, rfl, (fun j hj => by omega), rfl⟩, ?_⟩
  rintro m n w1 ⟨i, rfl, hm, hg, rfl⟩
  refine Sif_cases (fun h => ?_) fun h => ?_
  · have h := of_decide_eq_true h
    refine ⟨by omega, h, ?_⟩
    rw [Int.toNat_natCast]
    refine letter_ok ⟨_, rfl, Sif_cases (fun h5 => ?_) fun h5 => ?_⟩
    · have h5 : letter (byteAt s i) = false := by simpa using h5
      have : word s = false := by rw [word, all_range_not (i := i) (by omega) h5]; rfl
      rw [this] at hk; exact hk
    · have h5 : letter (byteAt s i) = true := by simpa using h5
      rw [nameI_iff, wrap_id (n := (i : Int) + 1) (by omega) (by omega)]
      refine ⟨m - 1, by omega, i + 1, by omega, by omega, fun j hj => ?_, rfl⟩
      by_cases hji : j = i
      · rw [hji]; exact h5
      · exact hg j (by omega)
  · have h := of_decide_eq_false h
    have e : word s = (decide (1 ≤ s.size) && decide (s.size ≤ 32)) := by
      rw [word, all_letters (f := letter) (fun j hj => hg j (by omega)), Bool.true_and]
    rw [e] at hk
    refine Sif_cases (fun h1 => ?_) fun h1 => ?_
    · have h1 := of_decide_eq_true h1
      rw [decide_eq_true (show 1 ≤ s.size by omega), Bool.true_and] at hk
      have : decide ((s.size : Int) ≤ 32) = decide (s.size ≤ 32) := decide_eq_decide.2 (by omega)
      rw [this]; exact hk
    · have h1 := of_decide_eq_false h1
      rw [decide_eq_false (show ¬ 1 ≤ s.size by omega), Bool.false_and] at hk
      exact hk
set_option maxHeartbeats 1000000 in
theorem named_ok {s : ByteArray} {w : World} {K : Value → World → Prop} (hs : s.size ≤ 2 ^ 40) (hk : K (.bool (named s)) w) : callP Tryd.prog 36 [.string s] w K := by
  refine ok_longshoreref18_Named ?_
  unfold wp_longshoreref18_Named
  refine ⟨fun m n w1 => ∃ i : Nat, n = (i : Int) ∧ m + i = s.size ∧ (∀ j, j < i → namedc (byteAt s j) = true) ∧ w1 = w, ⟨s.size, 0, rfl, rfl, (fun j hj => by omega), rfl⟩, ?_⟩
  rintro m n w1 ⟨i, rfl, hm, hg, rfl⟩
  refine Sif_cases (fun h => ?_) fun h => ?_
  · have h := of_decide_eq_true h
    have bad : namedc (byteAt s i) = false → K (.bool false) w1 := fun h5 => by
      have : named s = false := by rw [named, all_range_not (i := i) (by omega) h5]; rfl
      rw [this] at hk; exact hk
    refine ⟨fun w2 => w2 = w1 ∧ namedc (byteAt s i) = true, ?_, by omega, h, ?_⟩
    · rintro w2 ⟨rfl, h5⟩
      rw [nameI_iff, wrap_id (n := (i : Int) + 1) (by omega) (by omega)]
      refine ⟨m - 1, by omega, i + 1, by omega, by omega, fun j hj => ?_, rfl⟩
      by_cases hji : j = i
      · rw [hji]; exact h5
      · exact hg j (by omega)
    · simp only [Int.toNat_natCast]
      refine letter_ok ⟨_, rfl, Sif_cases (fun h5 => ⟨by omega, h, Sif_cases (fun h6 => ⟨by omega, h, Sif_cases (fun h7 => bad ?_) fun h7 => ⟨rfl, ?_⟩⟩) fun h6 => ⟨rfl, ?_⟩⟩) fun h5 => ⟨rfl, ?_⟩⟩
      all_goals unfold namedc
      · have h5 : letter (byteAt s i) = false := by simpa using h5
        have h6 : (byteAt s i == 46) = false := by simpa using h6
        have h7 : (byteAt s i == 95) = false := by simpa using h7
        rw [h5, h6, h7]; rfl
      · have h7 : (byteAt s i == 95) = true := by simpa using h7
        rw [h7, Bool.or_true]
      · have h6 : (byteAt s i == 46) = true := by simpa using h6
        rw [h6, Bool.or_true, Bool.true_or]
      · have h5 : letter (byteAt s i) = true := by simpa using h5
        rw [h5, Bool.true_or, Bool.true_or]
  · have h := of_decide_eq_false h
    have e : named s = (decide (1 ≤ s.size) && decide (s.size ≤ 64)) := by
      rw [named, all_letters (f := namedc) (fun j hj => hg j (by omega)), Bool.true_and]
    rw [e] at hk
    refine Sif_cases (fun h1 => ?_) fun h1 => ?_
    · have h1 := of_decide_eq_true h1
      rw [decide_eq_true (show 1 ≤ s.size by omega), Bool.true_and] at hk
      have : decide ((s.size : Int) ≤ 64) = decide (s.size ≤ 64) := decide_eq_decide.2 (by omega)
      rw [this]; exact hk
    · have h1 := of_decide_eq_false h1
      rw [decide_eq_false (show ¬ 1 ≤ s.size by omega), Bool.false_and] at hk
      exact hk
/-- a row of texts of one's own, laid since w -/
structure Nw (w w' : World) (p : Option Addr) (c : Nat) (b : Option Nat) (L : List ByteArray) : Prop where
  ow : Ow w' p L.length c 1 (L.flatMap sCell) b
  new : ∀ k, b = some k → w.heap.size ≤ k
  ch : Ch (fun _ => False) w w'
theorem Nw.rd {w w' : World} {p : Option Addr} {c : Nat} {b : Option Nat} {L : List ByteArray} (h : Nw w w' p c b L) : Rd w' p L.length 1 (L.flatMap sCell) := h.ow.rd
theorem Nw.nil (w : World) : Nw w w none 0 none [] := ⟨Ow.nil, (fun k h => by cases h), Ch.refl _ _⟩
theorem Nw.push {w w' : World} {p : Option Addr} {c : Nat} {b : Option Nat} {L : List ByteArray} (h : Nw w w' p c b L) (x : ByteArray) (h1 : L.length + 1 ≤ 2 ^ 42) {K : Option Addr → Nat → Nat → World → Prop}
    (hk : ∀ p' c' b' w2, Nw w w2 p' c' b' (L ++ [x]) → Ch (fun k => b = some k) w' w2 → (∀ k, b' = some k → b = some k ∨ w'.heap.size ≤ k) → K p' (L ++ [x]).length c' w2) :
    newB w' [.string x] 9 fun a w2 => ∃ p5 n7 c5 w3, Sem.run Tryd.prog (Builtin.append_ #[39, 39] 39 #[.slice p L.length c, .slice (some a) 1 1]) w2 = .ok (.slice p5 n7 c5) w3 ∧ K p5 n7 c5 w3 :=
  push_ok (sz := 1) (g := sCell) Tryd.underlying39 strings_info (by rfl) sCell_len sCell_one h.ow x (by omega) (by omega) fun p' c' b' w2 o2 n2 c2 =>
    hk p' c' b' w2 ⟨o2, (fun k hk => by rcases n2 k hk with h3 | h3; exact h.new k h3; exact Nat.le_trans h.ch.size h3), h.ch.trans c2 fun x hx h3 => absurd hx (Nat.not_lt.2 (h.new x h3))⟩ c2 n2
end Go.Proofs.YtnibmhjdomndbaaDoor
