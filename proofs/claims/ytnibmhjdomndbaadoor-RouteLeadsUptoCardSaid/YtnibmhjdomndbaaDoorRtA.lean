/-
  The program's and the document's readings of words, names, patterns and topics.
-/
import Derived.Test.YtnibmhjdomndbaaDoorRtLib
import Derived.Test.YtnibmhjdomndbaaDoorMainWp
import Derived.Test.YtnibmhjdomndbaaDoorRefWp
namespace Go.Proofs.YtnibmhjdomndbaaDoor
open Go Go.Sv Go.Rt
set_option linter.unusedVariables false
def goodc (others : ByteArray) (c : Int) : Bool := (decide (97 ≤ c) && decide (c ≤ 122)) || (decide (48 ≤ c) && decide (c ≤ 57)) || !decide (Lib.indexByte others.data.toList c.toNat.toUInt8 < 0)
def madeB (s : ByteArray) (most : Int) (others : ByteArray) : Bool := (List.range s.size).all (fun i => goodc others (byteAt s i)) && decide (1 ≤ s.size) && decide ((s.size : Int) ≤ most)
theorem all_range {n : Nat} {f : Nat → Bool} (h : ∀ j, j < n → f j = true) : (List.range n).all f = true := by
  rw [List.all_eq_true]; intro x hx; exact h x (List.mem_range.1 hx)
theorem all_range_not {n i : Nat} {f : Nat → Bool} (hi : i < n) (h : f i = false) : (List.range n).all f = false := by
  rw [List.all_eq_false]; exact ⟨i, List.mem_range.2 hi, by simp [h]⟩
theorem size0 {s : ByteArray} (h : s.size = 0) : s = ⟨#[]⟩ := by
  apply data_ext
  have : s.data.toList.length = 0 := by simpa using h
  rw [List.length_eq_zero_iff] at this
  rw [this]
set_option maxHeartbeats 1000000 in
theorem made_ok {s others : ByteArray} {most : Int} {w : World} {K : Value → World → Prop} (hs : s.size ≤ 2 ^ 40) (hk : K (.bool (madeB s most others)) w) : callP Tryd.prog 45 [.string s, .int .i64 most, .string others] w K := by
  refine ok_route_made ?_
  unfold wp_route_made
  refine ⟨fun m n w1 => ∃ i : Nat, n = (i : Int) ∧ m + i = s.size ∧ (∀ j, j < i → goodc others (byteAt s j) = true) ∧ w1 = w, ⟨s.size, 0, rfl, rfl, (fun j hj => by omega), rfl⟩, ?_⟩
  rintro m n w1 ⟨i, rfl, hm, hg, rfl⟩
  refine Sif_cases (fun h => ?_) fun h => ?_
  · have h := of_decide_eq_true h
    refine ⟨fun w2 => w2 = w1 ∧ goodc others (byteAt s i) = true, ?_, by omega, h, ?_⟩
    · rintro w2 ⟨rfl, h3⟩
      rw [wrap_id (n := (i : Int) + 1) (by omega) (by omega)]
      refine ⟨m - 1, by omega, i + 1, by omega, by omega, fun j hj => ?_, rfl⟩
      by_cases hji : j = i
      · rw [hji]; exact h3
      · exact hg j (by omega)
    · rw [nameI_iff, Int.toNat_natCast]
      have call : (goodc others (byteAt s i) = !decide (Lib.indexByte others.data.toList (byteAt s i).toNat.toUInt8 < 0)) → callP Tryd.prog 56 [.string others, .int .u8 (byteAt s i)] w1 fun v w2 => ∃ n2, v = .int .i64 n2 ∧ Sif (decide (n2 < 0)) (K (.bool false) w2) (w2 = w1 ∧ goodc others (byteAt s i) = true) := fun e => by
        refine indexByte_ok ⟨_, rfl, Sif_cases (fun h5 => ?_) fun h5 => ?_⟩
        · rw [h5] at e
          have : madeB s most others = false := by
            rw [madeB, all_range_not (i := i) (by omega) e]; rfl
          rw [this] at hk; exact hk
        · rw [h5] at e; exact ⟨rfl, e⟩
      refine Sif_cases (fun h1 => Sif_cases (fun h2 => Sif_cases (fun h3 => Sif_cases (fun h4 => call ?_) fun h4 => ?_) fun h3 => call ?_) fun h2 => ?_) fun h1 => Sif_cases (fun h3 => Sif_cases (fun h4 => call ?_) fun h4 => ?_) fun h3 => call ?_
      all_goals (simp only [ge_iff_le, decide_eq_true_eq, decide_eq_false_iff_not, Bool.not_eq_true', Bool.not_eq_false', Bool.not_eq_false, decide_not] at *)
      all_goals (try refine ⟨trivial, ?_⟩)
      all_goals (unfold goodc; simp [*])
  · have h := of_decide_eq_false h
    have hi : i = s.size := by omega
    have e : madeB s most others = (decide (1 ≤ s.size) && decide ((s.size : Int) ≤ most)) := by
      rw [madeB, all_range (fun j hj => hg j (by omega)), Bool.true_and]
    rw [e] at hk
    by_cases h0 : s.size = 0
    · rw [size0 h0] at hk ⊢
      have e0 : (ByteArray.toList ⟨#[]⟩ == ByteArray.toList ⟨#[]⟩) = true := str_eq_self _
      rw [e0]
      exact hk
    · have : (s.toList == ByteArray.toList ⟨#[]⟩) = false := neS (fun h => h0 (by rw [h]; rfl))
      rw [this]
      refine Sif_true ?_
      have : decide (1 ≤ s.size) = true := decide_eq_true (by omega)
      rw [this, Bool.true_and] at hk
      exact hk
theorem byteAt_get (s : ByteArray) (i : Nat) : ∃ b : UInt8, byteAt s i = (b.toNat : Int) := ⟨_, rfl⟩
theorem idx_neg (l : List UInt8) (c : UInt8) : (!decide (Lib.indexByte l c < 0)) = decide (c ∈ l) := by
  induction l with
  | nil => simp [Lib.indexByte]
  | cons b l ih =>
    unfold Lib.indexByte
    have hg := Lib.indexByte_ge l c
    by_cases hb : b = c
    · subst hb; simp
    · have h1 : (b == c) = false := by simpa using hb
      simp only [h1, Bool.false_eq_true, if_false]
      have h3 : decide (c ∈ b :: l) = decide (c ∈ l) := decide_eq_decide.2 (by simp [Ne.symm hb])
      rw [h3, ← ih]
      by_cases h2 : Lib.indexByte l c = -1
      · simp [h2]
      · have h4 : (Lib.indexByte l c == -1) = false := by simpa using h2
        simp only [h4, Bool.false_eq_true, if_false]
        have : ¬ (Lib.indexByte l c + 1 < 0) := by omega
        have : ¬ (Lib.indexByte l c < 0) := by omega
        simp [*]
theorem u8_eq (c k : UInt8) : ((c.toNat : Int) == (k.toNat : Int)) = decide (c = k) := by
  by_cases h : c = k
  · subst h; simp
  · have h2 : ((c.toNat : Int) == (k.toNat : Int)) = false := by rw [beq_eq_false_iff_ne]; intro e; apply h; apply UInt8.toNat_inj.1; omega
    rw [h2]; simp [h]
theorem u8_back (c : UInt8) : ((c.toNat : Int)).toNat.toUInt8 = c := by simp
theorem good_dash (c : UInt8) : goodc ⟨#[45]⟩ c.toNat = letter c.toNat := by
  unfold goodc letter
  rw [idx_neg, u8_back]
  congr 1
  exact (Eq.trans (decide_eq_decide.2 (by simp)) (u8_eq c 45).symm)
theorem good_name (c : UInt8) : goodc ⟨#[45, 46, 95]⟩ c.toNat = namedc c.toNat := by
  unfold goodc namedc letter
  rw [idx_neg, u8_back, Bool.or_assoc (_ || _), Bool.or_assoc (_ || _)]
  congr 1
  have h1 := u8_eq c 45
  have h2 := u8_eq c 46
  have h3 := u8_eq c 95
  rw [show ((c.toNat : Int) == 45) = decide (c = 45) from h1, show ((c.toNat : Int) == 46) = decide (c = 46) from h2, show ((c.toNat : Int) == 95) = decide (c = 95) from h3]
  rw [← Bool.decide_or, ← Bool.decide_or]
  exact decide_eq_decide.2 (by simp [or_assoc])
theorem made_word (s : ByteArray) : madeB s 32 ⟨#[45]⟩ = word s := by
  unfold madeB word
  congr 1
  · congr 2
    funext i
    obtain ⟨b, hb⟩ := byteAt_get s i
    rw [hb]; exact good_dash b
  · exact decide_eq_decide.2 (by omega)
theorem made_named (s : ByteArray) : madeB s 64 ⟨#[45, 46, 95]⟩ = named s := by
  unfold madeB named
  congr 1
  · congr 2
    funext i
    obtain ⟨b, hb⟩ := byteAt_get s i
    rw [hb]; exact good_name b
  · exact decide_eq_decide.2 (by omega)
theorem isName_ok {s : ByteArray} {w : World} {K : Value → World → Prop} (hs : s.size ≤ 2 ^ 40) (hk : K (.bool (named s)) w) : callP Tryd.prog 35 [.string s] w K := by
  refine ok_route_isName ?_
  unfold wp_route_isName
  refine made_ok hs ⟨_, rfl, ?_⟩
  rw [made_named]; exact hk
theorem word_made {s : ByteArray} {w : World} {K : Value → World → Prop} (hs : s.size ≤ 2 ^ 40) (hk : K (.bool (word s)) w) : callP Tryd.prog 45 [.string s, .int .i64 32, .string ⟨#[45]⟩] w K :=
  made_ok hs (by rw [made_word]; exact hk)
end Go.Proofs.YtnibmhjdomndbaaDoor
