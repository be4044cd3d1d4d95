/-
  Sets of places as numbers of sixteen bits.
-/
import Derived.Test.YtnibmhjdomndbaaDoorRtCov
namespace Go.Rt
open Go Go.Sv
set_option linter.unusedVariables false
theorem ofInt16 {a : Nat} (h : a < 65536) : (BitVec.ofInt IntKind.u16.bits (a : Int)).toNat = a := by
  rw [BitVec.toNat_ofInt]
  simp only [show IntKind.u16.bits = 16 from rfl]
  omega
theorem wrap_u16 {n : Int} (h1 : 0 ≤ n) (h2 : n < 65536) : IntKind.wrap .u16 n = n := by
  unfold IntKind.wrap
  simp [IntKind.bits, IntKind.signed]
  omega
theorem and_u16 {a b : Nat} (ha : a < 65536) (hb : b < 65536) : bitsV .and .u16 a b = ((a &&& b : Nat) : Int) := by
  unfold bitsV
  have h : a &&& b < 65536 := Nat.lt_of_le_of_lt Nat.and_le_left ha
  simp only
  rw [BitVec.toNat_and, ofInt16 ha, ofInt16 hb, wrap_u16 (by omega) (by omega)]
theorem or_u16 {a b : Nat} (ha : a < 65536) (hb : b < 65536) : bitsV .or .u16 a b = ((a ||| b : Nat) : Int) := by
  unfold bitsV
  have h : a ||| b < 2 ^ 16 := Nat.or_lt_two_pow ha hb
  simp only
  rw [BitVec.toNat_or, ofInt16 ha, ofInt16 hb, wrap_u16 (by omega) (by omega)]
theorem pow_small {k : Nat} (h : k ≤ 8) : 2 ^ k < 65536 := Nat.lt_of_le_of_lt (Nat.pow_le_pow_right (by omega) h) (by decide)
theorem and_bit {a k : Nat} : (a &&& 2 ^ k) = 0 ↔ a.testBit k = false := by
  constructor
  · intro h
    have h1 : (a &&& 2 ^ k).testBit k = false := by rw [h]; exact Nat.zero_testBit k
    rw [Nat.testBit_and, Nat.testBit_two_pow] at h1
    simpa using h1
  · intro h
    refine Nat.eq_of_testBit_eq fun i => ?_
    rw [Nat.testBit_and, Nat.testBit_two_pow, Nat.zero_testBit]
    by_cases hk : k = i
    · subst hk; simp [h]
    · simp [hk]
/-- the number is the set of places I, up to n -/
def IsSet (a n : Nat) (I : Nat → Prop) : Prop := ∀ k, a.testBit k = true ↔ (k ≤ n ∧ I k)
theorem IsSet.lt {a n : Nat} {I : Nat → Prop} (h : IsSet a n I) (hn : n ≤ 8) : a < 65536 := by
  refine Nat.lt_of_lt_of_le (Nat.lt_pow_two_of_testBit (n := 9) a fun i hi => ?_) (by decide)
  cases hb : a.testBit i with
  | false => rfl
  | true => have := ((h i).1 hb).1; omega
theorem IsSet.inj {a b n : Nat} {I : Nat → Prop} (h : IsSet a n I) (k : IsSet b n I) : a = b := by
  refine Nat.eq_of_testBit_eq fun i => ?_
  rw [Bool.eq_iff_iff, h i, k i]
theorem IsSet.congr {a n : Nat} {I J : Nat → Prop} (h : IsSet a n I) (hIJ : ∀ k, k ≤ n → (I k ↔ J k)) : IsSet a n J := fun k => by
  rw [h k]
  exact ⟨fun ⟨h1, h2⟩ => ⟨h1, (hIJ k h1).1 h2⟩, fun ⟨h1, h2⟩ => ⟨h1, (hIJ k h1).2 h2⟩⟩
theorem IsSet.zero {n : Nat} {I : Nat → Prop} (h : IsSet 0 n I) : ∀ k, k ≤ n → ¬ I k := fun k hk hi => by
  have := (h k).2 ⟨hk, hi⟩
  simp at this
theorem IsSet.one (n : Nat) : IsSet 1 n (· = 0) := fun k => by
  rw [show (1 : Nat) = 2 ^ 0 from rfl, Nat.testBit_two_pow]
  simp only [decide_eq_true_eq]
  exact ⟨fun h => ⟨by omega, h.symm⟩, fun h => h.2.symm⟩
theorem IsSet.none (n : Nat) : IsSet 0 n fun _ => False := fun k => by simp
theorem IsSet.add {a n j : Nat} {I : Nat → Prop} (h : IsSet a n I) (hj : j ≤ n) : IsSet (a ||| 2 ^ j) n fun k => I k ∨ k = j := fun k => by
  rw [Nat.testBit_or, Nat.testBit_two_pow, Bool.or_eq_true, h k, decide_eq_true_eq]
  constructor
  · rintro (⟨h1, h2⟩ | h1)
    · exact ⟨h1, .inl h2⟩
    · exact ⟨by omega, .inr h1.symm⟩
  · rintro ⟨h1, h2 | h2⟩
    · exact .inl ⟨h1, h2⟩
    · exact .inr h2.symm
end Go.Rt
