/-
  A text's parts between points; which parts may be a pattern's, which a topic's.
-/
import Derived.Test.YtnibmhjdomndbaaDoorRtBits
import Derived.Lib.Bytealg
namespace Go.Rt
open Go Go.Sv
set_option linter.unusedVariables false
def splitDot : List UInt8 → List (List UInt8)
  | [] => [[]]
  | c :: l => if c = 46 then [] :: splitDot l else match splitDot l with
    | [] => [[c]]
    | x :: r => (c :: x) :: r
theorem splitDot_ne : ∀ l, splitDot l ≠ []
  | [] => by simp [splitDot]
  | c :: l => by
    unfold splitDot
    split
    · simp
    · split <;> simp
theorem splitDot_none : ∀ (a : List UInt8), 46 ∉ a → splitDot a = [a]
  | [], _ => rfl
  | c :: a, h => by
    have h1 : c ≠ 46 := fun e => h (by simp [e])
    have h2 := splitDot_none a fun h3 => h (List.mem_cons_of_mem _ h3)
    unfold splitDot
    rw [if_neg h1, h2]
theorem splitDot_at : ∀ (a b : List UInt8), 46 ∉ a → splitDot (a ++ 46 :: b) = a :: splitDot b
  | [], b, _ => by simp [splitDot]
  | c :: a, b, h => by
    have h1 : c ≠ 46 := fun e => h (by simp [e])
    have h2 := splitDot_at a b fun h3 => h (List.mem_cons_of_mem _ h3)
    rw [List.cons_append]
    conv => lhs; unfold splitDot
    rw [if_neg h1, h2]
theorem splitDot_len : ∀ l, (splitDot l).length = l.count 46 + 1
  | [] => rfl
  | c :: l => by
    have ih := splitDot_len l
    unfold splitDot
    by_cases h : c = 46
    · subst h
      rw [if_pos rfl, List.length_cons, ih]; simp
    · rw [if_neg h, List.count_cons_of_ne (by simpa using h)]
      split
      · rename_i e; exact absurd e (splitDot_ne l)
      · rename_i e; rw [e] at ih; simpa using ih
theorem splitDot_index {l : List UInt8} {m : Nat} (h : Lib.indexByte l 46 = (m : Int)) : splitDot l = l.take m :: splitDot (l.drop (m + 1)) ∧ m < l.length := by
  have key : ∀ (l : List UInt8) (m : Nat), Lib.indexByte l 46 = (m : Int) → m < l.length ∧ 46 ∉ l.take m ∧ l[m]? = some 46 := by
    intro l
    induction l with
    | nil => intro m h; simp [Lib.indexByte] at h
    | cons b l ih =>
      intro m h
      unfold Lib.indexByte at h
      split at h
      · rename_i hb
        have : m = 0 := by omega
        subst this
        have : b = 46 := by simpa using hb
        subst this
        simp
      · rename_i hb
        split at h
        · omega
        · obtain ⟨m', rfl⟩ : ∃ m', m = m' + 1 := ⟨m - 1, by
            have := Lib.indexByte_ge l 46
            rename_i h2
            have : Lib.indexByte l 46 ≠ -1 := by simpa using h2
            omega⟩
          obtain ⟨h1, h2, h3⟩ := ih m' (by omega)
          refine ⟨by simp; omega, ?_, by simpa using h3⟩
          rw [List.take_succ_cons]
          intro h4
          rcases List.mem_cons.1 h4 with h5 | h5
          · exact hb (by simp [← h5])
          · exact h2 h5
  obtain ⟨h1, h2, h3⟩ := key l m h
  have e : l = l.take m ++ 46 :: l.drop (m + 1) := by
    have hx : l[m] = 46 := by rw [List.getElem?_eq_getElem h1] at h3; exact Option.some.inj h3
    rw [← hx, List.getElem_cons_drop h1, List.take_append_drop]
  refine ⟨?_, h1⟩
  conv => lhs; rw [e]
  exact splitDot_at _ _ h2
theorem splitDot_index_none {l : List UInt8} (h : Lib.indexByte l 46 = -1) : splitDot l = [l] := by
  refine splitDot_none l ?_
  induction l with
  | nil => simp
  | cons b l ih =>
    unfold Lib.indexByte at h
    split at h
    · omega
    · rename_i hb
      split at h
      · rename_i h2
        intro h4
        rcases List.mem_cons.1 h4 with h5 | h5
        · exact hb (by simp [← h5])
        · exact ih (by simpa using h2) h5
      · have := Lib.indexByte_ge l 46
        omega
/-- the parts, as texts -/
def parts (s : Bs) : List Bs := (splitDot s.data.toList).map fun l => ⟨l.toArray⟩
def letter (c : Int) : Bool := (decide (97 ≤ c) && decide (c ≤ 122)) || (decide (48 ≤ c) && decide (c ≤ 57)) || c == 45
/-- is a text a word? -/
def word (s : Bs) : Bool := (List.range s.size).all (fun i => letter (byteAt s i)) && decide (1 ≤ s.size) && decide (s.size ≤ 32)
def namedc (c : Int) : Bool := letter c || c == 46 || c == 95
def named (s : Bs) : Bool := (List.range s.size).all (fun i => namedc (byteAt s i)) && decide (1 ≤ s.size) && decide (s.size ≤ 64)
def isPat (s : Bs) : Bool := (parts s).all (fun x => word x || x == star || x == hash) && decide ((parts s).length ≤ 8) && decide ((parts s).count hash ≤ 2)
def isTop (s : Bs) : Bool := (parts s).all word && decide ((parts s).length ≤ 8)
end Go.Rt
