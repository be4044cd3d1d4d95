/-
  Patterns over words, in plain words: what a pattern fits; the places of a pattern behind words, by recurrence; what covers.
-/
import Derived.Test.YtnibmhjdomndbaaDoorSvRow
namespace Go.Rt
set_option linter.unusedVariables false
abbrev Bs := ByteArray
def star : Bs := ⟨#[42]⟩
def hash : Bs := ⟨#[35]⟩
theorem star_ne_hash : star ≠ hash := by decide
def okw (x w : Bs) : Prop := x = star ∨ x = w
instance (x w : Bs) : Decidable (okw x w) := inferInstanceAs (Decidable (_ ∨ _))
/-- the parts p can be laid over the words ws -/
def Mp : List Bs → List Bs → Prop
  | [], ws => ws = []
  | x :: p, ws => (x = hash ∧ ∃ u v, ws = u ++ v ∧ Mp p v) ∨ (x ≠ hash ∧ ∃ w v, ws = w :: v ∧ okw x w ∧ Mp p v)
theorem Mp_append : ∀ (p q ws : List Bs), Mp (p ++ q) ws ↔ ∃ u v, ws = u ++ v ∧ Mp p u ∧ Mp q v
  | [], q, ws => by
    simp only [List.nil_append, Mp]
    exact ⟨fun h => ⟨[], ws, rfl, rfl, h⟩, fun ⟨u, v, e, h1, h2⟩ => by subst h1; simpa [e] using h2⟩
  | x :: p, q, ws => by
    simp only [List.cons_append, Mp]
    constructor
    · rintro (⟨h1, u, v, rfl, h2⟩ | ⟨h1, w, v, rfl, h2, h3⟩)
      · obtain ⟨a, b, rfl, h3, h4⟩ := (Mp_append p q v).1 h2
        exact ⟨u ++ a, b, by simp, .inl ⟨h1, u, a, rfl, h3⟩, h4⟩
      · obtain ⟨a, b, rfl, h4, h5⟩ := (Mp_append p q v).1 h3
        exact ⟨w :: a, b, by simp, .inr ⟨h1, w, a, rfl, h2, h4⟩, h5⟩
    · rintro ⟨u, v, rfl, (⟨h1, a, b, rfl, h2⟩ | ⟨h1, w, a, rfl, h2, h3⟩), h4⟩
      · exact .inl ⟨h1, a, b ++ v, by simp, (Mp_append p q _).2 ⟨b, v, rfl, h2, h4⟩⟩
      · exact .inr ⟨h1, w, a ++ v, by simp, h2, (Mp_append p q _).2 ⟨a, v, rfl, h3, h4⟩⟩
theorem Mp_hash (ws : List Bs) : Mp [hash] ws := .inl ⟨rfl, ws, [], by simp, rfl⟩
theorem Mp_one {x : Bs} (hx : x ≠ hash) (ws : List Bs) : Mp [x] ws ↔ ∃ w, ws = [w] ∧ okw x w := by
  simp only [Mp]
  constructor
  · rintro (⟨h, _⟩ | ⟨_, w, v, rfl, h2, rfl⟩)
    · exact absurd h hx
    · exact ⟨w, rfl, h2⟩
  · rintro ⟨w, rfl, h⟩
    exact .inr ⟨hx, w, [], rfl, h, rfl⟩
theorem Mp_snoc_hash (p ws : List Bs) (w : Bs) : Mp (p ++ [hash]) (ws ++ [w]) ↔ Mp p (ws ++ [w]) ∨ Mp (p ++ [hash]) ws := by
  rw [Mp_append, Mp_append]
  constructor
  · rintro ⟨u, v, e, h1, _⟩
    rcases List.eq_nil_or_concat v with rfl | ⟨v', x, rfl⟩
    · rw [List.append_nil] at e
      exact .inl (e ▸ h1)
    · rw [List.concat_eq_append, ← List.append_assoc] at e
      obtain ⟨e1, e2⟩ := List.append_inj' e rfl
      exact .inr ⟨u, v', e1, h1, Mp_hash _⟩
  · rintro (h | ⟨u, v, rfl, h1, _⟩)
    · exact ⟨_, [], by simp, h, Mp_hash _⟩
    · exact ⟨u, v ++ [w], by simp, h1, Mp_hash _⟩
theorem Mp_snoc {x : Bs} (hx : x ≠ hash) (p ws : List Bs) (w : Bs) : Mp (p ++ [x]) (ws ++ [w]) ↔ Mp p ws ∧ okw x w := by
  rw [Mp_append]
  constructor
  · rintro ⟨u, v, e, h1, h2⟩
    obtain ⟨w', rfl, h3⟩ := (Mp_one hx v).1 h2
    obtain ⟨e1, e2⟩ := List.append_inj' e rfl
    simp only [List.cons.injEq, and_true] at e2
    subst e1 e2
    exact ⟨h1, h3⟩
  · rintro ⟨h1, h2⟩
    exact ⟨ws, [w], rfl, h1, (Mp_one hx _).2 ⟨w, rfl, h2⟩⟩
theorem Mp_snoc_nil {x : Bs} (hx : x ≠ hash) (p : List Bs) : ¬ Mp (p ++ [x]) [] := by
  rw [Mp_append]
  rintro ⟨u, v, e, h1, h2⟩
  obtain ⟨w', rfl, h3⟩ := (Mp_one hx v).1 h2
  simp at e
theorem Mp_hash_nil (p : List Bs) : Mp (p ++ [hash]) [] ↔ Mp p [] := by
  rw [Mp_append]
  constructor
  · rintro ⟨u, v, e, h1, h2⟩
    have : u = [] := (List.append_eq_nil_iff.1 e.symm).1
    exact this ▸ h1
  · exact fun h => ⟨[], [], rfl, h, Mp_hash _⟩
/-- place k of the pattern p behind the words ws (a '#' that has begun stands there still) -/
def At (p ws : List Bs) (k : Nat) : Prop := Mp (p.take (if p[k]? = some hash then k + 1 else k)) ws
theorem At_hash {p ws : List Bs} {k : Nat} (h : p[k]? = some hash) : At p ws k ↔ Mp (p.take k ++ [hash]) ws := by
  unfold At; rw [if_pos h, List.take_add_one, h]; rfl
theorem At_no {p ws : List Bs} {k : Nat} (h : p[k]? ≠ some hash) : At p ws k ↔ Mp (p.take k) ws := by unfold At; rw [if_neg h]
theorem At_end (p ws : List Bs) : At p ws p.length ↔ Mp p ws := by rw [At_no (by rw [List.getElem?_eq_none (Nat.le_refl _)]; exact fun h => by cases h), List.take_length]
/-- what a '#' reaches without a word -/
def Clo (p : List Bs) (I : Nat → Prop) : Nat → Prop
  | 0 => I 0
  | k + 1 => I (k + 1) ∨ (p[k]? = some hash ∧ Clo p I k)
/-- where a word leads, ahead of that -/
def Stp (p : List Bs) (A : Nat → Prop) (w : Bs) : Nat → Prop
  | 0 => A 0 ∧ p[0]? = some hash
  | k + 1 => (A (k + 1) ∧ p[k + 1]? = some hash) ∨ (A k ∧ ∃ x, p[k]? = some x ∧ x ≠ hash ∧ okw x w)
theorem Clo_congr {p : List Bs} {I J : Nat → Prop} (h : ∀ k, I k ↔ J k) : ∀ k, Clo p I k ↔ Clo p J k
  | 0 => h 0
  | k + 1 => by simp only [Clo, h (k + 1), Clo_congr h k]
theorem Stp_congr {p : List Bs} {A B : Nat → Prop} {w : Bs} (h : ∀ k, A k ↔ B k) : ∀ k, Stp p A w k ↔ Stp p B w k
  | 0 => by simp only [Stp, h 0]
  | k + 1 => by simp only [Stp, h (k + 1), h k]
theorem take_snoc {p : List Bs} {k : Nat} {x : Bs} (h : p[k]? = some x) : p.take (k + 1) = p.take k ++ [x] := by rw [List.take_add_one, h]; rfl
theorem At_start (p : List Bs) : ∀ k, k ≤ p.length → (Clo p (· = 0) k ↔ At p [] k)
  | 0, _ => by
    simp only [Clo, true_iff]
    by_cases h : p[0]? = some hash
    · rw [At_hash h]; exact Mp_hash _
    · rw [At_no h]; rfl
  | k + 1, hk => by
    have ih := At_start p k (by omega)
    have hx : p[k]? = some p[k] := List.getElem?_eq_getElem (by omega)
    have key : (p[k]? = some hash ∧ Clo p (· = 0) k) ↔ Mp (p.take (k + 1)) [] := by
      rw [take_snoc hx, ih, hx]
      by_cases he : p[k] = hash
      · rw [he, At_hash (by rw [hx, he])]
        exact ⟨fun h => h.2, fun h => ⟨rfl, h⟩⟩
      · constructor
        · rintro ⟨h, _⟩; exact absurd (Option.some.inj h) he
        · intro h; exact absurd h (Mp_snoc_nil he _)
    simp only [Clo]
    rw [key]
    by_cases h : p[k + 1]? = some hash
    · rw [At_hash h, Mp_hash_nil]; simp
    · rw [At_no h]; simp
theorem At_step (p ws : List Bs) (w : Bs) : ∀ k, k ≤ p.length → (Clo p (Stp p (At p ws) w) k ↔ At p (ws ++ [w]) k)
  | 0, _ => by
    simp only [Clo, Stp]
    by_cases h : p[0]? = some hash
    · rw [At_hash h, At_hash h, List.take_zero, List.nil_append]
      exact ⟨fun _ => Mp_hash _, fun _ => ⟨Mp_hash _, h⟩⟩
    · rw [At_no h, At_no h]
      simp [h, Mp]
  | k + 1, hk => by
    have ih := At_step p ws w k (by omega)
    have hx : p[k]? = some p[k] := List.getElem?_eq_getElem (by omega)
    have key : ((At p ws k ∧ ∃ x, p[k]? = some x ∧ x ≠ hash ∧ okw x w) ∨ (p[k]? = some hash ∧ Clo p (Stp p (At p ws) w) k)) ↔ Mp (p.take (k + 1)) (ws ++ [w]) := by
      rw [take_snoc hx, ih, hx]
      by_cases he : p[k] = hash
      · rw [he, At_hash (ws := ws ++ [w]) (by rw [hx, he])]
        constructor
        · rintro (⟨_, x, h1, h2, _⟩ | ⟨_, h⟩)
          · exact absurd (Option.some.inj h1).symm h2
          · exact h
        · exact fun h => .inr ⟨rfl, h⟩
      · rw [Mp_snoc he, At_no (ws := ws) (by rw [hx]; simpa using he)]
        constructor
        · rintro (⟨h1, x, h2, _, h4⟩ | ⟨h, _⟩)
          · exact ⟨h1, (Option.some.inj h2) ▸ h4⟩
          · exact absurd (Option.some.inj h) he
        · rintro ⟨h1, h2⟩
          exact .inl ⟨h1, _, rfl, he, h2⟩
    simp only [Clo, Stp]
    by_cases h : p[k + 1]? = some hash
    · rw [At_hash (ws := ws ++ [w]) h, Mp_snoc_hash, ← key, At_hash (ws := ws) h]
      constructor
      · rintro ((⟨h1, _⟩ | h1) | h1)
        · exact .inr h1
        · exact .inl (.inl h1)
        · exact .inl (.inr h1)
      · rintro ((h1 | h1) | h1)
        · exact .inl (.inr h1)
        · exact .inr h1
        · exact .inl (.inl ⟨h1, h⟩)
    · rw [At_no (ws := ws ++ [w]) h, ← key]
      constructor
      · rintro ((⟨_, h1⟩ | h1) | h1)
        · exact absurd h1 h
        · exact .inl h1
        · exact .inr h1
      · rintro (h1 | h1)
        · exact .inl (.inr h1)
        · exact .inr h1
end Go.Rt
