/-
  Patterns over words, in plain words: what a pattern fits; the places of a pattern behind words, by recurrence; what covers. What covers, over all words, is seen over the words that the patterns name, and one more. Sets of places as numbers of sixteen bits. A text's parts between points; which parts may be a pattern's, which a topic's.
-/
import Derived.Test.YtnibmhjdomndbaaGreatDoorSvRow
import Derived.Lib.Bytealg
namespace Go.Rt
set_option linter.unusedVariables false
abbrev Bs := ByteArray
def star : Bs := ⟨#[42]⟩
def hash : Bs := ⟨#[35]⟩
theorem star_ne_hash : star ≠ hash := by decide
def okw (x w : Bs) : Prop := x = star ∨ x = w
instance (x w : Bs) : Decidable (okw x w) := inferInstanceAs (Decidable (_ ∨ _))
/-- the parts p can be laid over the words ws -/
def Mp : List Bs → List Bs → Prop
  | [], ws => ws = []
  | x :: p, ws => (x = hash ∧ ∃ u v, ws = u ++ v ∧ Mp p v) ∨ (x ≠ hash ∧ ∃ w v, ws = w :: v ∧ okw x w ∧ Mp p v)
theorem Mp_append : ∀ (p q ws : List Bs), Mp (p ++ q) ws ↔ ∃ u v, ws = u ++ v ∧ Mp p u ∧ Mp q v
  | [], q, ws => by
    simp only [List.nil_append, Mp]
    exact ⟨fun h => ⟨[], ws, rfl, rfl, h⟩, fun ⟨u, v, e, h1, h2⟩ => by subst h1; simpa [e] using h2⟩
  | x :: p, q, ws => by
    simp only [List.cons_append, Mp]
    constructor
    · rintro (⟨h1, u, v, rfl, h2⟩ | ⟨h1, w, v, rfl, h2, h3⟩)
      · obtain ⟨a, b, rfl, h3, h4⟩ := (Mp_append p q v).1 h2
        exact ⟨u ++ a, b, by simp, .inl ⟨h1, u, a, rfl, h3⟩, h4⟩
      · obtain ⟨a, b, rfl, h4, h5⟩ := (Mp_append p q v).1 h3
        exact ⟨w :: a, b, by simp, .inr ⟨h1, w, a, rfl, h2, h4⟩, h5⟩
    · rintro ⟨u, v, rfl, (⟨h1, a, b, rfl, h2⟩ | ⟨h1, w, a, rfl, h2, h3⟩), h4⟩
      · exact .inl ⟨h1, a, b ++ v, by simp, (Mp_append p q _).2 ⟨b, v, rfl, h2, h4⟩⟩
      · exact .inr ⟨h1, w, a ++ v, by simp, h2, (Mp_append p q _).2 ⟨a, v, rfl, h3, h4⟩⟩
theorem Mp_hash (ws : List Bs) : Mp [hash] ws := .inl ⟨rfl, ws, [], by simp, rfl⟩
theorem Mp_one {x : Bs} (hx : x ≠ hash) (ws : List Bs) : Mp [x] ws ↔ ∃ w, ws = [w] ∧ okw x w := by
  simp only [Mp]
  constructor
  · rintro (⟨h, _⟩ | ⟨_, w, v, rfl, h2, rfl⟩)
    · exact absurd h hx
    · exact ⟨w, rfl, h2⟩
  · rintro ⟨w, rfl, h⟩
    exact .inr ⟨hx, w, [], rfl, h, rfl⟩
theorem Mp_snoc_hash (p ws : List Bs) (w : Bs) : Mp (p ++ [hash]) (ws ++ [w]) ↔ Mp p (ws ++ [w]) ∨ Mp (p ++ [hash]) ws := by
  rw [Mp_append, Mp_append]
  constructor
  · rintro ⟨u, v, e, h1, _⟩
    rcases List.eq_nil_or_concat v with rfl | ⟨v', x, rfl⟩
    · rw [List.append_nil] at e
      exact .inl (e ▸ h1)
    · rw [List.concat_eq_append, ← List.append_assoc] at e
      obtain ⟨e1, e2⟩ := List.append_inj' e rfl
      exact .inr ⟨u, v', e1, h1, Mp_hash _⟩
  · rintro (h | ⟨u, v, rfl, h1, _⟩)
    · exact ⟨_, [], by simp, h, Mp_hash _⟩
    · exact ⟨u, v ++ [w], by simp, h1, Mp_hash _⟩
theorem Mp_snoc {x : Bs} (hx : x ≠ hash) (p ws : List Bs) (w : Bs) : Mp (p ++ [x]) (ws ++ [w]) ↔ Mp p ws ∧ okw x w := by
  rw [Mp_append]
  constructor
  · rintro ⟨u, v, e, h1, h2⟩
    obtain ⟨w', rfl, h3⟩ := (Mp_one hx v).1 h2
    obtain ⟨e1, e2⟩ := List.append_inj' e rfl
    simp only [List.cons.injEq, and_true] at e2
    subst e1 e2
    exact ⟨h1, h3⟩
  · rintro ⟨h1, h2⟩
    exact ⟨ws, [w], rfl, h1, (Mp_one hx _).2 ⟨w, rfl, h2⟩⟩
theorem Mp_snoc_nil {x : Bs} (hx : x ≠ hash) (p : List Bs) : ¬ Mp (p ++ [x]) [] := by
  rw [Mp_append]
  rintro ⟨u, v, e, h1, h2⟩
  obtain ⟨w', rfl, h3⟩ := (Mp_one hx v).1 h2
  simp at e
theorem Mp_hash_nil (p : List Bs) : Mp (p ++ [hash]) [] ↔ Mp p [] := by
  rw [Mp_append]
  constructor
  · rintro ⟨u, v, e, h1, h2⟩
    have : u = [] := (List.append_eq_nil_iff.1 e.symm).1
    exact this ▸ h1
  · exact fun h => ⟨[], [], rfl, h, Mp_hash _⟩
/-- place k of the pattern p behind the words ws (a '#' that has begun stands there still) -/
def At (p ws : List Bs) (k : Nat) : Prop := Mp (p.take (if p[k]? = some hash then k + 1 else k)) ws
theorem At_hash {p ws : List Bs} {k : Nat} (h : p[k]? = some hash) : At p ws k ↔ Mp (p.take k ++ [hash]) ws := by
  unfold At; rw [if_pos h, List.take_add_one, h]; rfl
theorem At_no {p ws : List Bs} {k : Nat} (h : p[k]? ≠ some hash) : At p ws k ↔ Mp (p.take k) ws := by unfold At; rw [if_neg h]
theorem At_end (p ws : List Bs) : At p ws p.length ↔ Mp p ws := by rw [At_no (by rw [List.getElem?_eq_none (Nat.le_refl _)]; exact fun h => by cases h), List.take_length]
/-- what a '#' reaches without a word -/
def Clo (p : List Bs) (I : Nat → Prop) : Nat → Prop
  | 0 => I 0
  | k + 1 => I (k + 1) ∨ (p[k]? = some hash ∧ Clo p I k)
/-- where a word leads, ahead of that -/
def Stp (p : List Bs) (A : Nat → Prop) (w : Bs) : Nat → Prop
  | 0 => A 0 ∧ p[0]? = some hash
  | k + 1 => (A (k + 1) ∧ p[k + 1]? = some hash) ∨ (A k ∧ ∃ x, p[k]? = some x ∧ x ≠ hash ∧ okw x w)
theorem Clo_congr {p : List Bs} {I J : Nat → Prop} (h : ∀ k, I k ↔ J k) : ∀ k, Clo p I k ↔ Clo p J k
  | 0 => h 0
  | k + 1 => by simp only [Clo, h (k + 1), Clo_congr h k]
theorem Stp_congr {p : List Bs} {A B : Nat → Prop} {w : Bs} (h : ∀ k, A k ↔ B k) : ∀ k, Stp p A w k ↔ Stp p B w k
  | 0 => by simp only [Stp, h 0]
  | k + 1 => by simp only [Stp, h (k + 1), h k]
theorem take_snoc {p : List Bs} {k : Nat} {x : Bs} (h : p[k]? = some x) : p.take (k + 1) = p.take k ++ [x] := by rw [List.take_add_one, h]; rfl
theorem At_start (p : List Bs) : ∀ k, k ≤ p.length → (Clo p (· = 0) k ↔ At p [] k)
  | 0, _ => by
    simp only [Clo, true_iff]
    by_cases h : p[0]? = some hash
    · rw [At_hash h]; exact Mp_hash _
    · rw [At_no h]; rfl
  | k + 1, hk => by
    have ih := At_start p k (by omega)
    have hx : p[k]? = some p[k] := List.getElem?_eq_getElem (by omega)
    have key : (p[k]? = some hash ∧ Clo p (· = 0) k) ↔ Mp (p.take (k + 1)) [] := by
      rw [take_snoc hx, ih, hx]
      by_cases he : p[k] = hash
      · rw [he, At_hash (by rw [hx, he])]
        exact ⟨fun h => h.2, fun h => ⟨rfl, h⟩⟩
      · constructor
        · rintro ⟨h, _⟩; exact absurd (Option.some.inj h) he
        · intro h; exact absurd h (Mp_snoc_nil he _)
    simp only [Clo]
    rw [key]
    by_cases h : p[k + 1]? = some hash
    · rw [At_hash h, Mp_hash_nil]; simp
    · rw [At_no h]; simp
theorem At_step (p ws : List Bs) (w : Bs) : ∀ k, k ≤ p.length → (Clo p (Stp p (At p ws) w) k ↔ At p (ws ++ [w]) k)
  | 0, _ => by
    simp only [Clo, Stp]
    by_cases h : p[0]? = some hash
    · rw [At_hash h, At_hash h, List.take_zero, List.nil_append]
      exact ⟨fun _ => Mp_hash _, fun _ => ⟨Mp_hash _, h⟩⟩
    · rw [At_no h, At_no h]
      simp [h, Mp]
  | k + 1, hk => by
    have ih := At_step p ws w k (by omega)
    have hx : p[k]? = some p[k] := List.getElem?_eq_getElem (by omega)
    have key : ((At p ws k ∧ ∃ x, p[k]? = some x ∧ x ≠ hash ∧ okw x w) ∨ (p[k]? = some hash ∧ Clo p (Stp p (At p ws) w) k)) ↔ Mp (p.take (k + 1)) (ws ++ [w]) := by
      rw [take_snoc hx, ih, hx]
      by_cases he : p[k] = hash
      · rw [he, At_hash (ws := ws ++ [w]) (by rw [hx, he])]
        constructor
        · rintro (⟨_, x, h1, h2, _⟩ | ⟨_, h⟩)
          · exact absurd (Option.some.inj h1).symm h2
          · exact h
        · exact fun h => .inr ⟨rfl, h⟩
      · rw [Mp_snoc he, At_no (ws := ws) (by rw [hx]; simpa using he)]
        constructor
        · rintro (⟨h1, x, h2, _, h4⟩ | ⟨h, _⟩)
          · exact ⟨h1, (Option.some.inj h2) ▸ h4⟩
          · exact absurd (Option.some.inj h) he
        · rintro ⟨h1, h2⟩
          exact .inl ⟨h1, _, rfl, he, h2⟩
    simp only [Clo, Stp]
    by_cases h : p[k + 1]? = some hash
    · rw [At_hash (ws := ws ++ [w]) h, Mp_snoc_hash, ← key, At_hash (ws := ws) h]
      constructor
      · rintro ((⟨h1, _⟩ | h1) | h1)
        · exact .inr h1
        · exact .inl (.inl h1)
        · exact .inl (.inr h1)
      · rintro ((h1 | h1) | h1)
        · exact .inl (.inr h1)
        · exact .inr h1
        · exact .inl (.inl ⟨h1, h⟩)
    · rw [At_no (ws := ws ++ [w]) h, ← key]
      constructor
      · rintro ((⟨_, h1⟩ | h1) | h1)
        · exact absurd h1 h
        · exact .inl h1
        · exact .inr h1
      · rintro (h1 | h1)
        · exact .inl (.inr h1)
        · exact .inr h1
end Go.Rt
namespace Go.Rt
set_option linter.unusedVariables false
/-- the pattern p fits all that q fits -/
def Cov (p q : List Bs) : Prop := ∀ ws : List Bs, 1 ≤ ws.length → ws.length ≤ 8 → Mp q ws → Mp p ws
def none0 : Bs := ⟨#[]⟩
/-- words that are not in A are none -/
noncomputable def phi (A : Bs → Prop) (w : Bs) : Bs := by classical exact if A w then w else none0
theorem phi_in {A : Bs → Prop} {w : Bs} (h : A w) : phi A w = w := by unfold phi; rw [if_pos h]
theorem phi_out {A : Bs → Prop} {w : Bs} (h : ¬ A w) : phi A w = none0 := by unfold phi; rw [if_neg h]
theorem phi_none {A : Bs → Prop} : phi A none0 = none0 := by unfold phi; split <;> rfl
/-- the pattern's words are in A, and none of them is empty -/
def Known (A : Bs → Prop) (p : List Bs) : Prop := ∀ x ∈ p, x ≠ none0 ∧ (x = star ∨ x = hash ∨ A x)
theorem okw_phi {A : Bs → Prop} {x w : Bs} (h1 : x ≠ none0) (h2 : x = star ∨ A x) : okw x (phi A w) ↔ okw x w := by
  unfold okw
  by_cases hA : A w
  · rw [phi_in hA]
  · rw [phi_out hA]
    constructor
    · rintro (h | h)
      · exact .inl h
      · exact absurd h h1
    · rintro (h | h)
      · exact .inl h
      · rcases h2 with h3 | h3
        · exact .inl h3
        · exact absurd (h ▸ h3) hA
theorem Mp_map {A : Bs → Prop} : ∀ (p ws : List Bs), Known A p → (Mp p (ws.map (phi A)) ↔ Mp p ws)
  | [], ws, _ => by simp [Mp]
  | x :: p, ws, hk => by
    have hk' : Known A p := fun y hy => hk y (List.mem_cons_of_mem _ hy)
    obtain ⟨h1, h2⟩ := hk x (List.mem_cons_self ..)
    simp only [Mp]
    constructor
    · rintro (⟨hx, u, v, e, h3⟩ | ⟨hx, w, v, e, h3, h4⟩)
      · obtain ⟨u', v', rfl, rfl, rfl⟩ := List.map_eq_append_iff.1 e
        exact .inl ⟨hx, u', v', rfl, (Mp_map p v' hk').1 h3⟩
      · obtain ⟨w', v', rfl, rfl, rfl⟩ := List.map_eq_cons_iff.1 e
        exact .inr ⟨hx, w', v', rfl, (okw_phi h1 (h2.imp id fun h => h.resolve_left hx)).1 h3, (Mp_map p v' hk').1 h4⟩
    · rintro (⟨hx, u, v, rfl, h3⟩ | ⟨hx, w, v, rfl, h3, h4⟩)
      · exact .inl ⟨hx, u.map (phi A), v.map (phi A), by simp, (Mp_map p v hk').2 h3⟩
      · exact .inr ⟨hx, phi A w, v.map (phi A), by simp, (okw_phi h1 (h2.imp id fun h => h.resolve_left hx)).2 h3, (Mp_map p v hk').2 h4⟩
/-- over words of A, and the empty one -/
theorem cov_words {A : Bs → Prop} {p q : List Bs} (hp : Known A p) (hq : Known A q) :
    Cov p q ↔ ∀ ws : List Bs, (∀ w ∈ ws, A w ∨ w = none0) → 1 ≤ ws.length → ws.length ≤ 8 → Mp q ws → Mp p ws := by
  constructor
  · exact fun h ws _ => h ws
  · intro h ws h1 h2 h3
    refine (Mp_map p ws hp).1 (h (ws.map (phi A)) (fun w hw => ?_) (by simpa using h1) (by simpa using h2) ((Mp_map q ws hq).2 h3))
    obtain ⟨x, _, rfl⟩ := List.mem_map.1 hw
    by_cases hA : A x
    · rw [phi_in hA]; exact .inl hA
    · rw [phi_out hA]; exact .inr rfl
/-- the second pattern, its words that the first one doesn't name struck -/
noncomputable def strike (A : Bs → Prop) (x : Bs) : Bs := by classical exact if x = star ∨ x = hash ∨ A x then x else none0
theorem strike_keep {A : Bs → Prop} {x : Bs} (h : x = star ∨ x = hash ∨ A x) : strike A x = x := by unfold strike; rw [if_pos h]
theorem strike_out {A : Bs → Prop} {x : Bs} (h : ¬ (x = star ∨ x = hash ∨ A x)) : strike A x = none0 := by unfold strike; rw [if_neg h]
theorem none0_ne : none0 ≠ hash ∧ none0 ≠ star := by decide
theorem strike_hash {A : Bs → Prop} {x : Bs} : strike A x = hash ↔ x = hash := by
  by_cases h : x = star ∨ x = hash ∨ A x
  · rw [strike_keep h]
  · rw [strike_out h]
    exact ⟨fun e => absurd e none0_ne.1, fun e => absurd (.inr (.inl e)) h⟩
theorem strike_to {A : Bs → Prop} : ∀ (q ws : List Bs), Mp q ws → Mp (q.map (strike A)) (ws.map (phi A))
  | [], ws, h => by
    have : ws = [] := h
    subst this; rfl
  | x :: q, ws, h => by
    simp only [List.map_cons, Mp] at h ⊢
    rcases h with ⟨hx, u, v, rfl, h3⟩ | ⟨hx, w, v, rfl, h3, h4⟩
    · exact .inl ⟨strike_hash.2 hx, u.map (phi A), v.map (phi A), by simp, strike_to q v h3⟩
    · refine .inr ⟨fun e => hx (strike_hash.1 e), phi A w, v.map (phi A), by simp, ?_, strike_to q v h4⟩
      rcases h3 with h3 | h3
      · left; rw [strike_keep (.inl h3)]; exact h3
      · subst h3
        by_cases hs : x = star
        · left; rw [strike_keep (.inl hs)]; exact hs
        · right
          by_cases hA : A x
          · rw [strike_keep (.inr (.inr hA)), phi_in hA]
          · rw [strike_out (fun h => h.elim hs fun h => h.elim hx hA), phi_out hA]
theorem strike_from {A : Bs → Prop} (hA0 : ¬ A none0) : ∀ (q v : List Bs), (∀ x ∈ q, x ≠ none0) → (∀ w ∈ v, A w ∨ w = none0) → Mp (q.map (strike A)) v → ∃ ws : List Bs, ws.map (phi A) = v ∧ Mp q ws
  | [], v, _, _, h => by
    have : v = [] := h
    subst this; exact ⟨[], rfl, rfl⟩
  | x :: q, v, hn, hv, h => by
    simp only [List.map_cons, Mp] at h
    have hn' : ∀ x ∈ q, x ≠ none0 := fun y hy => hn y (List.mem_cons_of_mem _ hy)
    have self : ∀ u : List Bs, (∀ w ∈ u, A w ∨ w = none0) → u.map (phi A) = u := fun u hu => by
      conv => rhs; rw [← List.map_id u]
      refine List.map_congr_left fun w hw => ?_
      rcases hu w hw with h | h
      · rw [phi_in h]; rfl
      · subst h; rw [phi_none]; rfl
    rcases h with ⟨hx, u, v', rfl, h3⟩ | ⟨hx, w, v', rfl, h3, h4⟩
    · obtain ⟨ws, h5, h6⟩ := strike_from hA0 q v' hn' (fun w hw => hv w (List.mem_append.2 (.inr hw))) h3
      exact ⟨u ++ ws, by rw [List.map_append, h5, self u fun w hw => hv w (List.mem_append.2 (.inl hw))], .inl ⟨strike_hash.1 hx, u, ws, rfl, h6⟩⟩
    · obtain ⟨ws, h5, h6⟩ := strike_from hA0 q v' hn' (fun w hw => hv w (List.mem_cons_of_mem _ hw)) h4
      have hxh : x ≠ hash := fun e => hx (strike_hash.2 e)
      have hw1 : (phi A w) = w := by
        have := self [w] (fun z hz => by simp only [List.mem_singleton] at hz; subst hz; exact hv _ (List.mem_cons_self ..))
        simpa using this
      by_cases hk : x = star ∨ x = hash ∨ A x
      · rw [strike_keep hk] at h3
        exact ⟨w :: ws, by rw [List.map_cons, hw1, h5], .inr ⟨hxh, w, ws, rfl, h3, h6⟩⟩
      · rw [strike_out hk] at h3
        rcases h3 with h3 | h3
        · exact absurd h3 none0_ne.2
        · refine ⟨x :: ws, ?_, .inr ⟨hxh, x, ws, rfl, .inr rfl, h6⟩⟩
          rw [List.map_cons, h5, phi_out fun h => hk (.inr (.inr h)), h3]
/-- what the document asks of: a way to what is lacking, over the first pattern's words -/
theorem cov_strike {A : Bs → Prop} {p q : List Bs} (hA0 : ¬ A none0) (hp : Known A p) (hq : ∀ x ∈ q, x ≠ none0) :
    Cov p q ↔ ∀ v : List Bs, (∀ w ∈ v, A w ∨ w = none0) → 1 ≤ v.length → v.length ≤ 8 → Mp (q.map (strike A)) v → Mp p v := by
  constructor
  · intro h v hv h1 h2 h3
    obtain ⟨ws, rfl, h4⟩ := strike_from hA0 q v hq hv h3
    exact (Mp_map p ws hp).2 (h ws (by simpa using h1) (by simpa using h2) h4)
  · intro h ws h1 h2 h3
    refine (Mp_map p ws hp).1 (h (ws.map (phi A)) (fun w hw => ?_) (by simpa using h1) (by simpa using h2) (strike_to q ws h3))
    obtain ⟨x, _, rfl⟩ := List.mem_map.1 hw
    by_cases hA : A x
    · rw [phi_in hA]; exact .inl hA
    · rw [phi_out hA]; exact .inr rfl
/-! ### The plain laws of what covers -/
theorem Cov.refl (p : List Bs) : Cov p p := fun ws _ _ h => h
theorem Cov.trans {p q r : List Bs} (h : Cov p q) (k : Cov q r) : Cov p r := fun ws h1 h2 h3 => h ws h1 h2 (k ws h1 h2 h3)
theorem Cov.all (p : List Bs) : Cov [hash] p := fun ws _ _ _ => Mp_hash ws
/-- words fit themselves alone -/
theorem Mp_words : ∀ (t ws : List Bs), (∀ x ∈ t, x ≠ star ∧ x ≠ hash) → (Mp t ws ↔ ws = t)
  | [], ws, _ => Iff.rfl
  | x :: t, ws, h => by
    obtain ⟨h1, h2⟩ := h x (List.mem_cons_self ..)
    have ih := fun v => Mp_words t v fun y hy => h y (List.mem_cons_of_mem _ hy)
    simp only [Mp]
    constructor
    · rintro (⟨e, _⟩ | ⟨_, w, v, rfl, h3, h4⟩)
      · exact absurd e h2
      · rw [(ih v).1 h4]
        rcases h3 with h3 | h3
        · exact absurd h3 h1
        · rw [h3]
    · rintro rfl
      exact .inr ⟨h2, x, t, rfl, .inr rfl, (ih t).2 rfl⟩
theorem cov_topic {p t : List Bs} (ht : ∀ x ∈ t, x ≠ star ∧ x ≠ hash) (h1 : 1 ≤ t.length) (h8 : t.length ≤ 8) : Cov p t ↔ Mp p t := by
  constructor
  · intro h
    exact h t h1 h8 ((Mp_words t t ht).2 rfl)
  · intro h ws _ _ h2
    rw [(Mp_words t ws ht).1 h2]; exact h
/-- a '#' ahead: it takes nothing, or one word more -/
theorem Mp_hash_cons (q v : List Bs) : Mp (hash :: q) v ↔ Mp q v ∨ ∃ w v', v = w :: v' ∧ Mp (hash :: q) v' := by
  simp only [Mp]
  constructor
  · rintro (⟨_, u, v', rfl, h⟩ | ⟨h, _⟩)
    · cases u with
      | nil => exact .inl h
      | cons w u => exact .inr ⟨w, u ++ v', rfl, .inl ⟨by trivial, u, v', rfl, h⟩⟩
    · exact absurd rfl h
  · rintro (h | ⟨w, v', rfl, (⟨_, u, v'', rfl, h⟩ | ⟨h, _⟩)⟩)
    · exact .inl ⟨by trivial, [], v, rfl, h⟩
    · exact .inl ⟨by trivial, w :: u, v'', rfl, h⟩
    · exact absurd rfl h
theorem Mp_part {x : Bs} (hx : x ≠ hash) (q v : List Bs) : Mp (x :: q) v ↔ ∃ w v', v = w :: v' ∧ okw x w ∧ Mp q v' := by
  simp only [Mp]
  exact ⟨fun h => h.elim (fun h => absurd h.1 hx) fun h => h.2, fun h => .inr ⟨hx, h⟩⟩
/-- where no place is left, nothing comes any more -/
theorem At_none {p ws : List Bs} (h : ∀ k, k ≤ p.length → ¬ At p ws k) (w : Bs) : ∀ k, k ≤ p.length → ¬ At p (ws ++ [w]) k := by
  intro k hk h1
  rw [← At_step p ws w k hk] at h1
  have key : ∀ k, k ≤ p.length → ¬ Clo p (Stp p (At p ws) w) k := by
    intro k
    induction k with
    | zero => intro hk h2; exact h 0 hk h2.1
    | succ k ih =>
      intro hk h2
      rcases h2 with h2 | ⟨_, h2⟩
      · rcases h2 with ⟨h2, _⟩ | ⟨h2, _⟩
        · exact h _ hk h2
        · exact h k (by omega) h2
      · exact ih (by omega) h2
  exact key k hk h1
end Go.Rt
namespace Go.Rt
open Go Go.Sv
set_option linter.unusedVariables false
theorem ofInt16 {a : Nat} (h : a < 65536) : (BitVec.ofInt IntKind.u16.bits (a : Int)).toNat = a := by
  rw [BitVec.toNat_ofInt]
  simp only [show IntKind.u16.bits = 16 from rfl]
  omega
theorem wrap_u16 {n : Int} (h1 : 0 ≤ n) (h2 : n < 65536) : IntKind.wrap .u16 n = n := by
  unfold IntKind.wrap
  simp [IntKind.bits, IntKind.signed]
  omega
theorem and_u16 {a b : Nat} (ha : a < 65536) (hb : b < 65536) : bitsV .and .u16 a b = ((a &&& b : Nat) : Int) := by
  unfold bitsV
  have h : a &&& b < 65536 := Nat.lt_of_le_of_lt Nat.and_le_left ha
  simp only
  rw [BitVec.toNat_and, ofInt16 ha, ofInt16 hb, wrap_u16 (by omega) (by omega)]
theorem or_u16 {a b : Nat} (ha : a < 65536) (hb : b < 65536) : bitsV .or .u16 a b = ((a ||| b : Nat) : Int) := by
  unfold bitsV
  have h : a ||| b < 2 ^ 16 := Nat.or_lt_two_pow ha hb
  simp only
  rw [BitVec.toNat_or, ofInt16 ha, ofInt16 hb, wrap_u16 (by omega) (by omega)]
theorem pow_small {k : Nat} (h : k ≤ 8) : 2 ^ k < 65536 := Nat.lt_of_le_of_lt (Nat.pow_le_pow_right (by omega) h) (by decide)
theorem and_bit {a k : Nat} : (a &&& 2 ^ k) = 0 ↔ a.testBit k = false := by
  constructor
  · intro h
    have h1 : (a &&& 2 ^ k).testBit k = false := by rw [h]; exact Nat.zero_testBit k
    rw [Nat.testBit_and, Nat.testBit_two_pow] at h1
    simpa using h1
  · intro h
    refine Nat.eq_of_testBit_eq fun i => ?_
    rw [Nat.testBit_and, Nat.testBit_two_pow, Nat.zero_testBit]
    by_cases hk : k = i
    · subst hk; simp [h]
    · simp [hk]
/-- the number is the set of places I, up to n -/
def IsSet (a n : Nat) (I : Nat → Prop) : Prop := ∀ k, a.testBit k = true ↔ (k ≤ n ∧ I k)
theorem IsSet.lt {a n : Nat} {I : Nat → Prop} (h : IsSet a n I) (hn : n ≤ 8) : a < 65536 := by
  refine Nat.lt_of_lt_of_le (Nat.lt_pow_two_of_testBit (n := 9) a fun i hi => ?_) (by decide)
  cases hb : a.testBit i with
  | false => rfl
  | true => have := ((h i).1 hb).1; omega
theorem IsSet.inj {a b n : Nat} {I : Nat → Prop} (h : IsSet a n I) (k : IsSet b n I) : a = b := by
  refine Nat.eq_of_testBit_eq fun i => ?_
  rw [Bool.eq_iff_iff, h i, k i]
theorem IsSet.congr {a n : Nat} {I J : Nat → Prop} (h : IsSet a n I) (hIJ : ∀ k, k ≤ n → (I k ↔ J k)) : IsSet a n J := fun k => by
  rw [h k]
  exact ⟨fun ⟨h1, h2⟩ => ⟨h1, (hIJ k h1).1 h2⟩, fun ⟨h1, h2⟩ => ⟨h1, (hIJ k h1).2 h2⟩⟩
theorem IsSet.zero {n : Nat} {I : Nat → Prop} (h : IsSet 0 n I) : ∀ k, k ≤ n → ¬ I k := fun k hk hi => by
  have := (h k).2 ⟨hk, hi⟩
  simp at this
theorem IsSet.one (n : Nat) : IsSet 1 n (· = 0) := fun k => by
  rw [show (1 : Nat) = 2 ^ 0 from rfl, Nat.testBit_two_pow]
  simp only [decide_eq_true_eq]
  exact ⟨fun h => ⟨by omega, h.symm⟩, fun h => h.2.symm⟩
theorem IsSet.none (n : Nat) : IsSet 0 n fun _ => False := fun k => by simp
theorem IsSet.add {a n j : Nat} {I : Nat → Prop} (h : IsSet a n I) (hj : j ≤ n) : IsSet (a ||| 2 ^ j) n fun k => I k ∨ k = j := fun k => by
  rw [Nat.testBit_or, Nat.testBit_two_pow, Bool.or_eq_true, h k, decide_eq_true_eq]
  constructor
  · rintro (⟨h1, h2⟩ | h1)
    · exact ⟨h1, .inl h2⟩
    · exact ⟨by omega, .inr h1.symm⟩
  · rintro ⟨h1, h2 | h2⟩
    · exact .inl ⟨h1, h2⟩
    · exact .inr h2.symm
end Go.Rt
namespace Go.Rt
open Go Go.Sv
set_option linter.unusedVariables false
def splitDot : List UInt8 → List (List UInt8)
  | [] => [[]]
  | c :: l => if c = 46 then [] :: splitDot l else match splitDot l with
    | [] => [[c]]
    | x :: r => (c :: x) :: r
theorem splitDot_ne : ∀ l, splitDot l ≠ []
  | [] => by simp [splitDot]
  | c :: l => by
    unfold splitDot
    split
    · simp
    · split <;> simp
theorem splitDot_none : ∀ (a : List UInt8), 46 ∉ a → splitDot a = [a]
  | [], _ => rfl
  | c :: a, h => by
    have h1 : c ≠ 46 := fun e => h (by simp [e])
    have h2 := splitDot_none a fun h3 => h (List.mem_cons_of_mem _ h3)
    unfold splitDot
    rw [if_neg h1, h2]
theorem splitDot_at : ∀ (a b : List UInt8), 46 ∉ a → splitDot (a ++ 46 :: b) = a :: splitDot b
  | [], b, _ => by simp [splitDot]
  | c :: a, b, h => by
    have h1 : c ≠ 46 := fun e => h (by simp [e])
    have h2 := splitDot_at a b fun h3 => h (List.mem_cons_of_mem _ h3)
    rw [List.cons_append]
    conv => lhs; unfold splitDot
    rw [if_neg h1, h2]
theorem splitDot_len : ∀ l, (splitDot l).length = l.count 46 + 1
  | [] => rfl
  | c :: l => by
    have ih := splitDot_len l
    unfold splitDot
    by_cases h : c = 46
    · subst h
      rw [if_pos rfl, List.length_cons, ih]; simp
    · rw [if_neg h, List.count_cons_of_ne (by simpa using h)]
      split
      · rename_i e; exact absurd e (splitDot_ne l)
      · rename_i e; rw [e] at ih; simpa using ih
theorem splitDot_index {l : List UInt8} {m : Nat} (h : Lib.indexByte l 46 = (m : Int)) : splitDot l = l.take m :: splitDot (l.drop (m + 1)) ∧ m < l.length := by
  have key : ∀ (l : List UInt8) (m : Nat), Lib.indexByte l 46 = (m : Int) → m < l.length ∧ 46 ∉ l.take m ∧ l[m]? = some 46 := by
    intro l
    induction l with
    | nil => intro m h; simp [Lib.indexByte] at h
    | cons b l ih =>
      intro m h
      unfold Lib.indexByte at h
      split at h
      · rename_i hb
        have : m = 0 := by omega
        subst this
        have : b = 46 := by simpa using hb
        subst this
        simp
      · rename_i hb
        split at h
        · omega
        · obtain ⟨m', rfl⟩ : ∃ m', m = m' + 1 := ⟨m - 1, by
            have := Lib.indexByte_ge l 46
            rename_i h2
            have : Lib.indexByte l 46 ≠ -1 := by simpa using h2
            omega⟩
          obtain ⟨h1, h2, h3⟩ := ih m' (by omega)
          refine ⟨by simp; omega, ?_, by simpa using h3⟩
          rw [List.take_succ_cons]
          intro h4
          rcases List.mem_cons.1 h4 with h5 | h5
          · exact hb (by simp [← h5])
          · exact h2 h5
  obtain ⟨h1, h2, h3⟩ := key l m h
  have e : l = l.take m ++ 46 :: l.drop (m + 1) := by
    have hx : l[m] = 46 := by rw [List.getElem?_eq_getElem h1] at h3; exact Option.some.inj h3
    rw [← hx, List.getElem_cons_drop h1, List.take_append_drop]
  refine ⟨?_, h1⟩
  conv => lhs; rw [e]
  exact splitDot_at _ _ h2
theorem splitDot_index_none {l : List UInt8} (h : Lib.indexByte l 46 = -1) : splitDot l = [l] := by
  refine splitDot_none l ?_
  induction l with
  | nil => simp
  | cons b l ih =>
    unfold Lib.indexByte at h
    split at h
    · omega
    · rename_i hb
      split at h
      · rename_i h2
        intro h4
        rcases List.mem_cons.1 h4 with h5 | h5
        · exact hb (by simp [← h5])
        · exact ih (by simpa using h2) h5
      · have := Lib.indexByte_ge l 46
        omega
/-- the parts, as texts -/
def parts (s : Bs) : List Bs := (splitDot s.data.toList).map fun l => ⟨l.toArray⟩
def letter (c : Int) : Bool := (decide (97 ≤ c) && decide (c ≤ 122)) || (decide (48 ≤ c) && decide (c ≤ 57)) || c == 45
/-- is a text a word? -/
def word (s : Bs) : Bool := (List.range s.size).all (fun i => letter (byteAt s i)) && decide (1 ≤ s.size) && decide (s.size ≤ 32)
def namedc (c : Int) : Bool := letter c || c == 46 || c == 95
def named (s : Bs) : Bool := (List.range s.size).all (fun i => namedc (byteAt s i)) && decide (1 ≤ s.size) && decide (s.size ≤ 64)
def isPat (s : Bs) : Bool := (parts s).all (fun x => word x || x == star || x == hash) && decide ((parts s).length ≤ 8) && decide ((parts s).count hash ≤ 2)
def isTop (s : Bs) : Bool := (parts s).all word && decide ((parts s).length ≤ 8)
end Go.Rt
