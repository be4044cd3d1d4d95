/-
  What covers, over all words, is seen over the words that the patterns name, and one more.
-/
import Derived.Test.YtnibmhjdomndbaaDoorRtSpec
namespace Go.Rt
set_option linter.unusedVariables false
/-- the pattern p fits all that q fits -/
def Cov (p q : List Bs) : Prop := ∀ ws : List Bs, 1 ≤ ws.length → ws.length ≤ 8 → Mp q ws → Mp p ws
def none0 : Bs := ⟨#[]⟩
/-- words that are not in A are none -/
noncomputable def phi (A : Bs → Prop) (w : Bs) : Bs := by classical exact if A w then w else none0
theorem phi_in {A : Bs → Prop} {w : Bs} (h : A w) : phi A w = w := by unfold phi; rw [if_pos h]
theorem phi_out {A : Bs → Prop} {w : Bs} (h : ¬ A w) : phi A w = none0 := by unfold phi; rw [if_neg h]
theorem phi_none {A : Bs → Prop} : phi A none0 = none0 := by unfold phi; split <;> rfl
/-- the pattern's words are in A, and none of them is empty -/
def Known (A : Bs → Prop) (p : List Bs) : Prop := ∀ x ∈ p, x ≠ none0 ∧ (x = star ∨ x = hash ∨ A x)
theorem okw_phi {A : Bs → Prop} {x w : Bs} (h1 : x ≠ none0) (h2 : x = star ∨ A x) : okw x (phi A w) ↔ okw x w := by
  unfold okw
  by_cases hA : A w
  · rw [phi_in hA]
  · rw [phi_out hA]
    constructor
    · rintro (h | h)
      · exact .inl h
      · exact absurd h h1
    · rintro (h | h)
      · exact .inl h
      · rcases h2 with h3 | h3
        · exact .inl h3
        · exact absurd (h ▸ h3) hA
theorem Mp_map {A : Bs → Prop} : ∀ (p ws : List Bs), Known A p → (Mp p (ws.map (phi A)) ↔ Mp p ws)
  | [], ws, _ => by simp [Mp]
  | x :: p, ws, hk => by
    have hk' : Known A p := fun y hy => hk y (List.mem_cons_of_mem _ hy)
    obtain ⟨h1, h2⟩ := hk x (List.mem_cons_self ..)
    simp only [Mp]
    constructor
    · rintro (⟨hx, u, v, e, h3⟩ | ⟨hx, w, v, e, h3, h4⟩)
      · obtain ⟨u', v', rfl, rfl, rfl⟩ := List.map_eq_append_iff.1 e
        exact .inl ⟨hx, u', v', rfl, (Mp_map p v' hk').1 h3⟩
      · obtain ⟨w', v', rfl, rfl, rfl⟩ := List.map_eq_cons_iff.1 e
        exact .inr ⟨hx, w', v', rfl, (okw_phi h1 (h2.imp id fun h => h.resolve_left hx)).1 h3, (Mp_map p v' hk').1 h4⟩
    · rintro (⟨hx, u, v, rfl, h3⟩ | ⟨hx, w, v, rfl, h3, h4⟩)
      · exact .inl ⟨hx, u.map (phi A), v.map (phi A), by simp, (Mp_map p v hk').2 h3⟩
      · exact .inr ⟨hx, phi A w, v.map (phi A), by simp, (okw_phi h1 (h2.imp id fun h => h.resolve_left hx)).2 h3, (Mp_map p v hk').2 h4⟩
/-- over words of A, and the empty one -/
theorem cov_words {A : Bs → Prop} {p q : List Bs} (hp : Known A p) (hq : Known A q) :
    Cov p q ↔ ∀ ws : List Bs, (∀ w ∈ ws, A w ∨ w = none0) → 1 ≤ ws.length → ws.length ≤ 8 → Mp q ws → Mp p ws := by
  constructor
  · exact fun h ws _ => h ws
  · intro h ws h1 h2 h3
    refine (Mp_map p ws hp).1 (h (ws.map (phi A)) (fun w hw => ?_) (by simpa using h1) (by simpa using h2) ((Mp_map q ws hq).2 h3))
    obtain ⟨x, _, rfl⟩ := List.mem_map.1 hw
    by_cases hA : A x
    · rw [phi_in hA]; exact .inl hA
    · rw [phi_out hA]; exact .inr rfl
/-- the second pattern, its words that the first one doesn't name struck -/
noncomputable def strike (A : Bs → Prop) (x : Bs) : Bs := by classical exact if x = star ∨ x = hash ∨ A x then x else none0
theorem strike_keep {A : Bs → Prop} {x : Bs} (h : x = star ∨ x = hash ∨ A x) : strike A x = x := by unfold strike; rw [if_pos h]
theorem strike_out {A : Bs → Prop} {x : Bs} (h : ¬ (x = star ∨ x = hash ∨ A x)) : strike A x = none0 := by unfold strike; rw [if_neg h]
theorem none0_ne : none0 ≠ hash ∧ none0 ≠ star := by decide
theorem strike_hash {A : Bs → Prop} {x : Bs} : strike A x = hash ↔ x = hash := by
  by_cases h : x = star ∨ x = hash ∨ A x
  · rw [strike_keep h]
  · rw [strike_out h]
    exact ⟨fun e => absurd e none0_ne.1, fun e => absurd (.inr (.inl e)) h⟩
theorem strike_to {A : Bs → Prop} : ∀ (q ws : List Bs), Mp q ws → Mp (q.map (strike A)) (ws.map (phi A))
  | [], ws, h => by
    have : ws = [] := h
    subst this; rfl
  | x :: q, ws, h => by
    simp only [List.map_cons, Mp] at h ⊢
    rcases h with ⟨hx, u, v, rfl, h3⟩ | ⟨hx, w, v, rfl, h3, h4⟩
    · exact .inl ⟨strike_hash.2 hx, u.map (phi A), v.map (phi A), by simp, strike_to q v h3⟩
    · refine .inr ⟨fun e => hx (strike_hash.1 e), phi A w, v.map (phi A), by simp, ?_, strike_to q v h4⟩
      rcases h3 with h3 | h3
      · left; rw [strike_keep (.inl h3)]; exact h3
      · subst h3
        by_cases hs : x = star
        · left; rw [strike_keep (.inl hs)]; exact hs
        · right
          by_cases hA : A x
          · rw [strike_keep (.inr (.inr hA)), phi_in hA]
          · rw [strike_out (fun h => h.elim hs fun h => h.elim hx hA), phi_out hA]
theorem strike_from {A : Bs → Prop} (hA0 : ¬ A none0) : ∀ (q v : List Bs), (∀ x ∈ q, x ≠ none0) → (∀ w ∈ v, A w ∨ w = none0) → Mp (q.map (strike A)) v → ∃ ws : List Bs, ws.map (phi A) = v ∧ Mp q ws
  | [], v, _, _, h => by
    have : v = [] := h
    subst this; exact ⟨[], rfl, rfl⟩
  | x :: q, v, hn, hv, h => by
    simp only [List.map_cons, Mp] at h
    have hn' : ∀ x ∈ q, x ≠ none0 := fun y hy => hn y (List.mem_cons_of_mem _ hy)
    have self : ∀ u : List Bs, (∀ w ∈ u, A w ∨ w = none0) → u.map (phi A) = u := fun u hu => by
      conv => rhs; rw [← List.map_id u]
      refine List.map_congr_left fun w hw => ?_
      rcases hu w hw with h | h
      · rw [phi_in h]; rfl
      · subst h; rw [phi_none]; rfl
    rcases h with ⟨hx, u, v', rfl, h3⟩ | ⟨hx, w, v', rfl, h3, h4⟩
    · obtain ⟨ws, h5, h6⟩ := strike_from hA0 q v' hn' (fun w hw => hv w (List.mem_append.2 (.inr hw))) h3
      exact ⟨u ++ ws, by rw [List.map_append, h5, self u fun w hw => hv w (List.mem_append.2 (.inl hw))], .inl ⟨strike_hash.1 hx, u, ws, rfl, h6⟩⟩
    · obtain ⟨ws, h5, h6⟩ := strike_from hA0 q v' hn' (fun w hw => hv w (List.mem_cons_of_mem _ hw)) h4
      have hxh : x ≠ hash := fun e => hx (strike_hash.2 e)
      have hw1 : (phi A w) = w := by
        have := self [w] (fun z hz => by simp only [List.mem_singleton] at hz; subst hz; exact hv _ (List.mem_cons_self ..))
        simpa using this
      by_cases hk : x = star ∨ x = hash ∨ A x
      · rw [strike_keep hk] at h3
        exact ⟨w :: ws, by rw [List.map_cons, hw1, h5], .inr ⟨hxh, w, ws, rfl, h3, h6⟩⟩
      · rw [strike_out hk] at h3
        rcases h3 with h3 | h3
        · exact absurd h3 none0_ne.2
        · refine ⟨x :: ws, ?_, .inr ⟨hxh, x, ws, rfl, .inr rfl, h6⟩⟩
          rw [List.map_cons, h5, phi_out fun h => hk (.inr (.inr h)), h3]
/-- what the document asks of: a way to what is lacking, over the first pattern's words -/
theorem cov_strike {A : Bs → Prop} {p q : List Bs} (hA0 : ¬ A none0) (hp : Known A p) (hq : ∀ x ∈ q, x ≠ none0) :
    Cov p q ↔ ∀ v : List Bs, (∀ w ∈ v, A w ∨ w = none0) → 1 ≤ v.length → v.length ≤ 8 → Mp (q.map (strike A)) v → Mp p v := by
  constructor
  · intro h v hv h1 h2 h3
    obtain ⟨ws, rfl, h4⟩ := strike_from hA0 q v hq hv h3
    exact (Mp_map p ws hp).2 (h ws (by simpa using h1) (by simpa using h2) h4)
  · intro h ws h1 h2 h3
    refine (Mp_map p ws hp).1 (h (ws.map (phi A)) (fun w hw => ?_) (by simpa using h1) (by simpa using h2) (strike_to q ws h3))
    obtain ⟨x, _, rfl⟩ := List.mem_map.1 hw
    by_cases hA : A x
    · rw [phi_in hA]; exact .inl hA
    · rw [phi_out hA]; exact .inr rfl
/-! ### The plain laws of what covers -/
theorem Cov.refl (p : List Bs) : Cov p p := fun ws _ _ h => h
theorem Cov.trans {p q r : List Bs} (h : Cov p q) (k : Cov q r) : Cov p r := fun ws h1 h2 h3 => h ws h1 h2 (k ws h1 h2 h3)
theorem Cov.all (p : List Bs) : Cov [hash] p := fun ws _ _ _ => Mp_hash ws
/-- words fit themselves alone -/
theorem Mp_words : ∀ (t ws : List Bs), (∀ x ∈ t, x ≠ star ∧ x ≠ hash) → (Mp t ws ↔ ws = t)
  | [], ws, _ => Iff.rfl
  | x :: t, ws, h => by
    obtain ⟨h1, h2⟩ := h x (List.mem_cons_self ..)
    have ih := fun v => Mp_words t v fun y hy => h y (List.mem_cons_of_mem _ hy)
    simp only [Mp]
    constructor
    · rintro (⟨e, _⟩ | ⟨_, w, v, rfl, h3, h4⟩)
      · exact absurd e h2
      · rw [(ih v).1 h4]
        rcases h3 with h3 | h3
        · exact absurd h3 h1
        · rw [h3]
    · rintro rfl
      exact .inr ⟨h2, x, t, rfl, .inr rfl, (ih t).2 rfl⟩
theorem cov_topic {p t : List Bs} (ht : ∀ x ∈ t, x ≠ star ∧ x ≠ hash) (h1 : 1 ≤ t.length) (h8 : t.length ≤ 8) : Cov p t ↔ Mp p t := by
  constructor
  · intro h
    exact h t h1 h8 ((Mp_words t t ht).2 rfl)
  · intro h ws _ _ h2
    rw [(Mp_words t ws ht).1 h2]; exact h
/-- a '#' ahead: it takes nothing, or one word more -/
theorem Mp_hash_cons (q v : List Bs) : Mp (hash :: q) v ↔ Mp q v ∨ ∃ w v', v = w :: v' ∧ Mp (hash :: q) v' := by
  simp only [Mp]
  constructor
  · rintro (⟨_, u, v', rfl, h⟩ | ⟨h, _⟩)
    · cases u with
      | nil => exact .inl h
      | cons w u => exact .inr ⟨w, u ++ v', rfl, .inl ⟨by trivial, u, v', rfl, h⟩⟩
    · exact absurd rfl h
  · rintro (h | ⟨w, v', rfl, (⟨_, u, v'', rfl, h⟩ | ⟨h, _⟩)⟩)
    · exact .inl ⟨by trivial, [], v, rfl, h⟩
    · exact .inl ⟨by trivial, w :: u, v'', rfl, h⟩
    · exact absurd rfl h
theorem Mp_part {x : Bs} (hx : x ≠ hash) (q v : List Bs) : Mp (x :: q) v ↔ ∃ w v', v = w :: v' ∧ okw x w ∧ Mp q v' := by
  simp only [Mp]
  exact ⟨fun h => h.elim (fun h => absurd h.1 hx) fun h => h.2, fun h => .inr ⟨hx, h⟩⟩
/-- where no place is left, nothing comes any more -/
theorem At_none {p ws : List Bs} (h : ∀ k, k ≤ p.length → ¬ At p ws k) (w : Bs) : ∀ k, k ≤ p.length → ¬ At p (ws ++ [w]) k := by
  intro k hk h1
  rw [← At_step p ws w k hk] at h1
  have key : ∀ k, k ≤ p.length → ¬ Clo p (Stp p (At p ws) w) k := by
    intro k
    induction k with
    | zero => intro hk h2; exact h 0 hk h2.1
    | succ k ih =>
      intro hk h2
      rcases h2 with h2 | ⟨_, h2⟩
      · rcases h2 with ⟨h2, _⟩ | ⟨h2, _⟩
        · exact h _ hk h2
        · exact h k (by omega) h2
      · exact ih (by omega) h2
  exact key k hk h1
end Go.Rt
