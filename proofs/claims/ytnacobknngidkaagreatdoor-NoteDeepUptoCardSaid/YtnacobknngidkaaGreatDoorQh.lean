/-
  NoteDeep: values within values, to the bound and beyond: the call returns true and the inputs read as they did. Conditions: the inputs are of bulk at most 1048576 (the second form's card); the seven listed package variables hold what the program's text lays.
-/
import Derived.Test.YtnacobknngidkaaGreatDoorPz22
set_option linter.unusedVariables false
set_option linter.unusedSimpArgs false
namespace Go.Note
open Go
set_option linter.unusedVariables false
/-- how a value is wrapped (q: 1, 2, or else), and the signs ahead and behind -/
def wrapV (q : Nat) (x : M) : M :=
  if q = 1 then .mk 24 0 [] 0 [.mk 0 0 [] 0 [], x] else if q = 2 then .mk 22 0 [] 0 [.mk 21 0 [] 0 [], x] else .mk 21 0 [] 0 [x]
def wrapO (q : Nat) : Bs := if q = 1 then [40, 110, 117, 108, 108, 32] else if q = 2 then [123, 91, 93, 58, 32] else [91]
def wrapC (q : Nat) : UInt8 := if q = 1 then 41 else if q = 2 then 125 else 93
def wrapT (q : Nat) : List Tk := if q = 1 then [(3, [40]), (1, [110, 117, 108, 108])] else if q = 2 then [(3, [123]), (3, [91]), (3, [93]), (3, [58])] else [(3, [91])]
def deepV (q : Nat) : Nat → M
  | 0 => .mk 21 0 [] 0 []
  | w + 1 => wrapV q (deepV q w)
def deepO (q : Nat) : Nat → Bs
  | 0 => []
  | w + 1 => wrapO q ++ deepO q w
def deepC (q : Nat) : Nat → Bs
  | 0 => []
  | w + 1 => deepC q w ++ [wrapC q]
def deepB (q w : Nat) : Bs := deepO q w ++ [91, 93] ++ deepC q w
theorem deepB_succ (q w : Nat) : deepB q (w + 1) = wrapO q ++ deepB q w ++ [wrapC q] := by simp [deepB, deepO, deepC]
theorem printM_wrap (q : Nat) (x : M) : printM (wrapV q x) = wrapO q ++ printM x ++ [wrapC q] := by
  unfold wrapV wrapO wrapC
  split
  · simp [printM, printL, printS]; rfl
  · split
    · simp [printM, printP, printV, printC, printL]
    · simp [printM, printL, printS]
theorem print_deep (q : Nat) : ∀ w, printM (deepV q w) = deepB q w
  | 0 => by simp [deepV, printM, printL, deepB, deepO, deepC]
  | w + 1 => by rw [deepV, printM_wrap, print_deep q w, deepB_succ]
theorem wrap_check {q d : Nat} {x : M} (hd : d + 1 ≤ 32) (hx : x.check (d + 1) = 0) (hf : x.fits) : (wrapV q x).check d = 0 ∧ (wrapV q x).fits := by
  have h0 : M.check (d + 1) (.mk 0 0 [] 0 []) = 0 := check_one (own_of (by decide) (by decide) hd (by decide) (by decide) (by decide) (by decide) (by decide) (by decide))
  have h1 : M.check (d + 1) (.mk 21 0 [] 0 []) = 0 := check_one (own_of (by decide) (by decide) hd (by decide) (by decide) (by decide) (by decide) (by decide) (by decide))
  unfold wrapV
  split
  · refine ⟨?_, .mk (by decide) ?_⟩
    · rw [M.check_iff]
      refine ⟨own_of (by decide) (by decide) (by omega) (by simp [M.extra, M.k, M.n, M.t, M.l, M.e, numK, textK, listK]) (by rfl) (by rfl) (by omega) (by omega) (fun _ => rfl), ?_⟩
      intro y hy
      simp only [M.l, List.mem_cons, List.not_mem_nil, or_false] at hy
      rcases hy with h | h
      · rw [h]; exact h0
      · rw [h]; exact hx
    · intro y hy
      simp only [List.mem_cons, List.not_mem_nil, or_false] at hy
      rcases hy with h | h
      · rw [h]; exact fits_one (by decide)
      · rw [h]; exact hf
  · split
    · refine ⟨?_, .mk (by decide) ?_⟩
      · rw [M.check_iff]
        refine ⟨own_of (by decide) (by decide) (by omega) (by simp [M.extra, M.k, M.n, M.t, M.l, M.e, numK, textK, listK]) (by rfl) (by rfl) (fun _ => by simp [mapOk, keysOf]) (by omega) (by omega), ?_⟩
        intro y hy
        simp only [M.l, List.mem_cons, List.not_mem_nil, or_false] at hy
        rcases hy with h | h
        · rw [h]; exact h1
        · rw [h]; exact hx
      · intro y hy
        simp only [List.mem_cons, List.not_mem_nil, or_false] at hy
        rcases hy with h | h
        · rw [h]; exact fits_one (by decide)
        · rw [h]; exact hf
    · refine ⟨?_, .mk (by decide) ?_⟩
      · rw [M.check_iff]
        refine ⟨own_of (by decide) (by decide) (by omega) (by simp [M.extra, M.k, M.n, M.t, M.l, M.e, numK, textK, listK]) (by rfl) (by rfl) (by omega) (by omega) (by omega), ?_⟩
        intro y hy
        simp only [M.l, List.mem_cons, List.not_mem_nil, or_false] at hy
        rw [hy]; exact hx
      · intro y hy
        simp only [List.mem_cons, List.not_mem_nil, or_false] at hy
        rw [hy]; exact hf
theorem deep_check (q : Nat) : ∀ (w d : Nat), d + w ≤ 32 → (deepV q w).check d = 0 ∧ (deepV q w).fits
  | 0, d, h => ⟨check_one (own_of (by decide) (by decide) (by omega) (by decide) (by decide) (by decide) (by decide) (by decide) (by decide)), fits_one (by decide)⟩
  | w + 1, d, h => by
    have := deep_check q w (d + 1) (by omega)
    exact wrap_check (by omega) this.1 this.2
theorem deep_len (q w : Nat) : (deepB q w).length ≤ 7 * w + 2 := by
  induction w with
  | zero => simp [deepB, deepO, deepC]
  | succ w ih =>
    rw [deepB_succ]
    have : (wrapO q).length ≤ 6 := by
      unfold wrapO
      split
      · simp
      · split <;> simp
    simp only [List.length_append, List.length_cons, List.length_nil]; omega
/-- they may be to 32, and are read as they are written -/
theorem deep_ok (q : Nat) {w : Nat} (h : w + 1 ≤ 32) : parseB (deepB q w) = .ok (deepV q w) 0 := by
  obtain ⟨h1, h2⟩ := deep_check q w 1 (by omega)
  rw [← print_deep]
  refine parse_print h2 h1 ?_
  rw [print_deep]
  have := deep_len q w; omega
theorem toks_wrap (q : Nat) (l : Bs) : toks (wrapO q ++ l) = wrapT q ++ toks l := by
  unfold wrapO wrapT
  split
  · simp only [List.cons_append, List.nil_append]
    rw [toks_sign (by decide)]
    have := toks_name (n := [110, 117, 108, 108]) (l := 32 :: l) (by decide) (by decide) (Fence.cons (by decide))
    simp only [List.cons_append, List.nil_append] at this
    rw [this, toks_space]
  · split
    · simp only [List.cons_append, List.nil_append]
      rw [toks_sign (by decide), toks_sign (by decide), toks_sign (by decide), toks_sign (by decide), toks_space]
    · simp only [List.cons_append, List.nil_append]
      rw [toks_sign (by decide)]
theorem toks_deepO (q : Nat) (l : Bs) : ∀ w, toks (deepO q w ++ l) = (List.replicate w (wrapT q)).flatten ++ toks l
  | 0 => rfl
  | w + 1 => by
    rw [deepO, List.append_assoc, toks_wrap, toks_deepO q l w, List.replicate_succ, List.flatten_cons, List.append_assoc]
/-- at a text's end, within something -/
theorem rdM_end {s : Bs} {d a : Nat} (hd : d < 32) (h : (next s a).kind = 0) : ∃ p, rdM s d a = .bad p 43 := by
  rw [rdM_eq]
  have hb : begins (next s a) = none := by
    cases hb : begins (next s a) with
    | none => rfl
    | some k => exact absurd h (begins_kind hb)
  rw [hb]
  simp only
  rw [if_pos (.inr ⟨h, hd⟩)]
  unfold amiss
  rw [if_neg (by omega)]
  exact ⟨_, rfl⟩
theorem wanted_end {α : Type} {t : Tok} (h : t.kind = 0) : ∃ p, (wanted t : Fd α) = .bad p 43 := by
  unfold wanted amiss
  rw [if_pos (.inl h), if_neg (by omega)]
  exact ⟨_, rfl⟩
theorem is_end {t : Tok} (h : t.kind = 0) (c : UInt8) : t.is c = false := by
  unfold Tok.is; rw [h]; rfl
theorem tok_end {s : Bs} {a : Nat} (ha : a ≤ s.length) (h : toks (s.drop a) = []) : (next s a).kind = 0 := by
  rw [toks_next s ha] at h
  split at h
  · assumption
  · cases h
/-- the empty list at a place -/
theorem rdM_empty {s : Bs} {d a : Nat} (ha : a ≤ s.length) {r : List Tk} (h : toks (s.drop a) = (3, [91]) :: (3, [93]) :: r) : ∃ b, b ≤ s.length ∧ rdM s (d + 1) a = .ok (.mk 21 0 [] 0 []) b ∧ toks (s.drop b) = r := by
  obtain ⟨t1, t2, t3, t4⟩ := tok_next ha h
  obtain ⟨u1, u2, u3, u4⟩ := tok_next t3 t4
  refine ⟨_, u3, ?_, u4⟩
  rw [rdM_eq, begins_of t1 t2, show begins ⟨3, 0, 0, [91]⟩ = some 21 by decide]
  simp [listed, elemsF, is_of u1 u2]
theorem rdM_null {s : Bs} {d a : Nat} (ha : a ≤ s.length) {r : List Tk} (h : toks (s.drop a) = (1, [110, 117, 108, 108]) :: r) : ∃ b, b ≤ s.length ∧ rdM s (d + 1) a = .ok (.mk 0 0 [] 0 []) b ∧ toks (s.drop b) = r := by
  obtain ⟨t1, t2, t3, t4⟩ := tok_next ha h
  refine ⟨_, t3, ?_, t4⟩
  rw [rdM_eq, begins_of t1 t2, show begins ⟨1, 0, 0, [110, 117, 108, 108]⟩ = some 0 by decide]
  simp
/-- with one sign too few -/
theorem deep_few (q : Nat) {w : Nat} (h : w + 1 ≤ 32) : ∃ p, parseB ((deepB q w).take ((deepB q w).length - 1)) = .bad p 43 := by
  have hlen := deep_len q w
  obtain ⟨s, hs⟩ : ∃ s, s = (deepB q w).take ((deepB q w).length - 1) := ⟨_, rfl⟩
  have hsl : s.length ≤ 1048576 := by rw [hs, List.length_take]; omega
  rw [← hs]
  unfold parseB
  rw [if_neg (by omega)]
  suffices hr : ∃ p, rdM s 32 0 = .bad p 43 by
    obtain ⟨p, hp⟩ := hr
    exact ⟨p, by rw [hp]⟩
  cases w with
  | zero =>
    have e : s = [91] := by rw [hs]; rfl
    have ht : toks (s.drop 0) = (3, [91]) :: [] := by rw [e]; rfl
    obtain ⟨t1, t2, t3, t4⟩ := tok_next (by omega) ht
    obtain ⟨p, hp⟩ := rdM_end (s := s) (d := 31) (by omega) (tok_end t3 t4)
    refine ⟨p, ?_⟩
    have h0 := tok_end t3 t4
    rw [rdM_eq, begins_of t1 t2, show begins ⟨3, 0, 0, [91]⟩ = some 21 by decide]
    simp [listed, elemsF, is_end h0, hp]
  | succ w =>
    have e : s = wrapO q ++ deepB q w := by
      rw [hs, deepB_succ]
      have : (wrapO q ++ deepB q w ++ [wrapC q]).length - 1 = (wrapO q ++ deepB q w).length := by simp
      rw [this, List.take_left]
    obtain ⟨c1, c2⟩ := deep_check q w 2 (by omega)
    have ht : toks (s.drop 0) = wrapT q ++ ptoks (deepV q w) := by
      rw [List.drop_zero, e, toks_wrap, ← print_deep]
      have := toks_print _ _ c1 [] Fence.nil
      rw [List.append_nil] at this
      rw [this]
      simp [toks, toksF, lexS]
    have back : ∀ a, a ≤ s.length → toks (s.drop a) = ptoks (deepV q w) → ∃ b, b ≤ s.length ∧ rdM s 31 a = .ok (deepV q w) b ∧ (next s b).kind = 0 := by
      intro a ha h
      obtain ⟨b, b1, b2, b3⟩ := back_all _ c2 31 s a [] (by omega) c1 ha (by rw [h]; simp)
      exact ⟨b, b1, b2, tok_end b1 b3⟩
    have key : ∀ (n : Nat), wrapT q = wrapT n → (n = 1 ∨ n = 2 ∨ n = 0) → ∃ p, rdM s 32 0 = .bad p 43 := by
      intro n hn hn2
      rw [hn] at ht
      rcases hn2 with rfl | rfl | rfl
      · have ht : toks (s.drop 0) = (3, [40]) :: (1, [110, 117, 108, 108]) :: ptoks (deepV q w) := ht
        obtain ⟨t1, t2, t3, t4⟩ := tok_next (by omega) ht
        obtain ⟨b, b1, b2, b3⟩ := rdM_null (d := 30) t3 t4
        obtain ⟨c, c1, c2, c3⟩ := back b b1 b3
        obtain ⟨p, hp⟩ := wanted_end (α := M) c3
        refine ⟨p, ?_⟩
        rw [rdM_eq, begins_of t1 t2, show begins ⟨3, 0, 0, [40]⟩ = some 24 by decide]
        simp [described, b2, c2, is_end c3, hp]
      · have ht : toks (s.drop 0) = (3, [123]) :: (3, [91]) :: (3, [93]) :: (3, [58]) :: ptoks (deepV q w) := ht
        obtain ⟨t1, t2, t3, t4⟩ := tok_next (by omega) ht
        obtain ⟨b, b1, b2, b3⟩ := rdM_empty (d := 30) t3 t4
        obtain ⟨u1, u2, u3, u4⟩ := tok_next b1 b3
        obtain ⟨c, c1, c2, c3⟩ := back _ u3 u4
        obtain ⟨v1, v2, v3, v4⟩ := tok_next t3 t4
        obtain ⟨p, hp⟩ := wanted_end (α := List M) c3
        refine ⟨p, ?_⟩
        rw [rdM_eq, begins_of t1 t2, show begins ⟨3, 0, 0, [123]⟩ = some 22 by decide]
        simp [mapped, is_of v1 v2, pairsF, b2, is_of u1 u2, c2, is_end c3, hp]
      · have ht : toks (s.drop 0) = (3, [91]) :: ptoks (deepV q w) := ht
        obtain ⟨t1, t2, t3, t4⟩ := tok_next (by omega) ht
        obtain ⟨c, c1, c2, c3⟩ := back _ t3 t4
        obtain ⟨p, hp⟩ := rdM_end (s := s) (d := 31) (by omega) c3
        obtain ⟨k, g⟩ := rdM_begins c2
        have g2 := begins_is g (c := 93) (by decide)
        refine ⟨p, ?_⟩
        have hel : elemsM (rdM s 31) s none (next s 0).fin [] = .bad p 43 := by
          rw [elemsM_eq (rdM_goes s 31) none [] t3, g2, c2]
          simp only [Bool.false_eq_true, if_false]
          rw [elemsM_eq (rdM_goes s 31) none _ c1, hp]
          simp [is_end c3]
        rw [rdM_eq, begins_of t1 t2, show begins ⟨3, 0, 0, [91]⟩ = some 21 by decide]
        simp only [elemsM] at hel
        simp [listed, hel]
    by_cases h1 : q = 1
    · exact key 1 (by rw [h1]) (.inl rfl)
    · by_cases h2 : q = 2
      · exact key 2 (by rw [h2]) (.inr (.inl rfl))
      · exact key 0 (by unfold wrapT; rw [if_neg h1, if_neg h2]; rfl) (.inr (.inr rfl))
/-- nothing but blanks stands where no token stands and no comment -/
theorem toks_nil {l : Bs} (h35 : ∀ x ∈ l, x ≠ 35) (h : toks l = []) : ∀ x ∈ l, blankC x = true := by
  have hs : ∀ l : Bs, (∀ x ∈ l, x ≠ 35) → ∀ x ∈ l.take (skipN false l), blankC x = true := by
    intro l
    induction l with
    | nil => intro _ x hx; simp at hx
    | cons y l ih =>
      intro h x hx
      have hy := h y (by simp)
      unfold skipN at hx
      split at hx
      · simp at hx
      · rename_i hb
        have e : (if y = 10 then false else if y = 35 then true else false) = false := by
          split
          · rfl
          · first | rfl | rw [if_neg hy]
        try simp only [hy, if_false] at hx
        have e2 : (if y = 10 then false else false) = false := by split <;> rfl
        rw [e2, Nat.add_comm, List.take_succ_cons] at hx
        rcases List.mem_cons.1 hx with h1 | h1
        · rw [h1]
          cases hyb : blankC y with
          | true => rfl
          | false => exact absurd ⟨rfl, hyb, hy⟩ hb
        · exact ih (fun z hz => h z (by simp [hz])) x h1
  have hz : l.drop (skipN false l) = [] := by
    rw [toks_eq] at h
    have hl := lexS_len (l.drop (skipN false l))
    generalize hx : lexS (l.drop (skipN false l)) = x at h hl
    obtain ⟨k, t, n⟩ := x
    cases k with
    | zero => exact hl.2.2 rfl
    | succ k => cases h
  intro x hx
  have := hs l h35 x
  rw [List.take_of_length_le (List.drop_eq_nil_iff.1 hz)] at this
  exact this hx
theorem wrapO_35 (q : Nat) : ∀ x ∈ wrapO q, x ≠ 35 := by
  unfold wrapO
  split
  · decide
  · split <;> decide
theorem wrapC_35 (q : Nat) : wrapC q ≠ 35 := by
  unfold wrapC
  split
  · decide
  · split <;> decide
theorem deep_35 (q w : Nat) : ∀ x ∈ deepB q w, x ≠ 35 := by
  induction w with
  | zero => simp [deepB, deepO, deepC]
  | succ w ih =>
    intro x hx
    rw [deepB_succ] at hx
    simp only [List.mem_append, List.mem_singleton] at hx
    rcases hx with (h | h) | h
    · exact wrapO_35 q x h
    · exact ih x h
    · rw [h]; exact wrapC_35 q
/-- with one sign too many: it stands behind the value -/
theorem deep_rest (q : Nat) {w : Nat} (h : w + 1 ≤ 32) : parseB (deepB q w ++ [93]) = .bad (deepB q w).length 44 := by
  obtain ⟨h1, h2⟩ := deep_check q w 1 (by omega)
  have hlen := deep_len q w
  obtain ⟨s, hs⟩ : ∃ s, s = deepB q w ++ [93] := ⟨_, rfl⟩
  have hsl : s.length = (deepB q w).length + 1 := by rw [hs]; simp
  have ht : toks (s.drop 0) = ptoks (deepV q w) ++ [(3, [93])] := by
    rw [List.drop_zero, hs, ← print_deep, toks_print _ _ h1 [93] (Fence.cons (by decide))]; rfl
  obtain ⟨b, b1, b2, b3⟩ := back_all _ h2 32 s 0 _ (by omega) h1 (by omega) ht
  obtain ⟨t1, t2, t3, t4⟩ := tok_next b1 b3
  rw [← hs]
  unfold parseB
  rw [if_neg (by omega), b2]
  simp only [t1]
  rw [if_pos (by decide)]
  unfold amiss
  rw [t1, if_neg (by decide)]
  congr 1
  have hf : (next s b).fin = (next s b).beg + 1 := by
    have hk : (next s b).kind = 3 := t1
    unfold next at hk ⊢
    simp only at hk ⊢
    cases hd : s.drop (b + skipN false (s.drop b)) with
    | nil => rw [hd] at hk; cases hk
    | cons x l =>
      rw [hd] at hk
      simp only at hk ⊢
      split at hk
      · cases hw : wordB (x :: l) with
        | none => rw [hw] at hk; cases hk
        | some p => rw [hw] at hk; cases hk
      · rename_i h34
        rw [if_neg h34]
        split at hk
        · rename_i hsg
          rw [if_pos hsg]
        · split at hk <;> cases hk
  have hge : (deepB q w).length < (next s b).fin := by
    apply Nat.lt_of_not_le
    intro hle
    have hm : (93 : UInt8) ∈ s.drop (next s b).fin := by
      have : s.drop (next s b).fin = (deepB q w).drop (next s b).fin ++ [93] := by
        conv => lhs; arg 2; rw [hs]
        exact List.drop_append_of_le_length hle
      rw [this]; simp
    have h35 : ∀ x ∈ s.drop (next s b).fin, x ≠ 35 := by
      intro x hx
      have := List.mem_of_mem_drop hx
      rw [hs] at this
      rcases List.mem_append.1 this with h | h
      · exact deep_35 q w x h
      · rw [List.mem_singleton.1 h]; decide
    exact absurd (toks_nil h35 t4 93 hm) (by decide)
  omega
/-! ### Too deep -/
theorem begins_at {s : Bs} {a k : Nat} (ha : a ≤ s.length) (h : begins (next s a) = some k) : ∃ x, s[(next s a).beg]? = some x ∧ x ≠ 93 ∧ x ≠ 41 ∧ x ≠ 125 := by
  have key : ∀ x : UInt8, letterC x = true → x ≠ 93 ∧ x ≠ 41 ∧ x ≠ 125 := by
    intro x hx
    refine ⟨?_, ?_, ?_⟩ <;> (rintro rfl; exact absurd hx (by decide))
  unfold next at h ⊢
  simp only at h ⊢
  cases hd : s.drop (a + skipN false (s.drop a)) with
  | nil => rw [hd] at h; exact absurd h (by simp [begins])
  | cons x l =>
    rw [hd] at h
    have hx : s[a + skipN false (s.drop a)]? = some x := by
      have : (s.drop (a + skipN false (s.drop a)))[0]? = some x := by rw [hd]; rfl
      rw [List.getElem?_drop] at this; simpa using this
    simp only at h ⊢
    split at h
    · rename_i h34
      rw [if_pos h34]
      have hn : x ≠ 93 ∧ x ≠ 41 ∧ x ≠ 125 := by rw [h34]; decide
      cases hw : wordB (x :: l) with
      | none => exact ⟨x, hx, hn⟩
      | some p => exact ⟨x, hx, hn⟩
    · rename_i h34
      rw [if_neg h34]
      split at h
      · rename_i hsg
        rw [if_pos hsg]
        refine ⟨x, hx, ?_, ?_, ?_⟩ <;> (rintro rfl; simp [begins] at h)
      · rename_i hsg
        rw [if_neg hsg]
        split at h
        · rename_i hlt
          rw [if_pos hlt]
          exact ⟨x, hx, key x hlt⟩
        · exact absurd h (by simp [begins])
/-- a reading that gives up, too deep, at a token that begins something -/
def TooDeep (s : Bs) (d a : Nat) : Prop := ∃ p, rdM s d a = .bad p 26 ∧ a ≤ p ∧ (0 < d → a < p) ∧ ∃ x, s[p]? = some x ∧ x ≠ 93 ∧ x ≠ 41 ∧ x ≠ 125
theorem deep_zero {s : Bs} {a k : Nat} (ha : a ≤ s.length) (h : begins (next s a) = some k) : TooDeep s 0 a := by
  refine ⟨(next s a).beg, ?_, (next_lies s a ha).1, fun h => by omega, begins_at ha h⟩
  rw [rdM_eq, h]
  unfold amiss
  have : (next s a).kind ≠ 5 := by
    intro h5
    unfold begins at h
    simp [h5] at h
  simp [this]
theorem deep_many (q : Nat) {s : Bs} : ∀ (d w a : Nat) (r : List Tk), d ≤ w → d ≤ 32 → a ≤ s.length → toks (s.drop a) = (List.replicate w (wrapT q)).flatten ++ (3, [91]) :: r → TooDeep s d a
  | 0, w, a, r, _, _, ha, h => by
    have hb : ∃ k, begins (next s a) = some k := by
      cases w with
      | zero =>
        obtain ⟨t1, t2, _, _⟩ := tok_next ha h
        exact ⟨21, by rw [begins_of t1 t2]; decide⟩
      | succ w =>
        rw [List.replicate_succ, List.flatten_cons, List.append_assoc] at h
        unfold wrapT at h
        split at h
        · obtain ⟨t1, t2, _, _⟩ := tok_next ha h
          exact ⟨24, by rw [begins_of t1 t2]; decide⟩
        · split at h
          · obtain ⟨t1, t2, _, _⟩ := tok_next ha h
            exact ⟨22, by rw [begins_of t1 t2]; decide⟩
          · obtain ⟨t1, t2, _, _⟩ := tok_next ha h
            exact ⟨21, by rw [begins_of t1 t2]; decide⟩
    obtain ⟨k, hk⟩ := hb
    exact deep_zero ha hk
  | d + 1, 0, a, r, h0, _, _, _ => by omega
  | d + 1, w + 1, a, r, h0, hd, ha, h => by
    rw [List.replicate_succ, List.flatten_cons, List.append_assoc] at h
    have hn := next_lies s a ha
    unfold wrapT at h
    split at h
    · rename_i hq
      obtain ⟨t1, t2, t3, t4⟩ := tok_next ha h
      have hk : (next s a).kind = 3 := t1
      have hlt := hn.2.2.2 (by omega)
      have fin : ∀ p, rdM s d (next s a).fin = .bad p 26 ∨ (∃ m b, rdM s d (next s a).fin = .ok m b ∧ rdM s d b = .bad p 26) → (next s a).fin ≤ p → (∃ x, s[p]? = some x ∧ x ≠ 93 ∧ x ≠ 41 ∧ x ≠ 125) → TooDeep s (d + 1) a := by
        intro p hp hle hx
        refine ⟨p, ?_, by omega, fun _ => by omega, hx⟩
        rw [rdM_eq, begins_of t1 t2, show begins ⟨3, 0, 0, [40]⟩ = some 24 by decide]
        rcases hp with hp | ⟨m, b, hm, hp⟩
        · simp [described, hp]
        · simp [described, hm, hp]
      cases d with
      | zero =>
        obtain ⟨u1, u2, u3, u4⟩ := tok_next t3 t4
        obtain ⟨p, p1, p2, _, p4⟩ := deep_zero (s := s) (k := 0) t3 (by rw [begins_of u1 u2]; decide)
        exact fin p (.inl p1) p2 p4
      | succ d =>
        obtain ⟨b, b1, b2, b3⟩ := rdM_null (d := d) t3 t4
        obtain ⟨p, p1, p2, _, p4⟩ := deep_many q (d + 1) w b r (by omega) (by omega) b1 (by rw [b3]; unfold wrapT; rw [if_pos hq]; rfl)
        have := rdM_goes s (d + 1) _ _ _ t3 b2
        exact fin p (.inr ⟨_, b, b2, p1⟩) (by omega) p4
    · rename_i hq
      split at h
      · rename_i hq2
        obtain ⟨t1, t2, t3, t4⟩ := tok_next ha h
        obtain ⟨v1, v2, _, _⟩ := tok_next t3 t4
        have hk : (next s a).kind = 3 := t1
        have hlt := hn.2.2.2 (by omega)
        have fin : ∀ p, pairsM (rdM s d) s (next s a).fin [] = .bad p 26 → (next s a).fin ≤ p → (∃ x, s[p]? = some x ∧ x ≠ 93 ∧ x ≠ 41 ∧ x ≠ 125) → TooDeep s (d + 1) a := by
          intro p hp hle hx
          refine ⟨p, ?_, by omega, fun _ => by omega, hx⟩
          rw [rdM_eq, begins_of t1 t2, show begins ⟨3, 0, 0, [123]⟩ = some 22 by decide]
          simp only [pairsM] at hp
          simp [mapped, is_of v1 v2, hp]
        cases d with
        | zero =>
          obtain ⟨p, p1, p2, _, p4⟩ := deep_zero (s := s) (k := 21) t3 (by rw [begins_of v1 v2]; decide)
          refine fin p ?_ p2 p4
          rw [pairsM_eq (rdM_goes s 0) [] t3, p1]
        | succ d =>
          obtain ⟨b, b1, b2, b3⟩ := rdM_empty (d := d) t3 t4
          obtain ⟨u1, u2, u3, u4⟩ := tok_next b1 b3
          obtain ⟨p, p1, p2, _, p4⟩ := deep_many q (d + 1) w _ r (by omega) (by omega) u3 (by rw [u4]; unfold wrapT; rw [if_neg hq, if_pos hq2]; rfl)
          have h5 := rdM_goes s (d + 1) _ _ _ t3 b2
          have h6 := next_lies s b b1
          refine fin p ?_ (by omega) p4
          rw [pairsM_eq (rdM_goes s (d + 1)) [] t3, b2]
          simp [is_of u1 u2, p1]
      · rename_i hq2
        obtain ⟨t1, t2, t3, t4⟩ := tok_next ha h
        have hk : (next s a).kind = 3 := t1
        have hlt := hn.2.2.2 (by omega)
        obtain ⟨p, p1, p2, _, p4⟩ := deep_many q d w _ r (by omega) (by omega) t3 (by rw [t4]; unfold wrapT; rw [if_neg hq, if_neg hq2]; rfl)
        refine ⟨p, ?_, by omega, fun _ => by omega, p4⟩
        have hnot : (next s (next s a).fin).is 93 = false := by
          cases w with
          | zero =>
            obtain ⟨v1, v2, _, _⟩ := tok_next t3 t4
            rw [is_of v1 v2]; rfl
          | succ w =>
            rw [List.replicate_succ, List.flatten_cons, List.append_assoc] at t4
            obtain ⟨v1, v2, _, _⟩ := tok_next t3 t4
            rw [is_of v1 v2]; rfl
        have hel : elemsM (rdM s d) s none (next s a).fin [] = .bad p 26 := by
          rw [elemsM_eq (rdM_goes s d) none [] t3, hnot, p1]; rfl
        rw [rdM_eq, begins_of t1 t2, show begins ⟨3, 0, 0, [91]⟩ = some 21 by decide]
        simp only [elemsM] at hel
        simp [listed, hel]
/-- too deep, whatever stands behind the signs ahead -/
theorem deep_deep (q : Nat) {w : Nat} (h : 32 ≤ w) (r : Bs) (hr : (deepO q w ++ 91 :: r).length ≤ 1048576) (hr2 : ∀ x ∈ r, x = 93 ∨ x = 41 ∨ x = 125) : ∃ p, parseB (deepO q w ++ 91 :: r) = .bad p 26 ∧ 0 < p ∧ p ≤ (deepO q w).length := by
  obtain ⟨s, hs⟩ : ∃ s, s = deepO q w ++ 91 :: r := ⟨_, rfl⟩
  rw [← hs] at hr ⊢
  obtain ⟨p, p1, _, p3, x, p4, p5⟩ := deep_many q (s := s) 32 w 0 (toks r) h (Nat.le_refl _) (Nat.zero_le _) (by rw [List.drop_zero, hs, toks_deepO, toks_sign (by decide)])
  refine ⟨p, ?_, p3 (by decide), ?_⟩
  · unfold parseB
    rw [if_neg (by omega), p1]
  · apply Nat.le_of_not_lt
    intro hlt
    rw [hs, List.getElem?_append_right (by omega)] at p4
    obtain ⟨j, hj⟩ : ∃ j, p - (deepO q w).length = j + 1 := ⟨p - (deepO q w).length - 1, by omega⟩
    rw [hj, List.getElem?_cons_succ] at p4
    have := hr2 x (List.mem_of_getElem? p4)
    rcases this with h | h | h
    · exact p5.1 h
    · exact p5.2.1 h
    · exact p5.2.2 h
end Go.Note
namespace Go.Note
open Go
set_option linter.unusedVariables false
theorem deepO_snoc (q : Nat) : ∀ w, deepO q w ++ wrapO q = deepO q (w + 1)
  | 0 => by simp [deepO]
  | w + 1 => by
    have h := deepO_snoc q w
    show wrapO q ++ deepO q w ++ wrapO q = wrapO q ++ deepO q (w + 1)
    rw [List.append_assoc, h]
theorem deepC_cons (q : Nat) : ∀ w, wrapC q :: deepC q w = deepC q (w + 1)
  | 0 => rfl
  | w + 1 => by
    have h := deepC_cons q w
    show wrapC q :: (deepC q w ++ [wrapC q]) = deepC q (w + 1) ++ [wrapC q]
    rw [← h]; rfl
theorem deepO_len (q : Nat) : ∀ w, (deepO q w).length ≤ 6 * w
  | 0 => Nat.le_refl _
  | w + 1 => by
    have h := deepO_len q w
    have : (wrapO q).length ≤ 6 := by unfold wrapO; split <;> (try split) <;> decide
    show (wrapO q ++ deepO q w).length ≤ _
    rw [List.length_append]; omega
theorem deepC_len (q : Nat) : ∀ w, (deepC q w).length = w
  | 0 => rfl
  | w + 1 => by
    have h := deepC_len q w
    show (deepC q w ++ [wrapC q]).length = _
    rw [List.length_append, h]; rfl
theorem wrapC_close (q : Nat) : wrapC q = 93 ∨ wrapC q = 41 ∨ wrapC q = 125 := by
  unfold wrapC
  split
  · simp
  · split <;> simp
theorem deepC_close (q : Nat) : ∀ w, ∀ x ∈ deepC q w, x = 93 ∨ x = 41 ∨ x = 125
  | 0, x, h => by simp [deepC] at h
  | w + 1, x, h => by
    rw [← deepC_cons] at h
    rcases List.mem_cons.1 h with rfl | h
    · exact wrapC_close q
    · exact deepC_close q w x h
/-- what opens and what closes, when so many have been written of so many -/
def opO (q n i : Nat) : Bs := if q ≠ 1 ∧ i = n then deepO q (n - 1) ++ [91] else deepO q i
def opC (q n i : Nat) : Bs := if q ≠ 1 ∧ i = n then 93 :: deepC q (n - 1) else deepC q i
def inW (q : Nat) : Bs := if q = 1 then [91, 93] else []
def dpW (q n : Nat) : Nat := if q = 1 then n else n - 1
theorem op_whole (q n : Nat) : opO q n n ++ inW q ++ opC q n n = deepB q (dpW q n) := by
  unfold opO opC inW dpW deepB
  by_cases h : q = 1
  · subst h; simp
  · rw [if_pos ⟨h, rfl⟩, if_neg h, if_pos ⟨h, rfl⟩, if_neg h]; simp
theorem opO_len (q n i : Nat) (h : i ≤ n) : (opO q n i).length ≤ 6 * n + 1 := by
  have h1 := deepO_len q (n - 1)
  have h2 := deepO_len q i
  unfold opO
  split
  · rw [List.length_append, List.length_singleton]; omega
  · omega
theorem opC_len (q n i : Nat) (h : i ≤ n) : (opC q n i).length ≤ n + 1 := by
  unfold opC
  split
  · rw [List.length_cons, deepC_len]; omega
  · rw [deepC_len]; omega
theorem opC_eq {q n : Nat} (h : 1 ≤ n) : (opC q n n).length = n := by
  unfold opC
  split
  · rw [List.length_cons, deepC_len]; omega
  · rw [deepC_len]
theorem deep_r (q w : Nat) : deepB q w = deepO q w ++ 91 :: (93 :: deepC q w) := by simp [deepB]
theorem deep_cut (q w : Nat) : (deepB q w).take ((deepB q w).length - 1) = deepO q w ++ 91 :: (93 :: deepC q w).take ((93 :: deepC q w).length - 1) := by
  rw [deep_r, List.take_append, List.take_of_length_le (by simp only [List.length_append, List.length_cons]; omega)]
  congr 1
  simp only [List.length_append, List.length_cons]
  rw [show (deepO q w).length + ((deepC q w).length + 1 + 1) - 1 - (deepO q w).length = (deepC q w).length + 1 by omega, List.take_succ_cons]
  rfl
theorem deep_deep3 (q : Nat) {w : Nat} (h : 32 ≤ w) (h2 : w ≤ 3000) : (∃ p, parseB (deepB q w) = .bad p 26 ∧ 0 < p ∧ p ≤ (deepO q w).length) ∧ (∃ p, parseB ((deepB q w).take ((deepB q w).length - 1)) = .bad p 26) ∧ ∃ p, parseB (deepB q w ++ [93]) = .bad p 26 := by
  have hO := deepO_len q w
  have hC := deepC_len q w
  have hr : ∀ x ∈ (93 :: deepC q w), x = 93 ∨ x = 41 ∨ x = 125 := fun x hx => by
    rcases List.mem_cons.1 hx with rfl | hx
    · simp
    · exact deepC_close q w x hx
  refine ⟨?_, ?_, ?_⟩
  · rw [deep_r]
    exact deep_deep q h _ (by simp only [List.length_append, List.length_cons]; omega) hr
  · rw [deep_cut]
    obtain ⟨p, h1, _⟩ := deep_deep q h ((93 :: deepC q w).take ((93 :: deepC q w).length - 1)) (by simp only [List.length_append, List.length_cons, List.length_take]; omega) fun x hx => hr x (List.mem_of_mem_take hx)
    exact ⟨p, h1⟩
  · rw [deep_r, List.append_assoc, List.cons_append]
    obtain ⟨p, h1, _⟩ := deep_deep q h ((93 :: deepC q w) ++ [93]) (by simp only [List.length_append, List.length_cons, List.length_nil]; omega) fun x hx => by
      rcases List.mem_append.1 hx with hx | hx
      · exact hr x hx
      · simp only [List.mem_singleton] at hx; exact .inl hx
    exact ⟨p, h1⟩
end Go.Note
namespace Go.Proofs.YtnacobknngidkaaGreatDoor
open Go Go.Sv Go.Note
set_option linter.unusedVariables false
attribute [local irreducible] Sif
set_option maxRecDepth 4000
theorem ext0 (l : Bs) (k : Nat) : (⟨l.toArray⟩ : ByteArray).extract 0 k = ⟨(l.take k).toArray⟩ := by
  apply ByteArray.ext
  apply Array.toList_inj.1
  rw [extract_data]; simp
theorem parse_bad {s : Bs} {a e : Nat} (h : parseB s = .bad a e) : parseR s = (.mk 0 0 [] 0 [], a, e) := by unfold parseR; rw [h]
/-- which of the three -/
def which (kind : Int) : Nat := if kind.tmod 3 = 1 then 1 else if kind.tmod 3 = 2 then 2 else 0
theorem deep_law {w : World} {n kind : Int} (hL : LW w) {K : Value → World → Prop} (hk : ∀ w', Ch (fun _ => False) w w' → K (.bool true) w') : callP Tryz.prog 12 [.int .i64 n, .int .i64 kind] w K := by
  apply ok_longshorelaw04_NoteDeep
  unfold wp_longshorelaw04_NoteDeep
  refine live_ok hL fun w1 c1 => ⟨_, rfl, ?_⟩
  refine ⟨fun w2 => w2 = w1 ∧ 1 ≤ n ∧ n ≤ 3000, ?_, ?_⟩
  rotate_left
  · refine Sif_cases (fun h => Sif_cases (fun h2 => hk w1 c1) fun h2 => ⟨rfl, ?_, ?_⟩) fun h => hk w1 c1
    · rw [Bool.not_eq_true'] at h
      have := of_decide_eq_false h; omega
    · have := of_decide_eq_false h2; omega
  rintro w2 ⟨rfl, hn1, hn2⟩
  obtain ⟨N, rfl⟩ : ∃ N : Nat, n = (N : Int) := ⟨n.toNat, by omega⟩
  obtain ⟨q, hq⟩ : ∃ q, q = which kind := ⟨_, rfl⟩
  simp only [intEq]
  have k1 : decide (kind.tmod 3 = 1) = decide (q = 1) := by
    rw [hq]; unfold which
    by_cases h : kind.tmod 3 = 1
    · rw [if_pos h, decide_eq_true h]; rfl
    · rw [if_neg h, decide_eq_false h]; split <;> rfl
  have k2 : q ≠ 1 → decide (kind.tmod 3 = 2) = decide (q = 2) := fun h1 => by
    rw [hq] at h1 ⊢
    unfold which at h1 ⊢
    by_cases h : kind.tmod 3 = 1
    · rw [if_pos h] at h1; exact absurd rfl h1
    · rw [if_neg h]
      by_cases h2 : kind.tmod 3 = 2
      · rw [if_pos h2, decide_eq_true h2]; rfl
      · rw [if_neg h2, decide_eq_false h2]; rfl
  rw [k1]
  refine ⟨fun m x x1 i w3 => ∃ ii : Nat, i = (ii : Int) ∧ ii ≤ N ∧ m = N - ii ∧ x = ⟨(opO q N ii).toArray⟩ ∧ x1 = ⟨(opC q N ii).toArray⟩ ∧ w3 = w2, ⟨N, 0, rfl, Nat.zero_le _, rfl, ?_, ?_, rfl⟩, ?_⟩
  · unfold opO; rw [if_neg (fun h => by have := h.2; omega)]; rfl
  · unfold opC; rw [if_neg (fun h => by have := h.2; omega)]; rfl
  rintro m x x1 i w3 ⟨ii, rfl, hii, rfl, rfl, rfl, rfl⟩
  have lO := opO_len q N ii hii
  have lC := opC_len q N ii hii
  refine Sif_cases (fun hlt => ?_) (fun hge => ?_)
  · have hil : ii < N := by have := of_decide_eq_true hlt; omega
    have hw : IntKind.wrap IntKind.i64 ((ii : Int) + 1) = ((ii + 1 : Nat) : Int) := wrap_id (by omega) (by omega)
    simp only [nameI, hw]
    refine ⟨fun x2 x3 w4 => x2 = ⟨(opO q N (ii + 1)).toArray⟩ ∧ x3 = ⟨(opC q N (ii + 1)).toArray⟩ ∧ w4 = w3, ?_, by decide, ?_⟩
    · rintro x2 x3 w4 ⟨rfl, rfl, rfl⟩
      exact ⟨N - (ii + 1), by omega, ii + 1, rfl, hil, rfl, rfl, rfl, rfl⟩
    rw [show (ByteArray.mk (Array.mk [(40 : UInt8), 110, 117, 108, 108, 32])) = ⟨([40, 110, 117, 108, 108, 32] : Bs).toArray⟩ by rfl, show (ByteArray.mk (Array.mk [(41 : UInt8)])) = ⟨([41] : Bs).toArray⟩ by rfl,
      show (ByteArray.mk (Array.mk [(123 : UInt8), 91, 93, 58, 32])) = ⟨([123, 91, 93, 58, 32] : Bs).toArray⟩ by rfl, show (ByteArray.mk (Array.mk [(125 : UInt8)])) = ⟨([125] : Bs).toArray⟩ by rfl,
      show (ByteArray.mk (Array.mk [(91 : UInt8)])) = ⟨([91] : Bs).toArray⟩ by rfl, show (ByteArray.mk (Array.mk [(93 : UInt8)])) = ⟨([93] : Bs).toArray⟩ by rfl]
    rw [str_app, str_app, str_app, str_app, str_app, str_app, str_size (opO q N ii), str_size (opC q N ii)]
    have eO : opO q N ii = deepO q ii := by unfold opO; rw [if_neg (fun h => by have := h.2; omega)]
    have eC : opC q N ii = deepC q ii := by unfold opC; rw [if_neg (fun h => by have := h.2; omega)]
    have e1 : q = 1 ∨ ii + 1 < N → opO q N (ii + 1) = opO q N ii ++ wrapO q ∧ opC q N (ii + 1) = wrapC q :: opC q N ii := fun h => by
      rw [eO, eC, deepO_snoc, deepC_cons]
      unfold opO opC
      have : ¬ (q ≠ 1 ∧ ii + 1 = N) := fun e => by rcases h with h | h; exact e.1 h; omega
      rw [if_neg this, if_neg this]; exact ⟨rfl, rfl⟩
    have e2 : q ≠ 1 → ii + 1 = N → opO q N (ii + 1) = opO q N ii ++ [91] ∧ opC q N (ii + 1) = 93 :: opC q N ii := fun h h2 => by
      rw [eO, eC]
      unfold opO opC
      rw [if_pos ⟨h, h2⟩, if_pos ⟨h, h2⟩, show N - 1 = ii by omega]; exact ⟨rfl, rfl⟩
    refine Sif_cases (fun hq1 => ?_) (fun hq1 => ?_)
    · have hq1 := of_decide_eq_true hq1
      obtain ⟨f1, f2⟩ := e1 (.inl hq1)
      have g1 : wrapO q = [40, 110, 117, 108, 108, 32] ∧ wrapC q = 41 := by rw [hq1]; exact ⟨rfl, rfl⟩
      rw [f1, f2, g1.1, g1.2]
      exact ⟨by omega, by omega, rfl, rfl, rfl⟩
    · have hq1 := of_decide_eq_false hq1
      refine ⟨by decide, ?_⟩
      rw [k2 hq1]
      refine Sif_cases (fun hq2 => ?_) (fun hq2 => ?_)
      · have hq2 := of_decide_eq_true hq2
        refine Sif_cases (fun hl => ?_) (fun hl => ?_)
        · have hl : ii + 1 < N := by have := of_decide_eq_true hl; omega
          obtain ⟨f1, f2⟩ := e1 (.inr hl)
          have g1 : wrapO q = [123, 91, 93, 58, 32] ∧ wrapC q = 125 := by rw [hq2]; exact ⟨rfl, rfl⟩
          rw [f1, f2, g1.1, g1.2]
          exact ⟨by omega, by omega, rfl, rfl, rfl⟩
        · have hl : ii + 1 = N := by have := of_decide_eq_false hl; omega
          obtain ⟨f1, f2⟩ := e2 hq1 hl
          rw [f1, f2]
          exact ⟨by omega, by omega, rfl, rfl, rfl⟩
      · have hq2 := of_decide_eq_false hq2
        have hq0 : wrapO q = [91] ∧ wrapC q = 93 := by unfold wrapO wrapC; rw [if_neg hq1, if_neg hq2, if_neg hq1, if_neg hq2]; exact ⟨rfl, rfl⟩
        obtain ⟨f1, f2⟩ : opO q N (ii + 1) = opO q N ii ++ [91] ∧ opC q N (ii + 1) = 93 :: opC q N ii := by
          by_cases hl : ii + 1 < N
          · have := e1 (.inr hl); rw [hq0.1, hq0.2] at this; exact this
          · exact e2 hq1 (by omega)
        rw [f1, f2]
        exact ⟨by omega, by omega, rfl, rfl, rfl⟩
  · have hil : ii = N := by have := of_decide_eq_false hge; omega
    subst hil
    refine ⟨fun x2 w4 => x2 = ⟨(inW q).toArray⟩ ∧ w4 = w3, ?_, by decide, ?_⟩
    rotate_left
    · unfold inW
      refine Sif_cases (fun h => ?_) (fun h => ?_)
      · rw [if_pos (of_decide_eq_true h)]; exact ⟨rfl, rfl⟩
      · rw [if_neg (of_decide_eq_false h)]; exact ⟨rfl, rfl⟩
    rintro x2 w4 ⟨rfl, rfl⟩
    have hC := opC_eq (q := q) (n := ii) (by omega)
    have hB := op_whole q ii
    have hI : (inW q).length ≤ 2 := by unfold inW; split <;> decide
    obtain ⟨W, hW⟩ : ∃ W, W = dpW q ii := ⟨_, rfl⟩
    have hWl : W ≤ 3000 := by rw [hW]; unfold dpW; split <;> omega
    have hBl := deep_len q W
    rw [← hW] at hB
    have hBlen : (deepB q W).length = (opO q ii ii).length + (inW q).length + ii := by rw [← hB]; simp only [List.length_append]; omega
    have hT2 : opO q ii ii ++ inW q ++ (opC q ii ii).take (ii - 1) = (deepB q W).take ((deepB q W).length - 1) := by
      have hl2 : (opO q ii ii ++ inW q).length = (opO q ii ii).length + (inW q).length := List.length_append
      rw [hBlen, ← hB, List.take_append (l₁ := opO q ii ii ++ inW q), List.take_of_length_le (l := opO q ii ii ++ inW q) (by omega), hl2]
      congr 2
      omega
    have sz3 : ∀ a b : Bs, (((⟨a.toArray⟩ : ByteArray).size + (⟨b.toArray⟩ : ByteArray).size : Nat) : Int) = ((a.length + b.length : Nat) : Int) := fun a b => by rw [str_size a, str_size b]
    have hwr : IntKind.wrap IntKind.i64 (((opC q ii ii).length : Int) - 1) = ((ii - 1 : Nat) : Int) := by rw [hC, wrap_id (by omega) (by omega)]; omega
    simp only [str_app]
    rw [hB]
    refine ⟨by rw [sz3]; omega, by rw [sz3, List.length_append]; omega, ?_⟩
    refine Parse_ok (by rw [str_size]; omega) (hL.ch0 c1) fun y1 w5 hy1 ho1 hB1 c5 => ?_
    refine tupV (nbx rfl fun w6 b6 c6 z6 => ?_)
    rw [str_size (opC q ii ii), hwr, Int.toNat_natCast, ext0, str_app, hT2]
    have c16 := (c1.trans' c5).trans' c6
    refine ⟨by rw [sz3]; omega, by omega, by omega, by rw [sz3, List.length_append, List.length_take]; omega, ?_⟩
    refine Parse_ok (by rw [str_size, List.length_take]; omega) (hL.ch0 c16) fun y2 w7 hy2 ho2 hB2 c7 => ?_
    refine tupV (nbx rfl fun w8 b8 c8 z8 => ?_)
    have c18 := (c16.trans' c7).trans' c8
    refine ⟨by rw [sz3]; omega, by rw [str_size (opO q ii ii ++ inW q), List.length_append]; omega, by rw [str_size (deepB q W)]; omega, ?_⟩
    refine Parse_ok (by rw [str_size, List.length_append]; show _ + 1 ≤ _; omega) (hL.ch0 c18) fun y3 w9 hy3 ho3 hB3 c9 => ?_
    refine tupV (nbx rfl fun w10 b10 c10 z10 => ?_)
    have c110 := (c18.trans' c9).trans' c10
    have c610 := ((c7.trans' c8).trans' c9).trans' c10
    have b610 := (c610.blk (blk_lt b6) id).trans b6
    rw [str_list] at hy1 ⊢
    rw [str_list, str_list]
    refine ⟨fun n20 w26 => n20 = ((W + 1 : Nat) : Int) ∧ w26 = w10, ?_, by decide, ?_⟩
    rotate_left
    · refine Sif_cases (fun h => ?_) (fun h => ?_)
      · have h := of_decide_eq_true h
        refine ⟨?_, rfl⟩
        rw [wrap_id (by omega) (by omega), hW]; unfold dpW; rw [if_pos h]; omega
      · have h := of_decide_eq_false h
        refine ⟨?_, rfl⟩
        rw [hW]; unfold dpW; rw [if_neg h]; omega
    rintro n20 w26 ⟨rfl, rfl⟩
    refine Sif_cases (fun h => ?_) (fun h => ?_)
    · have h : W + 1 ≤ 32 := by have := of_decide_eq_true h; omega
      have d1 := parse_of (deep_ok q h)
      obtain ⟨p2, d2⟩ := deep_few q h
      have d2 := parse_bad d2
      have d3 := parse_bad (deep_rest q h)
      obtain ⟨g1, g2⟩ := deep_check q W 1 (by omega)
      rw [d1] at hy1 ⊢
      rw [d2, d3]
      have hy1 : y1.m = deepV q W := hy1
      refine ldK b610 ?_
      rw [vv]
      have hpr : PrR (deepV q W) = (deepB q W, 0) := by
        have := PrR_ok g1 (by rw [print_deep]; omega)
        rw [print_deep] at this; exact this
      have hgood := (parse_good (deep_ok q h)).2.2.1
      refine print_ok (hL.ch0 c110) ((ho1.vr'.ch0 c6).ch0 c610) (by rw [hy1]; exact g2) (by rw [hy1]; omega) fun w11 c11 => ⟨_, _, rfl, ?_⟩
      rw [hy1, hpr]
      refine Sif_true (Sif_true_of rfl (Sif_true_of rfl (Sif_true_of rfl ⟨by rw [sz3]; omega, by rw [str_size (opO q ii ii ++ inW q), List.length_append]; omega, ?_⟩)))
      rw [beq_self_eq_true]
      refine Sif_true (Sif_true_of rfl (Sif_true_of rfl ⟨by rw [sz3]; omega, by rw [str_size (opO q ii ii ++ inW q), List.length_append]; omega, ?_⟩))
      rw [str_size, decide_eq_true rfl]
      exact hk w11 (c110.trans' c11)
    · have h : 32 ≤ W := by have := of_decide_eq_false h; omega
      obtain ⟨⟨p, d1, hp0, hp1⟩, ⟨p2, d2⟩, ⟨p3, d3⟩⟩ := deep_deep3 q h hWl
      have d1 := parse_bad d1
      have d2 := parse_bad d2
      have d3 := parse_bad d3
      rw [d1] at hy1 ⊢
      rw [d2, d3]
      have hy1 : y1.m = .mk 0 0 [] 0 [] := hy1
      have hpO : p ≤ (opO q ii ii).length := by
        have e : (deepO q W).length ≤ (opO q ii ii).length := by
          rw [hW]
          unfold opO dpW
          by_cases h1 : q = 1
          · rw [if_pos h1, if_neg (fun e => e.1 h1)]; exact Nat.le_refl _
          · rw [if_neg h1, if_pos ⟨h1, rfl⟩, List.length_append]; omega
        omega
      refine Sif_true (Sif_true_of rfl (Sif_true_of rfl (Sif_true_of rfl (Sif_true_of (decide_eq_true (by show ((p : Nat) : Int) > 0; omega)) (Sif_true_of (decide_eq_true ?_) ?_)))))
      · show ((p : Nat) : Int) < _
        rw [str_size, wrap_id (by omega) (by omega)]; omega
      obtain ⟨k, n0, t, s, e, l⟩ := y1
      rw [MV.m_mk] at hy1
      injection hy1 with e1 e2 e3 e4 e5
      have hl0 : l = [] := by simpa using e5
      have hs0 : s.n = 0 := by
        have h1 : l.length = s.n := ho1.inv.1
        rw [hl0] at h1; exact h1.symm
      refine ⟨k, cellK b610 0 rfl, Sif_true_of (decide_eq_true e1) ⟨_, _, _, cellK b610 3 rfl, ?_⟩⟩
      rw [hs0]
      exact hk w26 c110
end Go.Proofs.YtnacobknngidkaaGreatDoor
namespace Go.Proofs.YtnacobknngidkaaGreatDoor
open Go Go.Sv Go.Note Go.ChangeShapes
set_option linter.unusedVariables false
set_option maxRecDepth 100000
theorem noteDeep_lifted (os : Os) (started : os.Started) (H : Type) (enc : TypeId × Value → H) (F : Stop.Interp) :
    ReturnsInHanded {} Tryz.checked os 12 .any ((Rows.OpenSpec.upto Rows.noteDeepSpec).preRow enc Tryz.prog Tryz.f12 Rows.noteDeepUptoRow.domain false Rows.noteDeepUptoRow.laid) (((Rows.OpenSpec.upto Rows.noteDeepSpec).at F).post enc Tryz.prog Tryz.f12 false true false false) := by
  refine lift_laidT (C := Tryz.checked) (tb := 4) (k := Rows.uptoSmall) started (byBulk Tryz.prog H) rfl byBulk_of own laidOut (by kernel_rfl) Tryz.func12
    (witness_row_at (enc := enc) (C := Tryz.checked) false (nW os) #[.int .i64 0, .int .i64 0] rfl (by kernel_rfl) (by kernel_rfl) (by kernel_rfl)
      (OpenSpec.preRow_of_cond 8 (x := ([.lit (.int .i64 0), .lit (.int .i64 0)], [], [])) (by kernel_rfl) (by kernel_rfl) (fun k hk => by cases hk; kernel_rfl) (by kernel_rfl) (laidMetH_of_parts (laidMet_of_run' 8 (by kernel_rfl) (by kernel_rfl)) (by kernel_rfl))))
    rfl (fun ds h => ?_) rfl Tryz.underlying4 (by kernel_rfl) fun W args ds ps hLaid hG hT hin => ?_
  · match ds, h with
    | [d0, d1], _ => rfl
  · generalize args.toList = vs at hin hT ⊢
    rw [Tryz.params12] at hin hT
    have hL := lw_of_laid hLaid
    match vs, hin, hT with
    | [v0, v1], ⟨i0, i1, _⟩, hT =>
      obtain ⟨a, rfl, _, _⟩ := int_arg i0
      obtain ⟨b, rfl, _, _⟩ := int_arg i1
      exact deep_law hL fun w' hc => ⟨rfl, hc⟩
namespace noteDeep
theorem over : Rows.noteDeepUptoRow.holds Tryz.pinned (Rows.OpenSpec.upto Rows.noteDeepSpec) :=
  OpenClaim.holds_of_cond 12 Tryz.f12 rfl rfl rfl rfl rfl rfl rfl ⟨rfl, rfl, rfl, rfl, rfl⟩ rfl rfl rfl rfl rfl (by kernel_rfl) Tryz.func12 (by kernel_rfl)
    (of_decide_eq_true (by kernel_rfl)) (by unfold Func.isWrapper; first | (rw [if_pos (by decide +kernel)]; kernel_rfl) | (rw [if_neg (by decide +kernel)]; exact ⟨rfl, rfl⟩))
    (fun os started H enc _ F => by rw [OpenClaim.pre_eq_preRow]; exact noteDeep_lifted os started H enc F)
theorem plain (f : FuncId) (fn : Func) (hf : Tryz.pinned.checked.prog.funcNamed "longshore/longshorelaw04.NoteDeep" = some f) (hfn : Tryz.pinned.checked.prog.funcs[f]? = some fn) :
    true = Tryz.pinned.checked.prog.looks [] ∧ ∀ (j : Nat) t, fn.params[j]? = some t → Tryz.pinned.checked.prog.wantsStandIn t = false := by
  obtain rfl : f = 12 := Option.some.inj ((show Tryz.prog.funcNamed "longshore/longshorelaw04.NoteDeep" = some 12 by kernel_rfl).symm.trans hf) |>.symm
  obtain rfl : fn = Tryz.f12 := (Option.some.inj (Tryz.func12.symm.trans hfn)).symm
  have hall : Tryz.f12.params.toList.all (fun t => Tryz.prog.wantsStandIn t == false) = true := by kernel_rfl
  refine ⟨by kernel_rfl, fun j t ht => ?_⟩
  have := List.all_eq_true.1 hall t (Array.mem_toList_iff.2 (Array.mem_of_getElem? ht))
  exact eq_of_beq this
theorem proved : Rows.NoteDeepUptoCardSaid :=
  Claim7.holds_tied_plain_at .later [] _ _ _ _ over (fun _ h => by cases h) (by kernel_rfl) (fun _ h => by cases h) noteDeepUpto_row_tie rfl ⟨rfl, rfl⟩ (by kernel_rfl) rfl plain (by kernel_rfl)
end noteDeep
#print axioms noteDeep.proved
end Go.Proofs.YtnacobknngidkaaGreatDoor
