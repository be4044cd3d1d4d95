/-
  Numbers and words, written and read again, in plain Lean. No program in sight. The tokens of what is written, in plain Lean: the text of a value is its row of tokens. No program in sight. What is written reads as it was, in plain Lean. No program in sight. What is read, may be; how much it is; in plain Lean. No program in sight. Values of the wire as they lie in memory: read (shared or not), and owned.
-/
import Derived.Test.YtnacobknngidkaaGreatDoorPz2
set_option linter.unusedVariables false
set_option linter.unusedSimpArgs false
namespace Go.Note
open Go
set_option linter.unusedVariables false
theorem u8_toNat (n : Nat) (h : n < 256) : (UInt8.ofNat n).toNat = n := by simp only [UInt8.toNat_ofNat']; omega
theorem dec_digit : ∀ (n : Nat), ∀ x ∈ Lib.decDigits n, digitC x = true := by
  intro n
  induction n using Nat.strongRecOn with
  | ind n ih =>
    intro x hx
    rw [Lib.decDigits] at hx
    split at hx
    · rw [List.mem_singleton.1 hx]
      unfold digitC
      rw [u8_toNat _ (by omega)]
      simp; omega
    · rcases List.mem_append.1 hx with h | h
      · exact ih (n / 10) (by omega) x h
      · rw [List.mem_singleton.1 h]
        unfold digitC
        rw [u8_toNat _ (by omega)]
        simp; omega
theorem dec_val : ∀ (n : Nat), valN (Lib.decDigits n) = n := by
  intro n
  induction n using Nat.strongRecOn with
  | ind n ih =>
    rw [Lib.decDigits]
    split
    · unfold valN
      simp only [List.foldl_cons, List.foldl_nil]
      rw [u8_toNat _ (by omega)]; omega
    · have := ih (n / 10) (by omega)
      unfold valN at this ⊢
      rw [List.foldl_append, this]
      simp only [List.foldl_cons, List.foldl_nil]
      rw [u8_toNat _ (by omega)]; omega
theorem dec_ne (n : Nat) : Lib.decDigits n ≠ [] := by
  rw [Lib.decDigits]
  split <;> simp
theorem dec_head : ∀ (n : Nat), 10 ≤ n → (Lib.decDigits n).head? ≠ some 48 := by
  intro n
  induction n using Nat.strongRecOn with
  | ind n ih =>
    intro hn
    rw [Lib.decDigits, dif_neg (by omega), List.head?_append]
    by_cases h : 10 ≤ n / 10
    · have := ih (n / 10) (by omega) h
      cases hh : (Lib.decDigits (n / 10)).head? with
      | none => exact absurd (List.head?_eq_none_iff.1 hh) (dec_ne _)
      | some y => rw [hh] at this; simpa using this
    · rw [Lib.decDigits, dif_pos (by omega)]
      simp only [List.head?_cons, Option.some_or, ne_eq, Option.some.injEq]
      intro e
      have := congrArg UInt8.toNat e
      rw [u8_toNat _ (by omega)] at this
      simp at this; omega
theorem dec_len_one (n : Nat) (h : n < 10) : (Lib.decDigits n).length = 1 := by rw [Lib.decDigits, dif_pos h]; rfl
theorem natB_dec (n : Nat) : natB (Lib.decDigits n) = some n := by
  unfold natB
  rw [if_neg, dec_val]
  rintro (h | ⟨h1, h2⟩ | h)
  · exact dec_ne n h
  · by_cases hn : 10 ≤ n
    · exact dec_head n hn h2
    · rw [dec_len_one n (by omega)] at h1; omega
  · have : (Lib.decDigits n).all digitC = true := List.all_eq_true.2 (dec_digit n)
    rw [this] at h; cases h
theorem digit_letter {x : UInt8} (h : digitC x = true) : letterC x = true := by
  unfold letterC; unfold digitC at h
  simp only [h, Bool.or_true, Bool.true_or]
theorem digit_ne {x : UInt8} (h : digitC x = true) : x ≠ 45 := by
  rintro rfl
  simp [digitC] at h
theorem dec_letter (n : Nat) : ∀ x ∈ Lib.decDigits n, letterC x = true := fun x hx => digit_letter (dec_digit n x hx)
theorem dec_head45 (n : Nat) : (Lib.decDigits n).head? ≠ some 45 := by
  intro h
  exact digit_ne (dec_digit n 45 (List.mem_of_head? h)) rfl
theorem intB_dec (k n : Nat) (h1 : n ≤ (mostK k).1) (h2 : ¬ (k = 15 ∧ 55296 ≤ n ∧ n ≤ 57343)) : intB k (Lib.decDigits n) = some n := by
  unfold intB
  rw [if_neg (fun h => dec_head45 n h.2.2), natB_dec]
  simp only
  rw [if_pos ⟨h1, h2⟩]
theorem intB_neg (k n : Nat) (h0 : 0 < n) (h1 : n ≤ (mostK k).2) : intB k (45 :: Lib.decDigits n) = some (18446744073709551616 - n) := by
  unfold intB
  rw [if_pos ⟨by omega, by
    have : 0 < (Lib.decDigits n).length := List.length_pos_iff.2 (dec_ne n)
    simp only [List.length_cons]; omega, rfl⟩, List.tail_cons, natB_dec]
  simp only
  rw [if_pos ⟨h0, h1⟩]
theorem hexD_toNat (n : Nat) (h : n < 16) : (hexD n).toNat = if n < 10 then 48 + n else 87 + n := by
  unfold hexD
  split
  · simp only [Nat.toUInt8]; rw [u8_toNat _ (by omega)]
  · simp only [Nat.toUInt8]; rw [u8_toNat _ (by omega)]
theorem unhex_hexD (n : Nat) (h : n < 16) (c : Bool) : unhex (hexD n) c = some n := by
  unfold unhex
  rw [hexD_toNat n h]
  by_cases h1 : n < 10
  · simp only [h1, if_true]
    rw [if_pos (by omega)]
    congr 1; omega
  · simp only [h1, if_false]
    rw [if_neg (by omega), if_pos (by omega)]
    congr 1; omega
theorem hexD_letter (n : Nat) (h : n < 16) : letterC (hexD n) = true := by
  unfold letterC
  rw [hexD_toNat n h]
  by_cases h1 : n < 10
  · simp [h1]; omega
  · simp [h1]; omega
theorem hexN_len : ∀ (m n : Nat), (hexN m n).length = m
  | 0, _ => rfl
  | m + 1, n => by simp [hexN, hexN_len m]
theorem hexN_letter : ∀ (m n : Nat), ∀ x ∈ hexN m n, letterC x = true
  | 0, _, x, h => by simp [hexN] at h
  | m + 1, n, x, h => by
    simp only [hexN, List.mem_append, List.mem_singleton] at h
    rcases h with h | h
    · exact hexN_letter m _ x h
    · rw [h]; exact hexD_letter _ (by omega)
theorem pairsB_append : ∀ (n : Nat) (a b x : Bs), a.length = n → pairsB a = some x → pairsB (a ++ b) = (pairsB b).map (x ++ ·) := by
  intro n
  induction n using Nat.strongRecOn with
  | ind n ih =>
    intro a b x hl h
    match a, hl, h with
    | [], _, h => simp [pairsB] at h; subst h; simp
    | [_], _, h => simp [pairsB] at h
    | u :: v :: l, hl, h =>
      simp only [pairsB] at h
      simp only [List.cons_append, pairsB]
      cases hu : unhex u false with
      | none => rw [hu] at h; simp at h
      | some y =>
        cases hv : unhex v false with
        | none => rw [hu, hv] at h; simp at h
        | some z =>
          cases hp : pairsB l with
          | none => rw [hu, hv, hp] at h; simp at h
          | some r =>
            rw [hu, hv, hp] at h
            simp only [Option.some.injEq] at h
            subst h
            simp only [List.length_cons] at hl
            rw [ih (n - 2) (by omega) l b r (by omega) hp]
            cases pairsB b <;> simp
theorem pairsB_two (n : Nat) (h : n < 256) : pairsB [hexD (n / 16), hexD (n % 16)] = some [n.toUInt8] := by
  simp only [pairsB, unhex_hexD (n / 16) (by omega), unhex_hexD (n % 16) (by omega)]
  rw [show 16 * (n / 16) + n % 16 = n by omega]
theorem hexN_two (m n : Nat) : hexN (m + 2) n = hexN m (n / 256) ++ [hexD (n / 16 % 16), hexD (n % 16)] := by
  show hexN (m + 1) (n / 16) ++ [hexD (n % 16)] = _
  show (hexN m (n / 16 / 16) ++ [hexD (n / 16 % 16)]) ++ [hexD (n % 16)] = _
  rw [Nat.div_div_eq_div_mul]
  simp
theorem beN_snoc (b : Bs) (x : UInt8) : beN (b ++ [x]) = 256 * beN b + x.toNat := by
  unfold beN; rw [List.foldl_append]; rfl
theorem hexN_back : ∀ (j n : Nat), n < 256 ^ j → ∃ b, pairsB (hexN (2 * j) n) = some b ∧ beN b = n ∧ b.length = j
  | 0, n, h => ⟨[], rfl, by simp at h; simp [beN, h], rfl⟩
  | j + 1, n, h => by
    rw [Nat.pow_succ] at h
    obtain ⟨b, h1, h2, h3⟩ := hexN_back j (n / 256) (by omega)
    rw [show 2 * (j + 1) = 2 * j + 2 by omega, hexN_two, pairsB_append _ _ _ _ rfl h1]
    have := pairsB_two (n % 256) (by omega)
    rw [show n % 256 / 16 = n / 16 % 16 by omega, show n % 256 % 16 = n % 16 by omega] at this
    rw [this]
    refine ⟨_, rfl, ?_, by simp [h3]⟩
    rw [beN_snoc, h2]
    simp only [Nat.toUInt8]
    rw [u8_toNat _ (by omega)]; omega
theorem rawB_len (b : Bs) : (rawB b).length = 2 * b.length := by
  induction b with
  | nil => rfl
  | cons x b ih =>
    unfold rawB at ih ⊢
    rw [List.flatMap_cons, List.length_append, ih, hexN_len, List.length_cons]; omega
theorem rawB_back (b : Bs) : pairsB (rawB b) = some b := by
  induction b with
  | nil => rfl
  | cons x b ih =>
    unfold rawB at ih ⊢
    rw [List.flatMap_cons]
    have hx := x.toNat_lt
    have h1 : hexN 2 x.toNat = [hexD (x.toNat / 16), hexD (x.toNat % 16)] := by
      rw [show (2 : Nat) = 0 + 2 by rfl, hexN_two, show x.toNat / 16 % 16 = x.toNat / 16 by omega]; rfl
    rw [h1, pairsB_append _ _ _ _ rfl (pairsB_two x.toNat (by omega)), ih]
    simp
theorem rawB_letter (b : Bs) : ∀ x ∈ rawB b, letterC x = true := by
  intro x hx
  unfold rawB at hx
  obtain ⟨y, _, hy⟩ := List.mem_flatMap.1 hx
  exact hexN_letter _ _ x hy
theorem item_esc (x : UInt8) (l : Bs) : item (92 :: 120 :: hexD (x.toNat / 16) :: hexD (x.toNat % 16) :: l) = some ([x], 4) := by
  have hx := x.toNat_lt
  have h1 := unhex_hexD (x.toNat / 16) (by omega) true
  have h2 := unhex_hexD (x.toNat % 16) (by omega) true
  simp only [item, slashed]
  simp only [if_true]
  rw [if_neg (by decide), if_neg (by decide), h1, h2]
  simp only [Option.map_some, Option.some.injEq, Prod.mk.injEq, List.cons.injEq, and_true]
  rw [show 16 * (x.toNat / 16) + x.toNat % 16 = x.toNat by omega]
  simp
theorem wd_esc : ∀ (p l : Bs), wd (esc p ++ l) = (wd l).map fun q => (p ++ q.1, (esc p).length + q.2)
  | [], l => by cases h : wd l <;> simp [esc, h]
  | x :: p, l => by
    simp only [esc, List.cons_append]
    rw [wd_cons, if_neg (by decide), item_esc]
    simp only [List.drop_succ_cons, List.drop_zero]
    rw [wd_esc p l]
    cases wd l <;> simp
    omega
theorem chr_of_take {l : Bs} (r : Bs) (h : chr l ≠ 0) : chr (l.take (chr l) ++ r) = chr l := by
  have hc := chr_ch l
  have hle := chr_le l
  have e : ∀ k, k < chr l → ch (l.take (chr l) ++ r) k = ch l k := by
    intro k hk
    unfold ch
    rw [List.getElem?_append_left (by rw [List.length_take]; omega), List.getElem?_take, if_pos hk]
  rw [chr_ch (l.take (chr l) ++ r)]
  generalize hn : chr l = n at *
  have e0 : ch (l.take n ++ r) 0 = ch l 0 := e 0 (by omega)
  rw [e0]
  generalize ch l 0 = a at *
  split at hc
  · rw [if_pos (by assumption)]; exact hc.symm
  · rename_i c1
    rw [if_neg c1]
    split at hc
    · rename_i c2
      rw [e 1 (by clear e; omega), if_pos c2]; exact hc.symm
    · rename_i c2
      split at hc
      · rename_i c3
        rw [e 1 (by clear e c1 c2 c3; omega), e 2 (by clear e c1 c2 c3; omega), if_neg c2, if_pos c3]; exact hc.symm
      · rename_i c3
        split at hc
        · rename_i c4
          rw [e 1 (by clear e c1 c2 c3 c4; omega), e 2 (by clear e c1 c2 c3 c4; omega), e 3 (by clear e c1 c2 c3 c4; omega), if_neg c2, if_neg c3, if_pos c4]; exact hc.symm
        · exact absurd hc h
theorem item_plain {x : UInt8} {t r : Bs} (h0 : chr (x :: t) ≠ 0) (h1 : x ≠ 92) (h2 : ¬ x.toNat < 32) : item ((x :: t).take (chr (x :: t)) ++ r) = some ((x :: t).take (chr (x :: t)), chr (x :: t)) := by
  have hle := chr_le (x :: t)
  have hc := chr_of_take r h0
  obtain ⟨m, hm⟩ : ∃ m, chr (x :: t) = m + 1 := ⟨chr (x :: t) - 1, by omega⟩
  have e : (x :: t).take (chr (x :: t)) ++ r = x :: (t.take m ++ r) := by rw [hm]; rfl
  have e2 : item (x :: (t.take m ++ r)) = if x.toNat < 32 ∨ chr (x :: (t.take m ++ r)) = 0 then none else some ((x :: (t.take m ++ r)).take (chr (x :: (t.take m ++ r))), chr (x :: (t.take m ++ r))) := by
    have : item (x :: (t.take m ++ r)) = if x = 92 then (slashed (t.take m ++ r)).map fun p => ([p.1], p.2) else if x.toNat < 32 ∨ chr (x :: (t.take m ++ r)) = 0 then none else some ((x :: (t.take m ++ r)).take (chr (x :: (t.take m ++ r))), chr (x :: (t.take m ++ r))) := rfl
    rw [this, if_neg h1]
  rw [e] at hc
  rw [e, e2, hc, if_neg (fun h => h.elim h2 h0), hm]
  simp only [List.take_succ_cons]
  rw [List.take_append_of_le_length (by rw [List.length_take]; simp only [List.length_cons] at hle; omega), List.take_take, Nat.min_self]
theorem wd_piece {l : Bs} (hl : l ≠ []) (r : Bs) : wd (qpiece (l.take (wide l)) ++ r) = (wd r).map fun q => (l.take (wide l) ++ q.1, (qpiece (l.take (wide l))).length + q.2) := by
  obtain ⟨x, t, rfl⟩ := List.exists_cons_of_ne_nil hl
  have hw := wide_pos (x :: t)
  generalize hp : (x :: t).take (wide (x :: t)) = p
  unfold qpiece
  split
  · rename_i h
    rcases h with h | h
    all_goals
      subst h
      simp only [List.cons_append, List.nil_append]
      rw [wd_cons, if_neg (by decide)]
      simp only [item, slashed, if_true, true_or, or_true]
      simp only [Option.map_some, List.drop_succ_cons, List.drop_zero]
      cases wd r <;> simp
  · rename_i q1
    split
    · rename_i h
      subst h
      simp only [List.cons_append, List.nil_append]
      rw [wd_cons, if_neg (by decide)]
      simp only [item, slashed, if_true]
      rw [if_neg (by decide)]
      simp only [Option.map_some, List.drop_succ_cons, List.drop_zero]
      cases wd r <;> simp
    · rename_i q2
      split
      · rename_i hpl
        have hlen : p.length = wide (x :: t) := by
          have := (wide_le (x :: t) hl).1
          rw [← hp, List.length_take]; omega
        have hch : chr (x :: t) ≠ 0 ∧ ¬ x.toNat < 32 := by
          have hw1 : wide (x :: t) = 1 → p = [x] := by
            intro e; rw [← hp, e]; rfl
          have hcc := chr_ch (x :: t)
          have e0 : ch (x :: t) 0 = x.toNat := rfl
          rw [e0] at hcc
          by_cases hx : x.toNat ≤ 127
          · rw [if_pos hx] at hcc
            have : wide (x :: t) = 1 := by unfold wide; omega
            rw [hw1 this] at hpl
            simp only [plainP, Bool.and_eq_true, decide_eq_true_eq] at hpl
            exact ⟨by omega, by omega⟩
          · refine ⟨fun e => ?_, by omega⟩
            have : wide (x :: t) = 1 := by unfold wide; omega
            rw [hw1 this] at hpl
            simp only [plainP, Bool.and_eq_true, decide_eq_true_eq] at hpl
            omega
        have hwc : wide (x :: t) = chr (x :: t) := by unfold wide; omega
        have hq1 : x ≠ 34 ∧ x ≠ 92 := by
          have h1 : x.toNat ≤ 127 → p = [x] := by
            intro hx
            have hcc := chr_ch (x :: t)
            rw [if_pos (show ch (x :: t) 0 ≤ 127 from hx)] at hcc
            rw [← hp, hwc, hcc]; rfl
          constructor
          · rintro rfl; exact q1 (.inl (h1 (by decide)))
          · rintro rfl; exact q1 (.inr (h1 (by decide)))
        have hit := item_plain (x := x) (t := t) (r := r) hch.1 hq1.2 hch.2
        rw [← hwc, hp] at hit
        obtain ⟨u, hu⟩ : ∃ u, p ++ r = x :: u := by
          obtain ⟨m, hm⟩ : ∃ m, wide (x :: t) = m + 1 := ⟨wide (x :: t) - 1, by omega⟩
          rw [← hp, hm]
          exact ⟨t.take m ++ r, rfl⟩
        rw [hu] at hit ⊢
        rw [wd_cons, if_neg hq1.1, hit, ← hu]
        simp only
        rw [List.drop_append_of_le_length (by omega), List.drop_of_length_le (by omega), List.nil_append, hlen]
      · exact wd_esc p r
theorem wd_qb : ∀ (n : Nat) (l r : Bs), l.length ≤ n → wd (qb l ++ r) = (wd r).map fun q => (l ++ q.1, (qb l).length + q.2)
  | 0, l, r, h => by
    have : l = [] := List.eq_nil_of_length_eq_zero (by omega)
    subst this
    rw [qb_nil]
    cases h : wd r <;> simp [h]
  | n + 1, l, r, h => by
    by_cases hl : l = []
    · subst hl
      rw [qb_nil]
      cases h : wd r <;> simp [h]
    · have hw := wide_pos l
      have hw2 := (wide_le l hl).1
      rw [qb_cons l hl, List.append_assoc, wd_piece hl, wd_qb n (l.drop (wide l)) r (by rw [List.length_drop]; omega)]
      cases wd r with
      | none => rfl
      | some q =>
        simp only [Option.map_some, Option.some.injEq, Prod.mk.injEq, List.length_append]
        refine ⟨?_, by omega⟩
        rw [← List.append_assoc, List.take_append_drop]
theorem quoteB_eq (l : Bs) : quoteB l = 34 :: (qb l ++ [34]) := rfl
theorem wordB_quote (l r : Bs) : wordB (quoteB l ++ r) = some (l, (quoteB l).length) := by
  rw [quoteB_eq, List.cons_append, wordB_cons, if_pos rfl, List.append_assoc, wd_qb _ l _ (Nat.le_refl _)]
  simp only [List.cons_append, List.nil_append]
  rw [wd_cons, if_pos rfl]
  simp
end Go.Note
namespace Go.Note
open Go
set_option linter.unusedVariables false
def Fence (l : Bs) : Prop := ∀ x, l.head? = some x → letterC x = false
theorem Fence.nil : Fence [] := fun _ h => by simp at h
theorem Fence.cons {x : UInt8} {l : Bs} (h : letterC x = false) : Fence (x :: l) := fun y hy => by
  simp only [List.head?_cons, Option.some.injEq] at hy
  rw [← hy]; exact h
theorem skip_blank {x : UInt8} (h : blankC x = true) (h2 : x ≠ 35) (l : Bs) : skipN false (x :: l) = 1 + skipN false l := by
  conv => lhs; unfold skipN
  rw [if_neg (by simp [h])]
  congr 2
  split
  · rfl
  · first | rfl | rw [if_neg h2]
theorem toks_blank {x : UInt8} (h : blankC x = true) (h2 : x ≠ 35) (l : Bs) : toks (x :: l) = toks l := by
  rw [toks_eq, toks_eq l, skip_blank h h2, Nat.add_comm, List.drop_succ_cons]
theorem toks_space (l : Bs) : toks (32 :: l) = toks l := toks_blank (by decide) (by decide) l
theorem toks_head {x : UInt8} (h : blankC x = false) (h2 : x ≠ 35) (l : Bs) : toks (x :: l) = match lexS (x :: l) with
    | (0, _, _) => []
    | (k + 1, t, n) => (k + 1, t) :: toks ((x :: l).drop n) := by
  have : skipN false (x :: l) = 0 := by
    unfold skipN
    rw [if_pos ⟨rfl, h, h2⟩]
  rw [toks_eq, this]; rfl
theorem sign_cases {x : UInt8} (h : signC x = true) : x = 91 ∨ x = 93 ∨ x = 123 ∨ x = 125 ∨ x = 40 ∨ x = 41 ∨ x = 58 ∨ x = 44 := by
  simpa [signC] using h
theorem toks_sign {x : UInt8} (h : signC x = true) (l : Bs) : toks (x :: l) = (3, [x]) :: toks l := by
  have hb : blankC x = false ∧ x ≠ 35 ∧ x ≠ 34 := by
    rcases sign_cases h with h | h | h | h | h | h | h | h <;> subst h <;> decide
  rw [toks_head hb.1 hb.2.1]
  rw [lexS_cons]
  rw [if_neg hb.2.2, if_pos h]
  rfl
theorem letter_not {x : UInt8} (h : letterC x = true) : blankC x = false ∧ x ≠ 35 ∧ x ≠ 34 ∧ signC x = false := by
  have key : ∀ x : Fin 256, letterC (UInt8.ofNat x.val) = true → blankC (UInt8.ofNat x.val) = false ∧ UInt8.ofNat x.val ≠ 35 ∧ UInt8.ofNat x.val ≠ 34 ∧ signC (UInt8.ofNat x.val) = false := by decide +kernel
  have := key ⟨x.toNat, x.toNat_lt⟩
  simp only [UInt8.ofNat_toNat] at this
  exact this h
theorem nameN_name : ∀ (n l : Bs), (∀ x ∈ n, letterC x = true) → Fence l → nameN (n ++ l) = n.length
  | [], [], _, _ => rfl
  | [], y :: l, _, hf => by
    unfold nameN
    have := hf y rfl
    simp [this]
  | x :: n, l, h, hf => by
    rw [List.cons_append]
    unfold nameN
    rw [if_pos (h x (by simp)), nameN_name n l (fun y hy => h y (by simp [hy])) hf, List.length_cons]; omega
theorem toks_name {n l : Bs} (hn : n ≠ []) (h : ∀ x ∈ n, letterC x = true) (hf : Fence l) : toks (n ++ l) = (1, n) :: toks l := by
  obtain ⟨x, t, rfl⟩ := List.exists_cons_of_ne_nil hn
  have hx := letter_not (h x (by simp))
  have hl := nameN_name (x :: t) l h hf
  rw [List.cons_append, toks_head hx.1 hx.2.1]
  rw [lexS_cons]
  rw [if_neg hx.2.2.1, if_neg (by simp [hx.2.2.2]), if_pos (h x (by simp))]
  rw [← List.cons_append, hl]
  rw [List.take_append_of_le_length (Nat.le_refl _), List.take_length]
  show (1, x :: t) :: toks (List.drop (x :: t).length (x :: t ++ l)) = _
  rw [List.drop_append_of_le_length (Nat.le_refl _), List.drop_length, List.nil_append]
theorem toks_word (t l : Bs) : toks (quoteB t ++ l) = (2, t) :: toks l := by
  have hw := wordB_quote t l
  rw [quoteB_eq, List.cons_append] at hw ⊢
  rw [toks_head (by decide) (by decide)]
  rw [lexS_cons]
  rw [if_pos rfl, hw]
  show (2, t) :: toks (List.drop (34 :: (qb t ++ [34])).length (34 :: (qb t ++ [34]) ++ l)) = _
  rw [List.drop_append_of_le_length (Nat.le_refl _), List.drop_length, List.nil_append]
theorem nameK_name (k : Int) (h0 : 0 ≤ k) (h1 : k < 25) : nameK k ≠ [] ∧ ∀ x ∈ nameK k, letterC x = true := by
  obtain ⟨n, rfl⟩ : ∃ n : Nat, k = n := ⟨k.toNat, by omega⟩
  have key : ∀ n : Fin 25, nameK (n.val : Int) ≠ [] ∧ (nameK (n.val : Int)).all letterC = true := by decide +kernel
  obtain ⟨a, b⟩ := key ⟨n, by omega⟩
  exact ⟨a, List.all_eq_true.1 b⟩
theorem itoa_name (z : Int) : Lib.itoa z ≠ [] ∧ ∀ x ∈ Lib.itoa z, letterC x = true := by
  unfold Lib.itoa
  split
  · refine ⟨by simp, fun x hx => ?_⟩
    rcases List.mem_cons.1 hx with h | h
    · subst h; decide
    · exact dec_letter _ x h
  · exact ⟨dec_ne _, dec_letter _⟩
theorem simple_name {k : Int} {n : Nat} {t : Bs} (ht : k = 14 ∨ k = 17 → t ≠ []) (h : ¬ (k = 18 ∨ k = 20)) : simpleB k n t ≠ [] ∧ ∀ x ∈ simpleB k n t, letterC x = true := by
  have hne : ∀ m n, 0 < m → hexN m n ≠ [] := fun m n hm e => by
    have := congrArg List.length e
    rw [hexN_len] at this; simp at this; omega
  unfold simpleB
  split
  · exact itoa_name _
  · split
    · exact ⟨hne _ _ (by decide), hexN_letter _ _⟩
    · split
      · exact ⟨hne _ _ (by decide), hexN_letter _ _⟩
      · split
        · rename_i h4
          refine ⟨fun e => ?_, rawB_letter _⟩
          have := congrArg List.length e
          rw [rawB_len] at this
          have := List.length_pos_iff.2 (ht h4)
          simp at *; omega
        · first | rw [if_neg h] | skip
          exact ⟨dec_ne _, dec_letter _⟩
theorem toks_simple {k : Int} {n : Nat} {t l : Bs} (ht : k = 14 ∨ k = 17 → t ≠ []) (hf : Fence l) : toks (simpleB k n t ++ l) = simpleT k n t :: toks l := by
  unfold simpleT
  split
  · rename_i h
    have e : simpleB k n t = quoteB t := by
      unfold simpleB
      rw [if_neg (by omega), if_neg (by omega), if_neg (by omega), if_neg (by omega), if_pos h]
    rw [e]; exact toks_word t l
  · rename_i h
    obtain ⟨g1, g2⟩ := simple_name (n := n) ht h
    exact toks_name g1 g2 hf
def Toks (m : M) : Prop := ∀ l, Fence l → toks (printM m ++ l) = ptoks m ++ toks l
theorem toksS {l : List M} (h : ∀ x ∈ l, Toks x) {r : Bs} (hr : Fence r) : toks (printS l ++ r) = ptoksL l ++ toks r := by
  induction l with
  | nil => simp [printS, ptoksL]
  | cons x l ih =>
    have hf : Fence (printS l ++ r) := by
      cases l with
      | nil => simpa [printS] using hr
      | cons y l => simp only [printS, List.cons_append]; exact Fence.cons (by decide)
    simp only [printS, ptoksL, List.cons_append, List.append_assoc]
    rw [toks_space, h x (by simp) _ hf, ih (fun y hy => h y (by simp [hy]))]
theorem toksL {l : List M} (h : ∀ x ∈ l, Toks x) {r : Bs} (hr : Fence r) : toks (printL l ++ r) = ptoksL l ++ toks r := by
  cases l with
  | nil => simp [printL, ptoksL]
  | cons x l =>
    have hf : Fence (printS l ++ r) := by
      cases l with
      | nil => simpa [printS] using hr
      | cons y l => simp only [printS, List.cons_append]; exact Fence.cons (by decide)
    simp only [printL, ptoksL, List.append_assoc]
    rw [h x (by simp) _ hf, toksS (fun y hy => h y (by simp [hy])) hr]
theorem toksVC : ∀ (l : List M), (∀ x ∈ l, Toks x) → ∀ {r : Bs}, Fence r → (toks (printV l ++ r) = ptoksV l ++ toks r ∧ Fence (printV l ++ r)) ∧ (toks (printC l ++ r) = ptoksC l ++ toks r ∧ Fence (printC l ++ r))
  | [], _, r, hr => by simp [printV, printC, ptoksV, ptoksC, hr]
  | x :: l, h, r, hr => by
    obtain ⟨⟨v1, v2⟩, ⟨c1, c2⟩⟩ := toksVC l (fun y hy => h y (by simp [hy])) hr
    simp only [printV, printC, ptoksV, ptoksC, List.cons_append, List.nil_append, List.append_assoc]
    refine ⟨⟨?_, Fence.cons (by decide)⟩, ⟨?_, Fence.cons (by decide)⟩⟩
    · rw [toks_sign (by decide), toks_space, h x (by simp) _ c2, c1]
    · rw [toks_sign (by decide), toks_space, h x (by simp) _ v2, v1]
theorem toksP {l : List M} (h : ∀ x ∈ l, Toks x) {r : Bs} (hr : Fence r) : toks (printP l ++ r) = ptoksP l ++ toks r := by
  cases l with
  | nil => simp [printP, ptoksP]
  | cons x l =>
    obtain ⟨⟨v1, v2⟩, _⟩ := toksVC l (fun y hy => h y (by simp [hy])) hr
    simp only [printP, ptoksP, List.append_assoc]
    rw [h x (by simp) _ v2, v1]
theorem own_ok {d : Nat} {m : M} (h : m.own d = 0) : 0 ≤ m.k ∧ m.k < 25 ∧ d ≤ 32 ∧ m.extra = false ∧ m.num = true ∧ m.txt = true ∧ (m.k = 22 → mapOk m.l = true) ∧ (m.k = 23 → arrOk m.e m.l = true) ∧ (m.k = 24 → m.l.length = 2) := by
  unfold M.own at h
  split at h
  · cases h
  · split at h
    · cases h
    · split at h
      · cases h
      · split at h
        · cases h
        · split at h
          · cases h
          · split at h
            · cases h
            · split at h
              · cases h
              · split at h
                · cases h
                · rename_i h1 h2 h3 h4 h5 h6 h7 h8
                  simp only [Bool.not_eq_true, Bool.not_eq_false, not_and, Decidable.not_not] at *
                  exact ⟨by omega, by omega, by omega, h3, h4, h5, h6, h7, h8⟩
theorem toks_print : ∀ (m : M) (d : Nat), m.check d = 0 → Toks m := by
  refine M.ind fun k n t e l ih => ?_
  intro d hc r hr
  rw [M.check_iff] at hc
  obtain ⟨h1, h2⟩ := hc
  obtain ⟨k0, k1, _, _, _, htx, _, ha, _⟩ := own_ok h1
  have hl : ∀ x ∈ l, Toks x := fun x hx => ih x hx (d + 1) (h2 x hx)
  simp only [M.k] at k0 k1 ha
  unfold printM ptoks
  split
  · exact toks_name (nameK_name 0 (by decide) (by decide)).1 (nameK_name 0 (by decide) (by decide)).2 hr
  split
  · split
    · exact toks_name (n := [116, 114, 117, 101]) (by decide) (by decide) hr
    · exact toks_name (n := [102, 97, 108, 115, 101]) (by decide) (by decide) hr
  split
  · exact toks_word t r
  split
  · simp only [List.cons_append, List.append_assoc, List.nil_append]
    rw [toks_sign (by decide), toksL hl (Fence.cons (by decide)), toks_sign (by decide)]
  split
  · simp only [List.cons_append, List.append_assoc, List.nil_append]
    rw [toks_sign (by decide), toksP hl (Fence.cons (by decide)), toks_sign (by decide)]
  split
  · rename_i hk
    have ha := ha hk
    simp only [arrOk, M.e, Bool.and_eq_true, decide_eq_true_eq] at ha
    obtain ⟨⟨e0, e1⟩, _⟩ := ha
    have e0 := of_decide_eq_true e0
    have e1 := of_decide_eq_true e1
    have hn := nameK_name e (by omega) (by omega)
    have e1 : [97, 114, 114, 97, 121, 32] ++ nameK e ++ [32, 91] ++ printL l ++ [93] ++ r = [97, 114, 114, 97, 121] ++ (32 :: (nameK e ++ (32 :: 91 :: (printL l ++ (93 :: r))))) := by simp
    rw [e1, toks_name (n := [97, 114, 114, 97, 121]) (by decide) (by decide) (Fence.cons (by decide)), toks_space, toks_name hn.1 hn.2 (Fence.cons (by decide)), toks_space, toks_sign (by decide), toksL hl (Fence.cons (by decide)), toks_sign (by decide)]
    simp
  split
  · simp only [List.cons_append, List.append_assoc, List.nil_append]
    rw [toks_sign (by decide), toksL hl (Fence.cons (by decide)), toks_sign (by decide)]
  · have hn := nameK_name k k0 k1
    simp only [List.append_assoc, List.cons_append, List.nil_append]
    rw [toks_name hn.1 hn.2 (Fence.cons (by decide)), toks_space, toks_simple (fun h => ?_) hr]
    rw [M.txt_mk] at htx
    rw [if_pos h] at htx
    intro e
    rw [e] at htx
    exact absurd htx (by decide)
end Go.Note
namespace Go.Note
open Go
set_option linter.unusedVariables false
theorem begins_name (k : Int) (h0 : 0 ≤ k) (h1 : k < 25) (h2 : k ≠ 1 ∧ k ≠ 19 ∧ k ≠ 21 ∧ k ≠ 22 ∧ k ≠ 24) : begins ⟨1, 0, 0, nameK k⟩ = some k.toNat := by
  obtain ⟨n, rfl⟩ : ∃ n : Nat, k = n := ⟨k.toNat, by omega⟩
  have key : ∀ n : Fin 25, n.val ≠ 1 ∧ n.val ≠ 19 ∧ n.val ≠ 21 ∧ n.val ≠ 22 ∧ n.val ≠ 24 → begins ⟨1, 0, 0, nameK (n.val : Int)⟩ = some n.val := by decide +kernel
  have := key ⟨n, by omega⟩ (by simp only; omega)
  simpa using this
theorem kind_name (k : Int) (h0 : 0 ≤ k) (h1 : k < 25) : kindN (nameK k) = some k.toNat := by
  obtain ⟨n, rfl⟩ : ∃ n : Nat, k = n := ⟨k.toNat, by omega⟩
  have key : ∀ n : Fin 25, kindN (nameK (n.val : Int)) = some n.val := by decide +kernel
  have := key ⟨n, by omega⟩
  simpa using this
theorem number_back {k : Int} {n : Nat} {t : Bs} {e : Int} {l : List M} (hn64 : n < 18446744073709551616) (h0 : 2 ≤ k) (h1 : k ≤ 16) (h14 : k ≠ 14) (hnum : M.num (.mk k n t e l) = true) {s : Bs} {a : Nat} (ha : a ≤ s.length) {r : List Tk} (ht : toks (s.drop a) = (1, simpleB k n t) :: r) :
    numbered s k.toNat a = .ok (.mk k n [] 0 []) (next s a).fin := by
  obtain ⟨t1, t2, t3, t4⟩ := tok_next ha ht
  obtain ⟨j, rfl⟩ : ∃ j : Nat, k = j := ⟨k.toNat, by omega⟩
  unfold numbered
  simp only [t1, t2, Int.toNat_natCast]
  rw [if_neg (by decide)]
  rw [M.num_mk] at hnum
  have cast : ∀ m : Nat, ((j : Int) = (m : Int)) ↔ j = m := fun m => by omega
  by_cases h8 : j = 10 ∨ j = 12
  · have e : simpleB (j : Int) n t = hexN 8 n := by
      unfold simpleB; rw [if_neg (by omega), if_pos (by omega)]
    have hb : bitsK j = 8 := by unfold bitsK; rw [if_pos h8]
    rw [if_neg (by omega), if_neg (by omega), if_neg (by omega), if_pos (by omega)] at hnum
    obtain ⟨b, g1, g2, g3⟩ := hexN_back 4 n (by have := of_decide_eq_true hnum; omega)
    rw [hb, if_neg (by decide), e]
    unfold bytesB
    rw [if_pos (hexN_len _ _), g1]
    simp [g2]
  · by_cases h16 : j = 11 ∨ j = 13
    · have e : simpleB (j : Int) n t = hexN 16 n := by
        unfold simpleB; rw [if_neg (by omega), if_neg (by omega), if_pos (by omega)]
      have hb : bitsK j = 16 := by unfold bitsK; rw [if_neg h8, if_pos h16]
      obtain ⟨b, g1, g2, g3⟩ := hexN_back 8 n (by omega)
      rw [hb, if_neg (by decide), e]
      unfold bytesB
      rw [if_pos (hexN_len _ _), g1]
      simp [g2]
    · have hb : bitsK j = 0 := by unfold bitsK; rw [if_neg h8, if_neg h16, if_neg (by omega)]
      rw [hb, if_pos rfl]
      have hi : intB j (simpleB (j : Int) n t) = some n := by
        by_cases hs : j = 6 ∨ j = 7 ∨ j = 8 ∨ j = 9 ∨ j = 16
        · have e : simpleB (j : Int) n t = Lib.itoa (two64 n) := by
            unfold simpleB; rw [if_pos (by omega)]
          have hlim : (n ≤ (mostK j).1 ∨ (9223372036854775808 ≤ n ∧ 18446744073709551616 - n ≤ (mostK j).2)) := by
            unfold mostK
            rcases hs with h | h | h | h | h <;> subst h
            · simp [sgn] at hnum; simp; omega
            · simp [sgn] at hnum; simp; omega
            · simp [sgn] at hnum; simp; omega
            · simp; omega
            · simp; omega
          have hlow : (mostK j).1 < 9223372036854775808 := by
            unfold mostK
            rcases hs with h | h | h | h | h <;> subst h <;> simp
          rw [e]
          unfold two64 Lib.itoa
          by_cases hsm : n < 9223372036854775808
          · rw [if_pos hsm, if_neg (by omega), Int.toNat_natCast]
            exact intB_dec j n (by omega) (by omega)
          · rw [if_neg hsm, if_pos (by omega), show ((n : Int) - 18446744073709551616).natAbs = 18446744073709551616 - n by omega]
            have := intB_neg j (18446744073709551616 - n) (by omega) (by omega)
            rw [this]; congr 1; omega
        · have e : simpleB (j : Int) n t = Lib.decDigits n := by
            unfold simpleB
            rw [if_neg (by omega), if_neg (by omega), if_neg (by omega), if_neg (by omega), if_neg (by omega)]
          rw [e]
          have hj : j = 2 ∨ j = 3 ∨ j = 4 ∨ j = 5 ∨ j = 15 := by omega
          refine intB_dec j n ?_ ?_
          · unfold mostK
            rcases hj with h | h | h | h | h <;> subst h <;> simp at hnum ⊢ <;> omega
          · rintro ⟨rfl, h2, h3⟩
            simp at hnum; omega
      rw [hi]
theorem raw_back {k : Int} {t : Bs} (hk : k = 14 ∨ k = 17) (hl : t.length = 16) {s : Bs} {a : Nat} (ha : a ≤ s.length) {r : List Tk} (ht : toks (s.drop a) = (1, simpleB k 0 t) :: r) :
    numbered s k.toNat a = .ok (.mk k 0 t 0 []) (next s a).fin := by
  obtain ⟨t1, t2, t3, t4⟩ := tok_next ha ht
  obtain ⟨j, rfl⟩ : ∃ j : Nat, k = j := ⟨k.toNat, by omega⟩
  unfold numbered
  simp only [t1, t2, Int.toNat_natCast]
  rw [if_neg (by decide)]
  have e : simpleB (j : Int) 0 t = rawB t := by
    unfold simpleB; rw [if_neg (by omega), if_neg (by omega), if_neg (by omega), if_pos hk]
  have hb : bitsK j = 32 := by unfold bitsK; rw [if_neg (by omega), if_neg (by omega), if_pos (by omega)]
  rw [hb, if_neg (by decide), e]
  unfold bytesB
  rw [if_pos (by rw [rawB_len]; omega), rawB_back]
  simp
inductive M.fits : M → Prop where
  | mk {k : Int} {n : Nat} {t : Bs} {e : Int} {l : List M} : n < 18446744073709551616 → (∀ x ∈ l, M.fits x) → M.fits (.mk k n t e l)
theorem keysOf_nodup {l : List M} (h : mapOk l = true) : l.length % 2 = 0 ∧ l.length ≤ 2048 ∧ (keysOf l).Nodup := by
  simp only [mapOk, Bool.and_eq_true, decide_eq_true_eq] at h
  exact ⟨h.1.1, by omega, h.2⟩
theorem back_all : ∀ (m : M), m.fits → Back m := by
  refine M.ind fun k n t e l ih => ?_
  intro hfit d s a r hd hc ha ht
  cases hfit with
  | mk hn64 hfl =>
  rw [M.check_iff] at hc
  obtain ⟨h1, h2⟩ := hc
  obtain ⟨k0, k1, hdep, hex, hnum, htx, hmap, harr, hdes⟩ := own_ok h1
  have k0 : 0 ≤ k := k0
  have k1 : k < 25 := k1
  have hmap : k = 22 → mapOk l = true := hmap
  have harr : k = 23 → arrOk e l = true := harr
  have hdes : k = 24 → l.length = 2 := hdes
  have h2 : ∀ x ∈ l, M.check (33 - d + 1) x = 0 := h2
  rw [M.extra_mk] at hex
  simp only [numK, textK, listK, Bool.or_eq_false_iff, Bool.and_eq_false_iff, Bool.not_eq_false', Bool.and_eq_true, decide_eq_true_eq, decide_eq_false_iff_not, Decidable.not_not, ne_eq, Bool.or_eq_true] at hex
  obtain ⟨⟨⟨x1, x2⟩, x3⟩, x4⟩ := hex
  -- one deeper
  obtain ⟨d', rfl⟩ : ∃ d', d = d' + 1 := ⟨d - 1, by omega⟩
  have hbl : ∀ x ∈ l, Back x := fun x hx => ih x hx (hfl x hx)
  have hcl : ∀ x ∈ l, x.check (33 - d') = 0 := fun x hx => by
    have := h2 x hx
    rw [show 33 - (d' + 1) + 1 = 33 - d' by omega] at this; exact this
  unfold ptoks at ht
  by_cases c0 : k = 0
  · subst c0
    rw [if_pos rfl] at ht
    obtain ⟨t1, t2, t3, t4⟩ := tok_next ha ht
    refine ⟨_, t3, ?_, t4⟩
    rw [rdM_eq, begins_of t1 t2, begins_name 0 (by decide) (by decide) (by decide)]
    simp only [Int.toNat_zero, if_true]
    have hn : n = 0 := by omega
    have he : e = 0 := by omega
    have htt : t = [] := x2.resolve_left (by omega)
    have hll : l = [] := x3.resolve_left (by omega)
    rw [hn, he, htt, hll]
  rw [if_neg c0] at ht
  by_cases c1 : k = 1
  · subst c1
    rw [if_pos rfl] at ht
    obtain ⟨t1, t2, t3, t4⟩ := tok_next ha ht
    refine ⟨_, t3, ?_, t4⟩
    have he : e = 0 := by omega
    have htt : t = [] := x2.resolve_left (by omega)
    have hll : l = [] := x3.resolve_left (by omega)
    have hn1 : n ≤ 1 := by rw [M.num_mk] at hnum; exact of_decide_eq_true hnum
    rw [rdM_eq, begins_of t1 t2, t2, he, htt, hll]
    by_cases hn : n = 1
    · rw [if_pos hn, show begins ⟨1, 0, 0, [116, 114, 117, 101]⟩ = some 1 by decide]
      simp [hn]
    · rw [if_neg hn, show begins ⟨1, 0, 0, [102, 97, 108, 115, 101]⟩ = some 1 by decide]
      simp; omega
  rw [if_neg c1] at ht
  by_cases c19 : k = 19
  · subst c19
    rw [if_pos rfl] at ht
    obtain ⟨t1, t2, t3, t4⟩ := tok_next ha ht
    refine ⟨_, t3, ?_, t4⟩
    rw [rdM_eq, begins_of t1 t2, show begins ⟨2, 0, 0, t⟩ = some 19 by rfl]
    have hn : n = 0 := by omega
    have he : e = 0 := by omega
    have hll : l = [] := x3.resolve_left (by omega)
    have htx' : textB t = true := by simpa [M.txt, M.k, M.t] using htx
    simp only [worded, t1, t2]
    simp [htx', hn, he, hll]
  rw [if_neg c19] at ht
  by_cases c21 : k = 21
  · subst c21
    rw [if_pos rfl] at ht
    simp only [List.cons_append, List.append_assoc, List.nil_append] at ht
    obtain ⟨t1, t2, t3, t4⟩ := tok_next ha ht
    obtain ⟨b, b1, b2, b3⟩ := elems_back (s := s) (d := d') (by omega) (elem := none) l hbl hcl (fun _ h => by cases h) _ [] r t3 t4
    refine ⟨b, b1, ?_, b3⟩
    rw [rdM_eq, begins_of t1 t2, show begins ⟨3, 0, 0, [91]⟩ = some 21 by decide]
    have hn : n = 0 := by omega
    have he : e = 0 := by omega
    have htt : t = [] := x2.resolve_left (by omega)
    simp only [elemsM, List.nil_append] at b2
    simp [listed, b2, hn, he, htt]
  rw [if_neg c21] at ht
  by_cases c22 : k = 22
  · subst c22
    rw [if_pos rfl] at ht
    simp only [List.cons_append, List.append_assoc, List.nil_append] at ht
    obtain ⟨t1, t2, t3, t4⟩ := tok_next ha ht
    obtain ⟨m1, m2, m3⟩ := keysOf_nodup (hmap rfl)
    have hn : n = 0 := by omega
    have he : e = 0 := by omega
    have htt : t = [] := x2.resolve_left (by omega)
    have hsh : ∀ o b, shut l o b = .ok (.mk 22 0 [] 0 l) b := fun o b => by
      unfold shut
      rw [if_neg (fun h => h.elim (fun h => by omega) fun h => h m3)]
    by_cases hl : l = []
    · subst hl
      simp only [ptoksP, List.nil_append] at t4
      obtain ⟨u1, u2, u3, u4⟩ := tok_next t3 t4
      refine ⟨_, u3, ?_, u4⟩
      rw [rdM_eq, begins_of t1 t2, show begins ⟨3, 0, 0, [123]⟩ = some 22 by decide]
      simp [mapped, is_of u1 u2, hsh, hn, he, htt]
    · obtain ⟨b, b1, b2, b3⟩ := pairs_back (s := s) (d := d') (by omega) _ l rfl m1 hl hbl hcl _ [] r t3 t4
      refine ⟨b, b1, ?_, b3⟩
      have hf : (next s (next s a).fin).is 125 = false := by
        rw [pairsM_eq (rdM_goes s d') [] t3] at b2
        cases hr : rdM s d' (next s a).fin with
        | bad _ _ => rw [hr] at b2; cases b2
        | ok x c =>
          obtain ⟨k, g⟩ := rdM_begins hr
          exact begins_is g (by decide)
      rw [rdM_eq, begins_of t1 t2, show begins ⟨3, 0, 0, [123]⟩ = some 22 by decide]
      simp only [pairsM, List.nil_append] at b2
      simp [mapped, hf, b2, hsh, hn, he, htt]
  rw [if_neg c22] at ht
  by_cases c23 : k = 23
  · subst c23
    rw [if_pos rfl] at ht
    simp only [List.cons_append, List.append_assoc, List.nil_append] at ht
    have ha' := harr rfl
    simp only [arrOk, Bool.and_eq_true, decide_eq_true_eq, List.all_eq_true] at ha'
    obtain ⟨⟨e0, e1⟩, e2⟩ := ha'
    obtain ⟨t1, t2, t3, t4⟩ := tok_next ha ht
    obtain ⟨u1, u2, u3, u4⟩ := tok_next t3 t4
    obtain ⟨v1, v2, v3, v4⟩ := tok_next u3 u4
    obtain ⟨b, b1, b2, b3⟩ := elems_back (s := s) (d := d') (by omega) (elem := some e.toNat) l hbl hcl (fun j h x hx => by
      cases h
      rw [e2 x hx]; omega) _ [] r v3 v4
    refine ⟨b, b1, ?_, b3⟩
    rw [rdM_eq, begins_of t1 t2, show begins ⟨1, 0, 0, [97, 114, 114, 97, 121]⟩ = some 23 by decide]
    have hn : n = 0 := by omega
    have htt : t = [] := x2.resolve_left (by omega)
    simp only [elemsM, List.nil_append] at b2
    have hkn := kind_name e (by omega) (by omega)
    have he : ((e.toNat : Nat) : Int) = e := by omega
    have hz : ¬ (e.toNat = 0 ∨ e.toNat = 24) := by omega
    simp [arrayed, u1, u2, hkn, hz, is_of v1 v2, listed, b2, hn, htt, he]
    omega
  rw [if_neg c23] at ht
  by_cases c24 : k = 24
  · subst c24
    rw [if_pos rfl] at ht
    simp only [List.cons_append, List.append_assoc, List.nil_append] at ht
    obtain ⟨t1, t2, t3, t4⟩ := tok_next ha ht
    have hn : n = 0 := by omega
    have he : e = 0 := by omega
    have htt : t = [] := x2.resolve_left (by omega)
    match l, hdes rfl, hbl, hcl, t4 with
    | [x, y], _, hbl, hcl, t4 =>
      simp only [ptoksL, List.append_assoc, List.nil_append] at t4
      obtain ⟨b, b1, b2, b3⟩ := hbl x (by simp) d' s _ _ (by omega) (hcl x (by simp)) t3 t4
      obtain ⟨c, f1, f2, f3⟩ := hbl y (by simp) d' s _ _ (by omega) (hcl y (by simp)) b1 b3
      obtain ⟨u1, u2, u3, u4⟩ := tok_next f1 f3
      refine ⟨_, u3, ?_, u4⟩
      rw [rdM_eq, begins_of t1 t2, show begins ⟨3, 0, 0, [40]⟩ = some 24 by decide]
      simp [described, b2, f2, is_of u1 u2, hn, he, htt]
  rw [if_neg c24] at ht
  simp only [List.cons_append, List.nil_append] at ht
  obtain ⟨t1, t2, t3, t4⟩ := tok_next ha ht
  obtain ⟨u1, u2, u3, u4⟩ := tok_next t3 t4
  refine ⟨_, u3, ?_, u4⟩
  rw [rdM_eq, begins_of t1 t2, begins_name k k0 k1 ⟨c1, c19, c21, c22, c24⟩]
  have he : e = 0 := by omega
  have hll : l = [] := x3.resolve_left (by omega)
  have q0 : k.toNat ≠ 0 := by omega
  have q1 : k.toNat ≠ 1 := by omega
  have q19 : k.toNat ≠ 19 := by omega
  have q21 : k.toNat ≠ 21 := by omega
  have q22 : k.toNat ≠ 22 := by omega
  have q23 : k.toNat ≠ 23 := by omega
  have q24 : k.toNat ≠ 24 := by omega
  simp only [if_neg q0, if_neg q1, if_neg q19, if_neg q21, if_neg q22, if_neg q23, if_neg q24]
  have hkk : ((k.toNat : Nat) : Int) = k := by omega
  unfold simpleT at t4 u1 u2
  by_cases hw : k = 18 ∨ k = 20
  · rw [if_pos (show k.toNat = 18 ∨ k.toNat = 20 by omega)]
    rw [if_pos hw] at u1 u2 t4
    have hn : n = 0 := by omega
    simp only [worded, u1, u2, hn, he, hll]
    rw [if_neg (by decide), if_neg]
    · rw [hkk]
    · rintro (⟨h, _⟩ | ⟨h, h'⟩)
      · omega
      · have : k = 20 := by omega
        subst this
        have : asciiB t = true := by simpa [M.txt, M.k, M.t] using htx
        rw [this] at h'; cases h'
  · rw [if_neg (show ¬ (k.toNat = 18 ∨ k.toNat = 20) by omega)]
    rw [if_neg hw] at u1 u2 t4
    by_cases hr : k = 14 ∨ k = 17
    · have hn : n = 0 := by omega
      have hl16 : t.length = 16 := by rw [M.txt_mk, if_pos hr] at htx; exact of_decide_eq_true htx
      subst hn
      rw [raw_back hr hl16 t3 t4, he, hll]
    · have htt : t = [] := x2.resolve_left (by omega)
      rw [number_back hn64 (by omega) (by omega) (by omega) hnum t3 t4, he, hll, htt]
theorem parse_print {m : M} (hf : m.fits) (hc : m.check 1 = 0) (hl : (printM m).length ≤ 1048576) : parseB (printM m) = .ok m 0 := by
  have ht := toks_print m 1 hc [] Fence.nil
  rw [List.append_nil] at ht
  obtain ⟨b, b1, b2, b3⟩ := back_all m hf 32 (printM m) 0 [] (by omega) (by simpa using hc) (by omega) (by
    rw [List.drop_zero, ht]; simp [toks, toksF, lexS])
  unfold parseB
  rw [if_neg (by omega), b2]
  rw [toks_next _ b1] at b3
  simp only
  split at b3
  · rename_i h0
    rw [if_neg (by simp [h0])]
  · cases b3
end Go.Note
namespace Go.Note
open Go
set_option linter.unusedVariables false
mutual
def M.sz : M → Nat
  | .mk _ _ t _ l => 1 + t.length + M.szL l
def M.szL : List M → Nat
  | [] => 0
  | x :: l => M.sz x + M.szL l
end
theorem M.szL_sum (l : List M) : M.szL l = (l.map M.sz).sum := by
  induction l with
  | nil => rfl
  | cons x l ih => simp [M.szL, ih]
theorem M.sz_mk (k : Int) (n : Nat) (t : Bs) (e : Int) (l : List M) : M.sz (.mk k n t e l) = 1 + t.length + (l.map M.sz).sum := by
  rw [M.sz, M.szL_sum]
theorem nameK_len (k : Int) : (nameK k).length ≤ 9 := by
  unfold nameK
  have key : ∀ n : Fin 26, (names.getD n.val []).length ≤ 9 := by decide +kernel
  by_cases h : k.toNat < 26
  · exact key ⟨k.toNat, h⟩
  · have : names[k.toNat]? = none := List.getElem?_eq_none (by
      have : names.length = 25 := rfl
      omega)
    rw [List.getD_eq_getElem?_getD, this]; simp
theorem dec_len : ∀ (j n : Nat), n < 10 ^ (j + 1) → (Lib.decDigits n).length ≤ j + 1
  | 0, n, h => by rw [dec_len_one n (by simpa using h)]; omega
  | j + 1, n, h => by
    rw [Lib.decDigits]
    split
    · simp
    · have := dec_len j (n / 10) (by rw [Nat.pow_succ] at h; omega)
      simp; omega
theorem quoteB_len (t : Bs) : (quoteB t).length ≤ 4 * t.length + 2 := by
  have := qb_len t.length t (Nat.le_refl _)
  rw [quoteB_eq]
  simp; omega
theorem simple_len {k : Int} {n : Nat} {t : Bs} (hn : n < 18446744073709551616) : (simpleB k n t).length ≤ 21 + 4 * t.length := by
  have hd : ∀ m, m < 18446744073709551616 → (Lib.decDigits m).length ≤ 20 := fun m hm => dec_len 19 m (by omega)
  unfold simpleB
  split
  · unfold Lib.itoa two64
    split
    · split
      · have := hd ((n : Int)).natAbs (by omega)
        simp only [List.length_cons]; omega
      · have := hd ((n : Int)).toNat (by omega)
        omega
    · split
      · have := hd ((n : Int) - 18446744073709551616).natAbs (by omega)
        simp only [List.length_cons]; omega
      · have := hd ((n : Int) - 18446744073709551616).toNat (by omega)
        omega
  · split
    · rw [hexN_len]; omega
    · split
      · rw [hexN_len]; omega
      · split
        · rw [rawB_len]; omega
        · split
          · have := quoteB_len t; omega
          · have := hd n hn; omega
theorem print_len2 : ∀ m : M, m.fits → (printM m).length + 2 ≤ 46 * m.sz := by
  refine M.ind fun k n t e l ih => ?_
  intro hf
  cases hf with
  | mk hn hfl =>
  have hl : ∀ x ∈ l, (printM x).length + 2 ≤ 46 * x.sz := fun x hx => ih x hx (hfl x hx)
  rw [M.sz_mk]
  have hS : ∀ l : List M, (∀ x ∈ l, (printM x).length + 2 ≤ 46 * x.sz) → (printS l).length ≤ 46 * (l.map M.sz).sum ∧ (printV l).length ≤ 46 * (l.map M.sz).sum ∧ (printC l).length ≤ 46 * (l.map M.sz).sum := by
    intro l
    induction l with
    | nil => intro _; simp [printS, printV, printC]
    | cons x l ihl =>
      intro hl
      have h1 := hl x (by simp)
      obtain ⟨h2, h3, h4⟩ := ihl fun y hy => hl y (by simp [hy])
      simp only [printS, printV, printC, List.length_cons, List.length_append, List.length_nil, List.map_cons, List.sum_cons]
      omega
  have hL : (printL l).length ≤ 46 * (l.map M.sz).sum ∧ (printP l).length ≤ 46 * (l.map M.sz).sum := by
    cases l with
    | nil => simp [printL, printP]
    | cons x l =>
      have h1 := hl x (by simp)
      obtain ⟨h2, h3, h4⟩ := hS l fun y hy => hl y (by simp [hy])
      simp only [printL, printP, List.length_append, List.map_cons, List.sum_cons]
      omega
  have hk0 := nameK_len 0
  have hk := nameK_len k
  have he := nameK_len e
  have hq := quoteB_len t
  have hs := simple_len (k := k) (t := t) hn
  unfold printM
  split
  · omega
  split
  · split <;> simp <;> omega
  split
  · omega
  split
  · simp only [List.length_cons, List.length_append, List.length_nil]; omega
  split
  · simp only [List.length_cons, List.length_append, List.length_nil]; omega
  split
  · simp only [List.length_cons, List.length_append, List.length_nil]; omega
  split
  · simp only [List.length_cons, List.length_append, List.length_nil]; omega
  · simp only [List.length_cons, List.length_append, List.length_nil]; omega
theorem print_len (m : M) (h : m.fits) : (printM m).length ≤ 46 * m.sz := by
  have := print_len2 m h; omega
theorem item_len' {l : Bs} {y : Bs} {n : Nat} (h : item l = some (y, n)) : y.length ≤ n := by
  cases l with
  | nil => cases h
  | cons x l =>
    simp only [item] at h
    split at h
    · cases hs : slashed l with
      | none => rw [hs] at h; cases h
      | some p =>
        rw [hs] at h
        have h2 := item_pos (l := x :: l) (y := y) (n := n) (by simp only [item]; rw [if_pos (by assumption), hs]; exact h)
        simp only [Option.map_some, Option.some.injEq, Prod.mk.injEq] at h
        obtain ⟨rfl, rfl⟩ := h
        simp; omega
    · split at h
      · cases h
      · simp only [Option.some.injEq, Prod.mk.injEq] at h
        obtain ⟨rfl, rfl⟩ := h
        rw [List.length_take]; omega
theorem wd_len : ∀ (m : Nat) {l : Bs} {y : Bs} {n : Nat}, l.length ≤ m → wd l = some (y, n) → y.length + 1 ≤ n
  | 0, l, y, n, hm, h => by
    have : l = [] := List.eq_nil_of_length_eq_zero (by omega)
    subst this; cases h
  | m + 1, l, y, n, hm, h => by
    cases l with
    | nil => cases h
    | cons x l =>
      rw [wd_cons] at h
      split at h
      · cases h; simp
      · cases hi : item (x :: l) with
        | none => rw [hi] at h; cases h
        | some q =>
          obtain ⟨y', n'⟩ := q
          rw [hi] at h
          simp only at h
          have h1 := item_pos hi
          have h2 := item_len' hi
          cases hw : wd ((x :: l).drop n') with
          | none => rw [hw] at h; cases h
          | some q =>
            rw [hw] at h
            simp only [Option.map_some, Option.some.injEq, Prod.mk.injEq] at h
            obtain ⟨rfl, rfl⟩ := h
            have := wd_len m (l := (x :: l).drop n') (y := q.1) (n := q.2) (by rw [List.length_drop]; omega) hw
            rw [List.length_append]; omega
theorem wordB_len {l : Bs} {y : Bs} {n : Nat} (h : wordB l = some (y, n)) : y.length + 2 ≤ n := by
  cases l with
  | nil => cases h
  | cons x l =>
    rw [wordB_cons] at h
    split at h
    · cases hw : wd l with
      | none => rw [hw] at h; cases h
      | some q =>
        rw [hw] at h
        simp only [Option.map_some, Option.some.injEq, Prod.mk.injEq] at h
        obtain ⟨rfl, rfl⟩ := h
        have := wd_len _ (l := l) (y := q.1) (n := q.2) (Nat.le_refl _) hw
        omega
    · cases h
theorem next_text (s : Bs) {a : Nat} (ha : a ≤ s.length) : ((next s a).kind ≠ 0 → (next s a).kind ≠ 5 → (next s a).text.length ≤ (next s a).fin - (next s a).beg) ∧ ((next s a).kind = 2 → (next s a).text.length + 2 ≤ (next s a).fin - (next s a).beg) := by
  unfold next
  simp only
  cases hd : s.drop (a + skipN false (s.drop a)) with
  | nil => simp
  | cons x l =>
    simp only
    split
    · cases hw : wordB (x :: l) with
      | none => simp
      | some p =>
        have := wordB_len (y := p.1) (n := p.2) hw
        simp; omega
    · split
      · simp
      · split
        · simp; omega
        · simp
def Good (d a b : Nat) (m : M) : Prop := m.check (33 - d) = 0 ∧ m.fits ∧ m.sz ≤ b - a
theorem fits_one {k : Int} {n : Nat} {t : Bs} {e : Int} (h : n < 18446744073709551616) : M.fits (.mk k n t e []) := .mk h (by simp)
theorem sz_one {k : Int} {n : Nat} {t : Bs} {e : Int} : M.sz (.mk k n t e []) = 1 + t.length := by rw [M.sz_mk]; simp
theorem own_of {d : Nat} {k : Int} {n : Nat} {t : Bs} {e : Int} {l : List M} (h0 : 0 ≤ k) (h1 : k < 25) (hd : d ≤ 32) (hx : M.extra (.mk k n t e l) = false) (hn : M.num (.mk k n t e l) = true) (ht : M.txt (.mk k n t e l) = true)
    (hm : k = 22 → mapOk l = true) (ha : k = 23 → arrOk e l = true) (hp : k = 24 → l.length = 2) : M.own d (.mk k n t e l) = 0 := by
  rw [M.own_mk, if_neg (by omega), if_neg (by omega), hx, hn, ht]
  simp only [Bool.false_eq_true, if_false, Bool.true_eq_false]
  rw [if_neg (by rintro ⟨h, h2⟩; rw [hm h] at h2; cases h2), if_neg (by rintro ⟨h, h2⟩; rw [ha h] at h2; cases h2), if_neg (by rintro ⟨h, h2⟩; exact h2 (hp h))]
theorem check_one {d : Nat} {k : Int} {n : Nat} {t : Bs} {e : Int} (h : M.own d (.mk k n t e []) = 0) : M.check d (.mk k n t e []) = 0 := by
  rw [M.check_iff]; exact ⟨h, by simp [M.l]⟩
theorem worded_good {d k a b : Nat} {s : Bs} {m : M} (hd : 1 ≤ d ∧ d ≤ 32) (hk : k = 18 ∨ k = 19 ∨ k = 20) (ha : a ≤ s.length) (h : worded k (next s a) = .ok m b) : Good d a b m := by
  have hl := next_lies s a ha
  have hx := next_text s ha
  unfold worded amiss at h
  split at h
  · cases h
  · rename_i h1
    simp only [ne_eq, Decidable.not_not] at h1
    split at h
    · cases h
    · rename_i h2
      cases h
      refine ⟨check_one (own_of (by omega) (by omega) (by omega) ?_ ?_ ?_ (by omega) (by omega) (by omega)), fits_one (by decide), ?_⟩
      · have : textK (k : Int) = true := by unfold textK; simp; omega
        simp [M.extra, M.k, M.n, M.t, M.l, M.e, this]
      · rw [M.num_mk]
        rw [if_neg (by omega), if_neg (by omega), if_neg (by omega), if_neg (by omega), if_neg (by omega), if_neg (by omega), if_neg (by omega), if_neg (by omega)]
      · rw [M.txt_mk]
        rw [if_neg (by omega)]
        split
        · rename_i h3
          cases ht : textB (next s a).text with
          | true => rfl
          | false => exact absurd (.inl ⟨by omega, ht⟩) h2
        · split
          · rename_i h3
            cases ht : asciiB (next s a).text with
            | true => rfl
            | false => exact absurd (.inr ⟨by omega, ht⟩) h2
          · rfl
      · rw [sz_one]
        have := hx.2 h1
        omega
theorem intB_of {k n : Nat} {s : Bs} (h : intB k s = some n) : (n ≤ (mostK k).1 ∧ ¬ (k = 15 ∧ 55296 ≤ n ∧ n ≤ 57343)) ∨ (0 < (mostK k).2 ∧ n < 18446744073709551616 ∧ 18446744073709551616 - (mostK k).2 ≤ n) := by
  unfold intB at h
  split at h
  · rename_i h0
    cases hn : natB s.tail with
    | none => rw [hn] at h; cases h
    | some j =>
      rw [hn] at h
      simp only at h
      split at h
      · cases h
        right; omega
      · cases h
  · cases hn : natB s with
    | none => rw [hn] at h; cases h
    | some j =>
      rw [hn] at h
      simp only at h
      split at h
      · cases h
        left; assumption
      · cases h
theorem pairsB_len : ∀ (n : Nat) (s b : Bs), s.length = n → pairsB s = some b → n = 2 * b.length := by
  intro n
  induction n using Nat.strongRecOn with
  | ind n ih =>
    intro s b hl h
    match s, hl, h with
    | [], hl, h => simp [pairsB] at h; subst h; simpa using hl.symm
    | [_], _, h => simp [pairsB] at h
    | u :: v :: l, hl, h =>
      simp only [pairsB] at h
      cases hu : unhex u false with
      | none => rw [hu] at h; simp at h
      | some y =>
        cases hv : unhex v false with
        | none => rw [hu, hv] at h; simp at h
        | some z =>
          cases hp : pairsB l with
          | none => rw [hu, hv, hp] at h; simp at h
          | some r =>
            rw [hu, hv, hp] at h
            simp only [Option.some.injEq] at h
            subst h
            simp only [List.length_cons] at hl ⊢
            have := ih (n - 2) (by omega) l r (by omega) hp
            omega
theorem beN_lt (b : Bs) : beN b < 256 ^ b.length := by
  induction hn : b.length generalizing b with
  | zero =>
    have : b = [] := List.eq_nil_of_length_eq_zero hn
    subst this; decide
  | succ n ih =>
    obtain ⟨c, x, rfl⟩ : ∃ c x, b = c ++ [x] := by
      have hne : b ≠ [] := fun e => by rw [e] at hn; simp at hn
      exact ⟨b.dropLast, b.getLast hne, (List.dropLast_concat_getLast hne).symm⟩
    rw [beN_snoc]
    have := ih c (by simp at hn; omega)
    have hx := x.toNat_lt
    rw [Nat.pow_succ]; omega
theorem mostK_num {k n : Nat} (hk : 2 ≤ k ∧ k ≤ 17) (hb : bitsK k = 0) (h : (n ≤ (mostK k).1 ∧ ¬ (k = 15 ∧ 55296 ≤ n ∧ n ≤ 57343)) ∨ (0 < (mostK k).2 ∧ n < 18446744073709551616 ∧ 18446744073709551616 - (mostK k).2 ≤ n)) (t : Bs) (e : Int) (l : List M) :
    M.num (.mk k n t e l) = true ∧ n < 18446744073709551616 ∧ (k = 2 ∨ k = 3 ∨ k = 4 ∨ k = 5 ∨ k = 6 ∨ k = 7 ∨ k = 8 ∨ k = 9 ∨ k = 15 ∨ k = 16) := by
  have hk2 : k = 2 ∨ k = 3 ∨ k = 4 ∨ k = 5 ∨ k = 6 ∨ k = 7 ∨ k = 8 ∨ k = 9 ∨ k = 15 ∨ k = 16 := by
    unfold bitsK at hb
    split at hb
    · cases hb
    · split at hb
      · cases hb
      · split at hb
        · cases hb
        · omega
  rw [M.num_mk]
  rcases hk2 with h' | h' | h' | h' | h' | h' | h' | h' | h' | h' <;> subst h' <;> simp [mostK, sgn] at h ⊢ <;> omega
theorem numbered_good {d k a b : Nat} {s : Bs} {m : M} (hd : 1 ≤ d ∧ d ≤ 32) (hk : 2 ≤ k ∧ k ≤ 17) {a0 : Nat} (ha0 : a0 < a) (ha : a ≤ s.length) (h : numbered s k a = .ok m b) : Good d a0 b m := by
  have hl := next_lies s a ha
  unfold numbered amiss at h
  simp only at h
  split at h
  · cases h
  · rename_i h1
    simp only [ne_eq, Decidable.not_not] at h1
    have hx := (next_text s ha).1 (by omega) (by omega)
    split at h
    · rename_i hb
      cases hi : intB k (next s a).text with
      | none => rw [hi] at h; cases h
      | some n =>
        rw [hi] at h
        cases h
        obtain ⟨g1, g2, g3⟩ := mostK_num hk hb (intB_of hi) [] 0 []
        refine ⟨check_one (own_of (by omega) (by omega) (by omega) ?_ g1 ?_ (by omega) (by omega) (by omega)), fits_one g2, ?_⟩
        · have : numK (k : Int) = true := by unfold numK; simp; omega
          simp [M.extra, M.k, M.n, M.t, M.l, M.e, this]
        · rw [M.txt_mk]
          rw [if_neg (by omega), if_neg (by omega), if_neg (by omega)]
        · rw [sz_one]; simp; omega
    · rename_i hb
      cases hi : bytesB (next s a).text (bitsK k) with
      | none => rw [hi] at h; cases h
      | some c =>
        rw [hi] at h
        unfold bytesB at hi
        split at hi
        · rename_i hlen
          have hpl := pairsB_len _ _ _ hlen hi
          have hbits : (bitsK k = 8 ∧ (k = 10 ∨ k = 12)) ∨ (bitsK k = 16 ∧ (k = 11 ∨ k = 13)) ∨ (bitsK k = 32 ∧ (k = 14 ∨ k = 17)) := by
            unfold bitsK at hb ⊢
            split
            · left; exact ⟨rfl, by assumption⟩
            · split
              · right; left; exact ⟨rfl, by assumption⟩
              · split
                · right; right; exact ⟨rfl, by assumption⟩
                · rename_i h1 h2 h3
                  rw [if_neg h1, if_neg h2, if_neg h3] at hb; exact absurd rfl hb
          simp only at h
          split at h
          · rename_i h32
            cases h
            have hk2 : k = 14 ∨ k = 17 := by omega
            refine ⟨check_one (own_of (by omega) (by omega) (by omega) ?_ ?_ ?_ (by omega) (by omega) (by omega)), fits_one (by decide), ?_⟩
            · have : textK (k : Int) = true := by unfold textK; simp; omega
              simp [M.extra, M.k, M.n, M.t, M.l, M.e, this]
            · rw [M.num_mk]
              rw [if_neg (by omega), if_neg (by omega), if_neg (by omega), if_neg (by omega), if_neg (by omega), if_neg (by omega), if_neg (by omega), if_neg (by omega)]
            · rw [M.txt_mk]
              rw [if_pos (by omega), decide_eq_true (by omega)]
            · rw [sz_one]; omega
          · rename_i h32
            cases h
            have hlt := beN_lt c
            have hlim : beN c < 18446744073709551616 ∧ (k = 10 ∨ k = 12 → beN c ≤ 4294967295) := by
              rcases hbits with ⟨q1, q2⟩ | ⟨q1, q2⟩ | ⟨q1, q2⟩
              · have : c.length = 4 := by omega
                rw [this] at hlt; omega
              · have : c.length = 8 := by omega
                rw [this] at hlt; omega
              · exact absurd q1 h32
            refine ⟨check_one (own_of (by omega) (by omega) (by omega) ?_ ?_ ?_ (by omega) (by omega) (by omega)), fits_one hlim.1, ?_⟩
            · have : numK (k : Int) = true := by unfold numK; simp; omega
              simp [M.extra, M.k, M.n, M.t, M.l, M.e, this]
            · rw [M.num_mk]
              rw [if_neg (by omega), if_neg (by omega), if_neg (by omega)]
              split
              · have := hlim.2 (by omega)
                exact decide_eq_true this
              · rw [if_neg (by omega), if_neg (by omega), if_neg (by omega), if_neg (by omega)]
            · rw [M.txt_mk]
              rw [if_neg (by omega), if_neg (by omega), if_neg (by omega)]
            · rw [sz_one]; simp; omega
        · cases hi
def GoodL (d n : Nat) (l : List M) : Prop := (∀ x ∈ l, x.check (33 - d) = 0) ∧ (∀ x ∈ l, x.fits) ∧ (l.map M.sz).sum ≤ n
theorem GoodL.snoc {d n k : Nat} {l : List M} {x : M} (h : GoodL d n l) (h1 : x.check (33 - d) = 0) (h2 : x.fits) (h3 : x.sz ≤ k) : GoodL d (n + k) (l ++ [x]) := by
  obtain ⟨g1, g2, g3⟩ := h
  refine ⟨fun y hy => ?_, fun y hy => ?_, by simp; omega⟩
  · rcases List.mem_append.1 hy with h | h
    · exact g1 y h
    · rw [List.mem_singleton.1 h]; exact h1
  · rcases List.mem_append.1 hy with h | h
    · exact g2 y h
    · rw [List.mem_singleton.1 h]; exact h2
theorem GoodL.mono {d n k : Nat} {l : List M} (h : GoodL d n l) (hk : n ≤ k) : GoodL d k l := ⟨h.1, h.2.1, by have := h.2.2; omega⟩
theorem elems_good {s : Bs} {d : Nat} (ih : ∀ a b m, a ≤ s.length → rdM s d a = .ok m b → Good d a b m) {elem : Option Nat} {a0 : Nat} : ∀ (f a : Nat) (acc l : List M) (b : Nat), a0 ≤ a → a ≤ s.length → GoodL d (a - a0) acc → (∀ k, elem = some k → ∀ x ∈ acc, x.k = (k : Int)) → elemsF (rdM s d) s elem f a acc = .ok l b → GoodL d (b - a0) l ∧ ∀ k, elem = some k → ∀ x ∈ l, x.k = (k : Int)
  | 0, _, _, _, _, _, _, _, _, h => by simp [elemsF] at h
  | f + 1, a, acc, l, b, h0, ha, hg, hk, h => by
    have hl := next_lies s a ha
    unfold elemsF at h
    simp only at h
    split at h
    · cases h
      exact ⟨hg.mono (by omega), hk⟩
    · cases hr : rdM s d a with
      | bad _ _ => rw [hr] at h; cases h
      | ok m c =>
        rw [hr] at h
        have hm := ih a c m ha hr
        have hgo := rdM_goes s d a m c ha hr
        have hg2 := (hg.snoc hm.1 hm.2.1 hm.2.2).mono (show a - a0 + (c - a) ≤ c - a0 by omega)
        cases elem with
        | none => exact elems_good ih f c _ l b (by omega) (by omega) hg2 (fun _ h => by cases h) h
        | some j =>
          simp only at h
          split at h
          · rename_i hj
            refine elems_good ih f c _ l b (by omega) (by omega) hg2 (fun k hk' x hx => ?_) h
            cases hk'
            rcases List.mem_append.1 hx with h | h
            · exact hk _ rfl x h
            · rw [List.mem_singleton.1 h]; exact hj
          · unfold amiss at h; cases h
theorem pairs_good {s : Bs} {d : Nat} (ih : ∀ a b m, a ≤ s.length → rdM s d a = .ok m b → Good d a b m) {a0 : Nat} : ∀ (f a : Nat) (acc l : List M) (b : Nat), a0 ≤ a → a ≤ s.length → GoodL d (a - a0) acc → acc.length % 2 = 0 → pairsF (rdM s d) s f a acc = .ok l b → GoodL d (b - a0) l ∧ l.length % 2 = 0
  | 0, _, _, _, _, _, _, _, _, h => by simp [pairsF] at h
  | f + 1, a, acc, l, b, h0, ha, hg, hk, h => by
    unfold pairsF at h
    cases hr : rdM s d a with
    | bad c e => rw [hr] at h; cases h
    | ok x c =>
      rw [hr] at h
      have h3 := rdM_goes s d a x c ha hr
      have hm := ih a c x ha hr
      simp only at h
      split at h
      · exact absurd h wanted_ne
      · rename_i hc
        have h4 := next_of_is (s := s) (a := c) (c := 58) (by omega) (by simpa using hc)
        cases hr2 : rdM s d (next s c).fin with
        | bad _ _ => rw [hr2] at h; cases h
        | ok v e =>
          rw [hr2] at h
          have h5 := rdM_goes s d _ v e (by omega) hr2
          have hm2 := ih _ e v (by omega) hr2
          have hg2 := ((hg.snoc hm.1 hm.2.1 hm.2.2).snoc hm2.1 hm2.2.1 hm2.2.2).mono (show a - a0 + (c - a) + (e - (next s c).fin) ≤ e - a0 by omega)
          rw [List.append_assoc] at hg2
          have hev : (acc ++ ([x] ++ [v])).length % 2 = 0 := by simp; omega
          simp only at h
          split at h
          · rename_i ht
            have h6 := next_of_is (s := s) (a := e) (c := 125) (by omega) ht
            cases h
            exact ⟨hg2.mono (by omega), hev⟩
          · split at h
            · exact absurd h wanted_ne
            · rename_i ht
              have h6 := next_of_is (s := s) (a := e) (c := 44) (by omega) (by simpa using ht)
              exact pairs_good ih f _ _ l b (by omega) (by omega) (hg2.mono (by omega)) hev h
theorem good_list {d a b : Nat} {k : Int} {e : Int} {l : List M} {n : Nat} (hd : d + 1 ≤ 32) (h : GoodL d n l) (hn : n + 1 ≤ b - a) (hk : k = 21 ∨ k = 22 ∨ k = 23 ∨ k = 24) (he : k ≠ 23 → e = 0) (hm : k = 22 → mapOk l = true) (ha : k = 23 → arrOk e l = true) (hp : k = 24 → l.length = 2) : Good (d + 1) a b (.mk k 0 [] e l) := by
  refine ⟨?_, .mk (by decide) h.2.1, ?_⟩
  · rw [M.check_iff]
    refine ⟨own_of (by omega) (by omega) (by omega) ?_ ?_ ?_ hm ha hp, fun x hx => ?_⟩
    · have : listK k = true := by unfold listK; simp; omega
      rw [M.extra_mk]
      by_cases h23 : k = 23
      · rw [this]; simp [h23]
      · simp [this, he h23]
    · rw [M.num_mk]
      rw [if_neg (by omega), if_neg (by omega), if_neg (by omega), if_neg (by omega), if_neg (by omega), if_neg (by omega), if_neg (by omega), if_neg (by omega)]
    · rw [M.txt_mk]
      rw [if_neg (by omega), if_neg (by omega), if_neg (by omega)]
    · have := h.1 x hx
      rw [show 33 - (d + 1) + 1 = 33 - d by omega]; exact this
  · rw [M.sz_mk]
    have := h.2.2
    simp; omega
theorem kindN_lt {t : Bs} {k : Nat} (h : kindN t = some k) : k < 25 := by
  unfold kindN at h
  obtain ⟨h1, _⟩ := List.findIdx?_eq_some_iff_getElem.1 h
  exact h1
theorem begins_lt {t : Tok} {k : Nat} (h : begins t = some k) : k < 25 := by
  unfold begins at h
  split at h
  · cases h; decide
  · split at h
    · split at h
      · cases h; decide
      · split at h
        · cases h; decide
        · split at h
          · cases h; decide
          · cases h
    · split at h
      · cases h
      · split at h
        · cases h; decide
        · cases hk : kindN t.text with
          | none => rw [hk] at h; cases h
          | some j =>
            rw [hk] at h
            simp only at h
            split at h
            · cases h
            · cases h
              exact kindN_lt hk
theorem rdM_good (s : Bs) : ∀ (d : Nat), d ≤ 32 → ∀ (a b : Nat) (m : M), a ≤ s.length → rdM s d a = .ok m b → Good d a b m
  | 0, _, a, b, m, ha, h => by
    rw [rdM_eq] at h
    unfold amiss at h
    split at h
    · split at h <;> cases h
    · cases h
  | d + 1, hd, a, b, m, ha, h => by
    have ih := rdM_good s d (by omega)
    rw [rdM_eq] at h
    have hg := rdM_goes s d
    have hl := next_lies s a ha
    cases hb : begins (next s a) with
    | none =>
      rw [hb] at h
      unfold amiss at h
      simp only at h
      split at h <;> cases h
    | some k =>
      rw [hb] at h
      have hk0 := begins_kind hb
      have hk25 := begins_lt hb
      simp only at h
      have hl2 := next_lies s (next s a).fin (by omega)
      have h0 : GoodL d 0 [] := ⟨by simp, by simp, by simp⟩
      split at h
      · rename_i hk
        cases h
        refine ⟨check_one (own_of (by omega) (by omega) (by omega) (by decide) (by decide) (by decide) (by omega) (by omega) (by omega)), fits_one (by decide), ?_⟩
        rw [sz_one]; simp; omega
      split at h
      · rename_i hk
        cases h
        refine ⟨check_one (own_of (by omega) (by omega) (by omega) ?_ ?_ (by rfl) (by omega) (by omega) (by omega)), fits_one (by split <;> decide), ?_⟩
        · simp [M.extra, M.k, M.n, M.t, M.l, M.e, numK]
        · rw [M.num_mk, if_pos rfl]; split <;> decide
        · rw [sz_one]; simp; omega
      split at h
      · exact worded_good (by omega) (by omega) ha h
      split at h
      · rename_i hk
        have h1 := worded_good (d := d + 1) (by omega) (by omega) (by omega) h
        exact ⟨h1.1, h1.2.1, by have := h1.2.2; omega⟩
      split at h
      · unfold listed at h
        cases he : elemsF (rdM s d) s none (s.length + 1) (next s a).fin [] with
        | bad _ _ => rw [he] at h; cases h
        | ok l c =>
          rw [he] at h
          cases h
          have h1 := elems_good ih _ _ _ _ _ (Nat.le_refl _) (by omega) (h0.mono (by omega)) (fun _ h => by cases h) he
          have h2 := elemsF_fin hg none _ _ _ _ _ (by omega) he
          exact good_list (by omega) h1.1 (by omega) (by omega) (fun _ => rfl) (by omega) (by omega) (by omega)
      split at h
      · unfold mapped at h
        simp only at h
        have hsh : ∀ l c, GoodL d (c - (next s a).fin) l → (next s a).fin ≤ c → l.length % 2 = 0 → shut l (next s a).beg c = .ok m b → Good (d + 1) a b m := by
          intro l c hgl hc hev hs
          unfold shut at hs
          split at hs
          · cases hs
          · rename_i hno
            cases hs
            have hno1 : l.length ≤ 2048 := by omega
            have hno2 : (keysOf l).Nodup := Classical.byContradiction fun h => hno (.inr h)
            refine good_list (by omega) hgl (by omega) (by omega) (fun _ => rfl) (fun _ => ?_) (by omega) (by omega)
            unfold mapOk
            simp [hev, hno2]; omega
        split at h
        · rename_i hi
          have h3 := next_of_is (s := s) (by omega) hi
          exact hsh [] _ (h0.mono (by omega)) (by omega) rfl h
        · cases hp : pairsF (rdM s d) s (s.length + 1) (next s a).fin [] with
          | bad _ _ => rw [hp] at h; cases h
          | ok l c =>
            rw [hp] at h
            have h1 := pairs_good ih _ _ _ _ _ (Nat.le_refl _) (by omega) (h0.mono (by omega)) rfl hp
            have h2 := pairsF_fin hg _ _ _ _ _ (by omega) hp
            exact hsh l c h1.1 (by omega) h1.2 h
      split at h
      · unfold arrayed at h
        simp only at h
        split at h
        · unfold amiss at h; cases h
        · cases hkb : kindN (next s (next s a).fin).text with
          | none => rw [hkb] at h; unfold amiss at h; cases h
          | some j =>
            rw [hkb] at h
            have hj := kindN_lt hkb
            simp only at h
            split at h
            · unfold amiss at h; cases h
            · rename_i hj2
              split at h
              · unfold amiss at h; cases h
              · rename_i ho
                have h3 := next_of_is (s := s) (a := (next s (next s a).fin).fin) (c := 91) (by omega) (by simpa using ho)
                unfold listed at h
                cases he : elemsF (rdM s d) s (some j) (s.length + 1) (next s (next s (next s a).fin).fin).fin [] with
                | bad _ _ => rw [he] at h; cases h
                | ok l c =>
                  rw [he] at h
                  cases h
                  have h1 := elems_good ih _ _ _ _ _ (Nat.le_refl _) (by omega) (h0.mono (by omega)) (fun _ _ => by simp) he
                  have h2 := elemsF_fin hg (some j) _ _ _ _ _ (by omega) he
                  refine good_list (by omega) h1.1 (by omega) (by omega) (by omega) (by omega) (fun _ => ?_) (by omega)
                  unfold arrOk
                  simp only [Bool.and_eq_true, decide_eq_true_eq, List.all_eq_true]
                  exact ⟨⟨by omega, by omega⟩, h1.2 j rfl⟩
      split at h
      · unfold described at h
        cases hr : rdM s d (next s a).fin with
        | bad _ _ => rw [hr] at h; cases h
        | ok x c =>
          rw [hr] at h
          have h3 := hg _ _ _ (by omega) hr
          have g3 := ih _ _ _ (by omega) hr
          simp only at h
          cases hr2 : rdM s d c with
          | bad _ _ => rw [hr2] at h; cases h
          | ok y e =>
            rw [hr2] at h
            have h4 := hg _ _ _ (by omega) hr2
            have g4 := ih _ _ _ (by omega) hr2
            simp only at h
            split at h
            · exact absurd h wanted_ne
            · rename_i ho
              have h5 := next_of_is (s := s) (a := e) (c := 41) (by omega) (by simpa using ho)
              cases h
              have g5 := (h0.snoc g3.1 g3.2.1 g3.2.2).snoc g4.1 g4.2.1 g4.2.2
              exact good_list (by omega) g5 (by omega) (by omega) (fun _ => rfl) (by omega) (by omega) (fun _ => rfl)
      · have h1 := numbered_good (d := d + 1) (a0 := a) (by omega) (by omega) (by omega) (by omega) h
        exact h1
theorem parse_good {s : Bs} {m : M} {b : Nat} (h : parseB s = .ok m b) : m.check 1 = 0 ∧ m.fits ∧ m.sz ≤ s.length ∧ b = 0 ∧ s.length ≤ 1048576 := by
  unfold parseB at h
  split at h
  · cases h
  · rename_i hl
    cases hr : rdM s 32 0 with
    | bad _ _ => rw [hr] at h; cases h
    | ok x c =>
      rw [hr] at h
      simp only at h
      split at h
      · unfold amiss at h; cases h
      · cases h
        have h1 := rdM_good s 32 (Nat.le_refl _) 0 c m (by omega) hr
        have h2 := rdM_goes s 32 0 m c (by omega) hr
        exact ⟨h1.1, h1.2.1, by have := h1.2.2; omega, rfl, by omega⟩
end Go.Note
namespace Go.Proofs.YtnacobknngidkaaGreatDoor
open Go Go.Sv Go.Note
set_option linter.unusedVariables false
inductive MV where
  | mk (k : Int) (n : Nat) (t : Bs) (s : SL) (e : Int) (l : List MV)
def MV.k : MV → Int | .mk k _ _ _ _ _ => k
def MV.n : MV → Nat | .mk _ n _ _ _ _ => n
def MV.t : MV → Bs | .mk _ _ t _ _ _ => t
def MV.s : MV → SL | .mk _ _ _ s _ _ => s
def MV.e : MV → Int | .mk _ _ _ _ e _ => e
def MV.l : MV → List MV | .mk _ _ _ _ _ l => l
theorem MV.k_mk (k : Int) (n : Nat) (t : Bs) (s : SL) (e : Int) (l : List MV) : (MV.mk k n t s e l).k = k := rfl
theorem MV.n_mk (k : Int) (n : Nat) (t : Bs) (s : SL) (e : Int) (l : List MV) : (MV.mk k n t s e l).n = n := rfl
theorem MV.t_mk (k : Int) (n : Nat) (t : Bs) (s : SL) (e : Int) (l : List MV) : (MV.mk k n t s e l).t = t := rfl
theorem MV.s_mk (k : Int) (n : Nat) (t : Bs) (s : SL) (e : Int) (l : List MV) : (MV.mk k n t s e l).s = s := rfl
theorem MV.e_mk (k : Int) (n : Nat) (t : Bs) (s : SL) (e : Int) (l : List MV) : (MV.mk k n t s e l).e = e := rfl
theorem MV.l_mk (k : Int) (n : Nat) (t : Bs) (s : SL) (e : Int) (l : List MV) : (MV.mk k n t s e l).l = l := rfl
abbrev str (t : Bs) : ByteArray := ⟨t.toArray⟩
def MV.g : MV → List Value
  | .mk k n t s e _ => [.int .i64 k, .int .u64 (n : Int), .string ⟨t.toArray⟩, .slice s.p s.n s.c, .int .i64 e]
def MV.v (x : MV) : Value := .agg x.g.toArray
mutual
def MV.m : MV → M
  | .mk k n t _ e l => .mk k n t e (MV.mL l)
def MV.mL : List MV → List M
  | [] => []
  | x :: l => MV.m x :: MV.mL l
end
mutual
def MV.B : MV → List Nat
  | .mk _ _ _ s _ l => s.own.toList ++ MV.BL l
def MV.BL : List MV → List Nat
  | [] => []
  | x :: l => MV.B x ++ MV.BL l
end
theorem MV.mL_map (l : List MV) : MV.mL l = l.map MV.m := by
  induction l with
  | nil => rfl
  | cons x l ih => simp [MV.mL, ih]
theorem MV.BL_flat (l : List MV) : MV.BL l = l.flatMap MV.B := by
  induction l with
  | nil => rfl
  | cons x l ih => simp [MV.BL, ih]
theorem MV.m_mk (k : Int) (n : Nat) (t : Bs) (s : SL) (e : Int) (l : List MV) : (MV.mk k n t s e l).m = .mk k n t e (l.map MV.m) := by rw [MV.m, MV.mL_map]
theorem MV.B_mk (k : Int) (n : Nat) (t : Bs) (s : SL) (e : Int) (l : List MV) : (MV.mk k n t s e l).B = s.own.toList ++ l.flatMap MV.B := by rw [MV.B, MV.BL_flat]
theorem MV.glen (x : MV) : x.g.length = 5 := by cases x; rfl
theorem MV.gone (x : MV) : ∀ v ∈ x.g, oneV v = true := by
  cases x
  intro v hv
  simp only [MV.g, List.mem_cons, List.not_mem_nil, or_false] at hv
  rcases hv with h | h | h | h | h <;> rw [h] <;> rfl
theorem MV.lt_of_mem {k : Int} {n : Nat} {t : Bs} {s : SL} {e : Int} {l : List MV} {x : MV} (h : x ∈ l) : SizeOf.sizeOf x < SizeOf.sizeOf (MV.mk k n t s e l) := by
  have := List.sizeOf_lt_of_mem h
  simp only [MV.mk.sizeOf_spec]; omega
theorem MV.ind {P : MV → Prop} (h : ∀ k n t s e l, (∀ x ∈ l, P x) → P (.mk k n t s e l)) : ∀ m, P m
  | .mk k n t s e l => h k n t s e l fun x hx => MV.ind h x
termination_by m => SizeOf.sizeOf m
decreasing_by exact MV.lt_of_mem hx
inductive VR (Q : Nat → Prop) (w : World) : MV → Prop where
  | mk {k : Int} {n : Nat} {t : Bs} {s : SL} {e : Int} {l : List MV} : l.length = s.n → s.n ≤ 2 ^ 46 → Rd w s.p s.n 5 (l.flatMap MV.g) → (∀ a, s.p = some a → s.n * 5 ≠ 0 → Q a.block) → (∀ x ∈ l, VR Q w x) → VR Q w (.mk k n t s e l)
theorem VR.ch {Q S : Nat → Prop} {w w' : World} (hc : Ch S w w') (hn : ∀ b, Q b → ¬ S b) : ∀ x : MV, VR Q w x → VR Q w' x := by
  refine MV.ind fun k n t s e l ih => ?_
  intro h
  cases h with
  | mk h1 h2 h3 h4 h5 =>
    exact .mk h1 h2 (h3.ch hc fun a ha h0 => hn _ (h4 a ha h0)) h4 fun x hx => ih x hx (h5 x hx)
theorem VR.ch0 {Q : Nat → Prop} {w w' : World} (hc : Ch (fun _ => False) w w') {x : MV} (h : VR Q w x) : VR Q w' x := VR.ch hc (fun _ _ h => h) x h
theorem VR.mono {Q Q' : Nat → Prop} {w : World} (hq : ∀ b, Q b → Q' b) : ∀ x : MV, VR Q w x → VR Q' w x := by
  refine MV.ind fun k n t s e l ih => ?_
  intro h
  cases h with
  | mk h1 h2 h3 h4 h5 =>
    exact .mk h1 h2 h3 (fun a ha h0 => hq _ (h4 a ha h0)) fun x hx => ih x hx (h5 x hx)
theorem VR.inv {Q : Nat → Prop} {w : World} {x : MV} (h : VR Q w x) : x.l.length = x.s.n ∧ x.s.n ≤ 2 ^ 46 ∧ Rd w x.s.p x.s.n 5 (x.l.flatMap MV.g) ∧ (∀ a, x.s.p = some a → x.s.n * 5 ≠ 0 → Q a.block) ∧ ∀ y ∈ x.l, VR Q w y := by
  cases h with
  | mk h1 h2 h3 h4 h5 => exact ⟨h1, h2, h3, h4, h5⟩
theorem VR.lt {Q : Nat → Prop} {w : World} : ∀ x : MV, VR Q w x → VR (fun b => Q b ∧ b < w.heap.size) w x := by
  refine MV.ind fun k n t s e l ih => ?_
  intro h
  cases h with
  | mk h1 h2 h3 h4 h5 =>
    exact .mk h1 h2 h3 (fun a ha h0 => ⟨h4 a ha h0, h3.lt a ha h0⟩) fun x hx => ih x hx (h5 x hx)
def At (w : World) (b o : Nat) (x : MV) : Prop := ∀ j v, x.g[j]? = some v → w.cell? ⟨b, o + j, none⟩ = some v
theorem At.ch {S : Nat → Prop} {w w' : World} {b o : Nat} {x : MV} (h : At w b o x) (hc : Ch S w w') (hn : ¬ S b) : At w' b o x := fun j v hv => by
  have h1 := h j v hv
  have hlt : b < w.heap.size := by
    obtain ⟨cs, h2, _⟩ : ∃ cs, cellsAt w b = some cs ∧ cs[o + j]? = some v := by
      unfold World.cell? at h1
      unfold cellsAt
      simp only at h1
      split at h1
      · rename_i c t fz hh
        exact ⟨c.toList, by rw [hh], by simpa using h1⟩
      · cases h1
    exact cells_lt h2
  have e : w'.cell? ⟨b, o + j, none⟩ = w.cell? ⟨b, o + j, none⟩ := World.cell?_of_block (a := ⟨b, o + j, none⟩) (hc.keep b hlt hn)
  rw [e]; exact h1
theorem At.blk {w : World} {b : Nat} {x : MV} (h : blk w b = some x.g) : At w b 0 x := fun j v hv => by rw [cell_blk h, Nat.zero_add]; exact hv
theorem VR.at {Q : Nat → Prop} {w : World} {x y : MV} (h : VR Q w x) {i : Nat} (hi : x.l[i]? = some y) : ∃ b o, x.s.p = some ⟨b, o, none⟩ ∧ Q b ∧ At w b (o + i * 5) y := by
  obtain ⟨h1, h2, h3, h4, h5⟩ := h.inv
  obtain ⟨b, o, hp, ha⟩ := h3.at MV.glen hi (by decide)
  have hil : i < x.l.length := (List.getElem?_eq_some_iff.1 hi).1
  exact ⟨b, o, hp, h4 _ hp (by omega), ha⟩
theorem rd5 {w : World} {b o : Nat} {x : MV} {K : Int → Int → ByteArray → Option Addr → Nat → Nat → Int → Prop} (h : At w b o x) (hk : K x.k (x.n : Int) ⟨x.t.toArray⟩ x.s.p x.s.n x.s.c x.e) :
    ∃ n, w.cell? ⟨b, o + 0, none⟩ = some (.int .i64 n) ∧ ∃ n1, w.cell? ⟨b, o + 1, none⟩ = some (.int .u64 n1) ∧ ∃ s, w.cell? ⟨b, o + 2, none⟩ = some (.string s) ∧ ∃ p n2 c, w.cell? ⟨b, o + 3, none⟩ = some (.slice p n2 c) ∧ ∃ n3, w.cell? ⟨b, o + 4, none⟩ = some (.int .i64 n3) ∧ K n n1 s p n2 c n3 := by
  cases x
  exact ⟨_, h 0 _ rfl, _, h 1 _ rfl, _, h 2 _ rfl, _, _, _, h 3 _ rfl, _, h 4 _ rfl, hk⟩
theorem At.k0 {w : World} {b o : Nat} {x : MV} (h : At w b o x) : w.cell? ⟨b, o + 0, none⟩ = some (.int .i64 x.k) := by cases x; exact h 0 _ rfl
theorem At.n1 {w : World} {b o : Nat} {x : MV} (h : At w b o x) : w.cell? ⟨b, o + 1, none⟩ = some (.int .u64 (x.n : Int)) := by cases x; exact h 1 _ rfl
theorem At.t2 {w : World} {b o : Nat} {x : MV} (h : At w b o x) : w.cell? ⟨b, o + 2, none⟩ = some (.string ⟨x.t.toArray⟩) := by cases x; exact h 2 _ rfl
theorem At.s3 {w : World} {b o : Nat} {x : MV} (h : At w b o x) : w.cell? ⟨b, o + 3, none⟩ = some (.slice x.s.p x.s.n x.s.c) := by cases x; exact h 3 _ rfl
theorem At.e4 {w : World} {b o : Nat} {x : MV} (h : At w b o x) : w.cell? ⟨b, o + 4, none⟩ = some (.int .i64 x.e) := by cases x; exact h 4 _ rfl
theorem vv (x : MV) : Value.agg (Array.mk [.int .i64 x.k, .int .u64 (x.n : Int), .string ⟨x.t.toArray⟩, .slice x.s.p x.s.n x.s.c, .int .i64 x.e]) = x.v := by cases x; rfl
theorem boxV {w : World} {x : MV} {t : TypeId} {K : Addr → World → Prop} (hk : ∀ w', blk w' w.heap.size = some x.g → At w' w.heap.size 0 x → Ch (fun _ => False) w w' → w'.heap.size = w.heap.size + 1 → K ⟨w.heap.size, 0, none⟩ w') : newB w x.g t K :=
  newB_blk fun w1 b1 c1 z1 => hk w1 b1 (At.blk b1) c1 (by omega)
inductive VO (w : World) : MV → Prop where
  | mk {k : Int} {n : Nat} {t : Bs} {s : SL} {e : Int} {l : List MV} : l.length = s.n → s.n ≤ 2 ^ 46 → Ow w s.p s.n s.c 5 (l.flatMap MV.g) s.own → (∀ x ∈ l, VO w x) → (s.own.toList ++ l.flatMap MV.B).Nodup → VO w (.mk k n t s e l)
theorem VO.inv {w : World} {x : MV} (h : VO w x) : x.l.length = x.s.n ∧ x.s.n ≤ 2 ^ 46 ∧ Ow w x.s.p x.s.n x.s.c 5 (x.l.flatMap MV.g) x.s.own ∧ (∀ y ∈ x.l, VO w y) ∧ x.B.Nodup := by
  cases h with
  | mk h1 h2 h3 h4 h5 => exact ⟨h1, h2, h3, h4, by rw [MV.B_mk]; exact h5⟩
theorem VO.ch {S : Nat → Prop} {w w' : World} (hc : Ch S w w') : ∀ x : MV, VO w x → (∀ b ∈ x.B, ¬ S b) → VO w' x := by
  refine MV.ind fun k n t s e l ih => ?_
  intro h hn
  rw [MV.B_mk] at hn
  cases h with
  | mk h1 h2 h3 h4 h5 =>
    refine .mk h1 h2 (h3.ch hc fun b hb => hn b (by simp [hb])) (fun x hx => ih x hx (h4 x hx) fun b hb => hn b ?_) h5
    exact List.mem_append.2 (.inr (List.mem_flatMap.2 ⟨x, hx, hb⟩))
theorem VO.lt {w : World} : ∀ x : MV, VO w x → ∀ b ∈ x.B, b < w.heap.size := by
  refine MV.ind fun k n t s e l ih => ?_
  intro h b hb
  rw [MV.B_mk] at hb
  cases h with
  | mk h1 h2 h3 h4 h5 =>
    rcases List.mem_append.1 hb with hb | hb
    · exact h3.blt b (by simpa [Option.mem_toList] using hb)
    · obtain ⟨x, hx, hb⟩ := List.mem_flatMap.1 hb
      exact ih x hx (h4 x hx) b hb
def VE : El MV where
  g := MV.g
  sz := 5
  B := MV.B
  Ok := VO
  glen := MV.glen
  gone := MV.gone
  ch h hc hn := VO.ch hc _ h hn
  lt h := VO.lt _ h
  nd h := h.inv.2.2.2.2
theorem ow_block {w : World} {p : Option Addr} {n c sz : Nat} {xs : List Value} {b : Option Nat} (h : Ow w p n c sz xs b) : ∀ a, p = some a → n * sz ≠ 0 → b = some a.block := by
  intro a ha h0
  obtain ⟨_, h2, h3⟩ := h
  rcases h3 with ⟨h3, h4⟩ | ⟨k, o, cs, h3, h4, _⟩
  · have : n * sz ≤ c * sz := Nat.mul_le_mul_right _ h2
    omega
  · rw [h4] at ha; cases ha; exact h3
theorem VO.vr {w : World} : ∀ x : MV, VO w x → ∀ Q : Nat → Prop, (∀ b ∈ x.B, Q b) → VR Q w x := by
  refine MV.ind fun k n t s e l ih => ?_
  intro h Q hq
  rw [MV.B_mk] at hq
  cases h with
  | mk h1 h2 h3 h4 h5 =>
    refine .mk h1 h2 h3.rd (fun a ha h0 => hq _ ?_) fun x hx => ih x hx (h4 x hx) Q fun b hb => hq b ?_
    · have := ow_block h3 a ha h0
      simp [this]
    · exact List.mem_append.2 (.inr (List.mem_flatMap.2 ⟨x, hx, hb⟩))
theorem VO.vr' {w : World} {x : MV} (h : VO w x) : VR (· ∈ x.B) w x := VO.vr x h _ fun _ h => h
theorem VO.none {w : World} {k : Int} {n : Nat} {t : Bs} {e : Int} : VO w (.mk k n t ⟨none, 0, 0, none⟩ e []) := .mk rfl (by decide) (by simpa using Ow.nil) (by simp) (by simp)
end Go.Proofs.YtnacobknngidkaaGreatDoor
