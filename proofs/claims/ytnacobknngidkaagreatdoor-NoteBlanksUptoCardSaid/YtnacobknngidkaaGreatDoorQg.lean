/-
  NoteBlanks: blanks and comments do not matter: the call returns true and the inputs read as they did. Conditions: the inputs are of bulk at most 1048576 (the second form's card); the seven listed package variables hold what the program's text lays.
-/
import Derived.Test.YtnacobknngidkaaGreatDoorPz22
set_option linter.unusedVariables false
set_option linter.unusedSimpArgs false
namespace Go.Note
open Go
set_option linter.unusedVariables false
/-- blanks and a comment, by a raw number -/
def blankB (n : Int) : Bs :=
  if n.tmod 7 = 0 then [32] else if n.tmod 7 = 1 then [10, 9] else if n.tmod 7 = 2 then [32, 35, 32, 93, 125, 41, 32, 34, 92, 32, 255, 13, 10]
  else if n.tmod 7 = 3 then [13] else if n.tmod 7 = 4 then [35, 10, 35, 10] else if n.tmod 7 = 5 then [32, 32] else []
/-- what is put about a byte outside of words -/
def padB (raws : List Int) (x : UInt8) : Bs := if signC x || decide (x = 32) then (match raws with | [] => [] | n :: _ => blankB n) else []
def padR (raws : List Int) (x : UInt8) : List Int := if signC x || decide (x = 32) then raws.tail else raws
/-- a text, spread out -/
def spreadB : List Int → Bool → Bs → Bs
  | _, _, [] => []
  | raws, false, x :: l => padB raws x ++ x :: ((if signC x then padB raws x else []) ++ spreadB (padR raws x) (decide (x = 34)) l)
  | raws, true, 92 :: y :: l => 92 :: y :: spreadB raws true l
  | raws, true, x :: l => x :: spreadB raws (!decide (x = 34)) l
theorem skip_pad (b : Bs) (h : b = [32] ∨ b = [10, 9] ∨ b = [32, 35, 32, 93, 125, 41, 32, 34, 92, 32, 255, 13, 10] ∨ b = [13] ∨ b = [35, 10, 35, 10] ∨ b = [32, 32] ∨ b = []) (l : Bs) : skipN false (b ++ l) = b.length + skipN false l ∧ ∀ x, b.head? = some x → letterC x = false := by
  rcases h with h | h | h | h | h | h | h <;> subst h
  · exact ⟨by simp [skipN, blankC], by decide⟩
  · exact ⟨by simp [skipN, blankC]; omega, by decide⟩
  · exact ⟨by simp [skipN, blankC]; omega, by decide⟩
  · exact ⟨by simp [skipN, blankC], by decide⟩
  · exact ⟨by simp [skipN, blankC]; omega, by decide⟩
  · exact ⟨by simp [skipN, blankC]; omega, by decide⟩
  · exact ⟨by simp, by simp⟩
theorem blank_cases (n : Int) : blankB n = [32] ∨ blankB n = [10, 9] ∨ blankB n = [32, 35, 32, 93, 125, 41, 32, 34, 92, 32, 255, 13, 10] ∨ blankB n = [13] ∨ blankB n = [35, 10, 35, 10] ∨ blankB n = [32, 32] ∨ blankB n = [] := by
  unfold blankB
  split
  · simp
  split
  · simp
  split
  · simp
  split
  · simp
  split
  · simp
  split
  · simp
  · simp
theorem toks_skip {b l : Bs} (h : skipN false (b ++ l) = b.length + skipN false l) : toks (b ++ l) = toks l := by
  rw [toks_eq, toks_eq l, h]
  have e : List.drop (b.length + skipN false l) (b ++ l) = List.drop (skipN false l) l := by
    rw [← List.drop_drop, List.drop_left]
  rw [e]
theorem toks_blankB (n : Int) (l : Bs) : toks (blankB n ++ l) = toks l := toks_skip (skip_pad _ (blank_cases n) l).1
theorem padB_cases (raws : List Int) (x : UInt8) : padB raws x = [] ∨ ∃ n, padB raws x = blankB n := by
  unfold padB
  split
  · cases raws with
    | nil => exact .inl rfl
    | cons n r => exact .inr ⟨n, rfl⟩
  · exact .inl rfl
theorem toks_pad (raws : List Int) (x : UInt8) (l : Bs) : toks (padB raws x ++ l) = toks l := by
  rcases padB_cases raws x with h | ⟨n, h⟩
  · rw [h]; rfl
  · rw [h]; exact toks_blankB n l
theorem fence_pad (raws : List Int) (x : UInt8) {l : Bs} (hl : Fence l) : Fence (padB raws x ++ l) := by
  rcases padB_cases raws x with h | ⟨n, h⟩
  · rw [h]; exact hl
  · rw [h]
    cases hb : blankB n with
    | nil => exact hl
    | cons y b =>
      have := (skip_pad _ (blank_cases n) []).2 y (by rw [hb]; rfl)
      exact Fence.cons this
/-- a piece of a text, spread out: its tokens; whether no name may go on behind it; whether it begins with no name's byte -/
def Sp (need fence : Bool) (s : Bs) (ts : List Tk) : Prop :=
  ∀ raws, ∃ raws' s', (∀ l, spreadB raws false (s ++ l) = s' ++ spreadB raws' false l) ∧ (∀ l, (need = true → Fence l) → toks (s' ++ l) = ts ++ toks l) ∧ (fence = true → ∀ l, Fence (s' ++ l))
theorem Sp.append {n1 f1 n2 f2 : Bool} {s1 s2 : Bs} {t1 t2 : List Tk} (h1 : Sp n1 f1 s1 t1) (h2 : Sp n2 f2 s2 t2) (h : n1 = true → f2 = true) : Sp n2 f1 (s1 ++ s2) (t1 ++ t2) := by
  intro raws
  obtain ⟨r1, u1, a1, b1, c1⟩ := h1 raws
  obtain ⟨r2, u2, a2, b2, c2⟩ := h2 r1
  refine ⟨r2, u1 ++ u2, fun l => ?_, fun l hl => ?_, fun hf l => ?_⟩
  · rw [List.append_assoc, a1, a2, List.append_assoc]
  · rw [List.append_assoc, b1 _ (fun hn => c2 (h hn) l), b2 l hl, List.append_assoc]
  · rw [List.append_assoc]; exact c1 hf _
theorem Sp.sign {x : UInt8} (h : signC x = true) : Sp false true [x] [(3, [x])] := by
  intro raws
  have h34 : x ≠ 34 := by
    rcases sign_cases h with h | h | h | h | h | h | h | h <;> subst h <;> decide
  have hl : letterC x = false := by
    rcases sign_cases h with h | h | h | h | h | h | h | h <;> subst h <;> decide
  refine ⟨padR raws x, padB raws x ++ x :: padB raws x, fun l => ?_, fun l _ => ?_, fun _ l => ?_⟩
  · simp [spreadB, h, h34]
  · simp only [List.append_assoc, List.cons_append]
    rw [toks_pad, toks_sign h, toks_pad]; rfl
  · simp only [List.append_assoc, List.cons_append]
    exact fence_pad _ _ (Fence.cons hl)
theorem Sp.space : Sp false true [32] [] := by
  intro raws
  refine ⟨padR raws 32, padB raws 32 ++ [32], fun l => ?_, fun l _ => ?_, fun _ l => ?_⟩
  · simp [spreadB, signC]
  · simp only [List.append_assoc, List.cons_append, List.nil_append]
    rw [toks_pad, toks_space]
  · simp only [List.append_assoc, List.cons_append, List.nil_append]
    exact fence_pad _ _ (Fence.cons (by decide))
theorem spread_name : ∀ (n : Bs) (raws : List Int) (l : Bs), (∀ x ∈ n, letterC x = true) → spreadB raws false (n ++ l) = n ++ spreadB raws false l
  | [], _, _, _ => rfl
  | x :: n, raws, l, h => by
    have hx := letter_not (h x (by simp))
    have h32 : x ≠ 32 := by rintro rfl; exact absurd (h 32 (by simp)) (by decide)
    have h1 : padB raws x = [] := by unfold padB; simp [hx.2.2.2, h32]
    have h2 : padR raws x = raws := by unfold padR; simp [hx.2.2.2, h32]
    rw [List.cons_append]
    rw [spreadB]
    rw [h1, h2, decide_eq_false hx.2.2.1, spread_name n raws l fun y hy => h y (by simp [hy])]
    simp
theorem Sp.name {n : Bs} (hn : n ≠ []) (h : ∀ x ∈ n, letterC x = true) : Sp true false n [(1, n)] := by
  intro raws
  refine ⟨raws, n, fun l => spread_name n raws l h, fun l hl => ?_, fun h => by cases h⟩
  rw [toks_name hn h (hl rfl)]; rfl
theorem spread_other {x : UInt8} (h : x ≠ 92) (raws : List Int) (l : Bs) : spreadB raws true (x :: l) = x :: spreadB raws (!decide (x = 34)) l := by
  rw [spreadB]
  intro y t e _
  exact h e
theorem spread_in (raws : List Int) : ∀ (p l : Bs), (∀ x ∈ p, x ≠ 34 ∧ x ≠ 92) → spreadB raws true (p ++ l) = p ++ spreadB raws true l
  | [], _, _ => rfl
  | x :: p, l, h => by
    have hx := h x (by simp)
    rw [List.cons_append]
    rw [spread_other hx.2, decide_eq_false hx.1]
    simp only [Bool.not_false]
    rw [spread_in raws p l fun y hy => h y (by simp [hy]), List.cons_append]
theorem spread_bs (raws : List Int) (y : UInt8) (l : Bs) : spreadB raws true (92 :: y :: l) = 92 :: y :: spreadB raws true l := by
  rw [spreadB]
theorem hexD_ne (n : Nat) (h : n < 16) : hexD n ≠ 34 ∧ hexD n ≠ 92 := by
  have := hexD_toNat n h
  constructor
  · intro e
    rw [e] at this
    split at this <;> simp at this <;> omega
  · intro e
    rw [e] at this
    split at this <;> simp at this <;> omega
theorem spread_esc (raws : List Int) : ∀ (p l : Bs), spreadB raws true (esc p ++ l) = esc p ++ spreadB raws true l
  | [], _ => rfl
  | x :: p, l => by
    have hx := x.toNat_lt
    simp only [esc, List.cons_append]
    rw [spread_bs]
    have := spread_in raws [hexD (x.toNat / 16), hexD (x.toNat % 16)] (esc p ++ l) (by
      intro y hy
      simp only [List.mem_cons, List.not_mem_nil, or_false] at hy
      rcases hy with h | h
      · rw [h]; exact hexD_ne _ (by omega)
      · rw [h]; exact hexD_ne _ (by omega))
    simp only [List.cons_append, List.nil_append] at this
    rw [this, spread_esc raws p l]
theorem big_bytes (l : Bs) : ∀ k, 1 < chr l → k < chr l → 128 ≤ ch l k := by
  intro k h1 hk
  have hc := chr_ch l
  generalize chr l = n at *
  split at hc
  · omega
  · split at hc
    · subst hc
      match k, hk with
      | 0, _ => omega
      | 1, _ => omega
    · split at hc
      · subst hc
        match k, hk with
        | 0, _ => omega
        | 1, _ => omega
        | 2, _ => omega
      · split at hc
        · subst hc
          match k, hk with
          | 0, _ => omega
          | 1, _ => omega
          | 2, _ => omega
          | 3, _ => omega
        · omega
theorem spread_piece (raws : List Int) {l : Bs} (hl : l ≠ []) (r : Bs) : spreadB raws true (qpiece (l.take (wide l)) ++ r) = qpiece (l.take (wide l)) ++ spreadB raws true r := by
  obtain ⟨x, t, rfl⟩ := List.exists_cons_of_ne_nil hl
  generalize hp : (x :: t).take (wide (x :: t)) = p
  unfold qpiece
  split
  · rename_i h
    rcases h with h | h
    · subst h; exact spread_bs raws 34 r
    · subst h; exact spread_bs raws 92 r
  · rename_i q1
    split
    · exact spread_bs raws 110 r
    · rename_i q2
      split
      · refine spread_in raws p r ?_
        by_cases h1 : wide (x :: t) = 1
        · rw [h1] at hp
          have hp : p = [x] := by rw [← hp]; rfl
          intro y hy
          rw [hp] at hy q1
          rw [List.mem_singleton.1 hy]
          refine ⟨fun e => q1 (.inl (by rw [e])), fun e => q1 (.inr (by rw [e]))⟩
        · have hw : wide (x :: t) = chr (x :: t) ∧ 1 < chr (x :: t) := by unfold wide at *; omega
          intro y hy
          rw [← hp] at hy
          obtain ⟨k, hk, he⟩ := List.mem_iff_getElem.1 hy
          rw [List.length_take] at hk
          rw [List.getElem_take] at he
          have hb := big_bytes (x :: t) k hw.2 (by omega)
          have hs : (x :: t)[k]? = some y := by rw [List.getElem?_eq_getElem (by omega), he]
          rw [ch_some hs] at hb
          constructor
          · rintro rfl; simp at hb
          · rintro rfl; simp at hb
      · exact spread_esc raws p r
theorem spread_qb (raws : List Int) : ∀ (n : Nat) (l r : Bs), l.length ≤ n → spreadB raws true (qb l ++ r) = qb l ++ spreadB raws true r
  | 0, l, r, h => by
    have : l = [] := List.eq_nil_of_length_eq_zero (by omega)
    subst this; rfl
  | n + 1, l, r, h => by
    by_cases hl : l = []
    · subst hl; rfl
    · have hw := wide_pos l
      rw [qb_cons l hl, List.append_assoc, spread_piece raws hl, spread_qb raws n (l.drop (wide l)) r (by
        have := (wide_le l hl).1
        rw [List.length_drop]; omega), List.append_assoc]
theorem Sp.word (t : Bs) : Sp false true (quoteB t) [(2, t)] := by
  intro raws
  refine ⟨raws, quoteB t, fun l => ?_, fun l _ => ?_, fun _ l => ?_⟩
  · rw [quoteB_eq, List.cons_append]
    have h1 : padB raws 34 = [] := rfl
    have h2 : padR raws 34 = raws := rfl
    rw [spreadB]
    rw [h1, h2]
    simp only [List.nil_append, decide_true, List.append_assoc, List.cons_append]
    rw [spread_qb raws _ t _ (Nat.le_refl _)]
    have : spreadB raws true (34 :: l) = 34 :: spreadB raws false l := by
      rw [spread_other (by decide)]; rfl
    rw [this]
    simp [signC]
  · rw [toks_word]; rfl
  · rw [quoteB_eq, List.cons_append]; exact Fence.cons (by decide)
theorem Sp.weak {n f : Bool} {s : Bs} {ts : List Tk} (h : Sp n f s ts) : Sp true false s ts := by
  intro raws
  obtain ⟨r1, u1, a1, b1, c1⟩ := h raws
  exact ⟨r1, u1, a1, fun l hl => b1 l fun _ => hl rfl, fun h => by cases h⟩
theorem Sp.strong {f : Bool} {s : Bs} {ts : List Tk} (h : Sp false f s ts) : Sp false false s ts := by
  intro raws
  obtain ⟨r1, u1, a1, b1, c1⟩ := h raws
  exact ⟨r1, u1, a1, b1, fun h => by cases h⟩
theorem Sp.L {c : UInt8} (hc : signC c = true) {l : List M} (h : ∀ x ∈ l, Sp true false (printM x) (ptoks x)) : Sp false true (printS l ++ [c]) (ptoksL l ++ [(3, [c])]) ∧ Sp false false (printL l ++ [c]) (ptoksL l ++ [(3, [c])]) := by
  have hS : ∀ l : List M, (∀ x ∈ l, Sp true false (printM x) (ptoks x)) → Sp false true (printS l ++ [c]) (ptoksL l ++ [(3, [c])]) := by
    intro l
    induction l with
    | nil => intro _; simpa [printS, ptoksL] using Sp.sign hc
    | cons x l ih =>
      intro h
      have h1 := (Sp.space.append (h x (by simp)) (fun h => by cases h)).append (ih fun y hy => h y (by simp [hy])) (fun _ => rfl)
      simpa [printS, ptoksL] using h1
  refine ⟨hS l h, ?_⟩
  cases l with
  | nil => simpa [printL, ptoksL] using (Sp.sign hc).strong
  | cons x l =>
    have h1 := (h x (by simp)).append (hS l fun y hy => h y (by simp [hy])) (fun _ => rfl)
    simpa [printL, ptoksL] using h1
theorem Sp.VC : ∀ (l : List M), (∀ x ∈ l, Sp true false (printM x) (ptoks x)) → Sp false true (printV l ++ [125]) (ptoksV l ++ [(3, [125])]) ∧ Sp false true (printC l ++ [125]) (ptoksC l ++ [(3, [125])])
  | [], _ => by simpa [printV, printC, ptoksV, ptoksC] using Sp.sign (x := 125) (by decide)
  | x :: l, h => by
    obtain ⟨v, c⟩ := Sp.VC l fun y hy => h y (by simp [hy])
    have a1 := (((Sp.sign (x := 58) (by decide)).append Sp.space (fun h => by cases h)).append (h x (by simp)) (fun h => by cases h)).append c (fun _ => rfl)
    have a2 := (((Sp.sign (x := 44) (by decide)).append Sp.space (fun h => by cases h)).append (h x (by simp)) (fun h => by cases h)).append v (fun _ => rfl)
    exact ⟨by simpa [printV, ptoksV] using a1, by simpa [printC, ptoksC] using a2⟩
theorem Sp.P {l : List M} (h : ∀ x ∈ l, Sp true false (printM x) (ptoks x)) : Sp false false (printP l ++ [125]) (ptoksP l ++ [(3, [125])]) := by
  cases l with
  | nil => simpa [printP, ptoksP] using (Sp.sign (x := 125) (by decide)).strong
  | cons x l =>
    have h1 := (h x (by simp)).append (Sp.VC l fun y hy => h y (by simp [hy])).1 (fun _ => rfl)
    simpa [printP, ptoksP] using h1
theorem simple_spread {k : Int} {n : Nat} {t : Bs} (ht : k = 14 ∨ k = 17 → t ≠ []) : Sp true false (simpleB k n t) [simpleT k n t] := by
  unfold simpleT
  split
  · rename_i h
    have e : simpleB k n t = quoteB t := by
      unfold simpleB
      rw [if_neg (by omega), if_neg (by omega), if_neg (by omega), if_neg (by omega), if_pos h]
    rw [e]; exact (Sp.word t).weak
  · rename_i h
    obtain ⟨g1, g2⟩ := simple_name (n := n) ht h
    exact Sp.name g1 g2
theorem spread_print : ∀ (m : M) (d : Nat), m.check d = 0 → Sp true false (printM m) (ptoks m) := by
  refine M.ind fun k n t e l ih => ?_
  intro d hc
  rw [M.check_iff] at hc
  obtain ⟨h1, h2⟩ := hc
  obtain ⟨k0, k1, _, _, _, htx, _, ha, _⟩ := own_ok h1
  have hl : ∀ x ∈ l, Sp true false (printM x) (ptoks x) := fun x hx => ih x hx (d + 1) (h2 x hx)
  simp only [M.k] at k0 k1 ha
  unfold printM ptoks
  split
  · exact Sp.name (nameK_name 0 (by decide) (by decide)).1 (nameK_name 0 (by decide) (by decide)).2
  split
  · split
    · exact Sp.name (n := [116, 114, 117, 101]) (by decide) (by decide)
    · exact Sp.name (n := [102, 97, 108, 115, 101]) (by decide) (by decide)
  split
  · exact (Sp.word t).weak
  split
  · exact ((Sp.sign (x := 91) (by decide)).append (Sp.L (c := 93) (by decide) hl).2 (fun h => by cases h)).weak
  split
  · exact ((Sp.sign (x := 123) (by decide)).append (Sp.P hl) (fun h => by cases h)).weak
  split
  · rename_i hk
    have ha := ha hk
    simp only [arrOk, M.e, Bool.and_eq_true, decide_eq_true_eq] at ha
    obtain ⟨⟨e0, e1⟩, _⟩ := ha
    have e0 := of_decide_eq_true e0
    have e1 := of_decide_eq_true e1
    have hn := nameK_name e (by omega) (by omega)
    have a1 := (((((Sp.name (n := [97, 114, 114, 97, 121]) (by decide) (by decide)).append Sp.space (fun _ => rfl)).append (Sp.name hn.1 hn.2) (fun h => by cases h)).append Sp.space (fun _ => rfl)).append (Sp.sign (x := 91) (by decide)) (fun h => by cases h)).append (Sp.L (c := 93) (by decide) hl).2 (fun h => by cases h)
    simpa using a1.weak
  split
  · exact ((Sp.sign (x := 40) (by decide)).append (Sp.L (c := 41) (by decide) hl).2 (fun h => by cases h)).weak
  · have hn := nameK_name k k0 k1
    have ht : k = 14 ∨ k = 17 → t ≠ [] := by
      intro h e
      rw [M.txt_mk] at htx
      rw [if_pos h, e] at htx
      exact absurd htx (by decide)
    have a1 := ((Sp.name hn.1 hn.2).append Sp.space (fun _ => rfl)).append (simple_spread (n := n) ht) (fun h => by cases h)
    simpa using a1
end Go.Note
namespace Go.Note
open Go
set_option linter.unusedVariables false
def endB : Bs := [35, 32, 116, 104, 101, 32, 101, 110, 100]
theorem endB_toks : toks endB = [] := by decide +kernel
theorem fence_end (j : Int) : Fence (blankB j ++ endB) := by
  rcases blank_cases j with h | h | h | h | h | h | h <;> (rw [h]; exact Fence.cons (by decide))
theorem parse_toks {s : Bs} {m : M} (hf : m.fits) (hc : m.check 1 = 0) (hl : s.length ≤ 1048576) (ht : toks s = ptoks m) : parseB s = .ok m 0 := by
  obtain ⟨b, b1, b2, b3⟩ := back_all m hf 32 s 0 [] (by omega) (by simpa using hc) (by omega) (by
    rw [List.drop_zero, ht]; simp)
  unfold parseB
  rw [if_neg (by omega), b2]
  rw [toks_next _ b1] at b3
  simp only
  split at b3
  · rename_i h0
    rw [if_neg (by simp [h0])]
  · cases b3
theorem parse_spread {m : M} (hf : m.fits) (hc : m.check 1 = 0) (raws : List Int) (i j : Int) (hl : (blankB i ++ spreadB raws false (printM m) ++ blankB j ++ endB).length ≤ 1048576) : parseB (blankB i ++ spreadB raws false (printM m) ++ blankB j ++ endB) = .ok m 0 := by
  refine parse_toks hf hc hl ?_
  obtain ⟨raws', s', h1, h2, h3⟩ := spread_print m 1 hc raws
  have e := h1 []
  rw [List.append_nil, spreadB, List.append_nil] at e
  rw [e, List.append_assoc, List.append_assoc, toks_blankB, h2 _ (fun _ => fence_end j), toks_blankB, endB_toks, List.append_nil]
theorem blank_len (n : Int) : (blankB n).length ≤ 13 := by
  rcases blank_cases n with h | h | h | h | h | h | h <;> (rw [h]; decide)
theorem pad_len (raws : List Int) (x : UInt8) : (padB raws x).length ≤ 13 := by
  unfold padB
  split
  · split
    · exact Nat.zero_le _
    · exact blank_len _
  · exact Nat.zero_le _
theorem spread_len : ∀ (n : Nat) (l : Bs), l.length ≤ n → ∀ (raws : List Int) (q : Bool), (spreadB raws q l).length ≤ 27 * l.length
  | _, [], _, raws, q => by cases q <;> simp [spreadB]
  | 0, _ :: _, h, _, _ => by simp at h
  | n + 1, x :: l, h, raws, false => by
    simp only [List.length_cons] at h
    have ih := spread_len n l (by omega) (padR raws x) (decide (x = 34))
    have hp := pad_len raws x
    simp only [spreadB, List.length_append, List.length_cons]
    have : (if signC x = true then padB raws x else []).length ≤ 13 := by split; exact hp; exact Nat.zero_le _
    omega
  | n + 1, x :: l, h, raws, true => by
    simp only [List.length_cons] at h
    by_cases hx : x = 92
    · subst hx
      cases l with
      | nil => simp [spreadB]
      | cons y l =>
        simp only [List.length_cons] at h
        have ih := spread_len n l (by omega) raws true
        simp only [spreadB, List.length_cons]; omega
    · have ih := spread_len n l (by omega) raws (!decide (x = 34))
      have e : spreadB raws true (x :: l) = x :: spreadB raws (!decide (x = 34)) l := by
        rw [spreadB]
        intro _ _ h; exact absurd h hx
      rw [e]; simp only [List.length_cons]; omega
theorem spread_one {raws : List Int} {y : UInt8} {l : Bs} (h : ¬ (y = 92 ∧ l ≠ [])) : spreadB raws true (y :: l) = y :: spreadB raws (!decide (y = 34)) l := by
  by_cases hx : y = 92
  · have : l = [] := Classical.byContradiction fun e => h ⟨hx, e⟩
    subst this
    subst hx
    simp [spreadB]
  · rw [spreadB]
    intro _ _ h; exact absurd h hx
end Go.Note
namespace Go.Proofs.YtnacobknngidkaaGreatDoor
open Go Go.Sv Go.Note
set_option linter.unusedVariables false
attribute [local irreducible] Sif
set_option maxRecDepth 4000
theorem blank_ok {n : Int} {w : World} {K : Value → World → Prop} (hk : K (.string ⟨(blankB n).toArray⟩) w) : callP Tryz.prog 24 [.int .i64 n] w K := by
  apply ok_longshorelaw04_blank
  unfold wp_longshorelaw04_blank
  unfold blankB at hk
  simp only [intEq]
  refine ⟨by decide, ?_⟩
  refine Sif_cases (fun h => ?_) (fun h0 => Sif_cases (fun h => ?_) (fun h1 => Sif_cases (fun h => ?_) (fun h2 => Sif_cases (fun h => ?_) (fun h3 => Sif_cases (fun h => ?_) (fun h4 => Sif_cases (fun h => ?_) (fun h5 => ?_))))))
  · rw [if_pos (of_decide_eq_true h)] at hk; exact hk
  · rw [if_neg (of_decide_eq_false h0), if_pos (of_decide_eq_true h)] at hk; exact hk
  · rw [if_neg (of_decide_eq_false h0), if_neg (of_decide_eq_false h1), if_pos (of_decide_eq_true h)] at hk; exact hk
  · rw [if_neg (of_decide_eq_false h0), if_neg (of_decide_eq_false h1), if_neg (of_decide_eq_false h2), if_pos (of_decide_eq_true h)] at hk; exact hk
  · rw [if_neg (of_decide_eq_false h0), if_neg (of_decide_eq_false h1), if_neg (of_decide_eq_false h2), if_neg (of_decide_eq_false h3), if_pos (of_decide_eq_true h)] at hk; exact hk
  · rw [if_neg (of_decide_eq_false h0), if_neg (of_decide_eq_false h1), if_neg (of_decide_eq_false h2), if_neg (of_decide_eq_false h3), if_neg (of_decide_eq_false h4), if_pos (of_decide_eq_true h)] at hk; exact hk
  · rw [if_neg (of_decide_eq_false h0), if_neg (of_decide_eq_false h1), if_neg (of_decide_eq_false h2), if_neg (of_decide_eq_false h3), if_neg (of_decide_eq_false h4), if_neg (of_decide_eq_false h5)] at hk; exact hk
theorem spread_ok {s : ByteArray} {p : Option Addr} {n c : Nat} {raws : List Int} (hs : s.size ≤ 2 ^ 40) (hn46 : n ≤ 2 ^ 46) {w : World} (hr : Rd w p n 1 (raws.map fun z => Value.int .i64 z)) (hn : raws.length = n) {K : Value → World → Prop}
    (hk : ∀ w', Ch (fun _ => False) w w' → K (.string ⟨(spreadB raws false s.data.toList).toArray⟩) w') : callP Tryz.prog 25 [.string s, .slice p n c] w K := by
  apply ok_longshorelaw04_spread
  unfold wp_longshorelaw04_spread
  have hsl := sl s
  refine ⟨fun m x b j i w1 => ∃ (o : Bs) (ji ii : Nat), x = ⟨o.toArray⟩ ∧ j = (ji : Int) ∧ i = (ii : Int) ∧ ji ≤ n ∧ ii ≤ s.size ∧ m = s.size - ii ∧ Ch (fun _ => False) w w1 ∧ o.length ≤ 27 * ii ∧ o ++ spreadB (raws.drop ji) b (s.data.toList.drop ii) = spreadB raws false s.data.toList,
    ⟨s.size, [], 0, 0, rfl, rfl, rfl, Nat.zero_le _, Nat.zero_le _, rfl, Ch.refl _ _, Nat.zero_le _, rfl⟩, ?_⟩
  rintro m x b j i w1 ⟨o, ji, ii, rfl, rfl, rfl, hji, hii, rfl, c1, hol, heq⟩
  refine Sif_cases (fun hlt => ?_) (fun hge => ?_)
  · have hil : ii < s.size := by have := of_decide_eq_true hlt; omega
    obtain ⟨y, hy⟩ : ∃ y, s.data.toList[ii]? = some y := ⟨_, List.getElem?_eq_getElem (by omega)⟩
    have hdr : s.data.toList.drop ii = y :: s.data.toList.drop (ii + 1) := by
      have hi := (List.getElem?_eq_some_iff.1 hy).1
      rw [List.drop_eq_getElem_cons hi]
      congr 1
      rw [List.getElem?_eq_getElem hi] at hy
      exact Option.some.inj hy
    rw [hdr] at heq
    have hb : byteAt s (Int.toNat (ii : Int)) = (y.toNat : Int) := by rw [Int.toNat_natCast]; exact byteAt_get hy
    have q91 : ((y.toNat : Int) == 91) = decide (y = 91) := byte_eq y 91 (by omega)
    have q93 : ((y.toNat : Int) == 93) = decide (y = 93) := byte_eq y 93 (by omega)
    have q123 : ((y.toNat : Int) == 123) = decide (y = 123) := byte_eq y 123 (by omega)
    have q125 : ((y.toNat : Int) == 125) = decide (y = 125) := byte_eq y 125 (by omega)
    have q40 : ((y.toNat : Int) == 40) = decide (y = 40) := byte_eq y 40 (by omega)
    have q41 : ((y.toNat : Int) == 41) = decide (y = 41) := byte_eq y 41 (by omega)
    have q58 : ((y.toNat : Int) == 58) = decide (y = 58) := byte_eq y 58 (by omega)
    have q44 : ((y.toNat : Int) == 44) = decide (y = 44) := byte_eq y 44 (by omega)
    have q32 : ((y.toNat : Int) == 32) = decide (y = 32) := byte_eq y 32 (by omega)
    have q34 : ((y.toNat : Int) == 34) = decide (y = 34) := byte_eq y 34 (by omega)
    have q92 : ((y.toNat : Int) == 92) = decide (y = 92) := byte_eq y 92 (by omega)
    refine ⟨fun x1 b1 j1 i1 w2 => ∃ (o1 : Bs) (ji1 ii1 : Nat), x1 = ⟨o1.toArray⟩ ∧ j1 = (ji1 : Int) ∧ i1 = (ii1 : Int) ∧ ji1 ≤ n ∧ ii ≤ ii1 ∧ ii1 < s.size ∧ Ch (fun _ => False) w w2 ∧ o1.length ≤ 27 * (ii1 + 1) ∧ o1 ++ spreadB (raws.drop ji1) b1 (s.data.toList.drop (ii1 + 1)) = spreadB raws false s.data.toList, ?_, ?_⟩
    · rintro x1 b1 j1 i1 w2 ⟨o1, ji1, ii1, rfl, rfl, rfl, q1, q2, q3, q4, q5, q6⟩
      simp only [nameI]
      refine ⟨s.size - (ii1 + 1), by omega, o1, ji1, ii1 + 1, rfl, rfl, ?_, q1, by omega, rfl, q4, q5, q6⟩
      rw [wrap_id (by omega) (by omega)]; omega
    refine ⟨by omega, by omega, ?_⟩
    simp only [nameI, hb]
    refine ⟨fun b1 w2 => b1 = signC y ∧ w2 = w1, ?_, ?_⟩
    rotate_left
    · rw [q91, q93, q123, q125, q40, q41, q58, q44]
      have hs8 : signC y = (decide (y = 91) || decide (y = 93) || decide (y = 123) || decide (y = 125) || decide (y = 40) || decide (y = 41) || decide (y = 58) || decide (y = 44)) := by
        unfold signC
        simp only [List.contains_eq_any_beq, List.any_cons, List.any_nil, Bool.or_false, Bool.or_assoc]
        rfl
      have ng : ∀ k : UInt8, signC k = true → (!decide (y = k)) = false → (true = signC y ∧ w1 = w1) := fun k hk h => by
        rw [Bool.not_eq_false'] at h
        rw [of_decide_eq_true h, hk]; exact ⟨rfl, rfl⟩
      refine Sif_cases (fun a1 => Sif_cases (fun a2 => Sif_cases (fun a3 => Sif_cases (fun a4 => Sif_cases (fun a5 => Sif_cases (fun a6 => Sif_cases (fun a7 => ⟨?_, rfl⟩) (ng 58 (by decide))) (ng 41 (by decide))) (ng 40 (by decide))) (ng 125 (by decide))) (ng 123 (by decide))) (ng 93 (by decide))) (ng 91 (by decide))
      rw [Bool.not_eq_true'] at a1 a2 a3 a4 a5 a6 a7
      rw [hs8, a1, a2, a3, a4, a5, a6, a7]; rfl
    rintro b1 w2 ⟨rfl, rfl⟩
    refine ⟨fun j1 x1 w3 => ∃ (pad : Bs) (ji1 : Nat), x1 = ⟨pad.toArray⟩ ∧ j1 = (ji1 : Int) ∧ ji1 ≤ n ∧ Ch (fun _ => False) w w3 ∧ (b = false → pad = padB (raws.drop ji) y ∧ raws.drop ji1 = padR (raws.drop ji) y) ∧ (b = true → pad = [] ∧ ji1 = ji), ?_, ?_⟩
    rotate_left
    · rw [q32]
      have no : (signC y || decide (y = 32)) = false → b = false → ∃ (pad : Bs) (ji1 : Nat), (ByteArray.mk (Array.mk []) : ByteArray) = ⟨pad.toArray⟩ ∧ (ji : Int) = (ji1 : Int) ∧ ji1 ≤ n ∧ Ch (fun _ => False) w w2 ∧ (b = false → pad = padB (raws.drop ji) y ∧ raws.drop ji1 = padR (raws.drop ji) y) ∧ (b = true → pad = [] ∧ ji1 = ji) := fun h hb => by
        refine ⟨[], ji, rfl, rfl, hji, c1, fun _ => ⟨?_, ?_⟩, fun h => ⟨rfl, rfl⟩⟩
        · unfold padB; rw [h]; rfl
        · unfold padR; rw [h]; rfl
      have no2 : ¬ ji < n → ∃ (pad : Bs) (ji1 : Nat), (ByteArray.mk (Array.mk []) : ByteArray) = ⟨pad.toArray⟩ ∧ (ji : Int) = (ji1 : Int) ∧ ji1 ≤ n ∧ Ch (fun _ => False) w w2 ∧ (b = false → pad = padB (raws.drop ji) y ∧ raws.drop ji1 = padR (raws.drop ji) y) ∧ (b = true → pad = [] ∧ ji1 = ji) := fun h => by
        refine ⟨[], ji, rfl, rfl, hji, c1, fun _ => ?_, fun h => ⟨rfl, rfl⟩⟩
        rw [List.drop_of_length_le (by omega)]
        unfold padB padR
        split <;> exact ⟨rfl, rfl⟩
      have yes : ji < n → (signC y || decide (y = 32)) = true → b = false → ∃ z bk off, p = some ⟨bk, off, none⟩ ∧ w2.cell? ⟨bk, off + ji, none⟩ = some (.int .i64 z) ∧ ∃ (pad : Bs) (ji1 : Nat), (⟨(blankB z).toArray⟩ : ByteArray) = ⟨pad.toArray⟩ ∧ IntKind.wrap .i64 ((ji : Int) + 1) = (ji1 : Int) ∧ ji1 ≤ n ∧ Ch (fun _ => False) w w2 ∧ (b = false → pad = padB (raws.drop ji) y ∧ raws.drop ji1 = padR (raws.drop ji) y) ∧ (b = true → pad = [] ∧ ji1 = ji) := fun hjn h hb => by
        obtain ⟨bk, off, hp, hcell⟩ := (hr.ch c1 (fun _ _ _ h => h)).cell (i := ji) (by omega)
        have hz : raws[ji]? = some (raws[ji]'(by omega)) := List.getElem?_eq_getElem _
        rw [List.getElem?_map, hz] at hcell
        have hd : raws.drop ji = raws[ji]'(by omega) :: raws.drop (ji + 1) := List.drop_eq_getElem_cons (by omega)
        refine ⟨_, bk, off, hp, hcell, _, ji + 1, rfl, ?_, hjn, c1, fun _ => ⟨?_, ?_⟩, fun h => by rw [hb] at h; cases h⟩
        · rw [wrap_id (by omega) (by omega)]; omega
        · unfold padB; rw [h, hd]; rfl
        · unfold padR; rw [h, hd]; rfl
      refine Sif_cases (fun hb0 => ?_) (fun hb1 => ?_)
      · have hb0 : b = false := by rw [Bool.not_eq_true'] at hb0; exact hb0
        refine Sif_cases (fun hs0 => ?_) (fun hs1 => ?_)
        · rw [Bool.not_eq_true'] at hs0
          refine Sif_cases (fun h32 => ?_) (fun h32 => no (by rw [hs0, h32]; rfl) hb0)
          refine Sif_cases (fun hj => ?_) (fun hj => no2 (by have := of_decide_eq_false hj; omega))
          have hjn : ji < n := by have := of_decide_eq_true hj; omega
          obtain ⟨z, bk, off, rfl, hcell, rest⟩ := yes hjn (by rw [h32, Bool.or_true]) hb0
          refine ⟨by omega, by omega, ?_⟩
          simp only [nn, add_at, Int.toNat_natCast, Nat.mul_one]
          exact ⟨z, hcell, blank_ok ⟨_, rfl, rest⟩⟩
        · rw [Bool.not_eq_false'] at hs1
          refine Sif_cases (fun hj => ?_) (fun hj => no2 (by have := of_decide_eq_false hj; omega))
          have hjn : ji < n := by have := of_decide_eq_true hj; omega
          obtain ⟨z, bk, off, rfl, hcell, rest⟩ := yes hjn (by rw [hs1, Bool.true_or]) hb0
          refine ⟨by omega, by omega, ?_⟩
          simp only [nn, add_at, Int.toNat_natCast, Nat.mul_one]
          exact ⟨z, hcell, blank_ok ⟨_, rfl, rest⟩⟩
      · rw [Bool.not_eq_false'] at hb1
        exact ⟨[], ji, rfl, rfl, hji, c1, (fun h => by rw [hb1] at h; cases h), fun _ => ⟨rfl, rfl⟩⟩
    rintro j1 x1 w3 ⟨pad, ji1, rfl, rfl, hj1, c3, hp0, hp1⟩
    have hpl : pad.length ≤ 13 := by
      cases b
      · rw [(hp0 rfl).1]; exact pad_len _ _
      · rw [(hp1 rfl).1]; exact Nat.zero_le _
    have hw : IntKind.wrap IntKind.i64 ((ii : Int) + 1) = ((ii + 1 : Nat) : Int) := wrap_id (by omega) (by omega)
    rw [hw]
    simp only [Int.toNat_natCast]
    rw [ext1 hy, str_app, str_app, str_size o, str_size pad, str_size (o ++ pad), str_size [y]]
    refine ⟨by omega, by omega, by omega, by omega, by omega, by simp only [List.length_append, List.length_cons, List.length_nil]; omega, ?_⟩
    refine ⟨fun x2 w4 => ∃ o2 : Bs, x2 = ⟨o2.toArray⟩ ∧ w4 = w3 ∧ o2.length ≤ 27 * (ii + 1) ∧ o2 = o ++ pad ++ [y] ++ (if b = false ∧ signC y = true then pad else []), ?_, ?_⟩
    rotate_left
    · refine Sif_cases (fun hb0 => ?_) (fun hb1 => ?_)
      · have hb0 : b = false := by rw [Bool.not_eq_true'] at hb0; exact hb0
        refine Sif_cases (fun hs1 => ?_) (fun hs0 => ?_)
        · rw [str_app, str_size]
          refine ⟨by simp only [List.length_append, List.length_cons, List.length_nil]; omega, _, rfl, rfl, ?_, ?_⟩
          · simp only [List.length_append, List.length_cons, List.length_nil]; omega
          · rw [if_pos ⟨hb0, hs1⟩]
        · refine ⟨_, rfl, rfl, ?_, ?_⟩
          · simp only [List.length_append, List.length_cons, List.length_nil]; omega
          · rw [if_neg (fun h => by rw [hs0] at h; cases h.2), List.append_nil]
      · rw [Bool.not_eq_false'] at hb1
        refine ⟨_, rfl, rfl, ?_, ?_⟩
        · simp only [List.length_append, List.length_cons, List.length_nil]; omega
        · rw [if_neg (fun h => by rw [hb1] at h; cases h.1), List.append_nil]
    rintro x2 w4 ⟨o2, rfl, rfl, ho2, he2⟩
    have fin : ∀ bq, o2 ++ spreadB (raws.drop ji1) bq (s.data.toList.drop (ii + 1)) = spreadB raws false s.data.toList → ∃ (o1 : Bs) (ji2 ii1 : Nat), (⟨o2.toArray⟩ : ByteArray) = ⟨o1.toArray⟩ ∧ (ji1 : Int) = (ji2 : Int) ∧ (ii : Int) = (ii1 : Int) ∧ ji2 ≤ n ∧ ii ≤ ii1 ∧ ii1 < s.size ∧ Ch (fun _ => False) w w4 ∧ o1.length ≤ 27 * (ii1 + 1) ∧ o1 ++ spreadB (raws.drop ji2) bq (s.data.toList.drop (ii1 + 1)) = spreadB raws false s.data.toList :=
      fun bq h => ⟨o2, ji1, ii, rfl, rfl, rfl, hj1, Nat.le_refl _, hil, c3, ho2, h⟩
    rw [q92, q34]
    cases b with
    | false =>
      obtain ⟨g1, g2⟩ := hp0 rfl
      have hfin : o2 ++ spreadB (raws.drop ji1) (decide (y = 34)) (s.data.toList.drop (ii + 1)) = spreadB raws false s.data.toList := by
        rw [← heq, he2, spreadB, ← g1, g2]
        by_cases hs : signC y = true
        · rw [if_pos ⟨rfl, hs⟩, if_pos hs]; simp
        · rw [if_neg (fun h => hs h.2), if_neg hs]; simp
      refine Sif_false ?_
      refine Sif_cases (fun h => fin _ ?_) (fun h => fin _ ?_) <;> (rw [h] at hfin; exact hfin)
    | true =>
      obtain ⟨rfl, rfl⟩ := hp1 rfl
      rw [if_neg (fun h => by cases h.1), List.append_nil, List.append_nil] at he2
      have one : ¬ (y = 92 ∧ ii + 1 < s.size) → o2 ++ spreadB (raws.drop ji1) (!decide (y = 34)) (s.data.toList.drop (ii + 1)) = spreadB raws false s.data.toList := fun h => by
        rw [← heq, he2, spread_one (fun e => h ⟨e.1, ?_⟩)]
        · simp
        · have := e.2
          by_cases h1 : ii + 1 < s.size
          · exact h1
          · rw [List.drop_of_length_le (by omega)] at this; exact absurd rfl this
      refine Sif_true ?_
      refine Sif_cases (fun h92 => ?_) (fun h92 => ?_)
      · have h92 := of_decide_eq_true h92
        refine Sif_cases (fun hl1 => ?_) (fun hl1 => ?_)
        · have hl1 : ii + 1 < s.size := by have := of_decide_eq_true hl1; omega
          obtain ⟨y', hy'⟩ : ∃ y', s.data.toList[ii + 1]? = some y' := ⟨_, List.getElem?_eq_getElem (by omega)⟩
          have hw2 : IntKind.wrap IntKind.i64 (((ii + 1 : Nat) : Int) + 1) = ((ii + 1 + 1 : Nat) : Int) := wrap_id (by omega) (by omega)
          rw [hw2, Int.toNat_natCast, ext1 hy', str_app, str_size o2, str_size [y']]
          refine ⟨by omega, by omega, by omega, by omega, by simp only [List.length_cons, List.length_nil]; omega, _, ji1, ii + 1, rfl, rfl, rfl, hj1, by omega, hl1, c3, ?_, ?_⟩
          · simp only [List.length_append, List.length_cons, List.length_nil]; omega
          · have hd2 : s.data.toList.drop (ii + 1) = y' :: s.data.toList.drop (ii + 1 + 1) := by
              have hi := (List.getElem?_eq_some_iff.1 hy').1
              rw [List.drop_eq_getElem_cons hi]
              congr 1
              rw [List.getElem?_eq_getElem hi] at hy'
              exact Option.some.inj hy'
            rw [← heq, he2, hd2, h92, spreadB]; simp
        · have hl1 : ¬ ii + 1 < s.size := by have := of_decide_eq_false hl1; omega
          have hfin := one fun h => hl1 h.2
          refine Sif_cases (fun h => fin _ ?_) (fun h => fin _ ?_) <;> (rw [h] at hfin; exact hfin)
      · have h92 := of_decide_eq_false h92
        have hfin := one fun h => h92 h.1
        refine Sif_cases (fun h => fin _ ?_) (fun h => fin _ ?_) <;> (rw [h] at hfin; exact hfin)
  · have hil : ii = s.size := by have := of_decide_eq_false hge; omega
    rw [hil, List.drop_of_length_le (l := s.data.toList) (by omega)] at heq
    have : spreadB (raws.drop ji) b [] = [] := by cases b <;> simp [spreadB]
    rw [this, List.append_nil] at heq
    rw [heq]
    exact hk w1 c1
theorem blanks_law {Q : Nat → Prop} {w : World} {x : MV} (hL : LW w) (hx : VR Q w x) (hf : x.m.fits) (hz : x.m.sz ≤ 2 ^ 37) {p : Option Addr} {n c : Nat} {raws : List Int} {i j : Int} (hn46 : n ≤ 2 ^ 46) (hr : Rd w p n 1 (raws.map fun z => Value.int .i64 z)) (hn : raws.length = n)
    {K : Value → World → Prop} (hk : ∀ w', Ch (fun _ => False) w w' → K (.bool true) w') : callP Tryz.prog 9 [x.v, .slice p n c, .int .i64 i, .int .i64 j] w K := by
  obtain ⟨k, n0, t, s, e, l⟩ := x
  apply ok_longshorelaw04_NoteBlanks
  unfold wp_longshorelaw04_NoteBlanks
  refine boxV (x := .mk k n0 t s e l) fun w1 b1 a1 c1 z1 => ?_
  refine ldK b1 ?_
  rw [vv]
  have hsw := sz_wt' (MV.mk k n0 t s e l).m
  refine Great_ok (hx.ch0 c1) (by omega) fun w2 c2 => ⟨_, rfl, ?_⟩
  refine live_ok ((hL.ch0 c1).ch0 c2) fun w3 c3 => ⟨_, rfl, ?_⟩
  have c13 := (c1.trans' c2).trans' c3
  refine ⟨fun w4 => w4 = w3, ?_, ?_⟩
  rotate_left
  · exact Sif_cases (fun h => Sif_false rfl) fun h => hk w3 c13
  rintro w4 rfl
  have b14 := ((c2.trans' c3).blk (blk_lt b1) id).trans b1
  refine ldK b14 ?_
  rw [vv]
  refine print_ok (hL.ch0 c13) (hx.ch0 c13) hf hz fun w5 c5 => ⟨_, _, rfl, ?_⟩
  have c15 := c13.trans' c5
  rw [ne0, eq0, str_size, show (ByteArray.mk (Array.mk [])) = ⟨([] : Bs).toArray⟩ by rfl, bs_eq]
  refine ⟨fun w6 => w6 = w5 ∧ (PrR (MV.mk k n0 t s e l).m).2 = 0 ∧ (PrR (MV.mk k n0 t s e l).m).1.length ≤ 20000, ?_, ?_⟩
  rotate_left
  · refine Sif_cases (fun h => ?_) (fun h => ?_)
    · rw [Bool.not_eq_true'] at h
      have h0 : (PrR (MV.mk k n0 t s e l).m).2 = 0 := by have := of_decide_eq_false h; omega
      refine Sif_cases (fun h2 => ?_) (fun h2 => ⟨rfl, h0, by have := of_decide_eq_false h2; omega⟩)
      rw [decide_eq_true h0]
      exact Sif_cases (fun _ => hk w5 c15) (fun _ => hk w5 c15)
    · rw [Bool.not_eq_false'] at h
      have h0 := of_decide_eq_true h
      rw [PrR_some h0]
      exact Sif_false (hk w5 c15)
  rintro w6 ⟨rfl, h0, h2⟩
  obtain ⟨p1, p2, p3, p4⟩ := PrR_zero hf h0
  rw [p1] at h2 ⊢
  refine blank_ok ⟨_, rfl, blank_ok ⟨_, rfl, ?_⟩⟩
  refine spread_ok (by rw [str_size]; omega) hn46 (hr.ch c15 fun _ _ _ h => h) hn fun w7 c7 => ⟨_, rfl, ?_⟩
  rw [str_list]
  have l1 := blank_len i
  have l2 := blank_len j
  have l3 := spread_len _ (printM (MV.mk k n0 t s e l).m) (Nat.le_refl _) raws false
  have hps := parse_spread hf p3 raws i j (by rw [List.length_append, List.length_append, List.length_append]; show _ + _ + _ + 9 ≤ _; omega)
  rw [str_app, str_app, show (ByteArray.mk (Array.mk [(35 : UInt8), 32, 116, 104, 101, 32, 101, 110, 100])) = ⟨endB.toArray⟩ by rfl, str_app]
  have sz3 : ∀ a b : Bs, (((⟨a.toArray⟩ : ByteArray).size + (⟨b.toArray⟩ : ByteArray).size : Nat) : Int) = ((a.length + b.length : Nat) : Int) := fun a b => by rw [str_size a, str_size b]
  refine ⟨by rw [sz3]; omega, by rw [sz3, List.length_append]; omega, by rw [str_size (blankB i ++ spreadB raws false (printM (MV.mk k n0 t s e l).m) ++ blankB j)]; simp only [List.length_append]; omega, ?_⟩
  have c17 := c15.trans' c7
  refine Parse_ok (by rw [str_size, List.length_append, List.length_append, List.length_append]; show _ + _ + _ + 9 ≤ _; omega) (hL.ch0 c17) fun x' w8 hx' ho hB c8 => ?_
  rw [str_list, parse_of hps] at hx' ⊢
  refine tupV ?_
  refine nbx rfl fun w9 b9 c9 z9 => ?_
  have c89 := c8.trans' c9
  have b19 := (((c5.trans' c7).trans' c89).blk (blk_lt b14) id).trans b14
  refine ldK b19 (ldK b9 ?_)
  rw [vv, vv]
  refine rEqual_ok _ _ (hx.ch0 (c17.trans' c89)) (ho.vr'.ch0 c9) fun w10 c10 => ⟨_, rfl, ?_⟩
  refine Sif_true_of (decide_eq_true hx'.symm) (Sif_true_of rfl ?_)
  exact hk w10 ((c17.trans' c89).trans' c10)
end Go.Proofs.YtnacobknngidkaaGreatDoor
namespace Go.Proofs.YtnacobknngidkaaGreatDoor
open Go Go.Sv Go.Note Go.ChangeShapes
set_option linter.unusedVariables false
set_option maxRecDepth 100000
theorem noteBlanks_lifted (os : Os) (started : os.Started) (H : Type) (enc : TypeId × Value → H) (F : Stop.Interp) :
    ReturnsInHanded {} Tryz.checked os 9 .any ((Rows.OpenSpec.upto Rows.noteBlanksSpec).preRow enc Tryz.prog Tryz.f9 Rows.noteBlanksUptoRow.domain false Rows.noteBlanksUptoRow.laid) (((Rows.OpenSpec.upto Rows.noteBlanksSpec).at F).post enc Tryz.prog Tryz.f9 false true false false) := by
  refine lift_laidT (C := Tryz.checked) (tb := 4) (k := Rows.uptoSmall) started (byBulk Tryz.prog H) rfl byBulk_of own laidOut (by kernel_rfl) Tryz.func9
    (witness_row_at (enc := enc) (C := Tryz.checked) false (nW os) #[.agg #[.int .i64 0, .int .u64 0, .string ⟨#[]⟩, .slice none 0 0, .int .i64 0], .slice none 0 0, .int .i64 0, .int .i64 0] rfl (by kernel_rfl) (by kernel_rfl) (by kernel_rfl)
      (OpenSpec.preRow_of_cond 8 (x := ([.agg [.lit (.int .i64 0), .lit (.int .u64 0), .lit (.string []), .nil, .lit (.int .i64 0)], .nil, .lit (.int .i64 0), .lit (.int .i64 0)], [], [])) (by kernel_rfl) (by kernel_rfl) (fun k hk => by cases hk; kernel_rfl) (by kernel_rfl) (laidMetH_of_parts (laidMet_of_run' 8 (by kernel_rfl) (by kernel_rfl)) (by kernel_rfl))))
    rfl (fun ds h => ?_) rfl Tryz.underlying4 (by kernel_rfl) fun W args ds ps hLaid hG hT hin => ?_
  · match ds, h with
    | [d0, d1, d2, d3], _ => rfl
  · generalize args.toList = vs at hin hT ⊢
    rw [Tryz.params9] at hin hT
    have hL := lw_of_laid hLaid
    match vs, hin, hT with
    | [v0, v1, v2, v3], ⟨i0, i1, i2, i3, _⟩, hT =>
      obtain ⟨d0, ds0, p0, ps0, hds0, hd0, hT0⟩ := trodAll_cons hT
      obtain ⟨x0, rfl, h01, h02, h03⟩ := val_arg hd0 i0 (hG d0 (by simp [hds0]) 0)
      obtain ⟨p, n, c, raws, rfl, g1, g2, g3⟩ := ints_arg i1
      obtain ⟨a, rfl, _, _⟩ := int_arg i2
      obtain ⟨b, rfl, _, _⟩ := int_arg i3
      exact blanks_law hL h01 h02 (by omega) (by omega) g3 g1 fun w' hc => ⟨rfl, hc⟩
namespace noteBlanks
theorem over : Rows.noteBlanksUptoRow.holds Tryz.pinned (Rows.OpenSpec.upto Rows.noteBlanksSpec) :=
  OpenClaim.holds_of_cond 9 Tryz.f9 rfl rfl rfl rfl rfl rfl rfl ⟨rfl, rfl, rfl, rfl, rfl⟩ rfl rfl rfl rfl rfl (by kernel_rfl) Tryz.func9 (by kernel_rfl)
    (of_decide_eq_true (by kernel_rfl)) (by unfold Func.isWrapper; first | (rw [if_pos (by decide +kernel)]; kernel_rfl) | (rw [if_neg (by decide +kernel)]; exact ⟨rfl, rfl⟩))
    (fun os started H enc _ F => by rw [OpenClaim.pre_eq_preRow]; exact noteBlanks_lifted os started H enc F)
theorem plain (f : FuncId) (fn : Func) (hf : Tryz.pinned.checked.prog.funcNamed "longshore/longshorelaw04.NoteBlanks" = some f) (hfn : Tryz.pinned.checked.prog.funcs[f]? = some fn) :
    true = Tryz.pinned.checked.prog.looks [] ∧ ∀ (j : Nat) t, fn.params[j]? = some t → Tryz.pinned.checked.prog.wantsStandIn t = false := by
  obtain rfl : f = 9 := Option.some.inj ((show Tryz.prog.funcNamed "longshore/longshorelaw04.NoteBlanks" = some 9 by kernel_rfl).symm.trans hf) |>.symm
  obtain rfl : fn = Tryz.f9 := (Option.some.inj (Tryz.func9.symm.trans hfn)).symm
  have hall : Tryz.f9.params.toList.all (fun t => Tryz.prog.wantsStandIn t == false) = true := by kernel_rfl
  refine ⟨by kernel_rfl, fun j t ht => ?_⟩
  have := List.all_eq_true.1 hall t (Array.mem_toList_iff.2 (Array.mem_of_getElem? ht))
  exact eq_of_beq this
theorem proved : Rows.NoteBlanksUptoCardSaid :=
  Claim7.holds_tied_plain_at .later [] _ _ _ _ over (fun _ h => by cases h) (by kernel_rfl) (fun _ h => by cases h) noteBlanksUpto_row_tie rfl ⟨rfl, rfl⟩ (by kernel_rfl) rfl plain (by kernel_rfl)
end noteBlanks
#print axioms noteBlanks.proved
end Go.Proofs.YtnacobknngidkaaGreatDoor
