/-
  The program's values: Equal. How two values stand to one another, in plain Lean. No program in sight. The program's reader: elem, number. The program's reader: elements, pairs. slices.SortFunc at rows of structs, in the words of the memory laws; calls that lay blocks and draw alone. Over every program. slices.SortFunc at rows of structs, where equals may differ; 'cmp' reads memory beside the row. Over every program. DERIVED: THE SHELF's CONTRACTS AT THIS DUMP, IN PLAIN WORDS (tools/lay-plain.mjs out of 'YtnacobknngidkaaGreatDoorShelf3.lean', which tools/lay-shelf.mjs wrote): THE SAME DECLARATIONS UNDER THE SAME NAMES: 'import', 'namespace', 'open', 'def', 'theorem' AND NOTHING ELSE: no command of the shelf's: FOR A HAND-IN. Each laying: the table of numbers ('.._ren') and one theorem, a field a fact of the dump's own or the kernel's comparison; each contract: ONE APPLICATION. The program's values: Order. The program's values: which parts may be a map's (isMap), an array's (isArray). The program's reader: value.
-/
import Derived.Test.YtnacobknngidkaaGreatDoorPz14
import Derived.Lib.Small
import Derived.Lib.Bytealg
import Derived.Sort.Statements
import Derived.Shelf.SlSortCmp.NoneTotal
import Derived.Test.YtnacobknngidkaaGreatDoorProg
set_option linter.unusedVariables false
set_option linter.unusedSimpArgs false
namespace Go.Proofs.YtnacobknngidkaaGreatDoor
open Go Go.Sv Go.Note
set_option linter.unusedVariables false
attribute [local irreducible] Sif
set_option maxRecDepth 4000
def VRow (Q : Nat → Prop) (w : World) (p : Option Addr) (n : Nat) (l : List MV) : Prop := l.length = n ∧ n ≤ 2 ^ 46 ∧ Rd w p n 5 (l.flatMap MV.g) ∧ (∀ a, p = some a → n * 5 ≠ 0 → Q a.block) ∧ ∀ x ∈ l, VR Q w x
theorem VR.row {Q : Nat → Prop} {w : World} {x : MV} (h : VR Q w x) : VRow Q w x.s.p x.s.n x.l := h.inv
theorem VRow.ch {Q S : Nat → Prop} {w w' : World} {p : Option Addr} {n : Nat} {l : List MV} (h : VRow Q w p n l) (hc : Ch S w w') (hn : ∀ b, Q b → ¬ S b) : VRow Q w' p n l :=
  ⟨h.1, h.2.1, h.2.2.1.ch hc fun a ha h0 => hn _ (h.2.2.2.1 a ha h0), h.2.2.2.1, fun x hx => VR.ch hc hn x (h.2.2.2.2 x hx)⟩
theorem VRow.ch0 {Q : Nat → Prop} {w w' : World} {p : Option Addr} {n : Nat} {l : List MV} (h : VRow Q w p n l) (hc : Ch (fun _ => False) w w') : VRow Q w' p n l := h.ch hc fun _ _ h => h
theorem VRow.at {Q : Nat → Prop} {w : World} {p : Option Addr} {n : Nat} {l : List MV} (h : VRow Q w p n l) {i : Nat} {y : MV} (hi : l[i]? = some y) : ∃ b o, p = some ⟨b, o, none⟩ ∧ Q b ∧ At w b (o + i * 5) y := by
  obtain ⟨h1, h2, h3, h4, h5⟩ := h
  obtain ⟨b, o, hp, ha⟩ := h3.at MV.glen hi (by decide)
  have hil : i < l.length := (List.getElem?_eq_some_iff.1 hi).1
  exact ⟨b, o, hp, h4 _ hp (by omega), ha⟩
theorem nbx {w : World} {zs : List Value} (hl : zs.length = 5) {x : MV} {t : TypeId} {K : Addr → World → Prop} (hk : ∀ w', blk w' w.heap.size = some x.g → Ch (fun _ => False) w w' → w'.heap.size = w.heap.size + 1 → K ⟨w.heap.size, 0, none⟩ w') :
    newB w zs t fun a w1 => Sv.st w1 (Addr.add a 0) (.int .i64 x.k) fun w2 => Sv.st w2 (Addr.add a 1) (.int .u64 (x.n : Int)) fun w3 => Sv.st w3 (Addr.add a 2) (.string ⟨x.t.toArray⟩) fun w4 => Sv.st w4 (Addr.add a 3) (.slice x.s.p x.s.n x.s.c) fun w5 => Sv.st w5 (Addr.add a 4) (.int .i64 x.e) fun w6 => K a w6 := by
  refine newB_blk fun w1 b1 c1 z1 => ?_
  simp only [add_at, Nat.zero_add]
  refine st5 b1 hl fun w2 b2 c2 z2 => hk w2 b2 (c1.trans c2 fun x hx h => by omega) (by omega)
theorem ldK {w : World} {k : Nat} {x : MV} {K : Int → Int → ByteArray → Option Addr → Nat → Nat → Int → Prop} (h : blk w k = some x.g) (hk : K x.k (x.n : Int) ⟨x.t.toArray⟩ x.s.p x.s.n x.s.c x.e) :
    ∃ n, w.cell? (Addr.add ⟨k, 0, none⟩ 0) = some (.int .i64 n) ∧ ∃ n1, w.cell? (Addr.add ⟨k, 0, none⟩ 1) = some (.int .u64 n1) ∧ ∃ s, w.cell? (Addr.add ⟨k, 0, none⟩ 2) = some (.string s) ∧ ∃ p n2 c, w.cell? (Addr.add ⟨k, 0, none⟩ 3) = some (.slice p n2 c) ∧ ∃ n3, w.cell? (Addr.add ⟨k, 0, none⟩ 4) = some (.int .i64 n3) ∧ K n n1 s p n2 c n3 := by
  cases x
  simp only [add_at, Nat.zero_add]
  exact ⟨_, cellK h 0 rfl, _, cellK h 1 rfl, _, cellK h 2 rfl, _, _, _, cellK h 3 rfl, _, cellK h 4 rfl, hk⟩
theorem ldR {w : World} {b o i : Nat} {x : MV} {K : Int → Int → ByteArray → Option Addr → Nat → Nat → Int → Prop} (h : At w b (o + i * 5) x) (hk : K x.k (x.n : Int) ⟨x.t.toArray⟩ x.s.p x.s.n x.s.c x.e) :
    ∃ n, w.cell? (Addr.add (Addr.add ⟨b, o, none⟩ (Int.toNat (i : Int) * 5)) 0) = some (.int .i64 n) ∧ ∃ n1, w.cell? (Addr.add (Addr.add ⟨b, o, none⟩ (Int.toNat (i : Int) * 5)) 1) = some (.int .u64 n1) ∧ ∃ s, w.cell? (Addr.add (Addr.add ⟨b, o, none⟩ (Int.toNat (i : Int) * 5)) 2) = some (.string s) ∧ ∃ p n2 c, w.cell? (Addr.add (Addr.add ⟨b, o, none⟩ (Int.toNat (i : Int) * 5)) 3) = some (.slice p n2 c) ∧ ∃ n3, w.cell? (Addr.add (Addr.add ⟨b, o, none⟩ (Int.toNat (i : Int) * 5)) 4) = some (.int .i64 n3) ∧ K n n1 s p n2 c n3 := by
  simp only [add_at, Int.toNat_natCast]
  exact rd5 h hk
theorem eqF_ok {Q Q' : Nat → Prop} {l l' : List MV} (ih : ∀ x ∈ l, ∀ (y : MV) {w : World} {K : Value → World → Prop}, VR Q w x → VR Q' w y → (∀ w', Ch (fun _ => False) w w' → K (.bool (decide (x.m = y.m))) w') → callP Tryz.prog 118 [x.v, y.v] w K)
    {w : World} {p p' : Option Addr} {n n' c c' : Nat} (h1 : VRow Q w p n l) (h2 : VRow Q' w p' n' l') {K : Value → World → Prop} (hk : ∀ w', Ch (fun _ => False) w w' → K (.bool (decide (l.map MV.m = l'.map MV.m))) w') :
    callP Tryz.prog 157 [.slice p n c, .slice p' n' c', .func (.func 118) #[] #[]] w K := by
  apply ok_slices_EqualFunc
  unfold wp_slices_EqualFunc
  have hl := h1.1
  have hl' := h2.1
  have hn46 := h1.2.1
  refine Sif_cases (fun h => ?_) (fun h => ?_)
  · rw [int_bne, Bool.not_eq_true'] at h
    have h := of_decide_eq_false h
    have := hk w (Ch.refl _ _)
    rw [decide_eq_false] at this
    · exact this
    · intro e
      have := (mL_eq.1 e).1
      omega
  · rw [int_bne, Bool.not_eq_false'] at h
    have hnn : n = n' := by have := of_decide_eq_true h; omega
    refine ⟨fun m i w1 => ∃ j : Nat, i = (j : Int) ∧ m = n - j ∧ j ≤ n ∧ Ch (fun _ => False) w w1 ∧ ∀ q, q < j → ∀ x y, l[q]? = some x → l'[q]? = some y → x.m = y.m, ⟨n, 0, rfl, rfl, Nat.zero_le _, Ch.refl _ _, fun q hq => by omega⟩, ?_⟩
    rintro m i w1 ⟨j, rfl, rfl, hj, c1, hall⟩
    refine Sif_cases (fun h => ?_) (fun h => ?_)
    · have hjl : j < n := by have := of_decide_eq_true h; omega
      obtain ⟨x, hxi⟩ : ∃ x, l[j]? = some x := ⟨l[j]'(by omega), List.getElem?_eq_getElem _⟩
      obtain ⟨y, hyi⟩ : ∃ y, l'[j]? = some y := ⟨l'[j]'(by omega), List.getElem?_eq_getElem _⟩
      obtain ⟨bx, ox, rfl, _, ax⟩ := (h1.ch0 c1).at hxi
      refine ⟨by omega, by omega, ?_⟩
      simp only [nn]
      refine ldR ax ?_
      refine nbx rfl fun w2 b2 c2 z2 => ?_
      obtain ⟨by', oy, rfl, _, ay⟩ := (h2.ch0 (c1.trans' c2)).at hyi
      refine ⟨by omega, by omega, ?_⟩
      simp only
      refine ldR ay ?_
      refine nbx rfl fun w3 b3 c3 z3 => ?_
      have b2' := (c3.blk (blk_lt b2) id).trans b2
      refine ldK b2' (ldK b3 ?_)
      have c13 := (c1.trans' c2).trans' c3
      rw [vv x, vv y]
      refine ⟨by kernel_rfl, ih x (List.mem_of_getElem? hxi) y ((h1.ch0 c13).2.2.2.2 x (List.mem_of_getElem? hxi)) ((h2.ch0 c13).2.2.2.2 y (List.mem_of_getElem? hyi)) fun w4 c4 => ⟨_, rfl, ?_⟩⟩
      refine Sif_cases (fun h => ?_) (fun h => ?_)
      · rw [Bool.not_eq_true'] at h
        have h := of_decide_eq_false h
        have := hk w4 (c13.trans' c4)
        rw [decide_eq_false] at this
        · exact this
        · intro e
          exact h ((mL_eq.1 e).2 j (by omega) x y hxi hyi)
      · rw [Bool.not_eq_false'] at h
        have hxy := of_decide_eq_true h
        rw [wrap_id (n := (j : Int) + 1) (by omega) (by omega)]
        refine ⟨n - (j + 1), by omega, j + 1, by omega, rfl, by omega, c13.trans' c4, fun q hq a b ha hb => ?_⟩
        by_cases hqj : q = j
        · subst hqj
          rw [hxi] at ha; rw [hyi] at hb
          cases ha; cases hb; exact hxy
        · exact hall q (by omega) a b ha hb
    · have hjl : j = n := by have := of_decide_eq_false h; omega
      have := hk w1 c1
      rw [decide_eq_true] at this
      · exact this
      · exact mL_eq.2 ⟨by omega, fun q hq => hall q (by omega)⟩
theorem vEqual_ok {Q Q' : Nat → Prop} : ∀ (x y : MV) {w : World} {K : Value → World → Prop}, VR Q w x → VR Q' w y → (∀ w', Ch (fun _ => False) w w' → K (.bool (decide (x.m = y.m))) w') →
    callP Tryz.prog 118 [x.v, y.v] w K := by
  refine MV.ind fun k n t s e l ih => ?_
  rintro ⟨k', n', t', s', e', l'⟩ w K hx hy hk
  apply ok_value_Equal
  unfold wp_value_Equal
  refine boxV (x := .mk k n t s e l) fun w1 b1 a1 c1 z1 => boxV (x := .mk k' n' t' s' e' l') fun w2 b2 a2 c2 z2 => ?_
  have a1' := a1.ch c2 id
  have c12 := c1.trans' c2
  simp only [add_at]
  rw [MV.m_mk, MV.m_mk] at hk
  have no : ¬ (M.mk k n t e (l.map MV.m) = M.mk k' n' t' e' (l'.map MV.m)) → K (.bool false) w2 := fun h => by
    have := hk w2 c12
    rwa [decide_eq_false h] at this
  have ibeq : ∀ a b : Int, (a == b) = decide (a = b) := fun a b => by by_cases h : a = b <;> simp [h]
  refine ⟨_, a1'.k0, _, a2.k0, ?_⟩
  simp only [MV.k_mk, ibeq]
  refine Sif_cases (fun hk1 => ?_) (fun h => no fun he => ?_)
  · have hk1 := of_decide_eq_true hk1
    refine ⟨_, a1'.n1, _, a2.n1, ?_⟩
    simp only [MV.n_mk]
    refine Sif_cases (fun hn1 => ?_) (fun h => no fun he => ?_)
    · have hn1 : n = n' := by have := of_decide_eq_true hn1; omega
      refine ⟨_, a1'.t2, _, a2.t2, ?_⟩
      simp only [MV.t_mk]
      rw [bs_eq]
      refine Sif_cases (fun ht1 => ?_) (fun h => no fun he => ?_)
      · have ht1 := of_decide_eq_true ht1
        refine ⟨_, a1'.e4, _, a2.e4, ?_⟩
        simp only [MV.e_mk]
        refine Sif_cases (fun he1 => ?_) (fun h => no fun he => ?_)
        · have he1 := of_decide_eq_true he1
          refine ⟨_, _, _, a1'.s3, _, _, _, a2.s3, ?_⟩
          refine eqF_ok (l := l) (l' := l') ih (hx.ch0 c12).row (hy.ch0 c12).row fun w3 c3 => ⟨_, rfl, ?_⟩
          have := hk w3 (c12.trans' c3)
          rw [hk1, hn1, ht1, he1] at this
          simpa using this
        · simp only [M.mk.injEq] at he
          exact of_decide_eq_false h he.2.2.2.1
      · simp only [M.mk.injEq] at he
        exact of_decide_eq_false h he.2.2.1
    · simp only [M.mk.injEq] at he
      exact of_decide_eq_false h (by omega)
  · simp only [M.mk.injEq] at he
    exact of_decide_eq_false h he.1
end Go.Proofs.YtnacobknngidkaaGreatDoor
namespace Go.Note
open Go
set_option linter.unusedVariables false
def lex (a b : Int) : Int := if a ≠ 0 then a else b
mutual
def ordM : M → M → Int
  | .mk k n t e l, .mk k' n' t' e' l' => lex (Lib.compareInt k k') (lex (Lib.compareInt n n') (lex (Lib.compareBytes t t') (lex (ordL l l') (Lib.compareInt e e'))))
def ordL : List M → List M → Int
  | [], [] => 0
  | [], _ :: _ => -1
  | _ :: _, [] => 1
  | x :: l, y :: l' => lex (ordM x y) (ordL l l')
end
theorem cI_eq (x y : Int) : Lib.compareInt x y = 0 ↔ x = y := by
  unfold Lib.compareInt
  split
  · simp; omega
  · split
    · simp; omega
    · simp; omega
theorem cI_anti (x y : Int) : Lib.compareInt y x = - Lib.compareInt x y := by
  unfold Lib.compareInt
  split <;> split <;> (try split) <;> (try split) <;> omega
theorem cI_lt (x y : Int) : Lib.compareInt x y < 0 ↔ x < y := by
  unfold Lib.compareInt
  split
  · simp; omega
  · split
    · simp; omega
    · simp; omega
theorem cB_eq : ∀ (x y : Bs), Lib.compareBytes x y = 0 ↔ x = y
  | [], [] => by simp [Lib.compareBytes]
  | [], _ :: _ => by simp [Lib.compareBytes]
  | _ :: _, [] => by simp [Lib.compareBytes]
  | a :: x, b :: y => by
    unfold Lib.compareBytes
    have ih := cB_eq x y
    by_cases h1 : a < b
    · rw [if_pos h1]
      simp only [List.cons.injEq]
      constructor
      · intro h; cases h
      · rintro ⟨rfl, _⟩; exact absurd h1 (UInt8.lt_irrefl _)
    · rw [if_neg h1]
      by_cases h2 : b < a
      · rw [if_pos h2]
        simp only [List.cons.injEq]
        constructor
        · intro h; cases h
        · rintro ⟨rfl, _⟩; exact absurd h2 (UInt8.lt_irrefl _)
      · rw [if_neg h2, ih]
        have : a = b := UInt8.le_antisymm (UInt8.not_lt.1 h2) (UInt8.not_lt.1 h1)
        simp [this]
theorem cB_anti : ∀ (x y : Bs), Lib.compareBytes y x = - Lib.compareBytes x y
  | [], [] => by simp [Lib.compareBytes]
  | [], _ :: _ => by simp [Lib.compareBytes]
  | _ :: _, [] => by simp [Lib.compareBytes]
  | a :: x, b :: y => by
    unfold Lib.compareBytes
    by_cases h1 : a < b
    · have h2 : ¬ b < a := fun h => UInt8.lt_irrefl _ (UInt8.lt_trans h1 h)
      simp [h1, h2]
    · by_cases h2 : b < a
      · simp [h1, h2]
      · simp [h1, h2, cB_anti x y]
theorem cB_trans : ∀ (x y z : Bs), Lib.compareBytes x y < 0 → Lib.compareBytes y z < 0 → Lib.compareBytes x z < 0
  | [], [], _, h, _ => by simp [Lib.compareBytes] at h
  | [], _ :: _, [], _, h => by simp [Lib.compareBytes] at h
  | [], _ :: _, _ :: _, _, _ => by simp [Lib.compareBytes]
  | _ :: _, [], _, h, _ => by simp [Lib.compareBytes] at h
  | _ :: _, _ :: _, [], _, h => by simp [Lib.compareBytes] at h
  | a :: x, b :: y, c :: z, h1, h2 => by
    unfold Lib.compareBytes at h1 h2 ⊢
    by_cases ab : a < b
    · by_cases bc : b < c
      · rw [if_pos (UInt8.lt_trans ab bc)]; decide
      · rw [if_neg bc] at h2
        by_cases cb : c < b
        · rw [if_pos cb] at h2; exact absurd h2 (by decide)
        · have : b = c := UInt8.le_antisymm (UInt8.not_lt.1 cb) (UInt8.not_lt.1 bc)
          subst this
          rw [if_pos ab]; decide
    · rw [if_neg ab] at h1
      by_cases ba : b < a
      · rw [if_pos ba] at h1; exact absurd h1 (by decide)
      · have : a = b := UInt8.le_antisymm (UInt8.not_lt.1 ba) (UInt8.not_lt.1 ab)
        subst this
        rw [if_neg ba] at h1
        by_cases bc : a < c
        · rw [if_pos bc]; decide
        · rw [if_neg bc] at h2 ⊢
          by_cases cb : c < a
          · rw [if_pos cb] at h2; exact absurd h2 (by decide)
          · rw [if_neg cb] at h2 ⊢
            exact cB_trans x y z h1 h2
theorem lex_eq {a b : Int} : lex a b = 0 ↔ a = 0 ∧ b = 0 := by
  unfold lex
  split
  · rename_i h; simp [h]
  · rename_i h
    simp only [ne_eq, Decidable.not_not] at h
    simp [h]
theorem lex_anti {a b a' b' : Int} (h1 : a' = -a) (h2 : b' = -b) : lex a' b' = - lex a b := by
  unfold lex
  subst h1 h2
  by_cases h : a = 0
  · simp [h]
  · rw [if_pos (by omega), if_pos h]
theorem lex_lt {a b : Int} : lex a b < 0 ↔ a < 0 ∨ (a = 0 ∧ b < 0) := by
  unfold lex
  split <;> omega
theorem ordL_eq {l : List M} (ih : ∀ x ∈ l, ∀ y, ordM x y = 0 ↔ x = y) : ∀ l', ordL l l' = 0 ↔ l = l' := by
  induction l with
  | nil => intro l'; cases l' <;> simp [ordL]
  | cons x l ihl =>
    intro l'
    cases l' with
    | nil => simp [ordL]
    | cons y l' =>
      rw [ordL, lex_eq, ih x (by simp), ihl (fun z hz => ih z (by simp [hz]))]
      simp
theorem ordM_eq : ∀ x y : M, ordM x y = 0 ↔ x = y := by
  refine M.ind fun k n t e l ih => ?_
  rintro ⟨k', n', t', e', l'⟩
  rw [ordM, lex_eq, lex_eq, lex_eq, lex_eq, cI_eq, cI_eq, cB_eq, cI_eq, ordL_eq ih]
  simp only [M.mk.injEq]
  constructor
  · rintro ⟨h1, h2, h3, h4, h5⟩; exact ⟨h1, by omega, h3, h5, h4⟩
  · rintro ⟨h1, h2, h3, h4, h5⟩; exact ⟨h1, by omega, h3, h5, h4⟩
theorem ordL_anti {l : List M} (ih : ∀ x ∈ l, ∀ y, ordM y x = - ordM x y) : ∀ l', ordL l' l = - ordL l l' := by
  induction l with
  | nil => intro l'; cases l' <;> simp [ordL]
  | cons x l ihl =>
    intro l'
    cases l' with
    | nil => simp [ordL]
    | cons y l' =>
      rw [ordL, ordL]
      exact lex_anti (ih x (by simp) y) (ihl (fun z hz => ih z (by simp [hz])) l')
theorem ordM_anti : ∀ x y : M, ordM y x = - ordM x y := by
  refine M.ind fun k n t e l ih => ?_
  rintro ⟨k', n', t', e', l'⟩
  rw [ordM, ordM]
  exact lex_anti (cI_anti _ _) (lex_anti (cI_anti _ _) (lex_anti (cB_anti _ _) (lex_anti (ordL_anti ih l') (cI_anti _ _))))
theorem ordL_trans {l : List M} (ih : ∀ x ∈ l, ∀ y z, ordM x y < 0 → ordM y z < 0 → ordM x z < 0) : ∀ l' l'', ordL l l' < 0 → ordL l' l'' < 0 → ordL l l'' < 0 := by
  induction l with
  | nil =>
    intro l' l'' h1 h2
    cases l' with
    | nil => simp [ordL] at h1
    | cons y l' =>
      cases l'' with
      | nil => simp [ordL] at h2
      | cons z l'' => simp [ordL]
  | cons x l ihl =>
    intro l' l'' h1 h2
    cases l' with
    | nil => simp [ordL] at h1
    | cons y l' =>
      cases l'' with
      | nil => simp [ordL] at h2
      | cons z l'' =>
        rw [ordL, lex_lt] at h1 h2 ⊢
        rcases h1 with h1 | ⟨h1, h1'⟩
        · rcases h2 with h2 | ⟨h2, h2'⟩
          · exact .inl (ih x (by simp) y z h1 h2)
          · rw [ordM_eq] at h2; subst h2; exact .inl h1
        · rw [ordM_eq] at h1; subst h1
          rcases h2 with h2 | ⟨h2, h2'⟩
          · exact .inl h2
          · exact .inr ⟨h2, ihl (fun z hz => ih z (by simp [hz])) l' l'' h1' h2'⟩
theorem lex_trans {α β : Type} {c : α → α → Int} {d : β → β → Int} (ce : ∀ x y, c x y = 0 ↔ x = y) {x y z : α} {u v r : β} (ct : c x y < 0 → c y z < 0 → c x z < 0) (dt : d u v < 0 → d v r < 0 → d u r < 0)
    (h1 : lex (c x y) (d u v) < 0) (h2 : lex (c y z) (d v r) < 0) : lex (c x z) (d u r) < 0 := by
  rw [lex_lt] at h1 h2 ⊢
  rcases h1 with h1 | ⟨h1, h1'⟩
  · rcases h2 with h2 | ⟨h2, h2'⟩
    · exact .inl (ct h1 h2)
    · rw [ce] at h2; subst h2; exact .inl h1
  · rw [ce] at h1; subst h1
    rcases h2 with h2 | ⟨h2, h2'⟩
    · exact .inl h2
    · exact .inr ⟨h2, dt h1' h2'⟩
theorem cI_trans (x y z : Int) : Lib.compareInt x y < 0 → Lib.compareInt y z < 0 → Lib.compareInt x z < 0 := by
  rw [cI_lt, cI_lt, cI_lt]; omega
theorem ordM_trans : ∀ x y z : M, ordM x y < 0 → ordM y z < 0 → ordM x z < 0 := by
  refine M.ind fun k n t e l ih => ?_
  rintro ⟨k', n', t', e', l'⟩ ⟨k'', n'', t'', e'', l''⟩ h1 h2
  rw [ordM] at h1 h2 ⊢
  have L := ordL_trans ih l' l''
  have leq : ∀ x y : List M, ordL x y = 0 ↔ x = y := fun x y => ordL_eq (fun z _ => ordM_eq z) y
  refine lex_trans (c := Lib.compareInt) (d := fun (u v : Nat × Bs × List M × Int) => lex (Lib.compareInt u.1 v.1) (lex (Lib.compareBytes u.2.1 v.2.1) (lex (ordL u.2.2.1 v.2.2.1) (Lib.compareInt u.2.2.2 v.2.2.2)))) (u := (n, t, l, e)) (v := (n', t', l', e')) (r := (n'', t'', l'', e'')) cI_eq (cI_trans _ _ _) (fun h1 h2 => ?_) h1 h2
  refine lex_trans (c := fun (x y : Nat) => Lib.compareInt x y) (d := fun (u v : Bs × List M × Int) => lex (Lib.compareBytes u.1 v.1) (lex (ordL u.2.1 v.2.1) (Lib.compareInt u.2.2 v.2.2))) (u := (t, l, e)) (v := (t', l', e')) (r := (t'', l'', e'')) (fun x y => by rw [cI_eq]; omega) (cI_trans _ _ _) (fun h1 h2 => ?_) h1 h2
  refine lex_trans (c := Lib.compareBytes) (d := fun (u v : List M × Int) => lex (ordL u.1 v.1) (Lib.compareInt u.2 v.2)) (u := (l, e)) (v := (l', e')) (r := (l'', e'')) cB_eq (cB_trans _ _ _) (fun h1 h2 => ?_) h1 h2
  exact lex_trans (c := ordL) (d := Lib.compareInt) (u := e) (v := e') (r := e'') leq L (cI_trans _ _ _) h1 h2
theorem dup_adjacent : ∀ (l : List M), (l.Pairwise fun x y => ¬ ordM y x < 0) → (¬ l.Nodup ↔ ∃ i x y, l[i]? = some x ∧ l[i + 1]? = some y ∧ ordM x y = 0)
  | [], _ => by simp
  | [x], _ => by simp
  | x :: y :: l, hp => by
    have hp' := List.pairwise_cons.1 hp
    have ih := dup_adjacent (y :: l) hp'.2
    constructor
    · intro h
      by_cases hxy : x = y
      · exact ⟨0, x, y, rfl, rfl, (ordM_eq x y).2 hxy⟩
      · have hnd : ¬ (y :: l).Nodup := by
          intro hnd
          apply h
          refine List.nodup_cons.2 ⟨fun hm => ?_, hnd⟩
          rcases List.mem_cons.1 hm with e | hm
          · exact hxy e
          · have h1 := hp'.1 y (by simp)
            have h2 := (List.pairwise_cons.1 hp'.2).1 x hm
            have h3 := ordM_anti x y
            have : ordM x y = 0 := by omega
            exact hxy ((ordM_eq x y).1 this)
        obtain ⟨i, a, b, h1, h2, h3⟩ := ih.1 hnd
        exact ⟨i + 1, a, b, by simpa using h1, by simpa using h2, h3⟩
    · rintro ⟨i, a, b, h1, h2, h3⟩
      have hab := (ordM_eq a b).1 h3
      subst hab
      intro hnd
      have h1' := List.getElem?_eq_some_iff.1 h1
      have h2' := List.getElem?_eq_some_iff.1 h2
      obtain ⟨g1, g2⟩ := h1'
      obtain ⟨g3, g4⟩ := h2'
      have := (List.pairwise_iff_getElem.1 hnd) i (i + 1) g1 g3 (by omega)
      exact this (g2.trans g4.symm)
end Go.Note
namespace Go.Proofs.YtnacobknngidkaaGreatDoor
open Go Go.Sv Go.Note
set_option linter.unusedVariables false
attribute [local irreducible] Sif
set_option maxRecDepth 4000
theorem RS.chr {S : ByteArray} {rb p : Nat} {w w' : World} (h : RS S rb p w) (c : Ch (fun _ => False) w w') : RS S rb p w' := h.ch c id
theorem elem_ok {S : ByteArray} (hs : S.size ≤ 2 ^ 40) {rb p : Nat} {w : World} (hr : RS S rb p w) (hL : LW w) (h2 : 8 ≤ rb) {K : Value → World → Prop} {KP : List PanicEntry → World → Prop}
    (hk : ∀ k w', (next S.data.toList p).kind = 1 → kindN (next S.data.toList p).text = some k → ¬ (k = 0 ∨ k = 24) → (next S.data.toList (next S.data.toList p).fin).is 91 = true → RS S rb (next S.data.toList (next S.data.toList p).fin).fin w' → Ch (· = rb) w w' → K (.int .i64 (k : Int)) w')
    (hp : ∀ a e w', Ch (· = rb) w w' → (((next S.data.toList p).kind ≠ 1 ∧ (amiss (next S.data.toList p) 40 : Go.Note.Fd M) = .bad a e) ∨ ((next S.data.toList p).kind = 1 ∧ kindN (next S.data.toList p).text = none ∧ (amiss (next S.data.toList p) 40 : Go.Note.Fd M) = .bad a e) ∨
      ((next S.data.toList p).kind = 1 ∧ (∃ k, kindN (next S.data.toList p).text = some k ∧ (k = 0 ∨ k = 24)) ∧ (amiss (next S.data.toList p) 24 : Go.Note.Fd M) = .bad a e) ∨
      ((next S.data.toList p).kind = 1 ∧ (∃ k, kindN (next S.data.toList p).text = some k ∧ ¬ (k = 0 ∨ k = 24)) ∧ (next S.data.toList (next S.data.toList p).fin).is 91 = false ∧ (amiss (next S.data.toList (next S.data.toList p).fin) 40 : Go.Note.Fd M) = .bad a e)) → KP (flt a e) w') :
    callX Tryz.prog 75 [.pointer (some ⟨rb, 0, none⟩)] w K KP := by
  apply ok_note_reader_elem
  unfold wp_note_reader_elem
  have hr0 := hr
  obtain ⟨h0, hple⟩ := hr
  unfold rcl at h0
  have hsz8 := hL.size
  simp only [nn, add_at, Nat.zero_add]
  refine ⟨_, cellK h0 4 rfl, ?_⟩
  refine callX_of (named_ok fun w1 c1 => ?_)
  have cr : ∀ {a b : World}, Ch (fun _ => False) a b → Ch (· = rb) a b := fun c => c.mono fun _ _ h => h.elim
  have hr1 := hr0.chr c1
  have h1 := hr1.1
  unfold rcl at h1
  have main : ∀ (n : Int) (b : Bool), NamedR (kindN (ptx (next S.data.toList p))) = .tuple #[.int .i64 n, .bool b] → (∃ J : World → Prop, (∀ w2, J w2 → callX Tryz.prog 41 [.pointer (some ⟨rb, 0, none⟩)] w2 (fun v1 w3 => ∃ n1 n2 s1, v1 = .agg (Array.mk [.int .i64 n1, .int .i64 n2, .string s1]) ∧
        ∃ J1 : World → Prop, (∀ w4, J1 w4 → callX Tryz.prog 41 [.pointer (some ⟨rb, 0, none⟩)] w4 (fun v2 w5 => ∃ n3 n4 s2, v2 = .agg (Array.mk [.int .i64 n3, .int .i64 n4, .string s2]) ∧ K (.int .i64 n) w5) fun a1 w5 => KP a1 w5) ∧
        callX Tryz.prog 115 [.pointer (some ⟨rb, 0, none⟩), .string (ByteArray.mk (Array.mk [(91 : UInt8)]))] w3 (fun v2 w4 => ∃ b1, v2 = .bool b1 ∧ Sif (!b1) (callX Tryz.prog 43 [.pointer (some ⟨rb, 0, none⟩), .int .i64 40] w4 (fun v3 w5 => v3 = .tuple (Array.mk []) ∧ J1 w5) fun a1 w5 => KP a1 w5) (J1 w4)) fun a1 w4 => KP a1 w4) fun a1 w3 => KP a1 w3) ∧
      ∃ n1, w1.cell? ⟨rb, 2, none⟩ = some (.int .i64 n1) ∧ Sif (!n1 != 1) (Sif (!b) (callX Tryz.prog 43 [.pointer (some ⟨rb, 0, none⟩), .int .i64 40] w1 (fun v1 w2 => v1 = .tuple (Array.mk []) ∧ J w2) fun a2 w2 => KP a2 w2)
        (Sif (!n == 0) (Sif (n == 24) (callX Tryz.prog 43 [.pointer (some ⟨rb, 0, none⟩), .int .i64 24] w1 (fun v1 w2 => v1 = .tuple (Array.mk []) ∧ J w2) fun a2 w2 => KP a2 w2) (J w1)) (callX Tryz.prog 43 [.pointer (some ⟨rb, 0, none⟩), .int .i64 24] w1 (fun v1 w2 => v1 = .tuple (Array.mk []) ∧ J w2) fun a2 w2 => KP a2 w2)))
        (callX Tryz.prog 43 [.pointer (some ⟨rb, 0, none⟩), .int .i64 40] w1 (fun v1 w2 => v1 = .tuple (Array.mk []) ∧ J w2) fun a2 w2 => KP a2 w2)) := by
    intro n b hnb
    refine ⟨fun w2 => w2 = w1 ∧ (next S.data.toList p).kind = 1 ∧ ∃ k, kindN (next S.data.toList p).text = some k ∧ ¬ (k = 0 ∨ k = 24) ∧ n = (k : Int), ?_, _, cellK h1 2 rfl, ?_⟩
    · rintro w2 ⟨rfl, hk1, k, hkn, hk24, rfl⟩
      refine callX_of (step_ok' hs hr1 (hL.ch0 c1).ut (by omega) fun w3 r3 c3 => ⟨_, _, _, rfl, ?_⟩)
      have hL3 := (hL.ch0 c1).chr h2 c3
      refine ⟨fun w4 => w4 = w3 ∧ (next S.data.toList (next S.data.toList p).fin).is 91 = true, ?_, ?_⟩
      · rintro w4 ⟨rfl, his⟩
        exact callX_of (step_ok' hs r3 hL3.ut (by omega) fun w5 r5 c5 => ⟨_, _, _, rfl, hk k w5 hk1 hkn hk24 his r5 (((cr c1).trans' c3).trans' c5)⟩)
      · refine callX_of (is_ok (c := 91) r3 ⟨_, rfl, ?_⟩)
        refine Sif_cases (fun h => ?_) (fun h => ⟨by trivial, by simpa using h⟩)
        rw [Bool.not_eq_true'] at h
        exact refuse_ok (e := 40) r3 (hp _ _ w3 ((cr c1).trans' c3) (.inr (.inr (.inr ⟨hk1, ⟨k, hkn, hk24⟩, h, rfl⟩))))
    · rw [int_bne, Bool.not_not]
      refine Sif_cases (fun h => ?_) (fun h => ?_)
      · have hk1 := (pk_one _).1 (of_decide_eq_true h)
        rw [ptx_one hk1] at hnb
        cases hkn : kindN (next S.data.toList p).text with
        | none =>
          rw [hkn] at hnb
          simp only [NamedR, Value.tuple.injEq, Array.mk.injEq, List.cons.injEq, Value.bool.injEq, Value.int.injEq, true_and, and_true] at hnb
          rw [← hnb.2]
          exact Sif_true (refuse_ok (e := 40) hr1 (hp _ _ w1 (cr c1) (.inr (.inl ⟨hk1, hkn, rfl⟩))))
        | some k =>
          rw [hkn] at hnb
          simp only [NamedR, Value.tuple.injEq, Array.mk.injEq, List.cons.injEq, Value.bool.injEq, Value.int.injEq, true_and, and_true] at hnb
          obtain ⟨rfl, rfl⟩ := hnb
          refine Sif_false (Sif_cases (fun h => ?_) (fun h => ?_))
          · have k0 : k ≠ 0 := by
              rintro rfl
              exact absurd h (by decide)
            refine Sif_cases (fun h => ?_) (fun h => ⟨by trivial, hk1, k, rfl, ?_, rfl⟩)
            · have k24 : k = 24 := by have := eq_of_beq h; omega
              exact refuse_ok (e := 24) hr1 (hp _ _ w1 (cr c1) (.inr (.inr (.inl ⟨hk1, ⟨k, hkn, .inr k24⟩, rfl⟩))))
            · rintro (h3 | h3)
              · exact k0 h3
              · rw [h3] at h; exact absurd h (by decide)
          · have k0 : k = 0 := by
              have : ((k : Int) == 0) = true := by simpa using h
              have := eq_of_beq this; omega
            exact refuse_ok (e := 24) hr1 (hp _ _ w1 (cr c1) (.inr (.inr (.inl ⟨hk1, ⟨k, hkn, .inl k0⟩, rfl⟩))))
      · exact refuse_ok (e := 40) hr1 (hp _ _ w1 (cr c1) (.inl ⟨fun e => of_decide_eq_false h ((pk_one _).2 e), rfl⟩))
  cases hkn : kindN (ptx (next S.data.toList p)) with
  | none => exact ⟨_, _, rfl, main _ _ (by rw [hkn]; rfl)⟩
  | some k => exact ⟨_, _, rfl, main _ _ (by rw [hkn]; rfl)⟩
theorem stn {w : World} {k : Nat} {K1 : Int} {n n' : Nat} {t : Bs} {s : SL} {e : Int} {l : List MV} {K : World → Prop} (h : blk w k = some (MV.mk K1 n t s e l).g) (hk : ∀ w', blk w' k = some (MV.mk K1 n' t s e l).g → Ch (· = k) w w' → K w') : Sv.st w ⟨k, 1, none⟩ (.int .u64 (n' : Int)) K :=
  st_blk h (by simp [MV.g]) fun w' b c _ => hk w' b c
theorem stt {w : World} {k : Nat} {K1 : Int} {n : Nat} {t t' : Bs} {s : SL} {e : Int} {l : List MV} {K : World → Prop} (h : blk w k = some (MV.mk K1 n t s e l).g) (hk : ∀ w', blk w' k = some (MV.mk K1 n t' s e l).g → Ch (· = k) w w' → K w') : Sv.st w ⟨k, 2, none⟩ (.string ⟨t'.toArray⟩) K :=
  st_blk h (by simp [MV.g]) fun w' b c _ => hk w' b c
theorem sts {w : World} {k : Nat} {K1 : Int} {n : Nat} {t : Bs} {s s' : SL} {e : Int} {l : List MV} (l' : List MV) {K : World → Prop} (h : blk w k = some (MV.mk K1 n t s e l).g) (hk : ∀ w', blk w' k = some (MV.mk K1 n t s' e l').g → Ch (· = k) w w' → K w') : Sv.st w ⟨k, 3, none⟩ (.slice s'.p s'.n s'.c) K :=
  st_blk h (by simp [MV.g]) fun w' b c _ => hk w' b c
theorem ste {w : World} {k : Nat} {K1 : Int} {n : Nat} {t : Bs} {s : SL} {e e' : Int} {l : List MV} {K : World → Prop} (h : blk w k = some (MV.mk K1 n t s e l).g) (hk : ∀ w', blk w' k = some (MV.mk K1 n t s e' l).g → Ch (· = k) w w' → K w') : Sv.st w ⟨k, 4, none⟩ (.int .i64 e') K :=
  st_blk h (by simp [MV.g]) fun w' b c _ => hk w' b c
theorem intB_16 (s : Bs) : intB 16 s = intB 9 s := by
  unfold intB
  have : mostK 16 = mostK 9 := rfl
  rw [this]
  have h1 : ∀ n, (n ≤ (mostK 9).1 ∧ ¬ (16 = 15 ∧ 55296 ≤ n ∧ n ≤ 57343)) ↔ (n ≤ (mostK 9).1 ∧ ¬ (9 = 15 ∧ 55296 ≤ n ∧ n ≤ 57343)) := fun n => by simp
  simp only [h1]
theorem intB_15 (s : Bs) : intB 15 s = match intB 4 s with
    | some n => if n ≤ 1114111 ∧ ¬ (55296 ≤ n ∧ n ≤ 57343) then some n else none
    | none => none := by
  unfold intB
  simp only [show (mostK 15).2 = 0 by rfl, show (mostK 4).2 = 0 by rfl, show (mostK 15).1 = 1114111 by rfl, show (mostK 4).1 = 4294967295 by rfl]
  simp only [Nat.lt_irrefl, false_and, if_false]
  cases natB s with
  | none => rfl
  | some n =>
    simp only [true_and]
    by_cases h : n ≤ 4294967295 ∧ ¬ (4 = 15 ∧ 55296 ≤ n ∧ n ≤ 57343)
    · rw [if_pos h]
    · rw [if_neg h, if_neg]
      simp at h; omega
theorem bits0 {k : Nat} (h : k = 2 ∨ k = 3 ∨ k = 4 ∨ k = 5 ∨ k = 6 ∨ k = 7 ∨ k = 8 ∨ k = 9 ∨ k = 15 ∨ k = 16) : bitsK k = 0 := by
  unfold bitsK
  rw [if_neg (by omega), if_neg (by omega), if_neg (by omega)]
theorem numbered_int {s : Bs} {k a : Nat} (h : bitsK k = 0) : numbered s k a = if (next s a).kind ≠ 1 then amiss (next s a) 41 else match intB k (next s a).text with
    | some n => .ok (.mk k n [] 0 []) (next s a).fin
    | none => amiss (next s a) 41 := by
  unfold numbered
  simp only
  rw [if_pos h]
  rfl
theorem numbered_bits {s : Bs} {k a : Nat} (h : bitsK k ≠ 0) : numbered s k a = if (next s a).kind ≠ 1 then amiss (next s a) 41 else match bytesB (next s a).text (bitsK k) with
    | some b => if bitsK k = 32 then .ok (.mk k 0 b 0 []) (next s a).fin else .ok (.mk k (beN b) [] 0 []) (next s a).fin
    | none => amiss (next s a) 41 := by
  unfold numbered
  simp only
  rw [if_neg h]
  rfl
theorem validRune_ok {n : Nat} {w : World} {K : Value → World → Prop} (hk : K (.bool (Lib.validRune (IntKind.wrap .i32 (n : Int)))) w) : callP Tryz.prog 120 [.int .i32 (IntKind.wrap .i32 (n : Int))] w K := by
  refine (Tryz.utf8_ValidRune _ _).mono ?_
  rintro e w' ⟨rfl, rfl⟩
  exact ⟨_, rfl, hk⟩
theorem valid_iff {n : Nat} (hn : n ≤ 4294967295) : Lib.validRune (IntKind.wrap .i32 (n : Int)) = decide (n ≤ 1114111 ∧ ¬ (55296 ≤ n ∧ n ≤ 57343)) := by
  unfold Lib.validRune
  apply decide_eq_decide.2
  have e : IntKind.wrap .i32 (n : Int) = if n < 2147483648 then (n : Int) else (n : Int) - 4294967296 := by
    unfold IntKind.wrap
    simp [IntKind.bits, IntKind.signed, Int.bmod]
    split <;> split <;> omega
  rw [e]
  split <;> omega
theorem number_ok {S : ByteArray} (hs : S.size ≤ 2 ^ 40) {rb p k vb : Nat} (hkk : 2 ≤ k ∧ k ≤ 17) {w : World} (hr : RS S rb p w) (hL : LW w) (h2 : 8 ≤ rb) (hv : blk w vb = some (one k 0 []).g) (hvr : vb ≠ rb) (hv8 : 8 ≤ vb) {K : Value → World → Prop} {KP : List PanicEntry → World → Prop}
    (hk : ∀ n t b w', numbered S.data.toList k p = .ok (.mk k n t 0 []) b → blk w' vb = some (one k n t).g → RS S rb b w' → Ch (fun j => j = rb ∨ j = vb) w w' → K (.tuple #[]) w')
    (hp : ∀ a e w', numbered S.data.toList k p = .bad a e → Ch (fun j => j = rb ∨ j = vb) w w' → KP (flt a e) w') :
    callX Tryz.prog 77 [.pointer (some ⟨rb, 0, none⟩), .pointer (some ⟨vb, 0, none⟩)] w K KP := by
  apply ok_note_reader_number
  unfold wp_note_reader_number
  have hr0 := hr
  have h0 := hr.1
  unfold rcl at h0
  have hvl := blk_lt hv
  have hrl := hr.lt
  simp only [nn, add_at, Nat.zero_add]
  refine ⟨_, cellK h0 2 rfl, _, cellK h0 3 rfl, _, cellK h0 4 rfl, ?_⟩
  refine box3 fun w4 b4 c4 z4 => ?_
  have hr4 := hr0.chr c4
  have hL4 := hL.ch0 c4
  have hv4 : blk w4 vb = some (one k 0 []).g := (c4.blk hvl id).trans hv
  have hb4 := blk_lt b4
  simp only [add_at, Nat.zero_add]
  refine ⟨_, cellK hv4 0 rfl, ?_⟩
  have cr : ∀ {a b : World}, Ch (fun _ => False) a b → Ch (fun j => j = rb ∨ j = vb) a b := fun c => c.mono fun _ _ h => h.elim
  have crr : ∀ {a b : World}, Ch (· = rb) a b → Ch (fun j => j = rb ∨ j = vb) a b := fun c => c.mono fun _ _ h => .inl h
  have crv : ∀ {a b : World}, Ch (· = vb) a b → Ch (fun j => j = rb ∨ j = vb) a b := fun c => c.mono fun _ _ h => .inr h
  have q2 : (((k : Nat) : Int) == 2) = decide (k = 2) := nat_beq k 2
  have q3 : (((k : Nat) : Int) == 3) = decide (k = 3) := nat_beq k 3
  have q4 : (((k : Nat) : Int) == 4) = decide (k = 4) := nat_beq k 4
  have q5 : (((k : Nat) : Int) == 5) = decide (k = 5) := nat_beq k 5
  have q6 : (((k : Nat) : Int) == 6) = decide (k = 6) := nat_beq k 6
  have q7 : (((k : Nat) : Int) == 7) = decide (k = 7) := nat_beq k 7
  have q8 : (((k : Nat) : Int) == 8) = decide (k = 8) := nat_beq k 8
  have q9 : (((k : Nat) : Int) == 9) = decide (k = 9) := nat_beq k 9
  have q10 : (((k : Nat) : Int) == 10) = decide (k = 10) := nat_beq k 10
  have q11 : (((k : Nat) : Int) == 11) = decide (k = 11) := nat_beq k 11
  have q12 : (((k : Nat) : Int) == 12) = decide (k = 12) := nat_beq k 12
  have q13 : (((k : Nat) : Int) == 13) = decide (k = 13) := nat_beq k 13
  have q15 : (((k : Nat) : Int) == 15) = decide (k = 15) := nat_beq k 15
  have q16 : (((k : Nat) : Int) == 16) = decide (k = 16) := nat_beq k 16
  -- what comes of an integer
  have fin : ∀ w5 n, bitsK k = 0 → (next S.data.toList p).kind = 1 → intB k (next S.data.toList p).text = some n → RS S rb (next S.data.toList p).fin w5 → Ch (· = rb) w4 w5 → Sv.st w5 ⟨vb, 1, none⟩ (.int .u64 (n : Int)) fun w6 => K (.tuple (Array.mk [])) w6 := by
    intro w5 n hb hk1 hi r5 c5
    have hv5 : blk w5 vb = some (one k 0 []).g := (c5.blk (blk_lt hv4) hvr).trans hv4
    refine stn (n' := n) hv5 fun w6 b6 c6 => ?_
    refine hk n [] _ w6 ?_ b6 (r5.ch c6 (fun e => hvr e.symm)) (((cr c4).trans' (crr c5)).trans' (crv c6))
    rw [numbered_int hb, if_neg (by omega), hi]
  have bad : bitsK k = 0 → ((next S.data.toList p).kind ≠ 1 ∨ intB k (next S.data.toList p).text = none) → ∀ w', Ch (fun _ => False) w4 w' → KP (flt (next S.data.toList p).beg (if (next S.data.toList p).kind = 5 then 42 else 41)) w' := by
    intro hb h w' c
    refine hp _ _ w' ?_ ((cr c4).trans' (cr c))
    rw [numbered_int hb]
    by_cases h1 : (next S.data.toList p).kind ≠ 1
    · rw [if_pos h1]; rfl
    · rw [if_neg h1]
      rcases h with h | h
      · exact absurd h h1
      · rw [h]; rfl
  have badB : bitsK k ≠ 0 → ((next S.data.toList p).kind ≠ 1 ∨ bytesB (next S.data.toList p).text (bitsK k) = none) → ∀ w', Ch (fun _ => False) w4 w' → KP (flt (next S.data.toList p).beg (if (next S.data.toList p).kind = 5 then 42 else 41)) w' := by
    intro hb h w' c
    refine hp _ _ w' ?_ ((cr c4).trans' (cr c))
    rw [numbered_bits hb]
    by_cases h1 : (next S.data.toList p).kind ≠ 1
    · rw [if_pos h1]; rfl
    · rw [if_neg h1]
      rcases h with h | h
      · exact absurd h h1
      · rw [h]; rfl
  refine Sif_cases (fun h => ?_) (fun h2n => ?_)
  · have hkj : k = 2 := by rw [q2] at h; exact of_decide_eq_true h
    have hb : bitsK k = 0 := bits0 (by omega)
    refine integer_u8 hs hr4 hL4 h2 (fun hk1 n w5 hi r5 c5 => ⟨_, rfl, fin w5 n hb hk1 (by rw [hkj]; exact hi) r5 c5⟩) (fun h w' c => bad hb (by rw [hkj]; exact h) w' c)
  refine Sif_cases (fun h => ?_) (fun h3 => ?_)
  · have hkj : k = 3 := by rw [q3] at h; exact of_decide_eq_true h
    have hb : bitsK k = 0 := bits0 (by omega)
    refine integer_u16 hs hr4 hL4 h2 (fun hk1 n w5 hi r5 c5 => ⟨_, rfl, fin w5 n hb hk1 (by rw [hkj]; exact hi) r5 c5⟩) (fun h w' c => bad hb (by rw [hkj]; exact h) w' c)
  refine Sif_cases (fun h => ?_) (fun h4 => ?_)
  · have hkj : k = 4 := by rw [q4] at h; exact of_decide_eq_true h
    have hb : bitsK k = 0 := bits0 (by omega)
    refine integer_u32 hs hr4 hL4 h2 (fun hk1 n w5 hi r5 c5 => ⟨_, rfl, fin w5 n hb hk1 (by rw [hkj]; exact hi) r5 c5⟩) (fun h w' c => bad hb (by rw [hkj]; exact h) w' c)
  refine Sif_cases (fun h => ?_) (fun h5 => ?_)
  · have hkj : k = 5 := by rw [q5] at h; exact of_decide_eq_true h
    have hb : bitsK k = 0 := bits0 (by omega)
    refine integer_u64 hs hr4 hL4 h2 (fun hk1 n w5 hi r5 c5 => ⟨_, rfl, fin w5 n hb hk1 (by rw [hkj]; exact hi) r5 c5⟩) (fun h w' c => bad hb (by rw [hkj]; exact h) w' c)
  refine Sif_cases (fun h => ?_) (fun h6 => ?_)
  · have hkj : k = 6 := by rw [q6] at h; exact of_decide_eq_true h
    have hb : bitsK k = 0 := bits0 (by omega)
    refine integer_i8 hs hr4 hL4 h2 (fun hk1 n w5 hi r5 c5 => ⟨_, rfl, fin w5 n hb hk1 (by rw [hkj]; exact hi) r5 c5⟩) (fun h w' c => bad hb (by rw [hkj]; exact h) w' c)
  refine Sif_cases (fun h => ?_) (fun h7 => ?_)
  · have hkj : k = 7 := by rw [q7] at h; exact of_decide_eq_true h
    have hb : bitsK k = 0 := bits0 (by omega)
    refine integer_i16 hs hr4 hL4 h2 (fun hk1 n w5 hi r5 c5 => ⟨_, rfl, fin w5 n hb hk1 (by rw [hkj]; exact hi) r5 c5⟩) (fun h w' c => bad hb (by rw [hkj]; exact h) w' c)
  refine Sif_cases (fun h => ?_) (fun h8 => ?_)
  · have hkj : k = 8 := by rw [q8] at h; exact of_decide_eq_true h
    have hb : bitsK k = 0 := bits0 (by omega)
    refine integer_i32 hs hr4 hL4 h2 (fun hk1 n w5 hi r5 c5 => ⟨_, rfl, fin w5 n hb hk1 (by rw [hkj]; exact hi) r5 c5⟩) (fun h w' c => bad hb (by rw [hkj]; exact h) w' c)
  rw [q2] at h2n
  have h2n := of_decide_eq_false h2n
  rw [q3] at h3
  have h3 := of_decide_eq_false h3
  rw [q4] at h4
  have h4 := of_decide_eq_false h4
  rw [q5] at h5
  have h5 := of_decide_eq_false h5
  rw [q6] at h6
  have h6 := of_decide_eq_false h6
  rw [q7] at h7
  have h7 := of_decide_eq_false h7
  rw [q8] at h8
  have h8 := of_decide_eq_false h8
  refine ⟨fun b w5 => w5 = w4 ∧ b = decide (k = 9 ∨ k = 16), ?_, ?_⟩
  · rintro b w5 ⟨rfl, rfl⟩
    refine Sif_cases (fun h => ?_) (fun hn9 => ?_)
    · have hkj := of_decide_eq_true h
      have hb : bitsK k = 0 := bits0 (by omega)
      have he : ∀ s, intB k s = intB 9 s := fun s => by
        rcases hkj with rfl | rfl
        · rfl
        · exact intB_16 s
      refine integer_i64 hs hr4 hL4 h2 (fun hk1 n w6 hi r6 c6 => ⟨_, rfl, fin w6 n hb hk1 (by rw [he]; exact hi) r6 c6⟩) (fun h w' c => bad hb (by rw [he]; exact h) w' c)
    have hn9 := of_decide_eq_false hn9
    refine Sif_cases (fun h => ?_) (fun h15 => ?_)
    · have hkj : k = 15 := by rw [q15] at h; exact of_decide_eq_true h
      have hb : bitsK k = 0 := bits0 (by omega)
      refine integer_u32 hs hr4 hL4 h2 (fun hk1 n w6 hi r6 c6 => ⟨_, rfl, ?_⟩) (fun h w' c => bad hb ?_ w' c)
      · have hv5 : blk w6 vb = some (one k 0 []).g := (c6.blk (blk_lt hv4) hvr).trans hv4
        have hn32 : n ≤ 4294967295 := by
          rcases intB_of hi with ⟨h, _⟩ | ⟨h, _⟩
          · exact h
          · exact absurd h (by decide)
        refine stn (n' := n) hv5 fun w7 b7 c7 => ⟨_, cellK b7 1 rfl, ?_⟩
        refine callX_of (validRune_ok ?_)
        have hval : ∀ b : Bool, b = decide (n ≤ 1114111 ∧ ¬ (55296 ≤ n ∧ n ≤ 57343)) → Sif (!b) (∃ n5, w7.cell? ⟨w.heap.size, 1, none⟩ = some (.int .i64 n5) ∧ callX Tryz.prog 78 [.int .i64 n5, .int .i64 41] w7 (fun v3 w9 => v3 = .tuple (Array.mk []) ∧ K (.tuple (Array.mk [])) w9) fun a5 w9 => KP a5 w9) (K (.tuple (Array.mk [])) w7) := by
          intro b hbv
          have cc : Ch (fun j => j = rb ∨ j = vb) w w7 := ((cr c4).trans' (crr c6)).trans' (crv c7)
          refine Sif_cases (fun h => ?_) (fun h => ?_)
          · have hno : ¬ (n ≤ 1114111 ∧ ¬ (55296 ≤ n ∧ n ≤ 57343)) := by
              rw [Bool.not_eq_true', hbv] at h; exact of_decide_eq_false h
            have b7' : blk w7 w.heap.size = some [.int .i64 (pk (next S.data.toList p) : Int), .int .i64 ((next S.data.toList p).beg : Int), .string ⟨(ptx (next S.data.toList p)).toArray⟩] := by
              rw [c7.blk (by have := c6.size; omega) (by omega), c6.blk hb4 (by omega)]; exact b4
            refine ⟨_, cellK b7' 1 rfl, fail_ok (e := 41) (hp _ _ w7 ?_ cc)⟩
            rw [numbered_int hb, if_neg (by omega), hkj, intB_15, hi]
            simp only
            rw [if_neg hno]
            unfold amiss
            rw [if_neg (by omega)]
          · have hyes : n ≤ 1114111 ∧ ¬ (55296 ≤ n ∧ n ≤ 57343) := by
              rw [Bool.not_eq_false', hbv] at h; exact of_decide_eq_true h
            refine hk n [] _ w7 ?_ b7 (r6.ch c7 (fun e => hvr e.symm)) cc
            rw [numbered_int hb, if_neg (by omega), hkj, intB_15, hi]
            simp only
            rw [if_pos hyes]
        exact ⟨_, rfl, hval _ (valid_iff hn32)⟩
      · rcases h with h | h
        · exact .inl h
        · right; rw [hkj, intB_15, h]
    have hn15 : k ≠ 15 := by rw [q15] at h15; exact of_decide_eq_false h15
    refine ⟨fun b w6 => w6 = w5 ∧ b = decide (k = 10 ∨ k = 12), ?_, ?_⟩
    · rintro b w6 ⟨rfl, rfl⟩
      refine Sif_cases (fun h => ?_) (fun hn10 => ?_)
      · have hkj := of_decide_eq_true h
        have hb : bitsK k = 8 := by unfold bitsK; rw [if_pos hkj]
        refine digits_ok (j := 4) hs (by decide) hr4 hL4 h2 (fun hk1 b q c w7 hby hbl hrd hjc r7 c7 => ⟨_, _, _, rfl, ?_⟩) (fun h w' c => badB (by omega) (by rw [hb]; exact h) w' c)
        refine callX_of (get_ok (a := 0) (k := 4) hrd hjc (by decide) (by decide) (by decide) (by decide) ⟨_, _, rfl, ?_⟩)
        rw [List.drop_zero, List.take_of_length_le (by omega)]
        have hv7 : blk w7 vb = some (one k 0 []).g := (c7.blk (blk_lt hv4) hvr).trans hv4
        refine stn (n' := beN b) hv7 fun w8 b8 c8 => hk (beN b) [] _ w8 ?_ b8 (r7.ch c8 (fun e => hvr e.symm)) (((cr c4).trans' (crr c7)).trans' (crv c8))
        rw [numbered_bits (by omega), if_neg (by omega), hb, hby]
        rfl
      have hn10 := of_decide_eq_false hn10
      refine ⟨fun b w7 => w7 = w6 ∧ b = decide (k = 11 ∨ k = 13), ?_, ?_⟩
      · rintro b w7 ⟨rfl, rfl⟩
        refine Sif_cases (fun h => ?_) (fun hn11 => ?_)
        · have hkj := of_decide_eq_true h
          have hb : bitsK k = 16 := by unfold bitsK; rw [if_neg (by omega), if_pos hkj]
          refine digits_ok (j := 8) hs (by decide) hr4 hL4 h2 (fun hk1 b q c w7 hby hbl hrd hjc r7 c7 => ⟨_, _, _, rfl, ?_⟩) (fun h w' c => badB (by omega) (by rw [hb]; exact h) w' c)
          refine callX_of (get_ok (a := 0) (k := 8) hrd hjc (by decide) (by decide) (by decide) (by decide) ⟨_, _, rfl, ?_⟩)
          rw [List.drop_zero, List.take_of_length_le (by omega)]
          have hv7 : blk w7 vb = some (one k 0 []).g := (c7.blk (blk_lt hv4) hvr).trans hv4
          refine stn (n' := beN b) hv7 fun w8 b8 c8 => hk (beN b) [] _ w8 ?_ b8 (r7.ch c8 (fun e => hvr e.symm)) (((cr c4).trans' (crr c7)).trans' (crv c8))
          rw [numbered_bits (by omega), if_neg (by omega), hb, hby]
          rfl
        · have hn11 := of_decide_eq_false hn11
          have hkj : k = 14 ∨ k = 17 := by omega
          have hb : bitsK k = 32 := by unfold bitsK; rw [if_neg (by omega), if_neg (by omega), if_pos hkj]
          refine digits_ok (j := 16) hs (by decide) hr4 hL4 h2 (fun hk1 b q c w7 hby hbl hrd hjc r7 c7 => ⟨_, _, _, rfl, ?_⟩) (fun h w' c => badB (by omega) (by rw [hb]; exact h) w' c)
          refine ⟨_, toString_run uBytes uByte uString hrd, ?_⟩
          have hv7 : blk w7 vb = some (one k 0 []).g := (c7.blk (blk_lt hv4) hvr).trans hv4
          refine stt (t' := b) hv7 fun w8 b8 c8 => hk 0 b _ w8 ?_ b8 (r7.ch c8 (fun e => hvr e.symm)) (((cr c4).trans' (crr c7)).trans' (crv c8))
          rw [numbered_bits (by omega), if_neg (by omega), hb, hby]
          rfl
      · refine Sif_cases (fun h => ⟨by trivial, ?_⟩) (fun h => ⟨by trivial, ?_⟩)
        · have : k = 11 := by rw [q11] at h; exact of_decide_eq_true h
          rw [q11]; subst this; rfl
        · rw [q11] at h
          rw [q13]
          exact decide_eq_decide.2 ⟨fun e => .inr e, fun e => e.resolve_left (of_decide_eq_false h)⟩
    · refine Sif_cases (fun h => ⟨by trivial, ?_⟩) (fun h => ⟨by trivial, ?_⟩)
      · have : k = 10 := by rw [q10] at h; exact of_decide_eq_true h
        rw [q10]; subst this; rfl
      · rw [q10] at h
        rw [q12]
        exact decide_eq_decide.2 ⟨fun e => .inr e, fun e => e.resolve_left (of_decide_eq_false h)⟩
  · refine Sif_cases (fun h => ⟨by trivial, ?_⟩) (fun h => ⟨by trivial, ?_⟩)
    · have : k = 9 := by rw [q9] at h; exact of_decide_eq_true h
      rw [q9]; subst this; rfl
    · rw [q9] at h
      rw [q16]
      exact decide_eq_decide.2 ⟨fun e => .inr e, fun e => e.resolve_left (of_decide_eq_false h)⟩
end Go.Proofs.YtnacobknngidkaaGreatDoor
namespace Go.Proofs.YtnacobknngidkaaGreatDoor
open Go Go.Sv Go.Note
set_option linter.unusedVariables false
attribute [local irreducible] Sif
set_option maxRecDepth 4000
theorem uVals : Tryz.prog.underlying 24 = some (.slice 26) := by kernel_rfl
theorem iVal : InfoIs Tryz.prog 26 5 64 (.agg #[.int .i64 0, .int .u64 0, .string ⟨#[]⟩, .slice none 0 0, .int .i64 0]) := .of (by kernel_rfl) (by kernel_rfl) (by kernel_rfl)
theorem gg (x : MV) : [Value.int .i64 x.k, .int .u64 (x.n : Int), .string ⟨x.t.toArray⟩, .slice x.s.p x.s.n x.s.c, .int .i64 x.e] = x.g := by cases x; rfl
theorem rowB_VE (own : Option Nat) (R : List MV) : VE.rowB own R = own.toList ++ R.flatMap MV.B := rfl
theorem pushL_ok {w : World} {p : Option Addr} {n c k : Nat} {own : Option Nat} {R xs : List MV} {te ty : TypeId} (h : VE.Row w p n c own R) (hx : ∀ x ∈ xs, VO w x) (hxd : (xs.flatMap MV.B).Nodup) (hd : ∀ b ∈ xs.flatMap MV.B, b ∉ VE.rowB own R) (hxs : xs.length = k) (h1 : n + k ≤ 2 ^ 41)
    {K : Option Addr → Nat → Nat → World → Prop}
    (hk : ∀ p' c' own' w', VE.Row w' p' (n + k) c' own' (R ++ xs) → (∀ b ∈ VE.rowB own' (R ++ xs), b ∈ VE.rowB own R ∨ b ∈ xs.flatMap MV.B ∨ w.heap.size ≤ b) → Ch (fun b => own = some b) w w' → K p' (n + k) c' w') :
    newB w (xs.flatMap MV.g) te fun a w2 => ∃ p5 n7 c5 w3, Sem.run Tryz.prog (Builtin.append_ #[24, 24] ty #[.slice p n c, .slice (some a) k k]) w2 = .ok (.slice p5 n7 c5) w3 ∧ K p5 n7 c5 w3 := by
  subst hxs
  obtain ⟨hl, ho, hr, hnd⟩ := h
  subst hl
  refine newB_blk fun w2 b2 c2 z2 => ?_
  have hone : ∀ u ∈ xs.flatMap MV.g, oneV u = true := by
    intro u hu
    obtain ⟨x, _, hx⟩ := List.mem_flatMap.1 hu
    exact MV.gone x u hx
  have hgl : (xs.flatMap MV.g).length = xs.length * 5 := flat_len MV.glen xs
  have hrd : Rd w2 (some ⟨w.heap.size, 0, none⟩) xs.length 5 (xs.flatMap MV.g) := ⟨hgl, .inr ⟨_, 0, _, rfl, blk_cells b2, by rw [hgl]; omega, by rw [List.drop_zero, List.take_of_length_le (by rw [hgl]; omega)]⟩⟩
  obtain ⟨p', c', w', own', r1, r2, r3, r4, _⟩ := append_rd (ty := ty) (c2 := xs.length) uVals uVals iVal rfl (ho.ch c2 fun _ _ => id) hrd hone (by omega) (by omega)
  refine ⟨p', _, c', w', r1, ?_⟩
  have hch : Ch (fun b => own = some b) w w' := (c2.mono fun _ _ h => h.elim).trans' r4
  have hn' : ∀ k, own' = some k → own = some k ∨ w.heap.size ≤ k := fun k hk => (r3 k hk).imp id fun h => by omega
  have hxl : ∀ b ∈ xs.flatMap MV.B, b < w.heap.size := fun b hb => by
    obtain ⟨x, hx1, hx2⟩ := List.mem_flatMap.1 hb
    exact VO.lt x (hx x hx1) b hx2
  have hRl : ∀ y ∈ R, ∀ b ∈ y.B, b < w.heap.size := fun y hy => VO.lt y (hr y hy)
  have hnd2 : ∀ b ∈ R.flatMap MV.B, own ≠ some b := fun b hb he => by
    rw [rowB_VE, he] at hnd
    exact (List.nodup_cons.1 hnd).1 hb
  have hnd3 : (R.flatMap MV.B).Nodup := (List.nodup_append.1 (by rw [rowB_VE] at hnd; exact hnd)).2.1
  have e : (R ++ xs).flatMap MV.g = R.flatMap MV.g ++ xs.flatMap MV.g := by simp
  refine hk p' c' own' w' ⟨by simp, by rw [show VE.g = MV.g by rfl, e]; exact r2, fun y hy => ?_, ?_⟩ (fun b hb => ?_) hch
  · rcases List.mem_append.1 hy with hy | hy
    · exact VO.ch hch y (hr y hy) fun b hb he => hnd2 b (List.mem_flatMap.2 ⟨y, hy, hb⟩) he
    · exact VO.ch hch y (hx y hy) fun b hb he => hd b (List.mem_flatMap.2 ⟨y, hy, hb⟩) (by rw [rowB_VE, he]; simp)
  · have base : ((R ++ xs).flatMap MV.B).Nodup := by
      rw [List.flatMap_append]
      refine List.nodup_append.2 ⟨hnd3, hxd, fun a ha b hb he => ?_⟩
      subst he
      exact hd a hb (by rw [rowB_VE]; exact List.mem_append.2 (.inr ha))
    rw [rowB_VE]
    cases own' with
    | none => simpa using base
    | some k =>
      show (k :: ((R ++ xs).flatMap MV.B)).Nodup
      refine List.nodup_cons.2 ⟨fun hm => ?_, base⟩
      rw [List.flatMap_append] at hm
      rcases hn' k rfl with q | q
      · rcases List.mem_append.1 hm with hm | hm
        · exact hnd2 k hm q
        · exact hd k hm (by rw [rowB_VE, q]; simp)
      · rcases List.mem_append.1 hm with hm | hm
        · obtain ⟨y, hy, hy2⟩ := List.mem_flatMap.1 hm
          have := hRl y hy k hy2; omega
        · have := hxl k hm; omega
  · rw [rowB_VE, List.flatMap_append] at hb
    rcases List.mem_append.1 hb with hb | hb
    · rcases hn' b (by simpa [Option.mem_toList] using hb) with q | q
      · exact .inl (by rw [rowB_VE, q]; simp)
      · exact .inr (.inr q)
    · rcases List.mem_append.1 hb with hb | hb
      · exact .inl (by rw [rowB_VE]; exact List.mem_append.2 (.inr hb))
      · exact .inr (.inl hb)
theorem Row.vrow {w : World} {p : Option Addr} {n c : Nat} {own : Option Nat} {R : List MV} (h : VE.Row w p n c own R) (hn : n ≤ 2 ^ 46) : VRow (· ∈ VE.rowB own R) w p n R := by
  obtain ⟨h1, h2, h3, h4⟩ := h
  refine ⟨h1, hn, h2.rd, fun a ha h0 => ?_, fun x hx => VO.vr x (h3 x hx) _ fun b hb => ?_⟩
  · have := ow_block h2 a ha h0
    rw [rowB_VE, this]; simp
  · rw [rowB_VE]
    exact List.mem_append.2 (.inr (List.mem_flatMap.2 ⟨x, hx, hb⟩))
def ValOk (S : ByteArray) (rb d : Nat) : Prop := ∀ (p : Nat) (w : World) (K : Value → World → Prop) (KP : List PanicEntry → World → Prop), RS S rb p w → LW w →
  (∀ x b w', rdM S.data.toList d p = .ok x.m b → VO w' x → (∀ k ∈ x.B, w.heap.size ≤ k) → RS S rb b w' → Ch (· = rb) w w' → K x.v w') →
  (∀ a e w', rdM S.data.toList d p = .bad a e → Ch (· = rb) w w' → KP (flt a e) w') →
  callX Tryz.prog 42 [.pointer (some ⟨rb, 0, none⟩), .int .i64 (33 - (d : Int))] w K KP
def elemI (elem : Option Nat) : Int := match elem with | none => -1 | some k => (k : Int)
theorem elements_ok {S : ByteArray} (hs : S.size ≤ 2 ^ 40) {rb d : Nat} (h2 : 8 ≤ rb) (hd : d ≤ 31) (hV : ValOk S rb d) {p : Nat} {elem : Option Nat} {w : World} (hr : RS S rb p w) (hL : LW w) {K : Value → World → Prop} {KP : List PanicEntry → World → Prop}
    (hk : ∀ R p' c own b w', elemsM (rdM S.data.toList d) S.data.toList elem p [] = .ok (R.map MV.m) b → VE.Row w' p' R.length c own R → R.length ≤ 2 ^ 40 → (∀ k ∈ VE.rowB own R, w.heap.size ≤ k) → RS S rb b w' → Ch (· = rb) w w' → K (.slice p' R.length c) w')
    (hp : ∀ a e w', elemsM (rdM S.data.toList d) S.data.toList elem p [] = .bad a e → Ch (· = rb) w w' → KP (flt a e) w') :
    callX Tryz.prog 73 [.pointer (some ⟨rb, 0, none⟩), .int .i64 (32 - (d : Int)), .int .i64 (elemI elem)] w K KP := by
  apply ok_note_reader_elements
  unfold wp_note_reader_elements
  have hlen := sl S
  have hrl := hr.lt
  refine ⟨fun m p1 n c w1 => ∃ R own q, n = R.length ∧ VE.Row w1 p1 n c own R ∧ (∀ k ∈ VE.rowB own R, w.heap.size ≤ k) ∧ RS S rb q w1 ∧ Ch (· = rb) w w1 ∧ R.length ≤ q ∧ m = S.size - q ∧ elemsM (rdM S.data.toList d) S.data.toList elem p [] = elemsM (rdM S.data.toList d) S.data.toList elem q (R.map MV.m),
    ⟨S.size - p, [], none, p, rfl, El.Row.nil, by simp [rowB_VE], hr, Ch.refl _ _, Nat.zero_le _, rfl, rfl⟩, ?_⟩
  rintro m p1 n c w1 ⟨R, own, q, rfl, hrow, hnew, hrq, c1, hRq, rfl, heq⟩
  have hL1 := hL.chr h2 c1
  have hq := hrq.2
  have hun := elemsM_eq (rdM_goes S.data.toList d) elem (a := q) (R.map MV.m) (by rw [hlen]; exact hq)
  refine callX_of (is_ok (c := 93) hrq ⟨_, rfl, ?_⟩)
  refine Sif_cases (fun h => ?_) (fun h => ?_)
  · rw [Bool.not_eq_true'] at h
    rw [h] at hun
    simp only [Bool.false_eq_true, if_false] at hun
    have h0 := hrq.1
    unfold rcl at h0
    simp only [nn, add_at, Nat.zero_add]
    refine ⟨_, cellK h0 3 rfl, ?_⟩
    rw [wrap_id (n := 32 - (d : Int) + 1) (by omega) (by omega), show 32 - (d : Int) + 1 = 33 - (d : Int) by omega]
    refine hV q w1 _ _ hrq hL1 (fun x b w3 hrd hvo hxb hrb c3 => ?_) (fun a e w3 hrd c3 => ?_)
    · have hgo := rdM_goes S.data.toList d q x.m b (by rw [hlen]; exact hq) hrd
      rw [hlen] at hgo
      rw [hrd] at hun
      obtain ⟨kb, hkb⟩ := rdM_begins hrd
      have h5 : (next S.data.toList q).kind ≠ 5 := by
        intro h5
        unfold begins at hkb
        simp [h5] at hkb
      refine is5 (nbx rfl fun w9 b9 c9 z9 => ?_)
      have c39 : Ch (fun _ => False) w3 w9 := c9
      have goOn : ∀ w10, w10 = w9 → elemsM (rdM S.data.toList d) S.data.toList elem p [] = elemsM (rdM S.data.toList d) S.data.toList elem b ((R ++ [x]).map MV.m) → ∃ n, w10.cell? (Addr.add ⟨w3.heap.size, 0, none⟩ 0) = some (.int .i64 n) ∧ ∃ n1, w10.cell? (Addr.add ⟨w3.heap.size, 0, none⟩ 1) = some (.int .u64 n1) ∧ ∃ s, w10.cell? (Addr.add ⟨w3.heap.size, 0, none⟩ 2) = some (.string s) ∧ ∃ p2 n8 c2, w10.cell? (Addr.add ⟨w3.heap.size, 0, none⟩ 3) = some (.slice p2 n8 c2) ∧ ∃ n9, w10.cell? (Addr.add ⟨w3.heap.size, 0, none⟩ 4) = some (.int .i64 n9) ∧
          newB w10 [.int .i64 n, .int .u64 n1, .string s, .slice p2 n8 c2, .int .i64 n9] 26 fun a2 w11 => ∃ p3 n10 c3 w12, Sem.run Tryz.prog (Builtin.append_ (Array.mk [24, 24]) 24 (Array.mk [.slice p1 R.length c, .slice (some a2) 1 1])) w11 = .ok (.slice p3 n10 c3) w12 ∧
            ∃ m', m' < S.size - q ∧ ∃ R own q, n10 = R.length ∧ VE.Row w12 p3 n10 c3 own R ∧ (∀ k ∈ VE.rowB own R, w.heap.size ≤ k) ∧ RS S rb q w12 ∧ Ch (· = rb) w w12 ∧ R.length ≤ q ∧ m' = S.size - q ∧ elemsM (rdM S.data.toList d) S.data.toList elem p [] = elemsM (rdM S.data.toList d) S.data.toList elem q (R.map MV.m) := by
        rintro w10 rfl heq2
        refine ldK b9 ?_
        rw [gg x]
        have hrow10 : VE.Row w10 p1 R.length c own R := (hrow.ch c3 fun b hb e => by have := hnew b hb; omega).ch c9 fun _ _ h => h
        have hvo10 : VO w10 x := VO.ch c9 x hvo fun _ _ h => h
        have hxl := VO.lt x hvo
        have hRl := hrow.lt
        have key := pushL_ok (te := 26) (ty := 24) (k := 1) (xs := [x]) hrow10 (fun y hy => by rw [List.mem_singleton.1 hy]; exact hvo10) (by simpa using hvo.inv.2.2.2.2) (fun b hb hb2 => by
          have h1 := hxb b (by simpa using hb)
          have h2 := hRl b hb2
          omega) rfl (by omega) (K := fun p3 n10 c3 w12 => ∃ m', m' < S.size - q ∧ ∃ R own q, n10 = R.length ∧ VE.Row w12 p3 n10 c3 own R ∧ (∀ k ∈ VE.rowB own R, w.heap.size ≤ k) ∧ RS S rb q w12 ∧ Ch (· = rb) w w12 ∧ R.length ≤ q ∧ m' = S.size - q ∧ elemsM (rdM S.data.toList d) S.data.toList elem p [] = elemsM (rdM S.data.toList d) S.data.toList elem q (R.map MV.m)) (fun p3 c4 own' w12 hrow12 hb12 c12 => by
            have hown : ∀ b, own = some b → w.heap.size ≤ b := fun b hb => hnew b (by rw [rowB_VE, hb]; simp)
            refine ⟨S.size - b, by omega, R ++ [x], own', b, by simp, hrow12, fun k hk => ?_, (hrb.chr c9).ch c12 fun e => ?_, ((c1.trans' c3).trans' (c9.mono fun _ _ h => h.elim)).trans c12 fun y hy h => ?_, by simp; omega, rfl, heq2⟩
            · rcases hb12 k hk with h | h | h
              · exact hnew k h
              · have := hxb k (by simpa using h)
                have := c1.size; omega
              · have := c1.size; have := c3.size; have := c9.size; omega
            · have := hown rb e; omega
            · have := hown y h; omega)
        rw [show [x].flatMap MV.g = x.g by simp] at key
        exact key
      refine ⟨fun w10 => w10 = w9 ∧ elemsM (rdM S.data.toList d) S.data.toList elem p [] = elemsM (rdM S.data.toList d) S.data.toList elem b ((R ++ [x]).map MV.m), fun w10 ⟨h1, h2⟩ => goOn w10 h1 h2, ?_⟩
      have hok : (elem = none ∨ ∃ k, elem = some k ∧ x.m.k = (k : Int)) → elemsM (rdM S.data.toList d) S.data.toList elem p [] = elemsM (rdM S.data.toList d) S.data.toList elem b ((R ++ [x]).map MV.m) := by
        intro h
        rw [heq, hun, List.map_append]
        rcases h with rfl | ⟨k, rfl, h⟩
        · rfl
        · simp only [h, if_true]; rfl
      have hxk : x.m.k = x.k := by cases x; rw [MV.m_mk]; rfl
      refine Sif_cases (fun he => ?_) (fun he => ⟨by trivial, hok (.inl ?_)⟩)
      · have he := of_decide_eq_true he
        cases elem with
        | none => exact absurd he (by decide)
        | some k =>
          simp only [add_at, Nat.zero_add]
          refine ⟨x.k, by cases x; exact cellK b9 0 rfl, ?_⟩
          rw [int_bne]
          refine Sif_cases (fun h6 => ?_) (fun h6 => ⟨by trivial, hok (.inr ⟨k, rfl, ?_⟩)⟩)
          · rw [Bool.not_eq_true'] at h6
            have h6 := of_decide_eq_false h6
            refine fail_ok (e := 24) (hp _ _ w9 ?_ ((c1.trans' c3).trans' (c9.mono fun _ _ h => h.elim)))
            rw [heq, hun]
            simp only
            rw [if_neg (by rw [hxk]; exact h6)]
            unfold amiss
            rw [if_neg h5]
          · rw [Bool.not_eq_false'] at h6
            rw [hxk]; exact of_decide_eq_true h6
      · have he := of_decide_eq_false he
        cases elem with
        | none => rfl
        | some k => exact absurd (by show (k : Int) ≥ 0; omega) he
    · rw [hrd] at hun
      exact hp a e w3 (by rw [heq, hun]) (c1.trans' c3)
  · rw [Bool.not_eq_false'] at h
    rw [h] at hun
    simp only [if_true] at hun
    refine callX_of (step_ok' hs hrq hL1.ut (by omega) fun w3 r3 c3 => ⟨_, _, _, rfl, ?_⟩)
    exact hk R p1 c own _ w3 (by rw [heq, hun]) (hrow.ch c3 fun b hb e => by have := hnew b hb; omega) (by omega) hnew r3 (c1.trans' c3)
theorem wanted_ty {α β : Type} {t : Tok} {a e : Nat} (h : (wanted t : Go.Note.Fd α) = .bad a e) : (wanted t : Go.Note.Fd β) = .bad a e := by
  unfold wanted amiss at h ⊢
  by_cases c : t.kind = 0 ∨ closes t = true
  · rw [if_pos c] at h ⊢; cases h; rfl
  · rw [if_neg c] at h ⊢; cases h; rfl
theorem keys_dup {l : List M} (hev : l.length % 2 = 0) : (keysOf l).Nodup ↔ ∀ i k, k < i → 2 * i < l.length → l[2 * i]? ≠ l[2 * k]? := by
  have hlen := keysOf_even l hev
  unfold List.Nodup
  rw [List.pairwise_iff_getElem]
  constructor
  · intro h i k hki hi e
    have hi' : i < (keysOf l).length := by omega
    refine h k i (by omega) hi' hki ?_
    have h1 := keysOf_get l k hev
    have h2 := keysOf_get l i hev
    rw [List.getElem?_eq_getElem (by omega)] at h1
    rw [List.getElem?_eq_getElem hi', e, ← h1] at h2
    exact (Option.some.inj h2).symm
  · intro h i j hi hj hij e
    have h1 := keysOf_get l i hev
    have h2 := keysOf_get l j hev
    rw [List.getElem?_eq_getElem hi] at h1
    rw [List.getElem?_eq_getElem hj, ← e, h1] at h2
    exact h j i hij (by omega) h2.symm
theorem pairs_ok {S : ByteArray} (hs : S.size ≤ 2 ^ 40) {rb d : Nat} (h2 : 8 ≤ rb) (hd : d ≤ 31) (hV : ValOk S rb d) {p o : Nat} {w : World} (hr : RS S rb p w) (hL : LW w) {K : Value → World → Prop} {KP : List PanicEntry → World → Prop}
    {r : Go.Note.Fd M} (hrr : r = if (next S.data.toList p).is 125 = true then shut [] o (next S.data.toList p).fin else match pairsM (rdM S.data.toList d) S.data.toList p [] with
      | .bad a e => .bad a e
      | .ok l a => shut l o a)
    (hk : ∀ R p' c own b w', r = .ok (.mk 22 0 [] 0 (R.map MV.m)) b → VE.Row w' p' R.length c own R → R.length ≤ 2 ^ 40 → (∀ k ∈ VE.rowB own R, w.heap.size ≤ k) → RS S rb b w' → Ch (· = rb) w w' → K (.slice p' R.length c) w')
    (hp : ∀ a e w', r = .bad a e → Ch (· = rb) w w' → KP (flt a e) w') :
    callX Tryz.prog 74 [.pointer (some ⟨rb, 0, none⟩), .int .i64 (o : Int), .int .i64 (32 - (d : Int))] w K KP := by
  apply ok_note_reader_pairs
  unfold wp_note_reader_pairs
  have hlen := sl S
  have hrl := hr.lt
  obtain ⟨s, hsd⟩ : ∃ s, s = S.data.toList := ⟨_, rfl⟩
  rw [← hsd] at hrr hlen
  have RSd : ∀ {q w}, RS S rb q w → RS S rb q w := fun h => h
  refine callX_of (is_ok (c := 125) hr ⟨_, rfl, ?_⟩)
  rw [← hsd]
  -- where the reading stands: what is left to be read gives r
  obtain ⟨Rest, hRest⟩ : ∃ Rest : Bool → Nat → List M → Prop, Rest = fun more q acc => (more = true → r = match pairsM (rdM s d) s q acc with
      | .bad a e => .bad a e
      | .ok l a => shut l o a) ∧ (more = false → ((next s q).is 125 = true → r = shut acc o (next s q).fin) ∧ ((next s q).is 125 = false → r = wanted (next s q))) := ⟨_, rfl⟩
  refine ⟨fun m p1 n c more w1 => ∃ R own q, n = R.length ∧ VE.Row w1 p1 n c own R ∧ (∀ k ∈ VE.rowB own R, w.heap.size ≤ k) ∧ RS S rb q w1 ∧ Ch (· = rb) w w1 ∧ R.length ≤ 2 * q ∧ R.length % 2 = 0 ∧ m = S.size + 1 - q + (if more then 1 else 0) ∧ Rest more q (R.map MV.m), ⟨_, [], none, p, rfl, El.Row.nil, by simp [rowB_VE], hr, Ch.refl _ _, by simp, rfl, rfl, ?_⟩, ?_⟩
  · rw [hRest]
    refine ⟨fun hm => ?_, fun hm => ⟨fun h => ?_, fun h => ?_⟩⟩
    · rw [Bool.not_eq_true'] at hm
      rw [hrr, hm]; rfl
    · rw [hrr, if_pos h]; rfl
    · rw [h] at hm; cases hm
  rintro m p1 n c more w1 ⟨R, own, q, rfl, hrow, hnew, hrq, c1, hRq, hev, rfl, hrest⟩
  have hL1 := hL.chr h2 c1
  have hq := hrq.2
  have c1s := c1.size
  refine Sif_cases (fun hmore => ?_) (fun hmore => ?_)
  · subst hmore
    rw [hRest] at hrest
    have hrest := hrest.1 rfl
    have hun := pairsM_eq (rdM_goes s d) (a := q) (R.map MV.m) (by rw [hlen]; exact hq)
    rw [wrap_id (n := 32 - (d : Int) + 1) (by omega) (by omega), show 32 - (d : Int) + 1 = 33 - (d : Int) by omega]
    refine hV q w1 _ _ hrq hL1 (fun x b w3 hrd hvo hxb hrb c3 => ?_) (fun a e w3 hrd c3 => ?_)
    rotate_left
    · rw [← hsd] at hrd
      rw [hrd] at hun
      exact hp a e w3 (by rw [hrest, hun]) (c1.trans' c3)
    rw [← hsd] at hrd
    have hgo := rdM_goes s d q x.m b (by rw [hlen]; exact hq) hrd
    rw [hlen] at hgo
    rw [hrd] at hun
    simp only at hun
    have c3s := c3.size
    refine is5 (nbx rfl fun w9 b9 c9 z9 => ?_)
    have c19 : Ch (· = rb) w w9 := (c1.trans' c3).trans' (c9.mono fun _ _ h => h.elim)
    have hL9 := hL.chr h2 c19
    refine want_ok (c := 58) hs (hrb.chr c9) hL9.ut (by omega) (fun h58 w10 r10 c10 => ⟨by trivial, ?_⟩) (fun h58 a e hw => ?_)
    rotate_left
    · rw [← hsd] at h58 hw
      rw [h58] at hun
      refine hp a e w9 ?_ c19
      rw [hrest, hun]
      rw [if_pos rfl, wanted_ty (β := List M) hw]
    rw [← hsd] at h58 r10
    rw [h58] at hun
    simp only [Bool.true_eq_false, if_false] at hun
    have c110 := c19.trans' c10
    have hL10 := hL.chr h2 c110
    have b10 : blk w10 w3.heap.size = some x.g := (c10.blk (blk_lt b9) (by omega)).trans b9
    have b10d : blk w10.drew w3.heap.size = some x.g := b10
    refine ldK b10d ?_
    have hn58 := next_lies s b (by rw [hlen]; omega)
    refine hV _ w10.drew _ _ (r10.chr (Ch.drew _)) (hL10.ch0 (Ch.drew _)) (fun y e w11 hrd2 hvo2 hyb hrb2 c11 => ?_) (fun a e w11 hrd2 c11 => ?_)
    rotate_left
    · rw [← hsd] at hrd2
      rw [hrd2] at hun
      exact hp a e w11 (by rw [hrest, hun]) ((c110.trans' (Ch.drew _)).trans' c11)
    rw [← hsd] at hrd2
    have hgo2 := rdM_goes s d _ y.m e (by omega) hrd2
    rw [hlen] at hgo2
    rw [hrd2] at hun
    simp only at hun
    have c1011 : Ch (· = rb) w10 w11 := (Ch.drew _).trans' c11
    have c10s := c10.size
    have c11s := c1011.size
    have c9s := c9.size
    have b11 : blk w11 w3.heap.size = some x.g := (c1011.blk (blk_lt b10) (by omega)).trans b10
    refine is5 ⟨ldK b11 (by rfl), ?_⟩
    rw [show [Value.int .i64 x.k, .int .u64 (x.n : Int), .string ⟨x.t.toArray⟩, .slice x.s.p x.s.n x.s.c, .int .i64 x.e, .int .i64 y.k, .int .u64 (y.n : Int), .string ⟨y.t.toArray⟩, .slice y.s.p y.s.n y.s.c, .int .i64 y.e] = [x, y].flatMap MV.g by rw [List.flatMap_cons, List.flatMap_cons, ← gg x, ← gg y]; rfl]
    have c311 : Ch (· = rb) w3 w11 := ((c9.mono (S' := (· = rb)) fun _ _ h => h.elim).trans' c10).trans' c1011
    have c111 : Ch (· = rb) w w11 := (c1.trans' c3).trans' c311
    have hvo11 : VO w11 x := VO.ch c311 x hvo fun b hb e => by have := hxb b hb; omega
    have hrow11 : VE.Row w11 p1 R.length c own R := hrow.ch ((c3.trans' c311)) fun b hb e => by have := hnew b hb; omega
    have hRl := hrow.lt
    have hxl := VO.lt x hvo
    have hL11 := hL.chr h2 c111
    refine pushL_ok (te := 26) (ty := 24) (k := 2) (xs := [x, y]) hrow11 (fun z hz => by
      simp only [List.mem_cons, List.not_mem_nil, or_false] at hz
      rcases hz with h | h
      · rw [h]; exact hvo11
      · rw [h]; exact hvo2) ?_ (fun b' hb hb2 => ?_) rfl (by omega) fun p4 c4 own' w13 hrow13 hb13 c13 => ?_
    · have h1 := hvo.inv.2.2.2.2
      have h3 := hvo2.inv.2.2.2.2
      simp only [List.flatMap_cons, List.flatMap_nil, List.append_nil]
      refine List.nodup_append.2 ⟨h1, h3, fun a ha b' hb' e => ?_⟩
      subst e
      have := hxl a ha
      have := hyb a hb'
      have hz : w10.drew.heap.size = w10.heap.size := rfl
      omega
    · have hlt := hRl b' hb2
      simp only [List.flatMap_cons, List.flatMap_nil, List.append_nil, List.mem_append] at hb
      have hz : w10.drew.heap.size = w10.heap.size := rfl
      rcases hb with h | h
      · have := hxb b' h; omega
      · have := hyb b' h; omega
    · have hown : ∀ b, own = some b → w.heap.size ≤ b := fun b hb => hnew b (by rw [rowB_VE, hb]; simp)
      have hz : w10.drew.heap.size = w10.heap.size := rfl
      have hrb13 : RS S rb e w13 := hrb2.ch c13 fun e' => by have := hown rb e'; omega
      have c113 : Ch (· = rb) w w13 := c111.trans c13 fun z hz h => by have := hown z h; omega
      have hL13 := hL.chr h2 c113
      have hnew13 : ∀ k ∈ VE.rowB own' (R ++ [x, y]), w.heap.size ≤ k := fun k hk => by
        rcases hb13 k hk with h | h | h
        · exact hnew k h
        · simp only [List.flatMap_cons, List.flatMap_nil, List.append_nil, List.mem_append] at h
          rcases h with h | h
          · have := hxb k h; omega
          · have := hyb k h; omega
        · have := c111.size; omega
      have hacc : (R ++ [x, y]).map MV.m = R.map MV.m ++ [x.m, y.m] := by simp
      refine callX_of (is_ok (c := 44) hrb13 ⟨_, rfl, ?_⟩)
      rw [← hsd]
      have hnx := next_lies s e (by omega)
      rw [hlen] at hnx
      refine Sif_cases (fun h44 => ?_) (fun h44 => ?_)
      · have n125 : (next s e).is 125 = false := by
          simp only [Tok.is, Bool.and_eq_true, decide_eq_true_eq] at h44
          simp only [Tok.is, h44.1, h44.2]; decide
        rw [n125, h44] at hun
        simp only [Bool.false_eq_true, Bool.true_eq_false, if_false] at hun
        have h44lt := next_of_is (s := s) (a := e) (c := 44) (by omega) h44
        refine callX_of (step_ok' hs hrb13 hL13.ut (by omega) fun w15 r15 c15 => ⟨_, _, _, rfl, ?_⟩)
        rw [← hsd] at r15
        refine ⟨_, ?_, R ++ [x, y], own', (next s e).fin, by simp, hrow13.ch c15 fun b hb e => by have := hnew13 b hb; omega, hnew13, r15, c113.trans' c15, by simp; omega, by simp; omega, rfl, ?_⟩
        · rw [h44]; simp; omega
        · rw [hRest, h44]
          refine ⟨fun _ => ?_, fun h => by cases h⟩
          rw [hrest, hun, hacc]
      · refine ⟨_, ?_, R ++ [x, y], own', e, by simp, hrow13, hnew13, hrb13, c113, by simp; omega, by simp; omega, rfl, ?_⟩
        · rw [h44]; simp; omega
        · rw [hRest, h44]
          refine ⟨fun h => (by cases h), fun _ => ⟨fun h => ?_, fun h => ?_⟩⟩
          · rw [h] at hun
            rw [hrest, hun, hacc]; rfl
          · rw [h, h44] at hun
            simp only [Bool.false_eq_true, if_false, if_true] at hun
            rw [hrest, hun]
            cases hw : (wanted (next s e) : Go.Note.Fd (List M)) with
            | ok l b => exact absurd hw wanted_ne
            | bad a e' => rw [wanted_ty (β := M) hw]
  · subst hmore
    rw [hRest] at hrest
    have hrest := hrest.2 rfl
    refine want_ok (c := 125) hs hrq hL1.ut (by omega) (fun h125 w3 r3 c3 => ⟨by trivial, ?_⟩) (fun h125 a e hw => ?_)
    rotate_left
    · rw [← hsd] at h125 hw
      exact hp a e w1 (by rw [hrest.2 h125, hw]) c1
    rw [← hsd] at h125 r3
    have hr' := hrest.1 h125
    have c13 := c1.trans' c3
    have hrow3 : VE.Row w3 p1 R.length c own R := hrow.ch c3 fun b hb e => by have := hnew b hb; omega
    have hvr3 := Row.vrow hrow3 (by omega)
    have hrlen : R.length ≤ 2 ^ 41 := by omega
    have hmlen : (R.map MV.m).length = R.length := by simp
    have r3' : RS S rb (next s q).fin w3 := r3
    have bad : (2048 < R.length ∨ ¬ (keysOf (R.map MV.m)).Nodup) → ∀ w', Ch (fun _ => False) w3 w' → KP (flt o 23) w' := fun h w' c => by
      refine hp o 23 w' ?_ (c13.trans' (c.mono fun _ _ h => h.elim))
      rw [hr']
      unfold shut
      rw [if_pos (by rw [hmlen]; exact h)]
    refine ⟨fun w4 => w4 = w3 ∧ R.length ≤ 2048, ?_, ?_⟩
    · rintro w4 ⟨rfl, hsmall⟩
      have noeq : ∀ i k, k < i → i < R.length → ∀ x y, R[i]? = some x → R[k]? = some y → i % 2 = 0 → k % 2 = 0 → x.m = y.m → ¬ (keysOf (R.map MV.m)).Nodup := by
        intro i k hki hi x y hx hy hi2 hk2 he hnd
        have := (keys_dup (by rw [hmlen]; exact hev)).1 hnd (i / 2) (k / 2) (by omega) (by rw [hmlen]; omega)
        apply this
        rw [show 2 * (i / 2) = i by omega, show 2 * (k / 2) = k by omega, List.getElem?_map, List.getElem?_map, hx, hy]
        simp [he]
      refine ⟨fun m1 n1 w5 => ∃ i : Nat, n1 = (i : Int) ∧ i % 2 = 0 ∧ i ≤ R.length ∧ m1 = R.length - i ∧ Ch (fun _ => False) w4 w5 ∧ ∀ i' k, k < i' → i' < i → i' % 2 = 0 → k % 2 = 0 → ∀ x y, R[i']? = some x → R[k]? = some y → x.m ≠ y.m, ⟨R.length, 0, rfl, rfl, Nat.zero_le _, rfl, Ch.refl _ _, fun i' k _ h => by omega⟩, ?_⟩
      rintro m1 n1 w5 ⟨i, rfl, hi2, hile, rfl, c5, hall⟩
      refine Sif_cases (fun h => ?_) (fun h => ?_)
      · have hil : i < R.length := by have := of_decide_eq_true h; omega
        refine ⟨fun m2 n2 w6 => ∃ k : Nat, n2 = (k : Int) ∧ k % 2 = 0 ∧ k ≤ i ∧ m2 = i - k ∧ Ch (fun _ => False) w4 w6 ∧ ∀ k', k' < k → k' % 2 = 0 → ∀ x y, R[i]? = some x → R[k']? = some y → x.m ≠ y.m, ⟨i, 0, rfl, rfl, Nat.zero_le _, rfl, c5, fun k' h => by omega⟩, ?_⟩
        rintro m2 n2 w6 ⟨k, rfl, hk2, hki, rfl, c6, hall2⟩
        refine Sif_cases (fun h => ?_) (fun h => ?_)
        · have hkl : k < i := by have := of_decide_eq_true h; omega
          obtain ⟨x, hxi⟩ : ∃ x, R[i]? = some x := ⟨R[i], List.getElem?_eq_getElem _⟩
          obtain ⟨y, hyi⟩ : ∃ y, R[k]? = some y := ⟨R[k], List.getElem?_eq_getElem _⟩
          have hv6 := hvr3.ch0 (c6.trans' (Ch.drew _))
          obtain ⟨bx, ox, px, _, ax⟩ := hv6.at hxi
          obtain ⟨by', oy, py, _, ay⟩ := hv6.at hyi
          rw [px] at py
          obtain ⟨rfl, rfl⟩ : bx = by' ∧ ox = oy := by simpa using py
          refine ⟨fun w7 => Ch (fun _ => False) w4 w7 ∧ x.m ≠ y.m, ?_, by omega, by omega, ?_⟩
          · rintro w7 ⟨c7, hne⟩
            simp only [nameI]
            rw [wrap_id (n := (k : Int) + 2) (by omega) (by omega)]
            refine ⟨i - (k + 2), by omega, k + 2, by omega, by omega, by omega, rfl, c7, fun k' hk' hk2' a b ha hb => ?_⟩
            by_cases e : k' = k
            · subst e
              rw [hxi] at ha; rw [hyi] at hb
              cases ha; cases hb; exact hne
            · exact hall2 k' (by omega) hk2' a b ha hb
          · rw [px]
            simp only [nn]
            refine ⟨by omega, by omega, ?_⟩
            refine ldR ax (ldR ay ?_)
            rw [vv x, vv y]
            refine callX_of (vEqual_ok x y (hv6.2.2.2.2 x (List.mem_of_getElem? hxi)) (hv6.2.2.2.2 y (List.mem_of_getElem? hyi)) fun w7 c7 => ⟨_, rfl, ?_⟩)
            have c47 := (c6.trans' (Ch.drew _)).trans' c7
            refine Sif_cases (fun h => ?_) (fun h => ⟨c47, of_decide_eq_false h⟩)
            exact fail_ok (e := 23) (bad (.inr (noeq i k hkl hil x y hxi hyi hi2 hk2 (of_decide_eq_true h))) w7 c47)
        · have hkl : k = i := by have := of_decide_eq_false h; omega
          subst hkl
          simp only [nameI]
          rw [wrap_id (n := (k : Int) + 2) (by omega) (by omega)]
          refine ⟨R.length - (k + 2), by omega, k + 2, by omega, by omega, by omega, rfl, c6, fun i' k' hk' hi' hi2' hk2' a b ha hb => ?_⟩
          by_cases e : i' = k
          · subst e
            exact hall2 k' hk' hk2' a b ha hb
          · exact hall i' k' hk' (by omega) hi2' hk2' a b ha hb
      · have hil : i = R.length := by have := of_decide_eq_false h; omega
        subst hil
        refine hk R p1 c own (next s q).fin w5 ?_ (hrow3.ch c5 fun _ _ h => h) (by omega) hnew (r3'.chr c5) (c13.trans' (c5.mono fun _ _ h => h.elim))
        rw [hr']
        unfold shut
        rw [if_neg]
        rintro (h | h)
        · omega
        · apply h
          refine (keys_dup (by rw [hmlen]; exact hev)).2 fun i k hki hi2 e => ?_
          rw [hmlen] at hi2
          rw [List.getElem?_map, List.getElem?_map] at e
          have hx : R[2 * i]? = some R[2 * i] := List.getElem?_eq_getElem hi2
          have hy : R[2 * k]? = some (R[2 * k]'(by omega)) := List.getElem?_eq_getElem _
          refine hall (2 * i) (2 * k) (by omega) hi2 (by omega) (by omega) _ _ hx hy ?_
          rw [hx, hy] at e
          simpa using e
    · refine Sif_cases (fun h => ?_) (fun h => ⟨by trivial, ?_⟩)
      · exact fail_ok (e := 23) (bad (.inl (by have := of_decide_eq_true h; omega)) w3 (Ch.refl _ _))
      · have := of_decide_eq_false h; omega
end Go.Proofs.YtnacobknngidkaaGreatDoor
namespace Go.Sv
open Go Go.Sort Go.RowKit Go.Shelf Go.Proofs
set_option linter.unusedVariables false
structure Qt (w w' : World) : Prop where
  ch : Ch (fun _ => False) w w'
  dr : w.drawn ≤ w'.drawn
theorem Qt.refl (w : World) : Qt w w := ⟨Ch.refl _ _, Nat.le_refl _⟩
theorem Qt.trans {a b c : World} (h : Qt a b) (k : Qt b c) : Qt a c := ⟨h.ch.trans' k.ch, Nat.le_trans h.dr k.dr⟩
theorem Qt.drew (w : World) : Qt w w.drew := ⟨Ch.drew w, Nat.le_succ _⟩
theorem newB_qt {w : World} {cs : List Value} {t : TypeId} {K : Addr → World → Prop}
    (hk : ∀ w', blk w' w.heap.size = some cs → Qt w w' → w'.heap.size = w.heap.size + 1 → K ⟨w.heap.size, 0, none⟩ w') : newB w cs t K :=
  hk _ (alloc_blk w cs t) ⟨alloc_ch w _, Nat.le_refl _⟩ (by simp)
theorem Qt.grow {w w' : World} (h : Qt w w') : ∃ q os, w' = Go.Sort.grow (w.drewN q) os := by
  refine ⟨w'.drawn - w.drawn, w'.heap.extract w.heap.size w'.heap.size, ?_⟩
  obtain ⟨⟨h1, h2, h3, h4, h5⟩, h6⟩ := h
  have hh : w'.heap = w.heap ++ w'.heap.extract w.heap.size w'.heap.size := by
    apply Array.ext_getElem?
    intro i
    by_cases hi : i < w.heap.size
    · rw [Array.getElem?_append_left hi, h5 i hi id]
    · by_cases hi2 : i < w'.heap.size
      · rw [Array.getElem?_append_right (by omega), Array.getElem?_extract, if_pos (by omega)]
        congr 1; omega
      · rw [Array.getElem?_eq_none (by omega), Array.getElem?_eq_none (by simp; omega)]
  have hd : w'.drawn = w.drawn + (w'.drawn - w.drawn) := by omega
  cases w
  cases w'
  simp only [Go.Sort.grow, World.drewN] at *
  subst h1 h2 h3
  rw [← hh, ← hd]
section
variable {α : Type} [Inhabited α]
theorem flatK_list {enc : α → List Value} {k : Nat} (hk : ∀ x, (enc x).length = k) (d : Array α) : (flatK enc k d).toList = d.toList.flatMap enc := by
  apply List.ext_getElem?
  intro t
  by_cases ht : t < d.size * k
  · have k0 : 0 < k := by rcases Nat.eq_zero_or_pos k with h | h; subst h; simp at ht; exact h
    have hq : t / k < d.size := (Nat.div_lt_iff_lt_mul k0).2 ht
    have hm := Nat.mod_lt t k0
    have hdm : t / k * k + t % k = t := by rw [Nat.mul_comm]; exact Nat.div_add_mod t k
    have h1 := flat_get hk d.toList (t / k) (t % k) hm
    rw [hdm] at h1
    rw [h1]
    have h2 : (flatK enc k d).toList[t]? = some ((flatK enc k d)[t]!) := by
      rw [Array.getElem?_toList, Array.getElem?_eq_getElem (by simpa using ht), getElem!_pos _ t (by simpa using ht)]
    rw [h2, get_flatK enc k d t ht, getElem!_pos d _ hq, getElem!_pos (enc d[t / k]) _ (by rw [hk]; exact hm)]
    rw [Array.getElem?_toList, Array.getElem?_eq_getElem hq, Option.bind_some, List.getElem?_eq_getElem (by rw [hk]; exact hm)]
  · rw [List.getElem?_eq_none (by simpa using ht), List.getElem?_eq_none (by rw [flat_len hk]; simpa using ht)]
theorem putRow_blk' {w : World} {b off : Nat} {d : Array Value} {cs : List Value} (h : blk w b = some cs) (hl : off + d.size ≤ cs.length) :
    ∃ cs', blk (putRow id w b off d) b = some cs' ∧ cs'.length = cs.length ∧ (cs'.drop off).take d.size = d.toList ∧ Ch (· = b) w (putRow id w b off d) := by
  unfold blk at h
  split at h
  · rename_i c e fz heq
    split at h
    case isFalse => cases h
    rename_i hfz
    have hc : c.toList = cs := by simpa using h
    subst hc
    have hsz : (putCells id off d c).size = c.size := by simp [putCells]
    refine ⟨(putCells id off d c).toList, ?_, by simp [putCells], ?_, ⟨rfl, rfl, rfl, by simp [putRow, mapBlock], fun x hx hne => ?_⟩⟩
    · unfold blk
      have : (putRow id w b off d).heap[b]? = some (.cells (putCells id off d c) e fz) := by
        simp only [putRow, mapBlock, Array.getElem?_modify, if_true, heq, Option.map_some, onCells]
      rw [this]
      simp only [hsz, if_pos hfz]
    · apply List.ext_getElem?
      intro k
      rw [List.getElem?_take]
      simp only [List.getElem?_drop, Array.getElem?_toList, putCells, Array.getElem?_mapIdx]
      by_cases hk : k < d.size
      · have h1 : off + k < c.size := by simp at hl; omega
        rw [if_pos hk, Array.getElem?_eq_getElem h1, Option.map_some, if_pos ⟨by omega, by omega⟩, show off + k - off = k by omega, getElem!_pos d k hk, Array.getElem?_eq_getElem hk]; rfl
      · rw [if_neg hk, Array.getElem?_eq_none (by omega)]
    · simp only [putRow, mapBlock, Array.getElem?_modify]
      rw [if_neg (fun e => hne e.symm)]
  · cases h
theorem sort_grow_ch {w : World} (os : Array Obj) : Ch (fun _ => False) w (Go.Sort.grow w os) :=
  ⟨rfl, rfl, rfl, by simp [Go.Sort.grow], fun b hb _ => by simp only [Go.Sort.grow]; rw [Array.getElem?_append_left hb]⟩
end
end Go.Sv
namespace Go.Sv
open Go Go.Sort Go.RowKit Go.Shelf Go.Proofs
set_option linter.unusedVariables false
section
variable {α : Type} [Inhabited α]
theorem sortW_ok {P : Program} {ρ : Ren} (Ly : SlLaysF0.n6 P ρ) {k : Nat} (aE : ∀ w, (isAgg (ρ.t 24)).run P w = .ok true w) (zE : ∀ w, (Go.sizeOf (ρ.t 24)).run P w = .ok k w) {enc : α → List Value} (henc : ∀ x, (enc x).length = k) (h1 : ∀ x, ∀ v ∈ enc x, oneV v = true)
    {cf : α → α → Int} (hO : SWO (ltOf cf)) {g : Nat} (eg : ∀ args w, (callFunc g args).run P w = .ok (.enter g args) w)
    {w : World} {p : Option Addr} {c : Nat} {b : Option Nat} {L : List α}
    (hcmp : ∀ (x y : α) (W : World), Ch (fun j => b = some j) w W → Calls P g #[.agg (enc x).toArray, .agg (enc y).toArray] W fun e w' => e = .returned (.int .i64 (cf x y)) ∧ Qt W w')
    (ho : Ow w p L.length c k (L.flatMap enc) b) (hk0 : 0 < k) (hL : L.length ≤ 2 ^ 40) {K : Value → World → Prop}
    (hK : ∀ (w' : World) (L' : List α), L'.Perm L → (L'.Pairwise fun x y => ltOf cf y x = false) → Ow w' p L.length c k (L'.flatMap enc) b → Ch (fun j => b = some j) w w' → K (.tuple #[]) w') : callP P (ρ.f 6) [.slice p L.length c, .func (.func g) #[] #[]] w K := by
  by_cases h0 : L.length = 0
  · have : L = [] := List.eq_nil_of_length_eq_zero h0
    subst this
    exact Calls.mono (AnyF.slices_SortFunc_none Ly p c (.func (.func g) #[] #[]) w) fun e w' ⟨he, hw⟩ => ⟨_, he, hw ▸ hK _ [] (.refl _) .nil ho (Ch.refl _ _)⟩
  obtain ⟨g1, g2, g3⟩ := ho
  rcases g3 with ⟨_, g3⟩ | ⟨kb, o, cs, rfl, rfl, hbk, hl, ht⟩
  · have : L.length * k ≤ c * k := Nat.mul_le_mul_right _ g2
    have : 0 < L.length * k := Nat.mul_pos (by omega) hk0
    omega
  have hmul : L.length * k ≤ c * k := Nat.mul_le_mul_right _ g2
  have hH : HoldsK enc k w kb o L.toArray := fun j hj => by
    have hj' : j < L.length * k := by simpa using hj
    refine ⟨?_, frozen_blk hbk (by omega)⟩
    obtain ⟨v, hv⟩ : ∃ v, (L.flatMap enc)[j]? = some v := ⟨_, List.getElem?_eq_getElem (by rw [flat_len henc]; exact hj')⟩
    have e1 : (flatK enc k L.toArray)[j]! = v := by
      have h2 := flatK_list henc L.toArray
      have h3 : (flatK enc k L.toArray).toList[j]? = some v := by rw [h2]; exact hv
      rw [Array.getElem?_toList, Array.getElem?_eq_getElem hj] at h3
      rw [getElem!_pos _ j hj]
      exact Option.some.inj h3
    rw [← ht, List.getElem?_take, if_pos (by omega), List.getElem?_drop] at hv
    rw [cell_blk hbk, hv, e1]; rfl
  have hworld : ∀ (m : Nat) (os : Array Obj) (dk : Array α), dk.size = L.length → ∃ cs', blk (sortWorldK enc k w kb o m dk os) kb = some cs' ∧ cs'.length = cs.length ∧ (cs'.drop o).take (L.length * k) = dk.toList.flatMap enc ∧ Ch (fun j => some kb = some j) w (sortWorldK enc k w kb o m dk os) := by
    intro m os dk hs
    have hb2 : blk (Go.Sort.ahead w m) kb = some cs := hbk
    obtain ⟨cs', q1, q2, q3, q4⟩ := putRow_blk' (off := o) (d := flatK enc k dk) hb2 (by rw [size_flatK, hs]; omega)
    have q5 := sort_grow_ch (w := putRowK enc k (Go.Sort.ahead w m) kb o dk) os
    refine ⟨cs', by rw [show sortWorldK enc k w kb o m dk os = Go.Sort.grow (putRowK enc k (Go.Sort.ahead w m) kb o dk) os by rfl, q5.blk (blk_lt q1) id]; exact q1, q2, ?_, ((⟨rfl, rfl, rfl, Nat.le_refl _, fun _ _ _ => rfl⟩ : Ch (fun j => some kb = some j) w (Go.Sort.ahead w m)).trans' ((q4.mono fun x _ h => by rw [h]).trans' (q5.mono fun _ _ h => h.elim)))⟩
    rw [size_flatK, hs, flatK_list henc] at q3
    exact q3
  have gg := AnyQ.slices_SortFunc Ly k aE zE enc henc (fun x v hv => by rw [oneCell_of]; exact h1 x v hv) cf hO g #[] kb o c L.toArray w eg (fun m os dk hs x y => by
    obtain ⟨_, _, _, _, hc⟩ := hworld m os dk (by simpa using hs)
    exact (hcmp x y _ hc).mono fun e w' ⟨he, hq⟩ => ⟨he, hq.grow⟩) hH (blk_lt hbk) (by simp; omega)
  refine Calls.mono gg fun e w' ⟨he, d', n, os, hp, hs, hw⟩ => ⟨_, he, ?_⟩
  obtain ⟨hp1, _, hp3⟩ := hp
  have hds : d'.size = L.length := by simpa using hp1
  obtain ⟨cs', q1, q2, q3, q4⟩ := hworld n os d' hds
  rw [← hw] at q1 q4
  have hperm : d'.toList.Perm L := by
    have e1 : d'.extract 0 L.toArray.size = d' := by
      rw [show L.toArray.size = d'.size by rw [hp1]]; simp
    rw [e1] at hp3
    simpa using hp3
  refine hK w' d'.toList hperm ?_ ⟨by rw [flat_len henc, Array.length_toList, hds], g2, .inr ⟨kb, o, cs', rfl, rfl, q1, by omega, q3⟩⟩ q4
  rw [List.pairwise_iff_getElem]
  intro i j hi hj hij
  have := hs i j (Nat.zero_le _) hij (by simpa [hds] using hj)
  rw [getElem!_pos d' j (by simpa using hj), getElem!_pos d' i (by simpa using hi)] at this
  simpa using this
end
end Go.Sv
namespace Go.Proofs
open Go.Shelf
def Tryz.laysSF6_ren : Go.Shelf.Ren := ⟨fun | 6 => 139 | 15 => 166 | 14 => 165 | 28 => 199 | 29 => 200 | 20 => 191 | 21 => 192 | 22 => 193 | 23 => 194 | 24 => 195 | 25 => 196 | 26 => 197 | 27 => 198 | 46 => 218 | 47 => 219 | 48 => 220 | 49 => 221 | 50 => 222 | 57 => 231 | n => n, fun | 22 => 24 | 24 => 26 | 25 => 157 | 3 => 3 | 39 => 91 | 0 => 0 | 53 => 149 | 55 => 23 | 4 => 4 | 46 => 198 | 45 => 197 | 50 => 107 | 5 => 5 | 9 => 9 | 66 => 215 | 70 => 219 | 76 => 225 | 77 => 226 | n => n, fun | n => n⟩
theorem Tryz.laysSF6 : Go.Proofs.SlLaysF0.n6 Tryz.prog Tryz.laysSF6_ren := {
  mixed := by kernel_rfl
  f6 := ⟨Tryz.f139.name, by decide, Tryz.func139.trans (congrArg some (by kernel_rfl))⟩
  f14 := ⟨Tryz.f165.name, by decide, Tryz.func165.trans (congrArg some (by kernel_rfl))⟩
  f15 := Tryz.func166.trans (congrArg some (by kernel_rfl))
  f20 := ⟨Tryz.f191.name, by decide, Tryz.func191.trans (congrArg some (by kernel_rfl))⟩
  f21 := ⟨Tryz.f192.name, by decide, Tryz.func192.trans (congrArg some (by kernel_rfl))⟩
  f22 := ⟨Tryz.f193.name, by decide, Tryz.func193.trans (congrArg some (by kernel_rfl))⟩
  f23 := ⟨Tryz.f194.name, by decide, Tryz.func194.trans (congrArg some (by kernel_rfl))⟩
  f24 := ⟨Tryz.f195.name, by decide, Tryz.func195.trans (congrArg some (by kernel_rfl))⟩
  f25 := ⟨Tryz.f196.name, by decide, Tryz.func196.trans (congrArg some (by kernel_rfl))⟩
  f26 := ⟨Tryz.f197.name, by decide, Tryz.func197.trans (congrArg some (by kernel_rfl))⟩
  f27 := ⟨Tryz.f198.name, by decide, Tryz.func198.trans (congrArg some (by kernel_rfl))⟩
  f28 := Tryz.func199.trans (congrArg some (by kernel_rfl))
  f29 := Tryz.func200.trans (congrArg some (by kernel_rfl))
  f46 := ⟨Tryz.f218.name, by decide, Tryz.func218.trans (congrArg some (by kernel_rfl))⟩
  f47 := Tryz.func219.trans (congrArg some (by kernel_rfl))
  f48 := Tryz.func220.trans (congrArg some (by kernel_rfl))
  f49 := ⟨Tryz.f221.name, by decide, Tryz.func221.trans (congrArg some (by kernel_rfl))⟩
  f50 := ⟨Tryz.f222.name, by decide, Tryz.func222.trans (congrArg some (by kernel_rfl))⟩
  f57 := ⟨Tryz.f231.name, by decide, Tryz.func231.trans (congrArg some (by kernel_rfl))⟩
  t0 := Tryz.underlying0
  a0 := Tryz.isAgg0
  z0 := Tryz.sizeOf0
  v0 := Tryz.zeroValue0
  t3 := Tryz.underlying3
  a3 := Tryz.isAgg3
  z3 := Tryz.sizeOf3
  v3 := Tryz.zeroValue3
  t4 := Tryz.underlying4
  a4 := Tryz.isAgg4
  z4 := Tryz.sizeOf4
  v4 := Tryz.zeroValue4
  t5 := Tryz.underlying5
  a5 := Tryz.isAgg5
  z5 := Tryz.sizeOf5
  v5 := Tryz.zeroValue5
  t9 := Tryz.underlying9
  a9 := Tryz.isAgg9
  z9 := Tryz.sizeOf9
  v9 := Tryz.zeroValue9
  t22 := Tryz.underlying24
  a22 := Tryz.isAgg24
  z22 := Tryz.sizeOf24
  v22 := Tryz.zeroValue24
  t25 := Tryz.underlying157
  a25 := Tryz.isAgg157
  z25 := Tryz.sizeOf157
  v25 := Tryz.zeroValue157
  t39 := Tryz.underlying91
  a39 := Tryz.isAgg91
  z39 := Tryz.sizeOf91
  v39 := Tryz.zeroValue91
  t45 := Tryz.underlying197
  a45 := Tryz.isAgg197
  z45 := Tryz.sizeOf197
  v45 := Tryz.zeroValue197
  t46 := Tryz.underlying198
  a46 := Tryz.isAgg198
  z46 := Tryz.sizeOf198
  v46 := Tryz.zeroValue198
  t50 := Tryz.underlying107
  a50 := Tryz.isAgg107
  z50 := Tryz.sizeOf107
  v50 := Tryz.zeroValue107
  t53 := Tryz.underlying149
  a53 := Tryz.isAgg149
  z53 := Tryz.sizeOf149
  v53 := Tryz.zeroValue149
  t55 := Tryz.underlying23
  a55 := Tryz.isAgg23
  z55 := Tryz.sizeOf23
  v55 := Tryz.zeroValue23
  t66 := Tryz.underlying215
  a66 := Tryz.isAgg215
  z66 := Tryz.sizeOf215
  v66 := Tryz.zeroValue215
  t70 := Tryz.underlying219
  a70 := Tryz.isAgg219
  z70 := Tryz.sizeOf219
  v70 := Tryz.zeroValue219
  t76 := Tryz.underlying225
  a76 := Tryz.isAgg225
  z76 := Tryz.sizeOf225
  v76 := Tryz.zeroValue225
  t77 := Tryz.underlying226
  a77 := Tryz.isAgg226
  z77 := Tryz.sizeOf226
  v77 := Tryz.zeroValue226 }
end Go.Proofs
namespace Go.Proofs.YtnacobknngidkaaGreatDoor
open Go Go.Sv Go.Note Go.Sort Go.RowKit Go.Shelf
set_option linter.unusedVariables false
attribute [local irreducible] Sif
set_option maxRecDepth 4000
theorem VRow.qt {Q : Nat → Prop} {w w' : World} {p : Option Addr} {n : Nat} {l : List MV} (h : VRow Q w p n l) (q : Qt w w') : VRow Q w' p n l := h.ch0 q.ch
theorem st_dr {w : World} {b o : Nat} {v : Value} {K : World → Prop} {cs : List Value} (h : blk w b = some cs) (ho : o < cs.length)
    (hk : ∀ w', blk w' b = some (cs.set o v) → Ch (· = b) w w' → w'.heap.size = w.heap.size → w'.drawn = w.drawn → K w') : Sv.st w ⟨b, o, none⟩ v K := by
  refine ⟨?_, frozen_blk h ho, hk _ (setCell_blk h o v) (setCell_ch w b o v) (by simp) rfl⟩
  rw [cell_blk h]; simp [ho]
theorem nbq {w : World} {zs : List Value} (hl : zs.length = 5) {x : MV} {t : TypeId} {K : Addr → World → Prop} (hk : ∀ w', blk w' w.heap.size = some x.g → Qt w w' → w'.heap.size = w.heap.size + 1 → K ⟨w.heap.size, 0, none⟩ w') :
    newB w zs t fun a w1 => Sv.st w1 (Addr.add a 0) (.int .i64 x.k) fun w2 => Sv.st w2 (Addr.add a 1) (.int .u64 (x.n : Int)) fun w3 => Sv.st w3 (Addr.add a 2) (.string ⟨x.t.toArray⟩) fun w4 => Sv.st w4 (Addr.add a 3) (.slice x.s.p x.s.n x.s.c) fun w5 => Sv.st w5 (Addr.add a 4) (.int .i64 x.e) fun w6 => K a w6 := by
  refine newB_qt fun w1 b1 q1 z1 => ?_
  match zs, hl with
  | [z0, z1, z2, z3, z4], _ =>
    obtain ⟨k, n, t, s, e, l⟩ := x
    simp only [add_at, Nat.zero_add]
    refine st_dr b1 (by simp) fun w2 b2 c2 g2 d2 => st_dr b2 (by simp) fun w3 b3 c3 g3 d3 => st_dr b3 (by simp) fun w4 b4 c4 g4 d4 => st_dr b4 (by simp) fun w5 b5 c5 g5 d5 => st_dr b5 (by simp) fun w6 b6 c6 g6 d6 => ?_
    refine hk w6 b6 ⟨((((q1.ch.trans c2 fun x hx h => by omega).trans c3 fun x hx h => by omega).trans c4 fun x hx h => by omega).trans c5 fun x hx h => by omega).trans c6 fun x hx h => by omega, ?_⟩ (by omega)
    have := q1.dr; omega
theorem or3_ok {w : World} {b : Nat} {x y z : Int} {K : Value → World → Prop} (hb : blk w b = some [.int .i64 x, .int .i64 y, .int .i64 z]) (hk : K (.int .i64 (lex x (lex y z))) w) : callP Tryz.prog 167 [.slice (some ⟨b, 0, none⟩) 3 3] w K := by
  refine ok_cmp_Or ?_
  unfold wp_cmp_Or
  refine ⟨fun m i w' => ∃ j : Nat, i = (j : Int) ∧ j ≤ 3 ∧ m = 3 - j ∧ w' = w ∧ (0 < j → x = 0) ∧ (1 < j → y = 0) ∧ (2 < j → z = 0), ⟨3, 0, rfl, by omega, rfl, rfl, by omega, by omega, by omega⟩, ?_⟩
  rintro m i w1 ⟨j, rfl, hj, rfl, rfl, h0, h1, h2⟩
  refine Sif_cases (fun hlt => ?_) fun hge => ?_
  · have hlt' : (j : Int) < 3 := by simpa using hlt
    refine ⟨by omega, by omega, ?_⟩
    simp only [nn, add_at, Int.toNat_natCast, Nat.mul_one, Nat.zero_add]
    have hc : j = 0 ∨ j = 1 ∨ j = 2 := by omega
    rcases hc with rfl | rfl | rfl
    · refine ⟨x, by rw [cell_blk hb]; rfl, Sif_cases (fun h => ?_) fun h => ?_⟩
      · have h : x ≠ 0 := by simpa using h
        unfold lex at hk; rw [if_pos h] at hk; exact hk
      · have h : x = 0 := by simpa using h
        exact ⟨2, by omega, 1, by decide, by omega, rfl, by trivial, fun _ => h, by omega, by omega⟩
    · refine ⟨y, by rw [cell_blk hb]; rfl, Sif_cases (fun h => ?_) fun h => ?_⟩
      · have h : y ≠ 0 := by simpa using h
        have hx := h0 (by omega)
        unfold lex at hk; rw [if_neg (by simp [hx]), if_pos h] at hk; exact hk
      · have h : y = 0 := by simpa using h
        exact ⟨1, by omega, 2, by decide, by omega, rfl, by trivial, fun _ => h0 (by omega), fun _ => h, by omega⟩
    · refine ⟨z, by rw [cell_blk hb]; rfl, Sif_cases (fun h => ?_) fun h => ?_⟩
      · have hx := h0 (by omega)
        have hy := h1 (by omega)
        unfold lex at hk; rw [if_neg (by simp [hx]), if_neg (by simp [hy])] at hk; exact hk
      · have h : z = 0 := by simpa using h
        exact ⟨0, by omega, 3, by decide, by omega, rfl, by trivial, fun _ => h0 (by omega), fun _ => h1 (by omega), fun _ => h⟩
  · have : j = 3 := by
      have : ¬ (j : Int) < 3 := by simpa using hge
      omega
    subst this
    have hx := h0 (by omega)
    have hy := h1 (by omega)
    have hz := h2 (by omega)
    subst hx hy hz
    exact hk
theorem or2_ok {w : World} {b : Nat} {x y : Int} {K : Value → World → Prop} (hb : blk w b = some [.int .i64 x, .int .i64 y]) (hk : K (.int .i64 (lex x y)) w) : callP Tryz.prog 167 [.slice (some ⟨b, 0, none⟩) 2 2] w K := by
  refine ok_cmp_Or ?_
  unfold wp_cmp_Or
  refine ⟨fun m i w' => ∃ j : Nat, i = (j : Int) ∧ j ≤ 2 ∧ m = 2 - j ∧ w' = w ∧ (0 < j → x = 0) ∧ (1 < j → y = 0), ⟨2, 0, rfl, by omega, rfl, rfl, by omega, by omega⟩, ?_⟩
  rintro m i w1 ⟨j, rfl, hj, rfl, rfl, h0, h1⟩
  refine Sif_cases (fun hlt => ?_) fun hge => ?_
  · have hlt' : (j : Int) < 2 := by simpa using hlt
    refine ⟨by omega, by omega, ?_⟩
    simp only [nn, add_at, Int.toNat_natCast, Nat.mul_one, Nat.zero_add]
    have hc : j = 0 ∨ j = 1 := by omega
    rcases hc with rfl | rfl
    · refine ⟨x, by rw [cell_blk hb]; rfl, Sif_cases (fun h => ?_) fun h => ?_⟩
      · have h : x ≠ 0 := by simpa using h
        unfold lex at hk; rw [if_pos h] at hk; exact hk
      · have h : x = 0 := by simpa using h
        exact ⟨1, by omega, 1, by decide, by omega, rfl, by trivial, fun _ => h, by omega⟩
    · refine ⟨y, by rw [cell_blk hb]; rfl, Sif_cases (fun h => ?_) fun h => ?_⟩
      · have hx := h0 (by omega)
        unfold lex at hk; rw [if_neg (by simp [hx])] at hk; exact hk
      · have h : y = 0 := by simpa using h
        exact ⟨0, by omega, 2, by decide, by omega, rfl, by trivial, fun _ => h0 (by omega), fun _ => h⟩
  · have : j = 2 := by
      have : ¬ (j : Int) < 2 := by simpa using hge
      omega
    subst this
    have hx := h0 (by omega)
    have hy := h1 (by omega)
    subst hx hy
    exact hk
theorem cmpI_ok {x y : Int} {w : World} {K : Value → World → Prop} (hk : K (.int .i64 (Lib.compareInt x y)) w) : callP Tryz.prog 168 [.int .i64 x, .int .i64 y] w K := by
  refine (Tryz.cmp_Compare_int x y w).mono ?_
  rintro e w' ⟨rfl, rfl⟩
  exact ⟨_, rfl, hk⟩
theorem isNaNU_ok {x : Int} {w : World} {K : Value → World → Prop} (hk : K (.bool false) w) : callP Tryz.prog 202 [.int .u64 x] w K := by
  refine ok_cmp_isNaN_2 ?_
  unfold wp_cmp_isNaN_2
  first
    | exact hk
    | (rw [show (x != x) = false by simp]; exact hk)
    | (simpa using hk)
theorem cmpU_ok {x y : Int} {w : World} {K : Value → World → Prop} (hk : K (.int .i64 (Lib.compareInt x y)) w) : callP Tryz.prog 169 [.int .u64 x, .int .u64 y] w K := by
  refine ok_cmp_Compare_2 ?_
  unfold wp_cmp_Compare_2
  refine isNaNU_ok ⟨_, rfl, isNaNU_ok ⟨_, rfl, Sif_false (Sif_false ?_)⟩⟩
  unfold Lib.compareInt at hk
  refine Sif_cases (fun h => ?_) fun h => Sif_cases (fun h2 => ?_) fun h2 => ?_
  · have h : x < y := by simpa using h
    rw [if_pos h] at hk; exact hk
  · have h : ¬ x < y := by simpa using h
    have h2 : x > y := by simpa using h2
    rw [if_neg h, if_pos h2] at hk; exact hk
  · have h : ¬ x < y := by simpa using h
    have h2 : ¬ x > y := by simpa using h2
    rw [if_neg h, if_neg h2] at hk; exact hk
theorem cmpS_ok {x y : Bs} {w : World} {K : Value → World → Prop} (hk : K (.int .i64 (Lib.compareBytes x y)) w) : callP Tryz.prog 170 [.string ⟨x.toArray⟩, .string ⟨y.toArray⟩] w K := by
  refine (Tryz.strings_Compare _ _ w).mono ?_
  rintro e w' ⟨rfl, rfl⟩
  refine ⟨_, rfl, ?_⟩
  rw [str_list, str_list]
  exact hk
theorem cmpF_ok {Q Q' : Nat → Prop} {l l' : List MV} (ih : ∀ x ∈ l, ∀ (y : MV) {w : World} {K : Value → World → Prop}, VR Q w x → VR Q' w y → (∀ w', Qt w w' → K (.int .i64 (ordM x.m y.m)) w') → callP Tryz.prog 140 [x.v, y.v] w K)
    {w : World} {p p' : Option Addr} {n n' c c' : Nat} (h1 : VRow Q w p n l) (h2 : VRow Q' w p' n' l') {K : Value → World → Prop} (hk : ∀ w', Qt w w' → K (.int .i64 (ordL (l.map MV.m) (l'.map MV.m))) w') :
    callP Tryz.prog 171 [.slice p n c, .slice p' n' c', .func (.func 140) #[] #[]] w K := by
  apply ok_slices_CompareFunc
  unfold wp_slices_CompareFunc
  have hl := h1.1
  have hl' := h2.1
  have hn46 := h1.2.1
  have hn46' := h2.2.1
  refine ⟨fun m i w1 => ∃ j : Nat, i = (j : Int) ∧ m = n - j ∧ j ≤ n ∧ j ≤ n' ∧ Qt w w1 ∧ ordL (l.map MV.m) (l'.map MV.m) = ordL ((l.drop j).map MV.m) ((l'.drop j).map MV.m), ⟨n, 0, rfl, rfl, Nat.zero_le _, Nat.zero_le _, Qt.refl _, rfl⟩, ?_⟩
  rintro m i w1 ⟨j, rfl, rfl, hj, hj', q1, heq⟩
  rw [heq] at hk
  refine Sif_cases (fun h => ?_) (fun h => ?_)
  · have hjl : j < n := by have := of_decide_eq_true h; omega
    obtain ⟨x, hxi⟩ : ∃ x, l[j]? = some x := ⟨l[j]'(by omega), List.getElem?_eq_getElem _⟩
    have hd : l.drop j = x :: l.drop (j + 1) := by
      rw [List.drop_eq_getElem_cons (by omega)]
      congr 1
      rw [List.getElem?_eq_getElem (by omega)] at hxi
      exact Option.some.inj hxi
    obtain ⟨bx, ox, rfl, _, ax⟩ := (h1.qt q1).at hxi
    refine ⟨by omega, by omega, ?_⟩
    simp only [nn]
    refine ldR ax ?_
    refine nbq rfl fun w2 b2 q2 z2 => ?_
    refine Sif_cases (fun hge => ?_) (fun hge => ?_)
    · have hjn : j = n' := by have := of_decide_eq_true hge; omega
      have := hk w2 (q1.trans q2)
      rw [hd, List.drop_of_length_le (l := l') (by omega)] at this
      exact this
    · have hjn : j < n' := by have := of_decide_eq_false hge; omega
      obtain ⟨y, hyi⟩ : ∃ y, l'[j]? = some y := ⟨l'[j]'(by omega), List.getElem?_eq_getElem _⟩
      have hd' : l'.drop j = y :: l'.drop (j + 1) := by
        rw [List.drop_eq_getElem_cons (by omega)]
        congr 1
        rw [List.getElem?_eq_getElem (by omega)] at hyi
        exact Option.some.inj hyi
      obtain ⟨by', oy, rfl, _, ay⟩ := (h2.qt (q1.trans q2)).at hyi
      refine ⟨by omega, by omega, ?_⟩
      simp only
      refine ldR ay ?_
      refine nbq rfl fun w3 b3 q3 z3 => ?_
      have b2' := (q3.ch.blk (blk_lt b2) id).trans b2
      refine ldK b2' (ldK b3 ?_)
      have q13 := (q1.trans q2).trans q3
      rw [vv x, vv y]
      rw [hd, hd', List.map_cons, List.map_cons, ordL] at hk
      refine ⟨by kernel_rfl, ih x (List.mem_of_getElem? hxi) y ((h1.qt q13).2.2.2.2 x (List.mem_of_getElem? hxi)) ((h2.qt q13).2.2.2.2 y (List.mem_of_getElem? hyi)) fun w4 q4 => ⟨_, rfl, ?_⟩⟩
      refine Sif_cases (fun h => ?_) (fun h => ?_)
      · have h : ordM x.m y.m ≠ 0 := by simpa using h
        have := hk w4 (q13.trans q4)
        unfold lex at this
        rw [if_pos h] at this
        exact this
      · have h : ordM x.m y.m = 0 := by simpa using h
        rw [wrap_id (n := (j : Int) + 1) (by omega) (by omega)]
        refine ⟨n - (j + 1), by omega, j + 1, by omega, rfl, by omega, by omega, q13.trans q4, ?_⟩
        rw [heq, hd, hd', List.map_cons, List.map_cons, ordL, h]; rfl
  · have hjl : j = n := by have := of_decide_eq_false h; omega
    subst hjl
    rw [List.drop_of_length_le (l := l) (by omega)] at hk
    refine Sif_cases (fun h => ?_) (fun h => ?_)
    · have h := of_decide_eq_true h
      have := hk w1 q1
      obtain ⟨y, t, hy⟩ : ∃ y t, l'.drop j = y :: t := by
        cases hd : l'.drop j with
        | nil => have := congrArg List.length hd; simp at this; omega
        | cons y t => exact ⟨y, t, rfl⟩
      rw [hy] at this
      exact this
    · have h := of_decide_eq_false h
      have := hk w1 q1
      rw [List.drop_of_length_le (l := l') (by omega)] at this
      exact this
theorem vOrder_ok {Q Q' : Nat → Prop} : ∀ (x y : MV) {w : World} {K : Value → World → Prop}, VR Q w x → VR Q' w y → (∀ w', Qt w w' → K (.int .i64 (ordM x.m y.m)) w') →
    callP Tryz.prog 140 [x.v, y.v] w K := by
  refine MV.ind fun k n t s e l ih => ?_
  rintro ⟨k', n', t', s', e', l'⟩ w K hx hy hk
  apply ok_value_Order
  unfold wp_value_Order
  refine newB_qt fun w1 b1 q1 z1 => newB_qt fun w2 b2 q2 z2 => ?_
  have b1' := (q2.ch.blk (blk_lt b1) id).trans b1
  have q12 := q1.trans q2
  rw [MV.m_mk, MV.m_mk, ordM] at hk
  have b1d : blk w2.drew w.heap.size = some [.int .i64 k, .int .u64 (n : Int), .string ⟨t.toArray⟩, .slice s.p s.n s.c, .int .i64 e] := b1'
  have b2d : blk w2.drew w1.heap.size = some [.int .i64 k', .int .u64 (n' : Int), .string ⟨t'.toArray⟩, .slice s'.p s'.n s'.c, .int .i64 e'] := b2
  simp only [add_at, Nat.zero_add]
  refine ⟨_, cellK b1d 0 rfl, _, cellK b2d 0 rfl, _, cellK b1d 1 rfl, _, cellK b2d 1 rfl, _, cellK b1d 2 rfl, _, cellK b2d 2 rfl, ?_⟩
  refine cmpI_ok ⟨_, rfl, ⟨_, cellK b2d 2 rfl, rfl⟩, ⟨_, cellK b1d 2 rfl, rfl⟩, ⟨_, cellK b2d 1 rfl, rfl⟩, ⟨_, cellK b1d 1 rfl, rfl⟩, ?_⟩
  refine cmpU_ok ⟨_, rfl, ⟨_, cellK b2d 2 rfl, rfl⟩, ⟨_, cellK b1d 2 rfl, rfl⟩, ?_⟩
  refine cmpS_ok ⟨_, rfl, ?_⟩
  refine newB_qt fun w6 b6 q6 z6 => ?_
  refine or3_ok b6 ⟨_, rfl, ?_⟩
  have q26 : Qt w2 w6 := (Qt.drew w2).trans q6
  have q16 := q12.trans q26
  have b16 := (q26.ch.blk (blk_lt b1') id).trans b1'
  have b26 := (q26.ch.blk (blk_lt b2) id).trans b2
  have assoc : ∀ a b c d : Int, lex a (lex b (lex c d)) = lex (lex a (lex b c)) d := by
    intro a b c d
    unfold lex
    by_cases ha : a = 0
    · by_cases hb : b = 0
      · simp [ha, hb]
      · simp [ha, hb]
    · simp [ha]
  rw [assoc] at hk
  refine Sif_cases (fun h => ?_) (fun h => ?_)
  · have h : lex (Lib.compareInt k k') (lex (Lib.compareInt n n') (Lib.compareBytes t t')) ≠ 0 := by simpa using h
    have := hk w6 q16
    generalize lex (Lib.compareInt k k') (lex (Lib.compareInt n n') (Lib.compareBytes t t')) = z at h this ⊢
    unfold lex at this
    rw [if_pos h] at this
    exact this
  · have h : lex (Lib.compareInt k k') (lex (Lib.compareInt n n') (Lib.compareBytes t t')) = 0 := by simpa using h
    rw [h] at hk
    have b16d : blk w6.drew w.heap.size = some [.int .i64 k, .int .u64 (n : Int), .string ⟨t.toArray⟩, .slice s.p s.n s.c, .int .i64 e] := b16
    have b26d : blk w6.drew w1.heap.size = some [.int .i64 k', .int .u64 (n' : Int), .string ⟨t'.toArray⟩, .slice s'.p s'.n s'.c, .int .i64 e'] := b26
    refine ⟨_, _, _, cellK b16d 3 rfl, _, _, _, cellK b26d 3 rfl, _, cellK b16d 4 rfl, _, cellK b26d 4 rfl, ?_⟩
    have q16d := q16.trans (Qt.drew w6)
    refine cmpF_ok ih (hx.row.qt q16d) (hy.row.qt q16d) fun w8 q8 => ⟨_, rfl, ?_⟩
    have b18 := (q8.ch.blk (blk_lt b16d) id).trans b16d
    have b28 := (q8.ch.blk (blk_lt b26d) id).trans b26d
    refine ⟨⟨_, cellK b28 4 rfl, rfl⟩, ⟨_, cellK b18 4 rfl, rfl⟩, ?_⟩
    refine cmpI_ok ⟨_, rfl, ?_⟩
    refine newB_qt fun w10 b10 q10 z10 => ?_
    refine or2_ok b10 ⟨_, rfl, ?_⟩
    exact hk w10 ((q16d.trans q8).trans q10)
end Go.Proofs.YtnacobknngidkaaGreatDoor
namespace Go.Proofs.YtnacobknngidkaaGreatDoor
open Go Go.Sv Go.Note Go.Sort Go.RowKit Go.Shelf
set_option linter.unusedVariables false
attribute [local irreducible] Sif
set_option maxRecDepth 4000
def evens {α : Type} : List α → List α
  | [] => []
  | [x] => [x]
  | x :: _ :: l => x :: evens l
theorem evens_keys (l : List MV) : (evens l).map MV.m = keysOf (l.map MV.m) := by
  induction l using evens.induct with
  | case1 => rfl
  | case2 x => rfl
  | case3 x y l ih => simp [evens, keysOf, ih]
theorem evens_mem {α : Type} (l : List α) : ∀ x ∈ evens l, x ∈ l := by
  induction l using evens.induct with
  | case1 => simp [evens]
  | case2 x => simp [evens]
  | case3 x y l ih =>
    intro z hz
    simp only [evens, List.mem_cons] at hz ⊢
    rcases hz with h | h
    · exact .inl h
    · exact .inr (.inr (ih z h))
theorem evens_len {α : Type} (l : List α) : (evens l).length = (l.length + 1) / 2 := by
  induction l using evens.induct with
  | case1 => simp [evens]
  | case2 x => simp [evens]
  | case3 x y l ih => simp only [evens, List.length_cons, ih]; omega
theorem evens_take {α : Type} (l : List α) : ∀ (j : Nat) (x : α), j % 2 = 0 → l[j]? = some x → evens (l.take (j + 2)) = evens (l.take j) ++ [x] := by
  induction l using evens.induct with
  | case1 => intro j x _ h; simp at h
  | case2 y =>
    intro j x hj h
    cases j with
    | zero => simp at h; subst h; rfl
    | succ j => simp at h
  | case3 y z l ih =>
    intro j x hj h
    match j, hj, h with
    | 0, _, h => simp at h; subst h; rfl
    | 1, hj, _ => omega
    | j + 2, hj, h =>
      simp only [List.getElem?_cons_succ] at h
      have := ih j x (by omega) h
      simp only [List.take_succ_cons, evens, this, List.cons_append]
theorem make_vals {w : World} (c : Nat) (hc : c ≤ 2 ^ 40) : ∃ w', (Instr.makeSlice 24 (.int .i64 0) (.int .i64 (c : Int))).run Tryz.prog w = .ok (.slice (some ⟨w.heap.size, 0, none⟩) 0 c) w' ∧
    Ow w' (some ⟨w.heap.size, 0, none⟩) 0 c 5 [] (some w.heap.size) ∧ Ch (fun _ => False) w w' := by
  obtain ⟨i, hi, h1, h2, h3⟩ := iVal
  have hr := run_make (P := Tryz.prog) w 24 26 i _ uVals hi h3 .i64 .i64 (0 : Int) (c : Int) (by omega) (by omega) (by rw [h2]; omega) (by omega)
  rw [Int.toNat_natCast, h1] at hr
  refine ⟨_, hr, ⟨rfl, Nat.zero_le _, .inr ⟨_, 0, _, rfl, rfl, alloc_blk w (madeCells (.agg #[.int .i64 0, .int .u64 0, .string ⟨#[]⟩, .slice none 0 0, .int .i64 0] : Value).cells (c * 5)).toList 26, ?_, by simp⟩⟩, alloc_ch w _⟩
  simp [madeCells]
theorem VRow.lt {Q : Nat → Prop} {w : World} {p : Option Addr} {n : Nat} {l : List MV} (h : VRow Q w p n l) : VRow (fun b => Q b ∧ b < w.heap.size) w p n l :=
  ⟨h.1, h.2.1, h.2.2.1, fun a ha h0 => ⟨h.2.2.2.1 a ha h0, h.2.2.1.lt a ha h0⟩, fun x hx => VR.lt x (h.2.2.2.2 x hx)⟩
theorem swoM {α : Type} (f : α → M) : SWO (ltOf fun x y : α => ordM (f x) (f y)) := by
  have key : ∀ x y : α, ltOf (fun x y : α => ordM (f x) (f y)) x y = decide (ordM (f x) (f y) < 0) := fun _ _ => rfl
  refine ⟨fun x => ?_, fun x y z h k => ?_, fun x y z h k => ?_⟩
  · rw [key, (ordM_eq (f x) (f x)).2 rfl]; decide
  · rw [key] at *
    exact decide_eq_true (ordM_trans _ _ _ (of_decide_eq_true h) (of_decide_eq_true k))
  · rw [key] at *
    have h := of_decide_eq_false h
    have k := of_decide_eq_false k
    refine decide_eq_false fun hc => ?_
    have a1 := ordM_anti (f x) (f y)
    have a2 := ordM_anti (f y) (f z)
    have a3 := ordM_anti (f x) (f z)
    by_cases e1 : ordM (f x) (f y) = 0
    · have := (ordM_eq _ _).1 e1
      rw [this] at hc; exact k hc
    · by_cases e2 : ordM (f y) (f z) = 0
      · have := (ordM_eq _ _).1 e2
        rw [← this] at hc; exact h hc
      · have := ordM_trans (f z) (f y) (f x) (by omega) (by omega)
        omega
theorem isMap_ok {Q : Nat → Prop} {w : World} {p : Option Addr} {n c : Nat} {l : List MV} (h : VRow Q w p n l) {K : Value → World → Prop} (hk : ∀ w', Ch (fun _ => False) w w' → K (.bool (mapOk (l.map MV.m))) w') :
    callP Tryz.prog 103 [.slice p n c] w K := by
  apply ok_value_isMap
  unfold wp_value_isMap
  have hl := h.1
  have hmod : Int.tmod (n : Int) 2 = ((n % 2 : Nat) : Int) := by
    rw [Int.tmod_eq_emod_of_nonneg (by omega)]; omega
  have hdiv : Int.tdiv (n : Int) 2 = ((n / 2 : Nat) : Int) := by
    rw [Int.tdiv_eq_ediv_of_nonneg (by omega)]; omega
  have hml : (l.map MV.m).length = n := by simp [hl]
  refine ⟨fun w1 => w1 = w ∧ n % 2 = 0 ∧ n ≤ 2048, ?_, by decide, ?_⟩
  rotate_left
  · rw [hmod, int_bne, Bool.not_not]
    refine Sif_cases (fun h2 => ?_) (fun h2 => ?_)
    · have h2 := of_decide_eq_true h2
      refine Sif_cases (fun h3 => ?_) (fun h3 => ⟨by trivial, by omega, by have := of_decide_eq_false h3; omega⟩)
      have h3 := of_decide_eq_true h3
      have := hk w (Ch.refl _ _)
      rw [show mapOk (l.map MV.m) = false by
        unfold mapOk
        rw [hml, decide_eq_false (p := n / 2 ≤ 1024) (by omega)]; simp] at this
      exact this
    · have h2 := of_decide_eq_false h2
      have := hk w (Ch.refl _ _)
      rw [show mapOk (l.map MV.m) = false by
        unfold mapOk
        rw [hml, decide_eq_false (p := n % 2 = 0) (by omega)]; simp] at this
      exact this
  rintro w1 ⟨rfl, hev, hsm⟩
  have hmap : mapOk (l.map MV.m) = decide (((evens l).map MV.m).Nodup) := by
    unfold mapOk
    rw [hml, decide_eq_true (p := n % 2 = 0) hev, decide_eq_true (p := n / 2 ≤ 1024) (by omega), evens_keys]; simp
  rw [hmap] at hk
  rw [hdiv, wrap_id (by omega) (by omega)]
  obtain ⟨w2, m1, o2, c2⟩ := make_vals (w := w1) (n / 2) (by omega)
  refine ⟨by decide, _, _, _, w2, m1, ?_⟩
  have hlt := h.lt
  -- the keys are gathered
  refine ⟨fun m p1 n1 c1 i w3 => ∃ (j : Nat) (own : Option Nat), i = (j : Int) ∧ j % 2 = 0 ∧ j ≤ n ∧ m = n - j ∧ n1 = (evens (l.take j)).length ∧ Ow w3 p1 n1 c1 5 ((evens (l.take j)).flatMap MV.g) own ∧ (∀ k, own = some k → w1.heap.size ≤ k) ∧ Ch (fun _ => False) w1 w3,
    ⟨n, 0, some w1.heap.size, rfl, rfl, Nat.zero_le _, rfl, rfl, by simpa [evens] using o2, fun k hk => by cases hk; exact Nat.le_refl _, c2⟩, ?_⟩
  rintro m p1 n1 c1 i w3 ⟨j, own, rfl, hj2, hjn, rfl, rfl, ho, hnew, c3⟩
  have hkl := evens_len (l.take j)
  rw [List.length_take, hl, Nat.min_eq_left hjn] at hkl
  refine Sif_cases (fun hlt' => ?_) (fun hge => ?_)
  · have hjl : j < n := by have := of_decide_eq_true hlt'; omega
    obtain ⟨x, hxi⟩ : ∃ x, l[j]? = some x := ⟨l[j]'(by omega), List.getElem?_eq_getElem _⟩
    obtain ⟨bx, ox, rfl, _, ax⟩ := (h.ch0 c3).at hxi
    refine ⟨by omega, by omega, ?_⟩
    simp only [nn]
    refine ldR ax ?_
    rw [gg x]
    refine push_ok (g := MV.g) uVals iVal rfl MV.glen MV.gone ho x (by omega) (by omega) fun p' c' b' w' o' n' hch => ?_
    simp only [nameI]
    rw [wrap_id (n := (j : Int) + 2) (by omega) (by omega)]
    have het := evens_take l j x hj2 hxi
    refine ⟨n - (j + 2), by omega, j + 2, b', by omega, by omega, by omega, rfl, by rw [het], by rw [het]; exact o', fun k hk => ?_, c3.trans hch fun k hk h => by have := hnew k h; omega⟩
    rcases n' k hk with q | q
    · exact hnew k q
    · have := c3.size; omega
  · have hjl : j = n := by have := of_decide_eq_false hge; omega
    subst hjl
    rw [List.take_of_length_le (by omega)] at ho hkl ⊢
    obtain ⟨ks, hks⟩ : ∃ ks, ks = evens l := ⟨_, rfl⟩
    rw [← hks] at ho hk hkl ⊢
    have hkm : ∀ x ∈ ks, VR (fun b => Q b ∧ b < w1.heap.size) w1 x := fun x hx => hlt.2.2.2.2 x (evens_mem l x (by rw [← hks]; exact hx))
    -- behind the sort
    have behind : ∀ (w4 : World) (L' : List MV), L'.Perm ks → (L'.Pairwise fun x y => ltOf (fun x y : MV => ordM x.m y.m) y x = false) → Ow w4 p1 ks.length c1 5 (L'.flatMap MV.g) own → Ch (fun j => own = some j) w3 w4 →
        ∃ I1 : Nat → Int → World → Prop, (∃ m1, I1 m1 1 w4) ∧ ∀ m1 n3 w5, I1 m1 n3 w5 → Sif (decide (n3 < (ks.length : Int))) (0 ≤ IntKind.i64.wrap (n3 - 1) ∧ IntKind.i64.wrap (n3 - 1) < (ks.length : Int) ∧ nn p1 fun a => 0 ≤ n3 ∧ n3 < (ks.length : Int) ∧ nn p1 fun a1 =>
          ∃ n4, w5.drew.cell? (Addr.add (Addr.add a (Int.toNat (IntKind.i64.wrap (n3 - 1)) * 5)) 0) = some (.int .i64 n4) ∧ ∃ n5, w5.drew.cell? (Addr.add (Addr.add a (Int.toNat (IntKind.i64.wrap (n3 - 1)) * 5)) 1) = some (.int .u64 n5) ∧ ∃ s, w5.drew.cell? (Addr.add (Addr.add a (Int.toNat (IntKind.i64.wrap (n3 - 1)) * 5)) 2) = some (.string s) ∧ ∃ p2 n6 c2, w5.drew.cell? (Addr.add (Addr.add a (Int.toNat (IntKind.i64.wrap (n3 - 1)) * 5)) 3) = some (.slice p2 n6 c2) ∧ ∃ n7, w5.drew.cell? (Addr.add (Addr.add a (Int.toNat (IntKind.i64.wrap (n3 - 1)) * 5)) 4) = some (.int .i64 n7) ∧
          ∃ n8, w5.drew.cell? (Addr.add (Addr.add a1 (Int.toNat n3 * 5)) 0) = some (.int .i64 n8) ∧ ∃ n9, w5.drew.cell? (Addr.add (Addr.add a1 (Int.toNat n3 * 5)) 1) = some (.int .u64 n9) ∧ ∃ s1, w5.drew.cell? (Addr.add (Addr.add a1 (Int.toNat n3 * 5)) 2) = some (.string s1) ∧ ∃ p3 n10 c3, w5.drew.cell? (Addr.add (Addr.add a1 (Int.toNat n3 * 5)) 3) = some (.slice p3 n10 c3) ∧ ∃ n11, w5.drew.cell? (Addr.add (Addr.add a1 (Int.toNat n3 * 5)) 4) = some (.int .i64 n11) ∧
          callP Tryz.prog 140 [.agg (Array.mk [.int .i64 n4, .int .u64 n5, .string s, .slice p2 n6 c2, .int .i64 n7]), .agg (Array.mk [.int .i64 n8, .int .u64 n9, .string s1, .slice p3 n10 c3, .int .i64 n11])] w5.drew fun v1 w6 => ∃ n12, v1 = .int .i64 n12 ∧ Sif (n12 == 0) (K (.bool false) w6) (nameI (IntKind.i64.wrap (n3 + 1)) fun n13 => ∃ m', m' < m1 ∧ I1 m' n13 w6)) (K (.bool true) w5) := by
      intro w4 L' hperm hsort ho4 c4
      have hown : ∀ j, own = some j → w1.heap.size ≤ j := hnew
      have c14 : Ch (fun _ => False) w1 w4 := c3.trans c4 fun x hx h => by have := hown x h; omega
      have hLl := hperm.length_eq
      have hv4 : ∀ x ∈ L', ∀ w', Ch (fun _ => False) w4 w' → VR (fun b => Q b ∧ b < w1.heap.size) w' x := fun x hx w' c => (hkm x (hperm.mem_iff.1 hx)).ch0 (c14.trans' c)
      have hnd : ((ks.map MV.m).Nodup ↔ (L'.map MV.m).Nodup) := ((hperm.map MV.m).nodup_iff).symm
      have hpw : (L'.map MV.m).Pairwise fun x y => ¬ ordM y x < 0 := by
        rw [List.pairwise_map]
        exact hsort.imp fun h => by unfold ltOf at h; exact of_decide_eq_false h
      have hadj := dup_adjacent (L'.map MV.m) hpw
      refine ⟨fun m1 n3 w5 => ∃ i : Nat, n3 = (i : Int) ∧ 1 ≤ i ∧ m1 = ks.length + 1 - i ∧ Ch (fun _ => False) w4 w5 ∧ (i ≤ ks.length ∨ i = 1) ∧ ∀ q x y, q + 1 < i → L'[q]? = some x → L'[q + 1]? = some y → ordM x.m y.m ≠ 0, ⟨ks.length, 1, rfl, Nat.le_refl _, by omega, Ch.refl _ _, .inr rfl, fun q x y h => by omega⟩, ?_⟩
      rintro m1 n3 w5 ⟨i, rfl, hi1, rfl, c5, hile, hall⟩
      have c15 := c14.trans' c5
      refine Sif_cases (fun hlt2 => ?_) (fun hge2 => ?_)
      · have hil : i < ks.length := by have := of_decide_eq_true hlt2; omega
        rw [wrap_id (n := (i : Int) - 1) (by omega) (by omega)]
        obtain ⟨x, hxi⟩ : ∃ x, L'[i - 1]? = some x := ⟨L'[i - 1]'(by omega), List.getElem?_eq_getElem _⟩
        obtain ⟨y, hyi⟩ : ∃ y, L'[i]? = some y := ⟨L'[i]'(by omega), List.getElem?_eq_getElem _⟩
        have hrow5 : Rd w5.drew p1 ks.length 5 (L'.flatMap MV.g) := ho4.rd.ch (c5.trans' (Ch.drew _)) fun _ _ _ => id
        obtain ⟨bx, ox, px, ax⟩ := hrow5.at MV.glen hxi (by decide)
        obtain ⟨by', oy, py, ay⟩ := hrow5.at MV.glen hyi (by decide)
        rw [px] at py
        obtain ⟨rfl, rfl⟩ : bx = by' ∧ ox = oy := by simpa using py
        rw [px, show ((i : Int) - 1) = (((i - 1 : Nat)) : Int) by omega]
        refine ⟨by omega, by omega, ?_⟩
        simp only [nn]
        refine ⟨by omega, by omega, ?_⟩
        refine ldR (i := i - 1) ax (ldR ay ?_)
        rw [vv x, vv y]
        refine vOrder_ok x y (hv4 x (List.mem_of_getElem? hxi) _ (c5.trans' (Ch.drew _))) (hv4 y (List.mem_of_getElem? hyi) _ (c5.trans' (Ch.drew _))) fun w6 q6 => ⟨_, rfl, ?_⟩
        have c46 := (c5.trans' (Ch.drew _)).trans' q6.ch
        refine Sif_cases (fun h0 => ?_) (fun h0 => ?_)
        · have h0 : ordM x.m y.m = 0 := by simpa using h0
          have hbad : ¬ (ks.map MV.m).Nodup := by
            rw [hnd]
            exact hadj.2 ⟨i - 1, x.m, y.m, by rw [List.getElem?_map, hxi]; rfl, by rw [show i - 1 + 1 = i by omega, List.getElem?_map, hyi]; rfl, h0⟩
          have := hk w6 (c14.trans' c46)
          rw [decide_eq_false hbad] at this
          exact this
        · have h0 : ordM x.m y.m ≠ 0 := by simpa using h0
          simp only [nameI]
          rw [wrap_id (n := (i : Int) + 1) (by omega) (by omega)]
          refine ⟨ks.length + 1 - (i + 1), by omega, i + 1, by omega, by omega, rfl, c46, .inl (by omega), fun q a b hq ha hb => ?_⟩
          by_cases e : q = i - 1
          · subst e
            rw [show i - 1 + 1 = i by omega] at hb
            rw [hxi] at ha; rw [hyi] at hb
            cases ha; cases hb; exact h0
          · exact hall q a b (by omega) ha hb
      · have hge2 := of_decide_eq_false hge2
        have hgood : (ks.map MV.m).Nodup := by
          rw [hnd]
          refine Classical.byContradiction fun hb => ?_
          obtain ⟨q, a, b, h1, h2, h3⟩ := hadj.1 hb
          rw [List.getElem?_map] at h1 h2
          cases hx : L'[q]? with
          | none => rw [hx] at h1; cases h1
          | some x =>
            cases hy : L'[q + 1]? with
            | none => rw [hy] at h2; cases h2
            | some y =>
              rw [hx] at h1; rw [hy] at h2
              simp only [Option.map_some, Option.some.injEq] at h1 h2
              subst h1 h2
              have := (List.getElem?_eq_some_iff.1 hy).1
              exact hall q x y (by omega) hx hy h3
        have := hk w5 c15
        rw [decide_eq_true hgood] at this
        exact this
    by_cases hnil : ks = []
    · subst hnil
      refine Calls.mono (AnyF.slices_SortFunc_none Tryz.laysSF6 p1 c1 (.func (.func 140) #[] #[]) w3) fun e w' ⟨he, hw⟩ => ⟨_, he, rfl, ?_⟩
      subst hw
      exact behind w' [] (.refl _) .nil ho (Ch.refl _ _)
    · obtain ⟨x0, hx0⟩ := List.exists_mem_of_ne_nil ks hnil
      haveI : Inhabited {x : MV // x ∈ ks} := ⟨⟨x0, hx0⟩⟩
      have hal : ks.attach.length = ks.length := List.length_attach ..
      have hflat : (ks.attach.flatMap fun x : {x : MV // x ∈ ks} => x.1.g) = ks.flatMap MV.g := by
        conv => rhs; rw [← List.attach_map_subtype_val ks, List.flatMap_map]
      have ho' : Ow w3 p1 ks.attach.length c1 5 (ks.attach.flatMap fun x : {x : MV // x ∈ ks} => x.1.g) own := by rw [hal, hflat]; exact ho
      rw [← hal]
      refine sortW_ok (α := {x : MV // x ∈ ks}) Tryz.laysSF6 (k := 5) Tryz.isAgg26 Tryz.sizeOf26 (enc := fun x => x.1.g) (fun x => x.1.glen) (fun x => x.1.gone) (swoM fun x : {x : MV // x ∈ ks} => x.1.m) (g := 140) (fun args w => okCall_enter (by kernel_rfl) args w)
        (fun x y W hW => ?_) ho' (by decide) (by rw [hal]; omega) fun w4 L' hp hs o4 c4 => ⟨rfl, ?_⟩
      · have c1W : Ch (fun _ => False) w1 W := c3.trans hW fun z hz h => by have := hnew z h; omega
        refine (vOrder_ok x.1 y.1 (w := W) (K := fun v w' => v = .int .i64 (ordM x.1.m y.1.m) ∧ Qt W w') ((hkm x.1 x.2).ch0 c1W) ((hkm y.1 y.2).ch0 c1W) fun w' q => ⟨rfl, q⟩).mono fun e w' ⟨v, he, hv, q⟩ => ⟨by rw [he, hv], q⟩
      · rw [hal] at o4 ⊢
        have hp2 := hp.map Subtype.val
        rw [List.attach_map_subtype_val] at hp2
        refine behind w4 (L'.map Subtype.val) hp2 ?_ ?_ c4
        · rw [List.pairwise_map]; exact hs
        · rw [List.flatMap_map]; exact o4
end Go.Proofs.YtnacobknngidkaaGreatDoor
namespace Go.Proofs.YtnacobknngidkaaGreatDoor
open Go Go.Sv Go.Note
set_option linter.unusedVariables false
attribute [local irreducible] Sif
set_option maxRecDepth 4000
theorem rdM_of {s : Bs} {d p k : Nat} (hb : begins (next s p) = some k) : rdM s (d + 1) p =
    if k = 0 then .ok (.mk 0 0 [] 0 []) (next s p).fin
    else if k = 1 then .ok (.mk 1 (if (next s p).text = [116, 114, 117, 101] then 1 else 0) [] 0 []) (next s p).fin
    else if k = 19 then worded 19 (next s p)
    else if k = 18 ∨ k = 20 then worded k (next s (next s p).fin)
    else if k = 21 then listed (rdM s d) s none (next s p).fin
    else if k = 22 then mapped (rdM s d) s (next s p)
    else if k = 23 then arrayed (rdM s d) s (next s p).fin
    else if k = 24 then described (rdM s d) s (next s p).fin
    else numbered s k (next s p).fin := by rw [rdM_eq, hb]
theorem rdM_none {s : Bs} {d p : Nat} (hb : begins (next s p) = none) : rdM s d p = if closes (next s p) = true ∨ ((next s p).kind = 0 ∧ d < 32) then amiss (next s p) 43 else amiss (next s p) 40 := by rw [rdM_eq, hb]
theorem rdM_zero {s : Bs} {p k : Nat} (hb : begins (next s p) = some k) : rdM s 0 p = amiss (next s p) 26 := by rw [rdM_eq, hb]
theorem ldN {w : World} {k : Nat} {x : MV} {K : Int → Int → ByteArray → Option Addr → Nat → Nat → Int → Prop} (h : blk w k = some x.g) (hk : K x.k (x.n : Int) ⟨x.t.toArray⟩ x.s.p x.s.n x.s.c x.e) :
    ∃ n, w.cell? ⟨k, 0, none⟩ = some (.int .i64 n) ∧ ∃ n1, w.cell? ⟨k, 1, none⟩ = some (.int .u64 n1) ∧ ∃ s, w.cell? ⟨k, 2, none⟩ = some (.string s) ∧ ∃ p n2 c, w.cell? ⟨k, 3, none⟩ = some (.slice p n2 c) ∧ ∃ n3, w.cell? ⟨k, 4, none⟩ = some (.int .i64 n3) ∧ K n n1 s p n2 c n3 := by
  cases x
  exact ⟨_, cellK h 0 rfl, _, cellK h 1 rfl, _, cellK h 2 rfl, _, _, _, cellK h 3 rfl, _, cellK h 4 rfl, hk⟩
theorem nd2 {a b : List Nat} (h1 : a.Nodup) (h2 : b.Nodup) (n : Nat) (ha : ∀ x ∈ a, x < n) (hb : ∀ x ∈ b, n ≤ x) : (a ++ b).Nodup :=
  List.nodup_append.2 ⟨h1, h2, fun x hx y hy e => by have := ha x hx; have := hb y hy; omega⟩
theorem Row.vo {w : World} {p : Option Addr} {n c : Nat} {own : Option Nat} {R : List MV} (h : VE.Row w p n c own R) (hn : n ≤ 2 ^ 46) {k : Int} {m : Nat} {t : Bs} {e : Int} : VO w (.mk k m t ⟨p, n, c, own⟩ e R) :=
  .mk h.1 hn h.2.1 h.2.2.1 h.2.2.2
theorem value_ok {S : ByteArray} (hs : S.size ≤ 2 ^ 40) {rb : Nat} (h2 : 8 ≤ rb) : ∀ d : Nat, d ≤ 32 → ValOk S rb d := by
  intro d
  induction d using Nat.strongRecOn with
  | ind d ih =>
  intro hd32 p w K KP hr hL hk hp
  apply ok_note_reader_value
  unfold wp_note_reader_value
  have hlen := sl S
  have hrl := hr.lt
  have hple := hr.2
  have hlies := next_lies S.data.toList p (by rw [hlen]; exact hple)
  rw [hlen] at hlies
  refine newB_blk fun w1 b1 c1 z1 => ?_
  have hr1 := hr.chr c1
  have h0 := hr1.1
  unfold rcl at h0
  simp only [nn, add_at, Nat.zero_add]
  refine ⟨_, cellK h0 2 rfl, _, cellK h0 3 rfl, _, cellK h0 4 rfl, ?_⟩
  refine box3 fun w5 b5 c5 z5 => ?_
  have hr5 := hr1.chr c5
  have hL5 := (hL.ch0 c1).ch0 c5
  have c15 : Ch (fun _ => False) w w5 := c1.trans' c5
  have b15 := (c5.blk (blk_lt b1) id).trans b1
  have c15s := c15.size
  simp only [add_at, Nat.zero_add]
  have cr : ∀ {a b : World}, Ch (fun _ => False) a b → Ch (· = rb) a b := fun c => c.mono fun _ _ h => h.elim
  refine callX_of (begins_ok hr5 fun w6 c6 => ?_)
  have hr6 := hr5.chr c6
  have hL6 := hL5.ch0 c6
  have c16 : Ch (fun _ => False) w w6 := c15.trans' c6
  have b16 := (c6.blk (blk_lt b15) id).trans b15
  have b56 := (c6.blk (blk_lt b5) id).trans b5
  have c16s := c16.size
  have hb1l : w.heap.size < w6.heap.size := blk_lt b16
  have hb5l : w1.heap.size < w6.heap.size := blk_lt b56
  obtain ⟨s, hsd⟩ : ∃ s, s = S.data.toList := ⟨_, rfl⟩
  rw [← hsd] at hk hp hlen hlies b56 b5 ⊢
  -- a fault at the token
  have bad : ∀ e : Nat, rdM s d p = amiss (next s p) e → ∀ {K' : Value → World → Prop} w', Ch (fun _ => False) w6 w' → callX Tryz.prog 43 [.pointer (some ⟨rb, 0, none⟩), .int .i64 (e : Int)] w' K' KP := fun e he K' w' c =>
    refuse_ok (e := e) (hr6.chr c) (by rw [← hsd]; exact hp _ _ w' he (cr (c16.trans' c)))
  cases hb : begins (next s p) with
  | none =>
    have hn := rdM_none (d := d) hb
    refine ⟨_, _, rfl, fun _ => False, fun _ h => h.elim, ?_⟩
    refine Sif_false (Sif_false ?_)
    refine callX_of (closing_ok hr6 ⟨_, rfl, ?_⟩)
    rw [← hsd]
    have hk0 : ∀ t : Tok, (((pk t : Nat) : Int) != 0) = decide (t.kind ≠ 0) := fun t => by
      rw [int_bne]
      unfold pk
      by_cases h5 : t.kind = 5
      · rw [if_pos h5, h5]; rfl
      · rw [if_neg h5]
        by_cases h0 : t.kind = 0
        · rw [h0]; rfl
        · rw [decide_eq_false (by omega), decide_eq_true h0]; rfl
    refine Sif_cases (fun h => ?_) (fun h => ?_)
    · rw [Bool.or_eq_true] at h
      refine ⟨_, cellK b56 0 rfl, ?_⟩
      rw [hk0]
      have hcz : closes (next s p) = true → (next s p).kind ≠ 0 := fun hc h0 => by
        simp [closes, Tok.is, h0] at hc
      refine Sif_cases (fun h3 => ?_) (fun h3 => ?_)
      · have h3 : (next s p).kind = 0 := by simpa using h3
        refine Sif_cases (fun h4 => ?_) (fun h4 => ?_)
        · have h4 := of_decide_eq_true h4
          refine bad 43 ?_ w6 (Ch.refl _ _)
          rw [hn, if_pos (.inr ⟨h3, by omega⟩)]
        · have h4 := of_decide_eq_false h4
          refine bad 40 ?_ w6 (Ch.refl _ _)
          rw [hn, if_neg]
          rintro (hc | ⟨_, hc⟩)
          · exact hcz hc h3
          · omega
      · have h3 : (next s p).kind ≠ 0 := by simpa using h3
        have hc : closes (next s p) = true := h.resolve_left (by simpa using h3)
        refine bad 43 ?_ w6 (Ch.refl _ _)
        rw [hn, if_pos (.inl hc)]
    · rw [Bool.or_eq_false_iff] at h
      have h1 : (next s p).kind ≠ 0 := by simpa using h.1
      refine bad 40 ?_ w6 (Ch.refl _ _)
      rw [hn, if_neg]
      rintro (hc | ⟨hc, _⟩)
      · rw [h.2] at hc; cases hc
      · exact h1 hc
  | some k =>
    refine ⟨_, _, rfl, fun w7 => w7 = w6 ∧ 1 ≤ d, ?_, ?_⟩
    rotate_left
    · refine Sif_true (Sif_cases (fun h => ?_) (fun h => Sif_true ⟨by trivial, by have := of_decide_eq_false h; omega⟩))
      have h := of_decide_eq_true h
      have hd0 : d = 0 := by omega
      subst hd0
      exact bad 26 (rdM_zero hb) w6 (Ch.refl _ _)
    rintro w7 ⟨rfl, hd1⟩
    obtain ⟨d', rfl⟩ : ∃ d', d = d' + 1 := ⟨d - 1, by omega⟩
    have hV : ValOk S rb d' := ih d' (by omega) (by omega)
    have hrd := rdM_of (d := d') hb
    have hk25 := begins_lt hb
    have hfin : (next s p).fin ≤ S.size := hlies.2.2.1
    rw [show (33 : Int) - ((d' + 1 : Nat) : Int) = 32 - (d' : Int) by omega]
    have e19 : (((k : Nat) : Int) == 19) = decide (k = 19) := nat_beq k 19
    have e1 : (((k : Nat) : Int) == 1) = decide (k = 1) := nat_beq k 1
    have e18 : (((k : Nat) : Int) == 18) = decide (k = 18) := nat_beq k 18
    have e20 : (((k : Nat) : Int) == 20) = decide (k = 20) := nat_beq k 20
    have e21 : (((k : Nat) : Int) == 21) = decide (k = 21) := nat_beq k 21
    have e22 : (((k : Nat) : Int) == 22) = decide (k = 22) := nat_beq k 22
    have e23 : (((k : Nat) : Int) == 23) = decide (k = 23) := nat_beq k 23
    have e24 : (((k : Nat) : Int) == 24) = decide (k = 24) := nat_beq k 24
    have e0 : (((k : Nat) : Int) == 0) = decide (k = 0) := nat_beq k 0
    rw [e19]
    refine Sif_cases (fun h19 => ?_) (fun h19 => ?_)
    · have h19 := of_decide_eq_true h19
      subst h19
      rw [if_neg (by decide), if_neg (by decide), if_pos rfl] at hrd
      refine said_ok (k := 19) hs (by omega) hr6 hL6 h2 (fun w8 hw r8 c8 => ?_) (fun a e w8 hw c8 => ?_)
      · rw [← hsd] at hw r8 ⊢
        have b18 := (c8.blk (blk_lt b16) (by omega)).trans b16
        refine is5 (fin5 b18 rfl fun w9 b9 c9 z9 => ?_)
        refine hk (one 19 0 (next s p).text) (next s p).fin w9 (by rw [hrd, hw, one_m]; rfl) (one_ok ..) (by rw [one_B]; simp) (by rw [hsd] at r8 ⊢; exact r8.ch c9 (by omega)) ?_
        exact ((cr c16).trans' c8).trans c9 fun x hx h => by omega
      · rw [← hsd] at hw
        exact hp a e w8 (by rw [hrd, hw]) ((cr c16).trans' (cr c8))
    have h19 := of_decide_eq_false h19
    refine callX_of (step_ok' hs hr6 hL6.ut (by omega) fun w8 r8 c8 => ⟨_, _, _, rfl, ?_⟩)
    have hL8 := hL6.chr h2 c8
    have c18 : Ch (· = rb) w w8 := (cr c16).trans' c8
    have c18s := c8.size
    have b18 := (c8.blk (blk_lt b16) (by omega)).trans b16
    have b58 := (c8.blk (blk_lt b56) (by omega)).trans b56
    rw [← hsd] at r8
    refine nbx (x := one (k : Int) 0 []) rfl fun w14 b14 c14 z14 => ?_
    have r14 : RS S rb (next s p).fin w14 := r8.chr c14
    have hL14 := hL8.ch0 c14
    have c114 : Ch (· = rb) w w14 := c18.trans' (cr c14)
    have b114 := (c14.blk (blk_lt b18) id).trans b18
    have b514 := (c14.blk (blk_lt b58) id).trans b58
    have hvb : w8.heap.size < w14.heap.size := blk_lt b14
    simp only [add_at, Nat.zero_add]
    have hb56 : w7.heap.size ≤ w8.heap.size := c18s
    -- what is done at the end
    refine ⟨fun w15 => ∃ x b, blk w15 w8.heap.size = some x.g ∧ rdM s (d' + 1) p = .ok x.m b ∧ VO w15 x ∧ (∀ j ∈ x.B, w8.heap.size < j) ∧ RS S rb b w15 ∧ Ch (fun j => j = rb ∨ j = w8.heap.size) w14 w15, ?_, ?_⟩
    · rintro w15 ⟨x, b, b15, hrd', hvo, hxb, r15, c1415⟩
      have ba := (c1415.blk (blk_lt b114) (by omega)).trans b114
      refine ldN b15 (fin5 ba rfl fun w20 b20 c20 z20 => ?_)
      have cx : Ch (fun j => j = rb ∨ j = w8.heap.size) w w15 := (c114.mono fun _ _ h => .inl h).trans' c1415
      refine hk x b w20 hrd' (VO.ch c20 x hvo fun j hj e => by have := hxb j hj; omega) (fun j hj => by have := hxb j hj; omega) (r15.ch c20 (by omega)) ?_
      exact (cx.mono (S' := fun j => j = rb ∨ j = w8.heap.size) fun _ _ h => h).trans c20 (fun y hy h => by omega) |>.mono fun y hy h => by omega
    have toJ : ∀ w15 x b, blk w15 w8.heap.size = some x.g → rdM s (d' + 1) p = .ok x.m b → VO w15 x → (∀ j ∈ x.B, w8.heap.size < j) → RS S rb b w15 → Ch (fun j => j = rb ∨ j = w8.heap.size) w14 w15 → ∃ x b, blk w15 w8.heap.size = some x.g ∧ rdM s (d' + 1) p = .ok x.m b ∧ VO w15 x ∧ (∀ j ∈ x.B, w8.heap.size < j) ∧ RS S rb b w15 ∧ Ch (fun j => j = rb ∨ j = w8.heap.size) w14 w15 := fun w15 x b h1 h2 h3 h4 h5 h6 => ⟨x, b, h1, h2, h3, h4, h5, h6⟩
    have fault : ∀ a e w15, rdM s (d' + 1) p = .bad a e → Ch (fun j => j = rb ∨ j = w8.heap.size) w14 w15 → KP (flt a e) w15 := fun a e w15 h c => by
      refine hp a e w15 h ?_
      exact (((c114.mono (S' := fun j => j = rb ∨ j = w8.heap.size) fun _ _ h => .inl h).trans' c)).mono fun y hy h => by omega
    have ca : ∀ {a b : World}, Ch (· = rb) a b → Ch (fun j => j = rb ∨ j = w8.heap.size) a b := fun c => c.mono fun _ _ h => .inl h
    have cb : ∀ {a b : World}, Ch (· = w8.heap.size) a b → Ch (fun j => j = rb ∨ j = w8.heap.size) a b := fun c => c.mono fun _ _ h => .inr h
    have rne : ¬ (rb = w8.heap.size) := by have := r8.lt; omega
    -- the box of the value stays where the reader reads on
    have keep : ∀ {a : World} {x : MV}, blk w14 w8.heap.size = some x.g → Ch (· = rb) w14 a → blk a w8.heap.size = some x.g := fun h c => (c.blk hvb (by omega)).trans h
    rw [e1]
    refine Sif_cases (fun h1 => ?_) (fun h1 => ?_)
    · have h1 := of_decide_eq_true h1
      subst h1
      rw [if_neg (by decide), if_pos rfl] at hrd
      refine ⟨_, cellK b514 2 rfl, ?_⟩
      have hkind : (next s p).kind < 4 := by
        unfold begins at hb
        split at hb
        · omega
        · split at hb
          · omega
          · split at hb
            · cases hb
            · omega
      rw [ptx_small hkind, show (ByteArray.mk (Array.mk [(116 : UInt8), 114, 117, 101])) = ⟨([116, 114, 117, 101] : Bs).toArray⟩ by rfl, bs_eq]
      refine Sif_cases (fun ht => ?_) (fun ht => ?_)
      · rw [if_pos (of_decide_eq_true ht)] at hrd
        refine stn (n' := 1) b14 fun w15 b15 c15' => toJ w15 (one 1 1 []) _ b15 (by rw [hrd, one_m]) (one_ok ..) (by rw [one_B]; simp) (r14.ch c15' rne) (cb c15')
      · rw [if_neg (of_decide_eq_false ht)] at hrd
        exact toJ w14 (one 1 0 []) _ b14 (by rw [hrd, one_m]) (one_ok ..) (by rw [one_B]; simp) r14 (Ch.refl _ _)
    have h1 := of_decide_eq_false h1
    refine ⟨fun b1 w15 => w14 = w15 ∧ b1 = decide (k = 18 ∨ k = 20), ?_, ?_⟩
    rotate_left
    · rw [e18, e20]
      refine Sif_cases (fun h => ⟨by trivial, ?_⟩) (fun h => ⟨by trivial, ?_⟩)
      · rw [decide_eq_true (of_decide_eq_true h), decide_eq_true (.inl (of_decide_eq_true h))]
      · exact decide_eq_decide.2 ⟨fun e => .inr e, fun e => e.resolve_left (of_decide_eq_false h)⟩
    rintro b1 w15 ⟨rfl, rfl⟩
    refine Sif_cases (fun h => ?_) (fun h => ?_)
    · have hkk := of_decide_eq_true h
      rw [if_neg (by omega), if_neg (by omega), if_neg (by omega), if_pos hkk] at hrd
      refine said_ok (k := k) hs (by omega) r14 hL14 h2 (fun w16 hw r16 c16' => ?_) (fun a e w16 hw c16' => ?_)
      · rw [← hsd] at hw r16 ⊢
        refine is5 (st5 (keep b14 c16') rfl fun w17 b17 c17 z17 => ?_)
        exact toJ w17 (one k 0 (next s (next s p).fin).text) _ b17 (by rw [hrd, hw, one_m]) (one_ok ..) (by rw [one_B]; simp) (r16.ch c17 rne) ((ca c16').trans' (cb c17))
      · rw [← hsd] at hw
        exact fault a e w16 (by rw [hrd, hw]) (ca (cr c16'))
    have hkk := of_decide_eq_false h
    rw [e21, e22, e23, e24, e0]
    refine Sif_cases (fun h => ?_) (fun h21 => ?_)
    · have h := of_decide_eq_true h
      subst h
      rw [if_neg (by decide), if_neg (by decide), if_neg (by decide), if_neg (by decide), if_pos rfl] at hrd
      unfold listed at hrd
      refine elements_ok (elem := none) hs h2 (by omega) hV r14 hL14 (fun R p' c own b w16 hel hrow hRl hnew r16 c16' => ?_) (fun a e w16 hel c16' => ?_)
      · rw [← hsd] at hel
        unfold elemsM at hel
        rw [hel] at hrd
        refine ⟨_, _, _, rfl, ?_⟩
        refine sts (s' := ⟨p', R.length, c, own⟩) R (keep b14 c16') fun w17 b17 c17 => ?_
        have hrow17 := hrow.ch c17 fun j hj e => by have := hnew j hj; omega
        exact toJ w17 (.mk 21 0 [] ⟨p', R.length, c, own⟩ 0 R) b b17 (by rw [hrd, MV.m_mk]) (Row.vo hrow17 (by omega)) (fun j hj => by
          rw [MV.B_mk] at hj
          have := hnew j hj; omega) (r16.ch c17 rne) ((ca c16').trans' (cb c17))
      · rw [← hsd] at hel
        unfold elemsM at hel
        rw [hel] at hrd
        exact fault a e w16 hrd (ca c16')
    have h21 := of_decide_eq_false h21
    refine Sif_cases (fun h => ?_) (fun h22 => ?_)
    · have h := of_decide_eq_true h
      subst h
      rw [if_neg (by decide), if_neg (by decide), if_neg (by decide), if_neg (by decide), if_neg (by decide), if_pos rfl] at hrd
      refine ⟨_, cellK b514 1 rfl, ?_⟩
      refine pairs_ok (o := (next s p).beg) hs h2 (by omega) hV r14 hL14 (r := rdM s (d' + 1) p) (by rw [hrd, ← hsd]; rfl) (fun R p' c own b w16 hel hrow hRl hnew r16 c16' => ?_) (fun a e w16 hel c16' => fault a e w16 hel (ca c16'))
      refine ⟨_, _, _, rfl, ?_⟩
      refine sts (s' := ⟨p', R.length, c, own⟩) R (keep b14 c16') fun w17 b17 c17 => ?_
      have hrow17 := hrow.ch c17 fun j hj e => by have := hnew j hj; omega
      exact toJ w17 (.mk 22 0 [] ⟨p', R.length, c, own⟩ 0 R) b b17 (by rw [hel, MV.m_mk]) (Row.vo hrow17 (by omega)) (fun j hj => by
        rw [MV.B_mk] at hj
        have := hnew j hj; omega) (r16.ch c17 rne) ((ca c16').trans' (cb c17))
    have h22 := of_decide_eq_false h22
    refine Sif_cases (fun h => ?_) (fun h23 => ?_)
    · have h := of_decide_eq_true h
      subst h
      rw [if_neg (by decide), if_neg (by decide), if_neg (by decide), if_neg (by decide), if_neg (by decide), if_neg (by decide), if_pos rfl] at hrd
      unfold arrayed at hrd
      simp only at hrd
      refine elem_ok hs r14 hL14 h2 (fun ke w16 hk1 hkn hk24 h91 r16 c16' => ⟨_, rfl, ?_⟩) (fun a e w16 c16' hcase => fault a e w16 ?_ (ca c16'))
      rotate_left
      · rw [← hsd] at hcase
        rw [hrd]
        rcases hcase with ⟨g1, g2⟩ | ⟨g1, g2, g3⟩ | ⟨g1, ⟨ke, g2, g3⟩, g4⟩ | ⟨g1, ⟨ke, g2, g3⟩, g4, g5⟩
        · rw [if_pos g1, g2]
        · rw [if_neg (by omega), g2]; exact g3
        · rw [if_neg (by omega), g2]
          simp only
          rw [if_pos g3, g4]
        · rw [if_neg (by omega), g2]
          simp only
          rw [if_neg g3, if_pos g4, g5]
      rw [← hsd] at hk1 hkn h91 r16
      rw [if_neg (by omega), hkn] at hrd
      simp only at hrd
      rw [if_neg hk24, h91] at hrd
      simp only [Bool.true_eq_false, if_false] at hrd
      unfold listed at hrd
      refine ste (e' := (ke : Int)) (keep b14 c16') fun w17 b17 c17 => ?_
      have r17 := r16.ch c17 rne
      have c1417 : Ch (fun j => j = rb ∨ j = w8.heap.size) w14 w17 := (ca c16').trans' (cb c17)
      have hL17 : LW w17 := hL14.ch c1417 fun j hj h => by have := hL8.size; omega
      refine ⟨_, cellK b17 4 rfl, ?_⟩
      refine elements_ok (elem := some ke) hs h2 (by omega) hV r17 hL17 (fun R p' c own b w18 hel hrow hRl hnew r18 c18' => ?_) (fun a e w18 hel c18' => ?_)
      · rw [← hsd] at hel
        unfold elemsM at hel
        rw [hel] at hrd
        refine ⟨_, _, _, rfl, ?_⟩
        have b18' := (c18'.blk (blk_lt b17) (by omega)).trans b17
        have c1717 := c1417.size
        refine sts (s' := ⟨p', R.length, c, own⟩) R b18' fun w19 b19 c19 => ?_
        have hrow19 := hrow.ch c19 fun j hj e => by have := hnew j hj; omega
        exact toJ w19 (.mk 23 0 [] ⟨p', R.length, c, own⟩ ke R) b b19 (by rw [hrd, MV.m_mk]) (Row.vo hrow19 (by omega)) (fun j hj => by
          rw [MV.B_mk] at hj
          have := hnew j hj; omega) (r18.ch c19 rne) ((c1417.trans' (ca c18')).trans' (cb c19))
      · rw [← hsd] at hel
        unfold elemsM at hel
        rw [hel] at hrd
        exact fault a e w18 hrd (c1417.trans' (ca c18'))
    have h23 := of_decide_eq_false h23
    refine Sif_cases (fun h => ?_) (fun h24 => ?_)
    · have h := of_decide_eq_true h
      subst h
      rw [if_neg (by decide), if_neg (by decide), if_neg (by decide), if_neg (by decide), if_neg (by decide), if_neg (by decide), if_neg (by decide), if_pos rfl] at hrd
      unfold described at hrd
      rw [wrap_id (n := 32 - (d' : Int) + 1) (by omega) (by omega), show 32 - (d' : Int) + 1 = 33 - (d' : Int) by omega]
      refine hV _ w14 _ _ r14 hL14 (fun x b w16 hrx hvo hxb r16 c16' => ?_) (fun a e w16 hrx c16' => ?_)
      rotate_left
      · rw [← hsd] at hrx
        rw [hrx] at hrd
        exact fault a e w16 hrd (ca c16')
      rw [← hsd] at hrx
      rw [hrx] at hrd
      simp only at hrd
      refine is5 (nbx rfl fun w22 b22 c22 z22 => ?_)
      have b22d : blk w22.drew w16.heap.size = some x.g := b22
      refine ldK b22d ?_
      have c1422 : Ch (· = rb) w14 w22.drew := (c16'.trans' (cr c22)).trans' (Ch.drew _)
      have r22 : RS S rb b w22.drew := (r16.chr c22).chr (Ch.drew _)
      have hL22 := hL14.chr h2 c1422
      have hz22 : w22.drew.heap.size = w22.heap.size := rfl
      have hs16 := c16'.size
      refine hV _ w22.drew _ _ r22 hL22 (fun y e w23 hry hvo2 hyb r23 c23 => ?_) (fun a e w23 hry c23 => ?_)
      rotate_left
      · rw [← hsd] at hry
        rw [hry] at hrd
        exact fault a e w23 hrd (ca (c1422.trans' c23))
      rw [← hsd] at hry
      rw [hry] at hrd
      simp only at hrd
      have b23 : blk w23 w16.heap.size = some x.g := (c23.blk (blk_lt b22d) (by have := r16.lt; omega)).trans b22d
      refine is5 ⟨ldK b23 (by rfl), ?_⟩
      rw [show [Value.int .i64 x.k, .int .u64 (x.n : Int), .string ⟨x.t.toArray⟩, .slice x.s.p x.s.n x.s.c, .int .i64 x.e, .int .i64 y.k, .int .u64 (y.n : Int), .string ⟨y.t.toArray⟩, .slice y.s.p y.s.n y.s.c, .int .i64 y.e] = [x, y].flatMap MV.g by rw [List.flatMap_cons, List.flatMap_cons, ← gg x, ← gg y]; rfl]
      refine newB_blk fun w24 b24 c24 z24 => ?_
      have c1423 : Ch (· = rb) w14 w23 := c1422.trans' c23
      have c1424 : Ch (· = rb) w14 w24 := c1423.trans' (cr c24)
      have hs23 := c1423.size
      have bv24 := keep b14 c1424
      simp only [add_at, Nat.zero_add]
      refine sts (s' := ⟨some ⟨w23.heap.size, 0, none⟩, 2, 2, some w23.heap.size⟩) [x, y] bv24 fun w25 b25 c25 => ?_
      have c1425 : Ch (fun j => j = rb ∨ j = w8.heap.size) w14 w25 := (ca c1424).trans' (cb c25)
      have hL25 : LW w25 := hL14.ch c1425 fun j hj h => by have := hL8.size; omega
      have r25 : RS S rb e w25 := (r23.chr c24).ch c25 rne
      have hxl := VO.lt x hvo
      have hyl := VO.lt y hvo2
      have c1623 : Ch (· = rb) w16 w23 := (cr c22).trans' ((Ch.drew _).trans' c23)
      have hs1623 := c1623.size
      have hvx25 : VO w25 x := VO.ch c25 x (VO.ch c24 x (VO.ch c1623 x hvo fun j hj e => by have := hxb j hj; have := r8.lt; omega) fun _ _ h => h) fun j hj e => by have := hxb j hj; omega
      have hvy25 : VO w25 y := VO.ch c25 y (VO.ch c24 y hvo2 fun _ _ h => h) fun j hj e => by have := hyb j hj; omega
      have b24' : blk w25 w23.heap.size = some ([x, y].flatMap MV.g) := (c25.blk (blk_lt b24) (by omega)).trans b24
      have hgl : ([x, y].flatMap MV.g).length = 10 := by rw [flat_len MV.glen]; rfl
      have hB : ([x, y].flatMap MV.B) = x.B ++ y.B := by simp
      have hV24 : VO w25 (.mk 24 0 [] ⟨some ⟨w23.heap.size, 0, none⟩, 2, 2, some w23.heap.size⟩ 0 [x, y]) := by
        refine .mk rfl (show (2 : Nat) ≤ 2 ^ 46 by decide) ⟨hgl, Nat.le_refl _, .inr ⟨_, 0, _, rfl, rfl, b24', (show 10 ≤ ([x, y].flatMap MV.g).length from Nat.le_of_eq hgl.symm), (show ((([x, y].flatMap MV.g).drop 0).take 10) = _ by rw [List.drop_zero, List.take_of_length_le (Nat.le_of_eq hgl)])⟩⟩ (fun z hz => ?_) ?_
        · simp only [List.mem_cons, List.not_mem_nil, or_false] at hz
          rcases hz with h | h
          · rw [h]; exact hvx25
          · rw [h]; exact hvy25
        · rw [hB]
          have hxy := nd2 hvo.inv.2.2.2.2 hvo2.inv.2.2.2.2 w16.heap.size hxl (fun j hj => by have := hyb j hj; have := c22.size; omega)
          show (w23.heap.size :: (x.B ++ y.B)).Nodup
          refine List.nodup_cons.2 ⟨fun hm => ?_, hxy⟩
          rcases List.mem_append.1 hm with h | h
          · have := hxl _ h; omega
          · have := hyl _ h; omega
      refine want_ok (c := 41) hs r25 hL25.ut (by omega) (fun h41 w26 r26 c26 => ⟨by trivial, ?_⟩) (fun h41 a e' hw => fault a e' w25 ?_ c1425)
      · rw [← hsd] at h41 r26
        rw [h41] at hrd
        simp only [Bool.true_eq_false, if_false] at hrd
        have b26 := (c26.blk (blk_lt b25) (by omega)).trans b25
        refine toJ w26 _ _ b26 (by rw [hrd, MV.m_mk]; rfl) (VO.ch c26 _ hV24 fun j hj e' => ?_) (fun j hj => ?_) r26 (c1425.trans' (ca c26))
        · rw [MV.B_mk, hB] at hj
          have hrl23 := r23.lt
          have hj : j = w23.heap.size ∨ j ∈ x.B ∨ j ∈ y.B := by simpa using hj
          rcases hj with h | h | h
          · omega
          · have := hxb j h; have := r8.lt; omega
          · have := hyb j h; have := r8.lt; have := c22.size; omega
        · rw [MV.B_mk, hB] at hj
          have hj : j = w23.heap.size ∨ j ∈ x.B ∨ j ∈ y.B := by simpa using hj
          rcases hj with h | h | h
          · omega
          · have := hxb j h; omega
          · have := hyb j h; have := c22.size; omega
      · rw [← hsd] at h41 hw
        rw [h41] at hrd
        simp only [if_true] at hrd
        rw [hrd, hw]
    have h24 := of_decide_eq_false h24
    refine Sif_cases (fun h => ?_) (fun h0n => ?_)
    · have h := of_decide_eq_true h
      subst h
      rw [if_pos rfl] at hrd
      exact toJ w14 (one 0 0 []) _ b14 (by rw [hrd, one_m]) (one_ok ..) (by rw [one_B]; simp) r14 (Ch.refl _ _)
    · have h0n := of_decide_eq_false h0n
      rw [if_neg h0n, if_neg h1, if_neg h19, if_neg hkk, if_neg h21, if_neg h22, if_neg h23, if_neg h24] at hrd
      have hk17 : 2 ≤ k ∧ k ≤ 17 := by omega
      refine number_ok hs hk17 r14 hL14 h2 b14 (by omega) (by have := hL8.size; omega) (fun n t b w16 hnum b16' r16 c16' => ⟨by trivial, ?_⟩) (fun a e w16 hnum c16' => ?_)
      · rw [← hsd] at hnum
        exact toJ w16 (one k n t) b b16' (by rw [hrd, hnum, one_m]) (one_ok ..) (by rw [one_B]; simp) r16 c16'
      · rw [← hsd] at hnum
        exact fault a e w16 (by rw [hrd, hnum]) c16'
end Go.Proofs.YtnacobknngidkaaGreatDoor
