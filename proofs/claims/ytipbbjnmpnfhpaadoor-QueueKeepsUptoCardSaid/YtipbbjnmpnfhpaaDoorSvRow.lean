/-
  Rows of structs in memory, read by index; small steps over local boxes. Over every program.
-/
import Derived.Test.YtipbbjnmpnfhpaaDoorSvLib
namespace Go.Sv
open Go
set_option linter.unusedVariables false

theorem flat_get {α : Type} {g : α → List Value} {sz : Nat} (hg : ∀ x, (g x).length = sz) : ∀ (L : List α) (i j : Nat), j < sz → (L.flatMap g)[i * sz + j]? = L[i]?.bind fun x => (g x)[j]?
  | [], i, j, _ => by simp
  | x :: L, 0, j, hj => by
    rw [List.flatMap_cons, Nat.zero_mul, Nat.zero_add, List.getElem?_append_left (by rw [hg]; exact hj)]; simp
  | x :: L, i + 1, j, hj => by
    rw [List.flatMap_cons, List.getElem?_append_right (by rw [hg, Nat.add_mul]; omega), hg, show (i + 1) * sz + j - sz = i * sz + j by rw [Nat.add_mul]; omega, flat_get hg L i j hj]; simp
theorem flat_len {α : Type} {g : α → List Value} {sz : Nat} (hg : ∀ x, (g x).length = sz) (L : List α) : (L.flatMap g).length = L.length * sz := by
  induction L with
  | nil => simp
  | cons x L ih => rw [List.flatMap_cons, List.length_append, ih, hg, List.length_cons, Nat.add_mul]; omega
/-- an element of a row that reads -/
theorem Rd.at {α : Type} {g : α → List Value} {sz : Nat} (hg : ∀ x, (g x).length = sz) {w : World} {p : Option Addr} {n : Nat} {L : List α} (h : Rd w p n sz (L.flatMap g)) {i : Nat} {x : α} (hi : L[i]? = some x) (h0 : 0 < sz) :
    ∃ b o, p = some ⟨b, o, none⟩ ∧ ∀ j v, (g x)[j]? = some v → w.cell? ⟨b, o + i * sz + j, none⟩ = some v := by
  have hil : i < L.length := (List.getElem?_eq_some_iff.1 hi).1
  have hn : n * sz = L.length * sz := by rw [← h.1, flat_len hg]
  have hlt : ∀ j, j < sz → i * sz + j < n * sz := fun j hj => by
    have : (i + 1) * sz ≤ L.length * sz := Nat.mul_le_mul_right _ hil
    rw [Nat.add_mul] at this; omega
  obtain ⟨b, o, hp, _⟩ := h.cell (hlt 0 h0)
  refine ⟨b, o, hp, fun j v hv => ?_⟩
  have hj : j < sz := by rw [← hg x]; exact (List.getElem?_eq_some_iff.1 hv).1
  obtain ⟨b', o', hp', hc⟩ := h.cell (hlt j hj)
  rw [hp] at hp'; cases hp'
  rw [Nat.add_assoc, hc, flat_get hg L i j hj, hi]; exact hv
theorem Rd.len {w : World} {p : Option Addr} {n sz : Nat} {xs : List Value} (h : Rd w p n sz xs) : xs.length = n * sz := h.1
theorem Rd.lt {w : World} {p : Option Addr} {n sz : Nat} {xs : List Value} (h : Rd w p n sz xs) : ∀ a, p = some a → n * sz ≠ 0 → a.block < w.heap.size := fun a ha h0 => by
  rcases h.2 with h2 | ⟨b, o, cs, hp, hb, _⟩
  · exact absurd h2 h0
  · rw [hp] at ha; cases ha; exact cells_lt hb
/-- a block of one's own, and what is stored into it at once -/
theorem st_all {w : World} {k : Nat} {cs : List Value} : ∀ (vs : List Value) (o : Nat) {K : World → Prop}, blk w k = some cs → o + vs.length ≤ cs.length →
    (∀ w', blk w' k = some (putSeg cs o vs) → Ch (· = k) w w' → w'.heap.size = w.heap.size → K w') →
    (List.foldr (fun (v : Value) (F : Nat → World → Prop) (i : Nat) (w : World) => st w ⟨k, i, none⟩ v fun w => F (i + 1) w) (fun _ w => K w) vs) o w := by
  intro vs
  induction vs generalizing w cs with
  | nil => intro o K hb _ hk; exact hk w (by rw [putSeg_nil]; exact hb) (Ch.refl _ _) rfl
  | cons v vs ih =>
    intro o K hb hl hk
    simp only [List.length_cons] at hl
    refine st_blk hb (by omega) fun w1 b1 c1 z1 => ?_
    refine ih (o + 1) b1 (by simp; omega) fun w2 b2 c2 z2 => hk w2 (by rw [b2, putSeg_cons cs o v vs (by omega)]) (c1.trans' c2) (by rw [z2, z1])
theorem box2 {w : World} {t : TypeId} {z0 z1 v0 v1 : Value} {K : Addr → World → Prop} (hk : ∀ w', blk w' w.heap.size = some [v0, v1] → Ch (fun _ => False) w w' → w'.heap.size = w.heap.size + 1 → K ⟨w.heap.size, 0, none⟩ w') :
    newB w [z0, z1] t fun a w1 => st w1 (a.add 0) v0 fun w2 => st w2 (a.add 1) v1 fun w3 => K a w3 := by
  refine newB_blk fun w1 b1 c1 y1 => ?_
  simp only [add_at]
  exact st_all [v0, v1] 0 (K := fun w' => K ⟨w.heap.size, 0, none⟩ w') b1 (Nat.le_refl _) fun w' b c y => hk w' b (c1.trans c fun x hx h => by omega) (by omega)
theorem box3 {w : World} {t : TypeId} {z0 z1 z2 v0 v1 v2 : Value} {K : Addr → World → Prop} (hk : ∀ w', blk w' w.heap.size = some [v0, v1, v2] → Ch (fun _ => False) w w' → w'.heap.size = w.heap.size + 1 → K ⟨w.heap.size, 0, none⟩ w') :
    newB w [z0, z1, z2] t fun a w1 => st w1 (a.add 0) v0 fun w2 => st w2 (a.add 1) v1 fun w3 => st w3 (a.add 2) v2 fun w4 => K a w4 := by
  refine newB_blk fun w1 b1 c1 y1 => ?_
  simp only [add_at]
  exact st_all [v0, v1, v2] 0 (K := fun w' => K ⟨w.heap.size, 0, none⟩ w') b1 (Nat.le_refl _) fun w' b c y => hk w' b (c1.trans c fun x hx h => by omega) (by omega)
theorem box7 {w : World} {t : TypeId} {z0 z1 z2 z3 z4 z5 z6 v0 v1 v2 v3 v4 v5 v6 : Value} {K : Addr → World → Prop} (hk : ∀ w', blk w' w.heap.size = some [v0, v1, v2, v3, v4, v5, v6] → Ch (fun _ => False) w w' → w'.heap.size = w.heap.size + 1 → K ⟨w.heap.size, 0, none⟩ w') :
    newB w [z0, z1, z2, z3, z4, z5, z6] t fun a w1 => st w1 (a.add 0) v0 fun w2 => st w2 (a.add 1) v1 fun w3 => st w3 (a.add 2) v2 fun w4 => st w4 (a.add 3) v3 fun w5 => st w5 (a.add 4) v4 fun w6 => st w6 (a.add 5) v5 fun w7 => st w7 (a.add 6) v6 fun w8 => K a w8 := by
  refine newB_blk fun w1 b1 c1 y1 => ?_
  simp only [add_at]
  exact st_all [v0, v1, v2, v3, v4, v5, v6] 0 (K := fun w' => K ⟨w.heap.size, 0, none⟩ w') b1 (Nat.le_refl _) fun w' b c y => hk w' b (c1.trans c fun x hx h => by omega) (by omega)
/-- .. and where the box is there already -/
theorem re3 {w : World} {k : Nat} {z0 z1 z2 v0 v1 v2 : Value} {K : World → Prop} (hb : blk w k = some [z0, z1, z2]) (hk : ∀ w', blk w' k = some [v0, v1, v2] → Ch (· = k) w w' → w'.heap.size = w.heap.size → K w') :
    st w ⟨k, 0, none⟩ v0 fun w2 => st w2 ⟨k, 1, none⟩ v1 fun w3 => st w3 ⟨k, 2, none⟩ v2 fun w4 => K w4 :=
  st_all [v0, v1, v2] 0 (K := K) hb (Nat.le_refl _) hk
theorem str_eq_self (s : ByteArray) : (s.toList == s.toList) = true := by simp

/-! ### Building a row, element by element -/
theorem bytesLessEq : ∀ (x y : List UInt8), Op.bytesLess x y = decide (x < y)
  | x, [] => by cases x <;> simp [Op.bytesLess]
  | [], y :: l => by simp [Op.bytesLess]
  | a :: x, b :: y => by
    rw [Op.bytesLess, bytesLessEq x y]
    by_cases h : a < b
    · simp [h, List.cons_lt_cons_iff]
    · by_cases h2 : a = b <;> simp [h, h2, List.cons_lt_cons_iff]
theorem lessB (a b : ByteArray) : Op.bytesLess a.toList b.toList = decide (a.data.toList < b.data.toList) := by rw [bytesLessEq, ByteArray.toList_eq, ByteArray.toList_eq]
theorem grtB (a b : ByteArray) : (!(Op.bytesLess a.toList b.toList || a.toList == b.toList)) = decide (b.data.toList < a.data.toList) := by
  rw [lessB, ByteArray.toList_eq, ByteArray.toList_eq]
  rcases Std.lt_trichotomy a.data.toList b.data.toList with h | h | h
  · have h2 : ¬ b.data.toList < a.data.toList := fun h3 => List.lt_irrefl _ (List.lt_trans h h3)
    simp [h, h2]
  · simp [h, List.lt_irrefl]
  · have h2 : ¬ a.data.toList < b.data.toList := fun h3 => List.lt_irrefl _ (List.lt_trans h h3)
    have h3 : ¬ a.data = b.data := fun e => by rw [e] at h; exact List.lt_irrefl _ h
    simp [h, h2, h3]
theorem Ow.nil {w : World} {sz : Nat} : Ow w none 0 0 sz [] none := ⟨by simp, Nat.le_refl _, .inl ⟨rfl, by simp⟩⟩
theorem Ow.blt {w : World} {p : Option Addr} {n c sz : Nat} {xs : List Value} {b : Option Nat} (h : Ow w p n c sz xs b) : ∀ k, b = some k → k < w.heap.size := fun k hk => by subst hk; exact h.lt
theorem push_ok {P : Program} {T ty e te : TypeId} {sz bytes : Nat} {z : Value} (hT : P.underlying T = some (.slice e)) (hi : InfoIs P e sz bytes z) (hzs : z.cells.size = sz) {α : Type} {g : α → List Value} (hg : ∀ x, (g x).length = sz) (hone : ∀ x, ∀ v ∈ g x, oneV v = true)
    {w : World} {p : Option Addr} {c : Nat} {L : List α} {b : Option Nat} (ho : Ow w p L.length c sz (L.flatMap g) b) (x : α) (h1 : L.length + 1 ≤ 2 ^ 47) (h2 : (L.length + 1) * bytes ≤ 2 ^ 47) {K : Option Addr → Nat → Nat → World → Prop}
    (hk : ∀ p' c' b' w', Ow w' p' (L ++ [x]).length c' sz ((L ++ [x]).flatMap g) b' → (∀ k, b' = some k → b = some k ∨ w.heap.size ≤ k) → Ch (fun k => b = some k) w w' → K p' (L ++ [x]).length c' w') :
    newB w (g x) te fun a w2 => ∃ p5 n7 c5 w3, Sem.run P (Builtin.append_ #[T, T] ty #[.slice p L.length c, .slice (some a) 1 1]) w2 = .ok (.slice p5 n7 c5) w3 ∧ K p5 n7 c5 w3 := by
  refine newB_blk fun w2 b2 c2 z2 => ?_
  have hrd : Rd w2 (some ⟨w.heap.size, 0, none⟩) 1 sz (g x) := ⟨by rw [hg]; omega, .inr ⟨_, 0, _, rfl, blk_cells b2, by rw [hg]; omega, by rw [List.drop_zero, List.take_of_length_le (by rw [hg]; omega)]⟩⟩
  obtain ⟨p', c', w', b', r1, r2, r3, r4, _⟩ := append_rd (ty := ty) (c2 := 1) hT hT hi hzs (ho.ch c2 fun _ _ => id) hrd (hone x) h1 h2
  refine ⟨p', _, c', w', r1, ?_⟩
  have e : (L ++ [x]).flatMap g = L.flatMap g ++ g x := by simp
  have := hk p' c' b' w' (by rw [e, List.length_append]; exact r2) (fun k hk => (r3 k hk).imp id fun h => by omega) ((c2.mono fun _ _ h => h.elim).trans' r4)
  rw [List.length_append] at this
  exact this
theorem append_rd2 {P : Program} {T T2 ty e e2 : TypeId} {sz bytes : Nat} {z : Value} (hT : P.underlying T = some (.slice e)) (hT2 : P.underlying T2 = some (.slice e2)) (hi : InfoIs P e sz bytes z) (hzs : z.cells.size = sz)
    {w : World} {p q : Option Addr} {n c m c2 : Nat} {xs ys : List Value} {b : Option Nat} (ho : Ow w p n c sz xs b) (hs : Rd w q m sz ys) (hone : ∀ u ∈ ys, oneV u = true)
    (h1 : n + m ≤ 2 ^ 47) (h2 : (n + m) * bytes ≤ 2 ^ 47) :
    ∃ p' c' w' b', (Builtin.append_ #[T, T2] ty #[.slice p n c, .slice q m c2]).run P w = .ok (.slice p' (n + m) c') w' ∧ Ow w' p' (n + m) c' sz (xs ++ ys) b' ∧
      ((b' = b ∧ p' = p ∧ Ch (fun k => b = some k) w w') ∨ (b' = some w.heap.size ∧ p' = some ⟨w.heap.size, 0, none⟩ ∧ Ch (fun _ => False) w w')) := by
  obtain ⟨inf, hi, rfl, rfl, hz⟩ := hi
  obtain ⟨p', c', w', b', h3, h4, h5⟩ := append_run (ty := ty) hT hi hz hzs ho (Src.of_rd hT2 hs hone) h1 h2
  refine ⟨p', c', w', b', h3, h4, ?_⟩
  rcases h5 with ⟨g1, rfl, rfl, rfl, g5, _⟩ | ⟨g1, rfl, rfl, g4, _⟩
  · exact .inl ⟨rfl, rfl, g5⟩
  · exact .inr ⟨rfl, rfl, g4⟩
theorem newB_mono {w : World} {cs : List Value} {t : TypeId} {K K' : Addr → World → Prop} (h : newB w cs t K) (hk : ∀ a w', K a w' → K' a w') : newB w cs t K' := hk _ _ h
theorem newB_mono' {w : World} {cs : List Value} {t : TypeId} {K K' : Addr → World → Prop} (h : newB w cs t K) (hk : ∀ a w', Ch (fun _ => False) w w' → K a w' → K' a w') : newB w cs t K' := hk _ _ (alloc_ch w _) h
/-- a store into a row that is owned -/
theorem Ow.st {w : World} {p : Option Addr} {n c sz : Nat} {xs : List Value} {b : Option Nat} (h : Ow w p n c sz xs b) {i : Nat} (hi : i < n * sz) :
    ∃ k o, p = some ⟨k, o, none⟩ ∧ b = some k ∧ ∀ (v : Value) (K : World → Prop), (∀ w', Ow w' p n c sz (xs.set i v) b → Ch (· = k) w w' → w'.heap.size = w.heap.size → K w') → Sv.st w ⟨k, o + i, none⟩ v K := by
  obtain ⟨h1, h2, h3⟩ := h
  have hnc : n * sz ≤ c * sz := Nat.mul_le_mul_right _ h2
  rcases h3 with ⟨_, h3⟩ | ⟨k, o, cs, rfl, rfl, hb, hl, ht⟩
  · omega
  · refine ⟨k, o, rfl, rfl, fun v K hK => ?_⟩
    refine st_blk hb (by omega) fun w' b' c' z' => hK w' ⟨by simpa using h1, h2, .inr ⟨k, o, _, rfl, rfl, b', by simpa using hl, ?_⟩⟩ c' z'
    rw [← ht]
    apply List.ext_getElem?
    intro j
    simp only [List.getElem?_take, List.getElem?_drop, List.getElem?_set]
    by_cases hj : j < n * sz
    · by_cases hji : i = j
      · subst hji
        have e1 : o + i < cs.length := by omega
        have e2 : i < cs.length - o := by omega
        simp [hj, e1]
        omega
      · have : ¬ o + i = o + j := by omega
        simp [hj, hji, this]
    · by_cases hji : i = j
      · omega
      · simp [hj, hji]
theorem flat_set {α : Type} {g : α → List Value} {sz : Nat} (hg : ∀ x, (g x).length = sz) {x' : α} : ∀ (L : List α) (i j : Nat) (v : Value) {x : α}, L[i]? = some x → j < sz → g x' = (g x).set j v → (L.flatMap g).set (i * sz + j) v = (L.set i x').flatMap g
  | [], i, j, v, x, h, _, _ => by simp at h
  | y :: L, 0, j, v, x, h, hj, he => by
    simp only [List.getElem?_cons_zero, Option.some.injEq] at h
    subst h
    rw [List.set_cons_zero, List.flatMap_cons, List.flatMap_cons, Nat.zero_mul, Nat.zero_add, List.set_append_left _ _ (by rw [hg]; exact hj), he]
  | y :: L, i + 1, j, v, x, h, hj, he => by
    simp only [List.getElem?_cons_succ] at h
    rw [List.set_cons_succ, List.flatMap_cons, List.flatMap_cons, List.set_append_right _ _ (by rw [hg, Nat.add_mul]; omega), hg, show (i + 1) * sz + j - sz = i * sz + j by rw [Nat.add_mul]; omega, flat_set hg L i j v h hj he]
/-- a bool that is known to be true -/
theorem nb_true : (!!true) = true := rfl
theorem data_ext {a b : ByteArray} (h : a.data.toList = b.data.toList) : a = b := Go.WideShapes.bytes_inj h
end Go.Sv
