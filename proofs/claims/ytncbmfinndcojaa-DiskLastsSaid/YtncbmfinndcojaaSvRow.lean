/-
  Rows of structs in memory, read by index; small steps over local boxes. Over every program.
-/
import Derived.Test.YtncbmfinndcojaaSvLib
namespace Go.Sv
open Go
set_option linter.unusedVariables false

theorem flat_get {α : Type} {g : α → List Value} {sz : Nat} (hg : ∀ x, (g x).length = sz) : ∀ (L : List α) (i j : Nat), j < sz → (L.flatMap g)[i * sz + j]? = L[i]?.bind fun x => (g x)[j]?
  | [], i, j, _ => by simp
  | x :: L, 0, j, hj => by
    rw [List.flatMap_cons, Nat.zero_mul, Nat.zero_add, List.getElem?_append_left (by rw [hg]; exact hj)]; simp
  | x :: L, i + 1, j, hj => by
    rw [List.flatMap_cons, List.getElem?_append_right (by rw [hg, Nat.add_mul]; omega), hg, show (i + 1) * sz + j - sz = i * sz + j by rw [Nat.add_mul]; omega, flat_get hg L i j hj]; simp
theorem flat_len {α : Type} {g : α → List Value} {sz : Nat} (hg : ∀ x, (g x).length = sz) (L : List α) : (L.flatMap g).length = L.length * sz := by
  induction L with
  | nil => simp
  | cons x L ih => rw [List.flatMap_cons, List.length_append, ih, hg, List.length_cons, Nat.add_mul]; omega
/-- an element of a row that reads -/
theorem Rd.at {α : Type} {g : α → List Value} {sz : Nat} (hg : ∀ x, (g x).length = sz) {w : World} {p : Option Addr} {n : Nat} {L : List α} (h : Rd w p n sz (L.flatMap g)) {i : Nat} {x : α} (hi : L[i]? = some x) (h0 : 0 < sz) :
    ∃ b o, p = some ⟨b, o, none⟩ ∧ ∀ j v, (g x)[j]? = some v → w.cell? ⟨b, o + i * sz + j, none⟩ = some v := by
  have hil : i < L.length := (List.getElem?_eq_some_iff.1 hi).1
  have hn : n * sz = L.length * sz := by rw [← h.1, flat_len hg]
  have hlt : ∀ j, j < sz → i * sz + j < n * sz := fun j hj => by
    have : (i + 1) * sz ≤ L.length * sz := Nat.mul_le_mul_right _ hil
    rw [Nat.add_mul] at this; omega
  obtain ⟨b, o, hp, _⟩ := h.cell (hlt 0 h0)
  refine ⟨b, o, hp, fun j v hv => ?_⟩
  have hj : j < sz := by rw [← hg x]; exact (List.getElem?_eq_some_iff.1 hv).1
  obtain ⟨b', o', hp', hc⟩ := h.cell (hlt j hj)
  rw [hp] at hp'; cases hp'
  rw [Nat.add_assoc, hc, flat_get hg L i j hj, hi]; exact hv
theorem Rd.len {w : World} {p : Option Addr} {n sz : Nat} {xs : List Value} (h : Rd w p n sz xs) : xs.length = n * sz := h.1
theorem Rd.lt {w : World} {p : Option Addr} {n sz : Nat} {xs : List Value} (h : Rd w p n sz xs) : ∀ a, p = some a → n * sz ≠ 0 → a.block < w.heap.size := fun a ha h0 => by
  rcases h.2 with h2 | ⟨b, o, cs, hp, hb, _⟩
  · exact absurd h2 h0
  · rw [hp] at ha; cases ha; exact cells_lt hb
/-- a block of one's own, and what is stored into it at once -/
theorem st_all {w : World} {k : Nat} {cs : List Value} : ∀ (vs : List Value) (o : Nat) {K : World → Prop}, blk w k = some cs → o + vs.length ≤ cs.length →
    (∀ w', blk w' k = some (putSeg cs o vs) → Ch (· = k) w w' → w'.heap.size = w.heap.size → K w') →
    (List.foldr (fun (v : Value) (F : Nat → World → Prop) (i : Nat) (w : World) => st w ⟨k, i, none⟩ v fun w => F (i + 1) w) (fun _ w => K w) vs) o w := by
  intro vs
  induction vs generalizing w cs with
  | nil => intro o K hb _ hk; exact hk w (by rw [putSeg_nil]; exact hb) (Ch.refl _ _) rfl
  | cons v vs ih =>
    intro o K hb hl hk
    simp only [List.length_cons] at hl
    refine st_blk hb (by omega) fun w1 b1 c1 z1 => ?_
    refine ih (o + 1) b1 (by simp; omega) fun w2 b2 c2 z2 => hk w2 (by rw [b2, putSeg_cons cs o v vs (by omega)]) (c1.trans' c2) (by rw [z2, z1])
theorem box2 {w : World} {t : TypeId} {z0 z1 v0 v1 : Value} {K : Addr → World → Prop} (hk : ∀ w', blk w' w.heap.size = some [v0, v1] → Ch (fun _ => False) w w' → w'.heap.size = w.heap.size + 1 → K ⟨w.heap.size, 0, none⟩ w') :
    newB w [z0, z1] t fun a w1 => st w1 (a.add 0) v0 fun w2 => st w2 (a.add 1) v1 fun w3 => K a w3 := by
  refine newB_blk fun w1 b1 c1 y1 => ?_
  simp only [add_at]
  exact st_all [v0, v1] 0 (K := fun w' => K ⟨w.heap.size, 0, none⟩ w') b1 (Nat.le_refl _) fun w' b c y => hk w' b (c1.trans c fun x hx h => by omega) (by omega)
theorem box3 {w : World} {t : TypeId} {z0 z1 z2 v0 v1 v2 : Value} {K : Addr → World → Prop} (hk : ∀ w', blk w' w.heap.size = some [v0, v1, v2] → Ch (fun _ => False) w w' → w'.heap.size = w.heap.size + 1 → K ⟨w.heap.size, 0, none⟩ w') :
    newB w [z0, z1, z2] t fun a w1 => st w1 (a.add 0) v0 fun w2 => st w2 (a.add 1) v1 fun w3 => st w3 (a.add 2) v2 fun w4 => K a w4 := by
  refine newB_blk fun w1 b1 c1 y1 => ?_
  simp only [add_at]
  exact st_all [v0, v1, v2] 0 (K := fun w' => K ⟨w.heap.size, 0, none⟩ w') b1 (Nat.le_refl _) fun w' b c y => hk w' b (c1.trans c fun x hx h => by omega) (by omega)
theorem box7 {w : World} {t : TypeId} {z0 z1 z2 z3 z4 z5 z6 v0 v1 v2 v3 v4 v5 v6 : Value} {K : Addr → World → Prop} (hk : ∀ w', blk w' w.heap.size = some [v0, v1, v2, v3, v4, v5, v6] → Ch (fun _ => False) w w' → w'.heap.size = w.heap.size + 1 → K ⟨w.heap.size, 0, none⟩ w') :
    newB w [z0, z1, z2, z3, z4, z5, z6] t fun a w1 => st w1 (a.add 0) v0 fun w2 => st w2 (a.add 1) v1 fun w3 => st w3 (a.add 2) v2 fun w4 => st w4 (a.add 3) v3 fun w5 => st w5 (a.add 4) v4 fun w6 => st w6 (a.add 5) v5 fun w7 => st w7 (a.add 6) v6 fun w8 => K a w8 := by
  refine newB_blk fun w1 b1 c1 y1 => ?_
  simp only [add_at]
  exact st_all [v0, v1, v2, v3, v4, v5, v6] 0 (K := fun w' => K ⟨w.heap.size, 0, none⟩ w') b1 (Nat.le_refl _) fun w' b c y => hk w' b (c1.trans c fun x hx h => by omega) (by omega)
/-- .. and where the box is there already -/
theorem re3 {w : World} {k : Nat} {z0 z1 z2 v0 v1 v2 : Value} {K : World → Prop} (hb : blk w k = some [z0, z1, z2]) (hk : ∀ w', blk w' k = some [v0, v1, v2] → Ch (· = k) w w' → w'.heap.size = w.heap.size → K w') :
    st w ⟨k, 0, none⟩ v0 fun w2 => st w2 ⟨k, 1, none⟩ v1 fun w3 => st w3 ⟨k, 2, none⟩ v2 fun w4 => K w4 :=
  st_all [v0, v1, v2] 0 (K := K) hb (Nat.le_refl _) hk
theorem str_eq_self (s : ByteArray) : (s.toList == s.toList) = true := by simp
/-- a bool that is known to be true -/
theorem nb_true : (!!true) = true := rfl
theorem data_ext {a b : ByteArray} (h : a.data.toList = b.data.toList) : a = b := Go.WideShapes.bytes_inj h
end Go.Sv
