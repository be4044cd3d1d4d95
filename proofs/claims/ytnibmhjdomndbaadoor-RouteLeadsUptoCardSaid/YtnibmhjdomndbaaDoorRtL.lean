/-
  The document's words of a pattern: alike.
-/
import Derived.Test.YtnibmhjdomndbaaDoorRtK
namespace Go.Proofs.YtnibmhjdomndbaaDoor
open Go Go.Sv Go.Rt
set_option linter.unusedVariables false
theorem Nw.d {w w1 w2 : World} {p : Option Addr} {c : Nat} {b : Option Nat} {L : List ByteArray} (h : Nw w w1 p c b L) (k : Ch (fun _ => False) w1 w2) : Nw w w2 p c b L := ⟨h.ow.ch k fun _ _ => id, h.new, h.ch.trans' k⟩
/-- the words of a pattern -/
def Wd (a : List ByteArray) (y : ByteArray) : Prop := y ∈ a ∧ y ≠ star ∧ y ≠ Rt.hash
theorem take_mem_succ {a : List ByteArray} {i : Nat} {x y : ByteArray} (hx : a[i]? = some x) : Wd (a.take (i + 1)) y ↔ Wd (a.take i) y ∨ (y = x ∧ x ≠ star ∧ x ≠ Rt.hash) := by
  unfold Wd
  rw [List.take_add_one, hx, Option.toList_some, List.mem_append, List.mem_singleton]
  constructor
  · rintro ⟨h | rfl, h2, h3⟩
    · exact .inl ⟨h, h2, h3⟩
    · exact .inr ⟨rfl, h2, h3⟩
  · rintro (⟨h, h2, h3⟩ | ⟨rfl, h2, h3⟩)
    · exact ⟨.inl h, h2, h3⟩
    · exact ⟨.inr rfl, h2, h3⟩
set_option maxHeartbeats 2000000 in
theorem alike_ok {w : World} {p : Option Addr} {c : Nat} {a : List ByteArray} {K : Value → World → Prop} (hR : Rd w p a.length 1 (a.flatMap sCell)) (hl : a.length ≤ 2 ^ 40)
    (hk : ∀ p' c' b' w' W, Nw w w' p' c' b' W → W.length ≤ a.length + 1 → (∀ y, y ∈ W ↔ y = none0 ∨ Wd a y) → K (.slice p' W.length c') w') : callP Tryd.prog 31 [.slice p a.length c] w K := by
  refine ok_longshoreref18_alike ?_
  unfold wp_longshoreref18_alike
  refine newB_blk fun w1 b1 c1 z1 => ?_
  have N1 : Nw w w1 (some ⟨w.heap.size, 0, none⟩) 1 (some w.heap.size) [none0] := ⟨⟨rfl, Nat.le_refl _, .inr ⟨_, 0, _, rfl, rfl, b1, by decide, rfl⟩⟩, (fun k h => by cases h; exact Nat.le_refl _), c1⟩
  refine ⟨fun m p n c n1 w2 => ∃ (i : Nat) (W : List ByteArray) (b : Option Nat), n1 = (i : Int) ∧ m + i = a.length ∧ n = W.length ∧ Nw w w2 p c b W ∧ W.length ≤ i + 1 ∧ (∀ y, y ∈ W ↔ y = none0 ∨ Wd (a.take i) y), ⟨_, 0, [none0], _, rfl, rfl, rfl, N1, by decide, fun y => by simp [Wd]⟩, ?_⟩
  rintro m p2 n c2 n1 w2 ⟨i, W, b, rfl, hm, rfl, N2, hWl, hW⟩
  refine Sif_cases (fun h => ?_) fun h => ?_
  · have h := of_decide_eq_true h
    have hx : a[i]? = some a[i] := List.getElem?_eq_getElem (by omega)
    obtain ⟨b0, o0, hp, hc0⟩ := sAt (Rd_d hR N2.ch) hx
    have rd0 : ∀ w3, Ch (fun _ => False) w w3 → w3.cell? ⟨b0, o0 + i, none⟩ = some (.string a[i]) := fun w3 c3 => by
      obtain ⟨b0', o0', e, h⟩ := sAt (Rd_d hR c3) hx
      rw [hp] at e; cases e; exact h
    generalize a[i] = x at *
    refine ⟨fun p3 n3 c3 w3 => ∃ (W' : List ByteArray) (b' : Option Nat), n3 = W'.length ∧ Nw w w3 p3 c3 b' W' ∧ W'.length ≤ i + 2 ∧ (∀ y, y ∈ W' ↔ y = none0 ∨ Wd (a.take (i + 1)) y), ?_, ?_⟩
    · rintro p3 n3 c3 w3 ⟨W', b', rfl, N3, hWl', hW'⟩
      rw [nameI_iff, wrap_id (n := (i : Int) + 1) (by omega) (by omega)]
      exact ⟨m - 1, by omega, i + 1, W', b', by omega, by omega, rfl, N3, hWl', hW'⟩
    · refine ⟨fun there w3 => w3 = w2 ∧ (there = true ↔ (x = star ∨ x = Rt.hash)), ?_, by omega, h, ?_⟩
      · rintro there w3 ⟨rfl, hth⟩
        refine ⟨fun m1 t n2 w4 => ∃ j : Nat, n2 = (j : Int) ∧ m1 + j = W.length ∧ Ch (fun _ => False) w3 w4 ∧ (t = true ↔ (x = star ∨ x = Rt.hash ∨ x ∈ W.take j)), ⟨_, 0, rfl, rfl, Ch.refl _ _, by rw [hth]; simp⟩, ?_⟩
        rintro m1 t n2 w4 ⟨j, rfl, hm1, c4, ht⟩
        refine Sif_cases (fun h2 => ?_) fun h2 => ?_
        · have h2 := of_decide_eq_true h2
          have hy : W[j]? = some W[j] := List.getElem?_eq_getElem (by omega)
          have c5 := c4.trans' (Ch.d0 (w := w4))
          obtain ⟨b7, o7, hp2, hc7⟩ := sAt (N2.d c5).rd hy
          generalize W[j] = y at *
          refine ⟨fun t2 w5 => Ch (fun _ => False) w3 w5 ∧ (t2 = true ↔ (x = star ∨ x = Rt.hash ∨ x ∈ W.take (j + 1))), ?_, ?_⟩
          · rintro t2 w5 ⟨c6, ht2⟩
            rw [nameI_iff, wrap_id (n := (j : Int) + 1) (by omega) (by omega)]
            exact ⟨m1 - 1, by omega, j + 1, by omega, by omega, c6, ht2⟩
          · have ex : (x ∈ W.take (j + 1)) ↔ (x ∈ W.take j ∨ x = y) := by rw [List.take_add_one, hy, Option.toList_some, List.mem_append, List.mem_singleton]
            refine Sif_cases (fun h3 => ⟨by omega, h2, ?_⟩) fun h3 => ⟨c5, ?_⟩
            · simp only [hp2, hp, nn_some, add_at, Int.toNat_natCast, Nat.mul_one]
              refine ⟨by omega, h, _, hc7, _, rd0 _ (N2.ch.trans' c5), c5, ?_⟩
              have ht0 : ¬ (x = star ∨ x = Rt.hash ∨ x ∈ W.take j) := fun g => by rw [ht.2 g] at h3; cases h3
              rw [beq_ba, beq_iff_eq, ex]
              constructor
              · intro g; exact .inr (.inr (.inr g.symm))
              · rintro (g | g | g | g)
                · exact absurd (.inl g) ht0
                · exact absurd (.inr (.inl g)) ht0
                · exact absurd (.inr (.inr g)) ht0
                · exact g.symm
            · have ht1 := ht.1 (by simpa using h3)
              rw [ex]
              simp only [true_iff]
              rcases ht1 with g | g | g
              · exact .inl g
              · exact .inr (.inl g)
              · exact .inr (.inr (.inl g))
        · have h2 := of_decide_eq_false h2
          have hj : j = W.length := by omega
          subst hj
          rw [List.take_length] at ht
          have N4 := N2.d c4
          refine Sif_cases (fun h3 => ⟨by omega, h, ?_⟩) fun h3 => ⟨W, b, rfl, N4, by omega, fun y => ?_⟩
          · have ht0 : ¬ (x = star ∨ x = Rt.hash ∨ x ∈ W) := fun g => by rw [ht.2 g] at h3; cases h3
            simp only [hp, nn_some, add_at, Int.toNat_natCast, Nat.mul_one]
            refine ⟨_, rd0 _ N4.ch, ?_⟩
            refine N4.push _ (by omega) fun p' c' b' w6 N6 _ _ => ⟨_, _, rfl, N6, by simp; omega, fun y => ?_⟩
            rw [List.mem_append, List.mem_singleton, hW, take_mem_succ hx]
            constructor
            · rintro ((g | g) | g)
              · exact .inl g
              · exact .inr (.inl g)
              · exact .inr (.inr ⟨g, fun e => ht0 (.inl e), fun e => ht0 (.inr (.inl e))⟩)
            · rintro (g | g | g)
              · exact .inl (.inl g)
              · exact .inl (.inr g)
              · exact .inr g.1
          · have ht1 := ht.1 (by simpa using h3)
            rw [hW, take_mem_succ hx]
            constructor
            · rintro (g | g)
              · exact .inl g
              · exact .inr (.inl g)
            · rintro (g | g | ⟨rfl, g1, g2⟩)
              · exact .inl g
              · exact .inr g
              · rcases ht1 with e | e | e
                · exact absurd e g1
                · exact absurd e g2
                · exact (hW _).1 e
      · simp only [hp, nn_some, add_at, Int.toNat_natCast, Nat.mul_one]
        refine ⟨_, hc0, ?_⟩
        rw [star_eq]
        refine Sif_cases (fun h2 => ⟨by omega, h, _, hc0, by trivial, ?_⟩) fun h2 => ⟨by trivial, ?_⟩
        · have h2 : x ≠ star := beq_eq_false_iff_ne.1 (by simpa using h2)
          rw [hash_eq, beq_iff_eq]
          exact ⟨.inr, fun g => g.resolve_left h2⟩
        · have h2 : x = star := eq_of_beq (by simpa using h2)
          simp [h2]
  · have h := of_decide_eq_false h
    have hi : i = a.length := by omega
    subst hi
    rw [List.take_length] at hW
    exact hk _ _ _ _ W N2 hWl hW
end Go.Proofs.YtnibmhjdomndbaaDoor
