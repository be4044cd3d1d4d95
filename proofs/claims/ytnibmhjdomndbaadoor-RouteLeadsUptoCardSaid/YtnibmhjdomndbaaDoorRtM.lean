/-
  The document's Covers.
-/
import Derived.Test.YtnibmhjdomndbaaDoorRtL
namespace Go.Proofs.YtnibmhjdomndbaaDoor
open Go Go.Sv Go.Rt
set_option linter.unusedVariables false
/-- what Covers says -/
def CovR (a b : ByteArray) (r : Bool) (e : Int) : Prop :=
  (¬ (isPat a = true ∧ isPat b = true) ∧ r = false ∧ e = 180) ∨ (isPat a = true ∧ isPat b = true ∧ e = 0 ∧ (r = true ↔ Cov (parts a) (parts b)))
theorem CovR.one {p t : ByteArray} {b b' : Bool} {e e' : Int} (h : CovR p t b e) (k : CovR p t b' e') : b = b' ∧ e = e' := by
  rcases h with ⟨h1, rfl, rfl⟩ | ⟨h1, h2, rfl, h4⟩ <;> rcases k with ⟨k1, rfl, rfl⟩ | ⟨k1, k2, rfl, k4⟩
  · exact ⟨rfl, rfl⟩
  · exact absurd ⟨k1, k2⟩ h1
  · exact absurd ⟨h1, h2⟩ k1
  · refine ⟨?_, rfl⟩
    rw [Bool.eq_iff_iff, h4, k4]
theorem word_none : word none0 = false := by decide
theorem pat_ne {s : ByteArray} (h : isPat s = true) : ∀ x ∈ parts s, x ≠ none0 := by
  rw [isPat_eq] at h; simp only [Bool.and_eq_true, decide_eq_true_eq] at h
  intro x hx e
  have := List.all_eq_true.1 h.1.1 x hx
  rw [e] at this
  revert this; decide
theorem pat_known {s : ByteArray} (h : isPat s = true) : Known (Wd (parts s)) (parts s) := fun x hx => ⟨pat_ne h x hx, by
  by_cases h1 : x = star
  · exact .inl h1
  · by_cases h2 : x = Rt.hash
    · exact .inr (.inl h2)
    · exact .inr (.inr ⟨hx, h1, h2⟩)⟩
theorem Nw.put {w w1 : World} {p : Option Addr} {c : Nat} {b : Option Nat} {L : List ByteArray} (h : Nw w w1 p c b L) {j : Nat} (hj : j < L.length) : ∃ k o, p = some ⟨k, o, none⟩ ∧ b = some k ∧ w.heap.size ≤ k ∧ ∀ (v : ByteArray) (K : World → Prop), (∀ w2, Nw w w2 p c b (L.set j v) → Ch (· = k) w1 w2 → K w2) → st w1 ⟨k, o + j, none⟩ (.string v) K := by
  obtain ⟨k, o, hp, hb, h3⟩ := h.ow.st (i := j) (by omega)
  refine ⟨k, o, hp, hb, h.new k hb, fun v K hK => h3 _ _ fun w2 o2 c2 z2 => hK w2 ⟨?_, h.new, h.ch.trans c2 fun x hx e => ?_⟩ c2⟩
  · rw [flat1 _ _ _ hj] at o2
    rw [List.length_set]; exact o2
  · rw [e] at hx; exact absurd hx (Nat.not_lt.2 (h.new k hb))
theorem Rd_far {w w' : World} {p : Option Addr} {n k : Nat} {xs : List Value} {w0 : World} (h0 : Rd w0 p n 1 xs) (h : Rd w p n 1 xs) (c : Ch (· = k) w w') (hk : w0.heap.size ≤ k) : Rd w' p n 1 xs := h.ch c fun a ha h1 e => by
  have := h0.lt a ha h1
  rw [e] at this; omega
set_option maxHeartbeats 4000000 in
theorem covers_ref {a b : ByteArray} {w : World} {K : Value → World → Prop} (ha : a.size ≤ 2 ^ 40) (hb : b.size ≤ 2 ^ 40) (hk : ∀ r e w', CovR a b r e → Ch (fun _ => False) w w' → K (.tuple #[.bool r, .int .i64 e]) w') :
    callP Tryd.prog 12 [.string a, .string b] w K := by
  refine ok_longshoreref18_Covers ?_
  unfold wp_longshoreref18_Covers
  refine pattern_ok ha fun w1 c1 => ⟨_, rfl, pattern_ok hb fun w2 c2 => ⟨_, rfl, ?_⟩⟩
  have c12 := c1.trans' c2
  refine ⟨fun w3 => w3 = w2 ∧ isPat a = true ∧ isPat b = true, ?_, Sif_cases (fun h => Sif_cases (fun h2 => hk _ _ _ (.inl ⟨fun g => by rw [g.2] at h2; exact absurd h2 (by decide), rfl, rfl⟩) c12) fun h2 => ⟨rfl, by simpa using h, by simpa using h2⟩) fun h => hk _ _ _ (.inl ⟨fun g => by rw [g.1] at h; exact absurd h (by decide), rfl, rfl⟩) c12⟩
  rintro w3 ⟨rfl, hpa, hpb⟩
  have la := pat_len hpa
  have lb := pat_len hpb
  refine parts_ok ha fun pa ca ba w4 NA => ⟨_, _, _, rfl, parts_ok hb fun pb cb bb w5 NB => ⟨_, _, _, rfl, ?_⟩⟩
  refine alike_ok (Rd_d NA.rd NB.ch) (by omega) fun pW cW bW w6 W NW hWl hW => ⟨_, _, _, rfl, ?_⟩
  refine ⟨fun m n3 w7 => ∃ (i : Nat) (Y : List ByteArray), n3 = (i : Int) ∧ m + i = (parts b).length ∧ Nw w4 w7 pb cb bb Y ∧ Y = ((parts b).take i).map (strike (Wd (parts a))) ++ (parts b).drop i ∧ Rd w7 pa (parts a).length 1 ((parts a).flatMap sCell) ∧ Nw w4 w7 pW cW bW W,
    ⟨_, 0, parts b, rfl, rfl, NB.d NW.ch, by simp, Rd_d NA.rd (NB.ch.trans' NW.ch), ⟨NW.ow, (fun k hk => Nat.le_trans NB.ch.size (NW.new k hk)), NB.ch.trans' NW.ch⟩⟩, ?_⟩
  rintro m n3 w7 ⟨i, Y, rfl, hm, NY, hY, hRA, NW7⟩
  have hYl : Y.length = (parts b).length := by rw [hY]; simp; omega
  refine Sif_cases (fun h => ?_) fun h => ?_
  · have h := of_decide_eq_true h
    obtain ⟨x, hx0⟩ : ∃ x, (parts b)[i]? = some x := ⟨_, List.getElem?_eq_getElem (by omega)⟩
    have hd : (parts b).drop i = x :: (parts b).drop (i + 1) := by
      obtain ⟨hl, rfl⟩ := List.getElem?_eq_some_iff.1 hx0
      rw [List.getElem_cons_drop hl]
    have hx : Y[i]? = some x := by
      rw [hY, List.getElem?_append_right (by simp; omega)]
      simp only [List.length_map, List.length_take, Nat.min_eq_left (show i ≤ (parts b).length by omega), Nat.sub_self]
      rw [List.getElem?_drop]; exact hx0
    have hset : ∀ v, v = strike (Wd (parts a)) x → Y.set i v = ((parts b).take (i + 1)).map (strike (Wd (parts a))) ++ (parts b).drop (i + 1) := by
      intro v hv
      rw [hY, take_snoc hx0, List.map_append, List.map_singleton, ← hv, hd]
      have := set_at (((parts b).take i).map (strike (Wd (parts a)))) ((parts b).drop (i + 1)) x v
      rw [List.length_map, List.length_take, Nat.min_eq_left (by omega)] at this
      rw [this, List.append_assoc]; rfl
    have hset0 : x = strike (Wd (parts a)) x → Y = ((parts b).take (i + 1)).map (strike (Wd (parts a))) ++ (parts b).drop (i + 1) := fun hv => by
      rw [hY, take_snoc hx0, List.map_append, List.map_singleton, ← hv, hd, List.append_assoc]; rfl
    obtain ⟨b0, o0, hp, hc0⟩ := sAt NY.rd hx
    have rd0 : ∀ w3, Ch (fun _ => False) w7 w3 → w3.cell? ⟨b0, o0 + i, none⟩ = some (.string x) := fun w3 c3 => by
      obtain ⟨b0', o0', e, h⟩ := sAt (Rd_d NY.rd c3) hx
      rw [hp] at e; cases e; exact h
    refine ⟨fun w8 => ∃ Y', Nw w4 w8 pb cb bb Y' ∧ Y' = ((parts b).take (i + 1)).map (strike (Wd (parts a))) ++ (parts b).drop (i + 1) ∧ Rd w8 pa (parts a).length 1 ((parts a).flatMap sCell) ∧ Nw w4 w8 pW cW bW W, ?_, ?_⟩
    · rintro w8 ⟨Y', q1, q2, q3, q4⟩
      rw [nameI_iff, wrap_id (n := (i : Int) + 1) (by omega) (by omega)]
      exact ⟨m - 1, by omega, i + 1, Y', by omega, by omega, q1, q2, q3, q4⟩
    · refine ⟨fun known w8 => w8 = w7 ∧ (known = true ↔ (x = star ∨ x = Rt.hash)), ?_, by omega, h, ?_⟩
      · rintro known w8 ⟨rfl, hth⟩
        refine ⟨fun m1 t n2 w9 => ∃ j : Nat, n2 = (j : Int) ∧ m1 + j = W.length ∧ Ch (fun _ => False) w8 w9 ∧ (t = true ↔ (x = star ∨ x = Rt.hash ∨ x ∈ W.take j)), ⟨_, 0, rfl, rfl, Ch.refl _ _, by rw [hth]; simp⟩, ?_⟩
        rintro m1 t n2 w9 ⟨j, rfl, hm1, c4, ht⟩
        refine Sif_cases (fun h2 => ?_) fun h2 => ?_
        · have h2 := of_decide_eq_true h2
          have hy : W[j]? = some W[j] := List.getElem?_eq_getElem (by omega)
          have c5 := c4.trans' (Ch.d0 (w := w9))
          obtain ⟨b7, o7, hp2, hc7⟩ := sAt (NW7.d c5).rd hy
          generalize W[j] = y at *
          refine ⟨fun t2 w10 => Ch (fun _ => False) w8 w10 ∧ (t2 = true ↔ (x = star ∨ x = Rt.hash ∨ x ∈ W.take (j + 1))), ?_, ?_⟩
          · rintro t2 w10 ⟨c6, ht2⟩
            rw [nameI_iff, wrap_id (n := (j : Int) + 1) (by omega) (by omega)]
            exact ⟨m1 - 1, by omega, j + 1, by omega, by omega, c6, ht2⟩
          · have ex : (x ∈ W.take (j + 1)) ↔ (x ∈ W.take j ∨ x = y) := by rw [List.take_add_one, hy, Option.toList_some, List.mem_append, List.mem_singleton]
            refine Sif_cases (fun h3 => ⟨by omega, h2, ?_⟩) fun h3 => ⟨c5, ?_⟩
            · simp only [hp2, hp, nn_some, add_at, Int.toNat_natCast, Nat.mul_one]
              refine ⟨by omega, h, _, hc7, _, rd0 _ c5, c5, ?_⟩
              have ht0 : ¬ (x = star ∨ x = Rt.hash ∨ x ∈ W.take j) := fun g => by rw [ht.2 g] at h3; cases h3
              rw [beq_ba, beq_iff_eq, ex]
              constructor
              · intro g; exact .inr (.inr (.inr g.symm))
              · rintro (g | g | g | g)
                · exact absurd (.inl g) ht0
                · exact absurd (.inr (.inl g)) ht0
                · exact absurd (.inr (.inr g)) ht0
                · exact g.symm
            · have ht1 := ht.1 (by simpa using h3)
              rw [ex]
              simp only [true_iff]
              rcases ht1 with g | g | g
              · exact .inl g
              · exact .inr (.inl g)
              · exact .inr (.inr (.inl g))
        · have h2 := of_decide_eq_false h2
          have hj : j = W.length := by omega
          subst hj
          rw [List.take_length] at ht
          have hxn : x ≠ none0 := pat_ne hpb x (List.mem_of_getElem? hx0)
          have hxs : (x = star ∨ x = Rt.hash ∨ x ∈ W) ↔ (x = star ∨ x = Rt.hash ∨ Wd (parts a) x) := by
            rw [hW]
            constructor
            · rintro (g | g | g | g)
              · exact .inl g
              · exact .inr (.inl g)
              · exact absurd g hxn
              · exact .inr (.inr g)
            · rintro (g | g | g)
              · exact .inl g
              · exact .inr (.inl g)
              · exact .inr (.inr (.inr g))
          rw [hxs] at ht
          refine Sif_cases (fun h3 => ⟨by omega, h, ?_⟩) fun h3 => ⟨Y, NY.d c4, hset0 (strike_keep (ht.1 (by simpa using h3))).symm, Rd_d hRA c4, NW7.d c4⟩
          obtain ⟨k5, o5, hp5, hb5, hk5, hst⟩ := (NY.d c4).put (j := i) (by omega)
          rw [hp5, nn_some]
          simp only [add_at, Int.toNat_natCast, Nat.mul_one, Nat.add_zero]
          refine hst _ _ fun w10 N10 c10 => ⟨_, hp5 ▸ N10, hset _ (strike_out fun g => by rw [ht.2 g] at h3; cases h3).symm, Rd_far NA.rd (Rd_d hRA c4) c10 hk5, ⟨(NW7.d c4).ow.ch c10 fun k hk e => ?_, NW7.new, (NW7.ch.trans' c4).trans c10 fun y hy e => ?_⟩⟩
          · have g1 := NW.new k hk
            have g2 := NB.ow.blt k5 hb5
            rw [e] at g1; omega
          · rw [e] at hy; omega
      · simp only [hp, nn_some, add_at, Int.toNat_natCast, Nat.mul_one]
        refine ⟨_, hc0, ?_⟩
        rw [star_eq]
        refine Sif_cases (fun h2 => ⟨by omega, h, _, hc0, by trivial, ?_⟩) fun h2 => ⟨by trivial, ?_⟩
        · have h2 : x ≠ star := beq_eq_false_iff_ne.1 (by simpa using h2)
          rw [hash_eq, beq_iff_eq]
          exact ⟨.inr, fun g => g.resolve_left h2⟩
        · have h2 : x = star := eq_of_beq (by simpa using h2)
          simp [h2]
  · have h := of_decide_eq_false h
    have hi : i = (parts b).length := by omega
    subst hi
    rw [List.take_length, List.drop_length, List.append_nil] at hY
    have key : Cov (parts a) (parts b) ↔ ¬ Lk (parts a) Y W 0 [] := by
      rw [cov_strike (A := Wd (parts a)) (fun g => pat_ne hpa _ g.1 rfl) (pat_known hpa) (pat_ne hpb)]
      unfold Lk
      rw [hY]
      simp only [List.drop_zero, List.length_nil, Nat.zero_add, List.nil_append]
      constructor
      · rintro h ⟨v, h1, h2, h3, h4, h5⟩
        exact h5 (h v (fun y hy => ((hW y).1 (h1 y hy)).symm) h3 h2 h4)
      · intro h v h1 h2 h3 h4
        exact Classical.byContradiction fun h5 => h ⟨v, fun y hy => (hW y).2 (h1 y hy).symm, h3, h2, h4, h5⟩
    rw [wrap_id (n := ((parts a).length : Int) + 1) (by omega) (by omega), show (((parts a).length : Int) + 1) = (((parts a).length + 1 : Nat) : Int) by omega]
    obtain ⟨p9, w8, r8, N8⟩ := Ni.make w7 ((parts a).length + 1) (by omega)
    refine ⟨p9, _, _, w8, r8, by decide, by omega, ?_⟩
    obtain ⟨k, o, rfl, hst⟩ := N8.put (j := 0) (by simp)
    rw [nn_some]
    simp only [add_at, Nat.add_zero] at hst ⊢
    refine hst _ _ fun w9 N9 => ?_
    have S9 := (SetR.none (parts a).length).add (j := 0) (by omega)
    have e9 : ((List.replicate ((parts a).length + 1) (0 : Int)).set 0 1).length = (parts a).length + 1 := by simp
    have c9 := N9.ch
    have g := spread_ok (c := ca) (d := (parts a).length + 1) (Rd_d hRA c9) la N9.ow.rd (S9.congr (J := (· = 0)) fun k _ => by simp)
      (K := fun v w10 => ∃ p4 n5 c4, v = .slice p4 n5 c4 ∧ callP Tryd.prog 32 [.slice pa (parts a).length ca, .slice pb (parts b).length cb, .slice p4 n5 c4, .int .i64 0, .slice pW W.length cW, .int .i64 0] w10 fun v6 w11 => ∃ b3 : Bool, v6 = .bool b3 ∧ K (.tuple #[.bool !b3, .int .i64 0]) w11)
      fun p' c' b' w10 R' N10 S10 => ⟨_, _, _, rfl, ?_⟩
    · rw [e9] at g
      exact g
    · have c10 := c9.trans' N10.ch
      have g := lacks_ok (a := parts a) (b := Y) (W := W) la (by omega) (by omega) _ (place := 0) (us := []) (ca := ca) (cb := cb) (cW := cW) (d := c') (Nat.le_refl _) (by omega) (by simp) (Rd_d hRA c10) (Rd_d NY.rd c10) (Rd_d NW7.rd c10) N10.ow.rd (S10.congr fun k hk' => At_start _ k hk')
        (K := fun v6 w11 => ∃ b3 : Bool, v6 = .bool b3 ∧ K (.tuple #[.bool !b3, .int .i64 0]) w11) fun r w11 hr c11 => ⟨_, rfl, hk _ _ _ (.inr ⟨hpa, hpb, rfl, ?_⟩) (c12.trans' (NA.ch.trans' (NY.ch.trans' (c10.trans' c11))))⟩
      · rw [hYl] at g
        exact g
      · rw [key, ← hr]; cases r <;> simp
end Go.Proofs.YtnibmhjdomndbaaDoor
