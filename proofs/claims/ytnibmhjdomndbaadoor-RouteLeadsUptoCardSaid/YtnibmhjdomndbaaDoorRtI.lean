/-
  The document's rows of places: spread, next.
-/
import Derived.Test.YtnibmhjdomndbaaDoorRtH
namespace Go.Proofs.YtnibmhjdomndbaaDoor
open Go Go.Sv Go.Rt
set_option linter.unusedVariables false
theorem ints_info : InfoIs Tryd.prog 3 1 8 (.int .i64 0) := .of (by kernel_rfl) (by kernel_rfl) (by kernel_rfl)
def iCell (s : Int) : List Value := [.int .i64 s]
theorem iCell_len (s : Int) : (iCell s).length = 1 := rfl
theorem iAt {w : World} {p : Option Addr} {n : Nat} {L : List Int} (h : Rd w p n 1 (L.flatMap iCell)) {i : Nat} {x : Int} (hi : L[i]? = some x) : ∃ b o, p = some ⟨b, o, none⟩ ∧ w.cell? ⟨b, o + i, none⟩ = some (.int .i64 x) := by
  obtain ⟨b, o, hp, hc⟩ := Rd.at iCell_len h hi (by omega)
  exact ⟨b, o, hp, by have := hc 0 _ rfl; simpa using this⟩
theorem make_ints {w : World} (n : Nat) (hn : n ≤ 2 ^ 41) : ∃ w', (Instr.makeSlice 57 (.int .i64 (n : Int)) (.int .i64 (n : Int))).run Tryd.prog w = .ok (.slice (some ⟨w.heap.size, 0, none⟩) n n) w' ∧
    blk w' w.heap.size = some ((List.replicate n 0).flatMap iCell) ∧ Ch (fun _ => False) w w' ∧ w'.heap.size = w.heap.size + 1 := by
  obtain ⟨i, hi, h1, h2, h3⟩ := ints_info
  have hr := run_make (P := Tryd.prog) w 57 3 i _ Tryd.underlying57 hi h3 .i64 .i64 (n : Int) (n : Int) (by omega) (by omega) (by rw [h2]; omega) (by omega)
  rw [Int.toNat_natCast, h1, Nat.mul_one] at hr
  have hm : madeCells (Value.int .i64 0).cells n = ((List.replicate n 0).flatMap iCell).toArray := by
    apply Array.ext'
    apply List.ext_getElem
    · simp [madeCells, flat_len iCell_len]
    · intro j g1 g2
      have hj : j < n := by simpa [flat_len iCell_len] using g2
      have h4 := flat_get iCell_len (List.replicate n 0) j 0 (by omega)
      rw [Nat.mul_one, Nat.add_zero, List.getElem?_eq_getElem g2, List.getElem?_replicate, if_pos hj] at h4
      simp only [Option.bind_some, iCell, List.getElem?_cons_zero] at h4
      rw [Option.some.inj h4]
      simp [madeCells, Value.cells, Nat.mod_one]
  rw [hm] at hr
  exact ⟨_, hr, alloc_blk w _ _, alloc_ch w _, by simp⟩
theorem iflat1 (L : List Int) (i : Nat) (x : Int) (hi : i < L.length) : (L.flatMap iCell).set i (.int .i64 x) = (L.set i x).flatMap iCell := by
  have := flat_set (g := iCell) (sz := 1) iCell_len (x' := x) L i 0 (.int .i64 x) (x := L[i]) (List.getElem?_eq_getElem hi) (by omega) rfl
  simpa using this
/-- a row of numbers of one's own, laid since w -/
structure Ni (w w' : World) (p : Option Addr) (c b : Nat) (R : List Int) : Prop where
  ow : Ow w' p R.length c 1 (R.flatMap iCell) (some b)
  new : w.heap.size ≤ b
  ch : Ch (fun _ => False) w w'
theorem Ni.put {w w1 : World} {p : Option Addr} {c b : Nat} {R : List Int} (h : Ni w w1 p c b R) {j : Nat} (hj : j < R.length) : ∃ k o, p = some ⟨k, o, none⟩ ∧ ∀ (v : Int) (K : World → Prop), (∀ w2, Ni w w2 p c b (R.set j v) → K w2) → st w1 ⟨k, o + j, none⟩ (.int .i64 v) K := by
  obtain ⟨k, o, hp, hb, h3⟩ := h.ow.st (i := j) (by omega)
  refine ⟨k, o, hp, fun v K hK => h3 _ _ fun w2 o2 c2 z2 => hK w2 ⟨?_, h.new, h.ch.trans c2 fun x hx e => ?_⟩⟩
  · rw [iflat1 _ _ _ hj] at o2
    rw [List.length_set]; exact o2
  · cases hb; rw [e] at hx; exact absurd hx (Nat.not_lt.2 h.new)
theorem Ni.make (w : World) (n : Nat) (hn : n ≤ 2 ^ 41) : ∃ p w', (Instr.makeSlice 57 (.int .i64 (n : Int)) (.int .i64 (n : Int))).run Tryd.prog w = .ok (.slice p n n) w' ∧ Ni w w' p n w.heap.size (List.replicate n 0) := by
  obtain ⟨w', r1, r2, r3, r4⟩ := make_ints (w := w) n hn
  refine ⟨_, w', r1, ⟨⟨by rw [flat_len iCell_len], by simp, .inr ⟨_, 0, _, rfl, rfl, r2, by rw [flat_len iCell_len, List.length_replicate]; omega, by rw [List.drop_zero, List.take_of_length_le (by rw [flat_len iCell_len]; omega)]⟩⟩, Nat.le_refl _, r3⟩⟩
/-- the row says the set I of places up to n -/
def SetR (R : List Int) (n : Nat) (I : Nat → Prop) : Prop := R.length = n + 1 ∧ ∀ k, k ≤ n → ∃ v, R[k]? = some v ∧ (v ≠ 0 ↔ I k)
theorem SetR.congr {R : List Int} {n : Nat} {I J : Nat → Prop} (h : SetR R n I) (hIJ : ∀ k, k ≤ n → (I k ↔ J k)) : SetR R n J := ⟨h.1, fun k hk => let ⟨v, h1, h2⟩ := h.2 k hk; ⟨v, h1, h2.trans (hIJ k hk)⟩⟩
theorem SetR.none (n : Nat) : SetR (List.replicate (n + 1) 0) n fun _ => False := ⟨by simp, fun k hk => ⟨0, by rw [List.getElem?_replicate, if_pos (by omega)], by simp⟩⟩
theorem SetR.add {R : List Int} {n : Nat} {I : Nat → Prop} (h : SetR R n I) {j : Nat} (hj : j ≤ n) : SetR (R.set j 1) n fun k => I k ∨ k = j := by
  refine ⟨by rw [List.length_set]; exact h.1, fun k hk => ?_⟩
  by_cases hkj : k = j
  · subst hkj
    exact ⟨1, by rw [List.getElem?_set_self (by rw [h.1]; omega)], by simp⟩
  · obtain ⟨v, h1, h2⟩ := h.2 k hk
    exact ⟨v, by rw [List.getElem?_set_ne (Ne.symm hkj)]; exact h1, by rw [h2]; simp [hkj]⟩
def Reach (p : List ByteArray) (k j : Nat) : Prop := k ≤ j ∧ ∀ t, k ≤ t → t < j → p[t]? = some Rt.hash
theorem Clo_reach {p : List ByteArray} {I : Nat → Prop} : ∀ j, Clo p I j ↔ ∃ k, I k ∧ Reach p k j
  | 0 => by
    simp only [Clo]
    exact ⟨fun h => ⟨0, h, Nat.le_refl _, fun t h1 h2 => by omega⟩, fun ⟨k, h1, h2, _⟩ => (show k = 0 by omega) ▸ h1⟩
  | j + 1 => by
    simp only [Clo, Clo_reach j]
    constructor
    · rintro (h | ⟨h1, k, h2, h3, h4⟩)
      · exact ⟨j + 1, h, Nat.le_refl _, fun t h1 h2 => by omega⟩
      · refine ⟨k, h2, by omega, fun t h5 h6 => ?_⟩
        by_cases htj : t = j
        · rw [htj]; exact h1
        · exact h4 t h5 (by omega)
    · rintro ⟨k, h1, h2, h3⟩
      by_cases hk : k = j + 1
      · subst hk; exact .inl h1
      · exact .inr ⟨h3 j (by omega) (by omega), k, h1, by omega, fun t h4 h5 => h3 t h4 (by omega)⟩
set_option maxHeartbeats 1000000 in
theorem spread_ok {w : World} {p q : Option Addr} {c d : Nat} {L : List ByteArray} {R : List Int} {I : Nat → Prop} {K : Value → World → Prop} (hR : Rd w p L.length 1 (L.flatMap sCell)) (h8 : L.length ≤ 8)
    (hA : Rd w q R.length 1 (R.flatMap iCell)) (hI : SetR R L.length I)
    (hk : ∀ p' c' b' w' R', Ni w w' p' c' b' R' → SetR R' L.length (Clo L I) → K (.slice p' R'.length c') w') : callP Tryd.prog 33 [.slice p L.length c, .slice q R.length d] w K := by
  refine ok_longshoreref18_spread ?_
  unfold wp_longshoreref18_spread
  rw [wrap_id (n := (L.length : Int) + 1) (by omega) (by omega), show ((L.length : Int) + 1) = ((L.length + 1 : Nat) : Int) by omega]
  obtain ⟨p1, w1, r1, N1⟩ := Ni.make w (L.length + 1) (by omega)
  refine ⟨p1, _, _, w1, r1, ?_⟩
  refine ⟨fun m n1 w2 => ∃ (i : Nat) (R2 : List Int), n1 = (i : Int) ∧ m + i = L.length + 1 ∧ Ni w w2 p1 (L.length + 1) w.heap.size R2 ∧ SetR R2 L.length (fun j => ∃ k, k < i ∧ I k ∧ Reach L k j), ⟨_, 0, _, rfl, rfl, N1, (SetR.none _).congr (fun k hk => by simp)⟩, ?_⟩
  rintro m n1 w2 ⟨i, R2, rfl, hm, N2, S2⟩
  refine Sif_cases (fun h => ?_) fun h => ?_
  · have h := of_decide_eq_true h
    refine ⟨fun w3 => ∃ R3 : List Int, Ni w w3 p1 (L.length + 1) w.heap.size R3 ∧ SetR R3 L.length (fun j => ∃ k, k < i + 1 ∧ I k ∧ Reach L k j), ?_, by omega, by rw [hI.1]; omega, ?_⟩
    · rintro w3 ⟨R3, N3, S3⟩
      rw [nameI_iff, wrap_id (n := (i : Int) + 1) (by omega) (by omega)]
      exact ⟨m - 1, by omega, i + 1, R3, by omega, by omega, N3, S3⟩
    · obtain ⟨v, hv, hvI⟩ := hI.2 i (by omega)
      obtain ⟨b', o, rfl, hc⟩ := iAt (Rd_d hA N2.ch) hv
      rw [nn_some]
      simp only [add_at, Int.toNat_natCast, Nat.mul_one, Nat.add_zero]
      refine ⟨_, hc, Sif_cases (fun h1 => ⟨R2, N2, S2.congr fun j hj => ?_⟩) fun h1 => ⟨by omega, by omega, ?_⟩⟩
      · have h1 : v = 0 := by simpa using h1
        constructor
        · rintro ⟨k, g1, g2⟩; exact ⟨k, by omega, g2⟩
        · rintro ⟨k, g1, g2, g3⟩
          by_cases hki : k = i
          · subst hki; exact absurd h1 (hvI.2 g2)
          · exact ⟨k, by omega, g2, g3⟩
      · have hIi : I i := hvI.1 (by simpa using h1)
        obtain ⟨k0, o0, rfl, hst⟩ := N2.put (j := i) (by rw [S2.1]; omega)
        rw [nn_some]
        simp only [add_at, Int.toNat_natCast, Nat.mul_one, Nat.add_zero]
        refine hst _ _ fun w3 N3 => ?_
        have S3 := S2.add (j := i) (by omega)
        refine ⟨fun m1 n3 w4 => ∃ (t : Nat) (R4 : List Int), n3 = (t : Int) ∧ m1 + t = L.length ∧ Reach L i t ∧ Ni w w4 (some ⟨k0, o0, none⟩) (L.length + 1) w.heap.size R4 ∧ SetR R4 L.length (fun j => (∃ k, k < i ∧ I k ∧ Reach L k j) ∨ (i ≤ j ∧ j ≤ t)), ⟨L.length - i, i, _, rfl, by omega, ⟨Nat.le_refl _, fun t h1 h2 => by omega⟩, N3, S3.congr fun k hk => by
          constructor
          · rintro (g | g)
            · exact .inl g
            · exact .inr (by omega)
          · rintro (g | g)
            · exact .inl g
            · exact .inr (by omega)⟩, ?_⟩
        rintro m1 n3 w4 ⟨t, R4, rfl, hm1, hre, N4, S4⟩
        have stop : L[t]? ≠ some Rt.hash → ∃ R3 : List Int, Ni w w4 (some ⟨k0, o0, none⟩) (L.length + 1) w.heap.size R3 ∧ SetR R3 L.length (fun j => ∃ k, k < i + 1 ∧ I k ∧ Reach L k j) := fun hn => ⟨R4, N4, S4.congr fun j hj => by
          constructor
          · rintro (⟨k, g1, g2⟩ | ⟨g1, g2⟩)
            · exact ⟨k, by omega, g2⟩
            · exact ⟨i, by omega, hIi, g1, fun x h1 h2 => hre.2 x h1 (by omega)⟩
          · rintro ⟨k, g1, g2, g3⟩
            by_cases hki : k = i
            · subst hki
              refine .inr ⟨g3.1, Nat.le_of_not_lt fun hlt => hn (g3.2 t hre.1 hlt)⟩
            · exact .inl ⟨k, by omega, g2, g3⟩⟩
        refine ⟨fun w5 => w5 = w4 ∧ L[t]? = some Rt.hash, ?_, Sif_cases (fun h2 => ?_) fun h2 => stop (by have := of_decide_eq_false h2; rw [List.getElem?_eq_none (by omega)]; exact fun e => by cases e)⟩
        · rintro w5 ⟨rfl, hh⟩
          have htl := (List.getElem?_eq_some_iff.1 hh).1
          rw [wrap_id (n := (t : Int) + 1) (by omega) (by omega)]
          refine ⟨by omega, by omega, ?_⟩
          obtain ⟨k5, o5, hp5, hst5⟩ := N4.put (j := t + 1) (by rw [S4.1]; omega)
          cases hp5
          rw [nn_some]
          have e1 : ((t : Int) + 1).toNat = t + 1 := by omega
          simp only [add_at, e1, Nat.mul_one, Nat.add_zero]
          refine hst5 _ _ fun w6 N6 => ?_
          rw [nameI_iff]
          refine ⟨m1 - 1, by omega, t + 1, _, by omega, by omega, ⟨Nat.le_succ_of_le hre.1, fun x h1 h2 => ?_⟩, N6, (S4.add (j := t + 1) (by omega)).congr fun j hj => ?_⟩
          · by_cases hxt : x = t
            · rw [hxt]; exact hh
            · exact hre.2 x h1 (by omega)
          · have := hre.1
            constructor
            · rintro ((g | g) | g)
              · exact .inl g
              · exact .inr (by omega)
              · exact .inr (by omega)
            · rintro (g | g)
              · exact .inl (.inl g)
              · by_cases hj1 : j = t + 1
                · exact .inr hj1
                · exact .inl (.inr (by omega))
        · have h2 := of_decide_eq_true h2
          have hx : L[t]? = some L[t] := List.getElem?_eq_getElem (by omega)
          obtain ⟨b7, o7, rfl, hc7⟩ := sAt (Rd_d hR N4.ch) hx
          refine ⟨by omega, h2, ?_⟩
          rw [nn_some]
          simp only [add_at, Int.toNat_natCast, Nat.mul_one, Nat.add_zero]
          refine ⟨_, hc7, ?_⟩
          rw [hash_eq]
          refine Sif_cases (fun h3 => ⟨by trivial, by rw [hx, eq_of_beq h3]⟩) fun h3 => stop (by rw [hx]; intro e; exact beq_eq_false_iff_ne.1 h3 (Option.some.inj e))
  · have h := of_decide_eq_false h
    have hl : L.length + 1 = R2.length := S2.1.symm
    have := hk p1 (L.length + 1) w.heap.size w2 R2 N2 (S2.congr fun j hj => by
      rw [Clo_reach]
      constructor
      · rintro ⟨k, g1, g2⟩; exact ⟨k, g2⟩
      · rintro ⟨k, g2, g3⟩; exact ⟨k, by have := g3.1; omega, g2, g3⟩)
    rw [← hl] at this
    exact this
end Go.Proofs.YtnibmhjdomndbaaDoor
