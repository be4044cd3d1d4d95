/-
  Both readings of an address. The program's places: wide, on, lies; Fits. lies and Fits of the program; fits and Fits of the document.
-/
import Derived.Test.YtnibmhjdomndbaaGreatDoorRtE
namespace Go.Proofs.YtnibmhjdomndbaaGreatDoor
open Go Go.Sv Go.Rt
set_option linter.unusedVariables false
abbrev sTxns : ByteArray := ⟨#[116, 120, 110, 115]⟩
abbrev sQ : ByteArray := ⟨#[113, 117, 101, 117, 101, 47]⟩
abbrev sT : ByteArray := ⟨#[116, 111, 112, 105, 99, 47]⟩
def addrV (s : ByteArray) : Value := .tuple #[.int .i64 (addr s).1, .string (addr s).2.1, .int .i64 (addr s).2.2]
theorem trim6 {s : ByteArray} {l : List UInt8} (hl : l.length = 6) (h : Lib.hasPrefix s.data.toList l = true) : (⟨(Lib.trimPrefix s.data.toList l).toArray⟩ : ByteArray) = s.extract 6 s.size := by
  rw [Lib.trimPrefix, if_pos h, hl]
  exact (ba_of _ _ (by rw [extract_list, List.take_of_length_le (by simp)])).symm
theorem pre_iff {s : ByteArray} {l : List UInt8} (hl : l.length = 6) (h6 : 6 ≤ s.size) : Lib.hasPrefix s.data.toList l = (s.extract 0 6 == ⟨l.toArray⟩) := by
  rw [Lib.hasPrefix]
  have hsl : s.data.toList.length = s.size := by simp
  by_cases h : s.extract 0 6 = ⟨l.toArray⟩
  · rw [h, beq_self_eq_true]
    rw [List.isPrefixOf_iff_prefix]
    have := congrArg (fun x => x.data.toList) h
    simp only [extract_list, List.drop_zero] at this
    rw [← this]; exact List.take_prefix _ _
  · rw [beq_eq_false_iff_ne.2 h]
    rw [Bool.eq_false_iff]
    intro h2
    rw [List.isPrefixOf_iff_prefix] at h2
    apply h
    apply data_ext
    rw [extract_list, List.drop_zero]
    rw [List.prefix_iff_eq_take] at h2
    rw [← hl]; exact h2.symm
theorem pre_short {s : ByteArray} {l : List UInt8} (hl : l.length = 6) (h : Lib.hasPrefix s.data.toList l = true) : 6 ≤ s.size := by
  rw [Lib.hasPrefix, List.isPrefixOf_iff_prefix] at h
  have := h.length_le
  have hsl : s.data.toList.length = s.size := by simp
  omega
theorem named_empty : named ⟨#[]⟩ = false := by decide
theorem pat_empty : isPat ⟨#[]⟩ = false := by decide
theorem fine_pat {s : ByteArray} {b : Bool} (h : isPat s = b) : fine true s = b := h
set_option maxHeartbeats 1000000 in
theorem addr_prog {s : ByteArray} {w : World} {K : Value → World → Prop} (hs : s.size ≤ 2 ^ 40) (hk : ∀ w', Ch (fun _ => False) w w' → K (addrV s) w') : callP Tryz.prog 13 [.string s] w K := by
  refine ok_route_Address ?_
  unfold wp_route_Address
  have hx : (s.extract 6 s.size).size ≤ 2 ^ 40 := by rw [ByteArray.size_extract]; omega
  unfold addrV addr at hk
  refine Sif_cases (fun h => ?_) fun h => ?_
  · rw [if_pos (eqS h)] at hk; exact hk _ (Ch.refl _ _)
  · rw [if_neg (fun e => by rw [e, str_eq_self] at h; cases h)] at hk
    refine ⟨fun w1 => Ch (fun _ => False) w w1 ∧ (Lib.hasPrefix s.data.toList [113, 117, 101, 117, 101, 47] && named (s.extract 6 s.size)) = false, ?_, cutPrefix_ok ⟨_, _, rfl, Sif_cases (fun h1 => ?_) fun h1 => ⟨Ch.refl _ _, ?_⟩⟩⟩
    · rintro w1 ⟨c1, h1⟩
      rw [h1, if_neg (by decide)] at hk
      refine ⟨fun w1 => Ch (fun _ => False) w w1 ∧ (Lib.hasPrefix s.data.toList [116, 111, 112, 105, 99, 47] && isPat (s.extract 6 s.size)) = false, ?_, cutPrefix_ok ⟨_, _, rfl, Sif_cases (fun h2 => ?_) fun h2 => ⟨c1, ?_⟩⟩⟩
      · rintro w2 ⟨c2, h2⟩
        rw [h2, if_neg (by decide)] at hk
        exact hk _ c2
      · have h2 : Lib.hasPrefix s.data.toList [116, 111, 112, 105, 99, 47] = true := h2
        have e := trim6 rfl h2
        refine cut_ok (by rw [e]; exact hx) (fun hf w2 hc => ⟨_, _, _, rfl, Sif_true ?_⟩) fun hf w2 c2 => ⟨_, _, _, rfl, Sif_false ⟨c1.trans' c2, ?_⟩⟩
        · rw [e] at hf ⊢
          have hf : isPat (s.extract 6 s.size) = true := hf
          rw [h2, hf, Bool.and_true, if_pos rfl] at hk
          exact hk _ (c1.trans' hc.1.ch)
        · rw [e] at hf
          have hf : isPat (s.extract 6 s.size) = false := hf
          rw [hf, Bool.and_false]
      · have h2 : Lib.hasPrefix s.data.toList [116, 111, 112, 105, 99, 47] = false := h2
        rw [h2, Bool.false_and]
    · have h1 : Lib.hasPrefix s.data.toList [113, 117, 101, 117, 101, 47] = true := h1
      have e := trim6 rfl h1
      refine isName_ok (by rw [e]; exact hx) ⟨_, rfl, Sif_cases (fun hf => ?_) fun hf => ⟨Ch.refl _ _, ?_⟩⟩
      · rw [e] at hf ⊢
        rw [h1, hf, Bool.and_true, if_pos rfl] at hk
        exact hk _ (Ch.refl _ _)
      · rw [e] at hf
        rw [hf, Bool.and_false]
    · have h1 : Lib.hasPrefix s.data.toList [113, 117, 101, 117, 101, 47] = false := h1
      rw [h1, Bool.false_and]
end Go.Proofs.YtnibmhjdomndbaaGreatDoor
namespace Go.Proofs.YtnibmhjdomndbaaGreatDoor
open Go Go.Sv Go.Rt
set_option linter.unusedVariables false
theorem shl16 {i : Nat} (hi : i ≤ 8) : IntKind.wrap .u16 (1 * 2 ^ min ((i : Int)).toNat 16) = ((2 ^ i : Nat) : Int) := by
  rw [Int.toNat_natCast, Nat.min_eq_left (by omega), Int.one_mul]
  have h := pow_small hi
  have e : (2 : Int) ^ i = ((2 ^ i : Nat) : Int) := by norm_cast
  rw [e]
  generalize (2 ^ i : Nat) = m at *
  exact wrap_u16 (by omega) (by omega)
theorem tst {a i : Nat} (ha : a < 65536) (hi : i ≤ 8) : (bitsV BinOp.and IntKind.u16 (a : Int) (IntKind.wrap .u16 (1 * 2 ^ min ((i : Int)).toNat 16)) != 0) = a.testBit i := by
  rw [shl16 hi, and_u16 ha (pow_small hi)]
  cases h : a.testBit i with
  | false => rw [and_bit.2 h]; rfl
  | true =>
    have : (a &&& 2 ^ i) ≠ 0 := fun e => by rw [and_bit.1 e] at h; cases h
    rw [bne_iff_ne]; omega
theorem tst0 {a i : Nat} (ha : a < 65536) (hi : i ≤ 8) : (bitsV BinOp.and IntKind.u16 (a : Int) (IntKind.wrap .u16 (1 * 2 ^ min ((i : Int)).toNat 16)) == 0) = !a.testBit i := by
  rw [← tst ha hi, bne, Bool.not_not]
theorem orr {a i : Nat} (ha : a < 65536) (hi : i ≤ 8) : bitsV BinOp.or IntKind.u16 (a : Int) (IntKind.wrap .u16 (1 * 2 ^ min ((i : Int)).toNat 16)) = ((a ||| 2 ^ i : Nat) : Int) := by
  rw [shl16 hi, or_u16 ha (pow_small hi)]
set_option maxHeartbeats 1000000 in
theorem wide_ok {w : World} {p : Option Addr} {c : Nat} {L : List ByteArray} {a : Nat} {I : Nat → Prop} {K : Value → World → Prop} (hR : Rd w p L.length 1 (L.flatMap sCell)) (h8 : L.length ≤ 8) (ha : IsSet a L.length I)
    (hk : ∀ b : Nat, IsSet b L.length (Clo L I) → K (.int .u16 (b : Int)) w) : callP Tryz.prog 32 [.slice p L.length c, .int .u16 (a : Int)] w K := by
  refine ok_route_wide ?_
  unfold wp_route_wide
  refine ⟨fun m n n1 w1 => ∃ (i b : Nat), n1 = (i : Int) ∧ n = (b : Int) ∧ m + i = L.length ∧ IsSet b L.length (fun k => if k ≤ i then Clo L I k else I k) ∧ w1 = w, ⟨L.length, 0, a, rfl, rfl, rfl, ha.congr (fun k hk => ?_), rfl⟩, ?_⟩
  · by_cases h0 : k ≤ 0
    · have : k = 0 := by omega
      subst this; simp [Clo]
    · simp [h0]
  rintro m n n1 w1 ⟨i, b, rfl, rfl, hm, hb, rfl⟩
  have hb16 := hb.lt h8
  refine Sif_cases (fun h => ?_) fun h => ?_
  · have h := of_decide_eq_true h
    have hx : L[i]? = some L[i] := List.getElem?_eq_getElem (by omega)
    refine ⟨fun n2 w2 => w2 = w1 ∧ ∃ b' : Nat, n2 = (b' : Int) ∧ IsSet b' L.length (fun k => if k ≤ i + 1 then Clo L I k else I k), ?_, by omega, h, ?_⟩
    · rintro n2 w2 ⟨rfl, b', rfl, hb'⟩
      rw [wrap_id (n := (i : Int) + 1) (by omega) (by omega)]
      exact ⟨m - 1, by omega, i + 1, b', by omega, rfl, by omega, hb', rfl⟩
    · obtain ⟨b', o, rfl, hc⟩ := sAt hR hx
      rw [nn_some]
      have hc' : w1.cell? ((⟨b', o, none⟩ : Addr).add ((i : Int).toNat * 1)) = some (.string L[i]) := by simp only [add_at, Int.toNat_natCast, Nat.mul_one]; exact hc
      refine ⟨_, hc', ?_⟩
      generalize L[i] = x at *
      have stay : ¬ (x = Rt.hash ∧ b.testBit i = true) → IsSet b L.length (fun k => if k ≤ i + 1 then Clo L I k else I k) := fun hn => hb.congr fun k hk => by
        by_cases h1 : k ≤ i
        · simp [h1, show k ≤ i + 1 by omega]
        · by_cases h2 : k = i + 1
          · subst h2
            simp only [show ¬ (i + 1 ≤ i) by omega, if_false, Nat.le_refl, if_true, Clo]
            refine ⟨fun h => .inl h, fun h => h.elim id fun ⟨h3, h4⟩ => ?_⟩
            rw [hx] at h3
            exact absurd ⟨Option.some.inj h3, (hb i).2 ⟨by omega, by simp only [Nat.le_refl, if_true]; exact h4⟩⟩ hn
          · simp [h1, show ¬ k ≤ i + 1 by omega]
      rw [hash_eq]
      refine Sif_cases (fun h1 => ⟨by omega, ?_⟩) fun h1 => ⟨rfl, b, rfl, stay fun h2 => ?_⟩
      · have h1 : x = Rt.hash := eq_of_beq h1
        rw [tst hb16 (by omega)]
        refine Sif_cases (fun h2 => ?_) fun h2 => ⟨rfl, b, rfl, stay fun h3 => by rw [h2] at h3; exact absurd h3.2 (by decide)⟩
        rw [wrap_id (n := (i : Int) + 1) (by omega) (by omega)]
        refine ⟨by omega, ?_⟩
        rw [nameI_iff, show ((i : Int) + 1) = ((i + 1 : Nat) : Int) by omega, orr hb16 (by omega)]
        refine ⟨rfl, _, rfl, (hb.add (j := i + 1) (by omega)).congr fun k hk => ?_⟩
        by_cases h3 : k ≤ i
        · simp [h3, show k ≤ i + 1 by omega, show ¬ k = i + 1 by omega]
        · by_cases h4 : k = i + 1
          · subst h4
            simp only [show ¬ (i + 1 ≤ i) by omega, if_false, Nat.le_refl, if_true, Clo, or_true, true_iff]
            have := ((hb i).1 h2).2
            simp only [Nat.le_refl, if_true] at this
            exact .inr ⟨by rw [hx, h1], this⟩
          · simp [h3, h4, show ¬ k ≤ i + 1 by omega]
      · exact absurd h2.1 (beq_eq_false_iff_ne.1 h1)
  · have h := of_decide_eq_false h
    exact hk b (hb.congr fun k hk' => by simp [show k ≤ i by omega])
set_option maxHeartbeats 1000000 in
theorem on_ok {w : World} {p : Option Addr} {c : Nat} {L : List ByteArray} {a : Nat} {A : Nat → Prop} {x : ByteArray} {K : Value → World → Prop} (hR : Rd w p L.length 1 (L.flatMap sCell)) (h8 : L.length ≤ 8) (ha : IsSet a L.length A)
    (hk : ∀ b : Nat, IsSet b L.length (Clo L (Stp L A x)) → K (.int .u16 (b : Int)) w) : callP Tryz.prog 33 [.slice p L.length c, .int .u16 (a : Int), .string x] w K := by
  refine ok_route_on ?_
  unfold wp_route_on
  have ha16 := ha.lt h8
  refine ⟨fun m n n1 w1 => ∃ (i b : Nat), n1 = (i : Int) ∧ n = (b : Int) ∧ m + i = L.length ∧ IsSet b L.length (fun k => (k < i ∧ A k ∧ L[k]? = some Rt.hash) ∨ ∃ j, j < i ∧ k = j + 1 ∧ A j ∧ ∃ y, L[j]? = some y ∧ y ≠ Rt.hash ∧ okw y x) ∧ w1 = w,
    ⟨L.length, 0, 0, rfl, rfl, rfl, (IsSet.none _).congr (fun k hk => by simp), rfl⟩, ?_⟩
  rintro m n n1 w1 ⟨i, b, rfl, rfl, hm, hb, rfl⟩
  have hb16 := hb.lt h8
  refine Sif_cases (fun h => ?_) fun h => ?_
  · have h := of_decide_eq_true h
    have hx : L[i]? = some L[i] := List.getElem?_eq_getElem (by omega)
    refine ⟨fun n2 w2 => w2 = w1 ∧ ∃ b' : Nat, n2 = (b' : Int) ∧ IsSet b' L.length (fun k => (k < i + 1 ∧ A k ∧ L[k]? = some Rt.hash) ∨ ∃ j, j < i + 1 ∧ k = j + 1 ∧ A j ∧ ∃ y, L[j]? = some y ∧ y ≠ Rt.hash ∧ okw y x), ?_, by omega, h, ?_⟩
    · rintro n2 w2 ⟨rfl, b', rfl, hb'⟩
      rw [wrap_id (n := (i : Int) + 1) (by omega) (by omega)]
      exact ⟨m - 1, by omega, i + 1, b', by omega, rfl, by omega, hb', rfl⟩
    · obtain ⟨b', o, rfl, hc⟩ := sAt hR hx
      rw [nn_some]
      have hc' : w1.cell? ((⟨b', o, none⟩ : Addr).add ((i : Int).toNat * 1)) = some (.string L[i]) := by simp only [add_at, Int.toNat_natCast, Nat.mul_one]; exact hc
      refine ⟨_, hc', by omega, ?_⟩
      generalize L[i] = y at *
      have hA : a.testBit i = true ↔ A i := by rw [ha i]; exact ⟨fun h => h.2, fun h => ⟨by omega, h⟩⟩
      have stay : ¬ (A i ∧ (y = Rt.hash ∨ okw y x)) → IsSet b L.length (fun k => (k < i + 1 ∧ A k ∧ L[k]? = some Rt.hash) ∨ ∃ j, j < i + 1 ∧ k = j + 1 ∧ A j ∧ ∃ y, L[j]? = some y ∧ y ≠ Rt.hash ∧ okw y x) := fun hn => hb.congr fun k hk => by
        constructor
        · rintro (⟨h1, h2⟩ | ⟨j, h1, h2⟩)
          · exact .inl ⟨by omega, h2⟩
          · exact .inr ⟨j, by omega, h2⟩
        · rintro (⟨h1, h2, h3⟩ | ⟨j, h1, h2, h3, z, h4, h5, h6⟩)
          · by_cases hki : k = i
            · subst hki; rw [hx] at h3; exact absurd ⟨h2, .inl (Option.some.inj h3)⟩ hn
            · exact .inl ⟨by omega, h2, h3⟩
          · by_cases hji : j = i
            · subst hji; rw [hx] at h4; obtain rfl := Option.some.inj h4; exact absurd ⟨h3, .inr h6⟩ hn
            · exact .inr ⟨j, by omega, h2, h3, z, h4, h5, h6⟩
      have next : A i → y ≠ Rt.hash → okw y x → IsSet (b ||| 2 ^ (i + 1)) L.length (fun k => (k < i + 1 ∧ A k ∧ L[k]? = some Rt.hash) ∨ ∃ j, j < i + 1 ∧ k = j + 1 ∧ A j ∧ ∃ y, L[j]? = some y ∧ y ≠ Rt.hash ∧ okw y x) := fun g1 g2 g3 => (hb.add (j := i + 1) (by omega)).congr fun k hk => by
        constructor
        · rintro ((⟨h1, h2⟩ | ⟨j, h1, h2⟩) | h1)
          · exact .inl ⟨by omega, h2⟩
          · exact .inr ⟨j, by omega, h2⟩
          · exact .inr ⟨i, by omega, h1, g1, y, hx, g2, g3⟩
        · rintro (⟨h1, h2, h3⟩ | ⟨j, h1, h2, h3, z, h4, h5, h6⟩)
          · by_cases hki : k = i
            · subst hki; rw [hx] at h3; exact absurd (Option.some.inj h3) g2
            · exact .inl (.inl ⟨by omega, h2, h3⟩)
          · by_cases hji : j = i
            · subst hji; exact .inr h2
            · exact .inl (.inr ⟨j, by omega, h2, h3, z, h4, h5, h6⟩)
      have e1 : ((i : Int) + 1) = ((i + 1 : Nat) : Int) := by omega
      rw [tst0 ha16 (by omega)]
      refine Sif_cases (fun h1 => ⟨rfl, b, rfl, stay fun h2 => ?_⟩) fun h1 => ?_
      · rw [hA.2 h2.1] at h1; cases h1
      · have hAi : A i := hA.1 (by simpa using h1)
        rw [hash_eq, star_eq]
        refine Sif_cases (fun h2 => ⟨by omega, ?_⟩) fun h2 => Sif_cases (fun h3 => ?_) fun h3 => ?_
        · have h2 : y = Rt.hash := eq_of_beq h2
          rw [nameI_iff, orr hb16 (by omega)]
          refine ⟨rfl, _, rfl, (hb.add (j := i) (by omega)).congr fun k hk => ?_⟩
          constructor
          · rintro ((⟨h1, h2⟩ | ⟨j, h1, h2⟩) | h1)
            · exact .inl ⟨by omega, h2⟩
            · exact .inr ⟨j, by omega, h2⟩
            · subst h1; exact .inl ⟨by omega, hAi, by rw [hx, h2]⟩
          · rintro (⟨h1, h2', h3⟩ | ⟨j, h1, h2', h3, z, h4, h5, h6⟩)
            · by_cases hki : k = i
              · exact .inr hki
              · exact .inl (.inl ⟨by omega, h2', h3⟩)
            · by_cases hji : j = i
              · subst hji; rw [hx] at h4; exact absurd ((Option.some.inj h4).symm.trans h2) h5
              · exact .inl (.inr ⟨j, by omega, h2', h3, z, h4, h5, h6⟩)
        · have h2 : y ≠ Rt.hash := beq_eq_false_iff_ne.1 h2
          have h3 : y ≠ star := by intro e; subst e; revert h3; simp
          rw [beq_ba]
          refine Sif_cases (fun h4 => ?_) fun h4 => ⟨rfl, b, rfl, stay fun h5 => ?_⟩
          · have h4 : y = x := eq_of_beq h4
            rw [wrap_id (n := (i : Int) + 1) (by omega) (by omega), nameI_iff, e1, orr hb16 (by omega)]
            exact ⟨by omega, rfl, _, rfl, next hAi h2 (.inr h4)⟩
          · rcases h5.2 with h6 | h6 | h6
            · exact h2 h6
            · exact h3 h6
            · exact beq_eq_false_iff_ne.1 h4 h6
        · have h2 : y ≠ Rt.hash := beq_eq_false_iff_ne.1 h2
          have h3 : y = star := eq_of_beq (by simpa using h3)
          rw [wrap_id (n := (i : Int) + 1) (by omega) (by omega), nameI_iff, e1, orr hb16 (by omega)]
          exact ⟨by omega, rfl, _, rfl, next hAi h2 (.inl h3)⟩
  · have h := of_decide_eq_false h
    have hi : i = L.length := by omega
    subst hi
    refine wide_ok hR h8 hb fun b' hb' => ⟨_, rfl, hk b' (hb'.congr fun k hk' => ?_)⟩
    refine Clo_congr (fun k => ?_) k
    cases k with
    | zero =>
      simp only [Stp]
      constructor
      · rintro (⟨h1, h2, h3⟩ | ⟨j, h1, h2, _⟩)
        · exact ⟨h2, h3⟩
        · omega
      · rintro ⟨h2, h3⟩
        exact .inl ⟨(List.getElem?_eq_some_iff.1 h3).1, h2, h3⟩
    | succ k =>
      simp only [Stp]
      constructor
      · rintro (⟨h1, h2, h3⟩ | ⟨j, h1, h2, h3⟩)
        · exact .inl ⟨h2, h3⟩
        · obtain rfl : k = j := by omega
          exact .inr h3
      · rintro (⟨h2, h3⟩ | ⟨h2, y, h3, h4⟩)
        · exact .inl ⟨(List.getElem?_eq_some_iff.1 h3).1, h2, h3⟩
        · exact .inr ⟨k, (List.getElem?_eq_some_iff.1 h3).1, rfl, h2, y, h3, h4⟩
end Go.Proofs.YtnibmhjdomndbaaGreatDoor
namespace Go.Proofs.YtnibmhjdomndbaaGreatDoor
open Go Go.Sv Go.Rt
set_option linter.unusedVariables false
theorem Rd_sub {w : World} {p : Option Addr} {n c : Nat} {xs : List Value} (h : Rd w p n 1 xs) {j : Nat} (hj : j ≤ n) (hc : n ≤ c) : Rd w (subA p j c 1) (n - j) 1 (xs.drop j) := by
  obtain ⟨h1, h2⟩ := h
  refine ⟨by rw [List.length_drop, h1]; omega, ?_⟩
  by_cases hjn : j = n
  · exact .inl (by omega)
  · rcases h2 with h2 | ⟨b, o, cs, rfl, hb, hl, ht⟩
    · omega
    · refine .inr ⟨b, o + j, cs, ?_, hb, by omega, ?_⟩
      · unfold subA; rw [if_neg (by omega)]; simp
      · rw [← ht, ← List.drop_drop, List.drop_take]
        congr 1; omega
theorem drop_cells (L : List ByteArray) (j : Nat) : (L.flatMap sCell).drop j = (L.drop j).flatMap sCell := by
  induction L generalizing j with
  | nil => simp
  | cons x L ih =>
    cases j with
    | zero => rfl
    | succ j => simp [sCell, ih]
theorem Rd_drop {w : World} {p : Option Addr} {c : Nat} {L : List ByteArray} (h : Rd w p L.length 1 (L.flatMap sCell)) {j : Nat} (hj : j ≤ L.length) (hc : L.length ≤ c) :
    Rd w (subA p j c 1) (L.drop j).length 1 ((L.drop j).flatMap sCell) := by
  rw [List.length_drop, ← drop_cells]; exact Rd_sub h hj hc
theorem Rd_d {w w' : World} {p : Option Addr} {n : Nat} {xs : List Value} (h : Rd w p n 1 xs) (c : Ch (fun _ => False) w w') : Rd w' p n 1 xs := h.ch c fun _ _ _ => id
set_option maxHeartbeats 1000000 in
theorem lies_ok {w : World} {p q : Option Addr} {c d : Nat} {L ws : List ByteArray} {K : Value → World → Prop} (hR : Rd w p L.length 1 (L.flatMap sCell)) (hW : Rd w q ws.length 1 (ws.flatMap sCell)) (h8 : L.length ≤ 8) (hw : ws.length ≤ 2 ^ 40)
    (hk : ∀ b : Bool, (b = true ↔ Mp L ws) → K (.bool b) w) : callP Tryz.prog 29 [.slice p L.length c, .slice q ws.length d] w K := by
  refine ok_route_lies ?_
  unfold wp_route_lies
  refine wide_ok (a := 1) (I := (· = 0)) hR h8 (IsSet.one _) fun b hb => ⟨_, rfl, ?_⟩
  refine ⟨fun m n1 n2 w2 => ∃ (i b : Nat), n2 = (i : Int) ∧ n1 = (b : Int) ∧ m + i = ws.length ∧ IsSet b L.length (At L (ws.take i)) ∧ w2 = w, ⟨ws.length, 0, b, rfl, rfl, rfl, hb.congr (fun k hk => by rw [List.take_zero]; exact At_start L k hk), rfl⟩, ?_⟩
  rintro m n1 n2 w2 ⟨i, b, rfl, rfl, hm, hb, rfl⟩
  refine Sif_cases (fun h => ?_) fun h => ?_
  · have h := of_decide_eq_true h
    have hx : ws[i]? = some ws[i] := List.getElem?_eq_getElem (by omega)
    refine ⟨by omega, h, ?_⟩
    obtain ⟨b', o, rfl, hc⟩ := sAt hW hx
    rw [nn_some]
    have hc' : w2.cell? ((⟨b', o, none⟩ : Addr).add ((i : Int).toNat * 1)) = some (.string ws[i]) := by simp only [add_at, Int.toNat_natCast, Nat.mul_one]; exact hc
    refine ⟨_, hc', on_ok hR h8 hb fun b2 hb2 => ⟨_, rfl, m - 1, by omega, ?_⟩⟩
    rw [wrap_id (n := (i : Int) + 1) (by omega) (by omega)]
    refine ⟨i + 1, b2, by omega, rfl, by omega, hb2.congr fun k hk => ?_, rfl⟩
    rw [List.take_add_one, hx, Option.toList_some]
    exact At_step L _ _ k hk
  · have h := of_decide_eq_false h
    have hi : i = ws.length := by omega
    subst hi
    rw [List.take_length] at hb
    refine ⟨by omega, ?_⟩
    rw [tst (hb.lt h8) h8]
    refine hk _ ?_
    rw [hb L.length, At_end]
    exact ⟨fun h => h.2, fun h => ⟨Nat.le_refl _, h⟩⟩
/-- what Fits says -/
def FitsR (p t : ByteArray) (b : Bool) (e : Int) : Prop :=
  (isPat p = false ∧ b = false ∧ e = 180) ∨ (isPat p = true ∧ isTop t = false ∧ b = false ∧ e = 82) ∨ (isPat p = true ∧ isTop t = true ∧ e = 0 ∧ (b = true ↔ Mp (parts p) (parts t)))
theorem FitsR.one {p t : ByteArray} {b b' : Bool} {e e' : Int} (h : FitsR p t b e) (k : FitsR p t b' e') : b = b' ∧ e = e' := by
  rcases h with ⟨h1, rfl, rfl⟩ | ⟨h1, h2, rfl, rfl⟩ | ⟨h1, h2, rfl, h4⟩ <;> rcases k with ⟨k1, rfl, rfl⟩ | ⟨k1, k2, rfl, rfl⟩ | ⟨k1, k2, rfl, k4⟩
  all_goals (first | (rw [h1] at k1; cases k1; done) | (rw [h2] at k2; cases k2; done) | exact ⟨rfl, rfl⟩ | skip)
  refine ⟨?_, rfl⟩
  rw [Bool.eq_iff_iff, h4, k4]
theorem pat_len {s : ByteArray} (h : isPat s = true) : (parts s).length ≤ 8 := by
  rw [isPat_eq] at h; simp only [Bool.and_eq_true, decide_eq_true_eq] at h; exact h.1.2
theorem top_len {s : ByteArray} (h : isTop s = true) : (parts s).length ≤ 8 := by
  rw [isTop_eq] at h; simp only [Bool.and_eq_true, decide_eq_true_eq] at h; exact h.2
theorem fits_prog {p t : ByteArray} {w : World} {K : Value → World → Prop} (hp : p.size ≤ 2 ^ 40) (ht : t.size ≤ 2 ^ 40) (hk : ∀ b e w', FitsR p t b e → Ch (fun _ => False) w w' → K (.tuple #[.bool b, .int .i64 e]) w') :
    callP Tryz.prog 11 [.string p, .string t] w K := by
  refine ok_route_Fits ?_
  unfold wp_route_Fits
  refine cut_ok hp (fun hf w1 C1 => ⟨_, _, _, rfl, Sif_false (cut_ok ht (fun hg w2 C2 => ⟨_, _, _, rfl, Sif_false ?_⟩) fun hg w2 c2 => ⟨_, _, _, rfl, Sif_true (hk _ _ _ (.inr (.inl ⟨hf, hg, rfl, rfl⟩)) (C1.1.ch.trans' c2))⟩)⟩) fun hf w1 c1 => ⟨_, _, _, rfl, Sif_true (hk _ _ _ (.inl ⟨hf, rfl, rfl⟩) c1)⟩
  have hg' : isTop t = true := hg
  have := top_len hg'
  refine lies_ok (Rd_d C1.1.rd C2.1.ch) C2.1.rd (pat_len hf) (by omega) fun b hb => ⟨_, rfl, hk _ _ _ (.inr (.inr ⟨hf, hg, rfl, hb⟩)) (C1.1.ch.trans' C2.1.ch)⟩
set_option maxHeartbeats 1000000 in
theorem fitsw_ok : ∀ (L ws : List ByteArray) {w : World} {p q : Option Addr} {c d : Nat} {K : Value → World → Prop}, Rd w p L.length 1 (L.flatMap sCell) → Rd w q ws.length 1 (ws.flatMap sCell) → L.length ≤ c → ws.length ≤ d → ws.length ≤ 2 ^ 40 →
    (∀ (b : Bool) w', (b = true ↔ Mp L ws) → Ch (fun _ => False) w w' → K (.bool b) w') → callP Tryz.prog 55 [.slice p L.length c, .slice q ws.length d] w K
  | [], ws, w, p, q, c, d, K, hR, hW, hc, hd, hw, hk => by
    refine ok_longshoreref18_fits ?_
    unfold wp_longshoreref18_fits
    refine Sif_true (hk _ _ ?_ (Ch.refl _ _))
    simp only [Rt.Mp, beq_iff_eq]
    rw [← List.length_eq_zero_iff]; omega
  | x :: L, ws, w, p, q, c, d, K, hR, hW, hc, hd, hw, hk => by
    refine ok_longshoreref18_fits ?_
    unfold wp_longshoreref18_fits
    have h0 : (((x :: L).length : Int) == 0) = false := by rw [beq_eq_false_iff_ne, List.length_cons]; omega
    rw [h0]
    refine Sif_false ⟨by decide, by rw [List.length_cons]; omega, ?_⟩
    obtain ⟨b0, o0, hp, hc0⟩ := sAt (i := 0) (x := x) hR rfl
    have hR1 := Rd_drop hR (j := 1) (by rw [List.length_cons]; omega) hc
    rw [hp, nn_some, ← hp]
    refine ⟨x, hc0, ?_⟩
    rw [hash_eq]
    refine Sif_cases (fun h1 => ?_) fun h1 => ?_
    · have h1 : x = Rt.hash := eq_of_beq h1
      subst h1
      refine ⟨fun m n w1 => ∃ i : Nat, n = (i : Int) ∧ m + i = ws.length + 1 ∧ (∀ j, j < i → ¬ Mp L (ws.drop j)) ∧ Ch (fun _ => False) w w1, ⟨_, 0, rfl, rfl, (fun j hj => by omega), Ch.refl _ _⟩, ?_⟩
      rintro m n w1 ⟨i, rfl, hm, hn, c1⟩
      refine Sif_cases (fun h => ?_) fun h => ?_
      · have h := of_decide_eq_true h
        have c2 := c1.trans' (Ch.d0 (w := w1))
        refine ⟨by decide, by rw [List.length_cons]; omega, by omega, h, ?_⟩
        rw [Int.toNat_natCast]
        have g := fitsw_ok L (ws.drop i) (w := w1.drew) (c := c - 1) (d := d - i) (Rd_d hR1 c2) (Rd_d (Rd_drop hW (j := i) (by omega) hd) c2) (by rw [List.length_cons] at hc; omega) (by rw [List.length_drop]; omega) (by rw [List.length_drop]; omega)
          (K := fun v w2 => ∃ b : Bool, v = .bool b ∧ Sif b (K (.bool true) w2) (nameI (IntKind.wrap .i64 ((i : Int) + 1)) fun n1 => ∃ m', m' < m ∧ ∃ i : Nat, n1 = (i : Int) ∧ m' + i = ws.length + 1 ∧ (∀ j, j < i → ¬ Mp L (ws.drop j)) ∧ Ch (fun _ => False) w w2))
          fun b w2 hb c3 => ⟨b, rfl, Sif_cases (fun h5 => ?_) fun h5 => ?_⟩
        · rw [List.length_drop] at g
          exact g
        · refine hk _ _ ?_ (c2.trans' c3)
          simp only [true_iff]
          exact .inl ⟨rfl, ws.take i, ws.drop i, (List.take_append_drop _ _).symm, hb.1 h5⟩
        · rw [nameI_iff, wrap_id (n := (i : Int) + 1) (by omega) (by omega)]
          refine ⟨m - 1, by omega, i + 1, by omega, by omega, fun j hj => ?_, c2.trans' c3⟩
          by_cases hji : j = i
          · rw [hji]; intro h6; rw [hb.2 h6] at h5; cases h5
          · exact hn j (by omega)
      · have h := of_decide_eq_false h
        refine hk _ _ ?_ c1
        simp only [Bool.false_eq_true, false_iff, Rt.Mp]
        rintro (⟨_, u, v, rfl, h2⟩ | ⟨h1, _⟩)
        · exact hn u.length (by simp at hm h; omega) (by rw [List.drop_left]; exact h2)
        · exact h1 rfl
    · have h1 : x ≠ Rt.hash := beq_eq_false_iff_ne.1 h1
      have rej : (∀ y v, ws = y :: v → okw x y → False) → K (.bool false) w.drew := fun hn => by
        refine hk _ _ ?_ Ch.d0
        simp only [Bool.false_eq_true, false_iff, Rt.Mp]
        rintro (⟨h2, _⟩ | ⟨_, y, v, h3, h4, _⟩)
        · exact h1 h2
        · exact hn y v h3 h4
      refine ⟨fun w1 => Ch (fun _ => False) w w1 ∧ ∃ y v, ws = y :: v ∧ okw x y, ?_, ?_⟩
      · rintro w1 ⟨c1, y, v, rfl, hok⟩
        have c2 := c1.trans' (Ch.d0 (w := w1))
        refine ⟨by decide, by rw [List.length_cons]; omega, by decide, by rw [List.length_cons]; omega, ?_⟩
        have g := fitsw_ok L v (w := w1.drew) (c := c - 1) (d := d - 1) (Rd_d hR1 c2) (Rd_d (Rd_drop hW (j := 1) (by rw [List.length_cons]; omega) hd) c2) (by rw [List.length_cons] at hc; omega) (by rw [List.length_cons] at hd; omega) (by rw [List.length_cons] at hw; omega)
          (K := fun v w2 => ∃ b : Bool, v = .bool b ∧ K (.bool b) w2) fun b w2 hb c3 => ⟨b, rfl, hk _ _ ?_ (c2.trans' c3)⟩
        · exact g
        · rw [hb]
          simp only [Rt.Mp]
          constructor
          · exact fun h => .inr ⟨h1, y, v, rfl, hok, h⟩
          · rintro (⟨h2, _⟩ | ⟨_, y', v', h3, h4, h5⟩)
            · exact absurd h2 h1
            · obtain ⟨rfl, rfl⟩ := List.cons.inj h3; exact h5
      · refine Sif_cases (fun h2 => ⟨by decide, by rw [List.length_cons]; omega, ?_⟩) fun h2 => rej fun y v e _ => ?_
        · obtain ⟨y, v, rfl⟩ : ∃ y v, ws = y :: v := by
            cases ws with
            | nil => exact absurd h2 (by decide)
            | cons y v => exact ⟨y, v, rfl⟩
          obtain ⟨b1, o1, hq, hc1⟩ := sAt (i := 0) (x := y) hW rfl
          rw [hp, nn_some, ← hp]
          refine ⟨x, hc0, ?_⟩
          rw [star_eq]
          refine Sif_cases (fun h3 => ⟨by decide, by rw [List.length_cons]; omega, ?_⟩) fun h3 => ⟨Ch.d0, y, v, rfl, .inl (eq_of_beq (by simpa using h3))⟩
          rw [hp, nn_some]
          refine ⟨by decide, by rw [List.length_cons]; omega, ?_⟩
          rw [hq, nn_some]
          refine ⟨x, hc0, y, hc1, ?_⟩
          rw [beq_ba]
          refine Sif_cases (fun h4 => rej fun y' v' e hok => ?_) fun h4 => ⟨Ch.d0, y, v, rfl, .inr (eq_of_beq (by simpa using h4))⟩
          obtain ⟨rfl, rfl⟩ := List.cons.inj e
          rcases hok with h5 | h5
          · rw [h5] at h3; simp at h3
          · rw [h5] at h4; simp at h4
        · subst e
          revert h2
          have : (((y :: v).length : Int) == 0) = false := by rw [beq_eq_false_iff_ne, List.length_cons]; omega
          rw [this]; decide
theorem fits_ref {p t : ByteArray} {w : World} {K : Value → World → Prop} (hp : p.size ≤ 2 ^ 40) (ht : t.size ≤ 2 ^ 40) (hk : ∀ b e w', FitsR p t b e → Ch (fun _ => False) w w' → K (.tuple #[.bool b, .int .i64 e]) w') :
    callP Tryz.prog 42 [.string p, .string t] w K := by
  refine ok_longshoreref18_Fits ?_
  unfold wp_longshoreref18_Fits
  refine pattern_ok hp fun w1 c1 => ⟨_, rfl, Sif_cases (fun h => hk _ _ _ (.inl ⟨by simpa using h, rfl, rfl⟩) c1) fun h => ?_⟩
  have h : isPat p = true := by simpa using h
  refine topic_ok ht fun w2 c2 => ⟨_, rfl, Sif_cases (fun h3 => hk _ _ _ (.inr (.inl ⟨h, by simpa using h3, rfl, rfl⟩)) (c1.trans' c2)) fun h3 => ?_⟩
  have h3 : isTop t = true := by simpa using h3
  have h8 := top_len h3
  refine parts_ok hp fun p1 d1 b1 w3 N1 => ⟨_, _, _, rfl, parts_ok ht fun p2 d2 b2 w4 N2 => ⟨_, _, _, rfl, ?_⟩⟩
  refine fitsw_ok _ _ (Rd_d N1.rd N2.ch) N2.rd N1.ow.2.1 N2.ow.2.1 (by omega) fun b w5 hb c5 => ⟨_, rfl, hk _ _ _ (.inr (.inr ⟨h, h3, rfl, hb⟩)) (((((c1.trans' c2).trans' N1.ch)).trans' N2.ch).trans' c5)⟩
end Go.Proofs.YtnibmhjdomndbaaGreatDoor
