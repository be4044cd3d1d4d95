/-
  The document's words (longshoreref04): put, digits, escapes, Quote. The document's reading of words (longshoreref04): hex, item, Word, Unquote. The program's reading of words: escape, word, Unquote; and octet's texts. octet's texts: Utf8, Ascii. Names of kinds, letters, numbers of bytes: the program's kindName, named, letters; octet.Get.
-/
import Derived.Test.YtnacobknngidkaaGreatDoorPz10
set_option linter.unusedVariables false
set_option linter.unusedSimpArgs false
namespace Go.Proofs.YtnacobknngidkaaGreatDoor
open Go Go.Sv Go.Note
set_option linter.unusedVariables false
theorem iByte' : InfoIs Tryz.prog 5 1 1 (.int .u8 0) := .of (by kernel_rfl) (by kernel_rfl) (by kernel_rfl)
def Gb (w w' : World) (p' : Option Addr) (n' c' : Nat) (l' : List UInt8) (b : Option Nat) : Prop :=
  ∃ b', Ow w' p' n' c' 1 (bytesV l') b' ∧ (∀ k, b' = some k → b = some k ∨ w.heap.size ≤ k) ∧ Ch (fun k => b = some k) w w'
theorem bytesV_flat (l : List UInt8) : l.flatMap (fun x => [Value.int .u8 (x.toNat : Int)]) = bytesV l := by
  induction l with
  | nil => rfl
  | cons x l ih => rw [List.flatMap_cons, ih]; rfl
theorem Gb.trans {w w1 w2 : World} {p1 p2 : Option Addr} {n1 n2 c1 c2 : Nat} {l2 : List UInt8} {b b1 : Option Nat} (hb1 : ∀ k, b1 = some k → b = some k ∨ w.heap.size ≤ k) (c1' : Ch (fun k => b = some k) w w1) (h2 : Gb w1 w2 p2 n2 c2 l2 b1) : Gb w w2 p2 n2 c2 l2 b := by
  obtain ⟨b2, o2, f2, d2⟩ := h2
  refine ⟨b2, o2, fun k hk => ?_, c1'.trans d2 fun x hx hs => ?_⟩
  · rcases f2 k hk with h | h
    · exact hb1 k h
    · exact .inr (Nat.le_trans c1'.size h)
  · rcases hb1 x hs with h | h
    · exact h
    · omega
theorem rput_ok {w : World} {p : Option Addr} {n c : Nat} {l : List UInt8} {b : Option Nat} (ho : Ow w p n c 1 (bytesV l) b) (s : ByteArray) (hs : l.length + s.size ≤ 2 ^ 46) {K : Value → World → Prop}
    (hk : ∀ p' c' w', Gb w w' p' (l ++ s.data.toList).length c' (l ++ s.data.toList) b → K (.slice p' (l ++ s.data.toList).length c') w') :
    callP Tryz.prog 57 [.slice p n c, .string s] w K := by
  apply ok_longshoreref04_put
  unfold wp_longshoreref04_put
  have hn : n = l.length := by have := ho.1; simpa using this.symm
  subst hn
  have hlen : s.data.toList.length = s.size := by rw [Array.length_toList]; rfl
  refine ⟨fun m p' n' c' i w' => ∃ k, k ≤ s.size ∧ i = (k : Int) ∧ m = s.size - k ∧ n' = (l ++ s.data.toList.take k).length ∧ Gb w w' p' n' c' (l ++ s.data.toList.take k) b,
    ⟨s.size, 0, by omega, rfl, by omega, by simp, b, by simpa using ho, fun k hk => .inl hk, Ch.refl _ _⟩, ?_⟩
  rintro m p' n' c' i w' ⟨k, hk1, rfl, rfl, rfl, hG⟩
  refine Sif_cases (fun h => ?_) (fun h => ?_)
  · have hlt : k < s.size := by have := of_decide_eq_true h; omega
    obtain ⟨x, hx⟩ := get_lt s hlt
    refine ⟨by omega, by omega, ?_⟩
    rw [Int.toNat_natCast, byteAt_get hx]
    obtain ⟨b', o', f', d'⟩ := hG
    have hl' : (l ++ s.data.toList.take k).length = l.length + k := by rw [List.length_append, List.length_take]; omega
    refine push_ok (g := fun x : UInt8 => [Value.int .u8 (x.toNat : Int)]) (te := 5) (ty := 55) uBytes iByte' rfl (fun _ => rfl) (fun x v hv => by simp only [List.mem_singleton] at hv; subst hv; rfl) (L := l ++ s.data.toList.take k) (by rw [bytesV_flat]; exact o') x (by omega) (by omega) fun p2 c2 b2 w2 o2 f2 d2 => ?_
    simp only [nameI]
    have e : l ++ s.data.toList.take (k + 1) = l ++ s.data.toList.take k ++ [x] := by
      rw [List.take_add_one, hx, List.append_assoc]; rfl
    refine ⟨s.size - (k + 1), by omega, k + 1, by omega, ?_, rfl, by rw [e], ?_⟩
    · rw [wrap_id (n := (k : Int) + 1) (by omega) (by omega)]; omega
    · rw [e]
      rw [bytesV_flat] at o2
      exact Gb.trans (p1 := p) (n1 := 0) (c1 := 0) f' d' ⟨b2, o2, f2, d2⟩
  · have : k = s.size := by have := of_decide_eq_false h; omega
    subst this
    rw [List.take_of_length_le (by omega)] at hG ⊢
    exact hk _ _ _ hG
theorem digit_ok {n : Nat} (h : n < 16) {w : World} {K : Value → World → Prop} (hk : K (.string ⟨#[hexD n]⟩) w) :
    callP Tryz.prog 94 [.int .i64 (n : Int)] w K := by
  apply ok_longshoreref04_digit
  unfold wp_longshoreref04_digit
  refine ⟨fun w' => w' = w, ?_, ?_⟩
  · rintro w' rfl
    rw [wrap_id (by omega) (by omega)]
    refine ⟨by omega, by omega, by omega, by omega, ?_⟩
    have e : ∀ k : Fin 16, ByteArray.extract (ByteArray.mk (Array.mk [(48 : UInt8), 49, 50, 51, 52, 53, 54, 55, 56, 57, 97, 98, 99, 100, 101, 102])) k.val (k.val + 1) = ⟨#[hexD k.val]⟩ := by decide +kernel
    have e2 := e ⟨n, h⟩
    rw [Int.toNat_natCast, show ((n : Int) + 1).toNat = n + 1 by omega]
    rw [e2]
    exact hk
  · refine Sif_cases (fun _ => ?_) (fun h => by simp at h; omega)
    exact Sif_cases (fun h2 => by simp at h2; omega) (fun _ => rfl)
theorem esc_app (a b : List UInt8) : esc (a ++ b) = esc a ++ esc b := by
  induction a with
  | nil => rfl
  | cons x a ih => simp [esc, ih]
theorem size_of {x : ByteArray} {l : List UInt8} (h : x.data.toList = l) : x.size = l.length := by
  rw [← h, Array.length_toList]; rfl
theorem escaped_ok {s : ByteArray} (hs : s.size ≤ 2 ^ 40) {w : World} {K : Value → World → Prop} (hk : K (.string ⟨(esc s.data.toList).toArray⟩) w) :
    callP Tryz.prog 56 [.string s] w K := by
  apply ok_longshoreref04_escaped
  unfold wp_longshoreref04_escaped
  have hlen : s.data.toList.length = s.size := by rw [Array.length_toList]; rfl
  refine ⟨fun m x i w' => ∃ k, k ≤ s.size ∧ i = (k : Int) ∧ m = s.size - k ∧ w' = w ∧ x.data.toList = esc (s.data.toList.take k), ⟨s.size, 0, by omega, rfl, by omega, rfl, by simp [esc]⟩, ?_⟩
  rintro m x i w' ⟨k, hk1, rfl, rfl, rfl, hx⟩
  refine Sif_cases (fun h => ?_) (fun h => ?_)
  · have hlt : k < s.size := by have := of_decide_eq_true h; omega
    obtain ⟨y, hy⟩ := get_lt s hlt
    have hy256 := y.toNat_lt
    refine ⟨by omega, by omega, by omega, ?_⟩
    rw [Int.toNat_natCast, byteAt_get hy, wrap_id (n := (y.toNat : Int)) (by omega) (by omega)]
    have e1 : Int.tdiv (y.toNat : Int) 16 = ((y.toNat / 16 : Nat) : Int) := rfl
    have e2 : Int.tmod (y.toNat : Int) 16 = ((y.toNat % 16 : Nat) : Int) := rfl
    rw [e1, e2, wrap_id (n := ((y.toNat / 16 : Nat) : Int)) (by omega) (by omega)]
    refine digit_ok (by omega) ⟨_, rfl, by omega, by omega, by omega, ?_⟩
    refine digit_ok (by omega) ⟨_, rfl, ?_⟩
    have hxs : x.size = 4 * k := by rw [size_of hx, esc_len, List.length_take]; omega
    have z1 : (x ++ ByteArray.mk (Array.mk [(92 : UInt8), (120 : UInt8)])).size = 4 * k + 2 := by rw [ByteArray.size_append, hxs]; rfl
    have z2 : (x ++ ByteArray.mk (Array.mk [(92 : UInt8), (120 : UInt8)]) ++ ⟨#[hexD (y.toNat / 16)]⟩).size = 4 * k + 3 := by rw [ByteArray.size_append, z1]; rfl
    refine ⟨by omega, ?_, ?_, ?_⟩
    · rw [z1]; show ((4 * k + 2 + 1 : Nat) : Int) ≤ _; omega
    · rw [z2]; show ((4 * k + 3 + 1 : Nat) : Int) ≤ _; omega
    simp only [nameI]
    refine ⟨s.size - (k + 1), by omega, k + 1, by omega, ?_, rfl, by trivial, ?_⟩
    · rw [wrap_id (n := (k : Int) + 1) (by omega) (by omega)]; omega
    · rw [List.take_add_one, hy, esc_app, ← hx]
      simp [ByteArray.data_append, esc]
  · have : k = s.size := by have := of_decide_eq_false h; omega
    subst this
    rw [List.take_of_length_le (by omega)] at hx
    have e : x = ⟨(esc s.data.toList).toArray⟩ := data_ext (by rw [hx])
    rw [e]; exact hk
theorem extract_data (s : ByteArray) (a b : Nat) : (s.extract a b).data.toList = (s.data.toList.drop a).take (b - a) := by
  rw [ByteArray.data_extract, Array.toList_extract, List.extract_eq_take_drop]
attribute [local irreducible] Sif
theorem rQuote_ok {s : ByteArray} (hs : s.size ≤ 2 ^ 40) {w : World} {K : Value → World → Prop} (hk : ∀ w', Ch (fun _ => False) w w' → K (.string ⟨(quoteB s.data.toList).toArray⟩) w') :
    callP Tryz.prog 27 [.string s] w K := by
  apply ok_longshoreref04_Quote
  unfold wp_longshoreref04_Quote
  have hlen : s.data.toList.length = s.size := by rw [Array.length_toList]; rfl
  refine newB_blk fun w1 b1 c1 z1 => ?_
  have o1 : Ow w1 (some ⟨w.heap.size, 0, none⟩) 1 1 1 (bytesV [34]) (some w.heap.size) := ⟨rfl, Nat.le_refl _, .inr ⟨_, 0, _, rfl, rfl, b1, by simp, rfl⟩⟩
  refine ⟨fun m p n c i w' => ∃ k out b, k ≤ s.size ∧ i = (k : Int) ∧ m = s.size - k ∧ n = out.length ∧ Ow w' p n c 1 (bytesV out) b ∧ (∀ q, b = some q → w.heap.size ≤ q) ∧ Ch (fun _ => False) w w' ∧ out.length ≤ 4 * k + 1 ∧ out ++ qb (s.data.toList.drop k) = 34 :: qb s.data.toList,
    ⟨s.size, 0, [34], some w.heap.size, by omega, rfl, by omega, rfl, o1, fun q hq => by cases hq; exact Nat.le_refl _, c1, by simp, by simp⟩, ?_⟩
  rintro m p n c i w2 ⟨k, out, b, hk1, rfl, rfl, rfl, o2, hb2, c2, hol, heq⟩
  refine Sif_cases (fun h => ?_) (fun h => ?_)
  · have hlt : k < s.size := by have := of_decide_eq_true h; omega
    refine Character_ok (by omega) ⟨_, rfl, ?_⟩
    obtain ⟨l, hl⟩ : ∃ l, l = s.data.toList.drop k := ⟨_, rfl⟩
    have hll : l.length = s.size - k := by rw [hl, List.length_drop, hlen]
    have hlne : l ≠ [] := fun e => by rw [e] at hll; simp at hll; omega
    have hw := wide_le l hlne
    have hw1 := wide_pos l
    rw [← hl]
    refine ⟨fun n3 w4 => w4 = w2 ∧ n3 = (wide l : Int), ?_, ?_⟩
    · rintro n3 w4 ⟨rfl, rfl⟩
      rw [wrap_id (n := (k : Int) + (wide l : Int)) (by omega) (by omega)]
      refine ⟨by omega, by omega, by omega, by omega, ?_⟩
      rw [show ((k : Int) + (wide l : Int)).toNat = k + wide l by omega, Int.toNat_natCast]
      have hP : (s.extract k (k + wide l)).data.toList = l.take (wide l) := by
        rw [extract_data, ← hl, Nat.add_sub_cancel_left]
      generalize s.extract k (k + wide l) = X at hP ⊢
      generalize hPP : l.take (wide l) = P at hP
      have hPl : P.length = wide l := by rw [← hPP, List.length_take]; omega
      have hXs : X.size = wide l := by rw [size_of hP, hPl]
      refine escaped_ok (by omega) ⟨_, rfl, ?_⟩
      have fin : ∀ p1 n4 c1 w6, n4 = (out ++ qpiece P).length → Gb w4 w6 p1 n4 c1 (out ++ qpiece P) b → ∃ m', m' < s.size - k ∧ ∃ k' out' b', k' ≤ s.size ∧ (k : Int) + (wide l : Int) = (k' : Int) ∧ m' = s.size - k' ∧ n4 = out'.length ∧ Ow w6 p1 n4 c1 1 (bytesV out') b' ∧ (∀ q, b' = some q → w.heap.size ≤ q) ∧ Ch (fun _ => False) w w6 ∧ out'.length ≤ 4 * k' + 1 ∧ out' ++ qb (s.data.toList.drop k') = 34 :: qb s.data.toList := by
        rintro p1 n4 c1 w6 hn4 ⟨b', o', f', d'⟩
        refine ⟨s.size - (k + wide l), by omega, k + wide l, out ++ qpiece P, b', by omega, ?_, rfl, hn4, o', fun q hq => ?_, ?_, ?_, ?_⟩
        · omega
        · rcases f' q hq with h | h
          · exact hb2 q h
          · have := c2.size; omega
        · refine c2.trans d' fun x hx hs => ?_
          have := hb2 x hs; omega
        · rw [List.length_append]
          have := (qpiece_len P).2 (fun e => by rw [e] at hPl; simp at hPl; omega)
          omega
        · rw [← heq, List.append_assoc, ← hl, qb_cons l hlne, hPP, hl, List.drop_drop]
      obtain ⟨J1, hJ1⟩ : ∃ J1 : Option Addr → Nat → Nat → World → Prop, J1 = fun p1 n4 c1 w6 => n4 = (out ++ qpiece P).length ∧ Gb w4 w6 p1 n4 c1 (out ++ qpiece P) b := ⟨_, rfl⟩
      refine ⟨J1, ?_, ?_⟩
      · intro p1 n4 c1 w6 hj
        rw [hJ1] at hj
        simp only [nameI]
        exact fin p1 n4 c1 w6 hj.1 hj.2
      · have leaf : ∀ Y : ByteArray, Y.data.toList = qpiece P → callP Tryz.prog 57 [.slice p out.length c, .string Y] w4 fun v2 w6 => ∃ p1 n4 c1, v2 = .slice p1 n4 c1 ∧ J1 p1 n4 c1 w6 := by
          intro Y hY
          have h4 := (qpiece_len P).1
          refine rput_ok o2 Y (by rw [size_of hY]; omega) fun p' c' w' hg => ⟨p', _, c', rfl, ?_⟩
          rw [hJ1]
          rw [hY] at hg ⊢
          exact ⟨rfl, hg⟩
        have e1 : (X.toList == (ByteArray.mk (Array.mk [(34 : UInt8)])).toList) = (P == [34]) := by rw [ByteArray.toList_eq, ByteArray.toList_eq, hP]
        have e2 : (X.toList == (ByteArray.mk (Array.mk [(92 : UInt8)])).toList) = (P == [92]) := by rw [ByteArray.toList_eq, ByteArray.toList_eq, hP]
        have e3 : (X.toList == (ByteArray.mk (Array.mk [(10 : UInt8)])).toList) = (P == [10]) := by rw [ByteArray.toList_eq, ByteArray.toList_eq, hP]
        rw [e1, e2, e3]
        have bs : (P = [34] ∨ P = [92]) → callP Tryz.prog 57 [.slice p out.length c, .string (ByteArray.mk (Array.mk [(92 : UInt8)]))] w4 fun v2 w6 => ∃ p1 n4 c1, v2 = .slice p1 n4 c1 ∧ callP Tryz.prog 57 [.slice p1 n4 c1, .string X] w6 fun v3 w7 => ∃ p2 n5 c2, v3 = .slice p2 n5 c2 ∧ J1 p2 n5 c2 w7 := by
          intro hc
          refine rput_ok o2 _ (by show out.length + 1 ≤ _; omega) fun p1 c1 w6 hg => ⟨p1, _, c1, rfl, ?_⟩
          obtain ⟨b6, o6, f6, d6⟩ := hg
          refine rput_ok o6 X (by rw [List.length_append, hXs]; show out.length + 1 + wide l ≤ _; omega) fun p2 c2 w7 hg2 => ⟨p2, _, c2, rfl, ?_⟩
          rw [hJ1]
          have e : out ++ (ByteArray.mk (Array.mk [(92 : UInt8)])).data.toList ++ X.data.toList = out ++ qpiece P := by
            unfold qpiece
            rw [if_pos hc, hP, List.append_assoc]; rfl
          rw [e] at hg2 ⊢
          exact ⟨rfl, Gb.trans (p1 := p1) (n1 := 0) (c1 := 0) f6 d6 hg2⟩
        refine Sif_cases (fun h1 => ?_) (fun h1 => bs (.inl (by simpa using h1)))
        have n34 : P ≠ [34] := by simpa using h1
        refine Sif_cases (fun h2 => bs (.inr (by simpa using h2))) (fun h2 => ?_)
        have n92 : P ≠ [92] := by simpa using h2
        have q1 : ¬ (P = [34] ∨ P = [92]) := fun h => h.elim n34 n92
        refine Sif_cases (fun h3 => ?_) (fun h3 => ?_)
        · have h10 : P = [10] := by simpa using h3
          refine leaf _ ?_
          unfold qpiece
          rw [if_neg q1, if_pos h10]
        have n10 : P ≠ [10] := by simpa using h3
        have yes : plainP P = true → X.data.toList = qpiece P := fun hp => by
          unfold qpiece
          rw [if_neg q1, if_neg n10, if_pos hp, hP]
        have no : plainP P = false → (⟨(esc X.data.toList).toArray⟩ : ByteArray).data.toList = qpiece P := fun hp => by
          unfold qpiece
          rw [if_neg q1, if_neg n10, if_neg (by rw [hp]; simp), hP]
        rcases P with _ | ⟨x, _ | ⟨y, _ | ⟨z, t⟩⟩⟩
        · simp at hPl; omega
        · have hw1 : wide l = 1 := by rw [← hPl]; rfl
          have hx0 : byteAt X 0 = (x.toNat : Int) := byteAt_get (by rw [hP]; rfl)
          have hX1 : X.size = 1 := by rw [hXs, hw1]
          rw [hw1]
          refine Sif_cases (fun _ => ?_) (fun h => absurd h (by decide))
          refine ⟨by omega, by omega, ?_⟩
          rw [show Int.toNat 0 = 0 from rfl, hx0]
          refine Sif_cases (fun h4 => ?_) (fun h4 => ?_)
          · refine ⟨by omega, by omega, ?_⟩
            refine Sif_cases (fun h5 => leaf _ (yes ?_)) (fun h5 => ?_)
            · have := of_decide_eq_true h4; have := of_decide_eq_true h5
              simp [plainP]; omega
            · refine Sif_cases (fun _ => ?_) (fun h => absurd h (by decide))
              refine Sif_cases (fun h => absurd h (by decide)) (fun _ => leaf _ (no ?_))
              have := of_decide_eq_false h5
              simp [plainP]; omega
          · refine Sif_cases (fun _ => ?_) (fun h => absurd h (by decide))
            refine Sif_cases (fun h => absurd h (by decide)) (fun _ => leaf _ (no ?_))
            have := of_decide_eq_false h4
            simp [plainP]; omega
        · have hw2 : wide l = 2 := by rw [← hPl]; rfl
          have hx0 : byteAt X 0 = (x.toNat : Int) := byteAt_get (by rw [hP]; rfl)
          have hx1 : byteAt X 1 = (y.toNat : Int) := byteAt_get (by rw [hP]; rfl)
          have hX2 : X.size = 2 := by rw [hXs, hw2]
          rw [hw2]
          refine Sif_cases (fun h => absurd h (by decide)) (fun _ => ?_)
          refine Sif_cases (fun _ => ?_) (fun h => absurd h (by decide))
          refine Sif_cases (fun _ => ?_) (fun h => absurd h (by decide))
          refine ⟨by omega, by omega, ?_⟩
          rw [show Int.toNat 0 = 0 from rfl, show Int.toNat 1 = 1 from rfl, hx0, hx1]
          refine Sif_cases (fun h4 => ?_) (fun h4 => leaf _ (yes ?_))
          · refine ⟨by omega, by omega, ?_⟩
            refine Sif_cases (fun h5 => leaf _ (yes ?_)) (fun h5 => leaf _ (no ?_))
            · have := of_decide_eq_true h5
              simp [plainP]; omega
            · have := of_decide_eq_false h5
              simp at h4
              simp [plainP]; omega
          · simp at h4
            simp [plainP]; omega
        · have hw3 : 3 ≤ wide l := by rw [← hPl]; simp
          refine Sif_cases (fun h => by have := eq_of_beq h; omega) (fun _ => ?_)
          refine Sif_cases (fun h => by rw [Bool.not_eq_true'] at h; have := of_decide_eq_false h; omega) (fun _ => ?_)
          exact leaf _ (yes rfl)
    · have hlc : wide l = max 1 (chr l) := rfl
      refine Sif_cases (fun h => ⟨rfl, ?_⟩) (fun h => ⟨rfl, ?_⟩)
      · have := of_decide_eq_true h; omega
      · have := of_decide_eq_false h; omega
  · have : k = s.size := by have := of_decide_eq_false h; omega
    subst this
    rw [List.drop_of_length_le (by omega), qb_nil, List.append_nil] at heq
    refine rput_ok o2 _ (by show out.length + 1 ≤ _; omega) fun p' c' w' hg => ⟨p', _, c', rfl, ?_⟩
    obtain ⟨b', o', f', d'⟩ := hg
    have e : out ++ (ByteArray.mk (Array.mk [(34 : UInt8)])).data.toList = quoteB s.data.toList := by rw [heq]; rfl
    rw [e] at o' ⊢
    refine ⟨_, toString_run uBytes uByte uString o'.rd, hk w' ?_⟩
    refine c2.trans d' fun x hx hs => ?_
    have := hb2 x hs; omega
end Go.Proofs.YtnacobknngidkaaGreatDoor
namespace Go.Proofs.YtnacobknngidkaaGreatDoor
open Go Go.Sv Go.Note
set_option linter.unusedVariables false
attribute [local irreducible] Sif
def hexI (o : Option Nat) : Int := match o with | some n => (n : Int) | none => -1
theorem rhex_ok {x : UInt8} {cap : Bool} {w : World} {K : Value → World → Prop} (hk : K (.int .i64 (hexI (unhex x cap))) w) :
    callP Tryz.prog 136 [.int .u8 (x.toNat : Int), .bool cap] w K := by
  apply ok_longshoreref04_hex
  unfold wp_longshoreref04_hex
  have hx := x.toNat_lt
  rw [wrap_id (n := (x.toNat : Int)) (by omega) (by omega)]
  have yes : ∀ n : Nat, n ≤ 255 → unhex x cap = some n → K (.int .i64 (n : Int)) w := fun n hn h => by rw [h] at hk; exact hk
  have no : unhex x cap = none → K (.int .i64 (-1)) w := fun h => by rw [h] at hk; exact hk
  have w48 : 48 ≤ x.toNat → IntKind.i64.wrap ((x.toNat : Int) - 48) = ((x.toNat - 48 : Nat) : Int) := fun h => by rw [wrap_id (by omega) (by omega)]; omega
  have w87 : 97 ≤ x.toNat → IntKind.i64.wrap ((x.toNat : Int) - 87) = ((x.toNat - 87 : Nat) : Int) := fun h => by rw [wrap_id (by omega) (by omega)]; omega
  have w55 : 65 ≤ x.toNat → IntKind.i64.wrap ((x.toNat : Int) - 55) = ((x.toNat - 55 : Nat) : Int) := fun h => by rw [wrap_id (by omega) (by omega)]; omega
  obtain ⟨J, hJ⟩ : ∃ J : World → Prop, J = fun w' => w' = w ∧ unhex x cap = none := ⟨_, rfl⟩
  have jn : unhex x cap = none → J w := fun h => by rw [hJ]; exact ⟨rfl, h⟩
  refine ⟨J, fun w' hj => by rw [hJ] at hj; obtain ⟨rfl, h⟩ := hj; exact no h, ?_⟩
  simp only [nameI]
  have capital : ¬ (48 ≤ x.toNat ∧ x.toNat ≤ 57) → ¬ (97 ≤ x.toNat ∧ x.toNat ≤ 102) → Sif cap (Sif (decide ((x.toNat : Int) ≥ 65)) (Sif (decide ((x.toNat : Int) ≤ 70)) (K (.int .i64 (IntKind.i64.wrap ((x.toNat : Int) - 55))) w) (J w)) (J w)) (J w) := by
    intro n1 n2
    refine Sif_cases (fun hc => ?_) (fun hc => jn ?_)
    · refine Sif_cases (fun h1 => ?_) (fun h1 => jn ?_)
      · have h1 := of_decide_eq_true h1
        refine Sif_cases (fun h2 => ?_) (fun h2 => jn ?_)
        · have h2 := of_decide_eq_true h2
          rw [w55 (by omega)]
          refine yes _ (by omega) ?_
          unfold unhex
          rw [if_neg n1, if_neg n2, if_pos ⟨hc, by omega, by omega⟩]
        · have h2 := of_decide_eq_false h2
          unfold unhex
          rw [if_neg n1, if_neg n2, if_neg (by omega)]
      · have h1 := of_decide_eq_false h1
        unfold unhex
        rw [if_neg n1, if_neg n2, if_neg (by omega)]
    · unfold unhex
      rw [if_neg n1, if_neg n2, if_neg (by rw [hc]; simp)]
  have small : ¬ (48 ≤ x.toNat ∧ x.toNat ≤ 57) → Sif (decide ((x.toNat : Int) ≥ 97)) (Sif (decide ((x.toNat : Int) ≤ 102)) (K (.int .i64 (IntKind.i64.wrap ((x.toNat : Int) - 87))) w) (Sif cap (Sif (decide ((x.toNat : Int) ≥ 65)) (Sif (decide ((x.toNat : Int) ≤ 70)) (K (.int .i64 (IntKind.i64.wrap ((x.toNat : Int) - 55))) w) (J w)) (J w)) (J w))) (Sif cap (Sif (decide ((x.toNat : Int) ≥ 65)) (Sif (decide ((x.toNat : Int) ≤ 70)) (K (.int .i64 (IntKind.i64.wrap ((x.toNat : Int) - 55))) w) (J w)) (J w)) (J w)) := by
    intro n1
    refine Sif_cases (fun h1 => ?_) (fun h1 => ?_)
    · have h1 := of_decide_eq_true h1
      refine Sif_cases (fun h2 => ?_) (fun h2 => ?_)
      · have h2 := of_decide_eq_true h2
        rw [w87 (by omega)]
        refine yes _ (by omega) ?_
        unfold unhex
        rw [if_neg n1, if_pos (by omega)]
      · have h2 := of_decide_eq_false h2
        exact capital n1 (by omega)
    · have h1 := of_decide_eq_false h1
      exact capital n1 (by omega)
  refine Sif_cases (fun h1 => ?_) (fun h1 => ?_)
  · have h1 := of_decide_eq_true h1
    refine Sif_cases (fun h2 => ?_) (fun h2 => ?_)
    · have h2 := of_decide_eq_true h2
      rw [w48 (by omega)]
      refine yes _ (by omega) ?_
      unfold unhex
      rw [if_pos (by omega)]
    · have h2 := of_decide_eq_false h2
      exact small (by omega)
  · have h1 := of_decide_eq_false h1
    exact small (by omega)
def ItemR (o : Option (Bs × Nat)) (v : Value) : Prop :=
  match o with
  | none => v = .tuple #[.string ⟨#[]⟩, .int .i64 0]
  | some p => v = .tuple #[.string ⟨p.1.toArray⟩, .int .i64 (p.2 : Int)]
theorem ritem_ok {s : ByteArray} (hs : s.size ≤ 2 ^ 40) {k : Nat} (hk1 : k < s.size) {x : UInt8} {t : List UInt8} (hl : s.data.toList.drop k = x :: t) (h34 : x ≠ 34) {w : World} {K : Value → World → Prop}
    (hk : ∀ v w', Ch (fun _ => False) w w' → ItemR (item (x :: t)) v → K v w') : callP Tryz.prog 97 [.string s, .int .i64 (k : Int)] w K := by
  apply ok_longshoreref04_item
  unfold wp_longshoreref04_item
  have hlen : s.data.toList.length = s.size := by rw [Array.length_toList]; rfl
  have hR : (s.extract k s.size).data.toList = x :: t := by
    rw [extract_data, hl, List.take_of_length_le]
    have := congrArg List.length hl
    rw [List.length_drop, hlen] at this
    omega
  have hRs : (s.extract k s.size).size = t.length + 1 := by rw [size_of hR]; rfl
  have hsk : s.size = k + (t.length + 1) := by
    have := congrArg List.length hl
    rw [List.length_drop, hlen] at this
    simp only [List.length_cons] at this; omega
  have hx0 : byteAt s k = (x.toNat : Int) := byteAt_get (by
    have : (s.data.toList.drop k)[0]? = some x := by rw [hl]; rfl
    rw [List.getElem?_drop] at this; simpa using this)
  refine ⟨by omega, by omega, ?_⟩
  rw [Int.toNat_natCast]
  generalize s.extract k s.size = R at hR hRs ⊢
  have none' : ∀ w', Ch (fun _ => False) w w' → item (x :: t) = none → K (.tuple #[.string ⟨#[]⟩, .int .i64 0]) w' := fun w' hc h => hk _ _ hc (by rw [h]; rfl)
  have x92 : ((x.toNat : Int) == 92) = decide (x = 92) := by
    by_cases h : x = 92
    · subst h; rfl
    · have : x.toNat ≠ 92 := fun e => h (UInt8.toNat_inj.1 e)
      simp [h]; omega
  have x34 : ((x.toNat : Int) == 34) = false := by
    have : x.toNat ≠ 34 := fun e => h34 (UInt8.toNat_inj.1 e)
    simp; omega
  obtain ⟨J, hJ⟩ : ∃ J : World → Prop, J = fun w' => w' = w ∧ (x ≠ 92 ∨ t = []) := ⟨_, rfl⟩
  refine ⟨J, ?_, ?_⟩
  · intro w1 hj
    rw [hJ] at hj
    obtain ⟨rfl, hj⟩ := hj
    refine Character_ok (by omega) ⟨_, rfl, ?_⟩
    rw [hl]
    have hle := chr_le (x :: t)
    simp only [List.length_cons] at hle
    have hx256 := x.toNat_lt
    refine ⟨fun w3 => w3 = w1 ∧ item (x :: t) = some ((x :: t).take (chr (x :: t)), chr (x :: t)), ?_, ?_⟩
    · rintro w3 ⟨rfl, he⟩
      rw [wrap_id (by omega) (by omega)]
      refine ⟨by omega, by omega, by omega, by omega, ?_⟩
      rw [show ((k : Int) + (chr (x :: t) : Int)).toNat = k + chr (x :: t) by omega]
      refine hk _ _ (Ch.refl _ _) ?_
      rw [he]
      have e : s.extract k (k + chr (x :: t)) = ⟨((x :: t).take (chr (x :: t))).toArray⟩ := data_ext (by rw [extract_data, hl, Nat.add_sub_cancel_left])
      show Value.tuple _ = _
      rw [e]
    · rw [hx0, x34, x92]
      refine Sif_cases (fun h1 => ?_) (fun h1 => ?_)
      · rw [Bool.not_eq_true'] at h1
        have h1 := of_decide_eq_false h1
        refine ⟨by omega, by omega, ?_⟩
        refine Sif_cases (fun h2 => ?_) (fun h2 => ?_)
        · rw [Bool.not_eq_true'] at h2
          have h2 := of_decide_eq_false h2
          refine ⟨by omega, by omega, ?_⟩
          refine Sif_cases (fun _ => ?_) (fun h => absurd h (by decide))
          refine ⟨by omega, by omega, ?_⟩
          refine Sif_cases (fun h3 => ?_) (fun h3 => ?_)
          · have h3 := of_decide_eq_true h3
            have ht : t = [] := hj.resolve_left (fun h => h h3)
            refine none' _ (Ch.refl _ _) ?_
            subst ht
            simp [item, h3, slashed]
          · have h3 := of_decide_eq_false h3
            refine ⟨rfl, ?_⟩
            simp only [item]
            rw [if_neg h3, if_neg (by omega)]
        · have h2 : (x.toNat : Int) < 32 := by
            rw [Bool.not_eq_false'] at h2
            exact of_decide_eq_true h2
          refine none' _ (Ch.refl _ _) ?_
          have h3 : x ≠ 92 := fun e => by subst e; exact absurd h2 (by decide)
          simp only [item]
          rw [if_neg h3, if_pos (by omega)]
      · have h1 : (chr (x :: t) : Int) < 1 := by
          rw [Bool.not_eq_false'] at h1
          exact of_decide_eq_true h1
        refine none' _ (Ch.refl _ _) ?_
        have h3 : x ≠ 92 := fun e => by
          have : chr (x :: t) = 1 := by rw [chr_ch, if_pos (by rw [e]; show 92 ≤ 127; omega)]
          omega
        simp only [item]
        rw [if_neg h3, if_pos (by omega)]
  · have toJ : (x ≠ 92 ∨ t = []) → J w := fun h => by rw [hJ]; exact ⟨rfl, h⟩
    rw [hRs]
    refine Sif_cases (fun h1 => ?_) (fun h1 => toJ ?_)
    · have h1 := of_decide_eq_true h1
      obtain ⟨y, t', rfl⟩ : ∃ y t', t = y :: t' := by
        cases t with
        | nil => simp at h1
        | cons y t' => exact ⟨y, t', rfl⟩
      have hR0 : byteAt R 0 = (x.toNat : Int) := byteAt_get (by rw [hR]; rfl)
      have hR1 : byteAt R 1 = (y.toNat : Int) := byteAt_get (by rw [hR]; rfl)
      simp only [List.length_cons] at hRs hsk ⊢
      rw [hR0, hR1, x92]
      refine ⟨by omega, by omega, ?_⟩
      refine Sif_cases (fun h2 => ?_) (fun h2 => toJ (.inl (of_decide_eq_false h2)))
      have h2 := of_decide_eq_true h2
      have eqB : ∀ (y : UInt8) (n : Nat), n < 256 → ((y.toNat : Int) == (n : Int)) = decide (y = n.toUInt8) := by
        intro y n hn
        have : (y = n.toUInt8) ↔ y.toNat = n := by
          rw [← UInt8.toNat_inj]
          simp only [Nat.toUInt8, UInt8.toNat_ofNat']
          omega
        by_cases h : y.toNat = n
        · rw [h, decide_eq_true (this.2 h)]; simp
        · rw [decide_eq_false (fun e => h (this.1 e))]; simp; omega
      have y34 := eqB y 34 (by omega)
      have y92 := eqB y 92 (by omega)
      have y110 := eqB y 110 (by omega)
      have y120 := eqB y 120 (by omega)
      have one : ∀ w', Ch (fun _ => False) w w' → ∀ (z : UInt8) (n : Nat) (Y : ByteArray), Y.data.toList = [z] → slashed (y :: t') = some (z, n) → K (.tuple #[.string Y, .int .i64 (n : Int)]) w' := by
        intro w' hc z n Y hY hz
        refine hk _ _ hc ?_
        simp only [item]
        rw [if_pos h2, hz]
        have : Y = ⟨[z].toArray⟩ := data_ext (by rw [hY])
        rw [this]; rfl
      have nothing : ∀ w', Ch (fun _ => False) w w' → slashed (y :: t') = none → K (.tuple #[.string ⟨#[]⟩, .int .i64 0]) w' := by
        intro w' hc hz
        refine none' _ hc ?_
        simp only [item]
        rw [if_pos h2, hz]; rfl
      have same : (y = 34 ∨ y = 92) → K (.tuple #[.string (R.extract 1 2), .int .i64 2]) w := fun hy =>
        one w (Ch.refl _ _) y 2 _ (by rw [extract_data, hR]; rfl) (by simp only [slashed]; rw [if_pos hy])
      obtain ⟨J1, hJ1⟩ : ∃ J1 : World → Prop, J1 = fun w' => w' = w ∧ ¬ (y = 34 ∨ y = 92) := ⟨_, rfl⟩
      refine ⟨J1, ?_, by omega, by omega, ?_⟩
      · intro w1 hj
        rw [hJ1] at hj
        obtain ⟨rfl, hj⟩ := hj
        refine ⟨by omega, by omega, ?_⟩
        have y110' : ((y.toNat : Int) == 110) = decide (y = 110) := y110
        have y120' : ((y.toNat : Int) == 120) = decide (y = 120) := y120
        rw [y110', y120']
        refine Sif_cases (fun h3 => ?_) (fun h3 => ?_)
        · have h3 := of_decide_eq_true h3
          exact one w1 (Ch.refl _ _) 10 2 _ rfl (by simp only [slashed]; rw [if_neg hj, if_pos h3])
        · have h3 := of_decide_eq_false h3
          refine ⟨fun w2 => Ch (fun _ => False) w1 w2 ∧ slashed (y :: t') = none, fun w2 hw2 => nothing w2 hw2.1 hw2.2, ?_⟩
          refine Sif_cases (fun h4 => ?_) (fun h4 => ⟨Ch.refl _ _, ?_⟩)
          · have h4 := of_decide_eq_true h4
            refine ⟨by omega, by omega, ?_⟩
            refine Sif_cases (fun h5 => ?_) (fun h5 => ⟨Ch.refl _ _, ?_⟩)
            · have h5 := of_decide_eq_true h5
              obtain ⟨a, b, u, rfl⟩ : ∃ a b u, t' = a :: b :: u := by
                rcases t' with _ | ⟨a, _ | ⟨b, u⟩⟩
                · simp at h4
                · simp at h4
                · exact ⟨a, b, u, rfl⟩
              have hR2 : byteAt R 2 = (a.toNat : Int) := byteAt_get (by rw [hR]; rfl)
              have hR3 : byteAt R 3 = (b.toNat : Int) := byteAt_get (by rw [hR]; rfl)
              rw [hR2, hR3]
              refine ⟨by omega, by omega, ?_⟩
              refine rhex_ok ⟨_, rfl, by omega, by omega, ?_⟩
              refine rhex_ok ⟨_, rfl, ?_⟩
              have sl : slashed (y :: a :: b :: u) = match unhex a true, unhex b true with
                | some m, some n => some ((16 * m + n).toUInt8, 4)
                | _, _ => none := by
                simp only [slashed]; rw [if_neg hj, if_neg h3, if_pos h5]
                cases unhex a true <;> cases unhex b true <;> rfl
              have lt16 : ∀ z n, unhex z true = some n → n < 16 := by
                intro z n h
                unfold unhex at h
                split at h
                · cases h; omega
                · split at h
                  · cases h; omega
                  · split at h
                    · cases h; omega
                    · cases h
              cases ha : unhex a true with
              | none =>
                refine Sif_cases (fun h => absurd h (by decide)) (fun _ => ⟨Ch.refl _ _, ?_⟩)
                rw [sl, ha]
              | some m =>
                cases hb : unhex b true with
                | none =>
                  refine Sif_cases (fun _ => ?_) (fun h => by have := of_decide_eq_false h; simp only [hexI] at this; omega)
                  refine Sif_cases (fun h => absurd h (by decide)) (fun _ => ⟨Ch.refl _ _, ?_⟩)
                  rw [sl, ha, hb]
                | some n =>
                  have hm := lt16 a m ha
                  have hn := lt16 b n hb
                  refine Sif_cases (fun _ => ?_) (fun h => by have := of_decide_eq_false h; simp only [hexI] at this; omega)
                  refine Sif_cases (fun _ => ?_) (fun h => by have := of_decide_eq_false h; simp only [hexI] at this; omega)
                  simp only [hexI]
                  rw [wrap_id (n := 16 * (m : Int)) (by omega) (by omega), wrap_id (n := 16 * (m : Int) + (n : Int)) (by omega) (by omega)]
                  have e : IntKind.wrap .u8 (16 * (m : Int) + (n : Int)) = ((16 * m + n).toUInt8.toNat : Int) := by
                    rw [show 16 * (m : Int) + (n : Int) = ((16 * m + n : Nat) : Int) by omega, wrap_u8]
                    simp
                  rw [e]
                  refine newB_blk fun w4 b4 c4 z4 => ?_
                  have rd : Rd w4 (some ⟨w1.heap.size, 0, none⟩) 1 1 (bytesV [(16 * m + n).toUInt8]) := ⟨rfl, .inr ⟨_, 0, _, rfl, blk_cells b4, by simp, rfl⟩⟩
                  refine ⟨_, toString_run uBytes uByte uString rd, ?_⟩
                  exact one w4 c4 (16 * m + n).toUInt8 4 _ rfl (by rw [sl, ha, hb])
            · have h5 := of_decide_eq_false h5
              simp only [slashed]; rw [if_neg hj, if_neg h3, if_neg h5]
          · have h4 := of_decide_eq_false h4
            simp only [slashed]; rw [if_neg hj, if_neg h3]
            rcases t' with _ | ⟨a, _ | ⟨b, u⟩⟩
            · simp
            · simp
            · simp at h4; omega
      · have y34' : ((y.toNat : Int) == 34) = decide (y = 34) := y34
        have y92' : ((y.toNat : Int) == 92) = decide (y = 92) := y92
        rw [y34', y92']
        refine Sif_cases (fun h3 => ?_) (fun h3 => ?_)
        · rw [Bool.not_eq_true'] at h3
          have h3 := of_decide_eq_false h3
          refine ⟨by omega, by omega, ?_⟩
          refine Sif_cases (fun h4 => ?_) (fun h4 => ?_)
          · exact ⟨by omega, by omega, by omega, by omega, same (.inr (of_decide_eq_true h4))⟩
          · rw [hJ1]
            have h4 := of_decide_eq_false h4
            exact ⟨rfl, fun h => h.elim h3 h4⟩
        · rw [Bool.not_eq_false'] at h3
          exact ⟨by omega, by omega, by omega, by omega, same (.inl (of_decide_eq_true h3))⟩
    · have h1 := of_decide_eq_false h1
      right
      cases t with
      | nil => rfl
      | cons y t' => simp at h1; omega
def WordR (k : Nat) (o : Option (Bs × Nat)) (v : Value) : Prop :=
  match o with
  | none => v = .tuple #[.string ⟨#[]⟩, .int .i64 0]
  | some p => v = .tuple #[.string ⟨p.1.toArray⟩, .int .i64 ((k + p.2 : Nat) : Int)]
theorem item_len {l : Bs} {y : Bs} {n : Nat} (h : item l = some (y, n)) : y.length ≤ n := by
  cases l with
  | nil => cases h
  | cons x l =>
    have hp := item_pos h
    simp only [item] at h
    split at h
    · cases hs : slashed l with
      | none => rw [hs] at h; cases h
      | some q =>
        rw [hs] at h
        simp only [Option.map_some, Option.some.injEq, Prod.mk.injEq] at h
        obtain ⟨rfl, rfl⟩ := h
        simpa using hp.1
    · split at h
      · cases h
      · simp only [Option.some.injEq, Prod.mk.injEq] at h
        obtain ⟨rfl, rfl⟩ := h
        rw [List.length_take]; omega
theorem rWord_ok {s : ByteArray} (hs : s.size ≤ 2 ^ 40) {k : Nat} (hk1 : k ≤ s.size) {w : World} {K : Value → World → Prop}
    (hk : ∀ v w', Ch (fun _ => False) w w' → WordR k (wordB (s.data.toList.drop k)) v → K v w') : callP Tryz.prog 59 [.string s, .int .i64 (k : Int)] w K := by
  apply ok_longshoreref04_Word
  unfold wp_longshoreref04_Word
  have hlen : s.data.toList.length = s.size := by rw [Array.length_toList]; rfl
  have none' : ∀ w', Ch (fun _ => False) w w' → wordB (s.data.toList.drop k) = none → K (.tuple #[.string ⟨#[]⟩, .int .i64 0]) w' := fun w' hc h => hk _ _ hc (by rw [h]; rfl)
  obtain ⟨J, hJ⟩ : ∃ J : World → Prop, J = fun w' => w' = w ∧ ∃ t, s.data.toList.drop k = 34 :: t := ⟨_, rfl⟩
  refine ⟨J, ?_, ?_⟩
  · intro w1 hj
    rw [hJ] at hj
    obtain ⟨rfl, t, ht⟩ := hj
    have hlt : k < s.size := by
      have := congrArg List.length ht
      rw [List.length_drop, hlen] at this
      simp only [List.length_cons] at this; omega
    have hd1 : s.data.toList.drop (k + 1) = t := by
      rw [← List.drop_drop, ht]; rfl
    rw [ht, wordB_cons, if_pos rfl] at hk
    simp only [nameI]
    rw [wrap_id (n := (k : Int) + 1) (by omega) (by omega)]
    refine ⟨fun m p n c i w2 => ∃ q out b, k + 1 ≤ q ∧ q ≤ s.size ∧ i = (q : Int) ∧ m = s.size - q ∧ n = out.length ∧ out.length ≤ q ∧ Ow w2 p n c 1 (bytesV out) b ∧ (∀ z, b = some z → w1.heap.size ≤ z) ∧ Ch (fun _ => False) w1 w2 ∧ wd t = (wd (s.data.toList.drop q)).map fun p => (out ++ p.1, (q - (k + 1)) + p.2),
      ⟨s.size - (k + 1), k + 1, [], none, by omega, by omega, by omega, rfl, rfl, by simp, Ow.nil, fun z hz => (by cases hz), Ch.refl _ _, ?_⟩, ?_⟩
    · rw [hd1]; cases wd t <;> simp
    rintro m p n c i w2 ⟨q, out, b, hq1, hq2, rfl, rfl, rfl, hol, o2, hb2, c2, he⟩
    obtain ⟨J1, hJ1⟩ : ∃ J1 : World → Prop, J1 = fun w' => w' = w2 ∧ ∃ x u, s.data.toList.drop q = x :: u ∧ x ≠ 34 := ⟨_, rfl⟩
    refine ⟨J1, ?_, ?_⟩
    · intro w3 hj
      rw [hJ1] at hj
      obtain ⟨rfl, x, u, hu, hx⟩ := hj
      have hqlt : q < s.size := by
        have := congrArg List.length hu
        rw [List.length_drop, hlen] at this
        simp only [List.length_cons] at this; omega
      rw [hu, wd_cons, if_neg hx] at he
      refine ritem_ok hs hqlt hu hx fun v w4 c4 hv => ?_
      have o4 := o2.ch c4 fun _ _ h => h
      cases hi : item (x :: u) with
      | none =>
        rw [hi] at hv he
        refine ⟨_, _, hv, ?_⟩
        refine Sif_cases (fun _ => hk _ _ (c2.trans' c4) (by rw [he]; rfl)) (fun h => absurd h (by decide))
      | some r =>
        obtain ⟨y, n⟩ := r
        rw [hi] at hv he
        have hp := item_pos hi
        have hyl := item_len hi
        have hul : (x :: u).length = s.size - q := by rw [← hu, List.length_drop, hlen]
        rw [hul] at hp
        refine ⟨_, _, hv, ?_⟩
        refine Sif_cases (fun h => by have := of_decide_eq_true h; simp only at this; omega) (fun _ => ?_)
        refine rput_ok o4 ⟨y.toArray⟩ (by show out.length + y.length ≤ _; omega) fun p' c' w5 hg => ⟨p', _, c', rfl, ?_⟩
        obtain ⟨b5, o5, f5, d5⟩ := hg
        simp only [nameI]
        rw [wrap_id (n := (q : Int) + (n : Int)) (by omega) (by omega)]
        refine ⟨s.size - (q + n), by omega, q + n, out ++ y, b5, by omega, by omega, by omega, rfl, rfl, by rw [List.length_append]; omega, o5, fun z hz => ?_, ?_, ?_⟩
        · rcases f5 z hz with h | h
          · exact hb2 z h
          · have := c2.size; have := c4.size; omega
        · refine (c2.trans' c4).trans d5 fun z hz hs => ?_
          have := hb2 z hs; omega
        · rw [he, ← hu]
          have e : List.drop n (List.drop q s.data.toList) = s.data.toList.drop (q + n) := List.drop_drop ..
          simp only [e]
          cases wd (s.data.toList.drop (q + n)) with
          | none => rfl
          | some p => simp [List.append_assoc]; omega
    · have done : ∀ x u, s.data.toList.drop q = x :: u → x = 34 → ∃ s1, (convert 55 9 (.slice p out.length c)).run Tryz.prog w2 = .ok (.string s1) w2 ∧ nameI (IntKind.i64.wrap ((q : Int) + 1)) fun n3 => K (.tuple #[.string s1, .int .i64 n3]) w2 := by
        intro x u hu hx
        refine ⟨_, toString_run uBytes uByte uString o2.rd, ?_⟩
        simp only [nameI]
        rw [wrap_id (n := (q : Int) + 1) (by omega) (by omega)]
        refine hk _ _ c2 ?_
        rw [he, hu, wd_cons, if_pos hx]
        simp only [Option.map_some, WordR, List.append_nil]
        rw [show (q : Int) + 1 = ((k + (q - (k + 1) + 1 + 1) : Nat) : Int) by omega]
      have stop : ¬ q < s.size → K (.tuple #[.string ⟨#[]⟩, .int .i64 0]) w2 := by
        intro h
        refine hk _ _ c2 ?_
        rw [he, List.drop_of_length_le (by omega), wd_nil]
        rfl
      refine Sif_cases (fun h => ?_) (fun h => ?_)
      · have hlt' : q < s.size := by have := of_decide_eq_true h; omega
        obtain ⟨x, hx⟩ := get_lt s hlt'
        have hu : s.data.toList.drop q = x :: s.data.toList.drop (q + 1) := by
          rw [List.drop_eq_getElem_cons (by omega)]
          congr 1
          rw [List.getElem?_eq_getElem (by omega)] at hx
          exact Option.some.inj hx
        refine ⟨by omega, by omega, ?_⟩
        rw [Int.toNat_natCast, byteAt_get hx]
        have e34 : ((x.toNat : Int) != 34) = decide (x ≠ 34) := by
          by_cases h : x = 34
          · subst h; rfl
          · have : x.toNat ≠ 34 := fun e => h (UInt8.toNat_inj.1 e)
            simp [h, bne_iff_ne]; omega
        rw [e34]
        refine Sif_cases (fun h3 => ?_) (fun h3 => ?_)
        · rw [hJ1]
          exact ⟨rfl, x, _, hu, of_decide_eq_true h3⟩
        · have h3 : x = 34 := Decidable.not_not.1 (of_decide_eq_false h3)
          refine Sif_cases (fun h4 => by have := of_decide_eq_true h4; omega) (fun _ => ?_)
          exact done x _ hu h3
      · have hge : ¬ q < s.size := by have := of_decide_eq_false h; omega
        exact Sif_cases (fun _ => stop hge) (fun h4 => by have := of_decide_eq_false h4; omega)
  · refine Sif_cases (fun _ => ?_) (fun h => ?_)
    · refine Sif_cases (fun h => ?_) (fun h => ?_)
      · have hlt : k < s.size := by
          rw [Bool.not_eq_true'] at h
          have := of_decide_eq_false h; omega
        obtain ⟨x, hx⟩ := get_lt s hlt
        have hu : s.data.toList.drop k = x :: s.data.toList.drop (k + 1) := by
          rw [List.drop_eq_getElem_cons (by omega)]
          congr 1
          rw [List.getElem?_eq_getElem (by omega)] at hx
          exact Option.some.inj hx
        refine ⟨by omega, by omega, ?_⟩
        rw [Int.toNat_natCast, byteAt_get hx]
        have e34 : ((x.toNat : Int) != 34) = decide (x ≠ 34) := by
          by_cases h : x = 34
          · subst h; rfl
          · have : x.toNat ≠ 34 := fun e => h (UInt8.toNat_inj.1 e)
            simp [h, bne_iff_ne]; omega
        rw [e34]
        refine Sif_cases (fun h3 => ?_) (fun h3 => ?_)
        · refine none' _ (Ch.refl _ _) ?_
          rw [hu, wordB_cons, if_neg (of_decide_eq_true h3)]
        · have h3 : x = 34 := Decidable.not_not.1 (of_decide_eq_false h3)
          rw [hJ]
          exact ⟨rfl, _, by rw [hu, h3]⟩
      · refine none' _ (Ch.refl _ _) ?_
        rw [Bool.not_eq_false'] at h
        have := of_decide_eq_true h
        rw [List.drop_of_length_le (by omega)]; rfl
    · rw [Bool.not_eq_false'] at h
      have := of_decide_eq_true h; omega
theorem rUnquote_ok {s : ByteArray} (hs : s.size ≤ 2 ^ 40) {w : World} {K : Value → World → Prop}
    (hk : ∀ w', Ch (fun _ => False) w w' → (match wordB s.data.toList with
      | some p => if p.2 = s.size then K (.tuple #[.string ⟨p.1.toArray⟩, .bool true]) w' else K (.tuple #[.string ⟨#[]⟩, .bool false]) w'
      | none => K (.tuple #[.string ⟨#[]⟩, .bool false]) w')) : callP Tryz.prog 30 [.string s] w K := by
  apply ok_longshoreref04_Unquote
  unfold wp_longshoreref04_Unquote
  refine rWord_ok hs (k := 0) (by omega) fun v w1 c1 hv => ?_
  have hk := hk w1 c1
  rw [List.drop_zero] at hv
  cases ho : wordB s.data.toList with
  | none =>
    rw [ho] at hv hk
    refine ⟨_, _, hv, fun w2 => False, fun w2 h => h.elim, ?_⟩
    refine Sif_cases (fun h => absurd h (by decide)) (fun _ => hk)
  | some p =>
    rw [ho] at hv hk
    obtain ⟨y, n⟩ := p
    simp only at hk
    have hn : 1 ≤ n := by
      cases hl : s.data.toList with
      | nil => rw [hl] at ho; cases ho
      | cons x t =>
        rw [hl, wordB_cons] at ho
        split at ho
        · cases hw : wd t with
          | none => rw [hw] at ho; cases ho
          | some q =>
            rw [hw] at ho
            simp only [Option.map_some, Option.some.injEq, Prod.mk.injEq] at ho
            omega
        · cases ho
    refine ⟨_, _, hv, fun w2 => w2 = w1 ∧ n = s.size, ?_, ?_⟩
    · rintro w2 ⟨rfl, h⟩
      rw [if_pos h] at hk
      exact hk
    · simp only [Nat.zero_add]
      refine Sif_cases (fun _ => ?_) (fun h => ?_)
      · by_cases h : n = s.size
        · refine Sif_cases (fun h2 => absurd h2 (by simp [h])) (fun _ => ⟨by trivial, h⟩)
        · rw [if_neg h] at hk
          refine Sif_cases (fun _ => hk) (fun h2 => absurd h2 (by simp; omega))
      · rw [Bool.not_eq_false'] at h
        have := of_decide_eq_true h; omega
end Go.Proofs.YtnacobknngidkaaGreatDoor
namespace Go.Proofs.YtnacobknngidkaaGreatDoor
open Go Go.Sv Go.Note
set_option linter.unusedVariables false
attribute [local irreducible] Sif
theorem or32 (x : UInt8) : bitsV .or .u8 (x.toNat : Int) 32 = ((x.toNat ||| 32 : Nat) : Int) := by
  have h : ∀ x : Fin 256, bitsV .or .u8 (x.val : Int) 32 = ((x.val ||| 32 : Nat) : Int) := by decide +kernel
  exact h ⟨x.toNat, x.toNat_lt⟩
theorem digit_iff (x : UInt8) : ((48 ≤ x.toNat ∧ x.toNat ≤ 57) ∨ (97 ≤ x.toNat ||| 32 ∧ x.toNat ||| 32 ≤ 102)) ↔ (unhex x true).isSome = true := by
  have h : ∀ x : Fin 256, ((48 ≤ x.val ∧ x.val ≤ 57) ∨ (97 ≤ x.val ||| 32 ∧ x.val ||| 32 ≤ 102)) ↔ ((48 ≤ x.val ∧ x.val ≤ 57) ∨ (97 ≤ x.val ∧ x.val ≤ 102) ∨ (65 ≤ x.val ∧ x.val ≤ 70)) := by decide +kernel
  have := h ⟨x.toNat, x.toNat_lt⟩
  simp only at this
  rw [this]
  unfold unhex
  by_cases h1 : 48 ≤ x.toNat ∧ x.toNat ≤ 57
  · rw [if_pos h1]; simp [h1]
  · rw [if_neg h1]
    by_cases h2 : 97 ≤ x.toNat ∧ x.toNat ≤ 102
    · rw [if_pos h2]; simp [h2]
    · rw [if_neg h2]
      by_cases h3 : 65 ≤ x.toNat ∧ x.toNat ≤ 70
      · rw [if_pos ⟨rfl, h3⟩]; simp [h3]
      · rw [if_neg (fun h => h3 h.2)]; simp [h1, h2, h3]
theorem isDigit_ok {x : UInt8} {w : World} {K : Value → World → Prop} (hk : K (.bool (unhex x true).isSome) w) :
    callP Tryz.prog 133 [.int .u8 (x.toNat : Int)] w K := by
  apply ok_note_escape_1
  unfold wp_note_escape_1
  rw [or32]
  have hd := digit_iff x
  generalize x.toNat ||| 32 = z at hd ⊢
  generalize (unhex x true).isSome = b at hd hk
  generalize x.toNat = n at hd ⊢
  have yes : (48 ≤ n ∧ n ≤ 57) ∨ (97 ≤ z ∧ z ≤ 102) → K (.bool true) w := fun h => by rw [hd.1 h] at hk; exact hk
  have no : ¬ ((48 ≤ n ∧ n ≤ 57) ∨ (97 ≤ z ∧ z ≤ 102)) → K (.bool false) w := fun h => by
    cases b with
    | false => exact hk
    | true => exact absurd (hd.2 rfl) h
  have letters : ¬ (48 ≤ n ∧ n ≤ 57) → Sif (decide ((z : Int) ≥ 97)) (K (.bool (decide ((z : Int) ≤ 102))) w) (K (.bool false) w) := by
    intro hn
    refine Sif_cases (fun h => ?_) (fun h => ?_)
    · have h := of_decide_eq_true h
      by_cases h2 : z ≤ 102
      · rw [decide_eq_true (by omega)]; exact yes (.inr ⟨by omega, h2⟩)
      · rw [decide_eq_false (by omega)]; exact no (by omega)
    · have h := of_decide_eq_false h
      exact no (by omega)
  refine Sif_cases (fun h => ?_) (fun h => ?_)
  · have h := of_decide_eq_true h
    refine Sif_cases (fun h2 => ?_) (fun h2 => ?_)
    · rw [Bool.not_eq_true'] at h2
      have h2 := of_decide_eq_false h2
      exact letters (by omega)
    · rw [Bool.not_eq_false'] at h2
      have h2 := of_decide_eq_true h2
      exact yes (.inl ⟨by omega, by omega⟩)
  · have h := of_decide_eq_false h
    exact letters (by omega)
theorem nibble_ok {x : UInt8} {n : Nat} (hx : unhex x true = some n) {w : World} {K : Value → World → Prop} (hk : K (.int .i64 (n : Int)) w) :
    callP Tryz.prog 134 [.int .u8 (x.toNat : Int)] w K := by
  apply ok_note_nibble
  unfold wp_note_nibble
  refine (Tryz.strings_IndexByte _ _ _).mono ?_
  rintro e w' ⟨rfl, rfl⟩
  refine ⟨_, rfl, _, rfl, ?_⟩
  rw [or32]
  have h : ∀ x : Fin 256, (match unhex (UInt8.ofNat x.val) true with
    | some n => decide (Lib.indexByte (ByteArray.mk (Array.mk [(48 : UInt8), 49, 50, 51, 52, 53, 54, 55, 56, 57, 97, 98, 99, 100, 101, 102])).data.toList ((x.val ||| 32 : Nat) : Int).toNat.toUInt8 = (n : Int))
    | none => true) = true := by decide +kernel
  have h1 := h ⟨x.toNat, x.toNat_lt⟩
  simp only [UInt8.ofNat_toNat] at h1
  rw [hx] at h1
  have h2 := of_decide_eq_true h1
  rw [h2]
  exact hk
def SlR (o : Option (UInt8 × Nat)) (v : Value) : Prop :=
  match o with
  | none => v = .tuple #[.int .u8 0, .int .i64 0]
  | some p => v = .tuple #[.int .u8 (p.1.toNat : Int), .int .i64 (p.2 : Int)]
theorem byte_eq (y : UInt8) (n : Nat) (hn : n < 256) : ((y.toNat : Int) == (n : Int)) = decide (y = n.toUInt8) := by
  have : (y = n.toUInt8) ↔ y.toNat = n := by
    rw [← UInt8.toNat_inj]
    simp only [Nat.toUInt8, UInt8.toNat_ofNat']
    omega
  by_cases h : y.toNat = n
  · rw [h, decide_eq_true (this.2 h)]; simp
  · rw [decide_eq_false (fun e => h (this.1 e))]; simp; omega
theorem bits_orN (m n : Nat) (hm : m < 16) (hn : n < 16) : IntKind.wrap .u8 (bitsV .or .i64 (IntKind.i64.wrap ((m : Int) * 2 ^ 4)) (n : Int)) = ((16 * m + n).toUInt8.toNat : Int) := by
  have h : ∀ m n : Fin 16, IntKind.wrap .u8 (bitsV .or .i64 (IntKind.i64.wrap ((m.val : Int) * 2 ^ 4)) (n.val : Int)) = ((16 * m.val + n.val).toUInt8.toNat : Int) := by decide +kernel
  exact h ⟨m, hm⟩ ⟨n, hn⟩
theorem escape_ok {s : ByteArray} {x : UInt8} {t : List UInt8} (hl : s.data.toList = x :: t) {w : World} {K : Value → World → Prop}
    (hk : ∀ v w', Ch (fun _ => False) w w' → SlR (slashed t) v → K v w') : callP Tryz.prog 95 [.string s] w K := by
  apply ok_note_escape
  unfold wp_note_escape
  have hsz : s.size = t.length + 1 := by rw [size_of hl]; rfl
  obtain ⟨J, hJ⟩ : ∃ J : World → Prop, J = fun w' => Ch (fun _ => False) w w' ∧ slashed t = none := ⟨_, rfl⟩
  refine ⟨J, fun w' hj => by rw [hJ] at hj; exact hk _ _ hj.1 (by rw [hj.2]; rfl), ?_⟩
  have toJ : ∀ w', Ch (fun _ => False) w w' → slashed t = none → J w' := fun w' hc h => by rw [hJ]; exact ⟨hc, h⟩
  refine Sif_cases (fun h => ?_) (fun h => ?_)
  · have h := of_decide_eq_true h
    have : t = [] := List.eq_nil_of_length_eq_zero (by omega)
    exact toJ w (Ch.refl _ _) (by rw [this]; rfl)
  · have h := of_decide_eq_false h
    obtain ⟨y, t', rfl⟩ : ∃ y t', t = y :: t' := by
      cases t with
      | nil => simp at hsz; omega
      | cons y t' => exact ⟨y, t', rfl⟩
    have hR1 : byteAt s 1 = (y.toNat : Int) := byteAt_get (by rw [hl]; rfl)
    rw [hR1]
    simp only [List.length_cons] at hsz
    have y34 : ((y.toNat : Int) == 34) = decide (y = 34) := byte_eq y 34 (by omega)
    have y92 : ((y.toNat : Int) == 92) = decide (y = 92) := byte_eq y 92 (by omega)
    have y110 : ((y.toNat : Int) == 110) = decide (y = 110) := byte_eq y 110 (by omega)
    have y120 : ((y.toNat : Int) == 120) = decide (y = 120) := byte_eq y 120 (by omega)
    rw [y34, y92, y110, y120]
    simp only [nameI]
    have same : (y = 34 ∨ y = 92) → K (.tuple #[.int .u8 (y.toNat : Int), .int .i64 2]) w := fun hy => hk _ _ (Ch.refl _ _) (by simp only [slashed]; rw [if_pos hy]; rfl)
    refine ⟨by omega, by omega, ?_⟩
    refine Sif_cases (fun h1 => ?_) (fun h1 => ?_)
    · rw [Bool.not_eq_true'] at h1
      have h1 := of_decide_eq_false h1
      refine ⟨by omega, by omega, ?_⟩
      refine Sif_cases (fun h2 => ⟨by omega, by omega, same (.inr (of_decide_eq_true h2))⟩) (fun h2 => ?_)
      have h2 := of_decide_eq_false h2
      have hj : ¬ (y = 34 ∨ y = 92) := fun h => h.elim h1 h2
      refine ⟨by omega, by omega, ?_⟩
      refine Sif_cases (fun h3 => ?_) (fun h3 => ?_)
      · have h3 := of_decide_eq_true h3
        exact hk _ _ (Ch.refl _ _) (by simp only [slashed]; rw [if_neg hj, if_pos h3]; rfl)
      have h3 := of_decide_eq_false h3
      refine ⟨by omega, by omega, ?_⟩
      refine Sif_cases (fun h5 => ?_) (fun h5 => toJ w (Ch.refl _ _) ?_)
      · have h5 := of_decide_eq_true h5
        refine Sif_cases (fun h4 => ?_) (fun h4 => toJ w (Ch.refl _ _) ?_)
        · have h4 := of_decide_eq_true h4
          obtain ⟨a, b, u, rfl⟩ : ∃ a b u, t' = a :: b :: u := by
            rcases t' with _ | ⟨a, _ | ⟨b, u⟩⟩
            · simp at hsz; omega
            · simp at hsz; omega
            · exact ⟨a, b, u, rfl⟩
          have hR2 : byteAt s 2 = (a.toNat : Int) := byteAt_get (by rw [hl]; rfl)
          have hR3 : byteAt s 3 = (b.toNat : Int) := byteAt_get (by rw [hl]; rfl)
          rw [hR2, hR3]
          have sl : slashed (y :: a :: b :: u) = match unhex a true, unhex b true with
            | some m, some n => some ((16 * m + n).toUInt8, 4)
            | _, _ => none := by
            simp only [slashed]; rw [if_neg hj, if_neg h3, if_pos h5]
            cases unhex a true <;> cases unhex b true <;> rfl
          have lt16 : ∀ z n, unhex z true = some n → n < 16 := by
            intro z n h
            unfold unhex at h
            split at h
            · cases h; omega
            · split at h
              · cases h; omega
              · split at h
                · cases h; omega
                · cases h
          refine ⟨by omega, by omega, (by kernel_rfl), isDigit_ok ⟨_, rfl, ?_⟩⟩
          cases ha : unhex a true with
          | none =>
            refine Sif_cases (fun h => absurd h (by decide)) (fun _ => toJ w (Ch.refl _ _) ?_)
            rw [sl, ha]
          | some m =>
            refine Sif_cases (fun _ => ?_) (fun h => absurd h (by simp))
            refine ⟨by omega, by omega, (by kernel_rfl), isDigit_ok ⟨_, rfl, ?_⟩⟩
            cases hb : unhex b true with
            | none =>
              refine Sif_cases (fun h => absurd h (by decide)) (fun _ => toJ w (Ch.refl _ _) ?_)
              rw [sl, ha, hb]
            | some n =>
              refine Sif_cases (fun _ => ?_) (fun h => absurd h (by simp))
              refine ⟨by omega, by omega, by omega, by omega, nibble_ok ha ⟨_, rfl, by omega, nibble_ok hb ⟨_, rfl, ?_⟩⟩⟩
              rw [bits_orN m n (lt16 a m ha) (lt16 b n hb)]
              exact hk _ _ (Ch.drew w) (by rw [sl, ha, hb]; rfl)
        · have h4 := of_decide_eq_false h4
          simp only [slashed]; rw [if_neg hj, if_neg h3]
          rcases t' with _ | ⟨a, _ | ⟨b, u⟩⟩
          · simp
          · simp
          · simp at hsz; omega
      · have h5 := of_decide_eq_false h5
        simp only [slashed]; rw [if_neg hj, if_neg h3, if_neg h5]
    · rw [Bool.not_eq_false'] at h1
      exact ⟨by omega, by omega, same (.inl (of_decide_eq_true h1))⟩
def UT (w : World) : Prop := Lib.Utf8Tabs 0 1 w
theorem ch_of_below {w w' : World} (h : RowKit.Below w.heap.size w w') : Ch (fun _ => False) w w' := ⟨h.os, h.tape, h.output, h.size, fun b hb _ => h.block b hb⟩
theorem word_ok {s : ByteArray} (hs : s.size ≤ 2 ^ 40) {x0 : UInt8} {t : List UInt8} (hl : s.data.toList = x0 :: t) (h34 : x0 = 34) {w : World} (hU : UT w) (hw2 : 2 ≤ w.heap.size) {K : Value → World → Prop}
    (hk : ∀ v w', Ch (fun _ => False) w w' → WordR 0 (wordB s.data.toList) v → K v w') : callP Tryz.prog 58 [.string s] w K := by
  apply ok_note_word
  unfold wp_note_word
  subst h34
  have hlen : s.data.toList.length = s.size := by rw [Array.length_toList]; rfl
  have hsz : s.size = t.length + 1 := by rw [size_of hl]; rfl
  have hT : BT TB := .inl rfl
  rw [hl, wordB_cons, if_pos rfl] at hk
  unfold newB
  have hB0 : BAt (w.alloc (.cells [Value.pointer none, Value.slice none 0 0].toArray 57)) TB w.heap.size [] none := BAt.new
  have c0 : Ch (fun _ => False) w (w.alloc (.cells [Value.pointer none, Value.slice none 0 0].toArray 57)) := alloc_ch w _
  generalize w.alloc (.cells [Value.pointer none, Value.slice none 0 0].toArray 57) = w1 at hB0 c0 ⊢
  have hd1 : s.data.toList.drop 1 = t := by rw [hl]; rfl
  refine ⟨fun m i w2 => ∃ q out g, 1 ≤ q ∧ q ≤ s.size ∧ i = ((q : Nat) : Int) ∧ m = s.size - q ∧ out.length ≤ q ∧ BAt w2 TB w.heap.size out g ∧ (∀ z, g = some z → w.heap.size ≤ z) ∧ Ch (fun _ => False) w w2 ∧ wd t = (wd (s.data.toList.drop q)).map fun p => (out ++ p.1, (q - 1) + p.2),
    ⟨s.size - 1, 1, [], none, by omega, by omega, rfl, rfl, by simp, hB0, fun z hz => (by cases hz), c0, ?_⟩, ?_⟩
  · rw [hd1]; cases wd t <;> simp
  rintro m i w2 ⟨q, out, g, hq1, hq2, rfl, rfl, hol, B2, hg2, c2, he⟩
  have none' : ∀ w', Ch (fun _ => False) w w' → wd t = none → K (.tuple #[.string ⟨#[]⟩, .int .i64 0]) w' := fun w' hc h => hk _ _ hc (by rw [h]; rfl)
  have UT' : ∀ w', Ch (fun _ => False) w w' → UT w' := by
    intro w' hc
    have e : ∀ b o, b < 2 → w'.cell? ⟨b, o, none⟩ = w.cell? ⟨b, o, none⟩ := fun b o hb => World.cell?_of_block (a := ⟨b, o, none⟩) (hc.keep b (by omega) fun h => h)
    refine ⟨fun c hcc => by rw [e _ _ (by omega)]; exact hU.1 c hcc, fun i hi => ?_⟩
    rw [e _ _ (by omega), e _ _ (by omega)]
    exact hU.2 i hi
  refine Sif_cases (fun h => ?_) (fun h => ?_)
  · have hlt : q < s.size := by have := of_decide_eq_true h; omega
    obtain ⟨x, hx⟩ := get_lt s hlt
    have hu : s.data.toList.drop q = x :: s.data.toList.drop (q + 1) := by
      rw [List.drop_eq_getElem_cons (by omega)]
      congr 1
      rw [List.getElem?_eq_getElem (by omega)] at hx
      exact Option.some.inj hx
    generalize s.data.toList.drop (q + 1) = u at hu
    have hul : (x :: u).length = s.size - q := by rw [← hu, List.length_drop, hlen]
    refine ⟨by omega, by omega, ?_⟩
    simp only [nameI]
    rw [Int.toNat_natCast, byteAt_get hx]
    have x34 : ((x.toNat : Int) == 34) = decide (x = 34) := byte_eq x 34 (by omega)
    have x92 : ((x.toNat : Int) == 92) = decide (x = 92) := byte_eq x 92 (by omega)
    rw [x34, x92]
    have hb := B2.lt
    have hbw : ∀ w3 out', BW w2 w3 TB w.heap.size out' g → ∃ g', BAt w3 TB w.heap.size out' g' ∧ (∀ z, g' = some z → w.heap.size ≤ z) ∧ Ch (fun _ => False) w w3 := by
      rintro w3 out' ⟨g', A', n', c'⟩
      refine ⟨g', A', fun z hz => ?_, c2.trans c' fun y hy hs => ?_⟩
      · rcases n' z hz with h | h
        · exact hg2 z h
        · have := c2.size; omega
      · rcases hs with h | h
        · omega
        · have := hg2 y h; omega
    refine Sif_cases (fun h1 => ?_) (fun h1 => ?_)
    · have h1 := of_decide_eq_true h1
      refine String_ok B2 (by omega) fun w3 c3 => ⟨_, rfl, ?_⟩
      rw [wrap_id (n := (q : Int) + 1) (by omega) (by omega)]
      refine hk _ _ (c2.trans c3 fun y hy hs => by have := hg2 y hs; omega) ?_
      rw [he, hu, wd_cons, if_pos h1]
      simp only [Option.map_some, WordR, List.append_nil]
      rw [show (q : Int) + 1 = ((0 + (q - 1 + 1 + 1) : Nat) : Int) by omega]
    have h1 := of_decide_eq_false h1
    rw [hu, wd_cons, if_neg h1] at he
    -- an item was read
    have fin : ∀ w3 y n, item (x :: u) = some (y, n) → BW w2 w3 TB w.heap.size (out ++ y) g → ∃ m', m' < s.size - q ∧ ∃ q' out' g', 1 ≤ q' ∧ q' ≤ s.size ∧ (q : Int) + (n : Int) = ((q' : Nat) : Int) ∧ m' = s.size - q' ∧ out'.length ≤ q' ∧ BAt w3 TB w.heap.size out' g' ∧ (∀ z, g' = some z → w.heap.size ≤ z) ∧ Ch (fun _ => False) w w3 ∧ wd t = (wd (s.data.toList.drop q')).map fun p => (out' ++ p.1, (q' - 1) + p.2) := by
      intro w3 y n hi hB
      obtain ⟨g', A', n', c'⟩ := hbw w3 _ hB
      have hp := item_pos hi
      have hyl := item_len hi
      rw [hul] at hp
      refine ⟨s.size - (q + n), by omega, q + n, out ++ y, g', by omega, by omega, by omega, rfl, by rw [List.length_append]; omega, A', n', c', ?_⟩
      rw [he, hi, ← hu]
      have e : List.drop n (List.drop q s.data.toList) = s.data.toList.drop (q + n) := List.drop_drop ..
      simp only [e]
      cases wd (s.data.toList.drop (q + n)) with
      | none => rfl
      | some p => simp [List.append_assoc]; omega
    have bad : ∀ w', Ch (fun _ => False) w2 w' → item (x :: u) = none → K (.tuple #[.string ⟨#[]⟩, .int .i64 0]) w' := by
      intro w' hc hi
      refine none' w' (c2.trans' hc) ?_
      rw [he, hi]; rfl
    have hR : (s.extract q s.size).data.toList = x :: u := by
      rw [extract_data, hu, List.take_of_length_le (by omega)]
    refine Sif_cases (fun h2 => ?_) (fun h2 => ?_)
    · have h2 := of_decide_eq_true h2
      refine ⟨by omega, by omega, ?_⟩
      refine escape_ok hR fun v w3 c3 hv => ?_
      have hit : item (x :: u) = (slashed u).map fun p => ([p.1], p.2) := by simp only [item]; rw [if_pos h2]
      cases hsl : slashed u with
      | none =>
        rw [hsl] at hv hit
        exact ⟨_, _, hv, Sif_cases (fun _ => bad w3 c3 hit) (fun h => absurd h (by decide))⟩
      | some p =>
        obtain ⟨z, n⟩ := p
        rw [hsl] at hv hit
        have hp := item_pos hit
        refine ⟨_, _, hv, Sif_cases (fun h => ?_) (fun _ => ?_)⟩
        · have := eq_of_beq h; simp only at this; omega
        · have B3 := B2.ch c3 (fun h => h) fun _ _ h => h
          refine WriteByte_ok B3 hT z (by omega) fun w4 B4 => ⟨_, rfl, ?_⟩
          rw [hul] at hp
          simp only
          rw [wrap_id (n := (q : Int) + (n : Int)) (by omega) (by omega)]
          refine fin w4 [z] n hit ?_
          exact BW.trans hb (c3.mono fun _ _ h => h.elim) (fun k hk => .inl hk) B4
    · have h2 := of_decide_eq_false h2
      refine ⟨by omega, by omega, ?_⟩
      have hRs : (s.extract q s.size).size = u.length + 1 := by rw [size_of hR]; rfl
      refine (Tryz.utf8_DecodeRuneInString _ w2 (UT' w2 c2)).mono ?_
      rintro e w3 ⟨rfl, hbel⟩
      have c3 := ch_of_below hbel
      obtain ⟨rr, n, hdec, hsp⟩ : ∃ rr n, Lib.decodeGo (s.extract q s.size) = (rr, n) ∧ ((chr (x :: u) = 0 ∧ rr = 65533 ∧ n = 1) ∨ (Says (x :: u) rr n ∧ n ≠ 0)) := by
        unfold Lib.decodeGo
        rw [if_neg (by omega)]
        rcases decode_says (s := s.extract q s.size) (i := 0) (by omega) with ⟨h1, h2⟩ | ⟨r, n, h1, h2, h3⟩
        · exact ⟨_, _, h2, .inl ⟨by rw [List.drop_zero, hR] at h1; exact h1, rfl, rfl⟩⟩
        · exact ⟨_, _, h1, .inr ⟨by rw [List.drop_zero, hR] at h2; exact h2, h3⟩⟩
      rw [hdec]
      refine ⟨_, rfl, _, _, rfl, ?_⟩
      have hit : item (x :: u) = if x.toNat < 32 ∨ chr (x :: u) = 0 then none else some ((x :: u).take (chr (x :: u)), chr (x :: u)) := by simp only [item]; rw [if_neg h2]
      obtain ⟨J, hJ⟩ : ∃ J : World → Prop, J = fun w' => w' = w3 ∧ n = chr (x :: u) ∧ n ≠ 0 ∧ ¬ x.toNat < 32 := ⟨_, rfl⟩
      have small : Says (x :: u) rr n → (rr < 32 ↔ x.toNat < 32) ∧ (rr = 65533 → n ≠ 1) := by
        rintro ⟨hch, he2, _, _, h5⟩
        have big : n ≠ 1 → 127 < x.toNat := fun hn => by
          have hc := chr_ch (x :: u)
          have e0 : ch (x :: u) 0 = x.toNat := rfl
          by_cases hle : x.toNat ≤ 127
          · rw [if_pos (by rw [e0]; exact hle)] at hc; omega
          · omega
        rcases h5 with ⟨hn, h, hh⟩ | ⟨hn, h, h', a, b, t2, e, _, ha1, _⟩ | ⟨hn, h, h'⟩ | ⟨hn, h⟩
        · have : x.toNat = rr := by simpa using hh
          omega
        all_goals
          have := big (by omega)
          omega
      refine ⟨J, ?_, ?_⟩
      · intro w4 hj
        rw [hJ] at hj
        obtain ⟨rfl, hn, hn0, hx32⟩ := hj
        have hcl := chr_le (x :: u)
        rw [hul] at hcl
        rw [wrap_id (n := (q : Int) + (n : Int)) (by omega) (by omega)]
        refine ⟨by omega, by omega, by omega, by omega, ?_⟩
        rw [show ((q : Int) + (n : Int)).toNat = q + n by omega]
        have hE : (s.extract q (q + n)).data.toList = (x :: u).take n := by rw [extract_data, hu, Nat.add_sub_cancel_left]
        have B3 := B2.ch c3 (fun h => h) fun _ _ h => h
        refine WriteString_ok B3 hT _ (by rw [size_of hE, List.length_take]; omega) fun w5 B5 => ⟨_, _, rfl, ?_⟩
        rw [hE] at B5
        refine fin w5 ((x :: u).take n) n ?_ (BW.trans hb (c3.mono fun _ _ h => h.elim) (fun k hk => .inl hk) B5)
        rw [hit, if_neg (by omega), hn]
      · rcases hsp with ⟨h3, rfl, rfl⟩ | ⟨h3, h4⟩
        · refine Sif_cases (fun _ => ?_) (fun h => absurd h (by decide))
          refine Sif_cases (fun _ => ?_) (fun h => absurd h (by decide))
          refine Sif_cases (fun _ => ?_) (fun h => absurd h (by decide))
          exact bad w3 c3 (by rw [hit, if_pos (.inr h3)])
        · obtain ⟨s1, s2⟩ := small h3
          have toJ : ¬ x.toNat < 32 → J w3 := fun h => by rw [hJ]; exact ⟨rfl, h3.1, h4, h⟩
          refine Sif_cases (fun h => ?_) (fun h => ?_)
          · rw [Bool.not_eq_true'] at h
            have h := of_decide_eq_false h
            have hx32 : ¬ x.toNat < 32 := by omega
            refine Sif_cases (fun h5 => ?_) (fun _ => toJ hx32)
            refine Sif_cases (fun h6 => ?_) (fun _ => toJ hx32)
            have h5 := eq_of_beq h5
            have h6 := eq_of_beq h6
            exact absurd (show n = 1 by omega) (s2 (by omega))
          · rw [Bool.not_eq_false'] at h
            have h := of_decide_eq_true h
            exact bad w3 c3 (by rw [hit, if_pos (.inl (by omega))])
  · have hge : ¬ q < s.size := by have := of_decide_eq_false h; omega
    refine none' w2 c2 ?_
    rw [he, List.drop_of_length_le (by omega), wd_nil]; rfl
theorem Unquote_ok {s : ByteArray} (hs : s.size ≤ 2 ^ 40) {w : World} (hU : UT w) (hw2 : 2 ≤ w.heap.size) {K : Value → World → Prop}
    (hk : ∀ w', Ch (fun _ => False) w w' → (match wordB s.data.toList with
      | some p => if p.2 = s.size then K (.tuple #[.string ⟨p.1.toArray⟩, .bool true]) w' else K (.tuple #[.string ⟨#[]⟩, .bool false]) w'
      | none => K (.tuple #[.string ⟨#[]⟩, .bool false]) w')) : callP Tryz.prog 28 [.string s] w K := by
  apply ok_note_Unquote
  unfold wp_note_Unquote
  refine (Tryz.strings_HasPrefix _ _ _).mono ?_
  rintro e w' ⟨rfl, rfl⟩
  refine ⟨_, rfl, _, rfl, ?_⟩
  have hp : Lib.hasPrefix s.data.toList (ByteArray.mk (Array.mk [(34 : UInt8)])).data.toList = true ↔ ∃ t, s.data.toList = 34 :: t := by
    unfold Lib.hasPrefix
    cases s.data.toList with
    | nil => simp [List.isPrefixOf]
    | cons x t =>
      constructor
      · intro h
        have h1 : ((34 : UInt8) == x) = true := by
          simp only [List.isPrefixOf, Bool.and_true] at h; exact h
        exact ⟨t, by rw [← eq_of_beq h1]⟩
      · rintro ⟨t2, h⟩
        cases h
        rfl
  refine Sif_cases (fun h => ?_) (fun h => ?_)
  · have hno : ¬ ∃ t, s.data.toList = 34 :: t := fun h2 => by rw [hp.2 h2] at h; cases h
    have := hk w' (Ch.refl _ _)
    have hn : wordB s.data.toList = none := by
      cases hl : s.data.toList with
      | nil => rfl
      | cons x t =>
        rw [wordB_cons]
        rw [if_neg (fun e => hno ⟨t, by rw [hl, e]⟩)]
    rw [hn] at this
    exact this
  · obtain ⟨t, ht⟩ := hp.1 (by rw [Bool.not_eq_false'] at h; exact h)
    refine word_ok hs ht rfl hU hw2 fun v w1 c1 hv => ?_
    have hk := hk w1 c1
    cases ho : wordB s.data.toList with
    | none =>
      rw [ho] at hv hk
      refine ⟨_, _, hv, ?_⟩
      refine Sif_cases (fun _ => hk) (fun h2 => absurd h2 (by
        have : s.size = t.length + 1 := by rw [size_of ht]; rfl
        simp; omega))
    | some p =>
      rw [ho] at hv hk
      refine ⟨_, _, hv, ?_⟩
      simp only [Nat.zero_add]
      by_cases h3 : p.2 = s.size
      · simp only [if_pos h3] at hk
        exact Sif_cases (fun h2 => absurd h2 (by simp [h3])) (fun _ => hk)
      · simp only [if_neg h3] at hk
        exact Sif_cases (fun _ => hk) (fun h2 => absurd h2 (by simp; omega))
end Go.Proofs.YtnacobknngidkaaGreatDoor
namespace Go.Proofs.YtnacobknngidkaaGreatDoor
open Go Go.Sv Go.Note
set_option linter.unusedVariables false
attribute [local irreducible] Sif
theorem UT.ch {w w' : World} (hU : UT w) (hw2 : 2 ≤ w.heap.size) {S : Nat → Prop} (hc : Ch S w w') (h0 : ¬ S 0) (h1 : ¬ S 1) : UT w' := by
  have e : ∀ b o, b < 2 → w'.cell? ⟨b, o, none⟩ = w.cell? ⟨b, o, none⟩ := fun b o hb => World.cell?_of_block (a := ⟨b, o, none⟩) (hc.keep b (by omega) (by
    match b, hb with
    | 0, _ => exact h0
    | 1, _ => exact h1))
  refine ⟨fun c hcc => by rw [e _ _ (by omega)]; exact hU.1 c hcc, fun i hi => ?_⟩
  rw [e _ _ (by omega), e _ _ (by omega)]
  exact hU.2 i hi
theorem oUtf8_ok {s : ByteArray} (hs : s.size ≤ 2 ^ 48) {w : World} (hU : UT w) (hw2 : 2 ≤ w.heap.size) {K : Value → World → Prop} (hk : ∀ r w', Ch (fun _ => False) w w' → Place (textB s.data.toList) r → K (.int .i64 r) w') :
    callP Tryz.prog 116 [.string s] w K := by
  apply ok_octet_Utf8
  unfold wp_octet_Utf8
  have hlen : s.data.toList.length = s.size := by rw [Array.length_toList]; rfl
  refine ⟨fun m i w' => ∃ k, k ≤ s.size ∧ i = (k : Int) ∧ m = s.size - k ∧ Ch (fun _ => False) w w' ∧ textB s.data.toList = textB (s.data.toList.drop k), ⟨s.size, 0, by omega, rfl, by omega, Ch.refl _ _, by rw [List.drop_zero]⟩, ?_⟩
  rintro m i w1 ⟨k, hk1, rfl, rfl, c1, he⟩
  refine Sif_cases (fun h => ?_) (fun h => ?_)
  · have hlt : k < s.size := by have := of_decide_eq_true h; omega
    refine ⟨by omega, by omega, ?_⟩
    rw [Int.toNat_natCast]
    obtain ⟨l, hl⟩ : ∃ l, l = s.data.toList.drop k := ⟨_, rfl⟩
    have hll : l.length = s.size - k := by rw [hl, List.length_drop, hlen]
    have hne : l ≠ [] := fun e => by rw [e] at hll; simp only [List.length_nil] at hll; omega
    have hR : (s.extract k s.size).data.toList = l := by rw [extract_data, hl, List.take_of_length_le (by rw [List.length_drop, hlen]; omega)]
    have hRs : (s.extract k s.size).size = l.length := size_of hR
    have hle := chr_le l
    refine (Tryz.utf8_DecodeRuneInString _ w1 (hU.ch hw2 c1 (fun h => h) fun h => h)).mono ?_
    rintro e w3 ⟨rfl, hbel⟩
    have c3 := ch_of_below hbel
    obtain ⟨rr, n, hdec, hsp⟩ : ∃ rr n, Lib.decodeGo (s.extract k s.size) = (rr, n) ∧ ((chr l = 0 ∧ rr = 65533 ∧ n = 1) ∨ (Says l rr n ∧ n ≠ 0)) := by
      unfold Lib.decodeGo
      rw [if_neg (by omega)]
      rcases decode_says (s := s.extract k s.size) (i := 0) (by omega) with ⟨h1, h2⟩ | ⟨r, n, h1, h2, h3⟩
      · exact ⟨_, _, h2, .inl ⟨by rw [List.drop_zero, hR] at h1; exact h1, rfl, rfl⟩⟩
      · exact ⟨_, _, h1, .inr ⟨by rw [List.drop_zero, hR] at h2; exact h2, h3⟩⟩
    rw [hdec]
    refine ⟨_, rfl, _, _, rfl, ?_⟩
    rw [← hl, textB_cons l hne] at he
    obtain ⟨J, hJ⟩ : ∃ J : World → Prop, J = fun w' => w' = w3 ∧ n = chr l ∧ n ≠ 0 := ⟨_, rfl⟩
    refine ⟨J, ?_, ?_⟩
    · intro w4 hj
      rw [hJ] at hj
      obtain ⟨rfl, hn, hn0⟩ := hj
      simp only [nameI]
      rw [wrap_id (n := (k : Int) + (n : Int)) (by omega) (by omega)]
      refine ⟨s.size - (k + n), by omega, k + n, by omega, by omega, rfl, c1.trans' c3, ?_⟩
      rw [he, hl, List.drop_drop, ← hl, ← hn]
      simp [hn0]
    · rcases hsp with ⟨h1, rfl, rfl⟩ | ⟨h1, h2⟩
      · refine Sif_cases (fun _ => ?_) (fun h => absurd h (by decide))
        refine Sif_cases (fun _ => ?_) (fun h => absurd h (by decide))
        rw [h1] at he
        simp at he
        exact hk _ _ (c1.trans' c3) ⟨fun h => (by rw [he] at h; cases h), fun _ => by omega⟩
      · have toJ : J w3 := by rw [hJ]; exact ⟨rfl, h1.1, h2⟩
        refine Sif_cases (fun h3 => ?_) (fun _ => toJ)
        refine Sif_cases (fun h4 => ?_) (fun _ => toJ)
        have h3 := eq_of_beq h3
        have h4 := eq_of_beq h4
        obtain ⟨_, _, _, _, h5⟩ := h1
        rcases h5 with ⟨_, h, _⟩ | ⟨h, _⟩ | ⟨h, _⟩ | ⟨h, _⟩ <;> omega
  · have : k = s.size := by have := of_decide_eq_false h; omega
    subst this
    rw [List.drop_of_length_le (by omega), textB_nil] at he
    exact hk _ _ c1 ⟨fun _ => rfl, fun h => (by rw [he] at h; cases h)⟩
theorem oAscii_ok {s : ByteArray} (hs : s.size ≤ 2 ^ 48) {w : World} {K : Value → World → Prop} (hk : ∀ r, Place (asciiB s.data.toList) r → K (.int .i64 r) w) :
    callP Tryz.prog 117 [.string s] w K := by
  apply ok_octet_Ascii
  unfold wp_octet_Ascii
  have hlen : s.data.toList.length = s.size := by rw [Array.length_toList]; rfl
  refine ⟨fun m i w' => ∃ k, k ≤ s.size ∧ i = (k : Int) ∧ m = s.size - k ∧ w' = w ∧ asciiB s.data.toList = asciiB (s.data.toList.drop k), ⟨s.size, 0, by omega, rfl, by omega, rfl, by rw [List.drop_zero]⟩, ?_⟩
  rintro m i w' ⟨k, hk1, rfl, rfl, rfl, he⟩
  refine Sif_cases (fun h => ?_) (fun h => ?_)
  · have hlt : k < s.size := by have := of_decide_eq_true h; omega
    obtain ⟨x, hx⟩ := get_lt s hlt
    have hd : s.data.toList.drop k = x :: s.data.toList.drop (k + 1) := by
      rw [List.drop_eq_getElem_cons (by omega)]
      congr 1
      rw [List.getElem?_eq_getElem (by omega)] at hx
      exact Option.some.inj hx
    refine ⟨by omega, by omega, ?_⟩
    rw [Int.toNat_natCast, byteAt_get hx]
    rw [hd] at he
    unfold asciiB at he
    rw [List.all_cons] at he
    refine Sif_cases (fun h1 => ?_) (fun h1 => ?_)
    · have h2 : ¬ x.toNat ≤ 127 := by have := of_decide_eq_true h1; omega
      rw [decide_eq_false h2, Bool.false_and] at he
      exact hk _ ⟨fun h => (by unfold asciiB at h; rw [he] at h; cases h), fun _ => by omega⟩
    · have h2 : x.toNat ≤ 127 := by have := of_decide_eq_false h1; omega
      rw [decide_eq_true h2, Bool.true_and] at he
      refine ⟨s.size - (k + 1), by omega, k + 1, by omega, ?_, rfl, rfl, he⟩
      rw [wrap_id (n := (k : Int) + 1) (by omega) (by omega)]; omega
  · have : k = s.size := by have := of_decide_eq_false h; omega
    subst this
    rw [List.drop_of_length_le (by omega)] at he
    exact hk _ ⟨fun _ => rfl, fun h => (by rw [he] at h; cases h)⟩
end Go.Proofs.YtnacobknngidkaaGreatDoor
namespace Go.Proofs.YtnacobknngidkaaGreatDoor
open Go Go.Sv Go.Note
set_option linter.unusedVariables false
attribute [local irreducible] Sif
def nameV : List Value := [.string (ByteArray.mk (Array.mk [(110 : UInt8), 117, 108, 108])), .string (ByteArray.mk (Array.mk [(98 : UInt8), 111, 111, 108])), .string (ByteArray.mk (Array.mk [(117 : UInt8), 98, 121, 116, 101])), .string (ByteArray.mk (Array.mk [(117 : UInt8), 115, 104, 111, 114, 116])), .string (ByteArray.mk (Array.mk [(117 : UInt8), 105, 110, 116])), .string (ByteArray.mk (Array.mk [(117 : UInt8), 108, 111, 110, 103])), .string (ByteArray.mk (Array.mk [(98 : UInt8), 121, 116, 101])), .string (ByteArray.mk (Array.mk [(115 : UInt8), 104, 111, 114, 116])), .string (ByteArray.mk (Array.mk [(105 : UInt8), 110, 116])), .string (ByteArray.mk (Array.mk [(108 : UInt8), 111, 110, 103])), .string (ByteArray.mk (Array.mk [(102 : UInt8), 108, 111, 97, 116])), .string (ByteArray.mk (Array.mk [(100 : UInt8), 111, 117, 98, 108, 101])), .string (ByteArray.mk (Array.mk [(100 : UInt8), 101, 99, 51, 50])), .string (ByteArray.mk (Array.mk [(100 : UInt8), 101, 99, 54, 52])), .string (ByteArray.mk (Array.mk [(100 : UInt8), 101, 99, 49, 50, 56])), .string (ByteArray.mk (Array.mk [(99 : UInt8), 104, 97, 114])), .string (ByteArray.mk (Array.mk [(116 : UInt8), 105, 109, 101])), .string (ByteArray.mk (Array.mk [(117 : UInt8), 117, 105, 100])), .string (ByteArray.mk (Array.mk [(98 : UInt8), 105, 110, 97, 114, 121])), .string (ByteArray.mk (Array.mk [(115 : UInt8), 116, 114, 105, 110, 103])), .string (ByteArray.mk (Array.mk [(115 : UInt8), 121, 109, 98, 111, 108])), .string (ByteArray.mk (Array.mk [(108 : UInt8), 105, 115, 116])), .string (ByteArray.mk (Array.mk [(109 : UInt8), 97, 112])), .string (ByteArray.mk (Array.mk [(97 : UInt8), 114, 114, 97, 121])), .string (ByteArray.mk (Array.mk [(100 : UInt8), 101, 115, 99, 114, 105, 98, 101, 100]))]
theorem nameV_len : nameV.length = 25 := rfl
theorem st25 {w : World} {k : Nat} {zs : List Value} {K : World → Prop} (hb : blk w k = some zs) (hl : zs.length = 25) (hk : ∀ w', blk w' k = some nameV → Ch (· = k) w w' → w'.heap.size = w.heap.size → K w') :
    Sv.st w ⟨k, 0, none⟩ (.string (ByteArray.mk (Array.mk [(110 : UInt8), 117, 108, 108]))) fun w1 => Sv.st w1 ⟨k, 1, none⟩ (.string (ByteArray.mk (Array.mk [(98 : UInt8), 111, 111, 108]))) fun w2 => Sv.st w2 ⟨k, 2, none⟩ (.string (ByteArray.mk (Array.mk [(117 : UInt8), 98, 121, 116, 101]))) fun w3 => Sv.st w3 ⟨k, 3, none⟩ (.string (ByteArray.mk (Array.mk [(117 : UInt8), 115, 104, 111, 114, 116]))) fun w4 => Sv.st w4 ⟨k, 4, none⟩ (.string (ByteArray.mk (Array.mk [(117 : UInt8), 105, 110, 116]))) fun w5 => Sv.st w5 ⟨k, 5, none⟩ (.string (ByteArray.mk (Array.mk [(117 : UInt8), 108, 111, 110, 103]))) fun w6 => Sv.st w6 ⟨k, 6, none⟩ (.string (ByteArray.mk (Array.mk [(98 : UInt8), 121, 116, 101]))) fun w7 => Sv.st w7 ⟨k, 7, none⟩ (.string (ByteArray.mk (Array.mk [(115 : UInt8), 104, 111, 114, 116]))) fun w8 => Sv.st w8 ⟨k, 8, none⟩ (.string (ByteArray.mk (Array.mk [(105 : UInt8), 110, 116]))) fun w9 => Sv.st w9 ⟨k, 9, none⟩ (.string (ByteArray.mk (Array.mk [(108 : UInt8), 111, 110, 103]))) fun w10 => Sv.st w10 ⟨k, 10, none⟩ (.string (ByteArray.mk (Array.mk [(102 : UInt8), 108, 111, 97, 116]))) fun w11 => Sv.st w11 ⟨k, 11, none⟩ (.string (ByteArray.mk (Array.mk [(100 : UInt8), 111, 117, 98, 108, 101]))) fun w12 => Sv.st w12 ⟨k, 12, none⟩ (.string (ByteArray.mk (Array.mk [(100 : UInt8), 101, 99, 51, 50]))) fun w13 => Sv.st w13 ⟨k, 13, none⟩ (.string (ByteArray.mk (Array.mk [(100 : UInt8), 101, 99, 54, 52]))) fun w14 => Sv.st w14 ⟨k, 14, none⟩ (.string (ByteArray.mk (Array.mk [(100 : UInt8), 101, 99, 49, 50, 56]))) fun w15 => Sv.st w15 ⟨k, 15, none⟩ (.string (ByteArray.mk (Array.mk [(99 : UInt8), 104, 97, 114]))) fun w16 => Sv.st w16 ⟨k, 16, none⟩ (.string (ByteArray.mk (Array.mk [(116 : UInt8), 105, 109, 101]))) fun w17 => Sv.st w17 ⟨k, 17, none⟩ (.string (ByteArray.mk (Array.mk [(117 : UInt8), 117, 105, 100]))) fun w18 => Sv.st w18 ⟨k, 18, none⟩ (.string (ByteArray.mk (Array.mk [(98 : UInt8), 105, 110, 97, 114, 121]))) fun w19 => Sv.st w19 ⟨k, 19, none⟩ (.string (ByteArray.mk (Array.mk [(115 : UInt8), 116, 114, 105, 110, 103]))) fun w20 => Sv.st w20 ⟨k, 20, none⟩ (.string (ByteArray.mk (Array.mk [(115 : UInt8), 121, 109, 98, 111, 108]))) fun w21 => Sv.st w21 ⟨k, 21, none⟩ (.string (ByteArray.mk (Array.mk [(108 : UInt8), 105, 115, 116]))) fun w22 => Sv.st w22 ⟨k, 22, none⟩ (.string (ByteArray.mk (Array.mk [(109 : UInt8), 97, 112]))) fun w23 => Sv.st w23 ⟨k, 23, none⟩ (.string (ByteArray.mk (Array.mk [(97 : UInt8), 114, 114, 97, 121]))) fun w24 => Sv.st w24 ⟨k, 24, none⟩ (.string (ByteArray.mk (Array.mk [(100 : UInt8), 101, 115, 99, 114, 105, 98, 101, 100]))) fun w25 => K w25 :=
  st_all nameV 0 (K := K) hb (by rw [hl, nameV_len]; decide) fun w' b c z => hk w' (by rw [b, putSeg]; simp [nameV_len]; omega) c z
theorem nameV_get (k : Nat) (hk : k < 25) : nameV[k]? = some (.string ⟨(nameK (k : Int)).toArray⟩) := by
  have key : ∀ k : Fin 25, nameV[k.val]? = some (.string ⟨(nameK (k.val : Int)).toArray⟩) := by
    intro k
    match k with
    | ⟨0, _⟩ => rfl
    | ⟨1, _⟩ => rfl
    | ⟨2, _⟩ => rfl
    | ⟨3, _⟩ => rfl
    | ⟨4, _⟩ => rfl
    | ⟨5, _⟩ => rfl
    | ⟨6, _⟩ => rfl
    | ⟨7, _⟩ => rfl
    | ⟨8, _⟩ => rfl
    | ⟨9, _⟩ => rfl
    | ⟨10, _⟩ => rfl
    | ⟨11, _⟩ => rfl
    | ⟨12, _⟩ => rfl
    | ⟨13, _⟩ => rfl
    | ⟨14, _⟩ => rfl
    | ⟨15, _⟩ => rfl
    | ⟨16, _⟩ => rfl
    | ⟨17, _⟩ => rfl
    | ⟨18, _⟩ => rfl
    | ⟨19, _⟩ => rfl
    | ⟨20, _⟩ => rfl
    | ⟨21, _⟩ => rfl
    | ⟨22, _⟩ => rfl
    | ⟨23, _⟩ => rfl
    | ⟨24, _⟩ => rfl
    | ⟨n + 25, h⟩ => omega
  exact key ⟨k, hk⟩
theorem kindName_ok {k : Nat} (hk : k < 25) {w : World} {K : Value → World → Prop} (h : ∀ w', Ch (fun _ => False) w w' → K (.string ⟨(nameK (k : Int)).toArray⟩) w') :
    callP Tryz.prog 64 [.int .i64 (k : Int)] w K := by
  apply ok_note_kindName
  unfold wp_note_kindName
  refine newB_blk fun w1 b1 c1 z1 => ?_
  simp only [add_at, Nat.zero_add]
  refine st25 b1 rfl fun w2 b2 c2 z2 => ?_
  refine ⟨by omega, by omega, ?_⟩
  simp only [add_at, Nat.zero_add, Nat.mul_one, Int.toNat_natCast]
  refine ⟨_, by rw [cell_blk b2]; exact nameV_get k hk, h w2 (c1.trans c2 fun x hx h => by omega)⟩
theorem kindN_some {t : Bs} {k : Nat} : kindN t = some k ↔ k < 25 ∧ nameK (k : Int) = t ∧ ∀ j : Nat, j < k → nameK (j : Int) ≠ t := by
  unfold kindN
  rw [List.findIdx?_eq_some_iff_getElem]
  have hn : names.length = 25 := rfl
  have hg : ∀ (j : Nat) (h : j < names.length), names[j] = nameK (j : Int) := fun j h => by
    unfold nameK
    rw [Int.toNat_natCast, List.getD_eq_getElem?_getD, List.getElem?_eq_getElem h]; rfl
  constructor
  · rintro ⟨h1, h2, h3⟩
    refine ⟨h1, ?_, fun j hj => ?_⟩
    · rw [← hg k h1]; exact of_decide_eq_true h2
    · have := h3 j hj
      rw [← hg j (by omega)]
      intro e
      exact this (decide_eq_true e)
  · rintro ⟨h1, h2, h3⟩
    refine ⟨h1, decide_eq_true (by rw [hg k h1]; exact h2), fun j hj => ?_⟩
    rw [hg j (by omega)]
    intro e
    exact h3 j hj (of_decide_eq_true e)
theorem kindN_none {t : Bs} (h : ∀ j : Nat, j < 25 → nameK (j : Int) ≠ t) : kindN t = none := by
  cases hk : kindN t with
  | none => rfl
  | some k =>
    obtain ⟨h1, h2, _⟩ := kindN_some.1 hk
    exact absurd h2 (h k h1)
def NamedR (o : Option Nat) : Value :=
  match o with
  | some k => .tuple #[.int .i64 (k : Int), .bool true]
  | none => .tuple #[.int .i64 0, .bool false]
theorem named_ok {t : Bs} {w : World} {K : Value → World → Prop} (h : ∀ w', Ch (fun _ => False) w w' → K (NamedR (kindN t)) w') :
    callP Tryz.prog 114 [.string ⟨t.toArray⟩] w K := by
  apply ok_note_named
  unfold wp_note_named
  refine ⟨fun m i w' => ∃ k : Nat, i = (k : Int) ∧ m = 25 - k ∧ k ≤ 25 ∧ Ch (fun _ => False) w w' ∧ ∀ j : Nat, j < k → nameK (j : Int) ≠ t, ⟨25, 0, rfl, rfl, by omega, Ch.refl _ _, fun j hj => by omega⟩, ?_⟩
  rintro m i w1 ⟨k, rfl, rfl, hk, c1, hall⟩
  refine Sif_cases (fun h1 => ?_) (fun h1 => ?_)
  · have h1 := of_decide_eq_true h1
    refine kindName_ok (by omega) fun w2 c2 => ⟨_, rfl, ?_⟩
    rw [bs_eq]
    refine Sif_cases (fun h2 => ?_) (fun h2 => ?_)
    · have := h w2 (c1.trans' c2)
      rw [kindN_some.2 ⟨by omega, of_decide_eq_true h2, hall⟩] at this
      exact this
    · have h2 := of_decide_eq_false h2
      simp only [nameI]
      rw [wrap_id (n := (k : Int) + 1) (by omega) (by omega)]
      refine ⟨25 - (k + 1), by omega, k + 1, by omega, rfl, by omega, c1.trans' c2, fun j hj => ?_⟩
      by_cases e : j = k
      · rw [e]; exact h2
      · exact hall j (by omega)
  · have h1 := of_decide_eq_false h1
    have := h w1 c1
    rw [kindN_none fun j hj => hall j (by omega)] at this
    exact this
theorem letters_ok {x : UInt8} {w : World} {K : Value → World → Prop} (hk : K (.bool (letterC x)) w) : callP Tryz.prog 69 [.int .u8 (x.toNat : Int)] w K := by
  apply ok_note_letters
  unfold wp_note_letters
  have x45 : ((x.toNat : Int) == 45) = decide (x = 45) := byte_eq x 45 (by omega)
  rw [x45]
  have yes : letterC x = true → K (.bool true) w := fun h => by rw [h] at hk; exact hk
  have last : ¬ (97 ≤ x.toNat ∧ x.toNat ≤ 122) → ¬ (48 ≤ x.toNat ∧ x.toNat ≤ 57) → K (.bool (decide (x = 45))) w := fun h1 h2 => by
    have : letterC x = decide (x = 45) := by
      unfold letterC
      rw [show (decide (97 ≤ x.toNat) && decide (x.toNat ≤ 122)) = false by simp; omega, show (decide (48 ≤ x.toNat) && decide (x.toNat ≤ 57)) = false by simp; omega]
      simp
    rw [this] at hk; exact hk
  have mid : ¬ (97 ≤ x.toNat ∧ x.toNat ≤ 122) → Sif (decide ((x.toNat : Int) ≥ 48)) (Sif (!decide ((x.toNat : Int) ≤ 57)) (K (.bool (decide (x = 45))) w) (K (.bool true) w)) (K (.bool (decide (x = 45))) w) := fun h1 => by
    refine Sif_cases (fun h => ?_) (fun h => last h1 (by have := of_decide_eq_false h; omega))
    have h := of_decide_eq_true h
    refine Sif_cases (fun h2 => last h1 ?_) (fun h2 => yes ?_)
    · rw [Bool.not_eq_true'] at h2
      have := of_decide_eq_false h2; omega
    · rw [Bool.not_eq_false'] at h2
      have := of_decide_eq_true h2
      unfold letterC
      rw [show (decide (48 ≤ x.toNat) && decide (x.toNat ≤ 57)) = true by simp; omega]
      simp
  refine Sif_cases (fun h => ?_) (fun h => mid (by have := of_decide_eq_false h; omega))
  have h := of_decide_eq_true h
  refine Sif_cases (fun h2 => mid ?_) (fun h2 => yes ?_)
  · rw [Bool.not_eq_true'] at h2
    have := of_decide_eq_false h2; omega
  · rw [Bool.not_eq_false'] at h2
    have := of_decide_eq_true h2
    unfold letterC
    rw [show (decide (97 ≤ x.toNat) && decide (x.toNat ≤ 122)) = true by simp; omega]
    simp
end Go.Proofs.YtnacobknngidkaaGreatDoor
