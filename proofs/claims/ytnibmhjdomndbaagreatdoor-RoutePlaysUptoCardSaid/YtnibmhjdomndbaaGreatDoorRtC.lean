/-
  The program's and the document's readings of words, names, patterns and topics. The document's readings: letter, word, Named, parts, Topic, Pattern; the program's cut. parts, Topic, Pattern of the document; the program's cut.
-/
import Derived.Test.YtnibmhjdomndbaaGreatDoorRtLib
import Derived.Test.YtnibmhjdomndbaaGreatDoorMainWp
import Derived.Test.YtnibmhjdomndbaaGreatDoorRefWp
namespace Go.Proofs.YtnibmhjdomndbaaGreatDoor
open Go Go.Sv Go.Rt
set_option linter.unusedVariables false
def goodc (others : ByteArray) (c : Int) : Bool := (decide (97 ≤ c) && decide (c ≤ 122)) || (decide (48 ≤ c) && decide (c ≤ 57)) || !decide (Lib.indexByte others.data.toList c.toNat.toUInt8 < 0)
def madeB (s : ByteArray) (most : Int) (others : ByteArray) : Bool := (List.range s.size).all (fun i => goodc others (byteAt s i)) && decide (1 ≤ s.size) && decide ((s.size : Int) ≤ most)
theorem all_range {n : Nat} {f : Nat → Bool} (h : ∀ j, j < n → f j = true) : (List.range n).all f = true := by
  rw [List.all_eq_true]; intro x hx; exact h x (List.mem_range.1 hx)
theorem all_range_not {n i : Nat} {f : Nat → Bool} (hi : i < n) (h : f i = false) : (List.range n).all f = false := by
  rw [List.all_eq_false]; exact ⟨i, List.mem_range.2 hi, by simp [h]⟩
theorem size0 {s : ByteArray} (h : s.size = 0) : s = ⟨#[]⟩ := by
  apply data_ext
  have : s.data.toList.length = 0 := by simpa using h
  rw [List.length_eq_zero_iff] at this
  rw [this]
set_option maxHeartbeats 1000000 in
theorem made_ok {s others : ByteArray} {most : Int} {w : World} {K : Value → World → Prop} (hs : s.size ≤ 2 ^ 40) (hk : K (.bool (madeB s most others)) w) : callP Tryz.prog 48 [.string s, .int .i64 most, .string others] w K := by
  refine ok_route_made ?_
  unfold wp_route_made
  refine ⟨fun m n w1 => ∃ i : Nat, n = (i : Int) ∧ m + i = s.size ∧ (∀ j, j < i → goodc others (byteAt s j) = true) ∧ w1 = w, ⟨s.size, 0, rfl, rfl, (fun j hj => by omega), rfl⟩, ?_⟩
  rintro m n w1 ⟨i, rfl, hm, hg, rfl⟩
  refine Sif_cases (fun h => ?_) fun h => ?_
  · have h := of_decide_eq_true h
    refine ⟨fun w2 => w2 = w1 ∧ goodc others (byteAt s i) = true, ?_, by omega, h, ?_⟩
    · rintro w2 ⟨rfl, h3⟩
      rw [wrap_id (n := (i : Int) + 1) (by omega) (by omega)]
      refine ⟨m - 1, by omega, i + 1, by omega, by omega, fun j hj => ?_, rfl⟩
      by_cases hji : j = i
      · rw [hji]; exact h3
      · exact hg j (by omega)
    · rw [nameI_iff, Int.toNat_natCast]
      have call : (goodc others (byteAt s i) = !decide (Lib.indexByte others.data.toList (byteAt s i).toNat.toUInt8 < 0)) → callP Tryz.prog 68 [.string others, .int .u8 (byteAt s i)] w1 fun v w2 => ∃ n2, v = .int .i64 n2 ∧ Sif (decide (n2 < 0)) (K (.bool false) w2) (w2 = w1 ∧ goodc others (byteAt s i) = true) := fun e => by
        refine indexByte_ok ⟨_, rfl, Sif_cases (fun h5 => ?_) fun h5 => ?_⟩
        · rw [h5] at e
          have : madeB s most others = false := by
            rw [madeB, all_range_not (i := i) (by omega) e]; rfl
          rw [this] at hk; exact hk
        · rw [h5] at e; exact ⟨rfl, e⟩
      refine Sif_cases (fun h1 => Sif_cases (fun h2 => Sif_cases (fun h3 => Sif_cases (fun h4 => call ?_) fun h4 => ?_) fun h3 => call ?_) fun h2 => ?_) fun h1 => Sif_cases (fun h3 => Sif_cases (fun h4 => call ?_) fun h4 => ?_) fun h3 => call ?_
      all_goals (simp only [ge_iff_le, decide_eq_true_eq, decide_eq_false_iff_not, Bool.not_eq_true', Bool.not_eq_false', Bool.not_eq_false, decide_not] at *)
      all_goals (try refine ⟨trivial, ?_⟩)
      all_goals (unfold goodc; simp [*])
  · have h := of_decide_eq_false h
    have hi : i = s.size := by omega
    have e : madeB s most others = (decide (1 ≤ s.size) && decide ((s.size : Int) ≤ most)) := by
      rw [madeB, all_range (fun j hj => hg j (by omega)), Bool.true_and]
    rw [e] at hk
    by_cases h0 : s.size = 0
    · rw [size0 h0] at hk ⊢
      have e0 : (ByteArray.toList ⟨#[]⟩ == ByteArray.toList ⟨#[]⟩) = true := str_eq_self _
      rw [e0]
      exact hk
    · have : (s.toList == ByteArray.toList ⟨#[]⟩) = false := neS (fun h => h0 (by rw [h]; rfl))
      rw [this]
      refine Sif_true ?_
      have : decide (1 ≤ s.size) = true := decide_eq_true (by omega)
      rw [this, Bool.true_and] at hk
      exact hk
theorem byteAt_get (s : ByteArray) (i : Nat) : ∃ b : UInt8, byteAt s i = (b.toNat : Int) := ⟨_, rfl⟩
theorem idx_neg (l : List UInt8) (c : UInt8) : (!decide (Lib.indexByte l c < 0)) = decide (c ∈ l) := by
  induction l with
  | nil => simp [Lib.indexByte]
  | cons b l ih =>
    unfold Lib.indexByte
    have hg := Lib.indexByte_ge l c
    by_cases hb : b = c
    · subst hb; simp
    · have h1 : (b == c) = false := by simpa using hb
      simp only [h1, Bool.false_eq_true, if_false]
      have h3 : decide (c ∈ b :: l) = decide (c ∈ l) := decide_eq_decide.2 (by simp [Ne.symm hb])
      rw [h3, ← ih]
      by_cases h2 : Lib.indexByte l c = -1
      · simp [h2]
      · have h4 : (Lib.indexByte l c == -1) = false := by simpa using h2
        simp only [h4, Bool.false_eq_true, if_false]
        have : ¬ (Lib.indexByte l c + 1 < 0) := by omega
        have : ¬ (Lib.indexByte l c < 0) := by omega
        simp [*]
theorem u8_eq (c k : UInt8) : ((c.toNat : Int) == (k.toNat : Int)) = decide (c = k) := by
  by_cases h : c = k
  · subst h; simp
  · have h2 : ((c.toNat : Int) == (k.toNat : Int)) = false := by rw [beq_eq_false_iff_ne]; intro e; apply h; apply UInt8.toNat_inj.1; omega
    rw [h2]; simp [h]
theorem u8_back (c : UInt8) : ((c.toNat : Int)).toNat.toUInt8 = c := by simp
theorem good_dash (c : UInt8) : goodc ⟨#[45]⟩ c.toNat = letter c.toNat := by
  unfold goodc letter
  rw [idx_neg, u8_back]
  congr 1
  exact (Eq.trans (decide_eq_decide.2 (by simp)) (u8_eq c 45).symm)
theorem good_name (c : UInt8) : goodc ⟨#[45, 46, 95]⟩ c.toNat = namedc c.toNat := by
  unfold goodc namedc letter
  rw [idx_neg, u8_back, Bool.or_assoc (_ || _), Bool.or_assoc (_ || _)]
  congr 1
  have h1 := u8_eq c 45
  have h2 := u8_eq c 46
  have h3 := u8_eq c 95
  rw [show ((c.toNat : Int) == 45) = decide (c = 45) from h1, show ((c.toNat : Int) == 46) = decide (c = 46) from h2, show ((c.toNat : Int) == 95) = decide (c = 95) from h3]
  rw [← Bool.decide_or, ← Bool.decide_or]
  exact decide_eq_decide.2 (by simp [or_assoc])
theorem made_word (s : ByteArray) : madeB s 32 ⟨#[45]⟩ = word s := by
  unfold madeB word
  congr 1
  · congr 2
    funext i
    obtain ⟨b, hb⟩ := byteAt_get s i
    rw [hb]; exact good_dash b
  · exact decide_eq_decide.2 (by omega)
theorem made_named (s : ByteArray) : madeB s 64 ⟨#[45, 46, 95]⟩ = named s := by
  unfold madeB named
  congr 1
  · congr 2
    funext i
    obtain ⟨b, hb⟩ := byteAt_get s i
    rw [hb]; exact good_name b
  · exact decide_eq_decide.2 (by omega)
theorem isName_ok {s : ByteArray} {w : World} {K : Value → World → Prop} (hs : s.size ≤ 2 ^ 40) (hk : K (.bool (named s)) w) : callP Tryz.prog 35 [.string s] w K := by
  refine ok_route_isName ?_
  unfold wp_route_isName
  refine made_ok hs ⟨_, rfl, ?_⟩
  rw [made_named]; exact hk
theorem word_made {s : ByteArray} {w : World} {K : Value → World → Prop} (hs : s.size ≤ 2 ^ 40) (hk : K (.bool (word s)) w) : callP Tryz.prog 48 [.string s, .int .i64 32, .string ⟨#[45]⟩] w K :=
  made_ok hs (by rw [made_word]; exact hk)
end Go.Proofs.YtnibmhjdomndbaaGreatDoor
namespace Go.Proofs.YtnibmhjdomndbaaGreatDoor
open Go Go.Sv Go.Rt
set_option linter.unusedVariables false
theorem letter_ok {c : Int} {w : World} {K : Value → World → Prop} (hk : K (.bool (letter c)) w) : callP Tryz.prog 54 [.int .u8 c] w K := by
  refine ok_longshoreref18_letter ?_
  unfold wp_longshoreref18_letter
  unfold letter at hk
  refine Sif_cases (fun h1 => Sif_cases (fun h2 => Sif_cases (fun h3 => Sif_cases (fun h4 => ?_) fun h4 => ?_) fun h3 => ?_) fun h2 => ?_) fun h1 => Sif_cases (fun h3 => Sif_cases (fun h4 => ?_) fun h4 => ?_) fun h3 => ?_
  all_goals (simp only [ge_iff_le, decide_eq_true_eq, decide_eq_false_iff_not, Bool.not_eq_true', Bool.not_eq_false', Bool.not_eq_false, decide_not] at *)
  all_goals (simp only [*, decide_true, decide_false, Bool.and_true, Bool.true_and, Bool.false_and, Bool.and_false, Bool.or_true, Bool.true_or, Bool.or_false, Bool.false_or] at hk; exact hk)
theorem all_letters {s : ByteArray} {f : Int → Bool} (h : ∀ j, j < s.size → f (byteAt s j) = true) : (List.range s.size).all (fun i => f (byteAt s i)) = true := all_range h
set_option maxHeartbeats 1000000 in
theorem word_ok {s : ByteArray} {w : World} {K : Value → World → Prop} (hs : s.size ≤ 2 ^ 40) (hk : K (.bool (word s)) w) : callP Tryz.prog 53 [.string s] w K := by
  refine ok_longshoreref18_word ?_
  unfold wp_longshoreref18_word
  refine ⟨fun m n w1 => ∃ i : Nat, n = (i : Int) ∧ m + i = s.size ∧ (∀ j, j < i → letter (byteAt s j) = true) ∧ w1 = w, ⟨s.size, 0, rfl, rfl, (fun j hj => by omega), rfl⟩, ?_⟩
  rintro m n w1 ⟨i, rfl, hm, hg, rfl⟩
  refine Sif_cases (fun h => ?_) fun h => ?_
  · have h := of_decide_eq_true h
    refine ⟨by omega, h, ?_⟩
    rw [Int.toNat_natCast]
    refine letter_ok ⟨_, rfl, Sif_cases (fun h5 => ?_) fun h5 => ?_⟩
    · have h5 : letter (byteAt s i) = false := by simpa using h5
      have : word s = false := by rw [word, all_range_not (i := i) (by omega) h5]; rfl
      rw [this] at hk; exact hk
    · have h5 : letter (byteAt s i) = true := by simpa using h5
      rw [nameI_iff, wrap_id (n := (i : Int) + 1) (by omega) (by omega)]
      refine ⟨m - 1, by omega, i + 1, by omega, by omega, fun j hj => ?_, rfl⟩
      by_cases hji : j = i
      · rw [hji]; exact h5
      · exact hg j (by omega)
  · have h := of_decide_eq_false h
    have e : word s = (decide (1 ≤ s.size) && decide (s.size ≤ 32)) := by
      rw [word, all_letters (f := letter) (fun j hj => hg j (by omega)), Bool.true_and]
    rw [e] at hk
    refine Sif_cases (fun h1 => ?_) fun h1 => ?_
    · have h1 := of_decide_eq_true h1
      rw [decide_eq_true (show 1 ≤ s.size by omega), Bool.true_and] at hk
      have : decide ((s.size : Int) ≤ 32) = decide (s.size ≤ 32) := decide_eq_decide.2 (by omega)
      rw [this]; exact hk
    · have h1 := of_decide_eq_false h1
      rw [decide_eq_false (show ¬ 1 ≤ s.size by omega), Bool.false_and] at hk
      exact hk
set_option maxHeartbeats 1000000 in
theorem named_ok {s : ByteArray} {w : World} {K : Value → World → Prop} (hs : s.size ≤ 2 ^ 40) (hk : K (.bool (named s)) w) : callP Tryz.prog 39 [.string s] w K := by
  refine ok_longshoreref18_Named ?_
  unfold wp_longshoreref18_Named
  refine ⟨fun m n w1 => ∃ i : Nat, n = (i : Int) ∧ m + i = s.size ∧ (∀ j, j < i → namedc (byteAt s j) = true) ∧ w1 = w, ⟨s.size, 0, rfl, rfl, (fun j hj => by omega), rfl⟩, ?_⟩
  rintro m n w1 ⟨i, rfl, hm, hg, rfl⟩
  refine Sif_cases (fun h => ?_) fun h => ?_
  · have h := of_decide_eq_true h
    have bad : namedc (byteAt s i) = false → K (.bool false) w1 := fun h5 => by
      have : named s = false := by rw [named, all_range_not (i := i) (by omega) h5]; rfl
      rw [this] at hk; exact hk
    refine ⟨fun w2 => w2 = w1 ∧ namedc (byteAt s i) = true, ?_, by omega, h, ?_⟩
    · rintro w2 ⟨rfl, h5⟩
      rw [nameI_iff, wrap_id (n := (i : Int) + 1) (by omega) (by omega)]
      refine ⟨m - 1, by omega, i + 1, by omega, by omega, fun j hj => ?_, rfl⟩
      by_cases hji : j = i
      · rw [hji]; exact h5
      · exact hg j (by omega)
    · simp only [Int.toNat_natCast]
      refine letter_ok ⟨_, rfl, Sif_cases (fun h5 => ⟨by omega, h, Sif_cases (fun h6 => ⟨by omega, h, Sif_cases (fun h7 => bad ?_) fun h7 => ⟨rfl, ?_⟩⟩) fun h6 => ⟨rfl, ?_⟩⟩) fun h5 => ⟨rfl, ?_⟩⟩
      all_goals unfold namedc
      · have h5 : letter (byteAt s i) = false := by simpa using h5
        have h6 : (byteAt s i == 46) = false := by simpa using h6
        have h7 : (byteAt s i == 95) = false := by simpa using h7
        rw [h5, h6, h7]; rfl
      · have h7 : (byteAt s i == 95) = true := by simpa using h7
        rw [h7, Bool.or_true]
      · have h6 : (byteAt s i == 46) = true := by simpa using h6
        rw [h6, Bool.or_true, Bool.true_or]
      · have h5 : letter (byteAt s i) = true := by simpa using h5
        rw [h5, Bool.true_or, Bool.true_or]
  · have h := of_decide_eq_false h
    have e : named s = (decide (1 ≤ s.size) && decide (s.size ≤ 64)) := by
      rw [named, all_letters (f := namedc) (fun j hj => hg j (by omega)), Bool.true_and]
    rw [e] at hk
    refine Sif_cases (fun h1 => ?_) fun h1 => ?_
    · have h1 := of_decide_eq_true h1
      rw [decide_eq_true (show 1 ≤ s.size by omega), Bool.true_and] at hk
      have : decide ((s.size : Int) ≤ 64) = decide (s.size ≤ 64) := decide_eq_decide.2 (by omega)
      rw [this]; exact hk
    · have h1 := of_decide_eq_false h1
      rw [decide_eq_false (show ¬ 1 ≤ s.size by omega), Bool.false_and] at hk
      exact hk
/-- a row of texts of one's own, laid since w -/
structure Nw (w w' : World) (p : Option Addr) (c : Nat) (b : Option Nat) (L : List ByteArray) : Prop where
  ow : Ow w' p L.length c 1 (L.flatMap sCell) b
  new : ∀ k, b = some k → w.heap.size ≤ k
  ch : Ch (fun _ => False) w w'
theorem Nw.rd {w w' : World} {p : Option Addr} {c : Nat} {b : Option Nat} {L : List ByteArray} (h : Nw w w' p c b L) : Rd w' p L.length 1 (L.flatMap sCell) := h.ow.rd
theorem Nw.nil (w : World) : Nw w w none 0 none [] := ⟨Ow.nil, (fun k h => by cases h), Ch.refl _ _⟩
theorem Nw.push {w w' : World} {p : Option Addr} {c : Nat} {b : Option Nat} {L : List ByteArray} (h : Nw w w' p c b L) (x : ByteArray) (h1 : L.length + 1 ≤ 2 ^ 42) {K : Option Addr → Nat → Nat → World → Prop}
    (hk : ∀ p' c' b' w2, Nw w w2 p' c' b' (L ++ [x]) → Ch (fun k => b = some k) w' w2 → (∀ k, b' = some k → b = some k ∨ w'.heap.size ≤ k) → K p' (L ++ [x]).length c' w2) :
    newB w' [.string x] 9 fun a w2 => ∃ p5 n7 c5 w3, Sem.run Tryz.prog (Builtin.append_ #[49, 49] 49 #[.slice p L.length c, .slice (some a) 1 1]) w2 = .ok (.slice p5 n7 c5) w3 ∧ K p5 n7 c5 w3 :=
  push_ok (sz := 1) (g := sCell) Tryz.underlying49 strings_info (by rfl) sCell_len sCell_one h.ow x (by omega) (by omega) fun p' c' b' w2 o2 n2 c2 =>
    hk p' c' b' w2 ⟨o2, (fun k hk => by rcases n2 k hk with h3 | h3; exact h.new k h3; exact Nat.le_trans h.ch.size h3), h.ch.trans c2 fun x hx h3 => absurd hx (Nat.not_lt.2 (h.new x h3))⟩ c2 n2
end Go.Proofs.YtnibmhjdomndbaaGreatDoor
namespace Go.Proofs.YtnibmhjdomndbaaGreatDoor
open Go Go.Sv Go.Rt
set_option linter.unusedVariables false
theorem dot_step {s : ByteArray} {f i : Nat} (hfi : f ≤ i) (hi : i < s.size) (hn : 46 ∉ (s.data.toList.drop f).take (i - f)) (h : byteAt s i = 46) : pcs (s.data.toList.drop f) = s.extract f i :: pcs (s.data.toList.drop (i + 1)) := by
  have hl : s.data.toList.length = s.size := by simp
  have e : s.data.toList.drop f = (s.data.toList.drop f).take (i - f) ++ 46 :: s.data.toList.drop (i + 1) := by
    have h1 : s.data.toList.drop i = 46 :: s.data.toList.drop (i + 1) := by
      have hi' : i < s.data.toList.length := by omega
      rw [← List.getElem_cons_drop hi']
      congr 1
      unfold byteAt at h
      rw [List.getD_eq_getElem?_getD, List.getElem?_eq_getElem hi', Option.getD_some] at h
      apply UInt8.toNat_inj.1
      have : ((46 : UInt8).toNat : Int) = 46 := rfl
      omega
    have h2 : s.data.toList.drop i = (s.data.toList.drop f).drop (i - f) := by rw [List.drop_drop]; congr 1; omega
    rw [← h1, h2, List.take_append_drop]
  have k1 : s.extract f i = ⟨((s.data.toList.drop f).take (i - f)).toArray⟩ := ba_of _ _ (by rw [extract_list, List.drop_take])
  rw [k1, pcs]
  conv => lhs; rw [e]
  rw [splitDot_at _ _ hn]; rfl
theorem dot_end {s : ByteArray} {f : Nat} (hn : 46 ∉ s.data.toList.drop f) : pcs (s.data.toList.drop f) = [s.extract f s.size] := by
  have k1 : s.extract f s.size = ⟨(s.data.toList.drop f).toArray⟩ := ba_of _ _ (by rw [extract_list, List.take_of_length_le (by simp)])
  rw [pcs, splitDot_none _ hn, k1]; rfl
set_option maxHeartbeats 2000000 in
theorem parts_ok {s : ByteArray} {w : World} {K : Value → World → Prop} (hs : s.size ≤ 2 ^ 40)
    (hk : ∀ p c b w', Nw w w' p c b (parts s) → K (.slice p (parts s).length c) w') : callP Tryz.prog 52 [.string s] w K := by
  refine ok_longshoreref18_parts ?_
  unfold wp_longshoreref18_parts
  have hsl : s.data.toList.length = s.size := by simp
  refine ⟨fun m p n c n1 n2 w1 => ∃ (f i : Nat) (L : List ByteArray) (b : Option Nat), n1 = (f : Int) ∧ n2 = (i : Int) ∧ f ≤ i ∧ m + i = s.size ∧ L.length ≤ i ∧ n = L.length ∧ Nw w w1 p c b L ∧ L ++ pcs (s.data.toList.drop f) = parts s ∧ 46 ∉ (s.data.toList.drop f).take (i - f),
    ⟨s.size, 0, 0, [], none, rfl, rfl, Nat.le_refl _, rfl, Nat.le_refl _, rfl, Nw.nil w, rfl, by simp⟩, ?_⟩
  rintro m p n c n1 n2 w1 ⟨f, i, L, b, rfl, rfl, hfi, hm, hLi, rfl, hN, hL, hn⟩
  refine Sif_cases (fun h => ?_) fun h => ?_
  · have h := of_decide_eq_true h
    refine ⟨fun p1 n3 c1 n4 w2 => ∃ (f' : Nat) (L' : List ByteArray) (b' : Option Nat), n4 = (f' : Int) ∧ f' ≤ i + 1 ∧ L'.length ≤ i + 1 ∧ n3 = L'.length ∧ Nw w w2 p1 c1 b' L' ∧ L' ++ pcs (s.data.toList.drop f') = parts s ∧ 46 ∉ (s.data.toList.drop f').take (i + 1 - f'), ?_, by omega, h, ?_⟩
    · rintro p1 n3 c1 n4 w2 ⟨f', L', b', rfl, q1, q2, rfl, q3, q4, q5⟩
      rw [nameI_iff, wrap_id (n := (i : Int) + 1) (by omega) (by omega)]
      exact ⟨m - 1, by omega, f', i + 1, L', b', rfl, by omega, q1, by omega, q2, rfl, q3, q4, q5⟩
    · rw [Int.toNat_natCast]
      refine Sif_cases (fun h2 => ⟨by omega, by omega, by omega, by omega, ?_⟩) fun h2 => ⟨f, L, b, rfl, by omega, by omega, rfl, hN, hL, ?_⟩
      · have h2 : byteAt s i = 46 := by simpa using h2
        have k := dot_step hfi (by omega) hn h2
        simp only [Int.toNat_natCast]
        refine hN.push _ (by omega) fun p' c' b' w2 N2 _ _ => ?_
        rw [nameI_iff, wrap_id (n := (i : Int) + 1) (by omega) (by omega)]
        exact ⟨i + 1, _, b', by omega, Nat.le_refl _, by simp; omega, rfl, N2, by rw [List.append_assoc, List.singleton_append, ← k]; exact hL, by simp⟩
      · have h2 : byteAt s i ≠ 46 := by simpa using h2
        have hi' : i < s.data.toList.length := by omega
        have e : i + 1 - f = (i - f) + 1 := by omega
        rw [e, List.take_add_one, List.getElem?_drop, show f + (i - f) = i by omega, List.getElem?_eq_getElem hi', Option.toList_some]
        intro h3
        rcases List.mem_append.1 h3 with h3 | h3
        · exact hn h3
        · apply h2
          unfold byteAt
          rw [List.getD_eq_getElem?_getD, List.getElem?_eq_getElem hi', Option.getD_some, ← List.mem_singleton.1 h3]; rfl
  · have h := of_decide_eq_false h
    have hi : i = s.size := by omega
    subst hi
    refine ⟨by omega, by omega, ?_⟩
    simp only [Int.toNat_natCast]
    refine hN.push _ (by omega) fun p' c' b' w2 N2 _ _ => ?_
    have hd := dot_end (s := s) (f := f) (by rw [List.take_of_length_le (by simp)] at hn; exact hn)
    rw [hd] at hL
    rw [hL] at N2 ⊢
    exact hk _ _ _ _ N2
end Go.Proofs.YtnibmhjdomndbaaGreatDoor
