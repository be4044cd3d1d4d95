/-
  parts, Topic, Pattern of the document; the program's cut.
-/
import Derived.Test.YtnibmhjdomndbaaDoorRtB
namespace Go.Proofs.YtnibmhjdomndbaaDoor
open Go Go.Sv Go.Rt
set_option linter.unusedVariables false
theorem dot_step {s : ByteArray} {f i : Nat} (hfi : f ≤ i) (hi : i < s.size) (hn : 46 ∉ (s.data.toList.drop f).take (i - f)) (h : byteAt s i = 46) : pcs (s.data.toList.drop f) = s.extract f i :: pcs (s.data.toList.drop (i + 1)) := by
  have hl : s.data.toList.length = s.size := by simp
  have e : s.data.toList.drop f = (s.data.toList.drop f).take (i - f) ++ 46 :: s.data.toList.drop (i + 1) := by
    have h1 : s.data.toList.drop i = 46 :: s.data.toList.drop (i + 1) := by
      have hi' : i < s.data.toList.length := by omega
      rw [← List.getElem_cons_drop hi']
      congr 1
      unfold byteAt at h
      rw [List.getD_eq_getElem?_getD, List.getElem?_eq_getElem hi', Option.getD_some] at h
      apply UInt8.toNat_inj.1
      have : ((46 : UInt8).toNat : Int) = 46 := rfl
      omega
    have h2 : s.data.toList.drop i = (s.data.toList.drop f).drop (i - f) := by rw [List.drop_drop]; congr 1; omega
    rw [← h1, h2, List.take_append_drop]
  have k1 : s.extract f i = ⟨((s.data.toList.drop f).take (i - f)).toArray⟩ := ba_of _ _ (by rw [extract_list, List.drop_take])
  rw [k1, pcs]
  conv => lhs; rw [e]
  rw [splitDot_at _ _ hn]; rfl
theorem dot_end {s : ByteArray} {f : Nat} (hn : 46 ∉ s.data.toList.drop f) : pcs (s.data.toList.drop f) = [s.extract f s.size] := by
  have k1 : s.extract f s.size = ⟨(s.data.toList.drop f).toArray⟩ := ba_of _ _ (by rw [extract_list, List.take_of_length_le (by simp)])
  rw [pcs, splitDot_none _ hn, k1]; rfl
set_option maxHeartbeats 2000000 in
theorem parts_ok {s : ByteArray} {w : World} {K : Value → World → Prop} (hs : s.size ≤ 2 ^ 40)
    (hk : ∀ p c b w', Nw w w' p c b (parts s) → K (.slice p (parts s).length c) w') : callP Tryd.prog 26 [.string s] w K := by
  refine ok_longshoreref18_parts ?_
  unfold wp_longshoreref18_parts
  have hsl : s.data.toList.length = s.size := by simp
  refine ⟨fun m p n c n1 n2 w1 => ∃ (f i : Nat) (L : List ByteArray) (b : Option Nat), n1 = (f : Int) ∧ n2 = (i : Int) ∧ f ≤ i ∧ m + i = s.size ∧ L.length ≤ i ∧ n = L.length ∧ Nw w w1 p c b L ∧ L ++ pcs (s.data.toList.drop f) = parts s ∧ 46 ∉ (s.data.toList.drop f).take (i - f),
    ⟨s.size, 0, 0, [], none, rfl, rfl, Nat.le_refl _, rfl, Nat.le_refl _, rfl, Nw.nil w, rfl, by simp⟩, ?_⟩
  rintro m p n c n1 n2 w1 ⟨f, i, L, b, rfl, rfl, hfi, hm, hLi, rfl, hN, hL, hn⟩
  refine Sif_cases (fun h => ?_) fun h => ?_
  · have h := of_decide_eq_true h
    refine ⟨fun p1 n3 c1 n4 w2 => ∃ (f' : Nat) (L' : List ByteArray) (b' : Option Nat), n4 = (f' : Int) ∧ f' ≤ i + 1 ∧ L'.length ≤ i + 1 ∧ n3 = L'.length ∧ Nw w w2 p1 c1 b' L' ∧ L' ++ pcs (s.data.toList.drop f') = parts s ∧ 46 ∉ (s.data.toList.drop f').take (i + 1 - f'), ?_, by omega, h, ?_⟩
    · rintro p1 n3 c1 n4 w2 ⟨f', L', b', rfl, q1, q2, rfl, q3, q4, q5⟩
      rw [nameI_iff, wrap_id (n := (i : Int) + 1) (by omega) (by omega)]
      exact ⟨m - 1, by omega, f', i + 1, L', b', rfl, by omega, q1, by omega, q2, rfl, q3, q4, q5⟩
    · rw [Int.toNat_natCast]
      refine Sif_cases (fun h2 => ⟨by omega, by omega, by omega, by omega, ?_⟩) fun h2 => ⟨f, L, b, rfl, by omega, by omega, rfl, hN, hL, ?_⟩
      · have h2 : byteAt s i = 46 := by simpa using h2
        have k := dot_step hfi (by omega) hn h2
        simp only [Int.toNat_natCast]
        refine hN.push _ (by omega) fun p' c' b' w2 N2 _ _ => ?_
        rw [nameI_iff, wrap_id (n := (i : Int) + 1) (by omega) (by omega)]
        exact ⟨i + 1, _, b', by omega, Nat.le_refl _, by simp; omega, rfl, N2, by rw [List.append_assoc, List.singleton_append, ← k]; exact hL, by simp⟩
      · have h2 : byteAt s i ≠ 46 := by simpa using h2
        have hi' : i < s.data.toList.length := by omega
        have e : i + 1 - f = (i - f) + 1 := by omega
        rw [e, List.take_add_one, List.getElem?_drop, show f + (i - f) = i by omega, List.getElem?_eq_getElem hi', Option.toList_some]
        intro h3
        rcases List.mem_append.1 h3 with h3 | h3
        · exact hn h3
        · apply h2
          unfold byteAt
          rw [List.getD_eq_getElem?_getD, List.getElem?_eq_getElem hi', Option.getD_some, ← List.mem_singleton.1 h3]; rfl
  · have h := of_decide_eq_false h
    have hi : i = s.size := by omega
    subst hi
    refine ⟨by omega, by omega, ?_⟩
    simp only [Int.toNat_natCast]
    refine hN.push _ (by omega) fun p' c' b' w2 N2 _ _ => ?_
    have hd := dot_end (s := s) (f := f) (by rw [List.take_of_length_le (by simp)] at hn; exact hn)
    rw [hd] at hL
    rw [hL] at N2 ⊢
    exact hk _ _ _ _ N2
end Go.Proofs.YtnibmhjdomndbaaDoor
