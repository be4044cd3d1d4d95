/-
  Both readings of an address.
-/
import Derived.Test.YtnibmhjdomndbaaDoorRtE
namespace Go.Proofs.YtnibmhjdomndbaaDoor
open Go Go.Sv Go.Rt
set_option linter.unusedVariables false
abbrev sTxns : ByteArray := ⟨#[116, 120, 110, 115]⟩
abbrev sQ : ByteArray := ⟨#[113, 117, 101, 117, 101, 47]⟩
abbrev sT : ByteArray := ⟨#[116, 111, 112, 105, 99, 47]⟩
def addrV (s : ByteArray) : Value := .tuple #[.int .i64 (addr s).1, .string (addr s).2.1, .int .i64 (addr s).2.2]
theorem trim6 {s : ByteArray} {l : List UInt8} (hl : l.length = 6) (h : Lib.hasPrefix s.data.toList l = true) : (⟨(Lib.trimPrefix s.data.toList l).toArray⟩ : ByteArray) = s.extract 6 s.size := by
  rw [Lib.trimPrefix, if_pos h, hl]
  exact (ba_of _ _ (by rw [extract_list, List.take_of_length_le (by simp)])).symm
theorem pre_iff {s : ByteArray} {l : List UInt8} (hl : l.length = 6) (h6 : 6 ≤ s.size) : Lib.hasPrefix s.data.toList l = (s.extract 0 6 == ⟨l.toArray⟩) := by
  rw [Lib.hasPrefix]
  have hsl : s.data.toList.length = s.size := by simp
  by_cases h : s.extract 0 6 = ⟨l.toArray⟩
  · rw [h, beq_self_eq_true]
    rw [List.isPrefixOf_iff_prefix]
    have := congrArg (fun x => x.data.toList) h
    simp only [extract_list, List.drop_zero] at this
    rw [← this]; exact List.take_prefix _ _
  · rw [beq_eq_false_iff_ne.2 h]
    rw [Bool.eq_false_iff]
    intro h2
    rw [List.isPrefixOf_iff_prefix] at h2
    apply h
    apply data_ext
    rw [extract_list, List.drop_zero]
    rw [List.prefix_iff_eq_take] at h2
    rw [← hl]; exact h2.symm
theorem pre_short {s : ByteArray} {l : List UInt8} (hl : l.length = 6) (h : Lib.hasPrefix s.data.toList l = true) : 6 ≤ s.size := by
  rw [Lib.hasPrefix, List.isPrefixOf_iff_prefix] at h
  have := h.length_le
  have hsl : s.data.toList.length = s.size := by simp
  omega
theorem named_empty : named ⟨#[]⟩ = false := by decide
theorem pat_empty : isPat ⟨#[]⟩ = false := by decide
theorem fine_pat {s : ByteArray} {b : Bool} (h : isPat s = b) : fine true s = b := h
set_option maxHeartbeats 1000000 in
theorem addr_prog {s : ByteArray} {w : World} {K : Value → World → Prop} (hs : s.size ≤ 2 ^ 40) (hk : ∀ w', Ch (fun _ => False) w w' → K (addrV s) w') : callP Tryd.prog 13 [.string s] w K := by
  refine ok_route_Address ?_
  unfold wp_route_Address
  have hx : (s.extract 6 s.size).size ≤ 2 ^ 40 := by rw [ByteArray.size_extract]; omega
  unfold addrV addr at hk
  refine Sif_cases (fun h => ?_) fun h => ?_
  · rw [if_pos (eqS h)] at hk; exact hk _ (Ch.refl _ _)
  · rw [if_neg (fun e => by rw [e, str_eq_self] at h; cases h)] at hk
    refine ⟨fun w1 => Ch (fun _ => False) w w1 ∧ (Lib.hasPrefix s.data.toList [113, 117, 101, 117, 101, 47] && named (s.extract 6 s.size)) = false, ?_, cutPrefix_ok ⟨_, _, rfl, Sif_cases (fun h1 => ?_) fun h1 => ⟨Ch.refl _ _, ?_⟩⟩⟩
    · rintro w1 ⟨c1, h1⟩
      rw [h1, if_neg (by decide)] at hk
      refine ⟨fun w1 => Ch (fun _ => False) w w1 ∧ (Lib.hasPrefix s.data.toList [116, 111, 112, 105, 99, 47] && isPat (s.extract 6 s.size)) = false, ?_, cutPrefix_ok ⟨_, _, rfl, Sif_cases (fun h2 => ?_) fun h2 => ⟨c1, ?_⟩⟩⟩
      · rintro w2 ⟨c2, h2⟩
        rw [h2, if_neg (by decide)] at hk
        exact hk _ c2
      · have h2 : Lib.hasPrefix s.data.toList [116, 111, 112, 105, 99, 47] = true := h2
        have e := trim6 rfl h2
        refine cut_ok (by rw [e]; exact hx) (fun hf w2 hc => ⟨_, _, _, rfl, Sif_true ?_⟩) fun hf w2 c2 => ⟨_, _, _, rfl, Sif_false ⟨c1.trans' c2, ?_⟩⟩
        · rw [e] at hf ⊢
          have hf : isPat (s.extract 6 s.size) = true := hf
          rw [h2, hf, Bool.and_true, if_pos rfl] at hk
          exact hk _ (c1.trans' hc.1.ch)
        · rw [e] at hf
          have hf : isPat (s.extract 6 s.size) = false := hf
          rw [hf, Bool.and_false]
      · have h2 : Lib.hasPrefix s.data.toList [116, 111, 112, 105, 99, 47] = false := h2
        rw [h2, Bool.false_and]
    · have h1 : Lib.hasPrefix s.data.toList [113, 117, 101, 117, 101, 47] = true := h1
      have e := trim6 rfl h1
      refine isName_ok (by rw [e]; exact hx) ⟨_, rfl, Sif_cases (fun hf => ?_) fun hf => ⟨Ch.refl _ _, ?_⟩⟩
      · rw [e] at hf ⊢
        rw [h1, hf, Bool.and_true, if_pos rfl] at hk
        exact hk _ (Ch.refl _ _)
      · rw [e] at hf
        rw [hf, Bool.and_false]
    · have h1 : Lib.hasPrefix s.data.toList [113, 117, 101, 117, 101, 47] = false := h1
      rw [h1, Bool.false_and]
set_option maxHeartbeats 1000000 in
theorem addr_ref {s : ByteArray} {w : World} {K : Value → World → Prop} (hs : s.size ≤ 2 ^ 40) (hk : ∀ w', Ch (fun _ => False) w w' → K (addrV s) w') : callP Tryd.prog 14 [.string s] w K := by
  refine ok_longshoreref18_Address ?_
  unfold wp_longshoreref18_Address
  have hx : (s.extract 6 s.size).size ≤ 2 ^ 40 := by rw [ByteArray.size_extract]; omega
  unfold addrV addr at hk
  refine Sif_cases (fun h => ?_) fun h => ?_
  · rw [if_pos (eqS h)] at hk; exact hk _ (Ch.refl _ _)
  · rw [if_neg (fun e => by rw [e, str_eq_self] at h; cases h)] at hk
    refine ⟨fun w1 => Ch (fun _ => False) w w1 ∧ (Lib.hasPrefix s.data.toList [113, 117, 101, 117, 101, 47] && named (s.extract 6 s.size)) = false ∧ (Lib.hasPrefix s.data.toList [116, 111, 112, 105, 99, 47] && isPat (s.extract 6 s.size)) = false, ?_, Sif_cases (fun h6 => ?_) fun h6 => ⟨Ch.refl _ _, ?_⟩⟩
    · rintro w1 ⟨c1, h1, h2⟩
      rw [h1, h2, if_neg (by decide), if_neg (by decide)] at hk
      exact hk _ c1
    · have h6 := of_decide_eq_true h6
      refine ⟨by decide, by omega, named_ok hx ⟨_, rfl, by decide, by omega, pattern_ok hx fun w2 c2 => ⟨_, rfl, ?_⟩⟩⟩
      have e1 := pre_iff (s := s) (l := [113, 117, 101, 117, 101, 47]) rfl (by omega)
      have e2 := pre_iff (s := s) (l := [116, 111, 112, 105, 99, 47]) rfl (by omega)
      refine ⟨fun w3 => w3 = w2 ∧ (Lib.hasPrefix s.data.toList [113, 117, 101, 117, 101, 47] && named (s.extract 6 s.size)) = false, ?_, by decide, by omega, ?_⟩
      · rintro w3 ⟨rfl, h1⟩
        rw [h1, if_neg (by decide)] at hk
        refine ⟨by decide, by omega, ?_⟩
        rw [beq_ba]
        refine Sif_cases (fun h2 => Sif_cases (fun h3 => ⟨by decide, by omega, ?_⟩) fun h3 => ⟨c2, h1, ?_⟩) fun h2 => ⟨c2, h1, ?_⟩
        · rw [e2, show (s.extract 0 6 == (⟨[116, 111, 112, 105, 99, 47].toArray⟩ : ByteArray)) = true from h2, h3, Bool.and_true, if_pos rfl] at hk
          exact hk _ (c2.trans' (Ch.drew _))
        · rw [h3, Bool.and_false]
        · rw [e2, show (s.extract 0 6 == (⟨[116, 111, 112, 105, 99, 47].toArray⟩ : ByteArray)) = false from h2, Bool.false_and]
      · rw [beq_ba]
        refine Sif_cases (fun h2 => Sif_cases (fun h3 => ⟨by decide, by omega, ?_⟩) fun h3 => ⟨rfl, ?_⟩) fun h2 => ⟨rfl, ?_⟩
        · rw [e1, show (s.extract 0 6 == (⟨[113, 117, 101, 117, 101, 47].toArray⟩ : ByteArray)) = true from h2, h3, Bool.and_true, if_pos rfl] at hk
          exact hk _ (c2.trans' (Ch.drew _))
        · rw [h3, Bool.and_false]
        · rw [e1, show (s.extract 0 6 == (⟨[113, 117, 101, 117, 101, 47].toArray⟩ : ByteArray)) = false from h2, Bool.false_and]
    · have h6 := of_decide_eq_false h6
      have he : s.extract 6 s.size = ⟨#[]⟩ := size0 (by rw [ByteArray.size_extract]; omega)
      rw [he, named_empty, pat_empty, Bool.and_false, Bool.and_false]
      exact ⟨rfl, rfl⟩
end Go.Proofs.YtnibmhjdomndbaaDoor
