/-
  awake; the laws of Fits, Covers, Address.
-/
import Derived.Test.YtnibmhjdomndbaaGreatDoorRtS
namespace Go.Proofs.YtnibmhjdomndbaaGreatDoor
open Go Go.Sv Go.Rt
set_option linter.unusedVariables false
theorem fits_is {p t : ByteArray} {b : Bool} {e : Int} (h : FitsR p t b e) (hp : isPat p = true) (ht : isTop t = true) (hm : Rt.Mp (parts p) (parts t)) : b = true ∧ e = 0 := by
  rcases h with ⟨h1, _⟩ | ⟨_, h2, _⟩ | ⟨_, _, h3, h4⟩
  · rw [hp] at h1; cases h1
  · rw [ht] at h2; cases h2
  · exact ⟨h4.2 hm, h3⟩
theorem cov_is {p t : ByteArray} {b : Bool} {e : Int} (h : CovR p t b e) (hp : isPat p = true) (ht : isPat t = true) (hm : Cov (parts p) (parts t)) : b = true ∧ e = 0 := by
  rcases h with ⟨h1, _⟩ | ⟨_, _, h3, h4⟩
  · exact absurd ⟨hp, ht⟩ h1
  · exact ⟨h4.2 hm, h3⟩
set_option maxRecDepth 100000 in
theorem awake_ok {w : World} {K : Value → World → Prop} (hk : ∀ w', Ch (fun _ => False) w w' → K (.bool true) w') : callP Tryz.prog 4 [] w K := by
  refine ok_longshorelaw18_awake ?_
  unfold wp_longshorelaw18_awake
  refine fits_prog (by decide) (by decide) fun b e w1 hf c1 => ⟨b, e, rfl, ?_⟩
  obtain ⟨rfl, rfl⟩ := fits_is hf (by decide +kernel) (by decide +kernel) (by
    have e1 : parts (⟨#[97, 46, 42, 46, 99]⟩ : ByteArray) = [⟨#[97]⟩, ⟨#[42]⟩, ⟨#[99]⟩] := by decide +kernel
    have e2 : parts (⟨#[97, 46, 98, 46, 99]⟩ : ByteArray) = [⟨#[97]⟩, ⟨#[98]⟩, ⟨#[99]⟩] := by decide +kernel
    rw [e1, e2]
    exact (Mp_part (by decide) _ _).2 ⟨_, _, rfl, .inr rfl, (Mp_part (by decide) _ _).2 ⟨_, _, rfl, .inl rfl, (Mp_part (by decide) _ _).2 ⟨_, _, rfl, .inr rfl, rfl⟩⟩⟩)
  refine covers_prog (by decide) (by decide) fun b e w2 hf c2 => ⟨b, e, rfl, ?_⟩
  obtain ⟨rfl, rfl⟩ := cov_is hf (by decide +kernel) (by decide +kernel) (by
    have e1 : parts (⟨#[97, 46, 35]⟩ : ByteArray) = [⟨#[97]⟩, Rt.hash] := by decide +kernel
    have e2 : parts (⟨#[97, 46, 42]⟩ : ByteArray) = [⟨#[97]⟩, ⟨#[42]⟩] := by decide +kernel
    rw [e1, e2]
    intro ws _ _ h
    obtain ⟨x, v, rfl, h1, h2⟩ := (Mp_part (by decide) _ _).1 h
    exact (Mp_part (by decide) _ _).2 ⟨x, v, rfl, h1, Mp_hash _⟩)
  refine addr_prog (by decide) fun w3 c3 => ?_
  have ea : addr (⟨#[113, 117, 101, 117, 101, 47, 113]⟩ : ByteArray) = (1, ⟨#[113]⟩, 0) := by decide +kernel
  unfold addrV
  rw [ea]
  refine ⟨1, ⟨#[113]⟩, 0, rfl, new_ok fun k r w4 R4 hk4 hr4 hkr c4 => ⟨_, rfl, Sif_false ?_⟩⟩
  refine bind_ok (x := (⟨#[97, 46, 42]⟩, ⟨#[113]⟩)) R4 hkr (by decide) (by decide) fun w5 R5 c5 => ?_
  have e5 : bindE [] ((⟨#[97, 46, 42]⟩, ⟨#[113]⟩) : ByteArray × ByteArray) = 0 := by
    rw [bindE, if_neg (by decide +kernel), if_neg (by decide +kernel), if_neg (by simp), if_neg (by simp)]
  rw [bindB, e5, if_pos rfl] at R5
  rw [e5]
  refine ⟨0, rfl, ?_⟩
  have hp : isPat (⟨#[97, 46, 42]⟩ : ByteArray) = true := by decide +kernel
  have ht : isTop (⟨#[97, 46, 98]⟩ : ByteArray) = true := by decide +kernel
  refine match_ok R5 (fun x hx => ?_) (by simp) (by decide) (fun h => absurd (h.symm.trans ht) (by decide)) fun _ p c bb M w6 N6 hA hM _ => ?_
  · have hx : x = (⟨#[97, 46, 42]⟩, ⟨#[113]⟩) := by simpa using hx
    rw [hx]; exact ⟨hp, by decide⟩
  · have eM : M = [⟨#[113]⟩] := hA.eq (by simp [Asc]) fun q => by
      rw [hM, List.mem_singleton, leads]
      have hm : Rt.Mp (parts (⟨#[97, 46, 42]⟩ : ByteArray)) (parts (⟨#[97, 46, 98]⟩ : ByteArray)) := by
        have e1 : parts (⟨#[97, 46, 42]⟩ : ByteArray) = [⟨#[97]⟩, ⟨#[42]⟩] := by decide +kernel
        have e2 : parts (⟨#[97, 46, 98]⟩ : ByteArray) = [⟨#[97]⟩, ⟨#[98]⟩] := by decide +kernel
        rw [e1, e2]
        exact (Mp_part (by decide) _ _).2 ⟨_, _, rfl, .inr rfl, (Mp_part (by decide) _ _).2 ⟨_, _, rfl, .inl rfl, rfl⟩⟩
      constructor
      · rintro ⟨x, hx, rfl, _⟩
        have hx : x = (⟨#[97, 46, 42]⟩, ⟨#[113]⟩) := by simpa using hx
        rw [hx]
      · rintro rfl
        exact ⟨_, List.mem_append.2 (.inr (List.mem_singleton.2 rfl)), rfl, hm⟩
    subst eM
    have c06 : Ch (fun _ => False) w w6 := (c1.trans' (c2.trans' (c3.trans' c4))).trans (c5.trans' (N6.ch.mono (S' := (· = r)) fun _ _ g => g.elim)) fun x hx e => by
      have := (c1.trans' (c2.trans' c3)).size
      rw [e] at hx; omega
    obtain ⟨b, o, rfl, hc⟩ := sAt N6.rd (i := 0) rfl
    refine ⟨_, _, _, _, rfl, Sif_true (Sif_true (Sif_true (Sif_true (Sif_true (Sif_cases (fun _ => Sif_true (Sif_true (Sif_true ⟨by decide, by decide, ?_⟩))) fun g => absurd ((str_eq_self ⟨#[113]⟩).symm.trans g) (by decide))))))⟩
    rw [nn_some]
    refine ⟨_, hc, Sif_cases (fun _ => ?_) fun g => absurd ((str_eq_self ⟨#[113]⟩).symm.trans g) (by decide)⟩
    exact hk _ c06
theorem splitDot_pos (l : List UInt8) : 1 ≤ (splitDot l).length := by
  cases l with
  | nil => simp [splitDot]
  | cons b l =>
    unfold splitDot
    split
    · simp
    · split <;> simp
theorem parts_pos (s : ByteArray) : 1 ≤ (parts s).length := by unfold parts; rw [List.length_map]; exact splitDot_pos _
theorem top_pat {t : ByteArray} (h : isTop t = true) : isPat t = true ∧ (∀ x ∈ parts t, x ≠ star ∧ x ≠ Rt.hash) ∧ 1 ≤ (parts t).length ∧ (parts t).length ≤ 8 := by
  unfold isTop at h
  simp only [Bool.and_eq_true, decide_eq_true_eq] at h
  obtain ⟨h1, h2⟩ := h
  rw [List.all_eq_true] at h1
  have hn : ∀ x ∈ parts t, x ≠ star ∧ x ≠ Rt.hash := fun x hx => by
    constructor <;> (intro e; have := h1 x hx; rw [e] at this; revert this; decide)
  refine ⟨?_, hn, ?_, h2⟩
  · unfold isPat
    simp only [Bool.and_eq_true, decide_eq_true_eq]
    refine ⟨⟨List.all_eq_true.2 fun x hx => by rw [h1 x hx]; rfl, h2⟩, ?_⟩
    rw [List.count_eq_zero.2 fun g => (hn _ g).2 rfl]; decide
  · exact parts_pos t
theorem hash_pat : isPat Rt.hash = true ∧ parts Rt.hash = [Rt.hash] := by decide +kernel
theorem covR_self {a : ByteArray} {r : Bool} {e : Int} (h : CovR a a r e) : (isPat a = true ∧ r = true ∧ e = 0) ∨ (isPat a = false ∧ r = false ∧ e = 180) := by
  rcases h with ⟨h1, h2, h3⟩ | ⟨h1, _, h3, h4⟩
  · exact .inr ⟨by cases hp : isPat a; rfl; exact absurd ⟨hp, hp⟩ h1, h2, h3⟩
  · exact .inl ⟨h1, h4.2 (Cov.refl _), h3⟩
theorem covR_hash {a : ByteArray} {r : Bool} {e : Int} (h : CovR Rt.hash a r e) : (isPat a = true ∧ r = true ∧ e = 0) ∨ (isPat a = false ∧ r = false ∧ e = 180) := by
  rcases h with ⟨h1, h2, h3⟩ | ⟨_, h1, h3, h4⟩
  · exact .inr ⟨by cases hp : isPat a; rfl; exact absurd ⟨hash_pat.1, hp⟩ h1, h2, h3⟩
  · exact .inl ⟨h1, h4.2 (by rw [hash_pat.2]; exact Cov.all _), h3⟩
theorem covR_in {a b : ByteArray} {r : Bool} {e : Int} (h : CovR a b r e) (ha : isPat a = true) (hb : isPat b = true) : (r = true ↔ Cov (parts a) (parts b)) := by
  rcases h with ⟨h1, _⟩ | ⟨_, _, _, h4⟩
  · exact absurd ⟨ha, hb⟩ h1
  · exact h4
theorem fitsR_in {a t : ByteArray} {r : Bool} {e : Int} (h : FitsR a t r e) (ha : isPat a = true) : (isTop t = false ∧ r = false ∧ e = 82) ∨ (isTop t = true ∧ e = 0 ∧ (r = true ↔ Rt.Mp (parts a) (parts t))) := by
  rcases h with ⟨h1, _⟩ | ⟨_, h⟩ | ⟨_, h⟩
  · rw [ha] at h1; cases h1
  · exact .inl h
  · exact .inr h
end Go.Proofs.YtnibmhjdomndbaaGreatDoor
