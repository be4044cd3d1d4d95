/-
  awake; the laws of Fits, Covers, Address.
-/
import Derived.Test.YtnibmhjdomndbaaDoorRtS
import Derived.Test.YtnibmhjdomndbaaDoorLawWp
namespace Go.Proofs.YtnibmhjdomndbaaDoor
open Go Go.Sv Go.Rt
set_option linter.unusedVariables false
theorem fits_is {p t : ByteArray} {b : Bool} {e : Int} (h : FitsR p t b e) (hp : isPat p = true) (ht : isTop t = true) (hm : Rt.Mp (parts p) (parts t)) : b = true ∧ e = 0 := by
  rcases h with ⟨h1, _⟩ | ⟨_, h2, _⟩ | ⟨_, _, h3, h4⟩
  · rw [hp] at h1; cases h1
  · rw [ht] at h2; cases h2
  · exact ⟨h4.2 hm, h3⟩
theorem cov_is {p t : ByteArray} {b : Bool} {e : Int} (h : CovR p t b e) (hp : isPat p = true) (ht : isPat t = true) (hm : Cov (parts p) (parts t)) : b = true ∧ e = 0 := by
  rcases h with ⟨h1, _⟩ | ⟨_, _, h3, h4⟩
  · exact absurd ⟨hp, ht⟩ h1
  · exact ⟨h4.2 hm, h3⟩
set_option maxRecDepth 100000 in
theorem awake_ok {w : World} {K : Value → World → Prop} (hk : ∀ w', Ch (fun _ => False) w w' → K (.bool true) w') : callP Tryd.prog 8 [] w K := by
  refine ok_longshorelaw18_awake ?_
  unfold wp_longshorelaw18_awake
  refine fits_prog (by decide) (by decide) fun b e w1 hf c1 => ⟨b, e, rfl, ?_⟩
  obtain ⟨rfl, rfl⟩ := fits_is hf (by decide +kernel) (by decide +kernel) (by
    have e1 : parts (⟨#[97, 46, 42, 46, 99]⟩ : ByteArray) = [⟨#[97]⟩, ⟨#[42]⟩, ⟨#[99]⟩] := by decide +kernel
    have e2 : parts (⟨#[97, 46, 98, 46, 99]⟩ : ByteArray) = [⟨#[97]⟩, ⟨#[98]⟩, ⟨#[99]⟩] := by decide +kernel
    rw [e1, e2]
    exact (Mp_part (by decide) _ _).2 ⟨_, _, rfl, .inr rfl, (Mp_part (by decide) _ _).2 ⟨_, _, rfl, .inl rfl, (Mp_part (by decide) _ _).2 ⟨_, _, rfl, .inr rfl, rfl⟩⟩⟩)
  refine covers_prog (by decide) (by decide) fun b e w2 hf c2 => ⟨b, e, rfl, ?_⟩
  obtain ⟨rfl, rfl⟩ := cov_is hf (by decide +kernel) (by decide +kernel) (by
    have e1 : parts (⟨#[97, 46, 35]⟩ : ByteArray) = [⟨#[97]⟩, Rt.hash] := by decide +kernel
    have e2 : parts (⟨#[97, 46, 42]⟩ : ByteArray) = [⟨#[97]⟩, ⟨#[42]⟩] := by decide +kernel
    rw [e1, e2]
    intro ws _ _ h
    obtain ⟨x, v, rfl, h1, h2⟩ := (Mp_part (by decide) _ _).1 h
    exact (Mp_part (by decide) _ _).2 ⟨x, v, rfl, h1, Mp_hash _⟩)
  refine addr_prog (by decide) fun w3 c3 => ?_
  have ea : addr (⟨#[113, 117, 101, 117, 101, 47, 113]⟩ : ByteArray) = (1, ⟨#[113]⟩, 0) := by decide +kernel
  unfold addrV
  rw [ea]
  refine ⟨1, ⟨#[113]⟩, 0, rfl, new_ok fun k r w4 R4 hk4 hr4 hkr c4 => ⟨_, rfl, Sif_false ?_⟩⟩
  refine bind_ok (x := (⟨#[97, 46, 42]⟩, ⟨#[113]⟩)) R4 hkr (by decide) (by decide) fun w5 R5 c5 => ?_
  have e5 : bindE [] ((⟨#[97, 46, 42]⟩, ⟨#[113]⟩) : ByteArray × ByteArray) = 0 := by
    rw [bindE, if_neg (by decide +kernel), if_neg (by decide +kernel), if_neg (by simp), if_neg (by simp)]
  rw [bindB, e5, if_pos rfl] at R5
  rw [e5]
  refine ⟨0, rfl, ?_⟩
  have hp : isPat (⟨#[97, 46, 42]⟩ : ByteArray) = true := by decide +kernel
  have ht : isTop (⟨#[97, 46, 98]⟩ : ByteArray) = true := by decide +kernel
  refine match_ok R5 (fun x hx => ?_) (by simp) (by decide) (fun h => absurd (h.symm.trans ht) (by decide)) fun _ p c bb M w6 N6 hA hM _ => ?_
  · have hx : x = (⟨#[97, 46, 42]⟩, ⟨#[113]⟩) := by simpa using hx
    rw [hx]; exact ⟨hp, by decide⟩
  · have eM : M = [⟨#[113]⟩] := hA.eq (by simp [Asc]) fun q => by
      rw [hM, List.mem_singleton, leads]
      have hm : Rt.Mp (parts (⟨#[97, 46, 42]⟩ : ByteArray)) (parts (⟨#[97, 46, 98]⟩ : ByteArray)) := by
        have e1 : parts (⟨#[97, 46, 42]⟩ : ByteArray) = [⟨#[97]⟩, ⟨#[42]⟩] := by decide +kernel
        have e2 : parts (⟨#[97, 46, 98]⟩ : ByteArray) = [⟨#[97]⟩, ⟨#[98]⟩] := by decide +kernel
        rw [e1, e2]
        exact (Mp_part (by decide) _ _).2 ⟨_, _, rfl, .inr rfl, (Mp_part (by decide) _ _).2 ⟨_, _, rfl, .inl rfl, rfl⟩⟩
      constructor
      · rintro ⟨x, hx, rfl, _⟩
        have hx : x = (⟨#[97, 46, 42]⟩, ⟨#[113]⟩) := by simpa using hx
        rw [hx]
      · rintro rfl
        exact ⟨_, List.mem_append.2 (.inr (List.mem_singleton.2 rfl)), rfl, hm⟩
    subst eM
    have c06 : Ch (fun _ => False) w w6 := (c1.trans' (c2.trans' (c3.trans' c4))).trans (c5.trans' (N6.ch.mono (S' := (· = r)) fun _ _ g => g.elim)) fun x hx e => by
      have := (c1.trans' (c2.trans' c3)).size
      rw [e] at hx; omega
    obtain ⟨b, o, rfl, hc⟩ := sAt N6.rd (i := 0) rfl
    refine ⟨_, _, _, _, rfl, Sif_true (Sif_true (Sif_true (Sif_true (Sif_true (Sif_cases (fun _ => Sif_true (Sif_true (Sif_true ⟨by decide, by decide, ?_⟩))) fun g => absurd ((str_eq_self ⟨#[113]⟩).symm.trans g) (by decide))))))⟩
    rw [nn_some]
    refine ⟨_, hc, Sif_cases (fun _ => ?_) fun g => absurd ((str_eq_self ⟨#[113]⟩).symm.trans g) (by decide)⟩
    exact hk _ c06
theorem reads_law {s : ByteArray} {w : World} {K : Value → World → Prop} (hs : s.size ≤ 2 ^ 40) (hk : ∀ w', Ch (fun _ => False) w w' → K (.bool true) w') : callP Tryd.prog 5 [.string s] w K := by
  refine ok_longshorelaw18_RouteReads ?_
  unfold wp_longshorelaw18_RouteReads
  refine awake_ok fun w1 c1 => ⟨_, rfl, Sif_false (addr_prog hs fun w2 c2 => ⟨_, _, _, rfl, addr_ref hs fun w3 c3 => ⟨_, _, _, rfl, ?_⟩⟩)⟩
  rw [beq_self_eq_true, beq_self_eq_true, beq_self_eq_true]
  exact Sif_true (Sif_true (hk _ (c1.trans' (c2.trans' c3))))
theorem fits_law {p t : ByteArray} {w : World} {K : Value → World → Prop} (hp : p.size ≤ 2 ^ 40) (ht : t.size ≤ 2 ^ 40) (hk : ∀ w', Ch (fun _ => False) w w' → K (.bool true) w') : callP Tryd.prog 3 [.string p, .string t] w K := by
  refine ok_longshorelaw18_RouteFits ?_
  unfold wp_longshorelaw18_RouteFits
  refine awake_ok fun w1 c1 => ⟨_, rfl, Sif_false (fits_prog hp ht fun b e w2 h2 c2 => ⟨_, _, rfl, fits_ref hp ht fun b' e' w3 h3 c3 => ⟨_, _, rfl, ?_⟩⟩)⟩
  obtain ⟨rfl, rfl⟩ := h2.one h3
  rw [beq_self_eq_true, beq_self_eq_true]
  exact Sif_true (hk _ (c1.trans' (c2.trans' c3)))
theorem covers_law {a b : ByteArray} {w : World} {K : Value → World → Prop} (ha : a.size ≤ 2 ^ 40) (hb : b.size ≤ 2 ^ 40) (hk : ∀ w', Ch (fun _ => False) w w' → K (.bool true) w') : callP Tryd.prog 4 [.string a, .string b] w K := by
  refine ok_longshorelaw18_RouteCovers ?_
  unfold wp_longshorelaw18_RouteCovers
  refine awake_ok fun w1 c1 => ⟨_, rfl, Sif_false (covers_prog ha hb fun x2 e2 w2 h2 c2 => ⟨_, _, rfl, covers_ref ha hb fun x3 e3 w3 h3 c3 => ⟨_, _, rfl, covers_prog hb ha fun x4 e4 w4 h4 c4 => ⟨_, _, rfl, covers_ref hb ha fun x5 e5 w5 h5 c5 => ⟨_, _, rfl, covers_prog ha ha fun x6 e6 w6 h6 c6 => ⟨_, _, rfl, covers_ref ha ha fun x7 e7 w7 h7 c7 => ⟨_, _, rfl, ?_⟩⟩⟩⟩⟩⟩)⟩
  obtain ⟨rfl, rfl⟩ := h2.one h3
  obtain ⟨rfl, rfl⟩ := h4.one h5
  obtain ⟨rfl, rfl⟩ := h6.one h7
  simp only [beq_self_eq_true]
  exact Sif_true (Sif_true (Sif_true (Sif_true (Sif_true (hk _ (c1.trans' (c2.trans' (c3.trans' (c4.trans' (c5.trans' (c6.trans' c7)))))))))))
theorem splitDot_pos (l : List UInt8) : 1 ≤ (splitDot l).length := by
  cases l with
  | nil => simp [splitDot]
  | cons b l =>
    unfold splitDot
    split
    · simp
    · split <;> simp
theorem parts_pos (s : ByteArray) : 1 ≤ (parts s).length := by unfold parts; rw [List.length_map]; exact splitDot_pos _
theorem top_pat {t : ByteArray} (h : isTop t = true) : isPat t = true ∧ (∀ x ∈ parts t, x ≠ star ∧ x ≠ Rt.hash) ∧ 1 ≤ (parts t).length ∧ (parts t).length ≤ 8 := by
  unfold isTop at h
  simp only [Bool.and_eq_true, decide_eq_true_eq] at h
  obtain ⟨h1, h2⟩ := h
  rw [List.all_eq_true] at h1
  have hn : ∀ x ∈ parts t, x ≠ star ∧ x ≠ Rt.hash := fun x hx => by
    constructor <;> (intro e; have := h1 x hx; rw [e] at this; revert this; decide)
  refine ⟨?_, hn, ?_, h2⟩
  · unfold isPat
    simp only [Bool.and_eq_true, decide_eq_true_eq]
    refine ⟨⟨List.all_eq_true.2 fun x hx => by rw [h1 x hx]; rfl, h2⟩, ?_⟩
    rw [List.count_eq_zero.2 fun g => (hn _ g).2 rfl]; decide
  · exact parts_pos t
theorem hash_pat : isPat Rt.hash = true ∧ parts Rt.hash = [Rt.hash] := by decide +kernel
theorem covR_self {a : ByteArray} {r : Bool} {e : Int} (h : CovR a a r e) : (isPat a = true ∧ r = true ∧ e = 0) ∨ (isPat a = false ∧ r = false ∧ e = 180) := by
  rcases h with ⟨h1, h2, h3⟩ | ⟨h1, _, h3, h4⟩
  · exact .inr ⟨by cases hp : isPat a; rfl; exact absurd ⟨hp, hp⟩ h1, h2, h3⟩
  · exact .inl ⟨h1, h4.2 (Cov.refl _), h3⟩
theorem covR_hash {a : ByteArray} {r : Bool} {e : Int} (h : CovR Rt.hash a r e) : (isPat a = true ∧ r = true ∧ e = 0) ∨ (isPat a = false ∧ r = false ∧ e = 180) := by
  rcases h with ⟨h1, h2, h3⟩ | ⟨_, h1, h3, h4⟩
  · exact .inr ⟨by cases hp : isPat a; rfl; exact absurd ⟨hash_pat.1, hp⟩ h1, h2, h3⟩
  · exact .inl ⟨h1, h4.2 (by rw [hash_pat.2]; exact Cov.all _), h3⟩
theorem covR_in {a b : ByteArray} {r : Bool} {e : Int} (h : CovR a b r e) (ha : isPat a = true) (hb : isPat b = true) : (r = true ↔ Cov (parts a) (parts b)) := by
  rcases h with ⟨h1, _⟩ | ⟨_, _, _, h4⟩
  · exact absurd ⟨ha, hb⟩ h1
  · exact h4
theorem fitsR_in {a t : ByteArray} {r : Bool} {e : Int} (h : FitsR a t r e) (ha : isPat a = true) : (isTop t = false ∧ r = false ∧ e = 82) ∨ (isTop t = true ∧ e = 0 ∧ (r = true ↔ Rt.Mp (parts a) (parts t))) := by
  rcases h with ⟨h1, _⟩ | ⟨_, h⟩ | ⟨_, h⟩
  · rw [ha] at h1; cases h1
  · exact .inl h
  · exact .inr h
theorem means_law {a b c t : ByteArray} {w : World} {K : Value → World → Prop} (ha : a.size ≤ 2 ^ 40) (hb : b.size ≤ 2 ^ 40) (hc : c.size ≤ 2 ^ 40) (ht : t.size ≤ 2 ^ 40) (hk : ∀ w', Ch (fun _ => False) w w' → K (.bool true) w') : callP Tryd.prog 6 [.string a, .string b, .string c, .string t] w K := by
  refine ok_longshorelaw18_RouteMeans ?_
  unfold wp_longshorelaw18_RouteMeans
  refine awake_ok fun w1 c1 => ⟨_, rfl, Sif_false (covers_prog ha ha fun x2 e2 w2 h2 c2 => ⟨_, _, rfl, covers_prog hb hb fun x3 e3 w3 h3 c3 => ⟨_, _, rfl, covers_prog hc hc fun x4 e4 w4 h4 c4 => ⟨_, _, rfl, covers_prog (a := Rt.hash) (by decide) ha fun x5 e5 w5 h5 c5 => ⟨_, _, rfl, ?_⟩⟩⟩⟩)⟩
  have c15 := c1.trans' (c2.trans' (c3.trans' (c4.trans' c5)))
  have g2 := covR_self h2
  have g3 := covR_self h3
  have g4 := covR_self h4
  have g5 := covR_hash h5
  refine ⟨fun w6 => w6 = w5, ?_, ?_⟩
  · rintro w6 rfl
    refine ⟨fun w7 => w7 = w6 ∧ isPat a = true ∧ isPat b = true ∧ isPat c = true, ?_, ?_⟩
    · rintro w7 ⟨rfl, pa, pb, pc⟩
      refine covers_prog ha hb fun x6 e6 w8 h6 c6 => ⟨_, _, rfl, covers_prog hb hc fun x7 e7 w9 h7 c7 => ⟨_, _, rfl, covers_prog ha hc fun x8 e8 w10 h8 c8 => ⟨_, _, rfl, ?_⟩⟩⟩
      have k6 := covR_in h6 pa pb
      have k7 := covR_in h7 pb pc
      have k8 := covR_in h8 pa pc
      have c18 := c15.trans' (c6.trans' (c7.trans' c8))
      refine ⟨fun w11 => w11 = w10, ?_, Sif_cases (fun g => Sif_cases (fun g' => Sif_cases (fun g'' => ?_) fun _ => rfl) fun _ => rfl) fun _ => rfl⟩
      rotate_left
      · have := k8.2 ((k6.1 g).trans (k7.1 g'))
        rw [this] at g''; cases g''
      rintro w11 rfl
      refine fits_prog ha ht fun x9 e9 w12 h9 c9 => ⟨_, _, rfl, fits_prog hb ht fun x10 e10 w13 h10 c10 => ⟨_, _, rfl, ?_⟩⟩
      have k9 := fitsR_in h9 pa
      have k10 := fitsR_in h10 pb
      have c110 := c18.trans' (c9.trans' c10)
      refine ⟨fun w14 => w14 = w13, ?_, ?_⟩
      · rintro w14 rfl
        refine Sif_cases (fun g => ?_) fun g => ?_
        · rcases k9 with ⟨t9, rfl, rfl⟩ | ⟨t9, rfl, _⟩
          · rcases k10 with ⟨_, rfl, rfl⟩ | ⟨t10, _⟩
            · exact Sif_true (hk _ c110)
            · rw [t9] at t10; cases t10
          · cases g
        · rcases k9 with ⟨t9, rfl, rfl⟩ | ⟨t9, rfl, m9⟩
          · cases g
          · rcases k10 with ⟨t10, _⟩ | ⟨_, rfl, m10⟩
            · rw [t9] at t10; cases t10
            obtain ⟨q1, q2, q3, q4⟩ := top_pat t9
            refine covers_prog ha ht fun x11 e11 w15 h11 c11 => ⟨_, _, rfl, ?_⟩
            have k11 := covR_in h11 pa q1
            rw [cov_topic q2 q3 q4, ← m9] at k11
            have e11 : x11 = x9 := by rw [Bool.eq_iff_iff]; exact k11
            rw [e11, beq_self_eq_true]
            have cc := c110.trans' c11
            refine Sif_true ?_
            rw [Bool.not_not, Bool.not_not]
            refine Sif_cases (fun g6 => Sif_cases (fun g10 => ?_) fun _ => hk _ cc) fun _ => hk _ cc
            have : x9 = true := m9.2 (k6.1 g6 _ q3 q4 (m10.1 g10))
            rw [this]; exact hk _ cc
      · rcases k9 with ⟨t9, rfl, rfl⟩ | ⟨t9, rfl, m9⟩
        · rcases k10 with ⟨_, rfl, rfl⟩ | ⟨t10, _⟩
          · exact Sif_true (Sif_true (Sif_false rfl))
          · rw [t9] at t10; cases t10
        · rcases k10 with ⟨t10, _⟩ | ⟨_, rfl, m10⟩
          · rw [t9] at t10; cases t10
          · exact Sif_true (Sif_false rfl)
    · rcases g2 with ⟨pa, rfl, rfl⟩ | ⟨pa, rfl, rfl⟩
      · rcases g3 with ⟨pb, rfl, rfl⟩ | ⟨pb, rfl, rfl⟩
        · rcases g4 with ⟨pc, rfl, rfl⟩ | ⟨pc, rfl, rfl⟩
          · exact Sif_true (Sif_true (Sif_false ⟨rfl, pa, pb, pc⟩))
          · exact Sif_true (Sif_true (Sif_true (hk _ c15)))
        · exact Sif_true (Sif_false (hk _ c15))
      · exact Sif_false (hk _ c15)
  · rcases g2 with ⟨pa, rfl, rfl⟩ | ⟨pa, rfl, rfl⟩
    · rcases g5 with ⟨_, rfl, rfl⟩ | ⟨pa2, _⟩
      · rcases g3 with ⟨pb, rfl, rfl⟩ | ⟨pb, rfl, rfl⟩ <;> rcases g4 with ⟨pc, rfl, rfl⟩ | ⟨pc, rfl, rfl⟩ <;> exact Sif_true (Sif_true (Sif_true (Sif_true (Sif_false rfl))))
      · rw [pa] at pa2; cases pa2
    · rcases g5 with ⟨pa2, _⟩ | ⟨_, rfl, rfl⟩
      · rw [pa] at pa2; cases pa2
      · rcases g3 with ⟨pb, rfl, rfl⟩ | ⟨pb, rfl, rfl⟩ <;> rcases g4 with ⟨pc, rfl, rfl⟩ | ⟨pc, rfl, rfl⟩ <;> exact Sif_true (Sif_true (Sif_true (Sif_true (Sif_false rfl))))
end Go.Proofs.YtnibmhjdomndbaaDoor
