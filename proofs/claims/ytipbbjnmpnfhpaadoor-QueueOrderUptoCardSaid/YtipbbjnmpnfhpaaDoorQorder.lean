/-
  QueueOrder: the walk.
-/
import Derived.Test.YtipbbjnmpnfhpaaDoorQordw
namespace Go.Proofs.YtipbbjnmpnfhpaaDoor
open Go Go.Sv Go.Heap Go.Qu Go.MapKept
set_option linter.unusedVariables false
set_option maxRecDepth 20000
theorem order_law {w : World} {p0 pt : Option Addr} {c0 nt ct : Nat} {Es : List EX} {Ts : List Int} {K : Value → World → Prop} (hE : Rd w p0 Es.length 7 ((Es.map (·.1)).flatMap En.cells)) (hin : ∀ x ∈ Es, EIn w x) (hEl : Es.length ≤ 2 ^ 20) (hT : Rd w pt nt 1 (Ts.flatMap iC)) (hTn : Ts.length = nt) (hk : ∀ w', Ch (fun _ => False) w w' → K (.bool true) w') :
    callP Tryd.prog 5 [.slice p0 Es.length c0, .slice pt nt ct] w K := by
  refine ok_longshorelaw17_QueueOrder ?_
  unfold wp_longshorelaw17_QueueOrder
  refine live_ok fun w1 ch1 => ⟨_, rfl, ?_⟩
  refine qnew_ok (c := cO) (by decide) (by decide) (fun h => absurd h (by decide)) fun _ w2 qb B2 Q2 n2 ch2 => ⟨_, rfl, ?_⟩
  refine ⟨fun w3 => w3 = w2, ?_, Sif_true (Sif_false (by trivial))⟩
  rintro w3 rfl
  have c02 : Ch (fun _ => False) w w3 := ch1.trans' ch2
  have O2 : OS w w3 qb ⟨cO, [], 0⟩ B2 [] none 0 0 none := ⟨Q2, fun b hb => by have := n2 b hb; have := ch1.size; omega, by simpa using Ow.nil, rfl, (fun b h => by cases h), (fun x h => by simp at h), rfl, (fun e h => by simp at h), c02⟩
  refine ⟨fun m p1 n c n1 n2 w4 => ∃ (i : Nat) (A : AQ) (B : Nat → Prop) (X : List EX) (own : Option Nat), n1 = (i : Int) ∧ n2 = (i : Int) ∧ i ≤ Es.length ∧ m = Es.length - i ∧ OS w w4 qb A B X p1 n c own ∧ A.last ≤ (i : Int) ∧ X.length ≤ i ∧ (i = 0 ∨ i = Es.length → X = []), ⟨Es.length, 0, _, _, [], none, rfl, rfl, Nat.zero_le _, rfl, O2, Int.le_refl _, Nat.le_refl _, fun _ => rfl⟩, ?_⟩
  rintro m p1 n c _ _ w4 ⟨i, A, B, X, own, rfl, rfl, hi, rfl, O4, hlast, hXi, hemp⟩
  refine Sif_cases (fun hlt => ?_) fun hge => ?_
  rotate_left
  · have hie : i = Es.length := by
      have : ¬ (i : Int) < (Es.length : Int) := by simpa using hge
      omega
    have hX := hemp (.inr hie)
    have hA : A.L = [] := by rw [O4.eq, hX]; rfl
    refine qlen_ok O4.q ⟨_, _, rfl, ?_⟩
    rw [hA]
    exact Sif_true (hk w4.drew (O4.ch.trans' (Ch.drew w4)))
  have hlt : i < Es.length := by
    have : (i : Int) < (Es.length : Int) := by simpa using hlt
    omega
  refine ⟨fun p2 n3 c1 n4 w5 => ∃ (A : AQ) (B : Nat → Prop) (X : List EX) (own : Option Nat), n4 = ((i + 1 : Nat) : Int) ∧ OS w w5 qb A B X p2 n3 c1 own ∧ A.last ≤ ((i + 1 : Nat) : Int) ∧ X.length ≤ i + 1 ∧ (i + 1 = Es.length → X = []), ?_, ?_⟩
  · rintro p2 n3 c1 n4 w5 ⟨A, B, X, own, rfl, O, hl, hx, he⟩
    rw [wrap_id (by omega) (by omega), nameI_iff]
    exact ⟨Es.length - (i + 1), by omega, i + 1, A, B, X, own, rfl, by omega, hlt, rfl, O, hl, hx, fun h => he (by omega)⟩
  have hw1 : IntKind.wrap .i64 ((i : Int) + 1) = ((i + 1 : Nat) : Int) := by rw [wrap_id (by omega) (by omega)]; rfl
  have hw1' : IntKind.wrap .i64 (1 + (i : Int)) = ((i + 1 : Nat) : Int) := by rw [wrap_id (by omega) (by omega)]; omega
  rw [hw1, nameI_iff, hw1']
  obtain ⟨x, hx⟩ : ∃ x, Es[i]? = some x := ⟨_, List.getElem?_eq_getElem hlt⟩
  have hxE := hin x (List.mem_of_getElem? hx)
  have hxe : (Es.map (·.1))[i]? = some x.1 := by rw [List.getElem?_map, hx]; rfl
  obtain ⟨kb, o, hpp, hc⟩ := (hE.ch O4.ch fun _ _ _ => id).at En.cells_len hxe (by decide)
  refine ⟨by omega, by omega, ?_⟩
  rw [hpp]
  simp only [nn_some, add_at, Int.toNat_natCast]
  refine ⟨_, hc 0 _ rfl, _, hc 1 _ rfl, _, hc 2 _ rfl, _, hc 3 _ rfl, _, hc 4 _ rfl, _, hc 5 _ rfl, _, _, _, hc 6 _ rfl, ?_⟩
  refine newE (e0 := En0) (e := x.1) fun w12 b12 c12 z12 => ?_
  simp only [add_at, Nat.zero_add]
  refine st_blk b12 (by simp [En.cells]) fun w13 b13 c13 z13 => st_blk b13 (by simp [En.cells]) fun w14 b14 c14 z14 => ?_
  -- the entry that is put
  obtain ⟨x', hx'⟩ : ∃ x' : EX, x' = ({ x.1 with seq := ((i + 1 : Nat) : Int), hold := 0 }, x.2) := ⟨_, rfl⟩
  have b14 : blk w14 w4.heap.size = some x'.1.cells := by rw [hx']; exact b14
  have c414 : Ch (fun _ => False) w4 w14 := c12.trans (c13.trans' c14) fun b hb h => by omega
  have O14 := O4.next0 c414
  have hx'E : EIn w x' := by rw [hx']; exact ⟨hxE.rd, hxE.n⟩
  refine rdN b14 ?_
  have hrd14 : Rd w14 x'.1.p x'.1.n 1 (bytesV x'.2) := hx'E.rd.ch O14.ch fun _ _ _ => id
  refine qput_ok (e := x'.1) (l := x'.2) O14.q hrd14 (fun a ha h0 hb => by have := hx'E.rd.lt a ha h0; have := O14.new _ hb; omega) (by have := hx'E.n; omega) (by rw [hx']; show ((i + 1 : Nat) : Int) ≤ _; omega) fun w15 B15 Q15 c15 n15 => ⟨_, rfl, ?_⟩
  obtain ⟨d1, d2, d3, d4⟩ := O14.did Q15 c15 n15
  have b15 : blk w15 w4.heap.size = some x'.1.cells := by rw [c15.blk (blk_lt b14) fun hb => by have := O4.q.lt _ hb; omega]; exact b14
  -- behind the put, and the list
  refine ⟨fun p4 n17 c3 w16 => ∃ (A : AQ) (B : Nat → Prop) (X : List EX) (own : Option Nat), OS w w16 qb A B X p4 n17 c3 own ∧ A.last ≤ ((i + 1 : Nat) : Int) ∧ X.length ≤ i + 1, ?_, ?_⟩
  rotate_left
  · have hseq : x'.pe.seq = ((i + 1 : Nat) : Int) := by rw [hx']; rfl
    have hhold : x'.pe.hold = 0 := by rw [hx']; rfl
    have hcase : ((A.put x'.pe).1 = 0 ∧ (A.put x'.pe).2 = { A with L := A.L ++ [x'.pe], last := x'.pe.seq }) ∨ ((A.put x'.pe).1 ≠ 0 ∧ (A.put x'.pe).2 = A) := by
      unfold AQ.put
      split
      · exact .inr ⟨by show (171 : Int) ≠ 0; decide, rfl⟩
      · split
        · exact .inr ⟨by show (2 : Int) ≠ 0; decide, rfl⟩
        · split
          · exact .inr ⟨by show (170 : Int) ≠ 0; decide, rfl⟩
          · exact .inl ⟨rfl, rfl⟩
    have Q15 : QK w15 qb (A.put x'.pe).2 B15 := Q15
    show Sif ((A.put x'.pe).1 == 0) _ _
    rcases hcase with ⟨h1, h2⟩ | ⟨h1, h2⟩
    · rw [h1]
      rw [h2] at Q15
      refine Sif_true ?_
      simp only [add_at, Nat.zero_add]
      refine rdN b15 ?_
      have hXl : (X.map (·.1)).length = X.length := List.length_map ..
      have d2' := d2
      rw [O4.len] at d2' ⊢
      rw [← hXl] at d2' ⊢
      refine push_ok (g := En.cells) (sz := 7) (bytes := 72) Tryd.underlying33 entry_info rfl En.cells_len En.cells_one d2' x'.1 (by rw [hXl]; omega) (by rw [hXl]; omega) fun p' c' b' w17 o17 n17 c17 => ?_
      have e1 : (List.map (·.1) X ++ [x'.1]) = (X ++ [x']).map (·.1) := by simp
      rw [e1] at o17 ⊢
      refine ⟨_, B15, X ++ [x'], b', ⟨Q15.ch c17 fun b hb h => (d3 b h).2 hb, d1, o17, by simp, fun b hb => ?_, fun y hy => ?_, ?_, fun e he => ?_, d4.trans c17 fun b hb h => by have := (d3 b h).1; omega⟩, ?_, by rw [List.length_append, List.length_singleton]; omega⟩
      · rcases n17 b hb with q | q
        · exact d3 b q
        · exact ⟨by have := d4.size; omega, fun hB => by have := Q15.lt b hB; omega⟩
      · rcases List.mem_append.1 hy with hy | hy
        · exact O4.inp y hy
        · rw [List.mem_singleton.1 hy]; exact hx'E
      · show A.L ++ [x'.pe] = _
        rw [O4.eq, List.map_append]; rfl
      · rcases List.mem_append.1 he with he | he
        · exact O4.free e he
        · rw [List.mem_singleton.1 he]; exact hhold
      · show x'.pe.seq ≤ _
        rw [hseq]; exact Int.le_refl _
    · rw [h2] at Q15
      refine Sif_cases (fun g => absurd (by simpa using g) h1) fun _ => ?_
      exact ⟨A, B15, X, own, ⟨Q15, d1, d2, O4.len, d3, O4.inp, O4.eq, O4.free, d4⟩, by omega, by omega⟩
  rintro p4 n17 c3 w16 ⟨A6, B6, X6, own6, O6, hlast6, hXl6⟩
  have hn17 := O6.len
  subst hn17
  refine ⟨fun n18 w17 => w17 = w16 ∧ n18 < 4, ?_, ?_⟩
  rotate_left
  · refine Sif_cases (fun g => ?_) fun _ => ⟨rfl, by omega⟩
    have g : i < nt := by
      have : (i : Int) < (nt : Int) := by simpa using g
      omega
    obtain ⟨t, ht⟩ : ∃ t, Ts[i]? = some t := ⟨_, List.getElem?_eq_getElem (by omega)⟩
    obtain ⟨kt, ot, hpt, hct⟩ := (hT.ch O6.ch fun _ _ _ => id).at iC_len ht (by decide)
    refine ⟨by omega, by omega, ?_⟩
    rw [hpt]
    simp only [nn_some, add_at, Int.toNat_natCast]
    refine ⟨t, by have := hct 0 _ rfl; simpa using this, by decide, ?_⟩
    rw [nameI_iff]
    exact ⟨by trivial, Int.tmod_lt_of_pos t (by decide)⟩
  rintro n18 w17 ⟨rfl, h18⟩
  refine ⟨fun n19 w18 => w18 = w17 ∧ n19 ≤ 2 ^ 30 ∧ (i + 1 = Es.length → n19 = (X6.length : Int)), ?_, ?_⟩
  rotate_left
  · have hwl : IntKind.wrap .i64 ((Es.length : Int) - 1) = (Es.length : Int) - 1 := wrap_id (by omega) (by omega)
    rw [hwl]
    refine Sif_cases (fun g => ⟨rfl, by omega, fun _ => rfl⟩) fun g => ⟨rfl, by omega, fun h => ?_⟩
    have : ¬ (i : Int) = (Es.length : Int) - 1 := by simpa using g
    omega
  rintro n19 w18 ⟨rfl, hb19, hn19⟩
  -- taken and removed
  refine ⟨fun m p5 n20 c4 n21 w19 => ∃ (A : AQ) (B : Nat → Prop) (X : List EX) (own : Option Nat), m = n21.toNat ∧ n21 ≤ 2 ^ 30 ∧ OS w w19 qb A B X p5 n20 c4 own ∧ A.last ≤ ((i + 1 : Nat) : Int) ∧ X.length ≤ i + 1 ∧ (i + 1 = Es.length → n21 = (X.length : Int)), ⟨n19.toNat, A6, B6, X6, own6, rfl, hb19, O6, hlast6, hXl6, hn19⟩, ?_⟩
  rintro m p5 n20 c4 n21 w19 ⟨A7, B7, X7, own7, rfl, hb21, O7, hlast7, hXl7, hn21⟩
  have hn20 := O7.len
  subst hn20
  refine Sif_cases (fun hpos => ?_) fun hpos => ?_
  rotate_left
  · have hpos : ¬ n21 > 0 := by simpa using hpos
    refine ⟨A7, B7, X7, own7, by trivial, O7, hlast7, hXl7, fun h => ?_⟩
    have := hn21 h
    exact List.eq_nil_of_length_eq_zero (by omega)
  have hpos : n21 > 0 := by simpa using hpos
  rw [wrap_id (n := n21 - 1) (by omega) (by omega), nameI_iff]
  have hXl : (X7.map (·.1)).length = X7.length := List.length_map ..
  by_cases hX7 : X7 = []
  · -- nothing is left
    subst hX7
    have hA7 : A7.L = [] := O7.eq
    have e1 := take_empty (A := A7) (h := ((i + 1 : Nat) : Int)) hA7
    refine qtake_ok O7.q (fun _ w20 B8 Q8 c8 n8 => ⟨_, _, _, _, _, _, _, _, _, _, rfl, ?_⟩) fun y hy => by rw [e1] at hy; cases hy
    rw [e1] at Q8
    have P8 := O7.ob.did Q8 c8 n8
    refine newE (e0 := En0) (e := Ez.e) fun w28 b28 c28 z28 => ?_
    refine ⟨fun m2 n29 n30 w29 => n29 = -1 ∧ n30 = 0 ∧ w29 = w28, ⟨0, rfl, rfl, rfl⟩, ?_⟩
    rintro m2 n29 n30 w29 ⟨rfl, rfl, rfl⟩
    refine Sif_cases (fun g => by simp at g) fun _ => Sif_false (Sif_true ?_)
    have P29 := P8.next0 c28
    exact ⟨A7, B8, [], own7, by trivial, ⟨P29.q, P29.new, P29.row, rfl, P29.onew, fun x h => by simp at h, hA7, fun e he => by rw [hA7] at he; simp at he, P29.ch⟩, hlast7, by simp, fun _ => rfl⟩
  have hX0 : X7.length ≠ 0 := fun h => hX7 (List.eq_nil_of_length_eq_zero h)
  have hA7l : A7.L.length = X7.length := by rw [O7.eq, List.length_map]
  obtain ⟨y, t, hyt⟩ : ∃ y t, ordered A7.L = y :: t := by
    cases e : ordered A7.L with
    | nil => exact absurd e (ordered_ne fun h => by rw [h] at hA7l; simp at hA7l; omega)
    | cons y t => exact ⟨y, t, rfl⟩
  have W7 := O7.q.wf
  have e1 := take_head (h := ((i + 1 : Nat) : Int)) (by omega) O7.free hyt
  refine qtake_ok O7.q (fun h => by rw [e1] at h; cases h) fun y' hy' x1 hx1 w20 B8 Q8 c8 n8 o8 => ⟨_, _, _, _, _, _, _, _, _, _, rfl, ?_⟩
  rw [e1] at Q8 hy'
  have hy' : y' = { y with hold := ((i + 1 : Nat) : Int) } := (Option.some.inj hy').symm
  subst hy'
  have P8 := O7.ob.did Q8 c8 n8
  refine newE (e0 := En0) (e := x1.e) fun w28 b28 c28 z28 => ?_
  have P28 := P8.next0 c28
  have hx28 := EtE.ch o8.ok c28 fun _ _ => id
  refine ⟨fun m2 n29 n30 w29 => ∃ j : Nat, n30 = (j : Int) ∧ j ≤ X7.length ∧ m2 = X7.length - j ∧ Best A7.L j n29 ∧ n29 < 2 ^ 30 ∧ Ch (fun _ => False) w28 w29, ⟨X7.length, 0, rfl, Nat.zero_le _, rfl, Best.zero _, by omega, Ch.refl _ _⟩, ?_⟩
  rintro m2 n29 n30 w29 ⟨j, rfl, hj, rfl, hbest, hb29, c29⟩
  have P29 := P28.next0 c29
  have cells : ∀ (k : Nat) z, X7[k]? = some z → ∃ kb o, p5 = some ⟨kb, o, none⟩ ∧ ∀ (w' : World), Ch (fun _ => False) w29 w' → ∀ t v, z.1.cells[t]? = some v → w'.cell? ⟨kb, o + k * 7 + t, none⟩ = some v := fun k z hz => by
    have hze : (X7.map (·.1))[k]? = some z.1 := by rw [List.getElem?_map, hz]; rfl
    obtain ⟨kb, o, e, hc⟩ := P29.row.rd.at En.cells_len hze (by decide)
    refine ⟨kb, o, e, fun w' c' t v hv => ?_⟩
    obtain ⟨kb', o', e', hc'⟩ := (P29.row.rd.ch c' fun _ _ _ => id).at En.cells_len hze (by decide)
    rw [e] at e'; cases e'
    exact hc' t v hv
  have atX : ∀ (k : Nat) z, X7[k]? = some z → A7.L[k]? = some z.pe := fun k z hz => by rw [O7.eq, List.getElem?_map, hz]; rfl
  refine Sif_cases (fun hlt => ?_) fun hge => ?_
  · have hltj : j < X7.length := by
      have : (j : Int) < (X7.length : Int) := by simpa using hlt
      omega
    obtain ⟨z, hz⟩ : ∃ z, X7[j]? = some z := ⟨_, List.getElem?_eq_getElem hltj⟩
    refine ⟨fun n31 w30 => Best A7.L (j + 1) n31 ∧ n31 < 2 ^ 30 ∧ Ch (fun _ => False) w28 w30, ?_, ?_⟩
    · rintro n31 w30 ⟨hB, hb, c30⟩
      rw [wrap_id (by omega) (by omega), nameI_iff]
      exact ⟨X7.length - (j + 1), by omega, j + 1, rfl, by omega, rfl, hB, hb, c30⟩
    have c30 := c29.trans' (Ch.drew w29)
    refine Sif_cases (fun g => ?_) fun g => ⟨hbest.step (atX j z hz) (.inl (by simpa using g)), by omega, by first | exact c29 | exact c30⟩
    have g : 0 ≤ n29 := by
      have : ¬ n29 < 0 := by simpa using g
      omega
    obtain ⟨hbl, xb, hxb, _, _⟩ := hbest.has g
    obtain ⟨zb, hzb⟩ : ∃ zb, X7[n29.toNat]? = some zb := ⟨_, List.getElem?_eq_getElem (by omega)⟩
    have hxb' : xb = zb.pe := by rw [atX _ zb hzb] at hxb; exact (Option.some.inj hxb).symm
    obtain ⟨kb, o, hpp, hcj⟩ := cells j z hz
    obtain ⟨kb', o', hpp', hcb⟩ := cells n29.toNat zb hzb
    rw [hpp] at hpp'
    cases hpp'
    refine ⟨by omega, by omega, ?_⟩
    rw [hpp]
    simp only [nn_some, add_at, Int.toNat_natCast]
    refine ⟨by omega, by omega, ?_⟩
    refine ⟨_, hcj w29.drew (Ch.drew w29) 1 _ rfl, _, hcb w29.drew (Ch.drew w29) 1 _ rfl, Sif_cases (fun g2 => ?_) fun g2 => ?_⟩
    · have g2 : zb.1.pri < z.1.pri := by simpa using g2
      exact ⟨hbest.step (atX j z hz) (.inr ⟨xb, hxb, by rw [hxb']; exact g2⟩), by omega, c30⟩
    · have g2 : ¬ zb.1.pri < z.1.pri := by simpa using g2
      refine ⟨hbest.skip (atX j z hz) g hxb ?_, by omega, c30⟩
      rw [hxb']
      show z.1.pri ≤ zb.1.pri
      omega
  have hje : j = A7.L.length := by
    have : ¬ (j : Int) < (X7.length : Int) := by simpa using hge
    omega
  subst hje
  have hb0 : 0 ≤ n29 := by
    rcases (by omega : n29 < 0 ∨ 0 ≤ n29) with q | q
    · have := hbest.emp q; omega
    · exact q
  obtain ⟨y2, t2, hy2, hyt2⟩ := hbest.head W7.asc hb0
  rw [hyt] at hyt2
  obtain ⟨rfl, rfl⟩ := List.cons.inj hyt2
  obtain ⟨b, hbn⟩ : ∃ b : Nat, n29 = (b : Int) := ⟨n29.toNat, by omega⟩
  subst hbn
  rw [Int.toNat_natCast] at hy2
  have hbl : b < X7.length := by have := (List.getElem?_eq_some_iff.1 hy2).1; omega
  obtain ⟨z, hz⟩ : ∃ z, X7[b]? = some z := ⟨_, List.getElem?_eq_getElem hbl⟩
  have hzy : z.pe = y := by rw [atX b z hz] at hy2; exact Option.some.inj hy2
  refine Sif_cases (fun g => by simp at g) fun _ => Sif_false ?_
  obtain ⟨kb, o, hpp, hcz⟩ := cells b z hz
  refine ⟨by omega, by omega, ?_⟩
  rw [hpp]
  simp only [nn_some, add_at, Int.toNat_natCast]
  have hcz := hcz w29 (Ch.refl _ _)
  refine ⟨_, hcz 0 _ rfl, _, hcz 1 _ rfl, _, hcz 2 _ rfl, _, hcz 3 _ rfl, _, hcz 4 _ rfl, _, hcz 5 _ rfl, _, _, _, hcz 6 _ rfl, ?_⟩
  refine newE (e0 := En0) (e := z.1) fun w37 b37 c37 z37 => ?_
  simp only [add_at, Nat.zero_add]
  refine st_blk b37 (by simp [En.cells]) fun w38 b38 c38 z38 => ?_
  obtain ⟨z', hz'⟩ : ∃ z' : En, z' = { z.1 with hold := ((i + 1 : Nat) : Int) } := ⟨_, rfl⟩
  have b38 : blk w38 w29.heap.size = some z'.cells := by rw [hz']; exact b38
  have c2938 : Ch (fun _ => False) w29 w38 := c37.trans c38 fun b hb h => by omega
  have P38 := P29.next0 c2938
  have s28 := c29.size
  have b2838 : blk w38 w20.heap.size = some x1.e.cells := by rw [c2938.blk (by have := blk_lt b28; omega) id, c29.blk (blk_lt b28) id]; exact b28
  have hx38 : EtE.Ok w38 x1 := EtE.ch (EtE.ch hx28 c29 fun _ _ => id) c2938 fun _ _ => id
  have hzE := O7.inp z (List.mem_of_getElem? hz)
  have hz2 : y.l = z.2 := by rw [← hzy]; rfl
  have hx1l : x1.l = z.2 := by
    have : x1.pe.l = y.l := by rw [hx1]
    exact this.trans hz2
  have hr1 : Rd w38 x1.e.p x1.e.n 1 (bytesV z.2) := hx1l ▸ hx38.rd
  have hr2 : Rd w38 z'.p z'.n 1 (bytesV z.2) := by rw [hz']; exact hzE.rd.ch P38.ch fun _ _ _ => id
  have hzas : z'.as z.2 = { y with hold := ((i + 1 : Nat) : Int) } := by rw [hz', ← hzy]; rfl
  have hx1as : x1.e.as z.2 = { y with hold := ((i + 1 : Nat) : Int) } := by rw [← hx1, ← hx1l]; rfl
  refine rdN b2838 (rdN b38 (same_ok (l := z.2) hr1 hr2 (hx1as.trans hzas.symm) fun w39 c39 => ⟨_, rfl, ?_⟩))
  have P39 := P38.next0 c39
  have b2839 : blk w39 w20.heap.size = some x1.e.cells := by rw [c39.blk (blk_lt b2838) id]; exact b2838
  have hseq : x1.e.seq = y.seq := by
    have : x1.pe.seq = y.seq := by rw [hx1]
    exact this
  refine ⟨_, by rw [cell_blk b2839]; rfl, ?_⟩
  rw [hseq]
  have r1 := rem_taken (A := A7) W7 hy2 (h := ((i + 1 : Nat) : Int)) (by omega)
  refine qrem_ok P39.q (fun h => by rw [r1] at h; cases h) fun y3 hy3 x2 hx2 w40 B9 Q9 c9 n9 o9 => ⟨_, _, _, _, _, _, _, _, _, _, rfl, ?_⟩
  rw [r1] at Q9 hy3
  have hy3 : y3 = { y with hold := ((i + 1 : Nat) : Int) } := (Option.some.inj hy3).symm
  subst hy3
  have P40 := P39.did Q9 c9 n9
  refine newE (e0 := En0) (e := x2.e) fun w48 b48 c48 z48 => ?_
  have P48 := P40.next0 c48
  have hx48 : EtE.Ok w48 x2 := EtE.ch o9.ok c48 fun _ _ => id
  have hx2l : x2.l = z.2 := by
    have : x2.pe.l = y.l := by rw [hx2]
    exact this.trans hz2
  have hx2as : x2.e.as z.2 = { y with hold := ((i + 1 : Nat) : Int) } := by rw [← hx2, ← hx2l]; rfl
  have b3848 : blk w48 w29.heap.size = some z'.cells := by
    have h39 : blk w39 w29.heap.size = some z'.cells := by rw [c39.blk (blk_lt b38) id]; exact b38
    rw [c48.blk (by have := blk_lt h39; have := c9.size; omega) id, c9.blk (blk_lt h39) fun hB => by have := P29.q.lt _ hB; omega]; exact h39
  have hr3 : Rd w48 x2.e.p x2.e.n 1 (bytesV z.2) := hx2l ▸ hx48.rd
  have hr4 : Rd w48 z'.p z'.n 1 (bytesV z.2) := by rw [hz']; exact hzE.rd.ch P48.ch fun _ _ _ => id
  simp only [add_at, Nat.zero_add]
  refine rdN b48 (rdN b3848 (same_ok (l := z.2) hr3 hr4 (hx2as.trans hzas.symm) fun w49 c49 => ⟨_, rfl, ?_⟩))
  have P49 := P48.next0 c49
  refine ⟨fun w50 => w50 = w49, ?_, Sif_true (Sif_true (Sif_false rfl))⟩
  rintro w50 rfl
  -- what is left
  refine ⟨fun m3 p13 n69 c12 n70 w51 => ∃ (j : Nat) (R : List EX) (ow : Option Nat), n70 = (j : Int) ∧ j ≤ X7.length ∧ m3 = X7.length - j ∧ R = (X7.take j).eraseIdx b ∧ n69 = R.length ∧ Ow w51 p13 n69 c12 7 ((R.map (·.1)).flatMap En.cells) ow ∧ (∀ b, ow = some b → w50.heap.size ≤ b) ∧ Ch (fun _ => False) w50 w51, ⟨X7.length, 0, [], none, rfl, Nat.zero_le _, rfl, by simp, rfl, by simpa using Ow.nil, (fun b h => by cases h), Ch.refl _ _⟩, ?_⟩
  rintro m3 p13 n69 c12 n70 w51 ⟨j, R, ow, rfl, hj3, rfl, hR, rfl, oR, nR, c51⟩
  have hRl : R.length ≤ j := by
    rw [hR]
    exact Nat.le_trans (List.length_eraseIdx_le ..) (by rw [List.length_take]; omega)
  refine Sif_cases (fun hlt => ?_) fun hge => ?_
  · have hltj : j < X7.length := by
      have : (j : Int) < (X7.length : Int) := by simpa using hlt
      omega
    obtain ⟨u, hu⟩ : ∃ u, X7[j]? = some u := ⟨_, List.getElem?_eq_getElem hltj⟩
    have hstep := erase_step (b := b) hu
    rw [← hR] at hstep
    refine ⟨fun p14 n71 c13 w52 => ∃ (R' : List EX) (ow : Option Nat), R' = (X7.take (j + 1)).eraseIdx b ∧ n71 = R'.length ∧ Ow w52 p14 n71 c13 7 ((R'.map (·.1)).flatMap En.cells) ow ∧ (∀ b, ow = some b → w50.heap.size ≤ b) ∧ Ch (fun _ => False) w50 w52, ?_, ?_⟩
    · rintro p14 n71 c13 w52 ⟨R', ow', h1, h2, h3, h4, h5⟩
      rw [wrap_id (by omega) (by omega), nameI_iff]
      exact ⟨X7.length - (j + 1), by omega, j + 1, R', ow', rfl, by omega, rfl, h1, h2, h3, h4, h5⟩
    refine Sif_cases (fun g => ?_) fun g => ?_
    · have g : j ≠ b := fun e => by rw [e] at g; simp at g
      rw [if_neg g] at hstep
      have hue : (X7.map (·.1))[j]? = some u.1 := by rw [List.getElem?_map, hu]; rfl
      obtain ⟨kb2, o2, hp2, hcu⟩ := (P49.row.rd.ch c51 fun _ _ _ => id).at En.cells_len hue (by decide)
      rw [hpp] at hp2
      cases hp2
      refine ⟨by omega, by omega, ?_⟩
      simp only [nn_some, add_at, Int.toNat_natCast]
      refine ⟨_, hcu 0 _ rfl, _, hcu 1 _ rfl, _, hcu 2 _ rfl, _, hcu 3 _ rfl, _, hcu 4 _ rfl, _, hcu 5 _ rfl, _, _, _, hcu 6 _ rfl, ?_⟩
      have hRm : (R.map (·.1)).length = R.length := List.length_map ..
      have oR' := oR
      rw [← hRm] at oR' ⊢
      refine push_ok (g := En.cells) (sz := 7) (bytes := 72) Tryd.underlying33 entry_info rfl En.cells_len En.cells_one oR' u.1 (by rw [hRm]; omega) (by rw [hRm]; omega) fun p' c' b' w53 o53 n53 c53 => ?_
      have e2 : (List.map (·.1) R ++ [u.1]) = (R ++ [u]).map (·.1) := by simp
      rw [e2] at o53 ⊢
      refine ⟨R ++ [u], b', hstep.symm, by simp, o53, fun b hb => ?_, c51.trans c53 fun b hb h => by have := nR b h; omega⟩
      rcases n53 b hb with q | q
      · exact nR b q
      · have := c51.size; omega
    · have g : j = b := by
        have : (j : Int) = (b : Int) := by simpa using g
        omega
      rw [if_pos g, List.append_nil] at hstep
      exact ⟨R, ow, hstep.symm, rfl, oR, nR, c51⟩
  have hje : j = X7.length := by
    have : ¬ (j : Int) < (X7.length : Int) := by simpa using hge
    omega
  subst hje
  rw [List.take_length] at hR
  have P51 := P49.next0 c51
  have hRl2 : R.length + 1 = X7.length := by rw [hR, List.length_eraseIdx, if_pos hbl]; omega
  have s50 := P49.ch.size
  refine ⟨(n21 - 1).toNat, by omega, _, B9, R, ow, rfl, by omega, ⟨P51.q, P51.new, oR, rfl, fun b hb => ⟨by have := nR b hb; omega, fun hB => by have := nR b hb; have := P49.q.lt b hB; omega⟩, fun x hx => O7.inp x ?_, ?_, fun e he => O7.free e ?_, P51.ch⟩, hlast7, by omega, fun h => by have := hn21 h; omega⟩
  · rw [hR] at hx; exact (List.eraseIdx_sublist ..).subset hx
  · show A7.L.take b ++ A7.L.drop (b + 1) = R.map EX.pe
    rw [hR, ← List.eraseIdx_eq_take_drop_succ, O7.eq]
    rw [List.eraseIdx_eq_take_drop_succ, List.eraseIdx_eq_take_drop_succ, List.map_append, List.map_take, List.map_drop]
  · rw [← List.eraseIdx_eq_take_drop_succ] at he
    exact (List.eraseIdx_sublist ..).subset he
end Go.Proofs.YtipbbjnmpnfhpaaDoor
