/-
  JournalTails: what holds, plain; the walk.
-/
import Derived.Test.YtipololccbdojaaGreatDoorJturn
import Derived.Test.YtipololccbdojaaGreatDoorRefH
namespace Go.Proofs.YtipololccbdojaaGreatDoor
open Go Go.Sv
set_option linter.unusedVariables false
set_option maxRecDepth 4000

theorem Live.tail_iff {a : AD} {j : AJ} {L : List Batch} (h : Live a j L) : j.tail = false ↔ fileD a sLog = allB L := by
  have := h.log
  unfold fileD
  cases hf : a.file sLog with
  | none =>
    rw [hf] at this
    obtain ⟨rfl, h2⟩ := this
    exact ⟨fun _ => rfl, fun _ => h2⟩
  | some f =>
    rw [hf] at this
    obtain ⟨h1, t, h2, h3, h4⟩ := this
    simp only [Option.map_some, Option.getD_some, h2]
    rw [h4]
    exact ⟨fun e => by rw [e, List.append_nil], fun e => by simpa using e⟩
theorem Live.sure {a : AD} {j : AJ} {L : List Batch} (h : Live a j L) : Sure a j := fun _ _ => by
  have := h.log
  have hg : a.get sLog = ((a.file sLog).map (·.dat)).getD [] := rfl
  rw [hg, h.size]
  cases hf : a.file sLog with
  | none => rw [hf] at this; rw [this.1]; exact Nat.le_refl _
  | some f =>
    rw [hf] at this
    obtain ⟨h1, t, h2, h3, h4⟩ := this
    simp [h2]
def sevenR : Batch := [[7]]
theorem sevenR_len : (batchB sevenR).length = 17 := by rw [batchB_length (by decide)]; rfl
theorem good17 {M : Batch} (h : goodB M) : 17 ≤ (batchB M).length := by
  have := batchB_length h.1
  have := body_pos h.1 h.2.1
  omega
theorem tails_plain {Ws : List Batch} {M : Batch} (hWs : ∀ R ∈ Ws, goodB R) (hM : goodB M) (hfit : (allB Ws).length + (batchB M).length ≤ 16777216) {k s : Nat} (hk1 : (allB Ws).length ≤ k) (hk2 : k < (allB Ws).length + (batchB M).length) (hs1 : (allB Ws).length ≤ s) (hs2 : s ≤ k) (p : Option Addr) (c : Nat) :
    ∃ a0, loadS 16777216 [⟨sLog, (allB (Ws ++ [M])).take k, (s : Int), p, c⟩] = (0, some a0) ∧ ltS a0 ∧ a0.fs.length = 1 ∧ ∃ a1 j1, a0.jopen = (0, a1, some (j1, Ws)) ∧ j1.size = (allB Ws).length ∧ Sure a1 j1 ∧ a1.cnt ≤ 4 ∧
      ∃ e a2 j2, a1.add j1 sevenR = (e, a2, j2) ∧ a2.cnt ≤ 7 ∧ (((allB Ws).length < k ∧ (allB Ws).length + k > 16777216 ∧ e = 190 ∧ ∃ a3 j3, a2.sorted.jopen = (0, a3, some (j3, Ws))) ∨
        (¬ ((allB Ws).length < k ∧ (allB Ws).length + k > 16777216) ∧ e = 0 ∧ ∃ a3 j3, a2.sorted.jopen = (0, a3, some (j3, Ws ++ [sevenR])))) := by
  have hall : allB (Ws ++ [M]) = allB Ws ++ batchB M := by rw [allB_append]; simp [allB]
  have hD : (allB (Ws ++ [M])).take k = allB Ws ++ (batchB M).take (k - (allB Ws).length) := by rw [hall, List.take_append, List.take_of_length_le hk1]
  have hDl : ((allB (Ws ++ [M])).take k).length = k := by rw [hall]; simp; omega
  generalize hDd : (allB (Ws ++ [M])).take k = D at hD hDl
  let a0 : AD := { newA 16777216 with fs := [⟨sLog, D, s⟩] }
  have hload : loadS 16777216 [⟨sLog, D, (s : Int), p, c⟩] = (0, some a0) := by
    unfold loadS
    rw [if_neg (by omega)]
    have hb : ¬ badF [] ⟨sLog, D, (s : Int), p, c⟩ := by
      rintro (h | h | h | h)
      · simp [hasN] at h
      · simp [name_log] at h
      · have h : (s : Int) < 0 := h; omega
      · have h : (D.length : Int) < s := h; omega
    have hadd : addAll [] [⟨sLog, D, (s : Int), p, c⟩] = some [⟨sLog, D, s⟩] := by
      unfold addAll
      rw [if_neg hb]
      unfold addAll
      rfl
    rw [hadd]
    simp only []
    have ht : total [⟨sLog, D, s⟩] = k := by simp [total, hDl]
    rw [if_neg (by rw [ht]; omega)]
  have nd0 : ND a0 := by simp [ND, a0]
  have hf0 : a0.file sLog = some ⟨sLog, D, s⟩ := by
    show List.find? _ [_] = _
    simp
  have hfn0 : a0.file sNew = none := by
    show List.find? _ [_] = _
    rw [List.find?_cons]
    simp only [show (sLog = sNew) = False from eq_false fun e => new_ne e.symm, decide_false]
    rfl
  have hL0 : LogF (a0.file sLog) Ws := by
    rw [hf0]
    refine ⟨hWs, (batchB M).take (k - (allB Ws).length), hD, .inr ⟨M, _, hM, by omega, rfl⟩, hs1, by show s ≤ D.length; omega⟩
  have hfd0 : fileD a0 sLog = D := by unfold fileD; rw [hf0]; rfl
  have ht0 : total a0.fs = k := by show total [_] = k; simp [total, hDl]
  refine ⟨a0, hload, List.pairwise_singleton .., rfl, ?_⟩
  rcases open_up nd0 rfl hL0 with ⟨a', h1, h2, h3⟩ | ⟨a1, j1, h1, h2, h3, h4⟩
  · exact absurd rfl h2.armed
  have hc1 := cnt_open a0
  rw [h1] at hc1
  have hc1 : a1.cnt ≤ 1 + 3 := hc1
  have hroom : a1.room = 16777216 := h2.room
  have hacts : a1.acts = -1 := h2.free rfl
  refine ⟨a1, j1, h1, h3.size, h3.sure, hc1, ?_⟩
  have hcase : ((allB Ws).length < k ∧ (allB Ws).length + k > 16777216 ∧ j1.tail = true ∧ total a1.fs = k ∧ (fileD a1 sLog).length = k) ∨ (¬ ((allB Ws).length < k ∧ (allB Ws).length + k > 16777216) ∧ j1.tail = false ∧ total a1.fs = (allB Ws).length ∧ (fileD a1 sLog).length = (allB Ws).length) := by
    have hr0 : a0.room = 16777216 := rfl
    rw [ht0, hfd0, hr0] at h4
    rcases h4 hfn0 with ⟨q1, q2, q3⟩ | ⟨q1, q2, q3⟩
    · by_cases hkn : (allB Ws).length < k
      · left
        have htl : j1.tail = true := by
          cases ht : j1.tail with
          | true => rfl
          | false =>
            have := congrArg List.length (q2.symm.trans (h3.tail_iff.1 ht))
            omega
        have := q3 htl
        exact ⟨hkn, by omega, htl, q1, by rw [q2]; exact hDl⟩
      · right
        have hke : k = (allB Ws).length := by omega
        refine ⟨fun h => hkn h.1, h3.tail_iff.2 ?_, by omega, by rw [q2, hDl]; exact hke⟩
        rw [q2, hD, hke, Nat.sub_self]; simp
    · right
      refine ⟨fun h => by omega, h3.tail_iff.2 q2, by rw [q2] at q1; omega, by rw [q2]⟩
  have hc2 := cnt_add a1 j1 sevenR
  have h17 := sevenR_len
  have hM17 := good17 hM
  rcases h3.add sevenR (by omega) with ⟨q1, q2⟩ | ⟨q1, q2⟩ | ⟨_, _, q⟩
  · exact absurd q2 (by decide)
  · exact absurd q2 (by decide)
  rcases q with ⟨a', j', q1, q2, q3, q4, q5, q6⟩ | ⟨a', j', q1, q2, q3, q4⟩ | ⟨a', j', q1, q2, q3, q4, q5, q6, q7, q8⟩
  · rw [q1] at hc2
    have hc2 : a'.cnt ≤ a1.cnt + 3 := hc2
    refine ⟨190, a', j', q1, by omega, .inl ?_⟩
    rcases hcase with ⟨g1, g2, g3, g4, g5⟩ | ⟨g1, g2, g3, g4⟩
    · refine ⟨g1, g2, rfl, ?_⟩
      rcases open_up q2.sort.nd q2.sort.up q2.sort.logF with ⟨a'', r1, r2, r3⟩ | ⟨a3, j3, r1, r2, r3, r4⟩
      · exact absurd (q4 hacts) r2.armed
      · exact ⟨a3, j3, r1⟩
    · exfalso
      have := q6 g2
      rw [h17, hroom, g3] at this
      omega
  · exact absurd hacts q2.armed
  · rw [q1] at hc2
    have hc2 : a'.cnt ≤ a1.cnt + 3 := hc2
    refine ⟨0, a', j', q1, by omega, .inr ?_⟩
    refine ⟨fun h => ?_, rfl, ?_⟩
    · rcases hcase with ⟨g1, g2, g3, g4, g5⟩ | ⟨g1, g2, g3, g4⟩
      · have := q7 g3
        rw [hroom, g4] at this
        omega
      · exact g1 h
    · rcases open_up q3.sort.nd q3.sort.up q3.sort.logF with ⟨a'', r1, r2, r3⟩ | ⟨a3, j3, r1, r2, r3, r4⟩
      · exact absurd (q2.free hacts) r2.armed
      · exact ⟨a3, j3, r1⟩
set_option maxHeartbeats 4000000 in
theorem tails_walk {w : World} {x : LV} {y : BV} {cut_ safe : Int} {aB aS : Addr} {K : Value → World → Prop} (E : ErrsA w aB aS) (hx : x.ok w) (hy : y.ok w (Old w)) (hysm : BV.small y) (hc2 : cut_ ≤ 9223372036854775807) (hs2 : safe ≤ 9223372036854775807)
    (hk : ∀ w', Ch (fun _ => False) w w' → K (.bool true) w') : callP Tryz.prog 6 [.slice x.p x.n x.c, .slice y.p y.n y.c, .int .i64 cut_, .int .i64 safe] w K := by
  have hY := hx.rd
  have hYl := hY.len
  have hxn := hx.n
  refine ok_longshorelaw20_JournalTails ?_
  unfold wp_longshorelaw20_JournalTails
  refine weighAll_ok hY (by omega) (fun y hy => ⟨by have := (hx.small y hy).1; omega, fun z hz => by have := (hx.small y hy).2 z hz; omega⟩) (by omega) (by omega) fun v v0 v1 v2 => ⟨_, rfl, ?_⟩
  refine weigh_ok hy.rd (by have := hysm.1; omega) (fun z hz => by have := hysm.2 z hz; omega) v0 v1 fun u u0 u1 u2 => ⟨_, rfl, Sif_cases (fun hb => ?_) fun hb => ?_⟩
  · exact hk w (Ch.refl _ _)
  have hu' : u ≤ 2147483647 := by have : ¬ u > 2147483647 := by simpa using hb
                                  omega
  have huw := u2 hu'
  have hwt := v2 (by show v ≤ 2147483647; omega)
  refine live_ok E fun w2 c2 => ⟨_, rfl, ?_⟩
  refine new_ok (fun h => by omega) fun _ _ d w3 B3 D3 c3 n3 => ⟨_, rfl, ?_⟩
  refine ⟨fun w4 => w4 = w3, ?_, Sif_true (Sif_false rfl)⟩
  rintro w4 rfl
  have C3 : Ch (fun _ => False) w w4 := c2.new c3
  have z2 := c2.size
  refine jopen_ok D3 (fun w' c => E.ch (C3.trans c fun x hx h => by have := n3 x h; omega)) (newA_lt _) (by decide) (fun w2 B2 _ _ _ hn => by rw [new_open] at hn; cases hn) fun w5 B5 jb j L q m cq own R hj H5 c5 n5 njb hrow hsay hfr => ⟨_, _, _, _, _, rfl, ?_⟩
  rw [new_open] at hj H5
  have hj2 : (⟨0, false, false⟩ : AJ) = j ∧ ([] : List Batch) = L := by simpa using hj
  obtain ⟨rfl, rfl⟩ := hj2
  have z3 := c3.size
  have k5 : Keep w w5 jb d (newA 16777216) ⟨0, false, false⟩ B5 (Old w) := by
    refine ⟨H5, C3.trans c5 fun x hx h => by have := n3 x h; omega, fun b hb => ?_, fun b => id, fun b hb => ⟨?_, fun h => ?_⟩⟩
    · rcases hb with hb | hb
      · rcases n5 b hb with h | h
        · have := n3 b h; omega
        · omega
      · omega
    · have hb : b < w.heap.size := hb
      have := c5.size; omega
    · have hb : b < w.heap.size := hb
      rcases h with h | h
      · rcases n5 b h with h | h
        · have := n3 b h; omega
        · omega
      · omega
  refine ⟨fun w6 => w6 = w5, ?_, Sif_true (Sif_false rfl)⟩
  rintro w6 rfl
  refine ⟨fun m q t cq i w' => ∃ (k : Nat) (a : AD) (j : AJ) (Bd Bv : Nat → Prop) (Ws : List Batch) (Z : List BV), i = (k : Int) ∧ k ≤ x.n ∧ m = x.n - k ∧ Keep w w' jb d a j Bd Bv ∧ Calm a j Ws ∧ VL w' Bv q t Z ∧ t ≤ cq ∧ saysL Z = Ws ∧ t ≤ k ∧ (∀ z ∈ Z, z.n ≤ 2 ^ 20),
    ⟨x.n, 0, _, _, B5, Old w, [], [], rfl, by omega, rfl, k5, calm_new, VL.nil, Nat.le_refl _, rfl, Nat.le_refl _, by simp⟩, ?_⟩
  rintro m q t cq i w7 ⟨k, a, j, Bd, Bv, Ws, Z, rfl, hkn, rfl, k7, hc7, hZ, htc, hZs, htk, hZn⟩
  have hWt : Ws.length = t := by rw [← hZs, saysL_len]; exact hZ.len
  have hfit := k7.jd.dk.wf.fits
  have hroom := hc7.room
  have htot := hc7.tot
  have hjs := hc7.live.size
  have hsz7 := k7.ch.size
  refine Sif_cases (fun hlt => ?_) fun hge => ?_
  · have hlt' : (k : Int) < x.n := by simpa using hlt
    have hkl : k < x.Y.length := by omega
    have hi := List.getElem?_eq_getElem hkl
    have hsm := hx.small _ (List.getElem_mem hkl)
    have hview : ∀ w', Ch (fun _ => False) w w' → ∃ kb o, x.p = some ⟨kb, o, none⟩ ∧ w'.cell? ⟨kb, o + k, none⟩ = some (.slice x.Y[k].p x.Y[k].n x.Y[k].c) ∧ BV.ok w' (Old w) x.Y[k] := fun w' c => by
      obtain ⟨kb, o, e, hc⟩ := (hY.ch0 c).at hi
      exact ⟨kb, o, e, hc, (hY.ch0 c).ok _ (List.getElem_mem hkl)⟩
    obtain ⟨kb, o, hp, hcell, hbv⟩ := hview w7 k7.ch
    refine ⟨fun q t cq w' => ∃ (a : AD) (j : AJ) (Bd Bv : Nat → Prop) (Ws : List Batch) (Z : List BV), Keep w w' jb d a j Bd Bv ∧ Calm a j Ws ∧ VL w' Bv q t Z ∧ t ≤ cq ∧ saysL Z = Ws ∧ t ≤ k + 1 ∧ (∀ z ∈ Z, z.n ≤ 2 ^ 20), ?_, by omega, hlt', ?_⟩
    · rintro q t cq w' ⟨a, j, Bd, Bv, Ws, Z, g1, g2, g3, g4, g5, g6, g7⟩
      rw [wrap_id (by omega) (by omega), nameI_iff]
      exact ⟨x.n - (k + 1), by omega, k + 1, a, j, Bd, Bv, Ws, Z, by omega, by omega, rfl, g1, g2, g3, g4, g5, g6, g7⟩
    rw [hp]
    simp only [nn_some, add_at, Int.toNat_natCast, Nat.mul_one]
    refine ⟨_, _, _, hcell, ?_⟩
    have hbody : (body x.Y[k].says).length ≤ 2 ^ 40 := by
      have h1 := wtL_mem (L := saysL x.Y) (R := x.Y[k].says) (List.mem_map.2 ⟨_, List.getElem_mem hkl, rfl⟩)
      have h2 := wtR_body x.Y[k].says
      omega
    have hVold : ∀ b, Old w b → ¬ (Bd b ∨ b = jb) := fun b hb => (k7.view b (k7.old b hb)).2
    refine add_ok k7.jd (fun e => by rw [hc7.tail] at e; cases e) hbv.rd hVold hbody (by have := hsm.1; omega) (by omega) ?_
    rw [show saysR x.Y[k].X = x.Y[k].says from rfl]
    intro w8 B8 H8 c8 n8
    have k8 := k7.step H8 c8 n8
    have hZ8 : VL w8 Bv q t Z := hZ.ch c8 fun b hb => (k7.view b hb).2
    obtain ⟨kb2, o2, hp2, hcell2, hbv2⟩ := hview w8 k8.ch
    rw [hp] at hp2; cases hp2
    have hYn : x.Y[k].X.length = x.Y[k].n := hbv.rd.len
    rcases calm_add x.Y[k].says hc7 with ⟨a', j', g1, g2, g3⟩ | ⟨a', j', g1, g2, g3⟩ | ⟨a', j', g1, g2, g3, g4, g5⟩ | ⟨a', j', g1, g2, g3, g4, g5⟩
    · rw [g1] at k8 ⊢
      exact ⟨_, rfl, Sif_false ⟨a', j', B8, Bv, Ws, Z, k8, g2, hZ8, htc, hZs, by omega, hZn⟩⟩
    · rw [g1] at k8 ⊢
      have hn0 : x.Y[k].n = 0 := by
        have : (saysR x.Y[k].X).length = 0 := by
          have g3 : saysR x.Y[k].X = [] := g3
          rw [g3]; rfl
        rw [saysR_len] at this; omega
      refine ⟨_, rfl, Sif_true ⟨by omega, hlt', _, _, _, hcell2, ?_⟩⟩
      refine with_ok hZ8 (hbv2.mono k8.old) (fun b hb => (k8.view b hb).1) (by omega) fun w9 q9 t9 cq9 Bv9 hZ9 htc9 c9 n9 => ⟨_, _, _, rfl, ?_⟩
      rw [if_pos hn0, List.append_nil] at hZ9
      have t9e : t9 = t := by rw [← hZ9.len, hZ.len]
      exact ⟨a', j', B8, _, Ws, Z, k8.more c9 n9, g2, hZ9.mono fun b => .inr, htc9, hZs, by omega, hZn⟩
    · rw [g1] at k8 ⊢
      exact ⟨_, rfl, Sif_false ⟨a', j', B8, Bv, Ws, Z, k8, g2, hZ8, htc, hZs, by omega, hZn⟩⟩
    · rw [g1] at k8 ⊢
      have hn0 : x.Y[k].n ≠ 0 := fun h0 => g3 (by
        have : x.Y[k].X = [] := List.eq_nil_of_length_eq_zero (by omega)
        show saysR x.Y[k].X = []
        rw [this]; rfl)
      refine ⟨_, rfl, Sif_true ⟨by omega, hlt', _, _, _, hcell2, ?_⟩⟩
      refine with_ok hZ8 (hbv2.mono k8.old) (fun b hb => (k8.view b hb).1) (by omega) fun w9 q9 t9 cq9 Bv9 hZ9 htc9 c9 n9 => ⟨_, _, _, rfl, ?_⟩
      rw [if_neg hn0] at hZ9
      have t9e : t9 = t + 1 := by rw [← hZ9.len, List.length_append, hZ.len]; rfl
      refine ⟨a', j', B8, _, Ws ++ [x.Y[k].says], Z ++ [x.Y[k]], k8.more c9 n9, g2, hZ9.mono fun b => .inr, htc9, by rw [← hZs]; simp [saysL], by omega, fun z hz => ?_⟩
      rcases List.mem_append.1 hz with h | h
      · exact hZn z h
      · rw [List.mem_singleton.1 h]; exact hsm.1
  -- the last batch
  have hkx : ¬ (k : Int) < x.n := by simpa using hge
  refine size_ok k7.jd ⟨_, rfl, ?_⟩
  rw [hjs]
  have hgood := hc7.live.good
  have hbody : (body y.says).length ≤ 2 ^ 40 := by
    have h2 := wtR_body y.says
    have e : wtR (saysR y.X) = wtR y.says := rfl
    omega
  have hVold : ∀ b, Old w b → ¬ (Bd b ∨ b = jb) := fun b hb => (k7.view b (k7.old b hb)).2
  have hy7 := hy.ch k7.ch fun _ _ => id
  refine add_ok k7.jd (fun e => by rw [hc7.tail] at e; cases e) hy7.rd hVold hbody (by have := hysm.1; omega) (by omega) ?_
  rw [show saysR y.X = y.says from rfl]
  intro w8 B8 H8 c8 n8
  have k8 := k7.step H8 c8 n8
  have hZ8 : VL w8 Bv q t Z := hZ.ch c8 fun b hb => (k7.view b hb).2
  refine ⟨_, rfl, ?_⟩
  have hyX : y.X.length = y.n := hy.rd.len
  have hyn : y.says = [] ↔ y.n = 0 := by
    unfold BV.says
    rw [← List.length_eq_zero_iff, saysR_len, hyX]
  -- what Read gives behind it
  have hread : ∀ (a' : AD) (j' : AJ) (L' : List Batch), DK w8 d a' B8 → Calm a' j' L' → ∀ {K2 : Value → World → Prop}, (∀ p c ob w9, Ch B8 w8 w9 → Ow w9 p (allB L').length c 1 (bytesV (allB L')) ob → (∀ b, ob = some b → w8.heap.size ≤ b) → K2 (.tuple #[.slice p (allB L').length c, .int .i64 (a'.err [sLog] sLog)]) w9) →
      callP Tryz.prog 22 [.pointer (some ⟨d, 0, none⟩), .string ⟨#[108, 111, 103]⟩] w8 K2 := fun a' j' L' D hC K2 hK => by
    refine Sv.callP_mono (K := fun v w' => ∃ p c b, v = .tuple #[.slice p (allB L').length c, .int .i64 (a'.err [sLog] sLog)] ∧ Ch B8 w8 w' ∧ Ow w' p (allB L').length c 1 (bytesV (allB L')) b ∧ (∀ k, b = some k → w8.heap.size ≤ k)) (read_ok (n := sLog) D (by decide) fun p c b w1 B1 D1 c1 n1 o1 f1 => by
      have hr := hC.read
      simp only [hr] at o1 ⊢
      exact ⟨p, c, b, rfl, c1, o1, f1⟩) ?_
    rintro v8 w9 ⟨p, c, ob, rfl, c9, o9, f9⟩
    exact hK p c ob w9 c9 o9 f9
  have CB : ∀ w9, Ch B8 w8 w9 → Ch (fun _ => False) w w9 := fun w9 c => k8.ch.trans c fun z hz h => by have := k8.disk z (.inl h); omega
  rcases calm_add y.says hc7 with ⟨a', j', g1, g2, g3⟩ | ⟨a', j', g1, g2, g3⟩ | ⟨a', j', g1, g2, g3, g4, g5⟩ | ⟨a', j', g1, g2, g3, g4, g5⟩
  · rw [g1] at k8 ⊢
    refine hread a' j' Ws k8.jd.dk g2 fun p c ob w9 c9 o9 f9 => ⟨_, _, _, _, rfl, ?_⟩
    refine ⟨fun _ => False, fun _ h => h.elim, Sif_false (Sif_false ?_)⟩
    exact hk w9 (CB w9 c9)
  · rw [g1] at k8 ⊢
    have hn0 := hyn.1 g3
    refine hread a' j' Ws k8.jd.dk g2 fun p c ob w9 c9 o9 f9 => ⟨_, _, _, _, rfl, ?_⟩
    have e : ((y.n : Int) == 0) = true := by rw [hn0]; rfl
    rw [e]
    refine ⟨fun _ => False, fun _ h => h.elim, Sif_true (Sif_false (Sif_true (Sif_true ?_)))⟩
    exact hk w9 (CB w9 c9)
  · rw [g1] at k8 ⊢
    refine hread a' j' Ws k8.jd.dk g2 fun p c ob w9 c9 o9 f9 => ⟨_, _, _, _, rfl, ?_⟩
    refine ⟨fun _ => False, fun _ h => h.elim, Sif_false (Sif_true (Sif_false ?_))⟩
    exact hk w9 (CB w9 c9)
  rw [g1] at k8 ⊢
  have hn0 : ¬ y.n = 0 := fun h => g3 (hyn.2 h)
  refine hread a' j' _ k8.jd.dk g2 fun p c ob w9 c9 o9 f9 => ⟨_, _, _, _, rfl, ?_⟩
  have C9 := CB w9 c9
  have hZ9 : VL w9 Bv q t Z := hZ8.ch c9 fun b hb h => (k8.view b hb).2 (.inl h)
  have hv9 : ∀ b, Bv b → b < w9.heap.size := fun b hb => by have := (k8.view b hb).1; have := c9.size; omega
  have hallM : (allB (Ws ++ [y.says])).length = (allB Ws).length + (batchB y.says).length := by rw [allB_append, List.length_append]; simp [allB]
  have hfit2 : (allB Ws).length + (batchB y.says).length ≤ 16777216 := by omega
  have h17 := good17 g4
  have en0 : ((y.n : Int) == 0) = false := by simp [hn0]
  rw [en0]
  generalize hN : (allB Ws).length = N at *
  refine ⟨fun w10 => w10 = w9, ?_, Sif_true (Sif_true (Sif_cases (fun h => ?_) fun _ => rfl))⟩
  rotate_left
  · have : ((allB (Ws ++ [y.says])).length : Int) ≤ (N : Int) := by simpa using h
    omega
  rintro w10 rfl
  refine ⟨fun kk w11 => w11 = w10 ∧ ∃ k2 : Nat, kk = (k2 : Int) ∧ N ≤ k2 ∧ k2 < (allB (Ws ++ [y.says])).length, ?_, ?_⟩
  rotate_left
  · refine Sif_cases (fun h => ?_) fun h => ?_
    · have h' : cut_ ≥ 0 := by simpa using h
      rw [wrap_id (n := ((allB (Ws ++ [y.says])).length : Int) - N) (by omega) (by omega)]
      refine ⟨by omega, ?_⟩
      have e : Int.tmod cut_ (((allB (Ws ++ [y.says])).length : Int) - N) = cut_ % (((allB (Ws ++ [y.says])).length : Int) - N) := Int.tmod_eq_emod_of_nonneg (by omega)
      have h1 := Int.emod_nonneg cut_ (by omega : ((allB (Ws ++ [y.says])).length : Int) - N ≠ 0)
      have h2 := Int.emod_lt_of_pos cut_ (by omega : 0 < ((allB (Ws ++ [y.says])).length : Int) - N)
      rw [e, wrap_id (by omega) (by omega), nameI_iff]
      exact ⟨rfl, (N + (cut_ % (((allB (Ws ++ [y.says])).length : Int) - N)).toNat : Nat), by omega, by omega, by omega⟩
    · exact ⟨rfl, N, rfl, by omega, by omega⟩
  rintro kk w11 ⟨rfl, k2, rfl, hk21, hk22⟩
  refine ⟨fun ss w12 => w12 = w11 ∧ ∃ s2 : Nat, ss = (s2 : Int) ∧ N ≤ s2 ∧ s2 ≤ k2, ?_, ?_⟩
  rotate_left
  · refine Sif_cases (fun h => ?_) fun h => ?_
    · have h' : safe ≥ 0 := by simpa using h
      rw [wrap_id (n := (k2 : Int) - N) (by omega) (by omega), wrap_id (n := (k2 : Int) - N + 1) (by omega) (by omega)]
      refine ⟨by omega, ?_⟩
      have e : Int.tmod safe ((k2 : Int) - N + 1) = safe % ((k2 : Int) - N + 1) := Int.tmod_eq_emod_of_nonneg (by omega)
      have h1 := Int.emod_nonneg safe (by omega : (k2 : Int) - N + 1 ≠ 0)
      have h2 := Int.emod_lt_of_pos safe (by omega : 0 < (k2 : Int) - N + 1)
      rw [e, wrap_id (by omega) (by omega), nameI_iff]
      exact ⟨rfl, (N + (safe % ((k2 : Int) - N + 1)).toNat : Nat), by omega, by omega, by omega⟩
    · exact ⟨rfl, N, rfl, by omega, by omega⟩
  rintro ss w12 ⟨rfl, s2, rfl, hs21, hs22⟩
  have hcap := o9.2.1
  refine ⟨by omega, by omega, ?_⟩
  rw [Int.toNat_natCast]
  refine newB_blk fun w13 b13 c13 z13 => ?_
  have hDl : ((allB (Ws ++ [y.says])).take k2).length = k2 := by rw [List.length_take]; omega
  obtain ⟨a0, p0, p1, p2, a1, j1, p3, p4, p5, p6, e2, a2, j2, p7, p8, p9⟩ := tails_plain hgood g4 (by omega) (k := k2) (s := s2) (by omega) (by omega) (by omega) hs22 p c
  have hFV : FVIn w13 (some ⟨w12.heap.size, 0, none⟩) [⟨sLog, (allB (Ws ++ [y.says])).take k2, (s2 : Int), p, c⟩] := by
    refine ⟨⟨by simp [FV.cells], .inr ⟨w12.heap.size, 0, _, rfl, blk_cells b13, by simp [FV.cells], by simp [FV.cells, hDl]⟩⟩, fun z hz => ?_, fun z hz => ?_, fun z hz => ?_, ?_, by simp⟩
    · rw [List.mem_singleton.1 hz]
      have := rd_take (o9.rd) (m := k2) (by omega)
      have h2 := this.ch c13 fun _ _ _ => id
      show Rd w13 p ((allB (Ws ++ [y.says])).take k2).length 1 _
      rw [hDl]; exact h2
    · rw [List.mem_singleton.1 hz]; show sLog.size ≤ _; decide
    · rw [List.mem_singleton.1 hz]; show ((allB (Ws ++ [y.says])).take k2).length ≤ _; omega
    · simp; omega
  have C13 := C9.new c13
  have hsz13 := C13.size
  have hload := load_ok (c := 1) (K := fun v w' => ∃ d2 B2, v = .tuple #[.pointer (some ⟨d2, 0, none⟩), .int .i64 0] ∧ DK w' d2 a0 B2 ∧ Ch (fun _ => False) w13 w' ∧ ∀ b, B2 b → w13.heap.size ≤ b) hFV (fun e w' h => by rw [p0] at h; cases h) (room := 16777216) fun a d2 w' B' h D' c' n' => by
    rw [p0] at h
    cases h
    exact ⟨d2, B', rfl, D', c', n'⟩
  refine Sv.callP_mono hload ?_
  rintro v w14 ⟨d2, B2, rfl, D14, c14, n14⟩
  refine ⟨_, _, rfl, Sif_false ?_⟩
  have C14 := C13.new c14
  have hsz14 := C14.size
  refine jopen_ok D14 (fun w' c => E.ch (C14.trans c fun x hx h => by have := n14 x h; omega)) p1 (by rw [p2]; decide) (fun w2 B2 _ _ _ hn => by rw [p3] at hn; cases hn) fun w15 B15 jb2 jj L15 q15 m15 cq15 own15 R15 hj15 H15 c15 n15 njb15 hrow15 hsay15 hfr15 => ⟨_, _, _, _, _, rfl, ?_⟩
  rw [p3] at hj15 H15
  have hj15' : j1 = jj ∧ Ws = L15 := by simpa using hj15
  obtain ⟨rfl, rfl⟩ := hj15'
  have hv14 : ∀ b, Bv b → b < w13.heap.size := fun b hb => by have := hv9 b hb; have := c13.size; omega
  have nB15 : ∀ b, B15 b ∨ b = jb2 → w13.heap.size ≤ b := fun b hb => by
    have := c14.size
    rcases hb with hb | hb
    · rcases n15 b hb with h | h
      · exact n14 b h
      · omega
    · omega
  have C15 : Ch (fun _ => False) w w15 := C14.trans c15 fun z hz h => by have := n14 z h; omega
  have hZ15 : VL w15 Bv q t Z := ((hZ9.ch0 c13).ch0 c14).ch c15 fun b hb h => by have := hv14 b hb; have := n14 b h; omega
  have k15 : Keep w w15 jb2 d2 a1 j1 B15 Bv := ⟨H15, C15, fun b hb => by have := nB15 b hb; omega, k8.old, fun b hb => ⟨by have := hv14 b hb; have := c14.size; have := c15.size; omega, fun h => by have := hv14 b hb; have := nB15 b h; omega⟩⟩
  have S15 : Small (2 ^ 24) R15 := small_of hrow15 (by rw [hsay15]; exact hgood) (by rw [hsay15]; omega)
  have h15n := S15.n
  have hm15 : R15.length = m15 := hrow15.1
  refine same_ok (BtE.Row.view hrow15) hZ15 (by omega) (fun z hz => by have := view_small S15 z hz; omega) fun w16 c16 => ⟨_, rfl, ?_⟩
  rw [view_says, hsay15, hZs, decide_eq_true rfl]
  have k16 := k15.ch0 c16
  have hZ16 := hZ15.ch0 c16
  refine ⟨fun w17 => w17 = w16, ?_, Sif_true (Sif_true (Sif_true ?_))⟩
  rotate_left
  · refine size_ok k16.jd ⟨_, rfl, ?_⟩
    rw [p4, hN]
    have e : ((N : Int) != (N : Int)) = false := by simp
    rw [e]
    exact Sif_false rfl
  rintro w17 rfl
  -- one more is added
  refine ⟨fun b w18 => w18 = w17 ∧ b = decide (N < k2 ∧ N + k2 > 16777216), ?_, ?_⟩
  rotate_left
  · refine Sif_cases (fun h => ?_) fun h => ?_
    · have h' : (k2 : Int) > N := by simpa using h
      rw [wrap_id (by omega) (by omega)]
      refine ⟨rfl, ?_⟩
      congr 1
      apply propext
      constructor
      · intro h; exact ⟨by omega, by omega⟩
      · intro h; omega
    · have h' : ¬ (k2 : Int) > N := by simpa using h
      refine ⟨rfl, ?_⟩
      symm
      rw [decide_eq_false_iff_not]
      omega
  rintro b w18 ⟨rfl, rfl⟩
  refine newB_blk fun w19 b19 c19 z19 => newB_blk fun w20 b20 c20 z20 => ?_
  have k20 := (k16.ch0 c19).ch0 c20
  have hZ20 := (hZ16.ch0 c19).ch0 c20
  have b19' : blk w20 w18.heap.size = some (bytesV [7]) := by rw [c20.blk (by omega) id]; exact b19
  have V20 : VR w20 (fun b => w18.heap.size ≤ b) (some ⟨w19.heap.size, 0, none⟩) 1 [⟨some ⟨w18.heap.size, 0, none⟩, 1, 1, [7]⟩] := by
    refine vr_new b20 rfl (fun z hz => ?_) (by show _ ≤ _; omega)
    rw [List.mem_singleton.1 hz]
    exact (rv_new b19' rfl).mono fun b e => by have e : b = w18.heap.size := e; show _ ≤ _; omega
  have hlt16 := k16.jd.blt
  have hdis : ∀ b, w18.heap.size ≤ b → ¬ (B15 b ∨ b = jb2) := fun b hb h => by have := hlt16 b h; omega
  refine add_ok k20.jd p5 V20 hdis (by show (body sevenR).length ≤ 2 ^ 40; decide) (by decide) (by rw [p4, hN]; omega) ?_
  rw [show saysR [(⟨some ⟨w18.heap.size, 0, none⟩, 1, 1, [7]⟩ : RV)] = sevenR from rfl, p7]
  intro w21 B21 H21 c21 n21
  have k21 := k20.step H21 c21 n21
  have hZ21 : VL w21 Bv q t Z := hZ20.ch c21 fun b hb => (k20.view b hb).2
  refine ⟨_, rfl, ?_⟩
  have H21' : DK w21 d2 a2 B21 := H21.dk
  have hE21 : ∀ w', Ch B21 w21 w' → ErrsA w' aB aS := fun w' c => E.ch (k21.ch.trans c fun z hz h => by have := k21.disk z (.inl h); omega)
  have hv21 : ∀ b, Bv b → b < w21.heap.size ∧ ¬ B21 b := fun b hb => ⟨(k21.view b hb).1, fun h => (k21.view b hb).2 (.inl h)⟩
  rcases p9 with ⟨f1, f2, rfl, a3, j3, f3⟩ | ⟨f1, rfl, a3, j3, f3⟩
  · rw [decide_eq_true (⟨by omega, by omega⟩ : N < k2 ∧ N + k2 > 16777216)]
    refine jopen_ok H21'.sort hE21 (ltS_sorted _) (by rw [sorted_len]; show a2.cnt ≤ _; omega) (fun w2 B2 _ _ _ hn => by rw [f3] at hn; cases hn) fun w22 B22 jb3 jj L22 q22 m22 cq22 own22 R22 hj22 H22 c22 n22 njb22 hrow22 hsay22 hfr22 => ⟨_, _, _, _, _, rfl, ?_⟩
    rw [f3] at hj22
    have hj22' : j3 = jj ∧ Ws = L22 := by simpa using hj22
    obtain ⟨rfl, rfl⟩ := hj22'
    have C22 : Ch (fun _ => False) w w22 := k21.ch.trans c22 fun z hz h => by have := k21.disk z (.inl h); omega
    have hZ22 : VL w22 Bv q t Z := hZ21.ch c22 fun b hb h => (hv21 b hb).2 h
    have S22 : Small (2 ^ 24) R22 := small_of hrow22 (by rw [hsay22]; exact hgood) (by rw [hsay22]; omega)
    have h22n := S22.n
    have hm22 : R22.length = m22 := hrow22.1
    refine ⟨fun q2 t2 cq2 w23 => q2 = q ∧ t2 = t ∧ cq2 = cq ∧ w23 = w22, ?_, Sif_false ⟨rfl, rfl, rfl, rfl⟩⟩
    rintro q2 t2 cq2 w23 ⟨rfl, rfl, rfl, rfl⟩
    refine same_ok (BtE.Row.view hrow22) hZ22 (by omega) (fun z hz => by have := view_small S22 z hz; omega) fun w24 c24 => ⟨_, rfl, ?_⟩
    rw [view_says, hsay22, hZs, decide_eq_true rfl]
    exact Sif_true (Sif_true (Sif_true (Sif_false (hk w24 (C22.new c24)))))
  · rw [decide_eq_false (fun h => f1 ⟨by omega, by omega⟩ : ¬ (N < k2 ∧ N + k2 > 16777216))]
    refine jopen_ok H21'.sort hE21 (ltS_sorted _) (by rw [sorted_len]; show a2.cnt ≤ _; omega) (fun w2 B2 _ _ _ hn => by rw [f3] at hn; cases hn) fun w22 B22 jb3 jj L22 q22 m22 cq22 own22 R22 hj22 H22 c22 n22 njb22 hrow22 hsay22 hfr22 => ⟨_, _, _, _, _, rfl, ?_⟩
    rw [f3] at hj22
    have hj22' : j3 = jj ∧ Ws ++ [sevenR] = L22 := by simpa using hj22
    obtain ⟨rfl, rfl⟩ := hj22'
    have C22 : Ch (fun _ => False) w w22 := k21.ch.trans c22 fun z hz h => by have := k21.disk z (.inl h); omega
    have hZ22 : VL w22 Bv q t Z := hZ21.ch c22 fun b hb h => (hv21 b hb).2 h
    have hg7 : ∀ R ∈ Ws ++ [sevenR], goodB R := fun R hR => by
      rcases List.mem_append.1 hR with h | h
      · exact hgood R h
      · rw [List.mem_singleton.1 h]; exact ⟨by decide, by decide, by decide⟩
    have h7l : (allB (Ws ++ [sevenR])).length = N + 17 := by rw [allB_append, List.length_append, hN]; simp [allB, sevenR_len]
    have S22 : Small (2 ^ 25) R22 := small_of hrow22 (by rw [hsay22]; exact hg7) (by rw [hsay22]; omega)
    have h22n := S22.n
    have hm22 : R22.length = m22 := hrow22.1
    refine ⟨fun q2 t2 cq2 w23 => ∃ B23 Z2, VL w23 B23 q2 t2 Z2 ∧ saysL Z2 = Ws ++ [sevenR] ∧ Ch (fun _ => False) w22 w23, ?_, Sif_true ?_⟩
    · rintro q2 t2 cq2 w23 ⟨B23, Z2, hZ23, hZ2s, c23⟩
      refine same_ok ((BtE.Row.view hrow22).ch0 c23) hZ23 (by omega) (fun z hz => by have := view_small S22 z hz; omega) fun w24 c24 => ⟨_, rfl, ?_⟩
      rw [view_says, hsay22, hZ2s, decide_eq_true rfl]
      exact Sif_true (Sif_true (Sif_false (Sif_true (hk w24 ((C22.new c23).new c24)))))
    · refine newB_blk fun w23 b23 c23 z23 => newB_blk fun w24 b24 c24 z24 => ?_
      have b23' : blk w24 w22.heap.size = some (bytesV [7]) := by rw [c24.blk (by omega) id]; exact b23
      have hb24 : BV.ok w24 (fun b => Bv b ∨ b = w22.heap.size ∨ b = w23.heap.size) ⟨some ⟨w23.heap.size, 0, none⟩, 1, 1, [⟨some ⟨w22.heap.size, 0, none⟩, 1, 1, [7]⟩]⟩ := by
        refine ⟨vr_new b24 rfl (fun z hz => ?_) (.inr (.inr rfl)), Nat.le_refl _⟩
        rw [List.mem_singleton.1 hz]
        exact (rv_new b23' rfl).mono fun b e => .inr (.inl e)
      have hv24 : ∀ b, (Bv b ∨ b = w22.heap.size ∨ b = w23.heap.size) → b < w24.heap.size := fun b hb => by
        rcases hb with hb | hb | hb
        · have := (hv21 b hb).1
          have := c22.size
          omega
        · omega
        · omega
      have hZ24 : VL w24 (fun b => Bv b ∨ b = w22.heap.size ∨ b = w23.heap.size) q t Z := ((hZ22.ch0 c23).ch0 c24).mono fun b => .inl
      generalize hbv : (⟨some ⟨w23.heap.size, 0, none⟩, 1, 1, [⟨some ⟨w22.heap.size, 0, none⟩, 1, 1, [7]⟩]⟩ : BV) = bv at hb24
      have hbvp : bv.p = some ⟨w23.heap.size, 0, none⟩ := by rw [← hbv]
      have hbvn : bv.n = 1 := by rw [← hbv]
      have hbvc : bv.c = 1 := by rw [← hbv]
      have hbvs : bv.says = sevenR := by rw [← hbv]; rfl
      rw [← hbvp]
      have hw := with_ok (c := cq) (K := fun v13 w27 => ∃ (p10 : Option Addr) (n18 c5 : Nat), v13 = .slice p10 n18 c5 ∧ ∃ B23 Z2, VL w27 B23 p10 n18 Z2 ∧ saysL Z2 = Ws ++ [sevenR] ∧ Ch (fun _ => False) w22 w27) hZ24 hb24 hv24 (by omega) fun w25 q25 t25 cq25 B25 hZ25 _ c25 n25 => ⟨_, _, _, rfl, ?_⟩
      rw [hbvn, hbvc] at hw
      exact hw
      rw [if_neg (by omega)] at hZ25
      exact ⟨B25, _, hZ25, by rw [← hZs]; simp [saysL, hbvs], (c23.new c24).new c25⟩
end Go.Proofs.YtipololccbdojaaGreatDoor
