/-
  JournalTurned: the walk.
-/
import Derived.Test.YtipololccbdojaaGreatDoorJcalm
import Derived.Test.YtipololccbdojaaGreatDoorJweigh
import Derived.Test.YtipololccbdojaaGreatDoorJscans
namespace Go.Proofs.YtipololccbdojaaGreatDoor
open Go Go.Sv
set_option linter.unusedVariables false
set_option maxRecDepth 4000

/-- a journal in hand, and what the law keeps beside it: blocks BV that it reads -/
structure Keep (W w : World) (jb d : Nat) (a : AD) (j : AJ) (Bd BV : Nat → Prop) : Prop where
  jd : JD w jb d a j Bd
  ch : Ch (fun _ => False) W w
  disk : ∀ b, Bd b ∨ b = jb → W.heap.size ≤ b
  old : ∀ b, Old W b → BV b
  view : ∀ b, BV b → b < w.heap.size ∧ ¬ (Bd b ∨ b = jb)
theorem Keep.ch0 {W w w' : World} {jb d : Nat} {a : AD} {j : AJ} {Bd BV : Nat → Prop} (k : Keep W w jb d a j Bd BV) (c : Ch (fun _ => False) w w') : Keep W w' jb d a j Bd BV :=
  ⟨k.jd.ch0 c, k.ch.new c, k.disk, k.old, fun b hb => ⟨by have := (k.view b hb).1; have := c.size; omega, (k.view b hb).2⟩⟩
/-- the journal has done something -/
theorem Keep.step {W w w' : World} {jb d : Nat} {a a' : AD} {j j' : AJ} {Bd Bd' BV : Nat → Prop} (k : Keep W w jb d a j Bd BV) (H : JD w' jb d a' j' Bd') (c : Ch (fun b => Bd b ∨ b = jb) w w') (n : ∀ b, Bd' b → Bd b ∨ w.heap.size ≤ b) : Keep W w' jb d a' j' Bd' BV := by
  have hz := k.ch.size
  refine ⟨H, k.ch.trans c fun x hx h => by have := k.disk x h; omega, fun b hb => ?_, k.old, fun b hb => ⟨by have := (k.view b hb).1; have := c.size; omega, fun h => ?_⟩⟩
  · rcases hb with hb | hb
    · rcases n b hb with h | h
      · exact k.disk b (.inl h)
      · omega
    · exact k.disk b (.inr hb)
  · have hv := k.view b hb
    rcases h with h | h
    · rcases n b h with h | h
      · exact hv.2 (.inl h)
      · omega
    · exact hv.2 (.inr h)
/-- more is read -/
theorem Keep.more {W w w' : World} {jb d : Nat} {a : AD} {j : AJ} {Bd BV BV' : Nat → Prop} (k : Keep W w jb d a j Bd BV) (c : Ch (fun _ => False) w w') (h : ∀ b, BV' b → BV b ∨ (w.heap.size ≤ b ∧ b < w'.heap.size)) : Keep W w' jb d a j Bd (fun b => BV b ∨ BV' b) := by
  refine ⟨k.jd.ch0 c, k.ch.new c, k.disk, fun b hb => .inl (k.old b hb), fun b hb => ?_⟩
  have key : ∀ b, BV b → b < w'.heap.size ∧ ¬ (Bd b ∨ b = jb) := fun b hb => ⟨by have := (k.view b hb).1; have := c.size; omega, (k.view b hb).2⟩
  rcases hb with hb | hb
  · exact key b hb
  · rcases h b hb with hb | hb
    · exact key b hb
    · exact ⟨hb.2, fun hh => by have := k.jd.blt b hh; omega⟩
def intC (n : Nat) : List Value := [.int .i64 (n : Int)]
theorem int_info : InfoIs Tryz.prog 3 1 8 (.int .i64 0) := .of (by kernel_rfl) (by kernel_rfl) (by kernel_rfl)
def endsOf (L : List Batch) : List Nat := (List.range L.length).map fun i => (allB (L.take (i + 1))).length
theorem endsOf_snoc (L : List Batch) (R : Batch) : endsOf (L ++ [R]) = endsOf L ++ [(allB (L ++ [R])).length] := by
  unfold endsOf
  rw [List.length_append, List.length_singleton, List.range_succ, List.map_append, List.map_singleton, List.take_of_length_le (l := L ++ [R]) (by simp)]
  congr 1
  refine List.map_congr_left fun i hi => ?_
  rw [List.take_append_of_le_length (by have := List.mem_range.1 hi; omega)]
theorem endsOf_at {L : List Batch} {i : Nat} (h : i < L.length) : (endsOf L)[i]? = some (allB (L.take (i + 1))).length := by
  unfold endsOf
  simp [h]
theorem endsOf_len (L : List Batch) : (endsOf L).length = L.length := by simp [endsOf]
theorem aheadN_succ (L : List Batch) (place i : Nat) : aheadN L place (i + 1) = if (allB (L.take (i + 1))).length ≤ place then i + 1 else aheadN L place i := rfl
theorem xor_byte (x : UInt8) (by_ : Int) : bitsV .xor .u8 (x.toNat : Int) (IntKind.wrap .u8 by_) = ((x ^^^ UInt8.ofNat (by_ % 256).toNat).toNat : Int) := by
  have e : IntKind.wrap .u8 by_ = ((UInt8.ofNat (by_ % 256).toNat).toNat : Int) := by
    unfold IntKind.wrap
    simp [IntKind.bits, IntKind.signed]
    omega
  rw [e]
  generalize UInt8.ofNat (by_ % 256).toNat = y
  unfold bitsV
  have h1 : BitVec.ofInt IntKind.u8.bits ((x.toNat : Nat) : Int) = x.toBitVec := by
    apply BitVec.eq_of_toNat_eq
    simp [IntKind.bits, BitVec.toNat_ofInt]
  have h2 : BitVec.ofInt IntKind.u8.bits ((y.toNat : Nat) : Int) = y.toBitVec := by
    apply BitVec.eq_of_toNat_eq
    simp [IntKind.bits, BitVec.toNat_ofInt]
  simp only [h1, h2]
  show IntKind.wrap .u8 (((x.toBitVec ^^^ y.toBitVec : BitVec 8).toNat : Nat) : Int) = _
  have h3 : (x.toBitVec ^^^ y.toBitVec).toNat = (x ^^^ y).toNat := by simp
  rw [h3, w8]
  simp
theorem xor_same (x y : UInt8) : x ^^^ y = x ↔ y = 0 := by
  constructor
  · intro h
    have : x ^^^ (x ^^^ y) = x ^^^ x := by rw [h]
    rwa [← UInt8.xor_assoc, UInt8.xor_self, UInt8.zero_xor] at this
  · rintro rfl; exact UInt8.xor_zero
theorem by_zero (by_ : Int) : (IntKind.wrap .u8 by_ == 0) = decide (UInt8.ofNat (by_ % 256).toNat = 0) := by
  have e : IntKind.wrap .u8 by_ = by_ % 256 := by
    unfold IntKind.wrap
    simp [IntKind.bits, IntKind.signed]
  rw [e]
  have : UInt8.ofNat (by_ % 256).toNat = 0 ↔ by_ % 256 = 0 := by
    rw [← UInt8.toNat_inj]
    simp
    omega
  by_cases h : by_ % 256 = 0
  · simp [h]
  · have h2 : ¬ UInt8.ofNat (by_ % 256).toNat = 0 := fun e => h (this.1 e)
    simp [h, h2]
set_option maxHeartbeats 4000000 in
theorem turned_walk {w : World} {x : LV} {at_ by_ safe : Int} {aB aS : Addr} {K : Value → World → Prop} (E : ErrsA w aB aS) (hx : x.ok w) (ha2 : at_ ≤ 9223372036854775807) (hs2 : safe ≤ 9223372036854775807)
    (hk : ∀ w', Ch (fun _ => False) w w' → K (.bool true) w') : callP Tryz.prog 5 [.slice x.p x.n x.c, .int .i64 at_, .int .i64 by_, .int .i64 safe] w K := by
  have hY := hx.rd
  have hYl := hY.len
  have hxn := hx.n
  refine ok_longshorelaw20_JournalTurned ?_
  unfold wp_longshorelaw20_JournalTurned
  refine weighAll_ok hY (by omega) (fun y hy => ⟨by have := (hx.small y hy).1; omega, fun z hz => by have := (hx.small y hy).2 z hz; omega⟩) (by omega) (by omega) fun v v0 v1 v2 => ⟨_, rfl, Sif_cases (fun hb => ?_) fun hb => ?_⟩
  · exact hk w (Ch.refl _ _)
  have hv : v ≤ most := by have : ¬ v > 2147483647 := by simpa using hb
                           show v ≤ 2147483647; omega
  have hwt := v2 hv
  have hv' : v ≤ 2147483647 := hv
  refine live_ok E fun w2 c2 => ⟨_, rfl, ?_⟩
  refine new_ok (fun h => by omega) fun _ _ d w3 B3 D3 c3 n3 => ⟨_, rfl, ?_⟩
  refine ⟨fun w4 => w4 = w3, ?_, Sif_true (Sif_false rfl)⟩
  rintro w4 rfl
  have C3 : Ch (fun _ => False) w w4 := c2.new c3
  have z2 := c2.size
  refine jopen_ok D3 (fun w' c => E.ch (C3.trans c fun x hx h => by have := n3 x h; omega)) (newA_lt _) (by decide) (fun w2 B2 _ _ _ hn => by rw [new_open] at hn; cases hn) fun w5 B5 jb j L q m cq own R hj H5 c5 n5 njb hrow hsay hfr => ⟨_, _, _, _, _, rfl, ?_⟩
  rw [new_open] at hj H5
  have hj2 : (⟨0, false, false⟩ : AJ) = j ∧ ([] : List Batch) = L := by simpa using hj
  obtain ⟨rfl, rfl⟩ := hj2
  have z3 := c3.size
  have k5 : Keep w w5 jb d (newA 16777216) ⟨0, false, false⟩ B5 (Old w) := by
    refine ⟨H5, C3.trans c5 fun x hx h => by have := n3 x h; omega, fun b hb => ?_, fun b => id, fun b hb => ⟨?_, fun h => ?_⟩⟩
    · rcases hb with hb | hb
      · rcases n5 b hb with h | h
        · have := n3 b h; omega
        · omega
      · omega
    · have hb : b < w.heap.size := hb
      have := c5.size; omega
    · have hb : b < w.heap.size := hb
      rcases h with h | h
      · rcases n5 b h with h | h
        · have := n3 b h; omega
        · omega
      · omega
  refine ⟨fun w6 => w6 = w5, ?_, Sif_true (Sif_false rfl)⟩
  rintro w6 rfl
  refine ⟨fun m q t cq ep en ec i w' => ∃ (k : Nat) (a : AD) (j : AJ) (Bd Bv : Nat → Prop) (Ws : List Batch) (Z : List BV) (eo : Option Nat), i = (k : Int) ∧ k ≤ x.n ∧ m = x.n - k ∧ Keep w w' jb d a j Bd Bv ∧ Calm a j Ws ∧ VL w' Bv q t Z ∧ t ≤ cq ∧ saysL Z = Ws ∧ t ≤ k ∧ (∀ z ∈ Z, z.n ≤ 2 ^ 20) ∧
      en = (endsOf Ws).length ∧ Ow w' ep en ec 1 ((endsOf Ws).flatMap intC) eo ∧ (∀ b, eo = some b → w.heap.size ≤ b ∧ ¬ (Bd b ∨ b = jb) ∧ ¬ Bv b),
    ⟨x.n, 0, _, _, B5, Old w, [], [], none, rfl, by omega, rfl, k5, calm_new, VL.nil, Nat.le_refl _, rfl, Nat.le_refl _, by simp, rfl, Ow.nil, fun b hb => by cases hb⟩, ?_⟩
  rintro m q t cq ep en ec i w7 ⟨k, a, j, Bd, Bv, Ws, Z, eo, rfl, hkn, rfl, k7, hc7, hZ, htc, hZs, htk, hZn, rfl, hE, hEo⟩
  have hWt : Ws.length = t := by rw [← hZs, saysL_len]; exact hZ.len
  have hfit := k7.jd.dk.wf.fits
  have hroom := hc7.room
  have htot := hc7.tot
  have hjs := hc7.live.size
  have hsz7 := k7.ch.size
  refine Sif_cases (fun hlt => ?_) fun hge => ?_
  · have hlt' : (k : Int) < x.n := by simpa using hlt
    have hkl : k < x.Y.length := by omega
    have hi := List.getElem?_eq_getElem hkl
    have hsm := hx.small _ (List.getElem_mem hkl)
    have hview : ∀ w', Ch (fun _ => False) w w' → ∃ kb o, x.p = some ⟨kb, o, none⟩ ∧ w'.cell? ⟨kb, o + k, none⟩ = some (.slice x.Y[k].p x.Y[k].n x.Y[k].c) ∧ BV.ok w' (Old w) x.Y[k] := fun w' c => by
      obtain ⟨kb, o, e, hc⟩ := (hY.ch0 c).at hi
      exact ⟨kb, o, e, hc, (hY.ch0 c).ok _ (List.getElem_mem hkl)⟩
    obtain ⟨kb, o, hp, hcell, hbv⟩ := hview w7 k7.ch
    -- what follows each way
    refine ⟨fun q t cq ep en ec w' => ∃ (a : AD) (j : AJ) (Bd Bv : Nat → Prop) (Ws : List Batch) (Z : List BV) (eo : Option Nat), Keep w w' jb d a j Bd Bv ∧ Calm a j Ws ∧ VL w' Bv q t Z ∧ t ≤ cq ∧ saysL Z = Ws ∧ t ≤ k + 1 ∧ (∀ z ∈ Z, z.n ≤ 2 ^ 20) ∧
      en = (endsOf Ws).length ∧ Ow w' ep en ec 1 ((endsOf Ws).flatMap intC) eo ∧ (∀ b, eo = some b → w.heap.size ≤ b ∧ ¬ (Bd b ∨ b = jb) ∧ ¬ Bv b), ?_, by omega, hlt', ?_⟩
    · rintro q t cq ep en ec w' ⟨a, j, Bd, Bv, Ws, Z, eo, g1, g2, g3, g4, g5, g6, g7, g8, g9, g10⟩
      rw [wrap_id (by omega) (by omega), nameI_iff]
      exact ⟨x.n - (k + 1), by omega, k + 1, a, j, Bd, Bv, Ws, Z, eo, by omega, by omega, rfl, g1, g2, g3, g4, g5, g6, g7, g8, g9, g10⟩
    rw [hp]
    simp only [nn_some, add_at, Int.toNat_natCast, Nat.mul_one]
    refine ⟨_, _, _, hcell, ?_⟩
    have hbody : (body x.Y[k].says).length ≤ 2 ^ 40 := by
      have h1 := wtL_mem (L := saysL x.Y) (R := x.Y[k].says) (List.mem_map.2 ⟨_, List.getElem_mem hkl, rfl⟩)
      have h2 := wtR_body x.Y[k].says
      omega
    have hVold : ∀ b, Old w b → ¬ (Bd b ∨ b = jb) := fun b hb => (k7.view b (k7.old b hb)).2
    refine add_ok k7.jd (fun e => by rw [hc7.tail] at e; cases e) hbv.rd hVold hbody (by have := hsm.1; omega) (by omega) ?_
    rw [show saysR x.Y[k].X = x.Y[k].says from rfl]
    intro w8 B8 H8 c8 n8
    have k8 := k7.step H8 c8 n8
    have hZ8 : VL w8 Bv q t Z := hZ.ch c8 fun b hb => (k7.view b hb).2
    have hE8 : Ow w8 ep (endsOf Ws).length ec 1 ((endsOf Ws).flatMap intC) eo := hE.ch c8 fun b hb => (hEo b hb).2.1
    have hEo8 : ∀ b, eo = some b → w.heap.size ≤ b ∧ ¬ (B8 b ∨ b = jb) ∧ ¬ Bv b := fun b hb => by
      obtain ⟨g1, g2, g3⟩ := hEo b hb
      refine ⟨g1, fun h => ?_, g3⟩
      rcases h with h | h
      · rcases n8 b h with h | h
        · exact g2 (.inl h)
        · have := hE.blt b hb; omega
      · exact g2 (.inr h)
    obtain ⟨kb2, o2, hp2, hcell2, hbv2⟩ := hview w8 k8.ch
    rw [hp] at hp2; cases hp2
    have hYn : x.Y[k].X.length = x.Y[k].n := hbv.rd.len
    rcases calm_add x.Y[k].says hc7 with ⟨a', j', g1, g2, g3⟩ | ⟨a', j', g1, g2, g3⟩ | ⟨a', j', g1, g2, g3, g4, g5⟩ | ⟨a', j', g1, g2, g3, g4, g5⟩
    · rw [g1] at k8 ⊢
      exact ⟨_, rfl, Sif_false ⟨a', j', B8, Bv, Ws, Z, eo, k8, g2, hZ8, htc, hZs, by omega, hZn, rfl, hE8, hEo8⟩⟩
    · rw [g1] at k8 ⊢
      have hn0 : x.Y[k].n = 0 := by
        have : (saysR x.Y[k].X).length = 0 := by
          have g3 : saysR x.Y[k].X = [] := g3
          rw [g3]; rfl
        rw [saysR_len] at this; omega
      refine ⟨_, rfl, Sif_true ⟨by omega, hlt', _, _, _, hcell2, Sif_cases (fun h => ?_) fun h => ?_⟩⟩
      · have : (x.Y[k].n : Int) > 0 := by simpa using h
        omega
      · exact ⟨a', j', B8, Bv, Ws, Z, eo, k8, g2, hZ8, htc, hZs, by omega, hZn, rfl, hE8, hEo8⟩
    · rw [g1] at k8 ⊢
      exact ⟨_, rfl, Sif_false ⟨a', j', B8, Bv, Ws, Z, eo, k8, g2, hZ8, htc, hZs, by omega, hZn, rfl, hE8, hEo8⟩⟩
    · rw [g1] at k8 ⊢
      have hn0 : x.Y[k].n ≠ 0 := fun h0 => g3 (by
        have : x.Y[k].X = [] := List.eq_nil_of_length_eq_zero (by omega)
        show saysR x.Y[k].X = []
        rw [this]; rfl)
      refine ⟨_, rfl, Sif_true ⟨by omega, hlt', _, _, _, hcell2, Sif_cases (fun h => ?_) fun h => ?_⟩⟩
      · refine ⟨by omega, hlt', _, _, _, hcell2, ?_⟩
        refine with_ok hZ8 (hbv2.mono k8.old) (fun b hb => (k8.view b hb).1) (by omega) fun w9 q9 t9 cq9 Bv9 hZ9 htc9 c9 n9 => ⟨_, _, _, rfl, ?_⟩
        rw [if_neg hn0] at hZ9
        have k9 := k8.more c9 n9
        have hZ9' : VL w9 (fun b => Bv b ∨ Bv9 b) q9 t9 (Z ++ [x.Y[k]]) := hZ9.mono fun b => .inr
        have hsz9 : j'.size = (allB (Ws ++ [x.Y[k].says])).length := g2.live.size
        refine size_ok k9.jd ⟨_, rfl, ?_⟩
        have hE9 := hE8.ch c9 fun _ _ => id
        rw [hsz9]
        have t9e : t9 = t + 1 := by rw [← hZ9.len, List.length_append, hZ.len]; rfl
        refine push_ok (g := intC) (sz := 1) (bytes := 8) Tryz.underlying40 int_info rfl (fun _ => rfl) (fun z v hv => by simp [intC] at hv; rw [hv]; rfl) hE9 (allB (Ws ++ [x.Y[k].says])).length (by rw [endsOf_len]; omega) (by rw [endsOf_len]; omega) fun p' c' b' w' o' n' c10 => ?_
        rw [← endsOf_snoc] at o' ⊢
        have hEo9 : ∀ b, eo = some b → ¬ ((B8 b ∨ b = jb)) ∧ ¬ (Bv b ∨ Bv9 b) := fun b hb => by
          obtain ⟨q1, q2, q3⟩ := hEo8 b hb
          refine ⟨q2, fun h => ?_⟩
          rcases h with h | h
          · exact q3 h
          · rcases n9 b h with h | h
            · exact q3 h
            · have := hE8.blt b hb; omega
        have k10 : Keep w w' jb d a' j' B8 (fun b => Bv b ∨ Bv9 b) := by
          refine ⟨k9.jd.ch c10 fun b hb e => (hEo9 b e).1 hb, k9.ch.trans c10 fun z hz e => by have := (hEo8 z e).1; omega, k9.disk, k9.old, fun b hb => ⟨by have := (k9.view b hb).1; have := c10.size; omega, (k9.view b hb).2⟩⟩
        refine ⟨a', j', B8, _, Ws ++ [x.Y[k].says], Z ++ [x.Y[k]], b', k10, g2, hZ9'.ch c10 fun b hb e => (hEo9 b e).2 hb, htc9, ?_, by omega, fun z hz => ?_, rfl, o', fun b hb => ?_⟩
        · rw [← hZs]; simp [saysL]
        · rcases List.mem_append.1 hz with h | h
          · exact hZn z h
          · rw [List.mem_singleton.1 h]; exact hsm.1
        · rcases n' b hb with h | h
          · exact ⟨(hEo8 b h).1, hEo9 b h⟩
          · have hz9 := k9.ch.size
            refine ⟨by omega, fun hh => ?_, fun hh => ?_⟩
            · have := k9.jd.blt b hh; omega
            · have := (k9.view b hh).1; omega
      · have : ¬ (x.Y[k].n : Int) > 0 := by simpa using h
        omega
  -- the log is read
  have hkx : ¬ (k : Int) < x.n := by simpa using hge
  refine Sv.callP_mono (K := fun v w' => ∃ p c b B1, v = .tuple #[.slice p (allB Ws).length c, .int .i64 (a.err [sLog] sLog)] ∧ Ch Bd w7 w' ∧ Ow w' p (allB Ws).length c 1 (bytesV (allB Ws)) b ∧ (∀ k, b = some k → w7.heap.size ≤ k) ∧ DK w' d a B1) (read_ok k7.jd.dk (by decide) fun p c b w1 B1 D1 c1 n1 o1 f1 => by
    have hr := hc7.read
    simp only [hr] at o1 ⊢
    exact ⟨p, c, b, B1, rfl, c1, o1, f1, D1⟩) ?_
  rintro v8 w8 ⟨p, c, ob, B8, rfl, c8, o8, f8, D8⟩
  refine ⟨_, _, _, _, rfl, ?_⟩
  have C8 : Ch (fun _ => False) w w8 := k7.ch.trans c8 fun z hz h => by have := k7.disk z (.inl h); omega
  have hZ8 : VL w8 Bv q t Z := hZ.ch c8 fun b hb h => (k7.view b hb).2 (.inl h)
  have hE8 : Ow w8 ep (endsOf Ws).length ec 1 ((endsOf Ws).flatMap intC) eo := hE.ch c8 fun b hb h => (hEo b hb).2.1 (.inl h)
  have hlen : (allB Ws).length ≤ 2 ^ 24 := by omega
  have hgood := hc7.live.good
  refine ⟨fun w9 => w9 = w8 ∧ (allB Ws).length ≠ 0 ∧ 0 ≤ at_, ?_, Sif_cases (fun h0 => Sif_cases (fun h1 => ?_) fun h1 => ?_) fun h0 => ?_⟩
  rotate_left
  · exact hk w8 C8
  · have h0' : ¬ ((allB Ws).length : Int) = 0 := by simpa using h0
    have h1' : ¬ at_ < 0 := by simpa using h1
    exact ⟨rfl, by omega, by omega⟩
  · exact hk w8 C8
  rintro w9 ⟨rfl, hl0, hat⟩
  generalize hlW : (allB Ws).length = n at *
  refine ⟨by omega, ?_⟩
  obtain ⟨A, rfl⟩ : ∃ A : Nat, at_ = (A : Int) := ⟨at_.toNat, by omega⟩
  have hpl : Int.tmod (A : Int) (n : Int) = ((A % n : Nat) : Int) := by rw [Int.tmod_eq_emod_of_nonneg (by omega)]; omega
  rw [hpl, nameI_iff]
  have hpn : A % n < n := Nat.mod_lt _ (by omega)
  generalize A % n = place at hpn
  refine ⟨by omega, by omega, ?_⟩
  obtain ⟨ok, oo, hop, hoown, host⟩ := o8.st (i := place) (by omega)
  have hxl : place < (allB Ws).length := by omega
  obtain ⟨rk, ro, hrp, hrc⟩ := o8.rd.cell (i := place) (by omega)
  rw [hop] at hrp
  cases hrp
  rw [hop]
  simp only [nn_some, add_at, Int.toNat_natCast, Nat.mul_one, Nat.add_zero]
  refine ⟨((allB Ws)[place].toNat : Int), by rw [hrc]; simp [bytesV, hxl], by omega, by omega, ?_⟩
  rw [xor_byte]
  generalize hyb : UInt8.ofNat (by_ % 256).toNat = yb
  refine host _ _ fun w10 o10 c10 z10 => ?_
  have ebytes : (bytesV (allB Ws)).set place (.int .u8 (((allB Ws)[place] ^^^ yb).toNat : Int)) = bytesV ((allB Ws).set place ((allB Ws)[place] ^^^ yb)) := by
    unfold bytesV
    rw [List.map_set]
  rw [ebytes] at o10
  have hokw : w7.heap.size ≤ ok := f8 ok hoown
  have C10 : Ch (fun _ => False) w w10 := C8.trans c10 fun z hz e => by omega
  have hZ10 : VL w10 Bv q t Z := hZ8.ch c10 fun b hb e => by have := (k7.view b hb).1; omega
  have hE10 : Ow w10 ep (endsOf Ws).length ec 1 ((endsOf Ws).flatMap intC) eo := hE8.ch c10 fun b hb e => by have := hE.blt b hb; omega
  have hel := endsOf_len Ws
  refine ⟨fun m bg ah i w' => ∃ k : Nat, i = (k : Int) ∧ k ≤ Ws.length ∧ m = Ws.length - k ∧ w' = w10 ∧ ah = (aheadN Ws place k : Int) ∧ bg = ((allB (Ws.take (aheadN Ws place k))).length : Int), ⟨Ws.length, 0, rfl, by omega, rfl, rfl, rfl, by simp [aheadN, allB]⟩, ?_⟩
  rintro m bg ah i w11 ⟨k2, rfl, hk2, rfl, rfl, rfl, rfl⟩
  refine Sif_cases (fun hlt => ?_) fun hge2 => ?_
  · have hlt' : (k2 : Int) < (endsOf Ws).length := by simpa using hlt
    have hk3 : k2 < Ws.length := by omega
    have hei := endsOf_at hk3
    obtain ⟨eb, eoo, hep, hec⟩ := hE10.rd.at (g := intC) (fun _ => rfl) hei (by decide)
    have hec0 := hec 0 _ rfl
    rw [Nat.mul_one, Nat.add_zero] at hec0
    have hle3 := allB_take_len Ws (k2 + 1)
    refine ⟨fun bg ah w' => w' = w11 ∧ ah = (aheadN Ws place (k2 + 1) : Int) ∧ bg = ((allB (Ws.take (aheadN Ws place (k2 + 1)))).length : Int), ?_, by omega, hlt', ?_⟩
    · rintro bg ah w' ⟨rfl, rfl, rfl⟩
      rw [wrap_id (by omega) (by omega), nameI_iff]
      exact ⟨Ws.length - (k2 + 1), by omega, k2 + 1, by omega, by omega, rfl, by trivial, by trivial, by trivial⟩
    rw [hep]
    simp only [nn_some, add_at, Int.toNat_natCast, Nat.mul_one]
    refine ⟨_, hec0, Sif_cases (fun h => ?_) fun h => ?_⟩
    · have h' : ((allB (Ws.take (k2 + 1))).length : Int) ≤ (place : Int) := by simpa using h
      have ea : aheadN Ws place (k2 + 1) = k2 + 1 := by rw [aheadN_succ, if_pos (by omega)]
      refine ⟨by omega, hlt', _, hec0, ?_⟩
      rw [wrap_id (by omega) (by omega), nameI_iff, ea]
      exact ⟨by trivial, by omega, rfl⟩
    · have h' : ¬ ((allB (Ws.take (k2 + 1))).length : Int) ≤ (place : Int) := by simpa using h
      have ea : aheadN Ws place (k2 + 1) = aheadN Ws place k2 := by rw [aheadN_succ, if_neg (by omega)]
      rw [ea]
      exact ⟨by trivial, rfl, rfl⟩
  have hge2' : ¬ (k2 : Int) < (endsOf Ws).length := by simpa using hge2
  obtain rfl : k2 = Ws.length := by omega
  have hale := aheadN_le Ws place Ws.length
  have hlaw := fun s hs0 hs1 => turned_law (L := Ws) hgood hxl (x := (allB Ws)[place] ^^^ yb) (s := s) hs0 hs1
  have hsame : (allB Ws)[place]? = some ((allB Ws)[place] ^^^ yb) ↔ yb = 0 := by
    rw [List.getElem?_eq_getElem hxl]
    constructor
    · intro h; exact (xor_same _ _).1 (Option.some.inj h).symm
    · intro h; rw [(xor_same _ _).2 h]
  refine ⟨fun s w' => w' = w11 ∧ 0 ≤ s ∧ s ≤ n, ?_, ?_⟩
  · rintro s w12 ⟨rfl, hs0, hs1⟩
    have hd : ((allB Ws).set place ((allB Ws)[place] ^^^ yb)).length = n := by rw [List.length_set]; exact hlW
    obtain ⟨l1, l2, l3⟩ := hlaw s hs0 (by omega)
    rw [← hop]
    refine scan_ok o10.rd o10.2.1 (by omega) (E.ch C10) fun w13 q3 m3 cq3 own3 R3 c13 hs3 r3 f3 => ⟨_, _, _, _, _, rfl, ?_⟩
    have C13 := C10.new c13
    have hV3 := BtE.Row.view r3
    have S3 := small_of r3 (M := 2 ^ 24) (by rw [hs3]; exact (scanA_small _ _).1) (by rw [hs3]; have := (scanA_small ((allB Ws).set place ((allB Ws)[place] ^^^ yb)) s).2; omega)
    have h3n := S3.n
    have hm3 : R3.length = m3 := r3.1
    rw [by_zero, hyb]
    refine Sif_cases (fun h0 => ?_) fun h0 => ?_
    · have h0' : yb = 0 := by simpa using h0
      rw [l1 (hsame.2 h0')] at hs3 ⊢
      refine same_ok hV3 (hZ10.ch0 c13) (by omega) (fun y hy => by have := view_small S3 y hy; omega) fun w14 c14 => ⟨_, rfl, ?_⟩
      rw [view_says, hs3, hZs, decide_eq_true rfl, hlW]
      refine Sif_true (Sif_true ?_)
      have e : ((n : Int) == (n : Int)) = true := by simp
      rw [e]
      exact hk w14 (C13.new c14)
    · have h0' : ¬ yb = 0 := by simpa using h0
      have hne : (allB Ws)[place]? ≠ some ((allB Ws)[place] ^^^ yb) := fun h => h0' (hsame.1 h)
      refine Sif_cases (fun hb => ?_) fun hb => ?_
      · have hb' : ((allB (Ws.take (aheadN Ws place Ws.length))).length : Int) < s := by simpa using hb
        rw [l2 hne hb'] at hs3 ⊢
        have hm0 : m3 = 0 := by
          have := congrArg List.length hs3
          rw [List.length_map] at this
          rw [← hm3, this]; rfl
        subst hm0
        refine Sif_true ?_
        have e : (((allB (Ws.take (aheadN Ws place Ws.length))).length : Int) == ((allB (Ws.take (aheadN Ws place Ws.length))).length : Int)) = true := by simp
        rw [e]
        exact Sif_true (hk w13 C13)
      · have hb' : ¬ ((allB (Ws.take (aheadN Ws place Ws.length))).length : Int) < s := by simpa using hb
        rw [l3 hne hb'] at hs3 ⊢
        refine ⟨by omega, by omega, ?_⟩
        rw [Int.toNat_natCast]
        have hZt : VL w13 Bv q (aheadN Ws place Ws.length) (Z.take (aheadN Ws place Ws.length)) := by
          have hZ13 := hZ10.ch0 c13
          refine ⟨by rw [List.length_take, hZ13.len]; omega, ?_, fun y hy => hZ13.ok y (List.mem_of_mem_take hy), fun a' ha h0 => hZ13.at_ a' ha (by omega)⟩
          have := Sv.Rd.take hZ13.row (m := aheadN Ws place Ws.length) (by omega)
          rw [flat_take BV.cells_len] at this
          exact this
        refine same_ok hV3 hZt (by omega) (fun y hy => by have := view_small S3 y hy; omega) fun w14 c14 => ⟨_, rfl, ?_⟩
        have hst : saysL (Z.take (aheadN Ws place Ws.length)) = Ws.take (aheadN Ws place Ws.length) := by rw [← hZs]; unfold saysL; rw [List.map_take]
        rw [view_says, hs3, hst, decide_eq_true rfl]
        refine Sif_true ?_
        have e : (((allB (Ws.take (aheadN Ws place Ws.length))).length : Int) == ((allB (Ws.take (aheadN Ws place Ws.length))).length : Int)) = true := by simp
        rw [e]
        exact Sif_true (hk w14 (C13.new c14))
  · refine Sif_cases (fun h => ?_) fun h => ?_
    · have h' : safe ≥ 0 := by simpa using h
      rw [wrap_id (by omega) (by omega)]
      refine ⟨by omega, ?_⟩
      have e : Int.tmod safe ((n : Int) + 1) = safe % ((n : Int) + 1) := Int.tmod_eq_emod_of_nonneg (by omega)
      rw [e, nameI_iff]
      have h1 := Int.emod_nonneg safe (by omega : (n : Int) + 1 ≠ 0)
      have h2 := Int.emod_lt_of_pos safe (by omega : 0 < (n : Int) + 1)
      exact ⟨rfl, h1, by omega⟩
    · exact ⟨rfl, by omega, by omega⟩
end Go.Proofs.YtipololccbdojaaGreatDoor
