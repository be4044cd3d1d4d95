/-
  journal.read: the batch with which bytes begin, or what is amiss. journal.batches: the iterator over a log's batches, by the rounds' invariant.
-/
import Derived.Test.YtipololccbdojaaGreatDoorJplain
import Derived.Test.YtipololccbdojaaGreatDoorSvPile
import Derived.Test.YtipololccbdojaaGreatDoorCloneWp
namespace Go.Proofs.YtipololccbdojaaGreatDoor
open Go Go.Sv
set_option linter.unusedVariables false
set_option maxRecDepth 4000

theorem jrd_sub {w : World} {p : Option Addr} {n c : Nat} {xs : List Value} (h : Rd w p n 1 xs) {j : Nat} (hj : j ≤ n) (hc : n ≤ c) : Rd w (subA p j c 1) (n - j) 1 (xs.drop j) := by
  obtain ⟨h1, h2⟩ := h
  refine ⟨by rw [List.length_drop, h1]; omega, ?_⟩
  rcases h2 with h2 | ⟨b, o, cs, rfl, hb, hl, ht⟩
  · exact .inl (by omega)
  · by_cases hjc : n * 1 - j * 1 = 0
    · exact .inl (by omega)
    · refine .inr ⟨b, o + j, cs, ?_, hb, by omega, ?_⟩
      · unfold subA
        rw [if_neg (by omega)]
        simp
      · rw [← ht, List.drop_take, List.drop_drop]
        congr 1
        omega
theorem rd_take {w : World} {p : Option Addr} {n m : Nat} {l : List UInt8} (h : Rd w p n 1 (bytesV l)) (hm : m ≤ n) : Rd w p m 1 (bytesV (l.take m)) := by
  have := Rd.take h hm
  rwa [Nat.mul_one, ← bytesV_take] at this
theorem bytesV_drop (a : List UInt8) (n : Nat) : bytesV (a.drop n) = (bytesV a).drop n := by simp [bytesV, List.map_drop]
theorem rd_sub {w : World} {p : Option Addr} {n c j : Nat} {l : List UInt8} (h : Rd w p n 1 (bytesV l)) (hj : j ≤ n) (hc : n ≤ c) : Rd w (subA p j c 1) (n - j) 1 (bytesV (l.drop j)) := by
  rw [bytesV_drop]; exact jrd_sub h hj hc
theorem bclone_ok {s : Option Addr} {n c : Nat} {w : World} {K : Value → World → Prop} {l : List UInt8} (h : Rd w s n 1 (bytesV l)) (hn : n ≤ 2 ^ 46)
    (hk : ∀ p' c' w' b', Ow w' p' n c' 1 (bytesV l) b' → (∀ k, b' = some k → w.heap.size ≤ k) → Ch (fun _ => False) w w' → K (.slice p' n c') w') : callP Tryz.prog 115 [.slice s n c] w K := by
  refine ok_bytes_Clone ?_
  unfold wp_bytes_Clone
  have hl : l.length = n := by have := h.1; simpa using this
  refine Sif_cases (fun hs => ?_) fun hs => ?_
  · have hs' : s = none := by simpa using hs
    subst hs'
    have h0 : n = 0 := by
      rcases h.2 with h | ⟨b, o, cs, hp, _⟩
      · omega
      · cases hp
    subst h0
    exact hk none 0 w none ⟨by simpa using hl, Nat.le_refl _, .inl ⟨rfl, rfl⟩⟩ (fun k hk => by cases hk) (Ch.refl _ _)
  · refine newB_blk fun w1 hb1 hc1 hz1 => ?_
    have hr : Rd w1 s n 1 (bytesV l) := h.ch hc1 fun _ _ _ => id
    have ho : Ow w1 (some ⟨w.heap.size, 0, none⟩) 0 0 1 [] (some w.heap.size) := ⟨rfl, Nat.le_refl _, .inr ⟨w.heap.size, 0, [], rfl, rfl, hb1, by simp, by simp⟩⟩
    obtain ⟨p', c', w', b', h1, h2, h3, h4, _⟩ := append_rd (ty := 23) (c2 := c) Tryz.underlying23 Tryz.underlying23 oct_info rfl ho hr (bytesV_one l) (by omega) (by omega)
    rw [Nat.zero_add] at h1 h2
    refine ⟨p', n, c', w', h1, hk p' c' w' b' h2 (fun k hk => ?_) (hc1.trans h4 fun x _ hx => by cases hx; omega)⟩
    rcases h3 k hk with h3 | h3
    · cases h3; exact Nat.le_refl _
    · omega

/-- the package's two errors (blocks 0 and 2) -/
structure Errs (w : World) (eB eS : Value) : Prop where
  bad : w.cell? ⟨0, 0, none⟩ = some eB
  short : w.cell? ⟨2, 0, none⟩ = some eS
theorem cell_ch {S : Nat → Prop} {w w' : World} (c : Ch S w w') {a : Addr} {v : Value} (h : w.cell? a = some v) (hn : ¬ S a.block) : w'.cell? a = some v := by
  have hlt : a.block < w.heap.size := by
    unfold World.cell? at h
    cases ho : w.heap[a.block]? with
    | none => simp [ho] at h
    | some o => exact (Array.getElem?_eq_some_iff.1 ho).1
  have := c.keep a.block hlt hn
  unfold World.cell? at *
  rw [this]; exact h
theorem Errs.ch {S : Nat → Prop} {w w' : World} {eB eS : Value} (h : Errs w eB eS) (c : Ch S w w') (h0 : ¬ S 0) (h2 : ¬ S 2) : Errs w' eB eS := ⟨cell_ch c h.bad h0, cell_ch c h.short h2⟩
theorem both_ways {A B : Prop} {Q : World → Prop} {T : World → Prop} (hA : (∀ w, Q w → T w) → A) (hB : (∀ w, Q w → T w) → B) (hT : ∀ w, Q w → T w) : A ∧ B := ⟨hA hT, hB hT⟩
theorem row_info : InfoIs Tryz.prog 23 1 24 (.slice none 0 0) := .of (by kernel_rfl) (by kernel_rfl) (by kernel_rfl)
theorem jread_ok {p : Option Addr} {n c : Nat} {d : List UInt8} {w : World} {eB eS : Value} {K : Value → World → Prop} (hp : Rd w p n 1 (bytesV d)) (hn : n ≤ c) (hc : n ≤ 2 ^ 40) (he : Errs w eB eS)
    (hbad : ∀ w', Ch (fun _ => False) w w' → whole d = none → broken d → K (.tuple #[.slice none 0 0, .int .i64 0, eB]) w')
    (hshort : ∀ w', Ch (fun _ => False) w w' → whole d = none → ¬ broken d → K (.tuple #[.slice none 0 0, .int .i64 0, eS]) w')
    (hok : ∀ w' q m cq own R, Ch (fun _ => False) w w' → whole d = some (R.map (·.l)) → RcE.Row w' q m cq own R → (∀ b ∈ RcE.rowB own R, w.heap.size ≤ b) →
      K (.tuple #[.slice q m cq, .int .i64 ((headN d + 12 : Nat) : Int), .nilIface]) w') :
    callP Tryz.prog 80 [.slice p n c] w K := by
  have hl : d.length = n := by have := hp.1; simpa using this
  have hN := headN_lt d
  refine ok_journal_read ?_
  unfold wp_journal_read
  have wnone : ¬ (headOk d ∧ headN d + 12 ≤ d.length ∧ footOk d) → whole d = none := fun h => if_neg h
  have bad : ∀ w4, Ch (fun _ => False) w w4 → whole d = none → broken d → ∃ v : Value, w4.drew.cell? ⟨0, 0, none⟩ = some v ∧ K (.tuple #[.slice none 0 0, .int .i64 0, v]) w4.drew := fun w4 h4 h5 h6 =>
    ⟨eB, (he.ch (h4.trans' (Ch.drew w4)) id id).bad, hbad _ (h4.trans' (Ch.drew w4)) h5 h6⟩
  have short : ∀ w4, Ch (fun _ => False) w w4 → whole d = none → ¬ broken d → ∃ v : Value, w4.drew.cell? ⟨2, 0, none⟩ = some v ∧ K (.tuple #[.slice none 0 0, .int .i64 0, v]) w4.drew := fun w4 h4 h5 h6 =>
    ⟨eS, (he.ch (h4.trans' (Ch.drew w4)) id id).short, hshort _ (h4.trans' (Ch.drew w4)) h5 h6⟩
  refine Sif_cases (fun h8 => ?_) fun h8 => ?_
  · have h8' : (n : Int) < 8 := by simpa using h8
    exact short w (Ch.refl _ _) (wnone fun h => by have := h.1.1; omega) fun h => by have := h.1; omega
  have h8' : ¬ (n : Int) < 8 := by simpa using h8
  refine jget_ok hp hn (by omega) (by omega) ⟨_, rfl, ?_⟩
  show ∃ J : World → Prop, _
  refine ⟨fun w2 => Ch (fun _ => False) w w2 ∧ headOk d ∧ headN d + 12 ≤ d.length ∧ footOk d, ?_, by omega, by omega, by omega, by omega, ?_⟩
  · rintro w2 ⟨hc2, hh, hlen, hf⟩
    have e8 : IntKind.wrap .i64 ((num (d.take 4) : Int) + 8) = ((headN d + 8 : Nat) : Int) := by
      rw [wrap_id (by unfold headN at hN; omega) (by unfold headN at hN; omega)]; unfold headN; omega
    simp only [e8, Int.toNat_natCast]
    have hp2 : Rd w2 p n 1 (bytesV d) := hp.ch hc2 fun _ _ _ => id
    have hb0 : Rd w2 (subA p 8 c 1) (headN d + 8 - 8) 1 (bytesV ((d.drop 8).take (headN d))) := by
      have h1 := rd_take (rd_sub hp2 (j := 8) (by omega) hn) (m := headN d) (by omega)
      rw [Nat.add_sub_cancel]; exact h1
    have hw : whole d = recs ((d.drop 8).take (headN d)) := if_pos ⟨hh, hlen, hf⟩
    have hbr : broken d := ⟨by omega, .inr hlen⟩
    refine ⟨by omega, by omega, by omega, by omega, fun m q t cq pb nb cb w3 => ∃ own R rest, Ch (fun _ => False) w w3 ∧ RcE.Row w3 q t cq own R ∧ (∀ b ∈ RcE.rowB own R, w.heap.size ≤ b) ∧ Rd w3 pb nb 1 (bytesV rest) ∧ nb ≤ cb ∧ nb ≤ 2 ^ 40 ∧
      (∀ a, pb = some a → nb * 1 ≠ 0 → a.block < w.heap.size) ∧ recs ((d.drop 8).take (headN d)) = (recs rest).map (R.map (·.l) ++ ·) ∧ m = nb ∧ t + nb ≤ 2 ^ 40,
      ⟨_, none, [], (d.drop 8).take (headN d), hc2, El.Row.nil, by simp [El.rowB], hb0, by omega, by omega, fun a ha h0 => ?_, by simp, rfl, by omega⟩, ?_⟩
    · have hs := rd_sub hp (j := 8) (by omega) hn
      exact hs.lt a ha (by omega)
    rintro m q t cq pb nb cb w3 ⟨own, R, rest, hc3, hrow, hfr, hrd, hnc, hcc, hpl, hrec, rfl, hsm⟩
    have hrl : rest.length = m := by have := hrd.1; simpa using this
    refine Sif_cases (fun hpos => ?_) fun hz => ?_
    · have hpos' : (m : Int) > 0 := by simpa using hpos
      have hne : rest ≠ [] := fun e => by rw [e] at hrl; simp at hrl; omega
      have no : ¬ recOk rest → whole d = none := fun hb => by rw [hw, hrec, recs_bad hne hb]; rfl
      refine Sif_cases (fun h4 => ?_) fun h4 => ?_
      · have h4' : (m : Int) < 4 := by simpa using h4
        exact bad w3 hc3 (no fun hb => by have := hb.1; omega) hbr
      have h4' : ¬ (m : Int) < 4 := by simpa using h4
      refine jget_ok hrd hnc (by omega) (by omega) ⟨_, rfl, ?_⟩
      have hnum : num (rest.take 4) < 4294967296 := headN_lt rest
      have e4 : IntKind.wrap .i64 ((num (rest.take 4) : Int) + 4) = ((num (rest.take 4) + 4 : Nat) : Int) := by
        rw [wrap_id (by omega) (by omega)]; omega
      simp only [e4, Int.toNat_natCast]
      refine ⟨fun w5 => w5 = w3 ∧ recOk rest, ?_, Sif_cases (fun h1 => Sif_cases (fun h2 => Sif_cases (fun h3 => ?_) fun h3 => ?_) fun h2 => ?_) fun h1 => ?_⟩
      · rintro w5 ⟨rfl, hr⟩
        have h5 := hr.2.2.2
        have h6 := hr.2.1
        have hbd : Rd w5 (subA pb 4 cb 1) (num (rest.take 4) + 4 - 4) 1 (bytesV ((rest.drop 4).take (num (rest.take 4)))) := by
          have h1 := rd_take (rd_sub hrd (j := 4) (by omega) hnc) (m := num (rest.take 4)) (by omega)
          rw [Nat.add_sub_cancel]; exact h1
        refine ⟨by omega, by omega, by omega, by omega, bclone_ok hbd (by omega) fun p' c' w6 b' o6 n6 c6 => ⟨_, _, _, rfl, ?_⟩⟩
        have hrow6 : RcE.Row w6 q t cq own R := hrow.ch c6 fun _ _ => id
        refine El.Row.push (E := RcE) (bytes := 24) Tryz.underlying29 row_info rfl hrow6 (x := ⟨⟨p', num (rest.take 4) + 4 - 4, c', b'⟩, (rest.drop 4).take (num (rest.take 4))⟩) o6 (fun b hb hm => ?_) (by omega) (by omega) fun q' cq' own' w8 r8 n8 c8 => ?_
        · have hb' : b' = some b := by simpa [RcE, Option.mem_toList] using hb
          have := n6 b hb'
          have := hrow.lt b hm
          omega
        · have hc8 : Ch (fun _ => False) w w8 := (hc3.new c6).trans c8 fun x hx he => by
            have := hfr x (El.mem_rowB.2 (.inl he)); omega
          refine ⟨by omega, by omega, m - (num (rest.take 4) + 4), by omega, own', R ++ [⟨⟨p', num (rest.take 4) + 4 - 4, c', b'⟩, (rest.drop 4).take (num (rest.take 4))⟩], rest.drop (num (rest.take 4) + 4), hc8, r8, fun b hb => ?_, ?_, by omega, by omega, fun a ha h0 => ?_, ?_, rfl, by omega⟩
          · rcases n8 b hb with g | g | g
            · exact hfr b g
            · have hb' : b' = some b := by simpa [RcE, Option.mem_toList] using g
              have := n6 b hb'; have := hc3.size; omega
            · have := hc3.size; have := c6.size; omega
          · exact (rd_sub hrd (j := num (rest.take 4) + 4) (by omega) hnc).ch ((Ch.new (Ch.refl (fun b => own = some b) w5) c6).trans' c8) fun a ha h0 he => by
              have h9 := hfr a.block (El.mem_rowB.2 (.inl he))
              have h10 : a.block < w.heap.size := by
                unfold subA at ha
                split at ha
                · omega
                · cases hpb : pb with
                  | none => rw [hpb] at ha; simp at ha
                  | some a0 =>
                    rw [hpb] at ha
                    have h11 := hpl a0 hpb (by omega)
                    obtain ⟨bk, o, hbk, _⟩ := hrd.cell (i := 0) (by omega)
                    rw [hpb] at hbk
                    cases hbk
                    simp at ha
                    rw [← ha]; exact h11
              omega
          · unfold subA at ha
            split at ha
            · omega
            · cases hpb : pb with
              | none => rw [hpb] at ha; simp at ha
              | some a0 =>
                rw [hpb] at ha
                have h11 := hpl a0 hpb (by omega)
                obtain ⟨bk, o, hbk, _⟩ := hrd.cell (i := 0) (by omega)
                rw [hpb] at hbk
                cases hbk
                simp at ha
                rw [← ha]; exact h11
          · rw [hrec, recs_step hne hr, Nat.add_comm 4, Option.map_map]
            congr 1
            funext z
            simp
      · have : (num (rest.take 4) : Int) > IntKind.wrap .i64 ((m : Int) - 4) := by simpa using h3
        rw [wrap_id (by omega) (by omega)] at this
        exact bad w3 hc3 (no fun hb => by have := hb.2.2.2; omega) hbr
      · have h1' : ¬ (num (rest.take 4) : Int) < 1 := by simpa using h1
        have h2' : ¬ (num (rest.take 4) : Int) > 1049600 := by simpa using h2
        have : ¬ (num (rest.take 4) : Int) > IntKind.wrap .i64 ((m : Int) - 4) := by simpa using h3
        rw [wrap_id (by omega) (by omega)] at this
        exact ⟨rfl, by omega, by omega, by omega, by omega⟩
      · have h2' : (num (rest.take 4) : Int) > 1049600 := by simpa using h2
        exact bad w3 hc3 (no fun hb => by have := hb.2.2.1; omega) hbr
      · have h1' : (num (rest.take 4) : Int) < 1 := by simpa using h1
        exact bad w3 hc3 (no fun hb => by have := hb.2.1; omega) hbr
    · have hz' : ¬ (m : Int) > 0 := by simpa using hz
      have : rest = [] := List.eq_nil_of_length_eq_zero (by omega)
      subst this
      have e12 : IntKind.wrap .i64 ((num (d.take 4) : Int) + 12) = ((headN d + 12 : Nat) : Int) := by
        rw [wrap_id (by unfold headN at hN; omega) (by unfold headN at hN; omega)]; unfold headN; omega
      rw [e12, nameI_iff]
      exact hok w3 q t cq own R hc3 (by rw [hw, hrec, recs_nil]; simp) hrow hfr
  · have hpd : Rd w.drew p n 1 (bytesV d) := hp
    have cd : Ch (fun _ => False) w w.drew := Ch.drew w
    apply both_ways (Q := fun w4 => Ch (fun _ => False) w w4)
    · intro tail
      refine jget_ok (rd_sub hpd (j := 4) (by omega) hn) (by omega) (by omega) (by omega) ⟨_, rfl, ?_⟩
      refine newB_blk fun w3 hb3 hc3 hz3 => ?_
      exact sum_ok rfl hb3 (rd_take (hpd.ch hc3 fun _ _ _ => id) (by omega : 4 ≤ n)) (by omega) fun w4 hc4 => ⟨_, rfl, tail w4 ((cd.new hc3).new hc4)⟩
    · intro tail
      refine newB_blk fun w3 hb3 hc3 hz3 => ?_
      refine jget_ok (rd_sub (hpd.ch hc3 fun _ _ _ => id) (j := 4) (by omega) hn) (by omega) (by omega) (by omega) ⟨_, rfl, ?_⟩
      exact sum_ok rfl hb3 (rd_take (hpd.ch hc3 fun _ _ _ => id) (by omega : 4 ≤ n)) (by omega) fun w4 hc4 => ⟨_, rfl, tail w4 ((cd.new hc3).new hc4)⟩
    · intro w4 hc4
      have hnu := nu_lt (crc (d.take 4))
      have hnd : num ((d.drop 4).take 4) < 4294967296 := headN_lt (d.drop 4)
      rw [wrap_id (n := nu (crc (d.take 4))) (by unfold nu; omega) (by omega)]
      have e12 : IntKind.wrap .i64 ((num (d.take 4) : Int) + 12) = ((headN d + 12 : Nat) : Int) := by
        rw [wrap_id (by unfold headN at hN; omega) (by unfold headN at hN; omega)]; unfold headN; omega
      have e8 : IntKind.wrap .i64 ((num (d.take 4) : Int) + 8) = ((headN d + 8 : Nat) : Int) := by
        rw [wrap_id (by unfold headN at hN; omega) (by unfold headN at hN; omega)]; unfold headN; omega
      simp only [e12, e8, Int.toNat_natCast]
      have nohead : ¬ headOk d → ∃ v : Value, w4.drew.cell? ⟨0, 0, none⟩ = some v ∧ K (.tuple #[.slice none 0 0, .int .i64 0, v]) w4.drew := fun h =>
        bad w4 hc4 (wnone fun hh => h hh.1) ⟨by omega, .inl h⟩
      refine Sif_cases (fun hs => Sif_cases (fun h5 => ?_) fun h5 => Sif_cases (fun h12 => ?_) fun h12 => ?_) fun hs => ?_
      · have h5' : (num (d.take 4) : Int) < 5 := by simpa using h5
        exact nohead fun hh => by have := hh.2.2; unfold headN at this; omega
      · have h12' : (n : Int) < ((headN d + 12 : Nat) : Int) := by simpa using h12
        have hs' : (num ((d.drop 4).take 4) : Int) = nu (crc (d.take 4)) := by simpa using hs
        have h5' : ¬ (num (d.take 4) : Int) < 5 := by simpa using h5
        have hh : headOk d := ⟨by omega, by unfold nu at hs'; omega, by unfold headN; omega⟩
        exact short w4 hc4 (wnone fun h => by have := h.2.1; omega) fun hb => by
          rcases hb.2 with h | h
          · exact h hh
          · omega
      · have h12' : ¬ (n : Int) < ((headN d + 12 : Nat) : Int) := by simpa using h12
        have hs' : (num ((d.drop 4).take 4) : Int) = nu (crc (d.take 4)) := by simpa using hs
        have h5' : ¬ (num (d.take 4) : Int) < 5 := by simpa using h5
        have hh : headOk d := ⟨by omega, by unfold nu at hs'; omega, by unfold headN; omega⟩
        have hp4 : Rd w4 p n 1 (bytesV d) := hp.ch hc4 fun _ _ _ => id
        have hp5 : Rd w4.drew p n 1 (bytesV d) := hp4
        have hc5 : Ch (fun _ => False) w w4.drew := hc4.trans' (Ch.drew w4)
        refine ⟨by omega, by omega, by omega, by omega, ?_⟩
        apply both_ways (Q := fun w4 => Ch (fun _ => False) w w4)
        · intro tail
          refine jget_ok (rd_sub hp5 (j := headN d + 8) (by omega) hn) (by omega) (by omega) (by omega) ⟨_, rfl, ?_⟩
          refine newB_blk fun w6 hb6 hc6 hz6 => ?_
          exact sum_ok rfl hb6 (rd_take (hp5.ch hc6 fun _ _ _ => id) (by omega : headN d + 8 ≤ n)) (by omega) fun w7 hc7 => ⟨_, rfl, tail w7 ((hc5.new hc6).new hc7)⟩
        · intro tail
          refine newB_blk fun w6 hb6 hc6 hz6 => ?_
          refine jget_ok (rd_sub (hp5.ch hc6 fun _ _ _ => id) (j := headN d + 8) (by omega) hn) (by omega) (by omega) (by omega) ⟨_, rfl, ?_⟩
          exact sum_ok rfl hb6 (rd_take (hp5.ch hc6 fun _ _ _ => id) (by omega : headN d + 8 ≤ n)) (by omega) fun w7 hc7 => ⟨_, rfl, tail w7 ((hc5.new hc6).new hc7)⟩
        · intro w7 hc7
          have hnu2 := nu_lt (crc (d.take (headN d + 8)))
          rw [wrap_id (n := nu (crc (d.take (headN d + 8)))) (by unfold nu; omega) (by omega)]
          refine Sif_cases (fun hf => ?_) fun hf => ?_
          · have hf' : ¬ (num ((d.drop (headN d + 8)).take 4) : Int) = nu (crc (d.take (headN d + 8))) := by simpa using hf
            exact bad w7 hc7 (wnone fun h => by have := h.2.2; unfold footOk at this; unfold nu at hf'; omega) ⟨by omega, .inr (by omega)⟩
          · have hf' : (num ((d.drop (headN d + 8)).take 4) : Int) = nu (crc (d.take (headN d + 8))) := by simpa using hf
            exact ⟨hc7, hh, by omega, by unfold footOk; unfold nu at hf'; omega⟩
      · have hs' : ¬ (num ((d.drop 4).take 4) : Int) = nu (crc (d.take 4)) := by simpa using hs
        exact nohead fun hh => by have := hh.2.1; unfold nu at hs'; omega
end Go.Proofs.YtipololccbdojaaGreatDoor
namespace Go.Proofs.YtipololccbdojaaGreatDoor
open Go Go.Sv
set_option linter.unusedVariables false
set_option maxRecDepth 4000

theorem yieldP_mono {P : Program} {l : Nat} {args : List Value} {w : World} {K K' : Value → World → Prop} (h : yieldP P l args w K) (hk : ∀ v w', K v w' → K' v w') : yieldP P l args w K' := by
  obtain ⟨fn, tmps, a, b, h1, h2⟩ := h
  exact ⟨fn, tmps, a, b, h1, h2.mono fun e w' ⟨v, he, hv⟩ => ⟨v, he, hk v w' hv⟩⟩
theorem batches1_ok {l ab n c : Nat} {p : Option Addr} {d : List UInt8} {w : World} {eB eS : Value} {K : Value → World → Prop} (J : Nat → World → Prop) (hn : n ≤ c) (hc : n ≤ 2 ^ 40) (hl : d.length = n)
    (hB : isI eB = true ∧ isNilI eB = false ∧ oneV eB = true) (hS : isI eS = true ∧ isNilI eS = false ∧ oneV eS = true)
    (hJ : ∀ at_ w1, J at_ w1 → w1.cell? ⟨ab, 0, none⟩ = some (.slice p n c) ∧ Rd w1 p n 1 (bytesV d) ∧ Errs w1 eB eS) (h0 : J 0 w)
    (hgood : ∀ at_ w1 w2 q m cq own R, J at_ w1 → Ch (fun _ => False) w1 w2 → whole (d.drop at_) = some (R.map (·.l)) → RcE.Row w2 q m cq own R → (∀ b ∈ RcE.rowB own R, w1.heap.size ≤ b) →
      yieldP Tryz.prog l [.agg #[.slice q m cq, .int .i64 ((at_ + (headN (d.drop at_) + 12) : Nat) : Int)], .nilIface] w2 fun v w3 => (v = .bool true ∧ J (at_ + (headN (d.drop at_) + 12)) w3) ∨ (v = .bool false ∧ K (.tuple #[]) w3))
    (hbad : ∀ at_ w1 w2 e, J at_ w1 → Ch (fun _ => False) w1 w2 → at_ < n → whole (d.drop at_) = none → ((e = eB ∧ broken (d.drop at_)) ∨ (e = eS ∧ ¬ broken (d.drop at_))) →
      yieldP Tryz.prog l [.agg #[.slice none 0 0, .int .i64 0], .iface 85 (.agg #[.int .i64 (at_ : Int), e])] w2 fun v w3 => (∃ b, v = .bool b) ∧ K (.tuple #[]) w3)
    (hend : ∀ at_ w1, J at_ w1 → at_ = n → K (.tuple #[]) w1) :
    callP Tryz.prog 79 [.func (.yield l) #[] #[], .pointer (some ⟨ab, 0, none⟩)] w K := by
  refine ok_journal_batches_1 ?_
  unfold wp_journal_batches_1
  refine ⟨fun m i w1 => ∃ at_ : Nat, i = (at_ : Int) ∧ at_ ≤ n ∧ m = n - at_ ∧ J at_ w1, ⟨n, 0, rfl, by omega, rfl, h0⟩, ?_⟩
  rintro m i w1 ⟨at_, rfl, hat, rfl, hj⟩
  obtain ⟨hcell, hrd, herr⟩ := hJ at_ w1 hj
  simp only [nn_some]
  refine ⟨p, n, c, hcell, Sif_cases (fun hlt => ?_) fun hge => ?_⟩
  · have hlt' : (at_ : Int) < n := by simpa using hlt
    simp only [nn_some, Int.toNat_natCast]
    refine ⟨p, n, c, hcell, by omega, by omega, ?_⟩
    have hno : ∀ e w2, Ch (fun _ => False) w1 w2 → whole (d.drop at_) = none → ((e = eB ∧ broken (d.drop at_)) ∨ (e = eS ∧ ¬ broken (d.drop at_))) → isI e = true ∧ isNilI e = false ∧ oneV e = true →
        isI e = true ∧ Sif (!isNilI e) (Sif (oneV e) (callV Tryz.prog none (.func (.yield l) #[] #[]) [.agg #[.slice none 0 0, .int .i64 0], .iface 85 (.agg #[.int .i64 (at_ : Int), e])] w2 fun v2 w3 => ∃ b : Bool, v2 = .bool b ∧ K (.tuple #[]) w3) False)
          (nameI (IntKind.wrap .i64 ((at_ : Int) + 0)) fun n5 => callV Tryz.prog none (.func (.yield l) #[] #[]) [.agg #[.slice none 0 0, .int .i64 n5], .nilIface] w2 fun v2 w3 => ∃ b : Bool, v2 = .bool b ∧ Sif (!b) (K (.tuple #[]) w3) (∃ m', m' < n - at_ ∧ ∃ at' : Nat, n5 = (at' : Int) ∧ at' ≤ n ∧ m' = n - at' ∧ J at' w3)) := fun e w2 hc2 hw he ⟨h1, h2, h3⟩ => by
      rw [h2, h3]
      exact ⟨h1, Sif_true (Sif_true (yieldP_mono (hbad at_ w1 w2 e hj hc2 (by omega) hw he) fun v w3 ⟨⟨b, hb⟩, hk⟩ => ⟨b, hb, hk⟩))⟩
    refine jread_ok (rd_sub hrd (by omega) hn) (by omega) (by omega) herr (fun w2 hc2 hw hb => ⟨_, _, _, _, _, rfl, hno eB w2 hc2 hw (.inl ⟨rfl, hb⟩) hB⟩) (fun w2 hc2 hw hb => ⟨_, _, _, _, _, rfl, hno eS w2 hc2 hw (.inr ⟨rfl, hb⟩) hS⟩)
      fun w2 q m cq own R hc2 hw hrow hfr => ⟨_, _, _, _, _, rfl, rfl, Sif_false ?_⟩
    have hsz := whole_size hw
    have hdl : (d.drop at_).length = n - at_ := by simp; omega
    rw [wrap_id (by omega) (by omega), nameI_iff]
    have e : (at_ : Int) + ((headN (d.drop at_) + 12 : Nat) : Int) = ((at_ + (headN (d.drop at_) + 12) : Nat) : Int) := by omega
    rw [e]
    refine yieldP_mono (hgood at_ w1 w2 q m cq own R hj hc2 hw hrow hfr) fun v w3 hv => ?_
    rcases hv with ⟨rfl, hj3⟩ | ⟨rfl, hk⟩
    · exact ⟨true, rfl, Sif_false ⟨n - (at_ + (headN (d.drop at_) + 12)), by omega, _, rfl, by omega, rfl, hj3⟩⟩
    · exact ⟨false, rfl, Sif_true hk⟩
  · have hge' : ¬ (at_ : Int) < n := by simpa using hge
    exact hend at_ w1 hj (by omega)
end Go.Proofs.YtipololccbdojaaGreatDoor
