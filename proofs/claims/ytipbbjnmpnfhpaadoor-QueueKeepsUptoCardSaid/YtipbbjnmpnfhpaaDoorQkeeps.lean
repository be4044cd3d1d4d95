/-
  QueueKeeps: the walk.
-/
import Derived.Test.YtipbbjnmpnfhpaaDoorQkeepa
import Derived.Test.YtipbbjnmpnfhpaaDoorQlive
import Derived.Test.YtipbbjnmpnfhpaaDoorQremove
namespace Go.Proofs.YtipbbjnmpnfhpaaDoor
open Go Go.Sv Go.Heap Go.Qu Go.MapKept
set_option linter.unusedVariables false
set_option maxRecDepth 20000
theorem kmake_ints {w : World} (n : Nat) (hn : n ≤ 2 ^ 41) : ∃ w', (Instr.makeSlice 34 (.int .i64 (n : Int)) (.int .i64 (n : Int))).run Tryd.prog w = .ok (.slice (some ⟨w.heap.size, 0, none⟩) n n) w' ∧
    Ow w' (some ⟨w.heap.size, 0, none⟩) n n 1 ((List.replicate n 0).flatMap iC) (some w.heap.size) ∧ Ch (fun _ => False) w w' ∧ w'.heap.size = w.heap.size + 1 := by
  obtain ⟨i, hi, h1, h2, h3⟩ := qint_info
  have hr := run_make (P := Tryd.prog) w 34 3 i _ Tryd.underlying34 hi h3 .i64 .i64 (n : Int) (n : Int) (by omega) (by omega) (by rw [h2]; omega) (by omega)
  rw [Int.toNat_natCast, h1, Nat.mul_one] at hr
  have hm : madeCells (Value.int .i64 0).cells n = ((List.replicate n 0).flatMap iC).toArray := by
    apply Array.ext'
    apply List.ext_getElem
    · simp [madeCells, flat_len iC_len]
    · intro j g1 g2
      have hj : j < n := by simpa [flat_len iC_len] using g2
      have h4 := flat_get iC_len (List.replicate n 0) j 0 (by omega)
      rw [Nat.mul_one, Nat.add_zero, List.getElem?_eq_getElem g2, List.getElem?_replicate, if_pos hj] at h4
      simp only [Option.bind_some, iC, List.getElem?_cons_zero] at h4
      rw [Option.some.inj h4]
      simp [madeCells, Value.cells, Nat.mod_one]
  rw [hm] at hr
  refine ⟨_, hr, ⟨by rw [flat_len iC_len, List.length_replicate], Nat.le_refl _, .inr ⟨_, 0, _, rfl, rfl, alloc_blk w _ _, by rw [flat_len iC_len, List.length_replicate]; omega, by rw [List.drop_zero, List.take_of_length_le (by rw [flat_len iC_len, List.length_replicate]; omega)]⟩⟩, alloc_ch w _, by simp⟩
theorem keeps_law {most : Int} {w : World} {p0 ps : Option Addr} {c0 cs : Nat} {Es : List EX} {Os : List OpV} {K : Value → World → Prop} (hm1 : -9223372036854775808 ≤ most) (hm2 : most ≤ 9223372036854775807) (hE : Rd w p0 Es.length 7 ((Es.map (·.1)).flatMap En.cells)) (hin : ∀ x ∈ Es, EIn w x) (hEl : Es.length ≤ 2 ^ 20) (hO : Rd w ps Os.length 13 (Os.flatMap OpV.cells)) (hk : ∀ w', Ch (fun _ => False) w w' → K (.bool true) w') :
    callP Tryd.prog 6 [.int .i64 most, .slice p0 Es.length c0, .slice ps Os.length cs] w K := by
  refine ok_longshorelaw17_QueueKeeps ?_
  unfold wp_longshorelaw17_QueueKeeps
  refine newB_blk fun w1 b1 ch1 z1 => newB_blk fun w2 b2 ch2 z2 => ?_
  rw [z1] at b2
  have b12 : blk w2 w.heap.size = some [.slice p0 Es.length c0] := by rw [ch2.blk (blk_lt b1) id]; exact b1
  refine live_ok fun w3 ch3 => ⟨_, rfl, ?_⟩
  have ch03 := (ch1.trans' ch2).trans' ch3
  have b13 : blk w3 w.heap.size = some [.slice p0 Es.length c0] := by rw [ch3.blk (blk_lt b12) id]; exact b12
  have b23 : blk w3 (w.heap.size + 1) = some [.bool false] := by rw [ch3.blk (blk_lt b2) id]; exact b2
  obtain ⟨cK, hcK⟩ : ∃ c : Cfg, c = ⟨⟨#[113]⟩, most, ⟨#[]⟩, 3, false⟩ := ⟨_, rfl⟩
  have hcfg : cfgOk cK = true ↔ (1 ≤ most ∧ most ≤ 4096) := by
    rw [hcK]
    unfold cfgOk
    have h1 : isNm ⟨#[113]⟩ = true := by decide
    simp [h1]
  have hcv : cfgV cK = .agg #[.string ⟨#[113]⟩, .int .i64 most, .string ⟨#[]⟩, .int .i64 3, .bool false] := by rw [hcK]; rfl
  rw [← hcv]
  simp only [add_at, Nat.zero_add, z1]
  refine qnew_ok (c := cK) (by rw [hcK]; show (1 : Nat) ≤ _; decide) (by rw [hcK]; show (0 : Nat) ≤ _; decide) (fun hno w4 ch4 => ⟨_, rfl, ?_⟩) fun hyes w4 qb B4 Q4 n4 ch4 => ⟨_, rfl, ?_⟩
  · -- no queue
    have hno : ¬ (1 ≤ most ∧ most ≤ 4096) := fun h => by rw [hcfg.2 h] at hno; cases hno
    have b24 : blk w4 (w.heap.size + 1) = some [.bool false] := by rw [ch4.blk (blk_lt b23) id]; exact b23
    have ch04 := ch03.trans' ch4
    refine ⟨fun _ => False, fun _ h => h.elim, Sif_true (Sif_true (Sif_true (Sif_cases (fun g => ?_) fun g => ?_)))⟩
    · have g : ¬ most < 1 := by simpa using g
      refine st_blk b24 (by simp) fun w5 b5 c5 z5 => ⟨_, by rw [cell_blk b5]; rfl, ?_⟩
      rw [decide_eq_true (by omega : most > 4096)]
      exact hk w5 (ch04.trans c5 fun b hb h => by omega)
    · refine st_blk b24 (by simp) fun w5 b5 c5 z5 => ⟨_, by rw [cell_blk b5]; rfl, ?_⟩
      exact hk w5 (ch04.trans c5 fun b hb h => by omega)
  have hms := hcfg.1 hyes
  have S4 : KS w w4 qb ⟨cK, [], 0⟩ B4 p0 Es.length c0 := ⟨Q4, fun b hb => by have := n4 b hb; have := blk_lt b23; omega, by rw [ch4.blk (blk_lt b13) id]; exact b13, ⟨_, by rw [ch4.blk (blk_lt b23) id]; exact b23⟩, ch03.trans' ch4⟩
  refine ⟨fun w5 => w5 = w4, ?_, Sif_true (Sif_false rfl)⟩
  rintro w5 rfl
  refine ⟨fun m n n1 n2 w6 => ∃ (i : Nat) (A : AQ) (B : Nat → Prop), n2 = (i : Int) ∧ i ≤ Es.length ∧ m = Es.length - i ∧ KS w w6 qb A B p0 Es.length c0 ∧ KA Es most i A n n1, ⟨Es.length, 0, _, _, rfl, Nat.zero_le _, rfl, S4, ⟨fun x hx => by simp at hx, Int.le_refl _, rfl, Int.le_refl _, Int.le_refl _, by rw [hcK]⟩⟩, ?_⟩
  rintro m n n1 _ w6 ⟨i, A, B, rfl, hi, rfl, S6, KA6⟩
  refine ⟨_, _, _, by rw [cell_blk S6.ba]; rfl, Sif_cases (fun hlt => ?_) fun hge => ?_⟩
  · have hlt : i < Es.length := by
      have : (i : Int) < (Es.length : Int) := by simpa using hlt
      omega
    have hw1 : IntKind.wrap .i64 ((i : Int) + 1) = ((i + 1 : Nat) : Int) := by rw [wrap_id (by omega) (by omega)]; rfl
    refine ⟨fun n4 n5 w7 => ∃ (A : AQ) (B : Nat → Prop), KS w w7 qb A B p0 Es.length c0 ∧ KA Es most (i + 1) A n4 n5, ?_, ?_⟩
    · rintro n4 n5 w7 ⟨A, B, S, KA7⟩
      rw [hw1, nameI_iff]
      exact ⟨Es.length - (i + 1), by omega, i + 1, A, B, rfl, hlt, rfl, S, KA7⟩
    obtain ⟨x, hx⟩ : ∃ x, Es[i]? = some x := ⟨_, List.getElem?_eq_getElem hlt⟩
    have hxE := hin x (List.mem_of_getElem? hx)
    have hxe : (Es.map (·.1))[i]? = some x.1 := by rw [List.getElem?_map, hx]; rfl
    obtain ⟨kb, o, hpp, hc⟩ := (hE.ch S6.ch fun _ _ _ => id).at En.cells_len hxe (by decide)
    refine ⟨_, _, _, by rw [cell_blk S6.ba]; rfl, by omega, by omega, ?_⟩
    subst hpp
    simp only [nn_some, add_at, Int.toNat_natCast]
    refine ⟨_, hc 0 _ rfl, _, hc 1 _ rfl, _, hc 2 _ rfl, _, hc 3 _ rfl, _, hc 4 _ rfl, _, hc 5 _ rfl, _, _, _, hc 6 _ rfl, ?_⟩
    refine newE (e0 := En0) (e := x.1) fun w14 b14 c14 z14 => ?_
    simp only [add_at, Nat.zero_add]
    rw [hw1]
    refine st_blk b14 (by simp [En.cells]) fun w15 b15 c15 z15 => ?_
    obtain ⟨x', hx'⟩ : ∃ x' : EX, x' = ({ x.1 with seq := ((i + 1 : Nat) : Int) }, x.2) := ⟨_, rfl⟩
    have b15 : blk w15 w6.heap.size = some x'.1.cells := by rw [hx']; exact b15
    have c615 : Ch (fun _ => False) w6 w15 := c14.trans c15 fun b hb h => by omega
    have S15 := S6.next0 c615
    have hx'E : EIn w x' := by rw [hx']; exact ⟨hxE.rd, hxE.n⟩
    refine qlen_ok S15.q ⟨_, _, rfl, ?_⟩
    have S16 := S15.next0 (Ch.drew w15)
    have b16 : blk w15.drew w6.heap.size = some x'.1.cells := b15
    refine rdN b16 ?_
    have hrd : Rd w15.drew x'.1.p x'.1.n 1 (bytesV x'.2) := hx'E.rd.ch S16.ch fun _ _ _ => id
    refine qput_ok (e := x'.1) (l := x'.2) S16.q hrd (fun a ha h0 hb => by have := hx'E.rd.lt a ha h0; have := S16.new _ hb; omega) (by have := hx'E.n; omega) (by rw [hx']; show ((i + 1 : Nat) : Int) ≤ _; omega) fun w17 B17 Q17 c17 n17 => ⟨_, rfl, ?_⟩
    have S17 := S16.did Q17 c17 n17
    refine qlen_ok S17.q ⟨_, _, rfl, ?_⟩
    have S18 := S17.next0 (Ch.drew w17)
    have W6 := S6.q.wf
    have hn1 := KA6.lo
    have hn2 := KA6.hi
    have hcnt := KA6.cnt
    have hA6 := W6.len
    have hA62 := W6.most2
    -- behind the put
    refine ⟨fun n22 w19 => ∃ (A : AQ) (B : Nat → Prop), KS w w19 qb A B (some ⟨kb, o, none⟩) Es.length c0 ∧ KA Es most (i + 1) A n22 n1, ?_, ?_⟩
    rotate_left
    · have hfl : ∀ L : List PE, (L.filter isFree).length ≤ L.length := fun L => List.length_filter_le ..
      have h1 := hfl A.L
      rcases put_ends (e := x'.pe) W6 with ⟨e1, e2, e3⟩ | ⟨e1, e2, e3⟩
      · have e1' : (A.put (x'.1.as x'.2)).1 = 0 := e1
        have e2' : (A.put (x'.1.as x'.2)).2 = { A with L := A.L ++ [x'.pe], last := x'.pe.seq } := e2
        rw [e2'] at S18 ⊢
        rw [e1']
        refine Sif_true ?_
        rw [wrap_id (n := n + 1) (by omega) (by omega), nameI_iff]
        have e4 := free_snoc (L := A.L) e3
        have e5 : (A.L ++ [x'.pe]).length = A.L.length + 1 := by simp
        refine Sif_cases (fun g => ?_) fun g => ?_
        · refine Sif_cases (fun g2 => ?_) fun g2 => ⟨_, _, S18, KA6.put (e := x'.pe) hx (by rw [hx'])⟩
          simp only [e4, e5, bne_iff_ne, ne_eq] at g2
          omega
        · simp only [e4, Bool.not_eq_false', bne_iff_ne, ne_eq] at g
          rw [wrap_id (by omega) (by omega)] at g
          omega
      · have e1' : (A.put (x'.1.as x'.2)).1 ≠ 0 := e1
        have e2' : (A.put (x'.1.as x'.2)).2 = A := e2
        rw [e2'] at S18 ⊢
        refine Sif_cases (fun g => absurd (by simpa using g) e1') fun _ => ?_
        refine Sif_cases (fun g => Sif_cases (fun g2 => Sif_cases (fun g3 => Sif_cases (fun g4 => ?_) fun g4 => ⟨_, _, S18, KA6.up⟩) fun g3 => ⟨_, _, S18, KA6.up⟩) fun g2 => ?_) fun g => ?_
        · have g3 : (A.put x'.pe).1 = 170 := by
            have : (A.put (x'.1.as x'.2)).1 = 170 := by simpa using g3
            exact this
          have h9 := e3 g3
          have h10 := KA6.most
          simp only [bne_iff_ne, ne_eq] at g4
          rw [wrap_id (by omega) (by omega)] at g4
          omega
        · simp at g2
        · simp at g
    rintro n22 w19 ⟨A9, B9, S19, KA9⟩
    refine ⟨fun n23 w20 => ∃ (A : AQ) (B : Nat → Prop), KS w w20 qb A B (some ⟨kb, o, none⟩) Es.length c0 ∧ KA Es most (i + 1) A n22 n23, ?_, ?_⟩
    · rintro n23 w20 ⟨A10, B10, S20, KA10⟩
      have W10 := S20.q.wf
      have g1 := W10.len
      have g2 := W10.most2
      have g3 := KA10.cnt
      have g4 := KA10.lo
      have g5 := KA10.hi
      have g6 := KA10.most
      refine qlen_ok S20.q ⟨_, _, rfl, ?_⟩
      have S21 := S20.next0 (Ch.drew w20)
      have hsum : ((A10.L.filter isFree).length : Int) + ((A10.L.length : Int) - ((A10.L.filter isFree).length : Int)) = (A10.L.length : Int) := by omega
      rw [hsum, wrap_id (n := (A10.L.length : Int)) (by omega) (by omega), wrap_id (n := n22 - n23) (by omega) (by omega)]
      refine Sif_cases (fun g => Sif_cases (fun g7 => ?_) fun g7 => ⟨A10, B10, S21, KA10⟩) fun g => ?_
      · have g7 : most < (A10.L.length : Int) := by simpa using g7
        omega
      · simp only [Bool.not_eq_false', bne_iff_ne, ne_eq] at g
        omega
    -- the script
    refine Sif_cases (fun hs => ?_) fun _ => ⟨A9, B9, S19, KA9⟩
    have hs : i < Os.length := by
      have : (i : Int) < (Os.length : Int) := by simpa using hs
      omega
    obtain ⟨op, hop⟩ : ∃ op, Os[i]? = some op := ⟨_, List.getElem?_eq_getElem hs⟩
    obtain ⟨ks, os, hps, hcs⟩ := (hO.ch S19.ch fun _ _ _ => id).at OpV.cells_len hop (by decide)
    refine ⟨by omega, by omega, ?_⟩
    subst hps
    simp only [nn_some, add_at, Int.toNat_natCast]
    refine ⟨_, hcs 0 _ rfl, _, hcs 1 _ rfl, _, hcs 2 _ rfl, _, hcs 3 _ rfl, _, _, _, hcs 4 _ rfl, _, hcs 5 _ rfl, _, hcs 6 _ rfl, _, hcs 7 _ rfl, _, hcs 8 _ rfl, _, hcs 9 _ rfl, _, hcs 10 _ rfl, _, hcs 11 _ rfl, _, _, _, hcs 12 _ rfl, ?_⟩
    refine newB_blk fun w20 b20 c20 z20 => ?_
    simp only [add_at, Nat.zero_add]
    refine reOp op b20 rfl fun w33 b33 c33 z33 => ?_
    have b33 : blk w33 w19.heap.size = some op.cells := b33
    have c1933 : Ch (fun _ => False) w19 w33 := c20.trans c33 fun b hb h => by omega
    have S33 := S19.next0 c1933
    have W9 := S19.q.wf
    have hA91 := W9.len
    have hA92 := W9.most2
    have hm9 := KA9.hi
    have hl9 := KA9.lo
    have hc9 := KA9.cnt
    refine ⟨op.k, by rw [cell_blk b33]; rfl, ?_⟩
    refine Sif_cases (fun _ => ?_) fun _ => Sif_cases (fun _ => ?_) fun _ => Sif_cases (fun _ => ?_) fun _ => Sif_cases (fun _ => ?_) fun _ => Sif_cases (fun _ => ?_) fun _ => ⟨A9, B9, S33, KA9⟩
    · refine ⟨op.a, by rw [cell_blk b33]; rfl, ?_⟩
      obtain ⟨k1, k2⟩ := kin_take A9 op.a fun _ => true
      refine qtake_ok S33.q (fun _ w34 B10 Q10 c10 n10 => ⟨_, _, _, _, _, _, _, _, _, _, rfl, ?_⟩) fun y hy x hx w34 B10 Q10 c10 n10 o10 => ⟨_, _, _, _, _, _, _, _, _, _, rfl, ?_⟩
      · exact ⟨_, _, S33.did Q10 c10 n10, KA9.kin0 k1 k2⟩
      · exact ⟨_, _, S33.did Q10 c10 n10, KA9.kin0 k1 k2⟩
    · refine ⟨op.a, by rw [cell_blk b33]; rfl, op.b, by rw [cell_blk b33]; rfl, ?_⟩
      obtain ⟨k1, k2⟩ := kin_back W9 op.a op.b true
      refine qback_ok S33.q (fun hno w34 B10 Q10 c10 n10 => ⟨_, _, _, _, _, _, _, _, _, _, _, rfl, ?_⟩) fun y d hy x hx w34 B10 Q10 c10 n10 o10 => ⟨_, _, _, _, _, _, _, _, _, _, _, rfl, ?_⟩
      · refine newE (e0 := En0) (e := Ez.e) fun w35 b35 c35 z35 => Sif_false ?_
        rw [hno] at k2
        exact ⟨_, _, (S33.did Q10 c10 n10).next0 c35, KA9.kin0 k1 k2⟩
      · refine newE (e0 := En0) (e := x.e) fun w35 b35 c35 z35 => Sif_true ?_
        rw [hy] at k2
        have S35 := (S33.did Q10 c10 n10).next0 c35
        refine Sif_cases (fun hd => ?_) fun hd => ?_
        · subst hd
          rw [wrap_id (by omega) (by omega), nameI_iff]
          exact ⟨_, _, S35, KA9.kin k1 k2⟩
        · subst hd
          exact ⟨_, _, S35, KA9.kin0 k1 k2⟩
    · refine ⟨op.a, by rw [cell_blk b33]; rfl, op.b, by rw [cell_blk b33]; rfl, ?_⟩
      obtain ⟨k1, k2⟩ := kin_remove W9 op.a op.b
      refine qrem_ok S33.q (fun hno w34 B10 Q10 c10 n10 => ⟨_, _, _, _, _, _, _, _, _, _, rfl, ?_⟩) fun y hy x hx w34 B10 Q10 c10 n10 o10 => ⟨_, _, _, _, _, _, _, _, _, _, rfl, ?_⟩
      · refine newE (e0 := En0) (e := Ez.e) fun w35 b35 c35 z35 => Sif_false ?_
        rw [hno] at k2
        exact ⟨_, _, (S33.did Q10 c10 n10).next0 c35, KA9.kin0 k1 k2⟩
      · refine newE (e0 := En0) (e := x.e) fun w35 b35 c35 z35 => Sif_true ?_
        rw [hy] at k2
        rw [wrap_id (by omega) (by omega), nameI_iff]
        exact ⟨_, _, (S33.did Q10 c10 n10).next0 c35, KA9.kin k1 k2⟩
    · refine ⟨op.a, by rw [cell_blk b33]; rfl, ?_⟩
      obtain ⟨k1, k2⟩ := kin_expire A9 op.a
      refine qexp_ok S33.q fun p' n' c' own' G hG w34 B10 Q10 c10 n10 o10 => ⟨_, _, _, rfl, ?_⟩
      have hGl : G.length = (A9.expire op.a).1.length := by rw [← hG, List.length_map]
      have hn' := o10.len
      rw [wrap_id (by omega) (by omega), nameI_iff]
      refine ⟨_, _, S33.did Q10 c10 n10, ?_⟩
      rw [hn', hGl]
      exact KA9.kin k1 k2
    · refine ⟨op.a, by rw [cell_blk b33]; rfl, ?_⟩
      obtain ⟨k1, k2⟩ := kin_release A9 op.a
      refine qrel_ok S33.q fun p' n' c' own' hn' w34 B10 Q10 c10 n10 o10 f10 => ⟨_, _, _, rfl, ?_⟩
      exact ⟨_, _, S33.did Q10 c10 n10, KA9.kin0 k1 k2⟩
  · have hie : i = Es.length := by
      have : ¬ (i : Int) < (Es.length : Int) := by simpa using hge
      omega
    subst hie
    have W6 := S6.q.wf
    have hcnt := KA6.cnt
    have g1 := W6.len
    have g2 := W6.most2
    have hw1 : IntKind.wrap .i64 ((Es.length : Int) + 1) = ((Es.length + 1 : Nat) : Int) := by rw [wrap_id (by omega) (by omega)]; rfl
    refine ⟨_, _, _, by rw [cell_blk S6.ba]; rfl, ?_⟩
    rw [hw1]
    obtain ⟨w7, hmk, o7, c7, z7⟩ := kmake_ints (w := w6) (Es.length + 1) (by omega)
    refine ⟨_, _, _, w7, hmk, newB_blk fun w8 b8 c8 z8 => ?_⟩
    simp only [add_at, Nat.zero_add]
    refine st_blk b8 (by simp) fun w9 b9 c9 z9 => newB_blk fun w10 b10 c10 z10 => ?_
    simp only [add_at, Nat.zero_add]
    refine st_blk b10 (by simp) fun w11 b11 c11 z11 => ?_
    obtain ⟨vr, hvr⟩ := S6.br
    have lr := blk_lt hvr
    have c711 : Ch (fun b => w7.heap.size ≤ b) w7 w11 := (((c8.mono fun _ _ h => h.elim).trans' (c9.mono fun b _ h => by omega)).trans' (c10.mono fun _ _ h => h.elim)).trans' (c11.mono fun b _ h => by omega)
    have hlq : ∀ b, B b → b < w6.heap.size := S6.q.lt
    have c611 : Ch (fun b => w7.heap.size ≤ b) w6 w11 := (c7.mono fun _ _ h => h.elim).trans' c711
    have S11 := S6.next c611 fun b hb => ⟨by omega, fun h => by have := hlq b h; omega⟩
    have o11 := o7.ch c711 fun b hb h => by cases hb; omega
    have b911 : blk w11 w7.heap.size = some [.slice (some ⟨w6.heap.size, 0, none⟩) (Es.length + 1) (Es.length + 1)] := by rw [c11.blk (by have := blk_lt b9; omega) (by have := blk_lt b9; omega), c10.blk (blk_lt b9) id]; exact b9
    refine ok_queue_Queue_All ?_
    unfold wp_queue_Queue_All
    refine newB_blk fun w12 b12' c12 z12 => ⟨_, rfl, isNilF_f (Sif_false ?_)⟩
    intro l hl rc hrc hy
    have hl : l = w12.heap.size + 1 := by rw [hl]; simp
    obtain ⟨cW, dW, rW, zW⟩ := over_start w12 rc
    subst hl
    generalize (w12.alloc (.deferred (some []))).alloc (rc .ready none) = W at cW dW rW zW
    have c11W : Ch (fun _ => False) w11 W := c12.trans' cW
    have SW := S11.next0 c11W
    have oW := o11.ch c11W fun _ _ => id
    have b9W : blk W w7.heap.size = some [.slice (some ⟨w6.heap.size, 0, none⟩) (Es.length + 1) (Es.length + 1)] := by rw [c11W.blk (blk_lt b911) id]; exact b911
    have b11W : blk W w9.heap.size = some [.int .i64 0] := by rw [c11W.blk (blk_lt b11) id]; exact b11
    have bqW : blk W w11.heap.size = some [.pointer (some ⟨qb, 0, none⟩)] := by rw [cW.blk (blk_lt b12') id]; exact b12'
    have szs : w6.heap.size < w7.heap.size ∧ w7.heap.size < w9.heap.size ∧ w9.heap.size < w11.heap.size ∧ w11.heap.size < w12.heap.size := by omega
    refine ⟨by kernel_rfl, ?_⟩
    refine qall_ok bqW SW.q fun w13 S p c own hS C13 => ?_
    have hSl : S.length = A.L.length := by
      have := congrArg List.length hS
      rw [List.length_map, (ordered_perm A.L).length_eq] at this
      exact this
    have hmem : ∀ x ∈ S, Came Es Es.length x.pe := fun x hx => KA6.inv x.pe ((ordered_perm A.L).mem_iff.1 (by rw [← hS]; exact List.mem_map.2 ⟨x, hx, rfl⟩))
    have hnd : (S.map fun x : Et => x.e.seq).Nodup := by
      have h1 := ((ordered_perm A.L).map (·.seq)).nodup_iff.2 W6.nd
      rw [← hS, List.map_map] at h1
      exact h1
    have hseq : ∀ x ∈ S, 1 ≤ x.e.seq ∧ x.e.seq ≤ (Es.length : Int) := fun x hx => by
      obtain ⟨j, e, h1, h2, h3, _⟩ := hmem x hx
      have h3 : x.e.seq = ((j + 1 : Nat) : Int) := h3
      omega
    refine ⟨fun t v => ∃ R : List Int, R.length = Es.length + 1 ∧ (∀ j x, t ≤ j → S[j]? = some x → R[x.e.seq.toNat]? = some 0) ∧ Ow v (some ⟨w6.heap.size, 0, none⟩) (Es.length + 1) (Es.length + 1) 1 (R.flatMap iC) (some w6.heap.size) ∧
        blk v w7.heap.size = some [.slice (some ⟨w6.heap.size, 0, none⟩) (Es.length + 1) (Es.length + 1)] ∧ blk v w9.heap.size = some [.int .i64 (t : Int)] ∧ recAt v (w12.heap.size + 1) rc .ready none ∧ objAt v w12.heap.size = some (.deferred (some [])) ∧ blk v w.heap.size = some [.slice p0 Es.length c0] ∧
        (∃ u, blk v (w.heap.size + 1) = some [u]) ∧ Rd v p S.length 7 ((S.map (·.e)).flatMap En.cells) ∧ (∀ x ∈ S, EtE.Ok v x) ∧ Ch (fun _ => False) w v, ?_, ?_, ?_, ?_, ?_⟩
    · obtain ⟨u, hu⟩ := SW.br
      refine ⟨List.replicate (Es.length + 1) 0, by simp, fun j x _ hx => ?_, oW.ch C13.ch fun _ _ => id, by rw [C13.ch.blk (blk_lt b9W) id]; exact b9W, by rw [C13.ch.blk (blk_lt b11W) id]; exact b11W, rW.ch C13.ch id, objAt_ch dW C13.ch id, by rw [C13.ch.blk (blk_lt SW.ba) id]; exact SW.ba, ⟨u, by rw [C13.ch.blk (blk_lt hu) id]; exact hu⟩, C13.row.rd, C13.dat, SW.ch.trans' C13.ch⟩
      have := hseq x (List.mem_of_getElem? hx)
      rw [List.getElem?_replicate, if_pos (by omega)]
    · rintro t v v' ⟨R, h1, h2, h3, h4, h5, h6, h7, h8, ⟨u, h9⟩, h10, h11, h12⟩ cc
      exact ⟨R, h1, h2, h3.ch cc fun _ _ => id, by rw [cc.blk (blk_lt h4) id]; exact h4, by rw [cc.blk (blk_lt h5) id]; exact h5, h6.ch cc id, objAt_ch h7 cc id, by rw [cc.blk (blk_lt h8) id]; exact h8, ⟨u, by rw [cc.blk (blk_lt h9) id]; exact h9⟩, h10.ch cc fun _ _ _ => id, fun x hx => EtE.ch (h11 x hx) cc fun _ _ => id, h12.trans' cc⟩
    · rintro t v ⟨R, h1, h2, h3, h4, h5, h6, h7, h8, h9, h10, h11, h12⟩
      exact h10
    · rintro t x v hx ⟨R, h1, h2, h3, h4, h5, h6, h7, h8, ⟨u, h9⟩, h10, h11, h12⟩
      have hxS := List.mem_of_getElem? hx
      have htl := (List.getElem?_eq_some_iff.1 hx).1
      obtain ⟨j, e, k1, k2, k3, k4, k5, k6, k7, k8⟩ := hmem x hxS
      have k3 : x.e.seq = ((j + 1 : Nat) : Int) := k3
      have k4 : x.e.pri = e.1.pri := k4
      have k5 : x.e.exp = e.1.exp := k5
      have k6 : x.e.dur = e.1.dur := k6
      have k7 : x.l = e.2 := k7
      have k8 : e.1.cnt ≤ x.e.cnt := k8
      refine hy _ _ _ _ _ _ _ _ _ v _ h6 ?_
      refine newE (e0 := En0) (e := x.e) fun v1 x1 e1 y1 => ⟨h6.ch e1 id, ?_⟩
      have r1 := h6.ch e1 id
      have e2 := putObj_ch v1 (w12.heap.size + 1) (rc .busy none)
      have y2 : (v1.putObj (w12.heap.size + 1) (rc .busy none)).heap.size = v1.heap.size := by simp
      have r2 := r1.put (s' := .busy) (j' := none)
      generalize v1.putObj (w12.heap.size + 1) (rc .busy none) = v2 at e2 r2 y2 ⊢
      have lv := objAt_lt h6
      have e02 : Ch (· = w12.heap.size + 1) v v2 := (e1.mono fun _ _ h => h.elim).trans' e2
      have kp2 : ∀ b cs, b < w12.heap.size → blk v b = some cs → blk v2 b = some cs := fun b cs hb h => by rw [e02.blk (blk_lt h) (by omega)]; exact h
      have hlr := blk_lt hvr
      have x2 : blk v2 v.heap.size = some x.e.cells := by rw [e2.blk (blk_lt x1) (by omega)]; exact x1
      have a2 := kp2 _ _ (by omega) h4
      have n2 := kp2 _ _ (by omega) h5
      have ba2 := kp2 _ _ (by omega) h8
      have br2 := kp2 _ _ (by omega) h9
      have o2 := h3.ch e02 fun b hb h => by cases hb; omega
      have hq : x.e.seq.toNat = j + 1 := by omega
      have hRq := h2 t x (Nat.le_refl _) hx
      rw [hq] at hRq
      simp only [add_at, Nat.zero_add, Nat.add_zero]
      refine ⟨fun v => v = v2, ?_, ?_⟩
      rotate_left
      · refine ⟨_, by rw [cell_blk x2]; rfl, Sif_cases (fun _ => ?_) fun g => ?_⟩
        rotate_left
        · have g : x.e.seq < 1 := by simpa using g
          omega
        refine ⟨_, by rw [cell_blk x2]; rfl, _, _, _, by rw [cell_blk ba2]; rfl, Sif_cases (fun _ => ?_) fun g => ?_⟩
        rotate_left
        · have g : x.e.seq > (Es.length : Int) := by simpa using g
          omega
        obtain ⟨kq, oq, hpq, hcq⟩ := o2.rd.at iC_len hRq (by decide)
        cases hpq
        refine ⟨_, _, _, by rw [cell_blk a2]; rfl, _, by rw [cell_blk x2]; rfl, by omega, by omega, ?_⟩
        rw [nn_some, add_at, hq]
        have hcq := hcq 0 _ rfl
        simp only [Nat.mul_one, Nat.zero_add, Nat.add_zero] at hcq ⊢
        exact ⟨0, hcq, Sif_false (by trivial)⟩
      rintro v3 rfl
      refine ⟨_, _, _, by rw [cell_blk a2]; rfl, _, by rw [cell_blk x2]; rfl, by omega, by omega, ?_⟩
      rw [nn_some, hq]
      simp only [add_at, Nat.mul_one, Nat.zero_add, Nat.add_zero]
      obtain ⟨kq, oq, hpq, hbq, hst⟩ := o2.st (i := j + 1) (by omega)
      cases hpq
      rw [Nat.zero_add] at hst
      refine hst _ _ fun v4 o4 e4 y4 => ?_
      have hset : (R.flatMap iC).set (j + 1) (.int .i64 1) = (R.set (j + 1) 1).flatMap iC := by rw [iC_flat, iC_flat, List.map_set]
      rw [hset] at o4
      have n4 : blk v4 w9.heap.size = some [.int .i64 (t : Int)] := by rw [e4.blk (blk_lt n2) (by omega)]; exact n2
      refine ⟨_, by rw [cell_blk n4]; rfl, ?_⟩
      rw [wrap_id (n := (t : Int) + 1) (by omega) (by omega)]
      refine st_blk n4 (by simp) fun v5 n5 e5 y5 => ?_
      have e35 : Ch (fun b => b = w6.heap.size ∨ b = w9.heap.size) v3 v5 := (e4.mono fun b _ h => .inl h).trans' (e5.mono fun b _ h => .inr h)
      have kp5 : ∀ b cs, b ≠ w6.heap.size → b ≠ w9.heap.size → blk v3 b = some cs → blk v5 b = some cs := fun b cs hb hb2 h => by rw [e35.blk (blk_lt h) (by omega)]; exact h
      have ba5 := kp5 _ _ (by omega) (by omega) ba2
      have x5 := kp5 _ _ (by omega) (by omega) x2
      have e05 : Ch (fun b => b = w12.heap.size + 1 ∨ b = w6.heap.size ∨ b = w9.heap.size) v v5 := (e02.mono fun b _ h => .inl h).trans' (e35.mono fun b _ h => .inr h)
      have ch05 : Ch (fun _ => False) w v5 := h12.trans e05 fun b hb h => by omega
      have hee : (Es.map (·.1))[j]? = some e.1 := by rw [List.getElem?_map, k2]; rfl
      obtain ⟨kb, o, hpp, hc⟩ := (hE.ch ch05 fun _ _ _ => id).at En.cells_len hee (by decide)
      subst hpp
      have hwj : IntKind.wrap .i64 (x.e.seq - 1) = (j : Int) := by rw [wrap_id (by omega) (by omega)]; omega
      refine ⟨_, _, _, by rw [cell_blk ba5]; rfl, _, by rw [cell_blk x5]; rfl, ?_⟩
      rw [hwj]
      refine ⟨by omega, by omega, ?_⟩
      simp only [nn_some, add_at, Int.toNat_natCast]
      refine ⟨_, hc 0 _ rfl, _, hc 1 _ rfl, _, hc 2 _ rfl, _, hc 3 _ rfl, _, hc 4 _ rfl, _, hc 5 _ rfl, _, _, _, hc 6 _ rfl, ?_⟩
      refine newE (e0 := En0) (e := e.1) fun v6 x6 e6 y6 => ?_
      have xx6 : blk v6 v.heap.size = some x.e.cells := by rw [e6.blk (blk_lt x5) id]; exact x5
      simp only [add_at, Nat.zero_add]
      refine ⟨_, _, _, by rw [cell_blk xx6]; rfl, _, _, _, by rw [cell_blk x6]; rfl, ?_⟩
      have ch06 := ch05.trans' e6
      have hbig : ∀ b ∈ own.toList ++ eB S, W.heap.size ≤ b := C13.new
      have hxb : ∀ y ∈ S, ∀ b ∈ EtE.B y, W.heap.size ≤ b := fun y hy b hb => hbig b (List.mem_append_right _ (mem_eB.2 ⟨y, hy, by simpa [EtE, Option.mem_toList] using hb⟩))
      have dat6 : ∀ y ∈ S, EtE.Ok v6 y := fun y hy => EtE.ch (EtE.ch (h11 y hy) e05 fun b hb h => by have := hxb y hy b hb; omega) e6 fun _ _ => id
      have heE := hin e (List.mem_of_getElem? k2)
      refine sameB_ok (l := x.l) (k := e.2) (dat6 x hxS).rd (heE.rd.ch ch06 fun _ _ _ => id) ⟨_, rfl, ?_⟩
      rw [k7, beq_self_eq_true]
      have r6 : recAt v6 (w12.heap.size + 1) rc .busy none := (r2.ch e35 (by omega)).ch e6 id
      simp only [cell_blk xx6, cell_blk x6]
      refine Sif_true ⟨_, rfl, _, rfl, ?_⟩
      rw [k4]
      refine Sif_cases (fun _ => ?_) fun g => by simp at g
      refine ⟨_, rfl, _, rfl, ?_⟩
      rw [k5]
      refine Sif_cases (fun _ => ?_) fun g => by simp at g
      refine ⟨_, rfl, _, rfl, ?_⟩
      rw [k6]
      refine Sif_cases (fun _ => ?_) fun g => by simp at g
      refine ⟨_, rfl, _, rfl, ?_⟩
      rw [decide_eq_false (by omega : ¬ x.e.cnt < e.1.cnt)]
      refine Sif_false ⟨r6, .inl ⟨by trivial, ?_⟩⟩
      have e7 := putObj_ch v6 (w12.heap.size + 1) (rc .ready none)
      have r7 := r6.put (s' := .ready) (j' := none)
      generalize v6.putObj (w12.heap.size + 1) (rc .ready none) = v7 at e7 r7 ⊢
      have s5 := e05.size
      have s6 := e6.size
      have e07 : Ch (fun b => b = w12.heap.size + 1 ∨ b = w6.heap.size ∨ b = w9.heap.size) v v7 := (e05.new e6).trans' (e7.mono fun b _ h => .inl h)
      have kp7 : ∀ b cs, b < w12.heap.size → b ≠ w6.heap.size → b ≠ w9.heap.size → blk v b = some cs → blk v7 b = some cs := fun b cs hb hb2 hb3 h => by rw [e07.blk (blk_lt h) (by omega)]; exact h
      have e57 : Ch (· = w12.heap.size + 1) v5 v7 := (e6.mono fun _ _ h => h.elim).trans' e7
      refine ⟨R.set (j + 1) 1, by simpa using h1, fun j' y hj' hy' => ?_, (o4.ch e5 fun b hb h => by cases hb; omega).ch e57 fun b hb h => by cases hb; omega, kp7 _ _ (by omega) (by omega) (by omega) h4, ?_, r7, objAt_ch h7 e07 (by omega), kp7 _ _ (by omega) (by omega) (by omega) h8, ⟨u, kp7 _ _ (by omega) (by omega) (by omega) h9⟩, h10.ch e07 fun a ha h0 hb => ?_, fun y hy => EtE.ch (dat6 y hy) e7 fun b hb h => by have := hxb y hy b hb; omega, h12.trans e07 fun b hb h => by omega⟩
      · have hyS := List.mem_of_getElem? hy'
        have hq2 := hseq y hyS
        have hne : y.e.seq ≠ x.e.seq := fun e9 => by
          obtain ⟨g3, g4⟩ := List.getElem?_eq_some_iff.1 hy'
          obtain ⟨g5, g6⟩ := List.getElem?_eq_some_iff.1 hx
          have := inj_of_nodup hnd hyS hxS e9
          have hSn : S.Nodup := List.Pairwise.of_map (fun x : Et => x.e.seq) (fun a b h e => h (by rw [e])) hnd
          have := (List.getElem_inj hSn).1 (g4.trans (this.trans g6.symm))
          omega
        rw [List.getElem?_set_ne (by omega)]
        exact h2 j' y (by omega) hy'
      · rw [e57.blk (blk_lt n5) (by omega)]
        exact n5
      · obtain ⟨_, q2, q3⟩ := C13.row
        rcases q3 with ⟨_, q3⟩ | ⟨k, o', cs', q5, q6, _⟩
        · have : S.length * 7 ≤ c * 7 := Nat.mul_le_mul_right _ q2
          omega
        · rw [q6] at ha; cases ha
          have := hbig k (by simp [q5, Option.mem_toList])
          have hb : k = w12.heap.size + 1 ∨ k = w6.heap.size ∨ k = w9.heap.size := hb
          omega
    · rintro v ⟨R, h1, h2, h3, h4, h5, h6, h7, h8, ⟨u, h9⟩, h10, h11, h12⟩
      refine .inl ⟨h6, ?_⟩
      have e2 := putObj_ch v (w12.heap.size + 1) (rc .exhausted none)
      generalize v.putObj (w12.heap.size + 1) (rc .exhausted none) = v2 at e2 ⊢
      have hlr := blk_lt hvr
      have n2 : blk v2 w9.heap.size = some [.int .i64 (S.length : Int)] := by rw [e2.blk (blk_lt h5) (by omega)]; exact h5
      have r2 : blk v2 (w.heap.size + 1) = some [u] := by rw [e2.blk (blk_lt h9) (by omega)]; exact h9
      refine ⟨_, by rw [cell_blk n2]; rfl, st_blk r2 (by simp) fun v3 x3 e3 y3 => ?_⟩
      have h72 := objAt_ch h7 e2 (by omega)
      refine takeM_of (objAt_ch h72 e3 (by omega)) fun v4 e4 y4 => ?_
      have hlt3 := blk_lt x3
      have x4 : blk v4 (w.heap.size + 1) = some ([u].set 0 (.bool ((S.length : Int) == IntKind.wrap .i64 (n - n1)))) := by rw [e4.blk hlt3 (by omega)]; exact x3
      refine ⟨_, by rw [cell_blk x4]; rfl, ?_⟩
      rw [hcnt, wrap_id (by omega) (by omega), hSl, beq_self_eq_true]
      exact hk v4 (((h12.trans e2 fun b hb h => by omega).trans e3 fun b hb h => by omega).trans e4 fun b hb h => by omega)
end Go.Proofs.YtipbbjnmpnfhpaaDoor
