/-
  JournalStroke: the walk.
-/
import Derived.Test.YtipololccbdojaaGreatDoorJstrike
namespace Go.Proofs.YtipololccbdojaaGreatDoor
open Go Go.Sv
set_option linter.unusedVariables false
set_option maxRecDepth 4000

section
variable {W w w' : World} {bb d jb : Nat} {a a' : AD} {j j' : AJ} {Bd Bd' Bv Bv' : Nat → Prop} {Now Then : List Batch} {two : Bool}
/-- behind an up of the book: the journal that it gives -/
theorem SB.put (S : SB W w bb d a Bd Bv Now Then two) {Now' Then' : List Batch} {two' : Bool} (S' : SB W w' bb d a' Bd' Bv Now' Then' two') (m : JM w' jb d j') (hn : w.heap.size ≤ jb) (hd : ¬ Bd' jb) : StJ W w' bb d jb a' j' Bd' Bv Now' Then' two' :=
  ⟨S', m, hd, fun e => by have := S.blt; omega, fun hv => by have := (S.view jb hv).1; omega, by have := S.ch.size; omega⟩
end
theorem nd_newA (r : Int) : ND (newA r) := by
  show ([] : List ByteArray).Nodup
  exact List.nodup_nil
theorem log_newA (r : Int) : LogF ((newA r).file sLog) [] := ⟨by simp, rfl⟩
/-- what is held between two operations -/
def Goes (W w : World) (bb d k : Nat) (q : Option Addr) : Prop := ∃ (jb : Nat) (a : AD) (j : AJ) (Bd Bv : Nat → Prop) (Now Then : List Batch) (two : Bool), q = some ⟨jb, 0, none⟩ ∧ StJ W w bb d jb a j Bd Bv Now Then two ∧ Live a j Now ∧ a.room ≤ 16777216 ∧ a.cnt ≤ k
/-- what is held behind an operation, ahead of the look at the disk -/
def Fares (W w : World) (bb d k : Nat) (q : Option Addr) : Prop := ∃ (jb : Nat) (a : AD) (j : AJ) (Bd Bv : Nat → Prop) (Now Then : List Batch) (two : Bool), q = some ⟨jb, 0, none⟩ ∧ StJ W w bb d jb a j Bd Bv Now Then two ∧ a.room ≤ 16777216 ∧ a.cnt ≤ k ∧
  (Live a j Now ∨ (a.down = true ∧ ND a ∧ ∃ L, LogF (a.file sLog) L ∧ (L = Now ∨ (two = true ∧ L = Then))))
set_option maxHeartbeats 2000000 in
theorem stroke_walk {w : World} {room : Int} {p : Option Addr} {n c : Nat} {X : List OV} {aB aS : Addr} {K : Value → World → Prop} (E : ErrsA w aB aS) (hx : ScV w p n X)
    (hk : ∀ w', Ch (fun _ => False) w w' → K (.bool true) w') : callP Tryz.prog 7 [.int .i64 room, .slice p n c] w K := by
  have hl := hx.len
  have hn := hx.n
  refine ok_longshorelaw20_JournalStroke ?_
  unfold wp_longshorelaw20_JournalStroke
  refine beyond_ok hx fun b hb => ⟨_, rfl, Sif_cases (fun _ => hk w (Ch.refl _ _)) fun hbf => ?_⟩
  have hall := hb (by simpa using hbf)
  refine live_ok E fun w2 c2 => ⟨_, rfl, ?_⟩
  refine new_ok (fun _ => ⟨_, rfl, fun _ => False, fun _ h => h.elim, Sif_true (Sif_true (hk w2 c2))⟩) fun hr0 hr1 d w3 B3 D3 c3 n3 => ⟨_, rfl, ?_⟩
  refine ⟨fun w4 => w4 = w3, ?_, Sif_true (Sif_false rfl)⟩
  rintro w4 rfl
  have C4 := c2.new c3
  refine newB_blk fun w5 b5 c5 z5 => ?_
  have C5 := C4.new c5
  have hz2 := c2.size
  have hz3 := c3.size
  have S5 : SB w w5 w4.heap.size d (newA room) B3 (Old w) [] [] false := by
    refine ⟨D3.ch c5 fun _ _ => id, C5, fun b hb => ?_, fun hb => ?_, fun _ => id, fun b hb => ?_, _, _, _, _, _, _, _, [], [], b5, VL.nil, rfl, VL.nil, rfl⟩
    · rcases hb with hb | rfl
      · have := n3 b hb; omega
      · omega
    · have := D3.lt _ hb; omega
    · have hb : b < w.heap.size := hb
      refine ⟨by omega, fun h => ?_⟩
      rcases h with h | h
      · have := n3 b h; omega
      · omega
  refine bookUp_ok (N := 0) E S5 (nd_newA _) (log_newA _) (.inl rfl) (Nat.le_refl _) (by decide) hr1 fun w6 jb6 a6 j6 B6 T6 S6 m6 h6 d6 l6 r6 k6 c6 n6 => ⟨_, rfl, Sif_false ?_⟩
  have T := S5.put S6 m6 h6 d6
  generalize hbb : w4.heap.size = bb at *
  refine ⟨fun m q i w' => ∃ k : Nat, i = (k : Int) ∧ k ≤ n ∧ m = n - k ∧ Goes w w' bb d (50 * k + 20) q, ⟨n, 0, rfl, by omega, rfl, jb6, a6, j6, B6, Old w, [], T6, false, rfl, T, l6, by rw [r6]; exact hr1, by omega⟩, ?_⟩
  rintro m q i w7 ⟨k, rfl, hkn, rfl, jb, a, j, Bd, Bv, Now, Then, two, rfl, T7, live, hroom, hcnt⟩
  have hEw : ∀ {w'}, Ch (fun _ => False) w w' → ErrsA w' aB aS := fun c => E.ch c
  refine Sif_cases (fun hlt => ?_) fun hge => ?_
  rotate_left
  · -- the end
    refine crash_ok T7.sb.dk fun w8 B8 D8 c8 n8 => ⟨rfl, ?_⟩
    have T8 := T7.disk D8 c8 n8
    have hC : Ch (fun _ => False) w w8 := T8.sb.ch
    refine bookUp_ok (N := a.cnt) E T8.sb (nd_crash live.nd _) (logF_crash live.logF _) (.inl rfl) (by rw [cnt_crash]; exact Nat.le_refl _) (by omega) (by rw [room_crash]; exact hroom) fun w9 jb9 a9 j9 B9 T9 S9 m9 h9 d9 l9 r9 k9 c9 n9 => ⟨_, rfl, hk w9 S9.ch⟩
  have hlt' : (k : Int) < n := by simpa using hlt
  have hkl : k < X.length := by omega
  have hi := List.getElem?_eq_getElem hkl
  have ho := hx.ok _ (List.getElem_mem hkl)
  have hw := hall _ (List.getElem_mem hkl)
  obtain ⟨kb, ob, rfl, hcell⟩ := hx.at T7.sb.ch hi
  generalize X[k] = o at ho hw hcell
  refine ⟨fun q w' => Goes w w' bb d (50 * (k + 1) + 20) q, ?_, by omega, hlt', ?_⟩
  · rintro q w' g
    rw [wrap_id (by omega) (by omega), nameI_iff]
    exact ⟨n - (k + 1), by omega, k + 1, by omega, by omega, rfl, g⟩
  simp only [nn_some, add_at, Int.toNat_natCast]
  refine ⟨_, hcell 0 _ rfl, _, hcell 1 _ rfl, _, hcell 2 _ rfl, _, _, _, hcell 3 _ rfl, _, _, _, hcell 4 _ rfl, ?_⟩
  refine newB_blk fun w8 b8 c8 z8 => ?_
  simp only [add_at, Nat.zero_add]
  refine st_blk b8 (by simp) fun w9 b9 c9 z9 => st_blk b9 (by simp) fun w10 b10 c10 z10 => st_blk b10 (by simp) fun w11 b11 c11 z11 => st_blk b11 (by simp) fun w12 b12 c12 z12 => st_blk b12 (by simp) fun w13 b13 c13 z13 => ?_
  have b13 : blk w13 w7.heap.size = some o.cells := b13
  have C713 : Ch (fun _ => False) w7 w13 := c8.trans ((((c9.trans' c10).trans' c11).trans' c12).trans' c13) fun x hx e => by omega
  have T13 := T7.ch0 C713
  have hz13 := C713.size
  have live_j : j.size ≤ 2 ^ 24 := by rw [live.size]; exact live.small T13.sb.dk hroom
  have hVold : ∀ b, Old w b → ¬ (Bd b ∨ b = jb) := fun b hb h => by
    have hb2 := T13.sb.view b (T13.sb.old b hb)
    rcases h with h | rfl
    · exact hb2.2 (.inl h)
    · exact T13.jv (T13.sb.old b hb)
  have hcop : ∀ b, (Bd b ∨ b = jb) → b ≠ w7.heap.size := fun b hb e => by have := T7.hold.blt b hb; omega
  refine ⟨fun q b w' => b = true ∧ Fares w w' bb d (50 * k + 35) q, ?_, ?_⟩
  · -- behind the operation
    rintro q b w14 ⟨rfl, jb, a, j, Bd, Bv, Now, Then, two, rfl, T14, hroom, hcnt, hst⟩
    refine Sif_false ?_
    refine up_ok T14.sb.dk fun w15 B15 D15 c15 n15 => ⟨_, rfl, ?_⟩
    have T15 := T14.disk D15 c15 n15
    rcases hst with live | ⟨hdown, nd, L, hL, hLN⟩
    · rw [live.up]
      exact Sif_false ⟨jb, a, j, B15, Bv, Now, Then, two, rfl, T15, live, hroom, by omega⟩
    · rw [hdown]
      refine Sif_true (newB_blk fun w16 b16 c16 z16 => newB_blk fun w17 b17 c17 z17 => ?_)
      have T17 := (T15.ch0 c16).ch0 c17
      refine add_down T17.hold (by simp [AJ.look, hdown]) fun w18 B18 H18 c18 n18 => ⟨_, rfl, ?_⟩
      have T18 := T17.step H18 c18 n18
      refine shorten_down T18.hold (by simp [AJ.look, hdown]) fun w19 B19 H19 c19 n19 => ⟨_, rfl, ?_⟩
      have T19 := T18.step H19 c19 n19
      refine ⟨fun w20 => w20 = w19, ?_, Sif_true (Sif_false rfl)⟩
      rintro w20 rfl
      refine bookUp_ok (N := a.cnt) E T19.sb nd hL hLN (Nat.le_refl _) (by omega) hroom fun w21 jb2 a2 j2 B21 Th2 S21 m21 h21 d21 l21 r21 k21 c21 n21 => ⟨_, rfl, Sif_false ?_⟩
      have T21 := T19.sb.put S21 m21 h21 d21
      refine newB_blk fun w22 b22 c22 z22 => newB_blk fun w23 b23 c23 z23 => ?_
      have T23 := (T21.ch0 c22).ch0 c23
      -- the old journal
      have hjlt := T19.hold.lt
      have hold : JD w23 jb d a2 ((j.look a).look a) B21 := by
        refine ⟨?_, T23.sb.dk, fun h => ?_⟩
        · have c : Ch (fun b => B19 b ∨ b = bb) w20 w23 := (c21.new c22).new c23
          unfold JM
          rw [c.blk hjlt (fun h => h.elim T19.jd T19.nb)]
          exact T19.m
        · rcases n21 jb h with h | h
          · exact T19.jd h
          · omega
      refine add_down hold (by simp [AJ.look, hdown]) fun w24 B24 H24 c24 n24 => ⟨_, rfl, Sif_false ?_⟩
      have hne : jb2 ≠ jb := by omega
      refine ⟨jb2, a2, j2, B24, Bv, L, Th2, false, rfl, ⟨T23.sb.step H24.dk c24 n24 (fun b hb => ?_) (fun hb => ?_) fun b hb hs => ?_, ?_, fun h => ?_, T23.nb, T23.jv, T23.jn⟩, l21, by rw [r21]; exact hroom, by omega⟩
      · rcases hb with hb | rfl
        · exact T23.sb.new b (.inl hb)
        · exact T19.jn
      · rcases hb with hb | hb
        · exact T23.sb.bbd hb
        · exact T19.nb hb.symm
      · rcases hs with hs | rfl
        · exact (T23.sb.view b hb).2 (.inl hs)
        · exact T19.jv hb
      · unfold JM
        rw [c24.blk T23.hold.lt (fun h => h.elim T23.jd hne)]
        exact T23.m
      · rcases n24 jb2 h with h | h
        · exact T23.jd h
        · have := T23.hold.lt; omega
  refine ⟨_, by rw [cell_blk b13]; rfl, Sif_cases (fun _ => ?_) fun _ => Sif_cases (fun _ => ?_) fun _ => Sif_cases (fun _ => ?_) fun _ => Sif_cases (fun _ => ?_) fun _ => Sif_cases (fun _ => ?_) fun _ => ?_⟩
  · -- Add
    refine ⟨_, _, _, by rw [cell_blk b13]; rfl, ?_⟩
    have hlv : o.l.ok w13 (Old w) := ho.l.ch T13.sb.ch fun _ _ => id
    have hbody : (body o.l.says).length ≤ 2 ^ 40 := by
      have h2 := wtR_body o.l.says
      have h3 : (wtR o.l.says : Int) ≤ 2147483647 := hw.1
      omega
    refine add_ok T13.hold live.sure hlv.rd hVold hbody (by have := ho.ls.1; omega) (by omega) ?_
    rw [show saysR o.l.X = o.l.says from rfl]
    intro w14 B14 H14 c14 n14
    refine ⟨_, rfl, ?_⟩
    have T14 := (T13.step H14 c14 n14).ch0 (Ch.drew w14)
    obtain ⟨np, tp, nn, nc, tn, tc, lv, YN, YT, b1, v1, s1, v2, s2⟩ := T14.sb.book
    have b14 : blk w14.drew w7.heap.size = some o.cells := by rw [(c14.trans (Ch.drew (S := fun _ => False) w14) fun _ _ h => h.elim).blk (by omega) (fun h => hcop _ h rfl)]; exact b13
    refine ⟨_, _, _, by rw [cell_blk b1]; rfl, _, _, _, by rw [cell_blk b14]; rfl, ?_⟩
    have hnn : nn ≤ 2 ^ 24 := by
      have h1 := allB_cnt live.good
      have h2 := live.small T13.sb.dk hroom
      have h3 := v1.len
      have h4 : (saysL YN).length = YN.length := by simp [saysL]
      rw [s1] at h4
      omega
    refine with_ok v1 ((ho.l.ch T14.sb.ch fun _ _ => id).mono T14.sb.old) (fun b hb => (T14.sb.view b hb).1) (by omega) fun w15 q15 t15 cq15 B15 v15 _ c15 n15 => ⟨_, _, _, rfl, ?_⟩
    have T15 := T14.more c15 n15
    have hX : o.l.X.length = o.l.n := ho.l.rd.len
    have hn0 : o.l.n = 0 ↔ o.l.says = [] := by
      unfold BV.says
      rw [← List.length_eq_zero_iff, saysR_len, hX]
    have hsay : saysL (YN ++ if o.l.n = 0 then [] else [o.l]) = Now ++ if o.l.says = [] then [] else [o.l.says] := by
      unfold saysL at s1 ⊢
      rw [List.map_append, s1]
      by_cases h : o.l.n = 0
      · rw [if_pos h, if_pos (hn0.1 h)]; rfl
      · rw [if_neg h, if_neg fun e => h (hn0.2 e)]; rfl
    have hca := cnt_add a j o.l.says
    rcases live.add o.l.says hroom with ⟨g1, g2⟩ | ⟨g1, g2⟩ | ⟨g0, -, ⟨a', j', g1, g2, g3, -, -, -⟩ | ⟨a', j', g1, g2, g3, g4⟩ | ⟨a', j', g1, g2, g3, -, -, -, -, -⟩⟩
    · rw [g1] at T15 ⊢
      exact bdone_ok T15 (v15.mono fun _ => .inr) (.inr (.inr (.inr rfl))) fun w16 N' T' t' T16 c16 e0 e1 e3 => ⟨_, rfl, rfl, jb, a, j, _, _, N', T', t', rfl, T16, hroom, by omega, .inl (by rw [e1 (by simp)]; exact live)⟩
    · rw [g1] at T15 ⊢
      exact bdone_ok T15 (v15.mono fun _ => .inr) (.inl rfl) fun w16 N' T' t' T16 c16 e0 e1 e3 => ⟨_, rfl, rfl, jb, a, j, _, _, N', T', t', rfl, T16, hroom, by omega, .inl (by rw [e0 rfl, hsay, if_pos g2, List.append_nil]; exact live)⟩
    · rw [g1] at T15 hca ⊢
      have hca : a'.cnt ≤ a.cnt + 3 := hca
      exact bdone_ok T15 (v15.mono fun _ => .inr) (.inr (.inr (.inl rfl))) fun w16 N' T' t' T16 c16 e0 e1 e3 => ⟨_, rfl, rfl, jb, a', j', _, _, N', T', t', rfl, T16, by rw [g3]; exact hroom, by omega, .inl (by rw [e1 (by simp)]; exact g2)⟩
    · rw [g1] at T15 hca ⊢
      have hca : a'.cnt ≤ a.cnt + 3 := hca
      refine bdone_ok T15 (v15.mono fun _ => .inr) (.inr (.inl rfl)) fun w16 N' T' t' T16 c16 e0 e1 e3 => ⟨_, rfl, rfl, jb, a', j', _, _, N', T', t', rfl, T16, by rw [g2.room]; exact hroom, by omega, .inr ⟨g2.down, g2.nd, ?_⟩⟩
      rcases g4 with g4 | g4
      · exact ⟨Now, g4, .inl (e1 (by simp)).symm⟩
      · refine ⟨_, g4, .inr ⟨(e3 rfl).2, ?_⟩⟩
        rw [(e3 rfl).1, hsay, if_neg g0]
    · rw [g1] at T15 hca ⊢
      have hca : a'.cnt ≤ a.cnt + 3 := hca
      exact bdone_ok T15 (v15.mono fun _ => .inr) (.inl rfl) fun w16 N' T' t' T16 c16 e0 e1 e3 => ⟨_, rfl, rfl, jb, a', j', _, _, N', T', t', rfl, T16, by rw [g2.room]; exact hroom, by omega, .inl (by rw [e0 rfl, hsay, if_neg g0]; exact g3)⟩
  · -- Shorten
    refine ⟨_, _, _, by rw [cell_blk b13]; rfl, ?_⟩
    have hmv : VL w13 (Old w) o.m.p o.m.n o.m.Y := ho.m.rd.ch T13.sb.ch fun _ _ => id
    have hallm : (allB (saysL o.m.Y)).length ≤ 2 ^ 40 := by
      have h2 := allB_wt (saysL o.m.Y)
      have h3 : (wtL (saysL o.m.Y) : Int) ≤ 2147483647 := hw.2
      omega
    refine shorten_ok T13.hold hmv hVold hallm (by have := ho.m.n; omega) (fun y hy => by have := (ho.m.small y hy).1; omega) ?_
    intro w14 B14 H14 c14 n14
    refine ⟨_, rfl, ?_⟩
    have T14 := T13.step H14 c14 n14
    have b14 : blk w14 w7.heap.size = some o.cells := by rw [c14.blk (by omega) (fun h => hcop _ h rfl)]; exact b13
    refine ⟨_, _, _, by rw [cell_blk b14]; rfl, ?_⟩
    have hmv14 : VL w14 (Old w) o.m.p o.m.n o.m.Y := ho.m.rd.ch T14.sb.ch fun _ _ => id
    have hwz := T14.sb.ch.size
    refine without_ok hmv14 (fun b hb => by have hb : b < w.heap.size := hb
                                            omega) (by have := ho.m.n; omega) fun w15 q15 t15 cq15 B15 v15 _ c15 n15 => ⟨_, _, _, rfl, ?_⟩
    have T15 := T14.more c15 fun b hb => (n15 b hb).imp (T14.sb.old b) id
    have hsay : saysL (nonV o.m.Y) = nonE (saysL o.m.Y) := nonV_says ho.m.rd.ok
    have hca := cnt_shorten a j (saysL o.m.Y)
    rcases live.shorten (saysL o.m.Y) hroom with ⟨g1, g2⟩ | ⟨a', j', g1, g2, g3⟩ | ⟨a', j', g1, g2, g3, g4⟩ | ⟨a', j', g1, g2, g3⟩
    · rw [g1] at T15 ⊢
      exact bdone_ok T15 (v15.mono fun _ => .inr) (.inr (.inr (.inr rfl))) fun w16 N' T' t' T16 c16 e0 e1 e3 => ⟨_, rfl, rfl, jb, a, j, _, _, N', T', t', rfl, T16, hroom, by omega, .inl (by rw [e1 (by simp)]; exact live)⟩
    · rw [g1] at T15 hca ⊢
      have hca : a'.cnt ≤ a.cnt + 3 := hca
      exact bdone_ok T15 (v15.mono fun _ => .inr) (.inr (.inr (.inl rfl))) fun w16 N' T' t' T16 c16 e0 e1 e3 => ⟨_, rfl, rfl, jb, a', j', _, _, N', T', t', rfl, T16, by rw [g3]; exact hroom, by omega, .inl (by rw [e1 (by simp)]; exact g2)⟩
    · rw [g1] at T15 hca ⊢
      have hca : a'.cnt ≤ a.cnt + 3 := hca
      exact bdone_ok T15 (v15.mono fun _ => .inr) (.inr (.inl rfl)) fun w16 N' T' t' T16 c16 e0 e1 e3 => ⟨_, rfl, rfl, jb, a', j', _, _, N', T', t', rfl, T16, by rw [g2.room]; exact hroom, by omega, .inr ⟨g2.down, g2.nd, Now, g4, .inl (e1 (by simp)).symm⟩⟩
    · rw [g1] at T15 hca ⊢
      have hca : a'.cnt ≤ a.cnt + 3 := hca
      exact bdone_ok T15 (v15.mono fun _ => .inr) (.inl rfl) fun w16 N' T' t' T16 c16 e0 e1 e3 => ⟨_, rfl, rfl, jb, a', j', _, _, N', T', t', rfl, T16, by rw [g2.room]; exact hroom, by omega, .inl (by rw [e0 rfl, hsay]; exact g3)⟩
  · -- Arm
    refine ⟨_, by rw [cell_blk b13]; rfl, _, by rw [cell_blk b13]; rfl, ?_⟩
    refine arm_ok T13.sb.dk ho.a fun w14 B14 D14 c14 n14 => ⟨rfl, rfl, jb, a.arm o.A o.B, j, B14, Bv, Now, Then, two, rfl, T13.disk D14 c14 n14, ?_, ?_, .inl (live.arm _ _)⟩
    · rw [(arm_rest a o.A o.B).1]; exact hroom
    · rw [(arm_rest a o.A o.B).2.1]; omega
  · -- Crash
    refine ⟨_, by rw [cell_blk b13]; rfl, ?_⟩
    refine crash_ok T13.sb.dk fun w14 B14 D14 c14 n14 => ⟨rfl, rfl, jb, a.crash o.A, j, B14, Bv, Now, Then, two, rfl, T13.disk D14 c14 n14, ?_, ?_, .inr ⟨crash_down _ _, nd_crash live.nd _, Now, logF_crash live.logF _, .inl rfl⟩⟩
    · rw [room_crash]; exact hroom
    · rw [cnt_crash]; omega
  · -- Open
    refine bookUp_ok (N := a.cnt) E T13.sb live.nd live.logF (.inl rfl) (Nat.le_refl _) (by omega) hroom fun w14 jb2 a2 j2 B14 Th2 S14 m14 h14 d14 l14 r14 k14 c14 n14 => ⟨_, rfl, rfl, jb2, a2, j2, B14, Bv, Now, Th2, false, rfl, T13.sb.put S14 m14 h14 d14, by rw [r14]; exact hroom, by omega, .inl l14⟩
  · exact ⟨rfl, jb, a, j, Bd, Bv, Now, Then, two, rfl, T13, hroom, by omega, .inl live⟩
end Go.Proofs.YtipololccbdojaaGreatDoor
