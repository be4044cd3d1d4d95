/-
  JournalStroke: the book, that the log is put up again; the walk.
-/
import Derived.Test.YtipololccbdojaaGreatDoorJweigh
import Derived.Test.YtipololccbdojaaGreatDoorJsmall
namespace Go.Proofs.YtipololccbdojaaGreatDoor
open Go Go.Sv
set_option linter.unusedVariables false
set_option maxRecDepth 4000

section
variable {w : World} {jb d : Nat} {a : AD} {j : AJ} {B : Nat → Prop}
/-- a journal that is down, or finds its disk so, does nothing -/
theorem add_down {p : Option Addr} {n c : Nat} {K : Value → World → Prop} (H : JD w jb d a j B) (hd : (j.look a).down = true) (hk : JPost w jb d a (j.look a) B (K (.int .i64 3))) :
    callP Tryz.prog 19 [.pointer (some ⟨jb, 0, none⟩), .slice p n c] w K := by
  refine ok_journal_Journal_Add ?_
  unfold wp_journal_Journal_Add
  exact isDown_ok H fun w1 B1 H1 c1 n1 => ⟨_, rfl, by rw [hd]; exact Sif_true (hk w1 B1 H1 c1 n1)⟩
theorem shorten_down {p : Option Addr} {n c : Nat} {K : Value → World → Prop} (H : JD w jb d a j B) (hd : (j.look a).down = true) (hk : JPost w jb d a (j.look a) B (K (.int .i64 3))) :
    callP Tryz.prog 28 [.pointer (some ⟨jb, 0, none⟩), .slice p n c] w K := by
  refine ok_journal_Journal_Shorten ?_
  unfold wp_journal_Journal_Shorten
  exact isDown_ok H fun w1 B1 H1 c1 n1 => ⟨_, rfl, by rw [hd]; exact Sif_true (hk w1 B1 H1 c1 n1)⟩
end
theorem Live.arm {a : AD} {j : AJ} {L : List Batch} (h : Live a j L) (x y : Int) : Live (a.arm x y) j L := by
  unfold AD.arm
  rw [if_neg (by rw [h.up]; simp)]
  exact ⟨h.nd, h.up, h.jup, h.new, h.good, h.size, h.log⟩
theorem logF_crash {a : AD} {L : List Batch} (h : LogF (a.file sLog) L) (k : Int) : LogF ((a.crash k).file sLog) L := by
  unfold AD.crash
  split
  · exact h
  · rw [file_fall]; exact h.cut k
theorem nd_crash {a : AD} (h : ND a) (k : Int) : ND (a.crash k) := by
  unfold AD.crash
  split
  · exact h
  · exact nd_fall k h
theorem crash_down (a : AD) (k : Int) : (a.crash k).down = true := by
  unfold AD.crash
  split
  · assumption
  · rfl
theorem cnt_crash (a : AD) (k : Int) : (a.crash k).cnt = a.cnt := by
  unfold AD.crash
  split
  · rfl
  · show (a.fs.map _).length = _
    rw [List.length_map]; rfl
theorem room_crash (a : AD) (k : Int) : (a.crash k).room = a.room := by
  unfold AD.crash
  split <;> rfl
theorem arm_rest (a : AD) (x y : Int) : (a.arm x y).room = a.room ∧ (a.arm x y).cnt = a.cnt ∧ (a.arm x y).fs = a.fs ∧ (a.arm x y).down = a.down := by
  unfold AD.arm
  split <;> exact ⟨rfl, rfl, rfl, rfl⟩

/-- the disk, the law's book, what is read -/
structure SB (W w : World) (bb d : Nat) (a : AD) (Bd Bv : Nat → Prop) (Now Then : List Batch) (two : Bool) : Prop where
  dk : DK w d a Bd
  ch : Ch (fun _ => False) W w
  new : ∀ b, Bd b ∨ b = bb → W.heap.size ≤ b
  bbd : ¬ Bd bb
  old : ∀ b, Old W b → Bv b
  view : ∀ b, Bv b → b < w.heap.size ∧ ¬ (Bd b ∨ b = bb)
  book : ∃ (np tp : Option Addr) (nn nc tn tc : Nat) (lv : Int) (YN YT : List BV), blk w bb = some [.slice np nn nc, .slice tp tn tc, .bool two, .int .i64 lv] ∧ VL w Bv np nn YN ∧ saysL YN = Now ∧ VL w Bv tp tn YT ∧ saysL YT = Then
section
variable {W w w' : World} {bb d : Nat} {a a' : AD} {Bd Bd' Bv : Nat → Prop} {Now Then : List Batch} {two : Bool}
/-- something beside the book has changed: the disk's blocks, others' -/
theorem SB.step {S : Nat → Prop} (h : SB W w bb d a Bd Bv Now Then two) (D : DK w' d a' Bd') (c : Ch S w w') (n : ∀ b, Bd' b → Bd b ∨ w.heap.size ≤ b) (hW : ∀ b, S b → W.heap.size ≤ b) (hb : ¬ S bb) (hv : ∀ b, Bv b → ¬ S b) : SB W w' bb d a' Bd' Bv Now Then two := by
  obtain ⟨np, tp, nn, nc, tn, tc, lv, YN, YT, b1, v1, s1, v2, s2⟩ := h.book
  have hz := h.ch.size
  have hbl := blk_lt b1
  refine ⟨D, h.ch.trans c fun x hx hs => by have := hW x hs; omega, fun b hb => ?_, fun hbb => ?_, h.old, fun b hb => ⟨by have := (h.view b hb).1; have := c.size; omega, fun hh => ?_⟩, np, tp, nn, nc, tn, tc, lv, YN, YT, by rw [c.blk hbl hb]; exact b1, v1.ch c hv, s1, v2.ch c hv, s2⟩
  · rcases hb with hb | hb
    · rcases n b hb with hb | hb
      · exact h.new b (.inl hb)
      · omega
    · exact h.new b (.inr hb)
  · rcases n bb hbb with e | e
    · exact h.bbd e
    · omega
  · have hvb := h.view b hb
    rcases hh with hh | hh
    · rcases n b hh with e | e
      · exact hvb.2 (.inl e)
      · omega
    · exact hvb.2 (.inr hh)
theorem SB.disk (h : SB W w bb d a Bd Bv Now Then two) (D : DK w' d a' Bd') (c : Ch Bd w w') (n : ∀ b, Bd' b → Bd b ∨ w.heap.size ≤ b) : SB W w' bb d a' Bd' Bv Now Then two :=
  h.step D c n (fun b hb => h.new b (.inl hb)) h.bbd fun b hb hs => (h.view b hb).2 (.inl hs)
theorem SB.ch0 (h : SB W w bb d a Bd Bv Now Then two) (c : Ch (fun _ => False) w w') : SB W w' bb d a Bd Bv Now Then two :=
  h.step (h.dk.ch c fun _ _ => id) c (fun b => .inl) (fun _ h => h.elim) id fun _ _ => id
theorem SB.blt (h : SB W w bb d a Bd Bv Now Then two) : bb < w.heap.size := by
  obtain ⟨np, tp, nn, nc, tn, tc, lv, YN, YT, b1, _⟩ := h.book
  exact blk_lt b1
end
set_option maxHeartbeats 2000000 in
theorem bookUp_ok {W w : World} {bb d : Nat} {a : AD} {Bd Bv : Nat → Prop} {Now Then : List Batch} {two : Bool} {L : List Batch} {N : Nat} {aB aS : Addr} {K : Value → World → Prop} (E : ErrsA W aB aS) (S : SB W w bb d a Bd Bv Now Then two) (nd : ND a) (hL : LogF (a.file sLog) L) (hLN : L = Now ∨ (two = true ∧ L = Then))
    (hcnt : a.cnt ≤ N) (hN : N ≤ 2 ^ 39) (hroom : a.room ≤ 16777216)
    (hk : ∀ w' jb a' j' Bd' Th, SB W w' bb d a' Bd' Bv L Th false → JM w' jb d j' → w.heap.size ≤ jb → ¬ Bd' jb → Live a' j' L → a'.room = a.room → a'.cnt ≤ N + 12 → Ch (fun b => Bd b ∨ b = bb) w w' → (∀ b, Bd' b → Bd b ∨ w.heap.size ≤ b) → K (.pointer (some ⟨jb, 0, none⟩)) w') :
    callP Tryz.prog 26 [.pointer (some ⟨bb, 0, none⟩), .pointer (some ⟨d, 0, none⟩)] w K := by
  have hbbl := S.blt
  refine ok_longshorelaw20_book_up ?_
  unfold wp_longshorelaw20_book_up
  refine ⟨fun m i w1 => ∃ (k : Nat) (a1 : AD) (B1 : Nat → Prop), i = (k : Int) ∧ k ≤ 3 ∧ m = 20 - k ∧ SB W w1 bb d a1 B1 Bv Now Then two ∧ ND a1 ∧ LogF (a1.file sLog) L ∧ a1.room = a.room ∧ a1.cnt ≤ N + 3 * k ∧ Ch (fun b => Bd b ∨ b = bb) w w1 ∧ (∀ b, B1 b → Bd b ∨ w.heap.size ≤ b),
    ⟨20, 0, a, Bd, rfl, by omega, rfl, S, nd, hL, rfl, by omega, Ch.refl _ _, fun b => .inl⟩, ?_⟩
  rintro m i w1 ⟨k, a1, B1, rfl, hk3, rfl, S1, nd1, hL1, hr1, hc1, c1, n1⟩
  refine Sif_cases (fun _ => ?_) fun h => ?_
  rotate_left
  · have : ¬ (k : Int) < 20 := by simpa using h
    omega
  -- one more try
  refine ⟨fun w2 => k ≤ 2 ∧ ∃ (a2 : AD) (B2 : Nat → Prop), SB W w2 bb d a2 B2 Bv Now Then two ∧ ND a2 ∧ LogF (a2.file sLog) L ∧ a2.room = a.room ∧ a2.cnt ≤ N + 3 * (k + 1) ∧ Ch (fun b => Bd b ∨ b = bb) w w2 ∧ (∀ b, B2 b → Bd b ∨ w.heap.size ≤ b), ?_, ?_⟩
  · rintro w2 ⟨hk2, a2, B2, S2, nd2, hL2, hr2, hc2, c2, n2⟩
    rw [wrap_id (by omega) (by omega), nameI_iff]
    exact ⟨20 - (k + 1), by omega, k + 1, a2, B2, by omega, by omega, rfl, S2, nd2, hL2, hr2, hc2, c2, n2⟩
  have chain : ∀ {w2 w3 : World} {B2 B3 : Nat → Prop}, Ch (fun b => Bd b ∨ b = bb) w w2 → (∀ b, B2 b → Bd b ∨ w.heap.size ≤ b) → Ch B2 w2 w3 → (∀ b, B3 b → B2 b ∨ w2.heap.size ≤ b) → Ch (fun b => Bd b ∨ b = bb) w w3 ∧ ∀ b, B3 b → Bd b ∨ w.heap.size ≤ b := fun {w2 w3 B2 B3} q1 q2 q3 q4 => by
    refine ⟨q1.trans q3 fun x hx h => ?_, fun b hb => ?_⟩
    · rcases q2 x h with h | h
      · exact .inl h
      · omega
    · rcases q4 b hb with h | h
      · exact q2 b h
      · have := q1.size; exact .inr (by omega)
  refine start_ok S1.dk fun w2 B2 D2 c2 n2 => ⟨rfl, ?_⟩
  have S2 : SB W w2 bb d { a1 with down := false } B2 Bv Now Then two := S1.disk D2 c2 n2
  obtain ⟨c02, n02⟩ := chain c1 n1 c2 n2
  refine ⟨fun w3 => ∃ (a3 : AD) (B3 : Nat → Prop), SB W w3 bb d a3 B3 Bv Now Then two ∧ a3.down = false ∧ a3.fs = a1.fs ∧ a3.room = a1.room ∧ (k = 3 → a3.acts = -1) ∧ Ch (fun b => Bd b ∨ b = bb) w w3 ∧ (∀ b, B3 b → Bd b ∨ w.heap.size ≤ b), ?_, ?_⟩
  rotate_left
  · refine Sif_cases (fun h => ?_) fun h => ?_
    · refine arm_ok S2.dk (by decide) fun w3 B3 D3 c3 n3 => ⟨rfl, ?_⟩
      obtain ⟨c03, n03⟩ := chain c02 n02 c3 n3
      exact ⟨_, B3, S2.disk D3 c3 n3, rfl, rfl, rfl, fun _ => rfl, c03, n03⟩
    · have : ¬ (k : Int) > 2 := by simpa using h
      exact ⟨_, B2, S2, rfl, rfl, rfl, fun e => by omega, c02, n02⟩
  rintro w3 ⟨a3, B3, S3, hup3, hfs3, hr3, hac3, c03, n03⟩
  have hfile3 : ∀ n, a3.file n = a1.file n := fun n => by unfold AD.file; rw [hfs3]
  have nd3 : ND a3 := by unfold ND; rw [hfs3]; exact nd1
  have hcn3 : a3.cnt = a1.cnt := by unfold AD.cnt; rw [hfs3]
  have nds := nd_sorted nd3
  have hLs : LogF (a3.sorted.file sLog) L := by rw [file_sorted nd3, hfile3]; exact hL1
  have hcs : a3.sorted.cnt = a1.cnt := by rw [cnt_sorted, hcn3]
  have hco := cnt_open a3.sorted
  have hEw : ∀ w', Ch B3 w3 w' → ErrsA w' aB aS := fun w' c => E.ch (S3.ch.trans c fun x hx h => by have := S3.new x (.inl h); omega)
  have hopen := open_up nds hup3 hLs
  refine jopen_ok S3.dk.sort hEw (ltS_sorted _) (by have : a3.sorted.fs.length = a3.sorted.cnt := rfl; omega) (fun w4 B4 D4 c4 n4 hn => ⟨_, _, _, _, _, rfl, ?_⟩) fun w4 B4 jb jj LL q m cq own R hj H4 c4 n4 njb hrow hsay hfr => ⟨_, _, _, _, _, rfl, ?_⟩
  · rcases hopen with ⟨a', h1, h2, h3⟩ | ⟨a', j', h1, h2, h3, h4⟩
    · rw [h1] at D4 hco ⊢
      obtain ⟨c04, n04⟩ := chain c03 n03 c4 n4
      refine ⟨fun w5 => w5 = w4, ?_, Sif_false rfl⟩
      rintro w5 rfl
      refine Sif_false ⟨?_, a', B4, S3.disk D4 c4 n4, h2.nd, h3, by rw [h2.room]; show a3.room = _; rw [hr3, hr1], ?_, c04, n04⟩
      · rcases Nat.lt_or_ge 2 k with h | h
        · exact absurd (hac3 (by omega)) h2.armed
        · exact h
      · have hco : a'.cnt ≤ a3.sorted.cnt + 3 := hco
        omega
    · rw [h1] at hn; cases hn
  · rcases hopen with ⟨a', h1, h2, h3⟩ | ⟨a', j', h1, h2, h3, h4⟩
    · rw [h1] at hj; cases hj
    · rw [h1] at hj H4 hco
      have hj2 : j' = jj ∧ L = LL := by simpa using hj
      obtain ⟨rfl, rfl⟩ := hj2
      obtain ⟨c04, n04⟩ := chain c03 n03 c4 n4
      have S4 : SB W w4 bb d a' B4 Bv Now Then two := S3.disk H4.dk c4 n4
      have hlive := h3.good
      have hfits := H4.dk.wf.fits
      have hrm : a'.room = a.room := by rw [h2.room]; show a3.room = _; rw [hr3, hr1]
      have hallL : (allB L).length ≤ 2 ^ 24 := by
        have h5 := h3.log
        cases hf : a'.file sLog with
        | none => rw [hf] at h5; rw [h5.1]; simp [allB]
        | some f =>
          rw [hf] at h5
          obtain ⟨_, t, h6, _⟩ := h5
          have h7 := dat_le_total (file_mem hf)
          have h8 := congrArg List.length h6
          rw [List.length_append] at h8
          have h9 : (total a'.fs : Int) ≤ a'.room := hfits
          omega
      have SM : Small (2 ^ 24) R := small_of hrow (by rw [hsay]; exact hlive) (by rw [hsay]; exact hallL)
      have hmn := SM.n
      have hml : R.length = m := hrow.1
      obtain ⟨np, tp, nn, nc, tn, tc, lv, YN, YT, b1, v1, s1, v2, s2⟩ := S4.book
      refine ⟨fun _ => False, fun _ h => h.elim, Sif_true (Sif_true ?_)⟩
      simp only [nn_some, add_at, Nat.zero_add]
      refine ⟨_, _, _, by rw [cell_blk b1]; rfl, ?_⟩
      refine same_ok (BtE.Row.view hrow) v1 (by omega) (fun y hy => by have := view_small SM y hy; omega) fun w5 c5 => ⟨_, rfl, ?_⟩
      rw [view_says, hsay, s1]
      have S5 := S4.ch0 c5
      have b5 : blk w5 bb = some [.slice np nn nc, .slice tp tn tc, .bool two, .int .i64 lv] := by rw [c5.blk (blk_lt b1) id]; exact b1
      have jm5 : JM w5 jb d j' := by unfold JM; rw [c5.blk (blk_lt H4.m) id]; exact H4.m
      have hz3 := c03.size
      have hz4 := c04.size
      have hjbb : jb ≠ bb := by omega
      -- the end: the book is set right
      have fin : ∀ w7 (np' : Option Addr) (nn' nc' : Nat) YN', Ch (fun b => b = bb) w5 w7 → blk w7 bb = some [.slice np' nn' nc', .slice tp tn tc, .bool two, .int .i64 lv] → VL w5 Bv np' nn' YN' → saysL YN' = L →
          st w7 ⟨bb, 2, none⟩ (.bool false) fun w9 => ∃ n4 : Int, w9.cell? ⟨bb, 3, none⟩ = some (.int .i64 n4) ∧ st w9 ⟨bb, 3, none⟩ (.int .i64 (IntKind.wrap .i64 (n4 + 1))) fun w10 => K (.pointer (some ⟨jb, 0, none⟩)) w10 := fun w7 np' nn' nc' YN' c7 b7 v7 s7 => by
        refine st_blk b7 (by simp) fun w9 b9 c9 z9 => ⟨lv, by rw [cell_blk b9]; rfl, ?_⟩
        refine st_blk b9 (by simp) fun w10 b10 c10 z10 => ?_
        have C : Ch (fun b => b = bb) w5 w10 := (c7.trans' c9).trans' c10
        have S5' := S5
        have hvb : ∀ b, Bv b → b ≠ bb := fun b hb e => (S5.view b hb).2 (.inr e)
        obtain ⟨_, _, _, _, _, _, _, _, _, _, _, _, v2', s2'⟩ := S5.book
        have v25 : VL w5 Bv tp tn YT := v2.ch0 c5
        refine hk w10 jb a' j' B4 Then ⟨S5.dk.ch C fun b hb e => S5.bbd (e ▸ hb), S5.ch.trans C fun x hx e => by have := S5.new x (.inr e); omega, S5.new, S5.bbd, S5.old, fun b hb => ⟨by have := (S5.view b hb).1; have := C.size; omega, (S5.view b hb).2⟩, np', tp, nn', nc', tn, tc, _, YN', YT, b10, v7.ch C hvb, s7, v25.ch C hvb, s2⟩ ?_ (by omega) H4.ap h3 hrm ?_ ?_ n04
        · unfold JM; rw [C.blk (blk_lt jm5) hjbb]; exact jm5
        · have hco : a'.cnt ≤ a3.sorted.cnt + 3 := hco
          omega
        · exact (c04.new c5).trans C fun x hx e => .inr e
      have hYN5 : VL w5 Bv np nn YN := v1.ch0 c5
      have hYT5 : VL w5 Bv tp tn YT := v2.ch0 c5
      by_cases hNL : L = Now
      · rw [decide_eq_true hNL]
        refine ⟨fun b2 w6 => Ch (fun _ => False) w5 w6, ?_, _, by rw [cell_blk b5]; rfl, ?_⟩
        · rintro b2 w6 c6
          refine ⟨fun w7 => w7 = w6, ?_, Sif_false rfl⟩
          rintro w7 rfl
          have b7 : blk w7 bb = some [.slice np nn nc, .slice tp tn tc, .bool two, .int .i64 lv] := by rw [c6.blk (blk_lt b5) id]; exact b5
          refine ⟨fun w8 => w8 = w7, ?_, Sif_false rfl⟩
          rintro w8 rfl
          exact fin w8 np nn nc YN (c6.mono fun _ _ h => h.elim) b7 hYN5 (by rw [s1, hNL])
        · refine Sif_cases (fun h => ?_) fun h => Ch.refl _ _
          refine ⟨_, _, _, by rw [cell_blk b5]; rfl, ?_⟩
          exact same_ok ((BtE.Row.view hrow).ch0 c5) hYT5 (by omega) (fun y hy => by have := view_small SM y hy; omega) fun w6 c6 => ⟨_, rfl, c6⟩
      · obtain ⟨htwo, hLT⟩ := hLN.resolve_left hNL
        rw [decide_eq_false hNL]
        refine ⟨fun b2 w6 => b2 = true ∧ Ch (fun _ => False) w5 w6, ?_, _, by rw [cell_blk b5]; rfl, ?_⟩
        · rintro b2 w6 ⟨rfl, c6⟩
          refine ⟨fun w7 => w7 = w6, ?_, Sif_true (Sif_false rfl)⟩
          rintro w7 rfl
          have b7 : blk w7 bb = some [.slice np nn nc, .slice tp tn tc, .bool two, .int .i64 lv] := by rw [c6.blk (blk_lt b5) id]; exact b5
          refine ⟨fun w8 => blk w8 bb = some [.slice tp tn tc, .slice tp tn tc, .bool two, .int .i64 lv] ∧ Ch (fun b => b = bb) w5 w8, ?_, Sif_true ?_⟩
          · rintro w8 ⟨b8, c8⟩
            exact fin w8 tp tn tc YT c8 b8 hYT5 (by rw [s2, hLT])
          · refine ⟨_, _, _, by rw [cell_blk b7]; rfl, ?_⟩
            exact st_blk b7 (by simp) fun w8 b8 c8 z8 => ⟨b8, (c6.mono fun _ _ h => h.elim).trans' c8⟩
        · rw [htwo]
          refine Sif_true ⟨_, _, _, by rw [cell_blk b5]; rfl, ?_⟩
          refine same_ok ((BtE.Row.view hrow).ch0 c5) hYT5 (by omega) (fun y hy => by have := view_small SM y hy; omega) fun w6 c6 => ⟨_, rfl, ?_⟩
          rw [view_says, hsay, s2, decide_eq_true hLT]
          exact ⟨rfl, c6⟩
end Go.Proofs.YtipololccbdojaaGreatDoor
