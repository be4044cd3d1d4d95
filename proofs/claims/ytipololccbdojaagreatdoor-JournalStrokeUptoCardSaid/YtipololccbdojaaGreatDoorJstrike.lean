/-
  JournalStroke: the script, the bound, what the book keeps; the walk.
-/
import Derived.Test.YtipololccbdojaaGreatDoorJstroke
namespace Go.Proofs.YtipololccbdojaaGreatDoor
open Go Go.Sv
set_option linter.unusedVariables false
set_option maxRecDepth 4000

/-- an operation of the script -/
structure OV where
  k : Int
  A : Int
  B : Int
  l : BV
  m : LV
def OV.cells (o : OV) : List Value := [.int .i64 o.k, .int .i64 o.A, .int .i64 o.B, .slice o.l.p o.l.n o.l.c, .slice o.m.p o.m.n o.m.c]
theorem OV.cells_len (o : OV) : o.cells.length = 5 := rfl
structure OV.ok (w : World) (o : OV) : Prop where
  a : o.A ≤ 9223372036854775807
  l : o.l.ok w (Old w)
  ls : BV.small o.l
  m : o.m.ok w
structure ScV (w : World) (p : Option Addr) (n : Nat) (X : List OV) : Prop where
  len : X.length = n
  row : Rd w p n 5 (X.flatMap OV.cells)
  n : n ≤ 2 ^ 20
  ok : ∀ o ∈ X, o.ok w
theorem ScV.at {W w : World} {p : Option Addr} {n : Nat} {X : List OV} (h : ScV W p n X) (c : Ch (fun _ => False) W w) {i : Nat} {x : OV} (hi : X[i]? = some x) : ∃ k o, p = some ⟨k, o, none⟩ ∧ ∀ j v, x.cells[j]? = some v → w.cell? ⟨k, o + i * 5 + j, none⟩ = some v :=
  (h.row.ch c fun _ _ _ => id).at OV.cells_len hi (by decide)
theorem beyond_ok {w : World} {p : Option Addr} {n c : Nat} {X : List OV} {K : Value → World → Prop} (h : ScV w p n X)
    (hk : ∀ b, (b = false → ∀ o ∈ X, (wtR o.l.says : Int) ≤ most ∧ (wtL (saysL o.m.Y) : Int) ≤ most) → K (.bool b) w) : callP Tryz.prog 25 [.slice p n c] w K := by
  have hl := h.len
  have hn := h.n
  refine ok_longshorelaw20_beyond ?_
  unfold wp_longshorelaw20_beyond
  refine ⟨fun m t i w' => ∃ j : Nat, i = (j : Int) ∧ j ≤ n ∧ m = n - j ∧ w' = w ∧ 0 ≤ t ∧ t ≤ 2 ^ 41 ∧ (t ≤ most → ∀ o ∈ X.take j, (wtR o.l.says : Int) ≤ most ∧ (wtL (saysL o.m.Y) : Int) ≤ most), ⟨n, 0, rfl, by omega, rfl, rfl, by omega, by omega, fun _ => by simp⟩, ?_⟩
  rintro m t i w1 ⟨j, rfl, hj, rfl, rfl, ht0, ht1, ht⟩
  refine ⟨fun w2 => w2 = w1 ∧ j < n ∧ t ≤ most, ?_, Sif_cases (fun hlt => Sif_cases (fun hm => ?_) fun hm => ?_) fun hge => ?_⟩
  · rintro w2 ⟨rfl, hjn, hm⟩
    have hjl : j < X.length := by omega
    have hi := List.getElem?_eq_getElem hjl
    obtain ⟨k, o, rfl, hcell⟩ := h.at (Ch.refl _ _) hi
    have ho := h.ok _ (List.getElem_mem hjl)
    have hm' : t ≤ 2147483647 := hm
    refine ⟨by omega, by omega, ?_⟩
    simp only [nn_some, add_at, Int.toNat_natCast]
    refine ⟨_, _, _, hcell 3 _ rfl, ?_⟩
    rw [wrap_id (n := t + 13) (by omega) (by omega)]
    refine weigh_ok ho.l.rd (by have := ho.ls.1; omega) (fun z hz => by have := ho.ls.2 z hz; omega) (by omega) (by omega) fun v v0 v1 v2 => ⟨_, rfl, by omega, by omega, ?_⟩
    refine ⟨_, _, _, hcell 4 _ rfl, ?_⟩
    refine weighAll_ok ho.m.rd (by have := ho.m.n; omega) (fun y hy => ⟨by have := (ho.m.small y hy).1; omega, fun z hz => by have := (ho.m.small y hy).2 z hz; omega⟩) (by omega) (by omega) fun u u0 u1 u2 => ⟨_, rfl, ?_⟩
    rw [wrap_id (by omega) (by omega), nameI_iff]
    refine ⟨n - (j + 1), by omega, j + 1, by omega, by omega, rfl, by trivial, by omega, u1, fun hu => ?_⟩
    have hu' : u ≤ 2147483647 := hu
    have e1 := u2 hu
    have e2 := v2 (by show v ≤ 2147483647; omega)
    intro z hz
    rw [List.take_succ_eq_append_getElem hjl] at hz
    rcases List.mem_append.1 hz with hz | hz
    · exact ht hm z hz
    · rw [List.mem_singleton.1 hz]
      have e3 : wtR (saysR X[j].l.X) = wtR X[j].l.says := rfl
      constructor
      · show _ ≤ (2147483647 : Int); omega
      · show _ ≤ (2147483647 : Int); omega
  · have hlt' : (j : Int) < n := by simpa using hlt
    have hm' : t ≤ 2147483647 := by simpa using hm
    exact ⟨rfl, by omega, hm'⟩
  · have hm' : ¬ t ≤ 2147483647 := by simpa using hm
    refine hk _ fun hb => absurd ?_ hm'
    have : ¬ t > 2147483647 := by simpa using hb
    omega
  · have : ¬ (j : Int) < n := by simpa using hge
    rw [List.take_of_length_le (by omega)] at ht
    refine hk _ fun hb => ht ?_
    have : ¬ t > 2147483647 := by simpa using hb
    show t ≤ 2147483647
    omega
theorem Live.small {w : World} {d : Nat} {a : AD} {j : AJ} {B : Nat → Prop} {L : List Batch} (D : DK w d a B) (hr : a.room ≤ 16777216) (h : Live a j L) : (allB L).length ≤ 2 ^ 24 := by
  have h5 := h.log
  have hfits := D.wf.fits
  cases hf : a.file sLog with
  | none => rw [hf] at h5; rw [h5.1]; simp [allB]
  | some f =>
    rw [hf] at h5
    obtain ⟨_, t, h6, _⟩ := h5
    have h7 := dat_le_total (file_mem hf)
    have h8 := congrArg List.length h6
    rw [List.length_append] at h8
    omega

/-- the disk, the book, a journal -/
structure StJ (W w : World) (bb d jb : Nat) (a : AD) (j : AJ) (Bd Bv : Nat → Prop) (Now Then : List Batch) (two : Bool) : Prop where
  sb : SB W w bb d a Bd Bv Now Then two
  m : JM w jb d j
  jd : ¬ Bd jb
  nb : jb ≠ bb
  jv : ¬ Bv jb
  jn : W.heap.size ≤ jb
section
variable {W w w' : World} {bb d jb : Nat} {a a' : AD} {j j' : AJ} {Bd Bd' Bv Bv' : Nat → Prop} {Now Then : List Batch} {two : Bool}
theorem StJ.hold (h : StJ W w bb d jb a j Bd Bv Now Then two) : JD w jb d a j Bd := ⟨h.m, h.sb.dk, h.jd⟩
theorem StJ.ch0 (h : StJ W w bb d jb a j Bd Bv Now Then two) (c : Ch (fun _ => False) w w') : StJ W w' bb d jb a j Bd Bv Now Then two :=
  ⟨h.sb.ch0 c, (h.hold.ch0 c).m, h.jd, h.nb, h.jv, h.jn⟩
theorem StJ.disk (h : StJ W w bb d jb a j Bd Bv Now Then two) (D : DK w' d a' Bd') (c : Ch Bd w w') (n : ∀ b, Bd' b → Bd b ∨ w.heap.size ≤ b) : StJ W w' bb d jb a' j Bd' Bv Now Then two := by
  have H := h.hold.disk D c n
  exact ⟨h.sb.disk D c n, H.m, H.ap, h.nb, h.jv, h.jn⟩
theorem StJ.step (h : StJ W w bb d jb a j Bd Bv Now Then two) (H : JD w' jb d a' j' Bd') (c : Ch (fun b => Bd b ∨ b = jb) w w') (n : ∀ b, Bd' b → Bd b ∨ w.heap.size ≤ b) : StJ W w' bb d jb a' j' Bd' Bv Now Then two := by
  refine ⟨h.sb.step H.dk c n (fun b hb => ?_) (fun hb => ?_) fun b hb hs => ?_, H.m, H.ap, h.nb, h.jv, h.jn⟩
  · rcases hb with hb | rfl
    · exact h.sb.new b (.inl hb)
    · exact h.jn
  · rcases hb with hb | hb
    · exact h.sb.bbd hb
    · exact h.nb hb.symm
  · rcases hs with hs | rfl
    · exact (h.sb.view b hb).2 (.inl hs)
    · exact h.jv hb
theorem StJ.more (h : StJ W w bb d jb a j Bd Bv Now Then two) (c : Ch (fun _ => False) w w') (hm : ∀ b, Bv' b → Bv b ∨ (w.heap.size ≤ b ∧ b < w'.heap.size)) : StJ W w' bb d jb a j Bd (fun b => Bv b ∨ Bv' b) Now Then two := by
  have h0 := h.ch0 c
  obtain ⟨np, tp, nn, nc, tn, tc, lv, YN, YT, b1, v1, s1, v2, s2⟩ := h0.sb.book
  refine ⟨⟨h0.sb.dk, h0.sb.ch, h0.sb.new, h0.sb.bbd, fun b hb => .inl (h.sb.old b hb), fun b hb => ?_, np, tp, nn, nc, tn, tc, lv, YN, YT, b1, v1.mono fun _ => .inl, s1, v2.mono fun _ => .inl, s2⟩, h0.m, h.jd, h.nb, fun hj => ?_, h.jn⟩
  · rcases hb with hb | hb
    · exact h0.sb.view b hb
    · rcases hm b hb with hb | hb
      · exact h0.sb.view b hb
      · refine ⟨hb.2, fun hh => ?_⟩
        rcases hh with hh | rfl
        · have := h.sb.dk.lt b hh; omega
        · have := h.sb.blt; omega
  · rcases hj with hj | hj
    · exact h.jv hj
    · rcases hm jb hj with hj | hj
      · exact h.jv hj
      · have := h.hold.lt; omega
/-- the book takes a call's answer down -/
theorem bdone_ok {q : Option Addr} {t cq : Nat} {Z : List BV} {e : Int} {K : Value → World → Prop} (h : StJ W w bb d jb a j Bd Bv Now Then two) (hZ : VL w Bv q t Z) (he : e = 0 ∨ e = 3 ∨ e = 190 ∨ e = 200)
    (hk : ∀ w' Now' Then' two', StJ W w' bb d jb a j Bd Bv Now' Then' two' → Ch (· = bb) w w' → (e = 0 → Now' = saysL Z) → (e ≠ 0 → Now' = Now) → (e = 3 → Then' = saysL Z ∧ two' = true) → K (.bool true) w') :
    callP Tryz.prog 27 [.pointer (some ⟨bb, 0, none⟩), .int .i64 e, .slice q t cq] w K := by
  obtain ⟨np, tp, nn, nc, tn, tc, lv, YN, YT, b1, v1, s1, v2, s2⟩ := h.sb.book
  have hvb : ∀ b, Bv b → b ≠ bb := fun b hb e => (h.sb.view b hb).2 (.inr e)
  have key : ∀ w' (np' tp' : Option Addr) (nn' nc' tn' tc' : Nat) (two' : Bool) (YN' YT' : List BV), blk w' bb = some [.slice np' nn' nc', .slice tp' tn' tc', .bool two', .int .i64 lv] → Ch (· = bb) w w' → VL w Bv np' nn' YN' → VL w Bv tp' tn' YT' → StJ W w' bb d jb a j Bd Bv (saysL YN') (saysL YT') two' := fun w' np' tp' nn' nc' tn' tc' two' YN' YT' b c v1' v2' => by
    refine ⟨⟨h.sb.dk.ch c fun b hb e => h.sb.bbd (e ▸ hb), h.sb.ch.trans c fun x hx e => ?_, h.sb.new, h.sb.bbd, h.sb.old, fun b hb => ⟨?_, (h.sb.view b hb).2⟩, np', tp', nn', nc', tn', tc', lv, YN', YT', b, v1'.ch c hvb, rfl, v2'.ch c hvb, rfl⟩, (h.hold.ch c fun b hb e => ?_).m, h.jd, h.nb, h.jv, h.jn⟩
    · have := h.sb.new x (.inr e); omega
    · have := (h.sb.view b hb).1; have := c.size; omega
    · rcases hb with hb | hb
      · exact h.sb.bbd (e ▸ hb)
      · exact h.nb (hb.symm.trans e)
  refine ok_longshorelaw20_book_done ?_
  unfold wp_longshorelaw20_book_done
  refine ⟨fun w' => ∃ Now' Then' two', StJ W w' bb d jb a j Bd Bv Now' Then' two' ∧ Ch (· = bb) w w' ∧ (e = 0 → Now' = saysL Z) ∧ (e ≠ 0 → Now' = Now) ∧ (e = 3 → Then' = saysL Z ∧ two' = true), ?_, ?_⟩
  · rintro w' ⟨N', T', t', g1, g2, g3, g4, g5⟩
    exact hk w' N' T' t' g1 g2 g3 g4 g5
  rcases he with rfl | rfl | rfl | rfl
  · refine Sif_true ?_
    simp only [nn_some, add_at, Nat.zero_add, Nat.add_zero]
    refine st_blk b1 (by simp) fun w1 b2 c1 z1 => ?_
    exact ⟨_, _, _, key w1 q tp t cq tn tc two Z YT b2 c1 hZ v2, c1, fun _ => rfl, fun e => absurd rfl e, fun e => by cases e⟩
  · refine Sif_false (Sif_true ?_)
    simp only [nn_some, add_at, Nat.zero_add, Nat.add_zero]
    refine st_blk b1 (by simp) fun w1 b2 c1 z1 => ?_
    refine st_blk b2 (by simp) fun w2 b3 c2 z2 => ?_
    exact ⟨_, _, _, key w2 np q nn nc t cq true YN Z b3 (c1.trans' c2) v1 hZ, c1.trans' c2, fun e => absurd e (by decide), fun _ => s1, fun _ => ⟨rfl, rfl⟩⟩
  · refine Sif_false (Sif_false ⟨fun b w' => b = true ∧ w' = w, ?_, Sif_true ⟨rfl, rfl⟩⟩)
    rintro b w' ⟨rfl, rfl⟩
    exact Sif_true (hk w' Now Then two h (Ch.refl _ _) (fun e => by cases e) (fun _ => rfl) fun e => by cases e)
  · refine Sif_false (Sif_false ⟨fun b w' => b = true ∧ w' = w, ?_, Sif_false ⟨rfl, rfl⟩⟩)
    rintro b w' ⟨rfl, rfl⟩
    exact Sif_true (hk w' Now Then two h (Ch.refl _ _) (fun e => by cases e) (fun _ => rfl) fun e => by cases e)
end
end Go.Proofs.YtipololccbdojaaGreatDoor
