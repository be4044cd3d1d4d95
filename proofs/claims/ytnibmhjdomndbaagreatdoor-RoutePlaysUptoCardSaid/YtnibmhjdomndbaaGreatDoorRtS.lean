/-
  Sort, Compact at rows of texts; the program's Match.
-/
import Derived.Test.YtnibmhjdomndbaaGreatDoorRtN
import Derived.Test.YtnibmhjdomndbaaGreatDoorRtQ
import Derived.Test.YtnibmhjdomndbaaGreatDoorRtH
import Derived.Test.YtnibmhjdomndbaaGreatDoorRtR
import Derived.Test.YtnibmhjdomndbaaGreatDoorShelf2
namespace Go.Proofs.YtnibmhjdomndbaaGreatDoor
open Go Go.Sv Go.Rt
set_option linter.unusedVariables false
/-- texts of bytes, as lists -/
def dl (s : ByteArray) : List UInt8 := s.data.toList
def bl (l : List UInt8) : ByteArray := ⟨l.toArray⟩
theorem bl_dl (s : ByteArray) : bl (dl s) = s := by simp [bl, dl]
theorem dl_bl (l : List UInt8) : dl (bl l) = l := by simp [bl, dl]
theorem dl_inj {a b : ByteArray} (h : dl a = dl b) : a = b := data_ext h
/-- rising, each once -/
def Asc (L : List ByteArray) : Prop := L.Pairwise fun x y => dl x < dl y
theorem Asc.eq {L M : List ByteArray} (hL : Asc L) (hM : Asc M) (h : ∀ x, x ∈ L ↔ x ∈ M) : L = M := by
  induction L generalizing M with
  | nil =>
    cases M with
    | nil => rfl
    | cons y M => exact absurd ((h y).2 (by simp)) (by simp)
  | cons x L ih =>
    cases M with
    | nil => exact absurd ((h x).1 (by simp)) (by simp)
    | cons y M =>
      obtain ⟨hx, hL'⟩ := List.pairwise_cons.1 hL
      obtain ⟨hy, hM'⟩ := List.pairwise_cons.1 hM
      have e : x = y := by
        rcases List.mem_cons.1 ((h x).1 (by simp)) with e | e
        · exact e
        · rcases List.mem_cons.1 ((h y).2 (by simp)) with e2 | e2
          · exact e2.symm
          · exact absurd (List.lt_trans (hy x e) (hx y e2)) (List.lt_irrefl _)
      subst e
      congr 1
      refine ih hL' hM' fun z => ?_
      constructor
      · intro hz
        rcases List.mem_cons.1 ((h z).1 (by simp [hz])) with e | e
        · rw [e] at hz; exact absurd (hx x hz) (List.lt_irrefl _)
        · exact e
      · intro hz
        rcases List.mem_cons.1 ((h z).2 (by simp [hz])) with e | e
        · rw [e] at hz; exact absurd (hy x hz) (List.lt_irrefl _)
        · exact e
theorem flat_map (M : List ByteArray) : M.flatMap sCell = M.map Value.string := by
  induction M with
  | nil => rfl
  | cons x M ih => simp [sCell, ih]
theorem flat_enc (l : List (List UInt8)) : (l.map bl).flatMap sCell = l.map Go.Proofs.encStr := by
  rw [flat_map, List.map_map]; rfl
theorem grow_ch {w : World} (os : Array Obj) : Ch (fun _ => False) w (Go.Sort.grow w os) :=
  ⟨rfl, rfl, rfl, by simp [Go.Sort.grow], fun b hb _ => by simp only [Go.Sort.grow]; rw [Array.getElem?_append_left hb]⟩
theorem ahead_ch {w : World} (n : Nat) : Ch (fun _ => False) w (Go.Sort.ahead w n) := ⟨rfl, rfl, rfl, Nat.le_refl _, fun _ _ _ => rfl⟩
def srt (L : List ByteArray) : List ByteArray := ((L.map dl).mergeSort fun x y => decide (x ≤ y)).map bl
theorem srt_nil : srt [] = [] := by simp [srt]
theorem srt_len (L : List ByteArray) : (srt L).length = L.length := by simp [srt]
theorem srt_mem (L : List ByteArray) (x : ByteArray) : x ∈ srt L ↔ x ∈ L := by
  unfold srt
  rw [List.mem_map]
  constructor
  · rintro ⟨l, hl, rfl⟩
    obtain ⟨y, hy, rfl⟩ := List.mem_map.1 ((List.mergeSort_perm ..).mem_iff.1 hl)
    rw [bl_dl]; exact hy
  · intro h
    exact ⟨dl x, (List.mergeSort_perm ..).mem_iff.2 (List.mem_map.2 ⟨x, h, rfl⟩), bl_dl x⟩
theorem srt_sorted (L : List ByteArray) : (srt L).Pairwise fun x y => dl x ≤ dl y := by
  unfold srt
  rw [List.pairwise_map]
  have := List.pairwise_mergeSort (le := fun x y : List UInt8 => decide (x ≤ y)) (fun a b c h1 h2 => by simp at h1 h2 ⊢; exact List.le_trans h1 h2) (fun a b => by simp; exact List.le_total a b) (L.map dl)
  exact this.imp fun h => by rw [dl_bl, dl_bl]; simpa using h
theorem holds_of {w : World} {k o c : Nat} {L : List ByteArray} {cs : List Value} (hb : blk w k = some cs) (hl : o + L.length ≤ cs.length) (ht : (cs.drop o).take L.length = L.flatMap sCell) : Go.Sort.Holds Go.Proofs.encStr w k o (L.map dl).toArray := by
  intro j hj
  have hj' : j < L.length := by simpa using hj
  refine ⟨?_, frozen_blk hb (by omega)⟩
  have h1 : (L.flatMap sCell)[j]? = some (.string L[j]) := by rw [flat_map, List.getElem?_map, List.getElem?_eq_getElem hj']; rfl
  rw [← ht, List.getElem?_take, if_pos hj', List.getElem?_drop] at h1
  rw [cell_blk hb, h1, getElem!_pos _ j hj]
  simp [Go.Proofs.encStr, dl]
theorem sort_ok {w : World} {p : Option Addr} {c : Nat} {b : Option Nat} {L : List ByteArray} {K : Value → World → Prop} (hO : Ow w p L.length c 1 (L.flatMap sCell) b) (hL : L.length ≤ 2 ^ 40)
    (hk : ∀ w', Ow w' p L.length c 1 ((srt L).flatMap sCell) b → Ch (fun k => b = some k) w w' → K (.tuple #[]) w') : callP Tryz.prog 36 [.slice p L.length c] w K := by
  by_cases h0 : L.length = 0
  · have : L = [] := List.eq_nil_of_length_eq_zero h0
    subst this
    exact Calls.mono (Tryz.slices_Sort_string_none p c w) fun e w' ⟨he, hw⟩ => ⟨_, he, hw ▸ hk _ (srt_nil.symm ▸ hO) (Ch.refl _ _)⟩
  obtain ⟨h1, h2, h3⟩ := hO
  rcases h3 with ⟨_, h3⟩ | ⟨k, o, cs, rfl, rfl, hbk, hl, ht⟩
  · omega
  have g := Tryz.slices_Sort_string k o c (L.map dl) w (holds_of (c := c) hbk (by omega) (by simpa using ht)) (blk_lt hbk) (by simp; omega)
  rw [List.length_map] at g
  refine Calls.mono g fun e w' ⟨he, n, os, hw⟩ => ⟨_, he, ?_⟩
  have hb2 : blk (Go.Sort.ahead w n) k = some cs := hbk
  obtain ⟨cs', g1, g2, g3, g4⟩ := putRow_blk (enc := Go.Proofs.encStr) (off := o) (d := ((L.map dl).mergeSort fun x y => decide (x ≤ y)).toArray) hb2 (by simp; omega)
  have g5 := grow_ch (w := Go.Sort.putRow Go.Proofs.encStr (Go.Sort.ahead w n) k o ((L.map dl).mergeSort fun x y => decide (x ≤ y)).toArray) os
  rw [← hw] at g5
  refine hk w' ⟨by rw [flat_len sCell_len, srt_len], h2, .inr ⟨k, o, cs', rfl, rfl, by rw [g5.blk (blk_lt g1) id]; exact g1, by omega, ?_⟩⟩ (((ahead_ch n).mono fun _ _ h => h.elim).trans' ((g4.mono fun x _ h => by rw [h]).trans' (g5.mono fun _ _ h => h.elim)))
  have e1 : (srt L).flatMap sCell = ((L.map dl).mergeSort fun x y => decide (x ≤ y)).map Go.Proofs.encStr := flat_enc _
  rw [e1]
  have e2 : ((L.map dl).mergeSort fun x y => decide (x ≤ y)).toArray.size = L.length := by simp
  rw [e2] at g3
  simpa using g3
theorem compact_asc {zs : List (List UInt8)} (hs : zs.Pairwise (· ≤ ·)) : ∀ m, m ≤ zs.length → (Go.Lib.compactUpTo zs.toArray m).Pairwise (· < ·) ∧ ∀ x, x ∈ Go.Lib.compactUpTo zs.toArray m ↔ x ∈ zs.take m := by
  intro m
  induction m with
  | zero => intro _; simp [Go.Lib.compactUpTo]
  | succ m ih =>
    intro hm
    obtain ⟨i1, i2⟩ := ih (by omega)
    have hget : zs.toArray[m]! = zs[m] := by rw [getElem!_pos _ m (by simp; omega)]; simp
    have htk : zs.take (m + 1) = zs.take m ++ [zs[m]] := by rw [List.take_add_one, List.getElem?_eq_getElem (by omega)]; rfl
    rw [Go.Lib.compactUpTo_succ, hget, htk]
    have hle : ∀ j (hj : j < m), zs[j] ≤ zs[m] := fun j hj => List.pairwise_iff_getElem.1 hs j m (by omega) (by omega) hj
    by_cases hk : Go.Lib.keeps zs.toArray m = true
    · rw [if_pos hk]
      refine ⟨List.pairwise_append.2 ⟨i1, by simp, fun x hx y hy => ?_⟩, fun x => by rw [List.mem_append, List.mem_append, i2 x, List.mem_singleton]⟩
      rw [List.mem_singleton.1 hy]
      have hx := (i2 x).1 hx
      obtain ⟨j, hj, rfl⟩ := List.mem_iff_getElem.1 hx
      have hjm : j < m := by simp at hj; omega
      rw [List.getElem_take]
      have h1 : zs[m - 1]'(by omega) ≠ zs[m] := by
        simp only [Go.Lib.keeps, decide_eq_true_eq] at hk
        rcases hk with hk | hk
        · omega
        · rw [hget, getElem!_pos _ (m - 1) (by simp; omega)] at hk
          simp only [List.getElem_toArray] at hk
          exact fun e => hk e.symm
      have h2 : zs[m - 1]'(by omega) ≤ zs[m] := hle _ (by omega)
      have h3 : zs[j] ≤ zs[m - 1]'(by omega) := by
        by_cases hj1 : j = m - 1
        · subst hj1; exact List.le_refl _
        · exact List.pairwise_iff_getElem.1 hs j (m - 1) (by omega) (by omega) (by omega)
      have h4 : zs[m - 1]'(by omega) < zs[m] := by
        rcases Std.lt_trichotomy (zs[m - 1]'(by omega)) zs[m] with h | h | h
        · exact h
        · exact absurd h h1
        · exact absurd h2 (List.not_le.2 h)
      rcases Std.lt_trichotomy zs[j] zs[m] with h | h | h
      · exact h
      · rw [h] at h3
        exact absurd h3 (List.not_le.2 h4)
      · exact absurd (hle j hjm) (List.not_le.2 h)
    · rw [if_neg hk, List.append_nil]
      refine ⟨i1, fun x => ?_⟩
      rw [i2 x, List.mem_append, List.mem_singleton]
      constructor
      · exact .inl
      · rintro (h | rfl)
        · exact h
        · simp only [Go.Lib.keeps, decide_eq_true_eq, not_or, Decidable.not_not] at hk
          obtain ⟨h0, h1⟩ := hk
          rw [hget, getElem!_pos _ (m - 1) (by simp; omega)] at h1
          simp only [List.getElem_toArray] at h1
          rw [h1]
          exact List.mem_iff_getElem.2 ⟨m - 1, by simp; omega, by simp⟩
theorem setCells_ch {w : World} {k o : Nat} {vs cs : List Value} (hb : blk w k = some cs) (hl : o + vs.length ≤ cs.length) : Ch (· = k) w (w.setCells k o vs) := (setCells_blk vs hb hl).2.1
/-- sorted, each once -/
def uniq (L : List ByteArray) : List ByteArray := (Go.Lib.compact ((srt L).map dl)).map bl
theorem uniq_asc (L : List ByteArray) : Asc (uniq L) ∧ ∀ x, x ∈ uniq L ↔ x ∈ L := by
  obtain ⟨h1, h2⟩ := compact_asc (zs := (srt L).map dl) (by rw [List.pairwise_map]; exact srt_sorted L) _ (Nat.le_refl _)
  refine ⟨by
    unfold uniq Asc Go.Lib.compact
    rw [List.pairwise_map]
    exact h1.imp fun h => by rw [dl_bl, dl_bl]; exact h, fun x => ?_⟩
  unfold uniq Go.Lib.compact
  rw [List.mem_map, ← srt_mem L x]
  constructor
  · rintro ⟨l, hl, rfl⟩
    have := (h2 l).1 hl
    rw [List.take_length] at this
    obtain ⟨y, hy, rfl⟩ := List.mem_map.1 this
    rw [bl_dl]; exact hy
  · intro h
    exact ⟨dl x, (h2 _).2 (by rw [List.take_length]; exact List.mem_map.2 ⟨x, h, rfl⟩), bl_dl x⟩
theorem uniq_len (L : List ByteArray) : (uniq L).length ≤ L.length := by
  unfold uniq
  rw [List.length_map]
  refine Nat.le_trans (Go.Lib.compact_length_le _) (by rw [List.length_map, srt_len]; exact Nat.le_refl _)
theorem compact_ok {w : World} {p : Option Addr} {c : Nat} {b : Option Nat} {L : List ByteArray} {K : Value → World → Prop} (hO : Ow w p L.length c 1 ((srt L).flatMap sCell) b) (hL : L.length ≤ 2 ^ 40)
    (hk : ∀ w', Ow w' p (uniq L).length c 1 ((uniq L).flatMap sCell) b → Ch (fun k => b = some k) w w' → K (.slice p (uniq L).length c) w') : callP Tryz.prog 37 [.slice p L.length c] w K := by
  by_cases h0 : L.length = 0
  · have : L = [] := List.eq_nil_of_length_eq_zero h0
    subst this
    have e0 : uniq [] = [] := by simp [srt, uniq, Go.Lib.compact, Go.Lib.compactUpTo]
    rw [e0] at hk
    have e1 : srt [] = [] := by simp [srt]
    rw [e1] at hO
    exact Calls.mono (Tryz.slices_Compact_string_empty p c w) fun e w' ⟨he, hw⟩ => ⟨_, he, hw ▸ hk _ hO (Ch.refl _ _)⟩
  obtain ⟨h1, h2, h3⟩ := hO
  rcases h3 with ⟨_, h3⟩ | ⟨k, o, cs, rfl, rfl, hbk, hl, ht⟩
  · omega
  have hcell : ∀ i (hi : i < L.length), w.cell? ⟨k, o + i, none⟩ = some (.string ((srt L)[i]'(by rw [srt_len]; exact hi))) := fun i hi => by
    have g : ((srt L).flatMap sCell)[i]? = some (.string ((srt L)[i]'(by rw [srt_len]; exact hi))) := by rw [flat_map, List.getElem?_map, List.getElem?_eq_getElem (by rw [srt_len]; exact hi)]; rfl
    rw [← ht, List.getElem?_take, if_pos (by omega), List.getElem?_drop] at g
    rw [cell_blk hbk, g]
  have g := Tryz.slices_Compact_string_cells k o L.length c (fun i => ((srt L)[i]?).getD ⟨#[]⟩) w (by omega) h2 (fun i hi => by
    rw [hcell i hi, List.getElem?_eq_getElem (by rw [srt_len]; exact hi)]; rfl) fun j hj => frozen_blk hbk (by omega)
  have hstr : Go.Lib.strsOf (fun i => ((srt L)[i]?).getD ⟨#[]⟩) L.length = (srt L).map dl := by
    unfold Go.Lib.strsOf
    apply List.ext_getElem
    · simp [srt_len]
    · intro i h1 h2
      have : i < (srt L).length := by simpa using h2
      simp [List.getElem?_eq_getElem this, dl]
  rw [hstr] at g
  have hcl : (Go.Lib.compact ((srt L).map dl)).length = (uniq L).length := by unfold uniq; rw [List.length_map]
  have hul := uniq_len L
  refine Calls.mono g fun e w' ⟨he, q, hw⟩ => ⟨_, he, ?_⟩
  have hb2 : blk (w.drewN q) k = some cs := hbk
  have hvl : ((Go.Lib.compact ((srt L).map dl) ++ List.replicate (L.length - (Go.Lib.compact ((srt L).map dl)).length) []).map Go.Proofs.encStr).length = L.length := by
    rw [List.length_map, List.length_append, List.length_replicate, hcl]; omega
  obtain ⟨g1, g2, g3⟩ := setCells_blk ((Go.Lib.compact ((srt L).map dl) ++ List.replicate (L.length - (Go.Lib.compact ((srt L).map dl)).length) []).map Go.Proofs.encStr) hb2 (o := o) (by rw [hvl]; omega)
  rw [← hw] at g1 g2
  rw [hcl]
  refine hk w' ⟨by rw [flat_len sCell_len], by omega, .inr ⟨k, o, _, rfl, rfl, g1, by rw [putSeg_length (by rw [hvl]; omega)]; omega, ?_⟩⟩ (Ch.trans' (⟨rfl, rfl, rfl, Nat.le_refl _, fun _ _ _ => rfl⟩ : Ch (fun x => some k = some x) w (w.drewN q)) (g2.mono fun x _ h => by rw [h]))
  apply List.ext_getElem?
  intro i
  rw [List.getElem?_take, Nat.mul_one]
  have e1 : (uniq L).flatMap sCell = (Go.Lib.compact ((srt L).map dl)).map Go.Proofs.encStr := flat_enc _
  rw [e1]
  by_cases hi : i < (uniq L).length
  · rw [if_pos hi, List.getElem?_drop, get_putSeg (by rw [hvl]; omega), if_neg (by omega), if_pos (by rw [hvl]; omega), Nat.add_sub_cancel_left, List.map_append, List.getElem?_append_left (by rw [List.length_map, hcl]; exact hi)]
  · rw [if_neg hi, List.getElem?_eq_none (by rw [List.length_map, hcl]; omega)]
/-- the queues to which a topic leads -/
def leads (B : List (ByteArray × ByteArray)) (t : ByteArray) (q : ByteArray) : Prop := ∃ x ∈ B, x.2 = q ∧ Rt.Mp (parts x.1) (parts t)
set_option maxHeartbeats 2000000 in
theorem match_ok {w : World} {k r : Nat} {B : List (ByteArray × ByteArray)} {t : ByteArray} {K : Value → World → Prop} (h : RtK w k r B) (hB : ∀ x ∈ B, isPat x.1 = true ∧ x.1.size ≤ 2 ^ 40) (hl : B.length ≤ 2 ^ 40) (ht : t.size ≤ 2 ^ 40)
    (hk0 : isTop t = false → ∀ w', Ch (fun _ => False) w w' → K (.tuple #[.slice none 0 0, .int .i64 82]) w')
    (hk1 : isTop t = true → ∀ p c b M w', Nw w w' p c b M → Asc M → (∀ q, q ∈ M ↔ leads B t q) → M.length ≤ B.length → K (.tuple #[.slice p M.length c, .int .i64 0]) w') :
    callP Tryz.prog 15 [.pointer (some ⟨k, 0, none⟩), .string t] w K := by
  refine ok_route_Router_Match ?_
  unfold wp_route_Router_Match
  refine cut_ok ht (fun hf w1 C1 => ⟨_, _, _, rfl, Sif_false ?_⟩) fun hf w1 c1 => ⟨_, _, _, rfl, Sif_true (hk0 hf _ c1)⟩
  have hTop : isTop t = true := hf
  have htl := top_len hTop
  have hC2 := C1.2
  rw [nn_some]
  have R1 := h.ch C1.1.ch
  obtain ⟨w2, r2, i2, c2, z2⟩ := rangeK_run (P := Tryz.prog) Tryz.underlying52 R1.2
  have hrl := R1.2.lt
  generalize hT : w1.heap.size = T at *
  have hTr : T ≠ r := by omega
  have c02 := C1.1.ch.trans' c2
  refine ⟨some r, by simpa using cell_blk R1.1 0, _, w2, r2, fun m p2 n1 c1 w3 => ∃ (left : List (Value × Value)) (D : List (ByteArray × ByteArray)) (M : List ByteArray) (bb : Option Nat), m = left.length ∧ n1 = M.length ∧ ItK (Is2 isStrV isStrV) w3 T r (B.map fun x => (bv x, .agg #[])) left ∧
      (∀ x ∈ B, (bv x, Value.agg #[]) ∈ left ∨ x ∈ D) ∧ (∀ x ∈ D, x ∈ B) ∧ (∀ q, q ∈ M ↔ leads D t q) ∧ M.length + left.length ≤ B.length ∧ Nw w w3 p2 c1 bb M ∧ (∀ j, bb = some j → T < j) ∧ T < w3.heap.size ∧ Rd w3 (some ⟨w.heap.size, 0, none⟩) (parts t).length 1 ((parts t).flatMap sCell) ∧ (∀ y ∈ left, ∃ x ∈ B, y = (bv x, Value.agg #[])),
    ⟨_, B.map (fun x => (bv x, .agg #[])), [], [], none, rfl, rfl, i2, fun x hx => .inl (List.mem_map.2 ⟨x, hx, rfl⟩), by simp, by simp [leads], by simp, ⟨Ow.nil, by simp, c02⟩, by simp, by omega, Rd_d C1.1.rd c2, fun y hy => by obtain ⟨x, hx, rfl⟩ := List.mem_map.1 hy; exact ⟨x, hx, rfl⟩⟩, ?_⟩
  rintro m p2 n1 c1 w3 ⟨left, D, M, bb, rfl, rfl, IT, hDone, hDB, hM, hlen, N3, hbT, hT3, RT3, hleft⟩
  rcases nextK_run (P := Tryz.prog) (ty := 0) IT with ⟨rfl, hn⟩ | ⟨kx, v, l1, l2, w4, rfl, hkv, hn, he, IT', c4, z4⟩
  · refine .inl ⟨w3, hn, sort_ok N3.ow (by simp at hlen; omega) fun w4 o4 c4 => ⟨rfl, compact_ok o4 (by simp at hlen; omega) fun w5 o5 c5 => ⟨_, _, _, rfl, ?_⟩⟩⟩
    have cc : Ch (fun _ => False) w w5 := N3.ch.trans (c4.trans' c5) fun x hx e => by have := N3.new x e; omega
    obtain ⟨u1, u2⟩ := uniq_asc M
    refine hk1 hTop _ _ bb (uniq M) w5 ⟨o5, N3.new, cc⟩ u1 (fun q => ?_) (by have := uniq_len M; simp at hlen; omega)
    rw [u2, hM]
    constructor
    · rintro ⟨x, hx, g⟩; exact ⟨x, hDB x hx, g⟩
    · rintro ⟨x, hx, g⟩
      rcases hDone x hx with hx | hx
      · cases hx
      · exact ⟨x, hx, g⟩
  · obtain ⟨x, hxB, ex⟩ := hleft (kx, v) (by simp)
    obtain ⟨rfl, rfl⟩ : kx = bv x ∧ v = .agg #[] := ⟨congrArg Prod.fst ex, congrArg Prod.snd ex⟩
    refine .inr ⟨_, _, w4, hn, _, _, he, newB_blk fun w5 b5 c5 z5 => agg_two (Sif_true (st_blk (by simpa using b5) (by simp) fun w6 b6 c6 z6 => Sif_true (st_blk b6 (by simp) fun w7 b7 c7 z7 => ?_)))⟩
    simp only [List.set_cons_zero, List.set_cons_succ] at b7
    have hs4 := c4.size
    generalize hQ : w4.heap.size = Q at *
    have C7 : Ch (fun y => y = T) w3 w7 := (c4.trans' (c5.mono fun _ _ g => g.elim)).trans (c6.trans' c7) fun y hy e => by exfalso; rw [e] at hy; omega
    have hrl' := IT'.mp.lt
    have I7 : ItK (Is2 isStrV isStrV) w7 T r (B.map fun x => (bv x, .agg #[])) (l1 ++ l2) := (IT'.ch (c5.mono (S' := (· = Q)) fun _ _ g => g.elim) (by omega) (by omega)).ch (c6.trans' c7) (by omega) (by omega)
    have hbb : ∀ j, bb = some j → j < w3.heap.size := fun j hj => N3.ow.blt j hj
    have N7 : Nw w w7 p2 c1 bb M := ⟨N3.ow.ch C7 fun j hj e => by have := hbT j hj; omega, N3.new, N3.ch.trans C7 fun y hy e => by
      have := C1.1.ch.size
      rw [e] at hy; omega⟩
    have hs7 := C7.size
    refine ⟨x.1, by simpa using cell_blk b7 0, cut_ok (hB x hxB).2 (fun hg w8 C8 => ⟨_, _, _, rfl, ?_⟩) fun hg w8 _ => absurd ((show fine true x.1 = isPat x.1 from rfl).symm.trans hg) (by rw [(hB x hxB).1]; decide)⟩
    have c78 := C8.1.ch
    have RT7 := RT3.ch C7 fun a ha _ e => by cases ha; simp at e; omega
    have N8 : Nw w w8 p2 c1 bb M := ⟨N7.ow.ch c78 fun _ _ => id, N7.new, N7.ch.trans' c78⟩
    have hs8 := c78.size
    have b8 : blk w8 Q = some [.string x.1, .string x.2] := by rw [c78.blk (blk_lt b7) id]; exact b7
    refine lies_ok C8.1.rd (Rd_d RT7 c78) (pat_len (hB x hxB).1) (by omega) fun fb hfb => ⟨_, rfl, Sif_cases (fun g => ?_) fun g => ?_⟩
    · have hfit := hfb.1 g
      refine ⟨x.2, by simpa using cell_blk b8 1, N8.push x.2 (by simp at hlen; omega) fun p4 c4 b4 w9 N9 c9 hb4 => ?_⟩
      refine ⟨_, ?_, l1 ++ l2, x :: D, M ++ [x.2], b4, rfl, rfl, ?_, fun y hy => ?_, fun y hy => ?_, fun q => ?_, ?_, N9, fun j hj => ?_, by have := c9.size; omega, ?_, fun y hy => ?_⟩
      · simp
      · refine (I7.ch c78 id id).ch c9 (fun e => ?_) fun e => ?_
        · have := hbT _ e; omega
        · have := hbT _ e; omega
      · rcases hDone y hy with g2 | g2
        · rcases List.mem_append.1 g2 with g2 | g2
          · exact .inl (by simp [g2])
          · rcases List.mem_cons.1 g2 with g2 | g2
            · exact .inr (by rw [bv_inj (congrArg Prod.fst g2)]; simp)
            · exact .inl (by simp [g2])
        · exact .inr (by simp [g2])
      · rcases List.mem_cons.1 hy with rfl | hy
        · exact hxB
        · exact hDB y hy
      · rw [List.mem_append, hM, List.mem_singleton]
        constructor
        · rintro (⟨y, hy, g2⟩ | rfl)
          · exact ⟨y, by simp [hy], g2⟩
          · exact ⟨x, by simp, rfl, hfit⟩
        · rintro ⟨y, hy, g2, g3⟩
          rcases List.mem_cons.1 hy with rfl | hy
          · exact .inr g2.symm
          · exact .inl ⟨y, hy, g2, g3⟩
      · simp at hlen ⊢; omega
      · rcases hb4 j hj with g2 | g2
        · exact hbT j g2
        · omega
      · exact (Rd_d RT7 c78).ch c9 fun a ha _ e => by cases ha; have := hbT _ e; simp at this; omega
      · rcases List.mem_append.1 hy with hy | hy
        · exact hleft y (by simp [hy])
        · exact hleft y (by simp [hy])
    · refine ⟨_, ?_, l1 ++ l2, x :: D, M, bb, rfl, rfl, I7.ch c78 id id, fun y hy => ?_, fun y hy => ?_, fun q => ?_, by simp at hlen ⊢; omega, N8, hbT, by omega, Rd_d RT7 c78, fun y hy => ?_⟩
      · simp
      · rcases hDone y hy with g2 | g2
        · rcases List.mem_append.1 g2 with g2 | g2
          · exact .inl (by simp [g2])
          · rcases List.mem_cons.1 g2 with g2 | g2
            · exact .inr (by rw [bv_inj (congrArg Prod.fst g2)]; simp)
            · exact .inl (by simp [g2])
        · exact .inr (by simp [g2])
      · rcases List.mem_cons.1 hy with rfl | hy
        · exact hxB
        · exact hDB y hy
      · rw [hM]
        constructor
        · rintro ⟨y, hy, g2⟩
          exact ⟨y, by simp [hy], g2⟩
        · rintro ⟨y, hy, g2, g3⟩
          rcases List.mem_cons.1 hy with rfl | hy
          · exact absurd (hfb.2 g3) (by rw [g]; decide)
          · exact ⟨y, hy, g2, g3⟩
      · rcases List.mem_append.1 hy with hy | hy
        · exact hleft y (by simp [hy])
        · exact hleft y (by simp [hy])
end Go.Proofs.YtnibmhjdomndbaaGreatDoor
