/-
  The program's Bindings, Drop, Unbind: what they do to a router.
-/
import Derived.Test.YtnibmhjdomndbaaGreatDoorRtV
namespace Go.Proofs.YtnibmhjdomndbaaGreatDoor
open Go Go.Sv Go.Rt Go.Sort
set_option linter.unusedVariables false
/-- all, sorted -/
def sortB (B : List Bd) : List Bd := srtBy cfB B
theorem sortB_len (B : List Bd) : (sortB B).length = B.length := srtBy_len ..
theorem sortB_mem (B : List Bd) (x : Bd) : x ∈ sortB B ↔ x ∈ B := (srtBy_perm cfB B).mem_iff
theorem sortB_asc {B : List Bd} (h : B.Nodup) : AscB (sortB B) := srtB_asc h
theorem nodup_of {w : World} {k r : Nat} {B : List Bd} (h : RtK w k r B) : B.Nodup := by
  have h1 := h.2.nodup
  rw [List.map_map] at h1
  have h2 : (B.map fun x => bv x).Nodup := h1
  exact List.Pairwise.of_map _ (fun a b g e => g (by rw [e])) h2
set_option maxHeartbeats 1000000 in
theorem bindings_ok {w : World} {k r : Nat} {B : List Bd} {K : Value → World → Prop} (h : RtK w k r B) (hl : B.length ≤ 2 ^ 40)
    (hk : ∀ p c b w', Nb w w' p c b (sortB B) → (B = [] → p = none ∧ c = 0) → K (.slice p B.length c) w') : callP Tryz.prog 9 [.pointer (some ⟨k, 0, none⟩)] w K := by
  refine ok_route_Router_Bindings ?_
  unfold wp_route_Router_Bindings
  rw [nn_some]
  obtain ⟨w2, r2, i2, c2, z2⟩ := rangeK_run (P := Tryz.prog) Tryz.underlying52 h.2
  have hrl := h.2.lt
  generalize hT : w.heap.size = T at *
  refine ⟨some r, by simpa using cell_blk h.1 0, _, w2, r2, fun m p n c w3 => ∃ (left : List (Value × Value)) (D M : List Bd) (bb : Option Nat), m = left.length ∧ n = M.length ∧ ItK (Is2 isStrV isStrV) w3 T r (B.map fun x => (bv x, .agg #[])) left ∧
      (M ++ D).Perm B ∧ left = D.map (fun x => (bv x, Value.agg #[])) ∧ Nb w w3 p c bb M ∧ (∀ j, bb = some j → T < j) ∧ T < w3.heap.size ∧ (M = [] → p = none ∧ c = 0),
    ⟨_, B.map (fun x => (bv x, .agg #[])), B, [], none, rfl, rfl, i2, by simp, rfl, ⟨Ow.nil, by simp, c2⟩, by simp, by omega, fun _ => ⟨rfl, rfl⟩⟩, ?_⟩
  rintro m p n c w3 ⟨left, D, M, bb, rfl, rfl, IT, hP, hleft, N3, hbT, hT3, hnil⟩
  have hPl := hP.length_eq
  rw [List.length_append] at hPl
  rcases nextK_run (P := Tryz.prog) (ty := 0) IT with ⟨he0, hn⟩ | ⟨kx, v, l1, l2, w4, he1, hkv, hn, he, IT', c4, z4⟩
  · have hD : D = [] := by rw [he0] at hleft; exact List.map_eq_nil_iff.1 hleft.symm
    subst hD
    rw [List.append_nil] at hP
    refine .inl ⟨w3, hn, sortB_ok N3.ow (by simp at hPl; omega) fun w4 o4 c4 => ⟨rfl, ?_⟩⟩
    have hMB : srtBy cfB M = sortB B := by
      have hn := nodup_of h
      refine AscB.eq (srtB_asc (hP.nodup_iff.2 hn)) (sortB_asc hn) fun x => ?_
      rw [(srtBy_perm cfB M).mem_iff, sortB_mem, hP.mem_iff]
    rw [hMB] at o4
    have hl2 : M.length = B.length := hP.length_eq
    rw [hl2] at o4 ⊢
    refine hk p c bb w4 ⟨by rw [sortB_len]; exact o4, N3.new, N3.ch.trans c4 fun x hx e => by have := N3.new x e; omega⟩ fun e => hnil (by rw [e] at hl2; exact List.eq_nil_of_length_eq_zero hl2)
  · subst hleft
    obtain ⟨D1, D2', hD, e1, e2⟩ := List.map_eq_append_iff.1 he1
    obtain ⟨x, D2, rfl, ex, e3⟩ := List.map_eq_cons_iff.1 e2
    obtain ⟨rfl, rfl⟩ : kx = bv x ∧ v = .agg #[] := ⟨(congrArg Prod.fst ex).symm, (congrArg Prod.snd ex).symm⟩
    subst hD e1 e3
    refine .inr ⟨_, _, w4, hn, _, _, he, newB_blk fun w5 b5 c5 z5 => agg_two (Sif_true (st_blk (by simpa using b5) (by simp) fun w6 b6 c6 z6 => Sif_true (st_blk b6 (by simp) fun w7 b7 c7 z7 => ?_)))⟩
    simp only [List.set_cons_zero, List.set_cons_succ] at b7
    have hs4 := c4.size
    generalize hQ : w4.heap.size = Q at *
    have C7 : Ch (fun y => y = T) w3 w7 := (c4.trans' (c5.mono fun _ _ g => g.elim)).trans (c6.trans' c7) fun y hy e => by exfalso; rw [e] at hy; omega
    have hrl' := IT'.mp.lt
    have I7 : ItK (Is2 isStrV isStrV) w7 T r (B.map fun x => (bv x, .agg #[])) (D1.map (fun x => (bv x, Value.agg #[])) ++ D2.map (fun x => (bv x, Value.agg #[]))) := (IT'.ch (c5.mono (S' := (· = Q)) fun _ _ g => g.elim) (by omega) (by omega)).ch (c6.trans' c7) (by omega) (by omega)
    have N7 : Nb w w7 p c bb M := ⟨N3.ow.ch C7 fun j hj e => by have := hbT j hj; omega, N3.new, N3.ch.trans C7 fun y hy e => by rw [e] at hy; omega⟩
    have hs7 := C7.size
    refine ⟨x.1, by simpa using cell_blk b7 0, x.2, by simpa using cell_blk b7 1, N7.push x (by simp at hPl; omega) fun p4 c4 b4 w9 N9 c9 hb4 => ?_⟩
    refine ⟨_, ?_, D1.map (fun x => (bv x, Value.agg #[])) ++ D2.map (fun x => (bv x, Value.agg #[])), D1 ++ D2, M ++ [x], b4, rfl, rfl, ?_, ?_, by rw [List.map_append], N9, fun j hj => ?_, by have := c9.size; omega, fun e => by simp at e⟩
    · simp
    · refine I7.ch c9 (fun e => ?_) fun e => ?_
      · have := hbT _ e; omega
      · have := hbT _ e; omega
    · refine List.Perm.trans ?_ hP
      rw [List.append_assoc]
      exact List.Perm.append_left _ (show (x :: (D1 ++ D2)).Perm (D1 ++ x :: D2) from List.perm_middle.symm)
    · rcases hb4 j hj with g2 | g2
      · exact hbT j g2
      · omega
def unbindB (B : List Bd) (x : Bd) : List Bd := B.filter fun y => decide (y ≠ x)
theorem del_map {B : List Bd} {x : Bd} (hn : B.Nodup) {l1 l2 : List (Value × Value)} {v0 : Value} (h : B.map (fun x => (bv x, Value.agg #[])) = l1 ++ (bv x, v0) :: l2) : l1 ++ l2 = (unbindB B x).map fun x => (bv x, Value.agg #[]) := by
  obtain ⟨D1, D2', rfl, e1, e2⟩ := List.map_eq_append_iff.1 h
  obtain ⟨y, D2, rfl, ey, e3⟩ := List.map_eq_cons_iff.1 e2
  have : y = x := bv_inj (congrArg Prod.fst ey)
  subst this
  rw [← e1, ← e3, ← List.map_append]
  congr 1
  unfold unbindB
  obtain ⟨n1, n2, n3⟩ := List.nodup_append.1 hn
  obtain ⟨n4, _⟩ := List.nodup_cons.1 n2
  rw [List.filter_append, List.filter_cons_of_neg (by simp)]
  congr 1
  · refine (List.filter_eq_self.2 fun z hz => ?_).symm
    have := n3 z hz y (by simp)
    simpa using this
  · refine (List.filter_eq_self.2 fun z hz => ?_).symm
    simp only [decide_eq_true_eq]
    intro e; rw [e] at hz; exact n4 hz
theorem del_ok {w : World} {k r : Nat} {B : List Bd} (h : RtK w k r B) (hkr : k ≠ r) (x : Bd) : ∃ w', (Builtin.delete_ #[52, 48] 0 #[.map (some r), .agg #[.string x.1, .string x.2]]).run Tryz.prog w = .ok (.tuple #[]) w' ∧ RtK w' k r (unbindB B x) ∧ Ch (· = r) w w' := by
  obtain ⟨w', m', h1, h2, h3, _, h5⟩ := deleteK_run (ty := 0) Tryz.underlying52 bind_kl h.2 (bv_is x)
  refine ⟨w', h1, ⟨by rw [h3.blk (blk_lt h.1) hkr]; exact h.1, ?_⟩, h3⟩
  have : m' = (unbindB B x).map fun x => (bv x, Value.agg #[]) := by
    rcases h5 with ⟨l1, v0, l2, e1, rfl⟩ | ⟨hno, rfl⟩
    · exact del_map (nodup_of h) e1
    · rw [show unbindB B x = B from List.filter_eq_self.2 fun z hz => ?_]
      simp only [decide_eq_true_eq]
      intro e
      exact hno _ (List.mem_map.2 ⟨z, hz, rfl⟩) (by rw [e])
  rw [← this]; exact h2
def dropB (B : List Bd) (q : ByteArray) : List Bd := B.filter fun y => decide (y.2 ≠ q)
theorem dropB_step {B : List Bd} {q : ByteArray} {x : Bd} (hx : x.2 = q) : dropB (unbindB B x) q = dropB B q := by
  unfold dropB unbindB
  rw [List.filter_filter]
  congr 1
  funext y
  by_cases h : y.2 = q
  · simp [h]
  · have : y ≠ x := fun e => h (by rw [e]; exact hx)
    simp [h, this]
set_option maxHeartbeats 1000000 in
theorem drop_ok {w : World} {k r : Nat} {B : List Bd} {q : ByteArray} {K : Value → World → Prop} (h : RtK w k r B) (hkr : k ≠ r) (hl : B.length ≤ 2 ^ 40)
    (hk : ∀ w', RtK w' k r (dropB B q) → Ch (· = r) w w' → K (.int .i64 ((B.length : Int) - (dropB B q).length)) w') : callP Tryz.prog 19 [.pointer (some ⟨k, 0, none⟩), .string q] w K := by
  refine ok_route_Router_Drop ?_
  unfold wp_route_Router_Drop
  rw [nn_some]
  have hlen := lenK_run (P := Tryz.prog) (ty := 3) Tryz.underlying52 h.2
  rw [List.length_map] at hlen
  refine ⟨some r, by simpa using cell_blk h.1 0, _, hlen, bindings_ok h hl fun p c b w1 N1 _ => ⟨_, _, _, rfl, ?_⟩⟩
  have hb1 := N1.ow.blt
  refine ⟨fun m n2 w2 => ∃ (i : Nat) (B' : List Bd), n2 = (i : Int) ∧ m + i = B.length ∧ RtK w2 k r B' ∧ dropB B' q = dropB B q ∧ B'.length ≤ B.length ∧ (∀ x ∈ B', x.2 = q → x ∈ (sortB B).drop i) ∧ Ow w2 p B.length c 2 ((sortB B).flatMap bCells) b ∧ Ch (· = r) w w2,
    ⟨B.length, 0, B, rfl, rfl, h.ch N1.ch, rfl, Nat.le_refl _, fun x hx _ => by rw [List.drop_zero, sortB_mem]; exact hx, by have := N1.ow; rw [sortB_len] at this; exact this, N1.ch.mono fun _ _ g => g.elim⟩, ?_⟩
  rintro m n2 w2 ⟨i, B', rfl, hm, R2, hd, hl', hrest, o2, c2⟩
  have hrl := h.2.lt
  refine Sif_cases (fun g => ?_) fun g => ?_
  · have g := of_decide_eq_true g
    have hil : i < (sortB B).length := by rw [sortB_len]; omega
    obtain ⟨x, hx⟩ : ∃ x, (sortB B)[i]? = some x := ⟨_, List.getElem?_eq_getElem hil⟩
    obtain ⟨kb, o, rfl, hc⟩ := o2.rd.at bCells_len hx (by decide)
    have hdr : (sortB B).drop i = x :: (sortB B).drop (i + 1) := by
      obtain ⟨_, e⟩ := List.getElem?_eq_some_iff.1 hx
      rw [← e, List.getElem_cons_drop]
    have hasc : ∀ y ∈ B', y.2 = q → y ≠ x → y ∈ (sortB B).drop (i + 1) := fun y hy hyq hne => by
      have := hrest y hy hyq
      rw [hdr] at this
      exact (List.mem_cons.1 this).resolve_left hne
    have hbr : ∀ j, b = some j → j ≠ r := fun j hj => by
      have := N1.new j hj; omega
    refine ⟨fun w3 => ∃ B'', RtK w3 k r B'' ∧ dropB B'' q = dropB B q ∧ B''.length ≤ B.length ∧ (∀ x ∈ B'', x.2 = q → x ∈ (sortB B).drop (i + 1)) ∧ Ow w3 (some ⟨kb, o, none⟩) B.length c 2 ((sortB B).flatMap bCells) b ∧ Ch (· = r) w w3, ?_, by omega, g, ?_⟩
    · rintro w3 ⟨B'', h1, h2, h3, h4, h5, h6⟩
      exact ⟨m - 1, by omega, i + 1, B'', by rw [wrap_id (by omega) (by omega)]; omega, by omega, h1, h2, h3, h4, h5, h6⟩
    · rw [nn_some]
      simp only [add_at, Int.toNat_natCast, Nat.add_zero]
      refine ⟨x.1, by simpa using hc 0 _ rfl, x.2, by simpa using hc 1 _ rfl, ?_⟩
      refine newB_blk fun w4 b4 c4 z4 => st_blk (by simpa using b4) (by simp) fun w5 b5 c5 z5 => st_blk b5 (by simp) fun w6 b6 c6 z6 => ?_
      simp only [List.set_cons_zero, List.set_cons_succ] at b6
      have c26 : Ch (fun _ => False) w2 w6 := c4.trans (c5.trans' c6) fun y hy e => by rw [e] at hy; simp at hy
      have R6 := R2.ch c26
      refine ⟨x.2, by simpa using cell_blk b6 1, Sif_cases (fun gq => ?_) fun gq => ?_⟩
      · have hxq : x.2 = q := by rw [beq_iff_eq, ByteArray.toList_eq, ByteArray.toList_eq] at gq; exact data_ext gq
        rw [nn_some]
        have d6 := (Ch.d0 (w := w6))
        have R6d := R6.ch d6
        have b6d : blk w6.drew w2.heap.size = some [.string x.1, .string x.2] := b6
        obtain ⟨w7, hrun, R7, c7⟩ := del_ok R6d hkr x
        refine ⟨some r, by simpa using cell_blk R6d.1 0, x.1, by simpa using cell_blk b6d 0, x.2, by simpa using cell_blk b6d 1, w7, hrun, unbindB B' x, R7, by rw [dropB_step hxq, hd], ?_, fun y hy hyq => ?_, (o2.ch (c26.trans' d6) fun _ _ => id).ch c7 hbr, c2.trans' (((c26.trans' d6).mono (S' := (· = r)) fun _ _ g => g.elim).trans' c7)⟩
        · exact Nat.le_trans (List.length_filter_le ..) hl'
        · have hy := List.mem_filter.1 hy
          exact hasc y hy.1 hyq (by simpa using hy.2)
      · refine ⟨B', R6, hd, hl', fun y hy hyq => hasc y hy hyq fun e => ?_, o2.ch c26 fun _ _ => id, c2.trans' (c26.mono fun _ _ g => g.elim)⟩
        rw [e] at hyq
        rw [hyq, str_eq_self] at gq; cases gq
  · have g := of_decide_eq_false g
    have hi : i = B.length := by omega
    subst hi
    have hB' : B' = dropB B q := by
      rw [← hd]
      refine (List.filter_eq_self.2 fun y hy => ?_).symm
      simp only [decide_eq_true_eq]
      intro e
      have := hrest y hy e
      rw [List.drop_of_length_le (by rw [sortB_len]; exact Nat.le_refl _)] at this
      cases this
    subst hB'
    have hlen2 := lenK_run (P := Tryz.prog) (ty := 3) Tryz.underlying52 R2.2
    rw [List.length_map] at hlen2
    rw [nn_some]
    refine ⟨some r, by simpa using cell_blk R2.1 0, _, hlen2, ?_⟩
    rw [nameI_iff, wrap_id (by omega) (by omega)]
    exact hk _ R2 c2
theorem unbind_ok {w : World} {k r : Nat} {B : List Bd} {x : Bd} {K : Value → World → Prop} (h : RtK w k r B) (hkr : k ≠ r)
    (hk : ∀ w', RtK w' k r (unbindB B x) → Ch (· = r) w w' → K (.int .i64 (if x ∈ B then 0 else 182)) w') : callP Tryz.prog 17 [.pointer (some ⟨k, 0, none⟩), .agg #[.string x.1, .string x.2]] w K := by
  refine ok_route_Router_Unbind ?_
  unfold wp_route_Router_Unbind
  refine newB_blk fun w1 b1 c1 z1 => ?_
  rw [nn_some]
  have d1 := Ch.d0 (w := w1)
  have R1 := (h.ch c1).ch d1
  have b1d : blk w1.drew w.heap.size = some [.string x.1, .string x.2] := b1
  obtain ⟨t, ht, hl⟩ := look_ok R1 x
  refine ⟨some r, by simpa using cell_blk R1.1 0, x.1, by simpa using cell_blk b1d 0, x.2, by simpa using cell_blk b1d 1, t, hl, newB_blk fun w2 b2 c2 z2 => ?_⟩
  have R2 := R1.ch c2
  have b2x : blk w2 w.heap.size = some [.string x.1, .string x.2] := by rw [c2.blk (blk_lt b1d) id]; exact b1d
  obtain ⟨t', ht', hl'⟩ := look_ok R2 x
  have ett : t' = t := by rw [Bool.eq_iff_iff, ht, ht']
  refine ⟨⟨t', hl', by rw [ett]⟩, ⟨x.1, by simpa using cell_blk b2x 0, x.2, by simpa using cell_blk b2x 1, rfl⟩, ⟨some r, by simpa using cell_blk R2.1 0, rfl⟩, Sif_cases (fun g => ?_) fun g => ?_⟩
  · have hx : x ∉ B := fun e => by rw [ht.2 e] at g; cases g
    have := hk w2 (by rw [show unbindB B x = B from List.filter_eq_self.2 fun z hz => by simp only [decide_eq_true_eq]; intro e; rw [e] at hz; exact hx hz]; exact R2) ((c1.trans' (d1.trans' c2)).mono fun _ _ g => g.elim)
    rw [if_neg hx] at this
    exact this
  · have hx : x ∈ B := ht.1 (by simpa using g)
    rw [nn_some]
    have d2 := Ch.d0 (w := w2)
    have R3 := R2.ch d2
    have b3x : blk w2.drew w.heap.size = some [.string x.1, .string x.2] := b2x
    obtain ⟨w4, hrun, R4, c4⟩ := del_ok R3 hkr x
    refine ⟨some r, by simpa using cell_blk R3.1 0, x.1, by simpa using cell_blk b3x 0, x.2, by simpa using cell_blk b3x 1, w4, hrun, ?_⟩
    have := hk w4 R4 (((c1.trans' (d1.trans' (c2.trans' d2))).mono (S' := (· = r)) fun _ _ g => g.elim).trans' c4)
    rw [if_pos hx] at this
    exact this
end Go.Proofs.YtnibmhjdomndbaaGreatDoor
