/-
  The queue's Remove.
-/
import Derived.Test.YtipbbjnmpnfhpaaDoorQback
import Derived.Test.YtipbbjnmpnfhpaaDoorQrem
namespace Go.Proofs.YtipbbjnmpnfhpaaDoor
open Go Go.Sv Go.Heap Go.Qu Go.MapKept
set_option linter.unusedVariables false
set_option maxRecDepth 4000
/-- heap.Remove at the queue's row -/
theorem qremove_ok {i : Nat} {w : World} {qb : Nat} {cf : Cfg} {last : Int} {F H : List Et} {p : Option Addr} {c : Nat} {own : Option Nat} {r : Nat} {K : Value → World → Prop} (Q : QM w qb cf last F H p c own r) (hh : HeapFrom En.lt (atE (F.map (·.e))) F.length 0) (hn : F.length ≤ 2 ^ 39) (h0 : i < F.length)
    (hk : ∀ w' F' x, F.Perm (x :: F') → x.e = atE (F.map (·.e)) i → HeapFrom En.lt (atE (F'.map (·.e))) F'.length 0 → QM w' qb cf last F' H p c own r → EtE.Ok w' x → (∀ b ∈ EtE.B x, b ∈ qbl qb r own F H ∧ b ∉ qbl qb r own F' H) → (∀ b ∈ qbl qb r own F' H, b ∈ qbl qb r own F H) → Ch (fun b => own = some b ∨ b = qb) w w' → K (.iface 37 x.e.val) w') :
    callP Tryd.prog 29 [fH ⟨qb, 5, none⟩, .int .i64 (i : Int)] w K := by
  obtain ⟨m, hm⟩ : ∃ m, F.length = m + 1 := ⟨F.length - 1, by omega⟩
  have hhead := Q.head
  have hrow := Q.row
  rw [hm] at hhead hrow hh
  refine hremove_ok (i := i) hhead (o := 5) (p := p) (m := m) (c := c) (L := F.map (·.e)) rfl Q.ne_qo hrow (by simp [hm]) (by omega) hh (by omega) fun w' G hp hl hheap hb' ho' hch => ?_
  obtain ⟨F2, hp2, he⟩ := perm_lift' (g := fun x : Et => x.e) (L := F) (M := G ++ [atE (F.map (·.e)) i]) hp.symm
  obtain ⟨F', z, rfl, rfl, hz⟩ := List.map_eq_append_iff.1 he
  obtain ⟨x, rfl, hxe⟩ : ∃ x, z = [x] ∧ x.e = atE (F.map (·.e)) i := by
    cases z with
    | nil => simp at hz
    | cons x z =>
      simp only [List.map_cons, List.cons.injEq, List.map_eq_nil_iff] at hz
      exact ⟨x, by rw [hz.2], hz.1⟩
  have hp3 : F.Perm (x :: F') := hp2.trans (List.perm_append_singleton ..)
  have hl' : F'.length = m := by simpa using hl
  have hpe : (F ++ H).Perm (x :: (F' ++ H)) := hp3.append_right H
  have hnd : (EtE.B x ++ eB (F' ++ H)).Nodup := by rw [← eB_cons, ← (eB_perm hpe).nodup_iff]; exact Q.ndE
  have hsub : ∀ b, b ∈ EtE.B x ++ eB (F' ++ H) → b ∈ eB (F ++ H) := fun b hb => by rw [(eB_perm hpe).mem_iff, eB_cons]; exact hb
  have hS : ∀ b, b ∈ eB (F ++ H) → ¬ (own = some b ∨ b = qb) := fun b hb h => by
    rcases h with h | h
    · exact Q.ne_oe b h hb
    · exact Q.ne_qe (h ▸ hb)
  have hdat : ∀ y ∈ F ++ H, EtE.Ok w' y := fun y hy => EtE.ch (Q.dat y hy) hch fun b hb => hS b (mem_eB.2 ⟨y, hy, by simpa [EtE, Option.mem_toList] using hb⟩)
  refine hxe ▸ hk w' F' x hp3 hxe (by rw [hl']; exact hheap) ⟨by rw [hb', hl']; rfl, by rw [hl']; exact ho', ?_, fun y hy => hdat y (hpe.mem_iff.2 (List.mem_cons_of_mem _ hy)), ?_⟩ (hdat x (hpe.mem_iff.2 (by simp))) (fun b hb => ⟨mem_qbl.2 (.inr (.inr (.inr (hsub b (List.mem_append_left _ hb))))), fun h => ?_⟩) (fun b hb => ?_) hch
  · obtain ⟨m', hm', hmp⟩ := Q.map
    exact ⟨m', hm'.ch hch fun h => by
      rcases h with h | h
      · exact Q.ne_ro h
      · exact Q.ne_qr h.symm, hmp⟩
  · exact qbl_nd Q.ne_qr Q.ne_qo Q.ne_ro (fun h => Q.ne_qe (hsub _ (List.mem_append_right _ h))) (fun h => Q.ne_re (hsub _ (List.mem_append_right _ h))) (fun b hb h => Q.ne_oe b hb (hsub _ (List.mem_append_right _ h))) (List.nodup_append.1 hnd).2.1
  · have hb2 := hsub b (List.mem_append_left _ hb)
    rcases mem_qbl.1 h with h | h | h | h
    · exact Q.ne_qe (h ▸ hb2)
    · exact Q.ne_re (h ▸ hb2)
    · exact Q.ne_oe b h hb2
    · exact (List.nodup_append.1 hnd).2.2 b hb b h rfl
  · rcases mem_qbl.1 hb with h | h | h | h
    · exact mem_qbl.2 (.inl h)
    · exact mem_qbl.2 (.inr (.inl h))
    · exact mem_qbl.2 (.inr (.inr (.inl h)))
    · exact mem_qbl.2 (.inr (.inr (.inr (hsub b (List.mem_append_right _ h)))))
theorem remC_ok {w : World} {k : Nat} {e : En} {seq : Int} {K : Value → World → Prop} (hb : blk w k = some [.int .i64 seq]) (hk : ∀ w', Ch (fun _ => False) w w' → K (.bool (e.seq == seq)) w') : callP Tryd.prog 28 [e.val, .pointer (some ⟨k, 0, none⟩)] w K := by
  refine ok_queue_Queue_Remove_1 ?_
  unfold wp_queue_Queue_Remove_1
  refine newB_blk fun w1 b1 c1 z1 => ?_
  simp only [nn_some, add_at, Nat.zero_add]
  exact ⟨_, by rw [cell_blk b1]; rfl, _, by rw [cell_blk (show blk w1 k = some [.int .i64 seq] by rw [c1.blk (blk_lt hb) id]; exact hb)]; rfl, hk w1 c1⟩
theorem qindex_ok {w : World} {p : Option Addr} {c k : Nat} {L : List En} {seq : Int} {K : Value → World → Prop} (hr : Rd w p L.length 7 (L.flatMap En.cells)) (hb : blk w k = some [.int .i64 seq]) (hn : L.length ≤ 2 ^ 40)
    (hno : (∀ x ∈ L, x.seq ≠ seq) → ∀ w', Ch (fun _ => False) w w' → K (.int .i64 (-1)) w')
    (hyes : ∀ (i : Nat) x, L[i]? = some x → x.seq = seq → ∀ w', Ch (fun _ => False) w w' → K (.int .i64 (i : Int)) w') :
    callP Tryd.prog 27 [.slice p L.length c, .func (.func 28) #[] #[.pointer (some ⟨k, 0, none⟩)]] w K := by
  refine ok_slices_IndexFunc ?_
  unfold wp_slices_IndexFunc
  refine ⟨fun m i w' => ∃ j : Nat, i = (j : Int) ∧ j ≤ L.length ∧ m = L.length - j ∧ (∀ t x, t < j → L[t]? = some x → x.seq ≠ seq) ∧ Ch (fun _ => False) w w', ⟨_, 0, rfl, Nat.zero_le _, rfl, fun t x h => by omega, Ch.refl _ _⟩, ?_⟩
  rintro m i w1 ⟨j, rfl, hj, hm, hb4, c1⟩
  refine Sif_cases (fun h => ?_) fun h => ?_
  · have h : j < L.length := by
      have : (j : Int) < (L.length : Int) := by simpa using h
      omega
    obtain ⟨x, hx⟩ : ∃ x, L[j]? = some x := ⟨_, List.getElem?_eq_getElem h⟩
    obtain ⟨kb, o, rfl, hc⟩ := (hr.ch c1 fun _ _ _ => id).at En.cells_len hx (by decide)
    refine ⟨by omega, by omega, ?_⟩
    simp only [nn_some, add_at, Int.toNat_natCast]
    refine ⟨_, hc 0 _ rfl, _, hc 1 _ rfl, _, hc 2 _ rfl, _, hc 3 _ rfl, _, hc 4 _ rfl, _, hc 5 _ rfl, _, _, _, hc 6 _ rfl, ?_⟩
    refine ⟨by kernel_rfl, ?_⟩
    refine remC_ok (e := x) (show blk w1 k = some [.int .i64 seq] by rw [c1.blk (blk_lt hb) id]; exact hb) fun w2 c2 => ⟨_, rfl, Sif_cases (fun g => ?_) fun g => ?_⟩
    · exact hyes j x hx (by simpa using g) w2 (c1.trans' c2)
    · have g : x.seq ≠ seq := by simpa using g
      refine ⟨L.length - (j + 1), by omega, j + 1, ?_, h, rfl, fun t y ht hy => ?_, c1.trans' c2⟩
      · rw [wrap_id (by omega) (by omega)]; rfl
      · rcases Nat.lt_or_ge t j with q | q
        · exact hb4 t y q hy
        · have e : t = j := by omega
          subst e; rw [hx] at hy; cases hy; exact g
  · have h : j = L.length := by
      have : ¬ (j : Int) < (L.length : Int) := by simpa using h
      omega
    exact hno (fun x hx => by
      obtain ⟨t, ht⟩ := List.getElem?_of_mem hx
      exact hb4 t x (by have := (List.getElem?_eq_some_iff.1 ht).1; omega) ht) w1 c1
/-- one that is free has left -/
theorem QF.leftF {A : AQ} {F F' H : List Et} {x : Et} (E : QF A F H) (W : WQ A) (hp : F.Perm (x :: F')) (hheap : HeapFrom En.lt (atE (F'.map (·.e))) F'.length 0) : QF { A with L := delQ x.pe.seq A.L } F' H := by
  have h1 : A.L.Perm (x.pe :: (F' ++ H).map Et.pe) := E.perm.symm.trans ((hp.append_right H).map Et.pe)
  exact ⟨hheap, (filter_one W.nd h1).symm, fun z hz => E.free z (hp.mem_iff.2 (List.mem_cons_of_mem _ hz)), E.held⟩
theorem qrem_ok {w : World} {qb : Nat} {A : AQ} {B : Nat → Prop} {seq h : Int} {K : Value → World → Prop} (Q : QK w qb A B)
    (hno : (A.remove seq h).1 = none → QPost w qb (A.remove seq h).2 B fun w' _ => K (.tuple #[Ez.e.val, .int .i64 171]) w')
    (hyes : ∀ y, (A.remove seq h).1 = some y → ∀ x : Et, x.pe = y → QPost w qb (A.remove seq h).2 B fun w' B' => Out w' B B' w.heap.size x → K (.tuple #[x.e.val, .int .i64 0]) w') :
    callP Tryd.prog 15 [.pointer (some ⟨qb, 0, none⟩), .int .i64 seq, .int .i64 h] w K := by
  have hQ0 := Q
  have hW := Q.wf.remove seq h
  obtain ⟨wf, F, H, p, c, own, r, M, E, rfl⟩ := Q
  have old := M.lt
  have hlen := E.len
  have hnd := E.ndq wf
  rw [List.map_append] at hnd
  obtain ⟨hndF, hndH, hdisj⟩ := List.nodup_append.1 hnd
  refine ok_queue_Queue_Remove ?_
  unfold wp_queue_Queue_Remove
  refine newB_blk fun w1 b1 c1 z1 => newB_blk fun w2 b2 c2 z2 => ?_
  have b2 : blk w2 w1.heap.size = some Ez.e.cells := b2
  have b12 : blk w2 w.heap.size = some [.int .i64 seq] := by rw [c2.blk (blk_lt b1) id]; exact b1
  have c02 := c1.trans' c2
  have M2 := M.ch c02 fun _ _ => id
  have nope : (A.remove seq h) = (none, A) → ∀ w', Ch (fun _ => False) w w' → K (.tuple #[Ez.e.val, .int .i64 171]) w' := fun e1 w' cw => by
    rw [e1] at hno
    exact hno rfl w' _ (hQ0.ch cw fun _ _ => id) (cw.mono fun _ _ h => h.elim) fun b hb => .inl hb
  refine Sif_cases (fun h0 => ?_) fun h0 => ?_
  · have h0 : h = 0 := by simpa using h0
    subst h0
    simp only [nn_some, add_at, Nat.zero_add]
    refine ⟨_, _, _, M2.cell rfl, ?_⟩
    have hrow := M2.row
    have hl : (F.map (·.e)).length = F.length := List.length_map ..
    rw [← hl] at hrow
    rw [← hl]
    refine qindex_ok hrow.rd b12 (by rw [hl]; have := wf.len; have := wf.most2; omega) (fun hn w3 c3 => ⟨_, rfl, ?_⟩) fun i e he hs w3 c3 => ⟨_, rfl, ?_⟩
    · refine Sif_true ?_
      have b23 : blk w3 w1.heap.size = some Ez.e.cells := by rw [c3.blk (blk_lt b2) id]; exact b2
      refine reN (e := Ez.e) b23 fun w4 b4 c4 z4 => rdN b4 ?_
      refine nope ?_ w4 ((c02.trans' c3).trans c4 fun y hy h => by omega)
      unfold AQ.remove
      split
      · rfl
      · rename_i y hy
        obtain ⟨g1, g2⟩ := find_mem hy
        obtain ⟨x, hx, rfl⟩ := List.mem_map.1 (E.perm.mem_iff.2 g1)
        rcases List.mem_append.1 hx with hx | hx
        · exact absurd g2 (hn x.e (List.mem_map.2 ⟨x, hx, rfl⟩))
        · exact if_pos (E.held x hx)
    · refine Sif_cases (fun g => by simp at g; omega) fun _ => ?_
      have hil : i < F.length := by have := (List.getElem?_eq_some_iff.1 he).1; omega
      have b23 : blk w3 w1.heap.size = some Ez.e.cells := by rw [c3.blk (blk_lt b2) id]; exact b2
      have M3 := M2.ch c3 fun _ _ => id
      refine qremove_ok M3 E.heap (by have := wf.len; have := wf.most2; omega) hil fun w4 F' x hp hxe hheap M4 hx hxB hsub c4 => ⟨_, rfl, en_assert ?_⟩
      have hxs : x.e.seq = seq := by
        rw [hxe]
        have : atE (F.map (·.e)) i = e := by unfold atE; rw [he]; rfl
        rw [this]; exact hs
      have hxF : x ∈ F := hp.mem_iff.2 (by simp)
      have e1 : A.remove seq 0 = (some x.pe, { A with L := delQ seq A.L }) := by
        unfold AQ.remove
        rw [← hxs, E.findF wf hxF]
        show (if x.e.hold ≠ 0 then _ else _) = _
        rw [if_neg (by rw [E.free x hxF]; simp)]
      rw [e1] at hyes hW
      have hin : ∀ b, own = some b ∨ b = qb → b ∈ qbl qb r own F H := fun b h => by
        rcases h with h | h
        · exact mem_qbl.2 (.inr (.inr (.inl h)))
        · exact mem_qbl.2 (.inl h)
      have b24 : blk w4 w1.heap.size = some Ez.e.cells := by rw [c4.blk (blk_lt b23) fun h => by have := old _ (hin _ h); omega]; exact b23
      refine reN (e := x.e) b24 fun w5 b5 c5 z5 => rdN b5 ?_
      have big : ∀ b ∈ qbl qb r own F H, ¬ b = w1.heap.size := fun b hb hle => by have := old b hb; omega
      subst hxs
      refine hyes _ rfl x rfl w5 _ ⟨hW, F', H, p, c, own, r, M4.ch c5 fun b hb => big b (hsub b hb), E.leftF wf hp hheap, rfl⟩ ?_ (fun b hb => .inl (hsub b hb)) ⟨EtE.ch hx c5 fun b hb => big b (hxB b hb).1, fun b hb => ?_⟩
      · exact ((((c02.trans' c3).mono fun _ _ h => h.elim).trans' (c4.mono fun b _ h => hin b h))).trans c5 fun b hb h => by omega
      · have hb' : b ∈ EtE.B x := by simpa [EtE, Option.mem_toList] using hb
        exact ⟨(hxB b hb').2, .inl (hxB b hb').1⟩
  · have h0 : h ≠ 0 := by simpa using h0
    have M2d : QM w2.drew qb A.cf A.last F H p c own r := M2.ch (Ch.drew (S := fun _ => False) _) fun _ _ => id
    have b12d : blk w2.drew w.heap.size = some [.int .i64 seq] := b12
    have b2d : blk w2.drew w1.heap.size = some Ez.e.cells := b2
    have c02d := c02.trans' (Ch.drew w2)
    simp only [nn_some, add_at, Nat.zero_add]
    refine ⟨_, M2d.cell rfl, _, by rw [cell_blk b12d]; rfl, ?_⟩
    rcases M2d.look seq with ⟨x, hx, hs, hrun⟩ | ⟨hn, hrun⟩
    rotate_left
    · have e1 : A.remove seq h = (none, A) := by
        unfold AQ.remove
        split
        · rfl
        · rename_i y hy
          exact if_pos (by rw [(E.notH hn y hy).1]; omega)
      refine ⟨_, _, _, _, _, _, _, _, _, _, hrun, newB_blk fun w3 b3 c3 z3 => ?_⟩
      have M3 := M2d.ch c3 fun _ _ => id
      have b13 : blk w3 w.heap.size = some [.int .i64 seq] := by rw [c3.blk (blk_lt b12d) id]; exact b12d
      have b23 : blk w3 w1.heap.size = some Ez.e.cells := by rw [c3.blk (blk_lt b2d) id]; exact b2d
      have b3 : blk w3 w2.drew.heap.size = some Ez.e.cells := b3
      refine ⟨⟨_, _, _, _, _, _, _, _, _, _, ?_, rfl⟩, ⟨_, by rw [cell_blk b13]; rfl, rfl⟩, ⟨_, M3.cell rfl, rfl⟩, ?_⟩
      · rcases M3.look seq with ⟨y, hy, hys, _⟩ | ⟨_, hrun3⟩
        · exact absurd hys (hn y hy)
        · exact hrun3
      simp only [add_at, Nat.zero_add]
      refine reN (e := En0) b3 fun w4 b4 c4 z4 => ⟨fun _ => False, fun _ h => h.elim, Sif_false ?_⟩
      have hd : w2.drew.heap.size = w2.heap.size := rfl
      have b24 : blk w4 w1.heap.size = some Ez.e.cells := by rw [c4.blk (blk_lt b23) (by omega)]; exact b23
      refine reN (e := Ez.e) b24 fun w5 b5 c5 z5 => rdN b5 ?_
      exact nope e1 w5 (((c02d.trans' c3).trans c4 fun y hy h => by omega).trans c5 fun y hy h => by omega)
    subst hs
    refine ⟨_, _, _, _, _, _, _, _, _, _, hrun, newB_blk fun w3 b3 c3 z3 => ?_⟩
    have M3 := M2d.ch c3 fun _ _ => id
    have hd : w2.drew.heap.size = w2.heap.size := rfl
    have b13 : blk w3 w.heap.size = some [.int .i64 x.e.seq] := by rw [c3.blk (blk_lt b12d) id]; exact b12d
    have b23 : blk w3 w1.heap.size = some Ez.e.cells := by rw [c3.blk (blk_lt b2d) id]; exact b2d
    have b3 : blk w3 w2.drew.heap.size = some Ez.e.cells := b3
    refine ⟨⟨_, _, _, _, _, _, _, _, _, _, ?_, rfl⟩, ⟨_, by rw [cell_blk b13]; rfl, rfl⟩, ⟨_, M3.cell rfl, rfl⟩, ?_⟩
    · rcases M3.look x.e.seq with ⟨y, hy, hys, hrun3⟩ | ⟨hn, _⟩
      · have : y = x := inj_of_nodup hndH hy hx hys
        subst this; exact hrun3
      · exact absurd rfl (hn x hx)
    simp only [add_at, Nat.zero_add]
    refine reN (e := x.e) b3 fun w4 b4 c4 z4 => ?_
    have b24 : blk w4 w1.heap.size = some Ez.e.cells := by rw [c4.blk (blk_lt b23) (by omega)]; exact b23
    have b14 : blk w4 w.heap.size = some [.int .i64 x.e.seq] := by rw [c4.blk (blk_lt b13) (by omega)]; exact b13
    have c04 : Ch (fun _ => False) w w4 := (c02d.trans' c3).trans c4 fun y hy h => by omega
    have hfind := E.findH wf hx
    refine ⟨fun w5 => w5 = w4 ∧ x.e.hold = h, ?_, ?_⟩
    rotate_left
    · refine Sif_true ?_
      refine ⟨_, by rw [cell_blk b4]; rfl, Sif_cases (fun g => ?_) fun g => ⟨by trivial, by simpa using g⟩⟩
      have g : x.e.hold ≠ h := by simpa using g
      have e1 : A.remove x.e.seq h = (none, A) := by
        unfold AQ.remove
        rw [hfind]
        exact if_pos g
      refine reN (e := Ez.e) b24 fun w5 b5 c5 z5 => rdN b5 ?_
      exact nope e1 w5 (c04.trans c5 fun y hy h => by omega)
    rintro _ ⟨rfl, hheld⟩
    rename_i w4
    have e1 : A.remove x.e.seq h = (some x.pe, { A with L := delQ x.e.seq A.L }) := by
      unfold AQ.remove
      rw [hfind]
      exact if_neg (fun hne => hne hheld)
    rw [e1] at hyes hW
    obtain ⟨H', hp⟩ := perm_of_mem hx
    have M4d : QM w4.drew qb A.cf A.last F H p c own r := (M.ch c04 fun _ _ => id).ch (Ch.drew (S := fun _ => False) _) fun _ _ => id
    have b14d : blk w4.drew w.heap.size = some [.int .i64 x.e.seq] := b14
    refine ⟨_, M4d.cell rfl, _, by rw [cell_blk b14d]; rfl, ?_⟩
    obtain ⟨w5, hdel, M5, hx5, hxB, hsub, c5⟩ := M4d.del (ty := 0) hp hndH
    have hr : r < w.heap.size := old r (mem_qbl.2 (.inr (.inl rfl)))
    have s4 := c04.size
    have kp : ∀ k v, w.heap.size ≤ k → blk w4 k = some v → blk w5 k = some v := fun k v hk hb => by
      have hb : blk w4.drew k = some v := hb
      rw [c5.blk (blk_lt hb) (by omega)]; exact hb
    refine ⟨w5, hdel, rdN (kp _ _ (by omega) b4) (reN (e := x.e) (kp _ _ (by omega) b24) fun w6 b6 c6 z6 => rdN b6 ?_)⟩
    have big : ∀ b ∈ qbl qb r own F H, ¬ b = w1.heap.size := fun b hb hle => by have := old b hb; omega
    refine hyes _ rfl x rfl w6 _ ⟨hW, F, H', p, c, own, r, M5.ch c6 fun b hb => big b (hsub b hb), E.left wf hp, rfl⟩ ?_ (fun b hb => .inl (hsub b hb)) ⟨EtE.ch hx5 c6 fun b hb => big b (hxB b hb).1, fun b hb => ?_⟩
    · exact ((((c04.trans' (Ch.drew w4)).mono fun _ _ h => h.elim).trans' (c5.mono fun b _ h => h ▸ mem_qbl.2 (.inr (.inl rfl))))).trans c6 fun b hb h => by omega
    · have hb' : b ∈ EtE.B x := by simpa [EtE, Option.mem_toList] using hb
      exact ⟨(hxB b hb').2, .inl (hxB b hb').1⟩
end Go.Proofs.YtipbbjnmpnfhpaaDoor
