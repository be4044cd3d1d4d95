/-
  The queue's Put.
-/
import Derived.Test.YtipbbjnmpnfhpaaDoorQmap
namespace Go.Proofs.YtipbbjnmpnfhpaaDoor
open Go Go.Sv Go.Heap Go.Qu Go.MapKept
set_option linter.unusedVariables false
set_option maxRecDepth 4000
def En.as (e : En) (l : List UInt8) : PE := ⟨e.seq, e.pri, e.exp, e.dur, e.cnt, e.hold, l⟩
theorem qput_ok {w : World} {qb : Nat} {A : AQ} {B : Nat → Prop} {e : En} {l : List UInt8} {K : Value → World → Prop} (Q : QK w qb A B) (hr : Rd w e.p e.n 1 (bytesV l)) (hd : ∀ a, e.p = some a → e.n * 1 ≠ 0 → ¬ B a.block) (hn : e.n ≤ 2 ^ 46) (hi : e.seq ≤ 9223372036854775807)
    (hk : QPost w qb (A.put (e.as l)).2 B fun w' _ => K (.int .i64 (A.put (e.as l)).1) w') : callP Tryd.prog 12 [.pointer (some ⟨qb, 0, none⟩), e.val] w K := by
  have hln : l.length = e.n := by have := hr.1; simpa using this
  have hW := Q.wf.put (e := e.as l) hi
  have hQ0 := Q
  obtain ⟨wf, F, H, p, c, own, r, M, E, rfl⟩ := Q
  have hlen := E.len
  refine ok_queue_Queue_Put ?_
  unfold wp_queue_Queue_Put
  refine newB_blk fun w1 b1 c1 z1 => ?_
  have b1 : blk w1 w.heap.size = some e.cells := b1
  have c1d : Ch (fun _ => False) w w1.drew := c1.trans' (Ch.drew w1)
  have bad : putBad A (e.as l) → K (.int .i64 171) w1.drew := fun hb => by
    have e1 : A.put (e.as l) = (171, A) := by unfold AQ.put; rw [if_pos hb]
    rw [e1] at hk
    exact hk w1.drew _ (hQ0.ch c1d fun _ _ => id) (c1d.mono fun _ _ h => h.elim) fun b hb => .inl hb
  have M1 : QM w1 qb A.cf A.last F H p c own r := M.ch c1 fun _ _ => id
  have M1d : QM w1.drew qb A.cf A.last F H p c own r := M.ch c1d fun _ _ => id
  have M1dd : QM w1.drew.drew qb A.cf A.last F H p c own r := M1d.ch (Ch.drew (S := fun _ => False) _) fun _ _ => id
  have b1d : blk w1.drew w.heap.size = some e.cells := b1
  refine ⟨fun w2 => (¬ putBad A (e.as l) ∧ ¬ 1048576 < (e.as l).l.length ∧ ¬ A.cf.most ≤ (A.L.length : Int)) ∧ Ch (fun _ => False) w w2 ∧ blk w2 w.heap.size = some e.cells, ?_, ?_⟩
  · rintro w2 ⟨⟨h1, h2, h3⟩, c2, b2⟩
    have e1 : A.put (e.as l) = (0, { A with L := A.L ++ [e.as l], last := e.seq }) := by unfold AQ.put; rw [if_neg h1, if_neg h2, if_neg h3]; rfl
    rw [e1] at hk hW
    have M2 := M.ch c2 fun _ _ => id
    have hbq := blk_lt M2.head
    have hqw := blk_lt M.head
    simp only [nn_some, add_at]
    refine ⟨_, by rw [cell_blk b2]; rfl, ?_⟩
    refine st_blk M2.head (by simp [qcells]) fun w3 b3 c3 z3 => ?_
    have M3 : QM w3 qb A.cf e.seq F H p c own r := M2.head' b3 c3
    have M3d : QM w3.drew qb A.cf e.seq F H p c own r := M3.ch (Ch.drew (S := fun _ => False) _) fun _ _ => id
    have b23 : blk w3 w.heap.size = some e.cells := by rw [c3.blk (blk_lt b2) (by omega)]; exact b2
    have b23d : blk w3.drew w.heap.size = some e.cells := b23
    refine rdN b23d ?_
    have hr3 : Rd w3.drew e.p e.n 1 (bytesV l) := (((hr.ch c2 fun _ _ _ => id).ch c3 fun a ha h0 h => hd a ha h0 (mem_qbl.2 (.inl h)))).ch (Ch.drew (S := fun _ => False) _) fun _ _ _ => id
    refine own_ok (e := e) hr3 hn fun w4 x hx hxp hxn c4 => isE ?_
    have M4 := M3d.ch c4 fun _ _ => id
    have hfresh : ∀ b ∈ EtE.B x, w.heap.size ≤ b := fun b hb => by
      have := hxn b (by simpa [EtE, Option.mem_toList] using hb)
      have := c2.size
      have := c3.size
      have hd : w3.drew.heap.size = w3.heap.size := rfl
      omega
    refine qpush_ok M4 E.heap (by have := wf.len; have := wf.most2; omega) hx (fun b hb h => ?_) fun w5 F' p' c' own' hp' hheap' M5 hsub c5 => ⟨rfl, ?_⟩
    · have := hfresh b hb
      have := M.lt b h
      omega
    have c24 : Ch (fun b => b ∈ qbl qb r own F H) w w4 := (((c2.mono fun _ _ h => h.elim).trans' (c3.mono fun b _ h => mem_qbl.2 (.inl h))).trans' (Ch.drew w3)).trans' (c4.mono fun _ _ h => h.elim)
    refine hk w5 _ ⟨hW, F', H, p', c', own', r, M5, ⟨hheap', ?_, fun y hy => ?_, E.held⟩, rfl⟩ (c24.trans c5 fun b _ h => ?_) fun b hb => ?_
    · have h1 : ((F' ++ H).map Et.pe).Perm (x.pe :: (F ++ H).map Et.pe) := (hp'.append_right H).map Et.pe
      rw [hxp] at h1
      refine h1.trans ((E.perm.cons _).trans ?_)
      exact (List.perm_append_singleton ..).symm
    · rcases List.mem_cons.1 (hp'.mem_iff.1 hy) with h | h
      · have h4 : e.hold = 0 := by
          have : ¬ (e.as l).hold ≠ 0 := fun h5 => h1 (by unfold putBad; simp [h5])
          exact Decidable.not_not.1 this
        rw [h]
        have : x.pe.hold = e.hold := by rw [hxp]
        exact this.trans h4
      · exact E.free y h
    · rcases h with h | h
      · exact mem_qbl.2 (.inr (.inr (.inl h)))
      · exact mem_qbl.2 (.inl h)
    · rcases hsub b hb with h | h | h
      · exact .inl h
      · exact .inr (hfresh b h)
      · have := c24.size
        exact .inr (by omega)
  · simp only [nn_some, add_at, Nat.zero_add, Nat.add_zero]
    refine ⟨_, by rw [cell_blk b1d]; rfl, _, M1d.cell rfl, Sif_cases (fun g1 => ?_) fun g1 => bad (.inl (by simpa [En.as] using g1))⟩
    refine ⟨_, by rw [cell_blk b1d]; rfl, Sif_cases (fun g2 => ?_) fun g2 => bad (.inr (.inl (by simpa [En.as] using g2)))⟩
    refine ⟨_, by rw [cell_blk b1d]; rfl, Sif_cases (fun g3 => ?_) fun g3 => bad (.inr (.inr (.inl (by simpa [En.as] using g3))))⟩
    refine ⟨_, by rw [cell_blk b1d]; rfl, Sif_cases (fun g4 => ?_) fun g4 => bad (.inr (.inr (.inr (.inl (by simpa [En.as] using g4)))))⟩
    refine ⟨_, by rw [cell_blk b1d]; rfl, Sif_cases (fun g5 => ?_) fun g5 => bad (.inr (.inr (.inr (.inr (.inl (by simpa [En.as] using g5))))))⟩
    refine ⟨_, by rw [cell_blk b1d]; rfl, Sif_cases (fun g6 => ?_) fun g6 => bad (.inr (.inr (.inr (.inr (.inr (.inl (by simpa [En.as] using g6)))))))⟩
    refine ⟨_, by rw [cell_blk b1d]; rfl, Sif_cases (fun g7 => ?_) fun g7 => bad (.inr (.inr (.inr (.inr (.inr (.inr (.inl (by simpa [En.as] using g7))))))))⟩
    refine ⟨_, by rw [cell_blk b1d]; rfl, Sif_cases (fun g8 => ?_) fun g8 => bad (.inr (.inr (.inr (.inr (.inr (.inr (.inr (.inl (by simpa [En.as] using g8)))))))))⟩
    refine ⟨_, by rw [cell_blk b1d]; rfl, Sif_cases (fun g9 => bad (.inr (.inr (.inr (.inr (.inr (.inr (.inr (.inr (by simpa [En.as] using g9)))))))))) fun g9 => ?_⟩
    have hnb : ¬ putBad A (e.as l) := by
      unfold putBad En.as
      simp only [bne_iff_ne, bne_eq_false_iff_eq, Bool.not_eq_true', decide_eq_false_iff_not] at g1 g2 g3 g4 g5 g6 g7 g8 g9
      dsimp only
      omega
    refine ⟨_, _, _, by rw [cell_blk b1d]; rfl, Sif_cases (fun g10 => ?_) fun g10 => ?_⟩
    · have e1 : A.put (e.as l) = (2, A) := by
        unfold AQ.put
        have : (1048576 : Int) < (e.n : Int) := by simpa using g10
        rw [if_neg hnb, if_pos (by show 1048576 < l.length; omega)]
      rw [e1] at hk
      exact hk w1.drew _ (hQ0.ch c1d fun _ _ => id) (c1d.mono fun _ _ h => h.elim) fun b hb => .inl hb
    · have hl1 : ¬ 1048576 < (e.as l).l.length := by
        have : ¬ (1048576 : Int) < (e.n : Int) := by simpa using g10
        show ¬ 1048576 < l.length
        omega
      have c1dd : Ch (fun _ => False) w w1.drew.drew := c1d.trans' (Ch.drew _)
      refine ⟨_, _, _, M1dd.cell rfl, _, M1dd.cell rfl, _, M1dd.mlen, _, M1dd.cell rfl, ?_⟩
      have hww := wf.len
      have hm2 := wf.most2
      rw [wrap_small (by omega) (by omega)]
      refine Sif_cases (fun g11 => ?_) fun g11 => ⟨⟨hnb, hl1, ?_⟩, c1dd, b1⟩
      · have g11 : (F.length : Int) + (H.length : Int) ≥ A.cf.most := by simpa using g11
        have e1 : A.put (e.as l) = (170, A) := by
          unfold AQ.put
          rw [if_neg hnb, if_neg hl1, if_pos (by omega)]
        rw [e1] at hk
        exact hk w1.drew.drew _ (hQ0.ch c1dd fun _ _ => id) (c1dd.mono fun _ _ h => h.elim) fun b hb => .inl hb
      · have g11 : ¬ (F.length : Int) + (H.length : Int) ≥ A.cf.most := by simpa using g11
        omega
end Go.Proofs.YtipbbjnmpnfhpaaDoor
