/-
  The queue's Take, where all fit (nil).
-/
import Derived.Test.YtipbbjnmpnfhpaaDoorQput
import Derived.Test.YtipbbjnmpnfhpaaDoorQkeep
import Derived.Test.YtipbbjnmpnfhpaaDoorQtakeWp
import Derived.Test.YtipbbjnmpnfhpaaDoorSvDefer
namespace Go.Proofs.YtipbbjnmpnfhpaaDoor
open Go Go.Sv Go.Heap Go.Qu Go.MapKept
set_option linter.unusedVariables false
set_option maxRecDepth 4000
theorem takeD_of {cap0 cap1 : Option Addr} {w : World} {K : World → Prop} (h : wp_queue_Queue_Take_1 cap0 cap1 w fun _ w' => K w') : callD Tryd.prog 25 [.pointer cap0, .pointer cap1] w K :=
  callD_of Tryd.func25 (fun c hc => by cases hc; kernel_rfl) ((eq_queue_Queue_Take_1 cap0 cap1 w fun _ w' => K w').symm ▸ h)
theorem takeD0 {w : World} {k : Nat} {cap1 : Option Addr} {K : World → Prop} (hb : blk w k = some [.slice none 0 0]) (hk : K w) : callD Tryd.prog 25 [.pointer (some ⟨k, 0, none⟩), .pointer cap1] w K := by
  refine takeD_of ?_
  unfold wp_queue_Queue_Take_1
  rw [nn_some]
  refine ⟨none, 0, 0, by rw [cell_blk hb]; rfl, fun m n1 w1 => n1 = 0 ∧ w1 = w, ⟨0, rfl, rfl⟩, ?_⟩
  rintro m n1 w1 ⟨rfl, rfl⟩
  refine Sif_cases (fun h => ?_) fun _ => hk
  simp at h
def Et.setH (x : Et) (h : Int) : Et := { x with e := { x.e with hold := h } }
theorem setH_pe (x : Et) (h : Int) : (x.setH h).pe = { x.pe with hold := h } := rfl
theorem setH_ok {w : World} {x : Et} {h : Int} (k : EtE.Ok w x) : EtE.Ok w (x.setH h) := k
/-- one is taken -/
theorem QF.took {A : AQ} {F F2 F' H P : List Et} {x : Et} {h : Int} (E : QF A F H) (W : WQ A) (hp : F.Perm (x :: F')) (hh : h ≠ 0) (hheap : HeapFrom En.lt (atE (F'.map (·.e))) F'.length 0) : QF { A with L := setHold x.pe.seq h A.L } F' (x.setH h :: H) := by
  have h1 : A.L.Perm (x.pe :: (F' ++ H).map Et.pe) := E.perm.symm.trans ((hp.append_right H).map Et.pe)
  refine ⟨hheap, ?_, fun y hy => E.free y (hp.mem_iff.2 (List.mem_cons_of_mem _ hy)), fun y hy => ?_⟩
  · have h2 := map_one (f := fun y => if y.seq = x.pe.seq then { y with hold := h } else y) W.nd (h1.mem_iff.2 (by simp)) (fun y hy => by rw [if_neg hy]) h1
    rw [if_pos rfl] at h2
    refine List.Perm.trans ?_ h2.symm
    exact (List.perm_middle (l₁ := F') (a := x.setH h) (l₂ := H)).map Et.pe
  · rcases List.mem_cons.1 hy with rfl | hy
    · exact hh
    · exact E.held y hy
theorem en_assert {e : En} {w : World} {K : Int → Int → Int → Bool → Int → Int → Option Addr → Nat → Nat → Prop} (hk : K e.seq e.pri e.exp e.dur e.cnt e.hold e.p e.n e.c) :
    ∃ n n1 n2 b n3 n4 p n5 c, (Instr.typeAssert (.iface 37 e.val) 20 37 false).run Tryd.prog w = .ok (.agg #[.int .i64 n, .int .i64 n1, .int .i64 n2, .bool b, .int .i64 n3, .int .i64 n4, .slice p n5 c]) w ∧ K n n1 n2 b n3 n4 p n5 c := ⟨_, _, _, _, _, _, _, _, _, isEntry _ _, hk⟩
theorem qtake_ok {w : World} {qb : Nat} {A : AQ} {B : Nat → Prop} {h : Int} {K : Value → World → Prop} (Q : QK w qb A B)
    (hno : (A.take h fun _ => true).1 = none → QPost w qb (A.take h fun _ => true).2 B fun w' _ => K (.tuple #[Ez.e.val, .bool false]) w')
    (hyes : ∀ y, (A.take h fun _ => true).1 = some y → ∀ x : Et, x.pe = y → QPost w qb (A.take h fun _ => true).2 B fun w' B' => Out w' B B' w.heap.size x → K (.tuple #[x.e.val, .bool true]) w') :
    callP Tryd.prog 13 [.pointer (some ⟨qb, 0, none⟩), .int .i64 h, .nilFunc] w K := by
  have hQ0 := Q
  have hW := Q.wf.take h fun _ => true
  obtain ⟨wf, F, H, p, c, own, r, M, E, rfl⟩ := Q
  have hlen := E.len
  have hlt := M.lt
  refine ok_queue_Queue_Take_n ?_
  unfold wp_queue_Queue_Take_n
  refine newB_blk fun w1 b1 c1 z1 => newB_blk fun w2 b2 c2 z2 => ?_
  have b12 : blk w2 w.heap.size = some [.pointer (some ⟨qb, 0, none⟩)] := by rw [c2.blk (blk_lt b1) id]; exact b1
  have b2 : blk w2 w1.heap.size = some Ez.e.cells := b2
  have c02 := c1.trans' c2
  simp only [add_at, Nat.zero_add]
  refine Sif_cases (fun hh => ?_) fun hh => ?_
  · have hh : h < 1 := by simpa using hh
    have e1 : (A.take h fun _ => true) = (none, A) := by unfold AQ.take; rw [if_pos hh]
    rw [e1] at hno
    refine reN (e := Ez.e) b2 fun w3 b3 c3 z3 => rdN b3 ?_
    have c03 : Ch (fun _ => False) w w3 := c02.trans c3 fun x hx h => by omega
    exact hno rfl w3 _ (hQ0.ch c03 fun _ _ => id) (c03.mono fun _ _ h => h.elim) fun b hb => .inl hb
  have hh : ¬ h < 1 := by simpa using hh
  refine newB_blk fun w3 b3 c3 z3 => ?_
  have c03 := c02.trans' c3
  have b13 : blk w3 w.heap.size = some [.pointer (some ⟨qb, 0, none⟩)] := by rw [c3.blk (blk_lt b12) id]; exact b12
  have b23 : blk w3 w1.heap.size = some Ez.e.cells := by rw [c3.blk (blk_lt b2) id]; exact b2
  have M3 := M.ch c03 fun _ _ => id
  refine ⟨fun _ w4 => w4 = w3, ⟨0, rfl⟩, ?_⟩
  rintro _ w4 rfl
  refine ⟨_, by rw [cell_blk b13]; rfl, ?_⟩
  simp only [nn_some, add_at, Nat.zero_add]
  refine ⟨_, _, _, M3.cell rfl, Sif_cases (fun hn => ?_) fun hn => ?_⟩
  rotate_left
  · have h0 : F = [] := by
      have : ¬ (F.length : Int) > 0 := by simpa using hn
      exact List.eq_nil_of_length_eq_zero (by omega)
    have e1 : (A.take h fun _ => true) = (none, A) := by
      unfold AQ.take
      rw [if_neg hh]
      have : A.frees = [] := by
        have := E.frees wf (S := []) .nil (by rw [h0]; exact .refl _)
        exact this.symm
      rw [this]; rfl
    rw [e1] at hno
    refine reN (e := Ez.e) b23 fun w5 b5 c5 z5 => ?_
    have b35 : blk w5 w2.heap.size = some [.slice none 0 0] := by rw [c5.blk (blk_lt b3) (by omega)]; exact b3
    refine takeD0 b35 (rdN b5 ?_)
    have c05 : Ch (fun _ => False) w w5 := c03.trans c5 fun x hx h => by omega
    exact hno rfl w5 _ (hQ0.ch c05 fun _ _ => id) (c05.mono fun _ _ h => h.elim) fun b hb => .inl hb
  have h0 : F ≠ [] := fun e => by rw [e] at hn; simp at hn
  refine ⟨_, by rw [cell_blk b13]; rfl, ?_⟩
  rw [nn_some, add_at, Nat.zero_add]
  refine qpop_ok M3 E.heap (by have := wf.len; have := wf.most2; omega) h0 fun w5 F' x hp hmin hheap' M5 hx hxB hsub c5 => ⟨_, rfl, en_assert ?_⟩
  have hord := ordered_min (E.ndf wf) hp hmin
  have hfr : A.frees = x.pe :: ordered (F'.map Et.pe) := by
    rw [← hord]
    exact (E.frees wf (ordered_sorted (by rw [List.map_map]; exact E.ndf wf)) (ordered_perm _)).symm
  have e1 : (A.take h fun _ => true) = (some { x.pe with hold := h }, { A with L := setHold x.pe.seq h A.L }) := by
    unfold AQ.take
    rw [if_neg hh, hfr]; rfl
  rw [e1] at hyes hW
  have hin : ∀ b, own = some b ∨ b = qb → b ∈ qbl qb r own F H := fun b h => by
    rcases h with h | h
    · exact mem_qbl.2 (.inr (.inr (.inl h)))
    · exact mem_qbl.2 (.inl h)
  have c05 : Ch (fun b => b ∈ qbl qb r own F H) w w5 := (c03.mono fun _ _ h => h.elim).trans' (c5.mono fun b _ h => hin b h)
  have old : ∀ b ∈ qbl qb r own F H, b < w.heap.size := hlt
  have keep : ∀ k v, w.heap.size ≤ k → blk w4 k = some v → blk w5 k = some v := fun k v hk hb => by
    rw [c5.blk (blk_lt hb) fun h => by have := old k (hin k h); omega]; exact hb
  have hz1 : w.heap.size ≤ w1.heap.size := by omega
  refine newE (e0 := En0) (e := x.e) fun w6 b6 c6 z6 => ⟨fun _ => False, fun _ h => h.elim, ?_⟩
  have b16 : blk w6 w.heap.size = some [.pointer (some ⟨qb, 0, none⟩)] := by rw [c6.blk (blk_lt (keep _ _ (Nat.le_refl _) b13)) id]; exact keep _ _ (Nat.le_refl _) b13
  have b26 : blk w6 w1.heap.size = some Ez.e.cells := by rw [c6.blk (blk_lt (keep _ _ hz1 b23)) id]; exact keep _ _ hz1 b23
  have b36 : blk w6 w2.heap.size = some [.slice none 0 0] := by rw [c6.blk (blk_lt (keep _ _ (by omega) b3)) id]; exact keep _ _ (by omega) b3
  have s5 := c5.size
  have s3 : w4.heap.size = w.heap.size + 3 := by omega
  simp only [add_at, Nat.zero_add]
  refine st_blk b6 (by simp [En.cells]) fun w7 b7 c7 z7 => ?_
  have b7 : blk w7 w5.heap.size = some (x.setH h).e.cells := b7
  have b7d : blk w7.drew w5.heap.size = some (x.setH h).e.cells := b7
  have b17 : blk w7.drew w.heap.size = some [.pointer (some ⟨qb, 0, none⟩)] := by rw [blk_drew, c7.blk (blk_lt b16) (by omega)]; exact b16
  have b27 : blk w7.drew w1.heap.size = some Ez.e.cells := by rw [blk_drew, c7.blk (blk_lt b26) (by omega)]; exact b26
  have b37 : blk w7.drew w2.heap.size = some [.slice none 0 0] := by rw [blk_drew, c7.blk (blk_lt b36) (by omega)]; exact b36
  have c57 : Ch (fun _ => False) w5 w7.drew := ((c6.trans c7 fun y hy h => by omega)).trans' (Ch.drew w7)
  have M7 : QM w7.drew qb A.cf A.last F' H p c own r := M5.ch c57 fun _ _ => id
  have hx7 : EtE.Ok w7.drew (x.setH h) := EtE.ch hx c57 fun _ _ => id
  refine ⟨_, by rw [cell_blk b17]; rfl, ?_⟩
  simp only [nn_some, add_at, Nat.zero_add]
  refine ⟨_, M7.cell rfl, _, by rw [cell_blk b7d]; rfl, rdN b7d ?_⟩
  have hnd := E.ndq wf
  have hpe : (F ++ H).Perm (x :: (F' ++ H)) := hp.append_right H
  rw [(hpe.map _).nodup_iff, List.map_cons] at hnd
  obtain ⟨w8, hrun, M8, hsub8, c8⟩ := M7.add (x := x.setH h) hx7 (fun b hb => (hxB b hb).2) fun y hy e => (List.nodup_cons.1 hnd).1 (List.mem_map.2 ⟨y, List.mem_append_right _ hy, e⟩)
  refine ⟨w8, hrun, ?_⟩
  have hr : r < w.heap.size := hlt r (mem_qbl.2 (.inr (.inl rfl)))
  have kp8 : ∀ k v, w.heap.size ≤ k → blk w7.drew k = some v → blk w8 k = some v := fun k v hk hb => by
    rw [c8.blk (blk_lt hb) (by omega)]; exact hb
  refine rdN (kp8 _ _ (by omega) b7d) ?_
  have hx8 : EtE.Ok w8 (x.setH h) := M8.dat _ (by simp)
  have hl8 := EtE.len hx8
  have hok : EOk x.pe := wf.ok _ (E.all (hpe.mem_iff.2 (by simp)))
  refine own_ok (e := (x.setH h).e) hx8.rd (by have := hok.len; have h9 : x.pe.l.length = x.e.n := hl8; have h10 : (x.setH h).e.n = x.e.n := rfl; omega) fun w9 y hy hyp hyn c9 => isE ?_
  have kp9 : ∀ k v, w.heap.size ≤ k → blk w7.drew k = some v → blk w9 k = some v := fun k v hk hb => by
    rw [c9.blk (blk_lt (kp8 k v hk hb)) id]; exact kp8 k v hk hb
  refine reN (e := y.e) (kp9 _ _ (by omega) b27) fun w10 b10 c10 z10 => ?_
  have b310 : blk w10 w2.heap.size = some [.slice none 0 0] := by rw [c10.blk (blk_lt (kp9 _ _ (by omega) b37)) (by omega)]; exact kp9 _ _ (by omega) b37
  refine takeD0 b310 (rdN b10 ?_)
  have s8 := c8.size
  have s7 := c57.size
  have c810 : Ch (fun b => w.heap.size ≤ b) w8 w10 := (c9.mono fun _ _ h => h.elim).trans' (c10.mono fun b _ h => by omega)
  have M10 : QM w10 qb A.cf A.last F' (x.setH h :: H) p c own r := M8.ch c810 fun b hb hle => by
    rcases hsub8 b hb with q | q
    · have := old b (hsub b q); omega
    · have := old b (hxB b q).1; omega
  have hQ : ∀ b ∈ qbl qb r own F' (x.setH h :: H), b ∈ qbl qb r own F H := fun b hb => by
    rcases hsub8 b hb with q | q
    · exact hsub b q
    · exact (hxB b q).1
  refine hyes _ rfl y hyp w10 _ ⟨hW, F', _, p, c, own, r, M10, E.took (P := []) (F2 := []) wf hp (by omega) hheap', rfl⟩ ?_ (fun b hb => .inl (hQ b hb)) ⟨EtE.ch hy c10 fun b hb h => ?_, fun b hb => ⟨fun h => ?_, .inr ?_⟩⟩
  · refine (c05.trans' ((c57.mono fun _ _ h => h.elim).trans' (c8.mono fun b _ h => h ▸ mem_qbl.2 (.inr (.inl rfl))))).trans c810 fun b hb h => by omega
  · have := hyn b (by simpa [EtE, Option.mem_toList] using hb)
    omega
  · have := hyn b hb
    have := old b (hQ b h)
    omega
  · have := hyn b hb
    omega
end Go.Proofs.YtipbbjnmpnfhpaaDoor
