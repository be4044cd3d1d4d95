/-
  The queue's Back.
-/
import Derived.Test.YtipbbjnmpnfhpaaDoorQtake
namespace Go.Proofs.YtipbbjnmpnfhpaaDoor
open Go Go.Sv Go.Heap Go.Qu Go.MapKept
set_option linter.unusedVariables false
set_option maxRecDepth 4000
theorem QF.findH {A : AQ} {F H : List Et} (E : QF A F H) (W : WQ A) {x : Et} (hx : x ∈ H) : A.find x.e.seq = some x.pe := find_of W (x := x.pe) (E.all (List.mem_append_right _ hx))
theorem QF.findF {A : AQ} {F H : List Et} (E : QF A F H) (W : WQ A) {x : Et} (hx : x ∈ F) : A.find x.e.seq = some x.pe := find_of W (x := x.pe) (E.all (List.mem_append_left _ hx))
theorem QF.notH {A : AQ} {F H : List Et} (E : QF A F H) {seq : Int} (hn : ∀ x ∈ H, x.e.seq ≠ seq) : ∀ y, A.find seq = some y → y.hold = 0 ∧ ∃ x ∈ F, x.pe = y := fun y hy => by
  obtain ⟨h1, h2⟩ := find_mem hy
  obtain ⟨x, hx, rfl⟩ := List.mem_map.1 (E.perm.mem_iff.2 h1)
  rcases List.mem_append.1 hx with hx | hx
  · exact ⟨E.free x hx, x, hx, rfl⟩
  · exact absurd h2 (hn x hx)
/-- one that is held is given back, as y -/
theorem QF.gave {A : AQ} {F F' H H' : List Et} {x y : Et} (E : QF A F H) (W : WQ A) (hp : H.Perm (x :: H')) (hF : F'.Perm (y :: F)) (hs : y.pe.seq = x.pe.seq) (hy : y.pe.hold = 0) (hheap : HeapFrom En.lt (atE (F'.map (·.e))) F'.length 0) : QF { A with L := setE y.pe A.L } F' H' := by
  have h1 : A.L.Perm (x.pe :: (F ++ H').map Et.pe) := E.perm.symm.trans ((((hp.append_left F).trans List.perm_middle)).map Et.pe)
  refine ⟨hheap, ?_, fun z hz => ?_, fun z hz => E.held z (hp.mem_iff.2 (List.mem_cons_of_mem _ hz))⟩
  · have h2 := map_one (f := fun z => if z.seq = y.pe.seq then y.pe else z) W.nd (h1.mem_iff.2 (by simp)) (fun z hz => by rw [if_neg (by rw [hs]; exact hz)]) h1
    rw [if_pos hs.symm] at h2
    refine List.Perm.trans ?_ h2.symm
    exact (hF.append_right H').map Et.pe
  · rcases List.mem_cons.1 (hF.mem_iff.1 hz) with rfl | hz
    · exact hy
    · exact E.free z hz
/-- one that is held has left -/
theorem QF.left {A : AQ} {F H H' : List Et} {x : Et} (E : QF A F H) (W : WQ A) (hp : H.Perm (x :: H')) : QF { A with L := delQ x.pe.seq A.L } F H' := by
  have h1 : A.L.Perm (x.pe :: (F ++ H').map Et.pe) := E.perm.symm.trans ((((hp.append_left F).trans List.perm_middle)).map Et.pe)
  exact ⟨E.heap, (filter_one W.nd h1).symm, E.free, fun z hz => E.held z (hp.mem_iff.2 (List.mem_cons_of_mem _ hz))⟩
theorem perm_of_mem {α : Type} {l : List α} {x : α} (h : x ∈ l) : ∃ l', l.Perm (x :: l') := by
  obtain ⟨l1, l2, rfl⟩ := List.append_of_mem h
  exact ⟨l1 ++ l2, List.perm_middle⟩
def Et.fail (x : Et) (f : Bool) : Et := { x with e := { x.e with hold := 0, cnt := if f = true then min (x.e.cnt + 1) 4294967295 else x.e.cnt } }
theorem fail_pe (x : Et) (f : Bool) : (x.fail f).pe = failE f x.pe := rfl
theorem qback_ok {w : World} {qb : Nat} {A : AQ} {B : Nat → Prop} {seq h : Int} {f : Bool} {K : Value → World → Prop} (Q : QK w qb A B)
    (hno : (A.back seq h f).1 = none → QPost w qb (A.back seq h f).2 B fun w' _ => K (.tuple #[Ez.e.val, .bool false, .int .i64 171]) w')
    (hyes : ∀ y d, (A.back seq h f).1 = some (y, d) → ∀ x : Et, x.pe = y → QPost w qb (A.back seq h f).2 B fun w' B' => Out w' B B' w.heap.size x → K (.tuple #[x.e.val, .bool d, .int .i64 0]) w') :
    callP Tryd.prog 16 [.pointer (some ⟨qb, 0, none⟩), .int .i64 seq, .int .i64 h, .bool f] w K := by
  have hQ0 := Q
  have hW := Q.wf.back seq h f
  obtain ⟨wf, F, H, p, c, own, r, M, E, rfl⟩ := Q
  have old := M.lt
  have hlen := E.len
  refine ok_queue_Queue_Back ?_
  unfold wp_queue_Queue_Back
  refine newB_blk fun w1 b1 c1 z1 => ?_
  have b1 : blk w1 w.heap.size = some Ez.e.cells := b1
  have M1 := M.ch c1 fun _ _ => id
  simp only [nn_some, add_at, Nat.zero_add]
  refine ⟨_, M1.cell rfl, ?_⟩
  have nope : (A.back seq h f) = (none, A) → ∀ w9, Ch (fun _ => False) w1 w9 → blk w9 w.heap.size = some Ez.e.cells → (∀ w', Ch (fun _ => False) w w' → K (.tuple #[Ez.e.val, .bool false, .int .i64 171]) w') := fun e1 w9 c9 b9 w' cw => by
    rw [e1] at hno
    exact hno rfl w' _ (hQ0.ch cw fun _ _ => id) (cw.mono fun _ _ h => h.elim) fun b hb => .inl hb
  rcases M1.look seq with ⟨x, hx, hs, hrun⟩ | ⟨hn, hrun⟩
  rotate_left
  · -- not among those that are held
    have e1 : (A.back seq h f) = (none, A) := by
      unfold AQ.back
      split
      · rfl
      · rename_i y hy
        have h0 := (E.notH hn y hy).1
        rw [if_pos (by omega)]
    refine ⟨_, _, _, _, _, _, _, _, _, _, hrun, newE (e0 := En0) (e := En0) fun w2 b2 c2 z2 => ⟨fun _ => False, fun _ h => h.elim, ?_⟩⟩
    refine Sif_false ?_
    have b12 : blk w2 w.heap.size = some Ez.e.cells := by rw [c2.blk (blk_lt b1) id]; exact b1
    refine reN (e := Ez.e) b12 fun w3 b3 c3 z3 => rdN b3 ?_
    exact nope e1 w2 c2 b12 w3 ((c1.trans' c2).trans c3 fun y hy h => by omega)
  subst hs
  refine ⟨_, _, _, _, _, _, _, _, _, _, hrun, newE (e0 := En0) (e := x.e) fun w2 b2 c2 z2 => ?_⟩
  have b12 : blk w2 w.heap.size = some Ez.e.cells := by rw [c2.blk (blk_lt b1) id]; exact b1
  have c02 := c1.trans' c2
  have hfind := E.findH wf hx
  have hxm := E.all (List.mem_append_right F hx)
  have hok := wf.ok _ hxm
  have hhold := E.held x hx
  have hh0 : 0 ≤ x.e.hold := hok.hold
  refine ⟨fun w10 => w10 = w2 ∧ x.e.hold = h, ?_, ?_⟩
  rotate_left
  · refine Sif_true ?_
    simp only [add_at, Nat.zero_add]
    refine ⟨_, by rw [cell_blk b2]; rfl, Sif_cases (fun g => ?_) fun g => ⟨by trivial, by simpa using g⟩⟩
    have g : x.e.hold ≠ h := by simpa using g
    have e1 : (A.back x.e.seq h f) = (none, A) := by
      unfold AQ.back
      rw [hfind]
      show (if h < 1 ∨ x.e.hold ≠ h then _ else _) = _
      rw [if_pos (.inr g)]
    refine reN (e := Ez.e) b12 fun w3 b3 c3 z3 => rdN b3 ?_
    exact nope e1 w2 c2 b12 w3 (c02.trans c3 fun y hy h => by omega)
  rintro _ ⟨rfl, hheld⟩
  rename_i w2
  obtain ⟨H', hp⟩ := perm_of_mem hx
  have M2 := M1.ch c2 fun _ _ => id
  simp only [nn_some, add_at, Nat.zero_add]
  refine ⟨_, M2.cell rfl, ?_⟩
  have hndH : (H.map fun x : Et => x.e.seq).Nodup := by
    have := E.ndq wf
    rw [List.map_append] at this
    exact (List.nodup_append.1 this).2.1
  obtain ⟨w3, hdel, M3, hx3, hxB, hsub, c3⟩ := M2.del (ty := 0) hp hndH
  refine ⟨w3, hdel, ?_⟩
  have hr : r < w.heap.size := old r (mem_qbl.2 (.inr (.inl rfl)))
  have hrm : r ∈ qbl qb r own F H := mem_qbl.2 (.inr (.inl rfl))
  have b23 : blk w3 w1.heap.size = some x.e.cells := by rw [c3.blk (blk_lt b2) (by omega)]; exact b2
  have b13 : blk w3 w.heap.size = some Ez.e.cells := by rw [c3.blk (blk_lt b12) (by omega)]; exact b12
  have c03 : Ch (fun b => b ∈ qbl qb r own F H) w w3 := (c02.mono fun _ _ h => h.elim).trans' (c3.mono fun b _ h => h ▸ hrm)
  have s3 := c3.size
  -- what comes to be known
  have hbk : A.back x.e.seq h f = if deadE A.cf f (failE f x.pe) = true then (some (failE f x.pe, true), { A with L := delQ x.e.seq A.L }) else (some (failE f x.pe, false), { A with L := setE (failE f x.pe) A.L }) := by
    unfold AQ.back
    rw [hfind]
    show (if h < 1 ∨ x.e.hold ≠ h then _ else _) = _
    rw [if_neg (by omega)]
  refine st_blk b23 (by simp [En.cells]) fun w4 b4 c4 z4 => ?_
  have b14 : blk w4 w.heap.size = some Ez.e.cells := by rw [c4.blk (blk_lt b13) (by omega)]; exact b13
  have hc1 := hok.cnt0
  have hc2 := hok.cnt1
  have hc1 : 0 ≤ x.e.cnt := hc1
  have hc2 : x.e.cnt ≤ 4294967295 := hc2
  have big : ∀ b ∈ qbl qb r own F H', ¬ w.heap.size ≤ b := fun b hb hle => by have := old b (hsub b hb); omega
  have bigx : ∀ b ∈ EtE.B x, ¬ w.heap.size ≤ b := fun b hb hle => by have := old b (hxB b hb).1; omega
  refine ⟨fun w5 => deadE A.cf f (failE f x.pe) = false ∧ blk w5 w1.heap.size = some (x.fail f).e.cells ∧ blk w5 w.heap.size = some Ez.e.cells ∧ Ch (fun b => w.heap.size ≤ b) w3 w5, ?_, ?_⟩
  · rintro w5 ⟨hdead, b25, b15, c35⟩
    rw [hdead] at hbk
    simp only [Bool.false_eq_true, if_false] at hbk
    rw [hbk] at hyes hW
    have b25d : blk w5.drew w1.heap.size = some (x.fail f).e.cells := b25
    have c35d := c35.trans' (Ch.drew w5)
    have M5 : QM w5.drew qb A.cf A.last F H' p c own r := M3.ch c35d big
    have hx5 : EtE.Ok w5.drew (x.fail f) := EtE.ch hx3 c35d bigx
    refine rdN b25d ?_
    refine qpush_ok M5 E.heap (by have := wf.len; have := wf.most2; omega) hx5 (fun b hb => (hxB b hb).2) fun w6 F' p' c' own' hp6 hheap6 M6 hsub6 c6 => ⟨rfl, ?_⟩
    have hin : ∀ b, own = some b ∨ b = qb → b ∈ qbl qb r own F H := fun b h => by
      rcases h with h | h
      · exact mem_qbl.2 (.inr (.inr (.inl h)))
      · exact mem_qbl.2 (.inl h)
    have c06 : Ch (fun b => b ∈ qbl qb r own F H) w w6 := (c03.trans c35d fun b hb h => by omega).trans' (c6.mono fun b _ h => hin b h)
    have kp6 : ∀ k v, w.heap.size ≤ k → blk w5.drew k = some v → blk w6 k = some v := fun k v hk hb => by
      rw [c6.blk (blk_lt hb) fun h => by have := old k (hin k h); omega]; exact hb
    refine rdN (kp6 _ _ (by omega) b25d) ?_
    have hx6 : EtE.Ok w6 (x.fail f) := M6.dat _ (List.mem_append_left _ (hp6.mem_iff.2 (by simp)))
    refine own_ok (e := (x.fail f).e) hx6.rd (by have := hok.len; have h9 : x.pe.l.length = x.e.n := EtE.len hx6; have h10 : (x.fail f).e.n = x.e.n := rfl; omega) fun w7 y hy hyp hyn c7 => isE ?_
    have kp7 : ∀ k v, w.heap.size ≤ k → blk w5.drew k = some v → blk w7 k = some v := fun k v hk hb => by
      rw [c7.blk (blk_lt (kp6 k v hk hb)) id]; exact kp6 k v hk hb
    refine reN (e := y.e) (kp7 _ _ (by omega) b15) fun w8 b8 c8 z8 => rdN b8 ?_
    have s6 := c6.size
    have s5 := c35d.size
    have c68 : Ch (fun b => w.heap.size = b) w6 w8 := (c7.mono fun _ _ h => h.elim).trans' (c8.mono fun b _ h => h.symm)
    have hQ : ∀ b ∈ qbl qb r own' F' H', b ∈ qbl qb r own F H ∨ w.heap.size < b := fun b hb => by
      rcases hsub6 b hb with q | q | q
      · exact .inl (hsub b q)
      · exact .inl (hxB b q).1
      · exact .inr (by omega)
    have M8 : QM w8 qb A.cf A.last F' H' p' c' own' r := M6.ch c68 fun b hb he => by
      rcases hQ b hb with q | q
      · have := old b q; omega
      · omega
    refine hyes _ _ rfl y hyp w8 _ ⟨hW, F', H', p', c', own', r, M8, E.gave wf hp hp6 rfl rfl hheap6, rfl⟩ (c06.trans c68 fun b hb h => by omega) (fun b hb => (hQ b hb).imp id fun h => by omega) ⟨EtE.ch hy c8 fun b hb h => ?_, fun b hb => ⟨fun h => ?_, .inr ?_⟩⟩
    · have := hyn b (by simpa [EtE, Option.mem_toList] using hb)
      omega
    · have := hyn b hb
      rcases hQ b h with q | q
      · have := old b q; omega
      · have := M6.lt b h; omega
    · have := hyn b hb
      omega
  · have c34 : Ch (fun b => w.heap.size ≤ b) w3 w4 := c4.mono fun b _ h => by omega
    refine Sif_cases (fun hf => ?_) fun hf => ?_
    rotate_left
    · subst hf
      exact ⟨rfl, b4, b14, c34⟩
    subst hf
    have hwr : IntKind.wrap .i64 (x.e.cnt + 1) = x.e.cnt + 1 := wrap_id (by omega) (by omega)
    refine ⟨_, by rw [cell_blk b4]; rfl, ?_⟩
    rw [hwr]
    refine st_blk b4 (by simp [En.cells]) fun w5 b5 c5 z5 => ?_
    have b5 : blk w5 w1.heap.size = some (x.fail true).e.cells := b5
    have b15 : blk w5 w.heap.size = some Ez.e.cells := by rw [c5.blk (blk_lt b14) (by omega)]; exact b14
    have c35 := c34.trans' (c5.mono (S' := fun b => w.heap.size ≤ b) fun b _ h => by omega)
    have c35d := c35.trans' (Ch.drew w5)
    have b5d : blk w5.drew w1.heap.size = some (x.fail true).e.cells := b5
    have b15d : blk w5.drew w.heap.size = some Ez.e.cells := b15
    have M5 : QM w5.drew qb A.cf A.last F H' p c own r := M3.ch c35d big
    have hx5 : EtE.Ok w5.drew (x.fail true) := EtE.ch hx3 c35d bigx
    have dead : deadE A.cf true (failE true x.pe) = (decide (0 < A.cf.tries) && decide (A.cf.tries ≤ (x.fail true).e.cnt)) := by unfold deadE; rw [Bool.true_and]; rfl
    refine ⟨_, M5.cell rfl, Sif_cases (fun g1 => ?_) fun g1 => ?_⟩
    rotate_left
    · have g1 : ¬ 0 < A.cf.tries := by simpa using g1
      exact ⟨by rw [dead, decide_eq_false g1, Bool.false_and], b5d, b15d, c35d⟩
    have g1 : 0 < A.cf.tries := by simpa using g1
    refine ⟨_, by rw [cell_blk b5d]; rfl, _, M5.cell rfl, Sif_cases (fun g2 => ?_) fun g2 => ?_⟩
    rotate_left
    · have g2 : ¬ A.cf.tries ≤ (x.fail true).e.cnt := by simpa using g2
      exact ⟨by rw [dead, decide_eq_false g2, Bool.and_false], b5d, b15d, c35d⟩
    have g2 : A.cf.tries ≤ (x.fail true).e.cnt := of_decide_eq_true g2
    rw [dead, decide_eq_true g1, decide_eq_true g2] at hbk
    simp only [Bool.and_self, if_true] at hbk
    rw [hbk] at hyes hW
    refine rdN b5d (reN (e := (x.fail true).e) b15d fun w6 b6 c6 z6 => rdN b6 ?_)
    have c36 : Ch (fun b => w.heap.size ≤ b) w3 w6 := c35d.trans' (c6.mono fun b _ h => by omega)
    have M6 : QM w6 qb A.cf A.last F H' p c own r := M3.ch c36 big
    have hx6 : EtE.Ok w6 (x.fail true) := EtE.ch hx3 c36 bigx
    refine hyes _ _ rfl (x.fail true) rfl w6 _ ⟨hW, F, H', p, c, own, r, M6, E.left wf hp, rfl⟩ (c03.trans c36 fun b hb h => by omega) (fun b hb => .inl (hsub b hb)) ⟨hx6, fun b hb => ?_⟩
    have hb : x.own = some b := hb
    have hb' : b ∈ EtE.B x := by simpa [EtE, Option.mem_toList] using hb
    exact ⟨(hxB b hb').2, .inl (hxB b hb').1⟩
end Go.Proofs.YtipbbjnmpnfhpaaDoor
