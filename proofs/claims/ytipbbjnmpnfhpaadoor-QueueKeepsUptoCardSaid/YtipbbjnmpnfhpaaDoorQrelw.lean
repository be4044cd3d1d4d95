/-
  The queue's Release, its walk.
-/
import Derived.Test.YtipbbjnmpnfhpaaDoorQrel
namespace Go.Proofs.YtipbbjnmpnfhpaaDoor
open Go Go.Sv Go.Heap Go.Qu Go.MapKept
set_option linter.unusedVariables false
set_option maxRecDepth 4000
theorem putSeg_all {cs vs : List Value} (h : cs.length = vs.length) : putSeg cs 0 vs = vs := by
  unfold putSeg
  simp [h]
/-- one comes out of a range over the map -/
theorem next_et {ty : TypeId} {w : World} {it r : Nat} {m left : List (Value × Value)} {H : List Et} (h : It (.int .i64) w it r m left) (hp : left.Perm (H.map pairE)) :
    (H = [] ∧ (Instr.next (.pointer (some ⟨it, 0, none⟩)) false ty).run Tryd.prog w = .ok (.tuple #[.bool false]) w) ∨
    ∃ x H' left' w', H.Perm (x :: H') ∧ left'.Perm (H'.map pairE) ∧ (Instr.next (.pointer (some ⟨it, 0, none⟩)) false ty).run Tryd.prog w = .ok (.tuple #[.bool true, .int .i64 x.e.seq, x.e.val]) w' ∧
      (Instr.entry (.pointer (some ⟨it, 0, none⟩))).run Tryd.prog w' = .ok (.tuple #[.int .i64 x.e.seq, x.e.val]) w' ∧ It (.int .i64) w' it r m left' ∧ Ch (· = it) w w' ∧ w'.heap.size = w.heap.size := by
  rcases next_run (P := Tryd.prog) (ty := ty) h with ⟨rfl, hrun⟩ | ⟨k, v, l1, l2, w', rfl, hmem, hrun, hent, hit, hch, hz⟩
  · left
    have := hp.length_eq
    exact ⟨List.eq_nil_of_length_eq_zero (by simpa using this.symm), hrun⟩
  · right
    have h1 : (H.map pairE).Perm ((k, v) :: (l1 ++ l2)) := hp.symm.trans (List.perm_middle)
    obtain ⟨L', h2, h3⟩ := perm_lift' h1
    cases L' with
    | nil => simp at h3
    | cons x H' =>
      rw [List.map_cons] at h3
      obtain ⟨h4, h5⟩ := List.cons.inj h3
      unfold pairE at h4
      obtain ⟨rfl, rfl⟩ := Prod.mk.inj h4
      exact ⟨x, H', l1 ++ l2, w', h2, .of_eq h5.symm, hrun, hent, hit, hch, hz⟩
theorem qrel_ok {w : World} {qb : Nat} {A : AQ} {B : Nat → Prop} {h : Int} {K : Value → World → Prop} (Q : QK w qb A B)
    (hk : ∀ p n c own', n = (A.release h).1.length → QPost w qb (A.release h).2 B fun w' B' => Ow w' p n c 1 ((A.release h).1.flatMap iC) own' → (∀ b, own' = some b → ¬ B' b ∧ w.heap.size ≤ b) → K (.slice p n c) w') :
    callP Tryd.prog 18 [.pointer (some ⟨qb, 0, none⟩), .int .i64 h] w K := by
  have hW := Q.wf.release h
  obtain ⟨wf, F, H, p, c, own, r, M, E, rfl⟩ := Q
  have old := M.lt
  have hlen := E.len
  have hwl := wf.len
  have hm2 := wf.most2
  have hnd := E.ndq wf
  rw [List.map_append] at hnd
  obtain ⟨hndF, hndH, hdisj⟩ := List.nodup_append.1 hnd
  have hrq : r ∈ qbl qb r own F H := mem_qbl.2 (.inr (.inl rfl))
  refine ok_queue_Queue_Release ?_
  unfold wp_queue_Queue_Release
  rw [nn_some, add_at, Nat.zero_add]
  refine ⟨_, M.cell rfl, ?_⟩
  obtain ⟨m0, hm0, hmp0⟩ := M.map
  obtain ⟨w1, hrun1, hit1, c1, z1⟩ := range_run Tryd.underlying59 hm0
  refine ⟨_, w1, hrun1, ?_⟩
  refine ⟨fun m p1 n1 c1' w2 => ∃ (l : List Int) (Hl : List Et) (left : List (Value × Value)) (ow : Option Nat), n1 = l.length ∧ Ow w2 p1 n1 c1' 1 (l.flatMap iC) ow ∧ (∀ b, ow = some b → w.heap.size < b) ∧ It (.int .i64) w2 w.heap.size r m0 left ∧ left.Perm (Hl.map pairE) ∧ m = Hl.length ∧ (∀ x ∈ Hl, x ∈ H) ∧ (l ++ (Hl.filter fun x => decide (x.e.hold = h)).map fun x => x.e.seq).Perm ((H.filter fun x => decide (x.e.hold = h)).map fun x => x.e.seq) ∧ l.length + Hl.length ≤ H.length ∧ Ch (fun _ => False) w w2,
    ⟨H.length, [], H, m0, none, rfl, Ow.nil, (fun b hb => by cases hb), hit1, hmp0, rfl, (fun _ hx => hx), by simp, by simp, c1⟩, ?_⟩
  rintro m p1 n1 c1' w2 ⟨l, Hl, left, ow, rfl, o2, fr2, it2, hlp, rfl, hsub2, hacc, hcnt, c2⟩
  have itlt := it2.lt
  have hr : r < w.heap.size := old r hrq
  rcases next_et (ty := 0) it2 hlp with ⟨rfl, hrun2⟩ | ⟨x, Hl', left', w3, hpx, hlp', hrun2, hent, it3, c3, z3⟩
  · -- all have come out
    refine .inl ⟨w2, hrun2, ?_⟩
    rw [List.filter_nil, List.map_nil, List.append_nil] at hacc
    have hout := rel_out E wf h hacc
    refine sortI_ok o2 (by omega) fun w3 o3 c3 => ⟨rfl, ?_⟩
    rw [hout] at o3
    have hol : (A.release h).1.length = l.length := by rw [← hout, List.length_mergeSort]
    have c03 : Ch (fun b => w.heap.size < b) w w3 := (c2.mono fun _ _ h => h.elim).trans' (c3.mono fun b _ hb => fr2 b hb)
    have M3 : QM w3 qb A.cf A.last F H p c own r := M.ch c03 fun b hb hlt => by have := old b hb; omega
    obtain ⟨out, hout'⟩ : ∃ out, out = (A.release h).1 := ⟨_, rfl⟩
    rw [← hout'] at o3 hol
    refine ⟨fun m1 n1 w5 => ∃ (j : Nat) (D Hj Fj : List Et) (pj : Option Addr) (cj : Nat) (ownj : Option Nat), n1 = (j : Int) ∧ j ≤ out.length ∧ m1 = out.length - j ∧ H.Perm (D ++ Hj) ∧ D.map (fun x : Et => x.e.seq) = out.take j ∧ Fj.Perm (D.map (·.setH 0) ++ F) ∧ HeapFrom En.lt (atE (Fj.map (·.e))) Fj.length 0 ∧ QM w5 qb A.cf A.last Fj Hj pj cj ownj r ∧
        (∀ b ∈ qbl qb r ownj Fj Hj, b ∈ qbl qb r own F H ∨ (w.heap.size ≤ b ∧ ow ≠ some b)) ∧ Ow w5 p1 l.length c1' 1 (out.flatMap iC) ow ∧ Ch (fun b => b ∈ qbl qb r own F H) w w5 ∧ w3.heap.size ≤ w5.heap.size, ⟨out.length, 0, [], H, F, p, c, own, rfl, Nat.zero_le _, rfl, .refl _, rfl, .refl _, E.heap, M3, fun b hb => .inl hb, o3, (c03.mono fun b hb hlt => by omega), Nat.le_refl _⟩, ?_⟩
    rintro m1 n1 w5 ⟨j, D, Hj, Fj, pj, cj, ownj, rfl, hj, rfl, hpD, hDs, hpF, hheap, M5, hsub5, o5, c5, s5⟩
    have c5w3 : ∀ b, ow = some b → b < w5.heap.size := o5.blt
    refine Sif_cases (fun hlt => ?_) fun hge => ?_
    · have hlt : j < out.length := by
        have : (j : Int) < (l.length : Int) := by simpa using hlt
        omega
      obtain ⟨seq, hseq⟩ : ∃ s, out[j]? = some s := ⟨_, List.getElem?_eq_getElem hlt⟩
      refine ⟨by omega, by omega, ?_⟩
      obtain ⟨kb, o, hpp, hc⟩ := o5.rd.at iC_len hseq (by decide)
      subst hpp
      simp only [nn_some, add_at, Int.toNat_natCast, Nat.zero_add]
      refine ⟨seq, by have := hc 0 _ rfl; simpa using this, ?_⟩
      refine ⟨_, M5.cell rfl, ?_⟩
      -- who it is
      have hsm : seq ∈ out := List.mem_of_getElem? hseq
      have hndo : out.Nodup := by
        rw [hout']
        show ((A.L.filter (has h)).map (·.seq)).Nodup
        exact ((List.filter_sublist).map _).nodup wf.nd
      obtain ⟨x, hxH, hxs⟩ : ∃ x ∈ H, x.e.seq = seq := by
        have : seq ∈ (H.filter fun x => decide (x.e.hold = h)).map fun x => x.e.seq := hacc.mem_iff.1 (by
          have h9 := (List.mergeSort_perm l fun x y => decide (x ≤ y)).mem_iff (a := seq)
          rw [hout, ← hout'] at h9
          exact h9.1 hsm)
        obtain ⟨y, hy, he⟩ := List.mem_map.1 this
        exact ⟨y, (List.mem_filter.1 hy).1, he⟩
      have hxD : x ∉ D := fun hd => by
        have h1 : seq ∈ out.take j := by rw [← hDs, ← hxs]; exact List.mem_map.2 ⟨x, hd, rfl⟩
        obtain ⟨t, ht⟩ := List.getElem?_of_mem h1
        have htj : t < j := by
          have := (List.getElem?_eq_some_iff.1 ht).1
          rw [List.length_take] at this; omega
        rw [List.getElem?_take, if_pos htj] at ht
        obtain ⟨g1, g2⟩ := List.getElem?_eq_some_iff.1 ht
        obtain ⟨g3, g4⟩ := List.getElem?_eq_some_iff.1 hseq
        have := (List.getElem_inj hndo).1 (g2.trans g4.symm)
        omega
      have hxj : x ∈ Hj := by
        rcases List.mem_append.1 (hpD.mem_iff.1 hxH) with q | q
        · exact absurd q hxD
        · exact q
      have hndj : (Hj.map fun x : Et => x.e.seq).Nodup := by
        have h2 : ((D ++ Hj).map fun x : Et => x.e.seq).Nodup := by rw [← (hpD.map _).nodup_iff]; exact hndH
        rw [List.map_append] at h2
        exact (List.nodup_append.1 h2).2.1
      subst hxs
      refine ⟨_, _, _, _, _, _, _, _, _, M5.look1 hxj hndj, newE (e0 := En0) (e := x.e) fun w6 b6 c6 z6 => ?_⟩
      have M6 := M5.ch c6 fun _ _ => id
      simp only [add_at, Nat.zero_add]
      refine ⟨_, M6.cell rfl, ?_⟩
      obtain ⟨Hj', hpj⟩ := perm_of_mem hxj
      obtain ⟨w7, hdel, M7, hx7, hxB, hsub7, c7⟩ := M6.del (ty := 0) hpj hndj
      have lt5 := M5.lt
      have hr5 : r < w5.heap.size := lt5 r (mem_qbl.2 (.inr (.inl rfl)))
      have b67 : blk w7 w5.heap.size = some x.e.cells := by rw [c7.blk (blk_lt b6) (by omega)]; exact b6
      refine ⟨w7, hdel, st_blk b67 (by simp [En.cells]) fun w8 b8 c8 z8 => ?_⟩
      have b8 : blk w8 w5.heap.size = some (x.setH 0).e.cells := b8
      have b8d : blk w8.drew w5.heap.size = some (x.setH 0).e.cells := b8
      have c78 := c8.trans' (Ch.drew w8)
      have M8 : QM w8.drew qb A.cf A.last Fj Hj' pj cj ownj r := M7.ch c78 fun b hb he => by have := lt5 b (hsub7 b hb); omega
      have hx8 : EtE.Ok w8.drew (x.setH 0) := EtE.ch hx7 c78 fun b hb he => by have := lt5 b (hxB b hb).1; omega
      have hFl : Fj.length + Hj.length = F.length + H.length := by
        have q1 := hpF.length_eq
        have q2 := hpD.length_eq
        rw [List.length_append] at q1 q2
        rw [List.length_map] at q1
        omega
      refine rdN b8d (qpush_ok M8 hheap (by omega) hx8 (fun b hb => (hxB b hb).2) fun w9 F9 p9 c9 own9 hp9 hheap9 M9 hsub9 c9' => ⟨rfl, ?_⟩)
      have hin : ∀ b, ownj = some b ∨ b = qb → b ∈ qbl qb r ownj Fj Hj := fun b hb => by
        rcases hb with hb | hb
        · exact mem_qbl.2 (.inr (.inr (.inl hb)))
        · exact mem_qbl.2 (.inl hb)
      have c59 : Ch (fun b => b ∈ qbl qb r ownj Fj Hj) w5 w9 := (((c6.mono fun _ _ h => h.elim).trans' (c7.mono fun b _ hb => hb ▸ mem_qbl.2 (.inr (.inl rfl)))).trans c78 fun b hb he => by omega).trans' (c9'.mono fun b _ hb => hin b hb)
      have hno : ∀ b ∈ qbl qb r ownj Fj Hj, ow ≠ some b := fun b hb e => by
        rcases hsub5 b hb with q | q
        · have := old b q; have := fr2 b e; omega
        · exact q.2 e
      have c6s := c6.size
      have c7s := c7.size
      have c78s := c78.size
      refine ⟨out.length - (j + 1), by omega, j + 1, D ++ [x], Hj', F9, p9, c9, own9, ?_, by omega, rfl, hpD.trans ?_, ?_, ?_, hheap9, M9, fun b hb => ?_, o5.ch c59 fun b hb h => hno b h hb, c5.trans c59 fun b hb h => ?_, ?_⟩
      · rw [wrap_id (by omega) (by omega)]; rfl
      · rw [List.append_assoc]; exact hpj.append_left D
      · rw [List.map_append, hDs, List.map_singleton, List.take_add_one, hseq]; rfl
      · refine hp9.trans ?_
        rw [List.map_append, List.map_singleton]
        refine ((hpF.cons _).trans ?_)
        rw [List.append_assoc]
        exact (List.perm_middle (l₁ := D.map (·.setH 0)) (a := x.setH 0) (l₂ := F)).symm
      · rcases hsub9 b hb with q | q | q
        · exact hsub5 b (hsub7 b q)
        · exact hsub5 b (hxB b q).1
        · refine .inr ⟨?_, fun e => ?_⟩
          · have := c5.size; omega
          · have := c5w3 b e; omega
      · rcases hsub5 b h with q | q
        · exact q
        · omega
      · have := c59.size; omega
    · have hje : j = out.length := by
        have : ¬ (j : Int) < (l.length : Int) := by simpa using hge
        omega
      subst hje
      rw [List.take_length, hout'] at hDs
      have hlo : l.length = out.length := hol.symm
      rw [hlo] at o5 ⊢
      rw [hout'] at o5 ⊢
      refine hk p1 _ c1' ow rfl w5 _ ⟨hW, Fj, Hj, pj, cj, ownj, r, M5, E.released wf hpD hpF hDs hheap, rfl⟩ c5 (fun b hb => (hsub5 b hb).imp id fun q => q.1) o5 fun b hb => ⟨fun hq => ?_, by have := fr2 b hb; omega⟩
      rcases hsub5 b hq with q | q
      · have := old b q; have := fr2 b hb; omega
      · exact q.2 hb
  · -- one comes out
    refine .inr ⟨_, _, w3, hrun2, _, _, hent, ?_⟩
    have s2 := c2.size
    have hne : r ≠ w.heap.size := by omega
    unfold asIntV
    simp only [decide_true]
    refine newB_blk fun w4 b4 c4 z4 => asE ?_
    refine stCells_seg _ b4 (by simp [En.cells]) x.e.cells_one fun w5 b5 c5 z5 => ?_
    rw [putSeg_all (by rfl)] at b5
    simp only [add_at, Nat.zero_add]
    refine ⟨_, by rw [cell_blk b5]; rfl, ?_⟩
    have c35 : Ch (fun _ => False) w3 w5 := c4.trans c5 fun b hb he => by omega
    have it5 := it3.ch c35 id id
    have c05 : Ch (fun _ => False) w w5 := (c2.trans c3 fun b hb he => by omega).trans' c35
    have o5 := (o2.ch c3 fun b hb he => by have := fr2 b hb; omega).ch c35 fun _ _ => id
    have hl1 := hpx.length_eq
    rw [List.length_cons] at hl1
    have hsub3 : ∀ y ∈ Hl', y ∈ H := fun y hy => hsub2 y (hpx.mem_iff.2 (List.mem_cons_of_mem _ hy))
    have hperm : ((Hl.filter fun x => decide (x.e.hold = h)).map fun x => x.e.seq).Perm (((x :: Hl').filter fun x => decide (x.e.hold = h)).map fun x => x.e.seq) := (hpx.filter _).map _
    have hacc2 := ((hperm.append_left l).symm.trans hacc)
    refine Sif_cases (fun hh => ?_) fun hh => ?_
    · have hh : x.e.hold = h := by simpa using hh
      refine push_ok (g := iC) (sz := 1) (bytes := 8) Tryd.underlying34 qint_info rfl iC_len iC_one o5 x.e.seq (by omega) (by omega) fun p' c' b' w6 o6 n6 c6 => ?_
      refine ⟨Hl'.length, by omega, l ++ [x.e.seq], Hl', left', b', rfl, o6, fun b hb => ?_, it5.ch c6 (fun e => ?_) (fun e => ?_), hlp', rfl, hsub3, ?_, by rw [List.length_append, List.length_singleton]; omega, c05.trans c6 fun b hb e => ?_⟩
      · rcases n6 b hb with q | q
        · exact fr2 b q
        · have := c05.size; omega
      · have := fr2 _ e; omega
      · have := fr2 _ e; omega
      · rw [List.append_assoc]
        rw [List.filter_cons, if_pos (by simp [hh]), List.map_cons] at hacc2
        exact hacc2
      · have := fr2 b e; omega
    · have hh : ¬ x.e.hold = h := by simpa using hh
      refine ⟨Hl'.length, by omega, l, Hl', left', ow, rfl, o5, fr2, it5, hlp', rfl, hsub3, ?_, by omega, c05⟩
      rw [List.filter_cons, if_neg (by simp [hh])] at hacc2
      exact hacc2
end Go.Proofs.YtipbbjnmpnfhpaaDoor
