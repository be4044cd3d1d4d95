/-
  The queue's Expire.
-/
import Derived.Test.YtipbbjnmpnfhpaaDoorQrem
import Derived.Test.YtipbbjnmpnfhpaaDoorQsort
import Derived.Test.YtipbbjnmpnfhpaaDoorQback
namespace Go.Proofs.YtipbbjnmpnfhpaaDoor
open Go Go.Sv Go.Heap Go.Qu Go.MapKept
set_option linter.unusedVariables false
set_option maxRecDepth 4000
/-- a row of entries that came out: all is its owner's -/
structure OutRow (w : World) (B B' : Nat → Prop) (n0 : Nat) (p : Option Addr) (n c : Nat) (own : Option Nat) (G : List Et) : Prop where
  len : n = G.length
  row : Ow w p n c 7 ((G.map (·.e)).flatMap En.cells) own
  dat : ∀ x ∈ G, EtE.Ok w x
  nd : (own.toList ++ eB G).Nodup
  off : ∀ b ∈ own.toList ++ eB G, ¬ B' b ∧ (B b ∨ n0 ≤ b)
theorem QF.expired {A : AQ} {F F' H : List Et} {now : Int} (E : QF A F H) (W : WQ A) (hF : F'.Perm (F.filter fun x => !(over now x.pe))) (hheap : HeapFrom En.lt (atE (F'.map (·.e))) F'.length 0) : QF (A.expire now).2 F' H := by
  refine ⟨hheap, ?_, fun x hx => E.free x (List.mem_filter.1 (hF.mem_iff.1 hx)).1, E.held⟩
  show ((F' ++ H).map Et.pe).Perm (A.L.filter fun e => !(isFree e && over now e))
  refine List.Perm.trans ?_ (E.perm.filter _)
  rw [List.map_append, List.map_append, List.filter_append]
  have f2 : (H.map Et.pe).filter (fun e => !(isFree e && over now e)) = H.map Et.pe := List.filter_eq_self.2 fun y hy => by
    obtain ⟨x, hx, rfl⟩ := List.mem_map.1 hy
    have e : isFree x.pe = false := by
      show decide (x.e.hold = 0) = false
      simp [E.held x hx]
    rw [e]; rfl
  have f1 : (F.map Et.pe).filter (fun e => !(isFree e && over now e)) = (F.filter fun x => !(over now x.pe)).map Et.pe := by
    rw [List.filter_map]
    congr 1
    refine List.filter_congr fun x hx => ?_
    have e : isFree x.pe = true := by
      show decide (x.e.hold = 0) = true
      simp [E.free x hx]
    show (!(isFree x.pe && over now x.pe)) = _
    rw [e, Bool.true_and]
  rw [f1, f2]
  exact (hF.map Et.pe).append_right _
theorem QF.gone {A : AQ} {F H G : List Et} {now : Int} (E : QF A F H) (W : WQ A) (hG : G.Perm (F.filter fun x => over now x.pe)) (hs : Sorted (G.map Et.pe)) : G.map Et.pe = (A.expire now).1 := by
  show G.map Et.pe = ((ordered A.L).filter isFree).filter (over now)
  rw [List.filter_filter]
  refine ordered_filter (fun x => over now x && isFree x) W.nd hs ?_
  refine (hG.map Et.pe).trans ?_
  have h := E.fr.filter (over now)
  rw [List.filter_filter] at h
  refine List.Perm.trans (.of_eq ?_) h
  rw [List.filter_map]; rfl
theorem filter_take_succ {α : Type} (f : α → Bool) {l : List α} {i : Nat} {x : α} (h : l[i]? = some x) : (l.take (i + 1)).filter f = (l.take i).filter f ++ (if f x = true then [x] else []) := by
  rw [List.take_add_one, h, List.filter_append]
  congr 1
  simp only [Option.toList_some, List.filter_cons, List.filter_nil]
theorem qexp_ok {w : World} {qb : Nat} {A : AQ} {B : Nat → Prop} {now : Int} {K : Value → World → Prop} (Q : QK w qb A B)
    (hk : ∀ p n c own' G, G.map Et.pe = (A.expire now).1 → QPost w qb (A.expire now).2 B fun w' B' => OutRow w' B B' w.heap.size p n c own' G → K (.slice p n c) w') :
    callP Tryd.prog 17 [.pointer (some ⟨qb, 0, none⟩), .int .i64 now] w K := by
  have hW := Q.wf.expire now
  obtain ⟨wf, F, H, p, c, own, r, M, E, rfl⟩ := Q
  have old := M.lt
  have hlen := E.len
  have hwl := wf.len
  have hm2 := wf.most2
  have hndF := E.ndf wf
  refine ok_queue_Queue_Expire ?_
  unfold wp_queue_Queue_Expire
  rw [nn_some, add_at, Nat.zero_add]
  refine ⟨_, _, _, M.cell rfl, ?_⟩
  refine ⟨fun m p1 n1 c1 p2 n2 c2 i w' => ∃ (j : Nat) (G L : List Et) (o1 o2 : Option Nat), i = (j : Int) ∧ j ≤ F.length ∧ m = F.length - j ∧ G = (F.take j).filter (fun x => over now x.pe) ∧ L = (F.take j).filter (fun x => !(over now x.pe)) ∧ n1 = G.length ∧ n2 = L.length ∧
      Ow w' p1 n1 c1 7 ((G.map (·.e)).flatMap En.cells) o1 ∧ Ow w' p2 n2 c2 7 ((L.map (·.e)).flatMap En.cells) o2 ∧ (∀ b, o1 = some b → w.heap.size ≤ b ∧ o2 ≠ some b) ∧ (∀ b, o2 = some b → w.heap.size ≤ b) ∧ Ch (fun _ => False) w w',
    ⟨F.length, 0, [], [], none, none, rfl, Nat.zero_le _, rfl, rfl, rfl, rfl, rfl, Ow.nil, Ow.nil, (fun b hb => by cases hb), (fun b hb => by cases hb), Ch.refl _ _⟩, ?_⟩
  rintro m p1 n1 c1 p2 n2 c2 i w1 ⟨j, G, L, ow1, ow2, rfl, hj, rfl, hG, hL, rfl, rfl, o1, o2, f1, f2, ch1⟩
  have M1 := M.ch ch1 fun _ _ => id
  have s1 := ch1.size
  have hGl : G.length ≤ F.length := by
    rw [hG]
    exact Nat.le_trans (List.length_filter_le ..) (by rw [List.length_take]; omega)
  have hLl : L.length ≤ F.length := by
    rw [hL]
    exact Nat.le_trans (List.length_filter_le ..) (by rw [List.length_take]; omega)
  refine Sif_cases (fun hlt => ?_) fun hge => ?_
  · have hlt : j < F.length := by
      have : (j : Int) < (F.length : Int) := by simpa using hlt
      omega
    obtain ⟨x, hx⟩ : ∃ x, F[j]? = some x := ⟨_, List.getElem?_eq_getElem hlt⟩
    have hxe : (F.map (·.e))[j]? = some x.e := by rw [List.getElem?_map, hx]; rfl
    have eG := filter_take_succ (fun x : Et => over now x.pe) hx
    have eL := filter_take_succ (fun x : Et => !(over now x.pe)) hx
    rw [← hG] at eG
    rw [← hL] at eL
    obtain ⟨kb, o, hpp, hc⟩ := M1.row.rd.at En.cells_len hxe (by decide)
    refine ⟨fun p1' n1' c1' p2' n2' c2' w' => ∃ (G' L' : List Et) (o1 o2 : Option Nat), G' = (F.take (j + 1)).filter (fun x => over now x.pe) ∧ L' = (F.take (j + 1)).filter (fun x => !(over now x.pe)) ∧ n1' = G'.length ∧ n2' = L'.length ∧
      Ow w' p1' n1' c1' 7 ((G'.map (·.e)).flatMap En.cells) o1 ∧ Ow w' p2' n2' c2' 7 ((L'.map (·.e)).flatMap En.cells) o2 ∧ (∀ b, o1 = some b → w.heap.size ≤ b ∧ o2 ≠ some b) ∧ (∀ b, o2 = some b → w.heap.size ≤ b) ∧ Ch (fun _ => False) w w', ?_, ?_⟩
    · rintro p1' n1' c1' p2' n2' c2' w' ⟨G', L', o1', o2', g1, g2, g3, g4, g5, g6, g7, g8, g9⟩
      exact ⟨F.length - (j + 1), by omega, j + 1, G', L', o1', o2', by rw [wrap_id (by omega) (by omega)]; rfl, by omega, rfl, g1, g2, g3, g4, g5, g6, g7, g8, g9⟩
    subst hpp
    refine ⟨by omega, by omega, ?_⟩
    simp only [nn_some, add_at, Int.toNat_natCast]
    refine ⟨_, hc 0 _ rfl, _, hc 1 _ rfl, _, hc 2 _ rfl, _, hc 3 _ rfl, _, hc 4 _ rfl, _, hc 5 _ rfl, _, _, _, hc 6 _ rfl, ?_⟩
    refine newE (e0 := En0) (e := x.e) fun w9 b9 c9 z9 => ?_
    have ch9 := ch1.trans' c9
    have o19 := o1.ch c9 fun _ _ => id
    have o29 := o2.ch c9 fun _ _ => id
    have hlG : (G.map (·.e)).length = G.length := List.length_map ..
    have hlL : (L.map (·.e)).length = L.length := List.length_map ..
    simp only [add_at, Nat.zero_add]
    -- it is over
    have gone : over now x.pe = true → newB w9 x.e.cells 37 fun a3 w10 => ∃ p5 n18 c5 w11, Sem.run Tryd.prog (Builtin.append_ #[33, 33] 33 #[.slice p1 G.length c1, .slice (some a3) 1 1]) w10 = .ok (.slice p5 n18 c5) w11 ∧
        ∃ (G' L' : List Et) (o1 o2 : Option Nat), G' = (F.take (j + 1)).filter (fun x => over now x.pe) ∧ L' = (F.take (j + 1)).filter (fun x => !(over now x.pe)) ∧ n18 = G'.length ∧ L.length = L'.length ∧
          Ow w11 p5 n18 c5 7 ((G'.map (·.e)).flatMap En.cells) o1 ∧ Ow w11 p2 L.length c2 7 ((L'.map (·.e)).flatMap En.cells) o2 ∧ (∀ b, o1 = some b → w.heap.size ≤ b ∧ o2 ≠ some b) ∧ (∀ b, o2 = some b → w.heap.size ≤ b) ∧ Ch (fun _ => False) w w11 := fun ho => by
      rw [ho] at eG eL
      simp only [if_true, Bool.not_true, Bool.false_eq_true, if_false, List.append_nil] at eG eL
      rw [← hlG] at o19 ⊢
      refine push_ok (g := En.cells) (sz := 7) (bytes := 72) Tryd.underlying33 entry_info rfl En.cells_len En.cells_one o19 x.e (by rw [hlG]; omega) (by rw [hlG]; omega) fun p' c' b' w11 o11 n11 c11 => ?_
      refine ⟨G ++ [x], L, b', ow2, eG.symm, eL.symm, by simp, rfl, by rw [List.map_append]; exact o11, o29.ch c11 fun b hb h => (f1 b h).2 hb, fun b hb => ?_, f2, ch9.trans c11 fun b hb h => by have := (f1 b h).1; omega⟩
      rcases n11 b hb with q | q
      · exact f1 b q
      · exact ⟨by have := ch9.size; omega, fun e => by have := o29.blt b e; omega⟩
    have left : over now x.pe = false → newB w9 x.e.cells 37 fun a3 w10 => ∃ p5 n18 c5 w11, Sem.run Tryd.prog (Builtin.append_ #[33, 33] 33 #[.slice p2 L.length c2, .slice (some a3) 1 1]) w10 = .ok (.slice p5 n18 c5) w11 ∧
        ∃ (G' L' : List Et) (o1 o2 : Option Nat), G' = (F.take (j + 1)).filter (fun x => over now x.pe) ∧ L' = (F.take (j + 1)).filter (fun x => !(over now x.pe)) ∧ G.length = G'.length ∧ n18 = L'.length ∧
          Ow w11 p1 G.length c1 7 ((G'.map (·.e)).flatMap En.cells) o1 ∧ Ow w11 p5 n18 c5 7 ((L'.map (·.e)).flatMap En.cells) o2 ∧ (∀ b, o1 = some b → w.heap.size ≤ b ∧ o2 ≠ some b) ∧ (∀ b, o2 = some b → w.heap.size ≤ b) ∧ Ch (fun _ => False) w w11 := fun ho => by
      rw [ho] at eG eL
      simp only [Bool.not_false, if_true, Bool.false_eq_true, if_false, List.append_nil] at eG eL
      rw [← hlL] at o29 ⊢
      refine push_ok (g := En.cells) (sz := 7) (bytes := 72) Tryd.underlying33 entry_info rfl En.cells_len En.cells_one o29 x.e (by rw [hlL]; omega) (by rw [hlL]; omega) fun p' c' b' w11 o11 n11 c11 => ?_
      refine ⟨G, L ++ [x], ow1, b', eG.symm, eL.symm, rfl, by simp, o19.ch c11 fun b hb h => (f1 b hb).2 h, by rw [List.map_append]; exact o11, fun b hb => ⟨(f1 b hb).1, fun e => ?_⟩, fun b hb => ?_, ch9.trans c11 fun b hb h => by have := f2 b h; omega⟩
      · rcases n11 b e with q | q
        · exact (f1 b hb).2 q
        · have := o19.blt b hb; omega
      · rcases n11 b hb with q | q
        · exact f2 b q
        · have := ch9.size; omega
    refine ⟨_, by rw [cell_blk b9]; rfl, Sif_cases (fun g1 => ?_) fun g1 => ?_⟩
    · refine ⟨_, by rw [cell_blk b9]; rfl, Sif_cases (fun g2 => ?_) fun g2 => ?_⟩
      · have g1 : 0 ≤ x.e.exp := by simpa using g1
        have g2 : x.e.exp ≤ now := by simpa using g2
        exact rdN b9 (gone (by show (decide (0 ≤ x.e.exp) && decide (x.e.exp ≤ now)) = true; simp [g1, g2]))
      · have g2 : ¬ x.e.exp ≤ now := by simpa using g2
        exact rdN b9 (left (by show (decide (0 ≤ x.e.exp) && decide (x.e.exp ≤ now)) = false; simp [g2]))
    · have g1 : ¬ 0 ≤ x.e.exp := by simpa using g1
      exact rdN b9 (left (by show (decide (0 ≤ x.e.exp) && decide (x.e.exp ≤ now)) = false; simp [g1]))
  · have hje : j = F.length := by
      have : ¬ (j : Int) < (F.length : Int) := by simpa using hge
      omega
    subst hje
    rw [List.take_length] at hG hL
    have hperm : F.Perm (L ++ G) := by
      rw [hG, hL]
      exact ((List.filter_append_perm (fun x : Et => over now x.pe) F).symm.trans List.perm_append_comm)
    have hpe : (F ++ H).Perm (G ++ (L ++ H)) := (hperm.append_right H).trans (by rw [← List.append_assoc]; exact List.perm_append_comm.append_right H)
    have hnd : (eB G ++ eB (L ++ H)).Nodup := by rw [← eB_app, ← (eB_perm hpe).nodup_iff]; exact M.ndE
    have hsubG : ∀ b ∈ eB G, b ∈ eB (F ++ H) := fun b hb => by rw [(eB_perm hpe).mem_iff, eB_app]; exact List.mem_append_left _ hb
    have hsubL : ∀ b ∈ eB (L ++ H), b ∈ eB (F ++ H) := fun b hb => by rw [(eB_perm hpe).mem_iff, eB_app]; exact List.mem_append_right _ hb
    have olde : ∀ b ∈ eB (F ++ H), b < w.heap.size := fun b hb => old b (mem_qbl.2 (.inr (.inr (.inr hb))))
    have hqb : qb < w.heap.size := old qb (mem_qbl.2 (.inl rfl))
    have hr : r < w.heap.size := old r (mem_qbl.2 (.inr (.inl rfl)))
    simp only [nn_some, add_at, Nat.zero_add]
    refine st_blk M1.head (by simp [qcells]) fun w2 b2 c2' z2 => ?_
    have o12 := o1.ch c2' fun b hb h => by have := (f1 b hb).1; omega
    have o22 := o2.ch c2' fun b hb h => by have := f2 b hb; omega
    have M2 : QM w2 qb A.cf A.last L H p2 c2 ow2 r := by
      refine ⟨b2, o22, ?_, fun y hy => ?_, ?_⟩
      · obtain ⟨m, hm, hp⟩ := M1.map
        exact ⟨m, hm.ch c2' fun h => M.ne_qr h.symm, hp⟩
      · have hyF : y ∈ F ++ H := hpe.mem_iff.2 (List.mem_append_right _ hy)
        exact EtE.ch (M1.dat y hyF) c2' fun b hb h => M.ne_qe (h ▸ mem_eB.2 ⟨y, hyF, by simpa [EtE, Option.mem_toList] using hb⟩)
      · exact qbl_nd M.ne_qr (fun h => by have := f2 _ h; omega) (fun h => by have := f2 _ h; omega) (fun h => M.ne_qe (hsubL _ h)) (fun h => M.ne_re (hsubL _ h)) (fun b hb h => by have := f2 b hb; have := olde b (hsubL b h); omega) (List.nodup_append.1 hnd).2.1
    have hcell : ∀ w', Ch (fun b => ow2 = some b) w2 w' → w'.cell? ⟨qb, 5, none⟩ = some (.slice p2 L.length c2) := fun w' ch => by
      have b' : blk w' qb = some (qcells A.cf (.slice p2 L.length c2) r A.last) := by rw [ch.blk (blk_lt M2.head) M2.ne_qo]; exact M2.head
      rw [cell_blk b']; rfl
    refine hinit_ok hcell o22 (by simp) (by omega) fun w3 L' hp3 hheap3 o3 c3 => ⟨rfl, ?_⟩
    obtain ⟨L2, hpL2, rfl⟩ := perm_lift' (g := fun x : Et => x.e) hp3.symm
    have hlL2 : L2.length = L.length := hpL2.length_eq.symm
    have o13 := o12.ch c3 fun b hb h => (f1 b hb).2 h
    refine sortQ_ok (L := G) o13 (by omega) ((by
      have h2 : ((L ++ G).map fun x : Et => x.e.seq).Nodup := by rw [← (hperm.map _).nodup_iff]; exact hndF
      rw [List.map_append] at h2
      exact (List.nodup_append.1 h2).2.1)) fun w4 G2 hpG hsG o4 c4 => ⟨rfl, ?_⟩
    have hlG2 : G2.length = G.length := hpG.length_eq
    have M3 : QM w3 qb A.cf A.last L2 H p2 c2 ow2 r := by
      have hpe3 : (L2 ++ H).Perm (L ++ H) := hpL2.symm.append_right H
      refine ⟨by rw [c3.blk (blk_lt M2.head) M2.ne_qo, hlL2]; exact M2.head, by rw [hlL2]; exact o3, ?_, fun y hy => ?_, ?_⟩
      · obtain ⟨m, hm, hp⟩ := M2.map
        exact ⟨m, hm.ch c3 M2.ne_ro, hp⟩
      · have hy2 := hpe3.mem_iff.1 hy
        exact EtE.ch (M2.dat y hy2) c3 fun b hb h => M2.ne_oe b h (mem_eB.2 ⟨y, hy2, by simpa [EtE, Option.mem_toList] using hb⟩)
      · exact (qbl_perm hpe3).nodup_iff.2 M2.nd
    have hx4 : ∀ b ∈ qbl qb r ow2 L2 H, b ∈ qbl qb r own F H ∨ (w.heap.size ≤ b ∧ ow1 ≠ some b) := fun b hb => by
      rcases mem_qbl.1 hb with h | h | h | h
      · exact .inl (mem_qbl.2 (.inl h))
      · exact .inl (mem_qbl.2 (.inr (.inl h)))
      · exact .inr ⟨f2 b h, fun e => (f1 b e).2 h⟩
      · refine .inl (mem_qbl.2 (.inr (.inr (.inr (hsubL b ?_)))))
        exact (eB_perm (hpL2.append_right H)).mem_iff.2 h
    have M4 : QM w4 qb A.cf A.last L2 H p2 c2 ow2 r := M3.ch c4 fun b hb h => by
      rcases hx4 b hb with q | q
      · have := old b q; have := (f1 b h).1; omega
      · exact q.2 h
    have c04 : Ch (fun b => b ∈ qbl qb r own F H) w w4 := (((ch1.mono fun _ _ h => h.elim).trans' (c2'.mono fun b _ h => h ▸ mem_qbl.2 (.inl rfl))).trans c3 fun b hb h => by have := f2 b h; omega).trans c4 fun b hb h => by have := (f1 b h).1; omega
    have hGe : ∀ b, b ∈ eB G2 ↔ b ∈ eB G := fun b => (eB_perm hpG).mem_iff
    rw [← hlG2]
    refine hk p1 G2.length c1 ow1 G2 (E.gone wf (by rw [← hG]; exact hpG) hsG) w4 _ ⟨hW, L2, H, p2, c2, ow2, r, M4, E.expired wf (by rw [← hL]; exact hpL2.symm) (by rw [hlL2]; exact hheap3), rfl⟩ c04 (fun b hb => (hx4 b hb).imp id fun q => q.1) ⟨rfl, o4, fun x hx => ?_, ?_, fun b hb => ?_⟩
    · have hxG := hpG.mem_iff.1 hx
      have hxF : x ∈ F ++ H := hpe.mem_iff.2 (List.mem_append_left _ hxG)
      have hb : ∀ b ∈ EtE.B x, b ∈ eB (F ++ H) := fun b hb => mem_eB.2 ⟨x, hxF, by simpa [EtE, Option.mem_toList] using hb⟩
      exact EtE.ch (EtE.ch (EtE.ch (M1.dat x hxF) c2' fun b h e => M.ne_qe (e ▸ hb b h)) c3 fun b h e => by have := f2 b e; have := olde b (hb b h); omega) c4 fun b h e => by have := (f1 b e).1; have := olde b (hb b h); omega
    · refine List.nodup_append.2 ⟨by cases ow1 <;> simp, (eB_perm hpG).nodup_iff.2 (List.nodup_append.1 hnd).1, fun a ha b hb e => ?_⟩
      subst e
      have := (f1 a (by simpa [Option.mem_toList] using ha)).1
      have := olde a (hsubG a ((hGe a).1 hb))
      omega
    · rcases List.mem_append.1 hb with hb | hb
      · have hb : ow1 = some b := by simpa [Option.mem_toList] using hb
        refine ⟨fun h => ?_, .inr (f1 b hb).1⟩
        rcases hx4 b h with q | q
        · have := old b q; have := (f1 b hb).1; omega
        · exact q.2 hb
      · have hbG := (hGe b).1 hb
        have hbe := hsubG b hbG
        refine ⟨fun h => ?_, .inl (mem_qbl.2 (.inr (.inr (.inr hbe))))⟩
        rcases mem_qbl.1 h with q | q | q | q
        · exact M.ne_qe (q ▸ hbe)
        · exact M.ne_re (q ▸ hbe)
        · have := f2 b q; have := olde b hbe; omega
        · have q2 := (eB_perm (hpL2.append_right H)).mem_iff.2 q
          exact (List.nodup_append.1 hnd).2.2 b hbG b q2 rfl
end Go.Proofs.YtipbbjnmpnfhpaaDoor
