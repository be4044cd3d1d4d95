/-
  JournalScans: the walk.
-/
import Derived.Test.YtipololccbdojaaGreatDoorJowned
import Derived.Test.YtipololccbdojaaGreatDoorJlive
namespace Go.Proofs.YtipololccbdojaaGreatDoor
open Go Go.Sv
set_option linter.unusedVariables false
set_option maxRecDepth 4000

/-! ### Sizes -/
theorem body_recs (R : Batch) : R.length ≤ (body R).length ∧ ∀ r ∈ R, r.length ≤ (body R).length := by
  induction R with
  | nil => simp
  | cons r R ih =>
    rw [body_cons]
    simp only [List.length_append, be_length, List.length_cons]
    refine ⟨by omega, fun x hx => ?_⟩
    rcases List.mem_cons.1 hx with rfl | hx
    · omega
    · have := ih.2 x hx; omega
def cntR (L : List Batch) : Nat := (L.map List.length).sum
theorem cntR_le (L : List Batch) : cntR L ≤ (allB L).length := by
  induction L with
  | nil => simp [cntR]
  | cons R L ih =>
    rw [allB_cons, List.length_append]
    have h1 := (body_recs R).1
    have h2 := body_le R
    unfold cntR at ih ⊢
    rw [List.map_cons, List.sum_cons]
    omega
theorem allB_cnt {L : List Batch} (h : ∀ R ∈ L, goodB R) : L.length ≤ (allB L).length := by
  induction L with
  | nil => simp
  | cons R L ih =>
    rw [allB_cons, List.length_append, List.length_cons]
    have h1 := batchB_length (h R (by simp)).1
    have h2 := ih fun Q hQ => h Q (by simp [hQ])
    omega
/-- batches that came out are small -/
structure Small (M : Nat) (L : List Bt) : Prop where
  n : L.length ≤ M
  each : ∀ y ∈ L, y.s.n ≤ M
  recs : ∀ x ∈ recsOf L, x.s.n ≤ M
  all : (recsOf L).length ≤ M
theorem recsOf_cnt (L : List Bt) : (recsOf L).length = cntR (L.map Bt.says) := by
  induction L with
  | nil => rfl
  | cons y L ih =>
    have e : recsOf (y :: L) = y.r ++ recsOf L := by simp [recsOf]
    rw [e, List.length_append, ih]
    unfold cntR
    simp [Bt.says]
theorem small_of {w : World} {p : Option Addr} {n c : Nat} {own : Option Nat} {L : List Bt} {M : Nat} (H : BtE.Row w p n c own L) (hg : ∀ R ∈ L.map Bt.says, goodB R) (hM : (allB (L.map Bt.says)).length ≤ M) : Small M L := by
  have h1 := allB_cnt hg
  have h2 := cntR_le (L.map Bt.says)
  rw [List.length_map] at h1
  have hb : ∀ y ∈ L, (body y.says).length ≤ M := fun y hy => by
    have := allB_le (R := y.says) (L := L.map Bt.says) (List.mem_map.2 ⟨y, hy, rfl⟩)
    have := body_le y.says
    omega
  refine ⟨by omega, fun y hy => ?_, fun x hx => ?_, by rw [recsOf_cnt]; omega⟩
  · have hR : RcE.Row w y.s.p y.s.n y.s.c y.s.own y.r := H.2.2.1 y hy
    have h3 := (body_recs y.says).1
    have h4 := hb y hy
    have h5 : y.says.length = y.r.length := by simp [Bt.says]
    have h6 := hR.1
    omega
  · obtain ⟨y, hy, hxy⟩ := mem_recsOf.1 hx
    have hR : RcE.Row w y.s.p y.s.n y.s.c y.s.own y.r := H.2.2.1 y hy
    have hO : Ow w x.s.p x.s.n x.s.c 1 (bytesV x.l) x.s.own := hR.2.2.1 x hxy
    have h3 : x.l.length = x.s.n := by have := hO.1; simpa using this
    have h4 := (body_recs y.says).2 x.l (List.mem_map.2 ⟨x, hxy, rfl⟩)
    have h5 := hb y hy
    omega
theorem scanA_small (d : List UInt8) (safe : Int) : (∀ R ∈ (scanA d safe).1, goodB R) ∧ (allB (scanA d safe).1).length ≤ d.length := by
  obtain ⟨h1, h2⟩ := scanL_back d
  have h3 : (allB (scanL d).1).length ≤ d.length := by rw [← h1]; simp; omega
  unfold scanA
  split
  · exact ⟨by simp, by simp [allB]⟩
  · split
    · exact ⟨by simp, by simp [allB]⟩
    · exact ⟨h2, h3⟩
theorem view_small {M : Nat} {L : List Bt} (h : Small M L) : ∀ y ∈ L.map Bt.view, y.n ≤ M := fun y hy => by
  obtain ⟨x, hx, rfl⟩ := List.mem_map.1 hy
  exact h.each x hx
/-- lists that came out are put behind those of another list -/
theorem gather {te ty : TypeId} {w : World} {q : Option Addr} {t cq : Nat} {own' : Option Nat} {M L : List Bt} {i : Nat} {x : Bt} (hrow : BtE.Row w q t cq own' (M ++ L.take i)) (hx : L[i]? = some x) (hok : BtE.Ok w x) (hnd : ((M ++ L).flatMap BtE.B).Nodup) (hfr : ∀ b, own' = some b → b ∉ BtE.B x) (ht : t ≤ 2 ^ 40)
    {K : Option Addr → Nat → Nat → World → Prop} (hk : ∀ p' c' own2 w', BtE.Row w' p' (t + 1) c' own2 (M ++ L.take (i + 1)) → (∀ b, own2 = some b → own' = some b ∨ w.heap.size ≤ b) → Ch (fun b => own' = some b) w w' → K p' (t + 1) c' w') :
    newB w [.slice x.s.p x.s.n x.s.c] te fun a w2 => ∃ p5 n7 c5 w3, Sem.run Tryz.prog (Builtin.append_ #[24, 24] ty #[.slice q t cq, .slice (some a) 1 1]) w2 = .ok (.slice p5 n7 c5) w3 ∧ K p5 n7 c5 w3 := by
  have hil := (List.getElem?_eq_some_iff.1 hx).1
  have hsp : M ++ L = (M ++ L.take i) ++ (x :: L.drop (i + 1)) := by
    have h5 := (List.getElem?_eq_some_iff.1 hx).2
    rw [← h5, List.getElem_cons_drop, List.append_assoc, List.take_append_drop]
  rw [hsp, List.flatMap_append, List.flatMap_cons] at hnd
  obtain ⟨_, _, h7⟩ := List.nodup_append.1 hnd
  have e : (M ++ L.take i) ++ [x] = M ++ L.take (i + 1) := by
    rw [List.take_succ_eq_append_getElem hil, (List.getElem?_eq_some_iff.1 hx).2, List.append_assoc]
  refine El.Row.push (E := BtE) (bytes := 24) Tryz.underlying24 log_info rfl hrow hok (fun b hb hm => ?_) (by omega) (by omega) fun p' c' own2 w' r' n' c1 => ?_
  · rcases El.mem_rowB.1 hm with h | ⟨y, hy, hyb⟩
    · exact hfr b h hb
    · exact h7 b (List.mem_flatMap.2 ⟨y, hy, hyb⟩) b (List.mem_append.2 (.inl hb)) rfl
  · have hnd2 : (own2.toList ++ (M ++ L.take i ++ [x]).flatMap BtE.B).Nodup := r'.2.2.2
    rw [e] at r'
    refine hk p' c' own2 w' r' (fun b hb => ?_) c1
    have hno := (List.nodup_append.1 hnd2).2.2 b (by rw [hb]; simp)
    rcases n' b (El.mem_rowB.2 (.inl hb)) with h | h | h
    · rcases El.mem_rowB.1 h with h | ⟨y, hy, hyb⟩
      · exact .inl h
      · exact absurd rfl (hno b (List.mem_flatMap.2 ⟨y, List.mem_append.2 (.inl hy), hyb⟩))
    · exact absurd rfl (hno b (List.mem_flatMap.2 ⟨x, by simp, h⟩))
    · exact .inr h
set_option maxHeartbeats 2000000 in
theorem scans_ok {p : Option Addr} {n c : Nat} {d : List UInt8} {safe : Int} {w : World} {aB aS : Addr} {K : Value → World → Prop} (E : ErrsA w aB aS) (hp : Rd w p n 1 (bytesV d)) (hn : n ≤ c) (hc : n ≤ 2 ^ 30)
    (hk : ∀ w', Ch (fun _ => False) w w' → K (.bool true) w') : callP Tryz.prog 4 [.slice p n c, .int .i64 safe] w K := by
  have hl : d.length = n := by have := hp.1; simpa using this
  obtain ⟨hsg, hsl⟩ := scanA_small d safe
  refine ok_longshorelaw20_JournalScans ?_
  unfold wp_longshorelaw20_JournalScans
  refine live_ok E fun w1 c1 => ⟨_, rfl, ?_⟩
  refine lent_ok (hp.ch c1 fun _ _ _ => id) (by omega) fun k w2 b2 hk2 c2 => ⟨_, _, _, rfl, ?_⟩
  have C2 := c1.new c2
  have lr : ∀ w', blk w' k = some (bytesV (d ++ marks9)) → Rd w' (some ⟨k, 0, none⟩) n 1 (bytesV d) := fun w' hb => by
    have := rd_take (rd_blk hb (n := n + 9) (by rw [List.length_append, hl]; rfl)) (m := n) (by omega)
    have e : (d ++ marks9).take n = d := by rw [← hl, List.take_left]
    rwa [e] at this
  refine scan_ok (lr w2 b2) (by omega) (by omega) (E.ch C2) fun w3 q1 m1 cq1 own1 L1 c3 hs1 r1 f1 => ⟨_, _, _, _, _, rfl, ?_⟩
  have C3 := C2.new c3
  refine rscan_ok (hp.ch C3 fun _ _ _ => id) hn (by omega) fun w4 q2 m2 cq2 own2 L2 c4 hs2 r2 f2 => ⟨_, _, _, _, _, rfl, ?_⟩
  have C4 := C3.new c4
  have S1 : Small (2 ^ 30) L1 := small_of r1 (by rw [hs1]; exact hsg) (by rw [hs1]; omega)
  have S2 : Small (2 ^ 30) L2 := small_of r2 (by rw [hs2]; exact hsg) (by rw [hs2]; omega)
  have m1l : m1 = L1.length := r1.1.symm
  have V1 := BtE.Row.view r1
  have V2 := BtE.Row.view r2
  have eq12 : saysL (L1.map Bt.view) = saysL (L2.map Bt.view) := by rw [view_says, view_says, hs1, hs2]
  refine same_ok (V1.ch0 c4) V2 (by have := S1.n; omega) (fun y hy => by have := view_small S1 y hy; omega) fun w5 c5 => ⟨_, rfl, ?_⟩
  rw [eq12, decide_eq_true rfl]
  have C5 := C4.new c5
  have b5 : blk w5 k = some (bytesV (d ++ marks9)) := by rw [((c3.new c4).new c5).blk (blk_lt b2) id]; exact b2
  refine scan_ok (lr w5 b5) (by omega) (by omega) (E.ch C5) fun w6 q3 m3 cq3 own3 L3 c6 hs3 r3 f3 => ⟨_, _, _, _, _, rfl, ?_⟩
  have C6 := C5.new c6
  have S3 : Small (2 ^ 30) L3 := small_of r3 (by rw [hs3]; exact hsg) (by rw [hs3]; omega)
  have m3l : m3 = L3.length := r3.1.symm
  have b6 : blk w6 k = some (bytesV (d ++ marks9)) := by rw [c6.blk (blk_lt b5) id]; exact b5
  refine asLent_ok b6 (hp.ch C6 fun _ _ _ => id) (by omega) fun w7 c7 z7 => ⟨_, rfl, ?_⟩
  have hkw : w.heap.size ≤ k := by have := c1.size; omega
  have C7 : Ch (fun _ => False) w w7 := C6.trans c7 fun x hx e => by omega
  have hk3 : k < w2.heap.size := blk_lt b2
  have s3 := c3.size
  have s4 := c4.size
  have s5 := c5.size
  have s6 := c6.size
  have r1' : BtE.Row w7 q1 m1 cq1 own1 L1 := (((r1.ch c4 fun _ _ => id).ch c5 fun _ _ => id).ch c6 fun _ _ => id).ch c7 fun b hb e => by have := f1 b hb; omega
  have r2' : BtE.Row w7 q2 m2 cq2 own2 L2 := ((r2.ch c5 fun _ _ => id).ch c6 fun _ _ => id).ch c7 fun b hb e => by have := f2 b hb; omega
  have r3' : BtE.Row w7 q3 m3 cq3 own3 L3 := r3.ch c7 fun b hb e => by have := f3 b hb; omega
  have lt1 := r1.lt
  refine same_ok (BtE.Row.view r1') (BtE.Row.view r2') (by have := S1.n; omega) (fun y hy => by have := view_small S1 y hy; omega) fun w8 c8 => ⟨_, rfl, ?_⟩
  rw [eq12, decide_eq_true rfl]
  have eq32 : saysL (L3.map Bt.view) = saysL (L2.map Bt.view) := by rw [view_says, view_says, hs3, hs2]
  refine same_ok ((BtE.Row.view r3').ch0 c8) ((BtE.Row.view r2').ch0 c8) (by have := S3.n; omega) (fun y hy => by have := view_small S3 y hy; omega) fun w9 c9 => ⟨_, rfl, ?_⟩
  rw [eq32, decide_eq_true rfl]
  have C9 := (C7.new c8).new c9
  have r1'' : BtE.Row w9 q1 m1 cq1 own1 L1 := (r1'.ch c8 fun _ _ => id).ch c9 fun _ _ => id
  have r3'' : BtE.Row w9 q3 m3 cq3 own3 L3 := (r3'.ch c8 fun _ _ => id).ch c9 fun _ _ => id
  have nd13 : ((L1 ++ L3).flatMap BtE.B).Nodup := by
    rw [List.flatMap_append]
    refine List.nodup_append.2 ⟨(List.nodup_append.1 r1.2.2.2).2.1, (List.nodup_append.1 r3.2.2.2).2.1, fun a ha b hb e => ?_⟩
    subst e
    have h1 := lt1 a (List.mem_append.2 (.inr ha))
    have h3 := f3 a (List.mem_append.2 (.inr hb))
    omega
  have nd1 : (([] ++ L1).flatMap BtE.B).Nodup := (List.nodup_append.1 r1.2.2.2).2.1
  have lt1' := r1''.lt
  have lt3' := r3''.lt
  have hS1 := S1.n
  have hS3 := S3.n
  refine ⟨fun m q t cq i w' => ∃ (j : Nat) (own' : Option Nat), i = (j : Int) ∧ j ≤ m1 ∧ m = m1 - j ∧ t = j ∧ Ch (fun _ => False) w9 w' ∧ BtE.Row w' q t cq own' ([] ++ L1.take j) ∧ (∀ b, own' = some b → w9.heap.size ≤ b), ⟨m1, 0, none, rfl, by omega, rfl, rfl, Ch.refl _ _, El.Row.nil, fun b hb => by cases hb⟩, ?_⟩
  rintro m q t cq i wA ⟨j, ownA, rfl, hj, rfl, rfl, cA, rA, fA⟩
  refine Sif_cases (fun hlt => ?_) fun hge => ?_
  · have hlt' : (t : Int) < m1 := by simpa using hlt
    have hjl : t < L1.length := by omega
    have hx := List.getElem?_eq_getElem hjl
    obtain ⟨kb, ko, rfl, hcell⟩ := (r1''.ch cA fun _ _ => id).2.1.rd.at (g := BtE.g) BtE.glen hx (by decide)
    have hc0 := hcell 0 _ rfl
    rw [show BtE.sz = 1 from rfl, Nat.mul_one, Nat.add_zero] at hc0
    refine ⟨by omega, hlt', ?_⟩
    simp only [nn_some, add_at, Int.toNat_natCast, Nat.mul_one]
    refine ⟨_, _, _, hc0, ?_⟩
    refine gather rA hx ((r1''.ch cA fun _ _ => id).2.2.1 _ (List.getElem_mem hjl)) nd1 (fun b hb hm => ?_) (by omega) fun p' c' own2 w' r' n' c1 => ?_
    · have h1 := fA b hb
      have h2 := lt1' b (El.mem_rowB.2 (.inr ⟨_, List.getElem_mem hjl, hm⟩))
      omega
    · rw [wrap_id (by omega) (by omega), nameI_iff]
      refine ⟨m1 - (t + 1), by omega, t + 1, own2, by omega, by omega, rfl, rfl, cA.trans c1 fun x hx h => by have := fA x h; omega, r', fun b hb => ?_⟩
      rcases n' b hb with h | h
      · exact fA b h
      · have := cA.size; omega
  have hj' : ¬ (t : Int) < m1 := by simpa using hge
  obtain rfl : t = m1 := by omega
  rw [List.take_of_length_le (by omega), List.nil_append] at rA
  refine ⟨fun m q t cq i w' => ∃ (j : Nat) (own' : Option Nat), i = (j : Int) ∧ j ≤ m3 ∧ m = m3 - j ∧ t = L1.length + j ∧ Ch (fun _ => False) w9 w' ∧ BtE.Row w' q t cq own' (L1 ++ L3.take j) ∧ (∀ b, own' = some b → w9.heap.size ≤ b), ⟨m3, 0, ownA, rfl, by omega, rfl, by omega, cA, by simpa using rA, fA⟩, ?_⟩
  rintro m q' t' cq' i wB ⟨j, ownB, rfl, hj, rfl, rfl, cB, rB, fB⟩
  refine Sif_cases (fun hlt => ?_) fun hge => ?_
  · have hlt' : (j : Int) < m3 := by simpa using hlt
    have hjl : j < L3.length := by omega
    have hx := List.getElem?_eq_getElem hjl
    obtain ⟨kb, ko, rfl, hcell⟩ := (r3''.ch cB fun _ _ => id).2.1.rd.at (g := BtE.g) BtE.glen hx (by decide)
    have hc0 := hcell 0 _ rfl
    rw [show BtE.sz = 1 from rfl, Nat.mul_one, Nat.add_zero] at hc0
    refine ⟨by omega, hlt', ?_⟩
    simp only [nn_some, add_at, Int.toNat_natCast, Nat.mul_one]
    refine ⟨_, _, _, hc0, ?_⟩
    refine gather rB hx ((r3''.ch cB fun _ _ => id).2.2.1 _ (List.getElem_mem hjl)) nd13 (fun b hb hm => ?_) (by omega) fun p' c' own2 w' r' n' c1 => ?_
    · have h1 := fB b hb
      have h2 := lt3' b (El.mem_rowB.2 (.inr ⟨_, List.getElem_mem hjl, hm⟩))
      omega
    · rw [wrap_id (by omega) (by omega), nameI_iff]
      refine ⟨m3 - (j + 1), by omega, j + 1, own2, by omega, by omega, rfl, by omega, cB.trans c1 fun x hx h => by have := fB x h; omega, r', fun b hb => ?_⟩
      rcases n' b hb with h | h
      · exact fB b h
      · have := cB.size; omega
  have hj3 : ¬ (j : Int) < m3 := by simpa using hge
  obtain rfl : j = m3 := by omega
  rw [List.take_of_length_le (by omega)] at rB
  have hrecs : recsOf (L1 ++ L3) = recsOf L1 ++ recsOf L3 := by simp [recsOf]
  have hSa := S1.all
  have hSb := S3.all
  refine jowned_ok rB (by omega) (fun y hy => ?_) (fun x hx => ?_) (by rw [hrecs, List.length_append]; omega) fun wC cC => ⟨_, rfl, ?_⟩
  · rcases List.mem_append.1 hy with h | h
    · have := S1.each y h; omega
    · have := S3.each y h; omega
  · rw [hrecs] at hx
    rcases List.mem_append.1 hx with h | h
    · have := S1.recs x h; omega
    · have := S3.recs x h; omega
  have CC : Ch (fun _ => False) w wC := (C9.new cB).trans cC fun x hx h => by
    have z2 := C2.size
    rcases El.mem_rowB.1 h with h | ⟨y, hy, hb⟩
    · have := fB x h
      have := C9.size
      omega
    · rcases List.mem_append.1 hy with h | h
      · have := f1 x (El.mem_rowB.2 (.inr ⟨y, h, hb⟩)); omega
      · have := f3 x (El.mem_rowB.2 (.inr ⟨y, h, hb⟩))
        have := C5.size
        omega
  have e1 : (((scanA d safe).2.1 : Int) == ((scanA d safe).2.1 : Int)) = true := by simp
  have e2 : ((scanA d safe).2.2 == (scanA d safe).2.2) = true := by simp
  rw [e1, e2]
  exact Sif_true (Sif_true (Sif_true (Sif_true (Sif_true (Sif_true (Sif_true (Sif_true (Sif_true (hk wC CC)))))))))
end Go.Proofs.YtipololccbdojaaGreatDoor
