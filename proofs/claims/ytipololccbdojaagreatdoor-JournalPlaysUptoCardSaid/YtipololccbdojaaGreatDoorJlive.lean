/-
  The chapter's first examples hold (live); JournalNumbers.
-/
import Derived.Test.YtipololccbdojaaGreatDoorJsame
import Derived.Test.YtipololccbdojaaGreatDoorJopen
namespace Go.Proofs.YtipololccbdojaaGreatDoor
open Go Go.Sv
set_option linter.unusedVariables false
set_option maxRecDepth 4000

theorem JD.sort {w : World} {jb d : Nat} {a : AD} {j : AJ} {B : Nat → Prop} (H : JD w jb d a j B) : JD w jb d a.sorted j B := ⟨H.m, H.dk.sort, H.ap⟩
/-- bytes newly laid -/
theorem rv_new {w : World} {k : Nat} {l : List UInt8} {n : Nat} (hb : blk w k = some (bytesV l)) (hn : l.length = n) : RV.ok w (· = k) ⟨some ⟨k, 0, none⟩, n, n, l⟩ := ⟨rd_blk hb hn, Nat.le_refl _, fun a ha _ => by cases ha; rfl⟩
theorem vr_new {w : World} {k : Nat} {X : List RV} {B : Nat → Prop} {n : Nat} (hb : blk w k = some (X.flatMap RV.cells)) (hn : X.length = n) (hX : ∀ x ∈ X, x.ok w B) (hk : B k) : VR w B (some ⟨k, 0, none⟩) n X := by
  subst hn
  have e : (X.flatMap RV.cells).length = X.length * 1 := flat_len RV.cells_len X
  exact ⟨rfl, ⟨e, .inr ⟨k, 0, _, rfl, blk_cells hb, by omega, by rw [List.drop_zero, List.take_of_length_le (by omega)]⟩⟩, hX, fun a ha _ => by cases ha; exact hk⟩
theorem vl_new {w : World} {k : Nat} {Y : List BV} {B : Nat → Prop} {n : Nat} (hb : blk w k = some (Y.flatMap BV.cells)) (hn : Y.length = n) (hY : ∀ y ∈ Y, y.ok w B) (hk : B k) : VL w B (some ⟨k, 0, none⟩) n Y := by
  subst hn
  have e : (Y.flatMap BV.cells).length = Y.length * 1 := flat_len BV.cells_len Y
  exact ⟨rfl, ⟨e, .inr ⟨k, 0, _, rfl, blk_cells hb, by omega, by rw [List.drop_zero, List.take_of_length_le (by omega)]⟩⟩, hY, fun a ha _ => by cases ha; exact hk⟩
def liveR : Batch := [[97], [98, 99]]
theorem liveR_len : (batchB liveR).length = 23 := by rw [batchB_length (by decide)]; rfl
/-- on a new disk: Open, a batch, Open again -/
theorem live_plain : ∃ a1 j1, (newA 1000).jopen = (0, a1, some (j1, [])) ∧ Sure a1.sorted j1 ∧ j1.size = 0 ∧ a1.cnt ≤ 3 ∧ ∃ a2 j2, a1.sorted.add j1 liveR = (0, a2, j2) ∧ j2.size = 23 ∧ a2.cnt ≤ 6 ∧ ∃ a3 j3, a2.sorted.jopen = (0, a3, some (j3, [liveR])) := by
  have nd0 : ND (newA 1000) := List.nodup_nil
  have h0 : LogF ((newA 1000).file sLog) [] := ⟨by simp, rfl⟩
  rcases open_up nd0 rfl h0 with ⟨a', h1, h2, h3⟩ | ⟨a1, j1, h1, h2, h3, h4⟩
  · exact absurd rfl h2.armed
  have e1 := cnt_open (newA 1000)
  rw [h1] at e1
  have e1 : a1.cnt ≤ 3 := e1
  have hroom : a1.room = 1000 := h2.room
  have hacts : a1.acts = -1 := h2.free rfl
  have hfd : total a1.fs = 0 ∧ fileD a1 sLog = [] := by
    rcases h4 rfl with ⟨q1, q2, _⟩ | ⟨q1, q2, _⟩
    · exact ⟨q1, q2⟩
    · have : (fileD a1 sLog).length = 0 := by rw [q2]; rfl
      have t0 : total (newA 1000).fs = 0 := rfl
      exact ⟨by omega, q2⟩
  have hS : Sure a1.sorted j1 := fun _ _ => by rw [h3.size]; exact Nat.zero_le _
  refine ⟨a1, j1, h1, hS, h3.size, e1, ?_⟩
  have L1 := h3.sort
  have hroom2 : a1.sorted.room = 1000 := hroom
  have ht2 : total a1.sorted.fs = 0 := by rw [tot_sorted]; exact hfd.1
  have hfd2 : fileD a1.sorted sLog = [] := by unfold fileD; rw [file_sorted h3.nd]; exact hfd.2
  have hall : (allB ([] : List Batch)).length = 0 := rfl
  have hlen := liveR_len
  have e2 := cnt_add a1.sorted j1 liveR
  rw [cnt_sorted] at e2
  rcases L1.add liveR (by omega) with ⟨q1, q2⟩ | ⟨q1, q2⟩ | ⟨_, _, q⟩
  · exact absurd q2 (by decide)
  · exact absurd q2 (by decide)
  rcases q with ⟨a', j', q1, q2, q3, q4, q5, q6⟩ | ⟨a', j', q1, q2, q3, q4⟩ | ⟨a', j', q1, q2, q3, q4, q5, q6, q7, q8⟩
  · exfalso
    rw [hfd2, ht2, hroom2, hlen] at q5
    rw [ht2, hroom2, hlen] at q6
    cases ht : j1.tail with
    | true => have := q5 ht (by simp [allB]); simp [allB] at this
    | false => have := q6 ht; simp at this
  · exact absurd hacts q2.armed
  · rw [q1] at e2
    have e2 : a'.cnt ≤ a1.cnt + 3 := e2
    refine ⟨a', j', q1, by rw [q3.size]; simp [allB, hlen], by omega, ?_⟩
    have L2 := q3.sort
    rcases open_up L2.nd L2.up L2.logF with ⟨a'', r1, r2, r3⟩ | ⟨a3, j3, r1, r2, r3, r4⟩
    · exact absurd (q2.free hacts) r2.armed
    · exact ⟨a3, j3, r1⟩
theorem newA_lt (r : Int) : ltS (newA r) := List.Pairwise.nil
set_option maxHeartbeats 2000000 in
theorem live_ok {w : World} {aB aS : Addr} {K : Value → World → Prop} (E : ErrsA w aB aS) (hk : ∀ w', Ch (fun _ => False) w w' → K (.bool true) w') : callP Tryz.prog 9 [] w K := by
  obtain ⟨a1, j1, p1, pS, pz, pc, a2, j2, p2, pz2, pc2, a3, j3, p3⟩ := live_plain
  refine ok_longshorelaw20_live ?_
  unfold wp_longshorelaw20_live
  refine new_ok (fun h => by omega) fun _ _ d w1 B1 D1 c1 n1 => ⟨_, rfl, Sif_false ?_⟩
  have F1 : Fresh w w1 B1 := ⟨c1, n1⟩
  refine jopen_ok D1 (fun w' c => E.ch (c1.trans c fun x hx h => by have := n1 x h; omega)) (newA_lt _) (by decide) (fun w2 B2 _ _ _ hn => by rw [p1] at hn; cases hn) fun w2 B2 jb j L q m cq own R hj H2 c2 n2 njb hrow hsay hfr => ⟨_, _, _, _, _, rfl, ?_⟩
  rw [p1] at hj H2
  have hj2 : j1 = j ∧ ([] : List Batch) = L := by simpa using hj
  obtain ⟨rfl, rfl⟩ := hj2
  have hR : R = [] := by simpa using hsay
  subst hR
  have hm : m = 0 := hrow.1.symm
  subst hm
  have F2 := F1.step c2 n2
  refine ⟨fun w3 => w3 = w2, ?_, Sif_true (Sif_true (Sif_false rfl))⟩
  rintro w3 rfl
  refine newB_blk fun w4 b4 c4 z4 => newB_blk fun w5 b5 c5 z5 => newB_blk fun w6 b6 c6 z6 => ?_
  have z3 := c2.size
  have H6 := ((H2.ch0 c4).ch0 c5).ch0 c6
  have hlt2 := H2.blt
  have F6 : Fresh w w6 B2 := ((F2.more c4).more c5).more c6
  have b4' : blk w6 w3.heap.size = some (bytesV [97]) := by rw [(c5.new c6).blk (by omega) id]; exact b4
  have b5' : blk w6 w4.heap.size = some (bytesV [98, 99]) := by rw [c6.blk (by omega) id]; exact b5
  have V6 : VR w6 (fun b => w3.heap.size ≤ b) (some ⟨w5.heap.size, 0, none⟩) 2 [⟨some ⟨w3.heap.size, 0, none⟩, 1, 1, [97]⟩, ⟨some ⟨w4.heap.size, 0, none⟩, 2, 2, [98, 99]⟩] := by
    refine vr_new b6 rfl (fun x hx => ?_) (by show _ ≤ _; omega)
    simp only [List.mem_cons, List.not_mem_nil, or_false] at hx
    rcases hx with rfl | rfl
    · exact (rv_new b4' rfl).mono fun b e => by have e : b = w3.heap.size := e; show _ ≤ _; omega
    · exact (rv_new b5' rfl).mono fun b e => by have e : b = w4.heap.size := e; show _ ≤ _; omega
  have hdis : ∀ b, w3.heap.size ≤ b → ¬ (B2 b ∨ b = jb) := fun b hb h => by have := hlt2 b h; omega
  refine add_ok H6.sort pS V6 hdis (by show (body liveR).length ≤ 2 ^ 40; decide) (by decide) (by omega) ?_
  show JPost w6 jb d (a1.sorted.add j1 liveR).2.1 (a1.sorted.add j1 liveR).2.2 B2 _
  rw [show saysR [(⟨some ⟨w3.heap.size, 0, none⟩, 1, 1, [97]⟩ : RV), ⟨some ⟨w4.heap.size, 0, none⟩, 2, 2, [98, 99]⟩] = liveR from rfl, p2]
  intro w7 B7 H7 c7 n7
  have F7 : Ch (fun _ => False) w w7 ∧ ∀ b, B7 b → w.heap.size ≤ b := by
    have hs1 := F2.ch.size
    have hz6 := F6.ch.size
    refine ⟨F6.ch.trans c7 fun x hx h => ?_, fun b h => ?_⟩
    · rcases h with h | h
      · have := F6.new x h; omega
      · have := c1.size; omega
    · rcases n7 b h with h | h
      · exact F6.new b h
      · omega
  refine ⟨_, rfl, size_ok H7 ⟨_, rfl, ?_⟩⟩
  refine jopen_ok H7.dk.sort (fun w' c => E.ch (F7.1.trans c fun x hx h => by have := F7.2 x h; omega)) (ltS_sorted _) (by rw [sorted_len]; show a2.cnt ≤ _; omega) (fun w2 B2 _ _ _ hn => by rw [p3] at hn; cases hn) fun w9 B9 jb9 j9 L9 q9 m9 cq9 own9 R9 hj9 H9 c9 n9 njb9 hrow9 hsay9 hfr9 => ⟨_, _, _, _, _, rfl, ?_⟩
  rw [p3] at hj9
  have hj9' : j3 = j9 ∧ [liveR] = L9 := by simpa using hj9
  obtain ⟨rfl, rfl⟩ := hj9'
  refine newB_blk fun w10 b10 c10 z10 => newB_blk fun w11 b11 c11 z11 => newB_blk fun w12 b12 c12 z12 => newB_blk fun w13 b13 c13 z13 => ?_
  have c913 : Ch (fun _ => False) w9 w13 := ((c10.new c11).new c12).new c13
  have V9 := (BtE.Row.view hrow9).ch0 c913
  have b10' : blk w13 w9.heap.size = some (bytesV [97]) := by rw [((c11.new c12).new c13).blk (by omega) id]; exact b10
  have b11' : blk w13 w10.heap.size = some (bytesV [98, 99]) := by rw [(c12.new c13).blk (by omega) id]; exact b11
  have b12' : blk w13 w11.heap.size = some ([(⟨some ⟨w9.heap.size, 0, none⟩, 1, 1, [97]⟩ : RV), ⟨some ⟨w10.heap.size, 0, none⟩, 2, 2, [98, 99]⟩].flatMap RV.cells) := by rw [c13.blk (by omega) id]; exact b12
  have V13 : VL w13 (fun _ => True) (some ⟨w12.heap.size, 0, none⟩) 1 [⟨some ⟨w11.heap.size, 0, none⟩, 2, 2, [⟨some ⟨w9.heap.size, 0, none⟩, 1, 1, [97]⟩, ⟨some ⟨w10.heap.size, 0, none⟩, 2, 2, [98, 99]⟩]⟩] := by
    refine vl_new b13 rfl (fun x hx => ?_) trivial
    simp only [List.mem_cons, List.not_mem_nil, or_false] at hx
    subst hx
    refine ⟨vr_new b12' rfl (fun x hx => ?_) trivial, Nat.le_refl _⟩
    simp only [List.mem_cons, List.not_mem_nil, or_false] at hx
    rcases hx with rfl | rfl
    · exact (rv_new b10' rfl).mono fun _ _ => trivial
    · exact (rv_new b11' rfl).mono fun _ _ => trivial
  have hlen9 : R9.length = 1 := by have := congrArg List.length hsay9; simpa using this
  have hrl : m9 = 1 := by rw [← hrow9.1]; exact hlen9
  refine same_ok V9 V13 (by omega) (fun y hy => ?_) fun w14 c14 => ⟨_, rfl, ?_⟩
  · obtain ⟨x, hx, rfl⟩ := List.mem_map.1 hy
    have hx2 : RcE.Row w9 x.s.p x.s.n x.s.c x.s.own x.r := hrow9.2.2.1 x hx
    have h1 : x.r.length = x.s.n := hx2.1
    have h2 : x.says ∈ R9.map Bt.says := List.mem_map.2 ⟨x, hx, rfl⟩
    rw [hsay9, List.mem_singleton] at h2
    have h3 := congrArg List.length h2
    simp [Bt.says, liveR] at h3
    show x.s.n ≤ _; omega
  have hC : Ch (fun _ => False) w w14 := ((F7.1.trans c9 fun x hx h => by have := F7.2 x h; omega).new c913).new c14
  have hs : saysL (R9.map Bt.view) = [liveR] := by rw [view_says, hsay9]
  have h23 : ((j2.size : Int) == 23) = true := by rw [pz2]; rfl
  rw [hs, h23]
  exact Sif_true (Sif_true (Sif_true (hk w14 hC)))
end Go.Proofs.YtipololccbdojaaGreatDoor
