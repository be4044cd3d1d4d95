/-
  DiskLoads: whatever the files, whatever the room: the call returns true.
-/
import Derived.Test.YtncbmfinndcojaaRefH
import Derived.Test.YtncbmfinndcojaaBookC
namespace Go.Proofs.Ytncbmfinndcojaa
open Go Go.Sv Go.MapKept
set_option linter.unusedVariables false
set_option maxRecDepth 10000

theorem FV.cells_one (o : FV) : ∀ v ∈ o.cells, oneV v = true := by intro v hv; simp [FV.cells] at hv; rcases hv with rfl | rfl | rfl <;> rfl
theorem Rd.takeRow {α : Type} {g : α → List Value} {sz : Nat} (hg : ∀ x, (g x).length = sz) {w : World} {p : Option Addr} {L : List α} {n : Nat} (h : Rd w p L.length sz (L.flatMap g)) (hn : n ≤ L.length) : Rd w p n sz ((L.take n).flatMap g) := by
  have hnm : n * sz ≤ L.length * sz := Nat.mul_le_mul_right _ hn
  have e : (L.take n).flatMap g = (L.flatMap g).take (n * sz) := by
    have h1 : L.flatMap g = (L.take n).flatMap g ++ (L.drop n).flatMap g := by rw [← List.flatMap_append, List.take_append_drop]
    rw [h1, List.take_left']
    rw [flat_len hg, List.length_take, Nat.min_eq_left hn]
  obtain ⟨h1, h2⟩ := h
  rw [e]
  refine ⟨by rw [List.length_take, h1, Nat.min_eq_left hnm], ?_⟩
  rcases h2 with h2 | ⟨b, o, cs, hp, hb, hle, ht⟩
  · left; omega
  · right
    refine ⟨b, o, cs, hp, hb, by omega, ?_⟩
    rw [← ht, List.take_take, Nat.min_eq_left hnm]
/-- a file that is lent: its bytes stand in block k, marked behind -/
def toFV (e : FV × Nat) : FV := { e.1 with p := some ⟨e.2, 0, none⟩, c := e.1.dat.length + 9 }
def cellB (e : FV × Nat) : List Value := [.slice (some ⟨e.2, 0, none⟩) e.1.dat.length (e.1.dat.length + 9)]
theorem cellB_len (e : FV × Nat) : (cellB e).length = 1 := rfl
theorem cellB_one (e : FV × Nat) : ∀ v ∈ cellB e, oneV v = true := by intro v hv; simp [cellB] at hv; subst hv; rfl
def behindFV : FV := { name := ⟨#[98, 101, 104, 105, 110, 100]⟩, dat := [], safe := 0, p := none, c := 0 }
structure Lends (w0 w : World) (E : List (FV × Nat)) (F : List FV) (lp : Option Addr) (lc : Nat) (lb : Option Nat) (bp : Option Addr) (bc : Nat) (bb : Option Nat) : Prop where
  lent : Ow w lp F.length lc 3 (F.flatMap FV.cells) lb
  bytes : Ow w bp E.length bc 1 (E.flatMap cellB) bb
  each : ∀ e ∈ E, blk w e.2 = some (bytesV (e.1.dat ++ marks9))
  nodup : (lb.toList ++ (bb.toList ++ E.map (·.2))).Nodup
  new : ∀ k ∈ lb.toList ++ (bb.toList ++ E.map (·.2)), w0.heap.size ≤ k
theorem Lends.lt {w0 w : World} {E : List (FV × Nat)} {F : List FV} {lp : Option Addr} {lc : Nat} {lb : Option Nat} {bp : Option Addr} {bc : Nat} {bb : Option Nat} (H : Lends w0 w E F lp lc lb bp bc bb) : ∀ k ∈ lb.toList ++ (bb.toList ++ E.map (·.2)), k < w.heap.size := by
  intro k hk
  rcases List.mem_append.1 hk with h | h
  · exact H.lent.blt k (by simpa using h)
  · rcases List.mem_append.1 h with h | h
    · exact H.bytes.blt k (by simpa using h)
    · obtain ⟨e, he, rfl⟩ := List.mem_map.1 h
      exact blk_lt (H.each e he)
theorem Lends.ch {S : Nat → Prop} {w0 w w' : World} {E : List (FV × Nat)} {F : List FV} {lp : Option Addr} {lc : Nat} {lb : Option Nat} {bp : Option Addr} {bc : Nat} {bb : Option Nat} (H : Lends w0 w E F lp lc lb bp bc bb) (hc : Ch S w w')
    (hn : ∀ k ∈ lb.toList ++ (bb.toList ++ E.map (·.2)), ¬ S k) : Lends w0 w' E F lp lc lb bp bc bb :=
  ⟨H.lent.ch hc fun k hk => hn k (by simp [hk]), H.bytes.ch hc fun k hk => hn k (by simp [hk]), fun e he => by rw [hc.blk (blk_lt (H.each e he)) (hn e.2 (by simp; exact .inr (.inr ⟨e.1, he⟩)))]; exact H.each e he, H.nodup, H.new⟩
set_option maxHeartbeats 4000000 in
theorem loads_ok {w : World} {p : Option Addr} {c : Nat} {L : List FV} {room : Int} {K : Value → World → Prop} (I : FVIn w p L) (hLl : L.length < 2 ^ 40) (hpc : L.length ≤ c)
    (hk : ∀ w', Ch (fun _ => False) w w' → K (.bool true) w') : callP Try.prog 4 [.slice p L.length c, .int .i64 room] w K := by
  refine ok_longshorelaw19_DiskLoads ?_
  unfold wp_longshorelaw19_DiskLoads
  refine awake_ok fun w1 c1 => ⟨_, rfl, Sif_false ?_⟩
  have I1 := I.ch0 c1
  refine callP_mono (rload_ok (K := fun v w2 => ∃ (q : Option Addr) (n : Int), v = .tuple #[.pointer q, .int .i64 n] ∧ Ch (fun _ => False) w w2 ∧ ((q = none ∧ loadS room L = (n, none)) ∨ ∃ a r B, q = some ⟨r, 0, none⟩ ∧ n = 0 ∧ loadS room L = (0, some a) ∧ RK w2 r a.sorted B)) I1
    (fun e w' h1 h2 => ⟨_, _, rfl, c1.trans' h2, .inl ⟨rfl, h1⟩⟩) fun a r w' B' h1 h2 h3 h4 => ⟨_, _, rfl, c1.trans' h3, .inr ⟨a, r, B', rfl, rfl, h1, h2⟩⟩) ?_
  rintro v w2 ⟨rp, rn, rfl, c2, hr⟩
  refine ⟨_, _, rfl, ?_⟩
  -- the list is lent
  refine ⟨fun m lp ln lc bp bn bc k w' => ∃ (i : Nat) (E : List (FV × Nat)) (lb bb : Option Nat), k = i ∧ i ≤ L.length ∧ m = L.length - i ∧ E.map (·.1) = L.take i ∧ ln = E.length ∧ bn = E.length ∧ Lends w2 w' E (E.map toFV) lp lc lb bp bc bb ∧ Ch (fun _ => False) w2 w',
    ⟨L.length, 0, [], none, none, rfl, by omega, by omega, rfl, rfl, rfl, ⟨Ow.nil, Ow.nil, by simp, by simp, by simp⟩, Ch.refl _ _⟩, ?_⟩
  rintro m lp ln lc bp bn bc k w3 ⟨i, E, lb, bb, rfl, hi, rfl, hE, rfl, rfl, H, c3⟩
  have hEl : E.length = i := by have := congrArg List.length hE; simpa [Nat.min_eq_left hi] using this
  refine Sif_cases (fun g => ?_) fun g => ?_
  · have hlt : i < L.length := by have := of_decide_eq_true g; omega
    have hx : L[i]? = some L[i] := List.getElem?_eq_getElem hlt
    generalize L[i] = x at hx
    have hxm := List.mem_of_getElem? hx
    have I3 := I.ch0 (c2.trans' c3)
    obtain ⟨kb, ko, rfl, g0, g1, g2⟩ := I3.at hx
    refine ⟨by omega, by omega, ?_⟩
    simp only [nn_some, add_at, Int.toNat_natCast, Nat.add_zero]
    refine ⟨_, g0, _, _, _, g1, _, g2, box3 fun w4 b4 c4 z4 => ⟨by omega, by omega, ?_⟩⟩
    obtain ⟨_, _, e1, _, g1', _⟩ := (I3.ch0 c4).at hx
    cases e1
    simp only [add_at, Nat.zero_add]
    refine ⟨_, _, _, g1', lent_ok ((I3.ch0 c4).dat x hxm) (I.dlen x hxm) fun k5 w5 b5 n5 c5 => ⟨_, _, _, rfl, ?_⟩⟩
    have b4' : blk w5 w3.heap.size = some [.string x.name, .slice x.p x.dat.length x.c, .int .i64 x.safe] := by rw [c5.blk (blk_lt b4) id]; exact b4
    have hk5 : k5 < w5.heap.size := blk_lt b5
    refine st_blk b4' (by simp) fun w6 b6 c6 z6 => ?_
    simp only [List.set_cons_succ, List.set_cons_zero] at b6
    refine ⟨_, by rw [cell_blk b6]; rfl, _, _, _, by rw [cell_blk b6]; rfl, _, by rw [cell_blk b6]; rfl, ?_⟩
    have hc36 : Ch (fun _ => False) w3 w6 := (c4.new c5).trans c6 fun k hk h => by omega
    have H6 := H.ch hc36 fun _ _ => id
    have hz36 := hc36.size
    have hz45 := c5.size
    have k6 : blk w6 k5 = some (bytesV (x.dat ++ marks9)) := by rw [c6.blk (blk_lt b5) (by omega)]; exact b5
    have hlt3 := H.lt
    have hnd := H.nodup
    have hp1 := push_ok (te := 37) (ty := 29) (K := fun p7 n10 c6' w11 => ∃ p8 n11 c7, w11.cell? ⟨w3.heap.size, 1, none⟩ = some (.slice p8 n11 c7) ∧ newB w11 [.slice p8 n11 c7] 31 fun a4 w12 => ∃ p9 n12 c8 w13, Sem.run Try.prog (Builtin.append_ #[46, 46] 46 #[.slice bp E.length bc, .slice (some a4) 1 1]) w12 = .ok (.slice p9 n12 c8) w13 ∧
        ∃ (i' : Nat) (E' : List (FV × Nat)) (lb bb : Option Nat), ((i : Int) + 1) = i' ∧ i' = i + 1 ∧ i' ≤ L.length ∧ E'.map (·.1) = L.take i' ∧ n10 = E'.length ∧ n12 = E'.length ∧ Lends w2 w13 E' (E'.map toFV) p7 c6' lb p9 c8 bb ∧ Ch (fun _ => False) w2 w13)
      Try.underlying29 apifile_info rfl FV.cells_len FV.cells_one H6.lent (toFV (x, k5)) (by simp; omega) (by simp; omega) fun p7 c7 lb' w7 o7 n7 c7' => ?_
    · have hl : (E.map toFV).length = E.length := by simp
      rw [hl] at hp1
      refine newB_mono hp1 ?_
      rintro a5 w11 ⟨p7, n10, c6', w12, hr1, p8, n11, c7, hc8, hrest⟩
      refine ⟨p7, n10, c6', w12, hr1, p8, n11, c7, hc8, newB_mono hrest ?_⟩
      rintro a6 w13 ⟨p9, n12, c8, w14, hr2, i', E', lb2, bb2, h1, h1', h2, h3, h4, h5, h6, h7⟩
      refine ⟨p9, n12, c8, w14, hr2, ?_⟩
      rw [nameI_iff, wrap_id (by omega) (by omega)]
      exact ⟨L.length - i', by omega, i', E', lb2, bb2, h1, h2, rfl, h3, h4, h5, h6, h7⟩
    have hlbN : ∀ k, lb' = some k → lb = some k ∨ w6.heap.size ≤ k := n7
    have b7 : blk w7 w3.heap.size = some [.string x.name, .slice (some ⟨k5, 0, none⟩) x.dat.length (x.dat.length + 9), .int .i64 x.safe] := by
      rw [c7'.blk (blk_lt b6) fun e => by have := hlt3 _ (by simp [e] : w3.heap.size ∈ lb.toList ++ (bb.toList ++ E.map (·.2))); omega]; exact b6
    refine ⟨_, _, _, by rw [cell_blk b7]; rfl, ?_⟩
    have hbb : ∀ k, bb = some k → lb ≠ some k := fun k hk e => by
      exact (List.nodup_append.1 hnd).2.2 k (by simp [e]) k (by simp [hk]) rfl
    have hEk : ∀ e ∈ E, lb ≠ some e.2 ∧ bb ≠ some e.2 := fun e he => by
      have h1 : e.2 ∈ E.map (·.2) := List.mem_map.2 ⟨e, he, rfl⟩
      refine ⟨fun h => (List.nodup_append.1 hnd).2.2 e.2 (by simp [h]) e.2 (List.mem_append.2 (.inr h1)) rfl, fun h => ?_⟩
      exact (List.nodup_append.1 (List.nodup_append.1 hnd).2.1).2.2 e.2 (by simp [h]) e.2 h1 rfl
    have hbO : Ow w7 bp E.length bc 1 (E.flatMap cellB) bb := H6.bytes.ch c7' fun k hk => hbb k hk
    refine push_ok (g := cellB) Try.underlying46 lists_info rfl cellB_len cellB_one hbO (x, k5) (by omega) (by omega) fun p9 c9 bb' w9 o9 n9 c9' => ?_
    have hlb9 : ∀ k, lb' = some k → bb ≠ some k := fun k hk e => by
      rcases hlbN k hk with h | h
      · exact hbb k e h
      · have := hlt3 k (by simp [e]); omega
    have hz67 := c7'.size
    refine ⟨i + 1, E ++ [(x, k5)], lb', bb', by simp, rfl, by omega, ?_, by simp, rfl, ⟨?_, o9, fun e he => ?_, ?_, fun k hk => ?_⟩, ((c3.new hc36).trans c7' fun k hk h => ?_).trans c9' fun k hk h => ?_⟩
    · rw [List.map_append, hE, List.take_add_one, hx]; rfl
    · rw [List.map_append]
      exact o7.ch c9' fun k hk e => hlb9 k hk e
    · rcases List.mem_append.1 he with he | he
      · rw [c9'.blk (by rw [← (rfl : w7.heap.size = w7.heap.size)]; have := blk_lt (H6.each e he); omega) (fun h => (hEk e he).2 h), c7'.blk (blk_lt (H6.each e he)) (fun h => (hEk e he).1 h)]; exact H6.each e he
      · simp only [List.mem_singleton] at he
        subst he
        rw [c9'.blk (by have := blk_lt k6; omega) fun h => by have := hlt3 k5 (by simp [h]); omega, c7'.blk (blk_lt k6) fun h => by have := hlt3 k5 (by simp [h]); omega]; exact k6
    · rw [List.map_append]
      simp only [List.map_cons, List.map_nil]
      have hk5n : ∀ e ∈ E, e.2 ≠ k5 := fun e he h => by have := hlt3 e.2 (by simp; exact .inr (.inr ⟨e.1, he⟩)); omega
      have hm : (E.map (·.2) ++ [k5]).Nodup := List.nodup_append.2 ⟨(List.nodup_append.1 (List.nodup_append.1 hnd).2.1).2.1, by simp, fun u hu v hv e => by
        simp only [List.mem_singleton] at hv
        obtain ⟨e', he', rfl⟩ := List.mem_map.1 hu
        exact hk5n e' he' (e.trans hv)⟩
      have hbk : ∀ k, bb' = some k → ∀ v ∈ E.map (·.2) ++ [k5], k ≠ v := fun k hk v hv e => by
        subst e
        have hv' : k < w6.heap.size := by
          rcases List.mem_append.1 hv with h | h
          · have := hlt3 k (List.mem_append.2 (.inr (List.mem_append.2 (.inr h)))); omega
          · simp only [List.mem_singleton] at h; have := blk_lt k6; omega
        rcases n9 k hk with h | h
        · rcases List.mem_append.1 hv with h2 | h2
          · obtain ⟨e', he', h3⟩ := List.mem_map.1 h2
            exact (hEk e' he').2 (by rw [h3]; exact h)
          · simp only [List.mem_singleton] at h2
            have := hlt3 k (by simp [h]); omega
        · omega
      refine List.nodup_append.2 ⟨by cases lb' <;> simp, List.nodup_append.2 ⟨by cases bb' <;> simp, hm, fun u hu v hv => hbk u (by simpa using hu) v hv⟩, fun u hu v hv e => ?_⟩
      subst e
      have hu' : lb' = some u := by simpa using hu
      rcases List.mem_append.1 hv with h | h
      · have hb' : bb' = some u := by simpa using h
        rcases n9 u hb' with h2 | h2
        · exact hlb9 u hu' h2
        · have := o7.blt u hu'; omega
      · rcases hlbN u hu' with h2 | h2
        · rcases List.mem_append.1 h with h3 | h3
          · obtain ⟨e', he', h4⟩ := List.mem_map.1 h3
            exact (hEk e' he').1 (by rw [h4]; exact h2)
          · simp only [List.mem_singleton] at h3
            have := hlt3 u (by simp [h2]); omega
        · rcases List.mem_append.1 h with h3 | h3
          · have := hlt3 u (List.mem_append.2 (.inr (List.mem_append.2 (.inr h3)))); omega
          · simp only [List.mem_singleton] at h3
            have := blk_lt k6; omega
    · have hz23 := c3.size
      rcases List.mem_append.1 hk with h | h
      · rcases hlbN k (by simpa using h) with h2 | h2
        · exact H.new k (by simp [h2])
        · omega
      · rcases List.mem_append.1 h with h | h
        · rcases n9 k (by simpa using h) with h2 | h2
          · exact H.new k (by simp [h2])
          · omega
        · rw [List.map_append] at h
          rcases List.mem_append.1 h with h | h
          · exact H.new k (List.mem_append.2 (.inr (List.mem_append.2 (.inr h))))
          · simp at h; omega
    · have := H.new k (by simp [h]); omega
    · have := H.new k (by simp [h]); omega
  have hge : i = L.length := by have := of_decide_eq_false g; omega
  subst hge
  rw [List.take_length] at hE
  clear g
  -- one more behind; the program's Load
  have hlt3 := H.lt
  have hnd := H.nodup
  have hz23 := c3.size
  have hEl' : (E.map toFV).length = E.length := by simp
  have hp1 := push_ok (te := 37) (ty := 29) (K := fun p3 n4 c2' w5 => n4 = E.length + 1 ∧ ∃ (lb' : Option Nat), Lends w2 w5 E (E.map toFV ++ [behindFV]) p3 c2' lb' bp bc bb ∧ Ch (fun _ => False) w2 w5)
    Try.underlying29 apifile_info rfl FV.cells_len FV.cells_one H.lent behindFV (by simp; omega) (by simp; omega) fun p7 c7 lb' w7 o7 n7 c7' => ?_
  rotate_left
  · have hbb : ∀ k, bb = some k → lb ≠ some k := fun k hk e => (List.nodup_append.1 hnd).2.2 k (by simp [e]) k (by simp [hk]) rfl
    have hEk : ∀ e ∈ E, lb ≠ some e.2 := fun e he h => (List.nodup_append.1 hnd).2.2 e.2 (by simp [h]) e.2 (List.mem_append.2 (.inr (List.mem_map.2 ⟨e, he, rfl⟩))) rfl
    refine ⟨by simp, lb', ⟨o7, H.bytes.ch c7' fun k hk => hbb k hk, fun e he => by rw [c7'.blk (blk_lt (H.each e he)) (hEk e he)]; exact H.each e he, List.nodup_append.2 ⟨by cases lb' <;> simp, (List.nodup_append.1 hnd).2.1, fun u hu v hv e => ?_⟩, fun k hk => ?_⟩, c3.trans c7' fun k hk h => ?_⟩
    · subst e
      rcases n7 u (by simpa using hu) with h | h
      · exact (List.nodup_append.1 hnd).2.2 u (by simp [h]) u hv rfl
      · have := hlt3 u (List.mem_append.2 (.inr hv)); omega
    · rcases List.mem_append.1 hk with h | h
      · rcases n7 k (by simpa using h) with h2 | h2
        · exact H.new k (by simp [h2])
        · omega
      · exact H.new k (List.mem_append.2 (.inr h))
    · have := H.new k (by simp [h]); omega
  rw [hEl'] at hp1
  refine newB_mono hp1 ?_
  rintro a5 w4 ⟨p3, n4, c2', w5, hr1, rfl, lb', H5, c5⟩
  refine ⟨p3, _, c2', w5, hr1, by omega, ?_⟩
  have hF5 : (E.map toFV ++ [behindFV]).length = E.length + 1 := by simp
  have hcap := H5.lent.2.1
  rw [hF5] at hcap
  refine ⟨by omega, ?_⟩
  have hE0 : E.length = L.length := hEl
  have IE : FVIn w5 p3 (E.map toFV) := by
    have hmem : ∀ x ∈ E.map toFV, ∃ y ∈ L, x.name = y.name ∧ x.dat = y.dat ∧ x.safe = y.safe := fun x hx => by
      obtain ⟨e, he, rfl⟩ := List.mem_map.1 hx
      exact ⟨e.1, hE ▸ List.mem_map.2 ⟨e, he, rfl⟩, rfl, rfl, rfl⟩
    refine ⟨?_, fun x hx => ?_, fun x hx => ?_, fun x hx => ?_, ?_, by simp; omega⟩
    · have h1 := H5.lent.rd
      have h2 := Rd.takeRow FV.cells_len h1 (n := E.length) (by omega)
      rw [List.take_left' (by simp)] at h2
      rw [hEl']; exact h2
    · obtain ⟨e, he, rfl⟩ := List.mem_map.1 hx
      have h1 := Rd.of_blk (n := e.1.dat.length) (sz := 1) (H5.each e he) (by rw [lentLen]; omega)
      rw [Nat.mul_one, bytesV_append, List.take_append_of_le_length (by simp), List.take_of_length_le (by simp)] at h1
      exact h1
    · obtain ⟨y, hy, h1, _, _⟩ := hmem x hx
      rw [h1]; exact I.nlen y hy
    · obtain ⟨y, hy, _, h1, _⟩ := hmem x hx
      rw [h1]; exact I.dlen y hy
    · have : (E.map toFV).map (fun x => x.dat.length) = L.map fun x => x.dat.length := by
        rw [← hE, List.map_map, List.map_map]; rfl
      rw [this]; exact I.tot
  have hload : loadS room (E.map toFV) = loadS room L := by
    have hadd : ∀ (E : List (FV × Nat)) (fs : List File), addAll fs (E.map toFV) = addAll fs (E.map (·.1)) := by
      intro E
      induction E with
      | nil => intro fs; rfl
      | cons e E ih =>
        intro fs
        show addAll fs (toFV e :: E.map toFV) = addAll fs (e.1 :: E.map (·.1))
        unfold addAll
        have h1 : badF fs (toFV e) ↔ badF fs e.1 := Iff.rfl
        by_cases hb : badF fs e.1
        · rw [if_pos (h1.2 hb), if_pos hb]
        · rw [if_neg (fun h => hb (h1.1 h)), if_neg hb, ih]; rfl
    unfold loadS
    rw [hadd, hE]
  have htn : Int.toNat (L.length : Int) = (E.map toFV).length := by rw [hEl', hE0]; simp
  rw [htn]
  refine callP_mono (load_ok (K := fun v w6 => ∃ (q : Option Addr) (n : Int), v = .tuple #[.pointer q, .int .i64 n] ∧ Ch (fun _ => False) w5 w6 ∧ ((q = none ∧ loadS room L = (n, none)) ∨ ∃ a d B, q = some ⟨d, 0, none⟩ ∧ n = 0 ∧ loadS room L = (0, some a) ∧ DK w6 d a B ∧ ∀ b, B b → w5.heap.size ≤ b)) IE
    (fun e w' h1 h2 => ⟨_, _, rfl, h2, .inl ⟨rfl, by rw [← hload]; exact h1⟩⟩) fun a d w' B' h1 h2 h3 h4 => ⟨_, _, rfl, h3, .inr ⟨a, d, B', rfl, rfl, by rw [← hload]; exact h1, h2, h4⟩⟩) ?_
  rintro v w6 ⟨dp, dn, rfl, c6, hd⟩
  refine ⟨_, _, rfl, by omega, by omega, ?_⟩
  have H6 := H5.ch c6 fun _ _ => id
  have hbeh : (E.map toFV ++ [behindFV])[E.length]? = some behindFV := by rw [List.getElem?_append_right (by simp)]; simp
  obtain ⟨fb, fo, rfl, hcb⟩ := Rd.at FV.cells_len H6.lent.rd hbeh (by omega)
  simp only [nn_some, add_at, Nat.add_zero]
  have hb0 : w6.cell? ⟨fb, fo + E.length * 3, none⟩ = some (.string behindFV.name) := hcb 0 _ rfl
  rw [hEl']
  refine ⟨_, hb0, ?_⟩
  have hsame : (behindFV.name.toList == (ByteArray.mk #[98, 101, 104, 105, 110, 100]).toList) = true := str_eq_self _
  have hz25 := c5.size
  have hlt5 := H5.lt
  have hnd5 := H5.nodup
  -- each is as it was
  refine ⟨fun m b k w' => ∃ (i : Nat) (F : List FV), b = true ∧ k = i ∧ i ≤ L.length ∧ m = L.length - i ∧ F.length = E.length + 1 ∧ (∀ j, i ≤ j → F[j]? = (E.map toFV ++ [behindFV])[j]?) ∧ Ow w' (some ⟨fb, fo, none⟩) F.length c2' 3 (F.flatMap FV.cells) lb' ∧ Ow w' bp E.length bc 1 (E.flatMap cellB) bb ∧
      (∀ (j : Nat) (e : FV × Nat), E[j]? = some e → i ≤ j → blk w' e.2 = some (bytesV (e.1.dat ++ marks9))) ∧ Ch (fun b => lb' = some b ∨ b ∈ E.map (·.2)) w6 w',
    ⟨L.length, 0, _, hsame, rfl, by omega, by omega, hF5, fun _ _ => rfl, H6.lent, H6.bytes, fun j e he _ => H6.each e (List.mem_of_getElem? he), Ch.refl _ _⟩, ?_⟩
  rintro m b k w7 ⟨i, F, rfl, rfl, hi7, rfl, hF7, hFe, o7, ob7, hb7, c7⟩
  have hnewS : ∀ k, lb' = some k ∨ k ∈ E.map (·.2) → w2.heap.size ≤ k ∧ k < w5.heap.size := fun k hk => by
    have : k ∈ lb'.toList ++ (bb.toList ++ E.map (·.2)) := by
      rcases hk with h | h
      · simp [h]
      · exact List.mem_append.2 (.inr (List.mem_append.2 (.inr h)))
    exact ⟨H5.new k this, hlt5 k this⟩
  have c27 : Ch (fun _ => False) w2 w7 := (c5.new c6).trans c7 fun k hk h => by have := (hnewS k h).1; omega
  have I7 := I.ch0 (c2.trans' c27)
  refine Sif_cases (fun g => ?_) fun g => ?_
  · have hlt : i < L.length := by have := of_decide_eq_true g; omega
    have he : E[i]? = some (E[i]'(by omega)) := List.getElem?_eq_getElem (by omega)
    generalize E[i]'(by omega) = e at he
    have hem := List.mem_of_getElem? he
    have hx : L[i]? = some e.1 := by rw [← hE, List.getElem?_map, he]; rfl
    have hFi : F[i]? = some (toFV e) := by rw [hFe i (Nat.le_refl _), List.getElem?_append_left (by simp; omega), List.getElem?_map, he]; rfl
    refine ⟨fun b' w' => b' = true ∧ ∃ F' : List FV, F'.length = E.length + 1 ∧ (∀ j, i + 1 ≤ j → F'[j]? = (E.map toFV ++ [behindFV])[j]?) ∧ Ow w' (some ⟨fb, fo, none⟩) F'.length c2' 3 (F'.flatMap FV.cells) lb' ∧ Ow w' bp E.length bc 1 (E.flatMap cellB) bb ∧
      (∀ (j : Nat) (e : FV × Nat), E[j]? = some e → i + 1 ≤ j → blk w' e.2 = some (bytesV (e.1.dat ++ marks9))) ∧ Ch (fun b => lb' = some b ∨ b ∈ E.map (·.2)) w6 w', ?_, by omega, by omega, ?_⟩
    · rintro b' w8 ⟨rfl, F', h1, h2, h3, h4, h5, h6⟩
      rw [nameI_iff, wrap_id (by omega) (by omega)]
      exact ⟨L.length - (i + 1), by omega, i + 1, F', rfl, by simp, by omega, rfl, h1, h2, h3, h4, h5, h6⟩
    obtain ⟨kb, ko, hbp, hcb1⟩ := Rd.at cellB_len ob7.rd he (by omega)
    subst hbp
    simp only [nn_some, add_at]
    refine ⟨by omega, by omega, ?_⟩
    have I7d := I7.ch0 (Ch.drew (S := fun _ => False) w7 |>.mono fun _ _ h => h)
    obtain ⟨pb, po, rfl, g0, g1, g2⟩ := I7d.at hx
    simp only [nn_some, add_at, Int.toNat_natCast, Nat.mul_one, Nat.add_zero]
    have hbcell : w7.drew.cell? ⟨kb, ko + i, none⟩ = some (.slice (some ⟨e.2, 0, none⟩) e.1.dat.length (e.1.dat.length + 9)) := by
      have := hcb1 0 _ rfl
      simpa using this
    have hbk : blk w7.drew e.2 = some (bytesV (e.1.dat ++ marks9)) := hb7 i e he (Nat.le_refl _)
    refine ⟨_, _, _, hbcell, _, _, _, g1, asLent_ok hbk (I7d.dat e.1 (List.mem_of_getElem? hx)) (I.dlen e.1 (List.mem_of_getElem? hx)) fun w8 c8 z8 => ⟨_, rfl, ?_⟩⟩
    have hek : e.2 ∈ E.map (·.2) := List.mem_map.2 ⟨e, hem, rfl⟩
    have hen := hnewS e.2 (.inr hek)
    have hlbe : lb' ≠ some e.2 := fun h => (List.nodup_append.1 hnd5).2.2 e.2 (by simp [h]) e.2 (List.mem_append.2 (.inr hek)) rfl
    have hbbe : bb ≠ some e.2 := fun h => (List.nodup_append.1 (List.nodup_append.1 hnd5).2.1).2.2 e.2 (by simp [h]) e.2 hek rfl
    have hbl : ∀ k, bb = some k → lb' ≠ some k := fun k hk h => (List.nodup_append.1 hnd5).2.2 k (by simp [h]) k (by simp [hk]) rfl
    have o8 : Ow w8 (some ⟨fb, fo, none⟩) F.length c2' 3 (F.flatMap FV.cells) lb' := (o7.ch (Ch.drew (S := fun _ => False) w7) fun _ _ => id).ch c8 fun k hk h => hlbe (by rw [hk, h])
    have ob8 : Ow w8 (some ⟨kb, ko, none⟩) E.length bc 1 (E.flatMap cellB) bb := (ob7.ch (Ch.drew (S := fun _ => False) w7) fun _ _ => id).ch c8 fun k hk h => hbbe (by rw [hk, h])
    have c68 : Ch (fun b => lb' = some b ∨ b ∈ E.map (·.2)) w6 w8 := (c7.trans' (Ch.drew w7)).more c8 fun k hk => .inr (hk ▸ hek)
    have hz7 : w7.drew.heap.size = w7.heap.size := rfl
    have hinE : ∀ (j : Nat) (e' : FV × Nat), E[j]? = some e' → j ≠ i → e'.2 ≠ e.2 := fun j e' he' hne h => by
      have h1 := (List.nodup_append.1 (List.nodup_append.1 hnd5).2.1).2.1
      have h2 := (List.getElem?_inj (l := E.map (·.2)) (i := j) (j := i) (by simp; exact (List.getElem?_eq_some_iff.1 he').1) h1).1 (by rw [List.getElem?_map, List.getElem?_map, he', he]; simp [h])
      exact hne h2
    have hb8 : ∀ (j : Nat) (e' : FV × Nat), E[j]? = some e' → i + 1 ≤ j → blk w8 e'.2 = some (bytesV (e'.1.dat ++ marks9)) := fun j e' he' hj => by
      have h1 := hb7 j e' he' (by omega)
      rw [c8.blk (blk_lt h1) (hinE j e' he' (by omega))]; exact h1
    refine ⟨fun b' w' => b' = true ∧ ∃ n, w' = n ∧ Ch (fun _ => False) w8 w', ?_, Sif_true (Sif_true ?_)⟩
    · rintro b' w9 ⟨rfl, _, rfl, c9⟩
      have o9 := o8.ch c9 fun _ _ => id
      have ob9 := ob8.ch c9 fun _ _ => id
      refine ⟨by omega, by rw [hF7.symm.trans hF7] ; omega, ?_⟩
      obtain ⟨xb, xo, e1, e2, hst⟩ := o9.st (i := i * 3) (by omega)
      cases e1
      simp only [add_at]
      refine hst _ _ fun w10 o10 c10 z10 => ?_
      obtain ⟨_, _, e1, _, hst⟩ := o10.st (i := i * 3 + 1) (by omega)
      cases e1
      rw [show fo + i * 3 + 1 = fo + (i * 3 + 1) by omega]
      refine hst _ _ fun w11 o11 c11 z11 => ?_
      obtain ⟨_, _, e1, _, hst⟩ := o11.st (i := i * 3 + 2) (by omega)
      cases e1
      rw [show fo + i * 3 + 2 = fo + (i * 3 + 2) by omega]
      refine hst _ _ fun w12 o12 c12 z12 => ?_
      have hs1 := flat_set FV.cells_len (x' := { toFV e with name := ⟨#[]⟩ }) F i 0 (.string ⟨#[]⟩) hFi (by omega) rfl
      rw [Nat.add_zero] at hs1
      have hs2 := flat_set FV.cells_len (x' := { name := ⟨#[]⟩, dat := [], safe := (toFV e).safe, p := none, c := 0 }) (F.set i { toFV e with name := ⟨#[]⟩ }) i 1 (.slice none 0 0) (x := { toFV e with name := ⟨#[]⟩ }) (List.getElem?_set_self (by omega)) (by omega) rfl
      have hs3 := flat_set FV.cells_len (x' := { name := ⟨#[]⟩, dat := [], safe := 0, p := none, c := 0 }) ((F.set i { toFV e with name := ⟨#[]⟩ }).set i { name := ⟨#[]⟩, dat := [], safe := (toFV e).safe, p := none, c := 0 }) i 2 (.int .i64 0) (x := { name := ⟨#[]⟩, dat := [], safe := (toFV e).safe, p := none, c := 0 }) (List.getElem?_set_self (by simp; omega)) (by omega) rfl
      rw [hs1, hs2, hs3] at o12
      have hc912 : Ch (fun k => k = fb) w9 w12 := (c10.trans' c11).trans' c12
      refine ⟨by trivial, ((F.set i { toFV e with name := ⟨#[]⟩ }).set i { name := ⟨#[]⟩, dat := [], safe := (toFV e).safe, p := none, c := 0 }).set i { name := ⟨#[]⟩, dat := [], safe := 0, p := none, c := 0 }, by simpa using hF7, fun j hj => ?_, by simpa using o12, ob9.ch hc912 fun k hk h => hbl k hk (by rw [e2, h]), fun j e' he' hj => ?_, (c68.new c9).more hc912 fun k hk => .inl (by rw [e2, hk])⟩
      · rw [List.getElem?_set_ne (by omega), List.getElem?_set_ne (by omega), List.getElem?_set_ne (by omega)]
        exact hFe j (by omega)
      · have h1 := hb8 j e' he' hj
        rw [hc912.blk (by have := blk_lt h1; have := c9.size; omega) fun h => by
          have h2 : e'.2 ∈ E.map (·.2) := List.mem_map.2 ⟨e', List.mem_of_getElem? he', rfl⟩
          exact (List.nodup_append.1 hnd5).2.2 e'.2 (by simp [e2, h]) e'.2 (List.mem_append.2 (.inr h2)) rfl, c9.blk (blk_lt h1) id]
        exact h1
    · have I8 : FVIn w8 (some ⟨pb, po, none⟩) L := by
        have c28 : Ch (fun _ => False) w2 w8 := (c5.new c6).trans c68 fun k hk h => by have := (hnewS k h).1; omega
        exact I.ch0 (c2.trans' c28)
      have I8d := I8.ch0 (Ch.drew (S := fun _ => False) w8)
      obtain ⟨_, _, e1, h0, h1, h2⟩ := I8d.at hx
      cases e1
      have o8d := o8.ch (Ch.drew (S := fun _ => False) w8) fun _ _ => id
      obtain ⟨_, _, e1, hcf⟩ := Rd.at FV.cells_len o8d.rd hFi (by omega)
      cases e1
      refine ⟨by omega, by omega, by omega, by omega, _, by simpa using hcf 0 _ rfl, _, h0, ?_⟩
      refine Sif_cases (fun _ => ⟨by omega, by omega, by omega, by omega, _, hcf 2 _ rfl, _, h2, by simp [toFV], _, rfl, Ch.drew w8⟩) fun q => ?_
      have : ((toFV e).name.toList == e.1.name.toList) = true := str_eq_self _
      rw [this] at q; cases q
  · refine ⟨fun w' => w' = w7, ?_, Sif_true ?_⟩
    · rintro w8 rfl
      rcases hd with ⟨rfl, _⟩ | ⟨a, d, B, rfl, rfl, hla, D, hB⟩
      · exact Sif_true (hk _ (c2.trans' c27))
      · refine Sif_false ?_
        have D8 : DK w8 d a B := D.ch c7 fun b hb h => by have := (hnewS b h).2; have := hB b hb; omega
        have haf : a.fs.length ≤ L.length ∧ a.down = false := by
          unfold loadS at hla
          split at hla
          · cases hla
          · cases hadd : addAll [] L with
            | none => rw [hadd] at hla; cases hla
            | some fs =>
              rw [hadd] at hla
              simp only at hla
              split at hla
              · cases hla
              · simp only [Prod.mk.injEq, Option.some.injEq, true_and] at hla
                subst hla
                refine ⟨?_, rfl⟩
                have key : ∀ (L : List FV) (fs0 fs : List File), addAll fs0 L = some fs → fs.length = fs0.length + L.length := by
                  intro L
                  induction L with
                  | nil => intro fs0 fs h; simp only [addAll, Option.some.injEq] at h; subst h; rfl
                  | cons x L ih =>
                    intro fs0 fs h
                    unfold addAll at h
                    split at h
                    · cases h
                    · have := ih _ _ h
                      simp at this ⊢
                      omega
                have := key L [] fs hadd
                simp at this
                show fs.length ≤ L.length
                omega
        rcases hr with ⟨_, hl2⟩ | ⟨a', r, B2, rfl, rfl, hl2, R⟩
        · rw [hla] at hl2; cases hl2
        rw [hla] at hl2
        simp only [Prod.mk.injEq, Option.some.injEq, true_and] at hl2
        subst hl2
        have R8 : RK w8 r a.sorted B2 := R.ch c27 fun _ _ => id
        refine up_ok D8 fun w9 B9 D9 c9 n9 => ⟨_, rfl, ?_⟩
        rw [haf.2]
        have hR2 := R.lt
        have R9 := R8.ch c9 fun b hb h => by have := hR2 b hb; have := hB b h; omega
        refine filesS_ok D9 (by omega) fun p5 c5' ob5 O5 w10 B10 D10 c10 n10 FR hO5 hn5 => ⟨_, _, _, rfl, ?_⟩
        have R10 := R9.ch c10 fun b hb h => by
          have := hR2 b hb
          rcases n9 b h with h | h
          · have := hB b h; omega
          · have := c27.size; omega
        have wf := D10.wf
        refine rfiles_ok R10 (fun f hf => by have := dat_le_total hf; have := wf.tot; omega) (by rw [sorted_len]; omega) fun p6 c6' ob6 O6 w11 c11 FR6 hO6 hn6 => ⟨_, _, _, rfl, ?_⟩
        refine Same_ok (FR.rd.ch0 c11) FR6.rd (by rw [hO5, hO6]) (by have := congrArg List.length hO5; rw [sorted_len] at this; simp at this; omega) fun w12 c12 z12 => ⟨_, rfl, Sif_true (hk _ ?_)⟩
        have c212 : Ch (fun _ => False) w2 w10 := (c27.trans c9 fun k hk h => by have := hB k h; omega).trans c10 fun k hk h => by
          rcases n9 k h with h | h
          · have := hB k h; omega
          · have := c27.size; omega
        exact c2.trans' ((c212.new c11).new c12)
    · have hnn : dn = rn ∧ Option.isNone dp = Option.isNone rp := by
        rcases hd with ⟨rfl, h1⟩ | ⟨a, d, B, rfl, rfl, h1, _⟩
        · rcases hr with ⟨rfl, h2⟩ | ⟨a', r, B2, rfl, rfl, h2, _⟩
          · rw [h1] at h2; cases h2; exact ⟨rfl, rfl⟩
          · rw [h1] at h2; cases h2
        · rcases hr with ⟨rfl, h2⟩ | ⟨a', r, B2, rfl, rfl, h2, _⟩
          · rw [h1] at h2; cases h2
          · exact ⟨rfl, rfl⟩
      rw [hnn.1, hnn.2]
      refine Sif_cases (fun _ => Sif_cases (fun q => ?_) fun _ => rfl) fun q => ?_
      · simp at q
      · simp at q
end Go.Proofs.Ytncbmfinndcojaa
