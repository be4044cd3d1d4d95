/-
  DiskLasts: whatever the script, the call returns true.
-/
import Derived.Test.YtncbmfinndcojaaDiskN
namespace Go.Proofs.Ytncbmfinndcojaa
open Go Go.Sv Go.MapKept
set_option linter.unusedVariables false
set_option maxRecDepth 10000

/-- the steps of a script, as they came in -/
structure OpsIn (w : World) (p : Option Addr) (ops : List OpV) : Prop where
  row : Rd w p ops.length 7 (ops.flatMap OpV.cells)
  each : ∀ o ∈ ops, Rd w o.dp o.dat.length 1 (bytesV o.dat) ∧ o.dat.length ≤ 2 ^ 62 ∧ o.name.size ≤ 2 ^ 62 ∧ o.to.size ≤ 2 ^ 62
  len : ops.length < 2 ^ 41
theorem sorted_sorted (a b : AD) (h : b.fs = a.sorted.fs) : b.sorted.fs = a.sorted.fs := by
  show b.fs.mergeSort leN = _
  rw [h]
  exact List.mergeSort_of_pairwise (by
    have := a.sorted_pw
    rw [List.pairwise_map] at this
    exact this.imp fun h => by simpa [leN] using h)
set_option maxHeartbeats 4000000 in
theorem lasts_ok {w : World} {p : Option Addr} {c : Nat} {ops : List OpV} {n acts keep : Int} {K : Value → World → Prop} (H : OpsIn w p ops) (hn1 : -9223372036854775808 ≤ n) (hn2 : n ≤ 9223372036854775807) (ha : acts ≤ 9223372036854775807)
    (hk : ∀ w', Ch (fun _ => False) w w' → K (.bool true) w') : callP Try.prog 3 [.slice p ops.length c, .int .i64 n, .agg #[.int .i64 acts, .int .i64 keep]] w K := by
  have hlen := H.len
  refine ok_longshorelaw19_DiskLasts ?_
  unfold wp_longshorelaw19_DiskLasts
  refine newB_blk fun w1 b1 c1 y1 => ?_
  refine ⟨acts, by rw [add_at, cell_blk b1]; rfl, keep, by rw [add_at, cell_blk b1]; rfl, ?_⟩
  refine awake_ok fun w2 c2 => ⟨true, rfl, ?_⟩
  refine new_ok (fun h => by omega) fun _ _ d w3 B3 D3 c3 n3 => ⟨some ⟨d, 0, none⟩, rfl, ?_⟩
  have F3 : Fresh w w3 B3 := ⟨(c1.new c2).new c3, fun b hb => by have := n3 b hb; have := (c1.new c2).size; omega⟩
  refine ⟨fun w' => w' = w3, ?_, Sif_true (Sif_false rfl)⟩
  rintro w4 rfl
  refine ⟨fun n' w' => w' = w4 ∧ 0 ≤ n', ?_, Sif_cases (fun g => ?_) fun g => ?_⟩
  rotate_left
  · have g' := of_decide_eq_true g
    rw [nameI_iff, wrap_id (n := n + 1) (by omega) (by omega), wrap_id (by omega) (by omega)]
    exact ⟨rfl, by omega⟩
  · have g' := of_decide_eq_false g
    exact ⟨rfl, by omega⟩
  rintro n5 w5 ⟨rfl, hn0⟩
  refine ⟨fun m k w' => ∃ (i : Nat) (a : AD) (B : Nat → Prop), k = i ∧ i ≤ ops.length ∧ m = ops.length - i ∧ DK w' d a B ∧ a.down = false ∧ a.fs.length ≤ i ∧ Fresh w w' B,
    ⟨ops.length, 0, newA 16777216, B3, rfl, by omega, by omega, D3, rfl, by simp [newA], F3⟩, ?_⟩
  rintro m k w6 ⟨i, a, B, rfl, hi, rfl, D, hup, hfs, F⟩
  refine Sif_cases (fun g => ?_) fun g => hk w6 F.ch
  have hlt : i < ops.length := by have := of_decide_eq_true g; omega
  have hio : ops[i]? = some ops[i] := List.getElem?_eq_getElem hlt
  have hom := List.mem_of_getElem? hio
  generalize ops[i] = o at hio hom
  obtain ⟨hod, hol, hon, hot⟩ := H.each o hom
  refine ⟨fun w' => ∃ (a : AD) (B : Nat → Prop), DK w' d a B ∧ a.down = false ∧ a.fs.length ≤ i + 1 ∧ Fresh w w' B, ?_, ?_⟩
  · rintro w7 ⟨a, B, D, hu, hf, F⟩
    rw [nameI_iff, wrap_id (by omega) (by omega)]
    exact ⟨ops.length - (i + 1), by omega, i + 1, a, B, by simp, by omega, rfl, D, hu, hf, F⟩
  refine ⟨fun w' => ∃ (a : AD) (B : Nat → Prop), DK w' d a B ∧ a.down = false ∧ a.fs.length ≤ i ∧ Fresh w w' B, ?_, by rw [wrap_id (by omega) (by omega)]; omega, Sif_cases (fun g => ?_) fun g => ⟨a, B, D, hup, hfs, F⟩⟩
  rotate_left
  · refine arm_ok D ha fun w7 B7 D7 c7 n7 => ⟨rfl, _, B7, D7, ?_, ?_, F.step c7 n7⟩
    · unfold AD.arm; split <;> exact hup
    · unfold AD.arm; split <;> exact hfs
  clear D hup hfs F a B
  rintro w7 ⟨a, B, D, hup, hfs, F⟩
  refine filesS_ok D (by omega) fun p1 c1' ob1 O1 w8 B8 D8 c8 n8 R1 hO1 hnew1 => ⟨p1, _, c1', rfl, by omega, by omega, ?_⟩
  have F8 := F.step c8 fun b h => .inl (n8 b h)
  have hBlt := D.lt
  obtain ⟨sb, so, rfl, hc⟩ := Rd.at OpV.cells_len (H.row.ch F8.ch fun _ _ _ => id) hio (by omega)
  simp only [nn_some, add_at, Int.toNat_natCast]
  refine ⟨_, hc 0 _ rfl, _, hc 1 _ rfl, _, hc 2 _ rfl, _, hc 3 _ rfl, _, hc 4 _ rfl, _, hc 5 _ rfl, _, _, _, hc 6 _ rfl, ?_⟩
  refine box7 fun w9 b9 c9 y9 => ?_
  simp only [add_at, Nat.zero_add]
  refine ⟨_, by rw [cell_blk b9]; rfl, _, by rw [cell_blk b9]; rfl, _, by rw [cell_blk b9]; rfl, _, by rw [cell_blk b9]; rfl, _, by rw [cell_blk b9]; rfl, _, by rw [cell_blk b9]; rfl, _, _, _, by rw [cell_blk b9]; rfl, ?_⟩
  have F9 := F8.more c9
  have hup' : a.sorted.down = false := hup
  have R1l := R1.lt
  refine doAct_ok (D8.ch c9 fun _ _ => id) (by omega) (by omega) (hod.ch F9.ch fun _ _ _ => id) hol (fun q hq h0 hB => ?_) ?_
  · have h1 := hod.lt q hq (by omega)
    have h2 := F8.new _ hB
    omega
  intro w10 B10 D10 c10 n10
  have F10 := F9.step c10 n10
  refine ⟨_, rfl, Sif_cases (fun g => ?_) fun g => ?_⟩
  · obtain ⟨h1, h2⟩ := do_up (o := o) hup' (by simpa using g)
    rw [sorted_len] at h2
    exact ⟨_, B10, D10, h1, by omega, F10⟩
  obtain ⟨hdn, hlen2, hfell⟩ := do_down (a := a.sorted) (o := o) hup' D8.wf (by simpa using g)
  rw [sorted_len] at hlen2
  have hsafe := D8.wf.safe
  generalize (a.sorted.do o).2 = a2 at *
  generalize (a.sorted.do o).1 = e2 at *
  have R10 : FilesR w10 p1 c1' ob1 O1 := (R1.ch c9 fun _ _ => id).ch c10 fun b hb hB => by
    have h1 := hnew1 b hb
    have h2 := hBlt b (n8 b hB)
    omega
  have k10 : blk w10 w8.heap.size = some o.cells := by
    rw [c10.blk (blk_lt b9) fun hB => by have := hBlt _ (n8 _ hB); have := c8.size; omega]; exact b9
  refine filesS_ok D10 (by omega) fun p2 c2' ob2 O2 w11 B11 D11 c11 n11 R2 hO2 hnew2 => ⟨p2, _, c2', rfl, ?_⟩
  have F11 := F10.step c11 fun b h => .inl (n11 b h)
  have hB10 : ∀ b, B10 b → b < w8.heap.size ∨ w9.heap.size ≤ b := fun b hb => (n10 b hb).imp (fun h => by have := hBlt b (n8 b h); have := c8.size; omega) id
  refine up_ok D11 fun w12 B12 D12 c12 n12 => ⟨_, rfl, ?_⟩
  have F12 := F11.step c12 n12
  have hdn' : a2.sorted.down = true := hdn
  rw [hdn']
  have c112 : Ch B10 w10 w12 := c11.trans c12 fun b hb h => n11 b h
  have z11 := c11.size
  have R12a : FilesR w12 p1 c1' ob1 O1 := R10.ch c112 fun b hb hB => by
    have h1 := hnew1 b hb
    have h2 := R1l b hb
    have h3 := c9.size
    rcases n10 b hB with h | h
    · have := hBlt b (n8 b h); omega
    · omega
  have k12 : blk w12 w8.heap.size = some o.cells := by
    rw [c112.blk (blk_lt k10) fun hB => by have := hB10 _ hB; omega]; exact k10
  have R12b : FilesR w12 p2 c2' ob2 O2 := R2.ch c12 fun b hb hB => by
    have h1 := hnew2 b hb
    have h2 := D10.lt b (n11 b hB)
    omega
  have hl1 : O1.length = a.fs.length := by have := congrArg List.length hO1; rw [sorted_len] at this; simpa using this
  have hl2 : O2.length = a2.fs.length := by have := congrArg List.length hO2; rw [sorted_len] at this; simpa using this
  refine ⟨fun m k w' => ∃ j : Nat, k = j ∧ j ≤ O1.length ∧ m = O1.length - j ∧ Ch (fun _ => False) w12 w', ⟨O1.length, 0, rfl, Nat.zero_le _, by omega, Ch.refl _ _⟩, ?_⟩
  rintro m k w13 ⟨j, rfl, hj, rfl, c13⟩
  refine Sif_cases (fun g => ?_) fun g => ?_
  · refine ⟨fun w' => Ch (fun _ => False) w12 w', fun w14 c14 => ?_, by omega, by have := of_decide_eq_true g; omega, ?_⟩
    · rw [nameI_iff, wrap_id (by omega) (by omega)]
      have := of_decide_eq_true g
      exact ⟨O1.length - (j + 1), by omega, j + 1, by simp, by omega, rfl, c14⟩
    have hjl : j < O1.length := by have := of_decide_eq_true g; omega
    have hx : O1[j]? = some O1[j] := List.getElem?_eq_getElem hjl
    have hxm := List.mem_of_getElem? hx
    generalize O1[j] = x at hx hxm
    obtain ⟨b, off, rfl, h0, h1, h2⟩ := (R12a.rd.ch0 c13).at hx
    simp only [nn_some, add_at, Int.toNat_natCast, Nat.add_zero]
    refine ⟨_, h0, _, _, _, h1, _, h2, box3 fun w14 b14 c14 y14 => ?_⟩
    have hxf : x.f ∈ a.sorted.fs := hO1 ▸ List.mem_map.2 ⟨x, hxm, rfl⟩
    have hxs := hsafe x.f hxf
    obtain ⟨f', hf', hfn, hf1, hf2, hf3⟩ := hfell x.f hxf
    have hf'' : f' ∈ O2.map (·.f) := hO2 ▸ a2.sorted_perm.mem_iff.1 hf'
    obtain ⟨y, hy, rfl⟩ := List.mem_map.1 hf''
    obtain ⟨i2, hi2⟩ := List.getElem?_of_mem hy
    have hnm : (O2.map fun o => o.f.name).Nodup := by
      have := D12.names
      rw [← hO2, List.map_map] at this; exact this
    have hc14 : Ch (fun _ => False) w12 w14 := c13.new c14
    refine ⟨fun w' => w' = w14, ?_, _, by rw [add_at, cell_blk b14]; rfl, Sif_cases (fun g1 => ⟨_, by rw [add_at, cell_blk b14]; rfl, _, _, _, by rw [add_at, cell_blk b14]; rfl, Sif_cases (fun g2 => ?_) fun g2 => rfl⟩) fun g1 => ?_⟩
    · rintro w14 rfl
      simp only [add_at, Nat.zero_add]
      refine ⟨_, by rw [cell_blk b14]; rfl, file_ok (R12b.rd.ch0 hc14) (by omega) hi2 hfn (fun j' y' hj' hy' e => ?_) fun w15 c15 => ⟨_, _, _, _, _, _, rfl, box3 fun w16 b16 c16 y16 => ?_⟩⟩
      · have h3 := (List.getElem?_inj (l := O2.map fun o => o.f.name) (i := j') (j := i2) (by simp; exact (List.getElem?_eq_some_iff.1 hy').1) hnm).1 (by rw [List.getElem?_map, List.getElem?_map, hy', hi2]; simp [e, hfn])
        omega
      have c1416 : Ch (fun _ => False) w14 w16 := c15.new c16
      have b14' : blk w16 w13.heap.size = some [.string x.f.name, .slice x.p x.f.dat.length x.c, .int .i64 x.f.safe] := by rw [c1416.blk (blk_lt b14) id]; exact b14
      have k16 : blk w16 w8.heap.size = some o.cells := by rw [(hc14.trans' c1416).blk (blk_lt k12) id]; exact k12
      have hdx : Rd w16 x.p x.f.dat.length 1 (bytesV x.f.dat) := (R12a.rd.ch0 (hc14.trans' c1416)).dat x hxm
      have hdy : Rd w16 y.p y.f.dat.length 1 (bytesV y.f.dat) := (R12b.rd.ch0 (hc14.trans' c1416)).dat y hy
      have hxc : x.f.dat.length ≤ x.c := (R12a.dat x hxm).2.1
      have hdo : Rd w16 o.dp o.dat.length 1 (bytesV o.dat) := hod.ch (F12.ch.trans' (hc14.trans' c1416)) fun _ _ _ => id
      simp only [add_at, Nat.zero_add]
      refine ⟨_, _, _, by rw [cell_blk b14']; rfl, _, toStr hdx, ?_⟩
      refine ⟨fun t w' => w' = w16 ∧ t.data.toList = (if o.kind ≠ 2 ∧ o.kind ≠ 3 ∧ o.kind ≠ 4 ∧ o.name = x.f.name then x.f.dat ++ o.dat else x.f.dat), ?_, _, by rw [cell_blk k16]; rfl, ?_⟩
      · rintro t w17 ⟨rfl, ht⟩
        have hdw : ∀ (a : Addr), (World.drew w17).cell? a = w17.cell? a := fun a => World.cell?_drew ..
        refine ⟨_, _, _, by rw [hdw, cell_blk b14']; rfl, _, by rw [hdw, cell_blk b14']; rfl, by omega, by omega, _, by rw [Int.toNat_natCast]; exact toStr (Rd.take hdx hxs), _, _, _, by rw [hdw, cell_blk b16]; rfl, _, toStr hdy, begins_ok (by exact hf1) ⟨true, rfl, _, _, _, by rw [hdw, cell_blk b16]; rfl, _, toStr hdy, begins_ok ?_ ⟨true, rfl, ?_⟩⟩⟩
        · rw [ht]; exact hf2
        refine Sif_true (Sif_true (Sif_true ⟨_, by rw [hdw, cell_blk b16]; rfl, _, _, _, by rw [hdw, cell_blk b16]; rfl, ?_⟩))
        rw [hf3, show ((y.f.dat.length : Int) != (y.f.dat.length : Int)) = false by simp]
        exact hc14.trans' (c1416.new (Ch.drew w17))
      · refine Sif_cases (fun q1 => ⟨_, by rw [cell_blk k16]; rfl, Sif_cases (fun q2 => ⟨_, by rw [cell_blk k16]; rfl, Sif_cases (fun q3 => ⟨_, by rw [cell_blk k16]; rfl, _, by rw [cell_blk b14']; rfl, Sif_cases (fun q4 => ⟨_, _, _, by rw [cell_blk k16]; rfl, _, toStr hdo, ?_, rfl, ?_⟩) fun q4 => ⟨rfl, ?_⟩⟩) fun q3 => ⟨rfl, ?_⟩⟩) fun q2 => ⟨rfl, ?_⟩⟩) fun q1 => ⟨rfl, ?_⟩
        · have h5 : x.f.dat.length ≤ 2 ^ 24 := by have := dat_le_total hxf; have := D8.wf.tot; omega
          have h6 : (ByteArray.mk x.f.dat.toArray).size = x.f.dat.length := rfl
          have h7 : (ByteArray.mk o.dat.toArray).size = o.dat.length := rfl
          rw [h6, h7]; omega
        · rw [if_pos ⟨by simpa using q1, by simpa using q2, by simpa using q3, by
            have h5 := beq_iff_eq.1 q4
            rw [ByteArray.toList_eq, ByteArray.toList_eq] at h5
            exact data_ext h5⟩]
          simp
        · rw [if_neg fun h => by
            have h5 : o.name = x.f.name := h.2.2.2
            rw [h5] at q4
            simp at q4]
        · rw [if_neg fun h => h.2.2.1 (by simpa using q3)]
        · rw [if_neg fun h => h.2.1 (by simpa using q2)]
        · rw [if_neg fun h => h.1 (by simpa using q1)]
    · have := of_decide_eq_true g2; omega
    · simp at g1
      omega
  · have F13 := F12.more c13
    refine start_ok (D12.ch c13 fun _ _ => id) fun w14 B14 D14 c14 n14 => ⟨rfl, ?_⟩
    have F14 := F13.step c14 n14
    have hO3e : ({ a2.sorted with down := false } : AD).sorted.fs = a2.sorted.fs := sorted_sorted a2 _ rfl
    have R14 : FilesR w14 p2 c2' ob2 O2 := (R12b.ch c13 fun _ _ => id).ch c14 fun b hb hB => by
      have h1 := hnew2 b hb
      have h2 := D10.lt b
      rcases n12 b hB with h | h
      · have := h2 (n11 b h); omega
      · have h3 := R2.lt b hb; omega
    refine filesS_ok D14 (by show a2.sorted.fs.length ≤ _; rw [sorted_len]; omega) fun p3 c3' ob3 O3 w15 B15 D15 c15 n15 R3 hO3 hnew3 => ⟨p3, _, c3', rfl, ?_⟩
    have F15 := F14.step c15 fun b h => .inl (n15 b h)
    have R15 : FilesR w15 p2 c2' ob2 O2 := R14.ch c15 fun b hb hB => by
      have h1 := hnew2 b hb
      have h2 := D10.lt b
      have h3 := R2.lt b hb
      have h4 := c13.size
      have h5 := c12.size
      rcases n14 b hB with h | h
      · rcases n12 b h with h | h
        · have := h2 (n11 b h); omega
        · omega
      · omega
    refine Same_ok R3.rd R15.rd (by rw [hO3, hO3e, hO2]) (by have := congrArg List.length hO3; rw [sorted_len] at this; simp at this; rw [this, sorted_len]; omega) fun w16 c16 z16 => ⟨_, rfl, Sif_true (Sif_true (Sif_cases (fun q => ?_) fun q => ?_))⟩
    · rw [wrap_id (by omega) (by omega)] at q
      have := of_decide_eq_true q
      omega
    · refine ⟨_, B15, D15.ch c16 fun _ _ => id, rfl, ?_, F15.more c16⟩
      rw [sorted_len]
      show a2.sorted.fs.length ≤ _
      rw [sorted_len]; omega
end Go.Proofs.Ytncbmfinndcojaa
