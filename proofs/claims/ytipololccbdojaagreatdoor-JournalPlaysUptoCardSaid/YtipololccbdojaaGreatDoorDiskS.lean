/-
  Append does what is said. Rename does what is said. A new disk; all its files, sorted. Files: all files, sorted, in memory of their own. The disk's chapter: what its texts share with the chapters above it.
-/
import Derived.Test.YtipololccbdojaaGreatDoorDiskG
import Derived.Test.YtipololccbdojaaGreatDoorSvRow
namespace Go.Proofs.YtipololccbdojaaGreatDoor
open Go Go.Sv Go.MapKept
set_option linter.unusedVariables false
set_option maxRecDepth 4000

def growF (l : List UInt8) (f : File) : File := { f with dat := f.dat ++ l }
def AD.more (a : AD) (n : ByteArray) : AD := if a.err [n] n = 191 then { a with fs := ⟨n, [], 0⟩ :: a.fs } else a
def AD.append (a : AD) (n : ByteArray) (l : List UInt8) : Int × AD :=
  if a.err [n] n = 3 ∨ a.err [n] n = 1 then (a.err [n] n, a)
  else if (l.length : Int) > a.room - total a.fs then (190, a)
  else if a.acts = 0 then (3, ((a.more n).act.upd n (growF l)).fall a.keep) else (0, (a.more n).act.upd n (growF l))
theorem AD.err_cases (a : AD) (n : ByteArray) : a.err [n] n = 3 ∨ a.err [n] n = 1 ∨ (a.err [n] n = 191 ∧ nameOk n = true ∧ a.has n = false) ∨ (a.err [n] n = 0 ∧ nameOk n = true ∧ a.has n = true) := by
  unfold AD.err
  cases h1 : a.down <;> cases h2 : nameOk n <;> cases h3 : a.has n <;> simp [h2]
theorem AD.more_rest (a : AD) (n : ByteArray) : (a.more n).room = a.room ∧ (a.more n).down = a.down ∧ (a.more n).acts = a.acts ∧ (a.more n).keep = a.keep ∧ total (a.more n).fs = total a.fs := by
  unfold AD.more; split
  · exact ⟨rfl, rfl, rfl, rfl, by show total (_ :: a.fs) = _; rw [total_cons]; simp⟩
  · exact ⟨rfl, rfl, rfl, rfl, rfl⟩
theorem file_info : InfoIs Tryz.prog 121 2 32 (.agg #[.slice none 0 0, .int .i64 0]) := .of (by kernel_rfl) (by kernel_rfl) (by kernel_rfl)
/-- a new, empty file is laid into the map -/
theorem newFile_ok {w : World} {d r : Nat} {h : Hd} {L : List PF} {n : ByteArray} {K : World → Prop} (H : DR w d r h L) {k : Nat} (hb : blk w k = some [.slice none 0 0, .int .i64 0]) (hk : k ∉ blocks d r L) (hn : ∀ x ∈ L, x.f.name ≠ n)
    (hK : ∀ w', DR w' d r h ({ f := ⟨n, [], 0⟩, b := k, p := none, c := 0, own := none } :: L) → Ch (· = r) w w' → K w') :
    runU Tryz.prog (Instr.mapUpdate 97 (.map (some r)) (.string n) (.pointer (some ⟨k, 0, none⟩))) w K := by
  obtain ⟨m, hm, hp⟩ := H.map
  obtain ⟨w', m', h1, h2, h3, h4, h5⟩ := update_run (t := 97) Tryz.underlying97 Tryz.underlying9 hm (k := .string n) trivial (.pointer (some ⟨k, 0, none⟩))
  refine ⟨w', h1, hK w' ?_ h3⟩
  have hkr : k ≠ r := fun e => hk (by simp [blocks, e])
  refine H.ins (x := { f := ⟨n, [], 0⟩, b := k, p := none, c := 0, own := none }) h2 ?_ h3 ⟨by rw [h3.blk (blk_lt hb) hkr]; exact hb, ⟨rfl, Nat.le_refl _, .inl ⟨rfl, rfl⟩⟩⟩ (by simp [PF.bl]) (by simpa [PF.bl] using hk)
  rcases h5 with ⟨l1, v0, l2, rfl, _⟩ | ⟨_, rfl⟩
  · exfalso
    obtain ⟨z, hz, he⟩ := List.mem_map.1 (hp.mem_iff.1 (by simp : (Value.string n, v0) ∈ l1 ++ (.string n, v0) :: l2))
    simp only [PF.pair, Prod.mk.injEq, Value.string.injEq] at he
    exact hn z hz he.1
  · exact (List.perm_append_singleton _ _).trans (hp.cons _)
set_option maxHeartbeats 2000000 in
theorem append_ok {w : World} {d : Nat} {a : AD} {B : Nat → Prop} {n : ByteArray} {b : Option Addr} {bn bc : Nat} {l : List UInt8} {K : Value → World → Prop} (D : DK w d a B) (hs : n.size ≤ 9223372036854775807)
    (hb : Rd w b bn 1 (bytesV l)) (hbl : bn ≤ 2 ^ 62) (hbB : ∀ p, b = some p → bn ≠ 0 → ¬ B p.block)
    (hk : Post w d (a.append n l).2 B (K (.int .i64 (a.append n l).1))) :
    callP Tryz.prog 54 [.pointer (some ⟨d, 0, none⟩), .string n, .slice b bn bc] w K := by
  obtain ⟨wf, r, L, H, hL, rfl⟩ := D
  have htot := wf.tot
  have hlt := H.lt
  have hln : l.length = bn := by have := hb.1; simpa using this
  refine ok_disk_Disk_Append ?_
  unfold wp_disk_Disk_Append
  simp only [nn_some, add_at]
  refine H.lock rfl fun w1 H1 c1 z1 => ⟨rfl, newB_blk fun w2 b2 c2 z2 => ?_⟩
  refine of_ok (H1.ch0 c2) (ns := [n]) rfl (one_rd b2) (fun s hs' => by simp at hs'; subst hs'; exact hs) (by simp) fun q e w3 c3 z3 ho => ?_
  obtain ⟨he, he0, he191⟩ := ofR_err (a := a) rfl hL ho
  have hc3 : Ch (· ∈ blocks d r L) w w3 := ((c1.mono fun x _ hx => in_d x hx).new c2).new c3
  have H3 : DR w3 d r { a.hd with lk := 1 } L := (H1.ch0 c2).ch0 c3
  have happ : a.append n l = (if e = 3 ∨ e = 1 then (e, a) else if (l.length : Int) > a.room - total a.fs then (190, a)
      else if a.acts = 0 then (3, ((a.more n).act.upd n (growF l)).fall a.keep) else (0, (a.more n).act.upd n (growF l))) := by unfold AD.append; rw [he]
  have leave : ∀ (e' : Int) (w4 : World), DR w4 d r { a.hd with lk := 1 } L → Ch (· ∈ blocks d r L) w w4 → a.append n l = (e', a) → callD Tryz.prog 56 [.pointer (some ⟨d, 0 + 0, none⟩)] w4 fun w6 => K (.int .i64 e') w6 := by
    intro e' w4 H4 c4 he'
    rw [he'] at hk
    refine H4.unlock rfl fun w6 H6 c6 z6 => ?_
    exact hk w6 _ (DK.of H6 rfl (by rw [hL]) wf) (c4.more c6 in_d) fun b hb => .inl hb
  refine ⟨q, e, rfl, fun p1 w4 => ∃ x R, p1 = some ⟨x.b, 0, none⟩ ∧ DR w4 d r { a.hd with lk := 1 } (x :: R) ∧ x.f.name = n ∧ ((x :: R).map (·.f)).Perm (a.more n).fs ∧ Ch (· ∈ blocks d r L) w w4 ∧
    (∀ k ∈ blocks d r (x :: R), k ∈ blocks d r L ∨ w.heap.size ≤ k) ∧ ¬ (e = 3 ∨ e = 1) ∧ ¬ (l.length : Int) > a.room - total a.fs ∧ WF (a.more n), ?_, ?_⟩
  · rintro p1 w4 ⟨x, R, rfl, H4, hxn, hfs, c4, hbl4, hne, hroom, wf1⟩
    obtain ⟨m1, m2, m3, m4, m5⟩ := a.more_rest n
    have hfit := wf.fits
    have hrm := wf.room
    refine act_ok H4 wf.acts1 wf.acts2 fun w5 H5 c5 z5 => ⟨_, rfl, ?_⟩
    simp only [nn_some, add_at]
    have hg := H5.files x (by simp)
    have hc5 : Ch (· ∈ blocks d r L) w w5 := c4.more c5 in_d
    have hrd : Rd w5 b bn 1 (bytesV l) := hb.ch hc5 fun p hp hz hB => hbB p hp (by omega) hB
    have htot1 : total ((x :: R).map (·.f)) = total a.fs := by rw [total_perm hfs, m5]
    have hxl : x.f.dat.length ≤ total a.fs := by rw [← htot1]; exact dat_le_total (by simp)
    obtain ⟨p3, c3', w6, b6, r1, r2, r3, r4, _⟩ := append_rd (ty := 23) (c2 := bc) Tryz.underlying23 Tryz.underlying23 byte_info rfl hg.2 hrd (bytesV_one l) (by omega) (by omega)
    refine ⟨x.p, x.f.dat.length, x.c, by rw [cell_blk hg.1]; rfl, p3, _, c3', w6, r1, ?_⟩
    have hown : ∀ k, x.own = some k → k ≠ x.b := fun k hk e => by
      have := H5.nodup
      simp only [blocks, List.flatMap_cons, PF.bl, hk, Option.toList_some] at this
      simp [e] at this
    have hxlt : x.b < w5.heap.size := blk_lt hg.1
    have hg6 : blk w6 x.b = some [.slice x.p x.f.dat.length x.c, .int .i64 x.f.safe] := by rw [r4.blk hxlt fun e => hown x.b e rfl]; exact hg.1
    refine st_blk hg6 (by simp) fun w7 b7 c7 z7 => ?_
    have hb6 : ∀ k, b6 = some k → k ≠ x.b := fun k hk e => by
      rcases r3 k hk with h | h
      · exact hown k h e
      · omega
    have hlen : (growF l x.f).dat.length = x.f.dat.length + bn := by simp [growF, hln]
    have H7 : DR w7 d r { a.hd with lk := 1, acts := actsN a.acts } ({ f := growF l x.f, b := x.b, p := p3, c := c3', own := b6 } :: R) := by
      refine H5.repl rfl rfl ⟨?_, ?_⟩ ((r4.mono fun k _ hk => by simp [PF.bl, hk]).more c7 fun k hk => by simp [PF.bl, hk]) fun k hk => ?_
      · show blk w7 x.b = some [.slice p3 (growF l x.f).dat.length c3', .int .i64 x.f.safe]
        rw [b7, hlen]; rfl
      · show Ow w7 p3 (growF l x.f).dat.length c3' 1 (bytesV (x.f.dat ++ l)) b6
        rw [hlen, bytesV_append]
        exact r2.ch c7 hb6
      · rcases r3 k hk with h | h
        · exact .inl h
        · exact .inr (by omega)
    have hc7 : Ch (· ∈ blocks d r L) w w7 := by
      refine (hc5.trans r4 fun k hk h => ?_).trans c7 fun k hk h => ?_
      · rcases hbl4 k (mem_blocks.2 (.inr (.inr ⟨x, by simp, by simp [PF.bl, h]⟩))) with h | h
        · exact h
        · omega
      · rcases hbl4 k (mem_blocks.2 (.inr (.inr ⟨x, by simp, by simp [PF.bl, h]⟩))) with h | h
        · exact h
        · omega
    refine ⟨_, H7.cell 3, ?_⟩
    have hup := upd_perm (g := growF l) (List.Perm.refl (x :: R)) H4.names hxn
    have hup2 : (({ f := growF l x.f, b := x.b, p := p3, c := c3', own := b6 } :: R : List PF).map (·.f)).Perm ((a.more n).act.upd n (growF l)).fs := hup.trans (hfs.map _)
    have htx : total (({ f := growF l x.f, b := x.b, p := p3, c := c3', own := b6 } :: R : List PF).map (·.f)) = total a.fs + bn := by
      rw [List.map_cons, total_cons]
      rw [List.map_cons, total_cons] at htot1
      show (growF l x.f).dat.length + _ = _
      omega
    have hu : IntKind.wrap .i64 ((total a.fs : Int) + (bn : Int)) = ((total a.fs + bn : Nat) : Int) := by rw [wrap_id (by omega) (by omega)]; omega
    refine H7.st (h' := { a.hd with lk := 1, acts := actsN a.acts, used := total (({ f := growF l x.f, b := x.b, p := p3, c := c3', own := b6 } :: R : List PF).map (·.f)) }) (by omega) (by
      rw [htx]
      show (Hd.cells r _).set 3 (.int .i64 (IntKind.wrap .i64 ((total a.fs : Int) + (bn : Int)))) = _
      rw [hu]; rfl) fun w8 H8 c8 z8 => ?_
    have hc8 : Ch (· ∈ blocks d r L) w w8 := hc7.more c8 in_d
    have wf2 : WF ((a.more n).act.upd n (growF l)) := wf1.act.upd (fun f hf _ => ⟨rfl, by have := wf1.safe f hf; simp [growF]; omega⟩) (by
      rw [← total_perm hup2, htx]
      show _ ≤ (a.more n).room
      rw [m1]; omega)
    have hbl8 : ∀ k ∈ blocks d r ({ f := growF l x.f, b := x.b, p := p3, c := c3', own := b6 } :: R), k ∈ blocks d r L ∨ w.heap.size ≤ k := by
      intro k hk
      rcases mem_blocks.1 hk with e | e | ⟨y, hy, hyb⟩
      · exact .inl (in_d k e)
      · exact .inl (in_r k e)
      · rcases List.mem_cons.1 hy with rfl | hy
        · simp only [PF.bl, List.mem_cons, Option.mem_toList, Option.mem_def] at hyb
          rcases hyb with rfl | hyb
          · exact hbl4 _ (mem_blocks.2 (.inr (.inr ⟨x, by simp, by simp [PF.bl]⟩)))
          · rcases r3 k hyb with h | h
            · exact hbl4 _ (mem_blocks.2 (.inr (.inr ⟨x, by simp, by simp [PF.bl, h]⟩)))
            · right; have := hc5.size; omega
        · exact hbl4 _ (mem_blocks.2 (.inr (.inr ⟨y, by simp [hy], hyb⟩)))
    rw [if_neg hne, if_neg hroom] at happ
    refine Sif_cases (fun g => ?_) fun g => ?_
    · have ga : a.acts = 0 := by simpa [AD.hd] using g
      rw [if_pos ga] at happ
      rw [happ] at hk
      refine ⟨_, H8.cell 7, fall_ok H8 (fun y hy => wf2.safe y.f (hup2.mem_iff.1 (List.mem_map.2 ⟨y, hy, rfl⟩))) (by rw [htx]; omega) fun L' w9 H9 hp c9 hbl9 => ⟨rfl, ?_⟩⟩
      refine H9.unlock rfl fun w10 H10 c10 z10 => ?_
      have hp2 : (L'.map (·.f)).Perm (((a.more n).act.upd n (growF l)).fall a.keep).fs := hp.trans (hup2.map _)
      refine hk w10 _ (DK.of H10 (by
        show Hd.mk _ _ _ _ _ _ = Hd.mk _ _ _ _ _ _
        rw [← total_perm hp2]
        simp only [AD.hd, AD.fall, AD.upd, AD.act, m1, m4]) hp2 (wf2.fall a.keep)) ((hc8.trans c9 fun k hk h => ?_).more c10 in_d) fun k hk => ?_
      · rcases hbl8 k h with h | h
        · exact h
        · omega
      · rcases hbl9 k hk with h | h
        · exact hbl8 k h
        · right; have := hc8.size; omega
    · have ga : a.acts ≠ 0 := by simpa [AD.hd] using g
      rw [if_neg ga] at happ
      rw [happ] at hk
      refine H8.unlock rfl fun w10 H10 c10 z10 => ?_
      exact hk w10 _ (DK.of H10 (by
        show Hd.mk _ _ _ _ _ _ = Hd.mk _ _ _ _ _ _
        rw [← total_perm hup2]
        simp only [AD.hd, AD.upd, AD.act, m1, m2, m3, m4]) hup2 wf2) (hc8.more c10 in_d) hbl8
  · refine Sif_cases (fun g3 => Sif_cases (fun g1 => ?_) fun g1 => ?_) fun g3 => ?_
    · have : e = 1 := by simpa using g1
      exact leave e w3 H3 hc3 (by rw [happ, if_pos (.inr this)])
    · have h1 : ¬ e = 1 := by simpa using g1
      have h3 : ¬ e = 3 := by simpa using g3
      have hne : ¬ (e = 3 ∨ e = 1) := by omega
      simp only [nn_some, add_at, World.cell?_drew]
      refine ⟨_, H3.cell 2, _, H3.cell 3, ?_⟩
      have hfit := wf.fits
      have hrm := wf.room
      have hwr : IntKind.wrap .i64 (a.hd.room - a.hd.used) = a.room - total a.fs := wrap_id (by simp only [AD.hd]; omega) (by simp only [AD.hd]; omega)
      refine Sif_cases (fun g => ?_) fun g => ?_
      · have g' : (l.length : Int) > a.room - total a.fs := by
          rw [hln]
          have := of_decide_eq_true g
          rw [← hwr]; exact this
        exact leave 190 _ (H3.ch0 (Ch.drew w3)) (hc3.new (Ch.drew w3)) (by rw [happ, if_neg hne, if_pos g'])
      · have g' : ¬ (l.length : Int) > a.room - total a.fs := by
          rw [hln]
          have := of_decide_eq_false g
          rw [← hwr]; exact this
        have H3d : DR w3.drew d r { a.hd with lk := 1 } L := H3.ch0 (Ch.drew w3)
        have hc3d : Ch (· ∈ blocks d r L) w w3.drew := hc3.new (Ch.drew w3)
        refine Sif_cases (fun g2 => ?_) fun g2 => ?_
        · have h191 : e = 191 := by simpa using g2
          obtain ⟨_, hnone⟩ := he191 h191
          refine newB_blk fun w4 b4 c4 z4 => ?_
          refine ⟨_, (H3d.ch0 c4).cell 4, ?_⟩
          refine newFile_ok (H3d.ch0 c4) b4 (fun hm => by have := H3d.lt _ hm; omega) hnone fun w5 H5 c5 => ?_
          have hmore : a.more n = { a with fs := ⟨n, [], 0⟩ :: a.fs } := by unfold AD.more; rw [← he, if_pos h191]
          refine ⟨_, L, rfl, H5, rfl, ?_, (hc3d.new c4).more c5 in_r, fun k hk => ?_, hne, g', ?_⟩
          · rw [hmore, List.map_cons, hL]
          · rcases mem_blocks.1 hk with e | e | ⟨y, hy, hyb⟩
            · exact .inl (in_d k e)
            · exact .inl (in_r k e)
            · rcases List.mem_cons.1 hy with rfl | hy
              · simp only [PF.bl, Option.toList_none, List.mem_singleton] at hyb
                right; have := hc3d.size; omega
              · exact .inl (mem_blocks.2 (.inr (.inr ⟨y, hy, hyb⟩)))
          · have hnok : nameOk n = true := by
              rcases a.err_cases n with h | h | ⟨_, h, _⟩ | ⟨h, _⟩
              · omega
              · omega
              · exact h
              · omega
            rw [hmore]
            refine ⟨fun f hf => ?_, by show (total (_ :: a.fs) : Int) ≤ _; rw [total_cons]; simpa using hfit, wf.room, wf.acts1, wf.acts2, fun f hf => ?_⟩
            · rcases List.mem_cons.1 hf with rfl | hf
              · simp
              · exact wf.safe f hf
            · rcases List.mem_cons.1 hf with rfl | hf
              · exact hnok
              · exact wf.names f hf
        · have h191 : ¬ e = 191 := by simpa using g2
          have he0' : e = 0 := by
            rcases a.err_cases n with h | h | ⟨h, _⟩ | ⟨h, _⟩ <;> omega
          obtain ⟨x, hx, hxn, rfl⟩ := he0 he0'
          obtain ⟨l1, l2, hsp⟩ := List.append_of_mem hx
          have hpm : L.Perm (x :: (l1 ++ l2)) := hsp ▸ List.perm_middle
          have hmore : a.more n = a := by unfold AD.more; rw [← he, if_neg h191]
          refine ⟨x, l1 ++ l2, rfl, H3d.perm hpm, hxn, ?_, hc3d, fun k hk => .inl (blocks_sub (fun y hy => hpm.mem_iff.2 hy) k hk), hne, g', by rw [hmore]; exact wf⟩
          rw [hmore, ← hL]
          exact (hpm.map _).symm
    · have : e = 3 := by simpa using g3
      exact leave e w3 H3 hc3 (by rw [happ, if_pos (.inl this)])
end Go.Proofs.YtipololccbdojaaGreatDoor
namespace Go.Proofs.YtipololccbdojaaGreatDoor
open Go Go.Sv Go.MapKept
set_option linter.unusedVariables false
set_option maxRecDepth 4000

def moveF (a : AD) (from_ to : ByteArray) (f : File) : AD := if from_ = to then a else { a with fs := { f with name := to } :: (a.fs.filter fun g => decide (g.name ≠ to)).filter fun g => decide (g.name ≠ from_) }
def AD.rename (a : AD) (from_ to : ByteArray) : Int × AD :=
  if a.err [from_, to] from_ ≠ 0 then (a.err [from_, to] from_, a)
  else match a.fs.find? fun f => decide (f.name = from_) with
    | none => (0, a)
    | some f => if f.safe < f.dat.length then (192, a) else a.done fun a => moveF a from_ to f
theorem find_eq {fs : List File} (hn : (fs.map (·.name)).Nodup) {f : File} (hf : f ∈ fs) {n : ByteArray} (hx : f.name = n) : (fs.find? fun g => decide (g.name = n)) = some f := by
  cases h : fs.find? fun g => decide (g.name = n) with
  | none => exact absurd (List.find?_eq_none.1 h f hf) (by simp [hx])
  | some g =>
    have h1 : g.name = n := by simpa using List.find?_some h
    rw [inj_of_nodup hn (List.mem_of_find?_eq_some h) hf (h1.trans hx.symm)]
/-- a file is laid under a name that no other has -/
theorem lay_ok {w : World} {d r : Nat} {h : Hd} {x : PF} {R : List PF} {to : ByteArray} {K : World → Prop} (H : DR w d r h (x :: R)) (hne : x.f.name ≠ to) (hn : ∀ y ∈ R, y.f.name ≠ to)
    (hK : ∀ w', blk w' d = some (h.cells r) → (∃ m, Mp .string w' r m ∧ m.Perm ((.string to, .pointer (some ⟨x.b, 0, none⟩)) :: (x :: R).map PF.pair)) → (∀ y ∈ x :: R, y.good w') → Ch (· = r) w w' → K w') :
    runU Tryz.prog (Instr.mapUpdate 97 (.map (some r)) (.string to) (.pointer (some ⟨x.b, 0, none⟩))) w K := by
  obtain ⟨m, hm, hp⟩ := H.map
  obtain ⟨w', m', h1, h2, h3, h4, h5⟩ := update_run (t := 97) Tryz.underlying97 Tryz.underlying9 hm (k := .string to) trivial (.pointer (some ⟨x.b, 0, none⟩))
  have hnd := H.nodup
  unfold blocks at hnd
  obtain ⟨n1, n2⟩ := List.nodup_cons.1 hnd
  obtain ⟨n3, n4⟩ := List.nodup_cons.1 n2
  refine ⟨w', h1, hK w' ?_ ⟨m', h2, ?_⟩ (fun y hy => (H.files y hy).ch h3 fun b hb e => n3 (by subst e; exact List.mem_flatMap.2 ⟨y, hy, hb⟩)) h3⟩
  · rw [h3.blk (blk_lt H.head) fun e => n1 (by rw [e]; simp)]; exact H.head
  · rcases h5 with ⟨l1, v0, l2, rfl, _⟩ | ⟨_, rfl⟩
    · exfalso
      obtain ⟨z, hz, he⟩ := List.mem_map.1 (hp.mem_iff.1 (by simp : (Value.string to, v0) ∈ l1 ++ (.string to, v0) :: l2))
      simp only [PF.pair, Prod.mk.injEq, Value.string.injEq] at he
      rcases List.mem_cons.1 hz with rfl | hz
      · exact hne he.1
      · exact hn z hz he.1
    · exact (List.perm_append_singleton _ _).trans (hp.cons _)
/-- .. and its old name goes -/
theorem unlay_ok {w : World} {d r : Nat} {h : Hd} {x : PF} {R : List PF} {to : ByteArray} (hb : blk w d = some (h.cells r)) (hm : ∃ m, Mp .string w r m ∧ m.Perm ((.string to, .pointer (some ⟨x.b, 0, none⟩)) :: (x :: R).map PF.pair))
    (hg : ∀ y ∈ x :: R, y.good w) (hnd : (blocks d r (x :: R)).Nodup) {ty : TypeId} :
    ∃ w', (Builtin.delete_ #[97, 9] ty #[.map (some r), .string x.f.name]).run Tryz.prog w = .ok (.tuple #[]) w' ∧ DR w' d r h ({ x with f := { x.f with name := to } } :: R) ∧ Ch (· = r) w w' := by
  obtain ⟨m, hm, hp⟩ := hm
  obtain ⟨w', m', h1, h2, h3, _, h4⟩ := delete_run (ty := ty) Tryz.underlying97 Tryz.underlying9 hm (k := .string x.f.name) trivial
  have hnd' := hnd
  unfold blocks at hnd'
  obtain ⟨n1, n2⟩ := List.nodup_cons.1 hnd'
  obtain ⟨n3, n4⟩ := List.nodup_cons.1 n2
  refine ⟨w', h1, ⟨?_, ⟨m', h2, ?_⟩, fun y hy => ?_, ?_⟩, h3⟩
  · rw [h3.blk (blk_lt hb) fun e => n1 (by rw [e]; simp)]; exact hb
  · rcases h4 with ⟨l1, v0, l2, rfl, rfl⟩ | ⟨h4, _⟩
    · have hp1 : ((.string to, .pointer (some ⟨x.b, 0, none⟩)) :: (x :: R).map PF.pair : List (Value × Value)).Perm (x.pair :: (.string to, .pointer (some ⟨x.b, 0, none⟩)) :: R.map PF.pair) := List.Perm.swap _ _ _
      have hpp : ((.string x.f.name, v0) :: (l1 ++ l2) : List (Value × Value)).Perm (x.pair :: (.string to, .pointer (some ⟨x.b, 0, none⟩)) :: R.map PF.pair) := (List.perm_middle.symm.trans hp).trans hp1
      have hnm := ((hp.trans hp1).map Prod.fst).nodup_iff.1 hm.nodup
      have hv : (Value.string x.f.name, v0) = x.pair := by
        rcases List.mem_cons.1 (hpp.mem_iff.1 (List.mem_cons_self ..)) with e | e
        · exact e
        · exfalso
          simp only [List.map_cons] at hnm
          have e2 := List.mem_map_of_mem (f := Prod.fst) e
          exact (List.nodup_cons.1 hnm).1 e2
      rw [hv] at hpp
      exact hpp.cons_inv
    · exact absurd rfl (h4 x.pair (hp.mem_iff.2 (by simp)))
  · have hk : ∀ z : PF, (∃ z' ∈ x :: R, z'.bl = z.bl) → z.good w → z.good w' := fun z ⟨z', hz', hbl⟩ hgz => hgz.ch h3 fun b hb' e => n3 (by subst e; exact List.mem_flatMap.2 ⟨z', hz', hbl ▸ hb'⟩)
    rcases List.mem_cons.1 hy with rfl | hy
    · exact hk _ ⟨x, by simp, rfl⟩ (hg x (by simp))
    · exact hk y ⟨y, by simp [hy], rfl⟩ (hg y (by simp [hy]))
  · exact hnd
set_option maxHeartbeats 2000000 in
theorem rename_ok {w : World} {d : Nat} {a : AD} {B : Nat → Prop} {n m : ByteArray} {K : Value → World → Prop} (D : DK w d a B) (hs : n.size ≤ 9223372036854775807) (hs2 : m.size ≤ 9223372036854775807)
    (hk : Post w d (a.rename n m).2 B (K (.int .i64 (a.rename n m).1))) :
    callP Tryz.prog 101 [.pointer (some ⟨d, 0, none⟩), .string n, .string m] w K := by
  obtain ⟨wf, r, L, H, hL, rfl⟩ := D
  have htot := wf.tot
  have hlt := H.lt
  have hdlt : d < w.heap.size := hlt d (by simp [blocks])
  have hrlt : r < w.heap.size := hlt r (by simp [blocks])
  refine ok_disk_Disk_Rename ?_
  unfold wp_disk_Disk_Rename
  refine newB_blk fun v1 p1 e1 y1 => newB_blk fun v2 p2 e2 y2 => newB_blk fun v3 p3 e3 y3 => ?_
  have pa0 : blk v3 w.heap.size = some [.pointer (some ⟨d, 0, none⟩)] := by rw [(e2.new e3).blk (blk_lt p1) id]; exact p1
  have pn0 : blk v3 v1.heap.size = some [.string n] := by rw [e3.blk (blk_lt p2) id]; exact p2
  refine ⟨some ⟨d, 0, none⟩, by rw [cell_blk pa0]; rfl, ?_⟩
  simp only [nn_some, add_at]
  refine (((H.ch0 e1).ch0 e2).ch0 e3).lock rfl fun w1 H1 c1 z1 => ⟨rfl, ?_⟩
  have keepD : ∀ {u u' : World} {k : Nat} {cs : List Value}, w.heap.size ≤ k → blk u k = some cs → Ch (· = d) u u' → blk u' k = some cs := fun hk hb hc => by rw [hc.blk (blk_lt hb) (by omega)]; exact hb
  have pa1 := keepD (Nat.le_refl _) pa0 c1
  have pn1 := keepD (by omega) pn0 c1
  have pm1 := keepD (by omega) p3 c1
  refine ⟨some ⟨d, 0, none⟩, by rw [cell_blk pa1]; rfl, ?_⟩
  simp only [nn_some, add_at]
  refine ⟨some ⟨d, 0, none⟩, by rw [cell_blk pa1]; rfl, n, by rw [cell_blk pn1]; rfl, m, by rw [cell_blk pm1]; rfl, newB_blk fun w2 b2 c2 z2 => ?_⟩
  refine of_ok (H1.ch0 c2) (ns := [n, m]) rfl ⟨rfl, .inr ⟨w1.heap.size, 0, _, rfl, blk_cells b2, by simp, rfl⟩⟩ (fun s hs' => by simp at hs'; rcases hs' with rfl | rfl <;> assumption) (by simp) fun q e w3 c3 z3 ho => ?_
  obtain ⟨he, he0, _⟩ := ofR_err (a := a) rfl hL ho
  refine ⟨q, e, rfl, newB_blk fun w4 b4 c4 z4 => ?_⟩
  simp only [add_at]
  refine st_blk b4 (by simp) fun w5 b5 c5 z5 => ?_
  have hz2 : w.heap.size + 3 ≤ w1.heap.size := by omega
  have hz3 : w1.heap.size < w3.heap.size := by omega
  have hc1 : Ch (· ∈ blocks d r L) w w1 := (((e1.mono fun _ _ h => h.elim).new e2).new e3).more c1 in_d
  have hc5 : Ch (· ∈ blocks d r L) w w5 := (((hc1.new c2).new c3).new c4).trans c5 fun x hx e => by omega
  have c15 : Ch (· = w3.heap.size) w1 w5 := (((c2.mono fun _ _ h => h.elim).new c3).new c4).trans' c5
  have H5 : DR w5 d r { a.hd with lk := 1 } L := (((H1.ch0 c2).ch0 c3).ch0 c4).ch c5 fun b hb e => by have := hlt b hb; omega
  have pa5 : blk w5 w.heap.size = some [.pointer (some ⟨d, 0, none⟩)] := by rw [c15.blk (blk_lt pa1) (by omega)]; exact pa1
  have pn5 : blk w5 v1.heap.size = some [.string n] := by rw [c15.blk (blk_lt pn1) (by omega)]; exact pn1
  have pm5 : blk w5 v2.heap.size = some [.string m] := by rw [c15.blk (blk_lt pm1) (by omega)]; exact pm1
  refine Sif_cases (fun g => ?_) fun g => ?_
  · have g' : e ≠ 0 := by simpa using g
    have hsy : a.rename n m = (e, a) := by unfold AD.rename; rw [← he, if_pos g']
    rw [hsy] at hk
    refine H5.unlock rfl fun w6 H6 c6 z6 => ?_
    exact hk w6 _ (DK.of H6 rfl (by rw [hL]) wf) (hc5.more c6 in_d) fun b hb => .inl hb
  · have g' : e = 0 := by simpa using g
    obtain ⟨x, hx, hxn, rfl⟩ := he0 g'
    have hxf : x.f ∈ a.fs := hL ▸ List.mem_map.2 ⟨x, hx, rfl⟩
    have hnm : (a.fs.map (·.name)).Nodup := by rw [← hL, List.map_map]; exact H.names
    have hsy : a.rename n m = if x.f.safe < x.f.dat.length then (192, a) else a.done fun a => moveF a n m x.f := by
      unfold AD.rename; rw [← he, if_neg (by omega), find_eq hnm hxf hxn]
    have H5d : DR w5.drew d r { a.hd with lk := 1 } L := H5.ch0 (Ch.drew w5)
    have hc5d := hc5.new (Ch.drew w5)
    have hg := H5d.files x hx
    refine ⟨some ⟨x.b, 0, none⟩, by rw [World.cell?_drew, cell_blk b5]; rfl, ?_⟩
    simp only [nn_some, add_at]
    refine ⟨x.f.safe, by rw [cell_blk hg.1]; rfl, some ⟨x.b, 0, none⟩, by rw [World.cell?_drew, cell_blk b5]; rfl, ?_⟩
    simp only [nn_some, add_at]
    refine ⟨x.p, x.f.dat.length, x.c, by rw [cell_blk hg.1]; rfl, Sif_cases (fun gs => ?_) fun gs => ?_⟩
    · have gs' : x.f.safe < x.f.dat.length := by have := of_decide_eq_true gs; omega
      rw [hsy, if_pos gs'] at hk
      refine H5d.unlock rfl fun w6 H6 c6 z6 => ?_
      exact hk w6 _ (DK.of H6 rfl (by rw [hL]) wf) (hc5d.more c6 in_d) fun b hb => .inl hb
    · have gs' : ¬ x.f.safe < x.f.dat.length := by have := of_decide_eq_false gs; omega
      rw [hsy, if_neg gs'] at hk
      refine ⟨some ⟨d, 0, none⟩, by rw [World.cell?_drew, cell_blk pa5]; rfl, ?_⟩
      refine done_ok H5d (fun x hx => wf.safe x.f (hL ▸ List.mem_map.2 ⟨x, hx, rfl⟩)) (by rw [hL]; omega) wf.acts1 wf.acts2 (fun ha L' w' H' hp c6 hbl => ⟨3, rfl, ?_⟩) fun ha w' H' c6 z6 => ?_
      · have ha' : a.acts = 0 := ha
        unfold AD.done at hk
        rw [if_pos ha'] at hk
        rw [hL] at hp
        refine H'.unlock rfl fun w7 H7 c7 z7 => ?_
        exact hk w7 _ (DK.of H7 (by simp only [AD.hd, AD.fall]; rw [total_perm hp]; rfl) hp (wf.fall a.keep)) ((hc5d.more c6 fun _ hx => hx).more c7 in_d) fun b hb => (hbl b hb).imp id fun h => by have := hc5d.size; omega
      · have ha' : a.acts ≠ 0 := ha
        unfold AD.done at hk
        rw [if_neg ha'] at hk
        have hc6 := hc5d.more c6 in_d
        have pa6 := keepD (Nat.le_refl _) ((blk_drew w5 _).trans pa5) c6
        have pn6 := keepD (by omega) ((blk_drew w5 _).trans pn5) c6
        have pm6 := keepD (by omega) ((blk_drew w5 _).trans pm5) c6
        have pf6 := keepD (by omega) ((blk_drew w5 _).trans b5) c6
        refine callV_unit (by kernel_rfl) (ok_disk_Disk_Rename_1 ?_)
        unfold wp_disk_Disk_Rename_1
        simp only [nn_some]
        refine ⟨n, by rw [cell_blk pn6]; rfl, m, by rw [cell_blk pm6]; rfl, Sif_cases (fun gn => ?_) fun gn => ?_⟩
        · have hne : n ≠ m := fun e => by subst e; simp at gn
          refine ⟨some ⟨d, 0, none⟩, by rw [cell_blk pa6]; rfl, m, by rw [cell_blk pm6]; rfl, ?_⟩
          refine gone_ok H' (by rw [hL]; rfl) (by rw [hL]; omega) fun L' w7 H7 hf hsub c7 => ⟨rfl, ?_⟩
          rw [hL] at hf
          have keepR : ∀ {u u' : World} {k : Nat} {cs : List Value}, w.heap.size ≤ k → blk u k = some cs → Ch (fun b => b = d ∨ b = r) u u' → blk u' k = some cs := fun hk hb hc => by rw [hc.blk (blk_lt hb) (by omega)]; exact hb
          have pa7 := keepR (Nat.le_refl _) pa6 c7
          have pn7 := keepR (by omega) pn6 c7
          have pm7 := keepR (by omega) pm6 c7
          have pf7 := keepR (by omega) pf6 c7
          have hxL : x ∈ L' := by
            have h1 : x.f ∈ L'.map (·.f) := by rw [hf]; exact List.mem_filter.2 ⟨hxf, by simp [hxn, hne]⟩
            obtain ⟨z, hz, hzf⟩ := List.mem_map.1 h1
            rw [← inj_of_nodup H.names (hsub z hz) hx (by rw [hzf])]; exact hz
          obtain ⟨l1, l2, hsp⟩ := List.append_of_mem hxL
          have hpm : L'.Perm (x :: (l1 ++ l2)) := hsp ▸ List.perm_middle
          have H7p := (H7.ch0 (Ch.drew w7)).perm hpm
          have hRn : ∀ y ∈ l1 ++ l2, y.f.name ≠ m ∧ y.f.name ≠ n := fun y hy => by
            have hyL : y ∈ L' := hpm.mem_iff.2 (List.mem_cons_of_mem _ hy)
            refine ⟨?_, fun e => ?_⟩
            · have h1 : y.f ∈ L'.map (·.f) := List.mem_map.2 ⟨y, hyL, rfl⟩
              rw [hf] at h1
              simpa using (List.mem_filter.1 h1).2
            · have h2 := H7p.names
              simp only [List.map_cons] at h2
              exact (List.nodup_cons.1 h2).1 (by rw [hxn, ← e]; exact List.mem_map.2 ⟨y, hy, rfl⟩)
          refine ⟨some ⟨d, 0, none⟩, by rw [World.cell?_drew, cell_blk pa7]; rfl, ?_⟩
          simp only [nn_some, add_at]
          refine ⟨some r, H7p.cell 4, m, by rw [World.cell?_drew, cell_blk pm7]; rfl, some ⟨x.b, 0, none⟩, by rw [World.cell?_drew, cell_blk pf7]; rfl, ?_⟩
          refine lay_ok H7p (by rw [hxn]; exact hne) (fun y hy => (hRn y hy).1) fun w8 hb8 hm8 hg8 c8 => ?_
          have keep8 : ∀ {k : Nat} {cs : List Value}, w.heap.size ≤ k → blk w7 k = some cs → blk w8 k = some cs := fun hk hb => by rw [c8.blk (blk_lt hb) (by omega)]; exact hb
          refine ⟨some ⟨d, 0, none⟩, by rw [World.cell?_drew, cell_blk (keep8 (Nat.le_refl _) pa7)]; rfl, ?_⟩
          simp only [nn_some, add_at]
          refine ⟨some r, by rw [World.cell?_drew, cell_blk hb8]; rfl, n, by rw [World.cell?_drew, cell_blk (keep8 (by omega) pn7)]; rfl, ?_⟩
          obtain ⟨w9, hr9, H9, c9⟩ := unlay_ok (w := w8.drew) (to := m) (ty := 0) hb8 hm8 (fun y hy => (hg8 y hy).ch (Ch.drew (S := fun _ => False) w8) fun _ _ => id) H7p.nodup
          rw [hxn] at hr9
          refine ⟨w9, hr9, trivial, 0, rfl, ?_⟩
          refine H9.unlock rfl fun w10 H10 c10 z10 => ?_
          have hmv : moveF a.act n m x.f = { a.act with fs := { x.f with name := m } :: (a.fs.filter fun g => decide (g.name ≠ m)).filter fun g => decide (g.name ≠ n) } := by unfold moveF; rw [if_neg hne]; rfl
          have hp1 : ((a.fs.filter fun g => decide (g.name ≠ m)).filter fun g => decide (g.name ≠ n)).Perm ((l1 ++ l2).map (·.f)) := by
            rw [← hf]
            refine ((hpm.map (·.f)).filter _).trans ?_
            rw [List.map_cons, List.filter_cons]
            simp only [hxn, ne_eq, not_true_eq_false, decide_false, Bool.false_eq_true, if_false]
            rw [List.filter_eq_self.2]
            intro f hf2
            obtain ⟨y, hy, rfl⟩ := List.mem_map.1 hf2
            simpa using (hRn y hy).2
          have htt : total (L'.map (·.f)) = x.f.dat.length + total ((l1 ++ l2).map (·.f)) := by rw [total_perm (hpm.map _), List.map_cons, total_cons]
          have htf : total (L'.map (·.f)) ≤ total a.fs := by rw [hf]; exact total_filter _ _
          have hnok : nameOk m = true := by
            have h1 := (ok_of_err (he ▸ g' : a.err [n, m] n = 0)).2.1
            have h2 := List.all_eq_true.1 h1 m (by simp)
            exact h2
          simp only [hmv] at hk
          have hc10 : Ch (· ∈ blocks d r L) w w10 := (((((hc6.more c7 fun b hb => hb.elim (in_d b) (in_r b)).new (Ch.drew w7)).more c8 in_r).new (Ch.drew w8)).more c9 in_r).more c10 in_d
          refine hk w10 _ (DK.of H10 ?_ ?_ ?_) hc10 fun b hb => ?_
          · show Hd.mk _ _ _ _ _ _ = Hd.mk _ _ _ _ _ _
            have : total ({ x.f with name := m } :: (a.fs.filter fun g => decide (g.name ≠ m)).filter fun g => decide (g.name ≠ n)) = total (L'.map (·.f)) := by
              rw [total_cons, total_perm hp1, htt]
            show Hd.mk 0 a.room (total (L'.map (·.f)) : Nat) a.down (actsN a.acts) a.keep = Hd.mk 0 a.room (total ({ x.f with name := m } :: _) : Nat) a.down (actsN a.acts) a.keep
            rw [this]
          · exact (hp1.symm.cons _)
          · refine ⟨fun f hf2 => ?_, ?_, wf.room, wf.act.acts1, wf.act.acts2, fun f hf2 => ?_⟩
            · rcases List.mem_cons.1 hf2 with rfl | hf2
              · exact wf.safe x.f hxf
              · exact wf.safe f (List.mem_filter.1 (List.mem_filter.1 hf2).1).1
            · have hfit := wf.fits
              show (total (_ :: _) : Int) ≤ a.room
              rw [total_cons, total_perm hp1]
              show ((x.f.dat.length + _ : Nat) : Int) ≤ _
              omega
            · rcases List.mem_cons.1 hf2 with rfl | hf2
              · exact hnok
              · exact wf.names f (List.mem_filter.1 (List.mem_filter.1 hf2).1).1
          · left
            rcases mem_blocks.1 hb with e | e | ⟨y, hy, hyb⟩
            · exact in_d b e
            · exact in_r b e
            · rcases List.mem_cons.1 hy with rfl | hy
              · exact mem_blocks.2 (.inr (.inr ⟨x, hx, hyb⟩))
              · exact mem_blocks.2 (.inr (.inr ⟨y, hsub y (hpm.mem_iff.2 (List.mem_cons_of_mem _ hy)), hyb⟩))
        · have hnm2 : n = m := by
            have h1 : n.toList = m.toList := by simpa using gn
            rw [Go.ByteArray.toList_eq, Go.ByteArray.toList_eq] at h1
            exact ByteArray.ext (Array.toList_inj.1 h1)
          refine ⟨trivial, 0, rfl, ?_⟩
          refine H'.unlock rfl fun w8 H8 c8 z8 => ?_
          have hmv : moveF a.act n m x.f = a.act := by unfold moveF; rw [if_pos hnm2]
          simp only [hmv] at hk
          exact hk w8 _ (DK.of H8 rfl (by rw [hL]; exact .refl _) wf.act) (hc6.more c8 in_d) fun b hb => .inl hb
end Go.Proofs.YtipololccbdojaaGreatDoor
namespace Go.Proofs.YtipololccbdojaaGreatDoor
open Go Go.Sv Go.MapKept
set_option linter.unusedVariables false
set_option maxRecDepth 4000

def newA (room : Int) : AD := { room := room, down := false, acts := -1, keep := 0, fs := [] }
theorem new_ok {w : World} {room : Int} {K : Value → World → Prop}
    (hno : room < 0 ∨ room > 16777216 → K (.pointer none) w)
    (hk : 0 ≤ room → room ≤ 16777216 → ∀ d w' B', DK w' d (newA room) B' → Ch (fun _ => False) w w' → (∀ b, B' b → w.heap.size ≤ b) → K (.pointer (some ⟨d, 0, none⟩)) w') :
    callP Tryz.prog 17 [.int .i64 room] w K := by
  refine ok_disk_New ?_
  unfold wp_disk_New
  refine ⟨fun w' => w' = w ∧ 0 ≤ room ∧ room ≤ 16777216, ?_, Sif_cases (fun g => Sif_cases (fun g2 => ?_) fun g2 => ?_) fun g => ?_⟩
  · rintro w1 ⟨rfl, h1, h2⟩
    obtain ⟨w2, hr, hm, c2, z2⟩ := makeMap_run Tryz.prog 97 .string w1
    refine ⟨some w1.heap.size, w2, hr, newB_blk fun w3 b3 c3 z3 => ?_⟩
    have hm3 := hm.ch c3 id
    refine hk h1 h2 w2.heap.size w3 _ (DK.of (h := (newA room).hd) (r := w1.heap.size) (L := []) ⟨by rw [b3]; rfl, ⟨[], hm3, .refl _⟩, by simp, by simp [blocks]; omega⟩ rfl (by exact .refl _) ⟨by simp [newA], by simpa [newA, total] using h1, h2, by simp [newA], by simp [newA], by simp [newA]⟩) (c2.new c3) fun b hb => ?_
    simp [blocks] at hb
    rcases hb with rfl | rfl <;> omega
  · exact hno (.inr (by have := of_decide_eq_true g2; omega))
  · have h1 : ¬ room < 0 := by simpa using g
    have h2 : ¬ room > 16777216 := of_decide_eq_false g2
    exact ⟨rfl, by omega, by omega⟩
  · have h1 : room < 0 := by simpa using g
    exact hno (.inl h1)
end Go.Proofs.YtipololccbdojaaGreatDoor
namespace Go.Proofs.YtipololccbdojaaGreatDoor
open Go Go.Sv Go.MapKept
set_option linter.unusedVariables false
set_option maxRecDepth 4000

/-- a file that came out -/
structure OF where
  f : File
  p : Option Addr
  c : Nat
  own : Option Nat
def OF.cells (o : OF) : List Value := [.string o.f.name, .slice o.p o.f.dat.length o.c, .int .i64 o.f.safe]
structure FilesR (w : World) (p : Option Addr) (c : Nat) (ob : Option Nat) (O : List OF) : Prop where
  row : Ow w p O.length c 3 (O.flatMap OF.cells) ob
  dat : ∀ o ∈ O, Ow w o.p o.f.dat.length o.c 1 (bytesV o.f.dat) o.own
  nodup : (ob.toList ++ O.flatMap fun o => o.own.toList).Nodup
def FilesR.bl (ob : Option Nat) (O : List OF) : List Nat := ob.toList ++ O.flatMap fun o => o.own.toList
theorem FilesR.lt {w : World} {p : Option Addr} {c : Nat} {ob : Option Nat} {O : List OF} (h : FilesR w p c ob O) : ∀ b ∈ FilesR.bl ob O, b < w.heap.size := by
  intro b hb
  rcases List.mem_append.1 hb with hb | hb
  · exact Ow.lt' h.row b (by simpa using hb)
  · obtain ⟨o, ho, hb⟩ := List.mem_flatMap.1 hb
    exact Ow.lt' (h.dat o ho) b (by simpa using hb)
theorem FilesR.ch {S : Nat → Prop} {w w' : World} {p : Option Addr} {c : Nat} {ob : Option Nat} {O : List OF} (h : FilesR w p c ob O) (hc : Ch S w w') (hn : ∀ b ∈ FilesR.bl ob O, ¬ S b) : FilesR w' p c ob O :=
  ⟨h.row.ch hc fun k hk => hn k (by simp [FilesR.bl, hk]), fun o ho => (h.dat o ho).ch hc fun k hk => hn k (List.mem_append.2 (.inr (List.mem_flatMap.2 ⟨o, ho, by simp [hk]⟩))), h.nodup⟩
theorem apifile_info : InfoIs Tryz.prog 51 3 48 (.agg #[.string ⟨#[]⟩, .slice none 0 0, .int .i64 0]) := .of (by kernel_rfl) (by kernel_rfl) (by kernel_rfl)
set_option maxHeartbeats 2000000 in
theorem files_ok {w : World} {d : Nat} {a : AD} {B : Nat → Prop} {K : Value → World → Prop} (D : DK w d a B) (hsort : (a.fs.map fun f => f.name.data.toList).Pairwise (· ≤ ·)) (hcnt : a.fs.length ≤ 2 ^ 41)
    (hk : ∀ p c ob O w' B', DK w' d a B' → Ch B w w' → (∀ b, B' b → B b) → FilesR w' p c ob O → O.map (·.f) = a.fs → (∀ b ∈ FilesR.bl ob O, w.heap.size ≤ b) → K (.slice p O.length c) w') :
    callP Tryz.prog 76 [.pointer (some ⟨d, 0, none⟩)] w K := by
  obtain ⟨wf, r, L, H, hL, rfl⟩ := D
  have htot := wf.tot
  have hlt := H.lt
  have hnm : (a.fs.map (·.name)).Nodup := by rw [← hL, List.map_map]; exact H.names
  refine ok_disk_Disk_Files ?_
  unfold wp_disk_Disk_Files
  simp only [nn_some, add_at]
  refine H.lock rfl fun w1 H1 c1 z1 => ⟨rfl, some r, H1.cell 4, ?_⟩
  refine keys_ok ⟨_, rfl, ?_⟩
  obtain ⟨mm, hm, hmp⟩ := H1.map
  obtain ⟨ks, hks1, hks2⟩ := perm_lift (g := Value.string) (M := mm.map (·.1)) (L := L.map fun x => x.f.name) (by
    have h1 := (hmp.map Prod.fst).symm
    rw [List.map_map] at h1
    rw [List.map_map]; exact h1)
  have hksz : ∀ s ∈ ks, s.size ≤ maxLen := fun s hs => by
    obtain ⟨x, hx, rfl⟩ := List.mem_map.1 (hks1.mem_iff.2 hs)
    have := wf.names x.f (hL ▸ List.mem_map.2 ⟨x, hx, rfl⟩)
    unfold nameOk at this
    simp at this
    unfold maxLen; omega
  have hmlen : mm.length ≤ 2 ^ 41 := by
    have h1 := hmp.length_eq
    have h2 := congrArg List.length hL
    simp at h1 h2
    omega
  refine sorted_ok hm hks2.symm hmlen hksz fun p c ss w3 hperm hss hrd c3 => ⟨p, ss.length, c, rfl, ?_⟩
  have hss2 : ss = a.fs.map fun f => f.name.data.toList := by
    refine List.Perm.eq_of_pairwise (le := (· ≤ ·)) (fun x y _ _ h1 h2 => List.le_antisymm h1 h2) hss hsort (hperm.trans ?_)
    rw [← hL, List.map_map]
    have := (hks1.map (·.data.toList)).symm
    rw [List.map_map] at this
    exact this
  have hsl : ss.length = a.fs.length := by rw [hss2]; simp
  have H3 := H1.ch0 c3
  have hw3 : w.heap.size ≤ w3.heap.size := by have := c3.size; omega
  have hpb : ∀ q, p = some q → ss.length * 1 ≠ 0 → q.block < w3.heap.size := fun q hq h0 => by
    rcases hrd.2 with h | ⟨b, o, cs, hp, hb, _⟩
    · omega
    · rw [hp] at hq; cases hq; exact cells_lt hb
  refine ⟨fun m p1 n1 c1 n2 w4 => ∃ (O : List OF) (ob : Option Nat), n1 = O.length ∧ n2 = O.length ∧ O.length ≤ a.fs.length ∧ m = a.fs.length - O.length ∧ O.map (·.f) = a.fs.take O.length ∧ FilesR w4 p1 c1 ob O ∧
    Ch (fun _ => False) w3 w4 ∧ (∀ b ∈ FilesR.bl ob O, w3.heap.size ≤ b), ⟨a.fs.length, [], none, rfl, rfl, by simp, by simp, by simp, ⟨⟨rfl, Nat.le_refl _, .inl ⟨rfl, rfl⟩⟩, by simp, by simp⟩, Ch.refl _ _, by simp [FilesR.bl]⟩, ?_⟩
  rintro m p1 n1 c1' n2 w4 ⟨O, ob, rfl, rfl, hOl, hm', hO, HF, c4, hnew⟩
  have H4 := H3.ch0 c4
  refine Sif_cases (fun g => ?_) fun g => ?_
  · have g' : O.length < ss.length := by have := of_decide_eq_true g; omega
    have hgf : O.length < a.fs.length := by omega
    have hfk : a.fs[O.length]? = some (a.fs[O.length]'hgf) := List.getElem?_eq_getElem hgf
    generalize a.fs[O.length]'hgf = f at hfk
    have hfm : f ∈ a.fs := List.mem_of_getElem? hfk
    have hrd4 : Rd w4 p ss.length 1 (ss.map encS) := hrd.ch c4 fun _ _ _ => id
    obtain ⟨pb, po, hp, hcell⟩ := hrd4.cell (i := O.length) (by omega)
    subst hp
    simp only [nn_some, add_at, Nat.mul_one, Int.toNat_natCast]
    refine ⟨by omega, by omega, f.name, by rw [hcell, List.getElem?_map, hss2, List.getElem?_map, hfk]; simp [encS_data], some r, H4.cell 4, ?_⟩
    rcases look_ok H4 f.name with ⟨x, hx, hxn, h1, _⟩ | ⟨hno, _⟩
    case inr =>
      exfalso
      rw [← hL] at hfm
      obtain ⟨x, hx, rfl⟩ := List.mem_map.1 hfm
      exact hno x hx rfl
    have hxf : x.f = f := inj_of_nodup hnm (hL ▸ List.mem_map.2 ⟨x, hx, rfl⟩) hfm hxn
    refine ⟨some ⟨x.b, 0, none⟩, h1, ?_⟩
    simp only [nn_some, add_at]
    have H4d : DR w4.drew d r _ L := H4.ch0 (Ch.drew w4)
    have hg := H4d.files x hx
    have hxl := dat_le_total (hxf ▸ hfm : x.f ∈ a.fs)
    refine ⟨x.p, x.f.dat.length, x.c, by rw [cell_blk hg.1]; rfl, x.f.safe, by rw [cell_blk hg.1]; rfl, clone_ok hg.2.rd (by omega) fun p4 c5 w5 b4 o4 f4 e4 => ⟨p4, _, c5, rfl, ?_⟩⟩
    have hg5 := (H4d.ch0 e4).files x hx
    refine ⟨⟨x.f.safe, by rw [cell_blk hg5.1]; rfl, rfl⟩, newB_blk fun w6 b6 e6 z6 => ?_⟩
    have HF6 : FilesR w6 p1 c1' ob O := ((HF.ch (Ch.drew (S := fun _ => False) w4) fun _ _ => id).ch e4 fun _ _ => id).ch e6 fun _ _ => id
    have hw4 : w3.heap.size ≤ w4.heap.size := c4.size
    have hw5 : w4.heap.size ≤ w5.heap.size := e4.size
    have hnl : f.name.size ≤ 16 := by have := wf.names f hfm; unfold nameOk at this; simp at this; omega
    have hrdn : Rd w6 (some ⟨w5.heap.size, 0, none⟩) 1 3 [.string f.name, .slice p4 x.f.dat.length c5, .int .i64 x.f.safe] := ⟨rfl, .inr ⟨_, 0, _, rfl, blk_cells b6, by simp, rfl⟩⟩
    obtain ⟨p5, c6, w7, b7, r1, r2, r3, r4, _⟩ := append_rd (ty := 52) (c2 := 1) Tryz.underlying52 Tryz.underlying52 apifile_info rfl HF6.row hrdn (by intro u hu; simp at hu; rcases hu with rfl | rfl | rfl <;> rfl) (by omega) (by omega)
    refine ⟨p5, _, c6, w7, r1, m - 1, by omega, O ++ [{ f := f, p := p4, c := c5, own := b4 }], b7, by simp, ?_, by simp; omega, by simp; omega, ?_, ?_, ?_, ?_⟩
    · rw [wrap_id (by omega) (by omega)]; simp
    · rw [List.map_append, hO, List.length_append]
      simp only [List.map_cons, List.map_nil, List.length_cons, List.length_nil, Nat.zero_add]
      rw [List.take_add_one, hfk]; rfl
    · have hold : ∀ b ∈ FilesR.bl ob O, b < w4.heap.size := HF.lt
      have hb4 : ∀ k, b4 = some k → w4.heap.size ≤ k ∧ k < w5.heap.size := fun k hk => ⟨f4 k hk, Ow.lt' o4 k hk⟩
      refine ⟨?_, fun o ho => ?_, ?_⟩
      · have e1 : (O ++ [({ f := f, p := p4, c := c5, own := b4 } : OF)]).flatMap OF.cells = O.flatMap OF.cells ++ [.string f.name, .slice p4 x.f.dat.length c5, .int .i64 x.f.safe] := by
          rw [List.flatMap_append]; simp [OF.cells, hxf]
        rw [e1, List.length_append]; exact r2
      · rcases List.mem_append.1 ho with ho | ho
        · refine (HF6.dat o ho).ch r4 fun k hk hk2 => ?_
          have hnd := HF.nodup
          rw [hk2] at hnd
          simp only [Option.toList_some, List.singleton_append] at hnd
          exact (List.nodup_cons.1 hnd).1 (List.mem_flatMap.2 ⟨o, ho, by simp [hk]⟩)
        · simp only [List.mem_singleton] at ho
          subst ho
          show Ow w7 p4 f.dat.length c5 1 (bytesV f.dat) b4
          rw [← hxf]
          refine (o4.ch e6 fun _ _ => id).ch r4 fun k hk hk2 => ?_
          have h1 := hold k (by simp [FilesR.bl, hk2])
          have h2 := (hb4 k hk).1
          omega
      · have hnd := HF.nodup
        rw [List.flatMap_append]
        simp only [List.flatMap_cons, List.flatMap_nil, List.append_nil]
        have hrest : ((O.flatMap fun o => o.own.toList) ++ b4.toList).Nodup := by
          refine List.nodup_append.2 ⟨(List.nodup_append.1 hnd).2.1, by cases b4 <;> simp, fun a ha b hb e => ?_⟩
          subst e
          have h1 := hold a (List.mem_append.2 (.inr ha))
          have h2 := (hb4 a (by simpa using hb)).1
          omega
        refine List.nodup_append.2 ⟨by cases b7 <;> simp, hrest, fun a ha b hb e => ?_⟩
        subst e
        have ha' : b7 = some a := by simpa using ha
        rcases r3 a ha' with h | h
        · rcases List.mem_append.1 hb with hb | hb
          · rw [h] at hnd
            simp only [Option.toList_some, List.singleton_append] at hnd
            exact (List.nodup_cons.1 hnd).1 hb
          · have h1 := hold a (by simp [FilesR.bl, h])
            have h2 := (hb4 a (by simpa using hb)).1
            omega
        · rcases List.mem_append.1 hb with hb | hb
          · have h1 := hold a (List.mem_append.2 (.inr hb))
            omega
          · have h2 := (hb4 a (by simpa using hb)).2
            omega
    · refine (((c4.new (Ch.drew w4)).new e4).new e6).trans r4 fun k hk h => ?_
      have := hnew k (by simp [FilesR.bl, h])
      omega
    · intro b hb
      rcases List.mem_append.1 hb with hb | hb
      · rcases r3 b (by simpa using hb) with h | h
        · exact hnew b (by simp [FilesR.bl, h])
        · omega
      · rw [List.flatMap_append] at hb
        rcases List.mem_append.1 hb with hb | hb
        · exact hnew b (List.mem_append.2 (.inr hb))
        · have := f4 b (by simpa using hb)
          have h9 : w4.drew.heap.size = w4.heap.size := rfl
          omega
  · have g' : ¬ O.length < ss.length := by have := of_decide_eq_false g; omega
    refine H4.unlock rfl fun w5 H5 c5 z5 => ?_
    have hdw : d < w.heap.size := hlt d (by simp [blocks])
    refine hk p1 c1' ob O w5 _ (DK.of H5 rfl (by rw [hL]) wf) ((((c1.mono fun x _ hx => in_d x hx).new c3).new c4).more c5 in_d) (fun b hb => hb) (HF.ch c5 fun b hb e => by have := hnew b hb; omega) ?_ fun b hb => by have := hnew b hb; omega
    rw [hO, List.take_of_length_le (by omega)]
end Go.Proofs.YtipololccbdojaaGreatDoor
namespace Go.Proofs.YtipololccbdojaaGreatDoor
open Go Go.Sv Go.MapKept
set_option linter.unusedVariables false
set_option maxRecDepth 4000

/-- all of B is new since w -/
structure Fresh (w w' : World) (B : Nat → Prop) : Prop where
  ch : Ch (fun _ => False) w w'
  new : ∀ b, B b → w.heap.size ≤ b
theorem Fresh.step {w w1 w2 : World} {B B' : Nat → Prop} (F : Fresh w w1 B) (hc : Ch B w1 w2) (hb : ∀ b, B' b → B b ∨ w1.heap.size ≤ b) : Fresh w w2 B' :=
  ⟨F.ch.trans hc fun x hx h => by have := F.new x h; omega, fun b h => by
    have := F.ch.size
    rcases hb b h with h | h
    · exact F.new b h
    · omega⟩
theorem Fresh.more {w w1 w2 : World} {B : Nat → Prop} (F : Fresh w w1 B) (hc : Ch (fun _ => False) w1 w2) : Fresh w w2 B := ⟨F.ch.new hc, F.new⟩
abbrev sLog : ByteArray := ⟨#[108, 111, 103]⟩
theorem make_bytes {w : World} (n : Nat) (hn : n ≤ 2 ^ 41) : ∃ w', (Instr.makeSlice 23 (.int .i64 (n : Int)) (.int .i64 (n : Int))).run Tryz.prog w = .ok (.slice (some ⟨w.heap.size, 0, none⟩) n n) w' ∧
    blk w' w.heap.size = some (bytesV (List.replicate n 0)) ∧ Ch (fun _ => False) w w' ∧ w'.heap.size = w.heap.size + 1 := by
  obtain ⟨i, hi, h1, h2, h3⟩ := byte_info
  have hr := run_make (P := Tryz.prog) w 23 5 i _ Tryz.underlying23 hi h3 .i64 .i64 (n : Int) (n : Int) (by omega) (by omega) (by rw [h2]; omega) (by omega)
  rw [Int.toNat_natCast, h1, Nat.mul_one] at hr
  have hm : madeCells (Value.int .u8 0).cells n = (bytesV (List.replicate n 0)).toArray := by
    apply Array.ext'
    apply List.ext_getElem
    · simp [madeCells]
    · intro j g1 g2
      simp [madeCells, bytesV, Value.cells, Nat.mod_one]
  rw [hm] at hr
  exact ⟨_, hr, alloc_blk w _ _, alloc_ch w _, by simp⟩
theorem rd_new {w : World} {k : Nat} {l : List UInt8} (hb : blk w k = some (bytesV l)) : Rd w (some ⟨k, 0, none⟩) l.length 1 (bytesV l) := ⟨by simp, .inr ⟨k, 0, _, rfl, blk_cells hb, by simp, by rw [List.drop_zero, Nat.mul_one, List.take_of_length_le (by simp)]⟩⟩
theorem OF.cells_len (o : OF) : o.cells.length = 3 := rfl
/-- files that read -/
structure FilesD (w : World) (p : Option Addr) (O : List OF) : Prop where
  row : Rd w p O.length 3 (O.flatMap OF.cells)
  dat : ∀ o ∈ O, Rd w o.p o.f.dat.length 1 (bytesV o.f.dat)
theorem FilesR.rd {w : World} {p : Option Addr} {c : Nat} {ob : Option Nat} {O : List OF} (h : FilesR w p c ob O) : FilesD w p O := ⟨h.row.rd, fun o ho => (h.dat o ho).rd⟩
theorem FilesD.ch0 {w w' : World} {p : Option Addr} {O : List OF} (h : FilesD w p O) (hc : Ch (fun _ => False) w w') : FilesD w' p O := ⟨h.row.ch hc fun _ _ _ => id, fun o ho => (h.dat o ho).ch hc fun _ _ _ => id⟩
theorem FilesD.at {w : World} {p : Option Addr} {O : List OF} (h : FilesD w p O) {i : Nat} {x : OF} (hi : O[i]? = some x) :
    ∃ b o, p = some ⟨b, o, none⟩ ∧ w.cell? ⟨b, o + i * 3, none⟩ = some (.string x.f.name) ∧ w.cell? ⟨b, o + i * 3 + 1, none⟩ = some (.slice x.p x.f.dat.length x.c) ∧ w.cell? ⟨b, o + i * 3 + 2, none⟩ = some (.int .i64 x.f.safe) := by
  obtain ⟨b, o, hp, hc⟩ := Rd.at OF.cells_len h.row hi (by omega)
  exact ⟨b, o, hp, hc 0 _ rfl, hc 1 _ rfl, hc 2 _ rfl⟩
theorem toStr {w : World} {p : Option Addr} {n c : Nat} {l : List UInt8} (h : Rd w p n 1 (bytesV l)) : (convert 23 9 (.slice p n c)).run Tryz.prog w = .ok (.string ⟨l.toArray⟩) w :=
  toString_run Tryz.underlying23 Tryz.underlying5 Tryz.underlying9 h

theorem Same_ok {w : World} {p q : Option Addr} {cp cq : Nat} {A B : List OF} {K : Value → World → Prop} (ha : FilesD w p A) (hb : FilesD w q B) (he : A.map (·.f) = B.map (·.f)) (hlen : A.length ≤ 2 ^ 60)
    (hk : ∀ w', Ch (fun _ => False) w w' → w'.heap.size = w.heap.size → K (.bool true) w') : callP Tryz.prog 78 [.slice p A.length cp, .slice q B.length cq] w K := by
  have hl : A.length = B.length := by have := congrArg List.length he; simpa using this
  refine ok_longshoreref19_Same ?_
  unfold wp_longshoreref19_Same
  refine Sif_cases (fun g => by simp [hl] at g) fun _ => ?_
  refine ⟨fun m n w' => ∃ k : Nat, n = k ∧ k ≤ A.length ∧ m = A.length - k ∧ Ch (fun _ => False) w w' ∧ w'.heap.size = w.heap.size, ⟨A.length, 0, rfl, Nat.zero_le _, by simp, Ch.refl _ _, rfl⟩, ?_⟩
  rintro m n w1 ⟨k, rfl, hkl, rfl, c1, z1⟩
  refine Sif_cases (fun g => ?_) fun g => hk w1 c1 z1
  have hlt : k < A.length := by have := of_decide_eq_true g; omega
  have hltB : k < B.length := by omega
  have hxa : A[k]? = some A[k] := List.getElem?_eq_getElem hlt
  have hxb : B[k]? = some B[k] := List.getElem?_eq_getElem hltB
  have hf : (A[k]).f = (B[k]).f := by
    have h1 : (A.map (·.f))[k]? = (B.map (·.f))[k]? := by rw [he]
    simpa [hxa, hxb] using h1
  have hma := List.mem_of_getElem? hxa
  have hmb := List.mem_of_getElem? hxb
  generalize A[k] = x at *
  generalize B[k] = y at *
  have cd : Ch (fun _ => False) w w1.drew := c1.new (Ch.drew w1)
  obtain ⟨b1, o1, rfl, h10, h11, h12⟩ := (ha.ch0 cd).at hxa
  obtain ⟨b2, o2, rfl, h20, h21, h22⟩ := (hb.ch0 cd).at hxb
  have hd1 := toStr (c := x.c) ((ha.ch0 cd).dat x hma)
  have hd2 := toStr (c := y.c) ((hb.ch0 cd).dat y hmb)
  refine ⟨fun w' => Ch (fun _ => False) w w' ∧ w'.heap.size = w.heap.size, fun w2 ⟨c2, z2⟩ => ?_, by omega, by omega, ?_⟩
  · rw [nameI_iff, wrap_id (by omega) (by omega)]
    exact ⟨A.length - (k + 1), by omega, k + 1, by simp, by omega, rfl, c2, z2⟩
  simp only [nn_some, add_at, Int.toNat_natCast, Nat.add_zero]
  refine ⟨by omega, by omega, _, h10, _, h20, ?_⟩
  rw [hf, str_eq_self]
  refine ⟨by omega, by omega, by omega, by omega, _, h12, _, h22, ?_⟩
  rw [hf, show (!((y.f.safe : Int) != (y.f.safe : Int))) = true by simp]
  refine ⟨by omega, by omega, by omega, by omega, _, _, _, h11, _, hd1, _, _, _, h21, _, hd2, ?_⟩
  rw [hf, str_eq_self]
  exact ⟨cd, by simpa using z1⟩
theorem DK.names {w : World} {d : Nat} {a : AD} {B : Nat → Prop} (D : DK w d a B) : (a.fs.map (·.name)).Nodup := by
  obtain ⟨wf, r, L, H, hL, rfl⟩ := D
  rw [← hL, List.map_map]; exact H.names
def leN (x y : File) : Bool := decide (x.name.data.toList ≤ y.name.data.toList)
def AD.sorted (a : AD) : AD := { a with fs := a.fs.mergeSort leN }
theorem AD.sorted_perm (a : AD) : a.fs.Perm a.sorted.fs := (List.mergeSort_perm ..).symm
theorem AD.sorted_pw (a : AD) : (a.sorted.fs.map fun f => f.name.data.toList).Pairwise (· ≤ ·) := by
  rw [List.pairwise_map]
  exact (List.pairwise_mergeSort (le := leN) (fun a b c h1 h2 => by simp [leN] at h1 h2 ⊢; exact List.le_trans h1 h2) (fun a b => by simp [leN]; exact List.le_total _ _) a.fs).imp fun h => by simpa [leN] using h
theorem DK.sort {w : World} {d : Nat} {a : AD} {B : Nat → Prop} (D : DK w d a B) : DK w d a.sorted B := D.perm a.sorted_perm
theorem sorted_len (a : AD) : a.sorted.fs.length = a.fs.length := List.length_mergeSort ..

end Go.Proofs.YtipololccbdojaaGreatDoor
