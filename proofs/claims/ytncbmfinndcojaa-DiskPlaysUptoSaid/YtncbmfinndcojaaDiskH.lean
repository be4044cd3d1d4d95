/-
  Append does what is said.
-/
import Derived.Test.YtncbmfinndcojaaDiskG
namespace Go.Proofs.Ytncbmfinndcojaa
open Go Go.Sv Go.MapKept
set_option linter.unusedVariables false
set_option maxRecDepth 4000

def growF (l : List UInt8) (f : File) : File := { f with dat := f.dat ++ l }
def AD.more (a : AD) (n : ByteArray) : AD := if a.err [n] n = 191 then { a with fs := ⟨n, [], 0⟩ :: a.fs } else a
def AD.append (a : AD) (n : ByteArray) (l : List UInt8) : Int × AD :=
  if a.err [n] n = 3 ∨ a.err [n] n = 1 then (a.err [n] n, a)
  else if (l.length : Int) > a.room - total a.fs then (190, a)
  else if a.acts = 0 then (3, ((a.more n).act.upd n (growF l)).fall a.keep) else (0, (a.more n).act.upd n (growF l))
theorem AD.err_cases (a : AD) (n : ByteArray) : a.err [n] n = 3 ∨ a.err [n] n = 1 ∨ (a.err [n] n = 191 ∧ nameOk n = true ∧ a.has n = false) ∨ (a.err [n] n = 0 ∧ nameOk n = true ∧ a.has n = true) := by
  unfold AD.err
  cases h1 : a.down <;> cases h2 : nameOk n <;> cases h3 : a.has n <;> simp [h2]
theorem AD.more_rest (a : AD) (n : ByteArray) : (a.more n).room = a.room ∧ (a.more n).down = a.down ∧ (a.more n).acts = a.acts ∧ (a.more n).keep = a.keep ∧ total (a.more n).fs = total a.fs := by
  unfold AD.more; split
  · exact ⟨rfl, rfl, rfl, rfl, by show total (_ :: a.fs) = _; rw [total_cons]; simp⟩
  · exact ⟨rfl, rfl, rfl, rfl, rfl⟩
theorem file_info : InfoIs Try.prog 82 2 32 (.agg #[.slice none 0 0, .int .i64 0]) := .of (by kernel_rfl) (by kernel_rfl) (by kernel_rfl)
/-- a new, empty file is laid into the map -/
theorem newFile_ok {w : World} {d r : Nat} {h : Hd} {L : List PF} {n : ByteArray} {K : World → Prop} (H : DR w d r h L) {k : Nat} (hb : blk w k = some [.slice none 0 0, .int .i64 0]) (hk : k ∉ blocks d r L) (hn : ∀ x ∈ L, x.f.name ≠ n)
    (hK : ∀ w', DR w' d r h ({ f := ⟨n, [], 0⟩, b := k, p := none, c := 0, own := none } :: L) → Ch (· = r) w w' → K w') :
    runU Try.prog (Instr.mapUpdate 66 (.map (some r)) (.string n) (.pointer (some ⟨k, 0, none⟩))) w K := by
  obtain ⟨m, hm, hp⟩ := H.map
  obtain ⟨w', m', h1, h2, h3, h4, h5⟩ := update_run (t := 66) Try.underlying66 Try.underlying9 hm (k := .string n) trivial (.pointer (some ⟨k, 0, none⟩))
  refine ⟨w', h1, hK w' ?_ h3⟩
  have hkr : k ≠ r := fun e => hk (by simp [blocks, e])
  refine H.ins (x := { f := ⟨n, [], 0⟩, b := k, p := none, c := 0, own := none }) h2 ?_ h3 ⟨by rw [h3.blk (blk_lt hb) hkr]; exact hb, ⟨rfl, Nat.le_refl _, .inl ⟨rfl, rfl⟩⟩⟩ (by simp [PF.bl]) (by simpa [PF.bl] using hk)
  rcases h5 with ⟨l1, v0, l2, rfl, _⟩ | ⟨_, rfl⟩
  · exfalso
    obtain ⟨z, hz, he⟩ := List.mem_map.1 (hp.mem_iff.1 (by simp : (Value.string n, v0) ∈ l1 ++ (.string n, v0) :: l2))
    simp only [PF.pair, Prod.mk.injEq, Value.string.injEq] at he
    exact hn z hz he.1
  · exact (List.perm_append_singleton _ _).trans (hp.cons _)
set_option maxHeartbeats 2000000 in
theorem append_ok {w : World} {d : Nat} {a : AD} {B : Nat → Prop} {n : ByteArray} {b : Option Addr} {bn bc : Nat} {l : List UInt8} {K : Value → World → Prop} (D : DK w d a B) (hs : n.size ≤ 9223372036854775807)
    (hb : Rd w b bn 1 (bytesV l)) (hbl : bn ≤ 2 ^ 62) (hbB : ∀ p, b = some p → bn ≠ 0 → ¬ B p.block)
    (hk : Post w d (a.append n l).2 B (K (.int .i64 (a.append n l).1))) :
    callP Try.prog 26 [.pointer (some ⟨d, 0, none⟩), .string n, .slice b bn bc] w K := by
  obtain ⟨wf, r, L, H, hL, rfl⟩ := D
  have htot := wf.tot
  have hlt := H.lt
  have hln : l.length = bn := by have := hb.1; simpa using this
  refine ok_disk_Disk_Append ?_
  unfold wp_disk_Disk_Append
  simp only [nn_some, add_at]
  refine H.lock rfl fun w1 H1 c1 z1 => ⟨rfl, newB_blk fun w2 b2 c2 z2 => ?_⟩
  refine of_ok (H1.ch0 c2) (ns := [n]) rfl (one_rd b2) (fun s hs' => by simp at hs'; subst hs'; exact hs) (by simp) fun q e w3 c3 z3 ho => ?_
  obtain ⟨he, he0, he191⟩ := ofR_err (a := a) rfl hL ho
  have hc3 : Ch (· ∈ blocks d r L) w w3 := ((c1.mono fun x _ hx => in_d x hx).new c2).new c3
  have H3 : DR w3 d r { a.hd with lk := 1 } L := (H1.ch0 c2).ch0 c3
  have happ : a.append n l = (if e = 3 ∨ e = 1 then (e, a) else if (l.length : Int) > a.room - total a.fs then (190, a)
      else if a.acts = 0 then (3, ((a.more n).act.upd n (growF l)).fall a.keep) else (0, (a.more n).act.upd n (growF l))) := by unfold AD.append; rw [he]
  have leave : ∀ (e' : Int) (w4 : World), DR w4 d r { a.hd with lk := 1 } L → Ch (· ∈ blocks d r L) w w4 → a.append n l = (e', a) → callD Try.prog 32 [.pointer (some ⟨d, 0 + 0, none⟩)] w4 fun w6 => K (.int .i64 e') w6 := by
    intro e' w4 H4 c4 he'
    rw [he'] at hk
    refine H4.unlock rfl fun w6 H6 c6 z6 => ?_
    exact hk w6 _ (DK.of H6 rfl (by rw [hL]) wf) (c4.more c6 in_d) fun b hb => .inl hb
  refine ⟨q, e, rfl, fun p1 w4 => ∃ x R, p1 = some ⟨x.b, 0, none⟩ ∧ DR w4 d r { a.hd with lk := 1 } (x :: R) ∧ x.f.name = n ∧ ((x :: R).map (·.f)).Perm (a.more n).fs ∧ Ch (· ∈ blocks d r L) w w4 ∧
    (∀ k ∈ blocks d r (x :: R), k ∈ blocks d r L ∨ w.heap.size ≤ k) ∧ ¬ (e = 3 ∨ e = 1) ∧ ¬ (l.length : Int) > a.room - total a.fs ∧ WF (a.more n), ?_, ?_⟩
  · rintro p1 w4 ⟨x, R, rfl, H4, hxn, hfs, c4, hbl4, hne, hroom, wf1⟩
    obtain ⟨m1, m2, m3, m4, m5⟩ := a.more_rest n
    have hfit := wf.fits
    have hrm := wf.room
    refine act_ok H4 wf.acts1 wf.acts2 fun w5 H5 c5 z5 => ⟨_, rfl, ?_⟩
    simp only [nn_some, add_at]
    have hg := H5.files x (by simp)
    have hc5 : Ch (· ∈ blocks d r L) w w5 := c4.more c5 in_d
    have hrd : Rd w5 b bn 1 (bytesV l) := hb.ch hc5 fun p hp hz hB => hbB p hp (by omega) hB
    have htot1 : total ((x :: R).map (·.f)) = total a.fs := by rw [total_perm hfs, m5]
    have hxl : x.f.dat.length ≤ total a.fs := by rw [← htot1]; exact dat_le_total (by simp)
    obtain ⟨p3, c3', w6, b6, r1, r2, r3, r4, _⟩ := append_rd (ty := 31) (c2 := bc) Try.underlying31 Try.underlying31 byte_info rfl hg.2 hrd (bytesV_one l) (by omega) (by omega)
    refine ⟨x.p, x.f.dat.length, x.c, by rw [cell_blk hg.1]; rfl, p3, _, c3', w6, r1, ?_⟩
    have hown : ∀ k, x.own = some k → k ≠ x.b := fun k hk e => by
      have := H5.nodup
      simp only [blocks, List.flatMap_cons, PF.bl, hk, Option.toList_some] at this
      simp [e] at this
    have hxlt : x.b < w5.heap.size := blk_lt hg.1
    have hg6 : blk w6 x.b = some [.slice x.p x.f.dat.length x.c, .int .i64 x.f.safe] := by rw [r4.blk hxlt fun e => hown x.b e rfl]; exact hg.1
    refine st_blk hg6 (by simp) fun w7 b7 c7 z7 => ?_
    have hb6 : ∀ k, b6 = some k → k ≠ x.b := fun k hk e => by
      rcases r3 k hk with h | h
      · exact hown k h e
      · omega
    have hlen : (growF l x.f).dat.length = x.f.dat.length + bn := by simp [growF, hln]
    have H7 : DR w7 d r { a.hd with lk := 1, acts := actsN a.acts } ({ f := growF l x.f, b := x.b, p := p3, c := c3', own := b6 } :: R) := by
      refine H5.repl rfl rfl ⟨?_, ?_⟩ ((r4.mono fun k _ hk => by simp [PF.bl, hk]).more c7 fun k hk => by simp [PF.bl, hk]) fun k hk => ?_
      · show blk w7 x.b = some [.slice p3 (growF l x.f).dat.length c3', .int .i64 x.f.safe]
        rw [b7, hlen]; rfl
      · show Ow w7 p3 (growF l x.f).dat.length c3' 1 (bytesV (x.f.dat ++ l)) b6
        rw [hlen, bytesV_append]
        exact r2.ch c7 hb6
      · rcases r3 k hk with h | h
        · exact .inl h
        · exact .inr (by omega)
    have hc7 : Ch (· ∈ blocks d r L) w w7 := by
      refine (hc5.trans r4 fun k hk h => ?_).trans c7 fun k hk h => ?_
      · rcases hbl4 k (mem_blocks.2 (.inr (.inr ⟨x, by simp, by simp [PF.bl, h]⟩))) with h | h
        · exact h
        · omega
      · rcases hbl4 k (mem_blocks.2 (.inr (.inr ⟨x, by simp, by simp [PF.bl, h]⟩))) with h | h
        · exact h
        · omega
    refine ⟨_, H7.cell 3, ?_⟩
    have hup := upd_perm (g := growF l) (List.Perm.refl (x :: R)) H4.names hxn
    have hup2 : (({ f := growF l x.f, b := x.b, p := p3, c := c3', own := b6 } :: R : List PF).map (·.f)).Perm ((a.more n).act.upd n (growF l)).fs := hup.trans (hfs.map _)
    have htx : total (({ f := growF l x.f, b := x.b, p := p3, c := c3', own := b6 } :: R : List PF).map (·.f)) = total a.fs + bn := by
      rw [List.map_cons, total_cons]
      rw [List.map_cons, total_cons] at htot1
      show (growF l x.f).dat.length + _ = _
      omega
    have hu : IntKind.wrap .i64 ((total a.fs : Int) + (bn : Int)) = ((total a.fs + bn : Nat) : Int) := by rw [wrap_id (by omega) (by omega)]; omega
    refine H7.st (h' := { a.hd with lk := 1, acts := actsN a.acts, used := total (({ f := growF l x.f, b := x.b, p := p3, c := c3', own := b6 } :: R : List PF).map (·.f)) }) (by omega) (by
      rw [htx]
      show (Hd.cells r _).set 3 (.int .i64 (IntKind.wrap .i64 ((total a.fs : Int) + (bn : Int)))) = _
      rw [hu]; rfl) fun w8 H8 c8 z8 => ?_
    have hc8 : Ch (· ∈ blocks d r L) w w8 := hc7.more c8 in_d
    have wf2 : WF ((a.more n).act.upd n (growF l)) := wf1.act.upd (fun f hf _ => ⟨rfl, by have := wf1.safe f hf; simp [growF]; omega⟩) (by
      rw [← total_perm hup2, htx]
      show _ ≤ (a.more n).room
      rw [m1]; omega)
    have hbl8 : ∀ k ∈ blocks d r ({ f := growF l x.f, b := x.b, p := p3, c := c3', own := b6 } :: R), k ∈ blocks d r L ∨ w.heap.size ≤ k := by
      intro k hk
      rcases mem_blocks.1 hk with e | e | ⟨y, hy, hyb⟩
      · exact .inl (in_d k e)
      · exact .inl (in_r k e)
      · rcases List.mem_cons.1 hy with rfl | hy
        · simp only [PF.bl, List.mem_cons, Option.mem_toList, Option.mem_def] at hyb
          rcases hyb with rfl | hyb
          · exact hbl4 _ (mem_blocks.2 (.inr (.inr ⟨x, by simp, by simp [PF.bl]⟩)))
          · rcases r3 k hyb with h | h
            · exact hbl4 _ (mem_blocks.2 (.inr (.inr ⟨x, by simp, by simp [PF.bl, h]⟩)))
            · right; have := hc5.size; omega
        · exact hbl4 _ (mem_blocks.2 (.inr (.inr ⟨y, by simp [hy], hyb⟩)))
    rw [if_neg hne, if_neg hroom] at happ
    refine Sif_cases (fun g => ?_) fun g => ?_
    · have ga : a.acts = 0 := by simpa [AD.hd] using g
      rw [if_pos ga] at happ
      rw [happ] at hk
      refine ⟨_, H8.cell 7, fall_ok H8 (fun y hy => wf2.safe y.f (hup2.mem_iff.1 (List.mem_map.2 ⟨y, hy, rfl⟩))) (by rw [htx]; omega) fun L' w9 H9 hp c9 hbl9 => ⟨rfl, ?_⟩⟩
      refine H9.unlock rfl fun w10 H10 c10 z10 => ?_
      have hp2 : (L'.map (·.f)).Perm (((a.more n).act.upd n (growF l)).fall a.keep).fs := hp.trans (hup2.map _)
      refine hk w10 _ (DK.of H10 (by
        show Hd.mk _ _ _ _ _ _ = Hd.mk _ _ _ _ _ _
        rw [← total_perm hp2]
        simp only [AD.hd, AD.fall, AD.upd, AD.act, m1, m4]) hp2 (wf2.fall a.keep)) ((hc8.trans c9 fun k hk h => ?_).more c10 in_d) fun k hk => ?_
      · rcases hbl8 k h with h | h
        · exact h
        · omega
      · rcases hbl9 k hk with h | h
        · exact hbl8 k h
        · right; have := hc8.size; omega
    · have ga : a.acts ≠ 0 := by simpa [AD.hd] using g
      rw [if_neg ga] at happ
      rw [happ] at hk
      refine H8.unlock rfl fun w10 H10 c10 z10 => ?_
      exact hk w10 _ (DK.of H10 (by
        show Hd.mk _ _ _ _ _ _ = Hd.mk _ _ _ _ _ _
        rw [← total_perm hup2]
        simp only [AD.hd, AD.upd, AD.act, m1, m2, m3, m4]) hup2 wf2) (hc8.more c10 in_d) hbl8
  · refine Sif_cases (fun g3 => Sif_cases (fun g1 => ?_) fun g1 => ?_) fun g3 => ?_
    · have : e = 1 := by simpa using g1
      exact leave e w3 H3 hc3 (by rw [happ, if_pos (.inr this)])
    · have h1 : ¬ e = 1 := by simpa using g1
      have h3 : ¬ e = 3 := by simpa using g3
      have hne : ¬ (e = 3 ∨ e = 1) := by omega
      simp only [nn_some, add_at, World.cell?_drew]
      refine ⟨_, H3.cell 2, _, H3.cell 3, ?_⟩
      have hfit := wf.fits
      have hrm := wf.room
      have hwr : IntKind.wrap .i64 (a.hd.room - a.hd.used) = a.room - total a.fs := wrap_id (by simp only [AD.hd]; omega) (by simp only [AD.hd]; omega)
      refine Sif_cases (fun g => ?_) fun g => ?_
      · have g' : (l.length : Int) > a.room - total a.fs := by
          rw [hln]
          have := of_decide_eq_true g
          rw [← hwr]; exact this
        exact leave 190 _ (H3.ch0 (Ch.drew w3)) (hc3.new (Ch.drew w3)) (by rw [happ, if_neg hne, if_pos g'])
      · have g' : ¬ (l.length : Int) > a.room - total a.fs := by
          rw [hln]
          have := of_decide_eq_false g
          rw [← hwr]; exact this
        have H3d : DR w3.drew d r { a.hd with lk := 1 } L := H3.ch0 (Ch.drew w3)
        have hc3d : Ch (· ∈ blocks d r L) w w3.drew := hc3.new (Ch.drew w3)
        refine Sif_cases (fun g2 => ?_) fun g2 => ?_
        · have h191 : e = 191 := by simpa using g2
          obtain ⟨_, hnone⟩ := he191 h191
          refine newB_blk fun w4 b4 c4 z4 => ?_
          refine ⟨_, (H3d.ch0 c4).cell 4, ?_⟩
          refine newFile_ok (H3d.ch0 c4) b4 (fun hm => by have := H3d.lt _ hm; omega) hnone fun w5 H5 c5 => ?_
          have hmore : a.more n = { a with fs := ⟨n, [], 0⟩ :: a.fs } := by unfold AD.more; rw [← he, if_pos h191]
          refine ⟨_, L, rfl, H5, rfl, ?_, (hc3d.new c4).more c5 in_r, fun k hk => ?_, hne, g', ?_⟩
          · rw [hmore, List.map_cons, hL]
          · rcases mem_blocks.1 hk with e | e | ⟨y, hy, hyb⟩
            · exact .inl (in_d k e)
            · exact .inl (in_r k e)
            · rcases List.mem_cons.1 hy with rfl | hy
              · simp only [PF.bl, Option.toList_none, List.mem_singleton] at hyb
                right; have := hc3d.size; omega
              · exact .inl (mem_blocks.2 (.inr (.inr ⟨y, hy, hyb⟩)))
          · have hnok : nameOk n = true := by
              rcases a.err_cases n with h | h | ⟨_, h, _⟩ | ⟨h, _⟩
              · omega
              · omega
              · exact h
              · omega
            rw [hmore]
            refine ⟨fun f hf => ?_, by show (total (_ :: a.fs) : Int) ≤ _; rw [total_cons]; simpa using hfit, wf.room, wf.acts1, wf.acts2, fun f hf => ?_⟩
            · rcases List.mem_cons.1 hf with rfl | hf
              · simp
              · exact wf.safe f hf
            · rcases List.mem_cons.1 hf with rfl | hf
              · exact hnok
              · exact wf.names f hf
        · have h191 : ¬ e = 191 := by simpa using g2
          have he0' : e = 0 := by
            rcases a.err_cases n with h | h | ⟨h, _⟩ | ⟨h, _⟩ <;> omega
          obtain ⟨x, hx, hxn, rfl⟩ := he0 he0'
          obtain ⟨l1, l2, hsp⟩ := List.append_of_mem hx
          have hpm : L.Perm (x :: (l1 ++ l2)) := hsp ▸ List.perm_middle
          have hmore : a.more n = a := by unfold AD.more; rw [← he, if_neg h191]
          refine ⟨x, l1 ++ l2, rfl, H3d.perm hpm, hxn, ?_, hc3d, fun k hk => .inl (blocks_sub (fun y hy => hpm.mem_iff.2 hy) k hk), hne, g', by rw [hmore]; exact wf⟩
          rw [hmore, ← hL]
          exact (hpm.map _).symm
    · have : e = 3 := by simpa using g3
      exact leave e w3 H3 hc3 (by rw [happ, if_pos (.inl this)])
end Go.Proofs.Ytncbmfinndcojaa
