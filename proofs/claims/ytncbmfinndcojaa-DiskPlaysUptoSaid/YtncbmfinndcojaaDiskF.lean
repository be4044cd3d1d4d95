/-
  Sync, Delete, Read do what is said.
-/
import Derived.Test.YtncbmfinndcojaaDiskE
namespace Go.Proofs.Ytncbmfinndcojaa
open Go Go.Sv Go.MapKept
set_option linter.unusedVariables false
set_option maxRecDepth 4000

theorem callV_unit {P : Program} {f : FuncId} {cap : Array Value} {w : World} {K : Value → World → Prop} (ho : okCall P f = true) (h : callP P f cap.toList w fun v w' => v = .tuple #[] ∧ K v w') : callV P (RSh.tup []) (.func (.func f) #[] cap) [] w K := by
  refine ⟨ho, ?_⟩
  show callP P f _ w _
  refine callP_mono h fun v w' ⟨h1, h2⟩ => ?_
  subst h1
  exact ⟨rfl, h2⟩
theorem upd_perm {L R : List PF} {x : PF} {n : ByteArray} {g : File → File} (hp : L.Perm (x :: R)) (hn : (L.map fun x => x.f.name).Nodup) (hx : x.f.name = n) :
    (g x.f :: R.map (·.f)).Perm ((L.map (·.f)).map fun f => if f.name = n then g f else f) := by
  have h1 := (hp.map (·.f)).map fun f => if f.name = n then g f else f
  refine List.Perm.trans ?_ h1.symm
  simp only [List.map_cons, hx, if_true]
  refine List.Perm.cons _ (.of_eq ?_)
  have h2 : ((x :: R).map fun x => x.f.name).Nodup := (hp.map _).nodup_iff.1 hn
  simp only [List.map_cons] at h2
  rw [List.map_map]
  apply List.map_congr_left
  intro z hz
  have : z.f.name ≠ n := fun e => (List.nodup_cons.1 h2).1 (by rw [hx, ← e]; exact List.mem_map.2 ⟨z, hz, rfl⟩)
  simp [this]
theorem WF.upd {a : AD} (wf : WF a) {n : ByteArray} {g : File → File} (hg : ∀ f ∈ a.fs, f.name = n → (g f).name = f.name ∧ (g f).safe ≤ (g f).dat.length) (ht : (total (a.upd n g).fs : Int) ≤ a.room) : WF (a.upd n g) := by
  refine ⟨fun f hf => ?_, ht, wf.room, wf.acts1, wf.acts2, fun f hf => ?_⟩ <;>
  · obtain ⟨z, hz, rfl⟩ := List.mem_map.1 hf
    by_cases h : z.name = n
    · simp only [h, if_true]
      first | exact (hg z hz h).2 | (rw [(hg z hz h).1]; exact wf.names z hz)
    · simp only [h, if_false]
      first | exact wf.safe z hz | exact wf.names z hz
theorem total_upd {fs : List File} {n : ByteArray} {g : File → File} (hg : ∀ f, (g f).dat.length = f.dat.length) : total (fs.map fun f => if f.name = n then g f else f) = total fs := by
  induction fs with
  | nil => rfl
  | cons f fs ih =>
    rw [List.map_cons, total_cons, total_cons, ih]
    split
    · rw [hg]
    · rfl
theorem ok_of_err {a : AD} {n : ByteArray} {ns : List ByteArray} (h : a.err ns n = 0) : a.down = false ∧ ns.all nameOk = true ∧ a.has n = true := by
  unfold AD.err at h
  split at h
  · omega
  · split at h
    · omega
    · split at h
      · omega
      · simp_all

theorem sync_ok {w : World} {d : Nat} {a : AD} {B : Nat → Prop} {n : ByteArray} {K : Value → World → Prop} (D : DK w d a B) (hs : n.size ≤ 9223372036854775807) (hk : Post w d (a.sync n).2 B (K (.int .i64 (a.sync n).1))) :
    callP Try.prog 27 [.pointer (some ⟨d, 0, none⟩), .string n] w K := by
  obtain ⟨wf, r, L, H, hL, rfl⟩ := D
  have htot := wf.tot
  refine ok_disk_Disk_Sync ?_
  unfold wp_disk_Disk_Sync
  simp only [nn_some, add_at]
  refine H.lock rfl fun w1 H1 c1 z1 => ⟨rfl, ?_⟩
  refine newB_blk fun w2 b2 c2 z2 => ?_
  refine of_ok (H1.ch0 c2) (ns := [n]) rfl (one_rd b2) (fun s hs' => by simp at hs'; subst hs'; exact hs) (by simp) fun q e w3 c3 z3 ho => ?_
  obtain ⟨he, he0, _⟩ := ofR_err (a := a) rfl hL ho
  refine ⟨q, e, rfl, newB_blk fun w4 b4 c4 z4 => ?_⟩
  simp only [add_at]
  refine st_blk b4 (by simp) fun w5 b5 c5 z5 => ?_
  have hlt := H.lt
  have hw1 : w.heap.size ≤ w1.heap.size := c1.size
  have hw2 : w1.heap.size ≤ w2.heap.size := c2.size
  have hw3 : w2.heap.size ≤ w3.heap.size := c3.size
  have hc5 : Ch (· ∈ blocks d r L) w w5 := ((((c1.mono fun x _ hx => by simp [blocks, hx]).trans c2 fun _ _ hx => hx.elim).trans c3 fun _ _ hx => hx.elim).trans c4 fun _ _ hx => hx.elim).trans c5 fun x hx e => by omega
  have H5 : DR w5 d r { a.hd with lk := 1 } L := (((H1.ch0 c2).ch0 c3).ch0 c4).ch c5 fun b hb e => by have := hlt b hb; omega
  refine Sif_cases (fun g => ?_) fun g => ?_
  · have g' : e ≠ 0 := by simpa using g
    have hsy : a.sync n = (e, a) := by unfold AD.sync; rw [← he, if_pos g']
    rw [hsy] at hk
    refine H5.unlock rfl fun w6 H6 c6 z6 => ?_
    exact hk w6 _ (DK.of H6 rfl (by rw [hL]) wf) (hc5.trans c6 fun x _ hx => by simp [blocks, hx]) fun b hb => .inl hb
  · have g' : e = 0 := by simpa using g
    have hsy : a.sync n = a.done fun a => a.upd n sealF := by unfold AD.sync; rw [← he, if_neg (by omega)]
    rw [hsy] at hk
    obtain ⟨x, hx, hxn, rfl⟩ := he0 g'
    refine done_ok H5 (fun x hx => wf.safe x.f (hL ▸ List.mem_map.2 ⟨x, hx, rfl⟩)) (by rw [hL]; omega) wf.acts1 wf.acts2 (fun ha L' w' H' hp c6 hbl => ⟨3, rfl, ?_⟩) fun ha w' H' c6 z6 => ?_
    · have ha' : a.acts = 0 := ha
      unfold AD.done at hk
      rw [if_pos ha'] at hk
      rw [hL] at hp
      refine H'.unlock rfl fun w7 H7 c7 z7 => ?_
      exact hk w7 _ (DK.of H7 (by simp only [AD.hd, AD.fall]; rw [total_perm hp]; rfl) hp (wf.fall a.keep)) ((hc5.trans c6 fun _ _ hx => hx).trans c7 fun x _ hx => by simp [blocks, hx]) fun b hb => (hbl b hb).imp id fun h => by have := hc5.size; omega
    · have ha' : a.acts ≠ 0 := ha
      unfold AD.done at hk
      rw [if_neg ha'] at hk
      refine callV_unit (by kernel_rfl) (ok_disk_Disk_Sync_1 ?_)
      unfold wp_disk_Disk_Sync_1
      simp only [nn_some, add_at, World.cell?_drew]
      have b6 : blk w' w3.heap.size = some [.pointer (some ⟨x.b, 0, none⟩)] := by
        rw [c6.blk (blk_lt b5) fun e => by have := hlt d (by simp [blocks]); omega]; exact b5
      refine ⟨_, by rw [cell_blk b6]; rfl, _, by rw [cell_blk b6]; rfl, ?_⟩
      simp only [nn_some, add_at, World.cell?_drew]
      obtain ⟨l1, l2, hsp⟩ := List.append_of_mem hx
      have hpm : L.Perm (x :: (l1 ++ l2)) := hsp ▸ List.perm_middle
      have H6 : DR w'.drew d r _ (x :: (l1 ++ l2)) := (H'.ch0 (Ch.drew w')).perm hpm
      have hg := H6.files x (by simp)
      refine ⟨x.p, x.f.dat.length, x.c, by rw [← World.cell?_drew, cell_blk hg.1]; rfl, ?_⟩
      refine st_blk hg.1 (by simp) fun w7 b7 c7 z7 => ⟨trivial, 0, rfl, ?_⟩
      have hone : ∀ k, x.own = some k → k ≠ x.b := fun k hk e => by
        have := H6.nodup
        simp only [blocks, List.flatMap_cons, PF.bl, hk, Option.toList_some] at this
        simp [e] at this
      have H7 : DR w7 d r _ ({ x with f := sealF x.f } :: (l1 ++ l2)) := H6.repl rfl rfl ⟨by rw [b7]; rfl, hg.2.ch c7 hone⟩ (c7.mono fun k _ hk => by simp [PF.bl, hk]) fun k hk => .inl hk
      refine H7.unlock rfl fun w8 H8 c8 z8 => ?_
      have hup := upd_perm (g := sealF) hpm H.names hxn
      rw [hL] at hup
      have hwf : WF (a.act.upd n sealF) := wf.act.upd (fun f _ _ => ⟨rfl, Nat.le_refl _⟩) (by
        show (total (a.fs.map _) : Int) ≤ _
        rw [total_upd (g := sealF) fun _ => rfl]; exact wf.fits)
      have hc6 : Ch (· ∈ blocks d r L) w w'.drew := (hc5.trans c6 fun x _ hx => by simp [blocks, hx]).trans (Ch.drew (S := fun _ => False) w') fun _ _ hx => hx.elim
      have hc7 : Ch (· ∈ blocks d r L) w w7 := hc6.trans c7 fun k _ hk => by subst hk; exact mem_blocks.2 (.inr (.inr ⟨x, hx, by simp [PF.bl]⟩))
      have hc8 : Ch (· ∈ blocks d r L) w w8 := hc7.trans c8 fun k _ hk => by simp [blocks, hk]
      refine hk w8 _ (DK.of H8 (by
        simp only [AD.hd, AD.upd, AD.act]; rw [total_upd (g := sealF) fun _ => rfl]) hup hwf) hc8 fun b hb => ?_
      left
      rcases mem_blocks.1 hb with e | e | ⟨y, hy, hyb⟩
      · simp [blocks, e]
      · simp [blocks, e]
      · refine mem_blocks.2 (.inr (.inr ?_))
        rcases List.mem_cons.1 hy with rfl | hy
        · exact ⟨x, hx, hyb⟩
        · exact ⟨y, hpm.mem_iff.2 (List.mem_cons_of_mem _ hy), hyb⟩
end Go.Proofs.Ytncbmfinndcojaa
