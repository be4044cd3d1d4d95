/-
  Delete and Read do what is said.
-/
import Derived.Test.YtncbmfinndcojaaDiskF
namespace Go.Proofs.Ytncbmfinndcojaa
open Go Go.Sv Go.MapKept
set_option linter.unusedVariables false
set_option maxRecDepth 4000

theorem in_d {d r : Nat} {L : List PF} : ∀ x, x = d → x ∈ blocks d r L := fun x h => by simp [blocks, h]
theorem in_r {d r : Nat} {L : List PF} : ∀ x, x = r → x ∈ blocks d r L := fun x h => by simp [blocks, h]
theorem blocks_sub {d r : Nat} {L L' : List PF} (h : ∀ x ∈ L', x ∈ L) : ∀ b ∈ blocks d r L', b ∈ blocks d r L := fun b hb => by
  rcases mem_blocks.1 hb with e | e | ⟨y, hy, hyb⟩
  · exact mem_blocks.2 (.inl e)
  · exact mem_blocks.2 (.inr (.inl e))
  · exact mem_blocks.2 (.inr (.inr ⟨y, h y hy, hyb⟩))
set_option maxHeartbeats 1000000 in
theorem delete_ok {w : World} {d : Nat} {a : AD} {B : Nat → Prop} {n : ByteArray} {K : Value → World → Prop} (D : DK w d a B) (hs : n.size ≤ 9223372036854775807) (hk : Post w d (a.delete n).2 B (K (.int .i64 (a.delete n).1))) :
    callP Try.prog 36 [.pointer (some ⟨d, 0, none⟩), .string n] w K := by
  obtain ⟨wf, r, L, H, hL, rfl⟩ := D
  have htot := wf.tot
  have hlt := H.lt
  have hdlt : d < w.heap.size := hlt d (by simp [blocks])
  refine ok_disk_Disk_Delete ?_
  unfold wp_disk_Disk_Delete
  refine newB_blk fun v1 p1 e1 y1 => newB_blk fun v2 p2 e2 y2 => ?_
  have p1' : blk v2 w.heap.size = some [.pointer (some ⟨d, 0, none⟩)] := by rw [e2.blk (blk_lt p1) id]; exact p1
  refine ⟨some ⟨d, 0, none⟩, by rw [cell_blk p1']; rfl, ?_⟩
  simp only [nn_some, add_at]
  refine ((H.ch0 e1).ch0 e2).lock rfl fun w1 H1 c1 z1 => ⟨rfl, ?_⟩
  have pa1 : blk w1 w.heap.size = some [.pointer (some ⟨d, 0, none⟩)] := by rw [c1.blk (blk_lt p1') (by omega)]; exact p1'
  have pn1 : blk w1 v1.heap.size = some [.string n] := by rw [c1.blk (blk_lt p2) (by omega)]; exact p2
  refine ⟨some ⟨d, 0, none⟩, by rw [cell_blk pa1]; rfl, ?_⟩
  simp only [nn_some, add_at]
  refine ⟨some ⟨d, 0, none⟩, by rw [cell_blk pa1]; rfl, n, by rw [cell_blk pn1]; rfl, newB_blk fun w2 b2 c2 z2 => ?_⟩
  refine of_ok (H1.ch0 c2) (ns := [n]) rfl (one_rd b2) (fun s hs' => by simp at hs'; subst hs'; exact hs) (by simp) fun q e w3 c3 z3 ho => ?_
  obtain ⟨he, he0, _⟩ := ofR_err (a := a) rfl hL ho
  have hc1 : Ch (· ∈ blocks d r L) w w1 := ((e1.mono fun _ _ h => h.elim).new e2).more c1 in_d
  have hc3 : Ch (· ∈ blocks d r L) w w3 := (hc1.new c2).new c3
  have H3 : DR w3 d r { a.hd with lk := 1 } L := (H1.ch0 c2).ch0 c3
  have pa3 : blk w3 w.heap.size = some [.pointer (some ⟨d, 0, none⟩)] := by rw [(c2.new c3).blk (blk_lt pa1) id]; exact pa1
  have pn3 : blk w3 v1.heap.size = some [.string n] := by rw [(c2.new c3).blk (blk_lt pn1) id]; exact pn1
  refine ⟨q, e, rfl, Sif_cases (fun g => ?_) fun g => ?_⟩
  · have g' : e ≠ 0 := by simpa using g
    have hsy : a.delete n = (e, a) := by unfold AD.delete; rw [← he, if_pos g']
    rw [hsy] at hk
    refine H3.unlock rfl fun w6 H6 c6 z6 => ?_
    exact hk w6 _ (DK.of H6 rfl (by rw [hL]) wf) (hc3.more c6 in_d) fun b hb => .inl hb
  · have g' : e = 0 := by simpa using g
    have hsy : a.delete n = a.done fun a => a.gone n := by unfold AD.delete; rw [← he, if_neg (by omega)]
    rw [hsy] at hk
    refine ⟨some ⟨d, 0, none⟩, by rw [cell_blk pa3]; rfl, ?_⟩
    refine done_ok H3 (fun x hx => wf.safe x.f (hL ▸ List.mem_map.2 ⟨x, hx, rfl⟩)) (by rw [hL]; omega) wf.acts1 wf.acts2 (fun ha L' w' H' hp c6 hbl => ⟨3, rfl, ?_⟩) fun ha w' H' c6 z6 => ?_
    · have ha' : a.acts = 0 := ha
      unfold AD.done at hk
      rw [if_pos ha'] at hk
      rw [hL] at hp
      refine H'.unlock rfl fun w7 H7 c7 z7 => ?_
      exact hk w7 _ (DK.of H7 (by simp only [AD.hd, AD.fall]; rw [total_perm hp]; rfl) hp (wf.fall a.keep)) ((hc3.more c6 fun _ hx => hx).more c7 in_d) fun b hb => (hbl b hb).imp id fun h => by have := hc3.size; omega
    · have ha' : a.acts ≠ 0 := ha
      unfold AD.done at hk
      rw [if_neg ha'] at hk
      refine callV_unit (by kernel_rfl) (ok_disk_Disk_Delete_1 ?_)
      unfold wp_disk_Disk_Delete_1
      have pa6 : blk w' w.heap.size = some [.pointer (some ⟨d, 0, none⟩)] := by rw [c6.blk (blk_lt pa3) (by omega)]; exact pa3
      have pn6 : blk w' v1.heap.size = some [.string n] := by rw [c6.blk (blk_lt pn3) (by omega)]; exact pn3
      simp only [nn_some]
      refine ⟨_, by rw [cell_blk pa6]; rfl, _, by rw [cell_blk pn6]; rfl, ?_⟩
      refine gone_ok H' (by rw [hL]; rfl) (by rw [hL]; omega) fun L' w7 H7 hf hsub c7 => ⟨rfl, trivial, 0, rfl, ?_⟩
      refine H7.unlock rfl fun w8 H8 c8 z8 => ?_
      rw [hL] at hf
      refine hk w8 _ (DK.of H8 (by simp only [AD.hd, AD.gone, AD.act]; rw [hf]) (.of_eq hf) (wf.act.gone n)) (((hc3.more c6 in_d).more c7 fun x hx => hx.elim (in_d x) (in_r x)).more c8 in_d) fun b hb => .inl (blocks_sub hsub b hb)
/-- reading: the file's bytes in memory of their own -/
theorem read_ok {w : World} {d : Nat} {a : AD} {B : Nat → Prop} {n : ByteArray} {K : Value → World → Prop} (D : DK w d a B) (hs : n.size ≤ 9223372036854775807)
    (hk : ∀ p c b, let l := if a.err [n] n = 0 then a.get n else []
      ∀ w' B', DK w' d a B' → Ch B w w' → (∀ b, B' b → B b) → Ow w' p l.length c 1 (bytesV l) b → (∀ k, b = some k → w.heap.size ≤ k) → K (.tuple #[.slice p l.length c, .int .i64 (a.err [n] n)]) w') :
    callP Try.prog 30 [.pointer (some ⟨d, 0, none⟩), .string n] w K := by
  obtain ⟨wf, r, L, H, hL, rfl⟩ := D
  have htot := wf.tot
  have hlt := H.lt
  refine ok_disk_Disk_Read ?_
  unfold wp_disk_Disk_Read
  simp only [nn_some, add_at]
  refine H.lock rfl fun w1 H1 c1 z1 => ⟨rfl, newB_blk fun w2 b2 c2 z2 => ?_⟩
  refine of_ok (H1.ch0 c2) (ns := [n]) rfl (one_rd b2) (fun s hs' => by simp at hs'; subst hs'; exact hs) (by simp) fun q e w3 c3 z3 ho => ?_
  obtain ⟨he, he0, _⟩ := ofR_err (a := a) rfl hL ho
  have hc3 : Ch (· ∈ blocks d r L) w w3 := ((c1.mono fun x _ hx => in_d x hx).new c2).new c3
  have H3 : DR w3 d r { a.hd with lk := 1 } L := (H1.ch0 c2).ch0 c3
  refine ⟨q, e, rfl, Sif_cases (fun g => ?_) fun g => ?_⟩
  · have g' : e ≠ 0 := by simpa using g
    rw [he] at g'
    refine H3.unlock rfl fun w6 H6 c6 z6 => ?_
    have := hk none 0 none
    simp only [if_neg g'] at this
    rw [he]
    exact this w6 _ (DK.of H6 rfl (by rw [hL]) wf) (hc3.more c6 in_d) (fun b hb => hb) ⟨rfl, Nat.le_refl _, .inl ⟨rfl, rfl⟩⟩ fun k hk => by cases hk
  · have g' : e = 0 := by simpa using g
    obtain ⟨x, hx, hxn, rfl⟩ := he0 g'
    simp only [nn_some, add_at]
    have hg := H3.files x hx
    have hxf : x.f ∈ a.fs := hL ▸ List.mem_map.2 ⟨x, hx, rfl⟩
    have hget : a.get n = x.f.dat := by
      have hnm : (a.fs.map (·.name)).Nodup := by rw [← hL, List.map_map]; exact H.names
      unfold AD.get
      cases hf : a.fs.find? fun f => decide (f.name = n) with
      | none => exact absurd (List.find?_eq_none.1 hf x.f hxf) (by simp [hxn])
      | some f =>
        have h1 : f.name = n := by simpa using List.find?_some hf
        have h2 := List.mem_of_find?_eq_some hf
        have : f = x.f := by
          exact inj_of_nodup hnm h2 hxf (h1.trans hxn.symm)
        simp [this]
    refine ⟨x.p, x.f.dat.length, x.c, by rw [cell_blk hg.1]; rfl, clone_ok hg.2.rd (by have := dat_le_total hxf; omega) fun p4 c4 w4 b4 o4 f4 e4 => ⟨p4, _, c4, rfl, ?_⟩⟩
    refine (H3.ch0 e4).unlock rfl fun w6 H6 c6 z6 => ?_
    have := hk p4 c4 b4
    simp only [if_pos (he ▸ g' : a.err [n] n = 0)] at this
    rw [show (0 : Int) = a.err [n] n by rw [← he, g']]
    rw [hget] at this
    refine this w6 _ (DK.of H6 rfl (by rw [hL]) wf) ((hc3.new e4).more c6 in_d) (fun b hb => hb) (o4.ch c6 fun k hk e => ?_) fun k hk => ?_
    · have := f4 k hk
      have := hlt d (by simp [blocks])
      have := hc3.size
      omega
    · have := f4 k hk
      have := hc3.size
      omega
end Go.Proofs.Ytncbmfinndcojaa
