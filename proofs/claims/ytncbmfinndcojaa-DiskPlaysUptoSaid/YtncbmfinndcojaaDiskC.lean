/-
  The disk's fall: what does not last is lost; a file that goes away.
-/
import Derived.Test.YtncbmfinndcojaaDiskB
namespace Go.Proofs.Ytncbmfinndcojaa
open Go Go.Sv Go.MapKept
set_option linter.unusedVariables false

theorem Ow.lt' {w : World} {p : Option Addr} {n c sz : Nat} {xs : List Value} {b : Option Nat} (h : Ow w p n c sz xs b) : ∀ k, b = some k → k < w.heap.size := by
  intro k hk; subst hk; exact h.lt
/-- one file is put in another's place in memory -/
theorem DR.repl {w w' : World} {d r : Nat} {h : Hd} {x y : PF} {R : List PF} (H : DR w d r h (x :: R)) (hb : y.b = x.b) (hn : y.f.name = x.f.name) (hg : y.good w') (hc : Ch (fun k => k ∈ x.bl) w w')
    (hnew : ∀ k, y.own = some k → x.own = some k ∨ w.heap.size ≤ k) : DR w' d r h (y :: R) := by
  have hnd := H.nodup
  have hlt := H.lt
  have hxr : ∀ k, k ∈ x.bl → k ≠ d ∧ k ≠ r ∧ ∀ z ∈ R, k ∉ z.bl := by
    intro k hk
    simp only [blocks, List.flatMap_cons] at hnd
    obtain ⟨n1, n2⟩ := List.nodup_cons.1 hnd
    obtain ⟨n3, n4⟩ := List.nodup_cons.1 n2
    obtain ⟨n5, n6, n7⟩ := List.nodup_append.1 n4
    refine ⟨fun e => n1 (by rw [← e]; simp [hk]), fun e => n3 (by rw [← e]; simp [hk]), fun z hz hkz => n7 k hk k (List.mem_flatMap.2 ⟨z, hz, hkz⟩) rfl⟩
  refine ⟨?_, ?_, ?_, ?_⟩
  · rw [hc.blk (blk_lt H.head) fun e => (hxr d e).1 rfl]; exact H.head
  · obtain ⟨m, hm, hp⟩ := H.map
    refine ⟨m, hm.ch hc fun e => (hxr r e).2.1 rfl, ?_⟩
    have : (y :: R).map PF.pair = (x :: R).map PF.pair := by simp [PF.pair, hb, hn]
    rw [this]; exact hp
  · intro z hz
    rcases List.mem_cons.1 hz with rfl | hz
    · exact hg
    · exact (H.files z (List.mem_cons_of_mem _ hz)).ch hc fun k hk hkx => (hxr k hkx).2.2 z hz hk
  · simp only [blocks, List.flatMap_cons] at hnd ⊢
    obtain ⟨n1, n2⟩ := List.nodup_cons.1 hnd
    obtain ⟨n3, n4⟩ := List.nodup_cons.1 n2
    obtain ⟨n5, n6, n7⟩ := List.nodup_append.1 n4
    have old : ∀ k ∈ y.bl, k ∈ x.bl ∨ w.heap.size ≤ k := by
      intro k hk
      simp only [PF.bl, List.mem_cons, Option.mem_toList, Option.mem_def] at hk ⊢
      rcases hk with rfl | hk
      · exact .inl (.inl hb)
      · exact (hnew k hk).imp .inr id
    have hd : d < w.heap.size := blk_lt H.head
    have hr : r < w.heap.size := hlt r (by simp [blocks])
    have hR : ∀ k ∈ R.flatMap PF.bl, k < w.heap.size := fun k hk => hlt k (by simp only [blocks, List.flatMap_cons]; simp; exact .inr (.inr (.inr (by simpa [List.mem_flatMap] using hk))))
    have hyn : y.bl.Nodup := by
      have hxb : x.b < w.heap.size := hlt x.b (mem_blocks.2 (.inr (.inr ⟨x, by simp, by simp [PF.bl]⟩)))
      simp only [PF.bl]
      cases ho : y.own with
      | none => simp
      | some k =>
        simp only [Option.toList_some, List.nodup_cons, List.mem_singleton, List.not_mem_nil, not_false_eq_true, List.nodup_nil, and_true, hb]
        intro e
        rcases hnew k ho with h1 | h1
        · simp [PF.bl, h1] at n5; exact n5 e
        · omega
    refine List.nodup_cons.2 ⟨?_, List.nodup_cons.2 ⟨?_, List.nodup_append.2 ⟨hyn, n6, ?_⟩⟩⟩
    · intro hm
      rcases List.mem_cons.1 hm with e | hm
      · exact n1 (by rw [e]; simp)
      rcases List.mem_append.1 hm with hm | hm
      · rcases old d hm with hm | hm
        · exact (hxr d hm).1 rfl
        · omega
      · exact n1 (by simp only [List.mem_cons, List.mem_append]; exact .inr (.inr hm))
    · intro hm
      rcases List.mem_append.1 hm with hm | hm
      · rcases old r hm with hm | hm
        · exact (hxr r hm).2.1 rfl
        · omega
      · exact n3 (List.mem_append.2 (.inr hm))
    · intro k hk j hj e
      subst e
      rcases old k hk with hk | hk
      · exact n7 k hk k hj rfl
      · have := hR k hj; omega

def nCut (f : File) (keep : Int) : Nat := min f.dat.length (f.safe + min keep.toNat f.dat.length)
def cutF (keep : Int) (f : File) : File := { f with dat := f.dat.take (nCut f keep), safe := nCut f keep }
theorem nCut_le (f : File) (keep : Int) : nCut f keep ≤ f.dat.length := Nat.min_le_left _ _
def total (L : List File) : Nat := (L.map fun f => f.dat.length).sum
theorem total_cons (f : File) (L : List File) : total (f :: L) = f.dat.length + total L := by simp [total]
theorem total_perm {L L' : List File} (h : L.Perm L') : total L = total L' := (h.map _).sum_nat
theorem dat_le_total {L : List File} {f : File} (h : f ∈ L) : f.dat.length ≤ total L := by
  induction L with
  | nil => cases h
  | cons g L ih =>
    rw [total_cons]
    rcases List.mem_cons.1 h with rfl | h
    · omega
    · have := ih h; omega
theorem Rd.take {w : World} {p : Option Addr} {n : Nat} {l : List UInt8} (h : Rd w p n 1 (bytesV l)) {k : Nat} (hk : k ≤ n) : Rd w p k 1 (bytesV (l.take k)) := by
  obtain ⟨h1, h2⟩ := h
  have hl : l.length = n := by simpa using h1
  refine ⟨by simp; omega, ?_⟩
  rcases h2 with h2 | ⟨b, o, cs, hp, hc, hle, ht⟩
  · left; omega
  · right
    refine ⟨b, o, cs, hp, hc, by omega, ?_⟩
    rw [bytesV_take, ← ht, List.take_take, Nat.mul_one, Nat.mul_one, Nat.min_eq_left hk]
set_option maxHeartbeats 1000000 in
theorem fall_ok {w : World} {d r : Nat} {h : Hd} {L : List PF} {keep : Int} {K : Value → World → Prop} (H : DR w d r h L) (wf : ∀ x ∈ L, x.f.safe ≤ x.f.dat.length) (ht : total (L.map (·.f)) ≤ 2 ^ 40)
    (hk : ∀ L' w', DR w' d r { h with used := total (L'.map (·.f)), down := true, acts := -1 } L' → (L'.map (·.f)).Perm ((L.map (·.f)).map (cutF keep)) → Ch (· ∈ blocks d r L) w w' →
      (∀ b ∈ blocks d r L', b ∈ blocks d r L ∨ w.heap.size ≤ b) → K (.tuple #[]) w') :
    callP Try.prog 56 [.pointer (some ⟨d, 0, none⟩), .int .i64 keep] w K := by
  refine ok_disk_Disk_fall ?_
  unfold wp_disk_Disk_fall
  simp only [nn_some, add_at]
  refine H.st (h' := { h with used := 0 }) (by omega) rfl fun w1 H1 c1 z1 => ⟨some r, H1.cell 4, ?_⟩
  obtain ⟨m0, hm0, hp0⟩ := H1.map
  obtain ⟨w2, hr2, hit2, c2, z2⟩ := range_run (t := 66) Try.underlying66 hm0
  refine ⟨some ⟨w1.heap.size, 0, none⟩, w2, hr2, ?_⟩
  have hdL : ∀ b, b = d → b ∈ blocks d r L := fun b e => by simp [blocks, e]
  refine ⟨fun m w3 => ∃ (D T : List PF) (D0 : List File) (left : List (Value × Value)), m = left.length ∧ It .string w3 w1.heap.size r m0 left ∧ left.Perm (T.map PF.pair) ∧ DR w3 d r { h with used := total (D.map (·.f)) } (D ++ T) ∧
    (L.map (·.f)).Perm (D0 ++ T.map (·.f)) ∧ D.map (·.f) = D0.map (cutF keep) ∧ total (D.map (·.f)) + total (T.map (·.f)) ≤ total (L.map (·.f)) ∧ (∀ b ∈ blocks d r (D ++ T), b ∈ blocks d r L ∨ (w.heap.size ≤ b ∧ b ≠ w1.heap.size)) ∧ Ch (· ∈ blocks d r L) w w3, ?_, ?_⟩
  · exact ⟨_, [], L, [], m0, rfl, hit2, hp0, H1.ch0 c2, by simp, rfl, by simp [total], fun b hb => .inl hb, (c1.mono fun x _ hx => hdL x hx).trans c2 fun _ _ hx => hx.elim⟩
  rintro m w3 ⟨D, T, D0, left, hm, hit, hleft, H3, hL, hD, htot, hbl, c3⟩
  have hw13 : w1.heap.size < w3.heap.size := hit.lt
  rcases next_run (P := Try.prog) (ty := 0) hit with ⟨he, hn⟩ | ⟨k, v, l1, l2, w4, he, _, hn, hent, hit4, c4, z4⟩
  · left
    refine ⟨w3, hn, ?_⟩
    have hT : T = [] := by
      subst he
      have := hleft.length_eq
      simpa using this.symm
    subst hT
    simp only [List.append_nil] at H3 hbl
    refine H3.st (h' := { h with used := total (D.map (·.f)), down := true }) (by omega) rfl fun w5 H5 c5 z5 => ?_
    refine H5.st (h' := { h with used := total (D.map (·.f)), down := true, acts := -1 }) (by omega) rfl fun w6 H6 c6 z6 => ?_
    refine hk D w6 H6 ?_ ((c3.trans c5 fun x _ hx => hdL x hx).trans c6 fun x _ hx => hdL x hx) fun b hb => (hbl b hb).imp id (·.1)
    rw [hD]
    have h9 := (hL.map (cutF keep)).symm
    simpa using h9
  · right
    -- the pair that comes out is some file's
    have hmem : (k, v) ∈ T.map PF.pair := hleft.mem_iff.1 (by rw [he]; simp)
    obtain ⟨x, hx, hxp⟩ := List.mem_map.1 hmem
    obtain ⟨t1, t2, rfl⟩ := List.append_of_mem hx
    simp only [PF.pair, Prod.mk.injEq] at hxp
    obtain ⟨rfl, rfl⟩ := hxp
    have hTp : (t1 ++ x :: t2).Perm (x :: (t1 ++ t2)) := List.perm_middle
    have hleft' : (l1 ++ l2).Perm ((t1 ++ t2).map PF.pair) := by
      have h1 : (PF.pair x :: (l1 ++ l2)).Perm (PF.pair x :: (t1 ++ t2).map PF.pair) := by
        refine (List.perm_middle.symm.trans ?_).trans (hTp.map PF.pair)
        have he' : left = l1 ++ x.pair :: l2 := he
        rw [← he']; exact hleft
      exact h1.cons_inv
    have H3' : DR w3 d r { h with used := total (D.map (·.f)) } (x :: (D ++ (t1 ++ t2))) := H3.perm (by
      refine (List.Perm.append_left D hTp).trans List.perm_middle)
    have hnit : w1.heap.size ∉ blocks d r (x :: (D ++ (t1 ++ t2))) := fun hb => by
      have hb' : w1.heap.size ∈ blocks d r (D ++ (t1 ++ x :: t2)) := by
        rcases mem_blocks.1 hb with e | e | ⟨y, hy, hyb⟩
        · exact mem_blocks.2 (.inl e)
        · exact mem_blocks.2 (.inr (.inl e))
        · exact mem_blocks.2 (.inr (.inr ⟨y, by simp at hy ⊢; rcases hy with hy | hy | hy | hy <;> simp [hy], hyb⟩))
      rcases hbl _ hb' with hb | hb
      · have := H.lt _ hb; omega
      · exact hb.2 rfl
    have H4 : DR w4 d r { h with used := total (D.map (·.f)) } (x :: (D ++ (t1 ++ t2))) := H3'.ch c4 fun b hb e => hnit (e ▸ hb)
    have H4' : DR w4.drew d r { h with used := total (D.map (·.f)) } (x :: (D ++ (t1 ++ t2))) := H4.ch0 (Ch.drew w4)
    refine ⟨.string x.f.name, .pointer (some ⟨x.b, 0, none⟩), w4, hn, .string x.f.name, .pointer (some ⟨x.b, 0, none⟩), hent, ?_⟩
    unfold asPtrV
    have hg := H4'.files x (by simp)
    have hxf : x.f ∈ L.map (·.f) := hL.mem_iff.2 (by simp)
    have hsafe : x.f.safe ≤ x.f.dat.length := by
      obtain ⟨y, hy, hyf⟩ := List.mem_map.1 hxf
      rw [← hyf]; exact wf y hy
    have hdl := dat_le_total hxf
    have hcut := nCut_le x.f keep
    have htT : total ((t1 ++ x :: t2).map (·.f)) = x.f.dat.length + total ((t1 ++ t2).map (·.f)) := by
      rw [total_perm (hTp.map _), List.map_cons, total_cons]
    have hmin : min (x.f.dat.length : Int) (IntKind.wrap .i64 ((x.f.safe : Int) + min (max keep 0) (x.f.dat.length : Int))) = (nCut x.f keep : Int) := by
      have e1 : min (max keep 0) (x.f.dat.length : Int) = ((min keep.toNat x.f.dat.length : Nat) : Int) := by omega
      rw [e1, wrap_id (by omega) (by omega)]
      unfold nCut; omega
    simp only [nn_some, add_at]
    refine ⟨x.p, x.f.dat.length, x.c, by rw [cell_blk hg.1]; rfl, x.f.safe, by rw [cell_blk hg.1]; rfl, x.p, x.f.dat.length, x.c, by rw [cell_blk hg.1]; rfl, ?_⟩
    rw [nameI_iff, hmin]
    refine ⟨x.p, x.f.dat.length, x.c, by rw [cell_blk hg.1]; rfl, by omega, by have := hg.2.2.1; omega, ?_⟩
    rw [Int.toNat_natCast]
    refine clone_ok (Rd.take hg.2.rd hcut) (by omega) fun p5 c5 w5 b5 ho5 hb5 cc5 => ?_
    refine ⟨p5, nCut x.f keep, c5, rfl, ?_⟩
    have hg5 : blk w5 x.b = some [.slice x.p x.f.dat.length x.c, .int .i64 x.f.safe] := by rw [cc5.blk (blk_lt hg.1) id]; exact hg.1
    have hxlt : x.b < w4.drew.heap.size := blk_lt hg.1
    refine st_blk hg5 (by simp) fun w6 hb6 c6 z6 => ?_
    refine st_blk hb6 (by simp) fun w7 hb7 c7 z7 => ?_
    have hone : ∀ k, b5 = some k → k ≠ x.b := fun k hk e => by have := hb5 k hk; omega
    have H7 : DR w7 d r { h with used := total (D.map (·.f)) } ({ f := cutF keep x.f, b := x.b, p := p5, c := c5, own := b5 } :: (D ++ (t1 ++ t2))) := by
      refine H4'.repl rfl rfl ⟨?_, ?_⟩ ?_ fun k hk => .inr (hb5 k hk)
      · rw [hb7]
        have e1 : (cutF keep x.f).dat.length = nCut x.f keep := by simp [cutF]; omega
        show some _ = some [Value.slice p5 (cutF keep x.f).dat.length c5, .int .i64 (nCut x.f keep)]
        rw [e1]; rfl
      · have e1 : (cutF keep x.f).dat.length = nCut x.f keep := by simp [cutF]; omega
        show Ow w7 p5 (cutF keep x.f).dat.length c5 1 (bytesV (x.f.dat.take (nCut x.f keep))) b5
        rw [e1]
        exact (ho5.ch c6 hone).ch c7 hone
      · exact ((cc5.mono fun _ _ h => h.elim).trans c6 fun k _ hk => by simp [PF.bl, hk]).trans c7 fun k _ hk => by simp [PF.bl, hk]
    refine ⟨_, H7.cell 3, ?_⟩
    have hu : IntKind.wrap .i64 ((total (D.map (·.f)) : Int) + (nCut x.f keep : Int)) = ((total (D.map (·.f)) + nCut x.f keep : Nat) : Int) := by
      rw [wrap_id (by omega) (by omega)]; omega
    have e2 : total ((({ f := cutF keep x.f, b := x.b, p := p5, c := c5, own := b5 } : PF) :: D).map (·.f)) = total (D.map (·.f)) + nCut x.f keep := by
      rw [List.map_cons, total_cons]
      have e1 : (cutF keep x.f).dat.length = nCut x.f keep := by simp [cutF]; omega
      show (cutF keep x.f).dat.length + _ = _
      rw [e1]; omega
    refine H7.st (h' := { h with used := total ((({ f := cutF keep x.f, b := x.b, p := p5, c := c5, own := b5 } : PF) :: D).map (·.f)) }) (by omega) (by rw [hu, e2]; rfl) fun w8 H8 c8 z8 => ?_
    have hs4 : w3.heap.size ≤ w4.drew.heap.size := c4.size
    have hw4 : w.heap.size ≤ w4.drew.heap.size := Nat.le_trans c3.size hs4
    have hd48 : Ch (fun k => k ∈ x.bl ∨ k = d) w4.drew w8 := by
      refine (((cc5.mono fun _ _ h => h.elim).trans c6 fun k _ hk => .inl (by simp [PF.bl, hk])).trans c7 fun k _ hk => .inl (by simp [PF.bl, hk])).trans c8 fun k _ hk => .inr hk
    have hbx : ∀ k, k ∈ x.bl ∨ k = d → k ∈ blocks d r L ∨ (w.heap.size ≤ k ∧ k ≠ w1.heap.size) := by
      rintro k (hk | rfl)
      · exact hbl k (mem_blocks.2 (.inr (.inr ⟨x, by simp, hk⟩)))
      · exact .inl (by simp [blocks])
    refine ⟨(l1 ++ l2).length, by rw [hm, he]; simp, ({ f := cutF keep x.f, b := x.b, p := p5, c := c5, own := b5 } : PF) :: D, t1 ++ t2, x.f :: D0, l1 ++ l2, rfl, ?_, hleft', H8, ?_, ?_, ?_, ?_, ?_⟩
    · refine ((It_drew _ _ _ _ _ _).2 hit4).ch hd48 (fun hk => ?_) fun hk => ?_
      · rcases hk with hk | hk
        · exact hnit (mem_blocks.2 (.inr (.inr ⟨x, by simp, hk⟩)))
        · exact hnit (mem_blocks.2 (.inl hk))
      · have hnd := H4.nodup
        simp only [blocks, List.flatMap_cons] at hnd
        obtain ⟨n1, n2⟩ := List.nodup_cons.1 hnd
        obtain ⟨n3, _⟩ := List.nodup_cons.1 n2
        rcases hk with hk | hk
        · exact n3 (List.mem_append.2 (.inl hk))
        · exact n1 (by rw [← hk]; simp)
    · refine hL.trans ?_
      rw [List.map_append, List.map_cons, List.map_append, List.cons_append]
      exact (List.Perm.append_left D0 List.perm_middle).trans List.perm_middle
    · rw [List.map_cons, List.map_cons, hD]
    · rw [e2]; rw [htT] at htot; omega
    · intro b hb
      rcases mem_blocks.1 hb with e | e | ⟨y, hy, hyb⟩
      · exact .inl (by simp [blocks, e])
      · exact .inl (by simp [blocks, e])
      · simp only [List.cons_append, List.mem_cons] at hy
        rcases hy with rfl | hy
        · simp only [PF.bl, List.mem_cons, Option.mem_toList, Option.mem_def] at hyb
          rcases hyb with rfl | hyb
          · exact hbx x.b (.inl (by simp [PF.bl]))
          · have := hb5 b hyb
            right
            have : w4.drew.heap.size = w4.heap.size := rfl
            omega
        · exact hbl b (mem_blocks.2 (.inr (.inr ⟨y, by simp at hy ⊢; rcases hy with hy | hy | hy <;> simp [hy], hyb⟩)))
    · refine ((c3.trans c4 fun k hk e => ?_).trans' (Ch.drew w4)).trans hd48 fun k hk hS => ?_
      · exfalso
        have h1 : w.heap.size ≤ w1.heap.size := c1.size
        omega
      · rcases hbx k hS with h1 | h1
        · exact h1
        · omega
end Go.Proofs.Ytncbmfinndcojaa
