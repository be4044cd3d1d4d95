/-
  Files: all files, sorted, in memory of their own.
-/
import Derived.Test.YtncbmfinndcojaaDiskJ
namespace Go.Proofs.Ytncbmfinndcojaa
open Go Go.Sv Go.MapKept
set_option linter.unusedVariables false
set_option maxRecDepth 4000

/-- a file that came out -/
structure OF where
  f : File
  p : Option Addr
  c : Nat
  own : Option Nat
def OF.cells (o : OF) : List Value := [.string o.f.name, .slice o.p o.f.dat.length o.c, .int .i64 o.f.safe]
structure FilesR (w : World) (p : Option Addr) (c : Nat) (ob : Option Nat) (O : List OF) : Prop where
  row : Ow w p O.length c 3 (O.flatMap OF.cells) ob
  dat : ∀ o ∈ O, Ow w o.p o.f.dat.length o.c 1 (bytesV o.f.dat) o.own
  nodup : (ob.toList ++ O.flatMap fun o => o.own.toList).Nodup
def FilesR.bl (ob : Option Nat) (O : List OF) : List Nat := ob.toList ++ O.flatMap fun o => o.own.toList
theorem FilesR.lt {w : World} {p : Option Addr} {c : Nat} {ob : Option Nat} {O : List OF} (h : FilesR w p c ob O) : ∀ b ∈ FilesR.bl ob O, b < w.heap.size := by
  intro b hb
  rcases List.mem_append.1 hb with hb | hb
  · exact Ow.lt' h.row b (by simpa using hb)
  · obtain ⟨o, ho, hb⟩ := List.mem_flatMap.1 hb
    exact Ow.lt' (h.dat o ho) b (by simpa using hb)
theorem FilesR.ch {S : Nat → Prop} {w w' : World} {p : Option Addr} {c : Nat} {ob : Option Nat} {O : List OF} (h : FilesR w p c ob O) (hc : Ch S w w') (hn : ∀ b ∈ FilesR.bl ob O, ¬ S b) : FilesR w' p c ob O :=
  ⟨h.row.ch hc fun k hk => hn k (by simp [FilesR.bl, hk]), fun o ho => (h.dat o ho).ch hc fun k hk => hn k (List.mem_append.2 (.inr (List.mem_flatMap.2 ⟨o, ho, by simp [hk]⟩))), h.nodup⟩
theorem apifile_info : InfoIs Try.prog 37 3 48 (.agg #[.string ⟨#[]⟩, .slice none 0 0, .int .i64 0]) := .of (by kernel_rfl) (by kernel_rfl) (by kernel_rfl)
set_option maxHeartbeats 2000000 in
theorem files_ok {w : World} {d : Nat} {a : AD} {B : Nat → Prop} {K : Value → World → Prop} (D : DK w d a B) (hsort : (a.fs.map fun f => f.name.data.toList).Pairwise (· ≤ ·)) (hcnt : a.fs.length ≤ 2 ^ 41)
    (hk : ∀ p c ob O w' B', DK w' d a B' → Ch B w w' → (∀ b, B' b → B b) → FilesR w' p c ob O → O.map (·.f) = a.fs → (∀ b ∈ FilesR.bl ob O, w.heap.size ≤ b) → K (.slice p O.length c) w') :
    callP Try.prog 9 [.pointer (some ⟨d, 0, none⟩)] w K := by
  obtain ⟨wf, r, L, H, hL, rfl⟩ := D
  have htot := wf.tot
  have hlt := H.lt
  have hnm : (a.fs.map (·.name)).Nodup := by rw [← hL, List.map_map]; exact H.names
  refine ok_disk_Disk_Files ?_
  unfold wp_disk_Disk_Files
  simp only [nn_some, add_at]
  refine H.lock rfl fun w1 H1 c1 z1 => ⟨rfl, some r, H1.cell 4, ?_⟩
  refine keys_ok ⟨_, rfl, ?_⟩
  obtain ⟨mm, hm, hmp⟩ := H1.map
  obtain ⟨ks, hks1, hks2⟩ := perm_lift (g := Value.string) (M := mm.map (·.1)) (L := L.map fun x => x.f.name) (by
    have h1 := (hmp.map Prod.fst).symm
    rw [List.map_map] at h1
    rw [List.map_map]; exact h1)
  have hksz : ∀ s ∈ ks, s.size ≤ maxLen := fun s hs => by
    obtain ⟨x, hx, rfl⟩ := List.mem_map.1 (hks1.mem_iff.2 hs)
    have := wf.names x.f (hL ▸ List.mem_map.2 ⟨x, hx, rfl⟩)
    unfold nameOk at this
    simp at this
    unfold maxLen; omega
  have hmlen : mm.length ≤ 2 ^ 41 := by
    have h1 := hmp.length_eq
    have h2 := congrArg List.length hL
    simp at h1 h2
    omega
  refine sorted_ok hm hks2.symm hmlen hksz fun p c ss w3 hperm hss hrd c3 => ⟨p, ss.length, c, rfl, ?_⟩
  have hss2 : ss = a.fs.map fun f => f.name.data.toList := by
    refine List.Perm.eq_of_pairwise (le := (· ≤ ·)) (fun x y _ _ h1 h2 => List.le_antisymm h1 h2) hss hsort (hperm.trans ?_)
    rw [← hL, List.map_map]
    have := (hks1.map (·.data.toList)).symm
    rw [List.map_map] at this
    exact this
  have hsl : ss.length = a.fs.length := by rw [hss2]; simp
  have H3 := H1.ch0 c3
  have hw3 : w.heap.size ≤ w3.heap.size := by have := c3.size; omega
  have hpb : ∀ q, p = some q → ss.length * 1 ≠ 0 → q.block < w3.heap.size := fun q hq h0 => by
    rcases hrd.2 with h | ⟨b, o, cs, hp, hb, _⟩
    · omega
    · rw [hp] at hq; cases hq; exact cells_lt hb
  refine ⟨fun m p1 n1 c1 n2 w4 => ∃ (O : List OF) (ob : Option Nat), n1 = O.length ∧ n2 = O.length ∧ O.length ≤ a.fs.length ∧ m = a.fs.length - O.length ∧ O.map (·.f) = a.fs.take O.length ∧ FilesR w4 p1 c1 ob O ∧
    Ch (fun _ => False) w3 w4 ∧ (∀ b ∈ FilesR.bl ob O, w3.heap.size ≤ b), ⟨a.fs.length, [], none, rfl, rfl, by simp, by simp, by simp, ⟨⟨rfl, Nat.le_refl _, .inl ⟨rfl, rfl⟩⟩, by simp, by simp⟩, Ch.refl _ _, by simp [FilesR.bl]⟩, ?_⟩
  rintro m p1 n1 c1' n2 w4 ⟨O, ob, rfl, rfl, hOl, hm', hO, HF, c4, hnew⟩
  have H4 := H3.ch0 c4
  refine Sif_cases (fun g => ?_) fun g => ?_
  · have g' : O.length < ss.length := by have := of_decide_eq_true g; omega
    have hgf : O.length < a.fs.length := by omega
    have hfk : a.fs[O.length]? = some (a.fs[O.length]'hgf) := List.getElem?_eq_getElem hgf
    generalize a.fs[O.length]'hgf = f at hfk
    have hfm : f ∈ a.fs := List.mem_of_getElem? hfk
    have hrd4 : Rd w4 p ss.length 1 (ss.map encS) := hrd.ch c4 fun _ _ _ => id
    obtain ⟨pb, po, hp, hcell⟩ := hrd4.cell (i := O.length) (by omega)
    subst hp
    simp only [nn_some, add_at, Nat.mul_one, Int.toNat_natCast]
    refine ⟨by omega, by omega, f.name, by rw [hcell, List.getElem?_map, hss2, List.getElem?_map, hfk]; simp [encS_data], some r, H4.cell 4, ?_⟩
    rcases look_ok H4 f.name with ⟨x, hx, hxn, h1, _⟩ | ⟨hno, _⟩
    case inr =>
      exfalso
      rw [← hL] at hfm
      obtain ⟨x, hx, rfl⟩ := List.mem_map.1 hfm
      exact hno x hx rfl
    have hxf : x.f = f := inj_of_nodup hnm (hL ▸ List.mem_map.2 ⟨x, hx, rfl⟩) hfm hxn
    refine ⟨some ⟨x.b, 0, none⟩, h1, ?_⟩
    simp only [nn_some, add_at]
    have H4d : DR w4.drew d r _ L := H4.ch0 (Ch.drew w4)
    have hg := H4d.files x hx
    have hxl := dat_le_total (hxf ▸ hfm : x.f ∈ a.fs)
    refine ⟨x.p, x.f.dat.length, x.c, by rw [cell_blk hg.1]; rfl, x.f.safe, by rw [cell_blk hg.1]; rfl, clone_ok hg.2.rd (by omega) fun p4 c5 w5 b4 o4 f4 e4 => ⟨p4, _, c5, rfl, ?_⟩⟩
    have hg5 := (H4d.ch0 e4).files x hx
    refine ⟨⟨x.f.safe, by rw [cell_blk hg5.1]; rfl, rfl⟩, newB_blk fun w6 b6 e6 z6 => ?_⟩
    have HF6 : FilesR w6 p1 c1' ob O := ((HF.ch (Ch.drew (S := fun _ => False) w4) fun _ _ => id).ch e4 fun _ _ => id).ch e6 fun _ _ => id
    have hw4 : w3.heap.size ≤ w4.heap.size := c4.size
    have hw5 : w4.heap.size ≤ w5.heap.size := e4.size
    have hnl : f.name.size ≤ 16 := by have := wf.names f hfm; unfold nameOk at this; simp at this; omega
    have hrdn : Rd w6 (some ⟨w5.heap.size, 0, none⟩) 1 3 [.string f.name, .slice p4 x.f.dat.length c5, .int .i64 x.f.safe] := ⟨rfl, .inr ⟨_, 0, _, rfl, blk_cells b6, by simp, rfl⟩⟩
    obtain ⟨p5, c6, w7, b7, r1, r2, r3, r4, _⟩ := append_rd (ty := 29) (c2 := 1) Try.underlying29 Try.underlying29 apifile_info rfl HF6.row hrdn (by intro u hu; simp at hu; rcases hu with rfl | rfl | rfl <;> rfl) (by omega) (by omega)
    refine ⟨p5, _, c6, w7, r1, m - 1, by omega, O ++ [{ f := f, p := p4, c := c5, own := b4 }], b7, by simp, ?_, by simp; omega, by simp; omega, ?_, ?_, ?_, ?_⟩
    · rw [wrap_id (by omega) (by omega)]; simp
    · rw [List.map_append, hO, List.length_append]
      simp only [List.map_cons, List.map_nil, List.length_cons, List.length_nil, Nat.zero_add]
      rw [List.take_add_one, hfk]; rfl
    · have hold : ∀ b ∈ FilesR.bl ob O, b < w4.heap.size := HF.lt
      have hb4 : ∀ k, b4 = some k → w4.heap.size ≤ k ∧ k < w5.heap.size := fun k hk => ⟨f4 k hk, Ow.lt' o4 k hk⟩
      refine ⟨?_, fun o ho => ?_, ?_⟩
      · have e1 : (O ++ [({ f := f, p := p4, c := c5, own := b4 } : OF)]).flatMap OF.cells = O.flatMap OF.cells ++ [.string f.name, .slice p4 x.f.dat.length c5, .int .i64 x.f.safe] := by
          rw [List.flatMap_append]; simp [OF.cells, hxf]
        rw [e1, List.length_append]; exact r2
      · rcases List.mem_append.1 ho with ho | ho
        · refine (HF6.dat o ho).ch r4 fun k hk hk2 => ?_
          have hnd := HF.nodup
          rw [hk2] at hnd
          simp only [Option.toList_some, List.singleton_append] at hnd
          exact (List.nodup_cons.1 hnd).1 (List.mem_flatMap.2 ⟨o, ho, by simp [hk]⟩)
        · simp only [List.mem_singleton] at ho
          subst ho
          show Ow w7 p4 f.dat.length c5 1 (bytesV f.dat) b4
          rw [← hxf]
          refine (o4.ch e6 fun _ _ => id).ch r4 fun k hk hk2 => ?_
          have h1 := hold k (by simp [FilesR.bl, hk2])
          have h2 := (hb4 k hk).1
          omega
      · have hnd := HF.nodup
        rw [List.flatMap_append]
        simp only [List.flatMap_cons, List.flatMap_nil, List.append_nil]
        have hrest : ((O.flatMap fun o => o.own.toList) ++ b4.toList).Nodup := by
          refine List.nodup_append.2 ⟨(List.nodup_append.1 hnd).2.1, by cases b4 <;> simp, fun a ha b hb e => ?_⟩
          subst e
          have h1 := hold a (List.mem_append.2 (.inr ha))
          have h2 := (hb4 a (by simpa using hb)).1
          omega
        refine List.nodup_append.2 ⟨by cases b7 <;> simp, hrest, fun a ha b hb e => ?_⟩
        subst e
        have ha' : b7 = some a := by simpa using ha
        rcases r3 a ha' with h | h
        · rcases List.mem_append.1 hb with hb | hb
          · rw [h] at hnd
            simp only [Option.toList_some, List.singleton_append] at hnd
            exact (List.nodup_cons.1 hnd).1 hb
          · have h1 := hold a (by simp [FilesR.bl, h])
            have h2 := (hb4 a (by simpa using hb)).1
            omega
        · rcases List.mem_append.1 hb with hb | hb
          · have h1 := hold a (List.mem_append.2 (.inr hb))
            omega
          · have h2 := (hb4 a (by simpa using hb)).2
            omega
    · refine (((c4.new (Ch.drew w4)).new e4).new e6).trans r4 fun k hk h => ?_
      have := hnew k (by simp [FilesR.bl, h])
      omega
    · intro b hb
      rcases List.mem_append.1 hb with hb | hb
      · rcases r3 b (by simpa using hb) with h | h
        · exact hnew b (by simp [FilesR.bl, h])
        · omega
      · rw [List.flatMap_append] at hb
        rcases List.mem_append.1 hb with hb | hb
        · exact hnew b (List.mem_append.2 (.inr hb))
        · have := f4 b (by simpa using hb)
          have h9 : w4.drew.heap.size = w4.heap.size := rfl
          omega
  · have g' : ¬ O.length < ss.length := by have := of_decide_eq_false g; omega
    refine H4.unlock rfl fun w5 H5 c5 z5 => ?_
    have hdw : d < w.heap.size := hlt d (by simp [blocks])
    refine hk p1 c1' ob O w5 _ (DK.of H5 rfl (by rw [hL]) wf) ((((c1.mono fun x _ hx => in_d x hx).new c3).new c4).more c5 in_d) (fun b hb => hb) (HF.ch c5 fun b hb e => by have := hnew b hb; omega) ?_ fun b hb => by have := hnew b hb; omega
    rw [hO, List.take_of_length_le (by omega)]
end Go.Proofs.Ytncbmfinndcojaa
