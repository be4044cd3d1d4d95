/-
  Load: the program's and the document's: the same answer, the same files.
-/
import Derived.Test.YtncbmfinndcojaaRefF
namespace Go.Proofs.Ytncbmfinndcojaa
open Go Go.Sv Go.MapKept
set_option linter.unusedVariables false
set_option maxRecDepth 4000

/-- a file as it is handed in -/
structure FV where
  name : ByteArray
  dat : List UInt8
  safe : Int
  p : Option Addr
  c : Nat
def FV.cells (x : FV) : List Value := [.string x.name, .slice x.p x.dat.length x.c, .int .i64 x.safe]
theorem FV.cells_len (o : FV) : o.cells.length = 3 := rfl
def FV.file (x : FV) : File := ⟨x.name, x.dat, x.safe.toNat⟩
structure FVIn (w : World) (p : Option Addr) (L : List FV) : Prop where
  row : Rd w p L.length 3 (L.flatMap FV.cells)
  dat : ∀ x ∈ L, Rd w x.p x.dat.length 1 (bytesV x.dat)
  nlen : ∀ x ∈ L, x.name.size ≤ 2 ^ 62
  dlen : ∀ x ∈ L, x.dat.length ≤ 2 ^ 40
  tot : (L.map fun x => x.dat.length).sum ≤ 2 ^ 60
  len : L.length < 2 ^ 41
theorem FVIn.ch {S : Nat → Prop} {w w' : World} {p : Option Addr} {L : List FV} (h : FVIn w p L) (hc : Ch S w w') (h1 : ∀ a, p = some a → L.length ≠ 0 → ¬ S a.block) (h2 : ∀ x ∈ L, ∀ a, x.p = some a → x.dat.length ≠ 0 → ¬ S a.block) : FVIn w' p L :=
  ⟨h.row.ch hc fun a ha h0 => h1 a ha (by omega), fun x hx => (h.dat x hx).ch hc fun a ha h0 => h2 x hx a ha (by omega), h.nlen, h.dlen, h.tot, h.len⟩
theorem FVIn.ch0 {w w' : World} {p : Option Addr} {L : List FV} (h : FVIn w p L) (hc : Ch (fun _ => False) w w') : FVIn w' p L := h.ch hc (fun _ _ _ => id) fun _ _ _ _ _ => id
theorem FVIn.at {w : World} {p : Option Addr} {L : List FV} (h : FVIn w p L) {i : Nat} {x : FV} (hi : L[i]? = some x) :
    ∃ b o, p = some ⟨b, o, none⟩ ∧ w.cell? ⟨b, o + i * 3, none⟩ = some (.string x.name) ∧ w.cell? ⟨b, o + i * 3 + 1, none⟩ = some (.slice x.p x.dat.length x.c) ∧ w.cell? ⟨b, o + i * 3 + 2, none⟩ = some (.int .i64 x.safe) := by
  obtain ⟨b, o, hp, hc⟩ := Rd.at FV.cells_len h.row hi (by omega)
  exact ⟨b, o, hp, hc 0 _ rfl, hc 1 _ rfl, hc 2 _ rfl⟩
def hasN (fs : List File) (n : ByteArray) : Bool := fs.any fun f => decide (f.name = n)
def badF (fs : List File) (x : FV) : Prop := hasN fs x.name = true ∨ nameOk x.name = false ∨ x.safe < 0 ∨ (x.dat.length : Int) < x.safe
instance (fs : List File) (x : FV) : Decidable (badF fs x) := inferInstanceAs (Decidable (_ ∨ _ ∨ _ ∨ _))
/-- all files laid in, one by one: none: one of them may not be -/
def addAll : List File → List FV → Option (List File)
  | fs, [] => some fs
  | fs, x :: L => if badF fs x then none else addAll (x.file :: fs) L
theorem addAll_step {fs : List File} {L : List FV} {i : Nat} {x : FV} (hi : L[i]? = some x) : addAll fs (L.drop i) = if badF fs x then none else addAll (x.file :: fs) (L.drop (i + 1)) := by
  obtain ⟨hil, rfl⟩ := List.getElem?_eq_some_iff.1 hi
  rw [List.drop_eq_getElem_cons hil, addAll]
def loadS (room : Int) (L : List FV) : Int × Option AD :=
  if room < 0 ∨ room > 16777216 then (1, none) else match addAll [] L with
  | none => (1, none)
  | some fs => if (total fs : Int) > room then (190, none) else (0, some { newA room with fs := fs })
theorem hasN_perm {fs gs : List File} (h : fs.Perm gs) (n : ByteArray) : hasN fs n = hasN gs n := by
  unfold hasN
  rw [Bool.eq_iff_iff, List.any_eq_true, List.any_eq_true]
  simp only [h.mem_iff]
theorem sum_drop (L : List FV) (i : Nat) (x : FV) (hi : L[i]? = some x) : ((L.drop i).map fun x => x.dat.length).sum = x.dat.length + ((L.drop (i + 1)).map fun x => x.dat.length).sum := by
  obtain ⟨hil, rfl⟩ := List.getElem?_eq_some_iff.1 hi
  rw [List.drop_eq_getElem_cons hil, List.map_cons, List.sum_cons]
/-- a disk's files go in and out -/
theorem layFile_ok {w : World} {d r : Nat} {h : Hd} {L : List PF} {x : PF} {K : World → Prop} (H : DR w d r h L) (hg : x.good w) (hx : x.bl.Nodup) (hb : ∀ b ∈ x.bl, b ∉ blocks d r L) (hn : ∀ y ∈ L, y.f.name ≠ x.f.name)
    (hK : ∀ w', DR w' d r h (x :: L) → Ch (· = r) w w' → K w') :
    runU Try.prog (Instr.mapUpdate 66 (.map (some r)) (.string x.f.name) (.pointer (some ⟨x.b, 0, none⟩))) w K := by
  obtain ⟨m, hm, hp⟩ := H.map
  obtain ⟨w', m', h1, h2, h3, h4, h5⟩ := update_run (t := 66) Try.underlying66 Try.underlying9 hm (k := .string x.f.name) trivial (.pointer (some ⟨x.b, 0, none⟩))
  refine ⟨w', h1, hK w' ?_ h3⟩
  refine H.ins (x := x) h2 ?_ h3 (hg.ch h3 fun b hbm e => hb b hbm (by simp [blocks, e])) hx hb
  rcases h5 with ⟨l1, v0, l2, rfl, _⟩ | ⟨_, rfl⟩
  · exfalso
    obtain ⟨z, hz, he⟩ := List.mem_map.1 (hp.mem_iff.1 (by simp : (Value.string x.f.name, v0) ∈ l1 ++ (.string x.f.name, v0) :: l2))
    simp only [PF.pair, Prod.mk.injEq, Value.string.injEq] at he
    exact hn z hz he.1
  · exact (List.perm_append_singleton _ _).trans (hp.cons _)
theorem newDR_ok {w : World} {room : Int} {K : Value → World → Prop}
    (hno : room < 0 ∨ room > 16777216 → K (.pointer none) w)
    (hk : 0 ≤ room → room ≤ 16777216 → ∀ d r w', DR w' d r (newA room).hd [] → Ch (fun _ => False) w w' → w.heap.size ≤ d → w.heap.size ≤ r → K (.pointer (some ⟨d, 0, none⟩)) w') :
    callP Try.prog 7 [.int .i64 room] w K := by
  refine new_ok hno fun h1 h2 d w' B' D c n => ?_
  obtain ⟨wf, r, L, H, hL, rfl⟩ := D
  have : L = [] := by cases L <;> simp [newA] at hL ⊢
  subst this
  exact hk h1 h2 d r w' H c (n d (by simp [blocks])) (n r (by simp [blocks]))
set_option maxHeartbeats 1000000 in
theorem load_ok {w : World} {p : Option Addr} {c : Nat} {L : List FV} {room : Int} {K : Value → World → Prop} (I : FVIn w p L)
    (hno : ∀ e w', loadS room L = (e, none) → Ch (fun _ => False) w w' → K (.tuple #[.pointer none, .int .i64 e]) w')
    (hyes : ∀ a d w' B', loadS room L = (0, some a) → DK w' d a B' → Ch (fun _ => False) w w' → (∀ b, B' b → w.heap.size ≤ b) → K (.tuple #[.pointer (some ⟨d, 0, none⟩), .int .i64 0]) w') :
    callP Try.prog 18 [.slice p L.length c, .int .i64 room] w K := by
  refine ok_disk_Load ?_
  unfold wp_disk_Load
  refine newDR_ok (fun h => ⟨_, rfl, Sif_true (hno 1 w (by unfold loadS; rw [if_pos h]) (Ch.refl _ _))⟩) fun hr0 hr1 d r w1 H1 c1 nd nr => ⟨_, rfl, Sif_false ?_⟩
  have hroom : ¬ (room < 0 ∨ room > 16777216) := by omega
  have hlen := I.len
  have htot := I.tot
  have hrd : ∀ w', Ch (fun _ => False) w w' → FVIn w' p L := fun w' h => I.ch0 h
  refine ⟨fun m k w' => ∃ (i : Nat) (F : List PF), k = i ∧ i ≤ L.length ∧ m = L.length - i ∧ DR w' d r { (newA room).hd with used := total (F.map (·.f)) } F ∧ addAll (F.map (·.f)) (L.drop i) = addAll [] L ∧ Ch (fun _ => False) w w' ∧ (∀ b ∈ blocks d r F, w.heap.size ≤ b) ∧
      (total (F.map (·.f)) + ((L.drop i).map fun x => x.dat.length).sum ≤ 2 ^ 60) ∧ (∀ f ∈ F.map (·.f), nameOk f.name = true ∧ f.safe ≤ f.dat.length),
    ⟨L.length, 0, [], rfl, by omega, by omega, H1, rfl, c1, by intro b hb; simp [blocks] at hb; rcases hb with rfl | rfl <;> assumption, by simpa [total] using htot, by simp⟩, ?_⟩
  rintro m k w2 ⟨i, F, rfl, hi, rfl, H2, hadd, c2, hnew, hsum, hwf⟩
  refine Sif_cases (fun g => ?_) fun g => ?_
  · have hlt : i < L.length := by have := of_decide_eq_true g; omega
    have hx : L[i]? = some L[i] := List.getElem?_eq_getElem hlt
    generalize L[i] = x at hx
    have hxm := List.mem_of_getElem? hx
    have hsd := sum_drop L i x hx
    have hstep := addAll_step (fs := F.map (·.f)) hx
    rw [hadd] at hstep
    have bad : badF (F.map (·.f)) x → ∀ w', Ch (fun _ => False) w w' → K (.tuple #[.pointer none, .int .i64 1]) w' := fun h w' hc => by
      refine hno 1 w' ?_ hc
      unfold loadS
      rw [if_neg hroom, hstep, if_pos h]
    refine ⟨fun w' => ∃ F' : List PF, DR w' d r { (newA room).hd with used := total (F'.map (·.f)) } F' ∧ addAll (F'.map (·.f)) (L.drop (i + 1)) = addAll [] L ∧ Ch (fun _ => False) w w' ∧ (∀ b ∈ blocks d r F', w.heap.size ≤ b) ∧
      (total (F'.map (·.f)) + ((L.drop (i + 1)).map fun x => x.dat.length).sum ≤ 2 ^ 60) ∧ (∀ f ∈ F'.map (·.f), nameOk f.name = true ∧ f.safe ≤ f.dat.length), ?_, by omega, by omega, ?_⟩
    · rintro w3 ⟨F', H3, ha3, c3, hn3, hs3, hw3⟩
      rw [wrap_id (by omega) (by omega)]
      exact ⟨L.length - (i + 1), by omega, i + 1, F', by simp, by omega, rfl, H3, ha3, c3, hn3, hs3, hw3⟩
    have I2 := I.ch0 c2
    obtain ⟨kb, ko, rfl, g0, g1, g2⟩ := I2.at hx
    simp only [nn_some, add_at, Int.toNat_natCast, Nat.add_zero]
    refine ⟨_, g0, _, _, _, g1, _, g2, box3 fun w3 b3 c3 z3 => ?_⟩
    simp only [add_at, Nat.zero_add]
    have hc3 := c2.new c3
    have H3 := H2.ch0 c3
    have H3d : DR w3.drew d r _ F := H3.ch0 (Ch.drew w3)
    have b3d : blk w3.drew w2.heap.size = some [.string x.name, .slice x.p x.dat.length x.c, .int .i64 x.safe] := b3
    have hc3d := hc3.new (Ch.drew w3)
    have hdl := I.dlen x hxm
    refine ⟨fun w' => w' = w3.drew ∧ ¬ badF (F.map (·.f)) x, ?_, ?_⟩
    · rintro w4 ⟨rfl, hgood⟩
      have hmf : hasN (F.map (·.f)) x.name = false := by
        cases h : hasN (F.map (·.f)) x.name with
        | false => rfl
        | true => exact absurd (.inl h) hgood
      have hne : ∀ y ∈ F, y.f.name ≠ x.name := fun y hy e => by
        unfold hasN at hmf
        rw [List.any_eq_false] at hmf
        exact hmf y.f (List.mem_map.2 ⟨y, hy, rfl⟩) (by simp [e])
      have hnok : nameOk x.name = true := by
        cases h : nameOk x.name with
        | true => rfl
        | false => exact absurd (.inr (.inl h)) hgood
      have hsf : 0 ≤ x.safe ∧ x.safe ≤ x.dat.length := by
        refine ⟨?_, ?_⟩
        · exact Int.not_lt.1 fun h => hgood (.inr (.inr (.inl h)))
        · exact Int.not_lt.1 fun h => hgood (.inr (.inr (.inr h)))
      generalize hw4 : w3.drew = w4 at *
      have H4 : DR w4.drew d r _ F := H3d.ch0 (Ch.drew w4)
      have b4 : blk w4.drew w2.heap.size = some [.string x.name, .slice x.p x.dat.length x.c, .int .i64 x.safe] := b3d
      have I4 : FVIn w4.drew (some ⟨kb, ko, none⟩) L := I.ch0 (hc3d.new (Ch.drew w4))
      refine ⟨some r, H4.cell 4, _, by rw [cell_blk b4]; rfl, _, _, _, by rw [cell_blk b4]; rfl, _, by rw [cell_blk b4]; rfl, ?_⟩
      refine clone_ok (I4.dat x hxm) (by omega) fun p5 c5 w5 b5 o5 f5 e5 => ⟨_, _, _, rfl, ?_⟩
      have k5 : blk w5 w2.heap.size = some [.string x.name, .slice x.p x.dat.length x.c, .int .i64 x.safe] := by rw [e5.blk (blk_lt b4) id]; exact b4
      have H5 := H4.ch0 e5
      refine ⟨⟨_, by rw [cell_blk k5]; rfl, rfl⟩, ⟨_, by rw [cell_blk k5]; rfl, rfl⟩, ⟨some r, H5.cell 4, rfl⟩, newB_blk fun w6 b6 c6 z6 => ?_⟩
      have k6 : blk w6 w2.heap.size = some [.string x.name, .slice x.p x.dat.length x.c, .int .i64 x.safe] := by rw [c6.blk (blk_lt k5) id]; exact k5
      have H6 := H5.ch0 c6
      refine ⟨⟨_, by rw [cell_blk k6]; rfl, rfl⟩, ⟨some r, H6.cell 4, rfl⟩, ?_⟩
      have hz4 : w3.heap.size = w4.heap.size := by rw [← hw4]; rfl
      have hz4d : w4.drew.heap.size = w4.heap.size := rfl
      have hz5 := e5.size
      have hz2 := c2.size
      have hlt2 := H2.lt
      have hb5 : ∀ k, b5 = some k → w4.heap.size ≤ k ∧ k < w5.heap.size := fun k hk => ⟨by have := f5 k hk; omega, o5.blt k hk⟩
      have hnat : ((x.safe.toNat : Nat) : Int) = x.safe := by omega
      refine layFile_ok (x := { f := x.file, b := w5.heap.size, p := p5, c := c5, own := b5 }) H6 ⟨?_, o5.ch c6 fun _ _ => id⟩ ?_ (fun b hb hin => ?_) (fun y hy => hne y hy) fun w7 H7 c7 => ?_
      · show blk w6 w5.heap.size = some [.slice p5 x.dat.length c5, .int .i64 (x.safe.toNat : Nat)]
        rw [hnat]; exact b6
      · show (w5.heap.size :: b5.toList).Nodup
        cases hb : b5 with
        | none => simp
        | some k => simp; have := (hb5 k hb).2; omega
      · have h1 := H2.lt b hin
        rcases List.mem_cons.1 (show b ∈ w5.heap.size :: b5.toList from hb) with h | h
        · omega
        · have := (hb5 b (by simpa using h)).1; omega
      have H7d : DR w7.drew d r _ _ := H7.ch0 (Ch.drew w7)
      have hr2 : r < w2.heap.size := hlt2 r (by simp [blocks])
      have k7 : blk w7.drew w2.heap.size = some [.string x.name, .slice x.p x.dat.length x.c, .int .i64 x.safe] := by
        show blk w7 _ = _
        rw [c7.blk (blk_lt k6) (by omega)]; exact k6
      refine ⟨_, H7d.cell 3, _, _, _, by rw [cell_blk k7]; rfl, ?_⟩
      refine H7d.st (h' := { (newA room).hd with used := total ((({ f := x.file, b := w5.heap.size, p := p5, c := c5, own := b5 } : PF) :: F).map (·.f)) }) (by omega) ?_ fun w8 H8 c8 z8 => ?_
      · rw [wrap_id (by simp only [Hd.cells]; omega) (by simp only [Hd.cells]; omega)]
        simp [Hd.cells, total, FV.file]
        omega
      · refine ⟨_, H8, ?_, ?_, fun b hb => ?_, ?_, fun f hf => ?_⟩
        · rw [List.map_cons]
          rw [if_neg hgood] at hstep
          exact hstep.symm
        · have hcx : Ch (fun _ => False) w w6 := ((hc3d.new (Ch.drew w4)).new e5).new c6
          refine ((hcx.trans c7 fun k hk h => ?_).new (Ch.drew w7)).trans c8 fun k hk h => ?_
          · have := hnew r (by simp [blocks]); omega
          · have := hnew d (by simp [blocks]); omega
        · rcases mem_blocks.1 hb with h | h | ⟨y, hy, hyb⟩
          · exact hnew b (mem_blocks.2 (.inl h))
          · exact hnew b (mem_blocks.2 (.inr (.inl h)))
          · rcases List.mem_cons.1 hy with rfl | hy
            · rcases List.mem_cons.1 (show b ∈ w5.heap.size :: b5.toList from hyb) with h | h
              · omega
              · have := (hb5 b (by simpa using h)).1
                have := hc3.size
                omega
            · exact hnew b (mem_blocks.2 (.inr (.inr ⟨y, hy, hyb⟩)))
        · rw [List.map_cons, total_cons]
          show x.dat.length + _ + _ ≤ _
          omega
        · rcases List.mem_cons.1 hf with rfl | hf
          · exact ⟨hnok, by show x.safe.toNat ≤ x.dat.length; omega⟩
          · exact hwf f hf
    · refine ⟨some r, H3d.cell 4, _, by rw [cell_blk b3d]; rfl, ?_⟩
      rcases look_ok H3d x.name with ⟨y, hy, hyn, _, hl⟩ | ⟨hno', hl⟩
      · refine ⟨_, _, hl, Sif_cases (fun g4 => by simp at g4) fun _ => bad (.inl ?_) _ hc3d⟩
        unfold hasN
        rw [List.any_eq_true]
        exact ⟨y.f, List.mem_map.2 ⟨y, hy, rfl⟩, by simp [hyn]⟩
      have hhas : hasN (F.map (·.f)) x.name = false := by
        unfold hasN
        rw [List.any_eq_false]
        intro f hf
        obtain ⟨y, hy, rfl⟩ := List.mem_map.1 hf
        simpa using hno' y hy
      refine ⟨_, _, hl, Sif_cases (fun _ => ⟨_, by rw [cell_blk b3d]; rfl, isName_ok (by have := I.nlen x hxm; omega) ⟨_, rfl, ?_⟩⟩) fun g4 => by simp at g4⟩
      refine Sif_cases (fun g5 => ⟨_, by rw [cell_blk b3d]; rfl, Sif_cases (fun g6 => ⟨_, by rw [cell_blk b3d]; rfl, _, _, _, by rw [cell_blk b3d]; rfl, Sif_cases (fun g7 => bad (.inr (.inr (.inr ?_))) _ hc3d) fun g7 => ⟨rfl, ?_⟩⟩) fun g6 => bad (.inr (.inr (.inl ?_))) _ hc3d⟩) fun g5 => bad (.inr (.inl ?_)) _ hc3d
      · have := of_decide_eq_true g7; omega
      · have h5 : nameOk x.name = true := by simpa using g5
        have h6 : ¬ x.safe < 0 := by simpa using g6
        have h7 := of_decide_eq_false g7
        rintro (h | h | h | h)
        · rw [hhas] at h; cases h
        · rw [h5] at h; cases h
        · omega
        · omega
      · simpa using g6
      · simpa using g5
  · have hge : i = L.length := by have := of_decide_eq_false g; omega
    subst hge
    rw [List.drop_length] at hadd
    have hfs : addAll [] L = some (F.map (·.f)) := hadd.symm
    simp only [nn_some, add_at, Nat.zero_add]
    refine ⟨_, H2.cell 3, Sif_cases (fun q => hno 190 w2 ?_ c2) fun q => ?_⟩
    · have h1 : ((total (F.map (·.f)) : Nat) : Int) > room := of_decide_eq_true q
      unfold loadS; rw [if_neg hroom, hfs]; simp only; rw [if_pos (by omega)]
    · have h1 : ¬ ((total (F.map (·.f)) : Nat) : Int) > room := of_decide_eq_false q
      have hl : loadS room L = (0, some { newA room with fs := F.map (·.f) }) := by unfold loadS; rw [if_neg hroom, hfs]; simp only; rw [if_neg (by omega)]
      refine hyes _ d w2 _ hl (DK.of H2 rfl (.refl _) ⟨fun f hf => (hwf f hf).2, by show (total (F.map (·.f)) : Int) ≤ room; omega, hr1, by simp [newA], by simp [newA], fun f hf => (hwf f hf).1⟩) c2 hnew
end Go.Proofs.Ytncbmfinndcojaa
