/-
  journal.file, Open do what is said.
-/
import Derived.Test.YtipololccbdojaaGreatDoorJadd
import Derived.Test.YtipololccbdojaaGreatDoorJscan
namespace Go.Proofs.YtipololccbdojaaGreatDoor
open Go Go.Sv
set_option linter.unusedVariables false
set_option maxRecDepth 4000

abbrev emptyS : ByteArray := ⟨#[]⟩
def ltS (a : AD) : Prop := (a.fs.map fun f => f.name.data.toList).Pairwise (· ≤ ·)
theorem ltS_sorted (a : AD) : ltS a.sorted := a.sorted_pw
/-- a file of the disk, as it comes out -/
structure FileOut (w w' : World) (o : Option File) (s : ByteArray) (p : Option Addr) (n c : Nat) (sf : Int) (b : Bool) : Prop where
  yes : b = o.isSome
  len : n = (o.getD ⟨emptyS, [], 0⟩).dat.length
  rd : ∃ own, Ow w' p n c 1 (bytesV (o.getD ⟨emptyS, [], 0⟩).dat) own ∧ ∀ k, own = some k → w.heap.size ≤ k
  safe : sf = ((o.getD ⟨emptyS, [], 0⟩).safe : Int)
theorem jfile_ok {w : World} {d : Nat} {a : AD} {B : Nat → Prop} {n : ByteArray} {K : Value → World → Prop} (D : DK w d a B) (hsort : ltS a) (hcnt : a.fs.length ≤ 2 ^ 41)
    (hk : ∀ w' B' s p m c sf b, DK w' d a B' → Ch B w w' → (∀ b, B' b → B b) → FileOut w w' (a.file n) s p m c sf b → K (.tuple #[.agg #[.string s, .slice p m c, .int .i64 sf], .bool b]) w') :
    callP Tryz.prog 46 [.pointer (some ⟨d, 0, none⟩), .string n] w K := by
  refine ok_journal_file ?_
  unfold wp_journal_file
  refine newB_blk fun w1 b1 c1 z1 => ?_
  have D1 := D.ch c1 fun _ _ => id
  refine files_ok D1 hsort hcnt fun p c ob O w2 B2 D2 c2 n2 R hO hfr => ⟨_, _, _, rfl, ?_⟩
  have hwB : ¬ B w.heap.size := fun h => by have := D.lt _ h; omega
  have c02 : Ch B w w2 := (c1.mono fun _ _ h => h.elim).trans' c2
  have hb2 : blk w2 w.heap.size = some [.string emptyS, .slice none 0 0, .int .i64 0] := by rw [c2.blk (blk_lt b1) hwB]; exact b1
  have hol : O.length = a.fs.length := by have := congrArg List.length hO; simpa using this
  refine ⟨fun m i w' => ∃ k : Nat, i = (k : Int) ∧ k ≤ O.length ∧ m = O.length - k ∧ Ch (fun _ => False) w2 w' ∧ ∀ x ∈ O.take k, x.f.name ≠ n, ⟨O.length, 0, rfl, by omega, rfl, Ch.refl _ _, by simp⟩, ?_⟩
  rintro m i w3 ⟨k, rfl, hk1, rfl, c3, hno⟩
  have hB3 : ∀ b, B2 b → B b := n2
  refine Sif_cases (fun hlt => ?_) fun hge => ?_
  · have hlt' : (k : Int) < O.length := by simpa using hlt
    have hkl : k < O.length := by omega
    have hi := List.getElem?_eq_getElem hkl
    refine ⟨by omega, by omega, ?_⟩
    have hrow : Rd w3 p O.length 3 (O.flatMap OF.cells) := (R.row.ch c3 fun _ _ => id).rd
    obtain ⟨bk, o, rfl, hcell⟩ := hrow.at OF.cells_len hi (by decide)
    simp only [nn_some, add_at, Int.toNat_natCast]
    have h0 := hcell 0 _ rfl
    have h1 := hcell 1 _ rfl
    have h2 := hcell 2 _ rfl
    refine ⟨_, h0, _, _, _, h1, _, h2, ?_⟩
    refine box3 fun w4 b4 c4 z4 => ?_
    simp only [add_at, Nat.zero_add]
    refine ⟨_, by rw [cell_blk b4]; rfl, Sif_cases (fun he => ?_) fun he => ?_⟩
    · have he' : O[k].f.name = n := by
        have : O[k].f.name.toList = n.toList := by simpa using he
        exact data_ext (by rw [← ByteArray.toList_eq, ← ByteArray.toList_eq]; exact this)
      refine ⟨_, by rw [cell_blk b4]; rfl, _, _, _, by rw [cell_blk b4]; rfl, _, by rw [cell_blk b4]; rfl, ?_⟩
      have hb4 : blk w4 w.heap.size = some [.string emptyS, .slice none 0 0, .int .i64 0] := by rw [(c3.new c4).blk (blk_lt hb2) id]; exact hb2
      refine re3 hb4 fun w5 b5 c5 z5 => ?_
      refine ⟨_, by rw [cell_blk b5]; rfl, _, _, _, by rw [cell_blk b5]; rfl, _, by rw [cell_blk b5]; rfl, ?_⟩
      have hfile : a.file n = some O[k].f := by
        unfold AD.file
        rw [← hO, List.find?_map]
        have : O.find? ((fun f => decide (f.name = n)) ∘ fun x => x.f) = some O[k] := by
          rw [List.find?_eq_some_iff_append]
          refine ⟨by simp [he'], O.take k, O.drop (k + 1), ?_, fun x hx => by simpa using hno x hx⟩
          rw [List.getElem_cons_drop, List.take_append_drop]
        rw [this]; rfl
      have C05 : Ch B w w5 := ((c02.new c3).new c4).trans c5 fun x hx e => by omega
      refine hk w5 B2 _ _ _ _ _ _ (((D2.ch c3 fun _ _ => id).ch c4 fun _ _ => id).ch c5 fun b hb e => ?_) C05 n2 ⟨by rw [hfile]; rfl, by rw [hfile]; rfl, ⟨O[k].own, ?_, fun x hx => ?_⟩, by rw [hfile]; rfl⟩
      · exact hwB (e ▸ n2 b hb)
      · rw [hfile]
        have hin : ∀ x, O[k].own = some x → w1.heap.size ≤ x := fun x hx => hfr x (List.mem_append.2 (.inr (List.mem_flatMap.2 ⟨O[k], List.getElem_mem hkl, by simp [hx]⟩)))
        exact (((R.dat _ (List.getElem_mem hkl)).ch c3 fun _ _ => id).ch c4 fun _ _ => id).ch c5 fun x hx e => by have := hin x hx; omega
      · have := hfr x (List.mem_append.2 (.inr (List.mem_flatMap.2 ⟨O[k], List.getElem_mem hkl, by simp [hx]⟩)))
        omega
    · have he' : ¬ O[k].f.name = n := fun e => by rw [e] at he; simp at he
      rw [wrap_id (by omega) (by omega)]
      refine ⟨O.length - (k + 1), by omega, k + 1, by omega, by omega, rfl, c3.new c4, fun x hx => ?_⟩
      rw [List.take_succ_eq_append_getElem hkl] at hx
      rcases List.mem_append.1 hx with h | h
      · exact hno x h
      · rw [List.mem_singleton.1 h]; exact he'
  · have hk' : ¬ (k : Int) < O.length := by simpa using hge
    rw [List.take_of_length_le (by omega)] at hno
    simp only [add_at]
    have hb3 : blk w3 w.heap.size = some [.string emptyS, .slice none 0 0, .int .i64 0] := by rw [c3.blk (blk_lt hb2) id]; exact hb2
    refine re3 hb3 fun w5 b5 c5 z5 => ?_
    refine ⟨_, by rw [cell_blk b5]; rfl, _, _, _, by rw [cell_blk b5]; rfl, _, by rw [cell_blk b5]; rfl, ?_⟩
    have hfile : a.file n = none := by
      unfold AD.file
      rw [List.find?_eq_none]
      intro f hf
      rw [← hO] at hf
      obtain ⟨x, hx, rfl⟩ := List.mem_map.1 hf
      simpa using hno x hx
    refine hk w5 B2 _ _ _ _ _ _ ((D2.ch c3 fun _ _ => id).ch c5 fun b hb e => hwB (e ▸ n2 b hb)) ((c02.new c3).trans c5 fun x hx e => by omega) n2 ⟨by rw [hfile]; rfl, by rw [hfile]; rfl, ⟨none, by rw [hfile]; exact Ow.nil, fun x hx => by cases hx⟩, by rw [hfile]; rfl⟩
theorem FileOut.log {w w' : World} {a : AD} {s : ByteArray} {p : Option Addr} {m c : Nat} {sf : Int} {b : Bool} (h : FileOut w w' (a.file sLog) s p m c sf b) : b = a.has sLog ∧ m = a.logF.dat.length ∧ sf = (a.logF.safe : Int) ∧ ∃ own, Ow w' p m c 1 (bytesV a.logF.dat) own ∧ ∀ k, own = some k → w.heap.size ≤ k := by
  obtain ⟨h1, h2, h3, h4⟩ := h
  unfold AD.logF
  rw [has_file]
  cases hf : a.file sLog with
  | none => rw [hf] at h1 h2 h3 h4; exact ⟨h1, h2, h4, h3⟩
  | some f => rw [hf] at h1 h2 h3 h4; exact ⟨h1, h2, h4, h3⟩
theorem logF_le {w : World} {d : Nat} {a : AD} {B : Nat → Prop} (D : DK w d a B) : a.logF.dat.length ≤ 2 ^ 24 ∧ a.logF.safe ≤ a.logF.dat.length := by
  have wf := D.wf
  have ht := wf.tot
  unfold AD.logF
  cases hf : a.file sLog with
  | none => simp
  | some f =>
    have := dat_le_total (file_mem hf)
    have := wf.safe f (file_mem hf)
    simp; omega
set_option maxHeartbeats 2000000 in
theorem jopen_ok {w : World} {d : Nat} {a : AD} {B : Nat → Prop} {aB aS : Addr} {K : Value → World → Prop} (D : DK w d a B) (hE : ∀ w', Ch B w w' → ErrsA w' aB aS) (hsort : ltS a) (hcnt : a.fs.length ≤ 2 ^ 40)
    (hno : ∀ w' B', DK w' d a.jopen.2.1 B' → Ch B w w' → (∀ b, B' b → B b ∨ w.heap.size ≤ b) → a.jopen.2.2 = none → K (.tuple #[.pointer none, .slice none 0 0, .int .i64 a.jopen.1]) w')
    (hyes : ∀ w' B' jb j L q m cq own R, a.jopen = (0, a.jopen.2.1, some (j, L)) → JD w' jb d a.jopen.2.1 j B' → Ch B w w' → (∀ b, B' b → B b ∨ w.heap.size ≤ b) → w.heap.size ≤ jb → BtE.Row w' q m cq own R → R.map Bt.says = L →
      (∀ b ∈ BtE.rowB own R, w.heap.size ≤ b ∧ ¬ B' b ∧ b ≠ jb) → K (.tuple #[.pointer (some ⟨jb, 0, none⟩), .slice q m cq, .int .i64 0]) w') :
    callP Tryz.prog 18 [.pointer (some ⟨d, 0, none⟩)] w K := by
  have hll := logF_le D
  have hnd : ND a := D.names
  refine ok_journal_Open ?_
  unfold wp_journal_Open
  unfold AD.jopen at hno hyes
  refine Sif_false (up_ok D fun w1 B1 D1 c1 n1 => ⟨_, rfl, Sif_cases (fun hu => ?_) fun hu => ?_⟩)
  · have hu' : a.down = true := by simpa using hu
    rw [if_pos hu'] at hno
    exact hno w1 B1 D1 c1 n1 rfl
  have hup : a.down = false := by simpa using hu
  rw [if_neg (by simp [hup])] at hno hyes
  have c01 : Ch B w w1 := c1
  refine jfile_ok D1 hsort (by omega) fun w2 B2 s p n c sf b D2 c2 n2 fo => ⟨_, _, _, _, _, _, rfl, ?_⟩
  obtain ⟨hb, hn, hsf, own, ow, hfr⟩ := fo.log
  subst hb hn hsf
  have hz1 := c1.size
  have hz2 := c2.size
  have n02 : ∀ b, B2 b → B b ∨ w.heap.size ≤ b := fun b h => n1 b (n2 b h)
  have c02 : Ch B w w2 := c01.trans c2 fun x hx h => by
    rcases n1 x h with h | h
    · exact h
    · omega
  refine box3 fun w6 b6 c6 z6 => ?_
  simp only [add_at, Nat.zero_add]
  have c06 := c02.new c6
  have D6 := D2.ch c6 fun _ _ => id
  have ow6 := ow.ch c6 fun _ _ => id
  have hg1 : w6.cell? ⟨w2.heap.size, 1, none⟩ = some (.slice p a.logF.dat.length c) := by rw [cell_blk b6]; rfl
  have hg2 : w6.cell? ⟨w2.heap.size, 2, none⟩ = some (.int .i64 (a.logF.safe : Int)) := by rw [cell_blk b6]; rfl
  refine ⟨_, _, _, hg1, _, hg2, ?_⟩
  refine scan_ok ow6.rd ow6.2.1 (by omega) (hE w6 c06) fun w7 q m cq own7 R c7 hsay hrow hfr7 => ⟨_, _, _, _, _, rfl, ?_⟩
  have c07 := c06.new c7
  have D7 := D6.ch c7 fun _ _ => id
  have hscan : a.scan = scanA a.logF.dat a.logF.safe := rfl
  rw [← hscan] at hsay ⊢
  refine Sif_cases (fun he => ?_) fun he => ?_
  · have he' : a.scan.2.2 ≠ 0 := by simpa using he
    rw [if_pos he'] at hno
    exact hno w7 B2 D7 c07 n02 rfl
  have he' : a.scan.2.2 = 0 := by simpa using he
  rw [if_neg (by simpa using he')] at hno hyes
  have hsl : a.scan.2.1 = (scanL a.logF.dat).2 := by
    unfold AD.scan scanA at he' ⊢
    split
    · rename_i h; rw [if_pos h] at he'; simp at he'
    · rename_i h; rw [if_neg h] at he'
      split
      · rfl
      · rfl
  rw [hsl]
  have hsle := scanL_le a.logF.dat
  have b7 : blk w7 w2.heap.size = some [.string s, .slice p a.logF.dat.length c, .int .i64 (a.logF.safe : Int)] := by rw [c7.blk (blk_lt b6) id]; exact b6
  refine ⟨_, _, _, by rw [cell_blk b7]; rfl, ?_⟩
  refine newB_blk fun w8 b8 c8 z8 => ?_
  have z7 := c7.size
  have D8 := D7.ch c8 fun _ _ => id
  have c08 := c07.new c8
  have hB8 : ∀ b, B2 b → b < w2.heap.size := D2.lt
  have hj8 : JM w8 w7.heap.size d a.openJ := by
    unfold JM
    rw [b8]
    unfold AD.openJ
    have e : decide (((scanL a.logF.dat).2 : Int) < (a.logF.dat.length : Int)) = decide ((scanL a.logF.dat).2 < a.logF.dat.length) := by
      congr 1; apply propext; omega
    rw [e]
  have H8 : JD w8 w7.heap.size d a a.openJ B2 := ⟨hj8, D8, fun h => by have := hB8 _ h; omega⟩
  have b8' : blk w8 w2.heap.size = some [.string s, .slice p a.logF.dat.length c, .int .i64 (a.logF.safe : Int)] := by rw [c8.blk (blk_lt b7) id]; exact b7
  have hrow8 := hrow.ch c8 fun _ _ => id
  have hz8 : w8.heap.size = w7.heap.size + 1 := z8
  have hrl := hrow.lt
  -- what stays, whatever the journal and its disk do
  let St : World → (Nat → Prop) → AD → AJ → Prop := fun wx Bx ax jx => JD wx w7.heap.size d ax jx Bx ∧ Ch (fun b => B2 b ∨ b = w7.heap.size) w8 wx ∧ ∀ b, Bx b → B2 b ∨ w8.heap.size ≤ b
  have stB : ∀ wx Bx ax jx, St wx Bx ax jx → (∀ b, Bx b → B b ∨ w.heap.size ≤ b) ∧ Ch B w wx := fun wx Bx ax jx ⟨H, c, n⟩ => by
    refine ⟨fun b h => ?_, c08.trans c fun x hx h => ?_⟩
    · rcases n b h with h | h
      · exact n02 b h
      · exact .inr (by omega)
    · rcases h with h | h
      · rcases n02 x h with h | h
        · exact h
        · omega
      · omega
  have stBlk : ∀ wx Bx ax jx, St wx Bx ax jx → blk wx w2.heap.size = some [.string s, .slice p a.logF.dat.length c, .int .i64 (a.logF.safe : Int)] := fun wx Bx ax jx ⟨H, c, n⟩ => by
    rw [c.blk (blk_lt b8') fun h => by
      rcases h with h | h
      · have := hB8 _ h; omega
      · omega]
    exact b8'
  have stNext : ∀ {w9 w10 B9 B10 a9 j9 a10 j10}, St w9 B9 a9 j9 → JD w10 w7.heap.size d a10 j10 B10 → Ch (fun b => B9 b ∨ b = w7.heap.size) w9 w10 → (∀ b, B10 b → B9 b ∨ w9.heap.size ≤ b) → St w10 B10 a10 j10 := fun ⟨H, c, n⟩ H' c' n' => ⟨H', chStep c n c', inStep c.size n n'⟩
  have fail : ∀ wx Bx ax jx (e : Int), St wx Bx ax jx → a.openB = (e, ax, none) → K (.tuple #[.pointer none, .slice none 0 0, .int .i64 e]) wx := fun wx Bx ax jx e S hob => by
    obtain ⟨n, cc⟩ := stB _ _ _ _ S
    rw [hob] at hno
    exact hno wx Bx S.1.dk cc n rfl
  have good : ∀ wx Bx ax jx, St wx Bx ax jx → a.openB = (0, ax, some jx) → K (.tuple #[.pointer (some ⟨w7.heap.size, 0, none⟩), .slice q m cq, .int .i64 0]) wx := fun wx Bx ax jx S hob => by
    obtain ⟨n, cc⟩ := stB _ _ _ _ S
    rw [hob] at hyes
    obtain ⟨H, c, nn⟩ := S
    refine hyes wx Bx w7.heap.size jx a.scan.1 q m cq own7 R rfl H cc n (by omega) (hrow8.ch c fun b hb h => ?_) hsay fun b hb => ⟨by have := hfr7 b hb; omega, fun h => ?_, fun e => by have := hrl b hb; omega⟩
    · have h1 := hfr7 b hb
      have h2 := hrl b hb
      rcases h with h | h
      · have := hB8 _ h; omega
      · omega
    · have h1 := hfr7 b hb
      have h2 := hrl b hb
      rcases nn b h with h | h
      · have := hB8 _ h; omega
      · omega
  refine ⟨fun w9 => ∃ B9, a.tidy.1 = 0 ∧ St w9 B9 a.tidy.2 a.openJ, ?_, ?_⟩
  · rintro w9 ⟨B9, ht, S9⟩
    obtain ⟨hcode, hread, hup9, nd9, hth⟩ := there_eq hnd hup (fun f hf => D.wf.safe f (file_mem hf)) ht
    have hsure : Sure a.tidy.2 a.openJ := fun t _ => (hread t).2.2
    refine ⟨fun b2 w10 => ∃ B10, ((a.tidy.2.cut a.openJ).1 = 0 ∨ (a.tidy.2.cut a.openJ).1 = 190) ∧ b2 = a.there (a.tidy.2.cut a.openJ).1 ∧ St w10 B10 (a.tidy.2.cut a.openJ).2.1 (a.tidy.2.cut a.openJ).2.2, ?_, ?_⟩
    · rintro b2 w10 ⟨B10, hcd, rfl, S10⟩
      have hnf : ¬ ((a.tidy.2.cut a.openJ).1 ≠ 0 ∧ (a.tidy.2.cut a.openJ).1 ≠ 190) := fun h => by
        rcases hcd with h' | h'
        · exact h.1 h'
        · exact h.2 h'
      refine ⟨fun w11 => ∃ B11 ax jx, a.openB = (0, ax, some jx) ∧ St w11 B11 ax jx, ?_, ?_⟩
      · rintro w11 ⟨B11, ax, jx, hob, S11⟩
        exact good w11 B11 ax jx S11 hob
      · refine Sif_cases (fun hb => ?_) fun hb => ?_
        · refine sync_ok S10.1.dk (by decide) fun w11 B11 D11 c11 n11 => ⟨_, rfl, ?_⟩
          have S11 : St w11 B11 (step ((a.tidy.2.cut a.openJ).2.1.sync sLog)).2 (a.tidy.2.cut a.openJ).2.2 := stNext S10 (S10.1.disk D11.sort c11 n11) (chOr1 c11) n11
          refine Sif_cases (fun h => ?_) fun h => ?_
          · have h' : ¬ ((a.tidy.2.cut a.openJ).2.1.sync sLog).1 = 0 := by simpa using h
            refine fail w11 B11 _ _ _ S11 ?_
            unfold AD.openB
            rw [if_neg (by simpa using ht), if_neg hnf, if_neg (by simp [hb]), if_pos (by exact h')]
            rfl
          · have h' : ((a.tidy.2.cut a.openJ).2.1.sync sLog).1 = 0 := by simpa using h
            refine ⟨B11, _, _, ?_, S11⟩
            unfold AD.openB
            rw [if_neg (by simpa using ht), if_neg hnf, if_neg (by simp [hb]), if_neg (by exact fun e => e h')]
        · refine ⟨B10, _, _, ?_, S10⟩
          unfold AD.openB
          rw [if_neg (by simpa using ht), if_neg hnf, if_pos hb]
    · refine jcut_ok S9.1 hsure fun w10 B10 H10 c10 n10 => ⟨_, rfl, ?_⟩
      have S10 : St w10 B10 (a.tidy.2.cut a.openJ).2.1 (a.tidy.2.cut a.openJ).2.2 := stNext S9 H10 c10 n10
      have b10 := stBlk _ _ _ _ S10
      have g1 : w10.cell? ⟨w2.heap.size, 1, none⟩ = some (.slice p a.logF.dat.length c) := by rw [cell_blk b10]; rfl
      have g2 : w10.cell? ⟨w2.heap.size, 2, none⟩ = some (.int .i64 (a.logF.safe : Int)) := by rw [cell_blk b10]; rfl
      have e1 : decide ((a.logF.safe : Int) < (a.logF.dat.length : Int)) = decide (a.logF.safe < a.logF.dat.length) := by congr 1; apply propext; omega
      have e2 : (((scanL a.logF.dat).2 : Int) == (a.logF.dat.length : Int)) = decide ((scanL a.logF.dat).2 = a.logF.dat.length) := by
        by_cases h : (scanL a.logF.dat).2 = a.logF.dat.length
        · simp [h]
        · have : ¬ ((scanL a.logF.dat).2 : Int) = (a.logF.dat.length : Int) := by omega
          simp [h, this]
      refine Sif_cases (fun h => ?_) fun h => ?_
      · have h' : (a.tidy.2.cut a.openJ).1 = 0 := by simpa using h
        have ht0 : a.there (a.tidy.2.cut a.openJ).1 = (a.has sLog && decide (a.logF.safe < a.logF.dat.length) && decide ((scanL a.logF.dat).2 = a.logF.dat.length)) := by unfold AD.there; rw [if_pos h']
        refine Sif_cases (fun hb => ⟨_, g2, _, _, _, g1, Sif_cases (fun hs => ⟨_, _, _, g1, B10, .inl h', ?_, S10⟩) fun hs => ⟨B10, .inl h', ?_, S10⟩⟩) fun hb => ⟨B10, .inl h', ?_, S10⟩
        · rw [e1] at hs
          rw [ht0, hb, hs, e2]; rfl
        · rw [e1] at hs
          rw [ht0, hs]; simp
        · rw [ht0, hb]; rfl
      · have h' : ¬ (a.tidy.2.cut a.openJ).1 = 0 := by simpa using h
        refine Sif_cases (fun h2 => ?_) fun h2 => ?_
        · have h2' : (a.tidy.2.cut a.openJ).1 = 190 := by simpa using h2
          refine ⟨_, g2, _, _, _, g1, B10, .inr h2', ?_, S10⟩
          unfold AD.there
          rw [if_neg h', e1]
        · have h2' : ¬ (a.tidy.2.cut a.openJ).1 = 190 := by simpa using h2
          refine fail w10 B10 _ _ 3 S10 ?_
          unfold AD.openB
          rw [if_neg (by simpa using ht), if_pos ⟨h', h2'⟩]
  · refine jfile_ok D8 hsort (by omega) fun w9 B9 s1 p1 m1 cc1 sf1 b1 D9 c9 n9 fo9 => ⟨_, _, _, _, _, _, rfl, ?_⟩
    refine box3 fun w13 b13 c13 z13 => ?_
    have hb1 : b1 = a.has sNew := by rw [has_file]; exact fo9.yes
    have c813 : Ch (fun b => B2 b ∨ b = w7.heap.size) w8 w13 := (chOr1 c9).new c13
    have S13 : St w13 B9 a a.openJ := ⟨(H8.disk D9 c9 fun b h => .inl (n9 b h)).ch0 c13, c813, fun b h => .inl (n9 b h)⟩
    subst hb1
    refine Sif_cases (fun hh => ?_) fun hh => ?_
    · have htd : a.tidy = step (a.delete sNew) := by unfold AD.tidy; rw [if_pos hh]
      refine delete_ok S13.1.dk (by decide) fun w14 B14 D14 c14 n14 => ⟨_, rfl, ?_⟩
      have S14 : St w14 B14 a.tidy.2 a.openJ := by rw [htd]; exact stNext S13 (S13.1.disk D14.sort c14 n14) (chOr1 c14) n14
      refine Sif_cases (fun h => ?_) fun h => ?_
      · have h' : ¬ (a.delete sNew).1 = 0 := by simpa using h
        refine fail w14 B14 _ _ _ S14 ?_
        unfold AD.openB
        rw [htd, if_pos (by exact h')]
        rfl
      · have h' : (a.delete sNew).1 = 0 := by simpa using h
        exact ⟨B14, by rw [htd]; exact h', S14⟩
    · have htd : a.tidy = (0, a) := by unfold AD.tidy; rw [if_neg (bool_not_true hh)]
      exact ⟨B9, by rw [htd], by rw [htd]; exact S13⟩
theorem jopen_nil {w : World} {K : Value → World → Prop} (hk : K (.tuple #[.pointer none, .slice none 0 0, .int .i64 1]) w) : callP Tryz.prog 18 [.pointer none] w K := by
  refine ok_journal_Open ?_
  unfold wp_journal_Open
  exact Sif_true hk
end Go.Proofs.YtipololccbdojaaGreatDoor
