/-
  The disk's acts keep what the document's disk asks of its files. The document's journal over the document's disk: what it holds; down, noted, replaced, file, cut. The document's journal: Add, Shorten, Size. The document's journal: Shorten. The document's journal: Open.
-/
import Derived.Test.YtipololccbdojaaGreatDoorJhold
import Derived.Test.YtipololccbdojaaGreatDoorRefH
import Derived.Test.YtipololccbdojaaGreatDoorJopen
import Derived.Test.YtipololccbdojaaGreatDoorJrview
import Derived.Test.YtipololccbdojaaGreatDoorJrscan
import Derived.Test.YtipololccbdojaaGreatDoorJweigh
import Derived.Test.YtipololccbdojaaGreatDoorJsmall
namespace Go.Proofs.YtipololccbdojaaGreatDoor
open Go Go.Sv
set_option linter.unusedVariables false
set_option maxRecDepth 4000

structure RA (a : AD) (k : Nat) : Prop where
  wf : WF a
  nd : ND a
  kp : -9223372036854775808 ≤ a.keep
  cnt : a.fs.length ≤ k
section
variable {a : AD} {k k' : Nat}
theorem RA.more (h : RA a k) (hk : k ≤ k') : RA a k' := ⟨h.wf, h.nd, h.kp, Nat.le_trans h.cnt hk⟩
theorem RA.sort (h : RA a k) : RA a.sorted k := ⟨h.wf.perm a.sorted_perm, nd_sorted h.nd, h.kp, by rw [sorted_len]; exact h.cnt⟩
theorem RA.act (h : RA a k) : RA a.act k := ⟨h.wf.act, h.nd, h.kp, h.cnt⟩
theorem RA.fall (h : RA a k) (x : Int) : RA (a.fall x) k := ⟨h.wf.fall x, nd_fall x h.nd, h.kp, by show (a.fs.map _).length ≤ k; rw [List.length_map]; exact h.cnt⟩
theorem RA.done {g : AD → AD} (h : RA a k) (hg : RA (g a.act) k') (hk : k ≤ k') : RA (a.done g).2 k' := by
  unfold AD.done
  split
  · exact (h.fall _).more hk
  · exact hg
theorem tot_grow_le {fs : List File} {n : ByteArray} {l : List UInt8} (nd : (fs.map (·.name)).Nodup) : total (fs.map fun f => if f.name = n then growF l f else f) ≤ total fs + l.length := by
  by_cases h : ∃ f ∈ fs, f.name = n
  · exact Nat.le_of_eq (tot_grow nd h)
  · have : (fs.map fun f => if f.name = n then growF l f else f) = fs := by
      conv => rhs; rw [← List.map_id fs]
      refine List.map_congr_left fun x hx => ?_
      have : x.name ≠ n := fun e => h ⟨x, hx, e⟩
      simp [this]
    rw [this]; omega
theorem RA.append (h : RA a k) (n : ByteArray) (l : List UInt8) : RA (step (a.append n l)).2 (k + 1) := by
  show RA (a.append n l).2.sorted (k + 1)
  refine RA.sort ?_
  unfold AD.append
  split
  · exact h.more (by omega)
  rename_i he
  split
  · exact h.more (by omega)
  rename_i hr
  have hm : RA (a.more n) (k + 1) ∧ total (a.more n).fs = total a.fs ∧ (a.more n).room = a.room := by
    unfold AD.more
    split
    · rename_i h191
      have hno : nameOk n = true ∧ a.has n = false := by
        rcases AD.err_cases a n with e | e | ⟨_, e⟩ | ⟨e, _⟩
        · exact absurd (.inl e) he
        · exact absurd (.inr e) he
        · exact e
        · rw [h191] at e; cases e
      refine ⟨⟨⟨fun f hf => ?_, ?_, h.wf.room, h.wf.acts1, h.wf.acts2, fun f hf => ?_⟩, ?_, h.kp, ?_⟩, ?_, rfl⟩
      · rcases List.mem_cons.1 hf with rfl | hf
        · exact Nat.le_refl _
        · exact h.wf.safe f hf
      · show (total (_ :: a.fs) : Int) ≤ _
        rw [total_cons]; have := h.wf.fits; simpa using this
      · rcases List.mem_cons.1 hf with rfl | hf
        · exact hno.1
        · exact h.wf.names f hf
      · show (n :: a.fs.map (·.name)).Nodup
        refine List.nodup_cons.2 ⟨fun hm => ?_, h.nd⟩
        obtain ⟨f, hf, e⟩ := List.mem_map.1 hm
        have h2 := hno.2
        unfold AD.has at h2
        rw [List.any_eq_false] at h2
        exact h2 f hf (by simpa using e)
      · show (_ :: a.fs).length ≤ k + 1
        have := h.cnt
        simp; omega
      · show total (_ :: a.fs) = _
        rw [total_cons]; simp
    · exact ⟨h.more (by omega), rfl, rfl⟩
  obtain ⟨h1, h2, h3⟩ := hm
  have hu : RA ((a.more n).act.upd n (growF l)) (k + 1) := by
    refine ⟨h1.act.wf.upd (fun f hf _ => ⟨rfl, by have := h1.wf.safe f hf; simp [growF]; omega⟩) ?_, nd_upd (fun _ => rfl) h1.act.nd, h1.kp, ?_⟩
    · have h4 := tot_grow_le (n := n) (l := l) h1.nd
      show (total ((a.more n).fs.map _) : Int) ≤ (a.more n).room
      rw [h3]; omega
    · show ((a.more n).fs.map _).length ≤ _
      rw [List.length_map]; exact h1.cnt
  split
  · exact hu.fall _
  · exact hu
theorem RA.sync (h : RA a k) (n : ByteArray) : RA (step (a.sync n)).2 k := by
  show RA (a.sync n).2.sorted k
  refine RA.sort ?_
  unfold AD.sync
  split
  · exact h
  · refine h.done (⟨h.act.wf.upd (fun f _ _ => ⟨rfl, Nat.le_refl _⟩) ?_, nd_upd (fun _ => rfl) h.act.nd, h.kp, ?_⟩) (Nat.le_refl _)
    · show (total (a.fs.map _) : Int) ≤ a.room
      rw [total_upd (g := sealF) fun _ => rfl]; exact h.wf.fits
    · show (a.fs.map _).length ≤ _
      rw [List.length_map]; exact h.cnt
theorem RA.delete (h : RA a k) (n : ByteArray) : RA (step (a.delete n)).2 k := by
  show RA (a.delete n).2.sorted k
  refine RA.sort ?_
  unfold AD.delete
  split
  · exact h
  · refine h.done ⟨h.act.wf.gone n, nd_filter _ h.nd, h.kp, ?_⟩ (Nat.le_refl _)
    exact Nat.le_trans (List.length_filter_le ..) h.cnt
theorem RA.rename (h : RA a k) (n m : ByteArray) : RA (step (a.rename n m)).2 (k + 1) := by
  show RA (a.rename n m).2.sorted (k + 1)
  refine RA.sort ?_
  unfold AD.rename
  split
  · exact h.more (by omega)
  rename_i he
  split
  · exact h.more (by omega)
  rename_i f hf
  split
  · exact h.more (by omega)
  rename_i hs
  refine h.done ?_ (by omega)
  unfold moveF
  split
  · exact h.act.more (by omega)
  have hnm : nameOk m = true := by
    have he : a.err [n, m] n = 0 := by simpa using he
    unfold AD.err at he
    split at he
    · cases he
    · split at he
      · cases he
      · rename_i h1
        simp at h1
        exact h1.2
  have hfm := List.mem_of_find?_eq_some hf
  refine ⟨⟨fun g hg => ?_, ?_, h.wf.room, h.act.wf.acts1, h.act.wf.acts2, fun g hg => ?_⟩, ?_, h.kp, ?_⟩
  · rcases List.mem_cons.1 hg with rfl | hg
    · exact h.wf.safe f hfm
    · exact h.wf.safe g (List.mem_filter.1 (List.mem_filter.1 hg).1).1
  · have e1 := tot_gone (n := n) h.nd
    rw [hf] at e1
    have e2 : ((a.fs.filter fun g => decide (g.name ≠ m)).filter fun g => decide (g.name ≠ n)) = (a.fs.filter fun g => decide (g.name ≠ n)).filter fun g => decide (g.name ≠ m) := by
      rw [List.filter_filter, List.filter_filter]
      congr 1; funext g; exact Bool.and_comm _ _
    have e3 := total_filter (fun g => decide (g.name ≠ m)) (a.fs.filter fun g => decide (g.name ≠ n))
    have e4 := h.wf.fits
    show (total (_ :: ((a.fs.filter fun g => decide (g.name ≠ m)).filter fun g => decide (g.name ≠ n))) : Int) ≤ a.room
    rw [total_cons, e2]
    simp only [Option.map_some, Option.getD_some] at e1
    show ((f.dat.length + _ : Nat) : Int) ≤ _
    omega
  · rcases List.mem_cons.1 hg with rfl | hg
    · exact hnm
    · exact h.wf.names g (List.mem_filter.1 (List.mem_filter.1 hg).1).1
  · show (m :: (((a.fs.filter fun g => decide (g.name ≠ m)).filter fun g => decide (g.name ≠ n)).map (·.name))).Nodup
    refine List.nodup_cons.2 ⟨fun hm => ?_, ((List.filter_sublist.trans List.filter_sublist).map _).nodup h.nd⟩
    obtain ⟨g, hg, e⟩ := List.mem_map.1 hm
    have := (List.mem_filter.1 (List.mem_filter.1 hg).1).2
    simp [e] at this
  · show (_ :: ((a.fs.filter fun g => decide (g.name ≠ m)).filter fun g => decide (g.name ≠ n))).length ≤ k + 1
    have e1 := List.length_filter_le (fun g : File => decide (g.name ≠ n)) (a.fs.filter fun g => decide (g.name ≠ m))
    have e2 := List.length_filter_le (fun g : File => decide (g.name ≠ m)) a.fs
    have := h.cnt
    rw [List.length_cons]
    omega
theorem RA.repl (h : RA a k) (b : List UInt8) : RA (a.repl b).2 (k + 2) := by
  unfold AD.repl
  split
  · exact (h.append _ _).more (by omega)
  split
  · exact ((h.append _ _).sync _).more (by omega)
  · exact ((h.append _ _).sync _).rename _ _
end
end Go.Proofs.YtipololccbdojaaGreatDoor
namespace Go.Proofs.YtipololccbdojaaGreatDoor
open Go Go.Sv
set_option linter.unusedVariables false
set_option maxRecDepth 4000

theorem Made.ch {S B : Nat → Prop} {w w' : World} {q : Option Addr} {t cq : Nat} {own : Option Nat} {Y : List BV} (h : Made w B q t cq own Y) (c : Ch S w w') (ho : ∀ b, own = some b → ¬ S b) (hn : ∀ b, B b → ¬ S b) : Made w' B q t cq own Y :=
  ⟨h.len, h.row.ch c ho, fun y hy => (h.ok y hy).ch c hn⟩
theorem Made.of_row {w : World} {q : Option Addr} {m cq : Nat} {own : Option Nat} {R : List Bt} (h : BtE.Row w q m cq own R) : Made w (fun b => b ∈ R.flatMap BtE.B) q m cq own (R.map Bt.view) := by
  obtain ⟨h1, h2, h3, h4⟩ := h
  refine ⟨by simpa using h1, ?_, fun x hx => ?_⟩
  · have e : (R.map Bt.view).flatMap BV.cells = R.flatMap BtE.g := by rw [List.flatMap_map]; rfl
    rw [e]; exact h2
  · obtain ⟨y, hy, rfl⟩ := List.mem_map.1 hx
    have hy2 : RcE.Row w y.s.p y.s.n y.s.c y.s.own y.r := h3 y hy
    exact ⟨(RcE.Row.view hy2).mono fun b hb => List.mem_flatMap.2 ⟨y, hy, hb⟩, hy2.2.1.2.1⟩
/-- the document's journal: its disk, the batches that it keeps -/
structure KD (w : World) (kb r : Nat) (a : AD) (j : AJ) (L : List Batch) (B Bv : Nat → Prop) (own : Option Nat) : Prop where
  m : ∃ (p : Option Addr) (n c : Nat) (Y : List BV), blk w kb = some [.pointer (some ⟨r, 0, none⟩), .slice p n c, .int .i64 (j.size : Int), .bool j.tail, .bool j.down] ∧ Made w Bv p n c own Y ∧ saysL Y = L
  rk : RK w r a B
  nkb : ¬ B kb
  ownB : ∀ b, own = some b → ¬ B b ∧ b ≠ kb ∧ ¬ Bv b
  vB : ∀ b, Bv b → b < w.heap.size ∧ ¬ B b ∧ b ≠ kb
  ne : ∀ R ∈ L, R ≠ []
abbrev Fk (B : Nat → Prop) (kb : Nat) (own : Option Nat) : Nat → Prop := fun b => B b ∨ b = kb ∨ own = some b
abbrev KPost (w : World) (kb r : Nat) (a' : AD) (j' : AJ) (L' : List Batch) (B Bv : Nat → Prop) (own : Option Nat) (K : World → Prop) : Prop := ∀ w' B' own', KD w' kb r a' j' L' B' Bv own' → Ch (Fk B kb own) w w' → (∀ b, B' b ∨ own' = some b → B b ∨ own = some b ∨ w.heap.size ≤ b) → K w'
section
variable {w w' : World} {kb r : Nat} {a a' : AD} {j j' : AJ} {L L' : List Batch} {B B' Bv : Nat → Prop} {own : Option Nat}
theorem KD.lt (H : KD w kb r a j L B Bv own) : kb < w.heap.size := by
  obtain ⟨p, n, c, Y, h, _⟩ := H.m
  exact blk_lt h
theorem KD.olt (H : KD w kb r a j L B Bv own) : ∀ b, own = some b → b < w.heap.size := fun b hb => by
  obtain ⟨p, n, c, Y, _, h, _⟩ := H.m
  exact h.row.blt b hb
theorem KD.blt (H : KD w kb r a j L B Bv own) : ∀ b, Fk B kb own b → b < w.heap.size := fun b h => by
  rcases h with h | rfl | h
  · exact H.rk.lt b h
  · exact H.lt
  · exact H.olt b h
theorem KD.vF (H : KD w kb r a j L B Bv own) : ∀ b, Bv b → ¬ Fk B kb own b := fun b hb h => by
  rcases h with h | h | h
  · exact (H.vB b hb).2.1 h
  · exact (H.vB b hb).2.2 h
  · exact (H.ownB b h).2.2 hb
theorem KD.ch {S : Nat → Prop} (H : KD w kb r a j L B Bv own) (c : Ch S w w') (hn : ∀ b, Fk B kb own b → ¬ S b) (hv : ∀ b, Bv b → ¬ S b) : KD w' kb r a j L B Bv own := by
  have hlt := H.lt
  obtain ⟨p, n, cc, Y, h1, h2, h3⟩ := H.m
  exact ⟨⟨p, n, cc, Y, by rw [c.blk hlt (hn _ (.inr (.inl rfl)))]; exact h1, h2.ch c (fun b hb => hn b (.inr (.inr hb))) hv, h3⟩, H.rk.ch c fun b hb => hn b (.inl hb), H.nkb, H.ownB, fun b hb => ⟨by have := (H.vB b hb).1; have := c.size; omega, (H.vB b hb).2⟩, H.ne⟩
theorem KD.ch0 (H : KD w kb r a j L B Bv own) (c : Ch (fun _ => False) w w') : KD w' kb r a j L B Bv own := H.ch c (fun _ _ => id) fun _ _ => id
/-- the disk has done something -/
theorem KD.disk (H : KD w kb r a j L B Bv own) (R : RK w' r a' B') (c : Ch B w w') (n : ∀ b, B' b → B b ∨ w.heap.size ≤ b) : KD w' kb r a' j L B' Bv own := by
  have hlt := H.lt
  obtain ⟨p, nn, cc, Y, h1, h2, h3⟩ := H.m
  refine ⟨⟨p, nn, cc, Y, by rw [c.blk hlt H.nkb]; exact h1, h2.ch c (fun b hb => (H.ownB b hb).1) fun b hb => (H.vB b hb).2.1, h3⟩, R, fun h => ?_, fun b hb => ⟨fun h => ?_, (H.ownB b hb).2⟩, fun b hb => ⟨by have := (H.vB b hb).1; have := c.size; omega, fun h => ?_, (H.vB b hb).2.2⟩, H.ne⟩
  · rcases n _ h with h | h
    · exact H.nkb h
    · omega
  · rcases n _ h with h | h
    · exact (H.ownB b hb).1 h
    · have := H.olt b hb; omega
  · rcases n _ h with h | h
    · exact (H.vB b hb).2.1 h
    · have := (H.vB b hb).1; omega
theorem KD.c0 (H : KD w kb r a j L B Bv own) : w.cell? ⟨kb, 0, none⟩ = some (.pointer (some ⟨r, 0, none⟩)) := by obtain ⟨p, n, c, Y, h, _⟩ := H.m; rw [cell_blk h]; rfl
theorem KD.c2 (H : KD w kb r a j L B Bv own) : w.cell? ⟨kb, 2, none⟩ = some (.int .i64 (j.size : Int)) := by obtain ⟨p, n, c, Y, h, _⟩ := H.m; rw [cell_blk h]; rfl
theorem KD.c3 (H : KD w kb r a j L B Bv own) : w.cell? ⟨kb, 3, none⟩ = some (.bool j.tail) := by obtain ⟨p, n, c, Y, h, _⟩ := H.m; rw [cell_blk h]; rfl
theorem KD.c4 (H : KD w kb r a j L B Bv own) : w.cell? ⟨kb, 4, none⟩ = some (.bool j.down) := by obtain ⟨p, n, c, Y, h, _⟩ := H.m; rw [cell_blk h]; rfl
theorem KD.st (H : KD w kb r a j L B Bv own) {o : Nat} {v : Value} {K : World → Prop} (ho : o < 5) (he : ∀ p n c, ([.pointer (some ⟨r, 0, none⟩), .slice p n c, .int .i64 (j.size : Int), .bool j.tail, .bool j.down] : List Value).set o v = [.pointer (some ⟨r, 0, none⟩), .slice p n c, .int .i64 (j'.size : Int), .bool j'.tail, .bool j'.down])
    (hk : ∀ w', KD w' kb r a j' L B Bv own → Ch (· = kb) w w' → w'.heap.size = w.heap.size → K w') : Sv.st w ⟨kb, o, none⟩ v K := by
  obtain ⟨p, n, cc, Y, h1, h2, h3⟩ := H.m
  refine st_blk h1 (by simpa using ho) fun w' hb hc hz => hk w' ⟨⟨p, n, cc, Y, by rw [hb, he], h2.ch hc (fun b hb e => (H.ownB b hb).2.1 e) fun b hb e => (H.vB b hb).2.2 e, h3⟩, H.rk.ch hc fun b hb e => H.nkb (e ▸ hb), H.nkb, H.ownB, fun b hb => ⟨by have := (H.vB b hb).1; omega, (H.vB b hb).2⟩, H.ne⟩ hc hz
theorem kchB {w w' : World} {B : Nat → Prop} {kb : Nat} {own : Option Nat} (c : Ch B w w') : Ch (Fk B kb own) w w' := c.mono fun _ _ => .inl
theorem kchK {w w' : World} {B : Nat → Prop} {kb : Nat} {own : Option Nat} (c : Ch (· = kb) w w') : Ch (Fk B kb own) w w' := c.mono fun _ _ h => .inr (.inl h)
theorem KPost.go {w1 : World} {B1 : Nat → Prop} {own1 : Option Nat} {K : World → Prop} (hk : KPost w kb r a' j' L' B Bv own K) (c : Ch (Fk B kb own) w w1) (hb : ∀ b, B1 b ∨ own1 = some b → B b ∨ own = some b ∨ w.heap.size ≤ b) : KPost w1 kb r a' j' L' B1 Bv own1 K := fun w' B' own' H' c' h' =>
  hk w' B' own' H' (c.trans c' fun x hx h => by
    rcases h with h | h | h
    · rcases hb x (.inl h) with h | h | h
      · exact .inl h
      · exact .inr (.inr h)
      · omega
    · exact .inr (.inl h)
    · rcases hb x (.inr h) with h | h | h
      · exact .inl h
      · exact .inr (.inr h)
      · omega) fun b h => by
    rcases h' b h with h | h | h
    · exact hb b (.inl h)
    · exact hb b (.inr h)
    · have := c.size; exact .inr (.inr (by omega))
theorem kdown_ok {K : Value → World → Prop} (H : KD w kb r a j L B Bv own) (hk : KPost w kb r a (j.look a) L B Bv own (K (.bool (j.look a).down))) : callP Tryz.prog 136 [.pointer (some ⟨kb, 0, none⟩)] w K := by
  refine ok_longshoreref20_Journal_down ?_
  unfold wp_longshoreref20_Journal_down
  simp only [nn_some, add_at, Nat.zero_add, Nat.add_zero]
  refine ⟨_, H.c0, rup_ok H.rk ⟨_, rfl, fun w2 => KD w2 kb r a (j.look a) L B Bv own ∧ Ch (Fk B kb own) w w2, ?_, ?_⟩⟩
  · rintro w2 ⟨H2, c2⟩
    exact ⟨_, H2.c4, hk w2 B own H2 c2 fun b h => h.elim .inl fun h => .inr (.inl h)⟩
  · refine Sif_cases (fun h => ?_) fun h => ?_
    · have h' : a.down = true := by simpa using h
      exact H.st (j' := j.look a) (by omega) (fun p n c => by simp [AJ.look, h']) fun w2 H2 c2 z2 => ⟨H2, kchK c2⟩
    · have h' : a.down = false := by simpa using h
      have e : j.look a = j := by unfold AJ.look; rw [h']; simp
      rw [e]
      exact ⟨H, Ch.refl _ _⟩
theorem knoted_ok {e : Int} {K : Value → World → Prop} (H : KD w kb r a j L B Bv own) (hk : KPost w kb r a (j.noted e) L B Bv own (K (.int .i64 e))) : callP Tryz.prog 138 [.pointer (some ⟨kb, 0, none⟩), .int .i64 e] w K := by
  refine ok_longshoreref20_Journal_noted ?_
  unfold wp_longshoreref20_Journal_noted
  simp only [nn_some, add_at, Nat.zero_add, Nat.add_zero]
  refine ⟨fun w2 => KD w2 kb r a (j.noted e) L B Bv own ∧ Ch (Fk B kb own) w w2, ?_, ?_⟩
  · rintro w2 ⟨H2, c2⟩
    exact hk w2 B own H2 c2 fun b h => h.elim .inl fun h => .inr (.inl h)
  · refine Sif_cases (fun h => ?_) fun h => ?_
    · exact H.st (j' := j.noted e) (by omega) (fun p n c => by simp [AJ.noted, h]) fun w2 H2 c2 z2 => ⟨H2, kchK c2⟩
    · have e1 : j.noted e = j := by unfold AJ.noted; rw [h]; simp
      rw [e1]
      exact ⟨H, Ch.refl _ _⟩
theorem rrepl_ok {k : Nat} {b : Option Addr} {bn bc : Nat} {l : List UInt8} {K : Value → World → Prop} (R : RK w r a B) (h : RA a k) (hk40 : k ≤ 2 ^ 40) (hb : Rd w b bn 1 (bytesV l)) (hbl : bn ≤ 2 ^ 62) (hbB : ∀ p, b = some p → bn ≠ 0 → ¬ B p.block)
    (hk : ∀ w' B', RK w' r (a.repl l).2 B' → Ch B w w' → (∀ b, B' b → B b ∨ w.heap.size ≤ b) → K (.int .i64 (a.repl l).1) w') :
    callP Tryz.prog 135 [.pointer (some ⟨r, 0, none⟩), .slice b bn bc] w K := by
  refine ok_longshoreref20_replaced ?_
  unfold wp_longshoreref20_replaced
  unfold AD.repl at hk
  have h1 := h.append sNew l
  have h2 := h1.sync sNew
  refine rappend_ok R h.wf (by have := h.cnt; omega) h.kp (by decide) hb hbl hbB fun w1 B1 R1 c1 n1 => ⟨_, rfl, ?_⟩
  have R1 : RK w1 r (step (a.append sNew l)).2 B1 := R1
  refine Sif_cases (fun h => ?_) fun h => ?_
  · have h' : ¬ (a.append sNew l).1 = 0 := by simpa using h
    rw [if_pos (by exact h')] at hk
    exact hk w1 B1 R1 c1 n1
  · have h' : (a.append sNew l).1 = 0 := by simpa using h
    rw [if_neg (by exact fun e => e h')] at hk
    refine rsync_ok R1 h1.wf (by have := h1.cnt; omega) h1.kp (by decide) fun w2 B2 R2 c2 n2 => ⟨_, rfl, ?_⟩
    have R2 : RK w2 r (step ((step (a.append sNew l)).2.sync sNew)).2 B2 := R2
    have c02 : Ch B w w2 := c1.trans c2 fun x hx h => (n1 x h).elim id fun h => by omega
    have n02 : ∀ b, B2 b → B b ∨ w.heap.size ≤ b := inStep c1.size n1 n2
    refine Sif_cases (fun h => ?_) fun h => ?_
    · have h' : ¬ ((step (a.append sNew l)).2.sync sNew).1 = 0 := by simpa using h
      rw [if_pos (by exact h')] at hk
      exact hk w2 B2 R2 c02 n02
    · have h' : ((step (a.append sNew l)).2.sync sNew).1 = 0 := by simpa using h
      rw [if_neg (by exact fun e => e h')] at hk
      refine rrename_ok R2 h2.wf (by have := h2.cnt; omega) h2.kp (by decide) (by decide) fun w3 B3 R3 c3 n3 => ⟨_, rfl, ?_⟩
      exact hk w3 B3 R3 (c02.trans c3 fun x hx h => (n02 x h).elim id fun h => by omega) (inStep c02.size n02 n3)
theorem Batch_len {Y : List BV} {y : BV} {w : World} (hok : y.ok w Bv) (hy : y ∈ Y) : y.n ≤ (allB (saysL Y)).length := by
  have hl := hok.rd.len
  have hmem : y.says ∈ saysL Y := List.mem_map.2 ⟨y, hy, rfl⟩
  have h1 : ∀ (M : List Batch) (R : Batch), R ∈ M → (batchB R).length ≤ (allB M).length := fun M => by
    induction M with
    | nil => intro R h; cases h
    | cons Q M ih =>
      intro R h
      rw [allB_cons, List.length_append]
      rcases List.mem_cons.1 h with rfl | h
      · omega
      · have := ih R h; omega
  have h2 := h1 _ _ hmem
  have h3 := body_le y.says
  have h4 : y.says.length ≤ (body y.says).length := by
    generalize y.says = R
    induction R with
    | nil => simp
    | cons r R ih =>
      rw [body_cons]
      simp only [List.length_append, be_length, List.length_cons]
      omega
  have h5 : y.says.length = y.n := by unfold BV.says; rw [saysR_len, hl]
  omega
theorem RA.get {k : Nat} (h : RA a k) (n : ByteArray) : (a.get n).length ≤ 2 ^ 24 := by
  have ht := h.wf.tot
  unfold AD.get
  cases hf : a.fs.find? fun f => decide (f.name = n) with
  | none => simp
  | some f => have := dat_le_total (List.mem_of_find?_eq_some hf); simp; omega
abbrev CPost (w : World) (kb r : Nat) (a' : AD) (j' : AJ) (L : List Batch) (B Bv : Nat → Prop) (own : Option Nat) (K : World → Prop) : Prop := ∀ w' B', KD w' kb r a' j' L B' Bv own → Ch (fun b => B b ∨ b = kb) w w' → (∀ b, B' b → B b ∨ w.heap.size ≤ b) → K w'
theorem kcut_ok' {k : Nat} {K : Value → World → Prop} (H : KD w kb r a j L B Bv own) (h : RA a k) (hk40 : k ≤ 2 ^ 40) (hn : L.length ≤ 2 ^ 39) (hL : j.tail = true → a.err [sLog] sLog = 0 ∧ (a.get sLog).take j.size = allB L)
    (hk : CPost w kb r (a.cut j).2.1 (a.cut j).2.2 L B Bv own (K (.int .i64 (a.cut j).1))) : callP Tryz.prog 105 [.pointer (some ⟨kb, 0, none⟩)] w K := by
  refine ok_longshoreref20_Journal_cut ?_
  unfold wp_longshoreref20_Journal_cut
  simp only [nn_some, add_at, Nat.zero_add, Nat.add_zero]
  unfold AD.cut at hk
  refine ⟨_, H.c3, Sif_cases (fun ht => ?_) fun ht => ?_⟩
  · have ht' : j.tail = false := by simpa using ht
    rw [if_pos ht'] at hk
    exact hk w B H (Ch.refl _ _) fun b => .inl
  · have ht' : j.tail = true := by simpa using ht
    obtain ⟨e1, e2⟩ := hL ht'
    rw [if_neg (by rw [ht']; simp), if_neg (by rw [e1]; simp), e2] at hk
    have hall : (allB L).length ≤ 2 ^ 24 := by
      rw [← e2, List.length_take]
      have := h.get sLog
      omega
    obtain ⟨p, n, c, Y, m1, m2, m3⟩ := H.m
    have hYl : Y.length = L.length := by rw [← m3]; simp [saysL]
    have hml := m2.len
    have V : VL w (fun b => Bv b ∨ own = some b) p n Y := m2.vl
    refine ⟨_, _, _, by rw [cell_blk m1]; rfl, ?_⟩
    refine rall_ok V (by rw [m3]; omega) (by omega) (fun y hy => by have := Batch_len (V.ok y hy) hy; rw [m3] at this; omega) fun w1 q m cq ob hm how hfr c1 => ⟨_, _, _, rfl, ?_⟩
    rw [m3] at hm how
    have H1 := H.ch0 c1
    refine ⟨_, H1.c0, rrepl_ok H1.rk h hk40 how.rd (by omega) (fun q' hq h0 hB => ?_) fun w2 B2 R2 c2 n2 => ⟨_, rfl, ?_⟩⟩
    · have h5 := how.inB (by decide) q' hq (by omega)
      have h6 := hfr _ h5
      have h7 := H.rk.lt _ hB
      omega
    have H2 := H1.disk R2 c2 n2
    have hz := c1.size
    have n02 : ∀ b, B2 b → B b ∨ w.heap.size ≤ b := fun b h => (n2 b h).imp id fun h => by omega
    have c02 : Ch (fun b => B b ∨ b = kb) w w2 := (c1.mono fun _ _ h => h.elim).trans (chOr1 (jb := kb) c2) fun _ _ => id
    refine ⟨fun w3 => K (.int .i64 (a.repl (allB L)).1) w3, fun _ => id, ?_⟩
    refine Sif_cases (fun hz => ?_) fun hz => ?_
    · have h3 : (a.repl (allB L)).1 = 0 := by simpa using hz
      rw [if_neg (by simpa using h3)] at hk
      rw [h3]
      exact H2.st (j' := { j with tail := false }) (by omega) (fun _ _ _ => rfl) fun w3 H3 c3 z3 => hk w3 B2 H3 (c02.trans (chOr2 (B := B) c3) fun _ _ => id) n02
    · have h3 : ¬ (a.repl (allB L)).1 = 0 := by simpa using hz
      rw [if_pos h3] at hk
      exact hk w2 B2 H2 c02 n02
theorem kcut_ok {k : Nat} {K : Value → World → Prop} (H : KD w kb r a j L B Bv own) (h : RA a k) (hk40 : k ≤ 2 ^ 40) (hn : L.length ≤ 2 ^ 39) (hL : j.tail = true → a.err [sLog] sLog = 0 ∧ (a.get sLog).take j.size = allB L)
    (hk : KPost w kb r (a.cut j).2.1 (a.cut j).2.2 L B Bv own (K (.int .i64 (a.cut j).1))) : callP Tryz.prog 105 [.pointer (some ⟨kb, 0, none⟩)] w K :=
  kcut_ok' H h hk40 hn hL fun w' B' H' c' n' => hk w' B' own H' (c'.mono fun _ _ h => h.elim .inl fun h => .inr (.inl h)) fun b h => h.elim (fun h => (n' b h).imp id .inr) fun h => .inr (.inl h)
end
end Go.Proofs.YtipololccbdojaaGreatDoor
namespace Go.Proofs.YtipololccbdojaaGreatDoor
open Go Go.Sv
set_option linter.unusedVariables false
set_option maxRecDepth 4000

section
variable {w w' : World} {kb r : Nat} {a a' : AD} {j j' : AJ} {L L' : List Batch} {B B' Bv : Nat → Prop} {own : Option Nat}
theorem RA.cut {k : Nat} (h : RA a k) (j : AJ) : RA (a.cut j).2.1 (k + 2) := by
  unfold AD.cut
  split
  · exact h.more (by omega)
  split
  · exact h.more (by omega)
  split
  · exact h.repl _
  · exact h.repl _
theorem ksize_ok {K : Value → World → Prop} (H : KD w kb r a j L B Bv own) (hk : K (.int .i64 (j.size : Int)) w) : callP Tryz.prog 72 [.pointer (some ⟨kb, 0, none⟩)] w K := by
  refine ok_longshoreref20_Journal_Size ?_
  unfold wp_longshoreref20_Journal_Size
  simp only [nn_some, add_at, Nat.zero_add]
  exact ⟨_, H.c2, hk⟩
/-- one step behind another -/
theorem kStep {w w1 w2 : World} {B B1 B2 : Nat → Prop} {kb : Nat} {own own1 own2 : Option Nat} (c : Ch (Fk B kb own) w w1) (hb : ∀ b, B1 b ∨ own1 = some b → B b ∨ own = some b ∨ w.heap.size ≤ b) (c' : Ch (Fk B1 kb own1) w1 w2) (hb2 : ∀ b, B2 b ∨ own2 = some b → B1 b ∨ own1 = some b ∨ w1.heap.size ≤ b) :
    Ch (Fk B kb own) w w2 ∧ ∀ b, B2 b ∨ own2 = some b → B b ∨ own = some b ∨ w.heap.size ≤ b := by
  refine ⟨c.trans c' fun x hx h => ?_, fun b h => ?_⟩
  · rcases h with h | h | h
    · rcases hb x (.inl h) with h | h | h
      · exact .inl h
      · exact .inr (.inr h)
      · omega
    · exact .inr (.inl h)
    · rcases hb x (.inr h) with h | h | h
      · exact .inl h
      · exact .inr (.inr h)
      · omega
  · rcases hb2 b h with h | h | h
    · exact hb b (.inl h)
    · exact hb b (.inr h)
    · have := c.size; exact .inr (.inr (by omega))
theorem kStepB {w w1 w2 : World} {B B1 B2 : Nat → Prop} {kb : Nat} {own own1 : Option Nat} (c : Ch (Fk B kb own) w w1) (hb : ∀ b, B1 b ∨ own1 = some b → B b ∨ own = some b ∨ w.heap.size ≤ b) (c' : Ch B1 w1 w2) (hb2 : ∀ b, B2 b → B1 b ∨ w1.heap.size ≤ b) :
    Ch (Fk B kb own) w w2 ∧ ∀ b, B2 b ∨ own1 = some b → B b ∨ own = some b ∨ w.heap.size ≤ b :=
  kStep c hb (kchB (own := own1) c') fun b h => by
    rcases h with h | h
    · rcases hb2 b h with h | h
      · exact .inl h
      · exact .inr (.inr h)
    · exact .inr (.inl h)
/-- the batches that it keeps are others -/
theorem KD.keep {p : Option Addr} {n c : Nat} {Y : List BV} {j' : AJ} {own2 : Option Nat} {w1 w2 : World} (H : KD w kb r a j L B Bv own) (hm : Made w1 Bv p n c own2 Y) (c1 : Ch (fun b => own = some b) w w1) (hn : ∀ b, own2 = some b → own = some b ∨ w.heap.size ≤ b) (hs : saysL Y = L') (ne : ∀ R ∈ L', R ≠ [])
    (hb : blk w2 kb = some [.pointer (some ⟨r, 0, none⟩), .slice p n c, .int .i64 (j'.size : Int), .bool j'.tail, .bool j'.down]) (c2 : Ch (· = kb) w1 w2) : KD w2 kb r a j' L' B Bv own2 := by
  have hlt := H.lt
  have hz1 := c1.size
  have hz2 := c2.size
  have ho : ∀ b, own2 = some b → ¬ B b ∧ b ≠ kb ∧ ¬ Bv b := fun b hb => by
    rcases hn b hb with h | h
    · exact H.ownB b h
    · exact ⟨fun e => by have := H.rk.lt b e; omega, by omega, fun e => by have := (H.vB b e).1; omega⟩
  exact ⟨⟨p, n, c, Y, hb, hm.ch c2 (fun b hb e => (ho b hb).2.1 e) fun b hb e => (H.vB b hb).2.2 e, hs⟩, (H.rk.ch c1 fun b hb e => (H.ownB b e).1 hb).ch c2 fun b hb e => H.nkb (e ▸ hb), H.nkb, ho, fun b hb => ⟨by have := (H.vB b hb).1; omega, (H.vB b hb).2⟩, ne⟩
set_option maxHeartbeats 1000000 in
theorem kadd_ok {k : Nat} {x : BV} {K : Value → World → Prop} (H : KD w kb r a j L B Bv own) (h : RA a k) (hk39 : k ≤ 2 ^ 39) (hP : PInv a j L) (hn : L.length ≤ 2 ^ 38) (hx : x.ok w Bv) (hxn : x.n ≤ 2 ^ 40) (hlen : (body x.says).length ≤ 2 ^ 39) (hsz : j.size ≤ 2 ^ 61)
    (hk : KPost w kb r (a.add j x.says).2.1 (a.add j x.says).2.2 (if (a.add j x.says).1 = 0 ∧ x.says ≠ [] then L ++ [x.says] else L) B Bv own (K (.int .i64 (a.add j x.says).1))) :
    callP Tryz.prog 108 [.pointer (some ⟨kb, 0, none⟩), .slice x.p x.n x.c] w K := by
  have hxl := hx.rd.len
  have hx0 : x.says = [] ↔ x.n = 0 := by
    unfold BV.says
    rw [← List.length_eq_zero_iff, saysR_len, hxl]
  have fin : ∀ {e : Int} {a' : AD} {j' : AJ} {w2 : World} {B2 : Nat → Prop} {own2 : Option Nat}, a.add j x.says = (e, a', j') → ¬ (e = 0 ∧ x.says ≠ []) → KD w2 kb r a' j' L B2 Bv own2 → Ch (Fk B kb own) w w2 → (∀ b, B2 b ∨ own2 = some b → B b ∨ own = some b ∨ w.heap.size ≤ b) → K (.int .i64 e) w2 := fun {e a' j' w2 B2 own2} he hne H2 c2 n2 => by
    rw [he] at hk
    exact hk w2 B2 own2 (by rw [if_neg hne]; exact H2) c2 n2
  refine ok_longshoreref20_Journal_Add ?_
  unfold wp_longshoreref20_Journal_Add
  refine kdown_ok H fun w1 B1 own1 H1 c1 n1 => ⟨_, rfl, Sif_cases (fun hd => ?_) fun hd => ?_⟩
  · exact fin (by unfold AD.add; rw [if_pos hd]) (fun e => by cases e.1) H1 c1 n1
  have hd' : (j.look a).down = false := hd
  have hup : a.down = false := by unfold AJ.look at hd'; simp at hd'; exact hd'.2
  have hx1 : x.ok w1 Bv := hx.ch c1 H.vF
  refine rrecords_ok hx1.rd (by omega) ⟨_, rfl, Sif_cases (fun hr => ?_) fun hr => ?_⟩
  · have hr' : recsB x.says = false := by
      have : recsB (saysR x.X) = false := by simpa using hr
      exact this
    exact fin (by unfold AD.add; rw [if_neg (by simp [hd']), if_pos hr']) (fun e => by cases e.1) H1 c1 n1
  have hr' : ¬ recsB x.says = false := by
    have : recsB (saysR x.X) = true := by simpa using hr
    show ¬ recsB (saysR x.X) = false
    rw [this]; simp
  refine Sif_cases (fun h0 => ?_) fun h0 => ?_
  · have h0' : x.says = [] := hx0.2 (by have : (x.n : Int) = 0 := by simpa using h0
                                        omega)
    exact fin (by unfold AD.add; rw [if_neg (by simp [hd']), if_neg hr', if_pos h0']) (fun e => e.2 h0') H1 c1 n1
  have h0' : ¬ x.says = [] := fun e => by
    have := hx0.1 e
    rw [this] at h0
    simp at h0
  have hPl := hP.look
  refine kcut_ok H1 h (by omega) (by omega) (fun ht => ⟨(hPl.read hd' hup ht).1, (hPl.read hd' hup ht).2.1⟩) fun w2 B2 own2 H2 c2 n2 => ⟨_, rfl, ?_⟩
  obtain ⟨c02, n02⟩ := kStep c1 n1 c2 n2
  have hA2 := h.cut (j.look a)
  refine Sif_cases (fun hc => ?_) fun hc => ?_
  · have hc' : (a.cut (j.look a)).1 ≠ 0 := by simpa using hc
    refine knoted_ok H2 fun w3 B3 own3 H3 c3 n3 => ⟨_, rfl, ?_⟩
    obtain ⟨c03, n03⟩ := kStep c02 n02 c3 n3
    exact fin (by unfold AD.add; rw [if_neg (by simp [hd']), if_neg hr', if_neg h0', if_pos hc']) (fun e => hc' e.1) H3 c03 n03
  have hc' : ¬ (a.cut (j.look a)).1 ≠ 0 := by simpa using hc
  have hadd : a.add j x.says = (a.cut (j.look a)).2.1.lay (a.cut (j.look a)).2.2 x.says := by unfold AD.add; rw [if_neg (by simp [hd']), if_neg hr', if_neg h0', if_neg hc']
  have hs2 : (a.cut (j.look a)).2.2.size = j.size := by
    unfold AD.cut
    split
    · rfl
    split
    · rfl
    split <;> rfl
  generalize (a.cut (j.look a)).2.1 = a2 at H2 hA2 hadd
  generalize (a.cut (j.look a)).2.2 = j2 at H2 hadd hs2
  have hx2 : x.ok w2 Bv := hx.ch c02 H.vF
  refine rbytes_ok hx2.rd (by show (body x.says).length ≤ _; omega) hxn fun w3 q m cq ob hm how hfr c3 => ⟨_, _, _, rfl, ?_⟩
  rw [show saysR x.X = x.says from rfl] at hm how
  have hbl := batchB_length h0'
  simp only [nn_some, add_at, Nat.zero_add, Nat.add_zero]
  have H3 := H2.ch0 c3
  have hz3 := c3.size
  have hbody := wtR_body x.says
  have c03 := c02.new c3
  have n03 : ∀ b, B2 b ∨ own2 = some b → B b ∨ own = some b ∨ w.heap.size ≤ b := n02
  have hm40 : m ≤ 2 ^ 40 := by omega
  refine ⟨_, H3.c0, rappend_ok H3.rk hA2.wf (by have := hA2.cnt; omega) hA2.kp (by decide) how.rd (by omega) (fun q' hq hm0 hB => ?_) fun w4 B4 R4 c4 n4 => ⟨_, rfl, ?_⟩⟩
  · have h5 := how.inB (by decide) q' hq (by omega)
    have h6 := hfr _ h5
    have h7 := H2.rk.lt _ hB
    omega
  have H4 : KD w4 kb r (step (a2.append sLog (batchB x.says))).2 j2 L B4 Bv own2 := H3.disk R4 c4 n4
  obtain ⟨c04, n04⟩ := kStepB c03 (fun b h => n03 b h) c4 n4
  have hA4 := hA2.append sLog (batchB x.says)
  refine Sif_cases (fun he => ?_) fun he => ?_
  · have he' : ¬ (a2.append sLog (batchB x.says)).1 = 0 := by simpa using he
    refine knoted_ok H4 fun w5 B5 own5 H5 c5 n5 => ⟨_, rfl, ?_⟩
    obtain ⟨c05, n05⟩ := kStep c04 n04 c5 n5
    exact fin (by rw [hadd]; unfold AD.lay; rw [if_pos (by exact he')]; rfl) (fun e => he' e.1) H5 c05 n05
  have he' : (a2.append sLog (batchB x.says)).1 = 0 := by simpa using he
  refine ⟨_, H4.c0, rsync_ok H4.rk hA4.wf (by have := hA4.cnt; omega) hA4.kp (by decide) fun w5 B5 R5 c5 n5 => ⟨_, rfl, ?_⟩⟩
  have H5 : KD w5 kb r (step ((step (a2.append sLog (batchB x.says))).2.sync sLog)).2 j2 L B5 Bv own2 := H4.disk R5 c5 n5
  obtain ⟨c05, n05⟩ := kStepB c04 n04 c5 n5
  refine Sif_cases (fun hf => ?_) fun hf => ?_
  · have hf' : ¬ ((step (a2.append sLog (batchB x.says))).2.sync sLog).1 = 0 := by simpa using hf
    refine knoted_ok H5 fun w6 B6 own6 H6 c6 n6 => ⟨_, rfl, ?_⟩
    obtain ⟨c06, n06⟩ := kStep c05 n05 c6 n6
    exact fin (by rw [hadd]; unfold AD.lay; rw [if_neg (by exact fun e => e he'), if_pos (by exact hf')]; rfl) (fun e => hf' e.1) H6 c06 n06
  have hf' : ((step (a2.append sLog (batchB x.says))).2.sync sLog).1 = 0 := by simpa using hf
  have hlay : a.add j x.says = (0, (step ((step (a2.append sLog (batchB x.says))).2.sync sLog)).2, { j2 with size := j2.size + (batchB x.says).length }) := by
    rw [hadd]; unfold AD.lay; rw [if_neg (by exact fun e => e he'), if_neg (by exact fun e => e hf')]
  obtain ⟨p, t, c, Y, m1, m2, m3⟩ := H5.m
  have hYl : Y.length = L.length := by rw [← m3]; simp [saysL]
  have hml := m2.len
  refine ⟨_, _, _, by rw [cell_blk m1]; rfl, ?_⟩
  refine m2.push (hx.ch c05 H.vF) (fun b hb e => (H5.ownB b e).2.2 hb) (by omega) fun p' c' own6 w6 m6 n6 c6 => ?_
  have b6 : blk w6 kb = some [.pointer (some ⟨r, 0, none⟩), .slice p t c, .int .i64 (j2.size : Int), .bool j2.tail, .bool j2.down] := by
    rw [c6.blk H5.lt fun e => (H5.ownB kb e).2.1 rfl]; exact m1
  refine st_blk b6 (by simp) fun w7 b7 c7 z7 => ⟨_, by rw [cell_blk b7]; rfl, ?_⟩
  refine st_blk b7 (by simp) fun w8 b8 c8 z8 => ?_
  rw [hlay] at hk
  have hw : IntKind.wrap .i64 ((j2.size : Int) + (m : Int)) = ((j2.size + (batchB x.says).length : Nat) : Int) := by rw [wrap_id (by omega) (by omega)]; omega
  have H8 : KD w8 kb r (step ((step (a2.append sLog (batchB x.says))).2.sync sLog)).2 { j2 with size := j2.size + (batchB x.says).length } (L ++ [x.says]) B5 Bv own6 := by
    refine H5.keep m6 c6 n6 ?_ (fun R hR => ?_) ?_ (c7.trans' c8)
    · rw [← m3]; simp [saysL]
    · rcases List.mem_append.1 hR with h | h
      · exact H5.ne R h
      · rw [List.mem_singleton.1 h]; exact h0'
    · rw [b8]
      show some [Value.pointer (some ⟨r, 0, none⟩), Value.slice p' (t + 1) c', Value.int .i64 (IntKind.wrap .i64 ((j2.size : Int) + (m : Int))), Value.bool j2.tail, Value.bool j2.down] = _
      rw [hw]
  have c58 : Ch (Fk B5 kb own2) w5 w8 := (c6.mono fun _ _ h => .inr (.inr h)).trans (kchK (B := B5) (own := own2) (c7.trans' c8)) fun _ _ => id
  obtain ⟨c08, n08⟩ := kStep c05 n05 c58 fun b h => by
    rcases h with h | h
    · exact .inl h
    · rcases n6 b h with h | h
      · exact .inr (.inl h)
      · exact .inr (.inr h)
  exact hk w8 B5 own6 (by rw [if_pos ⟨rfl, h0'⟩]; exact H8) c08 n08
end
end Go.Proofs.YtipololccbdojaaGreatDoor
namespace Go.Proofs.YtipololccbdojaaGreatDoor
open Go Go.Sv
set_option linter.unusedVariables false
set_option maxRecDepth 4000

section
variable {w w' : World} {kb r : Nat} {a a' : AD} {j j' : AJ} {L L' : List Batch} {B B' Bv : Nat → Prop} {own : Option Nat}
theorem KD.keep' {p : Option Addr} {n c : Nat} {Y : List BV} {j' : AJ} {own2 : Option Nat} {w2 : World} (H : KD w kb r a j L B Bv own) (hm : Made w Bv p n c own2 Y) (ho : ∀ b, own2 = some b → ¬ B b ∧ b ≠ kb ∧ ¬ Bv b) (hs : saysL Y = L') (ne : ∀ R ∈ L', R ≠ [])
    (hb : blk w2 kb = some [.pointer (some ⟨r, 0, none⟩), .slice p n c, .int .i64 (j'.size : Int), .bool j'.tail, .bool j'.down]) (c2 : Ch (· = kb) w w2) : KD w2 kb r a j' L' B Bv own2 := by
  have hz2 := c2.size
  exact ⟨⟨p, n, c, Y, hb, hm.ch c2 (fun b hb e => (ho b hb).2.1 e) fun b hb e => (H.vB b hb).2.2 e, hs⟩, H.rk.ch c2 fun b hb e => H.nkb (e ▸ hb), H.nkb, ho, fun b hb => ⟨by have := (H.vB b hb).1; omega, (H.vB b hb).2⟩, ne⟩
theorem saysL_succ {Y : List BV} {i : Nat} (h : i < Y.length) : saysL (Y.take (i + 1)) = saysL (Y.take i) ++ [Y[i].says] := by
  rw [List.take_succ_eq_append_getElem h]; unfold saysL; rw [List.map_append]; rfl
set_option maxHeartbeats 1000000 in
theorem kshorten_ok {k : Nat} {p : Option Addr} {n c : Nat} {Y : List BV} {K : Value → World → Prop} (H : KD w kb r a j L B Bv own) (h : RA a k) (hk39 : k ≤ 2 ^ 39) (hv : VL w Bv p n Y) (hlen : (allB (saysL Y)).length ≤ 2 ^ 40) (hn : n ≤ 2 ^ 39) (hns : ∀ y ∈ Y, y.n ≤ 2 ^ 40)
    (hk : KPost w kb r (a.shorten j (saysL Y)).2.1 (a.shorten j (saysL Y)).2.2 (if (a.shorten j (saysL Y)).1 = 0 then nonE (saysL Y) else L) B Bv own (K (.int .i64 (a.shorten j (saysL Y)).1))) :
    callP Tryz.prog 110 [.pointer (some ⟨kb, 0, none⟩), .slice p n c] w K := by
  have hl := hv.len
  have fin : ∀ {e : Int} {a' : AD} {j' : AJ} {w2 : World} {B2 : Nat → Prop} {own2 : Option Nat}, a.shorten j (saysL Y) = (e, a', j') → ¬ e = 0 → KD w2 kb r a' j' L B2 Bv own2 → Ch (Fk B kb own) w w2 → (∀ b, B2 b ∨ own2 = some b → B b ∨ own = some b ∨ w.heap.size ≤ b) → K (.int .i64 e) w2 := fun {e a' j' w2 B2 own2} he hne H2 c2 n2 => by
    rw [he] at hk
    exact hk w2 B2 own2 (by rw [if_neg hne]; exact H2) c2 n2
  refine ok_longshoreref20_Journal_Shorten ?_
  unfold wp_longshoreref20_Journal_Shorten
  refine kdown_ok H fun w1 B1 own1 H1 c1 n1 => ⟨_, rfl, Sif_cases (fun hd => ?_) fun hd => ?_⟩
  · exact fin (by unfold AD.shorten; rw [if_pos hd]) (by decide) H1 c1 n1
  have hd' : (j.look a).down = false := hd
  have hv1 : VL w1 Bv p n Y := hv.ch c1 H.vF
  have hz1 := c1.size
  refine ⟨fun m q t cq i w' => ∃ (i' : Nat) (own2 : Option Nat), i = (i' : Int) ∧ i' ≤ n ∧ m = n - i' ∧ t ≤ i' ∧ Ch (fun _ => False) w1 w' ∧ Made w' Bv q t cq own2 (nonV (Y.take i')) ∧ (∀ b, own2 = some b → w1.heap.size ≤ b) ∧ (saysL (Y.take i')).all recsB = true, ⟨n, 0, none, rfl, by omega, rfl, Nat.le_refl _, Ch.refl _ _, Made.nil, fun b hb => (by cases hb), rfl⟩, ?_⟩
  rintro m q t cq i w2 ⟨i, own2, rfl, hi, rfl, hti, c2, hm, ho, hall⟩
  have hBv1 : ∀ b, Bv b → b < w1.heap.size := fun b hb => (H1.vB b hb).1
  have hdis : ∀ b, Bv b → own2 ≠ some b := fun b hb e => by have := hBv1 b hb; have := ho b e; omega
  have H2 := H1.ch0 c2
  have hz2 := c2.size
  have c02 := c1.new c2
  refine Sif_cases (fun hlt => ?_) fun hge => ?_
  · have hlt' : (i : Int) < n := by simpa using hlt
    have hil : i < Y.length := by omega
    have hgi := List.getElem?_eq_getElem hil
    have hv2 := hv1.ch0 c2
    obtain ⟨kk, o, hp, hcell⟩ := hv2.at hgi
    have hyo := hv2.ok _ (List.getElem_mem hil)
    have hs := nonV_succ hgi
    refine ⟨fun q t cq w' => ∃ own2, t ≤ i + 1 ∧ Made w' Bv q t cq own2 (nonV (Y.take (i + 1))) ∧ (∀ b, own2 = some b → w1.heap.size ≤ b) ∧ Ch (fun _ => False) w1 w' ∧ recsB Y[i].says = true, ?_, by omega, hlt', ?_⟩
    · rintro q t cq w' ⟨own2, g1, g2, g3, g4, g5⟩
      rw [wrap_id (by omega) (by omega), nameI_iff]
      refine ⟨n - (i + 1), by omega, i + 1, own2, by omega, by omega, rfl, g1, g4, g2, g3, ?_⟩
      rw [saysL_succ hil, List.all_append, hall]
      simpa using g5
    rw [hp]
    simp only [nn_some, add_at, Int.toNat_natCast, Nat.mul_one]
    refine ⟨_, _, _, hcell, ?_⟩
    refine rrecords_ok hyo.rd (by have := hns _ (List.getElem_mem hil); omega) ⟨_, rfl, Sif_cases (fun hr => ?_) fun hr => ?_⟩
    · have hr' : recsB (saysR Y[i].X) = false := by simpa using hr
      have hr2 : (saysL Y).all recsB = false := by
        rw [List.all_eq_false]
        exact ⟨Y[i].says, List.mem_map.2 ⟨_, List.getElem_mem hil, rfl⟩, by show ¬ recsB (saysR Y[i].X) = true; rw [hr']; simp⟩
      exact fin (by unfold AD.shorten; rw [if_neg (by simp [hd']), if_pos hr2]) (by decide) H2 c02 n1
    have hr' : recsB Y[i].says = true := by
      have : recsB (saysR Y[i].X) = true := by simpa using hr
      exact this
    refine ⟨by omega, hlt', _, _, _, hcell, Sif_cases (fun hb0 => ?_) fun hb0 => ?_⟩
    · have hb' : ¬ Y[i].n = 0 := by have : (Y[i].n : Int) > 0 := by simpa using hb0
                                    omega
      refine ⟨by omega, hlt', _, _, _, hcell, ?_⟩
      refine hm.push hyo hdis (by omega) fun p' c' own3 w' hm' hn' c3 => ?_
      refine ⟨own3, by omega, by rw [hs, if_neg hb']; exact hm', fun b hb => ?_, c2.trans c3 fun x hx e => by have := ho x e; omega, hr'⟩
      rcases hn' b hb with e | e
      · exact ho b e
      · omega
    · have hb' : Y[i].n = 0 := by have : ¬ (Y[i].n : Int) > 0 := by simpa using hb0
                                  omega
      exact ⟨own2, by omega, by rw [hs, if_pos hb', List.append_nil]; exact hm, ho, c2, hr'⟩
  · have hj' : ¬ (i : Int) < n := by simpa using hge
    rw [List.take_of_length_le (by omega)] at hm hall
    have hsay : saysL (nonV Y) = nonE (saysL Y) := nonV_says hv.ok
    have hal : allB (saysL (nonV Y)) = allB (saysL Y) := by rw [hsay, allB_nonE]
    have hml := hm.len
    refine rall_ok hm.vl (by rw [hal]; exact hlen) (by omega) (fun y hy => hns y (List.mem_filter.1 hy).1) fun w3 q3 m3 cq3 ob hm3 how hfr c3 => ⟨_, _, _, rfl, ?_⟩
    rw [hal] at hm3 how
    have H3 := H2.ch0 c3
    have hz3 := c3.size
    simp only [nn_some, add_at, Nat.zero_add, Nat.add_zero]
    refine ⟨_, H3.c0, rrepl_ok H3.rk h (by omega) how.rd (by omega) (fun q' hq h0 hB => ?_) fun w4 B4 R4 c4 n4 => ⟨_, rfl, ?_⟩⟩
    · have h5 := how.inB (by decide) q' hq (by omega)
      have h6 := hfr _ h5
      have h7 := H2.rk.lt _ hB
      omega
    have H4 := H3.disk R4 c4 n4
    obtain ⟨c04, n04⟩ := kStepB (c02.new c3) n1 c4 n4
    refine Sif_cases (fun he => ?_) fun he => ?_
    · have he' : (a.repl (allB (saysL Y))).1 ≠ 0 := by simpa using he
      refine knoted_ok H4 fun w5 B5 own5 H5 c5 n5 => ⟨_, rfl, ?_⟩
      obtain ⟨c05, n05⟩ := kStep c04 n04 c5 n5
      exact fin (by unfold AD.shorten; rw [if_neg (by simp [hd']), if_neg (by rw [hall]; simp), if_pos he']) he' H5 c05 n05
    have he' : ¬ (a.repl (allB (saysL Y))).1 ≠ 0 := by simpa using he
    have hsh : a.shorten j (saysL Y) = (0, (a.repl (allB (saysL Y))).2, { j.look a with size := (allB (saysL Y)).length, tail := false }) := by
      unfold AD.shorten; rw [if_neg (by simp [hd']), if_neg (by rw [hall]; simp), if_neg he']
    have hB1 := H1.rk.lt
    have hm4 : Made w4 Bv q t cq own2 (nonV Y) := (hm.ch c3 (fun _ _ => id) fun _ _ => id).ch c4 (fun b hb e => by have := hB1 b e; have := ho b hb; omega) fun b hb e => (H1.vB b hb).2.1 e
    have hm_lt : ∀ b, own2 = some b → b < w2.heap.size := hm.row.blt
    have ho4 : ∀ b, own2 = some b → ¬ B4 b ∧ b ≠ kb ∧ ¬ Bv b := fun b hb => by
      have h1 := ho b hb
      refine ⟨fun e => ?_, fun e => by have := H1.lt; omega, fun e => by have := hBv1 b e; omega⟩
      rcases n4 b e with e | e
      · have := hB1 b e; omega
      · have := hm_lt b hb; omega
    obtain ⟨p0, t0, cc0, Y0, m1, -, -⟩ := H4.m
    refine st_blk m1 (by simp) fun w5 b5 c5 z5 => st_blk b5 (by simp) fun w6 b6 c6 z6 => st_blk b6 (by simp) fun w7 b7 c7 z7 => ?_
    have cK : Ch (· = kb) w4 w7 := (c5.trans' c6).trans' c7
    rw [hsh] at hk
    have H7 : KD w7 kb r (a.repl (allB (saysL Y))).2 { j.look a with size := (allB (saysL Y)).length, tail := false } (nonE (saysL Y)) B4 Bv own2 := by
      refine H4.keep' hm4 ho4 hsay (fun R hR => ?_) ?_ cK
      · have := (List.mem_filter.1 hR).2
        intro e; rw [e] at this; simp at this
      · rw [b7, hm3]; rfl
    obtain ⟨c07, -⟩ := kStep (B2 := B4) (own2 := own1) c04 n04 (kchK (own := own1) cK) fun b h => h.elim .inl fun h => .inr (.inl h)
    refine hk w7 B4 own2 (by rw [if_pos rfl]; exact H7) c07 fun b h => ?_
    rcases h with h | h
    · exact n04 b (.inl h)
    · have := ho b h; exact .inr (.inr (by omega))
end
end Go.Proofs.YtipololccbdojaaGreatDoor
namespace Go.Proofs.YtipololccbdojaaGreatDoor
open Go Go.Sv
set_option linter.unusedVariables false
set_option maxRecDepth 4000

def safeI : Option File → Int
  | none => -1
  | some f => (f.safe : Int)
/-- what the document's file gives -/
structure RFile (w w' : World) (o : Option File) (p : Option Addr) (n c : Nat) (sf : Int) : Prop where
  len : n = (o.getD ⟨emptyS, [], 0⟩).dat.length
  rd : ∃ own, Ow w' p n c 1 (bytesV (o.getD ⟨emptyS, [], 0⟩).dat) own ∧ ∀ k, own = some k → w.heap.size ≤ k
  safe : sf = safeI o
theorem rfile_ok {w : World} {r : Nat} {a : AD} {B : Nat → Prop} {n : ByteArray} {K : Value → World → Prop} (R : RK w r a B) (hdat : ∀ f ∈ a.fs, f.dat.length ≤ 2 ^ 46) (hlen : a.fs.length < 2 ^ 41)
    (hk : ∀ w' s p m c sf, Ch (fun _ => False) w w' → RFile w w' (a.file n) p m c sf → K (.agg #[.string s, .slice p m c, .int .i64 sf]) w') :
    callP Tryz.prog 103 [.pointer (some ⟨r, 0, none⟩), .string n] w K := by
  refine ok_longshoreref20_file ?_
  unfold wp_longshoreref20_file
  refine newB_blk fun w1 b1 c1 z1 => ?_
  have R1 := R.ch c1 fun _ _ => id
  refine rfiles_ok R1 hdat hlen fun p c ob O w2 c2 F hO hfr => ⟨_, _, _, rfl, ?_⟩
  have hb2 : blk w2 w.heap.size = some [.string emptyS, .slice none 0 0, .int .i64 0] := by rw [c2.blk (blk_lt b1) id]; exact b1
  have hol : O.length = a.fs.length := by have := congrArg List.length hO; simpa using this
  have c02 := c1.new c2
  refine ⟨fun m i w' => ∃ k : Nat, i = (k : Int) ∧ k ≤ O.length ∧ m = O.length - k ∧ w' = w2 ∧ ∀ x ∈ O.take k, x.f.name ≠ n, ⟨O.length, 0, rfl, by omega, rfl, rfl, by simp⟩, ?_⟩
  rintro m i w3 ⟨k, rfl, hk1, rfl, rfl, hno⟩
  refine Sif_cases (fun hlt => ?_) fun hge => ?_
  · have hlt' : (k : Int) < O.length := by simpa using hlt
    have hkl : k < O.length := by omega
    have hi := List.getElem?_eq_getElem hkl
    refine ⟨by omega, by omega, ?_⟩
    obtain ⟨bk, o, rfl, hcell⟩ := F.row.rd.at OF.cells_len hi (by decide)
    simp only [nn_some, add_at, Int.toNat_natCast, Nat.zero_add]
    have h0 := hcell 0 _ rfl
    have h1 := hcell 1 _ rfl
    have h2 := hcell 2 _ rfl
    refine ⟨_, h0, Sif_cases (fun he => ?_) fun he => ?_⟩
    · have he' : O[k].f.name = n := by
        have : O[k].f.name.toList = n.toList := by simpa using he
        exact data_ext (by rw [← ByteArray.toList_eq, ← ByteArray.toList_eq]; exact this)
      refine ⟨by omega, by omega, _, h0, _, _, _, h1, _, h2, ?_⟩
      refine re3 hb2 fun w5 b5 c5 z5 => ?_
      refine ⟨_, by rw [cell_blk b5]; rfl, _, _, _, by rw [cell_blk b5]; rfl, _, by rw [cell_blk b5]; rfl, ?_⟩
      have hfile : a.file n = some O[k].f := by
        unfold AD.file
        rw [← hO, List.find?_map]
        have : O.find? ((fun f => decide (f.name = n)) ∘ fun x => x.f) = some O[k] := by
          rw [List.find?_eq_some_iff_append]
          refine ⟨by simp [he'], O.take k, O.drop (k + 1), ?_, fun x hx => by simpa using hno x hx⟩
          rw [List.getElem_cons_drop, List.take_append_drop]
        rw [this]; rfl
      have hin : ∀ x, O[k].own = some x → w1.heap.size ≤ x := fun x hx => hfr x (List.mem_append.2 (.inr (List.mem_flatMap.2 ⟨O[k], List.getElem_mem hkl, by simp [hx]⟩)))
      refine hk w5 _ _ _ _ _ (c02.trans c5 fun x hx e => by omega) ⟨by rw [hfile]; rfl, ⟨O[k].own, ?_, fun x hx => ?_⟩, by rw [hfile]; rfl⟩
      · rw [hfile]
        exact (F.dat _ (List.getElem_mem hkl)).ch c5 fun x hx e => by have := hin x hx; omega
      · have := hin x hx; omega
    · have he' : ¬ O[k].f.name = n := fun e => by rw [e] at he; simp at he
      rw [wrap_id (by omega) (by omega), nameI_iff]
      refine ⟨O.length - (k + 1), by omega, k + 1, by omega, by omega, rfl, by trivial, fun x hx => ?_⟩
      rw [List.take_succ_eq_append_getElem hkl] at hx
      rcases List.mem_append.1 hx with h | h
      · exact hno x h
      · rw [List.mem_singleton.1 h]; exact he'
  · have hk' : ¬ (k : Int) < O.length := by simpa using hge
    rw [List.take_of_length_le (by omega)] at hno
    simp only [add_at, Nat.zero_add]
    refine re3 hb2 fun w5 b5 c5 z5 => ?_
    refine ⟨_, by rw [cell_blk b5]; rfl, _, _, _, by rw [cell_blk b5]; rfl, _, by rw [cell_blk b5]; rfl, ?_⟩
    have hfile : a.file n = none := by
      unfold AD.file
      rw [List.find?_eq_none]
      intro f hf
      rw [← hO] at hf
      obtain ⟨x, hx, rfl⟩ := List.mem_map.1 hf
      simpa using hno x hx
    refine hk w5 _ _ _ _ _ (c02.trans c5 fun x hx e => by omega) ⟨by rw [hfile]; rfl, ⟨none, by rw [hfile]; exact Ow.nil, fun x hx => by cases hx⟩, by rw [hfile]; rfl⟩
theorem RA.dat {a : AD} {k : Nat} (h : RA a k) : ∀ f ∈ a.fs, f.dat.length ≤ 2 ^ 46 := fun f hf => by
  have := dat_le_total hf
  have := h.wf.tot
  omega
theorem RA.tidy {a : AD} {k : Nat} (h : RA a k) : RA a.tidy.2 k := by
  unfold AD.tidy
  split
  · exact h.delete _
  · exact h
theorem RFile.log {w w' : World} {a : AD} {p : Option Addr} {m c : Nat} {sf : Int} (h : RFile w w' (a.file sLog) p m c sf) : m = a.logF.dat.length ∧ (a.has sLog = true → sf = (a.logF.safe : Int)) ∧ (a.has sLog = false → sf = -1 ∧ a.logF.safe = 0) ∧ ∃ own, Ow w' p m c 1 (bytesV a.logF.dat) own ∧ ∀ k, own = some k → w.heap.size ≤ k := by
  obtain ⟨h2, h3, h4⟩ := h
  unfold AD.logF
  rw [has_file]
  cases hf : a.file sLog with
  | none => rw [hf] at h2 h3 h4; exact ⟨h2, fun e => absurd e (by simp), fun _ => ⟨h4, rfl⟩, h3⟩
  | some f => rw [hf] at h2 h3 h4; exact ⟨h2, fun _ => h4, fun e => absurd e (by simp), h3⟩
set_option maxHeartbeats 2000000 in
theorem kopen_ok {w : World} {r k : Nat} {a : AD} {B Bv0 : Nat → Prop} {K : Value → World → Prop} (R : RK w r a B) (h : RA a k) (hk39 : k ≤ 2 ^ 39) (hv0 : ∀ b, Bv0 b → b < w.heap.size ∧ ¬ B b)
    (hno : ∀ w' B', RK w' r a.jopen.2.1 B' → Ch B w w' → (∀ b, B' b → B b ∨ w.heap.size ≤ b) → a.jopen.2.2 = none → K (.tuple #[.pointer none, .slice none 0 0, .int .i64 a.jopen.1]) w')
    (hyes : ∀ w' B' kb j L q m cq own R, a.jopen = (0, a.jopen.2.1, some (j, L)) → KD w' kb r a.jopen.2.1 j L B' (fun b => Bv0 b ∨ b ∈ R.flatMap BtE.B) own → Ch B w w' → (∀ b, B' b → B b ∨ w.heap.size ≤ b) → w.heap.size ≤ kb → BtE.Row w' q m cq own R → R.map Bt.says = L →
      (∀ b ∈ BtE.rowB own R, w.heap.size ≤ b) → K (.tuple #[.pointer (some ⟨kb, 0, none⟩), .slice q m cq, .int .i64 0]) w') :
    callP Tryz.prog 69 [.pointer (some ⟨r, 0, none⟩)] w K := by
  refine ok_longshoreref20_Open ?_
  unfold wp_longshoreref20_Open
  unfold AD.jopen at hno hyes
  refine Sif_false (rup_ok R ⟨_, rfl, Sif_cases (fun hu => ?_) fun hu => ?_⟩)
  · have hu' : a.down = true := by simpa using hu
    rw [if_pos hu'] at hno
    exact hno w B R (Ch.refl _ _) (fun b => .inl) rfl
  have hup : a.down = false := by simpa using hu
  rw [if_neg (by simp [hup])] at hno hyes
  have hll : a.logF.dat.length ≤ 2 ^ 24 ∧ a.logF.safe ≤ a.logF.dat.length := by
    have ht := h.wf.tot
    unfold AD.logF
    cases hf : a.file sLog with
    | none => simp
    | some f =>
      have := dat_le_total (file_mem hf)
      have := h.wf.safe f (file_mem hf)
      simp; omega
  refine rfile_ok R h.dat (by have := h.cnt; omega) fun w2 s p n c sf c2 fo => ⟨_, _, _, _, _, rfl, ?_⟩
  obtain ⟨hn, hsf1, hsf0, own, ow, hfr⟩ := fo.log
  subst hn
  have hz2 := c2.size
  refine box3 fun w6 b6 c6 z6 => ?_
  simp only [add_at, Nat.zero_add]
  have c06 := c2.new c6
  have ow6 := ow.ch c6 fun _ _ => id
  refine ⟨_, by rw [cell_blk b6]; rfl, ?_⟩
  refine ⟨fun sf' w' => w' = w6 ∧ sf' = (a.logF.safe : Int), ?_, ?_⟩
  rotate_left
  · cases hh : a.has sLog with
    | true =>
      have e := hsf1 hh
      refine Sif_cases (fun hneg => ?_) fun _ => ⟨rfl, e⟩
      have : sf < 0 := by simpa using hneg
      omega
    | false =>
      obtain ⟨e1, e2⟩ := hsf0 hh
      refine Sif_cases (fun _ => ⟨rfl, by rw [e2]; rfl⟩) fun hneg => ?_
      have : ¬ sf < 0 := by simpa using hneg
      omega
  rintro sf' w' ⟨rfl, rfl⟩
  refine ⟨_, _, _, by rw [cell_blk b6]; rfl, ?_⟩
  refine rscan_ok ow6.rd ow6.2.1 (by omega) fun w7 q m cq own7 RR c7 hsay hrow hfr7 => ⟨_, _, _, _, _, rfl, ?_⟩
  have c07 := c06.new c7
  have hscan : a.scan = scanA a.logF.dat a.logF.safe := rfl
  rw [← hscan] at hsay ⊢
  have R7 := R.ch c07 fun _ _ => id
  refine Sif_cases (fun he => ?_) fun he => ?_
  · have he' : a.scan.2.2 ≠ 0 := by simpa using he
    rw [if_pos he'] at hno
    exact hno w7 B R7 (c07.mono fun _ _ h => h.elim) (fun b => .inl) rfl
  have he' : a.scan.2.2 = 0 := by simpa using he
  rw [if_neg (by simpa using he')] at hno hyes
  have hsl : a.scan.2.1 = (scanL a.logF.dat).2 ∧ a.scan.1 = (scanL a.logF.dat).1 := by
    unfold AD.scan scanA at he' ⊢
    split
    · rename_i h; rw [if_pos h] at he'; simp at he'
    · rename_i h; rw [if_neg h] at he'
      split
      · rename_i h2; rw [if_pos h2] at he'; simp at he'
      · exact ⟨rfl, rfl⟩
  rw [hsl.1]
  have hsle := scanL_le a.logF.dat
  obtain ⟨hgood, hsmall⟩ := scanA_small a.logF.dat a.logF.safe
  rw [← hscan] at hgood hsmall
  have hLn : a.scan.1.length ≤ 2 ^ 39 := by have := allB_cnt hgood; omega
  have b7 : blk w7 w2.heap.size = some [.string s, .slice p a.logF.dat.length c, .int .i64 sf] := by rw [c7.blk (blk_lt b6) id]; exact b6
  refine ⟨_, _, _, by rw [cell_blk b7]; rfl, ?_⟩
  refine newB_blk fun w8 b8 c8 z8 => ?_
  have z7 := c7.size
  have c08 := c07.new c8
  have hz08 := c07.size
  have hrow8 := hrow.ch c8 fun _ _ => id
  have hrl := hrow.lt
  have hnd := hrow.2.2.2
  have H8 : KD w8 w7.heap.size r a a.openJ a.scan.1 B (fun b => Bv0 b ∨ b ∈ RR.flatMap BtE.B) own7 := by
    refine ⟨⟨q, m, cq, RR.map Bt.view, ?_, ((Made.of_row hrow).ch c8 (fun _ _ => id) fun _ _ => id) |> fun hm => ⟨hm.len, hm.row, fun y hy => (hm.ok y hy).mono fun b => .inr⟩, by rw [view_says]; exact hsay⟩, R7.ch c8 fun _ _ => id, fun hb => ?_, fun b hb => ?_, fun b hb => ?_, fun Q hQ => (hgood Q hQ).1⟩
    · rw [b8]
      unfold AD.openJ
      have e : decide (((scanL a.logF.dat).2 : Int) < (a.logF.dat.length : Int)) = decide ((scanL a.logF.dat).2 < a.logF.dat.length) := by
        congr 1; apply propext; omega
      rw [e]
    · have := R.lt _ hb; omega
    · have h1 := hfr7 b (El.mem_rowB.2 (.inl hb))
      have h2 := hrl b (El.mem_rowB.2 (.inl hb))
      refine ⟨fun e => by have := R.lt _ e; omega, by omega, fun e => ?_⟩
      rcases e with e | e
      · have := (hv0 b e).1; omega
      · exact (List.nodup_append.1 hnd).2.2 b (by rw [hb]; simp) b e rfl
    · rcases hb with hb | hb
      · have := (hv0 b hb).1
        exact ⟨by omega, (hv0 b hb).2, by omega⟩
      · have hm : b ∈ BtE.rowB own7 RR := List.mem_append.2 (.inr hb)
        have h1 := hfr7 b hm
        have h2 := hrl b hm
        exact ⟨by omega, fun e => by have := R.lt _ e; omega, by omega⟩
  have b8' : blk w8 w2.heap.size = some [.string s, .slice p a.logF.dat.length c, .int .i64 sf] := by rw [c8.blk (blk_lt b7) id]; exact b7
  have hB8 : ∀ b, B b → b < w.heap.size := R.lt
  let Bq : Nat → Prop := fun b => Bv0 b ∨ b ∈ RR.flatMap BtE.B
  -- what stays, whatever the journal and its disk do
  let St : World → (Nat → Prop) → AD → AJ → Prop := fun wx Bx ax jx => KD wx w7.heap.size r ax jx a.scan.1 Bx Bq own7 ∧ Ch (fun b => B b ∨ b = w7.heap.size) w8 wx ∧ ∀ b, Bx b → B b ∨ w8.heap.size ≤ b
  have stB : ∀ wx Bx ax jx, St wx Bx ax jx → (∀ b, Bx b → B b ∨ w.heap.size ≤ b) ∧ Ch B w wx := fun wx Bx ax jx ⟨H, c, n⟩ => by
    refine ⟨fun b h => (n b h).imp id fun h => by omega, (c08.mono fun _ _ h => h.elim).trans c fun x hx h => ?_⟩
    rcases h with h | h
    · exact h
    · omega
  have stBlk : ∀ wx Bx ax jx, St wx Bx ax jx → blk wx w2.heap.size = some [.string s, .slice p a.logF.dat.length c, .int .i64 sf] := fun wx Bx ax jx ⟨H, c, n⟩ => by
    rw [c.blk (blk_lt b8') fun h => by
      rcases h with h | h
      · have := hB8 _ h; omega
      · omega]
    exact b8'
  have stNext : ∀ {w9 w10 B9 B10 a9 j9 a10 j10}, St w9 B9 a9 j9 → KD w10 w7.heap.size r a10 j10 a.scan.1 B10 Bq own7 → Ch (fun b => B9 b ∨ b = w7.heap.size) w9 w10 → (∀ b, B10 b → B9 b ∨ w9.heap.size ≤ b) → St w10 B10 a10 j10 := fun ⟨H, c, n⟩ H' c' n' => ⟨H', chStep c n c', inStep c.size n n'⟩
  have stNew : ∀ {w9 w10 B9 a9 j9}, St w9 B9 a9 j9 → Ch (fun _ => False) w9 w10 → St w10 B9 a9 j9 := fun S c => stNext S (S.1.ch0 c) (c.mono fun _ _ h => h.elim) fun b => .inl
  have fail : ∀ wx Bx ax jx (e : Int), St wx Bx ax jx → a.openB = (e, ax, none) → K (.tuple #[.pointer none, .slice none 0 0, .int .i64 e]) wx := fun wx Bx ax jx e S hob => by
    obtain ⟨n, cc⟩ := stB _ _ _ _ S
    rw [hob] at hno
    exact hno wx Bx S.1.rk cc n rfl
  have good : ∀ wx Bx ax jx, (KD wx w7.heap.size r ax jx a.scan.1 Bx Bq own7 ∧ Ch (fun b => B b ∨ b = w7.heap.size ∨ b = w2.heap.size) w8 wx ∧ ∀ b, Bx b → B b ∨ w8.heap.size ≤ b) → a.openB = (0, ax, some jx) → K (.tuple #[.pointer (some ⟨w7.heap.size, 0, none⟩), .slice q m cq, .int .i64 0]) wx := fun wx Bx ax jx S hob => by
    rw [hob] at hyes
    obtain ⟨H, c, nn⟩ := S
    refine hyes wx Bx w7.heap.size jx a.scan.1 q m cq own7 RR rfl H ((c08.mono fun _ _ h => h.elim).trans c fun x hx h => ?_) (fun b h => (nn b h).imp id fun h => by omega) (by omega) (hrow8.ch c fun b hb h => ?_) hsay fun b hb => by have := hfr7 b hb; omega
    · rcases h with h | h | h
      · exact h
      · omega
      · omega
    · have h1 := hfr7 b hb
      have h2 := hrl b hb
      rcases h with h | h | h
      · have := hB8 _ h; omega
      · omega
      · omega
  have S8 : St w8 B a a.openJ := ⟨H8, Ch.refl _ _, fun b => .inl⟩
  refine rfile_ok H8.rk h.dat (by have := h.cnt; omega) fun w9 s1 p1 m1 cc1 sf1 c9 fo9 => ⟨_, _, _, _, _, rfl, ?_⟩
  refine box3 fun w13 b13 c13 z13 => ?_
  have S13 := stNew (stNew S8 c9) c13
  have hcond : decide (sf1 ≥ 0) = a.has sNew := by
    have e := fo9.safe
    rw [has_file]
    cases hf : a.file sNew with
    | none => rw [hf] at e; rw [e]; rfl
    | some f =>
      rw [hf] at e; rw [e]
      show decide ((f.safe : Int) ≥ 0) = true
      simp
  refine ⟨fun w15 => ∃ B15, a.tidy.1 = 0 ∧ St w15 B15 a.tidy.2 a.openJ, ?_, _, by rw [add_at, cell_blk b13]; rfl, ?_⟩
  rotate_left
  · rw [hcond]
    refine Sif_cases (fun hh => ?_) fun hh => ?_
    · have htd : a.tidy = step (a.delete sNew) := by unfold AD.tidy; rw [if_pos hh]
      refine rdelete_ok S13.1.rk h.wf (by have := h.cnt; omega) h.kp (by decide) fun w14 B14 R14 c14 n14 => ⟨_, rfl, ?_⟩
      have S14 : St w14 B14 a.tidy.2 a.openJ := by rw [htd]; exact stNext S13 (S13.1.disk R14 c14 n14) (chOr1 c14) n14
      refine Sif_cases (fun h => ?_) fun h => ?_
      · have h' : ¬ (a.delete sNew).1 = 0 := by simpa using h
        refine fail w14 B14 _ _ _ S14 ?_
        unfold AD.openB
        rw [htd, if_pos (by exact h')]
        rfl
      · have h' : (a.delete sNew).1 = 0 := by simpa using h
        exact ⟨B14, by rw [htd]; exact h', S14⟩
    · have htd : a.tidy = (0, a) := by unfold AD.tidy; rw [if_neg (bool_not_true hh)]
      exact ⟨B, by rw [htd], by rw [htd]; exact S13⟩
  rintro w15 ⟨B15, ht, S15⟩
  have hA := h.tidy
  obtain ⟨hcode, hread, hup9, nd9, hth⟩ := there_eq h.nd hup (fun f hf => h.wf.safe f (file_mem hf)) ht
  refine kcut_ok' S15.1 hA (by omega) hLn (fun t => ⟨(hread t).1, by rw [hsl.2]; exact (hread t).2.1⟩) fun w16 B16 H16 c16 n16 => ⟨_, rfl, ?_⟩
  have S16 : St w16 B16 (a.tidy.2.cut a.openJ).2.1 (a.tidy.2.cut a.openJ).2.2 := stNext S15 H16 c16 n16
  have hA16 := hA.cut a.openJ
  refine Sif_cases (fun h3 => ?_) fun h3 => ?_
  · have h3' : (a.tidy.2.cut a.openJ).1 = 3 := by simpa using h3
    rw [h3']
    refine fail w16 B16 _ _ _ S16 ?_
    unfold AD.openB
    rw [if_neg (by simpa using ht), if_pos ⟨by rw [h3']; decide, by rw [h3']; decide⟩]
  have h3' : ¬ (a.tidy.2.cut a.openJ).1 = 3 := by simpa using h3
  have hthere := hth h3'
  have hnf : ¬ ((a.tidy.2.cut a.openJ).1 ≠ 0 ∧ (a.tidy.2.cut a.openJ).1 ≠ 190) := fun hh => by
    rcases hcode with h' | h' | h'
    · exact hh.1 h'
    · exact hh.2 h'
    · exact h3' h'
  refine rfile_ok S16.1.rk hA16.dat (by have := hA16.cnt; omega) fun w17 s2 p5 n12 c5 sf2 c17 fo17 => ⟨_, _, _, _, _, rfl, ?_⟩
  have S17 := stNew S16 c17
  obtain ⟨g1, g2, g3, -⟩ := fo17.log
  have b17 := stBlk _ _ _ _ S17
  refine re3 b17 fun w20 b20 c20 z20 => ?_
  have H20 : KD w20 w7.heap.size r (a.tidy.2.cut a.openJ).2.1 (a.tidy.2.cut a.openJ).2.2 a.scan.1 B16 Bq own7 := by
    refine S17.1.ch c20 (fun b hb e => ?_) fun b hb e => ?_
    · rcases hb with hb | hb | hb
      · rcases S17.2.2 b hb with hb | hb
        · have := hB8 b hb; omega
        · omega
      · omega
      · have := hfr7 b (El.mem_rowB.2 (.inl hb)); omega
    · rcases hb with hb | hb
      · have := (hv0 b hb).1; omega
      · have := hfr7 b (List.mem_append.2 (.inr hb)); omega
  have c820 : Ch (fun b => B b ∨ b = w7.heap.size ∨ b = w2.heap.size) w8 w20 := (S17.2.1.mono fun _ _ h => h.elim .inl fun h => .inr (.inl h)).trans c20 fun x hx e => .inr (.inr e)
  refine ⟨fun w21 => K (.tuple #[.pointer (some ⟨w7.heap.size, 0, none⟩), .slice q m cq, .int .i64 0]) w21, fun _ => id, _, by rw [cell_blk b20]; rfl, ?_⟩
  have nothere : a.there (a.tidy.2.cut a.openJ).1 = false → K (.tuple #[.pointer (some ⟨w7.heap.size, 0, none⟩), .slice q m cq, .int .i64 0]) w20 := fun e => by
    refine good w20 B16 _ _ ⟨H20, c820, S17.2.2⟩ ?_
    unfold AD.openB
    rw [if_neg (by simpa using ht), if_neg hnf, if_pos e]
  refine Sif_cases (fun hge => ⟨_, by rw [cell_blk b20]; rfl, _, _, _, by rw [cell_blk b20]; rfl, Sif_cases (fun hlt => ?_) fun hlt => ?_⟩) fun hge => ?_
  · have hge' : sf2 ≥ 0 := by simpa using hge
    have hhas : (a.tidy.2.cut a.openJ).2.1.has sLog = true := by
      cases hh : (a.tidy.2.cut a.openJ).2.1.has sLog with
      | true => rfl
      | false => have := (g3 hh).1; omega
    have hlt' : sf2 < (n12 : Int) := by simpa using hlt
    have e2 := g2 hhas
    have hb : a.there (a.tidy.2.cut a.openJ).1 = true := by
      rw [hthere, hhas]
      have : (a.tidy.2.cut a.openJ).2.1.logF.safe < (a.tidy.2.cut a.openJ).2.1.logF.dat.length := by omega
      simp [this]
    refine rsync_ok H20.rk hA16.wf (by have := hA16.cnt; omega) hA16.kp (by decide) fun w21 B21 R21 c21 n21 => ⟨_, rfl, ?_⟩
    have H21 : KD w21 w7.heap.size r (step ((a.tidy.2.cut a.openJ).2.1.sync sLog)).2 (a.tidy.2.cut a.openJ).2.2 a.scan.1 B21 Bq own7 := H20.disk R21 c21 n21
    have hz820 := c820.size
    have n021 : ∀ b, B21 b → B b ∨ w8.heap.size ≤ b := fun b hb => by
      rcases n21 b hb with hb | hb
      · exact S17.2.2 b hb
      · exact .inr (by omega)
    have c821 : Ch (fun b => B b ∨ b = w7.heap.size ∨ b = w2.heap.size) w8 w21 := c820.trans c21 fun x hx e => by
      rcases S17.2.2 x e with e | e
      · exact .inl e
      · omega
    refine Sif_cases (fun h => ?_) fun h => ?_
    · have h' : ¬ ((a.tidy.2.cut a.openJ).2.1.sync sLog).1 = 0 := by simpa using h
      have hob : a.openB = (((a.tidy.2.cut a.openJ).2.1.sync sLog).1, (step ((a.tidy.2.cut a.openJ).2.1.sync sLog)).2, none) := by
        unfold AD.openB
        rw [if_neg (by simpa using ht), if_neg hnf, if_neg (by simp [hb]), if_pos (by exact h')]
        rfl
      rw [hob] at hno
      refine hno w21 B21 H21.rk ((c08.mono fun _ _ h => h.elim).trans c821 fun x hx h => ?_) (fun b h => (n021 b h).imp id fun h => by omega) rfl
      rcases h with h | h | h
      · exact h
      · omega
      · omega
    · have h' : ((a.tidy.2.cut a.openJ).2.1.sync sLog).1 = 0 := by simpa using h
      refine good w21 B21 _ _ ⟨H21, c821, n021⟩ ?_
      unfold AD.openB
      rw [if_neg (by simpa using ht), if_neg hnf, if_neg (by simp [hb]), if_neg (by exact fun e => e h')]
  · refine nothere ?_
    rw [hthere]
    have hge' : sf2 ≥ 0 := by simpa using hge
    have hlt' : ¬ sf2 < (n12 : Int) := by simpa using hlt
    cases hh : (a.tidy.2.cut a.openJ).2.1.has sLog with
    | true =>
      have e2 := g2 hh
      have : ¬ (a.tidy.2.cut a.openJ).2.1.logF.safe < (a.tidy.2.cut a.openJ).2.1.logF.dat.length := by omega
      simp [this]
    | false => rfl
  · refine nothere ?_
    rw [hthere]
    have hge' : ¬ sf2 ≥ 0 := by simpa using hge
    cases hh : (a.tidy.2.cut a.openJ).2.1.has sLog with
    | true => have := g2 hh; omega
    | false => rfl
end Go.Proofs.YtipololccbdojaaGreatDoor
