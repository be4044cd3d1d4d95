/-
  The journal's methods do what is said: replace, cut, isDown, noted, Add, Shorten, Size. journal.Add, Shorten do what is said.
-/
import Derived.Test.YtipololccbdojaaGreatDoorJview
import Derived.Test.YtipololccbdojaaGreatDoorJhold
import Derived.Test.YtipololccbdojaaGreatDoorJrview
namespace Go.Proofs.YtipololccbdojaaGreatDoor
open Go Go.Sv
set_option linter.unusedVariables false
set_option maxRecDepth 4000

def JM (w : World) (jb d : Nat) (j : AJ) : Prop := blk w jb = some [.pointer (some ⟨d, 0, none⟩), .int .i64 (j.size : Int), .bool j.tail, .bool j.down]
/-- a journal over a disk, in memory -/
structure JD (w : World) (jb d : Nat) (a : AD) (j : AJ) (B : Nat → Prop) : Prop where
  m : JM w jb d j
  dk : DK w d a B
  ap : ¬ B jb
abbrev JPost (w : World) (jb d : Nat) (a' : AD) (j' : AJ) (B : Nat → Prop) (K : World → Prop) : Prop := ∀ w' B', JD w' jb d a' j' B' → Ch (fun b => B b ∨ b = jb) w w' → (∀ b, B' b → B b ∨ w.heap.size ≤ b) → K w'
section
variable {w : World} {jb d : Nat} {a : AD} {j : AJ} {B : Nat → Prop}
theorem JD.lt (H : JD w jb d a j B) : jb < w.heap.size := blk_lt H.m
theorem JD.blt (H : JD w jb d a j B) : ∀ b, B b ∨ b = jb → b < w.heap.size := fun b h => by
  rcases h with h | rfl
  · exact H.dk.lt b h
  · exact H.lt
theorem JD.c0 (H : JD w jb d a j B) : w.cell? ⟨jb, 0, none⟩ = some (.pointer (some ⟨d, 0, none⟩)) := by rw [cell_blk H.m]; rfl
theorem JD.c1 (H : JD w jb d a j B) : w.cell? ⟨jb, 1, none⟩ = some (.int .i64 (j.size : Int)) := by rw [cell_blk H.m]; rfl
theorem JD.c2 (H : JD w jb d a j B) : w.cell? ⟨jb, 2, none⟩ = some (.bool j.tail) := by rw [cell_blk H.m]; rfl
theorem JD.c3 (H : JD w jb d a j B) : w.cell? ⟨jb, 3, none⟩ = some (.bool j.down) := by rw [cell_blk H.m]; rfl
theorem JD.ch0 {w' : World} (H : JD w jb d a j B) (c : Ch (fun _ => False) w w') : JD w' jb d a j B := ⟨by unfold JM; rw [c.blk H.lt id]; exact H.m, H.dk.ch c fun _ _ => id, H.ap⟩
theorem JD.ch {S : Nat → Prop} {w' : World} (H : JD w jb d a j B) (c : Ch S w w') (hn : ∀ b, B b ∨ b = jb → ¬ S b) : JD w' jb d a j B := ⟨by unfold JM; rw [c.blk H.lt (hn _ (.inr rfl))]; exact H.m, H.dk.ch c fun b h => hn b (.inl h), H.ap⟩
/-- the disk has done something -/
theorem JD.disk {w' : World} {a' : AD} {B' : Nat → Prop} (H : JD w jb d a j B) (D : DK w' d a' B') (c : Ch B w w') (hb : ∀ b, B' b → B b ∨ w.heap.size ≤ b) : JD w' jb d a' j B' :=
  ⟨by unfold JM; rw [c.blk H.lt H.ap]; exact H.m, D, fun h => by
    rcases hb _ h with h | h
    · exact H.ap h
    · have := H.lt; omega⟩
theorem JD.st (H : JD w jb d a j B) {o : Nat} {v : Value} {j' : AJ} {K : World → Prop} (ho : o < 4) (he : ([.pointer (some ⟨d, 0, none⟩), .int .i64 (j.size : Int), .bool j.tail, .bool j.down] : List Value).set o v = [.pointer (some ⟨d, 0, none⟩), .int .i64 (j'.size : Int), .bool j'.tail, .bool j'.down])
    (hk : ∀ w', JD w' jb d a j' B → Ch (· = jb) w w' → w'.heap.size = w.heap.size → K w') : Sv.st w ⟨jb, o, none⟩ v K :=
  st_blk H.m (by simpa using ho) fun w' hb hc hz => hk w' ⟨by unfold JM; rw [hb, he], H.dk.ch hc fun b h e => H.ap (e ▸ h), H.ap⟩ hc hz
theorem chOr1 {w w' : World} {B : Nat → Prop} {jb : Nat} (c : Ch B w w') : Ch (fun b => B b ∨ b = jb) w w' := c.mono fun _ _ => .inl
theorem chOr2 {w w' : World} {B : Nat → Prop} {jb : Nat} (c : Ch (· = jb) w w') : Ch (fun b => B b ∨ b = jb) w w' := c.mono fun _ _ => .inr
/-- one step behind another -/
theorem chStep {w w1 w2 : World} {B B1 : Nat → Prop} {jb : Nat} (c : Ch (fun b => B b ∨ b = jb) w w1) (hb : ∀ b, B1 b → B b ∨ w.heap.size ≤ b) (k : Ch (fun b => B1 b ∨ b = jb) w1 w2) : Ch (fun b => B b ∨ b = jb) w w2 :=
  c.trans k fun x hx h => by
    rcases h with h | h
    · rcases hb x h with h | h
      · exact .inl h
      · omega
    · exact .inr h
theorem inStep {w w1 : World} {B B1 B2 : Nat → Prop} (hz : w.heap.size ≤ w1.heap.size) (hb : ∀ b, B1 b → B b ∨ w.heap.size ≤ b) (hb2 : ∀ b, B2 b → B1 b ∨ w1.heap.size ≤ b) : ∀ b, B2 b → B b ∨ w.heap.size ≤ b := fun b h => by
  rcases hb2 b h with h | h
  · exact hb b h
  · exact .inr (by omega)
theorem JPost.go {w1 : World} {a1 a' : AD} {j1 j' : AJ} {B1 : Nat → Prop} {K : World → Prop} (hk : JPost w jb d a' j' B K) (c : Ch (fun b => B b ∨ b = jb) w w1) (hb : ∀ b, B1 b → B b ∨ w.heap.size ≤ b) : JPost w1 jb d a' j' B1 K := fun w' B' H' c' h' =>
  hk w' B' H' (chStep c hb c') (inStep c.size hb h')
theorem isDown_ok {K : Value → World → Prop} (H : JD w jb d a j B) (hk : JPost w jb d a (j.look a) B (K (.bool (j.look a).down))) : callP Tryz.prog 50 [.pointer (some ⟨jb, 0, none⟩)] w K := by
  refine ok_journal_Journal_isDown ?_
  unfold wp_journal_Journal_isDown
  simp only [nn_some, add_at, Nat.zero_add]
  refine ⟨fun w1 => ∃ B1, JD w1 jb d a (j.look a) B1 ∧ Ch (fun b => B b ∨ b = jb) w w1 ∧ ∀ b, B1 b → B b ∨ w.heap.size ≤ b, ?_, _, H.c3, ?_⟩
  · rintro w1 ⟨B1, H1, c1, h1⟩
    exact ⟨_, H1.c3, hk w1 B1 H1 c1 h1⟩
  · refine Sif_cases (fun h => ?_) fun h => ?_
    · have h' : j.down = false := by simpa using h
      refine ⟨_, H.c0, up_ok H.dk fun w1 B1 D1 c1 n1 => ⟨_, rfl, ?_⟩⟩
      refine (H.disk D1 c1 n1).st (j' := j.look a) (by omega) (by simp [AJ.look, h']) fun w2 H2 c2 z2 => ⟨B1, H2, (chOr1 c1).trans (chOr2 (B := B) c2) fun _ _ => id, n1⟩
    · have h' : j.down = true := by simpa using h
      exact H.st (j' := j.look a) (by omega) (by simp [AJ.look, h']) fun w2 H2 c2 z2 => ⟨B, H2, chOr2 c2, fun b => .inl⟩
theorem noted_ok {e : Int} {K : Value → World → Prop} (H : JD w jb d a j B) (hk : JPost w jb d a (j.noted e) B (K (.int .i64 e))) : callP Tryz.prog 52 [.pointer (some ⟨jb, 0, none⟩), .int .i64 e] w K := by
  refine ok_journal_Journal_noted ?_
  unfold wp_journal_Journal_noted
  simp only [nn_some, add_at, Nat.zero_add]
  refine ⟨fun w1 => JD w1 jb d a (j.noted e) B ∧ Ch (· = jb) w w1, ?_, _, H.c3, ?_⟩
  · rintro w1 ⟨H1, c1⟩
    exact hk w1 B H1 (chOr2 c1) fun b => .inl
  · refine Sif_cases (fun h => ?_) fun h => ?_
    · have h' : j.down = false := by simpa using h
      exact H.st (j' := j.noted e) (by omega) (by simp [AJ.noted, h']) fun w2 H2 c2 z2 => ⟨H2, c2⟩
    · have h' : j.down = true := by simpa using h
      exact H.st (j' := j.noted e) (by omega) (by simp [AJ.noted, h']) fun w2 H2 c2 z2 => ⟨H2, c2⟩
theorem err_val {n : ByteArray} : (a.err [n] n != 0) = decide (a.err [n] n ≠ 0) := by
  cases h : decide (a.err [n] n ≠ 0) <;> simp_all
theorem replace_ok {b : Option Addr} {bn bc : Nat} {l : List UInt8} {K : Value → World → Prop} (H : JD w jb d a j B) (hb : Rd w b bn 1 (bytesV l)) (hbl : bn ≤ 2 ^ 62) (hbB : ∀ p, b = some p → bn ≠ 0 → ¬ B p.block)
    (hk : JPost w jb d (a.repl l).2 j B (K (.int .i64 (a.repl l).1))) : callP Tryz.prog 61 [.pointer (some ⟨jb, 0, none⟩), .slice b bn bc] w K := by
  refine ok_journal_Journal_replace ?_
  unfold wp_journal_Journal_replace
  simp only [nn_some, add_at, Nat.zero_add]
  unfold AD.repl at hk
  refine ⟨_, H.c0, append_ok H.dk (by decide) hb hbl hbB fun w1 B1 D1 c1 n1 => ⟨_, rfl, ?_⟩⟩
  have H1 : JD w1 jb d (step (a.append sNew l)).2 j B1 := H.disk D1.sort c1 n1
  refine Sif_cases (fun h => ?_) fun h => ?_
  · have h' : ¬ (a.append sNew l).1 = 0 := by simpa using h
    rw [if_pos (by exact h')] at hk
    exact hk w1 B1 H1 (chOr1 c1) n1
  · have h' : (a.append sNew l).1 = 0 := by simpa using h
    rw [if_neg (by exact fun e => e h')] at hk
    refine ⟨_, H1.c0, sync_ok H1.dk (by decide) fun w2 B2 D2 c2 n2 => ⟨_, rfl, ?_⟩⟩
    have H2 : JD w2 jb d (step ((step (a.append sNew l)).2.sync sNew)).2 j B2 := H1.disk D2.sort c2 n2
    have c02 := chStep (chOr1 (jb := jb) c1) n1 (chOr1 c2)
    have n02 := inStep c1.size n1 n2
    refine Sif_cases (fun h => ?_) fun h => ?_
    · have h' : ¬ ((step (a.append sNew l)).2.sync sNew).1 = 0 := by simpa using h
      rw [if_pos (by exact h')] at hk
      exact hk w2 B2 H2 c02 n02
    · have h' : ((step (a.append sNew l)).2.sync sNew).1 = 0 := by simpa using h
      rw [if_neg (by exact fun e => e h')] at hk
      refine ⟨_, H2.c0, rename_ok H2.dk (by decide) (by decide) fun w3 B3 D3 c3 n3 => ⟨_, rfl, ?_⟩⟩
      exact hk w3 B3 (H2.disk D3.sort c3 n3) (chStep c02 n02 (chOr1 c3)) (inStep c02.size n02 n3)
/-- what Read may be asked for -/
def Sure (a : AD) (j : AJ) : Prop := j.tail = true → a.err [sLog] sLog = 0 → j.size ≤ (a.get sLog).length
theorem DK.getLen {n : ByteArray} (D : DK w d a B) : (a.get n).length ≤ 2 ^ 24 := by
  have wf := D.wf
  have ht := wf.tot
  unfold AD.get
  cases h : a.fs.find? fun f => decide (f.name = n) with
  | none => simp
  | some f => have := dat_le_total (List.mem_of_find?_eq_some h); simp; omega
theorem jcut_ok {K : Value → World → Prop} (H : JD w jb d a j B) (hs : Sure a j) (hk : JPost w jb d (a.cut j).2.1 (a.cut j).2.2 B (K (.int .i64 (a.cut j).1))) : callP Tryz.prog 48 [.pointer (some ⟨jb, 0, none⟩)] w K := by
  refine ok_journal_Journal_cut ?_
  unfold wp_journal_Journal_cut
  simp only [nn_some, add_at, Nat.zero_add]
  unfold AD.cut at hk
  refine ⟨_, H.c2, Sif_cases (fun h => ?_) fun h => ?_⟩
  · have h' : j.tail = false := by simpa using h
    rw [if_pos h'] at hk
    exact hk w B H (Ch.refl _ _) fun b => .inl
  · have h' : j.tail = true := by simpa using h
    rw [if_neg (by rw [h']; simp)] at hk
    have hgl := H.dk.getLen (n := sLog)
    refine ⟨_, H.c0, Sv.callP_mono (K := fun v w' => ∃ p c b B1, v = .tuple #[.slice p (if a.err [sLog] sLog = 0 then a.get sLog else []).length c, .int .i64 (a.err [sLog] sLog)] ∧ DK w' d a B1 ∧ Ch B w w' ∧ (∀ b, B1 b → B b) ∧
      Ow w' p (if a.err [sLog] sLog = 0 then a.get sLog else []).length c 1 (bytesV (if a.err [sLog] sLog = 0 then a.get sLog else [])) b ∧ (∀ k, b = some k → w.heap.size ≤ k)) (read_ok H.dk (by decide) fun p c b w1 B1 D1 c1 n1 o1 f1 => ⟨p, c, b, B1, rfl, D1, c1, n1, o1, f1⟩) ?_⟩
    rintro v w1 ⟨p, c, b, B1, rfl, D1, c1, n1, o1, f1⟩
    have n1' : ∀ b, B1 b → B b ∨ w.heap.size ≤ b := fun b h => .inl (n1 b h)
    have H1 := H.disk D1 c1 n1'
    refine ⟨_, _, _, _, rfl, Sif_cases (fun h => ?_) fun h => ?_⟩
    · have h2 : ¬ a.err [sLog] sLog = 0 := by simpa using h
      rw [if_pos h2] at hk
      exact hk w1 B1 H1 (chOr1 c1) n1'
    · have h2 : a.err [sLog] sLog = 0 := by simpa using h
      rw [if_neg (by exact fun e => e h2)] at hk
      have hsz := hs h' h2
      simp only [h2, if_true] at o1 ⊢
      have hc := o1.2.1
      refine ⟨_, H1.c1, by omega, by omega, ?_⟩
      rw [Int.toNat_natCast]
      have hr : Rd w1 p j.size 1 (bytesV ((a.get sLog).take j.size)) := Rd.take o1.rd hsz |> fun h => by simpa using h
      refine replace_ok H1 hr (by omega) (fun q hq h0 hB => ?_) fun w2 B2 H2 c2 n2 => ⟨_, rfl, ?_⟩
      · have h5 := o1.inB (by decide) q hq (by omega)
        have h6 := f1 _ h5
        have h7 := H.dk.lt _ (n1 _ hB)
        omega
      have c02 := chStep (chOr1 (jb := jb) c1) n1' c2
      have n02 := inStep c1.size n1' n2
      refine Sif_cases (fun h => ?_) fun h => ?_
      · have h3 : ¬ (a.repl ((a.get sLog).take j.size)).1 = 0 := by simpa using h
        rw [if_pos h3] at hk
        exact hk w2 B2 H2 c02 n02
      · have h3 : (a.repl ((a.get sLog).take j.size)).1 = 0 := by simpa using h
        rw [if_neg (by exact fun e => e h3)] at hk
        exact H2.st (j' := { j with tail := false }) (by omega) rfl fun w3 H3 c3 z3 => hk w3 B2 H3 (c02.trans (chOr2 (B := B) c3) fun _ _ => id) n02
theorem size_ok {K : Value → World → Prop} (H : JD w jb d a j B) (hk : K (.int .i64 (j.size : Int)) w) : callP Tryz.prog 21 [.pointer (some ⟨jb, 0, none⟩)] w K := by
  refine ok_journal_Journal_Size ?_
  unfold wp_journal_Journal_Size
  simp only [nn_some, add_at, Nat.zero_add]
  exact ⟨_, H.c1, hk⟩
end
end Go.Proofs.YtipololccbdojaaGreatDoor
namespace Go.Proofs.YtipololccbdojaaGreatDoor
open Go Go.Sv
set_option linter.unusedVariables false
set_option maxRecDepth 4000
section
variable {w : World} {jb d : Nat} {a : AD} {j : AJ} {B : Nat → Prop}
theorem bool_not_true {b : Bool} (h : b = false) : ¬ b = true := by simp [h]
set_option maxHeartbeats 1000000 in
theorem add_ok {Bv : Nat → Prop} {p : Option Addr} {n c : Nat} {X : List RV} {K : Value → World → Prop} (H : JD w jb d a j B) (hs : Sure a j) (hv : VR w Bv p n X) (hd : ∀ b, Bv b → ¬ (B b ∨ b = jb)) (hlen : (body (saysR X)).length ≤ 2 ^ 40) (hn : n ≤ 2 ^ 40) (hsz : j.size ≤ 2 ^ 61)
    (hk : JPost w jb d (a.add j (saysR X)).2.1 (a.add j (saysR X)).2.2 B (K (.int .i64 (a.add j (saysR X)).1))) :
    callP Tryz.prog 19 [.pointer (some ⟨jb, 0, none⟩), .slice p n c] w K := by
  refine ok_journal_Journal_Add ?_
  unfold wp_journal_Journal_Add
  unfold AD.add at hk
  have hsr : saysR X = [] ↔ n = 0 := by
    unfold saysR
    rw [List.map_eq_nil_iff, ← List.length_eq_zero_iff, hv.len]
  refine isDown_ok H fun w1 B1 H1 c1 n1 => ⟨_, rfl, Sif_cases (fun h => ?_) fun h => ?_⟩
  · rw [if_pos h] at hk
    exact hk w1 B1 H1 c1 n1
  rw [if_neg (bool_not_true h)] at hk
  have hv1 := hv.ch c1 hd
  refine are_ok hv1 (by omega) ⟨_, rfl, Sif_cases (fun h2 => ?_) fun h2 => ?_⟩
  · have h2' : recsB (saysR X) = false := by simpa using h2
    rw [if_pos h2'] at hk
    exact hk w1 B1 H1 c1 n1
  have h2' : recsB (saysR X) = true := by simpa using h2
  rw [if_neg (by rw [h2']; simp)] at hk
  refine Sif_cases (fun h3 => ?_) fun h3 => ?_
  · have h3' : n = 0 := by have : (n : Int) = 0 := by simpa using h3
                           omega
    rw [if_pos (hsr.2 h3')] at hk
    exact hk w1 B1 H1 c1 n1
  have h3' : ¬ n = 0 := by have : ¬ (n : Int) = 0 := by simpa using h3
                           omega
  rw [if_neg (fun e => h3' (hsr.1 e))] at hk
  refine jcut_ok H1 hs fun w2 B2 H2 c2 n2 => ⟨_, rfl, ?_⟩
  have c02 := chStep c1 n1 c2
  have n02 := inStep c1.size n1 n2
  refine Sif_cases (fun h4 => ?_) fun h4 => ?_
  · have h4' : ¬ (a.cut (j.look a)).1 = 0 := by simpa using h4
    rw [if_pos h4'] at hk
    exact noted_ok H2 fun w3 B3 H3 c3 n3 => ⟨_, rfl, hk w3 B3 H3 (chStep c02 n02 c3) (inStep c02.size n02 n3)⟩
  have h4' : (a.cut (j.look a)).1 = 0 := by simpa using h4
  rw [if_neg (fun e => e h4')] at hk
  unfold AD.lay at hk
  have hv2 := hv.ch c02 hd
  refine written_ok hv2 hlen hn fun w3 q m cq b hm o3 f3 c3 => ⟨_, _, _, rfl, ?_⟩
  have hmb : m ≤ 2 ^ 41 := by
    by_cases he : saysR X = []
    · exact absurd (hsr.1 he) h3'
    · have := batchB_length he; omega
  have H3 := H2.ch0 c3
  simp only [nn_some, add_at, Nat.zero_add]
  refine ⟨_, H3.c0, append_ok H3.dk (by decide) o3.rd (by omega) (fun x hx h0 hB => ?_) fun w4 B4 D4 c4 n4 => ⟨_, rfl, ?_⟩⟩
  · have h5 := f3 _ (o3.inB (by decide) x hx h0)
    have h6 := H2.dk.lt _ hB
    omega
  have H4 : JD w4 jb d (step ((a.cut (j.look a)).2.1.append sLog (batchB (saysR X)))).2 _ B4 := H3.disk D4.sort c4 n4
  have c03 := c02.new c3
  have n03 : ∀ b, B2 b → B b ∨ w.heap.size ≤ b := n02
  have c04 := chStep c03 n03 (chOr1 (jb := jb) c4)
  have n04 := inStep c03.size n03 n4
  refine Sif_cases (fun h5 => ?_) fun h5 => ?_
  · have h5' : ¬ ((a.cut (j.look a)).2.1.append sLog (batchB (saysR X))).1 = 0 := by simpa using h5
    rw [if_pos (by exact h5')] at hk
    exact noted_ok H4 fun w5 B5 H5 c5 n5 => ⟨_, rfl, hk w5 B5 H5 (chStep c04 n04 c5) (inStep c04.size n04 n5)⟩
  have h5' : ((a.cut (j.look a)).2.1.append sLog (batchB (saysR X))).1 = 0 := by simpa using h5
  rw [if_neg (by exact fun e => e h5')] at hk
  refine ⟨_, H4.c0, sync_ok H4.dk (by decide) fun w5 B5 D5 c5 n5 => ⟨_, rfl, ?_⟩⟩
  have H5 : JD w5 jb d (step ((step ((a.cut (j.look a)).2.1.append sLog (batchB (saysR X)))).2.sync sLog)).2 _ B5 := H4.disk D5.sort c5 n5
  have c05 := chStep c04 n04 (chOr1 (jb := jb) c5)
  have n05 := inStep c04.size n04 n5
  refine Sif_cases (fun h6 => ?_) fun h6 => ?_
  · have h6' : ¬ ((step ((a.cut (j.look a)).2.1.append sLog (batchB (saysR X)))).2.sync sLog).1 = 0 := by simpa using h6
    rw [if_pos (by exact h6')] at hk
    exact noted_ok H5 fun w6 B6 H6 c6 n6 => ⟨_, rfl, hk w6 B6 H6 (chStep c05 n05 c6) (inStep c05.size n05 n6)⟩
  have h6' : ((step ((a.cut (j.look a)).2.1.append sLog (batchB (saysR X)))).2.sync sLog).1 = 0 := by simpa using h6
  rw [if_neg (by exact fun e => e h6')] at hk
  have hsz2 : (a.cut (j.look a)).2.2.size = j.size := by
    unfold AD.cut
    split
    · rfl
    · split
      · rfl
      · split <;> rfl
  refine ⟨_, H5.c1, ?_⟩
  rw [wrap_id (by omega) (by omega)]
  refine H5.st (j' := { (a.cut (j.look a)).2.2 with size := (a.cut (j.look a)).2.2.size + (batchB (saysR X)).length }) (by omega) ?_ fun w6 H6 c6 z6 => hk w6 B5 H6 (c05.trans (chOr2 (B := B) c6) fun _ _ => id) n05
  rw [hm]
  rfl
theorem saysL_all {Y : List BV} : (saysL Y).all recsB = Y.all fun y => recsB y.says := by
  unfold saysL
  rw [List.all_map]; rfl
set_option maxHeartbeats 1000000 in
theorem shorten_ok {Bv : Nat → Prop} {p : Option Addr} {n c : Nat} {Y : List BV} {K : Value → World → Prop} (H : JD w jb d a j B) (hv : VL w Bv p n Y) (hd : ∀ b, Bv b → ¬ (B b ∨ b = jb)) (hlen : (allB (saysL Y)).length ≤ 2 ^ 40) (hn : n ≤ 2 ^ 40) (hns : ∀ y ∈ Y, y.n ≤ 2 ^ 40)
    (hk : JPost w jb d (a.shorten j (saysL Y)).2.1 (a.shorten j (saysL Y)).2.2 B (K (.int .i64 (a.shorten j (saysL Y)).1))) :
    callP Tryz.prog 28 [.pointer (some ⟨jb, 0, none⟩), .slice p n c] w K := by
  refine ok_journal_Journal_Shorten ?_
  unfold wp_journal_Journal_Shorten
  unfold AD.shorten at hk
  have hl := hv.len
  refine isDown_ok H fun w1 B1 H1 c1 n1 => ⟨_, rfl, Sif_cases (fun h => ?_) fun h => ?_⟩
  · rw [if_pos h] at hk
    exact hk w1 B1 H1 c1 n1
  rw [if_neg (bool_not_true h)] at hk
  have hv1 := hv.ch c1 hd
  refine ⟨fun m q t cq i w' => ∃ (k : Nat) (b : Option Nat), i = (k : Int) ∧ k ≤ n ∧ m = n - k ∧ Ch (fun _ => False) w1 w' ∧ (∀ x, b = some x → w1.heap.size ≤ x) ∧ t = (allB (saysL (Y.take k))).length ∧ Ow w' q t cq 1 (bytesV (allB (saysL (Y.take k)))) b ∧ (saysL (Y.take k)).all recsB = true,
    ⟨n, 0, none, rfl, by omega, rfl, Ch.refl _ _, (fun x hx => by cases hx), by simp [saysL, allB], Ow.nil, rfl⟩, ?_⟩
  rintro m q t cq i w2 ⟨k, b2, rfl, hkn, rfl, C2, f2, rfl, o2, hall⟩
  have hle9 := allB_take_le Y k
  have s2 := C2.size
  refine Sif_cases (fun hlt => ?_) fun hge => ?_
  · have hlt' : (k : Int) < n := by simpa using hlt
    have hkl : k < Y.length := by omega
    have hi := List.getElem?_eq_getElem hkl
    have hv2 := hv1.ch0 C2
    obtain ⟨x, o, rfl, hcell⟩ := hv2.at hi
    have hy := hv2.ok _ (List.getElem_mem hkl)
    have hyn := hns _ (List.getElem_mem hkl)
    have hsucc := congrArg List.length (allB_take_succ hi)
    have hle := allB_take_le Y (k + 1)
    simp only [List.length_append] at hsucc
    have hbl := body_le Y[k].says
    refine ⟨by omega, by omega, ?_⟩
    simp only [nn_some, add_at, Int.toNat_natCast, Nat.mul_one]
    refine ⟨_, _, _, hcell, are_ok hy.rd (by omega) ⟨_, rfl, Sif_cases (fun hb => ?_) fun hb => ?_⟩⟩
    · have hb' : recsB Y[k].says = false := by simpa [BV.says] using hb
      have : (saysL Y).all recsB = false := by
        rw [saysL_all, List.all_eq_false]
        exact ⟨_, List.getElem_mem hkl, by simp [hb']⟩
      rw [if_pos this] at hk
      exact hk w2 B1 (H1.ch0 C2) (c1.new C2) n1
    · have hb' : recsB Y[k].says = true := by simpa [BV.says] using hb
      refine written_ok hy.rd (by show (body Y[k].says).length ≤ _; omega) (by omega) fun w3 p3 m3 c3 b3 hm3 o3 n3 C3 => ⟨_, _, _, rfl, ?_⟩
      have hm3' : m3 = (batchB Y[k].says).length := hm3
      refine apB (o2.ch C3 fun _ _ => id) o3.rd (by omega) fun p4 c4 b4 w4 o4 n4 C4 => ?_
      have s3 := C3.size
      rw [wrap_id (by omega) (by omega)]
      refine ⟨n - (k + 1), by omega, k + 1, b4, by omega, by omega, rfl, (C2.new C3).trans C4 fun x hx e => by have := f2 x e; omega, fun x hx => ?_, by omega, ?_, ?_⟩
      · rcases n4 x hx with e | e
        · exact f2 x e
        · omega
      · rw [allB_take_succ hi]
        exact o4
      · rw [List.take_succ_eq_append_getElem hkl, saysL_all, List.all_append, ← saysL_all, hall]
        simp [hb']
  · have hk' : ¬ (k : Int) < n := by simpa using hge
    rw [List.take_of_length_le (by omega)] at o2 hall ⊢
    rw [if_neg (by rw [hall]; simp)] at hk
    have H2 := H1.ch0 C2
    have c02 := c1.new C2
    refine replace_ok H2 o2.rd (by omega) (fun x hx h0 hB => ?_) fun w3 B3 H3 c3 n3 => ⟨_, rfl, ?_⟩
    · have h5 := f2 _ (o2.inB (by decide) x hx h0)
      have h6 := H1.dk.lt _ hB
      omega
    have c03 := chStep c02 n1 c3
    have n03 := inStep c02.size n1 n3
    refine Sif_cases (fun h5 => ?_) fun h5 => ?_
    · have h5' : ¬ (a.repl (allB (saysL Y))).1 = 0 := by simpa using h5
      rw [if_pos h5'] at hk
      exact noted_ok H3 fun w4 B4 H4 c4 n4 => ⟨_, rfl, hk w4 B4 H4 (chStep c03 n03 c4) (inStep c03.size n03 n4)⟩
    · have h5' : (a.repl (allB (saysL Y))).1 = 0 := by simpa using h5
      rw [if_neg (fun e => e h5')] at hk
      simp only [nn_some, add_at, Nat.zero_add]
      refine H3.st (j' := { j.look a with size := (allB (saysL Y)).length }) (by omega) rfl fun w4 H4 c4 z4 => ?_
      refine H4.st (j' := { j.look a with size := (allB (saysL Y)).length, tail := false }) (by omega) rfl fun w5 H5 c5 z5 => hk w5 B3 H5 (c03.trans (chOr2 (B := B) (c4.trans' c5)) fun _ _ => id) n03
end
end Go.Proofs.YtipololccbdojaaGreatDoor
