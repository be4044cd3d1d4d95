/-
  The queue's New: what may be a name.
-/
import Derived.Test.YtipbbjnmpnfhpaaDoorQmap
import Derived.Test.YtipbbjnmpnfhpaaDoorShelf2
namespace Go.Proofs.YtipbbjnmpnfhpaaDoor
open Go Go.Sv Go.Heap Go.Qu Go.MapKept
set_option linter.unusedVariables false
set_option maxRecDepth 4000
def nmSet : List UInt8 := [97, 98, 99, 100, 101, 102, 103, 104, 105, 106, 107, 108, 109, 110, 111, 112, 113, 114, 115, 116, 117, 118, 119, 120, 121, 122, 48, 49, 50, 51, 52, 53, 54, 55, 56, 57, 45, 46, 95]
/-- may a text be a queue's name? -/
def isNm (s : ByteArray) : Bool := decide (1 ≤ s.size) && decide (s.size ≤ 64) && s.data.toList.all fun b => nmSet.contains b
theorem toList_inj {a b : ByteArray} (h : a.toList = b.toList) : a = b := data_ext (by rw [ByteArray.toList_eq, ByteArray.toList_eq] at h; exact h)
theorem dw_nil {α : Type} {p : α → Bool} : ∀ l : List α, l.dropWhile p = [] ↔ ∀ b ∈ l, p b = true
  | [] => by simp
  | a :: l => by
    rw [List.dropWhile_cons]
    cases h : p a
    · simp [h]
    · simp [h, dw_nil l]
theorem trimS_nil (l cs : List UInt8) : Lib.trimS l cs = [] ↔ ∀ b ∈ l, cs.contains b = true := by
  unfold Lib.trimS Lib.trimLeftS Lib.trimRightS
  rw [dw_nil]
  constructor
  · intro h b hb
    have h1 := List.takeWhile_append_dropWhile (p := fun x => cs.contains x) (l := l.reverse)
    have h2 : b ∈ l.reverse := List.mem_reverse.2 hb
    rw [← h1] at h2
    rcases List.mem_append.1 h2 with h2 | h2
    · exact List.all_eq_true.1 (List.all_takeWhile (p := fun x => cs.contains x) (l := l.reverse)) b h2
    · exact h b (List.mem_reverse.2 h2)
  · intro h b hb
    exact h b (List.mem_reverse.1 ((List.dropWhile_sublist _).subset (List.mem_reverse.1 hb)))
theorem trim_ok {s : ByteArray} {w : World} {K : Value → World → Prop} (hs : s.size ≤ 9223372036854775807)
    (hk : ∀ w', Ch (fun _ => False) w w' → K (.string ⟨(Lib.trimS s.data.toList nmSet).toArray⟩) w') : callP Tryd.prog 35 [.string s, .string (ByteArray.mk #[97, 98, 99, 100, 101, 102, 103, 104, 105, 106, 107, 108, 109, 110, 111, 112, 113, 114, 115, 116, 117, 118, 119, 120, 121, 122, 48, 49, 50, 51, 52, 53, 54, 55, 56, 57, 45, 46, 95])] w K := by
  refine (Any.strings_Trim_laid Tryd.lays160 (by kernel_rfl) s (ByteArray.mk #[97, 98, 99, 100, 101, 102, 103, 104, 105, 106, 107, 108, 109, 110, 111, 112, 113, 114, 115, 116, 117, 118, 119, 120, 121, 122, 48, 49, 50, 51, 52, 53, 54, 55, 56, 57, 45, 46, 95]) w hs (by decide) (ascii_of_all (by decide))).mono fun e w' ⟨he, hb⟩ => ⟨_, he, ?_⟩
  obtain ⟨h1, h2, h3, h4, h5⟩ := hb
  exact hk w' ⟨h1, h2, h3, h4, fun b hb _ => h5 b hb⟩
theorem named_ok {s : ByteArray} {w : World} {K : Value → World → Prop} (hs : s.size ≤ 9223372036854775807)
    (hk : ∀ w', Ch (fun _ => False) w w' → K (.bool (isNm s)) w') : callP Tryd.prog 21 [.string s] w K := by
  refine ok_queue_named ?_
  unfold wp_queue_named
  have no : isNm s = false → K (.bool false) w := fun h => h ▸ hk w (Ch.refl _ _)
  refine Sif_cases (fun h1 => Sif_cases (fun h2 => ?_) fun h2 => no ?_) fun h1 => no ?_
  · have h1 : 1 ≤ s.size := by
      have : (s.size : Int) ≥ 1 := by simpa using h1
      omega
    have h2 : s.size ≤ 64 := by
      have : (s.size : Int) ≤ 64 := by simpa using h2
      omega
    refine trim_ok hs fun w' c => ⟨_, rfl, ?_⟩
    have e : ((ByteArray.mk (Lib.trimS s.data.toList nmSet).toArray).toList == (ByteArray.mk #[]).toList) = isNm s := by
      rw [Bool.eq_iff_iff, beq_iff_eq, ByteArray.toList_eq, ByteArray.toList_eq]
      unfold isNm
      simp only [h1, h2, decide_true, Bool.true_and, List.all_eq_true]
      exact trimS_nil _ _
    rw [e]
    exact hk w' c
  · have h2 : ¬ s.size ≤ 64 := by
      have : ¬ (s.size : Int) ≤ 64 := by simpa using h2
      omega
    unfold isNm; simp [h2]
  · have h1 : ¬ 1 ≤ s.size := by
      have : ¬ (s.size : Int) ≥ 1 := by simpa using h1
      omega
    unfold isNm; simp [h1]
/-- may a queue be made so? -/
def cfgOk (c : Cfg) : Bool := isNm c.name && decide (1 ≤ c.most) && decide (c.most ≤ 4096) && decide (0 ≤ c.tries) && decide (c.tries ≤ 4294967295) && (decide (c.dead = ByteArray.mk #[]) || (isNm c.dead && !(decide (c.dead = c.name))))
theorem qnew_ok {c : Cfg} {w : World} {K : Value → World → Prop} (h1 : c.name.size ≤ 9223372036854775807) (h2 : c.dead.size ≤ 9223372036854775807)
    (hno : cfgOk c = false → ∀ w', Ch (fun _ => False) w w' → K (.pointer none) w')
    (hyes : cfgOk c = true → ∀ w' qb B, QK w' qb ⟨c, [], 0⟩ B → (∀ b, B b → w.heap.size ≤ b) → Ch (fun _ => False) w w' → K (.pointer (some ⟨qb, 0, none⟩)) w') : callP Tryd.prog 8 [cfgV c] w K := by
  refine ok_queue_New ?_
  unfold wp_queue_New
  refine newB_blk fun w1 b1 c1 z1 => ?_
  refine ⟨fun w2 => cfgOk c = true ∧ blk w2 w.heap.size = some [.string c.name, .int .i64 c.most, .string c.dead, .int .i64 c.tries, .bool c.dur] ∧ Ch (fun _ => False) w w2, ?_, ?_⟩
  · rintro w2 ⟨hc, b2, c2⟩
    simp only [add_at, Nat.zero_add, cell_blk b2]
    refine ⟨_, rfl, _, rfl, _, rfl, _, rfl, _, rfl, ?_⟩
    obtain ⟨w3, hrun, hm3, c3, z3⟩ := makeMap_run Tryd.prog 59 (.int .i64) w2
    refine ⟨_, w3, hrun, newB_blk fun w4 b4 c4 z4 => ?_⟩
    have hcc := hc
    unfold cfgOk at hcc
    simp only [Bool.and_eq_true, decide_eq_true_eq] at hcc
    refine hyes hc w4 w3.heap.size _ ⟨⟨hcc.1.1.1.1.2, hcc.1.1.1.2, hcc.1.1.2, hcc.1.2, .nil, (fun e he => by simp at he), (fun e he => by simp at he), by simp; omega, Int.le_refl _, by simp⟩, [], [], none, 0, none, w2.heap.size, ⟨b4, by simpa using Ow.nil, ⟨[], hm3.ch c4 id, by simp⟩, (fun x hx => by simp at hx), ?_⟩, ⟨fun c h0 hcn => by simp at hcn, by simp, (fun x hx => by simp at hx), fun x hx => by simp at hx⟩, rfl⟩ (fun b hb => ?_) ((c2.trans' c3).trans' c4)
    · simp [qbl, eB]; omega
    · have := c2.size
      simp [qbl, eB] at hb
      omega
  · have no : cfgOk c = false → ∀ w', Ch (fun _ => False) w1 w' → K (.pointer none) w' := fun h w' c' => hno h w' (c1.trans' c')
    simp only [add_at, Nat.zero_add]
    refine ⟨_, by rw [cell_blk b1]; rfl, named_ok h1 fun w2 c2 => ⟨_, rfl, ?_⟩⟩
    have b2 : blk w2 w.heap.size = some [.string c.name, .int .i64 c.most, .string c.dead, .int .i64 c.tries, .bool c.dur] := by rw [c2.blk (blk_lt b1) id]; exact b1
    rw [Bool.not_not]
    simp only [cell_blk b2]
    refine Sif_cases (fun g1 => ?_) fun g1 => no (by unfold cfgOk; simp [g1]) w2 c2
    have no' : ¬ cfgOk c = true → ∀ w', Ch (fun _ => False) w1 w' → K (.pointer none) w' := fun h => no (by simpa using h)
    have parts : cfgOk c = true ↔ (((((isNm c.name = true ∧ 1 ≤ c.most) ∧ c.most ≤ 4096) ∧ 0 ≤ c.tries) ∧ c.tries ≤ 4294967295) ∧ (c.dead = ByteArray.mk #[] ∨ (isNm c.dead = true ∧ ¬ c.dead = c.name))) := by
      unfold cfgOk
      simp only [Bool.and_eq_true, Bool.or_eq_true, decide_eq_true_eq, Bool.not_eq_true', decide_eq_false_iff_not]
    refine ⟨_, rfl, Sif_cases (fun g2 => ?_) fun g2 => no' (fun h => ?_) w2 c2⟩
    rotate_left
    · have g2 : c.most < 1 := by simpa using g2
      have := (parts.1 h).1.1.1.1.2
      omega
    refine ⟨_, rfl, Sif_cases (fun g3 => ?_) fun g3 => no' (fun h => ?_) w2 c2⟩
    rotate_left
    · have g3 : 4096 < c.most := by simpa using g3
      have := (parts.1 h).1.1.1.2
      omega
    refine ⟨_, rfl, Sif_cases (fun g4 => ?_) fun g4 => no' (fun h => ?_) w2 c2⟩
    rotate_left
    · have g4 : c.tries < 0 := by simpa using g4
      have := (parts.1 h).1.1.2
      omega
    refine ⟨_, rfl, Sif_cases (fun g5 => no' (fun h => ?_) w2 c2) fun g5 => ?_⟩
    · have g5 : 4294967295 < c.tries := by simpa using g5
      have := (parts.1 h).1.2
      omega
    have g2 : 1 ≤ c.most := by
      have : ¬ c.most < 1 := by simpa using g2
      omega
    have g3 : c.most ≤ 4096 := by
      have : ¬ 4096 < c.most := by simpa using g3
      omega
    have g4 : 0 ≤ c.tries := by
      have : ¬ c.tries < 0 := by simpa using g4
      omega
    have g5 : c.tries ≤ 4294967295 := by
      have : ¬ 4294967295 < c.tries := by simpa using g5
      omega
    refine ⟨_, rfl, Sif_cases (fun g6 => ?_) fun g6 => ?_⟩
    · have g6 : ¬ c.dead = ByteArray.mk #[] := fun e => by rw [e] at g6; simp at g6
      refine ⟨_, rfl, named_ok h2 fun w3 c3 => ⟨_, rfl, ?_⟩⟩
      have b3 : blk w3 w.heap.size = some [.string c.name, .int .i64 c.most, .string c.dead, .int .i64 c.tries, .bool c.dur] := by rw [c3.blk (blk_lt b2) id]; exact b2
      rw [Bool.not_not]
      simp only [cell_blk b3]
      refine Sif_cases (fun g7 => ?_) fun g7 => no' (fun h => ?_) w3 (c2.trans' c3)
      · refine ⟨_, rfl, _, rfl, Sif_cases (fun g8 => no' (fun h => ?_) w3 (c2.trans' c3)) fun g8 => ?_⟩
        · have g8 : c.dead = c.name := toList_inj (beq_iff_eq.1 g8)
          rcases (parts.1 h).2 with h | h
          · exact g6 h
          · exact h.2 g8
        · have g8 : ¬ c.dead = c.name := fun e => by rw [e] at g8; simp at g8
          exact ⟨parts.2 ⟨⟨⟨⟨⟨g1, g2⟩, g3⟩, g4⟩, g5⟩, .inr ⟨g7, g8⟩⟩, b3, (c1.trans' c2).trans' c3⟩
      · rcases (parts.1 h).2 with h | h
        · exact g6 h
        · rw [g7] at h; exact Bool.noConfusion h.1
    · have g6 : c.dead = ByteArray.mk #[] := toList_inj (by simpa only [Bool.not_eq_false', beq_iff_eq] using g6)
      exact ⟨parts.2 ⟨⟨⟨⟨⟨g1, g2⟩, g3⟩, g4⟩, g5⟩, .inl g6⟩, b2, c1.trans' c2⟩
end Go.Proofs.YtipbbjnmpnfhpaaDoor
