/-
  QueueNumbers, QueueMakes: the walks; the document's New.
-/
import Derived.Test.YtipbbjnmpnfhpaaDoorQlive
import Derived.Test.YtipbbjnmpnfhpaaDoorQrefWp
namespace Go.Proofs.YtipbbjnmpnfhpaaDoor
open Go Go.Sv Go.Heap Go.Qu Go.MapKept
set_option linter.unusedVariables false
set_option maxRecDepth 4000
theorem numbers_law {w : World} {K : Value → World → Prop} (hk : ∀ w', Ch (fun _ => False) w w' → K (.bool true) w') : callP Tryd.prog 3 [] w K := by
  refine ok_longshorelaw17_QueueNumbers ?_
  unfold wp_longshorelaw17_QueueNumbers
  exact live_ok fun w1 c1 => ⟨_, rfl, Sif_true (hk w1 c1)⟩
def refChk (n : Int) : Bool := (decide (97 ≤ n) && decide (n ≤ 122)) || (decide (48 ≤ n) && decide (n ≤ 57)) || decide (n = 45) || decide (n = 46) || decide (n = 95)
theorem refChk_eq : ∀ k : Fin 256, nmSet.contains (UInt8.ofNat k.val) = refChk (k.val : Int) := by decide +kernel
theorem refChk_b (b : UInt8) : nmSet.contains b = refChk (b.toNat : Int) := by
  have := refChk_eq ⟨b.toNat, UInt8.toNat_lt b⟩
  simpa using this
theorem rname_ok {s : ByteArray} {w : World} {K : Value → World → Prop} (hk : K (.bool (isNm s)) w) : callP Tryd.prog 36 [.string s] w K := by
  refine ok_longshoreref17_Name ?_
  unfold wp_longshoreref17_Name
  have hsz : s.size = s.data.toList.length := by rw [Array.length_toList]; rfl
  refine ⟨fun w1 => w1 = w ∧ 1 ≤ s.size ∧ s.size ≤ 64, ?_, Sif_cases (fun h1 => Sif_cases (fun h2 => ?_) fun h2 => ⟨by trivial, ?_, ?_⟩) fun h1 => ?_⟩
  rotate_left
  · have h2 : 64 < s.size := by
      have : (s.size : Int) > 64 := by simpa using h2
      omega
    have e : isNm s = false := by unfold isNm; simp; omega
    rw [e] at hk; exact hk
  · have : ¬ (s.size : Int) < 1 := by simpa using h1
    omega
  · have : ¬ (s.size : Int) > 64 := by simpa using h2
    omega
  · have h1 : s.size < 1 := by
      have : (s.size : Int) < 1 := by simpa using h1
      omega
    have e : isNm s = false := by unfold isNm; simp; omega
    rw [e] at hk; exact hk
  rintro _ ⟨rfl, h1, h2⟩
  rename_i w
  refine ⟨fun m n w1 => ∃ j : Nat, n = (j : Int) ∧ j ≤ s.size ∧ m = s.size - j ∧ w1 = w ∧ ∀ b ∈ s.data.toList.take j, nmSet.contains b = true, ⟨s.size, 0, rfl, Nat.zero_le _, rfl, rfl, by simp⟩, ?_⟩
  rintro m n w1 ⟨j, rfl, hj, rfl, rfl, hall⟩
  refine Sif_cases (fun h => ?_) fun h => ?_
  · have h : j < s.size := by
      have : (j : Int) < (s.size : Int) := by simpa using h
      omega
    have hjl : j < s.data.toList.length := by omega
    have hb : s.data.toList[j]? = some s.data.toList[j] := List.getElem?_eq_getElem hjl
    obtain ⟨b, hbb⟩ : ∃ b, b = s.data.toList[j] := ⟨_, rfl⟩
    rw [← hbb] at hb
    have hbyte : byteAt s j = (b.toNat : Int) := by unfold byteAt; rw [List.getD_eq_getElem?_getD, hb]; rfl
    refine ⟨fun w3 => w3 = w1 ∧ nmSet.contains b = true, ?_, by omega, by omega, ?_⟩
    · rintro w3 ⟨rfl, hc⟩
      rw [wrap_id (by omega) (by omega), nameI_iff]
      refine ⟨s.size - (j + 1), by omega, j + 1, rfl, h, rfl, rfl, fun x hx => ?_⟩
      rw [List.take_add_one, hb] at hx
      rcases List.mem_append.1 hx with hx | hx
      · exact hall x hx
      · simp at hx; rw [hx]; exact hc
    · rw [Int.toNat_natCast, hbyte, nameI_iff]
      have hrc := refChk_b b
      obtain ⟨n, hn⟩ : ∃ n : Int, n = (b.toNat : Int) := ⟨_, rfl⟩
      rw [← hn] at hrc ⊢
      refine ⟨fun x w3 => w3 = w1 ∧ x = refChk n, ?_, ?_⟩
      · rintro x w3 ⟨rfl, rfl⟩
        refine Sif_cases (fun g => ?_) fun g => ⟨by trivial, ?_⟩
        · have g : refChk n = false := by simpa using g
          have e : isNm s = false := by
            rw [← hrc] at g
            unfold isNm
            have : (s.data.toList.all fun b => nmSet.contains b) = false := by
              rw [← Bool.not_eq_true, List.all_eq_true]
              intro hh
              have := hh b (List.mem_of_getElem? hb)
              rw [g] at this; cases this
            rw [this, Bool.and_false]
          rw [e] at hk; exact hk
        · rw [hrc]; simpa using g
      · have fin : ∀ x : Bool, (x = true ↔ ((97 ≤ n ∧ n ≤ 122) ∨ (48 ≤ n ∧ n ≤ 57) ∨ n = 45 ∨ n = 46 ∨ n = 95)) → w1 = w1 ∧ x = refChk n := fun x hx => ⟨rfl, by
          rw [Bool.eq_iff_iff, hx]
          unfold refChk
          simp only [Bool.or_eq_true, Bool.and_eq_true, decide_eq_true_eq]
          omega⟩
        repeat' (first | refine Sif_cases (fun _ => ?_) fun _ => ?_ | refine fin _ ?_)
        all_goals simp_all
        all_goals omega
  · have h : j = s.size := by
      have : ¬ (j : Int) < (s.size : Int) := by simpa using h
      omega
    subst h
    have e : isNm s = true := by
      unfold isNm
      simp only [h1, h2, decide_true, Bool.true_and, List.all_eq_true]
      rw [hsz, List.take_length] at hall
      exact hall
    rw [e] at hk; exact hk
theorem rcfg_ok {c : Cfg} {w : World} {K : Value → World → Prop} (hk : ∀ w', Ch (fun _ => False) w w' → K (.bool (cfgOk c)) w') : callP Tryd.prog 22 [cfgV c] w K := by
  refine ok_longshoreref17_Config ?_
  unfold wp_longshoreref17_Config
  refine newB_blk fun w1 b1 c1 z1 => ?_
  simp only [add_at, Nat.zero_add, cell_blk b1]
  refine ⟨_, rfl, rname_ok ⟨_, rfl, ?_⟩⟩
  simp only [cell_blk b1]
  refine ⟨_, rfl, rname_ok ⟨_, rfl, ?_⟩⟩
  simp only [cell_blk b1]
  have hk := hk w1 c1
  unfold cfgOk at hk
  have emp : (c.dead.toList == (ByteArray.mk #[]).toList) = decide (c.dead = ByteArray.mk #[]) := by
    rw [Bool.eq_iff_iff, beq_iff_eq, decide_eq_true_eq]
    exact ⟨toList_inj, fun e => by rw [e]⟩
  have eqn : (c.dead.toList == c.name.toList) = decide (c.dead = c.name) := by
    rw [Bool.eq_iff_iff, beq_iff_eq, decide_eq_true_eq]
    exact ⟨toList_inj, fun e => by rw [e]⟩
  have fin : ∀ x : Bool, x = (isNm c.name && decide (1 ≤ c.most) && decide (c.most ≤ 4096) && decide (0 ≤ c.tries) && decide (c.tries ≤ 4294967295) && (decide (c.dead = ByteArray.mk #[]) || (isNm c.dead && !(decide (c.dead = c.name))))) → K (.bool x) w1 := fun x e => e ▸ hk
  refine Sif_cases (fun g1 => ?_) fun g1 => fin _ (by rw [g1]; rfl)
  refine ⟨_, rfl, Sif_cases (fun g2 => ?_) fun g2 => fin _ ?_⟩
  rotate_left
  · have g2 : decide (1 ≤ c.most) = false := g2
    rw [g1, g2]; rfl
  have g2 : decide (1 ≤ c.most) = true := g2
  refine ⟨_, rfl, Sif_cases (fun g3 => ?_) fun g3 => fin _ (by rw [g1, g2, g3]; rfl)⟩
  have tail : (decide (c.dead = ByteArray.mk #[]) || (isNm c.dead && !(decide (c.dead = c.name)))) = true → ∃ n2 : Int, some (Value.int .i64 c.tries) = some (.int .i64 n2) ∧ Sif (decide (n2 ≥ 0)) (∃ n3 : Int, some (Value.int .i64 c.tries) = some (.int .i64 n3) ∧ K (.bool (decide (n3 ≤ 4294967295))) w1) (K (.bool false) w1) := fun g4 => by
    refine ⟨_, rfl, Sif_cases (fun g5 => ⟨_, rfl, fin _ ?_⟩) fun g5 => fin _ ?_⟩
    · have g5 : decide (0 ≤ c.tries) = true := g5
      rw [g1, g2, g3, g4, g5]; simp
    · have g5 : decide (0 ≤ c.tries) = false := g5
      rw [g1, g2, g3, g5]; rfl
  refine ⟨_, rfl, ?_⟩
  rw [emp]
  refine Sif_cases (fun g4 => ?_) fun g4 => ?_
  · have g4 : decide (c.dead = ByteArray.mk #[]) = false := by simpa using g4
    refine Sif_cases (fun g5 => ?_) fun g5 => fin _ (by rw [g4, g5]; simp)
    refine ⟨_, rfl, _, rfl, ?_⟩
    rw [eqn]
    refine Sif_cases (fun g6 => tail ?_) fun g6 => fin _ ?_
    · rw [g4, g5]; simpa using g6
    · have g6 : decide (c.dead = c.name) = true := by simpa using g6
      rw [g4, g6]; simp
  · have g4 : decide (c.dead = ByteArray.mk #[]) = true := by simpa using g4
    exact tail (by rw [g4]; rfl)
theorem rnew_ok {c : Cfg} {w : World} {K : Value → World → Prop}
    (hno : cfgOk c = false → ∀ w', Ch (fun _ => False) w w' → K (.pointer none) w')
    (hyes : cfgOk c = true → ∀ w' rb, blk w' rb = some [.string c.name, .int .i64 c.most, .string c.dead, .int .i64 c.tries, .bool c.dur, .slice none 0 0, .int .i64 0] → w.heap.size ≤ rb → Ch (fun _ => False) w w' → K (.pointer (some ⟨rb, 0, none⟩)) w') : callP Tryd.prog 9 [cfgV c] w K := by
  refine ok_longshoreref17_New ?_
  unfold wp_longshoreref17_New
  refine newB_blk fun w1 b1 c1 z1 => ?_
  simp only [add_at, Nat.zero_add, cell_blk b1]
  refine ⟨_, rfl, _, rfl, _, rfl, _, rfl, _, rfl, rcfg_ok (c := c) fun w2 c2 => ⟨_, rfl, Sif_cases (fun g => ?_) fun g => ?_⟩⟩
  · exact hno (by simpa using g) w2 (c1.trans' c2)
  · have b2 : blk w2 w.heap.size = some [.string c.name, .int .i64 c.most, .string c.dead, .int .i64 c.tries, .bool c.dur] := by rw [c2.blk (blk_lt b1) id]; exact b1
    simp only [cell_blk b2]
    refine ⟨_, rfl, _, rfl, _, rfl, _, rfl, _, rfl, newB_blk fun w3 b3 c3 z3 => ?_⟩
    exact hyes (by simpa using g) w3 _ b3 (by have := c2.size; omega) ((c1.trans' c2).trans' c3)
theorem cfg_rd {w : World} {k : Nat} {c : Cfg} {K : ByteArray → Int → ByteArray → Int → Bool → Prop} (h : blk w k = some [.string c.name, .int .i64 c.most, .string c.dead, .int .i64 c.tries, .bool c.dur]) (hk : K c.name c.most c.dead c.tries c.dur) :
    ∃ s, w.cell? ⟨k, 0, none⟩ = some (.string s) ∧ ∃ n, w.cell? ⟨k, 1, none⟩ = some (.int .i64 n) ∧ ∃ s1, w.cell? ⟨k, 2, none⟩ = some (.string s1) ∧ ∃ n1, w.cell? ⟨k, 3, none⟩ = some (.int .i64 n1) ∧ ∃ b, w.cell? ⟨k, 4, none⟩ = some (.bool b) ∧ K s n s1 n1 b := by
  simp only [cell_blk h]
  exact ⟨_, rfl, _, rfl, _, rfl, _, rfl, _, rfl, hk⟩
theorem makes_law {c : Cfg} {w : World} {K : Value → World → Prop} (h1 : c.name.size ≤ 2 ^ 40) (h2 : c.dead.size ≤ 2 ^ 40) (hk : ∀ w', Ch (fun _ => False) w w' → K (.bool true) w') : callP Tryd.prog 4 [cfgV c] w K := by
  refine ok_longshorelaw17_QueueMakes ?_
  unfold wp_longshorelaw17_QueueMakes
  refine newB_blk fun w1 b1 c1 z1 => ?_
  refine live_ok fun w2 c2 => ⟨_, rfl, ?_⟩
  have b2 : blk w2 w.heap.size = some [.string c.name, .int .i64 c.most, .string c.dead, .int .i64 c.tries, .bool c.dur] := by rw [c2.blk (blk_lt b1) id]; exact b1
  simp only [add_at, Nat.zero_add]
  refine cfg_rd b2 ?_
  have c02 := c1.trans' c2
  refine qnew_ok (c := c) (by omega) (by omega) (fun hc w3 c3 => ⟨_, rfl, ?_⟩) fun hc w3 qb B Q3 n3 c3 => ⟨_, rfl, ?_⟩
  · have b3 : blk w3 w.heap.size = some [.string c.name, .int .i64 c.most, .string c.dead, .int .i64 c.tries, .bool c.dur] := by rw [c3.blk (blk_lt b2) id]; exact b2
    refine cfg_rd b3 (rnew_ok (c := c) (fun _ w4 c4 => ⟨_, rfl, ?_⟩) fun h => by rw [hc] at h; cases h)
    exact ⟨fun _ => False, fun _ h => h.elim, Sif_false (Sif_true (hk w4 ((c02.trans' c3).trans' c4)))⟩
  · have b3 : blk w3 w.heap.size = some [.string c.name, .int .i64 c.most, .string c.dead, .int .i64 c.tries, .bool c.dur] := by rw [c3.blk (blk_lt b2) id]; exact b2
    refine cfg_rd b3 (rnew_ok (c := c) (fun h => by rw [hc] at h; cases h) fun _ w4 rb b4 n4 c4 => ⟨_, rfl, ?_⟩)
    have Q4 := Q3.ch c4 fun _ _ => id
    have b4' : blk w4 w.heap.size = some [.string c.name, .int .i64 c.most, .string c.dead, .int .i64 c.tries, .bool c.dur] := by rw [c4.blk (blk_lt b3) id]; exact b3
    have c04 := (c02.trans' c3).trans' c4
    refine ⟨fun w5 => w5 = w4, ?_, Sif_true (Sif_false (by trivial))⟩
    rintro w5 rfl
    refine qlen_ok Q4 ⟨_, _, rfl, Sif_true ?_⟩
    refine cfg_rd (show blk w5.drew w.heap.size = _ from b4') ?_
    refine qconf_ok ((Q4.ch (Ch.drew (S := fun _ => False) _) fun _ _ => id).ch (Ch.drew (S := fun _ => False) _) fun _ _ => id) fun w7 c7 => ⟨_, _, _, _, _, rfl, ?_⟩
    have b7 : blk w7 w.heap.size = some [.string c.name, .int .i64 c.most, .string c.dead, .int .i64 c.tries, .bool c.dur] := by rw [c7.blk (show w.heap.size < w5.drew.heap.size from blk_lt b4') id]; exact b4'
    refine ⟨cfg_rd b7 rfl, ?_⟩
    simp only [beq_self_eq_true, Bool.and_self]
    exact Sif_true (Sif_true (hk w7 (((c04.trans' (Ch.drew w5)).trans' (Ch.drew _)).trans' c7)))
end Go.Proofs.YtipbbjnmpnfhpaaDoor
