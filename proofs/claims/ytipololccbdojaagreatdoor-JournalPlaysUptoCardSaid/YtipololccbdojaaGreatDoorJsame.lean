/-
  The law's same; how many files a disk may have.
-/
import Derived.Test.YtipololccbdojaaGreatDoorJview
import Derived.Test.YtipololccbdojaaGreatDoorJlawWp
import Derived.Test.YtipololccbdojaaGreatDoorDiskS
import Derived.Test.YtipololccbdojaaGreatDoorJhold
namespace Go.Proofs.YtipololccbdojaaGreatDoor
open Go Go.Sv
set_option linter.unusedVariables false
set_option maxRecDepth 4000

theorem sameBytes_ok {w : World} {a b : Option Addr} {an ac bn bc : Nat} {x y : List UInt8} {K : Value → World → Prop} (h1 : Rd w a an 1 (bytesV x)) (h2 : Rd w b bn 1 (bytesV y)) (hk : K (.bool (decide (x = y))) w) :
    callP Tryz.prog 87 [.slice a an ac, .slice b bn bc] w K := by
  refine ok_longshorelaw20_sameBytes ?_
  unfold wp_longshorelaw20_sameBytes
  refine ⟨_, toStr h1, _, toStr h2, ?_⟩
  have e : ((⟨x.toArray⟩ : ByteArray).toList == (⟨y.toArray⟩ : ByteArray).toList) = decide (x = y) := by
    rw [ByteArray.toList_eq, ByteArray.toList_eq]
    by_cases h : x = y <;> simp [h]
  rw [e]; exact hk
theorem saysR_len (X : List RV) : (saysR X).length = X.length := by simp [saysR]
theorem saysL_len (Y : List BV) : (saysL Y).length = Y.length := by simp [saysL]
theorem take_eq {α : Type} {x y : List α} (h : x = y) (i : Nat) : x.take i = y.take i := by rw [h]
theorem sameBatch_ok {w : World} {A B : Nat → Prop} {a b : Option Addr} {an ac bn bc : Nat} {X Y : List RV} {K : Value → World → Prop} (h1 : VR w A a an X) (h2 : VR w B b bn Y) (hn : an ≤ 2 ^ 60) (hk : ∀ w', Ch (fun _ => False) w w' → K (.bool (decide (saysR X = saysR Y))) w') :
    callP Tryz.prog 40 [.slice a an ac, .slice b bn bc] w K := by
  have l1 := h1.len
  have l2 := h2.len
  refine ok_longshorelaw20_sameBatch ?_
  unfold wp_longshorelaw20_sameBatch
  refine Sif_cases (fun hne => ?_) fun he => ?_
  · have hne' : ¬ (an : Int) = bn := by simpa using hne
    have : saysR X ≠ saysR Y := fun e => by have := congrArg List.length e; rw [saysR_len, saysR_len] at this; omega
    have := hk w (Ch.refl _ _)
    rwa [decide_eq_false (by assumption)] at this
  have he' : (an : Int) = bn := by simpa using he
  refine ⟨fun m i w' => ∃ j : Nat, i = (j : Int) ∧ j ≤ an ∧ m = an - j ∧ Ch (fun _ => False) w w' ∧ (saysR X).take j = (saysR Y).take j, ⟨an, 0, rfl, by omega, rfl, Ch.refl _ _, rfl⟩, ?_⟩
  rintro m i w1 ⟨j, rfl, hj, rfl, c1, hall⟩
  refine Sif_cases (fun hlt => ?_) fun hge => ?_
  · have hlt' : (j : Int) < an := by simpa using hlt
    have hx : j < X.length := by omega
    have hy : j < Y.length := by omega
    have g1 := h1.ch0 c1
    have g2 := h2.ch0 c1
    obtain ⟨k1, o1, rfl, q1⟩ := g1.at (List.getElem?_eq_getElem hx)
    obtain ⟨k2, o2, rfl, q2⟩ := g2.at (List.getElem?_eq_getElem hy)
    refine ⟨by omega, hlt', ?_⟩
    simp only [nn_some]
    refine ⟨by omega, by omega, ?_⟩
    simp only [nn_some, add_at, Int.toNat_natCast, Nat.mul_one]
    refine ⟨_, _, _, q1, _, _, _, q2, ?_⟩
    have cd : Ch (fun _ => False) w w1.drew := c1.new (Ch.drew w1)
    refine sameBytes_ok ((g1.ch0 (Ch.drew _)).ok _ (List.getElem_mem hx)).rd ((g2.ch0 (Ch.drew _)).ok _ (List.getElem_mem hy)).rd ⟨_, rfl, ?_⟩
    have e1 : (saysR X)[j]? = some X[j].l := by unfold saysR; rw [List.getElem?_map, List.getElem?_eq_getElem hx]; rfl
    have e2 : (saysR Y)[j]? = some Y[j].l := by unfold saysR; rw [List.getElem?_map, List.getElem?_eq_getElem hy]; rfl
    refine Sif_cases (fun hb => ?_) fun hb => ?_
    · have hb' : ¬ X[j].l = Y[j].l := by simpa using hb
      have : saysR X ≠ saysR Y := fun e => by rw [e, e2] at e1; exact hb' (Option.some.inj e1).symm
      have := hk _ cd
      rwa [decide_eq_false (by assumption)] at this
    · have hb' : X[j].l = Y[j].l := by simpa using hb
      rw [wrap_id (by omega) (by omega), nameI_iff]
      refine ⟨an - (j + 1), by omega, j + 1, by omega, by omega, rfl, cd, ?_⟩
      rw [List.take_add_one, List.take_add_one, hall, e1, e2, hb']
  · have hj' : ¬ (j : Int) < an := by simpa using hge
    have : saysR X = saysR Y := by
      rw [List.take_of_length_le (by rw [saysR_len]; omega), List.take_of_length_le (by rw [saysR_len]; omega)] at hall
      exact hall
    have := hk _ c1
    rwa [decide_eq_true (by assumption)] at this
theorem same_ok {w : World} {A B : Nat → Prop} {a b : Option Addr} {an ac bn bc : Nat} {X Y : List BV} {K : Value → World → Prop} (h1 : VL w A a an X) (h2 : VL w B b bn Y) (hn : an ≤ 2 ^ 60) (hns : ∀ y ∈ X, y.n ≤ 2 ^ 60) (hk : ∀ w', Ch (fun _ => False) w w' → K (.bool (decide (saysL X = saysL Y))) w') :
    callP Tryz.prog 11 [.slice a an ac, .slice b bn bc] w K := by
  have l1 := h1.len
  have l2 := h2.len
  refine ok_longshorelaw20_same ?_
  unfold wp_longshorelaw20_same
  refine Sif_cases (fun hne => ?_) fun he => ?_
  · have hne' : ¬ (an : Int) = bn := by simpa using hne
    have : saysL X ≠ saysL Y := fun e => by have := congrArg List.length e; rw [saysL_len, saysL_len] at this; omega
    have := hk w (Ch.refl _ _)
    rwa [decide_eq_false (by assumption)] at this
  have he' : (an : Int) = bn := by simpa using he
  refine ⟨fun m i w' => ∃ j : Nat, i = (j : Int) ∧ j ≤ an ∧ m = an - j ∧ Ch (fun _ => False) w w' ∧ (saysL X).take j = (saysL Y).take j, ⟨an, 0, rfl, by omega, rfl, Ch.refl _ _, rfl⟩, ?_⟩
  rintro m i w1 ⟨j, rfl, hj, rfl, c1, hall⟩
  refine Sif_cases (fun hlt => ?_) fun hge => ?_
  · have hlt' : (j : Int) < an := by simpa using hlt
    have hx : j < X.length := by omega
    have hy : j < Y.length := by omega
    have g1 := h1.ch0 c1
    have g2 := h2.ch0 c1
    obtain ⟨k1, o1, rfl, q1⟩ := g1.at (List.getElem?_eq_getElem hx)
    obtain ⟨k2, o2, rfl, q2⟩ := g2.at (List.getElem?_eq_getElem hy)
    refine ⟨by omega, hlt', ?_⟩
    simp only [nn_some]
    refine ⟨by omega, by omega, ?_⟩
    simp only [nn_some, add_at, Int.toNat_natCast, Nat.mul_one]
    refine ⟨_, _, _, q1, _, _, _, q2, ?_⟩
    have cd : Ch (fun _ => False) w w1.drew := c1.new (Ch.drew w1)
    refine sameBatch_ok ((g1.ch0 (Ch.drew _)).ok _ (List.getElem_mem hx)).rd ((g2.ch0 (Ch.drew _)).ok _ (List.getElem_mem hy)).rd (hns _ (List.getElem_mem hx)) fun w2 c2 => ⟨_, rfl, ?_⟩
    have e1 : (saysL X)[j]? = some X[j].says := by unfold saysL; rw [List.getElem?_map, List.getElem?_eq_getElem hx]; rfl
    have e2 : (saysL Y)[j]? = some Y[j].says := by unfold saysL; rw [List.getElem?_map, List.getElem?_eq_getElem hy]; rfl
    refine Sif_cases (fun hb => ?_) fun hb => ?_
    · have hb' : ¬ X[j].says = Y[j].says := by simpa [BV.says] using hb
      have : saysL X ≠ saysL Y := fun e => by rw [e, e2] at e1; exact hb' (Option.some.inj e1).symm
      have := hk _ (cd.new c2)
      rwa [decide_eq_false (by assumption)] at this
    · have hb' : X[j].says = Y[j].says := by simpa [BV.says] using hb
      rw [wrap_id (by omega) (by omega), nameI_iff]
      refine ⟨an - (j + 1), by omega, j + 1, by omega, by omega, rfl, cd.new c2, ?_⟩
      rw [List.take_add_one, List.take_add_one, hall, e1, e2, hb']
  · have hj' : ¬ (j : Int) < an := by simpa using hge
    have : saysL X = saysL Y := by
      rw [List.take_of_length_le (by rw [saysL_len]; omega), List.take_of_length_le (by rw [saysL_len]; omega)] at hall
      exact hall
    have := hk _ c1
    rwa [decide_eq_true (by assumption)] at this

/-! ### How many files -/
def AD.cnt (a : AD) : Nat := a.fs.length
theorem cnt_sorted (a : AD) : a.sorted.cnt = a.cnt := sorted_len a
theorem cnt_done {a : AD} {g : AD → AD} {k : Nat} (hg : (g a.act).cnt ≤ a.cnt + k) : (a.done g).2.cnt ≤ a.cnt + k := by
  unfold AD.done
  split
  · show (a.fs.map _).length ≤ _
    rw [List.length_map]; unfold AD.cnt; omega
  · exact hg
theorem cnt_append (a : AD) (n : ByteArray) (l : List UInt8) : (step (a.append n l)).2.cnt ≤ a.cnt + 1 := by
  show (a.append n l).2.sorted.cnt ≤ _
  rw [cnt_sorted]
  have hm : (a.more n).cnt ≤ a.cnt + 1 := by
    unfold AD.more AD.cnt
    split <;> simp
  unfold AD.append
  split
  · show a.cnt ≤ _; omega
  · split
    · show a.cnt ≤ _; omega
    · split
      · show ((List.map _ ((a.more n).fs.map _)).length ≤ _)
        rw [List.length_map, List.length_map]; exact hm
      · show (((a.more n).fs.map _).length ≤ _)
        rw [List.length_map]; exact hm
theorem cnt_sync (a : AD) (n : ByteArray) : (step (a.sync n)).2.cnt ≤ a.cnt := by
  show (a.sync n).2.sorted.cnt ≤ _
  rw [cnt_sorted]
  unfold AD.sync
  split
  · exact Nat.le_refl _
  · refine cnt_done (k := 0) ?_
    show (a.fs.map _).length ≤ _
    rw [List.length_map]; exact Nat.le_refl _
theorem cnt_delete (a : AD) (n : ByteArray) : (step (a.delete n)).2.cnt ≤ a.cnt := by
  show (a.delete n).2.sorted.cnt ≤ _
  rw [cnt_sorted]
  unfold AD.delete
  split
  · exact Nat.le_refl _
  · refine cnt_done (k := 0) ?_
    exact List.length_filter_le _ _
theorem cnt_rename (a : AD) (n m : ByteArray) : (step (a.rename n m)).2.cnt ≤ a.cnt + 1 := by
  show (a.rename n m).2.sorted.cnt ≤ _
  rw [cnt_sorted]
  unfold AD.rename
  split
  · show a.cnt ≤ _; omega
  · split
    · show a.cnt ≤ _; omega
    · split
      · show a.cnt ≤ _; omega
      · refine cnt_done ?_
        unfold moveF
        split
        · show a.cnt ≤ _; omega
        · show (_ :: List.filter _ (List.filter _ a.fs)).length ≤ _
          rw [List.length_cons]
          have h1 := List.length_filter_le (fun g : File => decide (g.name ≠ n)) (List.filter (fun g : File => decide (g.name ≠ m)) a.fs)
          have h2 := List.length_filter_le (fun g : File => decide (g.name ≠ m)) a.fs
          unfold AD.cnt
          omega
theorem cnt_repl (a : AD) (b : List UInt8) : (a.repl b).2.cnt ≤ a.cnt + 2 := by
  have h1 := cnt_append a sNew b
  have h2 := cnt_sync (step (a.append sNew b)).2 sNew
  have h3 := cnt_rename (step ((step (a.append sNew b)).2.sync sNew)).2 sNew sLog
  unfold AD.repl
  split
  · omega
  · split <;> omega
theorem cnt_cut (a : AD) (j : AJ) : (a.cut j).2.1.cnt ≤ a.cnt + 2 := by
  have h := cnt_repl a ((a.get sLog).take j.size)
  unfold AD.cut
  split
  · show a.cnt ≤ _; omega
  · split
    · show a.cnt ≤ _; omega
    · split <;> exact h
theorem cnt_add (a : AD) (j : AJ) (R : Batch) : (a.add j R).2.1.cnt ≤ a.cnt + 3 := by
  have h1 := cnt_cut a (j.look a)
  have h2 := cnt_append (a.cut (j.look a)).2.1 sLog (batchB R)
  have h3 := cnt_sync (step ((a.cut (j.look a)).2.1.append sLog (batchB R))).2 sLog
  unfold AD.add
  split
  · show a.cnt ≤ _; omega
  · split
    · show a.cnt ≤ _; omega
    · split
      · show a.cnt ≤ _; omega
      · split
        · show (a.cut (j.look a)).2.1.cnt ≤ _; omega
        · unfold AD.lay
          split
          · show (step ((a.cut (j.look a)).2.1.append sLog (batchB R))).2.cnt ≤ _; omega
          · split
            · show (step ((step ((a.cut (j.look a)).2.1.append sLog (batchB R))).2.sync sLog)).2.cnt ≤ _; omega
            · show (step ((step ((a.cut (j.look a)).2.1.append sLog (batchB R))).2.sync sLog)).2.cnt ≤ _; omega
theorem cnt_shorten (a : AD) (j : AJ) (L : List Batch) : (a.shorten j L).2.1.cnt ≤ a.cnt + 3 := by
  have h := cnt_repl a (allB L)
  unfold AD.shorten
  split
  · show a.cnt ≤ _; omega
  · split
    · show a.cnt ≤ _; omega
    · split
      · show (a.repl (allB L)).2.cnt ≤ _; omega
      · show (a.repl (allB L)).2.cnt ≤ _; omega
theorem cnt_open (a : AD) : a.jopen.2.1.cnt ≤ a.cnt + 3 := by
  unfold AD.jopen
  split
  · show a.cnt ≤ _; omega
  · split
    · show a.cnt ≤ _; omega
    · show a.openB.2.1.cnt ≤ _
      have ht : a.tidy.2.cnt ≤ a.cnt := by
        unfold AD.tidy
        split
        · exact cnt_delete a sNew
        · exact Nat.le_refl _
      have hc := cnt_cut a.tidy.2 a.openJ
      have hs := cnt_sync (a.tidy.2.cut a.openJ).2.1 sLog
      unfold AD.openB
      split
      · show a.tidy.2.cnt ≤ _; omega
      · split
        · show (a.tidy.2.cut a.openJ).2.1.cnt ≤ _; omega
        · split
          · show (a.tidy.2.cut a.openJ).2.1.cnt ≤ _; omega
          · split
            · show (step ((a.tidy.2.cut a.openJ).2.1.sync sLog)).2.cnt ≤ _; omega
            · show (step ((a.tidy.2.cut a.openJ).2.1.sync sLog)).2.cnt ≤ _; omega
end Go.Proofs.YtipololccbdojaaGreatDoor
