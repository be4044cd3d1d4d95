/-
  Plain law: what an act may leave where the power fails in it.
-/
import Derived.Test.YtncbmfinndcojaaDiskM
namespace Go.Proofs.Ytncbmfinndcojaa
open Go Go.Sv Go.MapKept
set_option linter.unusedVariables false
set_option maxRecDepth 4000

theorem DK.names {w : World} {d : Nat} {a : AD} {B : Nat → Prop} (D : DK w d a B) : (a.fs.map (·.name)).Nodup := by
  obtain ⟨wf, r, L, H, hL, rfl⟩ := D
  rw [← hL, List.map_map]; exact H.names
def leN (x y : File) : Bool := decide (x.name.data.toList ≤ y.name.data.toList)
def AD.sorted (a : AD) : AD := { a with fs := a.fs.mergeSort leN }
theorem AD.sorted_perm (a : AD) : a.fs.Perm a.sorted.fs := (List.mergeSort_perm ..).symm
theorem AD.sorted_pw (a : AD) : (a.sorted.fs.map fun f => f.name.data.toList).Pairwise (· ≤ ·) := by
  rw [List.pairwise_map]
  exact (List.pairwise_mergeSort (le := leN) (fun a b c h1 h2 => by simp [leN] at h1 h2 ⊢; exact List.le_trans h1 h2) (fun a b => by simp [leN]; exact List.le_total _ _) a.fs).imp fun h => by simpa [leN] using h
theorem DK.sort {w : World} {d : Nat} {a : AD} {B : Nat → Prop} (D : DK w d a B) : DK w d a.sorted B := D.perm a.sorted_perm
theorem sorted_len (a : AD) : a.sorted.fs.length = a.fs.length := List.length_mergeSort ..

theorem done_up {a : AD} {g : AD → AD} (hup : a.down = false) (hg : (g a.act).down = false ∧ (g a.act).fs.length ≤ a.fs.length + 1) (h : (a.done g).1 ≠ 3) : (a.done g).2.down = false ∧ (a.done g).2.fs.length ≤ a.fs.length + 1 := by
  unfold AD.done at h ⊢
  split at h
  · exact absurd rfl h
  · rename_i h1; rw [if_neg h1]; exact hg
theorem err_up {a : AD} (hup : a.down = false) (ns : List ByteArray) (n : ByteArray) : a.err ns n ≠ 3 := by
  unfold AD.err; rw [hup]; simp; split
  · omega
  · split <;> omega
theorem do_up {a : AD} {o : OpV} (hup : a.down = false) (h : (a.do o).1 ≠ 3) : (a.do o).2.down = false ∧ (a.do o).2.fs.length ≤ a.fs.length + 1 := by
  unfold AD.do at h ⊢
  split at h
  · rename_i h1; rw [if_pos h1]
    unfold AD.sync at h ⊢
    split at h
    · rename_i h2; rw [if_pos h2]; exact ⟨hup, by simp⟩
    · rename_i h2; rw [if_neg h2]; exact done_up hup ⟨hup, by simp [AD.upd, AD.act]⟩ h
  · rename_i h1; rw [if_neg h1]
    split at h
    · rename_i h2; rw [if_pos h2]
      unfold AD.rename at h ⊢
      split at h
      · rename_i h3; rw [if_pos h3]; exact ⟨hup, by simp⟩
      · rename_i h3; rw [if_neg h3]
        split at h
        · exact ⟨hup, by simp⟩
        · split at h
          · rename_i h4; rw [if_pos h4]; exact ⟨hup, by simp⟩
          · rename_i h4; rw [if_neg h4]
            refine done_up hup ⟨?_, ?_⟩ h
            · unfold moveF; split <;> exact hup
            · unfold moveF; split
              · simp [AD.act]
              · simp only [List.length_cons]
                have h5 := List.length_filter_le (fun g : File => decide (g.name ≠ o.name)) (a.act.fs.filter fun g => decide (g.name ≠ o.to))
                have h6 := List.length_filter_le (fun g : File => decide (g.name ≠ o.to)) a.act.fs
                simp only [AD.act] at h5 h6 ⊢
                omega
    · rename_i h2; rw [if_neg h2]
      split at h
      · rename_i h3; rw [if_pos h3]
        unfold AD.delete at h ⊢
        split at h
        · rename_i h4; rw [if_pos h4]; exact ⟨hup, by simp⟩
        · rename_i h4; rw [if_neg h4]
          refine done_up hup ⟨hup, ?_⟩ h
          have h5 := List.length_filter_le (fun f : File => decide (f.name ≠ o.name)) a.act.fs
          simp only [AD.gone, AD.act] at h5 ⊢
          omega
      · rename_i h3; rw [if_neg h3]
        unfold AD.append at h ⊢
        split at h
        · rename_i h4; rw [if_pos h4]; exact ⟨hup, by simp⟩
        · rename_i h4; rw [if_neg h4]
          split at h
          · rename_i h5; rw [if_pos h5]; exact ⟨hup, by simp⟩
          · rename_i h5; rw [if_neg h5]
            split at h
            · exact absurd rfl h
            · rename_i h6; rw [if_neg h6]
              have := a.more_rest o.name
              refine ⟨by show (a.more o.name).down = false; rw [this.2.1, hup], ?_⟩
              simp only [AD.upd, AD.act, List.length_map]
              unfold AD.more; split <;> simp
/-- what may stand behind a fall -/
def Fell (o : OpV) (f f' : File) : Prop :=
  f'.name = f.name ∧ f.dat.take f.safe <+: f'.dat ∧ f'.dat <+: (if o.kind ≠ 2 ∧ o.kind ≠ 3 ∧ o.kind ≠ 4 ∧ o.name = f.name then f.dat ++ o.dat else f.dat) ∧ f'.safe = f'.dat.length
theorem cut_fell {o : OpV} {f : File} {keep : Int} (hs : f.safe ≤ f.dat.length) : Fell o f (cutF keep f) := by
  refine ⟨rfl, ?_, ?_, ?_⟩
  · have : f.safe ≤ nCut f keep := by unfold nCut; omega
    exact List.take_prefix_take_left this
  · split
    · exact (List.take_prefix _ _).trans (List.prefix_append _ _)
    · exact List.take_prefix _ _
  · have := nCut_le f keep
    simp [cutF]; omega
theorem fall_fell {a : AD} {o : OpV} {keep : Int} (wf : WF a) : ∀ f ∈ a.fs, ∃ f' ∈ (a.fall keep).fs, Fell o f f' := fun f hf => ⟨cutF keep f, List.mem_map.2 ⟨f, hf, rfl⟩, cut_fell (wf.safe f hf)⟩
theorem done_down {a : AD} {o : OpV} {g : AD → AD} (wf : WF a) (h : (a.done g).1 = 3) : (a.done g).2.down = true ∧ (a.done g).2.fs.length ≤ a.fs.length + 1 ∧ ∀ f ∈ a.fs, ∃ f' ∈ (a.done g).2.fs, Fell o f f' := by
  unfold AD.done at h ⊢
  split at h
  · rename_i h1; rw [if_pos h1]; exact ⟨rfl, by simp [AD.fall], fall_fell wf⟩
  · exact absurd h (by simp)
theorem do_down {a : AD} {o : OpV} (hup : a.down = false) (wf : WF a) (h : (a.do o).1 = 3) : (a.do o).2.down = true ∧ (a.do o).2.fs.length ≤ a.fs.length + 1 ∧ ∀ f ∈ a.fs, ∃ f' ∈ (a.do o).2.fs, Fell o f f' := by
  unfold AD.do at h ⊢
  split at h
  · rename_i h1; rw [if_pos h1]
    unfold AD.sync at h ⊢
    split at h
    · exact absurd h (err_up hup _ _)
    · rename_i h2; rw [if_neg h2]; exact done_down wf h
  · rename_i h1; rw [if_neg h1]
    split at h
    · rename_i h2; rw [if_pos h2]
      unfold AD.rename at h ⊢
      split at h
      · exact absurd h (err_up hup _ _)
      · rename_i h3; rw [if_neg h3]
        split at h
        · exact absurd h (by simp)
        · split at h
          · exact absurd h (by simp)
          · rename_i h4; rw [if_neg h4]; exact done_down wf h
    · rename_i h2; rw [if_neg h2]
      split at h
      · rename_i h3; rw [if_pos h3]
        unfold AD.delete at h ⊢
        split at h
        · exact absurd h (err_up hup _ _)
        · rename_i h4; rw [if_neg h4]; exact done_down wf h
      · rename_i h3; rw [if_neg h3]
        unfold AD.append at h ⊢
        split at h
        · exact absurd h (err_up hup _ _)
        · rename_i h4; rw [if_neg h4]
          split at h
          · exact absurd h (by simp)
          · rename_i h5; rw [if_neg h5]
            split at h
            · rename_i h6; rw [if_pos h6]
              refine ⟨rfl, ?_, fun f hf => ?_⟩
              · simp only [AD.fall, AD.upd, AD.act, List.length_map]
                unfold AD.more; split <;> simp
              · have hm : f ∈ (a.more o.name).fs := by unfold AD.more; split <;> simp [hf]
                have hs := wf.safe f hf
                by_cases hn : f.name = o.name
                · refine ⟨cutF a.keep (growF o.dat f), ?_, rfl, ?_, ?_, ?_⟩
                  · refine List.mem_map.2 ⟨growF o.dat f, List.mem_map.2 ⟨f, hm, by rw [if_pos hn]⟩, rfl⟩
                  · have h7 : f.safe ≤ nCut (growF o.dat f) a.keep := by unfold nCut growF; simp only [List.length_append]; omega
                    have h8 : f.dat.take f.safe = (f.dat ++ o.dat).take f.safe := by rw [List.take_append_of_le_length hs]
                    rw [h8]
                    exact List.take_prefix_take_left h7
                  · rw [if_pos ⟨h1, h2, h3, hn.symm⟩]; exact List.take_prefix _ _
                  · have := nCut_le (growF o.dat f) a.keep
                    simp [cutF]; omega
                · exact ⟨cutF a.keep f, List.mem_map.2 ⟨f, List.mem_map.2 ⟨f, hm, by rw [if_neg hn]⟩, rfl⟩, cut_fell hs⟩
            · exact absurd h (by simp)
/-- the files of any disk, sorted -/
theorem filesS_ok {w : World} {d : Nat} {a : AD} {B : Nat → Prop} {K : Value → World → Prop} (D : DK w d a B) (hcnt : a.fs.length ≤ 2 ^ 41)
    (hk : ∀ p c ob O w' B', DK w' d a.sorted B' → Ch B w w' → (∀ b, B' b → B b) → FilesR w' p c ob O → O.map (·.f) = a.sorted.fs → (∀ b ∈ FilesR.bl ob O, w.heap.size ≤ b) → K (.slice p O.length c) w') :
    callP Try.prog 9 [.pointer (some ⟨d, 0, none⟩)] w K :=
  files_ok D.sort a.sorted_pw (by rw [sorted_len]; exact hcnt) hk
end Go.Proofs.Ytncbmfinndcojaa
