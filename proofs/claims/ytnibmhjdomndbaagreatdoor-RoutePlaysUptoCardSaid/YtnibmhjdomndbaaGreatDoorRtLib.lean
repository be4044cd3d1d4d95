/-
  What the library's functions come to here: strings.IndexByte, Count, Index at one byte, CutPrefix, and strings.Split at a point (walked).
-/
import Derived.Test.YtnibmhjdomndbaaGreatDoorLibWp
import Derived.Test.YtnibmhjdomndbaaGreatDoorShelf
import Derived.Test.YtnibmhjdomndbaaGreatDoorBase
import Derived.Test.YtnibmhjdomndbaaGreatDoorRtSplit
import Derived.Deep.AppendSrc
namespace Go.Proofs.YtnibmhjdomndbaaGreatDoor
open Go Go.Sv Go.Rt
set_option linter.unusedVariables false
theorem indexByte_ok {s : ByteArray} {c : Int} {w : World} {K : Value → World → Prop} (hk : K (.int .i64 (Lib.indexByte s.data.toList c.toNat.toUInt8)) w) : callP Tryz.prog 68 [.string s, .int .u8 c] w K :=
  Calls.mono (Tryz.strings_IndexByte s c w) fun e w' ⟨he, hw⟩ => ⟨_, he, hw ▸ hk⟩
theorem index1_ok {s : ByteArray} {c : UInt8} {w : World} {K : Value → World → Prop} (hk : K (.int .i64 (Lib.indexByte s.data.toList c)) w) : callP Tryz.prog 86 [.string s, .string ⟨#[c]⟩] w K :=
  Calls.mono (Tryz.strings_Index_one s c w) fun e w' ⟨he, hw⟩ => ⟨_, he, hw ▸ hk⟩
theorem count1_ok {s : ByteArray} {c : UInt8} {w : World} {K : Value → World → Prop} (hk : K (.int .i64 (Lib.countByte s.data.toList c)) w) : callP Tryz.prog 85 [.string s, .string ⟨#[c]⟩] w K :=
  Calls.mono (Tryz.strings_Count_one s c w) fun e w' ⟨he, hw⟩ => ⟨_, he, hw ▸ hk⟩
theorem cutPrefix_ok {s p : ByteArray} {w : World} {K : Value → World → Prop} (hk : K (.tuple #[.string ⟨(Lib.trimPrefix s.data.toList p.data.toList).toArray⟩, .bool (Lib.hasPrefix s.data.toList p.data.toList)]) w) : callP Tryz.prog 34 [.string s, .string p] w K :=
  Calls.mono (Tryz.strings_CutPrefix s p w) fun e w' ⟨he, hw⟩ => ⟨_, he, hw ▸ hk⟩
theorem make_strings {w : World} (n : Nat) (hn : n ≤ 2 ^ 41) : ∃ w', (Instr.makeSlice 49 (.int .i64 (n : Int)) (.int .i64 (n : Int))).run Tryz.prog w = .ok (.slice (some ⟨w.heap.size, 0, none⟩) n n) w' ∧
    blk w' w.heap.size = some ((List.replicate n none0).flatMap sCell) ∧ Ch (fun _ => False) w w' ∧ w'.heap.size = w.heap.size + 1 := by
  obtain ⟨i, hi, h1, h2, h3⟩ := strings_info
  have hr := run_make (P := Tryz.prog) w 49 9 i _ Tryz.underlying49 hi h3 .i64 .i64 (n : Int) (n : Int) (by omega) (by omega) (by rw [h2]; omega) (by omega)
  rw [Int.toNat_natCast, h1, Nat.mul_one] at hr
  have hm : madeCells (Value.string ⟨#[]⟩).cells n = ((List.replicate n none0).flatMap sCell).toArray := by
    apply Array.ext'
    apply List.ext_getElem
    · simp [madeCells, flat_len sCell_len]
    · intro j g1 g2
      have hj : j < n := by simpa [flat_len sCell_len] using g2
      have h4 := flat_get sCell_len (List.replicate n none0) j 0 (by omega)
      rw [Nat.mul_one, Nat.add_zero, List.getElem?_eq_getElem g2, List.getElem?_replicate, if_pos hj] at h4
      simp only [Option.bind_some, sCell, List.getElem?_cons_zero] at h4
      rw [Option.some.inj h4]
      simp [madeCells, Value.cells, Nat.mod_one, none0]
  rw [hm] at hr
  exact ⟨_, hr, alloc_blk w _ _, alloc_ch w _, by simp⟩
theorem flat1 (L : List ByteArray) (i : Nat) (x : ByteArray) (hi : i < L.length) : (L.flatMap sCell).set i (.string x) = (L.set i x).flatMap sCell := by
  have := flat_set (g := sCell) (sz := 1) sCell_len (x' := x) L i 0 (.string x) (x := L[i]) (List.getElem?_eq_getElem hi) (by omega) rfl
  simpa using this
theorem extract_list (s : ByteArray) (a b : Nat) : (s.extract a b).data.toList = (s.data.toList.take b).drop a := by
  rw [ByteArray.data_extract, Array.toList_extract, List.extract_eq_take_drop]
  rw [List.drop_take]
theorem ba_of (s : ByteArray) (l : List UInt8) (h : s.data.toList = l) : s = ⟨l.toArray⟩ := by subst h; simp
/-- the rows of a split: what is done, and the rest's parts -/
def pcs (l : List UInt8) : List ByteArray := (splitDot l).map fun l => ⟨l.toArray⟩
theorem set_at (D E : List ByteArray) (e x : ByteArray) : (D ++ e :: E).set D.length x = D ++ x :: E := by
  rw [List.set_append_right _ _ (Nat.le_refl _)]; simp
set_option maxHeartbeats 2000000 in
theorem split_ok {s : ByteArray} {w : World} {K : Value → World → Prop} (hs : s.size ≤ 2 ^ 40)
    (hk : ∀ w', Ow w' (some ⟨w.heap.size, 0, none⟩) (parts s).length (parts s).length 1 ((parts s).flatMap sCell) (some w.heap.size) → Ch (fun _ => False) w w' → w'.heap.size = w.heap.size + 1 →
      K (.slice (some ⟨w.heap.size, 0, none⟩) (parts s).length (parts s).length) w') : callP Tryz.prog 47 [.string s, .string ⟨#[46]⟩] w K := by
  refine ok_strings_Split ?_
  unfold wp_strings_Split
  refine ok_strings_genSplit ?_
  unfold wp_strings_genSplit
  have hsl : s.data.toList.length = s.size := by simp
  have hcnt : s.data.toList.count 46 ≤ s.size := by rw [← hsl]; exact List.count_le_length
  have hlen : (parts s).length = s.data.toList.count 46 + 1 := by rw [parts, List.length_map, splitDot_len]
  refine Sif_false (Sif_cases (fun h => absurd (eqS h) (by decide)) fun _ => ?_)
  refine ⟨fun n w1 => n = ((parts s).length : Int) ∧ w1 = w, ?_, Sif_true (count1_ok ⟨_, rfl, ?_⟩)⟩
  · rintro n w1 ⟨rfl, rfl⟩
    rw [nameI_iff, wrap_id (n := (s.size : Int) + 1) (by omega) (by omega), Int.min_eq_left (by omega)]
    obtain ⟨w2, r1, r2, r3, r4⟩ := make_strings (w := w1) (parts s).length (by omega)
    refine ⟨_, _, _, w2, r1, ?_⟩
    rw [nameI_iff, wrap_id (n := ((parts s).length : Int) - 1) (by omega) (by omega)]
    have o2 : Ow w2 (some ⟨w1.heap.size, 0, none⟩) (parts s).length (parts s).length 1 ((List.replicate (parts s).length none0).flatMap sCell) (some w1.heap.size) :=
      ⟨by rw [flat_len sCell_len, List.length_replicate], Nat.le_refl _, .inr ⟨_, 0, _, rfl, rfl, r2, by rw [flat_len sCell_len, List.length_replicate]; omega, by rw [List.drop_zero, List.take_of_length_le (by rw [flat_len sCell_len, List.length_replicate]; omega)]⟩⟩
    refine ⟨fun x n5 w3 => ∃ D, n5 = (D.length : Int) ∧ D ++ [x] = parts s ∧ Ow w3 (some ⟨w1.heap.size, 0, none⟩) (parts s).length (parts s).length 1 ((D ++ [none0]).flatMap sCell) (some w1.heap.size) ∧ Ch (fun _ => False) w1 w3 ∧ w3.heap.size = w1.heap.size + 1, ?_, ?_⟩
    · rintro x n5 w3 ⟨D, rfl, hD, o3, c3, z3⟩
      have hl : (parts s).length = D.length + 1 := by rw [← hD]; simp
      refine ⟨by omega, by omega, ?_⟩
      rw [nn_some]
      obtain ⟨k, o, hp, hb, h3⟩ := o3.st (i := D.length) (by omega)
      cases hp; cases hb
      simp only [add_at, Int.toNat_natCast, Nat.mul_one, Nat.zero_add, Nat.add_zero] at h3 ⊢
      refine h3 _ _ fun w4 o4 c4 z4 => ?_
      rw [wrap_id (n := (D.length : Int) + 1) (by omega) (by omega)]
      refine ⟨by omega, by omega, ?_⟩
      have e1 : ((D.length : Int) + 1).toNat = (parts s).length := by omega
      rw [e1]
      refine ⟨_, _, _, rfl, hk w4 ?_ (c3.trans c4 fun b hb e => absurd e (Nat.ne_of_lt hb)) (by omega)⟩
      · rw [flat1 _ _ _ (by simp), set_at] at o4
        rw [← hD]
        rw [← hD] at o4
        exact o4
    · refine ⟨fun m x n5 w3 => ∃ D, m + D.length = (parts s).length ∧ n5 = (D.length : Int) ∧ D ++ pcs x.data.toList = parts s ∧ x.size ≤ s.size ∧ Ow w3 (some ⟨w1.heap.size, 0, none⟩) (parts s).length (parts s).length 1 ((D ++ List.replicate ((parts s).length - D.length) none0).flatMap sCell) (some w1.heap.size) ∧ Ch (fun _ => False) w1 w3 ∧ w3.heap.size = w1.heap.size + 1,
        ⟨_, [], by simp; rfl, rfl, rfl, Nat.le_refl _, o2, r3, r4⟩, ?_⟩
      rintro m x n5 w3 ⟨D, hm, rfl, hD, hx, o3, c3, z3⟩
      have hl : (parts s).length = D.length + (splitDot x.data.toList).length := by rw [← hD]; simp [pcs]
      have hl2 := splitDot_len x.data.toList
      have one : Lib.indexByte x.data.toList 46 = -1 ∨ ¬ ((D.length : Int) < ((parts s).length : Int) - 1) → ∃ D', (D.length : Int) = (D'.length : Int) ∧ D' ++ [x] = parts s ∧ Ow w3 (some ⟨w1.heap.size, 0, none⟩) (parts s).length (parts s).length 1 ((D' ++ [none0]).flatMap sCell) (some w1.heap.size) ∧ Ch (fun _ => False) w1 w3 ∧ w3.heap.size = w1.heap.size + 1 := by
        intro h
        have h1 : splitDot x.data.toList = [x.data.toList] := by
          rcases h with h | h
          · exact splitDot_index_none h
          · exact splitDot_none _ (List.count_eq_zero.1 (by omega))
        have h2 : (parts s).length - D.length = 1 := by rw [hl, h1]; simp
        rw [pcs, h1] at hD
        rw [h2] at o3
        exact ⟨D, rfl, hD, o3, c3, z3⟩
      refine Sif_cases (fun h => ?_) fun h => one (.inr (by simpa using h))
      have h := of_decide_eq_true h
      refine index1_ok ⟨_, rfl, Sif_cases (fun h2 => ?_) fun h2 => ?_⟩
      · have := Lib.indexByte_ge x.data.toList 46
        exact one (.inl (by have := of_decide_eq_true h2; omega))
      · have h2 := of_decide_eq_false h2
        obtain ⟨j, hj⟩ : ∃ j : Nat, Lib.indexByte x.data.toList 46 = (j : Int) := ⟨(Lib.indexByte x.data.toList 46).toNat, by omega⟩
        obtain ⟨q1, q2⟩ := splitDot_index hj
        have hxs : x.data.toList.length = x.size := by simp
        rw [hj, wrap_id (n := (j : Int) + 0) (by omega) (by omega)]
        refine ⟨by omega, by omega, by omega, by omega, ?_⟩
        rw [nn_some]
        obtain ⟨k, o, hp, hb, h3⟩ := o3.st (i := D.length) (by omega)
        cases hp; cases hb
        simp only [add_at, Int.toNat_natCast, Nat.mul_one, Nat.zero_add, Nat.add_zero, Int.add_zero] at h3 ⊢
        refine h3 _ _ fun w4 o4 c4 z4 => ?_
        have e46 : ((ByteArray.size ⟨#[46]⟩ : Nat) : Int) = 1 := rfl
        rw [e46, wrap_id (n := (j : Int) + 1) (by omega) (by omega), nameI_iff, wrap_id (n := (D.length : Int) + 1) (by omega) (by omega)]
        refine ⟨by omega, by omega, m - 1, by omega, D ++ [x.extract 0 j], by simp; omega, by simp, ?_, ?_, ?_, ?_, by omega⟩
        · have k1 : x.extract 0 j = ⟨(x.data.toList.take j).toArray⟩ := ba_of _ _ (by rw [extract_list, List.drop_zero])
          have k3 : ((j : Int) + 1).toNat = j + 1 := by omega
          have k2 : (x.extract ((j : Int) + 1).toNat x.size).data.toList = x.data.toList.drop (j + 1) := by
            rw [k3, extract_list, List.take_of_length_le (by omega)]
          have k4 : pcs x.data.toList = x.extract 0 j :: pcs (x.data.toList.drop (j + 1)) := by
            rw [pcs, q1, List.map_cons, ← k1]; rfl
          rw [k2, List.append_assoc, List.singleton_append, ← k4]
          exact hD
        · rw [ByteArray.size_extract]; omega
        · obtain ⟨r, hr⟩ : ∃ r, (parts s).length - D.length = r + 1 := ⟨(parts s).length - D.length - 1, by omega⟩
          rw [hr, List.replicate_succ, flat1 _ _ _ (by simp), set_at] at o4
          have : (parts s).length - (D ++ [x.extract 0 j]).length = r := by simp; omega
          rw [this, List.append_assoc]
          exact o4
        · exact c3.trans c4 fun b hb e => absurd e (Nat.ne_of_lt hb)
  · rw [nameI_iff]
    refine ⟨?_, rfl⟩
    unfold Lib.countByte
    rw [wrap_id (by omega) (by omega), hlen]; omega
end Go.Proofs.YtnibmhjdomndbaaGreatDoor
