/-
  The program's cut: the parts of a pattern or of a topic, or none.
-/
import Derived.Test.YtnibmhjdomndbaaDoorRtD
namespace Go.Proofs.YtnibmhjdomndbaaDoor
open Go Go.Sv Go.Rt
set_option linter.unusedVariables false
def fine (pattern : Bool) (s : ByteArray) : Bool := match pattern with | true => isPat s | false => isTop s
def cnt (pattern : Bool) (L : List ByteArray) : Nat := match pattern with | true => L.count Rt.hash | false => 0
theorem fine_eq (pattern : Bool) (s : ByteArray) : fine pattern s = ((parts s).all (okp pattern) && decide ((parts s).length ≤ 8) && decide (cnt pattern (parts s) ≤ 2)) := by
  cases pattern with
  | true => exact isPat_eq s
  | false =>
    show isTop s = _
    rw [isTop_eq, show decide (cnt false (parts s) ≤ 2) = true from rfl, Bool.and_true]
/-- the program's row of parts -/
def Cut (w w' : World) (s : ByteArray) : Prop := Nw w w' (some ⟨w.heap.size, 0, none⟩) (parts s).length (some w.heap.size) (parts s) ∧ w.heap.size < w'.heap.size
set_option maxHeartbeats 2000000 in
theorem cut_ok {s : ByteArray} {pattern : Bool} {w : World} {K : Value → World → Prop} (hs : s.size ≤ 2 ^ 40)
    (hk1 : fine pattern s = true → ∀ w', Cut w w' s → K (.slice (some ⟨w.heap.size, 0, none⟩) (parts s).length (parts s).length) w')
    (hk0 : fine pattern s = false → ∀ w', Ch (fun _ => False) w w' → K (.slice none 0 0) w') : callP Tryd.prog 21 [.string s, .bool pattern] w K := by
  refine ok_route_cut ?_
  unfold wp_route_cut
  rw [fine_eq] at hk1 hk0
  refine split_ok hs fun w1 o1 c1 z1 => ⟨_, _, _, rfl, ?_⟩
  have N : Nw w w1 (some ⟨w.heap.size, 0, none⟩) (parts s).length (some w.heap.size) (parts s) := ⟨o1, (fun k hk => by cases hk; exact Nat.le_refl _), c1⟩
  refine Sif_cases (fun h => ?_) fun h => ?_
  · have h := of_decide_eq_true h
    rw [decide_eq_false (show ¬ (parts s).length ≤ 8 by omega), Bool.and_false, Bool.false_and] at hk0
    exact hk0 rfl _ c1
  · have h8 := of_decide_eq_false h
    have h8' : (parts s).length ≤ 8 := by omega
    refine ⟨fun m n1 n2 w2 => ∃ i : Nat, n2 = (i : Int) ∧ n1 = (cnt pattern ((parts s).take i) : Int) ∧ cnt pattern ((parts s).take i) ≤ 2 ∧ m + i = (parts s).length ∧ (∀ y ∈ (parts s).take i, okp pattern y = true) ∧ w2 = w1, ⟨_, 0, rfl, by cases pattern <;> rfl, by cases pattern <;> simp [cnt], rfl, by simp, rfl⟩, ?_⟩
    rintro m n1 n2 w2 ⟨i, rfl, rfl, hc2, hm, hg, rfl⟩
    refine Sif_cases (fun h => ?_) fun h => ?_
    · have h := of_decide_eq_true h
      have hx : (parts s)[i]? = some (parts s)[i] := List.getElem?_eq_getElem (by omega)
      obtain ⟨b', o, hp, hc⟩ := sAt N.rd hx
      have ct := count_take hx
      have hsz := Nat.le_trans (part_size (List.mem_of_getElem? hx)) hs
      refine ⟨fun n3 w3 => w3 = w2 ∧ n3 = (cnt pattern ((parts s).take (i + 1)) : Int) ∧ cnt pattern ((parts s).take (i + 1)) ≤ 2 ∧ okp pattern (parts s)[i] = true, ?_, by omega, h, ?_⟩
      · rintro n3 w3 ⟨rfl, rfl, h4, h5⟩
        rw [wrap_id (n := (i : Int) + 1) (by omega) (by omega)]
        exact ⟨m - 1, by omega, i + 1, by omega, rfl, h4, by omega, take_all hg hx h5, rfl⟩
      · rw [hp, nn_some]
        have hc' : w2.cell? ((⟨b', o, none⟩ : Addr).add ((i : Int).toNat * 1)) = some (.string (parts s)[i]) := by simp only [add_at, Int.toNat_natCast, Nat.mul_one]; exact hc
        refine ⟨_, hc', ?_⟩
        refine word_made hsz ⟨_, rfl, ?_⟩
        generalize (parts s)[i] = x at *
        have bad : okp pattern x = false → K (.slice none 0 0) w2 := fun e => by
          rw [not_all_at hx e] at hk0; exact hk0 rfl _ c1
        refine Sif_cases (fun h5 => ?_) fun h5 => ?_
        · have hn : x ≠ Rt.hash := fun e => by rw [e, word_hash] at h5; cases h5
          have e : cnt pattern ((parts s).take (i + 1)) = cnt pattern ((parts s).take i) := by
            cases pattern
            · rfl
            · rw [if_neg hn] at ct; exact ct
          rw [e]
          exact ⟨rfl, rfl, hc2, by unfold okp; rw [h5]; rfl⟩
        · cases pattern with
          | false => exact Sif_false (Sif_false (bad (by unfold okp; rw [h5]; rfl)))
          | true =>
            refine Sif_true ?_
            rw [star_eq, hash_eq]
            refine Sif_cases (fun h6 => ?_) fun h6 => Sif_true (Sif_cases (fun h7 => Sif_cases (fun h9 => ?_) fun h9 => ?_) fun h7 => bad ?_)
            · have h6' : x = star := eq_of_beq h6
              rw [if_neg (show ¬ x = Rt.hash by rw [h6']; exact star_ne_hash)] at ct
              have e : cnt true ((parts s).take (i + 1)) = cnt true ((parts s).take i) := ct
              rw [e]
              exact ⟨rfl, rfl, hc2, by unfold okp; rw [h6]; simp⟩
            · have h7' : x = Rt.hash := eq_of_beq h7
              rw [if_pos h7'] at ct
              have e : cnt true ((parts s).take (i + 1)) = cnt true ((parts s).take i) + 1 := ct
              have h9 := of_decide_eq_true h9
              rw [nameI_iff, wrap_id (by omega) (by omega), e]
              exact ⟨rfl, by omega, by omega, by unfold okp; rw [h7]; simp⟩
            · have h7' : x = Rt.hash := eq_of_beq h7
              rw [if_pos h7'] at ct
              have e : cnt true ((parts s).take (i + 1)) = cnt true ((parts s).take i) + 1 := ct
              have h9 := of_decide_eq_false h9
              have h10 : cnt true ((parts s).take (i + 1)) ≤ cnt true (parts s) := count_le _
              rw [decide_eq_false (show ¬ cnt true (parts s) ≤ 2 by omega), Bool.and_false] at hk0
              exact hk0 rfl _ c1
            · unfold okp; rw [h5, h6, h7]; rfl
    · have h := of_decide_eq_false h
      have hi : i = (parts s).length := by omega
      subst hi
      rw [List.take_length] at hc2
      rw [all_of_take hg, decide_eq_true h8', decide_eq_true hc2] at hk1
      exact hk1 rfl _ ⟨N, by omega⟩
/-- what an address says -/
def addr (s : ByteArray) : Int × ByteArray × Int :=
  if s = ⟨#[116, 120, 110, 115]⟩ then (3, ⟨#[]⟩, 0)
  else if (Lib.hasPrefix s.data.toList [113, 117, 101, 117, 101, 47] && named (s.extract 6 s.size)) = true then (1, s.extract 6 s.size, 0)
  else if (Lib.hasPrefix s.data.toList [116, 111, 112, 105, 99, 47] && isPat (s.extract 6 s.size)) = true then (2, s.extract 6 s.size, 0)
  else (0, ⟨#[]⟩, 82)
end Go.Proofs.YtnibmhjdomndbaaDoor
