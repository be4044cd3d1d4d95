/-
  A batch's bytes: plain: they are read as the batch; a beginning of them as none yet; a byte that has changed is told.
-/
import Derived.Test.YtipololccbdojaaGreatDoorJplain
namespace Go.Proofs.YtipololccbdojaaGreatDoor
open Go Go.Sv
set_option linter.unusedVariables false

abbrev Rec := List UInt8
abbrev Batch := List Rec
def recB (r : Rec) : Bool := decide (1 ≤ r.length) && decide (r.length ≤ 1049600)
def recsB (R : Batch) : Bool := R.all recB
def body (R : Batch) : List UInt8 := R.flatMap fun r => be 4 r.length ++ r
def headB (R : Batch) : List UInt8 := be 4 (body R).length ++ be 4 (crc (be 4 (body R).length)).toNat
def foreB (R : Batch) : List UInt8 := headB R ++ body R
/-- a batch's bytes; none of no records -/
def batchB (R : Batch) : List UInt8 := if R = [] then [] else foreB R ++ be 4 (crc (foreB R)).toNat
def allB (L : List Batch) : List UInt8 := L.flatMap batchB
theorem body_cons (r : Rec) (R : Batch) : body (r :: R) = be 4 r.length ++ r ++ body R := by simp [body]
theorem allB_cons (R : Batch) (L : List Batch) : allB (R :: L) = batchB R ++ allB L := by simp [allB]
theorem allB_append (L M : List Batch) : allB (L ++ M) = allB L ++ allB M := by simp [allB]
theorem batchB_length {R : Batch} (h : R ≠ []) : (batchB R).length = (body R).length + 12 := by
  unfold batchB
  rw [if_neg h]
  simp [foreB, headB]
  omega
theorem body_pos {R : Batch} (h : R ≠ []) (hr : recsB R = true) : 5 ≤ (body R).length := by
  cases R with
  | nil => exact absurd rfl h
  | cons r R =>
    have : recB r = true := List.all_eq_true.1 hr r (by simp)
    unfold recB at this
    simp at this
    rw [body_cons]; simp; omega
theorem num_be4 {n : Nat} (h : n < 4294967296) : num (be 4 n) = n := by rw [num_be]; exact Nat.mod_eq_of_lt h
theorem crc_lt (l : List UInt8) : (crc l).toNat < 4294967296 := (crc l).isLt
theorem recs_body : ∀ (R : Batch), recsB R = true → recs (body R) = some R
  | [], _ => rfl
  | r :: R, h => by
    unfold recsB at h
    rw [List.all_cons, Bool.and_eq_true] at h
    have hr := h.1
    unfold recB at hr
    simp at hr
    have hne : body (r :: R) ≠ [] := fun e => by have := congrArg List.length e; rw [body_cons] at this; simp at this
    have ht : (body (r :: R)).take 4 = be 4 r.length := by
      rw [body_cons, List.append_assoc, List.take_append_of_le_length (by simp), List.take_of_length_le (by simp)]
    have hd : (body (r :: R)).drop 4 = r ++ body R := by
      rw [body_cons, List.append_assoc, List.drop_append_of_le_length (by simp), List.drop_of_length_le (by simp), List.nil_append]
    have hn : num ((body (r :: R)).take 4) = r.length := by rw [ht, num_be4 (by omega)]
    have hl : (body (r :: R)).length = 4 + r.length + (body R).length := by rw [body_cons]; simp [Nat.add_assoc]
    rw [recs_step hne ⟨by omega, by omega, by omega, by omega⟩, hn, ← List.drop_drop, hd]
    simp [recs_body R h.2]
/-- what stands at the head of bytes that begin with a batch's -/
theorem fore_head {R : Batch} (rest : List UInt8) : (foreB R ++ rest).take 4 = be 4 (body R).length ∧ ((foreB R ++ rest).drop 4).take 4 = be 4 (crc (be 4 (body R).length)).toNat ∧ ((foreB R ++ rest).drop 8).take (body R).length = body R ∧
    (foreB R ++ rest).take ((body R).length + 8) = foreB R ∧ (foreB R ++ rest).drop ((body R).length + 8) = rest := by
  unfold foreB headB
  refine ⟨?_, ?_, ?_, ?_, ?_⟩
  · simp only [List.append_assoc]
    rw [List.take_append_of_le_length (by simp), List.take_of_length_le (by simp)]
  · simp only [List.append_assoc]
    rw [List.drop_append_of_le_length (by simp), List.drop_of_length_le (by simp), List.nil_append, List.take_append_of_le_length (by simp), List.take_of_length_le (by simp)]
  · rw [List.append_assoc (be 4 (body R).length ++ be 4 (crc (be 4 (body R).length)).toNat) (body R) rest, List.drop_append_of_le_length (by simp), List.drop_of_length_le (by simp), List.nil_append, List.take_append_of_le_length (by simp), List.take_of_length_le (by simp)]
  · rw [List.take_append_of_le_length (by simp; omega), List.take_of_length_le (by simp; omega)]
  · rw [List.drop_append_of_le_length (by simp; omega), List.drop_of_length_le (by simp; omega), List.nil_append]
theorem fore_ok {R : Batch} (h : R ≠ []) (hr : recsB R = true) (hl : (body R).length < 4294967296) (rest : List UInt8) : headOk (foreB R ++ rest) ∧ headN (foreB R ++ rest) = (body R).length := by
  obtain ⟨h1, h2, h3, h4, h5⟩ := fore_head (R := R) rest
  have hp := body_pos h hr
  have hN : headN (foreB R ++ rest) = (body R).length := by unfold headN; rw [h1, num_be4 hl]
  refine ⟨⟨by simp [foreB, headB]; omega, ?_, by omega⟩, hN⟩
  rw [h1, h2, num_be4 (crc_lt _)]
theorem whole_batch {R : Batch} (h : R ≠ []) (hr : recsB R = true) (hl : (body R).length < 4294967296) (rest : List UInt8) : whole (batchB R ++ rest) = some R ∧ headN (batchB R ++ rest) + 12 = (batchB R).length := by
  have e : batchB R ++ rest = foreB R ++ (be 4 (crc (foreB R)).toNat ++ rest) := by unfold batchB; rw [if_neg h, List.append_assoc]
  obtain ⟨h1, h2, h3, h4, h5⟩ := fore_head (R := R) (be 4 (crc (foreB R)).toNat ++ rest)
  obtain ⟨g1, g2⟩ := fore_ok h hr hl (be 4 (crc (foreB R)).toNat ++ rest)
  refine ⟨?_, by rw [e, g2, batchB_length h]⟩
  unfold whole
  rw [e, if_pos, g2, h3, recs_body R hr]
  refine ⟨g1, ?_, ?_⟩
  · rw [g2]; simp [foreB, headB]; omega
  · unfold footOk
    rw [g2, h4, h5, List.take_append_of_le_length (by simp), List.take_of_length_le (by simp), num_be4 (crc_lt _)]
def goodB (R : Batch) : Prop := R ≠ [] ∧ recsB R = true ∧ (body R).length < 4294967296
theorem scanL_all : ∀ (L : List Batch) (rest : List UInt8), (∀ R ∈ L, goodB R) → scanL (allB L ++ rest) = (L ++ (scanL rest).1, (allB L).length + (scanL rest).2)
  | [], rest, _ => by simp [allB]
  | R :: L, rest, h => by
    obtain ⟨h1, h2, h3⟩ := h R (by simp)
    obtain ⟨g1, g2⟩ := whole_batch h1 h2 h3 (allB L ++ rest)
    rw [allB_cons, List.append_assoc, scanL_some g1, g2, List.drop_left, scanL_all L rest fun R hR => h R (by simp [hR])]
    simp; omega
/-- a beginning of a batch is none yet, and isn't broken -/
theorem part_ok {R : Batch} (hg : goodB R) {k : Nat} (hk : k < (batchB R).length) : whole ((batchB R).take k) = none ∧ ¬ broken ((batchB R).take k) := by
  obtain ⟨h1, h2, h3⟩ := hg
  have hlen := batchB_length h1
  have hb := body_pos h1 h2
  have main : 8 ≤ k → headOk ((batchB R).take k) ∧ headN ((batchB R).take k) = (body R).length := fun h8 => by
    obtain ⟨g1, g2⟩ := fore_ok h1 h2 h3 (be 4 (crc (foreB R)).toNat)
    have e : foreB R ++ be 4 (crc (foreB R)).toNat = batchB R := by unfold batchB; rw [if_neg h1]
    rw [e] at g1 g2
    have t4 : ((batchB R).take k).take 4 = (batchB R).take 4 := by rw [List.take_take]; congr 1; omega
    have d4 : (((batchB R).take k).drop 4).take 4 = ((batchB R).drop 4).take 4 := by rw [List.drop_take, List.take_take]; congr 1; omega
    unfold headOk headN at *
    rw [t4, d4]
    exact ⟨⟨by simp; omega, g1.2⟩, g2⟩
  constructor
  · unfold whole
    rw [if_neg]
    rintro ⟨g1, g2, _⟩
    have h8 : 8 ≤ k := by have := g1.1; simp at this; omega
    rw [(main h8).2] at g2
    simp at g2; omega
  · rintro ⟨g1, g2⟩
    have h8 : 8 ≤ k := by simp at g1; omega
    obtain ⟨m1, m2⟩ := main h8
    rcases g2 with g2 | g2
    · exact g2 m1
    · rw [m2] at g2; simp at g2; omega
/-- whole batches, and behind them a beginning of one -/
theorem scan_part {L : List Batch} (hL : ∀ R ∈ L, goodB R) {t : List UInt8} (ht : t = [] ∨ ∃ R k, goodB R ∧ k < (batchB R).length ∧ t = (batchB R).take k) :
    scanL (allB L ++ t) = (L, (allB L).length) ∧ ∀ safe : Int, 0 ≤ safe → safe ≤ (allB L ++ t).length → scanA (allB L ++ t) safe = (L, (allB L).length, 0) := by
  have hw : whole t = none ∧ ¬ broken t := by
    rcases ht with rfl | ⟨R, k, hg, hk, rfl⟩
    · exact ⟨whole_nil, fun h => by have := h.1; simp at this⟩
    · exact part_ok hg hk
  have hs : scanL (allB L ++ t) = (L, (allB L).length) := by rw [scanL_all L t hL, scanL_none hw.1]; simp
  refine ⟨hs, fun safe h0 h1 => ?_⟩
  unfold scanA
  rw [if_neg (by omega), hs]
  simp only [List.drop_left]
  rw [if_neg fun h => hw.2 h.1]
end Go.Proofs.YtipololccbdojaaGreatDoor
