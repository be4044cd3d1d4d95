/-
  Numbers in a row. Over every program. Small laws of memory: many cells stored at once, rows that are written over, numbers in a row. Over every program. strconv.FormatUint; the printer's writes: a builder that grows; digits. The program's Print. The program's Print, whole.
-/
import Derived.Test.YtnacobknngidkaaGreatDoorPz19
import Derived.Lib.ItoaMem
set_option linter.unusedVariables false
set_option linter.unusedSimpArgs false
namespace Go.Sv
open Go
end Go.Sv
namespace Go.Sv
open Go Go.Sort Go.RowKit
set_option linter.unusedVariables false
theorem putRow_blk {α : Type} [Inhabited α] {enc : α → Value} {w : World} {b off : Nat} {d : Array α} {cs : List Value} (h : blk w b = some cs) (hl : off + d.size ≤ cs.length) :
    ∃ cs', blk (putRow enc w b off d) b = some cs' ∧ cs'.length = cs.length ∧ (cs'.drop off).take d.size = d.toList.map enc ∧ Ch (· = b) w (putRow enc w b off d) := by
  unfold blk at h
  have hlt : b < w.heap.size := by
    cases hh : w.heap[b]? with
    | none => rw [hh] at h; cases h
    | some o => exact (Array.getElem?_eq_some_iff.1 hh).1
  split at h
  · rename_i c e fz heq
    split at h
    case isFalse => cases h
    rename_i hfz
    have hc : c.toList = cs := by simpa using h
    subst hc
    have hsz : (putCells enc off d c).size = c.size := by simp [putCells]
    refine ⟨(putCells enc off d c).toList, ?_, by simp [putCells], ?_, ⟨rfl, rfl, rfl, by simp [putRow, mapBlock], fun x hx hne => ?_⟩⟩
    · unfold blk
      have : (putRow enc w b off d).heap[b]? = some (.cells (putCells enc off d c) e fz) := by
        simp only [putRow, mapBlock, Array.getElem?_modify, if_true, heq, Option.map_some, onCells]
      rw [this]
      simp only [hsz, if_pos hfz]
    · apply List.ext_getElem?
      intro k
      rw [List.getElem?_take]
      simp only [List.getElem?_drop, Array.getElem?_toList, putCells, Array.getElem?_mapIdx, List.getElem?_map]
      by_cases hk : k < d.size
      · have h1 : off + k < c.size := by simp at hl; omega
        rw [if_pos hk, Array.getElem?_eq_getElem h1, Option.map_some, if_pos ⟨by omega, by omega⟩, show off + k - off = k by omega, getElem!_pos d k hk, Array.getElem?_eq_getElem hk]; rfl
      · rw [if_neg hk, Array.getElem?_eq_none (by omega)]; rfl
    · simp only [putRow, mapBlock, Array.getElem?_modify]
      rw [if_neg (fun e => hne e.symm)]
  · cases h
end Go.Sv
namespace Go.Proofs.YtnacobknngidkaaGreatDoor
open Go Go.Sv Go.Note Go.RowKit Go.Sort
set_option linter.unusedVariables false
attribute [local irreducible] Sif
set_option maxRecDepth 4000
theorem nDigits_le {u : Nat} (h : u < 18446744073709551616) : Lib.nDigits u ≤ 20 := by
  rw [← Lib.decDigits_length]
  exact dec_len 19 u (by omega)
theorem FormatUint_ok {u : Nat} (hu : u < 18446744073709551616) {w : World} (hL : LW w) {K : Value → World → Prop} (hk : ∀ w', Ch (fun _ => False) w w' → K (.string ⟨(Lib.decDigits u).toArray⟩) w') :
    callP Tryz.prog 108 [.int .u64 (u : Int), .int .i64 10] w K := by
  apply ok_strconv_FormatUint_2
  unfold wp_strconv_FormatUint_2
  apply ok_strconv_FormatUint
  unfold wp_strconv_FormatUint
  refine Sif_true ?_
  refine Sif_cases (fun h => ?_) (fun h => ?_)
  · have h := of_decide_eq_true h
    rw [wrap_id (by omega) (by omega)]
    refine (Tryz.internal_strconv_small u (by omega) w).mono ?_
    rintro e w' ⟨rfl, rfl⟩
    exact ⟨_, rfl, _, rfl, _, rfl, hk _ (Ch.refl _ _)⟩
  · have h := of_decide_eq_false h
    have hnd := nDigits_le hu
    refine newB_blk fun w1 b1 c1 z1 => ?_
    have hL1 := hL.ch0 c1
    refine (Tryz.internal_strconv_numDigits u (by omega) hu w1 hL1.pow).mono ?_
    rintro e w2 ⟨rfl, rfl⟩
    refine ⟨_, rfl, _, rfl, by omega, by omega, ?_⟩
    rw [Int.toNat_natCast]
    have hz : ∀ j, j < Lib.nDigits u → ((Array.replicate (Lib.nDigits u) (0 : UInt8)))[j]! = 0 := fun j hj => by
      rw [getElem!_pos _ j (by simpa using hj)]; simp
    have hH : Holds (fun (b : UInt8) => Value.int .u8 (b.toNat : Int)) w2 w.heap.size 0 (Array.replicate (Lib.nDigits u) (0 : UInt8)) := by
      intro j hj
      have hj' : j < Lib.nDigits u := by simpa using hj
      refine ⟨?_, frozen_blk b1 (by simp; omega)⟩
      rw [hz j hj', cell_blk b1, Nat.zero_add]
      have : ∀ i : Fin 24, ([Value.int .u8 0, .int .u8 0, .int .u8 0, .int .u8 0, .int .u8 0, .int .u8 0, .int .u8 0, .int .u8 0, .int .u8 0, .int .u8 0, .int .u8 0, .int .u8 0, .int .u8 0, .int .u8 0, .int .u8 0, .int .u8 0, .int .u8 0, .int .u8 0, .int .u8 0, .int .u8 0, .int .u8 0, .int .u8 0, .int .u8 0, .int .u8 0] : List Value)[i.val]? = some (.int .u8 0) := by
        intro i
        match i with
        | ⟨0, _⟩ => rfl
        | ⟨1, _⟩ => rfl
        | ⟨2, _⟩ => rfl
        | ⟨3, _⟩ => rfl
        | ⟨4, _⟩ => rfl
        | ⟨5, _⟩ => rfl
        | ⟨6, _⟩ => rfl
        | ⟨7, _⟩ => rfl
        | ⟨8, _⟩ => rfl
        | ⟨9, _⟩ => rfl
        | ⟨10, _⟩ => rfl
        | ⟨11, _⟩ => rfl
        | ⟨12, _⟩ => rfl
        | ⟨13, _⟩ => rfl
        | ⟨14, _⟩ => rfl
        | ⟨15, _⟩ => rfl
        | ⟨16, _⟩ => rfl
        | ⟨17, _⟩ => rfl
        | ⟨18, _⟩ => rfl
        | ⟨19, _⟩ => rfl
        | ⟨20, _⟩ => rfl
        | ⟨21, _⟩ => rfl
        | ⟨22, _⟩ => rfl
        | ⟨23, _⟩ => rfl
        | ⟨n + 24, h⟩ => omega
      exact this ⟨j, by omega⟩
    have hcall := Tryz.internal_strconv_formatBase10 w.heap.size 0 24 u (Array.replicate (Lib.nDigits u) (0 : UInt8)) w2 hH (by rw [Array.size_replicate]; exact Lib.lt_pow_nDigits u) hu (by rw [Array.size_replicate]; omega)
    rw [Array.size_replicate] at hcall
    refine hcall.mono ?_
    rintro e w3 ⟨rfl, n, v', dk, hw, hf⟩
    refine ⟨_, rfl, rfl, by omega, by omega, ?_⟩
    obtain ⟨cs', q1, q2, q3, q4⟩ := putRow_blk (enc := fun (b : UInt8) => Value.int .u8 (b.toNat : Int)) (off := 0) (d := dk) b1 (by rw [hf.size]; simp; omega)
    have hdk : dk.toList = Lib.decDigits u := by
      apply List.ext_getElem
      · rw [Array.length_toList, hf.size, Lib.decDigits_length]
      · intro j h1 h2
        have := Lib.row_is_numeral hf j h2
        rw [this, Array.getElem_toList, getElem!_pos dk j (by simpa using h1)]
    have b3 : blk w3 w.heap.size = some cs' := by rw [hw]; exact q1
    have c3 : Ch (· = w.heap.size) w2 w3 := by
      rw [hw]
      exact ⟨q4.os, q4.tape, q4.output, q4.size, q4.keep⟩
    have hrd : Rd w3 (some ⟨w.heap.size, 0, none⟩) (Lib.nDigits u) 1 (bytesV (Lib.decDigits u)) := by
      refine ⟨by simp [bytesV, Lib.decDigits_length], .inr ⟨_, 0, cs', rfl, blk_cells b3, by rw [q2]; simp; omega, ?_⟩⟩
      rw [Nat.mul_one, ← hf.size, q3, hdk]; rfl
    refine ⟨_, toString_run uBytes uByte uString hrd, ?_⟩
    exact ⟨_, rfl, hk w3 (c1.trans c3 fun x hx h => by omega)⟩
def PW (base : World) (g0 : Option Nat) (w : World) (b : Nat) (out : Bs) : Prop := BW base w TPr b out g0 ∧ b < base.heap.size ∧ ∀ k, g0 = some k → k < base.heap.size
theorem PW.ch {base w : World} {g0 : Option Nat} {b : Nat} {out : Bs} (h : PW base g0 w b out) : Ch (fun k => k = b ∨ g0 = some k) base w := by obtain ⟨⟨_, _, _, h⟩, _⟩ := h; exact h
theorem PW.ch0 {base w w' : World} {g0 : Option Nat} {b : Nat} {out : Bs} (h : PW base g0 w b out) (c : Ch (fun _ => False) w w') : PW base g0 w' b out := by
  obtain ⟨⟨g, h1, h2, h3⟩, h4⟩ := h
  exact ⟨⟨g, h1.ch c id fun _ _ h => h, h2, h3.trans' (c.mono fun _ _ h => h.elim)⟩, h4⟩
theorem PW.bw {base w w' : World} {g0 : Option Nat} {b : Nat} {out out' : Bs} {g : Option Nat} (h1 : BAt w TPr b out g) (h2 : ∀ k, g = some k → g0 = some k ∨ base.heap.size ≤ k) (h3 : Ch (fun k => k = b ∨ g0 = some k) base w) (h4 : b < base.heap.size ∧ ∀ k, g0 = some k → k < base.heap.size) (h : BW w w' TPr b out' g) : PW base g0 w' b out' := by
  obtain ⟨g', q1, q2, q3⟩ := h
  refine ⟨⟨g', q1, fun k hk => ?_, h3.trans q3 fun x hx hs => ?_⟩, h4⟩
  · rcases q2 k hk with h | h
    · exact h2 k h
    · have := h3.size; right; omega
  · rcases hs with h | h
    · exact .inl h
    · rcases h2 x h with h | h
      · exact .inr h
      · omega
theorem PW.now {base w : World} {g0 : Option Nat} {b : Nat} {out : Bs} (h : PW base g0 w b out) : ∃ g, PW w g w b out ∧ (∀ k, g = some k → g0 = some k ∨ base.heap.size ≤ k) ∧ ∀ w' out', PW w g w' b out' → PW base g0 w' b out' := by
  obtain ⟨⟨g, h1, h2, h3⟩, h4⟩ := h
  exact ⟨g, ⟨⟨g, h1, fun k hk => .inl hk, Ch.refl _ _⟩, h1.lt, h1.glt⟩, h2, fun w' out' hw => PW.bw h1 h2 h3 h4 hw.1⟩
theorem pWB {base w : World} {g0 : Option Nat} {b : Nat} {out : Bs} (h : PW base g0 w b out) (c : UInt8) (hl : out.length + 1 ≤ 2 ^ 46) {K : Value → World → Prop} (hk : ∀ v w', PW base g0 w' b (out ++ [c]) → K v w') : callP Tryz.prog 50 [.pointer (some ⟨b, 0, none⟩), .int .u8 (c.toNat : Int)] w K := by
  obtain ⟨⟨g, h1, h2, h3⟩, h4⟩ := h
  exact WriteByte_ok h1 (.inr rfl) c hl fun w' h => hk _ w' (PW.bw h1 h2 h3 h4 h)
theorem pWS {base w : World} {g0 : Option Nat} {b : Nat} {out : Bs} (h : PW base g0 w b out) (s : ByteArray) (hl : out.length + s.data.toList.length ≤ 2 ^ 46) {K : Value → World → Prop} (hk : ∀ w', PW base g0 w' b (out ++ s.data.toList) → K (.tuple #[.int .i64 (s.size : Int), .nilIface]) w') : callP Tryz.prog 54 [.pointer (some ⟨b, 0, none⟩), .string s] w K := by
  obtain ⟨⟨g, h1, h2, h3⟩, h4⟩ := h
  exact WriteString_ok h1 (.inr rfl) s (by rw [sl] at hl; exact hl) fun w' h => hk w' (PW.bw h1 h2 h3 h4 h)
theorem and15 (x : Nat) (hx : x < 18446744073709551616) : bitsV .and .u64 (x : Int) 15 = ((x % 16 : Nat) : Int) := by
  have e : bitsV .and .u64 (x : Int) 15 = IntKind.wrap .u64 ((BitVec.ofInt 64 (x : Int) &&& BitVec.ofInt 64 15).toNat : Int) := rfl
  have o : ∀ n : Nat, BitVec.ofInt 64 (n : Int) = BitVec.ofNat 64 n := fun n => by
    apply BitVec.eq_of_toNat_eq
    simp [BitVec.toNat_ofInt]
  rw [e, o, show (15 : Int) = ((15 : Nat) : Int) by rfl, o, BitVec.toNat_and, BitVec.toNat_ofNat, BitVec.toNat_ofNat, Nat.mod_eq_of_lt hx, Nat.mod_eq_of_lt (by omega : 15 < 2 ^ 64)]
  rw [show (15 : Nat) = 2 ^ 4 - 1 by rfl, Nat.and_two_pow_sub_one_eq_mod]
  exact w64 (by omega) (by omega)
theorem hexD_byte (d : Nat) (hd : d < 16) : byteAt (ByteArray.mk (Array.mk [(48 : UInt8), 49, 50, 51, 52, 53, 54, 55, 56, 57, 97, 98, 99, 100, 101, 102])) d = ((hexD d).toNat : Int) := by
  have key : ∀ d : Fin 16, byteAt (ByteArray.mk (Array.mk [(48 : UInt8), 49, 50, 51, 52, 53, 54, 55, 56, 57, 97, 98, 99, 100, 101, 102])) d.val = ((hexD d.val).toNat : Int) := by decide +kernel
  exact key ⟨d, hd⟩
theorem pdigits_ok {base w : World} {g0 : Option Nat} {b : Nat} {out : Bs} (h : PW base g0 w b out) {n m : Nat} (hn : n < 18446744073709551616) (hm : 1 ≤ m ∧ m ≤ 16) (hl : out.length + m ≤ 2 ^ 46) {K : Value → World → Prop} (hk : ∀ w', PW base g0 w' b (out ++ hexN m n) → K (.tuple #[]) w') :
    callP Tryz.prog 107 [.pointer (some ⟨b, 0, none⟩), .int .u64 (n : Int), .int .i64 (m : Int)] w K := by
  apply ok_note_printer_digits
  unfold wp_note_printer_digits
  simp only [nameI]
  rw [wrap_id (n := (m : Int) - 1) (by omega) (by omega)]
  refine ⟨fun q i w1 => ∃ j : Nat, i = (m : Int) - 1 - j ∧ j ≤ m ∧ q = m - j ∧ PW base g0 w1 b (out ++ hexN j (n / 16 ^ (m - j))), ⟨m, 0, by omega, by omega, rfl, by simpa [hexN] using h⟩, ?_⟩
  rintro q i w1 ⟨j, rfl, hj, rfl, hpw⟩
  refine Sif_cases (fun hge => ?_) (fun hlt => ?_)
  · have hjm : j < m := by have := of_decide_eq_true hge; omega
    have e4 : IntKind.i64.wrap (4 * ((m : Int) - 1 - j)) = ((4 * (m - 1 - j) : Nat) : Int) := by
      rw [wrap_id (by omega) (by omega)]; omega
    rw [e4]
    have emin : min (((4 * (m - 1 - j) : Nat) : Int)).toNat 64 = 4 * (m - 1 - j) := by rw [Int.toNat_natCast]; omega
    rw [emin]
    have efd : Int.fdiv (n : Int) (2 ^ (4 * (m - 1 - j))) = ((n / 16 ^ (m - 1 - j) : Nat) : Int) := by
      have : (2 : Int) ^ (4 * (m - 1 - j)) = ((16 ^ (m - 1 - j) : Nat) : Int) := by
        rw [Int.pow_mul]; simp
      rw [this, Int.fdiv_eq_ediv_of_nonneg _ (Int.natCast_nonneg _)]; rfl
    rw [efd]
    have hlt : n / 16 ^ (m - 1 - j) < 18446744073709551616 := Nat.lt_of_le_of_lt (Nat.div_le_self _ _) hn
    rw [and15 _ hlt]
    refine ⟨by omega, by omega, by omega, ?_⟩
    rw [Int.toNat_natCast, hexD_byte _ (by omega)]
    simp only [nn, add_at, Nat.zero_add]
    have hlen : (out ++ hexN j (n / 16 ^ (m - j))).length = out.length + j := by rw [List.length_append, hexN_len]
    refine pWB (hpw.ch0 (Ch.drew _)) (hexD (n / 16 ^ (m - 1 - j) % 16)) (by omega) fun v w2 h2 => ⟨_, rfl, ?_⟩
    rw [wrap_id (by omega) (by omega)]
    refine ⟨m - (j + 1), by omega, j + 1, by omega, by omega, rfl, ?_⟩
    rw [List.append_assoc] at h2
    have e : hexN (j + 1) (n / 16 ^ (m - (j + 1))) = hexN j (n / 16 ^ (m - j)) ++ [hexD (n / 16 ^ (m - 1 - j) % 16)] := by
      show hexN j (n / 16 ^ (m - (j + 1)) / 16) ++ [hexD (n / 16 ^ (m - (j + 1)) % 16)] = _
      rw [Nat.div_div_eq_div_mul, ← Nat.pow_succ, show (m - (j + 1)).succ = m - j by omega, show m - (j + 1) = m - 1 - j by omega]
    rw [e]; exact h2
  · have hjm : j = m := by have := of_decide_eq_false hlt; omega
    subst hjm
    have := hk w1
    simp only [Nat.sub_self, Nat.pow_zero, Nat.div_one] at hpw
    exact this hpw
end Go.Proofs.YtnacobknngidkaaGreatDoor
namespace Go.Proofs.YtnacobknngidkaaGreatDoor
open Go Go.Sv Go.Note Go.RowKit
set_option linter.unusedVariables false
attribute [local irreducible] Sif
set_option maxRecDepth 4000
theorem PW.now2 {base w w' : World} {g0 : Option Nat} {b : Nat} {out : Bs} (h : PW base g0 w b out) (c : Ch (fun _ => False) w w') : ∃ g, PW w' g w' b out ∧ (∀ k, g = some k → k < w.heap.size ∧ (g0 = some k ∨ base.heap.size ≤ k)) ∧ b < w.heap.size ∧ ∀ w'' out', PW w' g w'' b out' → PW base g0 w'' b out' := by
  obtain ⟨⟨g, h1, h2, h3⟩, h4⟩ := h
  have h1' := h1.ch c id fun _ _ h => h
  refine ⟨g, ⟨⟨g, h1', fun k hk => .inl hk, Ch.refl _ _⟩, h1'.lt, h1'.glt⟩, fun k hk => ⟨h1.glt k hk, h2 k hk⟩, h1.lt, fun w'' out' hw => PW.bw h1' h2 (h3.trans' (c.mono fun _ _ h => h.elim)) h4 hw.1⟩
theorem rawB_snoc (l : Bs) (x : UInt8) : rawB (l ++ [x]) = rawB l ++ hexN 2 x.toNat := by
  unfold rawB; rw [List.flatMap_append]; simp
theorem psimple_ok {base w : World} {g0 : Option Nat} {b : Nat} {out : Bs} (hL : LW base) (hb8 : 8 ≤ b) (hg8 : ∀ k, g0 = some k → 8 ≤ k) (h : PW base g0 w b out) {x : MV} (hf : x.n < 18446744073709551616) (ht : x.t.length ≤ 2 ^ 40) (hl : out.length + (simpleB x.k x.n x.t).length ≤ 2 ^ 45) {K : Value → World → Prop} (hk : ∀ w', PW base g0 w' b (out ++ simpleB x.k x.n x.t) → K (.tuple #[]) w') :
    callP Tryz.prog 65 [.pointer (some ⟨b, 0, none⟩), x.v] w K := by
  obtain ⟨k, n, t, s, e, l⟩ := x
  have hL' : ∀ w, PW base g0 w b out → LW w := fun w h => hL.ch h.ch fun j hj e => by have := hg8; rcases e with e | e; omega; have := hg8 j e; omega
  apply ok_note_printer_simple
  unfold wp_note_printer_simple
  refine boxV (x := .mk k n t s e l) fun w1 b1 a1 c1 z1 => ?_
  simp only [add_at, Nat.zero_add, beqI, nn]
  have h1 := h.ch0 c1
  have hk : ∀ w', PW base g0 w' b (out ++ simpleB k n t) → K (.tuple #[]) w' := hk
  have hl : out.length + (simpleB k n t).length ≤ 2 ^ 45 := hl
  have hn : n < 18446744073709551616 := hf
  have ht : t.length ≤ 2 ^ 40 := ht
  have b1d : blk w1.drew w.heap.size = some (MV.mk k n t s e l).g := b1
  have ws : ∀ w2 (y : Bs), PW base g0 w2 b out → simpleB k n t = y → ∀ z : Prop, True → callP Tryz.prog 54 [.pointer (some ⟨b, 0, none⟩), .string ⟨y.toArray⟩] w2 fun v1 w4 => ∃ n2 v2, v1 = .tuple (Array.mk [.int .i64 n2, v2]) ∧ K (.tuple (Array.mk [])) w4 := by
    intro w2 y h2 hy _ _
    refine pWS h2 ⟨y.toArray⟩ (by rw [str_list, ← hy]; omega) fun w3 h3 => ⟨_, _, rfl, ?_⟩
    rw [str_list, ← hy] at h3
    exact hk w3 h3
  refine ⟨_, cellK b1 0 rfl, ?_⟩
  refine ⟨fun q w2 => w2 = w1 ∧ q = decide (k = 6 ∨ k = 7 ∨ k = 8 ∨ k = 9 ∨ k = 16), ?_, ?_⟩
  rotate_left
  · have tt : ∀ (j : Int), (j = 6 ∨ j = 7 ∨ j = 8 ∨ j = 9 ∨ j = 16) → decide (k = j) = true → decide (k = j) = decide (k = 6 ∨ k = 7 ∨ k = 8 ∨ k = 9 ∨ k = 16) := fun j hj h => by
      have := of_decide_eq_true h
      rw [h, decide_eq_true (by omega)]
    refine Sif_cases (fun h => ⟨by trivial, tt 6 (by decide) h⟩) (fun a1 => Sif_cases (fun h => ⟨by trivial, tt 7 (by decide) h⟩) (fun a2 => Sif_cases (fun h => ⟨by trivial, tt 8 (by decide) h⟩) (fun a3 => Sif_cases (fun h => ⟨by trivial, tt 9 (by decide) h⟩) (fun a4 => ⟨by trivial, ?_⟩))))
    have a1 := of_decide_eq_false a1
    have a2 := of_decide_eq_false a2
    have a3 := of_decide_eq_false a3
    have a4 := of_decide_eq_false a4
    exact decide_eq_decide.2 (by omega)
  rintro q w2 ⟨rfl, rfl⟩
  refine Sif_cases (fun hc => ⟨_, cellK b1d 1 rfl, ?_⟩) (fun hc => ?_)
  · have hc := of_decide_eq_true hc
    have hs : simpleB k n t = Lib.itoa (two64 n) := by unfold simpleB; rw [if_pos hc]
    have h2d := h1.ch0 (Ch.drew w2)
    rw [wrap64 hn]
    have e2 : (if n < 9223372036854775808 then (n : Int) else (n : Int) - 18446744073709551616) = two64 n := rfl
    rw [e2]
    refine (Tryz.strconv_FormatInt_10 (two64 n) (by unfold two64; split <;> omega) (by unfold two64; split <;> omega) _ (hL' _ h2d).pow).mono ?_
    rintro e w3 ⟨rfl, kk, os, rfl⟩
    refine ⟨_, rfl, _, rfl, ?_⟩
    have cg : Ch (fun _ => False) w2.drew (Go.Sort.grow (w2.drew.drewN kk) os) := (⟨rfl, rfl, rfl, Nat.le_refl _, fun _ _ _ => rfl⟩ : Ch (fun _ => False) w2.drew (w2.drew.drewN kk)).trans' (sort_grow_ch os)
    exact ws _ _ (h2d.ch0 cg) hs True trivial
  have hc := of_decide_eq_false hc
  refine ⟨fun q w3 => w3 = w2 ∧ q = decide (k = 10 ∨ k = 12), ?_, ?_⟩
  rotate_left
  · refine Sif_cases (fun h => ⟨by trivial, ?_⟩) (fun a1 => ⟨by trivial, ?_⟩)
    · rw [h, decide_eq_true (.inl (of_decide_eq_true h))]
    · exact decide_eq_decide.2 ⟨fun e => .inr e, fun e => e.resolve_left (of_decide_eq_false a1)⟩
  rintro q w3 ⟨rfl, rfl⟩
  refine Sif_cases (fun hc2 => ⟨_, cellK b1 1 rfl, ?_⟩) (fun hc2 => ?_)
  · have hc2 := of_decide_eq_true hc2
    have hs : simpleB k n t = hexN 8 n := by unfold simpleB; rw [if_neg hc, if_pos hc2]
    rw [hs] at hk
    exact pdigits_ok (m := 8) h1 hn (by decide) (by omega) fun w4 h4 => ⟨rfl, hk w4 h4⟩
  have hc2 := of_decide_eq_false hc2
  refine ⟨fun q w4 => w4 = w3 ∧ q = decide (k = 11 ∨ k = 13), ?_, ?_⟩
  rotate_left
  · refine Sif_cases (fun h => ⟨by trivial, ?_⟩) (fun a1 => ⟨by trivial, ?_⟩)
    · rw [h, decide_eq_true (.inl (of_decide_eq_true h))]
    · exact decide_eq_decide.2 ⟨fun e => .inr e, fun e => e.resolve_left (of_decide_eq_false a1)⟩
  rintro q w4 ⟨rfl, rfl⟩
  refine Sif_cases (fun hc3 => ⟨_, cellK b1 1 rfl, ?_⟩) (fun hc3 => ?_)
  · have hc3 := of_decide_eq_true hc3
    have hs : simpleB k n t = hexN 16 n := by unfold simpleB; rw [if_neg hc, if_neg hc2, if_pos hc3]
    rw [hs] at hk
    exact pdigits_ok (m := 16) h1 hn (by decide) (by omega) fun w5 h5 => ⟨rfl, hk w5 h5⟩
  have hc3 := of_decide_eq_false hc3
  refine ⟨fun q w5 => w5 = w4 ∧ q = decide (k = 14 ∨ k = 17), ?_, ?_⟩
  rotate_left
  · refine Sif_cases (fun h => ⟨by trivial, ?_⟩) (fun a1 => ⟨by trivial, ?_⟩)
    · rw [h, decide_eq_true (.inl (of_decide_eq_true h))]
    · exact decide_eq_decide.2 ⟨fun e => .inr e, fun e => e.resolve_left (of_decide_eq_false a1)⟩
  rintro q w5 ⟨rfl, rfl⟩
  refine Sif_cases (fun hc4 => ⟨_, cellK b1 2 rfl, ?_⟩) (fun hc4 => ?_)
  · have hc4 := of_decide_eq_true hc4
    have hs : simpleB k n t = rawB t := by unfold simpleB; rw [if_neg hc, if_neg hc2, if_neg hc3, if_pos hc4]
    rw [hs] at hk hl
    rw [rawB_len] at hl
    obtain ⟨c, w6, m1, ⟨cs, q1, q2⟩, c6, z6⟩ := strBytes_run ⟨t.toArray⟩ w5
    have hts : (⟨t.toArray⟩ : ByteArray).size = t.length := by rw [← sl, str_list]
    rw [str_list] at q2
    obtain ⟨g, hn6, hgl, hbl, hback⟩ := h1.now2 c6
    refine ⟨_, _, _, w6, m1, ?_⟩
    rw [hts]
    refine ⟨fun m i w7 => ∃ j : Nat, i = (j : Int) ∧ j ≤ t.length ∧ m = t.length - j ∧ PW w6 g w7 b (out ++ rawB (t.take j)), ⟨t.length, 0, rfl, Nat.zero_le _, rfl, by simpa only [List.take_zero, rawB, List.flatMap_nil, List.append_nil] using hn6⟩, ?_⟩
    rintro m i w7 ⟨j, rfl, hj, rfl, h7⟩
    refine Sif_cases (fun hlt => ?_) (fun hge => ?_)
    · have hjl : j < t.length := by have := of_decide_eq_true hlt; omega
      have q7 : blk w7 w5.heap.size = some cs := (h7.ch.blk (by omega) (fun e => by rcases e with e | e; omega; have := (hgl _ e).1; omega)).trans q1
      refine ⟨by omega, by omega, ?_⟩
      simp only [nn, add_at, Int.toNat_natCast, Nat.mul_one, Nat.zero_add]
      refine ⟨(t[j].toNat : Int), cellK q7 j (q2 j _ (List.getElem?_eq_getElem hjl)), ?_⟩
      rw [w64 (n := t[j].toNat) (by omega) (by have := t[j].toNat_lt; omega)]
      have hrl : (rawB (t.take j)).length = 2 * j := by rw [rawB_len, List.length_take]; omega
      refine pdigits_ok (m := 2) h7 (by have := t[j].toNat_lt; omega) (by decide) (by rw [List.length_append, hrl]; omega) fun w8 h8 => ⟨rfl, ?_⟩
      rw [wrap_id (n := (j : Int) + 1) (by omega) (by omega)]
      refine ⟨t.length - (j + 1), by omega, j + 1, by omega, by omega, rfl, ?_⟩
      rw [List.append_assoc] at h8
      rw [List.take_add_one, List.getElem?_eq_getElem hjl]
      simp only [Option.toList_some]
      rw [rawB_snoc]; exact h8
    · have hjl : j = t.length := by have := of_decide_eq_false hge; omega
      subst hjl
      rw [List.take_length] at h7
      exact hk w7 (hback _ _ h7)
  have hc4 := of_decide_eq_false hc4
  refine ⟨fun q w6 => w6 = w5 ∧ q = decide (k = 18 ∨ k = 20), ?_, ?_⟩
  rotate_left
  · refine Sif_cases (fun h => ⟨by trivial, ?_⟩) (fun a1 => ⟨by trivial, ?_⟩)
    · rw [h, decide_eq_true (.inl (of_decide_eq_true h))]
    · exact decide_eq_decide.2 ⟨fun e => .inr e, fun e => e.resolve_left (of_decide_eq_false a1)⟩
  rintro q w6 ⟨rfl, rfl⟩
  refine Sif_cases (fun hc5 => ⟨_, cellK b1d 2 rfl, ?_⟩) (fun hc5 => ⟨_, cellK b1d 1 rfl, ?_⟩)
  · have hc5 := of_decide_eq_true hc5
    have hs : simpleB k n t = quoteB t := by unfold simpleB; rw [if_neg hc, if_neg hc2, if_neg hc3, if_neg hc4, if_pos hc5]
    refine Quote_ok _ (by rw [← sl, str_list]; exact ht) fun w7 c7 => ⟨_, rfl, ?_⟩
    rw [str_list]
    exact ws _ _ (h1.ch0 ((Ch.drew _).trans' c7)) hs True trivial
  · have hc5 := of_decide_eq_false hc5
    have hs : simpleB k n t = Lib.decDigits n := by unfold simpleB; rw [if_neg hc, if_neg hc2, if_neg hc3, if_neg hc4, if_neg hc5]
    have h1d := h1.ch0 (Ch.drew w6)
    refine FormatUint_ok hn (hL' _ h1d) fun w7 c7 => ⟨_, rfl, ?_⟩
    exact ws _ _ (h1d.ch0 c7) hs True trivial
end Go.Proofs.YtnacobknngidkaaGreatDoor
namespace Go.Note
open Go
theorem printL_mono (l2 : List M) : ∀ l1 : List M, (printL l1).length ≤ (printL (l1 ++ l2)).length := by
  induction l2 with
  | nil => intro l1; simp
  | cons x l2 ih =>
    intro l1
    have h1 := ih (l1 ++ [x])
    rw [List.append_assoc] at h1
    refine Nat.le_trans ?_ h1
    rw [printL_snoc]
    simp only [List.length_append]; omega
theorem printP_mono : ∀ (l2 l1 : List M), l1.length % 2 = 0 → l2.length % 2 = 0 → (printP l1).length ≤ (printP (l1 ++ l2)).length
  | [], l1, _, _ => by simp
  | [_], _, _, h => by simp at h
  | x :: y :: l2, l1, h1, h2 => by
    simp only [List.length_cons] at h2
    have := printP_mono l2 (l1 ++ [x, y]) (by simp only [List.length_append, List.length_cons, List.length_nil]; omega) (by omega)
    rw [List.append_assoc] at this
    refine Nat.le_trans ?_ this
    rw [printP_snoc _ _ _ h1]
    simp only [List.length_append]; omega
end Go.Note
namespace Go.Proofs.YtnacobknngidkaaGreatDoor
open Go Go.Sv Go.Note Go.RowKit
set_option linter.unusedVariables false
attribute [local irreducible] Sif
set_option maxRecDepth 4000
theorem PW.enter {Q : Nat → Prop} {base w w1 : World} {g0 : Option Nat} {b : Nat} {out : Bs} {x : MV} (hL : LW base) (hb8 : 8 ≤ b) (hg8 : ∀ k, g0 = some k → 8 ≤ k) (hQ : ∀ k, Q k → k ≠ b ∧ g0 ≠ some k) (h : PW base g0 w b out) (hx : VR Q base x) (c : Ch (fun _ => False) w w1) :
    ∃ g Q', PW w1 g w1 b out ∧ LW w1 ∧ (∀ k, g = some k → 8 ≤ k) ∧ (∀ k, Q' k → k ≠ b ∧ g ≠ some k) ∧ VR Q' w1 x ∧ (w.heap.size ≠ b ∧ g ≠ some w.heap.size) ∧ ∀ w'' out', PW w1 g w'' b out' → PW base g0 w'' b out' := by
  obtain ⟨g, h1, h2, h3, h4⟩ := h.now2 c
  have hbb := h.2.1
  have c2 := (h.ch0 c).ch
  have hx2 := hx.lt x
  refine ⟨g, fun k => Q k ∧ k < base.heap.size, h1, hL.ch c2 fun j hj e => ?_, fun k hk => ?_, fun k hk => ⟨(hQ k hk.1).1, fun e => ?_⟩, VR.ch c2 (fun k hk e => ?_) x hx2, ⟨by omega, fun e => ?_⟩, h4⟩
  · rcases e with e | e
    · omega
    · have := hg8 j e; omega
  · rcases (h2 k hk).2 with e | e
    · exact hg8 k e
    · omega
  · rcases (h2 k e).2 with e | e
    · exact (hQ k hk.1).2 e
    · omega
  · rcases e with e | e
    · exact (hQ k hk.1).1 e
    · exact (hQ k hk.1).2 e
  · have := (h2 _ e).1; omega
def PrOK (x : MV) : Prop := ∀ {Q : Nat → Prop} {base w : World} {g0 : Option Nat} {b : Nat} {out : Bs} {d : Nat}, LW base → 8 ≤ b → (∀ k, g0 = some k → 8 ≤ k) → (∀ k, Q k → k ≠ b ∧ g0 ≠ some k) → PW base g0 w b out → VR Q base x → x.m.fits → x.m.sz ≤ 2 ^ 40 → x.m.check d = 0 → out.length + (printM x.m).length ≤ 2 ^ 45 → ∀ {K : Value → World → Prop}, (∀ w', PW base g0 w' b (out ++ printM x.m) → K (.tuple #[]) w') →
    callP Tryz.prog 34 [.pointer (some ⟨b, 0, none⟩), x.v] w K
theorem pall_ok {l : List MV} (ih : ∀ x ∈ l, PrOK x) {Q : Nat → Prop} {base w : World} {g0 : Option Nat} {b : Nat} {out : Bs} {d : Nat} {p : Option Addr} {n c : Nat} (hL : LW base) (hb8 : 8 ≤ b) (hg8 : ∀ k, g0 = some k → 8 ≤ k) (hQ : ∀ k, Q k → k ≠ b ∧ g0 ≠ some k) (h : PW base g0 w b out) (hr : VRow Q base p n l)
    (hf : ∀ x ∈ l, x.m.fits) (hz : ∀ x ∈ l, x.m.sz ≤ 2 ^ 40) (hc : ∀ x ∈ l, x.m.check d = 0) (hl : out.length + (printL (l.map MV.m)).length ≤ 2 ^ 45) {K : Value → World → Prop} (hk : ∀ w', PW base g0 w' b (out ++ printL (l.map MV.m)) → K (.tuple #[]) w') :
    callP Tryz.prog 63 [.pointer (some ⟨b, 0, none⟩), .slice p n c] w K := by
  apply ok_note_printer_all
  unfold wp_note_printer_all
  have hln := hr.1
  have hn46 := hr.2.1
  refine ⟨fun m i w1 => ∃ j : Nat, i = (j : Int) ∧ m = n - j ∧ j ≤ n ∧ PW base g0 w1 b (out ++ printL ((l.take j).map MV.m)), ⟨n, 0, rfl, rfl, Nat.zero_le _, by simpa [printL] using h⟩, ?_⟩
  rintro m i w1 ⟨j, rfl, rfl, hj, h1⟩
  refine Sif_cases (fun hlt => ?_) (fun hge => ?_)
  · have hjl : j < n := by have := of_decide_eq_true hlt; omega
    obtain ⟨y, hyi⟩ : ∃ y, l[j]? = some y := ⟨l[j]'(by omega), List.getElem?_eq_getElem _⟩
    have hym := List.mem_of_getElem? hyi
    have hr1 : VRow Q w1 p n l := hr.ch h1.ch fun k hk e => by
      rcases e with e | e
      · exact (hQ k hk).1 e
      · exact (hQ k hk).2 e
    obtain ⟨by', oy, py, _, ay⟩ := hr1.at hyi
    refine ⟨by omega, by omega, ?_⟩
    rw [py]
    simp only [nn]
    refine ldR ay ?_
    refine nbx rfl fun w2 b2 c2 z2 => ?_
    have h2 := h1.ch0 c2
    have hw1 : b < w1.heap.size := by have := h1.2.1; have := h1.ch.size; omega
    have hgw1 : w1.heap.size ≠ b := by omega
    have htk : l.take (j + 1) = l.take j ++ [y] := by rw [List.take_add_one, hyi]; rfl
    have hle : (out ++ printL ((l.take j).map MV.m)).length + (if (l.take j).map MV.m = [] then ([] : Bs) else [32]).length + (printM y.m).length ≤ 2 ^ 45 := by
      have h1 := printL_mono ((l.drop (j + 1)).map MV.m) ((l.take (j + 1)).map MV.m)
      rw [← List.map_append, List.take_append_drop] at h1
      rw [htk, List.map_append, List.map_singleton, printL_snoc] at h1
      simp only [List.length_append] at h1 ⊢
      omega
    have hfin : printL ((l.take (j + 1)).map MV.m) = printL ((l.take j).map MV.m) ++ (if (l.take j).map MV.m = [] then [] else [32]) ++ printM y.m := by
      rw [htk, List.map_append, List.map_singleton, printL_snoc]
    refine ⟨fun w3 => PW base g0 w3 b (out ++ printL ((l.take j).map MV.m) ++ (if (l.take j).map MV.m = [] then [] else [32])) ∧ blk w3 w1.heap.size = some y.g, ?_, ?_⟩
    · rintro w3 ⟨h3, b3⟩
      refine ldK b3 ?_
      rw [vv y]
      refine ih y hym hL hb8 hg8 hQ h3 (hr.2.2.2.2 y hym) (hf y hym) (hz y hym) (hc y hym) (by rw [List.length_append]; exact hle) fun w4 h4 => ⟨rfl, ?_⟩
      rw [wrap_id (n := (j : Int) + 1) (by omega) (by omega)]
      refine ⟨n - (j + 1), by omega, j + 1, by omega, rfl, by omega, ?_⟩
      rw [hfin]
      simpa only [List.append_assoc] using h4
    · refine Sif_cases (fun hp => ?_) (fun hp => ?_)
      · have hj0 : 0 < j := by have := of_decide_eq_true hp; omega
        have hne : (l.take j).map MV.m ≠ [] := by
          intro e
          have := congrArg List.length e
          simp only [List.length_map, List.length_take, List.length_nil] at this
          omega
        rw [if_neg hne]
        rw [if_neg hne] at hle
        simp only [List.length_singleton] at hle
        obtain ⟨g, n2, q1, q2, q3⟩ := h1.now2 c2
        refine pWB n2 32 (by omega) fun v w3 h3 => ⟨_, rfl, q3 _ _ h3, ?_⟩
        refine (h3.ch.blk (blk_lt b2) fun e => ?_).trans b2
        rcases e with e | e
        · omega
        · have := (q1 _ e).1; omega
      · have hj0 : j = 0 := by have := of_decide_eq_false hp; omega
        subst hj0
        refine ⟨?_, b2⟩
        simpa using h2
  · have hjl : j = n := by have := of_decide_eq_false hge; omega
    rw [List.take_of_length_le (by omega)] at h1
    exact hk w1 h1
theorem bool_list (n : Nat) : Lib.formatBool (decide ((n : Int) = 1)) = if n = 1 then ([116, 114, 117, 101] : Bs) else [102, 97, 108, 115, 101] := by
  by_cases h : n = 1
  · rw [if_pos h, decide_eq_true (by omega)]; decide +kernel
  · rw [if_neg h, decide_eq_false (by omega)]; decide +kernel
theorem str_app (a b : Bs) : (⟨a.toArray⟩ ++ ⟨b.toArray⟩ : ByteArray) = ⟨(a ++ b).toArray⟩ := by
  apply ByteArray.ext
  rw [ByteArray.data_append]; simp
theorem str_size (a : Bs) : (⟨a.toArray⟩ : ByteArray).size = a.length := by rw [← sl, str_list]
theorem pvalue_ok : ∀ x : MV, PrOK x := by
  refine MV.ind fun k n t s e l ih => ?_
  intro Q base w g0 b out d hL hb8 hg8 hQ h hx hf hz hc hl K hk
  apply ok_note_printer_value
  unfold wp_note_printer_value
  refine boxV (x := .mk k n t s e l) fun w1 b1 a1 c1 z1 => ?_
  simp only [add_at, Nat.zero_add, beqI, nn]
  obtain ⟨g, Q', h1, hL1, hg1, hQ1, hx1, hbx, hback⟩ := PW.enter hL hb8 hg8 hQ h hx c1
  rw [MV.m_mk] at hf hz hc hl hk
  have hk' : ∀ w', PW w1 g w' b (out ++ printM (.mk k n t e (l.map MV.m))) → K (.tuple #[]) w' := fun w' h => hk w' (hback _ _ h)
  have bx : ∀ w2 o, PW w1 g w2 b o → blk w2 w.heap.size = some (MV.mk k n t s e l).g := fun w2 o hw => (hw.ch.blk (blk_lt b1) (fun e => e.elim hbx.1 hbx.2)).trans b1
  obtain ⟨hown, hcm⟩ := (M.check_iff d _).1 hc
  obtain ⟨o1, o2, o3, o4, o5, o6, o7, o8, o9⟩ := own_ok hown
  have o1 : 0 ≤ k := o1
  have o2 : k < 25 := o2
  have o7 : k = 22 → mapOk (l.map MV.m) = true := o7
  have o8 : k = 23 → arrOk e (l.map MV.m) = true := o8
  have hn64 : n < 18446744073709551616 := by cases hf with | mk h _ => exact h
  have hfl : ∀ x ∈ l, x.m.fits := fun x hx => by
    cases hf with | mk _ h => exact h x.m (List.mem_map.2 ⟨x, hx, rfl⟩)
  have hszl : ∀ x ∈ l, x.m.sz ≤ 2 ^ 40 := fun x hx => by
    rw [M.sz_mk] at hz
    have := le_sum_of (List.mem_map.2 ⟨x.m, List.mem_map.2 ⟨x, hx, rfl⟩, rfl⟩ : x.m.sz ∈ (l.map MV.m).map M.sz)
    omega
  have htl : t.length ≤ 2 ^ 40 := by rw [M.sz_mk] at hz; omega
  have hcl : ∀ x ∈ l, x.m.check (d + 1) = 0 := fun x hx => hcm x.m (List.mem_map.2 ⟨x, hx, rfl⟩)
  have hrow : VRow Q' w1 s.p s.n l := hx1.row
  refine ⟨_, cellK b1 0 rfl, ?_⟩
  refine Sif_cases (fun hc0 => ?_) (fun hc0 => ?_)
  · have hc0 := of_decide_eq_true hc0
    have hp : printM (.mk k n t e (l.map MV.m)) = nameK 0 := by unfold printM; rw [if_pos hc0]
    rw [hp] at hk' hl
    exact pWS h1 _ (by show out.length + (nameK 0).length ≤ _; omega) fun w2 h2 => ⟨_, _, rfl, hk' w2 h2⟩
  have hc0 := of_decide_eq_false hc0
  refine Sif_cases (fun hc1 => ⟨_, cellK (w := w1.drew) b1 1 rfl, ?_⟩) (fun hc1 => ?_)
  · have hc1 := of_decide_eq_true hc1
    have hp : printM (.mk k n t e (l.map MV.m)) = if n = 1 then ([116, 114, 117, 101] : Bs) else [102, 97, 108, 115, 101] := by unfold printM; rw [if_neg hc0, if_pos hc1]
    rw [hp] at hk' hl
    refine (Tryz.strconv_FormatBool _ _).mono ?_
    rintro _ w3 ⟨rfl, rfl⟩
    refine ⟨_, rfl, _, rfl, ?_⟩
    rw [bool_list]
    refine pWS (h1.ch0 (Ch.drew _)) _ (by rw [str_list]; omega) fun w2 h2 => ⟨_, _, rfl, hk' w2 ?_⟩
    rw [str_list] at h2; exact h2
  have hc1 := of_decide_eq_false hc1
  refine Sif_cases (fun hc2 => ⟨_, cellK (w := w1.drew) b1 2 rfl, ?_⟩) (fun hc2 => ?_)
  · have hc2 := of_decide_eq_true hc2
    have hp : printM (.mk k n t e (l.map MV.m)) = quoteB t := by unfold printM; rw [if_neg hc0, if_neg hc1, if_pos hc2]
    rw [hp] at hk' hl
    refine Quote_ok _ (by rw [str_size]; exact htl) fun w3 c3 => ⟨_, rfl, ?_⟩
    rw [str_list]
    refine pWS (h1.ch0 ((Ch.drew _).trans' c3)) _ (by rw [str_list]; omega) fun w2 h2 => ⟨_, _, rfl, hk' w2 ?_⟩
    rw [str_list] at h2; exact h2
  have hc2 := of_decide_eq_false hc2
  refine Sif_cases (fun hc3 => ?_) (fun hc3 => ?_)
  · have hc3 := of_decide_eq_true hc3
    have hp : printM (.mk k n t e (l.map MV.m)) = 91 :: (printL (l.map MV.m) ++ [93]) := by unfold printM; rw [if_neg hc0, if_neg hc1, if_neg hc2, if_pos hc3]
    rw [hp] at hk' hl
    simp only [List.length_cons, List.length_append, List.length_nil] at hl
    refine pWB h1 91 (by omega) fun v w2 h2 => ⟨_, rfl, _, _, _, cellK (bx _ _ h2) 3 rfl, ?_⟩
    refine pall_ok ih hL1 hb8 hg1 hQ1 h2 hrow hfl hszl hcl (by simp only [List.length_append, List.length_singleton]; omega) fun w3 h3 => ⟨rfl, ?_⟩
    refine pWB h3 93 (by simp only [List.length_append, List.length_singleton]; omega) fun v w4 h4 => ⟨_, rfl, hk' w4 ?_⟩
    simpa only [List.append_assoc, List.singleton_append, List.cons_append, List.nil_append] using h4
  have hc3 := of_decide_eq_false hc3
  refine Sif_cases (fun hc4 => ⟨_, cellK (w := w1.drew) b1 4 rfl, ?_⟩) (fun hc4 => ?_)
  · have hc4 := of_decide_eq_true hc4
    have hp : printM (.mk k n t e (l.map MV.m)) = [97, 114, 114, 97, 121, 32] ++ nameK e ++ [32, 91] ++ printL (l.map MV.m) ++ [93] := by unfold printM; rw [if_neg hc0, if_neg hc1, if_neg hc2, if_neg hc3, if_neg (by omega), if_pos hc4]
    rw [hp] at hk' hl
    simp only [List.length_append, List.length_cons, List.length_nil] at hl
    have ho8 := o8 hc4
    simp only [arrOk, Bool.and_eq_true, decide_eq_true_eq] at ho8
    obtain ⟨e', rfl⟩ : ∃ e' : Nat, e = (e' : Int) := ⟨e.toNat, by omega⟩
    refine kindName_ok (by omega) fun w3 c3 => ⟨_, rfl, ?_⟩
    have hnl := nameK_len (e' : Int)
    rw [show (ByteArray.mk (Array.mk [(97 : UInt8), 114, 114, 97, 121, 32])) = ⟨([97, 114, 114, 97, 121, 32] : Bs).toArray⟩ by rfl, show (ByteArray.mk (Array.mk [(32 : UInt8), 91])) = ⟨([32, 91] : Bs).toArray⟩ by rfl, str_app, str_app, str_size, str_size]
    refine ⟨by omega, by simp only [List.length_append, List.length_cons, List.length_nil]; omega, ?_⟩
    refine pWS (h1.ch0 ((Ch.drew _).trans' c3)) _ (by rw [str_list]; simp only [List.length_append, List.length_cons, List.length_nil]; omega) fun w2 h2 => ⟨_, _, rfl, _, _, _, cellK (bx _ _ h2) 3 rfl, ?_⟩
    rw [str_list] at h2
    refine pall_ok ih hL1 hb8 hg1 hQ1 h2 hrow hfl hszl hcl (by simp only [List.length_append, List.length_cons, List.length_nil]; omega) fun w3 h3 => ⟨rfl, ?_⟩
    refine pWB h3 93 (by simp only [List.length_append, List.length_cons, List.length_nil]; omega) fun v w4 h4 => ⟨_, rfl, hk' w4 ?_⟩
    simpa only [List.append_assoc] using h4
  have hc4 := of_decide_eq_false hc4
  refine Sif_cases (fun hc5 => ?_) (fun hc5 => ?_)
  · have hc5 := of_decide_eq_true hc5
    have hp : printM (.mk k n t e (l.map MV.m)) = 40 :: (printL (l.map MV.m) ++ [41]) := by unfold printM; rw [if_neg hc0, if_neg hc1, if_neg hc2, if_neg hc3, if_neg (by omega), if_neg hc4, if_pos hc5]
    rw [hp] at hk' hl
    simp only [List.length_cons, List.length_append, List.length_nil] at hl
    refine pWB h1 40 (by omega) fun v w2 h2 => ⟨_, rfl, _, _, _, cellK (bx _ _ h2) 3 rfl, ?_⟩
    refine pall_ok ih hL1 hb8 hg1 hQ1 h2 hrow hfl hszl hcl (by simp only [List.length_append, List.length_singleton]; omega) fun w3 h3 => ⟨rfl, ?_⟩
    refine pWB h3 41 (by simp only [List.length_append, List.length_singleton]; omega) fun v w4 h4 => ⟨_, rfl, hk' w4 ?_⟩
    simpa only [List.append_assoc, List.singleton_append, List.cons_append, List.nil_append] using h4
  have hc5 := of_decide_eq_false hc5
  refine Sif_cases (fun hc6 => ?_) (fun hc6 => ⟨_, cellK (w := w1.drew) b1 0 rfl, ?_⟩)
  · have hc6 := of_decide_eq_true hc6
    have hp : printM (.mk k n t e (l.map MV.m)) = 123 :: (printP (l.map MV.m) ++ [125]) := by unfold printM; rw [if_neg hc0, if_neg hc1, if_neg hc2, if_neg hc3, if_pos hc6]
    rw [hp] at hk' hl
    simp only [List.length_cons, List.length_append, List.length_nil] at hl
    have hev : l.length % 2 = 0 := by have := (keysOf_nodup (o7 hc6)).1; rwa [List.length_map] at this
    have hln := hrow.1
    have hn46 := hrow.2.1
    refine pWB h1 123 (by omega) fun v w2 h2 => ⟨_, rfl, ?_⟩
    refine ⟨fun m i w3 => ∃ j : Nat, i = ((2 * j : Nat) : Int) ∧ m = s.n - 2 * j ∧ 2 * j ≤ s.n ∧ PW w1 g w3 b (out ++ [123] ++ printP ((l.take (2 * j)).map MV.m)), ⟨s.n, 0, rfl, rfl, Nat.zero_le _, by simpa [printP] using h2⟩, ?_⟩
    rintro m i w3 ⟨j, rfl, rfl, hj, h3⟩
    refine ⟨_, _, _, cellK (bx _ _ h3) 3 rfl, ?_⟩
    refine Sif_cases (fun hlt => ?_) (fun hge => ?_)
    · have hjl : 2 * j < s.n := by have := of_decide_eq_true hlt; omega
      obtain ⟨y, hyi⟩ : ∃ y, l[2 * j]? = some y := ⟨l[2 * j]'(by omega), List.getElem?_eq_getElem _⟩
      obtain ⟨y', hyi'⟩ : ∃ y', l[2 * j + 1]? = some y' := ⟨l[2 * j + 1]'(by omega), List.getElem?_eq_getElem _⟩
      have hym := List.mem_of_getElem? hyi
      have hym' := List.mem_of_getElem? hyi'
      have htk : l.take (2 * (j + 1)) = l.take (2 * j) ++ [y, y'] := by
        rw [show 2 * (j + 1) = 2 * j + 1 + 1 by omega, List.take_add_one, hyi', List.take_add_one, hyi]; simp
      have hel : ((l.take (2 * j)).map MV.m).length % 2 = 0 := by rw [List.length_map, List.length_take]; omega
      have hfin : printP ((l.take (2 * (j + 1))).map MV.m) = printP ((l.take (2 * j)).map MV.m) ++ (if (l.take (2 * j)).map MV.m = [] then [] else [44, 32]) ++ printM y.m ++ [58, 32] ++ printM y'.m := by
        rw [htk, List.map_append]
        exact printP_snoc _ _ _ hel
      have hle := printP_mono ((l.drop (2 * (j + 1))).map MV.m) ((l.take (2 * (j + 1))).map MV.m) (by rw [List.length_map, List.length_take]; omega) (by rw [List.length_map, List.length_drop]; omega)
      rw [← List.map_append, List.take_append_drop, hfin] at hle
      have hrow3 : ∀ w4 o, PW w1 g w4 b o → VRow Q' w4 s.p s.n l := fun w4 o hw => hrow.ch hw.ch fun k hk e => e.elim (hQ1 k hk).1 (hQ1 k hk).2
      have hcase : (if (l.take (2 * j)).map MV.m = [] then ([] : Bs) else [44, 32]) = if j = 0 then [] else [44, 32] := by
        by_cases h0 : j = 0
        · subst h0; simp
        · rw [if_neg h0, if_neg]
          intro e
          have := congrArg List.length e
          simp only [List.length_map, List.length_take, List.length_nil] at this
          omega
      rw [hcase] at hle hfin
      simp only [List.length_append, List.length_cons, List.length_nil] at hle
      refine ⟨fun w4 => PW w1 g w4 b (out ++ [123] ++ printP ((l.take (2 * j)).map MV.m) ++ (if j = 0 then [] else [44, 32])), fun w4 h4 => ?_, ?_⟩
      · refine ⟨_, _, _, cellK (bx _ _ h4) 3 rfl, by omega, by show ((2 * j : Nat) : Int) < ((s.n : Nat) : Int); omega, ?_⟩
        obtain ⟨b4, o4, p4, _, a4⟩ := (hrow3 _ _ h4).at hyi
        have p4 : s.p = some ⟨b4, o4, none⟩ := p4
        simp only [p4]
        refine ldR a4 ?_
        rw [vv y]
        refine ih y hym hL1 hb8 hg1 hQ1 h4 (hrow.2.2.2.2 y hym) (hfl y hym) (hszl y hym) (hcl y hym) (by simp only [List.length_append, List.length_cons, List.length_nil]; omega) fun w5 h5 => ⟨rfl, ?_⟩
        refine pWS h5 _ (by show _ + 2 ≤ _; simp only [List.length_append, List.length_cons, List.length_nil]; omega) fun w6 h6 => ⟨_, _, rfl, _, _, _, cellK (bx _ _ h6) 3 rfl, ?_⟩
        rw [wrap_id (n := ((2 * j : Nat) : Int) + 1) (by omega) (by omega)]
        refine ⟨by omega, by show ((2 * j : Nat) : Int) + 1 < ((s.n : Nat) : Int); omega, ?_⟩
        obtain ⟨b6, o6, p6, _, a6⟩ := (hrow3 _ _ h6).at hyi'
        have p6 : s.p = some ⟨b6, o6, none⟩ := p6
        simp only [p6]
        rw [show ((2 * j : Nat) : Int) + 1 = ((2 * j + 1 : Nat) : Int) by omega]
        refine ldR a6 ?_
        rw [vv y']
        refine ih y' hym' hL1 hb8 hg1 hQ1 h6 (hrow.2.2.2.2 y' hym') (hfl y' hym') (hszl y' hym') (hcl y' hym') (by show (_ ++ [58, 32] : Bs).length + _ ≤ _; simp only [List.length_append, List.length_cons, List.length_nil]; omega) fun w7 h7 => ⟨rfl, ?_⟩
        rw [wrap_id (n := ((2 * j : Nat) : Int) + 2) (by omega) (by omega)]
        refine ⟨s.n - 2 * (j + 1), by omega, j + 1, by omega, rfl, by omega, ?_⟩
        rw [hfin]
        have e58 : (ByteArray.mk (Array.mk [(58 : UInt8), 32])).data.toList = [58, 32] := rfl
        rw [e58] at h7
        simpa only [List.append_assoc] using h7
      · refine Sif_cases (fun hp => ?_) (fun hp => ?_)
        · have hj0 : j ≠ 0 := by have := of_decide_eq_true hp; omega
          rw [if_neg hj0]
          rw [if_neg hj0] at hle
          simp only [List.length_cons, List.length_nil] at hle
          exact pWS h3 _ (by show _ + 2 ≤ _; simp only [List.length_append, List.length_cons, List.length_nil]; omega) fun w6 h6 => ⟨_, _, rfl, h6⟩
        · have hj0 : j = 0 := by have := of_decide_eq_false hp; omega
          rw [if_pos hj0, List.append_nil]
          exact h3
    · have hjl : 2 * j = s.n := by have := of_decide_eq_false hge; have : ¬ ((2 * j : Nat) : Int) < ((s.n : Nat) : Int) := this; omega
      rw [List.take_of_length_le (by omega)] at h3
      refine pWB h3 125 (by simp only [List.length_append, List.length_singleton]; omega) fun v w4 h4 => ⟨_, rfl, hk' w4 ?_⟩
      simpa only [List.append_assoc, List.singleton_append, List.cons_append, List.nil_append] using h4
  · have hc6 := of_decide_eq_false hc6
    have hp : printM (.mk k n t e (l.map MV.m)) = nameK k ++ [32] ++ simpleB k n t := by unfold printM; rw [if_neg hc0, if_neg hc1, if_neg hc2, if_neg hc3, if_neg hc6, if_neg hc4, if_neg hc5]
    rw [hp] at hk' hl
    simp only [List.length_append, List.length_cons, List.length_nil] at hl
    obtain ⟨k', rfl⟩ : ∃ k' : Nat, k = (k' : Int) := ⟨k.toNat, by omega⟩
    refine kindName_ok (by omega) fun w3 c3 => ⟨_, rfl, ?_⟩
    have hnl := nameK_len (k' : Int)
    rw [show (ByteArray.mk (Array.mk [(32 : UInt8)])) = ⟨([32] : Bs).toArray⟩ by rfl, str_app, str_size]
    refine ⟨by omega, ?_⟩
    refine pWS (h1.ch0 ((Ch.drew _).trans' c3)) _ (by rw [str_list]; simp only [List.length_append, List.length_cons, List.length_nil]; omega) fun w2 h2 => ⟨_, _, rfl, ?_⟩
    rw [str_list] at h2
    refine ⟨_, cellK (bx _ _ h2) 0 rfl, _, cellK (bx _ _ h2) 1 rfl, _, cellK (bx _ _ h2) 2 rfl, _, _, _, cellK (bx _ _ h2) 3 rfl, _, cellK (bx _ _ h2) 4 rfl, ?_⟩
    refine psimple_ok (x := .mk (k' : Int) n t s e l) hL1 hb8 hg1 h2 hn64 htl (by simp only [List.length_append, List.length_cons, List.length_nil]; exact Nat.le_trans (by show _ + (simpleB (k' : Int) n t).length ≤ _; omega) hl) fun w4 h4 => ⟨rfl, hk' w4 ?_⟩
    rw [List.append_assoc] at h4
    exact h4
theorem newP {w : World} {K : Addr → World → Prop} (hk : ∀ w', BAt w' TPr w.heap.size [] none → Ch (fun _ => False) w w' → w'.heap.size = w.heap.size + 1 → K ⟨w.heap.size, 0, none⟩ w') : newB w [.pointer none, .slice none 0 0] 59 K :=
  hk _ BAt.new (alloc_ch _ _) (by simp)
theorem Print_ok {Q : Nat → Prop} {w : World} {x : MV} (hL : LW w) (hx : VR Q w x) (hf : x.m.fits) (hz : x.m.sz ≤ 2 ^ 37) {K : Value → World → Prop}
    (h1 : ∀ w', Ch (fun _ => False) w w' → x.m.check 1 ≠ 0 → K (.tuple #[.string ⟨#[]⟩, .int .i64 (x.m.check 1 : Int)]) w')
    (h2 : ∀ w', Ch (fun _ => False) w w' → x.m.check 1 = 0 → 1048576 < (printM x.m).length → K (.tuple #[.string ⟨#[]⟩, .int .i64 2]) w')
    (h3 : ∀ w', Ch (fun _ => False) w w' → x.m.check 1 = 0 → (printM x.m).length ≤ 1048576 → K (.tuple #[.string ⟨(printM x.m).toArray⟩, .int .i64 0]) w') :
    callP Tryz.prog 16 [x.v] w K := by
  have hpl := print_len x.m hf
  have hxl := hx.lt x
  obtain ⟨k, n, t, s, e, l⟩ := x
  apply ok_note_Print
  unfold wp_note_Print
  refine boxV (x := .mk k n t s e l) fun w1 b1 a1 c1 z1 => ?_
  refine ldK b1 ?_
  rw [vv]
  refine vCheck_ok hf (by omega) (hL.ch0 c1) (hx.ch0 c1) fun w2 c2 => ⟨_, rfl, ?_⟩
  rw [int_bne]
  have c12 := c1.trans' c2
  refine Sif_cases (fun h => ?_) (fun h => ?_)
  · rw [Bool.not_eq_true'] at h
    have h := of_decide_eq_false h
    exact h1 w2 c12 (by omega)
  · rw [Bool.not_eq_false'] at h
    have h := of_decide_eq_true h
    have hc : (MV.mk k n t s e l).m.check 1 = 0 := by omega
    refine newP fun w3 hB c3 z3 => ?_
    have c13 := c12.trans' c3
    have hz1 := c12.size
    have hz0 := hL.size
    have b13 := ((c2.trans' c3).blk (blk_lt b1) id).trans b1
    refine ldK b13 ?_
    rw [vv]
    have hP : PW w3 none w3 w2.heap.size [] := ⟨⟨none, hB, (fun _ h => by cases h), Ch.refl _ _⟩, hB.lt, (fun _ h => by cases h)⟩
    refine pvalue_ok _ (hL.ch0 c13) (by omega) (fun _ h => by cases h) (fun j hj => ⟨?_, fun h => by cases h⟩) hP (hxl.ch0 c13) hf (by omega) hc (by show 0 + _ ≤ _; omega) fun w4 h4 => ⟨rfl, ?_⟩
    · have := hj.2; omega
    rw [List.nil_append] at h4
    have hc4 := h4.ch
    obtain ⟨⟨g, hB4, hg4, _⟩, _⟩ := h4
    simp only [add_at]
    refine Len_ok hB4 ⟨_, rfl, ?_⟩
    have c14 : Ch (fun _ => False) w w4 := c13.trans hc4 fun y hy e => e.elim (fun e => by omega) (fun e => by cases e)
    refine Sif_cases (fun h => ?_) (fun h => ?_)
    · have h := of_decide_eq_true h
      exact h2 w4 c14 hc (by omega)
    · have h := of_decide_eq_false h
      refine String_ok hB4 (by omega) fun w5 c5 => ⟨_, rfl, h3 w5 (c14.trans c5 fun y hy e => ?_) hc (by omega)⟩
      rcases hg4 y e with e | e
      · cases e
      · have := c13.size; omega
end Go.Proofs.YtnacobknngidkaaGreatDoor
