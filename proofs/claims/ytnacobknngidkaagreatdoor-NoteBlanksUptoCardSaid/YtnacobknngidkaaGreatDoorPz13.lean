/-
  The program's reader: step. The program's reader: fail, refuse, is, closing, want. Numbers of a note in plain Lean: what strconv reads of digits, and what the document says of them. No program in sight. The program's reader: integer. DERIVED: THE SHELF's CONTRACTS AT THIS DUMP, IN PLAIN WORDS (tools/lay-plain.mjs out of 'YtnacobknngidkaaGreatDoorShelf2.lean', which tools/lay-shelf.mjs wrote): THE SAME DECLARATIONS UNDER THE SAME NAMES: 'import', 'namespace', 'open', 'def', 'theorem' AND NOTHING ELSE: no command of the shelf's: FOR A HAND-IN. Each laying: the table of numbers ('.._ren') and one theorem, a field a fact of the dump's own or the kernel's comparison; each contract: ONE APPLICATION. The program's reader: digits; octet.Get. The program's reader: said, begins, elem, number.
-/
import Derived.Test.YtnacobknngidkaaGreatDoorPz12
import Derived.Lib.IndexLaws
import Derived.Lib.ParseIntB
import Derived.Lib.Strings
import Derived.Shelf.Strings.SlTrimAscii
import Derived.Test.YtnacobknngidkaaGreatDoorProg
set_option linter.unusedVariables false
set_option linter.unusedSimpArgs false
namespace Go.Proofs.YtnacobknngidkaaGreatDoor
open Go Go.Sv Go.Note
set_option linter.unusedVariables false
attribute [local irreducible] Sif
def pk (t : Tok) : Nat := if t.kind = 5 then 4 else t.kind
def ptx (t : Tok) : Bs := if t.kind = 5 then [34] else if t.kind = 4 then [] else t.text
def tvl (t : Tok) : Value := .agg #[.int .i64 (pk t : Int), .int .i64 (t.beg : Int), .string ⟨(ptx t).toArray⟩]
def rcl (S : ByteArray) (f : Nat) (t : Tok) : List Value := [.string S, .int .i64 (f : Int), .int .i64 (pk t : Int), .int .i64 (t.beg : Int), .string ⟨(ptx t).toArray⟩]
theorem stR1 {w : World} {k : Nat} {x0 x1 x2 x3 x4 v : Value} {K : World → Prop} (h : blk w k = some [x0, x1, x2, x3, x4]) (hk : ∀ w', blk w' k = some [x0, v, x2, x3, x4] → Ch (· = k) w w' → K w') : Sv.st w ⟨k, 1, none⟩ v K :=
  st_blk h (by simp) fun w' b c _ => hk w' b c
theorem stR2 {w : World} {k : Nat} {x0 x1 x2 x3 x4 v : Value} {K : World → Prop} (h : blk w k = some [x0, x1, x2, x3, x4]) (hk : ∀ w', blk w' k = some [x0, x1, v, x3, x4] → Ch (· = k) w w' → K w') : Sv.st w ⟨k, 2, none⟩ v K :=
  st_blk h (by simp) fun w' b c _ => hk w' b c
theorem stR4 {w : World} {k : Nat} {x0 x1 x2 x3 x4 v : Value} {K : World → Prop} (h : blk w k = some [x0, x1, x2, x3, x4]) (hk : ∀ w', blk w' k = some [x0, x1, x2, x3, v] → Ch (· = k) w w' → K w') : Sv.st w ⟨k, 4, none⟩ v K :=
  st_blk h (by simp) fun w' b c _ => hk w' b c
theorem stR234 {w : World} {k : Nat} {x0 x1 x2 x3 x4 v2 v3 v4 : Value} {K : World → Prop} (h : blk w k = some [x0, x1, x2, x3, x4]) (hk : ∀ w', blk w' k = some [x0, x1, v2, v3, v4] → Ch (· = k) w w' → K w') :
    Sv.st w ⟨k, 2, none⟩ v2 fun w1 => Sv.st w1 ⟨k, 3, none⟩ v3 fun w2 => Sv.st w2 ⟨k, 4, none⟩ v4 fun w3 => K w3 :=
  st_all [v2, v3, v4] 2 (K := K) h (by simp) fun w' b c _ => hk w' b c
theorem cellK {w : World} {k : Nat} {cs : List Value} (h : blk w k = some cs) (i : Nat) {v : Value} (hv : cs[i]? = some v) : w.cell? ⟨k, i, none⟩ = some v := by rw [cell_blk h, hv]
theorem skipN_cons (c : Bool) (x : UInt8) (l : Bs) : skipN c (x :: l) = if c = false ∧ blankC x = false ∧ x ≠ 35 then 0 else 1 + skipN (if x = 10 then false else if x = 35 then true else c) l := rfl
theorem skip_com (l : Bs) : skipN false (35 :: l) = 1 + skipN true l := by
  rw [skipN_cons]
  rw [if_neg (by simp)]
  rfl
theorem skipT_none : ∀ (l : Bs), (∀ k : Nat, l[k]? ≠ some 10) → skipN true l = l.length
  | [], _ => rfl
  | x :: l, h => by
    have hx : x ≠ 10 := fun e => h 0 (by rw [e]; rfl)
    rw [skipN_cons]
    rw [if_neg (by simp), if_neg hx]
    have : (if x = 35 then true else true) = true := by split <;> rfl
    rw [this, skipT_none l fun k => by have := h (k + 1); simpa using this]
    simp; omega
theorem skipT_some : ∀ (l : Bs) (o : Nat), l[o]? = some 10 → (∀ k : Nat, k < o → l[k]? ≠ some 10) → skipN true l = o + 1 + skipN false (l.drop (o + 1))
  | [], o, h, _ => by simp at h
  | x :: l, 0, h, _ => by
    simp only [List.getElem?_cons_zero, Option.some.injEq] at h
    rw [skipN_cons]
    rw [if_neg (by simp), if_pos h]
    simp
  | x :: l, o + 1, h, hn => by
    have hx : x ≠ 10 := fun e => hn 0 (by omega) (by rw [e]; rfl)
    rw [skipN_cons]
    rw [if_neg (by simp), if_neg hx]
    have : (if x = 35 then true else true) = true := by split <;> rfl
    simp only [List.getElem?_cons_succ] at h
    rw [this, skipT_some l o h fun k hk => by have := hn (k + 1) (by omega); simpa using this]
    simp; omega
theorem sign_index (x : UInt8) : decide (Lib.indexByte (ByteArray.mk (Array.mk [(91 : UInt8), 93, 123, 125, 40, 41, 58, 44])).data.toList ((x.toNat : Int)).toNat.toUInt8 ≥ 0) = signC x := by
  have key : ∀ x : Fin 256, decide (Lib.indexByte (ByteArray.mk (Array.mk [(91 : UInt8), 93, 123, 125, 40, 41, 58, 44])).data.toList ((x.val : Int)).toNat.toUInt8 ≥ 0) = signC (UInt8.ofNat x.val) := by decide +kernel
  have := key ⟨x.toNat, x.toNat_lt⟩
  simp only [UInt8.ofNat_toNat] at this
  exact this
theorem nameN_cons (x : UInt8) (l : Bs) : nameN (x :: l) = if letterC x then 1 + nameN l else 0 := rfl
theorem nameN_drop {l : Bs} {n : Nat} {x : UInt8} (h : ∀ k, k < n → ∀ y, l[k]? = some y → letterC y = true) (hn : n ≤ l.length) : nameN l = n + nameN (l.drop n) := by
  induction n generalizing l with
  | zero => simp
  | succ n ih =>
    cases l with
    | nil => simp at hn
    | cons y l =>
      simp only [List.length_cons] at hn
      rw [nameN_cons, if_pos (h 0 (by omega) y rfl), ih (l := l) (fun k hk z hz => h (k + 1) (by omega) z (by simpa using hz)) (by omega)]
      simp; omega
theorem next_at {s : Bs} {f : Nat} {x : UInt8} {l : Bs} (h : s.drop (f + skipN false (s.drop f)) = x :: l) : next s f =
    if x = 34 then (match wordB (x :: l) with
      | none => ⟨5, f + skipN false (s.drop f), f + skipN false (s.drop f) + 1, []⟩
      | some p => ⟨2, f + skipN false (s.drop f), f + skipN false (s.drop f) + p.2, p.1⟩)
    else if signC x then ⟨3, f + skipN false (s.drop f), f + skipN false (s.drop f) + 1, [x]⟩
    else if letterC x then ⟨1, f + skipN false (s.drop f), f + skipN false (s.drop f) + nameN (x :: l), (x :: l).take (nameN (x :: l))⟩
    else ⟨4, f + skipN false (s.drop f), f + skipN false (s.drop f) + 1, [x]⟩ := by
  unfold next
  simp only
  rw [h]
  rfl
theorem next_nil {s : Bs} {f : Nat} (h : s.drop (f + skipN false (s.drop f)) = []) : next s f = ⟨0, s.length, s.length, []⟩ := by
  unfold next
  simp only
  rw [h]
theorem step_ok {S : ByteArray} (hs : S.size ≤ 2 ^ 40) {rb f : Nat} {t : Tok} {w : World} {K : Value → World → Prop} (hr : blk w rb = some (rcl S f t)) (hf : f ≤ S.size) (hU : UT w) (h2 : 2 ≤ rb)
    (hk : ∀ w', blk w' rb = some (rcl S (next S.data.toList f).fin (next S.data.toList f)) → Ch (· = rb) w w' → K (tvl t) w') : callP Tryz.prog 41 [.pointer (some ⟨rb, 0, none⟩)] w K := by
  apply ok_note_reader_step
  unfold wp_note_reader_step
  have hlen : S.data.toList.length = S.size := by rw [Array.length_toList]; rfl
  obtain ⟨s, hsd⟩ : ∃ s, s = S.data.toList := ⟨_, rfl⟩
  rw [← hsd] at hk hlen
  have hrl := blk_lt hr
  unfold rcl at hr
  refine newB_blk fun w1 b1 c1 z1 => ?_
  have r1 := (c1.blk hrl id).trans hr
  simp only [nn, add_at, Nat.zero_add]
  refine ⟨_, cellK r1 2 rfl, _, cellK r1 3 rfl, _, cellK r1 4 rfl, ?_⟩
  refine box3 fun w5 b5 c5 z5 => ?_
  have r5 := (c5.blk (by omega) id).trans r1
  have c15 := c1.trans' c5
  simp only [add_at, Nat.zero_add]
  -- the result's two boxes stay
  have old : ∀ w6, Ch (· = rb) w5 w6 → blk w6 w.heap.size = some [.int .i64 0, .int .i64 0, .string ⟨#[]⟩] ∧ blk w6 w1.heap.size = some [.int .i64 (pk t : Int), .int .i64 (t.beg : Int), .string ⟨(ptx t).toArray⟩] := fun w6 c6 => by
    refine ⟨?_, ?_⟩
    · rw [c6.blk (by have := c5.size; omega) (by omega), c5.blk (by omega) id]; exact b1
    · rw [c6.blk (by omega) (by omega)]; exact b5
  have UT' : ∀ w6, Ch (· = rb) w5 w6 → UT w6 := fun w6 c6 => (hU.ch (by omega) c15 (fun h => h) fun h => h).ch (by have := c15.size; omega) c6 (by omega) (by omega)
  obtain ⟨A, hA⟩ : ∃ A, A = f + skipN false (s.drop f) := ⟨_, rfl⟩
  have hAle : A ≤ S.size := by
    have := skipN_le false (s.drop f)
    rw [List.length_drop] at this; omega
  refine ⟨fun w6 => blk w6 rb = some (rcl S A t) ∧ Ch (· = rb) w5 w6, ?_, fun m w6 => ∃ q, blk w6 rb = some (rcl S q t) ∧ Ch (· = rb) w5 w6 ∧ f ≤ q ∧ q ≤ S.size ∧ m = S.size - q ∧ A = q + skipN false (s.drop q), ⟨S.size - f, f, r5, Ch.refl _ _, Nat.le_refl _, hf, rfl, hA⟩, ?_⟩
  · -- behind the blanks
    rintro w6 ⟨r6, c6⟩
    unfold rcl at r6
    refine ⟨_, cellK r6 1 rfl, ?_⟩
    refine stR234 r6 fun w9 r9 c9 => ?_
    have c59 := c6.trans' c9
    refine ⟨_, by rw [World.cell?_drew]; exact cellK r9 1 rfl, _, by rw [World.cell?_drew]; exact cellK r9 0 rfl, ?_⟩
    -- the end: was is answered
    have fin : ∀ w10 cs, blk w10 rb = some cs → cs = rcl S (next s f).fin (next s f) → Ch (· = rb) w5 w10 → ∃ n, w10.cell? ⟨w1.heap.size, 0, none⟩ = some (.int .i64 n) ∧ ∃ n1, w10.cell? ⟨w1.heap.size, 1, none⟩ = some (.int .i64 n1) ∧ ∃ s2, w10.cell? ⟨w1.heap.size, 2, none⟩ = some (.string s2) ∧
        Sv.st w10 ⟨w.heap.size, 0, none⟩ (.int .i64 n) fun w11 => Sv.st w11 ⟨w.heap.size, 1, none⟩ (.int .i64 n1) fun w12 => Sv.st w12 ⟨w.heap.size, 2, none⟩ (.string s2) fun w13 =>
          ∃ n6, w13.cell? ⟨w.heap.size, 0, none⟩ = some (.int .i64 n6) ∧ ∃ n7, w13.cell? ⟨w.heap.size, 1, none⟩ = some (.int .i64 n7) ∧ ∃ s3, w13.cell? ⟨w.heap.size, 2, none⟩ = some (.string s3) ∧ K (.agg (Array.mk [.int .i64 n6, .int .i64 n7, .string s3])) w13 := by
      intro w10 cs r10 hcs c10
      obtain ⟨o1, o2⟩ := old w10 c10
      refine ⟨_, cellK o2 0 rfl, _, cellK o2 1 rfl, _, cellK o2 2 rfl, ?_⟩
      refine re3 o1 fun w13 b13 c13 z13 => ?_
      refine ⟨_, cellK b13 0 rfl, _, cellK b13 1 rfl, _, cellK b13 2 rfl, ?_⟩
      refine hk w13 ?_ ?_
      · rw [c13.blk (blk_lt r10) (by omega), r10, hcs]
      · exact ((c15.mono (S' := (· = rb)) fun _ _ h => h.elim).trans' c10).trans c13 fun x hx h => by omega
    refine Sif_cases (fun h => ?_) (fun h => ?_)
    · -- the text's end
      have hAs : A = S.size := by have := of_decide_eq_true (by simpa using h : decide ((A : Int) = S.size) = true); omega
      have hn : next s f = ⟨0, s.length, s.length, []⟩ := next_nil (by rw [← hA]; exact List.drop_of_length_le (by omega))
      exact fin _ _ r9 (by rw [hn, hlen, hAs]; rfl) (c59.trans' (Ch.drew _))
    · have hAlt : A < S.size := by
        have : ¬ ((A : Int) = S.size) := by simpa using h
        omega
      refine ⟨_, by rw [World.cell?_drew, World.cell?_drew]; exact cellK r9 0 rfl, _, by rw [World.cell?_drew, World.cell?_drew]; exact cellK r9 1 rfl, by omega, by omega, ?_⟩
      rw [Int.toNat_natCast]
      obtain ⟨x, l, hxl⟩ : ∃ x l, s.drop A = x :: l := by
        cases hd : s.drop A with
        | nil => have := congrArg List.length hd; rw [List.length_drop] at this; simp at this; omega
        | cons x l => exact ⟨x, l, rfl⟩
      have hR : (S.extract A S.size).data.toList = x :: l := by rw [extract_data, ← hsd, hxl, List.take_of_length_le (by rw [← hxl, List.length_drop, hlen]; omega)]
      have hRs : (S.extract A S.size).size = l.length + 1 := by rw [size_of hR]; rfl
      have hRle : (S.extract A S.size).size ≤ S.size := by
        have hl2 := congrArg List.length hxl
        rw [List.length_drop] at hl2
        simp only [List.length_cons] at hl2
        omega
      have hx0 : byteAt (S.extract A S.size) 0 = (x.toNat : Int) := byteAt_get (by rw [hR]; rfl)
      have hT := next_at (s := s) (f := f) (x := x) (l := l) (by rw [← hA]; exact hxl)
      rw [← hA] at hT
      generalize S.extract A S.size = R at hR hRs hRle hx0 ⊢
      have r9' : ∀ w, Ch (fun _ => False) w9 w → blk w rb = some [.string S, .int .i64 (A : Int), .int .i64 0, .int .i64 (A : Int), .string ⟨#[]⟩] := fun w c => (c.blk (blk_lt r9) id).trans r9
      have cz : ∀ {w}, Ch (fun _ => False) w9 w → Ch (· = rb) w5 w := fun c => c59.trans' (c.mono fun _ _ h => h.elim)
      -- the place behind the token
      refine ⟨fun n w10 => blk w10 rb = some [.string S, .int .i64 (A : Int), .int .i64 (pk (next s f) : Int), .int .i64 ((next s f).beg : Int), .string ⟨(ptx (next s f)).toArray⟩] ∧ n = ((next s f).fin : Int) - (A : Int) ∧ (next s f).fin ≤ S.size ∧ Ch (· = rb) w5 w10, ?_, by omega, by omega, ?_⟩
      · rintro n w10 ⟨r10, rfl, hle, c10⟩
        refine ⟨_, cellK r10 1 rfl, ?_⟩
        rw [show (A : Int) + (((next s f).fin : Int) - (A : Int)) = ((next s f).fin : Int) by omega, wrap_id (by omega) (by omega)]
        refine stR1 r10 fun w11 r11 c11 => ?_
        exact fin w11 _ r11 rfl (c10.trans' c11)
      · rw [hx0]
        simp only [nameI]
        have x34 : ((x.toNat : Int) == 34) = decide (x = 34) := byte_eq x 34 (by omega)
        rw [x34]
        refine Sif_cases (fun h34 => ?_) (fun h34 => ?_)
        · -- a word
          have h34 := of_decide_eq_true h34
          rw [if_pos h34] at hT
          refine word_ok (by omega) hR h34 (UT' _ (cz (Ch.drew _) |>.trans' (Ch.drew _))) (by
            have := c59.size; have := c15.size
            show 2 ≤ w9.heap.size
            omega) fun v w10 c10 hv => ?_
          rw [hR] at hv
          have c10' : Ch (fun _ => False) w9 w10 := (Ch.drew w9).trans' ((Ch.drew _).trans' c10)
          have r10 := r9' w10 c10'
          cases hw : wordB (x :: l) with
          | none =>
            rw [hw] at hv hT
            simp only at hT
            refine ⟨_, _, hv, Sif_cases (fun _ => ?_) (fun h => absurd h (by decide))⟩
            refine stR2 r10 fun w11 r11 c11 => stR4 r11 fun w12 r12 c12 => ⟨?_, by rw [hT]; show _ = (((A + 1 : Nat) : Int)) - _; omega, by rw [hT]; show A + 1 ≤ _; omega, ((cz c10').trans' c11).trans' c12⟩
            rw [r12, hT]; rfl
          | some p =>
            rw [hw] at hv hT
            simp only at hT
            have hp := wordB_pos (y := p.1) (n := p.2) hw
            simp only [List.length_cons] at hp
            refine ⟨_, _, hv, Sif_cases (fun h => ?_) (fun _ => ?_)⟩
            · have := of_decide_eq_true (by simpa using h : decide (p.2 = 0) = true); omega
            · have hl2 := congrArg List.length hxl
              rw [List.length_drop] at hl2
              simp only [List.length_cons] at hl2
              refine stR2 r10 fun w11 r11 c11 => stR4 r11 fun w12 r12 c12 => ⟨?_, by rw [hT]; show _ = (((A + p.2 : Nat) : Int)) - _; omega, by rw [hT]; show A + p.2 ≤ _; omega, ((cz c10').trans' c11).trans' c12⟩
              rw [r12, hT]; rfl
        · have h34 := of_decide_eq_false h34
          rw [if_neg h34] at hT
          refine (Tryz.strings_IndexByte _ _ _).mono ?_
          rintro e w10 ⟨rfl, rfl⟩
          refine ⟨_, rfl, _, rfl, ?_⟩
          rw [sign_index]
          have c10' : Ch (fun _ => False) w9 w9.drew.drew := (Ch.drew w9).trans' (Ch.drew _)
          refine Sif_cases (fun hsg => ?_) (fun hsg => ?_)
          · rw [if_pos hsg] at hT
            refine ⟨by omega, by omega, ?_⟩
            have c11' := c10'.trans' (Ch.drew _)
            have r11 := r9' _ c11'
            have hE : R.extract 0 1 = ⟨#[x]⟩ := data_ext (by rw [extract_data, hR]; rfl)
            refine stR2 r11 fun w11 r11 c11 => stR4 r11 fun w12 r12 c12 => ⟨?_, by rw [hT]; show _ = (((A + 1 : Nat) : Int)) - _; omega, by rw [hT]; show A + 1 ≤ _; omega, ((cz c11').trans' c11).trans' c12⟩
            rw [r12, hT, hE]; rfl
          · rw [if_neg (by rw [hsg]; decide)] at hT
            refine letters_ok ⟨_, rfl, ?_⟩
            have r10 := r9' _ c10'
            refine Sif_cases (fun hlt => ?_) (fun hlt => ?_)
            · rw [if_pos hlt] at hT
              have hnl := nameN_le (x :: l)
              simp only [List.length_cons] at hnl
              have hl2 := congrArg List.length hxl
              rw [List.length_drop] at hl2
              simp only [List.length_cons] at hl2
              have done : ∀ w', Ch (fun _ => False) w9 w' → ∀ n : Nat, n = nameN (x :: l) → Sv.st w' ⟨rb, 2, none⟩ (.int .i64 1) fun w13 => Sv.st w13 ⟨rb, 4, none⟩ (.string (R.extract 0 n)) fun w14 => blk w14 rb = some [.string S, .int .i64 (A : Int), .int .i64 (pk (next s f) : Int), .int .i64 ((next s f).beg : Int), .string ⟨(ptx (next s f)).toArray⟩] ∧ (n : Int) = ((next s f).fin : Int) - (A : Int) ∧ (next s f).fin ≤ S.size ∧ Ch (· = rb) w5 w14 := by
                rintro w' c' n rfl
                refine stR2 (r9' w' c') fun w11 r11 c11 => stR4 r11 fun w12 r12 c12 => ⟨?_, by rw [hT]; show _ = (((A + nameN (x :: l) : Nat) : Int)) - _; omega, by rw [hT]; show A + nameN (x :: l) ≤ _; omega, ((cz c').trans' c11).trans' c12⟩
                have hE : R.extract 0 (nameN (x :: l)) = ⟨((x :: l).take (nameN (x :: l))).toArray⟩ := data_ext (by rw [extract_data, hR]; simp)
                rw [r12, hT, hE]; rfl
              refine ⟨fun m n w11 => ∃ k : Nat, n = (k : Int) ∧ 1 ≤ k ∧ k ≤ R.size ∧ m = R.size - k ∧ w11 = w9.drew.drew ∧ ∀ i, i < k → ∀ y, (x :: l)[i]? = some y → letterC y = true, ⟨R.size - 1, 1, rfl, by omega, by omega, rfl, rfl, fun i hi y hy => ?_⟩, ?_⟩
              · have : i = 0 := by omega
                subst this
                simp at hy
                rw [← hy]; exact hlt
              rintro m n w11 ⟨k, rfl, hk1, hk2, rfl, rfl, hall⟩
              have hnd := nameN_drop (l := x :: l) (n := k) (x := x) hall (by simp only [List.length_cons]; omega)
              refine ⟨fun w12 => w12 = w9.drew.drew ∧ k < R.size ∧ ∃ y, (x :: l)[k]? = some y ∧ letterC y = true, ?_, ?_⟩
              · rintro w12 ⟨rfl, hkl, y, hy, hly⟩
                rw [wrap_id (n := (k : Int) + 1) (by omega) (by omega)]
                refine ⟨R.size - (k + 1), by omega, k + 1, by omega, by omega, by omega, rfl, rfl, fun i hi z hz => ?_⟩
                by_cases e : i = k
                · subst e
                  rw [hy] at hz; cases hz; exact hly
                · exact hall i (by omega) z hz
              · refine Sif_cases (fun h => ?_) (fun h => ?_)
                · have h := of_decide_eq_true h
                  have hkl : k < R.size := by omega
                  obtain ⟨y, hy⟩ : ∃ y, (x :: l)[k]? = some y := ⟨(x :: l)[k]'(by simp only [List.length_cons]; omega), List.getElem?_eq_getElem _⟩
                  refine ⟨by omega, by omega, ?_⟩
                  rw [Int.toNat_natCast, byteAt_get (by rw [hR]; exact hy)]
                  refine letters_ok ⟨_, rfl, ?_⟩
                  refine Sif_cases (fun hly => ⟨by trivial, hkl, y, hy, hly⟩) (fun hly => ?_)
                  refine ⟨by omega, by omega, ?_⟩
                  have hz : nameN ((x :: l).drop k) = 0 := by
                    have hd : (x :: l).drop k = y :: (x :: l).drop (k + 1) := by
                      rw [List.drop_eq_getElem_cons (by simp only [List.length_cons]; omega)]
                      congr 1
                      rw [List.getElem?_eq_getElem (by simp only [List.length_cons]; omega)] at hy
                      exact Option.some.inj hy
                    rw [hd, nameN_cons, if_neg (by rw [hly]; decide)]
                  exact done _ (c10'.trans' (Ch.drew _)) k (by omega)
                · have h := of_decide_eq_false h
                  refine ⟨by omega, by omega, ?_⟩
                  rw [Int.toNat_natCast]
                  have hz : nameN ((x :: l).drop k) = 0 := by
                    rw [List.drop_of_length_le (by simp only [List.length_cons]; omega)]; rfl
                  exact done _ (c10'.trans' (Ch.drew _)) k (by omega)
            · rw [if_neg (by rw [hlt]; decide)] at hT
              refine stR2 r10 fun w11 r11 c11 => ⟨?_, by rw [hT]; show _ = (((A + 1 : Nat) : Int)) - _; omega, by rw [hT]; show A + 1 ≤ _; omega, (cz c10').trans' c11⟩
              rw [r11, hT]; rfl
  · -- the blanks
    rintro m w6 ⟨q, r6, c6, hfq, hq, rfl, hAq⟩
    unfold rcl at r6
    refine ⟨_, by rw [World.cell?_drew]; exact cellK r6 1 rfl, _, by rw [World.cell?_drew]; exact cellK r6 0 rfl, ?_⟩
    refine Sif_cases (fun h => ?_) (fun h => ?_)
    · have hql : q < S.size := by have := of_decide_eq_true h; omega
      obtain ⟨x, hx⟩ := get_lt S hql
      have hd : s.drop q = x :: s.drop (q + 1) := by
        rw [← hsd] at hx
        rw [List.drop_eq_getElem_cons (by omega)]
        congr 1
        rw [List.getElem?_eq_getElem (by omega)] at hx
        exact Option.some.inj hx
      have hb := byteAt_get hx
      have r6' : ∀ w, Ch (fun _ => False) w6 w → blk w rb = some (rcl S q t) := fun w c => (c.blk (blk_lt r6) id).trans r6
      refine ⟨fun w7 => ∃ q', blk w7 rb = some (rcl S q' t) ∧ Ch (· = rb) w5 w7 ∧ q ≤ q' ∧ q' < S.size ∧ A = q' + 1 + skipN false (s.drop (q' + 1)), ?_, ?_⟩
      · rintro w7 ⟨q', r7, c7, hqq, hq'l, hA'⟩
        unfold rcl at r7
        refine ⟨_, cellK r7 1 rfl, ?_⟩
        rw [wrap_id (n := (q' : Int) + 1) (by omega) (by omega)]
        refine stR1 r7 fun w8 r8 c8 => ?_
        exact ⟨S.size - (q' + 1), by omega, q' + 1, r8, c7.trans' c8, by omega, by omega, rfl, hA'⟩
      · refine ⟨_, by rw [World.cell?_drew, World.cell?_drew]; exact cellK r6 0 rfl, _, by rw [World.cell?_drew, World.cell?_drew]; exact cellK r6 1 rfl, by omega, by omega, ?_⟩
        rw [Int.toNat_natCast, hb]
        have x32 : ((x.toNat : Int) == 32) = decide (x = 32) := byte_eq x 32 (by omega)
        have x9 : ((x.toNat : Int) == 9) = decide (x = 9) := byte_eq x 9 (by omega)
        have x10 : ((x.toNat : Int) == 10) = decide (x = 10) := byte_eq x 10 (by omega)
        have x13 : ((x.toNat : Int) == 13) = decide (x = 13) := byte_eq x 13 (by omega)
        have x35 : ((x.toNat : Int) == 35) = decide (x = 35) := byte_eq x 35 (by omega)
        rw [x32, x9, x10, x13, x35]
        refine ⟨fun b w7 => w7 = w6.drew.drew ∧ b = blankC x, ?_, ?_⟩
        · rintro b w7 ⟨rfl, rfl⟩
          have cd : Ch (fun _ => False) w6 w6.drew.drew := (Ch.drew w6).trans' (Ch.drew _)
          refine Sif_cases (fun hbl => ?_) (fun hbl => ?_)
          · have h35 : x ≠ 35 := by rintro rfl; exact absurd hbl (by decide)
            refine ⟨q, r6' _ cd, c6.trans' (cd.mono fun _ _ h => h.elim), Nat.le_refl _, hql, ?_⟩
            rw [hAq, hd, skip_blank hbl h35]; omega
          · refine Sif_cases (fun h35 => ?_) (fun h35 => ?_)
            · have h35 := of_decide_eq_true h35
              refine ⟨_, by rw [World.cell?_drew, World.cell?_drew, World.cell?_drew]; exact cellK r6 0 rfl, _, by rw [World.cell?_drew, World.cell?_drew, World.cell?_drew]; exact cellK r6 1 rfl, by omega, by omega, ?_⟩
              rw [Int.toNat_natCast]
              have hE : (S.extract q S.size).data.toList = x :: s.drop (q + 1) := by rw [extract_data, ← hsd, hd, List.take_of_length_le (by rw [← hd, List.length_drop, hlen]; omega)]
              refine (Tryz.strings_IndexByte _ _ _).mono ?_
              rintro e w8 ⟨rfl, rfl⟩
              refine ⟨_, rfl, _, rfl, ?_⟩
              rw [hE, h35]
              have e10 : ((10 : Int)).toNat.toUInt8 = 10 := rfl
              rw [e10]
              have cd2 := cd.trans' (Ch.drew _)
              have r8 := r6' _ cd2
              unfold rcl at r8
              have hAq2 : A = q + 1 + skipN true (s.drop (q + 1)) := by rw [hAq, hd, h35, skip_com]; omega
              have hge := Lib.indexByte_ge (35 :: s.drop (q + 1)) 10
              refine Sif_cases (fun hneg => ?_) (fun hpos => ?_)
              · have hneg := of_decide_eq_true hneg
                have hno := Lib.indexByte_none (l := 35 :: s.drop (q + 1)) (c := 10) (by omega)
                refine ⟨_, cellK r8 0 rfl, stR1 r8 fun w9 r9 c9 => ?_⟩
                have : A = S.size := by
                  rw [hAq2, skipT_none _ fun k => by have := hno (k + 1); simpa using this, List.length_drop]; omega
                rw [this]
                exact ⟨r9, (c6.trans' (cd2.mono fun _ _ h => h.elim)).trans' c9⟩
              · have hpos := of_decide_eq_false hpos
                obtain ⟨o, ho⟩ : ∃ o : Nat, Lib.indexByte (35 :: s.drop (q + 1)) 10 = (o : Int) := ⟨(Lib.indexByte (35 :: s.drop (q + 1)) 10).toNat, by omega⟩
                obtain ⟨g1, g2⟩ := Lib.indexByte_some ho
                rw [ho]
                cases o with
                | zero => exact absurd g1 (by simp)
                | succ o =>
                  have g1' : (s.drop (q + 1))[o]? = some 10 := by simpa using g1
                  have hlt := (List.getElem?_eq_some_iff.1 g1').1
                  rw [List.length_drop] at hlt
                  refine ⟨_, cellK r8 1 rfl, ?_⟩
                  rw [wrap_id (by omega) (by omega), show (q : Int) + ((o + 1 : Nat) : Int) = ((q + (o + 1) : Nat) : Int) by omega]
                  refine stR1 r8 fun w9 r9 c9 => ⟨q + (o + 1), r9, (c6.trans' (cd2.mono fun _ _ h => h.elim)).trans' c9, by omega, by omega, ?_⟩
                  rw [hAq2, skipT_some _ o g1' fun k hk => by have := g2 (k + 1) (by omega); simpa using this, List.drop_drop]
                  rw [show q + 1 + (o + 1) = q + (o + 1) + 1 by omega]; omega
            · have h35 := of_decide_eq_false h35
              refine ⟨?_, c6.trans' (cd.mono fun _ _ h => h.elim)⟩
              have : A = q := by
                rw [hAq, hd]
                have : skipN false (x :: s.drop (q + 1)) = 0 := by
                  unfold skipN
                  rw [if_pos ⟨rfl, hbl, h35⟩]
                omega
              rw [this]; exact r6' _ cd
        · have fb : ∀ b : Bool, b = blankC x → (w6.drew.drew = w6.drew.drew ∧ b = blankC x) := fun b hb => ⟨rfl, hb⟩
          refine Sif_cases (fun h1 => ⟨by trivial, ?_⟩) (fun h1 => ?_)
          · unfold blankC; rw [h1]; rfl
          refine Sif_cases (fun h2 => ⟨by trivial, ?_⟩) (fun h2 => ?_)
          · unfold blankC; rw [h1, h2]; rfl
          refine Sif_cases (fun h3 => ⟨by trivial, ?_⟩) (fun h3 => ⟨by trivial, ?_⟩)
          · unfold blankC; rw [h1, h2, h3]; rfl
          · unfold blankC; rw [h1, h2, h3]; rfl
    · have hql : q = S.size := by have := of_decide_eq_false h; omega
      have : A = q := by rw [hAq, List.drop_of_length_le (by omega)]; simp [skipN]
      refine ⟨?_, c6.trans' (Ch.drew _)⟩
      rw [this]; exact r6
end Go.Proofs.YtnacobknngidkaaGreatDoor
namespace Go.Proofs.YtnacobknngidkaaGreatDoor
open Go Go.Sv Go.Note
set_option linter.unusedVariables false
attribute [local irreducible] Sif
def flt (a e : Nat) : List PanicEntry := [PanicEntry.mk (.iface 65 (.agg (Array.mk [.int .i64 (a : Int), .int .i64 (e : Int)]))) false false]
def RS (S : ByteArray) (rb p : Nat) (w : World) : Prop := blk w rb = some (rcl S (next S.data.toList p).fin (next S.data.toList p)) ∧ p ≤ S.size
theorem RS.ch {S : ByteArray} {rb p : Nat} {w w' : World} (h : RS S rb p w) {Q : Nat → Prop} (c : Ch Q w w') (hn : ¬ Q rb) : RS S rb p w' := ⟨by rw [c.blk (blk_lt h.1) hn]; exact h.1, h.2⟩
theorem RS.lt {S : ByteArray} {rb p : Nat} {w : World} (h : RS S rb p w) : rb < w.heap.size := blk_lt h.1
theorem sl (S : ByteArray) : S.data.toList.length = S.size := by rw [Array.length_toList]; rfl
theorem fail_ok {a e : Nat} {w : World} {K : Value → World → Prop} {KP : List PanicEntry → World → Prop} (hp : KP (flt a e) w) : callX Tryz.prog 78 [.int .i64 (a : Int), .int .i64 (e : Int)] w K KP := by
  apply ok_note_fail
  unfold wp_note_fail
  exact hp
theorem refuse_ok {S : ByteArray} {rb p e : Nat} {w : World} (hr : RS S rb p w) {K : Value → World → Prop} {KP : List PanicEntry → World → Prop} (hp : KP (flt (next S.data.toList p).beg (if (next S.data.toList p).kind = 5 then 42 else e)) w) :
    callX Tryz.prog 43 [.pointer (some ⟨rb, 0, none⟩), .int .i64 (e : Int)] w K KP := by
  apply ok_note_reader_refuse
  unfold wp_note_reader_refuse
  obtain ⟨hr, _⟩ := hr
  unfold rcl at hr
  generalize next S.data.toList p = t at hr hp
  refine ⟨fun n w1 => w1 = w ∧ n = ((if t.kind = 5 then 42 else e : Nat) : Int), ?_, ?_⟩
  · rintro n w1 ⟨rfl, rfl⟩
    simp only [nn, add_at, Nat.zero_add]
    exact ⟨_, cellK hr 3 rfl, fail_ok hp⟩
  · simp only [nn, add_at, Nat.zero_add]
    refine ⟨_, cellK hr 2 rfl, ?_⟩
    refine Sif_cases (fun h => ?_) (fun h => ?_)
    · have hk : pk t = 4 := by have := eq_of_beq h; omega
      refine ⟨_, cellK hr 4 rfl, ?_⟩
      rw [show (ByteArray.mk (Array.mk ([] : List UInt8))) = ⟨([] : Bs).toArray⟩ by rfl, bs_eq]
      refine Sif_cases (fun h2 => ⟨by trivial, ?_⟩) (fun h2 => ⟨by trivial, ?_⟩)
      · by_cases h5 : t.kind = 5
        · rw [if_pos h5]; rfl
        · have h4 : t.kind = 4 := by unfold pk at hk; rw [if_neg h5] at hk; exact hk
          simp [ptx, h4] at h2
      · by_cases h5 : t.kind = 5
        · simp [ptx, h5] at h2
        · rw [if_neg h5]
    · refine ⟨by trivial, ?_⟩
      have hk : pk t ≠ 4 := fun e => by rw [e] at h; exact absurd h (by decide)
      rw [if_neg]
      intro h5
      exact hk (by unfold pk; rw [if_pos h5])
theorem is_ok {S : ByteArray} {rb p : Nat} {c : UInt8} {w : World} (hr : RS S rb p w) {K : Value → World → Prop} (hk : K (.bool ((next S.data.toList p).is c)) w) :
    callP Tryz.prog 115 [.pointer (some ⟨rb, 0, none⟩), .string ⟨#[c]⟩] w K := by
  apply ok_note_reader_is
  unfold wp_note_reader_is
  obtain ⟨hr, _⟩ := hr
  unfold rcl at hr
  generalize next S.data.toList p = t at hr hk
  simp only [nn, add_at, Nat.zero_add]
  refine ⟨_, cellK hr 2 rfl, ?_⟩
  refine Sif_cases (fun h => ?_) (fun h => ?_)
  · have hk3 : pk t = 3 := by have := eq_of_beq h; omega
    have h3 : t.kind = 3 := by
      unfold pk at hk3
      split at hk3
      · omega
      · exact hk3
    refine ⟨_, cellK hr 4 rfl, ?_⟩
    rw [show (ByteArray.mk #[c]) = ⟨([c] : Bs).toArray⟩ by rfl, bs_eq]
    have : ptx t = t.text := by unfold ptx; rw [if_neg (by omega), if_neg (by omega)]
    rw [this]
    have e : t.is c = decide (t.text = [c]) := by unfold Tok.is; rw [decide_eq_true h3, Bool.true_and]
    rw [← e]; exact hk
  · have : t.is c = false := by
      unfold Tok.is
      rw [decide_eq_false, Bool.false_and]
      intro h3
      rw [show pk t = 3 by unfold pk; rw [if_neg (by omega)]; exact h3] at h
      exact absurd h (by decide)
    rw [this] at hk; exact hk
theorem closing_ok {S : ByteArray} {rb p : Nat} {w : World} (hr : RS S rb p w) {K : Value → World → Prop} (hk : K (.bool (decide ((next S.data.toList p).kind = 0) || closes (next S.data.toList p))) w) :
    callP Tryz.prog 71 [.pointer (some ⟨rb, 0, none⟩)] w K := by
  apply ok_note_reader_closing
  unfold wp_note_reader_closing
  have hr0 := hr
  obtain ⟨hr, _⟩ := hr
  unfold rcl at hr
  simp only [nn, add_at, Nat.zero_add]
  refine ⟨_, cellK hr 2 rfl, ?_⟩
  have hk0 : ∀ t : Tok, ((pk t : Nat) : Int) = 0 ↔ t.kind = 0 := fun t => by
    unfold pk
    split <;> omega
  refine Sif_cases (fun h => ?_) (fun h => ?_)
  · have h0 : ¬ (next S.data.toList p).kind = 0 := fun e => by rw [(hk0 _).2 e] at h; exact absurd h (by decide)
    rw [decide_eq_false h0, Bool.false_or] at hk
    unfold closes at hk
    refine is_ok (c := 93) hr0 ⟨_, rfl, ?_⟩
    refine Sif_cases (fun h1 => ?_) (fun h1 => ?_)
    · refine is_ok (c := 125) hr0 ⟨_, rfl, ?_⟩
      rw [Bool.not_eq_true'] at h1
      refine Sif_cases (fun h2 => ?_) (fun h2 => ?_)
      · refine is_ok (c := 41) hr0 ⟨_, rfl, ?_⟩
        rw [Bool.not_eq_true'] at h2
        rw [h1, h2] at hk; exact hk
      · rw [Bool.not_eq_false'] at h2
        rw [h1, h2] at hk; exact hk
    · rw [Bool.not_eq_false'] at h1
      rw [h1] at hk; exact hk
  · have h0 : (next S.data.toList p).kind = 0 := (hk0 _).1 (by simpa using h)
    rw [decide_eq_true h0, Bool.true_or] at hk
    exact hk
theorem step_ok' {S : ByteArray} (hs : S.size ≤ 2 ^ 40) {rb p : Nat} {w : World} (hr : RS S rb p w) (hU : UT w) (h2 : 2 ≤ rb) {K : Value → World → Prop}
    (hk : ∀ w', RS S rb (next S.data.toList p).fin w' → Ch (· = rb) w w' → K (tvl (next S.data.toList p)) w') : callP Tryz.prog 41 [.pointer (some ⟨rb, 0, none⟩)] w K := by
  have hl := next_lies S.data.toList p (by rw [sl]; exact hr.2)
  rw [sl] at hl
  exact step_ok hs hr.1 (by omega) hU h2 fun w' h c => hk w' ⟨h, by omega⟩ c
theorem want_ok {S : ByteArray} (hs : S.size ≤ 2 ^ 40) {rb p : Nat} {c : UInt8} {w : World} (hr : RS S rb p w) (hU : UT w) (h2 : 2 ≤ rb) {K : Value → World → Prop} {KP : List PanicEntry → World → Prop}
    (hk : (next S.data.toList p).is c = true → ∀ w', RS S rb (next S.data.toList p).fin w' → Ch (· = rb) w w' → K (.tuple #[]) w')
    (hp : (next S.data.toList p).is c = false → ∀ a e, (wanted (next S.data.toList p) : Go.Note.Fd M) = .bad a e → KP (flt a e) w) : callX Tryz.prog 76 [.pointer (some ⟨rb, 0, none⟩), .string ⟨#[c]⟩] w K KP := by
  apply ok_note_reader_want
  unfold wp_note_reader_want
  refine ⟨fun w1 => w1 = w ∧ (next S.data.toList p).is c = true, ?_, ?_⟩
  · rintro w1 ⟨rfl, h⟩
    exact callX_of (step_ok' hs hr hU h2 fun w2 r2 c2 => ⟨_, _, _, rfl, hk h w2 r2 c2⟩)
  · refine callX_of (is_ok hr ⟨_, rfl, ?_⟩)
    refine Sif_cases (fun h => ?_) (fun h => ⟨by trivial, by simpa using h⟩)
    rw [Bool.not_eq_true'] at h
    have hp := hp h
    refine ⟨fun w2 => w2 = w ∧ ¬ ((next S.data.toList p).kind = 0 ∨ closes (next S.data.toList p) = true), ?_, ?_⟩
    · rintro w2 ⟨rfl, hn⟩
      refine refuse_ok (e := 40) hr (hp _ _ ?_)
      unfold wanted amiss
      rw [if_neg hn]
    · refine callX_of (closing_ok hr ⟨_, rfl, ?_⟩)
      refine Sif_cases (fun h3 => ?_) (fun h3 => ⟨by trivial, ?_⟩)
      · refine refuse_ok (e := 43) hr (hp _ _ ?_)
        unfold wanted amiss
        rw [if_pos (by simpa using h3)]
      · simpa using h3
end Go.Proofs.YtnacobknngidkaaGreatDoor
namespace Go.Note
open Go
set_option linter.unusedVariables false
theorem toks_letters {s : Bs} {a : Nat} (h : (next s a).kind = 1) : ∀ x ∈ (next s a).text, letterC x = true := by
  have key : ∀ l : Bs, ∀ x ∈ l.take (nameN l), letterC x = true := by
    intro l
    induction l with
    | nil => intro x hx; simp at hx
    | cons y l ih =>
      intro x hx
      unfold nameN at hx
      split at hx
      · rename_i hy
        rw [Nat.add_comm, List.take_succ_cons] at hx
        rcases List.mem_cons.1 hx with h | h
        · rw [h]; exact hy
        · exact ih x h
      · simp at hx
  unfold next at h ⊢
  simp only at h ⊢
  cases hd : s.drop (a + skipN false (s.drop a)) with
  | nil => rw [hd] at h; cases h
  | cons x l =>
    rw [hd] at h
    simp only at h ⊢
    split at h
    · cases hw : wordB (x :: l) with
      | none => rw [hw] at h; cases h
      | some p => rw [hw] at h; cases h
    · rename_i h34
      rw [if_neg h34]
      split at h
      · cases h
      · rename_i hsg
        rw [if_neg hsg]
        split at h
        · rename_i hlt
          rw [if_pos hlt]
          exact key _
        · cases h
theorem or3 {a b c : Prop} (h : a ∨ b ∨ c) (h1 : a → False) (h2 : b → False) (h3 : c → False) : False := h.elim h1 fun h => h.elim h2 h3
def val (acc : Nat) (l : Bs) : Nat := l.foldl (fun n x => 10 * n + (x.toNat - 48)) acc
theorem val_ge : ∀ (l : Bs) (acc : Nat), acc ≤ val acc l
  | [], _ => Nat.le_refl _
  | x :: l, acc => by
    have := val_ge l (10 * acc + (x.toNat - 48))
    show acc ≤ val (10 * acc + (x.toNat - 48)) l
    omega
theorem digit_iff' (x : UInt8) : digitC x = true ↔ 48 ≤ x.toNat ∧ x.toNat ≤ 57 := by simp [digitC]
theorem parseM_ok {M : Nat} (hM : M < 18446744073709551616) : ∀ (l : Bs) (acc u : Nat), acc ≤ M → (Lib.parseUintM M acc l = .ok u ↔ l.all digitC = true ∧ val acc l = u ∧ u ≤ M)
  | [], acc, u, h => by
    simp [Lib.parseUintM, val]
    intro e; omega
  | x :: l, acc, u, h => by
    unfold Lib.parseUintM
    have hv : val acc (x :: l) = val (10 * acc + (x.toNat - 48)) l := rfl
    have hge := val_ge l (10 * acc + (x.toNat - 48))
    by_cases hd : 48 ≤ x.toNat ∧ x.toNat ≤ 57
    · rw [if_pos hd]
      have hdc : digitC x = true := (digit_iff' x).2 hd
      split
      · constructor
        · intro e; cases e
        · rintro ⟨_, h2, h3⟩; omega
      · split
        · constructor
          · intro e; cases e
          · rintro ⟨_, h2, h3⟩; omega
        · rw [parseM_ok hM l _ u (by omega), hv, show acc * 10 + (x.toNat - 48) = 10 * acc + (x.toNat - 48) by omega]
          simp [hdc]
    · rw [if_neg hd]
      have hdc : digitC x = false := by
        cases h : digitC x with
        | false => rfl
        | true => exact absurd ((digit_iff' x).1 h) hd
      simp [hdc]
theorem parseUint_ok {B : Nat} (hB : 2 ^ B - 1 < 18446744073709551616) (l : Bs) (u : Nat) : Lib.parseUintB B l = .ok u ↔ l ≠ [] ∧ l.all digitC = true ∧ valN l = u ∧ u ≤ 2 ^ B - 1 := by
  unfold Lib.parseUintB
  by_cases h : l = []
  · rw [if_pos h]; simp [h]
  · rw [if_neg h, parseM_ok hB l 0 u (Nat.zero_le _)]
    constructor
    · rintro ⟨a, b, c⟩; exact ⟨h, a, b, c⟩
    · rintro ⟨_, a, b, c⟩; exact ⟨a, b, c⟩
def nought (s : Bs) : Bool := decide (s ≠ [48]) && Lib.hasPrefix (Lib.trimPrefix s [45]) [48]
theorem pre48 (l : Bs) : Lib.hasPrefix l [48] = decide (l.head? = some 48) := by
  cases l with
  | nil => rfl
  | cons x l =>
    unfold Lib.hasPrefix
    simp only [List.isPrefixOf, Bool.and_true, List.head?_cons, Option.some.injEq]
    by_cases h : x = 48
    · subst h; rfl
    · rw [decide_eq_false h]
      simp only [beq_eq_false_iff_ne, ne_eq]
      exact fun e => h e.symm
theorem trim45 (s : Bs) : Lib.trimPrefix s [45] = if s.head? = some 45 then s.tail else s := by
  cases s with
  | nil => rfl
  | cons x l =>
    unfold Lib.trimPrefix Lib.hasPrefix
    simp only [List.isPrefixOf, Bool.and_true, List.head?_cons, Option.some.injEq, List.tail_cons]
    by_cases h : x = 45
    · subst h; rfl
    · rw [if_neg h, if_neg]
      simp only [beq_iff_eq]
      exact fun e => h e.symm
theorem nought_iff (s : Bs) : nought s = true ↔ s ≠ [48] ∧ (if s.head? = some 45 then s.tail.head? = some 48 else s.head? = some 48) := by
  unfold nought
  rw [Bool.and_eq_true, decide_eq_true_eq, trim45, pre48, decide_eq_true_eq]
  split <;> rfl
theorem natB_def (s : Bs) : natB s = if s = [] ∨ (1 < s.length ∧ s.head? = some 48) ∨ s.all digitC = false then none else some (valN s) := rfl
theorem dash_all {s : Bs} (h : s.head? = some 45) : s.all digitC = false := by
  cases s with
  | nil => cases h
  | cons x l =>
    simp only [List.head?_cons, Option.some.injEq] at h
    subst h
    simp [digitC]
theorem uint_read {B k : Nat} {s : Bs} (hB : (B = 8 ∧ k = 2) ∨ (B = 16 ∧ k = 3) ∨ (B = 32 ∧ k = 4) ∨ (B = 64 ∧ k = 5)) :
    (nought s = true → intB k s = none) ∧ (nought s = false → ∀ u, Lib.parseUintB B s = .ok u ↔ intB k s = some u) := by
  have hm : mostK k = (2 ^ B - 1, 0) ∧ 2 ^ B - 1 < 18446744073709551616 ∧ k ≠ 15 := by
    rcases hB with ⟨rfl, rfl⟩ | ⟨rfl, rfl⟩ | ⟨rfl, rfl⟩ | ⟨rfl, rfl⟩ <;> exact ⟨by decide, by decide, by decide⟩
  obtain ⟨h1, h2, h3⟩ := hm
  have hi : intB k s = match natB s with
    | some n => if n ≤ 2 ^ B - 1 then some n else none
    | none => none := by
    unfold intB
    rw [h1, if_neg (by simp)]
    cases natB s with
    | none => rfl
    | some n => simp [h3]
  constructor
  · intro hn
    obtain ⟨g1, g2⟩ := (nought_iff s).1 hn
    rw [hi]
    have : natB s = none := by
      rw [natB_def, if_pos]
      split at g2
      · rename_i hd
        exact .inr (.inr (dash_all hd))
      · right; left
        refine ⟨?_, g2⟩
        cases s with
        | nil => cases g2
        | cons x l =>
          simp only [List.head?_cons, Option.some.injEq] at g2
          cases l with
          | nil => exact absurd (by rw [g2]) g1
          | cons y l => simp
    rw [this]
  · intro hn u
    rw [parseUint_ok h2, hi, natB_def]
    have hno : ¬ (1 < s.length ∧ s.head? = some 48) := by
      rintro ⟨a, b⟩
      have : nought s = true := (nought_iff s).2 ⟨fun e => (by rw [e] at a; simp at a), by rw [b]; simp⟩
      rw [this] at hn; cases hn
    by_cases he : s = []
    · simp [he]
    · by_cases hd : s.all digitC = true
      · rw [if_neg (fun h => or3 h (fun h => he h) (fun h => hno h) fun h => by rw [hd] at h; cases h)]
        simp only
        constructor
        · rintro ⟨_, _, rfl, hu⟩
          rw [if_pos hu]
        · intro h
          split at h
          · rename_i hu
            cases h
            exact ⟨he, hd, rfl, hu⟩
          · cases h
      · have hd : s.all digitC = false := by simpa using hd
        rw [if_pos (.inr (.inr hd))]
        simp [hd]
theorem int_read {B k : Nat} {s : Bs} (hl : ∀ x ∈ s, letterC x = true) (hB : (B = 8 ∧ k = 6) ∨ (B = 16 ∧ k = 7) ∨ (B = 32 ∧ k = 8) ∨ (B = 64 ∧ (k = 9 ∨ k = 16))) :
    (nought s = true → intB k s = none) ∧ (nought s = false → (∀ n, intB k s = some n → ∃ v : Int, Lib.parseIntB B s = .ok v ∧ v % 18446744073709551616 = (n : Int)) ∧ (intB k s = none → ∀ v, Lib.parseIntB B s ≠ .ok v)) := by
  have hm : mostK k = (2 ^ (B - 1) - 1, 2 ^ (B - 1)) ∧ 2 ^ B - 1 < 18446744073709551616 ∧ k ≠ 15 ∧ 0 < 2 ^ (B - 1) ∧ 2 ^ (B - 1) ≤ 2 ^ B - 1 ∧ 2 ^ (B - 1) ≤ 9223372036854775808 := by
    rcases hB with ⟨rfl, rfl⟩ | ⟨rfl, rfl⟩ | ⟨rfl, rfl⟩ | ⟨rfl, h⟩
    · exact ⟨by decide, by decide, by decide, by decide, by decide, by decide⟩
    · exact ⟨by decide, by decide, by decide, by decide, by decide, by decide⟩
    · exact ⟨by decide, by decide, by decide, by decide, by decide, by decide⟩
    · rcases h with rfl | rfl
      · exact ⟨by decide, by decide, by decide, by decide, by decide, by decide⟩
      · exact ⟨by decide, by decide, by decide, by decide, by decide, by decide⟩
  obtain ⟨h1, h2, h3, h4, h5, h6⟩ := hm
  generalize hH : 2 ^ (B - 1) = H at *
  have hi : intB k s = if 1 < s.length ∧ s.head? = some 45 then (match natB s.tail with
      | some n => if 0 < n ∧ n ≤ H then some (18446744073709551616 - n) else none
      | none => none)
    else match natB s with
      | some n => if n ≤ H - 1 then some n else none
      | none => none := by
    unfold intB
    rw [h1]
    simp only [h4, true_and]
    split
    · rfl
    · cases natB s with
      | none => rfl
      | some n => simp [h3]
  cases s with
  | nil =>
    have h0 : intB k [] = none := by rw [hi]; simp [natB]
    refine ⟨fun _ => h0, fun _ => ⟨fun n h => ?_, fun _ v => by simp [Lib.parseIntB]⟩⟩
    rw [h0] at h; cases h
  | cons c r =>
    have hc43 : c.toNat ≠ 43 := by
      intro e
      have : c = 43 := UInt8.toNat_inj.1 (by rw [e]; rfl)
      exact absurd (hl c (by simp)) (by rw [this]; decide)
    have hc45 : (c.toNat = 45) ↔ c = 45 := by
      rw [← UInt8.toNat_inj]; exact Iff.rfl
    by_cases hc : c = 45
    · subst hc
      have hp : ∀ v, Lib.parseIntB B (45 :: r) = .ok v ↔ ∃ u, Lib.parseUintB B r = .ok u ∧ u ≤ H ∧ v = -(u : Int) := by
        intro v
        unfold Lib.parseIntB
        simp only [show ((45 : UInt8).toNat = 45) by rfl, or_true, if_true, hH]
        cases hu : Lib.parseUintB B r
        case range => simp
        case ok u =>
          simp only [not_true, false_and, if_false, true_and]
          split
          · constructor
            · intro e; cases e
            · rintro ⟨u', e, h, _⟩
              cases e; omega
          · constructor
            · intro e
              cases e
              exact ⟨u, rfl, by omega, by simp⟩
            · rintro ⟨u', e, h, rfl⟩
              cases e; simp
        · simp
      have hi2 : intB k (45 :: r) = match natB r with
        | some n => if 0 < n ∧ n ≤ H then some (18446744073709551616 - n) else none
        | none => none := by
        rw [hi]
        by_cases hr : r = []
        · subst hr
          simp [natB, digitC]
        · rw [if_pos ⟨by
            have := List.length_pos_iff.2 hr
            simp only [List.length_cons]; omega, rfl⟩]; rfl
      constructor
      · intro hn
        obtain ⟨_, g2⟩ := (nought_iff _).1 hn
        simp only [List.head?_cons, if_true, List.tail_cons] at g2
        rw [hi2, natB_def]
        by_cases hlen : 1 < r.length
        · rw [if_pos (.inr (.inl ⟨hlen, g2⟩))]
        · match r, g2 with
          | [x], g2 =>
            simp only [List.head?_cons, Option.some.injEq] at g2
            subst g2
            simp [digitC, valN]
          | _ :: _ :: _, _ => simp at hlen
      · intro hn
        have hno : ¬ (r.head? = some 48) := by
          intro b
          have : nought (45 :: r) = true := (nought_iff _).2 ⟨by simp, by simp [b]⟩
          rw [this] at hn; cases hn
        have hnat : ∀ u, natB r = some u ↔ Lib.parseUintB B r = .ok u ∨ (natB r = some u ∧ 2 ^ B - 1 < u) := by
          intro u
          rw [parseUint_ok h2, natB_def]
          by_cases he : r = []
          · simp [he]
          · by_cases hd : r.all digitC = true
            · rw [if_neg (fun h => or3 h (fun h => he h) (fun h => hno h.2) fun h => by rw [hd] at h; cases h)]
              simp only [Option.some.injEq]
              constructor
              · rintro rfl
                by_cases hu : valN r ≤ 2 ^ B - 1
                · exact .inl ⟨he, hd, rfl, hu⟩
                · exact .inr ⟨rfl, by omega⟩
              · rintro (⟨_, _, h, _⟩ | ⟨h, _⟩) <;> exact h
            · have hd : r.all digitC = false := by simpa using hd
              rw [if_pos (.inr (.inr hd))]
              simp [hd]
        refine ⟨fun n h => ?_, fun h v hv => ?_⟩
        · rw [hi2] at h
          cases hnr : natB r with
          | none => rw [hnr] at h; cases h
          | some u =>
            rw [hnr] at h
            simp only at h
            split at h
            · rename_i hu
              cases h
              rcases (hnat u).1 hnr with g | ⟨_, g⟩
              · exact ⟨_, (hp _).2 ⟨u, g, hu.2, rfl⟩, by omega⟩
              · omega
            · cases h
        · obtain ⟨u, g1, g2, rfl⟩ := (hp v).1 hv
          have g3 := (hnat u).2 (.inl g1)
          rw [hi2, g3] at h
          simp only at h
          split at h
          · cases h
          · rename_i hu
            have hu0 : u = 0 := by omega
            subst hu0
            obtain ⟨a1, a2, a3, _⟩ := (parseUint_ok h2 r 0).1 g1
            match r, a1, a2, a3, hno with
            | x :: t, _, a2, a3, hno =>
              simp only [List.all_cons, Bool.and_eq_true] at a2
              have hx := (digit_iff' x).1 a2.1
              have hge := val_ge t (10 * 0 + (x.toNat - 48))
              have : valN (x :: t) = val (10 * 0 + (x.toNat - 48)) t := rfl
              have hx48 : x = 48 := UInt8.toNat_inj.1 (by show x.toNat = 48; omega)
              exact hno (by rw [hx48]; rfl)
    · have hh : ¬ ((c :: r).head? = some 45) := by simpa using hc
      have hp : ∀ v, Lib.parseIntB B (c :: r) = .ok v ↔ ∃ u, Lib.parseUintB B (c :: r) = .ok u ∧ u ≤ H - 1 ∧ v = (u : Int) := by
        intro v
        unfold Lib.parseIntB
        simp only [hc45, hc43, hc, or_false, if_false, hH]
        cases hu : Lib.parseUintB B (c :: r)
        case range => simp
        case ok u =>
          simp only [not_false_iff, true_and, false_and, if_false]
          split
          · constructor
            · intro e; cases e
            · rintro ⟨u', e, h, _⟩
              cases e; omega
          · constructor
            · intro e
              cases e
              exact ⟨u, rfl, by omega, by simp⟩
            · rintro ⟨u', e, h, rfl⟩
              cases e; simp
        · simp
      have hi2 : intB k (c :: r) = match natB (c :: r) with
        | some n => if n ≤ H - 1 then some n else none
        | none => none := by
        rw [hi, if_neg (fun h => hh h.2)]
      constructor
      · intro hn
        obtain ⟨g1, g2⟩ := (nought_iff _).1 hn
        rw [if_neg hh] at g2
        rw [hi2, natB_def, if_pos]
        right; left
        refine ⟨?_, g2⟩
        simp only [List.head?_cons, Option.some.injEq] at g2
        cases r with
        | nil => exact absurd (by rw [g2]) g1
        | cons y l => simp
      · intro hn
        have hno : ¬ (1 < (c :: r).length ∧ (c :: r).head? = some 48) := by
          rintro ⟨a, b⟩
          have : nought (c :: r) = true := (nought_iff _).2 ⟨fun e => (by rw [e] at a; simp at a), by rw [if_neg hh]; exact b⟩
          rw [this] at hn; cases hn
        refine ⟨fun n h => ?_, fun h v hv => ?_⟩
        · by_cases q : (c :: r) = [] ∨ (1 < (c :: r).length ∧ (c :: r).head? = some 48) ∨ (c :: r).all digitC = false
          · rw [hi2, natB_def, if_pos q] at h; cases h
          · have hd : (c :: r).all digitC = true := by
              cases hd : (c :: r).all digitC with
              | false => exact absurd (.inr (.inr hd)) q
              | true => rfl
            rw [hi2, natB_def, if_neg q] at h
            simp only at h
            split at h
            · rename_i hu
              cases h
              exact ⟨_, (hp _).2 ⟨_, (parseUint_ok h2 _ _).2 ⟨by simp, hd, rfl, by omega⟩, hu, rfl⟩, by omega⟩
            · cases h
        · obtain ⟨u, g1, g2, rfl⟩ := (hp v).1 hv
          obtain ⟨a1, a2, a3, _⟩ := (parseUint_ok h2 _ u).1 g1
          rw [hi2, natB_def, if_neg (fun h => or3 h (fun h => a1 h) (fun h => hno h) fun h => by rw [a2] at h; cases h)] at h
          simp only [a3] at h
          rw [if_pos g2] at h; cases h
end Go.Note
namespace Go.Proofs.YtnacobknngidkaaGreatDoor
open Go Go.Sv Go.Note
set_option linter.unusedVariables false
attribute [local irreducible] Sif
structure LW (w : World) : Prop where
  ut : UT w
  syn : ∃ te pe, w.cell? ⟨4, 0, none⟩ = some (.iface te pe)
  ran : ∃ te pe, w.cell? ⟨5, 0, none⟩ = some (.iface te pe)
  pow : Lib.TabIs Tryz.prog w "internal/strconv.uint64pow10" .u64 Lib.pow10Tab
  size : 8 ≤ w.heap.size
theorem LW.ch {w w' : World} (h : LW w) {Q : Nat → Prop} (c : Ch Q w w') (hn : ∀ b, b < 8 → ¬ Q b) : LW w' := by
  have hz := h.size
  have e : ∀ b, b < 8 → w'.cell? ⟨b, 0, none⟩ = w.cell? ⟨b, 0, none⟩ := fun b hb => World.cell?_of_block (a := ⟨b, 0, none⟩) (c.keep b (by omega) (hn b hb))
  refine ⟨h.ut.ch (by omega) c (hn 0 (by omega)) (hn 1 (by omega)), by rw [e 4 (by omega)]; exact h.syn, by rw [e 5 (by omega)]; exact h.ran, ?_, by have := c.size; omega⟩
  have hp := h.pow
  unfold Lib.TabIs World.var? at hp ⊢
  have hg : Tryz.prog.globalNamed "internal/strconv.uint64pow10" = some 3 := by kernel_rfl
  rw [hg] at hp ⊢
  simp only [Option.bind_some] at hp ⊢
  rw [c.keep 3 (by omega) (hn 3 (by omega))]; exact hp
theorem LW.ch0 {w w' : World} (h : LW w) (c : Ch (fun _ => False) w w') : LW w' := h.ch c fun _ _ h => h
theorem LW.chr {w w' : World} (h : LW w) {rb : Nat} (hr : 8 ≤ rb) (c : Ch (· = rb) w w') : LW w' := h.ch c fun b hb e => by omega
theorem bytesWorld_ch (w : World) (e : TypeId) (s : ByteArray) : Ch (fun _ => False) w (Lib.bytesWorld w e s) := ch_of_below (Lib.bytesWorld_below w e s)
def PUR (B : Nat) (s : ByteArray) (w : World) (e : Ending) (w' : World) : Prop :=
  Ch (fun _ => False) w w' ∧ ∃ (n : Nat) (v : Value), e = .returned (.tuple #[.int .u64 (n : Int), v]) ∧ isI v = true ∧ ((isNilI v = true ∧ Lib.parseUintB B s.data.toList = .ok n) ∨ (isNilI v = false ∧ ∀ u, Lib.parseUintB B s.data.toList ≠ .ok u))
def PIR (B : Nat) (s : ByteArray) (w : World) (e : Ending) (w' : World) : Prop :=
  Ch (fun _ => False) w w' ∧ ∃ (n : Int) (v : Value), e = .returned (.tuple #[.int .i64 n, v]) ∧ isI v = true ∧ ((isNilI v = true ∧ Lib.parseIntB B s.data.toList = .ok n) ∨ (isNilI v = false ∧ ∀ u, Lib.parseIntB B s.data.toList ≠ .ok u))
theorem parseUint8 {w : World} (hL : LW w) (s : ByteArray) (hs : s.size ≤ 2 ^ 40) : Calls Tryz.prog 160 #[.string s, .int .i64 10, .int .i64 8] w (PUR 8 s w) := by
  obtain ⟨te, pe, h4⟩ := hL.syn
  obtain ⟨te', pe', h5⟩ := hL.ran
  cases hr : Lib.parseUintB 8 s.data.toList
  case ok u =>
    refine (Tryz.strconv_ParseUint_10_at8_ok s (by omega) u hr w).mono ?_
    rintro e w' ⟨rfl, hw⟩
    refine ⟨?_, u, _, rfl, rfl, .inl ⟨rfl, hr⟩⟩
    rcases hw with rfl | rfl
    · exact Ch.refl _ _
    · exact bytesWorld_ch ..
  case range =>
    refine (Tryz.strconv_ParseUint_10_at8_range s (by omega) hr _ w h5 (.inr ⟨_, _, rfl⟩)).mono ?_
    rintro e w' ⟨N, rfl, _, _, hb⟩
    exact ⟨ch_of_below hb, 255, _, rfl, rfl, .inr ⟨rfl, fun u h => by rw [hr] at h; cases h⟩⟩
  ·
    refine (Tryz.strconv_ParseUint_10_at8_syntax s (by omega) hr _ w h4 (.inr ⟨_, _, rfl⟩)).mono ?_
    rintro e w' ⟨N, rfl, _, _, hb⟩
    exact ⟨ch_of_below hb, 0, _, rfl, rfl, .inr ⟨rfl, fun u h => by rw [hr] at h; cases h⟩⟩
theorem parseInt8 {w : World} (hL : LW w) (s : ByteArray) (hs : s.size ≤ 2 ^ 40) : Calls Tryz.prog 159 #[.string s, .int .i64 10, .int .i64 8] w (PIR 8 s w) := by
  obtain ⟨te, pe, h4⟩ := hL.syn
  obtain ⟨te', pe', h5⟩ := hL.ran
  cases hr : Lib.parseIntB 8 s.data.toList
  case ok u =>
    refine (Tryz.strconv_ParseInt_10_at8_ok s (by omega) u hr w).mono ?_
    rintro e w' ⟨rfl, hw⟩
    refine ⟨?_, u, _, rfl, rfl, .inl ⟨rfl, hr⟩⟩
    rcases hw with rfl | ⟨t, rfl⟩
    · exact Ch.refl _ _
    · exact bytesWorld_ch ..
  case range =>
    refine (Tryz.strconv_ParseInt_10_at8_range s (by omega) hr _ w h5 (.inr ⟨_, _, rfl⟩)).mono ?_
    rintro e w' ⟨N, rfl, _, _, hb⟩
    exact ⟨ch_of_below hb, _, _, rfl, rfl, .inr ⟨rfl, fun u h => by rw [hr] at h; cases h⟩⟩
  ·
    refine (Tryz.strconv_ParseInt_10_at8_syntax s (by omega) hr _ w h4 (.inr ⟨_, _, rfl⟩)).mono ?_
    rintro e w' ⟨N, rfl, _, _, hb⟩
    exact ⟨ch_of_below hb, 0, _, rfl, rfl, .inr ⟨rfl, fun u h => by rw [hr] at h; cases h⟩⟩
theorem parseUint16 {w : World} (hL : LW w) (s : ByteArray) (hs : s.size ≤ 2 ^ 40) : Calls Tryz.prog 160 #[.string s, .int .i64 10, .int .i64 16] w (PUR 16 s w) := by
  obtain ⟨te, pe, h4⟩ := hL.syn
  obtain ⟨te', pe', h5⟩ := hL.ran
  cases hr : Lib.parseUintB 16 s.data.toList
  case ok u =>
    refine (Tryz.strconv_ParseUint_10_at16_ok s (by omega) u hr w).mono ?_
    rintro e w' ⟨rfl, hw⟩
    refine ⟨?_, u, _, rfl, rfl, .inl ⟨rfl, hr⟩⟩
    rcases hw with rfl | rfl
    · exact Ch.refl _ _
    · exact bytesWorld_ch ..
  case range =>
    refine (Tryz.strconv_ParseUint_10_at16_range s (by omega) hr _ w h5 (.inr ⟨_, _, rfl⟩)).mono ?_
    rintro e w' ⟨N, rfl, _, _, hb⟩
    exact ⟨ch_of_below hb, 65535, _, rfl, rfl, .inr ⟨rfl, fun u h => by rw [hr] at h; cases h⟩⟩
  ·
    refine (Tryz.strconv_ParseUint_10_at16_syntax s (by omega) hr _ w h4 (.inr ⟨_, _, rfl⟩)).mono ?_
    rintro e w' ⟨N, rfl, _, _, hb⟩
    exact ⟨ch_of_below hb, 0, _, rfl, rfl, .inr ⟨rfl, fun u h => by rw [hr] at h; cases h⟩⟩
theorem parseInt16 {w : World} (hL : LW w) (s : ByteArray) (hs : s.size ≤ 2 ^ 40) : Calls Tryz.prog 159 #[.string s, .int .i64 10, .int .i64 16] w (PIR 16 s w) := by
  obtain ⟨te, pe, h4⟩ := hL.syn
  obtain ⟨te', pe', h5⟩ := hL.ran
  cases hr : Lib.parseIntB 16 s.data.toList
  case ok u =>
    refine (Tryz.strconv_ParseInt_10_at16_ok s (by omega) u hr w).mono ?_
    rintro e w' ⟨rfl, hw⟩
    refine ⟨?_, u, _, rfl, rfl, .inl ⟨rfl, hr⟩⟩
    rcases hw with rfl | ⟨t, rfl⟩
    · exact Ch.refl _ _
    · exact bytesWorld_ch ..
  case range =>
    refine (Tryz.strconv_ParseInt_10_at16_range s (by omega) hr _ w h5 (.inr ⟨_, _, rfl⟩)).mono ?_
    rintro e w' ⟨N, rfl, _, _, hb⟩
    exact ⟨ch_of_below hb, _, _, rfl, rfl, .inr ⟨rfl, fun u h => by rw [hr] at h; cases h⟩⟩
  ·
    refine (Tryz.strconv_ParseInt_10_at16_syntax s (by omega) hr _ w h4 (.inr ⟨_, _, rfl⟩)).mono ?_
    rintro e w' ⟨N, rfl, _, _, hb⟩
    exact ⟨ch_of_below hb, 0, _, rfl, rfl, .inr ⟨rfl, fun u h => by rw [hr] at h; cases h⟩⟩
theorem parseUint32 {w : World} (hL : LW w) (s : ByteArray) (hs : s.size ≤ 2 ^ 40) : Calls Tryz.prog 160 #[.string s, .int .i64 10, .int .i64 32] w (PUR 32 s w) := by
  obtain ⟨te, pe, h4⟩ := hL.syn
  obtain ⟨te', pe', h5⟩ := hL.ran
  cases hr : Lib.parseUintB 32 s.data.toList
  case ok u =>
    refine (Tryz.strconv_ParseUint_10_at32_ok s (by omega) u hr w).mono ?_
    rintro e w' ⟨rfl, hw⟩
    refine ⟨?_, u, _, rfl, rfl, .inl ⟨rfl, hr⟩⟩
    rcases hw with rfl | rfl
    · exact Ch.refl _ _
    · exact bytesWorld_ch ..
  case range =>
    refine (Tryz.strconv_ParseUint_10_at32_range s (by omega) hr _ w h5 (.inr ⟨_, _, rfl⟩)).mono ?_
    rintro e w' ⟨N, rfl, _, _, hb⟩
    exact ⟨ch_of_below hb, 4294967295, _, rfl, rfl, .inr ⟨rfl, fun u h => by rw [hr] at h; cases h⟩⟩
  ·
    refine (Tryz.strconv_ParseUint_10_at32_syntax s (by omega) hr _ w h4 (.inr ⟨_, _, rfl⟩)).mono ?_
    rintro e w' ⟨N, rfl, _, _, hb⟩
    exact ⟨ch_of_below hb, 0, _, rfl, rfl, .inr ⟨rfl, fun u h => by rw [hr] at h; cases h⟩⟩
theorem parseInt32 {w : World} (hL : LW w) (s : ByteArray) (hs : s.size ≤ 2 ^ 40) : Calls Tryz.prog 159 #[.string s, .int .i64 10, .int .i64 32] w (PIR 32 s w) := by
  obtain ⟨te, pe, h4⟩ := hL.syn
  obtain ⟨te', pe', h5⟩ := hL.ran
  cases hr : Lib.parseIntB 32 s.data.toList
  case ok u =>
    refine (Tryz.strconv_ParseInt_10_at32_ok s (by omega) u hr w).mono ?_
    rintro e w' ⟨rfl, hw⟩
    refine ⟨?_, u, _, rfl, rfl, .inl ⟨rfl, hr⟩⟩
    rcases hw with rfl | ⟨t, rfl⟩
    · exact Ch.refl _ _
    · exact bytesWorld_ch ..
  case range =>
    refine (Tryz.strconv_ParseInt_10_at32_range s (by omega) hr _ w h5 (.inr ⟨_, _, rfl⟩)).mono ?_
    rintro e w' ⟨N, rfl, _, _, hb⟩
    exact ⟨ch_of_below hb, _, _, rfl, rfl, .inr ⟨rfl, fun u h => by rw [hr] at h; cases h⟩⟩
  ·
    refine (Tryz.strconv_ParseInt_10_at32_syntax s (by omega) hr _ w h4 (.inr ⟨_, _, rfl⟩)).mono ?_
    rintro e w' ⟨N, rfl, _, _, hb⟩
    exact ⟨ch_of_below hb, 0, _, rfl, rfl, .inr ⟨rfl, fun u h => by rw [hr] at h; cases h⟩⟩
theorem parseUint64 {w : World} (hL : LW w) (s : ByteArray) (hs : s.size ≤ 2 ^ 40) : Calls Tryz.prog 160 #[.string s, .int .i64 10, .int .i64 64] w (PUR 64 s w) := by
  obtain ⟨te, pe, h4⟩ := hL.syn
  obtain ⟨te', pe', h5⟩ := hL.ran
  cases hr : Lib.parseUintB 64 s.data.toList
  case ok u =>
    refine (Tryz.strconv_ParseUint_10_at64_ok s (by omega) u hr w).mono ?_
    rintro e w' ⟨rfl, hw⟩
    refine ⟨?_, u, _, rfl, rfl, .inl ⟨rfl, hr⟩⟩
    rcases hw with rfl | rfl
    · exact Ch.refl _ _
    · exact bytesWorld_ch ..
  case range =>
    refine (Tryz.strconv_ParseUint_10_at64_range s (by omega) hr _ w h5 (.inr ⟨_, _, rfl⟩)).mono ?_
    rintro e w' ⟨N, rfl, _, _, hb⟩
    exact ⟨ch_of_below hb, 18446744073709551615, _, rfl, rfl, .inr ⟨rfl, fun u h => by rw [hr] at h; cases h⟩⟩
  ·
    refine (Tryz.strconv_ParseUint_10_at64_syntax s (by omega) hr _ w h4 (.inr ⟨_, _, rfl⟩)).mono ?_
    rintro e w' ⟨N, rfl, _, _, hb⟩
    exact ⟨ch_of_below hb, 0, _, rfl, rfl, .inr ⟨rfl, fun u h => by rw [hr] at h; cases h⟩⟩
theorem parseInt64 {w : World} (hL : LW w) (s : ByteArray) (hs : s.size ≤ 2 ^ 40) : Calls Tryz.prog 159 #[.string s, .int .i64 10, .int .i64 64] w (PIR 64 s w) := by
  obtain ⟨te, pe, h4⟩ := hL.syn
  obtain ⟨te', pe', h5⟩ := hL.ran
  cases hr : Lib.parseIntB 64 s.data.toList
  case ok u =>
    refine (Tryz.strconv_ParseInt_10_at64_ok s (by omega) u hr w).mono ?_
    rintro e w' ⟨rfl, hw⟩
    refine ⟨?_, u, _, rfl, rfl, .inl ⟨rfl, hr⟩⟩
    rcases hw with rfl | ⟨t, rfl⟩
    · exact Ch.refl _ _
    · exact bytesWorld_ch ..
  case range =>
    refine (Tryz.strconv_ParseInt_10_at64_range s (by omega) hr _ w h5 (.inr ⟨_, _, rfl⟩)).mono ?_
    rintro e w' ⟨N, rfl, _, _, hb⟩
    exact ⟨ch_of_below hb, _, _, rfl, rfl, .inr ⟨rfl, fun u h => by rw [hr] at h; cases h⟩⟩
  ·
    refine (Tryz.strconv_ParseInt_10_at64_syntax s (by omega) hr _ w h4 (.inr ⟨_, _, rfl⟩)).mono ?_
    rintro e w' ⟨N, rfl, _, _, hb⟩
    exact ⟨ch_of_below hb, 0, _, rfl, rfl, .inr ⟨rfl, fun u h => by rw [hr] at h; cases h⟩⟩
theorem str_list (t : Bs) : (ByteArray.mk t.toArray).data.toList = t := by simp
theorem pk_one (t : Tok) : ((pk t : Nat) : Int) = 1 ↔ t.kind = 1 := by
  unfold pk
  split <;> omega
theorem ptx_one {t : Tok} (h : t.kind = 1) : ptx t = t.text := by unfold ptx; rw [if_neg (by omega), if_neg (by omega)]
theorem integer_u8 {S : ByteArray} (hs : S.size ≤ 2 ^ 40) {rb p : Nat} {w : World} (hr : RS S rb p w) (hL : LW w) (h2 : 8 ≤ rb) {K : Value → World → Prop} {KP : List PanicEntry → World → Prop}
    (hk : (next S.data.toList p).kind = 1 → ∀ n w', intB 2 (next S.data.toList p).text = some n → RS S rb (next S.data.toList p).fin w' → Ch (· = rb) w w' → K (.int .u64 (n : Int)) w')
    (hp : ((next S.data.toList p).kind ≠ 1 ∨ intB 2 (next S.data.toList p).text = none) → ∀ w', Ch (fun _ => False) w w' → KP (flt (next S.data.toList p).beg (if (next S.data.toList p).kind = 5 then 42 else 41)) w') :
    callX Tryz.prog 119 [.pointer (some ⟨rb, 0, none⟩), .int .i64 8, .bool false] w K KP := by
  apply ok_note_reader_integer
  unfold wp_note_reader_integer
  obtain ⟨h0, hple⟩ := hr
  have h0' := h0
  unfold rcl at h0
  have hL8 := hL.size
  have hlies := next_lies S.data.toList p (by rw [sl]; exact hple)
  rw [sl] at hlies
  have htx := (next_text S.data.toList (by rw [sl]; exact hple : p ≤ S.data.toList.length)).1
  have hlet := toks_letters (s := S.data.toList) (a := p)
  simp only [nn, add_at, Nat.zero_add]
  refine ⟨_, cellK h0 4 rfl, ?_⟩
  have bad : (next S.data.toList p).kind ≠ 1 ∨ intB 2 (next S.data.toList p).text = none → ∀ {K' : Value → World → Prop} w', Ch (fun _ => False) w w' → callX Tryz.prog 43 [.pointer (some ⟨rb, 0, none⟩), .int .i64 41] w' K' KP := fun h K' w' c =>
    refuse_ok (e := 41) (RS.ch ⟨h0', hple⟩ c id) (hp h w' c)
  refine ⟨fun w1 => w1 = w ∧ (next S.data.toList p).kind = 1 ∧ nought (next S.data.toList p).text = false, ?_, ?_⟩
  · rintro w1 ⟨rfl, hk1, hno⟩
    rw [ptx_one hk1]
    have htl : (next S.data.toList p).text.length ≤ 2 ^ 40 := by have := htx (by omega) (by omega); omega
    have hrd := (uint_read (B := 8) (k := 2) (s := (next S.data.toList p).text) (.inl ⟨rfl, rfl⟩)).2 hno
    refine Sif_false ?_
    refine (parseUint8 hL ⟨(next S.data.toList p).text.toArray⟩ (by simpa [ByteArray.size] using htl)).mono ?_
    rintro e w2 ⟨c2, n, v, rfl, hi, hv⟩
    rw [str_list] at hv
    refine .inl ⟨_, rfl, _, _, rfl, ?_⟩
    refine ⟨fun w3 => w3 = w2 ∧ isNilI v = true, ?_, hi, ?_⟩
    · rintro w3 ⟨rfl, hnil⟩
      refine callX_of (step_ok' hs (RS.ch ⟨h0', hple⟩ c2 id) ((hL.ch0 c2).ut) (by omega) fun w4 r4 c4 => ⟨_, _, _, rfl, ?_⟩)
      rcases hv with ⟨_, hv⟩ | ⟨hv, _⟩
      · exact hk hk1 n w4 ((hrd n).1 hv) r4 ((c2.mono fun _ _ h => h.elim).trans' c4)
      · rw [hv] at hnil; cases hnil
    · refine Sif_cases (fun h => ?_) (fun h => ⟨by trivial, by simpa using h⟩)
      rcases hv with ⟨hv, _⟩ | ⟨_, hv⟩
      · rw [hv] at h; cases h
      · refine bad (.inr ?_) w2 c2
        cases hi : intB 2 (next S.data.toList p).text with
        | none => rfl
        | some j => exact absurd ((hrd j).2 hi) (hv j)
  · refine ⟨_, cellK h0 2 rfl, ?_⟩
    rw [int_bne, Bool.not_not]
    refine Sif_cases (fun h => ?_) (fun h => bad (.inl fun e => of_decide_eq_false h ((pk_one _).2 e)) w (Ch.refl _ _))
    have hk1 := (pk_one _).1 (of_decide_eq_true h)
    rw [ptx_one hk1]
    have hnone := (uint_read (B := 8) (k := 2) (s := (next S.data.toList p).text) (.inl ⟨rfl, rfl⟩)).1
    rw [show (ByteArray.mk (Array.mk [(48 : UInt8)])) = ⟨([48] : Bs).toArray⟩ by rfl, bs_eq]
    refine Sif_cases (fun h48 => ?_) (fun h48 => ⟨by trivial, hk1, ?_⟩)
    · have h48 : (next S.data.toList p).text ≠ [48] := by simpa using h48
      refine callX_of ((Tryz.strings_TrimPrefix _ _ _).mono ?_)
      rintro e w1 ⟨rfl, rfl⟩
      refine ⟨_, rfl, _, rfl, ?_⟩
      refine callX_of ((Tryz.strings_HasPrefix _ _ _).mono ?_)
      rintro e w2 ⟨rfl, rfl⟩
      refine ⟨_, rfl, _, rfl, ?_⟩
      rw [str_list, str_list]
      have he : nought (next S.data.toList p).text = Lib.hasPrefix (Lib.trimPrefix (next S.data.toList p).text [45]) [48] := by
        unfold nought; rw [decide_eq_true h48, Bool.true_and]
      rw [show (ByteArray.mk (Array.mk [(45 : UInt8)])).data.toList = [45] by rfl, ← he]
      refine Sif_cases (fun h => bad (.inr (hnone h)) _ (Ch.refl _ _)) (fun h => ⟨by trivial, hk1, h⟩)
    · have h48 : (next S.data.toList p).text = [48] := by simpa using h48
      rw [h48]; rfl
theorem integer_u16 {S : ByteArray} (hs : S.size ≤ 2 ^ 40) {rb p : Nat} {w : World} (hr : RS S rb p w) (hL : LW w) (h2 : 8 ≤ rb) {K : Value → World → Prop} {KP : List PanicEntry → World → Prop}
    (hk : (next S.data.toList p).kind = 1 → ∀ n w', intB 3 (next S.data.toList p).text = some n → RS S rb (next S.data.toList p).fin w' → Ch (· = rb) w w' → K (.int .u64 (n : Int)) w')
    (hp : ((next S.data.toList p).kind ≠ 1 ∨ intB 3 (next S.data.toList p).text = none) → ∀ w', Ch (fun _ => False) w w' → KP (flt (next S.data.toList p).beg (if (next S.data.toList p).kind = 5 then 42 else 41)) w') :
    callX Tryz.prog 119 [.pointer (some ⟨rb, 0, none⟩), .int .i64 16, .bool false] w K KP := by
  apply ok_note_reader_integer
  unfold wp_note_reader_integer
  obtain ⟨h0, hple⟩ := hr
  have h0' := h0
  unfold rcl at h0
  have hL8 := hL.size
  have hlies := next_lies S.data.toList p (by rw [sl]; exact hple)
  rw [sl] at hlies
  have htx := (next_text S.data.toList (by rw [sl]; exact hple : p ≤ S.data.toList.length)).1
  have hlet := toks_letters (s := S.data.toList) (a := p)
  simp only [nn, add_at, Nat.zero_add]
  refine ⟨_, cellK h0 4 rfl, ?_⟩
  have bad : (next S.data.toList p).kind ≠ 1 ∨ intB 3 (next S.data.toList p).text = none → ∀ {K' : Value → World → Prop} w', Ch (fun _ => False) w w' → callX Tryz.prog 43 [.pointer (some ⟨rb, 0, none⟩), .int .i64 41] w' K' KP := fun h K' w' c =>
    refuse_ok (e := 41) (RS.ch ⟨h0', hple⟩ c id) (hp h w' c)
  refine ⟨fun w1 => w1 = w ∧ (next S.data.toList p).kind = 1 ∧ nought (next S.data.toList p).text = false, ?_, ?_⟩
  · rintro w1 ⟨rfl, hk1, hno⟩
    rw [ptx_one hk1]
    have htl : (next S.data.toList p).text.length ≤ 2 ^ 40 := by have := htx (by omega) (by omega); omega
    have hrd := (uint_read (B := 16) (k := 3) (s := (next S.data.toList p).text) (.inr (.inl ⟨rfl, rfl⟩))).2 hno
    refine Sif_false ?_
    refine (parseUint16 hL ⟨(next S.data.toList p).text.toArray⟩ (by simpa [ByteArray.size] using htl)).mono ?_
    rintro e w2 ⟨c2, n, v, rfl, hi, hv⟩
    rw [str_list] at hv
    refine .inl ⟨_, rfl, _, _, rfl, ?_⟩
    refine ⟨fun w3 => w3 = w2 ∧ isNilI v = true, ?_, hi, ?_⟩
    · rintro w3 ⟨rfl, hnil⟩
      refine callX_of (step_ok' hs (RS.ch ⟨h0', hple⟩ c2 id) ((hL.ch0 c2).ut) (by omega) fun w4 r4 c4 => ⟨_, _, _, rfl, ?_⟩)
      rcases hv with ⟨_, hv⟩ | ⟨hv, _⟩
      · exact hk hk1 n w4 ((hrd n).1 hv) r4 ((c2.mono fun _ _ h => h.elim).trans' c4)
      · rw [hv] at hnil; cases hnil
    · refine Sif_cases (fun h => ?_) (fun h => ⟨by trivial, by simpa using h⟩)
      rcases hv with ⟨hv, _⟩ | ⟨_, hv⟩
      · rw [hv] at h; cases h
      · refine bad (.inr ?_) w2 c2
        cases hi : intB 3 (next S.data.toList p).text with
        | none => rfl
        | some j => exact absurd ((hrd j).2 hi) (hv j)
  · refine ⟨_, cellK h0 2 rfl, ?_⟩
    rw [int_bne, Bool.not_not]
    refine Sif_cases (fun h => ?_) (fun h => bad (.inl fun e => of_decide_eq_false h ((pk_one _).2 e)) w (Ch.refl _ _))
    have hk1 := (pk_one _).1 (of_decide_eq_true h)
    rw [ptx_one hk1]
    have hnone := (uint_read (B := 16) (k := 3) (s := (next S.data.toList p).text) (.inr (.inl ⟨rfl, rfl⟩))).1
    rw [show (ByteArray.mk (Array.mk [(48 : UInt8)])) = ⟨([48] : Bs).toArray⟩ by rfl, bs_eq]
    refine Sif_cases (fun h48 => ?_) (fun h48 => ⟨by trivial, hk1, ?_⟩)
    · have h48 : (next S.data.toList p).text ≠ [48] := by simpa using h48
      refine callX_of ((Tryz.strings_TrimPrefix _ _ _).mono ?_)
      rintro e w1 ⟨rfl, rfl⟩
      refine ⟨_, rfl, _, rfl, ?_⟩
      refine callX_of ((Tryz.strings_HasPrefix _ _ _).mono ?_)
      rintro e w2 ⟨rfl, rfl⟩
      refine ⟨_, rfl, _, rfl, ?_⟩
      rw [str_list, str_list]
      have he : nought (next S.data.toList p).text = Lib.hasPrefix (Lib.trimPrefix (next S.data.toList p).text [45]) [48] := by
        unfold nought; rw [decide_eq_true h48, Bool.true_and]
      rw [show (ByteArray.mk (Array.mk [(45 : UInt8)])).data.toList = [45] by rfl, ← he]
      refine Sif_cases (fun h => bad (.inr (hnone h)) _ (Ch.refl _ _)) (fun h => ⟨by trivial, hk1, h⟩)
    · have h48 : (next S.data.toList p).text = [48] := by simpa using h48
      rw [h48]; rfl
theorem integer_u32 {S : ByteArray} (hs : S.size ≤ 2 ^ 40) {rb p : Nat} {w : World} (hr : RS S rb p w) (hL : LW w) (h2 : 8 ≤ rb) {K : Value → World → Prop} {KP : List PanicEntry → World → Prop}
    (hk : (next S.data.toList p).kind = 1 → ∀ n w', intB 4 (next S.data.toList p).text = some n → RS S rb (next S.data.toList p).fin w' → Ch (· = rb) w w' → K (.int .u64 (n : Int)) w')
    (hp : ((next S.data.toList p).kind ≠ 1 ∨ intB 4 (next S.data.toList p).text = none) → ∀ w', Ch (fun _ => False) w w' → KP (flt (next S.data.toList p).beg (if (next S.data.toList p).kind = 5 then 42 else 41)) w') :
    callX Tryz.prog 119 [.pointer (some ⟨rb, 0, none⟩), .int .i64 32, .bool false] w K KP := by
  apply ok_note_reader_integer
  unfold wp_note_reader_integer
  obtain ⟨h0, hple⟩ := hr
  have h0' := h0
  unfold rcl at h0
  have hL8 := hL.size
  have hlies := next_lies S.data.toList p (by rw [sl]; exact hple)
  rw [sl] at hlies
  have htx := (next_text S.data.toList (by rw [sl]; exact hple : p ≤ S.data.toList.length)).1
  have hlet := toks_letters (s := S.data.toList) (a := p)
  simp only [nn, add_at, Nat.zero_add]
  refine ⟨_, cellK h0 4 rfl, ?_⟩
  have bad : (next S.data.toList p).kind ≠ 1 ∨ intB 4 (next S.data.toList p).text = none → ∀ {K' : Value → World → Prop} w', Ch (fun _ => False) w w' → callX Tryz.prog 43 [.pointer (some ⟨rb, 0, none⟩), .int .i64 41] w' K' KP := fun h K' w' c =>
    refuse_ok (e := 41) (RS.ch ⟨h0', hple⟩ c id) (hp h w' c)
  refine ⟨fun w1 => w1 = w ∧ (next S.data.toList p).kind = 1 ∧ nought (next S.data.toList p).text = false, ?_, ?_⟩
  · rintro w1 ⟨rfl, hk1, hno⟩
    rw [ptx_one hk1]
    have htl : (next S.data.toList p).text.length ≤ 2 ^ 40 := by have := htx (by omega) (by omega); omega
    have hrd := (uint_read (B := 32) (k := 4) (s := (next S.data.toList p).text) (.inr (.inr (.inl ⟨rfl, rfl⟩)))).2 hno
    refine Sif_false ?_
    refine (parseUint32 hL ⟨(next S.data.toList p).text.toArray⟩ (by simpa [ByteArray.size] using htl)).mono ?_
    rintro e w2 ⟨c2, n, v, rfl, hi, hv⟩
    rw [str_list] at hv
    refine .inl ⟨_, rfl, _, _, rfl, ?_⟩
    refine ⟨fun w3 => w3 = w2 ∧ isNilI v = true, ?_, hi, ?_⟩
    · rintro w3 ⟨rfl, hnil⟩
      refine callX_of (step_ok' hs (RS.ch ⟨h0', hple⟩ c2 id) ((hL.ch0 c2).ut) (by omega) fun w4 r4 c4 => ⟨_, _, _, rfl, ?_⟩)
      rcases hv with ⟨_, hv⟩ | ⟨hv, _⟩
      · exact hk hk1 n w4 ((hrd n).1 hv) r4 ((c2.mono fun _ _ h => h.elim).trans' c4)
      · rw [hv] at hnil; cases hnil
    · refine Sif_cases (fun h => ?_) (fun h => ⟨by trivial, by simpa using h⟩)
      rcases hv with ⟨hv, _⟩ | ⟨_, hv⟩
      · rw [hv] at h; cases h
      · refine bad (.inr ?_) w2 c2
        cases hi : intB 4 (next S.data.toList p).text with
        | none => rfl
        | some j => exact absurd ((hrd j).2 hi) (hv j)
  · refine ⟨_, cellK h0 2 rfl, ?_⟩
    rw [int_bne, Bool.not_not]
    refine Sif_cases (fun h => ?_) (fun h => bad (.inl fun e => of_decide_eq_false h ((pk_one _).2 e)) w (Ch.refl _ _))
    have hk1 := (pk_one _).1 (of_decide_eq_true h)
    rw [ptx_one hk1]
    have hnone := (uint_read (B := 32) (k := 4) (s := (next S.data.toList p).text) (.inr (.inr (.inl ⟨rfl, rfl⟩)))).1
    rw [show (ByteArray.mk (Array.mk [(48 : UInt8)])) = ⟨([48] : Bs).toArray⟩ by rfl, bs_eq]
    refine Sif_cases (fun h48 => ?_) (fun h48 => ⟨by trivial, hk1, ?_⟩)
    · have h48 : (next S.data.toList p).text ≠ [48] := by simpa using h48
      refine callX_of ((Tryz.strings_TrimPrefix _ _ _).mono ?_)
      rintro e w1 ⟨rfl, rfl⟩
      refine ⟨_, rfl, _, rfl, ?_⟩
      refine callX_of ((Tryz.strings_HasPrefix _ _ _).mono ?_)
      rintro e w2 ⟨rfl, rfl⟩
      refine ⟨_, rfl, _, rfl, ?_⟩
      rw [str_list, str_list]
      have he : nought (next S.data.toList p).text = Lib.hasPrefix (Lib.trimPrefix (next S.data.toList p).text [45]) [48] := by
        unfold nought; rw [decide_eq_true h48, Bool.true_and]
      rw [show (ByteArray.mk (Array.mk [(45 : UInt8)])).data.toList = [45] by rfl, ← he]
      refine Sif_cases (fun h => bad (.inr (hnone h)) _ (Ch.refl _ _)) (fun h => ⟨by trivial, hk1, h⟩)
    · have h48 : (next S.data.toList p).text = [48] := by simpa using h48
      rw [h48]; rfl
theorem integer_u64 {S : ByteArray} (hs : S.size ≤ 2 ^ 40) {rb p : Nat} {w : World} (hr : RS S rb p w) (hL : LW w) (h2 : 8 ≤ rb) {K : Value → World → Prop} {KP : List PanicEntry → World → Prop}
    (hk : (next S.data.toList p).kind = 1 → ∀ n w', intB 5 (next S.data.toList p).text = some n → RS S rb (next S.data.toList p).fin w' → Ch (· = rb) w w' → K (.int .u64 (n : Int)) w')
    (hp : ((next S.data.toList p).kind ≠ 1 ∨ intB 5 (next S.data.toList p).text = none) → ∀ w', Ch (fun _ => False) w w' → KP (flt (next S.data.toList p).beg (if (next S.data.toList p).kind = 5 then 42 else 41)) w') :
    callX Tryz.prog 119 [.pointer (some ⟨rb, 0, none⟩), .int .i64 64, .bool false] w K KP := by
  apply ok_note_reader_integer
  unfold wp_note_reader_integer
  obtain ⟨h0, hple⟩ := hr
  have h0' := h0
  unfold rcl at h0
  have hL8 := hL.size
  have hlies := next_lies S.data.toList p (by rw [sl]; exact hple)
  rw [sl] at hlies
  have htx := (next_text S.data.toList (by rw [sl]; exact hple : p ≤ S.data.toList.length)).1
  have hlet := toks_letters (s := S.data.toList) (a := p)
  simp only [nn, add_at, Nat.zero_add]
  refine ⟨_, cellK h0 4 rfl, ?_⟩
  have bad : (next S.data.toList p).kind ≠ 1 ∨ intB 5 (next S.data.toList p).text = none → ∀ {K' : Value → World → Prop} w', Ch (fun _ => False) w w' → callX Tryz.prog 43 [.pointer (some ⟨rb, 0, none⟩), .int .i64 41] w' K' KP := fun h K' w' c =>
    refuse_ok (e := 41) (RS.ch ⟨h0', hple⟩ c id) (hp h w' c)
  refine ⟨fun w1 => w1 = w ∧ (next S.data.toList p).kind = 1 ∧ nought (next S.data.toList p).text = false, ?_, ?_⟩
  · rintro w1 ⟨rfl, hk1, hno⟩
    rw [ptx_one hk1]
    have htl : (next S.data.toList p).text.length ≤ 2 ^ 40 := by have := htx (by omega) (by omega); omega
    have hrd := (uint_read (B := 64) (k := 5) (s := (next S.data.toList p).text) (.inr (.inr (.inr ⟨rfl, rfl⟩)))).2 hno
    refine Sif_false ?_
    refine (parseUint64 hL ⟨(next S.data.toList p).text.toArray⟩ (by simpa [ByteArray.size] using htl)).mono ?_
    rintro e w2 ⟨c2, n, v, rfl, hi, hv⟩
    rw [str_list] at hv
    refine .inl ⟨_, rfl, _, _, rfl, ?_⟩
    refine ⟨fun w3 => w3 = w2 ∧ isNilI v = true, ?_, hi, ?_⟩
    · rintro w3 ⟨rfl, hnil⟩
      refine callX_of (step_ok' hs (RS.ch ⟨h0', hple⟩ c2 id) ((hL.ch0 c2).ut) (by omega) fun w4 r4 c4 => ⟨_, _, _, rfl, ?_⟩)
      rcases hv with ⟨_, hv⟩ | ⟨hv, _⟩
      · exact hk hk1 n w4 ((hrd n).1 hv) r4 ((c2.mono fun _ _ h => h.elim).trans' c4)
      · rw [hv] at hnil; cases hnil
    · refine Sif_cases (fun h => ?_) (fun h => ⟨by trivial, by simpa using h⟩)
      rcases hv with ⟨hv, _⟩ | ⟨_, hv⟩
      · rw [hv] at h; cases h
      · refine bad (.inr ?_) w2 c2
        cases hi : intB 5 (next S.data.toList p).text with
        | none => rfl
        | some j => exact absurd ((hrd j).2 hi) (hv j)
  · refine ⟨_, cellK h0 2 rfl, ?_⟩
    rw [int_bne, Bool.not_not]
    refine Sif_cases (fun h => ?_) (fun h => bad (.inl fun e => of_decide_eq_false h ((pk_one _).2 e)) w (Ch.refl _ _))
    have hk1 := (pk_one _).1 (of_decide_eq_true h)
    rw [ptx_one hk1]
    have hnone := (uint_read (B := 64) (k := 5) (s := (next S.data.toList p).text) (.inr (.inr (.inr ⟨rfl, rfl⟩)))).1
    rw [show (ByteArray.mk (Array.mk [(48 : UInt8)])) = ⟨([48] : Bs).toArray⟩ by rfl, bs_eq]
    refine Sif_cases (fun h48 => ?_) (fun h48 => ⟨by trivial, hk1, ?_⟩)
    · have h48 : (next S.data.toList p).text ≠ [48] := by simpa using h48
      refine callX_of ((Tryz.strings_TrimPrefix _ _ _).mono ?_)
      rintro e w1 ⟨rfl, rfl⟩
      refine ⟨_, rfl, _, rfl, ?_⟩
      refine callX_of ((Tryz.strings_HasPrefix _ _ _).mono ?_)
      rintro e w2 ⟨rfl, rfl⟩
      refine ⟨_, rfl, _, rfl, ?_⟩
      rw [str_list, str_list]
      have he : nought (next S.data.toList p).text = Lib.hasPrefix (Lib.trimPrefix (next S.data.toList p).text [45]) [48] := by
        unfold nought; rw [decide_eq_true h48, Bool.true_and]
      rw [show (ByteArray.mk (Array.mk [(45 : UInt8)])).data.toList = [45] by rfl, ← he]
      refine Sif_cases (fun h => bad (.inr (hnone h)) _ (Ch.refl _ _)) (fun h => ⟨by trivial, hk1, h⟩)
    · have h48 : (next S.data.toList p).text = [48] := by simpa using h48
      rw [h48]; rfl
theorem integer_i8 {S : ByteArray} (hs : S.size ≤ 2 ^ 40) {rb p : Nat} {w : World} (hr : RS S rb p w) (hL : LW w) (h2 : 8 ≤ rb) {K : Value → World → Prop} {KP : List PanicEntry → World → Prop}
    (hk : (next S.data.toList p).kind = 1 → ∀ n w', intB 6 (next S.data.toList p).text = some n → RS S rb (next S.data.toList p).fin w' → Ch (· = rb) w w' → K (.int .u64 (n : Int)) w')
    (hp : ((next S.data.toList p).kind ≠ 1 ∨ intB 6 (next S.data.toList p).text = none) → ∀ w', Ch (fun _ => False) w w' → KP (flt (next S.data.toList p).beg (if (next S.data.toList p).kind = 5 then 42 else 41)) w') :
    callX Tryz.prog 119 [.pointer (some ⟨rb, 0, none⟩), .int .i64 8, .bool true] w K KP := by
  apply ok_note_reader_integer
  unfold wp_note_reader_integer
  obtain ⟨h0, hple⟩ := hr
  have h0' := h0
  unfold rcl at h0
  have hL8 := hL.size
  have hlies := next_lies S.data.toList p (by rw [sl]; exact hple)
  rw [sl] at hlies
  have htx := (next_text S.data.toList (by rw [sl]; exact hple : p ≤ S.data.toList.length)).1
  have hlet := toks_letters (s := S.data.toList) (a := p)
  simp only [nn, add_at, Nat.zero_add]
  refine ⟨_, cellK h0 4 rfl, ?_⟩
  have bad : (next S.data.toList p).kind ≠ 1 ∨ intB 6 (next S.data.toList p).text = none → ∀ {K' : Value → World → Prop} w', Ch (fun _ => False) w w' → callX Tryz.prog 43 [.pointer (some ⟨rb, 0, none⟩), .int .i64 41] w' K' KP := fun h K' w' c =>
    refuse_ok (e := 41) (RS.ch ⟨h0', hple⟩ c id) (hp h w' c)
  refine ⟨fun w1 => w1 = w ∧ (next S.data.toList p).kind = 1 ∧ nought (next S.data.toList p).text = false, ?_, ?_⟩
  · rintro w1 ⟨rfl, hk1, hno⟩
    rw [ptx_one hk1]
    have htl : (next S.data.toList p).text.length ≤ 2 ^ 40 := by have := htx (by omega) (by omega); omega
    have hrd := (int_read (B := 8) (k := 6) (hlet hk1) (.inl ⟨rfl, rfl⟩)).2 hno
    refine Sif_true ?_
    refine (parseInt8 hL ⟨(next S.data.toList p).text.toArray⟩ (by simpa [ByteArray.size] using htl)).mono ?_
    rintro e w2 ⟨c2, n, v, rfl, hi, hv⟩
    rw [str_list] at hv
    refine .inl ⟨_, rfl, _, _, rfl, ?_⟩
    refine ⟨fun w3 => w3 = w2 ∧ isNilI v = true, ?_, hi, ?_⟩
    · rintro w3 ⟨rfl, hnil⟩
      refine callX_of (step_ok' hs (RS.ch ⟨h0', hple⟩ c2 id) ((hL.ch0 c2).ut) (by omega) fun w4 r4 c4 => ⟨_, _, _, rfl, ?_⟩)
      rcases hv with ⟨_, hv⟩ | ⟨hv, _⟩
      · simp only [nameI]
        cases hi : intB 6 (next S.data.toList p).text with
        | none => exact absurd hv (hrd.2 hi n)
        | some j =>
          obtain ⟨v', g1, g2⟩ := hrd.1 j hi
          rw [g1] at hv
          cases hv
          have e : IntKind.wrap .u64 n = (j : Int) := by rw [← g2]; rfl
          rw [e]
          exact hk hk1 j w4 hi r4 ((c2.mono fun _ _ h => h.elim).trans' c4)
      · rw [hv] at hnil; cases hnil
    · refine Sif_cases (fun h => ?_) (fun h => ⟨by trivial, by simpa using h⟩)
      rcases hv with ⟨hv, _⟩ | ⟨_, hv⟩
      · rw [hv] at h; cases h
      · refine bad (.inr ?_) w2 c2
        cases hi : intB 6 (next S.data.toList p).text with
        | none => rfl
        | some j =>
          obtain ⟨v', g1, g2⟩ := hrd.1 j hi
          exact absurd g1 (hv v')
  · refine ⟨_, cellK h0 2 rfl, ?_⟩
    rw [int_bne, Bool.not_not]
    refine Sif_cases (fun h => ?_) (fun h => bad (.inl fun e => of_decide_eq_false h ((pk_one _).2 e)) w (Ch.refl _ _))
    have hk1 := (pk_one _).1 (of_decide_eq_true h)
    rw [ptx_one hk1]
    have hnone := (int_read (B := 8) (k := 6) (hlet hk1) (.inl ⟨rfl, rfl⟩)).1
    rw [show (ByteArray.mk (Array.mk [(48 : UInt8)])) = ⟨([48] : Bs).toArray⟩ by rfl, bs_eq]
    refine Sif_cases (fun h48 => ?_) (fun h48 => ⟨by trivial, hk1, ?_⟩)
    · have h48 : (next S.data.toList p).text ≠ [48] := by simpa using h48
      refine callX_of ((Tryz.strings_TrimPrefix _ _ _).mono ?_)
      rintro e w1 ⟨rfl, rfl⟩
      refine ⟨_, rfl, _, rfl, ?_⟩
      refine callX_of ((Tryz.strings_HasPrefix _ _ _).mono ?_)
      rintro e w2 ⟨rfl, rfl⟩
      refine ⟨_, rfl, _, rfl, ?_⟩
      rw [str_list, str_list]
      have he : nought (next S.data.toList p).text = Lib.hasPrefix (Lib.trimPrefix (next S.data.toList p).text [45]) [48] := by
        unfold nought; rw [decide_eq_true h48, Bool.true_and]
      rw [show (ByteArray.mk (Array.mk [(45 : UInt8)])).data.toList = [45] by rfl, ← he]
      refine Sif_cases (fun h => bad (.inr (hnone h)) _ (Ch.refl _ _)) (fun h => ⟨by trivial, hk1, h⟩)
    · have h48 : (next S.data.toList p).text = [48] := by simpa using h48
      rw [h48]; rfl
theorem integer_i16 {S : ByteArray} (hs : S.size ≤ 2 ^ 40) {rb p : Nat} {w : World} (hr : RS S rb p w) (hL : LW w) (h2 : 8 ≤ rb) {K : Value → World → Prop} {KP : List PanicEntry → World → Prop}
    (hk : (next S.data.toList p).kind = 1 → ∀ n w', intB 7 (next S.data.toList p).text = some n → RS S rb (next S.data.toList p).fin w' → Ch (· = rb) w w' → K (.int .u64 (n : Int)) w')
    (hp : ((next S.data.toList p).kind ≠ 1 ∨ intB 7 (next S.data.toList p).text = none) → ∀ w', Ch (fun _ => False) w w' → KP (flt (next S.data.toList p).beg (if (next S.data.toList p).kind = 5 then 42 else 41)) w') :
    callX Tryz.prog 119 [.pointer (some ⟨rb, 0, none⟩), .int .i64 16, .bool true] w K KP := by
  apply ok_note_reader_integer
  unfold wp_note_reader_integer
  obtain ⟨h0, hple⟩ := hr
  have h0' := h0
  unfold rcl at h0
  have hL8 := hL.size
  have hlies := next_lies S.data.toList p (by rw [sl]; exact hple)
  rw [sl] at hlies
  have htx := (next_text S.data.toList (by rw [sl]; exact hple : p ≤ S.data.toList.length)).1
  have hlet := toks_letters (s := S.data.toList) (a := p)
  simp only [nn, add_at, Nat.zero_add]
  refine ⟨_, cellK h0 4 rfl, ?_⟩
  have bad : (next S.data.toList p).kind ≠ 1 ∨ intB 7 (next S.data.toList p).text = none → ∀ {K' : Value → World → Prop} w', Ch (fun _ => False) w w' → callX Tryz.prog 43 [.pointer (some ⟨rb, 0, none⟩), .int .i64 41] w' K' KP := fun h K' w' c =>
    refuse_ok (e := 41) (RS.ch ⟨h0', hple⟩ c id) (hp h w' c)
  refine ⟨fun w1 => w1 = w ∧ (next S.data.toList p).kind = 1 ∧ nought (next S.data.toList p).text = false, ?_, ?_⟩
  · rintro w1 ⟨rfl, hk1, hno⟩
    rw [ptx_one hk1]
    have htl : (next S.data.toList p).text.length ≤ 2 ^ 40 := by have := htx (by omega) (by omega); omega
    have hrd := (int_read (B := 16) (k := 7) (hlet hk1) (.inr (.inl ⟨rfl, rfl⟩))).2 hno
    refine Sif_true ?_
    refine (parseInt16 hL ⟨(next S.data.toList p).text.toArray⟩ (by simpa [ByteArray.size] using htl)).mono ?_
    rintro e w2 ⟨c2, n, v, rfl, hi, hv⟩
    rw [str_list] at hv
    refine .inl ⟨_, rfl, _, _, rfl, ?_⟩
    refine ⟨fun w3 => w3 = w2 ∧ isNilI v = true, ?_, hi, ?_⟩
    · rintro w3 ⟨rfl, hnil⟩
      refine callX_of (step_ok' hs (RS.ch ⟨h0', hple⟩ c2 id) ((hL.ch0 c2).ut) (by omega) fun w4 r4 c4 => ⟨_, _, _, rfl, ?_⟩)
      rcases hv with ⟨_, hv⟩ | ⟨hv, _⟩
      · simp only [nameI]
        cases hi : intB 7 (next S.data.toList p).text with
        | none => exact absurd hv (hrd.2 hi n)
        | some j =>
          obtain ⟨v', g1, g2⟩ := hrd.1 j hi
          rw [g1] at hv
          cases hv
          have e : IntKind.wrap .u64 n = (j : Int) := by rw [← g2]; rfl
          rw [e]
          exact hk hk1 j w4 hi r4 ((c2.mono fun _ _ h => h.elim).trans' c4)
      · rw [hv] at hnil; cases hnil
    · refine Sif_cases (fun h => ?_) (fun h => ⟨by trivial, by simpa using h⟩)
      rcases hv with ⟨hv, _⟩ | ⟨_, hv⟩
      · rw [hv] at h; cases h
      · refine bad (.inr ?_) w2 c2
        cases hi : intB 7 (next S.data.toList p).text with
        | none => rfl
        | some j =>
          obtain ⟨v', g1, g2⟩ := hrd.1 j hi
          exact absurd g1 (hv v')
  · refine ⟨_, cellK h0 2 rfl, ?_⟩
    rw [int_bne, Bool.not_not]
    refine Sif_cases (fun h => ?_) (fun h => bad (.inl fun e => of_decide_eq_false h ((pk_one _).2 e)) w (Ch.refl _ _))
    have hk1 := (pk_one _).1 (of_decide_eq_true h)
    rw [ptx_one hk1]
    have hnone := (int_read (B := 16) (k := 7) (hlet hk1) (.inr (.inl ⟨rfl, rfl⟩))).1
    rw [show (ByteArray.mk (Array.mk [(48 : UInt8)])) = ⟨([48] : Bs).toArray⟩ by rfl, bs_eq]
    refine Sif_cases (fun h48 => ?_) (fun h48 => ⟨by trivial, hk1, ?_⟩)
    · have h48 : (next S.data.toList p).text ≠ [48] := by simpa using h48
      refine callX_of ((Tryz.strings_TrimPrefix _ _ _).mono ?_)
      rintro e w1 ⟨rfl, rfl⟩
      refine ⟨_, rfl, _, rfl, ?_⟩
      refine callX_of ((Tryz.strings_HasPrefix _ _ _).mono ?_)
      rintro e w2 ⟨rfl, rfl⟩
      refine ⟨_, rfl, _, rfl, ?_⟩
      rw [str_list, str_list]
      have he : nought (next S.data.toList p).text = Lib.hasPrefix (Lib.trimPrefix (next S.data.toList p).text [45]) [48] := by
        unfold nought; rw [decide_eq_true h48, Bool.true_and]
      rw [show (ByteArray.mk (Array.mk [(45 : UInt8)])).data.toList = [45] by rfl, ← he]
      refine Sif_cases (fun h => bad (.inr (hnone h)) _ (Ch.refl _ _)) (fun h => ⟨by trivial, hk1, h⟩)
    · have h48 : (next S.data.toList p).text = [48] := by simpa using h48
      rw [h48]; rfl
theorem integer_i32 {S : ByteArray} (hs : S.size ≤ 2 ^ 40) {rb p : Nat} {w : World} (hr : RS S rb p w) (hL : LW w) (h2 : 8 ≤ rb) {K : Value → World → Prop} {KP : List PanicEntry → World → Prop}
    (hk : (next S.data.toList p).kind = 1 → ∀ n w', intB 8 (next S.data.toList p).text = some n → RS S rb (next S.data.toList p).fin w' → Ch (· = rb) w w' → K (.int .u64 (n : Int)) w')
    (hp : ((next S.data.toList p).kind ≠ 1 ∨ intB 8 (next S.data.toList p).text = none) → ∀ w', Ch (fun _ => False) w w' → KP (flt (next S.data.toList p).beg (if (next S.data.toList p).kind = 5 then 42 else 41)) w') :
    callX Tryz.prog 119 [.pointer (some ⟨rb, 0, none⟩), .int .i64 32, .bool true] w K KP := by
  apply ok_note_reader_integer
  unfold wp_note_reader_integer
  obtain ⟨h0, hple⟩ := hr
  have h0' := h0
  unfold rcl at h0
  have hL8 := hL.size
  have hlies := next_lies S.data.toList p (by rw [sl]; exact hple)
  rw [sl] at hlies
  have htx := (next_text S.data.toList (by rw [sl]; exact hple : p ≤ S.data.toList.length)).1
  have hlet := toks_letters (s := S.data.toList) (a := p)
  simp only [nn, add_at, Nat.zero_add]
  refine ⟨_, cellK h0 4 rfl, ?_⟩
  have bad : (next S.data.toList p).kind ≠ 1 ∨ intB 8 (next S.data.toList p).text = none → ∀ {K' : Value → World → Prop} w', Ch (fun _ => False) w w' → callX Tryz.prog 43 [.pointer (some ⟨rb, 0, none⟩), .int .i64 41] w' K' KP := fun h K' w' c =>
    refuse_ok (e := 41) (RS.ch ⟨h0', hple⟩ c id) (hp h w' c)
  refine ⟨fun w1 => w1 = w ∧ (next S.data.toList p).kind = 1 ∧ nought (next S.data.toList p).text = false, ?_, ?_⟩
  · rintro w1 ⟨rfl, hk1, hno⟩
    rw [ptx_one hk1]
    have htl : (next S.data.toList p).text.length ≤ 2 ^ 40 := by have := htx (by omega) (by omega); omega
    have hrd := (int_read (B := 32) (k := 8) (hlet hk1) (.inr (.inr (.inl ⟨rfl, rfl⟩)))).2 hno
    refine Sif_true ?_
    refine (parseInt32 hL ⟨(next S.data.toList p).text.toArray⟩ (by simpa [ByteArray.size] using htl)).mono ?_
    rintro e w2 ⟨c2, n, v, rfl, hi, hv⟩
    rw [str_list] at hv
    refine .inl ⟨_, rfl, _, _, rfl, ?_⟩
    refine ⟨fun w3 => w3 = w2 ∧ isNilI v = true, ?_, hi, ?_⟩
    · rintro w3 ⟨rfl, hnil⟩
      refine callX_of (step_ok' hs (RS.ch ⟨h0', hple⟩ c2 id) ((hL.ch0 c2).ut) (by omega) fun w4 r4 c4 => ⟨_, _, _, rfl, ?_⟩)
      rcases hv with ⟨_, hv⟩ | ⟨hv, _⟩
      · simp only [nameI]
        cases hi : intB 8 (next S.data.toList p).text with
        | none => exact absurd hv (hrd.2 hi n)
        | some j =>
          obtain ⟨v', g1, g2⟩ := hrd.1 j hi
          rw [g1] at hv
          cases hv
          have e : IntKind.wrap .u64 n = (j : Int) := by rw [← g2]; rfl
          rw [e]
          exact hk hk1 j w4 hi r4 ((c2.mono fun _ _ h => h.elim).trans' c4)
      · rw [hv] at hnil; cases hnil
    · refine Sif_cases (fun h => ?_) (fun h => ⟨by trivial, by simpa using h⟩)
      rcases hv with ⟨hv, _⟩ | ⟨_, hv⟩
      · rw [hv] at h; cases h
      · refine bad (.inr ?_) w2 c2
        cases hi : intB 8 (next S.data.toList p).text with
        | none => rfl
        | some j =>
          obtain ⟨v', g1, g2⟩ := hrd.1 j hi
          exact absurd g1 (hv v')
  · refine ⟨_, cellK h0 2 rfl, ?_⟩
    rw [int_bne, Bool.not_not]
    refine Sif_cases (fun h => ?_) (fun h => bad (.inl fun e => of_decide_eq_false h ((pk_one _).2 e)) w (Ch.refl _ _))
    have hk1 := (pk_one _).1 (of_decide_eq_true h)
    rw [ptx_one hk1]
    have hnone := (int_read (B := 32) (k := 8) (hlet hk1) (.inr (.inr (.inl ⟨rfl, rfl⟩)))).1
    rw [show (ByteArray.mk (Array.mk [(48 : UInt8)])) = ⟨([48] : Bs).toArray⟩ by rfl, bs_eq]
    refine Sif_cases (fun h48 => ?_) (fun h48 => ⟨by trivial, hk1, ?_⟩)
    · have h48 : (next S.data.toList p).text ≠ [48] := by simpa using h48
      refine callX_of ((Tryz.strings_TrimPrefix _ _ _).mono ?_)
      rintro e w1 ⟨rfl, rfl⟩
      refine ⟨_, rfl, _, rfl, ?_⟩
      refine callX_of ((Tryz.strings_HasPrefix _ _ _).mono ?_)
      rintro e w2 ⟨rfl, rfl⟩
      refine ⟨_, rfl, _, rfl, ?_⟩
      rw [str_list, str_list]
      have he : nought (next S.data.toList p).text = Lib.hasPrefix (Lib.trimPrefix (next S.data.toList p).text [45]) [48] := by
        unfold nought; rw [decide_eq_true h48, Bool.true_and]
      rw [show (ByteArray.mk (Array.mk [(45 : UInt8)])).data.toList = [45] by rfl, ← he]
      refine Sif_cases (fun h => bad (.inr (hnone h)) _ (Ch.refl _ _)) (fun h => ⟨by trivial, hk1, h⟩)
    · have h48 : (next S.data.toList p).text = [48] := by simpa using h48
      rw [h48]; rfl
theorem integer_i64 {S : ByteArray} (hs : S.size ≤ 2 ^ 40) {rb p : Nat} {w : World} (hr : RS S rb p w) (hL : LW w) (h2 : 8 ≤ rb) {K : Value → World → Prop} {KP : List PanicEntry → World → Prop}
    (hk : (next S.data.toList p).kind = 1 → ∀ n w', intB 9 (next S.data.toList p).text = some n → RS S rb (next S.data.toList p).fin w' → Ch (· = rb) w w' → K (.int .u64 (n : Int)) w')
    (hp : ((next S.data.toList p).kind ≠ 1 ∨ intB 9 (next S.data.toList p).text = none) → ∀ w', Ch (fun _ => False) w w' → KP (flt (next S.data.toList p).beg (if (next S.data.toList p).kind = 5 then 42 else 41)) w') :
    callX Tryz.prog 119 [.pointer (some ⟨rb, 0, none⟩), .int .i64 64, .bool true] w K KP := by
  apply ok_note_reader_integer
  unfold wp_note_reader_integer
  obtain ⟨h0, hple⟩ := hr
  have h0' := h0
  unfold rcl at h0
  have hL8 := hL.size
  have hlies := next_lies S.data.toList p (by rw [sl]; exact hple)
  rw [sl] at hlies
  have htx := (next_text S.data.toList (by rw [sl]; exact hple : p ≤ S.data.toList.length)).1
  have hlet := toks_letters (s := S.data.toList) (a := p)
  simp only [nn, add_at, Nat.zero_add]
  refine ⟨_, cellK h0 4 rfl, ?_⟩
  have bad : (next S.data.toList p).kind ≠ 1 ∨ intB 9 (next S.data.toList p).text = none → ∀ {K' : Value → World → Prop} w', Ch (fun _ => False) w w' → callX Tryz.prog 43 [.pointer (some ⟨rb, 0, none⟩), .int .i64 41] w' K' KP := fun h K' w' c =>
    refuse_ok (e := 41) (RS.ch ⟨h0', hple⟩ c id) (hp h w' c)
  refine ⟨fun w1 => w1 = w ∧ (next S.data.toList p).kind = 1 ∧ nought (next S.data.toList p).text = false, ?_, ?_⟩
  · rintro w1 ⟨rfl, hk1, hno⟩
    rw [ptx_one hk1]
    have htl : (next S.data.toList p).text.length ≤ 2 ^ 40 := by have := htx (by omega) (by omega); omega
    have hrd := (int_read (B := 64) (k := 9) (hlet hk1) (.inr (.inr (.inr ⟨rfl, .inl rfl⟩)))).2 hno
    refine Sif_true ?_
    refine (parseInt64 hL ⟨(next S.data.toList p).text.toArray⟩ (by simpa [ByteArray.size] using htl)).mono ?_
    rintro e w2 ⟨c2, n, v, rfl, hi, hv⟩
    rw [str_list] at hv
    refine .inl ⟨_, rfl, _, _, rfl, ?_⟩
    refine ⟨fun w3 => w3 = w2 ∧ isNilI v = true, ?_, hi, ?_⟩
    · rintro w3 ⟨rfl, hnil⟩
      refine callX_of (step_ok' hs (RS.ch ⟨h0', hple⟩ c2 id) ((hL.ch0 c2).ut) (by omega) fun w4 r4 c4 => ⟨_, _, _, rfl, ?_⟩)
      rcases hv with ⟨_, hv⟩ | ⟨hv, _⟩
      · simp only [nameI]
        cases hi : intB 9 (next S.data.toList p).text with
        | none => exact absurd hv (hrd.2 hi n)
        | some j =>
          obtain ⟨v', g1, g2⟩ := hrd.1 j hi
          rw [g1] at hv
          cases hv
          have e : IntKind.wrap .u64 n = (j : Int) := by rw [← g2]; rfl
          rw [e]
          exact hk hk1 j w4 hi r4 ((c2.mono fun _ _ h => h.elim).trans' c4)
      · rw [hv] at hnil; cases hnil
    · refine Sif_cases (fun h => ?_) (fun h => ⟨by trivial, by simpa using h⟩)
      rcases hv with ⟨hv, _⟩ | ⟨_, hv⟩
      · rw [hv] at h; cases h
      · refine bad (.inr ?_) w2 c2
        cases hi : intB 9 (next S.data.toList p).text with
        | none => rfl
        | some j =>
          obtain ⟨v', g1, g2⟩ := hrd.1 j hi
          exact absurd g1 (hv v')
  · refine ⟨_, cellK h0 2 rfl, ?_⟩
    rw [int_bne, Bool.not_not]
    refine Sif_cases (fun h => ?_) (fun h => bad (.inl fun e => of_decide_eq_false h ((pk_one _).2 e)) w (Ch.refl _ _))
    have hk1 := (pk_one _).1 (of_decide_eq_true h)
    rw [ptx_one hk1]
    have hnone := (int_read (B := 64) (k := 9) (hlet hk1) (.inr (.inr (.inr ⟨rfl, .inl rfl⟩)))).1
    rw [show (ByteArray.mk (Array.mk [(48 : UInt8)])) = ⟨([48] : Bs).toArray⟩ by rfl, bs_eq]
    refine Sif_cases (fun h48 => ?_) (fun h48 => ⟨by trivial, hk1, ?_⟩)
    · have h48 : (next S.data.toList p).text ≠ [48] := by simpa using h48
      refine callX_of ((Tryz.strings_TrimPrefix _ _ _).mono ?_)
      rintro e w1 ⟨rfl, rfl⟩
      refine ⟨_, rfl, _, rfl, ?_⟩
      refine callX_of ((Tryz.strings_HasPrefix _ _ _).mono ?_)
      rintro e w2 ⟨rfl, rfl⟩
      refine ⟨_, rfl, _, rfl, ?_⟩
      rw [str_list, str_list]
      have he : nought (next S.data.toList p).text = Lib.hasPrefix (Lib.trimPrefix (next S.data.toList p).text [45]) [48] := by
        unfold nought; rw [decide_eq_true h48, Bool.true_and]
      rw [show (ByteArray.mk (Array.mk [(45 : UInt8)])).data.toList = [45] by rfl, ← he]
      refine Sif_cases (fun h => bad (.inr (hnone h)) _ (Ch.refl _ _)) (fun h => ⟨by trivial, hk1, h⟩)
    · have h48 : (next S.data.toList p).text = [48] := by simpa using h48
      rw [h48]; rfl
end Go.Proofs.YtnacobknngidkaaGreatDoor
namespace Go.Proofs
open Go.Shelf
def Tryz.lays160_ren : Go.Shelf.Ren := ⟨fun | 160 => 161 | 232 => 185 | 231 => 184 | 227 => 186 | 234 => 188 | 233 => 187 | 236 => 190 | 235 => 189 | 228 => 215 | 271 => 217 | 151 => 216 | 197 => 96 | 120 => 230 | 152 => 229 | 260 => 135 | 137 => 68 | 119 => 120 | 224 => 233 | 225 => 234 | 217 => 113 | 266 => 156 | n => n, fun | 9 => 9 | 4 => 4 | 3 => 3 | 5 => 5 | 117 => 192 | 116 => 191 | 0 => 0 | 124 => 195 | 21 => 21 | 105 => 124 | 46 => 91 | 119 => 171 | 139 => 174 | 138 => 173 | n => n, fun | 3 => 0 | 4 => 1 | n => n⟩
theorem Tryz.lays160 : Go.Proofs.Lays.n160 Tryz.prog Tryz.lays160_ren := {
  mixed := by kernel_rfl
  f119 := Tryz.func120.trans (congrArg some (by kernel_rfl))
  f120 := Tryz.func230.trans (congrArg some (by kernel_rfl))
  f137 := Tryz.func68.trans (congrArg some (by kernel_rfl))
  f151 := Tryz.func216.trans (congrArg some (by kernel_rfl))
  f152 := Tryz.func229.trans (congrArg some (by kernel_rfl))
  f160 := Tryz.func161.trans (congrArg some (by kernel_rfl))
  f197 := Tryz.func96.trans (congrArg some (by kernel_rfl))
  f217 := Tryz.func113.trans (congrArg some (by kernel_rfl))
  f224 := Tryz.func233.trans (congrArg some (by kernel_rfl))
  f225 := Tryz.func234.trans (congrArg some (by kernel_rfl))
  f227 := Tryz.func186.trans (congrArg some (by kernel_rfl))
  f228 := Tryz.func215.trans (congrArg some (by kernel_rfl))
  f231 := Tryz.func184.trans (congrArg some (by kernel_rfl))
  f232 := Tryz.func185.trans (congrArg some (by kernel_rfl))
  f233 := Tryz.func187.trans (congrArg some (by kernel_rfl))
  f234 := Tryz.func188.trans (congrArg some (by kernel_rfl))
  f235 := Tryz.func189.trans (congrArg some (by kernel_rfl))
  f236 := Tryz.func190.trans (congrArg some (by kernel_rfl))
  f260 := Tryz.func135.trans (congrArg some (by kernel_rfl))
  f266 := Tryz.func156.trans (congrArg some (by kernel_rfl))
  f271 := Tryz.func217.trans (congrArg some (by kernel_rfl))
  t0 := Tryz.underlying0
  a0 := Tryz.isAgg0
  z0 := Tryz.sizeOf0
  v0 := Tryz.zeroValue0
  t3 := Tryz.underlying3
  a3 := Tryz.isAgg3
  z3 := Tryz.sizeOf3
  v3 := Tryz.zeroValue3
  t4 := Tryz.underlying4
  a4 := Tryz.isAgg4
  z4 := Tryz.sizeOf4
  v4 := Tryz.zeroValue4
  t5 := Tryz.underlying5
  a5 := Tryz.isAgg5
  z5 := Tryz.sizeOf5
  v5 := Tryz.zeroValue5
  t9 := Tryz.underlying9
  a9 := Tryz.isAgg9
  z9 := Tryz.sizeOf9
  v9 := Tryz.zeroValue9
  t21 := Tryz.underlying21
  a21 := Tryz.isAgg21
  z21 := Tryz.sizeOf21
  v21 := Tryz.zeroValue21
  t46 := Tryz.underlying91
  a46 := Tryz.isAgg91
  z46 := Tryz.sizeOf91
  v46 := Tryz.zeroValue91
  t105 := Tryz.underlying124
  a105 := Tryz.isAgg124
  z105 := Tryz.sizeOf124
  v105 := Tryz.zeroValue124
  t116 := Tryz.underlying191
  a116 := Tryz.isAgg191
  z116 := Tryz.sizeOf191
  t117 := Tryz.underlying192
  a117 := Tryz.isAgg192
  z117 := Tryz.sizeOf192
  v117 := Tryz.zeroValue192
  t119 := Tryz.underlying171
  a119 := Tryz.isAgg171
  z119 := Tryz.sizeOf171
  t124 := Tryz.underlying195
  a124 := Tryz.isAgg195
  z124 := Tryz.sizeOf195
  v124 := Tryz.zeroValue195
  t138 := Tryz.underlying173
  a138 := Tryz.isAgg173
  z138 := Tryz.sizeOf173
  v138 := Tryz.zeroValue173
  t139 := Tryz.underlying174
  a139 := Tryz.isAgg174
  z139 := Tryz.sizeOf174
  v139 := Tryz.zeroValue174
  g3 := by kernel_rfl
  g4 := by kernel_rfl }
end Go.Proofs
namespace Go.Proofs.YtnacobknngidkaaGreatDoor
open Go Go.Sv Go.Note
set_option linter.unusedVariables false
attribute [local irreducible] Sif
set_option maxRecDepth 4000
theorem oct_info : InfoIs Tryz.prog 5 1 1 (.int .u8 0) := .of (by kernel_rfl) (by kernel_rfl) (by kernel_rfl)
theorem make_oct {w : World} (l c : Nat) (hl : l ≤ c) (hc : c ≤ 2 ^ 41) : ∃ w', (Instr.makeSlice 55 (.int .i64 (l : Int)) (.int .i64 (c : Int))).run Tryz.prog w = .ok (.slice (some ⟨w.heap.size, 0, none⟩) l c) w' ∧
    blk w' w.heap.size = some (bytesV (List.replicate c 0)) ∧ Ch (fun _ => False) w w' ∧ w'.heap.size = w.heap.size + 1 := by
  obtain ⟨i, hi, h1, h2, h3⟩ := oct_info
  have hr := run_make (P := Tryz.prog) w 55 5 i _ Tryz.underlying55 hi h3 .i64 .i64 (l : Int) (c : Int) (by omega) (by omega) (by rw [h2]; omega) (by omega)
  rw [Int.toNat_natCast, Int.toNat_natCast, h1, Nat.mul_one] at hr
  have hm : madeCells (Value.int .u8 0).cells c = (bytesV (List.replicate c 0)).toArray := by
    apply Array.ext'
    apply List.ext_getElem
    · simp [madeCells]
    · intro j g1 g2
      simp [madeCells, bytesV, Value.cells, Nat.mod_one]
  rw [hm] at hr
  exact ⟨_, hr, alloc_blk w _ _, alloc_ch w _, by simp⟩
theorem w64 {n : Int} (h0 : 0 ≤ n) (h1 : n < 18446744073709551616) : IntKind.wrap .u64 n = n := by
  unfold IntKind.wrap
  simp [IntKind.bits, IntKind.signed]
  omega
theorem or_add {m x : Nat} (hm : m < 72057594037927936) (hx : x < 256) : bitsV .or .u64 ((m * 256 : Nat) : Int) (x : Int) = ((m * 256 + x : Nat) : Int) := by
  have e : bitsV .or .u64 ((m * 256 : Nat) : Int) (x : Int) = IntKind.wrap .u64 ((BitVec.ofInt 64 ((m * 256 : Nat) : Int) ||| BitVec.ofInt 64 (x : Int)).toNat : Int) := rfl
  have o : ∀ n : Nat, BitVec.ofInt 64 (n : Int) = BitVec.ofNat 64 n := fun n => by
    apply BitVec.eq_of_toNat_eq
    simp [BitVec.toNat_ofInt]
  rw [e, o, o, BitVec.toNat_or, BitVec.toNat_ofNat, BitVec.toNat_ofNat, Nat.mod_eq_of_lt (by omega), Nat.mod_eq_of_lt (by omega)]
  have h2 : m * 256 ||| x = m * 256 + x := by
    have := Nat.shiftLeft_add_eq_or_of_lt (i := 8) (b := x) (by omega) m
    rw [Nat.shiftLeft_eq] at this
    exact this.symm
  rw [h2]
  exact w64 (by omega) (by omega)
theorem get_ok {p : Option Addr} {n c a k : Nat} {l : List UInt8} {w : World} {K : Value → World → Prop} (hp : Rd w p n 1 (bytesV l)) (hn : n ≤ c) (hc : n ≤ 2 ^ 46) (h1 : 1 ≤ k) (h8 : k ≤ 8) (ha : a + k ≤ n)
    (hk : K (.tuple #[.int .u64 (beN ((l.drop a).take k) : Int), .int .i64 0]) w) : callP Tryz.prog 121 [.slice p n c, .int .i64 (a : Int), .int .i64 (k : Int)] w K := by
  have hl : l.length = n := by have := hp.1; simpa using this
  refine ok_octet_Get ?_
  unfold wp_octet_Get
  refine ⟨fun w1 => w1 = w, ?_, Sif_cases (fun _ => Sif_cases (fun _ => Sif_cases (fun _ => Sif_cases (fun h => ?_) fun _ => Sif_cases (fun h => ?_) fun _ => rfl) fun h => ?_) fun h => ?_) fun h => ?_⟩
  rotate_left
  · have : (a : Int) > n := by simpa using h
    omega
  · rw [wrap_id (by omega) (by omega)] at h
    have : (n : Int) - a < k := by simpa using h
    omega
  · have : (a : Int) < 0 := by simpa using h
    omega
  · have : ¬ (k : Int) ≤ 8 := by simpa using h
    omega
  · have : (k : Int) < 1 := by simpa using h
    omega
  rintro w1 rfl
  rw [wrap_id (n := (a : Int) + k) (by omega) (by omega)]
  have ea : ((a : Int) + k).toNat = a + k := by omega
  simp only [ea, Int.toNat_natCast]
  refine ⟨by omega, by omega, by omega, by omega, fun m v i w' => w' = w1 ∧ 0 ≤ i ∧ i ≤ k ∧ m = k - i.toNat ∧ v = (beN ((l.drop a).take i.toNat) : Int), ⟨k, rfl, by omega, by omega, rfl, by simp [beN]⟩, ?_⟩
  rintro m v i w2 ⟨rfl, h0, hik, rfl, rfl⟩
  refine Sif_cases (fun hlt => ?_) fun hge => ?_
  · have hlt' : i < k := by have : i < ((a + k - a : Nat) : Int) := by simpa using hlt
                            omega
    refine ⟨h0, by omega, ?_⟩
    obtain ⟨bk, o, rfl, hcell⟩ := hp.cell (i := a + i.toNat) (by omega)
    have hx : a + i.toNat < l.length := by omega
    have hs : subA (some ⟨bk, o, none⟩) a c 1 = some ⟨bk, o + a, none⟩ := by
      unfold subA
      rw [if_neg (by omega)]
      simp
    rw [hs]
    simp only [nn, add_at, Nat.mul_one]
    refine ⟨(l[a + i.toNat].toNat : Int), ?_, by omega, ?_⟩
    · rw [Nat.add_assoc, hcell]
      simp [bytesV, hx]
    have hx2 : i.toNat < (l.drop a).length := by simp; omega
    have ht : ((l.drop a).take i.toNat).length = i.toNat := by simp; omega
    have hlt2 := beN_lt ((l.drop a).take i.toNat)
    rw [ht] at hlt2
    have h7 : 256 ^ i.toNat ≤ 256 ^ 7 := Nat.pow_le_pow_right (by decide) (by omega)
    have hb := l[a + i.toNat].toNat_lt
    have hm : beN ((l.drop a).take i.toNat) < 72057594037927936 := Nat.lt_of_lt_of_le hlt2 (Nat.le_trans h7 (by decide))
    have e1 : IntKind.wrap .u64 ((beN ((l.drop a).take i.toNat) : Int) * 2 ^ 8) = ((beN ((l.drop a).take i.toNat) * 256 : Nat) : Int) := by
      rw [w64 (by omega) (by omega)]; omega
    rw [e1, w64 (n := (l[a + i.toNat].toNat : Int)) (by omega) (by omega), or_add hm hb]
    simp only [nameI]
    rw [wrap_id (by omega) (by omega)]
    refine ⟨k - (i + 1).toNat, by omega, by trivial, by omega, by omega, by trivial, ?_⟩
    have e : (i + 1).toNat = i.toNat + 1 := by omega
    rw [e, List.take_succ_eq_append_getElem hx2, beN_snoc, List.getElem_drop]; omega
  · have : i = k := by have : ¬ i < ((a + k - a : Nat) : Int) := by simpa using hge
                       omega
    subst this
    simpa using hk
def hexC (x : UInt8) : Bool := (decide (48 ≤ x.toNat) && decide (x.toNat ≤ 57)) || (decide (97 ≤ x.toNat) && decide (x.toNat ≤ 102))
theorem hex_contains (x : UInt8) : ([48, 49, 50, 51, 52, 53, 54, 55, 56, 57, 97, 98, 99, 100, 101, 102] : List UInt8).contains x = hexC x := by
  have key : ∀ x : Fin 256, ([48, 49, 50, 51, 52, 53, 54, 55, 56, 57, 97, 98, 99, 100, 101, 102] : List UInt8).contains (UInt8.ofNat x.val) = hexC (UInt8.ofNat x.val) := by decide +kernel
  have := key ⟨x.toNat, x.toNat_lt⟩
  simpa using this
theorem dropWhile_nil {α : Type} (p : α → Bool) (l : List α) : l.dropWhile p = [] ↔ ∀ x ∈ l, p x = true := by
  induction l with
  | nil => simp
  | cons x l ih =>
    rw [List.dropWhile_cons]
    split
    · rename_i h; rw [ih]; simp [h]
    · rename_i h; simp [h]
theorem trim_hex (l : Bs) : Lib.trimS l [48, 49, 50, 51, 52, 53, 54, 55, 56, 57, 97, 98, 99, 100, 101, 102] = [] ↔ ∀ x ∈ l, hexC x = true := by
  unfold Lib.trimS Lib.trimLeftS
  simp only [hex_contains]
  rw [dropWhile_nil]
  unfold Lib.trimRightS
  simp only [hex_contains]
  constructor
  · intro h
    by_cases hr : l.reverse.dropWhile hexC = []
    · intro x hx
      exact (dropWhile_nil _ _).1 hr x (by simp [hx])
    · exfalso
      obtain ⟨y, t, hy⟩ := List.exists_cons_of_ne_nil hr
      have h1 := h y (by simp [hy])
      have h2 : hexC y = false := by
        have := List.head?_dropWhile_not hexC l.reverse
        rw [hy] at this
        simpa using this
      rw [h2] at h1; cases h1
  · intro h x hx
    have := List.mem_reverse.1 hx
    exact h x (List.mem_reverse.1 ((List.dropWhile_sublist _).mem this))
theorem unhex_small (x : UInt8) : (unhex x false).isSome = hexC x ∧ ∀ n, unhex x false = some n → unhex x true = some n ∧ n < 16 := by
  unfold unhex hexC
  have := x.toNat_lt
  split
  · rename_i h; simp [h]; try omega
  · split
    · rename_i h1 h2; simp [h1, h2]; try omega
    · rename_i h1 h2
      rw [if_neg (by simp)]
      simp; omega
theorem pairsB_hex : ∀ (n : Nat) (l : Bs), l.length = 2 * n → ((∀ x ∈ l, hexC x = true) ↔ (pairsB l).isSome = true)
  | 0, l, h => by
    have : l = [] := List.eq_nil_of_length_eq_zero (by omega)
    subst this; simp [pairsB]
  | n + 1, l, h => by
    match l, h with
    | [], h => simp at h
    | [_], h => simp at h; omega
    | a :: b :: l, h =>
      simp only [List.length_cons] at h
      have ih := pairsB_hex n l (by omega)
      have ha := (unhex_small a).1
      have hb := (unhex_small b).1
      have e : pairsB (a :: b :: l) = match unhex a false, unhex b false, pairsB l with
        | some x, some y, some r => some ((16 * x + y).toUInt8 :: r)
        | _, _, _ => none := rfl
      have he : (pairsB (a :: b :: l)).isSome = (hexC a && hexC b && (pairsB l).isSome) := by
        rw [e, ← ha, ← hb]
        cases unhex a false <;> cases unhex b false <;> cases pairsB l <;> rfl
      rw [he, Bool.and_eq_true, Bool.and_eq_true, ← ih]
      simp only [List.mem_cons, forall_eq_or_imp, and_assoc]
theorem pairsB_get : ∀ (l b : Bs), pairsB l = some b → ∀ i x, b[i]? = some x → ∃ u v m n, l[2 * i]? = some u ∧ l[2 * i + 1]? = some v ∧ unhex u false = some m ∧ unhex v false = some n ∧ x = (16 * m + n).toUInt8
  | [], b, h, i, x, hx => by simp [pairsB] at h; subst h; simp at hx
  | [_], b, h, i, x, hx => by simp [pairsB] at h
  | u :: v :: l, b, h, i, x, hx => by
    simp only [pairsB] at h
    cases hu : unhex u false with
    | none => rw [hu] at h; simp at h
    | some m =>
      cases hv : unhex v false with
      | none => rw [hu, hv] at h; simp at h
      | some n =>
        cases hp : pairsB l with
        | none => rw [hu, hv, hp] at h; simp at h
        | some r =>
          rw [hu, hv, hp] at h
          simp only [Option.some.injEq] at h
          subst h
          cases i with
          | zero =>
            simp only [List.getElem?_cons_zero, Option.some.injEq] at hx
            exact ⟨u, v, m, n, rfl, rfl, hu, hv, hx.symm⟩
          | succ i =>
            simp only [List.getElem?_cons_succ] at hx
            obtain ⟨u', v', m', n', g1, g2, g3⟩ := pairsB_get l r hp i x hx
            refine ⟨u', v', m', n', ?_, ?_, g3⟩
            · rw [show 2 * (i + 1) = 2 * i + 1 + 1 by omega]; simpa using g1
            · rw [show 2 * (i + 1) + 1 = 2 * i + 1 + 1 + 1 by omega]; simpa using g2
theorem digits_ok {S : ByteArray} (hs : S.size ≤ 2 ^ 40) {rb p j : Nat} (hj : j ≤ 16) {w : World} (hr : RS S rb p w) (hL : LW w) (h2 : 8 ≤ rb) {K : Value → World → Prop} {KP : List PanicEntry → World → Prop}
    (hk : (next S.data.toList p).kind = 1 → ∀ b q c w', bytesB (next S.data.toList p).text (2 * j) = some b → b.length = j → Rd w' q j 1 (bytesV b) → j ≤ c → RS S rb (next S.data.toList p).fin w' → Ch (· = rb) w w' → K (.slice q j c) w')
    (hp : ((next S.data.toList p).kind ≠ 1 ∨ bytesB (next S.data.toList p).text (2 * j) = none) → ∀ w', Ch (fun _ => False) w w' → KP (flt (next S.data.toList p).beg (if (next S.data.toList p).kind = 5 then 42 else 41)) w') :
    callX Tryz.prog 122 [.pointer (some ⟨rb, 0, none⟩), .int .i64 ((2 * j : Nat) : Int)] w K KP := by
  apply ok_note_reader_digits
  unfold wp_note_reader_digits
  obtain ⟨h0, hple⟩ := hr
  have h0' := h0
  unfold rcl at h0
  have hlies := next_lies S.data.toList p (by rw [sl]; exact hple)
  rw [sl] at hlies
  have htx := (next_text S.data.toList (by rw [sl]; exact hple : p ≤ S.data.toList.length)).1
  simp only [nn, add_at, Nat.zero_add]
  refine ⟨_, cellK h0 4 rfl, ?_⟩
  have bad : (next S.data.toList p).kind ≠ 1 ∨ bytesB (next S.data.toList p).text (2 * j) = none → ∀ {K' : Value → World → Prop} w', Ch (fun _ => False) w w' → callX Tryz.prog 43 [.pointer (some ⟨rb, 0, none⟩), .int .i64 41] w' K' KP := fun h K' w' c =>
    refuse_ok (e := 41) (RS.ch ⟨h0', hple⟩ c id) (hp h w' c)
  have hsz : (ByteArray.mk (next S.data.toList p).text.toArray).size = (next S.data.toList p).text.length := by simp [ByteArray.size]
  refine ⟨fun w1 => Ch (fun _ => False) w w1 ∧ (next S.data.toList p).kind = 1 ∧ (next S.data.toList p).text.length = 2 * j ∧ ∀ x ∈ (next S.data.toList p).text, hexC x = true, ?_, ?_⟩
  · rintro w1 ⟨c1, hk1, hlen, hall⟩
    rw [ptx_one hk1]
    have hsome := (pairsB_hex j _ hlen).1 hall
    obtain ⟨b, hb⟩ : ∃ b, pairsB (next S.data.toList p).text = some b := by
      cases h : pairsB (next S.data.toList p).text with
      | none => rw [h] at hsome; cases hsome
      | some b => exact ⟨b, rfl⟩
    have hbl : b.length = j := by have := pairsB_len _ _ _ hlen hb; omega
    have hB : bytesB (next S.data.toList p).text (2 * j) = some b := by unfold bytesB; rw [if_pos hlen, hb]
    have hdiv : Int.tdiv ((2 * j : Nat) : Int) 2 = (j : Int) := by
      rw [Int.tdiv_eq_ediv_of_nonneg (by omega)]; omega
    rw [hdiv, wrap_id (n := (j : Int)) (by omega) (by omega)]
    obtain ⟨w2, m1, m2, c2, z2⟩ := make_oct (w := w1) j j (Nat.le_refl _) (by omega)
    refine ⟨by decide, _, _, _, w2, m1, ?_⟩
    generalize hbk : w1.heap.size = bk at m2
    have hnb : ¬ (bk = rb) := by have := blk_lt h0; have := c1.size; omega
    have hbw : w.heap.size ≤ bk := by have := c1.size; omega
    refine ⟨fun m i w3 => ∃ k : Nat, i = (k : Int) ∧ k ≤ j ∧ m = j - k ∧ blk w3 bk = some (bytesV (b.take k ++ List.replicate (j - k) 0)) ∧ Ch (fun _ => False) w w3, ⟨j, 0, rfl, Nat.zero_le _, rfl, by rw [m2]; simp, c1.trans' c2⟩, ?_⟩
    rintro m i w3 ⟨k, rfl, hkj, rfl, b3, c3⟩
    refine Sif_cases (fun h => ?_) (fun h => ?_)
    · have hkl : k < j := by have := of_decide_eq_true h; omega
      rw [wrap_id (n := 2 * (k : Int)) (by omega) (by omega), wrap_id (n := 2 * (k : Int) + 1) (by omega) (by omega), hsz, hlen]
      refine ⟨by omega, by omega, by omega, by omega, ?_⟩
      obtain ⟨x, hx⟩ : ∃ x, b[k]? = some x := ⟨b[k]'(by omega), List.getElem?_eq_getElem _⟩
      obtain ⟨u, v, mm, nn', g1, g2, g3, g4, g5⟩ := pairsB_get _ _ hb k x hx
      have e1 : byteAt (ByteArray.mk (next S.data.toList p).text.toArray) (2 * (k : Int)).toNat = (u.toNat : Int) := byteAt_get (by rw [show (2 * (k : Int)).toNat = 2 * k by omega, str_list]; exact g1)
      have e2 : byteAt (ByteArray.mk (next S.data.toList p).text.toArray) (2 * (k : Int) + 1).toNat = (v.toNat : Int) := byteAt_get (by rw [show (2 * (k : Int) + 1).toNat = 2 * k + 1 by omega, str_list]; exact g2)
      rw [e1, e2]
      obtain ⟨u1, u2⟩ := (unhex_small u).2 mm g3
      obtain ⟨v1, v2⟩ := (unhex_small v).2 nn' g4
      refine callX_of (nibble_ok u1 ⟨_, rfl, by omega, ?_⟩)
      refine callX_of (nibble_ok v1 ⟨_, rfl, by omega, by omega, ?_⟩)
      rw [bits_orN mm nn' u2 v2, ← g5]
      simp only [Int.toNat_natCast, Nat.mul_one, add_at, Nat.zero_add]
      have b3' : blk w3.drew bk = some (bytesV (b.take k ++ List.replicate (j - k) 0)) := b3
      refine st_blk b3' (by simp [bytesV]; omega) fun w4 b4 c4 z4 => ?_
      rw [wrap_id (n := (k : Int) + 1) (by omega) (by omega)]
      refine ⟨j - (k + 1), by omega, k + 1, by omega, by omega, rfl, ?_, (c3.trans' (Ch.drew _)).trans c4 fun x hx h => by omega⟩
      rw [b4]
      congr 1
      have e : (Value.int .u8 (x.toNat : Int)) = (fun b : UInt8 => Value.int .u8 (b.toNat : Int)) x := rfl
      unfold bytesV
      rw [e, ← List.map_set]
      congr 1
      rw [show j - k = (j - (k + 1)) + 1 by omega, List.replicate_succ, List.set_append_right _ _ (by simp; omega), List.length_take, show k + 0 - min k b.length = 0 by omega, List.set_cons_zero, List.take_add_one, hx]
      simp
    · have hkl : k = j := by have := of_decide_eq_false h; omega
      subst hkl
      have hL3 : LW w3 := hL.ch0 c3
      refine callX_of (step_ok' hs (RS.ch ⟨h0', hple⟩ c3 id) hL3.ut (by omega) fun w4 r4 c4 => ⟨_, _, _, rfl, ?_⟩)
      refine hk hk1 b _ _ w4 hB hbl ?_ (Nat.le_refl _) r4 ((c3.mono fun _ _ h => h.elim).trans' c4)
      have b4 : blk w4 bk = some (bytesV b) := by
        rw [c4.blk (blk_lt b3) hnb, b3, List.take_of_length_le (by omega)]; simp
      exact ⟨by simp [bytesV, hbl], .inr ⟨bk, 0, _, rfl, blk_cells b4, by simp [bytesV, hbl], by rw [List.drop_zero, List.take_of_length_le (by simp [bytesV, hbl])]⟩⟩
  · refine ⟨_, cellK h0 2 rfl, ?_⟩
    rw [int_bne, Bool.not_not]
    refine Sif_cases (fun h => ?_) (fun h => bad (.inl fun e => of_decide_eq_false h ((pk_one _).2 e)) w (Ch.refl _ _))
    have hk1 := (pk_one _).1 (of_decide_eq_true h)
    rw [ptx_one hk1, hsz, int_bne, Bool.not_not]
    refine Sif_cases (fun hl => ?_) (fun hl => bad (.inr ?_) w (Ch.refl _ _))
    · have hl : (next S.data.toList p).text.length = 2 * j := by have := of_decide_eq_true hl; omega
      refine callX_of ((Any.strings_Trim_laid Tryz.lays160 (by kernel_rfl) ⟨(next S.data.toList p).text.toArray⟩ (ByteArray.mk #[48, 49, 50, 51, 52, 53, 54, 55, 56, 57, 97, 98, 99, 100, 101, 102]) w (by rw [hsz]; omega) (by decide) (ascii_of_all (by decide))).mono ?_)
      rintro e w1 ⟨rfl, hbel⟩
      have c1 := ch_of_below hbel
      refine ⟨_, rfl, _, rfl, ?_⟩
      rw [show (ByteArray.mk (Array.mk ([] : List UInt8))) = ⟨([] : Bs).toArray⟩ by rfl, bs_eq, str_list]
      have ht := trim_hex (next S.data.toList p).text
      refine Sif_cases (fun h => bad (.inr ?_) w1 c1) (fun h => ⟨c1, hk1, hl, ?_⟩)
      · have hno : ¬ (∀ x ∈ (next S.data.toList p).text, hexC x = true) := fun hall => by
          have := ht.2 hall
          rw [Bool.not_eq_true'] at h
          exact of_decide_eq_false h this
        unfold bytesB
        rw [if_pos hl]
        cases hpb : pairsB (next S.data.toList p).text with
        | none => rfl
        | some b => exact absurd ((pairsB_hex j _ hl).2 (by rw [hpb]; rfl)) hno
      · rw [Bool.not_eq_false'] at h
        exact ht.1 (of_decide_eq_true h)
    · unfold bytesB
      rw [if_neg]
      intro e
      exact of_decide_eq_false hl (by omega)
end Go.Proofs.YtnacobknngidkaaGreatDoor
namespace Go.Proofs.YtnacobknngidkaaGreatDoor
open Go Go.Sv Go.Note
set_option linter.unusedVariables false
attribute [local irreducible] Sif
set_option maxRecDepth 4000
def SL0 : SL := ⟨none, 0, 0, none⟩
def one (k : Int) (n : Nat) (t : Bs) : MV := .mk k n t SL0 0 []
theorem one_m (k : Int) (n : Nat) (t : Bs) : (one k n t).m = .mk k n t 0 [] := by unfold one; rw [MV.m_mk]; rfl
theorem one_ok (w : World) (k : Int) (n : Nat) (t : Bs) : VO w (one k n t) := VO.none
theorem one_B (k : Int) (n : Nat) (t : Bs) : (one k n t).B = [] := by unfold one; rw [MV.B_mk]; rfl
theorem st5 {w : World} {k : Nat} {zs : List Value} {x : MV} {K : World → Prop} (h : blk w k = some zs) (hl : zs.length = 5) (hk : ∀ w', blk w' k = some x.g → Ch (· = k) w w' → w'.heap.size = w.heap.size → K w') :
    Sv.st w ⟨k, 0, none⟩ (.int .i64 x.k) fun w1 => Sv.st w1 ⟨k, 1, none⟩ (.int .u64 (x.n : Int)) fun w2 => Sv.st w2 ⟨k, 2, none⟩ (.string ⟨x.t.toArray⟩) fun w3 => Sv.st w3 ⟨k, 3, none⟩ (.slice x.s.p x.s.n x.s.c) fun w4 => Sv.st w4 ⟨k, 4, none⟩ (.int .i64 x.e) fun w5 => K w5 := by
  obtain ⟨k1, n, t, s, e, l⟩ := x
  exact st_all [.int .i64 k1, .int .u64 (n : Int), .string ⟨t.toArray⟩, .slice s.p s.n s.c, .int .i64 e] 0 (K := K) h (by rw [hl]; simp) fun w' b c z => hk w' (by
    rw [b, putSeg, List.drop_of_length_le (by simp; omega)]; simp [MV.g]) c z
theorem ld5 {w : World} {k : Nat} {x : MV} {K : Value → World → Prop} (h : blk w k = some x.g) (hk : K x.v w) :
    ∃ n, w.cell? ⟨k, 0, none⟩ = some (.int .i64 n) ∧ ∃ n1, w.cell? ⟨k, 1, none⟩ = some (.int .u64 n1) ∧ ∃ s, w.cell? ⟨k, 2, none⟩ = some (.string s) ∧ ∃ p n2 c, w.cell? ⟨k, 3, none⟩ = some (.slice p n2 c) ∧ ∃ n3, w.cell? ⟨k, 4, none⟩ = some (.int .i64 n3) ∧
      K (.agg (Array.mk [.int .i64 n, .int .u64 n1, .string s, .slice p n2 c, .int .i64 n3])) w := by
  cases x
  exact ⟨_, cellK h 0 rfl, _, cellK h 1 rfl, _, cellK h 2 rfl, _, _, _, cellK h 3 rfl, _, cellK h 4 rfl, hk⟩
theorem fin5 {w : World} {k : Nat} {zs : List Value} {x : MV} {K : Value → World → Prop} (h : blk w k = some zs) (hl : zs.length = 5) (hk : ∀ w', blk w' k = some x.g → Ch (· = k) w w' → w'.heap.size = w.heap.size → K x.v w') :
    Sv.st w ⟨k, 0, none⟩ (.int .i64 x.k) fun w1 => Sv.st w1 ⟨k, 1, none⟩ (.int .u64 (x.n : Int)) fun w2 => Sv.st w2 ⟨k, 2, none⟩ (.string ⟨x.t.toArray⟩) fun w3 => Sv.st w3 ⟨k, 3, none⟩ (.slice x.s.p x.s.n x.s.c) fun w4 => Sv.st w4 ⟨k, 4, none⟩ (.int .i64 x.e) fun w =>
    ∃ n, w.cell? ⟨k, 0, none⟩ = some (.int .i64 n) ∧ ∃ n1, w.cell? ⟨k, 1, none⟩ = some (.int .u64 n1) ∧ ∃ s, w.cell? ⟨k, 2, none⟩ = some (.string s) ∧ ∃ p n2 c, w.cell? ⟨k, 3, none⟩ = some (.slice p n2 c) ∧ ∃ n3, w.cell? ⟨k, 4, none⟩ = some (.int .i64 n3) ∧
      K (.agg (Array.mk [.int .i64 n, .int .u64 n1, .string s, .slice p n2 c, .int .i64 n3])) w :=
  st5 h hl fun w' b c z => ld5 b (hk w' b c z)
theorem is5 {x : MV} {K : Int → Int → ByteArray → Option Addr → Nat → Nat → Int → Prop} (hk : K x.k (x.n : Int) ⟨x.t.toArray⟩ x.s.p x.s.n x.s.c x.e) :
    ∃ n n1 s p n2 c n3, x.v = .agg (Array.mk [.int .i64 n, .int .u64 n1, .string s, .slice p n2 c, .int .i64 n3]) ∧ K n n1 s p n2 c n3 := ⟨_, _, _, _, _, _, _, (vv x).symm, hk⟩
theorem pk_two (t : Tok) : ((pk t : Nat) : Int) = 2 ↔ t.kind = 2 := by
  unfold pk
  split <;> omega
theorem pk_three (t : Tok) : ((pk t : Nat) : Int) = 3 ↔ t.kind = 3 := by
  unfold pk
  split <;> omega
theorem ptx_small {t : Tok} (h : t.kind < 4) : ptx t = t.text := by unfold ptx; rw [if_neg (by omega), if_neg (by omega)]
theorem said_ok {S : ByteArray} (hs : S.size ≤ 2 ^ 40) {rb p k : Nat} (hkk : k = 18 ∨ k = 19 ∨ k = 20) {w : World} (hr : RS S rb p w) (hL : LW w) (h2 : 8 ≤ rb) {K : Value → World → Prop} {KP : List PanicEntry → World → Prop}
    (hk : ∀ w', worded k (next S.data.toList p) = .ok (.mk k 0 (next S.data.toList p).text 0 []) (next S.data.toList p).fin → RS S rb (next S.data.toList p).fin w' → Ch (· = rb) w w' → K (one k 0 (next S.data.toList p).text).v w')
    (hp : ∀ a e w', worded k (next S.data.toList p) = .bad a e → Ch (fun _ => False) w w' → KP (flt a e) w') :
    callX Tryz.prog 72 [.pointer (some ⟨rb, 0, none⟩), .int .i64 (k : Int)] w K KP := by
  apply ok_note_reader_said
  unfold wp_note_reader_said
  have hple := hr.2
  refine newB_blk fun w1 b1 c1 z1 => ?_
  have hr1 : RS S rb p w1 := hr.ch c1 id
  have hrl := hr.lt
  obtain ⟨h0, _⟩ := hr1
  have h0' := h0
  unfold rcl at h0
  have hlies := next_lies S.data.toList p (by rw [sl]; exact hple)
  rw [sl] at hlies
  have htx := (next_text S.data.toList (by rw [sl]; exact hple : p ≤ S.data.toList.length)).2
  simp only [nn, add_at, Nat.zero_add]
  refine ⟨_, cellK h0 4 rfl, ?_⟩
  have bad : ∀ e : Nat, worded k (next S.data.toList p) = amiss (next S.data.toList p) e → ∀ {K' : Value → World → Prop} w', Ch (fun _ => False) w1 w' → callX Tryz.prog 43 [.pointer (some ⟨rb, 0, none⟩), .int .i64 (e : Int)] w' K' KP := fun e he K' w' c =>
    refuse_ok (e := e) (RS.ch ⟨h0', hple⟩ c id) (hp _ _ w' he (c1.trans' c))
  refine ⟨fun w2 => Ch (fun _ => False) w1 w2 ∧ (next S.data.toList p).kind = 2 ∧ worded k (next S.data.toList p) = .ok (.mk k 0 (next S.data.toList p).text 0 []) (next S.data.toList p).fin, ?_, _, cellK h0 2 rfl, ?_⟩
  · rintro w2 ⟨c2, hk2, hok⟩
    refine callX_of (step_ok' hs (RS.ch ⟨h0', hple⟩ c2 id) ((hL.ch0 c1).ch0 c2).ut (by omega) fun w3 r3 c3 => ⟨_, _, _, rfl, ?_⟩)
    rw [ptx_small (by omega)]
    have b3 := (c3.blk (by have := c2.size; have := blk_lt b1; omega) (by omega)).trans ((c2.blk (blk_lt b1) id).trans b1)
    refine fin5 (x := one k 0 (next S.data.toList p).text) b3 rfl fun w4 b4 c4 z4 => ?_
    refine hk w4 hok (r3.ch c4 (by omega)) ?_
    exact (((c1.mono (S' := (· = rb)) fun _ _ h => h.elim).trans' (c2.mono fun _ _ h => h.elim)).trans' c3).trans c4 fun x hx h => by omega
  · rw [int_bne]
    have w0 : ∀ {e : Nat}, (next S.data.toList p).kind ≠ 2 → worded k (next S.data.toList p) = amiss (next S.data.toList p) 42 := fun h => by
      unfold worded; rw [if_pos h]
    refine Sif_cases (fun h => bad 42 (w0 (e := 0) fun e => ?_) w1 (Ch.refl _ _)) (fun h => ?_)
    · rw [Bool.not_eq_true'] at h
      exact of_decide_eq_false h ((pk_two _).2 e)
    rw [Bool.not_eq_false'] at h
    have hk2 := (pk_two _).1 (of_decide_eq_true h)
    rw [ptx_small (by omega)]
    have htl : (next S.data.toList p).text.length ≤ 2 ^ 40 := by have := htx hk2; omega
    have hsz : (ByteArray.mk (next S.data.toList p).text.toArray).size = (next S.data.toList p).text.length := by simp [ByteArray.size]
    have k19 : ((k : Int) == 19) = decide (k = 19) := by
      by_cases h : k = 19 <;> simp [h]; omega
    have k20 : ((k : Int) == 20) = decide (k = 20) := by
      by_cases h : k = 20 <;> simp [h]; omega
    rw [k19, k20]
    have ok : ¬ ((k = 19 ∧ textB (next S.data.toList p).text = false) ∨ (k = 20 ∧ asciiB (next S.data.toList p).text = false)) → worded k (next S.data.toList p) = .ok (.mk k 0 (next S.data.toList p).text 0 []) (next S.data.toList p).fin := fun h => by
      unfold worded; rw [if_neg (by omega), if_neg h]
    have no : ((k = 19 ∧ textB (next S.data.toList p).text = false) ∨ (k = 20 ∧ asciiB (next S.data.toList p).text = false)) → worded k (next S.data.toList p) = amiss (next S.data.toList p) 22 := fun h => by
      unfold worded; rw [if_neg (by omega), if_pos h]
    refine Sif_cases (fun h19 => ?_) (fun h19 => ?_)
    · have h19 := of_decide_eq_true h19
      refine callX_of (oUtf8_ok (by rw [hsz]; omega) (hL.ch0 c1).ut (by have := (hL.ch0 c1).size; omega) fun r w2 c2 hpl => ⟨_, rfl, ?_⟩)
      rw [str_list] at hpl
      refine Sif_cases (fun h => ?_) (fun h => ?_)
      · rw [decide_eq_false (by omega)]
        refine Sif_false ⟨c2, hk2, ok ?_⟩
        rintro (⟨_, h3⟩ | ⟨h3, _⟩)
        · have := hpl.2 h3
          rw [Bool.not_eq_true'] at h
          exact of_decide_eq_false h (by omega)
        · omega
      · refine bad 22 (no (.inl ⟨h19, ?_⟩)) w2 c2
        cases ht : textB (next S.data.toList p).text with
        | false => rfl
        | true =>
          have := hpl.1 ht
          rw [Bool.not_eq_false'] at h
          have := of_decide_eq_true h
          omega
    · have h19 := of_decide_eq_false h19
      refine Sif_cases (fun h20 => ?_) (fun h20 => ?_)
      · have h20 := of_decide_eq_true h20
        refine callX_of (oAscii_ok (by rw [hsz]; omega) fun r hpl => ⟨_, rfl, ?_⟩)
        rw [str_list] at hpl
        refine Sif_cases (fun h => ?_) (fun h => ?_)
        · refine bad 22 (no (.inr ⟨h20, ?_⟩)) w1 (Ch.refl _ _)
          cases ht : asciiB (next S.data.toList p).text with
          | false => rfl
          | true =>
            have := hpl.1 ht
            have := of_decide_eq_true h
            omega
        · refine ⟨Ch.refl _ _, hk2, ok ?_⟩
          rintro (⟨h3, _⟩ | ⟨_, h3⟩)
          · exact h19 h3
          · have := hpl.2 h3
            exact of_decide_eq_false h (by omega)
      · have h20 := of_decide_eq_false h20
        refine ⟨Ch.refl _ _, hk2, ok ?_⟩
        rintro (⟨h3, _⟩ | ⟨h3, _⟩)
        · exact h19 h3
        · exact h20 h3
theorem sign_text {s : Bs} {a : Nat} (h : (next s a).kind = 3) : ∃ c, (next s a).text = [c] := by
  unfold next at h ⊢
  simp only at h ⊢
  cases hd : s.drop (a + skipN false (s.drop a)) with
  | nil => rw [hd] at h; cases h
  | cons x l =>
    rw [hd] at h
    simp only at h ⊢
    split at h
    · cases hw : wordB (x :: l) with
      | none => rw [hw] at h; cases h
      | some p => rw [hw] at h; cases h
    · rename_i h34
      rw [if_neg h34]
      split at h
      · rename_i hsg
        rw [if_pos hsg]
        exact ⟨x, rfl⟩
      · split at h <;> cases h
theorem open_index (c : UInt8) : ∃ n : Int, Lib.indexByte (ByteArray.mk (Array.mk [(91 : UInt8), 123, 40])).data.toList ((c.toNat : Int)).toNat.toUInt8 = n ∧ ((n = -1 ∧ c ≠ 91 ∧ c ≠ 123 ∧ c ≠ 40) ∨ (n = 0 ∧ c = 91) ∨ (n = 1 ∧ c = 123) ∨ (n = 2 ∧ c = 40)) := by
  have hcc : ((c.toNat : Int)).toNat.toUInt8 = c := by simp
  rw [hcc]
  refine ⟨_, rfl, ?_⟩
  have : (ByteArray.mk (Array.mk [(91 : UInt8), 123, 40])).data.toList = [91, 123, 40] := rfl
  rw [this]
  by_cases h1 : c = 91
  · subst h1; right; left; exact ⟨rfl, rfl⟩
  · by_cases h2 : c = 123
    · subst h2; right; right; left; exact ⟨rfl, rfl⟩
    · by_cases h3 : c = 40
      · subst h3; right; right; right; exact ⟨rfl, rfl⟩
      · left
        refine ⟨?_, h1, h2, h3⟩
        have e1 : (91 == c) = false := by simpa using fun e => h1 e.symm
        have e2 : (123 == c) = false := by simpa using fun e => h2 e.symm
        have e3 : (40 == c) = false := by simpa using fun e => h3 e.symm
        simp [Lib.indexByte, e1, e2, e3]
theorem begins_ok {S : ByteArray} {rb p : Nat} {w : World} (hr : RS S rb p w) {K : Value → World → Prop} (hk : ∀ w', Ch (fun _ => False) w w' → K (NamedR (begins (next S.data.toList p))) w') :
    callP Tryz.prog 70 [.pointer (some ⟨rb, 0, none⟩)] w K := by
  apply ok_note_reader_begins
  unfold wp_note_reader_begins
  obtain ⟨h0, hple⟩ := hr
  have hsgt := sign_text (s := S.data.toList) (a := p)
  unfold rcl at h0
  generalize next S.data.toList p = t at h0 hk hsgt
  simp only [nn, add_at, Nat.zero_add]
  refine ⟨_, cellK h0 2 rfl, _, cellK h0 3 rfl, _, cellK h0 4 rfl, ?_⟩
  refine box3 fun w4 b4 c4 z4 => ?_
  simp only [add_at, Nat.zero_add]
  refine ⟨_, cellK b4 0 rfl, ?_⟩
  have p2 : (((pk t : Nat) : Int) == 2) = decide (t.kind = 2) := by
    rw [show (((pk t : Nat) : Int) == 2) = decide (((pk t : Nat) : Int) = 2) by by_cases h : ((pk t : Nat) : Int) = 2 <;> simp [h]]
    exact decide_eq_decide.2 (pk_two t)
  have p3 : (((pk t : Nat) : Int) == 3) = decide (t.kind = 3) := by
    rw [show (((pk t : Nat) : Int) == 3) = decide (((pk t : Nat) : Int) = 3) by by_cases h : ((pk t : Nat) : Int) = 3 <;> simp [h]]
    exact decide_eq_decide.2 (pk_three t)
  have p1 : (((pk t : Nat) : Int) == 1) = decide (t.kind = 1) := by
    rw [show (((pk t : Nat) : Int) == 1) = decide (((pk t : Nat) : Int) = 1) by by_cases h : ((pk t : Nat) : Int) = 1 <;> simp [h]]
    exact decide_eq_decide.2 (pk_one t)
  rw [p2, p3, p1]
  refine Sif_cases (fun h => ?_) (fun h => ?_)
  · have h := of_decide_eq_true h
    have := hk w4 c4
    rw [show begins t = some 19 by unfold begins; rw [if_pos h]] at this
    exact this
  have n2 := of_decide_eq_false h
  refine Sif_cases (fun h => ?_) (fun h => ?_)
  · have h3 := of_decide_eq_true h
    obtain ⟨c, hc⟩ := hsgt h3
    refine ⟨_, cellK b4 2 rfl, by omega, ?_⟩
    rw [ptx_small (t := t) (by omega), hc]
    refine ⟨by simp [ByteArray.size], ?_⟩
    have hb : byteAt (ByteArray.mk [c].toArray) 0 = (c.toNat : Int) := byteAt_get rfl
    rw [hb]
    refine (Tryz.strings_IndexByte _ _ _).mono ?_
    rintro e w5 ⟨rfl, rfl⟩
    obtain ⟨n, hn, hcase⟩ := open_index c
    rw [hn]
    refine ⟨_, rfl, _, rfl, ?_⟩
    have hb : begins t = if c = 91 then some 21 else if c = 123 then some 22 else if c = 40 then some 24 else none := by
      unfold begins
      rw [if_neg n2, if_pos h3, hc]
      simp
    have hk := hk w5 c4
    rw [hb] at hk
    rcases hcase with ⟨rfl, a1, a2, a3⟩ | ⟨rfl, a⟩ | ⟨rfl, a⟩ | ⟨rfl, a⟩
    · rw [if_neg a1, if_neg a2, if_neg a3] at hk
      exact ⟨by decide, by decide, _, rfl, hk⟩
    · rw [if_pos a] at hk
      exact ⟨by decide, by decide, _, rfl, hk⟩
    · rw [if_neg (by rw [a]; decide), if_pos a] at hk
      exact ⟨by decide, by decide, _, rfl, hk⟩
    · rw [if_neg (by rw [a]; decide), if_neg (by rw [a]; decide), if_pos a] at hk
      exact ⟨by decide, by decide, _, rfl, hk⟩
  have n3 := of_decide_eq_false h
  refine Sif_cases (fun h => ?_) (fun h => ?_)
  · have h1 := of_decide_eq_true h
    rw [ptx_small (t := t) (by omega)] at b4
    have hb : begins t = if t.text = [116, 114, 117, 101] ∨ t.text = [102, 97, 108, 115, 101] then some 1 else match kindN t.text with
      | some k => if k = 1 ∨ k = 19 ∨ k = 21 ∨ k = 22 ∨ k = 24 then none else some k
      | none => none := by
      unfold begins
      rw [if_neg n2, if_neg n3, if_neg (by omega)]
      rfl
    refine ⟨fun w5 => w5 = w4 ∧ ¬ (t.text = [116, 114, 117, 101] ∨ t.text = [102, 97, 108, 115, 101]), ?_, ?_⟩
    · rintro w5 ⟨rfl, hno⟩
      refine ⟨_, cellK b4 2 rfl, ?_⟩
      rw [if_neg hno] at hb
      refine named_ok fun w6 c6 => ?_
      have hk := hk w6 (c4.trans' c6)
      rw [hb] at hk
      cases hkn : kindN t.text with
      | none =>
        rw [hkn] at hk
        refine ⟨_, _, rfl, fun b1 w7 => w7 = w6 ∧ b1 = false, ?_, ?_⟩
        · rintro b1 w7 ⟨rfl, rfl⟩
          exact Sif_false hk
        · refine Sif_cases (fun h => absurd h (by decide)) (fun _ => Sif_cases (fun h => absurd h (by decide)) (fun _ => Sif_cases (fun h => absurd h (by decide)) (fun _ => Sif_cases (fun h => absurd h (by decide)) (fun _ => ⟨rfl, rfl⟩))))
      | some k =>
        rw [hkn] at hk
        refine ⟨_, _, rfl, fun b1 w7 => w7 = w6 ∧ b1 = decide (k = 1 ∨ k = 19 ∨ k = 21 ∨ k = 22 ∨ k = 24), ?_, ?_⟩
        · rintro b1 w7 ⟨rfl, rfl⟩
          simp only at hk
          refine Sif_cases (fun h => ?_) (fun h => ?_)
          · rw [if_pos (of_decide_eq_true h)] at hk; exact hk
          · rw [if_neg (of_decide_eq_false h)] at hk; exact hk
        · have e : ∀ j : Nat, ((k : Int) == (j : Int)) = decide (k = j) := fun j => by
            by_cases h : k = j
            · rw [h]; simp
            · simp [h]; omega
          have e1 : ((k : Int) == 1) = decide (k = 1) := e 1
          have e19 : ((k : Int) == 19) = decide (k = 19) := e 19
          have e21 : ((k : Int) == 21) = decide (k = 21) := e 21
          have e22 : ((k : Int) == 22) = decide (k = 22) := e 22
          have e24 : ((k : Int) == 24) = decide (k = 24) := e 24
          rw [e1, e19, e21, e22, e24]
          refine Sif_cases (fun h => ⟨by trivial, ?_⟩) (fun a1 => Sif_cases (fun h => ⟨by trivial, ?_⟩) (fun a19 => Sif_cases (fun h => ⟨by trivial, ?_⟩) (fun a21 => Sif_cases (fun h => ⟨by trivial, ?_⟩) (fun a22 => ⟨by trivial, ?_⟩))))
          all_goals
            simp only [decide_eq_true_eq, decide_eq_false_iff_not] at *
            first | (rw [decide_eq_true (by omega), decide_eq_true (by omega)]; done) | (apply decide_eq_decide.2; omega)
    · refine ⟨_, cellK b4 2 rfl, ?_⟩
      rw [show (ByteArray.mk (Array.mk [(116 : UInt8), 114, 117, 101])) = ⟨([116, 114, 117, 101] : Bs).toArray⟩ by rfl, bs_eq]
      refine Sif_cases (fun h => ?_) (fun h => ?_)
      · refine ⟨_, cellK b4 2 rfl, ?_⟩
        rw [show (ByteArray.mk (Array.mk [(102 : UInt8), 97, 108, 115, 101])) = ⟨([102, 97, 108, 115, 101] : Bs).toArray⟩ by rfl, bs_eq]
        rw [Bool.not_eq_true'] at h
        have h := of_decide_eq_false h
        refine Sif_cases (fun h2 => ?_) (fun h2 => ⟨by trivial, ?_⟩)
        · have := hk w4 c4
          rw [hb, if_pos (.inr (of_decide_eq_true h2))] at this
          exact this
        · rintro (h3 | h3)
          · exact h h3
          · exact of_decide_eq_false h2 h3
      · rw [Bool.not_eq_false'] at h
        have := hk w4 c4
        rw [hb, if_pos (.inl (of_decide_eq_true h))] at this
        exact this
  have n1 := of_decide_eq_false h
  have := hk w4 c4
  rw [show begins t = none by unfold begins; rw [if_neg n2, if_neg n3, if_pos n1]] at this
  exact this
end Go.Proofs.YtnacobknngidkaaGreatDoor
