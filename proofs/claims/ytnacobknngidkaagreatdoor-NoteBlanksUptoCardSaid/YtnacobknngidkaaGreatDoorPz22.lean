/-
  What the frames of the note's laws import.
-/
import Derived.Test.YtnacobknngidkaaGreatDoorPz21
import Derived.KernelRfl
import Derived.ProofKit
import Derived.OpenShut
import Derived.ShutString
import Derived.ChangeOld
import Derived.Below
import Derived.Carry
import Derived.SizedLaws
import Derived.Deep.Slices
import Derived.Deep.CondSized
import Derived.Deep.DeepHandedRow
import Derived.Lib.LaidTab
import Derived.Test.YtnacobknngidkaaGreatDoorRows
import Derived.Test.YtnacobknngidkaaGreatDoorCards
import Derived.Test.YtnacobknngidkaaGreatDoorTie
import Derived.LaidLaws
import Derived.LaidHandle
import Derived.LaidSub
import Derived.Lib.LaidU8T
import Derived.PinnedBridge
set_option linter.unusedVariables false
set_option linter.unusedSimpArgs false
namespace Go.Note
open Go
set_option linter.unusedVariables false
def unqR (l : Bs) : Bs × Bool := match wordB l with
  | some p => if p.2 = l.length then (p.1, true) else ([], false)
  | none => ([], false)
theorem unqR_quote (l : Bs) : unqR (quoteB l) = (l, true) := by
  unfold unqR
  have := wordB_quote l []
  rw [List.append_nil] at this
  rw [this]; simp
def mLive : M := .mk 22 0 [] 0 [.mk 20 0 [107] 0 [], .mk 21 0 [] 0 [.mk 0 0 [] 0 []], .mk 4 1 [] 0 [], .mk 15 65 [] 0 []]
def tLive : Bs := [123, 115, 121, 109, 98, 111, 108, 32, 34, 107, 34, 58, 32, 91, 110, 117, 108, 108, 93, 44, 32, 117, 105, 110, 116, 32, 49, 58, 32, 99, 104, 97, 114, 32, 54, 53, 125]
theorem live_print : printM mLive = tLive := by decide +kernel
theorem live_check : mLive.check 1 = 0 := by decide +kernel
theorem live_fits : mLive.fits := by
  refine .mk (by decide) fun x hx => ?_
  simp only [List.mem_cons, List.not_mem_nil, or_false] at hx
  rcases hx with rfl | rfl | rfl | rfl
  · exact .mk (by decide) (by simp)
  · refine .mk (by decide) fun x hx => ?_
    simp only [List.mem_cons, List.not_mem_nil, or_false] at hx
    subst hx
    exact .mk (by decide) (by simp)
  · exact .mk (by decide) (by simp)
  · exact .mk (by decide) (by simp)
set_option maxRecDepth 100000 in
theorem live_parse : parseB tLive = .ok mLive 0 := by kernel_rfl
theorem live_quote : quoteB [0, 34] = [34, 92, 120, 48, 48, 92, 34, 34] := by decide +kernel
theorem live_unq : unqR [34, 92, 120, 52, 49, 34] = ([65], true) := by decide +kernel
theorem text_ascii {p : Bs} (r : Bs) (h : ∀ x ∈ p, x.toNat ≤ 127) : textB (p ++ r) = textB r := by
  induction p with
  | nil => rfl
  | cons x p ih =>
    have hx := h x (by simp)
    have hc : chr (x :: (p ++ r)) = 1 := by
      rw [chr_ch, if_pos]
      exact hx
    rw [List.cons_append, textB_cons _ (by simp), hc]
    simpa using ih fun y hy => h y (by simp [hy])
theorem text_char {l : Bs} (r : Bs) (h : chr l ≠ 0) : textB (l.take (chr l) ++ r) = textB r := by
  have hle := (chr_le l).1
  have ht : (l.take (chr l)).length = chr l := by rw [List.length_take]; omega
  rw [textB_cons _ (by intro e; have := congrArg List.length e; simp only [List.length_append, List.length_nil] at this; omega), chr_of_take r h]
  rw [List.drop_append_of_le_length (by omega), List.drop_of_length_le (by omega)]
  simp [h]
theorem esc_ascii (p : Bs) : ∀ x ∈ esc p, x.toNat ≤ 127 := by
  induction p with
  | nil => simp [esc]
  | cons y p ih =>
    intro x hx
    simp only [esc, List.mem_cons] at hx
    have h1 := hexD_toNat (y.toNat / 16) (by have := y.toNat_lt; omega)
    have h2 := hexD_toNat (y.toNat % 16) (by omega)
    rcases hx with rfl | rfl | rfl | rfl | hx
    · decide
    · decide
    · have := y.toNat_lt; rw [h1]; split <;> omega
    · rw [h2]; split <;> omega
    · exact ih x hx
theorem qpiece_text {l : Bs} (r : Bs) (hl : l ≠ []) : textB (qpiece (l.take (wide l)) ++ r) = textB r := by
  have hw := wide_le l hl
  have hw1 := wide_pos l
  have hlen : (l.take (wide l)).length = wide l := by rw [List.length_take]; omega
  by_cases hc : chr l = 0
  · have h1 : wide l = 1 := by unfold wide; omega
    obtain ⟨x, t, rfl⟩ : ∃ x t, l = x :: t := by cases l with | nil => exact absurd rfl hl | cons x t => exact ⟨x, t, rfl⟩
    rw [h1]
    show textB (qpiece [x] ++ r) = _
    apply text_ascii
    unfold qpiece
    split
    · rename_i h
      intro y hy
      simp only [List.mem_cons, List.not_mem_nil, or_false] at hy
      rcases hy with rfl | rfl
      · decide
      · rcases h with h | h <;> (simp only [List.cons.injEq, and_true] at h; subst h; decide)
    · split
      · decide
      · split
        · rename_i h
          simp only [plainP, Bool.and_eq_true, decide_eq_true_eq] at h
          intro y hy
          simp only [List.mem_cons, List.not_mem_nil, or_false] at hy
          subst hy; omega
        · exact esc_ascii _
  · have hwc : wide l = chr l := by unfold wide; omega
    unfold qpiece
    split
    · rename_i h
      apply text_ascii
      intro y hy
      rcases h with h | h <;> (rw [h] at hy; simp only [List.mem_cons, List.not_mem_nil, or_false] at hy; rcases hy with rfl | rfl <;> decide)
    · split
      · exact text_ascii _ (by decide)
      · split
        · rw [hwc]; exact text_char r hc
        · exact text_ascii _ (esc_ascii _)
theorem qb_text (r : Bs) : ∀ (n : Nat) (l : Bs), l.length ≤ n → textB (qb l ++ r) = textB r
  | 0, l, h => by
    have : l = [] := List.eq_nil_of_length_eq_zero (by omega)
    subst this; rfl
  | n + 1, l, h => by
    by_cases hl : l = []
    · subst hl; rfl
    · have hw := wide_pos l
      rw [qb_cons l hl, List.append_assoc, qpiece_text _ hl]
      exact qb_text r n _ (by rw [List.length_drop]; omega)
theorem quote_text (l : Bs) : textB (quoteB l) = true := by
  rw [quoteB_eq]
  have h1 := text_ascii (p := [34]) (qb l ++ [34]) (by decide)
  rw [List.singleton_append] at h1
  rw [h1, qb_text _ _ l (Nat.le_refl _)]
  exact text_ascii (p := [34]) [] (by decide)
end Go.Note
namespace Go.Proofs.YtnacobknngidkaaGreatDoor
open Go Go.Sv Go.Note
set_option linter.unusedVariables false
attribute [local irreducible] Sif
set_option maxRecDepth 4000
theorem unq_ok {s : ByteArray} (hs : s.size ≤ 2 ^ 40) {w : World} (hL : LW w) {K : Value → World → Prop} (hk : ∀ w', Ch (fun _ => False) w w' → K (.tuple #[.string ⟨(unqR s.data.toList).1.toArray⟩, .bool (unqR s.data.toList).2]) w') :
    callP Tryz.prog 28 [.string s] w K := by
  refine Unquote_ok hs hL.ut (by have := hL.size; omega) fun w' c => ?_
  have := hk w' c
  unfold unqR at this
  rw [sl] at this
  cases h : wordB s.data.toList with
  | none => rw [h] at this; exact this
  | some p =>
    rw [h] at this
    simp only at this ⊢
    split <;> rename_i hp
    · rw [if_pos hp] at this; exact this
    · rw [if_neg hp] at this; exact this
theorem runq_ok {s : ByteArray} (hs : s.size ≤ 2 ^ 40) {w : World} {K : Value → World → Prop} (hk : ∀ w', Ch (fun _ => False) w w' → K (.tuple #[.string ⟨(unqR s.data.toList).1.toArray⟩, .bool (unqR s.data.toList).2]) w') :
    callP Tryz.prog 30 [.string s] w K := by
  refine rUnquote_ok hs fun w' c => ?_
  have := hk w' c
  unfold unqR at this
  rw [sl] at this
  cases h : wordB s.data.toList with
  | none => rw [h] at this; exact this
  | some p =>
    rw [h] at this
    simp only at this ⊢
    split <;> rename_i hp
    · rw [if_pos hp] at this; exact this
    · rw [if_neg hp] at this; exact this
theorem tupV {x : MV} {a e : Int} {K : Int → Int → ByteArray → Option Addr → Nat → Nat → Int → Int → Int → Prop} (h : K x.k (x.n : Int) ⟨x.t.toArray⟩ x.s.p x.s.n x.s.c x.e a e) :
    ∃ n n1 s p n2 c n3 n4 n5, Value.tuple #[x.v, .int .i64 a, .int .i64 e] = .tuple (Array.mk [.agg (Array.mk [.int .i64 n, .int .u64 n1, .string s, .slice p n2 c, .int .i64 n3]), .int .i64 n4, .int .i64 n5]) ∧ K n n1 s p n2 c n3 n4 n5 := by
  cases x
  exact ⟨_, _, _, _, _, _, _, _, _, rfl, h⟩
theorem Sif_true_of {b : Bool} {x y : Prop} (h : b = true) (hx : x) : Sif b x y := by subst h; exact Sif_true hx
theorem live_ok {w : World} (hL : LW w) {K : Value → World → Prop} (hk : ∀ w', Ch (fun _ => False) w w' → K (.bool true) w') : callP Tryz.prog 13 [] w K := by
  apply ok_longshorelaw04_live
  unfold wp_longshorelaw04_live
  refine Parse_ok (S := ⟨tLive.toArray⟩) (by decide) hL fun x w1 hx ho hB c1 => ?_
  have hp : parseR tLive = (mLive, 0, 0) := by unfold parseR; rw [live_parse]
  rw [str_list] at hx ⊢
  rw [hp] at hx ⊢
  refine tupV ?_
  refine nbx rfl fun w2 b2 c2 z2 => ?_
  refine ldK b2 ?_
  rw [vv]
  have c12 := c1.trans' c2
  have hx : x.m = mLive := hx
  have no : ¬ x.m.check 1 ≠ 0 := by rw [hx, live_check]; decide
  refine Print_ok (hL.ch0 c12) (ho.vr'.ch0 c2) (by rw [hx]; exact live_fits) (by rw [hx]; decide) (fun w3 c3 h => absurd h no) (fun w3 c3 _ h => ?_) (fun w3 c3 _ h => ?_)
  · rw [hx, live_print] at h; exact absurd h (by decide)
  rw [hx, live_print]
  refine ⟨_, _, rfl, ?_⟩
  refine Quote_ok _ (by decide) fun w4 c4 => ⟨_, rfl, ?_⟩
  have c14 := (c12.trans' c3).trans' c4
  refine unq_ok (by decide) (hL.ch0 c14) fun w5 c5 => ⟨_, _, rfl, ?_⟩
  refine Sif_true (Sif_true ?_)
  rw [show ByteArray.data (ByteArray.mk (Array.mk [(0 : UInt8), 34])) = ([0, 34] : Bs).toArray by rfl, List.toList_toArray, live_quote]
  rw [show ByteArray.data (ByteArray.mk (Array.mk [(34 : UInt8), 92, 120, 52, 49, 34])) = ([34, 92, 120, 52, 49, 34] : Bs).toArray by rfl, List.toList_toArray, live_unq]
  refine Sif_true_of (by decide +kernel) (Sif_true_of (by decide +kernel) (Sif_true_of (by decide +kernel) ?_))
  exact hk w5 (c14.trans' c5)
theorem numbers_law {w : World} (hL : LW w) {K : Value → World → Prop} (hk : ∀ w', Ch (fun _ => False) w w' → K (.bool true) w') : callP Tryz.prog 3 [] w K := by
  apply ok_longshorelaw04_NoteNumbers
  unfold wp_longshorelaw04_NoteNumbers
  exact live_ok hL fun w1 c1 => ⟨_, rfl, Sif_true (hk w1 c1)⟩
theorem unquotes_law {s more : ByteArray} (hs : s.size ≤ 2 ^ 30) (hm : more.size ≤ 2 ^ 30) {w : World} (hL : LW w) {K : Value → World → Prop} (hk : ∀ w', Ch (fun _ => False) w w' → K (.bool true) w') : callP Tryz.prog 11 [.string s, .string more] w K := by
  apply ok_longshorelaw04_NoteUnquotes
  unfold wp_longshorelaw04_NoteUnquotes
  have hsm : (s ++ more).size ≤ 2 ^ 40 := by rw [ByteArray.size_append]; omega
  refine live_ok hL fun w1 c1 => ⟨_, rfl, ?_⟩
  refine unq_ok (by omega) (hL.ch0 c1) fun w2 c2 => ⟨_, _, rfl, ?_⟩
  refine runq_ok (by omega) fun w3 c3 => ⟨_, _, rfl, by omega, ?_⟩
  refine unq_ok hsm (((hL.ch0 c1).ch0 c2).ch0 c3) fun w4 c4 => ⟨_, _, rfl, by omega, ?_⟩
  refine runq_ok hsm fun w5 c5 => ⟨_, _, rfl, ?_⟩
  rw [beq_self_eq_true, beq_self_eq_true, beq_self_eq_true, beq_self_eq_true]
  exact Sif_true (Sif_true (Sif_true (Sif_true (hk w5 ((((c1.trans' c2).trans' c3).trans' c4).trans' c5)))))
theorem quotes_law {s : ByteArray} (hs : s.size ≤ 2 ^ 30) {w : World} (hL : LW w) {K : Value → World → Prop} (hk : ∀ w', Ch (fun _ => False) w w' → K (.bool true) w') : callP Tryz.prog 10 [.string s] w K := by
  apply ok_longshorelaw04_NoteQuotes
  unfold wp_longshorelaw04_NoteQuotes
  have hq : (quoteB s.data.toList).length ≤ 4 * s.size + 2 := by
    have := qb_len _ s.data.toList (Nat.le_refl _)
    rw [sl] at this
    rw [quoteB_eq]
    simp only [List.length_cons, List.length_append, List.length_nil]
    omega
  have hqs : (⟨(quoteB s.data.toList).toArray⟩ : ByteArray).size ≤ 2 ^ 40 := by rw [← sl, str_list]; omega
  refine live_ok hL fun w1 c1 => ⟨_, rfl, ?_⟩
  refine Quote_ok _ (by omega) fun w2 c2 => ⟨_, rfl, ?_⟩
  refine rQuote_ok (by omega) fun w3 c3 => ⟨_, rfl, ?_⟩
  refine unq_ok hqs (((hL.ch0 c1).ch0 c2).ch0 c3) fun w4 c4 => ⟨_, _, rfl, ?_⟩
  refine Utf8_ok (by omega) fun r hr => ⟨_, rfl, ?_⟩
  rw [str_list] at hr ⊢
  rw [unqR_quote]
  have hr := hr.1 (quote_text _)
  subst hr
  rw [beq_self_eq_true]
  refine Sif_true (Sif_true (Sif_true (Sif_true_of ?_ (hk w4 (((c1.trans' c2).trans' c3).trans' c4)))))
  rw [show (⟨s.data.toList.toArray⟩ : ByteArray) = s by simp]
  exact beq_self_eq_true _
end Go.Proofs.YtnacobknngidkaaGreatDoor
namespace Go.Note
open Go
def PrR (m : M) : Bs × Nat := if m.check 1 ≠ 0 then ([], m.check 1) else if 1048576 < (printM m).length then ([], 2) else (printM m, 0)
theorem PrR_zero {m : M} (hf : m.fits) (h : (PrR m).2 = 0) : (PrR m).1 = printM m ∧ (printM m).length ≤ 1048576 ∧ m.check 1 = 0 ∧ parseB (PrR m).1 = .ok m 0 := by
  unfold PrR at h ⊢
  split at h <;> rename_i h1
  · exact absurd h h1
  · split at h <;> rename_i h2
    · cases h
    · rw [if_neg h1, if_neg h2]
      have hc : m.check 1 = 0 := by omega
      exact ⟨rfl, by omega, hc, parse_print hf hc (by omega)⟩
theorem PrR_some {m : M} (h : (PrR m).2 ≠ 0) : (PrR m).1 = [] := by
  unfold PrR at h ⊢
  split
  · rfl
  · split
    · rfl
    · rename_i h1 h2
      rw [if_neg h1, if_neg h2] at h; exact absurd rfl h
theorem PrR_ok {m : M} (h1 : m.check 1 = 0) (h2 : (printM m).length ≤ 1048576) : PrR m = (printM m, 0) := by
  unfold PrR; rw [if_neg (by omega), if_neg (by omega)]
end Go.Note
namespace Go.Proofs.YtnacobknngidkaaGreatDoor
open Go Go.Sv Go.Note
set_option linter.unusedVariables false
attribute [local irreducible] Sif
set_option maxRecDepth 4000
theorem print_ok {Q : Nat → Prop} {w : World} {x : MV} (hL : LW w) (hx : VR Q w x) (hf : x.m.fits) (hz : x.m.sz ≤ 2 ^ 37) {K : Value → World → Prop}
    (hk : ∀ w', Ch (fun _ => False) w w' → K (.tuple #[.string ⟨(PrR x.m).1.toArray⟩, .int .i64 ((PrR x.m).2 : Int)]) w') :
    callP Tryz.prog 16 [x.v] w K := by
  refine Print_ok hL hx hf hz (fun w' c h => ?_) (fun w' c h h2 => ?_) fun w' c h h2 => ?_
  · have := hk w' c
    unfold PrR at this; rw [if_pos h] at this; exact this
  · have := hk w' c
    unfold PrR at this; rw [if_neg (by omega), if_pos h2] at this; exact this
  · have := hk w' c
    rw [PrR_ok h h2] at this; exact this
theorem intEq (x y : Int) : (x == y) = decide (x = y) := by
  by_cases h : x = y
  · subst h; simp
  · rw [decide_eq_false h, beq_eq_false_iff_ne]; exact h
theorem ext1 {s : ByteArray} {i : Nat} {x : UInt8} (h : s.data.toList[i]? = some x) : s.extract i (i + 1) = ⟨([x] : Bs).toArray⟩ := by
  apply ByteArray.ext
  apply Array.toList_inj.1
  rw [extract_data, Nat.add_sub_cancel_left]
  have hi := (List.getElem?_eq_some_iff.1 h).1
  rw [List.drop_eq_getElem_cons hi]
  rw [List.getElem?_eq_getElem hi] at h
  simp [Option.some.inj h]
theorem ne0 (n : Nat) : ((n : Int) != 0) = decide (n ≠ 0) := by
  by_cases h : n = 0
  · subst h; rfl
  · rw [decide_eq_true h]; rw [bne_iff_ne]; omega
theorem eq0 (n : Nat) : ((n : Int) == 0) = decide (n = 0) := by
  by_cases h : n = 0
  · subst h; rfl
  · rw [decide_eq_false h]; rw [beq_eq_false_iff_ne]; omega
theorem sz_wt' (m : M) : m.wt ≤ m.sz := by
  revert m
  refine M.ind fun k n t e l ih => ?_
  rw [M.sz_mk, M.wt_mk]
  have : (l.map M.wt).sum ≤ (l.map M.sz).sum := by
    clear k n t e
    induction l with
    | nil => simp
    | cons x l ih2 =>
      have h1 := ih x (by simp)
      have h2 := ih2 fun y hy => ih y (by simp [hy])
      simp only [List.map_cons, List.sum_cons]; omega
  have := Nat.div_le_self t.length 64
  omega
theorem parse_of {s : Bs} {m : M} (h : parseB s = .ok m 0) : parseR s = (m, 0, 0) := by unfold parseR; rw [h]
theorem back_law {Q : Nat → Prop} {w : World} {x : MV} (hL : LW w) (hx : VR Q w x) (hf : x.m.fits) (hz : x.m.sz ≤ 2 ^ 37) {K : Value → World → Prop} (hk : ∀ w', Ch (fun _ => False) w w' → K (.bool true) w') :
    callP Tryz.prog 6 [x.v] w K := by
  obtain ⟨k, n, t, s, e, l⟩ := x
  apply ok_longshorelaw04_NoteBack
  unfold wp_longshorelaw04_NoteBack
  refine boxV (x := .mk k n t s e l) fun w1 b1 a1 c1 z1 => ?_
  refine ldK b1 ?_
  rw [vv]
  have hsw := sz_wt' (MV.mk k n t s e l).m
  refine Great_ok (hx.ch0 c1) (by omega) fun w2 c2 => ⟨_, rfl, ?_⟩
  refine live_ok ((hL.ch0 c1).ch0 c2) fun w3 c3 => ⟨_, rfl, ?_⟩
  have c12 := c1.trans' c2
  have c13 := c12.trans' c3
  refine ⟨fun w4 => w4 = w3, ?_, ?_⟩
  rotate_left
  · exact Sif_cases (fun h => Sif_false rfl) fun h => hk w3 c13
  rintro w4 rfl
  have b14 := ((c2.trans' c3).blk (blk_lt b1) id).trans b1
  refine ldK b14 ?_
  rw [vv]
  refine print_ok (hL.ch0 c13) (hx.ch0 c13) hf hz fun w5 c5 => ⟨_, _, rfl, ?_⟩
  have c15 := c13.trans' c5
  rw [ne0]
  refine Sif_cases (fun h => ?_) (fun h => ?_)
  · have h := of_decide_eq_true h
    rw [PrR_some h, show (ByteArray.mk (List.toArray ([] : Bs))).toList = (ByteArray.mk (Array.mk [])).toList by rfl, beq_self_eq_true]
    exact hk w5 c15
  · have h : (PrR (MV.mk k n t s e l).m).2 = 0 := by have := of_decide_eq_false h; omega
    obtain ⟨p1, p2, p3, p4⟩ := PrR_zero hf h
    have hpl : (PrR (MV.mk k n t s e l).m).1.length ≤ 1048576 := by rw [p1]; exact p2
    refine Parse_ok (by rw [str_size]; omega) (hL.ch0 c15) fun x' w6 hx' ho hB c6 => ?_
    rw [str_list, parse_of p4] at hx' ⊢
    refine tupV ?_
    refine nbx rfl fun w7 b7 c7 z7 => ?_
    have c67 := c6.trans' c7
    have b17 := ((c5.trans' c67).blk (blk_lt b14) id).trans b14
    refine ldK b17 (ldK b7 ?_)
    rw [vv, vv]
    refine rEqual_ok _ _ (hx.ch0 (c15.trans' c67)) (ho.vr'.ch0 c7) fun w8 c8 => ⟨_, rfl, ?_⟩
    refine Sif_true_of (decide_eq_true hx'.symm) (Sif_true_of rfl ?_)
    exact hk w8 ((c15.trans' c67).trans' c8)
theorem again_law {s : ByteArray} {w : World} (hL : LW w) (hs : s.size ≤ 2 ^ 40) {K : Value → World → Prop} (hk : ∀ w', Ch (fun _ => False) w w' → K (.bool true) w') :
    callP Tryz.prog 7 [.string s] w K := by
  apply ok_longshorelaw04_NoteAgain
  unfold wp_longshorelaw04_NoteAgain
  refine live_ok hL fun w1 c1 => ⟨_, rfl, ?_⟩
  refine Parse_ok hs (hL.ch0 c1) fun x w2 hx ho hB c2 => ?_
  refine tupV ?_
  refine nbx rfl fun w3 b3 c3 z3 => ?_
  have c13 := (c1.trans' c2).trans' c3
  rw [ne0]
  refine Sif_cases (fun h => hk w3 c13) (fun h => ?_)
  have h := of_decide_eq_false h
  obtain ⟨m, hx, g1, g2, g3⟩ : ∃ m, x.m = m ∧ m.check 1 = 0 ∧ m.fits ∧ m.sz ≤ 2 ^ 37 := by
    cases hp : parseB s.data.toList with
    | bad a e =>
      refine ⟨_, hx, ?_⟩
      have : parseR s.data.toList = (.mk 0 0 [] 0 [], a, e) := by unfold parseR; rw [hp]
      rw [this]
      show M.check 1 (.mk 0 0 [] 0 []) = 0 ∧ M.fits (.mk 0 0 [] 0 []) ∧ M.sz (.mk 0 0 [] 0 []) ≤ 2 ^ 37
      exact ⟨by decide, .mk (by decide) (by simp), by decide⟩
    | ok m b =>
      obtain ⟨g1, g2, g3, rfl, g5⟩ := parse_good hp
      refine ⟨m, by rw [hx, parse_of hp], g1, g2, by omega⟩
  refine ldK b3 ?_
  rw [vv]
  refine print_ok (hL.ch0 c13) (ho.vr'.ch0 c3) (by rw [hx]; exact g2) (by rw [hx]; omega) fun w4 c4 => ⟨_, _, rfl, ?_⟩
  rw [hx]
  have c14 := c13.trans' c4
  have e2 : (((PrR m).2 : Int) == 2) = decide ((PrR m).2 = 2) := by
    by_cases h : (PrR m).2 = 2
    · rw [h]; rfl
    · rw [decide_eq_false h, beq_eq_false_iff_ne]; omega
  rw [e2]
  refine Sif_cases (fun h => hk w4 c14) (fun h => ?_)
  have h2 := of_decide_eq_false h
  have hz : (PrR m).2 = 0 := by
    unfold PrR at h2 ⊢
    rw [if_neg (by omega)] at h2 ⊢
    split
    · rename_i h3; rw [if_pos h3] at h2; exact absurd rfl h2
    · rfl
  obtain ⟨p1, p2, p3, p4⟩ := PrR_zero g2 hz
  have hpl : (PrR m).1.length ≤ 1048576 := by rw [p1]; exact p2
  refine Parse_ok (by rw [str_size]; omega) (hL.ch0 c14) fun x' w6 hx' ho' hB' c6 => ?_
  rw [str_list, parse_of p4] at hx' ⊢
  refine tupV ?_
  refine nbx rfl fun w7 b7 c7 z7 => ?_
  have c47 := (c4.trans' c6).trans' c7
  have b37 := (c47.blk (blk_lt b3) id).trans b3
  refine ldK b37 (ldK b7 ?_)
  rw [vv, vv]
  refine rEqual_ok _ _ ((ho.vr'.ch0 c3).ch0 c47) (ho'.vr'.ch0 c7) fun w8 c8 => ⟨_, rfl, ?_⟩
  have b78 := (c8.blk (blk_lt b7) id).trans b7
  refine ldK b78 ?_
  rw [vv]
  have c18 := (c13.trans' c47).trans' c8
  have hx' : x'.m = m := hx'
  refine print_ok (hL.ch0 c18) ((ho'.vr'.ch0 c7).ch0 c8) (by rw [hx']; exact g2) (by rw [hx']; omega) fun w9 c9 => ⟨_, _, rfl, ?_⟩
  rw [hx', hx, hz]
  refine Sif_true (Sif_true_of (decide_eq_true rfl) (Sif_true_of rfl (Sif_true_of rfl (Sif_true_of rfl ?_))))
  rw [beq_self_eq_true]
  exact hk w9 (c18.trans' c9)
theorem unlike_law {Q Q' : Nat → Prop} {w : World} {x y : MV} (hL : LW w) (hx : VR Q w x) (hf : x.m.fits) (hz : x.m.sz ≤ 2 ^ 37) (hy : VR Q' w y) (hfy : y.m.fits) (hzy : y.m.sz ≤ 2 ^ 37) {K : Value → World → Prop} (hk : ∀ w', Ch (fun _ => False) w w' → K (.bool true) w') :
    callP Tryz.prog 8 [x.v, y.v] w K := by
  obtain ⟨k, n, t, s, e, l⟩ := x
  obtain ⟨k', n', t', s', e', l'⟩ := y
  apply ok_longshorelaw04_NoteUnlike
  unfold wp_longshorelaw04_NoteUnlike
  refine boxV (x := .mk k n t s e l) fun w1 b1 a1 c1 z1 => boxV (x := .mk k' n' t' s' e' l') fun w2 b2 a2 c2 z2 => ?_
  have b12 := (c2.blk (blk_lt b1) id).trans b1
  have c12 := c1.trans' c2
  have hsw := sz_wt' (MV.mk k n t s e l).m
  have hsw' := sz_wt' (MV.mk k' n' t' s' e' l').m
  refine ldK b12 ?_
  rw [vv]
  refine Great_ok (hx.ch0 c12) (by omega) fun w3 c3 => ⟨_, rfl, ?_⟩
  refine ldK ((c3.blk (blk_lt b2) id).trans b2) ?_
  rw [vv]
  refine Great_ok (hy.ch0 (c12.trans' c3)) (by omega) fun w4 c4 => ⟨_, rfl, ?_⟩
  have c14 := (c12.trans' c3).trans' c4
  refine live_ok (hL.ch0 c14) fun w5 c5 => ⟨_, rfl, ?_⟩
  have c15 := c14.trans' c5
  have c25 := (c3.trans' c4).trans' c5
  refine ⟨fun w6 => w6 = w5, ?_, ?_⟩
  rotate_left
  · exact Sif_cases (fun h => Sif_cases (fun h => hk w5 c15) fun h => rfl) fun h => hk w5 c15
  rintro w6 rfl
  refine ldK ((c25.blk (blk_lt b12) id).trans b12) ?_
  rw [vv]
  refine print_ok (hL.ch0 c15) (hx.ch0 c15) hf hz fun w7 c7 => ⟨_, _, rfl, ?_⟩
  have c17 := c15.trans' c7
  have c27 := c25.trans' c7
  refine ldK ((c27.blk (blk_lt b2) id).trans b2) ?_
  rw [vv]
  refine print_ok (hL.ch0 c17) (hy.ch0 c17) hfy hzy fun w8 c8 => ⟨_, _, rfl, ?_⟩
  have c18 := c17.trans' c8
  have c28 := c27.trans' c8
  refine ldK ((c28.blk (blk_lt b12) id).trans b12) (ldK ((c28.blk (blk_lt b2) id).trans b2) ?_)
  rw [vv, vv]
  refine rEqual_ok _ _ (hx.ch0 c18) (hy.ch0 c18) fun w9 c9 => ⟨_, rfl, ?_⟩
  have c19 := c18.trans' c9
  rw [ne0, ne0]
  refine ⟨fun w10 => w10 = w9 ∧ (PrR (MV.mk k n t s e l).m).2 = 0 ∧ (PrR (MV.mk k' n' t' s' e' l').m).2 = 0, ?_, ?_⟩
  rotate_left
  · refine Sif_cases (fun h => Sif_cases (fun h => hk w9 c19) fun h2 => ⟨rfl, ?_, ?_⟩) fun h => hk w9 c19
    · rw [Bool.not_eq_true'] at h
      have := of_decide_eq_false h; omega
    · have := of_decide_eq_false h2; omega
  rintro w10 ⟨rfl, q1, q2⟩
  obtain ⟨p1, p2, p3, p4⟩ := PrR_zero hf q1
  obtain ⟨r1, r2, r3, r4⟩ := PrR_zero hfy q2
  refine Sif_true ?_
  rw [bs_eq]
  have : decide ((PrR (MV.mk k n t s e l).m).1 = (PrR (MV.mk k' n' t' s' e' l').m).1) = decide ((MV.mk k n t s e l).m = (MV.mk k' n' t' s' e' l').m) := by
    refine decide_eq_decide.2 ⟨fun h => ?_, fun h => by rw [h]⟩
    rw [h, r4] at p4
    injection p4 with h1 h2
    exact h1.symm
  rw [this, beq_self_eq_true]
  exact hk _ c19
end Go.Proofs.YtnacobknngidkaaGreatDoor
namespace Go.Sv
open Go Go.ChangeShapes Go.WideShapes Go.ChangeAt Go.RowKit
set_option linter.unusedVariables false
def Inp (P : Program) (w : World) (ok : Nat → Nat → Prop) : Nat → TypeId → List Value → Prop
  | 0, _, _ => False
  | n + 1, t, cs =>
    match P.underlying t with
    | some .bool => ∃ b : Bool, cs = [.bool b]
    | some (.int k) => ∃ i : Int, cs = [.int k i] ∧ (Lit.int k i).wf = true
    | some .string => ∃ s : ByteArray, cs = [.string s] ∧ ok s.size 1
    | some (.slice e) => ∃ (p : Option Addr) (L : List (List Value)) (c : Nat), cs = [.slice p L.length c] ∧ L.length ≤ c ∧ ok c (P.bytesOf e) ∧ Rd w p L.length (P.cellsOf e) L.flatten ∧ ∀ x ∈ L, Inp P w ok n e x
    | some (.struct fs) => cs.length = P.cellsOf t ∧ ∀ f ∈ fs.toList, Inp P w ok n f.type ((cs.drop f.offset).take (P.cellsOf f.type))
    | _ => True
section
variable {P : Program} {w : World} {ok : Nat → Nat → Prop} {n : Nat} {t : TypeId} {cs : List Value}
theorem Inp.bool (h : Inp P w ok n t cs) (ht : P.underlying t = some .bool) : ∃ b : Bool, cs = [.bool b] := by
  cases n with
  | zero => exact h.elim
  | succ n => unfold Inp at h; rw [ht] at h; exact h
theorem Inp.int {k : IntKind} (h : Inp P w ok n t cs) (ht : P.underlying t = some (.int k)) : ∃ i : Int, cs = [.int k i] ∧ (Lit.int k i).wf = true := by
  cases n with
  | zero => exact h.elim
  | succ n => unfold Inp at h; rw [ht] at h; exact h
theorem Inp.str (h : Inp P w ok n t cs) (ht : P.underlying t = some .string) : ∃ s : ByteArray, cs = [.string s] ∧ ok s.size 1 := by
  cases n with
  | zero => exact h.elim
  | succ n => unfold Inp at h; rw [ht] at h; exact h
theorem Inp.slice {e : TypeId} (h : Inp P w ok n t cs) (ht : P.underlying t = some (.slice e)) :
    ∃ (p : Option Addr) (L : List (List Value)) (c : Nat), cs = [.slice p L.length c] ∧ L.length ≤ c ∧ ok c (P.bytesOf e) ∧ Rd w p L.length (P.cellsOf e) L.flatten ∧ ∀ x ∈ L, ∃ n, Inp P w ok n e x := by
  cases n with
  | zero => exact h.elim
  | succ n =>
    unfold Inp at h; rw [ht] at h
    obtain ⟨p, L, c, h1, h2, h3, h4, h5⟩ := h
    exact ⟨p, L, c, h1, h2, h3, h4, fun x hx => ⟨n, h5 x hx⟩⟩
theorem Inp.struct {fs : Array Field} (h : Inp P w ok n t cs) (ht : P.underlying t = some (.struct fs)) : cs.length = P.cellsOf t ∧ ∀ f ∈ fs.toList, ∃ n, Inp P w ok n f.type ((cs.drop f.offset).take (P.cellsOf f.type)) := by
  cases n with
  | zero => exact h.elim
  | succ n =>
    unfold Inp at h; rw [ht] at h
    exact ⟨h.1, fun f hf => ⟨n, h.2 f hf⟩⟩
end
def oneCells (P : Program) : Nat → List Field → Bool
  | _, [] => true
  | i, f :: r => f.offset == i && P.cellsOf f.type == 1 && oneCells P (i + 1) r
def InpEach (P : Program) (w : World) (ok : Nat → Nat → Prop) : List TypeId → List Value → Prop
  | [], [] => True
  | t :: ts, c :: cs => (∃ n, Inp P w ok n t [c]) ∧ InpEach P w ok ts cs
  | _, _ => False
theorem Inp.fields {P : Program} {w : World} {ok : Nat → Nat → Prop} {n : Nat} {t : TypeId} {cs : List Value} {fs : Array Field} (h : Inp P w ok n t cs) (ht : P.underlying t = some (.struct fs)) (hone : oneCells P 0 fs.toList = true)
    (hn : P.cellsOf t = fs.toList.length) : InpEach P w ok (fs.toList.map (·.type)) cs := by
  obtain ⟨h1, h2⟩ := h.struct ht
  have go : ∀ (l : List Field) (i : Nat), oneCells P i l = true → cs.length = i + l.length → (∀ f ∈ l, ∃ n, Inp P w ok n f.type ((cs.drop f.offset).take (P.cellsOf f.type))) → InpEach P w ok (l.map (·.type)) (cs.drop i) := by
    intro l
    induction l with
    | nil => intro i _ hl _; rw [List.drop_of_length_le (by simp at hl; omega)]; trivial
    | cons f r ih =>
      intro i ho hl hi
      simp only [oneCells, Bool.and_eq_true, beq_iff_eq] at ho
      obtain ⟨⟨h3, h4⟩, h5⟩ := ho
      simp only [List.length_cons] at hl
      have h6 := hi f (List.mem_cons_self ..)
      rw [h3, h4, List.drop_eq_getElem_cons (by omega)] at h6
      rw [List.drop_eq_getElem_cons (by omega)]
      exact ⟨h6, ih (i + 1) h5 (by omega) fun g hg => hi g (List.mem_cons_of_mem _ hg)⟩
  exact go fs.toList 0 hone (by omega) h2
theorem cell_at {w : World} {b j : Nat} {v : Value} (h : w.cell? ⟨b, j, none⟩ = some v) : ∃ cs, cellsAt w b = some cs ∧ cs[j]? = some v := by
  unfold World.cell? at h
  unfold cellsAt
  simp only at h
  split at h
  · rename_i c t fz hh
    exact ⟨c.toList, by rw [hh], by simpa using h⟩
  · cases h
theorem rd_of_cells {w : World} {a : Addr} {n sz : Nat} {xs : List Value} (hl : xs.length = n * sz) (hc : ∀ i, i < n * sz → w.cell? (a.add i) = xs[i]?) : Rd w (some a) n sz xs := by
  refine ⟨hl, ?_⟩
  by_cases h0 : n * sz = 0
  · exact .inl h0
  · have h1 := hc 0 (by omega)
    rw [List.getElem?_eq_getElem (by omega)] at h1
    have hs := World.cell?_spot h1
    obtain ⟨b, o, sp⟩ := a
    have hsp : sp = none := by
      unfold Addr.add at hs
      split at hs <;> simp_all
    subst hsp
    simp only [add_at] at hc h1
    obtain ⟨cs, hcs, _⟩ := cell_at h1
    right
    have hat : ∀ i, i < n * sz → cs[o + i]? = xs[i]? := fun i hi => by
      rw [← cell_of hcs, hc i hi]
    have hlast := hat (n * sz - 1) (by omega)
    rw [List.getElem?_eq_getElem (by omega : n * sz - 1 < xs.length)] at hlast
    have hlt := (List.getElem?_eq_some_iff.1 hlast).1
    refine ⟨b, o, cs, rfl, hcs, by omega, ?_⟩
    apply List.ext_getElem?
    intro i
    rw [List.getElem?_take]
    split
    · rename_i hi; rw [List.getElem?_drop, hat i hi]
    · rw [List.getElem?_eq_none (by omega)]
section
variable {H : Type} {enc : TypeId × Value → H} {P : Program} {w : World}
theorem flatten_get {sz : Nat} (L : List (List Value)) (h : ∀ x ∈ L, x.length = sz) (i j : Nat) (hj : j < sz) : L.flatten[i * sz + j]? = L[i]?.bind fun x => x[j]? := by
  induction L generalizing i with
  | nil => simp
  | cons x L ih =>
    have hx : x.length = sz := h x (by simp)
    rw [List.flatten_cons]
    cases i with
    | zero => rw [Nat.zero_mul, Nat.zero_add, List.getElem?_append_left (by omega)]; simp
    | succ i =>
      rw [List.getElem?_append_right (by rw [hx, Nat.add_mul]; omega), hx, show (i + 1) * sz + j - sz = i * sz + j by rw [Nat.add_mul]; omega, ih (fun y hy => h y (by simp [hy])) i]; simp
theorem flatten_len {sz : Nat} (L : List (List Value)) (h : ∀ x ∈ L, x.length = sz) : L.flatten.length = L.length * sz := by
  induction L with
  | nil => simp
  | cons x L ih => rw [List.flatten_cons, List.length_append, h x (by simp), ih fun y hy => h y (by simp [hy]), List.length_cons, Nat.add_mul]; omega
structure Measure (P : Program) (H : Type) where
  ok : Nat → Nat → Prop
  good : TypeId → DataW H → Prop
  str : ∀ {t : TypeId} {l : List UInt8}, good t (.lit (.string l)) → ok l.length 1
  nil : ∀ e, ok 0 (P.bytesOf e)
  slice : ∀ {t e : TypeId} {a b : List (DataW H)}, P.underlying t = some (.slice e) → good t (.slice a b) → ok (a.length + b.length) (P.bytesOf e) ∧ ∀ d ∈ a, good e d
  agg : ∀ {t : TypeId} {fs : Array Field} {l : List (DataW H)}, P.underlying t = some (.struct fs) → good t (.agg l) → ∀ (j : Nat) (f : Field) (d : DataW H), fs[j]? = some f → l[j]? = some d → good f.type d
theorem inp_of_trod (M : Measure P H) (base : Nat) : ∀ (fuel : Nat) (t : TypeId) (cs : List Value) (x : DataW H × List MemPlace), DataW.trod enc P w base (fun _ => true) true fuel t cs = some x → M.good t x.1 → ∃ n, Inp P w M.ok n t cs := by
  have mono : ∀ (a b : Nat) (t : TypeId) (cs : List Value), a ≤ b → Inp P w M.ok a t cs → Inp P w M.ok b t cs := by
    intro a
    induction a with
    | zero => intro b t cs _ h; exact h.elim
    | succ a ih =>
      intro b t cs hab h
      obtain ⟨b, rfl⟩ : ∃ c, b = c + 1 := ⟨b - 1, by omega⟩
      unfold Inp at h ⊢
      split at h
      · exact h
      · exact h
      · exact h
      · obtain ⟨p, L, c, h1, h2, h3, h4, h5⟩ := h
        exact ⟨p, L, c, h1, h2, h3, h4, fun x hx => ih b _ _ (by omega) (h5 x hx)⟩
      · exact ⟨h.1, fun f hf => ih b _ _ (by omega) (h.2 f hf)⟩
      · trivial
  intro fuel
  induction fuel with
  | zero => intro t cs x h; simp [DataW.trod] at h
  | succ fuel ih =>
    intro t cs x h hg
    cases ht : P.underlying t with
    | none => exact ⟨1, by unfold Inp; rw [ht]; trivial⟩
    | some td =>
      cases td with
      | bool =>
        obtain ⟨b, rfl, _⟩ := DataW.trod_bool ht h
        exact ⟨1, by unfold Inp; rw [ht]; exact ⟨b, rfl⟩⟩
      | int k =>
        obtain ⟨i, rfl, _, hw⟩ := DataW.trod_int ht h
        exact ⟨1, by unfold Inp; rw [ht]; exact ⟨i, rfl, hw⟩⟩
      | string =>
        obtain ⟨s, rfl, rfl, _⟩ := DataW.trod_string ht h
        exact ⟨1, by unfold Inp; rw [ht]; exact ⟨s, rfl, by simpa using M.str hg⟩⟩
      | slice e =>
        rcases DataW.trod_slice ht h with ⟨rfl, _⟩ | ⟨a, len, cap, elems, rest, m, hm, rfl, rfl, hb, hl, hmx, hlen, hel, hsp, hns⟩
        · exact ⟨1, by unfold Inp; rw [ht]; exact ⟨none, [], 0, rfl, Nat.le_refl _, M.nil e, ⟨by simp, .inl (by simp)⟩, by simp⟩⟩
        · obtain ⟨hk, hge⟩ := M.slice ht hg
          obtain rfl : fuel = m := by omega
          have hrest := (hsp rfl).1
          have hcap : elems.length + rest.length = cap := by omega
          have each : ∀ i, i < len → ∃ cs', w.cells? base (a.add (i * P.cellsOf e)) (P.cellsOf e) = some cs' ∧ ∃ n, Inp P w M.ok n e cs' := fun i hi => by
            have h1 := hel i hi
            have h2 : elems[i]? = some (elems[i]'(by omega)) := List.getElem?_eq_getElem (by omega)
            rw [h2] at h1
            cases hc : w.cells? base (a.add (i * P.cellsOf e)) (P.cellsOf e) with
            | none => rw [hc] at h1; cases h1
            | some cs' =>
              rw [hc] at h1
              exact ⟨cs', rfl, ih e cs' _ h1 (hge _ (List.mem_map.2 ⟨_, List.mem_of_getElem? h2, rfl⟩))⟩
          obtain ⟨F, hF⟩ := Deep.choose_lt each
          obtain ⟨N, hN⟩ := Deep.fuel_lt (n := len) (q := fun i n => Inp P w M.ok n e (F i)) (fun i a b hab h => mono a b _ _ hab h) (fun i hi => (hF i hi).2)
          have hFl : ∀ x ∈ (List.range len).map F, x.length = P.cellsOf e := fun x hx => by
            obtain ⟨i, hi, rfl⟩ := List.mem_map.1 hx
            exact (World.cells?_some (hF i (List.mem_range.1 hi)).1).2.1
          have hlen' : ((List.range len).map F).length = len := by simp
          refine ⟨N + 1, ?_⟩
          unfold Inp
          rw [ht]
          refine ⟨some a, (List.range len).map F, cap, by rw [hlen'], by rw [hlen']; exact hl, by simpa [hcap] using hk, ?_, fun x hx => ?_⟩
          · rw [hlen']
            have hll : ((List.range len).map F).flatten.length = len * P.cellsOf e := by
              rw [flatten_len _ hFl, hlen']
            refine rd_of_cells hll fun i hi => ?_
            have hsz : 0 < P.cellsOf e := Nat.pos_of_ne_zero fun h0 => by rw [h0] at hi; simp at hi
            have hdm := Nat.div_add_mod i (P.cellsOf e)
            have hil : i / P.cellsOf e < len := by rw [Nat.div_lt_iff_lt_mul hsz]; exact hi
            have hj := Nat.mod_lt i hsz
            have h3 := (World.cells?_some (hF _ hil).1).2.2 (i % P.cellsOf e) hj
            rw [Deep.add_add, Nat.mul_comm, hdm] at h3
            rw [h3]
            have h4 := flatten_get _ hFl (i / P.cellsOf e) (i % P.cellsOf e) hj
            rw [Nat.mul_comm, hdm] at h4
            rw [h4, List.getElem?_map, List.getElem?_range hil]; simp
          · obtain ⟨i, hi, rfl⟩ := List.mem_map.1 hx
            exact hN i (List.mem_range.1 hi)
      | struct fs =>
        obtain ⟨xs, m, hm, rfl, hcl, hxl, hf⟩ := DataW.trod_struct ht h
        obtain rfl : fuel = m := by omega
        have each : ∀ i, i < fs.size → ∃ n, ∀ f, fs[i]? = some f → Inp P w M.ok n f.type ((cs.drop f.offset).take (P.cellsOf f.type)) := fun i hi => by
          have hfi : fs[i]? = some fs[i] := Array.getElem?_eq_getElem hi
          have h1 := hf i _ hfi
          have h2 : xs[i]? = some (xs[i]'(by omega)) := List.getElem?_eq_getElem (by omega)
          rw [h2] at h1
          obtain ⟨n, hn⟩ := ih _ _ _ h1 (M.agg ht hg i _ _ hfi (by rw [List.getElem?_map, h2]; rfl))
          exact ⟨n, fun f hf' => by rw [hfi] at hf'; cases hf'; exact hn⟩
        obtain ⟨N, hN⟩ := Deep.fuel_lt (n := fs.size) (q := fun i n => ∀ f, fs[i]? = some f → Inp P w M.ok n f.type ((cs.drop f.offset).take (P.cellsOf f.type))) (fun i a b hab h f hf => mono a b _ _ hab (h f hf)) each
        refine ⟨N + 1, ?_⟩
        unfold Inp
        rw [ht]
        refine ⟨hcl, fun f hf' => ?_⟩
        obtain ⟨i, hi, rfl⟩ := List.mem_iff_getElem.1 hf'
        exact hN i (by simpa using hi) _ (by simp)
      | _ => exact ⟨1, by unfold Inp; rw [ht]; trivial⟩
end
def InpV (P : Program) (w : World) (ok : Nat → Nat → Prop) (t : TypeId) (v : Value) : Prop :=
  (∃ n, Inp P w ok n t v.cells.toList) ∧ (match P.underlying t with | some (.struct _) | some (.array _ _) => ∃ cs, v = .agg cs | _ => oneV v = true)
def InpAll (P : Program) (w : World) (ok : Nat → Nat → Prop) : List TypeId → List Value → Prop
  | [], [] => True
  | t :: ts, v :: vs => InpV P w ok t v ∧ InpAll P w ok ts vs
  | _, _ => False
section
variable {H : Type} {enc : TypeId × Value → H} {P : Program} {w : World}
theorem inpAll_of (M : Measure P H) : ∀ {ts : List TypeId} {vs : List Value} {ds : List (DataW H)} {ps : List MemPlace}, DataW.TrodAll enc P w 0 (fun _ => true) true ts vs ds ps →
    (∀ (j : Nat) t v, ts[j]? = some t → vs[j]? = some v → ∃ b, Value.okWide P w .any b t v) → (∀ (j : Nat) t d, ts[j]? = some t → ds[j]? = some d → M.good t d) → InpAll P w M.ok ts vs
  | [], [], _, _, _, _, _ => trivial
  | t :: ts, v :: vs, d :: ds, ps, h, hv, hg => by
    obtain ⟨p, q, ⟨fuel, hf⟩, h2, _⟩ := h
    refine ⟨⟨inp_of_trod M 0 fuel t _ _ hf (hg 0 t d rfl rfl), ?_⟩, inpAll_of M h2 (fun j t v ht hv' => hv (j + 1) t v ht hv') fun j t d ht hd => hg (j + 1) t d ht hd⟩
    obtain ⟨b, h3⟩ := hv 0 t v rfl rfl
    unfold Value.okWide at h3
    cases ht : P.underlying t with
    | none => simp only [ht] at h3 ⊢; unfold Cell.okWide Cell.ok at h3; rw [ht] at h3; cases v <;> first | rfl | exact h3.elim
    | some td =>
      cases td <;> simp only [ht] at h3 ⊢
      all_goals first
        | (obtain ⟨cs, h3, _⟩ := h3; exact ⟨cs, h3⟩)
        | (unfold Cell.okWide Cell.ok at h3; rw [ht] at h3; cases v <;> first | rfl | exact h3.elim)
  | [], _ :: _, _, _, h, _, _ => h.elim
  | _ :: _, [], _, _, h, _, _ => h.elim
  | _ :: _, _ :: _, [], _, h, _, _ => h.elim
theorem trodAll_stays {W W' : World} (hl : laidOutB P = true) (hb : RowKit.Below W.heap.size W W') : ∀ {ts : List TypeId} {vs : List Value} {ds : List (DataW H)} {ps : List MemPlace},
    (∀ t ∈ ts, P.readableRec t = true ∧ t < P.types.size) → DataW.TrodAll enc P W 0 (fun _ => true) true ts vs ds ps → DataW.TrodAll enc P W' 0 (fun b => decide (b < W.heap.size)) true ts vs ds ps
  | [], [], [], _, _, h => h
  | t :: ts, v :: vs, d :: ds, ps, hr, h => by
    obtain ⟨p, q, h1, h2, e⟩ := h
    have hlt : ∀ x ∈ p, x.block < W.heap.size := by obtain ⟨m, hm⟩ := h1; exact DataW.trod_lt m _ _ _ hm
    exact ⟨p, q, Below.trod hl (hr t (List.mem_cons_self ..)).1 (hr t (List.mem_cons_self ..)).2 h1 hb hlt, trodAll_stays hl hb (fun t ht => hr t (List.mem_cons_of_mem _ ht)) h2, e⟩
  | [], _ :: _, _, _, _, h => h.elim
  | _ :: _, [], _, _, _, h => h.elim
  | [], [], _ :: _, _, _, h => h.elim
  | _ :: _, _ :: _, [], _, _, h => h.elim
theorem trodAll_ds_len {spare : Nat → Bool} {base : Nat} {held : Bool} : ∀ {ts : List TypeId} {vs : List Value} {ds : List (DataW H)} {ps : List MemPlace}, DataW.TrodAll enc P w base spare held ts vs ds ps → ds.length = ts.length
  | [], [], [], _, _ => rfl
  | t :: ts, v :: vs, d :: ds, ps, ⟨p, q, _, h, _⟩ => by simp [trodAll_ds_len h]
  | [], _ :: _, _, _, h => h.elim
  | _ :: _, [], _, _, h => h.elim
  | [], [], _ :: _, _, h => h.elim
  | _ :: _, _ :: _, [], _, h => h.elim
theorem law_contract {C : Checked} {f : FuncId} {fn : Func} {s : ChangeSpec} {tb : TypeId} (M : Measure C.prog H)
    (hl : laidOutB C.prog = true) (hvars : s.vars = []) (hfun : ∀ ds : List (DataW H), ds.length = fn.params.toList.length → s.fn H ds = { results := [.lit (.bool true)], args := ds })
    (hres : fn.resultTypes = #[tb]) (htb : C.prog.underlying tb = some .bool) (hrec : fn.params.toList.all (fun t => C.prog.readableRec t && decide (t < C.prog.types.size)) = true)
    {W : World} {base : Nat} {args : Array Value} {ds gs : List (DataW H)} {before : List MemPlace}
    (hval : ∀ (j : Nat) t v, fn.params[j]? = some t → args[j]? = some v → Value.okWide C.prog W .any base t v)
    (hW : DataW.Whole enc C.prog fn.params.toList s.vars false W args.toList ds gs before) (hgood : ∀ (j : Nat) (t : TypeId) (d : DataW H), fn.params.toList[j]? = some t → ds[j]? = some d → M.good t d)
    (walk : InpAll C.prog W M.ok fn.params.toList args.toList → callP C.prog f args.toList W fun v w' => v = .bool true ∧ Ch (fun _ => False) W w') :
    Calls C.prog f args W fun e W' => ∃ v, e = .returned v ∧ s.post enc C.prog fn false true false false W args v W' := by
  have hW' := hW
  obtain ⟨p, q, hA, hV, hbef, hfz, hnd⟩ := hW
  rw [hvars] at hV
  obtain ⟨rfl, rfl⟩ := trodVars_none hV
  have hlen := trodAll_ds_len hA
  have hrec' : ∀ t ∈ fn.params.toList, C.prog.readableRec t = true ∧ t < C.prog.types.size := fun t ht => by
    have := List.all_eq_true.1 hrec t ht
    simpa using this
  have hin := inpAll_of M hA (fun j t v ht hv => ⟨base, hval j t v (by simpa using ht) (by simpa using hv)⟩) hgood
  have hc := walk hin
  have hc2 : Calls C.prog f args W fun e w' => ∃ v, e = .returned v ∧ (v = .bool true ∧ Ch (fun _ => False) W w') := by
    unfold callP at hc
    have e : args.toList.toArray = args := by simp
    rw [e] at hc
    exact hc
  refine Calls.mono hc2 fun e W' ⟨v, he, hv, hch⟩ => ?_
  subst hv
  have bel : RowKit.Below W.heap.size W W' := hch.below (Nat.le_refl _) fun _ h => h.elim
  refine ⟨_, he, ds, [], before, [], p, [], hW', ?_, ?_, ?_, bel.frame _, fun h => by cases h⟩
  · rw [List.append_nil, hfun ds hlen, hres]
    exact trodAll_mk1 (shut_bool htb _)
  · rw [List.append_nil, hfun ds hlen]
    exact trodAll_stays hl bel hrec' hA
  · rw [List.append_nil, hfun ds hlen, hvars]; rfl
end
end Go.Sv
namespace Go.Sv
open Go Go.ChangeShapes Go.WideShapes Go.ChangeAt Go.RowKit
set_option linter.unusedVariables false
section
variable {H : Type} {enc : TypeId × Value → H}
end
def flatD : Nat → DataW Unit → List Value
  | 0, _ => []
  | n + 1, d => match d with
    | .agg l => l.flatMap (flatD n)
    | .lit l => [l.value]
    | _ => []
noncomputable def laidW (P : Program) (os : Os) (gs : List (Nat × List Value)) : World :=
  { World.holding P os ⟨#[], #[], []⟩ with heap := gs.foldl (fun h g => h.modify g.1 fun | .cells _ t frozen => .cells g.2.toArray t frozen | o => o) (World.holding P os ⟨#[], #[], []⟩).heap }
end Go.Sv
namespace Go.Proofs.YtnacobknngidkaaGreatDoor
open Go Go.Sv
theorem bulk_part {H : Type} {d : DataW H} {l : List (DataW H)} (h : d ∈ l) : Rows.uptoBulk d ≤ Rows.uptoBulkAll l := by
  induction l with
  | nil => cases h
  | cons x r ih =>
    simp only [Rows.uptoBulkAll]
    rcases List.mem_cons.1 h with rfl | e
    · omega
    · have := ih e; omega
theorem bulk_one {H : Type} (d : DataW H) : 1 ≤ Rows.uptoBulk d := by
  cases d with
  | lit l => cases l <;> simp [Rows.uptoBulk]
  | _ => simp [Rows.uptoBulk]
theorem bulk_len {H : Type} (l : List (DataW H)) : l.length ≤ Rows.uptoBulkAll l := by
  induction l with
  | nil => simp [Rows.uptoBulkAll]
  | cons x r ih => have := bulk_one x; simp only [Rows.uptoBulkAll, List.length_cons]; omega
def upM : Nat := 1048576
def byBulk (P : Program) (H : Type) : Measure P H where
  ok n _ := n ≤ upM
  good _ d := Rows.uptoBulk d ≤ upM
  str h := by simp only [Rows.uptoBulk] at h; omega
  nil _ := Nat.zero_le _
  slice {_ _ a b} _ h := by
    simp only [Rows.uptoBulk] at h
    have h1 := bulk_len a
    have h2 := bulk_len b
    exact ⟨by omega, fun d hd => by have := bulk_part hd; omega⟩
  agg {_ _ l} _ h j f d _ hd := by
    simp only [Rows.uptoBulk] at h
    have := bulk_part (List.mem_of_getElem? hd)
    omega
theorem byBulk_of {P : Program} {H : Type} (ds : List (DataW H)) (h : Rows.uptoSmall H ds = true) : ∀ d ∈ ds, ∀ t, (byBulk P H).good t d := fun d hd t => by
  have h1 : Rows.uptoBulkAll ds ≤ 1048576 := by simpa [Rows.uptoSmall] using h
  have := bulk_part hd
  show Rows.uptoBulk d ≤ upM
  unfold upM; omega
abbrev okU : Nat → Nat → Prop := fun n _ => n ≤ upM
end Go.Proofs.YtnacobknngidkaaGreatDoor
namespace Go.Proofs.YtnacobknngidkaaGreatDoor
open Go Go.Sv Go.Note Go.ChangeShapes
set_option linter.unusedVariables false
set_option maxRecDepth 100000
theorem own : ownKnob Tryz.prog.godebug = none := by kernel_rfl
theorem laidOut : laidOutB Tryz.prog = true := by kernel_rfl
def ren : Shelf.Ren := ⟨fun x => x, fun x => if x = 5 then 5 else if x = 119 then 171 else if x = 138 then 173 else if x = 139 then 174 else x, fun x => if x = 3 then 0 else if x = 4 then 1 else x⟩
theorem u8T : U8Types Tryz.prog ren := ⟨by kernel_rfl, by kernel_rfl, by kernel_rfl, by kernel_rfl⟩
theorem u8X : U8Extra Tryz.prog ren := ⟨by kernel_rfl, by kernel_rfl, by kernel_rfl, by kernel_rfl, by kernel_rfl, by kernel_rfl, by kernel_rfl⟩
abbrev laidL : List (String × DataW Unit) := [("math/bits.deBruijn32tab", Rows.laid_math_bits_deBruijn32tab), ("math/bits.deBruijn64tab", Rows.laid_math_bits_deBruijn64tab), ("internal/strconv.uint64pow10", Rows.laid_internal_strconv_uint64pow10), ("unicode/utf8.acceptRanges", Rows.laid_unicode_utf8_acceptRanges), ("strconv.ErrRange", Rows.laid_strconv_ErrRange), ("strconv.ErrSyntax", Rows.laid_strconv_ErrSyntax), ("unicode/utf8.first", Rows.laid_unicode_utf8_first)]
theorem gSyn : Tryz.prog.globalNamed "strconv.ErrSyntax" = some 4 := by kernel_rfl
theorem gRan : Tryz.prog.globalNamed "strconv.ErrRange" = some 5 := by kernel_rfl
theorem gTab : Tryz.prog.globalNamed "math/bits.deBruijn64tab" = some 7 := by kernel_rfl
theorem gPow : Tryz.prog.globalNamed "internal/strconv.uint64pow10" = some 3 := by kernel_rfl
theorem tySyn : (Tryz.prog.globals[4]?).map (·.type) = some 85 := by kernel_rfl
theorem tyRan : (Tryz.prog.globals[5]?).map (·.type) = some 85 := by kernel_rfl
theorem tyPow : (Tryz.prog.globals[3]?).map (·.type) = some 207 := by kernel_rfl
theorem err_of {W : World} {n : String} {g : Nat} {nm : String} {d : DataW Unit} (hg : Tryz.prog.globalNamed n = some g) (hty : (Tryz.prog.globals[g]?).map (·.type) = some 85) (h : Lib.VarReads Tryz.prog W n (.iface nm d)) : ∃ te pe, W.cell? ⟨g, 0, none⟩ = some (.iface te pe) := by
  obtain ⟨g', t, cs, fuel, p, hg', hty', hvar, hd⟩ := h
  obtain rfl := Option.some.inj (hg.symm.trans hg')
  obtain rfl := Option.some.inj (hty.symm.trans hty')
  obtain ⟨f1, u, v, hcs, hn, h1⟩ := iface_of_trod Tryz.underlying85 hd
  refine ⟨u, v, ?_⟩
  rw [World.var?_cell hg hvar 0, ← Array.getElem?_toList, hcs]; rfl
theorem lw_of_laid {W : World} (h : laidMetH Tryz.prog laidL W) : LW W := by
  have hd : laidMet Tryz.prog laidL W := (laidMetH_iff.1 h).1
  have r1 : Lib.VarReads Tryz.prog W "unicode/utf8.first" Rows.laid_unicode_utf8_first := Lib.laidMet.reads hd (by simp [laidL])
  have r2 : Lib.VarReads Tryz.prog W "unicode/utf8.acceptRanges" Rows.laid_unicode_utf8_acceptRanges := Lib.laidMet.reads hd (by simp [laidL])
  have r3 : Lib.VarReads Tryz.prog W "strconv.ErrSyntax" Rows.laid_strconv_ErrSyntax := Lib.laidMet.reads hd (by simp [laidL])
  have r4 : Lib.VarReads Tryz.prog W "strconv.ErrRange" Rows.laid_strconv_ErrRange := Lib.laidMet.reads hd (by simp [laidL])
  have r5 : Lib.VarReads Tryz.prog W "internal/strconv.uint64pow10" Rows.laid_internal_strconv_uint64pow10 := Lib.laidMet.reads hd (by simp [laidL])
  have r6 : Lib.VarReads Tryz.prog W "math/bits.deBruijn64tab" Rows.laid_math_bits_deBruijn64tab := Lib.laidMet.reads hd (by simp [laidL])
  refine ⟨?_, err_of gSyn tySyn r3, err_of gRan tyRan r4, ?_, ?_⟩
  · refine utf8Tabs_of_readsT u8T u8X ?_ ?_
    · rw [← Pinned.utf8First_eq]; exact r1
    · exact (show Rows.laid_unicode_utf8_acceptRanges = Lib.acceptData by kernel_rfl) ▸ r2
  · obtain ⟨g, t, cs, fuel, p, hg, hty, hvar, hd⟩ := r5
    obtain rfl := Option.some.inj (gPow.symm.trans hg)
    obtain rfl := Option.some.inj (tyPow.symm.trans hty)
    have e : (Rows.laid_internal_strconv_uint64pow10 : DataW Unit) = Lib.tabData .u64 Lib.pow10Tab := by kernel_rfl
    rw [e] at hd
    unfold Lib.TabIs
    rw [hvar, ← Lib.cells_of_tab Tryz.underlying207 Tryz.underlying23 (by kernel_rfl) (by kernel_rfl) hd]
  · obtain ⟨g, t, cs, fuel, p, hg, hty, hvar, hd⟩ := r6
    obtain rfl := Option.some.inj (gTab.symm.trans hg)
    unfold World.var? at hvar
    rw [gTab] at hvar
    by_cases hz : 8 ≤ W.heap.size
    · exact hz
    · rw [Option.bind_some, Array.getElem?_eq_none (by omega)] at hvar
      cases hvar
noncomputable def nW (os : Os) : World :=
  let w0 := laidW Tryz.prog os [(0, flatD 2 Rows.laid_unicode_utf8_first), (1, flatD 3 Rows.laid_unicode_utf8_acceptRanges), (3, flatD 2 Rows.laid_internal_strconv_uint64pow10), (6, flatD 2 Rows.laid_math_bits_deBruijn32tab), (7, flatD 2 Rows.laid_math_bits_deBruijn64tab)]
  let w2 := (w0.alloc (.cells #[.string ⟨#[105, 110, 118, 97, 108, 105, 100, 32, 115, 121, 110, 116, 97, 120]⟩] 232)).alloc (.cells #[.string ⟨#[118, 97, 108, 117, 101, 32, 111, 117, 116, 32, 111, 102, 32, 114, 97, 110, 103, 101]⟩] 232)
  { w2 with heap := (w2.heap.modify 4 fun | .cells _ t fz => .cells #[.iface 230 (.pointer (some ⟨w0.heap.size, 0, none⟩))] t fz | o => o).modify 5 fun | .cells _ t fz => .cells #[.iface 230 (.pointer (some ⟨w0.heap.size + 1, 0, none⟩))] t fz | o => o }
theorem str_arg {w : World} {v : Value} (h : InpV Tryz.prog w okU 9 v) : ∃ s : ByteArray, v = .string s ∧ s.size ≤ 1048576 := by
  obtain ⟨⟨n, h⟩, h2⟩ := h
  obtain ⟨s, e, hw⟩ := h.str Tryz.underlying9
  rw [Tryz.underlying9] at h2
  simp only [okU] at hw
  have : upM = 1048576 := rfl
  refine ⟨s, ?_, by omega⟩
  cases v <;> simp_all [Value.cells, oneV]
theorem int_arg {w : World} {v : Value} (h : InpV Tryz.prog w okU 3 v) : ∃ n : Int, v = .int .i64 n ∧ -9223372036854775808 ≤ n ∧ n ≤ 9223372036854775807 := by
  obtain ⟨⟨n, h⟩, h2⟩ := h
  obtain ⟨i, e, hw⟩ := h.int Tryz.underlying3
  rw [Tryz.underlying3] at h2
  have hb : -9223372036854775808 ≤ i ∧ i ≤ 9223372036854775807 := by simpa [Lit.wf, IntKind.min, IntKind.max, IntKind.signed, IntKind.bits] using hw
  refine ⟨i, ?_, hb.1, hb.2⟩
  cases v <;> simp_all [Value.cells, oneV]
end Go.Proofs.YtnacobknngidkaaGreatDoor
namespace Go.Sv
open Go Go.ChangeShapes Go.WideShapes Go.ChangeAt Go.RowKit
set_option linter.unusedVariables false
section
variable {H : Type} {enc : TypeId × Value → H}
theorem law_contractT {C : Checked} {f : FuncId} {fn : Func} {s : ChangeSpec} {tb : TypeId} (M : Measure C.prog H)
    (hl : laidOutB C.prog = true) (hvars : s.vars = []) (hfun : ∀ ds : List (DataW H), ds.length = fn.params.toList.length → s.fn H ds = { results := [.lit (.bool true)], args := ds })
    (hres : fn.resultTypes = #[tb]) (htb : C.prog.underlying tb = some .bool) (hrec : fn.params.toList.all (fun t => C.prog.readableRec t && decide (t < C.prog.types.size)) = true)
    {W : World} {base : Nat} {args : Array Value} {ds gs : List (DataW H)} {before : List MemPlace}
    (hval : ∀ (j : Nat) t v, fn.params[j]? = some t → args[j]? = some v → Value.okWide C.prog W .any base t v)
    (hW : DataW.Whole enc C.prog fn.params.toList s.vars false W args.toList ds gs before) (hgood : ∀ d ∈ ds, ∀ t, M.good t d)
    (walk : ∀ ps, DataW.TrodAll enc C.prog W 0 (fun _ => true) true fn.params.toList args.toList ds ps → InpAll C.prog W M.ok fn.params.toList args.toList → callP C.prog f args.toList W fun v w' => v = .bool true ∧ Ch (fun _ => False) W w') :
    Calls C.prog f args W fun e W' => ∃ v, e = .returned v ∧ s.post enc C.prog fn false true false false W args v W' := by
  have hA' := hW
  obtain ⟨p, q, hA, hV, hbef, hfz, hnd⟩ := hA'
  exact law_contract M hl hvars hfun hres htb hrec hval hW (fun j t d ht hd => hgood d (List.mem_of_getElem? hd) t) (walk p hA)
theorem lift_laidT {C : Checked} {os : Os} (started : os.Started) {f : FuncId} {fn : Func} {s : ChangeSpec} {o : OpenSpec} {k : (H : Type) → List (DataW H) → Bool} (M : Measure C.prog H) {dom : List PathCond} {laid : List (String × DataW Unit)} {tb : TypeId} {F : Stop.Interp}
    (ho : o = { OpenSpec.ofChange s with cond := some k }) (hM : ∀ ds : List (DataW H), k H ds = true → ∀ d ∈ ds, ∀ t, M.good t d)
    (own : ownKnob C.prog.godebug = none) (hl : laidOutB C.prog = true) (noInit : C.prog.inits.idxOf? f = none) (hfn : C.prog.funcs[f]? = some fn)
    (witness : ∃ (w : World) (tape : Tape) (i : Input), w.os = os ∧ (w.forCall tape i).Shaped C.prog ∧ i.vars = [] ∧ Input.okWide C.prog (w.forCall tape i) .any w.heap.size f i ∧
      o.preRow enc C.prog fn dom false laid (w.forCall tape i).memory i.args ∧ ({} : Assume).holds C.prog (lone (Frame.enter C.prog f i.args .normal) [] (w.forCall tape i)))
    (hvars : s.vars = []) (hfun : ∀ ds : List (DataW H), ds.length = fn.params.toList.length → s.fn H ds = { results := [.lit (.bool true)], args := ds })
    (hres : fn.resultTypes = #[tb]) (htb : C.prog.underlying tb = some .bool) (hrec : fn.params.toList.all (fun t => C.prog.readableRec t && decide (t < C.prog.types.size)) = true)
    (walk : ∀ (W : World) (args : Array Value) (ds : List (DataW H)) ps, laidMetH C.prog laid W → (∀ d ∈ ds, ∀ t, M.good t d) → DataW.TrodAll enc C.prog W 0 (fun _ => true) true fn.params.toList args.toList ds ps → InpAll C.prog W M.ok fn.params.toList args.toList →
      callP C.prog f args.toList W fun v w' => v = .bool true ∧ Ch (fun _ => False) W w') :
    ReturnsInHanded {} C os f .any (o.preRow enc C.prog fn dom false laid) ((o.at F).post enc C.prog fn false true false false) := by
  subst ho
  refine returnsInHanded_of_row own started noInit hfn witness ?_
  intro W base args ds gs before hval hW _ hk _ hL _ _
  have hg : ∀ d ∈ ds, ∀ t, M.good t d := fun d hd t => hM _ (hk k rfl) d (List.mem_append.2 (.inl hd)) t
  exact law_contractT M hl hvars hfun hres htb hrec hval hW hg fun ps => walk W args ds ps hL hg
end
end Go.Sv
namespace Go.Proofs.YtnacobknngidkaaGreatDoor
open Go Go.Sv Go.Note Go.ChangeShapes
set_option linter.unusedVariables false
set_option maxRecDepth 100000
section
variable {H : Type} {enc : TypeId × Value → H} {w : World} {base : Nat}
theorem trodAll_cons {P : Program} {t : TypeId} {ts : List TypeId} {v : Value} {vs : List Value} {ds : List (DataW H)} {ps : List MemPlace} (h : DataW.TrodAll enc P w 0 (fun _ => true) true (t :: ts) (v :: vs) ds ps) :
    ∃ d ds' p ps', ds = d :: ds' ∧ (∃ fuel, DataW.trod enc P w 0 (fun _ => true) true fuel t v.cells.toList = some (d, p)) ∧ DataW.TrodAll enc P w 0 (fun _ => true) true ts vs ds' ps' := by
  cases ds with
  | nil => exact h.elim
  | cons d ds =>
    obtain ⟨p, q, h1, h2, _⟩ := h
    exact ⟨d, ds, p, q, rfl, h1, h2⟩
theorem bulkAll_sum (l : List (DataW H)) : Rows.uptoBulkAll l = (l.map Rows.uptoBulk).sum := by
  induction l with
  | nil => rfl
  | cons x l ih => simp [Rows.uptoBulkAll, ih]
theorem sum_le_of : ∀ {a b : List Nat}, a.length = b.length → (∀ (i : Nat) x y, a[i]? = some x → b[i]? = some y → x ≤ y) → a.sum ≤ b.sum
  | [], [], _, _ => Nat.le_refl _
  | x :: a, y :: b, h, h2 => by
    have h3 := h2 0 x y rfl rfl
    have h4 := sum_le_of (a := a) (b := b) (by simpa using h) fun i x y hx hy => h2 (i + 1) x y hx hy
    simp only [List.sum_cons]; omega
  | [], _ :: _, h, _ => by simp at h
  | _ :: _, [], h, _ => by simp at h
theorem str_back (s : ByteArray) : (⟨s.data.toList.toArray⟩ : ByteArray) = s := by
  apply ByteArray.ext
  simp
instance : Inhabited MV := ⟨.mk 0 0 [] ⟨none, 0, 0, none⟩ 0 []⟩
theorem val_of_trod : ∀ (fuel : Nat) (cs : List Value) (x : DataW H × List MemPlace), DataW.trod enc Tryz.prog w base (fun _ => true) true fuel 26 cs = some x → Rows.uptoBulk x.1 ≤ 1048576 →
    ∃ v : MV, cs = v.g ∧ VR (fun _ => True) w v ∧ v.m.fits ∧ v.m.sz ≤ Rows.uptoBulk x.1 := by
  intro fuel
  induction fuel using Nat.strongRecOn with
  | _ fuel ih =>
    intro cs x h hb
    obtain ⟨xs, m, rfl, rfl, hcl, hxl, hf⟩ := DataW.trod_struct Tryz.underlying26 h
    have hc5 : Tryz.prog.cellsOf 26 = 5 := by kernel_rfl
    rw [hc5] at hcl
    match cs, hcl with
    | [c0, c1, c2, c3, c4], _ =>
      match xs, hxl with
      | [x0, x1, x2, x3, x4], _ =>
        have f0 := hf 0 _ rfl
        have f1 := hf 1 _ rfl
        have f2 := hf 2 _ rfl
        have f3 := hf 3 _ rfl
        have f4 := hf 4 _ rfl
        have f0 : DataW.trod enc Tryz.prog w base (fun _ => true) true m 3 [c0] = some x0 := f0
        have f1 : DataW.trod enc Tryz.prog w base (fun _ => true) true m 23 [c1] = some x1 := f1
        have f2 : DataW.trod enc Tryz.prog w base (fun _ => true) true m 9 [c2] = some x2 := f2
        have f3 : DataW.trod enc Tryz.prog w base (fun _ => true) true m 24 [c3] = some x3 := f3
        have f4 : DataW.trod enc Tryz.prog w base (fun _ => true) true m 3 [c4] = some x4 := f4
        obtain ⟨n0, e0, rfl, w0⟩ := DataW.trod_int Tryz.underlying3 f0
        obtain ⟨n1, e1, rfl, w1⟩ := DataW.trod_int Tryz.underlying23 f1
        obtain ⟨s2, e2, rfl, w2⟩ := DataW.trod_string Tryz.underlying9 f2
        obtain ⟨n4, e4, rfl, w4⟩ := DataW.trod_int Tryz.underlying3 f4
        obtain rfl := List.singleton_inj.1 e0
        obtain rfl := List.singleton_inj.1 e1
        obtain rfl := List.singleton_inj.1 e2
        obtain rfl := List.singleton_inj.1 e4
        have hn1 : 0 ≤ n1 ∧ n1 ≤ 18446744073709551615 := by simpa [Lit.wf, IntKind.has, IntKind.min, IntKind.max, IntKind.signed, IntKind.bits] using w1
        obtain ⟨u, rfl⟩ : ∃ u : Nat, n1 = (u : Int) := ⟨n1.toNat, by omega⟩
        have hb' : Rows.uptoBulk (DataW.agg (List.map (fun x => x.1) [((DataW.lit (Lit.int .i64 n0) : DataW H), ([] : List MemPlace)), (.lit (.int .u64 (u : Int)), []), (.lit (.string s2.data.toList), []), x3, (.lit (.int .i64 n4), [])])) = 1 + (1 + (s2.data.toList.length + 1 + (Rows.uptoBulk x3.1 + (1 + 0)))) + 1 := rfl
        rcases DataW.trod_slice Tryz.underlying24 f3 with ⟨e3, rfl⟩ | ⟨a, len, cap, elems, rest, m', rfl, e3, rfl, hbb, hl, hmx, hlen, hel, hsp, hns⟩
        · obtain rfl := List.singleton_inj.1 e3
          refine ⟨.mk n0 u s2.data.toList ⟨none, 0, 0, none⟩ n4 [], ?_, .mk rfl (Nat.zero_le _) ⟨rfl, .inl rfl⟩ (fun a h => by cases h) (by simp), ?_, ?_⟩
          · show _ = [Value.int .i64 n0, .int .u64 (u : Int), .string ⟨s2.data.toList.toArray⟩, .slice none 0 0, .int .i64 n4]
            rw [str_back]
          · rw [MV.m_mk]; exact .mk (by omega) (by simp)
          · refine Nat.le_trans ?_ (Nat.le_of_eq hb'.symm)
            rw [MV.m_mk, M.sz_mk]; simp; omega
        · obtain rfl := List.singleton_inj.1 e3
          have hbs : Rows.uptoBulk (DataW.slice (elems.map (·.1)) (rest.map (·.1))) = Rows.uptoBulkAll (elems.map (·.1)) + Rows.uptoBulkAll (rest.map (·.1)) + 1 := rfl
          have hbt : Rows.uptoBulk (DataW.agg (List.map (fun x => x.1) [((DataW.lit (Lit.int .i64 n0) : DataW H), ([] : List MemPlace)), (.lit (.int .u64 (u : Int)), []), (.lit (.string s2.data.toList), []), (.slice (elems.map (·.1)) (rest.map (·.1)), MemPlace.row a ((elems.length + rest.length) * Tryz.prog.cellsOf 26) ++ (elems ++ rest).flatMap (·.2)), (.lit (.int .i64 n4), [])])) = 1 + (1 + (s2.data.toList.length + 1 + (Rows.uptoBulkAll (elems.map (·.1)) + Rows.uptoBulkAll (rest.map (·.1)) + 1 + (1 + 0)))) + 1 := rfl
          have hb2 : 1 + (1 + (s2.data.toList.length + 1 + (Rows.uptoBulkAll (elems.map (·.1)) + Rows.uptoBulkAll (rest.map (·.1)) + 1 + (1 + 0)))) + 1 ≤ 1048576 := by rw [← hbt]; exact hb
          have hbl := bulk_len (elems.map (·.1))
          rw [List.length_map] at hbl
          have each : ∀ i, i < len → ∃ v : MV, w.cells? base (a.add (i * Tryz.prog.cellsOf 26)) (Tryz.prog.cellsOf 26) = some v.g ∧ VR (fun _ => True) w v ∧ v.m.fits ∧ ∀ y, (elems.map (·.1))[i]? = some y → v.m.sz ≤ Rows.uptoBulk y := fun i hi => by
            have h1 := hel i hi
            have h2 : elems[i]? = some (elems[i]'(by omega)) := List.getElem?_eq_getElem (by omega)
            rw [h2] at h1
            cases hc : w.cells? base (a.add (i * Tryz.prog.cellsOf 26)) (Tryz.prog.cellsOf 26) with
            | none => rw [hc] at h1; cases h1
            | some cs' =>
              rw [hc] at h1
              have hm : (elems[i]'(by omega)).1 ∈ elems.map (·.1) := List.mem_map.2 ⟨_, List.mem_of_getElem? h2, rfl⟩
              have hp := bulk_part hm
              obtain ⟨v, rfl, q2, q3, q4⟩ := ih m' (by omega) cs' _ h1 (by omega)
              exact ⟨v, rfl, q2, q3, fun y hy => by rw [List.getElem?_map, h2] at hy; cases hy; exact q4⟩
          obtain ⟨F, hF⟩ := Deep.choose_lt each
          have hlenF : ((List.range len).map F).length = len := by simp
          refine ⟨.mk n0 u s2.data.toList ⟨some a, len, cap, none⟩ n4 ((List.range len).map F), ?_, .mk hlenF (by show len ≤ _; omega) ?_ (fun _ _ _ => trivial) ?_, ?_, ?_⟩
          · show _ = [Value.int .i64 n0, .int .u64 (u : Int), .string ⟨s2.data.toList.toArray⟩, .slice (some a) len cap, .int .i64 n4]
            rw [str_back]
          · show Rd w (some a) len 5 _
            have hll : (((List.range len).map F).flatMap MV.g).length = len * 5 := by
              rw [flat_len MV.glen, hlenF]
            refine rd_of_cells hll fun i hi => ?_
            have hdm := Nat.div_add_mod i 5
            have hil : i / 5 < len := by omega
            have hj : i % 5 < 5 := Nat.mod_lt _ (by decide)
            have h3 := (World.cells?_some (hF _ hil).1).2.2 (i % 5) (by rw [hc5]; exact hj)
            rw [Deep.add_add, hc5, Nat.mul_comm, hdm] at h3
            rw [h3]
            have h4 := flatten_get (sz := 5) (((List.range len).map F).map MV.g) (fun x hx => by obtain ⟨y, _, rfl⟩ := List.mem_map.1 hx; exact MV.glen y) (i / 5) (i % 5) hj
            rw [Nat.mul_comm, hdm] at h4
            rw [List.flatMap_def, h4, List.getElem?_map, List.getElem?_map, List.getElem?_range hil]; simp
          · intro x hx
            obtain ⟨i, hi, rfl⟩ := List.mem_map.1 hx
            exact (hF i (List.mem_range.1 hi)).2.1
          · rw [MV.m_mk]
            refine .mk (by omega) fun x hx => ?_
            obtain ⟨y, hy, rfl⟩ := List.mem_map.1 hx
            obtain ⟨i, hi, rfl⟩ := List.mem_map.1 hy
            exact (hF i (List.mem_range.1 hi)).2.2.1
          · refine Nat.le_trans ?_ (Nat.le_of_eq hbt.symm)
            rw [MV.m_mk, M.sz_mk]
            have hsum : ((((List.range len).map F).map MV.m).map M.sz).sum ≤ Rows.uptoBulkAll (elems.map (·.1)) := by
              rw [bulkAll_sum]
              refine sum_le_of (by simp [hlen]) fun i a b ha hb => ?_
              rw [List.getElem?_map] at hb
              have hi : i < len := by
                have := (List.getElem?_eq_some_iff.1 ha).1
                simpa using this
              rw [List.getElem?_map, List.getElem?_map, List.getElem?_map, List.getElem?_range hi] at ha
              cases ha
              obtain ⟨y, hy, rfl⟩ := Option.map_eq_some_iff.1 hb
              exact (hF i hi).2.2.2 y hy
            omega
end
theorem val_arg {H : Type} {enc : TypeId × Value → H} {W : World} {v : Value} {d : DataW H} {p : List MemPlace} (hT : ∃ fuel, DataW.trod enc Tryz.prog W 0 (fun _ => true) true fuel 26 v.cells.toList = some (d, p)) (hI : InpV Tryz.prog W okU 26 v) (hb : Rows.uptoBulk d ≤ 1048576) :
    ∃ x : MV, v = x.v ∧ VR (fun _ => True) W x ∧ x.m.fits ∧ x.m.sz ≤ 1048576 := by
  obtain ⟨fuel, h⟩ := hT
  obtain ⟨_, h2⟩ := hI
  rw [Tryz.underlying26] at h2
  obtain ⟨cs, rfl⟩ := h2
  obtain ⟨x, h3, h4, h5, h6⟩ := val_of_trod fuel _ _ h hb
  refine ⟨x, ?_, h4, h5, Nat.le_trans h6 hb⟩
  have : (Value.agg cs).cells.toList = cs.toList := rfl
  rw [this] at h3
  unfold MV.v
  rw [← h3]
theorem ints_arg {w : World} {v : Value} (h : InpV Tryz.prog w okU 41 v) : ∃ (p : Option Addr) (n c : Nat) (raws : List Int), v = .slice p n c ∧ raws.length = n ∧ n ≤ 1048576 ∧ Rd w p n 1 (raws.map fun z => Value.int .i64 z) := by
  obtain ⟨⟨n, h⟩, h2⟩ := h
  rw [Tryz.underlying41] at h2
  obtain ⟨p, L, c, e, hl, hok, hr, hall⟩ := h.slice Tryz.underlying41
  simp only [okU] at hok
  have hu : upM = 1048576 := rfl
  have hv : v = .slice p L.length c := by cases v <;> simp_all [Value.cells, oneV]
  have each : ∀ x ∈ L, ∃ z : Int, x = [.int .i64 z] := fun x hx => by
    obtain ⟨m, hm⟩ := hall x hx
    obtain ⟨i, rfl, _⟩ := hm.int Tryz.underlying3
    exact ⟨i, rfl⟩
  have : ∃ raws : List Int, raws.length = L.length ∧ L.flatten = raws.map fun z => Value.int .i64 z := by
    clear hall hr hl e hv
    induction L with
    | nil => exact ⟨[], rfl, rfl⟩
    | cons x L ih =>
      obtain ⟨raws, h1, h2⟩ := ih fun y hy => each y (by simp [hy])
      obtain ⟨z, rfl⟩ := each x (by simp)
      exact ⟨z :: raws, by simp [h1], by simp [h2]⟩
  obtain ⟨raws, h1, h2⟩ := this
  have hc1 : Tryz.prog.cellsOf 3 = 1 := by kernel_rfl
  rw [hc1, h2] at hr
  exact ⟨p, L.length, c, raws, hv, h1, by omega, hr⟩
end Go.Proofs.YtnacobknngidkaaGreatDoor
namespace Go.Proofs.YtnacobknngidkaaGreatDoor
end Go.Proofs.YtnacobknngidkaaGreatDoor
