/-
  QueueOrder: the walk.
-/
import Derived.Test.YtipbbjnmpnfhpaaDoorQlive
import Derived.Test.YtipbbjnmpnfhpaaDoorQremove
import Derived.Test.YtipbbjnmpnfhpaaDoorSvMore
namespace Go.Proofs.YtipbbjnmpnfhpaaDoor
open Go Go.Sv Go.Heap Go.Qu Go.MapKept
set_option linter.unusedVariables false
set_option maxRecDepth 4000
/-! ### plain: taken, and removed at once -/
theorem all_free {L : List PE} (h : ∀ e ∈ L, e.hold = 0) : L.filter isFree = L := List.filter_eq_self.2 fun e he => by simp [isFree, h e he]
theorem frees_all {A : AQ} (h : ∀ e ∈ A.L, e.hold = 0) : A.frees = ordered A.L := by
  unfold AQ.frees
  exact all_free fun e he => h e ((ordered_perm A.L).mem_iff.1 he)
theorem take_empty {A : AQ} {h : Int} (e : A.L = []) : (A.take h fun _ => true) = (none, A) := by
  unfold AQ.take
  split
  · rfl
  · have : A.frees = [] := by unfold AQ.frees; rw [e]; rfl
    rw [this]; rfl
theorem take_head {A : AQ} {h : Int} {x : PE} {t : List PE} (hh : 1 ≤ h) (hf : ∀ e ∈ A.L, e.hold = 0) (ho : ordered A.L = x :: t) : (A.take h fun _ => true) = (some { x with hold := h }, { A with L := setHold x.seq h A.L }) := by
  unfold AQ.take
  rw [if_neg (by omega), frees_all hf, ho]; rfl
theorem delQ_set {L : List PE} (q h : Int) : delQ q (setHold q h L) = delQ q L := by
  unfold delQ setHold
  induction L with
  | nil => rfl
  | cons x L ih =>
    rw [List.map_cons, List.filter_cons, List.filter_cons]
    by_cases e : x.seq = q
    · rw [if_neg (by simp [e]), if_neg (by simp [e]), ih]
    · simp only [e, if_false, ne_eq, not_false_eq_true, decide_true, if_true]
      rw [ih]
theorem find_set {A : AQ} (W : WQ A) {x : PE} (hx : x ∈ A.L) (h : Int) (hh : 0 ≤ h) : ({ A with L := setHold x.seq h A.L } : AQ).find x.seq = some { x with hold := h } := by
  have W' := W.setH x.seq hh
  exact find_of W' (x := { x with hold := h }) (List.mem_map.2 ⟨x, hx, by rw [if_pos rfl]⟩)
theorem rem_taken {A : AQ} (W : WQ A) {x : PE} {i : Nat} (hx : A.L[i]? = some x) {h : Int} (hh : 1 ≤ h) :
    ({ A with L := setHold x.seq h A.L } : AQ).remove x.seq h = (some { x with hold := h }, { A with L := A.L.take i ++ A.L.drop (i + 1) }) := by
  unfold AQ.remove
  rw [find_set W (List.mem_of_getElem? hx) h (by omega)]
  show (if h ≠ h then _ else (some { x with hold := h }, { A with L := delQ x.seq (setHold x.seq h A.L) })) = _
  rw [if_neg (by simp), delQ_set, delQ_at W.asc hx]
def cO : Cfg := ⟨⟨#[113]⟩, 4096, ⟨#[]⟩, 0, false⟩
abbrev EX := En × List UInt8
def EX.pe (x : EX) : PE := x.1.as x.2
/-- what an input holds -/
structure EIn (w : World) (x : EX) : Prop where
  rd : Rd w x.1.p x.1.n 1 (bytesV x.2)
  n : x.1.n ≤ 2 ^ 20
structure OS (w w4 : World) (qb : Nat) (A : AQ) (B : Nat → Prop) (X : List EX) (p : Option Addr) (n c : Nat) (own : Option Nat) : Prop where
  q : QK w4 qb A B
  new : ∀ b, B b → w.heap.size ≤ b
  row : Ow w4 p n c 7 ((X.map (·.1)).flatMap En.cells) own
  len : n = X.length
  onew : ∀ b, own = some b → w.heap.size ≤ b ∧ ¬ B b
  inp : ∀ x ∈ X, EIn w x
  eq : A.L = X.map EX.pe
  free : ∀ e ∈ A.L, e.hold = 0
  ch : Ch (fun _ => False) w w4
section
variable {w w4 w5 : World} {qb : Nat} {A : AQ} {B : Nat → Prop} {X : List EX} {p : Option Addr} {n c : Nat} {own : Option Nat}
theorem OS.next {S : Nat → Prop} (h : OS w w4 qb A B X p n c own) (c5 : Ch S w4 w5) (hs : ∀ b, S b → w.heap.size ≤ b ∧ ¬ B b ∧ own ≠ some b) : OS w w5 qb A B X p n c own :=
  ⟨h.q.ch c5 fun b hb hS => (hs b hS).2.1 hb, h.new, h.row.ch c5 fun b hb hS => (hs b hS).2.2 hb, h.len, h.onew, h.inp, h.eq, h.free, h.ch.trans c5 fun b hb hS => by have := (hs b hS).1; omega⟩
theorem OS.next0 (h : OS w w4 qb A B X p n c own) (c5 : Ch (fun _ => False) w4 w5) : OS w w5 qb A B X p n c own := h.next c5 fun _ h => h.elim
/-- the queue has done something -/
theorem OS.did {A' : AQ} {B' : Nat → Prop} (h : OS w w4 qb A B X p n c own) (Q : QK w5 qb A' B') (c5 : Ch B w4 w5) (n5 : ∀ b, B' b → B b ∨ w4.heap.size ≤ b) : (∀ b, B' b → w.heap.size ≤ b) ∧ Ow w5 p n c 7 ((X.map (·.1)).flatMap En.cells) own ∧ (∀ b, own = some b → w.heap.size ≤ b ∧ ¬ B' b) ∧ Ch (fun _ => False) w w5 :=
  ⟨fun b hb => by
    rcases n5 b hb with q | q
    · exact h.new b q
    · have := h.ch.size; omega, h.row.ch c5 fun b hb hB => (h.onew b hb).2 hB, fun b hb => ⟨(h.onew b hb).1, fun hB => by
    rcases n5 b hB with q | q
    · exact (h.onew b hb).2 q
    · have := h.row.blt b hb; omega⟩, h.ch.trans c5 fun b hb hB => by have := h.new b hB; omega⟩
end
/-- .. while one is taken -/
structure OB (w w4 : World) (qb : Nat) (A : AQ) (B : Nat → Prop) (X : List EX) (p : Option Addr) (n c : Nat) (own : Option Nat) : Prop where
  q : QK w4 qb A B
  new : ∀ b, B b → w.heap.size ≤ b
  row : Ow w4 p n c 7 ((X.map (·.1)).flatMap En.cells) own
  onew : ∀ b, own = some b → w.heap.size ≤ b ∧ ¬ B b
  ch : Ch (fun _ => False) w w4
section
variable {w w4 w5 : World} {qb : Nat} {A : AQ} {B : Nat → Prop} {X : List EX} {p : Option Addr} {n c : Nat} {own : Option Nat}
theorem OS.ob (h : OS w w4 qb A B X p n c own) : OB w w4 qb A B X p n c own := ⟨h.q, h.new, h.row, h.onew, h.ch⟩
theorem OB.next {S : Nat → Prop} (h : OB w w4 qb A B X p n c own) (c5 : Ch S w4 w5) (hs : ∀ b, S b → w.heap.size ≤ b ∧ ¬ B b ∧ own ≠ some b) : OB w w5 qb A B X p n c own :=
  ⟨h.q.ch c5 fun b hb hS => (hs b hS).2.1 hb, h.new, h.row.ch c5 fun b hb hS => (hs b hS).2.2 hb, h.onew, h.ch.trans c5 fun b hb hS => by have := (hs b hS).1; omega⟩
theorem OB.next0 (h : OB w w4 qb A B X p n c own) (c5 : Ch (fun _ => False) w4 w5) : OB w w5 qb A B X p n c own := h.next c5 fun _ h => h.elim
theorem OB.did {A' : AQ} {B' : Nat → Prop} (h : OB w w4 qb A B X p n c own) (Q : QK w5 qb A' B') (c5 : Ch B w4 w5) (n5 : ∀ b, B' b → B b ∨ w4.heap.size ≤ b) : OB w w5 qb A' B' X p n c own :=
  ⟨Q, fun b hb => by
    rcases n5 b hb with q | q
    · exact h.new b q
    · have := h.ch.size; omega, h.row.ch c5 fun b hb hB => (h.onew b hb).2 hB, fun b hb => ⟨(h.onew b hb).1, fun hB => by
    rcases n5 b hB with q | q
    · exact (h.onew b hb).2 q
    · have := h.row.blt b hb; omega⟩, h.ch.trans c5 fun b hb hB => by have := h.new b hB; omega⟩
end
theorem erase_step {α : Type} {L : List α} {j b : Nat} {x : α} (h : L[j]? = some x) : (L.take (j + 1)).eraseIdx b = (L.take j).eraseIdx b ++ (if j = b then [] else [x]) := by
  have hj := (List.getElem?_eq_some_iff.1 h).1
  have hl : (L.take j).length = j := by rw [List.length_take]; omega
  rw [List.take_add_one, h]
  show (L.take j ++ [x]).eraseIdx b = _
  by_cases h1 : b < j
  · rw [List.eraseIdx_append_of_lt_length (by omega), if_neg (by omega)]
  · rw [List.eraseIdx_append_of_length_le (by omega), hl, List.eraseIdx_of_length_le (l := L.take j) (by omega)]
    by_cases h2 : j = b
    · subst h2; simp
    · rw [if_neg h2, List.eraseIdx_of_length_le (by simp; omega)]
end Go.Proofs.YtipbbjnmpnfhpaaDoor
