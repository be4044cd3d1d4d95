/-
  QueueKeeps, plain: what the queue holds came of the entries; how many.
-/
import Derived.Test.YtipbbjnmpnfhpaaDoorQkeep
import Derived.Test.YtipbbjnmpnfhpaaDoorQordw
import Derived.Test.YtipbbjnmpnfhpaaDoorQexp
import Derived.Test.YtipbbjnmpnfhpaaDoorQrelw
namespace Go.Proofs.YtipbbjnmpnfhpaaDoor
open Go Go.Sv Go.Heap Go.Qu Go.MapKept
set_option linter.unusedVariables false
set_option maxRecDepth 4000
/-- what is held came of an entry -/
structure Came (Es : List EX) (i : Nat) (x : PE) : Prop where
  ex : ∃ j e, j < i ∧ Es[j]? = some e ∧ x.seq = ((j + 1 : Nat) : Int) ∧ x.pri = e.1.pri ∧ x.exp = e.1.exp ∧ x.dur = e.1.dur ∧ x.l = e.2 ∧ e.1.cnt ≤ x.cnt
structure KA (Es : List EX) (most : Int) (i : Nat) (A : AQ) (n n1 : Int) : Prop where
  inv : ∀ x ∈ A.L, Came Es i x
  last : A.last ≤ (i : Int)
  cnt : n - n1 = (A.L.length : Int)
  lo : 0 ≤ n1
  hi : n ≤ (i : Int)
  most : A.cf.most = most
theorem Came.like {Es : List EX} {i : Nat} {x y : PE} (h : Came Es i x) (k : Like x y) : Came Es i y := by
  obtain ⟨j, e, h1, h2, h3, h4, h5, h6, h7, h8⟩ := h
  have := k.cnt
  exact ⟨j, e, h1, h2, k.seq.trans h3, k.pri.trans h4, k.exp.trans h5, k.dur.trans h6, k.l.trans h7, by omega⟩
theorem KA.kin {Es : List EX} {most : Int} {i : Nat} {A A' : AQ} {n n1 : Int} {d : Nat} (h : KA Es most i A n n1) (k : Kin A A') (hl : A'.L.length + d = A.L.length) : KA Es most i A' n (n1 + d) :=
  ⟨fun y hy => by
    obtain ⟨x, hx, hxy⟩ := k.mem y hy
    exact (h.inv x hx).like hxy, by rw [k.last]; exact h.last, by have := h.cnt; omega, by have := h.lo; omega, h.hi, by rw [k.cf]; exact h.most⟩
theorem KA.kin0 {Es : List EX} {most : Int} {i : Nat} {A A' : AQ} {n n1 : Int} (h : KA Es most i A n n1) (k : Kin A A') (hl : A'.L.length = A.L.length) : KA Es most i A' n n1 := by
  have := h.kin (d := 0) k hl
  simpa using this
theorem KA.up {Es : List EX} {most : Int} {i : Nat} {A : AQ} {n n1 : Int} (h : KA Es most i A n n1) : KA Es most (i + 1) A n n1 :=
  ⟨fun x hx => by
    obtain ⟨j, e, h1, h2⟩ := (h.inv x hx).ex
    exact ⟨j, e, by omega, h2⟩, by have := h.last; omega, h.cnt, h.lo, by have := h.hi; omega, h.most⟩
/-- a put: how it ends -/
theorem put_ends {A : AQ} {e : PE} (W : WQ A) : ((A.put e).1 = 0 ∧ (A.put e).2 = { A with L := A.L ++ [e], last := e.seq } ∧ e.hold = 0) ∨ ((A.put e).1 ≠ 0 ∧ (A.put e).2 = A ∧ ((A.put e).1 = 170 → (A.L.length : Int) = A.cf.most)) := by
  unfold AQ.put
  split
  · exact .inr ⟨by show (171 : Int) ≠ 0; decide, rfl, fun h => absurd h (by show (171 : Int) ≠ 170; decide)⟩
  · rename_i hb
    split
    · exact .inr ⟨by show (2 : Int) ≠ 0; decide, rfl, fun h => absurd h (by show (2 : Int) ≠ 170; decide)⟩
    · split
      · rename_i h
        exact .inr ⟨by show (170 : Int) ≠ 0; decide, rfl, fun _ => by have := W.len; omega⟩
      · refine .inl ⟨rfl, rfl, ?_⟩
        have : ¬ e.hold ≠ 0 := fun h => hb (by unfold putBad; simp [h])
        exact Decidable.not_not.1 this
theorem KA.put {Es : List EX} {most : Int} {i : Nat} {A : AQ} {n n1 : Int} (h : KA Es most i A n n1) {x : EX} (hx : Es[i]? = some x) {e : PE} (he : e = EX.pe ({ x.1 with seq := ((i + 1 : Nat) : Int) }, x.2)) : KA Es most (i + 1) { A with L := A.L ++ [e], last := e.seq } (n + 1) n1 := by
  have hu := h.up
  refine ⟨fun y hy => ?_, ?_, ?_, h.lo, by have := h.hi; omega, h.most⟩
  · rcases List.mem_append.1 hy with hy | hy
    · exact hu.inv y hy
    · rw [List.mem_singleton.1 hy, he]
      exact ⟨i, x, by omega, hx, rfl, rfl, rfl, rfl, rfl, Int.le_refl _⟩
  · rw [he]; exact Int.le_refl _
  · have := h.cnt
    show n + 1 - n1 = ((A.L ++ [e]).length : Int)
    rw [List.length_append, List.length_singleton]; omega
theorem free_snoc {L : List PE} {e : PE} (h : e.hold = 0) : ((L ++ [e]).filter isFree).length = (L.filter isFree).length + 1 := by
  rw [List.filter_append, List.length_append]
  simp [isFree, h]
/-- the state in memory -/
structure KS (w w6 : World) (qb : Nat) (A : AQ) (B : Nat → Prop) (p0 : Option Addr) (N c0 : Nat) : Prop where
  q : QK w6 qb A B
  new : ∀ b, B b → w.heap.size + 2 ≤ b
  ba : blk w6 w.heap.size = some [.slice p0 N c0]
  br : ∃ v, blk w6 (w.heap.size + 1) = some [v]
  ch : Ch (fun _ => False) w w6
section
variable {w w6 w7 : World} {qb : Nat} {A : AQ} {B : Nat → Prop} {p0 : Option Addr} {N c0 : Nat}
theorem KS.next {S : Nat → Prop} (h : KS w w6 qb A B p0 N c0) (c : Ch S w6 w7) (hs : ∀ b, S b → w.heap.size + 2 ≤ b ∧ ¬ B b) : KS w w7 qb A B p0 N c0 := by
  obtain ⟨v, hv⟩ := h.br
  exact ⟨h.q.ch c fun b hb hS => (hs b hS).2 hb, h.new, by rw [c.blk (blk_lt h.ba) fun hS => by have := (hs _ hS).1; omega]; exact h.ba, ⟨v, by rw [c.blk (blk_lt hv) fun hS => by have := (hs _ hS).1; omega]; exact hv⟩, h.ch.trans c fun b hb hS => by have := (hs b hS).1; omega⟩
theorem KS.next0 (h : KS w w6 qb A B p0 N c0) (c : Ch (fun _ => False) w6 w7) : KS w w7 qb A B p0 N c0 := h.next c fun _ h => h.elim
theorem KS.did {A' : AQ} {B' : Nat → Prop} (h : KS w w6 qb A B p0 N c0) (Q : QK w7 qb A' B') (c : Ch B w6 w7) (n : ∀ b, B' b → B b ∨ w6.heap.size ≤ b) : KS w w7 qb A' B' p0 N c0 := by
  obtain ⟨v, hv⟩ := h.br
  exact ⟨Q, fun b hb => by
    rcases n b hb with q | q
    · exact h.new b q
    · have := blk_lt hv; omega, by rw [c.blk (blk_lt h.ba) fun hS => by have := h.new _ hS; omega]; exact h.ba, ⟨v, by rw [c.blk (blk_lt hv) fun hS => by have := h.new _ hS; omega]; exact hv⟩, h.ch.trans c fun b hb hS => by have := h.new b hS; omega⟩
end
/-- a call of the script: only its kind and its numbers are looked at -/
structure OpV where
  k : Int
  a : Int
  b : Int
  f : Int
  lp : Option Addr
  ln : Nat
  lc : Nat
  fl : Bool
  e : En
def OpV.cells (o : OpV) : List Value := [.int .i64 o.k, .int .i64 o.a, .int .i64 o.b, .int .i64 o.f, .slice o.lp o.ln o.lc, .bool o.fl, .int .i64 o.e.seq, .int .i64 o.e.pri, .int .i64 o.e.exp, .bool o.e.dur, .int .i64 o.e.cnt, .int .i64 o.e.hold, .slice o.e.p o.e.n o.e.c]
theorem OpV.cells_len (o : OpV) : o.cells.length = 13 := rfl
theorem reOp {w : World} {k : Nat} {cs0 : List Value} (o : OpV) {K : World → Prop} (h : blk w k = some cs0) (hl : cs0.length = 13) (hk : ∀ w', blk w' k = some o.cells → Ch (· = k) w w' → w'.heap.size = w.heap.size → K w') :
    Sv.st w ⟨k, 0, none⟩ (.int .i64 o.k) fun w => Sv.st w ⟨k, 1, none⟩ (.int .i64 o.a) fun w => Sv.st w ⟨k, 2, none⟩ (.int .i64 o.b) fun w => Sv.st w ⟨k, 3, none⟩ (.int .i64 o.f) fun w => Sv.st w ⟨k, 4, none⟩ (.slice o.lp o.ln o.lc) fun w => Sv.st w ⟨k, 5, none⟩ (.bool o.fl) fun w => Sv.st w ⟨k, 6, none⟩ (.int .i64 o.e.seq) fun w => Sv.st w ⟨k, 7, none⟩ (.int .i64 o.e.pri) fun w => Sv.st w ⟨k, 8, none⟩ (.int .i64 o.e.exp) fun w => Sv.st w ⟨k, 9, none⟩ (.bool o.e.dur) fun w => Sv.st w ⟨k, 10, none⟩ (.int .i64 o.e.cnt) fun w => Sv.st w ⟨k, 11, none⟩ (.int .i64 o.e.hold) fun w => Sv.st w ⟨k, 12, none⟩ (.slice o.e.p o.e.n o.e.c) fun w => K w :=
  st_all [.int .i64 o.k, .int .i64 o.a, .int .i64 o.b, .int .i64 o.f, .slice o.lp o.ln o.lc, .bool o.fl, .int .i64 o.e.seq, .int .i64 o.e.pri, .int .i64 o.e.exp, .bool o.e.dur, .int .i64 o.e.cnt, .int .i64 o.e.hold, .slice o.e.p o.e.n o.e.c] 0 (K := K) h (by rw [hl]; exact Nat.le_refl _) fun w' b c y => hk w' (by rw [b, putSeg_all (by rw [hl]; rfl)]; rfl) c y
end Go.Proofs.YtipbbjnmpnfhpaaDoor
