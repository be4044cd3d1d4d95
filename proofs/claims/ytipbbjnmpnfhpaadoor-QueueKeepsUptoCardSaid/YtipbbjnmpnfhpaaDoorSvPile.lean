/-
  Lists that are their owner's: each is grown, element by element, and kept; at the end each reads as its owner wrote it. Over every program. Lists in memory of their own, of elements that hold blocks of their own: how they lie, that they are grown. Lists of bytes, lists of these, lists of these. Over every program.
-/
import Derived.Test.YtipbbjnmpnfhpaaDoorSvRow
namespace Go.Sv
open Go
set_option linter.unusedVariables false
theorem Rd.take {w : World} {p : Option Addr} {n m sz : Nat} {xs : List Value} (h : Rd w p n sz xs) (hm : m ≤ n) : Rd w p m sz (xs.take (m * sz)) := by
  obtain ⟨h1, h2⟩ := h
  have hmul : m * sz ≤ n * sz := Nat.mul_le_mul_right _ hm
  refine ⟨by rw [List.length_take, h1]; omega, ?_⟩
  rcases h2 with h2 | ⟨b, o, cs, hp, hb, hl, ht⟩
  · exact .inl (by omega)
  · refine .inr ⟨b, o, cs, hp, hb, by omega, ?_⟩
    rw [← ht, List.take_take, Nat.min_eq_left hmul]
theorem flat_take {α : Type} {g : α → List Value} {sz : Nat} (hg : ∀ x, (g x).length = sz) (L : List α) (m : Nat) : (L.flatMap g).take (m * sz) = (L.take m).flatMap g := by
  induction L generalizing m with
  | nil => simp
  | cons x L ih =>
    cases m with
    | zero => simp
    | succ m =>
      rw [List.flatMap_cons, List.take_succ_cons, List.flatMap_cons, Nat.add_mul, Nat.one_mul, Nat.add_comm, List.take_append, List.take_of_length_le (by rw [hg]; omega), hg, Nat.add_sub_cancel_left, ih]
/-- a slice, and the block that it owns -/
structure SL where
  p : Option Addr
  n : Nat
  c : Nat
  own : Option Nat
def SL.cells (x : SL) : List Value := [.slice x.p x.n x.c]
theorem SL.cells_len (x : SL) : x.cells.length = 1 := rfl
theorem SL.cells_one (x : SL) : ∀ v ∈ x.cells, oneV v = true := by
  intro v hv; simp [SL.cells] at hv; rw [hv]; rfl
theorem SL.at {w : World} {p : Option Addr} {n : Nat} {T : List SL} (h : Rd w p n 1 (T.flatMap SL.cells)) {i : Nat} {x : SL} (hi : T[i]? = some x) : ∃ k o, p = some ⟨k, o, none⟩ ∧ w.cell? ⟨k, o + i, none⟩ = some (.slice x.p x.n x.c) := by
  obtain ⟨k, o, e, h⟩ := h.at SL.cells_len hi (by decide)
  exact ⟨k, o, e, by simpa using h 0 _ rfl⟩
/-- what is said of an element of list j, stays where nothing that is busy holds it -/
structure Stays {α : Type} (Good : World → (Nat → Prop) → Nat → α → Prop) : Prop where
  ch : ∀ {w w' : World} {B B' : Nat → Prop} {j : Nat} {x : α}, Good w B j x → Ch B w w' → (∀ b, b < w.heap.size → B' b → B b) → Good w' B' j x
/-- blocks that are still written -/
def Busy (T : List SL) (i : Nat) (cb gb : Option Nat) (b : Nat) : Prop := cb = some b ∨ gb = some b ∨ ∃ j x, T[j]? = some x ∧ i ≤ j ∧ x.own = some b
section
variable {α : Type} (g : α → List Value) (sz : Nat) (Good : World → (Nat → Prop) → Nat → α → Prop) (X : Nat → Prop)
/-- lists from i on are as they were; cb: the block of the one in hand, if one is (X: blocks that are busy beside) -/
structure Gb (w0 w : World) (T : List SL) (i : Nat) (cb : Option Nat) (gp : Option Addr) (gc : Nat) (gb : Option Nat) (G : List SL) : Prop where
  rest : ∀ j x, T[j]? = some x → i ≤ j → ∃ ys : List α, Ow w x.p x.n x.c sz (ys.flatMap g) x.own ∧ ys.length = x.n ∧ ∀ y ∈ ys, Good w (Busy T i cb gb) j y
  grown : Ow w gp G.length gc 1 (G.flatMap SL.cells) gb
  cg : ∀ b, cb = some b → gb ≠ some b ∧ ∀ j x, T[j]? = some x → i ≤ j → x.own ≠ some b
  gr : ∀ b, gb = some b → ∀ j x, T[j]? = some x → i ≤ j → x.own ≠ some b
  rr : ∀ j k x y b, i ≤ j → i ≤ k → j ≠ k → T[j]? = some x → T[k]? = some y → x.own = some b → y.own ≠ some b
  loc : ∀ b, Busy T i cb gb b → (∃ x ∈ T, x.own = some b) ∨ w0.heap.size ≤ b
  gnew : ∀ b, gb = some b → w0.heap.size ≤ b
  place : ∀ (k : Nat) (x : SL), G[k]? = some x → ∀ a : Addr, x.p = some a → x.n * sz ≠ 0 → (∃ y ∈ T, y.own = some a.block) ∨ w0.heap.size ≤ a.block
  small : ∀ (k : Nat) (x : SL), G[k]? = some x → x.n ≤ 2 ^ 60
  ch : Ch (fun b => ∃ x ∈ T, x.own = some b) w0 w
structure Gs (w0 w : World) (T : List SL) (i : Nat) (gp : Option Addr) (gc : Nat) (gb : Option Nat) (G : List SL) (lab : Nat → Nat) : Prop where
  b : Gb g sz Good w0 w T i none gp gc gb G
  read : ∀ k x, G[k]? = some x → ∃ ys : List α, Rd w x.p x.n sz (ys.flatMap g) ∧ ys.length = x.n ∧ (∀ y ∈ ys, Good w (Busy T i none gb) (lab k) y) ∧ ∀ a, x.p = some a → x.n * sz ≠ 0 → ¬ Busy T i none gb a.block
  own : ∀ k x, k < i → T[k]? = some x → ∃ ys : List α, Rd w x.p x.n sz (ys.flatMap g) ∧ ys.length = x.n ∧ (∀ y ∈ ys, Good w (Busy T i none gb) k y) ∧ ∀ a, x.p = some a → x.n * sz ≠ 0 → ¬ Busy T i none gb a.block
structure Gr (w0 w : World) (T : List SL) (i : Nat) (cur : SL) (xs : List α) (gp : Option Addr) (gc : Nat) (gb : Option Nat) (G : List SL) (lab : Nat → Nat) : Prop where
  b : Gb g sz Good w0 w T (i + 1) cur.own gp gc gb G
  now : Ow w cur.p cur.n cur.c sz (xs.flatMap g) cur.own
  len : xs.length = cur.n
  curg : ∀ y ∈ xs, Good w (Busy T (i + 1) cur.own gb) i y
  read : ∀ k x, G[k]? = some x → (lab k = i ∧ x.p = cur.p ∧ x.n ≤ cur.n) ∨ ∃ ys : List α, Rd w x.p x.n sz (ys.flatMap g) ∧ ys.length = x.n ∧ (∀ y ∈ ys, Good w (Busy T (i + 1) cur.own gb) (lab k) y) ∧ ∀ a, x.p = some a → x.n * sz ≠ 0 → ¬ Busy T (i + 1) cur.own gb a.block
  own : ∀ k x, k ≤ i → T[k]? = some x → (k = i ∧ x.p = cur.p ∧ x.n ≤ cur.n) ∨ ∃ ys : List α, Rd w x.p x.n sz (ys.flatMap g) ∧ ys.length = x.n ∧ (∀ y ∈ ys, Good w (Busy T (i + 1) cur.own gb) k y) ∧ ∀ a, x.p = some a → x.n * sz ≠ 0 → ¬ Busy T (i + 1) cur.own gb a.block
end
section
variable {α : Type} {g : α → List Value} {sz : Nat} {Good : World → (Nat → Prop) → Nat → α → Prop}
theorem Gs.begin {w : World} {T : List SL} (lab : Nat → Nat) (hrest : ∀ j x, T[j]? = some x → ∃ ys : List α, Ow w x.p x.n x.c sz (ys.flatMap g) x.own ∧ ys.length = x.n ∧ ∀ y ∈ ys, Good w (Busy T 0 none none) j y)
    (hnd : ∀ (j k : Nat) (x y : SL) (b : Nat), j ≠ k → T[j]? = some x → T[k]? = some y → x.own = some b → y.own ≠ some b) : Gs g sz Good w w T 0 none 0 none [] lab where
  b := ⟨fun j x h _ => hrest j x h, Ow.nil, (fun b h => by cases h), (fun b h => by cases h), (fun j k x y b _ _ => hnd j k x y b), (fun b h => by
    rcases h with h | h | ⟨j, x, h1, _, h2⟩
    · cases h
    · cases h
    · exact .inl ⟨x, List.mem_of_getElem? h1, h2⟩), (fun b h => by cases h), (fun k x h => by simp at h), (fun k x h => by simp at h), Ch.refl _ _⟩
  read := fun k x h => by simp at h
  own := fun k x h => by omega
theorem Busy.lt {T : List SL} {i i' : Nat} {cb gb : Option Nat} (h : i ≤ i') {b : Nat} (hb : Busy T i' cb gb b) : Busy T i cb gb b := by
  rcases hb with hb | hb | ⟨j, x, h1, h2, h3⟩
  · exact .inl hb
  · exact .inr (.inl hb)
  · exact .inr (.inr ⟨j, x, h1, by omega, h3⟩)
theorem Gs.start (hst : Stays Good) {w0 w : World} {T : List SL} {i : Nat} {gp : Option Addr} {gc : Nat} {gb : Option Nat} {G : List SL} {lab : Nat → Nat} (h : Gs g sz Good w0 w T i gp gc gb G lab) {x : SL} (hx : T[i]? = some x) : ∃ xs, Gr g sz Good w0 w T i x xs gp gc gb G lab := by
  obtain ⟨xs, ho, hl, hg⟩ := h.b.rest i x hx (Nat.le_refl _)
  have bz : ∀ b, Busy T (i + 1) x.own gb b → Busy T i none gb b := fun b hb => by
    rcases hb with hb | hb | ⟨j, y, h1, h2, h3⟩
    · exact .inr (.inr ⟨i, x, hx, Nat.le_refl _, hb⟩)
    · exact .inr (.inl hb)
    · exact .inr (.inr ⟨j, y, h1, by omega, h3⟩)
  refine ⟨xs, ⟨fun j y hj hij => ?_, h.b.grown, fun b hb => ⟨fun e => h.b.gr b e i x hx (Nat.le_refl _) hb, fun j y hj hij e => h.b.rr i j x y b (Nat.le_refl _) (by omega) (by omega) hx hj hb e⟩, fun b hb j y hj hij => h.b.gr b hb j y hj (by omega), fun j k y z b hj hk => h.b.rr j k y z b (by omega) (by omega), fun b hb => h.b.loc b (bz b hb), h.b.gnew, h.b.place, h.b.small, h.b.ch⟩, ho, hl, fun y hy => hst.ch (hg y hy) (Ch.refl _ _) fun b _ => bz b, fun k y hk => .inr ?_, fun k y hki hk => ?_⟩
  · obtain ⟨ys, g1, g2, g3⟩ := h.b.rest j y hj (by omega)
    exact ⟨ys, g1, g2, fun z hz => hst.ch (g3 z hz) (Ch.refl _ _) fun b _ => bz b⟩
  · obtain ⟨ys, g1, g2, g3, g4⟩ := h.read k y hk
    exact ⟨ys, g1, g2, fun z hz => hst.ch (g3 z hz) (Ch.refl _ _) fun b _ => bz b, fun a ha h0 hb => g4 a ha h0 (bz _ hb)⟩
  · by_cases e : k = i
    · subst e
      rw [hx] at hk
      cases hk
      exact .inl ⟨rfl, rfl, Nat.le_refl _⟩
    · obtain ⟨ys, g1, g2, g3, g4⟩ := h.own k y (by omega) hk
      exact .inr ⟨ys, g1, g2, fun z hz => hst.ch (g3 z hz) (Ch.refl _ _) fun b _ => bz b, fun a ha h0 hb => g4 a ha h0 (bz _ hb)⟩
theorem Gr.stop (hst : Stays Good) (hgl : ∀ x, (g x).length = sz) {w0 w : World} {T : List SL} {i : Nat} {cur : SL} {xs : List α} {gp : Option Addr} {gc : Nat} {gb : Option Nat} {G : List SL} {lab : Nat → Nat} (h : Gr g sz Good w0 w T i cur xs gp gc gb G lab) : Gs g sz Good w0 w T (i + 1) gp gc gb G lab := by
  have bz : ∀ b, Busy T (i + 1) none gb b → Busy T (i + 1) cur.own gb b := fun b hb => by
    rcases hb with hb | hb
    · cases hb
    · exact .inr hb
  refine ⟨⟨fun j y hj hij => ?_, h.b.grown, (fun b hb => by cases hb), h.b.gr, h.b.rr, fun b hb => h.b.loc b (bz b hb), h.b.gnew, h.b.place, h.b.small, h.b.ch⟩, fun k y hk => ?_, fun k y hki hk => ?_⟩
  · obtain ⟨ys, g1, g2, g3⟩ := h.b.rest j y hj hij
    exact ⟨ys, g1, g2, fun z hz => hst.ch (g3 z hz) (Ch.refl _ _) fun b _ => bz b⟩
  · rcases h.read k y hk with ⟨e1, e2, e3⟩ | ⟨ys, g1, g2, g3, g4⟩
    · refine ⟨xs.take y.n, ?_, by rw [List.length_take, h.len]; omega, fun z hz => ?_, fun a ha h0 hb => ?_⟩
      · have := Rd.take h.now.rd e3
        rw [flat_take hgl] at this
        rw [e2]; exact this
      · rw [e1]
        exact hst.ch (h.curg z (List.mem_of_mem_take hz)) (Ch.refl _ _) fun b _ => bz b
      · obtain ⟨_, _, h3⟩ := h.now
        rw [e2] at ha
        rcases h3 with ⟨_, h3⟩ | ⟨k2, o, cs, e4, e5, _⟩
        · have h5 : y.n * sz ≤ cur.n * sz := Nat.mul_le_mul_right _ e3
          have h6 := h.now.2.1
          have h7 : cur.n * sz ≤ cur.c * sz := Nat.mul_le_mul_right _ h6
          omega
        · rw [e5] at ha; cases ha
          rcases hb with hb | hb | ⟨j, x, q1, q2, q3⟩
          · cases hb
          · exact (h.b.cg k2 e4).1 hb
          · exact (h.b.cg k2 e4).2 j x q1 q2 q3
    · exact ⟨ys, g1, g2, fun z hz => hst.ch (g3 z hz) (Ch.refl _ _) fun b _ => bz b, fun a ha h0 hb => g4 a ha h0 (bz _ hb)⟩
  · rcases h.own k y (by omega) hk with ⟨e1, e2, e3⟩ | ⟨ys, g1, g2, g3, g4⟩
    · refine ⟨xs.take y.n, ?_, by rw [List.length_take, h.len]; omega, fun z hz => ?_, fun a ha h0 hb => ?_⟩
      · have := Rd.take h.now.rd e3
        rw [flat_take hgl] at this
        rw [e2]; exact this
      · rw [e1]
        exact hst.ch (h.curg z (List.mem_of_mem_take hz)) (Ch.refl _ _) fun b _ => bz b
      · obtain ⟨_, _, h3⟩ := h.now
        rw [e2] at ha
        rcases h3 with ⟨_, h3⟩ | ⟨k2, o, cs, e4, e5, _⟩
        · have h5 : y.n * sz ≤ cur.n * sz := Nat.mul_le_mul_right _ e3
          have h6 := h.now.2.1
          have h7 : cur.n * sz ≤ cur.c * sz := Nat.mul_le_mul_right _ h6
          omega
        · rw [e5] at ha; cases ha
          rcases hb with hb | hb | ⟨j, x, q1, q2, q3⟩
          · cases hb
          · exact (h.b.cg k2 e4).1 hb
          · exact (h.b.cg k2 e4).2 j x q1 q2 q3
    · exact ⟨ys, g1, g2, fun z hz => hst.ch (g3 z hz) (Ch.refl _ _) fun b _ => bz b, fun a ha h0 hb => g4 a ha h0 (bz _ hb)⟩
/-- the list in hand is grown by one -/
theorem Gr.push {P : Program} {ET ty e te : TypeId} {bytes : Nat} {z : Value} (hT : P.underlying ET = some (.slice e)) (hi : InfoIs P e sz bytes z) (hzs : z.cells.size = sz) (hst : Stays Good) (hgl : ∀ x, (g x).length = sz) (hone : ∀ x, ∀ v ∈ g x, oneV v = true) (h0 : 0 < sz)
    {w0 w : World} {T : List SL} {i : Nat} {cur : SL} {xs : List α} {gp : Option Addr} {gc : Nat} {gb : Option Nat} {G : List SL} {lab : Nat → Nat} (h : Gr g sz Good w0 w T i cur xs gp gc gb G lab) (x : α)
    (hx : ∀ w' B, Ch (fun _ => False) w w' → (∀ b, B b → Busy T (i + 1) cur.own gb b ∨ w.heap.size < b) → Good w' B i x) (hn : cur.n + 1 ≤ 2 ^ 47) (hb : (cur.n + 1) * bytes ≤ 2 ^ 47) {K : Option Addr → Nat → Nat → World → Prop}
    (hk : ∀ cur' w', Gr g sz Good w0 w' T i cur' (xs ++ [x]) gp gc gb G lab → cur'.n = cur.n + 1 → K cur'.p cur'.n cur'.c w') :
    newB w (g x) te fun a w2 => ∃ p5 n7 c5 w3, Sem.run P (Builtin.append_ #[ET, ET] ty #[.slice cur.p cur.n cur.c, .slice (some a) 1 1]) w2 = .ok (.slice p5 n7 c5) w3 ∧ K p5 n7 c5 w3 := by
  refine newB_blk fun w2 b2 c2 z2 => ?_
  have hrd : Rd w2 (some ⟨w.heap.size, 0, none⟩) 1 sz (g x) := ⟨by rw [hgl]; omega, .inr ⟨_, 0, _, rfl, blk_cells b2, by rw [hgl]; omega, by rw [List.drop_zero, List.take_of_length_le (by rw [hgl]; omega)]⟩⟩
  obtain ⟨p', c', w', b', r1, r2, r3⟩ := append_rd2 (ty := ty) (c2 := 1) hT hT hi hzs (h.now.ch c2 fun _ _ => id) hrd (hone x) hn hb
  refine ⟨p', _, c', w', r1, ?_⟩
  have hcurl : ∀ b, cur.own = some b → b < w.heap.size := fun b hb => h.now.blt b hb
  have hgbl : ∀ b, gb = some b → b < w.heap.size := fun b hb => h.b.grown.blt b hb
  have hrl : ∀ j y, T[j]? = some y → i + 1 ≤ j → ∀ b, y.own = some b → b < w.heap.size := fun j y hj hij b hb => by
    obtain ⟨ys, g1, _⟩ := h.b.rest j y hj hij
    exact g1.blt b hb
  have hw0 := h.b.ch.size
  -- from w to w': only the block in hand
  have hch : Ch (fun b => cur.own = some b) w w' := by
    rcases r3 with ⟨_, _, r3⟩ | ⟨_, _, r3⟩
    · exact (c2.mono fun _ _ g => g.elim).trans' r3
    · exact (c2.trans' r3).mono fun _ _ g => g.elim
  have hb' : ∀ b, b' = some b → cur.own = some b ∨ w.heap.size < b := fun b hbb => by
    rcases r3 with ⟨e, _, _⟩ | ⟨e, _, _⟩
    · rw [e] at hbb; exact .inl hbb
    · rw [e] at hbb; cases hbb; exact .inr (by omega)
  have bz : ∀ b, b < w.heap.size → Busy T (i + 1) b' gb b → Busy T (i + 1) cur.own gb b := fun b hlt hbz => by
    rcases hbz with q | q
    · rcases hb' b q with q | q
      · exact .inl q
      · omega
    · exact .inr q
  have bz2 : ∀ b, Busy T (i + 1) b' gb b → Busy T (i + 1) cur.own gb b ∨ w.heap.size < b := fun b hbz => by
    rcases hbz with q | q
    · rcases hb' b q with q | q
      · exact .inl (.inl q)
      · exact .inr q
    · exact .inl (.inr q)
  have hchB : Ch (Busy T (i + 1) cur.own gb) w w' := hch.mono fun b _ q => .inl q
  refine hk ⟨p', cur.n + 1, c', b'⟩ w' ⟨⟨fun j y hj hij => ?_, h.b.grown.ch hch fun b hb q => (h.b.cg b q).1 hb, fun b hbb => ?_, h.b.gr, h.b.rr, fun b hbz => ?_, h.b.gnew, h.b.place, h.b.small, h.b.ch.trans hch fun b hlt q => ?_⟩, ?_, by simp [h.len], fun y hy => ?_, fun k y hk' => ?_, fun k y hki hk' => ?_⟩ rfl
  · obtain ⟨ys, g1, g2, g3⟩ := h.b.rest j y hj hij
    exact ⟨ys, g1.ch hch fun b hb q => (h.b.cg b q).2 j y hj hij hb, g2, fun z hz => hst.ch (g3 z hz) hchB bz⟩
  · rcases hb' b hbb with q | q
    · exact h.b.cg b q
    · refine ⟨fun e => ?_, fun j y hj hij e => ?_⟩
      · have := hgbl b e; omega
      · have := hrl j y hj hij b e; omega
  · rcases bz2 b hbz with q | q
    · exact h.b.loc b q
    · exact .inr (by omega)
  · rcases h.b.loc b (.inl q) with q | q
    · exact q
    · omega
  · rw [List.flatMap_append, List.flatMap_singleton]; exact r2
  · rcases List.mem_append.1 hy with hy | hy
    · exact hst.ch (h.curg y hy) hchB bz
    · rw [List.mem_singleton.1 hy]
      have hG2 : Good w2 (Busy T (i + 1) cur.own gb) i x := hx w2 _ c2 fun b q => .inl q
      have hc2 : Ch (Busy T (i + 1) cur.own gb) w2 w' := by
        rcases r3 with ⟨_, _, r3⟩ | ⟨_, _, r3⟩
        · exact r3.mono fun b _ q => .inl q
        · exact r3.mono fun _ _ g => g.elim
      refine hst.ch (hx w2 (fun b => Busy T (i + 1) cur.own gb b ∨ w.heap.size < b) c2 fun b q => q) (hc2.mono fun b _ q => .inl q) fun b _ q => bz2 b q
  · rcases h.read k y hk' with ⟨e1, e2, e3⟩ | ⟨ys, g1, g2, g3, g4⟩
    · rcases r3 with ⟨eb, ep, _⟩ | ⟨eb, ep, r3⟩
      · exact .inl ⟨e1, e2.trans ep.symm, by show y.n ≤ cur.n + 1; omega⟩
      · refine .inr ⟨xs.take y.n, ?_, by rw [List.length_take, h.len]; omega, fun z hz => ?_, fun a ha hn0 hbz => ?_⟩
        · have := Rd.take h.now.rd e3
          rw [flat_take hgl] at this
          rw [e2]
          exact this.ch (c2.trans' r3) fun _ _ _ => id
        · rw [e1]; exact hst.ch (h.curg z (List.mem_of_mem_take hz)) hchB bz
        · obtain ⟨_, q2, q3⟩ := h.now
          rw [e2] at ha
          rcases q3 with ⟨_, q3⟩ | ⟨k2, o, cs, e4, e5, _⟩
          · have h5 : y.n * sz ≤ cur.n * sz := Nat.mul_le_mul_right _ e3
            have h7 : cur.n * sz ≤ cur.c * sz := Nat.mul_le_mul_right _ q2
            omega
          · rw [e5] at ha; cases ha
            have hk2 := hcurl k2 e4
            rcases hbz with q | q | ⟨j, x', q1, q2', q3'⟩
            · have q' : w2.heap.size = k2 := Option.some.inj (eb.symm.trans q)
              omega
            · exact (h.b.cg k2 e4).1 q
            · exact (h.b.cg k2 e4).2 j x' q1 q2' q3'
    · refine .inr ⟨ys, g1.ch hch fun a ha hn0 q => g4 a ha hn0 (.inl q), g2, fun z hz => hst.ch (g3 z hz) hchB bz, fun a ha hn0 hbz => ?_⟩
      have hal := g1.lt a ha hn0
      exact g4 a ha hn0 (bz _ hal hbz)
  · rcases h.own k y hki hk' with ⟨e1, e2, e3⟩ | ⟨ys, g1, g2, g3, g4⟩
    · rcases r3 with ⟨eb, ep, _⟩ | ⟨eb, ep, r3⟩
      · exact .inl ⟨e1, e2.trans ep.symm, by show y.n ≤ cur.n + 1; omega⟩
      · refine .inr ⟨xs.take y.n, ?_, by rw [List.length_take, h.len]; omega, fun z hz => ?_, fun a ha hn0 hbz => ?_⟩
        · have := Rd.take h.now.rd e3
          rw [flat_take hgl] at this
          rw [e2]
          exact this.ch (c2.trans' r3) fun _ _ _ => id
        · rw [e1]; exact hst.ch (h.curg z (List.mem_of_mem_take hz)) hchB bz
        · obtain ⟨_, q2, q3⟩ := h.now
          rw [e2] at ha
          rcases q3 with ⟨_, q3⟩ | ⟨k2, o, cs, e4, e5, _⟩
          · have h5 : y.n * sz ≤ cur.n * sz := Nat.mul_le_mul_right _ e3
            have h7 : cur.n * sz ≤ cur.c * sz := Nat.mul_le_mul_right _ q2
            omega
          · rw [e5] at ha; cases ha
            have hk2 := hcurl k2 e4
            rcases hbz with q | q | ⟨j, x', q1, q2', q3'⟩
            · have q' : w2.heap.size = k2 := Option.some.inj (eb.symm.trans q)
              omega
            · exact (h.b.cg k2 e4).1 q
            · exact (h.b.cg k2 e4).2 j x' q1 q2' q3'
    · refine .inr ⟨ys, g1.ch hch fun a ha hn0 q => g4 a ha hn0 (.inl q), g2, fun z hz => hst.ch (g3 z hz) hchB bz, fun a ha hn0 hbz => ?_⟩
      have hal := g1.lt a ha hn0
      exact g4 a ha hn0 (bz _ hal hbz)
/-- the list in hand is kept -/
theorem Gr.keep {P : Program} {LT ty e te : TypeId} {bytes : Nat} {z : Value} (hT : P.underlying LT = some (.slice e)) (hi : InfoIs P e 1 bytes z) (hzs : z.cells.size = 1) (hst : Stays Good)
    {w0 w : World} {T : List SL} {i : Nat} {cur : SL} {xs : List α} {gp : Option Addr} {gc : Nat} {gb : Option Nat} {G : List SL} {lab : Nat → Nat} (h : Gr g sz Good w0 w T i cur xs gp gc gb G lab) (hlab : lab G.length = i) (hsm : cur.n ≤ 2 ^ 60)
    (hn : G.length + 1 ≤ 2 ^ 47) (hb : (G.length + 1) * bytes ≤ 2 ^ 47) {K : Option Addr → Nat → Nat → World → Prop}
    (hk : ∀ gp' gc' gb' w', Gr g sz Good w0 w' T i cur xs gp' gc' gb' (G ++ [cur]) lab → K gp' (G.length + 1) gc' w') :
    newB w [.slice cur.p cur.n cur.c] te fun a w2 => ∃ p5 n7 c5 w3, Sem.run P (Builtin.append_ #[LT, LT] ty #[.slice gp G.length gc, .slice (some a) 1 1]) w2 = .ok (.slice p5 n7 c5) w3 ∧ K p5 n7 c5 w3 := by
  have hcurl : ∀ b, cur.own = some b → b < w.heap.size := fun b hb => h.now.blt b hb
  have hrl : ∀ j y, T[j]? = some y → i + 1 ≤ j → ∀ b, y.own = some b → b < w.heap.size := fun j y hj hij b hb => by
    obtain ⟨ys, g1, _⟩ := h.b.rest j y hj hij
    exact g1.blt b hb
  have hw0 := h.b.ch.size
  refine push_ok (g := SL.cells) hT hi hzs SL.cells_len SL.cells_one h.b.grown cur hn hb fun p' c' b' w' o' n' hch => ?_
  have bz2 : ∀ b, Busy T (i + 1) cur.own b' b → Busy T (i + 1) cur.own gb b ∨ w.heap.size ≤ b := fun b hbz => by
    rcases hbz with q | q | q
    · exact .inl (.inl q)
    · rcases n' b q with q | q
      · exact .inl (.inr (.inl q))
      · exact .inr q
    · exact .inl (.inr (.inr q))
  have bz : ∀ b, b < w.heap.size → Busy T (i + 1) cur.own b' b → Busy T (i + 1) cur.own gb b := fun b hlt hbz => (bz2 b hbz).resolve_right (by omega)
  have hchB : Ch (Busy T (i + 1) cur.own gb) w w' := hch.mono fun b _ q => .inr (.inl q)
  have e : (G ++ [cur]).length = G.length + 1 := by simp
  rw [e] at o' ⊢
  refine hk p' c' b' w' ⟨⟨fun j y hj hij => ?_, by rw [e]; exact o', fun b hbb => ⟨fun q => ?_, (h.b.cg b hbb).2⟩, fun b hbb j y hj hij => ?_, h.b.rr, fun b hbz => ?_, fun b hbb => ?_, fun k y hk' => ?_, fun k y hk' => ?_, h.b.ch.trans hch fun b hlt q => ?_⟩, h.now.ch hch fun b hb q => (h.b.cg b hb).1 q, h.len, fun y hy => hst.ch (h.curg y hy) hchB bz, fun k y hk' => ?_, fun k y hki hk' => ?_⟩
  · obtain ⟨ys, g1, g2, g3⟩ := h.b.rest j y hj hij
    exact ⟨ys, g1.ch hch fun b hb q => h.b.gr b q j y hj hij hb, g2, fun z hz => hst.ch (g3 z hz) hchB bz⟩
  · rcases n' b q with q | q
    · exact (h.b.cg b hbb).1 q
    · have := hcurl b hbb; omega
  · rcases n' b hbb with q | q
    · exact h.b.gr b q j y hj hij
    · intro e; have := hrl j y hj hij b e; omega
  · rcases bz2 b hbz with q | q
    · exact h.b.loc b q
    · exact .inr (by omega)
  · rcases n' b hbb with q | q
    · exact h.b.gnew b q
    · omega
  · by_cases hkl : k < G.length
    · rw [List.getElem?_append_left hkl] at hk'
      exact h.b.place k y hk'
    · have hkl2 := (List.getElem?_eq_some_iff.1 hk').1
      have hk3 : k = G.length := by simp at hkl2; omega
      subst hk3
      rw [List.getElem?_append_right (Nat.le_refl _), Nat.sub_self] at hk'
      have : y = cur := (Option.some.inj hk').symm
      subst this
      intro a ha hn0
      obtain ⟨_, q2, q3⟩ := h.now
      rcases q3 with ⟨_, q3⟩ | ⟨k2, o, cs, e4, e5, _⟩
      · have h5 : y.n * sz ≤ y.c * sz := Nat.mul_le_mul_right _ q2
        omega
      · rw [e5] at ha; cases ha
        exact h.b.loc k2 (.inl e4)
  · by_cases hkl : k < G.length
    · rw [List.getElem?_append_left hkl] at hk'
      exact h.b.small k y hk'
    · have hkl2 := (List.getElem?_eq_some_iff.1 hk').1
      have hk3 : k = G.length := by simp at hkl2; omega
      subst hk3
      rw [List.getElem?_append_right (Nat.le_refl _), Nat.sub_self] at hk'
      have : y = cur := (Option.some.inj hk').symm
      subst this
      exact hsm
  · have := h.b.gnew b q; omega
  · by_cases hkl : k < G.length
    · rw [List.getElem?_append_left hkl] at hk'
      rcases h.read k y hk' with q | ⟨ys, g1, g2, g3, g4⟩
      · exact .inl q
      · refine .inr ⟨ys, g1.ch hch fun a ha hn0 q => g4 a ha hn0 (.inr (.inl q)), g2, fun z hz => hst.ch (g3 z hz) hchB bz, fun a ha hn0 hbz => ?_⟩
        have hal := g1.lt a ha hn0
        exact g4 a ha hn0 (bz _ hal hbz)
    · have hkl2 := (List.getElem?_eq_some_iff.1 hk').1
      have hk3 : k = G.length := by simp at hkl2; omega
      subst hk3
      rw [List.getElem?_append_right (Nat.le_refl _), Nat.sub_self] at hk'
      have : y = cur := (Option.some.inj hk').symm
      subst this
      exact .inl ⟨hlab, rfl, Nat.le_refl _⟩
  · rcases h.own k y hki hk' with q | ⟨ys, g1, g2, g3, g4⟩
    · exact .inl q
    · refine .inr ⟨ys, g1.ch hch fun a ha hn0 q => g4 a ha hn0 (.inr (.inl q)), g2, fun z hz => hst.ch (g3 z hz) hchB bz, fun a ha hn0 hbz => ?_⟩
      have hal := g1.lt a ha hn0
      exact g4 a ha hn0 (bz _ hal hbz)
/-- other blocks may be new, or turn, beside -/
theorem Gr.ch (hst : Stays Good) {w0 w w' : World} {T : List SL} {i : Nat} {cur : SL} {xs : List α} {gp : Option Addr} {gc : Nat} {gb : Option Nat} {G : List SL} {lab : Nat → Nat} (h : Gr g sz Good w0 w T i cur xs gp gc gb G lab) (c : Ch (fun _ => False) w w') : Gr g sz Good w0 w' T i cur xs gp gc gb G lab := by
  have cB : Ch (Busy T (i + 1) cur.own gb) w w' := c.mono fun _ _ q => q.elim
  refine ⟨⟨fun j y hj hij => ?_, h.b.grown.ch c fun _ _ => id, h.b.cg, h.b.gr, h.b.rr, h.b.loc, h.b.gnew, h.b.place, h.b.small, h.b.ch.new c⟩, h.now.ch c fun _ _ => id, h.len, fun y hy => hst.ch (h.curg y hy) cB fun _ _ q => q, fun k y hk => ?_, fun k y hki hk => ?_⟩
  · obtain ⟨ys, g1, g2, g3⟩ := h.b.rest j y hj hij
    exact ⟨ys, g1.ch c fun _ _ => id, g2, fun z hz => hst.ch (g3 z hz) cB fun _ _ q => q⟩
  · rcases h.read k y hk with q | ⟨ys, g1, g2, g3, g4⟩
    · exact .inl q
    · exact .inr ⟨ys, g1.ch c fun _ _ _ => id, g2, fun z hz => hst.ch (g3 z hz) cB fun _ _ q => q, g4⟩
  · rcases h.own k y hki hk with q | ⟨ys, g1, g2, g3, g4⟩
    · exact .inl q
    · exact .inr ⟨ys, g1.ch c fun _ _ _ => id, g2, fun z hz => hst.ch (g3 z hz) cB fun _ _ q => q, g4⟩
theorem Gs.ch (hst : Stays Good) {w0 w w' : World} {T : List SL} {i : Nat} {gp : Option Addr} {gc : Nat} {gb : Option Nat} {G : List SL} {lab : Nat → Nat} (h : Gs g sz Good w0 w T i gp gc gb G lab) (c : Ch (fun _ => False) w w') : Gs g sz Good w0 w' T i gp gc gb G lab := by
  have cB : Ch (Busy T i none gb) w w' := c.mono fun _ _ q => q.elim
  refine ⟨⟨fun j y hj hij => ?_, h.b.grown.ch c fun _ _ => id, h.b.cg, h.b.gr, h.b.rr, h.b.loc, h.b.gnew, h.b.place, h.b.small, h.b.ch.new c⟩, fun k y hk => ?_, fun k y hki hk => ?_⟩
  · obtain ⟨ys, g1, g2, g3⟩ := h.b.rest j y hj hij
    exact ⟨ys, g1.ch c fun _ _ => id, g2, fun z hz => hst.ch (g3 z hz) cB fun _ _ q => q⟩
  · obtain ⟨ys, g1, g2, g3, g4⟩ := h.read k y hk
    exact ⟨ys, g1.ch c fun _ _ _ => id, g2, fun z hz => hst.ch (g3 z hz) cB fun _ _ q => q, g4⟩
  · obtain ⟨ys, g1, g2, g3, g4⟩ := h.own k y hki hk
    exact ⟨ys, g1.ch c fun _ _ _ => id, g2, fun z hz => hst.ch (g3 z hz) cB fun _ _ q => q, g4⟩
end
/-! ### Lists that are written -/
/-- the lists T hold the rows C -/
def Rws {α : Type} (g : α → List Value) (sz : Nat) (w : World) (T : List SL) (C : Nat → List α) : Prop := ∀ j x, T[j]? = some x → Ow w x.p x.n x.c sz ((C j).flatMap g) x.own ∧ (C j).length = x.n
theorem Rws.ch {α : Type} {g : α → List Value} {sz : Nat} {S : Nat → Prop} {w w' : World} {T : List SL} {C : Nat → List α} (h : Rws g sz w T C) (c : Ch S w w') (hn : ∀ x ∈ T, ∀ b, x.own = some b → ¬ S b) : Rws g sz w' T C :=
  fun j x hx => ⟨(h j x hx).1.ch c fun b hb => hn x (List.mem_of_getElem? hx) b hb, (h j x hx).2⟩
theorem Rws.st {α : Type} {g : α → List Value} {sz : Nat} (hg : ∀ x, (g x).length = sz) {w : World} {T : List SL} {C : Nat → List α} (h : Rws g sz w T C) (hd : ∀ (j k : Nat) (x y : SL) (b : Nat), j ≠ k → T[j]? = some x → T[k]? = some y → x.own = some b → y.own ≠ some b)
    {i : Nat} {x : SL} (hx : T[i]? = some x) {k : Nat} {y : α} (hy : (C i)[k]? = some y) (h0 : 0 < sz) :
    ∃ kb o, x.p = some ⟨kb, o, none⟩ ∧ x.own = some kb ∧ ∀ (j q : Nat) (v : Value) (y' : α) (K : World → Prop), j < sz → q = o + (k * sz + j) → g y' = (g y).set j v →
      (∀ w', Rws g sz w' T (fun m => if m = i then (C i).set k y' else C m) → Ch (· = kb) w w' → w'.heap.size = w.heap.size → K w') → Sv.st w ⟨kb, q, none⟩ v K := by
  obtain ⟨ho, hl⟩ := h i x hx
  have hk : k < x.n := by have := (List.getElem?_eq_some_iff.1 hy).1; omega
  have hmul : (k + 1) * sz ≤ x.n * sz := Nat.mul_le_mul_right _ hk
  rw [Nat.add_mul] at hmul
  obtain ⟨kb, o, hp, hb, _⟩ := ho.st (i := k * sz + 0) (by omega)
  refine ⟨kb, o, hp, hb, fun j q v y' K hj hq he hK => ?_⟩
  obtain ⟨kb', o', hp', _, hst⟩ := ho.st (i := k * sz + j) (by omega)
  rw [hp] at hp'; cases hp'
  subst hq
  refine hst v K fun w' ho' hc hz => hK w' (fun m z hz' => ?_) hc hz
  by_cases hm : m = i
  · subst hm
    rw [hx] at hz'
    have : z = x := (Option.some.inj hz').symm
    subst this
    simp only [if_pos]
    refine ⟨?_, by simpa using hl⟩
    rw [flat_set hg (C m) k j v hy hj he] at ho'
    exact ho'
  · simp only [if_neg hm]
    obtain ⟨q1, q2⟩ := h m z hz'
    exact ⟨q1.ch hc fun b hb' e => hd i m x z kb (fun e => hm e.symm) hx hz' hb (by rw [← e]; exact hb'), q2⟩
end Go.Sv
namespace Go.Sv
open Go
set_option linter.unusedVariables false
/-- what elements are: their cells, their blocks, what is said of them in a world -/
structure El (α : Type) where
  g : α → List Value
  sz : Nat
  B : α → List Nat
  Ok : World → α → Prop
  glen : ∀ x, (g x).length = sz
  gone : ∀ x, ∀ v ∈ g x, oneV v = true
  ch : ∀ {S : Nat → Prop} {w w' : World} {x : α}, Ok w x → Ch S w w' → (∀ b ∈ B x, ¬ S b) → Ok w' x
  lt : ∀ {w : World} {x : α}, Ok w x → ∀ b ∈ B x, b < w.heap.size
  nd : ∀ {w : World} {x : α}, Ok w x → (B x).Nodup
section
variable {α : Type} (E : El α)
/-- the blocks of a row -/
def El.rowB (own : Option Nat) (R : List α) : List Nat := own.toList ++ R.flatMap E.B
def El.Row (w : World) (p : Option Addr) (n c : Nat) (own : Option Nat) (R : List α) : Prop :=
  R.length = n ∧ Ow w p n c E.sz (R.flatMap E.g) own ∧ (∀ x ∈ R, E.Ok w x) ∧ (E.rowB own R).Nodup
variable {E}
theorem El.mem_rowB {own : Option Nat} {R : List α} {b : Nat} : b ∈ E.rowB own R ↔ own = some b ∨ ∃ x ∈ R, b ∈ E.B x := by
  simp [El.rowB, Option.mem_toList]
theorem El.Row.ch {S : Nat → Prop} {w w' : World} {p : Option Addr} {n c : Nat} {own : Option Nat} {R : List α} (h : E.Row w p n c own R) (hc : Ch S w w') (hn : ∀ b ∈ E.rowB own R, ¬ S b) : E.Row w' p n c own R :=
  ⟨h.1, h.2.1.ch hc fun b hb => hn b (El.mem_rowB.2 (.inl hb)), fun x hx => E.ch (h.2.2.1 x hx) hc fun b hb => hn b (El.mem_rowB.2 (.inr ⟨x, hx, hb⟩)), h.2.2.2⟩
theorem El.Row.lt {w : World} {p : Option Addr} {n c : Nat} {own : Option Nat} {R : List α} (h : E.Row w p n c own R) : ∀ b ∈ E.rowB own R, b < w.heap.size := fun b hb => by
  rcases El.mem_rowB.1 hb with hb | ⟨x, hx, hb⟩
  · exact h.2.1.blt b hb
  · exact E.lt (h.2.2.1 x hx) b hb
theorem El.Row.nil {w : World} : E.Row w none 0 0 none [] := ⟨rfl, by simpa using Ow.nil, by simp, by simp [El.rowB]⟩
theorem El.Row.push {P : Program} {T ty e te : TypeId} {bytes : Nat} {z : Value} (hT : P.underlying T = some (.slice e)) (hi : InfoIs P e E.sz bytes z) (hzs : z.cells.size = E.sz)
    {w : World} {p : Option Addr} {n c : Nat} {own : Option Nat} {R : List α} (h : E.Row w p n c own R) {x : α} (hx : E.Ok w x) (hd : ∀ b ∈ E.B x, b ∉ E.rowB own R) (h1 : n + 1 ≤ 2 ^ 47) (h2 : (n + 1) * bytes ≤ 2 ^ 47)
    {K : Option Addr → Nat → Nat → World → Prop}
    (hk : ∀ p' c' own' w', E.Row w' p' (n + 1) c' own' (R ++ [x]) → (∀ b ∈ E.rowB own' (R ++ [x]), b ∈ E.rowB own R ∨ b ∈ E.B x ∨ w.heap.size ≤ b) → Ch (fun b => own = some b) w w' → K p' (n + 1) c' w') :
    newB w (E.g x) te fun a w2 => ∃ p5 n7 c5 w3, Sem.run P (Builtin.append_ #[T, T] ty #[.slice p n c, .slice (some a) 1 1]) w2 = .ok (.slice p5 n7 c5) w3 ∧ K p5 n7 c5 w3 := by
  obtain ⟨hl, ho, hr, hnd⟩ := h
  subst hl
  refine push_ok (g := E.g) hT hi hzs E.glen E.gone ho x h1 h2 fun p' c' own' w' o' n' hch => ?_
  have e : (R ++ [x]).length = R.length + 1 := by simp
  rw [e] at o' ⊢
  have hxl : ∀ b ∈ E.B x, b < w.heap.size := E.lt hx
  have hRl : ∀ y ∈ R, ∀ b ∈ E.B y, b < w.heap.size := fun y hy => E.lt (hr y hy)
  have hnd2 : ∀ y ∈ R, ∀ b ∈ E.B y, own ≠ some b := fun y hy b hb he => by
    subst he
    have := (List.nodup_cons.1 (show (b :: R.flatMap E.B).Nodup by simpa [El.rowB] using hnd)).1
    exact this (List.mem_flatMap.2 ⟨y, hy, hb⟩)
  refine hk p' c' own' w' ⟨e, o', fun y hy => ?_, ?_⟩ (fun b hb => ?_) hch
  · rcases List.mem_append.1 hy with hy | hy
    · exact E.ch (hr y hy) hch fun b hb he => hnd2 y hy b hb he
    · rw [List.mem_singleton.1 hy]
      exact E.ch hx hch fun b hb he => hd b hb (El.mem_rowB.2 (.inl he))
  · have base : ((R ++ [x]).flatMap E.B).Nodup := by
      rw [List.flatMap_append, List.flatMap_singleton]
      refine List.nodup_append.2 ⟨?_, E.nd hx, fun a ha b hb he => ?_⟩
      · have : (own.toList ++ R.flatMap E.B).Nodup := hnd
        exact (List.nodup_append.1 this).2.1
      · subst he
        obtain ⟨y, hy, hy2⟩ := List.mem_flatMap.1 ha
        exact hd a hb (El.mem_rowB.2 (.inr ⟨y, hy, hy2⟩))
    unfold El.rowB
    cases own' with
    | none => simpa using base
    | some k =>
      refine List.nodup_cons.2 ⟨fun hm => ?_, base⟩
      obtain ⟨y, hy, hy2⟩ := List.mem_flatMap.1 hm
      rcases n' k rfl with q | q
      · rcases List.mem_append.1 hy with hy | hy
        · exact hnd2 y hy k hy2 q
        · rw [List.mem_singleton.1 hy] at hy2
          exact hd k hy2 (El.mem_rowB.2 (.inl q))
      · rcases List.mem_append.1 hy with hy | hy
        · have := hRl y hy k hy2; omega
        · rw [List.mem_singleton.1 hy] at hy2
          have := hxl k hy2; omega
  · rcases El.mem_rowB.1 hb with hb | ⟨y, hy, hb⟩
    · rcases n' b hb with q | q
      · exact .inl (El.mem_rowB.2 (.inl q))
      · exact .inr (.inr q)
    · rcases List.mem_append.1 hy with hy | hy
      · exact .inl (El.mem_rowB.2 (.inr ⟨y, hy, hb⟩))
      · rw [List.mem_singleton.1 hy] at hb
        exact .inr (.inl hb)
end
/-! ### Bytes; lists of bytes; lists of these -/
structure Rc where
  s : SL
  l : List UInt8
def RcE : El Rc where
  g x := x.s.cells
  sz := 1
  B x := x.s.own.toList
  Ok w x := Ow w x.s.p x.s.n x.s.c 1 (bytesV x.l) x.s.own
  glen _ := rfl
  gone x := x.s.cells_one
  ch h c hn := h.ch c fun b hb => hn b (by simp [hb])
  lt h b hb := h.blt b (by simpa [Option.mem_toList] using hb)
  nd {_ x} _ := by cases x.s.own <;> simp
structure Bt where
  s : SL
  r : List Rc
def BtE : El Bt where
  g x := x.s.cells
  sz := 1
  B x := RcE.rowB x.s.own x.r
  Ok w x := RcE.Row w x.s.p x.s.n x.s.c x.s.own x.r
  glen _ := rfl
  gone x := x.s.cells_one
  ch h c hn := h.ch c hn
  lt h := h.lt
  nd h := h.2.2.2
/-- what batches say -/
def Bt.says (x : Bt) : List (List UInt8) := x.r.map (·.l)
end Go.Sv
