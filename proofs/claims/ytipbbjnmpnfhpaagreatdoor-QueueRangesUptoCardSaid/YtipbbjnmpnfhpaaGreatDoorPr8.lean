/-
  The law's book: over; a list of numbers, an entry's bytes. The law's sameNumbers. The law's book in memory: what came out of the queues. An entry is taken. The law's book in memory: all that it holds, each in a block of its own; an entry is taken, a list of numbers, a list of entries. The queue's map of those that are held; Len, Config, Put. The queue's Put. The law's small functions: two entries alike. A queue, plain: what its calls keep of the entries, how many there are behind them.
-/
import Derived.Test.YtipbbjnmpnfhpaaGreatDoorPr7
namespace Go.Proofs.YtipbbjnmpnfhpaaGreatDoor
open Go Go.Sv Go.Heap Go.Qu Go.MapKept
set_option linter.unusedVariables false
set_option maxRecDepth 4000
/-- bytes that are written over, and grown -/
theorem over_ok {w : World} {b : Option Addr} {bn bc : Nat} {xs : List Value} {own : Option Nat} {K : Value → World → Prop} (ho : Ow w b bn bc 1 xs own) (hn : bn ≤ 2 ^ 40)
    (hk : ∀ w', Ch (fun k => own = some k) w w' → K (.tuple #[]) w') : callP Tryz.prog 25 [.slice b bn bc] w K := by
  refine ok_longshorelaw17_over ?_
  unfold wp_longshorelaw17_over
  refine ⟨fun m i w1 => ∃ (j : Nat) (ys : List Value), i = (j : Int) ∧ j ≤ bn ∧ m = bn - j ∧ Ow w1 b bn bc 1 ys own ∧ Ch (fun k => own = some k) w w1, ⟨bn, 0, xs, rfl, Nat.zero_le _, rfl, ho, Ch.refl _ _⟩, ?_⟩
  rintro m _ w1 ⟨j, ys, rfl, hj, rfl, o1, c1⟩
  refine Sif_cases (fun hlt => ?_) fun hge => ?_
  · have hlt : j < bn := by have := of_decide_eq_true hlt; omega
    obtain ⟨k, o, hp, hk', hst⟩ := o1.st (i := j) (by omega)
    subst hp
    refine ⟨by omega, by omega, ?_⟩
    simp only [nn_some, add_at, Int.toNat_natCast, Nat.mul_one, Nat.add_zero]
    refine hst _ _ fun w2 o2 c2 z2 => ?_
    rw [nameI_iff, wrap_id (by omega) (by omega)]
    exact ⟨bn - (j + 1), by omega, j + 1, _, by simp, hlt, rfl, o2, c1.trans' (c2.mono fun x _ h => by rw [h]; exact hk')⟩
  · refine newB_blk fun w2 b2 c2 z2 => ?_
    have hrd : Rd w2 (some ⟨w1.heap.size, 0, none⟩) 4 1 [.int .u8 92, .int .u8 93, .int .u8 94, .int .u8 95] := by
      exact ⟨rfl, .inr ⟨w1.heap.size, 0, _, rfl, blk_cells b2, by simp, rfl⟩⟩
    obtain ⟨p', c', w', b', r1, r2, r3, r4, _⟩ := append_rd (ty := 32) (c2 := 4) Tryz.underlying32 Tryz.underlying32 qoct_info rfl (o1.ch c2 fun _ _ => id) hrd (fun v hv => by simp at hv; rcases hv with rfl | rfl | rfl | rfl <;> rfl) (by omega) (by omega)
    exact ⟨_, _, _, _, r1, hk w' ((c1.trans' (c2.mono fun _ _ h => h.elim)).trans' r4)⟩
end Go.Proofs.YtipbbjnmpnfhpaaGreatDoor
namespace Go.Proofs.YtipbbjnmpnfhpaaGreatDoor
open Go Go.Sv Go.Heap Go.Qu Go.MapKept
set_option linter.unusedVariables false
set_option maxRecDepth 4000
/-- the element at a place -/
theorem at_ltd {α : Type} {L : List α} {j : Nat} (h : decide ((j : Int) < (L.length : Int)) = true) : ∃ x, L[j]? = some x := ⟨_, List.getElem?_eq_getElem (by have := of_decide_eq_true h; omega)⟩
theorem snums_ok {w : World} {a b : Option Addr} {an ac bn bc : Nat} {S T : List Int} {K : Value → World → Prop} (ha : Rd w a an 1 (S.flatMap iC)) (hb : Rd w b bn 1 (T.flatMap iC)) (hS : S.length = an) (hT : T.length = bn) (hn : an ≤ 2 ^ 62)
    (hk : ∀ v w', v = decide (S = T) → Ch (fun _ => False) w w' → K (.bool v) w') : callP Tryz.prog 38 [.slice a an ac, .slice b bn bc] w K := by
  subst hS hT
  refine ok_longshorelaw17_sameNumbers ?_
  unfold wp_longshorelaw17_sameNumbers
  refine Sif_cases (fun h => ?_) fun h => ?_
  · have h : S.length ≠ T.length := fun e => by rw [e] at h; simp at h
    exact hk _ _ (by rw [decide_eq_false fun e => h (by rw [e])]) (Ch.refl _ _)
  have h : S.length = T.length := by
    have : (S.length : Int) = (T.length : Int) := by simpa using h
    omega
  refine ⟨fun m i w1 => ∃ j : Nat, i = (j : Int) ∧ j ≤ S.length ∧ m = S.length - j ∧ S.take j = T.take j ∧ Ch (fun _ => False) w w1, ⟨S.length, 0, rfl, Nat.zero_le _, rfl, rfl, Ch.refl _ _⟩, ?_⟩
  rintro m _ w1 ⟨j, rfl, hj, rfl, he, c1⟩
  refine Sif_cases (fun hlt => ?_) fun hge => ?_
  · obtain ⟨x, hx⟩ := at_ltd hlt
    have hlt : j < S.length := (List.getElem?_eq_some_iff.1 hx).1
    obtain ⟨y, hy⟩ : ∃ y, T[j]? = some y := ⟨_, List.getElem?_eq_getElem (by omega)⟩
    have c2 : Ch (fun _ => False) w w1.drew := c1.trans' (Ch.drew w1)
    obtain ⟨k, o, hp, hc⟩ := (ha.ch c2 fun _ _ _ => id).at iC_len hx (by decide)
    obtain ⟨k2, o2, hp2, hc2⟩ := (hb.ch c2 fun _ _ _ => id).at iC_len hy (by decide)
    subst hp hp2
    simp only [nn_some, add_at, Int.toNat_natCast]
    refine ⟨by omega, by omega, by omega, by omega, _, hc 0 _ rfl, _, hc2 0 _ rfl, Sif_cases (fun g => ?_) fun g => ?_⟩
    · have g : x ≠ y := by simpa using g
      refine hk _ _ ?_ c2
      rw [decide_eq_false fun e => g (by rw [e, hy] at hx; cases hx; rfl)]
    · have g : x = y := by simpa using g
      rw [nameI_iff, wrap_id (by omega) (by omega)]
      exact ⟨S.length - (j + 1), by omega, j + 1, by simp, hlt, rfl, by rw [List.take_add_one, List.take_add_one, hx, hy, he, g], c2⟩
  · have hje : j = S.length := by
      have := of_decide_eq_false hge
      omega
    subst hje
    rw [List.take_of_length_le (Nat.le_refl _), List.take_of_length_le (by omega)] at he
    exact hk _ _ (by rw [decide_eq_true he]) c1
end Go.Proofs.YtipbbjnmpnfhpaaGreatDoor
namespace Go.Proofs.YtipbbjnmpnfhpaaGreatDoor
open Go Go.Sv Go.Heap Go.Qu Go.MapKept
set_option linter.unusedVariables false
set_option maxRecDepth 4000
/-- a book, as far as an entry that is taken meets it -/
structure BW (w : World) (kb N : Nat) (p : Option Addr) (c : Nat) (own : Option Nat) (L : List Et) (p2 : Option Addr) (c2 : Nat) (own2 : Option Nat) (W : List Et) (t : List Value) : Prop where
  head : blk w kb = some (.int .i64 (N : Int) :: .slice p L.length c :: .slice p2 W.length c2 :: t)
  row : Ow w p L.length c 7 ((L.map (·.e)).flatMap En.cells) own
  row2 : Ow w p2 W.length c2 7 ((W.map (·.e)).flatMap En.cells) own2
  n1 : own ≠ some kb
  n2 : own2 ≠ some kb
  n3 : ∀ b, own = some b → own2 ≠ some b
theorem pushL {w : World} {p : Option Addr} {c : Nat} {G : List Et} {ow : Option Nat} (ho : Ow w p G.length c 7 ((G.map (·.e)).flatMap En.cells) ow) (x : Et) (h : G.length ≤ 2 ^ 36) {K : Option Addr → Nat → Nat → World → Prop}
    (hk : ∀ p' c' b' w', Ow w' p' (G ++ [x]).length c' 7 (((G ++ [x]).map (·.e)).flatMap En.cells) b' → (∀ k, b' = some k → ow = some k ∨ w.heap.size ≤ k) → Ch (fun k => ow = some k) w w' → K p' (G ++ [x]).length c' w') :
    newB w x.e.cells 34 fun a w2 => ∃ p5 n7 c5 w3, Sem.run Tryz.prog (Builtin.append_ #[24, 24] 24 #[.slice p G.length c, .slice (some a) 1 1]) w2 = .ok (.slice p5 n7 c5) w3 ∧ K p5 n7 c5 w3 := by
  have hml : (G.map (·.e)).length = G.length := List.length_map ..
  rw [← hml] at ho ⊢
  refine push_ok (g := En.cells) (sz := 7) (bytes := 72) Tryz.underlying24 entry_info rfl En.cells_len En.cells_one ho x.e (by omega) (by omega) fun p' c' b' w4 o4 n4 c4 => ?_
  have e : (G.map (·.e) ++ [x.e]).length = (G ++ [x]).length := by simp
  rw [e] at o4 ⊢
  exact hk p' c' b' w4 (by rw [List.map_append]; exact o4) n4 c4
def En.bare (e : En) : En := { e with p := none, n := 0, c := 0 }
theorem take0_ok {w : World} {kb N : Nat} {p : Option Addr} {c : Nat} {own : Option Nat} {L : List Et} {p2 : Option Addr} {c2 : Nat} {own2 : Option Nat} {W : List Et} {t : List Value} {x : Et} {K : Value → World → Prop} (H : BW w kb N p c own L p2 c2 own2 W t) (hx : EtE.Ok w x)
    (hd : ∀ b, x.own = some b → b ≠ kb ∧ own ≠ some b ∧ own2 ≠ some b) (hN : N ≤ 2 ^ 60) (hL : L.length ≤ 2 ^ 36) (hW : W.length ≤ 2 ^ 36) (hn : x.e.n ≤ 2 ^ 40)
    (odd : ∀ w', BW w' kb (N + 1) p c own L p2 c2 own2 W t → Ch (fun b => b = kb ∨ x.own = some b) w w' → K (.tuple #[]) w')
    (even : ∀ w' n1 n2 p' c' own' p2' c2' own2' y, BW w' kb (N + 1) p' c' own' (L ++ [x]) p2' c2' own2' (W ++ [y]) t → EtE.Ok w' x → EtE.Ok w' y → y.pe = x.pe → w.heap.size ≤ n1 → n1 ≤ n2 → (∀ b, y.own = some b → w.heap.size ≤ b ∧ b < n1) →
      (∀ b, own' = some b → own = some b ∨ (n1 ≤ b ∧ b < n2)) → (∀ b, own2' = some b → own2 = some b ∨ n2 ≤ b) → Ch (fun b => b = kb ∨ own = some b ∨ own2 = some b) w w' → K (.tuple #[]) w') :
    callP Tryz.prog 33 [.pointer (some ⟨kb, 0, none⟩), x.e.val] w K := by
  have hl := EtE.len hx
  have hkb := blk_lt H.head
  refine ok_longshorelaw17_book_take ?_
  unfold wp_longshorelaw17_book_take
  refine newB_blk fun w1 b1 c1 z1 => ?_
  simp only [nn_some, add_at, Nat.zero_add]
  have h1 : blk w1 kb = some (.int .i64 (N : Int) :: .slice p L.length c :: .slice p2 W.length c2 :: t) := by rw [c1.blk hkb id]; exact H.head
  refine ⟨_, by rw [cell_blk h1]; rfl, ?_⟩
  rw [wrap_id (n := (N : Int) + 1) (by omega) (by omega)]
  refine st_blk h1 (by simp) fun w2 h2 c2' z2 => ?_
  have h2 : blk w2 kb = some (.int .i64 ((N + 1 : Nat) : Int) :: .slice p L.length c :: .slice p2 W.length c2 :: t) := by rw [h2]; rfl
  have b2 : blk w2 w.heap.size = some x.e.cells := by rw [c2'.blk (blk_lt b1) (by omega)]; exact b1
  have cw2 : Ch (fun b => b = kb) w w2 := (c1.mono fun _ _ h => h.elim).trans' c2'
  have hx2 : EtE.Ok w2 x := EtE.ch hx cw2 fun b hb e => (hd b (by simpa [EtE, Option.mem_toList] using hb)).1 e
  have r1 : Ow w2 p L.length c 7 ((L.map (·.e)).flatMap En.cells) own := H.row.ch cw2 fun b hb e => H.n1 (e ▸ hb)
  have r2 : Ow w2 p2 W.length c2 7 ((W.map (·.e)).flatMap En.cells) own2 := H.row2.ch cw2 fun b hb e => H.n2 (e ▸ hb)
  refine ⟨_, by rw [cell_blk h2]; rfl, by decide, Sif_cases (fun ho => ?_) fun he => ?_⟩
  · -- it is written over at once
    refine ⟨_, _, _, by rw [cell_blk b2]; rfl, ?_⟩
    refine over_ok hx2 hn fun w3 c3 => ⟨rfl, ?_⟩
    have hnk : ∀ b, own = some b → ¬ x.own = some b := fun b hb e => (hd b e).2.1 hb
    have hnk2 : ∀ b, own2 = some b → ¬ x.own = some b := fun b hb e => (hd b e).2.2 hb
    refine odd w3 ⟨?_, r1.ch c3 hnk, r2.ch c3 hnk2, H.n1, H.n2, H.n3⟩ ((cw2.mono fun b _ h => .inl h).trans' (c3.mono fun b _ h => .inr h))
    rw [c3.blk (blk_lt h2) fun e => (hd kb e).1 rfl]; exact h2
  · refine rdN b2 ?_
    refine newE (e0 := En0) (e := x.e) fun w3 b3 c3 z3 => ?_
    have b23 : blk w3 w.heap.size = some x.e.cells := by rw [c3.blk (blk_lt b2) id]; exact b2
    refine st_blk (cs := x.e.cells) b3 (by simp [En.cells]) fun w4 b4 c4 z4 => ?_
    have b4 : blk w4 w2.heap.size = some x.e.bare.cells := by rw [b4]; rfl
    have hs : w.heap.size < w2.heap.size := by omega
    have b24 : blk w4 w.heap.size = some x.e.cells := by rw [c4.blk (blk_lt b23) fun e => by have e : w.heap.size = w2.heap.size := e; omega]; exact b23
    have cw4 : Ch (fun b => b = w2.heap.size) w2 w4 := (c3.mono fun _ _ h => h.elim).trans' c4
    refine ⟨fun m i w5 => ∃ (j : Nat) (pw : Option Addr) (cw : Nat) (ow : Option Nat), i = (j : Int) ∧ j ≤ x.e.n ∧ m = x.e.n - j ∧ blk w5 w.heap.size = some x.e.cells ∧ blk w5 w2.heap.size = some { x.e with p := pw, n := j, c := cw : En }.cells ∧ Ow w5 pw j cw 1 (bytesV (x.l.take j)) ow ∧ (∀ b, ow = some b → w4.heap.size ≤ b) ∧ Ch (fun b => b = w2.heap.size) w2 w5,
      ⟨x.e.n, 0, none, 0, none, rfl, Nat.zero_le _, rfl, b24, b4, by simpa [bytesV] using Ow.nil, (fun b hb => by cases hb), cw4⟩, ?_⟩
    rintro m i w5 ⟨j, pw, cw, ow, rfl, hj, rfl, ba5, bw5, o5, how, c5⟩
    refine ⟨_, _, _, by rw [cell_blk ba5]; rfl, Sif_cases (fun hlt => ?_) fun hge => ?_⟩
    · have hlt : j < x.e.n := by have := of_decide_eq_true hlt; omega
      have ba5d : blk w5.drew w.heap.size = some x.e.cells := by simpa using ba5
      have bw5d : blk w5.drew w2.heap.size = some { x.e with p := pw, n := j, c := cw : En }.cells := by simpa using bw5
      refine ⟨_, _, _, by rw [add_at, cell_blk bw5d]; rfl, _, _, _, by rw [cell_blk ba5d]; rfl, by omega, by omega, ?_⟩
      obtain ⟨kd, o, hp, hc⟩ := ((hx2.ch (c5.trans' (Ch.drew w5)) fun b hb e => by have := hx2.blt b hb; omega).rd).cell (i := j) (by omega)
      rw [hp]
      have hjl : j < x.l.length := by omega
      have hcv : w5.drew.cell? ⟨kd, o + j, none⟩ = some (.int .u8 ((x.l[j]'hjl).toNat : Int)) := by
        rw [hc]
        simp [bytesV, List.getElem?_eq_getElem hjl]
      simp only [nn_some, add_at, Int.toNat_natCast, Nat.mul_one]
      refine ⟨_, hcv, ?_⟩
      have o5d : Ow w5.drew pw (x.l.take j).length cw 1 ((x.l.take j).flatMap fun y => [Value.int .u8 (y.toNat : Int)]) ow := by
        have e1 : (x.l.take j).length = j := by rw [List.length_take]; omega
        have e2 : ((x.l.take j).flatMap fun y => [Value.int .u8 (y.toNat : Int)]) = bytesV (x.l.take j) := by
          simp only [bytesV, ← List.map_eq_flatMap]
        rw [e1, e2]; exact o5.ch (Ch.drew w5) fun _ _ => id
      have key := push_ok (P := Tryz.prog) (ty := 32) (te := 5) (g := fun y : UInt8 => [Value.int .u8 (y.toNat : Int)]) (sz := 1) (bytes := 1) Tryz.underlying32 qoct_info rfl (fun _ => rfl) (fun y v hv => by simp at hv; rw [hv]; rfl) o5d (x.l[j]'hjl) (by rw [List.length_take]; omega) (by rw [List.length_take]; omega)
        (K := fun p' n' c' w' => Sv.st w' ⟨w2.heap.size, 6, none⟩ (.slice p' n' c') fun w15 => nameI (IntKind.wrap .i64 ((j : Int) + 1)) fun n14 => ∃ m', m' < x.e.n - j ∧ (∃ (j : Nat) (pw : Option Addr) (cw : Nat) (ow : Option Nat), n14 = (j : Int) ∧ j ≤ x.e.n ∧ m' = x.e.n - j ∧ blk w15 w.heap.size = some x.e.cells ∧ blk w15 w2.heap.size = some { x.e with p := pw, n := j, c := cw : En }.cells ∧ Ow w15 pw j cw 1 (bytesV (x.l.take j)) ow ∧ (∀ b, ow = some b → w4.heap.size ≤ b) ∧ Ch (fun b => b = w2.heap.size) w2 w15)) fun p' c' b' w6 o6 n6 c6 => by
          have e3 : (x.l.take j ++ [x.l[j]'hjl]) = x.l.take (j + 1) := (List.take_append_getElem hjl)
          have hbw : ∀ b, ow = some b → b ≠ w2.heap.size ∧ b ≠ w.heap.size := fun b hb => by have := how b hb; omega
          have bw6 : blk w6 w2.heap.size = some { x.e with p := pw, n := j, c := cw : En }.cells := by rw [c6.blk (blk_lt bw5d) fun e => (hbw _ e).1 rfl]; exact bw5d
          have ba6 : blk w6 w.heap.size = some x.e.cells := by rw [c6.blk (blk_lt ba5d) fun e => (hbw _ e).2 rfl]; exact ba5d
          refine st_blk bw6 (by simp [En.cells]) fun w7 b7 c7 z7 => ?_
          rw [nameI_iff, wrap_id (by omega) (by omega)]
          have hsz : w5.heap.size = w5.drew.heap.size := rfl
          have n7 : ∀ b, b' = some b → w4.heap.size ≤ b := fun b hb => by
            rcases n6 b hb with q | q
            · exact how b q
            · have := blk_lt bw5; have q : w5.heap.size ≤ b := q; omega
          have e4 : (x.l.take j ++ [x.l[j]'hjl]).length = j + 1 := by rw [e3, List.length_take]; omega
          rw [e4] at o6 b7
          refine ⟨x.e.n - (j + 1), by omega, j + 1, p', c', b', rfl, hlt, rfl, by rw [c7.blk (blk_lt ba6) fun e => by have e : w.heap.size = w2.heap.size := e; omega]; exact ba6, by rw [b7]; rfl, ?_, n7, ((c5.trans' (Ch.drew w5)).trans c6 fun b hb h => by have := how b h; omega).trans' c7⟩
          have e5 : ((x.l.take j ++ [x.l[j]'hjl]).flatMap fun y => [Value.int .u8 (y.toNat : Int)]) = bytesV (x.l.take (j + 1)) := by
            rw [e3]; simp only [bytesV, ← List.map_eq_flatMap]
          rw [e5] at o6
          exact o6.ch c7 fun b hb e => by have := n7 b hb; omega
      have e1 : (x.l.take j).length = j := by rw [List.length_take]; omega
      rw [e1] at key
      refine newB_mono' key fun a w' cc h => ⟨⟨_, _, _, ?_, rfl⟩, ?_⟩
      · rw [cell_blk (show blk w' w2.heap.size = some { x.e with p := pw, n := j, c := cw : En }.cells by rw [cc.blk (blk_lt bw5d) id]; exact bw5d)]; rfl
      · obtain ⟨p5, n7, c5', w3', g1, g2⟩ := h
        exact ⟨p5, n7, c5', w3', g1, g2⟩
    · have hje : j = x.e.n := by have := of_decide_eq_false hge; omega
      subst hje
      rw [List.take_of_length_le (by omega)] at o5
      have hsz5 := c5.size
      have hk5 : blk w5 kb = some (.int .i64 ((N + 1 : Nat) : Int) :: .slice p L.length c :: .slice p2 W.length c2 :: t) := by rw [c5.blk (blk_lt h2) fun e => by have e : kb = w2.heap.size := e; have := blk_lt h2; omega]; exact h2
      have hk5d : blk w5.drew kb = some (.int .i64 ((N + 1 : Nat) : Int) :: .slice p L.length c :: .slice p2 W.length c2 :: t) := by simpa using hk5
      have ba5d : blk w5.drew w.heap.size = some x.e.cells := by simpa using ba5
      refine ⟨_, _, _, by rw [cell_blk hk5d]; rfl, ?_⟩
      refine rdN ba5d ?_
      let y : Et := ⟨{ x.e with p := pw, n := x.e.n, c := cw }, x.l, ow⟩
      have c5d : Ch (fun b => b = w2.heap.size) w2 w5.drew := c5.trans' (Ch.drew w5)
      have lt2 : ∀ b, own = some b ∨ own2 = some b → b < w2.heap.size := fun b hb => by
        rcases hb with hb | hb
        · exact r1.blt b hb
        · exact r2.blt b hb
      have r15 := r1.ch c5d fun b hb e => by have := lt2 b (.inl hb); omega
      have key := pushL r15 x hL (K := fun p' n' c' w14 => Sv.st w14 ⟨kb, 1, none⟩ (.slice p' n' c') fun w15 => ∃ p5 n18 c5, w15.drew.cell? ⟨kb, 2, none⟩ = some (.slice p5 n18 c5) ∧ ∃ n19, w15.drew.cell? ⟨w2.heap.size, 0, none⟩ = some (.int .i64 n19) ∧ ∃ n20, w15.drew.cell? ⟨w2.heap.size, 1, none⟩ = some (.int .i64 n20) ∧ ∃ n21, w15.drew.cell? ⟨w2.heap.size, 2, none⟩ = some (.int .i64 n21) ∧ ∃ b3, w15.drew.cell? ⟨w2.heap.size, 3, none⟩ = some (.bool b3) ∧ ∃ n22, w15.drew.cell? ⟨w2.heap.size, 4, none⟩ = some (.int .i64 n22) ∧ ∃ n23, w15.drew.cell? ⟨w2.heap.size, 5, none⟩ = some (.int .i64 n23) ∧ ∃ p6 n24 c6, w15.drew.cell? ⟨w2.heap.size, 6, none⟩ = some (.slice p6 n24 c6) ∧
          newB w15.drew [.int .i64 n19, .int .i64 n20, .int .i64 n21, .bool b3, .int .i64 n22, .int .i64 n23, .slice p6 n24 c6] 34 fun a9 w16 => (∃ p7 n25 c7, w16.cell? ⟨kb, 2, none⟩ = some (.slice p7 n25 c7) ∧ Value.slice p7 n25 c7 = .slice p5 n18 c5) ∧ ∃ p7 n25 c7 w17, Sem.run Tryz.prog (Builtin.append_ #[24, 24] 24 #[.slice p5 n18 c5, .slice (some a9) 1 1]) w16 = .ok (.slice p7 n25 c7) w17 ∧ Sv.st w17 ⟨kb, 2, none⟩ (.slice p7 n25 c7) fun w18 => K (.tuple #[]) w18) fun p' c' own' w6 o6 n6 c6 => by
        have hk6 : blk w6 kb = some (.int .i64 ((N + 1 : Nat) : Int) :: .slice p L.length c :: .slice p2 W.length c2 :: t) := by rw [c6.blk (blk_lt hk5d) H.n1]; exact hk5d
        refine st_blk hk6 (by simp) fun w7 hk7 c7 z7 => ?_
        have hk7 : blk w7.drew kb = some (.int .i64 ((N + 1 : Nat) : Int) :: .slice p' (L ++ [x]).length c' :: .slice p2 W.length c2 :: t) := by simpa using hk7
        refine ⟨_, _, _, by rw [cell_blk hk7]; rfl, ?_⟩
        have hs5 : w5.drew.heap.size = w5.heap.size := rfl
        have c57 : Ch (fun b => b = kb ∨ own = some b) w5.drew w7.drew := ((c6.mono fun b _ h => .inr h).trans' (c7.mono fun b _ h => .inl h)).trans' (Ch.drew w7)
        have bw7 : blk w7.drew w2.heap.size = some y.e.cells := by
          rw [c57.blk (by rw [hs5]; exact blk_lt bw5) fun h => ?_]
          · simpa using bw5
          · rcases h with h | h
            · omega
            · have := lt2 _ (.inl h); omega
        refine rdN bw7 ?_
        have c27 : Ch (fun b => b = w2.heap.size ∨ b = kb ∨ own = some b) w2 w7.drew := (c5d.mono fun b _ h => .inl h).trans' (c57.mono fun b _ h => .inr h)
        have r27 : Ow w7.drew p2 W.length c2 7 ((W.map (·.e)).flatMap En.cells) own2 := r2.ch c27 fun b hb h => by
          rcases h with h | h | h
          · have := lt2 b (.inr hb); omega
          · exact H.n2 (h ▸ hb)
          · exact H.n3 b h hb
        have sz7 : w5.heap.size ≤ w7.heap.size := by have := c57.size; simpa using this
        have y7 : EtE.Ok w7.drew y := by
          refine (o5.ch (Ch.drew (S := fun _ => False) w5) fun _ _ => id).ch c57 fun b hb h => ?_
          have := how b hb
          rcases h with h | h
          · omega
          · have := lt2 b (.inl h); have := cw4.size; omega
        have key2 := pushL r27 y hW (K := fun p7 n25 c7 w17 => Sv.st w17 ⟨kb, 2, none⟩ (.slice p7 n25 c7) fun w18 => K (.tuple #[]) w18) fun p2' c2'' own2' w8 o8 n8 c8 => by
          have hk8 : blk w8 kb = some (.int .i64 ((N + 1 : Nat) : Int) :: .slice p' (L ++ [x]).length c' :: .slice p2 W.length c2 :: t) := by rw [c8.blk (blk_lt hk7) H.n2]; exact hk7
          refine st_blk hk8 (by simp) fun w9 hk9 c9 z9 => ?_
          have hown' : ∀ b, own' = some b → own = some b ∨ w5.heap.size ≤ b := n6
          have hown2' : ∀ b, own2' = some b → own2 = some b ∨ w7.heap.size ≤ b := n8
          have hs4 := cw4.size
          have hlo' : ∀ b, own' = some b → b < w7.heap.size := fun b hb => by
            have := o6.blt b hb; omega
          have c79 : Ch (fun b => b = kb ∨ own2 = some b) w7.drew w9 := (c8.mono fun b _ h => .inr h).trans' (c9.mono fun b _ h => .inl h)
          refine even w9 w5.heap.size w7.heap.size p' c' own' p2' c2'' own2' y ⟨?_, ?_, ?_, fun e => ?_, fun e => ?_, fun b h1' h2' => ?_⟩ ?_ ?_ rfl (by omega) sz7 (fun b hb => ⟨by have := how b hb; omega, o5.blt b hb⟩) (fun b hb => ?_) (fun b hb => n8 b hb) ?_
          · rw [hk9]; rfl
          · refine ((o6.ch c7 fun b hb e => ?_).ch (Ch.drew w7) fun _ _ => id).ch c79 fun b hb h => ?_
            · rcases hown' b hb with q | q
              · exact H.n1 (e ▸ q)
              · omega
            · rcases h with h | h
              · rcases hown' b hb with q | q
                · exact H.n1 (h ▸ q)
                · omega
              · rcases hown' b hb with q | q
                · exact H.n3 b q h
                · have := lt2 b (.inr h); omega
          · refine o8.ch c9 fun b hb e => ?_
            rcases hown2' b hb with q | q
            · exact H.n2 (e ▸ q)
            · omega
          · rcases hown' _ e with q | q
            · exact H.n1 q
            · omega
          · rcases hown2' _ e with q | q
            · exact H.n2 q
            · omega
          · rcases hown2' b h2' with q | q
            · rcases hown' b h1' with g | g
              · exact H.n3 b g q
              · have := lt2 b (.inr q); omega
            · have := hlo' b h1'; omega
          · have c29 : Ch (fun b => b = w2.heap.size ∨ b = kb ∨ own = some b ∨ own2 = some b) w2 w9 := (c27.mono fun b _ h => h.imp id fun h => h.imp id fun h => .inl h).trans' (c79.mono fun b _ h => h.elim (fun h => .inr (.inl h)) fun h => .inr (.inr (.inr h)))
            refine EtE.ch hx2 c29 fun b hb h => ?_
            have hb : x.own = some b := by simpa [EtE, Option.mem_toList] using hb
            have hbl := hx2.blt b hb
            rcases h with h | h | h | h
            · omega
            · exact (hd b hb).1 h
            · exact (hd b hb).2.1 h
            · exact (hd b hb).2.2 h
          · refine y7.ch c79 fun b hb h => ?_
            have := how b hb
            rcases h with h | h
            · have := blk_lt h2; omega
            · have := lt2 b (.inr h); omega
          · rcases n6 b hb with q | q
            · exact .inl q
            · exact .inr ⟨q, hlo' b hb⟩
          · have c27' : Ch (fun b => b = kb ∨ own = some b ∨ own2 = some b) w w7.drew := (cw2.mono fun b _ h => .inl h).trans c27 fun b hb h => by
              rcases h with h | h | h
              · omega
              · exact .inl h
              · exact .inr (.inl h)
            exact c27'.trans' (c79.mono fun b _ h => h.elim (fun h => .inl h) fun h => .inr (.inr h))
        have hWl := r27.1
        refine newB_mono' key2 fun a w' cc h => ⟨⟨_, _, _, ?_, rfl⟩, ?_⟩
        · rw [cell_blk (show blk w' kb = some (.int .i64 ((N + 1 : Nat) : Int) :: .slice p' (L ++ [x]).length c' :: .slice p2 W.length c2 :: t) by rw [cc.blk (blk_lt hk7) id]; exact hk7)]; rfl
        · obtain ⟨p5, n7, c5', w3', g1, g2⟩ := h
          exact ⟨p5, n7, c5', w3', g1, g2⟩
      refine newB_mono' key fun a w' cc h => ⟨⟨_, _, _, ?_, rfl⟩, ?_⟩
      · rw [cell_blk (show blk w' kb = some (.int .i64 ((N + 1 : Nat) : Int) :: .slice p L.length c :: .slice p2 W.length c2 :: t) by rw [cc.blk (blk_lt hk5d) id]; exact hk5d)]; rfl
      · obtain ⟨p5, n7, c5', w3', g1, g2⟩ := h
        exact ⟨p5, n7, c5', w3', g1, g2⟩
end Go.Proofs.YtipbbjnmpnfhpaaGreatDoor
namespace Go.Proofs.YtipbbjnmpnfhpaaGreatDoor
open Go Go.Sv Go.Heap Go.Qu Go.MapKept
set_option linter.unusedVariables false
set_option maxRecDepth 4000
structure Bk where
  N : Nat
  p : Option Addr
  c : Nat
  own : Option Nat
  L : List Et
  p2 : Option Addr
  c2 : Nat
  own2 : Option Nat
  W : List Et
  s3 : SL
  s4 : SL
  s5 : SL
  T3 : List SL
  T4 : List SL
  T5 : List SL
  C : Nat → List Int
inductive Slot where
  | head | l | w | s3 | s4 | s5
  | el (i : Nat) | ew (i : Nat) | t3 (i : Nat) | t4 (i : Nat) | t5 (i : Nat)
def Bk.has (k : Bk) (kb : Nat) : Slot → Nat → Prop
  | .head, b => b = kb
  | .l, b => k.own = some b
  | .w, b => k.own2 = some b
  | .s3, b => k.s3.own = some b
  | .s4, b => k.s4.own = some b
  | .s5, b => k.s5.own = some b
  | .el i, b => ∃ x, k.L[i]? = some x ∧ x.own = some b
  | .ew i, b => ∃ x, k.W[i]? = some x ∧ x.own = some b
  | .t3 i, b => ∃ x, k.T3[i]? = some x ∧ x.own = some b
  | .t4 i, b => ∃ x, k.T4[i]? = some x ∧ x.own = some b
  | .t5 i, b => ∃ x, k.T5[i]? = some x ∧ x.own = some b
def Bk.B (k : Bk) (kb b : Nat) : Prop := ∃ s, k.has kb s b
def Bk.inj (k : Bk) (kb : Nat) : Prop := ∀ s t b, k.has kb s b → k.has kb t b → s = t
theorem inj_upd {k k' : Bk} {kb : Nat} (h : k.inj kb) (P : Slot → Nat → Prop) (h1 : ∀ s b, P s b → ∀ t, ¬ k.has kb t b) (h2 : ∀ s t b, P s b → P t b → s = t) (h3 : ∀ s b, k'.has kb s b → k.has kb s b ∨ P s b) : k'.inj kb := fun s t b hs ht => by
  rcases h3 s b hs with hs | hs
  · rcases h3 t b ht with ht | ht
    · exact h s t b hs ht
    · exact absurd hs (h1 t b ht s)
  · rcases h3 t b ht with ht | ht
    · exact absurd ht (h1 s b hs t)
    · exact h2 s t b hs ht
def slv (x : SL) : Value := .slice x.p x.n x.c
structure BS (w : World) (kb : Nat) (k : Bk) : Prop where
  b : BW w kb k.N k.p k.c k.own k.L k.p2 k.c2 k.own2 k.W [slv k.s3, slv k.s4, slv k.s5]
  okL : ∀ x ∈ k.L, EtE.Ok w x
  okW : ∀ x ∈ k.W, EtE.Ok w x
  same : k.L.map Et.pe = k.W.map Et.pe
  r3 : Ow w k.s3.p k.s3.n k.s3.c 1 (k.T3.flatMap SL.cells) k.s3.own
  r4 : Ow w k.s4.p k.s4.n k.s4.c 1 (k.T4.flatMap SL.cells) k.s4.own
  r5 : Ow w k.s5.p k.s5.n k.s5.c 1 (k.T5.flatMap SL.cells) k.s5.own
  n3 : k.s3.n = k.T3.length
  n4 : k.s4.n = k.T4.length
  n5 : k.s5.n = k.T5.length
  t3 : ∀ x ∈ k.T3, ∃ ys : List En, Ow w x.p x.n x.c 7 (ys.flatMap En.cells) x.own ∧ ys.length = x.n
  t4 : Rws iC 1 w k.T4 k.C
  t5 : Rws iC 1 w k.T5 k.C
  l45 : k.T4.length = k.T5.length
  inj : k.inj kb
section
variable {w w' : World} {kb : Nat} {k : Bk}
theorem BS.lt (H : BS w kb k) : ∀ b, k.B kb b → b < w.heap.size := by
  rintro b ⟨s, h⟩
  cases s with
  | head => rw [show b = kb from h]; exact blk_lt H.b.head
  | l => exact H.b.row.blt b h
  | w => exact H.b.row2.blt b h
  | s3 => exact H.r3.blt b h
  | s4 => exact H.r4.blt b h
  | s5 => exact H.r5.blt b h
  | el i => obtain ⟨x, hx, hb⟩ := h; exact (H.okL x (List.mem_of_getElem? hx)).blt b hb
  | ew i => obtain ⟨x, hx, hb⟩ := h; exact (H.okW x (List.mem_of_getElem? hx)).blt b hb
  | t3 i => obtain ⟨x, hx, hb⟩ := h; obtain ⟨ys, o, _⟩ := H.t3 x (List.mem_of_getElem? hx); exact o.blt b hb
  | t4 i => obtain ⟨x, hx, hb⟩ := h; exact (H.t4 i x hx).1.blt b hb
  | t5 i => obtain ⟨x, hx, hb⟩ := h; exact (H.t5 i x hx).1.blt b hb
/-- all but the head and the two rows of entries -/
structure BR (w : World) (kb : Nat) (k : Bk) : Prop where
  okL : ∀ x ∈ k.L, EtE.Ok w x
  okW : ∀ x ∈ k.W, EtE.Ok w x
  r3 : Ow w k.s3.p k.s3.n k.s3.c 1 (k.T3.flatMap SL.cells) k.s3.own
  r4 : Ow w k.s4.p k.s4.n k.s4.c 1 (k.T4.flatMap SL.cells) k.s4.own
  r5 : Ow w k.s5.p k.s5.n k.s5.c 1 (k.T5.flatMap SL.cells) k.s5.own
  t3 : ∀ x ∈ k.T3, ∃ ys : List En, Ow w x.p x.n x.c 7 (ys.flatMap En.cells) x.own ∧ ys.length = x.n
  t4 : Rws iC 1 w k.T4 k.C
  t5 : Rws iC 1 w k.T5 k.C
theorem BS.rest {S : Nat → Prop} (H : BS w kb k) (c : Ch S w w') (hn : ∀ s b, k.has kb s b → s = .head ∨ s = .l ∨ s = .w ∨ ¬ S b) : BR w' kb k := by
  have hs : ∀ s b, k.has kb s b → s ≠ .head → s ≠ .l → s ≠ .w → ¬ S b := fun s b h h1 h2 h3 => by
    rcases hn s b h with e | e | e | e
    · exact absurd e h1
    · exact absurd e h2
    · exact absurd e h3
    · exact e
  refine ⟨fun x hx => ?_, fun x hx => ?_, H.r3.ch c fun b hb => hs .s3 b hb nofun nofun nofun, H.r4.ch c fun b hb => hs .s4 b hb nofun nofun nofun, H.r5.ch c fun b hb => hs .s5 b hb nofun nofun nofun, fun x hx => ?_, fun j x hx => ⟨(H.t4 j x hx).1.ch c fun b hb => hs (.t4 j) b ⟨x, hx, hb⟩ nofun nofun nofun, (H.t4 j x hx).2⟩, fun j x hx => ⟨(H.t5 j x hx).1.ch c fun b hb => hs (.t5 j) b ⟨x, hx, hb⟩ nofun nofun nofun, (H.t5 j x hx).2⟩⟩
  · obtain ⟨i, hi⟩ := List.getElem?_of_mem hx
    exact EtE.ch (H.okL x hx) c fun b hb => hs (.el i) b ⟨x, hi, by simpa [EtE, Option.mem_toList] using hb⟩ nofun nofun nofun
  · obtain ⟨i, hi⟩ := List.getElem?_of_mem hx
    exact EtE.ch (H.okW x hx) c fun b hb => hs (.ew i) b ⟨x, hi, by simpa [EtE, Option.mem_toList] using hb⟩ nofun nofun nofun
  · obtain ⟨i, hi⟩ := List.getElem?_of_mem hx
    obtain ⟨ys, o, hl⟩ := H.t3 x hx
    exact ⟨ys, o.ch c fun b hb => hs (.t3 i) b ⟨x, hi, hb⟩ nofun nofun nofun, hl⟩
theorem BS.ch {S : Nat → Prop} (H : BS w kb k) (c : Ch S w w') (hn : ∀ b, k.B kb b → ¬ S b) : BS w' kb k := by
  have R := H.rest c fun s b h => .inr (.inr (.inr (hn b ⟨s, h⟩)))
  refine ⟨⟨?_, H.b.row.ch c fun b hb => hn b ⟨.l, hb⟩, H.b.row2.ch c fun b hb => hn b ⟨.w, hb⟩, H.b.n1, H.b.n2, H.b.n3⟩, R.okL, R.okW, H.same, R.r3, R.r4, R.r5, H.n3, H.n4, H.n5, R.t3, R.t4, R.t5, H.l45, H.inj⟩
  rw [c.blk (blk_lt H.b.head) (hn kb ⟨.head, rfl⟩)]; exact H.b.head
end
/-- what is counted of a book -/
structure Bk.small (k : Bk) (m : Nat) : Prop where
  N : k.N ≤ m
  L : k.L.length ≤ m
  T3 : k.T3.length ≤ m
  T4 : k.T4.length ≤ m
  nL : ∀ x ∈ k.L, x.e.n ≤ 2 ^ 40
  n3 : ∀ x ∈ k.T3, x.n ≤ 2 ^ 40
  n4 : ∀ x ∈ k.T4, x.n ≤ 2 ^ 40
def BK (kb : Nat) (w : World) (m : Nat) (B : Nat → Prop) : Prop := ∃ k, BS w kb k ∧ k.small m ∧ B = k.B kb
/-- a book that has been looked at -/
def BF (kb : Nat) (w : World) (m : Nat) (B : Nat → Prop) : Prop := ∃ N p c own L p2 c2 own2 W t, BW w kb N p c own L p2 c2 own2 W t ∧ N ≤ m ∧ L.length ≤ m ∧ W.length ≤ m ∧ B = fun b => b = kb ∨ own = some b ∨ own2 = some b
structure BookLike (kb : Nat) (Bp : World → Nat → (Nat → Prop) → Prop) : Prop where
  ch : ∀ {S : Nat → Prop} {w w' : World} {m : Nat} {B : Nat → Prop}, Bp w m B → Ch S w w' → (∀ b, B b → ¬ S b) → Bp w' m B
  lt : ∀ {w : World} {m : Nat} {B : Nat → Prop}, Bp w m B → ∀ b, B b → b < w.heap.size
  take : ∀ {w : World} {m : Nat} {B : Nat → Prop} {x : Et} {K : Value → World → Prop}, Bp w m B → EtE.Ok w x → (∀ b, x.own = some b → ¬ B b) → x.e.n ≤ 2 ^ 40 → m ≤ 2 ^ 35 →
    (∀ w' B', Bp w' (m + 1) B' → Ch (fun b => B b ∨ x.own = some b) w w' → (∀ b, B' b → B b ∨ x.own = some b ∨ w.heap.size ≤ b) → K (.tuple #[]) w') → callP Tryz.prog 33 [.pointer (some ⟨kb, 0, none⟩), x.e.val] w K
theorem BF.like (kb : Nat) : BookLike kb (BF kb) where
  ch := by
    rintro S w w' m B ⟨N, p, c, own, L, p2, c2, own2, W, t, H, h1, h2, h3, rfl⟩ cc hn
    refine ⟨N, p, c, own, L, p2, c2, own2, W, t, ⟨?_, H.row.ch cc fun b hb => hn b (.inr (.inl hb)), H.row2.ch cc fun b hb => hn b (.inr (.inr hb)), H.n1, H.n2, H.n3⟩, h1, h2, h3, rfl⟩
    rw [cc.blk (blk_lt H.head) (hn kb (.inl rfl))]; exact H.head
  lt := by
    rintro w m B ⟨N, p, c, own, L, p2, c2, own2, W, t, H, h1, h2, h3, rfl⟩ b (h | h | h)
    · rw [h]; exact blk_lt H.head
    · exact H.row.blt b h
    · exact H.row2.blt b h
  take := by
    rintro w m B x K ⟨N, p, c, own, L, p2, c2, own2, W, t, H, h1, h2, h3, rfl⟩ hx hd hn hm hk
    refine take0_ok H hx (fun b hb => ⟨fun e => hd b hb (.inl e), fun e => hd b hb (.inr (.inl e)), fun e => hd b hb (.inr (.inr e))⟩) (by omega) (by omega) (by omega) hn (fun w' H' c1 => ?_) fun w' n1 n2 p' c' own' p2' c2' own2' y H' _ _ _ g1 g2 _ g3 g4 c1 => ?_
    · exact hk w' _ ⟨_, _, _, _, _, _, _, _, _, _, H', by omega, by omega, by omega, rfl⟩ (c1.mono fun b _ h => h.imp .inl id) fun b h => .inl h
    · refine hk w' _ ⟨_, _, _, _, _, _, _, _, _, _, H', by omega, by simp; omega, by simp; omega, rfl⟩ (c1.mono fun b _ h => .inl h) fun b h => ?_
      rcases h with h | h | h
      · exact .inl (.inl h)
      · rcases g3 b h with q | q
        · exact .inl (.inr (.inl q))
        · exact .inr (.inr (by omega))
      · rcases g4 b h with q | q
        · exact .inl (.inr (.inr q))
        · exact .inr (.inr (by omega))
theorem app_at {α : Type} {L : List α} {x y : α} {i : Nat} (h : (L ++ [x])[i]? = some y) : L[i]? = some y ∨ (i = L.length ∧ y = x) := by
  by_cases hi : i < L.length
  · rw [List.getElem?_append_left hi] at h; exact .inl h
  · have := (List.getElem?_eq_some_iff.1 h).1
    have e : i = L.length := by simp at this; omega
    subst e
    simp at h
    exact .inr ⟨rfl, h.symm⟩
theorem BK.like (kb : Nat) : BookLike kb (BK kb) where
  ch := by
    rintro S w w' m B ⟨k, H, hs, rfl⟩ cc hn
    exact ⟨k, H.ch cc hn, hs, rfl⟩
  lt := by
    rintro w m B ⟨k, H, hs, rfl⟩
    exact H.lt
  take := by
    rintro w m B x K ⟨k, H, hs, rfl⟩ hx hd hn hm hk
    have hLW : k.L.length = k.W.length := by have := congrArg List.length H.same; simpa using this
    have h1 := hs.N
    have h2 := hs.L
    refine take0_ok H.b hx (fun b hb => ⟨fun e => hd b hb ⟨.head, e⟩, fun e => hd b hb ⟨.l, e⟩, fun e => hd b hb ⟨.w, e⟩⟩) (by omega) (by omega) (by omega) hn (fun w' H' c1 => ?_) fun w' n1 n2 p' c' own' p2' c2' own2' y H' xo yo ye g1 g2 gy g3 g4 c1 => ?_
    · have R := H.rest c1 fun s b h => by
        by_cases e : s = .head
        · exact .inl e
        · refine .inr (.inr (.inr fun hh => ?_))
          rcases hh with hh | hh
          · exact e (H.inj s .head b h hh)
          · exact hd b hh ⟨s, h⟩
      let k1 : Bk := { k with N := k.N + 1 }
      refine hk w' (k1.B kb) ⟨k1, ⟨H', R.okL, R.okW, H.same, R.r3, R.r4, R.r5, H.n3, H.n4, H.n5, R.t3, R.t4, R.t5, H.l45, fun s t b h h' => H.inj s t b ?_ ?_⟩, ⟨by show k.N + 1 ≤ _; omega, by show k.L.length ≤ _; omega, Nat.le_succ_of_le hs.T3, Nat.le_succ_of_le hs.T4, hs.nL, hs.n3, hs.n4⟩, rfl⟩ (c1.mono fun b _ h => h.imp (fun h => ⟨.head, h⟩) id) fun b h => .inl ?_
      · cases s <;> exact h
      · cases t <;> exact h'
      · obtain ⟨s, h⟩ := h
        exact ⟨s, by cases s <;> exact h⟩
    · have R := H.rest c1 fun s b h => by
        by_cases e : s = .head ∨ s = .l ∨ s = .w
        · rcases e with e | e | e
          · exact .inl e
          · exact .inr (.inl e)
          · exact .inr (.inr (.inl e))
        · refine .inr (.inr (.inr fun hh => e ?_))
          rcases hh with hh | hh | hh
          · exact .inl (H.inj s .head b h hh)
          · exact .inr (.inl (H.inj s .l b h hh))
          · exact .inr (.inr (H.inj s .w b h hh))
      have hold := H.lt
      have hxl := hx.blt
      let k' : Bk := { k with N := k.N + 1, p := p', c := c', own := own', L := k.L ++ [x], p2 := p2', c2 := c2', own2 := own2', W := k.W ++ [y] }
      let P : Slot → Nat → Prop := fun s b => (s = .el k.L.length ∧ x.own = some b) ∨ (s = .ew k.L.length ∧ y.own = some b) ∨ (s = .l ∧ n1 ≤ b ∧ b < n2) ∨ (s = .w ∧ n2 ≤ b)
      have hP : ∀ s b, P s b → ∀ t, ¬ k.has kb t b := fun s b h t ht => by
        have hb := hold b ⟨t, ht⟩
        rcases h with ⟨_, h⟩ | ⟨_, h⟩ | ⟨_, h, _⟩ | ⟨_, h⟩
        · exact hd b h ⟨t, ht⟩
        · have := gy b h; omega
        · omega
        · omega
      have hup : ∀ s b, k'.has kb s b → k.has kb s b ∨ P s b := fun s b h => by
        cases s with
        | l =>
          rcases g3 b h with q | q
          · exact .inl q
          · exact .inr (.inr (.inr (.inl ⟨rfl, q⟩)))
        | w =>
          rcases g4 b h with q | q
          · exact .inl q
          · exact .inr (.inr (.inr (.inr ⟨rfl, q⟩)))
        | el i =>
          obtain ⟨z, hz, hb⟩ := h
          rcases app_at hz with q | ⟨rfl, rfl⟩
          · exact .inl ⟨z, q, hb⟩
          · exact .inr (.inl ⟨rfl, hb⟩)
        | ew i =>
          obtain ⟨z, hz, hb⟩ := h
          rcases app_at hz with q | ⟨rfl, rfl⟩
          · exact .inl ⟨z, q, hb⟩
          · exact .inr (.inr (.inl ⟨by rw [hLW], hb⟩))
        | _ => exact .inl h
      refine hk w' (k'.B kb) ⟨k', ⟨H', fun z hz => ?_, fun z hz => ?_, ?_, R.r3, R.r4, R.r5, H.n3, H.n4, H.n5, R.t3, R.t4, R.t5, H.l45, inj_upd H.inj P hP (fun s t b h h' => ?_) hup⟩, ⟨by show k.N + 1 ≤ _; omega, by show (k.L ++ [x]).length ≤ _; simp; omega, Nat.le_succ_of_le hs.T3, Nat.le_succ_of_le hs.T4, fun z hz => ?_, hs.n3, hs.n4⟩, rfl⟩ (c1.mono fun b _ h => .inl ?_) fun b h => ?_
      · rcases List.mem_append.1 hz with hz | hz
        · exact R.okL z hz
        · rw [List.mem_singleton.1 hz]; exact xo
      · rcases List.mem_append.1 hz with hz | hz
        · exact R.okW z hz
        · rw [List.mem_singleton.1 hz]; exact yo
      · show (k.L ++ [x]).map Et.pe = (k.W ++ [y]).map Et.pe
        rw [List.map_append, List.map_append, H.same]
        simp [ye]
      · rcases h with ⟨rfl, h⟩ | ⟨rfl, h⟩ | ⟨rfl, h⟩ | ⟨rfl, h⟩ <;> rcases h' with ⟨rfl, h'⟩ | ⟨rfl, h'⟩ | ⟨rfl, h'⟩ | ⟨rfl, h'⟩ <;> first | rfl | (exfalso; have hx1 := hxl b; have hy1 := gy b; simp_all; try omega)
      · rcases List.mem_append.1 hz with hz | hz
        · exact hs.nL z hz
        · rw [List.mem_singleton.1 hz]; exact hn
      · rcases h with h | h | h
        · exact ⟨.head, h⟩
        · exact ⟨.l, h⟩
        · exact ⟨.w, h⟩
      · obtain ⟨s, h⟩ := h
        rcases hup s b h with q | ⟨_, q⟩ | ⟨_, q⟩ | ⟨_, q⟩ | ⟨_, q⟩
        · exact .inl ⟨s, q⟩
        · exact .inr (.inl q)
        · have := gy b q; exact .inr (.inr (by omega))
        · exact .inr (.inr (by omega))
        · exact .inr (.inr (by omega))
end Go.Proofs.YtipbbjnmpnfhpaaGreatDoor
namespace Go.Proofs.YtipbbjnmpnfhpaaGreatDoor
open Go Go.Sv Go.Heap Go.Qu Go.MapKept
set_option linter.unusedVariables false
set_option maxRecDepth 4000
theorem ikey (n : Int) : IsKey (.int .i64) (.int .i64 n) := rfl
theorem en_zero (w : World) : (zeroValue 34).run Tryz.prog w = .ok En0.val w := entry_info.zero w
theorem qlen_run {ty : TypeId} {w : World} {r : Nat} {m : List (Value × Value)} (h : Mp (.int .i64) w r m) : (Builtin.len_ #[63] ty #[.map (some r)]).run Tryz.prog w = .ok (.int .i64 (m.length : Int)) w := by
  obtain ⟨es, c, hb, hs, hk, hm⟩ := h
  subst hm
  simp [Builtin.len_, run_underlying Tryz.underlying63, MapKept.run_getObj_map hb, goInt, Result.andThen]
section
variable {w w' : World} {qb : Nat} {cf : Cfg} {last : Int} {F H : List Et} {p : Option Addr} {c : Nat} {own : Option Nat} {r : Nat}
theorem QM.mlen (Q : QM w qb cf last F H p c own r) {ty : TypeId} : (Builtin.len_ #[63] ty #[.map (some r)]).run Tryz.prog w = .ok (.int .i64 (H.length : Int)) w := by
  obtain ⟨m, hm, hp⟩ := Q.map
  rw [qlen_run hm, hp.length_eq, List.length_map]
theorem QM.head' (Q : QM w qb cf last F H p c own r) {last' : Int} (hb : blk w' qb = some (qcells cf (.slice p F.length c) r last')) (hc : Ch (· = qb) w w') : QM w' qb cf last' F H p c own r :=
  ⟨hb, Q.row.ch hc fun k hk h => Q.ne_qo (h ▸ hk), (by
    obtain ⟨m, hm, hp⟩ := Q.map
    exact ⟨m, hm.ch hc fun h => Q.ne_qr h.symm, hp⟩), fun x hx => EtE.ch (Q.dat x hx) hc fun b hb h => Q.ne_qe (h ▸ mem_eB.2 ⟨x, hx, by simpa [EtE, Option.mem_toList] using hb⟩), Q.nd⟩
theorem QM.look (Q : QM w qb cf last F H p c own r) (seq : Int) :
    (∃ x ∈ H, x.e.seq = seq ∧ (Instr.lookup 63 (.map (some r)) (.int .i64 seq) true).run Tryz.prog w = .ok (.tuple #[x.e.val, .bool true]) w) ∨
    ((∀ x ∈ H, x.e.seq ≠ seq) ∧ (Instr.lookup 63 (.map (some r)) (.int .i64 seq) true).run Tryz.prog w = .ok (.tuple #[En0.val, .bool false]) w) := by
  obtain ⟨m, hm, hp⟩ := Q.map
  rcases lookup_run Tryz.underlying63 Tryz.underlying3 (en_zero w) hm (ikey seq) with ⟨v, hv, _, h⟩ | ⟨hn, _, h⟩
  · obtain ⟨x, hx, he⟩ := List.mem_map.1 (hp.mem_iff.1 hv)
    unfold pairE at he
    simp only [Prod.mk.injEq, Value.int.injEq, true_and] at he
    obtain ⟨h1, rfl⟩ := he
    exact .inl ⟨x, hx, h1, h⟩
  · exact .inr ⟨fun x hx e => hn (pairE x) (hp.mem_iff.2 (List.mem_map.2 ⟨x, hx, rfl⟩)) (by rw [← e]; rfl), h⟩
theorem QM.look1 (Q : QM w qb cf last F H p c own r) {x : Et} (hx : x ∈ H) (hn : (H.map fun x : Et => x.e.seq).Nodup) : (Instr.lookup 63 (.map (some r)) (.int .i64 x.e.seq) false).run Tryz.prog w = .ok x.e.val w := by
  obtain ⟨m, hm, hp⟩ := Q.map
  rcases lookup_run Tryz.underlying63 Tryz.underlying3 (en_zero w) hm (ikey x.e.seq) with ⟨v, hv, h, _⟩ | ⟨hn, _, h⟩
  · obtain ⟨y, hy, he⟩ := List.mem_map.1 (hp.mem_iff.1 hv)
    unfold pairE at he
    simp only [Prod.mk.injEq, Value.int.injEq, true_and] at he
    obtain ⟨h1, rfl⟩ := he
    rw [inj_of_nodup hn hy hx h1] at h
    exact h
  · exact absurd rfl (hn (pairE x) (hp.mem_iff.2 (List.mem_map.2 ⟨x, hx, rfl⟩)))
/-- one that is held goes -/
theorem QM.del (Q : QM w qb cf last F H p c own r) {ty : TypeId} {x : Et} {H' : List Et} (hp : H.Perm (x :: H')) (hn : (H.map fun x : Et => x.e.seq).Nodup) :
    ∃ w', (Builtin.delete_ #[63, 3] ty #[.map (some r), .int .i64 x.e.seq]).run Tryz.prog w = .ok (.tuple #[]) w' ∧ QM w' qb cf last F H' p c own r ∧ EtE.Ok w' x ∧ (∀ b ∈ EtE.B x, b ∈ qbl qb r own F H ∧ b ∉ qbl qb r own F H') ∧ (∀ b ∈ qbl qb r own F H', b ∈ qbl qb r own F H) ∧ Ch (· = r) w w' := by
  obtain ⟨m, hm, hmp⟩ := Q.map
  obtain ⟨w', m', hrun, hm', hch, _, hcase⟩ := delete_run (ty := ty) Tryz.underlying63 Tryz.underlying3 hm (ikey x.e.seq)
  have hpe : (F ++ H).Perm (x :: (F ++ H')) := (hp.append_left F).trans List.perm_middle
  have hnd : (EtE.B x ++ eB (F ++ H')).Nodup := by rw [← eB_cons, ← (eB_perm hpe).nodup_iff]; exact Q.ndE
  have hsub : ∀ b, b ∈ EtE.B x ++ eB (F ++ H') → b ∈ eB (F ++ H) := fun b hb => by rw [(eB_perm hpe).mem_iff, eB_cons]; exact hb
  have hdat : ∀ y ∈ F ++ H, EtE.Ok w' y := fun y hy => EtE.ch (Q.dat y hy) hch fun b hb h => Q.ne_re (h ▸ mem_eB.2 ⟨y, hy, by simpa [EtE, Option.mem_toList] using hb⟩)
  refine ⟨w', hrun, ⟨?_, ?_, ⟨m', hm', ?_⟩, fun y hy => hdat y (hpe.mem_iff.2 (List.mem_cons_of_mem _ hy)), ?_⟩, hdat x (hpe.mem_iff.2 (by simp)), fun b hb => ⟨mem_qbl.2 (.inr (.inr (.inr (hsub b (List.mem_append_left _ hb))))), fun h => ?_⟩, fun b hb => ?_, hch⟩
  · rw [hch.blk (blk_lt Q.head) Q.ne_qr]; exact Q.head
  · exact Q.row.ch hch fun k hk h => Q.ne_ro (h ▸ hk)
  · have h1 : m.Perm (pairE x :: H'.map pairE) := hmp.trans (hp.map pairE)
    rcases hcase with ⟨l1, v0, l2, rfl, rfl⟩ | ⟨hno, rfl⟩
    · have hk1 := hm.nodup
      have hv : v0 = x.e.val := by
        have hmem : (Value.int .i64 x.e.seq, v0) ∈ pairE x :: H'.map pairE := h1.mem_iff.1 (by simp)
        rcases List.mem_cons.1 hmem with e | e
        · exact (Prod.mk.inj e).2
        · obtain ⟨y, hy, he⟩ := List.mem_map.1 e
          unfold pairE at he
          simp only [Prod.mk.injEq, Value.int.injEq, true_and] at he
          have hn2 : ((x :: H').map fun x : Et => x.e.seq).Nodup := by rw [← (hp.map _).nodup_iff]; exact hn
          rw [List.map_cons] at hn2
          exact absurd (List.mem_map.2 ⟨y, hy, he.1⟩) (List.nodup_cons.1 hn2).1
      subst hv
      have h2 : ((pairE x) :: (l1 ++ l2)).Perm (pairE x :: H'.map pairE) := (List.perm_middle (l₁ := l1) (a := pairE x) (l₂ := l2)).symm.trans h1
      exact h2.cons_inv
    · exact absurd rfl (hno (pairE x) (h1.mem_iff.2 (by simp)))
  · exact qbl_nd Q.ne_qr Q.ne_qo Q.ne_ro (fun h => Q.ne_qe (hsub _ (List.mem_append_right _ h))) (fun h => Q.ne_re (hsub _ (List.mem_append_right _ h))) (fun b hb h => Q.ne_oe b hb (hsub _ (List.mem_append_right _ h))) (List.nodup_append.1 hnd).2.1
  · have hb2 := hsub b (List.mem_append_left _ hb)
    rcases mem_qbl.1 h with h | h | h | h
    · exact Q.ne_qe (h ▸ hb2)
    · exact Q.ne_re (h ▸ hb2)
    · exact Q.ne_oe b h hb2
    · exact (List.nodup_append.1 hnd).2.2 b hb b h rfl
  · rcases mem_qbl.1 hb with h | h | h | h
    · exact mem_qbl.2 (.inl h)
    · exact mem_qbl.2 (.inr (.inl h))
    · exact mem_qbl.2 (.inr (.inr (.inl h)))
    · exact mem_qbl.2 (.inr (.inr (.inr (hsub b (List.mem_append_right _ h)))))
/-- one comes to those that are held -/
theorem QM.add (Q : QM w qb cf last F H p c own r) {x : Et} (hx : EtE.Ok w x) (hd : ∀ b ∈ EtE.B x, b ∉ qbl qb r own F H) (hn : ∀ y ∈ H, y.e.seq ≠ x.e.seq) :
    ∃ w', (Instr.mapUpdate 63 (.map (some r)) (.int .i64 x.e.seq) x.e.val).run Tryz.prog w = .ok () w' ∧ QM w' qb cf last F (x :: H) p c own r ∧ (∀ b ∈ qbl qb r own F (x :: H), b ∈ qbl qb r own F H ∨ b ∈ EtE.B x) ∧ Ch (· = r) w w' := by
  obtain ⟨m, hm, hmp⟩ := Q.map
  obtain ⟨w', m', hrun, hm', hch, _, hcase⟩ := update_run Tryz.underlying63 Tryz.underlying3 hm (ikey x.e.seq) x.e.val
  have hpe : (F ++ x :: H).Perm (x :: (F ++ H)) := List.perm_middle
  have hmem : ∀ b, b ∈ eB (F ++ x :: H) → b ∈ EtE.B x ∨ b ∈ eB (F ++ H) := fun b hb => by
    rw [(eB_perm hpe).mem_iff, eB_cons] at hb
    exact List.mem_append.1 hb
  have hxr : r ∉ EtE.B x := fun h => hd r h (mem_qbl.2 (.inr (.inl rfl)))
  refine ⟨w', hrun, ⟨?_, ?_, ⟨m', hm', ?_⟩, fun y hy => ?_, ?_⟩, fun b hb => ?_, hch⟩
  · rw [hch.blk (blk_lt Q.head) Q.ne_qr]; exact Q.head
  · exact Q.row.ch hch fun k hk h => Q.ne_ro (h ▸ hk)
  · rcases hcase with ⟨l1, v0, l2, rfl, rfl⟩ | ⟨_, rfl⟩
    · have hmem : (Value.int .i64 x.e.seq, v0) ∈ H.map pairE := hmp.mem_iff.1 (by simp)
      obtain ⟨y, hy, he⟩ := List.mem_map.1 hmem
      unfold pairE at he
      simp only [Prod.mk.injEq, Value.int.injEq, true_and] at he
      exact absurd he.1 (hn y hy)
    · exact ((hmp.append_right _).trans (List.perm_append_singleton ..))
  · rcases List.mem_cons.1 (hpe.mem_iff.1 hy) with e | e
    · rw [e]; exact EtE.ch hx hch fun b hb h => hxr (h ▸ hb)
    · exact EtE.ch (Q.dat y e) hch fun b hb h => Q.ne_re (h ▸ mem_eB.2 ⟨y, e, by simpa [EtE, Option.mem_toList] using hb⟩)
  · refine qbl_nd Q.ne_qr Q.ne_qo Q.ne_ro (fun h => ?_) (fun h => ?_) (fun b hb h => ?_) ?_
    · rcases hmem _ h with q | q
      · exact hd _ q (mem_qbl.2 (.inl rfl))
      · exact Q.ne_qe q
    · rcases hmem _ h with q | q
      · exact hxr q
      · exact Q.ne_re q
    · rcases hmem _ h with q | q
      · exact hd _ q (mem_qbl.2 (.inr (.inr (.inl hb))))
      · exact Q.ne_oe b hb q
    · rw [(eB_perm hpe).nodup_iff, eB_cons]
      refine List.nodup_append.2 ⟨EtE.nd hx, Q.ndE, fun a ha b hb e => ?_⟩
      subst e
      exact hd a ha (mem_qbl.2 (.inr (.inr (.inr hb))))
  · rcases mem_qbl.1 hb with h | h | h | h
    · exact .inl (mem_qbl.2 (.inl h))
    · exact .inl (mem_qbl.2 (.inr (.inl h)))
    · exact .inl (mem_qbl.2 (.inr (.inr (.inl h))))
    · rcases hmem b h with q | q
      · exact .inr q
      · exact .inl (mem_qbl.2 (.inr (.inr (.inr q))))
theorem QM.cell (Q : QM w qb cf last F H p c own r) {i : Nat} {v : Value} (h : (qcells cf (.slice p F.length c) r last)[i]? = some v) : w.cell? ⟨qb, i, none⟩ = some v := by rw [cell_blk Q.head]; exact h
end
theorem wrap_small {n : Int} (h1 : 0 ≤ n) (h2 : n ≤ 2 ^ 40) : IntKind.wrap .i64 n = n := wrap_id (by omega) (by omega)
theorem qlen_ok {w : World} {qb : Nat} {A : AQ} {B : Nat → Prop} {K : Value → World → Prop} (Q : QK w qb A B)
    (hk : K (.tuple #[.int .i64 ((A.L.filter isFree).length : Int), .int .i64 ((A.L.length : Int) - ((A.L.filter isFree).length : Int))]) w.drew) : callP Tryz.prog 20 [.pointer (some ⟨qb, 0, none⟩)] w K := by
  obtain ⟨wf, F, H, p, c, own, r, M, E, rfl⟩ := Q
  have h1 := E.fr.length_eq
  have h2 := E.len
  have M' : QM w.drew qb A.cf A.last F H p c own r := M.ch (Ch.drew (S := fun _ => False) w) fun _ _ => id
  refine ok_queue_Queue_Len ?_
  unfold wp_queue_Queue_Len
  simp only [nn_some, add_at]
  refine ⟨_, _, _, M'.cell rfl, _, M'.cell rfl, _, M'.mlen, ?_⟩
  rw [List.length_map] at h1
  rw [show (H.length : Int) = (A.L.length : Int) - ((A.L.filter isFree).length : Int) by omega, h1]
  exact hk
def cfgV (c : Cfg) : Value := .agg #[.string c.name, .int .i64 c.most, .string c.dead, .int .i64 c.tries, .bool c.dur]
end Go.Proofs.YtipbbjnmpnfhpaaGreatDoor
namespace Go.Proofs.YtipbbjnmpnfhpaaGreatDoor
open Go Go.Sv Go.Heap Go.Qu Go.MapKept
set_option linter.unusedVariables false
set_option maxRecDepth 4000
def En.as (e : En) (l : List UInt8) : PE := ⟨e.seq, e.pri, e.exp, e.dur, e.cnt, e.hold, l⟩
theorem qput_ok {w : World} {qb : Nat} {A : AQ} {B : Nat → Prop} {e : En} {l : List UInt8} {K : Value → World → Prop} (Q : QK w qb A B) (hr : Rd w e.p e.n 1 (bytesV l)) (hd : ∀ a, e.p = some a → e.n * 1 ≠ 0 → ¬ B a.block) (hn : e.n ≤ 2 ^ 46) (hi : e.seq ≤ 9223372036854775807)
    (hk : QPost w qb (A.put (e.as l)).2 B fun w' _ => K (.int .i64 (A.put (e.as l)).1) w') : callP Tryz.prog 17 [.pointer (some ⟨qb, 0, none⟩), e.val] w K := by
  have hln : l.length = e.n := by have := hr.1; simpa using this
  have hW := Q.wf.put (e := e.as l) hi
  have hQ0 := Q
  obtain ⟨wf, F, H, p, c, own, r, M, E, rfl⟩ := Q
  have hlen := E.len
  refine ok_queue_Queue_Put ?_
  unfold wp_queue_Queue_Put
  refine newB_blk fun w1 b1 c1 z1 => ?_
  have b1 : blk w1 w.heap.size = some e.cells := b1
  have c1d : Ch (fun _ => False) w w1.drew := c1.trans' (Ch.drew w1)
  have bad : putBad A (e.as l) → K (.int .i64 171) w1.drew := fun hb => by
    have e1 : A.put (e.as l) = (171, A) := by unfold AQ.put; rw [if_pos hb]
    rw [e1] at hk
    exact hk w1.drew _ (hQ0.ch c1d fun _ _ => id) (c1d.mono fun _ _ h => h.elim) fun b hb => .inl hb
  have M1 : QM w1 qb A.cf A.last F H p c own r := M.ch c1 fun _ _ => id
  have M1d : QM w1.drew qb A.cf A.last F H p c own r := M.ch c1d fun _ _ => id
  have M1dd : QM w1.drew.drew qb A.cf A.last F H p c own r := M1d.ch (Ch.drew (S := fun _ => False) _) fun _ _ => id
  have b1d : blk w1.drew w.heap.size = some e.cells := b1
  refine ⟨fun w2 => (¬ putBad A (e.as l) ∧ ¬ 1048576 < (e.as l).l.length ∧ ¬ A.cf.most ≤ (A.L.length : Int)) ∧ Ch (fun _ => False) w w2 ∧ blk w2 w.heap.size = some e.cells, ?_, ?_⟩
  · rintro w2 ⟨⟨h1, h2, h3⟩, c2, b2⟩
    have e1 : A.put (e.as l) = (0, { A with L := A.L ++ [e.as l], last := e.seq }) := by unfold AQ.put; rw [if_neg h1, if_neg h2, if_neg h3]; rfl
    rw [e1] at hk hW
    have M2 := M.ch c2 fun _ _ => id
    have hbq := blk_lt M2.head
    have hqw := blk_lt M.head
    simp only [nn_some, add_at]
    refine ⟨_, by rw [cell_blk b2]; rfl, ?_⟩
    refine st_blk M2.head (by simp [qcells]) fun w3 b3 c3 z3 => ?_
    have M3 : QM w3 qb A.cf e.seq F H p c own r := M2.head' b3 c3
    have M3d : QM w3.drew qb A.cf e.seq F H p c own r := M3.ch (Ch.drew (S := fun _ => False) _) fun _ _ => id
    have b23 : blk w3 w.heap.size = some e.cells := by rw [c3.blk (blk_lt b2) (by omega)]; exact b2
    have b23d : blk w3.drew w.heap.size = some e.cells := b23
    refine rdN b23d ?_
    have hr3 : Rd w3.drew e.p e.n 1 (bytesV l) := (((hr.ch c2 fun _ _ _ => id).ch c3 fun a ha h0 h => hd a ha h0 (mem_qbl.2 (.inl h)))).ch (Ch.drew (S := fun _ => False) _) fun _ _ _ => id
    refine own_ok (e := e) hr3 hn fun w4 x hx hxp hxn c4 => isE ?_
    have M4 := M3d.ch c4 fun _ _ => id
    have hfresh : ∀ b ∈ EtE.B x, w.heap.size ≤ b := fun b hb => by
      have := hxn b (by simpa [EtE, Option.mem_toList] using hb)
      have := c2.size
      have := c3.size
      have hd : w3.drew.heap.size = w3.heap.size := rfl
      omega
    refine qpush_ok M4 E.heap (by have := wf.len; have := wf.most2; omega) hx (fun b hb h => ?_) fun w5 F' p' c' own' hp' hheap' M5 hsub c5 => ⟨rfl, ?_⟩
    · have := hfresh b hb
      have := M.lt b h
      omega
    have c24 : Ch (fun b => b ∈ qbl qb r own F H) w w4 := (((c2.mono fun _ _ h => h.elim).trans' (c3.mono fun b _ h => mem_qbl.2 (.inl h))).trans' (Ch.drew w3)).trans' (c4.mono fun _ _ h => h.elim)
    refine hk w5 _ ⟨hW, F', H, p', c', own', r, M5, ⟨hheap', ?_, fun y hy => ?_, E.held⟩, rfl⟩ (c24.trans c5 fun b _ h => ?_) fun b hb => ?_
    · have h1 : ((F' ++ H).map Et.pe).Perm (x.pe :: (F ++ H).map Et.pe) := (hp'.append_right H).map Et.pe
      rw [hxp] at h1
      refine h1.trans ((E.perm.cons _).trans ?_)
      exact (List.perm_append_singleton ..).symm
    · rcases List.mem_cons.1 (hp'.mem_iff.1 hy) with h | h
      · have h4 : e.hold = 0 := by
          have : ¬ (e.as l).hold ≠ 0 := fun h5 => h1 (by unfold putBad; simp [h5])
          exact Decidable.not_not.1 this
        rw [h]
        have : x.pe.hold = e.hold := by rw [hxp]
        exact this.trans h4
      · exact E.free y h
    · rcases h with h | h
      · exact mem_qbl.2 (.inr (.inr (.inl h)))
      · exact mem_qbl.2 (.inl h)
    · rcases hsub b hb with h | h | h
      · exact .inl h
      · exact .inr (hfresh b h)
      · have := c24.size
        exact .inr (by omega)
  · simp only [nn_some, add_at, Nat.zero_add, Nat.add_zero]
    refine ⟨_, by rw [cell_blk b1d]; rfl, _, M1d.cell rfl, Sif_cases (fun g1 => ?_) fun g1 => bad (.inl (by simpa [En.as] using g1))⟩
    refine ⟨_, by rw [cell_blk b1d]; rfl, Sif_cases (fun g2 => ?_) fun g2 => bad (.inr (.inl (by simpa [En.as] using g2)))⟩
    refine ⟨_, by rw [cell_blk b1d]; rfl, Sif_cases (fun g3 => ?_) fun g3 => bad (.inr (.inr (.inl (by simpa [En.as] using g3))))⟩
    refine ⟨_, by rw [cell_blk b1d]; rfl, Sif_cases (fun g4 => ?_) fun g4 => bad (.inr (.inr (.inr (.inl (by simpa [En.as] using g4)))))⟩
    refine ⟨_, by rw [cell_blk b1d]; rfl, Sif_cases (fun g5 => ?_) fun g5 => bad (.inr (.inr (.inr (.inr (.inl (by simpa [En.as] using g5))))))⟩
    refine ⟨_, by rw [cell_blk b1d]; rfl, Sif_cases (fun g6 => ?_) fun g6 => bad (.inr (.inr (.inr (.inr (.inr (.inl (by simpa [En.as] using g6)))))))⟩
    refine ⟨_, by rw [cell_blk b1d]; rfl, Sif_cases (fun g7 => ?_) fun g7 => bad (.inr (.inr (.inr (.inr (.inr (.inr (.inl (by simpa [En.as] using g7))))))))⟩
    refine ⟨_, by rw [cell_blk b1d]; rfl, Sif_cases (fun g8 => ?_) fun g8 => bad (.inr (.inr (.inr (.inr (.inr (.inr (.inr (.inl (by simpa [En.as] using g8)))))))))⟩
    refine ⟨_, by rw [cell_blk b1d]; rfl, Sif_cases (fun g9 => bad (.inr (.inr (.inr (.inr (.inr (.inr (.inr (.inr (by simpa [En.as] using g9)))))))))) fun g9 => ?_⟩
    have hnb : ¬ putBad A (e.as l) := by
      unfold putBad En.as
      simp only [bne_iff_ne, bne_eq_false_iff_eq, Bool.not_eq_true', decide_eq_false_iff_not] at g1 g2 g3 g4 g5 g6 g7 g8 g9
      dsimp only
      omega
    refine ⟨_, _, _, by rw [cell_blk b1d]; rfl, Sif_cases (fun g10 => ?_) fun g10 => ?_⟩
    · have e1 : A.put (e.as l) = (2, A) := by
        unfold AQ.put
        have : (1048576 : Int) < (e.n : Int) := by simpa using g10
        rw [if_neg hnb, if_pos (by show 1048576 < l.length; omega)]
      rw [e1] at hk
      exact hk w1.drew _ (hQ0.ch c1d fun _ _ => id) (c1d.mono fun _ _ h => h.elim) fun b hb => .inl hb
    · have hl1 : ¬ 1048576 < (e.as l).l.length := by
        have : ¬ (1048576 : Int) < (e.n : Int) := by simpa using g10
        show ¬ 1048576 < l.length
        omega
      have c1dd : Ch (fun _ => False) w w1.drew.drew := c1d.trans' (Ch.drew _)
      refine ⟨_, _, _, M1dd.cell rfl, _, M1dd.cell rfl, _, M1dd.mlen, _, M1dd.cell rfl, ?_⟩
      have hww := wf.len
      have hm2 := wf.most2
      rw [wrap_small (by omega) (by omega)]
      refine Sif_cases (fun g11 => ?_) fun g11 => ⟨⟨hnb, hl1, ?_⟩, c1dd, b1⟩
      · have g11 : (F.length : Int) + (H.length : Int) ≥ A.cf.most := by simpa using g11
        have e1 : A.put (e.as l) = (170, A) := by
          unfold AQ.put
          rw [if_neg hnb, if_neg hl1, if_pos (by omega)]
        rw [e1] at hk
        exact hk w1.drew.drew _ (hQ0.ch c1dd fun _ _ => id) (c1dd.mono fun _ _ h => h.elim) fun b hb => .inl hb
      · have g11 : ¬ (F.length : Int) + (H.length : Int) ≥ A.cf.most := by simpa using g11
        omega
end Go.Proofs.YtipbbjnmpnfhpaaGreatDoor
namespace Go.Proofs.YtipbbjnmpnfhpaaGreatDoor
open Go Go.Sv Go.Heap Go.Qu Go.MapKept
set_option linter.unusedVariables false
set_option maxRecDepth 4000
theorem qstr_run {w : World} {p : Option Addr} {n c : Nat} {l : List UInt8} (h : Rd w p n 1 (bytesV l)) : (convert 32 9 (.slice p n c)).run Tryz.prog w = .ok (.string ⟨l.toArray⟩) w :=
  toString_run Tryz.underlying32 Tryz.underlying5 Tryz.underlying9 h
theorem sameB_ok {w : World} {p q : Option Addr} {n c m d : Nat} {l k : List UInt8} {K : Value → World → Prop} (h1 : Rd w p n 1 (bytesV l)) (h2 : Rd w q m 1 (bytesV k)) (hk : K (.bool (l == k)) w) : callP Tryz.prog 24 [.slice p n c, .slice q m d] w K := by
  refine ok_longshorelaw17_sameBytes ?_
  unfold wp_longshorelaw17_sameBytes
  refine ⟨_, qstr_run h1, _, qstr_run h2, ?_⟩
  rw [ByteArray.toList_eq, ByteArray.toList_eq]
  exact hk
/-- two entries that are alike -/
theorem same_ok {w : World} {a b : En} {l : List UInt8} {K : Value → World → Prop} (h1 : Rd w a.p a.n 1 (bytesV l)) (h2 : Rd w b.p b.n 1 (bytesV l)) (e : a.as l = b.as l) (hk : ∀ w', Ch (fun _ => False) w w' → K (.bool true) w') : callP Tryz.prog 11 [a.val, b.val] w K := by
  refine ok_longshorelaw17_same ?_
  unfold wp_longshorelaw17_same
  refine newB_blk fun w1 b1 c1 z1 => newB_blk fun w2 b2 c2 z2 => ?_
  have b12 : blk w2 w.heap.size = some a.cells := by rw [c2.blk (blk_lt b1) id]; exact b1
  have b2 : blk w2 w1.heap.size = some b.cells := b2
  simp only [add_at, Nat.zero_add, cell_blk b12, cell_blk b2]
  refine ⟨_, _, _, rfl, _, _, _, rfl, sameB_ok (l := l) (k := l) ((h1.ch c1 fun _ _ _ => id).ch c2 fun _ _ _ => id) ((h2.ch c1 fun _ _ _ => id).ch c2 fun _ _ _ => id) ⟨_, rfl, ?_⟩⟩
  rw [beq_self_eq_true]
  simp only [cell_blk b12, cell_blk b2]
  unfold En.as at e
  simp only [PE.mk.injEq] at e
  obtain ⟨e1, e2, e3, e4, e5, e6, _⟩ := e
  refine Sif_true ⟨_, rfl, _, rfl, ?_⟩
  rw [e1, beq_self_eq_true]
  refine Sif_true ⟨_, rfl, _, rfl, ?_⟩
  rw [e2, beq_self_eq_true]
  refine Sif_true ⟨_, rfl, _, rfl, ?_⟩
  rw [e3, beq_self_eq_true]
  refine Sif_true ⟨_, rfl, _, rfl, ?_⟩
  rw [e4, beq_self_eq_true]
  refine Sif_true ⟨_, rfl, _, rfl, ?_⟩
  rw [e5, beq_self_eq_true]
  refine Sif_true ⟨_, rfl, _, rfl, ?_⟩
  rw [e6, beq_self_eq_true]
  exact hk w2 (c1.trans' c2)
end Go.Proofs.YtipbbjnmpnfhpaaGreatDoor
namespace Go.Qu
set_option linter.unusedVariables false
/-- the same entry, at most given back more often, held by another one -/
structure Like (x y : PE) : Prop where
  seq : y.seq = x.seq
  pri : y.pri = x.pri
  exp : y.exp = x.exp
  dur : y.dur = x.dur
  l : y.l = x.l
  cnt : x.cnt ≤ y.cnt
theorem Like.refl (x : PE) : Like x x := ⟨rfl, rfl, rfl, rfl, rfl, Int.le_refl _⟩
/-- nothing but what was there -/
structure Kin (A A' : AQ) : Prop where
  cf : A'.cf = A.cf
  last : A'.last = A.last
  mem : ∀ y ∈ A'.L, ∃ x ∈ A.L, Like x y
theorem Kin.refl (A : AQ) : Kin A A := ⟨rfl, rfl, fun y hy => ⟨y, hy, .refl y⟩⟩
theorem Kin.map {A : AQ} (f : PE → PE) (h : ∀ x ∈ A.L, Like x (f x)) : Kin A { A with L := A.L.map f } := ⟨rfl, rfl, fun y hy => by
  obtain ⟨x, hx, rfl⟩ := List.mem_map.1 hy
  exact ⟨x, hx, h x hx⟩⟩
theorem Kin.filter {A : AQ} (f : PE → Bool) : Kin A { A with L := A.L.filter f } := ⟨rfl, rfl, fun y hy => ⟨y, (List.mem_filter.1 hy).1, .refl y⟩⟩
theorem kin_take (A : AQ) (h : Int) (fit : PE → Bool) : Kin A (A.take h fit).2 ∧ (A.take h fit).2.L.length = A.L.length := by
  unfold AQ.take
  split
  · exact ⟨.refl _, rfl⟩
  · split
    · exact ⟨.refl _, rfl⟩
    · refine ⟨Kin.map _ fun x hx => ?_, List.length_map ..⟩
      split
      · exact ⟨rfl, rfl, rfl, rfl, rfl, Int.le_refl _⟩
      · exact .refl _
theorem delQ_len {L : List PE} (hn : (L.map (·.seq)).Nodup) {x : PE} (hx : x ∈ L) : (delQ x.seq L).length + 1 = L.length := by
  obtain ⟨l1, l2, rfl⟩ := List.append_of_mem hx
  have := (filter_one hn (List.perm_middle (l₁ := l1) (a := x) (l₂ := l2))).length_eq
  simp only [List.length_append, List.length_cons] at *
  omega
theorem kin_back {A : AQ} (W : WQ A) (q h : Int) (f : Bool) : Kin A (A.back q h f).2 ∧ (A.back q h f).2.L.length + (match (A.back q h f).1 with | some (_, true) => 1 | _ => 0) = A.L.length := by
  unfold AQ.back
  split
  · exact ⟨.refl _, rfl⟩
  · rename_i x hx
    obtain ⟨hm, hs⟩ := find_mem hx
    split
    · exact ⟨.refl _, rfl⟩
    · split
      · refine ⟨Kin.filter _, ?_⟩
        rw [← hs]; exact delQ_len W.nd hm
      · refine ⟨Kin.map _ fun y hy => ?_, by simp [setE]⟩
        split
        · rename_i e
          have e2 : y = x := Sv.inj_of_nodup W.nd hy hm e
          subst e2
          refine ⟨rfl, rfl, rfl, rfl, rfl, ?_⟩
          unfold failE
          have := (W.ok y hm).cnt1
          dsimp only
          split <;> omega
        · exact .refl _
theorem kin_remove {A : AQ} (W : WQ A) (q h : Int) : Kin A (A.remove q h).2 ∧ (A.remove q h).2.L.length + (match (A.remove q h).1 with | some _ => 1 | none => 0) = A.L.length := by
  unfold AQ.remove
  split
  · exact ⟨.refl _, rfl⟩
  · rename_i x hx
    obtain ⟨hm, hs⟩ := find_mem hx
    split
    · exact ⟨.refl _, rfl⟩
    · refine ⟨Kin.filter _, ?_⟩
      rw [← hs]; exact delQ_len W.nd hm
theorem filter_two {α : Type} (f : α → Bool) : ∀ L : List α, (L.filter fun x => !(f x)).length + (L.filter f).length = L.length
  | [] => rfl
  | x :: L => by
    have := filter_two f L
    rw [List.filter_cons, List.filter_cons]
    cases f x <;> simp <;> omega
theorem kin_expire (A : AQ) (now : Int) : Kin A (A.expire now).2 ∧ (A.expire now).2.L.length + (A.expire now).1.length = A.L.length := by
  refine ⟨Kin.filter _, ?_⟩
  have h1 : (A.expire now).1.length = (A.L.filter fun e => isFree e && over now e).length := by
    show ((ordered A.L).filter isFree |>.filter (over now)).length = _
    rw [List.filter_filter, ((ordered_perm A.L).filter _).length_eq]
    congr 1
    refine List.filter_congr fun x _ => ?_
    rw [Bool.and_comm]
  rw [h1]
  exact filter_two (fun e => isFree e && over now e) A.L
theorem asked_app {fit : PE → Bool} : ∀ {P S : List PE}, (∀ x ∈ P, fit x = false) → asked fit (P ++ S) = P ++ asked fit S
  | [], S, _ => rfl
  | x :: P, S, h => by
    rw [List.cons_append, asked, if_neg (by rw [h x (by simp)]; simp), asked_app fun y hy => h y (List.mem_cons_of_mem _ hy)]; rfl
theorem find_app {fit : PE → Bool} {P S : List PE} (h : ∀ x ∈ P, fit x = false) : (P ++ S).find? fit = S.find? fit := by
  rw [List.find?_append, List.find?_eq_none.2 fun x hx => by rw [h x hx]; simp]; rfl
end Go.Qu
