/-
  The queue's entries, as they are read; their order. The queue's heap: Len, Less over a row of entries. The queue's heap behind its interface: its methods. The queue's heap: up. The queue's heap: down. The queue's heap: an entry behind the interface. The queue's heap: Pop.
-/
import Derived.Test.YtipbbjnmpnfhpaaGreatDoorPr3
namespace Go.Proofs.YtipbbjnmpnfhpaaGreatDoor
open Go Go.Sv
set_option linter.unusedVariables false
set_option maxRecDepth 4000

/-- an entry -/
structure En where
  seq : Int
  pri : Int
  exp : Int
  dur : Bool
  cnt : Int
  hold : Int
  p : Option Addr
  n : Nat
  c : Nat
def En.cells (e : En) : List Value := [.int .i64 e.seq, .int .i64 e.pri, .int .i64 e.exp, .bool e.dur, .int .i64 e.cnt, .int .i64 e.hold, .slice e.p e.n e.c]
theorem En.cells_len (e : En) : e.cells.length = 7 := rfl
def En.val (e : En) : Value := .agg #[.int .i64 e.seq, .int .i64 e.pri, .int .i64 e.exp, .bool e.dur, .int .i64 e.cnt, .int .i64 e.hold, .slice e.p e.n e.c]
/-- ahead of -/
def En.lt (a b : En) : Bool := decide (b.pri < a.pri) || (decide (a.pri = b.pri) && decide (a.seq < b.seq))
theorem En.ord : Heap.Ord En.lt := by
  refine ⟨fun a b c h1 h2 => ?_, fun a b h => ?_⟩
  · unfold En.lt at *
    simp only [Bool.or_eq_false_iff, Bool.and_eq_false_iff, decide_eq_false_iff_not] at *
    omega
  · unfold En.lt at *
    simp only [Bool.or_eq_true, Bool.and_eq_true, decide_eq_true_eq, Bool.or_eq_false_iff, Bool.and_eq_false_iff, decide_eq_false_iff_not] at *
    omega
theorem En.irr (a : En) : a.lt a = false := by unfold En.lt; simp
def cmpI (x y : Int) : Int := if x < y then -1 else if x > y then 1 else 0
def ordE (a b : En) : Int := if cmpI b.pri a.pri ≠ 0 then cmpI b.pri a.pri else cmpI a.seq b.seq
theorem ordE_lt (a b : En) : decide (ordE a b < 0) = a.lt b := by
  unfold ordE cmpI En.lt
  rw [Bool.eq_iff_iff]
  simp only [decide_eq_true_eq, Bool.or_eq_true, Bool.and_eq_true]
  repeat' split
  all_goals omega
theorem isNaN_ok {x : Int} {w : World} {K : Value → World → Prop} (hk : K (.bool false) w) : callP Tryz.prog 92 [.int .i64 x] w K := by
  refine ok_cmp_isNaN ?_
  unfold wp_cmp_isNaN
  rw [show (x != x) = false by simp]
  exact hk
theorem compare_ok {x y : Int} {w : World} {K : Value → World → Prop} (hk : K (.int .i64 (cmpI x y)) w) : callP Tryz.prog 57 [.int .i64 x, .int .i64 y] w K := by
  refine ok_cmp_Compare ?_
  unfold wp_cmp_Compare
  refine isNaN_ok ⟨_, rfl, isNaN_ok ⟨_, rfl, Sif_false (Sif_false ?_)⟩⟩
  unfold cmpI at hk
  refine Sif_cases (fun h => ?_) fun h => Sif_cases (fun h2 => ?_) fun h2 => ?_
  · have h : x < y := by simpa using h
    rw [if_pos h] at hk; exact hk
  · have h : ¬ x < y := by simpa using h
    have h2 : x > y := by simpa using h2
    rw [if_neg h, if_pos h2] at hk; exact hk
  · have h : ¬ x < y := by simpa using h
    have h2 : ¬ x > y := by simpa using h2
    rw [if_neg h, if_neg h2] at hk; exact hk
theorem or_ok {w : World} {b : Nat} {x y : Int} {K : Value → World → Prop} (hb : blk w b = some [.int .i64 x, .int .i64 y]) (hk : K (.int .i64 (if x ≠ 0 then x else y)) w) : callP Tryz.prog 56 [.slice (some ⟨b, 0, none⟩) 2 2] w K := by
  refine ok_cmp_Or ?_
  unfold wp_cmp_Or
  refine ⟨fun m i w' => ∃ j : Nat, i = (j : Int) ∧ j ≤ 2 ∧ m = 2 - j ∧ w' = w ∧ (0 < j → x = 0) ∧ (1 < j → y = 0), ⟨2, 0, rfl, by omega, rfl, rfl, by omega, by omega⟩, ?_⟩
  rintro m i w1 ⟨j, rfl, hj, rfl, rfl, h0, h1⟩
  refine Sif_cases (fun hlt => ?_) fun hge => ?_
  · have hlt' : (j : Int) < 2 := by simpa using hlt
    refine ⟨by omega, by omega, ?_⟩
    simp only [nn_some, add_at, Int.toNat_natCast, Nat.mul_one, Nat.zero_add]
    have hc : j = 0 ∨ j = 1 := by omega
    rcases hc with rfl | rfl
    · refine ⟨x, by rw [cell_blk hb]; rfl, Sif_cases (fun h => ?_) fun h => ?_⟩
      · have h : x ≠ 0 := by simpa using h
        rw [if_pos h] at hk; exact hk
      · have h : x = 0 := by simpa using h
        rw [wrap_id (by omega) (by omega)]
        exact ⟨1, by omega, 1, rfl, by omega, rfl, by trivial, fun _ => h, fun h => by omega⟩
    · have hx := h0 (by omega)
      rw [if_neg (by simpa using hx)] at hk
      refine ⟨y, by rw [cell_blk hb]; rfl, Sif_cases (fun h => ?_) fun h => ?_⟩
      · exact hk
      · have h : y = 0 := by simpa using h
        rw [wrap_id (by omega) (by omega)]
        exact ⟨0, by omega, 2, rfl, by omega, rfl, by trivial, fun _ => hx, fun _ => h⟩
  · have hge' : ¬ (j : Int) < 2 := by simpa using hge
    rw [if_neg (by simpa using h0 (by omega)), h1 (by omega)] at hk
    exact hk
theorem order_ok {a b : En} {w : World} {K : Value → World → Prop} (hk : ∀ w', Ch (fun _ => False) w w' → K (.int .i64 (ordE a b)) w') : callP Tryz.prog 29 [a.val, b.val] w K := by
  refine ok_queue_order ?_
  unfold wp_queue_order
  refine newB_blk fun w1 b1 c1 z1 => newB_blk fun w2 b2 c2 z2 => ?_
  have b1' : blk w2 w.heap.size = some a.cells := by rw [c2.blk (blk_lt b1) id]; exact b1
  have e1 : blk w2.drew w.heap.size = some a.cells := by rw [(Ch.drew (S := fun _ => False) w2).blk (blk_lt b1') id]; exact b1'
  have e2 : blk w2.drew w1.heap.size = some b.cells := by rw [(Ch.drew (S := fun _ => False) w2).blk (blk_lt b2) id]; exact b2
  simp only [add_at, Nat.zero_add]
  refine ⟨_, by rw [cell_blk e2]; rfl, _, by rw [cell_blk e1]; rfl, _, by rw [cell_blk e1]; rfl, _, by rw [cell_blk e2]; rfl, ?_⟩
  refine compare_ok ⟨_, rfl, ⟨_, by rw [cell_blk e2]; rfl, rfl⟩, ⟨_, by rw [cell_blk e1]; rfl, rfl⟩, compare_ok ⟨_, rfl, ?_⟩⟩
  refine newB_blk fun w5 b5 c5 z5 => ?_
  refine or_ok b5 ⟨_, rfl, ?_⟩
  exact hk w5 (((c1.trans' c2).trans' (Ch.drew w2)).trans' c5)
end Go.Proofs.YtipbbjnmpnfhpaaGreatDoor
namespace Go.Proofs.YtipbbjnmpnfhpaaGreatDoor
open Go Go.Sv
set_option linter.unusedVariables false
set_option maxRecDepth 4000
theorem flen_ok {w : World} {p : Option Addr} {n c : Nat} {K : Value → World → Prop} (hk : K (.int .i64 (n : Int)) w) : callP Tryz.prog 146 [.slice p n c] w K := by
  refine ok_queue_free_Len ?_
  unfold wp_queue_free_Len
  exact hk
theorem fless_ok {w : World} {p : Option Addr} {n c i j : Nat} {L : List En} {a b : En} {K : Value → World → Prop} (h : Rd w p n 7 (L.flatMap En.cells)) (hl : L.length = n) (hi : L[i]? = some a) (hj : L[j]? = some b)
    (hk : ∀ w', Ch (fun _ => False) w w' → K (.bool (a.lt b)) w') : callP Tryz.prog 147 [.slice p n c, .int .i64 (i : Int), .int .i64 (j : Int)] w K := by
  have hin : i < n := by have := (List.getElem?_eq_some_iff.1 hi).1; omega
  have hjn : j < n := by have := (List.getElem?_eq_some_iff.1 hj).1; omega
  have hd := h.ch (Ch.drew (S := fun _ => False) w) fun _ _ _ => id
  obtain ⟨kb, o, rfl, hc1⟩ := hd.at En.cells_len hi (by decide)
  obtain ⟨kb2, o2, e, hc2⟩ := hd.at En.cells_len hj (by decide)
  cases e
  refine ok_queue_free_Less ?_
  unfold wp_queue_free_Less
  simp only [nn_some, add_at, Int.toNat_natCast]
  refine ⟨by omega, by omega, by omega, by omega, _, hc1 0 _ rfl, _, hc1 1 _ rfl, _, hc1 2 _ rfl, _, hc1 3 _ rfl, _, hc1 4 _ rfl, _, hc1 5 _ rfl, _, _, _, hc1 6 _ rfl, _, hc2 0 _ rfl, _, hc2 1 _ rfl, _, hc2 2 _ rfl, _, hc2 3 _ rfl, _, hc2 4 _ rfl, _, hc2 5 _ rfl, _, _, _, hc2 6 _ rfl, ?_⟩
  refine order_ok (a := a) (b := b) fun w1 c1 => ⟨_, rfl, ?_⟩
  rw [ordE_lt]
  exact hk w1 ((Ch.drew w).trans' c1)
theorem en_st {w : World} {k o n c i j : Nat} {L : List En} {own : Option Nat} {a a' : En} {v : Value} {K : World → Prop} (h : Ow w (some ⟨k, o, none⟩) n c 7 (L.flatMap En.cells) own) (hl : L.length = n) (hi : L[i]? = some a) (hj : j < 7) (he : a'.cells = a.cells.set j v)
    (hk : ∀ w', Ow w' (some ⟨k, o, none⟩) n c 7 ((L.set i a').flatMap En.cells) own → Ch (· = k) w w' → w'.heap.size = w.heap.size → K w') : Sv.st w ⟨k, o + i * 7 + j, none⟩ v K := by
  have hil := (List.getElem?_eq_some_iff.1 hi).1
  obtain ⟨k', o', e, _, hst⟩ := h.st (i := i * 7 + j) (by omega)
  cases e
  rw [Nat.add_assoc]
  refine hst v K fun w' o' c' z' => hk w' ?_ c' z'
  rw [flat_set En.cells_len L i j v hi hj he] at o'
  exact o'
theorem en_put {w : World} {k o n c i : Nat} {L : List En} {own : Option Nat} {a : En} {K : World → Prop} (h : Ow w (some ⟨k, o, none⟩) n c 7 (L.flatMap En.cells) own) (hl : L.length = n) (hi : L[i]? = some a) (x : En)
    (hk : ∀ w', Ow w' (some ⟨k, o, none⟩) n c 7 ((L.set i x).flatMap En.cells) own → Ch (· = k) w w' → w'.heap.size = w.heap.size → K w') :
    Sv.st w ⟨k, o + i * 7 + 0, none⟩ (.int .i64 x.seq) fun w1 => Sv.st w1 ⟨k, o + i * 7 + 1, none⟩ (.int .i64 x.pri) fun w2 => Sv.st w2 ⟨k, o + i * 7 + 2, none⟩ (.int .i64 x.exp) fun w3 => Sv.st w3 ⟨k, o + i * 7 + 3, none⟩ (.bool x.dur) fun w4 =>
      Sv.st w4 ⟨k, o + i * 7 + 4, none⟩ (.int .i64 x.cnt) fun w5 => Sv.st w5 ⟨k, o + i * 7 + 5, none⟩ (.int .i64 x.hold) fun w6 => Sv.st w6 ⟨k, o + i * 7 + 6, none⟩ (.slice x.p x.n x.c) K := by
  have hil := (List.getElem?_eq_some_iff.1 hi).1
  have hget : ∀ y : En, (L.set i y)[i]? = some y := fun y => by rw [List.getElem?_set_self hil]
  have hset : ∀ y z : En, (L.set i y).set i z = L.set i z := fun y z => List.set_set ..
  have hlen : ∀ y : En, (L.set i y).length = n := fun y => by rw [List.length_set]; exact hl
  refine en_st (a' := { a with seq := x.seq }) h hl hi (by decide) rfl fun w1 o1 c1 z1 => ?_
  refine en_st (a' := { a with seq := x.seq, pri := x.pri }) o1 (hlen _) (hget _) (by decide) rfl fun w2 o2 c2 z2 => ?_
  rw [hset] at o2
  refine en_st (a' := { a with seq := x.seq, pri := x.pri, exp := x.exp }) o2 (hlen _) (hget _) (by decide) rfl fun w3 o3 c3 z3 => ?_
  rw [hset] at o3
  refine en_st (a' := { a with seq := x.seq, pri := x.pri, exp := x.exp, dur := x.dur }) o3 (hlen _) (hget _) (by decide) rfl fun w4 o4 c4 z4 => ?_
  rw [hset] at o4
  refine en_st (a' := { a with seq := x.seq, pri := x.pri, exp := x.exp, dur := x.dur, cnt := x.cnt }) o4 (hlen _) (hget _) (by decide) rfl fun w5 o5 c5 z5 => ?_
  rw [hset] at o5
  refine en_st (a' := { a with seq := x.seq, pri := x.pri, exp := x.exp, dur := x.dur, cnt := x.cnt, hold := x.hold }) o5 (hlen _) (hget _) (by decide) rfl fun w6 o6 c6 z6 => ?_
  rw [hset] at o6
  refine en_st (a' := x) o6 (hlen _) (hget _) (by decide) rfl fun w7 o7 c7 z7 => ?_
  rw [hset] at o7
  exact hk w7 o7 ((((((c1.trans' c2).trans' c3).trans' c4).trans' c5).trans' c6).trans' c7) (by omega)
theorem fswap_ok {w : World} {p : Option Addr} {n c i j : Nat} {L : List En} {own : Option Nat} {a b : En} {K : Value → World → Prop} (h : Ow w p n c 7 (L.flatMap En.cells) own) (hl : L.length = n) (hi : L[i]? = some a) (hj : L[j]? = some b)
    (hk : ∀ w', Ow w' p n c 7 (((L.set i b).set j a).flatMap En.cells) own → Ch (fun x => own = some x) w w' → w'.heap.size = w.heap.size → K (.tuple #[]) w') : callP Tryz.prog 148 [.slice p n c, .int .i64 (i : Int), .int .i64 (j : Int)] w K := by
  have hil := (List.getElem?_eq_some_iff.1 hi).1
  have hjl := (List.getElem?_eq_some_iff.1 hj).1
  have hd := h.ch (Ch.drew (S := fun _ => False) w) fun _ _ => id
  obtain ⟨k, o, rfl, rfl, -⟩ := hd.st (i := i * 7) (by omega)
  obtain ⟨kb, ob, e, hc1⟩ := hd.rd.at En.cells_len hi (by decide)
  cases e
  obtain ⟨kb2, o2, e, hc2⟩ := hd.rd.at En.cells_len hj (by decide)
  cases e
  refine ok_queue_free_Swap ?_
  unfold wp_queue_free_Swap
  simp only [nn_some, add_at, Int.toNat_natCast]
  refine ⟨by omega, by omega, by omega, by omega, _, hc2 0 _ rfl, _, hc2 1 _ rfl, _, hc2 2 _ rfl, _, hc2 3 _ rfl, _, hc2 4 _ rfl, _, hc2 5 _ rfl, _, _, _, hc2 6 _ rfl, _, hc1 0 _ rfl, _, hc1 1 _ rfl, _, hc1 2 _ rfl, _, hc1 3 _ rfl, _, hc1 4 _ rfl, _, hc1 5 _ rfl, _, _, _, hc1 6 _ rfl, by omega, by omega, ?_⟩
  refine en_put hd hl hi b fun w7 o7 c7 z7 => ⟨by omega, by omega, ?_⟩
  have hj7 : ∃ y, (L.set i b)[j]? = some y := ⟨_, List.getElem?_eq_getElem (by rw [List.length_set]; exact hjl)⟩
  obtain ⟨y, hy⟩ := hj7
  refine en_put o7 (by rw [List.length_set]; exact hl) hy a fun w14 o14 c14 z14 => ?_
  refine hk w14 o14 (((Ch.drew (S := fun x => some k = some x) w).trans c7 fun x hx e => ?_).trans c14 fun x hx e => ?_) (by rw [z14, z7]; rfl)
  · rw [e]
  · rw [e]
end Go.Proofs.YtipbbjnmpnfhpaaGreatDoor
namespace Go.Proofs.YtipbbjnmpnfhpaaGreatDoor
open Go Go.Sv
set_option linter.unusedVariables false
set_option maxRecDepth 100000
theorem methPush (h : Value) (w : World) : (Go.method (Tryz.prog.types.size + Made.depth) 88 h "Push").run Tryz.prog w = .ok (150, h) w := by kernel_rfl
theorem methPop (h : Value) (w : World) : (Go.method (Tryz.prog.types.size + Made.depth) 88 h "Pop").run Tryz.prog w = .ok (149, h) w := by kernel_rfl
theorem methLen0 (a : Addr) (w : World) : (Go.method (Tryz.prog.types.size + Made.depth) 88 (.pointer (some a)) "Len").run Tryz.prog w = (do let v ← loadVar 64 a; pure (146, v) : Sem _).run Tryz.prog w := by kernel_rfl
theorem methLess0 (a : Addr) (w : World) : (Go.method (Tryz.prog.types.size + Made.depth) 88 (.pointer (some a)) "Less").run Tryz.prog w = (do let v ← loadVar 64 a; pure (147, v) : Sem _).run Tryz.prog w := by kernel_rfl
theorem methSwap0 (a : Addr) (w : World) : (Go.method (Tryz.prog.types.size + Made.depth) 88 (.pointer (some a)) "Swap").run Tryz.prog w = (do let v ← loadVar 64 a; pure (148, v) : Sem _).run Tryz.prog w := by kernel_rfl
theorem load_free {a : Addr} {w : World} {v : Value} (h : w.cell? a = some v) (f : FuncId) : (do let v ← loadVar 64 a; pure (f, v) : Sem _).run Tryz.prog w = .ok (f, v) w := by
  have hag : isAggB Tryz.prog 64 = false := by kernel_rfl
  simp only [loadVar, Sem.run_bind, Sem.run_pure, Result.andThen_ok, run_isAgg Tryz.underlying64, hag, if_false, Bool.false_eq_true, run_load, h]
abbrev fH (a : Addr) : Value := .iface 88 (.pointer (some a))
theorem iLen {a : Addr} {w : World} {p : Option Addr} {n c : Nat} {K : Value → World → Prop} (h : w.cell? a = some (.slice p n c)) (hk : K (.int .i64 (n : Int)) w) : callI Tryz.prog none (fH a) "Len" [] w K :=
  ⟨_, _, _, _, rfl, by rw [methLen0, load_free h], .inl ⟨by kernel_rfl, flen_ok hk⟩⟩
theorem iLess {a : Addr} {w : World} {p : Option Addr} {n c i j : Nat} {L : List En} {x y : En} {K : Value → World → Prop} (h : w.cell? a = some (.slice p n c)) (hr : Rd w p n 7 (L.flatMap En.cells)) (hl : L.length = n) (hi : L[i]? = some x) (hj : L[j]? = some y)
    (hk : ∀ w', Ch (fun _ => False) w w' → K (.bool (x.lt y)) w') : callI Tryz.prog none (fH a) "Less" [.int .i64 (i : Int), .int .i64 (j : Int)] w K :=
  ⟨_, _, _, _, rfl, by rw [methLess0, load_free h], .inl ⟨by kernel_rfl, fless_ok hr hl hi hj hk⟩⟩
theorem iSwap {a : Addr} {w : World} {p : Option Addr} {n c i j : Nat} {L : List En} {own : Option Nat} {x y : En} {K : Value → World → Prop} (h : w.cell? a = some (.slice p n c)) (ho : Ow w p n c 7 (L.flatMap En.cells) own) (hl : L.length = n) (hi : L[i]? = some x) (hj : L[j]? = some y)
    (hk : ∀ w', Ow w' p n c 7 (((L.set i y).set j x).flatMap En.cells) own → Ch (fun b => own = some b) w w' → w'.heap.size = w.heap.size → K (.tuple #[]) w') : callI Tryz.prog none (fH a) "Swap" [.int .i64 (i : Int), .int .i64 (j : Int)] w K :=
  ⟨_, _, _, _, rfl, by rw [methSwap0, load_free h], .inl ⟨by kernel_rfl, fswap_ok ho hl hi hj hk⟩⟩
end Go.Proofs.YtipbbjnmpnfhpaaGreatDoor
namespace Go.Proofs.YtipbbjnmpnfhpaaGreatDoor
open Go Go.Sv Go.Heap
set_option linter.unusedVariables false
set_option maxRecDepth 4000
def En0 : En := ⟨0, 0, 0, false, 0, 0, none, 0, 0⟩
def atE (L : List En) (i : Nat) : En := (L[i]?).getD En0
theorem atE_get {L : List En} {i : Nat} (h : i < L.length) : L[i]? = some (atE L i) := by
  unfold atE; rw [List.getElem?_eq_getElem h]; rfl
theorem atE_sw {L : List En} {i j : Nat} (hi : i < L.length) (hj : j < L.length) : atE ((L.set i (atE L j)).set j (atE L i)) = sw (atE L) i j := by
  funext k
  unfold sw
  by_cases h1 : k = i
  · subst h1
    rw [if_pos rfl]
    by_cases h2 : k = j
    · subst h2
      unfold atE
      rw [List.getElem?_set_self (by simpa using hi)]
      rfl
    · unfold atE
      rw [List.getElem?_set_ne (fun e => h2 e.symm), List.getElem?_set_self hi]
      rfl
  · rw [if_neg h1]
    by_cases h2 : k = j
    · subst h2
      rw [if_pos rfl]
      unfold atE
      rw [List.getElem?_set_self (by simpa using hj)]
      rfl
    · rw [if_neg h2]
      unfold atE
      rw [List.getElem?_set_ne (fun e => h2 e.symm), List.getElem?_set_ne (fun e => h1 e.symm)]
theorem sw_perm {L : List En} {i j : Nat} (hi : i < L.length) (hj : j < L.length) : ((L.set i (atE L j)).set j (atE L i)).Perm L := by
  have e1 : atE L j = L[j] := by unfold atE; rw [List.getElem?_eq_getElem hj]; rfl
  have e2 : atE L i = L[i] := by unfold atE; rw [List.getElem?_eq_getElem hi]; rfl
  rw [e1, e2]
  exact List.set_set_perm hi hj
theorem hup_ok {a : Addr} {w : World} {p : Option Addr} {n c j N : Nat} {L : List En} {own : Option Nat} {K : Value → World → Prop} (hc : ∀ w', Ch (fun b => own = some b) w w' → w'.cell? a = some (.slice p n c)) (ho : Ow w p n c 7 (L.flatMap En.cells) own) (hl : L.length = n) (hn : n ≤ 2 ^ 40) (hN : N ≤ n) (hj : j < N) (hi : UpInv En.lt (atE L) N j)
    (hk : ∀ w' L', L'.Perm L → (∀ k, N ≤ k → atE L' k = atE L k) → HeapFrom En.lt (atE L') N 0 → Ow w' p n c 7 (L'.flatMap En.cells) own → Ch (fun b => own = some b) w w' → K (.tuple #[]) w') : callP Tryz.prog 73 [fH a, .int .i64 (j : Int)] w K := by
  refine ok_heap_up ?_
  unfold wp_heap_up
  refine ⟨fun m i w' => ∃ (t : Nat) (L' : List En), i = (t : Int) ∧ t < N ∧ m = t ∧ L'.Perm L ∧ (∀ k, N ≤ k → atE L' k = atE L k) ∧ UpInv En.lt (atE L') N t ∧ Ow w' p n c 7 (L'.flatMap En.cells) own ∧ Ch (fun b => own = some b) w w', ⟨j, j, L, rfl, hj, rfl, .refl _, fun _ _ => rfl, hi, ho, Ch.refl _ _⟩, ?_⟩
  rintro m i w1 ⟨t, L', rfl, ht, hm, hp, htl, hinv, o1, c1⟩
  have hl' : L'.length = n := by rw [hp.length_eq]; exact hl
  refine ⟨by decide, ?_⟩
  have hq : IntKind.wrap .i64 (Int.tdiv (IntKind.wrap .i64 ((t : Int) - 1)) 2) = ((par t : Nat) : Int) := by
    rw [wrap_id (n := (t : Int) - 1) (by omega) (by omega)]
    unfold par
    by_cases h0 : t = 0
    · subst h0; decide
    · have e : Int.tdiv ((t : Int) - 1) 2 = (((t - 1) / 2 : Nat) : Int) := by
        rw [Int.tdiv_eq_ediv_of_nonneg (by omega)]; omega
      rw [e, wrap_id (by omega) (by omega)]
  rw [hq, nameI_iff]
  have hpt : par t < N := by unfold par; omega
  refine ⟨fun w2 => Ch (fun _ => False) w1 w2 ∧ 0 < t ∧ En.lt (atE L' t) (atE L' (par t)) = true, ?_, Sif_cases (fun hne => ?_) fun hne => ?_⟩
  · rintro w2 ⟨c2, h0, hlt⟩
    have c12 := c1.new c2
    have o2 := o1.ch c2 fun _ _ => id
    refine iSwap (hc w2 c12) o2 hl' (atE_get (by omega)) (atE_get (by omega)) fun w3 o3 c3 z3 => ⟨rfl, par t, by have := par_lt h0; omega, par t, _, rfl, hpt, rfl, (sw_perm (by omega) (by omega)).trans hp, fun k hk => ?_, ?_, o3, c12.trans' c3⟩
    · rw [atE_sw (by omega) (by omega)]
      unfold sw
      rw [if_neg (by omega), if_neg (by omega)]
      exact htl k hk
    rw [atE_sw (by omega) (by omega)]
    exact up_step En.ord hinv h0 ht hlt
  · have hne' : par t ≠ t := fun e => by rw [e] at hne; simp at hne
    have h0 : 0 < t := by
      rcases Nat.eq_zero_or_pos t with h | h
      · subst h; exact absurd rfl hne'
      · exact h
    refine iLess (hc w1 c1) o1.rd hl' (atE_get (by omega)) (atE_get (by omega)) fun w2 c2 => ⟨_, rfl, Sif_cases (fun hb => ?_) fun hb => ?_⟩
    · have hb : En.lt (atE L' t) (atE L' (par t)) = false := by simpa using hb
      exact hk w2 L' hp htl (up_done hinv (.inr hb)) (o1.ch c2 fun _ _ => id) (c1.new c2)
    · have hb : En.lt (atE L' t) (atE L' (par t)) = true := by simpa using hb
      exact ⟨c2, h0, hb⟩
  · have he : par t = t := by
      have : ((par t : Nat) : Int) = (t : Int) := by simpa using hne
      omega
    have h0 : t = 0 := by
      rcases Nat.eq_zero_or_pos t with h | h
      · exact h
      · have := par_lt h; omega
    exact hk w1 L' hp htl (up_done hinv (.inl h0)) o1 c1
end Go.Proofs.YtipbbjnmpnfhpaaGreatDoor
namespace Go.Proofs.YtipbbjnmpnfhpaaGreatDoor
open Go Go.Sv Go.Heap
set_option linter.unusedVariables false
set_option maxRecDepth 4000
theorem hdown_ok {a : Addr} {w : World} {p : Option Addr} {n c i0 N s : Nat} {L : List En} {own : Option Nat} {K : Value → World → Prop} (hc : ∀ w', Ch (fun b => own = some b) w w' → w'.cell? a = some (.slice p n c)) (ho : Ow w p n c 7 (L.flatMap En.cells) own) (hl : L.length = n) (hn : n ≤ 2 ^ 40) (hN : N ≤ n) (hi0 : i0 ≤ n) (hi : DnInv En.lt (atE L) N s i0)
    (hk : ∀ w' L' b, (b = false → L' = L) → (b = true → ∃ c, 0 < c ∧ c < N ∧ par c = i0 ∧ En.lt (atE L c) (atE L i0) = true) → L'.Perm L → (∀ k, N ≤ k → atE L' k = atE L k) → HeapFrom En.lt (atE L') N s → Ow w' p n c 7 (L'.flatMap En.cells) own → Ch (fun b => own = some b) w w' → K (.bool b) w') : callP Tryz.prog 74 [fH a, .int .i64 (i0 : Int), .int .i64 (N : Int)] w K := by
  refine ok_heap_down ?_
  unfold wp_heap_down
  refine ⟨fun i w' => ∃ (t : Nat) (L' : List En), i = (t : Int) ∧ i0 ≤ t ∧ (t = i0 → L' = L) ∧ (i0 < t → ∃ c, 0 < c ∧ c < N ∧ par c = i0 ∧ En.lt (atE L c) (atE L i0) = true) ∧ L'.Perm L ∧ (∀ k, N ≤ k → atE L' k = atE L k) ∧ HeapFrom En.lt (atE L') N s ∧ Ow w' p n c 7 (L'.flatMap En.cells) own ∧ Ch (fun b => own = some b) w w', ?_, ?_⟩
  · rintro i w1 ⟨t, L', rfl, hge, hsame, hmv, hp, htail, hheap, o1, c1⟩
    refine hk w1 L' _ (fun hb => hsame ?_) (fun hb => hmv ?_) hp htail hheap o1 c1
    · have : ¬ (t : Int) > (i0 : Int) := by simpa using hb
      omega
    · have : (t : Int) > (i0 : Int) := by simpa using hb
      omega
  refine ⟨fun m i w' => ∃ (t : Nat) (L' : List En), i = (t : Int) ∧ t ≤ n ∧ m = N - t ∧ i0 ≤ t ∧ (t = i0 → L' = L) ∧ (i0 < t → ∃ c, 0 < c ∧ c < N ∧ par c = i0 ∧ En.lt (atE L c) (atE L i0) = true) ∧ L'.Perm L ∧ (∀ k, N ≤ k → atE L' k = atE L k) ∧ DnInv En.lt (atE L') N s t ∧ Ow w' p n c 7 (L'.flatMap En.cells) own ∧ Ch (fun b => own = some b) w w', ⟨N - i0, i0, L, rfl, hi0, rfl, Nat.le_refl _, fun _ => rfl, fun h => absurd h (Nat.lt_irrefl _), .refl _, fun _ _ => rfl, hi, ho, Ch.refl _ _⟩, ?_⟩
  rintro m i w1 ⟨t, L', rfl, ht, hm, hge, hsame, hmv, hp, htail, hinv, o1, c1⟩
  have hl' : L'.length = n := by rw [hp.length_eq]; exact hl
  rw [wrap_id (n := 2 * (t : Int)) (by omega) (by omega), wrap_id (n := 2 * (t : Int) + 1) (by omega) (by omega), nameI_iff]
  have kid : ∀ c, 0 < c → par c = t → c = 2 * t + 1 ∨ c = 2 * t + 2 := fun c h0 h => by unfold par at h; omega
  have pk1 : par (2 * t + 1) = t := by unfold par; omega
  have pk2 : par (2 * t + 2) = t := by unfold par; omega
  refine ⟨fun w2 => w2 = w1 ∧ 2 * t + 1 < N, ?_, Sif_cases (fun h => Sif_cases (fun h2 => ?_) fun _ => ⟨rfl, ?_⟩) fun h => ?_⟩
  rotate_left
  · have : 2 * (t : Int) + 1 < 0 := by simpa using h2
    omega
  · have : ¬ (2 * (t : Int) + 1 ≥ (N : Int)) := by simpa using h
    omega
  · have h' : 2 * (t : Int) + 1 ≥ (N : Int) := by simpa using h
    refine ⟨t, L', rfl, hge, hsame, hmv, hp, htail, down_done hinv fun c h0 hcn hpc => ?_, o1, c1⟩
    rcases kid c h0 hpc with e | e <;> omega
  rintro w2 ⟨rfl, hlt1⟩
  refine ⟨fun i w3 => ∃ j : Nat, i = (j : Int) ∧ j < N ∧ 0 < j ∧ par j = t ∧ (∀ c, 0 < c → c < N → par c = t → En.lt (atE L' c) (atE L' j) = false) ∧ Ch (fun _ => False) w2 w3, ?_, ?_⟩
  · rintro i w3 ⟨j, rfl, hj, hj0, hpj, hmin, c3⟩
    have c13 := c1.new c3
    have htj : t < j := by rw [← hpj]; exact par_lt hj0
    have o3 := o1.ch c3 fun _ _ => id
    refine iLess (hc w3 c13) o3.rd hl' (atE_get (by omega)) (atE_get (by omega)) fun w4 c4 => ⟨_, rfl, Sif_cases (fun hb => ?_) fun hb => ?_⟩
    · have hb : En.lt (atE L' j) (atE L' t) = false := by simpa using hb
      refine ⟨t, L', rfl, hge, hsame, hmv, hp, htail, down_done hinv fun c h0 hcn hpc => ?_, o3.ch c4 fun _ _ => id, c13.new c4⟩
      exact En.ord.tr _ _ _ hb (hmin c h0 hcn hpc)
    · have hb : En.lt (atE L' j) (atE L' t) = true := by simpa using hb
      have c14 := c13.new c4
      have o4 := o3.ch c4 fun _ _ => id
      refine iSwap (hc w4 c14) o4 hl' (atE_get (by omega)) (atE_get (by omega)) fun w5 o5 c5 z5 => ⟨rfl, N - j, by omega, j, _, rfl, by omega, rfl, by omega, fun e => by omega, (fun _ => ?_), (sw_perm (by omega) (by omega)).trans hp, fun k hk' => ?_, ?_, o5, c14.trans' c5⟩
      · rcases Nat.lt_or_ge i0 t with q | q
        · exact hmv q
        · have q : t = i0 := by omega
          have e := hsame q
          subst q
          exact ⟨j, hj0, hj, hpj, by rw [← e]; exact hb⟩
      · rw [atE_sw (by omega) (by omega)]
        unfold sw
        rw [if_neg (by omega), if_neg (by omega)]
        exact htail k hk'
      · rw [atE_sw (by omega) (by omega)]
        exact down_step En.ord hinv hj0 hj hpj hmin hb
  · rw [wrap_id (n := 2 * (t : Int) + 1 + 1) (by omega) (by omega), nameI_iff]
    have e1 : (2 * (t : Int) + 1) = ((2 * t + 1 : Nat) : Int) := by omega
    have e2 : (2 * (t : Int) + 1 + 1) = ((2 * t + 2 : Nat) : Int) := by omega
    refine Sif_cases (fun h => ?_) fun h => ?_
    · have h' : 2 * (t : Int) + 1 + 1 < (N : Int) := by simpa using h
      rw [e2, e1]
      refine iLess (hc w2 c1) o1.rd hl' (atE_get (by omega)) (atE_get (by omega)) fun w3 c3 => ⟨_, rfl, Sif_cases (fun hb => ?_) fun hb => ?_⟩
      · refine ⟨2 * t + 2, rfl, by omega, by omega, pk2, fun c h0 hcn hpc => ?_, c3⟩
        rcases kid c h0 hpc with e | e
        · rw [e]; exact En.ord.as _ _ hb
        · rw [e]; exact En.irr _
      · have hb : En.lt (atE L' (2 * t + 2)) (atE L' (2 * t + 1)) = false := by simpa using hb
        refine ⟨2 * t + 1, rfl, by omega, by omega, pk1, fun c h0 hcn hpc => ?_, c3⟩
        rcases kid c h0 hpc with e | e
        · rw [e]; exact En.irr _
        · rw [e]; exact hb
    · have h' : ¬ 2 * (t : Int) + 1 + 1 < (N : Int) := by simpa using h
      refine ⟨2 * t + 1, e1, hlt1, by omega, pk1, fun c h0 hcn hpc => ?_, Ch.refl _ _⟩
      rcases kid c h0 hpc with e | e
      · rw [e]; exact En.irr _
      · omega
end Go.Proofs.YtipbbjnmpnfhpaaGreatDoor
namespace Go.Proofs.YtipbbjnmpnfhpaaGreatDoor
open Go Go.Sv Go.Heap
set_option linter.unusedVariables false
set_option maxRecDepth 100000
theorem isEntry (v : Value) (w : World) : (Instr.typeAssert (.iface 34 v) 20 34 false).run Tryz.prog w = .ok v w := by kernel_rfl
theorem entry_info : InfoIs Tryz.prog 34 7 72 (.agg #[.int .i64 0, .int .i64 0, .int .i64 0, .bool false, .int .i64 0, .int .i64 0, .slice none 0 0]) := .of (by kernel_rfl) (by kernel_rfl) (by kernel_rfl)
theorem En.cells_one (e : En) : ∀ v ∈ e.cells, oneV v = true := by
  intro v hv
  simp [En.cells] at hv
  rcases hv with rfl | rfl | rfl | rfl | rfl | rfl | rfl <;> rfl
set_option maxRecDepth 4000 in
theorem fpush_ok {w : World} {qb o n c : Nat} {p : Option Addr} {L : List En} {own : Option Nat} {cs : List Value} {e : En} {K : Value → World → Prop} (hb : blk w qb = some cs) (hcs : cs[o]? = some (.slice p n c)) (hown : own ≠ some qb) (ho : Ow w p n c 7 (L.flatMap En.cells) own) (hl : L.length = n) (hn : n ≤ 2 ^ 40)
    (hk : ∀ w' p' c' own', blk w' qb = some (cs.set o (.slice p' (n + 1) c')) → Ow w' p' (n + 1) c' 7 ((L ++ [e]).flatMap En.cells) own' → (∀ k, own' = some k → own = some k ∨ w.heap.size ≤ k) → Ch (fun b => own = some b ∨ b = qb) w w' → K (.tuple #[]) w') :
    callP Tryz.prog 150 [.pointer (some ⟨qb, o, none⟩), .iface 34 e.val] w K := by
  have hol := (List.getElem?_eq_some_iff.1 hcs).1
  subst hl
  refine ok_queue_free_Push ?_
  unfold wp_queue_free_Push
  simp only [nn_some]
  have hbd : blk w.drew qb = some cs := by rw [(Ch.drew (S := fun _ => False) w).blk (blk_lt hb) id]; exact hb
  have od := ho.ch (Ch.drew (S := fun _ => False) w) fun _ _ => id
  refine ⟨_, _, _, by rw [cell_blk hbd]; exact hcs, _, _, _, _, _, _, _, _, _, isEntry _ _, ?_⟩
  have key := push_ok (P := Tryz.prog) (ty := 64) (te := 34) (g := En.cells) (sz := 7) (bytes := 72) Tryz.underlying64 entry_info rfl En.cells_len En.cells_one od e (by omega) (by omega)
    (K := fun p' n' c' w2 => Sv.st w2 ⟨qb, o, none⟩ (.slice p' n' c') fun w3 => K (.tuple #[]) w3) fun p' c' own' w' o' n' c1 => by
      have b' : blk w' qb = some cs := by rw [c1.blk (blk_lt hbd) hown]; exact hbd
      refine st_blk b' hol fun w3 b3 c3 z3 => ?_
      have el : (L ++ [e]).length = L.length + 1 := by simp
      rw [el] at o' b3
      refine hk w3 p' c' own' b3 (o'.ch c3 fun k hk2 he => ?_) n' (((Ch.drew w).trans c1 fun x hx h => .inl h).trans c3 fun x hx h => .inr h)
      rcases n' k hk2 with h | h
      · exact hown (he ▸ h)
      · have := blk_lt hbd; omega
  refine newB_mono' key fun a w' c h => ⟨⟨_, _, _, ?_, rfl⟩, ?_⟩
  · have b' : blk w' qb = some cs := by rw [c.blk (blk_lt hbd) id]; exact hbd
    rw [cell_blk b']; exact hcs
  · obtain ⟨p5, n7, c5, w3, h1, h2⟩ := h
    exact ⟨p5, n7, c5, w3, h1, h2⟩
theorem atE_app {L : List En} {e : En} {i : Nat} (h : i < L.length) : atE (L ++ [e]) i = atE L i := by
  unfold atE; rw [List.getElem?_append_left h]
set_option maxRecDepth 4000 in
theorem hpush_ok {w : World} {qb o n c : Nat} {p : Option Addr} {L : List En} {own : Option Nat} {cs : List Value} {e : En} {K : Value → World → Prop} (hb : blk w qb = some cs) (hcs : cs[o]? = some (.slice p n c)) (hown : own ≠ some qb) (ho : Ow w p n c 7 (L.flatMap En.cells) own) (hl : L.length = n) (hn : n ≤ 2 ^ 39) (hh : HeapFrom En.lt (atE L) n 0)
    (hk : ∀ w' p' c' own' L', L'.Perm (L ++ [e]) → HeapFrom En.lt (atE L') (n + 1) 0 → blk w' qb = some (cs.set o (.slice p' (n + 1) c')) → Ow w' p' (n + 1) c' 7 (L'.flatMap En.cells) own' → (∀ k, own' = some k → own = some k ∨ w.heap.size ≤ k) → Ch (fun b => own = some b ∨ b = qb) w w' → K (.tuple #[]) w') :
    callP Tryz.prog 47 [fH ⟨qb, o, none⟩, .iface 34 e.val] w K := by
  have hol := (List.getElem?_eq_some_iff.1 hcs).1
  have hqb := blk_lt hb
  refine ok_heap_Push ?_
  unfold wp_heap_Push
  refine ⟨_, _, _, _, rfl, methPush _ _, .inl ⟨by kernel_rfl, ?_⟩⟩
  refine fpush_ok hb hcs hown ho hl (by omega) fun w1 p1 c1 own1 b1 o1 n1 ch1 => ⟨rfl, ?_⟩
  have hown1 : own1 ≠ some qb := fun h => by
    rcases n1 qb h with h | h
    · exact hown h
    · omega
  have hcell : ∀ w', Ch (fun b => own1 = some b) w1 w' → w'.cell? ⟨qb, o, none⟩ = some (.slice p1 (n + 1) c1) := fun w' c => by
    have b' : blk w' qb = some (cs.set o (.slice p1 (n + 1) c1)) := by rw [c.blk (blk_lt b1) hown1]; exact b1
    rw [cell_blk b', List.getElem?_set_self hol]
  refine iLen (hcell w1 (Ch.refl _ _)) ⟨_, rfl, ?_⟩
  have hw : IntKind.wrap .i64 (((n + 1 : Nat) : Int) - 1) = (n : Int) := by rw [wrap_id (by omega) (by omega)]; omega
  rw [hw]
  refine hup_ok (j := n) (N := n + 1) hcell o1 (by simp [hl]) (by omega) (Nat.le_refl _) (by omega) ⟨fun c h0 hcn hne => ?_, fun c h0 hcn hpc _ => ?_⟩ fun w2 L2 hp _ hheap o2 c2 => ⟨rfl, ?_⟩
  · have hpc := par_lt h0
    rw [atE_app (by omega), atE_app (by omega)]
    exact hh c h0 (by omega) (Nat.zero_le _)
  · have := par_lt h0; omega
  · have b2 : blk w2 qb = some (cs.set o (.slice p1 (n + 1) c1)) := by rw [c2.blk (blk_lt b1) hown1]; exact b1
    refine hk w2 p1 c1 own1 L2 hp hheap b2 o2 n1 (ch1.trans c2 fun x hx h => ?_)
    rcases n1 x h with h | h
    · exact .inl h
    · omega
end Go.Proofs.YtipbbjnmpnfhpaaGreatDoor
namespace Go.Proofs.YtipbbjnmpnfhpaaGreatDoor
open Go Go.Sv Go.Heap
set_option linter.unusedVariables false
set_option maxRecDepth 4000
theorem Ow.less {w : World} {p : Option Addr} {m c : Nat} {xs : List Value} {own : Option Nat} (h : Ow w p (m + 1) c 7 xs own) : Ow w p m c 7 (xs.take (m * 7)) own := by
  obtain ⟨h1, h2, h3⟩ := h
  refine ⟨by rw [List.length_take]; omega, by omega, ?_⟩
  rcases h3 with h3 | ⟨k, o, cs, hb, hp, hk, hl, ht⟩
  · exact .inl h3
  · refine .inr ⟨k, o, cs, hb, hp, hk, hl, ?_⟩
    rw [← ht, List.take_take]
    congr 1; omega
theorem take_flat {L : List En} {m : Nat} (h : m ≤ L.length) : (L.flatMap En.cells).take (m * 7) = (L.take m).flatMap En.cells := by
  have e : L.flatMap En.cells = (L.take m).flatMap En.cells ++ (L.drop m).flatMap En.cells := by
    conv => lhs; rw [← List.take_append_drop m L]
    rw [List.flatMap_append]
  have hl : ((L.take m).flatMap En.cells).length = m * 7 := by rw [flat_len En.cells_len, List.length_take]; omega
  rw [e, ← hl, List.take_left]
theorem fpop_ok {w : World} {qb o m c : Nat} {p : Option Addr} {L : List En} {own : Option Nat} {cs : List Value} {e : En} {K : Value → World → Prop} (hb : blk w qb = some cs) (hcs : cs[o]? = some (.slice p (m + 1) c)) (hown : own ≠ some qb) (ho : Ow w p (m + 1) c 7 (L.flatMap En.cells) own) (hl : L.length = m + 1) (hn : m ≤ 2 ^ 40) (he : L[m]? = some e)
    (hk : ∀ w', blk w' qb = some (cs.set o (.slice p m c)) → Ow w' p m c 7 ((L.take m).flatMap En.cells) own → Ch (fun b => own = some b ∨ b = qb) w w' → K (.iface 34 e.val) w') :
    callP Tryz.prog 149 [.pointer (some ⟨qb, o, none⟩)] w K := by
  have hol := (List.getElem?_eq_some_iff.1 hcs).1
  have hqb := blk_lt hb
  obtain ⟨k, ko, rfl, rfl, -⟩ := ho.st (i := m * 7) (by omega)
  obtain ⟨kb, ob, e2, hcell⟩ := ho.rd.at En.cells_len he (by decide)
  cases e2
  have hklt := ho.blt k rfl
  have hkq : k ≠ qb := fun h => hown (by rw [h])
  refine ok_queue_free_Pop ?_
  unfold wp_queue_free_Pop
  simp only [nn_some]
  have hw : IntKind.wrap .i64 (((m + 1 : Nat) : Int) - 1) = (m : Int) := by rw [wrap_id (by omega) (by omega)]; omega
  refine ⟨_, _, _, by rw [cell_blk hb]; exact hcs, ?_⟩
  rw [hw, nameI_iff]
  simp only [nn_some, add_at, Int.toNat_natCast]
  refine ⟨by omega, by omega, _, hcell 0 _ rfl, _, hcell 1 _ rfl, _, hcell 2 _ rfl, _, hcell 3 _ rfl, _, hcell 4 _ rfl, _, hcell 5 _ rfl, _, _, _, hcell 6 _ rfl, ?_⟩
  refine newB_blk fun w1 b1 c1 z1 => ?_
  refine st_blk b1 (by simp) fun w2 b2 c2 z2 => st_blk b2 (by simp) fun w3 b3 c3 z3 => st_blk b3 (by simp) fun w4 b4 c4 z4 => st_blk b4 (by simp) fun w5 b5 c5 z5 => st_blk b5 (by simp) fun w6 b6 c6 z6 => st_blk b6 (by simp) fun w7 b7 c7 z7 => st_blk b7 (by simp) fun w8 b8 c8 z8 => ?_
  have b8 : blk w8 w.heap.size = some e.cells := b8
  have c18 : Ch (fun _ => False) w w8 := c1.trans ((((((c2.trans' c3).trans' c4).trans' c5).trans' c6).trans' c7).trans' c8) fun x hx h => by omega
  have o8 := ho.ch c18 fun _ _ => id
  refine ⟨by omega, by omega, ?_⟩
  refine en_put (x := ⟨0, 0, 0, false, 0, 0, none, 0, 0⟩) o8 hl he fun w15 o15 c15 z15 => ?_
  have hcap := ho.2.1
  have b15 : blk w15 qb = some cs := by rw [c15.blk (by have := c18.size; omega) (fun h => hkq h.symm), c18.blk hqb id]; exact hb
  have bx15 : blk w15 w.heap.size = some e.cells := by rw [c15.blk (blk_lt b8) (fun h => by omega)]; exact b8
  refine ⟨by omega, by omega, ?_⟩
  refine st_blk b15 hol fun w16 b16 c16 z16 => ?_
  have bx16 : blk w16 w.heap.size = some e.cells := by rw [c16.blk (blk_lt bx15) (fun h => by omega)]; exact bx15
  simp only [add_at, Nat.zero_add]
  refine ⟨_, by rw [cell_blk bx16]; rfl, _, by rw [cell_blk bx16]; rfl, _, by rw [cell_blk bx16]; rfl, _, by rw [cell_blk bx16]; rfl, _, by rw [cell_blk bx16]; rfl, _, by rw [cell_blk bx16]; rfl, _, _, _, by rw [cell_blk bx16]; rfl, ?_⟩
  refine hk w16 b16 ?_ (((c18.mono fun _ _ h => h.elim).trans c15 fun x hx h => .inl (by rw [h])).trans c16 fun x hx h => .inr h)
  have o16 := (Ow.less o15).ch c16 fun b hb2 h => by cases hb2; exact hkq h
  rw [take_flat (by rw [List.length_set]; omega), List.take_set_of_le (Nat.le_refl _)] at o16
  exact o16
theorem atE_take {L : List En} {m i : Nat} (h : i < m) : atE (L.take m) i = atE L i := by
  unfold atE; rw [List.getElem?_take, if_pos h]
theorem hpop_ok {w : World} {qb o m c : Nat} {p : Option Addr} {L : List En} {own : Option Nat} {cs : List Value} {K : Value → World → Prop} (hb : blk w qb = some cs) (hcs : cs[o]? = some (.slice p (m + 1) c)) (hown : own ≠ some qb) (ho : Ow w p (m + 1) c 7 (L.flatMap En.cells) own) (hl : L.length = m + 1) (hn : m ≤ 2 ^ 39) (hh : HeapFrom En.lt (atE L) (m + 1) 0)
    (hk : ∀ w' F, (F ++ [atE L 0]).Perm L → F.length = m → HeapFrom En.lt (atE F) m 0 → blk w' qb = some (cs.set o (.slice p m c)) → Ow w' p m c 7 (F.flatMap En.cells) own → Ch (fun b => own = some b ∨ b = qb) w w' → K (tupV [.iface 34 (atE L 0).val]) w') :
    callP Tryz.prog 49 [fH ⟨qb, o, none⟩] w K := by
  have hqb := blk_lt hb
  have hcell : ∀ w', Ch (fun b => own = some b) w w' → w'.cell? ⟨qb, o, none⟩ = some (.slice p (m + 1) c) := fun w' ch => by
    have b' : blk w' qb = some cs := by rw [ch.blk hqb hown]; exact hb
    rw [cell_blk b']; exact hcs
  refine ok_heap_Pop ?_
  unfold wp_heap_Pop
  refine iLen (hcell w (Ch.refl _ _)) ⟨_, rfl, ?_⟩
  have hw : IntKind.wrap .i64 (((m + 1 : Nat) : Int) - 1) = (m : Int) := by rw [wrap_id (by omega) (by omega)]; omega
  rw [hw, nameI_iff]
  refine iSwap (i := 0) (j := m) (hcell w (Ch.refl _ _)) ho hl (atE_get (by omega)) (atE_get (by omega)) fun w1 o1 c1 z1 => ⟨rfl, ?_⟩
  have hsw := atE_sw (L := L) (i := 0) (j := m) (by omega) (by omega)
  have hpm := sw_perm (L := L) (i := 0) (j := m) (by omega) (by omega)
  refine hdown_ok (i0 := 0) (s := 0) (N := m) (fun w' ch => hcell w' (c1.trans' ch)) o1 (by simp [hl]) (by omega) (by omega) (by omega) ⟨Nat.le_refl _, fun c h0 hcn _ hpc => ?_, fun c _ _ _ h => by omega⟩ fun w2 L2 b2 _ _ hp htail hheap o2 c2 => ⟨_, rfl, ?_⟩
  · have h1 := par_lt h0
    rw [hsw]
    unfold sw
    rw [if_neg (by omega), if_neg (by omega), if_neg hpc, if_neg (by omega)]
    exact hh c h0 (by omega) (Nat.zero_le _)
  have hl2 : L2.length = m + 1 := by rw [hp.length_eq, hpm.length_eq]; exact hl
  have hx : atE L2 m = atE L 0 := by
    rw [htail m (Nat.le_refl _), hsw]
    unfold sw
    by_cases h : m = 0
    · rw [if_pos h, h]
    · rw [if_neg h, if_pos rfl]
  have hL2 : L2 = L2.take m ++ [atE L 0] := by
    have h1 : L2[m]? = some (atE L 0) := by rw [← hx]; exact atE_get (by omega)
    obtain ⟨h2, h3⟩ := List.getElem?_eq_some_iff.1 h1
    rw [← h3, ← List.take_succ_eq_append_getElem h2, List.take_of_length_le (by omega)]
  have c02 := c1.trans' c2
  have b2' : blk w2 qb = some cs := by rw [c02.blk hqb hown]; exact hb
  refine ⟨_, _, _, _, rfl, methPop _ _, .inl ⟨by kernel_rfl, ?_⟩⟩
  refine fpop_ok (e := atE L 0) b2' hcs hown o2 hl2 (by omega) (by rw [← hx]; exact atE_get (by omega)) fun w3 b3 o3 c3 => ⟨_, rfl, ?_⟩
  refine hk w3 (L2.take m) (by rw [← hL2]; exact hp.trans hpm) (by rw [List.length_take]; omega) (fun c h0 hcn hs => ?_) b3 o3 ((c02.mono fun _ _ h => .inl h).trans' c3)
  have h1 := par_lt h0
  rw [atE_take hcn, atE_take (by omega)]
  exact hheap c h0 hcn hs
end Go.Proofs.YtipbbjnmpnfhpaaGreatDoor
