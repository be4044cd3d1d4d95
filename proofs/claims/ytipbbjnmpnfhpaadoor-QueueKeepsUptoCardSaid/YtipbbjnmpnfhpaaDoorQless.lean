/-
  The queue's heap: Len, Less over a row of entries.
-/
import Derived.Test.YtipbbjnmpnfhpaaDoorQord
namespace Go.Proofs.YtipbbjnmpnfhpaaDoor
open Go Go.Sv
set_option linter.unusedVariables false
set_option maxRecDepth 4000
theorem flen_ok {w : World} {p : Option Addr} {n c : Nat} {K : Value → World → Prop} (hk : K (.int .i64 (n : Int)) w) : callP Tryd.prog 113 [.slice p n c] w K := by
  refine ok_queue_free_Len ?_
  unfold wp_queue_free_Len
  exact hk
theorem fless_ok {w : World} {p : Option Addr} {n c i j : Nat} {L : List En} {a b : En} {K : Value → World → Prop} (h : Rd w p n 7 (L.flatMap En.cells)) (hl : L.length = n) (hi : L[i]? = some a) (hj : L[j]? = some b)
    (hk : ∀ w', Ch (fun _ => False) w w' → K (.bool (a.lt b)) w') : callP Tryd.prog 114 [.slice p n c, .int .i64 (i : Int), .int .i64 (j : Int)] w K := by
  have hin : i < n := by have := (List.getElem?_eq_some_iff.1 hi).1; omega
  have hjn : j < n := by have := (List.getElem?_eq_some_iff.1 hj).1; omega
  have hd := h.ch (Ch.drew (S := fun _ => False) w) fun _ _ _ => id
  obtain ⟨kb, o, rfl, hc1⟩ := hd.at En.cells_len hi (by decide)
  obtain ⟨kb2, o2, e, hc2⟩ := hd.at En.cells_len hj (by decide)
  cases e
  refine ok_queue_free_Less ?_
  unfold wp_queue_free_Less
  simp only [nn_some, add_at, Int.toNat_natCast]
  refine ⟨by omega, by omega, by omega, by omega, _, hc1 0 _ rfl, _, hc1 1 _ rfl, _, hc1 2 _ rfl, _, hc1 3 _ rfl, _, hc1 4 _ rfl, _, hc1 5 _ rfl, _, _, _, hc1 6 _ rfl, _, hc2 0 _ rfl, _, hc2 1 _ rfl, _, hc2 2 _ rfl, _, hc2 3 _ rfl, _, hc2 4 _ rfl, _, hc2 5 _ rfl, _, _, _, hc2 6 _ rfl, ?_⟩
  refine order_ok (a := a) (b := b) fun w1 c1 => ⟨_, rfl, ?_⟩
  rw [ordE_lt]
  exact hk w1 ((Ch.drew w).trans' c1)
theorem en_st {w : World} {k o n c i j : Nat} {L : List En} {own : Option Nat} {a a' : En} {v : Value} {K : World → Prop} (h : Ow w (some ⟨k, o, none⟩) n c 7 (L.flatMap En.cells) own) (hl : L.length = n) (hi : L[i]? = some a) (hj : j < 7) (he : a'.cells = a.cells.set j v)
    (hk : ∀ w', Ow w' (some ⟨k, o, none⟩) n c 7 ((L.set i a').flatMap En.cells) own → Ch (· = k) w w' → w'.heap.size = w.heap.size → K w') : Sv.st w ⟨k, o + i * 7 + j, none⟩ v K := by
  have hil := (List.getElem?_eq_some_iff.1 hi).1
  obtain ⟨k', o', e, _, hst⟩ := h.st (i := i * 7 + j) (by omega)
  cases e
  rw [Nat.add_assoc]
  refine hst v K fun w' o' c' z' => hk w' ?_ c' z'
  rw [flat_set En.cells_len L i j v hi hj he] at o'
  exact o'
theorem en_put {w : World} {k o n c i : Nat} {L : List En} {own : Option Nat} {a : En} {K : World → Prop} (h : Ow w (some ⟨k, o, none⟩) n c 7 (L.flatMap En.cells) own) (hl : L.length = n) (hi : L[i]? = some a) (x : En)
    (hk : ∀ w', Ow w' (some ⟨k, o, none⟩) n c 7 ((L.set i x).flatMap En.cells) own → Ch (· = k) w w' → w'.heap.size = w.heap.size → K w') :
    Sv.st w ⟨k, o + i * 7 + 0, none⟩ (.int .i64 x.seq) fun w1 => Sv.st w1 ⟨k, o + i * 7 + 1, none⟩ (.int .i64 x.pri) fun w2 => Sv.st w2 ⟨k, o + i * 7 + 2, none⟩ (.int .i64 x.exp) fun w3 => Sv.st w3 ⟨k, o + i * 7 + 3, none⟩ (.bool x.dur) fun w4 =>
      Sv.st w4 ⟨k, o + i * 7 + 4, none⟩ (.int .i64 x.cnt) fun w5 => Sv.st w5 ⟨k, o + i * 7 + 5, none⟩ (.int .i64 x.hold) fun w6 => Sv.st w6 ⟨k, o + i * 7 + 6, none⟩ (.slice x.p x.n x.c) K := by
  have hil := (List.getElem?_eq_some_iff.1 hi).1
  have hget : ∀ y : En, (L.set i y)[i]? = some y := fun y => by rw [List.getElem?_set_self hil]
  have hset : ∀ y z : En, (L.set i y).set i z = L.set i z := fun y z => List.set_set ..
  have hlen : ∀ y : En, (L.set i y).length = n := fun y => by rw [List.length_set]; exact hl
  refine en_st (a' := { a with seq := x.seq }) h hl hi (by decide) rfl fun w1 o1 c1 z1 => ?_
  refine en_st (a' := { a with seq := x.seq, pri := x.pri }) o1 (hlen _) (hget _) (by decide) rfl fun w2 o2 c2 z2 => ?_
  rw [hset] at o2
  refine en_st (a' := { a with seq := x.seq, pri := x.pri, exp := x.exp }) o2 (hlen _) (hget _) (by decide) rfl fun w3 o3 c3 z3 => ?_
  rw [hset] at o3
  refine en_st (a' := { a with seq := x.seq, pri := x.pri, exp := x.exp, dur := x.dur }) o3 (hlen _) (hget _) (by decide) rfl fun w4 o4 c4 z4 => ?_
  rw [hset] at o4
  refine en_st (a' := { a with seq := x.seq, pri := x.pri, exp := x.exp, dur := x.dur, cnt := x.cnt }) o4 (hlen _) (hget _) (by decide) rfl fun w5 o5 c5 z5 => ?_
  rw [hset] at o5
  refine en_st (a' := { a with seq := x.seq, pri := x.pri, exp := x.exp, dur := x.dur, cnt := x.cnt, hold := x.hold }) o5 (hlen _) (hget _) (by decide) rfl fun w6 o6 c6 z6 => ?_
  rw [hset] at o6
  refine en_st (a' := x) o6 (hlen _) (hget _) (by decide) rfl fun w7 o7 c7 z7 => ?_
  rw [hset] at o7
  exact hk w7 o7 ((((((c1.trans' c2).trans' c3).trans' c4).trans' c5).trans' c6).trans' c7) (by omega)
theorem fswap_ok {w : World} {p : Option Addr} {n c i j : Nat} {L : List En} {own : Option Nat} {a b : En} {K : Value → World → Prop} (h : Ow w p n c 7 (L.flatMap En.cells) own) (hl : L.length = n) (hi : L[i]? = some a) (hj : L[j]? = some b)
    (hk : ∀ w', Ow w' p n c 7 (((L.set i b).set j a).flatMap En.cells) own → Ch (fun x => own = some x) w w' → w'.heap.size = w.heap.size → K (.tuple #[]) w') : callP Tryd.prog 115 [.slice p n c, .int .i64 (i : Int), .int .i64 (j : Int)] w K := by
  have hil := (List.getElem?_eq_some_iff.1 hi).1
  have hjl := (List.getElem?_eq_some_iff.1 hj).1
  have hd := h.ch (Ch.drew (S := fun _ => False) w) fun _ _ => id
  obtain ⟨k, o, rfl, rfl, -⟩ := hd.st (i := i * 7) (by omega)
  obtain ⟨kb, ob, e, hc1⟩ := hd.rd.at En.cells_len hi (by decide)
  cases e
  obtain ⟨kb2, o2, e, hc2⟩ := hd.rd.at En.cells_len hj (by decide)
  cases e
  refine ok_queue_free_Swap ?_
  unfold wp_queue_free_Swap
  simp only [nn_some, add_at, Int.toNat_natCast]
  refine ⟨by omega, by omega, by omega, by omega, _, hc2 0 _ rfl, _, hc2 1 _ rfl, _, hc2 2 _ rfl, _, hc2 3 _ rfl, _, hc2 4 _ rfl, _, hc2 5 _ rfl, _, _, _, hc2 6 _ rfl, _, hc1 0 _ rfl, _, hc1 1 _ rfl, _, hc1 2 _ rfl, _, hc1 3 _ rfl, _, hc1 4 _ rfl, _, hc1 5 _ rfl, _, _, _, hc1 6 _ rfl, by omega, by omega, ?_⟩
  refine en_put hd hl hi b fun w7 o7 c7 z7 => ⟨by omega, by omega, ?_⟩
  have hj7 : ∃ y, (L.set i b)[j]? = some y := ⟨_, List.getElem?_eq_getElem (by rw [List.length_set]; exact hjl)⟩
  obtain ⟨y, hy⟩ := hj7
  refine en_put o7 (by rw [List.length_set]; exact hl) hy a fun w14 o14 c14 z14 => ?_
  refine hk w14 o14 (((Ch.drew (S := fun x => some k = some x) w).trans c7 fun x hx e => ?_).trans c14 fun x hx e => ?_) (by rw [z14, z7]; rfl)
  · rw [e]
  · rw [e]
end Go.Proofs.YtipbbjnmpnfhpaaDoor
