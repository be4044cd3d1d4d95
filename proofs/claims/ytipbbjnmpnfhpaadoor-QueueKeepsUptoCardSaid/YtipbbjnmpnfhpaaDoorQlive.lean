/-
  The law's small functions: two entries alike; live.
-/
import Derived.Test.YtipbbjnmpnfhpaaDoorQall
import Derived.Test.YtipbbjnmpnfhpaaDoorQnew
import Derived.Test.YtipbbjnmpnfhpaaDoorQtake
import Derived.Test.YtipbbjnmpnfhpaaDoorQlawWp
namespace Go.Proofs.YtipbbjnmpnfhpaaDoor
open Go Go.Sv Go.Heap Go.Qu Go.MapKept
set_option linter.unusedVariables false
set_option maxRecDepth 4000
/-- a range over a function begins -/
theorem over_start (w : World) (rc : LoopR) : Ch (fun _ => False) w ((w.alloc (.deferred (some []))).alloc (rc .ready none)) ∧ objAt ((w.alloc (.deferred (some []))).alloc (rc .ready none)) w.heap.size = some (.deferred (some [])) ∧
    recAt ((w.alloc (.deferred (some []))).alloc (rc .ready none)) (w.heap.size + 1) rc .ready none ∧ ((w.alloc (.deferred (some []))).alloc (rc .ready none)).heap.size = w.heap.size + 2 := by
  refine ⟨(alloc_ch w _).trans' (alloc_ch _ _), ?_, ?_, by simp⟩
  · exact objAt_ch (alloc_obj w _) (alloc_ch _ _) id
  · have := alloc_obj (w.alloc (.deferred (some []))) (rc .ready none)
    simpa [recAt] using this
theorem isNilF_f {fn : Fn} {a c : Array Value} {K : Bool → Prop} (h : K false) : isNilF (.func fn a c) K := h
theorem qstr_run {w : World} {p : Option Addr} {n c : Nat} {l : List UInt8} (h : Rd w p n 1 (bytesV l)) : (convert 35 9 (.slice p n c)).run Tryd.prog w = .ok (.string ⟨l.toArray⟩) w :=
  toString_run Tryd.underlying35 Tryd.underlying5 Tryd.underlying9 h
theorem sameB_ok {w : World} {p q : Option Addr} {n c m d : Nat} {l k : List UInt8} {K : Value → World → Prop} (h1 : Rd w p n 1 (bytesV l)) (h2 : Rd w q m 1 (bytesV k)) (hk : K (.bool (l == k)) w) : callP Tryd.prog 20 [.slice p n c, .slice q m d] w K := by
  refine ok_longshorelaw17_sameBytes ?_
  unfold wp_longshorelaw17_sameBytes
  refine ⟨_, qstr_run h1, _, qstr_run h2, ?_⟩
  rw [ByteArray.toList_eq, ByteArray.toList_eq]
  exact hk
/-- two entries that are alike -/
theorem same_ok {w : World} {a b : En} {l : List UInt8} {K : Value → World → Prop} (h1 : Rd w a.p a.n 1 (bytesV l)) (h2 : Rd w b.p b.n 1 (bytesV l)) (e : a.as l = b.as l) (hk : ∀ w', Ch (fun _ => False) w w' → K (.bool true) w') : callP Tryd.prog 14 [a.val, b.val] w K := by
  refine ok_longshorelaw17_same ?_
  unfold wp_longshorelaw17_same
  refine newB_blk fun w1 b1 c1 z1 => newB_blk fun w2 b2 c2 z2 => ?_
  have b12 : blk w2 w.heap.size = some a.cells := by rw [c2.blk (blk_lt b1) id]; exact b1
  have b2 : blk w2 w1.heap.size = some b.cells := b2
  simp only [add_at, Nat.zero_add, cell_blk b12, cell_blk b2]
  refine ⟨_, _, _, rfl, _, _, _, rfl, sameB_ok (l := l) (k := l) ((h1.ch c1 fun _ _ _ => id).ch c2 fun _ _ _ => id) ((h2.ch c1 fun _ _ _ => id).ch c2 fun _ _ _ => id) ⟨_, rfl, ?_⟩⟩
  rw [beq_self_eq_true]
  simp only [cell_blk b12, cell_blk b2]
  unfold En.as at e
  simp only [PE.mk.injEq] at e
  obtain ⟨e1, e2, e3, e4, e5, e6, _⟩ := e
  refine Sif_true ⟨_, rfl, _, rfl, ?_⟩
  rw [e1, beq_self_eq_true]
  refine Sif_true ⟨_, rfl, _, rfl, ?_⟩
  rw [e2, beq_self_eq_true]
  refine Sif_true ⟨_, rfl, _, rfl, ?_⟩
  rw [e3, beq_self_eq_true]
  refine Sif_true ⟨_, rfl, _, rfl, ?_⟩
  rw [e4, beq_self_eq_true]
  refine Sif_true ⟨_, rfl, _, rfl, ?_⟩
  rw [e5, beq_self_eq_true]
  refine Sif_true ⟨_, rfl, _, rfl, ?_⟩
  rw [e6, beq_self_eq_true]
  exact hk w2 (c1.trans' c2)
def cQ : Cfg := ⟨⟨#[113]⟩, 2, ⟨#[]⟩, 2, false⟩
def eQ : PE := ⟨5, 4, -1, false, 0, 0, [7]⟩
theorem live_ok {w : World} {K : Value → World → Prop} (hk : ∀ w', Ch (fun _ => False) w w' → K (.bool true) w') : callP Tryd.prog 7 [] w K := by
  refine ok_longshorelaw17_live ?_
  unfold wp_longshorelaw17_live
  refine qnew_ok (c := cQ) (by decide) (by decide) (fun h => absurd h (by decide)) fun _ w1 qb B1 Q1 n1 c1 => ⟨_, rfl, Sif_false ?_⟩
  refine newB_blk fun w2 b2 c2 z2 => ?_
  have Q2 := Q1.ch c2 fun _ _ => id
  have hr : Rd w2 (some ⟨w1.heap.size, 0, none⟩) 1 1 (bytesV [7]) := ⟨rfl, .inr ⟨_, 0, _, rfl, blk_cells b2, by simp, rfl⟩⟩
  have p1 : (AQ.mk cQ [] 0).put eQ = (0, ⟨cQ, [eQ], 5⟩) := rfl
  refine qput_ok (e := ⟨5, 4, -1, false, 0, 0, some ⟨w1.heap.size, 0, none⟩, 1, 1⟩) (l := [7]) Q2 hr (fun a ha _ hb => by cases ha; have := Q1.lt _ hb; simp at this) (by show (1 : Nat) ≤ 2 ^ 46; decide) (by show (5 : Int) ≤ 9223372036854775807; decide) fun w3 B3 Q3 c3 n3 => ⟨_, rfl, ?_⟩
  have Q3 : QK w3 qb ⟨cQ, [eQ], 5⟩ B3 := Q3
  have t1 : (AQ.mk cQ [eQ] 5).take 1 (fun _ => true) = (some { eQ with hold := 1 }, ⟨cQ, [{ eQ with hold := 1 }], 5⟩) := rfl
  refine qtake_ok Q3 (fun h => by rw [t1] at h; cases h) fun y hy x hx w4 B4 Q4 c4 n4 o4 => ⟨_, _, _, _, _, _, _, _, _, _, rfl, ?_⟩
  have Q4 : QK w4 qb ⟨cQ, [{ eQ with hold := 1 }], 5⟩ B4 := Q4
  have hy' : y = { eQ with hold := 1 } := by rw [t1] at hy; cases hy; rfl
  refine newE (e0 := En0) (e := x.e) fun w5 b5 c5 z5 => ?_
  have Q5 := Q4.ch c5 fun _ _ => id
  have k1 : (AQ.mk cQ [{ eQ with hold := 1 }] 5).back 5 1 true = (some ({ eQ with cnt := 1 }, false), ⟨cQ, [{ eQ with cnt := 1 }], 5⟩) := rfl
  refine qback_ok Q5 (fun h => by rw [k1] at h; cases h) fun y2 d hy2 x2 hx2 w6 B6 Q6 c6 n6 o6 => ⟨_, _, _, _, _, _, _, _, _, _, _, rfl, ?_⟩
  have Q6 : QK w6 qb ⟨cQ, [{ eQ with cnt := 1 }], 5⟩ B6 := Q6
  have hy2' : y2 = { eQ with cnt := 1 } ∧ d = false := by rw [k1] at hy2; cases hy2; exact ⟨rfl, rfl⟩
  obtain ⟨rfl, rfl⟩ := hy2'
  subst hy'
  refine newE (e0 := En0) (e := x2.e) fun w7 b7 c7 z7 => ?_
  have Q7 := Q6.ch c7 fun _ _ => id
  refine qlen_ok Q7 ⟨_, _, rfl, ?_⟩
  have Q8 := Q7.ch (Ch.drew (S := fun _ => False) w7) fun _ _ => id
  have b7d : blk w7.drew w6.heap.size = some x2.e.cells := b7
  have hlen1 : (((AQ.mk cQ [{ eQ with cnt := 1 }] 5).L.filter isFree).length : Int) = 1 := rfl
  have hlen2 : (((AQ.mk cQ [{ eQ with cnt := 1 }] 5).L.length : Int) - (((AQ.mk cQ [{ eQ with cnt := 1 }] 5).L.filter isFree).length : Int)) = 0 := rfl
  refine newB_blk fun w9 b9 c9 z9 => ?_
  simp only [add_at, Nat.zero_add]
  refine st_blk b9 (by simp) fun w10 b10 c10 z10 => ?_
  have Q10 := (Q8.ch c9 fun _ _ => id).ch c10 fun b hb h => by have := Q8.lt b hb; omega
  refine ok_queue_Queue_All ?_
  unfold wp_queue_Queue_All
  refine newB_blk fun w11 b11 c11 z11 => ⟨_, rfl, isNilF_f (Sif_false ?_)⟩
  intro l hl rc hrc hy
  have hl : l = w11.heap.size + 1 := by rw [hl]; simp
  obtain ⟨cW, dW, rW, zW⟩ := over_start w11 rc
  subst hl
  generalize (w11.alloc (.deferred (some []))).alloc (rc .ready none) = W at cW dW rW zW
  have Q11 := (Q10.ch c11 fun _ _ => id).ch cW fun _ _ => id
  have hbox : blk W w10.heap.size = some [.pointer (some ⟨qb, 0, none⟩)] := by rw [cW.blk (blk_lt b11) id]; exact b11
  have b10W : blk W w7.drew.heap.size = some [.int .i64 0] := by rw [cW.blk (by have := blk_lt b10; omega) id, c11.blk (blk_lt b10) id]; exact b10
  have s46 := c6.size
  have s34 := c4.size
  have s13 := c3.size
  have hd : w7.drew.heap.size = w7.heap.size := rfl
  have b7W : blk W w6.heap.size = some x2.e.cells := by
    rw [cW.blk (by have := blk_lt b7; omega) id, c11.blk (by have := blk_lt b7; omega) id, c10.blk (by have := blk_lt b7; omega) (by have := blk_lt b7; omega), c9.blk (blk_lt b7d) id]; exact b7d
  have b5W : blk W w4.heap.size = some x.e.cells := by
    have h6 : blk w6 w4.heap.size = some x.e.cells := by rw [c6.blk (blk_lt b5) fun hb => by have := Q4.lt _ hb; omega]; exact b5
    have h7 : blk w7.drew w4.heap.size = some x.e.cells := by rw [(Ch.drew (S := fun _ => False) w7).blk (by have := blk_lt h6; omega) id, c7.blk (blk_lt h6) id]; exact h6
    rw [cW.blk (by have := blk_lt h7; omega) id, c11.blk (by have := blk_lt h7; omega) id, c10.blk (by have := blk_lt h7; omega) (by have := blk_lt h6; omega), c9.blk (blk_lt h7) id]; exact h7
  have c0W : Ch (fun _ => False) w W := by
    refine (((((((((c1.trans' c2).trans c3 fun b hb h => ?_).trans c4 fun b hb h => ?_).trans' c5).trans c6 fun b hb h => ?_).trans' c7).trans' (Ch.drew w7)).trans' c9).trans c10 fun b hb h => ?_).trans' (c11.trans' cW)
    · have := n1 b h; omega
    · rcases n3 b h with h | h
      · have := n1 b h; omega
      · have := c1.size; have := c2.size; omega
    · rcases n4 b h with h | h
      · rcases n3 b h with h | h
        · have := n1 b h; omega
        · have := c1.size; have := c2.size; omega
      · have := c1.size; have := c2.size; have := c3.size; omega
    · have := c1.size; have := c2.size; have := c3.size; omega
  have s11 : w7.drew.heap.size + 1 < w11.heap.size := by omega
  have s04 : w.heap.size ≤ w4.heap.size := by have := c1.size; have := c2.size; omega
  have s6 : w6.heap.size < w7.drew.heap.size := by omega
  have s45 : w4.heap.size < w6.heap.size := by omega
  refine ⟨by kernel_rfl, ?_⟩
  refine qall_ok hbox Q11 fun w12 S p c own hS C12 => ?_
  have hord : ordered [{ eQ with cnt := 1 }] = [{ eQ with cnt := 1 }] := rfl
  rw [hord] at hS
  obtain ⟨z, hzS, hz⟩ : ∃ z, S = [z] ∧ z.pe = { eQ with cnt := 1 } := by
    cases S with
    | nil => simp at hS
    | cons z S =>
      simp only [List.map_cons, List.cons.injEq, List.map_eq_nil_iff] at hS
      exact ⟨z, by rw [hS.2], hS.1⟩
  subst hzS
  have hzq : z.e.seq = 5 := by
    have : z.pe.seq = 5 := by rw [hz]; rfl
    exact this
  have big : ∀ b ∈ own.toList ++ eB [z], W.heap.size ≤ b := C12.new
  refine ⟨fun i v => ∃ m : Int, (i = 0 → m = 0) ∧ (i = 1 → m = 5) ∧ recAt v (w11.heap.size + 1) rc .ready none ∧ objAt v w11.heap.size = some (.deferred (some [])) ∧ blk v w7.drew.heap.size = some [.int .i64 m] ∧ blk v w6.heap.size = some x2.e.cells ∧ blk v w4.heap.size = some x.e.cells ∧ Rd v p 1 7 (([z].map (·.e)).flatMap En.cells) ∧ Ch (fun _ => False) w v,
    ⟨0, fun _ => rfl, fun h => by omega, rW.ch C12.ch id, objAt_ch dW C12.ch id, by rw [C12.ch.blk (blk_lt b10W) id]; exact b10W, by rw [C12.ch.blk (blk_lt b7W) id]; exact b7W, by rw [C12.ch.blk (blk_lt b5W) id]; exact b5W, C12.row.rd, c0W.trans' C12.ch⟩, ?_, ?_, ?_, ?_⟩
  · rintro i v v' ⟨m, h0, h1, hr, hd, hn, h7, h5, hrow, hc⟩ c
    exact ⟨m, h0, h1, hr.ch c id, objAt_ch hd c id, by rw [c.blk (blk_lt hn) id]; exact hn, by rw [c.blk (blk_lt h7) id]; exact h7, by rw [c.blk (blk_lt h5) id]; exact h5, hrow.ch c fun _ _ _ => id, hc.trans' c⟩
  · rintro i v ⟨m, h0, h1, hr, hd, hn, h7, h5, hrow, hc⟩
    exact hrow
  · rintro i y v hi ⟨m, h0, h1, hr, hdf, hn, h7, h5, hrow, hc⟩
    have hi0 : i = 0 ∧ z = y := by
      cases i with
      | zero => exact ⟨rfl, by simpa using hi⟩
      | succ i => simp at hi
    obtain ⟨rfl, rfl⟩ := hi0
    have hm := h0 rfl
    subst hm
    refine hy _ _ _ _ _ _ _ _ _ v _ hr ?_
    refine newE (e0 := En0) (e := z.e) fun v1 x1 e1 y1 => ⟨hr.ch e1 id, ?_⟩
    have r1 := hr.ch e1 id
    have e2 := putObj_ch v1 (w11.heap.size + 1) (rc .busy none)
    have r2 := r1.put (s' := .busy) (j' := none)
    generalize v1.putObj (w11.heap.size + 1) (rc .busy none) = v2 at e2 r2 ⊢
    have lv := objAt_lt hr
    have hn1 : blk v1 w7.drew.heap.size = some [.int .i64 0] := by rw [e1.blk (blk_lt hn) id]; exact hn
    have hn2 : blk v2 w7.drew.heap.size = some [.int .i64 0] := by rw [e2.blk (blk_lt hn1) (by omega)]; exact hn1
    have x2' : blk v2 v.heap.size = some z.e.cells := by rw [e2.blk (blk_lt x1) (by omega)]; exact x1
    simp only [add_at, Nat.zero_add]
    refine ⟨_, by rw [cell_blk hn2]; rfl, _, by rw [cell_blk x2']; rfl, ?_⟩
    refine st_blk hn2 (by simp) fun v3 x3 e3 y3 => ⟨r2.ch e3 (by omega), .inl ⟨by trivial, ?_⟩⟩
    have e4 := putObj_ch v3 (w11.heap.size + 1) (rc .ready none)
    have r4 := (r2.ch e3 (by omega)).put (s' := .ready) (j' := none)
    generalize v3.putObj (w11.heap.size + 1) (rc .ready none) = v4 at e4 r4 ⊢
    have s1 := e1.size
    have s2 := e2.size
    have s3 := e3.size
    have kp : ∀ b cs, b ≠ w11.heap.size + 1 → b ≠ w7.drew.heap.size → blk v b = some cs → blk v4 b = some cs := fun b cs hb hb2 h => by
      have hlt := blk_lt h
      rw [e4.blk (by omega) hb, e3.blk (by omega) hb2, e2.blk (by omega) hb, e1.blk hlt id]; exact h
    have e04 : Ch (fun b => b = w11.heap.size + 1 ∨ b = w7.drew.heap.size) v v4 := (((e1.mono fun _ _ h => h.elim).trans' (e2.mono fun b _ h => .inl h)).trans' (e3.mono fun b _ h => .inr h)).trans' (e4.mono fun b _ h => .inl h)
    refine ⟨5, (fun h => by omega), (fun _ => rfl), r4, objAt_ch hdf e04 (by omega), ?_, kp _ _ (by have := blk_lt b7W; have := blk_lt b7; omega) (by omega) h7, kp _ _ (by have := blk_lt b5; omega) (by have := blk_lt b5; omega) h5, hrow.ch e04 fun a ha h0 hb => ?_, hc.trans e04 fun b hb h => by omega⟩
    · have hlt := blk_lt x3
      rw [e4.blk hlt (by omega)]
      have : ([.int .i64 0] : List Value).set 0 (.int .i64 (IntKind.wrap .i64 (0 + z.e.seq))) = [.int .i64 5] := by
        rw [hzq]; rfl
      rw [this] at x3
      exact x3
    · obtain ⟨_, g2, g3⟩ := C12.row
      have g2 : 1 ≤ c := g2
      rcases g3 with ⟨_, g3⟩ | ⟨k, o, cs, e5, e6, _⟩
      · omega
      · rw [e6] at ha; cases ha
        have := big k (by simp [e5, Option.mem_toList])
        have hb : k = w11.heap.size + 1 ∨ k = w7.drew.heap.size := hb
        omega
  · rintro v ⟨m, h0, h1, hr, hdf, hn, h7, h5, hrow, hc⟩
    have hm := h1 rfl
    subst hm
    refine .inl ⟨hr, ?_⟩
    have e2 := putObj_ch v (w11.heap.size + 1) (rc .exhausted none)
    generalize v.putObj (w11.heap.size + 1) (rc .exhausted none) = v2 at e2 ⊢
    have hdf2 := objAt_ch hdf e2 (by omega)
    have hn2 : blk v2 w7.drew.heap.size = some [.int .i64 5] := by rw [e2.blk (blk_lt hn) (by omega)]; exact hn
    have h72 : blk v2 w6.heap.size = some x2.e.cells := by rw [e2.blk (blk_lt h7) (by have := blk_lt b7; omega)]; exact h7
    have h52 : blk v2 w4.heap.size = some x.e.cells := by rw [e2.blk (blk_lt h5) (by have := blk_lt b5; omega)]; exact h5
    have hxh : x.e.hold = 1 := by
      have : x.pe.hold = 1 := by rw [hx]
      exact this
    have hxc : x2.e.cnt = 1 := by
      have : x2.pe.cnt = 1 := by rw [hx2]
      exact this
    have hxn : x2.e.n = 1 := by
      have h9 := EtE.len o6.ok
      have : x2.pe.l.length = 1 := by rw [hx2]; rfl
      rw [← h9]; exact this
    simp only [cell_blk h72, cell_blk h52, cell_blk hn2]
    refine Sif_true (Sif_true ⟨_, rfl, ?_⟩)
    rw [hxh]
    refine Sif_true (Sif_true (Sif_true ⟨_, rfl, ?_⟩))
    rw [hxc]
    refine Sif_true ⟨_, _, _, rfl, ?_⟩
    rw [hxn]
    refine Sif_true (Sif_true (Sif_true ⟨_, rfl, ?_⟩))
    exact takeM_of hdf2 fun v3 e3 y3 => hk v3 ((hc.trans e2 fun b hb h => by omega).trans e3 fun b hb h => by omega)
end Go.Proofs.YtipbbjnmpnfhpaaDoor
