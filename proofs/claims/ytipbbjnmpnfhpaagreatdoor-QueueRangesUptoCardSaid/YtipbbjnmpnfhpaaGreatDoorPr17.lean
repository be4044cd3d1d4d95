/-
  A book of bytes that came out (longshoreref03.ByteBook): Take, Owned. Owned: each list is written full, all are grown, each reads as it was written. Owned holds of every book. The law's book: all that was kept stands, and is its owner's. The law's search: what the program's queue has answered. The law's search: Take and Peek. The law's step: a call at both queues. QueueNumbers, QueueMakes: the walks; the document's New. QueuePlays: two queues in turns, any calls: the walk.
-/
import Derived.Test.YtipbbjnmpnfhpaaGreatDoorPr16
namespace Go.Sv
open Go
theorem wrap_u8 {n : Int} (h1 : 0 ≤ n) : IntKind.wrap .u8 n = n % 256 := by
  unfold IntKind.wrap
  simp [IntKind.bits, IntKind.signed]
theorem take_set_succ {α : Type} {l : List α} {i : Nat} {v : α} (h : i < l.length) : (l.set i v).take (i + 1) = l.take i ++ [v] := by
  rw [List.take_add_one, List.take_set_of_le (Nat.le_refl _), List.getElem?_set_self h]; rfl
end Go.Sv
namespace Go.Proofs.YtipbbjnmpnfhpaaGreatDoor
open Go Go.Sv Go.MapKept
set_option linter.unusedVariables false
set_option maxRecDepth 4000

theorem boct_info : InfoIs Tryz.prog 5 1 1 (.int .u8 0) := .of (by kernel_rfl) (by kernel_rfl) (by kernel_rfl)
/-- a list of bytes that is its owner's -/
structure BL where
  p : Option Addr
  n : Nat
  c : Nat
  own : Option Nat
def BL.cells (x : BL) : List Value := [.slice x.p x.n x.c]
theorem BL.cells_len (o : BL) : o.cells.length = 1 := rfl
theorem BL.cells_one (o : BL) : ∀ v ∈ o.cells, oneV v = true := by intro v hv; simp [BL.cells] at hv; subst hv; rfl
def bowns (T : List BL) : List Nat := T.flatMap fun x => x.own.toList
structure BookR (w : World) (a : Nat) (T : List BL) (p : Option Addr) (c : Nat) (tb : Option Nat) : Prop where
  head : blk w a = some [.slice p T.length c]
  row : Ow w p T.length c 1 (T.flatMap BL.cells) tb
  each : ∀ x ∈ T, ∃ l : List UInt8, Ow w x.p x.n x.c 1 (bytesV l) x.own
  nodup : (a :: (tb.toList ++ bowns T)).Nodup
theorem lists_info : InfoIs Tryz.prog 32 1 24 (.slice none 0 0) := .of (by kernel_rfl) (by kernel_rfl) (by kernel_rfl)
theorem BookR.lt {w : World} {a : Nat} {T : List BL} {p : Option Addr} {c : Nat} {tb : Option Nat} (B : BookR w a T p c tb) : ∀ b ∈ a :: (tb.toList ++ bowns T), b < w.heap.size := by
  intro b hb
  rcases List.mem_cons.1 hb with rfl | hb
  · exact blk_lt B.head
  · rcases List.mem_append.1 hb with hb | hb
    · exact B.row.blt b (by simpa using hb)
    · obtain ⟨x, hx, hxb⟩ := List.mem_flatMap.1 hb
      obtain ⟨l, hl⟩ := B.each x hx
      exact hl.blt b (by simpa using hxb)
theorem BookR.ch {S : Nat → Prop} {w w' : World} {a : Nat} {T : List BL} {p : Option Addr} {c : Nat} {tb : Option Nat} (B : BookR w a T p c tb) (hc : Ch S w w') (hn : ∀ b ∈ a :: (tb.toList ++ bowns T), ¬ S b) : BookR w' a T p c tb := by
  refine ⟨by rw [hc.blk (blk_lt B.head) (hn a (by simp))]; exact B.head, B.row.ch hc fun k hk => hn k (by simp [hk]), fun x hx => ?_, B.nodup⟩
  obtain ⟨l, hl⟩ := B.each x hx
  exact ⟨l, hl.ch hc fun k hk => hn k (List.mem_cons_of_mem _ (List.mem_append.2 (.inr (List.mem_flatMap.2 ⟨x, hx, by simp [hk]⟩))))⟩
theorem book_new {w : World} {a : Nat} (h : blk w a = some [.slice none 0 0]) : BookR w a [] none 0 none := ⟨h, Ow.nil, by simp, by simp [bowns]⟩
theorem take_ok {w : World} {a : Nat} {T : List BL} {p : Option Addr} {c : Nat} {tb : Option Nat} {x : BL} {l : List UInt8} {K : Value → World → Prop} (B : BookR w a T p c tb) (hlen : T.length < 2 ^ 42) (hx : Ow w x.p x.n x.c 1 (bytesV l) x.own)
    (hn : ∀ k, x.own = some k → k ∉ a :: (tb.toList ++ bowns T))
    (hk : ∀ p' c' tb' w', BookR w' a (T ++ [x]) p' c' tb' → Ch (fun k => k = a ∨ tb = some k) w w' → (∀ k, tb' = some k → tb = some k ∨ w.heap.size ≤ k) → K (.tuple #[]) w') :
    callP Tryz.prog 43 [.pointer (some ⟨a, 0, none⟩), .slice x.p x.n x.c] w K := by
  refine ok_longshoreref03_ByteBook_Take ?_
  unfold wp_longshoreref03_ByteBook_Take
  simp only [nn_some, add_at, Nat.zero_add]
  refine ⟨_, _, _, by rw [cell_blk B.head]; rfl, ?_⟩
  have hlt := B.lt
  have hnd := B.nodup
  obtain ⟨na, nr⟩ := List.nodup_cons.1 hnd
  refine push_ok (g := BL.cells) Tryz.underlying84 lists_info rfl BL.cells_len BL.cells_one B.row x (by omega) (by omega) fun p' c' b' w' o' n' c1 => ?_
  have hta : ∀ k, tb = some k → k ≠ a := fun k hk e => na (by rw [← e, hk]; simp)
  have B1h : blk w' a = some [.slice p T.length c] := by rw [c1.blk (blk_lt B.head) fun e => na (by rw [e]; simp)]; exact B.head
  refine st_blk B1h (by simp) fun w2 b2 c2 z2 => ?_
  have hba : ∀ k, b' = some k → k ≠ a := fun k hk e => by
    rcases n' k hk with h | h
    · exact hta k h e
    · have := hlt a (by simp); omega
  have hown : ∀ y ∈ T, ∀ k, y.own = some k → k ∈ bowns T := fun y hy k hk => List.mem_flatMap.2 ⟨y, hy, by simp [hk]⟩
  have hsep : ∀ k ∈ bowns T, tb ≠ some k ∧ k ≠ a := fun k hk => by
    refine ⟨fun e => ?_, fun e => na (by rw [← e]; exact List.mem_append.2 (.inr hk))⟩
    exact (List.nodup_append.1 nr).2.2 k (by simp [e]) k hk rfl
  have hsepx : ∀ k, x.own = some k → tb ≠ some k ∧ k ≠ a := fun k hk => by
    have := hn k hk
    simp only [List.mem_cons, List.mem_append, not_or] at this
    exact ⟨fun e => this.2.1 (by simp [e]), this.1⟩
  refine hk p' c' b' w2 ⟨?_, o'.ch c2 hba, fun y hy => ?_, ?_⟩ ((c1.mono fun k _ h => .inr h).trans' (c2.mono fun k _ h => .inl h)) n'
  · rw [b2]; rfl
  · rcases List.mem_append.1 hy with hy | hy
    · obtain ⟨l', hl'⟩ := B.each y hy
      exact ⟨l', (hl'.ch c1 fun k hk => (hsep k (hown y hy k hk)).1).ch c2 fun k hk => (hsep k (hown y hy k hk)).2⟩
    · simp only [List.mem_singleton] at hy
      subst hy
      exact ⟨l, (hx.ch c1 fun k hk => (hsepx k hk).1).ch c2 fun k hk => (hsepx k hk).2⟩
  · have e : bowns (T ++ [x]) = bowns T ++ x.own.toList := by simp [bowns]
    rw [e]
    have hxlt : ∀ k, x.own = some k → k < w.heap.size := hx.blt
    have hT : (bowns T ++ x.own.toList).Nodup := by
      refine List.nodup_append.2 ⟨(List.nodup_append.1 nr).2.1, by cases x.own <;> simp, fun u hu v hv e => ?_⟩
      subst e
      exact hn u (by simpa using hv) (List.mem_cons_of_mem _ (List.mem_append.2 (.inr hu)))
    refine List.nodup_cons.2 ⟨fun h => ?_, List.nodup_append.2 ⟨by cases b' <;> simp, hT, fun u hu v hv e => ?_⟩⟩
    · rcases List.mem_append.1 h with h | h
      · exact hba a (by simpa using h) rfl
      · rcases List.mem_append.1 h with h | h
        · exact na (List.mem_append.2 (.inr h))
        · exact (hsepx a (by simpa using h)).2 rfl
    · subst e
      have hv' : u ∈ bowns T ∨ x.own = some u := (List.mem_append.1 hv).imp id fun h => by simpa using h
      rcases n' u (by simpa using hu) with h | h
      · rcases hv' with h2 | h2
        · exact (hsep u h2).1 h
        · exact (hsepx u h2).1 h
      · rcases hv' with h2 | h2
        · have := hlt u (List.mem_cons_of_mem _ (List.mem_append.2 (.inr h2))); omega
        · have := hxlt u h2; omega

/-! ### Owned -/
/-- the i-th mark, so many of them -/
def mk (i n : Nat) : List UInt8 := (List.range n).map fun k => UInt8.ofNat (i + k / 251)
@[simp] theorem mk_len (i n : Nat) : (mk i n).length = n := by simp [mk]
theorem mk_take {i n m : Nat} (h : m ≤ n) : (mk i n).take m = mk i m := by
  unfold mk; rw [← List.map_take, List.take_range, Nat.min_eq_left h]
theorem mk_succ (i n : Nat) : mk i (n + 1) = mk i n ++ [UInt8.ofNat (i + n / 251)] := by simp [mk, List.range_succ]
theorem mkV_succ (i n : Nat) : bytesV (mk i (n + 1)) = bytesV (mk i n) ++ [.int .u8 (((i + n / 251) % 256 : Nat) : Int)] := by rw [mk_succ, bytesV_append]; simp [bytesV]
theorem mkV_at {i n k : Nat} (h : k < n) : (bytesV (mk i n))[k]? = some (.int .u8 (((i + k / 251) % 256 : Nat) : Int)) := by
  unfold bytesV mk
  rw [List.getElem?_map, List.getElem?_map, List.getElem?_range h]; simp
theorem mark_val {i k : Nat} (h1 : i ≤ 2 ^ 60) (h2 : k ≤ 2 ^ 60) : IntKind.wrap .u8 (IntKind.wrap .i64 ((i : Int) + IntKind.wrap .i64 (Int.tdiv (k : Int) 251))) = (((i + k / 251) % 256 : Nat) : Int) := by
  have e : Int.tdiv (k : Int) 251 = ((k / 251 : Nat) : Int) := by rw [Int.tdiv_eq_ediv_of_nonneg (by omega)]; rfl
  rw [e, wrap_id (n := ((k / 251 : Nat) : Int)) (by omega) (by omega), wrap_id (by omega) (by omega), wrap_u8 (by omega)]
  omega
theorem marked_ok {w : World} {p : Option Addr} {n c i : Nat} {K : Value → World → Prop} (h : Rd w p n 1 (bytesV (mk i n))) (hi : i ≤ 2 ^ 60) (hn : n ≤ 2 ^ 60) (hk : K (.bool true) w) : callP Tryz.prog 72 [.slice p n c, .int .i64 (i : Int)] w K := by
  refine ok_longshoreref03_marked ?_
  unfold wp_longshoreref03_marked
  refine ⟨fun m k w' => ∃ j : Nat, k = j ∧ j ≤ n ∧ m = n - j ∧ w' = w, ⟨n, 0, rfl, by omega, by omega, rfl⟩, ?_⟩
  rintro m k w1 ⟨j, rfl, hj, rfl, rfl⟩
  refine Sif_cases (fun g => ?_) fun g => hk
  have hlt : j < n := by have := of_decide_eq_true g; omega
  obtain ⟨b, o, rfl, hc⟩ := h.cell (i := j) (by omega)
  rw [mkV_at hlt] at hc
  simp only [nn_some, add_at, Nat.mul_one, Int.toNat_natCast]
  refine ⟨by omega, by omega, _, hc, by omega, ?_⟩
  rw [mark_val hi (by omega), show (((((i + j / 251) % 256 : Nat) : Int)) != (((i + j / 251) % 256 : Nat) : Int)) = false by simp]
  refine Sif_false ?_
  rw [nameI_iff, wrap_id (by omega) (by omega)]
  exact ⟨n - (j + 1), by omega, j + 1, by simp, by omega, rfl, by trivial⟩
/-- a slice that was put aside, that reads as the i-th marks, in a block where nothing is done any more -/
def Aside (w : World) (busy : Nat → Prop) (i : Nat) (p : Option Addr) (n : Nat) : Prop := n ≤ 2 ^ 60 ∧ Rd w p n 1 (bytesV (mk i n)) ∧ ∀ a, p = some a → n ≠ 0 → a.block < w.heap.size ∧ ¬ busy a.block
theorem Aside.ch {S busy busy' : Nat → Prop} {w w' : World} {i n : Nat} {p : Option Addr} (h : Aside w busy i p n) (hc : Ch S w w') (hS : ∀ b, b < w.heap.size → S b → busy b) (hb : ∀ b, b < w.heap.size → busy' b → busy b) : Aside w' busy' i p n :=
  ⟨h.1, h.2.1.ch hc fun a ha h0 hs => (h.2.2 a ha (by omega)).2 (hS _ (h.2.2 a ha (by omega)).1 hs), fun a ha h0 => ⟨Nat.lt_of_lt_of_le (h.2.2 a ha h0).1 hc.size, fun hh => (h.2.2 a ha h0).2 (hb _ (h.2.2 a ha h0).1 hh)⟩⟩
end Go.Proofs.YtipbbjnmpnfhpaaGreatDoor
namespace Go.Proofs.YtipbbjnmpnfhpaaGreatDoor
open Go Go.Sv Go.MapKept
set_option linter.unusedVariables false
set_option maxRecDepth 10000

theorem own_ne {T : List BL} (h : (bowns T).Nodup) {i j : Nat} {x y : BL} (hi : T[i]? = some x) (hj : T[j]? = some y) (hne : i ≠ j) : ∀ k, x.own = some k → y.own ≠ some k := by
  induction T generalizing i j with
  | nil => simp at hi
  | cons z T ih =>
    have h' : (z.own.toList ++ bowns T).Nodup := h
    obtain ⟨n1, n2, n3⟩ := List.nodup_append.1 h'
    intro k hk hk2
    cases i with
    | zero =>
      cases j with
      | zero => exact hne rfl
      | succ j =>
        simp only [List.getElem?_cons_zero, Option.some.injEq] at hi
        subst hi
        exact n3 k (by simp [hk]) k (List.mem_flatMap.2 ⟨y, List.mem_of_getElem? hj, by simp [hk2]⟩) rfl
    | succ i =>
      cases j with
      | zero =>
        simp only [List.getElem?_cons_zero, Option.some.injEq] at hj
        subst hj
        exact n3 k (by simp [hk2]) k (List.mem_flatMap.2 ⟨x, List.mem_of_getElem? hi, by simp [hk]⟩) rfl
      | succ j => exact ih n2 hi hj (fun e => hne (by omega)) k hk hk2
/-- what is done to a book's lists when they are grown: at list i, whose slice is now (q, m), in block ob; gb: the block of what is put aside -/
structure Grow (w0 w : World) (a : Nat) (T : List BL) (tp : Option Addr) (tc : Nat) (tb : Option Nat) (i : Nat) (q : Option Addr) (m cc : Nat) (ob : Option Nat) (gp : Option Addr) (gc : Nat) (gb : Option Nat) (G : List BL) : Prop where
  head : blk w a = some [.slice tp T.length tc]
  row : Ow w tp T.length tc 1 (T.flatMap BL.cells) tb
  cur : Ow w q m cc 1 (bytesV (mk i m)) ob
  rest : ∀ j x, T[j]? = some x → i < j → Ow w x.p x.n x.c 1 (bytesV (mk j x.n)) x.own
  curN : ∀ k, ob = some k → k ≠ a ∧ tb ≠ some k ∧ gb ≠ some k ∧ ∀ j x, T[j]? = some x → i < j → x.own ≠ some k
  grown : Ow w gp G.length gc 1 (G.flatMap BL.cells) gb
  gbN : ∀ k, gb = some k → w0.heap.size ≤ k
  past : ∀ j x, T[j]? = some x → j ≤ i → Aside w (fun b => b = a ∨ tb = some b ∨ gb = some b ∨ ob = some b ∨ ∃ j x, T[j]? = some x ∧ i < j ∧ x.own = some b) j x.p x.n ∨ (j = i ∧ x.p = q ∧ x.n ≤ m)
  put : ∀ t g, G[t]? = some g → Aside w (fun b => b = a ∨ tb = some b ∨ gb = some b ∨ ob = some b ∨ ∃ j x, T[j]? = some x ∧ i < j ∧ x.own = some b) (t / 5) g.p g.n ∨ (t / 5 = i ∧ g.p = q ∧ g.n ≤ m)
  ch : Ch (fun b => b ∈ bowns T) w0 w
/-- .. between two lists -/
structure Grows (w0 w : World) (a : Nat) (T : List BL) (tp : Option Addr) (tc : Nat) (tb : Option Nat) (i : Nat) (gp : Option Addr) (gc : Nat) (gb : Option Nat) (G : List BL) : Prop where
  head : blk w a = some [.slice tp T.length tc]
  row : Ow w tp T.length tc 1 (T.flatMap BL.cells) tb
  rest : ∀ j x, T[j]? = some x → i ≤ j → Ow w x.p x.n x.c 1 (bytesV (mk j x.n)) x.own
  grown : Ow w gp G.length gc 1 (G.flatMap BL.cells) gb
  gbN : ∀ k, gb = some k → w0.heap.size ≤ k
  past : ∀ j x, T[j]? = some x → j < i → Aside w (fun b => b = a ∨ tb = some b ∨ gb = some b ∨ ∃ j x, T[j]? = some x ∧ i ≤ j ∧ x.own = some b) j x.p x.n
  put : ∀ t g, G[t]? = some g → Aside w (fun b => b = a ∨ tb = some b ∨ gb = some b ∨ ∃ j x, T[j]? = some x ∧ i ≤ j ∧ x.own = some b) (t / 5) g.p g.n
  ch : Ch (fun b => b ∈ bowns T) w0 w
/-- what stands in a book -/
structure BookN (w0 : World) (a : Nat) (T : List BL) (tb : Option Nat) : Prop where
  nd : (a :: (tb.toList ++ bowns T)).Nodup
  lt : ∀ b ∈ a :: (tb.toList ++ bowns T), b < w0.heap.size
  small : ∀ x ∈ T, x.n ≤ 2 ^ 46
  len : T.length ≤ 2 ^ 40
theorem BookN.own {w0 : World} {a : Nat} {T : List BL} {tb : Option Nat} (N : BookN w0 a T tb) {j : Nat} {x : BL} (hx : T[j]? = some x) {k : Nat} (hk : x.own = some k) : k ∈ bowns T ∧ k ≠ a ∧ tb ≠ some k ∧ k < w0.heap.size := by
  have h1 : k ∈ bowns T := List.mem_flatMap.2 ⟨x, List.mem_of_getElem? hx, by simp [hk]⟩
  obtain ⟨n1, n2⟩ := List.nodup_cons.1 N.nd
  refine ⟨h1, fun e => n1 (by rw [← e]; exact List.mem_append.2 (.inr h1)), fun e => ?_, N.lt k (List.mem_cons_of_mem _ (List.mem_append.2 (.inr h1)))⟩
  exact (List.nodup_append.1 n2).2.2 k (by simp [e]) k h1 rfl
theorem BookN.bn {w0 : World} {a : Nat} {T : List BL} {tb : Option Nat} (N : BookN w0 a T tb) : (bowns T).Nodup := (List.nodup_append.1 (List.nodup_cons.1 N.nd).2).2.1
theorem BookN.ta {w0 : World} {a : Nat} {T : List BL} {tb : Option Nat} (N : BookN w0 a T tb) : ∀ k, tb = some k → k ≠ a ∧ k < w0.heap.size ∧ k ∉ bowns T := fun k hk => by
  obtain ⟨n1, n2⟩ := List.nodup_cons.1 N.nd
  exact ⟨fun e => n1 (by rw [← e, hk]; simp), N.lt k (by simp [hk]), fun h => (List.nodup_append.1 n2).2.2 k (by simp [hk]) k h rfl⟩
theorem BookN.al {w0 : World} {a : Nat} {T : List BL} {tb : Option Nat} (N : BookN w0 a T tb) : a < w0.heap.size ∧ a ∉ bowns T := ⟨N.lt a (by simp), fun h => (List.nodup_cons.1 N.nd).1 (List.mem_append.2 (.inr h))⟩
/-- a list is taken in hand -/
theorem Grows.start {w0 w : World} {a : Nat} {T : List BL} {tp : Option Addr} {tc : Nat} {tb : Option Nat} {i : Nat} {gp : Option Addr} {gc : Nat} {gb : Option Nat} {G : List BL} (N : BookN w0 a T tb) (H : Grows w0 w a T tp tc tb i gp gc gb G) {x : BL} (hx : T[i]? = some x) :
    Grow w0 w a T tp tc tb i x.p x.n x.c x.own gp gc gb G := by
  have busy : ∀ b, (b = a ∨ tb = some b ∨ gb = some b ∨ x.own = some b ∨ ∃ j x, T[j]? = some x ∧ i < j ∧ x.own = some b) → (b = a ∨ tb = some b ∨ gb = some b ∨ ∃ j x, T[j]? = some x ∧ i ≤ j ∧ x.own = some b) := by
    rintro b (h | h | h | h | ⟨j, y, h1, h2, h3⟩)
    · exact .inl h
    · exact .inr (.inl h)
    · exact .inr (.inr (.inl h))
    · exact .inr (.inr (.inr ⟨i, x, hx, Nat.le_refl _, h⟩))
    · exact .inr (.inr (.inr ⟨j, y, h1, by omega, h3⟩))
  refine ⟨H.head, H.row, H.rest i x hx (Nat.le_refl _), fun j y hy hj => H.rest j y hy (by omega), fun k hk => ?_, H.grown, H.gbN, fun j y hy hj => ?_, fun t g hg => .inl ?_, H.ch⟩
  · have h1 := N.own hx hk
    refine ⟨h1.2.1, h1.2.2.1, fun e => by have := H.gbN k e; omega, fun j y hy hj => own_ne N.bn hx hy (by omega) k hk⟩
  · by_cases h : j = i
    · subst h
      rw [hx] at hy; cases hy
      exact .inr ⟨rfl, rfl, Nat.le_refl _⟩
    · exact .inl ((H.past j y hy (by omega)).ch (Ch.refl (fun _ => False) w) (fun _ _ h => h.elim) fun b _ hb => busy b hb)
  · exact (H.put t g hg).ch (Ch.refl (fun _ => False) w) (fun _ _ h => h.elim) fun b _ hb => busy b hb
/-- what was in hand is put aside -/
theorem Grow.aside {w0 w : World} {a : Nat} {T : List BL} {tp : Option Addr} {tc : Nat} {tb : Option Nat} {i : Nat} {q : Option Addr} {m cc : Nat} {ob : Option Nat} {gp : Option Addr} {gc : Nat} {gb : Option Nat} {G : List BL}
    (H : Grow w0 w a T tp tc tb i q m cc ob gp gc gb G) (hm : m ≤ 2 ^ 60) {n : Nat} (hn : n ≤ m) {busy : Nat → Prop} (hb : ∀ k, ob = some k → ¬ busy k) : Aside w busy i q n := by
  refine ⟨by omega, ?_, fun b hb' h0 => ?_⟩
  · have := Rd.take H.cur.rd hn
    rw [Nat.mul_one, ← bytesV_take, mk_take hn] at this; exact this
  · obtain ⟨h1, h2, h3⟩ := H.cur
    rcases h3 with ⟨_, h3⟩ | ⟨k, o, cs, hk, hp, hcs, _⟩
    · omega
    · rw [hp] at hb'; cases hb'
      exact ⟨blk_lt hcs, hb k hk⟩
theorem Grow.stop {w0 w : World} {a : Nat} {T : List BL} {tp : Option Addr} {tc : Nat} {tb : Option Nat} {i : Nat} {q : Option Addr} {m cc : Nat} {ob : Option Nat} {gp : Option Addr} {gc : Nat} {gb : Option Nat} {G : List BL}
    (H : Grow w0 w a T tp tc tb i q m cc ob gp gc gb G) (hm : m ≤ 2 ^ 60) : Grows w0 w a T tp tc tb (i + 1) gp gc gb G := by
  have nb : ∀ k, ob = some k → ¬ (k = a ∨ tb = some k ∨ gb = some k ∨ ∃ j x, T[j]? = some x ∧ i + 1 ≤ j ∧ x.own = some k) := by
    rintro k hk (h | h | h | ⟨j, y, h1, h2, h3⟩)
    · exact (H.curN k hk).1 h
    · exact (H.curN k hk).2.1 h
    · exact (H.curN k hk).2.2.1 h
    · exact (H.curN k hk).2.2.2 j y h1 (by omega) h3
  have busy : ∀ b, (b = a ∨ tb = some b ∨ gb = some b ∨ ∃ j x, T[j]? = some x ∧ i + 1 ≤ j ∧ x.own = some b) → (b = a ∨ tb = some b ∨ gb = some b ∨ ob = some b ∨ ∃ j x, T[j]? = some x ∧ i < j ∧ x.own = some b) := by
    rintro b (h | h | h | ⟨j, y, h1, h2, h3⟩)
    · exact .inl h
    · exact .inr (.inl h)
    · exact .inr (.inr (.inl h))
    · exact .inr (.inr (.inr (.inr ⟨j, y, h1, by omega, h3⟩)))
  refine ⟨H.head, H.row, fun j x hx hj => H.rest j x hx (by omega), H.grown, H.gbN, fun j x hx hj => ?_, fun t g hg => ?_, H.ch⟩
  · rcases H.past j x hx (by omega) with h | ⟨rfl, h1, h2⟩
    · exact h.ch (Ch.refl (fun _ => False) w) (fun _ _ h => h.elim) fun b _ hb => busy b hb
    · rw [h1]; exact H.aside hm h2 nb
  · rcases H.put t g hg with h | ⟨h0, h1, h2⟩
    · exact h.ch (Ch.refl (fun _ => False) w) (fun _ _ h => h.elim) fun b _ hb => busy b hb
    · rw [h0, h1]; exact H.aside hm h2 nb
/-- one byte more -/
theorem Grow.byte {te : TypeId} {w0 w : World} {a : Nat} {T : List BL} {tp : Option Addr} {tc : Nat} {tb : Option Nat} {i : Nat} {q : Option Addr} {m cc : Nat} {ob : Option Nat} {gp : Option Addr} {gc : Nat} {gb : Option Nat} {G : List BL}
    (N : BookN w0 a T tb) (H : Grow w0 w a T tp tc tb i q m cc ob gp gc gb G) (hi : i ≤ 2 ^ 60) (hm : m < 2 ^ 47) (hobs : ∀ k, ob = some k → k ∈ bowns T ∨ w0.heap.size ≤ k) {K : Option Addr → Nat → Nat → World → Prop}
    (hk : ∀ q' cc' ob' w', Grow w0 w' a T tp tc tb i q' (m + 1) cc' ob' gp gc gb G → (∀ k, ob' = some k → k ∈ bowns T ∨ w0.heap.size ≤ k) → K q' (m + 1) cc' w') :
    newB w [.int .u8 (IntKind.wrap .u8 (IntKind.wrap .i64 ((i : Int) + IntKind.wrap .i64 (Int.tdiv (m : Int) 251))))] te fun a4 w4 => ∃ p7 n10 c7 w5, Sem.run Tryz.prog (Builtin.append_ #[32, 32] 32 #[.slice q m cc, .slice (some a4) 1 1]) w4 = .ok (.slice p7 n10 c7) w5 ∧ K p7 n10 c7 w5 := by
  rw [mark_val hi (by omega)]
  refine newB_blk fun w4 b4 c4 z4 => ?_
  have hrd : Rd w4 (some ⟨w.heap.size, 0, none⟩) 1 1 [.int .u8 (((i + m / 251) % 256 : Nat) : Int)] := ⟨rfl, .inr ⟨_, 0, _, rfl, blk_cells b4, by simp, rfl⟩⟩
  obtain ⟨p', c', w', b', r1, r2, r3⟩ := append_rd2 (ty := 32) (c2 := 1) Tryz.underlying32 Tryz.underlying32 boct_info rfl (H.cur.ch c4 fun _ _ => id) hrd (by simp [oneV]) (by omega) (by omega)
  rw [← mkV_succ] at r2
  refine ⟨p', _, c', w', r1, hk p' c' b' w' ?_ ?_⟩
  rotate_left
  · intro k hk
    rcases r3 with ⟨rfl, _, _⟩ | ⟨rfl, _, _⟩
    · exact hobs k hk
    · cases hk; have := H.ch.size; have := c4.size; exact .inr (by omega)
  have hlt : ∀ (j : Nat) (x : BL), T[j]? = some x → ∀ k, x.own = some k → k < w.heap.size := fun j x hx k hk => by have := (N.own hx hk).2.2.2; have := H.ch.size; omega
  have hal : a < w.heap.size := by have := N.al.1; have := H.ch.size; omega
  have htl : ∀ k, tb = some k → k < w.heap.size := H.row.blt
  have hgl : ∀ k, gb = some k → k < w.heap.size := H.grown.blt
  have hol : ∀ k, ob = some k → k < w.heap.size := H.cur.blt
  -- whatever happened, only what was in hand has changed
  have hch : Ch (fun k => ob = some k) w w' := by
    rcases r3 with ⟨_, _, h⟩ | ⟨_, _, h⟩
    · exact (c4.mono fun _ _ h => h.elim).trans' h
    · exact ((c4.new h).mono fun _ _ h => h.elim)
  have hb' : ∀ k, b' = some k → ob = some k ∨ w.heap.size ≤ k := fun k hk => by
    rcases r3 with ⟨rfl, _, _⟩ | ⟨rfl, _, _⟩
    · exact .inl hk
    · cases hk; exact .inr (by omega)
  have busy : ∀ b, b < w.heap.size → (b = a ∨ tb = some b ∨ gb = some b ∨ b' = some b ∨ ∃ j x, T[j]? = some x ∧ i < j ∧ x.own = some b) → (b = a ∨ tb = some b ∨ gb = some b ∨ ob = some b ∨ ∃ j x, T[j]? = some x ∧ i < j ∧ x.own = some b) := by
    rintro b hbl (h | h | h | h | h)
    · exact .inl h
    · exact .inr (.inl h)
    · exact .inr (.inr (.inl h))
    · rcases hb' b h with h | h
      · exact .inr (.inr (.inr (.inl h)))
      · omega
    · exact .inr (.inr (.inr (.inr h)))
  -- what was put aside earlier in the same row
  have same : ∀ n (p : Option Addr), p = q → n ≤ m → Aside w' (fun b => b = a ∨ tb = some b ∨ gb = some b ∨ b' = some b ∨ ∃ j x, T[j]? = some x ∧ i < j ∧ x.own = some b) i p n ∨ (p = p' ∧ n ≤ m + 1) := by
    rintro n p rfl hn
    rcases r3 with ⟨_, rfl, _⟩ | ⟨rfl, _, h⟩
    · exact .inr ⟨rfl, by omega⟩
    · refine .inl ((H.aside (busy := fun b => False) (by omega) hn fun _ _ => id).ch (c4.new h) (fun _ _ h => h) (fun _ _ h => h) |> fun A => ⟨A.1, A.2.1, fun b hb h0 => ⟨(A.2.2 b hb h0).1, ?_⟩⟩)
      have hq := (H.aside (busy := fun b => False) (by omega) hn fun _ _ => id).2.2 b hb h0
      have hbob : ob = some b.block := by
        obtain ⟨h1, h2, h3⟩ := H.cur
        rcases h3 with ⟨_, h3⟩ | ⟨k, o, cs, hk, hp, _⟩
        · omega
        · rw [hp] at hb; cases hb; exact hk
      rintro (h | h | h | h | ⟨j, y, h1, h2, h3⟩)
      · exact (H.curN _ hbob).1 h
      · exact (H.curN _ hbob).2.1 h
      · exact (H.curN _ hbob).2.2.1 h
      · have := Option.some.inj h; omega
      · exact (H.curN _ hbob).2.2.2 j y h1 h2 h3
  refine ⟨by rw [hch.blk hal fun e => (H.curN a e).1 rfl]; exact H.head, H.row.ch hch fun k hk e => (H.curN k e).2.1 hk, r2, fun j x hx hj => (H.rest j x hx hj).ch hch fun k hk e => (H.curN k e).2.2.2 j x hx hj hk, fun k hk => ?_,
    H.grown.ch hch fun k hk e => (H.curN k e).2.2.1 hk, H.gbN, fun j x hx hj => ?_, fun t g hg => ?_, ?_⟩
  · rcases hb' k hk with h | h
    · exact H.curN k h
    · exact ⟨by omega, fun e => by have := htl k e; omega, fun e => by have := hgl k e; omega, fun j y hy _ e => by have := hlt j y hy k e; omega⟩
  · rcases H.past j x hx hj with h | ⟨rfl, h1, h2⟩
    · exact .inl (h.ch hch (fun b _ hb => .inr (.inr (.inr (.inl hb)))) busy)
    · exact (same _ _ h1 h2).imp id fun h => ⟨rfl, h⟩
  · rcases H.put t g hg with h | ⟨h0, h1, h2⟩
    · exact .inl (h.ch hch (fun b _ hb => .inr (.inr (.inr (.inl hb)))) busy)
    · rw [h0]
      exact (same _ _ h1 h2).imp id fun h => ⟨rfl, h⟩
  · exact H.ch.trans hch fun k hk h => (hobs k h).resolve_right (by omega)
/-- it is put aside as it stands -/
theorem Grow.putA {te : TypeId} {w0 w : World} {a : Nat} {T : List BL} {tp : Option Addr} {tc : Nat} {tb : Option Nat} {i : Nat} {q : Option Addr} {m cc : Nat} {ob : Option Nat} {gp : Option Addr} {gc : Nat} {gb : Option Nat} {G : List BL}
    (N : BookN w0 a T tb) (H : Grow w0 w a T tp tc tb i q m cc ob gp gc gb G) (hG : G.length / 5 = i) (hi : i < T.length) {K : Option Addr → Nat → Nat → World → Prop}
    (hk : ∀ gp' gc' gb' w', Grow w0 w' a T tp tc tb i q m cc ob gp' gc' gb' (G ++ [({ p := q, n := m, c := cc, own := none } : BL)]) → K gp' (G ++ [({ p := q, n := m, c := cc, own := none } : BL)]).length gc' w') :
    newB w [.slice q m cc] te fun a4 w4 => ∃ p7 n10 c7 w5, Sem.run Tryz.prog (Builtin.append_ #[84, 84] 84 #[.slice gp G.length gc, .slice (some a4) 1 1]) w4 = .ok (.slice p7 n10 c7) w5 ∧ K p7 n10 c7 w5 := by
  have hlen := N.len
  refine push_ok (g := BL.cells) Tryz.underlying84 lists_info rfl BL.cells_len BL.cells_one H.grown ({ p := q, n := m, c := cc, own := none } : BL) (by omega) (by omega) fun p' c' b' w' o' n' c1 => hk p' c' b' w' ?_
  have hz := H.ch.size
  have hal : a < w.heap.size := by have := N.al.1; omega
  have hlt : ∀ (j : Nat) (x : BL), T[j]? = some x → ∀ k, x.own = some k → k < w0.heap.size := fun j x hx k hk => (N.own hx hk).2.2.2
  have hob' : ∀ k, ob = some k → b' ≠ some k := fun k hk e => by
    rcases n' k e with h | h
    · exact (H.curN k hk).2.2.1 h
    · have := H.cur.blt k hk; omega
  have busy : ∀ b, b < w.heap.size → (b = a ∨ tb = some b ∨ b' = some b ∨ ob = some b ∨ ∃ j x, T[j]? = some x ∧ i < j ∧ x.own = some b) → (b = a ∨ tb = some b ∨ gb = some b ∨ ob = some b ∨ ∃ j x, T[j]? = some x ∧ i < j ∧ x.own = some b) := by
    rintro b hbl (h | h | h | h)
    · exact .inl h
    · exact .inr (.inl h)
    · rcases n' b h with h | h
      · exact .inr (.inr (.inl h))
      · omega
    · exact .inr (.inr (.inr h))
  have hhd : blk w' a = some [.slice tp T.length tc] := by
    rw [c1.blk hal fun e => by have := H.gbN a e; have := N.al.1; omega]; exact H.head
  refine ⟨hhd, H.row.ch c1 fun k hk e => by have := H.gbN k e; have := (N.ta k hk).2.1; omega, H.cur.ch c1 fun k hk e => (H.curN k hk).2.2.1 e,
    fun j x hx hj => (H.rest j x hx hj).ch c1 fun k hk e => by have := H.gbN k e; have := hlt j x hx k hk; omega, fun k hk => ⟨(H.curN k hk).1, (H.curN k hk).2.1, hob' k hk, (H.curN k hk).2.2.2⟩, o', fun k hk => ?_, fun j x hx hj => ?_, fun t g hg => ?_, ?_⟩
  · rcases n' k hk with h | h
    · exact H.gbN k h
    · omega
  · rcases H.past j x hx hj with h | h
    · exact .inl (h.ch c1 (fun b _ hb => .inr (.inr (.inl hb))) busy)
    · exact .inr h
  · by_cases ht : t < G.length
    · rw [List.getElem?_append_left ht] at hg
      rcases H.put t g hg with h | h
      · exact .inl (h.ch c1 (fun b _ hb => .inr (.inr (.inl hb))) busy)
      · exact .inr h
    · have htl := (List.getElem?_eq_some_iff.1 hg).1
      simp only [List.length_append, List.length_cons, List.length_nil] at htl
      have hte : t = G.length := by omega
      subst hte
      rw [List.getElem?_append_right (Nat.le_refl _)] at hg
      simp at hg
      subst hg
      exact .inr ⟨hG, rfl, Nat.le_refl _⟩
  · exact H.ch.trans c1 fun k hk h => by have := H.gbN k h; omega
end Go.Proofs.YtipbbjnmpnfhpaaGreatDoor
namespace Go.Proofs.YtipbbjnmpnfhpaaGreatDoor
open Go Go.Sv Go.MapKept
set_option linter.unusedVariables false
set_option maxRecDepth 10000

theorem BL.at {w : World} {p : Option Addr} {T : List BL} {c : Nat} {b : Option Nat} (h : Ow w p T.length c 1 (T.flatMap BL.cells) b) {i : Nat} {x : BL} (hi : T[i]? = some x) : ∃ k o, p = some ⟨k, o, none⟩ ∧ w.cell? ⟨k, o + i, none⟩ = some (.slice x.p x.n x.c) := by
  obtain ⟨k, o, hp, hc⟩ := Rd.at BL.cells_len h.rd hi (by omega)
  exact ⟨k, o, hp, by have := hc 0 _ rfl; simpa using this⟩
def cntG (k : Nat) : Nat := min k 3 + (if 8 < k then 1 else 0) + (if 19 < k then 1 else 0)
theorem Grow.putB {te : TypeId} {w0 w : World} {a : Nat} {T : List BL} {tp : Option Addr} {tc : Nat} {tb : Option Nat} {i k : Nat} {q : Option Addr} {m cc : Nat} {ob : Option Nat} {gp : Option Addr} {gc : Nat} {gb : Option Nat} {G : List BL}
    (N : BookN w0 a T tb) (H : Grow w0 w a T tp tc tb i q m cc ob gp gc gb G) (hG : G.length = 5 * i + cntG k) (hk5 : cntG k < 5) (hk1 : cntG (k + 1) = cntG k + 1) (hi : i < T.length) {K : Option Addr → Nat → Nat → World → Prop}
    (hk : ∀ gp' gc' gb' w' G', Grow w0 w' a T tp tc tb i q m cc ob gp' gc' gb' G' → G'.length = 5 * i + cntG (k + 1) → K gp' G'.length gc' w') :
    newB w [.slice q m cc] te fun a4 w4 => ∃ p7 n10 c7 w5, Sem.run Tryz.prog (Builtin.append_ #[84, 84] 84 #[.slice gp G.length gc, .slice (some a4) 1 1]) w4 = .ok (.slice p7 n10 c7) w5 ∧ K p7 n10 c7 w5 :=
  H.putA N (by omega) hi fun gp' gc' gb' w' H' => hk gp' gc' gb' w' _ H' (by simp; omega)
set_option maxHeartbeats 4000000 in
theorem owned_ok {w : World} {a : Nat} {T : List BL} {p : Option Addr} {c : Nat} {tb : Option Nat} {K : Value → World → Prop} (B : BookR w a T p c tb) (hsmall : ∀ x ∈ T, x.n ≤ 2 ^ 46) (hlen : T.length ≤ 2 ^ 40)
    (hk : ∀ w', Ch (fun b => b ∈ bowns T) w w' → K (.bool true) w') : callP Tryz.prog 44 [.pointer (some ⟨a, 0, none⟩)] w K := by
  have N : BookN w a T tb := ⟨B.nodup, B.lt, hsmall, hlen⟩
  have hal := N.al
  refine ok_longshoreref03_ByteBook_Owned ?_
  unfold wp_longshoreref03_ByteBook_Owned
  -- each list is written full
  refine ⟨fun m k w' => ∃ i : Nat, k = i ∧ i ≤ T.length ∧ m = T.length - i ∧ blk w' a = some [.slice p T.length c] ∧ Ow w' p T.length c 1 (T.flatMap BL.cells) tb ∧
      (∀ (j : Nat) (x : BL), T[j]? = some x → ∃ l : List UInt8, Ow w' x.p x.n x.c 1 (bytesV l) x.own ∧ (j < i → l = mk j x.n)) ∧ Ch (fun b => b ∈ bowns T) w w',
    ⟨T.length, 0, rfl, by omega, by omega, B.head, B.row, fun j x hx => (B.each x (List.mem_of_getElem? hx)).imp fun l h => ⟨h, fun h => by omega⟩, Ch.refl _ _⟩, ?_⟩
  rintro m k w1 ⟨i, rfl, hi, rfl, hd1, hr1, he1, c1⟩
  simp only [nn_some, add_at, Nat.zero_add, Nat.mul_one]
  refine ⟨_, _, _, by rw [cell_blk hd1]; rfl, Sif_cases (fun g => ?_) fun g => ?_⟩
  · have hlt : i < T.length := by have := of_decide_eq_true g; omega
    have hx : T[i]? = some T[i] := List.getElem?_eq_getElem hlt
    generalize T[i] = x at hx
    have hxm := List.mem_of_getElem? hx
    have hxn := hsmall x hxm
    obtain ⟨kb, ko, rfl, hcell⟩ := BL.at hr1 hx
    refine ⟨_, _, _, by rw [cell_blk hd1]; rfl, by omega, by omega, ?_⟩
    simp only [nn_some, add_at, Int.toNat_natCast]
    refine ⟨_, _, _, hcell, ?_⟩
    obtain ⟨l0, hl0, _⟩ := he1 i x hx
    refine ⟨fun m' k' w' => ∃ (j : Nat) (xs : List Value), k' = j ∧ j ≤ x.n ∧ m' = x.n - j ∧ Ow w' x.p x.n x.c 1 xs x.own ∧ xs.take j = (bytesV (mk i x.n)).take j ∧ Ch (fun b => x.own = some b) w1 w',
      ⟨x.n, 0, _, rfl, by omega, by omega, hl0, by simp, Ch.refl _ _⟩, ?_⟩
    rintro m' k' w2 ⟨j, xs, rfl, hj, rfl, ho2, ht2, c2⟩
    refine Sif_cases (fun g2 => ?_) fun g2 => ?_
    · have hjl : j < x.n := by have := of_decide_eq_true g2; omega
      obtain ⟨xb, xo, hxp, hxo, hst⟩ := ho2.st (i := j) (by omega)
      rw [hxp]
      simp only [nn_some, add_at, Nat.mul_one, Nat.add_zero, Int.toNat_natCast]
      refine ⟨by omega, by omega, by omega, hst _ _ fun w3 o3 c3 z3 => ?_⟩
      rw [nameI_iff, wrap_id (n := (j : Int) + 1) (by omega) (by omega)]
      have hxl : xs.length = x.n := by have := ho2.1; omega
      rw [hxp] at o3
      refine ⟨x.n - (j + 1), by omega, j + 1, _, by simp, by omega, rfl, o3, ?_, c2.trans' (c3.mono fun b _ hb => by rw [hb]; exact hxo)⟩
      rw [take_set_succ (by omega), ht2, List.take_add_one, mkV_at hjl, mark_val (by omega) (by omega)]; rfl
    · have hjn : j = x.n := by have := of_decide_eq_false g2; omega
      subst hjn
      rw [nameI_iff, wrap_id (by omega) (by omega)]
      have hxl : xs.length = x.n := by have := ho2.1; omega
      have hfin : xs = bytesV (mk i x.n) := by
        rw [List.take_of_length_le (by omega), List.take_of_length_le (by simp)] at ht2; exact ht2
      rw [hfin] at ho2
      have own := fun k (hk : x.own = some k) => N.own hx hk
      refine ⟨T.length - (i + 1), by omega, i + 1, by simp, by omega, rfl, by rw [c2.blk (blk_lt hd1) fun e => (own a e).2.1 rfl]; exact hd1, hr1.ch c2 fun k hk e => (own k e).2.2.1 hk, fun j' y hy => ?_, c1.more c2 fun k hk => (own k hk).1⟩
      by_cases hji : j' = i
      · subst hji
        rw [hx] at hy; cases hy
        exact ⟨_, ho2, fun _ => rfl⟩
      · obtain ⟨l, hl1, hl2⟩ := he1 j' y hy
        exact ⟨l, hl1.ch c2 fun k hk e => own_ne N.bn hy hx hji k hk e, fun h => hl2 (by omega)⟩
  have hge : i = T.length := by have := of_decide_eq_false g; omega
  subst hge
  clear g
  -- all are grown
  have H0 : Grows w w1 a T p c tb 0 none 0 none [] := ⟨hd1, hr1, fun j x hx _ => by
      obtain ⟨l, h1, h2⟩ := he1 j x hx
      rw [← h2 (List.getElem?_eq_some_iff.1 hx).1]; exact h1, Ow.nil, by simp, fun j x hx hj => by omega, fun t g hg => by simp at hg, c1⟩
  refine ⟨fun m' gp gn gc k' w' => ∃ (i : Nat) (gb : Option Nat) (G : List BL), k' = i ∧ i ≤ T.length ∧ m' = T.length - i ∧ gn = G.length ∧ G.length = 5 * i ∧ Grows w w' a T p c tb i gp gc gb G, ⟨T.length, 0, none, [], rfl, by omega, by omega, rfl, rfl, H0⟩, ?_⟩
  rintro m' gp gn gc k' w2 ⟨i, gb, G, rfl, hi2, rfl, rfl, hGl, H⟩
  refine ⟨_, _, _, by rw [cell_blk H.head]; rfl, Sif_cases (fun g => ?_) fun g => ?_⟩
  · have hlt : i < T.length := by have := of_decide_eq_true g; omega
    have hx : T[i]? = some T[i] := List.getElem?_eq_getElem hlt
    generalize T[i] = x at hx
    have hxm := List.mem_of_getElem? hx
    have hxn := hsmall x hxm
    obtain ⟨kb, ko, rfl, hcell⟩ := BL.at H.row hx
    refine ⟨_, _, _, by rw [cell_blk H.head]; rfl, by omega, by omega, ?_⟩
    simp only [nn_some, add_at, Int.toNat_natCast]
    refine ⟨_, _, _, hcell, ?_⟩
    have HG := H.start N hx
    refine ⟨fun m2 gp2 gn2 gc2 q2 n2 cc2 k2 w' => ∃ (k : Nat) (ob gb2 : Option Nat) (G2 : List BL), k2 = k ∧ k ≤ 20 ∧ m2 = 20 - k ∧ gn2 = G2.length ∧ G2.length = 5 * i + cntG k ∧ n2 = x.n + k ∧ Grow w w' a T (some ⟨kb, ko, none⟩) c tb i q2 n2 cc2 ob gp2 gc2 gb2 G2 ∧ (∀ k, ob = some k → k ∈ bowns T ∨ w.heap.size ≤ k),
      ⟨20, 0, x.own, gb, G, rfl, by omega, by omega, rfl, by rw [hGl]; rfl, rfl, HG, fun k hk => .inl (N.own hx hk).1⟩, ?_⟩
    rintro m2 gp2 gn2 gc2 q2 n2 cc2 k2 w3 ⟨k, ob, gb2, G2, rfl, hk20, rfl, rfl, hG2, rfl, H2, hob⟩
    refine Sif_cases (fun g2 => ?_) fun g2 => ?_
    · have hk2 : k < 20 := by have := of_decide_eq_true g2; omega
      refine ⟨fun gp3 gn3 gc3 q3 n3 cc3 w' => ∃ (ob3 gb3 : Option Nat) (G3 : List BL), gn3 = G3.length ∧ G3.length = 5 * i + cntG (k + 1) ∧ n3 = x.n + (k + 1) ∧ Grow w w' a T (some ⟨kb, ko, none⟩) c tb i q3 n3 cc3 ob3 gp3 gc3 gb3 G3 ∧ (∀ k, ob3 = some k → k ∈ bowns T ∨ w.heap.size ≤ k), ?_, by omega, ?_⟩
      · rintro gp3 gn3 gc3 q3 n3 cc3 w4 ⟨ob3, gb3, G3, rfl, h1, rfl, h2, h3⟩
        rw [nameI_iff, wrap_id (by omega) (by omega)]
        exact ⟨20 - (k + 1), by omega, k + 1, ob3, gb3, G3, by simp, by omega, rfl, rfl, h1, rfl, h2, h3⟩
      refine H2.byte N (by omega) (by omega) hob fun q3 cc3 ob3 w4 H3 hob3 => ?_
      rw [Nat.add_assoc] at H3 ⊢
      have nop : cntG (k + 1) = cntG k → ∃ (ob3' gb3 : Option Nat) (G3 : List BL), G2.length = G3.length ∧ G3.length = 5 * i + cntG (k + 1) ∧ x.n + (k + 1) = x.n + (k + 1) ∧ Grow w w4 a T (some ⟨kb, ko, none⟩) c tb i q3 (x.n + (k + 1)) cc3 ob3' gp2 gc2 gb3 G3 ∧ (∀ k, ob3' = some k → k ∈ bowns T ∨ w.heap.size ≤ k) := fun h => ⟨ob3, gb2, G2, rfl, by rw [h]; exact hG2, rfl, H3, hob3⟩
      refine Sif_cases (fun q1 => Sif_cases (fun q2' => Sif_cases (fun q3' => ?_) fun q3' => nop ?_) fun q2' => ?_) fun q1 => ?_
      · have h19 : k = 19 := by simp at q3'; omega
        exact H3.putB N hG2 (by subst h19; decide) (by subst h19; rfl) hlt fun gp' gc' gb' w' G' H' hG' => ⟨ob3, gb', G', rfl, hG', rfl, H', hob3⟩
      · have h1 : ¬ k < 3 := by simp at q1; omega
        have h2 : k ≠ 8 := by simp at q2'; omega
        have h3 : k ≠ 19 := by simp at q3'; omega
        unfold cntG
        split <;> split <;> split <;> split <;> omega
      · have h8 : k = 8 := by simp at q2'; omega
        exact H3.putB N hG2 (by subst h8; decide) (by subst h8; rfl) hlt fun gp' gc' gb' w' G' H' hG' => ⟨ob3, gb', G', rfl, hG', rfl, H', hob3⟩
      · have h3 : k < 3 := by simp at q1; omega
        exact H3.putB N hG2 (by unfold cntG; split <;> split <;> omega) (by unfold cntG; split <;> split <;> split <;> split <;> omega) hlt fun gp' gc' gb' w' G' H' hG' => ⟨ob3, gb', G', rfl, hG', rfl, H', hob3⟩
    · have hk2 : k = 20 := by have := of_decide_eq_false g2; omega
      subst hk2
      rw [nameI_iff, wrap_id (by omega) (by omega)]
      exact ⟨T.length - (i + 1), by omega, i + 1, gb2, G2, by simp, by omega, rfl, rfl, by rw [hG2]; show 5 * i + 5 = _; omega, H2.stop (by omega)⟩
  have hge : i = T.length := by have := of_decide_eq_false g; omega
  subst hge
  clear g
  -- each reads as it was written
  refine ⟨fun m' k' w' => ∃ i : Nat, k' = i ∧ i ≤ T.length ∧ m' = T.length - i ∧ w' = w2, ⟨T.length, 0, rfl, by omega, by omega, rfl⟩, ?_⟩
  rintro m' k' w3 ⟨i, rfl, hi3, rfl, rfl⟩
  refine ⟨_, _, _, by rw [cell_blk H.head]; rfl, Sif_cases (fun g => ?_) fun g => ?_⟩
  · have hlt : i < T.length := by have := of_decide_eq_true g; omega
    have hx : T[i]? = some T[i] := List.getElem?_eq_getElem hlt
    generalize T[i] = x at hx
    have hxn := hsmall x (List.mem_of_getElem? hx)
    obtain ⟨kb, ko, rfl, hcell⟩ := BL.at H.row hx
    refine ⟨_, _, _, by rw [cell_blk H.head]; rfl, by omega, by omega, ?_⟩
    simp only [nn_some, add_at, Int.toNat_natCast]
    refine ⟨_, _, _, hcell, marked_ok (H.past i x hx hlt).2.1 (by omega) (by omega) ⟨_, rfl, Sif_false ?_⟩⟩
    rw [nameI_iff, wrap_id (by omega) (by omega)]
    exact ⟨T.length - (i + 1), by omega, i + 1, by simp, by omega, rfl, by trivial⟩
  · refine ⟨fun m' k' w' => ∃ t : Nat, k' = t ∧ t ≤ G.length ∧ m' = G.length - t ∧ w' = w3, ⟨G.length, 0, rfl, by omega, by omega, rfl⟩, ?_⟩
    rintro m' k' w4 ⟨t, rfl, ht, rfl, rfl⟩
    refine Sif_cases (fun g2 => ?_) fun g2 => hk w4 H.ch
    have hlt : t < G.length := by have := of_decide_eq_true g2; omega
    have hx : G[t]? = some G[t] := List.getElem?_eq_getElem hlt
    generalize G[t] = x at hx
    obtain ⟨kb, ko, rfl, hcell⟩ := BL.at H.grown hx
    simp only [nn_some, add_at, Int.toNat_natCast]
    refine ⟨by omega, by omega, _, _, _, hcell, by omega, ?_⟩
    have e5 : IntKind.wrap .i64 (Int.tdiv (t : Int) 5) = ((t / 5 : Nat) : Int) := by
      have e : Int.tdiv (t : Int) 5 = ((t / 5 : Nat) : Int) := by rw [Int.tdiv_eq_ediv_of_nonneg (by omega)]; rfl
      rw [e, wrap_id (by omega) (by omega)]
    rw [e5]
    have hA := H.put t x hx
    refine marked_ok hA.2.1 (by omega) hA.1 ⟨_, rfl, Sif_false ?_⟩
    rw [nameI_iff, wrap_id (by omega) (by omega)]
    exact ⟨G.length - (t + 1), by omega, t + 1, by simp, by omega, rfl, by trivial⟩
end Go.Proofs.YtipbbjnmpnfhpaaGreatDoor
namespace Go.Proofs.YtipbbjnmpnfhpaaGreatDoor
open Go Go.Sv Go.Heap Go.Qu Go.MapKept
set_option linter.unusedVariables false
set_option maxRecDepth 4000
def toBL (x : Et) : BL := ⟨x.e.p, x.e.n, x.e.c, x.own⟩
theorem mem_bowns {L : List Et} {b : Nat} : b ∈ bowns (L.map toBL) ↔ ∃ x ∈ L, x.own = some b := by
  unfold bowns
  simp only [List.mem_flatMap, List.mem_map, Option.mem_toList, Option.mem_def]
  exact ⟨fun ⟨_, ⟨x, hx, e⟩, h⟩ => ⟨x, hx, by rw [← e] at h; exact h⟩, fun ⟨x, hx, h⟩ => ⟨_, ⟨x, hx, rfl⟩, h⟩⟩
theorem choose_rows {α β : Type} {T : List α} {P : α → List β → Prop} (h : ∀ x ∈ T, ∃ ys, P x ys) : ∃ C : Nat → List β, ∀ j x, T[j]? = some x → P x (C j) := by
  have h2 : ∀ j : Nat, ∃ ys : List β, ∀ x, T[j]? = some x → P x ys := fun j => by
    cases hj : T[j]? with
    | none => exact ⟨[], fun x hx => by cases hx⟩
    | some x =>
      obtain ⟨ys, hy⟩ := h x (List.mem_of_getElem? hj)
      exact ⟨ys, fun z hz => by cases hz; exact hy⟩
  exact ⟨fun j => (h2 j).choose, fun j => (h2 j).choose_spec⟩
theorem as_pe (x : Et) : x.e.as x.l = x.pe := rfl
set_option maxHeartbeats 2000000 in
theorem stands_ok {w : World} {kb m : Nat} {B : Nat → Prop} {K : Value → World → Prop} (Hb : BK kb w m B) (hm : m ≤ 2 ^ 35) (hk : ∀ w' B', BF kb w' m B' → (∀ b, B' b → B b) → Ch B w w' → K (.bool true) w') :
    callP Tryz.prog 15 [.pointer (some ⟨kb, 0, none⟩)] w K := by
  obtain ⟨k, H, hs, rfl⟩ := Hb
  have hLW : k.L.length = k.W.length := by have := congrArg List.length H.same; simpa using this
  have hL := hs.L
  have hT3 := hs.T3
  have hT4 := hs.T4
  have h45 := H.l45
  have hold := H.lt
  refine ok_longshorelaw17_book_stands ?_
  unfold wp_longshorelaw17_book_stands
  refine newB_blk fun w1 b1 c1 z1 => ?_
  have H1 := H.ch c1 fun _ _ => id
  simp only [nn_some, add_at, Nat.zero_add]
  have ha : ∀ b, k.B kb b → b ≠ w.heap.size := fun b hb => by have := hold b hb; omega
  have st : ∀ w', Ch (· = w.heap.size) w1 w' → BS w' kb k := fun w' c => H1.ch c fun b hb e => ha b hb e
  refine ⟨fun mm i w' => ∃ (j : Nat) (p : Option Addr) (c : Nat) (tb : Option Nat), i = (j : Int) ∧ j ≤ k.L.length ∧ mm = k.L.length - j ∧ BookR w' w.heap.size ((k.L.take j).map toBL) p c tb ∧ (∀ b, tb = some b → w1.heap.size ≤ b) ∧ Ch (· = w.heap.size) w1 w',
    ⟨k.L.length, 0, none, 0, none, rfl, Nat.zero_le _, rfl, book_new b1, (fun b hb => by cases hb), Ch.refl _ _⟩, ?_⟩
  rintro mm i w2 ⟨j, p, c, tb, rfl, hj, rfl, R2, htb, c2⟩
  have H2 := st w2 c2
  refine ⟨_, _, _, by rw [cell_blk H2.b.head]; rfl, Sif_cases (fun hlt => ?_) fun hge => ?_⟩
  · have hjl : j < k.L.length := by have := of_decide_eq_true hlt; omega
    obtain ⟨x, hx⟩ : ∃ x, k.L[j]? = some x := ⟨_, List.getElem?_eq_getElem hjl⟩
    obtain ⟨y, hy⟩ : ∃ y, k.W[j]? = some y := ⟨_, List.getElem?_eq_getElem (by omega)⟩
    have hxm := List.mem_of_getElem? hx
    have hym := List.mem_of_getElem? hy
    have hpe : x.pe = y.pe := by
      have h := congrArg (fun l => l[j]?) H.same
      simp only [List.getElem?_map, hx, hy, Option.map_some] at h
      exact Option.some.inj h
    have H2d := H2.ch (Ch.drew (S := fun _ => False) w2) fun _ _ => id
    have hxe : (k.L.map (·.e))[j]? = some x.e := by rw [List.getElem?_map, hx]; rfl
    have hye : (k.W.map (·.e))[j]? = some y.e := by rw [List.getElem?_map, hy]; rfl
    obtain ⟨kx, ox, hpx, hcx⟩ := (by have := H2d.b.row.rd.at En.cells_len hxe (by decide); exact this)
    obtain ⟨ky, oy, hpy, hcy⟩ := (by have := H2d.b.row2.rd.at En.cells_len hye (by decide); exact this)
    refine ⟨_, _, _, by rw [cell_blk H2d.b.head]; rfl, by omega, by omega, ?_⟩
    rw [hpx]
    simp only [nn_some, add_at, Int.toNat_natCast]
    refine ⟨_, hcx 0 _ rfl, _, hcx 1 _ rfl, _, hcx 2 _ rfl, _, hcx 3 _ rfl, _, hcx 4 _ rfl, _, hcx 5 _ rfl, _, _, _, hcx 6 _ rfl, _, _, _, by rw [cell_blk H2d.b.head]; rfl, by omega, by omega, ?_⟩
    rw [hpy]
    simp only [nn_some, add_at, Int.toNat_natCast]
    refine ⟨_, hcy 0 _ rfl, _, hcy 1 _ rfl, _, hcy 2 _ rfl, _, hcy 3 _ rfl, _, hcy 4 _ rfl, _, hcy 5 _ rfl, _, _, _, hcy 6 _ rfl, ?_⟩
    have hyl : y.l = x.l := (congrArg PE.l hpe).symm
    refine same_ok (a := x.e) (b := y.e) (l := x.l) (H2d.okL x hxm).rd (by have := (H2d.okW y hym).rd; rw [hyl] at this; exact this) (by rw [as_pe, hpe, ← hyl, as_pe]) fun w3 c3 => ⟨true, rfl, Sif_false ?_⟩
    have H3 := H2d.ch c3 fun _ _ => id
    obtain ⟨kx', ox', hpx', hcx'⟩ := (by have := H3.b.row.rd.at En.cells_len hxe (by decide); exact this)
    rw [hpx] at hpx'; cases hpx'
    refine ⟨_, _, _, by rw [cell_blk H3.b.head]; rfl, by omega, by omega, ?_⟩
    rw [hpx]
    simp only [nn_some, add_at, Int.toNat_natCast]
    refine ⟨_, _, _, hcx' 6 _ rfl, ?_⟩
    have c23 : Ch (fun _ => False) w2 w3 := (Ch.drew w2).trans' c3
    refine take_ok (x := toBL x) (l := x.l) (R2.ch c23 fun _ _ => id) (by rw [List.length_map, List.length_take]; omega) (H3.okL x hxm) (fun b hb hmem => ?_) fun p' c' tb' w4 R4 c4 n4 => ⟨rfl, ?_⟩
    · have hbB : k.B kb b := ⟨.el j, x, hx, hb⟩
      rcases List.mem_cons.1 hmem with e | hmem
      · exact ha b hbB e
      · rcases List.mem_append.1 hmem with e | hmem
        · have := htb b (by simpa using e); have := hold b hbB; omega
        · obtain ⟨z, hz, hzb⟩ := mem_bowns.1 hmem
          obtain ⟨q, hq⟩ := List.getElem?_of_mem hz
          have hql := (List.getElem?_eq_some_iff.1 hq).1
          rw [List.length_take] at hql
          rw [List.getElem?_take, if_pos (by omega)] at hq
          have := H.inj (.el q) (.el j) b ⟨z, hq, hzb⟩ ⟨x, hx, hb⟩
          cases this
          omega
    · rw [nameI_iff, wrap_id (by omega) (by omega)]
      have e : (k.L.take j).map toBL ++ [toBL x] = (k.L.take (j + 1)).map toBL := by rw [List.take_add_one, hx]; simp
      rw [e] at R4
      refine ⟨k.L.length - (j + 1), by omega, j + 1, p', c', tb', by omega, by omega, rfl, R4, fun b hb => ?_, (c2.new c23).trans c4 fun b hb h => ?_⟩
      · rcases n4 b hb with q | q
        · exact htb b q
        · have := c2.size; have := c23.size; omega
      · rcases h with h | h
        · exact h
        · have := htb b h; omega
  have hjn : j = k.L.length := by have := of_decide_eq_false hge; omega
  subst hjn
  rw [List.take_length] at R2
  -- the lists of numbers stand
  refine ⟨fun mm i w' => ∃ j : Nat, i = (j : Int) ∧ j ≤ k.T4.length ∧ mm = k.T4.length - j ∧ Ch (fun _ => False) w2 w', ⟨k.T4.length, 0, rfl, Nat.zero_le _, rfl, Ch.refl _ _⟩, ?_⟩
  rintro mm i w3 ⟨j, rfl, hj3, rfl, c3⟩
  have H3 := H2.ch c3 fun _ _ => id
  have h3n := H3.n4
  have h3n5 := H3.n5
  refine ⟨_, _, _, by rw [cell_blk H3.b.head]; rfl, Sif_cases (fun hlt => ?_) fun hge2 => ?_⟩
  · have hjl : j < k.T4.length := by have := of_decide_eq_true hlt; omega
    obtain ⟨x, hx⟩ : ∃ x, k.T4[j]? = some x := ⟨_, List.getElem?_eq_getElem hjl⟩
    obtain ⟨y, hy⟩ : ∃ y, k.T5[j]? = some y := ⟨_, List.getElem?_eq_getElem (by omega)⟩
    have H3d := H3.ch (Ch.drew (S := fun _ => False) w3) fun _ _ => id
    obtain ⟨kx, ox, hpx, hcx⟩ := SL.at (by have := H3d.r4.rd; exact this) hx
    obtain ⟨ky, oy, hpy, hcy⟩ := SL.at (by have := H3d.r5.rd; exact this) hy
    refine ⟨_, _, _, by rw [cell_blk H3d.b.head]; rfl, by omega, by omega, ?_⟩
    rw [hpx]
    simp only [nn_some, add_at, Int.toNat_natCast, Nat.mul_one]
    refine ⟨_, _, _, hcx, _, _, _, by rw [cell_blk H3d.b.head]; rfl, by omega, by omega, ?_⟩
    rw [hpy]
    simp only [nn_some, add_at, Int.toNat_natCast, Nat.mul_one]
    refine ⟨_, _, _, hcy, ?_⟩
    obtain ⟨ox4, lx4⟩ := H3d.t4 j x hx
    obtain ⟨oy5, ly5⟩ := H3d.t5 j y hy
    refine snums_ok ox4.rd oy5.rd lx4 ly5 (by have := hs.n4 x (List.mem_of_getElem? hx); omega) fun v w4 hv c4 => ⟨v, rfl, ?_⟩
    rw [hv, decide_eq_true rfl]
    refine Sif_false ?_
    rw [nameI_iff, wrap_id (by omega) (by omega)]
    exact ⟨k.T4.length - (j + 1), by omega, j + 1, by omega, by omega, rfl, (c3.trans' (Ch.drew w3)).trans' c4⟩
  have R3 := R2.ch c3 fun _ _ => id
  have hsm : ∀ z ∈ k.L.map toBL, z.n ≤ 2 ^ 46 := fun z hz => by
    obtain ⟨x, hx, rfl⟩ := List.mem_map.1 hz
    have := hs.nL x hx
    show x.e.n ≤ _
    omega
  refine owned_ok R3 hsm (by rw [List.length_map]; omega) fun w4 c4 => ⟨true, rfl, ?_⟩
  -- its slots
  have hel : ∀ b, b ∈ bowns (k.L.map toBL) → ∃ i, k.has kb (.el i) b := fun b hb => by
    obtain ⟨x, hx, hxb⟩ := mem_bowns.1 hb
    obtain ⟨i, hi⟩ := List.getElem?_of_mem hx
    exact ⟨i, x, hi, hxb⟩
  have h3s : ∀ b, OwnS k.T3 b → ∃ i, k.has kb (.t3 i) b := fun b ⟨x, hx, hxb⟩ => by
    obtain ⟨i, hi⟩ := List.getElem?_of_mem hx
    exact ⟨i, x, hi, hxb⟩
  have h4s : ∀ b, OwnS k.T4 b → ∃ i, k.has kb (.t4 i) b := fun b ⟨x, hx, hxb⟩ => by
    obtain ⟨i, hi⟩ := List.getElem?_of_mem hx
    exact ⟨i, x, hi, hxb⟩
  obtain ⟨C3, hC3⟩ := choose_rows H3.t3
  have n4 : ∀ s b, k.has kb s b → (∀ i, s ≠ .el i) → ¬ b ∈ bowns (k.L.map toBL) := fun s b h hn hb => by
    obtain ⟨i, hi⟩ := hel b hb
    exact hn i (H.inj s (.el i) b h hi)
  have hd4 : blk w4 kb = blk w3 kb := c4.blk (blk_lt H3.b.head) (n4 .head kb rfl nofun)
  have P3 : Passes w4 kb 3 k.s3.p k.s3.c k.T3 := by
    refine ⟨fun w' c => ?_, fun w' c => ?_, fun i j x y b hij hx hy hxb hyb => ?_, by omega, hs.n3⟩
    rotate_left
    · have := (H3.r3.ch c4 fun b hb => n4 .s3 b hb nofun).ch c fun b hb h => by
        obtain ⟨i, hi⟩ := h3s b h
        exact absurd (H.inj .s3 (.t3 i) b hb hi) nofun
      rw [H.n3] at this
      exact this.rd
    · have := H.inj (.t3 i) (.t3 j) b ⟨x, hx, hxb⟩ ⟨y, hy, hyb⟩
      cases this; exact hij rfl
    · have hb := c.blk (b := kb) (blk_lt (hd4.trans H3.b.head)) fun h => by
        obtain ⟨i, hi⟩ := h3s kb h
        exact absurd (H.inj .head (.t3 i) kb rfl hi) nofun
      rw [hd4, H3.b.head] at hb
      rw [cell_blk hb, ← H.n3]; rfl
  refine lists_ok P3 (C := C3) (fun j x hx => ⟨(hC3 j x hx).1.ch c4 fun b hb => n4 (.t3 j) b ⟨x, hx, hb⟩ nofun, (hC3 j x hx).2⟩) fun w5 c5 => ⟨true, rfl, ?_⟩
  have n5 : ∀ s b, k.has kb s b → (∀ i, s ≠ .t3 i) → ¬ OwnS k.T3 b := fun s b h hn hb => by
    obtain ⟨i, hi⟩ := h3s b hb
    exact hn i (H.inj s (.t3 i) b h hi)
  have hd5 : blk w5 kb = blk w3 kb := by rw [← hd4]; exact c5.blk (blk_lt (hd4.trans H3.b.head)) (n5 .head kb rfl nofun)
  have P4 : Passes w5 kb 4 k.s4.p k.s4.c k.T4 := by
    refine ⟨fun w' c => ?_, fun w' c => ?_, fun i j x y b hij hx hy hxb hyb => ?_, by omega, hs.n4⟩
    rotate_left
    · have := ((H3.r4.ch c4 fun b hb => n4 .s4 b hb nofun).ch c5 fun b hb => n5 .s4 b hb nofun).ch c fun b hb h => by
        obtain ⟨i, hi⟩ := h4s b h
        exact absurd (H.inj .s4 (.t4 i) b hb hi) nofun
      rw [H.n4] at this
      exact this.rd
    · have := H.inj (.t4 i) (.t4 j) b ⟨x, hx, hxb⟩ ⟨y, hy, hyb⟩
      cases this; exact hij rfl
    · have hb := c.blk (b := kb) (blk_lt (hd5.trans H3.b.head)) fun h => by
        obtain ⟨i, hi⟩ := h4s kb h
        exact absurd (H.inj .head (.t4 i) kb rfl hi) nofun
      rw [hd5, H3.b.head] at hb
      rw [cell_blk hb, ← H.n4]; rfl
  refine numbers_ok P4 (C := k.C) (fun j x hx => ⟨((H3.t4 j x hx).1.ch c4 fun b hb => n4 (.t4 j) b ⟨x, hx, hb⟩ nofun).ch c5 fun b hb => n5 (.t4 j) b ⟨x, hx, hb⟩ nofun, (H3.t4 j x hx).2⟩) fun w6 c6 => ⟨true, rfl, Sif_true (Sif_true ?_)⟩
  have n6 : ∀ s b, k.has kb s b → (∀ i, s ≠ .t4 i) → ¬ OwnS k.T4 b := fun s b h hn hb => by
    obtain ⟨i, hi⟩ := h4s b hb
    exact hn i (H.inj s (.t4 i) b h hi)
  have hd6 : blk w6 kb = blk w3 kb := by rw [← hd5]; exact c6.blk (blk_lt (hd5.trans H3.b.head)) (n6 .head kb rfl nofun)
  have cAll : Ch (k.B kb) w w6 := by
    have e1 : Ch (k.B kb) w w3 := (c1.mono fun _ _ h => h.elim).trans ((c2.new c3).mono (S' := fun b => b = w.heap.size) fun _ _ h => h) fun b hb h => by omega
    refine ((e1.trans' (c4.mono fun b _ h => ?_)).trans' (c5.mono fun b _ h => ?_)).trans' (c6.mono fun b _ h => ?_)
    · obtain ⟨i, hi⟩ := hel b h; exact ⟨_, hi⟩
    · obtain ⟨i, hi⟩ := h3s b h; exact ⟨_, hi⟩
    · obtain ⟨i, hi⟩ := h4s b h; exact ⟨_, hi⟩
  refine hk w6 _ ⟨k.N, k.p, k.c, k.own, k.L, k.p2, k.c2, k.own2, k.W, _, ⟨hd6.trans H3.b.head, ?_, ?_, H.b.n1, H.b.n2, H.b.n3⟩, hs.N, hs.L, by omega, rfl⟩ (fun b hb => ?_) cAll
  · exact ((H3.b.row.ch c4 fun b hb => n4 .l b hb nofun).ch c5 fun b hb => n5 .l b hb nofun).ch c6 fun b hb => n6 .l b hb nofun
  · exact ((H3.b.row2.ch c4 fun b hb => n4 .w b hb nofun).ch c5 fun b hb => n5 .w b hb nofun).ch c6 fun b hb => n6 .w b hb nofun
  · rcases hb with h | h | h
    · exact ⟨.head, h⟩
    · exact ⟨.l, h⟩
    · exact ⟨.w, h⟩
end Go.Proofs.YtipbbjnmpnfhpaaGreatDoor
namespace Go.Proofs.YtipbbjnmpnfhpaaGreatDoor
open Go Go.Sv Go.Heap Go.Qu Go.MapKept
set_option linter.unusedVariables false
set_option maxRecDepth 4000
/-- ahead of the program's call -/
structure SV (Qt : Nat → Prop) (Bp : World → Nat → (Nat → Prop) → Prop) (w : World) (qb rb kb m : Nat) (A : AQ) (B C D : Nat → Prop) (o : OpV) (p1 : Option Addr) (n2 : Nat) (Sw : List Int) (v : World) : Prop where
  t : Trio Qt Bp w qb rb A m B C D
  c : Ch (fun _ => False) w v
  sz : w.heap.size + 4 ≤ v.heap.size
  ba : blk v w.heap.size = some o.cells
  bf : blk v (w.heap.size + 1) = some (fcells kb rb (o.f == 1) (.slice o.lp o.ln o.lc) (.slice none 0 0))
  ea : blk v (w.heap.size + 2) = some Ez.e.cells
  eb : blk v (w.heap.size + 3) = some Ez.e.cells
  rw : Rd v p1 n2 1 (Sw.flatMap iC)
  ln : Sw.length = n2
  p1 : ∀ a, p1 = some a → n2 * 1 ≠ 0 → w.heap.size + 4 ≤ a.block ∧ a.block < v.heap.size
theorem empty_rd (v : World) : Rd v none ([] : List Int).length 1 (([] : List Int).flatMap iC) := ⟨rfl, .inl rfl⟩
theorem nil_ok {Qt : Nat → Prop} {Bp : World → Nat → (Nat → Prop) → Prop} {kb : Nat} (HB : BookLike kb Bp) {w : World} {qb rb m : Nat} {A : AQ} {B C D : Nat → Prop} {o : OpV} {p1 : Option Addr} {n2 : Nat} {Sw : List Int} {v v' : World} {A1 : AQ} {B' : Nat → Prop} {x : Et} {res : Option PE} {b1 : Bool} {K : World → Prop}
    (S : SV Qt Bp w qb rb kb m A B C D o p1 n2 Sw v) (hf : o.f = 0) (Q : QK v' qb A1 B') (hcf : A1.cf = A.cf) (cB : Ch B v v') (hB : ∀ b, B' b → B b ∨ v.heap.size ≤ b) (hx : EtE.Ok v' x) (hxo : ∀ b, x.own = some b → ¬ B' b ∧ (B b ∨ v.heap.size ≤ b)) (hpe : x.pe = res.getD Pz) (hsm : x.l.length ≤ 2 ^ 20) (hb1 : b1 = res.isSome)
    (hk : ∀ w', SM Qt Bp w qb rb kb m A C (TU B C D) o (w.heap.size + 1) (w.heap.size + 2) (w.heap.size + 3) A1 res p1 n2 b1 w' m B' D x [] Sw none 0 → K w') :
    Sv.st v' ⟨w.heap.size + 2, 0, none⟩ (.int .i64 x.e.seq) fun w1 => Sv.st w1 ⟨w.heap.size + 2, 1, none⟩ (.int .i64 x.e.pri) fun w1 => Sv.st w1 ⟨w.heap.size + 2, 2, none⟩ (.int .i64 x.e.exp) fun w1 => Sv.st w1 ⟨w.heap.size + 2, 3, none⟩ (.bool x.e.dur) fun w1 => Sv.st w1 ⟨w.heap.size + 2, 4, none⟩ (.int .i64 x.e.cnt) fun w1 => Sv.st w1 ⟨w.heap.size + 2, 5, none⟩ (.int .i64 x.e.hold) fun w1 => Sv.st w1 ⟨w.heap.size + 2, 6, none⟩ (.slice x.e.p x.e.n x.e.c) K := by
  have hlt := S.t.lt HB
  have sz := S.sz
  have sv := cB.size
  have hBl : ∀ b, B b → b < w.heap.size := fun b h => hlt b (.inl h)
  have hCl : ∀ b, C b → b < w.heap.size := fun b h => hlt b (.inr (.inl h))
  have hDl : ∀ b, D b → b < w.heap.size := fun b h => hlt b (.inr (.inr h))
  have e1 : blk v' (w.heap.size + 2) = some Ez.e.cells := by rw [cB.blk (blk_lt S.ea) fun h => by have := hBl _ h; omega]; exact S.ea
  refine reN (e := x.e) e1 fun w' bea c' z' => hk w' ?_
  have cc : Ch (fun b => B b ∨ b = w.heap.size + 2) v w' := (cB.mono fun b _ h => .inl h).trans' (c'.mono fun b _ h => .inr h)
  have n1 : ∀ b, B b ∨ b = w.heap.size + 2 → b ≠ w.heap.size ∧ b ≠ w.heap.size + 1 ∧ b ≠ w.heap.size + 3 ∧ b < w.heap.size + 3 := fun b h => by
    rcases h with h | h
    · have := hBl b h; omega
    · omega
  have hB2 : ∀ b, B' b → B b ∨ v.heap.size ≤ b := hB
  have xo : ∀ b, x.own = some b → B b ∨ v.heap.size ≤ b := fun b h => (hxo b h).2
  have c0 : Ch (fun b => B b ∨ b = w.heap.size + 2) w w' := (S.c.mono fun _ _ h => h.elim).trans' cc
  have hn : ∀ b, D b ∨ x.own = some b → b < w.heap.size ∨ v.heap.size ≤ b := fun b h => by
    rcases h with h | h
    · exact .inl (hDl b h)
    · exact (xo b h).imp (hBl b) id
  refine ⟨Q.ch c' fun b hb h => ?_, S.t.r.ch c0 fun b hb h => ?_, HB.ch S.t.b c0 fun b hb h => ?_, fun b hb h => ?_, fun b hb h => ?_, S.t.DC, by omega, hcf, ?_, ?_, empty_rd _, S.rw.ch cc fun a ha h0 h => ?_, S.ln, bea, ?_, EtE.ch hx c' fun b hb h => ?_, hpe, hsm, hb1, .inr ⟨hf, rfl⟩, c0.mono fun b hb h => ?_, fun b hb h => ?_, fun b hb h => ?_, S.t.qD, fun b hb => ?_, fun b hb => ⟨(hxo b hb).1, fun h => ?_, fun h => ?_⟩, fun b hb => ⟨?_, ?_, ?_, (fun a ha => by cases ha), fun a ha h0 => ?_⟩, fun b hb => ?_, (fun a ha => by cases ha), fun a ha h0 => ⟨fun h => ?_, ?_⟩⟩
  · have h : b = w.heap.size + 2 := h
    rcases hB2 b hb with q | q
    · have := hBl b q; omega
    · omega
  · rcases h with h | h
    · exact S.t.BC b h hb
    · have := hCl b hb; omega
  · rcases h with h | h
    · exact S.t.DB b hb h
    · have := hDl b hb; omega
  · rcases hB2 b hb with q | q
    · exact S.t.BC b q h
    · have := hCl b h; omega
  · rcases hB2 b h with q | q
    · exact S.t.DB b hb q
    · have := hDl b hb; omega
  · rw [cc.blk (blk_lt S.ba) fun h => (n1 _ h).1 rfl]; exact S.ba
  · rw [cc.blk (blk_lt S.bf) fun h => (n1 _ h).2.1 rfl]; exact S.bf
  · have := S.p1 a ha h0; have := n1 _ h; omega
  · rw [cc.blk (blk_lt S.eb) fun h => (n1 _ h).2.2.1 rfl]; exact S.eb
  · have hb : x.own = some b := by simpa [EtE, Option.mem_toList] using hb
    have h : b = w.heap.size + 2 := h
    rcases xo b hb with q | q
    · have := hBl b q; omega
    · omega
  · rcases h with h | h
    · exact ⟨.inl h, S.t.qB b h⟩
    · omega
  · rcases xo b hb with q | q
    · exact S.t.qB b q h
    · have := S.t.r.qlo b h; omega
  · rcases hB2 b hb with q | q
    · exact S.t.qB b q h
    · have := S.t.r.qlo b h; omega
  · rcases hb with h | h | h
    · rcases hB2 b h with q | q
      · exact .inl (.inl q)
      · exact .inr (by omega)
    · exact .inl (.inr (.inr h))
    · rcases xo b h with q | q
      · exact .inl (.inl q)
      · exact .inr (by omega)
  · rcases xo b hb with q | q
    · exact S.t.BC b q h
    · have := hCl b h; omega
  · rcases xo b hb with q | q
    · exact S.t.DB b h q
    · have := hDl b h; omega
  · have := hn b hb; omega
  · have := hn b hb; omega
  · have := hn b hb; omega
  · have := hn b hb; have := S.p1 a ha h0; omega
  · rcases hB2 b hb with q | q
    · have := hBl b q; omega
    · omega
  · have := hCl _ h; have := S.p1 a ha h0; omega
  · have := S.p1 a ha h0; omega
/-- the document has been asked as often -/
theorem fit_ok {Qt : Nat → Prop} {Bp : World → Nat → (Nat → Prop) → Prop} {kb : Nat} (HB : BookLike kb Bp) {w : World} {qb rb m n : Nat} {A : AQ} {B C D : Nat → Prop} {o : OpV} {p1 : Option Addr} {n2 : Nat} {L : List PE} {v v' : World} {A1 : AQ} {B' : Nat → Prop} {x : Et} {res : Option PE} {b1 : Bool} {K : World → Prop}
    (S : SV Qt Bp w qb rb kb m A B C D o p1 n2 ((L.take n).map (·.seq)) v) (hL : L.length ≤ 4096) (J : FJE Qt Bp v (fun b => (TU B C D b ∧ ¬ Qt b) ∨ b = w.heap.size + 1) kb rb (w.heap.size + 1) m A C L (o.f == 1) (.slice o.lp o.ln o.lc) n (fun b => B' b ∨ x.own = some b) v') (Q : QK v' qb A1 B') (hcf : A1.cf = A.cf) (hx : EtE.Ok v' x) (hxo : ∀ b, x.own = some b → ¬ B' b) (hpe : x.pe = res.getD Pz) (hsm : x.l.length ≤ 2 ^ 20) (hb1 : b1 = res.isSome)
    (hk : ∀ w' m' D' Sa ap ac, Sa.length ≤ 2 ^ 40 → SM Qt Bp w qb rb kb m A C (TU B C D) o (w.heap.size + 1) (w.heap.size + 2) (w.heap.size + 3) A1 res p1 n2 b1 w' m' B' D' x Sa ((L.take n).map (·.seq)) ap ac → K w') :
    Sv.st v' ⟨w.heap.size + 2, 0, none⟩ (.int .i64 x.e.seq) fun w1 => Sv.st w1 ⟨w.heap.size + 2, 1, none⟩ (.int .i64 x.e.pri) fun w1 => Sv.st w1 ⟨w.heap.size + 2, 2, none⟩ (.int .i64 x.e.exp) fun w1 => Sv.st w1 ⟨w.heap.size + 2, 3, none⟩ (.bool x.e.dur) fun w1 => Sv.st w1 ⟨w.heap.size + 2, 4, none⟩ (.int .i64 x.e.cnt) fun w1 => Sv.st w1 ⟨w.heap.size + 2, 5, none⟩ (.int .i64 x.e.hold) fun w1 => Sv.st w1 ⟨w.heap.size + 2, 6, none⟩ (.slice x.e.p x.e.n x.e.c) K := by
  obtain ⟨D', ap, ac, ao, F⟩ := J
  have hlt := S.t.lt HB
  have sz := S.sz
  have sv := F.ch.size
  have hU : ∀ b, (TU B C D b ∧ ¬ Qt b) ∨ b = w.heap.size + 1 → b < w.heap.size ∨ b = w.heap.size + 1 := fun b h => h.imp (fun h => hlt b h.1) id
  have qlo := S.t.r.qlo
  have hCl : ∀ b, C b → b < w.heap.size := fun b h => hlt b (.inr (.inl h))
  obtain ⟨l1, l2, l3, l4⟩ := F.lt HB
  have hDq : ∀ b, D' b → ((TU B C D b ∧ ¬ Qt b) ∨ v.heap.size ≤ b) := fun b h => by
    rcases F.uD b h with (q | q) | q
    · exact .inl q
    · exact absurd h (by rw [q]; exact F.fD)
    · exact .inr q
  have hPq : ∀ b, B' b ∨ x.own = some b → ((TU B C D b ∧ ¬ Qt b) ∨ v.heap.size ≤ b) := fun b h => by
    rcases F.uP b h with (q | q) | q
    · exact .inl q
    · exact absurd h (by rw [q]; exact F.fP)
    · exact .inr q
  have hD : ∀ b, D' b → (TU B C D b ∨ v.heap.size ≤ b) := fun b h => (hDq b h).imp And.left id
  have hP : ∀ b, B' b ∨ x.own = some b → (TU B C D b ∨ v.heap.size ≤ b) := fun b h => (hPq b h).imp And.left id
  have hb' : ∀ b, TU B C D b ∨ v.heap.size ≤ b → b < w.heap.size ∨ v.heap.size ≤ b := fun b h => h.imp (hlt b) id
  have e1 : blk v' (w.heap.size + 2) = some Ez.e.cells := by rw [F.ch.blk (blk_lt S.ea) fun h => by have := hU _ h; omega]; exact S.ea
  have hln : ((L.take n).map (·.seq)).length = n := by rw [List.length_map, List.length_take]; have := F.len; omega
  have hnl := F.len
  refine reN (e := x.e) e1 fun w' bea c' z' => hk w' (m + n) D' ((L.take n).map (·.seq)) ap ac (by omega) ?_
  have cc : Ch (fun b => ((TU B C D b ∧ ¬ Qt b) ∨ b = w.heap.size + 1) ∨ b = w.heap.size + 2) v w' := (F.ch.mono fun b _ h => .inl h).trans' (c'.mono fun b _ h => .inr h)
  have n1 : ∀ b, ((TU B C D b ∧ ¬ Qt b) ∨ b = w.heap.size + 1) ∨ b = w.heap.size + 2 → b ≠ w.heap.size ∧ b ≠ w.heap.size + 3 ∧ b < w.heap.size + 3 := fun b h => by
    rcases h with h | h
    · have := hU b h; omega
    · omega
  have hea : ∀ b, TU B C D b ∨ v.heap.size ≤ b → b ≠ w.heap.size + 2 := fun b h => by have := hb' b h; omega
  have apb : ∀ a, ap = some a → ((L.take n).map (·.seq)).length * 1 ≠ 0 → ao = some a.block := fun a ha h0 => by
    rw [hln] at h0
    exact own_pl (x := ⟨ap, n, ac, ao⟩) F.row ha h0
  refine ⟨Q.ch c' fun b hb h => hea b (hP b (.inl hb)) h, F.doc.ch c' fun b hb h => by have := hCl b hb; have h : b = w.heap.size + 2 := h; omega, HB.ch F.book c' fun b hb h => hea b (hD b hb) h, fun b hb h => F.CP b h (.inl hb), fun b hb h => F.DP b hb (.inl h), F.DC, by omega, hcf, ?_, ?_, ?_, S.rw.ch cc fun a ha h0 h => ?_, S.ln, bea, ?_, EtE.ch hx c' fun b hb h => hea b (hP b (.inr (by simpa [EtE, Option.mem_toList] using hb))) h, hpe, hsm, hb1, .inl rfl, ?_, fun b hb h => ?_, fun b hb h => ?_, fun b hb h => ?_, fun b hb => ?_, fun b hb => ⟨hxo b hb, fun h => F.CP b h (.inr hb), fun h => F.DP b h (.inr hb)⟩, fun b hb => ?_, fun b hb => ?_, fun a ha h0 => ⟨?_, ?_⟩, fun a ha h0 => ⟨fun h => ?_, ?_⟩⟩
  · rw [cc.blk (blk_lt S.ba) fun h => (n1 _ h).1 rfl]; exact S.ba
  · rw [c'.blk l3 fun h => by have h : w.heap.size + 1 = w.heap.size + 2 := h; omega, hln]; exact F.fit
  · rw [hln]
    exact F.row.rd.ch c' fun a ha h0 h => by
      have := apb a ha (by rw [hln]; exact h0)
      rcases F.uA _ this with q
      have h : a.block = w.heap.size + 2 := h
      omega
  · have := S.p1 a ha h0; have := n1 _ h; omega
  · rw [cc.blk (blk_lt S.eb) fun h => (n1 _ h).2.1 rfl]; exact S.eb
  · refine (S.c.mono fun _ _ h => h.elim).trans cc fun b hb h => ?_
    rcases h with (h | h) | h
    · exact h
    · omega
    · omega
  · exact (hPq b (.inr hb)).elim (fun q => q.2 h) fun q => by have := qlo b h; omega
  · exact (hPq b (.inl hb)).elim (fun q => q.2 h) fun q => by have := qlo b h; omega
  · exact (hDq b hb).elim (fun q => q.2 h) fun q => by have := qlo b h; omega
  · have : TU B C D b ∨ v.heap.size ≤ b := by
      rcases hb with h | h | h
      · exact hP b (.inl h)
      · exact hD b h
      · exact hP b (.inr h)
    exact this.imp id fun h => by omega
  · have hh : TU B C D b ∨ v.heap.size ≤ b := by
      rcases hb with h | h
      · exact hD b h
      · exact hP b (.inr h)
    have h3 := hb' b hh
    refine ⟨by omega, by omega, by omega, fun a ha h0 e => ?_, fun a ha h0 => ?_⟩
    · have h4 := apb a ha h0
      rcases hb with h | h
      · exact (F.aD _ h4).1 (by rw [e]; exact h)
      · exact (F.aD _ h4).2.2.1 (.inr (by rw [e]; exact h))
    · have := S.p1 a ha h0; omega
  · have := hb' b (hP b (.inl hb)); omega
  · exact (F.aD _ (apb a ha h0)).2.1
  · have := F.uA _ (apb a ha h0); omega
  · have := hCl _ h; have := S.p1 a ha h0; omega
  · have := S.p1 a ha h0; omega
end Go.Proofs.YtipbbjnmpnfhpaaGreatDoor
namespace Go.Proofs.YtipbbjnmpnfhpaaGreatDoor
open Go Go.Sv Go.Heap Go.Qu Go.MapKept
set_option linter.unusedVariables false
set_option maxRecDepth 4000
theorem find_ok {A : AQ} (W : WQ A) {fit : PE → Bool} {L : List PE} (hL : ∀ x ∈ L, x ∈ A.L) {y : PE} (h : L.find? fit = some y) : y.l.length ≤ 1048576 := (W.ok y (hL y (List.mem_of_find?_eq_some h))).len
theorem take_small {A : AQ} (W : WQ A) {h : Int} {fit : PE → Bool} {y : PE} (e : (A.take h fit).1 = some y) : y.l.length ≤ 1048576 := by
  unfold AQ.take at e
  split at e
  · cases e
  · split at e
    · cases e
    · rename_i z hz
      cases e
      have := find_ok W (fun x => frees_mem) hz
      exact this
theorem take_cf (A : AQ) (h : Int) (fit : PE → Bool) : (A.take h fit).2.cf = A.cf := (kin_take A h fit).1.cf
/-- numbers that are wanted -/
def wantT (A : AQ) (h : Int) (fit : PE → Bool) : List Int := if h < 1 then [] else (asked fit A.frees).map (·.seq)
theorem wantT_eq (A : AQ) (h : Int) (fit : PE → Bool) : wantT A h fit = (A.frees.take (takeN A h fit)).map (·.seq) := by
  unfold wantT takeN
  split
  · simp
  · rw [asked_take]
set_option maxHeartbeats 4000000 in
theorem search_ok {Qt : Nat → Prop} {Bp : World → Nat → (Nat → Prop) → Prop} {kb : Nat} (HB : BookLike kb Bp) {w : World} {qb rb m : Nat} {A : AQ} {B C D : Nat → Prop} {o : OpV} {Ts : List Int} {K : Value → World → Prop} (T : Trio Qt Bp w qb rb A m B C D) (hm : m ≤ 2 ^ 33) (hT : Rd w o.lp o.ln 1 (Ts.flatMap iC)) (hTl : Ts.length = o.ln) (h2 : o.ln ≤ 2 ^ 62) (hTb : ∀ a, o.lp = some a → o.ln * 1 ≠ 0 → ¬ TU B C D a.block)
    (hk : TPost Qt Bp w qb rb A.cf m (TU B C D) fun w' => K (.bool true) w') : callP Tryz.prog 31 [.pointer (some ⟨kb, 0, none⟩), .pointer (some ⟨qb, 0, none⟩), .pointer (some ⟨rb, 0, none⟩), o.val] w K := by
  have hlt := T.lt HB
  have wf := T.q.wf
  have hwl := wf.len
  have hw2 := wf.most2
  have hfl := frees_len A
  have hBl : ∀ b, B b → b < w.heap.size := fun b h => hlt b (.inl h)
  have hCl : ∀ b, C b → b < w.heap.size := fun b h => hlt b (.inr (.inl h))
  refine ok_longshorelaw17_search ?_
  unfold wp_longshorelaw17_search
  refine newB_blk fun w1 b1 c1 z1 => ?_
  simp only [add_at, Nat.zero_add]
  have b1 : blk w1 w.heap.size = some o.cells := b1
  refine ⟨_, by rw [cell_blk b1]; rfl, _, _, _, by rw [cell_blk b1]; rfl, newB_blk fun w2 b2 c2 z2 => ?_⟩
  have b2 : blk w2 (w.heap.size + 1) = some (fcells kb rb (o.f == 1) (.slice o.lp o.ln o.lc) (.slice none 0 0)) := by rw [← z1]; exact b2
  have a2 : blk w2 w.heap.size = some o.cells := by rw [c2.blk (blk_lt b1) id]; exact b1
  have c02 := c1.trans' c2
  rw [z1]
  refine ⟨fun b w3 => b = (o.f == 0 || o.f == 1) ∧ w3 = w2, ?_, ?_⟩
  rotate_left
  · refine ⟨_, by rw [cell_blk a2]; rfl, Sif_cases (fun g => ⟨_, by rw [cell_blk a2]; rfl, ?_, rfl⟩) fun g => ⟨?_, rfl⟩⟩
    · have g : (o.f == 0) = false := by simpa using g
      rw [g, Bool.false_or]
    · have g : (o.f == 0) = true := by simpa using g
      rw [g, Bool.true_or]
  rintro any w3 ⟨hany, h3⟩
  rw [h3]
  clear h3
  refine newE (e0 := En0) (e := Ez.e) fun w4 b4 c4 z4 => newE (e0 := En0) (e := Ez.e) fun w6 b6 c6 z6 => ?_
  have hea : w2.heap.size = w.heap.size + 2 := by omega
  have heb : w4.heap.size = w.heap.size + 3 := by omega
  rw [hea] at b4
  rw [heb] at b6
  rw [hea, heb]
  simp only [add_at, Nat.zero_add]
  have c26 := c4.trans' c6
  have a6 : blk w6 w.heap.size = some o.cells := by rw [c26.blk (blk_lt a2) id]; exact a2
  have f6 : blk w6 (w.heap.size + 1) = some (fcells kb rb (o.f == 1) (.slice o.lp o.ln o.lc) (.slice none 0 0)) := by rw [c26.blk (blk_lt b2) id]; exact b2
  have e6 : blk w6 (w.heap.size + 2) = some Ez.e.cells := by rw [c6.blk (blk_lt b4) id]; exact b4
  have c06 := c02.trans' c26
  have hsz6 : w6.heap.size = w.heap.size + 4 := by omega
  have anyT : any = true → fitOf any Ts = fun _ => true := fun h => by rw [h]; rfl
  -- ahead of the program's call
  have pre : ∀ (v : World) (p1 : Option Addr) (n2 : Nat) (Sw : List Int), Ch (fun _ => False) w6 v → Rd v p1 n2 1 (Sw.flatMap iC) → Sw.length = n2 → (∀ a, p1 = some a → n2 * 1 ≠ 0 → w.heap.size + 4 ≤ a.block) → SV Qt Bp w qb rb kb m A B C D o p1 n2 Sw v := fun v p1 n2 Sw cv hr hl hp => by
    have := cv.size
    refine ⟨T, c06.trans' cv, by omega, by rw [cv.blk (blk_lt a6) id]; exact a6, by rw [cv.blk (blk_lt f6) id]; exact f6, by rw [cv.blk (blk_lt e6) id]; exact e6, by rw [cv.blk (blk_lt b6) id]; exact b6, hr, hl, fun a ha h0 => ⟨hp a ha h0, hr.lt a ha h0⟩⟩
  have hTU : ∀ a, o.lp = some a → o.ln * 1 ≠ 0 → ¬ ((TU B C D a.block ∧ ¬ Qt a.block) ∨ a.block = w.heap.size + 1) := fun a ha h0 h => by
    rcases h with h | h
    · exact hTb a ha h0 h.1
    · have := hT.lt a ha h0; omega
  have J0 : ∀ (v : World) (p1 : Option Addr) (n2 : Nat) (Sw : List Int) (L : List PE), SV Qt Bp w qb rb kb m A B C D o p1 n2 Sw v → FJE Qt Bp v (fun b => (TU B C D b ∧ ¬ Qt b) ∨ b = w.heap.size + 1) kb rb (w.heap.size + 1) m A C L (o.f == 1) (.slice o.lp o.ln o.lc) 0 B v := fun v p1 n2 Sw L S => by
    have := S.sz
    refine ⟨D, none, 0, none, HB.ch T.b S.c fun _ _ => id, T.r.ch S.c fun _ _ => id, S.bf, by simpa using Ow.nil, Nat.zero_le _, fun h => ?_, fun h => ?_, fun h => ?_, (fun b hb => by cases hb), T.DC, T.DB, fun b hb h => T.BC b h hb, fun b hb => .inl (.inl ⟨.inr (.inr hb), T.qD b hb⟩), fun b hb => .inl (.inl ⟨.inl hb, T.qB b hb⟩), .inl (.inr rfl), (fun b hb => by cases hb), Ch.refl _ _⟩
    · have := hlt _ (.inr (.inr h)); omega
    · have := hCl _ h; omega
    · have := hBl _ h; omega
  -- behind both
  refine ⟨fun p1 n2 c1 b1 b2 v => ∃ A' m' B' C' D' xa xb Sa Sw ap ac, Sa.length ≤ 2 ^ 40 ∧ SJ Qt Bp w qb rb kb m A.cf (TU B C D) o (w.heap.size + 1) (w.heap.size + 2) (w.heap.size + 3) p1 n2 b1 b2 v A' m' B' C' D' xa xb Sa Sw ap ac, ?_, ?_⟩
  · rintro p1 n2 c1 b1 b2 v ⟨A', m', B', C', D', xa, xb, Sa, Sw, ap, ac, hl, H⟩
    refine rdN H.ea (rdN H.eb ?_)
    exact tail_ok HB H hm hl hk
  have h1 : w.heap.size < w.heap.size + 1 ∧ w.heap.size + 1 < w.heap.size + 2 ∧ w.heap.size + 2 < w.heap.size + 3 := by omega
  have hCU : ∀ b, C b → TU B C D b := fun b h => .inr (.inl h)
  refine ⟨_, by rw [cell_blk a6]; rfl, Sif_cases (fun hkind => ?_) fun hkind => ?_⟩
  · -- Take
    refine ⟨fun p1 n3 c1 v => ∃ Sw : List Int, n3 = Sw.length ∧ Sw = wantT A o.a (fitOf any Ts) ∧ Rd v p1 n3 1 (Sw.flatMap iC) ∧ (∀ a, p1 = some a → n3 * 1 ≠ 0 → w.heap.size + 4 ≤ a.block) ∧ Ch (fun _ => False) w6 v, ?_, _, by rw [cell_blk a6]; rfl, Sif_cases (fun hh => ?_) fun hh => ?_⟩
    rotate_left
    · have hh : o.a ≥ 1 := of_decide_eq_true hh
      obtain ⟨_, R0, rp, rc, ro, RR, RE, rfl, _⟩ := T.r.ch c06 fun _ _ => id
      have hR0 : R0.length = A.L.length := by rw [← RE, List.length_map]
      refine rord_ok RR (by omega) fun p c w7 G ow hG hGp o7 how c7 => ⟨_, _, _, rfl, ?_⟩
      have a7 : blk w7 w.heap.size = some o.cells := by rw [c7.blk (blk_lt a6) id]; exact a6
      have hGl : G.length = R0.length := hGp.length_eq
      refine ⟨_, _, _, by rw [cell_blk a7]; rfl, ?_⟩
      refine asked_ok (G := G) (T := Ts) o7.rd rfl (hT.ch (c06.trans' c7) fun _ _ _ => id) hTl (by omega) h2 fun p n c w8 own hn o8 hown c8 => ⟨_, _, _, _, rfl, ?_⟩
      have e1 : askedH (fitOf any Ts) (G.map Et.pe) = asked (fitOf any Ts) A.frees := by rw [hG, RE]; rfl
      rw [e1] at hn o8
      refine ⟨_, by rw [hn, List.length_map], ?_, o8.rd, fun a ha h0 => ?_, c7.trans' c8⟩
      · unfold wantT
        rw [if_neg (by omega)]
      · have := own_pl (x := ⟨p, n, c, own⟩) o8 ha h0
        have := hown _ this
        have := c7.size
        omega
    · have hh : ¬ o.a ≥ 1 := of_decide_eq_false hh
      refine ⟨[], rfl, ?_, empty_rd _, (fun a ha => by cases ha), Ch.refl _ _⟩
      unfold wantT
      rw [if_pos (by omega)]
    rintro p1 _ c1 v ⟨Sw, rfl, hSw, hr, hp, cv⟩
    have S := pre v p1 _ Sw cv hr rfl hp
    have Qv := T.q.ch S.c fun _ _ => id
    refine ⟨fun b1 v => ∃ m' B' D' xa Sa ap ac, Sa.length ≤ 2 ^ 40 ∧ SM Qt Bp w qb rb kb m A C (TU B C D) o (w.heap.size + 1) (w.heap.size + 2) (w.heap.size + 3) (A.take o.a (fitOf any Ts)).2 (A.take o.a (fitOf any Ts)).1 p1 Sw.length b1 v m' B' D' xa Sa Sw ap ac, ?_, _, by rw [cell_blk S.ba]; rfl, Sif_cases (fun hf => ?_) fun hf => ?_⟩
    · rintro b1 v ⟨m', B', D', xa, Sa, ap, ac, hl, H⟩
      refine ⟨_, by rw [cell_blk H.ba]; rfl, _, _, _, by rw [cell_blk H.ba]; rfl, ?_⟩
      refine rtake_ok H.r (hT.ch H.ch fun a ha h0 h => hTb a ha h0 h.1) hTl h2 (fun hn w' C' R' cC hC' => ⟨_, _, _, _, _, _, _, _, _, _, rfl, ?_⟩) fun y hy xb hxb w' C' R' cC hC' hxo => ⟨_, _, _, _, _, _, _, _, _, _, rfl, ?_⟩
      · exact done_ok (xb := Ez) HB H hCl hCU h1 R' cC hC' (Ez_ok _) (by rw [hn]; rfl) (by rw [hn]; rfl) fun w'' J => ⟨_, _, _, _, _, _, _, _, _, _, _, hl, J⟩
      · exact done_ok (xb := xb) HB H hCl hCU h1 R' cC hC' hxo (by rw [hxb, hy]; rfl) (by rw [hy]; rfl) fun w'' J => ⟨_, _, _, _, _, _, _, _, _, _, _, hl, J⟩
    · have hf : o.f = 0 := by simpa using hf
      have ha : any = true := by rw [hany, hf]; rfl
      have hfit := anyT ha
      rw [hfit]
      refine ⟨_, by rw [cell_blk S.ba]; rfl, ?_⟩
      refine qtake_ok Qv (fun hn w' B' Q' cB hB' => ⟨_, _, _, _, _, _, _, _, _, _, rfl, ?_⟩) fun y hy x hx w' B' Q' cB hB' hout => ⟨_, _, _, _, _, _, _, _, _, _, rfl, ?_⟩
      · exact nil_ok (x := Ez) HB S hf Q' (take_cf ..) cB hB' (Ez_ok _) (fun b hb => by cases hb) (by rw [hn]; rfl) (by show 0 ≤ _; omega) (by rw [hn]; rfl) fun w'' M => ⟨_, _, _, _, _, _, _, by simp, M⟩
      · exact nil_ok (x := x) HB S hf Q' (take_cf ..) cB hB' hout.ok hout.off (by rw [hx, hy]; rfl) (by rw [show x.l = y.l by rw [← hx]; rfl]; exact take_small wf hy) (by rw [hy]; rfl) fun w'' M => ⟨_, _, _, _, _, _, _, by simp, M⟩
    · have hf : ¬ o.f = 0 := by simpa using hf
      have ha : any = (o.f == 1) := by
        rw [hany, show (o.f == 0) = false by simpa using hf, Bool.false_or]
      have As := fits_ok (C := C) (A := A) (fb := w.heap.size + 1) (w0 := v) (Qt := Qt) (U := fun b => (TU B C D b ∧ ¬ Qt b) ∨ b = w.heap.size + 1) (rb := rb) (m0 := m) (L := A.frees) (any := (o.f == 1)) (lc := o.lc) HB (fun x => frees_mem) (by omega) (hT.ch S.c fun _ _ _ => id) hTl h2 hTU
      rw [← ha] at As
      have hJ := J0 v p1 _ Sw A.frees S
      rw [← ha] at hJ
      refine ⟨_, by rw [cell_blk S.ba]; rfl, ?_⟩
      have S' := S
      rw [hSw, wantT_eq] at S'
      have hSl : Sw.length = (A.frees.take (takeN A o.a (fitOf any Ts))).length := by rw [hSw, wantT_eq, List.length_map]
      have hw2' : (List.map (·.seq) (A.frees.take (takeN A o.a (fitOf any Ts)))).length = Sw.length := by rw [hSl, List.length_map]
      have eSw : Sw = (A.frees.take (takeN A o.a (fitOf any Ts))).map (·.seq) := by rw [hSw, wantT_eq]
      refine qtakef_ok Qv As hJ (fun hn w' B' Q' J => ⟨_, _, _, _, _, _, _, _, _, _, rfl, ?_⟩) fun y hy x hx w' B' Q' hxo hxB J => ⟨_, _, _, _, _, _, _, _, _, _, rfl, ?_⟩
      · have J' := As.st J (Ch.refl _ _) (Pr' := fun b => B' b ∨ Ez.own = some b) fun b hb => hb.elim .inl fun h => by cases h
        rw [ha] at J'
        rw [hw2'] at S'
        have := fit_ok (x := Ez) (res := (A.take o.a (fitOf any Ts)).1) (b1 := false) HB S' (by omega) (by rw [ha]; exact J') Q' (take_cf ..) (Ez_ok _) (fun b hb => by cases hb) (by rw [hn]; rfl) (by show 0 ≤ _; omega) (by rw [hn]; rfl)
          (K := fun v => ∃ m' B' D' xa Sa ap ac, Sa.length ≤ 2 ^ 40 ∧ SM Qt Bp w qb rb kb m A C (TU B C D) o (w.heap.size + 1) (w.heap.size + 2) (w.heap.size + 3) (A.take o.a (fitOf any Ts)).2 (A.take o.a (fitOf any Ts)).1 p1 Sw.length false v m' B' D' xa Sa Sw ap ac) fun w'' m' D' Sa ap ac hl M => ⟨_, _, _, _, _, _, _, hl, by rw [← eSw] at M; exact M⟩
        exact this
      · rw [ha] at J
        rw [hw2'] at S'
        have := fit_ok (x := x) (res := (A.take o.a (fitOf any Ts)).1) (b1 := true) HB S' (by omega) (by rw [ha]; exact J) Q' (take_cf ..) hxo hxB (by rw [hx, hy]; rfl) (by rw [show x.l = y.l by rw [← hx]; rfl]; exact take_small wf hy) (by rw [hy]; rfl)
          (K := fun v => ∃ m' B' D' xa Sa ap ac, Sa.length ≤ 2 ^ 40 ∧ SM Qt Bp w qb rb kb m A C (TU B C D) o (w.heap.size + 1) (w.heap.size + 2) (w.heap.size + 3) (A.take o.a (fitOf any Ts)).2 (A.take o.a (fitOf any Ts)).1 p1 Sw.length true v m' B' D' xa Sa Sw ap ac) fun w'' m' D' Sa ap ac hl M => ⟨_, _, _, _, _, _, _, hl, by rw [← eSw] at M; exact M⟩
        exact this
  · -- Peek
    refine ⟨_, by rw [cell_blk a6]; rfl, ?_⟩
    obtain ⟨_, R0, rp, rc, ro, RR, RE, hCe, _⟩ := T.r.ch c06 fun _ _ => id
    have hR0 : R0.length = A.L.length := by rw [← RE, List.length_map]
    have hll := later_len A o.a
    refine rlater_ok RR (by omega) fun p c w7 G ow hG o7 how c7 => ⟨_, _, _, rfl, ?_⟩
    have a7 : blk w7 w.heap.size = some o.cells := by rw [c7.blk (blk_lt a6) id]; exact a6
    have hGl : G.length ≤ R0.length := by rw [hG]; exact List.length_filter_le ..
    refine ⟨_, _, _, by rw [cell_blk a7]; rfl, ?_⟩
    refine asked_ok (G := G) (T := Ts) o7.rd rfl (hT.ch (c06.trans' c7) fun _ _ _ => id) hTl (by omega) h2 fun p1 n c w8 own hn o8 hown c8 => ⟨_, _, _, _, rfl, ?_⟩
    have e1 : askedH (fitOf any Ts) (G.map Et.pe) = asked (fitOf any Ts) (A.later o.a) := by
      unfold askedH AQ.later
      rw [hG, ← RE, List.filter_map, List.filter_map, List.filter_map]; rfl
    rw [e1] at hn o8
    have cv : Ch (fun _ => False) w6 w8 := c7.trans' c8
    have s7 := c7.size
    have eSw : (asked (fitOf any Ts) (A.later o.a)).map (·.seq) = ((A.later o.a).take (peekN A o.a (fitOf any Ts))).map (·.seq) := by
      unfold peekN; rw [asked_take]
    rw [eSw] at o8
    have hwl2 : (List.map (·.seq) ((A.later o.a).take (peekN A o.a (fitOf any Ts)))).length = n := by rw [← eSw, List.length_map, hn]
    have S := pre w8 p1 n _ cv o8.rd hwl2 fun a ha h0 => by
      have := own_pl (x := ⟨p1, n, c, own⟩) o8 ha h0
      have := hown _ this
      omega
    have Qv := T.q.ch S.c fun _ _ => id
    refine ⟨fun b1 v => ∃ m' B' D' xa Sa ap ac, Sa.length ≤ 2 ^ 40 ∧ SM Qt Bp w qb rb kb m A C (TU B C D) o (w.heap.size + 1) (w.heap.size + 2) (w.heap.size + 3) A (A.peek o.a (fitOf any Ts)) p1 n b1 v m' B' D' xa Sa (((A.later o.a).take (peekN A o.a (fitOf any Ts))).map (·.seq)) ap ac, ?_, _, by rw [cell_blk S.ba]; rfl, Sif_cases (fun hf => ?_) fun hf => ?_⟩
    · rintro b1 v ⟨m', B', D', xa, Sa, ap, ac, hl, H⟩
      refine ⟨_, by rw [cell_blk H.ba]; rfl, _, _, _, by rw [cell_blk H.ba]; rfl, ?_⟩
      refine rpeek_ok H.r (hT.ch H.ch fun a ha h0 h => hTb a ha h0 h.1) hTl h2 (fun hn w' cC => ⟨_, _, _, _, _, _, _, _, _, _, rfl, ?_⟩) fun y hy xb hxb w' cC hxo => ⟨_, _, _, _, _, _, _, _, _, _, rfl, ?_⟩
      · exact done_ok (xb := Ez) HB H hCl hCU h1 (H.r.ch cC fun _ _ => id) (cC.mono fun _ _ h => h.elim) (fun b hb => .inl hb) (Ez_ok _) (by rw [hn]; rfl) (by rw [hn]; rfl) fun w'' J => ⟨_, _, _, _, _, _, _, _, _, _, _, hl, J⟩
      · exact done_ok (xb := xb) HB H hCl hCU h1 (H.r.ch cC fun _ _ => id) (cC.mono fun _ _ h => h.elim) (fun b hb => .inl hb) hxo (by rw [hxb, hy]; rfl) (by rw [hy]; rfl) fun w'' J => ⟨_, _, _, _, _, _, _, _, _, _, _, hl, J⟩
    · have hf : o.f = 0 := by simpa using hf
      have ha : any = true := by rw [hany, hf]; rfl
      have hfit := anyT ha
      refine ⟨_, by rw [cell_blk S.ba]; rfl, ?_⟩
      refine qpeekn_ok Qv (fun hn w' Q' cB => ⟨_, _, _, _, _, _, _, _, _, _, rfl, ?_⟩) fun y hy x hx w' Q' hxo hxn cB => ⟨_, _, _, _, _, _, _, _, _, _, rfl, ?_⟩
      · exact nil_ok (x := Ez) (res := A.peek o.a (fitOf any Ts)) HB S hf Q' rfl (cB.mono fun b hb h => by omega) (fun b hb => .inl hb) (Ez_ok _) (fun b hb => by cases hb) (by rw [hfit, hn]; rfl) (by show 0 ≤ _; omega) (by rw [hfit, hn]; rfl) fun w'' M => ⟨_, _, _, _, _, _, _, by simp, M⟩
      · exact nil_ok (x := x) (res := A.peek o.a (fitOf any Ts)) HB S hf Q' rfl (cB.mono fun b hb h => by omega) (fun b hb => .inl hb) hxo (fun b hb => ⟨fun h => by have := hxn b hb; have := Qv.lt b h; omega, .inr (hxn b hb)⟩) (by rw [hfit, hx, hy]; rfl) (by rw [show x.l = y.l by rw [← hx]; rfl]; exact find_ok wf (fun x => later_mem) hy) (by rw [hfit, hy]; rfl) fun w'' M => ⟨_, _, _, _, _, _, _, by simp, M⟩
    · have hf : ¬ o.f = 0 := by simpa using hf
      have ha : any = (o.f == 1) := by
        rw [hany, show (o.f == 0) = false by simpa using hf, Bool.false_or]
      have As := fits_ok (C := C) (A := A) (fb := w.heap.size + 1) (w0 := w8) (Qt := Qt) (U := fun b => (TU B C D b ∧ ¬ Qt b) ∨ b = w.heap.size + 1) (rb := rb) (m0 := m) (L := A.later o.a) (any := (o.f == 1)) (lc := o.lc) HB (fun x => later_mem) (by omega) (hT.ch S.c fun _ _ _ => id) hTl h2 hTU
      rw [← ha] at As
      have hJ := J0 w8 p1 _ _ (A.later o.a) S
      rw [← ha] at hJ
      refine ⟨_, by rw [cell_blk S.ba]; rfl, ?_⟩
      refine qpeekf_ok Qv As hJ (fun hn w' Q' J => ⟨_, _, _, _, _, _, _, _, _, _, rfl, ?_⟩) fun y hy x hx w' Q' hxo hxB J => ⟨_, _, _, _, _, _, _, _, _, _, rfl, ?_⟩
      · have J' := As.st J (Ch.refl _ _) (Pr' := fun b => B b ∨ Ez.own = some b) fun b hb => hb.elim .inl fun h => by cases h
        rw [ha] at J'
        have := fit_ok (x := Ez) (res := A.peek o.a (fitOf any Ts)) (b1 := false) HB S (by omega) (by rw [ha]; exact J') Q' rfl (Ez_ok _) (fun b hb => by cases hb) (by rw [hn]; rfl) (by show 0 ≤ _; omega) (by rw [hn]; rfl)
          (K := fun v => ∃ m' B' D' xa Sa ap ac, Sa.length ≤ 2 ^ 40 ∧ SM Qt Bp w qb rb kb m A C (TU B C D) o (w.heap.size + 1) (w.heap.size + 2) (w.heap.size + 3) A (A.peek o.a (fitOf any Ts)) p1 n false v m' B' D' xa Sa (((A.later o.a).take (peekN A o.a (fitOf any Ts))).map (·.seq)) ap ac) fun w'' m' D' Sa ap ac hl M => ⟨_, _, _, _, _, _, _, hl, M⟩
        exact this
      · rw [ha] at J
        have := fit_ok (x := x) (res := A.peek o.a (fitOf any Ts)) (b1 := true) HB S (by omega) (by rw [ha]; exact J) Q' rfl hxo hxB (by rw [hx, hy]; rfl) (by rw [show x.l = y.l by rw [← hx]; rfl]; exact find_ok wf (fun x => later_mem) hy) (by rw [hy]; rfl)
          (K := fun v => ∃ m' B' D' xa Sa ap ac, Sa.length ≤ 2 ^ 40 ∧ SM Qt Bp w qb rb kb m A C (TU B C D) o (w.heap.size + 1) (w.heap.size + 2) (w.heap.size + 3) A (A.peek o.a (fitOf any Ts)) p1 n true v m' B' D' xa Sa (((A.later o.a).take (peekN A o.a (fitOf any Ts))).map (·.seq)) ap ac) fun w'' m' D' Sa ap ac hl M => ⟨_, _, _, _, _, _, _, hl, M⟩
        exact this
end Go.Proofs.YtipbbjnmpnfhpaaGreatDoor
namespace Go.Proofs.YtipbbjnmpnfhpaaGreatDoor
open Go Go.Sv Go.Heap Go.Qu Go.MapKept
set_option linter.unusedVariables false
set_option maxRecDepth 4000
/-- an entry that came out of both is looked at, and taken -/
theorem both_ok {Qt : Nat → Prop} {Bp : World → Nat → (Nat → Prop) → Prop} {kb : Nat} (HB : BookLike kb Bp) {w w1 w2 w3 w4 : World} {qb rb m : Nat} {A A1 : AQ} {B C D B1 C1 : Nat → Prop} {x xb : Et} {Kf : Bool → World → Prop} (T : Trio Qt Bp w qb rb A m B C D) (hm : m ≤ 2 ^ 33)
    (Q1 : QK w1 qb A1 B1) (cB : Ch B w w1) (hB1 : ∀ b, B1 b → B b ∨ w.heap.size ≤ b) (hx : EtE.Ok w1 x) (hxo : ∀ b, x.own = some b → ¬ B1 b ∧ (B b ∨ w.heap.size ≤ b)) (hxl : x.l.length ≤ 1048576) (c2 : Ch (fun _ => False) w1 w2) (b2 : blk w2 w1.heap.size = some x.e.cells)
    (R3 : RQ Qt w3 rb A1 C1) (cC : Ch (fun b => C b ∧ ¬ Qt b) w2 w3) (hC1 : ∀ b, C1 b → C b ∨ w2.heap.size ≤ b) (hxb : EtE.Ok w3 xb) (hpe : xb.pe = x.pe) (c4 : Ch (fun _ => False) w3 w4) (hcf : A1.cf = A.cf)
    (hk : TPost Qt Bp w qb rb A.cf m (TU B C D) fun w' => Kf true w') :
    callP Tryz.prog 11 [x.e.val, xb.e.val] w4 fun v2 w21 => ∃ b9 : Bool, v2 = .bool b9 ∧ ∃ n31 : Int, w21.cell? ⟨w1.heap.size, 0, none⟩ = some (.int .i64 n31) ∧ ∃ n32 : Int, w21.cell? ⟨w1.heap.size, 1, none⟩ = some (.int .i64 n32) ∧ ∃ n33 : Int, w21.cell? ⟨w1.heap.size, 2, none⟩ = some (.int .i64 n33) ∧ ∃ b10 : Bool, w21.cell? ⟨w1.heap.size, 3, none⟩ = some (.bool b10) ∧ ∃ n34 : Int, w21.cell? ⟨w1.heap.size, 4, none⟩ = some (.int .i64 n34) ∧ ∃ n35 : Int, w21.cell? ⟨w1.heap.size, 5, none⟩ = some (.int .i64 n35) ∧ ∃ p4 n36 c4, w21.cell? ⟨w1.heap.size, 6, none⟩ = some (.slice p4 n36 c4) ∧
      callP Tryz.prog 33 [.pointer (some ⟨kb, 0, none⟩), .agg #[.int .i64 n31, .int .i64 n32, .int .i64 n33, .bool b10, .int .i64 n34, .int .i64 n35, .slice p4 n36 c4]] w21 fun v3 w22 => v3 = .tuple #[] ∧ Kf b9 w22 := by
  have hlt := T.lt HB
  have s1 := cB.size
  have s2 := c2.size
  have s3 := cC.size
  have s4 := c4.size
  have hCl : ∀ b, C b → b < w.heap.size := fun b h => hlt b (.inr (.inl h))
  have xlt := hx.blt
  have xC : ∀ b, x.own = some b → ¬ C b := fun b hb h => by
    rcases (hxo b hb).2 with q | q
    · exact T.BC b q h
    · have := hCl b h; omega
  have hx2 : EtE.Ok w2 x := EtE.ch hx c2 fun _ _ => id
  have hx4 : EtE.Ok w4 x := EtE.ch (EtE.ch hx2 cC fun b hb h => xC b (by simpa [EtE, Option.mem_toList] using hb) h.1) c4 fun _ _ => id
  have hxb4 : EtE.Ok w4 xb := EtE.ch hxb c4 fun _ _ => id
  have e4 : blk w4 w1.heap.size = some x.e.cells := by
    have h3 : blk w3 w1.heap.size = some x.e.cells := by rw [cC.blk (blk_lt b2) fun h => by have := hCl _ h.1; omega]; exact b2
    rw [c4.blk (blk_lt h3) id]; exact h3
  have hll : xb.l = x.l := congrArg PE.l hpe
  refine same_ok (a := x.e) (b := xb.e) (l := x.l) hx4.rd (by have := hxb4.rd; rw [hll] at this; exact this) (by
    show x.pe = xb.e.as x.l
    rw [← hll, ← hpe]; rfl) fun w21 c21 => ⟨true, rfl, ?_⟩
  have e21 : blk w21 w1.heap.size = some x.e.cells := by rw [c21.blk (blk_lt e4) id]; exact e4
  refine rdN e21 ?_
  -- the book has not been touched
  have cb : Ch (fun b => (B b ∨ C b) ∧ ¬ Qt b) w w21 := ((((cB.mono fun b _ h => ⟨.inl h, T.qB b h⟩).trans c2 fun b hb h => h.elim).trans cC fun b hb h => ⟨.inr h.1, h.2⟩).new c4).new c21
  have hb21 : Bp w21 m D := HB.ch T.b cb fun b hb h => by
    rcases h.1 with h | h
    · exact T.DB b hb h
    · exact T.DC b hb h
  have hxlen := EtE.len hx
  have xD : ∀ b, x.own = some b → ¬ D b := fun b hb h => by
    rcases (hxo b hb).2 with q | q
    · exact T.DB b h q
    · have := hlt b (.inr (.inr h)); omega
  refine HB.take hb21 (EtE.ch hx4 c21 fun _ _ => id) xD (by omega) (by omega) fun w22 D2 b22 c22 hD2 => ⟨rfl, ?_⟩
  have s21 := c21.size
  have B1l := Q1.lt
  have C1l := R3.lt
  have Q22 : QK w22 qb A1 B1 := (((Q1.ch c2 fun _ _ => id).ch cC fun b hb h => by
    rcases hB1 b hb with q | q
    · exact T.BC b q h.1
    · have := hCl b h.1; omega).ch (c4.trans' c21) fun _ _ => id).ch c22 fun b hb h => by
      rcases h with h | h
      · rcases hB1 b hb with q | q
        · exact T.DB b h q
        · have := hlt b (.inr (.inr h)); omega
      · exact (hxo b h).1 hb
  have R22 : RQ Qt w22 rb A1 C1 := (R3.ch (c4.trans' c21) fun _ _ => id).ch c22 fun b hb h => by
    rcases hC1 b hb with q | q
    · rcases h with h | h
      · exact T.DC b h q
      · exact xC b h q
    · rcases h with h | h
      · have := hlt b (.inr (.inr h)); omega
      · have := xlt b h; omega
  have hD2' : ∀ b, D2 b → D b ∨ x.own = some b ∨ w4.heap.size ≤ b := fun b hb => by
    rcases hD2 b hb with q | q | q
    · exact .inl q
    · exact .inr (.inl q)
    · exact .inr (.inr (by omega))
  have qlo := T.r.qlo
  have xq : ∀ b, x.own = some b → ¬ Qt b := fun b hb h => (hxo b hb).2.elim (fun q => T.qB b q h) fun q => by have := qlo b h; omega
  refine hk w22 A1 (m + 1) B1 C1 D2 ⟨Q22, R22, b22, fun b hb h => ?_, fun b hb h => ?_, fun b hb h => ?_, fun b hb h => ?_, fun b hb h => ?_⟩ (by omega) hcf ?_ fun b hb => ?_
  · rcases hC1 b h with q | q
    · rcases hB1 b hb with g | g
      · exact T.BC b g q
      · have := hCl b q; omega
    · have := B1l b hb; omega
  · rcases hD2' b hb with q | q | q
    · rcases hB1 b h with g | g
      · exact T.DB b q g
      · have := hlt b (.inr (.inr q)); omega
    · exact (hxo b q).1 h
    · have := B1l b h; omega
  · rcases hD2' b hb with q | q | q
    · rcases hC1 b h with g | g
      · exact T.DC b q g
      · have := hlt b (.inr (.inr q)); omega
    · rcases hC1 b h with g | g
      · exact xC b q g
      · have := xlt b q; omega
    · have := C1l b h; omega
  · exact (hB1 b hb).elim (fun q => T.qB b q h) fun q => by have := qlo b h; omega
  · rcases hD2' b hb with q | q | q
    · exact T.qD b q h
    · exact xq b q h
    · have := qlo b h; omega
  · refine (cb.mono fun b _ h => ⟨h.1.elim .inl fun h => .inr (.inl h), h.2⟩).trans c22 fun b hb h => ?_
    rcases h with h | h
    · exact ⟨.inr (.inr h), T.qD b h⟩
    · rcases (hxo b h).2 with q | q
      · exact ⟨.inl q, T.qB b q⟩
      · omega
  · rcases hb with h | h | h
    · rcases hB1 b h with q | q
      · exact .inl (.inl q)
      · exact .inr q
    · rcases hC1 b h with q | q
      · exact .inl (.inr (.inl q))
      · exact .inr (by omega)
    · rcases hD2' b h with q | q | q
      · exact .inl (.inr (.inr q))
      · rcases (hxo b q).2 with g | g
        · exact .inl (.inl g)
        · exact .inr g
      · exact .inr (by omega)
/-- new blocks, old blocks: apart -/
theorem apart3 {B C D B1 C1 D2 X : Nat → Prop} {n n2 n4 : Nat} (l : ∀ b, TU B C D b → b < n) (BC : ∀ b, B b → ¬ C b) (DB : ∀ b, D b → ¬ B b) (DC : ∀ b, D b → ¬ C b) (h2 : n ≤ n2) (h4 : n2 ≤ n4) (hB : ∀ b, B1 b → (B b ∨ n ≤ b) ∧ b < n2) (hC : ∀ b, C1 b → (C b ∨ n2 ≤ b) ∧ b < n4) (hD : ∀ b, D2 b → D b ∨ X b ∨ n4 ≤ b) (hX : ∀ b, X b → ¬ B1 b ∧ ¬ C1 b) :
    (∀ b, B1 b → ¬ C1 b) ∧ (∀ b, D2 b → ¬ B1 b) ∧ (∀ b, D2 b → ¬ C1 b) := by
  refine ⟨fun b hb hc => ?_, fun b hd hb => ?_, fun b hd hc => ?_⟩
  · rcases (hC b hc).1 with q | q
    · rcases (hB b hb).1 with g | g
      · exact BC b g q
      · have := l b (.inr (.inl q)); omega
    · have := (hB b hb).2; omega
  · rcases hD b hd with q | q | q
    · rcases (hB b hb).1 with g | g
      · exact DB b q g
      · have := l b (.inr (.inr q)); omega
    · exact (hX b q).1 hb
    · have := (hB b hb).2; omega
  · rcases hD b hd with q | q | q
    · rcases (hC b hc).1 with g | g
      · exact DC b q g
      · have := l b (.inr (.inr q)); omega
    · exact (hX b q).2 hc
    · have := (hC b hc).2; omega
theorem back_small {A : AQ} (W : WQ A) {q h : Int} {f : Bool} {y : PE} {d : Bool} (e : (A.back q h f).1 = some (y, d)) : y.l.length ≤ 1048576 := by
  unfold AQ.back at e
  split at e
  · cases e
  · rename_i x hx
    have hm := (W.ok x (find_mem hx).1).len
    split at e
    · cases e
    · split at e <;> (cases e; exact hm)
theorem remove_small {A : AQ} (W : WQ A) {q h : Int} {y : PE} (e : (A.remove q h).1 = some y) : y.l.length ≤ 1048576 := by
  unfold AQ.remove at e
  split at e
  · cases e
  · rename_i x hx
    have hm := (W.ok x (find_mem hx).1).len
    split at e
    · cases e
    · cases e; exact hm
set_option maxHeartbeats 4000000 in
theorem step_ok {Qt : Nat → Prop} {w : World} {kb qb rb m : Nat} {A : AQ} {B C D : Nat → Prop} {o : OpV} {Ts : List Int} {l : List UInt8} {K : Value → World → Prop} (T : Trio Qt (BK kb) w qb rb A m B C D) (hm : m ≤ 2 ^ 33) (hT : Rd w o.lp o.ln 1 (Ts.flatMap iC)) (hTl : Ts.length = o.ln) (h2 : o.ln ≤ 2 ^ 62) (hTb : ∀ a, o.lp = some a → o.ln * 1 ≠ 0 → ¬ TU B C D a.block)
    (hE : Rd w o.e.p o.e.n 1 (bytesV l)) (hEb : ∀ a, o.e.p = some a → o.e.n * 1 ≠ 0 → ¬ TU B C D a.block) (hEn : o.e.n ≤ 2 ^ 39) (hEs : o.e.seq ≤ 9223372036854775807)
    (hk : TPost Qt (BK kb) w qb rb A.cf m (TU B C D) fun w' => K (.bool true) w') : callP Tryz.prog 12 [.pointer (some ⟨kb, 0, none⟩), .pointer (some ⟨qb, 0, none⟩), .pointer (some ⟨rb, 0, none⟩), o.val] w K := by
  have HB := BK.like kb
  refine ok_longshorelaw17_step ?_
  unfold wp_longshorelaw17_step
  refine newB_blk fun w1 b1 c1 z1 => ?_
  simp only [add_at, Nat.zero_add]
  have b1 : blk w1 w.heap.size = some o.cells := b1
  have T1 := T.ch HB c1 fun _ _ => id
  have hT1 := hT.ch c1 fun _ _ _ => id
  have hE1 := hE.ch c1 fun _ _ _ => id
  have hlt := T.lt HB
  have wf := T.q.wf
  have hwl := wf.len
  have hw2 := wf.most2
  have hk1 : TPost Qt (BK kb) w1 qb rb A.cf m (TU B C D) fun w' => K (.bool true) w' := fun w' A' m' B' C' D' T' h1 h2 c h => hk w' A' m' B' C' D' T' h1 h2 ((c1.mono fun _ _ h => h.elim).trans c fun _ _ h => h) fun b hb => (h b hb).imp id fun h => by omega
  have na : ¬ TU B C D w.heap.size := fun h => by have := hlt _ h; omega
  refine ⟨_, by rw [cell_blk b1]; rfl, Sif_cases (fun g1 => ?_) fun g1 => ?_⟩
  · -- Put
    simp only [cell_blk b1]
    refine ⟨_, rfl, _, rfl, _, rfl, _, rfl, _, rfl, _, rfl, _, _, _, rfl, ?_⟩
    refine put_ok (e := o.e) (l := l) T1.q T1.r T1.qB T1.BC hE1 (fun a ha h0 => ⟨fun h => hEb a ha h0 (.inl h), fun h => hEb a ha h0 (.inr (.inl h))⟩) hEn hEs fun w2 B' C' Q' R' hBC c2 hB' hC' => ⟨true, rfl, ?_⟩
    have hcf : (A.put (o.e.as l)).2.cf = A.cf := by
      unfold AQ.put
      split
      · rfl
      · split
        · rfl
        · split <;> rfl
    refine hk1 w2 _ m B' C' D ⟨Q', R', HB.ch T1.b c2 fun b hb h => ?_, hBC, fun b hb h => ?_, fun b hb h => ?_, fun b hb h => (hB' b hb).elim (fun q => T.qB b q h) fun q => by have := T.r.qlo b h; omega, T.qD⟩ (by omega) hcf (c2.mono fun b _ h => ⟨h.1.elim .inl fun h => .inr (.inl h), h.2⟩) fun b hb => ?_
    · rcases h.1 with h | h
      · exact T.DB b hb h
      · exact T.DC b hb h
    · rcases hB' b h with q | q
      · exact T.DB b hb q
      · have := hlt b (.inr (.inr hb)); omega
    · rcases hC' b h with q | q
      · exact T.DC b hb q
      · have := hlt b (.inr (.inr hb)); omega
    · rcases hb with h | h | h
      · exact (hB' b h).imp .inl id
      · exact (hC' b h).imp (fun h => .inr (.inl h)) id
      · exact .inl (.inr (.inr h))
  refine ⟨fun b w' => b = (o.k == 2 || o.k == 3) ∧ w' = w1, ?_, ?_⟩
  rotate_left
  · refine Sif_cases (fun g => ?_) fun g => ?_
    · refine ⟨?_, rfl⟩
      rw [show (o.k == 2) = true from g]; rfl
    · refine ⟨?_, rfl⟩
      rw [show (o.k == 2) = false from g]; rfl
  rintro bs w2 ⟨hbs, hw2'⟩
  rw [hw2']
  clear hw2'
  refine Sif_cases (fun g => ?_) fun g => ?_
  · -- Take, Peek
    simp only [cell_blk b1]
    refine ⟨_, rfl, _, rfl, _, rfl, _, rfl, _, _, _, rfl, _, rfl, _, rfl, _, rfl, _, rfl, _, rfl, _, rfl, _, rfl, _, _, _, rfl, ?_⟩
    exact search_ok HB T1 (by omega) hT1 hTl h2 hTb fun w' A' m' B' C' D' T' e1 e2 c h => ⟨true, rfl, hk1 w' A' m' B' C' D' T' e1 e2 c h⟩
  refine Sif_cases (fun g4 => ?_) fun g4 => ?_
  · -- Back
    refine ⟨_, by rw [cell_blk b1]; rfl, _, by rw [cell_blk b1]; rfl, _, by rw [cell_blk b1]; rfl, ?_⟩
    refine qback_ok T1.q (fun hn w2 B1 Q1 cB hB1 => ⟨_, _, _, _, _, _, _, _, _, _, _, rfl, ?_⟩) fun y d hy x hx w2 B1 Q1 cB hB1 hout => ⟨_, _, _, _, _, _, _, _, _, _, _, rfl, ?_⟩
    · refine newE (e0 := En0) (e := Ez.e) fun w3 b3 c3 z3 => ?_
      have a3 : blk w3 w.heap.size = some o.cells := by rw [c3.blk (by have := blk_lt b1; have := cB.size; omega) id, cB.blk (blk_lt b1) fun h => na (.inl h)]; exact b1
      simp only [add_at, Nat.zero_add]
      refine ⟨_, by rw [cell_blk a3]; rfl, _, by rw [cell_blk a3]; rfl, _, by rw [cell_blk a3]; rfl, ?_⟩
      have R3 := (T1.r.ch cB fun b hb h => T.BC b h hb).ch c3 fun _ _ => id
      refine rback_ok R3 (fun hn2 w4 C1 R4 cC hC1 => ⟨_, _, _, _, _, _, _, _, _, _, _, rfl, ?_⟩) fun y2 d2 hy2 => absurd (hn.symm.trans hy2) nofun
      refine newE (e0 := En0) (e := Ez.e) fun w5 b5 c5 z5 => ?_
      have b35 : blk w5 w2.heap.size = some Ez.e.cells := by
        have h4 : blk w4 w2.heap.size = some Ez.e.cells := by rw [cC.blk (blk_lt b3) fun h => by have := hlt _ (.inr (.inl h.1)); have := cB.size; omega]; exact b3
        rw [c5.blk (blk_lt h4) id]; exact h4
      simp only [add_at, Nat.zero_add]
      refine rdN b35 (rdN b5 ?_)
      exact both_ok (x := Ez) (xb := Ez) (Kf := fun b9 w22 => Sif b9 (Sif (false == false) (K (.bool ((171 : Int) == 171)) w22) (K (.bool false) w22)) (K (.bool false) w22)) HB T1 (by omega) Q1 cB hB1 (Ez_ok _) (fun b hb => by cases hb) (by show 0 ≤ _; omega) c3 b3 R4 cC hC1 (Ez_ok _) rfl c5 (kin_back wf ..).1.cf hk1
    · refine newE (e0 := En0) (e := x.e) fun w3 b3 c3 z3 => ?_
      have a3 : blk w3 w.heap.size = some o.cells := by rw [c3.blk (by have := blk_lt b1; have := cB.size; omega) id, cB.blk (blk_lt b1) fun h => na (.inl h)]; exact b1
      simp only [add_at, Nat.zero_add]
      refine ⟨_, by rw [cell_blk a3]; rfl, _, by rw [cell_blk a3]; rfl, _, by rw [cell_blk a3]; rfl, ?_⟩
      have R3 := (T1.r.ch cB fun b hb h => T.BC b h hb).ch c3 fun _ _ => id
      refine rback_ok R3 (fun hn2 => absurd (hn2.symm.trans hy) nofun) fun y2 d2 hy2 xb hxb w4 C1 R4 cC hC1 hxo => ⟨_, _, _, _, _, _, _, _, _, _, _, rfl, ?_⟩
      rw [hy] at hy2
      obtain ⟨rfl, rfl⟩ : y = y2 ∧ d = d2 := by cases hy2; exact ⟨rfl, rfl⟩
      refine newE (e0 := En0) (e := xb.e) fun w5 b5 c5 z5 => ?_
      have b35 : blk w5 w2.heap.size = some x.e.cells := by
        have h4 : blk w4 w2.heap.size = some x.e.cells := by rw [cC.blk (blk_lt b3) fun h => by have := hlt _ (.inr (.inl h.1)); have := cB.size; omega]; exact b3
        rw [c5.blk (blk_lt h4) id]; exact h4
      simp only [add_at, Nat.zero_add]
      refine rdN b35 (rdN b5 ?_)
      refine both_ok (x := x) (xb := xb) (Kf := fun b9 w22 => Sif b9 (Sif (d == d) (K (.bool ((0 : Int) == 0)) w22) (K (.bool false) w22)) (K (.bool false) w22)) HB T1 (by omega) Q1 cB hB1 hout.ok hout.off (by rw [show x.l = y.l by rw [← hx]; rfl]; exact back_small wf hy) c3 b3 R4 cC hC1 hxo (hxb.trans hx.symm) c5 (kin_back wf ..).1.cf ?_
      rw [beq_self_eq_true]
      exact hk1
  refine Sif_cases (fun g5 => ?_) fun g5 => ?_
  · -- Remove
    refine ⟨_, by rw [cell_blk b1]; rfl, _, by rw [cell_blk b1]; rfl, ?_⟩
    refine qrem_ok T1.q (fun hn w2 B1 Q1 cB hB1 => ⟨_, _, _, _, _, _, _, _, _, _, rfl, ?_⟩) fun y hy x hx w2 B1 Q1 cB hB1 hout => ⟨_, _, _, _, _, _, _, _, _, _, rfl, ?_⟩
    · refine newE (e0 := En0) (e := Ez.e) fun w3 b3 c3 z3 => ?_
      have a3 : blk w3 w.heap.size = some o.cells := by rw [c3.blk (by have := blk_lt b1; have := cB.size; omega) id, cB.blk (blk_lt b1) fun h => na (.inl h)]; exact b1
      simp only [add_at, Nat.zero_add]
      refine ⟨_, by rw [cell_blk a3]; rfl, _, by rw [cell_blk a3]; rfl, ?_⟩
      have R3 := (T1.r.ch cB fun b hb h => T.BC b h hb).ch c3 fun _ _ => id
      refine rremove_ok R3 (fun hn2 w4 C1 R4 cC hC1 => ⟨_, _, _, _, _, _, _, _, _, _, rfl, ?_⟩) fun y2 hy2 => absurd (hn.symm.trans hy2) nofun
      refine newE (e0 := En0) (e := Ez.e) fun w5 b5 c5 z5 => ?_
      have b35 : blk w5 w2.heap.size = some Ez.e.cells := by
        have h4 : blk w4 w2.heap.size = some Ez.e.cells := by rw [cC.blk (blk_lt b3) fun h => by have := hlt _ (.inr (.inl h.1)); have := cB.size; omega]; exact b3
        rw [c5.blk (blk_lt h4) id]; exact h4
      simp only [add_at, Nat.zero_add]
      refine rdN b35 (rdN b5 ?_)
      exact both_ok (x := Ez) (xb := Ez) (Kf := fun b9 w22 => Sif b9 (K (.bool ((171 : Int) == 171)) w22) (K (.bool false) w22)) HB T1 (by omega) Q1 cB hB1 (Ez_ok _) (fun b hb => by cases hb) (by show 0 ≤ _; omega) c3 b3 R4 cC hC1 (Ez_ok _) rfl c5 (kin_remove wf ..).1.cf hk1
    · refine newE (e0 := En0) (e := x.e) fun w3 b3 c3 z3 => ?_
      have a3 : blk w3 w.heap.size = some o.cells := by rw [c3.blk (by have := blk_lt b1; have := cB.size; omega) id, cB.blk (blk_lt b1) fun h => na (.inl h)]; exact b1
      simp only [add_at, Nat.zero_add]
      refine ⟨_, by rw [cell_blk a3]; rfl, _, by rw [cell_blk a3]; rfl, ?_⟩
      have R3 := (T1.r.ch cB fun b hb h => T.BC b h hb).ch c3 fun _ _ => id
      refine rremove_ok R3 (fun hn2 => absurd (hn2.symm.trans hy) nofun) fun y2 hy2 xb hxb w4 C1 R4 cC hC1 hxo => ⟨_, _, _, _, _, _, _, _, _, _, rfl, ?_⟩
      rw [hy] at hy2
      obtain rfl : y = y2 := by cases hy2; rfl
      refine newE (e0 := En0) (e := xb.e) fun w5 b5 c5 z5 => ?_
      have b35 : blk w5 w2.heap.size = some x.e.cells := by
        have h4 : blk w4 w2.heap.size = some x.e.cells := by rw [cC.blk (blk_lt b3) fun h => by have := hlt _ (.inr (.inl h.1)); have := cB.size; omega]; exact b3
        rw [c5.blk (blk_lt h4) id]; exact h4
      simp only [add_at, Nat.zero_add]
      refine rdN b35 (rdN b5 ?_)
      exact both_ok (x := x) (xb := xb) (Kf := fun b9 w22 => Sif b9 (K (.bool ((0 : Int) == 0)) w22) (K (.bool false) w22)) HB T1 (by omega) Q1 cB hB1 hout.ok hout.off (by rw [show x.l = y.l by rw [← hx]; rfl]; exact remove_small wf hy) c3 b3 R4 cC hC1 hxo (hxb.trans hx.symm) c5 (kin_remove wf ..).1.cf hk1
  have s1 := c1.size
  refine Sif_cases (fun g6 => ?_) fun g6 => ?_
  · -- Release
    refine ⟨_, by rw [cell_blk b1]; rfl, ?_⟩
    refine qrel_ok T1.q fun p n c own hn w2 B1 Q1 cB hB1 o2 hown => ⟨_, _, _, rfl, ?_⟩
    have s2 := cB.size
    have a2 : blk w2 w.heap.size = some o.cells := by rw [cB.blk (blk_lt b1) fun h => na (.inl h)]; exact b1
    refine ⟨_, by rw [cell_blk a2]; rfl, ?_⟩
    have R2 := T1.r.ch cB fun b hb h => T.BC b h hb
    refine rrel_ok R2 fun pM cM ownM w3 C1 R3 cC hC1 o3 => ⟨_, _, _, rfl, ?_⟩
    have s3 := cC.size
    have ownl := o2.blt
    have ownC : ∀ b, own = some b → ¬ C b := fun b hb h => by have := (hown b hb).2; have := hlt b (.inr (.inl h)); omega
    have o23 := o2.ch cC fun b hb h => ownC b hb h.1
    have qlo := T.r.qlo
    have hrl : (A.release o.a).1.length ≤ A.L.length := by
      show ((A.L.filter _).map _).length ≤ _
      rw [List.length_map]; exact List.length_filter_le ..
    refine snums_ok (S := (A.release o.a).1) (T := (A.release o.a).1) o23.rd o3.rd hn.symm rfl (by omega) fun v w4 hv c4 => ⟨v, rfl, ?_⟩
    rw [hv, decide_eq_true rfl]
    have cb : Ch (fun b => (B b ∨ C b) ∧ ¬ Qt b) w w4 := (((c1.mono fun _ _ h => h.elim).trans' (cB.mono fun b _ h => ⟨.inl h, T.qB b h⟩)).trans' (cC.mono fun b _ h => ⟨.inr h.1, h.2⟩)).new c4
    have hb4 := HB.ch T.b cb fun b hb h => by
      rcases h.1 with h | h
      · exact T.DB b hb h
      · exact T.DC b hb h
    refine tnum_ok (x := ⟨p, n, c, own⟩) (S := (A.release o.a).1) hb4 (o23.ch c4 fun _ _ => id) hn.symm (fun b hb h => by have := (hown b hb).2; have := hlt b (.inr (.inr h)); omega) (by show n ≤ _; omega) (by omega) fun w5 D2 b5 c5 hD2 => ⟨rfl, ?_⟩
    have s4 := c4.size
    have B1l := Q1.lt
    have C1l := R3.lt
    obtain ⟨x1, x2, x3⟩ := apart3 (X := fun b => own = some b) (B1 := B1) (C1 := C1) (D2 := D2) hlt T.BC T.DB T.DC (show w.heap.size ≤ w2.heap.size by omega) (show w2.heap.size ≤ w4.heap.size by omega) (fun b hb => ⟨(hB1 b hb).imp id fun h => by omega, B1l b hb⟩) (fun b hb => ⟨hC1 b hb, by have := C1l b hb; omega⟩) hD2 fun b hb => ⟨(hown b hb).1, fun h => by
      rcases hC1 b h with q | q
      · exact ownC b hb q
      · have := ownl b hb; omega⟩
    have Q5 := ((Q1.ch cC fun b hb h => ?_).ch c4 fun _ _ => id).ch c5 fun b hb h => ?_
    have R5 := (R3.ch c4 fun _ _ => id).ch c5 fun b hb h => ?_
    · refine hk w5 _ (m + 1) B1 C1 D2 ⟨Q5, R5, b5, x1, x2, x3, fun b hb h => (hB1 b hb).elim (fun q => T.qB b q h) fun q => by have := qlo b h; omega, fun b hb h => (hD2 b hb).elim (fun q => T.qD b q h) fun q => q.elim (fun q => by have := (hown b q).2; have := qlo b h; omega) fun q => by have := qlo b h; omega⟩ (by omega) rfl ((cb.mono fun b _ h => ⟨h.1.elim .inl fun h => .inr (.inl h), h.2⟩).trans' (c5.mono fun b _ h => ⟨.inr (.inr h), T.qD b h⟩)) fun b hb => ?_
      rcases hb with h | h | h
      · exact (hB1 b h).imp .inl fun h => by omega
      · exact (hC1 b h).imp (fun h => .inr (.inl h)) fun h => by omega
      · rcases hD2 b h with q | q | q
        · exact .inl (.inr (.inr q))
        · exact .inr (by have := (hown b q).2; omega)
        · exact .inr (by omega)
    · rcases hC1 b hb with q | q
      · exact T.DC b h q
      · have := hlt b (.inr (.inr h)); omega
    · rcases hB1 b hb with q | q
      · exact T.BC b q h.1
      · have := hlt b (.inr (.inl h.1)); omega
    · rcases hB1 b hb with q | q
      · exact T.DB b h q
      · have := hlt b (.inr (.inr h)); omega
  refine Sif_cases (fun g7 => ?_) fun g7 => ?_
  · -- Expire
    refine ⟨_, by rw [cell_blk b1]; rfl, ?_⟩
    refine qexp_ok T1.q fun p n c own G hG w2 B1 Q1 cB hB1 O => ⟨_, _, _, rfl, ?_⟩
    have s2 := cB.size
    have a2 : blk w2 w.heap.size = some o.cells := by rw [cB.blk (blk_lt b1) fun h => na (.inl h)]; exact b1
    refine ⟨_, by rw [cell_blk a2]; rfl, ?_⟩
    have R2 := T1.r.ch cB fun b hb h => T.BC b h hb
    refine rexp_ok R2 fun pM cM ownM M hM w3 C1 R3 cC hC1 o3 datM => ⟨_, _, _, rfl, ?_⟩
    have s3 := cC.size
    have hGn := O.len
    subst hGn
    have blt : ∀ b ∈ own.toList ++ eB G, b < w2.heap.size := fun b hb => by
      rcases List.mem_append.1 hb with h | h
      · exact O.row.blt b (by simpa [Option.mem_toList] using h)
      · obtain ⟨x, hx, hxb⟩ := mem_eB.1 h
        exact (O.dat x hx).blt b hxb
    have bC : ∀ b ∈ own.toList ++ eB G, ¬ C b := fun b hb h => by
      rcases (O.off b hb).2 with q | q
      · exact T.BC b q h
      · have := hlt b (.inr (.inl h)); omega
    have bD : ∀ b ∈ own.toList ++ eB G, ¬ D b := fun b hb h => by
      rcases (O.off b hb).2 with q | q
      · exact T.DB b h q
      · have := hlt b (.inr (.inr h)); omega
    have hown : ∀ b, own = some b → b ∈ own.toList ++ eB G := fun b hb => List.mem_append_left _ (by simp [hb])
    have hGl : G.length ≤ A.L.length := by
      have h1 := congrArg List.length hG
      rw [List.length_map] at h1
      have := (kin_expire A o.a).2
      omega
    have qlo := T.r.qlo
    have row3 := O.row.ch cC fun b hb h => bC b (hown b hb) h.1
    have dat3 : ∀ x ∈ G, EtE.Ok w3 x := fun x hx => EtE.ch (O.dat x hx) cC fun b hb h => bC b (List.mem_append_right _ (mem_eB.2 ⟨x, hx, by simpa [EtE, Option.mem_toList] using hb⟩)) h.1
    have cb : Ch (fun b => (B b ∨ C b) ∧ ¬ Qt b) w w3 := ((c1.mono fun _ _ h => h.elim).trans' (cB.mono fun b _ h => ⟨.inl h, T.qB b h⟩)).trans' (cC.mono fun b _ h => ⟨.inr h.1, h.2⟩)
    have hb3 := HB.ch T.b cb fun b hb h => by
      rcases h.1 with h | h
      · exact T.DB b hb h
      · exact T.DC b hb h
    have ndc := List.nodup_append.1 O.nd
    refine sameAll_ok HB hb3 row3 dat3 ndc.2.1 (fun b hb => ⟨bD b (hown b hb), fun h => ndc.2.2 b (by simp [hb]) b h rfl⟩) (fun b hb => bD b (List.mem_append_right _ hb)) o3.rd datM (hG.trans hM.symm) (fun x hx => ?_) (by omega) fun w4 D2 b4 hD2 c4 => ⟨true, rfl, ?_⟩
    · have hxA : x.pe ∈ (A.expire o.a).1 := by rw [← hG]; exact List.mem_map.2 ⟨x, hx, rfl⟩
      exact (wf.ok _ (frees_mem (List.mem_filter.1 hxA).1)).len
    have s4 := c4.size
    have row4 := row3.ch c4 fun b hb h => by
      rcases h with h | h
      · exact bD b (hown b hb) h
      · exact ndc.2.2 b (by simp [hb]) b h rfl
    simp only [nn_some, add_at, Nat.zero_add]
    refine lpush_ok (x := ⟨p, G.length, c, own⟩) (ys := G.map (·.e)) b4 row4 (List.length_map ..) (fun b hb h => ?_) (by show G.length ≤ _; omega) (by omega) fun w5 D3 b5 c5 hD3 => ?_
    · have hb : own = some b := hb
      have h0 := hown b hb
      rcases hD2 b h with q | q | q
      · exact bD b h0 q
      · exact ndc.2.2 b (by simp [hb]) b q rfl
      · have := blt b h0; omega
    have B1l := Q1.lt
    have C1l := R3.lt
    have hD3' : ∀ b, D3 b → D b ∨ b ∈ own.toList ++ eB G ∨ w3.heap.size ≤ b := fun b hb => by
      rcases hD3 b hb with q | q | q
      · rcases hD2 b q with q | q | q
        · exact .inl q
        · exact .inr (.inl (List.mem_append_right _ q))
        · exact .inr (.inr q)
      · exact .inr (.inl (hown b q))
      · exact .inr (.inr (by omega))
    obtain ⟨x1, x2, x3⟩ := apart3 (X := fun b => b ∈ own.toList ++ eB G) (B1 := B1) (C1 := C1) (D2 := D3) hlt T.BC T.DB T.DC (show w.heap.size ≤ w2.heap.size by omega) (show w2.heap.size ≤ w3.heap.size by omega) (fun b hb => ⟨(hB1 b hb).imp id fun h => by omega, B1l b hb⟩) (fun b hb => ⟨hC1 b hb, C1l b hb⟩) hD3' fun b hb => ⟨(O.off b hb).1, fun h => by
      rcases hC1 b h with q | q
      · exact bC b hb q
      · have := blt b hb; omega⟩
    have c35 : Ch (fun b => D b ∨ b ∈ eB G) w3 w5 := c4.trans c5 fun b hb h => by
      rcases hD2 b h with q | q | q
      · exact .inl q
      · exact .inr q
      · omega
    have oq : ∀ b ∈ own.toList ++ eB G, ¬ Qt b := fun b hb h => (O.off b hb).2.elim (fun q => T.qB b q h) fun q => by have := qlo b h; omega
    have Q5 := (Q1.ch cC fun b hb h => ?_).ch c35 fun b hb h => ?_
    have R5 := R3.ch c35 fun b hb h => ?_
    · refine hk w5 _ (m + G.length + 1) B1 C1 D3 ⟨Q5, R5, b5, x1, x2, x3, fun b hb h => (hB1 b hb).elim (fun q => T.qB b q h) fun q => by have := qlo b h; omega, fun b hb h => (hD3' b hb).elim (fun q => T.qD b q h) fun q => q.elim (fun q => oq b q h) fun q => by have := qlo b h; omega⟩ (by omega) rfl ((cb.mono fun b _ h => ⟨h.1.elim .inl fun h => .inr (.inl h), h.2⟩).trans c35 fun b hb h => ?_) fun b hb => ?_
      · rcases h with h | h
        · exact ⟨.inr (.inr h), T.qD b h⟩
        · rcases (O.off b (List.mem_append_right _ h)).2 with q | q
          · exact ⟨.inl q, T.qB b q⟩
          · omega
      · rcases hb with h | h | h
        · exact (hB1 b h).imp .inl fun h => by omega
        · exact (hC1 b h).imp (fun h => .inr (.inl h)) fun h => by omega
        · rcases hD3' b h with q | q | q
          · exact .inl (.inr (.inr q))
          · exact (O.off b q).2.imp .inl fun h => by omega
          · exact .inr (by omega)
    · rcases h with h | h
      · rcases hC1 b hb with q | q
        · exact T.DC b h q
        · have := hlt b (.inr (.inr h)); omega
      · rcases hC1 b hb with q | q
        · exact bC b (List.mem_append_right _ h) q
        · have := blt b (List.mem_append_right _ h); omega
    · rcases hB1 b hb with q | q
      · exact T.BC b q h.1
      · have := hlt b (.inr (.inl h.1)); omega
    · rcases h with h | h
      · rcases hB1 b hb with q | q
        · exact T.DB b h q
        · have := hlt b (.inr (.inr h)); omega
      · exact (O.off b (List.mem_append_right _ h)).1 hb
  refine Sif_cases (fun g8 => ?_) fun g8 => ?_
  · -- All
    refine ⟨_, by rw [cell_blk b1]; rfl, ?_⟩
    refine alls_ok HB T1.b T1.q T1.r T.BC T.DB T.DC (by omega) fun w2 m' D' b2 hm' Q2 R2 hD' c2 => ⟨true, rfl, ?_⟩
    refine hk1 w2 A m' B C D' ⟨Q2, R2, b2, T.BC, fun b hb h => ?_, fun b hb h => ?_, T.qB, fun b hb h => (hD' b hb).elim (fun q => T.qD b q h) fun q => by have := T.r.qlo b h; omega⟩ (by omega) rfl (c2.mono fun b _ h => ⟨.inr (.inr h), T.qD b h⟩) fun b hb => ?_
    · rcases hD' b hb with q | q
      · exact T.DB b q h
      · have := hlt b (.inl h); omega
    · rcases hD' b hb with q | q
      · exact T.DC b q h
      · have := hlt b (.inr (.inl h)); omega
    · rcases hb with h | h | h
      · exact .inl (.inl h)
      · exact .inl (.inr (.inl h))
      · exact (hD' b h).imp (fun h => .inr (.inr h)) id
  refine Sif_cases (fun g9 => ?_) fun g9 => ?_
  · -- Len
    refine qlen_ok T1.q ⟨_, _, rfl, ?_⟩
    have cd : Ch (fun _ => False) w1 w1.drew := Ch.drew w1
    refine rqlen_ok (T1.r.ch cd fun _ _ => id) ⟨_, _, rfl, ?_⟩
    rw [beq_self_eq_true, beq_self_eq_true]
    exact Sif_true (hk1 _ A m B C D (T1.ch HB cd fun _ _ => id) (by omega) rfl (cd.mono fun _ _ h => h.elim) fun b hb => .inl hb)
  · exact hk1 w1 A m B C D T1 (by omega) rfl (Ch.refl _ _) fun b hb => .inl hb
end Go.Proofs.YtipbbjnmpnfhpaaGreatDoor
namespace Go.Proofs.YtipbbjnmpnfhpaaGreatDoor
open Go Go.Sv Go.Heap Go.Qu Go.MapKept
set_option linter.unusedVariables false
set_option maxRecDepth 4000
def refChk (n : Int) : Bool := (decide (97 ≤ n) && decide (n ≤ 122)) || (decide (48 ≤ n) && decide (n ≤ 57)) || decide (n = 45) || decide (n = 46) || decide (n = 95)
theorem refChk_eq : ∀ k : Fin 256, nmSet.contains (UInt8.ofNat k.val) = refChk (k.val : Int) := by decide +kernel
theorem refChk_b (b : UInt8) : nmSet.contains b = refChk (b.toNat : Int) := by
  have := refChk_eq ⟨b.toNat, UInt8.toNat_lt b⟩
  simpa using this
theorem rname_ok {s : ByteArray} {w : World} {K : Value → World → Prop} (hk : K (.bool (isNm s)) w) : callP Tryz.prog 51 [.string s] w K := by
  refine ok_longshoreref17_Name ?_
  unfold wp_longshoreref17_Name
  have hsz : s.size = s.data.toList.length := by rw [Array.length_toList]; rfl
  refine ⟨fun w1 => w1 = w ∧ 1 ≤ s.size ∧ s.size ≤ 64, ?_, Sif_cases (fun h1 => Sif_cases (fun h2 => ?_) fun h2 => ⟨by trivial, ?_, ?_⟩) fun h1 => ?_⟩
  rotate_left
  · have h2 : 64 < s.size := by
      have : (s.size : Int) > 64 := by simpa using h2
      omega
    have e : isNm s = false := by unfold isNm; simp; omega
    rw [e] at hk; exact hk
  · have : ¬ (s.size : Int) < 1 := by simpa using h1
    omega
  · have : ¬ (s.size : Int) > 64 := by simpa using h2
    omega
  · have h1 : s.size < 1 := by
      have : (s.size : Int) < 1 := by simpa using h1
      omega
    have e : isNm s = false := by unfold isNm; simp; omega
    rw [e] at hk; exact hk
  rintro _ ⟨rfl, h1, h2⟩
  rename_i w
  refine ⟨fun m n w1 => ∃ j : Nat, n = (j : Int) ∧ j ≤ s.size ∧ m = s.size - j ∧ w1 = w ∧ ∀ b ∈ s.data.toList.take j, nmSet.contains b = true, ⟨s.size, 0, rfl, Nat.zero_le _, rfl, rfl, by simp⟩, ?_⟩
  rintro m n w1 ⟨j, rfl, hj, rfl, rfl, hall⟩
  refine Sif_cases (fun h => ?_) fun h => ?_
  · have h : j < s.size := by
      have : (j : Int) < (s.size : Int) := by simpa using h
      omega
    have hjl : j < s.data.toList.length := by omega
    have hb : s.data.toList[j]? = some s.data.toList[j] := List.getElem?_eq_getElem hjl
    obtain ⟨b, hbb⟩ : ∃ b, b = s.data.toList[j] := ⟨_, rfl⟩
    rw [← hbb] at hb
    have hbyte : byteAt s j = (b.toNat : Int) := by unfold byteAt; rw [List.getD_eq_getElem?_getD, hb]; rfl
    refine ⟨fun w3 => w3 = w1 ∧ nmSet.contains b = true, ?_, by omega, by omega, ?_⟩
    · rintro w3 ⟨rfl, hc⟩
      rw [wrap_id (by omega) (by omega), nameI_iff]
      refine ⟨s.size - (j + 1), by omega, j + 1, rfl, h, rfl, rfl, fun x hx => ?_⟩
      rw [List.take_add_one, hb] at hx
      rcases List.mem_append.1 hx with hx | hx
      · exact hall x hx
      · simp at hx; rw [hx]; exact hc
    · rw [Int.toNat_natCast, hbyte, nameI_iff]
      have hrc := refChk_b b
      obtain ⟨n, hn⟩ : ∃ n : Int, n = (b.toNat : Int) := ⟨_, rfl⟩
      rw [← hn] at hrc ⊢
      refine ⟨fun x w3 => w3 = w1 ∧ x = refChk n, ?_, ?_⟩
      · rintro x w3 ⟨rfl, rfl⟩
        refine Sif_cases (fun g => ?_) fun g => ⟨by trivial, ?_⟩
        · have g : refChk n = false := by simpa using g
          have e : isNm s = false := by
            rw [← hrc] at g
            unfold isNm
            have : (s.data.toList.all fun b => nmSet.contains b) = false := by
              rw [← Bool.not_eq_true, List.all_eq_true]
              intro hh
              have := hh b (List.mem_of_getElem? hb)
              rw [g] at this; cases this
            rw [this, Bool.and_false]
          rw [e] at hk; exact hk
        · rw [hrc]; simpa using g
      · have fin : ∀ x : Bool, (x = true ↔ ((97 ≤ n ∧ n ≤ 122) ∨ (48 ≤ n ∧ n ≤ 57) ∨ n = 45 ∨ n = 46 ∨ n = 95)) → w1 = w1 ∧ x = refChk n := fun x hx => ⟨rfl, by
          rw [Bool.eq_iff_iff, hx]
          unfold refChk
          simp only [Bool.or_eq_true, Bool.and_eq_true, decide_eq_true_eq]
          omega⟩
        repeat' (first | refine Sif_cases (fun _ => ?_) fun _ => ?_ | refine fin _ ?_)
        all_goals simp_all
        all_goals omega
  · have h : j = s.size := by
      have : ¬ (j : Int) < (s.size : Int) := by simpa using h
      omega
    subst h
    have e : isNm s = true := by
      unfold isNm
      simp only [h1, h2, decide_true, Bool.true_and, List.all_eq_true]
      rw [hsz, List.take_length] at hall
      exact hall
    rw [e] at hk; exact hk
theorem rcfg_ok {c : Cfg} {w : World} {K : Value → World → Prop} (hk : ∀ w', Ch (fun _ => False) w w' → K (.bool (cfgOk c)) w') : callP Tryz.prog 22 [cfgV c] w K := by
  refine ok_longshoreref17_Config ?_
  unfold wp_longshoreref17_Config
  refine newB_blk fun w1 b1 c1 z1 => ?_
  simp only [add_at, Nat.zero_add, cell_blk b1]
  refine ⟨_, rfl, rname_ok ⟨_, rfl, ?_⟩⟩
  simp only [cell_blk b1]
  refine ⟨_, rfl, rname_ok ⟨_, rfl, ?_⟩⟩
  simp only [cell_blk b1]
  have hk := hk w1 c1
  unfold cfgOk at hk
  have emp : (c.dead.toList == (ByteArray.mk #[]).toList) = decide (c.dead = ByteArray.mk #[]) := by
    rw [Bool.eq_iff_iff, beq_iff_eq, decide_eq_true_eq]
    exact ⟨toList_inj, fun e => by rw [e]⟩
  have eqn : (c.dead.toList == c.name.toList) = decide (c.dead = c.name) := by
    rw [Bool.eq_iff_iff, beq_iff_eq, decide_eq_true_eq]
    exact ⟨toList_inj, fun e => by rw [e]⟩
  have fin : ∀ x : Bool, x = (isNm c.name && decide (1 ≤ c.most) && decide (c.most ≤ 4096) && decide (0 ≤ c.tries) && decide (c.tries ≤ 4294967295) && (decide (c.dead = ByteArray.mk #[]) || (isNm c.dead && !(decide (c.dead = c.name))))) → K (.bool x) w1 := fun x e => e ▸ hk
  refine Sif_cases (fun g1 => ?_) fun g1 => fin _ (by rw [g1]; rfl)
  refine ⟨_, rfl, Sif_cases (fun g2 => ?_) fun g2 => fin _ ?_⟩
  rotate_left
  · have g2 : decide (1 ≤ c.most) = false := g2
    rw [g1, g2]; rfl
  have g2 : decide (1 ≤ c.most) = true := g2
  refine ⟨_, rfl, Sif_cases (fun g3 => ?_) fun g3 => fin _ (by rw [g1, g2, g3]; rfl)⟩
  have tail : (decide (c.dead = ByteArray.mk #[]) || (isNm c.dead && !(decide (c.dead = c.name)))) = true → ∃ n2 : Int, some (Value.int .i64 c.tries) = some (.int .i64 n2) ∧ Sif (decide (n2 ≥ 0)) (∃ n3 : Int, some (Value.int .i64 c.tries) = some (.int .i64 n3) ∧ K (.bool (decide (n3 ≤ 4294967295))) w1) (K (.bool false) w1) := fun g4 => by
    refine ⟨_, rfl, Sif_cases (fun g5 => ⟨_, rfl, fin _ ?_⟩) fun g5 => fin _ ?_⟩
    · have g5 : decide (0 ≤ c.tries) = true := g5
      rw [g1, g2, g3, g4, g5]; simp
    · have g5 : decide (0 ≤ c.tries) = false := g5
      rw [g1, g2, g3, g5]; rfl
  refine ⟨_, rfl, ?_⟩
  rw [emp]
  refine Sif_cases (fun g4 => ?_) fun g4 => ?_
  · have g4 : decide (c.dead = ByteArray.mk #[]) = false := by simpa using g4
    refine Sif_cases (fun g5 => ?_) fun g5 => fin _ (by rw [g4, g5]; simp)
    refine ⟨_, rfl, _, rfl, ?_⟩
    rw [eqn]
    refine Sif_cases (fun g6 => tail ?_) fun g6 => fin _ ?_
    · rw [g4, g5]; simpa using g6
    · have g6 : decide (c.dead = c.name) = true := by simpa using g6
      rw [g4, g6]; simp
  · have g4 : decide (c.dead = ByteArray.mk #[]) = true := by simpa using g4
    exact tail (by rw [g4]; rfl)
theorem rnew_ok {c : Cfg} {w : World} {K : Value → World → Prop}
    (hno : cfgOk c = false → ∀ w', Ch (fun _ => False) w w' → K (.pointer none) w')
    (hyes : cfgOk c = true → ∀ w' rb, blk w' rb = some [.string c.name, .int .i64 c.most, .string c.dead, .int .i64 c.tries, .bool c.dur, .slice none 0 0, .int .i64 0] → w.heap.size ≤ rb → Ch (fun _ => False) w w' → K (.pointer (some ⟨rb, 0, none⟩)) w') : callP Tryz.prog 7 [cfgV c] w K := by
  refine ok_longshoreref17_New ?_
  unfold wp_longshoreref17_New
  refine newB_blk fun w1 b1 c1 z1 => ?_
  simp only [add_at, Nat.zero_add, cell_blk b1]
  refine ⟨_, rfl, _, rfl, _, rfl, _, rfl, _, rfl, rcfg_ok (c := c) fun w2 c2 => ⟨_, rfl, Sif_cases (fun g => ?_) fun g => ?_⟩⟩
  · exact hno (by simpa using g) w2 (c1.trans' c2)
  · have b2 : blk w2 w.heap.size = some [.string c.name, .int .i64 c.most, .string c.dead, .int .i64 c.tries, .bool c.dur] := by rw [c2.blk (blk_lt b1) id]; exact b1
    simp only [cell_blk b2]
    refine ⟨_, rfl, _, rfl, _, rfl, _, rfl, _, rfl, newB_blk fun w3 b3 c3 z3 => ?_⟩
    exact hyes (by simpa using g) w3 _ b3 (by have := c2.size; omega) ((c1.trans' c2).trans' c3)
theorem cfg_rd {w : World} {k : Nat} {c : Cfg} {K : ByteArray → Int → ByteArray → Int → Bool → Prop} (h : blk w k = some [.string c.name, .int .i64 c.most, .string c.dead, .int .i64 c.tries, .bool c.dur]) (hk : K c.name c.most c.dead c.tries c.dur) :
    ∃ s, w.cell? ⟨k, 0, none⟩ = some (.string s) ∧ ∃ n, w.cell? ⟨k, 1, none⟩ = some (.int .i64 n) ∧ ∃ s1, w.cell? ⟨k, 2, none⟩ = some (.string s1) ∧ ∃ n1, w.cell? ⟨k, 3, none⟩ = some (.int .i64 n1) ∧ ∃ b, w.cell? ⟨k, 4, none⟩ = some (.bool b) ∧ K s n s1 n1 b := by
  simp only [cell_blk h]
  exact ⟨_, rfl, _, rfl, _, rfl, _, rfl, _, rfl, hk⟩
end Go.Proofs.YtipbbjnmpnfhpaaGreatDoor
namespace Go.Proofs.YtipbbjnmpnfhpaaGreatDoor
open Go Go.Sv Go.Heap Go.Qu Go.MapKept
set_option linter.unusedVariables false
set_option maxRecDepth 4000
/-- a call as it came in -/
structure OIn (w : World) (o : OpV) (Ts : List Int) (l : List UInt8) : Prop where
  rt : Rd w o.lp o.ln 1 (Ts.flatMap iC)
  lt : Ts.length = o.ln
  ln : o.ln ≤ 2 ^ 62
  rd : Rd w o.e.p o.e.n 1 (bytesV l)
  n : o.e.n ≤ 2 ^ 39
  hi : o.e.seq ≤ 9223372036854775807
theorem OIn.ch {w w' : World} {o : OpV} {Ts : List Int} {l : List UInt8} (h : OIn w o Ts l) (c : Ch (fun _ => False) w w') : OIn w' o Ts l := ⟨h.rt.ch c fun _ _ _ => id, h.lt, h.ln, h.rd.ch c fun _ _ _ => id, h.n, h.hi⟩
theorem rq_new {c : Cfg} {w : World} {rb : Nat} (W : WQ ⟨c, [], 0⟩) (h : blk w rb = some [.string c.name, .int .i64 c.most, .string c.dead, .int .i64 c.tries, .bool c.dur, .slice none 0 0, .int .i64 0]) : RQ (fun _ => False) w rb ⟨c, [], 0⟩ (fun b => b = rb) := by
  refine ⟨W, [], none, 0, none, ⟨h, Ow.nil, (fun x hx => by cases hx), ?_⟩, rfl, ?_, ⟨id, (fun b hb => by cases hb), fun _ h => h.elim⟩⟩
  · exact rbl_nd nofun (by simp [eB]) (fun b hb => by cases hb) (by simp [eB])
  · funext b
    exact propext ⟨fun h => mem_rbl.2 (.inl h), fun h => by
      rcases mem_rbl.1 h with h | h | h
      · exact h
      · cases h
      · simp [eB] at h⟩
theorem bk_new {w : World} {kb : Nat} (h : blk w kb = some [.int .i64 0, .slice none 0 0, .slice none 0 0, .slice none 0 0, .slice none 0 0, .slice none 0 0]) : BK kb w 0 (fun b => b = kb) := by
  let z : SL := ⟨none, 0, 0, none⟩
  let k : Bk := ⟨0, none, 0, none, [], none, 0, none, [], z, z, z, [], [], [], fun _ => []⟩
  have has : ∀ s b, k.has kb s b → s = .head ∧ b = kb := fun s b hs => by
    cases s with
    | head => exact ⟨rfl, hs⟩
    | l => cases hs
    | w => cases hs
    | s3 => cases hs
    | s4 => cases hs
    | s5 => cases hs
    | el i => obtain ⟨x, hx, _⟩ := hs; cases hx
    | ew i => obtain ⟨x, hx, _⟩ := hs; cases hx
    | t3 i => obtain ⟨x, hx, _⟩ := hs; cases hx
    | t4 i => obtain ⟨x, hx, _⟩ := hs; cases hx
    | t5 i => obtain ⟨x, hx, _⟩ := hs; cases hx
  refine ⟨k, ⟨⟨h, Ow.nil, Ow.nil, nofun, nofun, (fun b hb => by cases hb)⟩, (fun x hx => by cases hx), (fun x hx => by cases hx), rfl, Ow.nil, Ow.nil, Ow.nil, rfl, rfl, rfl, (fun x hx => by cases hx), (fun j x hx => by cases hx), (fun j x hx => by cases hx), rfl, fun s t b hs ht => (has s b hs).1.trans (has t b ht).1.symm⟩, ⟨Nat.le_refl _, Nat.le_refl _, Nat.le_refl _, Nat.le_refl _, (fun x hx => by cases hx), (fun x hx => by cases hx), (fun x hx => by cases hx)⟩, ?_⟩
  funext b
  exact propext ⟨fun h => ⟨.head, h⟩, fun ⟨s, hs⟩ => (has s b hs).2⟩
/-- a pair of queues and the book, beside another pair -/
structure Duo (w0 w : World) (kb qb rb : Nat) (A : AQ) (m : Nat) (B C D : Nat → Prop) (pb yb : Nat) (A2 : AQ) (B2 C2 : Nat → Prop) : Prop where
  t : Trio (fun _ => False) (BK kb) w qb rb A m B C D
  q2 : QK w pb A2 B2
  r2 : RQ (fun _ => False) w yb A2 C2
  BC2 : ∀ b, B2 b → ¬ C2 b
  ap : ∀ b, B2 b ∨ C2 b → ¬ TU B C D b
  new : ∀ b, TU B C D b ∨ B2 b ∨ C2 b → w0.heap.size ≤ b
  ch : Ch (fun _ => False) w0 w
theorem Duo.swap {w0 w : World} {kb qb rb : Nat} {A : AQ} {m : Nat} {B C D : Nat → Prop} {pb yb : Nat} {A2 : AQ} {B2 C2 : Nat → Prop} (H : Duo w0 w kb qb rb A m B C D pb yb A2 B2 C2) : Duo w0 w kb pb yb A2 m B2 C2 D qb rb A B C := by
  refine ⟨⟨H.q2, H.r2, H.t.b, H.BC2, fun b hd hb => H.ap b (.inl hb) (.inr (.inr hd)), fun b hd hc => H.ap b (.inr hc) (.inr (.inr hd)), fun _ _ => id, fun _ _ => id⟩, H.t.q, H.t.r, H.t.BC, fun b hb h => ?_, fun b hb => ?_, H.ch⟩
  · rcases h with h | h | h
    · exact H.ap b (.inl h) (hb.elim .inl fun h => .inr (.inl h))
    · exact H.ap b (.inr h) (hb.elim .inl fun h => .inr (.inl h))
    · rcases hb with hb | hb
      · exact H.t.DB b h hb
      · exact H.t.DC b h hb
  · refine H.new b ?_
    rcases hb with (h | h | h) | h | h
    · exact .inr (.inl h)
    · exact .inr (.inr h)
    · exact .inl (.inr (.inr h))
    · exact .inl (.inl h)
    · exact .inl (.inr (.inl h))
/-- an element of a row of calls is read -/
theorem rd13 {w : World} {k o1 : Nat} {o : OpV} {K : Int → Int → Int → Int → Option Addr → Nat → Nat → Bool → Int → Int → Int → Bool → Int → Int → Option Addr → Nat → Nat → Prop} (hc : ∀ j v, o.cells[j]? = some v → w.cell? ⟨k, o1 + j, none⟩ = some v) (hk : K o.k o.a o.b o.f o.lp o.ln o.lc o.fl o.e.seq o.e.pri o.e.exp o.e.dur o.e.cnt o.e.hold o.e.p o.e.n o.e.c) :
    ∃ n9, w.cell? ⟨k, o1, none⟩ = some (.int .i64 n9) ∧ ∃ n10, w.cell? ⟨k, o1 + 1, none⟩ = some (.int .i64 n10) ∧ ∃ n11, w.cell? ⟨k, o1 + 2, none⟩ = some (.int .i64 n11) ∧ ∃ n12, w.cell? ⟨k, o1 + 3, none⟩ = some (.int .i64 n12) ∧ ∃ p4 n13 c, w.cell? ⟨k, o1 + 4, none⟩ = some (.slice p4 n13 c) ∧ ∃ b5, w.cell? ⟨k, o1 + 5, none⟩ = some (.bool b5) ∧
      ∃ n14, w.cell? ⟨k, o1 + 6, none⟩ = some (.int .i64 n14) ∧ ∃ n15, w.cell? ⟨k, o1 + 7, none⟩ = some (.int .i64 n15) ∧ ∃ n16, w.cell? ⟨k, o1 + 8, none⟩ = some (.int .i64 n16) ∧ ∃ b6, w.cell? ⟨k, o1 + 9, none⟩ = some (.bool b6) ∧ ∃ n17, w.cell? ⟨k, o1 + 10, none⟩ = some (.int .i64 n17) ∧ ∃ n18, w.cell? ⟨k, o1 + 11, none⟩ = some (.int .i64 n18) ∧ ∃ p5 n19 c1, w.cell? ⟨k, o1 + 12, none⟩ = some (.slice p5 n19 c1) ∧ K n9 n10 n11 n12 p4 n13 c b5 n14 n15 n16 b6 n17 n18 p5 n19 c1 :=
  ⟨_, hc 0 _ rfl, _, hc 1 _ rfl, _, hc 2 _ rfl, _, hc 3 _ rfl, _, _, _, hc 4 _ rfl, _, hc 5 _ rfl, _, hc 6 _ rfl, _, hc 7 _ rfl, _, hc 8 _ rfl, _, hc 9 _ rfl, _, hc 10 _ rfl, _, hc 11 _ rfl, _, _, _, hc 12 _ rfl, hk⟩
end Go.Proofs.YtipbbjnmpnfhpaaGreatDoor
