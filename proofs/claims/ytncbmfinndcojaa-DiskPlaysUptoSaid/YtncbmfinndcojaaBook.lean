/-
  A book of bytes that came out (longshoreref03.ByteBook): Take, Owned.
-/
import Derived.Test.YtncbmfinndcojaaLent
namespace Go.Proofs.Ytncbmfinndcojaa
open Go Go.Sv Go.MapKept
set_option linter.unusedVariables false
set_option maxRecDepth 4000

/-- a list of bytes that is its owner's -/
structure BL where
  p : Option Addr
  n : Nat
  c : Nat
  own : Option Nat
def BL.cells (x : BL) : List Value := [.slice x.p x.n x.c]
theorem BL.cells_len (o : BL) : o.cells.length = 1 := rfl
theorem BL.cells_one (o : BL) : ∀ v ∈ o.cells, oneV v = true := by intro v hv; simp [BL.cells] at hv; subst hv; rfl
def bowns (T : List BL) : List Nat := T.flatMap fun x => x.own.toList
structure BookR (w : World) (a : Nat) (T : List BL) (p : Option Addr) (c : Nat) (tb : Option Nat) : Prop where
  head : blk w a = some [.slice p T.length c]
  row : Ow w p T.length c 1 (T.flatMap BL.cells) tb
  each : ∀ x ∈ T, ∃ l : List UInt8, Ow w x.p x.n x.c 1 (bytesV l) x.own
  nodup : (a :: (tb.toList ++ bowns T)).Nodup
theorem lists_info : InfoIs Try.prog 31 1 24 (.slice none 0 0) := .of (by kernel_rfl) (by kernel_rfl) (by kernel_rfl)
theorem BookR.lt {w : World} {a : Nat} {T : List BL} {p : Option Addr} {c : Nat} {tb : Option Nat} (B : BookR w a T p c tb) : ∀ b ∈ a :: (tb.toList ++ bowns T), b < w.heap.size := by
  intro b hb
  rcases List.mem_cons.1 hb with rfl | hb
  · exact blk_lt B.head
  · rcases List.mem_append.1 hb with hb | hb
    · exact B.row.blt b (by simpa using hb)
    · obtain ⟨x, hx, hxb⟩ := List.mem_flatMap.1 hb
      obtain ⟨l, hl⟩ := B.each x hx
      exact hl.blt b (by simpa using hxb)
theorem BookR.ch {S : Nat → Prop} {w w' : World} {a : Nat} {T : List BL} {p : Option Addr} {c : Nat} {tb : Option Nat} (B : BookR w a T p c tb) (hc : Ch S w w') (hn : ∀ b ∈ a :: (tb.toList ++ bowns T), ¬ S b) : BookR w' a T p c tb := by
  refine ⟨by rw [hc.blk (blk_lt B.head) (hn a (by simp))]; exact B.head, B.row.ch hc fun k hk => hn k (by simp [hk]), fun x hx => ?_, B.nodup⟩
  obtain ⟨l, hl⟩ := B.each x hx
  exact ⟨l, hl.ch hc fun k hk => hn k (List.mem_cons_of_mem _ (List.mem_append.2 (.inr (List.mem_flatMap.2 ⟨x, hx, by simp [hk]⟩))))⟩
theorem book_new {w : World} {a : Nat} (h : blk w a = some [.slice none 0 0]) : BookR w a [] none 0 none := ⟨h, Ow.nil, by simp, by simp [bowns]⟩
theorem take_ok {w : World} {a : Nat} {T : List BL} {p : Option Addr} {c : Nat} {tb : Option Nat} {x : BL} {l : List UInt8} {K : Value → World → Prop} (B : BookR w a T p c tb) (hlen : T.length < 2 ^ 42) (hx : Ow w x.p x.n x.c 1 (bytesV l) x.own)
    (hn : ∀ k, x.own = some k → k ∉ a :: (tb.toList ++ bowns T))
    (hk : ∀ p' c' tb' w', BookR w' a (T ++ [x]) p' c' tb' → Ch (fun k => k = a ∨ tb = some k) w w' → (∀ k, tb' = some k → tb = some k ∨ w.heap.size ≤ k) → K (.tuple #[]) w') :
    callP Try.prog 52 [.pointer (some ⟨a, 0, none⟩), .slice x.p x.n x.c] w K := by
  refine ok_longshoreref03_ByteBook_Take ?_
  unfold wp_longshoreref03_ByteBook_Take
  simp only [nn_some, add_at, Nat.zero_add]
  refine ⟨_, _, _, by rw [cell_blk B.head]; rfl, ?_⟩
  have hlt := B.lt
  have hnd := B.nodup
  obtain ⟨na, nr⟩ := List.nodup_cons.1 hnd
  refine push_ok (g := BL.cells) Try.underlying46 lists_info rfl BL.cells_len BL.cells_one B.row x (by omega) (by omega) fun p' c' b' w' o' n' c1 => ?_
  have hta : ∀ k, tb = some k → k ≠ a := fun k hk e => na (by rw [← e, hk]; simp)
  have B1h : blk w' a = some [.slice p T.length c] := by rw [c1.blk (blk_lt B.head) fun e => na (by rw [e]; simp)]; exact B.head
  refine st_blk B1h (by simp) fun w2 b2 c2 z2 => ?_
  have hba : ∀ k, b' = some k → k ≠ a := fun k hk e => by
    rcases n' k hk with h | h
    · exact hta k h e
    · have := hlt a (by simp); omega
  have hown : ∀ y ∈ T, ∀ k, y.own = some k → k ∈ bowns T := fun y hy k hk => List.mem_flatMap.2 ⟨y, hy, by simp [hk]⟩
  have hsep : ∀ k ∈ bowns T, tb ≠ some k ∧ k ≠ a := fun k hk => by
    refine ⟨fun e => ?_, fun e => na (by rw [← e]; exact List.mem_append.2 (.inr hk))⟩
    exact (List.nodup_append.1 nr).2.2 k (by simp [e]) k hk rfl
  have hsepx : ∀ k, x.own = some k → tb ≠ some k ∧ k ≠ a := fun k hk => by
    have := hn k hk
    simp only [List.mem_cons, List.mem_append, not_or] at this
    exact ⟨fun e => this.2.1 (by simp [e]), this.1⟩
  refine hk p' c' b' w2 ⟨?_, o'.ch c2 hba, fun y hy => ?_, ?_⟩ ((c1.mono fun k _ h => .inr h).trans' (c2.mono fun k _ h => .inl h)) n'
  · rw [b2]; rfl
  · rcases List.mem_append.1 hy with hy | hy
    · obtain ⟨l', hl'⟩ := B.each y hy
      exact ⟨l', (hl'.ch c1 fun k hk => (hsep k (hown y hy k hk)).1).ch c2 fun k hk => (hsep k (hown y hy k hk)).2⟩
    · simp only [List.mem_singleton] at hy
      subst hy
      exact ⟨l, (hx.ch c1 fun k hk => (hsepx k hk).1).ch c2 fun k hk => (hsepx k hk).2⟩
  · have e : bowns (T ++ [x]) = bowns T ++ x.own.toList := by simp [bowns]
    rw [e]
    have hxlt : ∀ k, x.own = some k → k < w.heap.size := hx.blt
    have hT : (bowns T ++ x.own.toList).Nodup := by
      refine List.nodup_append.2 ⟨(List.nodup_append.1 nr).2.1, by cases x.own <;> simp, fun u hu v hv e => ?_⟩
      subst e
      exact hn u (by simpa using hv) (List.mem_cons_of_mem _ (List.mem_append.2 (.inr hu)))
    refine List.nodup_cons.2 ⟨fun h => ?_, List.nodup_append.2 ⟨by cases b' <;> simp, hT, fun u hu v hv e => ?_⟩⟩
    · rcases List.mem_append.1 h with h | h
      · exact hba a (by simpa using h) rfl
      · rcases List.mem_append.1 h with h | h
        · exact na (List.mem_append.2 (.inr h))
        · exact (hsepx a (by simpa using h)).2 rfl
    · subst e
      have hv' : u ∈ bowns T ∨ x.own = some u := (List.mem_append.1 hv).imp id fun h => by simpa using h
      rcases n' u (by simpa using hu) with h | h
      · rcases hv' with h2 | h2
        · exact (hsep u h2).1 h
        · exact (hsepx u h2).1 h
      · rcases hv' with h2 | h2
        · have := hlt u (List.mem_cons_of_mem _ (List.mem_append.2 (.inr h2))); omega
        · have := hxlt u h2; omega

/-! ### Owned -/
/-- the i-th mark, so many of them -/
def mk (i n : Nat) : List UInt8 := (List.range n).map fun k => UInt8.ofNat (i + k / 251)
@[simp] theorem mk_len (i n : Nat) : (mk i n).length = n := by simp [mk]
theorem mk_take {i n m : Nat} (h : m ≤ n) : (mk i n).take m = mk i m := by
  unfold mk; rw [← List.map_take, List.take_range, Nat.min_eq_left h]
theorem mk_succ (i n : Nat) : mk i (n + 1) = mk i n ++ [UInt8.ofNat (i + n / 251)] := by simp [mk, List.range_succ]
theorem mkV_succ (i n : Nat) : bytesV (mk i (n + 1)) = bytesV (mk i n) ++ [.int .u8 (((i + n / 251) % 256 : Nat) : Int)] := by rw [mk_succ, bytesV_append]; simp [bytesV]
theorem mkV_at {i n k : Nat} (h : k < n) : (bytesV (mk i n))[k]? = some (.int .u8 (((i + k / 251) % 256 : Nat) : Int)) := by
  unfold bytesV mk
  rw [List.getElem?_map, List.getElem?_map, List.getElem?_range h]; simp
theorem mark_val {i k : Nat} (h1 : i ≤ 2 ^ 60) (h2 : k ≤ 2 ^ 60) : IntKind.wrap .u8 (IntKind.wrap .i64 ((i : Int) + IntKind.wrap .i64 (Int.tdiv (k : Int) 251))) = (((i + k / 251) % 256 : Nat) : Int) := by
  have e : Int.tdiv (k : Int) 251 = ((k / 251 : Nat) : Int) := by rw [Int.tdiv_eq_ediv_of_nonneg (by omega)]; rfl
  rw [e, wrap_id (n := ((k / 251 : Nat) : Int)) (by omega) (by omega), wrap_id (by omega) (by omega), wrap_u8 (by omega)]
  omega
theorem marked_ok {w : World} {p : Option Addr} {n c i : Nat} {K : Value → World → Prop} (h : Rd w p n 1 (bytesV (mk i n))) (hi : i ≤ 2 ^ 60) (hn : n ≤ 2 ^ 60) (hk : K (.bool true) w) : callP Try.prog 71 [.slice p n c, .int .i64 (i : Int)] w K := by
  refine ok_longshoreref03_marked ?_
  unfold wp_longshoreref03_marked
  refine ⟨fun m k w' => ∃ j : Nat, k = j ∧ j ≤ n ∧ m = n - j ∧ w' = w, ⟨n, 0, rfl, by omega, by omega, rfl⟩, ?_⟩
  rintro m k w1 ⟨j, rfl, hj, rfl, rfl⟩
  refine Sif_cases (fun g => ?_) fun g => hk
  have hlt : j < n := by have := of_decide_eq_true g; omega
  obtain ⟨b, o, rfl, hc⟩ := h.cell (i := j) (by omega)
  rw [mkV_at hlt] at hc
  simp only [nn_some, add_at, Nat.mul_one, Int.toNat_natCast]
  refine ⟨by omega, by omega, _, hc, by omega, ?_⟩
  rw [mark_val hi (by omega), show (((((i + j / 251) % 256 : Nat) : Int)) != (((i + j / 251) % 256 : Nat) : Int)) = false by simp]
  refine Sif_false ?_
  rw [nameI_iff, wrap_id (by omega) (by omega)]
  exact ⟨n - (j + 1), by omega, j + 1, by simp, by omega, rfl, by trivial⟩
/-- a slice that was put aside, that reads as the i-th marks, in a block where nothing is done any more -/
def Aside (w : World) (busy : Nat → Prop) (i : Nat) (p : Option Addr) (n : Nat) : Prop := n ≤ 2 ^ 60 ∧ Rd w p n 1 (bytesV (mk i n)) ∧ ∀ a, p = some a → n ≠ 0 → a.block < w.heap.size ∧ ¬ busy a.block
theorem Aside.ch {S busy busy' : Nat → Prop} {w w' : World} {i n : Nat} {p : Option Addr} (h : Aside w busy i p n) (hc : Ch S w w') (hS : ∀ b, b < w.heap.size → S b → busy b) (hb : ∀ b, b < w.heap.size → busy' b → busy b) : Aside w' busy' i p n :=
  ⟨h.1, h.2.1.ch hc fun a ha h0 hs => (h.2.2 a ha (by omega)).2 (hS _ (h.2.2 a ha (by omega)).1 hs), fun a ha h0 => ⟨Nat.lt_of_lt_of_le (h.2.2 a ha h0).1 hc.size, fun hh => (h.2.2 a ha h0).2 (hb _ (h.2.2 a ha h0).1 hh)⟩⟩
end Go.Proofs.Ytncbmfinndcojaa
