/-
  Owned: each list is written full, all are grown, each reads as it was written.
-/
import Derived.Test.YtncbmfinndcojaaBook
namespace Go.Proofs.Ytncbmfinndcojaa
open Go Go.Sv Go.MapKept
set_option linter.unusedVariables false
set_option maxRecDepth 10000

theorem own_ne {T : List BL} (h : (bowns T).Nodup) {i j : Nat} {x y : BL} (hi : T[i]? = some x) (hj : T[j]? = some y) (hne : i ≠ j) : ∀ k, x.own = some k → y.own ≠ some k := by
  induction T generalizing i j with
  | nil => simp at hi
  | cons z T ih =>
    have h' : (z.own.toList ++ bowns T).Nodup := h
    obtain ⟨n1, n2, n3⟩ := List.nodup_append.1 h'
    intro k hk hk2
    cases i with
    | zero =>
      cases j with
      | zero => exact hne rfl
      | succ j =>
        simp only [List.getElem?_cons_zero, Option.some.injEq] at hi
        subst hi
        exact n3 k (by simp [hk]) k (List.mem_flatMap.2 ⟨y, List.mem_of_getElem? hj, by simp [hk2]⟩) rfl
    | succ i =>
      cases j with
      | zero =>
        simp only [List.getElem?_cons_zero, Option.some.injEq] at hj
        subst hj
        exact n3 k (by simp [hk2]) k (List.mem_flatMap.2 ⟨x, List.mem_of_getElem? hi, by simp [hk]⟩) rfl
      | succ j => exact ih n2 hi hj (fun e => hne (by omega)) k hk hk2
/-- what is done to a book's lists when they are grown: at list i, whose slice is now (q, m), in block ob; gb: the block of what is put aside -/
structure Grow (w0 w : World) (a : Nat) (T : List BL) (tp : Option Addr) (tc : Nat) (tb : Option Nat) (i : Nat) (q : Option Addr) (m cc : Nat) (ob : Option Nat) (gp : Option Addr) (gc : Nat) (gb : Option Nat) (G : List BL) : Prop where
  head : blk w a = some [.slice tp T.length tc]
  row : Ow w tp T.length tc 1 (T.flatMap BL.cells) tb
  cur : Ow w q m cc 1 (bytesV (mk i m)) ob
  rest : ∀ j x, T[j]? = some x → i < j → Ow w x.p x.n x.c 1 (bytesV (mk j x.n)) x.own
  curN : ∀ k, ob = some k → k ≠ a ∧ tb ≠ some k ∧ gb ≠ some k ∧ ∀ j x, T[j]? = some x → i < j → x.own ≠ some k
  grown : Ow w gp G.length gc 1 (G.flatMap BL.cells) gb
  gbN : ∀ k, gb = some k → w0.heap.size ≤ k
  past : ∀ j x, T[j]? = some x → j ≤ i → Aside w (fun b => b = a ∨ tb = some b ∨ gb = some b ∨ ob = some b ∨ ∃ j x, T[j]? = some x ∧ i < j ∧ x.own = some b) j x.p x.n ∨ (j = i ∧ x.p = q ∧ x.n ≤ m)
  put : ∀ t g, G[t]? = some g → Aside w (fun b => b = a ∨ tb = some b ∨ gb = some b ∨ ob = some b ∨ ∃ j x, T[j]? = some x ∧ i < j ∧ x.own = some b) (t / 5) g.p g.n ∨ (t / 5 = i ∧ g.p = q ∧ g.n ≤ m)
  ch : Ch (fun b => b ∈ bowns T) w0 w
/-- .. between two lists -/
structure Grows (w0 w : World) (a : Nat) (T : List BL) (tp : Option Addr) (tc : Nat) (tb : Option Nat) (i : Nat) (gp : Option Addr) (gc : Nat) (gb : Option Nat) (G : List BL) : Prop where
  head : blk w a = some [.slice tp T.length tc]
  row : Ow w tp T.length tc 1 (T.flatMap BL.cells) tb
  rest : ∀ j x, T[j]? = some x → i ≤ j → Ow w x.p x.n x.c 1 (bytesV (mk j x.n)) x.own
  grown : Ow w gp G.length gc 1 (G.flatMap BL.cells) gb
  gbN : ∀ k, gb = some k → w0.heap.size ≤ k
  past : ∀ j x, T[j]? = some x → j < i → Aside w (fun b => b = a ∨ tb = some b ∨ gb = some b ∨ ∃ j x, T[j]? = some x ∧ i ≤ j ∧ x.own = some b) j x.p x.n
  put : ∀ t g, G[t]? = some g → Aside w (fun b => b = a ∨ tb = some b ∨ gb = some b ∨ ∃ j x, T[j]? = some x ∧ i ≤ j ∧ x.own = some b) (t / 5) g.p g.n
  ch : Ch (fun b => b ∈ bowns T) w0 w
/-- what stands in a book -/
structure BookN (w0 : World) (a : Nat) (T : List BL) (tb : Option Nat) : Prop where
  nd : (a :: (tb.toList ++ bowns T)).Nodup
  lt : ∀ b ∈ a :: (tb.toList ++ bowns T), b < w0.heap.size
  small : ∀ x ∈ T, x.n ≤ 2 ^ 46
  len : T.length ≤ 2 ^ 40
theorem BookN.own {w0 : World} {a : Nat} {T : List BL} {tb : Option Nat} (N : BookN w0 a T tb) {j : Nat} {x : BL} (hx : T[j]? = some x) {k : Nat} (hk : x.own = some k) : k ∈ bowns T ∧ k ≠ a ∧ tb ≠ some k ∧ k < w0.heap.size := by
  have h1 : k ∈ bowns T := List.mem_flatMap.2 ⟨x, List.mem_of_getElem? hx, by simp [hk]⟩
  obtain ⟨n1, n2⟩ := List.nodup_cons.1 N.nd
  refine ⟨h1, fun e => n1 (by rw [← e]; exact List.mem_append.2 (.inr h1)), fun e => ?_, N.lt k (List.mem_cons_of_mem _ (List.mem_append.2 (.inr h1)))⟩
  exact (List.nodup_append.1 n2).2.2 k (by simp [e]) k h1 rfl
theorem BookN.bn {w0 : World} {a : Nat} {T : List BL} {tb : Option Nat} (N : BookN w0 a T tb) : (bowns T).Nodup := (List.nodup_append.1 (List.nodup_cons.1 N.nd).2).2.1
theorem BookN.ta {w0 : World} {a : Nat} {T : List BL} {tb : Option Nat} (N : BookN w0 a T tb) : ∀ k, tb = some k → k ≠ a ∧ k < w0.heap.size ∧ k ∉ bowns T := fun k hk => by
  obtain ⟨n1, n2⟩ := List.nodup_cons.1 N.nd
  exact ⟨fun e => n1 (by rw [← e, hk]; simp), N.lt k (by simp [hk]), fun h => (List.nodup_append.1 n2).2.2 k (by simp [hk]) k h rfl⟩
theorem BookN.al {w0 : World} {a : Nat} {T : List BL} {tb : Option Nat} (N : BookN w0 a T tb) : a < w0.heap.size ∧ a ∉ bowns T := ⟨N.lt a (by simp), fun h => (List.nodup_cons.1 N.nd).1 (List.mem_append.2 (.inr h))⟩
/-- a list is taken in hand -/
theorem Grows.start {w0 w : World} {a : Nat} {T : List BL} {tp : Option Addr} {tc : Nat} {tb : Option Nat} {i : Nat} {gp : Option Addr} {gc : Nat} {gb : Option Nat} {G : List BL} (N : BookN w0 a T tb) (H : Grows w0 w a T tp tc tb i gp gc gb G) {x : BL} (hx : T[i]? = some x) :
    Grow w0 w a T tp tc tb i x.p x.n x.c x.own gp gc gb G := by
  have busy : ∀ b, (b = a ∨ tb = some b ∨ gb = some b ∨ x.own = some b ∨ ∃ j x, T[j]? = some x ∧ i < j ∧ x.own = some b) → (b = a ∨ tb = some b ∨ gb = some b ∨ ∃ j x, T[j]? = some x ∧ i ≤ j ∧ x.own = some b) := by
    rintro b (h | h | h | h | ⟨j, y, h1, h2, h3⟩)
    · exact .inl h
    · exact .inr (.inl h)
    · exact .inr (.inr (.inl h))
    · exact .inr (.inr (.inr ⟨i, x, hx, Nat.le_refl _, h⟩))
    · exact .inr (.inr (.inr ⟨j, y, h1, by omega, h3⟩))
  refine ⟨H.head, H.row, H.rest i x hx (Nat.le_refl _), fun j y hy hj => H.rest j y hy (by omega), fun k hk => ?_, H.grown, H.gbN, fun j y hy hj => ?_, fun t g hg => .inl ?_, H.ch⟩
  · have h1 := N.own hx hk
    refine ⟨h1.2.1, h1.2.2.1, fun e => by have := H.gbN k e; omega, fun j y hy hj => own_ne N.bn hx hy (by omega) k hk⟩
  · by_cases h : j = i
    · subst h
      rw [hx] at hy; cases hy
      exact .inr ⟨rfl, rfl, Nat.le_refl _⟩
    · exact .inl ((H.past j y hy (by omega)).ch (Ch.refl (fun _ => False) w) (fun _ _ h => h.elim) fun b _ hb => busy b hb)
  · exact (H.put t g hg).ch (Ch.refl (fun _ => False) w) (fun _ _ h => h.elim) fun b _ hb => busy b hb
/-- what was in hand is put aside -/
theorem Grow.aside {w0 w : World} {a : Nat} {T : List BL} {tp : Option Addr} {tc : Nat} {tb : Option Nat} {i : Nat} {q : Option Addr} {m cc : Nat} {ob : Option Nat} {gp : Option Addr} {gc : Nat} {gb : Option Nat} {G : List BL}
    (H : Grow w0 w a T tp tc tb i q m cc ob gp gc gb G) (hm : m ≤ 2 ^ 60) {n : Nat} (hn : n ≤ m) {busy : Nat → Prop} (hb : ∀ k, ob = some k → ¬ busy k) : Aside w busy i q n := by
  refine ⟨by omega, ?_, fun b hb' h0 => ?_⟩
  · have := Rd.take H.cur.rd hn
    rw [mk_take hn] at this; exact this
  · obtain ⟨h1, h2, h3⟩ := H.cur
    rcases h3 with ⟨_, h3⟩ | ⟨k, o, cs, hk, hp, hcs, _⟩
    · omega
    · rw [hp] at hb'; cases hb'
      exact ⟨blk_lt hcs, hb k hk⟩
theorem Grow.stop {w0 w : World} {a : Nat} {T : List BL} {tp : Option Addr} {tc : Nat} {tb : Option Nat} {i : Nat} {q : Option Addr} {m cc : Nat} {ob : Option Nat} {gp : Option Addr} {gc : Nat} {gb : Option Nat} {G : List BL}
    (H : Grow w0 w a T tp tc tb i q m cc ob gp gc gb G) (hm : m ≤ 2 ^ 60) : Grows w0 w a T tp tc tb (i + 1) gp gc gb G := by
  have nb : ∀ k, ob = some k → ¬ (k = a ∨ tb = some k ∨ gb = some k ∨ ∃ j x, T[j]? = some x ∧ i + 1 ≤ j ∧ x.own = some k) := by
    rintro k hk (h | h | h | ⟨j, y, h1, h2, h3⟩)
    · exact (H.curN k hk).1 h
    · exact (H.curN k hk).2.1 h
    · exact (H.curN k hk).2.2.1 h
    · exact (H.curN k hk).2.2.2 j y h1 (by omega) h3
  have busy : ∀ b, (b = a ∨ tb = some b ∨ gb = some b ∨ ∃ j x, T[j]? = some x ∧ i + 1 ≤ j ∧ x.own = some b) → (b = a ∨ tb = some b ∨ gb = some b ∨ ob = some b ∨ ∃ j x, T[j]? = some x ∧ i < j ∧ x.own = some b) := by
    rintro b (h | h | h | ⟨j, y, h1, h2, h3⟩)
    · exact .inl h
    · exact .inr (.inl h)
    · exact .inr (.inr (.inl h))
    · exact .inr (.inr (.inr (.inr ⟨j, y, h1, by omega, h3⟩)))
  refine ⟨H.head, H.row, fun j x hx hj => H.rest j x hx (by omega), H.grown, H.gbN, fun j x hx hj => ?_, fun t g hg => ?_, H.ch⟩
  · rcases H.past j x hx (by omega) with h | ⟨rfl, h1, h2⟩
    · exact h.ch (Ch.refl (fun _ => False) w) (fun _ _ h => h.elim) fun b _ hb => busy b hb
    · rw [h1]; exact H.aside hm h2 nb
  · rcases H.put t g hg with h | ⟨h0, h1, h2⟩
    · exact h.ch (Ch.refl (fun _ => False) w) (fun _ _ h => h.elim) fun b _ hb => busy b hb
    · rw [h0, h1]; exact H.aside hm h2 nb
/-- one byte more -/
theorem Grow.byte {te : TypeId} {w0 w : World} {a : Nat} {T : List BL} {tp : Option Addr} {tc : Nat} {tb : Option Nat} {i : Nat} {q : Option Addr} {m cc : Nat} {ob : Option Nat} {gp : Option Addr} {gc : Nat} {gb : Option Nat} {G : List BL}
    (N : BookN w0 a T tb) (H : Grow w0 w a T tp tc tb i q m cc ob gp gc gb G) (hi : i ≤ 2 ^ 60) (hm : m < 2 ^ 47) (hobs : ∀ k, ob = some k → k ∈ bowns T ∨ w0.heap.size ≤ k) {K : Option Addr → Nat → Nat → World → Prop}
    (hk : ∀ q' cc' ob' w', Grow w0 w' a T tp tc tb i q' (m + 1) cc' ob' gp gc gb G → (∀ k, ob' = some k → k ∈ bowns T ∨ w0.heap.size ≤ k) → K q' (m + 1) cc' w') :
    newB w [.int .u8 (IntKind.wrap .u8 (IntKind.wrap .i64 ((i : Int) + IntKind.wrap .i64 (Int.tdiv (m : Int) 251))))] te fun a4 w4 => ∃ p7 n10 c7 w5, Sem.run Try.prog (Builtin.append_ #[31, 31] 31 #[.slice q m cc, .slice (some a4) 1 1]) w4 = .ok (.slice p7 n10 c7) w5 ∧ K p7 n10 c7 w5 := by
  rw [mark_val hi (by omega)]
  refine newB_blk fun w4 b4 c4 z4 => ?_
  have hrd : Rd w4 (some ⟨w.heap.size, 0, none⟩) 1 1 [.int .u8 (((i + m / 251) % 256 : Nat) : Int)] := ⟨rfl, .inr ⟨_, 0, _, rfl, blk_cells b4, by simp, rfl⟩⟩
  obtain ⟨p', c', w', b', r1, r2, r3⟩ := append_rd2 (ty := 31) (c2 := 1) Try.underlying31 Try.underlying31 byte_info rfl (H.cur.ch c4 fun _ _ => id) hrd (by simp [oneV]) (by omega) (by omega)
  rw [← mkV_succ] at r2
  refine ⟨p', _, c', w', r1, hk p' c' b' w' ?_ ?_⟩
  rotate_left
  · intro k hk
    rcases r3 with ⟨rfl, _, _⟩ | ⟨rfl, _, _⟩
    · exact hobs k hk
    · cases hk; have := H.ch.size; have := c4.size; exact .inr (by omega)
  have hlt : ∀ (j : Nat) (x : BL), T[j]? = some x → ∀ k, x.own = some k → k < w.heap.size := fun j x hx k hk => by have := (N.own hx hk).2.2.2; have := H.ch.size; omega
  have hal : a < w.heap.size := by have := N.al.1; have := H.ch.size; omega
  have htl : ∀ k, tb = some k → k < w.heap.size := H.row.blt
  have hgl : ∀ k, gb = some k → k < w.heap.size := H.grown.blt
  have hol : ∀ k, ob = some k → k < w.heap.size := H.cur.blt
  -- whatever happened, only what was in hand has changed
  have hch : Ch (fun k => ob = some k) w w' := by
    rcases r3 with ⟨_, _, h⟩ | ⟨_, _, h⟩
    · exact (c4.mono fun _ _ h => h.elim).trans' h
    · exact ((c4.new h).mono fun _ _ h => h.elim)
  have hb' : ∀ k, b' = some k → ob = some k ∨ w.heap.size ≤ k := fun k hk => by
    rcases r3 with ⟨rfl, _, _⟩ | ⟨rfl, _, _⟩
    · exact .inl hk
    · cases hk; exact .inr (by omega)
  have busy : ∀ b, b < w.heap.size → (b = a ∨ tb = some b ∨ gb = some b ∨ b' = some b ∨ ∃ j x, T[j]? = some x ∧ i < j ∧ x.own = some b) → (b = a ∨ tb = some b ∨ gb = some b ∨ ob = some b ∨ ∃ j x, T[j]? = some x ∧ i < j ∧ x.own = some b) := by
    rintro b hbl (h | h | h | h | h)
    · exact .inl h
    · exact .inr (.inl h)
    · exact .inr (.inr (.inl h))
    · rcases hb' b h with h | h
      · exact .inr (.inr (.inr (.inl h)))
      · omega
    · exact .inr (.inr (.inr (.inr h)))
  -- what was put aside earlier in the same row
  have same : ∀ n (p : Option Addr), p = q → n ≤ m → Aside w' (fun b => b = a ∨ tb = some b ∨ gb = some b ∨ b' = some b ∨ ∃ j x, T[j]? = some x ∧ i < j ∧ x.own = some b) i p n ∨ (p = p' ∧ n ≤ m + 1) := by
    rintro n p rfl hn
    rcases r3 with ⟨_, rfl, _⟩ | ⟨rfl, _, h⟩
    · exact .inr ⟨rfl, by omega⟩
    · refine .inl ((H.aside (busy := fun b => False) (by omega) hn fun _ _ => id).ch (c4.new h) (fun _ _ h => h) (fun _ _ h => h) |> fun A => ⟨A.1, A.2.1, fun b hb h0 => ⟨(A.2.2 b hb h0).1, ?_⟩⟩)
      have hq := (H.aside (busy := fun b => False) (by omega) hn fun _ _ => id).2.2 b hb h0
      have hbob : ob = some b.block := by
        obtain ⟨h1, h2, h3⟩ := H.cur
        rcases h3 with ⟨_, h3⟩ | ⟨k, o, cs, hk, hp, _⟩
        · omega
        · rw [hp] at hb; cases hb; exact hk
      rintro (h | h | h | h | ⟨j, y, h1, h2, h3⟩)
      · exact (H.curN _ hbob).1 h
      · exact (H.curN _ hbob).2.1 h
      · exact (H.curN _ hbob).2.2.1 h
      · have := Option.some.inj h; omega
      · exact (H.curN _ hbob).2.2.2 j y h1 h2 h3
  refine ⟨by rw [hch.blk hal fun e => (H.curN a e).1 rfl]; exact H.head, H.row.ch hch fun k hk e => (H.curN k e).2.1 hk, r2, fun j x hx hj => (H.rest j x hx hj).ch hch fun k hk e => (H.curN k e).2.2.2 j x hx hj hk, fun k hk => ?_,
    H.grown.ch hch fun k hk e => (H.curN k e).2.2.1 hk, H.gbN, fun j x hx hj => ?_, fun t g hg => ?_, ?_⟩
  · rcases hb' k hk with h | h
    · exact H.curN k h
    · exact ⟨by omega, fun e => by have := htl k e; omega, fun e => by have := hgl k e; omega, fun j y hy _ e => by have := hlt j y hy k e; omega⟩
  · rcases H.past j x hx hj with h | ⟨rfl, h1, h2⟩
    · exact .inl (h.ch hch (fun b _ hb => .inr (.inr (.inr (.inl hb)))) busy)
    · exact (same _ _ h1 h2).imp id fun h => ⟨rfl, h⟩
  · rcases H.put t g hg with h | ⟨h0, h1, h2⟩
    · exact .inl (h.ch hch (fun b _ hb => .inr (.inr (.inr (.inl hb)))) busy)
    · rw [h0]
      exact (same _ _ h1 h2).imp id fun h => ⟨rfl, h⟩
  · exact H.ch.trans hch fun k hk h => (hobs k h).resolve_right (by omega)
/-- it is put aside as it stands -/
theorem Grow.putA {te : TypeId} {w0 w : World} {a : Nat} {T : List BL} {tp : Option Addr} {tc : Nat} {tb : Option Nat} {i : Nat} {q : Option Addr} {m cc : Nat} {ob : Option Nat} {gp : Option Addr} {gc : Nat} {gb : Option Nat} {G : List BL}
    (N : BookN w0 a T tb) (H : Grow w0 w a T tp tc tb i q m cc ob gp gc gb G) (hG : G.length / 5 = i) (hi : i < T.length) {K : Option Addr → Nat → Nat → World → Prop}
    (hk : ∀ gp' gc' gb' w', Grow w0 w' a T tp tc tb i q m cc ob gp' gc' gb' (G ++ [({ p := q, n := m, c := cc, own := none } : BL)]) → K gp' (G ++ [({ p := q, n := m, c := cc, own := none } : BL)]).length gc' w') :
    newB w [.slice q m cc] te fun a4 w4 => ∃ p7 n10 c7 w5, Sem.run Try.prog (Builtin.append_ #[46, 46] 46 #[.slice gp G.length gc, .slice (some a4) 1 1]) w4 = .ok (.slice p7 n10 c7) w5 ∧ K p7 n10 c7 w5 := by
  have hlen := N.len
  refine push_ok (g := BL.cells) Try.underlying46 lists_info rfl BL.cells_len BL.cells_one H.grown ({ p := q, n := m, c := cc, own := none } : BL) (by omega) (by omega) fun p' c' b' w' o' n' c1 => hk p' c' b' w' ?_
  have hz := H.ch.size
  have hal : a < w.heap.size := by have := N.al.1; omega
  have hlt : ∀ (j : Nat) (x : BL), T[j]? = some x → ∀ k, x.own = some k → k < w0.heap.size := fun j x hx k hk => (N.own hx hk).2.2.2
  have hob' : ∀ k, ob = some k → b' ≠ some k := fun k hk e => by
    rcases n' k e with h | h
    · exact (H.curN k hk).2.2.1 h
    · have := H.cur.blt k hk; omega
  have busy : ∀ b, b < w.heap.size → (b = a ∨ tb = some b ∨ b' = some b ∨ ob = some b ∨ ∃ j x, T[j]? = some x ∧ i < j ∧ x.own = some b) → (b = a ∨ tb = some b ∨ gb = some b ∨ ob = some b ∨ ∃ j x, T[j]? = some x ∧ i < j ∧ x.own = some b) := by
    rintro b hbl (h | h | h | h)
    · exact .inl h
    · exact .inr (.inl h)
    · rcases n' b h with h | h
      · exact .inr (.inr (.inl h))
      · omega
    · exact .inr (.inr (.inr h))
  have hhd : blk w' a = some [.slice tp T.length tc] := by
    rw [c1.blk hal fun e => by have := H.gbN a e; have := N.al.1; omega]; exact H.head
  refine ⟨hhd, H.row.ch c1 fun k hk e => by have := H.gbN k e; have := (N.ta k hk).2.1; omega, H.cur.ch c1 fun k hk e => (H.curN k hk).2.2.1 e,
    fun j x hx hj => (H.rest j x hx hj).ch c1 fun k hk e => by have := H.gbN k e; have := hlt j x hx k hk; omega, fun k hk => ⟨(H.curN k hk).1, (H.curN k hk).2.1, hob' k hk, (H.curN k hk).2.2.2⟩, o', fun k hk => ?_, fun j x hx hj => ?_, fun t g hg => ?_, ?_⟩
  · rcases n' k hk with h | h
    · exact H.gbN k h
    · omega
  · rcases H.past j x hx hj with h | h
    · exact .inl (h.ch c1 (fun b _ hb => .inr (.inr (.inl hb))) busy)
    · exact .inr h
  · by_cases ht : t < G.length
    · rw [List.getElem?_append_left ht] at hg
      rcases H.put t g hg with h | h
      · exact .inl (h.ch c1 (fun b _ hb => .inr (.inr (.inl hb))) busy)
      · exact .inr h
    · have htl := (List.getElem?_eq_some_iff.1 hg).1
      simp only [List.length_append, List.length_cons, List.length_nil] at htl
      have hte : t = G.length := by omega
      subst hte
      rw [List.getElem?_append_right (Nat.le_refl _)] at hg
      simp at hg
      subst hg
      exact .inr ⟨hG, rfl, Nat.le_refl _⟩
  · exact H.ch.trans c1 fun k hk h => by have := H.gbN k h; omega
end Go.Proofs.Ytncbmfinndcojaa
