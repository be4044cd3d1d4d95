/-
  Owned holds of every book.
-/
import Derived.Test.YtncbmfinndcojaaBookB
namespace Go.Proofs.Ytncbmfinndcojaa
open Go Go.Sv Go.MapKept
set_option linter.unusedVariables false
set_option maxRecDepth 10000

theorem BL.at {w : World} {p : Option Addr} {T : List BL} {c : Nat} {b : Option Nat} (h : Ow w p T.length c 1 (T.flatMap BL.cells) b) {i : Nat} {x : BL} (hi : T[i]? = some x) : ∃ k o, p = some ⟨k, o, none⟩ ∧ w.cell? ⟨k, o + i, none⟩ = some (.slice x.p x.n x.c) := by
  obtain ⟨k, o, hp, hc⟩ := Rd.at BL.cells_len h.rd hi (by omega)
  exact ⟨k, o, hp, by have := hc 0 _ rfl; simpa using this⟩
def cntG (k : Nat) : Nat := min k 3 + (if 8 < k then 1 else 0) + (if 19 < k then 1 else 0)
theorem Grow.putB {te : TypeId} {w0 w : World} {a : Nat} {T : List BL} {tp : Option Addr} {tc : Nat} {tb : Option Nat} {i k : Nat} {q : Option Addr} {m cc : Nat} {ob : Option Nat} {gp : Option Addr} {gc : Nat} {gb : Option Nat} {G : List BL}
    (N : BookN w0 a T tb) (H : Grow w0 w a T tp tc tb i q m cc ob gp gc gb G) (hG : G.length = 5 * i + cntG k) (hk5 : cntG k < 5) (hk1 : cntG (k + 1) = cntG k + 1) (hi : i < T.length) {K : Option Addr → Nat → Nat → World → Prop}
    (hk : ∀ gp' gc' gb' w' G', Grow w0 w' a T tp tc tb i q m cc ob gp' gc' gb' G' → G'.length = 5 * i + cntG (k + 1) → K gp' G'.length gc' w') :
    newB w [.slice q m cc] te fun a4 w4 => ∃ p7 n10 c7 w5, Sem.run Try.prog (Builtin.append_ #[46, 46] 46 #[.slice gp G.length gc, .slice (some a4) 1 1]) w4 = .ok (.slice p7 n10 c7) w5 ∧ K p7 n10 c7 w5 :=
  H.putA N (by omega) hi fun gp' gc' gb' w' H' => hk gp' gc' gb' w' _ H' (by simp; omega)
set_option maxHeartbeats 4000000 in
theorem owned_ok {w : World} {a : Nat} {T : List BL} {p : Option Addr} {c : Nat} {tb : Option Nat} {K : Value → World → Prop} (B : BookR w a T p c tb) (hsmall : ∀ x ∈ T, x.n ≤ 2 ^ 46) (hlen : T.length ≤ 2 ^ 40)
    (hk : ∀ w', Ch (fun b => b ∈ bowns T) w w' → K (.bool true) w') : callP Try.prog 53 [.pointer (some ⟨a, 0, none⟩)] w K := by
  have N : BookN w a T tb := ⟨B.nodup, B.lt, hsmall, hlen⟩
  have hal := N.al
  refine ok_longshoreref03_ByteBook_Owned ?_
  unfold wp_longshoreref03_ByteBook_Owned
  -- each list is written full
  refine ⟨fun m k w' => ∃ i : Nat, k = i ∧ i ≤ T.length ∧ m = T.length - i ∧ blk w' a = some [.slice p T.length c] ∧ Ow w' p T.length c 1 (T.flatMap BL.cells) tb ∧
      (∀ (j : Nat) (x : BL), T[j]? = some x → ∃ l : List UInt8, Ow w' x.p x.n x.c 1 (bytesV l) x.own ∧ (j < i → l = mk j x.n)) ∧ Ch (fun b => b ∈ bowns T) w w',
    ⟨T.length, 0, rfl, by omega, by omega, B.head, B.row, fun j x hx => (B.each x (List.mem_of_getElem? hx)).imp fun l h => ⟨h, fun h => by omega⟩, Ch.refl _ _⟩, ?_⟩
  rintro m k w1 ⟨i, rfl, hi, rfl, hd1, hr1, he1, c1⟩
  simp only [nn_some, add_at, Nat.zero_add, Nat.mul_one]
  refine ⟨_, _, _, by rw [cell_blk hd1]; rfl, Sif_cases (fun g => ?_) fun g => ?_⟩
  · have hlt : i < T.length := by have := of_decide_eq_true g; omega
    have hx : T[i]? = some T[i] := List.getElem?_eq_getElem hlt
    generalize T[i] = x at hx
    have hxm := List.mem_of_getElem? hx
    have hxn := hsmall x hxm
    obtain ⟨kb, ko, rfl, hcell⟩ := BL.at hr1 hx
    refine ⟨_, _, _, by rw [cell_blk hd1]; rfl, by omega, by omega, ?_⟩
    simp only [nn_some, add_at, Int.toNat_natCast]
    refine ⟨_, _, _, hcell, ?_⟩
    obtain ⟨l0, hl0, _⟩ := he1 i x hx
    refine ⟨fun m' k' w' => ∃ (j : Nat) (xs : List Value), k' = j ∧ j ≤ x.n ∧ m' = x.n - j ∧ Ow w' x.p x.n x.c 1 xs x.own ∧ xs.take j = (bytesV (mk i x.n)).take j ∧ Ch (fun b => x.own = some b) w1 w',
      ⟨x.n, 0, _, rfl, by omega, by omega, hl0, by simp, Ch.refl _ _⟩, ?_⟩
    rintro m' k' w2 ⟨j, xs, rfl, hj, rfl, ho2, ht2, c2⟩
    refine Sif_cases (fun g2 => ?_) fun g2 => ?_
    · have hjl : j < x.n := by have := of_decide_eq_true g2; omega
      obtain ⟨xb, xo, hxp, hxo, hst⟩ := ho2.st (i := j) (by omega)
      rw [hxp]
      simp only [nn_some, add_at, Nat.mul_one, Nat.add_zero, Int.toNat_natCast]
      refine ⟨by omega, by omega, by omega, hst _ _ fun w3 o3 c3 z3 => ?_⟩
      rw [nameI_iff, wrap_id (n := (j : Int) + 1) (by omega) (by omega)]
      have hxl : xs.length = x.n := by have := ho2.1; omega
      rw [hxp] at o3
      refine ⟨x.n - (j + 1), by omega, j + 1, _, by simp, by omega, rfl, o3, ?_, c2.trans' (c3.mono fun b _ hb => by rw [hb]; exact hxo)⟩
      rw [take_set_succ (by omega), ht2, List.take_add_one, mkV_at hjl, mark_val (by omega) (by omega)]; rfl
    · have hjn : j = x.n := by have := of_decide_eq_false g2; omega
      subst hjn
      rw [nameI_iff, wrap_id (by omega) (by omega)]
      have hxl : xs.length = x.n := by have := ho2.1; omega
      have hfin : xs = bytesV (mk i x.n) := by
        rw [List.take_of_length_le (by omega), List.take_of_length_le (by simp)] at ht2; exact ht2
      rw [hfin] at ho2
      have own := fun k (hk : x.own = some k) => N.own hx hk
      refine ⟨T.length - (i + 1), by omega, i + 1, by simp, by omega, rfl, by rw [c2.blk (blk_lt hd1) fun e => (own a e).2.1 rfl]; exact hd1, hr1.ch c2 fun k hk e => (own k e).2.2.1 hk, fun j' y hy => ?_, c1.more c2 fun k hk => (own k hk).1⟩
      by_cases hji : j' = i
      · subst hji
        rw [hx] at hy; cases hy
        exact ⟨_, ho2, fun _ => rfl⟩
      · obtain ⟨l, hl1, hl2⟩ := he1 j' y hy
        exact ⟨l, hl1.ch c2 fun k hk e => own_ne N.bn hy hx hji k hk e, fun h => hl2 (by omega)⟩
  have hge : i = T.length := by have := of_decide_eq_false g; omega
  subst hge
  clear g
  -- all are grown
  have H0 : Grows w w1 a T p c tb 0 none 0 none [] := ⟨hd1, hr1, fun j x hx _ => by
      obtain ⟨l, h1, h2⟩ := he1 j x hx
      rw [← h2 (List.getElem?_eq_some_iff.1 hx).1]; exact h1, Ow.nil, by simp, fun j x hx hj => by omega, fun t g hg => by simp at hg, c1⟩
  refine ⟨fun m' gp gn gc k' w' => ∃ (i : Nat) (gb : Option Nat) (G : List BL), k' = i ∧ i ≤ T.length ∧ m' = T.length - i ∧ gn = G.length ∧ G.length = 5 * i ∧ Grows w w' a T p c tb i gp gc gb G, ⟨T.length, 0, none, [], rfl, by omega, by omega, rfl, rfl, H0⟩, ?_⟩
  rintro m' gp gn gc k' w2 ⟨i, gb, G, rfl, hi2, rfl, rfl, hGl, H⟩
  refine ⟨_, _, _, by rw [cell_blk H.head]; rfl, Sif_cases (fun g => ?_) fun g => ?_⟩
  · have hlt : i < T.length := by have := of_decide_eq_true g; omega
    have hx : T[i]? = some T[i] := List.getElem?_eq_getElem hlt
    generalize T[i] = x at hx
    have hxm := List.mem_of_getElem? hx
    have hxn := hsmall x hxm
    obtain ⟨kb, ko, rfl, hcell⟩ := BL.at H.row hx
    refine ⟨_, _, _, by rw [cell_blk H.head]; rfl, by omega, by omega, ?_⟩
    simp only [nn_some, add_at, Int.toNat_natCast]
    refine ⟨_, _, _, hcell, ?_⟩
    have HG := H.start N hx
    refine ⟨fun m2 gp2 gn2 gc2 q2 n2 cc2 k2 w' => ∃ (k : Nat) (ob gb2 : Option Nat) (G2 : List BL), k2 = k ∧ k ≤ 20 ∧ m2 = 20 - k ∧ gn2 = G2.length ∧ G2.length = 5 * i + cntG k ∧ n2 = x.n + k ∧ Grow w w' a T (some ⟨kb, ko, none⟩) c tb i q2 n2 cc2 ob gp2 gc2 gb2 G2 ∧ (∀ k, ob = some k → k ∈ bowns T ∨ w.heap.size ≤ k),
      ⟨20, 0, x.own, gb, G, rfl, by omega, by omega, rfl, by rw [hGl]; rfl, rfl, HG, fun k hk => .inl (N.own hx hk).1⟩, ?_⟩
    rintro m2 gp2 gn2 gc2 q2 n2 cc2 k2 w3 ⟨k, ob, gb2, G2, rfl, hk20, rfl, rfl, hG2, rfl, H2, hob⟩
    refine Sif_cases (fun g2 => ?_) fun g2 => ?_
    · have hk2 : k < 20 := by have := of_decide_eq_true g2; omega
      refine ⟨fun gp3 gn3 gc3 q3 n3 cc3 w' => ∃ (ob3 gb3 : Option Nat) (G3 : List BL), gn3 = G3.length ∧ G3.length = 5 * i + cntG (k + 1) ∧ n3 = x.n + (k + 1) ∧ Grow w w' a T (some ⟨kb, ko, none⟩) c tb i q3 n3 cc3 ob3 gp3 gc3 gb3 G3 ∧ (∀ k, ob3 = some k → k ∈ bowns T ∨ w.heap.size ≤ k), ?_, by omega, ?_⟩
      · rintro gp3 gn3 gc3 q3 n3 cc3 w4 ⟨ob3, gb3, G3, rfl, h1, rfl, h2, h3⟩
        rw [nameI_iff, wrap_id (by omega) (by omega)]
        exact ⟨20 - (k + 1), by omega, k + 1, ob3, gb3, G3, by simp, by omega, rfl, rfl, h1, rfl, h2, h3⟩
      refine H2.byte N (by omega) (by omega) hob fun q3 cc3 ob3 w4 H3 hob3 => ?_
      rw [Nat.add_assoc] at H3 ⊢
      have nop : cntG (k + 1) = cntG k → ∃ (ob3' gb3 : Option Nat) (G3 : List BL), G2.length = G3.length ∧ G3.length = 5 * i + cntG (k + 1) ∧ x.n + (k + 1) = x.n + (k + 1) ∧ Grow w w4 a T (some ⟨kb, ko, none⟩) c tb i q3 (x.n + (k + 1)) cc3 ob3' gp2 gc2 gb3 G3 ∧ (∀ k, ob3' = some k → k ∈ bowns T ∨ w.heap.size ≤ k) := fun h => ⟨ob3, gb2, G2, rfl, by rw [h]; exact hG2, rfl, H3, hob3⟩
      refine Sif_cases (fun q1 => Sif_cases (fun q2' => Sif_cases (fun q3' => ?_) fun q3' => nop ?_) fun q2' => ?_) fun q1 => ?_
      · have h19 : k = 19 := by simp at q3'; omega
        exact H3.putB N hG2 (by subst h19; decide) (by subst h19; rfl) hlt fun gp' gc' gb' w' G' H' hG' => ⟨ob3, gb', G', rfl, hG', rfl, H', hob3⟩
      · have h1 : ¬ k < 3 := by simp at q1; omega
        have h2 : k ≠ 8 := by simp at q2'; omega
        have h3 : k ≠ 19 := by simp at q3'; omega
        unfold cntG
        split <;> split <;> split <;> split <;> omega
      · have h8 : k = 8 := by simp at q2'; omega
        exact H3.putB N hG2 (by subst h8; decide) (by subst h8; rfl) hlt fun gp' gc' gb' w' G' H' hG' => ⟨ob3, gb', G', rfl, hG', rfl, H', hob3⟩
      · have h3 : k < 3 := by simp at q1; omega
        exact H3.putB N hG2 (by unfold cntG; split <;> split <;> omega) (by unfold cntG; split <;> split <;> split <;> split <;> omega) hlt fun gp' gc' gb' w' G' H' hG' => ⟨ob3, gb', G', rfl, hG', rfl, H', hob3⟩
    · have hk2 : k = 20 := by have := of_decide_eq_false g2; omega
      subst hk2
      rw [nameI_iff, wrap_id (by omega) (by omega)]
      exact ⟨T.length - (i + 1), by omega, i + 1, gb2, G2, by simp, by omega, rfl, rfl, by rw [hG2]; show 5 * i + 5 = _; omega, H2.stop (by omega)⟩
  have hge : i = T.length := by have := of_decide_eq_false g; omega
  subst hge
  clear g
  -- each reads as it was written
  refine ⟨fun m' k' w' => ∃ i : Nat, k' = i ∧ i ≤ T.length ∧ m' = T.length - i ∧ w' = w2, ⟨T.length, 0, rfl, by omega, by omega, rfl⟩, ?_⟩
  rintro m' k' w3 ⟨i, rfl, hi3, rfl, rfl⟩
  refine ⟨_, _, _, by rw [cell_blk H.head]; rfl, Sif_cases (fun g => ?_) fun g => ?_⟩
  · have hlt : i < T.length := by have := of_decide_eq_true g; omega
    have hx : T[i]? = some T[i] := List.getElem?_eq_getElem hlt
    generalize T[i] = x at hx
    have hxn := hsmall x (List.mem_of_getElem? hx)
    obtain ⟨kb, ko, rfl, hcell⟩ := BL.at H.row hx
    refine ⟨_, _, _, by rw [cell_blk H.head]; rfl, by omega, by omega, ?_⟩
    simp only [nn_some, add_at, Int.toNat_natCast]
    refine ⟨_, _, _, hcell, marked_ok (H.past i x hx hlt).2.1 (by omega) (by omega) ⟨_, rfl, Sif_false ?_⟩⟩
    rw [nameI_iff, wrap_id (by omega) (by omega)]
    exact ⟨T.length - (i + 1), by omega, i + 1, by simp, by omega, rfl, by trivial⟩
  · refine ⟨fun m' k' w' => ∃ t : Nat, k' = t ∧ t ≤ G.length ∧ m' = G.length - t ∧ w' = w3, ⟨G.length, 0, rfl, by omega, by omega, rfl⟩, ?_⟩
    rintro m' k' w4 ⟨t, rfl, ht, rfl, rfl⟩
    refine Sif_cases (fun g2 => ?_) fun g2 => hk w4 H.ch
    have hlt : t < G.length := by have := of_decide_eq_true g2; omega
    have hx : G[t]? = some G[t] := List.getElem?_eq_getElem hlt
    generalize G[t] = x at hx
    obtain ⟨kb, ko, rfl, hcell⟩ := BL.at H.grown hx
    simp only [nn_some, add_at, Int.toNat_natCast]
    refine ⟨by omega, by omega, _, _, _, hcell, by omega, ?_⟩
    have e5 : IntKind.wrap .i64 (Int.tdiv (t : Int) 5) = ((t / 5 : Nat) : Int) := by
      have e : Int.tdiv (t : Int) 5 = ((t / 5 : Nat) : Int) := by rw [Int.tdiv_eq_ediv_of_nonneg (by omega)]; rfl
      rw [e, wrap_id (by omega) (by omega)]
    rw [e5]
    have hA := H.put t x hx
    refine marked_ok hA.2.1 (by omega) hA.1 ⟨_, rfl, Sif_false ?_⟩
    rw [nameI_iff, wrap_id (by omega) (by omega)]
    exact ⟨G.length - (t + 1), by omega, t + 1, by simp, by omega, rfl, by trivial⟩
end Go.Proofs.Ytncbmfinndcojaa
