/-
  The queue's heap: up.
-/
import Derived.Test.YtipbbjnmpnfhpaaDoorQmeth
namespace Go.Proofs.YtipbbjnmpnfhpaaDoor
open Go Go.Sv Go.Heap
set_option linter.unusedVariables false
set_option maxRecDepth 4000
def En0 : En := ⟨0, 0, 0, false, 0, 0, none, 0, 0⟩
def atE (L : List En) (i : Nat) : En := (L[i]?).getD En0
theorem atE_get {L : List En} {i : Nat} (h : i < L.length) : L[i]? = some (atE L i) := by
  unfold atE; rw [List.getElem?_eq_getElem h]; rfl
theorem atE_sw {L : List En} {i j : Nat} (hi : i < L.length) (hj : j < L.length) : atE ((L.set i (atE L j)).set j (atE L i)) = sw (atE L) i j := by
  funext k
  unfold sw
  by_cases h1 : k = i
  · subst h1
    rw [if_pos rfl]
    by_cases h2 : k = j
    · subst h2
      unfold atE
      rw [List.getElem?_set_self (by simpa using hi)]
      rfl
    · unfold atE
      rw [List.getElem?_set_ne (fun e => h2 e.symm), List.getElem?_set_self hi]
      rfl
  · rw [if_neg h1]
    by_cases h2 : k = j
    · subst h2
      rw [if_pos rfl]
      unfold atE
      rw [List.getElem?_set_self (by simpa using hj)]
      rfl
    · rw [if_neg h2]
      unfold atE
      rw [List.getElem?_set_ne (fun e => h2 e.symm), List.getElem?_set_ne (fun e => h1 e.symm)]
theorem sw_perm {L : List En} {i j : Nat} (hi : i < L.length) (hj : j < L.length) : ((L.set i (atE L j)).set j (atE L i)).Perm L := by
  have e1 : atE L j = L[j] := by unfold atE; rw [List.getElem?_eq_getElem hj]; rfl
  have e2 : atE L i = L[i] := by unfold atE; rw [List.getElem?_eq_getElem hi]; rfl
  rw [e1, e2]
  exact List.set_set_perm hi hj
theorem hup_ok {a : Addr} {w : World} {p : Option Addr} {n c j N : Nat} {L : List En} {own : Option Nat} {K : Value → World → Prop} (hc : ∀ w', Ch (fun b => own = some b) w w' → w'.cell? a = some (.slice p n c)) (ho : Ow w p n c 7 (L.flatMap En.cells) own) (hl : L.length = n) (hn : n ≤ 2 ^ 40) (hN : N ≤ n) (hj : j < N) (hi : UpInv En.lt (atE L) N j)
    (hk : ∀ w' L', L'.Perm L → (∀ k, N ≤ k → atE L' k = atE L k) → HeapFrom En.lt (atE L') N 0 → Ow w' p n c 7 (L'.flatMap En.cells) own → Ch (fun b => own = some b) w w' → K (.tuple #[]) w') : callP Tryd.prog 37 [fH a, .int .i64 (j : Int)] w K := by
  refine ok_heap_up ?_
  unfold wp_heap_up
  refine ⟨fun m i w' => ∃ (t : Nat) (L' : List En), i = (t : Int) ∧ t < N ∧ m = t ∧ L'.Perm L ∧ (∀ k, N ≤ k → atE L' k = atE L k) ∧ UpInv En.lt (atE L') N t ∧ Ow w' p n c 7 (L'.flatMap En.cells) own ∧ Ch (fun b => own = some b) w w', ⟨j, j, L, rfl, hj, rfl, .refl _, fun _ _ => rfl, hi, ho, Ch.refl _ _⟩, ?_⟩
  rintro m i w1 ⟨t, L', rfl, ht, hm, hp, htl, hinv, o1, c1⟩
  have hl' : L'.length = n := by rw [hp.length_eq]; exact hl
  refine ⟨by decide, ?_⟩
  have hq : IntKind.wrap .i64 (Int.tdiv (IntKind.wrap .i64 ((t : Int) - 1)) 2) = ((par t : Nat) : Int) := by
    rw [wrap_id (n := (t : Int) - 1) (by omega) (by omega)]
    unfold par
    by_cases h0 : t = 0
    · subst h0; decide
    · have e : Int.tdiv ((t : Int) - 1) 2 = (((t - 1) / 2 : Nat) : Int) := by
        rw [Int.tdiv_eq_ediv_of_nonneg (by omega)]; omega
      rw [e, wrap_id (by omega) (by omega)]
  rw [hq, nameI_iff]
  have hpt : par t < N := by unfold par; omega
  refine ⟨fun w2 => Ch (fun _ => False) w1 w2 ∧ 0 < t ∧ En.lt (atE L' t) (atE L' (par t)) = true, ?_, Sif_cases (fun hne => ?_) fun hne => ?_⟩
  · rintro w2 ⟨c2, h0, hlt⟩
    have c12 := c1.new c2
    have o2 := o1.ch c2 fun _ _ => id
    refine iSwap (hc w2 c12) o2 hl' (atE_get (by omega)) (atE_get (by omega)) fun w3 o3 c3 z3 => ⟨rfl, par t, by have := par_lt h0; omega, par t, _, rfl, hpt, rfl, (sw_perm (by omega) (by omega)).trans hp, fun k hk => ?_, ?_, o3, c12.trans' c3⟩
    · rw [atE_sw (by omega) (by omega)]
      unfold sw
      rw [if_neg (by omega), if_neg (by omega)]
      exact htl k hk
    rw [atE_sw (by omega) (by omega)]
    exact up_step En.ord hinv h0 ht hlt
  · have hne' : par t ≠ t := fun e => by rw [e] at hne; simp at hne
    have h0 : 0 < t := by
      rcases Nat.eq_zero_or_pos t with h | h
      · subst h; exact absurd rfl hne'
      · exact h
    refine iLess (hc w1 c1) o1.rd hl' (atE_get (by omega)) (atE_get (by omega)) fun w2 c2 => ⟨_, rfl, Sif_cases (fun hb => ?_) fun hb => ?_⟩
    · have hb : En.lt (atE L' t) (atE L' (par t)) = false := by simpa using hb
      exact hk w2 L' hp htl (up_done hinv (.inr hb)) (o1.ch c2 fun _ _ => id) (c1.new c2)
    · have hb : En.lt (atE L' t) (atE L' (par t)) = true := by simpa using hb
      exact ⟨c2, h0, hb⟩
  · have he : par t = t := by
      have : ((par t : Nat) : Int) = (t : Int) := by simpa using hne
      omega
    have h0 : t = 0 := by
      rcases Nat.eq_zero_or_pos t with h | h
      · exact h
      · have := par_lt h; omega
    exact hk w1 L' hp htl (up_done hinv (.inl h0)) o1 c1
end Go.Proofs.YtipbbjnmpnfhpaaDoor
