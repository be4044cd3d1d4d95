/-
  The queue's heap: down.
-/
import Derived.Test.YtipbbjnmpnfhpaaDoorQup
namespace Go.Proofs.YtipbbjnmpnfhpaaDoor
open Go Go.Sv Go.Heap
set_option linter.unusedVariables false
set_option maxRecDepth 4000
theorem hdown_ok {a : Addr} {w : World} {p : Option Addr} {n c i0 N s : Nat} {L : List En} {own : Option Nat} {K : Value → World → Prop} (hc : ∀ w', Ch (fun b => own = some b) w w' → w'.cell? a = some (.slice p n c)) (ho : Ow w p n c 7 (L.flatMap En.cells) own) (hl : L.length = n) (hn : n ≤ 2 ^ 40) (hN : N ≤ n) (hi0 : i0 ≤ n) (hi : DnInv En.lt (atE L) N s i0)
    (hk : ∀ w' L' b, (b = false → L' = L) → (b = true → ∃ c, 0 < c ∧ c < N ∧ par c = i0 ∧ En.lt (atE L c) (atE L i0) = true) → L'.Perm L → (∀ k, N ≤ k → atE L' k = atE L k) → HeapFrom En.lt (atE L') N s → Ow w' p n c 7 (L'.flatMap En.cells) own → Ch (fun b => own = some b) w w' → K (.bool b) w') : callP Tryd.prog 39 [fH a, .int .i64 (i0 : Int), .int .i64 (N : Int)] w K := by
  refine ok_heap_down ?_
  unfold wp_heap_down
  refine ⟨fun i w' => ∃ (t : Nat) (L' : List En), i = (t : Int) ∧ i0 ≤ t ∧ (t = i0 → L' = L) ∧ (i0 < t → ∃ c, 0 < c ∧ c < N ∧ par c = i0 ∧ En.lt (atE L c) (atE L i0) = true) ∧ L'.Perm L ∧ (∀ k, N ≤ k → atE L' k = atE L k) ∧ HeapFrom En.lt (atE L') N s ∧ Ow w' p n c 7 (L'.flatMap En.cells) own ∧ Ch (fun b => own = some b) w w', ?_, ?_⟩
  · rintro i w1 ⟨t, L', rfl, hge, hsame, hmv, hp, htail, hheap, o1, c1⟩
    refine hk w1 L' _ (fun hb => hsame ?_) (fun hb => hmv ?_) hp htail hheap o1 c1
    · have : ¬ (t : Int) > (i0 : Int) := by simpa using hb
      omega
    · have : (t : Int) > (i0 : Int) := by simpa using hb
      omega
  refine ⟨fun m i w' => ∃ (t : Nat) (L' : List En), i = (t : Int) ∧ t ≤ n ∧ m = N - t ∧ i0 ≤ t ∧ (t = i0 → L' = L) ∧ (i0 < t → ∃ c, 0 < c ∧ c < N ∧ par c = i0 ∧ En.lt (atE L c) (atE L i0) = true) ∧ L'.Perm L ∧ (∀ k, N ≤ k → atE L' k = atE L k) ∧ DnInv En.lt (atE L') N s t ∧ Ow w' p n c 7 (L'.flatMap En.cells) own ∧ Ch (fun b => own = some b) w w', ⟨N - i0, i0, L, rfl, hi0, rfl, Nat.le_refl _, fun _ => rfl, fun h => absurd h (Nat.lt_irrefl _), .refl _, fun _ _ => rfl, hi, ho, Ch.refl _ _⟩, ?_⟩
  rintro m i w1 ⟨t, L', rfl, ht, hm, hge, hsame, hmv, hp, htail, hinv, o1, c1⟩
  have hl' : L'.length = n := by rw [hp.length_eq]; exact hl
  rw [wrap_id (n := 2 * (t : Int)) (by omega) (by omega), wrap_id (n := 2 * (t : Int) + 1) (by omega) (by omega), nameI_iff]
  have kid : ∀ c, 0 < c → par c = t → c = 2 * t + 1 ∨ c = 2 * t + 2 := fun c h0 h => by unfold par at h; omega
  have pk1 : par (2 * t + 1) = t := by unfold par; omega
  have pk2 : par (2 * t + 2) = t := by unfold par; omega
  refine ⟨fun w2 => w2 = w1 ∧ 2 * t + 1 < N, ?_, Sif_cases (fun h => Sif_cases (fun h2 => ?_) fun _ => ⟨rfl, ?_⟩) fun h => ?_⟩
  rotate_left
  · have : 2 * (t : Int) + 1 < 0 := by simpa using h2
    omega
  · have : ¬ (2 * (t : Int) + 1 ≥ (N : Int)) := by simpa using h
    omega
  · have h' : 2 * (t : Int) + 1 ≥ (N : Int) := by simpa using h
    refine ⟨t, L', rfl, hge, hsame, hmv, hp, htail, down_done hinv fun c h0 hcn hpc => ?_, o1, c1⟩
    rcases kid c h0 hpc with e | e <;> omega
  rintro w2 ⟨rfl, hlt1⟩
  refine ⟨fun i w3 => ∃ j : Nat, i = (j : Int) ∧ j < N ∧ 0 < j ∧ par j = t ∧ (∀ c, 0 < c → c < N → par c = t → En.lt (atE L' c) (atE L' j) = false) ∧ Ch (fun _ => False) w2 w3, ?_, ?_⟩
  · rintro i w3 ⟨j, rfl, hj, hj0, hpj, hmin, c3⟩
    have c13 := c1.new c3
    have htj : t < j := by rw [← hpj]; exact par_lt hj0
    have o3 := o1.ch c3 fun _ _ => id
    refine iLess (hc w3 c13) o3.rd hl' (atE_get (by omega)) (atE_get (by omega)) fun w4 c4 => ⟨_, rfl, Sif_cases (fun hb => ?_) fun hb => ?_⟩
    · have hb : En.lt (atE L' j) (atE L' t) = false := by simpa using hb
      refine ⟨t, L', rfl, hge, hsame, hmv, hp, htail, down_done hinv fun c h0 hcn hpc => ?_, o3.ch c4 fun _ _ => id, c13.new c4⟩
      exact En.ord.tr _ _ _ hb (hmin c h0 hcn hpc)
    · have hb : En.lt (atE L' j) (atE L' t) = true := by simpa using hb
      have c14 := c13.new c4
      have o4 := o3.ch c4 fun _ _ => id
      refine iSwap (hc w4 c14) o4 hl' (atE_get (by omega)) (atE_get (by omega)) fun w5 o5 c5 z5 => ⟨rfl, N - j, by omega, j, _, rfl, by omega, rfl, by omega, fun e => by omega, (fun _ => ?_), (sw_perm (by omega) (by omega)).trans hp, fun k hk' => ?_, ?_, o5, c14.trans' c5⟩
      · rcases Nat.lt_or_ge i0 t with q | q
        · exact hmv q
        · have q : t = i0 := by omega
          have e := hsame q
          subst q
          exact ⟨j, hj0, hj, hpj, by rw [← e]; exact hb⟩
      · rw [atE_sw (by omega) (by omega)]
        unfold sw
        rw [if_neg (by omega), if_neg (by omega)]
        exact htail k hk'
      · rw [atE_sw (by omega) (by omega)]
        exact down_step En.ord hinv hj0 hj hpj hmin hb
  · rw [wrap_id (n := 2 * (t : Int) + 1 + 1) (by omega) (by omega), nameI_iff]
    have e1 : (2 * (t : Int) + 1) = ((2 * t + 1 : Nat) : Int) := by omega
    have e2 : (2 * (t : Int) + 1 + 1) = ((2 * t + 2 : Nat) : Int) := by omega
    refine Sif_cases (fun h => ?_) fun h => ?_
    · have h' : 2 * (t : Int) + 1 + 1 < (N : Int) := by simpa using h
      rw [e2, e1]
      refine iLess (hc w2 c1) o1.rd hl' (atE_get (by omega)) (atE_get (by omega)) fun w3 c3 => ⟨_, rfl, Sif_cases (fun hb => ?_) fun hb => ?_⟩
      · refine ⟨2 * t + 2, rfl, by omega, by omega, pk2, fun c h0 hcn hpc => ?_, c3⟩
        rcases kid c h0 hpc with e | e
        · rw [e]; exact En.ord.as _ _ hb
        · rw [e]; exact En.irr _
      · have hb : En.lt (atE L' (2 * t + 2)) (atE L' (2 * t + 1)) = false := by simpa using hb
        refine ⟨2 * t + 1, rfl, by omega, by omega, pk1, fun c h0 hcn hpc => ?_, c3⟩
        rcases kid c h0 hpc with e | e
        · rw [e]; exact En.irr _
        · rw [e]; exact hb
    · have h' : ¬ 2 * (t : Int) + 1 + 1 < (N : Int) := by simpa using h
      refine ⟨2 * t + 1, e1, hlt1, by omega, pk1, fun c h0 hcn hpc => ?_, Ch.refl _ _⟩
      rcases kid c h0 hpc with e | e
      · rw [e]; exact En.irr _
      · omega
end Go.Proofs.YtipbbjnmpnfhpaaDoor
