/-
  The queue's heap: Remove, Init.
-/
import Derived.Test.YtipbbjnmpnfhpaaDoorQpop
namespace Go.Proofs.YtipbbjnmpnfhpaaDoor
open Go Go.Sv Go.Heap
set_option linter.unusedVariables false
set_option maxRecDepth 4000
theorem hremove_ok {w : World} {qb o m c i : Nat} {p : Option Addr} {L : List En} {own : Option Nat} {cs : List Value} {K : Value → World → Prop} (hb : blk w qb = some cs) (hcs : cs[o]? = some (.slice p (m + 1) c)) (hown : own ≠ some qb) (ho : Ow w p (m + 1) c 7 (L.flatMap En.cells) own) (hl : L.length = m + 1) (hn : m ≤ 2 ^ 39) (hh : HeapFrom En.lt (atE L) (m + 1) 0) (hi : i ≤ m)
    (hk : ∀ w' F, (F ++ [atE L i]).Perm L → F.length = m → HeapFrom En.lt (atE F) m 0 → blk w' qb = some (cs.set o (.slice p m c)) → Ow w' p m c 7 (F.flatMap En.cells) own → Ch (fun b => own = some b ∨ b = qb) w w' → K (tupV [.iface 37 (atE L i).val]) w') :
    callP Tryd.prog 29 [fH ⟨qb, o, none⟩, .int .i64 (i : Int)] w K := by
  have hqb := blk_lt hb
  have hcell : ∀ w', Ch (fun b => own = some b) w w' → w'.cell? ⟨qb, o, none⟩ = some (.slice p (m + 1) c) := fun w' ch => by
    have b' : blk w' qb = some cs := by rw [ch.blk hqb hown]; exact hb
    rw [cell_blk b']; exact hcs
  refine ok_heap_Remove ?_
  unfold wp_heap_Remove
  refine iLen (hcell w (Ch.refl _ _)) ⟨_, rfl, ?_⟩
  have hw : IntKind.wrap .i64 (((m + 1 : Nat) : Int) - 1) = (m : Int) := by rw [wrap_id (by omega) (by omega)]; omega
  rw [hw, nameI_iff]
  refine ⟨fun w2 => ∃ L2, L2.Perm L ∧ atE L2 m = atE L i ∧ HeapFrom En.lt (atE L2) m 0 ∧ Ow w2 p (m + 1) c 7 (L2.flatMap En.cells) own ∧ Ch (fun b => own = some b) w w2, ?_, ?_⟩
  · rintro w2 ⟨L2, hp, hx, hheap, o2, c02⟩
    have hl2 : L2.length = m + 1 := by rw [hp.length_eq]; exact hl
    have hL2 : L2 = L2.take m ++ [atE L i] := by
      have h1 : L2[m]? = some (atE L i) := by rw [← hx]; exact atE_get (by omega)
      obtain ⟨h2, h3⟩ := List.getElem?_eq_some_iff.1 h1
      rw [← h3, ← List.take_succ_eq_append_getElem h2, List.take_of_length_le (by omega)]
    have b2' : blk w2 qb = some cs := by rw [c02.blk hqb hown]; exact hb
    refine ⟨_, _, _, _, rfl, methPop _ _, .inl ⟨by kernel_rfl, ?_⟩⟩
    refine fpop_ok (e := atE L i) b2' hcs hown o2 hl2 (by omega) (by rw [← hx]; exact atE_get (by omega)) fun w3 b3 o3 c3 => ⟨_, rfl, ?_⟩
    refine hk w3 (L2.take m) (by rw [← hL2]; exact hp) (by rw [List.length_take]; omega) (fun c h0 hcn hs => ?_) b3 o3 ((c02.mono fun _ _ h => .inl h).trans' c3)
    have h1 := par_lt h0
    rw [atE_take hcn, atE_take (by omega)]
    exact hheap c h0 hcn hs
  refine Sif_cases (fun hne => ?_) fun he => ?_
  rotate_left
  · have he : i = m := by
      have : (m : Int) = (i : Int) := by simpa using he
      omega
    subst he
    exact ⟨L, .refl _, rfl, fun c h0 hc hs => hh c h0 (by omega) hs, ho, Ch.refl _ _⟩
  have hne : i ≠ m := fun e => by simp [e] at hne
  have him : i < m := by omega
  refine iSwap (i := i) (j := m) (hcell w (Ch.refl _ _)) ho hl (atE_get (by omega)) (atE_get (by omega)) fun w1 o1 c1 z1 => ⟨rfl, ?_⟩
  have hsw := atE_sw (L := L) (i := i) (j := m) (by omega) (by omega)
  have hpm := sw_perm (L := L) (i := i) (j := m) (by omega) (by omega)
  obtain ⟨L1, hL1⟩ : ∃ L1, L1 = (L.set i (atE L m)).set m (atE L i) := ⟨_, rfl⟩
  rw [← hL1] at o1 hsw hpm
  have hl1 : L1.length = m + 1 := by rw [hpm.length_eq]; exact hl
  have gi : atE L1 i = atE L m := by rw [hsw]; unfold sw; rw [if_pos rfl]
  have gm : atE L1 m = atE L i := by rw [hsw]; unfold sw; rw [if_neg (by omega), if_pos rfl]
  have gk : ∀ k, k ≠ i → k < m → atE L1 k = atE L k := fun k h1 h2 => by rw [hsw]; unfold sw; rw [if_neg h1, if_neg (by omega)]
  have kids : ∀ c, 0 < c → c < m → par c = i → 0 < i → En.lt (atE L c) (atE L (par i)) = false := fun c h0 hc hp h0i =>
    En.ord.tr _ _ _ (hh i h0i (by omega) (Nat.zero_le _)) (by have := hh c h0 (by omega) (Nat.zero_le _); rw [hp] at this; exact this)
  -- up, from L1
  have up : ∀ w2, UpInv En.lt (atE L1) m i → Ow w2 p (m + 1) c 7 (L1.flatMap En.cells) own → Ch (fun b => own = some b) w w2 → callP Tryd.prog 37 [fH ⟨qb, o, none⟩, .int .i64 (i : Int)] w2 fun v3 w4 => v3 = .tuple #[] ∧ ∃ L2, L2.Perm L ∧ atE L2 m = atE L i ∧ HeapFrom En.lt (atE L2) m 0 ∧ Ow w4 p (m + 1) c 7 (L2.flatMap En.cells) own ∧ Ch (fun b => own = some b) w w4 := fun w2 hu o2 c2 =>
    hup_ok (N := m) (j := i) (fun w' ch => hcell w' (c2.trans' ch)) o2 hl1 (by omega) (by omega) him hu fun w4 L4 hp4 ht4 hh4 o4 c4 => ⟨rfl, L4, hp4.trans hpm, by rw [ht4 m (Nat.le_refl _)]; exact gm, hh4, o4, c2.trans' c4⟩
  by_cases hcase : 0 < i ∧ En.lt (atE L m) (atE L (par i)) = true
  · obtain ⟨h0i, hlt⟩ := hcase
    have hpi := par_lt h0i
    have low : ∀ c, 0 < c → c < m → par c = i → En.lt (atE L c) (atE L m) = false := fun c h0 hc hp => En.ord.tr _ _ _ (En.ord.as _ _ hlt) (kids c h0 hc hp h0i)
    refine hdown_ok (i0 := i) (s := i) (N := m) (fun w' ch => hcell w' (c1.trans' ch)) o1 hl1 (by omega) (by omega) (by omega) ⟨Nat.le_refl _, fun c h0 hc hs hpc => ?_, fun c h0 hc hpc _ hs => by omega⟩ fun w2 L2 b2 hsame hmv hp2 ht2 hh2 o2 c2 => ⟨_, rfl, ?_⟩
    · have hpc' := par_lt h0
      rw [gk c (by omega) hc, gk (par c) hpc (by omega)]
      exact hh c h0 (by omega) (Nat.zero_le _)
    have hb2 : b2 = false := by
      cases b2
      · rfl
      · obtain ⟨c', h0, hc, hpc, hlt'⟩ := hmv rfl
        have := par_lt h0
        rw [gk c' (by omega) hc, gi, low c' h0 hc hpc] at hlt'
        cases hlt'
    subst hb2
    have e := hsame rfl
    subst e
    refine up w2 ⟨fun c h0 hc hci => ?_, fun c h0 hc hpc _ => ?_⟩ o2 (c1.trans' c2)
    · have hpc' := par_lt h0
      rw [gk c hci hc]
      by_cases e : par c = i
      · rw [e, gi]; exact low c h0 hc e
      · rw [gk (par c) e (by omega)]; exact hh c h0 (by omega) (Nat.zero_le _)
    · have hpc' := par_lt h0
      rw [gk c (by omega) hc, gk (par i) (by omega) (by omega)]
      exact kids c h0 hc hpc h0i
  · have hcase : 0 < i → En.lt (atE L m) (atE L (par i)) = false := fun h => by
      cases e : En.lt (atE L m) (atE L (par i))
      · rfl
      · exact absurd ⟨h, e⟩ hcase
    refine hdown_ok (i0 := i) (s := 0) (N := m) (fun w' ch => hcell w' (c1.trans' ch)) o1 hl1 (by omega) (by omega) (by omega) ⟨Nat.zero_le _, fun c h0 hc _ hpc => ?_, fun c h0 hc hpc h0i _ => ?_⟩ fun w2 L2 b2 hsame hmv hp2 ht2 hh2 o2 c2 => ⟨_, rfl, ?_⟩
    · have hpc' := par_lt h0
      rw [gk (par c) hpc (by omega)]
      by_cases e : c = i
      · subst e; rw [gi]; exact hcase h0
      · rw [gk c e hc]; exact hh c h0 (by omega) (Nat.zero_le _)
    · have hpc' := par_lt h0
      have hpi := par_lt h0i
      rw [gk c (by omega) hc, gk (par i) (by omega) (by omega)]
      exact kids c h0 hc hpc h0i
    refine Sif_cases (fun hb => ?_) fun hb => ?_
    · have hb : b2 = false := by simpa using hb
      have e := hsame hb
      subst e
      refine up w2 ⟨fun c h0 hc hci => hh2 c h0 hc (Nat.zero_le _), fun c h0 hc hpc h0i => ?_⟩ o2 (c1.trans' c2)
      have := hh2 c h0 hc (Nat.zero_le _)
      rw [hpc] at this
      exact En.ord.tr _ _ _ (hh2 i h0i him (Nat.zero_le _)) this
    · exact ⟨L2, hp2.trans hpm, by rw [ht2 m (Nat.le_refl _)]; exact gm, hh2, o2, c1.trans' c2⟩
theorem hinit_ok {a : Addr} {w : World} {p : Option Addr} {n c : Nat} {L : List En} {own : Option Nat} {K : Value → World → Prop} (hc : ∀ w', Ch (fun b => own = some b) w w' → w'.cell? a = some (.slice p n c)) (ho : Ow w p n c 7 (L.flatMap En.cells) own) (hl : L.length = n) (hn : n ≤ 2 ^ 40)
    (hk : ∀ w' L', L'.Perm L → HeapFrom En.lt (atE L') n 0 → Ow w' p n c 7 (L'.flatMap En.cells) own → Ch (fun b => own = some b) w w' → K (.tuple #[]) w') : callP Tryd.prog 30 [fH a] w K := by
  refine ok_heap_Init ?_
  unfold wp_heap_Init
  refine iLen (hc w (Ch.refl _ _)) ⟨_, rfl, by decide, ?_⟩
  have e : Int.tdiv (n : Int) 2 = ((n / 2 : Nat) : Int) := by rw [Int.tdiv_eq_ediv_of_nonneg (by omega)]; omega
  rw [e, wrap_id (n := ((n / 2 : Nat) : Int)) (by omega) (by omega), wrap_id (by omega) (by omega), nameI_iff]
  refine ⟨fun m i w' => ∃ (t : Nat) (L' : List En), i = (t : Int) - 1 ∧ t ≤ n / 2 ∧ m = t ∧ L'.Perm L ∧ HeapFrom En.lt (atE L') n t ∧ Ow w' p n c 7 (L'.flatMap En.cells) own ∧ Ch (fun b => own = some b) w w', ⟨n / 2, n / 2, L, rfl, Nat.le_refl _, rfl, .refl _, fun c h0 hcn hs => by unfold par at hs; omega, ho, Ch.refl _ _⟩, ?_⟩
  rintro m i w1 ⟨t, L', rfl, ht, hm, hp, hheap, o1, c1⟩
  have hl' : L'.length = n := by rw [hp.length_eq]; exact hl
  refine Sif_cases (fun h => ?_) fun h => ?_
  · have h' : (t : Int) - 1 ≥ 0 := by simpa using h
    obtain ⟨u, rfl⟩ : ∃ u, t = u + 1 := ⟨t - 1, by omega⟩
    rw [show ((u + 1 : Nat) : Int) - 1 = (u : Int) by omega]
    refine hdown_ok (i0 := u) (s := u) (N := n) (fun w' ch => hc w' (c1.trans' ch)) o1 hl' hn (Nat.le_refl _) (by omega) ⟨Nat.le_refl _, fun c h0 hcn hs hpc => hheap c h0 hcn (by omega), fun c h0 hcn hpc h0u hs => by have := par_lt h0u; omega⟩ fun w2 L2 b2 _ _ hp2 _ hh2 o2 c2 => ⟨_, rfl, ?_⟩
    rw [wrap_id (n := (u : Int) - 1) (by omega) (by omega), nameI_iff]
    exact ⟨u, by omega, u, L2, rfl, by omega, rfl, hp2.trans hp, hh2, o2, c1.trans' c2⟩
  · have h' : ¬ (t : Int) - 1 ≥ 0 := by simpa using h
    have h0 : t = 0 := by omega
    subst h0
    exact hk w1 L' hp hheap o1 c1
end Go.Proofs.YtipbbjnmpnfhpaaDoor
