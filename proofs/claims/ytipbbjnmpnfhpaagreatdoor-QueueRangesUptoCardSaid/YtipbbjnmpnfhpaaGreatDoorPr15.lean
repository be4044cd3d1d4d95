/-
  The queue's Peek: the free row copied, sorted by Seq, searched. The queue's heap: Remove, Init. The queue's Expire. The queue's Peek: the walks. The queue's Remove. QueueOrder: the walk. QueueKeeps, plain: what the queue holds came of the entries; how many. The law's search: a Take, or a Peek, at both queues; what is left behind it. The law's book: a list of numbers is taken; a list of entries is put aside. Lists that are their owner's: a list that is done with is kept once more, as it was at first. Over every program. The law's book: its lists of entries are their owner's. The law's book: its lists of numbers are their owner's.
-/
import Derived.Test.YtipbbjnmpnfhpaaGreatDoorPr14
namespace Go.Proofs.YtipbbjnmpnfhpaaGreatDoor
open Go Go.Sv Go.Heap Go.Qu Go.Sort
set_option linter.unusedVariables false
set_option maxRecDepth 4000
theorem seqcmp_qt {a b : En} {w : World} {K : Value → World → Prop} (hk : ∀ w', Qt w w' → K (.int .i64 (cmpI a.seq b.seq)) w') : callP Tryz.prog 96 [a.val, b.val] w K := by
  refine ok_queue_Queue_Peek_1 ?_
  unfold wp_queue_Queue_Peek_1
  refine newB_qt fun w1 b1 c1 z1 => newB_qt fun w2 b2 c2 z2 => ?_
  have b1' : blk w2 w.heap.size = some a.cells := by rw [c2.ch.blk (blk_lt b1) id]; exact b1
  have b2 : blk w2 w1.heap.size = some b.cells := b2
  simp only [add_at, Nat.zero_add, cell_blk b1', cell_blk b2]
  exact ⟨_, rfl, _, rfl, compare_ok ⟨_, rfl, hk w2 (c1.trans c2)⟩⟩
theorem cmpI_lt (x y : Int) : decide (cmpI x y < 0) = decide (x < y) := by
  unfold cmpI
  rw [Bool.eq_iff_iff]
  simp only [decide_eq_true_eq]
  repeat' split
  all_goals omega
theorem swoS (L : List Et) : SWO (ltOf fun x y : {x : Et // x ∈ L} => cmpI x.1.e.seq y.1.e.seq) := by
  have e : ∀ x y : {x : Et // x ∈ L}, ltOf (fun x y : {x : Et // x ∈ L} => cmpI x.1.e.seq y.1.e.seq) x y = decide (x.1.e.seq < y.1.e.seq) := fun x y => cmpI_lt _ _
  refine ⟨fun x => ?_, fun x y z h k => ?_, fun x y z h k => ?_⟩
  · rw [e]; simp
  · rw [e] at *; simp at *; omega
  · rw [e] at *; simp at *; omega
theorem bitsLen_ok {n : Nat} (hn : n ≤ 2 ^ 40) {w : World} {K : Value → World → Prop} (hk : K (.int .i64 (Lib.bitLen n : Nat)) w) : callP Tryz.prog 55 [.int .u64 (IntKind.wrap .u64 (n : Int))] w K := by
  have wr : IntKind.u64.wrap (n : Int) = n := by simp [IntKind.wrap, IntKind.bits, IntKind.signed]; omega
  rw [wr]
  exact lenK_ok Tryz.laysSF6 hn hk
theorem sortS_ok {w : World} {p : Option Addr} {c : Nat} {b : Option Nat} {L : List Et} (ho : Ow w p L.length c 7 ((L.map (·.e)).flatMap En.cells) b) (hL : L.length ≤ 2 ^ 40) (hn : (L.map fun x : Et => x.e.seq).Nodup) {K : Value → World → Prop}
    (hK : ∀ w' (L' : List Et), L'.Perm L → (L'.map Et.pe).Pairwise (fun a b => a.seq < b.seq) → Ow w' p L'.length c 7 ((L'.map (·.e)).flatMap En.cells) b → Ch (fun j => b = some j) w w' → K (.tuple #[]) w') : callP Tryz.prog 95 [.slice p L.length c, .func (.func 96) #[] #[]] w K := by
  by_cases h0 : L = []
  · subst h0
    refine ok_slices_SortFunc ?_
    unfold wp_slices_SortFunc
    refine bitsLen_ok (n := 0) (by decide) ⟨_, rfl, ?_⟩
    refine ok_slices_pdqsortCmpFunc ?_
    unfold wp_slices_pdqsortCmpFunc
    refine ⟨fun m n n1 n2 b1 b2 w1 => n = 0 ∧ n1 = 0 ∧ w1 = w, ⟨0, rfl, rfl, rfl⟩, ?_⟩
    rintro m n n1 n2 b1 b2 w1 ⟨rfl, rfl, rfl⟩
    rw [nameI_iff]
    refine Sif_cases (fun _ => ?_) fun h => absurd h (by decide)
    refine ok_slices_insertionSortCmpFunc ?_
    unfold wp_slices_insertionSortCmpFunc
    rw [nameI_iff]
    refine ⟨fun m n w2 => n = 1 ∧ w2 = w1, ⟨0, rfl, rfl⟩, ?_⟩
    rintro m n w2 ⟨rfl, rfl⟩
    exact Sif_cases (fun h => absurd h (by decide)) fun _ => ⟨rfl, rfl, hK w2 [] (.refl _) .nil ho (Ch.refl _ _)⟩
  obtain ⟨x0, hx0⟩ := List.exists_mem_of_ne_nil L h0
  haveI : Inhabited {x : Et // x ∈ L} := ⟨⟨x0, hx0⟩⟩
  have hl : L.attach.length = L.length := List.length_attach ..
  have ho' : Ow w p L.attach.length c 7 (L.attach.flatMap fun x : {x : Et // x ∈ L} => x.1.e.cells) b := by rw [hl, attach_flat]; exact ho
  rw [← hl] at hL
  rw [← hl]
  have e : ∀ x y : {x : Et // x ∈ L}, ltOf (fun x y : {x : Et // x ∈ L} => cmpI x.1.e.seq y.1.e.seq) x y = decide (x.1.e.seq < y.1.e.seq) := fun x y => cmpI_lt _ _
  refine ok_slices_SortFunc ?_
  unfold wp_slices_SortFunc
  have hL0 : L.attach.length ≠ 0 := by rw [hl]; exact fun h => h0 (List.eq_nil_of_length_eq_zero h)
  refine bitsLen_ok hL ⟨_, rfl, ?_⟩
  refine pdqK_ok (α := {x : Et // x ∈ L}) Tryz.laysSF6 (k := 7) Tryz.isAgg34 Tryz.sizeOf34 (enc := fun x => x.1.e.cells) (fun _ => rfl) (fun x => x.1.e.cells_one) (swoS L)
    (fun x y h k => Subtype.ext (inj_of_nodup hn x.2 y.2 (by rw [e] at h k; simp at h k; omega)))
    (g := 96) (fun args w => okCall_enter (by kernel_rfl) args w) (fun x y W => (seqcmp_qt (a := x.1.e) (b := y.1.e) (w := W) (K := fun v w' => v = .int .i64 (cmpI x.1.e.seq y.1.e.seq) ∧ Qt W w') fun w' q => ⟨rfl, q⟩).mono fun e w' ⟨v, he, hv, q⟩ => ⟨by rw [he, hv], q⟩) ho' (by decide) hL0 hL fun w' o' c' => ⟨rfl, ?_⟩
  have hp := (srtBy_perm (fun x y : {x : Et // x ∈ L} => cmpI x.1.e.seq y.1.e.seq) L.attach).map Subtype.val
  rw [List.attach_map_subtype_val] at hp
  have hs := srtBy_sorted (fun x y : {x : Et // x ∈ L} => cmpI x.1.e.seq y.1.e.seq) (swoS L) L.attach
  obtain ⟨S, hS⟩ : ∃ S, S = srtBy (fun x y : {x : Et // x ∈ L} => cmpI x.1.e.seq y.1.e.seq) L.attach := ⟨_, rfl⟩
  rw [← hS] at hp hs o'
  refine hK w' (S.map Subtype.val) hp ?_ ?_ c'
  · have hnd : ((S.map Subtype.val).map fun x : Et => x.e.seq).Nodup := by rw [(hp.map _).nodup_iff]; exact hn
    rw [List.map_map, List.pairwise_map]
    rw [List.map_map, List.Nodup, List.pairwise_map] at hnd
    refine (hs.and hnd).imp fun {a b} h => ?_
    have h1 := h.1
    rw [e] at h1
    have h1 : ¬ b.1.e.seq < a.1.e.seq := by simpa using h1
    have h2 : a.1.e.seq ≠ b.1.e.seq := h.2
    show a.1.e.seq < b.1.e.seq
    omega
  · have hlen : S.length = L.length := by rw [hS, srtBy_len]; exact hl
    rw [List.length_map, List.map_map, List.flatMap_map]
    rw [hl] at o'
    rw [hlen]
    exact o'
/-- the free row, copied -/
theorem qcloneF_ok {s : Option Addr} {n c : Nat} {w : World} {K : Value → World → Prop} {L : List En} (h : Rd w s n 7 (L.flatMap En.cells)) (hl : L.length = n) (hn : n ≤ 2 ^ 40)
    (hk : ∀ p' c' w' b', Ow w' p' n c' 7 (L.flatMap En.cells) b' → (∀ k, b' = some k → w.heap.size ≤ k) → Ch (fun _ => False) w w' → K (.slice p' n c') w') : callP Tryz.prog 94 [.slice s n c] w K := by
  refine ok_slices_Clone ?_
  unfold wp_slices_Clone
  refine Sif_cases (fun hs => ?_) fun hs => ?_
  · have hs' : s = none := by simpa using hs
    subst hs'
    have h0 : n = 0 := by
      rcases h.2 with h | ⟨b, o, cs, hp, _⟩
      · omega
      · cases hp
    subst h0
    exact hk none 0 w none ⟨h.1, Nat.le_refl _, .inl ⟨rfl, rfl⟩⟩ (fun k hk => by cases hk) (Ch.refl _ _)
  · refine newB_blk fun w1 hb1 hc1 hz1 => ?_
    have hr : Rd w1 s n 7 (L.flatMap En.cells) := h.ch hc1 fun _ _ _ => id
    have ho : Ow w1 (some ⟨w.heap.size, 0, none⟩) 0 0 7 [] (some w.heap.size) := ⟨rfl, Nat.le_refl _, .inr ⟨w.heap.size, 0, [], rfl, rfl, hb1, by simp, by simp⟩⟩
    obtain ⟨p', c', w', b', h1, h2, h3, h4, _⟩ := append_rd (ty := 64) (c2 := c) Tryz.underlying64 Tryz.underlying64 entry_info rfl ho hr (fun v hv => by
      obtain ⟨x, _, hx⟩ := List.mem_flatMap.1 hv
      exact x.cells_one v hx) (by omega) (by omega)
    rw [Nat.zero_add] at h1 h2
    refine ⟨p', n, c', w', h1, hk p' c' w' b' h2 (fun k hk => ?_) (hc1.trans h4 fun x _ hx => by cases hx; omega)⟩
    rcases h3 k hk with h3 | h3
    · cases h3; exact Nat.le_refl _
    · omega
/-- those that are free, above a number, by rising Seq -/
theorem QF.later {A : AQ} {F H S : List Et} {behind : Int} (E : QF A F H) (W : WQ A) (hp : S.Perm F) (hs : (S.map Et.pe).Pairwise fun a b => a.seq < b.seq) : (S.map Et.pe).filter (fun e => decide (behind < e.seq)) = A.later behind := by
  refine sorted_one (r := fun a b : PE => a.seq < b.seq) (fun a b h k => by omega) (hs.filter _) ((W.asc.filter _).filter _) ?_
  unfold AQ.later
  rw [List.filter_filter]
  have h1 := ((hp.map Et.pe).trans E.fr).filter fun e => decide (behind < e.seq)
  rw [List.filter_filter] at h1
  refine h1.trans (.of_eq (List.filter_congr fun x _ => ?_))
  rw [Bool.and_comm]
end Go.Proofs.YtipbbjnmpnfhpaaGreatDoor
namespace Go.Proofs.YtipbbjnmpnfhpaaGreatDoor
open Go Go.Sv Go.Heap
set_option linter.unusedVariables false
set_option maxRecDepth 4000
theorem hremove_ok {w : World} {qb o m c i : Nat} {p : Option Addr} {L : List En} {own : Option Nat} {cs : List Value} {K : Value → World → Prop} (hb : blk w qb = some cs) (hcs : cs[o]? = some (.slice p (m + 1) c)) (hown : own ≠ some qb) (ho : Ow w p (m + 1) c 7 (L.flatMap En.cells) own) (hl : L.length = m + 1) (hn : m ≤ 2 ^ 39) (hh : HeapFrom En.lt (atE L) (m + 1) 0) (hi : i ≤ m)
    (hk : ∀ w' F, (F ++ [atE L i]).Perm L → F.length = m → HeapFrom En.lt (atE F) m 0 → blk w' qb = some (cs.set o (.slice p m c)) → Ow w' p m c 7 (F.flatMap En.cells) own → Ch (fun b => own = some b ∨ b = qb) w w' → K (tupV [.iface 34 (atE L i).val]) w') :
    callP Tryz.prog 69 [fH ⟨qb, o, none⟩, .int .i64 (i : Int)] w K := by
  have hqb := blk_lt hb
  have hcell : ∀ w', Ch (fun b => own = some b) w w' → w'.cell? ⟨qb, o, none⟩ = some (.slice p (m + 1) c) := fun w' ch => by
    have b' : blk w' qb = some cs := by rw [ch.blk hqb hown]; exact hb
    rw [cell_blk b']; exact hcs
  refine ok_heap_Remove ?_
  unfold wp_heap_Remove
  refine iLen (hcell w (Ch.refl _ _)) ⟨_, rfl, ?_⟩
  have hw : IntKind.wrap .i64 (((m + 1 : Nat) : Int) - 1) = (m : Int) := by rw [wrap_id (by omega) (by omega)]; omega
  rw [hw, nameI_iff]
  refine ⟨fun w2 => ∃ L2, L2.Perm L ∧ atE L2 m = atE L i ∧ HeapFrom En.lt (atE L2) m 0 ∧ Ow w2 p (m + 1) c 7 (L2.flatMap En.cells) own ∧ Ch (fun b => own = some b) w w2, ?_, ?_⟩
  · rintro w2 ⟨L2, hp, hx, hheap, o2, c02⟩
    have hl2 : L2.length = m + 1 := by rw [hp.length_eq]; exact hl
    have hL2 : L2 = L2.take m ++ [atE L i] := by
      have h1 : L2[m]? = some (atE L i) := by rw [← hx]; exact atE_get (by omega)
      obtain ⟨h2, h3⟩ := List.getElem?_eq_some_iff.1 h1
      rw [← h3, ← List.take_succ_eq_append_getElem h2, List.take_of_length_le (by omega)]
    have b2' : blk w2 qb = some cs := by rw [c02.blk hqb hown]; exact hb
    refine ⟨_, _, _, _, rfl, methPop _ _, .inl ⟨by kernel_rfl, ?_⟩⟩
    refine fpop_ok (e := atE L i) b2' hcs hown o2 hl2 (by omega) (by rw [← hx]; exact atE_get (by omega)) fun w3 b3 o3 c3 => ⟨_, rfl, ?_⟩
    refine hk w3 (L2.take m) (by rw [← hL2]; exact hp) (by rw [List.length_take]; omega) (fun c h0 hcn hs => ?_) b3 o3 ((c02.mono fun _ _ h => .inl h).trans' c3)
    have h1 := par_lt h0
    rw [atE_take hcn, atE_take (by omega)]
    exact hheap c h0 hcn hs
  refine Sif_cases (fun hne => ?_) fun he => ?_
  rotate_left
  · have he : i = m := by
      have : (m : Int) = (i : Int) := by simpa using he
      omega
    subst he
    exact ⟨L, .refl _, rfl, fun c h0 hc hs => hh c h0 (by omega) hs, ho, Ch.refl _ _⟩
  have hne : i ≠ m := fun e => by simp [e] at hne
  have him : i < m := by omega
  refine iSwap (i := i) (j := m) (hcell w (Ch.refl _ _)) ho hl (atE_get (by omega)) (atE_get (by omega)) fun w1 o1 c1 z1 => ⟨rfl, ?_⟩
  have hsw := atE_sw (L := L) (i := i) (j := m) (by omega) (by omega)
  have hpm := sw_perm (L := L) (i := i) (j := m) (by omega) (by omega)
  obtain ⟨L1, hL1⟩ : ∃ L1, L1 = (L.set i (atE L m)).set m (atE L i) := ⟨_, rfl⟩
  rw [← hL1] at o1 hsw hpm
  have hl1 : L1.length = m + 1 := by rw [hpm.length_eq]; exact hl
  have gi : atE L1 i = atE L m := by rw [hsw]; unfold sw; rw [if_pos rfl]
  have gm : atE L1 m = atE L i := by rw [hsw]; unfold sw; rw [if_neg (by omega), if_pos rfl]
  have gk : ∀ k, k ≠ i → k < m → atE L1 k = atE L k := fun k h1 h2 => by rw [hsw]; unfold sw; rw [if_neg h1, if_neg (by omega)]
  have kids : ∀ c, 0 < c → c < m → par c = i → 0 < i → En.lt (atE L c) (atE L (par i)) = false := fun c h0 hc hp h0i =>
    En.ord.tr _ _ _ (hh i h0i (by omega) (Nat.zero_le _)) (by have := hh c h0 (by omega) (Nat.zero_le _); rw [hp] at this; exact this)
  -- up, from L1
  have up : ∀ w2, UpInv En.lt (atE L1) m i → Ow w2 p (m + 1) c 7 (L1.flatMap En.cells) own → Ch (fun b => own = some b) w w2 → callP Tryz.prog 73 [fH ⟨qb, o, none⟩, .int .i64 (i : Int)] w2 fun v3 w4 => v3 = .tuple #[] ∧ ∃ L2, L2.Perm L ∧ atE L2 m = atE L i ∧ HeapFrom En.lt (atE L2) m 0 ∧ Ow w4 p (m + 1) c 7 (L2.flatMap En.cells) own ∧ Ch (fun b => own = some b) w w4 := fun w2 hu o2 c2 =>
    hup_ok (N := m) (j := i) (fun w' ch => hcell w' (c2.trans' ch)) o2 hl1 (by omega) (by omega) him hu fun w4 L4 hp4 ht4 hh4 o4 c4 => ⟨rfl, L4, hp4.trans hpm, by rw [ht4 m (Nat.le_refl _)]; exact gm, hh4, o4, c2.trans' c4⟩
  by_cases hcase : 0 < i ∧ En.lt (atE L m) (atE L (par i)) = true
  · obtain ⟨h0i, hlt⟩ := hcase
    have hpi := par_lt h0i
    have low : ∀ c, 0 < c → c < m → par c = i → En.lt (atE L c) (atE L m) = false := fun c h0 hc hp => En.ord.tr _ _ _ (En.ord.as _ _ hlt) (kids c h0 hc hp h0i)
    refine hdown_ok (i0 := i) (s := i) (N := m) (fun w' ch => hcell w' (c1.trans' ch)) o1 hl1 (by omega) (by omega) (by omega) ⟨Nat.le_refl _, fun c h0 hc hs hpc => ?_, fun c h0 hc hpc _ hs => by omega⟩ fun w2 L2 b2 hsame hmv hp2 ht2 hh2 o2 c2 => ⟨_, rfl, ?_⟩
    · have hpc' := par_lt h0
      rw [gk c (by omega) hc, gk (par c) hpc (by omega)]
      exact hh c h0 (by omega) (Nat.zero_le _)
    have hb2 : b2 = false := by
      cases b2
      · rfl
      · obtain ⟨c', h0, hc, hpc, hlt'⟩ := hmv rfl
        have := par_lt h0
        rw [gk c' (by omega) hc, gi, low c' h0 hc hpc] at hlt'
        cases hlt'
    subst hb2
    have e := hsame rfl
    subst e
    refine up w2 ⟨fun c h0 hc hci => ?_, fun c h0 hc hpc _ => ?_⟩ o2 (c1.trans' c2)
    · have hpc' := par_lt h0
      rw [gk c hci hc]
      by_cases e : par c = i
      · rw [e, gi]; exact low c h0 hc e
      · rw [gk (par c) e (by omega)]; exact hh c h0 (by omega) (Nat.zero_le _)
    · have hpc' := par_lt h0
      rw [gk c (by omega) hc, gk (par i) (by omega) (by omega)]
      exact kids c h0 hc hpc h0i
  · have hcase : 0 < i → En.lt (atE L m) (atE L (par i)) = false := fun h => by
      cases e : En.lt (atE L m) (atE L (par i))
      · rfl
      · exact absurd ⟨h, e⟩ hcase
    refine hdown_ok (i0 := i) (s := 0) (N := m) (fun w' ch => hcell w' (c1.trans' ch)) o1 hl1 (by omega) (by omega) (by omega) ⟨Nat.zero_le _, fun c h0 hc _ hpc => ?_, fun c h0 hc hpc h0i _ => ?_⟩ fun w2 L2 b2 hsame hmv hp2 ht2 hh2 o2 c2 => ⟨_, rfl, ?_⟩
    · have hpc' := par_lt h0
      rw [gk (par c) hpc (by omega)]
      by_cases e : c = i
      · subst e; rw [gi]; exact hcase h0
      · rw [gk c e hc]; exact hh c h0 (by omega) (Nat.zero_le _)
    · have hpc' := par_lt h0
      have hpi := par_lt h0i
      rw [gk c (by omega) hc, gk (par i) (by omega) (by omega)]
      exact kids c h0 hc hpc h0i
    refine Sif_cases (fun hb => ?_) fun hb => ?_
    · have hb : b2 = false := by simpa using hb
      have e := hsame hb
      subst e
      refine up w2 ⟨fun c h0 hc hci => hh2 c h0 hc (Nat.zero_le _), fun c h0 hc hpc h0i => ?_⟩ o2 (c1.trans' c2)
      have := hh2 c h0 hc (Nat.zero_le _)
      rw [hpc] at this
      exact En.ord.tr _ _ _ (hh2 i h0i him (Nat.zero_le _)) this
    · exact ⟨L2, hp2.trans hpm, by rw [ht2 m (Nat.le_refl _)]; exact gm, hh2, o2, c1.trans' c2⟩
theorem hinit_ok {a : Addr} {w : World} {p : Option Addr} {n c : Nat} {L : List En} {own : Option Nat} {K : Value → World → Prop} (hc : ∀ w', Ch (fun b => own = some b) w w' → w'.cell? a = some (.slice p n c)) (ho : Ow w p n c 7 (L.flatMap En.cells) own) (hl : L.length = n) (hn : n ≤ 2 ^ 40)
    (hk : ∀ w' L', L'.Perm L → HeapFrom En.lt (atE L') n 0 → Ow w' p n c 7 (L'.flatMap En.cells) own → Ch (fun b => own = some b) w w' → K (.tuple #[]) w') : callP Tryz.prog 71 [fH a] w K := by
  refine ok_heap_Init ?_
  unfold wp_heap_Init
  refine iLen (hc w (Ch.refl _ _)) ⟨_, rfl, by decide, ?_⟩
  have e : Int.tdiv (n : Int) 2 = ((n / 2 : Nat) : Int) := by rw [Int.tdiv_eq_ediv_of_nonneg (by omega)]; omega
  rw [e, wrap_id (n := ((n / 2 : Nat) : Int)) (by omega) (by omega), wrap_id (by omega) (by omega), nameI_iff]
  refine ⟨fun m i w' => ∃ (t : Nat) (L' : List En), i = (t : Int) - 1 ∧ t ≤ n / 2 ∧ m = t ∧ L'.Perm L ∧ HeapFrom En.lt (atE L') n t ∧ Ow w' p n c 7 (L'.flatMap En.cells) own ∧ Ch (fun b => own = some b) w w', ⟨n / 2, n / 2, L, rfl, Nat.le_refl _, rfl, .refl _, fun c h0 hcn hs => by unfold par at hs; omega, ho, Ch.refl _ _⟩, ?_⟩
  rintro m i w1 ⟨t, L', rfl, ht, hm, hp, hheap, o1, c1⟩
  have hl' : L'.length = n := by rw [hp.length_eq]; exact hl
  refine Sif_cases (fun h => ?_) fun h => ?_
  · have h' : (t : Int) - 1 ≥ 0 := by simpa using h
    obtain ⟨u, rfl⟩ : ∃ u, t = u + 1 := ⟨t - 1, by omega⟩
    rw [show ((u + 1 : Nat) : Int) - 1 = (u : Int) by omega]
    refine hdown_ok (i0 := u) (s := u) (N := n) (fun w' ch => hc w' (c1.trans' ch)) o1 hl' hn (Nat.le_refl _) (by omega) ⟨Nat.le_refl _, fun c h0 hcn hs hpc => hheap c h0 hcn (by omega), fun c h0 hcn hpc h0u hs => by have := par_lt h0u; omega⟩ fun w2 L2 b2 _ _ hp2 _ hh2 o2 c2 => ⟨_, rfl, ?_⟩
    rw [wrap_id (n := (u : Int) - 1) (by omega) (by omega), nameI_iff]
    exact ⟨u, by omega, u, L2, rfl, by omega, rfl, hp2.trans hp, hh2, o2, c1.trans' c2⟩
  · have h' : ¬ (t : Int) - 1 ≥ 0 := by simpa using h
    have h0 : t = 0 := by omega
    subst h0
    exact hk w1 L' hp hheap o1 c1
end Go.Proofs.YtipbbjnmpnfhpaaGreatDoor
namespace Go.Proofs.YtipbbjnmpnfhpaaGreatDoor
open Go Go.Sv Go.Heap Go.Qu Go.MapKept
set_option linter.unusedVariables false
set_option maxRecDepth 4000
/-- a row of entries that came out: all is its owner's -/
structure OutRow (w : World) (B B' : Nat → Prop) (n0 : Nat) (p : Option Addr) (n c : Nat) (own : Option Nat) (G : List Et) : Prop where
  len : n = G.length
  row : Ow w p n c 7 ((G.map (·.e)).flatMap En.cells) own
  dat : ∀ x ∈ G, EtE.Ok w x
  nd : (own.toList ++ eB G).Nodup
  off : ∀ b ∈ own.toList ++ eB G, ¬ B' b ∧ (B b ∨ n0 ≤ b)
theorem QF.expired {A : AQ} {F F' H : List Et} {now : Int} (E : QF A F H) (W : WQ A) (hF : F'.Perm (F.filter fun x => !(over now x.pe))) (hheap : HeapFrom En.lt (atE (F'.map (·.e))) F'.length 0) : QF (A.expire now).2 F' H := by
  refine ⟨hheap, ?_, fun x hx => E.free x (List.mem_filter.1 (hF.mem_iff.1 hx)).1, E.held⟩
  show ((F' ++ H).map Et.pe).Perm (A.L.filter fun e => !(isFree e && over now e))
  refine List.Perm.trans ?_ (E.perm.filter _)
  rw [List.map_append, List.map_append, List.filter_append]
  have f2 : (H.map Et.pe).filter (fun e => !(isFree e && over now e)) = H.map Et.pe := List.filter_eq_self.2 fun y hy => by
    obtain ⟨x, hx, rfl⟩ := List.mem_map.1 hy
    have e : isFree x.pe = false := by
      show decide (x.e.hold = 0) = false
      simp [E.held x hx]
    rw [e]; rfl
  have f1 : (F.map Et.pe).filter (fun e => !(isFree e && over now e)) = (F.filter fun x => !(over now x.pe)).map Et.pe := by
    rw [List.filter_map]
    congr 1
    refine List.filter_congr fun x hx => ?_
    have e : isFree x.pe = true := by
      show decide (x.e.hold = 0) = true
      simp [E.free x hx]
    show (!(isFree x.pe && over now x.pe)) = _
    rw [e, Bool.true_and]
  rw [f1, f2]
  exact (hF.map Et.pe).append_right _
theorem QF.gone {A : AQ} {F H G : List Et} {now : Int} (E : QF A F H) (W : WQ A) (hG : G.Perm (F.filter fun x => over now x.pe)) (hs : Sorted (G.map Et.pe)) : G.map Et.pe = (A.expire now).1 := by
  show G.map Et.pe = ((ordered A.L).filter isFree).filter (over now)
  rw [List.filter_filter]
  refine ordered_filter (fun x => over now x && isFree x) W.nd hs ?_
  refine (hG.map Et.pe).trans ?_
  have h := E.fr.filter (over now)
  rw [List.filter_filter] at h
  refine List.Perm.trans (.of_eq ?_) h
  rw [List.filter_map]; rfl
theorem filter_take_succ {α : Type} (f : α → Bool) {l : List α} {i : Nat} {x : α} (h : l[i]? = some x) : (l.take (i + 1)).filter f = (l.take i).filter f ++ (if f x = true then [x] else []) := by
  rw [List.take_add_one, h, List.filter_append]
  congr 1
  simp only [Option.toList_some, List.filter_cons, List.filter_nil]
theorem qexp_ok {w : World} {qb : Nat} {A : AQ} {B : Nat → Prop} {now : Int} {K : Value → World → Prop} (Q : QK w qb A B)
    (hk : ∀ p n c own' G, G.map Et.pe = (A.expire now).1 → QPost w qb (A.expire now).2 B fun w' B' => OutRow w' B B' w.heap.size p n c own' G → K (.slice p n c) w') :
    callP Tryz.prog 40 [.pointer (some ⟨qb, 0, none⟩), .int .i64 now] w K := by
  have hW := Q.wf.expire now
  obtain ⟨wf, F, H, p, c, own, r, M, E, rfl⟩ := Q
  have old := M.lt
  have hlen := E.len
  have hwl := wf.len
  have hm2 := wf.most2
  have hndF := E.ndf wf
  refine ok_queue_Queue_Expire ?_
  unfold wp_queue_Queue_Expire
  rw [nn_some, add_at, Nat.zero_add]
  refine ⟨_, _, _, M.cell rfl, ?_⟩
  refine ⟨fun m p1 n1 c1 p2 n2 c2 i w' => ∃ (j : Nat) (G L : List Et) (o1 o2 : Option Nat), i = (j : Int) ∧ j ≤ F.length ∧ m = F.length - j ∧ G = (F.take j).filter (fun x => over now x.pe) ∧ L = (F.take j).filter (fun x => !(over now x.pe)) ∧ n1 = G.length ∧ n2 = L.length ∧
      Ow w' p1 n1 c1 7 ((G.map (·.e)).flatMap En.cells) o1 ∧ Ow w' p2 n2 c2 7 ((L.map (·.e)).flatMap En.cells) o2 ∧ (∀ b, o1 = some b → w.heap.size ≤ b ∧ o2 ≠ some b) ∧ (∀ b, o2 = some b → w.heap.size ≤ b) ∧ Ch (fun _ => False) w w',
    ⟨F.length, 0, [], [], none, none, rfl, Nat.zero_le _, rfl, rfl, rfl, rfl, rfl, Ow.nil, Ow.nil, (fun b hb => by cases hb), (fun b hb => by cases hb), Ch.refl _ _⟩, ?_⟩
  rintro m p1 n1 c1 p2 n2 c2 i w1 ⟨j, G, L, ow1, ow2, rfl, hj, rfl, hG, hL, rfl, rfl, o1, o2, f1, f2, ch1⟩
  have M1 := M.ch ch1 fun _ _ => id
  have s1 := ch1.size
  have hGl : G.length ≤ F.length := by
    rw [hG]
    exact Nat.le_trans (List.length_filter_le ..) (by rw [List.length_take]; omega)
  have hLl : L.length ≤ F.length := by
    rw [hL]
    exact Nat.le_trans (List.length_filter_le ..) (by rw [List.length_take]; omega)
  refine Sif_cases (fun hlt => ?_) fun hge => ?_
  · have hlt : j < F.length := by
      have : (j : Int) < (F.length : Int) := by simpa using hlt
      omega
    obtain ⟨x, hx⟩ : ∃ x, F[j]? = some x := ⟨_, List.getElem?_eq_getElem hlt⟩
    have hxe : (F.map (·.e))[j]? = some x.e := by rw [List.getElem?_map, hx]; rfl
    have eG := filter_take_succ (fun x : Et => over now x.pe) hx
    have eL := filter_take_succ (fun x : Et => !(over now x.pe)) hx
    rw [← hG] at eG
    rw [← hL] at eL
    obtain ⟨kb, o, hpp, hc⟩ := M1.row.rd.at En.cells_len hxe (by decide)
    refine ⟨fun p1' n1' c1' p2' n2' c2' w' => ∃ (G' L' : List Et) (o1 o2 : Option Nat), G' = (F.take (j + 1)).filter (fun x => over now x.pe) ∧ L' = (F.take (j + 1)).filter (fun x => !(over now x.pe)) ∧ n1' = G'.length ∧ n2' = L'.length ∧
      Ow w' p1' n1' c1' 7 ((G'.map (·.e)).flatMap En.cells) o1 ∧ Ow w' p2' n2' c2' 7 ((L'.map (·.e)).flatMap En.cells) o2 ∧ (∀ b, o1 = some b → w.heap.size ≤ b ∧ o2 ≠ some b) ∧ (∀ b, o2 = some b → w.heap.size ≤ b) ∧ Ch (fun _ => False) w w', ?_, ?_⟩
    · rintro p1' n1' c1' p2' n2' c2' w' ⟨G', L', o1', o2', g1, g2, g3, g4, g5, g6, g7, g8, g9⟩
      exact ⟨F.length - (j + 1), by omega, j + 1, G', L', o1', o2', by rw [wrap_id (by omega) (by omega)]; rfl, by omega, rfl, g1, g2, g3, g4, g5, g6, g7, g8, g9⟩
    subst hpp
    refine ⟨by omega, by omega, ?_⟩
    simp only [nn_some, add_at, Int.toNat_natCast]
    refine ⟨_, hc 0 _ rfl, _, hc 1 _ rfl, _, hc 2 _ rfl, _, hc 3 _ rfl, _, hc 4 _ rfl, _, hc 5 _ rfl, _, _, _, hc 6 _ rfl, ?_⟩
    refine newE (e0 := En0) (e := x.e) fun w9 b9 c9 z9 => ?_
    have ch9 := ch1.trans' c9
    have o19 := o1.ch c9 fun _ _ => id
    have o29 := o2.ch c9 fun _ _ => id
    have hlG : (G.map (·.e)).length = G.length := List.length_map ..
    have hlL : (L.map (·.e)).length = L.length := List.length_map ..
    simp only [add_at, Nat.zero_add]
    -- it is over
    have gone : over now x.pe = true → newB w9 x.e.cells 34 fun a3 w10 => ∃ p5 n18 c5 w11, Sem.run Tryz.prog (Builtin.append_ #[24, 24] 24 #[.slice p1 G.length c1, .slice (some a3) 1 1]) w10 = .ok (.slice p5 n18 c5) w11 ∧
        ∃ (G' L' : List Et) (o1 o2 : Option Nat), G' = (F.take (j + 1)).filter (fun x => over now x.pe) ∧ L' = (F.take (j + 1)).filter (fun x => !(over now x.pe)) ∧ n18 = G'.length ∧ L.length = L'.length ∧
          Ow w11 p5 n18 c5 7 ((G'.map (·.e)).flatMap En.cells) o1 ∧ Ow w11 p2 L.length c2 7 ((L'.map (·.e)).flatMap En.cells) o2 ∧ (∀ b, o1 = some b → w.heap.size ≤ b ∧ o2 ≠ some b) ∧ (∀ b, o2 = some b → w.heap.size ≤ b) ∧ Ch (fun _ => False) w w11 := fun ho => by
      rw [ho] at eG eL
      simp only [if_true, Bool.not_true, Bool.false_eq_true, if_false, List.append_nil] at eG eL
      rw [← hlG] at o19 ⊢
      refine push_ok (g := En.cells) (sz := 7) (bytes := 72) Tryz.underlying24 entry_info rfl En.cells_len En.cells_one o19 x.e (by rw [hlG]; omega) (by rw [hlG]; omega) fun p' c' b' w11 o11 n11 c11 => ?_
      refine ⟨G ++ [x], L, b', ow2, eG.symm, eL.symm, by simp, rfl, by rw [List.map_append]; exact o11, o29.ch c11 fun b hb h => (f1 b h).2 hb, fun b hb => ?_, f2, ch9.trans c11 fun b hb h => by have := (f1 b h).1; omega⟩
      rcases n11 b hb with q | q
      · exact f1 b q
      · exact ⟨by have := ch9.size; omega, fun e => by have := o29.blt b e; omega⟩
    have left : over now x.pe = false → newB w9 x.e.cells 34 fun a3 w10 => ∃ p5 n18 c5 w11, Sem.run Tryz.prog (Builtin.append_ #[24, 24] 24 #[.slice p2 L.length c2, .slice (some a3) 1 1]) w10 = .ok (.slice p5 n18 c5) w11 ∧
        ∃ (G' L' : List Et) (o1 o2 : Option Nat), G' = (F.take (j + 1)).filter (fun x => over now x.pe) ∧ L' = (F.take (j + 1)).filter (fun x => !(over now x.pe)) ∧ G.length = G'.length ∧ n18 = L'.length ∧
          Ow w11 p1 G.length c1 7 ((G'.map (·.e)).flatMap En.cells) o1 ∧ Ow w11 p5 n18 c5 7 ((L'.map (·.e)).flatMap En.cells) o2 ∧ (∀ b, o1 = some b → w.heap.size ≤ b ∧ o2 ≠ some b) ∧ (∀ b, o2 = some b → w.heap.size ≤ b) ∧ Ch (fun _ => False) w w11 := fun ho => by
      rw [ho] at eG eL
      simp only [Bool.not_false, if_true, Bool.false_eq_true, if_false, List.append_nil] at eG eL
      rw [← hlL] at o29 ⊢
      refine push_ok (g := En.cells) (sz := 7) (bytes := 72) Tryz.underlying24 entry_info rfl En.cells_len En.cells_one o29 x.e (by rw [hlL]; omega) (by rw [hlL]; omega) fun p' c' b' w11 o11 n11 c11 => ?_
      refine ⟨G, L ++ [x], ow1, b', eG.symm, eL.symm, rfl, by simp, o19.ch c11 fun b hb h => (f1 b hb).2 h, by rw [List.map_append]; exact o11, fun b hb => ⟨(f1 b hb).1, fun e => ?_⟩, fun b hb => ?_, ch9.trans c11 fun b hb h => by have := f2 b h; omega⟩
      · rcases n11 b e with q | q
        · exact (f1 b hb).2 q
        · have := o19.blt b hb; omega
      · rcases n11 b hb with q | q
        · exact f2 b q
        · have := ch9.size; omega
    refine ⟨_, by rw [cell_blk b9]; rfl, Sif_cases (fun g1 => ?_) fun g1 => ?_⟩
    · refine ⟨_, by rw [cell_blk b9]; rfl, Sif_cases (fun g2 => ?_) fun g2 => ?_⟩
      · have g1 : 0 ≤ x.e.exp := by simpa using g1
        have g2 : x.e.exp ≤ now := by simpa using g2
        exact rdN b9 (gone (by show (decide (0 ≤ x.e.exp) && decide (x.e.exp ≤ now)) = true; simp [g1, g2]))
      · have g2 : ¬ x.e.exp ≤ now := by simpa using g2
        exact rdN b9 (left (by show (decide (0 ≤ x.e.exp) && decide (x.e.exp ≤ now)) = false; simp [g2]))
    · have g1 : ¬ 0 ≤ x.e.exp := by simpa using g1
      exact rdN b9 (left (by show (decide (0 ≤ x.e.exp) && decide (x.e.exp ≤ now)) = false; simp [g1]))
  · have hje : j = F.length := by
      have : ¬ (j : Int) < (F.length : Int) := by simpa using hge
      omega
    subst hje
    rw [List.take_length] at hG hL
    have hperm : F.Perm (L ++ G) := by
      rw [hG, hL]
      exact ((List.filter_append_perm (fun x : Et => over now x.pe) F).symm.trans List.perm_append_comm)
    have hpe : (F ++ H).Perm (G ++ (L ++ H)) := (hperm.append_right H).trans (by rw [← List.append_assoc]; exact List.perm_append_comm.append_right H)
    have hnd : (eB G ++ eB (L ++ H)).Nodup := by rw [← eB_app, ← (eB_perm hpe).nodup_iff]; exact M.ndE
    have hsubG : ∀ b ∈ eB G, b ∈ eB (F ++ H) := fun b hb => by rw [(eB_perm hpe).mem_iff, eB_app]; exact List.mem_append_left _ hb
    have hsubL : ∀ b ∈ eB (L ++ H), b ∈ eB (F ++ H) := fun b hb => by rw [(eB_perm hpe).mem_iff, eB_app]; exact List.mem_append_right _ hb
    have olde : ∀ b ∈ eB (F ++ H), b < w.heap.size := fun b hb => old b (mem_qbl.2 (.inr (.inr (.inr hb))))
    have hqb : qb < w.heap.size := old qb (mem_qbl.2 (.inl rfl))
    have hr : r < w.heap.size := old r (mem_qbl.2 (.inr (.inl rfl)))
    simp only [nn_some, add_at, Nat.zero_add]
    refine st_blk M1.head (by simp [qcells]) fun w2 b2 c2' z2 => ?_
    have o12 := o1.ch c2' fun b hb h => by have := (f1 b hb).1; omega
    have o22 := o2.ch c2' fun b hb h => by have := f2 b hb; omega
    have M2 : QM w2 qb A.cf A.last L H p2 c2 ow2 r := by
      refine ⟨b2, o22, ?_, fun y hy => ?_, ?_⟩
      · obtain ⟨m, hm, hp⟩ := M1.map
        exact ⟨m, hm.ch c2' fun h => M.ne_qr h.symm, hp⟩
      · have hyF : y ∈ F ++ H := hpe.mem_iff.2 (List.mem_append_right _ hy)
        exact EtE.ch (M1.dat y hyF) c2' fun b hb h => M.ne_qe (h ▸ mem_eB.2 ⟨y, hyF, by simpa [EtE, Option.mem_toList] using hb⟩)
      · exact qbl_nd M.ne_qr (fun h => by have := f2 _ h; omega) (fun h => by have := f2 _ h; omega) (fun h => M.ne_qe (hsubL _ h)) (fun h => M.ne_re (hsubL _ h)) (fun b hb h => by have := f2 b hb; have := olde b (hsubL b h); omega) (List.nodup_append.1 hnd).2.1
    have hcell : ∀ w', Ch (fun b => ow2 = some b) w2 w' → w'.cell? ⟨qb, 5, none⟩ = some (.slice p2 L.length c2) := fun w' ch => by
      have b' : blk w' qb = some (qcells A.cf (.slice p2 L.length c2) r A.last) := by rw [ch.blk (blk_lt M2.head) M2.ne_qo]; exact M2.head
      rw [cell_blk b']; rfl
    refine hinit_ok hcell o22 (by simp) (by omega) fun w3 L' hp3 hheap3 o3 c3 => ⟨rfl, ?_⟩
    obtain ⟨L2, hpL2, rfl⟩ := perm_lift' (g := fun x : Et => x.e) hp3.symm
    have hlL2 : L2.length = L.length := hpL2.length_eq.symm
    have o13 := o12.ch c3 fun b hb h => (f1 b hb).2 h
    refine sortQ_ok (L := G) o13 (by omega) ((by
      have h2 : ((L ++ G).map fun x : Et => x.e.seq).Nodup := by rw [← (hperm.map _).nodup_iff]; exact hndF
      rw [List.map_append] at h2
      exact (List.nodup_append.1 h2).2.1)) fun w4 G2 hpG hsG o4 c4 => ⟨rfl, ?_⟩
    have hlG2 : G2.length = G.length := hpG.length_eq
    have M3 : QM w3 qb A.cf A.last L2 H p2 c2 ow2 r := by
      have hpe3 : (L2 ++ H).Perm (L ++ H) := hpL2.symm.append_right H
      refine ⟨by rw [c3.blk (blk_lt M2.head) M2.ne_qo, hlL2]; exact M2.head, by rw [hlL2]; exact o3, ?_, fun y hy => ?_, ?_⟩
      · obtain ⟨m, hm, hp⟩ := M2.map
        exact ⟨m, hm.ch c3 M2.ne_ro, hp⟩
      · have hy2 := hpe3.mem_iff.1 hy
        exact EtE.ch (M2.dat y hy2) c3 fun b hb h => M2.ne_oe b h (mem_eB.2 ⟨y, hy2, by simpa [EtE, Option.mem_toList] using hb⟩)
      · exact (qbl_perm hpe3).nodup_iff.2 M2.nd
    have hx4 : ∀ b ∈ qbl qb r ow2 L2 H, b ∈ qbl qb r own F H ∨ (w.heap.size ≤ b ∧ ow1 ≠ some b) := fun b hb => by
      rcases mem_qbl.1 hb with h | h | h | h
      · exact .inl (mem_qbl.2 (.inl h))
      · exact .inl (mem_qbl.2 (.inr (.inl h)))
      · exact .inr ⟨f2 b h, fun e => (f1 b e).2 h⟩
      · refine .inl (mem_qbl.2 (.inr (.inr (.inr (hsubL b ?_)))))
        exact (eB_perm (hpL2.append_right H)).mem_iff.2 h
    have M4 : QM w4 qb A.cf A.last L2 H p2 c2 ow2 r := M3.ch c4 fun b hb h => by
      rcases hx4 b hb with q | q
      · have := old b q; have := (f1 b h).1; omega
      · exact q.2 h
    have c04 : Ch (fun b => b ∈ qbl qb r own F H) w w4 := (((ch1.mono fun _ _ h => h.elim).trans' (c2'.mono fun b _ h => h ▸ mem_qbl.2 (.inl rfl))).trans c3 fun b hb h => by have := f2 b h; omega).trans c4 fun b hb h => by have := (f1 b h).1; omega
    have hGe : ∀ b, b ∈ eB G2 ↔ b ∈ eB G := fun b => (eB_perm hpG).mem_iff
    rw [← hlG2]
    refine hk p1 G2.length c1 ow1 G2 (E.gone wf (by rw [← hG]; exact hpG) hsG) w4 _ ⟨hW, L2, H, p2, c2, ow2, r, M4, E.expired wf (by rw [← hL]; exact hpL2.symm) (by rw [hlL2]; exact hheap3), rfl⟩ c04 (fun b hb => (hx4 b hb).imp id fun q => q.1) ⟨rfl, o4, fun x hx => ?_, ?_, fun b hb => ?_⟩
    · have hxG := hpG.mem_iff.1 hx
      have hxF : x ∈ F ++ H := hpe.mem_iff.2 (List.mem_append_left _ hxG)
      have hb : ∀ b ∈ EtE.B x, b ∈ eB (F ++ H) := fun b hb => mem_eB.2 ⟨x, hxF, by simpa [EtE, Option.mem_toList] using hb⟩
      exact EtE.ch (EtE.ch (EtE.ch (M1.dat x hxF) c2' fun b h e => M.ne_qe (e ▸ hb b h)) c3 fun b h e => by have := f2 b e; have := olde b (hb b h); omega) c4 fun b h e => by have := (f1 b e).1; have := olde b (hb b h); omega
    · refine List.nodup_append.2 ⟨by cases ow1 <;> simp, (eB_perm hpG).nodup_iff.2 (List.nodup_append.1 hnd).1, fun a ha b hb e => ?_⟩
      subst e
      have := (f1 a (by simpa [Option.mem_toList] using ha)).1
      have := olde a (hsubG a ((hGe a).1 hb))
      omega
    · rcases List.mem_append.1 hb with hb | hb
      · have hb : ow1 = some b := by simpa [Option.mem_toList] using hb
        refine ⟨fun h => ?_, .inr (f1 b hb).1⟩
        rcases hx4 b h with q | q
        · have := old b q; have := (f1 b hb).1; omega
        · exact q.2 hb
      · have hbG := (hGe b).1 hb
        have hbe := hsubG b hbG
        refine ⟨fun h => ?_, .inl (mem_qbl.2 (.inr (.inr (.inr hbe))))⟩
        rcases mem_qbl.1 h with q | q | q | q
        · exact M.ne_qe (q ▸ hbe)
        · exact M.ne_re (q ▸ hbe)
        · have := f2 b q; have := olde b hbe; omega
        · have q2 := (eB_perm (hpL2.append_right H)).mem_iff.2 q
          exact (List.nodup_append.1 hnd).2.2 b hbG b q2 rfl
end Go.Proofs.YtipbbjnmpnfhpaaGreatDoor
namespace Go.Proofs.YtipbbjnmpnfhpaaGreatDoor
open Go Go.Sv Go.Heap Go.Qu Go.MapKept
set_option linter.unusedVariables false
set_option maxRecDepth 4000
def peekN (A : AQ) (behind : Int) (fit : PE → Bool) : Nat := (asked fit (A.later behind)).length
theorem filter_split {L : List PE} {f : PE → Bool} {j : Nat} {x : PE} (h : L[j]? = some x) (hf : f x = true) : L.filter f = (L.take j).filter f ++ x :: (L.drop (j + 1)).filter f := by
  obtain ⟨g1, g2⟩ := List.getElem?_eq_some_iff.1 h
  conv => lhs; rw [← List.take_append_drop j L, ← List.getElem_cons_drop g1, g2]
  rw [List.filter_append, List.filter_cons, if_pos hf]
theorem qpeekf_ok {w : World} {qb : Nat} {A : AQ} {B : Nat → Prop} {behind : Int} {fn : Fn} {fa fc : Array Value} {fit : PE → Bool} {J : Nat → (Nat → Prop) → World → Prop} {K : Value → World → Prop} (Q : QK w qb A B) (As : Asks (.func fn fa fc) fit (A.later behind) J) (hJ : J 0 B w)
    (hno : A.peek behind fit = none → ∀ w', QK w' qb A B → J (peekN A behind fit) B w' → K (.tuple #[Ez.e.val, .bool false]) w')
    (hyes : ∀ y, A.peek behind fit = some y → ∀ x : Et, x.pe = y → ∀ w', QK w' qb A B → EtE.Ok w' x → (∀ b, x.own = some b → ¬ B b) → J (peekN A behind fit) (fun b => B b ∨ x.own = some b) w' → K (.tuple #[x.e.val, .bool true]) w') :
    callP Tryz.prog 63 [.pointer (some ⟨qb, 0, none⟩), .int .i64 behind, .func fn fa fc] w K := by
  obtain ⟨wf, F, H, p, c, own, r, M, E, rfl⟩ := Q
  have hlen := E.len
  have hwl := wf.len
  have hm2 := wf.most2
  have old := M.lt
  refine ok_queue_Queue_Peek_f ?_
  unfold wp_queue_Queue_Peek_f
  refine newB_blk fun w1 b1 c1 z1 => ?_
  have b1 : blk w1 w.heap.size = some Ez.e.cells := b1
  have M1 := M.ch c1 fun _ _ => id
  simp only [nn_some, add_at, Nat.zero_add]
  refine ⟨_, _, _, M1.cell rfl, ?_⟩
  refine qcloneF_ok M1.row.rd (by simp) (by omega) fun p1 c1' w2 b2 o2 n2 c2 => ⟨_, _, _, rfl, ?_⟩
  refine sortS_ok (L := F) o2 (by omega) (E.ndf wf) fun w3 S hpS hsS o3 c3 => ⟨rfl, ?_⟩
  have hSl : S.length = F.length := hpS.length_eq
  have hlater := E.later (behind := behind) wf hpS hsS
  have c12 := c1.trans' c2
  have c03 : Ch (fun b => w.heap.size ≤ b) w w3 := (c12.mono fun _ _ h => h.elim).trans' (c3.mono fun b _ h => by have := n2 b h; omega)
  obtain ⟨Pr, hPr⟩ : ∃ Pr : Nat → Prop, Pr = fun b => b ∈ qbl qb r own F H ∨ b = w.heap.size ∨ b2 = some b := ⟨_, rfl⟩
  have hb2w : ∀ b, b2 = some b → w.heap.size < b := fun b hb => by have := n2 b hb; omega
  have b13 : blk w3 w.heap.size = some Ez.e.cells := by rw [c3.blk (by have := blk_lt b1; have := c2.size; omega) fun h => by have := hb2w _ h; omega, c2.blk (blk_lt b1) id]; exact b1
  have hJ3 : J 0 Pr w3 := by
    refine As.st hJ ((c03.trans' (Ch.refl _ w3)).mono fun b hb h => by omega) fun b hb => ?_
    rw [hPr] at hb
    rcases hb with q | q | q
    · exact .inl q
    · exact .inr (by omega)
    · exact .inr (by have := hb2w b q; omega)
  rw [← hSl]
  refine ⟨fun m n2 w4 => ∃ j : Nat, n2 = (j : Int) ∧ j ≤ S.length ∧ m = S.length - j ∧ (∀ x ∈ ((S.map Et.pe).take j).filter (fun e => decide (behind < e.seq)), fit x = false) ∧ QM w4 qb A.cf A.last F H p c own r ∧ (∃ e : En, blk w4 w.heap.size = some e.cells) ∧ Ow w4 p1 S.length c1' 7 ((S.map (·.e)).flatMap En.cells) b2 ∧ J (((S.map Et.pe).take j).filter (fun e => decide (behind < e.seq))).length Pr w4,
    ⟨S.length, 0, rfl, Nat.zero_le _, rfl, by simp, M.ch c03 fun b hb h => by have := old b hb; omega, ⟨_, b13⟩, o3, by simpa using hJ3⟩, ?_⟩
  rintro m _ w4 ⟨j, rfl, hj, rfl, hnf, M4, ⟨e4, b4⟩, o4, hJ4⟩
  have lt4 : ∀ b, Pr b → b < w4.heap.size := fun b hb => by
    rw [hPr] at hb
    rcases hb with q | q | q
    · exact M4.lt b q
    · rw [q]; exact blk_lt b4
    · exact o4.blt b q
  refine Sif_cases (fun hlt => ?_) fun hge => ?_
  · have hlt : j < S.length := by
      have : (j : Int) < (S.length : Int) := by simpa using hlt
      omega
    obtain ⟨x, hx⟩ : ∃ x, S[j]? = some x := ⟨_, List.getElem?_eq_getElem hlt⟩
    have hxe : (S.map (·.e))[j]? = some x.e := by rw [List.getElem?_map, hx]; rfl
    have hxp : (S.map Et.pe)[j]? = some x.pe := by rw [List.getElem?_map, hx]; rfl
    have hxF : x ∈ F ++ H := List.mem_append_left _ (hpS.mem_iff.1 (List.mem_of_getElem? hx))
    have hstep := filter_take_succ (fun e : PE => decide (behind < e.seq)) hxp
    obtain ⟨kb, o, hpp, hc⟩ := o4.rd.at En.cells_len hxe (by decide)
    subst hpp
    refine ⟨fun w5 => (behind < x.e.seq → fit x.pe = false) ∧ QM w5 qb A.cf A.last F H p c own r ∧ (∃ e : En, blk w5 w.heap.size = some e.cells) ∧ Ow w5 (some ⟨kb, o, none⟩) S.length c1' 7 ((S.map (·.e)).flatMap En.cells) b2 ∧ J (((S.map Et.pe).take (j + 1)).filter (fun e => decide (behind < e.seq))).length Pr w5, ?_, by omega, by omega, ?_⟩
    · rintro w5 ⟨g1, g2, g3, g4, g5⟩
      refine ⟨S.length - (j + 1), by omega, j + 1, by rw [wrap_id (by omega) (by omega)]; rfl, hlt, rfl, fun y hy => ?_, g2, g3, g4, g5⟩
      rw [hstep] at hy
      rcases List.mem_append.1 hy with hy | hy
      · exact hnf y hy
      · split at hy
        · rename_i hb
          rw [List.mem_singleton.1 hy]
          exact g1 (of_decide_eq_true hb)
        · simp at hy
    simp only [nn_some, add_at, Int.toNat_natCast]
    refine ⟨_, hc 0 _ rfl, _, hc 1 _ rfl, _, hc 2 _ rfl, _, hc 3 _ rfl, _, hc 4 _ rfl, _, hc 5 _ rfl, _, _, _, hc 6 _ rfl, ?_⟩
    refine newE (e0 := En0) (e := x.e) fun w12 b12 c12' z12 => ?_
    have M12 := M4.ch c12' fun _ _ => id
    have b412 : blk w12 w.heap.size = some e4.cells := by rw [c12'.blk (blk_lt b4) id]; exact b4
    have o12 := o4.ch c12' fun _ _ => id
    obtain ⟨Pr2, hPr2⟩ : ∃ Pr2 : Nat → Prop, Pr2 = fun b => Pr b ∨ b = w4.heap.size := ⟨_, rfl⟩
    simp only [add_at, Nat.zero_add]
    refine ⟨_, by rw [cell_blk b12]; rfl, Sif_cases (fun hbh => ?_) fun hbh => ?_⟩
    rotate_left
    · have hbh : ¬ behind < x.e.seq := by simpa using hbh
      refine ⟨fun h => absurd h hbh, M12, ⟨_, b412⟩, o12, ?_⟩
      rw [hstep, if_neg (by show ¬ decide (behind < x.e.seq) = true; simpa using hbh), List.append_nil]
      exact As.st hJ4 (c12'.mono fun _ _ h => h.elim) fun b hb => .inl hb
    have hbh : behind < x.e.seq := by simpa using hbh
    have hx12 : EtE.Ok w12 x := M12.dat x hxF
    have hok : EOk x.pe := wf.ok _ (E.all hxF)
    have hxn : x.e.n ≤ 2 ^ 46 := by
      have h1 := hok.len
      have h2 : x.pe.l.length = x.e.n := EtE.len hx12
      omega
    refine rdN b12 (own_ok (e := x.e) hx12.rd hxn fun w13 y hy hyp hyn c13 => isE ?_)
    have c413 := c12'.trans' c13
    have hJ13 : J (((S.map Et.pe).take j).filter (fun e => decide (behind < e.seq))).length (fun b => Pr2 b ∨ y.own = some b) w13 := As.st hJ4 (c413.mono fun _ _ h => h.elim) fun b hb => by
      rw [hPr2] at hb
      rcases hb with (q | q) | q
      · exact .inl q
      · exact .inr (by omega)
      · have := hyn b q; have := c12'.size; exact .inr (by omega)
    have hsp := filter_split (f := fun e : PE => decide (behind < e.seq)) hxp (decide_eq_true hbh)
    have hlt13 : ∀ b, Pr2 b → b < w12.heap.size := fun b hb => by
      rw [hPr2] at hb
      rcases hb with q | q
      · have := lt4 b q; omega
      · omega
    refine As.ask (x := x.pe) (by rw [← hlater, hsp, List.getElem?_append_right (Nat.le_refl _)]; simp) hJ13 hy hyp (fun b hb hp2 => by have := hyn b hb; have := hlt13 b hp2; omega) (fun b hb => by have := hlt13 b hb; have := c13.size; omega) fun w14 hJ14 c14 => ⟨_, rfl, ?_⟩
    have np : ∀ b, Pr2 b → ¬ ¬ Pr2 b := fun b h k => k h
    have pr : ∀ b, Pr b → Pr2 b := fun b h => by rw [hPr2]; exact .inl h
    have pq : ∀ b ∈ qbl qb r own F H, Pr b := fun b h => by rw [hPr]; exact .inl h
    have M14 : QM w14 qb A.cf A.last F H p c own r := (M12.ch c13 fun _ _ => id).ch c14 fun b hb => np b (pr b (pq b hb))
    have b414 : blk w14 w.heap.size = some e4.cells := by
      have h13 : blk w13 w.heap.size = some e4.cells := by rw [c13.blk (blk_lt b412) id]; exact b412
      rw [c14.blk (blk_lt h13) (np _ (pr _ (by rw [hPr]; exact .inr (.inl rfl))))]; exact h13
    have o14 := (o12.ch c13 fun _ _ => id).ch c14 fun b hb => np b (pr b (by rw [hPr]; exact .inr (.inr hb)))
    have b1214 : blk w14 w4.heap.size = some x.e.cells := by
      have h13 : blk w13 w4.heap.size = some x.e.cells := by rw [c13.blk (blk_lt b12) id]; exact b12
      rw [c14.blk (blk_lt h13) (np _ (by rw [hPr2]; exact .inr rfl))]; exact h13
    have hn1 : (((S.map Et.pe).take (j + 1)).filter (fun e => decide (behind < e.seq))).length = (((S.map Et.pe).take j).filter (fun e => decide (behind < e.seq))).length + 1 := by
      rw [hstep, if_pos (show decide (behind < x.pe.seq) = true from decide_eq_true hbh), List.length_append, List.length_singleton]
    refine Sif_cases (fun hf => ?_) fun hf => ?_
    rotate_left
    · refine ⟨fun _ => hf, M14, ⟨_, b414⟩, o14, ?_⟩
      rw [hn1]
      exact As.st hJ14 (Ch.refl _ _) fun b hb => .inl (pr b hb)
    -- found
    have e1 : A.peek behind fit = some x.pe := by
      unfold AQ.peek
      rw [← hlater, hsp, find_app hnf, List.find?_cons, hf]
    have e2 : peekN A behind fit = (((S.map Et.pe).take j).filter (fun e => decide (behind < e.seq))).length + 1 := by
      unfold peekN
      rw [← hlater, hsp, asked_app hnf, asked, if_pos hf]; simp
    rw [e2] at hyes
    have hx14 : EtE.Ok w14 x := M14.dat x hxF
    refine rdN b1214 (own_ok (e := x.e) hx14.rd hxn fun w15 z hz hzp hzn c15 => isE ?_)
    have b415 : blk w15 w.heap.size = some e4.cells := by rw [c15.blk (blk_lt b414) id]; exact b414
    refine reN (e := z.e) b415 fun w16 b16 c16 z16 => rdN b16 ?_
    have l14 : w.heap.size < w14.heap.size := blk_lt b414
    have M16 := (M14.ch c15 fun _ _ => id).ch c16 fun b hb he => by have := old b hb; omega
    have hz16 : EtE.Ok w16 z := EtE.ch hz c16 fun b hb he => by have := hzn b (by simpa [EtE, Option.mem_toList] using hb); omega
    refine hyes _ e1 z hzp w16 ⟨wf, F, H, p, c, own, r, M16, E, rfl⟩ hz16 (fun b hb hq => by have := hzn b hb; have := old b hq; omega) (As.st hJ14 ((c15.mono fun _ _ h => h.elim).trans' (c16.mono fun b _ h => pr b (by rw [hPr]; exact .inr (.inl h)))) fun b hb => ?_)
    rcases hb with q | q
    · exact .inl (pr b (pq b q))
    · exact .inr (hzn b q)
  · have hje : j = S.length := by
      have : ¬ (j : Int) < (S.length : Int) := by simpa using hge
      omega
    subst hje
    have htake : (S.map Et.pe).take S.length = S.map Et.pe := by rw [List.take_of_length_le (by simp)]
    rw [htake, hlater] at hnf hJ4
    have e1 : A.peek behind fit = none := by
      unfold AQ.peek
      exact List.find?_eq_none.2 fun x hx => by rw [hnf x hx]; simp
    have e2 : peekN A behind fit = (A.later behind).length := by
      unfold peekN
      have := asked_app (S := []) hnf
      rw [List.append_nil] at this
      rw [this]; simp [asked]
    rw [e2] at hno
    refine reN (e := Ez.e) b4 fun w5 b5 c5 z5 => rdN b5 ?_
    refine hno e1 w5 ⟨wf, F, H, p, c, own, r, M4.ch c5 fun b hb he => by have := old b hb; omega, E, rfl⟩ (As.st hJ4 (c5.mono fun b _ h => by rw [hPr]; exact .inr (.inl h)) fun b hb => .inl (by rw [hPr]; exact .inl hb))
theorem qpeekn_ok {w : World} {qb : Nat} {A : AQ} {B : Nat → Prop} {behind : Int} {K : Value → World → Prop} (Q : QK w qb A B)
    (hno : A.peek behind (fun _ => true) = none → ∀ w', QK w' qb A B → Ch (fun b => w.heap.size ≤ b) w w' → K (.tuple #[Ez.e.val, .bool false]) w')
    (hyes : ∀ y, A.peek behind (fun _ => true) = some y → ∀ x : Et, x.pe = y → ∀ w', QK w' qb A B → EtE.Ok w' x → (∀ b, x.own = some b → w.heap.size ≤ b) → Ch (fun b => w.heap.size ≤ b) w w' → K (.tuple #[x.e.val, .bool true]) w') :
    callP Tryz.prog 63 [.pointer (some ⟨qb, 0, none⟩), .int .i64 behind, .nilFunc] w K := by
  obtain ⟨wf, F, H, p, c, own, r, M, E, rfl⟩ := Q
  have hlen := E.len
  have hwl := wf.len
  have hm2 := wf.most2
  have old := M.lt
  refine ok_queue_Queue_Peek_n ?_
  unfold wp_queue_Queue_Peek_n
  refine newB_blk fun w1 b1 c1 z1 => ?_
  have b1 : blk w1 w.heap.size = some Ez.e.cells := b1
  have M1 := M.ch c1 fun _ _ => id
  simp only [nn_some, add_at, Nat.zero_add]
  refine ⟨_, _, _, M1.cell rfl, ?_⟩
  refine qcloneF_ok M1.row.rd (by simp) (by omega) fun p1 c1' w2 b2 o2 n2 c2 => ⟨_, _, _, rfl, ?_⟩
  refine sortS_ok (L := F) o2 (by omega) (E.ndf wf) fun w3 S hpS hsS o3 c3 => ⟨rfl, ?_⟩
  have hSl : S.length = F.length := hpS.length_eq
  have hlater := E.later (behind := behind) wf hpS hsS
  have c12 := c1.trans' c2
  have c03 : Ch (fun b => w.heap.size ≤ b) w w3 := (c12.mono fun _ _ h => h.elim).trans' (c3.mono fun b _ h => by have := n2 b h; omega)
  have hb2w : ∀ b, b2 = some b → w.heap.size < b := fun b hb => by have := n2 b hb; omega
  have b13 : blk w3 w.heap.size = some Ez.e.cells := by rw [c3.blk (by have := blk_lt b1; have := c2.size; omega) fun h => by have := hb2w _ h; omega, c2.blk (blk_lt b1) id]; exact b1
  rw [← hSl]
  refine ⟨fun m n2 w4 => ∃ j : Nat, n2 = (j : Int) ∧ j ≤ S.length ∧ m = S.length - j ∧ ((S.map Et.pe).take j).filter (fun e => decide (behind < e.seq)) = [] ∧ QM w4 qb A.cf A.last F H p c own r ∧ (∃ e : En, blk w4 w.heap.size = some e.cells) ∧ Ow w4 p1 S.length c1' 7 ((S.map (·.e)).flatMap En.cells) b2 ∧ Ch (fun b => w.heap.size ≤ b) w w4,
    ⟨S.length, 0, rfl, Nat.zero_le _, rfl, by simp, M.ch c03 fun b hb h => by have := old b hb; omega, ⟨_, b13⟩, o3, c03⟩, ?_⟩
  rintro m _ w4 ⟨j, rfl, hj, rfl, hnf, M4, ⟨e4, b4⟩, o4, c4⟩
  refine Sif_cases (fun hlt => ?_) fun hge => ?_
  · have hlt : j < S.length := by
      have : (j : Int) < (S.length : Int) := by simpa using hlt
      omega
    obtain ⟨x, hx⟩ : ∃ x, S[j]? = some x := ⟨_, List.getElem?_eq_getElem hlt⟩
    have hxe : (S.map (·.e))[j]? = some x.e := by rw [List.getElem?_map, hx]; rfl
    have hxp : (S.map Et.pe)[j]? = some x.pe := by rw [List.getElem?_map, hx]; rfl
    have hxF : x ∈ F ++ H := List.mem_append_left _ (hpS.mem_iff.1 (List.mem_of_getElem? hx))
    have hstep := filter_take_succ (fun e : PE => decide (behind < e.seq)) hxp
    obtain ⟨kb, o, hpp, hc⟩ := o4.rd.at En.cells_len hxe (by decide)
    subst hpp
    refine ⟨fun w5 => ¬ behind < x.e.seq ∧ QM w5 qb A.cf A.last F H p c own r ∧ (∃ e : En, blk w5 w.heap.size = some e.cells) ∧ Ow w5 (some ⟨kb, o, none⟩) S.length c1' 7 ((S.map (·.e)).flatMap En.cells) b2 ∧ Ch (fun b => w.heap.size ≤ b) w w5, ?_, by omega, by omega, ?_⟩
    · rintro w5 ⟨g1, g2, g3, g4, g5⟩
      refine ⟨S.length - (j + 1), by omega, j + 1, by rw [wrap_id (by omega) (by omega)]; rfl, hlt, rfl, ?_, g2, g3, g4, g5⟩
      rw [hstep, hnf, if_neg (by show ¬ decide (behind < x.e.seq) = true; simpa using g1)]; rfl
    simp only [nn_some, add_at, Int.toNat_natCast]
    refine ⟨_, hc 0 _ rfl, _, hc 1 _ rfl, _, hc 2 _ rfl, _, hc 3 _ rfl, _, hc 4 _ rfl, _, hc 5 _ rfl, _, _, _, hc 6 _ rfl, ?_⟩
    refine newE (e0 := En0) (e := x.e) fun w12 b12 c12' z12 => ?_
    have M12 := M4.ch c12' fun _ _ => id
    have b412 : blk w12 w.heap.size = some e4.cells := by rw [c12'.blk (blk_lt b4) id]; exact b4
    have o12 := o4.ch c12' fun _ _ => id
    have c012 := c4.trans' (c12'.mono fun _ _ h => h.elim)
    simp only [add_at, Nat.zero_add]
    refine ⟨_, by rw [cell_blk b12]; rfl, Sif_cases (fun hbh => ?_) fun hbh => ?_⟩
    rotate_left
    · exact ⟨by simpa using hbh, M12, ⟨_, b412⟩, o12, c012⟩
    have hbh : behind < x.e.seq := by simpa using hbh
    have hx12 : EtE.Ok w12 x := M12.dat x hxF
    have hok : EOk x.pe := wf.ok _ (E.all hxF)
    have hxn : x.e.n ≤ 2 ^ 46 := by
      have h1 := hok.len
      have h2 : x.pe.l.length = x.e.n := EtE.len hx12
      omega
    refine rdN b12 (own_ok (e := x.e) hx12.rd hxn fun w15 z hz hzp hzn c15 => isE ?_)
    have hsp := filter_split (f := fun e : PE => decide (behind < e.seq)) hxp (decide_eq_true hbh)
    have e1 : A.peek behind (fun _ => true) = some x.pe := by
      unfold AQ.peek
      rw [← hlater, hsp, hnf]; rfl
    have b415 : blk w15 w.heap.size = some e4.cells := by rw [c15.blk (blk_lt b412) id]; exact b412
    refine reN (e := z.e) b415 fun w16 b16 c16 z16 => rdN b16 ?_
    have l14 : w.heap.size < w12.heap.size := blk_lt b412
    have M16 := (M12.ch c15 fun _ _ => id).ch c16 fun b hb he => by have := old b hb; omega
    have hz16 : EtE.Ok w16 z := EtE.ch hz c16 fun b hb he => by have := hzn b (by simpa [EtE, Option.mem_toList] using hb); omega
    exact hyes _ e1 z hzp w16 ⟨wf, F, H, p, c, own, r, M16, E, rfl⟩ hz16 (fun b hb => by have := hzn b hb; omega) ((c012.trans' (c15.mono fun _ _ h => h.elim)).trans' (c16.mono fun b _ h => by omega))
  · have hje : j = S.length := by
      have : ¬ (j : Int) < (S.length : Int) := by simpa using hge
      omega
    subst hje
    have htake : (S.map Et.pe).take S.length = S.map Et.pe := by rw [List.take_of_length_le (by simp)]
    rw [htake, hlater] at hnf
    have e1 : A.peek behind (fun _ => true) = none := by
      unfold AQ.peek
      rw [hnf]; rfl
    refine reN (e := Ez.e) b4 fun w5 b5 c5 z5 => rdN b5 ?_
    exact hno e1 w5 ⟨wf, F, H, p, c, own, r, M4.ch c5 fun b hb he => by have := old b hb; omega, E, rfl⟩ (c4.trans' (c5.mono fun b _ h => by omega))
end Go.Proofs.YtipbbjnmpnfhpaaGreatDoor
namespace Go.Proofs.YtipbbjnmpnfhpaaGreatDoor
open Go Go.Sv Go.Heap Go.Qu Go.MapKept
set_option linter.unusedVariables false
set_option maxRecDepth 4000
/-- heap.Remove at the queue's row -/
theorem qremove_ok {i : Nat} {w : World} {qb : Nat} {cf : Cfg} {last : Int} {F H : List Et} {p : Option Addr} {c : Nat} {own : Option Nat} {r : Nat} {K : Value → World → Prop} (Q : QM w qb cf last F H p c own r) (hh : HeapFrom En.lt (atE (F.map (·.e))) F.length 0) (hn : F.length ≤ 2 ^ 39) (h0 : i < F.length)
    (hk : ∀ w' F' x, F.Perm (x :: F') → x.e = atE (F.map (·.e)) i → HeapFrom En.lt (atE (F'.map (·.e))) F'.length 0 → QM w' qb cf last F' H p c own r → EtE.Ok w' x → (∀ b ∈ EtE.B x, b ∈ qbl qb r own F H ∧ b ∉ qbl qb r own F' H) → (∀ b ∈ qbl qb r own F' H, b ∈ qbl qb r own F H) → Ch (fun b => own = some b ∨ b = qb) w w' → K (.iface 34 x.e.val) w') :
    callP Tryz.prog 69 [fH ⟨qb, 5, none⟩, .int .i64 (i : Int)] w K := by
  obtain ⟨m, hm⟩ : ∃ m, F.length = m + 1 := ⟨F.length - 1, by omega⟩
  have hhead := Q.head
  have hrow := Q.row
  rw [hm] at hhead hrow hh
  refine hremove_ok (i := i) hhead (o := 5) (p := p) (m := m) (c := c) (L := F.map (·.e)) rfl Q.ne_qo hrow (by simp [hm]) (by omega) hh (by omega) fun w' G hp hl hheap hb' ho' hch => ?_
  obtain ⟨F2, hp2, he⟩ := perm_lift' (g := fun x : Et => x.e) (L := F) (M := G ++ [atE (F.map (·.e)) i]) hp.symm
  obtain ⟨F', z, rfl, rfl, hz⟩ := List.map_eq_append_iff.1 he
  obtain ⟨x, rfl, hxe⟩ : ∃ x, z = [x] ∧ x.e = atE (F.map (·.e)) i := by
    cases z with
    | nil => simp at hz
    | cons x z =>
      simp only [List.map_cons, List.cons.injEq, List.map_eq_nil_iff] at hz
      exact ⟨x, by rw [hz.2], hz.1⟩
  have hp3 : F.Perm (x :: F') := hp2.trans (List.perm_append_singleton ..)
  have hl' : F'.length = m := by simpa using hl
  have hpe : (F ++ H).Perm (x :: (F' ++ H)) := hp3.append_right H
  have hnd : (EtE.B x ++ eB (F' ++ H)).Nodup := by rw [← eB_cons, ← (eB_perm hpe).nodup_iff]; exact Q.ndE
  have hsub : ∀ b, b ∈ EtE.B x ++ eB (F' ++ H) → b ∈ eB (F ++ H) := fun b hb => by rw [(eB_perm hpe).mem_iff, eB_cons]; exact hb
  have hS : ∀ b, b ∈ eB (F ++ H) → ¬ (own = some b ∨ b = qb) := fun b hb h => by
    rcases h with h | h
    · exact Q.ne_oe b h hb
    · exact Q.ne_qe (h ▸ hb)
  have hdat : ∀ y ∈ F ++ H, EtE.Ok w' y := fun y hy => EtE.ch (Q.dat y hy) hch fun b hb => hS b (mem_eB.2 ⟨y, hy, by simpa [EtE, Option.mem_toList] using hb⟩)
  refine hxe ▸ hk w' F' x hp3 hxe (by rw [hl']; exact hheap) ⟨by rw [hb', hl']; rfl, by rw [hl']; exact ho', ?_, fun y hy => hdat y (hpe.mem_iff.2 (List.mem_cons_of_mem _ hy)), ?_⟩ (hdat x (hpe.mem_iff.2 (by simp))) (fun b hb => ⟨mem_qbl.2 (.inr (.inr (.inr (hsub b (List.mem_append_left _ hb))))), fun h => ?_⟩) (fun b hb => ?_) hch
  · obtain ⟨m', hm', hmp⟩ := Q.map
    exact ⟨m', hm'.ch hch fun h => by
      rcases h with h | h
      · exact Q.ne_ro h
      · exact Q.ne_qr h.symm, hmp⟩
  · exact qbl_nd Q.ne_qr Q.ne_qo Q.ne_ro (fun h => Q.ne_qe (hsub _ (List.mem_append_right _ h))) (fun h => Q.ne_re (hsub _ (List.mem_append_right _ h))) (fun b hb h => Q.ne_oe b hb (hsub _ (List.mem_append_right _ h))) (List.nodup_append.1 hnd).2.1
  · have hb2 := hsub b (List.mem_append_left _ hb)
    rcases mem_qbl.1 h with h | h | h | h
    · exact Q.ne_qe (h ▸ hb2)
    · exact Q.ne_re (h ▸ hb2)
    · exact Q.ne_oe b h hb2
    · exact (List.nodup_append.1 hnd).2.2 b hb b h rfl
  · rcases mem_qbl.1 hb with h | h | h | h
    · exact mem_qbl.2 (.inl h)
    · exact mem_qbl.2 (.inr (.inl h))
    · exact mem_qbl.2 (.inr (.inr (.inl h)))
    · exact mem_qbl.2 (.inr (.inr (.inr (hsub b (List.mem_append_right _ h)))))
theorem remC_ok {w : World} {k : Nat} {e : En} {seq : Int} {K : Value → World → Prop} (hb : blk w k = some [.int .i64 seq]) (hk : ∀ w', Ch (fun _ => False) w w' → K (.bool (e.seq == seq)) w') : callP Tryz.prog 68 [e.val, .pointer (some ⟨k, 0, none⟩)] w K := by
  refine ok_queue_Queue_Remove_1 ?_
  unfold wp_queue_Queue_Remove_1
  refine newB_blk fun w1 b1 c1 z1 => ?_
  simp only [nn_some, add_at, Nat.zero_add]
  exact ⟨_, by rw [cell_blk b1]; rfl, _, by rw [cell_blk (show blk w1 k = some [.int .i64 seq] by rw [c1.blk (blk_lt hb) id]; exact hb)]; rfl, hk w1 c1⟩
theorem qindex_ok {w : World} {p : Option Addr} {c k : Nat} {L : List En} {seq : Int} {K : Value → World → Prop} (hr : Rd w p L.length 7 (L.flatMap En.cells)) (hb : blk w k = some [.int .i64 seq]) (hn : L.length ≤ 2 ^ 40)
    (hno : (∀ x ∈ L, x.seq ≠ seq) → ∀ w', Ch (fun _ => False) w w' → K (.int .i64 (-1)) w')
    (hyes : ∀ (i : Nat) x, L[i]? = some x → x.seq = seq → ∀ w', Ch (fun _ => False) w w' → K (.int .i64 (i : Int)) w') :
    callP Tryz.prog 67 [.slice p L.length c, .func (.func 68) #[] #[.pointer (some ⟨k, 0, none⟩)]] w K := by
  refine ok_slices_IndexFunc ?_
  unfold wp_slices_IndexFunc
  refine ⟨fun m i w' => ∃ j : Nat, i = (j : Int) ∧ j ≤ L.length ∧ m = L.length - j ∧ (∀ t x, t < j → L[t]? = some x → x.seq ≠ seq) ∧ Ch (fun _ => False) w w', ⟨_, 0, rfl, Nat.zero_le _, rfl, fun t x h => by omega, Ch.refl _ _⟩, ?_⟩
  rintro m i w1 ⟨j, rfl, hj, hm, hb4, c1⟩
  refine Sif_cases (fun h => ?_) fun h => ?_
  · have h : j < L.length := by
      have : (j : Int) < (L.length : Int) := by simpa using h
      omega
    obtain ⟨x, hx⟩ : ∃ x, L[j]? = some x := ⟨_, List.getElem?_eq_getElem h⟩
    obtain ⟨kb, o, rfl, hc⟩ := (hr.ch c1 fun _ _ _ => id).at En.cells_len hx (by decide)
    refine ⟨by omega, by omega, ?_⟩
    simp only [nn_some, add_at, Int.toNat_natCast]
    refine ⟨_, hc 0 _ rfl, _, hc 1 _ rfl, _, hc 2 _ rfl, _, hc 3 _ rfl, _, hc 4 _ rfl, _, hc 5 _ rfl, _, _, _, hc 6 _ rfl, ?_⟩
    refine ⟨by kernel_rfl, ?_⟩
    refine remC_ok (e := x) (show blk w1 k = some [.int .i64 seq] by rw [c1.blk (blk_lt hb) id]; exact hb) fun w2 c2 => ⟨_, rfl, Sif_cases (fun g => ?_) fun g => ?_⟩
    · exact hyes j x hx (by simpa using g) w2 (c1.trans' c2)
    · have g : x.seq ≠ seq := by simpa using g
      refine ⟨L.length - (j + 1), by omega, j + 1, ?_, h, rfl, fun t y ht hy => ?_, c1.trans' c2⟩
      · rw [wrap_id (by omega) (by omega)]; rfl
      · rcases Nat.lt_or_ge t j with q | q
        · exact hb4 t y q hy
        · have e : t = j := by omega
          subst e; rw [hx] at hy; cases hy; exact g
  · have h : j = L.length := by
      have : ¬ (j : Int) < (L.length : Int) := by simpa using h
      omega
    exact hno (fun x hx => by
      obtain ⟨t, ht⟩ := List.getElem?_of_mem hx
      exact hb4 t x (by have := (List.getElem?_eq_some_iff.1 ht).1; omega) ht) w1 c1
/-- one that is free has left -/
theorem QF.leftF {A : AQ} {F F' H : List Et} {x : Et} (E : QF A F H) (W : WQ A) (hp : F.Perm (x :: F')) (hheap : HeapFrom En.lt (atE (F'.map (·.e))) F'.length 0) : QF { A with L := delQ x.pe.seq A.L } F' H := by
  have h1 : A.L.Perm (x.pe :: (F' ++ H).map Et.pe) := E.perm.symm.trans ((hp.append_right H).map Et.pe)
  exact ⟨hheap, (filter_one W.nd h1).symm, fun z hz => E.free z (hp.mem_iff.2 (List.mem_cons_of_mem _ hz)), E.held⟩
theorem qrem_ok {w : World} {qb : Nat} {A : AQ} {B : Nat → Prop} {seq h : Int} {K : Value → World → Prop} (Q : QK w qb A B)
    (hno : (A.remove seq h).1 = none → QPost w qb (A.remove seq h).2 B fun w' _ => K (.tuple #[Ez.e.val, .int .i64 171]) w')
    (hyes : ∀ y, (A.remove seq h).1 = some y → ∀ x : Et, x.pe = y → QPost w qb (A.remove seq h).2 B fun w' B' => Out w' B B' w.heap.size x → K (.tuple #[x.e.val, .int .i64 0]) w') :
    callP Tryz.prog 34 [.pointer (some ⟨qb, 0, none⟩), .int .i64 seq, .int .i64 h] w K := by
  have hQ0 := Q
  have hW := Q.wf.remove seq h
  obtain ⟨wf, F, H, p, c, own, r, M, E, rfl⟩ := Q
  have old := M.lt
  have hlen := E.len
  have hnd := E.ndq wf
  rw [List.map_append] at hnd
  obtain ⟨hndF, hndH, hdisj⟩ := List.nodup_append.1 hnd
  refine ok_queue_Queue_Remove ?_
  unfold wp_queue_Queue_Remove
  refine newB_blk fun w1 b1 c1 z1 => newB_blk fun w2 b2 c2 z2 => ?_
  have b2 : blk w2 w1.heap.size = some Ez.e.cells := b2
  have b12 : blk w2 w.heap.size = some [.int .i64 seq] := by rw [c2.blk (blk_lt b1) id]; exact b1
  have c02 := c1.trans' c2
  have M2 := M.ch c02 fun _ _ => id
  have nope : (A.remove seq h) = (none, A) → ∀ w', Ch (fun _ => False) w w' → K (.tuple #[Ez.e.val, .int .i64 171]) w' := fun e1 w' cw => by
    rw [e1] at hno
    exact hno rfl w' _ (hQ0.ch cw fun _ _ => id) (cw.mono fun _ _ h => h.elim) fun b hb => .inl hb
  refine Sif_cases (fun h0 => ?_) fun h0 => ?_
  · have h0 : h = 0 := by simpa using h0
    subst h0
    simp only [nn_some, add_at, Nat.zero_add]
    refine ⟨_, _, _, M2.cell rfl, ?_⟩
    have hrow := M2.row
    have hl : (F.map (·.e)).length = F.length := List.length_map ..
    rw [← hl] at hrow
    rw [← hl]
    refine qindex_ok hrow.rd b12 (by rw [hl]; have := wf.len; have := wf.most2; omega) (fun hn w3 c3 => ⟨_, rfl, ?_⟩) fun i e he hs w3 c3 => ⟨_, rfl, ?_⟩
    · refine Sif_true ?_
      have b23 : blk w3 w1.heap.size = some Ez.e.cells := by rw [c3.blk (blk_lt b2) id]; exact b2
      refine reN (e := Ez.e) b23 fun w4 b4 c4 z4 => rdN b4 ?_
      refine nope ?_ w4 ((c02.trans' c3).trans c4 fun y hy h => by omega)
      unfold AQ.remove
      split
      · rfl
      · rename_i y hy
        obtain ⟨g1, g2⟩ := find_mem hy
        obtain ⟨x, hx, rfl⟩ := List.mem_map.1 (E.perm.mem_iff.2 g1)
        rcases List.mem_append.1 hx with hx | hx
        · exact absurd g2 (hn x.e (List.mem_map.2 ⟨x, hx, rfl⟩))
        · exact if_pos (E.held x hx)
    · refine Sif_cases (fun g => by simp at g; omega) fun _ => ?_
      have hil : i < F.length := by have := (List.getElem?_eq_some_iff.1 he).1; omega
      have b23 : blk w3 w1.heap.size = some Ez.e.cells := by rw [c3.blk (blk_lt b2) id]; exact b2
      have M3 := M2.ch c3 fun _ _ => id
      refine qremove_ok M3 E.heap (by have := wf.len; have := wf.most2; omega) hil fun w4 F' x hp hxe hheap M4 hx hxB hsub c4 => ⟨_, rfl, en_assert ?_⟩
      have hxs : x.e.seq = seq := by
        rw [hxe]
        have : atE (F.map (·.e)) i = e := by unfold atE; rw [he]; rfl
        rw [this]; exact hs
      have hxF : x ∈ F := hp.mem_iff.2 (by simp)
      have e1 : A.remove seq 0 = (some x.pe, { A with L := delQ seq A.L }) := by
        unfold AQ.remove
        rw [← hxs, E.findF wf hxF]
        show (if x.e.hold ≠ 0 then _ else _) = _
        rw [if_neg (by rw [E.free x hxF]; simp)]
      rw [e1] at hyes hW
      have hin : ∀ b, own = some b ∨ b = qb → b ∈ qbl qb r own F H := fun b h => by
        rcases h with h | h
        · exact mem_qbl.2 (.inr (.inr (.inl h)))
        · exact mem_qbl.2 (.inl h)
      have b24 : blk w4 w1.heap.size = some Ez.e.cells := by rw [c4.blk (blk_lt b23) fun h => by have := old _ (hin _ h); omega]; exact b23
      refine reN (e := x.e) b24 fun w5 b5 c5 z5 => rdN b5 ?_
      have big : ∀ b ∈ qbl qb r own F H, ¬ b = w1.heap.size := fun b hb hle => by have := old b hb; omega
      subst hxs
      refine hyes _ rfl x rfl w5 _ ⟨hW, F', H, p, c, own, r, M4.ch c5 fun b hb => big b (hsub b hb), E.leftF wf hp hheap, rfl⟩ ?_ (fun b hb => .inl (hsub b hb)) ⟨EtE.ch hx c5 fun b hb => big b (hxB b hb).1, fun b hb => ?_⟩
      · exact ((((c02.trans' c3).mono fun _ _ h => h.elim).trans' (c4.mono fun b _ h => hin b h))).trans c5 fun b hb h => by omega
      · have hb' : b ∈ EtE.B x := by simpa [EtE, Option.mem_toList] using hb
        exact ⟨(hxB b hb').2, .inl (hxB b hb').1⟩
  · have h0 : h ≠ 0 := by simpa using h0
    have M2d : QM w2.drew qb A.cf A.last F H p c own r := M2.ch (Ch.drew (S := fun _ => False) _) fun _ _ => id
    have b12d : blk w2.drew w.heap.size = some [.int .i64 seq] := b12
    have b2d : blk w2.drew w1.heap.size = some Ez.e.cells := b2
    have c02d := c02.trans' (Ch.drew w2)
    simp only [nn_some, add_at, Nat.zero_add]
    refine ⟨_, M2d.cell rfl, _, by rw [cell_blk b12d]; rfl, ?_⟩
    rcases M2d.look seq with ⟨x, hx, hs, hrun⟩ | ⟨hn, hrun⟩
    rotate_left
    · have e1 : A.remove seq h = (none, A) := by
        unfold AQ.remove
        split
        · rfl
        · rename_i y hy
          exact if_pos (by rw [(E.notH hn y hy).1]; omega)
      refine ⟨_, _, _, _, _, _, _, _, _, _, hrun, newB_blk fun w3 b3 c3 z3 => ?_⟩
      have M3 := M2d.ch c3 fun _ _ => id
      have b13 : blk w3 w.heap.size = some [.int .i64 seq] := by rw [c3.blk (blk_lt b12d) id]; exact b12d
      have b23 : blk w3 w1.heap.size = some Ez.e.cells := by rw [c3.blk (blk_lt b2d) id]; exact b2d
      have b3 : blk w3 w2.drew.heap.size = some Ez.e.cells := b3
      refine ⟨⟨_, _, _, _, _, _, _, _, _, _, ?_, rfl⟩, ⟨_, by rw [cell_blk b13]; rfl, rfl⟩, ⟨_, M3.cell rfl, rfl⟩, ?_⟩
      · rcases M3.look seq with ⟨y, hy, hys, _⟩ | ⟨_, hrun3⟩
        · exact absurd hys (hn y hy)
        · exact hrun3
      simp only [add_at, Nat.zero_add]
      refine reN (e := En0) b3 fun w4 b4 c4 z4 => ⟨fun _ => False, fun _ h => h.elim, Sif_false ?_⟩
      have hd : w2.drew.heap.size = w2.heap.size := rfl
      have b24 : blk w4 w1.heap.size = some Ez.e.cells := by rw [c4.blk (blk_lt b23) (by omega)]; exact b23
      refine reN (e := Ez.e) b24 fun w5 b5 c5 z5 => rdN b5 ?_
      exact nope e1 w5 (((c02d.trans' c3).trans c4 fun y hy h => by omega).trans c5 fun y hy h => by omega)
    subst hs
    refine ⟨_, _, _, _, _, _, _, _, _, _, hrun, newB_blk fun w3 b3 c3 z3 => ?_⟩
    have M3 := M2d.ch c3 fun _ _ => id
    have hd : w2.drew.heap.size = w2.heap.size := rfl
    have b13 : blk w3 w.heap.size = some [.int .i64 x.e.seq] := by rw [c3.blk (blk_lt b12d) id]; exact b12d
    have b23 : blk w3 w1.heap.size = some Ez.e.cells := by rw [c3.blk (blk_lt b2d) id]; exact b2d
    have b3 : blk w3 w2.drew.heap.size = some Ez.e.cells := b3
    refine ⟨⟨_, _, _, _, _, _, _, _, _, _, ?_, rfl⟩, ⟨_, by rw [cell_blk b13]; rfl, rfl⟩, ⟨_, M3.cell rfl, rfl⟩, ?_⟩
    · rcases M3.look x.e.seq with ⟨y, hy, hys, hrun3⟩ | ⟨hn, _⟩
      · have : y = x := inj_of_nodup hndH hy hx hys
        subst this; exact hrun3
      · exact absurd rfl (hn x hx)
    simp only [add_at, Nat.zero_add]
    refine reN (e := x.e) b3 fun w4 b4 c4 z4 => ?_
    have b24 : blk w4 w1.heap.size = some Ez.e.cells := by rw [c4.blk (blk_lt b23) (by omega)]; exact b23
    have b14 : blk w4 w.heap.size = some [.int .i64 x.e.seq] := by rw [c4.blk (blk_lt b13) (by omega)]; exact b13
    have c04 : Ch (fun _ => False) w w4 := (c02d.trans' c3).trans c4 fun y hy h => by omega
    have hfind := E.findH wf hx
    refine ⟨fun w5 => w5 = w4 ∧ x.e.hold = h, ?_, ?_⟩
    rotate_left
    · refine Sif_true ?_
      refine ⟨_, by rw [cell_blk b4]; rfl, Sif_cases (fun g => ?_) fun g => ⟨by trivial, by simpa using g⟩⟩
      have g : x.e.hold ≠ h := by simpa using g
      have e1 : A.remove x.e.seq h = (none, A) := by
        unfold AQ.remove
        rw [hfind]
        exact if_pos g
      refine reN (e := Ez.e) b24 fun w5 b5 c5 z5 => rdN b5 ?_
      exact nope e1 w5 (c04.trans c5 fun y hy h => by omega)
    rintro _ ⟨rfl, hheld⟩
    rename_i w4
    have e1 : A.remove x.e.seq h = (some x.pe, { A with L := delQ x.e.seq A.L }) := by
      unfold AQ.remove
      rw [hfind]
      exact if_neg (fun hne => hne hheld)
    rw [e1] at hyes hW
    obtain ⟨H', hp⟩ := perm_of_mem hx
    have M4d : QM w4.drew qb A.cf A.last F H p c own r := (M.ch c04 fun _ _ => id).ch (Ch.drew (S := fun _ => False) _) fun _ _ => id
    have b14d : blk w4.drew w.heap.size = some [.int .i64 x.e.seq] := b14
    refine ⟨_, M4d.cell rfl, _, by rw [cell_blk b14d]; rfl, ?_⟩
    obtain ⟨w5, hdel, M5, hx5, hxB, hsub, c5⟩ := M4d.del (ty := 0) hp hndH
    have hr : r < w.heap.size := old r (mem_qbl.2 (.inr (.inl rfl)))
    have s4 := c04.size
    have kp : ∀ k v, w.heap.size ≤ k → blk w4 k = some v → blk w5 k = some v := fun k v hk hb => by
      have hb : blk w4.drew k = some v := hb
      rw [c5.blk (blk_lt hb) (by omega)]; exact hb
    refine ⟨w5, hdel, rdN (kp _ _ (by omega) b4) (reN (e := x.e) (kp _ _ (by omega) b24) fun w6 b6 c6 z6 => rdN b6 ?_)⟩
    have big : ∀ b ∈ qbl qb r own F H, ¬ b = w1.heap.size := fun b hb hle => by have := old b hb; omega
    refine hyes _ rfl x rfl w6 _ ⟨hW, F, H', p, c, own, r, M5.ch c6 fun b hb => big b (hsub b hb), E.left wf hp, rfl⟩ ?_ (fun b hb => .inl (hsub b hb)) ⟨EtE.ch hx5 c6 fun b hb => big b (hxB b hb).1, fun b hb => ?_⟩
    · exact ((((c04.trans' (Ch.drew w4)).mono fun _ _ h => h.elim).trans' (c5.mono fun b _ h => h ▸ mem_qbl.2 (.inr (.inl rfl))))).trans c6 fun b hb h => by omega
    · have hb' : b ∈ EtE.B x := by simpa [EtE, Option.mem_toList] using hb
      exact ⟨(hxB b hb').2, .inl (hxB b hb').1⟩
end Go.Proofs.YtipbbjnmpnfhpaaGreatDoor
namespace Go.Proofs.YtipbbjnmpnfhpaaGreatDoor
open Go Go.Sv Go.Heap Go.Qu Go.MapKept
set_option linter.unusedVariables false
set_option maxRecDepth 4000
/-! ### plain: taken, and removed at once -/
abbrev EX := En × List UInt8
def EX.pe (x : EX) : PE := x.1.as x.2
/-- what an input holds -/
structure EIn (w : World) (x : EX) : Prop where
  rd : Rd w x.1.p x.1.n 1 (bytesV x.2)
  n : x.1.n ≤ 2 ^ 20
structure OS (w w4 : World) (qb : Nat) (A : AQ) (B : Nat → Prop) (X : List EX) (p : Option Addr) (n c : Nat) (own : Option Nat) : Prop where
  q : QK w4 qb A B
  new : ∀ b, B b → w.heap.size ≤ b
  row : Ow w4 p n c 7 ((X.map (·.1)).flatMap En.cells) own
  len : n = X.length
  onew : ∀ b, own = some b → w.heap.size ≤ b ∧ ¬ B b
  inp : ∀ x ∈ X, EIn w x
  eq : A.L = X.map EX.pe
  free : ∀ e ∈ A.L, e.hold = 0
  ch : Ch (fun _ => False) w w4
section
variable {w w4 w5 : World} {qb : Nat} {A : AQ} {B : Nat → Prop} {X : List EX} {p : Option Addr} {n c : Nat} {own : Option Nat}
theorem OS.next {S : Nat → Prop} (h : OS w w4 qb A B X p n c own) (c5 : Ch S w4 w5) (hs : ∀ b, S b → w.heap.size ≤ b ∧ ¬ B b ∧ own ≠ some b) : OS w w5 qb A B X p n c own :=
  ⟨h.q.ch c5 fun b hb hS => (hs b hS).2.1 hb, h.new, h.row.ch c5 fun b hb hS => (hs b hS).2.2 hb, h.len, h.onew, h.inp, h.eq, h.free, h.ch.trans c5 fun b hb hS => by have := (hs b hS).1; omega⟩
theorem OS.next0 (h : OS w w4 qb A B X p n c own) (c5 : Ch (fun _ => False) w4 w5) : OS w w5 qb A B X p n c own := h.next c5 fun _ h => h.elim
/-- the queue has done something -/
theorem OS.did {A' : AQ} {B' : Nat → Prop} (h : OS w w4 qb A B X p n c own) (Q : QK w5 qb A' B') (c5 : Ch B w4 w5) (n5 : ∀ b, B' b → B b ∨ w4.heap.size ≤ b) : (∀ b, B' b → w.heap.size ≤ b) ∧ Ow w5 p n c 7 ((X.map (·.1)).flatMap En.cells) own ∧ (∀ b, own = some b → w.heap.size ≤ b ∧ ¬ B' b) ∧ Ch (fun _ => False) w w5 :=
  ⟨fun b hb => by
    rcases n5 b hb with q | q
    · exact h.new b q
    · have := h.ch.size; omega, h.row.ch c5 fun b hb hB => (h.onew b hb).2 hB, fun b hb => ⟨(h.onew b hb).1, fun hB => by
    rcases n5 b hB with q | q
    · exact (h.onew b hb).2 q
    · have := h.row.blt b hb; omega⟩, h.ch.trans c5 fun b hb hB => by have := h.new b hB; omega⟩
end
/-- .. while one is taken -/
structure OB (w w4 : World) (qb : Nat) (A : AQ) (B : Nat → Prop) (X : List EX) (p : Option Addr) (n c : Nat) (own : Option Nat) : Prop where
  q : QK w4 qb A B
  new : ∀ b, B b → w.heap.size ≤ b
  row : Ow w4 p n c 7 ((X.map (·.1)).flatMap En.cells) own
  onew : ∀ b, own = some b → w.heap.size ≤ b ∧ ¬ B b
  ch : Ch (fun _ => False) w w4
section
variable {w w4 w5 : World} {qb : Nat} {A : AQ} {B : Nat → Prop} {X : List EX} {p : Option Addr} {n c : Nat} {own : Option Nat}
theorem OS.ob (h : OS w w4 qb A B X p n c own) : OB w w4 qb A B X p n c own := ⟨h.q, h.new, h.row, h.onew, h.ch⟩
theorem OB.next {S : Nat → Prop} (h : OB w w4 qb A B X p n c own) (c5 : Ch S w4 w5) (hs : ∀ b, S b → w.heap.size ≤ b ∧ ¬ B b ∧ own ≠ some b) : OB w w5 qb A B X p n c own :=
  ⟨h.q.ch c5 fun b hb hS => (hs b hS).2.1 hb, h.new, h.row.ch c5 fun b hb hS => (hs b hS).2.2 hb, h.onew, h.ch.trans c5 fun b hb hS => by have := (hs b hS).1; omega⟩
theorem OB.next0 (h : OB w w4 qb A B X p n c own) (c5 : Ch (fun _ => False) w4 w5) : OB w w5 qb A B X p n c own := h.next c5 fun _ h => h.elim
theorem OB.did {A' : AQ} {B' : Nat → Prop} (h : OB w w4 qb A B X p n c own) (Q : QK w5 qb A' B') (c5 : Ch B w4 w5) (n5 : ∀ b, B' b → B b ∨ w4.heap.size ≤ b) : OB w w5 qb A' B' X p n c own :=
  ⟨Q, fun b hb => by
    rcases n5 b hb with q | q
    · exact h.new b q
    · have := h.ch.size; omega, h.row.ch c5 fun b hb hB => (h.onew b hb).2 hB, fun b hb => ⟨(h.onew b hb).1, fun hB => by
    rcases n5 b hB with q | q
    · exact (h.onew b hb).2 q
    · have := h.row.blt b hb; omega⟩, h.ch.trans c5 fun b hb hB => by have := h.new b hB; omega⟩
end
end Go.Proofs.YtipbbjnmpnfhpaaGreatDoor
namespace Go.Proofs.YtipbbjnmpnfhpaaGreatDoor
open Go Go.Sv Go.Heap Go.Qu Go.MapKept
set_option linter.unusedVariables false
set_option maxRecDepth 4000
/-- what is held came of an entry -/
structure Came (Es : List EX) (i : Nat) (x : PE) : Prop where
  ex : ∃ j e, j < i ∧ Es[j]? = some e ∧ x.seq = ((j + 1 : Nat) : Int) ∧ x.pri = e.1.pri ∧ x.exp = e.1.exp ∧ x.dur = e.1.dur ∧ x.l = e.2 ∧ e.1.cnt ≤ x.cnt
structure KA (Es : List EX) (most : Int) (i : Nat) (A : AQ) (n n1 : Int) : Prop where
  inv : ∀ x ∈ A.L, Came Es i x
  last : A.last ≤ (i : Int)
  cnt : n - n1 = (A.L.length : Int)
  lo : 0 ≤ n1
  hi : n ≤ (i : Int)
  most : A.cf.most = most
theorem Came.like {Es : List EX} {i : Nat} {x y : PE} (h : Came Es i x) (k : Like x y) : Came Es i y := by
  obtain ⟨j, e, h1, h2, h3, h4, h5, h6, h7, h8⟩ := h
  have := k.cnt
  exact ⟨j, e, h1, h2, k.seq.trans h3, k.pri.trans h4, k.exp.trans h5, k.dur.trans h6, k.l.trans h7, by omega⟩
theorem KA.up {Es : List EX} {most : Int} {i : Nat} {A : AQ} {n n1 : Int} (h : KA Es most i A n n1) : KA Es most (i + 1) A n n1 :=
  ⟨fun x hx => by
    obtain ⟨j, e, h1, h2⟩ := (h.inv x hx).ex
    exact ⟨j, e, by omega, h2⟩, by have := h.last; omega, h.cnt, h.lo, by have := h.hi; omega, h.most⟩
theorem KA.put {Es : List EX} {most : Int} {i : Nat} {A : AQ} {n n1 : Int} (h : KA Es most i A n n1) {x : EX} (hx : Es[i]? = some x) {e : PE} (he : e = EX.pe ({ x.1 with seq := ((i + 1 : Nat) : Int) }, x.2)) : KA Es most (i + 1) { A with L := A.L ++ [e], last := e.seq } (n + 1) n1 := by
  have hu := h.up
  refine ⟨fun y hy => ?_, ?_, ?_, h.lo, by have := h.hi; omega, h.most⟩
  · rcases List.mem_append.1 hy with hy | hy
    · exact hu.inv y hy
    · rw [List.mem_singleton.1 hy, he]
      exact ⟨i, x, by omega, hx, rfl, rfl, rfl, rfl, rfl, Int.le_refl _⟩
  · rw [he]; exact Int.le_refl _
  · have := h.cnt
    show n + 1 - n1 = ((A.L ++ [e]).length : Int)
    rw [List.length_append, List.length_singleton]; omega
/-- the state in memory -/
structure KS (w w6 : World) (qb : Nat) (A : AQ) (B : Nat → Prop) (p0 : Option Addr) (N c0 : Nat) : Prop where
  q : QK w6 qb A B
  new : ∀ b, B b → w.heap.size + 2 ≤ b
  ba : blk w6 w.heap.size = some [.slice p0 N c0]
  br : ∃ v, blk w6 (w.heap.size + 1) = some [v]
  ch : Ch (fun _ => False) w w6
section
variable {w w6 w7 : World} {qb : Nat} {A : AQ} {B : Nat → Prop} {p0 : Option Addr} {N c0 : Nat}
theorem KS.next {S : Nat → Prop} (h : KS w w6 qb A B p0 N c0) (c : Ch S w6 w7) (hs : ∀ b, S b → w.heap.size + 2 ≤ b ∧ ¬ B b) : KS w w7 qb A B p0 N c0 := by
  obtain ⟨v, hv⟩ := h.br
  exact ⟨h.q.ch c fun b hb hS => (hs b hS).2 hb, h.new, by rw [c.blk (blk_lt h.ba) fun hS => by have := (hs _ hS).1; omega]; exact h.ba, ⟨v, by rw [c.blk (blk_lt hv) fun hS => by have := (hs _ hS).1; omega]; exact hv⟩, h.ch.trans c fun b hb hS => by have := (hs b hS).1; omega⟩
theorem KS.next0 (h : KS w w6 qb A B p0 N c0) (c : Ch (fun _ => False) w6 w7) : KS w w7 qb A B p0 N c0 := h.next c fun _ h => h.elim
theorem KS.did {A' : AQ} {B' : Nat → Prop} (h : KS w w6 qb A B p0 N c0) (Q : QK w7 qb A' B') (c : Ch B w6 w7) (n : ∀ b, B' b → B b ∨ w6.heap.size ≤ b) : KS w w7 qb A' B' p0 N c0 := by
  obtain ⟨v, hv⟩ := h.br
  exact ⟨Q, fun b hb => by
    rcases n b hb with q | q
    · exact h.new b q
    · have := blk_lt hv; omega, by rw [c.blk (blk_lt h.ba) fun hS => by have := h.new _ hS; omega]; exact h.ba, ⟨v, by rw [c.blk (blk_lt hv) fun hS => by have := h.new _ hS; omega]; exact hv⟩, h.ch.trans c fun b hb hS => by have := h.new b hS; omega⟩
end
/-- a call of the script: only its kind and its numbers are looked at -/
structure OpV where
  k : Int
  a : Int
  b : Int
  f : Int
  lp : Option Addr
  ln : Nat
  lc : Nat
  fl : Bool
  e : En
def OpV.cells (o : OpV) : List Value := [.int .i64 o.k, .int .i64 o.a, .int .i64 o.b, .int .i64 o.f, .slice o.lp o.ln o.lc, .bool o.fl, .int .i64 o.e.seq, .int .i64 o.e.pri, .int .i64 o.e.exp, .bool o.e.dur, .int .i64 o.e.cnt, .int .i64 o.e.hold, .slice o.e.p o.e.n o.e.c]
theorem OpV.cells_len (o : OpV) : o.cells.length = 13 := rfl
theorem reOp {w : World} {k : Nat} {cs0 : List Value} (o : OpV) {K : World → Prop} (h : blk w k = some cs0) (hl : cs0.length = 13) (hk : ∀ w', blk w' k = some o.cells → Ch (· = k) w w' → w'.heap.size = w.heap.size → K w') :
    Sv.st w ⟨k, 0, none⟩ (.int .i64 o.k) fun w => Sv.st w ⟨k, 1, none⟩ (.int .i64 o.a) fun w => Sv.st w ⟨k, 2, none⟩ (.int .i64 o.b) fun w => Sv.st w ⟨k, 3, none⟩ (.int .i64 o.f) fun w => Sv.st w ⟨k, 4, none⟩ (.slice o.lp o.ln o.lc) fun w => Sv.st w ⟨k, 5, none⟩ (.bool o.fl) fun w => Sv.st w ⟨k, 6, none⟩ (.int .i64 o.e.seq) fun w => Sv.st w ⟨k, 7, none⟩ (.int .i64 o.e.pri) fun w => Sv.st w ⟨k, 8, none⟩ (.int .i64 o.e.exp) fun w => Sv.st w ⟨k, 9, none⟩ (.bool o.e.dur) fun w => Sv.st w ⟨k, 10, none⟩ (.int .i64 o.e.cnt) fun w => Sv.st w ⟨k, 11, none⟩ (.int .i64 o.e.hold) fun w => Sv.st w ⟨k, 12, none⟩ (.slice o.e.p o.e.n o.e.c) fun w => K w :=
  st_all [.int .i64 o.k, .int .i64 o.a, .int .i64 o.b, .int .i64 o.f, .slice o.lp o.ln o.lc, .bool o.fl, .int .i64 o.e.seq, .int .i64 o.e.pri, .int .i64 o.e.exp, .bool o.e.dur, .int .i64 o.e.cnt, .int .i64 o.e.hold, .slice o.e.p o.e.n o.e.c] 0 (K := K) h (by rw [hl]; exact Nat.le_refl _) fun w' b c y => hk w' (by rw [b, putSeg_all (by rw [hl]; rfl)]; rfl) c y
end Go.Proofs.YtipbbjnmpnfhpaaGreatDoor
namespace Go.Proofs.YtipbbjnmpnfhpaaGreatDoor
open Go Go.Sv Go.Heap Go.Qu Go.MapKept
set_option linter.unusedVariables false
set_option maxRecDepth 4000
def OpV.val (o : OpV) : Value := .agg #[.int .i64 o.k, .int .i64 o.a, .int .i64 o.b, .int .i64 o.f, .slice o.lp o.ln o.lc, .bool o.fl, .int .i64 o.e.seq, .int .i64 o.e.pri, .int .i64 o.e.exp, .bool o.e.dur, .int .i64 o.e.cnt, .int .i64 o.e.hold, .slice o.e.p o.e.n o.e.c]
def TU (B C D : Nat → Prop) (b : Nat) : Prop := B b ∨ C b ∨ D b
/-- both queues, and the book -/
structure Trio (Qt : Nat → Prop) (Bp : World → Nat → (Nat → Prop) → Prop) (w : World) (qb rb : Nat) (A : AQ) (m : Nat) (B C D : Nat → Prop) : Prop where
  q : QK w qb A B
  r : RQ Qt w rb A C
  b : Bp w m D
  BC : ∀ b, B b → ¬ C b
  DB : ∀ b, D b → ¬ B b
  DC : ∀ b, D b → ¬ C b
  qB : ∀ b, B b → ¬ Qt b
  qD : ∀ b, D b → ¬ Qt b
/-- what a step leaves -/
abbrev TPost (Qt : Nat → Prop) (Bp : World → Nat → (Nat → Prop) → Prop) (w : World) (qb rb : Nat) (cf : Cfg) (m : Nat) (U : Nat → Prop) (K : World → Prop) : Prop := ∀ w' A' m' B' C' D', Trio Qt Bp w' qb rb A' m' B' C' D' → m' ≤ m + 5000 → A'.cf = cf → Ch (fun b => U b ∧ ¬ Qt b) w w' → (∀ b, TU B' C' D' b → U b ∨ w.heap.size ≤ b) → K w'
theorem Trio.lt {Qt : Nat → Prop} {Bp : World → Nat → (Nat → Prop) → Prop} {kb : Nat} (HB : BookLike kb Bp) {w : World} {qb rb : Nat} {A : AQ} {m : Nat} {B C D : Nat → Prop} (T : Trio Qt Bp w qb rb A m B C D) : ∀ b, TU B C D b → b < w.heap.size := by
  rintro b (h | h | h)
  · exact T.q.lt b h
  · exact T.r.lt b h
  · exact HB.lt T.b b h
theorem Trio.ch {Qt : Nat → Prop} {Bp : World → Nat → (Nat → Prop) → Prop} {kb : Nat} (HB : BookLike kb Bp) {S : Nat → Prop} {w w' : World} {qb rb : Nat} {A : AQ} {m : Nat} {B C D : Nat → Prop} (T : Trio Qt Bp w qb rb A m B C D) (c : Ch S w w') (hn : ∀ b, TU B C D b → ¬ S b) : Trio Qt Bp w' qb rb A m B C D :=
  ⟨T.q.ch c fun b hb => hn b (.inl hb), T.r.ch c fun b hb => hn b (.inr (.inl hb)), HB.ch T.b c fun b hb => hn b (.inr (.inr hb)), T.BC, T.DB, T.DC, T.qB, T.qD⟩
theorem asked_take (fit : PE → Bool) : ∀ L : List PE, L.take (asked fit L).length = asked fit L
  | [] => rfl
  | x :: L => by
    unfold asked
    split
    · simp
    · rw [List.length_cons, List.take_succ_cons, asked_take fit L]
theorem frees_mem {A : AQ} {x : PE} (h : x ∈ A.frees) : x ∈ A.L := (ordered_perm A.L).mem_iff.1 (List.mem_filter.1 h).1
theorem later_mem {A : AQ} {n : Int} {x : PE} (h : x ∈ A.later n) : x ∈ A.L := (List.mem_filter.1 (List.mem_filter.1 h).1).1
theorem frees_len (A : AQ) : A.frees.length ≤ A.L.length := by
  rw [← (ordered_perm A.L).length_eq]; exact List.length_filter_le ..
theorem later_len (A : AQ) (n : Int) : (A.later n).length ≤ A.L.length := Nat.le_trans (List.length_filter_le ..) (List.length_filter_le ..)
/-- what both have answered -/
structure SJ (Qt : Nat → Prop) (Bp : World → Nat → (Nat → Prop) → Prop) (w : World) (qb rb kb m : Nat) (cf : Cfg) (U : Nat → Prop) (o : OpV) (fb ea eb : Nat) (p1 : Option Addr) (n2 : Nat) (b1 b2 : Bool) (v : World) (A' : AQ) (m' : Nat) (B' C' D' : Nat → Prop) (xa xb : Et) (Sa Sw : List Int) (ap : Option Addr) (ac : Nat) : Prop where
  t : Trio Qt Bp v qb rb A' m' B' C' D'
  hm : m' + 1 ≤ m + 5000
  cf : A'.cf = cf
  ba : blk v w.heap.size = some o.cells
  bf : blk v fb = some (fcells kb rb (o.f == 1) (.slice o.lp o.ln o.lc) (.slice ap Sa.length ac))
  ra : Rd v ap Sa.length 1 (Sa.flatMap iC)
  rw : Rd v p1 n2 1 (Sw.flatMap iC)
  ln : Sw.length = n2
  ea : blk v ea = some xa.e.cells
  eb : blk v eb = some xb.e.cells
  oa : EtE.Ok v xa
  ob : Rd v xb.e.p xb.e.n 1 (bytesV xb.l)
  pe : xa.pe = xb.pe
  sm : xa.l.length ≤ 2 ^ 20
  bb : b1 = b2
  told : Sa = Sw ∨ (o.f = 0 ∧ Sa = [])
  ch : Ch (fun b => U b ∧ ¬ Qt b) w v
  xq : ∀ b, xa.own = some b → ¬ Qt b
  up : ∀ b, TU B' C' D' b ∨ xa.own = some b → U b ∨ w.heap.size ≤ b
  off : ∀ b, xa.own = some b → ¬ TU B' C' D' b
  not : ∀ b, D' b ∨ xa.own = some b → b ≠ w.heap.size ∧ b ≠ fb ∧ (∀ a, ap = some a → Sa.length * 1 ≠ 0 → a.block ≠ b) ∧ (∀ a, p1 = some a → n2 * 1 ≠ 0 → a.block ≠ b)
theorem tail_ok {Qt : Nat → Prop} {Bp : World → Nat → (Nat → Prop) → Prop} {kb : Nat} (HB : BookLike kb Bp) {w : World} {qb rb m : Nat} {cf : Cfg} {U : Nat → Prop} {o : OpV} {fb ea eb : Nat} {p1 : Option Addr} {n2 c1 : Nat} {b1 b2 : Bool} {v : World} {A' : AQ} {m' : Nat} {B' C' D' : Nat → Prop} {xa xb : Et} {Sa Sw : List Int} {ap : Option Addr} {ac : Nat} {K : Value → World → Prop}
    (H : SJ Qt Bp w qb rb kb m cf U o fb ea eb p1 n2 b1 b2 v A' m' B' C' D' xa xb Sa Sw ap ac) (hm : m ≤ 2 ^ 33) (hSa : Sa.length ≤ 2 ^ 40) (hk : TPost Qt Bp w qb rb cf m U fun w' => K (.bool true) w') :
    callP Tryz.prog 11 [xa.e.val, xb.e.val] v fun v5 w21 => ∃ b5 : Bool, v5 = .bool b5 ∧ ∃ n15 : Int, w21.cell? ⟨ea, 0, none⟩ = some (.int .i64 n15) ∧ ∃ n16 : Int, w21.cell? ⟨ea, 1, none⟩ = some (.int .i64 n16) ∧ ∃ n17 : Int, w21.cell? ⟨ea, 2, none⟩ = some (.int .i64 n17) ∧ ∃ b6 : Bool, w21.cell? ⟨ea, 3, none⟩ = some (.bool b6) ∧ ∃ n18 : Int, w21.cell? ⟨ea, 4, none⟩ = some (.int .i64 n18) ∧ ∃ n19 : Int, w21.cell? ⟨ea, 5, none⟩ = some (.int .i64 n19) ∧ ∃ p4 n20 c4, w21.cell? ⟨ea, 6, none⟩ = some (.slice p4 n20 c4) ∧
      callP Tryz.prog 33 [.pointer (some ⟨kb, 0, none⟩), .agg #[.int .i64 n15, .int .i64 n16, .int .i64 n17, .bool b6, .int .i64 n18, .int .i64 n19, .slice p4 n20 c4]] w21 fun v1 w22 => v1 = .tuple #[] ∧ ∃ p5 n21 c5, w22.cell? ⟨fb, 3, none⟩ = some (.slice p5 n21 c5) ∧ callP Tryz.prog 38 [.slice p5 n21 c5, .slice p1 n2 c1] w22 fun v2 w23 => ∃ b7 : Bool, v2 = .bool b7 ∧
        Sif b5 (Sif (b1 == b2) (∃ b8 : Bool, w23.cell? ⟨fb, 5, none⟩ = some (.bool b8) ∧ Sif (!b8) (Sif (!b7) (∃ n22 : Int, w23.cell? ⟨w.heap.size, 3, none⟩ = some (.int .i64 n22) ∧ Sif (n22 == 0) (∃ p6 n23 c6, w23.cell? ⟨fb, 3, none⟩ = some (.slice p6 n23 c6) ∧ K (.bool ((n23 : Int) == 0)) w23) (K (.bool false) w23)) (K (.bool true) w23)) (K (.bool false) w23)) (K (.bool false) w23)) (K (.bool false) w23) := by
  refine same_ok (a := xa.e) (b := xb.e) (l := xa.l) H.oa.rd (by have := H.ob; rw [show xb.l = xa.l from (congrArg PE.l H.pe).symm] at this; exact this) (by
    show xa.pe = xb.e.as xa.l
    rw [H.pe, show xa.l = xb.l from congrArg PE.l H.pe]; rfl) fun w21 c21 => ⟨true, rfl, ?_⟩
  have ea21 : blk w21 ea = some xa.e.cells := by rw [c21.blk (blk_lt H.ea) id]; exact H.ea
  refine rdN ea21 ?_
  have hml := EtE.len H.oa
  have hs := H.sm
  refine HB.take (HB.ch H.t.b c21 fun _ _ => id) (EtE.ch H.oa c21 fun _ _ => id) (fun b hb h => H.off b hb (.inr (.inr h))) (by omega) (by have := H.hm; omega) fun w22 D2 b22 c22 hD2 => ⟨rfl, ?_⟩
  have c02 : Ch (fun b => D' b ∨ xa.own = some b) v w22 := (c21.mono fun _ _ h => h.elim).trans' c22
  have f22 : blk w22 fb = some (fcells kb rb (o.f == 1) (.slice o.lp o.ln o.lc) (.slice ap Sa.length ac)) := by rw [c02.blk (blk_lt H.bf) fun h => (H.not fb h).2.1 rfl]; exact H.bf
  have a22 : blk w22 w.heap.size = some o.cells := by rw [c02.blk (blk_lt H.ba) fun h => (H.not _ h).1 rfl]; exact H.ba
  refine ⟨_, _, _, by rw [cell_blk f22]; rfl, ?_⟩
  refine snums_ok (S := Sa) (T := Sw) (H.ra.ch c02 fun a ha h0 h => (H.not a.block h).2.2.1 a ha h0 rfl) (H.rw.ch c02 fun a ha h0 h => (H.not a.block h).2.2.2 a ha h0 rfl) rfl H.ln (by omega) fun b7 w23 hb7 c23 => ⟨b7, rfl, Sif_true ?_⟩
  have f23 : blk w23 fb = some (fcells kb rb (o.f == 1) (.slice o.lp o.ln o.lc) (.slice ap Sa.length ac)) := by rw [c23.blk (blk_lt f22) id]; exact f22
  have a23 : blk w23 w.heap.size = some o.cells := by rw [c23.blk (blk_lt a22) id]; exact a22
  rw [show (b1 == b2) = true by rw [H.bb]; simp]
  have c03 := c02.new c23
  have hlt := H.t.lt HB
  have hxl := EtE.lt H.oa
  have sv := H.ch.size
  have hD2lt : ∀ b, D2 b → D' b ∨ xa.own = some b ∨ v.heap.size ≤ b := fun b hb => by
    rcases hD2 b hb with q | q | q
    · exact .inl q
    · exact .inr (.inl q)
    · exact .inr (.inr (by have := c21.size; omega))
  have fin : K (.bool true) w23 := hk w23 A' (m' + 1) B' C' D2 ⟨H.t.q.ch c03 fun b hb h => ?_, H.t.r.ch c03 fun b hb h => ?_, HB.ch b22 c23 fun _ _ => id, H.t.BC, fun b hb h => ?_, fun b hb h => ?_, H.t.qB, fun b hb h => ?_⟩ H.hm H.cf (H.ch.trans c03 fun b hb h => ?_) fun b hb => ?_
  · refine Sif_true ⟨_, by rw [cell_blk f23]; rfl, ?_⟩
    refine Sif_true ?_
    refine Sif_cases (fun g => ⟨_, by rw [cell_blk a23]; rfl, ?_⟩) fun g => fin
    have g : ¬ Sa = Sw := by
      rw [hb7] at g
      simpa using g
    obtain ⟨h0, h1⟩ := H.told.resolve_left g
    rw [h0]
    refine Sif_true ⟨_, _, _, by rw [cell_blk f23]; rfl, ?_⟩
    rw [h1]
    exact fin
  · rcases h with h | h
    · exact H.t.DB b h hb
    · exact H.off b h (.inl hb)
  · rcases h with h | h
    · exact H.t.DC b h hb
    · exact H.off b h (.inr (.inl hb))
  · rcases hD2lt b hb with q | q | q
    · exact H.t.DB b q h
    · exact H.off b q (.inl h)
    · have := hlt b (.inl h); omega
  · rcases hD2lt b hb with q | q | q
    · exact H.t.DC b q h
    · exact H.off b q (.inr (.inl h))
    · have := hlt b (.inr (.inl h)); omega
  · rcases hD2lt b hb with q | q | q
    · exact H.t.qD b q h
    · exact H.xq b q h
    · have := H.t.r.qlo b h; omega
  · have : U b ∨ w.heap.size ≤ b := by
      rcases h with h | h
      · exact H.up b (.inl (.inr (.inr h)))
      · exact H.up b (.inr h)
    have hq : ¬ Qt b := h.elim (H.t.qD b) (H.xq b)
    rcases this with q | q
    · exact ⟨q, hq⟩
    · omega
  · rcases hb with h | h | h
    · exact H.up b (.inl (.inl h))
    · exact H.up b (.inl (.inr (.inl h)))
    · rcases hD2lt b h with q | q | q
      · exact H.up b (.inl (.inr (.inr q)))
      · exact H.up b (.inr q)
      · exact .inr (by omega)
/-- what the program's has answered -/
structure SM (Qt : Nat → Prop) (Bp : World → Nat → (Nat → Prop) → Prop) (w : World) (qb rb kb m : Nat) (A : AQ) (C U : Nat → Prop) (o : OpV) (fb ea eb : Nat) (A1 : AQ) (res : Option PE) (p1 : Option Addr) (n2 : Nat) (b1 : Bool) (v : World) (m' : Nat) (B' D' : Nat → Prop) (xa : Et) (Sa Sw : List Int) (ap : Option Addr) (ac : Nat) : Prop where
  q : QK v qb A1 B'
  r : RQ Qt v rb A C
  b : Bp v m' D'
  BC : ∀ b, B' b → ¬ C b
  DB : ∀ b, D' b → ¬ B' b
  DC : ∀ b, D' b → ¬ C b
  hm : m' + 1 ≤ m + 5000
  cf : A1.cf = A.cf
  ba : blk v w.heap.size = some o.cells
  bf : blk v fb = some (fcells kb rb (o.f == 1) (.slice o.lp o.ln o.lc) (.slice ap Sa.length ac))
  ra : Rd v ap Sa.length 1 (Sa.flatMap iC)
  rw : Rd v p1 n2 1 (Sw.flatMap iC)
  ln : Sw.length = n2
  hea : blk v ea = some xa.e.cells
  heb : blk v eb = some Ez.e.cells
  oa : EtE.Ok v xa
  pe : xa.pe = res.getD Pz
  sm : xa.l.length ≤ 2 ^ 20
  bb : b1 = res.isSome
  told : Sa = Sw ∨ (o.f = 0 ∧ Sa = [])
  ch : Ch (fun b => U b ∧ ¬ Qt b) w v
  xq : ∀ b, xa.own = some b → ¬ Qt b
  qB : ∀ b, B' b → ¬ Qt b
  qD : ∀ b, D' b → ¬ Qt b
  up : ∀ b, B' b ∨ D' b ∨ xa.own = some b → U b ∨ w.heap.size ≤ b
  off : ∀ b, xa.own = some b → ¬ B' b ∧ ¬ C b ∧ ¬ D' b
  not : ∀ b, D' b ∨ xa.own = some b → b ≠ w.heap.size ∧ b ≠ fb ∧ b ≠ eb ∧ (∀ a, ap = some a → Sa.length * 1 ≠ 0 → a.block ≠ b) ∧ (∀ a, p1 = some a → n2 * 1 ≠ 0 → a.block ≠ b)
  notB : ∀ b, B' b → b ≠ eb
  apC : ∀ a, ap = some a → Sa.length * 1 ≠ 0 → ¬ C a.block ∧ a.block ≠ eb
  p1C : ∀ a, p1 = some a → n2 * 1 ≠ 0 → ¬ C a.block ∧ a.block ≠ eb
/-- bytes are no entry's cells -/
theorem rd_not_entry {v : World} {k : Nat} {e : En} {p : Option Addr} {n : Nat} {l : List UInt8} (h : blk v k = some e.cells) (hr : Rd v p n 1 (bytesV l)) {a : Addr} (ha : p = some a) (h0 : n * 1 ≠ 0) : a.block ≠ k := fun e1 => by
  obtain ⟨b, o, hp, hc⟩ := hr.cell (i := 0) (by omega)
  rw [hp] at ha
  cases ha
  have e1 : b = k := e1
  subst e1
  rw [cell_blk h, Nat.add_zero] at hc
  have hl : l.length = n := by have := hr.1; simpa using this
  rw [show (bytesV l)[0]? = some (.int .u8 ((l[0]'(by omega)).toNat : Int)) by simp [bytesV, List.getElem?_eq_getElem (show 0 < l.length by omega)]] at hc
  unfold En.cells at hc
  match o, hc with
  | 0, hc => simp at hc
  | 1, hc => simp at hc
  | 2, hc => simp at hc
  | 3, hc => simp at hc
  | 4, hc => simp at hc
  | 5, hc => simp at hc
  | 6, hc => simp at hc
  | o + 7, hc => simp at hc
/-- the document's answer is put down -/
theorem done_ok {Qt : Nat → Prop} {Bp : World → Nat → (Nat → Prop) → Prop} {kb : Nat} (HB : BookLike kb Bp) {w : World} {qb rb m : Nat} {A : AQ} {C U : Nat → Prop} {o : OpV} {fb ea eb : Nat} {A1 : AQ} {res : Option PE} {p1 : Option Addr} {n2 : Nat} {b1 b2 : Bool} {v v' : World} {m' : Nat} {B' D' C' : Nat → Prop} {xa xb : Et} {Sa Sw : List Int} {ap : Option Addr} {ac : Nat} {K : World → Prop}
    (H : SM Qt Bp w qb rb kb m A C U o fb ea eb A1 res p1 n2 b1 v m' B' D' xa Sa Sw ap ac) (hC : ∀ b, C b → b < w.heap.size) (hCU : ∀ b, C b → U b) (h1 : w.heap.size < fb ∧ fb < ea ∧ ea < eb) (R : RQ Qt v' rb A1 C') (cc : Ch (fun b => C b ∧ ¬ Qt b) v v') (hC' : ∀ b, C' b → C b ∨ v.heap.size ≤ b) (hx : EtE.Ok v' xb) (hxp : xb.pe = res.getD Pz) (hb2 : b2 = res.isSome)
    (hk : ∀ w', SJ Qt Bp w qb rb kb m A.cf U o fb ea eb p1 n2 b1 b2 w' A1 m' B' C' D' xa xb Sa Sw ap ac → K w') :
    Sv.st v' ⟨eb, 0, none⟩ (.int .i64 xb.e.seq) fun w => Sv.st w ⟨eb, 1, none⟩ (.int .i64 xb.e.pri) fun w => Sv.st w ⟨eb, 2, none⟩ (.int .i64 xb.e.exp) fun w => Sv.st w ⟨eb, 3, none⟩ (.bool xb.e.dur) fun w => Sv.st w ⟨eb, 4, none⟩ (.int .i64 xb.e.cnt) fun w => Sv.st w ⟨eb, 5, none⟩ (.int .i64 xb.e.hold) fun w => Sv.st w ⟨eb, 6, none⟩ (.slice xb.e.p xb.e.n xb.e.c) K := by
  have eb1 : blk v' eb = some Ez.e.cells := by rw [cc.blk (blk_lt H.heb) fun h => by have := hC _ h.1; omega]; exact H.heb
  refine reN (e := xb.e) eb1 fun w' beb c' z' => hk w' ?_
  have c2 : Ch (fun b => (C b ∧ ¬ Qt b) ∨ b = eb) v w' := (cc.mono fun b _ h => .inl h).trans' (c'.mono fun b _ h => .inr h)
  have hq := H.q.lt
  have hd := HB.lt H.b
  have ho := EtE.lt H.oa
  have s1 := H.ch.size
  have s2 := cc.size
  have lo : ∀ b, (C b ∧ ¬ Qt b) ∨ b = eb → b ≠ w.heap.size ∧ b ≠ fb ∧ b ≠ ea := fun b h => by
    rcases h with h | h
    · have := hC b h.1; omega
    · omega
  have hCe : ∀ b, C' b → b ≠ eb := fun b hb e => by
    rcases hC' b hb with q | q
    · have := hC b q; omega
    · have := blk_lt H.heb; omega
  refine ⟨⟨H.q.ch c2 fun b hb h => ?_, R.ch c' hCe, HB.ch H.b c2 fun b hb h => ?_, fun b hb h => ?_, H.DB, fun b hb h => ?_, H.qB, H.qD⟩, H.hm, H.cf, ?_, ?_, H.ra.ch c2 fun a ha h0 h => ?_, H.rw.ch c2 fun a ha h0 h => ?_, H.ln, ?_, beb, EtE.ch H.oa c2 fun b hb h => ?_, hx.rd.ch c' fun a ha h0 h => rd_not_entry eb1 hx.rd ha h0 h, H.pe.trans hxp.symm, H.sm, H.bb.trans hb2.symm, H.told, H.ch.trans c2 fun b hb h => ?_, H.xq, fun b hb => ?_, fun b hb h => ?_, fun b hb => ⟨(H.not b hb).1, (H.not b hb).2.1, (H.not b hb).2.2.2⟩⟩
  · rcases h with h | h
    · exact H.BC b hb h.1
    · exact H.notB b hb h
  · rcases h with h | h
    · exact H.DC b hb h.1
    · exact (H.not b (.inl hb)).2.2.1 h
  · rcases hC' b h with q | q
    · exact H.BC b hb q
    · have := hq b hb; omega
  · rcases hC' b h with q | q
    · exact H.DC b hb q
    · have := hd b hb; omega
  · rw [c2.blk (blk_lt H.ba) fun h => (lo _ h).1 rfl]; exact H.ba
  · rw [c2.blk (blk_lt H.bf) fun h => (lo _ h).2.1 rfl]; exact H.bf
  · rcases h with h | h
    · exact (H.apC a ha h0).1 h.1
    · exact (H.apC a ha h0).2 h
  · rcases h with h | h
    · exact (H.p1C a ha h0).1 h.1
    · exact (H.p1C a ha h0).2 h
  · rw [c2.blk (blk_lt H.hea) fun h => (lo _ h).2.2 rfl]; exact H.hea
  · have hb : xa.own = some b := by simpa [EtE, Option.mem_toList] using hb
    rcases h with h | h
    · exact (H.off b hb).2.1 h.1
    · exact (H.not b (.inr hb)).2.2.1 h
  · rcases h with h | h
    · exact ⟨hCU b h.1, h.2⟩
    · omega
  · rcases hb with (h | h | h) | h
    · exact H.up b (.inl h)
    · rcases hC' b h with q | q
      · exact .inl (hCU b q)
      · exact .inr (by omega)
    · exact H.up b (.inr (.inl h))
    · exact H.up b (.inr (.inr h))
  · rcases h with h | h | h
    · exact (H.off b hb).1 h
    · rcases hC' b h with q | q
      · exact (H.off b hb).2.1 q
      · have := H.oa.blt b hb; omega
    · exact (H.off b hb).2.2 h
end Go.Proofs.YtipbbjnmpnfhpaaGreatDoor
namespace Go.Proofs.YtipbbjnmpnfhpaaGreatDoor
open Go Go.Sv Go.Heap Go.Qu Go.MapKept
set_option linter.unusedVariables false
set_option maxRecDepth 4000
theorem kint_info : InfoIs Tryz.prog 3 1 8 (.int .i64 0) := .of (by kernel_rfl) (by kernel_rfl) (by kernel_rfl)
theorem kints_info : InfoIs Tryz.prog 44 1 24 (.slice none 0 0) := .of (by kernel_rfl) (by kernel_rfl) (by kernel_rfl)
theorem kents_info : InfoIs Tryz.prog 24 1 24 (.slice none 0 0) := .of (by kernel_rfl) (by kernel_rfl) (by kernel_rfl)
theorem lpush_ok {w : World} {kb m : Nat} {B : Nat → Prop} {x : SL} {ys : List En} {K : World → Prop} (Hb : BK kb w m B) (o : Ow w x.p x.n x.c 7 (ys.flatMap En.cells) x.own) (hl : ys.length = x.n) (hd : ∀ b, x.own = some b → ¬ B b) (hn : x.n ≤ 2 ^ 40) (hm : m ≤ 2 ^ 35)
    (hk : ∀ w' B', BK kb w' (m + 1) B' → Ch B w w' → (∀ b, B' b → B b ∨ x.own = some b ∨ w.heap.size ≤ b) → K w') :
    ∃ p2 n5 c2, w.cell? ⟨kb, 3, none⟩ = some (.slice p2 n5 c2) ∧ newB w [.slice x.p x.n x.c] 24 fun a2 w6 => ∃ p3 n6 c3 w7, Sem.run Tryz.prog (Builtin.append_ #[36, 36] 36 #[.slice p2 n5 c2, .slice (some a2) 1 1]) w6 = .ok (.slice p3 n6 c3) w7 ∧ Sv.st w7 ⟨kb, 3, none⟩ (.slice p3 n6 c3) fun w8 => K w8 := by
  obtain ⟨k, H, hs, rfl⟩ := Hb
  have hT := hs.T3
  have hold := H.lt
  have hxl := o.blt
  refine ⟨_, _, _, by rw [cell_blk H.b.head]; rfl, ?_⟩
  have r3 := H.r3
  rw [H.n3] at r3 ⊢
  refine push_ok (g := SL.cells) (sz := 1) (bytes := 24) Tryz.underlying36 kents_info rfl SL.cells_len SL.cells_one r3 x (by omega) (by omega) fun p' c' b' w4 o4 n4 c4 => ?_
  have hk4 := H.b.head
  rw [← c4.blk (blk_lt hk4) fun e => by have := H.inj .s3 .head kb e rfl; cases this] at hk4
  refine st_blk hk4 (by simp) fun w5 b5 c5 z5 => ?_
  have cc : Ch (fun b => b = kb ∨ k.s3.own = some b) w w5 := (c4.mono fun b _ h => .inr h).trans' (c5.mono fun b _ h => .inl h)
  let k' : Bk := { k with s3 := ⟨p', (k.T3 ++ [x]).length, c', b'⟩, T3 := k.T3 ++ [x] }
  let P : Slot → Nat → Prop := fun s b => (s = .t3 k.T3.length ∧ x.own = some b) ∨ (s = .s3 ∧ w.heap.size ≤ b)
  have hP : ∀ s b, P s b → ∀ t, ¬ k.has kb t b := fun s b h t ht => by
    have hb := hold b ⟨t, ht⟩
    rcases h with ⟨_, h⟩ | ⟨_, h⟩
    · exact hd b h ⟨t, ht⟩
    · omega
  have hup : ∀ s b, k'.has kb s b → k.has kb s b ∨ P s b := fun s b h => by
    cases s with
    | s3 =>
      rcases n4 b h with q | q
      · exact .inl q
      · exact .inr (.inr ⟨rfl, q⟩)
    | t3 i =>
      obtain ⟨z, hz, hb⟩ := h
      rcases app_at hz with q | ⟨rfl, rfl⟩
      · exact .inl ⟨z, q, hb⟩
      · exact .inr (.inl ⟨rfl, hb⟩)
    | _ => exact .inl h
  have cB : Ch (k.B kb) w w5 := cc.mono fun b _ h => h.elim (fun h => ⟨.head, h⟩) fun h => ⟨.s3, h⟩
  have no : ∀ s b, k.has kb s b → s ≠ .head → s ≠ .s3 → ¬ (b = kb ∨ k.s3.own = some b) := fun s b h h1 h2 e => by
    rcases e with e | e
    · exact h1 (H.inj s .head b h e)
    · exact h2 (H.inj s .s3 b h e)
  have okL : ∀ z ∈ k.L, EtE.Ok w5 z := fun z hz => EtE.ch (H.okL z hz) cc fun b hb => by
    obtain ⟨i, hi⟩ := List.getElem?_of_mem hz
    exact no (.el i) b ⟨z, hi, by simpa [EtE, Option.mem_toList] using hb⟩ nofun nofun
  have okW : ∀ z ∈ k.W, EtE.Ok w5 z := fun z hz => EtE.ch (H.okW z hz) cc fun b hb => by
    obtain ⟨i, hi⟩ := List.getElem?_of_mem hz
    exact no (.ew i) b ⟨z, hi, by simpa [EtE, Option.mem_toList] using hb⟩ nofun nofun
  refine hk w5 (k'.B kb) ⟨k', ⟨⟨?_, H.b.row.ch cc fun b hb => no .l b hb nofun nofun, H.b.row2.ch cc fun b hb => no .w b hb nofun nofun, H.b.n1, H.b.n2, H.b.n3⟩, okL, okW, H.same, o4.ch c5 fun b hb e => ?_, H.r4.ch cc fun b hb => no .s4 b hb nofun nofun, H.r5.ch cc fun b hb => no .s5 b hb nofun nofun, rfl, H.n4, H.n5, fun z hz => ?_, fun j z hz => ⟨(H.t4 j z hz).1.ch cc fun b hb => no (.t4 j) b ⟨z, hz, hb⟩ nofun nofun, (H.t4 j z hz).2⟩, fun j z hz => ⟨(H.t5 j z hz).1.ch cc fun b hb => no (.t5 j) b ⟨z, hz, hb⟩ nofun nofun, (H.t5 j z hz).2⟩, H.l45,
      inj_upd H.inj P hP (fun s t b h h' => ?_) hup⟩, ⟨Nat.le_succ_of_le hs.N, Nat.le_succ_of_le hs.L, by show (k.T3 ++ [x]).length ≤ _; simp; omega, Nat.le_succ_of_le hs.T4, hs.nL, fun z hz => ?_, hs.n4⟩, rfl⟩ cB fun b h => ?_
  · rw [b5]; rfl
  · rcases n4 b hb with q | q
    · exact absurd (H.inj .s3 .head b q e) nofun
    · have := hold kb ⟨.head, rfl⟩; have e : b = kb := e; omega
  · rcases List.mem_append.1 hz with hz | hz
    · obtain ⟨ys', o', hl'⟩ := H.t3 z hz
      obtain ⟨i, hi⟩ := List.getElem?_of_mem hz
      exact ⟨ys', o'.ch cc fun b hb => no (.t3 i) b ⟨z, hi, hb⟩ nofun nofun, hl'⟩
    · rw [List.mem_singleton.1 hz]
      exact ⟨ys, o.ch cB fun b hb => hd b hb, hl⟩
  · rcases h with ⟨rfl, h⟩ | ⟨rfl, h⟩ <;> rcases h' with ⟨rfl, h'⟩ | ⟨rfl, h'⟩ <;> first | rfl | (exfalso; have := hxl b; simp_all; try omega)
  · rcases List.mem_append.1 hz with hz | hz
    · exact hs.n3 z hz
    · rw [List.mem_singleton.1 hz]; exact hn
  · obtain ⟨s, h⟩ := h
    rcases hup s b h with q | ⟨_, q⟩ | ⟨_, q⟩
    · exact .inl ⟨s, q⟩
    · exact .inr (.inl q)
    · exact .inr (.inr q)
theorem tnum_ok {w : World} {kb m : Nat} {B : Nat → Prop} {x : SL} {S : List Int} {K : Value → World → Prop} (Hb : BK kb w m B) (o : Ow w x.p x.n x.c 1 (S.flatMap iC) x.own) (hl : S.length = x.n) (hd : ∀ b, x.own = some b → ¬ B b) (hn : x.n ≤ 2 ^ 40) (hm : m ≤ 2 ^ 35)
    (hk : ∀ w' B', BK kb w' (m + 1) B' → Ch B w w' → (∀ b, B' b → B b ∨ x.own = some b ∨ w.heap.size ≤ b) → K (.tuple #[]) w') :
    callP Tryz.prog 39 [.pointer (some ⟨kb, 0, none⟩), .slice x.p x.n x.c] w K := by
  obtain ⟨k, H, hs, rfl⟩ := Hb
  have hT := hs.T4
  have hT5 := H.l45
  have hold := H.lt
  have hxl := o.blt
  refine ok_longshorelaw17_book_takeNumbers ?_
  unfold wp_longshorelaw17_book_takeNumbers
  refine ⟨fun mm p n c i w1 => ∃ (j : Nat) (ow : Option Nat), i = (j : Int) ∧ j ≤ x.n ∧ mm = x.n - j ∧ n = j ∧ Ow w1 p j c 1 ((S.take j).flatMap iC) ow ∧ (∀ b, ow = some b → w.heap.size ≤ b) ∧ Ch (fun _ => False) w w1, ⟨x.n, 0, none, rfl, Nat.zero_le _, rfl, rfl, by simpa using Ow.nil, (fun b hb => by cases hb), Ch.refl _ _⟩, ?_⟩
  rintro mm p n c i w1 ⟨j, ow, rfl, hj, rfl, rfl, o1, how, c1⟩
  refine Sif_cases (fun hlt => ?_) fun hge => ?_
  · have hlt : n < x.n := by have := of_decide_eq_true hlt; omega
    have hjl : n < S.length := by omega
    have hy : S[n]? = some (S[n]'hjl) := List.getElem?_eq_getElem hjl
    obtain ⟨kx, ox, hp, hc⟩ := (o.ch c1 fun _ _ => id).rd.at iC_len hy (by decide)
    rw [hp]
    simp only [nn_some, add_at, Int.toNat_natCast]
    refine ⟨by omega, by omega, _, hc 0 _ rfl, ?_⟩
    have e1 : (S.take n).length = n := by rw [List.length_take]; omega
    have e2 : S.take n ++ [S[n]'hjl] = S.take (n + 1) := List.take_append_getElem hjl
    have o1' : Ow w1 p (S.take n).length c 1 ((S.take n).flatMap iC) ow := by rw [e1]; exact o1
    have key := push_ok (g := iC) (sz := 1) (bytes := 8) (ty := 44) (te := 3) Tryz.underlying44 kint_info rfl iC_len iC_one o1' (S[n]'hjl) (by omega) (by omega) (K := fun p1 n3 c1 w3 => nameI (IntKind.wrap .i64 ((n : Int) + 1)) fun n4 => ∃ m', m' < x.n - n ∧ (∃ (j : Nat) (ow : Option Nat), n4 = (j : Int) ∧ j ≤ x.n ∧ m' = x.n - j ∧ n3 = j ∧ Ow w3 p1 j c1 1 ((S.take j).flatMap iC) ow ∧ (∀ b, ow = some b → w.heap.size ≤ b) ∧ Ch (fun _ => False) w w3)) fun p' c' b' w4 o4 n4 c4 => by
      rw [nameI_iff, wrap_id (by omega) (by omega)]
      have e3 : (S.take n ++ [S[n]'hjl]).length = n + 1 := by rw [e2, List.length_take]; omega
      rw [e3] at o4 ⊢
      rw [e2] at o4
      refine ⟨x.n - (n + 1), by omega, n + 1, b', rfl, hlt, rfl, rfl, o4, fun b hb => ?_, c1.trans c4 fun b hb h => by have := how b h; omega⟩
      rcases n4 b hb with q | q
      · exact how b q
      · have := c1.size; omega
    rw [e1] at key
    exact key
  · have hje : n = x.n := by have := of_decide_eq_false hge; omega
    subst hje
    rw [List.take_of_length_le (by omega)] at o1
    have H1 := H.ch c1 fun _ _ => id
    have ox1 := o.ch c1 fun _ _ => id
    have hs1 := c1.size
    have hold1 := H1.lt
    simp only [nn_some, add_at, Nat.zero_add]
    refine ⟨_, _, _, by rw [cell_blk H1.b.head]; rfl, ?_⟩
    have r4 := H1.r4
    rw [H.n4] at r4 ⊢
    refine push_ok (g := SL.cells) (sz := 1) (bytes := 24) Tryz.underlying37 kints_info rfl SL.cells_len SL.cells_one r4 x (by omega) (by omega) fun p4 c4' b4' w4 o4 n4 c4 => ?_
    have hk4 := H1.b.head
    rw [← c4.blk (blk_lt hk4) fun e => by have := H.inj .s4 .head kb e rfl; cases this] at hk4
    refine st_blk hk4 (by simp) fun w5 b5 c5 z5 => ?_
    have cc5 : Ch (fun b => b = kb ∨ k.s4.own = some b) w1 w5 := (c4.mono fun b _ h => .inr h).trans' (c5.mono fun b _ h => .inl h)
    refine ⟨_, _, _, by rw [cell_blk b5]; rfl, ?_⟩
    have no5 : ∀ s b, k.has kb s b → s ≠ .head → s ≠ .s4 → ¬ (b = kb ∨ k.s4.own = some b) := fun s b h h1 h2 e => by
      rcases e with e | e
      · exact h1 (H.inj s .head b h e)
      · exact h2 (H.inj s .s4 b h e)
    have r5 := H1.r5.ch cc5 fun b hb => no5 .s5 b hb nofun nofun
    rw [H.n5] at r5 ⊢
    let y : SL := ⟨p, x.n, c, ow⟩
    refine push_ok (g := SL.cells) (sz := 1) (bytes := 24) Tryz.underlying37 kints_info rfl SL.cells_len SL.cells_one r5 y (by omega) (by omega) fun p6 c6' b6' w6 o6 n6 c6 => ?_
    have hk6 := b5
    rw [← c6.blk (blk_lt hk6) fun e => by have := H.inj .s5 .head kb e rfl; cases this] at hk6
    refine st_blk hk6 (by simp) fun w7 b7 c7 z7 => ?_
    have cc7 : Ch (fun b => b = kb ∨ k.s5.own = some b) w5 w7 := (c6.mono fun b _ h => .inr h).trans' (c7.mono fun b _ h => .inl h)
    have cc : Ch (fun b => b = kb ∨ k.s4.own = some b ∨ k.s5.own = some b) w1 w7 := (cc5.mono fun b _ h => h.imp id .inl).trans' (cc7.mono fun b _ h => h.imp id .inr)
    have no : ∀ s b, k.has kb s b → s ≠ .head → s ≠ .s4 → s ≠ .s5 → ¬ (b = kb ∨ k.s4.own = some b ∨ k.s5.own = some b) := fun s b h h1 h2 h3 e => by
      rcases e with e | e | e
      · exact h1 (H.inj s .head b h e)
      · exact h2 (H.inj s .s4 b h e)
      · exact h3 (H.inj s .s5 b h e)
    have hs5 := cc5.size
    have how1 : ∀ b, ow = some b → b < w1.heap.size := o1.blt
    have hb4 : ∀ b, b4' = some b → b < w5.heap.size := fun b hb => by have := o4.blt b hb; omega
    let k' : Bk := { k with s4 := ⟨p4, (k.T4 ++ [x]).length, c4', b4'⟩, T4 := k.T4 ++ [x], s5 := ⟨p6, (k.T5 ++ [y]).length, c6', b6'⟩, T5 := k.T5 ++ [y], C := fun j => if j = k.T4.length then S else k.C j }
    let P : Slot → Nat → Prop := fun s b => (s = .t4 k.T4.length ∧ x.own = some b) ∨ (s = .t5 k.T5.length ∧ w.heap.size ≤ b ∧ b < w1.heap.size) ∨ (s = .s4 ∧ w1.heap.size ≤ b ∧ b < w5.heap.size) ∨ (s = .s5 ∧ w5.heap.size ≤ b)
    have hP : ∀ s b, P s b → ∀ t, ¬ k.has kb t b := fun s b h t ht => by
      have hb := hold b ⟨t, ht⟩
      rcases h with ⟨_, h⟩ | ⟨_, h, _⟩ | ⟨_, h, _⟩ | ⟨_, h⟩
      · exact hd b h ⟨t, ht⟩
      · omega
      · omega
      · omega
    have hup : ∀ s b, k'.has kb s b → k.has kb s b ∨ P s b := fun s b h => by
      cases s with
      | s4 =>
        rcases n4 b h with q | q
        · exact .inl q
        · exact .inr (.inr (.inr (.inl ⟨rfl, q, hb4 b h⟩)))
      | s5 =>
        rcases n6 b h with q | q
        · exact .inl q
        · exact .inr (.inr (.inr (.inr ⟨rfl, q⟩)))
      | t4 i =>
        obtain ⟨z, hz, hb⟩ := h
        rcases app_at hz with q | ⟨rfl, rfl⟩
        · exact .inl ⟨z, q, hb⟩
        · exact .inr (.inl ⟨rfl, hb⟩)
      | t5 i =>
        obtain ⟨z, hz, hb⟩ := h
        rcases app_at hz with q | ⟨rfl, rfl⟩
        · exact .inl ⟨z, q, hb⟩
        · exact .inr (.inr (.inl ⟨rfl, how b hb, how1 b hb⟩))
      | _ => exact .inl h
    have cB : Ch (k.B kb) w1 w7 := cc.mono fun b _ h => by
      rcases h with h | h | h
      · exact ⟨.head, h⟩
      · exact ⟨.s4, h⟩
      · exact ⟨.s5, h⟩
    have okL : ∀ z ∈ k.L, EtE.Ok w7 z := fun z hz => EtE.ch (H1.okL z hz) cc fun b hb => by
      obtain ⟨i, hi⟩ := List.getElem?_of_mem hz
      exact no (.el i) b ⟨z, hi, by simpa [EtE, Option.mem_toList] using hb⟩ nofun nofun nofun
    have okW : ∀ z ∈ k.W, EtE.Ok w7 z := fun z hz => EtE.ch (H1.okW z hz) cc fun b hb => by
      obtain ⟨i, hi⟩ := List.getElem?_of_mem hz
      exact no (.ew i) b ⟨z, hi, by simpa [EtE, Option.mem_toList] using hb⟩ nofun nofun nofun
    have oy : Ow w7 p x.n c 1 (S.flatMap iC) ow := o1.ch cB fun b hb h => by have := hold b h; have := how b hb; omega
    have ox7 : Ow w7 x.p x.n x.c 1 (S.flatMap iC) x.own := ox1.ch cB fun b hb h => hd b hb h
    have rw4 : ∀ j, j < k.T4.length → k'.C j = k.C j := fun j hj => if_neg (by omega)
    have rwn : k'.C k.T4.length = S := if_pos rfl
    refine hk w7 (k'.B kb) ⟨k', ⟨⟨?_, H1.b.row.ch cc fun b hb => no .l b hb nofun nofun nofun, H1.b.row2.ch cc fun b hb => no .w b hb nofun nofun nofun, H.b.n1, H.b.n2, H.b.n3⟩, okL, okW, H.same, H1.r3.ch cc fun b hb => no .s3 b hb nofun nofun nofun, (o4.ch c5 fun b hb e => ?_).ch cc7 fun b hb e => ?_, o6.ch c7 fun b hb e => ?_, H.n3, rfl, rfl, fun z hz => ?_, fun j z hz => ?_, fun j z hz => ?_, by show (k.T4 ++ [x]).length = (k.T5 ++ [y]).length; simp [H.l45],
        inj_upd H.inj P hP (fun s t b h h' => ?_) hup⟩, ⟨Nat.le_succ_of_le hs.N, Nat.le_succ_of_le hs.L, Nat.le_succ_of_le hs.T3, by show (k.T4 ++ [x]).length ≤ _; simp; omega, hs.nL, hs.n3, fun z hz => ?_⟩, rfl⟩ ((c1.mono fun _ _ h => h.elim).trans' cB) fun b h => ?_
    · rw [b7]; rfl
    · rcases n4 b hb with q | q
      · exact absurd (H.inj .s4 .head b q e) nofun
      · have := hold kb ⟨.head, rfl⟩; have e : b = kb := e; omega
    · rcases e with e | e
      · rcases n4 b hb with q | q
        · exact absurd (H.inj .s4 .head b q e) nofun
        · have := hold kb ⟨.head, rfl⟩; omega
      · rcases n4 b hb with q | q
        · exact absurd (H.inj .s4 .s5 b q e) nofun
        · have := hold b ⟨.s5, e⟩; omega
    · rcases n6 b hb with q | q
      · exact absurd (H.inj .s5 .head b q e) nofun
      · have := hold kb ⟨.head, rfl⟩; have e : b = kb := e; omega
    · obtain ⟨ys', o', hl'⟩ := H1.t3 z hz
      obtain ⟨i, hi⟩ := List.getElem?_of_mem hz
      exact ⟨ys', o'.ch cc fun b hb => no (.t3 i) b ⟨z, hi, hb⟩ nofun nofun nofun, hl'⟩
    · rcases app_at hz with q | ⟨rfl, rfl⟩
      · rw [rw4 j (List.getElem?_eq_some_iff.1 q).1]
        exact ⟨(H1.t4 j z q).1.ch cc fun b hb => no (.t4 j) b ⟨z, q, hb⟩ nofun nofun nofun, (H1.t4 j z q).2⟩
      · rw [rwn]; exact ⟨ox7, hl⟩
    · rcases app_at hz with q | ⟨rfl, rfl⟩
      · rw [rw4 j (by have := (List.getElem?_eq_some_iff.1 q).1; omega)]
        exact ⟨(H1.t5 j z q).1.ch cc fun b hb => no (.t5 j) b ⟨z, q, hb⟩ nofun nofun nofun, (H1.t5 j z q).2⟩
      · rw [← H.l45, rwn]; exact ⟨oy, hl⟩
    · rcases h with ⟨rfl, h⟩ | ⟨rfl, h⟩ | ⟨rfl, h⟩ | ⟨rfl, h⟩ <;> rcases h' with ⟨rfl, h'⟩ | ⟨rfl, h'⟩ | ⟨rfl, h'⟩ | ⟨rfl, h'⟩ <;> first | rfl | (exfalso; have := hxl b; simp_all; try omega)
    · rcases List.mem_append.1 hz with hz | hz
      · exact hs.n4 z hz
      · rw [List.mem_singleton.1 hz]; exact hn
    · obtain ⟨s, h⟩ := h
      rcases hup s b h with q | ⟨_, q⟩ | ⟨_, q⟩ | ⟨_, q⟩ | ⟨_, q⟩
      · exact .inl ⟨s, q⟩
      · exact .inr (.inl q)
      · exact .inr (.inr q.1)
      · exact .inr (.inr (by omega))
      · exact .inr (.inr (by omega))
end Go.Proofs.YtipbbjnmpnfhpaaGreatDoor
namespace Go.Sv
open Go
set_option linter.unusedVariables false
theorem Gs.keep {α : Type} {g : α → List Value} {sz : Nat} {Good : World → (Nat → Prop) → Nat → α → Prop} {P : Program} {LT ty e te : TypeId} {bytes : Nat} {z : Value} (hT : P.underlying LT = some (.slice e)) (hi : InfoIs P e 1 bytes z) (hzs : z.cells.size = 1) (hst : Stays Good)
    {w0 w : World} {T : List SL} {i : Nat} {gp : Option Addr} {gc : Nat} {gb : Option Nat} {G : List SL} {lab : Nat → Nat} (h : Gs g sz Good w0 w T i gp gc gb G lab) {j : Nat} {x : SL} (hj : j < i) (hx : T[j]? = some x) (hlab : lab G.length = j) (hsm : x.n ≤ 2 ^ 60) (hpl : ∀ a : Addr, x.p = some a → x.n * sz ≠ 0 → (∃ y ∈ T, y.own = some a.block) ∨ w0.heap.size ≤ a.block)
    (hn : G.length + 1 ≤ 2 ^ 47) (hb : (G.length + 1) * bytes ≤ 2 ^ 47) {K : Option Addr → Nat → Nat → World → Prop}
    (hk : ∀ gp' gc' gb' w', Gs g sz Good w0 w' T i gp' gc' gb' (G ++ [x]) lab → K gp' (G.length + 1) gc' w') :
    newB w [.slice x.p x.n x.c] te fun a w2 => ∃ p5 n7 c5 w3, Sem.run P (Builtin.append_ #[LT, LT] ty #[.slice gp G.length gc, .slice (some a) 1 1]) w2 = .ok (.slice p5 n7 c5) w3 ∧ K p5 n7 c5 w3 := by
  have hw0 := h.b.ch.size
  have hrl : ∀ j y, T[j]? = some y → i ≤ j → ∀ b, y.own = some b → b < w.heap.size := fun j y hj hij b hb => by
    obtain ⟨ys, g1, _⟩ := h.b.rest j y hj hij
    exact g1.blt b hb
  refine push_ok (g := SL.cells) hT hi hzs SL.cells_len SL.cells_one h.b.grown x hn hb fun p' c' b' w' o' n' hch => ?_
  have bz2 : ∀ b, Busy T i none b' b → Busy T i none gb b ∨ w.heap.size ≤ b := fun b hbz => by
    rcases hbz with q | q | q
    · cases q
    · rcases n' b q with q | q
      · exact .inl (.inr (.inl q))
      · exact .inr q
    · exact .inl (.inr (.inr q))
  have bz : ∀ b, b < w.heap.size → Busy T i none b' b → Busy T i none gb b := fun b hlt hbz => (bz2 b hbz).resolve_right (by omega)
  have hchB : Ch (Busy T i none gb) w w' := hch.mono fun b _ q => .inr (.inl q)
  have e : (G ++ [x]).length = G.length + 1 := by simp
  rw [e] at o' ⊢
  have last : ∀ (k : Nat) (y : SL), (G ++ [x])[k]? = some y → G[k]? = some y ∨ (k = G.length ∧ y = x) := fun k y hk' => by
    by_cases hkl : k < G.length
    · rw [List.getElem?_append_left hkl] at hk'; exact .inl hk'
    · have hkl2 := (List.getElem?_eq_some_iff.1 hk').1
      have hk3 : k = G.length := by simp at hkl2; omega
      subst hk3
      rw [List.getElem?_append_right (Nat.le_refl _), Nat.sub_self] at hk'
      exact .inr ⟨rfl, (Option.some.inj hk').symm⟩
  have mv : ∀ (k : Nat) (y : SL), (∃ ys : List α, Rd w y.p y.n sz (ys.flatMap g) ∧ ys.length = y.n ∧ (∀ z ∈ ys, Good w (Busy T i none gb) k z) ∧ ∀ a, y.p = some a → y.n * sz ≠ 0 → ¬ Busy T i none gb a.block) →
      ∃ ys : List α, Rd w' y.p y.n sz (ys.flatMap g) ∧ ys.length = y.n ∧ (∀ z ∈ ys, Good w' (Busy T i none b') k z) ∧ ∀ a, y.p = some a → y.n * sz ≠ 0 → ¬ Busy T i none b' a.block := by
    rintro k y ⟨ys, g1, g2, g3, g4⟩
    refine ⟨ys, g1.ch hch fun a ha hn0 q => g4 a ha hn0 (.inr (.inl q)), g2, fun z hz => hst.ch (g3 z hz) hchB bz, fun a ha hn0 hbz => ?_⟩
    have hal := g1.lt a ha hn0
    exact g4 a ha hn0 (bz _ hal hbz)
  refine hk p' c' b' w' ⟨⟨fun j y hj hij => ?_, by rw [e]; exact o', (fun b hbb => by cases hbb), fun b hbb j y hj hij => ?_, h.b.rr, fun b hbz => ?_, fun b hbb => ?_, fun k y hk' => ?_, fun k y hk' => ?_, h.b.ch.trans hch fun b hlt q => ?_⟩, fun k y hk' => ?_, fun k y hki hk' => mv k y (h.own k y hki hk')⟩
  · obtain ⟨ys, g1, g2, g3⟩ := h.b.rest j y hj hij
    exact ⟨ys, g1.ch hch fun b hb q => h.b.gr b q j y hj hij hb, g2, fun z hz => hst.ch (g3 z hz) hchB bz⟩
  · rcases n' b hbb with q | q
    · exact h.b.gr b q j y hj hij
    · intro e; have := hrl j y hj hij b e; omega
  · rcases bz2 b hbz with q | q
    · exact h.b.loc b q
    · exact .inr (by omega)
  · rcases n' b hbb with q | q
    · exact h.b.gnew b q
    · omega
  · rcases last k y hk' with q | ⟨rfl, rfl⟩
    · exact h.b.place k y q
    · exact hpl
  · rcases last k y hk' with q | ⟨rfl, rfl⟩
    · exact h.b.small k y q
    · exact hsm
  · have := h.b.gnew b q; omega
  · rcases last k y hk' with q | ⟨rfl, rfl⟩
    · exact mv _ _ (h.read k y q)
    · rw [hlab]; exact mv _ _ (h.own j y hj hx)
end Go.Sv
namespace Go.Proofs.YtipbbjnmpnfhpaaGreatDoor
open Go Go.Sv Go.Heap Go.Qu Go.MapKept
set_option linter.unusedVariables false
set_option maxRecDepth 4000
abbrev OwnS (T : List SL) (b : Nat) : Prop := ∃ x ∈ T, x.own = some b
def mkE (j : Nat) : En := ⟨-1000 - (j : Int), 0, 0, false, 0, 0, none, 0, 0⟩
def goodE : World → (Nat → Prop) → Nat → En → Prop := fun _ _ j y => y = mkE j
theorem goodE_st : Stays goodE := ⟨fun h _ _ => h⟩
/-- an entry is written into a row -/
theorem ow_st7 {w : World} {p : Option Addr} {n c : Nat} {own : Option Nat} {L : List En} (h : Ow w p n c 7 (L.flatMap En.cells) own) (hl : L.length = n) {k : Nat} {y : En} (hy : L[k]? = some y) :
    ∃ kb o, p = some ⟨kb, o, none⟩ ∧ own = some kb ∧ ∀ (e : En) (K : World → Prop), (∀ w', Ow w' p n c 7 ((L.set k e).flatMap En.cells) own → Ch (· = kb) w w' → w'.heap.size = w.heap.size → K w') →
      Sv.st w ⟨kb, o + k * 7, none⟩ (.int .i64 e.seq) fun w => Sv.st w ⟨kb, o + k * 7 + 1, none⟩ (.int .i64 e.pri) fun w => Sv.st w ⟨kb, o + k * 7 + 2, none⟩ (.int .i64 e.exp) fun w => Sv.st w ⟨kb, o + k * 7 + 3, none⟩ (.bool e.dur) fun w => Sv.st w ⟨kb, o + k * 7 + 4, none⟩ (.int .i64 e.cnt) fun w => Sv.st w ⟨kb, o + k * 7 + 5, none⟩ (.int .i64 e.hold) fun w => Sv.st w ⟨kb, o + k * 7 + 6, none⟩ (.slice e.p e.n e.c) K := by
  have hkl := (List.getElem?_eq_some_iff.1 hy).1
  have hmul : (k + 1) * 7 ≤ n * 7 := Nat.mul_le_mul_right _ (by omega)
  obtain ⟨kb, o, hp, hb, _⟩ := h.st (i := k * 7) (by omega)
  refine ⟨kb, o, hp, hb, fun e K hK => ?_⟩
  have step : ∀ (w1 : World) (L1 : List En) (y1 : En) (j : Nat) (v : Value) (y' : En) (K1 : World → Prop), Ow w1 p n c 7 (L1.flatMap En.cells) own → L1[k]? = some y1 → j < 7 → y'.cells = y1.cells.set j v → (∀ w', Ow w' p n c 7 ((L1.set k y').flatMap En.cells) own → Ch (· = kb) w1 w' → w'.heap.size = w1.heap.size → K1 w') → Sv.st w1 ⟨kb, o + k * 7 + j, none⟩ v K1 := fun w1 L1 y1 j v y' K1 ho hy1 hj he hK1 => by
    obtain ⟨kb', o', hp', _, hst⟩ := ho.st (i := k * 7 + j) (by omega)
    rw [hp] at hp'; cases hp'
    rw [Nat.add_assoc]
    refine hst v K1 fun w' ho' hc hz => hK1 w' ?_ hc hz
    rw [flat_set En.cells_len L1 k j v hy1 hj he] at ho'
    exact ho'
  have hset : ∀ (L1 : List En) (y' : En), L1.length = L.length → (L1.set k y')[k]? = some y' := fun L1 y' h => List.getElem?_set_self (by omega)
  refine step w L y 0 _ { y with seq := e.seq } _ h hy (by decide) rfl fun w1 o1 c1 z1 => ?_
  refine step w1 _ _ 1 _ { y with seq := e.seq, pri := e.pri } _ o1 (hset L _ rfl) (by decide) rfl fun w2 o2 c2 z2 => ?_
  rw [List.set_set] at o2
  refine step w2 _ _ 2 _ { y with seq := e.seq, pri := e.pri, exp := e.exp } _ o2 (hset L _ rfl) (by decide) rfl fun w3 o3 c3 z3 => ?_
  rw [List.set_set] at o3
  refine step w3 _ _ 3 _ { y with seq := e.seq, pri := e.pri, exp := e.exp, dur := e.dur } _ o3 (hset L _ rfl) (by decide) rfl fun w4 o4 c4 z4 => ?_
  rw [List.set_set] at o4
  refine step w4 _ _ 4 _ { y with seq := e.seq, pri := e.pri, exp := e.exp, dur := e.dur, cnt := e.cnt } _ o4 (hset L _ rfl) (by decide) rfl fun w5 o5 c5 z5 => ?_
  rw [List.set_set] at o5
  refine step w5 _ _ 5 _ { y with seq := e.seq, pri := e.pri, exp := e.exp, dur := e.dur, cnt := e.cnt, hold := e.hold } _ o5 (hset L _ rfl) (by decide) rfl fun w6 o6 c6 z6 => ?_
  rw [List.set_set] at o6
  refine step w6 _ _ 6 _ e _ o6 (hset L _ rfl) (by decide) rfl fun w7 o7 c7 z7 => ?_
  rw [List.set_set] at o7
  exact hK w7 o7 ((((((c1.trans' c2).trans' c3).trans' c4).trans' c5).trans' c6).trans' c7) (by omega)
theorem all_set {α : Type} {L : List α} {n : Nat} {y : α} (hl : L.length = n) (h : ∀ (k : Nat) (z : α), k < n → L[k]? = some z → z = y) : ∀ z ∈ L, z = y := fun z hz => by
  obtain ⟨k, hk⟩ := List.getElem?_of_mem hz
  exact h k z (by have := (List.getElem?_eq_some_iff.1 hk).1; omega) hk
/-- what a pass over rows meets -/
structure Passes (w : World) (kb off : Nat) (p : Option Addr) (c : Nat) (T : List SL) : Prop where
  hdr : ∀ w', Ch (OwnS T) w w' → w'.cell? ⟨kb, off, none⟩ = some (.slice p T.length c)
  row : ∀ w', Ch (OwnS T) w w' → Rd w' p T.length 1 (T.flatMap SL.cells)
  nd : ∀ (j k : Nat) (x y : SL) (b : Nat), j ≠ k → T[j]? = some x → T[k]? = some y → x.own = some b → y.own ≠ some b
  len : T.length ≤ 2 ^ 35
  small : ∀ x ∈ T, x.n ≤ 2 ^ 40
theorem Passes.at {w w' : World} {kb off : Nat} {p : Option Addr} {c : Nat} {T : List SL} (H : Passes w kb off p c T) (cc : Ch (OwnS T) w w') {i : Nat} {x : SL} (hx : T[i]? = some x) : ∃ k o, p = some ⟨k, o, none⟩ ∧ w'.cell? ⟨k, o + i, none⟩ = some (.slice x.p x.n x.c) := SL.at (H.row w' cc) hx
theorem own_pl {w : World} {x : SL} {sz : Nat} {xs : List Value} (h : Ow w x.p x.n x.c sz xs x.own) {a : Addr} (ha : x.p = some a) (h0 : x.n * sz ≠ 0) : x.own = some a.block := by
  obtain ⟨_, q2, q3⟩ := h
  rcases q3 with ⟨_, q3⟩ | ⟨k2, o, cs, e4, e5, _⟩
  · have h5 : x.n * sz ≤ x.c * sz := Nat.mul_le_mul_right _ q2
    omega
  · rw [e5] at ha; cases ha; exact e4
set_option maxHeartbeats 2000000 in
theorem lists_ok {w : World} {kb : Nat} {p : Option Addr} {c : Nat} {T : List SL} {C : Nat → List En} {K : Value → World → Prop} (H : Passes w kb 3 p c T) (hr : Rws En.cells 7 w T C) (hk : ∀ w', Ch (OwnS T) w w' → K (.bool true) w') :
    callP Tryz.prog 45 [.pointer (some ⟨kb, 0, none⟩)] w K := by
  have hT := H.len
  refine ok_longshorelaw17_book_lists ?_
  unfold wp_longshorelaw17_book_lists
  simp only [nn_some, add_at, Nat.zero_add]
  refine ⟨fun m i w' => ∃ (j : Nat) (D : Nat → List En), i = (j : Int) ∧ j ≤ T.length ∧ m = T.length - j ∧ Ch (OwnS T) w w' ∧ Rws En.cells 7 w' T D ∧ ∀ q, q < j → ∀ y ∈ D q, y = mkE q, ⟨T.length, 0, C, rfl, Nat.zero_le _, rfl, Ch.refl _ _, hr, fun q hq => by omega⟩, ?_⟩
  rintro m i wA ⟨j, D, rfl, hj, rfl, cA, rA, gA⟩
  refine ⟨_, _, _, H.hdr wA cA, Sif_cases (fun hlt => ?_) fun hge => ?_⟩
  · have hjl : j < T.length := by have := of_decide_eq_true hlt; omega
    have hlt' : (j : Int) < T.length := by omega
    obtain ⟨x, hx⟩ : ∃ x, T[j]? = some x := ⟨_, List.getElem?_eq_getElem hjl⟩
    have hxn := H.small x (List.mem_of_getElem? hx)
    refine ⟨fun m i w' => ∃ (k : Nat) (D2 : Nat → List En), i = (k : Int) ∧ k ≤ x.n ∧ m = x.n - k ∧ Ch (OwnS T) w w' ∧ Rws En.cells 7 w' T D2 ∧ (∀ q, q < j → ∀ y ∈ D2 q, y = mkE q) ∧ ∀ q y, q < k → (D2 j)[q]? = some y → y = mkE j, ⟨x.n, 0, D, rfl, Nat.zero_le _, rfl, cA, rA, gA, fun q y hq => by omega⟩, ?_⟩
    rintro m i wB ⟨k, D2, rfl, hk1, rfl, cB, rB, gB, gBj⟩
    refine ⟨_, _, _, H.hdr wB cB, by omega, hlt', ?_⟩
    obtain ⟨xk, xo, hpp, hc⟩ := H.at cB hx
    rw [hpp]
    simp only [nn_some, add_at, Int.toNat_natCast, Nat.mul_one]
    refine ⟨_, _, _, hc, Sif_cases (fun hk2 => ?_) fun hk2 => ?_⟩
    · have hk2' : k < x.n := by have := of_decide_eq_true hk2; omega
      refine ⟨_, _, _, by rw [H.hdr wB cB, hpp], by omega, hlt', ?_⟩
      simp only [nn_some, add_at, Int.toNat_natCast, Nat.mul_one]
      refine ⟨_, _, _, hc, by omega, by omega, ?_⟩
      obtain ⟨hoB, hlB⟩ := rB j x hx
      obtain ⟨y, hy⟩ : ∃ y, (D2 j)[k]? = some y := ⟨_, List.getElem?_eq_getElem (by omega)⟩
      obtain ⟨vb, vo, hp, hown, hst⟩ := ow_st7 hoB hlB hy
      rw [hp]
      simp only [nn_some, add_at, Nat.add_zero]
      rw [wrap_id (n := -1000 - (j : Int)) (by omega) (by omega)]
      refine hst (mkE j) _ fun wC oC cC zC => ?_
      have hvb : OwnS T vb := ⟨x, List.mem_of_getElem? hx, hown⟩
      rw [wrap_id (by omega) (by omega), nameI_iff]
      refine ⟨x.n - (k + 1), by omega, k + 1, fun q => if q = j then (D2 j).set k (mkE j) else D2 q, by omega, by omega, rfl, cB.trans' (cC.mono fun b _ e => e ▸ hvb), fun q z hz => ?_, fun q hq y hy => ?_, fun q y hq hy => ?_⟩
      · by_cases e : q = j
        · subst e
          rw [hx] at hz
          have : z = x := (Option.some.inj hz).symm
          subst this
          simp only [if_pos]
          exact ⟨oC, by simpa using hlB⟩
        · simp only [if_neg e]
          obtain ⟨q1, q2⟩ := rB q z hz
          exact ⟨q1.ch cC fun b hb' e' => H.nd j q x z vb (fun h => e h.symm) hx hz hown (by rw [← e']; exact hb'), q2⟩
      · have hy : y ∈ (if q = j then (D2 j).set k (mkE j) else D2 q) := hy
        rw [if_neg (by omega)] at hy
        exact gB q hq y hy
      · simp only [if_pos] at hy
        rw [List.getElem?_set] at hy
        by_cases e : k = q
        · rw [if_pos e, if_pos (by omega)] at hy
          exact (Option.some.inj hy).symm
        · rw [if_neg e] at hy
          exact gBj q y (by omega) hy
    · have hk2' : ¬ k < x.n := by have := of_decide_eq_false hk2; omega
      rw [wrap_id (by omega) (by omega), nameI_iff]
      refine ⟨T.length - (j + 1), by omega, j + 1, D2, by omega, by omega, rfl, cB, rB, fun q hq y hy => ?_⟩
      by_cases hqj : q = j
      · subst hqj
        exact all_set (rB q x hx).2 (fun k' z hk' hz => gBj k' z (by omega) hz) y hy
      · exact gB q (by omega) y hy
  obtain rfl : j = T.length := by have := of_decide_eq_false hge; omega
  -- all are grown, and kept
  have S0 : Gs En.cells 7 goodE wA wA T 0 none 0 none [] (fun k => k / 9) := Gs.begin _ (fun j x hx => ⟨D j, (rA j x hx).1, (rA j x hx).2, fun y hy => gA j (List.getElem?_eq_some_iff.1 hx).1 y hy⟩) H.nd
  refine ⟨fun m p n c i w3 => ∃ (j : Nat) (gb : Option Nat) (G : List SL), i = (j : Int) ∧ j ≤ T.length ∧ m = T.length - j ∧ n = G.length ∧ Gs En.cells 7 goodE wA w3 T j p c gb G (fun k => k / 9) ∧ G.length = 9 * j, ⟨T.length, 0, none, [], rfl, Nat.zero_le _, rfl, rfl, S0, rfl⟩, ?_⟩
  rintro m pg ng cg i wC ⟨j, gb, G, rfl, hj2, rfl, rfl, SC, hG⟩
  have cC : Ch (OwnS T) w wC := cA.trans' SC.b.ch
  refine ⟨_, _, _, H.hdr wC cC, Sif_cases (fun hlt => ?_) fun hge2 => ?_⟩
  · have hjl : j < T.length := by have := of_decide_eq_true hlt; omega
    have hlt' : (j : Int) < T.length := by omega
    obtain ⟨x, hx⟩ : ∃ x, T[j]? = some x := ⟨_, List.getElem?_eq_getElem hjl⟩
    have hxn := H.small x (List.mem_of_getElem? hx)
    obtain ⟨xk, xo, hpp, hc⟩ := H.at cC hx
    refine ⟨_, _, _, H.hdr wC cC, by omega, hlt', ?_⟩
    rw [hpp]
    simp only [nn_some, add_at, Int.toNat_natCast, Nat.mul_one]
    refine ⟨_, _, _, hc, ?_⟩
    obtain ⟨xs0, R0⟩ := SC.start goodE_st hx
    refine ⟨fun m pg ng cg pl nl cl i w4 => ∃ (k : Nat) (cur : SL) (xs : List En) (gb : Option Nat) (G : List SL), i = (k : Int) ∧ k ≤ 8 ∧ m = 8 - k ∧ pl = cur.p ∧ nl = cur.n ∧ cl = cur.c ∧ ng = G.length ∧ Gr En.cells 7 goodE wA w4 T j cur xs pg cg gb G (fun k => k / 9) ∧ G.length = 9 * j + k ∧ cur.n ≤ x.n + k,
      ⟨8, 0, x, xs0, gb, G, rfl, by omega, rfl, rfl, rfl, rfl, rfl, R0, by omega, by omega⟩, ?_⟩
    rintro m pg ng cg pl nl cl i w4 ⟨k, cur, xs, gb, G, rfl, hk5, rfl, rfl, rfl, rfl, rfl, R4, hG4, hcur⟩
    refine Sif_cases (fun g4 => ?_) fun g4 => ?_
    · have g4' : k < 8 := by have := of_decide_eq_true g4; omega
      rw [wrap_id (n := -1000 - (j : Int)) (by omega) (by omega)]
      refine R4.push (bytes := 72) Tryz.underlying24 entry_info (by rfl) goodE_st En.cells_len En.cells_one (by decide) (mkE j) (fun _ _ _ _ => rfl) (by omega) (by omega) fun cur' w7 R7 hn7 => ?_
      refine R7.keep (bytes := 24) Tryz.underlying36 kents_info (by rfl) goodE_st (by show G.length / 9 = j; omega) (by omega) (by omega) (by omega) fun gp' gc' gb' w9 R9 => ?_
      rw [nameI_iff, wrap_id (n := (k : Int) + 1) (by omega) (by omega)]
      exact ⟨8 - (k + 1), by omega, k + 1, cur', _, gb', G ++ [cur'], by omega, by omega, rfl, rfl, rfl, rfl, by simp, R9, by simp; omega, by omega⟩
    · have g4' : k = 8 := by have := of_decide_eq_false g4; omega
      subst g4'
      have S4 := R4.stop goodE_st En.cells_len
      have c4 : Ch (OwnS T) w w4 := cA.trans' S4.b.ch
      refine ⟨_, _, _, by rw [H.hdr w4 c4, hpp], by omega, hlt', ?_⟩
      obtain ⟨xk4, xo4, hpp4, hc4⟩ := H.at c4 hx
      rw [hpp] at hpp4; cases hpp4
      simp only [nn_some, add_at, Int.toNat_natCast, Nat.mul_one]
      refine ⟨_, _, _, hc4, ?_⟩
      refine S4.keep (bytes := 24) Tryz.underlying36 kents_info (by rfl) goodE_st (Nat.lt_succ_self j) hx (by show G.length / 9 = j; omega) (by omega) (fun a ha h0 => .inl ⟨x, List.mem_of_getElem? hx, own_pl (rA j x hx).1 ha h0⟩) (by omega) (by omega) fun gp' gc' gb' w9 S9 => ?_
      rw [nameI_iff, wrap_id (n := (j : Int) + 1) (by omega) (by omega)]
      exact ⟨T.length - (j + 1), by omega, j + 1, gb', G ++ [x], by omega, by omega, rfl, by simp, S9, by simp; omega⟩
  obtain rfl : j = T.length := by have := of_decide_eq_false hge2; omega
  -- all read as they were written
  refine ⟨fun m i w' => ∃ q : Nat, i = (q : Int) ∧ q ≤ G.length ∧ m = G.length - q ∧ w' = wC, ⟨G.length, 0, rfl, Nat.zero_le _, rfl, rfl⟩, ?_⟩
  rintro m i w4 ⟨q, rfl, hq, rfl, rfl⟩
  refine Sif_cases (fun g5 => ?_) fun g5 => ?_
  · have hql : q < G.length := by have := of_decide_eq_true g5; omega
    have g5' : (q : Int) < G.length := by omega
    obtain ⟨u, hgq⟩ : ∃ u, G[q]? = some u := ⟨_, List.getElem?_eq_getElem hql⟩
    obtain ⟨gk, go, hpg, hgc⟩ := SL.at SC.b.grown.rd hgq
    have hsm := SC.b.small q _ hgq
    obtain ⟨ys, y1, y2, y3, y4⟩ := SC.read q _ hgq
    refine ⟨fun m i w' => ∃ k : Nat, i = (k : Int) ∧ k ≤ u.n ∧ m = u.n - k ∧ w' = w4, ⟨u.n, 0, rfl, Nat.zero_le _, rfl, rfl⟩, ?_⟩
    rintro m i w5 ⟨k, rfl, hkn, rfl, rfl⟩
    refine ⟨by omega, g5', ?_⟩
    rw [hpg]
    simp only [nn_some, add_at, Int.toNat_natCast, Nat.mul_one]
    refine ⟨_, _, _, hgc, Sif_cases (fun g6 => ?_) fun g6 => ?_⟩
    · have g6' : k < u.n := by have := of_decide_eq_true g6; omega
      refine ⟨by omega, g5', _, _, _, hgc, by omega, by omega, ?_⟩
      obtain ⟨y, hy⟩ : ∃ y, ys[k]? = some y := ⟨_, List.getElem?_eq_getElem (by omega)⟩
      obtain ⟨yk, yo, hyp, hyc⟩ := y1.at En.cells_len hy (by decide)
      have hgood : y = mkE (q / 9) := y3 _ (List.mem_of_getElem? hy)
      rw [hyp]
      simp only [nn_some, add_at, Int.toNat_natCast]
      refine ⟨_, hyc 0 _ rfl, by decide, ?_⟩
      have e9 : Int.tdiv (q : Int) 9 = ((q / 9 : Nat) : Int) := by rw [Int.tdiv_eq_ediv_of_nonneg (by omega)]; omega
      rw [e9, wrap_id (n := ((q / 9 : Nat) : Int)) (by omega) (by omega), wrap_id (n := -1000 - ((q / 9 : Nat) : Int)) (by omega) (by omega), hgood]
      have e0 : ((mkE (q / 9)).seq != -1000 - ((q / 9 : Nat) : Int)) = false := by simp [mkE]
      rw [e0]
      refine Sif_false ?_
      rw [wrap_id (by omega) (by omega), nameI_iff]
      exact ⟨u.n - (k + 1), by omega, k + 1, by omega, by omega, rfl, by trivial⟩
    · rw [wrap_id (by omega) (by omega), nameI_iff]
      exact ⟨G.length - (q + 1), by omega, q + 1, by omega, by omega, rfl, by trivial⟩
  · exact hk w4 cC
end Go.Proofs.YtipbbjnmpnfhpaaGreatDoor
namespace Go.Proofs.YtipbbjnmpnfhpaaGreatDoor
open Go Go.Sv Go.Heap Go.Qu Go.MapKept
set_option linter.unusedVariables false
set_option maxRecDepth 4000
def mkN (j : Nat) : Int := -1000 - (j : Int)
def goodN : World → (Nat → Prop) → Nat → Int → Prop := fun _ _ j y => y = mkN j
theorem goodN_st : Stays goodN := ⟨fun h _ _ => h⟩
theorem ow_st1 {w : World} {p : Option Addr} {n c : Nat} {own : Option Nat} {L : List Int} (h : Ow w p n c 1 (L.flatMap iC) own) (hl : L.length = n) {k : Nat} {y : Int} (hy : L[k]? = some y) :
    ∃ kb o, p = some ⟨kb, o, none⟩ ∧ own = some kb ∧ ∀ (e : Int) (K : World → Prop), (∀ w', Ow w' p n c 1 ((L.set k e).flatMap iC) own → Ch (· = kb) w w' → w'.heap.size = w.heap.size → K w') → Sv.st w ⟨kb, o + k, none⟩ (.int .i64 e) K := by
  have hkl := (List.getElem?_eq_some_iff.1 hy).1
  obtain ⟨kb, o, hp, hb, hst⟩ := h.st (i := k) (by omega)
  refine ⟨kb, o, hp, hb, fun e K hK => ?_⟩
  refine hst _ K fun w' ho hc hz => hK w' ?_ hc hz
  have := flat_set iC_len L k 0 (.int .i64 e) hy (x' := e) (by decide) rfl
  rw [Nat.mul_one, Nat.add_zero] at this
  rw [this] at ho; exact ho
set_option maxHeartbeats 2000000 in
theorem numbers_ok {w : World} {kb : Nat} {p : Option Addr} {c : Nat} {T : List SL} {C : Nat → List Int} {K : Value → World → Prop} (H : Passes w kb 4 p c T) (hr : Rws iC 1 w T C) (hk : ∀ w', Ch (OwnS T) w w' → K (.bool true) w') :
    callP Tryz.prog 46 [.pointer (some ⟨kb, 0, none⟩)] w K := by
  have hT := H.len
  refine ok_longshorelaw17_book_numbers ?_
  unfold wp_longshorelaw17_book_numbers
  simp only [nn_some, add_at, Nat.zero_add]
  refine ⟨fun m i w' => ∃ (j : Nat) (D : Nat → List Int), i = (j : Int) ∧ j ≤ T.length ∧ m = T.length - j ∧ Ch (OwnS T) w w' ∧ Rws iC 1 w' T D ∧ ∀ q, q < j → ∀ y ∈ D q, y = mkN q, ⟨T.length, 0, C, rfl, Nat.zero_le _, rfl, Ch.refl _ _, hr, fun q hq => by omega⟩, ?_⟩
  rintro m i wA ⟨j, D, rfl, hj, rfl, cA, rA, gA⟩
  refine ⟨_, _, _, H.hdr wA cA, Sif_cases (fun hlt => ?_) fun hge => ?_⟩
  · have hjl : j < T.length := by have := of_decide_eq_true hlt; omega
    have hlt' : (j : Int) < T.length := by omega
    obtain ⟨x, hx⟩ : ∃ x, T[j]? = some x := ⟨_, List.getElem?_eq_getElem hjl⟩
    have hxn := H.small x (List.mem_of_getElem? hx)
    refine ⟨fun m i w' => ∃ (k : Nat) (D2 : Nat → List Int), i = (k : Int) ∧ k ≤ x.n ∧ m = x.n - k ∧ Ch (OwnS T) w w' ∧ Rws iC 1 w' T D2 ∧ (∀ q, q < j → ∀ y ∈ D2 q, y = mkN q) ∧ ∀ q y, q < k → (D2 j)[q]? = some y → y = mkN j, ⟨x.n, 0, D, rfl, Nat.zero_le _, rfl, cA, rA, gA, fun q y hq => by omega⟩, ?_⟩
    rintro m i wB ⟨k, D2, rfl, hk1, rfl, cB, rB, gB, gBj⟩
    refine ⟨_, _, _, H.hdr wB cB, by omega, hlt', ?_⟩
    obtain ⟨xk, xo, hpp, hc⟩ := H.at cB hx
    rw [hpp]
    simp only [nn_some, add_at, Int.toNat_natCast, Nat.mul_one]
    refine ⟨_, _, _, hc, Sif_cases (fun hk2 => ?_) fun hk2 => ?_⟩
    · have hk2' : k < x.n := by have := of_decide_eq_true hk2; omega
      refine ⟨_, _, _, by rw [H.hdr wB cB, hpp], by omega, hlt', ?_⟩
      simp only [nn_some, add_at, Int.toNat_natCast, Nat.mul_one]
      refine ⟨_, _, _, hc, by omega, by omega, ?_⟩
      obtain ⟨hoB, hlB⟩ := rB j x hx
      obtain ⟨y, hy⟩ : ∃ y, (D2 j)[k]? = some y := ⟨_, List.getElem?_eq_getElem (by omega)⟩
      obtain ⟨vb, vo, hp, hown, hst⟩ := ow_st1 hoB hlB hy
      rw [hp]
      simp only [nn_some, add_at, Nat.add_zero]
      rw [wrap_id (n := -1000 - (j : Int)) (by omega) (by omega)]
      refine hst (mkN j) _ fun wC oC cC zC => ?_
      have hvb : OwnS T vb := ⟨x, List.mem_of_getElem? hx, hown⟩
      rw [wrap_id (by omega) (by omega), nameI_iff]
      refine ⟨x.n - (k + 1), by omega, k + 1, fun q => if q = j then (D2 j).set k (mkN j) else D2 q, by omega, by omega, rfl, cB.trans' (cC.mono fun b _ e => e ▸ hvb), fun q z hz => ?_, fun q hq y hy => ?_, fun q y hq hy => ?_⟩
      · by_cases e : q = j
        · subst e
          rw [hx] at hz
          have : z = x := (Option.some.inj hz).symm
          subst this
          simp only [if_pos]
          exact ⟨oC, by simpa using hlB⟩
        · simp only [if_neg e]
          obtain ⟨q1, q2⟩ := rB q z hz
          exact ⟨q1.ch cC fun b hb' e' => H.nd j q x z vb (fun h => e h.symm) hx hz hown (by rw [← e']; exact hb'), q2⟩
      · have hy : y ∈ (if q = j then (D2 j).set k (mkN j) else D2 q) := hy
        rw [if_neg (by omega)] at hy
        exact gB q hq y hy
      · simp only [if_pos] at hy
        rw [List.getElem?_set] at hy
        by_cases e : k = q
        · rw [if_pos e, if_pos (by omega)] at hy
          exact (Option.some.inj hy).symm
        · rw [if_neg e] at hy
          exact gBj q y (by omega) hy
    · have hk2' : ¬ k < x.n := by have := of_decide_eq_false hk2; omega
      rw [wrap_id (by omega) (by omega), nameI_iff]
      refine ⟨T.length - (j + 1), by omega, j + 1, D2, by omega, by omega, rfl, cB, rB, fun q hq y hy => ?_⟩
      by_cases hqj : q = j
      · subst hqj
        exact all_set (rB q x hx).2 (fun k' z hk' hz => gBj k' z (by omega) hz) y hy
      · exact gB q (by omega) y hy
  obtain rfl : j = T.length := by have := of_decide_eq_false hge; omega
  -- all are grown, and kept
  have S0 : Gs iC 1 goodN wA wA T 0 none 0 none [] (fun k => k / 9) := Gs.begin _ (fun j x hx => ⟨D j, (rA j x hx).1, (rA j x hx).2, fun y hy => gA j (List.getElem?_eq_some_iff.1 hx).1 y hy⟩) H.nd
  refine ⟨fun m p n c i w3 => ∃ (j : Nat) (gb : Option Nat) (G : List SL), i = (j : Int) ∧ j ≤ T.length ∧ m = T.length - j ∧ n = G.length ∧ Gs iC 1 goodN wA w3 T j p c gb G (fun k => k / 9) ∧ G.length = 9 * j, ⟨T.length, 0, none, [], rfl, Nat.zero_le _, rfl, rfl, S0, rfl⟩, ?_⟩
  rintro m pg ng cg i wC ⟨j, gb, G, rfl, hj2, rfl, rfl, SC, hG⟩
  have cC : Ch (OwnS T) w wC := cA.trans' SC.b.ch
  refine ⟨_, _, _, H.hdr wC cC, Sif_cases (fun hlt => ?_) fun hge2 => ?_⟩
  · have hjl : j < T.length := by have := of_decide_eq_true hlt; omega
    have hlt' : (j : Int) < T.length := by omega
    obtain ⟨x, hx⟩ : ∃ x, T[j]? = some x := ⟨_, List.getElem?_eq_getElem hjl⟩
    have hxn := H.small x (List.mem_of_getElem? hx)
    obtain ⟨xk, xo, hpp, hc⟩ := H.at cC hx
    refine ⟨_, _, _, H.hdr wC cC, by omega, hlt', ?_⟩
    rw [hpp]
    simp only [nn_some, add_at, Int.toNat_natCast, Nat.mul_one]
    refine ⟨_, _, _, hc, ?_⟩
    obtain ⟨xs0, R0⟩ := SC.start goodN_st hx
    refine ⟨fun m pg ng cg pl nl cl i w4 => ∃ (k : Nat) (cur : SL) (xs : List Int) (gb : Option Nat) (G : List SL), i = (k : Int) ∧ k ≤ 8 ∧ m = 8 - k ∧ pl = cur.p ∧ nl = cur.n ∧ cl = cur.c ∧ ng = G.length ∧ Gr iC 1 goodN wA w4 T j cur xs pg cg gb G (fun k => k / 9) ∧ G.length = 9 * j + k ∧ cur.n ≤ x.n + k,
      ⟨8, 0, x, xs0, gb, G, rfl, by omega, rfl, rfl, rfl, rfl, rfl, R0, by omega, by omega⟩, ?_⟩
    rintro m pg ng cg pl nl cl i w4 ⟨k, cur, xs, gb, G, rfl, hk5, rfl, rfl, rfl, rfl, rfl, R4, hG4, hcur⟩
    refine Sif_cases (fun g4 => ?_) fun g4 => ?_
    · have g4' : k < 8 := by have := of_decide_eq_true g4; omega
      rw [wrap_id (n := -1000 - (j : Int)) (by omega) (by omega)]
      refine R4.push (bytes := 8) Tryz.underlying44 kint_info (by rfl) goodN_st iC_len iC_one (by decide) (mkN j) (fun _ _ _ _ => rfl) (by omega) (by omega) fun cur' w7 R7 hn7 => ?_
      refine R7.keep (bytes := 24) Tryz.underlying37 kints_info (by rfl) goodN_st (by show G.length / 9 = j; omega) (by omega) (by omega) (by omega) fun gp' gc' gb' w9 R9 => ?_
      rw [nameI_iff, wrap_id (n := (k : Int) + 1) (by omega) (by omega)]
      exact ⟨8 - (k + 1), by omega, k + 1, cur', _, gb', G ++ [cur'], by omega, by omega, rfl, rfl, rfl, rfl, by simp, R9, by simp; omega, by omega⟩
    · have g4' : k = 8 := by have := of_decide_eq_false g4; omega
      subst g4'
      have S4 := R4.stop goodN_st iC_len
      have c4 : Ch (OwnS T) w w4 := cA.trans' S4.b.ch
      refine ⟨_, _, _, by rw [H.hdr w4 c4, hpp], by omega, hlt', ?_⟩
      obtain ⟨xk4, xo4, hpp4, hc4⟩ := H.at c4 hx
      rw [hpp] at hpp4; cases hpp4
      simp only [nn_some, add_at, Int.toNat_natCast, Nat.mul_one]
      refine ⟨_, _, _, hc4, ?_⟩
      refine S4.keep (bytes := 24) Tryz.underlying37 kints_info (by rfl) goodN_st (Nat.lt_succ_self j) hx (by show G.length / 9 = j; omega) (by omega) (fun a ha h0 => .inl ⟨x, List.mem_of_getElem? hx, own_pl (rA j x hx).1 ha h0⟩) (by omega) (by omega) fun gp' gc' gb' w9 S9 => ?_
      rw [nameI_iff, wrap_id (n := (j : Int) + 1) (by omega) (by omega)]
      exact ⟨T.length - (j + 1), by omega, j + 1, gb', G ++ [x], by omega, by omega, rfl, by simp, S9, by simp; omega⟩
  obtain rfl : j = T.length := by have := of_decide_eq_false hge2; omega
  -- all read as they were written
  refine ⟨fun m i w' => ∃ q : Nat, i = (q : Int) ∧ q ≤ G.length ∧ m = G.length - q ∧ w' = wC, ⟨G.length, 0, rfl, Nat.zero_le _, rfl, rfl⟩, ?_⟩
  rintro m i w4 ⟨q, rfl, hq, rfl, rfl⟩
  refine Sif_cases (fun g5 => ?_) fun g5 => ?_
  · have hql : q < G.length := by have := of_decide_eq_true g5; omega
    have g5' : (q : Int) < G.length := by omega
    obtain ⟨u, hgq⟩ : ∃ u, G[q]? = some u := ⟨_, List.getElem?_eq_getElem hql⟩
    obtain ⟨gk, go, hpg, hgc⟩ := SL.at SC.b.grown.rd hgq
    have hsm := SC.b.small q _ hgq
    obtain ⟨ys, y1, y2, y3, y4⟩ := SC.read q _ hgq
    refine ⟨fun m i w' => ∃ k : Nat, i = (k : Int) ∧ k ≤ u.n ∧ m = u.n - k ∧ w' = w4, ⟨u.n, 0, rfl, Nat.zero_le _, rfl, rfl⟩, ?_⟩
    rintro m i w5 ⟨k, rfl, hkn, rfl, rfl⟩
    refine ⟨by omega, g5', ?_⟩
    rw [hpg]
    simp only [nn_some, add_at, Int.toNat_natCast, Nat.mul_one]
    refine ⟨_, _, _, hgc, Sif_cases (fun g6 => ?_) fun g6 => ?_⟩
    · have g6' : k < u.n := by have := of_decide_eq_true g6; omega
      refine ⟨by omega, g5', _, _, _, hgc, by omega, by omega, ?_⟩
      obtain ⟨y, hy⟩ : ∃ y, ys[k]? = some y := ⟨_, List.getElem?_eq_getElem (by omega)⟩
      obtain ⟨yk, yo, hyp, hyc⟩ := y1.at iC_len hy (by decide)
      have hgood : y = mkN (q / 9) := y3 _ (List.mem_of_getElem? hy)
      rw [hyp]
      simp only [nn_some, add_at, Int.toNat_natCast]
      refine ⟨y, by simpa using hyc 0 _ rfl, by decide, ?_⟩
      have e9 : Int.tdiv (q : Int) 9 = ((q / 9 : Nat) : Int) := by rw [Int.tdiv_eq_ediv_of_nonneg (by omega)]; omega
      rw [e9, wrap_id (n := ((q / 9 : Nat) : Int)) (by omega) (by omega), wrap_id (n := -1000 - ((q / 9 : Nat) : Int)) (by omega) (by omega), hgood]
      have e0 : ((mkN (q / 9)) != -1000 - ((q / 9 : Nat) : Int)) = false := by simp [mkN]
      rw [e0]
      refine Sif_false ?_
      rw [wrap_id (by omega) (by omega), nameI_iff]
      exact ⟨u.n - (k + 1), by omega, k + 1, by omega, by omega, rfl, by trivial⟩
    · rw [wrap_id (by omega) (by omega), nameI_iff]
      exact ⟨G.length - (q + 1), by omega, q + 1, by omega, by omega, rfl, by trivial⟩
  · exact hk w4 cC
end Go.Proofs.YtipbbjnmpnfhpaaGreatDoor
