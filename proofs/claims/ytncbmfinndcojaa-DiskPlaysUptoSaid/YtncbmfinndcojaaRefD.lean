/-
  The document's disk: take, fails, asked; Start, Arm, Crash, Append, Sync, Delete: they do what the program's do.
-/
import Derived.Test.YtncbmfinndcojaaRefC
namespace Go.Proofs.Ytncbmfinndcojaa
open Go Go.Sv Go.MapKept
set_option linter.unusedVariables false
set_option maxRecDepth 4000

theorem sub_flat {α β : Type} {f : α → List β} {l1 l2 : List α} (h : l1.Sublist l2) : (l1.flatMap f).Sublist (l2.flatMap f) := by
  induction h with
  | slnil => exact .slnil
  | cons a _ ih => rw [List.flatMap_cons]; exact ih.trans (List.sublist_append_right _ _)
  | cons_cons a _ ih => rw [List.flatMap_cons, List.flatMap_cons]; exact (List.Sublist.refl _).append ih
theorem lt_names {fs : List File} (h : fs.Pairwise ltN) : (fs.map (·.name)).Nodup := by
  unfold List.Nodup
  rw [List.pairwise_map]
  exact h.imp fun {x y} hxy e => by unfold ltN at hxy; rw [e] at hxy; exact List.lt_irrefl _ hxy
theorem sort_unique {fs fs2 : List File} (hp : fs.Perm fs2) (hs : fs.Pairwise ltN) : fs2.mergeSort leN = fs := by
  have hn := lt_names hs
  refine List.Perm.eq_of_pairwise (le := fun x y : File => x.name.data.toList ≤ y.name.data.toList) (fun x y hx hy h1 h2 => ?_) ?_ ?_ ((List.mergeSort_perm ..).trans hp.symm)
  · have hx' : x ∈ fs := ((List.mergeSort_perm fs2 leN).trans hp.symm).mem_iff.1 hx
    exact inj_of_nodup hn hx' hy (data_ext (List.le_antisymm h1 h2))
  · exact (List.pairwise_mergeSort (le := leN) (fun a b c h1 h2 => by simp [leN] at h1 h2 ⊢; exact List.le_trans h1 h2) (fun a b => by simp [leN]; exact List.le_total _ _) fs2).imp fun h => by simpa [leN] using h
  · exact hs.imp fun h => List.le_of_lt h
theorem sorted_self {a : AD} (h : a.fs.Pairwise ltN) : a.sorted = a := by
  show ({ a with fs := a.fs.mergeSort leN } : AD) = a
  rw [sort_unique (.refl _) h]
theorem RK.fin {w : World} {r : Nat} {a' a2 : AD} {O : List OF} {p : Option Addr} {c : Nat} {ob : Option Nat} (R : RK0 w r a' O p c ob) (hs : a'.fs.Pairwise ltN) (hp : a'.fs.Perm a2.fs) (he : a' = { a2 with fs := a'.fs }) : RK w r a2.sorted (rbl r ob O) := by
  have : a2.sorted = a' := by
    show ({ a2 with fs := a2.fs.mergeSort leN } : AD) = a'
    rw [sort_unique hp hs]; exact he.symm
  rw [this]
  exact ⟨⟨O, p, c, ob, R, rfl⟩, hs⟩
theorem ltN_map {fs : List File} {g : File → File} (hg : ∀ f, (g f).name = f.name) (h : fs.Pairwise ltN) : (fs.map g).Pairwise ltN := by
  rw [List.pairwise_map]
  exact h.imp fun {x y} hxy => by unfold ltN at hxy ⊢; rw [hg, hg]; exact hxy
abbrev RPost (w : World) (r : Nat) (a2 : AD) (B : Nat → Prop) (K : World → Prop) : Prop := ∀ w' B', RK w' r a2.sorted B' → Ch B w w' → (∀ b, B' b → B b ∨ w.heap.size ≤ b) → K w'
theorem rbl_sub {r : Nat} {ob ob' : Option Nat} {O O' : List OF} {n : Nat} (h1 : ∀ k, ob' = some k → ob = some k ∨ n ≤ k) (h2 : ∀ k, k ∈ dbl O' → k ∈ dbl O ∨ n ≤ k) : ∀ b, rbl r ob' O' b → rbl r ob O b ∨ n ≤ b := by
  intro b hb
  rcases rbl_eq.1 hb with h | h | h
  · exact .inl (rbl_eq.2 (.inl h))
  · exact (h1 b h).imp (fun h => rbl_eq.2 (.inr (.inl h))) id
  · exact (h2 b h).imp (fun h => rbl_eq.2 (.inr (.inr h))) id
set_option maxHeartbeats 1000000 in
theorem rtake_ok {w : World} {r : Nat} {a : AD} {O : List OF} {p : Option Addr} {c : Nat} {ob : Option Nat} {n : ByteArray} {K : Value → World → Prop} (R : RK0 w r a O p c ob) (hlen : O.length < 2 ^ 41)
    (hk : ∀ p' c' ob' w', RK0 w' r { a with fs := a.fs.filter fun f => decide (f.name ≠ n) } (O.filter fun o => decide (o.f.name ≠ n)) p' c' ob' → Ch (fun k => k = r) w w' → (∀ k, ob' = some k → w.heap.size ≤ k) → K (.tuple #[]) w') :
    callP Try.prog 70 [.pointer (some ⟨r, 0, none⟩), .string n] w K := by
  refine ok_longshoreref19_Disk_take ?_
  unfold wp_longshoreref19_Disk_take
  refine ⟨fun m q t e k w' => ∃ (i : Nat) (tb : Option Nat), k = i ∧ i ≤ O.length ∧ m = O.length - i ∧ t = ((O.take i).filter fun o => decide (o.f.name ≠ n)).length ∧
    Ow w' q ((O.take i).filter fun o => decide (o.f.name ≠ n)).length e 3 (((O.take i).filter fun o => decide (o.f.name ≠ n)).flatMap OF.cells) tb ∧ (∀ k, tb = some k → w.heap.size ≤ k) ∧ Ch (fun _ => False) w w',
    ⟨O.length, 0, none, rfl, by omega, by omega, by simp, by simpa using Ow.nil, by simp, Ch.refl _ _⟩, ?_⟩
  rintro m q t e k w1 ⟨i, tb, rfl, hi, rfl, rfl, hTo, hTb, c1⟩
  have R1 := R.ch c1 fun _ _ => id
  simp only [nn_some, add_at, Nat.zero_add]
  refine ⟨_, _, _, R1.slice, Sif_cases (fun g => ?_) fun g => ?_⟩
  · have hlt : i < O.length := by have := of_decide_eq_true g; omega
    have hy : O[i]? = some O[i] := List.getElem?_eq_getElem hlt
    have htake : O.take (i + 1) = O.take i ++ [O[i]] := by rw [List.take_add_one, hy]; rfl
    generalize O[i] = y at hy htake
    refine ⟨fun q' t' e' w' => ∃ (tb' : Option Nat), t' = ((O.take (i + 1)).filter fun o => decide (o.f.name ≠ n)).length ∧
      Ow w' q' ((O.take (i + 1)).filter fun o => decide (o.f.name ≠ n)).length e' 3 (((O.take (i + 1)).filter fun o => decide (o.f.name ≠ n)).flatMap OF.cells) tb' ∧ (∀ k, tb' = some k → w.heap.size ≤ k) ∧ Ch (fun _ => False) w w', ?_, ?_⟩
    · rintro q' t' e' w2 ⟨tb', rfl, h1, h2, h3⟩
      rw [nameI_iff, wrap_id (by omega) (by omega)]
      exact ⟨O.length - (i + 1), by omega, i + 1, tb', by simp, by omega, rfl, rfl, h1, h2, h3⟩
    obtain ⟨yb, yo, rfl, g0, g1, g2⟩ := R1.files.rd.at hy
    refine ⟨_, _, _, R1.slice, by omega, by omega, ?_⟩
    simp only [nn_some, add_at, Int.toNat_natCast, Nat.add_zero]
    refine ⟨_, g0, Sif_cases (fun q1 => ⟨_, _, _, R1.slice, by omega, by omega, ?_⟩) fun q1 => ?_⟩
    · simp only [nn_some, add_at, Int.toNat_natCast, Nat.add_zero]
      have hne : y.f.name ≠ n := fun e => by rw [e] at q1; simp at q1
      have hf : (O.take (i + 1)).filter (fun o => decide (o.f.name ≠ n)) = (O.take i).filter (fun o => decide (o.f.name ≠ n)) ++ [y] := by rw [htake, List.filter_append]; simp [hne]
      refine ⟨_, g0, _, _, _, g1, _, g2, ?_⟩
      rw [hf]
      have hfl := List.length_filter_le (fun o : OF => decide (o.f.name ≠ n)) (O.take i)
      rw [List.length_take] at hfl
      refine pushF hTo y (by omega) fun p' c' b'' w' o1 o2 o3 => ⟨b'', rfl, o1, fun k hk => ?_, c1.trans o3 fun k hk h => ?_⟩
      · rcases o2 k hk with h | h
        · exact hTb k h
        · have := c1.size; omega
      · have := hTb k h; omega
    · have hne : y.f.name = n := eqS (by simpa using q1)
      have hf : (O.take (i + 1)).filter (fun o => decide (o.f.name ≠ n)) = (O.take i).filter (fun o => decide (o.f.name ≠ n)) := by rw [htake, List.filter_append]; simp [hne]
      rw [hf]
      exact ⟨tb, rfl, hTo, hTb, c1⟩
  · have hge : i = O.length := by have := of_decide_eq_false g; omega
    subst hge
    rw [List.take_length] at hTo ⊢
    have hsub : ((dbl (O.filter fun o => decide (o.f.name ≠ n))).Sublist (dbl O)) := sub_flat List.filter_sublist
    have hdn := R.dn
    have hRl := R.lt
    refine R1.relist hTo (fun o ho => R1.files.dat o (List.mem_filter.1 ho).1) (hsub.nodup hdn.1) (fun h => hdn.2 (hsub.subset h)) (fun k hk => ⟨fun h => ?_, fun h => ?_⟩) fun w2 R2 c2 z2 => ?_
    · have h1 := hTb k hk
      have h2 := hRl k (rbl_eq.2 (.inr (.inr (hsub.subset h))))
      omega
    · have h1 := hTb k hk
      have h2 := hRl r (.inl rfl)
      omega
    · have hff : (O.filter fun o => decide (o.f.name ≠ n)).map (·.f) = a.fs.filter fun f => decide (f.name ≠ n) := by rw [← R.hO, List.filter_map]; rfl
      rw [hff] at R2
      exact hk q e tb w2 R2 ((c1.mono fun _ _ h => h.elim).trans' c2) hTb
theorem rfails_ok {w : World} {r : Nat} {a : AD} {O : List OF} {p : Option Addr} {c : Nat} {ob : Option Nat} {K : Value → World → Prop} (R : RK0 w r a O p c ob) (h1 : -1 ≤ a.acts) (h2 : a.acts ≤ 9223372036854775807)
    (hk : ∀ w', RK0 w' r a.act O p c ob → Ch (fun k => k = r) w w' → w'.heap.size = w.heap.size → K (.bool (a.acts == 0)) w') : callP Try.prog 68 [.pointer (some ⟨r, 0, none⟩)] w K := by
  refine ok_longshoreref19_Disk_fails ?_
  unfold wp_longshoreref19_Disk_fails
  simp only [nn_some, add_at, Nat.zero_add]
  obtain ⟨ac, hb, hac⟩ := R.head
  refine ⟨_, by rw [cell_blk hb]; rfl, Sif_cases (fun g => ?_) fun g => ⟨ac, by rw [cell_blk hb]; rfl, Sif_cases (fun g2 => ?_) fun g2 => ⟨ac, by rw [cell_blk hb]; rfl, ?_⟩⟩⟩
  · have h3 : a.acts = -1 := by simp at g; omega
    have := hk w (by
      have : a.act = a := by unfold AD.act actsN; rw [h3]; cases a; simp at h3; subst h3; rfl
      rw [this]; exact R) (Ch.refl _ _) rfl
    rw [h3] at this; exact this
  · have h3 : 0 ≤ a.acts := by simpa using g
    have h4 := hac h3
    have h5 : a.acts = 0 := by rw [← h4]; simpa using g2
    have := hk w (by
      have : a.act = a := by unfold AD.act actsN; rw [h5]; cases a; simp at h5; subst h5; rfl
      rw [this]; exact R) (Ch.refl _ _) rfl
    rw [h5] at this; exact this
  · have h3 : 0 ≤ a.acts := by simpa using g
    have h4 := hac h3
    have h5 : a.acts ≠ 0 := by rw [← h4]; simpa using g2
    rw [wrap_id (by omega) (by omega)]
    refine R.stH (a' := a.act) (by omega) rfl (fun ac' h' => ⟨ac - 1, ?_, fun _ => ?_⟩) fun w' R' c' z' => ?_
    · have h6 := h' h3
      subst h6
      simp [AD.act, actsN, h5]
      omega
    · simp [AD.act, actsN, h5]; omega
    · have h6 : (a.acts == 0) = false := by simpa using h5
      have := hk w' R' c' z'
      rw [h6] at this; exact this
theorem rasked_ok {w : World} {r : Nat} {a : AD} {O : List OF} {p : Option Addr} {c : Nat} {ob : Option Nat} {n : ByteArray} {K : Value → World → Prop} (R : RK0 w r a O p c ob) (hlen : O.length ≤ 2 ^ 60) (hs : n.size ≤ 9223372036854775807)
    (hk : K (.int .i64 (a.err [n] n)) w) : callP Try.prog 67 [.pointer (some ⟨r, 0, none⟩), .string n] w K := by
  refine ok_longshoreref19_Disk_asked ?_
  unfold wp_longshoreref19_Disk_asked
  refine rIsName_ok hs ⟨_, rfl, ?_⟩
  simp only [nn_some, add_at, Nat.zero_add]
  unfold AD.err at hk
  refine ⟨_, R.downC, Sif_cases (fun g => ?_) fun g => ?_⟩
  · rw [if_pos g] at hk; exact hk
  rw [if_neg (by simp [g])] at hk
  refine Sif_cases (fun g2 => ?_) fun g2 => ?_
  · have h2 : nameOk n = false := by simpa using g2
    rw [if_pos (by simp [h2])] at hk; exact hk
  have h2 : nameOk n = true := by simpa using g2
  rw [if_neg (by simp [h2])] at hk
  refine rfind_ok R hlen fun k hkk => ⟨k, rfl, ?_⟩
  rcases hkk with ⟨i, x, rfl, hx, hxn⟩ | ⟨rfl, hno⟩
  · have h3 : a.has n = true := by
      unfold AD.has
      rw [← R.hO, List.any_eq_true]
      exact ⟨x.f, List.mem_map.2 ⟨x, List.mem_of_getElem? hx, rfl⟩, by simp [hxn]⟩
    rw [if_neg (by simp [h3])] at hk
    exact Sif_cases (fun g3 => by have := of_decide_eq_true g3; omega) fun _ => hk
  · have h3 : a.has n = false := by
      unfold AD.has
      rw [← R.hO, List.any_eq_false]
      intro f hf
      obtain ⟨x, hx, rfl⟩ := List.mem_map.1 hf
      simpa using hno x hx
    rw [if_pos h3] at hk
    exact Sif_cases (fun _ => hk) fun g3 => by simp at g3
theorem rstart_ok {w : World} {r : Nat} {a : AD} {B : Nat → Prop} {K : Value → World → Prop} (R : RK w r a B) (hk : RPost w r { a with down := false } B (K (.tuple #[]))) : callP Try.prog 50 [.pointer (some ⟨r, 0, none⟩)] w K := by
  obtain ⟨⟨O, p, c, ob, R0, rfl⟩, hs⟩ := R
  refine ok_longshoreref19_Disk_Start ?_
  unfold wp_longshoreref19_Disk_Start
  simp only [nn_some, add_at, Nat.zero_add]
  refine R0.stH (a' := { a with down := false }) (by omega) rfl (fun ac h => ⟨ac, rfl, h⟩) fun w' R' c' z' => hk w' _ (RK.fin R' hs (.refl _) rfl) (c'.mono fun x _ hx => .inl hx) fun b hb => .inl hb
theorem rarm_ok {w : World} {r : Nat} {a : AD} {B : Nat → Prop} {acts keep : Int} {K : Value → World → Prop} (R : RK w r a B) (hk : RPost w r (a.arm acts keep) B (K (.tuple #[]))) : callP Try.prog 48 [.pointer (some ⟨r, 0, none⟩), .int .i64 acts, .int .i64 keep] w K := by
  obtain ⟨⟨O, p, c, ob, R0, rfl⟩, hs⟩ := R
  refine ok_longshoreref19_Disk_Arm ?_
  unfold wp_longshoreref19_Disk_Arm
  simp only [nn_some, add_at, Nat.zero_add]
  unfold AD.arm at hk
  refine ⟨_, R0.downC, Sif_cases (fun g => ?_) fun g => ?_⟩
  · rw [if_pos g] at hk
    exact hk w _ (RK.fin R0 hs (.refl _) rfl) (Ch.refl _ _) fun b hb => .inl hb
  rw [if_neg (by simp [g])] at hk
  obtain ⟨⟨ac, h1, h2⟩, h3, h4, h5⟩ := R0
  refine st_blk h1 (by simp) fun w1 b1 c1 z1 => ?_
  refine st_blk b1 (by simp) fun w2 b2 c2 z2 => ?_
  refine st_blk b2 (by simp) fun w3 b3 c3 z3 => ?_
  have hc := (c1.trans' c2).trans' c3
  refine hk w3 (rbl r ob O) (RK.fin (a' := { a with acts := max acts (-1), keep := keep }) ⟨⟨acts, ?_, fun h => ?_⟩, h3.ch hc fun b hb e => h4 (e ▸ hb), h4, h5⟩ hs (.refl _) rfl) (hc.mono fun x _ hx => .inl hx) fun b hb => .inl hb
  · rw [b3]
    simp only [List.set_cons_succ, List.set_cons_zero]
    rw [decide_eq_decide.2 (by omega : acts ≥ 0 ↔ 0 ≤ max acts (-1))]
  · simp at h ⊢; omega
theorem RK0.small {w : World} {r : Nat} {a : AD} {O : List OF} {p : Option Addr} {c : Nat} {ob : Option Nat} (R : RK0 w r a O p c ob) (h : a.fs.length < 2 ^ 41) : O.length < 2 ^ 41 := by rw [R.len]; exact h
theorem rcrash_ok {w : World} {r : Nat} {a : AD} {B : Nat → Prop} {keep : Int} {K : Value → World → Prop} (R : RK w r a B) (wf : WF a) (hlen : a.fs.length < 2 ^ 41) (hk1 : -9223372036854775808 ≤ keep) (hk : RPost w r (a.crash keep) B (K (.tuple #[]))) : callP Try.prog 49 [.pointer (some ⟨r, 0, none⟩), .int .i64 keep] w K := by
  obtain ⟨⟨O, p, c, ob, R0, rfl⟩, hs⟩ := R
  refine ok_longshoreref19_Disk_Crash ?_
  unfold wp_longshoreref19_Disk_Crash
  simp only [nn_some, add_at, Nat.zero_add]
  unfold AD.crash at hk
  refine ⟨_, R0.downC, Sif_cases (fun g => ?_) fun g => ?_⟩
  · rw [if_neg (by simpa using g)] at hk
    refine rfall_ok R0 (R0.small hlen) wf hk1 fun w' R' c' z' => ⟨rfl, hk w' _ (RK.fin R' (ltN_map (fun _ => rfl) hs) (.refl _) rfl) c' fun b hb => .inl ?_⟩
    rw [rbl_map (g := cutO keep) fun _ => rfl] at hb; exact hb
  · rw [if_pos (by simpa using g)] at hk
    exact hk w _ (RK.fin R0 hs (.refl _) rfl) (Ch.refl _ _) fun b hb => .inl hb
end Go.Proofs.Ytncbmfinndcojaa
