/-
  The disk's lock; a file that goes away; an act that is done, or in which the power fails.
-/
import Derived.Test.YtncbmfinndcojaaDiskC
namespace Go.Proofs.Ytncbmfinndcojaa
open Go Go.Sv Go.MapKept
set_option linter.unusedVariables false
set_option maxRecDepth 4000

theorem DR.lock {w : World} {d r : Nat} {h : Hd} {L : List PF} {K : Value → World → Prop} (H : DR w d r h L) (h0 : h.lk = 0)
    (hk : ∀ w', DR w' d r { h with lk := 1 } L → Ch (· = d) w w' → w'.heap.size = w.heap.size → K (.tuple #[]) w') : callP Try.prog 31 [.pointer (some ⟨d, 0, none⟩)] w K :=
  lock_ok Try.muLib H.head (by simp [Hd.cells, h0]) fun w' hb hc hz => hk w' (H.setHead hc (by rw [hb]; rfl)) hc hz
theorem DR.unlock {w : World} {d r : Nat} {h : Hd} {L : List PF} {K : World → Prop} (H : DR w d r h L) (h0 : h.lk = 1)
    (hk : ∀ w', DR w' d r { h with lk := 0 } L → Ch (· = d) w w' → w'.heap.size = w.heap.size → K w') : callD Try.prog 32 [.pointer (some ⟨d, 0, none⟩)] w K :=
  unlock_ok Try.muLib H.head (by simp [Hd.cells, h0]) fun w' hb hc hz => hk w' (H.setHead hc (by rw [hb]; rfl)) hc hz
theorem perm_lift {α β : Type} {g : α → β} : ∀ {M : List β} {L : List α}, (L.map g).Perm M → ∃ L', L.Perm L' ∧ L'.map g = M
  | [], L, h => ⟨L, .refl _, by simpa using h.eq_nil⟩
  | m :: M, L, h => by
    obtain ⟨x, hx, rfl⟩ := List.mem_map.1 (h.mem_iff.2 (by simp : m ∈ m :: M))
    obtain ⟨l1, l2, rfl⟩ := List.append_of_mem hx
    have h2 : (g x :: (l1 ++ l2).map g).Perm (g x :: M) := ((List.perm_middle (l₁ := l1) (a := x) (l₂ := l2)).map g).symm.trans h
    obtain ⟨L', h3, h4⟩ := perm_lift h2.cons_inv
    exact ⟨x :: L', List.perm_middle.trans (h3.cons x), by rw [List.map_cons, h4]⟩
/-- a file goes: what is left of the map -/
theorem DR.del {w w' : World} {d r : Nat} {h : Hd} {x : PF} {R : List PF} {m' : List (Value × Value)} (H : DR w d r h (x :: R)) (hm : Mp .string w' r m') (hp : m'.Perm (R.map PF.pair)) (hc : Ch (· = r) w w') : DR w' d r h R := by
  have hnd := H.nodup
  simp only [blocks, List.flatMap_cons] at hnd
  obtain ⟨n1, n2⟩ := List.nodup_cons.1 hnd
  obtain ⟨n3, n4⟩ := List.nodup_cons.1 n2
  obtain ⟨n5, n6, n7⟩ := List.nodup_append.1 n4
  refine ⟨?_, ⟨m', hm, hp⟩, fun z hz => (H.files z (List.mem_cons_of_mem _ hz)).ch hc fun b hb e => n3 ?_, ?_⟩
  · rw [hc.blk (blk_lt H.head) fun e => n1 (by rw [e]; simp)]; exact H.head
  · subst e; exact List.mem_append.2 (.inr (List.mem_flatMap.2 ⟨z, hz, hb⟩))
  · refine List.nodup_cons.2 ⟨fun hm => n1 ?_, List.nodup_cons.2 ⟨fun hm => n3 (List.mem_append.2 (.inr hm)), n6⟩⟩
    rcases List.mem_cons.1 hm with e | hm
    · rw [e]; simp
    · exact List.mem_cons_of_mem _ (List.mem_append.2 (.inr hm))
/-- a file more: its blocks are new -/
theorem DR.ins {w w' : World} {d r : Nat} {h : Hd} {x : PF} {L : List PF} {m' : List (Value × Value)} (H : DR w d r h L) (hm : Mp .string w' r m') (hp : m'.Perm ((x :: L).map PF.pair)) (hc : Ch (· = r) w w') (hg : x.good w')
    (hx : x.bl.Nodup) (hn : ∀ b ∈ x.bl, b ∉ blocks d r L) : DR w' d r h (x :: L) := by
  have hnd := H.nodup
  unfold blocks at hnd
  obtain ⟨n1, n2⟩ := List.nodup_cons.1 hnd
  obtain ⟨n3, n4⟩ := List.nodup_cons.1 n2
  refine ⟨?_, ⟨m', hm, hp⟩, fun z hz => ?_, ?_⟩
  · rw [hc.blk (blk_lt H.head) fun e => n1 (by rw [e]; simp)]; exact H.head
  · rcases List.mem_cons.1 hz with rfl | hz
    · exact hg
    · exact (H.files z hz).ch hc fun b hb e => n3 (by subst e; exact List.mem_flatMap.2 ⟨z, hz, hb⟩)
  · simp only [blocks, List.flatMap_cons]
    refine List.nodup_cons.2 ⟨fun hm => ?_, List.nodup_cons.2 ⟨fun hm => ?_, List.nodup_append.2 ⟨hx, n4, fun a ha b hb e => ?_⟩⟩⟩
    · rcases List.mem_cons.1 hm with e | hm
      · exact n1 (by rw [e]; simp)
      · rcases List.mem_append.1 hm with hm | hm
        · exact hn d hm (by simp [blocks])
        · exact n1 (List.mem_cons_of_mem _ hm)
    · rcases List.mem_append.1 hm with hm | hm
      · exact hn r hm (by simp [blocks])
      · exact n3 hm
    · subst e
      exact hn a ha (by unfold blocks; exact List.mem_cons_of_mem _ (List.mem_cons_of_mem _ hb))
theorem Hd.used_set (h : Hd) (r : Nat) (u : Int) : (h.cells r).set 3 (.int .i64 u) = ({ h with used := u } : Hd).cells r := rfl
/-- taking a file's name out of the map -/
theorem del_ok {w : World} {d r : Nat} {h : Hd} {x : PF} {R : List PF} (H : DR w d r h (x :: R)) {ty : TypeId} : ∃ w', (Builtin.delete_ #[66, 9] ty #[.map (some r), .string x.f.name]).run Try.prog w = .ok (.tuple #[]) w' ∧ DR w' d r h R ∧ Ch (· = r) w w' := by
  obtain ⟨m, hm, hp⟩ := H.map
  obtain ⟨w', m', h1, h2, h3, _, h4⟩ := delete_run (ty := ty) Try.underlying66 Try.underlying9 hm (k := .string x.f.name) trivial
  refine ⟨w', h1, ?_, h3⟩
  rcases h4 with ⟨l1, v0, l2, rfl, rfl⟩ | ⟨h4, _⟩
  · have hpp : ((.string x.f.name, v0) :: (l1 ++ l2)).Perm (x.pair :: R.map PF.pair) := List.perm_middle.symm.trans hp
    have hnd : ((x :: R).map PF.pair |>.map Prod.fst).Nodup := (hp.map Prod.fst).nodup_iff.1 hm.nodup
    have hv : (Value.string x.f.name, v0) = x.pair := by
      rcases List.mem_cons.1 (hpp.mem_iff.1 (List.mem_cons_self ..)) with e | e
      · exact e
      · exfalso
        simp only [List.map_cons] at hnd
        exact (List.nodup_cons.1 hnd).1 (List.mem_map.2 ⟨_, e, rfl⟩)
    rw [hv] at hpp
    exact H.del h2 hpp.cons_inv h3
  · exact absurd rfl (h4 x.pair (hp.mem_iff.2 (by simp)))
/-- of a file that is not there nothing goes -/
theorem del_none {w : World} {d r : Nat} {h : Hd} {L : List PF} (H : DR w d r h L) {name : ByteArray} (hn : ∀ x ∈ L, x.f.name ≠ name) {ty : TypeId} : ∃ w', (Builtin.delete_ #[66, 9] ty #[.map (some r), .string name]).run Try.prog w = .ok (.tuple #[]) w' ∧ DR w' d r h L ∧ Ch (· = r) w w' := by
  obtain ⟨m, hm, hp⟩ := H.map
  obtain ⟨w', m', h1, h2, h3, _, h4⟩ := delete_run (ty := ty) Try.underlying66 Try.underlying9 hm (k := .string name) trivial
  have hnd := H.nodup
  unfold blocks at hnd
  obtain ⟨n1, n2⟩ := List.nodup_cons.1 hnd
  obtain ⟨n3, n4⟩ := List.nodup_cons.1 n2
  refine ⟨w', h1, ⟨?_, ⟨m', h2, ?_⟩, fun z hz => (H.files z hz).ch h3 fun b hb e => n3 (by subst e; exact List.mem_flatMap.2 ⟨z, hz, hb⟩), H.nodup⟩, h3⟩
  · rw [h3.blk (blk_lt H.head) fun e => n1 (by rw [e]; simp)]; exact H.head
  · rcases h4 with ⟨l1, v0, l2, rfl, rfl⟩ | ⟨_, rfl⟩
    · exfalso
      obtain ⟨z, hz, he⟩ := List.mem_map.1 (hp.mem_iff.1 (by simp : (Value.string name, v0) ∈ l1 ++ (.string name, v0) :: l2))
      simp only [PF.pair, Prod.mk.injEq, Value.string.injEq] at he
      exact hn z hz he.1
    · exact hp
theorem gone_ok {w : World} {d r : Nat} {h : Hd} {L : List PF} {name : ByteArray} {K : Value → World → Prop} (H : DR w d r h L) (hu : h.used = total (L.map (·.f))) (ht : total (L.map (·.f)) ≤ 2 ^ 40)
    (hk : ∀ L' w', DR w' d r { h with used := total (L'.map (·.f)) } L' → L'.map (·.f) = (L.map (·.f)).filter (fun f => decide (f.name ≠ name)) → (∀ x ∈ L', x ∈ L) → Ch (fun b => b = d ∨ b = r) w w' → K (.tuple #[]) w') :
    callP Try.prog 60 [.pointer (some ⟨d, 0, none⟩), .string name] w K := by
  refine ok_disk_Disk_gone ?_
  unfold wp_disk_Disk_gone
  simp only [nn_some, add_at]
  refine ⟨some r, H.cell 4, ?_⟩
  rcases look_ok H name with ⟨x, hx, hn, _, h2⟩ | ⟨hn, h2⟩
  · refine ⟨_, true, h2, Sif_true ?_⟩
    simp only [nn_some, add_at, World.cell?_drew]
    have hgood := H.files x hx
    obtain ⟨l1, l2, rfl⟩ := List.append_of_mem hx
    have hpm : (l1 ++ x :: l2).Perm (x :: (l1 ++ l2)) := List.perm_middle
    refine ⟨h.used, H.cell 3, x.p, x.f.dat.length, x.c, by rw [cell_blk hgood.1]; rfl, ?_⟩
    have htt : total ((l1 ++ x :: l2).map (·.f)) = x.f.dat.length + total ((l1 ++ l2).map (·.f)) := by rw [total_perm (hpm.map _), List.map_cons, total_cons]
    have hw : IntKind.wrap .i64 (h.used - (x.f.dat.length : Int)) = (total ((l1 ++ l2).map (·.f)) : Int) := by rw [wrap_id (by omega) (by omega)]; omega
    rw [hw]
    refine (H.ch0 (Ch.drew w)).st (h' := { h with used := total ((l1 ++ l2).map (·.f)) }) (by omega) rfl fun w1 H1 c1 z1 => ⟨some r, H1.cell 4, ?_⟩
    obtain ⟨w2, hr, H2, c2⟩ := del_ok (H1.perm hpm) (ty := 0)
    rw [hn] at hr
    have hnames := H.names
    refine ⟨w2, hr, hk (l1 ++ l2) w2 H2 ?_ (fun z hz => by simp at hz ⊢; rcases hz with hz | hz <;> simp [hz]) (((Ch.drew w).trans c1 fun _ _ hx => .inl hx).trans c2 fun _ _ hx => .inr hx)⟩
    have hnm : ∀ z ∈ l1 ++ l2, z.f.name ≠ name := fun z hz e => by
      have h3 : ((x :: (l1 ++ l2)).map fun x => x.f.name).Nodup := (hpm.map _).nodup_iff.1 hnames
      simp only [List.map_cons] at h3
      exact (List.nodup_cons.1 h3).1 (by rw [hn, ← e]; exact List.mem_map.2 ⟨z, hz, rfl⟩)
    rw [List.map_append, List.map_append, List.map_cons, List.filter_append, List.filter_cons]
    simp only [hn, ne_eq, not_true_eq_false, decide_false, Bool.false_eq_true, if_false]
    congr 1
    · rw [List.filter_eq_self.2]
      intro f hf
      obtain ⟨z, hz, rfl⟩ := List.mem_map.1 hf
      simpa using hnm z (by simp [hz])
    · rw [List.filter_eq_self.2]
      intro f hf
      obtain ⟨z, hz, rfl⟩ := List.mem_map.1 hf
      simpa using hnm z (by simp [hz])
  · refine ⟨_, false, h2, Sif_false (hk L w ?_ ?_ (fun _ h => h) (Ch.refl _ _))⟩
    · rw [← hu]; exact H
    · rw [List.filter_eq_self.2]
      intro f hf
      obtain ⟨z, hz, rfl⟩ := List.mem_map.1 hf
      simpa using hn z hz
/-- an act: done, if the power does not fail in it -/
theorem done_ok {w : World} {d r : Nat} {h : Hd} {L : List PF} {what : Value} {K : Value → World → Prop} (H : DR w d r h L) (wf : ∀ x ∈ L, x.f.safe ≤ x.f.dat.length) (ht : total (L.map (·.f)) ≤ 2 ^ 40) (ha : -1 ≤ h.acts) (hb : h.acts ≤ 9223372036854775807)
    (hfall : h.acts = 0 → ∀ L' w', DR w' d r { h with used := total (L'.map (·.f)), down := true, acts := -1 } L' → (L'.map (·.f)).Perm ((L.map (·.f)).map (cutF h.keep)) → Ch (· ∈ blocks d r L) w w' →
      (∀ b ∈ blocks d r L', b ∈ blocks d r L ∨ w.heap.size ≤ b) → K (.int .i64 3) w')
    (hdo : h.acts ≠ 0 → ∀ w', DR w' d r { h with acts := actsN h.acts } L → Ch (· = d) w w' → w'.heap.size = w.heap.size → callV Try.prog (RSh.tup []) what [] w' fun _ w2 => K (.int .i64 0) w2) :
    callP Try.prog 57 [.pointer (some ⟨d, 0, none⟩), what] w K := by
  refine ok_disk_Disk_done ?_
  unfold wp_disk_Disk_done
  refine act_ok H ha hb fun w1 H1 c1 z1 => ⟨_, rfl, Sif_cases (fun e => ?_) fun e => ?_⟩
  · have e' : h.acts = 0 := by simpa using e
    simp only [nn_some, add_at]
    refine ⟨_, H1.cell 7, fall_ok H1 wf ht fun L' w2 H2 hp c2 hbl => ⟨rfl, hfall e' L' w2 H2 hp ((c1.mono fun x _ hx => by simp [blocks, hx]).trans c2 fun _ _ hx => hx) fun b hb => (hbl b hb).imp id fun hh => by omega⟩⟩
  · exact hdo (by simpa using e) w1 H1 c1 z1
end Go.Proofs.Ytncbmfinndcojaa
