/-
  A queue in memory that holds what a plain queue holds.
-/
import Derived.Test.YtipbbjnmpnfhpaaDoorQst
namespace Go.Proofs.YtipbbjnmpnfhpaaDoor
open Go Go.Sv Go.Heap Go.Qu Go.MapKept
set_option linter.unusedVariables false
set_option maxRecDepth 4000
structure QF (A : AQ) (F H : List Et) : Prop where
  heap : HeapFrom En.lt (atE (F.map (·.e))) F.length 0
  perm : ((F ++ H).map Et.pe).Perm A.L
  free : ∀ x ∈ F, x.e.hold = 0
  held : ∀ x ∈ H, x.e.hold ≠ 0
structure QK (w : World) (qb : Nat) (A : AQ) (B : Nat → Prop) : Prop where
  wf : WQ A
  ex : ∃ F H p c own r, QM w qb A.cf A.last F H p c own r ∧ QF A F H ∧ B = fun b => b ∈ qbl qb r own F H
theorem QK.ch {S : Nat → Prop} {w w' : World} {qb : Nat} {A : AQ} {B : Nat → Prop} (Q : QK w qb A B) (hc : Ch S w w') (hn : ∀ b, B b → ¬ S b) : QK w' qb A B := by
  obtain ⟨wf, F, H, p, c, own, r, M, E, rfl⟩ := Q
  exact ⟨wf, F, H, p, c, own, r, M.ch hc hn, E, rfl⟩
theorem QK.lt {w : World} {qb : Nat} {A : AQ} {B : Nat → Prop} (Q : QK w qb A B) : ∀ b, B b → b < w.heap.size := by
  obtain ⟨wf, F, H, p, c, own, r, M, E, rfl⟩ := Q
  exact M.lt
theorem QK.qb {w : World} {qb : Nat} {A : AQ} {B : Nat → Prop} (Q : QK w qb A B) : B qb := by
  obtain ⟨wf, F, H, p, c, own, r, M, E, rfl⟩ := Q
  exact mem_qbl.2 (.inl rfl)
abbrev QPost (w : World) (qb : Nat) (A' : AQ) (B : Nat → Prop) (K : World → (Nat → Prop) → Prop) : Prop := ∀ w' B', QK w' qb A' B' → Ch B w w' → (∀ b, B' b → B b ∨ w.heap.size ≤ b) → K w' B'
/-- an entry that came out: its bytes are its owner's -/
structure Out (w : World) (B B' : Nat → Prop) (n : Nat) (x : Et) : Prop where
  ok : EtE.Ok w x
  off : ∀ b, x.own = some b → ¬ B' b ∧ (B b ∨ n ≤ b)
def Ez : Et := ⟨⟨0, 0, 0, false, 0, 0, none, 0, 0⟩, [], none⟩
def Pz : PE := ⟨0, 0, 0, false, 0, 0, []⟩
theorem Ez_pe : Ez.pe = Pz := rfl
theorem Ez_ok (w : World) : EtE.Ok w Ez := ⟨rfl, Nat.le_refl _, .inl ⟨rfl, rfl⟩⟩
theorem Ez_out (w : World) (B B' : Nat → Prop) (n : Nat) : Out w B B' n Ez := ⟨Ez_ok w, fun b h => by cases h⟩
section
variable {w : World} {A : AQ} {F H : List Et}
theorem QF.all (E : QF A F H) {x : Et} (h : x ∈ F ++ H) : x.pe ∈ A.L := E.perm.mem_iff.1 (List.mem_map.2 ⟨x, h, rfl⟩)
theorem QF.fr (E : QF A F H) : (F.map Et.pe).Perm (A.L.filter isFree) := by
  have h := E.perm.filter isFree
  rw [List.map_append, List.filter_append] at h
  have h1 : (F.map Et.pe).filter isFree = F.map Et.pe := List.filter_eq_self.2 fun y hy => by
    obtain ⟨x, hx, rfl⟩ := List.mem_map.1 hy
    simp [isFree, Et.pe, E.free x hx]
  have h2 : (H.map Et.pe).filter isFree = [] := List.filter_eq_nil_iff.2 fun y hy => by
    obtain ⟨x, hx, rfl⟩ := List.mem_map.1 hy
    simp [isFree, Et.pe, E.held x hx]
  rw [h1, h2, List.append_nil] at h
  exact h
theorem QF.frees (E : QF A F H) (W : WQ A) {S : List PE} (hs : Sorted S) (hp : S.Perm (F.map Et.pe)) : S = A.frees := ordered_filter isFree W.nd hs (hp.trans E.fr)
theorem QF.ndq (E : QF A F H) (W : WQ A) : ((F ++ H).map fun x : Et => x.e.seq).Nodup := by
  have h := W.nd
  rw [← (E.perm.map (·.seq)).nodup_iff, List.map_map] at h
  exact h
theorem QF.ndf (E : QF A F H) (W : WQ A) : (F.map fun x : Et => x.e.seq).Nodup := by
  have := E.ndq W
  rw [List.map_append] at this
  exact (List.nodup_append.1 this).1
theorem QF.len (E : QF A F H) : F.length + H.length = A.L.length := by
  have := E.perm.length_eq
  simpa using this
end
/-- the first of a sorted row -/
theorem ordered_min {F F' : List Et} {x : Et} (hn : (F.map fun x : Et => x.e.seq).Nodup) (hp : F.Perm (x :: F')) (hm : ∀ y ∈ F', y.pe.lt x.pe = false) : ordered (F.map Et.pe) = x.pe :: ordered (F'.map Et.pe) := by
  have hn1 : ((F.map Et.pe).map (·.seq)).Nodup := by rw [List.map_map]; exact hn
  have hn2 : ((x :: F').map fun x : Et => x.e.seq).Nodup := by rw [← (hp.map _).nodup_iff]; exact hn
  rw [List.map_cons] at hn2
  obtain ⟨g1, g2⟩ := List.nodup_cons.1 hn2
  have hn3 : ((F'.map Et.pe).map (·.seq)).Nodup := by rw [List.map_map]; exact g2
  refine ((ordered_eq hn1 (List.pairwise_cons.2 ⟨fun z hz => ?_, ordered_sorted hn3⟩) ?_)).symm
  · obtain ⟨y, hy, rfl⟩ := List.mem_map.1 ((ordered_perm _).mem_iff.1 hz)
    exact PE.tri (fun e => g1 (List.mem_map.2 ⟨y, hy, e⟩)) (hm y hy)
  · exact ((ordered_perm _).cons _).trans ((hp.map Et.pe).symm)
theorem ordered_nil : ordered [] = [] := rfl
end Go.Proofs.YtipbbjnmpnfhpaaDoor
