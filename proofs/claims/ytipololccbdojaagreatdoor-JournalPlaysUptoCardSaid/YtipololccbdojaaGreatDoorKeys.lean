/-
  The sorted keys of a map with string keys: what maps.Keys and slices.Sorted give, in the words of the memory laws.
-/
import Derived.Test.YtipololccbdojaaGreatDoorSvLib
import Derived.Test.YtipololccbdojaaGreatDoorIter
namespace Go.Proofs.YtipololccbdojaaGreatDoor
open Go Go.Sv Go.MapKept

def encS (l : List UInt8) : Value := .string ⟨l.toArray⟩
theorem encS_eq (l : List UInt8) : Go.Proofs.encStr l = encS l := rfl
theorem encS_data (s : ByteArray) : encS s.data.toList = .string s := by simp [encS]
abbrev anyR : Value → Option (DataW Unit × List MemPlace) := fun _ => some (.lit (.bool true), [])
theorem owns_of_mp {w : World} {r : Nat} {m : List (Value × Value)} {ks : List ByteArray} (h : Mp .string w r m) (hks : m.map (·.1) = ks.map .string) (hm : m.length ≤ maxLen) (hl : ∀ s ∈ ks, s.size ≤ maxLen) :
    ∃ D, w.ownsMap Tryz.prog 9 anyR r m.length D ∧ Go.Maps.size D = m.length ∧ (strKeys D).Perm (ks.map (·.data.toList)) := by
  obtain ⟨es, clock, hb, hs, hk, hmm⟩ := h
  have hkey : ∀ x ∈ es.toList, ∃ s : ByteArray, x.key = .string s ∧ s.size ≤ maxLen := fun x hx => by
    have h1 : x.key ∈ m.map (·.1) := by rw [← hmm, List.map_map]; exact List.mem_map.2 ⟨x, hx, rfl⟩
    rw [hks] at h1
    obtain ⟨s, hs, he⟩ := List.mem_map.1 h1
    exact ⟨s, he.symm, hl s hs⟩
  have hrd : ∀ x ∈ es.toList, ∀ s : ByteArray, x.key = .string s → s.size ≤ maxLen → Go.WideElems.rd Tryz.prog 9 anyR x = some (.string s.data.toList, .lit (.bool true)) := fun x hx s he hsz => by
    simp [Go.WideElems.rd, keyOf, Tryz.underlying9, mapKey, he, hsz]
  have hlen : es.size = m.length := by rw [← hmm]; simp
  refine ⟨_, ⟨es, clock, hb, ⟨by omega, hs, fun x hx => ?_⟩, by omega, rfl⟩, ?_, ?_⟩
  · obtain ⟨s, he, hsz⟩ := hkey x hx
    exact ⟨_, hrd x hx s he hsz⟩
  · show List.length _ = _
    rw [Go.WideShapes.sorted_perm _ |>.length_eq]; simp [hlen]
  · show (List.map _ _).Perm _
    refine ((Go.WideShapes.sorted_perm _).map _).trans ?_
    rw [List.map_map]
    have h2 : es.toList.map ((fun p : Lit × DataW Unit => strOf p.1) ∘ Go.WideElems.rg Tryz.prog 9 anyR) = ks.map (·.data.toList) := by
      have h3 : es.toList.map (fun x => x.key) = ks.map Value.string := by rw [← hks, ← hmm, List.map_map]; rfl
      have h4 : ∀ (l : List MapEntry) (ks : List ByteArray), (∀ x ∈ l, x ∈ es.toList) → l.map (fun x => x.key) = ks.map Value.string → l.map ((fun p : Lit × DataW Unit => strOf p.1) ∘ Go.WideElems.rg Tryz.prog 9 anyR) = ks.map (·.data.toList) := by
        intro l
        induction l with
        | nil => intro ks _ h; cases ks <;> simp at h ⊢
        | cons x l ih =>
          intro ks hsub h
          cases ks with
          | nil => simp at h
          | cons s ks =>
            simp only [List.map_cons, List.cons.injEq] at h ⊢
            refine ⟨?_, ih ks (fun y hy => hsub y (List.mem_cons_of_mem _ hy)) h.2⟩
            obtain ⟨s', he, hsz⟩ := hkey x (hsub x (List.mem_cons_self ..))
            have hss : s' = s := by rw [h.1] at he; exact (Value.string.inj he).symm
            subst hss
            simp [Go.WideElems.rg, hrd x (hsub x (List.mem_cons_self ..)) s' he hsz, strOf]
      exact h4 es.toList ks (fun _ h => h) h3
    rw [h2]
theorem keys_ok {w : World} {r : Nat} {K : Value → World → Prop}
    (hk : K (.func (.func 143) #[] #[.pointer (some ⟨w.heap.size, 0, none⟩)]) (w.alloc (.cells #[.map (some r)] 97))) :
    callP Tryz.prog 113 [.map (some r)] w K :=
  Calls.mono ((callsIn_wide (n := 5)).1 (Tryz.maps_Keys_113 (some r) w)) fun e w' ⟨he, hw⟩ => ⟨_, he, hw ▸ hk⟩
theorem sorted_ok {w : World} {r : Nat} {m : List (Value × Value)} {ks : List ByteArray} {K : Value → World → Prop} (h : Mp .string w r m) (hks : m.map (·.1) = ks.map .string) (hm : m.length ≤ 2 ^ 41) (hl : ∀ s ∈ ks, s.size ≤ maxLen)
    (hk : ∀ (p : Option Addr) (c : Nat) (ss : List (List UInt8)) (w' : World), ss.Perm (ks.map (·.data.toList)) → ss.Pairwise (· ≤ ·) → Rd w' p ss.length 1 (ss.map encS) → Ch (fun _ => False) w w' → K (.slice p ss.length c) w') :
    callP Tryz.prog 112 [.func (.func 143) #[] #[.pointer (some ⟨w.heap.size, 0, none⟩)]] (w.alloc (.cells #[.map (some r)] 97)) K := by
  obtain ⟨D, hD, hsz, hperm⟩ := owns_of_mp h hks (by unfold maxLen; omega) hl
  refine Calls.mono ((callsIn_wide (n := 5)).1 (Tryz.slices_Sorted_keys_112_113 r m.length D anyR w hD (by rw [hsz]; unfold maxLen; omega) (by rw [hsz]; omega))) fun e w' ⟨v, ss, he, hs, hrow, hnil, hb⟩ => ⟨v, he, ?_⟩
  have hch : Ch (fun _ => False) w w' := (alloc_ch w _).trans' (let ⟨b1, b2, b3, b4, b5⟩ := hb; ⟨b1, b2, b3, b4, fun b hlt _ => b5 b hlt⟩)
  have hlen : ((ss.mergeSort fun x y => decide (x ≤ y))).length = ss.length := List.length_mergeSort ..
  have hp2 : (ss.mergeSort fun x y => decide (x ≤ y)).Perm (ks.map (·.data.toList)) := (List.mergeSort_perm ..).trans (hs.trans hperm)
  have hsorted : (ss.mergeSort fun x y => decide (x ≤ y)).Pairwise (· ≤ ·) := by
    have := List.pairwise_mergeSort (le := fun x y : List UInt8 => decide (x ≤ y)) (fun a b c h1 h2 => by simp at h1 h2 ⊢; exact List.le_trans h1 h2) (fun a b => by simp; exact List.le_total a b) ss
    exact this.imp fun h => by simpa using h
  obtain ⟨h1, h2⟩ := hrow
  rcases h2 with ⟨rfl, h0⟩ | ⟨g, cap, cur, rfl, hg, hgb, hc1, _, hc2, hc3⟩
  · have := hk none 0 (ss.mergeSort fun x y => decide (x ≤ y)) w' hp2 hsorted ⟨by simp, by left; rw [hlen, h0]⟩ hch
    rw [hlen, h0] at this
    exact this
  · have := hk (some ⟨g, 0, none⟩) cap (ss.mergeSort fun x y => decide (x ≤ y)) w' hp2 hsorted ⟨by simp, .inr ⟨g, 0, cur.toList, rfl, by simp [cellsAt, hgb], by simp only [Array.length_toList]; rw [hlen]; omega, by
      rw [List.drop_zero, hlen, hc3]; rfl⟩⟩ hch
    rw [hlen] at this
    exact this
end Go.Proofs.YtipololccbdojaaGreatDoor
