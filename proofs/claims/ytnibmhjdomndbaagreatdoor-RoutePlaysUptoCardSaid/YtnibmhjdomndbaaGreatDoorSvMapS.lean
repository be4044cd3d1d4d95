/-
  Maps in memory whose keys are of any kind that is held equal as it should be ('KL'): making, looking up, laying in, taking away, ranging. Over every program. Maps whose keys are structs of two plain fields.
-/
import Derived.Test.YtnibmhjdomndbaaGreatDoorSvLib
import Derived.WideKeyRuns
import Derived.Laws.StructEq
namespace Go.Sv
open Go MapKept
set_option linter.unusedVariables false

/-- keys of type kt, of the form Is, are found by being the same -/
structure KL (P : Program) (kt : TypeId) (Is : Value → Prop) : Prop where
  chk : ∀ (k : Value) (w : World) (b : Bool), Is k → (Instr.checkKey b 10000 kt k).run P w = .ok () w
  find : ∀ (k : Value) (l : List MapEntry) (w : World), Is k → (∀ x ∈ l, Is x.key) → ∃ a, (Instr.findKey kt k l).run P w = .ok a w ∧ ((a = none ∧ ∀ x ∈ l, x.key ≠ k) ∨ ∃ j e, a = some (j, e.val) ∧ l[j]? = some e ∧ e.key = k)
  stays : ∀ (k : Value) (w : World), Is k → (Instr.keyThatStays k k).run P w = .ok k w
theorem KL.plain {P : Program} {kt : TypeId} {d : TypeDesc} (hd : P.underlying kt = some d) : KL P kt (IsKey d) :=
  ⟨fun k w b hk => run_checkKey hd hk b 9999, fun k l w hk hl => by
    rcases findNow_spec hk l 0 hl with ⟨h1, h2⟩ | ⟨j, e, h1, h2, h3⟩
    · exact ⟨none, run_findKey hd h1, .inl ⟨rfl, h2⟩⟩
    · exact ⟨some (j, e.val), run_findKey hd (by rw [h1]; simp), .inr ⟨j, e, rfl, h2, h3⟩⟩, fun k w hk => run_keyThatStays hk⟩
theorem isKey_modifyK {Is : Value → Prop} {es : Array MapEntry} (h : ∀ x ∈ es.toList, Is x.key) (j : Nat) (f : MapEntry → MapEntry) (hf : ∀ e', es[j]? = some e' → (f e').key = e'.key) : ∀ x ∈ (es.modify j f).toList, Is x.key := by
  intro x hx
  obtain ⟨i, hi, rfl⟩ := List.mem_iff_getElem.1 hx
  simp only [Array.getElem_toList, Array.getElem_modify]
  have hil : i < es.size := by simpa using hi
  have h0 := h es[i] (by simp)
  split
  · rename_i e
    subst e
    rw [hf es[j] (by simp [hil])]; exact h0
  · exact h0
/-- map block r holds the pairs m, in this order; its keys are of the kind d -/
def MpK (Is : Value → Prop) (w : World) (r : Nat) (m : List (Value × Value)) : Prop :=
  ∃ es clock, w.heap[r]? = some (.map es clock) ∧ Stamped es clock ∧ (∀ x ∈ es.toList, Is x.key) ∧ es.toList.map (fun e => (e.key, e.val)) = m
theorem MpK.lt {Is : Value → Prop} {w : World} {r : Nat} {m : List (Value × Value)} (h : MpK Is w r m) : r < w.heap.size := by
  obtain ⟨es, c, hb, _⟩ := h; exact lt_of_heap hb
theorem MpK.ch {S : Nat → Prop} {Is : Value → Prop} {w w' : World} {r : Nat} {m : List (Value × Value)} (h : MpK Is w r m) (hc : Ch S w w') (hn : ¬ S r) : MpK Is w' r m := by
  have hlt := h.lt
  obtain ⟨es, c, hb, h⟩ := h
  exact ⟨es, c, by rw [hc.keep r hlt hn]; exact hb, h⟩
@[simp] theorem MpK_drew (Is : Value → Prop) (w : World) (r : Nat) (m : List (Value × Value)) : MpK Is w.drew r m ↔ MpK Is w r m := Iff.rfl
theorem MpK.nodup {Is : Value → Prop} {w : World} {r : Nat} {m : List (Value × Value)} (h : MpK Is w r m) : (m.map (·.1)).Nodup := by
  obtain ⟨es, c, _, hs, _, rfl⟩ := h
  have := hs.2.2
  simpa [List.map_map, Function.comp_def] using this
theorem MpK.keys {Is : Value → Prop} {w : World} {r : Nat} {m : List (Value × Value)} (h : MpK Is w r m) : ∀ p ∈ m, Is p.1 := by
  obtain ⟨es, c, _, _, hk, rfl⟩ := h
  intro p hp
  obtain ⟨e, he, rfl⟩ := List.mem_map.1 hp
  exact hk e he
theorem makeMapK_run (P : Program) (t : TypeId) (Is : Value → Prop) (w : World) : ∃ w', (Instr.makeMap t none).run P w = .ok (.map (some w.heap.size)) w' ∧ MpK Is w' w.heap.size [] ∧ Ch (fun _ => False) w w' ∧ w'.heap.size = w.heap.size + 1 :=
  ⟨w.alloc (.map #[] 0), by simp [Instr.makeMap, newObj, Result.andThen, Sem.run], ⟨#[], 0, heap_alloc_new w _, stamped_empty 0, by simp, rfl⟩, alloc_ch w _, by simp⟩
theorem KL.at {Is : Value → Prop} {P : Program} {kt : TypeId} (kl : KL P kt Is) {es : Array MapEntry} {k : Value} (hks : ∀ x ∈ es.toList, Is x.key) (hk : Is k) {m : List (Value × Value)} (hm : es.toList.map (fun e => (e.key, e.val)) = m) (w : World) :
    ((Instr.findKey kt k es.toList).run P w = .ok none w ∧ (∀ x ∈ es.toList, x.key ≠ k) ∧ ∀ p ∈ m, p.1 ≠ k) ∨
    ∃ j e, (Instr.findKey kt k es.toList).run P w = .ok (some (j, e.val)) w ∧ es.toList[j]? = some e ∧ e.key = k ∧ m[j]? = some (k, e.val) := by
  subst hm
  obtain ⟨a, ha, h⟩ := kl.find k es.toList w hk hks
  rcases h with ⟨rfl, h2⟩ | ⟨j, e, rfl, h2, h3⟩
  · refine .inl ⟨ha, h2, fun p hp => ?_⟩
    obtain ⟨x, hx, rfl⟩ := List.mem_map.1 hp
    exact h2 x hx
  · refine .inr ⟨j, e, ha, h2, h3, ?_⟩
    rw [List.getElem?_map, h2]; simp [h3]
theorem lookupK_run {P : Program} {t kt et : TypeId} {Is : Value → Prop} (ht : P.underlying t = some (.map kt et)) (kl : KL P kt Is) {z : Value} {w : World} (hz : (zeroValue et).run P w = .ok z w) {r : Nat} {m : List (Value × Value)} (h : MpK Is w r m) {k : Value} (hk : Is k) :
    (∃ v, (k, v) ∈ m ∧ (Instr.lookup t (.map (some r)) k false).run P w = .ok v w ∧ (Instr.lookup t (.map (some r)) k true).run P w = .ok (.tuple #[v, .bool true]) w) ∨
    ((∀ p ∈ m, p.1 ≠ k) ∧ (Instr.lookup t (.map (some r)) k false).run P w = .ok z w ∧ (Instr.lookup t (.map (some r)) k true).run P w = .ok (.tuple #[z, .bool false]) w) := by
  obtain ⟨es, c, hb, hs, hks, hm⟩ := h
  rcases kl.at hks hk hm w with ⟨h1, h2, h3⟩ | ⟨j, e, h1, h2, h3, h4⟩
  · right
    refine ⟨h3, ?_, ?_⟩ <;> simp [Instr.lookup, run_underlying ht, MapKept.run_getObj_map hb, kl.chk k w _ hk, h1, hz, Result.andThen]
  · left
    refine ⟨e.val, List.mem_of_getElem? h4, ?_, ?_⟩ <;> simp [Instr.lookup, run_underlying ht, MapKept.run_getObj_map hb, kl.chk k w _ hk, h1, Result.andThen]
theorem setIfK_ch {w : World} {r : Nat} (o' : Obj) : Ch (· = r) w { w with heap := w.heap.setIfInBounds r o' } :=
  ⟨rfl, rfl, rfl, by simp, fun b _ hn => by simp [Ne.symm hn]⟩
theorem split_atK {α : Type} {l : List α} {j : Nat} {x : α} (h : l[j]? = some x) : l = l.take j ++ x :: l.drop (j + 1) := by
  obtain ⟨hj, rfl⟩ := List.getElem?_eq_some_iff.1 h
  rw [List.getElem_cons_drop hj, List.take_append_drop]
theorem updateK_run {P : Program} {t kt et : TypeId} {Is : Value → Prop} (ht : P.underlying t = some (.map kt et)) (kl : KL P kt Is) {w : World} {r : Nat} {m : List (Value × Value)} (h : MpK Is w r m) {k : Value} (hk : Is k) (v : Value) :
    ∃ w' m', (Instr.mapUpdate t (.map (some r)) k v).run P w = .ok () w' ∧ MpK Is w' r m' ∧ Ch (· = r) w w' ∧ w'.heap.size = w.heap.size ∧
      ((∃ l1 v0 l2, m = l1 ++ (k, v0) :: l2 ∧ m' = l1 ++ (k, v) :: l2) ∨ ((∀ p ∈ m, p.1 ≠ k) ∧ m' = m ++ [(k, v)])) := by
  obtain ⟨es, c, hb, hs, hks, hm⟩ := h
  rcases kl.at hks hk hm w with ⟨h1, h2, h3⟩ | ⟨j, e, h1, h2, h3, h4⟩
  · refine ⟨_, m ++ [(k, v)], by
      simp [Instr.mapUpdate, run_underlying ht, MapKept.run_getObj_map hb, kl.chk k w _ hk, h1, run_setObj_map _ hb, Result.andThen]; rfl, ⟨_, _, (heap_set hb).1, stamped_push hs h2, ?_, ?_⟩, setIfK_ch _, by simp, .inr ⟨h3, rfl⟩⟩
    · intro x hx
      simp only [Array.toList_push, List.mem_append, List.mem_singleton] at hx
      rcases hx with hx | rfl
      · exact hks x hx
      · exact hk
    · simp [hm]
  · have hj : es[j]? = some e := by simpa using h2
    have hkey : ∀ e', es[j]? = some e' → ({ e' with key := k, val := v } : MapEntry).key = e'.key := fun e' he' => by rw [hj] at he'; cases he'; exact h3.symm
    refine ⟨{ w with heap := w.heap.setIfInBounds r (.map (es.modify j fun e => { e with key := k, val := v }) c) }, m.take j ++ (k, v) :: m.drop (j + 1), by
      simp [Instr.mapUpdate, run_underlying ht, MapKept.run_getObj_map hb, kl.chk k w _ hk, h1, hj, h3, kl.stays k w hk, run_setObj_map _ hb, Result.andThen],
      ⟨_, _, (heap_set hb).1, stamped_modify hs _ _ (fun _ _ => rfl) (fun e' _ he' => hkey e' he'), isKey_modifyK hks _ _ hkey, ?_⟩, setIfK_ch _, by simp, .inl ⟨m.take j, e.val, m.drop (j + 1), split_atK h4, rfl⟩⟩
    have hjl : j < m.length := (List.getElem?_eq_some_iff.1 h4).1
    subst hm
    simp only [List.length_map] at hjl
    apply List.ext_getElem?
    intro i
    simp only [List.getElem?_map, Array.getElem?_toList, Array.getElem?_modify]
    rcases Nat.lt_trichotomy i j with hij | rfl | hij
    · rw [if_neg (by omega), List.getElem?_append_left (by rw [List.length_take, List.length_map]; omega), List.getElem?_take, if_pos hij]; simp
    · rw [if_pos rfl, List.getElem?_append_right (by rw [List.length_take, List.length_map]; omega), hj, List.length_take, List.length_map, Nat.min_eq_left (Nat.le_of_lt hjl), Nat.sub_self]; simp
    · rw [if_neg (by omega), List.getElem?_append_right (by rw [List.length_take, List.length_map]; omega)]
      have e1 : i - (List.take j (List.map (fun e => (e.key, e.val)) es.toList)).length = (i - j - 1) + 1 := by rw [List.length_take, List.length_map]; omega
      rw [e1, List.getElem?_cons_succ, List.getElem?_drop, show j + 1 + (i - j - 1) = i by omega]; simp
theorem deleteK_run {P : Program} {t kt et ty : TypeId} {Is : Value → Prop} (ht : P.underlying t = some (.map kt et)) (kl : KL P kt Is) {w : World} {r : Nat} {m : List (Value × Value)} (h : MpK Is w r m) {k : Value} (hk : Is k) :
    ∃ w' m', (Builtin.delete_ #[t, kt] ty #[.map (some r), k]).run P w = .ok (.tuple #[]) w' ∧ MpK Is w' r m' ∧ Ch (· = r) w w' ∧ w'.heap.size = w.heap.size ∧
      ((∃ l1 v0 l2, m = l1 ++ (k, v0) :: l2 ∧ m' = l1 ++ l2) ∨ ((∀ p ∈ m, p.1 ≠ k) ∧ m' = m)) := by
  obtain ⟨es, c, hb, hs, hks, hm⟩ := h
  rcases kl.at hks hk hm w with ⟨h1, h2, h3⟩ | ⟨j, e, h1, h2, h3, h4⟩
  · exact ⟨_, m, by
      simp [Builtin.delete_, run_underlying ht, MapKept.run_getObj_map hb, kl.chk k w _ hk, h1, run_setObj_map _ hb, Result.andThen], ⟨_, _, (heap_set hb).1, hs, hks, hm⟩, setIfK_ch _, by simp, .inr ⟨h3, rfl⟩⟩
  · have hsub : (es.eraseIdxIfInBounds j).toList.Sublist es.toList := by
      unfold Array.eraseIdxIfInBounds
      split
      · simp only [Array.toList_eraseIdx]; exact List.eraseIdx_sublist _ _
      · exact List.Sublist.refl _
    refine ⟨_, m.take j ++ m.drop (j + 1), by
      simp [Builtin.delete_, run_underlying ht, MapKept.run_getObj_map hb, kl.chk k w _ hk, h1, run_setObj_map _ hb, Result.andThen],
      ⟨_, _, (heap_set hb).1, stamped_erase hs _, fun x hx => hks x (hsub.subset hx), ?_⟩, setIfK_ch _, by simp, .inl ⟨m.take j, e.val, m.drop (j + 1), split_atK h4, rfl⟩⟩
    have hjl : j < es.size := by
      have := (List.getElem?_eq_some_iff.1 h2).1
      simpa using this
    subst hm
    rw [← List.eraseIdx_eq_take_drop_succ]
    unfold Array.eraseIdxIfInBounds
    rw [dif_pos hjl]
    simp only [Array.toList_eraseIdx]
    rw [List.eraseIdx_eq_take_drop_succ, List.eraseIdx_eq_take_drop_succ, List.map_append, List.map_take, List.map_drop]
/-! ### Ranging -/
/-- iterator block it goes over map block r: m is what the map holds, and left, without order, what has not come out yet -/
def ItK (Is : Value → Prop) (w : World) (it r : Nat) (m left : List (Value × Value)) : Prop :=
  ∃ es clock since seen c0, w.heap[it]? = some (.mapIter (some r) since seen c0) ∧ w.heap[r]? = some (.map es clock) ∧ Stamped es clock ∧ (∀ x ∈ es.toList, Is x.key) ∧ es.toList.map (fun e => (e.key, e.val)) = m ∧
    (∀ x ∈ es.toList, x.born < since) ∧ since ≤ c0 ∧ since ≤ clock ∧ ((leftOf es seen).toList.map fun e => (e.key, e.val)) = left
theorem ItK.mp {Is : Value → Prop} {w : World} {it r : Nat} {m left : List (Value × Value)} (h : ItK Is w it r m left) : MpK Is w r m := by
  obtain ⟨es, clock, since, seen, c0, _, hb, hs, hk, hm, _⟩ := h
  exact ⟨es, clock, hb, hs, hk, hm⟩
theorem ItK.lt {Is : Value → Prop} {w : World} {it r : Nat} {m left : List (Value × Value)} (h : ItK Is w it r m left) : it < w.heap.size := by
  obtain ⟨es, clock, since, seen, c0, hi, _⟩ := h; exact lt_of_heap hi
theorem ItK.ch {S : Nat → Prop} {Is : Value → Prop} {w w' : World} {it r : Nat} {m left : List (Value × Value)} (h : ItK Is w it r m left) (hc : Ch S w w') (hi : ¬ S it) (hr : ¬ S r) : ItK Is w' it r m left := by
  have h1 := h.lt
  have h2 := h.mp.lt
  obtain ⟨es, clock, since, seen, c0, g1, g2, g⟩ := h
  exact ⟨es, clock, since, seen, c0, by rw [hc.keep _ h1 hi]; exact g1, by rw [hc.keep _ h2 hr]; exact g2, g⟩
@[simp] theorem ItK_drew (Is : Value → Prop) (w : World) (it r : Nat) (m left : List (Value × Value)) : ItK Is w.drew it r m left ↔ ItK Is w it r m left := Iff.rfl
theorem rangeK_run {P : Program} {t kt et : TypeId} {Is : Value → Prop} (ht : P.underlying t = some (.map kt et)) {w : World} {r : Nat} {m : List (Value × Value)} (h : MpK Is w r m) :
    ∃ w', (Instr.range t (.map (some r))).run P w = .ok (.pointer (some ⟨w.heap.size, 0, none⟩)) w' ∧ ItK Is w' w.heap.size r m m ∧ Ch (fun _ => False) w w' ∧ w'.heap.size = w.heap.size + 1 := by
  have hlt := h.lt
  obtain ⟨es, c, hb, hs, hk, hm⟩ := h
  refine ⟨_, run_range_map w t kt et r es c ht hb, ⟨es, c, c, #[], c, heap_alloc_new w _, ?_, hs, hk, hm, hs.1, Nat.le_refl _, Nat.le_refl _, ?_⟩, alloc_ch w _, by simp⟩
  · rw [heap_alloc_old w _ hlt]; exact hb
  · rw [← hm]
    unfold leftOf
    congr 1
    have : es.filter (fun e => !(#[] : Array Nat).contains e.born) = es := Array.filter_eq_self.2 fun x hx => by simp
    rw [this]
/-- one step: nothing is left; or some pair comes out, and 'entry' reads it -/
theorem nextK_run {P : Program} {ty : TypeId} {Is : Value → Prop} {w : World} {it r : Nat} {m left : List (Value × Value)} (h : ItK Is w it r m left) :
    (left = [] ∧ (Instr.next (.pointer (some ⟨it, 0, none⟩)) false ty).run P w = .ok (.tuple #[.bool false]) w) ∨
    ∃ k v l1 l2 w', left = l1 ++ (k, v) :: l2 ∧ (k, v) ∈ m ∧ (Instr.next (.pointer (some ⟨it, 0, none⟩)) false ty).run P w = .ok (.tuple #[.bool true, k, v]) w' ∧
      (Instr.entry (.pointer (some ⟨it, 0, none⟩))).run P w' = .ok (.tuple #[k, v]) w' ∧ ItK Is w' it r m (l1 ++ l2) ∧ Ch (· = it) w w' ∧ w'.heap.size = w.heap.size := by
  have hne : it ≠ r := fun e => by
    obtain ⟨es, clock, since, seen, c0, g1, g2, _⟩ := h
    rw [e, g2] at g1; cases g1
  have hlt := h.lt
  obtain ⟨es, clock, since, seen, c0, g1, g2, hs, hk, hm, hold, hsc, hcl, hl⟩ := h
  rcases run_next_at (P := P) w ty it r since c0 seen es clock g1 g2 hold hsc with ⟨h0, h1⟩ | ⟨e, he, w1, hw1, h1⟩
  · left
    refine ⟨?_, h1⟩
    rw [← hl]
    have : (leftOf es seen).toList = [] := List.eq_nil_of_length_eq_zero (by simpa using h0)
    rw [this]; rfl
  · right
    have hw : Ch (fun _ => False) w w1 ∧ w1.heap = w.heap := by
      rcases hw1 with rfl | rfl
      · exact ⟨Ch.refl _ _, rfl⟩
      · exact ⟨Ch.drew w, rfl⟩
    have hem := mem_left he
    obtain ⟨i, hi⟩ := List.getElem?_of_mem he
    have hsp := split_atK hi
    have hr' : (ChangeMaps.setBlock w1 it (.mapIter (some r) since (seen.push e.born) clock)).heap[it]? = some (.mapIter (some r) since (seen.push e.born) clock) := by
      simp [ChangeMaps.setBlock, hw.2, hlt]
    have hb' : (ChangeMaps.setBlock w1 it (.mapIter (some r) since (seen.push e.born) clock)).heap[r]? = some (.map es clock) := by
      simp [ChangeMaps.setBlock, hw.2, hne, g2]
    have hnd : ((leftOf es seen).toList.map (·.born)).Nodup := by
      have hsub : (leftOf es seen).toList.Sublist es.toList := by
        unfold leftOf; rw [Array.toList_filter]; exact List.filter_sublist
      exact (hsub.map _).nodup hs.2.1
    refine ⟨e.key, e.val, ((leftOf es seen).toList.take i).map fun e => (e.key, e.val), ((leftOf es seen).toList.drop (i + 1)).map fun e => (e.key, e.val), _, ?_, ?_, h1,
      run_entry_at _ it r since seen es clock e hr' hb' hem.1 hs.2.1, ⟨es, clock, since, seen.push e.born, clock, hr', hb', hs, hk, hm, hold, hcl, hcl, ?_⟩, ?_, ?_⟩
    · rw [← hl, ← List.map_cons (f := fun e : MapEntry => (e.key, e.val)), ← List.map_append, ← hsp]
    · rw [← hm]; exact List.mem_map.2 ⟨e, hem.1, rfl⟩
    · rw [← List.map_append]
      congr 1
      have h2 : (leftOf es (seen.push e.born)).toList = (leftOf es seen).toList.filter fun x => !(x.born == e.born) := by
        unfold leftOf
        simp only [Array.toList_filter, List.filter_filter]
        congr 1
        funext x
        rw [contains_push]
        cases seen.contains x.born <;> cases (x.born == e.born) <;> rfl
      rw [h2]
      conv => lhs; rw [hsp]
      rw [hsp, List.map_append, List.map_cons] at hnd
      obtain ⟨n1, n2, n3⟩ := List.nodup_append.1 hnd
      rw [List.filter_append, List.filter_cons]
      simp only [BEq.rfl, Bool.not_true, Bool.false_eq_true, if_false]
      congr 1
      · refine List.filter_eq_self.2 fun x hx => ?_
        have := n3 x.born (List.mem_map.2 ⟨x, hx, rfl⟩) e.born (by simp)
        simp [this]
      · refine List.filter_eq_self.2 fun x hx => ?_
        have := (List.nodup_cons.1 n2).1
        have hx2 : x.born ≠ e.born := fun q => this (q ▸ List.mem_map.2 ⟨x, hx, rfl⟩)
        simp [hx2]
    · refine ⟨hw.1.os, hw.1.tape, hw.1.output, by simp [ChangeMaps.setBlock, hw.2], fun b hb hn => ?_⟩
      simp [ChangeMaps.setBlock, hw.2, Ne.symm hn]
    · simp [ChangeMaps.setBlock, hw.2]
end Go.Sv
namespace Go.Sv
open Go MapKept
set_option linter.unusedVariables false
def Is2 (I0 I1 : Value → Prop) (v : Value) : Prop := ∃ a b, v = .agg #[a, b] ∧ I0 a ∧ I1 b
/-- what is asked of a field of a key -/
structure KF (P : Program) (t : TypeId) (I : Value → Prop) : Prop where
  plain : P.plainKey t = true
  eq : ∀ (a b : Value) (w : World), I a → I b → ∃ r : Bool, (Op.equalIn 9999 t a b).run P w = .ok r w ∧ (r = true ↔ a = b)
  chk : ∀ (a : Value) (w : World) (em : Bool) (n : Nat), I a → (Instr.checkKey em (n + 1) t a).run P w = .ok () w
def isStrV (v : Value) : Prop := ∃ s, v = .string s
def isU16V (v : Value) : Prop := ∃ n, v = .int .u16 n
theorem KF.str {P : Program} {t : TypeId} (ht : P.underlying t = some .string) : KF P t isStrV where
  plain := by unfold Program.plainKey; rw [ht]
  eq := by
    rintro _ _ w ⟨a, rfl⟩ ⟨b, rfl⟩
    refine ⟨_, run_equalIn_string w 9998 t a b ht, ?_⟩
    rw [beq_iff_eq, ByteArray.toList_eq, ByteArray.toList_eq]
    exact ⟨fun h => by rw [Go.WideShapes.bytes_inj h], fun h => by cases h; rfl⟩
  chk := by
    rintro _ w em n ⟨a, rfl⟩
    simp [Instr.checkKey, run_underlying ht]
theorem KF.u16 {P : Program} {t : TypeId} (ht : P.underlying t = some (.int .u16)) : KF P t isU16V where
  plain := by unfold Program.plainKey; rw [ht]
  eq := by
    rintro _ _ w ⟨a, rfl⟩ ⟨b, rfl⟩
    refine ⟨_, run_equalIn_int w 9998 t .u16 .u16 a b ht, ?_⟩
    rw [beq_iff_eq]
    exact ⟨fun h => by rw [h], fun h => by cases h; rfl⟩
  chk := by
    rintro _ w em n ⟨a, rfl⟩
    simp [Instr.checkKey, run_underlying ht]
theorem KL.two {P : Program} {kt : TypeId} {f0 f1 : Field} {I0 I1 : Value → Prop} (ht : P.underlying kt = some (.struct #[f0, f1])) (hp : P.stoodInHeld kt = false) (n0 : f0.name ≠ "_") (n1 : f1.name ≠ "_") (o0 : f0.offset = 0) (o1 : f1.offset = 1)
    (F0 : KF P f0.type I0) (F1 : KF P f1.type I1) (hs : ∀ k, Is2 I0 I1 k → Instr.sameBits 10000 k k = true) : KL P kt (Is2 I0 I1) where
  chk := by
    rintro _ w em ⟨a, b, rfl, ha, hb⟩
    have p0 := run_part_plain (P := P) w F0.plain (xs := #[a, b]) (off := 0) (v := a) rfl
    have p1 := run_part_plain (P := P) w F1.plain (xs := #[a, b]) (off := 1) (v := b) rfl
    have : ∀ n, (Instr.checkKey em (n + 1 + 1) kt (.agg #[a, b])).run P w = .ok () w := fun n => by
      rw [Instr.checkKey]
      simp [run_underlying ht, n0, n1, o0, o1, p0, p1, F0.chk a w em n ha, F1.chk b w em n hb]
    exact this 9998
  find := by
    rintro _ l w ⟨a, b, rfl, ha, hb⟩ hl
    have heq : ∀ c d, I0 c → I1 d → ∃ r : Bool, (Op.equal kt (.agg #[a, b]) (.agg #[c, d])).run P w = .ok r w ∧ (r = true ↔ Value.agg #[c, d] = Value.agg #[a, b]) := fun c d hc hd => by
      have hf : P.fieldsOf kt = #[f0, f1] := by unfold Program.fieldsOf; rw [ht]
      have p0 := run_part_plain (P := P) w F0.plain (xs := #[a, b]) (off := 0) (v := a) rfl
      have p1 := run_part_plain (P := P) w F1.plain (xs := #[a, b]) (off := 1) (v := b) rfl
      have q0 := run_part_plain (P := P) w F0.plain (xs := #[c, d]) (off := 0) (v := c) rfl
      have q1 := run_part_plain (P := P) w F1.plain (xs := #[c, d]) (off := 1) (v := d) rfl
      have := run_equalIn_struct (P := P) w 9999 kt #[a, b] #[c, d] (by rw [hf]; exact ht) hp
      obtain ⟨r0, e0, g0⟩ := F0.eq a c w ha hc
      obtain ⟨r1, e1, g1⟩ := F1.eq b d w hb hd
      refine ⟨r0 && r1, this.trans ?_, ?_⟩
      · rw [hf]
        generalize (9999 : Nat) = m at *
        cases r0 <;> cases r1 <;> simp [Op.eqFields, n0, n1, o0, o1, p0, p1, q0, q1, e0, e1]
      · rw [Bool.and_eq_true, g0, g1]
        exact ⟨fun ⟨h1, h2⟩ => by rw [h1, h2], fun h => by cases h; exact ⟨rfl, rfl⟩⟩
    have hrun : (Instr.findKey kt (.agg #[a, b]) l).run P w = (Instr.findAsking kt (.agg #[a, b]) l).run P w := run_findKey_eq (P := P) w (by rw [ht]) _ _
    rw [hrun]
    have key : ∀ (l : List MapEntry) (i : Nat), (∀ x ∈ l, Is2 I0 I1 x.key) → ∃ r, (Instr.findAsking kt (.agg #[a, b]) l i).run P w = .ok r w ∧ ((r = none ∧ ∀ x ∈ l, x.key ≠ .agg #[a, b]) ∨ ∃ j e, r = some (i + j, e.val) ∧ l[j]? = some e ∧ e.key = .agg #[a, b]) := by
      intro l
      induction l with
      | nil => intro i _; exact ⟨none, by simp [Instr.findAsking], .inl ⟨rfl, by simp⟩⟩
      | cons e l ih =>
        intro i hl
        obtain ⟨c, d, hk, hc, hd⟩ := hl e (by simp)
        obtain ⟨r0, this, hr0⟩ := heq c d hc hd
        rw [← hk] at this hr0
        by_cases h : e.key = .agg #[a, b]
        · exact ⟨some (i, e.val), by simp [Instr.findAsking, this, hr0.2 h], .inr ⟨0, e, rfl, rfl, h⟩⟩
        · obtain ⟨r, h1, h2⟩ := ih (i + 1) fun x hx => hl x (by simp [hx])
          have hr1 : r0 = false := by cases r0; rfl; exact absurd (hr0.1 rfl) h
          refine ⟨r, by simp [Instr.findAsking, this, hr1, h1], ?_⟩
          rcases h2 with ⟨h2, h3⟩ | ⟨j, e', h2, h3, h4⟩
          · exact .inl ⟨h2, fun x hx => by rcases List.mem_cons.1 hx with rfl | hx; exact h; exact h3 x hx⟩
          · exact .inr ⟨j + 1, e', by rw [h2]; congr 2; omega, by simpa using h3, h4⟩
    obtain ⟨r, h1, h2⟩ := key l 0 hl
    refine ⟨r, h1, h2.imp id fun ⟨j, e, h3, h4, h5⟩ => ⟨j, e, by simpa using h3, h4, h5⟩⟩
  stays := by
    intro k w hk
    simp [Instr.keyThatStays, hs k hk]
end Go.Sv
