/-
  Ranges over functions: the loop's record and the block of deferred calls, as memory. Over every program.
-/
import Derived.Test.YtipbbjnmpnfhpaaDoorSvRow
namespace Go.Sv
open Go
set_option linter.unusedVariables false
theorem putObj_ch (w : World) (l : Nat) (o : Obj) : Ch (· = l) w (w.putObj l o) :=
  ⟨rfl, rfl, rfl, by simp [World.putObj], fun b hb hn => by
    simp only [World.putObj]
    rw [Array.getElem?_setIfInBounds_ne (fun e => hn e.symm)]⟩
theorem putObj_at {w : World} {l : Nat} (h : l < w.heap.size) (o : Obj) : objAt (w.putObj l o) l = some o := by
  unfold objAt
  simp [World.putObj, h]
@[simp] theorem putObj_size (w : World) (l : Nat) (o : Obj) : (w.putObj l o).heap.size = w.heap.size := by simp [World.putObj]
theorem objAt_ch {S : Nat → Prop} {w w' : World} {l : Nat} {o : Obj} (h : objAt w l = some o) (c : Ch S w w') (hn : ¬ S l) : objAt w' l = some o := by
  unfold objAt at h ⊢
  rw [c.keep l (lt_of_heap h) hn]; exact h
theorem objAt_lt {w : World} {l : Nat} {o : Obj} (h : objAt w l = some o) : l < w.heap.size := lt_of_heap h
theorem alloc_obj (w : World) (o : Obj) : objAt (w.alloc o) w.heap.size = some o := heap_alloc_new w o
theorem recAt.put {w : World} {l : Nat} {rc : LoopR} {s s' : LoopState} {j j' : Option Code} (h : recAt w l rc s j) : recAt (w.putObj l (rc s' j')) l rc s' j' := putObj_at (objAt_lt h) _
theorem recAt.ch {S : Nat → Prop} {w w' : World} {l : Nat} {rc : LoopR} {s : LoopState} {j : Option Code} (h : recAt w l rc s j) (c : Ch S w w') (hn : ¬ S l) : recAt w' l rc s j := objAt_ch h c hn
theorem takeM_of {w : World} {r : Nat} {K : World → Prop} (h : objAt w r = some (.deferred (some []))) (hk : ∀ w', Ch (· = r) w w' → w'.heap.size = w.heap.size → K w') : takeM w r K := ⟨h, hk _ (putObj_ch w r _) (by simp)⟩
end Go.Sv
