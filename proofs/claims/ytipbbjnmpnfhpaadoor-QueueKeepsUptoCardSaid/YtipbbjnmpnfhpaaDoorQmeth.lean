/-
  The queue's heap behind its interface: its methods.
-/
import Derived.Test.YtipbbjnmpnfhpaaDoorQless
namespace Go.Proofs.YtipbbjnmpnfhpaaDoor
open Go Go.Sv
set_option linter.unusedVariables false
set_option maxRecDepth 100000
theorem methPush (h : Value) (w : World) : (Go.method (Tryd.prog.types.size + Made.depth) 66 h "Push").run Tryd.prog w = .ok (117, h) w := by kernel_rfl
theorem methPop (h : Value) (w : World) : (Go.method (Tryd.prog.types.size + Made.depth) 66 h "Pop").run Tryd.prog w = .ok (116, h) w := by kernel_rfl
theorem methLen0 (a : Addr) (w : World) : (Go.method (Tryd.prog.types.size + Made.depth) 66 (.pointer (some a)) "Len").run Tryd.prog w = (do let v ← loadVar 60 a; pure (113, v) : Sem _).run Tryd.prog w := by kernel_rfl
theorem methLess0 (a : Addr) (w : World) : (Go.method (Tryd.prog.types.size + Made.depth) 66 (.pointer (some a)) "Less").run Tryd.prog w = (do let v ← loadVar 60 a; pure (114, v) : Sem _).run Tryd.prog w := by kernel_rfl
theorem methSwap0 (a : Addr) (w : World) : (Go.method (Tryd.prog.types.size + Made.depth) 66 (.pointer (some a)) "Swap").run Tryd.prog w = (do let v ← loadVar 60 a; pure (115, v) : Sem _).run Tryd.prog w := by kernel_rfl
theorem load_free {a : Addr} {w : World} {v : Value} (h : w.cell? a = some v) (f : FuncId) : (do let v ← loadVar 60 a; pure (f, v) : Sem _).run Tryd.prog w = .ok (f, v) w := by
  have hag : isAggB Tryd.prog 60 = false := by kernel_rfl
  simp only [loadVar, Sem.run_bind, Sem.run_pure, Result.andThen_ok, run_isAgg Tryd.underlying60, hag, if_false, Bool.false_eq_true, run_load, h]
abbrev fH (a : Addr) : Value := .iface 66 (.pointer (some a))
theorem iLen {a : Addr} {w : World} {p : Option Addr} {n c : Nat} {K : Value → World → Prop} (h : w.cell? a = some (.slice p n c)) (hk : K (.int .i64 (n : Int)) w) : callI Tryd.prog none (fH a) "Len" [] w K :=
  ⟨_, _, _, _, rfl, by rw [methLen0, load_free h], .inl ⟨by kernel_rfl, flen_ok hk⟩⟩
theorem iLess {a : Addr} {w : World} {p : Option Addr} {n c i j : Nat} {L : List En} {x y : En} {K : Value → World → Prop} (h : w.cell? a = some (.slice p n c)) (hr : Rd w p n 7 (L.flatMap En.cells)) (hl : L.length = n) (hi : L[i]? = some x) (hj : L[j]? = some y)
    (hk : ∀ w', Ch (fun _ => False) w w' → K (.bool (x.lt y)) w') : callI Tryd.prog none (fH a) "Less" [.int .i64 (i : Int), .int .i64 (j : Int)] w K :=
  ⟨_, _, _, _, rfl, by rw [methLess0, load_free h], .inl ⟨by kernel_rfl, fless_ok hr hl hi hj hk⟩⟩
theorem iSwap {a : Addr} {w : World} {p : Option Addr} {n c i j : Nat} {L : List En} {own : Option Nat} {x y : En} {K : Value → World → Prop} (h : w.cell? a = some (.slice p n c)) (ho : Ow w p n c 7 (L.flatMap En.cells) own) (hl : L.length = n) (hi : L[i]? = some x) (hj : L[j]? = some y)
    (hk : ∀ w', Ow w' p n c 7 (((L.set i y).set j x).flatMap En.cells) own → Ch (fun b => own = some b) w w' → w'.heap.size = w.heap.size → K (.tuple #[]) w') : callI Tryd.prog none (fH a) "Swap" [.int .i64 (i : Int), .int .i64 (j : Int)] w K :=
  ⟨_, _, _, _, rfl, by rw [methSwap0, load_free h], .inl ⟨by kernel_rfl, fswap_ok ho hl hi hj hk⟩⟩
end Go.Proofs.YtipbbjnmpnfhpaaDoor
