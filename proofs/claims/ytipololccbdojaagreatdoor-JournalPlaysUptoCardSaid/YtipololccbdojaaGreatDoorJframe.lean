/-
  The frame of the journal's laws: what the listed variables hold; a world for the witness.
-/
import Derived.Test.YtipololccbdojaaGreatDoorCards
import Derived.Test.YtipololccbdojaaGreatDoorTie
import Derived.Test.YtipololccbdojaaGreatDoorSvUpto
import Derived.Test.YtipololccbdojaaGreatDoorSvLaid
import Derived.Test.YtipololccbdojaaGreatDoorJis
import Derived.LaidLaws
import Derived.LaidHandle
import Derived.LaidSub
namespace Go.Proofs.YtipololccbdojaaGreatDoor
open Go Go.Sv Go.ChangeShapes
set_option linter.unusedVariables false
set_option maxRecDepth 100000
theorem own : ownKnob Tryz.prog.godebug = none := by kernel_rfl
theorem laidOut : laidOutB Tryz.prog = true := by kernel_rfl
theorem gB : Tryz.prog.globalNamed "longshore/journal.errBroken" = some 0 := by kernel_rfl
theorem gE : Tryz.prog.globalNamed "errors.errorType" = some 1 := by kernel_rfl
theorem gS : Tryz.prog.globalNamed "longshore/journal.errShort" = some 2 := by kernel_rfl
theorem tyB : (Tryz.prog.globals[0]?).map (·.type) = some 83 := by kernel_rfl
theorem tyS : (Tryz.prog.globals[2]?).map (·.type) = some 83 := by kernel_rfl
theorem rtyNo : (Tryz.prog.cutTypes.find? (·.1 == "internal/reflectlite.rtype")).map (·.2) = some 176 := by kernel_rfl
theorem errRow : ((List.range Tryz.prog.types.size).filter fun t => Tryz.prog.rowNamed t [101, 114, 114, 111, 114]) = [83] := by kernel_rfl
theorem starE : "*errors.errorString" = "*" ++ "errors.errorString" := by rfl
theorem rowE (u : TypeId) (h : Tryz.prog.typeName? 3 u = some "*errors.errorString") : u = 233 :=
  typeName_ptr_named (nm := "errors.errorString") (by rw [← starE]; kernel_rfl) (by kernel_rfl) (by decide) u (by rw [← starE]; exact h)
theorem cellsE : Tryz.prog.cellsOf 253 = 1 := by kernel_rfl
theorem cellsStr : Tryz.prog.cellsOf 9 = 1 := by kernel_rfl
theorem errs_of_laid {W : World} (h : laidMetH Tryz.prog [("errors.errorType", Rows.laid_errors_errorType), ("longshore/journal.errShort", Rows.laid_longshore_journal_errShort), ("longshore/journal.errBroken", Rows.laid_longshore_journal_errBroken)] W) : ∃ aB aS, ErrsA W aB aS := by
  obtain ⟨hdd, hh⟩ := laidMetH_iff.1 h
  have hh' : handlesMet Tryz.prog [("errors.errorType", Rows.laid_errors_errorType)] W := hh
  have hd' : laidMet Tryz.prog [("longshore/journal.errShort", Rows.laid_longshore_journal_errShort), ("longshore/journal.errBroken", Rows.laid_longshore_journal_errBroken)] W := hdd
  have hty : W.cell? ⟨1, 0, none⟩ = some (rty 83) := by
    obtain ⟨name, u, ty, e1, e2, e3, e4, e5⟩ := hh' _ (List.mem_singleton.2 rfl)
    have en : name = [101, 114, 114, 111, 114] := (Option.some.inj e1).symm
    subst en
    obtain rfl := Option.some.inj (rtyNo.symm.trans e2)
    have hm : ty ∈ (List.range Tryz.prog.types.size).filter fun t => Tryz.prog.rowNamed t [101, 114, 114, 111, 114] := List.mem_filter.2 ⟨List.mem_range.2 e3, e4⟩
    rw [errRow] at hm
    obtain rfl := List.mem_singleton.1 hm
    have hh : typeHandle Tryz.prog 83 = hd 83 := by kernel_rfl
    rw [hh] at e5
    simpa using World.var?_cell gE e5 0
  obtain ⟨ps, ⟨g0, t0, cs0, f0, p0, q0, hg0, ht0, hv0, hd0, ⟨g1, t1, cs1, f1, p1, q1, hg1, ht1, hv1, hd1, hq1, e1⟩, e0⟩, hnd, hrows⟩ := hd'
  obtain rfl := Option.some.inj (gS.symm.trans hg0)
  obtain rfl := Option.some.inj (gB.symm.trans hg1)
  obtain rfl := Option.some.inj (tyS.symm.trans ht0)
  obtain rfl := Option.some.inj (tyB.symm.trans ht1)
  have hq1' : q1 = [] := hq1
  subst hq1'
  subst e1
  subst e0
  obtain ⟨l0⟩ := cs0
  obtain ⟨l1⟩ := cs1
  have ok0 : ∀ u v, l0 = [.iface u v] → Value.okWide Tryz.prog W .any 0 u v := fun u v e => by
    subst e
    exact (hrows 2 0 (by simp [MemPlace.row])).2 u v (by simpa using World.var?_cell hg0 hv0 0)
  have ok1 : ∀ u v, l1 = [.iface u v] → Value.okWide Tryz.prog W .any 0 u v := fun u v e => by
    subst e
    exact (hrows 0 0 (by simp [MemPlace.row])).2 u v (by simpa using World.var?_cell hg1 hv1 0)
  obtain ⟨a0, s0, rfl, hc0, hs0, hz0, rfl⟩ := errorString_of_trod Tryz.underlying83 rowE Tryz.underlying233 Tryz.underlying253 rfl rfl Tryz.underlying9 cellsE cellsStr hd0 ok0
  obtain ⟨a1, s1, rfl, hc1, hs1, hz1, rfl⟩ := errorString_of_trod Tryz.underlying83 rowE Tryz.underlying233 Tryz.underlying253 rfl rfl Tryz.underlying9 cellsE cellsStr hd1 ok1
  obtain ⟨c0, t0, hb0⟩ := (hrows a0.block a0.off (by simp [MemPlace.row])).1
  obtain ⟨c1, t1, hb1⟩ := (hrows a1.block a1.off (by simp [MemPlace.row])).1
  refine ⟨a1, a0, ⟨⟨by simpa using World.var?_cell hg1 hv1 0, by simpa using World.var?_cell hg0 hv0 0⟩, hty, ⟨c1, t1, hb1⟩, ⟨c0, t0, hb0⟩, ?_⟩⟩
  rintro rfl
  simp [MemPlace.row] at hnd
/-- a world for the witness -/
noncomputable def jW (os : Os) : World :=
  let w0 := World.holding Tryz.prog os ⟨#[], #[], []⟩
  let w2 := (w0.alloc (.cells #[.string ⟨#[110, 111, 32, 98, 97, 116, 99, 104]⟩] 253)).alloc (.cells #[.string ⟨#[97, 32, 98, 97, 116, 99, 104, 32, 116, 104, 97, 116, 32, 101, 110, 100, 115, 32, 116, 111, 111, 32, 101, 97, 114, 108, 121]⟩] 253)
  { w2 with heap := ((w2.heap.modify 0 fun | .cells _ t fz => .cells #[eV ⟨w0.heap.size, 0, none⟩] t fz | o => o).modify 1 fun | .cells _ t fz => .cells #[rty 83] t fz | o => o).modify 2 fun | .cells _ t fz => .cells #[eV ⟨w0.heap.size + 1, 0, none⟩] t fz | o => o }
end Go.Proofs.YtipololccbdojaaGreatDoor
