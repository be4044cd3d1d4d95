/-
  SieveThree: the card.
-/
import Derived.Test.YtnmlmicmhpkbeaaGreatDoorVe1
import Derived.Test.YtnmlmicmhpkbeaaGreatDoorIc
set_option linter.unusedVariables false
set_option linter.unusedSimpArgs false
namespace Go.Proofs.YtnmlmicmhpkbeaaGreatDoor
open Go Go.Sv Go.Note Go.ChangeShapes
set_option linter.unusedVariables false
set_option Elab.async false
set_option maxRecDepth 100000
namespace sieveThree
theorem plain (f : FuncId) (fn : Func) (hf : Tryz.pinned.checked.prog.funcNamed "longshore/longshorelaw16.SieveThree" = some f) (hfn : Tryz.pinned.checked.prog.funcs[f]? = some fn) :
    true = Tryz.pinned.checked.prog.looks [] ∧ ∀ (j : Nat) t, fn.params[j]? = some t → Tryz.pinned.checked.prog.wantsStandIn t = false := by
  obtain rfl : f = 6 := Option.some.inj ((show Tryz.prog.funcNamed "longshore/longshorelaw16.SieveThree" = some 6 by kernel_rfl).symm.trans hf) |>.symm
  obtain rfl : fn = Tryz.f6 := (Option.some.inj (Tryz.func6.symm.trans hfn)).symm
  have hall : Tryz.f6.params.toList.all (fun t => Tryz.prog.wantsStandIn t == false) = true := k5
  refine ⟨k4, fun j t ht => ?_⟩
  have := List.all_eq_true.1 hall t (Array.mem_toList_iff.2 (Array.mem_of_getElem? ht))
  exact eq_of_beq this
theorem proved : Rows.SieveThreeUptoCardSaid :=
  Claim7.holds_tied_plain_at .later [] _ _ _ _ over (fun _ h => by cases h) k1 (fun _ h => by cases h) sieveThreeUpto_row_tie rfl ⟨rfl, rfl⟩ k2 rfl plain k3
end sieveThree
#print axioms sieveThree.proved
end Go.Proofs.YtnmlmicmhpkbeaaGreatDoor
