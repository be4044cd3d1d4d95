/-
  The wrap of a law's statement where the row lists package variables; a world for its witness. Over every program.
-/
import Derived.Test.YtnibmhjdomndbaaDoorSvInp
import Derived.Deep.DeepHandedRow
import Derived.Lib.LaidTab
namespace Go.Sv
open Go Go.ChangeShapes Go.WideShapes Go.ChangeAt Go.RowKit
set_option linter.unusedVariables false
section
variable {H : Type} {enc : TypeId × Value → H}
theorem lift_laid {C : Checked} {os : Os} (started : os.Started) {f : FuncId} {fn : Func} {s : ChangeSpec} {o : OpenSpec} {k : (H : Type) → List (DataW H) → Bool} (M : Measure C.prog H) {dom : List PathCond} {laid : List (String × DataW Unit)} {tb : TypeId} {F : Stop.Interp}
    (ho : o = { OpenSpec.ofChange s with cond := some k }) (hM : ∀ ds : List (DataW H), k H ds = true → ∀ d ∈ ds, ∀ t, M.good t d)
    (own : ownKnob C.prog.godebug = none) (hl : laidOutB C.prog = true) (noInit : C.prog.inits.idxOf? f = none) (hfn : C.prog.funcs[f]? = some fn)
    (witness : ∃ (w : World) (tape : Tape) (i : Input), w.os = os ∧ (w.forCall tape i).Shaped C.prog ∧ i.vars = [] ∧ Input.okWide C.prog (w.forCall tape i) .any w.heap.size f i ∧
      o.preRow enc C.prog fn dom false laid (w.forCall tape i).memory i.args ∧ ({} : Assume).holds C.prog (lone (Frame.enter C.prog f i.args .normal) [] (w.forCall tape i)))
    (hvars : s.vars = []) (hfun : ∀ ds : List (DataW H), ds.length = fn.params.toList.length → s.fn H ds = { results := [.lit (.bool true)], args := ds })
    (hres : fn.resultTypes = #[tb]) (htb : C.prog.underlying tb = some .bool) (hrec : fn.params.toList.all (fun t => C.prog.readableRec t && decide (t < C.prog.types.size)) = true)
    (walk : ∀ (W : World) (args : Array Value), laidMetH C.prog laid W → InpAll C.prog W M.ok fn.params.toList args.toList →
      callP C.prog f args.toList W fun v w' => v = .bool true ∧ Ch (fun _ => False) W w') :
    ReturnsInHanded {} C os f .any (o.preRow enc C.prog fn dom false laid) ((o.at F).post enc C.prog fn false true false false) := by
  subst ho
  refine returnsInHanded_of_row own started noInit hfn witness ?_
  intro W base args ds gs before hval hW _ hk _ hL _ _
  exact law_contract M hl hvars hfun hres htb hrec hval hW (fun j t d ht hd => hM _ (hk k rfl) d (List.mem_append.2 (.inl (List.mem_of_getElem? hd))) t) (walk W args hL)
end
/-- a plain datum's cells -/
def flatD : Nat → DataW Unit → List Value
  | 0, _ => []
  | n + 1, d => match d with
    | .agg l => l.flatMap (flatD n)
    | .lit l => [l.value]
    | _ => []
/-- the settled world, with what package variables hold -/
noncomputable def laidW (P : Program) (os : Os) (gs : List (Nat × List Value)) : World :=
  { World.holding P os ⟨#[], #[], []⟩ with heap := gs.foldl (fun h g => h.modify g.1 fun | .cells _ t frozen => .cells g.2.toArray t frozen | o => o) (World.holding P os ⟨#[], #[], []⟩).heap }
end Go.Sv
