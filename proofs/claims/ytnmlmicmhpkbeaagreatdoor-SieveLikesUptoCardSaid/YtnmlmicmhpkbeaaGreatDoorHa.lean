/-
  The frame of the sieve's laws: whole numbers as arguments.
-/
import Derived.Test.YtnmlmicmhpkbeaaGreatDoorPy29
import Derived.Test.YtnmlmicmhpkbeaaGreatDoorCards
import Derived.Test.YtnmlmicmhpkbeaaGreatDoorTie
import Derived.Lay
import Derived.LaidLaws
import Derived.LaidHandle
import Derived.LaidSub
import Derived.Lib.LaidU8T
import Derived.PinnedBridge
import Derived.Deep.DeepWitnessRowRef
set_option linter.unusedVariables false
set_option linter.unusedSimpArgs false
namespace Go.Proofs.YtnmlmicmhpkbeaaGreatDoor
open Go Go.Sv Go.Note Go.ChangeShapes
set_option linter.unusedVariables false
set_option maxRecDepth 100000
theorem own : ownKnob Tryz.prog.godebug = none := by kernel_rfl
theorem laidOut : laidOutB Tryz.prog = true := by kernel_rfl
/-- the shelf's names for the tables of utf8, in this program -/
def ren : Shelf.Ren := ⟨fun x => x, fun x => if x = 5 then 5 else if x = 119 then 222 else if x = 138 then 224 else if x = 139 then 225 else x, fun x => if x = 3 then 1 else if x = 4 then 2 else x⟩
theorem u8T : U8Types Tryz.prog ren := ⟨by kernel_rfl, by kernel_rfl, by kernel_rfl, by kernel_rfl⟩
theorem u8X : U8Extra Tryz.prog ren := ⟨by kernel_rfl, by kernel_rfl, by kernel_rfl, by kernel_rfl, by kernel_rfl, by kernel_rfl, by kernel_rfl⟩
abbrev laidL : List (String × DataW Unit) := Rows.sieveFitsUptoRow.laid
theorem gSyn : Tryz.prog.globalNamed "strconv.ErrSyntax" = some 11 := by kernel_rfl
theorem gRan : Tryz.prog.globalNamed "strconv.ErrRange" = some 12 := by kernel_rfl
theorem gPow : Tryz.prog.globalNamed "internal/strconv.uint64pow10" = some 4 := by kernel_rfl
theorem gLast : Tryz.prog.globalNamed "internal/strconv.float64pow10" = some 17 := by kernel_rfl
theorem tySyn : (Tryz.prog.globals[11]?).map (·.type) = some 154 := by kernel_rfl
theorem tyRan : (Tryz.prog.globals[12]?).map (·.type) = some 154 := by kernel_rfl
theorem tyPow : (Tryz.prog.globals[4]?).map (·.type) = some 243 := by kernel_rfl
theorem err_of {W : World} {n : String} {g : Nat} {nm : String} {d : DataW Unit} (hg : Tryz.prog.globalNamed n = some g) (hty : (Tryz.prog.globals[g]?).map (·.type) = some 154) (h : Lib.VarReads Tryz.prog W n (.iface nm d)) : ∃ te pe, W.cell? ⟨g, 0, none⟩ = some (.iface te pe) := by
  obtain ⟨g', t, cs, fuel, p, hg', hty', hvar, hd⟩ := h
  obtain rfl := Option.some.inj (hg.symm.trans hg')
  obtain rfl := Option.some.inj (hty.symm.trans hty')
  obtain ⟨f1, u, v, hcs, hn, h1⟩ := iface_of_trod Tryz.underlying154 hd
  refine ⟨u, v, ?_⟩
  rw [World.var?_cell hg hvar 0, ← Array.getElem?_toList, hcs]; rfl
theorem lw_of_laid {W : World} (h : laidMetH Tryz.prog laidL W) : LW W := by
  have hd : laidMet Tryz.prog laidL W := (laidMetH_iff.1 h).1
  have r1 : Lib.VarReads Tryz.prog W "unicode/utf8.first" Rows.laid_unicode_utf8_first := Lib.laidMet.reads hd (by simp [laidL, Rows.sieveFitsUptoRow])
  have r2 : Lib.VarReads Tryz.prog W "unicode/utf8.acceptRanges" Rows.laid_unicode_utf8_acceptRanges := Lib.laidMet.reads hd (by simp [laidL, Rows.sieveFitsUptoRow])
  have r3 : Lib.VarReads Tryz.prog W "strconv.ErrSyntax" Rows.laid_strconv_ErrSyntax := Lib.laidMet.reads hd (by simp [laidL, Rows.sieveFitsUptoRow])
  have r4 : Lib.VarReads Tryz.prog W "strconv.ErrRange" Rows.laid_strconv_ErrRange := Lib.laidMet.reads hd (by simp [laidL, Rows.sieveFitsUptoRow])
  have r5 : Lib.VarReads Tryz.prog W "internal/strconv.uint64pow10" Rows.laid_internal_strconv_uint64pow10 := Lib.laidMet.reads hd (by simp [laidL, Rows.sieveFitsUptoRow])
  have r6 : Lib.VarReads Tryz.prog W "internal/strconv.float64pow10" Rows.laid_internal_strconv_float64pow10 := Lib.laidMet.reads hd (by simp [laidL, Rows.sieveFitsUptoRow])
  have hz : 18 ≤ W.heap.size := by
    obtain ⟨g, t, cs, fuel, p, hg, hty, hvar, hd⟩ := r6
    obtain rfl := Option.some.inj (gLast.symm.trans hg)
    unfold World.var? at hvar
    rw [gLast] at hvar
    by_cases hz : 18 ≤ W.heap.size
    · exact hz
    · rw [Option.bind_some, Array.getElem?_eq_none (by omega)] at hvar
      cases hvar
  refine ⟨?_, err_of gSyn tySyn r3, err_of gRan tyRan r4, ?_, hz⟩
  · refine utf8Tabs_of_readsT u8T u8X ?_ ?_
    · rw [← Pinned.utf8First_eq]; exact r1
    · exact (show Rows.laid_unicode_utf8_acceptRanges = Lib.acceptData by kernel_rfl) ▸ r2
  · obtain ⟨g, t, cs, fuel, p, hg, hty, hvar, hd⟩ := r5
    obtain rfl := Option.some.inj (gPow.symm.trans hg)
    obtain rfl := Option.some.inj (tyPow.symm.trans hty)
    have e : (Rows.laid_internal_strconv_uint64pow10 : DataW Unit) = Lib.tabData .u64 Lib.pow10Tab := by kernel_rfl
    rw [e] at hd
    unfold Lib.TabIs
    rw [hvar, ← Lib.cells_of_tab Tryz.underlying243 Tryz.underlying22 (by kernel_rfl) (by kernel_rfl) hd]
theorem str_arg {w : World} {v : Value} (h : InpV Tryz.prog w okU 9 v) : ∃ s : ByteArray, v = .string s ∧ s.size ≤ 1048576 := by
  obtain ⟨⟨n, h⟩, h2⟩ := h
  obtain ⟨s, e, hw⟩ := h.str Tryz.underlying9
  rw [Tryz.underlying9] at h2
  simp only [okU] at hw
  have : upM = 1048576 := rfl
  refine ⟨s, ?_, by omega⟩
  cases v <;> simp_all [Value.cells, oneV]
/-- a world for the witness -/
noncomputable abbrev nW (os : Os) : World := World.laidAll Tryz.prog os laidL
theorem nW_laid (os : Os) (args : Array Value) : laidMet Tryz.prog laidL ((nW os).forCall (fun _ _ => 0) ⟨#[], args, []⟩).memory := laidMet_laidAll args (by kernel_rfl) (by kernel_rfl)
theorem nW_laidH (os : Os) (args : Array Value) : laidMetH Tryz.prog laidL ((nW os).forCall (fun _ _ => 0) ⟨#[], args, []⟩).memory := by
  refine laidMetH_of_parts ?_ (by kernel_rfl)
  rw [show (laidL.filter fun x => x.2.handleName?.isNone) = laidL by kernel_rfl]
  exact nW_laid os args
theorem witness_zip {H : Type} {enc : TypeId × Value → H} {C : Checked} {os : Os} {f : FuncId} {fn : Func} {s : OpenSpec} {conds : List PathCond} {apart : Bool} {laid : List (String × DataW Unit)} (modest : Bool) (w0 : World) (args : Array Value) (hos : w0.os = os)
    (hv : (w0.forCall (fun _ _ => 0) ⟨#[], args, []⟩).variablesZipB C.prog = true)
    (hr : ((w0.forCall (fun _ _ => 0) ⟨#[], args, []⟩).heap.toList.drop C.prog.globals.size).take ((begin C.prog (fun _ _ => 0) default).world.heap.size - C.prog.globals.size) =
      (begin C.prog (fun _ _ => 0) default).world.heap.toList.drop C.prog.globals.size)
    (hok : Input.okWideB C.prog (w0.forCall (fun _ _ => 0) ⟨#[], args, []⟩) f ⟨#[], args, []⟩ = true)
    (hrow : s.preRow enc C.prog fn conds apart laid (w0.forCall (fun _ _ => 0) ⟨#[], args, []⟩).memory args) :
    ∃ (w : World) (tape : Tape) (i : Input), w.os = os ∧ (w.forCall tape i).Shaped C.prog ∧ i.vars = [] ∧ Input.okWide C.prog (w.forCall tape i) .any w.heap.size f i ∧
      s.preRow enc C.prog fn conds apart laid (w.forCall tape i).memory i.args ∧ ({ modest := modest } : Assume).holds C.prog (lone (Frame.enter C.prog f i.args .normal) [] (w.forCall tape i)) :=
  ⟨w0, fun _ _ => 0, ⟨#[], args, []⟩, hos, World.shaped_of_ZipB hv hr, (Input.okWide_of_okWideB (base := 0) hok).1, (Input.okWide_of_okWideB hok).2, hrow, by
    simp only [Assume.holds]
    exact ⟨by simp, by simp, fun _ => Modest.zero, by simp, by simp⟩⟩
theorem nW_zip (os : Os) (args : Array Value) : ((nW os).forCall (fun _ _ => 0) ⟨#[], args, []⟩).variablesZipB Tryz.prog = true := by kernel_rfl
theorem nW_rest (os : Os) (args : Array Value) : (((nW os).forCall (fun _ _ => 0) ⟨#[], args, []⟩).heap.toList.drop Tryz.prog.globals.size).take ((begin Tryz.prog (fun _ _ => 0) default).world.heap.size - Tryz.prog.globals.size) = (begin Tryz.prog (fun _ _ => 0) default).world.heap.toList.drop Tryz.prog.globals.size := by kernel_rfl
end Go.Proofs.YtnmlmicmhpkbeaaGreatDoor
namespace Go.Proofs.YtnmlmicmhpkbeaaGreatDoor
open Go Go.Sv Go.Note Go.ChangeShapes
set_option linter.unusedVariables false
set_option maxRecDepth 100000
theorem int_arg {w : World} {v : Value} (h : InpV Tryz.prog w okU 3 v) : ∃ n : Int, v = .int .i64 n ∧ -9223372036854775808 ≤ n ∧ n ≤ 9223372036854775807 := by
  obtain ⟨⟨n, h⟩, h2⟩ := h
  obtain ⟨i, e, hw⟩ := h.int Tryz.underlying3
  rw [Tryz.underlying3] at h2
  have hb : -9223372036854775808 ≤ i ∧ i ≤ 9223372036854775807 := by simpa [Lit.wf, IntKind.min, IntKind.max, IntKind.signed, IntKind.bits] using hw
  refine ⟨i, ?_, hb.1, hb.2⟩
  cases v <;> simp_all [Value.cells, oneV]
end Go.Proofs.YtnmlmicmhpkbeaaGreatDoor
