/-
  A deferred call of a function without deferred calls of its own, by what the function's text comes to. Over every program.
-/
import Derived.Test.YtipbbjnmpnfhpaaDoorSvCode
namespace Go.Sv
open Go
set_option linter.unusedVariables false
theorem callD_of {P : Program} {f : FuncId} {fn : Func} {ann : Ann} {args : List Value} {w : World} {K : World → Prop} (hf : P.funcs[f]? = some fn) (hnd : ∀ c, fn.body = some c → noDefer c = true) (h : wpF P none fn ann args w fun _ w' => K w') : callD P f args w K := by
  unfold wpF at h
  split at h
  · rename_i c hb
    split at h
    · rename_i hle
      rw [Bool.and_eq_true] at hle
      have hle' : args.length ≤ fn.ntmps := Nat.le_of_ble_eq_true hle.1
      have h2 := wpC_sound (P := P) none none ann c _ h (enter_agree args hle')
      have h3 := callsD_of_wp (u := .returning) (R := fun e w' => (∃ v, e = .returned v) ∧ K w') hf hb (wpIn_wide.1 (wpIn_mono h2 (Q' := bodyPost P fn fun e w' => (∃ v, e = .returned v) ∧ K w') ?_))
      · refine CallsD.mono h3 fun e u w' hh => ⟨hh.2.1, hh.1, hh.2.2⟩
      · rintro e a' w' hh
        have fin : ∀ st : St, Agree fn.ntmps a' st → finish P fn (fun _ w' => K w') st.env st.ds w' → a'.defers = [] → ∃ v, (results fn a'.tmps).run P w' = .ok v w' ∧ (∃ u, Ending.returned v = .returned u) ∧ K w' := fun st ha hq hd => by
          rw [← ha.ds, hd] at hq
          obtain ⟨vs, hr, hk⟩ := results_sound ha.val hq
          exact ⟨_, hr, ⟨_, rfl⟩, hk⟩
        cases e with
        | normal =>
          obtain ⟨⟨st, ha, hq⟩, _, hd⟩ := hh
          exact ⟨hd (hnd c hb), fin st ha hq (hd (hnd c hb))⟩
        | ret =>
          obtain ⟨⟨st, ha, hq⟩, _, hd⟩ := hh
          exact ⟨hd (hnd c hb), fin st ha hq (hd (hnd c hb))⟩
        | panic ch =>
          obtain ⟨⟨KP, hpk, hk⟩, _, hd⟩ := hh
          cases hpk
        | exit i => obtain ⟨⟨st, ha, hq⟩, _⟩ := hh; exact hq.elim
        | goto i => obtain ⟨⟨st, ha, hq⟩, _⟩ := hh; exact hq.elim
        | outgrown => obtain ⟨⟨st, ha, hq⟩, _⟩ := hh; exact hq.elim
    · exact h.elim
  · exact h.elim
end Go.Sv
