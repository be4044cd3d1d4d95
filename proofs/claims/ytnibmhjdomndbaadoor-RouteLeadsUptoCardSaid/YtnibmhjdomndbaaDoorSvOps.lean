/-
  The reading of single operations (XSvDef) is sound over every program: what 'opStep' asks makes the model's operation run as it says.
-/
import Derived.Test.YtnibmhjdomndbaaDoorSvDef
import Derived.WalkKit
namespace Go.Sv
open Go

theorem exC_mono {s : Sh} {K K' : Value → Prop} (h : ∀ v, K v → K' v) (hh : exC s K) : exC s K' := by
  cases s <;> simp only [exC] at hh ⊢
  case slice => obtain ⟨p, n, c, hk⟩ := hh; exact ⟨p, n, c, h _ hk⟩
  all_goals (obtain ⟨b, hk⟩ := hh; exact ⟨b, h _ hk⟩)
theorem exC_some {s : Sh} {K : Value → Prop} (hh : exC s K) : ∃ v, K v := by
  cases s <;> simp only [exC] at hh
  case slice => obtain ⟨p, n, c, hk⟩ := hh; exact ⟨_, hk⟩
  all_goals (obtain ⟨b, hk⟩ := hh; exact ⟨_, hk⟩)
theorem exL_some : ∀ {l : List Sh} {K : List Value → Prop}, exL l K → ∃ vs, K vs
  | [], _, h => ⟨_, h⟩
  | _ :: _, _, h => let ⟨_, h1⟩ := exC_some h; let ⟨_, h2⟩ := exL_some h1; ⟨_, h2⟩
theorem exV_some {s : VSh} {K : Value → Prop} (h : exV s K) : ∃ v, K v := by
  cases s with
  | cell s => exact exC_some h
  | agg l => obtain ⟨vs, hk⟩ := exL_some h; exact ⟨_, hk⟩
theorem exVs_some : ∀ {l : List VSh} {K : List Value → Prop}, exVs l K → ∃ vs, K vs
  | [], _, h => ⟨_, h⟩
  | _ :: _, _, h => let ⟨_, h1⟩ := exV_some h; let ⟨_, h2⟩ := exVs_some h1; ⟨_, h2⟩
theorem exR_some {s : RSh} {K : Value → Prop} (h : exR s K) : ∃ v, K v := by
  cases s with
  | one s => exact exV_some h
  | tup l => obtain ⟨vs, hk⟩ := exVs_some h; exact ⟨_, hk⟩
theorem Sif_elim {b : Bool} {x y : Prop} (h : Sif b x y) : (b = true ∧ x) ∨ (b = false ∧ y) := by
  cases b
  · exact .inr ⟨rfl, h⟩
  · exact .inl ⟨rfl, h⟩
theorem nn_elim {p : Option Addr} {K : Addr → Prop} (h : nn p K) : ∃ a, p = some a ∧ K a := by
  cases p with
  | none => exact h.elim
  | some a => exact ⟨a, rfl, h⟩

/-- an operation that yields one value, whatever the world -/
def Pv (P : Program) (ρ : Operand → Value) (o : Oper) (K : Value → Prop) : Prop := ∃ v, (∀ w, (execOp ρ o).run P w = .ok (.value v) w) ∧ K v
theorem run_und {P : Program} {t : TypeId} {d : TypeDesc} (h : P.underlying t = some d) (w : World) : (underlying t).run P w = .ok d w := run_underlying h w
theorem run_info {P : Program} {t : TypeId} {i : TypeInfo} (h : P.info? t = some i) (w : World) : (typeInfo t).run P w = .ok i w := by simp [typeInfo, h]
theorem run_size {P : Program} {t : TypeId} {i : TypeInfo} (h : P.info? t = some i) (w : World) : (sizeOf t).run P w = .ok i.size w := by simp [sizeOf, run_info h]
theorem run_isAgg {P : Program} {t : TypeId} {d : TypeDesc} (h : P.underlying t = some d) (w : World) : (isAgg t).run P w = .ok (isAggB P t) w := by
  unfold isAgg isAggB
  simp only [h, Sem.run_bind, run_und h, Result.andThen_ok]
  cases d <;> simp

theorem int_sound {P : Program} {op : BinOp} {T : TypeId} {x y : Operand} {k : IntKind} {a b : Int} {K : Value → Prop} (h : intStep op k a b K) :
    ∃ r, (∀ w, (do eqGuard op T x y (.int k a) (.int k b); binOp op T (.int k a) (.int k b) : Sem Value).run P w = .ok r w) ∧ K r := by
  cases op <;> simp only [intStep] at h
  case quo => obtain ⟨h0, hk⟩ := h; exact ⟨_, fun w => by simp [eqGuard_quo, binOp_quo, Op.intDiv, h0], hk⟩
  case rem => obtain ⟨h0, hk⟩ := h; exact ⟨_, fun w => by simp [eqGuard_rem, binOp_rem, Op.intDiv, h0], hk⟩
  case add => exact ⟨_, fun w => by simp [eqGuard_add, binOp_add, Op.intArith], h⟩
  case sub => exact ⟨_, fun w => by simp [eqGuard_sub, binOp_sub, Op.intArith], h⟩
  case mul => exact ⟨_, fun w => by simp [eqGuard_mul, binOp_mul, Op.intArith], h⟩
  case and => exact ⟨_, fun w => by simp only [Sem.run_bind, eqGuard_at_int, Sem.run_pure, Result.andThen_ok, binOp_and]; rfl, h⟩
  case or => exact ⟨_, fun w => by simp only [Sem.run_bind, eqGuard_at_int, Sem.run_pure, Result.andThen_ok, binOp_or]; rfl, h⟩
  case xor => exact ⟨_, fun w => by simp only [Sem.run_bind, eqGuard_at_int, Sem.run_pure, Result.andThen_ok, binOp_xor]; rfl, h⟩
  case andNot => exact ⟨_, fun w => by simp only [Sem.run_bind, eqGuard_at_int, Sem.run_pure, Result.andThen_ok, binOp_andNot]; rfl, h⟩
  case eql => exact ⟨_, fun w => by simp only [Sem.run_bind, eqGuard_at_int, Sem.run_pure, Result.andThen_ok, binOp_eql], h⟩
  case neq => exact ⟨_, fun w => by simp only [Sem.run_bind, eqGuard_at_int, Sem.run_pure, Result.andThen_ok, binOp_neq], h⟩
  case lss => exact ⟨_, fun w => by simp only [Sem.run_bind, eqGuard_at_int, Sem.run_pure, Result.andThen_ok, binOp_lss], h⟩
  case leq => exact ⟨_, fun w => by simp only [Sem.run_bind, eqGuard_at_int, Sem.run_pure, Result.andThen_ok, binOp_leq], h⟩
  case gtr => exact ⟨_, fun w => by simp only [Sem.run_bind, eqGuard_at_int, Sem.run_pure, Result.andThen_ok, binOp_gtr], h⟩
  case geq => exact ⟨_, fun w => by simp only [Sem.run_bind, eqGuard_at_int, Sem.run_pure, Result.andThen_ok, binOp_geq], h⟩
section
variable {P : Program} {T : TypeId} {w : World}
theorem eq_bool {a b : Bool} (h : P.underlying T = some .bool) : (Op.equal T (.bool a) (.bool b)).run P w = .ok (a == b) w := by
  have : ∀ d, (Op.equalIn (d + 1) T (.bool a) (.bool b)).run P w = .ok (a == b) w := fun d => by simp [Op.equalIn, run_und h]
  exact this 9999
theorem eq_ptr {e : TypeId} {a : Option Addr} (h : P.underlying T = some (.pointer e)) : (Op.equal T (.pointer a) (.pointer none)).run P w = .ok a.isNone w := by
  have : ∀ d, (Op.equalIn (d + 1) T (.pointer a) (.pointer none)).run P w = .ok a.isNone w := fun d => by cases a <;> simp [Op.equalIn, run_und h]
  exact this 9999
theorem eq_slice {e : TypeId} {a : Option Addr} {n c n' c' : Nat} (h : P.underlying T = some (.slice e)) : (Op.equal T (.slice a n c) (.slice none n' c')).run P w = .ok a.isNone w := by
  have : ∀ d, (Op.equalIn (d + 1) T (.slice a n c) (.slice none n' c')).run P w = .ok a.isNone w := fun d => by cases a <;> simp [Op.equalIn, run_und h]
  exact this 9999
theorem eq_map {k e : TypeId} {a : Option Nat} (h : P.underlying T = some (.map k e)) : (Op.equal T (.map a) (.map none)).run P w = .ok a.isNone w := by
  have : ∀ d, (Op.equalIn (d + 1) T (.map a) (.map none)).run P w = .ok a.isNone w := fun d => by cases a <;> simp [Op.equalIn, run_und h]
  exact this 9999
theorem eq_func {ps rs : Array TypeId} {va : Bool} {u : Value} {r : Bool} (h : P.underlying T = some (.func ps rs va)) (hu : (u = .nilFunc ∧ r = true) ∨ (∃ f a c, u = .func f a c) ∧ r = false) : (Op.equal T u .nilFunc).run P w = .ok r w := by
  have : ∀ d, (Op.equalIn (d + 1) T u .nilFunc).run P w = .ok r w := fun d => by
    rcases hu with ⟨rfl, rfl⟩ | ⟨⟨f, a, c, rfl⟩, rfl⟩ <;> simp [Op.equalIn, run_und h]
  exact this 9999
theorem eq_iface {ms : Array (String × TypeId)} {u : Value} (h : P.underlying T = some (.interface ms)) (hu : isI u = true) : (Op.equal T u .nilIface).run P w = .ok (isNilI u) w := by
  have : ∀ d, (Op.equalIn (d + 1) T u .nilIface).run P w = .ok (isNilI u) w := fun d => by
    cases u <;> simp [isI] at hu <;> simp [Op.equalIn, run_und h, isNilI]
  exact this 9999
end
theorem bin_sound {P : Program} {op : BinOp} {T : TypeId} {x y : Operand} {u v : Value} {K : Value → Prop} (h : binStep P op T y u v K) :
    ∃ r, (∀ w, (do eqGuard op T x y u v; binOp op T u v : Sem Value).run P w = .ok r w) ∧ K r := by
  unfold binStep at h
  split at h
  · rename_i k a k' b
    split at h
    · obtain ⟨h0, hk⟩ := h; exact ⟨_, fun w => by simp only [Sem.run_bind, eqGuard_at_int, Sem.run_pure, Result.andThen_ok, binOp_shl, Op.shift]; rw [if_neg (by omega)]; simp, hk⟩
    · obtain ⟨h0, hk⟩ := h; exact ⟨_, fun w => by simp only [Sem.run_bind, eqGuard_at_int, Sem.run_pure, Result.andThen_ok, binOp_shr, Op.shift]; rw [if_neg (by omega)]; simp, hk⟩
    · split at h
      · rename_i e; subst e; exact int_sound h
      · exact h.elim
  · rename_i a b
    cases op <;> simp only [strStep] at h
    case add => obtain ⟨h0, hk⟩ := h; exact ⟨_, fun w => by simp [eqGuard_at_string, binOp, Op.stringOp]; omega, hk⟩
    all_goals first | exact h.elim | exact ⟨_, fun w => by simp only [Sem.run_bind, eqGuard_at_string, Sem.run_pure, Result.andThen_ok, binOp, Op.stringOp], h⟩
  · unfold otherStep at h
    have eqs : ∀ {r : Bool} (_ : eqStep op r K) (_ : ∀ w, (eqGuard op T x y u v).run P w = .ok () w) (_ : ∀ w, (Op.equal T u v).run P w = .ok r w) (_ : binOp .eql T u v = (do pure (.bool (← Op.equal T u v)))) (_ : binOp .neq T u v = (do pure (.bool (!(← Op.equal T u v))))),
        ∃ r, (∀ w, (do eqGuard op T x y u v; binOp op T u v : Sem Value).run P w = .ok r w) ∧ K r := by
      intro r h hg he h1 h2
      cases op <;> simp only [eqStep] at h
      case eql => exact ⟨_, fun w => by simp only [Sem.run_bind, hg w, Result.andThen_ok, h1, he w]; rfl, h⟩
      case neq => exact ⟨_, fun w => by simp only [Sem.run_bind, hg w, Result.andThen_ok, h2, he w]; rfl, h⟩
    split at h
    · rename_i hT; split at h
      · exact eqs h (fun w => by rw [eqGuard_at_bool]; rfl) (fun w => eq_bool hT) rfl rfl
      · exact h.elim
    · rename_i hT; split at h
      · exact eqs h (fun w => by rw [eqGuard_at_pointer]; rfl) (fun w => eq_ptr hT) rfl rfl
      · exact h.elim
    · rename_i hT; split at h
      · exact eqs h (fun w => by rw [eqGuard_at_slice]; rfl) (fun w => eq_slice hT) rfl rfl
      · exact h.elim
    · rename_i hT; split at h
      · exact eqs h (fun w => by rw [eqGuard_at_map]; rfl) (fun w => eq_map hT) rfl rfl
      · exact h.elim
    · rename_i hT; split at h
      · split at h
        · rename_i hc
          obtain ⟨hi, hk⟩ := h
          have hy : ∃ c, y = .const c := by cases y <;> simp_all [isConstNil]
          obtain ⟨c, rfl⟩ := hy
          refine eqs hk (fun w => ?_) (fun w => eq_iface hT hi) (by cases u <;> simp [isI] at hi <;> rfl) (by cases u <;> simp [isI] at hi <;> rfl)
          cases u <;> simp [isI] at hi
          · rw [eqGuard_at_iface]; rfl
          · rw [eqGuard_nil_constR]; rfl
        · exact h.elim
      · exact h.elim
    · rename_i hT; split at h
      · split at h
        · exact eqs h (fun w => by rw [eqGuard_at_nilFunc]; rfl) (fun w => eq_func hT (.inl ⟨rfl, rfl⟩)) rfl rfl
        · exact eqs h (fun w => by rw [eqGuard_at_func]; rfl) (fun w => eq_func hT (.inr ⟨⟨_, _, _, rfl⟩, rfl⟩)) rfl rfl
        · exact h.elim
      · exact h.elim
    · exact h.elim
theorem un_sound {P : Program} {op : UnOp} {x : Value} {K : Value → Prop} (h : unStep op x K) : ∃ r, (∀ w, (Op.unary op x).run P w = .ok r w) ∧ K r := by
  unfold unStep at h
  split at h
  · exact ⟨_, fun w => rfl, h⟩
  · exact ⟨_, fun w => rfl, h⟩
  · exact ⟨_, fun w => rfl, h⟩
  · exact h.elim
theorem conv_sound {P : Program} {s d : TypeId} {x : Value} {K : Value → Prop} (h : convStep P s d x K) : ∃ r, (∀ w, (convert s d x).run P w = .ok r w) ∧ K r := by
  unfold convStep at h
  split at h
  · exact h.elim
  · rename_i hs
    split at h
    · rename_i hd; exact ⟨_, fun w => by simp [convert, run_und hs, run_und hd, Conv.intToInt], h⟩
    · rename_i hd; exact ⟨_, fun w => by simp [convert, run_und hs, run_und hd], h⟩
    · exact h.elim
theorem sizeB_info {P : Program} {t : TypeId} (h : sizeB P t ≠ 0) : ∃ i, P.info? t = some i ∧ i.size = sizeB P t := by
  unfold sizeB at *
  cases hi : P.info? t with
  | none => simp [hi] at h
  | some i => exact ⟨i, rfl, by simp⟩
theorem fieldAddr_sound {P : Program} {T : TypeId} {x : Value} {f : Nat} {K : Value → Prop} (h : fieldAddrStep P T x f K) : ∃ r, (∀ w, (Instr.fieldAt T x f).run P w = .ok r w) ∧ K r := by
  unfold fieldAddrStep at h
  split at h
  · rename_i fs hT
    split at h
    · rename_i fd hf
      split at h
      · exact h.elim
      · rename_i hz
        split at h
        · obtain ⟨a, rfl, hk⟩ := nn_elim h
          obtain ⟨i, hi, hs⟩ := sizeB_info hz
          have hf' : fs[f]? = some fd := by simpa using hf
          refine ⟨_, fun w => ?_, hk⟩
          have hz' : ¬ i.size = 0 := by omega
          simp [Instr.fieldAt, run_und hT, hf', Instr.sureAddr, fieldPlace, run_size hi, hz']
        · exact h.elim
    · exact h.elim
  · exact h.elim
theorem take_drop_extract (l : List Value) (o n : Nat) : l.toArray.extract o (o + n) = ((l.drop o).take n).toArray := by
  simp
theorem field_sound {P : Program} {T : TypeId} {x : Value} {f : Nat} {K : Value → Prop} (h : fieldStep P T x f K) : ∃ r, (∀ w, (Instr.field T x f).run P w = .ok r w) ∧ K r := by
  unfold fieldStep at h
  split at h
  · rename_i fs hT
    split at h
    · rename_i fd hf
      have hf' : fs[f]? = some fd := by simpa using hf
      split at h
      · rename_i cs
        split at h
        · rename_i hag
          split at h
          · rename_i i hi
            have hu : ∃ d, P.underlying fd.type = some d := by
              unfold isAggB at hag
              split at hag
              · exact ⟨_, by assumption⟩
              · exact ⟨_, by assumption⟩
              · cases hag
            obtain ⟨d, hd⟩ := hu
            refine ⟨_, fun w => ?_, h⟩
            obtain ⟨l⟩ := cs
            simp [Instr.field, run_und hT, hf', part, run_isAgg hd, hag, run_size hi, asAgg]
          · exact h.elim
        · rename_i hag
          split at h
          · exact h.elim
          · rename_i hd
            split at h
            · rename_i v hv
              refine ⟨_, fun w => ?_, h⟩
              have hv' : cs[fd.offset]? = some v := by simpa using hv
              simp [Instr.field, run_und hT, hf', part, run_isAgg hd, hag, asAgg, hv']
            · exact h.elim
      · exact h.elim
    · exact h.elim
  · exact h.elim
theorem indexAddr_sound {P : Program} {T : TypeId} {x i : Value} {K : Value → Prop} (h : indexAddrStep P T x i K) : ∃ r, (∀ w, (Instr.indexAt T x i).run P w = .ok r w) ∧ K r := by
  unfold indexAddrStep at h
  split at h
  · split at h
    · rename_i hT
      split at h
      · split at h
        · rename_i inf hi
          obtain ⟨h0, h1, hn⟩ := h
          obtain ⟨a, rfl, hk⟩ := nn_elim hn
          refine ⟨_, fun w => ?_, hk⟩
          simp [Instr.indexAt, asIntOf, run_und hT, h0, h1, run_size hi]
        · exact h.elim
      · exact h.elim
    · rename_i hT
      split at h
      · split at h
        · rename_i inf hi
          obtain ⟨h0, h1, hn⟩ := h
          obtain ⟨a, rfl, hk⟩ := nn_elim hn
          refine ⟨_, fun w => ?_, hk⟩
          simp [Instr.indexAt, asIntOf, run_und hT, h0, h1, run_size hi, Instr.sureAddr]
        · exact h.elim
      · exact h.elim
    · exact h.elim
  · exact h.elim
theorem index_sound {P : Program} {T : TypeId} {x i : Value} {K : Value → Prop} (h : indexStep P T x i K) : ∃ r, (∀ w, (Instr.index T x i).run P w = .ok r w) ∧ K r := by
  unfold indexStep at h
  split at h
  · rename_i k n
    split at h
    · rename_i hT
      split at h
      · rename_i s
        obtain ⟨h0, h1, hk⟩ := h
        refine ⟨_, fun w => ?_, hk⟩
        have hlt : n.toNat < s.size := by omega
        have e1 : s[n.toNat]? = some s[n.toNat] := getElem?_pos s n.toNat hlt
        have e2 : byteAt s n.toNat = (s[n.toNat].toNat : Int) := by
          unfold byteAt
          have : n.toNat < s.data.toList.length := by simpa using hlt
          simp [List.getD, List.getElem?_eq_getElem this]
          rfl
        simp [Instr.index, asIntOf, run_und hT, h0, e1, e2]
      · exact h.elim
    · exact h.elim
  · exact h.elim
theorem bound_ok {P : Program} {k : IntKind} {i : Int} {y : Nat} {c : BoundsCode} {w : World} (h0 : 0 ≤ i) (h1 : i ≤ (y : Int)) : (Instr.sliceBound (.int k i) y c).run P w = .ok i.toNat w := by
  simp [Instr.sliceBound, asIntOf, h0, h1]
theorem bounds_sound {P : Program} {sl : Bool} {len cap : Nat} {low high max : Option Value} {K : Nat → Nat → Nat → Prop} (h : boundsStep len cap low high max K) :
    ∃ l h' m, (∀ w, (Instr.sliceBounds sl len cap low high max).run P w = .ok (l, h', m) w) ∧ (low = none → l = 0) ∧ K l h' m := by
  unfold boundsStep at h
  split at h
  · exact ⟨_, _, _, fun w => by simp [Instr.sliceBounds], fun _ => rfl, h⟩
  · obtain ⟨h0, h1, hk⟩ := h
    exact ⟨_, _, _, fun w => by simp only [Instr.sliceBounds, Sem.run_bind, Sem.run_pure, Result.andThen_ok, bound_ok h0 h1], (fun e => by cases e), hk⟩
  · obtain ⟨h0, h1, hk⟩ := h
    exact ⟨_, _, _, fun w => by simp only [Instr.sliceBounds, Sem.run_bind, Sem.run_pure, Result.andThen_ok, bound_ok h0 h1], fun _ => rfl, hk⟩
  · rename_i l _ h'
    obtain ⟨h0, h1, h2, h3, hk⟩ := h
    have e : l ≤ (h'.toNat : Int) := by omega
    exact ⟨_, _, _, fun w => by simp only [Instr.sliceBounds, Sem.run_bind, Sem.run_pure, Result.andThen_ok, bound_ok h0 h1, bound_ok h2 e], (fun e => by cases e), hk⟩
  · rename_i h' _ m
    obtain ⟨h0, h1, h2, h3, hk⟩ := h
    have e : h' ≤ (m.toNat : Int) := by omega
    exact ⟨_, _, _, fun w => by simp only [Instr.sliceBounds, Sem.run_bind, Sem.run_pure, Result.andThen_ok, bound_ok h0 h1, bound_ok h2 e], fun _ => rfl, hk⟩
  · rename_i l _ h' _ m
    obtain ⟨h0, h1, h2, h3, h4, h5, hk⟩ := h
    have e : h' ≤ (m.toNat : Int) := by omega
    have e' : l ≤ (h'.toNat : Int) := by omega
    exact ⟨_, _, _, fun w => by simp only [Instr.sliceBounds, Sem.run_bind, Sem.run_pure, Result.andThen_ok, bound_ok h0 h1, bound_ok h2 e, bound_ok h4 e'], (fun e => by cases e), hk⟩
  · exact h.elim
theorem slice_sound {P : Program} {T : TypeId} {x : Value} {low high max : Option Value} {K : Value → Prop} (h : sliceStep P T x low high max K) :
    ∃ r, (∀ w, (Instr.sliceAt T x low high max).run P w = .ok r w) ∧ K r := by
  unfold sliceStep at h
  split at h
  · rename_i hT
    split at h
    · split at h
      · rename_i hm
        obtain ⟨l, h', m, hb, _, hk⟩ := bounds_sound (P := P) (sl := false) h
        have hm' : max = none := by cases max <;> simp_all [noVal]
        subst hm'
        exact ⟨_, fun w => by simp [Instr.sliceAt, Instr.slice, run_und hT, hb], hk⟩
      · exact h.elim
    · exact h.elim
  · rename_i e hT
    split at h
    · rename_i a len cap
      split at h
      · rename_i inf hi
        cases low with
        | none =>
          obtain ⟨l, h', m, hb, hl, hk⟩ := bounds_sound (P := P) (sl := true) h
          refine ⟨_, fun w => ?_, hk⟩
          simp only [Instr.sliceAt, Instr.slice, Sem.run_bind, run_und hT, Result.andThen_ok, hb, run_size hi, Sem.run_pure]
          have := hl rfl; subst this
          congr 2
          cases a <;> simp [Addr.add]
        | some v =>
          obtain ⟨l, h', m, hb, hl, hk⟩ := bounds_sound (P := P) (sl := true) h
          refine ⟨_, fun w => ?_, hk⟩
          simp only [Instr.sliceAt, Instr.slice, Sem.run_bind, run_und hT, Result.andThen_ok, hb, run_size hi, Sem.run_pure]
          simp [subA]
      · exact h.elim
    · exact h.elim
  · exact h.elim
theorem len_sound {P : Program} {t ty : TypeId} {x : Value} {K : Value → Prop} (h : lenStep P t x K) : ∃ r, (∀ w, (Builtin.len_ #[t] ty #[x]).run P w = .ok r w) ∧ K r := by
  unfold lenStep at h
  split at h
  · rename_i hT; split at h
    · exact ⟨_, fun w => by simp [Builtin.len_, run_und hT, goInt], h⟩
    · exact h.elim
  · rename_i hT; split at h
    · exact ⟨_, fun w => by simp [Builtin.len_, run_und hT, goInt], h⟩
    · exact h.elim
  · exact h.elim
theorem cellsV_elim {P : Program} {t : TypeId} {v : Value} {K : List Value → Prop} (h : cellsV P t v K) :
    ∃ i, P.info? t = some i ∧ (∃ d, P.underlying t = some d) ∧ v.cells.toList.length = i.size ∧ (isAggB P t = false → oneV v = true) ∧ (isAggB P t = true → ∃ cs, v = .agg cs) ∧ K v.cells.toList := by
  unfold cellsV asAggV asAggC at h
  split at h
  · rename_i hag
    have hu : ∃ d, P.underlying t = some d := by
      unfold isAggB at hag
      split at hag
      · exact ⟨_, by assumption⟩
      · exact ⟨_, by assumption⟩
      · cases hag
    split at h
    · rename_i cs
      split at h
      · rename_i hs
        obtain ⟨d, hd⟩ := hu
        have hi : ∃ i, P.info? t = some i := by
          unfold Program.underlying at hd
          cases hi : P.info? t with
          | none => simp [hi] at hd
          | some i => exact ⟨i, rfl⟩
        obtain ⟨i, hi⟩ := hi
        refine ⟨i, hi, ⟨d, hd⟩, ?_, (fun e => by rw [hag] at e; cases e), (fun _ => ⟨cs, rfl⟩), h⟩
        simp only [Value.cells]
        rw [hs]
        simp [sizeB, hi]
      · exact h.elim
    · exact h.elim
  · rename_i hag
    split at h
    · rename_i hs
      split at h
      · rename_i d hd
        rcases Sif_elim h with ⟨h1, hk⟩ | ⟨_, hk⟩
        · obtain ⟨i, hi, hsz⟩ := sizeB_info (P := P) (t := t) (by omega)
          have hc : v.cells = #[v] := by cases v <;> first | rfl | cases h1
          refine ⟨i, hi, ⟨d, hd⟩, by rw [hc]; simp; omega, fun _ => h1, fun e => absurd e hag, by rw [hc]; exact hk⟩
        · exact hk.elim
      · exact h.elim
    · exact h.elim
theorem valsL_map (env : Env) : ∀ (l : List Operand), valsL env l = l.map (rho env)
  | [] => rfl
  | x :: l => by simp [valsL, valsL_map env l]
theorem vals_array (env : Env) (a : Array Operand) : (valsL env a.toList).toArray = a.map (rho env) := by
  rw [valsL_map]; obtain ⟨l⟩ := a; simp
theorem partsL_map (env : Env) : ∀ (l : List (Nat × Operand)), partsL env l = l.map fun (i, x) => (i, rho env x)
  | [] => rfl
  | (i, x) :: l => by simp [partsL, partsL_map env l]
theorem get_putSeg {cs : List Value} {off : Nat} {vs : List Value} (h : off + vs.length ≤ cs.length) (k : Nat) :
    (putSeg cs off vs)[k]? = if k < off then cs[k]? else if k < off + vs.length then vs[k - off]? else cs[k]? := by
  unfold putSeg
  by_cases h1 : k < off
  · rw [if_pos h1, List.append_assoc, List.getElem?_append_left (by simp; omega), List.getElem?_take, if_pos h1]
  · rw [if_neg h1]
    by_cases h2 : k < off + vs.length
    · rw [if_pos h2, List.append_assoc, List.getElem?_append_right (by simp; omega), List.getElem?_append_left (by simp; omega)]
      congr 1; simp; omega
    · rw [if_neg h2, List.getElem?_append_right (by simp; omega), List.getElem?_drop]
      congr 1; simp; omega
theorem foldl_put (vs : List Value) : ∀ (cs : Array Value) (off j : Nat), off + j + vs.length ≤ cs.size →
    (vs.zipIdx j).foldl (fun (cs : Array Value) (p : Value × Nat) => cs.setIfInBounds (off + p.2) p.1) cs = (putSeg cs.toList (off + j) vs).toArray := by
  induction vs with
  | nil => intro cs off j _; simp [putSeg]
  | cons v vs ih =>
    intro cs off j h
    simp only [List.length_cons] at h
    rw [List.zipIdx_cons, List.foldl_cons, ih _ off (j + 1) (by simp; omega)]
    congr 1
    apply List.ext_getElem?
    intro k
    obtain ⟨l⟩ := cs
    simp only [List.size_toArray] at h
    rw [get_putSeg (by simp; omega), get_putSeg (by simp; omega)]
    simp only [List.setIfInBounds_toArray, List.length_cons]
    by_cases h1 : k < off + j
    · rw [if_pos (by omega), if_pos h1, List.getElem?_set_ne (by omega)]
    · by_cases h2 : k = off + j
      · subst h2
        rw [if_pos (by omega), if_neg (by omega), if_pos (by omega), List.getElem?_set_self (by omega)]
        simp
      · rw [if_neg (by omega : ¬ k < off + (j + 1)), if_neg h1]
        by_cases h3 : k < off + (j + 1) + vs.length
        · rw [if_pos h3, if_pos (by omega)]
          obtain ⟨m, hm⟩ : ∃ m, k - (off + j) = m + 1 := ⟨k - (off + j) - 1, by omega⟩
          rw [hm, List.getElem?_cons_succ]
          congr 1; omega
        · rw [if_neg h3, if_neg (by omega), List.getElem?_set_ne (by omega)]
theorem putSeg_length {cs : List Value} {off : Nat} {vs : List Value} (h : off + vs.length ≤ cs.length) : (putSeg cs off vs).length = cs.length := by
  simp [putSeg]; omega
theorem fill_step {place : Nat → Option (Nat × Nat)} {cs : List Value} {i off size : Nat} {v : Value} {rest : List (Nat × Value)} (hp : place i = some (off, size)) (hs : v.cells.toList.length = size) (hl : off + v.cells.toList.length ≤ cs.length) :
    Instr.fill place cs.toArray ((i, v) :: rest) = Instr.fill place (putSeg cs off v.cells.toList).toArray rest := by
  have h1 : ¬ (v.cells.size ≠ size) := by simpa using hs
  have h2 : ¬ (off + v.cells.size > cs.toArray.size) := by simp at hl ⊢; omega
  simp only [Instr.fill, hp]
  rw [if_neg (by simp only [Bool.or_eq_true, decide_eq_true_eq, not_or]; exact ⟨h1, h2⟩)]
  congr 1
  have := foldl_put v.cells.toList cs.toArray off 0 (by simpa using hl)
  simp only [Nat.add_zero] at this
  rw [← this, ← Array.foldl_toList]
  simp
theorem fillS_sound {P : Program} {fs : List Field} {place : Nat → Option (Nat × Nat)} (hp : ∀ (i : Nat) (fd : Field) (inf : TypeInfo), fs[i]? = some fd → P.info? fd.type = some inf → place i = some (fd.offset, inf.size)) :
    ∀ {parts : List (Nat × Value)} {cs : List Value} {K : List Value → Prop}, fillS P fs cs parts K → ∃ r : List Value, Instr.fill place cs.toArray parts = some r.toArray ∧ K r
  | [], cs, K, h => ⟨cs, rfl, h⟩
  | (i, v) :: rest, cs, K, h => by
    simp only [fillS] at h
    split at h
    · rename_i fd hf
      obtain ⟨inf, hi, _, hsz, _, _, hk⟩ := cellsV_elim h
      split at hk
      · rename_i hl
        obtain ⟨r, hr, hkr⟩ := fillS_sound hp hk
        exact ⟨r, by rw [fill_step (hp i fd inf hf hi) hsz hl]; exact hr, hkr⟩
      · exact hk.elim
    · exact h.elim
theorem fillE_sound {P : Program} {e : TypeId} {inf : TypeInfo} (hi : P.info? e = some inf) :
    ∀ {parts : List (Nat × Value)} {cs : List Value} {K : List Value → Prop}, fillE P e inf.size cs parts K → ∃ r : List Value, Instr.fill (fun i => some (i * inf.size, inf.size)) cs.toArray parts = some r.toArray ∧ K r
  | [], cs, K, h => ⟨cs, rfl, h⟩
  | (i, v) :: rest, cs, K, h => by
    simp only [fillE] at h
    obtain ⟨inf', hi', _, hsz, _, _, hk⟩ := cellsV_elim h
    have : inf' = inf := by rw [hi] at hi'; exact (Option.some.inj hi').symm
    subst this
    split at hk
    · rename_i hl
      obtain ⟨r, hr, hkr⟩ := fillE_sound hi hk
      exact ⟨r, by rw [fill_step rfl hsz hl]; exact hr, hkr⟩
    · exact hk.elim
theorem mapM_places {P : Program} : ∀ (fs : List Field) (w : World), (∀ f ∈ fs, (P.info? f.type).isSome = true) →
    (fs.mapM fun f => (do pure (f.offset, ← sizeOf f.type) : Sem (Nat × Nat))).run P w = .ok (fs.map fun f => (f.offset, sizeB P f.type)) w
  | [], w, _ => rfl
  | f :: fs, w, h => by
    obtain ⟨i, hi⟩ := Option.isSome_iff_exists.1 (h f (by simp))
    have ih := mapM_places fs w (fun g hg => h g (by simp [hg]))
    rw [List.mapM_cons]
    simp only [Sem.run_bind, run_size hi, Result.andThen_ok, Sem.run_pure, ih, List.map_cons]
    simp [sizeB, hi]
theorem build_sound {P : Program} {T : TypeId} {parts : List (Nat × Value)} {K : Value → Prop} (h : buildStep P T parts K) : ∃ r, (∀ w, (Instr.build T parts.toArray).run P w = .ok r w) ∧ K r := by
  unfold buildStep at h
  split at h
  · rename_i fs hT
    split at h
    · rename_i z hz
      split at h
      · rename_i hall
        have hinf : ∀ f ∈ fs.toList, (P.info? f.type).isSome = true := List.all_eq_true.1 hall
        obtain ⟨i, hi, hzi⟩ := Option.bind_eq_some_iff.1 hz
        have hpl : ∀ (i : Nat) (fd : Field) (inf : TypeInfo), fs.toList[i]? = some fd → P.info? fd.type = some inf → ((fs.toList.map fun f => (f.offset, sizeB P f.type)).toArray)[i]? = some (fd.offset, inf.size) := by
          intro i fd inf hf hinf
          simp at hf
          simp [hf, sizeB, hinf]
        obtain ⟨r, hr, hk⟩ := fillS_sound hpl h
        refine ⟨_, fun w => ?_, hk⟩
        have hm : (fs.mapM fun f => (do pure (f.offset, ← sizeOf f.type) : Sem (Nat × Nat))).run P w = .ok (fs.toList.map fun f => (f.offset, sizeB P f.type)).toArray w := by
          rw [Array.mapM_eq_mapM_toList]
          simp only [Sem.run_map, mapM_places fs.toList w hinf, Result.andThen_ok]
        have hz0 : (zeroValue T).run P w = .ok (.agg z) w := by simp [zeroValue, run_info hi, hzi]
        simp only [Instr.build, Sem.run_bind, hz0, Result.andThen_ok, run_und hT, hm, Value.cells]
        simp only [Array.toArray_toList] at hr
        rw [hr]
        rfl
      · exact h.elim
    · exact h.elim
  · exact h.elim
theorem asV_elim {s : Sh} {v : Value} {K : Value → Prop} (h : asV s v K) : K v := by
  cases s <;> simp only [asV] at h
  case int k =>
    unfold asIntV at h
    split at h
    · split at h
      · rename_i hk; have := of_decide_eq_true hk; subst this; exact h
      · exact h.elim
    · exact h.elim
  case raw => exact h
  all_goals (first | unfold asBoolV at h | unfold asStrV at h | unfold asPtrV at h | unfold asSliceV at h | unfold asMapV at h)
  all_goals (split at h <;> first | exact h | exact h.elim)
theorem asT_elim {P : Program} {t : TypeId} {v : Value} {K : Value → Prop} (h : asT P t v K) : K v := by
  unfold asT at h
  split at h
  · exact h
  · split at h
    · exact h
    · exact asV_elim h
theorem pure_sound {P : Program} {env : Env} {o : Oper} {K : Value → Prop} (h : pureStep P env o.op o.type K) : Pv P (rho env) o K := by
  obtain ⟨dst, op, type, pos, after, guard⟩ := o
  have lift : ∀ {x : Sem Value} {K : Value → Prop}, (∃ r, (∀ w, x.run P w = .ok r w) ∧ K r) → ∃ r, (∀ w, (do pure (Next.value (← x)) : Sem Next).run P w = .ok (.value r) w) ∧ K r :=
    fun ⟨r, hr, hk⟩ => ⟨r, fun w => by simp [hr w], hk⟩
  unfold pureStep at h
  unfold Pv
  simp only at h
  have letE : ∀ {v : Value}, nameV v K → K v := fun {v} h => by unfold nameV at h; split at h <;> exact h
  split at h
  · exact ⟨_, fun w => rfl, h⟩
  · refine ⟨_, fun w => rfl, ?_⟩
    split at h
    · exact letE h
    · exact h
  · split at h
    · rename_i t ht
      rcases Sif_elim h with ⟨rfl, hk⟩ | ⟨rfl, hk⟩
      · exact ⟨_, fun w => by simp [execOp, ht, asBool], hk⟩
      · exact ⟨_, fun w => by simp [execOp, ht, asBool], hk⟩
    · exact h.elim
  · rename_i t ps
    have e : (partsL env ps.toList).toArray = ps.map fun (i, x) => (i, rho env x) := by
      rw [partsL_map]; obtain ⟨l⟩ := ps; simp
    obtain ⟨r, hr, hk⟩ := build_sound h
    rw [e] at hr
    exact ⟨_, fun w => by simp only [execOp, Sem.run_bind, hr w, Result.andThen_ok, Sem.run_pure], hk⟩
  · rename_i x
    split at h
    · rename_i p hp
      obtain ⟨a, rfl, hk⟩ := nn_elim h
      exact ⟨_, fun w => by simp [execOp, hp], hk⟩
    · exact h.elim
  · exact lift (bin_sound h)
  · exact lift (un_sound h)
  · split at h
    · exact h.elim
    · rename_i t x d hd hT
      refine ⟨_, fun w => ?_, h⟩
      simp only [execOp, Instr.makeInterface, Sem.run_bind, run_und hT, Result.andThen_ok]
      cases d <;> first | rfl | (rename_i ms; exact (hd ms rfl).elim)
    · exact h.elim
  · rename_i fn a b
    refine ⟨_, fun w => ?_, h⟩
    simp [execOp, Instr.makeFunc, vals_array]
  · exact lift (slice_sound h)
  · exact lift (fieldAddr_sound h)
  · exact lift (field_sound h)
  · exact lift (indexAddr_sound h)
  · exact lift (index_sound h)
  · split at h
    · rename_i vs hx
      split at h
      · rename_i v hv
        rw [Array.getElem?_toList] at hv
        exact ⟨_, fun w => by simp [execOp, Instr.extract, hx, hv], asT_elim h⟩
      · exact h.elim
    · exact h.elim
  · rename_i c
    obtain ⟨callee, args, ats⟩ := c
    obtain ⟨args⟩ := args
    obtain ⟨ats⟩ := ats
    simp only at h
    split at h
    · split at h
      · obtain ⟨r, hr, hk⟩ := len_sound (ty := type) h
        refine ⟨r, fun w => ?_, hk⟩
        simp [execOp, resolve, invoke, builtin, hr w]
      · exact h.elim
    · split at h
      · unfold minmaxStep at h
        split at h
        · refine ⟨_, fun w => ?_, h⟩
          rename_i k x' k' y' hx hy
          simp [execOp, resolve, invoke, builtin, Builtin.max_, hx, hy, Builtin.max2]
          omega

        · exact h.elim
      · exact h.elim
    · split at h
      · unfold minmaxStep at h
        split at h
        · refine ⟨_, fun w => ?_, h⟩
          rename_i k x' k' y' hx hy
          simp [execOp, resolve, invoke, builtin, Builtin.min_, hx, hy, Builtin.min2]
          omega

        · exact h.elim
      · exact h.elim
    · exact h.elim
  · exact h.elim

/-! ### Operations that leave the world alone -/
theorem ldCells_sound {P : Program} {w : World} {a : Addr} : ∀ {l : List Sh} {i : Nat} {acc : Array Value} {K : List Value → Prop}, ldCells w a l i K →
    ∃ vs, (loadCellsFrom a i l.length acc).run P w = .ok (acc ++ vs.toArray) w ∧ K vs
  | [], i, acc, K, h => ⟨[], by simp [loadCellsFrom], h⟩
  | s :: l, i, acc, K, h => by
    obtain ⟨v, hc, h2⟩ := exC_some h
    obtain ⟨vs, hr, hk⟩ := ldCells_sound (acc := acc.push v) h2
    refine ⟨v :: vs, ?_, hk⟩
    simp only [List.length_cons, loadCellsFrom, Sem.run_bind, run_load, hc, Result.andThen]
    rw [hr]
    simp
/-- an operation that yields a value, the world staying -/
def Sv (P : Program) (ρ : Operand → Value) (o : Oper) (w : World) (K : Value → Prop) : Prop := ∃ v, (execOp ρ o).run P w = .ok (.value v) w ∧ K v
theorem runS_sound {P : Program} {s : RSh} {x : Sem Value} {w : World} {K : Value → Prop} (h : runS P s x w K) : ∃ v, x.run P w = .ok v w ∧ K v := exR_some h
theorem und_of_agg {P : Program} {t : TypeId} (hag : isAggB P t = true) : ∃ d, P.underlying t = some d := by
  unfold isAggB at hag
  split at hag
  · exact ⟨_, by assumption⟩
  · exact ⟨_, by assumption⟩
  · cases hag
theorem still_sound {P : Program} {env : Env} {o : Oper} {w : World} {K : Value → Prop} (h : stillStep P env o w K) : Sv P (rho env) o w K := by
  obtain ⟨dst, op, type, pos, after, guard⟩ := o
  have lift : ∀ {x : Sem Value} {K : Value → Prop}, (∃ r, x.run P w = .ok r w ∧ K r) → ∃ r, (do pure (Next.value (← x)) : Sem Next).run P w = .ok (.value r) w ∧ K r :=
    fun ⟨r, hr, hk⟩ => ⟨r, by simp [hr], hk⟩
  unfold stillStep at h
  unfold Sv
  simp only at h
  split at h
  · rename_i t x
    split at h
    · rename_i p hp
      obtain ⟨a, rfl, hk⟩ := nn_elim h
      split at hk
      · rename_i hag
        split at hk
        · rename_i hsz
          simp only [Bool.and_eq_true, beq_iff_eq] at hsz
          obtain ⟨hsz, hinf⟩ := hsz
          obtain ⟨i, hi⟩ := Option.isSome_iff_exists.1 hinf
          obtain ⟨d, hd⟩ := und_of_agg hag
          obtain ⟨vs, hr, hkk⟩ := ldCells_sound (P := P) (acc := #[]) hk
          refine ⟨_, ?_, hkk⟩
          have hn : (flatSh P 12 t).length = i.size := by rw [hsz]; simp [sizeB, hi]
          rw [hn] at hr
          simp [execOp, Instr.loadAt, hp, Instr.sureAddr, loadVar, run_isAgg hd, hag, run_size hi, loadCells, hr]
        · exact hk.elim
      · rename_i hag
        split at hk
        · rename_i d hd
          obtain ⟨v, hc, hkk⟩ := exC_some hk
          refine ⟨v, ?_, hkk⟩
          simp [execOp, Instr.loadAt, hp, Instr.sureAddr, loadVar, run_isAgg hd, hag, hc]
        · exact hk.elim
    · exact h.elim
  · split at h
    · exact lift (runS_sound h)
    · exact h.elim
  · rename_i s d x
    split at h
    · exact lift (runS_sound h)
    · obtain ⟨r, hr, hk⟩ := conv_sound h
      exact lift ⟨r, hr w, hk⟩
  · exact lift (runS_sound h)
  · exact lift (runS_sound h)
  · rename_i c
    obtain ⟨callee, args, ats⟩ := c
    simp only [vals_array] at h
    split at h
    · obtain ⟨r, hr, hk⟩ := runS_sound h
      exact ⟨r, by simp only [execOp, resolve, Sem.run_bind, Sem.run_pure, Result.andThen_ok, invoke, builtin, hr], hk⟩
    · exact h.elim
  · exact h.elim

/-! ### Operations that change the world -/
theorem st_sound {P : Program} {w : World} {a : Addr} {v : Value} {K : World → Prop} (hv : oneV v = true) (h : st w a v K) : ∃ w', (store a v).run P w = .ok () w' ∧ K w' := by
  obtain ⟨h1, h2, hk⟩ := h
  obtain ⟨u, hu⟩ := Option.isSome_iff_exists.1 h1
  refine ⟨_, ?_, hk⟩
  cases v <;> first | (simp [oneV] at hv; done) | simp [store, Sem.run, hu, h2]
theorem stCells_sound {P : Program} {a : Addr} : ∀ {l : List Value} {i : Nat} {w : World} {K : World → Prop}, stCells w a l i K → ∃ w', (storeCells a l i).run P w = .ok () w' ∧ K w'
  | [], i, w, K, h => ⟨w, by simp [storeCells], h⟩
  | [v], i, w, K, h => by
    rcases Sif_elim h with ⟨hv, h⟩ | ⟨_, h⟩
    · obtain ⟨w', hr, hk⟩ := st_sound (P := P) hv h
      exact ⟨w', by simp [storeCells, hr], hk⟩
    · exact h.elim
  | v :: u :: l, i, w, K, h => by
    rcases Sif_elim h with ⟨hv, h⟩ | ⟨_, h⟩
    · obtain ⟨w1, hr, h2⟩ := st_sound (P := P) hv h
      obtain ⟨w', hr', hk⟩ := stCells_sound (P := P) h2
      exact ⟨w', by rw [storeCells]; simp only [Sem.run_bind, hr, Result.andThen_ok, hr'], hk⟩
    · exact h.elim
theorem runW_sound {P : Program} {s : RSh} {x : Sem Value} {w : World} {K : Value → World → Prop} (h : runW P s x w K) : ∃ v w', x.run P w = .ok v w' ∧ K v w' := by
  obtain ⟨v, w', hr, hk⟩ := exR_some h; exact ⟨v, w', hr, hk⟩
theorem runN_sound {P : Program} {s : List VSh} {x : Sem Value} {w : World} {K : Value → World → Prop} (h : runN P s x w K) : ∃ v w', x.run P w = .ok v w' ∧ K v w' := by
  rcases h with ⟨w', hr, hk⟩ | h
  · exact ⟨_, w', hr, hk⟩
  · obtain ⟨vs, w', hr, hk⟩ := exVs_some h; exact ⟨_, w', hr, hk⟩
theorem okCall_enter {P : Program} {f : FuncId} (h : okCall P f = true) (args : Array Value) (w : World) : (callFunc f args).run P w = .ok (.enter f args) w := by
  unfold okCall at h
  split at h
  · rename_i fn hf
    simp only [Bool.and_eq_true, Bool.not_eq_true'] at h
    have hb : ¬ fn.body = none := by intro e; simp [e] at h
    have hn : ¬ fn.name = "runtime.NumGoroutine" := by simpa using h.2
    simp [callFunc, hf]
    rw [if_neg hn, if_neg hb]
  · cases h
def isDefer : Op → Bool
  | .defer _ => true
  | _ => false
/-- what an operation of the third kind does -/
def Ev (P : Program) (ρ : Operand → Value) (o : Oper) (ds : List Deferred) (w : World) (K : Value → List Deferred → World → Prop) : Prop :=
  (∃ v w', (execOp ρ o).run P w = .ok (.value v) w' ∧ K v ds w') ∨
  (∃ w', (execOp ρ o).run P w = .ok .skip w' ∧ K undef ds w') ∨
  (∃ d w', isDefer o.op = true ∧ (execOp ρ o).run P w = .ok (.defer d) w' ∧ K undef (d :: ds) w') ∨
  (∃ f args w1, (execOp ρ o).run P w = .ok (.enter f args) w1 ∧ Calls P f args w1 fun e w' => ∃ v, e = .returned v ∧ K v ds w')
theorem eff_sound {P : Program} {env : Env} {o : Oper} {ds : List Deferred} {w : World} {K : Value → List Deferred → World → Prop} (h : effStep P env o ds w K) : Ev P (rho env) o ds w K := by
  obtain ⟨dst, op, type, pos, after, guard⟩ := o
  have lift : ∀ {x : Sem Value} {K : Value → World → Prop}, (∃ r w', x.run P w = .ok r w' ∧ K r w') → ∃ r w', (do pure (Next.value (← x)) : Sem Next).run P w = .ok (.value r) w' ∧ K r w' :=
    fun ⟨r, w', hr, hk⟩ => ⟨r, w', by simp [hr], hk⟩
  have liftU : ∀ {x : Sem Unit} {K : World → Prop}, (∃ w', x.run P w = .ok () w' ∧ K w') → ∃ w', (do x; pure Next.skip : Sem Next).run P w = .ok .skip w' ∧ K w' :=
    fun ⟨w', hr, hk⟩ => ⟨w', by simp [hr], hk⟩
  unfold effStep at h
  unfold Ev
  simp only at h
  split at h
  · rename_i t
    split at h
    · rename_i v hv
      obtain ⟨i, hi, hz⟩ := Option.bind_eq_some_iff.1 hv
      refine .inl (lift ⟨_, _, ?_, h⟩)
      have hz0 : (zeroValue t).run P w = .ok v w := by simp [zeroValue, run_info hi, hz]
      simp [Instr.alloc, hz0, newVar, newRow]
    · exact h.elim
  · rename_i t x
    obtain ⟨i, hi, _, _, _, _, hk⟩ := cellsV_elim h
    refine .inl (lift ⟨_, _, ?_, hk⟩)
    simp [Instr.box, newVar, newRow]
  · rename_i t n ps
    split at h
    · rename_i e hT
      split at h
      · rename_i inf hi
        split at h
        · rename_i h0
          have h0' : n * inf.size = 0 := by simpa [Nat.beq_eq] using h0
          split at h
          · rename_i hps
            refine .inl (lift ⟨_, _, ?_, h⟩)
            have eps : ps = #[] := by obtain ⟨l⟩ := ps; simp at hps; simp [hps]
            subst eps
            have h1' : ¬ (0 > 2 ^ 24) := by omega
            simp only [Instr.buildSlice, Sem.run_bind, run_und hT, Result.andThen_ok, run_size hi, h0', h1', if_false, if_true, Sem.run_pure]
            have hr0 : Array.range 0 = #[] := rfl
            simp [Instr.fill, newRow, hr0]
          · exact h.elim
        · rename_i h0
          split at h
          · rename_i z hz
            split at h
            · rename_i hcond
              obtain ⟨h1, h2, h3⟩ := hcond
              obtain ⟨r, hr, hk⟩ := fillE_sound hi h
              refine .inl (lift ⟨_, _, ?_, hk⟩)
              have hz0 : (zeroValue e).run P w = .ok z w := by simp [zeroValue, run_info hi, hz]
              have hsz : z.cells.size = inf.size := by simpa using h3
              have hrep : ∀ n, (repV n z.cells.toList).length = n * inf.size := by
                intro n; induction n with
                | zero => simp [repV]
                | succ n ih => simp only [repV, List.length_append, ih, h3, Nat.succ_mul]; omega
              have hget : ∀ n k, k < n * inf.size → (repV n z.cells.toList)[k]? = z.cells.toList[k % inf.size]? := by
                intro n; induction n with
                | zero => intro k hk; omega
                | succ n ih =>
                  intro k hk
                  simp only [repV]
                  by_cases hlt : k < inf.size
                  · rw [List.getElem?_append_left (by omega), Nat.mod_eq_of_lt hlt]
                  · rw [List.getElem?_append_right (by omega), h3, ih _ (by rw [Nat.succ_mul] at hk; omega)]
                    congr 1
                    rw [← Nat.mod_eq_sub_mod (by omega)]
              have harr : ((Array.range (n * inf.size)).map (z.cells[· % z.cells.size]!)) = (repV n z.cells.toList).toArray := by
                apply Array.ext'
                apply List.ext_getElem?
                intro k
                by_cases hk : k < n * inf.size
                · have hpos : 0 < inf.size := Nat.pos_of_ne_zero fun h0 => h2 (by rw [h0]; rfl)
                  have hmod : k % inf.size < z.cells.size := by rw [hsz]; exact Nat.mod_lt _ hpos
                  have hz2 : z.cells.toList[k % inf.size]? = some (z.cells[k % z.cells.size]!) := by
                    rw [Array.getElem?_toList, hsz, getElem!_pos z.cells _ hmod, Array.getElem?_eq_getElem hmod]
                  rw [hget n k hk, hz2]
                  simp [hk]
                · rw [List.getElem?_eq_none (by simp; omega), List.getElem?_eq_none (by simp [hrep]; omega)]
              have eparts : (ps.map fun (i, x) => (i, rho env x)).toList = partsL env ps.toList := by
                rw [partsL_map]; obtain ⟨l⟩ := ps; simp
              have h1' : ¬ (n * inf.size > 2 ^ 24) := by omega
              simp only [Instr.buildSlice, Sem.run_bind, run_und hT, Result.andThen_ok, run_size hi, h1', if_false, Sem.run_pure, h2, hz0, harr, eparts, hr]
              simp [newRow]
            · exact h.elim
          · exact h.elim
      · exact h.elim
    · exact h.elim
  · rename_i t x y
    split at h
    · rename_i p hp
      obtain ⟨a, rfl, hk⟩ := nn_elim h
      obtain ⟨i, hi, _, hsz, _, _, hk⟩ := cellsV_elim hk
      obtain ⟨w', hr, hkk⟩ := stCells_sound (P := P) hk
      refine .inr (.inl (liftU ⟨w', ?_, hkk⟩))
      have hsz' : (rho env y).cells.size = i.size := by simpa using hsz
      simp [Instr.storeAt, hp, Instr.sureAddr, storeVar, run_size hi, hsz', hr]
    · exact h.elim
  · split at h
    · exact .inl (lift (runW_sound h))
    · exact .inl (lift (runW_sound h))
  · exact .inl (lift (runW_sound h))
  · exact .inr (.inl (liftU h))
  · exact .inr (.inl (liftU h))
  · exact .inl (lift (runW_sound h))
  · exact .inr (.inl (liftU h))
  · exact .inl (lift (runW_sound h))
  · exact .inl (lift (runN_sound h))
  · rename_i c
    obtain ⟨callee, args, ats⟩ := c
    have bl : ∀ {x : Sem Value} {b : Builtin} {K : Value → World → Prop}, (∀ cs, builtin b ats type cs (args.map (rho env)) = (do pure (Next.value (← x)))) → (∃ r w', x.run P w = .ok r w' ∧ K r w') →
        ∃ r w', (execOp (rho env) ⟨dst, .call ⟨.builtin b, args, ats⟩, type, pos, after, guard⟩).run P w = .ok (.value r) w' ∧ K r w' :=
      fun hb ⟨r, w', hr, hk⟩ => ⟨r, w', by simp only [execOp, resolve, Sem.run_bind, Sem.run_pure, Result.andThen_ok, invoke, hb, hr], hk⟩
    simp only [vals_array] at h
    split at h
    · rename_i f
      split at h
      · rename_i hok
        refine .inr (.inr (.inr ⟨f, args.map (rho env), w, ?_, ?_⟩))
        · simp [execOp, resolve, invoke, rho, evalO, Deferred.ofValue, okCall_enter hok]
        · simp only [callR, callP, vals_array] at h
          exact h.mono fun e w' ⟨v, he, hx⟩ => let ⟨u, hu, hk⟩ := exR_some hx; ⟨v, he, by rw [hu]; exact hk⟩
      · exact h.elim
    · rename_i x _
      unfold callV at h
      split at h
      · rename_i f first cap hx
        obtain ⟨hok, h⟩ := h
        refine .inr (.inr (.inr ⟨f, first ++ args.map (rho env) ++ cap, w, ?_, ?_⟩))
        · simp [execOp, resolve, invoke, hx, Deferred.ofValue, okCall_enter hok]
        · simp only [callR, callP] at h
          have e : (first.toList ++ valsL env args.toList ++ cap.toList).toArray = first ++ args.map (rho env) ++ cap := by
            rw [← vals_array]; simp
          rw [e] at h
          exact h.mono fun e w' ⟨v, he, hx⟩ => let ⟨u, hu, hk⟩ := exR_some hx; ⟨v, he, by rw [hu]; exact hk⟩
      · exact h.elim
    · rename_i r name
      obtain ⟨t, v, f, x, hr, hm, hok, h⟩ := h
      refine .inr (.inr (.inr ⟨f, #[x] ++ args.map (rho env), w, ?_, ?_⟩))
      · generalize hA : args.map (rho env) = A
        obtain ⟨l⟩ := A
        have h0 : (#[rho env r] ++ l.toArray)[0]? = some (rho env r) := by simp
        have h1 : (#[rho env r] ++ l.toArray).extract 1 (#[rho env r] ++ l.toArray).size = l.toArray := by simp
        simp only [execOp, resolve, Sem.run_bind, Sem.run_pure, Result.andThen_ok, invoke, hA, h0, h1]
        simp only [hr, callMethod, Sem.run_bind, run_program, Result.andThen_ok, hm, okCall_enter hok]
      · simp only [callR, callP] at h
        have e : (x :: valsL env args.toList).toArray = #[x] ++ args.map (rho env) := by
          rw [← vals_array]; simp
        rw [e] at h
        exact h.mono fun e w' ⟨v, he, hx⟩ => let ⟨u, hu, hk⟩ := exR_some hx; ⟨v, he, by rw [hu]; exact hk⟩
    · exact .inl (bl (fun _ => rfl) (runW_sound h))
    · exact .inl (bl (fun _ => rfl) (runW_sound h))
    · exact .inl (bl (fun _ => rfl) (runW_sound h))
    · exact .inl (bl (fun _ => rfl) (runW_sound h))
    · exact h.elim
  · rename_i c
    obtain ⟨callee, args, ats⟩ := c
    simp only [vals_array] at h
    split at h
    · refine .inr (.inr (.inl ⟨_, w, rfl, ?_, h⟩))
      simp [execOp, resolve, rho, evalO, Deferred.ofValue]
    · split at h
      · rename_i fn first cap hx
        refine .inr (.inr (.inl ⟨_, w, rfl, ?_, h⟩))
        have e : (first.toList ++ valsL env args.toList).toArray = first ++ args.map (rho env) := by
          rw [← vals_array]; simp
        simp [execOp, resolve, hx, Deferred.ofValue, e]
      · exact h.elim
    · exact h.elim
  · exact h.elim
end Go.Sv
