/-
  QueuePlays: two queues in turns, any calls: the program answers as the document does; what comes out is its owner's; the call returns true and the inputs read as they did. Conditions: the inputs are of bulk at most 1048576 (the second form's card); the listed tables of unicode/utf8 lie as the program's text lays them.
-/
import Derived.Test.YtipbbjnmpnfhpaaGreatDoorPa17
import Derived.ProofKit
import Derived.OpenShut
import Derived.ShutString
import Derived.ChangeOld
import Derived.Below
import Derived.Carry
import Derived.SizedLaws
import Derived.Deep.Slices
import Derived.Deep.CondSized
import Derived.Deep.DeepHandedRow
import Derived.Lib.LaidTab
import Derived.Test.YtipbbjnmpnfhpaaGreatDoorRows
import Derived.Test.YtipbbjnmpnfhpaaGreatDoorCards
import Derived.Test.YtipbbjnmpnfhpaaGreatDoorTie
namespace Go.Sv
open Go Go.ChangeShapes Go.WideShapes Go.ChangeAt Go.RowKit
set_option linter.unusedVariables false

/-- the cells cs, of type t, are typed, and what they lead to reads; ok n b: a row of n elements of b bytes is no longer than allowed -/
def Inp (P : Program) (w : World) (ok : Nat → Nat → Prop) : Nat → TypeId → List Value → Prop
  | 0, _, _ => False
  | n + 1, t, cs =>
    match P.underlying t with
    | some .bool => ∃ b : Bool, cs = [.bool b]
    | some (.int k) => ∃ i : Int, cs = [.int k i] ∧ (Lit.int k i).wf = true
    | some .string => ∃ s : ByteArray, cs = [.string s] ∧ ok s.size 1
    | some (.slice e) => ∃ (p : Option Addr) (L : List (List Value)) (c : Nat), cs = [.slice p L.length c] ∧ L.length ≤ c ∧ ok c (P.bytesOf e) ∧ Rd w p L.length (P.cellsOf e) L.flatten ∧ ∀ x ∈ L, Inp P w ok n e x
    | some (.struct fs) => cs.length = P.cellsOf t ∧ ∀ f ∈ fs.toList, Inp P w ok n f.type ((cs.drop f.offset).take (P.cellsOf f.type))
    | _ => True
section
variable {P : Program} {w : World} {ok : Nat → Nat → Prop} {n : Nat} {t : TypeId} {cs : List Value}
theorem Inp.bool (h : Inp P w ok n t cs) (ht : P.underlying t = some .bool) : ∃ b : Bool, cs = [.bool b] := by
  cases n with
  | zero => exact h.elim
  | succ n => unfold Inp at h; rw [ht] at h; exact h
theorem Inp.int {k : IntKind} (h : Inp P w ok n t cs) (ht : P.underlying t = some (.int k)) : ∃ i : Int, cs = [.int k i] ∧ (Lit.int k i).wf = true := by
  cases n with
  | zero => exact h.elim
  | succ n => unfold Inp at h; rw [ht] at h; exact h
theorem Inp.str (h : Inp P w ok n t cs) (ht : P.underlying t = some .string) : ∃ s : ByteArray, cs = [.string s] ∧ ok s.size 1 := by
  cases n with
  | zero => exact h.elim
  | succ n => unfold Inp at h; rw [ht] at h; exact h
theorem Inp.slice {e : TypeId} (h : Inp P w ok n t cs) (ht : P.underlying t = some (.slice e)) :
    ∃ (p : Option Addr) (L : List (List Value)) (c : Nat), cs = [.slice p L.length c] ∧ L.length ≤ c ∧ ok c (P.bytesOf e) ∧ Rd w p L.length (P.cellsOf e) L.flatten ∧ ∀ x ∈ L, ∃ n, Inp P w ok n e x := by
  cases n with
  | zero => exact h.elim
  | succ n =>
    unfold Inp at h; rw [ht] at h
    obtain ⟨p, L, c, h1, h2, h3, h4, h5⟩ := h
    exact ⟨p, L, c, h1, h2, h3, h4, fun x hx => ⟨n, h5 x hx⟩⟩
theorem Inp.struct {fs : Array Field} (h : Inp P w ok n t cs) (ht : P.underlying t = some (.struct fs)) : cs.length = P.cellsOf t ∧ ∀ f ∈ fs.toList, ∃ n, Inp P w ok n f.type ((cs.drop f.offset).take (P.cellsOf f.type)) := by
  cases n with
  | zero => exact h.elim
  | succ n =>
    unfold Inp at h; rw [ht] at h
    exact ⟨h.1, fun f hf => ⟨n, h.2 f hf⟩⟩
end
def oneCells (P : Program) : Nat → List Field → Bool
  | _, [] => true
  | i, f :: r => f.offset == i && P.cellsOf f.type == 1 && oneCells P (i + 1) r
/-- cells, each of its own type -/
def InpEach (P : Program) (w : World) (ok : Nat → Nat → Prop) : List TypeId → List Value → Prop
  | [], [] => True
  | t :: ts, c :: cs => (∃ n, Inp P w ok n t [c]) ∧ InpEach P w ok ts cs
  | _, _ => False
theorem Inp.fields {P : Program} {w : World} {ok : Nat → Nat → Prop} {n : Nat} {t : TypeId} {cs : List Value} {fs : Array Field} (h : Inp P w ok n t cs) (ht : P.underlying t = some (.struct fs)) (hone : oneCells P 0 fs.toList = true)
    (hn : P.cellsOf t = fs.toList.length) : InpEach P w ok (fs.toList.map (·.type)) cs := by
  obtain ⟨h1, h2⟩ := h.struct ht
  have go : ∀ (l : List Field) (i : Nat), oneCells P i l = true → cs.length = i + l.length → (∀ f ∈ l, ∃ n, Inp P w ok n f.type ((cs.drop f.offset).take (P.cellsOf f.type))) → InpEach P w ok (l.map (·.type)) (cs.drop i) := by
    intro l
    induction l with
    | nil => intro i _ hl _; rw [List.drop_of_length_le (by simp at hl; omega)]; trivial
    | cons f r ih =>
      intro i ho hl hi
      simp only [oneCells, Bool.and_eq_true, beq_iff_eq] at ho
      obtain ⟨⟨h3, h4⟩, h5⟩ := ho
      simp only [List.length_cons] at hl
      have h6 := hi f (List.mem_cons_self ..)
      rw [h3, h4, List.drop_eq_getElem_cons (by omega)] at h6
      rw [List.drop_eq_getElem_cons (by omega)]
      exact ⟨h6, ih (i + 1) h5 (by omega) fun g hg => hi g (List.mem_cons_of_mem _ hg)⟩
  exact go fs.toList 0 hone (by omega) h2
theorem cell_at {w : World} {b j : Nat} {v : Value} (h : w.cell? ⟨b, j, none⟩ = some v) : ∃ cs, cellsAt w b = some cs ∧ cs[j]? = some v := by
  unfold World.cell? at h
  unfold cellsAt
  simp only at h
  split at h
  · rename_i c t fz hh
    exact ⟨c.toList, by rw [hh], by simpa using h⟩
  · cases h
/-- a run of cells that reads is a row -/
theorem rd_of_cells {w : World} {a : Addr} {n sz : Nat} {xs : List Value} (hl : xs.length = n * sz) (hc : ∀ i, i < n * sz → w.cell? (a.add i) = xs[i]?) : Rd w (some a) n sz xs := by
  refine ⟨hl, ?_⟩
  by_cases h0 : n * sz = 0
  · exact .inl h0
  · have h1 := hc 0 (by omega)
    rw [List.getElem?_eq_getElem (by omega)] at h1
    have hs := World.cell?_spot h1
    obtain ⟨b, o, sp⟩ := a
    have hsp : sp = none := by
      unfold Addr.add at hs
      split at hs <;> simp_all
    subst hsp
    simp only [add_at] at hc h1
    obtain ⟨cs, hcs, _⟩ := cell_at h1
    right
    have hat : ∀ i, i < n * sz → cs[o + i]? = xs[i]? := fun i hi => by
      rw [← cell_of hcs, hc i hi]
    have hlast := hat (n * sz - 1) (by omega)
    rw [List.getElem?_eq_getElem (by omega : n * sz - 1 < xs.length)] at hlast
    have hlt := (List.getElem?_eq_some_iff.1 hlast).1
    refine ⟨b, o, cs, rfl, hcs, by omega, ?_⟩
    apply List.ext_getElem?
    intro i
    rw [List.getElem?_take]
    split
    · rename_i hi; rw [List.getElem?_drop, hat i hi]
    · rw [List.getElem?_eq_none (by omega)]
section
variable {H : Type} {enc : TypeId × Value → H} {P : Program} {w : World}
theorem flatten_get {sz : Nat} (L : List (List Value)) (h : ∀ x ∈ L, x.length = sz) (i j : Nat) (hj : j < sz) : L.flatten[i * sz + j]? = L[i]?.bind fun x => x[j]? := by
  induction L generalizing i with
  | nil => simp
  | cons x L ih =>
    have hx : x.length = sz := h x (by simp)
    rw [List.flatten_cons]
    cases i with
    | zero => rw [Nat.zero_mul, Nat.zero_add, List.getElem?_append_left (by omega)]; simp
    | succ i =>
      rw [List.getElem?_append_right (by rw [hx, Nat.add_mul]; omega), hx, show (i + 1) * sz + j - sz = i * sz + j by rw [Nat.add_mul]; omega, ih (fun y hy => h y (by simp [hy])) i]; simp
theorem flatten_len {sz : Nat} (L : List (List Value)) (h : ∀ x ∈ L, x.length = sz) : L.flatten.length = L.length * sz := by
  induction L with
  | nil => simp
  | cons x L ih => rw [List.flatten_cons, List.length_append, h x (by simp), ih fun y hy => h y (by simp [hy]), List.length_cons, Nat.add_mul]; omega
/-- the bound that a way of measuring data gives -/
structure Measure (P : Program) (H : Type) where
  ok : Nat → Nat → Prop
  good : TypeId → DataW H → Prop
  str : ∀ {t : TypeId} {l : List UInt8}, good t (.lit (.string l)) → ok l.length 1
  nil : ∀ e, ok 0 (P.bytesOf e)
  slice : ∀ {t e : TypeId} {a b : List (DataW H)}, P.underlying t = some (.slice e) → good t (.slice a b) → ok (a.length + b.length) (P.bytesOf e) ∧ ∀ d ∈ a, good e d
  agg : ∀ {t : TypeId} {fs : Array Field} {l : List (DataW H)}, P.underlying t = some (.struct fs) → good t (.agg l) → ∀ (j : Nat) (f : Field) (d : DataW H), fs[j]? = some f → l[j]? = some d → good f.type d
theorem inp_of_trod (M : Measure P H) (base : Nat) : ∀ (fuel : Nat) (t : TypeId) (cs : List Value) (x : DataW H × List MemPlace), DataW.trod enc P w base (fun _ => true) true fuel t cs = some x → M.good t x.1 → ∃ n, Inp P w M.ok n t cs := by
  have mono : ∀ (a b : Nat) (t : TypeId) (cs : List Value), a ≤ b → Inp P w M.ok a t cs → Inp P w M.ok b t cs := by
    intro a
    induction a with
    | zero => intro b t cs _ h; exact h.elim
    | succ a ih =>
      intro b t cs hab h
      obtain ⟨b, rfl⟩ : ∃ c, b = c + 1 := ⟨b - 1, by omega⟩
      unfold Inp at h ⊢
      split at h
      · exact h
      · exact h
      · exact h
      · obtain ⟨p, L, c, h1, h2, h3, h4, h5⟩ := h
        exact ⟨p, L, c, h1, h2, h3, h4, fun x hx => ih b _ _ (by omega) (h5 x hx)⟩
      · exact ⟨h.1, fun f hf => ih b _ _ (by omega) (h.2 f hf)⟩
      · trivial
  intro fuel
  induction fuel with
  | zero => intro t cs x h; simp [DataW.trod] at h
  | succ fuel ih =>
    intro t cs x h hg
    cases ht : P.underlying t with
    | none => exact ⟨1, by unfold Inp; rw [ht]; trivial⟩
    | some td =>
      cases td with
      | bool =>
        obtain ⟨b, rfl, _⟩ := DataW.trod_bool ht h
        exact ⟨1, by unfold Inp; rw [ht]; exact ⟨b, rfl⟩⟩
      | int k =>
        obtain ⟨i, rfl, _, hw⟩ := DataW.trod_int ht h
        exact ⟨1, by unfold Inp; rw [ht]; exact ⟨i, rfl, hw⟩⟩
      | string =>
        obtain ⟨s, rfl, rfl, _⟩ := DataW.trod_string ht h
        exact ⟨1, by unfold Inp; rw [ht]; exact ⟨s, rfl, by simpa using M.str hg⟩⟩
      | slice e =>
        rcases DataW.trod_slice ht h with ⟨rfl, _⟩ | ⟨a, len, cap, elems, rest, m, hm, rfl, rfl, hb, hl, hmx, hlen, hel, hsp, hns⟩
        · exact ⟨1, by unfold Inp; rw [ht]; exact ⟨none, [], 0, rfl, Nat.le_refl _, M.nil e, ⟨by simp, .inl (by simp)⟩, by simp⟩⟩
        · obtain ⟨hk, hge⟩ := M.slice ht hg
          obtain rfl : fuel = m := by omega
          have hrest := (hsp rfl).1
          have hcap : elems.length + rest.length = cap := by omega
          have each : ∀ i, i < len → ∃ cs', w.cells? base (a.add (i * P.cellsOf e)) (P.cellsOf e) = some cs' ∧ ∃ n, Inp P w M.ok n e cs' := fun i hi => by
            have h1 := hel i hi
            have h2 : elems[i]? = some (elems[i]'(by omega)) := List.getElem?_eq_getElem (by omega)
            rw [h2] at h1
            cases hc : w.cells? base (a.add (i * P.cellsOf e)) (P.cellsOf e) with
            | none => rw [hc] at h1; cases h1
            | some cs' =>
              rw [hc] at h1
              exact ⟨cs', rfl, ih e cs' _ h1 (hge _ (List.mem_map.2 ⟨_, List.mem_of_getElem? h2, rfl⟩))⟩
          obtain ⟨F, hF⟩ := Deep.choose_lt each
          obtain ⟨N, hN⟩ := Deep.fuel_lt (n := len) (q := fun i n => Inp P w M.ok n e (F i)) (fun i a b hab h => mono a b _ _ hab h) (fun i hi => (hF i hi).2)
          have hFl : ∀ x ∈ (List.range len).map F, x.length = P.cellsOf e := fun x hx => by
            obtain ⟨i, hi, rfl⟩ := List.mem_map.1 hx
            exact (World.cells?_some (hF i (List.mem_range.1 hi)).1).2.1
          have hlen' : ((List.range len).map F).length = len := by simp
          refine ⟨N + 1, ?_⟩
          unfold Inp
          rw [ht]
          refine ⟨some a, (List.range len).map F, cap, by rw [hlen'], by rw [hlen']; exact hl, by simpa [hcap] using hk, ?_, fun x hx => ?_⟩
          · rw [hlen']
            have hll : ((List.range len).map F).flatten.length = len * P.cellsOf e := by
              rw [flatten_len _ hFl, hlen']
            refine rd_of_cells hll fun i hi => ?_
            have hsz : 0 < P.cellsOf e := Nat.pos_of_ne_zero fun h0 => by rw [h0] at hi; simp at hi
            have hdm := Nat.div_add_mod i (P.cellsOf e)
            have hil : i / P.cellsOf e < len := by rw [Nat.div_lt_iff_lt_mul hsz]; exact hi
            have hj := Nat.mod_lt i hsz
            have h3 := (World.cells?_some (hF _ hil).1).2.2 (i % P.cellsOf e) hj
            rw [Deep.add_add, Nat.mul_comm, hdm] at h3
            rw [h3]
            have h4 := flatten_get _ hFl (i / P.cellsOf e) (i % P.cellsOf e) hj
            rw [Nat.mul_comm, hdm] at h4
            rw [h4, List.getElem?_map, List.getElem?_range hil]; simp
          · obtain ⟨i, hi, rfl⟩ := List.mem_map.1 hx
            exact hN i (List.mem_range.1 hi)
      | struct fs =>
        obtain ⟨xs, m, hm, rfl, hcl, hxl, hf⟩ := DataW.trod_struct ht h
        obtain rfl : fuel = m := by omega
        have each : ∀ i, i < fs.size → ∃ n, ∀ f, fs[i]? = some f → Inp P w M.ok n f.type ((cs.drop f.offset).take (P.cellsOf f.type)) := fun i hi => by
          have hfi : fs[i]? = some fs[i] := Array.getElem?_eq_getElem hi
          have h1 := hf i _ hfi
          have h2 : xs[i]? = some (xs[i]'(by omega)) := List.getElem?_eq_getElem (by omega)
          rw [h2] at h1
          obtain ⟨n, hn⟩ := ih _ _ _ h1 (M.agg ht hg i _ _ hfi (by rw [List.getElem?_map, h2]; rfl))
          exact ⟨n, fun f hf' => by rw [hfi] at hf'; cases hf'; exact hn⟩
        obtain ⟨N, hN⟩ := Deep.fuel_lt (n := fs.size) (q := fun i n => ∀ f, fs[i]? = some f → Inp P w M.ok n f.type ((cs.drop f.offset).take (P.cellsOf f.type))) (fun i a b hab h f hf => mono a b _ _ hab (h f hf)) each
        refine ⟨N + 1, ?_⟩
        unfold Inp
        rw [ht]
        refine ⟨hcl, fun f hf' => ?_⟩
        obtain ⟨i, hi, rfl⟩ := List.mem_iff_getElem.1 hf'
        exact hN i (by simpa using hi) _ (by simp)
      | _ => exact ⟨1, by unfold Inp; rw [ht]; trivial⟩
end
/-- an argument as it comes in -/
def InpV (P : Program) (w : World) (ok : Nat → Nat → Prop) (t : TypeId) (v : Value) : Prop :=
  (∃ n, Inp P w ok n t v.cells.toList) ∧ (match P.underlying t with | some (.struct _) | some (.array _ _) => ∃ cs, v = .agg cs | _ => oneV v = true)
def InpAll (P : Program) (w : World) (ok : Nat → Nat → Prop) : List TypeId → List Value → Prop
  | [], [] => True
  | t :: ts, v :: vs => InpV P w ok t v ∧ InpAll P w ok ts vs
  | _, _ => False
section
variable {H : Type} {enc : TypeId × Value → H} {P : Program} {w : World}
theorem inpAll_of (M : Measure P H) : ∀ {ts : List TypeId} {vs : List Value} {ds : List (DataW H)} {ps : List MemPlace}, DataW.TrodAll enc P w 0 (fun _ => true) true ts vs ds ps →
    (∀ (j : Nat) t v, ts[j]? = some t → vs[j]? = some v → ∃ b, Value.okWide P w .any b t v) → (∀ (j : Nat) t d, ts[j]? = some t → ds[j]? = some d → M.good t d) → InpAll P w M.ok ts vs
  | [], [], _, _, _, _, _ => trivial
  | t :: ts, v :: vs, d :: ds, ps, h, hv, hg => by
    obtain ⟨p, q, ⟨fuel, hf⟩, h2, _⟩ := h
    refine ⟨⟨inp_of_trod M 0 fuel t _ _ hf (hg 0 t d rfl rfl), ?_⟩, inpAll_of M h2 (fun j t v ht hv' => hv (j + 1) t v ht hv') fun j t d ht hd => hg (j + 1) t d ht hd⟩
    obtain ⟨b, h3⟩ := hv 0 t v rfl rfl
    unfold Value.okWide at h3
    cases ht : P.underlying t with
    | none => simp only [ht] at h3 ⊢; unfold Cell.okWide Cell.ok at h3; rw [ht] at h3; cases v <;> first | rfl | exact h3.elim
    | some td =>
      cases td <;> simp only [ht] at h3 ⊢
      all_goals first
        | (obtain ⟨cs, h3, _⟩ := h3; exact ⟨cs, h3⟩)
        | (unfold Cell.okWide Cell.ok at h3; rw [ht] at h3; cases v <;> first | rfl | exact h3.elim)
  | [], _ :: _, _, _, h, _, _ => h.elim
  | _ :: _, [], _, _, h, _, _ => h.elim
  | _ :: _, _ :: _, [], _, h, _, _ => h.elim
theorem trodAll_stays {W W' : World} (hl : laidOutB P = true) (hb : RowKit.Below W.heap.size W W') : ∀ {ts : List TypeId} {vs : List Value} {ds : List (DataW H)} {ps : List MemPlace},
    (∀ t ∈ ts, P.readableRec t = true ∧ t < P.types.size) → DataW.TrodAll enc P W 0 (fun _ => true) true ts vs ds ps → DataW.TrodAll enc P W' 0 (fun b => decide (b < W.heap.size)) true ts vs ds ps
  | [], [], [], _, _, h => h
  | t :: ts, v :: vs, d :: ds, ps, hr, h => by
    obtain ⟨p, q, h1, h2, e⟩ := h
    have hlt : ∀ x ∈ p, x.block < W.heap.size := by obtain ⟨m, hm⟩ := h1; exact DataW.trod_lt m _ _ _ hm
    exact ⟨p, q, Below.trod hl (hr t (List.mem_cons_self ..)).1 (hr t (List.mem_cons_self ..)).2 h1 hb hlt, trodAll_stays hl hb (fun t ht => hr t (List.mem_cons_of_mem _ ht)) h2, e⟩
  | [], _ :: _, _, _, _, h => h.elim
  | _ :: _, [], _, _, _, h => h.elim
  | [], [], _ :: _, _, _, h => h.elim
  | _ :: _, _ :: _, [], _, _, h => h.elim
theorem trodAll_ds_len {spare : Nat → Bool} {base : Nat} {held : Bool} : ∀ {ts : List TypeId} {vs : List Value} {ds : List (DataW H)} {ps : List MemPlace}, DataW.TrodAll enc P w base spare held ts vs ds ps → ds.length = ts.length
  | [], [], [], _, _ => rfl
  | t :: ts, v :: vs, d :: ds, ps, ⟨p, q, _, h, _⟩ => by simp [trodAll_ds_len h]
  | [], _ :: _, _, _, h => h.elim
  | _ :: _, [], _, _, h => h.elim
  | [], [], _ :: _, _, h => h.elim
  | _ :: _, _ :: _, [], _, h => h.elim
theorem law_contract {C : Checked} {f : FuncId} {fn : Func} {s : ChangeSpec} {tb : TypeId} (M : Measure C.prog H)
    (hl : laidOutB C.prog = true) (hvars : s.vars = []) (hfun : ∀ ds : List (DataW H), ds.length = fn.params.toList.length → s.fn H ds = { results := [.lit (.bool true)], args := ds })
    (hres : fn.resultTypes = #[tb]) (htb : C.prog.underlying tb = some .bool) (hrec : fn.params.toList.all (fun t => C.prog.readableRec t && decide (t < C.prog.types.size)) = true)
    {W : World} {base : Nat} {args : Array Value} {ds gs : List (DataW H)} {before : List MemPlace}
    (hval : ∀ (j : Nat) t v, fn.params[j]? = some t → args[j]? = some v → Value.okWide C.prog W .any base t v)
    (hW : DataW.Whole enc C.prog fn.params.toList s.vars false W args.toList ds gs before) (hgood : ∀ (j : Nat) (t : TypeId) (d : DataW H), fn.params.toList[j]? = some t → ds[j]? = some d → M.good t d)
    (walk : InpAll C.prog W M.ok fn.params.toList args.toList → callP C.prog f args.toList W fun v w' => v = .bool true ∧ Ch (fun _ => False) W w') :
    Calls C.prog f args W fun e W' => ∃ v, e = .returned v ∧ s.post enc C.prog fn false true false false W args v W' := by
  have hW' := hW
  obtain ⟨p, q, hA, hV, hbef, hfz, hnd⟩ := hW
  rw [hvars] at hV
  obtain ⟨rfl, rfl⟩ := trodVars_none hV
  have hlen := trodAll_ds_len hA
  have hrec' : ∀ t ∈ fn.params.toList, C.prog.readableRec t = true ∧ t < C.prog.types.size := fun t ht => by
    have := List.all_eq_true.1 hrec t ht
    simpa using this
  have hin := inpAll_of M hA (fun j t v ht hv => ⟨base, hval j t v (by simpa using ht) (by simpa using hv)⟩) hgood
  have hc := walk hin
  have hc2 : Calls C.prog f args W fun e w' => ∃ v, e = .returned v ∧ (v = .bool true ∧ Ch (fun _ => False) W w') := by
    unfold callP at hc
    have e : args.toList.toArray = args := by simp
    rw [e] at hc
    exact hc
  refine Calls.mono hc2 fun e W' ⟨v, he, hv, hch⟩ => ?_
  subst hv
  have bel : RowKit.Below W.heap.size W W' := hch.below (Nat.le_refl _) fun _ h => h.elim
  refine ⟨_, he, ds, [], before, [], p, [], hW', ?_, ?_, ?_, bel.frame _, fun h => by cases h⟩
  · rw [List.append_nil, hfun ds hlen, hres]
    exact trodAll_mk1 (shut_bool htb _)
  · rw [List.append_nil, hfun ds hlen]
    exact trodAll_stays hl bel hrec' hA
  · rw [List.append_nil, hfun ds hlen, hvars]; rfl
end
end Go.Sv
namespace Go.Sv
open Go Go.ChangeShapes Go.WideShapes Go.ChangeAt Go.RowKit
set_option linter.unusedVariables false
section
variable {H : Type} {enc : TypeId × Value → H}
theorem lift_laid {C : Checked} {os : Os} (started : os.Started) {f : FuncId} {fn : Func} {s : ChangeSpec} {o : OpenSpec} {k : (H : Type) → List (DataW H) → Bool} (M : Measure C.prog H) {dom : List PathCond} {laid : List (String × DataW Unit)} {tb : TypeId} {F : Stop.Interp}
    (ho : o = { OpenSpec.ofChange s with cond := some k }) (hM : ∀ ds : List (DataW H), k H ds = true → ∀ d ∈ ds, ∀ t, M.good t d)
    (own : ownKnob C.prog.godebug = none) (hl : laidOutB C.prog = true) (noInit : C.prog.inits.idxOf? f = none) (hfn : C.prog.funcs[f]? = some fn)
    (witness : ∃ (w : World) (tape : Tape) (i : Input), w.os = os ∧ (w.forCall tape i).Shaped C.prog ∧ i.vars = [] ∧ Input.okWide C.prog (w.forCall tape i) .any w.heap.size f i ∧
      o.preRow enc C.prog fn dom false laid (w.forCall tape i).memory i.args ∧ ({} : Assume).holds C.prog (lone (Frame.enter C.prog f i.args .normal) [] (w.forCall tape i)))
    (hvars : s.vars = []) (hfun : ∀ ds : List (DataW H), ds.length = fn.params.toList.length → s.fn H ds = { results := [.lit (.bool true)], args := ds })
    (hres : fn.resultTypes = #[tb]) (htb : C.prog.underlying tb = some .bool) (hrec : fn.params.toList.all (fun t => C.prog.readableRec t && decide (t < C.prog.types.size)) = true)
    (walk : ∀ (W : World) (args : Array Value), laidMetH C.prog laid W → InpAll C.prog W M.ok fn.params.toList args.toList →
      callP C.prog f args.toList W fun v w' => v = .bool true ∧ Ch (fun _ => False) W w') :
    ReturnsInHanded {} C os f .any (o.preRow enc C.prog fn dom false laid) ((o.at F).post enc C.prog fn false true false false) := by
  subst ho
  refine returnsInHanded_of_row own started noInit hfn witness ?_
  intro W base args ds gs before hval hW _ hk _ hL _ _
  exact law_contract M hl hvars hfun hres htb hrec hval hW (fun j t d ht hd => hM _ (hk k rfl) d (List.mem_append.2 (.inl (List.mem_of_getElem? hd))) t) (walk W args hL)
end
/-- a plain datum's cells -/
def flatD : Nat → DataW Unit → List Value
  | 0, _ => []
  | n + 1, d => match d with
    | .agg l => l.flatMap (flatD n)
    | .lit l => [l.value]
    | _ => []
/-- the settled world, with what package variables hold -/
noncomputable def laidW (P : Program) (os : Os) (gs : List (Nat × List Value)) : World :=
  { World.holding P os ⟨#[], #[], []⟩ with heap := gs.foldl (fun h g => h.modify g.1 fun | .cells _ t frozen => .cells g.2.toArray t frozen | o => o) (World.holding P os ⟨#[], #[], []⟩).heap }
end Go.Sv
namespace Go.Proofs.YtipbbjnmpnfhpaaGreatDoor
open Go Go.Sv
theorem bulk_part {H : Type} {d : DataW H} {l : List (DataW H)} (h : d ∈ l) : Rows.uptoBulk d ≤ Rows.uptoBulkAll l := by
  induction l with
  | nil => cases h
  | cons x r ih =>
    simp only [Rows.uptoBulkAll]
    rcases List.mem_cons.1 h with rfl | e
    · omega
    · have := ih e; omega
theorem bulk_one {H : Type} (d : DataW H) : 1 ≤ Rows.uptoBulk d := by
  cases d with
  | lit l => cases l <;> simp [Rows.uptoBulk]
  | _ => simp [Rows.uptoBulk]
theorem bulk_len {H : Type} (l : List (DataW H)) : l.length ≤ Rows.uptoBulkAll l := by
  induction l with
  | nil => simp [Rows.uptoBulkAll]
  | cons x r ih => have := bulk_one x; simp only [Rows.uptoBulkAll, List.length_cons]; omega
def upM : Nat := 1048576
def byBulk (P : Program) (H : Type) : Measure P H where
  ok n _ := n ≤ upM
  good _ d := Rows.uptoBulk d ≤ upM
  str h := by simp only [Rows.uptoBulk] at h; omega
  nil _ := Nat.zero_le _
  slice {_ _ a b} _ h := by
    simp only [Rows.uptoBulk] at h
    have h1 := bulk_len a
    have h2 := bulk_len b
    exact ⟨by omega, fun d hd => by have := bulk_part hd; omega⟩
  agg {_ _ l} _ h j f d _ hd := by
    simp only [Rows.uptoBulk] at h
    have := bulk_part (List.mem_of_getElem? hd)
    omega
theorem byBulk_of {P : Program} {H : Type} (ds : List (DataW H)) (h : Rows.uptoSmall H ds = true) : ∀ d ∈ ds, ∀ t, (byBulk P H).good t d := fun d hd t => by
  have h1 : Rows.uptoBulkAll ds ≤ 1048576 := by simpa [Rows.uptoSmall] using h
  have := bulk_part hd
  show Rows.uptoBulk d ≤ upM
  unfold upM; omega
abbrev okU : Nat → Nat → Prop := fun n _ => n ≤ upM
end Go.Proofs.YtipbbjnmpnfhpaaGreatDoor
namespace Go.Proofs.YtipbbjnmpnfhpaaGreatDoor
open Go Go.Sv Go.Qu
set_option linter.unusedVariables false
set_option maxRecDepth 100000
theorem own : ownKnob Tryz.prog.godebug = none := by kernel_rfl
theorem laidOut : laidOutB Tryz.prog = true := by kernel_rfl
/-- a world for the witness -/
noncomputable def tabW (os : Os) : World := laidW Tryz.prog os [(0, flatD 2 Rows.laid_unicode_utf8_first), (1, flatD 3 Rows.laid_unicode_utf8_acceptRanges)]
theorem cfg_arg {w : World} {v : Value} (h : InpV Tryz.prog w okU 23 v) : ∃ c : Cfg, v = .agg #[.string c.name, .int .i64 c.most, .string c.dead, .int .i64 c.tries, .bool c.dur] ∧ c.name.size ≤ 2 ^ 40 ∧ c.dead.size ≤ 2 ^ 40 := by
  obtain ⟨⟨n, h⟩, h2⟩ := h
  rw [Tryz.underlying23] at h2
  obtain ⟨cs, rfl⟩ := h2
  obtain ⟨l⟩ := cs
  have h1 := h.fields Tryz.underlying23 (by kernel_rfl) (by kernel_rfl)
  have hl : (Value.agg ⟨l⟩).cells.toList = l := rfl
  rw [hl] at h1
  match l, h1 with
  | [c0, c1, c2, c3, c4], ⟨⟨_, h0⟩, ⟨_, h1⟩, ⟨_, h2⟩, ⟨_, h3⟩, ⟨_, h4⟩, _⟩ =>
    obtain ⟨s0, e0, b0⟩ := h0.str Tryz.underlying9
    obtain ⟨i1, e1, _⟩ := h1.int Tryz.underlying3
    obtain ⟨s2, e2, b2⟩ := h2.str Tryz.underlying9
    obtain ⟨i3, e3, _⟩ := h3.int Tryz.underlying3
    obtain ⟨b, e4⟩ := h4.bool Tryz.underlying4
    simp only [okU] at b0 b2
    have : upM = 1048576 := rfl
    simp only [List.cons.injEq, and_true] at e0 e1 e2 e3 e4
    subst e0 e1 e2 e3 e4
    exact ⟨⟨s0, i1, s2, i3, b⟩, rfl, by show s0.size ≤ _; omega, by show s2.size ≤ _; omega⟩
end Go.Proofs.YtipbbjnmpnfhpaaGreatDoor
namespace Go.Sv
open Go
set_option linter.unusedVariables false
theorem list_of {α : Type} {g : α → List Value} {Good : α → Prop} : ∀ {L : List (List Value)}, (∀ x ∈ L, ∃ a, x = g a ∧ Good a) → ∃ A : List α, A.length = L.length ∧ L.flatten = A.flatMap g ∧ ∀ a ∈ A, Good a
  | [], _ => ⟨[], rfl, rfl, by simp⟩
  | x :: L, h => by
    obtain ⟨A, h1, h2, h3⟩ := list_of (L := L) fun y hy => h y (List.mem_cons_of_mem _ hy)
    obtain ⟨a, rfl, ha⟩ := h x (List.mem_cons_self ..)
    refine ⟨a :: A, by simp [h1], by rw [List.flatten_cons, h2, List.flatMap_cons], fun z hz => ?_⟩
    rcases List.mem_cons.1 hz with rfl | hz
    · exact ha
    · exact h3 z hz
end Go.Sv
namespace Go.Proofs.YtipbbjnmpnfhpaaGreatDoor
open Go Go.Sv Go.Qu
set_option linter.unusedVariables false
set_option maxRecDepth 4000
theorem qone_of {P : Program} {w : World} {ok : Nat → Nat → Prop} {t : TypeId} {v : Value} {d : TypeDesc} (ht : P.underlying t = some d) (hd : match d with | .struct _ | .array _ _ => False | _ => True) (h : InpV P w ok t v) : oneV v = true := by
  obtain ⟨_, h2⟩ := h
  rw [ht] at h2
  cases d <;> simp_all
theorem qcells_one {v : Value} (h : oneV v = true) : v.cells.toList = [v] := by cases v <;> simp_all [oneV, Value.cells]
theorem data_inp {w : World} {n : Nat} {cs : List Value} (h : Inp Tryz.prog w okU n 32 cs) : ∃ (p : Option Addr) (m c : Nat) (l : List UInt8), cs = [.slice p m c] ∧ Rd w p m 1 (bytesV l) ∧ m ≤ 2 ^ 20 := by
  obtain ⟨p, L, c, rfl, hc, hb, hr, hi⟩ := h.slice Tryz.underlying32
  obtain ⟨A, h1, h2, -⟩ := list_of (g := fun b : UInt8 => [Value.int .u8 (b.toNat : Int)]) (Good := fun _ => True) (L := L) fun x hx => by
    obtain ⟨m, hm⟩ := hi x hx
    obtain ⟨i, rfl, hwf⟩ := hm.int Tryz.underlying5
    have hw : 0 ≤ i ∧ i ≤ 255 := by
      simp [Lit.wf, IntKind.min, IntKind.max, IntKind.signed, IntKind.bits] at hwf
      omega
    refine ⟨UInt8.ofNat i.toNat, ?_, trivial⟩
    have : ((UInt8.ofNat i.toNat).toNat : Int) = i := by simp [UInt8.toNat_ofNat]; omega
    rw [this]
  have h3 : Tryz.prog.cellsOf 5 = 1 := by kernel_rfl
  rw [h3, h2] at hr
  have e : (A.flatMap fun b : UInt8 => [Value.int .u8 (b.toNat : Int)]) = bytesV A := by
    unfold bytesV
    clear h1 h2 hr
    induction A with
    | nil => rfl
    | cons a A ih => rw [List.flatMap_cons, ih]; rfl
  rw [e] at hr
  simp only [okU] at hb
  have : upM = 1048576 := rfl
  exact ⟨p, L.length, c, A, rfl, hr, by omega⟩
end Go.Proofs.YtipbbjnmpnfhpaaGreatDoor
namespace Go.Proofs.YtipbbjnmpnfhpaaGreatDoor
open Go Go.Sv Go.Qu
set_option linter.unusedVariables false
set_option maxRecDepth 4000
theorem i64_hi {i : Int} (hw : (Lit.int .i64 i).wf = true) : i ≤ 9223372036854775807 := by
  have hb : -9223372036854775808 ≤ i ∧ i ≤ 9223372036854775807 := by simpa [Lit.wf, IntKind.min, IntKind.max, IntKind.signed, IntKind.bits] using hw
  exact hb.2
theorem entry_inp2 {w : World} {n : Nat} {cs : List Value} (h : Inp Tryz.prog w okU n 34 cs) : ∃ x : EX, cs = x.1.cells ∧ EIn w x ∧ x.1.seq ≤ 9223372036854775807 := by
  have h1 := h.fields Tryz.underlying34 (by kernel_rfl) (by kernel_rfl)
  match cs, h1 with
  | [c0, c1, c2, c3, c4, c5, c6], ⟨⟨_, h0⟩, ⟨_, h1⟩, ⟨_, h2⟩, ⟨_, h3⟩, ⟨_, h4⟩, ⟨_, h5⟩, ⟨_, h6⟩, _⟩ =>
    obtain ⟨i0, e0, w0⟩ := h0.int Tryz.underlying3
    obtain ⟨i1, e1, _⟩ := h1.int Tryz.underlying3
    obtain ⟨i2, e2, _⟩ := h2.int Tryz.underlying3
    obtain ⟨b3, e3⟩ := h3.bool Tryz.underlying4
    obtain ⟨i4, e4, _⟩ := h4.int Tryz.underlying3
    obtain ⟨i5, e5, _⟩ := h5.int Tryz.underlying3
    obtain ⟨p, m, c, l, e6, hr, hm⟩ := data_inp h6
    simp only [List.cons.injEq, and_true] at e0 e1 e2 e3 e4 e5 e6
    subst e0 e1 e2 e3 e4 e5 e6
    exact ⟨(⟨i0, i1, i2, b3, i4, i5, p, m, c⟩, l), rfl, ⟨hr, hm⟩, i64_hi w0⟩
theorem op_inp2 {w : World} {n : Nat} {cs : List Value} (h : Inp Tryz.prog w okU n 46 cs) : ∃ o : OpV, cs = o.cells ∧ ∃ Ts l, OIn w o Ts l := by
  obtain ⟨hl, hf⟩ := h.struct Tryz.underlying46
  have h13 : Tryz.prog.cellsOf 46 = 13 := by kernel_rfl
  have hi1 : Tryz.prog.cellsOf 3 = 1 := by kernel_rfl
  have hb1 : Tryz.prog.cellsOf 4 = 1 := by kernel_rfl
  have hs1 : Tryz.prog.cellsOf 44 = 1 := by kernel_rfl
  have he7 : Tryz.prog.cellsOf 34 = 7 := by kernel_rfl
  rw [h13] at hl
  simp only [List.forall_mem_cons] at hf
  match cs, hl with
  | [c0, c1, c2, c3, c4, c5, c6, c7, c8, c9, c10, c11, c12], _ =>
    obtain ⟨⟨_, h0⟩, ⟨_, h1⟩, ⟨_, h2⟩, ⟨_, h3⟩, ⟨_, h4⟩, ⟨_, h5⟩, ⟨_, h6⟩, _⟩ := hf
    obtain ⟨i0, e0, _⟩ := h0.int Tryz.underlying3
    obtain ⟨i1, e1, _⟩ := h1.int Tryz.underlying3
    obtain ⟨i2, e2, _⟩ := h2.int Tryz.underlying3
    obtain ⟨i3, e3, _⟩ := h3.int Tryz.underlying3
    obtain ⟨p, L, c, e4, hc, hb, hr, hi⟩ := h4.slice Tryz.underlying44
    obtain ⟨b5, e5⟩ := h5.bool Tryz.underlying4
    obtain ⟨x, e6, hx, hxs⟩ := entry_inp2 h6
    obtain ⟨Ts, q1, q2, -⟩ := list_of (g := iC) (Good := fun _ => True) (L := L) fun y hy => by
      obtain ⟨m, hm⟩ := hi y hy
      obtain ⟨i, rfl, _⟩ := hm.int Tryz.underlying3
      exact ⟨i, rfl, trivial⟩
    rw [hi1, q2] at hr
    simp only [okU] at hb
    have : upM = 1048576 := rfl
    simp only [hi1, hb1, hs1, he7, List.drop_succ_cons, List.drop_zero, List.take_succ_cons, List.take_zero, List.cons.injEq, and_true] at e0 e1 e2 e3 e4 e5 e6
    subst e0 e1 e2 e3 e4 e5
    refine ⟨⟨i0, i1, i2, i3, p, L.length, c, b5, x.1⟩, ?_, Ts, x.2, hr, q1, by show L.length ≤ _; omega, hx.rd, by have := hx.n; show x.1.n ≤ _; omega, hxs⟩
    unfold En.cells at e6
    simp only [List.cons.injEq, and_true] at e6
    obtain ⟨rfl, rfl, rfl, rfl, rfl, rfl, rfl⟩ := e6
    rfl
theorem ops_arg2 {w : World} {v : Value} (h : InpV Tryz.prog w okU 25 v) : ∃ (p : Option Addr) (Os : List OpV) (c : Nat), v = .slice p Os.length c ∧ Rd w p Os.length 13 (Os.flatMap OpV.cells) ∧ (∀ o ∈ Os, ∃ Ts l, OIn w o Ts l) ∧ Os.length ≤ 2 ^ 20 := by
  have h0 := qone_of Tryz.underlying25 trivial h
  obtain ⟨⟨n, h⟩, _⟩ := h
  rw [qcells_one h0] at h
  obtain ⟨p, L, c, e, hc, hb, hr, hi⟩ := h.slice Tryz.underlying25
  obtain ⟨A, h1, h2, h3⟩ := list_of (g := OpV.cells) (Good := fun o => ∃ Ts l, OIn w o Ts l) (L := L) fun x hx => by
    obtain ⟨m, hm⟩ := hi x hx
    exact op_inp2 hm
  have h4 : Tryz.prog.cellsOf 46 = 13 := by kernel_rfl
  rw [h4, h2, ← h1] at hr
  simp only [okU] at hb
  have : upM = 1048576 := rfl
  exact ⟨p, A, c, by rw [h1]; exact (List.cons.inj e).1, hr, h3, by omega⟩
end Go.Proofs.YtipbbjnmpnfhpaaGreatDoor
namespace Go.Proofs.YtipbbjnmpnfhpaaGreatDoor
open Go Go.Sv Go.Qu
set_option linter.unusedVariables false
set_option maxRecDepth 100000
theorem queuePlays_lifted (os : Os) (started : os.Started) (H : Type) (enc : TypeId × Value → H) (F : Stop.Interp) :
    ReturnsInHanded {} Tryz.checked os 4 .any ((Rows.OpenSpec.upto Rows.queuePlaysSpec).preRow enc Tryz.prog Tryz.f4 Rows.queuePlaysUptoRow.domain false Rows.queuePlaysUptoRow.laid) (((Rows.OpenSpec.upto Rows.queuePlaysSpec).at F).post enc Tryz.prog Tryz.f4 false true false false) := by
  refine lift_laid (C := Tryz.checked) (tb := 4) (k := Rows.uptoSmall) started (byBulk Tryz.prog H) rfl byBulk_of own laidOut (by kernel_rfl) Tryz.func4
    (witness_row_at (enc := enc) (C := Tryz.checked) false (tabW os) #[.agg #[.string ⟨#[]⟩, .int .i64 0, .string ⟨#[]⟩, .int .i64 0, .bool false], .agg #[.string ⟨#[]⟩, .int .i64 0, .string ⟨#[]⟩, .int .i64 0, .bool false], .slice none 0 0] rfl (by kernel_rfl) (by kernel_rfl) (by kernel_rfl)
      (OpenSpec.preRow_of_cond 8 (x := ([.agg [.lit (.string []), .lit (.int .i64 0), .lit (.string []), .lit (.int .i64 0), .lit (.bool false)], .agg [.lit (.string []), .lit (.int .i64 0), .lit (.string []), .lit (.int .i64 0), .lit (.bool false)], .nil], [], [])) (by kernel_rfl) (by kernel_rfl) (fun k hk => by cases hk; kernel_rfl) (by kernel_rfl) (laidMet_of_run' 8 (by kernel_rfl) (by kernel_rfl))))
    rfl (fun ds h => ?_) rfl Tryz.underlying4 (by kernel_rfl) fun W args hLaid hin => ?_
  · match ds, h with
    | [d0, d1, d2], _ => rfl
  · generalize args.toList = vs at hin ⊢
    rw [Tryz.params4] at hin
    match vs, hin with
    | [v0, v1, v2], ⟨i0, i1, i2, _⟩ =>
      obtain ⟨c, rfl, h1, h2⟩ := cfg_arg i0
      obtain ⟨d, rfl, h3, h4⟩ := cfg_arg i1
      obtain ⟨ps, Os, cs, rfl, h5, h6, h7⟩ := ops_arg2 i2
      exact plays_law h1 h2 h3 h4 h5 h6 h7 fun w' hc => ⟨rfl, hc⟩
namespace queuePlays
theorem over : Rows.queuePlaysUptoRow.holds Tryz.pinned (Rows.OpenSpec.upto Rows.queuePlaysSpec) :=
  OpenClaim.holds_of_cond 4 Tryz.f4 rfl rfl rfl rfl rfl rfl rfl ⟨rfl, rfl, rfl, rfl, rfl⟩ rfl rfl rfl rfl rfl (by kernel_rfl) Tryz.func4 (by kernel_rfl)
    (of_decide_eq_true (by kernel_rfl)) (by unfold Func.isWrapper; first | (rw [if_pos (by decide +kernel)]; kernel_rfl) | (rw [if_neg (by decide +kernel)]; exact ⟨rfl, rfl⟩))
    (fun os started H enc _ F => by rw [OpenClaim.pre_eq_preRow]; exact queuePlays_lifted os started H enc F)
theorem plain (f : FuncId) (fn : Func) (hf : Tryz.pinned.checked.prog.funcNamed "longshore/longshorelaw17.QueuePlays" = some f) (hfn : Tryz.pinned.checked.prog.funcs[f]? = some fn) :
    true = Tryz.pinned.checked.prog.looks [] ∧ ∀ (j : Nat) t, fn.params[j]? = some t → Tryz.pinned.checked.prog.wantsStandIn t = false := by
  obtain rfl : f = 4 := Option.some.inj ((show Tryz.prog.funcNamed "longshore/longshorelaw17.QueuePlays" = some 4 by kernel_rfl).symm.trans hf) |>.symm
  obtain rfl : fn = Tryz.f4 := (Option.some.inj (Tryz.func4.symm.trans hfn)).symm
  have hall : Tryz.f4.params.toList.all (fun t => Tryz.prog.wantsStandIn t == false) = true := by kernel_rfl
  refine ⟨by kernel_rfl, fun j t ht => ?_⟩
  have := List.all_eq_true.1 hall t (Array.mem_toList_iff.2 (Array.mem_of_getElem? ht))
  exact eq_of_beq this
theorem proved : Rows.QueuePlaysUptoCardSaid :=
  Claim7.holds_tied_plain_at .later [] _ _ _ _ over (fun _ h => by cases h) (by kernel_rfl) (fun _ h => by cases h) queuePlaysUpto_row_tie rfl ⟨rfl, rfl⟩ (by kernel_rfl) rfl plain (by kernel_rfl)
end queuePlays
#print axioms queuePlays.proved
end Go.Proofs.YtipbbjnmpnfhpaaGreatDoor
