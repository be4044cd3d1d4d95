/-
  The reading of code and of functions (XSvDef.wpC, wpF) is sound over every program.
-/
import Derived.Test.YtnibmhjdomndbaaDoorSvRegion
import Derived.Deep.LoopGhost
namespace Go.Sv
open Go

section
variable {P : Program} {n : Nat}

theorem memN_iff {i : Nat} : ∀ {l : List Nat}, memN i l = true ↔ i ∈ l
  | [] => by simp [memN]
  | j :: l => by
    simp only [memN]
    by_cases h : i = j
    · subst h; simp
    · have : Nat.beq i j = false := by cases hb : Nat.beq i j <;> simp_all [Nat.beq_eq]
      simp [this, h, memN_iff]
theorem get_without {ws : List Nat} {i : Nat} {v : Value} : ∀ {env : Env}, Env.get (without ws env) i = some v → i ∉ ws ∧ Env.get env i = some v
  | [], h => by simp [without, Env.get] at h
  | (j, u) :: r, h => by
    simp only [without] at h
    by_cases hj : j ∈ ws
    · rw [memN_iff.2 hj] at h
      obtain ⟨h1, h2⟩ := get_without h
      have hne : j ≠ i := fun e => h1 (e ▸ hj)
      exact ⟨h1, by rw [Env.get_cons_ne _ _ hne]; exact h2⟩
    · have hm : memN j ws = false := by cases hb : memN j ws <;> simp_all [memN_iff]
      rw [hm] at h
      by_cases hji : j = i
      · subst hji
        simp only [Env.get_cons_self] at h ⊢
        exact ⟨hj, h⟩
      · simp only [Env.get_cons_ne _ _ hji] at h ⊢
        exact get_without h
theorem without_agree {a a' : Act} {st : St} {ws : List Nat} (ha : Agree n a st) (hs : Same ws a a') (hsz : a'.tmps.size = n) (hd : a'.defers = a.defers) : Agree n a' { env := without ws st.env, ds := st.ds } := by
  refine ⟨hsz, by rw [hd]; exact ha.ds, fun i v hi => ?_⟩
  obtain ⟨h1, h2⟩ := get_without hi
  rw [hs i h1]
  exact ha.val i v h2
theorem env_agree {a : Act} {env : Env} {ds : List Deferred} (hv : ∀ i v, Env.get env i = some v → a.tmps.getD i undef = v) : ∀ (vs : Vars) {l : List Value} {base : Env}, Vars.vals vs env = some l → Agree n a { env := base, ds } →
    Agree n a { env := Vars.env vs l base, ds }
  | [], l, base, _, hb => hb
  | (i, .cell s) :: vs, l, base, h, hb => by
    simp only [Vars.vals] at h
    split at h
    · rename_i v hi
      split at h
      · rename_i r hr
        cases h
        have ih := env_agree hv vs hr hb
        refine ⟨ih.size, ih.ds, fun j u hj => ?_⟩
        simp only [Vars.env] at hj
        by_cases hij : i = j
        · subst hij; rw [Env.get_cons_self] at hj; rw [← Option.some.inj hj]; exact hv _ _ hi
        · rw [Env.get_cons_ne _ _ hij] at hj; exact ih.val j u hj
      · cases h
    · cases h
  | (i, .agg ss) :: vs, l, base, h, hb => by
    simp only [Vars.vals] at h
    split at h
    · rename_i cs hi
      split at h
      · rename_i hlen
        split at h
        · rename_i r hr
          cases h
          have hl : cs.toList.length = ss.length := by simpa [Nat.beq_eq] using hlen
          have ih := env_agree hv vs hr hb
          refine ⟨ih.size, ih.ds, fun j u hj => ?_⟩
          simp only [Vars.env] at hj
          by_cases hij : i = j
          · subst hij
            rw [Env.get_cons_self] at hj
            rw [← Option.some.inj hj, hv _ _ hi, List.take_append_of_le_length (by omega), ← hl, List.take_length]
          · rw [Env.get_cons_ne _ _ hij, List.drop_append_of_le_length (by omega), ← hl, List.drop_length, List.nil_append] at hj
            exact ih.val j u hj
        · cases h
      · cases h
    · cases h
theorem JT.all_app : ∀ {l : List Sh} {J : JT l} {K : List Value → World → Prop} {vs : List Value} {w : World}, JT.all l J K → JT.app l J vs w → K vs w
  | [], J, K, vs, w, h, ha => by
    cases vs with
    | nil => exact h w ha
    | cons v r => exact ha.elim
  | s :: l, J, K, vs, w, h, ha => by
    cases vs with
    | nil => exact ha.elim
    | cons v r =>
      cases s with
      | bool => cases v <;> first | exact ha.elim | exact JT.all_app (l := l) (K := fun vs w => K (_ :: vs) w) (h _) ha
      | int k =>
        cases v <;> first | exact ha.elim | skip
        rename_i k' m
        simp only [JT.app] at ha
        split at ha
        · rename_i e; subst e; exact JT.all_app (l := l) (K := fun vs w => K (_ :: vs) w) (h _) ha
        · exact ha.elim
      | str => cases v <;> first | exact ha.elim | exact JT.all_app (l := l) (K := fun vs w => K (_ :: vs) w) (h _) ha
      | ptr => cases v <;> first | exact ha.elim | exact JT.all_app (l := l) (K := fun vs w => K (_ :: vs) w) (h _) ha
      | slice => cases v <;> first | exact ha.elim | exact JT.all_app (l := l) (K := fun vs w => K (_ :: vs) w) (h _ _ _) ha
      | map => cases v <;> first | exact ha.elim | exact JT.all_app (l := l) (K := fun vs w => K (_ :: vs) w) (h _) ha
      | raw => exact JT.all_app (l := l) (K := fun vs w => K (v :: vs) w) (h v) ha
/-- what holds behind a piece of code -/
def CAfter (n : Nat) (c : Code) (Q : Cont) (a0 : Act) : Exit → Act → World → Prop := fun e a w =>
  (∃ st, Agree n a st ∧ Q e st w) ∧ Same (written c) a0 a ∧ (noDefer c = true → a.defers = a0.defers)
theorem CAfter.mono {c c' : Code} {Q Q' : Cont} {a0 a1 : Act} {e : Exit} {a : Act} {w : World} (h : CAfter n c Q a1 e a w) (hq : ∀ st, Agree n a st → Q e st w → Q' e st w) (hs : Same (written c') a0 a1)
    (hw : ∀ i ∈ written c, i ∈ written c') (hd : noDefer c' = true → noDefer c = true ∧ a1.defers = a0.defers) : CAfter n c' Q' a0 e a w := by
  obtain ⟨⟨st, ha, hq'⟩, h2, h3⟩ := h
  exact ⟨⟨st, ha, hq st ha hq'⟩, hs.trans (h2.mono hw), fun hn => (h3 (hd hn).1).trans (hd hn).2⟩
theorem noDefer_ops {opa : Array Oper} (h : (opa.toList.all fun o => match o.op with | .defer _ => false | _ => true) = true) : (opa.toList.all fun o => !isDefer o.op) = true := by
  rw [List.all_eq_true] at h ⊢
  intro o ho
  have := h o ho
  cases hop : o.op <;> simp_all [isDefer]
theorem holds_at {vs : Vars} {J : JT vs.shs} {st : St} {w : World} (h : Vars.holds vs J st w) : ∃ l, Vars.vals vs st.env = some l ∧ JT.app vs.shs J l w := by
  unfold Vars.holds at h
  split at h
  · exact ⟨_, by assumption, h⟩
  · exact h.elim
theorem wpC_sound : ∀ (ann : Ann) (c : Code) (Q : Cont) {st : St} {a : Act} {w : World}, wpC P n ann c Q st w → Agree n a st → c.wp P (CAfter n c Q a) a w
  | .leaf, c, Q, st, a, w, h, ha => by
    cases c with
    | skip => exact wp_skip ⟨⟨st, ha, h⟩, Same.refl _ _, fun _ => rfl⟩
    | region id ops draw =>
      have fin : ∀ e a' w', After n ops.toList (Q .normal) a e a' w' → CAfter n (Code.region id ops draw) Q a e a' w' := by
        rintro e a' w' ⟨rfl, hst, hs, hd⟩
        exact ⟨hst, hs, fun hn => hd (noDefer_ops hn)⟩
      cases draw with
      | false => exact wp_mono (region_sound ha h) fin
      | true => simp [wpC] at h
    | exit id => exact wp_exit ⟨⟨st, ha, h⟩, Same.refl _ _, fun _ => rfl⟩
    | ret => exact wp_ret ⟨⟨st, ha, h⟩, Same.refl _ _, fun _ => rfl⟩
    | _ => simp [wpC] at h
  | .draw ord, c, Q, st, a, w, h, ha => by
    cases c with
    | region id ops draw =>
      have fin : ∀ e a' w', After n ops.toList (Q .normal) a e a' w' → CAfter n (Code.region id ops draw) Q a e a' w' := by
        rintro e a' w' ⟨rfl, hst, hs, hd⟩
        exact ⟨hst, hs, fun hn => hd (noDefer_ops hn)⟩
      cases draw with
      | false => simp [wpC] at h
      | true =>
        simp only [wpC] at h
        split at h
        · exact wp_mono (region_draw_sound ha (by assumption) h) fin
        · exact h.elim
    | _ => simp [wpC] at h
  | .draws ord, c, Q, st, a, w, h, ha => by
    cases c with
    | region id ops draw =>
      have fin : ∀ e a' w', After n ops.toList (Q .normal) a e a' w' → CAfter n (Code.region id ops draw) Q a e a' w' := by
        rintro e a' w' ⟨rfl, hst, hs, hd⟩
        exact ⟨hst, hs, fun hn => hd (noDefer_ops hn)⟩
      cases draw with
      | false => simp [wpC] at h
      | true =>
        simp only [wpC] at h
        split at h
        · exact wp_mono (region_drawT_sound ha (by assumption) h) fin
        · exact h.elim
    | _ => simp [wpC] at h
  | .meet vs ann, c, Q, st, a, w, h, ha => by
    simp only [wpC] at h
    split at h
    · rename_i hnd
      obtain ⟨J, hall, h⟩ := h
      refine wp_mono (wpC_sound ann c _ h ha) ?_
      rintro e a' w' ⟨⟨st', ha', hq⟩, hs, hd⟩
      cases e with
      | normal =>
        obtain ⟨l, hl, happ⟩ := holds_at hq
        have hb := without_agree ha hs ha'.size (hd hnd)
        exact ⟨⟨_, env_agree ha'.val vs hl hb, JT.all_app hall happ⟩, hs, hd⟩
      | _ => exact ⟨⟨st', ha', hq⟩, hs, hd⟩
    · exact h.elim
  | .loop vs ann, c, Q, st, a, w, h, ha => by
    cases c with
    | loop c =>
      simp only [wpC] at h
      split at h
      · rename_i hnd
        obtain ⟨I, ⟨m, h0⟩, hround⟩ := h
        obtain ⟨l0, hl0, happ0⟩ := holds_at h0
        refine wp_loop_ghost (fun m a' w' => Same (written c) a a' ∧ a'.defers = a.defers ∧ ∃ l, Agree n a' { env := Vars.env vs l (without (written c) st.env), ds := st.ds } ∧ JT.app vs.shs (I m) l w') m
          ⟨Same.refl _ _, rfl, l0, env_agree ha.val vs hl0 (without_agree ha (Same.refl _ _) ha.size rfl), happ0⟩ ?_
        rintro m a1 w1 ⟨hs1, hd1, l, ha1, happ⟩
        have hr := JT.all_app (hround m) happ
        refine wp_mono (wpC_sound ann c _ hr ha1) ?_
        rintro e a' w' ⟨⟨st', ha', hq⟩, hs, hd⟩
        cases e with
        | normal =>
          obtain ⟨m', hm, hq⟩ := hq
          obtain ⟨l', hl', happ'⟩ := holds_at hq
          refine ⟨m', hm, hs1.trans hs, (hd hnd).trans hd1, l', env_agree ha'.val vs hl' (without_agree ha (hs1.trans hs) ha'.size ((hd hnd).trans hd1)), happ'⟩
        | _ => exact ⟨⟨st', ha', hq⟩, hs1.trans hs, fun hn => (hd hnd).trans hd1⟩
      · exact h.elim
    | _ => simp [wpC] at h
  | .two x y, c, Q, st, a, w, h, ha => by
    cases c with
    | seq c d =>
      simp only [wpC] at h
      have wl : ∀ i ∈ written c, i ∈ written (c.seq d) := fun i hi => List.mem_append_left _ hi
      have wr : ∀ i ∈ written d, i ∈ written (c.seq d) := fun i hi => List.mem_append_right _ hi
      have nd : noDefer (c.seq d) = true → noDefer c = true ∧ noDefer d = true := fun hn => by simpa [noDefer] using hn
      refine wp_seq (wp_mono (wpC_sound x c _ h ha) ?_)
      rintro e a' w' h'
      cases e with
      | normal =>
        obtain ⟨⟨st', ha', hq⟩, hs, hd⟩ := h'
        refine wp_mono (wpC_sound y d _ hq ha') fun e2 a2 w2 h2 => ?_
        exact h2.mono (fun _ _ q => q) (hs.mono wl) wr fun hn => ⟨(nd hn).2, hd (nd hn).1⟩
      | _ => exact h'.mono (fun _ _ q => q) (Same.refl _ _) wl fun hn => ⟨(nd hn).1, rfl⟩
    | cond c t e =>
      simp only [wpC] at h
      split at h
      · rename_i b hb
        have nd : noDefer (Code.cond c t e) = true → noDefer t = true ∧ noDefer e = true := fun hn => by simpa [noDefer] using hn
        rcases Sif_elim h with ⟨rfl, h⟩ | ⟨rfl, h⟩
        · refine wp_cond_true (eval_of ha hb) (wp_mono (wpC_sound x t _ h ha) fun e2 a2 w2 h2 => ?_)
          exact h2.mono (fun _ _ q => q) (Same.refl _ _) (fun i hi => List.mem_append_left _ hi) fun hn => ⟨(nd hn).1, rfl⟩
        · refine wp_cond_false (eval_of ha hb) (wp_mono (wpC_sound y e _ h ha) fun e2 a2 w2 h2 => ?_)
          exact h2.mono (fun _ _ q => q) (Same.refl _ _) (fun i hi => List.mem_append_right _ hi) fun hn => ⟨(nd hn).2, rfl⟩
      · exact h.elim
    | block id c =>
      simp only [wpC] at h
      refine wp_block (wp_mono (wpC_sound x c _ h ha) ?_)
      rintro e a' w' h'
      cases e with
      | exit i =>
        simp only [Exit.inBlock]
        obtain ⟨⟨st', ha', hq⟩, hs, hd⟩ := h'
        simp only [inBlockC] at hq
        split at hq
        · rename_i hb
          have : i = id := by simpa [Nat.beq_eq] using hb
          rw [if_pos this]
          exact ⟨⟨st', ha', hq⟩, hs, hd⟩
        · rename_i hb
          have : ¬ i = id := by intro e; subst e; simp at hb
          rw [if_neg this]
          exact ⟨⟨st', ha', hq⟩, hs, hd⟩
      | _ => exact h'.mono (fun _ _ q => q) (Same.refl _ _) (fun _ hi => hi) fun hn => ⟨hn, rfl⟩
    | scope c =>
      simp only [wpC] at h
      refine wp_scope_straight (wp_mono (wpC_sound x c _ h ha) ?_)
      rintro e a' w' h'
      cases e with
      | goto l => exact h'.1.elim fun st hst => hst.2.elim
      | _ => exact h'.mono (fun _ _ q => q) (Same.refl _ _) (fun _ hi => hi) fun hn => ⟨hn, rfl⟩
    | _ => simp [wpC] at h

/-! ### Functions -/
theorem envArgs_get : ∀ (l : List Value) (i j : Nat) (v : Value), Env.get (envArgs i l) j = some v → i ≤ j ∧ l[j - i]? = some v
  | [], i, j, v, h => by simp [envArgs, Env.get] at h
  | u :: l, i, j, v, h => by
    simp only [envArgs] at h
    by_cases hij : i = j
    · subst hij; rw [Env.get_cons_self] at h; exact ⟨Nat.le_refl _, by simpa using h⟩
    · rw [Env.get_cons_ne _ _ hij] at h
      obtain ⟨h1, h2⟩ := envArgs_get l (i + 1) j v h
      refine ⟨by omega, ?_⟩
      obtain ⟨k, hk⟩ : ∃ k, j - i = k + 1 := ⟨j - i - 1, by omega⟩
      rw [hk, List.getElem?_cons_succ, show k = j - (i + 1) by omega]
      exact h2
theorem enter_agree (args : List Value) (h : args.length ≤ n) : Agree n ⟨args.toArray ++ Array.replicate (n - args.toArray.size) undef, []⟩ { env := envArgs 0 args, ds := [] } := by
  refine ⟨by simp; omega, rfl, fun i v hi => ?_⟩
  obtain ⟨_, h2⟩ := envArgs_get args 0 i v hi
  simp only [Nat.sub_zero] at h2
  have hlt : i < args.length := (List.getElem?_eq_some_iff.1 h2).1
  simp [Array.getElem?_append, hlt]
  rw [List.getElem?_eq_getElem hlt] at h2
  exact Option.some.inj h2
def rv (tmps : Array Value) : ResultVar → Sem Value
  | .tmp t => pure (tmps.getD t undef)
  | .cell a t => do loadVar t (← asAddr (tmps.getD a undef))
theorem results_rv (fn : Func) (tmps : Array Value) : results fn tmps = (do let vs ← fn.results.mapM (rv tmps); pure (if h : vs.size = 1 then vs[0] else .tuple vs)) := by
  have : rv tmps = fun r => match r with
    | .tmp t => pure (tmps.getD t undef)
    | .cell a t => (do loadVar t (← asAddr (tmps.getD a undef))) := by funext r; cases r <;> rfl
  rw [this]; rfl
theorem resVals_sound {env : Env} {w : World} {tmps : Array Value} (hv : ∀ i v, Env.get env i = some v → tmps.getD i undef = v) : ∀ (l : List ResultVar) {K : List Value → Prop}, resVals P env w l K →
    ∃ vs, (l.mapM (rv tmps)).run P w = .ok vs w ∧ K vs
  | [], K, h => ⟨[], rfl, h⟩
  | .tmp t :: l, K, h => by
    simp only [resVals] at h
    split at h
    · rename_i v hg
      obtain ⟨vs, hr, hk⟩ := resVals_sound hv l h
      refine ⟨v :: vs, ?_, hk⟩
      rw [List.mapM_cons]
      simp only [Sem.run_bind, rv, Sem.run_pure, Result.andThen_ok, hv t v hg]
      rw [hr]
      rfl
    · exact h.elim
  | .cell a t :: l, K, h => by
    simp only [resVals] at h
    split at h
    · rename_i p hg
      obtain ⟨ad, rfl, h⟩ := nn_elim h
      split at h
      · rename_i hag
        split at h
        · rename_i hsz
          simp only [Bool.and_eq_true, beq_iff_eq] at hsz
          obtain ⟨hsz, hinf⟩ := hsz
          obtain ⟨i, hi⟩ := Option.isSome_iff_exists.1 hinf
          obtain ⟨d, hd⟩ := und_of_agg hag
          obtain ⟨cs, hr0, h⟩ := ldCells_sound (P := P) (acc := #[]) h
          obtain ⟨vs, hr, hk⟩ := resVals_sound hv l h
          refine ⟨_, ?_, hk⟩
          have hn : (flatSh P 12 t).length = i.size := by rw [hsz]; simp [sizeB, hi]
          rw [hn] at hr0
          rw [List.mapM_cons]
          have e : (rv tmps (.cell a t)).run P w = .ok (.agg cs.toArray) w := by
            simp [rv, hv a _ hg, asAddr, loadVar, run_isAgg hd, hag, run_size hi, loadCells, hr0]
          simp only [Sem.run_bind, e, Result.andThen_ok, hr]
          rfl
        · exact h.elim
      · rename_i hag
        split at h
        · rename_i d hd
          obtain ⟨v, hc, h⟩ := exC_some h
          obtain ⟨vs, hr, hk⟩ := resVals_sound hv l h
          refine ⟨v :: vs, ?_, hk⟩
          rw [List.mapM_cons]
          have e : (rv tmps (.cell a t)).run P w = .ok v w := by
            simp only [rv, Sem.run_bind, Sem.run_pure, Result.andThen_ok, hv a _ hg, asAddr, loadVar, run_isAgg hd, hag, if_false, Bool.false_eq_true, run_load, hc]
          simp only [Sem.run_bind, e, Result.andThen_ok, hr]
          rfl
        · exact h.elim
    · exact h.elim
theorem results_sound {fn : Func} {env : Env} {w : World} {tmps : Array Value} (hv : ∀ i v, Env.get env i = some v → tmps.getD i undef = v) {K : List Value → Prop} (h : resVals P env w fn.results.toList K) :
    ∃ vs, (results fn tmps).run P w = .ok (tupV vs) w ∧ K vs := by
  obtain ⟨vs, hr, hk⟩ := resVals_sound hv _ h
  refine ⟨vs, ?_, hk⟩
  rw [results_rv, Array.mapM_eq_mapM_toList]
  simp only [Sem.run_bind, Sem.run_map, hr]
  simp only [Result.andThen_ok, Sem.run_pure]
  congr 1
  match vs with
  | [] => rfl
  | [v] => rfl
  | v :: u :: r => simp [tupV]
theorem finish_sound {fn : Func} {K : Value → World → Prop} {env : Env} {tmps : Array Value} (hv : ∀ i v, Env.get env i = some v → tmps.getD i undef = v) :
    ∀ (ds : List Deferred) {w : World}, finish P fn K env ds w → Leaves P fn tmps (fun e w' => ∃ v, e = .returned v ∧ K v w') ds .returning w
  | [], w, h => by
    obtain ⟨vs, hr, hk⟩ := results_sound hv h
    exact ⟨_, hr, _, rfl, hk⟩
  | d :: ds, w, h => by
    obtain ⟨tg, dargs⟩ := d
    unfold finish deferStep at h
    simp only at h
    split at h
    · rename_i f cap
      split at h
      case h_2 => exact h.elim
      rename_i hok
      refine ⟨by simp, _, _, f, (dargs.toList ++ cap.toList).toArray, rfl, ?_, ?_⟩
      · have e : (dargs.toList ++ cap.toList).toArray = dargs ++ cap := by simp
        rw [e]
        simp only [invoke]
        exact okCall_enter hok _ _
      · refine CallsD.mono h fun e u w' ⟨⟨v, he⟩, hu, hk⟩ => ?_
        subst he; subst hu
        exact finish_sound hv ds hk
    · exact h.elim
/-- A CALL RETURNS AS WANTED -/
theorem calls_of {f : FuncId} {fn : Func} {ann : Ann} {args : List Value} {w : World} {K : Value → World → Prop} (hf : P.funcs[f]? = some fn) (h : wpF P fn ann args w K) : callP P f args w K := by
  unfold wpF at h
  split at h
  · rename_i c hb
    split at h
    · rename_i hle
      have hle' : args.length ≤ fn.ntmps := Nat.le_of_ble_eq_true hle
      refine calls_of_wp_defers hf hb ?_
      refine wp_mono (wpC_sound ann c _ h (enter_agree args hle')) ?_
      rintro e a' w' ⟨⟨st, ha, hq⟩, _, _⟩
      cases e with
      | normal => rw [bodyPostD, ha.ds]; exact finish_sound ha.val st.ds hq
      | ret => rw [bodyPostD, ha.ds]; exact finish_sound ha.val st.ds hq
      | _ => exact hq.elim
    · exact h.elim
  · exact h.elim
end
end Go.Sv
