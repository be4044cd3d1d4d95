/-
  errors.As at a journal's fault; errors.Is at it and at the journal's two errors. errors.Is at a journal's fault and the journal's two errors.
-/
import Derived.Test.YtipololccbdojaaGreatDoorErrWp
import Derived.Test.YtipololccbdojaaGreatDoorSvRow
import Derived.Laws.Externs
import Derived.LaidEql
import Derived.KernelRfl
import Derived.Test.YtipololccbdojaaGreatDoorJourWp
import Derived.Test.YtipololccbdojaaGreatDoorJbatch
import Derived.Stop.Asserts
namespace Go.Sv
open Go
theorem extP_of {P : Program} {f : FuncId} {fn : Func} {e : Array Value → Sem Value} (hf : P.funcs[f]? = some fn) (hname : (fn.name == "runtime.NumGoroutine") = false) (hb : fn.body.isNone = true) (hn : Extern.findNext fn = none) (he : Extern.find fn = some e)
    {args : List Value} {w w' : World} {v : Value} {K : Value → World → Prop} (h : (e args.toArray).run P w = .ok v w') (hk : K v w') : extP P f args w K :=
  ⟨v, w', by rw [run_callFunc_extern hf hname hb hn he, h]; rfl, hk⟩
end Go.Sv
namespace Go.Proofs.YtipololccbdojaaGreatDoor
open Go Go.Sv Go.Extern
set_option linter.unusedVariables false
set_option maxRecDepth 4000

/-- a type's handle -/
abbrev hd (t : TypeId) : Value := .pointer (some ⟨3, t, none⟩)
abbrev rty (t : TypeId) : Value := .iface 176 (.agg #[hd t])
theorem valueOfP (t : Addr) (w : World) : (ReflectliteValue.unpack (.iface 87 (.pointer (some t)))).run Tryz.prog w
    = .ok (.agg #[hd 87, .pointer (some ⟨w.heap.size, 0, none⟩), .int .u64 150]) (w.alloc (.cells #[.pointer (some t)] 87)) := by kernel_rfl
theorem valueOfF (a e : Value) (w : World) : (ReflectliteValue.unpack (.iface 85 (.agg #[a, e]))).run Tryz.prog w
    = .ok (.agg #[hd 85, .pointer (some ⟨w.heap.size, 0, none⟩), .int .u64 153]) (w.alloc (.cells #[a, e] 85)) := by kernel_rfl
theorem typeP (a : Addr) (w : World) : (ReflectliteValue.methodAny (ReflectliteValue.valueError "reflectlite.Value.Type" 0) (fun t _ _ _ => ReflectliteType.toType t) #[.agg #[hd 87, .pointer (some a), .int .u64 150]]).run Tryz.prog w
    = .ok (rty 87) w := by kernel_rfl
theorem methKind (h : Value) (w : World) : (Go.method (Tryz.prog.types.size + Made.depth) 176 (.agg #[h]) "Kind").run Tryz.prog w = .ok (190, h) w := by kernel_rfl
theorem methElem (h : Value) (w : World) : (Go.method (Tryz.prog.types.size + Made.depth) 176 (.agg #[h]) "Elem").run Tryz.prog w = .ok (201, .agg #[h]) w := by kernel_rfl
theorem methImpl (h : Value) (w : World) : (Go.method (Tryz.prog.types.size + Made.depth) 176 (.agg #[h]) "Implements").run Tryz.prog w = .ok (202, .agg #[h]) w := by kernel_rfl
theorem methAssi (h : Value) (w : World) : (Go.method (Tryz.prog.types.size + Made.depth) 176 (.agg #[h]) "AssignableTo").run Tryz.prog w = .ok (199, .agg #[h]) w := by kernel_rfl
theorem methComp (h : Value) (w : World) : (Go.method (Tryz.prog.types.size + Made.depth) 176 (.agg #[h]) "Comparable").run Tryz.prog w = .ok (200, .agg #[h]) w := by kernel_rfl
theorem methUnwr (h : Value) (w : World) : (Go.method (Tryz.prog.types.size + Made.depth) 85 h "Unwrap").run Tryz.prog w = .ok (194, h) w := by kernel_rfl
theorem kindP (w : World) : ((ReflectliteType.abiMethod fun t => do pure (.int .u8 (← Rtype.kind t))) #[hd 87]).run Tryz.prog w = .ok (.int .u8 22) w := by kernel_rfl
theorem kindF (w : World) : ((ReflectliteType.abiMethod fun t => do pure (.int .u8 (← Rtype.kind t))) #[hd 85]).run Tryz.prog w = .ok (.int .u8 25) w := by kernel_rfl
theorem elemP (w : World) : ((ReflectliteType.method ReflectliteType.elem) #[.agg #[hd 87]]).run Tryz.prog w = .ok (rty 85) w := by kernel_rfl
theorem implF (w : World) : ((ReflectliteType.relation "Implements" ReflectliteType.implements_) #[.agg #[hd 85], rty 83]).run Tryz.prog w = .ok (.bool true) w := by kernel_rfl
theorem assiF (w : World) : ((ReflectliteType.relation "AssignableTo" ReflectliteType.assignableTo) #[.agg #[hd 85], rty 85]).run Tryz.prog w = .ok (.bool true) w := by kernel_rfl
theorem typeOfF (v : Value) (w : World) : (ReflectliteType.typeOf #[.iface 85 v]).run Tryz.prog w = .ok (rty 85) w := by kernel_rfl
theorem partsP (a : Addr) (w : World) : (ReflectliteValue.parts (.agg #[hd 87, .pointer (some a), .int .u64 150])).run Tryz.prog w = .ok (some (87, a, 150)) w := by kernel_rfl
theorem partsF (a : Addr) (w : World) : (ReflectliteValue.parts (.agg #[hd 85, .pointer (some a), .int .u64 153])).run Tryz.prog w = .ok (some (85, a, 153)) w := by kernel_rfl
theorem partsE (a : Addr) (w : World) : (ReflectliteValue.parts (.agg #[hd 85, .pointer (some a), .int .u64 409])).run Tryz.prog w = .ok (some (85, a, 409)) w := by kernel_rfl
theorem rlm (z : Sem Value) (f : TypeId → Addr → Nat → Nat → Sem Value) (v : Value) :
    ReflectliteValue.method z f #[v] = (do match ← ReflectliteValue.parts v with | none => z | some (t, a, fl) => f t a fl (fl % 32)) := rfl
theorem isNilP (a p : Addr) (W : World) (ha : W.cell? a = some (.pointer (some p))) :
    (ReflectliteValue.method (ReflectliteValue.valueError "reflectlite.Value.IsNil" 0) ReflectliteValue.isNil #[.agg #[hd 87, .pointer (some a), .int .u64 150]]).run Tryz.prog W = .ok (.bool false) W := by
  rw [rlm]
  simp only [Sem.run_bind, partsP, Result.andThen]
  simp [ReflectliteValue.isNil, loadVar, isAgg, underlying, Tryz.underlying87, ha, Result.andThen]
theorem elemOfP (w : World) : (Rtype.elem? 87).run Tryz.prog w = .ok (some 85) w := by kernel_rfl
theorem mkF (p : Addr) (w : World) : (ReflectliteValue.mk 85 p ReflectliteValue.flagAddr).run Tryz.prog w = .ok (.agg #[hd 85, .pointer (some p), .int .u64 409]) w := by kernel_rfl
theorem elemV (a p : Addr) (W : World) (ha : W.cell? a = some (.pointer (some p))) :
    (ReflectliteValue.method (ReflectliteValue.valueError "reflectlite.Value.Elem" 0) ReflectliteValue.elem #[.agg #[hd 87, .pointer (some a), .int .u64 150]]).run Tryz.prog W
      = .ok (.agg #[hd 85, .pointer (some p), .int .u64 409]) W := by
  rw [rlm]
  simp only [Sem.run_bind, partsP, Result.andThen]
  simp [ReflectliteValue.elem, loadVar, isAgg, underlying, Tryz.underlying87, ha, Result.andThen, elemOfP, mkF]
theorem rls (v x : Value) : ReflectliteValue.set #[v, x] = (do
    let (some (dst, a, fl), some (src, b, _)) := (← ReflectliteValue.parts v, ← ReflectliteValue.parts x)
      | unsupported (.noEntry "extern/(internal/reflectlite.Value).Set.zeroValue")
    if fl / ReflectliteValue.flagAddr % 2 == 0 then unsupported (.noEntry "extern/(internal/reflectlite.Value).Set.unaddressable")
    let val ← loadVar src b
    if ← Rtype.directlyAssignable dst src then storeVar dst a val
    else if ← Rtype.implements dst src then
      if (← Rtype.kind src) == 20 then
        match val with
        | .nilIface => unsupported (.noEntry "extern/reflectlite: a nil value of one interface type handed on as a value of another")
        | _ => storeVar dst a val
      else storeVar dst a (.iface src val)
    else panicString ("reflectlite.Set: value of type " ++ (← Rtype.spelt src) ++ " is not assignable to type " ++ (← Rtype.spelt dst))
    pure (.tuple #[])) := rfl
theorem directF (w : World) : (Rtype.directlyAssignable 85 85).run Tryz.prog w = .ok true w := by kernel_rfl
theorem sizeF (w : World) : (sizeOf 85).run Tryz.prog w = .ok 2 w := by kernel_rfl
theorem loadF {a : Addr} {u v : Value} {W : World} (h0 : W.cell? a = some u) (h1 : W.cell? (a.add 1) = some v) : (loadVar 85 a).run Tryz.prog W = .ok (.agg #[u, v]) W := by
  have : a.add 0 = a := by unfold Addr.add; simp
  simp [loadVar, isAgg, underlying, Tryz.underlying85, Result.andThen, sizeF, loadCells, loadCellsFrom, this, h0, h1]
theorem setF {k b : Nat} {u v x y : Value} {W : World} (hb : blk W b = some [u, v]) (hk : blk W k = some [x, y]) (hu : oneV u = true) (hv : oneV v = true) :
    ∃ W', (ReflectliteValue.set #[.agg #[hd 85, .pointer (some ⟨k, 0, none⟩), .int .u64 409], .agg #[hd 85, .pointer (some ⟨b, 0, none⟩), .int .u64 153]]).run Tryz.prog W = .ok (.tuple #[]) W' ∧
      blk W' k = some [u, v] ∧ Ch (· = k) W W' := by
  rw [rls]
  simp only [Sem.run_bind, partsE, partsF, Result.andThen]
  have h0 : W.cell? ⟨b, 0, none⟩ = some u := by rw [cell_blk hb]; rfl
  have h1 : W.cell? ((⟨b, 0, none⟩ : Addr).add 1) = some v := by rw [add_at, cell_blk hb]; rfl
  obtain ⟨W', r, q⟩ := stCells_sound (P := Tryz.prog) (a := ⟨k, 0, none⟩) (l := [u, v]) (i := 0) (w := W) (K := fun W' => blk W' k = some [u, v] ∧ Ch (· = k) W W') (by
    unfold stCells
    rw [hu]
    refine Sif_true ?_
    rw [add_at]
    refine st_blk hk (by simp) fun w1 b1 c1 z1 => ?_
    unfold stCells
    rw [hv]
    refine Sif_true ?_
    rw [add_at]
    exact st_blk b1 (by simp) fun w2 b2 c2 z2 => ⟨by simpa using b2, c1.trans' c2⟩)
  refine ⟨W', ?_, q⟩
  simp [ReflectliteValue.flagAddr, loadF h0 h1, Result.andThen, directF, storeVar, Value.cells, r]
theorem as_nil {t : Value} {w : World} {K : Value → World → Prop} (hk : K (.bool false) w) : callP Tryz.prog 38 [.nilIface, t] w K := by
  refine ok_errors_As ?_
  unfold wp_errors_As
  exact ⟨rfl, Sif_true hk⟩
theorem callI_ext {P : Program} {t : TypeId} {v x : Value} {f : FuncId} {name : String} {args : List Value} {w : World} {K : Value → World → Prop} (hm : (method (P.types.size + Made.depth) t v name).run P w = .ok (f, x) w) (h : extP P f (x :: args) w K) : callI P none (.iface t v) name args w K :=
  ⟨t, v, f, x, rfl, hm, .inr h⟩
theorem as_fault {a e : Value} {k : Nat} {x y : Value} {w : World} {K : Value → World → Prop} (hb : blk w k = some [x, y]) (ha : oneV a = true) (he : oneV e = true) (hty : w.cell? ⟨1, 0, none⟩ = some (rty 83)) (hk1 : k ≠ 1)
    (hk : ∀ w', blk w' k = some [a, e] → Ch (· = k) w w' → K (.bool true) w') :
    callP Tryz.prog 38 [.iface 85 (.agg #[a, e]), .iface 87 (.pointer (some ⟨k, 0, none⟩))] w K := by
  refine ok_errors_As ?_
  unfold wp_errors_As
  have hkl := blk_lt hb
  have cty : ∀ w', Ch (fun _ => False) w w' → w'.cell? ⟨1, 0, none⟩ = some (rty 83) := fun w' hc => by
    have h1 : 1 < w.heap.size := by
      rcases Nat.lt_or_ge 1 w.heap.size with h | h
      · exact h
      · simp [World.cell?, Array.getElem?_eq_none h] at hty
    have := hc.keep 1 h1 id
    unfold World.cell? at *
    rw [this]; exact hty
  refine ⟨rfl, Sif_false ⟨fun w1 => w1 = w, ?_, rfl, Sif_false rfl⟩⟩
  rintro w1 rfl
  refine extP_of Tryz.func81 (by kernel_rfl) (by kernel_rfl) (by kernel_rfl) (e := fun args => ReflectliteValue.unpack (args.getD 0 (.tuple #[]))) (by kernel_rfl) (valueOfP _ _) ?_
  refine ⟨_, _, _, rfl, ?_⟩
  have c2 := alloc_ch w1 (.cells #[.pointer (some ⟨k, 0, none⟩)] 87)
  have b2 := alloc_blk w1 [.pointer (some ⟨k, 0, none⟩)] 87
  generalize w1.alloc (.cells #[.pointer (some ⟨k, 0, none⟩)] 87) = w2 at c2 b2
  refine newB_blk fun w3 b3 c3 z3 => st_blk b3 (by simp) fun w4 b4 c4 z4 => Sif_true (st_blk b4 (by simp) fun w5 b5 c5 z5 => st_blk b5 (by simp) fun w6 b6 c6 z6 => ?_)
  have b6' : blk w6 w2.heap.size = some [hd 87, .pointer (some ⟨w1.heap.size, 0, none⟩), .int .u64 150] := b6
  have z2 : w1.heap.size < w2.heap.size := blk_lt b2
  have c26 : Ch (fun _ => False) w2 w6 := ((c3.trans c4 fun x hx e => by omega).trans c5 fun x hx e => by have e : x = w2.heap.size := e; omega).trans c6 fun x hx e => by have e : x = w2.heap.size := e; omega
  have b26 : blk w6 w1.heap.size = some [.pointer (some ⟨k, 0, none⟩)] := by rw [c26.blk z2 id]; exact b2
  have c16 : Ch (fun _ => False) w1 w6 := c2.new c26
  refine ⟨_, by rw [add_at, cell_blk b6']; rfl, _, by rw [add_at, cell_blk b6']; rfl, _, by rw [add_at, cell_blk b6']; rfl, ?_⟩
  refine extP_of Tryz.func82 (by kernel_rfl) (by kernel_rfl) (by kernel_rfl) (e := ReflectliteValue.methodAny (ReflectliteValue.valueError "reflectlite.Value.Type" 0) (fun t _ _ _ => ReflectliteType.toType t)) (by kernel_rfl) (typeP _ _) ?_
  refine ⟨_, rfl, fun w8 => w8 = w6, ?_, ?_⟩
  · rintro w8 rfl
    refine callI_ext (methElem _ _) (extP_of Tryz.func201 (by kernel_rfl) (by kernel_rfl) (by kernel_rfl) (e := ReflectliteType.method ReflectliteType.elem) (by kernel_rfl) (elemP _) ?_)
    refine ⟨_, rfl, fun w10 => w10 = w8, ?_, ?_⟩
    · rintro w10 rfl
      refine ⟨_, by rw [add_at, cell_blk b6']; rfl, _, by rw [add_at, cell_blk b6']; rfl, _, by rw [add_at, cell_blk b6']; rfl, ?_⟩
      refine ok_errors_as ?_
      unfold wp_errors_as
      refine newB_blk fun w11 b11 c11 z11 => ?_
      refine ⟨fun _ v w' => v = .iface 85 (.agg #[a, e]) ∧ w' = w11, ⟨0, rfl, rfl⟩, ?_⟩
      rintro m v w12 ⟨rfl, rfl⟩
      refine extP_of Tryz.func85 (by kernel_rfl) (by kernel_rfl) (by kernel_rfl) (e := ReflectliteType.typeOf) (by kernel_rfl) (typeOfF _ _) ?_
      refine ⟨_, rfl, callI_ext (methAssi _ _) (extP_of Tryz.func199 (by kernel_rfl) (by kernel_rfl) (by kernel_rfl) (e := ReflectliteType.relation "AssignableTo" ReflectliteType.assignableTo) (by kernel_rfl) (assiF _) ?_)⟩
      refine ⟨_, rfl, Sif_true ⟨_, by rw [add_at, cell_blk b11]; rfl, _, by rw [add_at, cell_blk b11]; rfl, _, by rw [add_at, cell_blk b11]; rfl, ?_⟩⟩
      have c112 : Ch (fun _ => False) w1 w12 := c16.new c11
      have b1w : w12.cell? ⟨w1.heap.size, 0, none⟩ = some (.pointer (some ⟨k, 0, none⟩)) := by
        have : blk w12 w1.heap.size = some [.pointer (some ⟨k, 0, none⟩)] := by rw [c11.blk (blk_lt b26) id]; exact b26
        rw [cell_blk this]; rfl
      refine extP_of Tryz.func116 (by kernel_rfl) (by kernel_rfl) (by kernel_rfl) (e := ReflectliteValue.method (ReflectliteValue.valueError "reflectlite.Value.Elem" 0) ReflectliteValue.elem) (by kernel_rfl) (elemV _ _ _ b1w) ?_
      refine ⟨_, _, _, rfl, extP_of Tryz.func81 (by kernel_rfl) (by kernel_rfl) (by kernel_rfl) (e := fun args => ReflectliteValue.unpack (args.getD 0 (.tuple #[]))) (by kernel_rfl) (valueOfF _ _ _) ?_⟩
      refine ⟨_, _, _, rfl, ?_⟩
      have c13 := alloc_ch w12 (.cells #[a, e] 85)
      have b13 := alloc_blk w12 [a, e] 85
      generalize w12.alloc (.cells #[a, e] 85) = w13 at c13 b13
      have c113 : Ch (fun _ => False) w1 w13 := c112.new c13
      obtain ⟨w14, r, b14, c14⟩ := setF (W := w13) (k := k) b13 (by rw [c113.blk hkl id]; exact hb) ha he
      refine extP_of Tryz.func117 (by kernel_rfl) (by kernel_rfl) (by kernel_rfl) (e := ReflectliteValue.set) (by kernel_rfl) r ⟨rfl, true, rfl, ?_⟩
      exact hk w14 b14 ((c113.mono fun _ _ h => h.elim).trans' c14)
    · refine callI_ext (methKind _ _) (extP_of Tryz.func190 (by kernel_rfl) (by kernel_rfl) (by kernel_rfl) (e := ReflectliteType.abiMethod fun t => do pure (.int .u8 (← Rtype.kind t))) (by kernel_rfl) (kindF _) ?_)
      refine ⟨_, rfl, Sif_true ⟨_, cty _ c16, callI_ext (methImpl _ _) (extP_of Tryz.func202 (by kernel_rfl) (by kernel_rfl) (by kernel_rfl) (e := ReflectliteType.relation "Implements" ReflectliteType.implements_) (by kernel_rfl) (implF _) ⟨_, rfl, Sif_false rfl⟩)⟩⟩
  · refine callI_ext (methKind _ _) (extP_of Tryz.func190 (by kernel_rfl) (by kernel_rfl) (by kernel_rfl) (e := ReflectliteType.abiMethod fun t => do pure (.int .u8 (← Rtype.kind t))) (by kernel_rfl) (kindP _) ?_)
    refine ⟨_, rfl, Sif_true ⟨_, by rw [add_at, cell_blk b6']; rfl, _, by rw [add_at, cell_blk b6']; rfl, _, by rw [add_at, cell_blk b6']; rfl, ?_⟩⟩
    exact extP_of Tryz.func83 (by kernel_rfl) (by kernel_rfl) (by kernel_rfl) (e := ReflectliteValue.method (ReflectliteValue.valueError "reflectlite.Value.IsNil" 0) ReflectliteValue.isNil) (by kernel_rfl) (isNilP _ _ _ (by rw [cell_blk b26]; rfl)) ⟨_, rfl, Sif_false rfl⟩
end Go.Proofs.YtipololccbdojaaGreatDoor
namespace Go.Proofs.YtipololccbdojaaGreatDoor
open Go Go.Sv Go.Extern
set_option linter.unusedVariables false
set_option maxRecDepth 4000

/-- an error of errors.New's make -/
abbrev eV (a : Addr) : Value := .iface 233 (.pointer (some a))
/-- the package's variables, as they are laid -/
structure ErrsA (w : World) (aB aS : Addr) : Prop where
  e : Errs w (eV aB) (eV aS)
  ty : w.cell? ⟨1, 0, none⟩ = some (rty 83)
  hB : ∃ c t, w.heap[aB.block]? = some (.cells c t (0, 0))
  hS : ∃ c t, w.heap[aS.block]? = some (.cells c t (0, 0))
  ne : aB ≠ aS
theorem ErrsA.ch {w w' : World} {aB aS : Addr} (h : ErrsA w aB aS) (c : Ch (fun _ => False) w w') : ErrsA w' aB aS := by
  obtain ⟨cB, tB, h1⟩ := h.hB
  obtain ⟨cS, tS, h2⟩ := h.hS
  exact ⟨h.e.ch c id id, cell_ch c h.ty id, ⟨cB, tB, by rw [c.keep _ (lt_of_heap h1) id]; exact h1⟩, ⟨cS, tS, by rw [c.keep _ (lt_of_heap h2) id]; exact h2⟩, h.ne⟩
theorem run_eql_types {P : Program} {ti t1 t2 : TypeId} {ms : Array (String × TypeId)} {v1 v2 : Value} (hi : P.underlying ti = some (.interface ms)) (hne : t1 ≠ t2) (w : World) : (binOp .eql ti (.iface t1 v1) (.iface t2 v2)).run P w = .ok (.bool false) w := by
  have h : ∀ d : Nat, (Op.equalIn (d + 1) ti (.iface t1 v1) (.iface t2 v2)).run P w = .ok false w := fun d => by simp [Op.equalIn, run_underlying hi, hne]
  simp only [binOp]
  simp [Op.equal, Op.maxDepth, h 9999]
theorem ifaceEq_of {P : Program} {op : BinOp} {T t1 t2 : TypeId} {v1 v2 : Value} {w : World} {r : Bool} {K : Bool → Prop} (h : (binOp op T (.iface t1 v1) (.iface t2 v2)).run P w = .ok (.bool r) w) (hk : K r) : ifaceEq P op T (.iface t1 v1) (.iface t2 v2) w K :=
  ⟨r, fun y z => by rw [Sem.run_bind, eqGuard_at_iface]; simp only [Sem.run_pure, Result.andThen_ok]; exact h, hk⟩
theorem strCmp : (Tryz.prog.info? 233).map (·.comparable) = some true := by kernel_rfl
theorem strSize : (Tryz.prog.info? 253).map (·.size) = some 1 := by kernel_rfl
theorem compE (w : World) : ((ReflectliteType.method fun t => do Rtype.noPackHeld "Comparable" t; pure (.bool (← typeInfo t).comparable)) #[.agg #[hd 233]]).run Tryz.prog w = .ok (.bool true) w := by kernel_rfl
theorem typeOfE (v : Value) (w : World) : (ReflectliteType.typeOf #[.iface 233 v]).run Tryz.prog w = .ok (rty 233) w := by kernel_rfl
theorem noIsF (v : Value) (w : World) : (Instr.typeAssert (.iface 85 v) 83 188 true).run Tryz.prog w = .ok (.tuple #[.nilIface, .bool false]) w := run_typeAssert_lacksB Tryz.underlying188 (by kernel_rfl) (by kernel_rfl) v _ w
theorem noIsE (v : Value) (w : World) : (Instr.typeAssert (.iface 233 v) 83 188 true).run Tryz.prog w = .ok (.tuple #[.nilIface, .bool false]) w := run_typeAssert_lacksB Tryz.underlying188 (by kernel_rfl) (by kernel_rfl) v _ w
theorem hasUnF (v : Value) (w : World) : (Instr.typeAssert (.iface 85 v) 83 183 true).run Tryz.prog w = .ok (.tuple #[.iface 85 v, .bool true]) w := by kernel_rfl
theorem noUnE (v : Value) (w : World) : (Instr.typeAssert (.iface 233 v) 83 183 true).run Tryz.prog w = .ok (.tuple #[.nilIface, .bool false]) w := run_typeAssert_lacksB Tryz.underlying183 (by kernel_rfl) (by kernel_rfl) v _ w
theorem noUnsE (v : Value) (w : World) : (Instr.typeAssert (.iface 233 v) 83 185 true).run Tryz.prog w = .ok (.tuple #[.nilIface, .bool false]) w := run_typeAssert_lacksB Tryz.underlying185 (by kernel_rfl) (by kernel_rfl) v _ w
theorem callI_in {P : Program} {t : TypeId} {v x : Value} {f : FuncId} {name : String} {args : List Value} {w : World} {K : Value → World → Prop} (hm : (method (P.types.size + Made.depth) t v name).run P w = .ok (f, x) w) (ho : okCall P f = true) (h : callP P f (x :: args) w K) : callI P none (.iface t v) name args w K :=
  ⟨t, v, f, x, rfl, hm, .inl ⟨ho, h⟩⟩
theorem unwrap_ok {n : Int} {e : Value} {w : World} {K : Value → World → Prop} (hk : ∀ w', Ch (fun _ => False) w w' → K e w') : callP Tryz.prog 194 [.agg #[.int .i64 n, e]] w K := by
  refine ok_journal_fault_Unwrap ?_
  unfold wp_journal_fault_Unwrap
  refine newB_blk fun w1 b1 c1 z1 => ⟨_, by rw [add_at, cell_blk b1]; rfl, hk w1 c1⟩
theorem eqE {w : World} {aB aS : Addr} (h : ErrsA w aB aS) {x : Addr} (hx : x = aB ∨ x = aS) {K : Bool → Prop} (hk : K (decide (x = aB))) : ifaceEq Tryz.prog .eql 83 (eV x) (eV aB) w K := by
  obtain ⟨i, hi, hcmp⟩ := Option.map_eq_some_iff.1 strCmp
  obtain ⟨j, hj, hjs⟩ := Option.map_eq_some_iff.1 strSize
  obtain ⟨cB, tB, h1⟩ := h.hB
  obtain ⟨cS, tS, h2⟩ := h.hS
  by_cases hxa : x = aB
  · rw [decide_eq_true hxa] at hk
    subst hxa
    exact ifaceEq_of (run_eql_iface_ptr_same w x Tryz.underlying83 Tryz.underlying233 hi hcmp hj) hk
  · rw [decide_eq_false hxa] at hk
    have hxs : x = aS := hx.resolve_left hxa
    subst hxs
    exact ifaceEq_of (run_eql_iface_ptr_other w Tryz.underlying83 Tryz.underlying233 hi hcmp hj (by rw [hjs]; decide) hxa h2 h1) hk
theorem eqF {w : World} {v : Value} {a : Addr} {K : Bool → Prop} (hk : K false) : ifaceEq Tryz.prog .eql 83 (.iface 85 v) (eV a) w K := by
  exact ifaceEq_of (run_eql_types Tryz.underlying83 (by decide) w) hk
theorem is_fault {n : Int} {x aB aS : Addr} {w : World} {K : Value → World → Prop} (h : ErrsA w aB aS) (hx : x = aB ∨ x = aS) (hk : ∀ w', Ch (fun _ => False) w w' → K (.bool (decide (x = aB))) w') :
    callP Tryz.prog 39 [.iface 85 (.agg #[.int .i64 n, eV x]), eV aB] w K := by
  refine ok_errors_Is ?_
  unfold wp_errors_Is
  refine ⟨fun w1 => w1 = w, ?_, rfl, Sif_true ⟨rfl, Sif_false rfl⟩⟩
  rintro w1 rfl
  refine extP_of Tryz.func85 (by kernel_rfl) (by kernel_rfl) (by kernel_rfl) (e := ReflectliteType.typeOf) (by kernel_rfl) (typeOfE _ _) ?_
  refine ⟨_, rfl, callI_ext (methComp _ _) (extP_of Tryz.func200 (by kernel_rfl) (by kernel_rfl) (by kernel_rfl) (e := ReflectliteType.method fun t => do Rtype.noPackHeld "Comparable" t; pure (.bool (← typeInfo t).comparable)) (by kernel_rfl) (compE _) ?_)⟩
  refine ⟨_, rfl, ok_errors_is ?_⟩
  unfold wp_errors_is
  refine ⟨fun m v w2 => (m = 1 ∧ v = .iface 85 (.agg #[.int .i64 n, eV x]) ∧ w2 = w1) ∨ (m = 0 ∧ v = eV x ∧ Ch (fun _ => False) w1 w2), ⟨1, .inl ⟨rfl, rfl, rfl⟩⟩, ?_⟩
  rintro m v w2 (⟨rfl, rfl, rfl⟩ | ⟨rfl, rfl, hc⟩)
  · refine ⟨fun w3 => w3 = w2, ?_, Sif_true (eqF (Sif_false rfl))⟩
    rintro w3 rfl
    refine ⟨fun w4 => w4 = w3, ?_, _, _, noIsF _ _, Sif_false rfl⟩
    rintro w4 rfl
    refine ⟨_, _, hasUnF _ _, Sif_true (callI_in (methUnwr _ _) (by kernel_rfl) (unwrap_ok (fun w5 hc => ⟨_, rfl, rfl, Sif_false ⟨0, by omega, .inr ⟨rfl, rfl, hc⟩⟩⟩)))⟩
  · have h2 := h.ch hc
    refine ⟨fun w3 => w3 = w2 ∧ x ≠ aB, ?_, Sif_true (eqE h2 hx (Sif_cases (fun e => ?_) fun e => ⟨rfl, by simpa using e⟩))⟩
    · rintro w3 ⟨rfl, hne⟩
      refine ⟨fun w4 => w4 = w3, ?_, _, _, noIsE _ _, Sif_false rfl⟩
      rintro w4 rfl
      refine ⟨_, _, noUnE _ _, Sif_false ⟨_, _, noUnsE _ _, Sif_false ?_⟩⟩
      have := hk w4 hc
      rw [decide_eq_false hne] at this
      exact ⟨_, rfl, this⟩
    · have := hk w2 hc
      rw [e] at this
      exact ⟨_, rfl, this⟩
end Go.Proofs.YtipololccbdojaaGreatDoor
