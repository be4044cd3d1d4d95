/-
  A deferred call of a function without deferred calls of its own, by what the function's text comes to. Over every program. The queue's Take, where all fit (nil). slices.SortFunc at rows of structs, in the words of the memory laws; calls that lay blocks and draw alone. Over every program. Small laws of memory: many cells stored at once, rows that are written over, numbers in a row. Over every program. The queue's Take, with a function that says which fit. The queue's Take, with a function that says which fit: the walk. A queue, plain: its order by Seqs; what the document's queue does, step by step.
-/
import Derived.Test.YtipbbjnmpnfhpaaGreatDoorPr9
import Derived.Shelf.SlSortCmp.NoneTotal
namespace Go.Sv
open Go
set_option linter.unusedVariables false
theorem callD_of {P : Program} {f : FuncId} {fn : Func} {ann : Ann} {args : List Value} {w : World} {K : World → Prop} (hf : P.funcs[f]? = some fn) (hnd : ∀ c, fn.body = some c → noDefer c = true) (h : wpF P none fn ann args w fun _ w' => K w') : callD P f args w K := by
  unfold wpF at h
  split at h
  · rename_i c hb
    split at h
    · rename_i hle
      rw [Bool.and_eq_true] at hle
      have hle' : args.length ≤ fn.ntmps := Nat.le_of_ble_eq_true hle.1
      have h2 := wpC_sound (P := P) none none ann c _ h (enter_agree args hle')
      have h3 := callsD_of_wp (u := .returning) (R := fun e w' => (∃ v, e = .returned v) ∧ K w') hf hb (wpIn_wide.1 (wpIn_mono h2 (Q' := bodyPost P fn fun e w' => (∃ v, e = .returned v) ∧ K w') ?_))
      · refine CallsD.mono h3 fun e u w' hh => ⟨hh.2.1, hh.1, hh.2.2⟩
      · rintro e a' w' hh
        have fin : ∀ st : St, Agree fn.ntmps a' st → finish P fn (fun _ w' => K w') st.env st.ds w' → a'.defers = [] → ∃ v, (results fn a'.tmps).run P w' = .ok v w' ∧ (∃ u, Ending.returned v = .returned u) ∧ K w' := fun st ha hq hd => by
          rw [← ha.ds, hd] at hq
          obtain ⟨vs, hr, hk⟩ := results_sound ha.val hq
          exact ⟨_, hr, ⟨_, rfl⟩, hk⟩
        cases e with
        | normal =>
          obtain ⟨⟨st, ha, hq⟩, _, hd⟩ := hh
          exact ⟨hd (hnd c hb), fin st ha hq (hd (hnd c hb))⟩
        | ret =>
          obtain ⟨⟨st, ha, hq⟩, _, hd⟩ := hh
          exact ⟨hd (hnd c hb), fin st ha hq (hd (hnd c hb))⟩
        | panic ch =>
          obtain ⟨⟨KP, hpk, hk⟩, _, hd⟩ := hh
          cases hpk
        | exit i => obtain ⟨⟨st, ha, hq⟩, _⟩ := hh; exact hq.elim
        | goto i => obtain ⟨⟨st, ha, hq⟩, _⟩ := hh; exact hq.elim
        | outgrown => obtain ⟨⟨st, ha, hq⟩, _⟩ := hh; exact hq.elim
    · exact h.elim
  · exact h.elim
end Go.Sv
namespace Go.Proofs.YtipbbjnmpnfhpaaGreatDoor
open Go Go.Sv Go.Heap Go.Qu Go.MapKept
set_option linter.unusedVariables false
set_option maxRecDepth 4000
theorem takeD_of {cap0 cap1 : Option Addr} {w : World} {K : World → Prop} (h : wp_queue_Queue_Take_1 cap0 cap1 w fun _ w' => K w') : callD Tryz.prog 48 [.pointer cap0, .pointer cap1] w K :=
  callD_of Tryz.func48 (fun c hc => by cases hc; kernel_rfl) ((eq_queue_Queue_Take_1 cap0 cap1 w fun _ w' => K w').symm ▸ h)
theorem takeD0 {w : World} {k : Nat} {cap1 : Option Addr} {K : World → Prop} (hb : blk w k = some [.slice none 0 0]) (hk : K w) : callD Tryz.prog 48 [.pointer (some ⟨k, 0, none⟩), .pointer cap1] w K := by
  refine takeD_of ?_
  unfold wp_queue_Queue_Take_1
  rw [nn_some]
  refine ⟨none, 0, 0, by rw [cell_blk hb]; rfl, fun m n1 w1 => n1 = 0 ∧ w1 = w, ⟨0, rfl, rfl⟩, ?_⟩
  rintro m n1 w1 ⟨rfl, rfl⟩
  refine Sif_cases (fun h => ?_) fun _ => hk
  simp at h
def Et.setH (x : Et) (h : Int) : Et := { x with e := { x.e with hold := h } }
/-- one is taken -/
theorem QF.took {A : AQ} {F F2 F' H P : List Et} {x : Et} {h : Int} (E : QF A F H) (W : WQ A) (hp : F.Perm (x :: F')) (hh : h ≠ 0) (hheap : HeapFrom En.lt (atE (F'.map (·.e))) F'.length 0) : QF { A with L := setHold x.pe.seq h A.L } F' (x.setH h :: H) := by
  have h1 : A.L.Perm (x.pe :: (F' ++ H).map Et.pe) := E.perm.symm.trans ((hp.append_right H).map Et.pe)
  refine ⟨hheap, ?_, fun y hy => E.free y (hp.mem_iff.2 (List.mem_cons_of_mem _ hy)), fun y hy => ?_⟩
  · have h2 := map_one (f := fun y => if y.seq = x.pe.seq then { y with hold := h } else y) W.nd (h1.mem_iff.2 (by simp)) (fun y hy => by rw [if_neg hy]) h1
    rw [if_pos rfl] at h2
    refine List.Perm.trans ?_ h2.symm
    exact (List.perm_middle (l₁ := F') (a := x.setH h) (l₂ := H)).map Et.pe
  · rcases List.mem_cons.1 hy with rfl | hy
    · exact hh
    · exact E.held y hy
theorem en_assert {e : En} {w : World} {K : Int → Int → Int → Bool → Int → Int → Option Addr → Nat → Nat → Prop} (hk : K e.seq e.pri e.exp e.dur e.cnt e.hold e.p e.n e.c) :
    ∃ n n1 n2 b n3 n4 p n5 c, (Instr.typeAssert (.iface 34 e.val) 20 34 false).run Tryz.prog w = .ok (.agg #[.int .i64 n, .int .i64 n1, .int .i64 n2, .bool b, .int .i64 n3, .int .i64 n4, .slice p n5 c]) w ∧ K n n1 n2 b n3 n4 p n5 c := ⟨_, _, _, _, _, _, _, _, _, isEntry _ _, hk⟩
theorem qtake_ok {w : World} {qb : Nat} {A : AQ} {B : Nat → Prop} {h : Int} {K : Value → World → Prop} (Q : QK w qb A B)
    (hno : (A.take h fun _ => true).1 = none → QPost w qb (A.take h fun _ => true).2 B fun w' _ => K (.tuple #[Ez.e.val, .bool false]) w')
    (hyes : ∀ y, (A.take h fun _ => true).1 = some y → ∀ x : Et, x.pe = y → QPost w qb (A.take h fun _ => true).2 B fun w' B' => Out w' B B' w.heap.size x → K (.tuple #[x.e.val, .bool true]) w') :
    callP Tryz.prog 18 [.pointer (some ⟨qb, 0, none⟩), .int .i64 h, .nilFunc] w K := by
  have hQ0 := Q
  have hW := Q.wf.take h fun _ => true
  obtain ⟨wf, F, H, p, c, own, r, M, E, rfl⟩ := Q
  have hlen := E.len
  have hlt := M.lt
  refine ok_queue_Queue_Take_n ?_
  unfold wp_queue_Queue_Take_n
  refine newB_blk fun w1 b1 c1 z1 => newB_blk fun w2 b2 c2 z2 => ?_
  have b12 : blk w2 w.heap.size = some [.pointer (some ⟨qb, 0, none⟩)] := by rw [c2.blk (blk_lt b1) id]; exact b1
  have b2 : blk w2 w1.heap.size = some Ez.e.cells := b2
  have c02 := c1.trans' c2
  simp only [add_at, Nat.zero_add]
  refine Sif_cases (fun hh => ?_) fun hh => ?_
  · have hh : h < 1 := by simpa using hh
    have e1 : (A.take h fun _ => true) = (none, A) := by unfold AQ.take; rw [if_pos hh]
    rw [e1] at hno
    refine reN (e := Ez.e) b2 fun w3 b3 c3 z3 => rdN b3 ?_
    have c03 : Ch (fun _ => False) w w3 := c02.trans c3 fun x hx h => by omega
    exact hno rfl w3 _ (hQ0.ch c03 fun _ _ => id) (c03.mono fun _ _ h => h.elim) fun b hb => .inl hb
  have hh : ¬ h < 1 := by simpa using hh
  refine newB_blk fun w3 b3 c3 z3 => ?_
  have c03 := c02.trans' c3
  have b13 : blk w3 w.heap.size = some [.pointer (some ⟨qb, 0, none⟩)] := by rw [c3.blk (blk_lt b12) id]; exact b12
  have b23 : blk w3 w1.heap.size = some Ez.e.cells := by rw [c3.blk (blk_lt b2) id]; exact b2
  have M3 := M.ch c03 fun _ _ => id
  refine ⟨fun _ w4 => w4 = w3, ⟨0, rfl⟩, ?_⟩
  rintro _ w4 rfl
  refine ⟨_, by rw [cell_blk b13]; rfl, ?_⟩
  simp only [nn_some, add_at, Nat.zero_add]
  refine ⟨_, _, _, M3.cell rfl, Sif_cases (fun hn => ?_) fun hn => ?_⟩
  rotate_left
  · have h0 : F = [] := by
      have : ¬ (F.length : Int) > 0 := by simpa using hn
      exact List.eq_nil_of_length_eq_zero (by omega)
    have e1 : (A.take h fun _ => true) = (none, A) := by
      unfold AQ.take
      rw [if_neg hh]
      have : A.frees = [] := by
        have := E.frees wf (S := []) .nil (by rw [h0]; exact .refl _)
        exact this.symm
      rw [this]; rfl
    rw [e1] at hno
    refine reN (e := Ez.e) b23 fun w5 b5 c5 z5 => ?_
    have b35 : blk w5 w2.heap.size = some [.slice none 0 0] := by rw [c5.blk (blk_lt b3) (by omega)]; exact b3
    refine takeD0 b35 (rdN b5 ?_)
    have c05 : Ch (fun _ => False) w w5 := c03.trans c5 fun x hx h => by omega
    exact hno rfl w5 _ (hQ0.ch c05 fun _ _ => id) (c05.mono fun _ _ h => h.elim) fun b hb => .inl hb
  have h0 : F ≠ [] := fun e => by rw [e] at hn; simp at hn
  refine ⟨_, by rw [cell_blk b13]; rfl, ?_⟩
  rw [nn_some, add_at, Nat.zero_add]
  refine qpop_ok M3 E.heap (by have := wf.len; have := wf.most2; omega) h0 fun w5 F' x hp hmin hheap' M5 hx hxB hsub c5 => ⟨_, rfl, en_assert ?_⟩
  have hord := ordered_min (E.ndf wf) hp hmin
  have hfr : A.frees = x.pe :: ordered (F'.map Et.pe) := by
    rw [← hord]
    exact (E.frees wf (ordered_sorted (by rw [List.map_map]; exact E.ndf wf)) (ordered_perm _)).symm
  have e1 : (A.take h fun _ => true) = (some { x.pe with hold := h }, { A with L := setHold x.pe.seq h A.L }) := by
    unfold AQ.take
    rw [if_neg hh, hfr]; rfl
  rw [e1] at hyes hW
  have hin : ∀ b, own = some b ∨ b = qb → b ∈ qbl qb r own F H := fun b h => by
    rcases h with h | h
    · exact mem_qbl.2 (.inr (.inr (.inl h)))
    · exact mem_qbl.2 (.inl h)
  have c05 : Ch (fun b => b ∈ qbl qb r own F H) w w5 := (c03.mono fun _ _ h => h.elim).trans' (c5.mono fun b _ h => hin b h)
  have old : ∀ b ∈ qbl qb r own F H, b < w.heap.size := hlt
  have keep : ∀ k v, w.heap.size ≤ k → blk w4 k = some v → blk w5 k = some v := fun k v hk hb => by
    rw [c5.blk (blk_lt hb) fun h => by have := old k (hin k h); omega]; exact hb
  have hz1 : w.heap.size ≤ w1.heap.size := by omega
  refine newE (e0 := En0) (e := x.e) fun w6 b6 c6 z6 => ⟨fun _ => False, fun _ h => h.elim, ?_⟩
  have b16 : blk w6 w.heap.size = some [.pointer (some ⟨qb, 0, none⟩)] := by rw [c6.blk (blk_lt (keep _ _ (Nat.le_refl _) b13)) id]; exact keep _ _ (Nat.le_refl _) b13
  have b26 : blk w6 w1.heap.size = some Ez.e.cells := by rw [c6.blk (blk_lt (keep _ _ hz1 b23)) id]; exact keep _ _ hz1 b23
  have b36 : blk w6 w2.heap.size = some [.slice none 0 0] := by rw [c6.blk (blk_lt (keep _ _ (by omega) b3)) id]; exact keep _ _ (by omega) b3
  have s5 := c5.size
  have s3 : w4.heap.size = w.heap.size + 3 := by omega
  simp only [add_at, Nat.zero_add]
  refine st_blk b6 (by simp [En.cells]) fun w7 b7 c7 z7 => ?_
  have b7 : blk w7 w5.heap.size = some (x.setH h).e.cells := b7
  have b7d : blk w7.drew w5.heap.size = some (x.setH h).e.cells := b7
  have b17 : blk w7.drew w.heap.size = some [.pointer (some ⟨qb, 0, none⟩)] := by rw [blk_drew, c7.blk (blk_lt b16) (by omega)]; exact b16
  have b27 : blk w7.drew w1.heap.size = some Ez.e.cells := by rw [blk_drew, c7.blk (blk_lt b26) (by omega)]; exact b26
  have b37 : blk w7.drew w2.heap.size = some [.slice none 0 0] := by rw [blk_drew, c7.blk (blk_lt b36) (by omega)]; exact b36
  have c57 : Ch (fun _ => False) w5 w7.drew := ((c6.trans c7 fun y hy h => by omega)).trans' (Ch.drew w7)
  have M7 : QM w7.drew qb A.cf A.last F' H p c own r := M5.ch c57 fun _ _ => id
  have hx7 : EtE.Ok w7.drew (x.setH h) := EtE.ch hx c57 fun _ _ => id
  refine ⟨_, by rw [cell_blk b17]; rfl, ?_⟩
  simp only [nn_some, add_at, Nat.zero_add]
  refine ⟨_, M7.cell rfl, _, by rw [cell_blk b7d]; rfl, rdN b7d ?_⟩
  have hnd := E.ndq wf
  have hpe : (F ++ H).Perm (x :: (F' ++ H)) := hp.append_right H
  rw [(hpe.map _).nodup_iff, List.map_cons] at hnd
  obtain ⟨w8, hrun, M8, hsub8, c8⟩ := M7.add (x := x.setH h) hx7 (fun b hb => (hxB b hb).2) fun y hy e => (List.nodup_cons.1 hnd).1 (List.mem_map.2 ⟨y, List.mem_append_right _ hy, e⟩)
  refine ⟨w8, hrun, ?_⟩
  have hr : r < w.heap.size := hlt r (mem_qbl.2 (.inr (.inl rfl)))
  have kp8 : ∀ k v, w.heap.size ≤ k → blk w7.drew k = some v → blk w8 k = some v := fun k v hk hb => by
    rw [c8.blk (blk_lt hb) (by omega)]; exact hb
  refine rdN (kp8 _ _ (by omega) b7d) ?_
  have hx8 : EtE.Ok w8 (x.setH h) := M8.dat _ (by simp)
  have hl8 := EtE.len hx8
  have hok : EOk x.pe := wf.ok _ (E.all (hpe.mem_iff.2 (by simp)))
  refine own_ok (e := (x.setH h).e) hx8.rd (by have := hok.len; have h9 : x.pe.l.length = x.e.n := hl8; have h10 : (x.setH h).e.n = x.e.n := rfl; omega) fun w9 y hy hyp hyn c9 => isE ?_
  have kp9 : ∀ k v, w.heap.size ≤ k → blk w7.drew k = some v → blk w9 k = some v := fun k v hk hb => by
    rw [c9.blk (blk_lt (kp8 k v hk hb)) id]; exact kp8 k v hk hb
  refine reN (e := y.e) (kp9 _ _ (by omega) b27) fun w10 b10 c10 z10 => ?_
  have b310 : blk w10 w2.heap.size = some [.slice none 0 0] := by rw [c10.blk (blk_lt (kp9 _ _ (by omega) b37)) (by omega)]; exact kp9 _ _ (by omega) b37
  refine takeD0 b310 (rdN b10 ?_)
  have s8 := c8.size
  have s7 := c57.size
  have c810 : Ch (fun b => w.heap.size ≤ b) w8 w10 := (c9.mono fun _ _ h => h.elim).trans' (c10.mono fun b _ h => by omega)
  have M10 : QM w10 qb A.cf A.last F' (x.setH h :: H) p c own r := M8.ch c810 fun b hb hle => by
    rcases hsub8 b hb with q | q
    · have := old b (hsub b q); omega
    · have := old b (hxB b q).1; omega
  have hQ : ∀ b ∈ qbl qb r own F' (x.setH h :: H), b ∈ qbl qb r own F H := fun b hb => by
    rcases hsub8 b hb with q | q
    · exact hsub b q
    · exact (hxB b q).1
  refine hyes _ rfl y hyp w10 _ ⟨hW, F', _, p, c, own, r, M10, E.took (P := []) (F2 := []) wf hp (by omega) hheap', rfl⟩ ?_ (fun b hb => .inl (hQ b hb)) ⟨EtE.ch hy c10 fun b hb h => ?_, fun b hb => ⟨fun h => ?_, .inr ?_⟩⟩
  · refine (c05.trans' ((c57.mono fun _ _ h => h.elim).trans' (c8.mono fun b _ h => h ▸ mem_qbl.2 (.inr (.inl rfl))))).trans c810 fun b hb h => by omega
  · have := hyn b (by simpa [EtE, Option.mem_toList] using hb)
    omega
  · have := hyn b hb
    have := old b (hQ b h)
    omega
  · have := hyn b hb
    omega
end Go.Proofs.YtipbbjnmpnfhpaaGreatDoor
namespace Go.Sv
open Go Go.Sort Go.RowKit Go.Shelf Go.Proofs
set_option linter.unusedVariables false
/-- from w to w' nothing but new blocks and draws -/
structure Qt (w w' : World) : Prop where
  ch : Ch (fun _ => False) w w'
  dr : w.drawn ≤ w'.drawn
theorem Qt.refl (w : World) : Qt w w := ⟨Ch.refl _ _, Nat.le_refl _⟩
theorem Qt.trans {a b c : World} (h : Qt a b) (k : Qt b c) : Qt a c := ⟨h.ch.trans' k.ch, Nat.le_trans h.dr k.dr⟩
theorem Qt.drew (w : World) : Qt w w.drew := ⟨Ch.drew w, Nat.le_succ _⟩
theorem newB_qt {w : World} {cs : List Value} {t : TypeId} {K : Addr → World → Prop}
    (hk : ∀ w', blk w' w.heap.size = some cs → Qt w w' → w'.heap.size = w.heap.size + 1 → K ⟨w.heap.size, 0, none⟩ w') : newB w cs t K :=
  hk _ (alloc_blk w cs t) ⟨alloc_ch w _, Nat.le_refl _⟩ (by simp)
theorem Qt.grow {w w' : World} (h : Qt w w') : ∃ q os, w' = Go.Sort.grow (w.drewN q) os := by
  refine ⟨w'.drawn - w.drawn, w'.heap.extract w.heap.size w'.heap.size, ?_⟩
  obtain ⟨⟨h1, h2, h3, h4, h5⟩, h6⟩ := h
  have hh : w'.heap = w.heap ++ w'.heap.extract w.heap.size w'.heap.size := by
    apply Array.ext_getElem?
    intro i
    by_cases hi : i < w.heap.size
    · rw [Array.getElem?_append_left hi, h5 i hi id]
    · by_cases hi2 : i < w'.heap.size
      · rw [Array.getElem?_append_right (by omega), Array.getElem?_extract, if_pos (by omega)]
        congr 1; omega
      · rw [Array.getElem?_eq_none (by omega), Array.getElem?_eq_none (by simp; omega)]
  have hd : w'.drawn = w.drawn + (w'.drawn - w.drawn) := by omega
  cases w
  cases w'
  simp only [Go.Sort.grow, World.drewN] at *
  subst h1 h2 h3
  rw [← hh, ← hd]
section
variable {α : Type} [Inhabited α]
theorem flatK_list {enc : α → List Value} {k : Nat} (hk : ∀ x, (enc x).length = k) (d : Array α) : (flatK enc k d).toList = d.toList.flatMap enc := by
  apply List.ext_getElem?
  intro t
  by_cases ht : t < d.size * k
  · have k0 : 0 < k := by rcases Nat.eq_zero_or_pos k with h | h; subst h; simp at ht; exact h
    have hq : t / k < d.size := (Nat.div_lt_iff_lt_mul k0).2 ht
    have hm := Nat.mod_lt t k0
    have hdm : t / k * k + t % k = t := by rw [Nat.mul_comm]; exact Nat.div_add_mod t k
    have h1 := flat_get hk d.toList (t / k) (t % k) hm
    rw [hdm] at h1
    rw [h1]
    have h2 : (flatK enc k d).toList[t]? = some ((flatK enc k d)[t]!) := by
      rw [Array.getElem?_toList, Array.getElem?_eq_getElem (by simpa using ht), getElem!_pos _ t (by simpa using ht)]
    rw [h2, get_flatK enc k d t ht, getElem!_pos d _ hq, getElem!_pos (enc d[t / k]) _ (by rw [hk]; exact hm)]
    rw [Array.getElem?_toList, Array.getElem?_eq_getElem hq, Option.bind_some, List.getElem?_eq_getElem (by rw [hk]; exact hm)]
  · rw [List.getElem?_eq_none (by simpa using ht), List.getElem?_eq_none (by rw [flat_len hk]; simpa using ht)]
theorem putRow_blk' {w : World} {b off : Nat} {d : Array Value} {cs : List Value} (h : blk w b = some cs) (hl : off + d.size ≤ cs.length) :
    ∃ cs', blk (putRow id w b off d) b = some cs' ∧ cs'.length = cs.length ∧ (cs'.drop off).take d.size = d.toList ∧ Ch (· = b) w (putRow id w b off d) := by
  unfold blk at h
  split at h
  · rename_i c e fz heq
    split at h
    case isFalse => cases h
    rename_i hfz
    have hc : c.toList = cs := by simpa using h
    subst hc
    have hsz : (putCells id off d c).size = c.size := by simp [putCells]
    refine ⟨(putCells id off d c).toList, ?_, by simp [putCells], ?_, ⟨rfl, rfl, rfl, by simp [putRow, mapBlock], fun x hx hne => ?_⟩⟩
    · unfold blk
      have : (putRow id w b off d).heap[b]? = some (.cells (putCells id off d c) e fz) := by
        simp only [putRow, mapBlock, Array.getElem?_modify, if_true, heq, Option.map_some, onCells]
      rw [this]
      simp only [hsz, if_pos hfz]
    · apply List.ext_getElem?
      intro k
      rw [List.getElem?_take]
      simp only [List.getElem?_drop, Array.getElem?_toList, putCells, Array.getElem?_mapIdx]
      by_cases hk : k < d.size
      · have h1 : off + k < c.size := by simp at hl; omega
        rw [if_pos hk, Array.getElem?_eq_getElem h1, Option.map_some, if_pos ⟨by omega, by omega⟩, show off + k - off = k by omega, getElem!_pos d k hk, Array.getElem?_eq_getElem hk]; rfl
      · rw [if_neg hk, Array.getElem?_eq_none (by omega)]
    · simp only [putRow, mapBlock, Array.getElem?_modify]
      rw [if_neg (fun e => hne e.symm)]
  · cases h
theorem sort_grow_ch {w : World} (os : Array Obj) : Ch (fun _ => False) w (Go.Sort.grow w os) :=
  ⟨rfl, rfl, rfl, by simp [Go.Sort.grow], fun b hb _ => by simp only [Go.Sort.grow]; rw [Array.getElem?_append_left hb]⟩
/-- sorted by a cmp that parts any two -/
def srtBy (cf : α → α → Int) (L : List α) : List α := L.mergeSort fun x y => !(ltOf cf) y x
omit [Inhabited α] in
theorem srtBy_perm (cf : α → α → Int) (L : List α) : (srtBy cf L).Perm L := List.mergeSort_perm ..
omit [Inhabited α] in
theorem srtBy_len (cf : α → α → Int) (L : List α) : (srtBy cf L).length = L.length := (srtBy_perm cf L).length_eq
omit [Inhabited α] in
theorem srtBy_sorted (cf : α → α → Int) (hO : SWO (ltOf cf)) (L : List α) : (srtBy cf L).Pairwise fun x y => ltOf cf y x = false := by
  have := List.pairwise_mergeSort (le := fun x y : α => !(ltOf cf) y x) (fun a b c h1 h2 => by
    simp only [Bool.not_eq_true'] at h1 h2 ⊢
    exact hO.ntrans c b a h2 h1) (fun a b => by
    cases h : ltOf cf b a
    · simp
    · cases h2 : ltOf cf a b
      · simp
      · have := hO.trans _ _ _ h h2
        rw [hO.irrefl] at this; cases this) L
  exact this.imp fun h => by simpa using h
theorem sortK_ok {P : Program} {ρ : Ren} (Ly : SlLaysF0.n6 P ρ) {k : Nat} (aE : ∀ w, (isAgg (ρ.t 24)).run P w = .ok true w) (zE : ∀ w, (Go.sizeOf (ρ.t 24)).run P w = .ok k w) {enc : α → List Value} (henc : ∀ x, (enc x).length = k) (h1 : ∀ x, ∀ v ∈ enc x, oneV v = true)
    {cf : α → α → Int} (hO : SWO (ltOf cf)) (hT : ∀ x y, (ltOf cf) x y = false → (ltOf cf) y x = false → x = y) {g : Nat} (eg : ∀ args w, (callFunc g args).run P w = .ok (.enter g args) w)
    (hcmp : ∀ (x y : α) (W : World), Calls P g #[.agg (enc x).toArray, .agg (enc y).toArray] W fun e w' => e = .returned (.int .i64 (cf x y)) ∧ Qt W w')
    {w : World} {p : Option Addr} {c : Nat} {b : Option Nat} {L : List α} (ho : Ow w p L.length c k (L.flatMap enc) b) (hk0 : 0 < k) (hL : L.length ≤ 2 ^ 40) {K : Value → World → Prop}
    (hK : ∀ w', Ow w' p L.length c k ((srtBy cf L).flatMap enc) b → Ch (fun j => b = some j) w w' → K (.tuple #[]) w') : callP P (ρ.f 6) [.slice p L.length c, .func (.func g) #[] #[]] w K := by
  by_cases h0 : L.length = 0
  · have : L = [] := List.eq_nil_of_length_eq_zero h0
    subst this
    have e0 : srtBy cf [] = [] := by simp [srtBy]
    rw [e0] at hK
    exact Calls.mono (AnyF.slices_SortFunc_none Ly p c (.func (.func g) #[] #[]) w) fun e w' ⟨he, hw⟩ => ⟨_, he, hw ▸ hK _ ho (Ch.refl _ _)⟩
  obtain ⟨g1, g2, g3⟩ := ho
  rcases g3 with ⟨_, g3⟩ | ⟨kb, o, cs, rfl, rfl, hbk, hl, ht⟩
  · have : L.length * k ≤ c * k := Nat.mul_le_mul_right _ g2
    have : 0 < L.length * k := Nat.mul_pos (by omega) hk0
    omega
  have hmul : L.length * k ≤ c * k := Nat.mul_le_mul_right _ g2
  have hH : HoldsK enc k w kb o L.toArray := fun j hj => by
    have hj' : j < L.length * k := by simpa using hj
    refine ⟨?_, frozen_blk hbk (by omega)⟩
    obtain ⟨v, hv⟩ : ∃ v, (L.flatMap enc)[j]? = some v := ⟨_, List.getElem?_eq_getElem (by rw [flat_len henc]; exact hj')⟩
    have e1 : (flatK enc k L.toArray)[j]! = v := by
      have h2 := flatK_list henc L.toArray
      have h3 : (flatK enc k L.toArray).toList[j]? = some v := by rw [h2]; exact hv
      rw [Array.getElem?_toList, Array.getElem?_eq_getElem hj] at h3
      rw [getElem!_pos _ j hj]
      exact Option.some.inj h3
    rw [← ht, List.getElem?_take, if_pos (by omega), List.getElem?_drop] at hv
    rw [cell_blk hbk, hv, e1]; rfl
  have gg := AnyQ.slices_SortFunc_total Ly k aE zE enc henc (fun x v hv => by rw [oneCell_of]; exact h1 x v hv) cf hO g #[] kb o c L.toArray w eg (fun m os dk _ x y => (hcmp x y _).mono fun e w' ⟨he, hq⟩ => ⟨he, hq.grow⟩) hH (blk_lt hbk) (by simp; omega) hT
  refine Calls.mono gg fun e w' ⟨he, n, os, hw⟩ => ⟨_, he, ?_⟩
  have hb2 : blk (Go.Sort.ahead w n) kb = some cs := hbk
  obtain ⟨R, hR⟩ : ∃ R, R = (L.toArray.toList.mergeSort fun x y => !(ltOf cf) y x).toArray := ⟨_, rfl⟩
  rw [← hR] at hw
  have hRl : R.toList = srtBy cf L := by rw [hR]; simp [srtBy]
  have hRs : R.size = L.length := by rw [← Array.length_toList, hRl, srtBy_len]
  obtain ⟨cs', q1, q2, q3, q4⟩ := putRow_blk' (off := o) (d := flatK enc k R) hb2 (by rw [size_flatK, hRs]; omega)
  have q5 := sort_grow_ch (w := putRowK enc k (Go.Sort.ahead w n) kb o R) os
  have hw2 : w' = Go.Sort.grow (putRowK enc k (Go.Sort.ahead w n) kb o R) os := hw
  rw [← hw2] at q5
  refine hK w' ⟨by rw [flat_len henc, srtBy_len], g2, .inr ⟨kb, o, cs', rfl, rfl, by rw [q5.blk (blk_lt q1) id]; exact q1, by omega, ?_⟩⟩ ((⟨rfl, rfl, rfl, Nat.le_refl _, fun _ _ _ => rfl⟩ : Ch (fun j => some kb = some j) w (Go.Sort.ahead w n)).trans' ((q4.mono fun x _ h => by rw [h]).trans' (q5.mono fun _ _ h => h.elim)))
  rw [size_flatK, hRs, flatK_list henc, hRl] at q3
  exact q3
end
end Go.Sv
namespace Go.Sv
open Go Go.Sort Go.RowKit
set_option linter.unusedVariables false
theorem putRow_blk {α : Type} [Inhabited α] {enc : α → Value} {w : World} {b off : Nat} {d : Array α} {cs : List Value} (h : blk w b = some cs) (hl : off + d.size ≤ cs.length) :
    ∃ cs', blk (putRow enc w b off d) b = some cs' ∧ cs'.length = cs.length ∧ (cs'.drop off).take d.size = d.toList.map enc ∧ Ch (· = b) w (putRow enc w b off d) := by
  unfold blk at h
  have hlt : b < w.heap.size := by
    cases hh : w.heap[b]? with
    | none => rw [hh] at h; cases h
    | some o => exact (Array.getElem?_eq_some_iff.1 hh).1
  split at h
  · rename_i c e fz heq
    split at h
    case isFalse => cases h
    rename_i hfz
    have hc : c.toList = cs := by simpa using h
    subst hc
    have hsz : (putCells enc off d c).size = c.size := by simp [putCells]
    refine ⟨(putCells enc off d c).toList, ?_, by simp [putCells], ?_, ⟨rfl, rfl, rfl, by simp [putRow, mapBlock], fun x hx hne => ?_⟩⟩
    · unfold blk
      have : (putRow enc w b off d).heap[b]? = some (.cells (putCells enc off d c) e fz) := by
        simp only [putRow, mapBlock, Array.getElem?_modify, if_true, heq, Option.map_some, onCells]
      rw [this]
      simp only [hsz, if_pos hfz]
    · apply List.ext_getElem?
      intro k
      rw [List.getElem?_take]
      simp only [List.getElem?_drop, Array.getElem?_toList, putCells, Array.getElem?_mapIdx, List.getElem?_map]
      by_cases hk : k < d.size
      · have h1 : off + k < c.size := by simp at hl; omega
        rw [if_pos hk, Array.getElem?_eq_getElem h1, Option.map_some, if_pos ⟨by omega, by omega⟩, show off + k - off = k by omega, getElem!_pos d k hk, Array.getElem?_eq_getElem hk]; rfl
      · rw [if_neg hk, Array.getElem?_eq_none (by omega)]; rfl
    · simp only [putRow, mapBlock, Array.getElem?_modify]
      rw [if_neg (fun e => hne e.symm)]
  · cases h
theorem stCells_seg : ∀ (vs : List Value) {w : World} {b o i : Nat} {cs : List Value} {K : World → Prop}, blk w b = some cs → o + i + vs.length ≤ cs.length → (∀ v ∈ vs, oneV v = true) →
    (∀ w', blk w' b = some (putSeg cs (o + i) vs) → Ch (· = b) w w' → w'.heap.size = w.heap.size → K w') → stCells w ⟨b, o, none⟩ vs i K
  | [], w, b, o, i, cs, K, h, _, _, hk => hk w (by rw [putSeg_nil]; exact h) (Ch.refl _ _) rfl
  | [v], w, b, o, i, cs, K, h, hl, h1, hk => by
    unfold stCells
    rw [h1 v (by simp), add_at]
    refine Sif_true ?_
    refine st_blk (o := o + i) h (by simp at hl; omega) fun w1 hb hc hz => hk w1 ?_ hc hz
    rw [← putSeg_cons cs (o + i) v [] (by simpa using hl), putSeg_nil]; exact hb
  | v :: u :: r, w, b, o, i, cs, K, h, hl, h1, hk => by
    unfold stCells
    rw [h1 v (by simp), add_at]
    refine Sif_true ?_
    refine st_blk (o := o + i) h (by simp at hl; omega) fun w1 hb hc hz => ?_
    refine stCells_seg (u :: r) hb (by simp at hl ⊢; omega) (fun x hx => h1 x (List.mem_cons_of_mem _ hx)) fun w2 hb2 hc2 hz2 => hk w2 ?_ (hc.trans' hc2) (by omega)
    rw [← putSeg_cons cs (o + i) v (u :: r) (by simp at hl ⊢; omega)]; exact hb2
theorem more_ahead {w : World} (n : Nat) : Ch (fun _ => False) w (Go.Sort.ahead w n) := ⟨rfl, rfl, rfl, Nat.le_refl _, fun _ _ _ => rfl⟩
theorem holdsI {w : World} {k o : Nat} {L : List Int} {cs : List Value} (hb : blk w k = some cs) (hl : o + L.length ≤ cs.length) (ht : (cs.drop o).take L.length = L.flatMap iC) : Holds (Value.int .i64) w k o L.toArray := by
  intro j hj
  have hj' : j < L.length := by simpa using hj
  refine ⟨?_, frozen_blk hb (by omega)⟩
  have h1 : (L.flatMap iC)[j]? = some (.int .i64 L[j]) := by rw [iC_flat, List.getElem?_map, List.getElem?_eq_getElem hj']; rfl
  rw [← ht, List.getElem?_take, if_pos hj', List.getElem?_drop] at h1
  rw [cell_blk hb, h1, getElem!_pos _ j hj]
  simp
/-- sorted numbers: the row behind slices.Sort -/
theorem sorted_row {w w' : World} {k o c n : Nat} {L : List Int} {cs : List Value} {os : Array Obj} (hbk : blk w k = some cs) (h2 : L.length ≤ c) (hl : o + c * 1 ≤ cs.length) (hw : w' = Go.Sort.grow (putRow (Value.int .i64) (Go.Sort.ahead w n) k o (L.mergeSort fun x y => decide (x ≤ y)).toArray) os) :
    Ow w' (some ⟨k, o, none⟩) L.length c 1 ((L.mergeSort fun x y => decide (x ≤ y)).flatMap iC) (some k) ∧ Ch (fun j => some k = some j) w w' := by
  have hb2 : blk (Go.Sort.ahead w n) k = some cs := hbk
  obtain ⟨cs', g1, g2, g3, g4⟩ := putRow_blk (enc := Value.int .i64) (off := o) (d := (L.mergeSort fun x y => decide (x ≤ y)).toArray) hb2 (by simp; omega)
  have g5 := sort_grow_ch (w := putRow (Value.int .i64) (Go.Sort.ahead w n) k o (L.mergeSort fun x y => decide (x ≤ y)).toArray) os
  rw [← hw] at g5
  refine ⟨⟨by rw [flat_len iC_len, List.length_mergeSort], h2, .inr ⟨k, o, cs', rfl, rfl, by rw [g5.blk (blk_lt g1) id]; exact g1, by omega, ?_⟩⟩, ((more_ahead n).mono fun _ _ h => h.elim).trans' ((g4.mono fun x _ h => by rw [h]).trans' (g5.mono fun _ _ h => h.elim))⟩
  have e2 : (L.mergeSort fun x y => decide (x ≤ y)).toArray.size = L.length := by simp
  rw [e2] at g3
  rw [iC_flat]
  simpa using g3
end Go.Sv
namespace Go.Proofs.YtipbbjnmpnfhpaaGreatDoor
open Go Go.Sv Go.Heap Go.Qu Go.MapKept
set_option linter.unusedVariables false
set_option maxRecDepth 4000
/-- a function that is asked of entries, one by one: J n Pr w: n have been asked, and none of the blocks Pr is its own -/
structure Asks (fv : Value) (fit : PE → Bool) (L : List PE) (J : Nat → (Nat → Prop) → World → Prop) : Prop where
  st : ∀ {n : Nat} {Pr Pr' : Nat → Prop} {w w' : World}, J n Pr w → Ch Pr w w' → (∀ b, Pr' b → Pr b ∨ w.heap.size ≤ b) → J n Pr' w'
  ask : ∀ {n : Nat} {x : PE} {Pr : Nat → Prop} {w : World} {y : Et} {K : Value → World → Prop}, L[n]? = some x → J n (fun b => Pr b ∨ y.own = some b) w → EtE.Ok w y → y.pe = x → (∀ b, y.own = some b → ¬ Pr b) → (∀ b, Pr b → b < w.heap.size) →
    (∀ w', J (n + 1) Pr w' → Ch (fun b => ¬ Pr b) w w' → K (.bool (fit x)) w') → callV Tryz.prog none fv [y.e.val] w K
/-- those passed are pushed back -/
theorem takeD_ok {w : World} {k kq qb : Nat} {cf : Cfg} {last : Int} {F H P : List Et} {p pp : Option Addr} {c pc : Nat} {own : Option Nat} {r : Nat} {K : World → Prop} (hbp : blk w k = some [.slice pp P.length pc]) (hbq : blk w kq = some [.pointer (some ⟨qb, 0, none⟩)]) (Q : QM w qb cf last F H p c own r)
    (hh : HeapFrom En.lt (atE (F.map (·.e))) F.length 0) (hn : F.length + P.length ≤ 2 ^ 30) (hrow : Rd w pp P.length 7 ((P.map (·.e)).flatMap En.cells)) (hrb : ∀ a, pp = some a → P.length * 7 ≠ 0 → a.block ∉ qbl qb r own F H) (hP : ∀ x ∈ P, EtE.Ok w x) (hnd : (eB P).Nodup) (hd : ∀ b ∈ eB P, b ∉ qbl qb r own F H) (hkq : kq ∉ qbl qb r own F H)
    (hk : ∀ w' F' p' c' own', F'.Perm (P ++ F) → HeapFrom En.lt (atE (F'.map (·.e))) F'.length 0 → QM w' qb cf last F' H p' c' own' r → (∀ b ∈ qbl qb r own' F' H, b ∈ qbl qb r own F H ∨ b ∈ eB P ∨ w.heap.size ≤ b) → Ch (fun b => b ∈ qbl qb r own F H) w w' → K w') :
    callD Tryz.prog 48 [.pointer (some ⟨k, 0, none⟩), .pointer (some ⟨kq, 0, none⟩)] w K := by
  refine takeD_of ?_
  unfold wp_queue_Queue_Take_1
  have ltq := Q.lt
  have ltP : ∀ b ∈ eB P, b < w.heap.size := fun b hb => by
    obtain ⟨x, hx, ho⟩ := mem_eB.1 hb
    exact (hP x hx).blt b ho
  rw [nn_some]
  refine ⟨_, _, _, by rw [cell_blk hbp]; rfl, ?_⟩
  refine ⟨fun m i w1 => ∃ (j : Nat) (Fj : List Et) (pj : Option Addr) (cj : Nat) (ownj : Option Nat), i = (j : Int) ∧ j ≤ P.length ∧ m = P.length - j ∧ Fj.Perm (P.take j ++ F) ∧ HeapFrom En.lt (atE (Fj.map (·.e))) Fj.length 0 ∧ QM w1 qb cf last Fj H pj cj ownj r ∧
      (∀ b ∈ qbl qb r ownj Fj H, b ∈ qbl qb r own F H ∨ b ∈ eB (P.take j) ∨ w.heap.size ≤ b) ∧ Ch (fun b => b ∈ qbl qb r own F H) w w1, ⟨P.length, 0, F, p, c, own, rfl, Nat.zero_le _, rfl, .refl _, hh, Q, fun b hb => .inl hb, Ch.refl _ _⟩, ?_⟩
  rintro m i w1 ⟨j, Fj, pj, cj, ownj, rfl, hj, rfl, hp, hheap, Qj, hsub, c1⟩
  refine Sif_cases (fun hlt => ?_) fun hge => ?_
  · have hlt : j < P.length := by
      have : (j : Int) < (P.length : Int) := by simpa using hlt
      omega
    obtain ⟨x, hx⟩ : ∃ x, P[j]? = some x := ⟨_, List.getElem?_eq_getElem hlt⟩
    have hxP := List.mem_of_getElem? hx
    have hxe : (P.map (·.e))[j]? = some x.e := by rw [List.getElem?_map, hx]; rfl
    obtain ⟨kb, o, hpp, hc⟩ := (hrow.ch c1 fun a ha h0 hb => hrb a ha h0 hb).at En.cells_len hxe (by decide)
    refine ⟨by omega, by omega, ?_⟩
    subst hpp
    simp only [nn_some, add_at, Int.toNat_natCast]
    refine ⟨_, hc 0 _ rfl, _, hc 1 _ rfl, _, hc 2 _ rfl, _, hc 3 _ rfl, _, hc 4 _ rfl, _, hc 5 _ rfl, _, _, _, hc 6 _ rfl, ?_⟩
    refine newE (e0 := En0) (e := x.e) fun w9 b9 c9 z9 => ?_
    have hq1 : blk w1 kq = some [.pointer (some ⟨qb, 0, none⟩)] := by rw [c1.blk (blk_lt hbq) hkq]; exact hbq
    have hq9 : blk w9.drew kq = some [.pointer (some ⟨qb, 0, none⟩)] := by rw [blk_drew, c9.blk (blk_lt hq1) id]; exact hq1
    have b9d : blk w9.drew w1.heap.size = some x.e.cells := by simpa using b9
    have c9d := c9.trans' (Ch.drew w9)
    have Q9 := Qj.ch c9d fun _ _ => id
    have hxB : ∀ b ∈ EtE.B x, b ∈ eB P := fun b hb => mem_eB.2 ⟨x, hxP, by simpa [EtE, Option.mem_toList] using hb⟩
    have hx9 : EtE.Ok w9.drew x := EtE.ch (EtE.ch (hP x hxP) c1 fun b hb h => hd b (hxB b hb) h) c9d fun _ _ => id
    refine ⟨_, by rw [cell_blk hq9]; rfl, ?_⟩
    simp only [nn_some, add_at, Nat.zero_add]
    have hFl : Fj.length = j + F.length := by rw [hp.length_eq, List.length_append, List.length_take]; omega
    have hsplit : P = P.take j ++ x :: P.drop (j + 1) := by
      obtain ⟨g1, g2⟩ := List.getElem?_eq_some_iff.1 hx
      rw [← g2, List.getElem_cons_drop g1, List.take_append_drop]
    refine rdN b9d (qpush_ok Q9 hheap (by omega) hx9 (fun b hb hq => ?_) fun w10 F' p' c' own' hp' hheap' Q10 hsub' c10 => ⟨rfl, ?_⟩)
    · rcases hsub b hq with q | q | q
      · exact hd b (hxB b hb) q
      · rw [hsplit, eB_app, eB_cons] at hnd
        exact (List.nodup_append.1 hnd).2.2 b q b (List.mem_append_left _ hb) rfl
      · have := ltP b (hxB b hb); omega
    · have hin : ∀ b, ownj = some b ∨ b = qb → b ∈ qbl qb r ownj Fj H := fun b hb => by
        rcases hb with hb | hb
        · exact mem_qbl.2 (.inr (.inr (.inl hb)))
        · exact mem_qbl.2 (.inl hb)
      have hsz := c1.size
      refine ⟨P.length - (j + 1), by omega, j + 1, F', p', c', own', by rw [wrap_id (by omega) (by omega)]; rfl, hlt, rfl, ?_, hheap', Q10, fun b hb => ?_, (c1.new c9d).trans c10 fun b hb h => ?_⟩
      · rw [List.take_add_one, hx]
        refine hp'.trans ((hp.cons x).trans ?_)
        show (x :: (P.take j ++ F)).Perm ((P.take j ++ [x]) ++ F)
        rw [List.append_assoc]
        exact List.perm_middle.symm
      · rw [List.take_add_one, hx, eB_app]
        rcases hsub' b hb with q | q | q
        · rcases hsub b q with q | q | q
          · exact .inl q
          · exact .inr (.inl (List.mem_append_left _ q))
          · exact .inr (.inr q)
        · refine .inr (.inl (List.mem_append_right _ ?_))
          show b ∈ eB [x]
          rw [eB_cons]; exact List.mem_append_left _ q
        · have := c9d.size; exact .inr (.inr (by omega))
      · rcases h with h | h
        · have : b ∈ qbl qb r ownj Fj H := mem_qbl.2 (.inr (.inr (.inl h)))
          rcases hsub b this with q | q | q
          · exact q
          · -- the row's block is no data block of those passed
            exfalso
            have hbF : b ∉ eB (Fj ++ H) := Qj.ne_oe b h
            apply hbF
            rw [eB_app]
            refine List.mem_append_left _ ?_
            rw [(eB_perm hp).mem_iff, eB_app]
            exact List.mem_append_left _ q
          · omega
        · rw [h]; exact mem_qbl.2 (.inl rfl)
  · have hje : j = P.length := by
      have : ¬ (j : Int) < (P.length : Int) := by simpa using hge
      omega
    subst hje
    rw [List.take_length] at hp hsub
    exact hk w1 Fj pj cj ownj hp hheap Qj hsub c1
def takeN (A : AQ) (h : Int) (fit : PE → Bool) : Nat := if h < 1 then 0 else (asked fit A.frees).length
/-- while a search goes on -/
structure TS (w w4 : World) (qb : Nat) (A : AQ) (fit : PE → Bool) (F H P F' : List Et) (p pp : Option Addr) (c pc : Nat) (own po : Option Nat) (r : Nat) : Prop where
  perm : F.Perm (P ++ F')
  ord : A.frees = P.map Et.pe ++ ordered (F'.map Et.pe)
  nof : ∀ x ∈ P, fit x.pe = false
  heap : HeapFrom En.lt (atE (F'.map (·.e))) F'.length 0
  q : QM w4 qb A.cf A.last F' H p c own r
  ba : blk w4 w.heap.size = some [.pointer (some ⟨qb, 0, none⟩)]
  b1 : ∃ e : En, blk w4 (w.heap.size + 1) = some e.cells
  b2 : blk w4 (w.heap.size + 2) = some [.slice pp P.length pc]
  row : Ow w4 pp P.length pc 7 ((P.map (·.e)).flatMap En.cells) po
  pon : ∀ b, po = some b → w.heap.size + 3 ≤ b
  dat : ∀ x ∈ P, EtE.Ok w4 x
def TPr (n0 qb r : Nat) (own po : Option Nat) (F' H P : List Et) (b : Nat) : Prop := b ∈ qbl qb r own F' H ∨ b ∈ eB P ∨ b = n0 ∨ b = n0 + 1 ∨ b = n0 + 2 ∨ po = some b
section
variable {w w4 w5 : World} {qb : Nat} {A : AQ} {fit : PE → Bool} {F H P F' : List Et} {p pp : Option Addr} {c pc : Nat} {own po : Option Nat} {r : Nat}
theorem TS.lt (T : TS w w4 qb A fit F H P F' p pp c pc own po r) : ∀ b, TPr w.heap.size qb r own po F' H P b → b < w4.heap.size := by
  rintro b (h | h | h | h | h | h)
  · exact T.q.lt b h
  · obtain ⟨x, hx, ho⟩ := mem_eB.1 h; exact (T.dat x hx).blt b ho
  · rw [h]; exact blk_lt T.ba
  · obtain ⟨e, he⟩ := T.b1; rw [h]; exact blk_lt he
  · rw [h]; exact blk_lt T.b2
  · exact T.row.blt b h
theorem TS.ch {S : Nat → Prop} (T : TS w w4 qb A fit F H P F' p pp c pc own po r) (cc : Ch S w4 w5) (hs : ∀ b, TPr w.heap.size qb r own po F' H P b → ¬ S b) : TS w w5 qb A fit F H P F' p pp c pc own po r := by
  obtain ⟨e, he⟩ := T.b1
  exact ⟨T.perm, T.ord, T.nof, T.heap, T.q.ch cc fun b hb => hs b (.inl hb), by rw [cc.blk (blk_lt T.ba) (hs _ (.inr (.inr (.inl rfl))))]; exact T.ba, ⟨e, by rw [cc.blk (blk_lt he) (hs _ (.inr (.inr (.inr (.inl rfl)))))]; exact he⟩, by rw [cc.blk (blk_lt T.b2) (hs _ (.inr (.inr (.inr (.inr (.inl rfl))))))]; exact T.b2,
    T.row.ch cc fun b hb => hs b (.inr (.inr (.inr (.inr (.inr hb))))), T.pon, fun x hx => EtE.ch (T.dat x hx) cc fun b hb => hs b (.inr (.inl (mem_eB.2 ⟨x, hx, by simpa [EtE, Option.mem_toList] using hb⟩)))⟩
end
end Go.Proofs.YtipbbjnmpnfhpaaGreatDoor
namespace Go.Proofs.YtipbbjnmpnfhpaaGreatDoor
open Go Go.Sv Go.Heap Go.Qu Go.MapKept
set_option linter.unusedVariables false
set_option maxRecDepth 4000
theorem qtakef_ok {w : World} {qb : Nat} {A : AQ} {B : Nat → Prop} {h : Int} {fn : Fn} {fa fc : Array Value} {fit : PE → Bool} {J : Nat → (Nat → Prop) → World → Prop} {K : Value → World → Prop} (Q : QK w qb A B) (As : Asks (.func fn fa fc) fit A.frees J) (hJ : J 0 B w)
    (hno : (A.take h fit).1 = none → ∀ w' B', QK w' qb (A.take h fit).2 B' → J (takeN A h fit) B' w' → K (.tuple #[Ez.e.val, .bool false]) w')
    (hyes : ∀ y, (A.take h fit).1 = some y → ∀ x : Et, x.pe = y → ∀ w' B', QK w' qb (A.take h fit).2 B' → EtE.Ok w' x → (∀ b, x.own = some b → ¬ B' b) → J (takeN A h fit) (fun b => B' b ∨ x.own = some b) w' → K (.tuple #[x.e.val, .bool true]) w') :
    callP Tryz.prog 18 [.pointer (some ⟨qb, 0, none⟩), .int .i64 h, .func fn fa fc] w K := by
  have hQ0 := Q
  have hW := Q.wf.take h fit
  obtain ⟨wf, F, H, p, c, own, r, M, E, rfl⟩ := Q
  have hlen := E.len
  have hwl := wf.len
  have hm2 := wf.most2
  have old := M.lt
  refine ok_queue_Queue_Take_f ?_
  unfold wp_queue_Queue_Take_f
  refine newB_blk fun w1 b1 c1 z1 => newB_blk fun w2 b2 c2 z2 => ?_
  have b12 : blk w2 w.heap.size = some [.pointer (some ⟨qb, 0, none⟩)] := by rw [c2.blk (blk_lt b1) id]; exact b1
  have b2 : blk w2 (w.heap.size + 1) = some Ez.e.cells := by rw [← z1]; exact b2
  have c02 := c1.trans' c2
  simp only [add_at, Nat.zero_add, z1]
  refine Sif_cases (fun hh => ?_) fun hh => ?_
  · have hh : h < 1 := by simpa using hh
    have e1 : A.take h fit = (none, A) := by unfold AQ.take; rw [if_pos hh]
    have e2 : takeN A h fit = 0 := by unfold takeN; rw [if_pos hh]
    rw [e1, e2] at hno
    refine reN (e := Ez.e) b2 fun w3 b3 c3 z3 => rdN b3 ?_
    have c03 : Ch (fun _ => False) w w3 := c02.trans c3 fun x hx h => by omega
    exact hno rfl w3 _ (hQ0.ch c03 fun _ _ => id) (As.st hJ (c03.mono fun _ _ h => h.elim) fun b hb => .inl hb)
  have hh : ¬ h < 1 := by simpa using hh
  refine newB_blk fun w3 b3 c3 z3 => ?_
  have z2' : w2.heap.size = w.heap.size + 2 := by omega
  simp only [z2']
  rw [z2'] at b3
  have c03 := c02.trans' c3
  have T3 : TS w w3 qb A fit F H [] F p none c 0 own none r := ⟨.refl _, by rw [List.map_nil, List.nil_append]; exact (E.frees wf (ordered_sorted (by rw [List.map_map]; exact E.ndf wf)) (ordered_perm _)).symm, fun x hx => by simp at hx, E.heap, M.ch c03 fun _ _ => id, by rw [c3.blk (blk_lt b12) id]; exact b12, ⟨_, by rw [c3.blk (blk_lt b2) id]; exact b2⟩, b3, by simpa using Ow.nil, fun b hb => (by cases hb), fun x hx => by simp at hx⟩
  refine ⟨fun m w4 => ∃ (P F' : List Et) (pp : Option Addr) (pc : Nat) (po : Option Nat), m = F'.length ∧ TS w w4 qb A fit F H P F' p pp c pc own po r ∧ J P.length (TPr w.heap.size qb r own po F' H P) w4, ⟨F.length, [], F, none, 0, none, rfl, T3, As.st hJ (c03.mono fun _ _ h => h.elim) fun b hb => ?_⟩, ?_⟩
  · rcases hb with q | q | q | q | q | q
    · exact .inl q
    · simp [eB] at q
    · exact .inr (by omega)
    · exact .inr (by omega)
    · exact .inr (by omega)
    · cases q
  rintro m w4 ⟨P, F', pp, pc, po, rfl, T, hJ4⟩
  have hpl := T.perm.length_eq
  rw [List.length_append] at hpl
  have hpe : (F ++ H).Perm (P ++ (F' ++ H)) := by rw [← List.append_assoc]; exact T.perm.append_right H
  have hndE : (eB P ++ eB (F' ++ H)).Nodup := by rw [← eB_app, ← (eB_perm hpe).nodup_iff]; exact M.ndE
  have hsubP : ∀ b ∈ eB P, b ∈ eB (F ++ H) := fun b hb => by rw [(eB_perm hpe).mem_iff, eB_app]; exact List.mem_append_left _ hb
  have hsubF : ∀ b ∈ eB (F' ++ H), b ∈ eB (F ++ H) := fun b hb => by rw [(eB_perm hpe).mem_iff, eB_app]; exact List.mem_append_right _ hb
  have hqs : ∀ b ∈ qbl qb r own F' H, b ∈ qbl qb r own F H := fun b hb => by
    rcases mem_qbl.1 hb with q | q | q | q
    · exact mem_qbl.2 (.inl q)
    · exact mem_qbl.2 (.inr (.inl q))
    · exact mem_qbl.2 (.inr (.inr (.inl q)))
    · exact mem_qbl.2 (.inr (.inr (.inr (hsubF b q))))
  have hPq : ∀ b ∈ eB P, b ∉ qbl qb r own F' H := fun b hb hq => by
    have h1 := hsubP b hb
    rcases mem_qbl.1 hq with q | q | q | q
    · exact M.ne_qe (q ▸ h1)
    · exact M.ne_re (q ▸ h1)
    · exact M.ne_oe b q h1
    · exact (List.nodup_append.1 hndE).2.2 b hb b q rfl
  have olde : ∀ b ∈ eB P, b < w.heap.size := fun b hb => old b (mem_qbl.2 (.inr (.inr (.inr (hsubP b hb)))))
  refine ⟨_, by rw [cell_blk T.ba]; rfl, ?_⟩
  simp only [nn_some, add_at, Nat.zero_add]
  refine ⟨_, _, _, T.q.cell rfl, Sif_cases (fun hn => ?_) fun hn => ?_⟩
  rotate_left
  · -- none fits
    have h0 : F' = [] := by
      have : ¬ (F'.length : Int) > 0 := by simpa using hn
      exact List.eq_nil_of_length_eq_zero (by omega)
    have hfr : A.frees = P.map Et.pe := by rw [T.ord, h0]; simp [ordered]
    have hall : ∀ x ∈ P.map Et.pe, fit x = false := fun x hx => by
      obtain ⟨y, hy, rfl⟩ := List.mem_map.1 hx; exact T.nof y hy
    have e1 : A.take h fit = (none, A) := by
      unfold AQ.take
      rw [if_neg hh, hfr, List.find?_eq_none.2 fun x hx => by rw [hall x hx]; simp]
    have e2 : takeN A h fit = P.length := by
      unfold takeN
      have := asked_app (S := []) hall
      rw [List.append_nil] at this
      rw [if_neg hh, hfr, this]; simp [asked]
    rw [e1, e2] at hno
    obtain ⟨e0, he0⟩ := T.b1
    refine reN (e := Ez.e) he0 fun w5 b5 c5 z5 => ?_
    have Q5 := T.q.ch c5 fun b hb he => by have := old b (hqs b hb); omega
    have hba5 : blk w5 w.heap.size = some [.pointer (some ⟨qb, 0, none⟩)] := by rw [c5.blk (blk_lt T.ba) (by omega)]; exact T.ba
    have hb25 : blk w5 (w.heap.size + 2) = some [.slice pp P.length pc] := by rw [c5.blk (blk_lt T.b2) (by omega)]; exact T.b2
    have hrow5 := T.row.ch c5 fun b hb he => by have := T.pon b hb; omega
    refine takeD_ok hb25 hba5 Q5 T.heap (by omega) hrow5.rd (fun a ha h0 hb => ?_) (fun x hx => EtE.ch (T.dat x hx) c5 fun b hb he => by have := olde b (mem_eB.2 ⟨x, hx, by simpa [EtE, Option.mem_toList] using hb⟩); omega) (List.nodup_append.1 hndE).1 hPq (fun hb => by have := old _ (hqs _ hb); omega) fun w6 F2 p2 c2' own2 hp2 hheap2 Q6 hsub6 c6 => ?_
    · obtain ⟨_, q2, q3⟩ := hrow5
      rcases q3 with ⟨_, q3⟩ | ⟨k, o', cs', q5, q6, _⟩
      · have : P.length * 7 ≤ pc * 7 := Nat.mul_le_mul_right _ q2
        omega
      · rw [q6] at ha; cases ha
        have := T.pon k q5
        have := old k (hqs k hb)
        omega
    · have b6 : blk w6 (w.heap.size + 1) = some Ez.e.cells := by rw [c6.blk (blk_lt b5) fun hb => by have := old _ (hqs _ hb); omega]; exact b5
      refine rdN b6 ?_
      have hF2 : F2.Perm F := hp2.trans T.perm.symm
      have c46 : Ch (TPr w.heap.size qb r own po F' H P) w4 w6 := (c5.mono fun b _ h => .inr (.inr (.inr (.inl h)))).trans' (c6.mono fun b _ h => .inl h)
      refine hno rfl w6 _ ⟨wf, F2, H, p2, c2', own2, r, Q6, ⟨hheap2, ((hF2.append_right H).map Et.pe).trans E.perm, fun x hx => E.free x (hF2.mem_iff.1 hx), E.held⟩, rfl⟩ (As.st hJ4 c46 fun b hb => ?_)
      rcases hsub6 b hb with q | q | q
      · exact .inl (.inl q)
      · exact .inl (.inr (.inl q))
      · exact .inr (by omega)
  have hF0 : F' ≠ [] := fun e => by rw [e] at hn; simp at hn
  refine ⟨_, by rw [cell_blk T.ba]; rfl, ?_⟩
  rw [nn_some, add_at, Nat.zero_add]
  refine qpop_ok T.q T.heap (by omega) hF0 fun w5 F1 x hp hmin hheap1 M5 hx5 hxB hsub5 c5 => ⟨_, rfl, en_assert ?_⟩
  have hin : ∀ b, own = some b ∨ b = qb → b ∈ qbl qb r own F' H := fun b h => by
    rcases h with h | h
    · exact mem_qbl.2 (.inr (.inr (.inl h)))
    · exact mem_qbl.2 (.inl h)
  have hndF' : (F'.map fun x : Et => x.e.seq).Nodup := by
    have h1 := E.ndf wf
    rw [(T.perm.map fun x : Et => x.e.seq).nodup_iff, List.map_append] at h1
    exact (List.nodup_append.1 h1).2.1
  have hord : A.frees = P.map Et.pe ++ x.pe :: ordered (F1.map Et.pe) := by rw [T.ord, ordered_min hndF' hp hmin]
  have hpn : ∀ y ∈ P.map Et.pe, fit y = false := fun y hy => by
    obtain ⟨z, hz, rfl⟩ := List.mem_map.1 hy; exact T.nof z hz
  have hF1 : F.Perm (P ++ x :: F1) := T.perm.trans (hp.append_left P)
  have hl1 : F'.length = F1.length + 1 := by rw [hp.length_eq]; rfl
  have k0 : ∀ b, w.heap.size ≤ b → ¬ (own = some b ∨ b = qb) := fun b hb h => by have := old b (hqs b (hin b h)); omega
  have ba5 : blk w5 w.heap.size = some [.pointer (some ⟨qb, 0, none⟩)] := by rw [c5.blk (blk_lt T.ba) (k0 _ (Nat.le_refl _))]; exact T.ba
  obtain ⟨e0, he0⟩ := T.b1
  have b15 : blk w5 (w.heap.size + 1) = some e0.cells := by rw [c5.blk (blk_lt he0) (k0 _ (by omega))]; exact he0
  have b25 : blk w5 (w.heap.size + 2) = some [.slice pp P.length pc] := by rw [c5.blk (blk_lt T.b2) (k0 _ (by omega))]; exact T.b2
  have row5 := T.row.ch c5 fun b hb => k0 b (by have := T.pon b hb; omega)
  have dat5 : ∀ y ∈ P, EtE.Ok w5 y := fun y hy => EtE.ch (T.dat y hy) c5 fun b hb h => hPq b (mem_eB.2 ⟨y, hy, by simpa [EtE, Option.mem_toList] using hb⟩) (hin b h)
  refine newE (e0 := En0) (e := x.e) fun w6 b6 c6 z6 => ?_
  obtain ⟨Pr5, hPr5⟩ : ∃ Pr5 : Nat → Prop, Pr5 = fun b => TPr w.heap.size qb r own po F' H P b ∨ b = w5.heap.size := ⟨_, rfl⟩
  have lt4 := T.lt
  have s5 := c5.size
  have hxq : ∀ b ∈ EtE.B x, b ∈ qbl qb r own F' H := fun b hb => (hxB b hb).1
  refine ⟨fun v => fit x.pe = false ∧ QM v qb A.cf A.last F1 H p c own r ∧ blk v w.heap.size = some [.pointer (some ⟨qb, 0, none⟩)] ∧ (∃ e : En, blk v (w.heap.size + 1) = some e.cells) ∧ blk v (w.heap.size + 2) = some [.slice pp P.length pc] ∧ Ow v pp P.length pc 7 ((P.map (·.e)).flatMap En.cells) po ∧ (∀ y ∈ P, EtE.Ok v y) ∧ EtE.Ok v x ∧ blk v w5.heap.size = some x.e.cells ∧ J (P.length + 1) Pr5 v, ?_, ?_⟩
  · -- passed
    rintro v ⟨hf, Qv, bav, ⟨ev, b1v⟩, b2v, rowv, datv, hxv, b5v, hJv⟩
    simp only [add_at, Nat.zero_add]
    refine ⟨_, _, _, by rw [cell_blk b2v]; rfl, rdN b5v ?_⟩
    have hPl : (P.map (·.e)).length = P.length := List.length_map ..
    have rowv' := rowv
    rw [← hPl] at rowv' ⊢
    refine push_ok (g := En.cells) (sz := 7) (bytes := 72) Tryz.underlying24 entry_info rfl En.cells_len En.cells_one rowv' x.e (by rw [hPl]; omega) (by rw [hPl]; omega) fun p' c' b' w16 o16 n16 c16 => ?_
    have e1 : (List.map (·.e) P ++ [x.e]) = (P ++ [x]).map (·.e) := by simp
    have e2 : ((P ++ [x]).map (·.e)).length = (P ++ [x]).length := List.length_map ..
    rw [e1, e2] at o16
    rw [e1, e2]
    have b216 : blk w16 (w.heap.size + 2) = some [.slice pp (P.map (·.e)).length pc] := by rw [hPl, c16.blk (blk_lt b2v) fun hb => by have := T.pon _ hb; omega]; exact b2v
    refine st_blk b216 (by simp) fun w17 b17 c17 z17 => ⟨F1.length, by omega, P ++ [x], F1, p', c', b', rfl, ?_, ?_⟩
    · have big : ∀ b ∈ eB P, b < w.heap.size := olde
      have Q17 := (Qv.ch c16 fun b hb h => by have := old b (hqs b (hsub5 b hb)); have := T.pon b h; omega).ch c17 fun b hb h => by have := old b (hqs b (hsub5 b hb)); omega
      have kp : ∀ b cs, b < w.heap.size + 2 → w.heap.size ≤ b → blk v b = some cs → blk w17 b = some cs := fun b cs hb hb2 h => by
        have h16 : blk w16 b = some cs := by rw [c16.blk (blk_lt h) fun h' => by have := T.pon _ h'; omega]; exact h
        rw [c17.blk (blk_lt h16) (by omega)]; exact h16
      have hvs : w.heap.size + 3 ≤ v.heap.size := by have := blk_lt b2v; omega
      refine ⟨hF1.trans (by rw [List.append_assoc]; exact .refl _), by rw [hord, List.map_append, List.append_assoc]; rfl, fun y hy => ?_, hheap1, Q17, kp _ _ (by omega) (Nat.le_refl _) bav, ⟨ev, kp _ _ (by omega) (by omega) b1v⟩, b17, o16.ch c17 fun b hb h => ?_, fun b hb => ?_, fun y hy => ?_⟩
      · rcases List.mem_append.1 hy with hy | hy
        · exact T.nof y hy
        · rw [List.mem_singleton.1 hy]; exact hf
      · rcases n16 b hb with q | q
        · have := T.pon b q; omega
        · omega
      · rcases n16 b hb with q | q
        · exact T.pon b q
        · omega
      · have hyv : EtE.Ok v y := by
          rcases List.mem_append.1 hy with hy | hy
          · exact datv y hy
          · rw [List.mem_singleton.1 hy]; exact hxv
        have hyb : ∀ b ∈ EtE.B y, b < w.heap.size := fun b hb => by
          rcases List.mem_append.1 hy with hy | hy
          · exact olde b (mem_eB.2 ⟨y, hy, by simpa [EtE, Option.mem_toList] using hb⟩)
          · rw [List.mem_singleton.1 hy] at hb; exact old b (hqs b (hxq b hb))
        exact EtE.ch (EtE.ch hyv c16 fun b hb h => by have := hyb b hb; have := T.pon b h; omega) c17 fun b hb h => by have := hyb b hb; omega
    · have e3 : (P ++ [x]).length = P.length + 1 := by simp
      rw [e3]
      refine As.st hJv ((c16.mono fun b _ h => ?_).trans' (c17.mono fun b _ h => ?_)) fun b hb => ?_
      · rw [hPr5]; exact .inl (.inr (.inr (.inr (.inr (.inr h)))))
      · rw [hPr5]; exact .inl (.inr (.inr (.inr (.inr (.inl h)))))
      · rw [hPr5]
        rcases hb with q | q | q | q | q | q
        · exact .inl (.inl (.inl (hsub5 b q)))
        · rw [eB_app] at q
          rcases List.mem_append.1 q with q | q
          · exact .inl (.inl (.inr (.inl q)))
          · refine .inl (.inl (.inl (hxq b ?_)))
            obtain ⟨z, hz, ho⟩ := mem_eB.1 q
            rw [List.mem_singleton.1 hz] at ho
            simpa [EtE, Option.mem_toList] using ho
        · exact .inl (.inl (.inr (.inr (.inl q))))
        · exact .inl (.inl (.inr (.inr (.inr (.inl q)))))
        · exact .inl (.inl (.inr (.inr (.inr (.inr (.inl q))))))
        · rcases n16 b q with z | z
          · exact .inl (.inl (.inr (.inr (.inr (.inr (.inr z))))))
          · exact .inr z
  -- it is asked of
  have hx6 : EtE.Ok w6 x := EtE.ch hx5 c6 fun _ _ => id
  have b6' : blk w6 w5.heap.size = some x.e.cells := b6
  simp only [add_at, Nat.zero_add]
  have hxF : x ∈ F := hF1.mem_iff.2 (List.mem_append_right _ (by simp))
  have hok : EOk x.pe := wf.ok _ (E.all (List.mem_append_left H hxF))
  have hxn : x.e.n ≤ 2 ^ 46 := by
    have h1 := hok.len
    have h2 : x.pe.l.length = x.e.n := EtE.len hx6
    omega
  refine rdN b6' (own_ok (e := x.e) hx6.rd hxn fun w7 y hy hyp hyn c7 => isE ?_)
  have c47 : Ch (TPr w.heap.size qb r own po F' H P) w4 w7 := (c5.mono fun b _ h => .inl (hin b h)).trans' ((c6.mono fun _ _ h => h.elim).trans' (c7.mono fun _ _ h => h.elim))
  have hJ7 : J P.length (fun b => Pr5 b ∨ y.own = some b) w7 := As.st hJ4 c47 fun b hb => by
    rw [hPr5] at hb
    rcases hb with (q | q) | q
    · exact .inl q
    · exact .inr (by omega)
    · have := hyn b q; exact .inr (by have := c5.size; have := c6.size; omega)
  have s7 := c7.size
  have hyp' : y.pe = x.pe := hyp
  refine As.ask (n := P.length) (x := x.pe) (by rw [hord, List.getElem?_append_right (by simp)]; simp) hJ7 hy hyp' (fun b hb hp5 => ?_) (fun b hb => ?_) fun w8 hJ8 c8 => ⟨_, rfl, ?_⟩
  · rw [hPr5] at hp5
    have := hyn b hb
    rcases hp5 with q | q
    · have := lt4 b q; omega
    · omega
  · rw [hPr5] at hb
    rcases hb with q | q
    · have := lt4 b q; omega
    · omega
  have c57 : Ch (fun _ => False) w5 w7 := c6.trans' c7
  have np : ∀ b, Pr5 b → ¬ ¬ Pr5 b := fun b h k => k h
  have pr : ∀ b, TPr w.heap.size qb r own po F' H P b → Pr5 b := fun b h => by rw [hPr5]; exact .inl h
  have Q8 : QM w8 qb A.cf A.last F1 H p c own r := (M5.ch c57 fun _ _ => id).ch c8 fun b hb => np b (pr b (.inl (hsub5 b hb)))
  have kp8 : ∀ b cs, Pr5 b → blk w5 b = some cs → blk w8 b = some cs := fun b cs hb h => by
    have h7 : blk w7 b = some cs := by rw [c57.blk (blk_lt h) id]; exact h
    rw [c8.blk (blk_lt h7) (np b hb)]; exact h7
  have ba8 := kp8 _ _ (pr _ (.inr (.inr (.inl rfl)))) ba5
  have b18 := kp8 _ _ (pr _ (.inr (.inr (.inr (.inl rfl))))) b15
  have b28 := kp8 _ _ (pr _ (.inr (.inr (.inr (.inr (.inl rfl)))))) b25
  have row8 := (row5.ch c57 fun _ _ => id).ch c8 fun b hb => np b (pr b (.inr (.inr (.inr (.inr (.inr hb))))))
  have dat8 : ∀ z ∈ P, EtE.Ok w8 z := fun z hz => EtE.ch (EtE.ch (dat5 z hz) c57 fun _ _ => id) c8 fun b hb => np b (pr b (.inr (.inl (mem_eB.2 ⟨z, hz, by simpa [EtE, Option.mem_toList] using hb⟩))))
  have hx8 : EtE.Ok w8 x := EtE.ch (EtE.ch hx6 c7 fun _ _ => id) c8 fun b hb => np b (pr b (.inl (hxq b hb)))
  have b58 : blk w8 w5.heap.size = some x.e.cells := by
    have h7 : blk w7 w5.heap.size = some x.e.cells := by rw [c7.blk (blk_lt b6') id]; exact b6'
    rw [c8.blk (blk_lt h7) (np _ (by rw [hPr5]; exact .inr rfl))]; exact h7
  refine Sif_cases (fun hf => ?_) fun hf => ⟨hf, Q8, ba8, ⟨_, b18⟩, b28, row8, dat8, hx8, b58, hJ8⟩
  -- it fits
  have e1 : A.take h fit = (some { x.pe with hold := h }, { A with L := setHold x.pe.seq h A.L }) := by
    unfold AQ.take
    rw [if_neg hh, hord, find_app hpn, List.find?_cons, hf]
  have e2 : takeN A h fit = P.length + 1 := by
    unfold takeN
    rw [if_neg hh, hord, asked_app hpn, asked, if_pos hf]; simp
  rw [e1, e2] at hyes
  rw [e1] at hW
  refine st_blk b58 (by simp [En.cells]) fun w9 b9 c9 z9 => ?_
  have b9d : blk w9.drew w5.heap.size = some (x.setH h).e.cells := b9
  have c9d : Ch (· = w5.heap.size) w8 w9.drew := c9.trans' (Ch.drew w9)
  have hw5 : w.heap.size + 3 ≤ w5.heap.size := by have := blk_lt b25; omega
  have kp9 : ∀ b cs, b ≠ w5.heap.size → blk w8 b = some cs → blk w9.drew b = some cs := fun b cs hb h => by rw [c9d.blk (blk_lt h) hb]; exact h
  have ba9 := kp9 _ _ (by omega) ba8
  have b19 := kp9 _ _ (by omega) b18
  have b29 := kp9 _ _ (by omega) b28
  have Q9 := Q8.ch c9d fun b hb he => by have := old b (hqs b (hsub5 b hb)); omega
  have hx9 : EtE.Ok w9.drew (x.setH h) := EtE.ch hx8 c9d fun b hb he => by have := old b (hqs b (hxq b hb)); omega
  have lt5w : ∀ b, po = some b → b < w5.heap.size := fun b hb => row5.blt b hb
  have row9 := row8.ch c9d fun b hb he => by have := lt5w b hb; omega
  have dat9 : ∀ z ∈ P, EtE.Ok w9.drew z := fun z hz => EtE.ch (dat8 z hz) c9d fun b hb he => by have := olde b (mem_eB.2 ⟨z, hz, by simpa [EtE, Option.mem_toList] using hb⟩); omega
  refine ⟨_, by rw [cell_blk ba9]; rfl, ?_⟩
  simp only [nn_some, add_at, Nat.zero_add]
  refine ⟨_, Q9.cell rfl, _, by rw [cell_blk b9d]; rfl, rdN b9d ?_⟩
  have hnd := E.ndq wf
  have hpe2 : (F ++ H).Perm (x :: (P ++ F1 ++ H)) := (hF1.append_right H).trans (by rw [List.append_assoc]; exact List.perm_middle.trans (by rw [List.append_assoc]; exact .refl _))
  rw [(hpe2.map _).nodup_iff, List.map_cons] at hnd
  obtain ⟨w10, hrun, Q10, hsub10, c10⟩ := Q9.add (x := x.setH h) hx9 (fun b hb => (hxB b hb).2) fun z hz e => (List.nodup_cons.1 hnd).1 (List.mem_map.2 ⟨z, List.mem_append_right _ hz, e⟩)
  refine ⟨w10, hrun, ?_⟩
  have hr : r < w.heap.size := old r (mem_qbl.2 (.inr (.inl rfl)))
  have kp10 : ∀ b cs, w.heap.size ≤ b → blk w9.drew b = some cs → blk w10 b = some cs := fun b cs hb h => by rw [c10.blk (blk_lt h) (by omega)]; exact h
  refine rdN (kp10 _ _ (by omega) b9d) ?_
  have hx10 : EtE.Ok w10 (x.setH h) := Q10.dat _ (by simp)
  refine own_ok (e := (x.setH h).e) hx10.rd hxn fun w11 z hz hzp hzn c11 => isE ?_
  have kp11 : ∀ b cs, w.heap.size ≤ b → blk w9.drew b = some cs → blk w11 b = some cs := fun b cs hb h => by rw [c11.blk (blk_lt (kp10 b cs hb h)) id]; exact kp10 b cs hb h
  refine reN (e := z.e) (kp11 _ _ (by omega) b19) fun w12 b12' c12 z12 => ?_
  have s8 : w8.heap.size = w9.drew.heap.size := by show _ = w9.heap.size; omega
  have s8w : w.heap.size + 2 < w8.heap.size := blk_lt b28
  have s10 := c10.size
  have s11 := c11.size
  have c1112 : Ch (fun b => b = w.heap.size + 1) w10 w12 := (c11.mono fun _ _ h => h.elim).trans' c12
  have hq10 : ∀ b ∈ qbl qb r own F1 (x.setH h :: H), b ∈ qbl qb r own F' H := fun b hb => by
    rcases hsub10 b hb with q | q
    · exact hsub5 b q
    · exact hxq b q
  have Q12 := Q10.ch c1112 fun b hb he => by have := old b (hqs b (hq10 b hb)); omega
  have row12 := (row9.ch c10 fun b hb he => by have := T.pon b hb; omega).ch c1112 fun b hb he => by have := T.pon b hb; omega
  have dat12 : ∀ u ∈ P, EtE.Ok w12 u := fun u hu => by
    have hub : ∀ b ∈ EtE.B u, b ∈ eB P := fun b hb => mem_eB.2 ⟨u, hu, by simpa [EtE, Option.mem_toList] using hb⟩
    exact EtE.ch (EtE.ch (dat9 u hu) c10 fun b hb he => hPq b (hub b hb) (he ▸ mem_qbl.2 (.inr (.inl rfl)))) c1112 fun b hb he => by have := olde b (hub b hb); omega
  have ba12 : blk w12 w.heap.size = some [.pointer (some ⟨qb, 0, none⟩)] := by rw [c12.blk (blk_lt (kp11 _ _ (Nat.le_refl _) ba9)) (by omega)]; exact kp11 _ _ (Nat.le_refl _) ba9
  have b212 : blk w12 (w.heap.size + 2) = some [.slice pp P.length pc] := by rw [c12.blk (blk_lt (kp11 _ _ (by omega) b29)) (by omega)]; exact kp11 _ _ (by omega) b29
  refine takeD_ok b212 ba12 Q12 hheap1 (by omega) row12.rd (fun a ha h0 hb => ?_) dat12 (List.nodup_append.1 hndE).1 (fun b hb hq => hPq b hb (hq10 b hq)) (fun hb => by have := old _ (hqs _ (hq10 _ hb)); omega) fun w13 F2 p2 c2' own2 hp2 hheap2 Q13 hsub13 c13 => ?_
  · obtain ⟨_, q2, q3⟩ := row12
    rcases q3 with ⟨_, q3⟩ | ⟨k, o', cs', q5, q6, _⟩
    · have : P.length * 7 ≤ pc * 7 := Nat.mul_le_mul_right _ q2
      omega
    · rw [q6] at ha; cases ha
      have := T.pon k q5
      have := old k (hqs k (hq10 k hb))
      omega
  have b113 : blk w13 (w.heap.size + 1) = some z.e.cells := by rw [c13.blk (blk_lt b12') fun hb => by have := old _ (hqs _ (hq10 _ hb)); omega]; exact b12'
  refine rdN b113 ?_
  have hz12 : EtE.Ok w12 z := EtE.ch hz c12 fun b hb he => by have := hzn b (by simpa [EtE, Option.mem_toList] using hb); omega
  have hzb : ∀ b, z.own = some b → w10.heap.size ≤ b ∧ b < w12.heap.size := fun b hb => ⟨hzn b hb, hz12.blt b hb⟩
  have hz13 : EtE.Ok w13 z := EtE.ch hz12 c13 fun b hb hq => by
    have h1 := hzb b (by simpa [EtE, Option.mem_toList] using hb)
    have h2 := old b (hqs b (hq10 b hq))
    omega
  have hFx : F.Perm (x :: F2) := hF1.trans (List.perm_middle.trans (hp2.symm.cons x))
  refine hyes _ rfl z hzp w13 (fun b => b ∈ qbl qb r own2 F2 (x.setH h :: H)) ⟨hW, F2, _, p2, c2', own2, r, Q13, E.took (P := []) (F2 := []) wf hFx (by omega) hheap2, rfl⟩ hz13 (fun b hb hq => ?_) (As.st hJ8 ?_ fun b hb => ?_)
  · have h1 := hzb b hb
    rcases hsub13 b hq with q | q | q
    · have := old b (hqs b (hq10 b q)); omega
    · have := olde b q; omega
    · omega
  · have hP5 : ∀ b, TPr w.heap.size qb r own po F' H P b → Pr5 b := pr
    refine ((((c9d.mono fun b _ h => ?_).trans' (c10.mono fun b _ h => ?_)).trans' (c11.mono fun _ _ h => h.elim)).trans' (c12.mono fun b _ h => ?_)).trans' (c13.mono fun b _ h => ?_)
    · rw [hPr5]; exact .inr h
    · exact hP5 b (.inl (h ▸ mem_qbl.2 (.inr (.inl rfl))))
    · exact hP5 b (.inr (.inr (.inr (.inl h))))
    · exact hP5 b (.inl (hq10 b h))
  · rcases hb with hb | hb
    · rcases hsub13 b hb with q | q | q
      · exact .inl (pr b (.inl (hq10 b q)))
      · exact .inl (pr b (.inr (.inl q)))
      · exact .inr (by have := c12.size; omega)
    · exact .inr (by have := (hzb b hb).1; omega)
end Go.Proofs.YtipbbjnmpnfhpaaGreatDoor
namespace Go.Qu
set_option linter.unusedVariables false
/-- where an entry is put: behind those that are ahead of it -/
def placeP (x : PE) : List PE → Nat
  | [] => 0
  | y :: l => if y.lt x = true then placeP x l + 1 else 0
theorem placeP_le (x : PE) : ∀ L, placeP x L ≤ L.length
  | [] => Nat.le_refl _
  | y :: l => by
    unfold placeP; split
    · have := placeP_le x l; simp; omega
    · simp
theorem insP_place (x : PE) : ∀ L, insP x L = L.take (placeP x L) ++ x :: L.drop (placeP x L)
  | [] => rfl
  | y :: l => by
    unfold insP placeP
    split
    · rw [insP_place x l]; simp
    · simp
/-- the place is found by going on while what is there is ahead -/
theorem placeP_of (x : PE) : ∀ (L : List PE) (k : Nat), (∀ j y, j < k → L[j]? = some y → y.lt x = true) → (∀ y, L[k]? = some y → y.lt x = false) → k ≤ L.length → placeP x L = k
  | [], k, _, _, hk => by simp at hk; subst hk; rfl
  | y :: l, 0, _, h2, _ => by
    unfold placeP
    rw [if_neg (by rw [h2 y (by simp)]; simp)]
  | y :: l, k + 1, h1, h2, hk => by
    unfold placeP
    rw [if_pos (h1 0 y (by omega) (by simp)), placeP_of x l k (fun j z hj hz => h1 (j + 1) z (by omega) (by simpa using hz)) (fun z hz => h2 z (by simpa using hz)) (by simp at hk; omega)]
theorem ordered_snoc (L : List PE) (x : PE) : ordered (L ++ [x]) = insP x (ordered L) := by unfold ordered; rw [List.foldl_append]; rfl
/-- the place of the entry of a Seq -/
def AQ.at (A : AQ) (q : Int) : Option Nat := A.L.findIdx? fun e => decide (e.seq = q)
/-- those that a search asks of a list; the first that fits -/
def askedH (fit : PE → Bool) (L : List PE) : List PE := asked fit (L.filter isFree)
end Go.Qu
