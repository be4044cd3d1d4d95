/-
  The queue: an entry in memory of its own. A queue, plain: its entries as they are, their order, what each call answers. Over every program. Lists that are their owner's: each is grown, element by element, and kept; at the end each reads as its owner wrote it. Over every program. Lists in memory of their own, of elements that hold blocks of their own: how they lie, that they are grown. Lists of bytes, lists of these, lists of these. Over every program. A queue in memory: its free row, its map of those that are held, each entry's bytes of its own. A queue in memory that holds what a plain queue holds. Entries that are read, written, boxed; own: an entry in memory of its own. Numbers in a row. Over every program.
-/
import Derived.Test.YtipbbjnmpnfhpaaGreatDoorPr5
namespace Go.Proofs.YtipbbjnmpnfhpaaGreatDoor
open Go Go.Sv
set_option linter.unusedVariables false
set_option maxRecDepth 4000
theorem qoct_info : InfoIs Tryz.prog 5 1 1 (.int .u8 0) := .of (by kernel_rfl) (by kernel_rfl) (by kernel_rfl)
theorem qclone_ok {s : Option Addr} {n c : Nat} {w : World} {K : Value → World → Prop} {l : List UInt8} (h : Rd w s n 1 (bytesV l)) (hn : n ≤ 2 ^ 46)
    (hk : ∀ p' c' w' b', Ow w' p' n c' 1 (bytesV l) b' → (∀ k, b' = some k → w.heap.size ≤ k) → Ch (fun _ => False) w w' → K (.slice p' n c') w') : callP Tryz.prog 53 [.slice s n c] w K := by
  refine ok_bytes_Clone ?_
  unfold wp_bytes_Clone
  have hl : l.length = n := by have := h.1; simpa using this
  refine Sif_cases (fun hs => ?_) fun hs => ?_
  · have hs' : s = none := by simpa using hs
    subst hs'
    have h0 : n = 0 := by
      rcases h.2 with h | ⟨b, o, cs, hp, _⟩
      · omega
      · cases hp
    subst h0
    exact hk none 0 w none ⟨by simpa using hl, Nat.le_refl _, .inl ⟨rfl, rfl⟩⟩ (fun k hk => by cases hk) (Ch.refl _ _)
  · refine newB_blk fun w1 hb1 hc1 hz1 => ?_
    have hr : Rd w1 s n 1 (bytesV l) := h.ch hc1 fun _ _ _ => id
    have ho : Ow w1 (some ⟨w.heap.size, 0, none⟩) 0 0 1 [] (some w.heap.size) := ⟨rfl, Nat.le_refl _, .inr ⟨w.heap.size, 0, [], rfl, rfl, hb1, by simp, by simp⟩⟩
    obtain ⟨p', c', w', b', h1, h2, h3, h4, _⟩ := append_rd (ty := 32) (c2 := c) Tryz.underlying32 Tryz.underlying32 qoct_info rfl ho hr (bytesV_one l) (by omega) (by omega)
    rw [Nat.zero_add] at h1 h2
    refine ⟨p', n, c', w', h1, hk p' c' w' b' h2 (fun k hk => ?_) (hc1.trans h4 fun x _ hx => by cases hx; omega)⟩
    rcases h3 k hk with h3 | h3
    · cases h3; exact Nat.le_refl _
    · omega
end Go.Proofs.YtipbbjnmpnfhpaaGreatDoor
namespace Go.Qu
set_option linter.unusedVariables false
/-- an entry, as it is -/
structure PE where
  seq : Int
  pri : Int
  exp : Int
  dur : Bool
  cnt : Int
  hold : Int
  l : List UInt8
def PE.lt (a b : PE) : Bool := decide (b.pri < a.pri) || (decide (a.pri = b.pri) && decide (a.seq < b.seq))
theorem PE.irr (a : PE) : a.lt a = false := by unfold PE.lt; simp
theorem PE.as {a b : PE} (h : a.lt b = true) : b.lt a = false := by
  unfold PE.lt at *
  simp only [Bool.or_eq_true, Bool.and_eq_true, decide_eq_true_eq, Bool.or_eq_false_iff, Bool.and_eq_false_iff, decide_eq_false_iff_not] at *
  omega
theorem PE.tr {a b c : PE} (h : a.lt b = true) (k : b.lt c = true) : a.lt c = true := by
  unfold PE.lt at *
  simp only [Bool.or_eq_true, Bool.and_eq_true, decide_eq_true_eq] at *
  omega
theorem PE.tri {a b : PE} (h : a.seq ≠ b.seq) (k : a.lt b = false) : b.lt a = true := by
  unfold PE.lt at *
  simp only [Bool.or_eq_true, Bool.and_eq_true, decide_eq_true_eq, Bool.or_eq_false_iff, Bool.and_eq_false_iff, decide_eq_false_iff_not] at *
  omega
/-- what is sorted by a strict order is sorted in one way alone -/
theorem sorted_one {α : Type} {r : α → α → Prop} (asy : ∀ a b, r a b → ¬ r b a) : ∀ {L M : List α}, L.Pairwise r → M.Pairwise r → L.Perm M → L = M
  | [], M, _, _, h => (List.Perm.nil_eq h)
  | x :: L, [], _, _, h => absurd h.length_eq (by simp)
  | x :: L, y :: M, hL, hM, h => by
    obtain ⟨h1, h2⟩ := List.pairwise_cons.1 hL
    obtain ⟨k1, k2⟩ := List.pairwise_cons.1 hM
    have e : x = y := by
      rcases List.mem_cons.1 (h.mem_iff.1 (List.mem_cons_self (a := x) (l := L))) with e | e
      · exact e
      · rcases List.mem_cons.1 (h.mem_iff.2 (List.mem_cons_self (a := y) (l := M))) with e2 | e2
        · exact e2.symm
        · exact absurd (k1 x e) (asy _ _ (h1 y e2))
    subst e
    rw [sorted_one asy h2 k2 h.cons_inv]
abbrev Sorted (L : List PE) : Prop := L.Pairwise fun a b => a.lt b = true
theorem Sorted.one {L M : List PE} (h : Sorted L) (k : Sorted M) (p : L.Perm M) : L = M := sorted_one (fun a b h k => by rw [PE.as h] at k; cases k) h k p
/-- an entry behind those that are ahead of it -/
def insP (x : PE) : List PE → List PE
  | [] => [x]
  | y :: l => if y.lt x = true then y :: insP x l else x :: y :: l
def ordered (L : List PE) : List PE := L.foldl (fun acc x => insP x acc) []
theorem insP_perm (x : PE) : ∀ L, (insP x L).Perm (x :: L)
  | [] => .refl _
  | y :: l => by
    unfold insP; split
    · exact ((insP_perm x l).cons y).trans (.swap ..)
    · exact .refl _
theorem insP_sorted {x : PE} : ∀ {L : List PE}, Sorted L → (∀ y ∈ L, y.seq ≠ x.seq) → Sorted (insP x L)
  | [], _, _ => by simp [insP, Sorted]
  | y :: l, h, hn => by
    obtain ⟨h1, h2⟩ := List.pairwise_cons.1 h
    unfold insP; split
    · rename_i hy
      refine List.pairwise_cons.2 ⟨fun z hz => ?_, insP_sorted h2 fun z hz => hn z (List.mem_cons_of_mem _ hz)⟩
      rcases List.mem_cons.1 ((insP_perm x l).mem_iff.1 hz) with e | e
      · rw [e]; exact hy
      · exact h1 z e
    · rename_i hy
      have hy : x.lt y = true := PE.tri (hn y (by simp)) (by simpa using hy)
      refine List.pairwise_cons.2 ⟨fun z hz => ?_, h⟩
      rcases List.mem_cons.1 hz with e | e
      · rw [e]; exact hy
      · exact PE.tr hy (h1 z e)
theorem foldIns_perm : ∀ (L acc : List PE), (L.foldl (fun acc x => insP x acc) acc).Perm (acc ++ L)
  | [], acc => by simp
  | x :: L, acc => by
    rw [List.foldl_cons]
    refine (foldIns_perm L _).trans ?_
    have h1 := (insP_perm x acc).append_right L
    exact h1.trans (by rw [List.cons_append]; exact List.perm_middle.symm)
theorem foldIns_sorted : ∀ (L acc : List PE), Sorted acc → (∀ x ∈ L, ∀ y ∈ acc, y.seq ≠ x.seq) → (L.map (·.seq)).Nodup → Sorted (L.foldl (fun acc x => insP x acc) acc)
  | [], acc, h, _, _ => h
  | x :: L, acc, h, hn, hd => by
    rw [List.map_cons] at hd
    obtain ⟨d1, d2⟩ := List.nodup_cons.1 hd
    rw [List.foldl_cons]
    refine foldIns_sorted L _ (insP_sorted h fun y hy => hn x (by simp) y hy) (fun z hz y hy => ?_) d2
    rcases List.mem_cons.1 ((insP_perm x acc).mem_iff.1 hy) with e | e
    · rw [e]; exact fun e2 => d1 (List.mem_map.2 ⟨z, hz, e2.symm⟩)
    · exact hn z (List.mem_cons_of_mem _ hz) y e
theorem ordered_perm (L : List PE) : (ordered L).Perm L := by simpa [ordered] using foldIns_perm L []
theorem ordered_sorted {L : List PE} (h : (L.map (·.seq)).Nodup) : Sorted (ordered L) := foldIns_sorted L [] .nil (fun _ _ _ h => by simp at h) h
theorem ordered_eq {L M : List PE} (h : (L.map (·.seq)).Nodup) (hM : Sorted M) (p : M.Perm L) : M = ordered L := hM.one (ordered_sorted h) (p.trans (ordered_perm L).symm)
theorem ordered_filter {L M : List PE} (f : PE → Bool) (h : (L.map (·.seq)).Nodup) (hM : Sorted M) (p : M.Perm (L.filter f)) : M = (ordered L).filter f :=
  hM.one ((ordered_sorted h).filter f) (p.trans ((ordered_perm L).filter f).symm)

/-- with what a queue is made -/
structure Cfg where
  name : ByteArray
  most : Int
  dead : ByteArray
  tries : Int
  dur : Bool
/-- a queue -/
structure AQ where
  cf : Cfg
  L : List PE
  last : Int
structure EOk (e : PE) : Prop where
  seq : 1 ≤ e.seq
  pri0 : 0 ≤ e.pri
  pri9 : e.pri ≤ 9
  exp0 : -1 ≤ e.exp
  exp1 : e.exp ≤ 1125899906842624
  cnt0 : 0 ≤ e.cnt
  cnt1 : e.cnt ≤ 4294967295
  hold : 0 ≤ e.hold
  len : e.l.length ≤ 1048576
structure WQ (A : AQ) : Prop where
  most1 : 1 ≤ A.cf.most
  most2 : A.cf.most ≤ 4096
  tries0 : 0 ≤ A.cf.tries
  tries1 : A.cf.tries ≤ 4294967295
  asc : A.L.Pairwise fun a b => a.seq < b.seq
  ok : ∀ e ∈ A.L, EOk e
  last : ∀ e ∈ A.L, e.seq ≤ A.last
  len : (A.L.length : Int) ≤ A.cf.most
  lo : 0 ≤ A.last
  hi : A.last ≤ 9223372036854775807
theorem asc_nodup {L : List PE} (h : L.Pairwise fun a b => a.seq < b.seq) : (L.map (·.seq)).Nodup := by
  unfold List.Nodup
  rw [List.pairwise_map]
  exact h.imp fun h e => by omega
theorem WQ.nd {A : AQ} (h : WQ A) : (A.L.map (·.seq)).Nodup := asc_nodup h.asc
def isFree (e : PE) : Bool := decide (e.hold = 0)
def putBad (A : AQ) (e : PE) : Prop := e.seq ≤ A.last ∨ e.seq < 1 ∨ e.pri < 0 ∨ 9 < e.pri ∨ e.exp < -1 ∨ 1125899906842624 < e.exp ∨ e.cnt < 0 ∨ 4294967295 < e.cnt ∨ e.hold ≠ 0
instance (A : AQ) (e : PE) : Decidable (putBad A e) := by unfold putBad; infer_instance
def AQ.put (A : AQ) (e : PE) : Int × AQ :=
  if putBad A e then (171, A) else if 1048576 < e.l.length then (2, A) else if A.cf.most ≤ (A.L.length : Int) then (170, A) else (0, { A with L := A.L ++ [e], last := e.seq })
def setHold (q h : Int) (L : List PE) : List PE := L.map fun x => if x.seq = q then { x with hold := h } else x
/-- those that are asked, up to the first that fits -/
def asked (fit : PE → Bool) : List PE → List PE
  | [] => []
  | x :: l => if fit x = true then [x] else x :: asked fit l
def AQ.frees (A : AQ) : List PE := (ordered A.L).filter isFree
def AQ.take (A : AQ) (h : Int) (fit : PE → Bool) : Option PE × AQ :=
  if h < 1 then (none, A) else match A.frees.find? fit with
    | none => (none, A)
    | some x => (some { x with hold := h }, { A with L := setHold x.seq h A.L })
def AQ.later (A : AQ) (behind : Int) : List PE := (A.L.filter fun e => decide (behind < e.seq)).filter isFree
def AQ.peek (A : AQ) (behind : Int) (fit : PE → Bool) : Option PE := (A.later behind).find? fit
def AQ.find (A : AQ) (q : Int) : Option PE := A.L.find? fun e => decide (e.seq = q)
def delQ (q : Int) (L : List PE) : List PE := L.filter fun x => decide (x.seq ≠ q)
def setE (y : PE) (L : List PE) : List PE := L.map fun x => if x.seq = y.seq then y else x
def failE (failed : Bool) (x : PE) : PE := { x with hold := 0, cnt := if failed = true then min (x.cnt + 1) 4294967295 else x.cnt }
def deadE (cf : Cfg) (failed : Bool) (y : PE) : Bool := failed && decide (0 < cf.tries) && decide (cf.tries ≤ y.cnt)
def AQ.back (A : AQ) (q h : Int) (failed : Bool) : Option (PE × Bool) × AQ :=
  match A.find q with
  | none => (none, A)
  | some x => if h < 1 ∨ x.hold ≠ h then (none, A) else
      if deadE A.cf failed (failE failed x) = true then (some (failE failed x, true), { A with L := delQ q A.L }) else (some (failE failed x, false), { A with L := setE (failE failed x) A.L })
def AQ.remove (A : AQ) (q h : Int) : Option PE × AQ :=
  match A.find q with
  | none => (none, A)
  | some x => if x.hold ≠ h then (none, A) else (some x, { A with L := delQ q A.L })
def has (h : Int) (e : PE) : Bool := decide (1 ≤ h) && decide (e.hold = h)
def AQ.release (A : AQ) (h : Int) : List Int × AQ := ((A.L.filter (has h)).map (·.seq), { A with L := A.L.map fun x => if has h x = true then { x with hold := 0 } else x })
def over (now : Int) (e : PE) : Bool := decide (0 ≤ e.exp) && decide (e.exp ≤ now)
def AQ.expire (A : AQ) (now : Int) : List PE × AQ := (A.frees.filter (over now), { A with L := A.L.filter fun e => !(isFree e && over now e) })
theorem find_mem {A : AQ} {q : Int} {x : PE} (h : A.find q = some x) : x ∈ A.L ∧ x.seq = q := ⟨List.mem_of_find?_eq_some h, by simpa using List.find?_some h⟩
theorem find_of {A : AQ} (W : WQ A) {x : PE} (h : x ∈ A.L) : A.find x.seq = some x := by
  cases e : A.find x.seq with
  | none =>
    have := List.find?_eq_none.1 e x h
    simp at this
  | some y =>
    obtain ⟨h1, h2⟩ := find_mem e
    rw [Sv.inj_of_nodup W.nd h1 h h2]
/-! ### What a queue keeps to, kept -/
theorem WQ.map {A : AQ} (W : WQ A) (f : PE → PE) (hs : ∀ x ∈ A.L, (f x).seq = x.seq) (ho : ∀ x ∈ A.L, EOk (f x)) : WQ { A with L := A.L.map f } :=
  ⟨W.most1, W.most2, W.tries0, W.tries1, by
    rw [List.pairwise_map]
    exact List.Pairwise.imp_of_mem (fun {a b} ha hb h => by rw [hs a ha, hs b hb]; exact h) W.asc, fun e he => by
    obtain ⟨x, hx, rfl⟩ := List.mem_map.1 he; exact ho x hx, fun e he => by
    obtain ⟨x, hx, rfl⟩ := List.mem_map.1 he
    rw [hs x hx]; exact W.last x hx, by simpa using W.len, W.lo, W.hi⟩
theorem WQ.filter {A : AQ} (W : WQ A) (f : PE → Bool) : WQ { A with L := A.L.filter f } :=
  ⟨W.most1, W.most2, W.tries0, W.tries1, W.asc.filter _, fun e he => W.ok e (List.mem_filter.1 he).1, fun e he => W.last e (List.mem_filter.1 he).1, by
    have := List.length_filter_le f A.L
    have := W.len
    show ((A.L.filter f).length : Int) ≤ A.cf.most
    omega, W.lo, W.hi⟩
theorem put_eok {A : AQ} {e : PE} (h : ¬ putBad A e) (hl : ¬ 1048576 < e.l.length) : EOk e := by
  unfold putBad at h
  exact ⟨by omega, by omega, by omega, by omega, by omega, by omega, by omega, by omega, by omega⟩
theorem WQ.put {A : AQ} (W : WQ A) {e : PE} (hi : e.seq ≤ 9223372036854775807) : WQ (A.put e).2 := by
  unfold AQ.put
  split
  · exact W
  · rename_i hb
    split
    · exact W
    · rename_i hl
      split
      · exact W
      · rename_i hm
        have hb' : ¬ e.seq ≤ A.last := fun h => hb (.inl h)
        refine ⟨W.most1, W.most2, W.tries0, W.tries1, ?_, fun x hx => ?_, fun x hx => ?_, ?_, ?_, hi⟩
        · refine List.pairwise_append.2 ⟨W.asc, List.pairwise_singleton .., fun a ha b hb2 => ?_⟩
          rw [List.mem_singleton.1 hb2]
          have := W.last a ha
          omega
        · rcases List.mem_append.1 hx with hx | hx
          · exact W.ok x hx
          · rw [List.mem_singleton.1 hx]; exact put_eok hb hl
        · show x.seq ≤ e.seq
          rcases List.mem_append.1 hx with hx | hx
          · have := W.last x hx; omega
          · rw [List.mem_singleton.1 hx]; exact Int.le_refl _
        · show ((A.L ++ [e]).length : Int) ≤ A.cf.most
          rw [List.length_append, List.length_singleton]
          omega
        · have := W.lo
          show 0 ≤ e.seq
          omega
theorem EOk.setH {e : PE} (h : EOk e) {k : Int} (hk : 0 ≤ k) : EOk { e with hold := k } := ⟨h.seq, h.pri0, h.pri9, h.exp0, h.exp1, h.cnt0, h.cnt1, hk, h.len⟩
theorem EOk.fail {e : PE} (h : EOk e) (f : Bool) : EOk (failE f e) := by
  have h1 := h.cnt0
  have h2 := h.cnt1
  refine ⟨h.seq, h.pri0, h.pri9, h.exp0, h.exp1, ?_, ?_, Int.le_refl _, h.len⟩ <;> unfold failE <;> dsimp only <;> split <;> omega
theorem WQ.setH {A : AQ} (W : WQ A) (q : Int) {h : Int} (hh : 0 ≤ h) : WQ { A with L := setHold q h A.L } := by
  refine W.map _ (fun x hx => ?_) fun x hx => ?_
  · split <;> rfl
  · split
    · exact (W.ok x hx).setH hh
    · exact W.ok x hx
theorem WQ.setE {A : AQ} (W : WQ A) {y : PE} (hy : EOk y) : WQ { A with L := setE y A.L } := by
  refine W.map _ (fun x hx => ?_) fun x hx => ?_
  · split
    · rename_i h; exact h.symm
    · rfl
  · split
    · exact hy
    · exact W.ok x hx
theorem WQ.del {A : AQ} (W : WQ A) (q : Int) : WQ { A with L := delQ q A.L } := W.filter _
theorem WQ.take {A : AQ} (W : WQ A) (h : Int) (fit : PE → Bool) : WQ (A.take h fit).2 := by
  unfold AQ.take
  split
  · exact W
  · split
    · exact W
    · exact W.setH _ (by omega)
theorem WQ.back {A : AQ} (W : WQ A) (q h : Int) (f : Bool) : WQ (A.back q h f).2 := by
  unfold AQ.back
  split
  · exact W
  · rename_i x hx
    split
    · exact W
    · split
      · exact W.del _
      · exact W.setE ((W.ok x (find_mem hx).1).fail f)
theorem WQ.remove {A : AQ} (W : WQ A) (q h : Int) : WQ (A.remove q h).2 := by
  unfold AQ.remove
  split
  · exact W
  · split
    · exact W
    · exact W.del _
theorem WQ.release {A : AQ} (W : WQ A) (h : Int) : WQ (A.release h).2 := by
  refine W.map _ (fun x hx => ?_) fun x hx => ?_
  · split <;> rfl
  · split
    · exact (W.ok x hx).setH (Int.le_refl _)
    · exact W.ok x hx
theorem WQ.expire {A : AQ} (W : WQ A) (now : Int) : WQ (A.expire now).2 := W.filter _
/-- what does not bear a number is not touched -/
theorem map_one {f : PE → PE} {x : PE} : ∀ {L : List PE}, (L.map (·.seq)).Nodup → x ∈ L → (∀ y, y.seq ≠ x.seq → f y = y) → ∀ {R : List PE}, L.Perm (x :: R) → (L.map f).Perm (f x :: R) := fun {L} hn hx hf {R} hp => by
  have h := hp.map f
  rw [List.map_cons] at h
  refine h.trans (.of_eq ?_)
  congr 1
  have hn2 : ((x :: R).map (·.seq)).Nodup := by rw [← (hp.map _).nodup_iff]; exact hn
  rw [List.map_cons] at hn2
  have h3 := (List.nodup_cons.1 hn2).1
  have h4 : R.map f = R.map id := List.map_congr_left fun y hy => hf y fun e => h3 (List.mem_map.2 ⟨y, hy, e⟩)
  rw [h4, List.map_id]
theorem filter_one {x : PE} {L : List PE} (hn : (L.map (·.seq)).Nodup) {R : List PE} (hp : L.Perm (x :: R)) : (delQ x.seq L).Perm R := by
  have h := hp.filter fun y => decide (y.seq ≠ x.seq)
  have hn2 : ((x :: R).map (·.seq)).Nodup := by rw [← (hp.map _).nodup_iff]; exact hn
  rw [List.map_cons] at hn2
  have h3 := (List.nodup_cons.1 hn2).1
  rw [List.filter_cons, if_neg (by simp)] at h
  refine h.trans (.of_eq ?_)
  exact List.filter_eq_self.2 fun y hy => by
    have : y.seq ≠ x.seq := fun e => h3 (List.mem_map.2 ⟨y, hy, e⟩)
    simpa using this
/-! ### The first in the queue's order -/
theorem ordered_head {L : List PE} (hn : (L.map (·.seq)).Nodup) {x : PE} (hx : x ∈ L) (hm : ∀ y ∈ L, y.lt x = false) : ∃ t, ordered L = x :: t := by
  have hs := ordered_sorted hn
  have hp := ordered_perm L
  cases e : ordered L with
  | nil => rw [e] at hp; exact absurd (hp.mem_iff.2 hx) (by simp)
  | cons h t =>
    rw [e] at hp hs
    obtain ⟨h1, h2⟩ := List.pairwise_cons.1 hs
    rcases List.mem_cons.1 (hp.mem_iff.2 hx) with q | q
    · exact ⟨t, by rw [q]⟩
    · have h3 := h1 x q
      rw [hm h (hp.mem_iff.1 (by simp))] at h3
      cases h3
/-- the first that came of those of the highest priority, up to place n -/
structure Best (L : List PE) (n : Nat) (b : Int) : Prop where
  emp : b < 0 → n = 0
  low : -1 ≤ b
  has : 0 ≤ b → b.toNat < n ∧ ∃ x, L[b.toNat]? = some x ∧ (∀ m y, m < n → L[m]? = some y → y.pri ≤ x.pri) ∧ ∀ m y, m < b.toNat → L[m]? = some y → y.pri < x.pri
theorem Best.zero (L : List PE) : Best L 0 (-1) := ⟨fun _ => rfl, by omega, fun h => by omega⟩
theorem Best.step {L : List PE} {n : Nat} {b : Int} {y : PE} (h : Best L n b) (hy : L[n]? = some y) (hb : b < 0 ∨ ∃ x, L[b.toNat]? = some x ∧ x.pri < y.pri) : Best L (n + 1) (n : Int) := by
  refine ⟨fun h => by omega, by omega, fun _ => ⟨by omega, y, by simpa using hy, fun m z hm hz => ?_, fun m z hm hz => ?_⟩⟩
  · by_cases e : m = n
    · subst e; rw [hy] at hz; cases hz; omega
    · rcases hb with hb | ⟨x, hx, hlt⟩
      · have := h.emp hb; omega
      · have hb0 : 0 ≤ b := by
          rcases (by omega : b < 0 ∨ 0 ≤ b) with hb0 | hb0
          · have := h.emp hb0; omega
          · exact hb0
        obtain ⟨_, x', hx', h3, _⟩ := h.has hb0
        rw [hx] at hx'; cases hx'
        have := h3 m z (by omega) hz
        omega
  · have hm : m < n := by simpa using hm
    rcases hb with hb | ⟨x, hx, hlt⟩
    · have := h.emp hb; omega
    · have hb0 : 0 ≤ b := by
        rcases (by omega : b < 0 ∨ 0 ≤ b) with hb0 | hb0
        · have := h.emp hb0; omega
        · exact hb0
      obtain ⟨_, x', hx', h3, _⟩ := h.has hb0
      rw [hx] at hx'; cases hx'
      have := h3 m z hm hz
      omega
theorem Best.skip {L : List PE} {n : Nat} {b : Int} {y x : PE} (h : Best L n b) (hy : L[n]? = some y) (hb : 0 ≤ b) (hx : L[b.toNat]? = some x) (hp : y.pri ≤ x.pri) : Best L (n + 1) b := by
  obtain ⟨h1, x', hx', h3, h4⟩ := h.has hb
  rw [hx] at hx'; cases hx'
  refine ⟨fun h => by omega, h.low, fun _ => ⟨by omega, x, hx, fun m z hm hz => ?_, h4⟩⟩
  by_cases e : m = n
  · subst e; rw [hy] at hz; cases hz; exact hp
  · exact h3 m z (by omega) hz
theorem Best.head {L : List PE} (ha : L.Pairwise fun a b => a.seq < b.seq) {b : Int} (h : Best L L.length b) (hb : 0 ≤ b) : ∃ x t, L[b.toNat]? = some x ∧ ordered L = x :: t := by
  obtain ⟨h1, x, hx, h3, h4⟩ := h.has hb
  obtain ⟨t, ht⟩ := ordered_head (asc_nodup ha) (List.mem_of_getElem? hx) fun y hy => by
    obtain ⟨m, hm⟩ := List.getElem?_of_mem hy
    have hml := (List.getElem?_eq_some_iff.1 hm).1
    have k1 := h3 m y hml hm
    unfold PE.lt
    simp only [Bool.or_eq_false_iff, Bool.and_eq_false_iff, decide_eq_false_iff_not]
    refine ⟨by omega, ?_⟩
    rcases Nat.lt_or_ge m b.toNat with q | q
    · have := h4 m y q hm; omega
    · rcases Nat.lt_or_ge b.toNat m with q2 | q2
      · obtain ⟨g1, g2⟩ := List.getElem?_eq_some_iff.1 hx
        obtain ⟨g3, g4⟩ := List.getElem?_eq_some_iff.1 hm
        have := List.pairwise_iff_getElem.1 ha _ _ g1 g3 q2
        rw [g2, g4] at this
        omega
      · have e : m = b.toNat := by omega
        subst e; rw [hx] at hm; cases hm; omega
  exact ⟨x, t, hx, ht⟩
end Go.Qu
namespace Go.Sv
open Go
set_option linter.unusedVariables false
theorem Rd.take {w : World} {p : Option Addr} {n m sz : Nat} {xs : List Value} (h : Rd w p n sz xs) (hm : m ≤ n) : Rd w p m sz (xs.take (m * sz)) := by
  obtain ⟨h1, h2⟩ := h
  have hmul : m * sz ≤ n * sz := Nat.mul_le_mul_right _ hm
  refine ⟨by rw [List.length_take, h1]; omega, ?_⟩
  rcases h2 with h2 | ⟨b, o, cs, hp, hb, hl, ht⟩
  · exact .inl (by omega)
  · refine .inr ⟨b, o, cs, hp, hb, by omega, ?_⟩
    rw [← ht, List.take_take, Nat.min_eq_left hmul]
theorem flat_take {α : Type} {g : α → List Value} {sz : Nat} (hg : ∀ x, (g x).length = sz) (L : List α) (m : Nat) : (L.flatMap g).take (m * sz) = (L.take m).flatMap g := by
  induction L generalizing m with
  | nil => simp
  | cons x L ih =>
    cases m with
    | zero => simp
    | succ m =>
      rw [List.flatMap_cons, List.take_succ_cons, List.flatMap_cons, Nat.add_mul, Nat.one_mul, Nat.add_comm, List.take_append, List.take_of_length_le (by rw [hg]; omega), hg, Nat.add_sub_cancel_left, ih]
/-- a slice, and the block that it owns -/
structure SL where
  p : Option Addr
  n : Nat
  c : Nat
  own : Option Nat
def SL.cells (x : SL) : List Value := [.slice x.p x.n x.c]
theorem SL.cells_len (x : SL) : x.cells.length = 1 := rfl
theorem SL.cells_one (x : SL) : ∀ v ∈ x.cells, oneV v = true := by
  intro v hv; simp [SL.cells] at hv; rw [hv]; rfl
theorem SL.at {w : World} {p : Option Addr} {n : Nat} {T : List SL} (h : Rd w p n 1 (T.flatMap SL.cells)) {i : Nat} {x : SL} (hi : T[i]? = some x) : ∃ k o, p = some ⟨k, o, none⟩ ∧ w.cell? ⟨k, o + i, none⟩ = some (.slice x.p x.n x.c) := by
  obtain ⟨k, o, e, h⟩ := h.at SL.cells_len hi (by decide)
  exact ⟨k, o, e, by simpa using h 0 _ rfl⟩
/-- what is said of an element of list j, stays where nothing that is busy holds it -/
structure Stays {α : Type} (Good : World → (Nat → Prop) → Nat → α → Prop) : Prop where
  ch : ∀ {w w' : World} {B B' : Nat → Prop} {j : Nat} {x : α}, Good w B j x → Ch B w w' → (∀ b, b < w.heap.size → B' b → B b) → Good w' B' j x
/-- blocks that are still written -/
def Busy (T : List SL) (i : Nat) (cb gb : Option Nat) (b : Nat) : Prop := cb = some b ∨ gb = some b ∨ ∃ j x, T[j]? = some x ∧ i ≤ j ∧ x.own = some b
section
variable {α : Type} (g : α → List Value) (sz : Nat) (Good : World → (Nat → Prop) → Nat → α → Prop) (X : Nat → Prop)
/-- lists from i on are as they were; cb: the block of the one in hand, if one is (X: blocks that are busy beside) -/
structure Gb (w0 w : World) (T : List SL) (i : Nat) (cb : Option Nat) (gp : Option Addr) (gc : Nat) (gb : Option Nat) (G : List SL) : Prop where
  rest : ∀ j x, T[j]? = some x → i ≤ j → ∃ ys : List α, Ow w x.p x.n x.c sz (ys.flatMap g) x.own ∧ ys.length = x.n ∧ ∀ y ∈ ys, Good w (Busy T i cb gb) j y
  grown : Ow w gp G.length gc 1 (G.flatMap SL.cells) gb
  cg : ∀ b, cb = some b → gb ≠ some b ∧ ∀ j x, T[j]? = some x → i ≤ j → x.own ≠ some b
  gr : ∀ b, gb = some b → ∀ j x, T[j]? = some x → i ≤ j → x.own ≠ some b
  rr : ∀ j k x y b, i ≤ j → i ≤ k → j ≠ k → T[j]? = some x → T[k]? = some y → x.own = some b → y.own ≠ some b
  loc : ∀ b, Busy T i cb gb b → (∃ x ∈ T, x.own = some b) ∨ w0.heap.size ≤ b
  gnew : ∀ b, gb = some b → w0.heap.size ≤ b
  place : ∀ (k : Nat) (x : SL), G[k]? = some x → ∀ a : Addr, x.p = some a → x.n * sz ≠ 0 → (∃ y ∈ T, y.own = some a.block) ∨ w0.heap.size ≤ a.block
  small : ∀ (k : Nat) (x : SL), G[k]? = some x → x.n ≤ 2 ^ 60
  ch : Ch (fun b => ∃ x ∈ T, x.own = some b) w0 w
structure Gs (w0 w : World) (T : List SL) (i : Nat) (gp : Option Addr) (gc : Nat) (gb : Option Nat) (G : List SL) (lab : Nat → Nat) : Prop where
  b : Gb g sz Good w0 w T i none gp gc gb G
  read : ∀ k x, G[k]? = some x → ∃ ys : List α, Rd w x.p x.n sz (ys.flatMap g) ∧ ys.length = x.n ∧ (∀ y ∈ ys, Good w (Busy T i none gb) (lab k) y) ∧ ∀ a, x.p = some a → x.n * sz ≠ 0 → ¬ Busy T i none gb a.block
  own : ∀ k x, k < i → T[k]? = some x → ∃ ys : List α, Rd w x.p x.n sz (ys.flatMap g) ∧ ys.length = x.n ∧ (∀ y ∈ ys, Good w (Busy T i none gb) k y) ∧ ∀ a, x.p = some a → x.n * sz ≠ 0 → ¬ Busy T i none gb a.block
structure Gr (w0 w : World) (T : List SL) (i : Nat) (cur : SL) (xs : List α) (gp : Option Addr) (gc : Nat) (gb : Option Nat) (G : List SL) (lab : Nat → Nat) : Prop where
  b : Gb g sz Good w0 w T (i + 1) cur.own gp gc gb G
  now : Ow w cur.p cur.n cur.c sz (xs.flatMap g) cur.own
  len : xs.length = cur.n
  curg : ∀ y ∈ xs, Good w (Busy T (i + 1) cur.own gb) i y
  read : ∀ k x, G[k]? = some x → (lab k = i ∧ x.p = cur.p ∧ x.n ≤ cur.n) ∨ ∃ ys : List α, Rd w x.p x.n sz (ys.flatMap g) ∧ ys.length = x.n ∧ (∀ y ∈ ys, Good w (Busy T (i + 1) cur.own gb) (lab k) y) ∧ ∀ a, x.p = some a → x.n * sz ≠ 0 → ¬ Busy T (i + 1) cur.own gb a.block
  own : ∀ k x, k ≤ i → T[k]? = some x → (k = i ∧ x.p = cur.p ∧ x.n ≤ cur.n) ∨ ∃ ys : List α, Rd w x.p x.n sz (ys.flatMap g) ∧ ys.length = x.n ∧ (∀ y ∈ ys, Good w (Busy T (i + 1) cur.own gb) k y) ∧ ∀ a, x.p = some a → x.n * sz ≠ 0 → ¬ Busy T (i + 1) cur.own gb a.block
end
section
variable {α : Type} {g : α → List Value} {sz : Nat} {Good : World → (Nat → Prop) → Nat → α → Prop}
theorem Gs.begin {w : World} {T : List SL} (lab : Nat → Nat) (hrest : ∀ j x, T[j]? = some x → ∃ ys : List α, Ow w x.p x.n x.c sz (ys.flatMap g) x.own ∧ ys.length = x.n ∧ ∀ y ∈ ys, Good w (Busy T 0 none none) j y)
    (hnd : ∀ (j k : Nat) (x y : SL) (b : Nat), j ≠ k → T[j]? = some x → T[k]? = some y → x.own = some b → y.own ≠ some b) : Gs g sz Good w w T 0 none 0 none [] lab where
  b := ⟨fun j x h _ => hrest j x h, Ow.nil, (fun b h => by cases h), (fun b h => by cases h), (fun j k x y b _ _ => hnd j k x y b), (fun b h => by
    rcases h with h | h | ⟨j, x, h1, _, h2⟩
    · cases h
    · cases h
    · exact .inl ⟨x, List.mem_of_getElem? h1, h2⟩), (fun b h => by cases h), (fun k x h => by simp at h), (fun k x h => by simp at h), Ch.refl _ _⟩
  read := fun k x h => by simp at h
  own := fun k x h => by omega
theorem Busy.lt {T : List SL} {i i' : Nat} {cb gb : Option Nat} (h : i ≤ i') {b : Nat} (hb : Busy T i' cb gb b) : Busy T i cb gb b := by
  rcases hb with hb | hb | ⟨j, x, h1, h2, h3⟩
  · exact .inl hb
  · exact .inr (.inl hb)
  · exact .inr (.inr ⟨j, x, h1, by omega, h3⟩)
theorem Gs.start (hst : Stays Good) {w0 w : World} {T : List SL} {i : Nat} {gp : Option Addr} {gc : Nat} {gb : Option Nat} {G : List SL} {lab : Nat → Nat} (h : Gs g sz Good w0 w T i gp gc gb G lab) {x : SL} (hx : T[i]? = some x) : ∃ xs, Gr g sz Good w0 w T i x xs gp gc gb G lab := by
  obtain ⟨xs, ho, hl, hg⟩ := h.b.rest i x hx (Nat.le_refl _)
  have bz : ∀ b, Busy T (i + 1) x.own gb b → Busy T i none gb b := fun b hb => by
    rcases hb with hb | hb | ⟨j, y, h1, h2, h3⟩
    · exact .inr (.inr ⟨i, x, hx, Nat.le_refl _, hb⟩)
    · exact .inr (.inl hb)
    · exact .inr (.inr ⟨j, y, h1, by omega, h3⟩)
  refine ⟨xs, ⟨fun j y hj hij => ?_, h.b.grown, fun b hb => ⟨fun e => h.b.gr b e i x hx (Nat.le_refl _) hb, fun j y hj hij e => h.b.rr i j x y b (Nat.le_refl _) (by omega) (by omega) hx hj hb e⟩, fun b hb j y hj hij => h.b.gr b hb j y hj (by omega), fun j k y z b hj hk => h.b.rr j k y z b (by omega) (by omega), fun b hb => h.b.loc b (bz b hb), h.b.gnew, h.b.place, h.b.small, h.b.ch⟩, ho, hl, fun y hy => hst.ch (hg y hy) (Ch.refl _ _) fun b _ => bz b, fun k y hk => .inr ?_, fun k y hki hk => ?_⟩
  · obtain ⟨ys, g1, g2, g3⟩ := h.b.rest j y hj (by omega)
    exact ⟨ys, g1, g2, fun z hz => hst.ch (g3 z hz) (Ch.refl _ _) fun b _ => bz b⟩
  · obtain ⟨ys, g1, g2, g3, g4⟩ := h.read k y hk
    exact ⟨ys, g1, g2, fun z hz => hst.ch (g3 z hz) (Ch.refl _ _) fun b _ => bz b, fun a ha h0 hb => g4 a ha h0 (bz _ hb)⟩
  · by_cases e : k = i
    · subst e
      rw [hx] at hk
      cases hk
      exact .inl ⟨rfl, rfl, Nat.le_refl _⟩
    · obtain ⟨ys, g1, g2, g3, g4⟩ := h.own k y (by omega) hk
      exact .inr ⟨ys, g1, g2, fun z hz => hst.ch (g3 z hz) (Ch.refl _ _) fun b _ => bz b, fun a ha h0 hb => g4 a ha h0 (bz _ hb)⟩
theorem Gr.stop (hst : Stays Good) (hgl : ∀ x, (g x).length = sz) {w0 w : World} {T : List SL} {i : Nat} {cur : SL} {xs : List α} {gp : Option Addr} {gc : Nat} {gb : Option Nat} {G : List SL} {lab : Nat → Nat} (h : Gr g sz Good w0 w T i cur xs gp gc gb G lab) : Gs g sz Good w0 w T (i + 1) gp gc gb G lab := by
  have bz : ∀ b, Busy T (i + 1) none gb b → Busy T (i + 1) cur.own gb b := fun b hb => by
    rcases hb with hb | hb
    · cases hb
    · exact .inr hb
  refine ⟨⟨fun j y hj hij => ?_, h.b.grown, (fun b hb => by cases hb), h.b.gr, h.b.rr, fun b hb => h.b.loc b (bz b hb), h.b.gnew, h.b.place, h.b.small, h.b.ch⟩, fun k y hk => ?_, fun k y hki hk => ?_⟩
  · obtain ⟨ys, g1, g2, g3⟩ := h.b.rest j y hj hij
    exact ⟨ys, g1, g2, fun z hz => hst.ch (g3 z hz) (Ch.refl _ _) fun b _ => bz b⟩
  · rcases h.read k y hk with ⟨e1, e2, e3⟩ | ⟨ys, g1, g2, g3, g4⟩
    · refine ⟨xs.take y.n, ?_, by rw [List.length_take, h.len]; omega, fun z hz => ?_, fun a ha h0 hb => ?_⟩
      · have := Rd.take h.now.rd e3
        rw [flat_take hgl] at this
        rw [e2]; exact this
      · rw [e1]
        exact hst.ch (h.curg z (List.mem_of_mem_take hz)) (Ch.refl _ _) fun b _ => bz b
      · obtain ⟨_, _, h3⟩ := h.now
        rw [e2] at ha
        rcases h3 with ⟨_, h3⟩ | ⟨k2, o, cs, e4, e5, _⟩
        · have h5 : y.n * sz ≤ cur.n * sz := Nat.mul_le_mul_right _ e3
          have h6 := h.now.2.1
          have h7 : cur.n * sz ≤ cur.c * sz := Nat.mul_le_mul_right _ h6
          omega
        · rw [e5] at ha; cases ha
          rcases hb with hb | hb | ⟨j, x, q1, q2, q3⟩
          · cases hb
          · exact (h.b.cg k2 e4).1 hb
          · exact (h.b.cg k2 e4).2 j x q1 q2 q3
    · exact ⟨ys, g1, g2, fun z hz => hst.ch (g3 z hz) (Ch.refl _ _) fun b _ => bz b, fun a ha h0 hb => g4 a ha h0 (bz _ hb)⟩
  · rcases h.own k y (by omega) hk with ⟨e1, e2, e3⟩ | ⟨ys, g1, g2, g3, g4⟩
    · refine ⟨xs.take y.n, ?_, by rw [List.length_take, h.len]; omega, fun z hz => ?_, fun a ha h0 hb => ?_⟩
      · have := Rd.take h.now.rd e3
        rw [flat_take hgl] at this
        rw [e2]; exact this
      · rw [e1]
        exact hst.ch (h.curg z (List.mem_of_mem_take hz)) (Ch.refl _ _) fun b _ => bz b
      · obtain ⟨_, _, h3⟩ := h.now
        rw [e2] at ha
        rcases h3 with ⟨_, h3⟩ | ⟨k2, o, cs, e4, e5, _⟩
        · have h5 : y.n * sz ≤ cur.n * sz := Nat.mul_le_mul_right _ e3
          have h6 := h.now.2.1
          have h7 : cur.n * sz ≤ cur.c * sz := Nat.mul_le_mul_right _ h6
          omega
        · rw [e5] at ha; cases ha
          rcases hb with hb | hb | ⟨j, x, q1, q2, q3⟩
          · cases hb
          · exact (h.b.cg k2 e4).1 hb
          · exact (h.b.cg k2 e4).2 j x q1 q2 q3
    · exact ⟨ys, g1, g2, fun z hz => hst.ch (g3 z hz) (Ch.refl _ _) fun b _ => bz b, fun a ha h0 hb => g4 a ha h0 (bz _ hb)⟩
/-- the list in hand is grown by one -/
theorem Gr.push {P : Program} {ET ty e te : TypeId} {bytes : Nat} {z : Value} (hT : P.underlying ET = some (.slice e)) (hi : InfoIs P e sz bytes z) (hzs : z.cells.size = sz) (hst : Stays Good) (hgl : ∀ x, (g x).length = sz) (hone : ∀ x, ∀ v ∈ g x, oneV v = true) (h0 : 0 < sz)
    {w0 w : World} {T : List SL} {i : Nat} {cur : SL} {xs : List α} {gp : Option Addr} {gc : Nat} {gb : Option Nat} {G : List SL} {lab : Nat → Nat} (h : Gr g sz Good w0 w T i cur xs gp gc gb G lab) (x : α)
    (hx : ∀ w' B, Ch (fun _ => False) w w' → (∀ b, B b → Busy T (i + 1) cur.own gb b ∨ w.heap.size < b) → Good w' B i x) (hn : cur.n + 1 ≤ 2 ^ 47) (hb : (cur.n + 1) * bytes ≤ 2 ^ 47) {K : Option Addr → Nat → Nat → World → Prop}
    (hk : ∀ cur' w', Gr g sz Good w0 w' T i cur' (xs ++ [x]) gp gc gb G lab → cur'.n = cur.n + 1 → K cur'.p cur'.n cur'.c w') :
    newB w (g x) te fun a w2 => ∃ p5 n7 c5 w3, Sem.run P (Builtin.append_ #[ET, ET] ty #[.slice cur.p cur.n cur.c, .slice (some a) 1 1]) w2 = .ok (.slice p5 n7 c5) w3 ∧ K p5 n7 c5 w3 := by
  refine newB_blk fun w2 b2 c2 z2 => ?_
  have hrd : Rd w2 (some ⟨w.heap.size, 0, none⟩) 1 sz (g x) := ⟨by rw [hgl]; omega, .inr ⟨_, 0, _, rfl, blk_cells b2, by rw [hgl]; omega, by rw [List.drop_zero, List.take_of_length_le (by rw [hgl]; omega)]⟩⟩
  obtain ⟨p', c', w', b', r1, r2, r3⟩ := append_rd2 (ty := ty) (c2 := 1) hT hT hi hzs (h.now.ch c2 fun _ _ => id) hrd (hone x) hn hb
  refine ⟨p', _, c', w', r1, ?_⟩
  have hcurl : ∀ b, cur.own = some b → b < w.heap.size := fun b hb => h.now.blt b hb
  have hgbl : ∀ b, gb = some b → b < w.heap.size := fun b hb => h.b.grown.blt b hb
  have hrl : ∀ j y, T[j]? = some y → i + 1 ≤ j → ∀ b, y.own = some b → b < w.heap.size := fun j y hj hij b hb => by
    obtain ⟨ys, g1, _⟩ := h.b.rest j y hj hij
    exact g1.blt b hb
  have hw0 := h.b.ch.size
  -- from w to w': only the block in hand
  have hch : Ch (fun b => cur.own = some b) w w' := by
    rcases r3 with ⟨_, _, r3⟩ | ⟨_, _, r3⟩
    · exact (c2.mono fun _ _ g => g.elim).trans' r3
    · exact (c2.trans' r3).mono fun _ _ g => g.elim
  have hb' : ∀ b, b' = some b → cur.own = some b ∨ w.heap.size < b := fun b hbb => by
    rcases r3 with ⟨e, _, _⟩ | ⟨e, _, _⟩
    · rw [e] at hbb; exact .inl hbb
    · rw [e] at hbb; cases hbb; exact .inr (by omega)
  have bz : ∀ b, b < w.heap.size → Busy T (i + 1) b' gb b → Busy T (i + 1) cur.own gb b := fun b hlt hbz => by
    rcases hbz with q | q
    · rcases hb' b q with q | q
      · exact .inl q
      · omega
    · exact .inr q
  have bz2 : ∀ b, Busy T (i + 1) b' gb b → Busy T (i + 1) cur.own gb b ∨ w.heap.size < b := fun b hbz => by
    rcases hbz with q | q
    · rcases hb' b q with q | q
      · exact .inl (.inl q)
      · exact .inr q
    · exact .inl (.inr q)
  have hchB : Ch (Busy T (i + 1) cur.own gb) w w' := hch.mono fun b _ q => .inl q
  refine hk ⟨p', cur.n + 1, c', b'⟩ w' ⟨⟨fun j y hj hij => ?_, h.b.grown.ch hch fun b hb q => (h.b.cg b q).1 hb, fun b hbb => ?_, h.b.gr, h.b.rr, fun b hbz => ?_, h.b.gnew, h.b.place, h.b.small, h.b.ch.trans hch fun b hlt q => ?_⟩, ?_, by simp [h.len], fun y hy => ?_, fun k y hk' => ?_, fun k y hki hk' => ?_⟩ rfl
  · obtain ⟨ys, g1, g2, g3⟩ := h.b.rest j y hj hij
    exact ⟨ys, g1.ch hch fun b hb q => (h.b.cg b q).2 j y hj hij hb, g2, fun z hz => hst.ch (g3 z hz) hchB bz⟩
  · rcases hb' b hbb with q | q
    · exact h.b.cg b q
    · refine ⟨fun e => ?_, fun j y hj hij e => ?_⟩
      · have := hgbl b e; omega
      · have := hrl j y hj hij b e; omega
  · rcases bz2 b hbz with q | q
    · exact h.b.loc b q
    · exact .inr (by omega)
  · rcases h.b.loc b (.inl q) with q | q
    · exact q
    · omega
  · rw [List.flatMap_append, List.flatMap_singleton]; exact r2
  · rcases List.mem_append.1 hy with hy | hy
    · exact hst.ch (h.curg y hy) hchB bz
    · rw [List.mem_singleton.1 hy]
      have hG2 : Good w2 (Busy T (i + 1) cur.own gb) i x := hx w2 _ c2 fun b q => .inl q
      have hc2 : Ch (Busy T (i + 1) cur.own gb) w2 w' := by
        rcases r3 with ⟨_, _, r3⟩ | ⟨_, _, r3⟩
        · exact r3.mono fun b _ q => .inl q
        · exact r3.mono fun _ _ g => g.elim
      refine hst.ch (hx w2 (fun b => Busy T (i + 1) cur.own gb b ∨ w.heap.size < b) c2 fun b q => q) (hc2.mono fun b _ q => .inl q) fun b _ q => bz2 b q
  · rcases h.read k y hk' with ⟨e1, e2, e3⟩ | ⟨ys, g1, g2, g3, g4⟩
    · rcases r3 with ⟨eb, ep, _⟩ | ⟨eb, ep, r3⟩
      · exact .inl ⟨e1, e2.trans ep.symm, by show y.n ≤ cur.n + 1; omega⟩
      · refine .inr ⟨xs.take y.n, ?_, by rw [List.length_take, h.len]; omega, fun z hz => ?_, fun a ha hn0 hbz => ?_⟩
        · have := Rd.take h.now.rd e3
          rw [flat_take hgl] at this
          rw [e2]
          exact this.ch (c2.trans' r3) fun _ _ _ => id
        · rw [e1]; exact hst.ch (h.curg z (List.mem_of_mem_take hz)) hchB bz
        · obtain ⟨_, q2, q3⟩ := h.now
          rw [e2] at ha
          rcases q3 with ⟨_, q3⟩ | ⟨k2, o, cs, e4, e5, _⟩
          · have h5 : y.n * sz ≤ cur.n * sz := Nat.mul_le_mul_right _ e3
            have h7 : cur.n * sz ≤ cur.c * sz := Nat.mul_le_mul_right _ q2
            omega
          · rw [e5] at ha; cases ha
            have hk2 := hcurl k2 e4
            rcases hbz with q | q | ⟨j, x', q1, q2', q3'⟩
            · have q' : w2.heap.size = k2 := Option.some.inj (eb.symm.trans q)
              omega
            · exact (h.b.cg k2 e4).1 q
            · exact (h.b.cg k2 e4).2 j x' q1 q2' q3'
    · refine .inr ⟨ys, g1.ch hch fun a ha hn0 q => g4 a ha hn0 (.inl q), g2, fun z hz => hst.ch (g3 z hz) hchB bz, fun a ha hn0 hbz => ?_⟩
      have hal := g1.lt a ha hn0
      exact g4 a ha hn0 (bz _ hal hbz)
  · rcases h.own k y hki hk' with ⟨e1, e2, e3⟩ | ⟨ys, g1, g2, g3, g4⟩
    · rcases r3 with ⟨eb, ep, _⟩ | ⟨eb, ep, r3⟩
      · exact .inl ⟨e1, e2.trans ep.symm, by show y.n ≤ cur.n + 1; omega⟩
      · refine .inr ⟨xs.take y.n, ?_, by rw [List.length_take, h.len]; omega, fun z hz => ?_, fun a ha hn0 hbz => ?_⟩
        · have := Rd.take h.now.rd e3
          rw [flat_take hgl] at this
          rw [e2]
          exact this.ch (c2.trans' r3) fun _ _ _ => id
        · rw [e1]; exact hst.ch (h.curg z (List.mem_of_mem_take hz)) hchB bz
        · obtain ⟨_, q2, q3⟩ := h.now
          rw [e2] at ha
          rcases q3 with ⟨_, q3⟩ | ⟨k2, o, cs, e4, e5, _⟩
          · have h5 : y.n * sz ≤ cur.n * sz := Nat.mul_le_mul_right _ e3
            have h7 : cur.n * sz ≤ cur.c * sz := Nat.mul_le_mul_right _ q2
            omega
          · rw [e5] at ha; cases ha
            have hk2 := hcurl k2 e4
            rcases hbz with q | q | ⟨j, x', q1, q2', q3'⟩
            · have q' : w2.heap.size = k2 := Option.some.inj (eb.symm.trans q)
              omega
            · exact (h.b.cg k2 e4).1 q
            · exact (h.b.cg k2 e4).2 j x' q1 q2' q3'
    · refine .inr ⟨ys, g1.ch hch fun a ha hn0 q => g4 a ha hn0 (.inl q), g2, fun z hz => hst.ch (g3 z hz) hchB bz, fun a ha hn0 hbz => ?_⟩
      have hal := g1.lt a ha hn0
      exact g4 a ha hn0 (bz _ hal hbz)
/-- the list in hand is kept -/
theorem Gr.keep {P : Program} {LT ty e te : TypeId} {bytes : Nat} {z : Value} (hT : P.underlying LT = some (.slice e)) (hi : InfoIs P e 1 bytes z) (hzs : z.cells.size = 1) (hst : Stays Good)
    {w0 w : World} {T : List SL} {i : Nat} {cur : SL} {xs : List α} {gp : Option Addr} {gc : Nat} {gb : Option Nat} {G : List SL} {lab : Nat → Nat} (h : Gr g sz Good w0 w T i cur xs gp gc gb G lab) (hlab : lab G.length = i) (hsm : cur.n ≤ 2 ^ 60)
    (hn : G.length + 1 ≤ 2 ^ 47) (hb : (G.length + 1) * bytes ≤ 2 ^ 47) {K : Option Addr → Nat → Nat → World → Prop}
    (hk : ∀ gp' gc' gb' w', Gr g sz Good w0 w' T i cur xs gp' gc' gb' (G ++ [cur]) lab → K gp' (G.length + 1) gc' w') :
    newB w [.slice cur.p cur.n cur.c] te fun a w2 => ∃ p5 n7 c5 w3, Sem.run P (Builtin.append_ #[LT, LT] ty #[.slice gp G.length gc, .slice (some a) 1 1]) w2 = .ok (.slice p5 n7 c5) w3 ∧ K p5 n7 c5 w3 := by
  have hcurl : ∀ b, cur.own = some b → b < w.heap.size := fun b hb => h.now.blt b hb
  have hrl : ∀ j y, T[j]? = some y → i + 1 ≤ j → ∀ b, y.own = some b → b < w.heap.size := fun j y hj hij b hb => by
    obtain ⟨ys, g1, _⟩ := h.b.rest j y hj hij
    exact g1.blt b hb
  have hw0 := h.b.ch.size
  refine push_ok (g := SL.cells) hT hi hzs SL.cells_len SL.cells_one h.b.grown cur hn hb fun p' c' b' w' o' n' hch => ?_
  have bz2 : ∀ b, Busy T (i + 1) cur.own b' b → Busy T (i + 1) cur.own gb b ∨ w.heap.size ≤ b := fun b hbz => by
    rcases hbz with q | q | q
    · exact .inl (.inl q)
    · rcases n' b q with q | q
      · exact .inl (.inr (.inl q))
      · exact .inr q
    · exact .inl (.inr (.inr q))
  have bz : ∀ b, b < w.heap.size → Busy T (i + 1) cur.own b' b → Busy T (i + 1) cur.own gb b := fun b hlt hbz => (bz2 b hbz).resolve_right (by omega)
  have hchB : Ch (Busy T (i + 1) cur.own gb) w w' := hch.mono fun b _ q => .inr (.inl q)
  have e : (G ++ [cur]).length = G.length + 1 := by simp
  rw [e] at o' ⊢
  refine hk p' c' b' w' ⟨⟨fun j y hj hij => ?_, by rw [e]; exact o', fun b hbb => ⟨fun q => ?_, (h.b.cg b hbb).2⟩, fun b hbb j y hj hij => ?_, h.b.rr, fun b hbz => ?_, fun b hbb => ?_, fun k y hk' => ?_, fun k y hk' => ?_, h.b.ch.trans hch fun b hlt q => ?_⟩, h.now.ch hch fun b hb q => (h.b.cg b hb).1 q, h.len, fun y hy => hst.ch (h.curg y hy) hchB bz, fun k y hk' => ?_, fun k y hki hk' => ?_⟩
  · obtain ⟨ys, g1, g2, g3⟩ := h.b.rest j y hj hij
    exact ⟨ys, g1.ch hch fun b hb q => h.b.gr b q j y hj hij hb, g2, fun z hz => hst.ch (g3 z hz) hchB bz⟩
  · rcases n' b q with q | q
    · exact (h.b.cg b hbb).1 q
    · have := hcurl b hbb; omega
  · rcases n' b hbb with q | q
    · exact h.b.gr b q j y hj hij
    · intro e; have := hrl j y hj hij b e; omega
  · rcases bz2 b hbz with q | q
    · exact h.b.loc b q
    · exact .inr (by omega)
  · rcases n' b hbb with q | q
    · exact h.b.gnew b q
    · omega
  · by_cases hkl : k < G.length
    · rw [List.getElem?_append_left hkl] at hk'
      exact h.b.place k y hk'
    · have hkl2 := (List.getElem?_eq_some_iff.1 hk').1
      have hk3 : k = G.length := by simp at hkl2; omega
      subst hk3
      rw [List.getElem?_append_right (Nat.le_refl _), Nat.sub_self] at hk'
      have : y = cur := (Option.some.inj hk').symm
      subst this
      intro a ha hn0
      obtain ⟨_, q2, q3⟩ := h.now
      rcases q3 with ⟨_, q3⟩ | ⟨k2, o, cs, e4, e5, _⟩
      · have h5 : y.n * sz ≤ y.c * sz := Nat.mul_le_mul_right _ q2
        omega
      · rw [e5] at ha; cases ha
        exact h.b.loc k2 (.inl e4)
  · by_cases hkl : k < G.length
    · rw [List.getElem?_append_left hkl] at hk'
      exact h.b.small k y hk'
    · have hkl2 := (List.getElem?_eq_some_iff.1 hk').1
      have hk3 : k = G.length := by simp at hkl2; omega
      subst hk3
      rw [List.getElem?_append_right (Nat.le_refl _), Nat.sub_self] at hk'
      have : y = cur := (Option.some.inj hk').symm
      subst this
      exact hsm
  · have := h.b.gnew b q; omega
  · by_cases hkl : k < G.length
    · rw [List.getElem?_append_left hkl] at hk'
      rcases h.read k y hk' with q | ⟨ys, g1, g2, g3, g4⟩
      · exact .inl q
      · refine .inr ⟨ys, g1.ch hch fun a ha hn0 q => g4 a ha hn0 (.inr (.inl q)), g2, fun z hz => hst.ch (g3 z hz) hchB bz, fun a ha hn0 hbz => ?_⟩
        have hal := g1.lt a ha hn0
        exact g4 a ha hn0 (bz _ hal hbz)
    · have hkl2 := (List.getElem?_eq_some_iff.1 hk').1
      have hk3 : k = G.length := by simp at hkl2; omega
      subst hk3
      rw [List.getElem?_append_right (Nat.le_refl _), Nat.sub_self] at hk'
      have : y = cur := (Option.some.inj hk').symm
      subst this
      exact .inl ⟨hlab, rfl, Nat.le_refl _⟩
  · rcases h.own k y hki hk' with q | ⟨ys, g1, g2, g3, g4⟩
    · exact .inl q
    · refine .inr ⟨ys, g1.ch hch fun a ha hn0 q => g4 a ha hn0 (.inr (.inl q)), g2, fun z hz => hst.ch (g3 z hz) hchB bz, fun a ha hn0 hbz => ?_⟩
      have hal := g1.lt a ha hn0
      exact g4 a ha hn0 (bz _ hal hbz)
/-- other blocks may be new, or turn, beside -/
theorem Gr.ch (hst : Stays Good) {w0 w w' : World} {T : List SL} {i : Nat} {cur : SL} {xs : List α} {gp : Option Addr} {gc : Nat} {gb : Option Nat} {G : List SL} {lab : Nat → Nat} (h : Gr g sz Good w0 w T i cur xs gp gc gb G lab) (c : Ch (fun _ => False) w w') : Gr g sz Good w0 w' T i cur xs gp gc gb G lab := by
  have cB : Ch (Busy T (i + 1) cur.own gb) w w' := c.mono fun _ _ q => q.elim
  refine ⟨⟨fun j y hj hij => ?_, h.b.grown.ch c fun _ _ => id, h.b.cg, h.b.gr, h.b.rr, h.b.loc, h.b.gnew, h.b.place, h.b.small, h.b.ch.new c⟩, h.now.ch c fun _ _ => id, h.len, fun y hy => hst.ch (h.curg y hy) cB fun _ _ q => q, fun k y hk => ?_, fun k y hki hk => ?_⟩
  · obtain ⟨ys, g1, g2, g3⟩ := h.b.rest j y hj hij
    exact ⟨ys, g1.ch c fun _ _ => id, g2, fun z hz => hst.ch (g3 z hz) cB fun _ _ q => q⟩
  · rcases h.read k y hk with q | ⟨ys, g1, g2, g3, g4⟩
    · exact .inl q
    · exact .inr ⟨ys, g1.ch c fun _ _ _ => id, g2, fun z hz => hst.ch (g3 z hz) cB fun _ _ q => q, g4⟩
  · rcases h.own k y hki hk with q | ⟨ys, g1, g2, g3, g4⟩
    · exact .inl q
    · exact .inr ⟨ys, g1.ch c fun _ _ _ => id, g2, fun z hz => hst.ch (g3 z hz) cB fun _ _ q => q, g4⟩
theorem Gs.ch (hst : Stays Good) {w0 w w' : World} {T : List SL} {i : Nat} {gp : Option Addr} {gc : Nat} {gb : Option Nat} {G : List SL} {lab : Nat → Nat} (h : Gs g sz Good w0 w T i gp gc gb G lab) (c : Ch (fun _ => False) w w') : Gs g sz Good w0 w' T i gp gc gb G lab := by
  have cB : Ch (Busy T i none gb) w w' := c.mono fun _ _ q => q.elim
  refine ⟨⟨fun j y hj hij => ?_, h.b.grown.ch c fun _ _ => id, h.b.cg, h.b.gr, h.b.rr, h.b.loc, h.b.gnew, h.b.place, h.b.small, h.b.ch.new c⟩, fun k y hk => ?_, fun k y hki hk => ?_⟩
  · obtain ⟨ys, g1, g2, g3⟩ := h.b.rest j y hj hij
    exact ⟨ys, g1.ch c fun _ _ => id, g2, fun z hz => hst.ch (g3 z hz) cB fun _ _ q => q⟩
  · obtain ⟨ys, g1, g2, g3, g4⟩ := h.read k y hk
    exact ⟨ys, g1.ch c fun _ _ _ => id, g2, fun z hz => hst.ch (g3 z hz) cB fun _ _ q => q, g4⟩
  · obtain ⟨ys, g1, g2, g3, g4⟩ := h.own k y hki hk
    exact ⟨ys, g1.ch c fun _ _ _ => id, g2, fun z hz => hst.ch (g3 z hz) cB fun _ _ q => q, g4⟩
end
/-! ### Lists that are written -/
/-- the lists T hold the rows C -/
def Rws {α : Type} (g : α → List Value) (sz : Nat) (w : World) (T : List SL) (C : Nat → List α) : Prop := ∀ j x, T[j]? = some x → Ow w x.p x.n x.c sz ((C j).flatMap g) x.own ∧ (C j).length = x.n
theorem Rws.ch {α : Type} {g : α → List Value} {sz : Nat} {S : Nat → Prop} {w w' : World} {T : List SL} {C : Nat → List α} (h : Rws g sz w T C) (c : Ch S w w') (hn : ∀ x ∈ T, ∀ b, x.own = some b → ¬ S b) : Rws g sz w' T C :=
  fun j x hx => ⟨(h j x hx).1.ch c fun b hb => hn x (List.mem_of_getElem? hx) b hb, (h j x hx).2⟩
theorem Rws.st {α : Type} {g : α → List Value} {sz : Nat} (hg : ∀ x, (g x).length = sz) {w : World} {T : List SL} {C : Nat → List α} (h : Rws g sz w T C) (hd : ∀ (j k : Nat) (x y : SL) (b : Nat), j ≠ k → T[j]? = some x → T[k]? = some y → x.own = some b → y.own ≠ some b)
    {i : Nat} {x : SL} (hx : T[i]? = some x) {k : Nat} {y : α} (hy : (C i)[k]? = some y) (h0 : 0 < sz) :
    ∃ kb o, x.p = some ⟨kb, o, none⟩ ∧ x.own = some kb ∧ ∀ (j q : Nat) (v : Value) (y' : α) (K : World → Prop), j < sz → q = o + (k * sz + j) → g y' = (g y).set j v →
      (∀ w', Rws g sz w' T (fun m => if m = i then (C i).set k y' else C m) → Ch (· = kb) w w' → w'.heap.size = w.heap.size → K w') → Sv.st w ⟨kb, q, none⟩ v K := by
  obtain ⟨ho, hl⟩ := h i x hx
  have hk : k < x.n := by have := (List.getElem?_eq_some_iff.1 hy).1; omega
  have hmul : (k + 1) * sz ≤ x.n * sz := Nat.mul_le_mul_right _ hk
  rw [Nat.add_mul] at hmul
  obtain ⟨kb, o, hp, hb, _⟩ := ho.st (i := k * sz + 0) (by omega)
  refine ⟨kb, o, hp, hb, fun j q v y' K hj hq he hK => ?_⟩
  obtain ⟨kb', o', hp', _, hst⟩ := ho.st (i := k * sz + j) (by omega)
  rw [hp] at hp'; cases hp'
  subst hq
  refine hst v K fun w' ho' hc hz => hK w' (fun m z hz' => ?_) hc hz
  by_cases hm : m = i
  · subst hm
    rw [hx] at hz'
    have : z = x := (Option.some.inj hz').symm
    subst this
    simp only [if_pos]
    refine ⟨?_, by simpa using hl⟩
    rw [flat_set hg (C m) k j v hy hj he] at ho'
    exact ho'
  · simp only [if_neg hm]
    obtain ⟨q1, q2⟩ := h m z hz'
    exact ⟨q1.ch hc fun b hb' e => hd i m x z kb (fun e => hm e.symm) hx hz' hb (by rw [← e]; exact hb'), q2⟩
end Go.Sv
namespace Go.Sv
open Go
set_option linter.unusedVariables false
/-- what elements are: their cells, their blocks, what is said of them in a world -/
structure El (α : Type) where
  g : α → List Value
  sz : Nat
  B : α → List Nat
  Ok : World → α → Prop
  glen : ∀ x, (g x).length = sz
  gone : ∀ x, ∀ v ∈ g x, oneV v = true
  ch : ∀ {S : Nat → Prop} {w w' : World} {x : α}, Ok w x → Ch S w w' → (∀ b ∈ B x, ¬ S b) → Ok w' x
  lt : ∀ {w : World} {x : α}, Ok w x → ∀ b ∈ B x, b < w.heap.size
  nd : ∀ {w : World} {x : α}, Ok w x → (B x).Nodup
section
variable {α : Type} (E : El α)
/-- the blocks of a row -/
def El.rowB (own : Option Nat) (R : List α) : List Nat := own.toList ++ R.flatMap E.B
def El.Row (w : World) (p : Option Addr) (n c : Nat) (own : Option Nat) (R : List α) : Prop :=
  R.length = n ∧ Ow w p n c E.sz (R.flatMap E.g) own ∧ (∀ x ∈ R, E.Ok w x) ∧ (E.rowB own R).Nodup
variable {E}
theorem El.mem_rowB {own : Option Nat} {R : List α} {b : Nat} : b ∈ E.rowB own R ↔ own = some b ∨ ∃ x ∈ R, b ∈ E.B x := by
  simp [El.rowB, Option.mem_toList]
theorem El.Row.ch {S : Nat → Prop} {w w' : World} {p : Option Addr} {n c : Nat} {own : Option Nat} {R : List α} (h : E.Row w p n c own R) (hc : Ch S w w') (hn : ∀ b ∈ E.rowB own R, ¬ S b) : E.Row w' p n c own R :=
  ⟨h.1, h.2.1.ch hc fun b hb => hn b (El.mem_rowB.2 (.inl hb)), fun x hx => E.ch (h.2.2.1 x hx) hc fun b hb => hn b (El.mem_rowB.2 (.inr ⟨x, hx, hb⟩)), h.2.2.2⟩
theorem El.Row.lt {w : World} {p : Option Addr} {n c : Nat} {own : Option Nat} {R : List α} (h : E.Row w p n c own R) : ∀ b ∈ E.rowB own R, b < w.heap.size := fun b hb => by
  rcases El.mem_rowB.1 hb with hb | ⟨x, hx, hb⟩
  · exact h.2.1.blt b hb
  · exact E.lt (h.2.2.1 x hx) b hb
theorem El.Row.nil {w : World} : E.Row w none 0 0 none [] := ⟨rfl, by simpa using Ow.nil, by simp, by simp [El.rowB]⟩
theorem El.Row.push {P : Program} {T ty e te : TypeId} {bytes : Nat} {z : Value} (hT : P.underlying T = some (.slice e)) (hi : InfoIs P e E.sz bytes z) (hzs : z.cells.size = E.sz)
    {w : World} {p : Option Addr} {n c : Nat} {own : Option Nat} {R : List α} (h : E.Row w p n c own R) {x : α} (hx : E.Ok w x) (hd : ∀ b ∈ E.B x, b ∉ E.rowB own R) (h1 : n + 1 ≤ 2 ^ 47) (h2 : (n + 1) * bytes ≤ 2 ^ 47)
    {K : Option Addr → Nat → Nat → World → Prop}
    (hk : ∀ p' c' own' w', E.Row w' p' (n + 1) c' own' (R ++ [x]) → (∀ b ∈ E.rowB own' (R ++ [x]), b ∈ E.rowB own R ∨ b ∈ E.B x ∨ w.heap.size ≤ b) → Ch (fun b => own = some b) w w' → K p' (n + 1) c' w') :
    newB w (E.g x) te fun a w2 => ∃ p5 n7 c5 w3, Sem.run P (Builtin.append_ #[T, T] ty #[.slice p n c, .slice (some a) 1 1]) w2 = .ok (.slice p5 n7 c5) w3 ∧ K p5 n7 c5 w3 := by
  obtain ⟨hl, ho, hr, hnd⟩ := h
  subst hl
  refine push_ok (g := E.g) hT hi hzs E.glen E.gone ho x h1 h2 fun p' c' own' w' o' n' hch => ?_
  have e : (R ++ [x]).length = R.length + 1 := by simp
  rw [e] at o' ⊢
  have hxl : ∀ b ∈ E.B x, b < w.heap.size := E.lt hx
  have hRl : ∀ y ∈ R, ∀ b ∈ E.B y, b < w.heap.size := fun y hy => E.lt (hr y hy)
  have hnd2 : ∀ y ∈ R, ∀ b ∈ E.B y, own ≠ some b := fun y hy b hb he => by
    subst he
    have := (List.nodup_cons.1 (show (b :: R.flatMap E.B).Nodup by simpa [El.rowB] using hnd)).1
    exact this (List.mem_flatMap.2 ⟨y, hy, hb⟩)
  refine hk p' c' own' w' ⟨e, o', fun y hy => ?_, ?_⟩ (fun b hb => ?_) hch
  · rcases List.mem_append.1 hy with hy | hy
    · exact E.ch (hr y hy) hch fun b hb he => hnd2 y hy b hb he
    · rw [List.mem_singleton.1 hy]
      exact E.ch hx hch fun b hb he => hd b hb (El.mem_rowB.2 (.inl he))
  · have base : ((R ++ [x]).flatMap E.B).Nodup := by
      rw [List.flatMap_append, List.flatMap_singleton]
      refine List.nodup_append.2 ⟨?_, E.nd hx, fun a ha b hb he => ?_⟩
      · have : (own.toList ++ R.flatMap E.B).Nodup := hnd
        exact (List.nodup_append.1 this).2.1
      · subst he
        obtain ⟨y, hy, hy2⟩ := List.mem_flatMap.1 ha
        exact hd a hb (El.mem_rowB.2 (.inr ⟨y, hy, hy2⟩))
    unfold El.rowB
    cases own' with
    | none => simpa using base
    | some k =>
      refine List.nodup_cons.2 ⟨fun hm => ?_, base⟩
      obtain ⟨y, hy, hy2⟩ := List.mem_flatMap.1 hm
      rcases n' k rfl with q | q
      · rcases List.mem_append.1 hy with hy | hy
        · exact hnd2 y hy k hy2 q
        · rw [List.mem_singleton.1 hy] at hy2
          exact hd k hy2 (El.mem_rowB.2 (.inl q))
      · rcases List.mem_append.1 hy with hy | hy
        · have := hRl y hy k hy2; omega
        · rw [List.mem_singleton.1 hy] at hy2
          have := hxl k hy2; omega
  · rcases El.mem_rowB.1 hb with hb | ⟨y, hy, hb⟩
    · rcases n' b hb with q | q
      · exact .inl (El.mem_rowB.2 (.inl q))
      · exact .inr (.inr q)
    · rcases List.mem_append.1 hy with hy | hy
      · exact .inl (El.mem_rowB.2 (.inr ⟨y, hy, hb⟩))
      · rw [List.mem_singleton.1 hy] at hb
        exact .inr (.inl hb)
end
/-! ### Bytes; lists of bytes; lists of these -/
structure Rc where
  s : SL
  l : List UInt8
structure Bt where
  s : SL
  r : List Rc
/-- what batches say -/
def Bt.says (x : Bt) : List (List UInt8) := x.r.map (·.l)
end Go.Sv
namespace Go.Proofs.YtipbbjnmpnfhpaaGreatDoor
open Go Go.Sv Go.Heap Go.Qu Go.MapKept
set_option linter.unusedVariables false
set_option maxRecDepth 4000
/-- an entry in memory, with its bytes -/
structure Et where
  e : En
  l : List UInt8
  own : Option Nat
def EtE : El Et where
  g x := x.e.cells
  sz := 7
  B x := x.own.toList
  Ok w x := Ow w x.e.p x.e.n x.e.c 1 (bytesV x.l) x.own
  glen _ := rfl
  gone x := x.e.cells_one
  ch h c hn := h.ch c fun b hb => hn b (by simp [hb])
  lt h b hb := h.blt b (by simpa [Option.mem_toList] using hb)
  nd {_ x} _ := by cases x.own <;> simp
def Et.pe (x : Et) : PE := ⟨x.e.seq, x.e.pri, x.e.exp, x.e.dur, x.e.cnt, x.e.hold, x.l⟩
theorem EtE.len {w : World} {x : Et} (h : EtE.Ok w x) : x.l.length = x.e.n := by
  have := h.1
  simpa using this
theorem lt_pe (x y : Et) : x.e.lt y.e = x.pe.lt y.pe := rfl
def eB (F : List Et) : List Nat := F.flatMap EtE.B
theorem mem_eB {F : List Et} {b : Nat} : b ∈ eB F ↔ ∃ x ∈ F, x.own = some b := by
  unfold eB
  rw [List.mem_flatMap]
  simp only [EtE, Option.mem_toList, Option.mem_def]
theorem eB_app (F G : List Et) : eB (F ++ G) = eB F ++ eB G := List.flatMap_append
theorem eB_perm {F G : List Et} (h : F.Perm G) : (eB F).Perm (eB G) := h.flatMap_right _
theorem eB_cons (x : Et) (F : List Et) : eB (x :: F) = EtE.B x ++ eB F := rfl
def pairE (x : Et) : Value × Value := (.int .i64 x.e.seq, x.e.val)
def qcells (cf : Cfg) (s : Value) (r : Nat) (last : Int) : List Value := [.string cf.name, .int .i64 cf.most, .string cf.dead, .int .i64 cf.tries, .bool cf.dur, s, .map (some r), .int .i64 last]
/-- the queue's blocks -/
def qbl (qb r : Nat) (own : Option Nat) (F H : List Et) : List Nat := qb :: r :: (own.toList ++ eB (F ++ H))
structure QM (w : World) (qb : Nat) (cf : Cfg) (last : Int) (F H : List Et) (p : Option Addr) (c : Nat) (own : Option Nat) (r : Nat) : Prop where
  head : blk w qb = some (qcells cf (.slice p F.length c) r last)
  row : Ow w p F.length c 7 ((F.map (·.e)).flatMap En.cells) own
  map : ∃ m, Mp (.int .i64) w r m ∧ m.Perm (H.map pairE)
  dat : ∀ x ∈ F ++ H, EtE.Ok w x
  nd : (qbl qb r own F H).Nodup
theorem mem_qbl {qb r : Nat} {own : Option Nat} {F H : List Et} {b : Nat} : b ∈ qbl qb r own F H ↔ b = qb ∨ b = r ∨ own = some b ∨ b ∈ eB (F ++ H) := by
  simp [qbl, Option.mem_toList]
section
variable {w w' : World} {qb : Nat} {cf : Cfg} {last : Int} {F H : List Et} {p : Option Addr} {c : Nat} {own : Option Nat} {r : Nat}
theorem QM.lt (Q : QM w qb cf last F H p c own r) : ∀ b ∈ qbl qb r own F H, b < w.heap.size := fun b hb => by
  rcases mem_qbl.1 hb with rfl | rfl | h | h
  · exact blk_lt Q.head
  · obtain ⟨m, hm, _⟩ := Q.map; exact hm.lt
  · exact Q.row.blt b h
  · obtain ⟨x, hx, ho⟩ := mem_eB.1 h
    exact (Q.dat x hx).blt b ho
theorem QM.ch {S : Nat → Prop} (Q : QM w qb cf last F H p c own r) (hc : Ch S w w') (hn : ∀ b ∈ qbl qb r own F H, ¬ S b) : QM w' qb cf last F H p c own r := by
  refine ⟨by rw [hc.blk (blk_lt Q.head) (hn qb (mem_qbl.2 (.inl rfl)))]; exact Q.head, Q.row.ch hc fun k hk => hn k (mem_qbl.2 (.inr (.inr (.inl hk)))), ?_, fun x hx => EtE.ch (Q.dat x hx) hc fun b hb => hn b (mem_qbl.2 (.inr (.inr (.inr (mem_eB.2 ⟨x, hx, by simpa [EtE, Option.mem_toList] using hb⟩))))), Q.nd⟩
  obtain ⟨m, hm, hp⟩ := Q.map
  exact ⟨m, hm.ch hc (hn r (mem_qbl.2 (.inr (.inl rfl)))), hp⟩
theorem qbl_perm {F' H' : List Et} (h : (F ++ H).Perm (F' ++ H')) : (qbl qb r own F H).Perm (qbl qb r own F' H') := (((eB_perm h).append_left _).cons r).cons qb
theorem QM.ne_qr (Q : QM w qb cf last F H p c own r) : qb ≠ r := fun e => by
  have := (List.nodup_cons.1 Q.nd).1
  exact this (by rw [e]; simp)
theorem QM.ne_qo (Q : QM w qb cf last F H p c own r) : own ≠ some qb := fun e => by
  have := (List.nodup_cons.1 Q.nd).1
  exact this (by simp [e, Option.mem_toList])
theorem QM.ne_ro (Q : QM w qb cf last F H p c own r) : own ≠ some r := fun e => by
  have := (List.nodup_cons.1 (List.nodup_cons.1 Q.nd).2).1
  exact this (by simp [e, Option.mem_toList])
theorem QM.ne_qe (Q : QM w qb cf last F H p c own r) : qb ∉ eB (F ++ H) := fun e => by
  have := (List.nodup_cons.1 Q.nd).1
  exact this (by simp [e])
theorem QM.ne_re (Q : QM w qb cf last F H p c own r) : r ∉ eB (F ++ H) := fun e => by
  have := (List.nodup_cons.1 (List.nodup_cons.1 Q.nd).2).1
  exact this (by simp [e])
theorem QM.ne_oe (Q : QM w qb cf last F H p c own r) : ∀ b, own = some b → b ∉ eB (F ++ H) := fun b hb e => by
  subst hb
  have := (List.nodup_cons.1 (List.nodup_cons.1 Q.nd).2).2
  exact (List.nodup_cons.1 this).1 e
theorem QM.ndE (Q : QM w qb cf last F H p c own r) : (eB (F ++ H)).Nodup := by
  have := (List.nodup_cons.1 (List.nodup_cons.1 Q.nd).2).2
  exact (List.nodup_append.1 this).2.1
theorem qbl_nd (h1 : qb ≠ r) (h2 : own ≠ some qb) (h3 : own ≠ some r) (h4 : qb ∉ eB (F ++ H)) (h5 : r ∉ eB (F ++ H)) (h6 : ∀ b, own = some b → b ∉ eB (F ++ H)) (h7 : (eB (F ++ H)).Nodup) : (qbl qb r own F H).Nodup := by
  unfold qbl
  refine List.nodup_cons.2 ⟨?_, List.nodup_cons.2 ⟨?_, ?_⟩⟩
  · simp [Option.mem_toList, h1, h2, h4]
  · simp [Option.mem_toList, h3, h5]
  · cases own with
    | none => simpa using h7
    | some k => exact List.nodup_cons.2 ⟨h6 k rfl, h7⟩
end
theorem perm_lift' {α β : Type} {g : α → β} : ∀ {M : List β} {L : List α}, (L.map g).Perm M → ∃ L', L.Perm L' ∧ L'.map g = M
  | [], L, h => ⟨L, .refl _, by simpa using h.eq_nil⟩
  | m :: M, L, h => by
    obtain ⟨x, hx, rfl⟩ := List.mem_map.1 (h.mem_iff.2 (by simp : m ∈ m :: M))
    obtain ⟨l1, l2, rfl⟩ := List.append_of_mem hx
    have h2 : (g x :: (l1 ++ l2).map g).Perm (g x :: M) := ((List.perm_middle (l₁ := l1) (a := x) (l₂ := l2)).map g).symm.trans h
    obtain ⟨L', h3, h4⟩ := perm_lift' h2.cons_inv
    exact ⟨x :: L', List.perm_middle.trans (h3.cons x), by rw [List.map_cons, h4]⟩
/-- heap.Push at the queue's row -/
theorem qpush_ok {w : World} {qb : Nat} {cf : Cfg} {last : Int} {F H : List Et} {p : Option Addr} {c : Nat} {own : Option Nat} {r : Nat} {x : Et} {K : Value → World → Prop} (Q : QM w qb cf last F H p c own r) (hh : HeapFrom En.lt (atE (F.map (·.e))) F.length 0) (hn : F.length ≤ 2 ^ 39) (hx : EtE.Ok w x) (hd : ∀ b ∈ EtE.B x, b ∉ qbl qb r own F H)
    (hk : ∀ w' F' p' c' own', F'.Perm (x :: F) → HeapFrom En.lt (atE (F'.map (·.e))) F'.length 0 → QM w' qb cf last F' H p' c' own' r → (∀ b ∈ qbl qb r own' F' H, b ∈ qbl qb r own F H ∨ b ∈ EtE.B x ∨ w.heap.size ≤ b) → Ch (fun b => own = some b ∨ b = qb) w w' → K (.tuple #[]) w') :
    callP Tryz.prog 47 [fH ⟨qb, 5, none⟩, .iface 34 x.e.val] w K := by
  refine hpush_ok Q.head (o := 5) (p := p) (n := F.length) (c := c) (L := F.map (·.e)) rfl Q.ne_qo Q.row (by simp) hn hh fun w' p' c' own' L' hp hheap hb' ho' hnew hch => ?_
  obtain ⟨F', hp', rfl⟩ := perm_lift' (g := fun x : Et => x.e) (L := F ++ [x]) (M := L') (by rw [List.map_append]; exact hp.symm)
  have hp2 : F'.Perm (x :: F) := hp'.symm.trans (List.perm_append_singleton ..)
  have hlen : F'.length = F.length + 1 := by rw [hp2.length_eq]; rfl
  have hpe : (F' ++ H).Perm (x :: (F ++ H)) := hp2.append_right H
  have hmem : ∀ b, b ∈ eB (F' ++ H) → b ∈ EtE.B x ∨ b ∈ eB (F ++ H) := fun b hb => by
    rw [(eB_perm hpe).mem_iff, eB_cons] at hb
    exact List.mem_append.1 hb
  have hxl := EtE.lt hx
  have hS : ∀ b, b ∈ eB (F' ++ H) → ¬ (own = some b ∨ b = qb) := fun b hb h => by
    rcases hmem b hb with q | q
    · rcases h with h | h
      · exact hd b q (mem_qbl.2 (.inr (.inr (.inl h))))
      · exact hd b q (mem_qbl.2 (.inl h))
    · rcases h with h | h
      · exact Q.ne_oe b h q
      · exact Q.ne_qe (h ▸ q)
  have hlt := Q.lt
  refine hk w' F' p' c' own' hp2 (by rw [hlen]; exact hheap) ⟨?_, by rw [hlen]; exact ho', ?_, fun y hy => ?_, ?_⟩ (fun b hb => ?_) hch
  · rw [hb', hlen]; rfl
  · obtain ⟨m, hm, hmp⟩ := Q.map
    exact ⟨m, hm.ch hch fun h => by
      rcases h with h | h
      · exact Q.ne_ro h
      · exact Q.ne_qr h.symm, hmp⟩
  · have hy2 : EtE.Ok w y := by
      rcases List.mem_cons.1 (hpe.mem_iff.1 hy) with e | e
      · rw [e]; exact hx
      · exact Q.dat y e
    exact EtE.ch hy2 hch fun b hb => hS b (mem_eB.2 ⟨y, hy, by simpa [EtE, Option.mem_toList] using hb⟩)
  · have hown : ∀ b, own' = some b → own = some b ∨ w.heap.size ≤ b := hnew
    refine qbl_nd Q.ne_qr (fun h => ?_) (fun h => ?_) (fun h => ?_) (fun h => ?_) (fun b hb h => ?_) ?_
    · rcases hown _ h with h | h
      · exact Q.ne_qo h
      · have := hlt qb (mem_qbl.2 (.inl rfl)); omega
    · rcases hown _ h with h | h
      · exact Q.ne_ro h
      · have := hlt r (mem_qbl.2 (.inr (.inl rfl))); omega
    · exact hS qb h (.inr rfl)
    · rcases hmem r h with q | q
      · exact hd r q (mem_qbl.2 (.inr (.inl rfl)))
      · exact Q.ne_re q
    · rcases hown b hb with q | q
      · exact hS b h (.inl q)
      · rcases hmem b h with z | z
        · have := hxl b z; omega
        · have := hlt b (mem_qbl.2 (.inr (.inr (.inr z)))); omega
    · rw [(eB_perm hpe).nodup_iff, eB_cons]
      refine List.nodup_append.2 ⟨EtE.nd hx, Q.ndE, fun a ha b hb e => ?_⟩
      subst e
      exact hd a ha (mem_qbl.2 (.inr (.inr (.inr hb))))
  · rcases mem_qbl.1 hb with h | h | h | h
    · exact .inl (mem_qbl.2 (.inl h))
    · exact .inl (mem_qbl.2 (.inr (.inl h)))
    · rcases hnew b h with q | q
      · exact .inl (mem_qbl.2 (.inr (.inr (.inl q))))
      · exact .inr (.inr q)
    · rcases hmem b h with q | q
      · exact .inr (.inl q)
      · exact .inl (mem_qbl.2 (.inr (.inr (.inr q))))
/-- heap.Pop at the queue's row -/
theorem qpop_ok {w : World} {qb : Nat} {cf : Cfg} {last : Int} {F H : List Et} {p : Option Addr} {c : Nat} {own : Option Nat} {r : Nat} {K : Value → World → Prop} (Q : QM w qb cf last F H p c own r) (hh : HeapFrom En.lt (atE (F.map (·.e))) F.length 0) (hn : F.length ≤ 2 ^ 39) (h0 : F ≠ [])
    (hk : ∀ w' F' x, F.Perm (x :: F') → (∀ y ∈ F', y.pe.lt x.pe = false) → HeapFrom En.lt (atE (F'.map (·.e))) F'.length 0 → QM w' qb cf last F' H p c own r → EtE.Ok w' x → (∀ b ∈ EtE.B x, b ∈ qbl qb r own F H ∧ b ∉ qbl qb r own F' H) → (∀ b ∈ qbl qb r own F' H, b ∈ qbl qb r own F H) → Ch (fun b => own = some b ∨ b = qb) w w' → K (.iface 34 x.e.val) w') :
    callP Tryz.prog 49 [fH ⟨qb, 5, none⟩] w K := by
  obtain ⟨m, hm⟩ : ∃ m, F.length = m + 1 := ⟨F.length - 1, by have := List.length_pos_iff.2 h0; omega⟩
  have hhead := Q.head
  have hrow := Q.row
  rw [hm] at hhead hrow hh
  refine hpop_ok hhead (o := 5) (p := p) (m := m) (c := c) (L := F.map (·.e)) rfl Q.ne_qo hrow (by simp [hm]) (by omega) hh fun w' G hp hl hheap hb' ho' hch => ?_
  obtain ⟨F2, hp2, he⟩ := perm_lift' (g := fun x : Et => x.e) (L := F) (M := G ++ [atE (F.map (·.e)) 0]) hp.symm
  obtain ⟨F', z, rfl, rfl, hz⟩ := List.map_eq_append_iff.1 he
  obtain ⟨x, rfl, hxe⟩ : ∃ x, z = [x] ∧ x.e = atE (F.map (·.e)) 0 := by
    cases z with
    | nil => simp at hz
    | cons x z =>
      simp only [List.map_cons, List.cons.injEq, List.map_eq_nil_iff] at hz
      exact ⟨x, by rw [hz.2], hz.1⟩
  have hp3 : F.Perm (x :: F') := hp2.trans (List.perm_append_singleton ..)
  have hl' : F'.length = m := by simpa using hl
  have hpe : (F ++ H).Perm (x :: (F' ++ H)) := hp3.append_right H
  have hnd : (EtE.B x ++ eB (F' ++ H)).Nodup := by rw [← eB_cons, ← (eB_perm hpe).nodup_iff]; exact Q.ndE
  have hsub : ∀ b, b ∈ EtE.B x ++ eB (F' ++ H) → b ∈ eB (F ++ H) := fun b hb => by rw [(eB_perm hpe).mem_iff, eB_cons]; exact hb
  have hS : ∀ b, b ∈ eB (F ++ H) → ¬ (own = some b ∨ b = qb) := fun b hb h => by
    rcases h with h | h
    · exact Q.ne_oe b h hb
    · exact Q.ne_qe (h ▸ hb)
  have hdat : ∀ y ∈ F ++ H, EtE.Ok w' y := fun y hy => EtE.ch (Q.dat y hy) hch fun b hb => hS b (mem_eB.2 ⟨y, hy, by simpa [EtE, Option.mem_toList] using hb⟩)
  have hfirst := heap_first En.ord En.irr hh
  refine hxe ▸ hk w' F' x hp3 (fun y hy => ?_) (by rw [hl']; exact hheap) ⟨by rw [hb', hl']; rfl, by rw [hl']; exact ho', ?_, fun y hy => hdat y (hpe.mem_iff.2 (List.mem_cons_of_mem _ hy)), ?_⟩ (hdat x (hpe.mem_iff.2 (by simp))) (fun b hb => ⟨mem_qbl.2 (.inr (.inr (.inr (hsub b (List.mem_append_left _ hb))))), fun h => ?_⟩) (fun b hb => ?_) hch
  · have hyF : y.e ∈ F.map (·.e) := List.mem_map.2 ⟨y, hp3.mem_iff.2 (List.mem_cons_of_mem _ hy), rfl⟩
    obtain ⟨i, hi⟩ := List.getElem?_of_mem hyF
    have hil := (List.getElem?_eq_some_iff.1 hi).1
    have := hfirst i (by simpa [hm] using hil)
    rw [← lt_pe, hxe]
    have e : atE (F.map (·.e)) i = y.e := by unfold atE; rw [hi]; rfl
    rw [← e]; exact this
  · obtain ⟨m', hm', hmp⟩ := Q.map
    exact ⟨m', hm'.ch hch fun h => by
      rcases h with h | h
      · exact Q.ne_ro h
      · exact Q.ne_qr h.symm, hmp⟩
  · exact qbl_nd Q.ne_qr Q.ne_qo Q.ne_ro (fun h => Q.ne_qe (hsub _ (List.mem_append_right _ h))) (fun h => Q.ne_re (hsub _ (List.mem_append_right _ h))) (fun b hb h => Q.ne_oe b hb (hsub _ (List.mem_append_right _ h))) (List.nodup_append.1 hnd).2.1
  · have hb2 := hsub b (List.mem_append_left _ hb)
    rcases mem_qbl.1 h with h | h | h | h
    · exact Q.ne_qe (h ▸ hb2)
    · exact Q.ne_re (h ▸ hb2)
    · exact Q.ne_oe b h hb2
    · exact (List.nodup_append.1 hnd).2.2 b hb b h rfl
  · rcases mem_qbl.1 hb with h | h | h | h
    · exact mem_qbl.2 (.inl h)
    · exact mem_qbl.2 (.inr (.inl h))
    · exact mem_qbl.2 (.inr (.inr (.inl h)))
    · exact mem_qbl.2 (.inr (.inr (.inr (hsub b (List.mem_append_right _ h)))))
end Go.Proofs.YtipbbjnmpnfhpaaGreatDoor
namespace Go.Proofs.YtipbbjnmpnfhpaaGreatDoor
open Go Go.Sv Go.Heap Go.Qu Go.MapKept
set_option linter.unusedVariables false
set_option maxRecDepth 4000
structure QF (A : AQ) (F H : List Et) : Prop where
  heap : HeapFrom En.lt (atE (F.map (·.e))) F.length 0
  perm : ((F ++ H).map Et.pe).Perm A.L
  free : ∀ x ∈ F, x.e.hold = 0
  held : ∀ x ∈ H, x.e.hold ≠ 0
structure QK (w : World) (qb : Nat) (A : AQ) (B : Nat → Prop) : Prop where
  wf : WQ A
  ex : ∃ F H p c own r, QM w qb A.cf A.last F H p c own r ∧ QF A F H ∧ B = fun b => b ∈ qbl qb r own F H
theorem QK.ch {S : Nat → Prop} {w w' : World} {qb : Nat} {A : AQ} {B : Nat → Prop} (Q : QK w qb A B) (hc : Ch S w w') (hn : ∀ b, B b → ¬ S b) : QK w' qb A B := by
  obtain ⟨wf, F, H, p, c, own, r, M, E, rfl⟩ := Q
  exact ⟨wf, F, H, p, c, own, r, M.ch hc hn, E, rfl⟩
theorem QK.lt {w : World} {qb : Nat} {A : AQ} {B : Nat → Prop} (Q : QK w qb A B) : ∀ b, B b → b < w.heap.size := by
  obtain ⟨wf, F, H, p, c, own, r, M, E, rfl⟩ := Q
  exact M.lt
theorem QK.qb {w : World} {qb : Nat} {A : AQ} {B : Nat → Prop} (Q : QK w qb A B) : B qb := by
  obtain ⟨wf, F, H, p, c, own, r, M, E, rfl⟩ := Q
  exact mem_qbl.2 (.inl rfl)
abbrev QPost (w : World) (qb : Nat) (A' : AQ) (B : Nat → Prop) (K : World → (Nat → Prop) → Prop) : Prop := ∀ w' B', QK w' qb A' B' → Ch B w w' → (∀ b, B' b → B b ∨ w.heap.size ≤ b) → K w' B'
/-- an entry that came out: its bytes are its owner's -/
structure Out (w : World) (B B' : Nat → Prop) (n : Nat) (x : Et) : Prop where
  ok : EtE.Ok w x
  off : ∀ b, x.own = some b → ¬ B' b ∧ (B b ∨ n ≤ b)
def Ez : Et := ⟨⟨0, 0, 0, false, 0, 0, none, 0, 0⟩, [], none⟩
def Pz : PE := ⟨0, 0, 0, false, 0, 0, []⟩
theorem Ez_ok (w : World) : EtE.Ok w Ez := ⟨rfl, Nat.le_refl _, .inl ⟨rfl, rfl⟩⟩
section
variable {w : World} {A : AQ} {F H : List Et}
theorem QF.all (E : QF A F H) {x : Et} (h : x ∈ F ++ H) : x.pe ∈ A.L := E.perm.mem_iff.1 (List.mem_map.2 ⟨x, h, rfl⟩)
theorem QF.fr (E : QF A F H) : (F.map Et.pe).Perm (A.L.filter isFree) := by
  have h := E.perm.filter isFree
  rw [List.map_append, List.filter_append] at h
  have h1 : (F.map Et.pe).filter isFree = F.map Et.pe := List.filter_eq_self.2 fun y hy => by
    obtain ⟨x, hx, rfl⟩ := List.mem_map.1 hy
    simp [isFree, Et.pe, E.free x hx]
  have h2 : (H.map Et.pe).filter isFree = [] := List.filter_eq_nil_iff.2 fun y hy => by
    obtain ⟨x, hx, rfl⟩ := List.mem_map.1 hy
    simp [isFree, Et.pe, E.held x hx]
  rw [h1, h2, List.append_nil] at h
  exact h
theorem QF.frees (E : QF A F H) (W : WQ A) {S : List PE} (hs : Sorted S) (hp : S.Perm (F.map Et.pe)) : S = A.frees := ordered_filter isFree W.nd hs (hp.trans E.fr)
theorem QF.ndq (E : QF A F H) (W : WQ A) : ((F ++ H).map fun x : Et => x.e.seq).Nodup := by
  have h := W.nd
  rw [← (E.perm.map (·.seq)).nodup_iff, List.map_map] at h
  exact h
theorem QF.ndf (E : QF A F H) (W : WQ A) : (F.map fun x : Et => x.e.seq).Nodup := by
  have := E.ndq W
  rw [List.map_append] at this
  exact (List.nodup_append.1 this).1
theorem QF.len (E : QF A F H) : F.length + H.length = A.L.length := by
  have := E.perm.length_eq
  simpa using this
end
/-- the first of a sorted row -/
theorem ordered_min {F F' : List Et} {x : Et} (hn : (F.map fun x : Et => x.e.seq).Nodup) (hp : F.Perm (x :: F')) (hm : ∀ y ∈ F', y.pe.lt x.pe = false) : ordered (F.map Et.pe) = x.pe :: ordered (F'.map Et.pe) := by
  have hn1 : ((F.map Et.pe).map (·.seq)).Nodup := by rw [List.map_map]; exact hn
  have hn2 : ((x :: F').map fun x : Et => x.e.seq).Nodup := by rw [← (hp.map _).nodup_iff]; exact hn
  rw [List.map_cons] at hn2
  obtain ⟨g1, g2⟩ := List.nodup_cons.1 hn2
  have hn3 : ((F'.map Et.pe).map (·.seq)).Nodup := by rw [List.map_map]; exact g2
  refine ((ordered_eq hn1 (List.pairwise_cons.2 ⟨fun z hz => ?_, ordered_sorted hn3⟩) ?_)).symm
  · obtain ⟨y, hy, rfl⟩ := List.mem_map.1 ((ordered_perm _).mem_iff.1 hz)
    exact PE.tri (fun e => g1 (List.mem_map.2 ⟨y, hy, e⟩)) (hm y hy)
  · exact ((ordered_perm _).cons _).trans ((hp.map Et.pe).symm)
end Go.Proofs.YtipbbjnmpnfhpaaGreatDoor
namespace Go.Proofs.YtipbbjnmpnfhpaaGreatDoor
open Go Go.Sv Go.Heap Go.Qu Go.MapKept
set_option linter.unusedVariables false
set_option maxRecDepth 4000
/-- an entry's cells, written over -/
theorem re7 {w : World} {k : Nat} {e0 : En} (e : En) {K : World → Prop} (h : blk w k = some e0.cells) (hk : ∀ w', blk w' k = some e.cells → Ch (· = k) w w' → w'.heap.size = w.heap.size → K w') :
    Sv.st w (Addr.add ⟨k, 0, none⟩ 0) (.int .i64 e.seq) fun w => Sv.st w (Addr.add ⟨k, 0, none⟩ 1) (.int .i64 e.pri) fun w => Sv.st w (Addr.add ⟨k, 0, none⟩ 2) (.int .i64 e.exp) fun w => Sv.st w (Addr.add ⟨k, 0, none⟩ 3) (.bool e.dur) fun w => Sv.st w (Addr.add ⟨k, 0, none⟩ 4) (.int .i64 e.cnt) fun w => Sv.st w (Addr.add ⟨k, 0, none⟩ 5) (.int .i64 e.hold) fun w => Sv.st w (Addr.add ⟨k, 0, none⟩ 6) (.slice e.p e.n e.c) K := by
  simp only [add_at]
  exact st_all [.int .i64 e.seq, .int .i64 e.pri, .int .i64 e.exp, .bool e.dur, .int .i64 e.cnt, .int .i64 e.hold, .slice e.p e.n e.c] 0 (K := K) h (Nat.le_refl _) fun w' b c y => hk w' b c y
/-- an entry in a box -/
theorem boxE {w : World} {t : TypeId} {e0 : En} (e : En) {K : Addr → World → Prop} (hk : ∀ w', blk w' w.heap.size = some e.cells → Ch (fun _ => False) w w' → w'.heap.size = w.heap.size + 1 → K ⟨w.heap.size, 0, none⟩ w') :
    newB w e0.cells t fun a w => Sv.st w (Addr.add a 0) (.int .i64 e.seq) fun w => Sv.st w (Addr.add a 1) (.int .i64 e.pri) fun w => Sv.st w (Addr.add a 2) (.int .i64 e.exp) fun w => Sv.st w (Addr.add a 3) (.bool e.dur) fun w => Sv.st w (Addr.add a 4) (.int .i64 e.cnt) fun w => Sv.st w (Addr.add a 5) (.int .i64 e.hold) fun w => Sv.st w (Addr.add a 6) (.slice e.p e.n e.c) fun w => K a w := by
  refine newB_blk fun w1 b1 c1 z1 => re7 e b1 fun w2 b2 c2 z2 => hk w2 b2 (c1.trans c2 fun x hx h => by omega) (by omega)
/-- a value that is seen to be an entry -/
theorem isE {e : En} {K : Int → Int → Int → Bool → Int → Int → Option Addr → Nat → Nat → Prop} (hk : K e.seq e.pri e.exp e.dur e.cnt e.hold e.p e.n e.c) :
    ∃ n n1 n2 b n3 n4 p n5 c, e.val = .agg #[.int .i64 n, .int .i64 n1, .int .i64 n2, .bool b, .int .i64 n3, .int .i64 n4, .slice p n5 c] ∧ K n n1 n2 b n3 n4 p n5 c := ⟨_, _, _, _, _, _, _, _, _, rfl, hk⟩
/-- .. with the places reckoned -/
theorem rdN {w : World} {k : Nat} {e : En} {K : Int → Int → Int → Bool → Int → Int → Option Addr → Nat → Nat → Prop} (h : blk w k = some e.cells) (hk : K e.seq e.pri e.exp e.dur e.cnt e.hold e.p e.n e.c) :
    ∃ n, w.cell? ⟨k, 0, none⟩ = some (.int .i64 n) ∧ ∃ n1, w.cell? ⟨k, 1, none⟩ = some (.int .i64 n1) ∧ ∃ n2, w.cell? ⟨k, 2, none⟩ = some (.int .i64 n2) ∧ ∃ b, w.cell? ⟨k, 3, none⟩ = some (.bool b) ∧
      ∃ n3, w.cell? ⟨k, 4, none⟩ = some (.int .i64 n3) ∧ ∃ n4, w.cell? ⟨k, 5, none⟩ = some (.int .i64 n4) ∧ ∃ p n5 c, w.cell? ⟨k, 6, none⟩ = some (.slice p n5 c) ∧ K n n1 n2 b n3 n4 p n5 c := by
  simp only [cell_blk h]
  exact ⟨_, rfl, _, rfl, _, rfl, _, rfl, _, rfl, _, rfl, _, _, _, rfl, hk⟩
theorem reN {w : World} {k : Nat} {e0 e : En} {K : World → Prop} (h : blk w k = some e0.cells) (hk : ∀ w', blk w' k = some e.cells → Ch (· = k) w w' → w'.heap.size = w.heap.size → K w') :
    Sv.st w ⟨k, 0, none⟩ (.int .i64 e.seq) fun w => Sv.st w ⟨k, 1, none⟩ (.int .i64 e.pri) fun w => Sv.st w ⟨k, 2, none⟩ (.int .i64 e.exp) fun w => Sv.st w ⟨k, 3, none⟩ (.bool e.dur) fun w => Sv.st w ⟨k, 4, none⟩ (.int .i64 e.cnt) fun w => Sv.st w ⟨k, 5, none⟩ (.int .i64 e.hold) fun w => Sv.st w ⟨k, 6, none⟩ (.slice e.p e.n e.c) fun w => K w := 
  st_all [.int .i64 e.seq, .int .i64 e.pri, .int .i64 e.exp, .bool e.dur, .int .i64 e.cnt, .int .i64 e.hold, .slice e.p e.n e.c] 0 (K := K) h (Nat.le_refl _) fun w' b c y => hk w' b c y
theorem newE {w : World} {t : TypeId} {e0 e : En} {K : Addr → World → Prop} (hk : ∀ w', blk w' w.heap.size = some e.cells → Ch (fun _ => False) w w' → w'.heap.size = w.heap.size + 1 → K ⟨w.heap.size, 0, none⟩ w') :
    newB w e0.cells t fun a w => Sv.st w (Addr.add a 0) (.int .i64 e.seq) fun w => Sv.st w (Addr.add a 1) (.int .i64 e.pri) fun w => Sv.st w (Addr.add a 2) (.int .i64 e.exp) fun w => Sv.st w (Addr.add a 3) (.bool e.dur) fun w => Sv.st w (Addr.add a 4) (.int .i64 e.cnt) fun w => Sv.st w (Addr.add a 5) (.int .i64 e.hold) fun w => Sv.st w (Addr.add a 6) (.slice e.p e.n e.c) fun w => K a w := boxE e hk
theorem own_ok {w : World} {e : En} {l : List UInt8} {K : Value → World → Prop} (h : Rd w e.p e.n 1 (bytesV l)) (hn : e.n ≤ 2 ^ 46)
    (hk : ∀ w' x, EtE.Ok w' x → x.pe = ⟨e.seq, e.pri, e.exp, e.dur, e.cnt, e.hold, l⟩ → (∀ k, x.own = some k → w.heap.size ≤ k) → Ch (fun _ => False) w w' → K x.e.val w') : callP Tryz.prog 27 [e.val] w K := by
  refine ok_queue_own ?_
  unfold wp_queue_own
  refine newB_blk fun w1 b1 c1 z1 => newB_blk fun w2 b2 c2 z2 => ?_
  have b1' : blk w2 w.heap.size = some e.cells := by rw [c2.blk (blk_lt b1) id]; exact b1
  refine ⟨e.p, e.n, e.c, by simp only [add_at]; rw [cell_blk b1']; rfl, ?_⟩
  refine qclone_ok (l := l) ((h.ch c1 fun _ _ _ => id).ch c2 fun _ _ _ => id) hn fun p' c' w3 b' o3 n3 c3 => ⟨_, _, _, rfl, ?_⟩
  have hl := blk_lt b1'
  have b13 : blk w3 w.heap.size = some e.cells := by rw [c3.blk hl id]; exact b1'
  have b23 : blk w3 w1.heap.size = some En0.cells := by rw [c3.blk (blk_lt b2) id]; exact b2
  simp only [add_at, Nat.zero_add]
  refine st_blk b13 (by simp [En.cells]) fun w4 b14 c4 z4 => ?_
  have b24 : blk w4 w1.heap.size = some En0.cells := by rw [c4.blk (blk_lt b23) (by omega)]; exact b23
  refine rdN (e := { e with p := p', c := c' }) b14 ?_
  refine reN (e := { e with p := p', c := c' }) b24 fun w11 b11 c11 z11 => rdN b11 ?_
  have hch : Ch (fun b => b = w.heap.size ∨ b = w1.heap.size) w3 w11 := (c4.mono fun _ _ h => .inl h).trans (c11.mono fun _ _ h => .inr h) fun _ _ h => h
  refine hk w11 ⟨{ e with p := p', c := c' }, l, b'⟩ (o3.ch hch fun k hk h => ?_) rfl (fun k hk => ?_) ((((c1.trans' c2).trans' c3)).trans hch fun x hx h => by omega)
  · have := n3 k hk; omega
  · have := n3 k hk; omega
end Go.Proofs.YtipbbjnmpnfhpaaGreatDoor
namespace Go.Sv
open Go
/-- a number in a row -/
def iC (n : Int) : List Value := [.int .i64 n]
theorem iC_len (n : Int) : (iC n).length = 1 := rfl
theorem iC_one (n : Int) : ∀ v ∈ iC n, oneV v = true := by
  intro v hv; simp [iC] at hv; rw [hv]; rfl
theorem iC_flat (l : List Int) : l.flatMap iC = l.map (Value.int .i64) := by
  induction l with
  | nil => rfl
  | cons x l ih => simp [iC, ih]
end Go.Sv
