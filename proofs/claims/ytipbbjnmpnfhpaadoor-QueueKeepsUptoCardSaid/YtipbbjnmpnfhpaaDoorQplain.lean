/-
  A queue, plain: its entries as they are, their order, what each call answers. Over every program.
-/
import Derived.Test.YtipbbjnmpnfhpaaDoorQheap
namespace Go.Qu
set_option linter.unusedVariables false
/-- an entry, as it is -/
structure PE where
  seq : Int
  pri : Int
  exp : Int
  dur : Bool
  cnt : Int
  hold : Int
  l : List UInt8
def PE.lt (a b : PE) : Bool := decide (b.pri < a.pri) || (decide (a.pri = b.pri) && decide (a.seq < b.seq))
theorem PE.irr (a : PE) : a.lt a = false := by unfold PE.lt; simp
theorem PE.as {a b : PE} (h : a.lt b = true) : b.lt a = false := by
  unfold PE.lt at *
  simp only [Bool.or_eq_true, Bool.and_eq_true, decide_eq_true_eq, Bool.or_eq_false_iff, Bool.and_eq_false_iff, decide_eq_false_iff_not] at *
  omega
theorem PE.tr {a b c : PE} (h : a.lt b = true) (k : b.lt c = true) : a.lt c = true := by
  unfold PE.lt at *
  simp only [Bool.or_eq_true, Bool.and_eq_true, decide_eq_true_eq] at *
  omega
theorem PE.tri {a b : PE} (h : a.seq ≠ b.seq) (k : a.lt b = false) : b.lt a = true := by
  unfold PE.lt at *
  simp only [Bool.or_eq_true, Bool.and_eq_true, decide_eq_true_eq, Bool.or_eq_false_iff, Bool.and_eq_false_iff, decide_eq_false_iff_not] at *
  omega
/-- what is sorted by a strict order is sorted in one way alone -/
theorem sorted_one {α : Type} {r : α → α → Prop} (as : ∀ a b, r a b → ¬ r b a) : ∀ {L M : List α}, L.Pairwise r → M.Pairwise r → L.Perm M → L = M
  | [], M, _, _, h => (List.Perm.nil_eq h)
  | x :: L, [], _, _, h => absurd h.length_eq (by simp)
  | x :: L, y :: M, hL, hM, h => by
    obtain ⟨h1, h2⟩ := List.pairwise_cons.1 hL
    obtain ⟨k1, k2⟩ := List.pairwise_cons.1 hM
    have e : x = y := by
      rcases List.mem_cons.1 (h.mem_iff.1 (List.mem_cons_self (a := x) (l := L))) with e | e
      · exact e
      · rcases List.mem_cons.1 (h.mem_iff.2 (List.mem_cons_self (a := y) (l := M))) with e2 | e2
        · exact e2.symm
        · exact absurd (k1 x e) (as _ _ (h1 y e2))
    subst e
    rw [sorted_one as h2 k2 h.cons_inv]
abbrev Sorted (L : List PE) : Prop := L.Pairwise fun a b => a.lt b = true
theorem Sorted.one {L M : List PE} (h : Sorted L) (k : Sorted M) (p : L.Perm M) : L = M := sorted_one (fun a b h k => by rw [PE.as h] at k; cases k) h k p
/-- an entry behind those that are ahead of it -/
def insP (x : PE) : List PE → List PE
  | [] => [x]
  | y :: l => if y.lt x = true then y :: insP x l else x :: y :: l
def ordered (L : List PE) : List PE := L.foldl (fun acc x => insP x acc) []
theorem insP_perm (x : PE) : ∀ L, (insP x L).Perm (x :: L)
  | [] => .refl _
  | y :: l => by
    unfold insP; split
    · exact ((insP_perm x l).cons y).trans (.swap ..)
    · exact .refl _
theorem insP_sorted {x : PE} : ∀ {L : List PE}, Sorted L → (∀ y ∈ L, y.seq ≠ x.seq) → Sorted (insP x L)
  | [], _, _ => by simp [insP, Sorted]
  | y :: l, h, hn => by
    obtain ⟨h1, h2⟩ := List.pairwise_cons.1 h
    unfold insP; split
    · rename_i hy
      refine List.pairwise_cons.2 ⟨fun z hz => ?_, insP_sorted h2 fun z hz => hn z (List.mem_cons_of_mem _ hz)⟩
      rcases List.mem_cons.1 ((insP_perm x l).mem_iff.1 hz) with e | e
      · rw [e]; exact hy
      · exact h1 z e
    · rename_i hy
      have hy : x.lt y = true := PE.tri (hn y (by simp)) (by simpa using hy)
      refine List.pairwise_cons.2 ⟨fun z hz => ?_, h⟩
      rcases List.mem_cons.1 hz with e | e
      · rw [e]; exact hy
      · exact PE.tr hy (h1 z e)
theorem foldIns_perm : ∀ (L acc : List PE), (L.foldl (fun acc x => insP x acc) acc).Perm (acc ++ L)
  | [], acc => by simp
  | x :: L, acc => by
    rw [List.foldl_cons]
    refine (foldIns_perm L _).trans ?_
    have h1 := (insP_perm x acc).append_right L
    exact h1.trans (by rw [List.cons_append]; exact List.perm_middle.symm)
theorem foldIns_sorted : ∀ (L acc : List PE), Sorted acc → (∀ x ∈ L, ∀ y ∈ acc, y.seq ≠ x.seq) → (L.map (·.seq)).Nodup → Sorted (L.foldl (fun acc x => insP x acc) acc)
  | [], acc, h, _, _ => h
  | x :: L, acc, h, hn, hd => by
    rw [List.map_cons] at hd
    obtain ⟨d1, d2⟩ := List.nodup_cons.1 hd
    rw [List.foldl_cons]
    refine foldIns_sorted L _ (insP_sorted h fun y hy => hn x (by simp) y hy) (fun z hz y hy => ?_) d2
    rcases List.mem_cons.1 ((insP_perm x acc).mem_iff.1 hy) with e | e
    · rw [e]; exact fun e2 => d1 (List.mem_map.2 ⟨z, hz, e2.symm⟩)
    · exact hn z (List.mem_cons_of_mem _ hz) y e
theorem ordered_perm (L : List PE) : (ordered L).Perm L := by simpa [ordered] using foldIns_perm L []
theorem ordered_sorted {L : List PE} (h : (L.map (·.seq)).Nodup) : Sorted (ordered L) := foldIns_sorted L [] .nil (fun _ _ _ h => by simp at h) h
theorem ordered_eq {L M : List PE} (h : (L.map (·.seq)).Nodup) (hM : Sorted M) (p : M.Perm L) : M = ordered L := hM.one (ordered_sorted h) (p.trans (ordered_perm L).symm)
theorem ordered_filter {L M : List PE} (f : PE → Bool) (h : (L.map (·.seq)).Nodup) (hM : Sorted M) (p : M.Perm (L.filter f)) : M = (ordered L).filter f :=
  hM.one ((ordered_sorted h).filter f) (p.trans ((ordered_perm L).filter f).symm)

/-- with what a queue is made -/
structure Cfg where
  name : ByteArray
  most : Int
  dead : ByteArray
  tries : Int
  dur : Bool
/-- a queue -/
structure AQ where
  cf : Cfg
  L : List PE
  last : Int
structure EOk (e : PE) : Prop where
  seq : 1 ≤ e.seq
  pri0 : 0 ≤ e.pri
  pri9 : e.pri ≤ 9
  exp0 : -1 ≤ e.exp
  exp1 : e.exp ≤ 1125899906842624
  cnt0 : 0 ≤ e.cnt
  cnt1 : e.cnt ≤ 4294967295
  hold : 0 ≤ e.hold
  len : e.l.length ≤ 1048576
structure WQ (A : AQ) : Prop where
  most1 : 1 ≤ A.cf.most
  most2 : A.cf.most ≤ 4096
  tries0 : 0 ≤ A.cf.tries
  tries1 : A.cf.tries ≤ 4294967295
  asc : A.L.Pairwise fun a b => a.seq < b.seq
  ok : ∀ e ∈ A.L, EOk e
  last : ∀ e ∈ A.L, e.seq ≤ A.last
  len : (A.L.length : Int) ≤ A.cf.most
  lo : 0 ≤ A.last
  hi : A.last ≤ 9223372036854775807
theorem asc_nodup {L : List PE} (h : L.Pairwise fun a b => a.seq < b.seq) : (L.map (·.seq)).Nodup := by
  unfold List.Nodup
  rw [List.pairwise_map]
  exact h.imp fun h e => by omega
theorem WQ.nd {A : AQ} (h : WQ A) : (A.L.map (·.seq)).Nodup := asc_nodup h.asc
def isFree (e : PE) : Bool := decide (e.hold = 0)
def putBad (A : AQ) (e : PE) : Prop := e.seq ≤ A.last ∨ e.seq < 1 ∨ e.pri < 0 ∨ 9 < e.pri ∨ e.exp < -1 ∨ 1125899906842624 < e.exp ∨ e.cnt < 0 ∨ 4294967295 < e.cnt ∨ e.hold ≠ 0
instance (A : AQ) (e : PE) : Decidable (putBad A e) := by unfold putBad; infer_instance
def AQ.put (A : AQ) (e : PE) : Int × AQ :=
  if putBad A e then (171, A) else if 1048576 < e.l.length then (2, A) else if A.cf.most ≤ (A.L.length : Int) then (170, A) else (0, { A with L := A.L ++ [e], last := e.seq })
def setHold (q h : Int) (L : List PE) : List PE := L.map fun x => if x.seq = q then { x with hold := h } else x
/-- those that are asked, up to the first that fits -/
def asked (fit : PE → Bool) : List PE → List PE
  | [] => []
  | x :: l => if fit x = true then [x] else x :: asked fit l
def AQ.frees (A : AQ) : List PE := (ordered A.L).filter isFree
def AQ.take (A : AQ) (h : Int) (fit : PE → Bool) : Option PE × AQ :=
  if h < 1 then (none, A) else match A.frees.find? fit with
    | none => (none, A)
    | some x => (some { x with hold := h }, { A with L := setHold x.seq h A.L })
def AQ.later (A : AQ) (behind : Int) : List PE := (A.L.filter fun e => decide (behind < e.seq)).filter isFree
def AQ.peek (A : AQ) (behind : Int) (fit : PE → Bool) : Option PE := (A.later behind).find? fit
def AQ.find (A : AQ) (q : Int) : Option PE := A.L.find? fun e => decide (e.seq = q)
def delQ (q : Int) (L : List PE) : List PE := L.filter fun x => decide (x.seq ≠ q)
def setE (y : PE) (L : List PE) : List PE := L.map fun x => if x.seq = y.seq then y else x
def failE (failed : Bool) (x : PE) : PE := { x with hold := 0, cnt := if failed = true then min (x.cnt + 1) 4294967295 else x.cnt }
def deadE (cf : Cfg) (failed : Bool) (y : PE) : Bool := failed && decide (0 < cf.tries) && decide (cf.tries ≤ y.cnt)
def AQ.back (A : AQ) (q h : Int) (failed : Bool) : Option (PE × Bool) × AQ :=
  match A.find q with
  | none => (none, A)
  | some x => if h < 1 ∨ x.hold ≠ h then (none, A) else
      if deadE A.cf failed (failE failed x) = true then (some (failE failed x, true), { A with L := delQ q A.L }) else (some (failE failed x, false), { A with L := setE (failE failed x) A.L })
def AQ.remove (A : AQ) (q h : Int) : Option PE × AQ :=
  match A.find q with
  | none => (none, A)
  | some x => if x.hold ≠ h then (none, A) else (some x, { A with L := delQ q A.L })
def has (h : Int) (e : PE) : Bool := decide (1 ≤ h) && decide (e.hold = h)
def AQ.release (A : AQ) (h : Int) : List Int × AQ := ((A.L.filter (has h)).map (·.seq), { A with L := A.L.map fun x => if has h x = true then { x with hold := 0 } else x })
def over (now : Int) (e : PE) : Bool := decide (0 ≤ e.exp) && decide (e.exp ≤ now)
def AQ.expire (A : AQ) (now : Int) : List PE × AQ := (A.frees.filter (over now), { A with L := A.L.filter fun e => !(isFree e && over now e) })
theorem find_mem {A : AQ} {q : Int} {x : PE} (h : A.find q = some x) : x ∈ A.L ∧ x.seq = q := ⟨List.mem_of_find?_eq_some h, by simpa using List.find?_some h⟩
theorem find_of {A : AQ} (W : WQ A) {x : PE} (h : x ∈ A.L) : A.find x.seq = some x := by
  cases e : A.find x.seq with
  | none =>
    have := List.find?_eq_none.1 e x h
    simp at this
  | some y =>
    obtain ⟨h1, h2⟩ := find_mem e
    rw [Sv.inj_of_nodup W.nd h1 h h2]
theorem find_no {A : AQ} {q : Int} (h : A.find q = none) : ∀ x ∈ A.L, x.seq ≠ q := fun x hx e => by
  have := List.find?_eq_none.1 h x hx
  simp [e] at this
/-! ### What a queue keeps to, kept -/
theorem WQ.map {A : AQ} (W : WQ A) (f : PE → PE) (hs : ∀ x ∈ A.L, (f x).seq = x.seq) (ho : ∀ x ∈ A.L, EOk (f x)) : WQ { A with L := A.L.map f } :=
  ⟨W.most1, W.most2, W.tries0, W.tries1, by
    rw [List.pairwise_map]
    exact List.Pairwise.imp_of_mem (fun {a b} ha hb h => by rw [hs a ha, hs b hb]; exact h) W.asc, fun e he => by
    obtain ⟨x, hx, rfl⟩ := List.mem_map.1 he; exact ho x hx, fun e he => by
    obtain ⟨x, hx, rfl⟩ := List.mem_map.1 he
    rw [hs x hx]; exact W.last x hx, by simpa using W.len, W.lo, W.hi⟩
theorem WQ.filter {A : AQ} (W : WQ A) (f : PE → Bool) : WQ { A with L := A.L.filter f } :=
  ⟨W.most1, W.most2, W.tries0, W.tries1, W.asc.filter _, fun e he => W.ok e (List.mem_filter.1 he).1, fun e he => W.last e (List.mem_filter.1 he).1, by
    have := List.length_filter_le f A.L
    have := W.len
    show ((A.L.filter f).length : Int) ≤ A.cf.most
    omega, W.lo, W.hi⟩
theorem put_eok {A : AQ} {e : PE} (h : ¬ putBad A e) (hl : ¬ 1048576 < e.l.length) : EOk e := by
  unfold putBad at h
  exact ⟨by omega, by omega, by omega, by omega, by omega, by omega, by omega, by omega, by omega⟩
theorem WQ.put {A : AQ} (W : WQ A) {e : PE} (hi : e.seq ≤ 9223372036854775807) : WQ (A.put e).2 := by
  unfold AQ.put
  split
  · exact W
  · rename_i hb
    split
    · exact W
    · rename_i hl
      split
      · exact W
      · rename_i hm
        have hb' : ¬ e.seq ≤ A.last := fun h => hb (.inl h)
        refine ⟨W.most1, W.most2, W.tries0, W.tries1, ?_, fun x hx => ?_, fun x hx => ?_, ?_, ?_, hi⟩
        · refine List.pairwise_append.2 ⟨W.asc, List.pairwise_singleton .., fun a ha b hb2 => ?_⟩
          rw [List.mem_singleton.1 hb2]
          have := W.last a ha
          omega
        · rcases List.mem_append.1 hx with hx | hx
          · exact W.ok x hx
          · rw [List.mem_singleton.1 hx]; exact put_eok hb hl
        · show x.seq ≤ e.seq
          rcases List.mem_append.1 hx with hx | hx
          · have := W.last x hx; omega
          · rw [List.mem_singleton.1 hx]; exact Int.le_refl _
        · show ((A.L ++ [e]).length : Int) ≤ A.cf.most
          rw [List.length_append, List.length_singleton]
          omega
        · have := W.lo
          show 0 ≤ e.seq
          omega
theorem EOk.setH {e : PE} (h : EOk e) {k : Int} (hk : 0 ≤ k) : EOk { e with hold := k } := ⟨h.seq, h.pri0, h.pri9, h.exp0, h.exp1, h.cnt0, h.cnt1, hk, h.len⟩
theorem EOk.fail {e : PE} (h : EOk e) (f : Bool) : EOk (failE f e) := by
  have h1 := h.cnt0
  have h2 := h.cnt1
  refine ⟨h.seq, h.pri0, h.pri9, h.exp0, h.exp1, ?_, ?_, Int.le_refl _, h.len⟩ <;> unfold failE <;> dsimp only <;> split <;> omega
theorem WQ.setH {A : AQ} (W : WQ A) (q : Int) {h : Int} (hh : 0 ≤ h) : WQ { A with L := setHold q h A.L } := by
  refine W.map _ (fun x hx => ?_) fun x hx => ?_
  · split <;> rfl
  · split
    · exact (W.ok x hx).setH hh
    · exact W.ok x hx
theorem WQ.setE {A : AQ} (W : WQ A) {y : PE} (hy : EOk y) : WQ { A with L := setE y A.L } := by
  refine W.map _ (fun x hx => ?_) fun x hx => ?_
  · split
    · rename_i h; exact h.symm
    · rfl
  · split
    · exact hy
    · exact W.ok x hx
theorem WQ.del {A : AQ} (W : WQ A) (q : Int) : WQ { A with L := delQ q A.L } := W.filter _
theorem WQ.take {A : AQ} (W : WQ A) (h : Int) (fit : PE → Bool) : WQ (A.take h fit).2 := by
  unfold AQ.take
  split
  · exact W
  · split
    · exact W
    · exact W.setH _ (by omega)
theorem WQ.back {A : AQ} (W : WQ A) (q h : Int) (f : Bool) : WQ (A.back q h f).2 := by
  unfold AQ.back
  split
  · exact W
  · rename_i x hx
    split
    · exact W
    · split
      · exact W.del _
      · exact W.setE ((W.ok x (find_mem hx).1).fail f)
theorem WQ.remove {A : AQ} (W : WQ A) (q h : Int) : WQ (A.remove q h).2 := by
  unfold AQ.remove
  split
  · exact W
  · split
    · exact W
    · exact W.del _
theorem WQ.release {A : AQ} (W : WQ A) (h : Int) : WQ (A.release h).2 := by
  refine W.map _ (fun x hx => ?_) fun x hx => ?_
  · split <;> rfl
  · split
    · exact (W.ok x hx).setH (Int.le_refl _)
    · exact W.ok x hx
theorem WQ.expire {A : AQ} (W : WQ A) (now : Int) : WQ (A.expire now).2 := W.filter _
/-- what does not bear a number is not touched -/
theorem map_one {f : PE → PE} {x : PE} : ∀ {L : List PE}, (L.map (·.seq)).Nodup → x ∈ L → (∀ y, y.seq ≠ x.seq → f y = y) → ∀ {R : List PE}, L.Perm (x :: R) → (L.map f).Perm (f x :: R) := fun {L} hn hx hf {R} hp => by
  have h := hp.map f
  rw [List.map_cons] at h
  refine h.trans (.of_eq ?_)
  congr 1
  have hn2 : ((x :: R).map (·.seq)).Nodup := by rw [← (hp.map _).nodup_iff]; exact hn
  rw [List.map_cons] at hn2
  have h3 := (List.nodup_cons.1 hn2).1
  have h4 : R.map f = R.map id := List.map_congr_left fun y hy => hf y fun e => h3 (List.mem_map.2 ⟨y, hy, e⟩)
  rw [h4, List.map_id]
theorem filter_one {x : PE} {L : List PE} (hn : (L.map (·.seq)).Nodup) {R : List PE} (hp : L.Perm (x :: R)) : (delQ x.seq L).Perm R := by
  have h := hp.filter fun y => decide (y.seq ≠ x.seq)
  have hn2 : ((x :: R).map (·.seq)).Nodup := by rw [← (hp.map _).nodup_iff]; exact hn
  rw [List.map_cons] at hn2
  have h3 := (List.nodup_cons.1 hn2).1
  rw [List.filter_cons, if_neg (by simp)] at h
  refine h.trans (.of_eq ?_)
  exact List.filter_eq_self.2 fun y hy => by
    have : y.seq ≠ x.seq := fun e => h3 (List.mem_map.2 ⟨y, hy, e⟩)
    simpa using this
/-! ### The first in the queue's order -/
theorem ordered_head {L : List PE} (hn : (L.map (·.seq)).Nodup) {x : PE} (hx : x ∈ L) (hm : ∀ y ∈ L, y.lt x = false) : ∃ t, ordered L = x :: t := by
  have hs := ordered_sorted hn
  have hp := ordered_perm L
  cases e : ordered L with
  | nil => rw [e] at hp; exact absurd (hp.mem_iff.2 hx) (by simp)
  | cons h t =>
    rw [e] at hp hs
    obtain ⟨h1, h2⟩ := List.pairwise_cons.1 hs
    rcases List.mem_cons.1 (hp.mem_iff.2 hx) with q | q
    · exact ⟨t, by rw [q]⟩
    · have h3 := h1 x q
      rw [hm h (hp.mem_iff.1 (by simp))] at h3
      cases h3
theorem ordered_ne {L : List PE} (h : L ≠ []) : ordered L ≠ [] := fun e => by
  have := (ordered_perm L).length_eq
  rw [e] at this
  exact h (List.eq_nil_of_length_eq_zero this.symm)
/-- the first that came of those of the highest priority, up to place n -/
structure Best (L : List PE) (n : Nat) (b : Int) : Prop where
  emp : b < 0 → n = 0
  low : -1 ≤ b
  has : 0 ≤ b → b.toNat < n ∧ ∃ x, L[b.toNat]? = some x ∧ (∀ m y, m < n → L[m]? = some y → y.pri ≤ x.pri) ∧ ∀ m y, m < b.toNat → L[m]? = some y → y.pri < x.pri
theorem Best.zero (L : List PE) : Best L 0 (-1) := ⟨fun _ => rfl, by omega, fun h => by omega⟩
theorem Best.step {L : List PE} {n : Nat} {b : Int} {y : PE} (h : Best L n b) (hy : L[n]? = some y) (hb : b < 0 ∨ ∃ x, L[b.toNat]? = some x ∧ x.pri < y.pri) : Best L (n + 1) (n : Int) := by
  refine ⟨fun h => by omega, by omega, fun _ => ⟨by omega, y, by simpa using hy, fun m z hm hz => ?_, fun m z hm hz => ?_⟩⟩
  · by_cases e : m = n
    · subst e; rw [hy] at hz; cases hz; omega
    · rcases hb with hb | ⟨x, hx, hlt⟩
      · have := h.emp hb; omega
      · have hb0 : 0 ≤ b := by
          rcases (by omega : b < 0 ∨ 0 ≤ b) with hb0 | hb0
          · have := h.emp hb0; omega
          · exact hb0
        obtain ⟨_, x', hx', h3, _⟩ := h.has hb0
        rw [hx] at hx'; cases hx'
        have := h3 m z (by omega) hz
        omega
  · have hm : m < n := by simpa using hm
    rcases hb with hb | ⟨x, hx, hlt⟩
    · have := h.emp hb; omega
    · have hb0 : 0 ≤ b := by
        rcases (by omega : b < 0 ∨ 0 ≤ b) with hb0 | hb0
        · have := h.emp hb0; omega
        · exact hb0
      obtain ⟨_, x', hx', h3, _⟩ := h.has hb0
      rw [hx] at hx'; cases hx'
      have := h3 m z hm hz
      omega
theorem Best.skip {L : List PE} {n : Nat} {b : Int} {y x : PE} (h : Best L n b) (hy : L[n]? = some y) (hb : 0 ≤ b) (hx : L[b.toNat]? = some x) (hp : y.pri ≤ x.pri) : Best L (n + 1) b := by
  obtain ⟨h1, x', hx', h3, h4⟩ := h.has hb
  rw [hx] at hx'; cases hx'
  refine ⟨fun h => by omega, h.low, fun _ => ⟨by omega, x, hx, fun m z hm hz => ?_, h4⟩⟩
  by_cases e : m = n
  · subst e; rw [hy] at hz; cases hz; exact hp
  · exact h3 m z (by omega) hz
theorem Best.head {L : List PE} (ha : L.Pairwise fun a b => a.seq < b.seq) {b : Int} (h : Best L L.length b) (hb : 0 ≤ b) : ∃ x t, L[b.toNat]? = some x ∧ ordered L = x :: t := by
  obtain ⟨h1, x, hx, h3, h4⟩ := h.has hb
  obtain ⟨t, ht⟩ := ordered_head (asc_nodup ha) (List.mem_of_getElem? hx) fun y hy => by
    obtain ⟨m, hm⟩ := List.getElem?_of_mem hy
    have hml := (List.getElem?_eq_some_iff.1 hm).1
    have k1 := h3 m y hml hm
    unfold PE.lt
    simp only [Bool.or_eq_false_iff, Bool.and_eq_false_iff, decide_eq_false_iff_not]
    refine ⟨by omega, ?_⟩
    rcases Nat.lt_or_ge m b.toNat with q | q
    · have := h4 m y q hm; omega
    · rcases Nat.lt_or_ge b.toNat m with q2 | q2
      · obtain ⟨g1, g2⟩ := List.getElem?_eq_some_iff.1 hx
        obtain ⟨g3, g4⟩ := List.getElem?_eq_some_iff.1 hm
        have := List.pairwise_iff_getElem.1 ha _ _ g1 g3 q2
        rw [g2, g4] at this
        omega
      · have e : m = b.toNat := by omega
        subst e; rw [hx] at hm; cases hm; omega
  exact ⟨x, t, hx, ht⟩
theorem delQ_at {L : List PE} (ha : L.Pairwise fun a b => a.seq < b.seq) {i : Nat} {x : PE} (hx : L[i]? = some x) : delQ x.seq L = L.take i ++ L.drop (i + 1) := by
  obtain ⟨hi, rfl⟩ := List.getElem?_eq_some_iff.1 hx
  have e : L = L.take i ++ L[i] :: L.drop (i + 1) := by rw [List.getElem_cons_drop hi, List.take_append_drop]
  have hn := asc_nodup ha
  rw [e, List.map_append, List.map_cons] at hn
  obtain ⟨n1, n2, n3⟩ := List.nodup_append.1 hn
  have n4 := (List.nodup_cons.1 n2).1
  unfold delQ
  conv => lhs; arg 2; rw [e]
  rw [List.filter_append, List.filter_cons, if_neg (by simp)]
  congr 1
  · exact List.filter_eq_self.2 fun y hy => by
      have := n3 y.seq (List.mem_map.2 ⟨y, hy, rfl⟩) L[i].seq (by simp)
      simpa using this
  · exact List.filter_eq_self.2 fun y hy => by
      have : y.seq ≠ L[i].seq := fun e => n4 (e ▸ List.mem_map.2 ⟨y, hy, rfl⟩)
      simpa using this
end Go.Qu
