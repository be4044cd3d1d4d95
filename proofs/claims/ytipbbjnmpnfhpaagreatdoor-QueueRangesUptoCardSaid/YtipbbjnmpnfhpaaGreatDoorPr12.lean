/-
  The document's queue in memory: a row in the order of Seqs; find, among, ahead, Len. The document's queue: Asked, and a row of entries pushed upon. The document's queue: Ordered, All. The document's queue: drop, Later; a queue of the document that holds what a plain queue holds. The law's fitter: it is asked of the document's entries, in order; each goes into the book. The document's queue: Take, Peek. The document's queue: Peek, Remove. The document's queue: Back. The document's queue: Release. The document's queue: Expire. The document's queue: Entry, Put. The law's put: a Put at both queues; the bytes are their owner's.
-/
import Derived.Test.YtipbbjnmpnfhpaaGreatDoorPr11
namespace Go.Proofs.YtipbbjnmpnfhpaaGreatDoor
open Go Go.Sv Go.Heap Go.Qu Go.MapKept
set_option linter.unusedVariables false
set_option maxRecDepth 4000
def rcells (cf : Cfg) (s : Value) (last : Int) : List Value := [.string cf.name, .int .i64 cf.most, .string cf.dead, .int .i64 cf.tries, .bool cf.dur, s, .int .i64 last]
def rbl (rb : Nat) (own : Option Nat) (L : List Et) : List Nat := rb :: (own.toList ++ eB L)
structure RM (w : World) (rb : Nat) (cf : Cfg) (last : Int) (L : List Et) (p : Option Addr) (c : Nat) (own : Option Nat) : Prop where
  head : blk w rb = some (rcells cf (.slice p L.length c) last)
  row : Ow w p L.length c 7 ((L.map (·.e)).flatMap En.cells) own
  dat : ∀ x ∈ L, EtE.Ok w x
  nd : (rbl rb own L).Nodup
theorem mem_rbl {rb : Nat} {own : Option Nat} {L : List Et} {b : Nat} : b ∈ rbl rb own L ↔ b = rb ∨ own = some b ∨ b ∈ eB L := by
  simp [rbl, Option.mem_toList]
section
variable {w w' : World} {rb : Nat} {cf : Cfg} {last : Int} {L : List Et} {p : Option Addr} {c : Nat} {own : Option Nat}
theorem RM.lt (R : RM w rb cf last L p c own) : ∀ b ∈ rbl rb own L, b < w.heap.size := fun b hb => by
  rcases mem_rbl.1 hb with rfl | h | h
  · exact blk_lt R.head
  · exact R.row.blt b h
  · obtain ⟨x, hx, ho⟩ := mem_eB.1 h
    exact (R.dat x hx).blt b ho
theorem RM.ch {S : Nat → Prop} (R : RM w rb cf last L p c own) (hc : Ch S w w') (hn : ∀ b ∈ rbl rb own L, ¬ S b) : RM w' rb cf last L p c own :=
  ⟨by rw [hc.blk (blk_lt R.head) (hn rb (mem_rbl.2 (.inl rfl)))]; exact R.head, R.row.ch hc fun k hk => hn k (mem_rbl.2 (.inr (.inl hk))), fun x hx => EtE.ch (R.dat x hx) hc fun b hb => hn b (mem_rbl.2 (.inr (.inr (mem_eB.2 ⟨x, hx, by simpa [EtE, Option.mem_toList] using hb⟩)))), R.nd⟩
theorem RM.cell (R : RM w rb cf last L p c own) {i : Nat} {v : Value} (h : (rcells cf (.slice p L.length c) last)[i]? = some v) : w.cell? ⟨rb, i, none⟩ = some v := by rw [cell_blk R.head]; exact h
theorem RM.at (R : RM w rb cf last L p c own) {i : Nat} {x : Et} (hx : L[i]? = some x) : ∃ b o, p = some ⟨b, o, none⟩ ∧ ∀ j v, x.e.cells[j]? = some v → w.cell? ⟨b, o + i * 7 + j, none⟩ = some v :=
  R.row.rd.at En.cells_len (by rw [List.getElem?_map, hx]; rfl) (by decide)
theorem RM.ne_ro (R : RM w rb cf last L p c own) : own ≠ some rb := fun e => by
  have := (List.nodup_cons.1 R.nd).1
  exact this (by simp [e, Option.mem_toList])
theorem RM.ne_re (R : RM w rb cf last L p c own) : rb ∉ eB L := fun e => by
  have := (List.nodup_cons.1 R.nd).1
  exact this (by simp [e])
theorem RM.ne_oe (R : RM w rb cf last L p c own) : ∀ b, own = some b → b ∉ eB L := fun b hb e => by
  subst hb
  have := (List.nodup_cons.1 R.nd).2
  exact (List.nodup_cons.1 this).1 e
theorem RM.ndE (R : RM w rb cf last L p c own) : (eB L).Nodup := (List.nodup_append.1 (List.nodup_cons.1 R.nd).2).2.1
theorem rbl_nd (h1 : own ≠ some rb) (h2 : rb ∉ eB L) (h3 : ∀ b, own = some b → b ∉ eB L) (h4 : (eB L).Nodup) : (rbl rb own L).Nodup := by
  unfold rbl
  refine List.nodup_cons.2 ⟨?_, ?_⟩
  · simp [Option.mem_toList, h1, h2]
  · cases own with
    | none => simpa using h4
    | some k => exact List.nodup_cons.2 ⟨h3 k rfl, h4⟩
theorem at_lt {α : Type} {L : List α} {j : Nat} (h : decide ((j : Int) < (L.length : Int)) = true) : ∃ x, L[j]? = some x := by
  have : j < L.length := by have := of_decide_eq_true h; omega
  exact ⟨_, List.getElem?_eq_getElem this⟩
theorem rfind_ok {q : Int} {K : Value → World → Prop} (R : RM w rb cf last L p c own) (hl : L.length ≤ 2 ^ 40)
    (hno : (∀ x ∈ L, x.e.seq ≠ q) → K (.int .i64 (-1)) w) (hyes : ∀ (i : Nat) x, L[i]? = some x → x.e.seq = q → K (.int .i64 (i : Int)) w) :
    callP Tryz.prog 65 [.pointer (some ⟨rb, 0, none⟩), .int .i64 q] w K := by
  refine ok_longshoreref17_Queue_find ?_
  unfold wp_longshoreref17_Queue_find
  refine ⟨fun m n w1 => ∃ j : Nat, n = (j : Int) ∧ j ≤ L.length ∧ m = L.length - j ∧ (∀ x ∈ L.take j, x.e.seq ≠ q) ∧ w1 = w, ⟨L.length, 0, rfl, Nat.zero_le _, rfl, by simp, rfl⟩, ?_⟩
  rintro m _ w1 ⟨j, rfl, hj, rfl, hn, rfl⟩
  simp only [nn_some, add_at, Nat.zero_add]
  refine ⟨_, _, _, R.cell rfl, Sif_cases (fun hlt => ?_) fun hge => ?_⟩
  · obtain ⟨x, hx⟩ := at_lt hlt
    have hlt : j < L.length := (List.getElem?_eq_some_iff.1 hx).1
    obtain ⟨b, o, hpp, hc⟩ := R.at hx
    subst hpp
    refine ⟨_, _, _, R.cell rfl, by omega, by omega, ?_⟩
    simp only [nn_some, add_at, Int.toNat_natCast]
    refine ⟨_, hc 0 _ rfl, Sif_cases (fun h => ?_) fun h => ?_⟩
    · exact hyes j x hx (by simpa using h)
    · rw [nameI_iff, wrap_id (by omega) (by omega)]
      refine ⟨L.length - (j + 1), by omega, j + 1, by simp, hlt, rfl, fun y hy => ?_, by trivial⟩
      rw [List.take_add_one, hx] at hy
      rcases List.mem_append.1 hy with hy | hy
      · exact hn y hy
      · simp at hy
        rw [hy]; simpa using h
  · have hje : j = L.length := by
      have := of_decide_eq_false hge
      omega
    subst hje
    rw [List.take_of_length_le (Nat.le_refl _)] at hn
    exact hno hn
theorem among_ok {q : Int} {f : Option Addr} {fn fc : Nat} {T : List Int} {K : Value → World → Prop} (h : Rd w f fn 1 (T.flatMap iC)) (hT : T.length = fn) (hl : fn ≤ 2 ^ 62) (hk : K (.bool (decide (q ∈ T))) w) :
    callP Tryz.prog 93 [.int .i64 q, .slice f fn fc] w K := by
  subst hT
  refine ok_longshoreref17_among ?_
  unfold wp_longshoreref17_among
  refine ⟨fun m n w1 => ∃ j : Nat, n = (j : Int) ∧ j ≤ T.length ∧ m = T.length - j ∧ q ∉ T.take j ∧ w1 = w, ⟨T.length, 0, rfl, Nat.zero_le _, rfl, by simp, rfl⟩, ?_⟩
  rintro m _ w1 ⟨j, rfl, hj, rfl, hn, rfl⟩
  refine Sif_cases (fun hlt => ?_) fun hge => ?_
  · obtain ⟨x, hx⟩ := at_lt hlt
    have hlt : j < T.length := (List.getElem?_eq_some_iff.1 hx).1
    obtain ⟨b, o, hpp, hc⟩ := h.at iC_len hx (by decide)
    subst hpp
    simp only [nn_some, add_at, Int.toNat_natCast, Nat.add_zero]
    refine ⟨by omega, by omega, _, hc 0 _ rfl, Sif_cases (fun h => ?_) fun h => ?_⟩
    · have hq : x = q := by simpa using h
      rw [decide_eq_true (hq ▸ List.mem_of_getElem? hx)] at hk
      exact hk
    · rw [nameI_iff, wrap_id (by omega) (by omega)]
      refine ⟨T.length - (j + 1), by omega, j + 1, by simp, hlt, rfl, fun hy => ?_, by trivial⟩
      rw [List.take_add_one, hx] at hy
      rcases List.mem_append.1 hy with hy | hy
      · exact hn hy
      · simp at hy
        rw [hy] at h; simp at h
  · have hje : j = T.length := by
      have := of_decide_eq_false hge
      omega
    subst hje
    rw [List.take_of_length_le (Nat.le_refl _)] at hn
    rw [decide_eq_false hn] at hk
    exact hk
theorem ahead_ok {a b : En} {K : Value → World → Prop} (hk : ∀ w', Ch (fun _ => False) w w' → K (.bool (a.lt b)) w') :
    callP Tryz.prog 58 [a.val, b.val] w K := by
  refine ok_longshoreref17_ahead ?_
  unfold wp_longshoreref17_ahead
  refine newB_blk fun w1 b1 c1 z1 => newB_blk fun w2 b2 c2 z2 => ?_
  have b1' : blk w2 w.heap.size = some a.cells := by rw [c2.blk (blk_lt b1) id]; exact b1
  have b2' : blk w2 w1.heap.size = some b.cells := b2
  have hk := hk w2 (c1.trans' c2)
  simp only [add_at, Nat.zero_add, cell_blk b1', cell_blk b2']
  refine ⟨_, rfl, _, rfl, ?_⟩
  refine Sif_cases (fun h => ⟨_, rfl, _, rfl, ?_⟩) fun h => ?_
  · have h : ¬ b.pri < a.pri := by simpa using h
    refine Sif_cases (fun g => ⟨_, rfl, _, rfl, ?_⟩) fun g => ?_
    · have g : a.pri = b.pri := by simpa using g
      have e : a.lt b = decide (a.seq < b.seq) := by simp [En.lt, h, g]
      rw [e] at hk; exact hk
    · have g : ¬ a.pri = b.pri := by simpa using g
      have e : a.lt b = false := by simp [En.lt, h, g]
      rw [e] at hk; exact hk
  · have h : b.pri < a.pri := by simpa using h
    have e : a.lt b = true := by simp [En.lt, h]
    rw [e] at hk; exact hk
theorem rlen_ok {K : Value → World → Prop} (R : RM w rb cf last L p c own) (hl : L.length ≤ 2 ^ 40)
    (hk : K (.tuple #[.int .i64 ((L.length : Int) - ((L.filter fun x => decide (x.e.hold ≠ 0)).length : Int)), .int .i64 ((L.filter fun x => decide (x.e.hold ≠ 0)).length : Int)]) w) :
    callP Tryz.prog 42 [.pointer (some ⟨rb, 0, none⟩)] w K := by
  refine ok_longshoreref17_Queue_Len ?_
  unfold wp_longshoreref17_Queue_Len
  refine ⟨fun m h n w1 => ∃ j : Nat, n = (j : Int) ∧ j ≤ L.length ∧ m = L.length - j ∧ h = (((L.take j).filter fun x => decide (x.e.hold ≠ 0)).length : Int) ∧ w1 = w, ⟨L.length, 0, rfl, Nat.zero_le _, rfl, by simp, rfl⟩, ?_⟩
  rintro m _ _ w1 ⟨j, rfl, hj, rfl, rfl, rfl⟩
  have hf : ∀ j, ((L.take j).filter fun x => decide (x.e.hold ≠ 0)).length ≤ L.length := fun j => Nat.le_trans (List.length_filter_le ..) (by rw [List.length_take]; omega)
  have hfj := hf j
  simp only [nn_some, add_at, Nat.zero_add]
  refine ⟨_, _, _, R.cell rfl, Sif_cases (fun hlt => ?_) fun hge => ?_⟩
  · obtain ⟨x, hx⟩ := at_lt hlt
    have hlt : j < L.length := (List.getElem?_eq_some_iff.1 hx).1
    obtain ⟨b, o, hpp, hc⟩ := R.at hx
    subst hpp
    have hs : ((L.take (j + 1)).filter fun x => decide (x.e.hold ≠ 0)).length = ((L.take j).filter fun x => decide (x.e.hold ≠ 0)).length + (if x.e.hold = 0 then 0 else 1) := by
      rw [List.take_add_one, hx, List.filter_append, List.length_append]
      by_cases h : x.e.hold = 0 <;> simp [h]
    refine ⟨fun h' w2 => h' = (((L.take (j + 1)).filter fun x => decide (x.e.hold ≠ 0)).length : Int) ∧ w2 = w1, ?_, ?_⟩
    · rintro _ w2 ⟨rfl, rfl⟩
      rw [nameI_iff, wrap_id (by omega) (by omega)]
      exact ⟨L.length - (j + 1), by omega, j + 1, by simp, hlt, rfl, rfl, rfl⟩
    refine ⟨_, _, _, R.cell rfl, by omega, by omega, ?_⟩
    simp only [nn_some, add_at, Int.toNat_natCast]
    refine ⟨_, hc 5 _ rfl, Sif_cases (fun h => ?_) fun h => ?_⟩
    · have h : x.e.hold ≠ 0 := by simpa using h
      rw [nameI_iff, wrap_id (by omega) (by omega), hs, if_neg h]
      exact ⟨by simp, by trivial⟩
    · have h : x.e.hold = 0 := by simpa using h
      rw [hs, if_pos h]
      exact ⟨by simp, by trivial⟩
  · have hje : j = L.length := by
      have := of_decide_eq_false hge
      omega
    subst hje
    rw [List.take_of_length_le (Nat.le_refl _)] at *
    refine ⟨_, _, _, R.cell rfl, ?_⟩
    rw [nameI_iff, wrap_id (by omega) (by omega)]
    exact hk
end
end Go.Proofs.YtipbbjnmpnfhpaaGreatDoor
namespace Go.Proofs.YtipbbjnmpnfhpaaGreatDoor
open Go Go.Sv Go.Heap Go.Qu Go.MapKept
set_option linter.unusedVariables false
set_option maxRecDepth 4000
theorem rint_info : InfoIs Tryz.prog 3 1 8 (.int .i64 0) := .of (by kernel_rfl) (by kernel_rfl) (by kernel_rfl)
def fitOf (any : Bool) (T : List Int) (e : PE) : Bool := any || decide (e.seq ∈ T)
/-- the Seq of what a search finds (0: none) -/
def seqOf : Option PE → Int
  | none => 0
  | some x => x.seq
theorem askedH_split {fit : PE → Bool} {L : List PE} {j : Nat} {x : PE} (hx : L[j]? = some x) (hf : isFree x = true) (hn : ∀ y ∈ (L.take j).filter isFree, fit y = false) (hfx : fit x = true) :
    askedH fit L = (L.take j).filter isFree ++ [x] ∧ (L.filter isFree).find? fit = some x := by
  obtain ⟨g1, g2⟩ := List.getElem?_eq_some_iff.1 hx
  have e : L.filter isFree = (L.take j).filter isFree ++ x :: (L.drop (j + 1)).filter isFree := by
    conv => lhs; rw [← List.take_append_drop j L, ← List.getElem_cons_drop g1, g2]
    rw [List.filter_append, List.filter_cons, if_pos hf]
  constructor
  · unfold askedH
    rw [e, asked_app hn, asked, if_pos hfx]
  · rw [e, find_app hn, List.find?_cons, hfx]
theorem askedH_none {fit : PE → Bool} {L : List PE} (hn : ∀ y ∈ L.filter isFree, fit y = false) : askedH fit L = L.filter isFree ∧ (L.filter isFree).find? fit = none := by
  constructor
  · unfold askedH
    have := asked_app (S := []) hn
    rw [List.append_nil] at this
    rw [this]; simp [asked]
  · exact List.find?_eq_none.2 fun x hx => by rw [hn x hx]; simp
theorem filter_take1 {L : List PE} {j : Nat} {x : PE} (f : PE → Bool) (hx : L[j]? = some x) : (L.take (j + 1)).filter f = (L.take j).filter f ++ (if f x = true then [x] else []) := by
  rw [List.take_add_one, hx, List.filter_append]
  congr 1
  simp only [Option.toList_some, List.filter_cons, List.filter_nil]
set_option maxHeartbeats 1000000 in
theorem asked_ok {w : World} {l : Option Addr} {ln lc : Nat} {G : List Et} {any : Bool} {f : Option Addr} {fn fc : Nat} {T : List Int} {K : Value → World → Prop}
    (hl : Rd w l ln 7 ((G.map (·.e)).flatMap En.cells)) (hG : G.length = ln) (hT : Rd w f fn 1 (T.flatMap iC)) (hTl : T.length = fn) (h1 : ln ≤ 2 ^ 40) (h2 : fn ≤ 2 ^ 62)
    (hk : ∀ p n c w' own, n = (askedH (fitOf any T) (G.map Et.pe)).length → Ow w' p n c 1 (((askedH (fitOf any T) (G.map Et.pe)).map (·.seq)).flatMap iC) own → (∀ b, own = some b → w.heap.size ≤ b) → Ch (fun _ => False) w w' →
      K (.tuple #[.slice p n c, .int .i64 (seqOf (((G.map Et.pe).filter isFree).find? (fitOf any T)))]) w') :
    callP Tryz.prog 59 [.slice l ln lc, .bool any, .slice f fn fc] w K := by
  subst hG
  refine ok_longshoreref17_Asked ?_
  unfold wp_longshoreref17_Asked
  obtain ⟨Q, hQ⟩ : ∃ Q, Q = fun j : Nat => ((G.map Et.pe).take j).filter isFree := ⟨_, rfl⟩
  have hQl : ∀ j, (Q j).length ≤ G.length := fun j => by
    rw [hQ]
    exact Nat.le_trans (List.length_filter_le ..) (by rw [List.length_take, List.length_map]; omega)
  refine ⟨fun m p n c i w1 => ∃ (j : Nat) (own : Option Nat), i = (j : Int) ∧ j ≤ G.length ∧ m = G.length - j ∧ n = ((Q j).map (·.seq)).length ∧ (∀ y ∈ Q j, fitOf any T y = false) ∧ Ow w1 p n c 1 (((Q j).map (·.seq)).flatMap iC) own ∧ (∀ b, own = some b → w.heap.size ≤ b) ∧ Ch (fun _ => False) w w1,
    ⟨G.length, 0, none, rfl, Nat.zero_le _, rfl, by rw [hQ]; rfl, (fun y hy => by rw [hQ] at hy; simp at hy), by rw [hQ]; exact Ow.nil, (fun b hb => by cases hb), Ch.refl _ _⟩, ?_⟩
  rintro m p n c _ w1 ⟨j, own, rfl, hj, rfl, rfl, hn, ho, hown, c1⟩
  refine Sif_cases (fun hlt => ?_) fun hge => ?_
  · obtain ⟨x, hx⟩ := at_lt hlt
    have hlt : j < G.length := (List.getElem?_eq_some_iff.1 hx).1
    have hxe : (G.map (·.e))[j]? = some x.e := by rw [List.getElem?_map, hx]; rfl
    have hxp : (G.map Et.pe)[j]? = some x.pe := by rw [List.getElem?_map, hx]; rfl
    have hQs : Q (j + 1) = Q j ++ (if isFree x.pe = true then [x.pe] else []) := by rw [hQ]; exact filter_take1 isFree hxp
    have hl1 := hl.ch c1 fun _ _ _ => id
    obtain ⟨b, o, hpp, hc⟩ := hl1.at En.cells_len hxe (by decide)
    subst hpp
    refine ⟨fun p' n' c' w2 => ∃ own', n' = ((Q (j + 1)).map (·.seq)).length ∧ (∀ y ∈ Q (j + 1), fitOf any T y = false) ∧ Ow w2 p' n' c' 1 (((Q (j + 1)).map (·.seq)).flatMap iC) own' ∧ (∀ b, own' = some b → w.heap.size ≤ b) ∧ Ch (fun _ => False) w w2, ?_, by omega, by omega, ?_⟩
    · rintro p' n' c' w2 ⟨own', g1, g2, g3, g4, g5⟩
      rw [nameI_iff, wrap_id (by omega) (by omega)]
      exact ⟨G.length - (j + 1), by omega, j + 1, own', by simp, hlt, rfl, g1, g2, g3, g4, g5⟩
    simp only [nn_some, add_at, Int.toNat_natCast]
    refine ⟨_, hc 5 _ rfl, Sif_cases (fun hf => ?_) fun hf => ?_⟩
    rotate_left
    · have hf : isFree x.pe = false := by
        have : ¬ x.e.hold = 0 := by simpa using hf
        show decide (x.e.hold = 0) = false
        simp [this]
      rw [hf] at hQs
      simp only [Bool.false_eq_true, if_false, List.append_nil] at hQs
      rw [hQs]
      exact ⟨own, rfl, hn, ho, hown, c1⟩
    have hf : isFree x.pe = true := by
      have : x.e.hold = 0 := by simpa using hf
      show decide (x.e.hold = 0) = true
      simp [this]
    rw [hf] at hQs
    simp only [if_true] at hQs
    refine ⟨by omega, by omega, _, hc 0 _ rfl, ?_⟩
    refine among_ok (hT.ch c1 fun _ _ _ => id) hTl h2 ⟨_, rfl, by omega, by omega, _, hc 0 _ rfl, ?_⟩
    have hql := hQl j
    have hqm : ((Q j).map (·.seq)).length = (Q j).length := List.length_map ..
    refine push_ok (g := iC) (sz := 1) (bytes := 8) Tryz.underlying44 rint_info rfl iC_len iC_one ho x.e.seq (by omega) (by omega) fun p' c' b' w3 o3 n3 c3 => ?_
    have c13 : Ch (fun _ => False) w w3 := c1.trans c3 fun k hk h => by have := hown k h; omega
    have hown' : ∀ k, b' = some k → w.heap.size ≤ k := fun k hk => by
      rcases n3 k hk with q | q
      · exact hown k q
      · have := c1.size; omega
    have eQ : (Q (j + 1)).map (·.seq) = (Q j).map (·.seq) ++ [x.e.seq] := by rw [hQs, List.map_append]; rfl
    have c3d : Ch (fun _ => False) w w3.drew := c13.trans' (Ch.drew (S := fun _ => False) w3)
    have hl3 : Rd w3.drew (some ⟨b, o, none⟩) G.length 7 ((G.map (·.e)).flatMap En.cells) := hl.ch c3d fun _ _ _ => id
    have found : fitOf any T x.pe = true → ∃ n6, w3.drew.cell? ⟨b, o + j * 7 + 0, none⟩ = some (.int .i64 n6) ∧ K (.tuple #[.slice p' ((Q j).map (·.seq) ++ [x.e.seq]).length c', .int .i64 n6]) w3.drew := fun ht => by
      obtain ⟨b2, o2, hpp, hc2⟩ := hl3.at En.cells_len hxe (by decide)
      cases hpp
      obtain ⟨e1, e2⟩ := askedH_split (fit := fitOf any T) hxp hf (fun y hy => hn y (by rw [hQ]; exact hy)) ht
      have e3 : (askedH (fitOf any T) (G.map Et.pe)).map (·.seq) = (Q j).map (·.seq) ++ [x.e.seq] := by rw [e1, List.map_append, hQ]; rfl
      have e4 : (askedH (fitOf any T) (G.map Et.pe)).length = ((Q j).map (·.seq) ++ [x.e.seq]).length := by rw [← e3, List.length_map]
      have := hk p' _ c' w3.drew b' e4.symm (by rw [e3]; exact o3.ch (Ch.drew (S := fun _ => False) w3) fun _ _ => id) hown' c3d
      rw [e2] at this
      exact ⟨_, hc2 0 _ rfl, this⟩
    have left : fitOf any T x.pe = false → ∃ own', ((Q j).map (·.seq) ++ [x.e.seq]).length = ((Q (j + 1)).map (·.seq)).length ∧ (∀ y ∈ Q (j + 1), fitOf any T y = false) ∧ Ow w3 p' ((Q j).map (·.seq) ++ [x.e.seq]).length c' 1 (((Q (j + 1)).map (·.seq)).flatMap iC) own' ∧ (∀ b, own' = some b → w.heap.size ≤ b) ∧ Ch (fun _ => False) w w3 := fun ht => by
      refine ⟨b', by rw [eQ], fun y hy => ?_, by rw [eQ]; exact o3, hown', c13⟩
      rw [hQs] at hy
      rcases List.mem_append.1 hy with hy | hy
      · exact hn y hy
      · rw [List.mem_singleton.1 hy]; exact ht
    refine Sif_cases (fun ha => ?_) fun ha => ?_
    · have ha : any = false := by simpa using ha
      refine Sif_cases (fun hb => ?_) fun hb => ?_
      · exact ⟨by omega, by omega, found (by unfold fitOf; rw [ha]; exact hb)⟩
      · exact left (by unfold fitOf; rw [ha]; exact hb)
    · have ha : any = true := by simpa using ha
      exact ⟨by omega, by omega, found (by unfold fitOf; rw [ha]; rfl)⟩
  · have hje : j = G.length := by
      have := of_decide_eq_false hge
      omega
    subst hje
    have htake : Q G.length = (G.map Et.pe).filter isFree := by
      rw [hQ]
      show ((G.map Et.pe).take G.length).filter isFree = _
      rw [List.take_of_length_le (by simp)]
    rw [htake] at hn ho ⊢
    obtain ⟨e1, e2⟩ := askedH_none hn
    have := hk p (((G.map Et.pe).filter isFree).map (·.seq)).length c w1 own (by rw [e1, List.length_map]) (by rw [e1]; exact ho) hown c1
    rw [e2] at this
    exact this
end Go.Proofs.YtipbbjnmpnfhpaaGreatDoor
namespace Go.Proofs.YtipbbjnmpnfhpaaGreatDoor
open Go Go.Sv Go.Heap Go.Qu Go.MapKept
set_option linter.unusedVariables false
set_option maxRecDepth 4000
theorem swap_in {α : Type} {l : List α} {t : Nat} {x y : α} (h : l[t]? = some y) : ((l.take (t + 1) ++ x :: l.drop (t + 1)).set t x).set (t + 1) y = l.take t ++ x :: l.drop t := by
  obtain ⟨h1, h2⟩ := List.getElem?_eq_some_iff.1 h
  have e1 : l.take (t + 1) = l.take t ++ [y] := by rw [List.take_add_one, h]; rfl
  have e2 : l.drop t = y :: l.drop (t + 1) := by rw [← List.getElem_cons_drop h1, h2]
  have hl : (l.take t).length = t := by rw [List.length_take]; omega
  rw [e1, e2, List.append_assoc, List.singleton_append, List.set_append_right _ _ (by omega), hl, Nat.sub_self, List.set_cons_zero, List.set_append_right _ _ (by omega), hl, Nat.add_sub_cancel_left]
  rfl
theorem mid_at {α : Type} {l : List α} {t : Nat} {x y : α} (h : l[t]? = some y) : (l.take (t + 1) ++ x :: l.drop (t + 1))[t]? = some y ∧ (l.take (t + 1) ++ x :: l.drop (t + 1))[t + 1]? = some x := by
  obtain ⟨h1, h2⟩ := List.getElem?_eq_some_iff.1 h
  have hl : (l.take (t + 1)).length = t + 1 := by rw [List.length_take]; omega
  constructor
  · rw [List.getElem?_append_left (by omega), List.getElem?_take, if_pos (by omega), h]
  · rw [List.getElem?_append_right (by omega), hl, Nat.sub_self]; rfl
set_option maxHeartbeats 2000000 in
theorem rord_ok {w : World} {rb : Nat} {cf : Cfg} {last : Int} {L : List Et} {p : Option Addr} {c : Nat} {own : Option Nat} {K : Value → World → Prop} (R : RM w rb cf last L p c own) (hl : L.length ≤ 2 ^ 36)
    (hk : ∀ p c w' (G : List Et) ow, G.map Et.pe = ordered (L.map Et.pe) → G.Perm L → Ow w' p G.length c 7 ((G.map (·.e)).flatMap En.cells) ow → (∀ b, ow = some b → w.heap.size ≤ b) → Ch (fun _ => False) w w' → K (.slice p G.length c) w') :
    callP Tryz.prog 30 [.pointer (some ⟨rb, 0, none⟩)] w K := by
  refine ok_longshoreref17_Queue_Ordered ?_
  unfold wp_longshoreref17_Queue_Ordered
  refine ⟨fun m p n c i w1 => ∃ (j : Nat) (G : List Et) (ow : Option Nat), i = (j : Int) ∧ j ≤ L.length ∧ m = L.length - j ∧ n = G.length ∧ G.map Et.pe = ordered ((L.take j).map Et.pe) ∧ G.Perm (L.take j) ∧ Ow w1 p n c 7 ((G.map (·.e)).flatMap En.cells) ow ∧ (∀ b, ow = some b → w.heap.size ≤ b) ∧ Ch (fun _ => False) w w1,
    ⟨L.length, 0, [], none, rfl, Nat.zero_le _, rfl, rfl, rfl, .refl _, Ow.nil, (fun b hb => by cases hb), Ch.refl _ _⟩, ?_⟩
  rintro m p1 n c1 _ w1 ⟨j, G, ow, rfl, hj, rfl, rfl, hGo, hGp, ho, how, ch1⟩
  have R1 := R.ch ch1 fun _ _ => id
  have hGl : G.length = j := by rw [hGp.length_eq, List.length_take]; omega
  simp only [nn_some, add_at, Nat.zero_add]
  refine ⟨_, _, _, R1.cell rfl, Sif_cases (fun hlt => ?_) fun hge => ?_⟩
  rotate_left
  · have hje : j = L.length := by
      have := of_decide_eq_false hge
      omega
    subst hje
    rw [List.take_of_length_le (Nat.le_refl _)] at hGo hGp
    exact hk p1 c1 w1 G ow hGo hGp ho how ch1
  obtain ⟨x, hx⟩ := at_lt hlt
  have hlt : j < L.length := (List.getElem?_eq_some_iff.1 hx).1
  obtain ⟨kx, ox, hpx, hcx⟩ := R.at hx
  subst hpx
  obtain ⟨k, hkp⟩ : ∃ k, k = placeP x.pe (G.map Et.pe) := ⟨_, rfl⟩
  have hkl : k ≤ G.length := by rw [hkp]; have := placeP_le x.pe (G.map Et.pe); simpa using this
  have atx : ∀ w2, Ch (fun _ => False) w w2 → ∀ i v, x.e.cells[i]? = some v → w2.cell? ⟨kx, ox + j * 7 + i, none⟩ = some v := fun w2 c2 => by
    obtain ⟨k', o', e, h⟩ := (R.ch c2 fun _ _ => id).at hx
    cases e; exact h
  refine ⟨fun n3 w2 => n3 = (k : Int) ∧ Ch (fun _ => False) w w2 ∧ Ow w2 p1 G.length c1 7 ((G.map (·.e)).flatMap En.cells) ow, ?_, ?_⟩
  · rintro _ w2 ⟨rfl, ch2, o2⟩
    have R2 := R.ch ch2 fun _ _ => id
    have hc := atx w2 ch2
    refine ⟨_, _, _, R2.cell rfl, by omega, by omega, ?_⟩
    simp only [nn_some, add_at, Int.toNat_natCast]
    refine ⟨_, hc 0 _ rfl, _, hc 1 _ rfl, _, hc 2 _ rfl, _, hc 3 _ rfl, _, hc 4 _ rfl, _, hc 5 _ rfl, _, _, _, hc 6 _ rfl, ?_⟩
    have hml : (G.map (·.e)).length = G.length := List.length_map ..
    rw [← hml] at o2 ⊢
    refine push_ok (g := En.cells) (sz := 7) (bytes := 72) Tryz.underlying24 entry_info rfl En.cells_len En.cells_one o2 x.e (by omega) (by omega) fun p' c' b' w4 o4 n4 c4 => ?_
    have hb4 : ∀ b, b' = some b → w.heap.size ≤ b := fun b hb => by
      rcases n4 b hb with q | q
      · exact how b q
      · have := ch2.size; omega
    have ch4 : Ch (fun _ => False) w w4 := ch2.trans c4 fun b hb h => by have := how b h; omega
    have hnl : (G.map (·.e) ++ [x.e]).length = G.length + 1 := by rw [List.length_append, hml]; rfl
    rw [hnl] at o4 ⊢
    obtain ⟨E, hE⟩ : ∃ E, E = G.map (·.e) := ⟨_, rfl⟩
    have hEl : E.length = G.length := by rw [hE]; exact hml
    rw [← hE] at o4
    rw [nameI_iff, wrap_id (by omega) (by omega)]
    refine ⟨fun m t w5 => ∃ s : Nat, t = (s : Int) ∧ k ≤ s ∧ s ≤ G.length ∧ m = s ∧ Ow w5 p' (G.length + 1) c' 7 ((E.take s ++ x.e :: E.drop s).flatMap En.cells) b' ∧ Ch (fun _ => False) w w5,
      ⟨G.length, G.length, by omega, hkl, Nat.le_refl _, rfl, by rw [List.take_of_length_le (by omega), List.drop_eq_nil_of_le (by omega)]; exact o4, ch4⟩, ?_⟩
    rintro m _ w5 ⟨s, rfl, hs1, hs2, hm, o5, ch5⟩
    refine Sif_cases (fun hgt => ?_) fun hle => ?_
    · have hgt : k < s := by have := of_decide_eq_true hgt; omega
      obtain ⟨t, rfl⟩ : ∃ t, s = t + 1 := ⟨s - 1, by omega⟩
      obtain ⟨y, hy⟩ : ∃ y, E[t]? = some y := ⟨_, List.getElem?_eq_getElem (by omega)⟩
      obtain ⟨my, mx⟩ := mid_at (x := x.e) hy
      have hMl : (E.take (t + 1) ++ x.e :: E.drop (t + 1)).length = G.length + 1 := by simp; omega
      rw [show (((t + 1 : Nat) : Int) - 1) = (t : Int) by omega, wrap_id (n := (t : Int)) (by omega) (by omega)]
      obtain ⟨kr, or, hpr, hcy⟩ := o5.rd.at En.cells_len my (by decide)
      subst hpr
      simp only [nn_some, add_at, Int.toNat_natCast]
      refine ⟨by omega, by omega, _, hcy 0 _ rfl, _, hcy 1 _ rfl, _, hcy 2 _ rfl, _, hcy 3 _ rfl, _, hcy 4 _ rfl, _, hcy 5 _ rfl, _, _, _, hcy 6 _ rfl, ?_⟩
      refine newE (e0 := En0) (e := y) fun w13 b13 c13 z13 => ⟨by omega, by omega, ?_⟩
      have o13 := o5.ch c13 fun _ _ => id
      obtain ⟨kr2, or2, hpr, hcx13⟩ := o13.rd.at En.cells_len mx (by decide)
      cases hpr
      refine ⟨_, hcx13 0 _ rfl, _, hcx13 1 _ rfl, _, hcx13 2 _ rfl, _, hcx13 3 _ rfl, _, hcx13 4 _ rfl, _, hcx13 5 _ rfl, _, _, _, hcx13 6 _ rfl, by omega, by omega, ?_⟩
      have hbk : b' = some kr := by
        obtain ⟨_, _, h3⟩ := o13
        rcases h3 with ⟨_, _⟩ | ⟨k3, o3, cs3, h, h2, _⟩
        · omega
        · cases h2; exact h
      have hkr := hb4 kr hbk
      have hkr13 : kr < w5.heap.size := o5.blt kr hbk
      refine en_put o13 hMl my x.e fun w20 o20 c20 z20 => ?_
      have b20 : blk w20 w5.heap.size = some y.cells := by rw [c20.blk (blk_lt b13) (by omega)]; exact b13
      simp only [add_at, Nat.zero_add]
      refine rdN b20 ⟨by omega, by omega, ?_⟩
      refine en_put o20 (by rw [List.length_set]; exact hMl) (i := t + 1) (a := x.e) (by rw [List.getElem?_set_ne (by omega)]; exact mx) y fun w27 o27 c27 z27 => ?_
      rw [swap_in hy] at o27
      rw [nameI_iff]
      exact ⟨t, by omega, t, rfl, by omega, by omega, rfl, o27, ((ch5.trans' c13).trans c20 fun b hb h => by omega).trans c27 fun b hb h => by omega⟩
    · have hsk : s = k := by have := of_decide_eq_false hle; omega
      subst hsk
      rw [nameI_iff, wrap_id (by omega) (by omega)]
      have hP : (G.take s ++ x :: G.drop s).Perm (x :: G) := List.perm_middle.trans (by rw [List.take_append_drop])
      have htk : L.take (j + 1) = L.take j ++ [x] := by rw [List.take_add_one, hx]; rfl
      refine ⟨L.length - (j + 1), by omega, j + 1, G.take s ++ x :: G.drop s, b', by simp, hlt, rfl, by rw [hP.length_eq]; simp, ?_, ?_, ?_, hb4, ch5⟩
      · rw [htk, List.map_append, List.map_append, List.map_cons, List.map_cons, List.map_nil, ordered_snoc, ← hGo, insP_place, ← hkp, List.map_take, List.map_drop]
      · rw [htk]
        exact hP.trans ((hGp.cons x).trans (List.perm_append_singleton ..).symm)
      · rw [List.map_append, List.map_cons, List.map_take, List.map_drop, ← hE]
        exact o5
  -- the place
  refine ⟨fun m n3 w2 => ∃ i : Nat, n3 = (i : Int) ∧ i ≤ G.length ∧ m = G.length - i ∧ (∀ a y, a < i → (G.map Et.pe)[a]? = some y → y.lt x.pe = true) ∧ Ch (fun _ => False) w w2 ∧ Ow w2 p1 G.length c1 7 ((G.map (·.e)).flatMap En.cells) ow,
    ⟨G.length, 0, rfl, Nat.zero_le _, rfl, fun a y h => absurd h (Nat.not_lt_zero a), ch1, ho⟩, ?_⟩
  rintro m _ w2 ⟨i, rfl, hi, rfl, hah, ch2, o2⟩
  refine Sif_cases (fun hlt2 => ?_) fun hge2 => ?_
  · obtain ⟨y, hy⟩ := at_lt hlt2
    have hlt2 : i < G.length := (List.getElem?_eq_some_iff.1 hy).1
    have hyp : (G.map Et.pe)[i]? = some y.pe := by rw [List.getElem?_map, hy]; rfl
    have ch2d : Ch (fun _ => False) w w2.drew := ch2.trans' (Ch.drew w2)
    have o2d := o2.ch (Ch.drew (S := fun _ => False) w2) fun _ _ => id
    obtain ⟨ky, oy, hpy, hcy⟩ := o2d.rd.at En.cells_len (by rw [List.getElem?_map, hy]; rfl : (G.map (·.e))[i]? = some y.e) (by decide)
    subst hpy
    have hc := atx _ ch2d
    have R2 := R.ch ch2d fun _ _ => id
    simp only [nn_some, add_at, Int.toNat_natCast]
    refine ⟨by omega, by omega, _, hcy 0 _ rfl, _, hcy 1 _ rfl, _, hcy 2 _ rfl, _, hcy 3 _ rfl, _, hcy 4 _ rfl, _, hcy 5 _ rfl, _, _, _, hcy 6 _ rfl, _, _, _, R2.cell rfl, by omega, by omega, ?_⟩
    simp only [nn_some, add_at, Int.toNat_natCast]
    refine ⟨_, hc 0 _ rfl, _, hc 1 _ rfl, _, hc 2 _ rfl, _, hc 3 _ rfl, _, hc 4 _ rfl, _, hc 5 _ rfl, _, _, _, hc 6 _ rfl, ?_⟩
    refine ahead_ok (a := y.e) (b := x.e) fun w3 c3 => ⟨_, rfl, ?_⟩
    have ch3 := ch2d.trans' c3
    have o3 := o2d.ch c3 fun _ _ => id
    refine Sif_cases (fun h => ?_) fun h => ?_
    · have h : y.e.lt x.e = false := by simpa using h
      refine ⟨?_, ch3, o3⟩
      rw [hkp, placeP_of x.pe (G.map Et.pe) i hah (fun z hz => by rw [hyp] at hz; cases hz; exact h) (by simpa using hi)]
    · have h : y.e.lt x.e = true := by simpa using h
      rw [nameI_iff, wrap_id (by omega) (by omega)]
      refine ⟨G.length - (i + 1), by omega, i + 1, by simp, hlt2, rfl, fun a z ha hz => ?_, ch3, o3⟩
      by_cases e : a = i
      · subst e
        rw [hyp] at hz; cases hz; exact h
      · exact hah a z (by omega) hz
  · have hie : i = G.length := by
      have := of_decide_eq_false hge2
      omega
    refine ⟨?_, ch2, o2⟩
    rw [hkp, placeP_of x.pe (G.map Et.pe) i hah (fun z hz => by rw [List.getElem?_eq_none (by simp; omega)] at hz; cases hz) (by simpa using hi)]
end Go.Proofs.YtipbbjnmpnfhpaaGreatDoor
namespace Go.Proofs.YtipbbjnmpnfhpaaGreatDoor
open Go Go.Sv Go.Heap Go.Qu Go.MapKept
set_option linter.unusedVariables false
set_option maxRecDepth 4000
theorem pushG {w : World} {p : Option Addr} {c : Nat} {G : List Et} {ow : Option Nat} (ho : Ow w p G.length c 7 ((G.map (·.e)).flatMap En.cells) ow) (x : Et) (h : G.length ≤ 2 ^ 36) {K : Option Addr → Nat → Nat → World → Prop}
    (hk : ∀ p' c' b' w', Ow w' p' (G ++ [x]).length c' 7 (((G ++ [x]).map (·.e)).flatMap En.cells) b' → (∀ k, b' = some k → ow = some k ∨ w.heap.size ≤ k) → Ch (fun k => ow = some k) w w' → K p' (G ++ [x]).length c' w') :
    newB w x.e.cells 34 fun a w2 => ∃ p5 n7 c5 w3, Sem.run Tryz.prog (Builtin.append_ #[24, 24] 24 #[.slice p G.length c, .slice (some a) 1 1]) w2 = .ok (.slice p5 n7 c5) w3 ∧ K p5 n7 c5 w3 := by
  have hml : (G.map (·.e)).length = G.length := List.length_map ..
  rw [← hml] at ho ⊢
  refine push_ok (g := En.cells) (sz := 7) (bytes := 72) Tryz.underlying24 entry_info rfl En.cells_len En.cells_one ho x.e (by omega) (by omega) fun p' c' b' w4 o4 n4 c4 => ?_
  have e : (G.map (·.e) ++ [x.e]).length = (G ++ [x]).length := by simp
  rw [e] at o4 ⊢
  exact hk p' c' b' w4 (by rw [List.map_append]; exact o4) n4 c4
theorem eB_sub {F G : List Et} (h : F.Sublist G) : (eB F).Sublist (eB G) := by
  induction h with
  | slnil => exact .refl _
  | cons x h ih => rw [eB_cons]; exact ih.trans (List.sublist_append_right ..)
  | cons_cons x h ih => rw [eB_cons, eB_cons]; exact ih.append_left _
theorem erase_take {α : Type} {l : List α} {j k : Nat} {x : α} (h : l[j]? = some x) : (l.take (j + 1)).eraseIdx k = (l.take j).eraseIdx k ++ (if j = k then [] else [x]) := by
  have hj := (List.getElem?_eq_some_iff.1 h).1
  have hl : (l.take j).length = j := by rw [List.length_take]; omega
  have e : l.take (j + 1) = l.take j ++ [x] := by rw [List.take_add_one, h]; rfl
  rw [e]
  split
  · rename_i hjk
    subst hjk
    rw [List.eraseIdx_append_of_length_le (by omega), hl, Nat.sub_self]
    rw [List.eraseIdx_of_length_le (l := l.take j) (by omega)]; rfl
  · rename_i hjk
    by_cases hk : k < j
    · rw [List.eraseIdx_append_of_lt_length (by omega)]
    · rw [List.eraseIdx_of_length_le (by simp; omega), List.eraseIdx_of_length_le (by omega)]
section
variable {w : World} {rb : Nat} {cf : Cfg} {last : Int} {L : List Et} {p : Option Addr} {c : Nat} {own : Option Nat}
theorem rdrop_ok {k : Nat} {K : Value → World → Prop} (R : RM w rb cf last L p c own) (hl : L.length ≤ 2 ^ 36)
    (hk : ∀ w' p' c' own', RM w' rb cf last (L.eraseIdx k) p' c' own' → (∀ b, own' = some b → w.heap.size ≤ b) → Ch (· = rb) w w' → K (.tuple #[]) w') :
    callP Tryz.prog 66 [.pointer (some ⟨rb, 0, none⟩), .int .i64 (k : Int)] w K := by
  refine ok_longshoreref17_Queue_drop ?_
  unfold wp_longshoreref17_Queue_drop
  refine ⟨fun m p n c i w1 => ∃ (j : Nat) (G : List Et) (ow : Option Nat), i = (j : Int) ∧ j ≤ L.length ∧ m = L.length - j ∧ n = G.length ∧ G = (L.take j).eraseIdx k ∧ Ow w1 p n c 7 ((G.map (·.e)).flatMap En.cells) ow ∧ (∀ b, ow = some b → w.heap.size ≤ b) ∧ Ch (fun _ => False) w w1,
    ⟨L.length, 0, [], none, rfl, Nat.zero_le _, rfl, rfl, rfl, Ow.nil, (fun b hb => by cases hb), Ch.refl _ _⟩, ?_⟩
  rintro m p1 n c1 _ w1 ⟨j, G, ow, rfl, hj, rfl, rfl, hG, ho, how, ch1⟩
  have R1 := R.ch ch1 fun _ _ => id
  have hGl : G.length ≤ L.length := by
    rw [hG]
    exact Nat.le_trans (List.length_eraseIdx_le ..) (by rw [List.length_take]; omega)
  simp only [nn_some, add_at, Nat.zero_add]
  refine ⟨_, _, _, R1.cell rfl, Sif_cases (fun hlt => ?_) fun hge => ?_⟩
  · obtain ⟨x, hx⟩ := at_lt hlt
    have hlt : j < L.length := (List.getElem?_eq_some_iff.1 hx).1
    have hs := erase_take (k := k) hx
    rw [← hG] at hs
    refine ⟨fun p' n' c' w' => ∃ (G : List Et) (ow : Option Nat), n' = G.length ∧ G = (L.take (j + 1)).eraseIdx k ∧ Ow w' p' n' c' 7 ((G.map (·.e)).flatMap En.cells) ow ∧ (∀ b, ow = some b → w.heap.size ≤ b) ∧ Ch (fun _ => False) w w', ?_, ?_⟩
    · rintro p' _ c' w' ⟨G', ow', rfl, g2, g3, g4, g5⟩
      rw [nameI_iff, wrap_id (by omega) (by omega)]
      exact ⟨L.length - (j + 1), by omega, j + 1, G', ow', by simp, hlt, rfl, rfl, g2, g3, g4, g5⟩
    refine Sif_cases (fun hne => ?_) fun heq => ?_
    · have hne : j ≠ k := by
        have h : (j : Int) ≠ (k : Int) := by simpa using hne
        omega
      rw [if_neg hne] at hs
      obtain ⟨kx, ox, hpx, hc⟩ := R1.at hx
      subst hpx
      refine ⟨_, _, _, R1.cell rfl, by omega, by omega, ?_⟩
      simp only [nn_some, add_at, Int.toNat_natCast]
      refine ⟨_, hc 0 _ rfl, _, hc 1 _ rfl, _, hc 2 _ rfl, _, hc 3 _ rfl, _, hc 4 _ rfl, _, hc 5 _ rfl, _, _, _, hc 6 _ rfl, ?_⟩
      refine pushG ho x (by omega) fun p' c' b' w4 o4 n4 c4 => ⟨G ++ [x], b', rfl, hs.symm, o4, fun b hb => ?_, ch1.trans c4 fun b hb h => by have := how b h; omega⟩
      rcases n4 b hb with q | q
      · exact how b q
      · have := ch1.size; omega
    · have heq : j = k := by
        have h : (j : Int) = (k : Int) := by simpa using heq
        omega
      rw [if_pos heq, List.append_nil] at hs
      exact ⟨G, ow, rfl, hs.symm, ho, how, ch1⟩
  · have hje : j = L.length := by
      have := of_decide_eq_false hge
      omega
    subst hje
    rw [List.take_of_length_le (Nat.le_refl _)] at hG
    subst hG
    refine st_blk R1.head (by simp [rcells]) fun w2 b2 c2 z2 => ?_
    have hrb := blk_lt R.head
    have hsub : ∀ y ∈ L.eraseIdx k, y ∈ L := fun y hy => (List.eraseIdx_sublist L k).subset hy
    have heB : ∀ b, b ∈ eB (L.eraseIdx k) → b ∈ eB L := fun b hb => by
      obtain ⟨y, hy, ho⟩ := mem_eB.1 hb
      exact mem_eB.2 ⟨y, hsub y hy, ho⟩
    have hlt := R.lt
    refine hk w2 p1 c1 ow ⟨b2, ho.ch c2 fun b hb h => by have := how b hb; omega, fun y hy => EtE.ch (R1.dat y (hsub y hy)) c2 fun b hb h => ?_, rbl_nd (fun h => by have := how _ h; omega) (fun h => R.ne_re (heB _ h)) (fun b hb h => ?_) ?_⟩ how ((ch1.mono fun _ _ h => h.elim).trans' c2)
    · subst h
      exact R.ne_re (mem_eB.2 ⟨y, hsub y hy, by simpa [EtE, Option.mem_toList] using hb⟩)
    · have h1 := how b hb
      have h2 := hlt b (mem_rbl.2 (.inr (.inr (heB b h))))
      omega
    · exact (eB_sub (List.eraseIdx_sublist L k)).nodup R.ndE
theorem rlater_ok {behind : Int} {K : Value → World → Prop} (R : RM w rb cf last L p c own) (hl : L.length ≤ 2 ^ 36)
    (hk : ∀ p c w' (G : List Et) ow, G = L.filter (fun x => decide (behind < x.e.seq)) → Ow w' p G.length c 7 ((G.map (·.e)).flatMap En.cells) ow → (∀ b, ow = some b → w.heap.size ≤ b) → Ch (fun _ => False) w w' → K (.slice p G.length c) w') :
    callP Tryz.prog 62 [.pointer (some ⟨rb, 0, none⟩), .int .i64 behind] w K := by
  refine ok_longshoreref17_Queue_Later ?_
  unfold wp_longshoreref17_Queue_Later
  refine ⟨fun m p n c i w1 => ∃ (j : Nat) (G : List Et) (ow : Option Nat), i = (j : Int) ∧ j ≤ L.length ∧ m = L.length - j ∧ n = G.length ∧ G = (L.take j).filter (fun x => decide (behind < x.e.seq)) ∧ Ow w1 p n c 7 ((G.map (·.e)).flatMap En.cells) ow ∧ (∀ b, ow = some b → w.heap.size ≤ b) ∧ Ch (fun _ => False) w w1,
    ⟨L.length, 0, [], none, rfl, Nat.zero_le _, rfl, rfl, rfl, Ow.nil, (fun b hb => by cases hb), Ch.refl _ _⟩, ?_⟩
  rintro m p1 n c1 _ w1 ⟨j, G, ow, rfl, hj, rfl, rfl, hG, ho, how, ch1⟩
  have R1 := R.ch ch1 fun _ _ => id
  have hGl : G.length ≤ L.length := by
    rw [hG]
    exact Nat.le_trans (List.length_filter_le ..) (by rw [List.length_take]; omega)
  simp only [nn_some, add_at, Nat.zero_add]
  refine ⟨_, _, _, R1.cell rfl, Sif_cases (fun hlt => ?_) fun hge => ?_⟩
  · obtain ⟨x, hx⟩ := at_lt hlt
    have hlt : j < L.length := (List.getElem?_eq_some_iff.1 hx).1
    have hs : (L.take (j + 1)).filter (fun x => decide (behind < x.e.seq)) = G ++ (if behind < x.e.seq then [x] else []) := by
      rw [List.take_add_one, hx, List.filter_append, ← hG]
      congr 1
      by_cases h : behind < x.e.seq <;> simp [h]
    refine ⟨fun p' n' c' w' => ∃ (G : List Et) (ow : Option Nat), n' = G.length ∧ G = (L.take (j + 1)).filter (fun x => decide (behind < x.e.seq)) ∧ Ow w' p' n' c' 7 ((G.map (·.e)).flatMap En.cells) ow ∧ (∀ b, ow = some b → w.heap.size ≤ b) ∧ Ch (fun _ => False) w w', ?_, ?_⟩
    · rintro p' _ c' w' ⟨G', ow', rfl, g2, g3, g4, g5⟩
      rw [nameI_iff, wrap_id (by omega) (by omega)]
      exact ⟨L.length - (j + 1), by omega, j + 1, G', ow', by simp, hlt, rfl, rfl, g2, g3, g4, g5⟩
    obtain ⟨kx, ox, hpx, hc⟩ := R1.at hx
    subst hpx
    refine ⟨_, _, _, R1.cell rfl, by omega, by omega, ?_⟩
    simp only [nn_some, add_at, Int.toNat_natCast]
    refine ⟨_, hc 0 _ rfl, Sif_cases (fun hne => ?_) fun heq => ?_⟩
    · have hne : behind < x.e.seq := by simpa using hne
      rw [if_pos hne] at hs
      refine ⟨_, _, _, R1.cell rfl, by omega, by omega, ?_⟩
      simp only [nn_some, add_at, Int.toNat_natCast]
      refine ⟨_, hc 0 _ rfl, _, hc 1 _ rfl, _, hc 2 _ rfl, _, hc 3 _ rfl, _, hc 4 _ rfl, _, hc 5 _ rfl, _, _, _, hc 6 _ rfl, ?_⟩
      refine pushG ho x (by omega) fun p' c' b' w4 o4 n4 c4 => ⟨G ++ [x], b', rfl, hs.symm, o4, fun b hb => ?_, ch1.trans c4 fun b hb h => by have := how b h; omega⟩
      rcases n4 b hb with q | q
      · exact how b q
      · have := ch1.size; omega
    · have heq : ¬ behind < x.e.seq := by simpa using heq
      rw [if_neg heq, List.append_nil] at hs
      exact ⟨G, ow, rfl, hs.symm, ho, how, ch1⟩
  · have hje : j = L.length := by
      have := of_decide_eq_false hge
      omega
    subst hje
    rw [List.take_of_length_le (Nat.le_refl _)] at hG
    exact hk p1 c1 w1 G ow hG ho how ch1
end
/-- blocks that stay quiet: none of them is the queue's own, but for the entries' bytes -/
structure Qok (Qt : Nat → Prop) (w : World) (rb : Nat) (own : Option Nat) : Prop where
  rb : ¬ Qt rb
  own : ∀ b, own = some b → ¬ Qt b
  lo : ∀ b, Qt b → b < w.heap.size
theorem Qok.up {Qt : Nat → Prop} {w w' : World} {rb : Nat} {own own' : Option Nat} (h : Qok Qt w rb own) (hs : w.heap.size ≤ w'.heap.size) (ho : ∀ b, own' = some b → own = some b ∨ w.heap.size ≤ b) : Qok Qt w' rb own' :=
  ⟨h.rb, fun b hb q => (ho b hb).elim (fun h2 => h.own b h2 q) fun h2 => by have := h.lo b q; omega, fun b q => Nat.lt_of_lt_of_le (h.lo b q) hs⟩
theorem Qok.same {Qt : Nat → Prop} {w w' : World} {rb : Nat} {own : Option Nat} (h : Qok Qt w rb own) (hs : w.heap.size ≤ w'.heap.size) : Qok Qt w' rb own := h.up hs fun b hb => .inl hb
structure RQ (Qt : Nat → Prop) (w : World) (rb : Nat) (A : AQ) (B : Nat → Prop) : Prop where
  wf : WQ A
  ex : ∃ L p c own, RM w rb A.cf A.last L p c own ∧ L.map Et.pe = A.L ∧ B = (fun b => b ∈ rbl rb own L) ∧ Qok Qt w rb own
theorem RQ.ch {Qt S : Nat → Prop} {w w' : World} {rb : Nat} {A : AQ} {B : Nat → Prop} (Q : RQ Qt w rb A B) (hc : Ch S w w') (hn : ∀ b, B b → ¬ S b) : RQ Qt w' rb A B := by
  obtain ⟨wf, L, p, c, own, M, E, rfl, hQt⟩ := Q
  exact ⟨wf, L, p, c, own, M.ch hc hn, E, rfl, hQt.same hc.size⟩
theorem RQ.lt {Qt : Nat → Prop} {w : World} {rb : Nat} {A : AQ} {B : Nat → Prop} (Q : RQ Qt w rb A B) : ∀ b, B b → b < w.heap.size := by
  obtain ⟨wf, L, p, c, own, M, E, rfl, hQt⟩ := Q
  exact M.lt
theorem RQ.qlo {Qt : Nat → Prop} {w : World} {rb : Nat} {A : AQ} {B : Nat → Prop} (Q : RQ Qt w rb A B) : ∀ b, Qt b → b < w.heap.size := by
  obtain ⟨wf, L, p, c, own, M, E, rfl, hQt⟩ := Q
  exact hQt.lo
abbrev RPost (Qt : Nat → Prop) (w : World) (rb : Nat) (A' : AQ) (B : Nat → Prop) (K : World → (Nat → Prop) → Prop) : Prop := ∀ w' B', RQ Qt w' rb A' B' → Ch (fun b => B b ∧ ¬ Qt b) w w' → (∀ b, B' b → B b ∨ w.heap.size ≤ b) → K w' B'
/-- the header and the row -/
theorem quiet_own {Qt : Nat → Prop} {w : World} {rb : Nat} {own : Option Nat} {L : List Et} (h : Qok Qt w rb own) {b : Nat} (hb : b = rb ∨ own = some b) : b ∈ rbl rb own L ∧ ¬ Qt b := by
  rcases hb with rfl | hb
  · exact ⟨mem_rbl.2 (.inl rfl), h.rb⟩
  · exact ⟨mem_rbl.2 (.inr (.inl hb)), h.own b hb⟩
end Go.Proofs.YtipbbjnmpnfhpaaGreatDoor
namespace Go.Proofs.YtipbbjnmpnfhpaaGreatDoor
open Go Go.Sv Go.Heap Go.Qu Go.MapKept
set_option linter.unusedVariables false
set_option maxRecDepth 4000
def fcells (kb rb : Nat) (any : Bool) (l s : Value) : List Value := [.pointer (some ⟨kb, 0, none⟩), .bool any, l, s, .pointer (some ⟨rb, 0, none⟩), .bool false]
theorem st_mono {w : World} {a : Addr} {v : Value} {K K' : World → Prop} (h : Sv.st w a v K) (hk : ∀ w', K w' → K' w') : Sv.st w a v K' := ⟨h.1, h.2.1, hk _ h.2.2⟩
/-- a fitter that was asked n times, beside a queue whose blocks are Pr. U: all blocks at first (world w0) -/
structure FJ (Qt : Nat → Prop) (Bp : World → Nat → (Nat → Prop) → Prop) (w0 : World) (U : Nat → Prop) (kb rb fb m0 : Nat) (A : AQ) (C : Nat → Prop) (L : List PE) (any : Bool) (l : Value) (n : Nat) (Pr : Nat → Prop) (w : World) (D : Nat → Prop) (ap : Option Addr) (ac : Nat) (ao : Option Nat) : Prop where
  book : Bp w (m0 + n) D
  doc : RQ Qt w rb A C
  fit : blk w fb = some (fcells kb rb any l (.slice ap n ac))
  row : Ow w ap n ac 1 (((L.take n).map (·.seq)).flatMap iC) ao
  len : n ≤ L.length
  fD : ¬ D fb
  fC : ¬ C fb
  fP : ¬ Pr fb
  aD : ∀ b, ao = some b → ¬ D b ∧ ¬ C b ∧ ¬ Pr b ∧ b ≠ fb
  DC : ∀ b, D b → ¬ C b
  DP : ∀ b, D b → ¬ Pr b
  CP : ∀ b, C b → ¬ Pr b
  uD : ∀ b, D b → U b ∨ w0.heap.size ≤ b
  uP : ∀ b, Pr b → U b ∨ w0.heap.size ≤ b
  uF : U fb ∨ w0.heap.size ≤ fb
  uA : ∀ b, ao = some b → w0.heap.size ≤ b
  ch : Ch U w0 w
def FJE (Qt : Nat → Prop) (Bp : World → Nat → (Nat → Prop) → Prop) (w0 : World) (U : Nat → Prop) (kb rb fb m0 : Nat) (A : AQ) (C : Nat → Prop) (L : List PE) (any : Bool) (l : Value) (n : Nat) (Pr : Nat → Prop) (w : World) : Prop := ∃ D ap ac ao, FJ Qt Bp w0 U kb rb fb m0 A C L any l n Pr w D ap ac ao
theorem fint_info : InfoIs Tryz.prog 3 1 8 (.int .i64 0) := .of (by kernel_rfl) (by kernel_rfl) (by kernel_rfl)
section
variable {Qt : Nat → Prop} {Bp : World → Nat → (Nat → Prop) → Prop} {w0 : World} {U : Nat → Prop} {kb rb fb m0 : Nat} {A : AQ} {C : Nat → Prop} {L : List PE} {any : Bool} {l : Value}
theorem FJ.lt (HB : BookLike kb Bp) {n : Nat} {Pr : Nat → Prop} {w : World} {D : Nat → Prop} {ap : Option Addr} {ac : Nat} {ao : Option Nat} (F : FJ Qt Bp w0 U kb rb fb m0 A C L any l n Pr w D ap ac ao) : (∀ b, D b → b < w.heap.size) ∧ (∀ b, C b → b < w.heap.size) ∧ fb < w.heap.size ∧ ∀ b, ao = some b → b < w.heap.size := by
  exact ⟨HB.lt F.book, F.doc.lt, blk_lt F.fit, F.row.blt⟩
theorem FJE.st (HB : BookLike kb Bp) {n : Nat} {Pr Pr' : Nat → Prop} {w w' : World} (h : FJE Qt Bp w0 U kb rb fb m0 A C L any l n Pr w) (c : Ch Pr w w') (hp : ∀ b, Pr' b → Pr b ∨ w.heap.size ≤ b) : FJE Qt Bp w0 U kb rb fb m0 A C L any l n Pr' w' := by
  obtain ⟨D, ap, ac, ao, F⟩ := h
  obtain ⟨l1, l2, l3, l4⟩ := F.lt HB
  have hs := F.ch.size
  refine ⟨D, ap, ac, ao, HB.ch F.book c F.DP, F.doc.ch c F.CP, by rw [c.blk l3 F.fP]; exact F.fit, F.row.ch c fun b hb => (F.aD b hb).2.2.1, F.len, F.fD, F.fC, fun h => ?_, fun b hb => ⟨(F.aD b hb).1, (F.aD b hb).2.1, fun h => ?_, (F.aD b hb).2.2.2⟩, F.DC, fun b hb h => ?_, fun b hb h => ?_, F.uD, fun b hb => ?_, F.uF, F.uA, F.ch.trans c fun b hb h => ?_⟩
  · rcases hp fb h with q | q
    · exact F.fP q
    · omega
  · rcases hp b h with q | q
    · exact (F.aD b hb).2.2.1 q
    · have := l4 b hb; omega
  · rcases hp b h with q | q
    · exact F.DP b hb q
    · have := l1 b hb; omega
  · rcases hp b h with q | q
    · exact F.CP b hb q
    · have := l2 b hb; omega
  · rcases hp b hb with q | q
    · exact F.uP b q
    · exact .inr (by omega)
  · rcases F.uP b h with q | q
    · exact q
    · omega
end
set_option maxHeartbeats 1000000 in
theorem fits_ok {Qt : Nat → Prop} {Bp : World → Nat → (Nat → Prop) → Prop} {w0 : World} {U : Nat → Prop} {kb rb fb m0 : Nat} {A : AQ} {C : Nat → Prop} {L : List PE} {any : Bool} {lp : Option Addr} {ln lc : Nat} {T : List Int} (HB : BookLike kb Bp) (hL : ∀ x ∈ L, x ∈ A.L) (hm : m0 + L.length ≤ 2 ^ 34)
    (hT : Rd w0 lp ln 1 (T.flatMap iC)) (hTl : T.length = ln) (hln : ln ≤ 2 ^ 62) (hTb : ∀ a, lp = some a → ln * 1 ≠ 0 → ¬ U a.block) :
    Asks (.func (.func 60) #[.pointer (some ⟨fb, 0, none⟩)] #[]) (fitOf any T) L (FJE Qt Bp w0 U kb rb fb m0 A C L any (.slice lp ln lc)) where
  st := FJE.st HB
  ask := by
    rintro n x Pr w y K hx ⟨D, ap, ac, ao, F⟩ hy hpe hyP hPl hk
    obtain ⟨l1, l2, l3, l4⟩ := F.lt HB
    have hnl := (List.getElem?_eq_some_iff.1 hx).1
    have hyD : ∀ b, y.own = some b → ¬ D b ∧ ¬ C b ∧ b ≠ fb ∧ ao ≠ some b := fun b hb => ⟨fun h => F.DP b h (.inr hb), fun h => F.CP b h (.inr hb), fun h => F.fP (.inr (by rw [← h]; exact hb)), fun h => (F.aD b h).2.2.1 (.inr hb)⟩
    obtain ⟨wf, R0, rp, rc, ro, RR, RE, hC, hQt⟩ := F.doc
    have hxA : x ∈ A.L := hL x (List.mem_of_getElem? hx)
    have hok := wf.ok x hxA
    have hyl := EtE.len hy
    have hyn : y.e.n ≤ 2 ^ 40 := by have := hok.len; rw [← hpe] at this; have : y.l.length ≤ 1048576 := this; omega
    have hR0 : R0.length ≤ 2 ^ 20 := by
      have h1 := wf.len
      have h2 := wf.most2
      have h3 : R0.length = A.L.length := by rw [← RE, List.length_map]
      omega
    refine ⟨rfl, ?_⟩
    show callP Tryz.prog 60 [.pointer (some ⟨fb, 0, none⟩), y.e.val] w K
    refine ok_longshorelaw17_fitter_fits ?_
    unfold wp_longshorelaw17_fitter_fits
    refine newB_blk fun w1 b1 c1 z1 => ?_
    simp only [nn_some, add_at, Nat.zero_add]
    have c1d : Ch (fun _ => False) w w1.drew := c1.trans' (Ch.drew w1)
    have f1 : blk w1.drew fb = some (fcells kb rb any (.slice lp ln lc) (.slice ap n ac)) := by rw [c1d.blk l3 id]; exact F.fit
    have e1 : blk w1.drew w.heap.size = some y.e.cells := b1
    refine ⟨_, _, _, by rw [cell_blk f1]; rfl, _, by rw [cell_blk e1]; rfl, ?_⟩
    have hnn : ((L.take n).map (·.seq)).length = n := by rw [List.length_map, List.length_take]; omega
    have r1 : Ow w1.drew ap ((L.take n).map (·.seq)).length ac 1 (((L.take n).map (·.seq)).flatMap iC) ao := by rw [hnn]; exact F.row.ch c1d fun _ _ => id
    have key := push_ok (P := Tryz.prog) (ty := 44) (te := 3) (g := iC) (sz := 1) (bytes := 8) Tryz.underlying44 fint_info rfl iC_len iC_one r1 y.e.seq (by omega) (by omega) (K := fun p' n' c' w3 => Sv.st w3 ⟨fb, 3, none⟩ (.slice p' n' c') fun w4 => ∃ (p4 : Option Addr) (c4 : Nat) (o4 : Option Nat), Ow w4 p4 (n + 1) c4 1 (((L.take (n + 1)).map (·.seq)).flatMap iC) o4 ∧ blk w4 fb = some (fcells kb rb any (.slice lp ln lc) (.slice p4 (n + 1) c4)) ∧ (∀ b, o4 = some b → ao = some b ∨ w1.heap.size ≤ b) ∧ Ch (fun b => b = fb ∨ ao = some b) w1.drew w4) fun p' c' b' w3 o3 n3 c3 => by
      have f3 : blk w3 fb = some (fcells kb rb any (.slice lp ln lc) (.slice ap n ac)) := by rw [c3.blk (blk_lt f1) fun e => (F.aD fb e).2.2.2 rfl]; exact f1
      refine st_blk f3 (by simp [fcells]) fun w4 f4 c4 z4 => ?_
      have e3 : (L.take n).map (·.seq) ++ [y.e.seq] = (L.take (n + 1)).map (·.seq) := by
        rw [List.take_add_one, hx]
        simp only [Option.toList_some, List.map_append, List.map_cons, List.map_nil, ← hpe]
        rfl
      rw [e3] at o3 f4
      have e4 : ((L.take (n + 1)).map (·.seq)).length = n + 1 := by rw [List.length_map, List.length_take]; omega
      rw [e4] at o3 f4
      refine ⟨p', c', b', o3.ch c4 fun b hb e => ?_, f4, n3, (c3.mono fun b _ h => .inr h).trans' (c4.mono fun b _ h => .inl h)⟩
      rcases n3 b hb with q | q
      · exact (F.aD b q).2.2.2 e
      · have q : w1.heap.size ≤ b := q
        have e : b = fb := e
        omega
    rw [hnn] at key
    refine newB_mono' key fun a w' cc h => ⟨⟨_, _, _, ?_, rfl⟩, ?_⟩
    · rw [cell_blk (show blk w' fb = some (fcells kb rb any (.slice lp ln lc) (.slice ap n ac)) by rw [cc.blk (blk_lt f1) id]; exact f1)]; rfl
    obtain ⟨p5, n7, c5, w3, g1, g2⟩ := h
    refine ⟨p5, n7, c5, w3, g1, st_mono g2 ?_⟩
    rintro w4 ⟨p4, c4, o4, row4, f4, n4, ch4⟩
    -- the document's entries are looked through
    have fb1 : fb < w.heap.size := l3
    have s1 : w.heap.size + 1 = w1.drew.heap.size := z1.symm
    have s4 := ch4.size
    have e4 : blk w4 w.heap.size = some y.e.cells := by
      rw [ch4.blk (by omega) fun h => ?_]
      · exact e1
      · rcases h with h | h
        · omega
        · have := l4 _ h; omega
    have chw4 : Ch (fun b => b = fb ∨ ao = some b) w w4 := (c1d.mono fun _ _ h => h.elim).trans' ch4
    have RR4 : RM w4 rb A.cf A.last R0 rp rc ro := RR.ch chw4 fun b hb h => by
      have hCb : C b := by rw [hC]; exact hb
      rcases h with h | h
      · exact F.fC (h ▸ hCb)
      · exact (F.aD b h).2.1 hCb
    have hy4 : EtE.Ok w4 y := EtE.ch hy chw4 fun b hb h => by
      have hb : y.own = some b := by simpa [EtE, Option.mem_toList] using hb
      rcases h with h | h
      · exact (hyD b hb).2.2.1 h
      · exact (hyD b hb).2.2.2 h
    refine ⟨fun m b i w5 => ∃ j : Nat, i = (j : Int) ∧ j ≤ R0.length ∧ m = R0.length - j ∧ b = (R0.take j).any (fun z => decide (z.pe.seq = y.e.seq)) ∧ Ch (fun _ => False) w4 w5, ⟨R0.length, 0, rfl, Nat.zero_le _, rfl, by simp, Ch.refl _ _⟩, ?_⟩
    rintro m b i w5 ⟨j, rfl, hj, rfl, hb, c5⟩
    have f5 : blk w5 fb = some (fcells kb rb any (.slice lp ln lc) (.slice p4 (n + 1) c4)) := by rw [c5.blk (blk_lt f4) id]; exact f4
    have RR5 := RR4.ch c5 fun _ _ => id
    refine ⟨_, by rw [cell_blk f5]; rfl, ?_⟩
    simp only [nn_some, add_at, Nat.zero_add]
    refine ⟨_, _, _, RR5.cell rfl, Sif_cases (fun hlt => ?_) fun hge => ?_⟩
    · obtain ⟨u, hu⟩ := at_lt hlt
      have hlt : j < R0.length := (List.getElem?_eq_some_iff.1 hu).1
      have hum := List.mem_of_getElem? hu
      have hut : ((R0.take (j + 1)).any (fun z => decide (z.pe.seq = y.e.seq))) = (b || decide (u.e.seq = y.e.seq)) := by
        rw [hb, List.take_add_one, hu, List.any_append]
        simp only [Option.toList_some, List.any_cons, List.any_nil, Bool.or_false]
        rfl
      refine ⟨fun b1 w6 => b1 = (R0.take (j + 1)).any (fun z => decide (z.pe.seq = y.e.seq)) ∧ Ch (fun _ => False) w4 w6, ?_, ?_⟩
      · rintro b1 w6 ⟨hb1, c6⟩
        rw [nameI_iff, wrap_id (by omega) (by omega)]
        exact ⟨R0.length - (j + 1), by omega, j + 1, rfl, hlt, rfl, hb1, c6⟩
      have c5d : Ch (fun _ => False) w4 w5.drew := c5.trans' (Ch.drew w5)
      have RR5d := RR4.ch c5d fun _ _ => id
      have f5d : blk w5.drew fb = some (fcells kb rb any (.slice lp ln lc) (.slice p4 (n + 1) c4)) := by rw [c5d.blk (blk_lt f4) id]; exact f4
      have e5d : blk w5.drew w.heap.size = some y.e.cells := by rw [c5d.blk (blk_lt e4) id]; exact e4
      refine ⟨_, by rw [cell_blk f5d]; rfl, ?_⟩
      simp only [nn_some, add_at, Nat.zero_add]
      obtain ⟨kx, ox, hpx, hcx⟩ := RR5d.at hu
      refine ⟨_, _, _, RR5d.cell rfl, by omega, by omega, ?_⟩
      rw [hpx]
      simp only [nn_some, add_at, Int.toNat_natCast]
      refine ⟨_, hcx 0 _ rfl, _, by rw [cell_blk e5d]; rfl, Sif_cases (fun hq => ?_) fun hq => ?_⟩
      · have hq : u.e.seq = y.e.seq := by simpa using hq
        have c5e : Ch (fun _ => False) w4 w5.drew.drew := c5d.trans' (Ch.drew _)
        have RR5e := RR4.ch c5e fun _ _ => id
        have f5e : blk w5.drew.drew fb = some (fcells kb rb any (.slice lp ln lc) (.slice p4 (n + 1) c4)) := by rw [c5e.blk (blk_lt f4) id]; exact f4
        have e5e : blk w5.drew.drew w.heap.size = some y.e.cells := by rw [c5e.blk (blk_lt e4) id]; exact e4
        have huA : u.pe ∈ A.L := by rw [← RE]; exact List.mem_map.2 ⟨u, hum, rfl⟩
        have hue : u.pe = y.pe := by rw [hpe]; exact inj_of_nodup wf.nd huA hxA (by rw [← hpe]; exact hq)
        have hul : u.l = y.l := congrArg PE.l hue
        obtain ⟨kx', ox', hpx', hcx'⟩ := RR5e.at hu
        rw [hpx] at hpx'; cases hpx'
        refine rdN e5e ⟨_, by rw [cell_blk f5e]; rfl, ?_⟩
        simp only [nn_some, add_at, Nat.zero_add]
        refine ⟨_, _, _, RR5e.cell rfl, by omega, by omega, ?_⟩
        rw [hpx]
        simp only [nn_some, add_at, Int.toNat_natCast]
        refine ⟨_, hcx' 0 _ rfl, _, hcx' 1 _ rfl, _, hcx' 2 _ rfl, _, hcx' 3 _ rfl, _, hcx' 4 _ rfl, _, hcx' 5 _ rfl, _, _, _, hcx' 6 _ rfl, ?_⟩
        refine same_ok (a := y.e) (b := u.e) (l := y.l) ((EtE.ch hy4 c5e fun _ _ => id).rd) (by have := (RR5e.dat u hum).rd; rw [hul] at this; exact this) (by
          show y.pe = u.e.as y.l
          rw [← hul, ← hue]; rfl) fun w6 c6 => ⟨true, rfl, ?_, c5e.trans' c6⟩
        rw [hut, decide_eq_true hq, Bool.or_true]
      · have hq : ¬ u.e.seq = y.e.seq := by simpa using hq
        refine ⟨?_, c5d⟩
        rw [hut, decide_eq_false hq, Bool.or_false]
    -- it is there
    have hje : j = R0.length := by have := of_decide_eq_false hge; omega
    subst hje
    rw [List.take_length] at hb
    have hbt : b = true := by
      rw [hb]
      rw [← RE] at hxA
      obtain ⟨z, hz, hzx⟩ := List.mem_map.1 hxA
      exact List.any_eq_true.2 ⟨z, hz, decide_eq_true (by rw [hzx, ← hpe]; rfl)⟩
    refine ⟨fun w6 => w6 = w5, ?_, ?_⟩
    rotate_left
    · rw [hbt]; exact Sif_false rfl
    rintro w6 rfl
    have c5d : Ch (fun _ => False) w4 w6.drew := c5.trans' (Ch.drew w6)
    have f5d : blk w6.drew fb = some (fcells kb rb any (.slice lp ln lc) (.slice p4 (n + 1) c4)) := by rw [c5d.blk (blk_lt f4) id]; exact f4
    have e5d : blk w6.drew w.heap.size = some y.e.cells := by rw [c5d.blk (blk_lt e4) id]; exact e4
    refine ⟨_, by rw [cell_blk f5d]; rfl, rdN e5d ?_⟩
    have chA : Ch (fun b => b = fb ∨ ao = some b) w w6.drew := chw4.new c5d
    have hbook : Bp w6.drew (m0 + n) D := HB.ch F.book chA fun b hb h => by
      rcases h with h | h
      · exact F.fD (h ▸ hb)
      · exact (F.aD b h).1 hb
    refine HB.take hbook (EtE.ch hy4 c5d fun _ _ => id) (fun b hb => (hyD b hb).1) hyn (by omega) fun w7 D' book7 c7 hD' => ⟨rfl, ?_⟩
    have s6 := c5d.size
    have sz6 : w1.heap.size ≤ w6.drew.heap.size := by omega
    have hfo : ∀ b, o4 = some b → b < w6.drew.heap.size ∧ ¬ D b ∧ y.own ≠ some b := fun b hb => by
      have h1 := row4.blt b hb
      rcases n4 b hb with q | q
      · exact ⟨by omega, (F.aD b q).1, fun h => (hyD b h).2.2.2 q⟩
      · exact ⟨by omega, fun h => by have := l1 b h; omega, fun h => by have := hy.blt b h; omega⟩
    have f7 : blk w7 fb = some (fcells kb rb any (.slice lp ln lc) (.slice p4 (n + 1) c4)) := by
      rw [c7.blk (blk_lt f5d) fun h => ?_]
      · exact f5d
      · rcases h with h | h
        · exact F.fD h
        · exact (hyD fb h).2.2.1 rfl
    have hyU : ∀ b, y.own = some b → U b ∨ w0.heap.size ≤ b := fun b hb => F.uP b (.inr hb)
    have hw0 := F.ch.size
    have cW : Ch (fun b => b = fb ∨ ao = some b ∨ D b ∨ y.own = some b) w w7 := (chA.mono fun b _ h => h.imp id .inl).trans' (c7.mono fun b _ h => .inr (.inr h))
    have F' : ∀ w8, Ch (fun _ => False) w7 w8 → FJE Qt Bp w0 U kb rb fb m0 A C L any (.slice lp ln lc) (n + 1) Pr w8 := fun w8 c8 => by
      have cW8 := cW.new c8
      refine ⟨D', p4, c4, o4, by rw [← Nat.add_assoc]; exact HB.ch book7 c8 fun _ _ => id, ?_, by rw [c8.blk (blk_lt f7) id]; exact f7, (((row4.ch c5d fun _ _ => id).ch c7 fun b hb h => ?_).ch c8 fun _ _ => id), hnl, fun h => ?_, F.fC, fun h => F.fP (.inl h), fun b hb => ⟨fun h => ?_, fun h => ?_, fun h => ?_, fun h => ?_⟩, fun b hb h => ?_, fun b hb h => ?_, fun b hb h => F.CP b hb (.inl h), fun b hb => ?_, fun b hb => F.uP b (.inl hb), F.uF, fun b hb => ?_, F.ch.trans cW8 fun b hb h => ?_⟩
      · refine RQ.ch ⟨wf, R0, rp, rc, ro, RR, RE, hC, hQt⟩ cW8 fun b hb h => ?_
        rcases h with h | h | h | h
        · exact F.fC (h ▸ hb)
        · exact (F.aD b h).2.1 hb
        · exact F.DC b h hb
        · exact (hyD b h).2.1 hb
      · rcases h with h | h
        · exact (hfo b hb).2.1 h
        · exact (hfo b hb).2.2 h
      · rcases hD' fb h with q | q | q
        · exact F.fD q
        · exact (hyD fb q).2.2.1 rfl
        · omega
      · rcases hD' b h with q | q | q
        · exact (hfo b hb).2.1 q
        · exact (hfo b hb).2.2 q
        · have := (hfo b hb).1; omega
      · rcases n4 b hb with q | q
        · exact (F.aD b q).2.1 h
        · have := l2 b h; omega
      · rcases n4 b hb with q | q
        · exact (F.aD b q).2.2.1 (.inl h)
        · have := hPl b h; omega
      · rcases n4 b hb with q | q
        · exact (F.aD b q).2.2.2 h
        · omega
      · rcases hD' b hb with q | q | q
        · exact F.DC b q h
        · exact (hyD b q).2.1 h
        · have := l2 b h; omega
      · rcases hD' b hb with q | q | q
        · exact F.DP b q (.inl h)
        · exact hyP b q h
        · have := hPl b h; omega
      · rcases hD' b hb with q | q | q
        · exact F.uD b q
        · exact hyU b q
        · exact .inr (by omega)
      · rcases n4 b hb with q | q
        · exact F.uA b q
        · omega
      · rcases h with h | h | h | h
        · rcases F.uF with q | q
          · rw [h]; exact q
          · omega
        · have := F.uA b h; omega
        · rcases F.uD b h with q | q
          · exact q
          · omega
        · rcases hyU b h with q | q
          · exact q
          · omega
    have cP : ∀ w8, Ch (fun _ => False) w7 w8 → Ch (fun b => ¬ Pr b) w w8 := fun w8 c8 => (cW.new c8).mono fun b hb h => by
      rcases h with h | h | h | h
      · exact fun q => F.fP (.inl (h ▸ q))
      · exact fun q => (F.aD b h).2.2.1 (.inl q)
      · exact fun q => F.DP b h (.inl q)
      · exact hyP b h
    have hTw : ∀ w8, Ch (fun _ => False) w7 w8 → Rd w8 lp ln 1 (T.flatMap iC) := fun w8 c8 => hT.ch (F.ch.trans (cW.new c8) fun b hb h => by
      rcases h with h | h | h | h
      · rcases F.uF with q | q
        · rw [h]; exact q
        · omega
      · have := F.uA b h; omega
      · rcases F.uD b h with q | q
        · exact q
        · omega
      · rcases hyU b h with q | q
        · exact q
        · omega) hTb
    refine ⟨any, by rw [cell_blk f7]; rfl, Sif_cases (fun ha => ?_) fun ha => ?_⟩
    · have := hk w7 (F' w7 (Ch.refl _ _)) (cP w7 (Ch.refl _ _))
      rw [show fitOf any T x = true by unfold fitOf; rw [ha]; rfl] at this
      exact this
    · have e7 : blk w7 w.heap.size = some y.e.cells := by
        rw [c7.blk (blk_lt e5d) fun h => ?_]
        · exact e5d
        · rcases h with h | h
          · have := l1 _ h; omega
          · have := hy.blt _ h; omega
      have hfit : fitOf any T x = decide (y.e.seq ∈ T) := by
        unfold fitOf
        rw [ha, Bool.false_or, ← hpe]; rfl
      rw [hfit] at hk
      refine ⟨fun m i w8 => ∃ j : Nat, i = (j : Int) ∧ j ≤ ln ∧ m = ln - j ∧ (¬ y.e.seq ∈ T.take j) ∧ Ch (fun _ => False) w7 w8, ⟨ln, 0, rfl, Nat.zero_le _, rfl, by simp, Ch.refl _ _⟩, ?_⟩
      rintro m i w8 ⟨j, rfl, hj, rfl, hno, c8⟩
      have f8 : blk w8 fb = some (fcells kb rb any (.slice lp ln lc) (.slice p4 (n + 1) c4)) := by rw [c8.blk (blk_lt f7) id]; exact f7
      refine ⟨_, _, _, by rw [cell_blk f8]; rfl, Sif_cases (fun hlt => ?_) fun hge => ?_⟩
      · have hlt : j < ln := by have := of_decide_eq_true hlt; omega
        have c8d : Ch (fun _ => False) w7 w8.drew := c8.trans' (Ch.drew w8)
        have f8d : blk w8.drew fb = some (fcells kb rb any (.slice lp ln lc) (.slice p4 (n + 1) c4)) := by rw [c8d.blk (blk_lt f7) id]; exact f7
        have e8d : blk w8.drew w.heap.size = some y.e.cells := by rw [c8d.blk (blk_lt e7) id]; exact e7
        obtain ⟨t, ht⟩ : ∃ t, T[j]? = some t := ⟨_, List.getElem?_eq_getElem (by omega)⟩
        obtain ⟨kx, ox, hpx, hcx⟩ := (hTw _ c8d).at iC_len ht (by decide)
        refine ⟨_, _, _, by rw [cell_blk f8d]; rfl, by omega, by omega, ?_⟩
        rw [hpx]
        simp only [nn_some, add_at, Int.toNat_natCast, Nat.mul_one]
        refine ⟨t, by simpa using hcx 0 _ rfl, _, by rw [cell_blk e8d]; rfl, Sif_cases (fun hq => ?_) fun hq => ?_⟩
        · have hq : t = y.e.seq := by simpa using hq
          have := hk _ (F' _ c8d) (cP _ c8d)
          rw [decide_eq_true (by rw [← hq]; exact List.mem_of_getElem? ht)] at this
          exact this
        · have hq : ¬ t = y.e.seq := by simpa using hq
          rw [nameI_iff, wrap_id (by omega) (by omega)]
          refine ⟨ln - (j + 1), by omega, j + 1, by omega, by omega, rfl, ?_, c8d⟩
          rw [List.take_add_one, ht]
          simp only [Option.toList_some, List.mem_append, List.mem_singleton, not_or]
          exact ⟨hno, fun h => hq h.symm⟩
      · have hje : j = ln := by have := of_decide_eq_false hge; omega
        subst hje
        rw [List.take_of_length_le (by omega)] at hno
        have := hk _ (F' _ c8) (cP _ c8)
        rw [decide_eq_false hno] at this
        exact this
end Go.Proofs.YtipbbjnmpnfhpaaGreatDoor
namespace Go.Qu
set_option linter.unusedVariables false
theorem map_set1 {f : PE → PE} : ∀ {L : List PE} {i : Nat} {x : PE}, (L.map (·.seq)).Nodup → L[i]? = some x → L.map (fun z => if z.seq = x.seq then f z else z) = L.set i (f x)
  | [], i, x, _, h => by simp at h
  | y :: L, 0, x, hd, h => by
    simp only [List.getElem?_cons_zero, Option.some.injEq] at h
    subst h
    rw [List.map_cons] at hd
    obtain ⟨d1, d2⟩ := List.nodup_cons.1 hd
    rw [List.map_cons, if_pos rfl, List.set_cons_zero]
    congr 1
    refine (List.map_congr_left fun z hz => if_neg fun e => d1 (List.mem_map.2 ⟨z, hz, e⟩)).trans (List.map_id' L)
  | y :: L, i + 1, x, hd, h => by
    rw [List.getElem?_cons_succ] at h
    rw [List.map_cons] at hd
    obtain ⟨d1, d2⟩ := List.nodup_cons.1 hd
    rw [List.map_cons, List.set_cons_succ, map_set1 d2 h, if_neg fun e => d1 (List.mem_map.2 ⟨x, List.mem_of_getElem? h, e.symm⟩)]
theorem del_one : ∀ {L : List PE} {i : Nat} {x : PE}, (L.map (·.seq)).Nodup → L[i]? = some x → delQ x.seq L = L.eraseIdx i
  | [], i, x, _, h => by simp at h
  | y :: L, 0, x, hd, h => by
    simp only [List.getElem?_cons_zero, Option.some.injEq] at h
    subst h
    rw [List.map_cons] at hd
    obtain ⟨d1, d2⟩ := List.nodup_cons.1 hd
    unfold delQ
    rw [List.filter_cons, if_neg (by simp), List.eraseIdx_cons_zero]
    exact List.filter_eq_self.2 fun z hz => decide_eq_true fun e => d1 (List.mem_map.2 ⟨z, hz, e⟩)
  | y :: L, i + 1, x, hd, h => by
    rw [List.getElem?_cons_succ] at h
    rw [List.map_cons] at hd
    obtain ⟨d1, d2⟩ := List.nodup_cons.1 hd
    have ih := del_one d2 h
    unfold delQ at *
    have hyx : y.seq ≠ x.seq := fun e => d1 (List.mem_map.2 ⟨x, List.mem_of_getElem? h, e.symm⟩)
    rw [List.filter_cons, if_pos (by simpa using hyx), ih, List.eraseIdx_cons_succ]
def takeR (A : AQ) (h : Int) : Option PE → Option PE × AQ
  | none => (none, A)
  | some x => (some { x with hold := h }, { A with L := setHold x.seq h A.L })
end Go.Qu
namespace Go.Proofs.YtipbbjnmpnfhpaaGreatDoor
open Go Go.Sv Go.Heap Go.Qu Go.MapKept
set_option linter.unusedVariables false
set_option maxRecDepth 4000
variable {Qt : Nat → Prop}
theorem eB_set {x x' : Et} (ho : x'.own = x.own) : ∀ {L : List Et} {i : Nat}, L[i]? = some x → eB (L.set i x') = eB L
  | [], i, h => by simp at h
  | y :: L, 0, h => by
    simp only [List.getElem?_cons_zero, Option.some.injEq] at h
    subst h
    rw [List.set_cons_zero, eB_cons, eB_cons]
    congr 1
    show x'.own.toList = _
    rw [ho]; rfl
  | y :: L, i + 1, h => by
    rw [List.getElem?_cons_succ] at h
    rw [List.set_cons_succ, eB_cons, eB_cons, eB_set ho h]
section
variable {w : World} {rb : Nat} {cf : Cfg} {last : Int} {L : List Et} {p : Option Addr} {c : Nat} {own : Option Nat}
theorem RM.st {k o i j : Nat} {x : Et} {e' : En} {v : Value} {K : World → Prop} (R : RM w rb cf last L (some ⟨k, o, none⟩) c own) (hx : L[i]? = some x) (hj : j < 7) (he : e'.cells = x.e.cells.set j v) (hp : e'.p = x.e.p) (hn : e'.n = x.e.n) (hc : e'.c = x.e.c)
    (hk : ∀ w', RM w' rb cf last (L.set i { x with e := e' }) (some ⟨k, o, none⟩) c own → Ch (fun b => own = some b) w w' → w'.heap.size = w.heap.size → K w') : Sv.st w ⟨k, o + i * 7 + j, none⟩ v K := by
  have hml : (L.map (·.e)).length = L.length := List.length_map ..
  have hxe : (L.map (·.e))[i]? = some x.e := by rw [List.getElem?_map, hx]; rfl
  have hil := (List.getElem?_eq_some_iff.1 hx).1
  have hown : own = some k := by
    obtain ⟨_, _, h3⟩ := R.row
    rcases h3 with ⟨_, _⟩ | ⟨k3, o3, cs3, h, h2, _⟩
    · omega
    · cases h2; exact h
  refine en_st R.row hml hxe hj he fun w' o' c' z' => ?_
  have hch : Ch (fun b => own = some b) w w' := c'.mono fun b _ h => by rw [h]; exact hown
  have heB : eB (L.set i { x with e := e' }) = eB L := eB_set (x := x) (x' := { x with e := e' }) rfl hx
  refine hk w' ⟨?_, ?_, fun y hy => ?_, ?_⟩ hch z'
  · rw [hch.blk (blk_lt R.head) R.ne_ro, List.length_set]; exact R.head
  · rw [List.length_set, List.map_set]; exact o'
  · have hy2 : EtE.Ok w y := by
      rcases List.mem_or_eq_of_mem_set hy with h | h
      · exact R.dat y h
      · rw [h]
        have := R.dat x (List.mem_of_getElem? hx)
        show Ow w e'.p e'.n e'.c 1 (bytesV x.l) x.own
        rw [hp, hn, hc]; exact this
    refine EtE.ch hy2 hch fun b hb h => R.ne_oe b h ?_
    rw [← heB]
    exact mem_eB.2 ⟨y, hy, by simpa [EtE, Option.mem_toList] using hb⟩
  · unfold rbl; rw [heB]; exact R.nd
end
theorem rq_at {A : AQ} {L : List Et} (E : L.map Et.pe = A.L) {i : Nat} {x : Et} (hx : L[i]? = some x) : A.L[i]? = some x.pe := by rw [← E, List.getElem?_map, hx]; rfl
theorem seqOf_none {A : AQ} {L : List Et} (W : WQ A) (E : L.map Et.pe = A.L) : ∀ x ∈ L, x.e.seq ≠ 0 := fun x hx e => by
  have := (W.ok x.pe (by rw [← E]; exact List.mem_map.2 ⟨x, hx, rfl⟩)).seq
  have h2 : x.pe.seq = x.e.seq := rfl
  omega
set_option maxHeartbeats 1000000 in
theorem rtake_ok {w : World} {rb : Nat} {A : AQ} {B : Nat → Prop} {h : Int} {any : Bool} {f : Option Addr} {fn fc : Nat} {T : List Int} {K : Value → World → Prop} (Q : RQ Qt w rb A B) (hT : Rd w f fn 1 (T.flatMap iC)) (hTl : T.length = fn) (h2 : fn ≤ 2 ^ 62)
    (hno : (A.take h (fitOf any T)).1 = none → RPost Qt w rb (A.take h (fitOf any T)).2 B fun w' _ => K (.tuple #[Ez.e.val, .bool false]) w')
    (hyes : ∀ y, (A.take h (fitOf any T)).1 = some y → ∀ x : Et, x.pe = y → RPost Qt w rb (A.take h (fitOf any T)).2 B fun w' B' => EtE.Ok w' x → K (.tuple #[x.e.val, .bool true]) w') :
    callP Tryz.prog 61 [.pointer (some ⟨rb, 0, none⟩), .int .i64 h, .bool any, .slice f fn fc] w K := by
  have hW := Q.wf.take h (fitOf any T)
  obtain ⟨wf, L, p, c, own, R, E, rfl, hQt⟩ := Q
  have hwl := wf.len
  have hm2 := wf.most2
  have hLl : L.length = A.L.length := by rw [← E, List.length_map]
  have old := R.lt
  refine ok_longshoreref17_Queue_Take ?_
  unfold wp_longshoreref17_Queue_Take
  refine newB_blk fun w1 b1 c1 z1 => ?_
  have b1 : blk w1 w.heap.size = some Ez.e.cells := b1
  have R1 := R.ch c1 fun _ _ => id
  simp only [add_at, Nat.zero_add]
  refine Sif_cases (fun hh => ?_) fun hh => ?_
  · have hh : h < 1 := by simpa using hh
    have ht : A.take h (fitOf any T) = (none, A) := by unfold AQ.take; rw [if_pos hh]
    rw [ht] at hno
    refine reN (e := Ez.e) b1 fun w2 b2 c2 z2 => rdN b2 ?_
    have c02 : Ch (fun _ => False) w w2 := c1.trans c2 fun b hb e => by omega
    exact hno rfl w2 _ ⟨wf, L, p, c, own, R.ch c02 fun _ _ => id, E, rfl, hQt.same c02.size⟩ (c02.mono fun _ _ h => h.elim) fun b hb => .inl hb
  have hh : ¬ h < 1 := by simpa using hh
  refine rord_ok R1 (by omega) fun p2 c2 w2 G ow2 hGo hGp o2 how2 ch2 => ⟨_, _, _, rfl, ?_⟩
  have hGl : G.length = L.length := hGp.length_eq
  have c02 := c1.trans' ch2
  refine asked_ok o2.rd rfl (hT.ch c02 fun _ _ _ => id) hTl (by omega) h2 fun p3 n3 c3 w3 ow3 _ _ _ ch3 => ⟨_, _, _, _, rfl, ?_⟩
  have c03 := c02.trans' ch3
  have R3 := R.ch c03 fun _ _ => id
  have b3 : blk w3 w.heap.size = some Ez.e.cells := by rw [(ch2.trans' ch3).blk (blk_lt b1) id]; exact b1
  rw [hGo, E]
  obtain ⟨r, hr⟩ : ∃ r, r = ((ordered A.L).filter isFree).find? (fitOf any T) := ⟨_, rfl⟩
  rw [← hr]
  have htk : A.take h (fitOf any T) = takeR A h r := by
    rw [hr]
    unfold AQ.take
    rw [if_neg hh]; rfl
  have none_case : r = none → ∀ (w4 : World), w4 = w3 → Sv.st w4 ⟨w.heap.size, 0, none⟩ (.int .i64 0) fun w5 => Sv.st w5 ⟨w.heap.size, 1, none⟩ (.int .i64 0) fun w6 => Sv.st w6 ⟨w.heap.size, 2, none⟩ (.int .i64 0) fun w7 => Sv.st w7 ⟨w.heap.size, 3, none⟩ (.bool false) fun w8 => Sv.st w8 ⟨w.heap.size, 4, none⟩ (.int .i64 0) fun w9 => Sv.st w9 ⟨w.heap.size, 5, none⟩ (.int .i64 0) fun w10 => Sv.st w10 ⟨w.heap.size, 6, none⟩ (.slice none 0 0) fun w2 =>
      ∃ n, w2.cell? ⟨w.heap.size, 0, none⟩ = some (.int .i64 n) ∧ ∃ n1, w2.cell? ⟨w.heap.size, 1, none⟩ = some (.int .i64 n1) ∧ ∃ n2, w2.cell? ⟨w.heap.size, 2, none⟩ = some (.int .i64 n2) ∧ ∃ b, w2.cell? ⟨w.heap.size, 3, none⟩ = some (.bool b) ∧
      ∃ n3, w2.cell? ⟨w.heap.size, 4, none⟩ = some (.int .i64 n3) ∧ ∃ n4, w2.cell? ⟨w.heap.size, 5, none⟩ = some (.int .i64 n4) ∧ ∃ p n5 c, w2.cell? ⟨w.heap.size, 6, none⟩ = some (.slice p n5 c) ∧ K (.tuple #[.agg #[.int .i64 n, .int .i64 n1, .int .i64 n2, .bool b, .int .i64 n3, .int .i64 n4, .slice p n5 c], .bool false]) w2 := fun h0 w4 hw4 => by
    subst hw4
    rw [h0] at htk
    rw [htk] at hno
    refine reN (e := Ez.e) b3 fun w5 b5 c5 z5 => rdN b5 ?_
    have c05 : Ch (fun _ => False) w w5 := c03.trans c5 fun b hb e => by omega
    exact hno rfl w5 _ ⟨wf, L, p, c, own, R.ch c05 fun _ _ => id, E, rfl, hQt.same c05.size⟩ (c05.mono fun _ _ h => h.elim) fun b hb => .inl hb
  refine rfind_ok R3 (by omega) (fun hn => ⟨_, rfl, Sif_cases (fun _ => ?_) fun hf => absurd hf (by decide)⟩) fun i x hx hxs => ⟨_, rfl, Sif_cases (fun hf => absurd (of_decide_eq_true hf) (by omega)) fun _ => ?_⟩
  · refine none_case ?_ _ rfl
    cases hr' : r with
    | none => rfl
    | some y =>
      exfalso
      have hy : y ∈ A.L := (ordered_perm A.L).mem_iff.1 (List.mem_filter.1 (List.mem_of_find?_eq_some (hr.symm.trans hr'))).1
      rw [← E] at hy
      obtain ⟨x, hx, rfl⟩ := List.mem_map.1 hy
      exact hn x hx (by rw [hr']; rfl)
  · cases hr' : r with
    | none =>
      exfalso
      rw [hr'] at hxs
      exact seqOf_none wf E x (List.mem_of_getElem? hx) hxs
    | some y =>
      rw [hr'] at hxs htk
      have hyL : y ∈ A.L := (ordered_perm A.L).mem_iff.1 (List.mem_filter.1 (List.mem_of_find?_eq_some (hr.symm.trans hr'))).1
      have hax := rq_at E hx
      have hyx : x.pe = y := inj_of_nodup wf.nd (List.mem_of_getElem? hax) hyL hxs
      subst hyx
      obtain ⟨kx, ox, hpx, hc⟩ := R3.at hx
      subst hpx
      refine ⟨_, _, _, R3.cell rfl, by omega, ?_, ?_⟩
      · have := (List.getElem?_eq_some_iff.1 hx).1; omega
      simp only [nn_some, add_at, Int.toNat_natCast, Nat.add_zero]
      have hil := (List.getElem?_eq_some_iff.1 hx).1
      refine R3.st hx (by decide) (e' := { x.e with hold := h }) rfl rfl rfl rfl fun w5 R5 c5 z5 => ?_
      obtain ⟨L', hL'⟩ : ∃ L', L' = L.set i { x with e := { x.e with hold := h } } := ⟨_, rfl⟩
      rw [← hL'] at R5
      have hx5 : L'[i]? = some { x with e := { x.e with hold := h } } := by rw [hL', List.getElem?_set_self hil]
      have hl5 : L'.length = L.length := by rw [hL', List.length_set]
      obtain ⟨kx5, ox5, hpx5, hc5⟩ := R5.at hx5
      cases hpx5
      refine ⟨_, _, _, R5.cell rfl, by omega, by omega, ?_⟩
      simp only [nn_some, add_at, Int.toNat_natCast]
      refine ⟨_, hc5 0 _ rfl, _, hc5 1 _ rfl, _, hc5 2 _ rfl, _, hc5 3 _ rfl, _, hc5 4 _ rfl, _, hc5 5 _ rfl, _, _, _, hc5 6 _ rfl, ?_⟩
      have b5 : blk w5 w.heap.size = some Ez.e.cells := by
        rw [c5.blk (blk_lt b3) fun e => ?_]
        · exact b3
        · have := old _ (mem_rbl.2 (.inr (.inl e))); omega
      refine reN (e := { x.e with hold := h }) b5 fun w6 b6 c6 z6 => rdN b6 ?_
      have R6 := R5.ch c6 fun b hb e => by
        have h1 : b ∈ rbl rb own L := by
          rw [hL'] at hb
          unfold rbl at hb ⊢
          rw [eB_set (x := x) (x' := { x with e := { x.e with hold := h } }) rfl hx] at hb
          exact hb
        have := old b h1; omega
      rw [htk] at hyes hW
      have hset : setHold x.pe.seq h A.L = L'.map Et.pe := by
        unfold setHold
        rw [map_set1 (f := fun z => { z with hold := h }) wf.nd hax, hL', List.map_set, E]; rfl
      refine hyes _ rfl { x with e := { x.e with hold := h } } rfl w6 (fun b => b ∈ rbl rb own L') ⟨hW, L', _, c, own, R6, hset.symm, rfl, hQt.same (Nat.le_trans c03.size (Nat.le_trans c5.size c6.size))⟩ ?_ (fun b hb => .inl ?_) (R6.dat _ (List.mem_of_getElem? hx5))
      · exact ((c03.mono fun _ _ h => h.elim).trans' (c5.mono fun b _ h => quiet_own hQt (.inr h))).trans c6 fun b hb e => by omega
      · rw [hL'] at hb
        unfold rbl at hb ⊢
        rw [eB_set (x := x) (x' := { x with e := { x.e with hold := h } }) rfl hx] at hb
        exact hb
end Go.Proofs.YtipbbjnmpnfhpaaGreatDoor
namespace Go.Proofs.YtipbbjnmpnfhpaaGreatDoor
open Go Go.Sv Go.Heap Go.Qu Go.MapKept
set_option linter.unusedVariables false
set_option maxRecDepth 4000
variable {Qt : Nat → Prop}
theorem map_erase {α β : Type} (f : α → β) (L : List α) (i : Nat) : (L.eraseIdx i).map f = (L.map f).eraseIdx i := by
  rw [List.eraseIdx_eq_take_drop_succ, List.eraseIdx_eq_take_drop_succ, List.map_append, List.map_take, List.map_drop]
set_option maxHeartbeats 1000000 in
theorem rpeek_ok {w : World} {rb : Nat} {A : AQ} {B : Nat → Prop} {behind : Int} {any : Bool} {f : Option Addr} {fn fc : Nat} {T : List Int} {K : Value → World → Prop} (Q : RQ Qt w rb A B) (hT : Rd w f fn 1 (T.flatMap iC)) (hTl : T.length = fn) (h2 : fn ≤ 2 ^ 62)
    (hno : A.peek behind (fitOf any T) = none → ∀ w', Ch (fun _ => False) w w' → K (.tuple #[Ez.e.val, .bool false]) w')
    (hyes : ∀ y, A.peek behind (fitOf any T) = some y → ∀ x : Et, x.pe = y → ∀ w', Ch (fun _ => False) w w' → EtE.Ok w' x → K (.tuple #[x.e.val, .bool true]) w') :
    callP Tryz.prog 64 [.pointer (some ⟨rb, 0, none⟩), .int .i64 behind, .bool any, .slice f fn fc] w K := by
  obtain ⟨wf, L, p, c, own, R, E, rfl, hQt⟩ := Q
  have hwl := wf.len
  have hm2 := wf.most2
  have hLl : L.length = A.L.length := by rw [← E, List.length_map]
  have old := R.lt
  refine ok_longshoreref17_Queue_Peek ?_
  unfold wp_longshoreref17_Queue_Peek
  refine newB_blk fun w1 b1 c1 z1 => ?_
  have b1 : blk w1 w.heap.size = some Ez.e.cells := b1
  have R1 := R.ch c1 fun _ _ => id
  simp only [add_at, Nat.zero_add]
  refine rlater_ok R1 (by omega) fun p2 c2 w2 G ow2 hG o2 how2 ch2 => ⟨_, _, _, rfl, ?_⟩
  have hGl : G.length ≤ L.length := by rw [hG]; exact List.length_filter_le ..
  have c02 := c1.trans' ch2
  refine asked_ok o2.rd rfl (hT.ch c02 fun _ _ _ => id) hTl (by omega) h2 fun p3 n3 c3 w3 ow3 _ _ _ ch3 => ⟨_, _, _, _, rfl, ?_⟩
  have c03 := c02.trans' ch3
  have R3 := R.ch c03 fun _ _ => id
  have b3 : blk w3 w.heap.size = some Ez.e.cells := by rw [(ch2.trans' ch3).blk (blk_lt b1) id]; exact b1
  have hGp : (G.map Et.pe).filter isFree = A.later behind := by
    unfold AQ.later
    rw [hG, ← E, List.filter_map, List.filter_map, List.filter_map]; rfl
  rw [hGp]
  obtain ⟨r, hr⟩ : ∃ r, r = A.peek behind (fitOf any T) := ⟨_, rfl⟩
  have hr2 : (A.later behind).find? (fitOf any T) = r := hr.symm
  rw [hr2]
  rw [← hr] at hno hyes
  have mem : ∀ y, r = some y → y ∈ A.L := fun y hy => (List.mem_filter.1 (List.mem_filter.1 (List.mem_of_find?_eq_some (hr2.trans hy))).1).1
  refine rfind_ok R3 (by omega) (fun hn => ⟨_, rfl, Sif_cases (fun _ => ?_) fun hf => absurd hf (by decide)⟩) fun i x hx hxs => ⟨_, rfl, Sif_cases (fun hf => absurd (of_decide_eq_true hf) (by omega)) fun _ => ?_⟩
  · have h0 : r = none := by
      cases hr' : r with
      | none => rfl
      | some y =>
        exfalso
        have hy := mem y hr'
        rw [← E] at hy
        obtain ⟨x, hx, rfl⟩ := List.mem_map.1 hy
        exact hn x hx (by rw [hr']; rfl)
    refine reN (e := Ez.e) b3 fun w5 b5 c5 z5 => rdN b5 ?_
    exact hno h0 w5 (c03.trans c5 fun b hb e => by omega)
  · cases hr' : r with
    | none =>
      exfalso
      rw [hr'] at hxs
      exact seqOf_none wf E x (List.mem_of_getElem? hx) hxs
    | some y =>
      have hyL := mem y hr'
      rw [hr'] at hxs hyes
      have hax := rq_at E hx
      have hyx : x.pe = y := inj_of_nodup wf.nd (List.mem_of_getElem? hax) hyL hxs
      subst hyx
      obtain ⟨kx, ox, hpx, hc⟩ := R3.at hx
      subst hpx
      have hil := (List.getElem?_eq_some_iff.1 hx).1
      refine ⟨_, _, _, R3.cell rfl, by omega, by omega, ?_⟩
      simp only [nn_some, add_at, Int.toNat_natCast]
      refine ⟨_, hc 0 _ rfl, _, hc 1 _ rfl, _, hc 2 _ rfl, _, hc 3 _ rfl, _, hc 4 _ rfl, _, hc 5 _ rfl, _, _, _, hc 6 _ rfl, ?_⟩
      refine reN (e := x.e) b3 fun w6 b6 c6 z6 => rdN b6 ?_
      have c06 : Ch (fun _ => False) w w6 := c03.trans c6 fun b hb e => by omega
      exact hyes _ rfl x rfl w6 c06 ((R.ch c06 fun _ _ => id).dat x (List.mem_of_getElem? hx))
set_option maxHeartbeats 1000000 in
theorem rremove_ok {w : World} {rb : Nat} {A : AQ} {B : Nat → Prop} {q h : Int} {K : Value → World → Prop} (Q : RQ Qt w rb A B)
    (hno : (A.remove q h).1 = none → RPost Qt w rb (A.remove q h).2 B fun w' _ => K (.tuple #[Ez.e.val, .int .i64 171]) w')
    (hyes : ∀ y, (A.remove q h).1 = some y → ∀ x : Et, x.pe = y → RPost Qt w rb (A.remove q h).2 B fun w' B' => EtE.Ok w' x → K (.tuple #[x.e.val, .int .i64 0]) w') :
    callP Tryz.prog 35 [.pointer (some ⟨rb, 0, none⟩), .int .i64 q, .int .i64 h] w K := by
  have hW := Q.wf.remove q h
  obtain ⟨wf, L, p, c, own, R, E, rfl, hQt⟩ := Q
  have hwl := wf.len
  have hm2 := wf.most2
  have hLl : L.length = A.L.length := by rw [← E, List.length_map]
  have old := R.lt
  refine ok_longshoreref17_Queue_Remove ?_
  unfold wp_longshoreref17_Queue_Remove
  refine newB_blk fun w1 b1 c1 z1 => ?_
  have b1 : blk w1 w.heap.size = some Ez.e.cells := b1
  have R1 := R.ch c1 fun _ _ => id
  simp only [add_at, Nat.zero_add]
  refine rfind_ok R1 (by omega) (fun hn => ⟨_, rfl, fun _ => False, fun _ h => h.elim, Sif_cases (fun hf => absurd hf (by decide)) fun _ => ?_⟩) fun i x hx hxs => ⟨_, rfl, fun w2 => x.e.hold = h ∧ w2 = w1, ?_, Sif_cases (fun _ => ?_) fun hf => absurd hf (by simp)⟩
  · have hf : A.find q = none := by
      unfold AQ.find
      refine List.find?_eq_none.2 fun y hy => ?_
      rw [← E] at hy
      obtain ⟨z, hz, rfl⟩ := List.mem_map.1 hy
      have : z.pe.seq ≠ q := hn z hz
      simpa using this
    have ht : A.remove q h = (none, A) := by unfold AQ.remove; rw [hf]
    rw [ht] at hno
    refine reN (e := Ez.e) b1 fun w2 b2 c2 z2 => rdN b2 ?_
    have c02 : Ch (fun _ => False) w w2 := c1.trans c2 fun b hb e => by omega
    exact hno rfl w2 _ ⟨wf, L, p, c, own, R.ch c02 fun _ _ => id, E, rfl, hQt.same c02.size⟩ (c02.mono fun _ _ h => h.elim) fun b hb => .inl hb
  · rintro w2 ⟨hxh, rfl⟩
    have hax := rq_at E hx
    have hf : A.find q = some x.pe := by rw [← hxs]; exact find_of wf (List.mem_of_getElem? hax)
    have ht : A.remove q h = (some x.pe, { A with L := delQ q A.L }) := by
      unfold AQ.remove
      rw [hf]
      show (if x.pe.hold ≠ h then _ else _) = _
      rw [if_neg (fun g => g hxh)]
    rw [ht] at hyes hW
    obtain ⟨kx, ox, hpx, hc⟩ := R1.at hx
    subst hpx
    have hil := (List.getElem?_eq_some_iff.1 hx).1
    refine ⟨_, _, _, R1.cell rfl, by omega, by omega, ?_⟩
    simp only [nn_some, add_at, Int.toNat_natCast]
    refine ⟨_, hc 0 _ rfl, _, hc 1 _ rfl, _, hc 2 _ rfl, _, hc 3 _ rfl, _, hc 4 _ rfl, _, hc 5 _ rfl, _, _, _, hc 6 _ rfl, ?_⟩
    refine newE (e0 := En0) (e := x.e) fun w3 b3 c3 z3 => ?_
    have R3 := R1.ch c3 fun _ _ => id
    refine rdrop_ok R3 (by omega) fun w4 p4 c4 own4 R4 how4 ch4 => ⟨rfl, ?_⟩
    have hrb : rb < w.heap.size := old rb (mem_rbl.2 (.inl rfl))
    have l1 : w2.heap.size = w.heap.size + 1 := z1
    have b34 : blk w4 w2.heap.size = some x.e.cells := by rw [ch4.blk (blk_lt b3) (by omega)]; exact b3
    have b14 : blk w4 w.heap.size = some Ez.e.cells := by
      rw [ch4.blk (by have := blk_lt b1; have := c3.size; omega) (by omega), c3.blk (blk_lt b1) id]; exact b1
    simp only [add_at, Nat.zero_add]
    refine rdN b34 ?_
    refine reN (e := x.e) b14 fun w6 b6 c6 z6 => rdN b6 ?_
    have c03 : Ch (fun _ => False) w w3 := c1.trans' c3
    have c06 : Ch (fun b => b ∈ rbl rb own L ∧ ¬ Qt b) w w6 := ((c03.mono fun _ _ h => h.elim).trans' (ch4.mono fun b _ h => quiet_own hQt (.inl h))).trans c6 fun b hb e => by omega
    have hdel : (L.eraseIdx i).map Et.pe = delQ q A.L := by
      rw [← hxs, show x.e.seq = x.pe.seq from rfl, del_one wf.nd hax, ← E, map_erase]
    have hsz : w.heap.size ≤ w3.heap.size := c03.size
    have hbl : ∀ b, b ∈ rbl rb own4 (L.eraseIdx i) → b ∈ rbl rb own L ∨ w.heap.size ≤ b := fun b hb => by
      rcases mem_rbl.1 hb with g | g | g
      · exact .inl (mem_rbl.2 (.inl g))
      · exact .inr (by have := how4 b g; omega)
      · exact .inl (mem_rbl.2 (.inr (.inr ((eB_sub (List.eraseIdx_sublist L i)).subset g))))
    have R6 := R4.ch c6 fun b hb e => by
      rcases mem_rbl.1 hb with g | g | g
      · omega
      · have := how4 b g; omega
      · have := old b (mem_rbl.2 (.inr (.inr ((eB_sub (List.eraseIdx_sublist L i)).subset g)))); omega
    refine hyes _ rfl x rfl w6 (fun b => b ∈ rbl rb own4 (L.eraseIdx i)) ⟨hW, _, _, _, _, R6, hdel, rfl, hQt.up c06.size fun b hb => .inr (by have := how4 b hb; omega)⟩ c06 hbl ?_
    have hxL := List.mem_of_getElem? hx
    have hx3 : EtE.Ok w3 x := R3.dat x hxL
    have hx4 := EtE.ch hx3 ch4 fun b hb e => R.ne_re (mem_eB.2 ⟨x, hxL, by simpa [EtE, Option.mem_toList, e] using hb⟩)
    exact EtE.ch hx4 c6 fun b hb e => by
      have := old b (mem_rbl.2 (.inr (.inr (mem_eB.2 ⟨x, hxL, by simpa [EtE, Option.mem_toList] using hb⟩))))
      omega
  · have hax := rq_at E hx
    obtain ⟨kx, ox, hpx, hc⟩ := R1.at hx
    subst hpx
    have hil := (List.getElem?_eq_some_iff.1 hx).1
    refine ⟨_, _, _, R1.cell rfl, by omega, by omega, ?_⟩
    simp only [nn_some, add_at, Int.toNat_natCast]
    refine ⟨_, hc 5 _ rfl, Sif_cases (fun g => ?_) fun g => ?_⟩
    · have g : x.e.hold ≠ h := by simpa using g
      have hf : A.find q = some x.pe := by rw [← hxs]; exact find_of wf (List.mem_of_getElem? hax)
      have ht : A.remove q h = (none, A) := by
        unfold AQ.remove
        rw [hf]
        show (if x.pe.hold ≠ h then _ else _) = _
        rw [if_pos (show x.pe.hold ≠ h from g)]
      rw [ht] at hno
      refine reN (e := Ez.e) b1 fun w2 b2 c2 z2 => rdN b2 ?_
      have c02 : Ch (fun _ => False) w w2 := c1.trans c2 fun b hb e => by omega
      exact hno rfl w2 _ ⟨wf, L, _, c, own, R.ch c02 fun _ _ => id, E, rfl, hQt.same c02.size⟩ (c02.mono fun _ _ h => h.elim) fun b hb => .inl hb
    · exact ⟨by simpa using g, by trivial⟩
end Go.Proofs.YtipbbjnmpnfhpaaGreatDoor
namespace Go.Proofs.YtipbbjnmpnfhpaaGreatDoor
open Go Go.Sv Go.Heap Go.Qu Go.MapKept
set_option linter.unusedVariables false
set_option maxRecDepth 4000
variable {Qt : Nat → Prop}
theorem rbl_set {L : List Et} {i rb : Nat} {own : Option Nat} {x : Et} {e' : En} (hx : L[i]? = some x) : rbl rb own (L.set i { x with e := e' }) = rbl rb own L := by
  unfold rbl
  rw [eB_set (x := x) (x' := { x with e := e' }) rfl hx]
set_option maxHeartbeats 2000000 in
theorem rback_ok {w : World} {rb : Nat} {A : AQ} {B : Nat → Prop} {q h : Int} {f : Bool} {K : Value → World → Prop} (Q : RQ Qt w rb A B)
    (hno : (A.back q h f).1 = none → RPost Qt w rb (A.back q h f).2 B fun w' _ => K (.tuple #[Ez.e.val, .bool false, .int .i64 171]) w')
    (hyes : ∀ y d, (A.back q h f).1 = some (y, d) → ∀ x : Et, x.pe = y → RPost Qt w rb (A.back q h f).2 B fun w' B' => EtE.Ok w' x → K (.tuple #[x.e.val, .bool d, .int .i64 0]) w') :
    callP Tryz.prog 32 [.pointer (some ⟨rb, 0, none⟩), .int .i64 q, .int .i64 h, .bool f] w K := by
  have hW := Q.wf.back q h f
  obtain ⟨wf, L, p, c, own, R, E, rfl, hQt⟩ := Q
  have hwl := wf.len
  have hm2 := wf.most2
  have hLl : L.length = A.L.length := by rw [← E, List.length_map]
  have old := R.lt
  refine ok_longshoreref17_Queue_Back ?_
  unfold wp_longshoreref17_Queue_Back
  refine newB_blk fun w1 b1 c1 z1 => ?_
  have b1 : blk w1 w.heap.size = some Ez.e.cells := b1
  have R1 := R.ch c1 fun _ _ => id
  simp only [add_at, Nat.zero_add]
  have c01 : Ch (fun b => b ∈ rbl rb own L ∧ ¬ Qt b) w w1 := c1.mono fun _ _ h => h.elim
  have none_case : A.back q h f = (none, A) → Sv.st w1 ⟨w.heap.size, 0, none⟩ (.int .i64 0) fun w5 => Sv.st w5 ⟨w.heap.size, 1, none⟩ (.int .i64 0) fun w6 => Sv.st w6 ⟨w.heap.size, 2, none⟩ (.int .i64 0) fun w7 => Sv.st w7 ⟨w.heap.size, 3, none⟩ (.bool false) fun w8 => Sv.st w8 ⟨w.heap.size, 4, none⟩ (.int .i64 0) fun w9 => Sv.st w9 ⟨w.heap.size, 5, none⟩ (.int .i64 0) fun w10 => Sv.st w10 ⟨w.heap.size, 6, none⟩ (.slice none 0 0) fun w2 =>
      ∃ n, w2.cell? ⟨w.heap.size, 0, none⟩ = some (.int .i64 n) ∧ ∃ n1, w2.cell? ⟨w.heap.size, 1, none⟩ = some (.int .i64 n1) ∧ ∃ n2, w2.cell? ⟨w.heap.size, 2, none⟩ = some (.int .i64 n2) ∧ ∃ b, w2.cell? ⟨w.heap.size, 3, none⟩ = some (.bool b) ∧
      ∃ n3, w2.cell? ⟨w.heap.size, 4, none⟩ = some (.int .i64 n3) ∧ ∃ n4, w2.cell? ⟨w.heap.size, 5, none⟩ = some (.int .i64 n4) ∧ ∃ p n5 c, w2.cell? ⟨w.heap.size, 6, none⟩ = some (.slice p n5 c) ∧ K (.tuple #[.agg #[.int .i64 n, .int .i64 n1, .int .i64 n2, .bool b, .int .i64 n3, .int .i64 n4, .slice p n5 c], .bool false, .int .i64 171]) w2 := fun ht => by
    rw [ht] at hno
    refine reN (e := Ez.e) b1 fun w5 b5 c5 z5 => rdN b5 ?_
    have c05 : Ch (fun _ => False) w w5 := c1.trans c5 fun b hb e => by omega
    exact hno rfl w5 _ ⟨wf, L, p, c, own, R.ch c05 fun _ _ => id, E, rfl, hQt.same c05.size⟩ (c05.mono fun _ _ h => h.elim) fun b hb => .inl hb
  refine rfind_ok R1 (by omega) (fun hn => ⟨_, rfl, fun _ => False, fun _ h => h.elim, Sif_cases (fun hf => absurd hf (by decide)) fun _ => ?_⟩) fun i x hx hxs => ⟨_, rfl, fun w2 => x.e.hold = h ∧ 1 ≤ h ∧ w2 = w1, ?_, Sif_cases (fun _ => ?_) fun hf => absurd hf (by simp)⟩
  · refine none_case ?_
    have hf : A.find q = none := by
      unfold AQ.find
      refine List.find?_eq_none.2 fun y hy => ?_
      rw [← E] at hy
      obtain ⟨z, hz, rfl⟩ := List.mem_map.1 hy
      have : z.pe.seq ≠ q := hn z hz
      simpa using this
    unfold AQ.back; rw [hf]
  · rintro w2 ⟨hxh, hh1, rfl⟩
    have hax := rq_at E hx
    have hxL := List.mem_of_getElem? hx
    have hfq : A.find q = some x.pe := by rw [← hxs]; exact find_of wf (List.mem_of_getElem? hax)
    have hok : EOk x.pe := wf.ok _ (List.mem_of_getElem? hax)
    have hc1 : x.e.cnt ≤ 4294967295 := hok.cnt1
    have hc0 : 0 ≤ x.e.cnt := hok.cnt0
    have hil := (List.getElem?_eq_some_iff.1 hx).1
    have ht : A.back q h f = if deadE A.cf f (failE f x.pe) = true then (some (failE f x.pe, true), { A with L := delQ q A.L }) else (some (failE f x.pe, false), { A with L := setE (failE f x.pe) A.L }) := by
      unfold AQ.back
      rw [hfq]
      show (if h < 1 ∨ x.pe.hold ≠ h then _ else _) = _
      rw [if_neg (fun g => by rcases g with g | g; · omega
                              · exact g hxh)]
    obtain ⟨e0, he0⟩ : ∃ e0 : En, e0 = { x.e with hold := 0 } := ⟨_, rfl⟩
    obtain ⟨eF, heF⟩ : ∃ eF : En, eF = { x.e with hold := 0, cnt := if f = true then min (x.e.cnt + 1) 4294967295 else x.e.cnt } := ⟨_, rfl⟩
    have hF : ({ x with e := eF } : Et).pe = failE f x.pe := by rw [heF]; rfl
    obtain ⟨kx, ox, hpx, hc⟩ := R1.at hx
    subst hpx
    refine ⟨_, _, _, R1.cell rfl, by omega, by omega, ?_⟩
    simp only [nn_some, add_at, Int.toNat_natCast, Nat.add_zero]
    refine R1.st hx (by decide) (e' := e0) (by rw [he0]; rfl) (by rw [he0]) (by rw [he0]) (by rw [he0]) fun w3 R3 c3 z3 => ?_
    have hx3 : (L.set i { x with e := e0 })[i]? = some { x with e := e0 } := by rw [List.getElem?_set_self hil]
    have hl3 : (L.set i { x with e := e0 }).length = L.length := List.length_set ..
    have c3' : Ch (fun b => b ∈ rbl rb own L ∧ ¬ Qt b) w2 w3 := c3.mono fun b _ h => quiet_own hQt (.inr h)
    have c03 := c01.trans' c3'
    have out : ∀ b, b ∈ rbl rb own L → b < w.heap.size := old
    have b3 : blk w3 w.heap.size = some Ez.e.cells := by
      rw [c3'.blk (blk_lt b1) fun g => by have := out _ g.1; omega]; exact b1
    refine ⟨fun w5 => RM w5 rb A.cf A.last (L.set i { x with e := eF }) (some ⟨kx, ox, none⟩) c own ∧ Ch (fun b => b ∈ rbl rb own L ∧ ¬ Qt b) w w5 ∧ blk w5 w.heap.size = some Ez.e.cells, ?_, ?_⟩
    · rintro w5 ⟨R5, c05, b5⟩
      have hx5 : (L.set i { x with e := eF })[i]? = some { x with e := eF } := by rw [List.getElem?_set_self hil]
      have hl5 : (L.set i { x with e := eF }).length = L.length := List.length_set ..
      obtain ⟨kx5, ox5, hpx5, hc5⟩ := R5.at hx5
      cases hpx5
      have s5 := c05.size
      refine ⟨_, _, _, R5.cell rfl, by omega, by omega, ?_⟩
      simp only [nn_some, add_at, Int.toNat_natCast]
      refine ⟨_, hc5 0 _ rfl, _, hc5 1 _ rfl, _, hc5 2 _ rfl, _, hc5 3 _ rfl, _, hc5 4 _ rfl, _, hc5 5 _ rfl, _, _, _, hc5 6 _ rfl, ?_⟩
      refine newE (e0 := En0) (e := eF) fun w6 b6 c6 z6 => ?_
      have R6 := R5.ch c6 fun _ _ => id
      have c06 := c05.trans' (c6.mono fun _ _ h => h.elim)
      have b16 : blk w6 w.heap.size = some Ez.e.cells := by rw [c6.blk (blk_lt b5) id]; exact b5
      simp only [add_at, Nat.zero_add]
      refine ⟨fun d w14 => d = deadE A.cf f (failE f x.pe) ∧ RM w14 rb A.cf A.last (L.set i { x with e := eF }) (some ⟨kx, ox, none⟩) c own ∧ Ch (fun b => b ∈ rbl rb own L ∧ ¬ Qt b) w w14 ∧ blk w14 w.heap.size = some Ez.e.cells ∧ blk w14 w5.heap.size = some eF.cells, ?_, ?_⟩
      · rintro d w14 ⟨hd, R14, c14, b14, b64⟩
        have hmap : ∀ y, A.L.map (fun z => if z.seq = x.pe.seq then y else z) = A.L.set i y := fun y => map_set1 (f := fun _ => y) wf.nd hax
        refine ⟨fun w15 => ∃ L' p' c' own', RM w15 rb A.cf A.last L' p' c' own' ∧ (A.back q h f) = (some (failE f x.pe, d), { A with L := L'.map Et.pe }) ∧ (∀ b, own' = some b → own = some b ∨ w.heap.size ≤ b) ∧ (∀ b, b ∈ rbl rb own' L' → b ∈ rbl rb own L ∨ w.heap.size ≤ b ∧ b ≠ w.heap.size) ∧ Ch (fun b => b ∈ rbl rb own L ∧ ¬ Qt b) w w15 ∧ blk w15 w.heap.size = some Ez.e.cells ∧ blk w15 w5.heap.size = some eF.cells ∧ EtE.Ok w15 { x with e := eF }, ?_, ?_⟩
        · rintro w15 ⟨L', p', c', own', R15, hb15, hqo, hbl, c15, b15, b65, hx15⟩
          rw [hb15] at hyes hW
          refine rdN b65 ?_
          refine reN (e := eF) b15 fun w16 b16' c16 z16 => rdN b16' ?_
          have R16 := R15.ch c16 fun b hb e => by
            rcases hbl b hb with g | g
            · have := out b g; omega
            · omega
          refine hyes _ _ rfl { x with e := eF } hF w16 (fun b => b ∈ rbl rb own' L') ⟨hW, _, _, _, _, R16, rfl, rfl, hQt.up (Nat.le_trans c15.size c16.size) hqo⟩ (c15.trans c16 fun b hb e => by omega) (fun b hb => ?_) (EtE.ch hx15 c16 fun b hb e => ?_)
          · rcases hbl b hb with g | g
            · exact .inl g
            · exact .inr g.1
          · have := out b (mem_rbl.2 (.inr (.inr (mem_eB.2 ⟨x, hxL, by simpa [EtE, Option.mem_toList] using hb⟩))))
            omega
        · refine Sif_cases (fun hdt => ?_) fun hdf => ?_
          · refine rdrop_ok R14 (by omega) fun w15 p15 c15' own15 R15 how15 ch15 => ⟨rfl, ?_⟩
            have hrb := out rb (mem_rbl.2 (.inl rfl))
            have s14 := c14.size
            have l6 := blk_lt b14
            have l7 := blk_lt b64
            rw [hdt] at hd
            refine ⟨_, _, _, _, R15, ?_, fun b hb => .inr (by have := how15 b hb; omega), fun b hb => ?_, c14.trans' (ch15.mono fun b _ h => quiet_own hQt (.inl h)), by rw [ch15.blk l6 (by omega)]; exact b14, by rw [ch15.blk l7 (by omega)]; exact b64, EtE.ch (R14.dat _ (List.mem_of_getElem? hx5)) ch15 fun b hb e => ?_⟩
            · rw [ht, if_pos hd.symm, hdt]
              congr 2
              rw [← hxs, show x.e.seq = x.pe.seq from rfl, del_one wf.nd hax, map_erase, List.map_set, E, List.eraseIdx_set_eq]
            · rcases mem_rbl.1 hb with g | g | g
              · exact .inl (mem_rbl.2 (.inl g))
              · have := how15 b g
                exact .inr ⟨by omega, by omega⟩
              · refine .inl (mem_rbl.2 (.inr (.inr ?_)))
                have := (eB_sub (List.eraseIdx_sublist (L.set i { x with e := eF }) i)).subset g
                rw [eB_set (x := x) (x' := { x with e := eF }) rfl hx] at this
                exact this
            · exact R.ne_re (mem_eB.2 ⟨x, hxL, by simpa [EtE, Option.mem_toList, e] using hb⟩)
          · rw [hdf] at hd
            refine ⟨_, _, _, _, R14, ?_, fun b hb => .inl hb, fun b hb => .inl (by rw [rbl_set hx] at hb; exact hb), c14, b14, b64, R14.dat _ (List.mem_of_getElem? hx5)⟩
            rw [ht, if_neg (by rw [← hd]; simp), hdf]
            congr 2
            unfold setE
            have hs : (failE f x.pe).seq = x.pe.seq := rfl
            rw [hs, hmap, List.map_set, E, hF]
      · have R6d := R6.ch (Ch.drew (S := fun _ => False) w6) fun _ _ => id
        have c06d := c06.trans' (Ch.drew (S := fun b => b ∈ rbl rb own L ∧ ¬ Qt b) w6)
        have hcnt : eF.cnt = (failE f x.pe).cnt := by rw [heF]; rfl
        refine Sif_cases (fun hf => ?_) fun hf => ?_
        · refine ⟨_, R6d.cell rfl, Sif_cases (fun ht => ?_) fun ht => ?_⟩
          · refine ⟨_, by rw [cell_blk (show blk w6.drew w5.heap.size = some eF.cells by rw [blk_drew]; exact b6)]; rfl, _, R6d.cell rfl, ?_, R6d, c06d, by rw [blk_drew]; exact b16, by rw [blk_drew]; exact b6⟩
            have ht : 0 < A.cf.tries := by simpa using ht
            unfold deadE
            rw [hcnt, hf]; simp [ht]
          · have ht : ¬ 0 < A.cf.tries := by simpa using ht
            refine ⟨?_, R6d, c06d, by rw [blk_drew]; exact b16, by rw [blk_drew]; exact b6⟩
            unfold deadE
            simp [ht]
        · refine ⟨?_, R6d, c06d, by rw [blk_drew]; exact b16, by rw [blk_drew]; exact b6⟩
          unfold deadE
          rw [hf]; rfl
    · have hset : ∀ a b : Et, (L.set i a).set i b = L.set i b := fun a b => List.set_set ..
      refine Sif_cases (fun hf => ?_) fun hf => ?_
      · obtain ⟨k3, o3, hp3, hc3⟩ := R3.at hx3
        cases hp3
        refine ⟨_, _, _, R3.cell rfl, by omega, by omega, ?_⟩
        simp only [nn_some, add_at, Int.toNat_natCast]
        refine ⟨_, hc3 4 _ rfl, Sif_cases (fun hlt => ?_) fun hge => ?_⟩
        · have hlt : x.e.cnt < 4294967295 := by rw [he0] at hlt; simpa using hlt
          have R3d := R3.ch (Ch.drew (S := fun _ => False) w3) fun _ _ => id
          obtain ⟨k3, o3, hp3, hc3⟩ := R3d.at hx3
          cases hp3
          refine ⟨_, _, _, R3d.cell rfl, _, _, _, R3d.cell rfl, by omega, by omega, ?_⟩
          simp only [nn_some, add_at, Int.toNat_natCast, Nat.add_zero]
          refine ⟨_, hc3 4 _ rfl, by omega, by omega, ?_⟩
          refine R3d.st hx3 (by decide) (e' := eF) ?_ (by rw [heF, he0]) (by rw [heF, he0]) (by rw [heF, he0]) fun w5 R5 c5 z5 => ?_
          · rw [heF, he0, wrap_id (n := x.e.cnt + 1) (by omega) (by omega), if_pos hf, Int.min_eq_left (by omega)]; rfl
          · rw [hset] at R5
            have c5' : Ch (fun b => b ∈ rbl rb own L ∧ ¬ Qt b) w3.drew w5 := c5.mono fun b _ h => quiet_own hQt (.inr h)
            exact ⟨R5, (c03.trans' (Ch.drew (S := fun b => b ∈ rbl rb own L ∧ ¬ Qt b) w3)).trans' c5', by rw [c5'.blk (by rw [show w3.drew.heap = w3.heap from rfl]; exact blk_lt b3) (fun g => by have := out _ g.1; omega), blk_drew]; exact b3⟩
        · have hge : x.e.cnt = 4294967295 := by
            have : ¬ x.e.cnt < 4294967295 := by rw [he0] at hge; simpa using hge
            omega
          have hm : min (x.e.cnt + 1) 4294967295 = x.e.cnt := by omega
          have e : e0 = eF := by rw [he0, heF, if_pos hf, hm]
          rw [e] at R3
          exact ⟨R3, c03, b3⟩
      · have e : e0 = eF := by rw [he0, heF, if_neg (by rw [hf]; simp)]
        rw [e] at R3
        exact ⟨R3, c03, b3⟩
  · have hax := rq_at E hx
    have hfq : A.find q = some x.pe := by rw [← hxs]; exact find_of wf (List.mem_of_getElem? hax)
    have hbad : h < 1 ∨ x.pe.hold ≠ h → A.back q h f = (none, A) := fun g => by
      unfold AQ.back
      rw [hfq]
      show (if h < 1 ∨ x.pe.hold ≠ h then _ else _) = _
      rw [if_pos g]
    refine Sif_cases (fun g1 => ?_) fun g1 => none_case (hbad (.inl (by simpa using g1)))
    have g1 : ¬ h < 1 := by simpa using g1
    obtain ⟨kx, ox, hpx, hc⟩ := R1.at hx
    subst hpx
    have hil := (List.getElem?_eq_some_iff.1 hx).1
    refine ⟨_, _, _, R1.cell rfl, by omega, by omega, ?_⟩
    simp only [nn_some, add_at, Int.toNat_natCast]
    refine ⟨_, hc 5 _ rfl, Sif_cases (fun g => none_case (hbad (.inr (show ¬ x.e.hold = h by simpa using g)))) fun g => ⟨by simpa using g, by omega, by trivial⟩⟩
end Go.Proofs.YtipbbjnmpnfhpaaGreatDoor
namespace Go.Proofs.YtipbbjnmpnfhpaaGreatDoor
open Go Go.Sv Go.Heap Go.Qu Go.MapKept
set_option linter.unusedVariables false
set_option maxRecDepth 4000
variable {Qt : Nat → Prop}
/-- an entry that is let go -/
def relE (h : Int) (x : Et) : Et := if has h x.pe = true then { x with e := { x.e with hold := 0 } } else x
theorem relE_own (h : Int) (x : Et) : (relE h x).own = x.own := by unfold relE; split <;> rfl
theorem take_map_set {α : Type} {f : α → α} {L : List α} {j : Nat} {x : α} (hx : L[j]? = some x) : ((L.take j).map f ++ L.drop j).set j (f x) = (L.take (j + 1)).map f ++ L.drop (j + 1) := by
  obtain ⟨h1, h2⟩ := List.getElem?_eq_some_iff.1 hx
  have e2 : L.drop j = x :: L.drop (j + 1) := by rw [← List.getElem_cons_drop h1, h2]
  have hl : ((L.take j).map f).length = j := by rw [List.length_map, List.length_take]; omega
  rw [e2, List.set_append_right _ _ (by omega), hl, Nat.sub_self, List.set_cons_zero, List.take_add_one, hx, List.map_append]
  simp
theorem mid_get {α : Type} {f : α → α} {L : List α} {j : Nat} {x : α} (hx : L[j]? = some x) : ((L.take j).map f ++ L.drop j)[j]? = some x := by
  obtain ⟨h1, h2⟩ := List.getElem?_eq_some_iff.1 hx
  have hl : ((L.take j).map f).length = j := by rw [List.length_map, List.length_take]; omega
  rw [List.getElem?_append_right (by omega), hl, Nat.sub_self, List.getElem?_drop, Nat.add_zero, hx]
theorem eB_rel (h : Int) : ∀ L : List Et, eB (L.map (relE h)) = eB L
  | [] => rfl
  | x :: L => by
    rw [List.map_cons, eB_cons, eB_cons, eB_rel h L]
    congr 1
    show (relE h x).own.toList = _
    rw [relE_own]; rfl
set_option maxHeartbeats 1000000 in
theorem rrel_ok {w : World} {rb : Nat} {A : AQ} {B : Nat → Prop} {h : Int} {K : Value → World → Prop} (Q : RQ Qt w rb A B)
    (hk : ∀ p c own', RPost Qt w rb (A.release h).2 B fun w' B' => Ow w' p (A.release h).1.length c 1 ((A.release h).1.flatMap iC) own' → K (.slice p (A.release h).1.length c) w') :
    callP Tryz.prog 37 [.pointer (some ⟨rb, 0, none⟩), .int .i64 h] w K := by
  have hW := Q.wf.release h
  obtain ⟨wf, L, p, c, own, R, E, rfl, hQt⟩ := Q
  have hwl := wf.len
  have hm2 := wf.most2
  have hLl : L.length = A.L.length := by rw [← E, List.length_map]
  have old := R.lt
  refine ok_longshoreref17_Queue_Release ?_
  unfold wp_longshoreref17_Queue_Release
  obtain ⟨M, hM⟩ : ∃ M, M = fun j : Nat => (L.take j).map (relE h) ++ L.drop j := ⟨_, rfl⟩
  obtain ⟨S, hS⟩ : ∃ S, S = fun j : Nat => ((L.take j).filter fun x => has h x.pe).map fun x => x.e.seq := ⟨_, rfl⟩
  have hMl : ∀ j, (M j).length = L.length := fun j => by rw [hM]; simp; omega
  have hSl : ∀ j, (S j).length ≤ L.length := fun j => by
    rw [hS]
    show (List.map _ _).length ≤ _
    rw [List.length_map]
    exact Nat.le_trans (List.length_filter_le ..) (by rw [List.length_take]; omega)
  have hMB : ∀ j, rbl rb own (M j) = rbl rb own L := fun j => by
    unfold rbl
    rw [hM]
    show rb :: (own.toList ++ eB ((L.take j).map (relE h) ++ L.drop j)) = _
    rw [eB_app, eB_rel, ← eB_app, List.take_append_drop]
  have M0 : M 0 = L := by rw [hM]; simp
  refine ⟨fun m p1 n c1 i w1 => ∃ (j : Nat) (ow : Option Nat), i = (j : Int) ∧ j ≤ L.length ∧ m = L.length - j ∧ n = (S j).length ∧ RM w1 rb A.cf A.last (M j) p c own ∧ Ow w1 p1 n c1 1 ((S j).flatMap iC) ow ∧ (∀ b, ow = some b → w.heap.size ≤ b) ∧ Ch (fun b => b ∈ rbl rb own L ∧ ¬ Qt b) w w1,
    ⟨L.length, 0, none, rfl, Nat.zero_le _, rfl, by rw [hS]; rfl, by rw [M0]; exact R, by rw [hS]; exact Ow.nil, (fun b hb => by cases hb), Ch.refl _ _⟩, ?_⟩
  rintro m p1 n c1 _ w1 ⟨j, ow, rfl, hj, rfl, rfl, R1, o1, how, ch1⟩
  have hml := hMl j
  have hsl := hSl j
  simp only [nn_some, add_at, Nat.zero_add]
  refine ⟨_, _, _, R1.cell rfl, Sif_cases (fun hlt => ?_) fun hge => ?_⟩
  · have hlt : j < L.length := by have := of_decide_eq_true hlt; omega
    obtain ⟨x, hx⟩ : ∃ x, L[j]? = some x := ⟨_, List.getElem?_eq_getElem hlt⟩
    have hxM : (M j)[j]? = some x := by rw [hM]; exact mid_get hx
    have hMs : M (j + 1) = (M j).set j (relE h x) := by rw [hM]; exact (take_map_set hx).symm
    have hSs : S (j + 1) = S j ++ (if has h x.pe = true then [x.e.seq] else []) := by
      rw [hS]
      show List.map _ (List.filter _ (L.take (j + 1))) = List.map _ _ ++ _
      rw [List.take_add_one, hx, List.filter_append, List.map_append]
      congr 1
      by_cases g : has h x.pe = true <;> simp [g]
    refine ⟨fun p2 n2 c2 w2 => ∃ ow, n2 = (S (j + 1)).length ∧ RM w2 rb A.cf A.last (M (j + 1)) p c own ∧ Ow w2 p2 n2 c2 1 ((S (j + 1)).flatMap iC) ow ∧ (∀ b, ow = some b → w.heap.size ≤ b) ∧ Ch (fun b => b ∈ rbl rb own L ∧ ¬ Qt b) w w2, ?_, ?_⟩
    · rintro p2 _ c2 w2 ⟨ow2, rfl, g1, g2, g3, g4⟩
      rw [nameI_iff, wrap_id (by omega) (by omega)]
      exact ⟨L.length - (j + 1), by omega, j + 1, ow2, by simp, hlt, rfl, rfl, g1, g2, g3, g4⟩
    have stay : has h x.pe = false → ∃ ow, (S j).length = (S (j + 1)).length ∧ RM w1 rb A.cf A.last (M (j + 1)) p c own ∧ Ow w1 p1 (S j).length c1 1 ((S (j + 1)).flatMap iC) ow ∧ (∀ b, ow = some b → w.heap.size ≤ b) ∧ Ch (fun b => b ∈ rbl rb own L ∧ ¬ Qt b) w w1 := fun g => by
      have e1 : M (j + 1) = M j := by
        rw [hMs]
        unfold relE
        rw [g, if_neg (by simp)]
        obtain ⟨q1, q2⟩ := List.getElem?_eq_some_iff.1 hxM
        rw [← q2, List.set_getElem_self]
      have e2 : S (j + 1) = S j := by rw [hSs, g]; simp
      rw [e1, e2]
      exact ⟨ow, rfl, R1, o1, how, ch1⟩
    refine Sif_cases (fun hh => ?_) fun hh => ?_
    rotate_left
    · have hh : ¬ 1 ≤ h := by
        have := of_decide_eq_false hh
        omega
      exact stay (by unfold has; simp [hh])
    have hh : 1 ≤ h := by
      have := of_decide_eq_true hh
      omega
    obtain ⟨kx, ox, hpx, hc⟩ := R1.at hxM
    subst hpx
    refine ⟨_, _, _, R1.cell rfl, by omega, by omega, ?_⟩
    simp only [nn_some, add_at, Int.toNat_natCast]
    refine ⟨_, hc 5 _ rfl, Sif_cases (fun g => ?_) fun g => ?_⟩
    rotate_left
    · have g : ¬ x.e.hold = h := by simpa using g
      exact stay (by
        show (decide (1 ≤ h) && decide (x.e.hold = h)) = false
        simp [g])
    have g : x.e.hold = h := by simpa using g
    have hhas : has h x.pe = true := by
      show (decide (1 ≤ h) && decide (x.e.hold = h)) = true
      simp [g, hh]
    have hrel : relE h x = { x with e := { x.e with hold := 0 } } := by unfold relE; rw [if_pos hhas]
    refine ⟨_, _, _, R1.cell rfl, by omega, by omega, ?_⟩
    simp only [nn_some, add_at, Int.toNat_natCast, Nat.add_zero]
    refine R1.st hxM (by decide) (e' := { x.e with hold := 0 }) rfl rfl rfl rfl fun w2 R2 c2 z2 => ?_
    rw [← hrel, ← hMs] at R2
    have hml2 := hMl (j + 1)
    have hx2 : (M (j + 1))[j]? = some (relE h x) := by rw [hMs, List.getElem?_set_self (by omega)]
    obtain ⟨k2, o2', hp2, hc2⟩ := R2.at hx2
    cases hp2
    refine ⟨_, _, _, R2.cell rfl, by omega, by omega, ?_⟩
    simp only [nn_some, add_at, Int.toNat_natCast]
    refine ⟨x.e.seq, hc2 0 _ (by rw [hrel]; rfl), ?_⟩
    have c2' : Ch (fun b => b ∈ rbl rb own L ∧ ¬ Qt b) w1 w2 := c2.mono fun b _ e => quiet_own hQt (.inr e)
    have o12 : Ow w2 p1 (S j).length c1 1 ((S j).flatMap iC) ow := o1.ch c2' fun b hb e => by have := how b hb; have := old b e.1; omega
    refine push_ok (g := iC) (sz := 1) (bytes := 8) Tryz.underlying44 rint_info rfl iC_len iC_one o12 x.e.seq (by omega) (by omega) fun p' c' b' w3 o3 n3 c3 => ?_
    have e2 : S (j + 1) = S j ++ [x.e.seq] := by rw [hSs, if_pos hhas]
    rw [e2]
    have s2 := (ch1.trans' c2').size
    refine ⟨b', rfl, R2.ch c3 fun b hb e => ?_, o3, fun b hb => ?_, (ch1.trans' c2').trans c3 fun b hb e => by have := how b e; omega⟩
    · rw [hMB] at hb
      have := old b hb; have := how b e; omega
    · rcases n3 b hb with q | q
      · exact how b q
      · omega
  · have hje : j = L.length := by
      have := of_decide_eq_false hge
      omega
    subst hje
    have e1 : S L.length = (A.release h).1 := by
      rw [hS]
      show List.map _ (List.filter _ (L.take L.length)) = (A.L.filter (has h)).map (·.seq)
      rw [List.take_of_length_le (Nat.le_refl _), ← E, List.filter_map, List.map_map]; rfl
    have e2 : (M L.length).map Et.pe = (A.release h).2.L := by
      rw [hM]
      show ((L.take L.length).map (relE h) ++ L.drop L.length).map Et.pe = A.L.map _
      rw [List.take_of_length_le (Nat.le_refl _), List.drop_eq_nil_of_le (Nat.le_refl _), List.append_nil, ← E, List.map_map, List.map_map]
      refine List.map_congr_left fun x _ => ?_
      show (relE h x).pe = if has h x.pe = true then { x.pe with hold := 0 } else x.pe
      unfold relE
      split <;> rfl
    rw [e1] at o1 ⊢
    have hB : (fun b => b ∈ rbl rb own (M L.length)) = fun b => b ∈ rbl rb own L := by rw [hMB]
    exact hk p1 c1 ow w1 _ ⟨hW, M L.length, p, c, own, R1, e2, rfl, hQt.same ch1.size⟩ ch1 (fun b hb => .inl (by rw [hMB] at hb; exact hb)) o1
end Go.Proofs.YtipbbjnmpnfhpaaGreatDoor
namespace Go.Proofs.YtipbbjnmpnfhpaaGreatDoor
open Go Go.Sv Go.Heap Go.Qu Go.MapKept
set_option linter.unusedVariables false
set_option maxRecDepth 4000
variable {Qt : Nat → Prop}
theorem del_et : ∀ {L : List Et} {i : Nat} {x : Et}, (L.map fun x : Et => x.e.seq).Nodup → L[i]? = some x → L.filter (fun y => decide (y.e.seq ≠ x.e.seq)) = L.eraseIdx i
  | [], i, x, _, h => by simp at h
  | y :: L, 0, x, hd, h => by
    simp only [List.getElem?_cons_zero, Option.some.injEq] at h
    subst h
    rw [List.map_cons] at hd
    obtain ⟨d1, d2⟩ := List.nodup_cons.1 hd
    rw [List.filter_cons, if_neg (by simp), List.eraseIdx_cons_zero]
    exact List.filter_eq_self.2 fun z hz => decide_eq_true fun e => d1 (List.mem_map.2 ⟨z, hz, e⟩)
  | y :: L, i + 1, x, hd, h => by
    rw [List.getElem?_cons_succ] at h
    rw [List.map_cons] at hd
    obtain ⟨d1, d2⟩ := List.nodup_cons.1 hd
    have hyx : y.e.seq ≠ x.e.seq := fun e => d1 (List.mem_map.2 ⟨x, List.mem_of_getElem? h, e.symm⟩)
    rw [List.filter_cons, if_pos (by simpa using hyx), del_et d2 h, List.eraseIdx_cons_succ]
def goneE (now : Int) (x : Et) : Bool := isFree x.pe && over now x.pe
/-- what is left when those of G are gone -/
def leftE (now : Int) (L G : List Et) : List Et := L.filter fun y => !(goneE now y && decide (y.e.seq ∈ G.map fun x : Et => x.e.seq))
theorem left_step {now : Int} {L G : List Et} {j i : Nat} {x : Et} (hd : (L.map fun x : Et => x.e.seq).Nodup) (hxL : x ∈ L) (hx : G[j]? = some x) (hg : goneE now x = true) {y : Et} (hy : (leftE now L (G.take j))[i]? = some y) (hyx : y.e.seq = x.e.seq) :
    leftE now L (G.take (j + 1)) = (leftE now L (G.take j)).eraseIdx i := by
  have hd2 : ((leftE now L (G.take j)).map fun x : Et => x.e.seq).Nodup := (List.filter_sublist.map _).nodup hd
  rw [← del_et hd2 hy, hyx]
  unfold leftE
  rw [List.filter_filter]
  refine List.filter_congr fun z hz => ?_
  rw [List.take_add_one, hx, List.map_append]
  by_cases e : z.e.seq = x.e.seq
  · have hzx : z = x := inj_of_nodup hd hz hxL e
    subst hzx
    simp [hg]
  · simp [e]
theorem left_same {now : Int} {L G : List Et} {j : Nat} {x : Et} (hd : (L.map fun x : Et => x.e.seq).Nodup) (hxL : x ∈ L) (hx : G[j]? = some x) (hg : goneE now x = false) : leftE now L (G.take (j + 1)) = leftE now L (G.take j) := by
  unfold leftE
  refine List.filter_congr fun z hz => ?_
  rw [List.take_add_one, hx, List.map_append]
  by_cases e : z.e.seq = x.e.seq
  · have hzx : z = x := inj_of_nodup hd hz hxL e
    subst hzx
    simp [hg]
  · simp [e]
theorem left_all {now : Int} {L G : List Et} (hp : G.Perm L) : leftE now L G = L.filter fun y => !goneE now y := by
  unfold leftE
  refine List.filter_congr fun z hz => ?_
  rw [decide_eq_true (List.mem_map.2 ⟨z, hp.mem_iff.2 hz, rfl⟩), Bool.and_true]
set_option maxHeartbeats 1000000 in
theorem rexp_ok {w : World} {rb : Nat} {A : AQ} {B : Nat → Prop} {now : Int} {K : Value → World → Prop} (Q : RQ Qt w rb A B)
    (hk : ∀ p c own' (G : List Et), G.map Et.pe = (A.expire now).1 → RPost Qt w rb (A.expire now).2 B fun w' B' => Ow w' p G.length c 7 ((G.map (·.e)).flatMap En.cells) own' → (∀ x ∈ G, EtE.Ok w' x) → K (.slice p G.length c) w') :
    callP Tryz.prog 41 [.pointer (some ⟨rb, 0, none⟩), .int .i64 now] w K := by
  have hW := Q.wf.expire now
  obtain ⟨wf, L, p, c, own, R, E, rfl, hQt⟩ := Q
  have hwl := wf.len
  have hm2 := wf.most2
  have hLl : L.length = A.L.length := by rw [← E, List.length_map]
  have old := R.lt
  have hnd : (L.map fun x : Et => x.e.seq).Nodup := by
    have h := wf.nd
    rw [← E, List.map_map] at h
    exact h
  refine ok_longshoreref17_Queue_Expire ?_
  unfold wp_longshoreref17_Queue_Expire
  refine rord_ok R (by omega) fun p2 c2 w2 G ow2 hGo hGp o2 how2 ch2 => ⟨_, _, _, rfl, ?_⟩
  have hGl : G.length = L.length := hGp.length_eq
  have R2 := R.ch ch2 fun _ _ => id
  have hB2 : ∀ b, ow2 = some b → b < w2.heap.size := o2.blt
  refine ⟨fun m p1 n1 c1 i w3 => ∃ (j : Nat) (U : List Et) (ow p' : _) (c' : Nat) (own' : Option Nat), i = (j : Int) ∧ j ≤ G.length ∧ m = G.length - j ∧ n1 = U.length ∧ U = (G.take j).filter (goneE now) ∧ RM w3 rb A.cf A.last (leftE now L (G.take j)) p' c' own' ∧ Ow w3 p1 n1 c1 7 ((U.map (·.e)).flatMap En.cells) ow ∧
      (∀ b, ow = some b → w2.heap.size ≤ b ∧ own' ≠ some b) ∧ (∀ b, own' = some b → own = some b ∨ w2.heap.size ≤ b) ∧ Ch (· = rb) w2 w3,
    ⟨G.length, 0, [], none, p, c, own, rfl, Nat.zero_le _, rfl, rfl, rfl, ?_, Ow.nil, (fun b hb => by cases hb), (fun b hb => .inl hb), Ch.refl _ _⟩, ?_⟩
  · have : leftE now L (G.take 0) = L := by
      unfold leftE
      exact List.filter_eq_self.2 fun y _ => by simp
    rw [this]; exact R2
  rintro m p1 n1 c1 _ w3 ⟨j, U, ow, p', c', own', rfl, hj, rfl, rfl, hU, R3, o3, how, hown, ch3⟩
  have hUl : U.length ≤ G.length := by
    rw [hU]
    exact Nat.le_trans (List.length_filter_le ..) (by rw [List.length_take]; omega)
  have hrb : rb < w.heap.size := old rb (mem_rbl.2 (.inl rfl))
  have s2 := ch2.size
  have s3 := ch3.size
  refine Sif_cases (fun hlt => ?_) fun hge => ?_
  · obtain ⟨x, hx⟩ := at_lt hlt
    have hlt : j < G.length := (List.getElem?_eq_some_iff.1 hx).1
    have hxL : x ∈ L := hGp.mem_iff.1 (List.mem_of_getElem? hx)
    have hxe : (G.map (·.e))[j]? = some x.e := by rw [List.getElem?_map, hx]; rfl
    have row : ∀ w', Ch (· = rb) w2 w' → Rd w' p2 G.length 7 ((G.map (·.e)).flatMap En.cells) := fun w' ch => (o2.ch ch fun b hb e => by have := how2 b hb; omega).rd
    have hUs : (G.take (j + 1)).filter (goneE now) = U ++ (if goneE now x = true then [x] else []) := by
      rw [List.take_add_one, hx, List.filter_append, ← hU]
      congr 1
      by_cases g : goneE now x = true <;> simp [g]
    obtain ⟨kx, ox, hpx, hc⟩ := (row w3 ch3).at En.cells_len hxe (by decide)
    subst hpx
    refine ⟨fun p4 n4 c4 w4 => ∃ (U : List Et) (ow p' : _) (c' : Nat) (own' : Option Nat), n4 = U.length ∧ U = (G.take (j + 1)).filter (goneE now) ∧ RM w4 rb A.cf A.last (leftE now L (G.take (j + 1))) p' c' own' ∧ Ow w4 p4 n4 c4 7 ((U.map (·.e)).flatMap En.cells) ow ∧
      (∀ b, ow = some b → w2.heap.size ≤ b ∧ own' ≠ some b) ∧ (∀ b, own' = some b → own = some b ∨ w2.heap.size ≤ b) ∧ Ch (· = rb) w2 w4, ?_, by omega, by omega, ?_⟩
    · rintro p4 _ c4 w4 ⟨U4, ow4, p4', c4', own4, rfl, g2, g3, g4, g5, g6, g7⟩
      rw [nameI_iff, wrap_id (by omega) (by omega)]
      exact ⟨G.length - (j + 1), by omega, j + 1, U4, ow4, p4', c4', own4, by simp, hlt, rfl, rfl, g2, g3, g4, g5, g6, g7⟩
    have stay : goneE now x = false → ∃ (U4 : List Et) (ow4 p' : _) (c' : Nat) (own' : Option Nat), U.length = U4.length ∧ U4 = (G.take (j + 1)).filter (goneE now) ∧ RM w3 rb A.cf A.last (leftE now L (G.take (j + 1))) p' c' own' ∧ Ow w3 p1 U.length c1 7 ((U4.map (·.e)).flatMap En.cells) ow4 ∧
      (∀ b, ow4 = some b → w2.heap.size ≤ b ∧ own' ≠ some b) ∧ (∀ b, own' = some b → own = some b ∨ w2.heap.size ≤ b) ∧ Ch (· = rb) w2 w3 := fun g => by
      rw [left_same hnd hxL hx g, hUs, g]
      exact ⟨U, ow, p', c', own', rfl, by simp, R3, o3, how, hown, ch3⟩
    simp only [nn_some, add_at, Int.toNat_natCast]
    refine ⟨_, hc 5 _ rfl, Sif_cases (fun g1 => ⟨by omega, by omega, _, hc 2 _ rfl, Sif_cases (fun g2 => ⟨by omega, by omega, _, hc 2 _ rfl, Sif_cases (fun g3 => ?_) fun g3 => ?_⟩) fun g2 => ?_⟩) fun g1 => ?_⟩
    rotate_left
    · exact stay (by
        show (decide (x.e.hold = 0) && (decide (0 ≤ x.e.exp) && decide (x.e.exp ≤ now))) = false
        rw [g3]; simp)
    · exact stay (by
        show (decide (x.e.hold = 0) && (decide (0 ≤ x.e.exp) && decide (x.e.exp ≤ now))) = false
        have : ¬ 0 ≤ x.e.exp := by have := of_decide_eq_false g2; omega
        simp [this])
    · exact stay (by
        show (decide (x.e.hold = 0) && (decide (0 ≤ x.e.exp) && decide (x.e.exp ≤ now))) = false
        have : ¬ x.e.hold = 0 := by simpa using g1
        simp [this])
    have hg : goneE now x = true := by
      show (decide (x.e.hold = 0) && (decide (0 ≤ x.e.exp) && decide (x.e.exp ≤ now))) = true
      have h1 : x.e.hold = 0 := by simpa using g1
      have h2 : 0 ≤ x.e.exp := by have := of_decide_eq_true g2; omega
      rw [g3]; simp [h1, h2]
    rw [hg, if_pos rfl] at hUs
    refine ⟨by omega, by omega, _, hc 0 _ rfl, _, hc 1 _ rfl, _, hc 2 _ rfl, _, hc 3 _ rfl, _, hc 4 _ rfl, _, hc 5 _ rfl, _, _, _, hc 6 _ rfl, ?_⟩
    refine pushG o3 x (by omega) fun p4 c4 ow4 w4 o4 n4 c4' => ⟨by omega, by omega, ?_⟩
    have how4 : ∀ b, ow4 = some b → w2.heap.size ≤ b ∧ own' ≠ some b := fun b hb => by
      rcases n4 b hb with q | q
      · exact how b q
      · exact ⟨by omega, fun e => by have := R3.row.blt b e; omega⟩
    have ch4 : Ch (· = rb) w2 w4 := ch3.trans c4' fun b hb e => by have := (how b e).1; omega
    have R4 := R3.ch c4' fun b hb e => by
      have h1 := how b e
      rcases mem_rbl.1 hb with g | g | g
      · omega
      · exact h1.2 g
      · obtain ⟨y, hy, ho⟩ := mem_eB.1 g
        have := old b (mem_rbl.2 (.inr (.inr (mem_eB.2 ⟨y, (List.mem_filter.1 hy).1, ho⟩))))
        omega
    obtain ⟨kx4, ox4, hpx4, hc4⟩ := (row w4 ch4).at En.cells_len hxe (by decide)
    cases hpx4
    refine ⟨_, hc4 0 _ rfl, ?_⟩
    have hll : (leftE now L (G.take j)).length ≤ L.length := List.length_filter_le ..
    refine rfind_ok R4 (by omega) (fun hn => ?_) fun i y hy hyx => ⟨_, rfl, ?_⟩
    · exfalso
      refine hn x (List.mem_filter.2 ⟨hxL, ?_⟩) rfl
      have hndG : (G.map fun x : Et => x.e.seq).Nodup := ((hGp.map _).nodup_iff).2 hnd
      have : x.e.seq ∉ (G.take j).map fun x : Et => x.e.seq := fun hm => by
        obtain ⟨z, hz, hzx⟩ := List.mem_map.1 hm
        obtain ⟨a, ha⟩ := List.getElem?_of_mem hz
        have hal := (List.getElem?_eq_some_iff.1 ha).1
        rw [List.length_take] at hal
        rw [List.getElem?_take, if_pos (by omega)] at ha
        have h1 : (G.map fun x : Et => x.e.seq)[a]? = some x.e.seq := by rw [List.getElem?_map, ha]; simp [hzx]
        have h2 : (G.map fun x : Et => x.e.seq)[j]? = some x.e.seq := by rw [List.getElem?_map, hx]; rfl
        have := (List.getElem?_inj (by simp; omega) hndG).1 (h1.trans h2.symm)
        omega
      rw [decide_eq_false this]; simp
    · refine rdrop_ok R4 (by omega) fun w5 p5 c5 own5 R5 how5 ch5 => ⟨rfl, ?_⟩
      rw [← left_step hnd hxL hx hg hy hyx] at R5
      have s4 := ch4.size
      refine ⟨U ++ [x], ow4, p5, c5, own5, rfl, hUs.symm, R5, o4.ch ch5 fun b hb e => by have := (how4 b hb).1; omega, fun b hb => ⟨(how4 b hb).1, fun e => ?_⟩, fun b hb => .inr (by have := how5 b hb; omega), ch4.trans' ch5⟩
      have h1 := how5 b e
      have h2 := o4.blt b hb
      omega
  · have hje : j = G.length := by
      have := of_decide_eq_false hge
      omega
    subst hje
    rw [List.take_of_length_le (Nat.le_refl _)] at hU R3
    rw [left_all hGp] at R3
    have e1 : U.map Et.pe = (A.expire now).1 := by
      show U.map Et.pe = ((ordered A.L).filter isFree).filter (over now)
      rw [hU, ← E, ← hGo, List.filter_filter, List.filter_map]
      congr 1
      exact List.filter_congr fun x _ => by show (isFree x.pe && over now x.pe) = (over now x.pe && isFree x.pe); rw [Bool.and_comm]
    have e2 : (L.filter fun y => !goneE now y).map Et.pe = (A.expire now).2.L := by
      show _ = A.L.filter fun e => !(isFree e && over now e)
      rw [← E, List.filter_map]; rfl
    have hsub : ∀ y ∈ L.filter (fun y => !goneE now y), y ∈ L := fun y hy => (List.mem_filter.1 hy).1
    have ch : Ch (fun b => b ∈ rbl rb own L ∧ ¬ Qt b) w w3 := (ch2.mono fun _ _ h => h.elim).trans' (ch3.mono fun b _ h => quiet_own hQt (.inl h))
    refine hk p1 c1 ow U e1 w3 (fun b => b ∈ rbl rb own' (L.filter fun y => !goneE now y)) ⟨hW, _, p', c', own', R3, e2, rfl, hQt.up ch.size fun b hb => (hown b hb).imp id fun h => by omega⟩ ch (fun b hb => ?_) o3 fun x hx => ?_
    · rcases mem_rbl.1 hb with g | g | g
      · exact .inl (mem_rbl.2 (.inl g))
      · rcases hown b g with q | q
        · exact .inl (mem_rbl.2 (.inr (.inl q)))
        · exact .inr (by omega)
      · obtain ⟨y, hy, ho⟩ := mem_eB.1 g
        exact .inl (mem_rbl.2 (.inr (.inr (mem_eB.2 ⟨y, hsub y hy, ho⟩))))
    · rw [hU] at hx
      have hxL : x ∈ L := hGp.mem_iff.1 (List.mem_filter.1 hx).1
      exact EtE.ch (R2.dat x hxL) ch3 fun b hb e => R.ne_re (mem_eB.2 ⟨x, hxL, by simpa [EtE, Option.mem_toList, e] using hb⟩)
end Go.Proofs.YtipbbjnmpnfhpaaGreatDoor
namespace Go.Proofs.YtipbbjnmpnfhpaaGreatDoor
open Go Go.Sv Go.Heap Go.Qu Go.MapKept
set_option linter.unusedVariables false
set_option maxRecDepth 4000
variable {Qt : Nat → Prop}
def entOk (e : En) : Prop := 1 ≤ e.seq ∧ 0 ≤ e.pri ∧ e.pri ≤ 9 ∧ (e.exp = -1 ∨ (0 ≤ e.exp ∧ e.exp ≤ 1125899906842624)) ∧ 0 ≤ e.cnt ∧ e.cnt ≤ 4294967295 ∧ e.hold = 0
theorem rentry_ok {e : En} {w : World} {K : Value → World → Prop} (hk : ∀ b w', (b = true ↔ entOk e) → Ch (fun _ => False) w w' → K (.bool b) w') : callP Tryz.prog 52 [e.val] w K := by
  refine ok_longshoreref17_Entry ?_
  unfold wp_longshoreref17_Entry
  refine newB_blk fun w1 b1 c1 z1 => ?_
  have b1 : blk w1 w.heap.size = some e.cells := b1
  simp only [add_at, Nat.zero_add, cell_blk b1]
  unfold entOk at hk
  refine ⟨_, rfl, Sif_cases (fun h1 => ⟨_, rfl, Sif_cases (fun h2 => ⟨_, rfl, Sif_cases (fun h3 => ⟨_, rfl, Sif_cases (fun h4 => ⟨_, rfl, Sif_cases (fun h5 => ⟨_, rfl, Sif_cases (fun h6 => ⟨_, rfl, Sif_cases (fun h7 => ⟨_, rfl, Sif_cases (fun h8 => ⟨_, rfl, ?_⟩) fun h8 => ?_⟩) fun h7 => ?_⟩) fun h6 => ?_⟩) fun h5 => ?_⟩) fun h4 => ⟨_, rfl, Sif_cases (fun h5 => ⟨_, rfl, Sif_cases (fun h6 => ⟨_, rfl, ?_⟩) fun h6 => ?_⟩) fun h5 => ?_⟩⟩) fun h3 => ?_⟩) fun h2 => ?_⟩) fun h1 => ?_⟩
  all_goals
    refine hk _ w1 ?_ c1
    simp only [decide_eq_true_eq, decide_eq_false_iff_not, Bool.not_eq_true', beq_eq_false_iff_ne, beq_iff_eq, ne_eq, Bool.not_eq_false', Bool.false_eq_true, false_iff, ge_iff_le] at *
    omega
theorem newB_and {w : World} {cs : List Value} {t : TypeId} {K1 K2 : Addr → World → Prop} (h1 : newB w cs t K1) (h2 : newB w cs t K2) : newB w cs t fun a w => K1 a w ∧ K2 a w := ⟨h1, h2⟩
theorem roct_info : InfoIs Tryz.prog 5 1 1 (.int .u8 0) := .of (by kernel_rfl) (by kernel_rfl) (by kernel_rfl)
def rbC (x : UInt8) : List Value := [.int .u8 (x.toNat : Int)]
theorem rbC_flat (l : List UInt8) : l.flatMap rbC = bytesV l := by
  induction l with
  | nil => rfl
  | cons x l ih => rw [List.flatMap_cons, ih]; rfl
set_option maxHeartbeats 1000000 in
theorem rput_ok {w : World} {rb : Nat} {A : AQ} {B : Nat → Prop} {e : En} {l : List UInt8} {K : Value → World → Prop} (Q : RQ Qt w rb A B) (hr : Rd w e.p e.n 1 (bytesV l)) (hi : e.seq ≤ 9223372036854775807)
    (hk : RPost Qt w rb (A.put (e.as l)).2 B fun w' _ => K (.int .i64 (A.put (e.as l)).1) w') : callP Tryz.prog 23 [.pointer (some ⟨rb, 0, none⟩), e.val] w K := by
  have hW := Q.wf.put (e := e.as l) hi
  have hln : l.length = e.n := by have := hr.1; simpa using this
  obtain ⟨wf, L, p, c, own, R, E, rfl, hQt⟩ := Q
  have hwl := wf.len
  have hm2 := wf.most2
  have hLl : L.length = A.L.length := by rw [← E, List.length_map]
  have old := R.lt
  refine ok_longshoreref17_Queue_Put ?_
  unfold wp_longshoreref17_Queue_Put
  refine newB_blk fun w1 b1 c1 z1 => ?_
  have b1 : blk w1 w.heap.size = some e.cells := b1
  simp only [add_at, Nat.zero_add, nn_some]
  refine rdN b1 (rentry_ok (e := e) fun b w2 hb c2 => ⟨_, rfl, ?_⟩)
  have c02 : Ch (fun _ => False) w w2.drew := (c1.trans' c2).trans' (Ch.drew w2)
  have b2 : blk w2.drew w.heap.size = some e.cells := by rw [blk_drew, c2.blk (blk_lt b1) id]; exact b1
  have R2 := R.ch c02 fun _ _ => id
  have same : (A.put (e.as l)).2 = A → ∀ w', Ch (fun _ => False) w w' → K (.int .i64 (A.put (e.as l)).1) w' := fun h w' ch =>
    hk w' _ ⟨hW, by rw [h]; exact ⟨L, p, c, own, R.ch ch fun _ _ => id, E, rfl, hQt.same ch.size⟩⟩ (ch.mono fun _ _ h => h.elim) fun b hb => .inl hb
  have bad : putBad A (e.as l) → ∀ w', Ch (fun _ => False) w w' → K (.int .i64 171) w' := fun h w' ch => by
    have hp : A.put (e.as l) = (171, A) := by unfold AQ.put; rw [if_pos h]
    have := same (by rw [hp]) w' ch
    rw [hp] at this; exact this
  have ent : ¬ putBad A (e.as l) ↔ entOk e ∧ A.last < e.seq := by
    have h : ∀ x : PE, x = e.as l → (¬ putBad A x ↔ entOk e ∧ A.last < e.seq) := fun x hx => by
      have h1 : x.seq = e.seq := by rw [hx]; rfl
      have h2 : x.pri = e.pri := by rw [hx]; rfl
      have h3 : x.exp = e.exp := by rw [hx]; rfl
      have h4 : x.cnt = e.cnt := by rw [hx]; rfl
      have h5 : x.hold = e.hold := by rw [hx]; rfl
      unfold putBad entOk
      rw [h1, h2, h3, h4, h5]
      omega
    exact h _ rfl
  refine ⟨fun w3 => ¬ putBad A (e.as l) ∧ w3 = w2.drew, ?_, Sif_cases (fun h => ⟨_, by rw [cell_blk b2]; rfl, _, R2.cell rfl, Sif_cases (fun g => bad ?_ _ c02) fun g => ⟨?_, rfl⟩⟩) fun h => bad ?_ _ c02⟩
  rotate_left
  · refine Classical.byContradiction fun hn => ?_
    have := (ent.1 hn).2
    have := of_decide_eq_true g
    omega
  · have := of_decide_eq_false g
    exact ent.2 ⟨hb.1 (by simpa using h), by omega⟩
  · refine Classical.byContradiction fun hn => ?_
    have h2 := hb.2 (ent.1 hn).1
    rw [h2] at h; simp at h
  rintro w3 ⟨hnb, rfl⟩
  refine ⟨_, _, _, by rw [cell_blk b2]; rfl, Sif_cases (fun h => ?_) fun h => ?_⟩
  · have h : 1048576 < (e.as l).l.length := by
      have := of_decide_eq_true h
      show 1048576 < l.length
      omega
    have hp : A.put (e.as l) = (2, A) := by unfold AQ.put; rw [if_neg hnb, if_pos h]
    have := same (by rw [hp]) _ c02
    rw [hp] at this; exact this
  have hlong : ¬ 1048576 < (e.as l).l.length := by
    have := of_decide_eq_false h
    show ¬ 1048576 < l.length
    omega
  have hlong' : ¬ 1048576 < l.length := hlong
  have c03 : Ch (fun _ => False) w w2.drew.drew := c02.trans' (Ch.drew _)
  have R3 := R.ch c03 fun _ _ => id
  refine ⟨_, _, _, R3.cell rfl, _, R3.cell rfl, Sif_cases (fun h => ?_) fun h => ?_⟩
  · have h : A.cf.most ≤ (A.L.length : Int) := by
      have := of_decide_eq_true h
      omega
    have hp : A.put (e.as l) = (170, A) := by unfold AQ.put; rw [if_neg hnb, if_neg hlong, if_pos h]
    have := same (by rw [hp]) _ c03
    rw [hp] at this; exact this
  have hroom : ¬ A.cf.most ≤ (A.L.length : Int) := by
    have := of_decide_eq_false h
    omega
  have hput : A.put (e.as l) = (0, { A with L := A.L ++ [e.as l], last := e.seq }) := by unfold AQ.put; rw [if_neg hnb, if_neg hlong, if_neg hroom]; rfl
  rw [hput] at hk hW
  refine ⟨fun m p3 n3 c3 i w4 => ∃ (j : Nat) (ow : Option Nat), i = (j : Int) ∧ j ≤ l.length ∧ m = l.length - j ∧ n3 = (l.take j).length ∧ Ow w4 p3 n3 c3 1 (bytesV (l.take j)) ow ∧ (∀ b, ow = some b → w.heap.size < b) ∧ Ch (fun _ => False) w w4 ∧ blk w4 w.heap.size = some e.cells,
    ⟨l.length, 0, none, rfl, Nat.zero_le _, rfl, rfl, Ow.nil, (fun b hb => by cases hb), c03, by rw [blk_drew]; exact b2⟩, ?_⟩
  rintro m p3 n3 c3 _ w4 ⟨j, ow, rfl, hj, rfl, rfl, o4, how, c04, b4⟩
  have hjl : (l.take j).length = j := by rw [List.length_take]; omega
  refine ⟨_, _, _, by rw [cell_blk b4]; rfl, Sif_cases (fun hlt => ?_) fun hge => ?_⟩
  · have hlt : j < l.length := by have := of_decide_eq_true hlt; omega
    obtain ⟨x, hx⟩ : ∃ x, l[j]? = some x := ⟨_, List.getElem?_eq_getElem hlt⟩
    have hr4 := hr.ch c04 fun _ _ _ => id
    rw [← rbC_flat] at hr4
    obtain ⟨k, o, hpp, hc⟩ := hr4.at (g := rbC) (sz := 1) (fun _ => rfl) hx (by decide)
    refine ⟨_, _, _, by rw [cell_blk b4]; rfl, by omega, by omega, ?_⟩
    rw [hpp]
    simp only [nn_some, add_at, Int.toNat_natCast]
    refine ⟨_, hc 0 _ rfl, ?_⟩
    rw [← rbC_flat] at o4
    refine push_ok (g := rbC) Tryz.underlying32 roct_info rfl (fun _ => rfl) (fun x v hv => by simp [rbC] at hv; rw [hv]; rfl) o4 x (by omega) (by omega) fun p' c' b' w6 o6 n6 c6 => ?_
    have e1 : l.take (j + 1) = l.take j ++ [x] := by rw [List.take_add_one, hx]; rfl
    rw [nameI_iff, wrap_id (by omega) (by omega)]
    have l4 := blk_lt b4
    have s4 := c04.size
    refine ⟨l.length - (j + 1), by omega, j + 1, b', by simp, hlt, rfl, by rw [e1], by rw [e1, ← rbC_flat]; exact o6, fun b hb => ?_, c04.trans c6 fun b hb h => by have := how b h; omega, by rw [c6.blk l4 (fun h => by have := how _ h; omega)]; exact b4⟩
    rcases n6 b hb with q | q
    · exact how b q
    · omega
  · have hje : j = l.length := by
      have := of_decide_eq_false hge
      omega
    subst hje
    rw [List.take_of_length_le (Nat.le_refl _)] at o4 ⊢
    obtain ⟨x, hxx⟩ : ∃ x : Et, x = ⟨{ e with p := p3, n := l.length, c := c3 }, l, ow⟩ := ⟨_, rfl⟩
    have hxpe : x.pe = e.as l := by rw [hxx]; rfl
    refine st_blk b4 (by simp [En.cells]) fun w5 b5 c5 z5 => ?_
    have b5 : blk w5 w.heap.size = some x.e.cells := by rw [b5, hxx]; rfl
    have b5d : blk w5.drew w.heap.size = some x.e.cells := by rw [blk_drew]; exact b5
    have c05 : Ch (fun _ => False) w w5.drew := (c04.trans c5 fun b hb h => by omega).trans' (Ch.drew _)
    have R5 := R.ch c05 fun _ _ => id
    have hx5 : EtE.Ok w5.drew x := by
      have h : Ow w5.drew p3 l.length c3 1 (bytesV l) ow := o4.ch (c5.trans' (Ch.drew _)) fun b hb h => by have := how b hb; omega
      rw [hxx]; exact h
    refine ⟨_, _, _, R5.cell rfl, ?_⟩
    refine rdN b5d (newB_and (newB_blk fun w6 b6 c6 z6 => ⟨_, _, _, (R5.ch c6 fun _ _ => id).cell rfl, rfl⟩) ?_)
    have l5 := blk_lt b5d
    refine pushG R5.row x (by omega) fun p7 c7 ow7 w7 o7 n7 ch7 => ?_
    have hrb := old rb (mem_rbl.2 (.inl rfl))
    have hb7 : blk w7 rb = some (rcells A.cf (.slice p L.length c) A.last) := by rw [ch7.blk (blk_lt R5.head) R5.ne_ro]; exact R5.head
    refine st_blk hb7 (by simp [rcells]) fun w8 b8 c8 z8 => ?_
    have hne : ∀ b, b ∈ rbl rb own L → b < w.heap.size := old
    have bx8 : blk w8 w.heap.size = some x.e.cells := by
      rw [c8.blk (by rw [← show w7.heap.size = w7.heap.size from rfl]; have := ch7.size; omega) (by omega), ch7.blk l5 fun h => by have := hne _ (mem_rbl.2 (.inr (.inl h))); omega]
      exact b5d
    refine ⟨_, by rw [cell_blk bx8, hxx]; rfl, ?_⟩
    refine st_blk b8 (by simp [rcells]) fun w9 b9 c9 z9 => ?_
    have ch59 : Ch (fun b => own = some b ∨ b = rb) w5.drew w9 := ((ch7.mono fun _ _ h => .inl h).trans' (c8.mono fun _ _ h => .inr h)).trans' (c9.mono fun _ _ h => .inr h)
    have s5 := c05.size
    have hxb : ∀ b, b ∈ EtE.B x → w.heap.size < b := fun b hb => by
      rw [hxx] at hb
      exact how b (by simpa [EtE, Option.mem_toList] using hb)
    have heB : eB (L ++ [x]) = eB L ++ EtE.B x := by rw [eB_app, eB_cons]; simp [eB]
    have hn7 : ∀ b, ow7 = some b → own = some b ∨ w5.drew.heap.size ≤ b := n7
    have hx9 : EtE.Ok w9 x := EtE.ch hx5 ch59 fun b hb h => by
      have h1 := hxb b hb
      rcases h with h | h
      · have := hne b (mem_rbl.2 (.inr (.inl h))); omega
      · omega
    have R9 : RM w9 rb A.cf e.seq (L ++ [x]) p7 c7 ow7 := by
      refine ⟨by rw [b9, hxx]; rfl, ?_, fun y hy => ?_, rbl_nd (fun h => ?_) (fun h => ?_) (fun b hb h => ?_) ?_⟩
      · refine o7.ch (c8.trans' c9) fun b hb h => ?_
        rcases hn7 b hb with q | q
        · exact R.ne_ro (h ▸ q)
        · omega
      · rcases List.mem_append.1 hy with hy | hy
        · refine EtE.ch (R5.dat y hy) ch59 fun b hb h => ?_
          have hm : b ∈ eB L := mem_eB.2 ⟨y, hy, by simpa [EtE, Option.mem_toList] using hb⟩
          rcases h with h | h
          · exact R.ne_oe b h hm
          · exact R.ne_re (h ▸ hm)
        · rw [List.mem_singleton.1 hy]; exact hx9
      · rcases hn7 _ h with q | q
        · exact R.ne_ro q
        · omega
      · rw [heB] at h
        rcases List.mem_append.1 h with h | h
        · exact R.ne_re h
        · have := hxb _ h; omega
      · rw [heB] at h
        rcases hn7 b hb with q | q
        · rcases List.mem_append.1 h with h | h
          · exact R.ne_oe b q h
          · have := hxb _ h; have := hne b (mem_rbl.2 (.inr (.inl q))); omega
        · rcases List.mem_append.1 h with h | h
          · have := hne b (mem_rbl.2 (.inr (.inr h))); omega
          · have := EtE.lt hx5 b h; omega
      · rw [heB]
        refine List.nodup_append.2 ⟨R.ndE, EtE.nd hx5, fun a ha b hb h => ?_⟩
        have := hne a (mem_rbl.2 (.inr (.inr ha)))
        have := hxb b hb
        omega
    refine hk w9 (fun b => b ∈ rbl rb ow7 (L ++ [x])) ⟨hW, L ++ [x], p7, c7, ow7, R9, by rw [List.map_append, E, List.map_cons, hxpe]; rfl, rfl, hQt.up (Nat.le_trans c05.size ch59.size) fun b hb => (hn7 b hb).imp id fun h => by omega⟩ ((c05.mono fun _ _ h => h.elim).trans' (ch59.mono fun b _ h => ?_)) fun b hb => ?_
    · exact quiet_own hQt h.symm
    · rcases mem_rbl.1 hb with g | g | g
      · exact .inl (mem_rbl.2 (.inl g))
      · rcases hn7 b g with q | q
        · exact .inl (mem_rbl.2 (.inr (.inl q)))
        · exact .inr (by omega)
      · rw [heB] at g
        rcases List.mem_append.1 g with g | g
        · exact .inl (mem_rbl.2 (.inr (.inr g)))
        · have := hxb b g; exact .inr (by omega)
end Go.Proofs.YtipbbjnmpnfhpaaGreatDoor
namespace Go.Proofs.YtipbbjnmpnfhpaaGreatDoor
open Go Go.Sv Go.Heap Go.Qu Go.MapKept
set_option linter.unusedVariables false
set_option maxRecDepth 4000
theorem make_octs {w : World} (n : Nat) (hn : n ≤ 2 ^ 41) : ∃ w', (Instr.makeSlice 32 (.int .i64 (n : Int)) (.int .i64 (n : Int))).run Tryz.prog w = .ok (.slice (some ⟨w.heap.size, 0, none⟩) n n) w' ∧
    blk w' w.heap.size = some (bytesV (List.replicate n 0)) ∧ Ch (fun _ => False) w w' ∧ w'.heap.size = w.heap.size + 1 := by
  obtain ⟨i, hi, h1, h2, h3⟩ := qoct_info
  have hr := run_make (P := Tryz.prog) w 32 5 i _ Tryz.underlying32 hi h3 .i64 .i64 (n : Int) (n : Int) (by omega) (by omega) (by rw [h2]; omega) (by omega)
  rw [Int.toNat_natCast, h1, Nat.mul_one] at hr
  have hm : madeCells (Value.int .u8 0).cells n = (bytesV (List.replicate n 0)).toArray := by
    apply Array.ext'
    apply List.ext_getElem
    · simp [madeCells]
    · intro j g1 g2
      simp [madeCells, bytesV, Value.cells, Nat.mod_one]
  rw [hm] at hr
  exact ⟨_, hr, alloc_blk w _ _, alloc_ch w _, by simp⟩
theorem octs_size : (Tryz.prog.info? 5).map (·.size) = some 1 := by kernel_rfl
theorem copy_octs {w : World} {k n N : Nat} {b : Option Addr} {c : Nat} {l r : List UInt8} (hb : blk w k = some (bytesV r)) (hr : r.length = N) (h : Rd w b n 1 (bytesV l)) (hn : n ≤ N) :
    ∃ n1 w2, Sem.run Tryz.prog (Builtin.copy_ #[32, 32] 3 #[.slice (some ⟨k, 0, none⟩) N N, .slice b n c]) w = .ok (.int .i64 n1) w2 ∧ blk w2 k = some (bytesV (l ++ r.drop n)) ∧ Ch (· = k) w w2 ∧ w2.heap.size = w.heap.size := by
  have hl : l.length = n := by have := h.1; simpa using this
  by_cases h0 : n = 0
  · subst h0
    have : l = [] := List.eq_nil_of_length_eq_zero hl
    subst this
    exact ⟨0, w, run_copy_none w _ _ _ _ _ _ _ _ _ _ Tryz.underlying32 octs_size (Nat.zero_min _), by simpa using hb, Ch.refl _ _, rfl⟩
  · obtain ⟨h1, h2⟩ := h
    rcases h2 with h2 | ⟨kb, o, cs, rfl, hcs, hle, ht⟩
    · omega
    have hrun := run_copy_cells (P := Tryz.prog) w 32 32 3 5 k 0 N N ⟨kb, o, none⟩ n c (bytesV l) Tryz.underlying32 octs_size (by rw [bytesV_length, hl]; exact (Nat.min_eq_left (by omega)).symm)
      (fun j v hj => by
        have hjl := (List.getElem?_eq_some_iff.1 hj).1
        rw [add_at, cell_of hcs, ← hj, ← ht, List.getElem?_take, if_pos (by omega), List.getElem?_drop])
      (fun j hj => by rw [cell_blk hb]; simp at hj ⊢; omega) (fun j hj => frozen_blk hb (by simp at hj ⊢; omega)) (fun v hv => by rw [oneCell_of]; exact bytesV_one l v hv)
    obtain ⟨g1, g2, g3⟩ := setCells_blk (bytesV l) hb (o := 0) (by simp; omega)
    refine ⟨_, _, hrun, ?_, g2, g3⟩
    rw [g1]
    unfold putSeg
    rw [List.take_zero, List.nil_append, bytesV_append, bytesV_length, Nat.zero_add, hl]
    congr 2
    unfold bytesV
    rw [List.map_drop]
theorem QK.of {w w' : World} {qb : Nat} {A : AQ} {B C : Nat → Prop} (Q : QK w qb A B) (c : Ch C w w') (hn : ∀ b, B b → ¬ C b) : QK w' qb A B := Q.ch c hn
/-- what a step at both queues leaves -/
abbrev PPost (Qt : Nat → Prop) (w : World) (qb rb : Nat) (A' : AQ) (B C : Nat → Prop) (K : World → (Nat → Prop) → (Nat → Prop) → Prop) : Prop := ∀ w' B' C', QK w' qb A' B' → RQ Qt w' rb A' C' → (∀ b, B' b → ¬ C' b) → Ch (fun b => (B b ∨ C b) ∧ ¬ Qt b) w w' → (∀ b, B' b → B b ∨ w.heap.size ≤ b) → (∀ b, C' b → C b ∨ w.heap.size ≤ b) → K w' B' C'
set_option maxHeartbeats 1000000 in
theorem put_ok {Qt : Nat → Prop} {w : World} {qb rb : Nat} {A : AQ} {B C : Nat → Prop} {e : En} {l : List UInt8} {K : Value → World → Prop} (Q : QK w qb A B) (R : RQ Qt w rb A C) (hQB : ∀ b, B b → ¬ Qt b) (hd : ∀ b, B b → ¬ C b) (hr : Rd w e.p e.n 1 (bytesV l)) (hp : ∀ a, e.p = some a → e.n * 1 ≠ 0 → ¬ B a.block ∧ ¬ C a.block) (hn : e.n ≤ 2 ^ 39) (hi : e.seq ≤ 9223372036854775807)
    (hk : PPost Qt w qb rb (A.put (e.as l)).2 B C fun w' _ _ => K (.bool true) w') : callP Tryz.prog 8 [.pointer (some ⟨qb, 0, none⟩), .pointer (some ⟨rb, 0, none⟩), e.val] w K := by
  have hl : l.length = e.n := by have := hr.1; simpa using this
  have hBl := Q.lt
  have hCl := R.lt
  refine ok_longshorelaw17_put ?_
  unfold wp_longshorelaw17_put
  refine newB_blk fun w1 b1 c1 z1 => ?_
  simp only [nn_some, add_at, Nat.zero_add]
  refine ⟨_, _, _, by rw [cell_blk b1]; rfl, ?_⟩
  rw [wrap_id (by omega) (by omega)]
  obtain ⟨w2, r2, b2, c2, z2⟩ := make_octs (w := w1) (e.n + 2) (by omega)
  rw [show ((e.n + 2 : Nat) : Int) = (e.n : Int) + 2 by omega] at r2
  refine ⟨_, _, _, w2, r2, ?_⟩
  have b12 : blk w2 w.heap.size = some e.cells := by rw [c2.blk (blk_lt b1) id]; exact b1
  refine ⟨_, _, _, by rw [cell_blk b12]; rfl, ?_⟩
  have hr2 : Rd w2 e.p e.n 1 (bytesV l) := (hr.ch c1 fun _ _ _ => id).ch c2 fun _ _ _ => id
  obtain ⟨n3, w3, r3, b3, c3, z3⟩ := copy_octs (c := e.c) b2 (by simp) hr2 (by omega : e.n ≤ e.n + 2)
  refine ⟨n3, w3, r3, by omega, by omega, ?_⟩
  have hb3l : (bytesV (l ++ (List.replicate (e.n + 2) (0 : UInt8)).drop e.n)).length = e.n + 2 := by simp; omega
  simp only [nn_some, add_at, Nat.zero_add, Int.toNat_natCast, Nat.mul_one, Nat.add_zero]
  refine st_blk (o := e.n) b3 (by omega) fun w4 b4 c4 z4 => ?_
  rw [wrap_id (n := (e.n : Int) + 1) (by omega) (by omega)]
  refine ⟨by omega, by omega, ?_⟩
  rw [show ((e.n : Int) + 1).toNat = e.n + 1 by omega]
  refine st_blk (o := e.n + 1) b4 (by rw [List.length_set]; omega) fun w5 b5 c5 z5 => ?_
  have b5 : blk w5 w1.heap.size = some (bytesV (l ++ [71, 72])) := by
    rw [b5]
    have e0 : (List.replicate (e.n + 2) (0 : UInt8)).drop e.n = [0, 0] := by
      rw [List.drop_replicate, show e.n + 2 - e.n = 2 by omega]; rfl
    rw [e0, bytesV_append, bytesV_append]
    have e1 : (bytesV l).length = e.n := by simp [hl]
    rw [List.set_append_right _ _ (by omega), List.set_append_right _ _ (by omega)]
    rw [show e.n - (bytesV l).length = 0 by omega, show e.n + 1 - (bytesV l).length = 1 by omega]
    rfl
  have c25 : Ch (fun b => b = w1.heap.size) w2 w5 := (c3.trans' c4).trans' c5
  have s12 : w1.heap.size = w.heap.size + 1 := z1
  have b15 : blk w5 w.heap.size = some e.cells := by rw [c25.blk (blk_lt b12) fun h => by have h : w.heap.size = w1.heap.size := h; omega]; exact b12
  have c05 : Ch (fun _ => False) w w5 := (c1.trans' c2).trans c25 fun b hb h => by have h : b = w1.heap.size := h; omega
  refine rdN b15 (newE (e0 := En0) (e := e) fun w6 b6 c6 z6 => ?_)
  refine ⟨by omega, by omega, ?_⟩
  refine st_blk (cs := e.cells) b6 (by simp [En.cells]) fun w7 b7 c7 z7 => ?_
  have b7 : blk w7 w5.heap.size = some { e with p := some ⟨w1.heap.size, 0, none⟩, n := e.n, c := e.n + 2 : En }.cells := by rw [b7]; rfl
  have c57 : Ch (fun b => b = w5.heap.size) w5 w7 := (c6.mono fun _ _ h => h.elim).trans' c7
  have s5 := c05.size
  have bA7 : blk w7 w1.heap.size = some (bytesV (l ++ [71, 72])) := by rw [c57.blk (blk_lt b5) fun h => by have h : w1.heap.size = w5.heap.size := h; have := blk_lt b5; omega]; exact b5
  have b17 : blk w7 w.heap.size = some e.cells := by rw [c57.blk (blk_lt b15) fun h => by have h : w.heap.size = w5.heap.size := h; have := blk_lt b15; omega]; exact b15
  have c07 : Ch (fun _ => False) w w7 := c05.trans c57 fun b hb h => by have h : b = w5.heap.size := h; omega
  have rdA : ∀ w', blk w' w1.heap.size = some (bytesV (l ++ [71, 72])) → Rd w' (some ⟨w1.heap.size, 0, none⟩) e.n 1 (bytesV l) := fun w' h => ⟨by simp [hl], .inr ⟨_, 0, _, rfl, blk_cells h, by simp; omega, by rw [List.drop_zero, bytesV_append, List.take_append_of_le_length (by simp; omega), List.take_of_length_le (by simp; omega)]⟩⟩
  refine rdN b7 ?_
  have Q7 := Q.ch c07 fun _ _ => id
  have R7 := R.ch c07 fun _ _ => id
  refine qput_ok (e := { e with p := some ⟨w1.heap.size, 0, none⟩, n := e.n, c := e.n + 2 }) (l := l) Q7 (rdA w7 bA7) (fun a ha _ hB => by cases ha; have := hBl _ hB; simp at this; omega) (by show e.n ≤ _; omega) hi fun w8 B' Q8 c8 hB' => ?_
  have eas : ({ e with p := some ⟨w1.heap.size, 0, none⟩, n := e.n, c := e.n + 2 } : En).as l = e.as l := rfl
  rw [eas] at Q8 ⊢
  have s7 := c07.size
  have b18 : blk w8 w.heap.size = some e.cells := by rw [c8.blk (blk_lt b17) fun h => by have := hBl _ h; omega]; exact b17
  refine ⟨_, rfl, rdN b18 ?_⟩
  have R8 := R7.ch c8 fun b hb h => hd b h hb
  have hr8 : Rd w8 e.p e.n 1 (bytesV l) := (hr.ch c07 fun _ _ _ => id).ch c8 fun a ha h0 => (hp a ha h0).1
  refine rput_ok R8 hr8 hi fun w9 C' R9 c9 hC' => ⟨_, rfl, ?_⟩
  have bA8 : blk w8 w1.heap.size = some (bytesV (l ++ [71, 72])) := by rw [c8.blk (blk_lt bA7) fun h => by have := hBl _ h; omega]; exact bA7
  have bA9 : blk w9 w1.heap.size = some (bytesV (l ++ [71, 72])) := by rw [c9.blk (blk_lt bA8) fun h => by have := hCl _ h.1; omega]; exact bA8
  have b19 : blk w9 w.heap.size = some e.cells := by rw [c9.blk (blk_lt b18) fun h => by have := hCl _ h.1; omega]; exact b18
  have hr9 : Rd w9 e.p e.n 1 (bytesV l) := hr8.ch c9 fun a ha h0 h => (hp a ha h0).2 h.1
  have B'lt := Q8.lt
  have Q9 := Q8.ch c9 fun b hb h => by
    rcases hB' b hb with q | q
    · exact hd b q h.1
    · have := hCl b h.1; omega
  have s8 := c8.size
  have s9 := c9.size
  refine ⟨fun b w' => b = true ∧ Ch (fun _ => False) w9 w', ?_, by omega, by omega, ?_⟩
  · rintro b w10 ⟨rfl, c10⟩
    have bA10 : blk w10 w1.heap.size = some (bytesV (l ++ [71, 72])) := by rw [c10.blk (blk_lt bA9) id]; exact bA9
    have own10 : Ow w10 (some ⟨w1.heap.size, 0, none⟩) (e.n + 2) (e.n + 2) 1 (bytesV (l ++ [71, 72])) (some w1.heap.size) := ⟨by simp [hl], Nat.le_refl _, .inr ⟨_, 0, _, rfl, rfl, bA10, by simp; omega, by rw [List.drop_zero, List.take_of_length_le (by simp; omega)]⟩⟩
    refine over_ok own10 (by omega) fun w11 c11 => ⟨rfl, ?_⟩
    have e0 : ((A.put (e.as l)).1 == (A.put (e.as l)).1) = true := by simp
    rw [e0]
    have c911 : Ch (fun b => b = w1.heap.size) w9 w11 := (c10.mono fun _ _ h => h.elim).trans' (c11.mono fun b _ h => (Option.some.inj h).symm)
    have nB : ∀ b, B' b → ¬ b = w1.heap.size := fun b hb h => by
      rcases hB' b hb with q | q
      · have := hBl b q; omega
      · have := blk_lt bA7; omega
    have nC : ∀ b, C' b → ¬ b = w1.heap.size := fun b hb h => by
      rcases hC' b hb with q | q
      · have := hCl b q; omega
      · have := blk_lt bA7; omega
    refine Sif_true (hk w11 B' C' (Q9.ch c911 nB) (R9.ch c911 nC) (fun b hb hc => ?_) ?_ (fun b hb => ?_) fun b hb => ?_)
    · rcases hC' b hc with q | q
      · rcases hB' b hb with g | g
        · exact hd b g q
        · have := hCl b q; omega
      · have := B'lt b hb; omega
    · refine (((c07.mono fun _ _ h => h.elim).trans' (c8.mono fun b _ h => ⟨.inl h, hQB b h⟩)).trans' (c9.mono fun b _ h => ⟨.inr h.1, h.2⟩)).trans c911 fun b hb h => ?_
      omega
    · rcases hB' b hb with q | q
      · exact .inl q
      · exact .inr (by omega)
    · rcases hC' b hb with q | q
      · exact .inl q
      · exact .inr (by omega)
  · have c9d : Ch (fun _ => False) w9 w9.drew := Ch.drew w9
    have b19d : blk w9.drew w.heap.size = some e.cells := b19
    have bA9d : blk w9.drew w1.heap.size = some (bytesV (l ++ [71, 72])) := bA9
    refine ⟨_, _, _, by rw [cell_blk b19d]; rfl, ?_⟩
    refine sameB_ok (l := l) (k := l) (rdA _ bA9d) (hr9.ch c9d fun _ _ _ => id) ⟨true, by rw [beq_self_eq_true], Sif_true ?_⟩
    have g0 : w9.drew.cell? ⟨w1.heap.size, e.n, none⟩ = some (.int .u8 71) := by
      rw [cell_blk bA9d, bytesV_append, List.getElem?_append_right (by simp [hl])]
      simp [hl, bytesV]
    have g1 : w9.drew.cell? ⟨w1.heap.size, e.n + 1, none⟩ = some (.int .u8 72) := by
      rw [cell_blk bA9d, bytesV_append, List.getElem?_append_right (by simp; omega)]
      simp [hl, bytesV]
    refine ⟨by omega, by omega, _, g0, Sif_true ⟨by omega, by omega, _, g1, by rfl, c9d⟩⟩
end Go.Proofs.YtipbbjnmpnfhpaaGreatDoor
