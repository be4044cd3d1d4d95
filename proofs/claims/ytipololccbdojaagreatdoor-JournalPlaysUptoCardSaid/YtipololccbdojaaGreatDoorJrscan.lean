/-
  The document's Get, Head, records, Whole. The document's Scan.
-/
import Derived.Test.YtipololccbdojaaGreatDoorJbatch
import Derived.Test.YtipololccbdojaaGreatDoorJplain
namespace Go.Proofs.YtipololccbdojaaGreatDoor
open Go Go.Sv
set_option linter.unusedVariables false
set_option maxRecDepth 4000

theorem rget_ok {p : Option Addr} {n c a k : Nat} {l : List UInt8} {w : World} {K : Value → World → Prop} (hp : Rd w p n 1 (bytesV l)) (hc : n ≤ 2 ^ 46) (h1 : 1 ≤ k) (h8 : k ≤ 8) (ha : a ≤ n)
    (hs : n < a + k → K (.tuple #[.int .u64 0, .int .i64 10]) w) (hk : a + k ≤ n → K (.tuple #[.int .u64 (num ((l.drop a).take k) : Int), .int .i64 0]) w) :
    callP Tryz.prog 88 [.slice p n c, .int .i64 (a : Int), .int .i64 (k : Int)] w K := by
  have hl : l.length = n := by have := hp.1; simpa using this
  refine ok_longshoreref01_Get ?_
  unfold wp_longshoreref01_Get
  refine ⟨fun w1 => w1 = w, ?_, Sif_cases (fun _ => Sif_cases (fun _ => Sif_cases (fun _ => Sif_cases (fun h => ?_) fun _ => rfl) fun h => ?_) fun h => ?_) fun h => ?_⟩
  rotate_left
  · have : (a : Int) > n := by simpa using h
    omega
  · have : (a : Int) < 0 := by simpa using h
    omega
  · have : ¬ (k : Int) ≤ 8 := by simpa using h
    omega
  · have : (k : Int) < 1 := by simpa using h
    omega
  rintro w1 rfl
  rw [wrap_id (n := (n : Int) - a) (by omega) (by omega)]
  refine Sif_cases (fun h => ?_) fun h => ?_
  · have h' : (n : Int) - a < k := by simpa using h
    exact hs (by omega)
  have h' : ¬ (n : Int) - a < k := by simpa using h
  have hak : a + k ≤ n := by omega
  have hk := hk hak
  rw [wrap_id (n := (a : Int) + k) (by omega) (by omega)]
  refine ⟨fun m v i w' => w' = w1 ∧ ∃ j : Nat, i = ((a + j : Nat) : Int) ∧ j ≤ k ∧ m = k - j ∧ v = (num ((l.drop a).take j) : Int), ⟨k, rfl, 0, by omega, by omega, rfl, by simp [num]⟩, ?_⟩
  rintro m v i w2 ⟨rfl, j, rfl, hjk, rfl, rfl⟩
  have fin : j = k → K (.tuple #[.int .u64 (num ((l.drop a).take j) : Int), .int .i64 0]) w2 := fun e => by subst e; exact hk
  refine ⟨fun w3 => w3 = w2 ∧ j < k, ?_, Sif_cases (fun hlt => Sif_cases (fun hlt2 => ?_) fun hge => ?_) fun hge => ?_⟩
  · rintro w3 ⟨rfl, hj⟩
    refine ⟨by omega, by omega, ?_⟩
    obtain ⟨bk, o, rfl, hcell⟩ := hp.cell (i := a + j) (by omega)
    have hx : a + j < l.length := by omega
    simp only [nn_some, Int.toNat_natCast]
    refine ⟨(l[a + j].toNat : Int), ?_, ?_⟩
    · rw [add_at, Nat.mul_one, hcell]
      simp [bytesV, hx]
    have hx2 : j < (l.drop a).length := by simp; omega
    have ht : ((l.drop a).take j).length = j := by simp; omega
    have hlt2 := num_lt ((l.drop a).take j)
    rw [ht] at hlt2
    have h7 : 256 ^ j ≤ 256 ^ 7 := Nat.pow_le_pow_right (by decide) (by omega)
    have hb := l[a + j].toNat_lt
    have hm : num ((l.drop a).take j) < 72057594037927936 := Nat.lt_of_lt_of_le hlt2 (Nat.le_trans h7 (by decide))
    rw [w64 (n := (l[a + j].toNat : Int)) (by omega) (by omega), w64 (n := 256 * (num ((l.drop a).take j) : Int)) (by omega) (by omega), w64 (by omega) (by omega), nameI_iff, wrap_id (by omega) (by omega), nameI_iff]
    refine ⟨k - (j + 1), by omega, by trivial, j + 1, by omega, by omega, rfl, ?_⟩
    rw [List.take_succ_eq_append_getElem hx2, num_append]
    simp [num, List.getElem_drop]
    omega
  · have : ((a + j : Nat) : Int) < (a : Int) + k := by simpa using hlt
    exact ⟨rfl, by omega⟩
  · have : ((a + j : Nat) : Int) < (a : Int) + k := by simpa using hlt
    have : ¬ ((a + j : Nat) : Int) < (n : Int) := by simpa using hge
    omega
  · have : ¬ ((a + j : Nat) : Int) < (a : Int) + k := by simpa using hge
    exact fin (by omega)
/-- the document's head: the body's bytes, or -1 -/
def headR (d : List UInt8) : Int := if headOk d then (headN d : Int) else -1
theorem rhead_ok {p : Option Addr} {n c a : Nat} {l : List UInt8} {w : World} {K : Value → World → Prop} (hp : Rd w p n 1 (bytesV l)) (hn : n ≤ c) (hc : n ≤ 2 ^ 46) (ha : a ≤ n)
    (hk : K (.int .i64 (headR (l.drop a))) w) : callP Tryz.prog 42 [.slice p n c, .int .i64 (a : Int)] w K := by
  have hl : l.length = n := by have := hp.1; simpa using this
  refine ok_longshoreref20_Head ?_
  unfold wp_longshoreref20_Head
  have no : ¬ headOk (l.drop a) → K (.int .i64 (-1)) w := fun h => by unfold headR at hk; rw [if_neg h] at hk; exact hk
  refine ⟨fun w1 => w1 = w ∧ a + 8 ≤ n, ?_, Sif_cases (fun _ => ?_) fun h => ?_⟩
  · rintro w1 ⟨rfl, h8⟩
    refine rget_ok (k := 4) hp (by omega) (by omega) (by omega) ha (fun h => by omega) fun _ => ⟨_, _, rfl, ?_⟩
    have e4 : IntKind.wrap .i64 ((a : Int) + 4) = ((a + 4 : Nat) : Int) := by rw [wrap_id (by omega) (by omega)]; omega
    rw [e4]
    refine rget_ok (k := 4) hp (by omega) (by omega) (by omega) (by omega) (fun h => by omega) fun _ => ⟨_, _, rfl, by omega, by omega, by omega, by omega, ?_⟩
    simp only [Int.toNat_natCast]
    have hs : Rd w1 (subA p a c 1) (a + 4 - a) 1 (bytesV ((l.drop a).take 4)) := by
      have := rd_take (rd_sub hp ha hn) (m := 4) (by omega)
      rw [Nat.add_sub_cancel_left]; exact this
    refine sumOf_ok hs (by omega) ⟨_, rfl, fun w5 => w5 = w1 ∧ headOk (l.drop a), ?_, ?_⟩
    · rintro w5 ⟨rfl, hh⟩
      have hN := headN_lt (l.drop a)
      have e : headR (l.drop a) = (num ((l.drop a).take 4) : Int) := if_pos hh
      rw [wrap_id (by unfold headN at hN; omega) (by unfold headN at hN; omega), nameI_iff, ← e]
      exact hk
    · have hnu := nu_lt (crc ((l.drop a).take 4))
      rw [w64 (n := nu (crc ((l.drop a).take 4))) (by unfold nu; omega) (by omega)]
      have ed : (l.drop (a + 4)).take 4 = ((l.drop a).drop 4).take 4 := by rw [List.drop_drop]
      rw [ed]
      refine Sif_cases (fun hs => Sif_cases (fun h5 => ?_) fun h5 => ?_) fun hs => ?_
      · have h5' : (num ((l.drop a).take 4) : Int) < 5 := by simpa using h5
        exact no fun hh => by have := hh.2.2; unfold headN at this; omega
      · have hs' : nu (crc ((l.drop a).take 4)) = (num (((l.drop a).drop 4).take 4) : Int) := by simpa using hs
        have h5' : ¬ (num ((l.drop a).take 4) : Int) < 5 := by simpa using h5
        exact ⟨rfl, by simp; omega, by unfold nu at hs'; omega, by unfold headN; omega⟩
      · have hs' : ¬ nu (crc ((l.drop a).take 4)) = (num (((l.drop a).drop 4).take 4) : Int) := by simpa using hs
        exact no fun hh => by have := hh.2.1; unfold nu at hs'; omega
  · rw [wrap_id (by omega) (by omega)]
    refine Sif_cases (fun h => ?_) fun h => ?_
    · have : (n : Int) - a < 8 := by simpa using h
      exact no fun hh => by have := hh.1; simp at this; omega
    · have : ¬ (n : Int) - a < 8 := by simpa using h
      exact ⟨rfl, by omega⟩
  · have : (a : Int) < 0 := by simpa using h
    omega

/-- the document's records of a body -/
theorem rrecs_ok {p : Option Addr} {n c : Nat} {d : List UInt8} {w : World} {K : Value → World → Prop} (hp : Rd w p n 1 (bytesV d)) (hn : n ≤ c) (hc : n ≤ 2 ^ 40)
    (hno : ∀ w', Ch (fun _ => False) w w' → recs d = none → K (.tuple #[.slice none 0 0, .bool false]) w')
    (hok : ∀ w' q m cq own R, Ch (fun _ => False) w w' → recs d = some (R.map (·.l)) → RcE.Row w' q m cq own R → (∀ b ∈ RcE.rowB own R, w.heap.size ≤ b) → K (.tuple #[.slice q m cq, .bool (decide ((m : Int) > 0))]) w') :
    callP Tryz.prog 90 [.slice p n c] w K := by
  have hl : d.length = n := by have := hp.1; simpa using this
  refine ok_longshoreref20_records ?_
  unfold wp_longshoreref20_records
  refine ⟨fun m q t cq i w3 => ∃ own R, ∃ at_ : Nat, i = (at_ : Int) ∧ at_ ≤ n ∧ Ch (fun _ => False) w w3 ∧ RcE.Row w3 q t cq own R ∧ (∀ b ∈ RcE.rowB own R, w.heap.size ≤ b) ∧
    recs d = (recs (d.drop at_)).map (R.map (·.l) ++ ·) ∧ m = n - at_ ∧ t + m ≤ 2 ^ 40, ⟨n, none, [], 0, rfl, by omega, Ch.refl _ _, El.Row.nil, by simp [El.rowB], by simp, by omega, by omega⟩, ?_⟩
  rintro m q t cq i w3 ⟨own, R, at_, rfl, hat, hc3, hrow, hfr, hrec, rfl, hsm⟩
  have hp3 : Rd w3 p n 1 (bytesV d) := hp.ch hc3 fun _ _ _ => id
  have hrl : (d.drop at_).length = n - at_ := by simp; omega
  refine Sif_cases (fun hpos => ?_) fun hz => ?_
  · have hpos' : (at_ : Int) < n := by simpa using hpos
    have hne : d.drop at_ ≠ [] := fun e => by rw [e] at hrl; simp at hrl; omega
    have no : ¬ recOk (d.drop at_) → recs d = none := fun hb => by rw [hrec, recs_bad hne hb]; rfl
    have hnum : num ((d.drop at_).take 4) < 4294967296 := headN_lt (d.drop at_)
    refine rget_ok (k := 4) hp3 (by omega) (by omega) (by omega) hat (fun h => ⟨_, _, rfl, ?_⟩) fun h => ⟨_, _, rfl, ?_⟩
    · rw [show IntKind.wrap .i64 0 = 0 from rfl, nameI_iff]
      refine ⟨fun _ => False, fun w5 hf => hf.elim, Sif_false (hno w3 hc3 (no fun hb => by have := hb.1; omega))⟩
    rw [wrap_id (n := (num ((d.drop at_).take 4) : Int)) (by omega) (by omega), nameI_iff]
    have e4 : IntKind.wrap .i64 ((at_ : Int) + 4) = ((at_ + 4 : Nat) : Int) := by rw [wrap_id (by omega) (by omega)]; omega
    have e5 : IntKind.wrap .i64 (((at_ + 4 : Nat) : Int) + (num ((d.drop at_).take 4) : Int)) = ((at_ + 4 + num ((d.drop at_).take 4) : Nat) : Int) := by rw [wrap_id (by omega) (by omega)]; omega
    simp only [e4, e5, Int.toNat_natCast]
    refine ⟨fun w5 => w5 = w3 ∧ recOk (d.drop at_), ?_, Sif_true (Sif_cases (fun h1 => Sif_cases (fun h2 => Sif_cases (fun h3 => ?_) fun h3 => ?_) fun h2 => ?_) fun h1 => ?_)⟩
    · rintro w5 ⟨rfl, hr⟩
      have h5 := hr.2.2.2
      have h6 := hr.2.1
      have hbd : Rd w5 (subA p (at_ + 4) c 1) (at_ + 4 + num ((d.drop at_).take 4) - (at_ + 4)) 1 (bytesV (((d.drop at_).drop 4).take (num ((d.drop at_).take 4)))) := by
        have h1 := rd_take (rd_sub hp3 (j := at_ + 4) (by omega) hn) (m := num ((d.drop at_).take 4)) (by omega)
        rw [Nat.add_sub_cancel_left, List.drop_drop]; exact h1
      refine ⟨by omega, by omega, by omega, by omega, radd_ok (x := []) Ow.nil hbd (fun a ha h0 he => by cases he) (by omega) fun p' c' b' w6 o6 n6 c6 => ⟨_, _, _, rfl, ?_⟩⟩
      have c6' : Ch (fun _ => False) w5 w6 := c6.mono fun _ _ he => by cases he
      have hrow6 : RcE.Row w6 q t cq own R := hrow.ch c6' fun _ _ => id
      refine El.Row.push (E := RcE) (bytes := 24) Tryz.underlying29 row_info rfl hrow6 (x := ⟨⟨p', 0 + (at_ + 4 + num ((d.drop at_).take 4) - (at_ + 4)), c', b'⟩, [] ++ ((d.drop at_).drop 4).take (num ((d.drop at_).take 4))⟩) o6 (fun b hb hm => ?_) (by omega) (by omega) fun q' cq' own' w8 r8 n8 c8 => ?_
      · have hb' : b' = some b := by simpa [RcE, Option.mem_toList] using hb
        rcases n6 b hb' with h9 | h9
        · cases h9
        have := hrow.lt b hm
        omega
      · have hc8 : Ch (fun _ => False) w w8 := (hc3.new c6').trans c8 fun x hx he => by
          have := hfr x (El.mem_rowB.2 (.inl he)); omega
        rw [nameI_iff]
        refine ⟨n - (at_ + 4 + num ((d.drop at_).take 4)), by omega, own', R ++ [⟨⟨p', 0 + (at_ + 4 + num ((d.drop at_).take 4) - (at_ + 4)), c', b'⟩, [] ++ ((d.drop at_).drop 4).take (num ((d.drop at_).take 4))⟩], at_ + 4 + num ((d.drop at_).take 4), rfl, by omega, hc8, r8, fun b hb => ?_, ?_, rfl, by omega⟩
        · rcases n8 b hb with g | g | g
          · exact hfr b g
          · have hb' : b' = some b := by simpa [RcE, Option.mem_toList] using g
            rcases n6 b hb' with h9 | h9
            · cases h9
            have := hc3.size; omega
          · have := hc3.size; have := c6.size; omega
        · have ed : (d.drop at_).drop (4 + num ((d.drop at_).take 4)) = d.drop (at_ + 4 + num ((d.drop at_).take 4)) := by
            rw [List.drop_drop]; congr 1; omega
          rw [hrec, recs_step hne hr, ed, Option.map_map]
          congr 1
          funext z
          simp
    · have : (num ((d.drop at_).take 4) : Int) > IntKind.wrap .i64 (IntKind.wrap .i64 ((n : Int) - at_) - 4) := by simpa using h3
      rw [wrap_id (n := (n : Int) - at_) (by omega) (by omega), wrap_id (by omega) (by omega)] at this
      exact hno w3 hc3 (no fun hb => by have := hb.2.2.2; omega)
    · have h1' : ¬ (num ((d.drop at_).take 4) : Int) < 1 := by simpa using h1
      have h2' : ¬ (num ((d.drop at_).take 4) : Int) > 1049600 := by simpa using h2
      have : ¬ (num ((d.drop at_).take 4) : Int) > IntKind.wrap .i64 (IntKind.wrap .i64 ((n : Int) - at_) - 4) := by simpa using h3
      rw [wrap_id (n := (n : Int) - at_) (by omega) (by omega), wrap_id (by omega) (by omega)] at this
      exact ⟨rfl, by omega, by omega, by omega, by omega⟩
    · have h2' : (num ((d.drop at_).take 4) : Int) > 1049600 := by simpa using h2
      exact hno w3 hc3 (no fun hb => by have := hb.2.2.1; omega)
    · have h1' : (num ((d.drop at_).take 4) : Int) < 1 := by simpa using h1
      exact hno w3 hc3 (no fun hb => by have := hb.2.1; omega)
  · have hz' : ¬ (at_ : Int) < n := by simpa using hz
    have e : d.drop at_ = [] := List.eq_nil_of_length_eq_zero (by omega)
    exact hok w3 q t cq own R hc3 (by rw [hrec, e, recs_nil]; simp) hrow hfr
/-- the document's whole batch -/
theorem rwhole_ok {p : Option Addr} {n c a : Nat} {l : List UInt8} {w : World} {K : Value → World → Prop} (hp : Rd w p n 1 (bytesV l)) (hn : n ≤ c) (hc : n ≤ 2 ^ 40) (ha : a ≤ n)
    (hno : ∀ w', Ch (fun _ => False) w w' → whole (l.drop a) = none → K (.tuple #[.slice none 0 0, .int .i64 0]) w')
    (hok : ∀ w' q m cq own R, Ch (fun _ => False) w w' → whole (l.drop a) = some (R.map (·.l)) → RcE.Row w' q m cq own R → (∀ b ∈ RcE.rowB own R, w.heap.size ≤ b) →
      K (.tuple #[.slice q m cq, .int .i64 ((a + 12 + headN (l.drop a) : Nat) : Int)]) w') :
    callP Tryz.prog 41 [.slice p n c, .int .i64 (a : Int)] w K := by
  have hl : l.length = n := by have := hp.1; simpa using this
  have hdl : (l.drop a).length = n - a := by simp; omega
  have hN := headN_lt (l.drop a)
  refine ok_longshoreref20_Whole ?_
  unfold wp_longshoreref20_Whole
  have wnone : ¬ (headOk (l.drop a) ∧ headN (l.drop a) + 12 ≤ (l.drop a).length ∧ footOk (l.drop a)) → whole (l.drop a) = none := fun h => if_neg h
  refine rhead_ok hp hn (by omega) ha ⟨_, rfl, ?_⟩
  by_cases hh : headOk (l.drop a)
  · have e : headR (l.drop a) = (headN (l.drop a) : Int) := if_pos hh
    have h8 := hh.1
    rw [e]
    have ea : IntKind.wrap .i64 ((a : Int) + 8) = ((a + 8 : Nat) : Int) := by rw [wrap_id (by omega) (by omega)]; omega
    have eb : IntKind.wrap .i64 ((a : Int) + 12) = ((a + 12 : Nat) : Int) := by rw [wrap_id (by omega) (by omega)]; omega
    have e8 : IntKind.wrap .i64 (((a + 8 : Nat) : Int) + (headN (l.drop a) : Int)) = ((a + 8 + headN (l.drop a) : Nat) : Int) := by
      rw [wrap_id (by omega) (by omega)]; omega
    have e12 : IntKind.wrap .i64 (((a + 12 : Nat) : Int) + (headN (l.drop a) : Int)) = ((a + 12 + headN (l.drop a) : Nat) : Int) := by
      rw [wrap_id (by omega) (by omega)]; omega
    simp only [ea, eb, e8, e12, Int.toNat_natCast]
    refine ⟨fun w2 => w2 = w ∧ a + 12 + headN (l.drop a) ≤ n, ?_, Sif_cases (fun _ => Sif_cases (fun h => ?_) fun h => ?_) fun h => ?_⟩
    · rintro w2 ⟨rfl, h12⟩
      refine rget_ok (k := 4) hp (by omega) (by omega) (by omega) (by omega) (fun h => by omega) fun _ => ⟨_, _, rfl, by omega, by omega, by omega, by omega, ?_⟩
      have hs1 : Rd w2 (subA p a c 1) (a + 8 + headN (l.drop a) - a) 1 (bytesV ((l.drop a).take (headN (l.drop a) + 8))) := by
        have := rd_take (rd_sub hp ha hn) (m := a + 8 + headN (l.drop a) - a) (by omega)
        rwa [show a + 8 + headN (l.drop a) - a = headN (l.drop a) + 8 by omega] at this ⊢
      refine sumOf_ok hs1 (by omega) ⟨_, rfl, by omega, by omega, by omega, by omega, ?_⟩
      have hs2 : Rd w2 (subA p (a + 8) c 1) (a + 8 + headN (l.drop a) - (a + 8)) 1 (bytesV (((l.drop a).drop 8).take (headN (l.drop a)))) := by
        have := rd_take (rd_sub hp (j := a + 8) (by omega) hn) (m := headN (l.drop a)) (by omega)
        rw [Nat.add_sub_cancel_left, List.drop_drop]; exact this
      have hnu := nu_lt (crc ((l.drop a).take (headN (l.drop a) + 8)))
      have ef : (l.drop (a + 8 + headN (l.drop a))).take 4 = ((l.drop a).drop (headN (l.drop a) + 8)).take 4 := by rw [List.drop_drop]; congr 2; omega
      rw [ef, w64 (n := nu (crc ((l.drop a).take (headN (l.drop a) + 8)))) (by unfold nu; omega) (by omega)]
      have h5 := hh.2.2
      have bne : ((l.drop a).drop 8).take (headN (l.drop a)) ≠ [] := fun e => by
        have := congrArg List.length e
        simp at this
        omega
      refine rrecs_ok hs2 (by omega) (by omega) (fun w3 hc3 hr => ⟨_, _, _, _, rfl, ?_⟩) fun w3 q m cq own R hc3 hr hrow hfr => ⟨_, _, _, _, rfl, ?_⟩
      · refine ⟨fun _ => False, fun w6 hf => hf.elim, Sif_false (hno w3 hc3 ?_)⟩
        unfold whole
        split
        · exact hr
        · rfl
      · have hR : R.map (·.l) ≠ [] := recs_ne bne hr
        have hm : (0 : Int) < m := by
          have h1 := hrow.1
          have : R ≠ [] := fun e => hR (by rw [e]; rfl)
          have := List.length_pos_iff.2 this
          omega
        have hd : decide ((m : Int) > 0) = true := by simpa using hm
        rw [hd]
        refine ⟨fun w6 => w6 = w3 ∧ footOk (l.drop a), ?_, Sif_true (Sif_cases (fun hf => ?_) fun hf => ?_)⟩
        · rintro w6 ⟨rfl, hf⟩
          rw [nameI_iff]
          exact hok w6 q m cq own R hc3 ((if_pos ⟨hh, by omega, hf⟩).trans hr) hrow hfr
        · have hf' : ¬ nu (crc ((l.drop a).take (headN (l.drop a) + 8))) = (num (((l.drop a).drop (headN (l.drop a) + 8)).take 4) : Int) := by simpa using hf
          exact hno w3 hc3 (wnone fun h => by have := h.2.2; unfold footOk at this; unfold nu at hf'; omega)
        · have hf' : nu (crc ((l.drop a).take (headN (l.drop a) + 8))) = (num (((l.drop a).drop (headN (l.drop a) + 8)).take 4) : Int) := by simpa using hf
          exact ⟨rfl, by unfold footOk; unfold nu at hf'; omega⟩
    · rw [wrap_id (n := (n : Int) - a) (by omega) (by omega), wrap_id (by omega) (by omega)] at h
      have : (headN (l.drop a) : Int) > (n : Int) - a - 12 := by simpa using h
      exact hno w (Ch.refl _ _) (wnone fun h => by have := h.2.1; omega)
    · rw [wrap_id (n := (n : Int) - a) (by omega) (by omega), wrap_id (by omega) (by omega)] at h
      have : ¬ (headN (l.drop a) : Int) > (n : Int) - a - 12 := by simpa using h
      exact ⟨rfl, by omega⟩
    · have : (headN (l.drop a) : Int) < 0 := by simpa using h
      omega
  · have e : headR (l.drop a) = -1 := if_neg hh
    rw [e]
    exact ⟨fun _ => False, fun w2 hf => hf.elim, Sif_false (hno w (Ch.refl _ _) (wnone fun h => hh h.1))⟩
end Go.Proofs.YtipololccbdojaaGreatDoor
namespace Go.Proofs.YtipololccbdojaaGreatDoor
open Go Go.Sv
set_option linter.unusedVariables false
set_option maxRecDepth 4000

theorem log_info : InfoIs Tryz.prog 29 1 24 (.slice none 0 0) := .of (by kernel_rfl) (by kernel_rfl) (by kernel_rfl)
theorem rscan_ok {p : Option Addr} {n c : Nat} {d : List UInt8} {safe : Int} {w : World} {K : Value → World → Prop} (hp : Rd w p n 1 (bytesV d)) (hn : n ≤ c) (hc : n ≤ 2 ^ 40)
    (hk : ∀ w' q m cq own L, Ch (fun _ => False) w w' → L.map Bt.says = (scanA d safe).1 → BtE.Row w' q m cq own L → (∀ b ∈ BtE.rowB own L, w.heap.size ≤ b) →
      K (.tuple #[.slice q m cq, .int .i64 ((scanA d safe).2.1 : Int), .int .i64 (scanA d safe).2.2]) w') :
    callP Tryz.prog 13 [.slice p n c, .int .i64 safe] w K := by
  have hl : d.length = n := by have := hp.1; simpa using this
  refine ok_longshoreref20_Scan ?_
  unfold wp_longshoreref20_Scan
  have arg : (safe < 0 ∨ safe > d.length) → K (.tuple #[.slice none 0 0, .int .i64 0, .int .i64 1]) w := fun h => by
    have e : scanA d safe = ([], 0, 1) := if_pos h
    have := hk w none 0 0 none [] (Ch.refl _ _) (by rw [e]; rfl) El.Row.nil (by simp [El.rowB])
    rw [e] at this
    exact this
  refine ⟨fun w1 => w1 = w ∧ 0 ≤ safe ∧ safe ≤ n, ?_, Sif_cases (fun h0 => Sif_cases (fun h1 => ?_) fun h1 => ?_) fun h0 => ?_⟩
  · rintro w1 ⟨rfl, hs0, hs1⟩
    have hin : ¬ (safe < 0 ∨ safe > d.length) := by omega
    refine ⟨fun q t cq i w2 => ∃ own L, i = ((scanL d).2 : Int) ∧ Ch (fun _ => False) w1 w2 ∧ L.map Bt.says = (scanL d).1 ∧ BtE.Row w2 q t cq own L ∧ (∀ b ∈ BtE.rowB own L, w1.heap.size ≤ b), ?_,
      fun m q t cq i w2 => ∃ own L, ∃ at_ : Nat, i = (at_ : Int) ∧ at_ ≤ n ∧ Ch (fun _ => False) w1 w2 ∧ BtE.Row w2 q t cq own L ∧ (∀ b ∈ BtE.rowB own L, w1.heap.size ≤ b) ∧
        scanL d = (L.map Bt.says ++ (scanL (d.drop at_)).1, at_ + (scanL (d.drop at_)).2) ∧ m = n - at_ ∧ t + m ≤ 2 ^ 40,
      ⟨n, none, [], 0, rfl, by omega, Ch.refl _ _, El.Row.nil, by simp [El.rowB], by simp, by omega, by omega⟩, ?_⟩
    · rintro q t cq i w2 ⟨own, L, rfl, hc2, hsay, hrow, hfr⟩
      have hle := scanL_le d
      rw [wrap_id (by omega) (by omega), nameI_iff]
      refine rhead_ok (hp.ch hc2 fun _ _ _ => id) hn (by omega) (by omega) ⟨_, rfl, ?_⟩
      have hdl : (d.drop (scanL d).2).length = n - (scanL d).2 := by simp; omega
      have hN := headN_lt (d.drop (scanL d).2)
      refine ⟨fun b w4 => w4 = w2 ∧ b = decide (broken (d.drop (scanL d).2)), ?_, ?_⟩
      · rintro b w4 ⟨rfl, rfl⟩
        have hgood : ¬ (broken (d.drop (scanL d).2) ∧ ((scanL d).2 : Int) < safe) → K (.tuple #[.slice q t cq, .int .i64 ((scanL d).2 : Int), .int .i64 0]) w4 := fun hb => by
          have e : scanA d safe = ((scanL d).1, (scanL d).2, 0) := by unfold scanA; rw [if_neg hin, if_neg hb]
          have := hk w4 q t cq own L hc2 (by rw [e]; exact hsay) hrow hfr
          rw [e] at this
          exact this
        refine ⟨fun w5 => w5 = w4 ∧ ¬ (broken (d.drop (scanL d).2) ∧ ((scanL d).2 : Int) < safe), ?_, Sif_cases (fun h1 => Sif_cases (fun h2 => ?_) fun h2 => ?_) fun h1 => ?_⟩
        · rintro w5 ⟨rfl, hb⟩; exact hgood hb
        · have h1' : ((scanL d).2 : Int) < safe := by simpa using h1
          have h2' : broken (d.drop (scanL d).2) := by simpa using h2
          have e : scanA d safe = ([], (scanL d).2, 201) := by unfold scanA; rw [if_neg hin, if_pos ⟨h2', h1'⟩]
          have := hk w4 none 0 0 none [] hc2 (by rw [e]; rfl) El.Row.nil (by simp [El.rowB])
          rw [e] at this
          exact this
        · have h2' : ¬ broken (d.drop (scanL d).2) := by simpa using h2
          exact ⟨rfl, fun h => h2' h.1⟩
        · have h1' : ¬ ((scanL d).2 : Int) < safe := by simpa using h1
          exact ⟨rfl, fun h => h1' h.2⟩
      · refine Sif_cases (fun h8 => Sif_cases (fun h0 => ?_) fun h0 => ?_) fun h8 => ?_
        · have h8' : (n : Int) - ((scanL d).2 : Int) ≥ 8 := by simpa using h8
          have h0' : ¬ headR (d.drop (scanL d).2) < 0 := by simpa using h0
          by_cases hh : headOk (d.drop (scanL d).2)
          · have e : headR (d.drop (scanL d).2) = (headN (d.drop (scanL d).2) : Int) := if_pos hh
            rw [e, wrap_id (by omega) (by omega)]
            refine ⟨rfl, ?_⟩
            congr 1
            refine propext ⟨fun h => ⟨by omega, .inr (by omega)⟩, fun h => ?_⟩
            rcases h.2 with h | h
            · exact absurd hh h
            · omega
          · have e : headR (d.drop (scanL d).2) = -1 := if_neg hh
            rw [e] at h0'; omega
        · have h8' : (n : Int) - ((scanL d).2 : Int) ≥ 8 := by simpa using h8
          have h0' : headR (d.drop (scanL d).2) < 0 := by simpa using h0
          refine ⟨rfl, ?_⟩
          symm
          rw [decide_eq_true_iff]
          refine ⟨by omega, .inl fun hh => ?_⟩
          have e : headR (d.drop (scanL d).2) = (headN (d.drop (scanL d).2) : Int) := if_pos hh
          rw [e] at h0'; omega
        · have h8' : ¬ (n : Int) - ((scanL d).2 : Int) ≥ 8 := by simpa using h8
          refine ⟨rfl, ?_⟩
          symm
          rw [decide_eq_false_iff_not]
          intro h
          have := h.1
          omega
    · rintro m q t cq i w2 ⟨own, L, at_, rfl, hat, hc2, hrow, hfr, hsc, rfl, hsm⟩
      have hp2 : Rd w2 p n 1 (bytesV d) := hp.ch hc2 fun _ _ _ => id
      have stop : ∀ w3, Ch (fun _ => False) w2 w3 → whole (d.drop at_) = none → ∃ own L, (at_ : Int) = ((scanL d).2 : Int) ∧ Ch (fun _ => False) w1 w3 ∧ L.map Bt.says = (scanL d).1 ∧ BtE.Row w3 q t cq own L ∧ (∀ b ∈ BtE.rowB own L, w1.heap.size ≤ b) := fun w3 hc3 hw => by
        rw [scanL_none hw] at hsc
        exact ⟨own, L, by rw [hsc]; simp, hc2.new hc3, by rw [hsc]; simp, hrow.ch hc3 fun _ _ => id, hfr⟩
      refine Sif_cases (fun hlt => ?_) fun hge => ?_
      · have hlt' : (at_ : Int) < n := by simpa using hlt
        refine rwhole_ok hp2 hn hc hat (fun w3 hc3 hw => ⟨_, _, _, _, rfl, Sif_true (stop w3 hc3 hw)⟩) fun w3 q1 m1 cq1 own1 R hc3 hw hrow1 hfr1 => ⟨_, _, _, _, rfl, ?_⟩
        have hsz := whole_size hw
        have hdl : (d.drop at_).length = n - at_ := by simp; omega
        refine Sif_cases (fun h => ?_) fun _ => ?_
        · have : ((at_ + 12 + headN (d.drop at_) : Nat) : Int) = 0 := by simpa using h
          omega
        have hrow3 : BtE.Row w3 q t cq own L := hrow.ch hc3 fun _ _ => id
        refine El.Row.push (E := BtE) (bytes := 24) Tryz.underlying24 log_info rfl hrow3 (x := ⟨⟨q1, m1, cq1, own1⟩, R⟩) hrow1 (fun b hb hm => ?_) (by omega) (by omega) fun q' cq' own' w8 r8 n8 c8 => ?_
        · have h1 := hfr1 b hb
          have h2 := hrow.lt b hm
          omega
        · refine ⟨n - (at_ + 12 + headN (d.drop at_)), by omega, own', L ++ [⟨⟨q1, m1, cq1, own1⟩, R⟩], at_ + 12 + headN (d.drop at_), rfl, by omega, (hc2.new hc3).trans c8 fun x hx he => ?_, r8, fun b hb => ?_, ?_, rfl, by omega⟩
          · have := hfr x (El.mem_rowB.2 (.inl he)); omega
          · rcases n8 b hb with g | g | g
            · exact hfr b g
            · have := hfr1 b g; have := hc2.size; omega
            · have := hc2.size; have := hc3.size; omega
          · have ed : (d.drop at_).drop (headN (d.drop at_) + 12) = d.drop (at_ + 12 + headN (d.drop at_)) := by rw [List.drop_drop]; congr 1; omega
            rw [hsc, scanL_some hw, ed]
            refine Prod.ext ?_ ?_
            · simp [Bt.says]
            · show at_ + (headN (d.drop at_) + 12 + _) = _
              omega
      · have hge' : ¬ (at_ : Int) < n := by simpa using hge
        have e : d.drop at_ = [] := List.eq_nil_of_length_eq_zero (by simp; omega)
        exact stop w2 (Ch.refl _ _) (by rw [e]; exact whole_nil)
  · have : safe > (n : Int) := by simpa using h1
    exact arg (.inr (by omega))
  · have h0' : ¬ safe < 0 := by simpa using h0
    have h1' : ¬ safe > (n : Int) := by simpa using h1
    exact ⟨rfl, by omega, by omega⟩
  · have h0' : safe < 0 := by simpa using h0
    exact arg (.inl h0')
end Go.Proofs.YtipololccbdojaaGreatDoor
