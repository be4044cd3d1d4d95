/-
  DiskPlays: whatever the script: the call returns true.
-/
import Derived.Test.YtncbmfinndcojaaPairE
import Derived.Test.YtncbmfinndcojaaDiskO
namespace Go.Proofs.Ytncbmfinndcojaa
open Go Go.Sv Go.MapKept
set_option linter.unusedVariables false
set_option maxRecDepth 10000

def tri : Nat → Nat
  | 0 => 0
  | i + 1 => tri i + i + 1
theorem tri_two : ∀ n, 2 * tri n = n * (n + 1)
  | 0 => rfl
  | n + 1 => by
    have := tri_two n
    simp only [tri]
    have e : (n + 1) * (n + 1 + 1) = n * (n + 1) + 2 * (n + 1) := by rw [Nat.mul_comm n (n + 1), ← Nat.mul_comm (n + 1) 2, ← Nat.mul_add]
    omega
theorem tri_le {n : Nat} (h : n ≤ 2 ^ 20) : tri n + 8 * n < 2 ^ 40 := by
  have h1 := tri_two n
  have h2 : n * (n + 1) ≤ 2 ^ 20 * (2 ^ 20 + 1) := Nat.mul_le_mul h (by omega)
  omega
theorem bits01 (n : Int) : bitsV .and .i64 n 1 = 0 ∨ bitsV .and .i64 n 1 = 1 := by
  have h : (BitVec.ofInt IntKind.i64.bits n &&& BitVec.ofInt IntKind.i64.bits 1).toNat < 2 := by
    rw [BitVec.toNat_and, show (BitVec.ofInt IntKind.i64.bits 1).toNat = 1 from rfl, Nat.and_one_is_mod]
    omega
  unfold bitsV
  simp only
  rw [wrap_id (by omega) (by omega)]
  omega
def nilPair : List Value := [.pointer none, .pointer none, .slice none 0 0, .slice none 0 0]
def PZ (g : Bool) (w : World) (pp : Nat) (B : Nat → Prop) (f c : Nat) : Prop := PX g w pp B f c ∨ (blk w pp = some nilPair ∧ B = fun b => b = pp)
theorem PZ.ch {g : Bool} {S : Nat → Prop} {w w' : World} {pp : Nat} {B : Nat → Prop} {f c : Nat} (P : PZ g w pp B f c) (hc : Ch S w w') (hn : ∀ b, B b → ¬ S b) : PZ g w' pp B f c := by
  rcases P with P | ⟨P, rfl⟩
  · exact .inl (P.ch hc hn)
  · exact .inr ⟨by rw [hc.blk (blk_lt P) (hn pp rfl)]; exact P, rfl⟩
theorem PZ.lt {g : Bool} {w : World} {pp : Nat} {B : Nat → Prop} {f c : Nat} (P : PZ g w pp B f c) : ∀ b, B b → b < w.heap.size := by
  rcases P with P | ⟨P, rfl⟩
  · exact P.lt
  · rintro b rfl; exact blk_lt P
theorem PZ.up {g : Bool} {w : World} {pp : Nat} {B : Nat → Prop} {f c f' c' : Nat} (P : PZ g w pp B f c) (h1 : f ≤ f') (h2 : c ≤ c') : PZ g w pp B f' c' := P.imp (fun P => P.up h1 h2) id
theorem PZ.ptrs {g : Bool} {w : World} {pp : Nat} {B : Nat → Prop} {f c : Nat} (P : PZ g w pp B f c) : ∃ p q, w.cell? ⟨pp, 0, none⟩ = some (.pointer p) ∧ w.cell? ⟨pp, 1, none⟩ = some (.pointer q) ∧ ((p = none ∧ q = none) ∨ (p ≠ none ∧ q ≠ none ∧ PX g w pp B f c)) := by
  rcases P with P | ⟨P, rfl⟩
  · have P' := P
    obtain ⟨d, r, a, BD, BR, C, W, cp, cc, cb, wp, wc, wb, P, _⟩ := P
    exact ⟨_, _, P.c0, P.c1, .inr ⟨by simp, by simp, P'⟩⟩
  · exact ⟨none, none, by rw [cell_blk P]; rfl, by rw [cell_blk P]; rfl, .inl ⟨rfl, rfl⟩⟩
theorem beq_nn {p q : Option Addr} (h : p.isNone = q.isNone) : (!(p.isNone == q.isNone)) = false := by rw [h]; simp
/-- both disks of a room: there, or not there -/
theorem news_ok {w : World} {room : Int} {K : Option Addr → Option Addr → World → Prop}
    (hk : ∀ p q w', Ch (fun _ => False) w w' → ((p = none ∧ q = none) ∨ ∃ d r BD BR, p = some ⟨d, 0, none⟩ ∧ q = some ⟨r, 0, none⟩ ∧ DK w' d (newA room) BD ∧ RK w' r (newA room) BR ∧ (∀ b, BD b → w.heap.size ≤ b) ∧ (∀ b, BR b → w.heap.size ≤ b) ∧ ∀ b, BD b → ¬ BR b) → K p q w') :
    callP Try.prog 7 [.int .i64 room] w fun v1 w2 => ∃ p, v1 = .pointer p ∧ callP Try.prog 21 [.int .i64 room] w2 fun v2 w3 => ∃ q, v2 = .pointer q ∧ K p q w3 := by
  refine new_ok (fun h => ⟨_, rfl, rnew_ok (fun _ => ⟨_, rfl, hk _ _ _ (Ch.refl _ _) (.inl ⟨rfl, rfl⟩)⟩) fun h1 h2 => by omega⟩) fun h1 h2 d w1 BD D c1 n1 => ⟨_, rfl, rnew_ok (fun h => by omega) fun _ _ r w2 BR R c2 n2 => ⟨_, rfl, hk _ _ _ (c1.new c2) (.inr ⟨d, r, BD, BR, rfl, rfl, D.ch c2 fun _ _ => id, R, n1, fun b hb => ?_, fun b hb h => ?_⟩)⟩⟩
  · have := n2 b hb; have := c1.size; omega
  · have := n2 b h; have := D.lt b hb; omega
/-- a pair is laid -/
theorem pair_new {w w1 : World} {room : Int} {p q : Option Addr} {n : Nat} (h : (p = none ∧ q = none) ∨ ∃ d r BD BR, p = some ⟨d, 0, none⟩ ∧ q = some ⟨r, 0, none⟩ ∧ DK w d (newA room) BD ∧ RK w r (newA room) BR ∧ (∀ b, BD b → n ≤ b) ∧ (∀ b, BR b → n ≤ b) ∧ ∀ b, BD b → ¬ BR b)
    (hb : blk w1 w.heap.size = some [.pointer p, .pointer q, .slice none 0 0, .slice none 0 0]) (hc : Ch (fun _ => False) w w1) (hn : n ≤ w.heap.size) : ∃ B, PZ true w1 w.heap.size B 0 0 ∧ (∀ b, B b → n ≤ b) := by
  rcases h with ⟨rfl, rfl⟩ | ⟨d, r, BD, BR, rfl, rfl, D, R, h1, h2, h3⟩
  · exact ⟨_, .inr ⟨hb, rfl⟩, fun b hb => by subst hb; exact hn⟩
  · have hDl := D.lt
    have hRl := R.lt
    refine ⟨PB w.heap.size BD BR [] none none, .inl ⟨d, r, newA room, BD, BR, [], [], none, 0, none, none, 0, none, ⟨hb, D.ch hc fun _ _ => id, R.ch hc fun _ _ => id, Ow.nil, Ow.nil, by simp, by simp [cowns], by simp [cowns], ?_⟩, rfl, by simp [newA], by simp, rfl, by simp [newA], fun _ => rfl, by simp⟩, ?_⟩
    · refine List.pairwise_cons.2 ⟨fun X hX b hb hx => ?_, List.pairwise_cons.2 ⟨fun X hX b hb hx => ?_, List.pairwise_cons.2 ⟨fun X hX b hb hx => ?_, List.pairwise_cons.2 ⟨(fun X hX b hb hx => by cases hb), List.pairwise_cons.2 ⟨(fun X hX b hb hx => by cases hb), List.pairwise_singleton ..⟩⟩⟩⟩⟩
      · simp only [List.mem_cons, List.not_mem_nil, or_false] at hX
        subst hb
        rcases hX with rfl | rfl | rfl | rfl | rfl
        · have := hDl _ hx; omega
        · have := hRl _ hx; omega
        · cases hx
        · cases hx
        · simp [cowns] at hx
      · simp only [List.mem_cons, List.not_mem_nil, or_false] at hX
        rcases hX with rfl | rfl | rfl | rfl
        · exact h3 b hb hx
        · cases hx
        · cases hx
        · simp [cowns] at hx
      · simp only [List.mem_cons, List.not_mem_nil, or_false] at hX
        rcases hX with rfl | rfl | rfl
        · cases hx
        · cases hx
        · simp [cowns] at hx
    · rintro b (h | h | h | h | h | h)
      · omega
      · exact h1 b h
      · exact h2 b h
      · cases h
      · cases h
      · simp [cowns] at h
/-- both pairs -/
structure ST (w0 w : World) (k : Bool → Nat) (k2 : Nat) (g : Bool → Bool) (f c : Nat) : Prop where
  ex : ∃ B : Bool → Nat → Prop, (∀ b, PZ (g b) w (k b) (B b) f c) ∧ (∀ x, B false x → ¬ B true x) ∧ ∀ b x, B b x → w0.heap.size ≤ x ∧ x ≠ k2
  ch : Ch (fun _ => False) w0 w
  row : blk w k2 = some [.pointer (some ⟨k false, 0, none⟩), .pointer (some ⟨k true, 0, none⟩)]
theorem ST.ch0 {w0 w w' : World} {k : Bool → Nat} {k2 : Nat} {g : Bool → Bool} {f c : Nat} (S : ST w0 w k k2 g f c) (hc : Ch (fun _ => False) w w') : ST w0 w' k k2 g f c := by
  obtain ⟨B, h1, h2, h3⟩ := S.ex
  exact ⟨⟨B, fun b => (h1 b).ch hc fun _ _ => id, h2, h3⟩, S.ch.new hc, by rw [hc.blk (blk_lt S.row) id]; exact S.row⟩
theorem ST.up {w0 w : World} {k : Bool → Nat} {k2 : Nat} {g : Bool → Bool} {f c f' c' : Nat} (S : ST w0 w k k2 g f c) (h1 : f ≤ f') (h2 : c ≤ c') : ST w0 w k k2 g f' c' := by
  obtain ⟨B, q1, q2, q3⟩ := S.ex
  exact ⟨⟨B, fun b => (q1 b).up h1 h2, q2, q3⟩, S.ch, S.row⟩
/-- one of them does something -/
theorem ST.do {w0 w : World} {k : Bool → Nat} {k2 : Nat} {g : Bool → Bool} {f c : Nat} (S : ST w0 w k k2 g f c) (b : Bool) : ∃ B, PZ (g b) w (k b) B f c ∧ (∀ x, B x → w0.heap.size ≤ x) ∧
    ∀ w' B' g' f' c', PZ g' w' (k b) B' f' c' → Ch B w w' → (∀ x, B' x → B x ∨ w.heap.size ≤ x) → f ≤ f' → c ≤ c' → ST w0 w' k k2 (fun b' => if b' = b then g' else g b') f' c' := by
  obtain ⟨B, q1, q2, q3⟩ := S.ex
  refine ⟨B b, q1 b, fun x hx => (q3 b x hx).1, fun w' B' g' f' c' P' hc hB h1 h2 => ?_⟩
  have hdis : ∀ x, B (!b) x → ¬ B b x := fun x hx hb => by
    cases b with
    | false => exact q2 x hb hx
    | true => exact q2 x hx hb
  have hk2 := blk_lt S.row
  refine ⟨⟨fun b' => if b' = b then B' else B b', fun b' => ?_, fun x hx ht => ?_, fun b' x hx => ?_⟩, S.ch.trans hc fun x hx h => by have := (q3 b x h).1; omega, by rw [hc.blk hk2 fun h => (q3 b k2 h).2 rfl]; exact S.row⟩
  · by_cases hbb : b' = b
    · subst hbb; simpa using P'
    · have hnb : b' = !b := by cases b <;> cases b' <;> simp_all
      subst hnb
      show PZ (if (!b) = b then g' else g (!b)) w' (k !b) (if (!b) = b then B' else B (!b)) f' c'
      rw [if_neg hbb, if_neg hbb]
      exact ((q1 (!b)).ch hc fun x hx h => hdis x hx h).up h1 h2
  · cases b with
    | false =>
      simp only [if_true, Bool.true_eq_false, if_false] at hx ht
      rcases hB x hx with h | h
      · exact q2 x h ht
      · have := (q1 true).lt x ht; omega
    | true =>
      simp only [if_true, Bool.false_eq_true, if_false] at hx ht
      rcases hB x ht with h | h
      · exact q2 x hx h
      · have := (q1 false).lt x hx; omega
  · by_cases hbb : b' = b
    · subst hbb
      simp only [if_true] at hx
      rcases hB x hx with h | h
      · exact q3 b' x h
      · have := S.ch.size; exact ⟨by omega, by omega⟩
    · have hx' : B b' x := by simpa [hbb] using hx
      exact q3 b' x hx'
theorem ST.same {w0 w : World} {k : Bool → Nat} {k2 : Nat} {g : Bool → Bool} {b : Bool} {f c : Nat} (S : ST w0 w k k2 (fun b' => if b' = b then g b else g b') f c) : ST w0 w k k2 g f c := by
  have : (fun b' => if b' = b then g b else g b') = g := by funext b'; split <;> simp_all
  rw [this] at S; exact S
def bsel (n : Int) : Bool := n != 0
theorem ST.cell {w0 w : World} {k : Bool → Nat} {k2 : Nat} {g : Bool → Bool} {f c : Nat} (S : ST w0 w k k2 g f c) {n : Int} (hn : n = 0 ∨ n = 1) : w.cell? ⟨k2, n.toNat, none⟩ = some (.pointer (some ⟨k (bsel n), 0, none⟩)) := by
  rcases hn with rfl | rfl
  · rw [cell_blk S.row]; rfl
  · rw [cell_blk S.row]; rfl
/-- the script, with what its numbers may be -/
structure OpsU (w : World) (p : Option Addr) (ops : List OpV) : Prop where
  inn : OpsIn w p ops
  ints : ∀ o ∈ ops, (-9223372036854775808 ≤ o.n ∧ o.n ≤ 9223372036854775807) ∧ -9223372036854775808 ≤ o.m
  dat : ∀ o ∈ ops, o.dat.length ≤ 2 ^ 40
  len : ops.length ≤ 2 ^ 20
set_option maxHeartbeats 4000000 in
theorem plays_ok {w : World} {p : Option Addr} {c : Nat} {ops : List OpV} {room second : Int} {K : Value → World → Prop} (H : OpsU w p ops)
    (hk : ∀ w', Ch (fun _ => False) w w' → K (.bool true) w') : callP Try.prog 5 [.int .i64 room, .int .i64 second, .slice p ops.length c] w K := by
  have hlen := H.len
  refine ok_longshorelaw19_DiskPlays ?_
  unfold wp_longshorelaw19_DiskPlays
  refine awake_ok fun w1 c1 => ⟨_, rfl, Sif_false ?_⟩
  refine news_ok fun p0 q0 w2 c2 h0 => newB_blk fun w3 b3 c3 z3 => ?_
  have hz1 := c1.size
  have hz2 := c2.size
  obtain ⟨B0, P0, hB0⟩ := pair_new h0 b3 c3 hz2
  refine news_ok fun p1 q1 w4 c4 h1 => newB_blk fun w5 b5 c5 z5 => newB_blk fun w6 b6 c6 z6 => ?_
  have hz4 := c4.size
  obtain ⟨B1, P1, hB1⟩ := pair_new h1 b5 c5 hz4
  have hP0l := P0.lt
  have hP1l := P1.lt
  have hc36 : Ch (fun _ => False) w3 w6 := (c4.new c5).new c6
  have S6 : ST w w6 (fun b => if b then w4.heap.size else w2.heap.size) w5.heap.size (fun _ => true) 0 0 := by
    refine ⟨⟨fun b => if b then B1 else B0, fun b => ?_, fun x hx ht => ?_, fun b x hx => ?_⟩, (((((c1.new c2).new c3).new c4).new c5).new c6), b6⟩
    · cases b with
      | false => exact P0.ch hc36 fun _ _ => id
      | true => exact P1.ch c6 fun _ _ => id
    · have h1 := hP0l x hx
      have h2 := hB1 x ht
      omega
    · cases b with
      | false => have h1 := hP0l x hx; have h2 := hB0 x hx; exact ⟨by omega, by omega⟩
      | true => have h1 := hP1l x hx; have h2 := hB1 x hx; exact ⟨by omega, by omega⟩
  generalize hkk : (fun b : Bool => if b then w4.heap.size else w2.heap.size) = k at S6
  generalize w5.heap.size = k2 at S6
  clear b6 z6 c6 b5 c5 P1 hP1l hB1 P0 hP0l hB0 b3 c3 hc36 h0 h1 z3 z5 c4 hz4 c2 hz2 c1 hz1 hkk
  -- both are there, or none
  refine ⟨fun m n w' => ∃ i : Nat, n = i ∧ i ≤ 2 ∧ m = 2 - i ∧ ST w w' k k2 (fun _ => true) 0 0, ⟨2, 0, rfl, by omega, by omega, S6⟩, ?_⟩
  rintro m n w7 ⟨i, rfl, hi, rfl, S⟩
  refine Sif_cases (fun g => ?_) fun g => ?_
  · have hi2 : i < 2 := by have := of_decide_eq_true g; omega
    have Sd := S.ch0 (Ch.drew (S := fun _ => False) w7)
    have hcell := Sd.cell (n := (i : Int)) (by omega)
    obtain ⟨B, q1, q2, q3⟩ := Sd.ex
    obtain ⟨pd, pr, e1, e2, e3⟩ := (q1 (bsel (i : Int))).ptrs
    simp only [add_at, Nat.zero_add, Nat.mul_one]
    refine ⟨by omega, by omega, by omega, by omega, _, hcell, ?_⟩
    simp only [nn_some, add_at, Nat.zero_add]
    refine ⟨_, e1, _, hcell, ?_⟩
    simp only [nn_some, add_at, Nat.zero_add]
    refine ⟨_, e2, ?_⟩
    rw [beq_nn (by
      rcases e3 with ⟨rfl, rfl⟩ | ⟨h1, h2, _⟩
      · rfl
      · cases pd <;> cases pr <;> simp_all)]
    refine Sif_false ?_
    rw [nameI_iff, wrap_id (by omega) (by omega)]
    exact ⟨2 - (i + 1), by omega, i + 1, by simp, by omega, rfl, Sd⟩
  clear g
  refine ⟨fun m n w' => ∃ i : Nat, n = i ∧ i ≤ ops.length ∧ m = ops.length - i ∧ ST w w' k k2 (fun _ => true) i (tri i), ⟨ops.length, 0, rfl, by omega, by omega, S⟩, ?_⟩
  clear S S6 hi
  rintro m n w8 ⟨i, rfl, hi, rfl, S⟩
  have htri := tri_le (n := i) (by omega)
  refine Sif_cases (fun g => ?_) fun g => ?_
  · have hlt : i < ops.length := by have := of_decide_eq_true g; omega
    have hio : ops[i]? = some ops[i] := List.getElem?_eq_getElem hlt
    have hom := List.mem_of_getElem? hio
    generalize ops[i] = o at hio hom
    obtain ⟨hod, hol, hon, hot⟩ := H.inn.each o hom
    obtain ⟨⟨hn1, hn2⟩, hm1⟩ := H.ints o hom
    have hdl := H.dat o hom
    refine ⟨fun w' => ST w w' k k2 (fun _ => true) (i + 1) (tri (i + 1)), fun w9 S9 => ?_, by omega, by omega, ?_⟩
    · rw [nameI_iff, wrap_id (by omega) (by omega)]
      exact ⟨ops.length - (i + 1), by omega, i + 1, by simp, by omega, rfl, S9⟩
    obtain ⟨sb, so, rfl, hc⟩ := Rd.at OpV.cells_len (H.inn.row.ch S.ch fun _ _ _ => id) hio (by omega)
    simp only [nn_some, add_at, Int.toNat_natCast]
    have hbits := bits01 o.on
    refine ⟨_, hc 1 _ rfl, by omega, by omega, ?_⟩
    have hcell := S.cell hbits
    obtain ⟨B, PZ0, hB0, hdo⟩ := S.do (bsel (bitsV .and .i64 o.on 1))
    generalize hbb : bsel (bitsV .and .i64 o.on 1) = b at *
    simp only [Nat.mul_one, Nat.zero_add]
    refine ⟨_, hcell, ?_⟩
    simp only [nn_some, add_at, Nat.zero_add]
    obtain ⟨pd, pr, e1, e2, e3⟩ := PZ0.ptrs
    refine ⟨fun w' => w' = w8 ∧ PX true w8 (k b) B i (tri i), ?_, _, e1, ?_⟩
    · rintro w9 ⟨rfl, PX0⟩
      refine ⟨by omega, by omega, _, by simpa using hc 0 _ rfl, _, hc 1 _ rfl, _, hc 2 _ rfl, _, hc 3 _ rfl, _, hc 4 _ rfl, _, hc 5 _ rfl, _, _, _, hc 6 _ rfl, ?_⟩
      refine play_ok (o := o) PX0 (by omega) (by omega) (hod.ch S.ch fun _ _ _ => id) hdl hon hot (fun q hq h0 hB => ?_) hn2 hn1 hm1 fun w10 B10 PX10 c10 n10 => ⟨_, rfl, ?_⟩
      · have h1 := hod.lt q hq (by omega)
        have h2 := hB0 _ hB
        omega
      obtain ⟨d, r, a, BD, BR, C, W, cp, cc, cb, wp, wc, wb, P, hBe, haf, hrest⟩ := PX10
      have P' := P
      refine ⟨_, P.c0, up_ok P.dk fun w11 BD11 D11 c11 n11 => ⟨_, rfl, Sif_true ?_⟩⟩
      have P11 := P.setD D11 c11 n11
      refine ⟨_, P11.c1, rup_ok P11.rk ⟨_, rfl, ?_⟩⟩
      rw [beq_self_eq_true]
      refine Sif_false ?_
      have hsub := PB_sub (pp := k b) (BD := BD) (BR := BR) (BD' := BD11) (BR' := BR) (C := C) (C' := C) (cb := cb) (wb := wb) (cb' := cb) (wb' := wb) n11 (fun b h => .inl h) (fun b h => .inl h) (fun b h => .inl h) fun b h => .inl h
      have := hdo w11 (PB (k b) BD11 BR C cb wb) true (i + 1) (tri i + i + 1) (.inl ⟨d, r, a, BD11, BR, C, W, cp, cc, cb, wp, wc, wb, P11, rfl, haf, hrest⟩) (c10.trans c11 fun x hx h => (n10 x (hBe ▸ .inr (.inl h))).resolve_right (by omega)) (fun x hx => by
        rcases hsub x hx with h | h
        · rw [← hBe] at h; exact n10 x h
        · have := c10.size; exact .inr (by omega)) (by omega) (by omega)
      exact ST.same (g := fun _ => true) (b := b) this
    · rcases e3 with ⟨rfl, rfl⟩ | ⟨h1, h2, PX0⟩
      · exact Sif_false (S.up (by omega) (by simp only [tri]; omega))
      · have e4 : pd.isNone = false := by cases pd <;> simp_all
        have e5 : pr.isNone = false := by cases pr <;> simp_all
        rw [e4]
        refine Sif_true ⟨_, e2, ?_⟩
        rw [e5]
        exact ⟨rfl, PX0⟩
  · have hge : i = ops.length := by have := of_decide_eq_false g; omega
    subst hge
    clear g
    -- all files in the end; what came out is its owner's
    refine ⟨fun m n w' => ∃ j : Nat, n = j ∧ j ≤ 2 ∧ m = 2 - j ∧ ∃ g : Bool → Bool, (j = 0 → g false = true) ∧ (j ≤ 1 → g true = true) ∧ ST w w' k k2 g ops.length (tri ops.length + 2 * j * ops.length), ⟨2, 0, rfl, by omega, by omega, fun _ => true, fun _ => rfl, fun _ => rfl, by simpa using S⟩, ?_⟩
    rintro m n w9 ⟨j, rfl, hj, rfl, g, hg0, hg1, S9⟩
    refine Sif_cases (fun q => ?_) fun q => hk w9 S9.ch
    have hj2 : j < 2 := by have := of_decide_eq_true q; omega
    have hbs : ((j : Int) = 0 ∨ (j : Int) = 1) := by omega
    have hcell := S9.cell hbs
    obtain ⟨B, PZ0, hB0, hdo⟩ := S9.do (bsel (j : Int))
    have hgb : g (bsel (j : Int)) = true := by
      rcases hbs with h | h
      · have h0 : j = 0 := by omega
        subst h0; exact hg0 rfl
      · have h0 : j = 1 := by omega
        subst h0; exact hg1 (by omega)
    rw [hgb] at PZ0
    have hmul : 2 * j * ops.length ≤ 2 * ops.length := by
      rcases hbs with h | h
      · have h0 : j = 0 := by omega
        subst h0; omega
      · have h0 : j = 1 := by omega
        subst h0; omega
    have hmul2 : 2 * (j + 1) * ops.length = 2 * j * ops.length + 2 * ops.length := by rw [Nat.mul_add, Nat.add_mul]
    have next : ∀ w', (∃ g : Bool → Bool, (j + 1 ≤ 1 → g true = true) ∧ ST w w' k k2 g ops.length (tri ops.length + 2 * (j + 1) * ops.length)) → nameI (IntKind.wrap .i64 ((j : Int) + 1)) fun n3 => ∃ m', m' < 2 - j ∧ ∃ j' : Nat, n3 = j' ∧ j' ≤ 2 ∧ m' = 2 - j' ∧ ∃ g : Bool → Bool, (j' = 0 → g false = true) ∧ (j' ≤ 1 → g true = true) ∧ ST w w' k k2 g ops.length (tri ops.length + 2 * j' * ops.length) := by
      rintro w' ⟨g, h1, h2⟩
      rw [nameI_iff, wrap_id (by omega) (by omega)]
      exact ⟨2 - (j + 1), by omega, j + 1, by simp, by omega, rfl, g, fun h => by omega, h1, h2⟩
    refine ⟨fun w' => ∃ g : Bool → Bool, (j + 1 ≤ 1 → g true = true) ∧ ST w w' k k2 g ops.length (tri ops.length + 2 * (j + 1) * ops.length), next, by omega, by omega, ?_⟩
    simp only [add_at, Nat.zero_add, Nat.mul_one]
    refine ⟨_, hcell, ?_⟩
    simp only [nn_some, add_at, Nat.zero_add]
    obtain ⟨pd, pr, e1, e2, e3⟩ := PZ0.ptrs
    refine ⟨_, e1, ?_⟩
    rcases e3 with ⟨rfl, rfl⟩ | ⟨h1, h2, PX0⟩
    · exact Sif_false ⟨g, fun h => hg1 (by omega), S9.up (Nat.le_refl _) (by omega)⟩
    have e4 : pd.isNone = false := by cases pd <;> simp_all
    rw [e4]
    refine Sif_true ⟨by omega, by omega, _, hcell, pfiles_ok PX0 (by omega) (by omega) fun w10 B10 P10 c10 n10 => ⟨_, rfl, by omega, by omega, ?_⟩⟩
    have S10 := hdo w10 B10 true _ _ (.inl P10) c10 n10 (Nat.le_refl _) (by omega)
    refine ⟨_, S10.cell hbs, powned_ok P10 (by omega) fun w11 B11 P11 c11 n11 => ⟨_, rfl, by omega, by omega, ?_⟩⟩
    have hz10 := c10.size
    have c911 : Ch B w9 w11 := c10.trans c11 fun x hx h => (n10 x h).resolve_right (by omega)
    have n911 : ∀ x, B11 x → B x ∨ w9.heap.size ≤ x := fun x hx => by
      rcases n11 x hx with h | h
      · exact n10 x h
      · exact .inr (by omega)
    have S11 := hdo w11 B11 false _ _ (.inl P11) c911 n911 (Nat.le_refl _) (by omega)
    refine ⟨_, S11.cell hbs, pfiles_ok P11 (by omega) (by omega) fun w12 B12 P12 c12 n12 => ⟨_, rfl, Sif_true (Sif_true (Sif_false ?_))⟩⟩
    have hz11 := c911.size
    have S12 := hdo w12 B12 false _ (tri ops.length + 2 * (j + 1) * ops.length) (.inl (P12.up (Nat.le_refl _) (by omega))) (c911.trans c12 fun x hx h => (n911 x h).resolve_right (by omega)) (fun x hx => by
      rcases n12 x hx with h | h
      · exact n911 x h
      · exact .inr (by omega)) (Nat.le_refl _) (by omega)
    refine ⟨_, fun h => ?_, S12⟩
    have h0 : j = 0 := by omega
    subst h0
    rw [if_neg (by decide)]
    exact hg1 (by omega)
end Go.Proofs.Ytncbmfinndcojaa
