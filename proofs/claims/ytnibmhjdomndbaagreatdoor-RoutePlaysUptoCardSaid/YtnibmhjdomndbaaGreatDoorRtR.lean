/-
  The program's Covers.
-/
import Derived.Test.YtnibmhjdomndbaaGreatDoorRtP
import Derived.Test.YtnibmhjdomndbaaGreatDoorRtN
import Derived.Test.YtnibmhjdomndbaaGreatDoorRtH
namespace Go.Proofs.YtnibmhjdomndbaaGreatDoor
open Go Go.Sv Go.Rt
set_option linter.unusedVariables false
theorem Clo_le {p : List ByteArray} {I J : Nat → Prop} {n : Nat} (h : ∀ k, k ≤ n → (I k ↔ J k)) : ∀ k, k ≤ n → (Clo p I k ↔ Clo p J k)
  | 0, _ => h 0 (Nat.zero_le _)
  | k + 1, hk => by simp only [Clo, h (k + 1) hk, Clo_le h k (by omega)]
theorem Stp_le {p : List ByteArray} {A B : Nat → Prop} {w : ByteArray} {n : Nat} (h : ∀ k, k ≤ n → (A k ↔ B k)) : ∀ k, k ≤ n → (Stp p A w k ↔ Stp p B w k)
  | 0, _ => by simp only [Stp, h 0 (Nat.zero_le _)]
  | k + 1, hk => by simp only [Stp, h (k + 1) hk, h k (by omega)]
/-- where a word leads depends on the places alone -/
theorem step_same {p us vs : List ByteArray} {a a' : Nat} {y : ByteArray} (h : IsSet a p.length (At p us)) (k : IsSet a p.length (At p vs)) (h' : IsSet a' p.length (At p (us ++ [y]))) : IsSet a' p.length (At p (vs ++ [y])) := h'.congr fun j hj => by
  rw [← At_step p us y j hj, ← At_step p vs y j hj]
  refine Clo_le (n := p.length) (fun i hi => Stp_le (n := p.length) (fun m hm => ?_) i hi) j hj
  constructor
  · intro g; exact ((k m).1 ((h m).2 ⟨hm, g⟩)).2
  · intro g; exact ((h m).1 ((k m).2 ⟨hm, g⟩)).2
/-- what is done for a pair x, with the words V -/
def Dn (p q V : List ByteArray) (ks : List Value) (x : Value) : Prop := ∀ y ∈ V, ∀ us a b a' b', x = pv a b → IsSet a p.length (At p us) → IsSet b q.length (At q us) → IsSet a' p.length (At p (us ++ [y])) → IsSet b' q.length (At q (us ++ [y])) → (b' ≠ 0 → pv a' b' ∈ ks) ∧ (b'.testBit q.length = true → a'.testBit p.length = true)
theorem Dn.more {p q V : List ByteArray} {ks ks' : List Value} {x : Value} (h : Dn p q V ks x) (hs : ∀ k ∈ ks, k ∈ ks') : Dn p q V ks' x := fun y hy us a b a' b' h1 h2 h3 h4 h5 => ⟨fun h6 => hs _ ((h y hy us a b a' b' h1 h2 h3 h4 h5).1 h6), (h y hy us a b a' b' h1 h2 h3 h4 h5).2⟩
theorem pv_inj {a b c d : Nat} (h : pv a b = pv c d) : a = c ∧ b = d := by
  simp only [pv, Value.agg.injEq, Array.mk.injEq, List.cons.injEq, Value.int.injEq, true_and, and_true] at h
  constructor <;> omega
theorem Dn.word {p q V : List ByteArray} {ks : List Value} {us : List ByteArray} {a b a' b' : Nat} {y : ByteArray} (h : Dn p q V ks (pv a b)) (ha : IsSet a p.length (At p us)) (hb : IsSet b q.length (At q us)) (ha' : IsSet a' p.length (At p (us ++ [y]))) (hb' : IsSet b' q.length (At q (us ++ [y])))
    (h1 : b' ≠ 0 → pv a' b' ∈ ks) (h2 : b'.testBit q.length = true → a'.testBit p.length = true) : Dn p q (V ++ [y]) ks (pv a b) := by
  intro z hz vs c d c' d' e g1 g2 g3 g4
  rcases List.mem_append.1 hz with hz | hz
  · exact h z hz vs c d c' d' e g1 g2 g3 g4
  · rw [List.mem_singleton.1 hz] at g3 g4
    obtain ⟨rfl, rfl⟩ := pv_inj e
    obtain rfl : a' = c' := (step_same ha g1 ha').inj g3
    obtain rfl : b' = d' := (step_same hb g2 hb').inj g4
    exact ⟨h1, h2⟩
/-- up to n words of W no topic shows that it doesn't cover -/
def Good (p q W : List ByteArray) (n : Nat) : Prop := ∀ ws : List ByteArray, (∀ y ∈ ws, y ∈ W) → 1 ≤ ws.length → ws.length ≤ n → Rt.Mp q ws → Rt.Mp p ws
theorem Good.next {p q W : List ByteArray} {n : Nat} {ks ks' : List Value} (h : Good p q W n) (hl : Lay p q W n ks) (hd : ∀ x ∈ ks, Dn p q W ks' x) : Good p q W (n + 1) := by
  intro ws hw h1 h2 hq
  by_cases hn : ws.length ≤ n
  · exact h ws hw h1 hn hq
  obtain ⟨us, y, rfl⟩ : ∃ us y, ws = us ++ [y] := by
    have hne : ws ≠ [] := fun e => by rw [e] at h1; simp at h1
    exact ⟨ws.dropLast, ws.getLast hne, (List.dropLast_concat_getLast hne).symm⟩
  have hul : us.length = n := by simp at h2 hn; omega
  obtain ⟨a, ga⟩ := ex_set (At p us) p.length
  obtain ⟨b, gb⟩ := ex_set (At q us) q.length
  obtain ⟨a', ga'⟩ := ex_set (At p (us ++ [y])) p.length
  obtain ⟨b', gb'⟩ := ex_set (At q (us ++ [y])) q.length
  have huw : ∀ z ∈ us, z ∈ W := fun z hz => hw z (by simp [hz])
  have hat : At q (us ++ [y]) q.length := (At_end _ _).2 hq
  have hb0 : b ≠ 0 := fun e => by
    subst e
    exact At_none (w := y) (fun k hk => gb.zero k hk) q.length (Nat.le_refl _) hat
  have := (hd _ (hl.2 us a b hul huw ga gb hb0) y (hw y (by simp)) us a b a' b' rfl ga gb ga' gb').2 ((gb' _).2 ⟨Nat.le_refl _, hat⟩)
  exact (At_end _ _).1 ((ga' _).1 this).2
theorem bit_test {a n : Nat} (ha : a < 65536) (hn : n ≤ 8) : (bitsV .and .u16 (a : Int) (IntKind.wrap .u16 ((1 : Int) * (2 : Int) ^ min (Int.toNat (n : Int)) 16)) != 0) = a.testBit n := by
  rw [Int.toNat_natCast, Nat.min_eq_left (by omega), Int.one_mul, show ((2 : Int) ^ n) = ((2 ^ n : Nat) : Int) by simp, wrap_u16 (Int.natCast_nonneg _) (Int.ofNat_lt.2 (pow_small hn)), and_u16 ha (pow_small hn)]
  rw [Bool.eq_iff_iff, bne_iff_ne]
  have h := and_bit (a := a) (k := n)
  cases hb : a.testBit n
  · simp [h.2 hb]
  · simp only [iff_true]
    intro e
    have e : a &&& 2 ^ n = 0 := by omega
    rw [h.1 e] at hb; cases hb
theorem bit_test0 {a n : Nat} (ha : a < 65536) (hn : n ≤ 8) : (bitsV .and .u16 (a : Int) (IntKind.wrap .u16 ((1 : Int) * (2 : Int) ^ min (Int.toNat (n : Int)) 16)) == 0) = !a.testBit n := by
  rw [← bit_test ha hn, bne, Bool.not_not]
theorem agg_two {x y : Value} {K : List Value → Prop} (h : K [x, y]) : asAggV (nat_lit 2) (.agg #[x, y]) K := by
  show asAggC 2 #[x, y] K
  unfold asAggC
  rw [if_pos (show (#[x, y] : Array Value).toList.length = 2 from rfl)]
  exact h
/-- the end of a round: what stands in the new pair -/
def covTail (n n1 : Nat) (r1 : Option Nat) (J1 : World → Prop) (K : Value → World → Prop) (a4 : Addr) (w24 : World) : Prop :=
  ∃ (J2 : World → Prop), (∀ (w25 : World), J2 w25 → ∃ (n13 : Int), World.cell? w25 (Addr.add a4 (1 : Nat)) = some (Value.int IntKind.u16 n13) ∧ Sif (n13 != (0 : Int)) (∃ (n14 : Int), World.cell? w25 (Addr.add a4 (0 : Nat)) = some (Value.int IntKind.u16 n14) ∧ ∃ (n15 : Int), World.cell? w25 (Addr.add a4 (1 : Nat)) = some (Value.int IntKind.u16 n15) ∧ runU Tryz.prog (Instr.mapUpdate 72 (Value.map r1) (Value.agg (Array.mk [Value.int IntKind.u16 n14, Value.int IntKind.u16 n15])) (Value.agg (Array.mk []))) w25 fun (w26 : World) => J1 w26) (J1 w25)) ∧ (0 : Int) ≤ (↑n1 : Int) ∧ ∃ (n13 : Int), World.cell? (World.drew w24) (Addr.add a4 (1 : Nat)) = some (Value.int IntKind.u16 n13) ∧ Sif (bitsV BinOp.and IntKind.u16 n13 (IntKind.wrap IntKind.u16 ((1 : Int) * (2 : Int) ^ min (Int.toNat (↑n1 : Int)) (16 : Nat))) != (0 : Int)) ((0 : Int) ≤ (↑n : Int) ∧ ∃ (n14 : Int), World.cell? (World.drew w24) (Addr.add a4 (0 : Nat)) = some (Value.int IntKind.u16 n14) ∧ Sif (bitsV BinOp.and IntKind.u16 n14 (IntKind.wrap IntKind.u16 ((1 : Int) * (2 : Int) ^ min (Int.toNat (↑n : Int)) (16 : Nat))) == (0 : Int)) (K (Value.tuple (Array.mk [Value.bool false, Value.int IntKind.i64 (0 : Int)])) (World.drew w24)) (J2 (World.drew w24))) (J2 (World.drew w24))
theorem covTail_ok {n n1 r k a b : Nat} {m : List (Value × Value)} {J1 : World → Prop} {K : Value → World → Prop} {w : World} (hb : blk w k = some [.int .u16 (a : Int), .int .u16 (b : Int)]) (hm : MpK (Is2 isU16V isU16V) w r m) (ha : a < 65536) (hb2 : b < 65536) (hn : n ≤ 8) (hn1 : n1 ≤ 8)
    (hbad : b.testBit n1 = true → a.testBit n = false → ∀ w', Ch (fun _ => False) w w' → K (.tuple #[.bool false, .int .i64 0]) w')
    (h0 : (b.testBit n1 = true → a.testBit n = true) → b = 0 → ∀ w', Ch (fun _ => False) w w' → J1 w')
    (h1 : (b.testBit n1 = true → a.testBit n = true) → b ≠ 0 → ∀ w' m', MpK (Is2 isU16V isU16V) w' r m' → Ch (· = r) w w' → ((∃ l1 v0 l2, m = l1 ++ (pv a b, v0) :: l2 ∧ m' = l1 ++ (pv a b, .agg #[]) :: l2) ∨ m' = m ++ [(pv a b, .agg #[])]) → J1 w') :
    covTail n n1 (some r) J1 K ⟨k, 0, none⟩ w := by
  unfold covTail
  have c0 : ∀ w', Ch (fun _ => False) w w' → World.cell? w' (Addr.add ⟨k, 0, none⟩ 0) = some (.int .u16 (a : Int)) ∧ World.cell? w' (Addr.add ⟨k, 0, none⟩ 1) = some (.int .u16 (b : Int)) := fun w' c => by
    have : blk w' k = some [.int .u16 (a : Int), .int .u16 (b : Int)] := by rw [c.blk (blk_lt hb) id]; exact hb
    exact ⟨by simpa using cell_blk this 0, by simpa using cell_blk this 1⟩
  have d : Ch (fun _ => False) w w.drew := Ch.d0
  refine ⟨fun w25 => w25 = w.drew ∧ (b.testBit n1 = true → a.testBit n = true), ?_, by omega, _, (c0 _ d).2, ?_⟩
  · rintro w25 ⟨rfl, hg⟩
    refine ⟨_, (c0 _ d).2, Sif_cases (fun h => ⟨_, (c0 _ d).1, _, (c0 _ d).2, ?_⟩) fun h => ?_⟩
    · have hb0 : b ≠ 0 := by have := bne_iff_ne.1 h; omega
      obtain ⟨w5, m', u1, u2, u3, u4, u5⟩ := updateK_run Tryz.underlying72 pair_kl ((MpK_drew _ _ _ _).2 hm) (pv_is a b) (.agg #[])
      exact ⟨w5, u1, h1 hg hb0 w5 m' u2 (((d.mono (S' := (· = r)) fun _ _ g => g.elim)).trans' u3) (u5.imp id fun g => g.2)⟩
    · have hb0 : b = 0 := by have := bne_eq_false_iff_eq.1 h; omega
      exact h0 hg hb0 _ d
  · rw [bit_test hb2 hn1]
    refine Sif_cases (fun h => ⟨by omega, _, (c0 _ d).1, ?_⟩) fun h => ⟨rfl, fun g => by rw [h] at g; cases g⟩
    rw [bit_test0 ha hn]
    refine Sif_cases (fun h2 => ?_) fun h2 => ⟨rfl, fun _ => by simpa using h2⟩
    exact hbad h (by simpa using h2) _ d
set_option maxHeartbeats 8000000 in
theorem covers_prog {a b : ByteArray} {w : World} {K : Value → World → Prop} (ha : a.size ≤ 2 ^ 40) (hb : b.size ≤ 2 ^ 40) (hk : ∀ r e w', CovR a b r e → Ch (fun _ => False) w w' → K (.tuple #[.bool r, .int .i64 e]) w') :
    callP Tryz.prog 12 [.string a, .string b] w K := by
  refine ok_route_Covers ?_
  unfold wp_route_Covers
  refine cut_ok ha (fun hf w1 C1 => ⟨_, _, _, rfl, cut_ok hb (fun hg w2 C2 => ⟨_, _, _, rfl, fun w3 => w3 = w2, ?_, Sif_true (Sif_false rfl)⟩) fun hg w2 c2 => ⟨_, _, _, rfl, fun _ => False, fun _ h => h.elim, Sif_true (Sif_true (hk _ _ _ (.inl ⟨fun g => (by have := hg.symm.trans g.2; cases this), rfl, rfl⟩) (C1.1.ch.trans' c2)))⟩⟩)
    fun hf w1 c1 => ⟨_, _, _, rfl, ?_⟩
  rotate_left
  · refine cut_ok hb (fun hg w2 C2 => ⟨_, _, _, rfl, fun _ => False, fun _ h => h.elim, Sif_false ?_⟩) fun hg w2 c2 => ⟨_, _, _, rfl, fun _ => False, fun _ h => h.elim, Sif_false ?_⟩
    · exact hk _ _ _ (.inl ⟨fun g => (by have := hf.symm.trans g.1; cases this), rfl, rfl⟩) (c1.trans' C2.1.ch)
    · exact hk _ _ _ (.inl ⟨fun g => (by have := hf.symm.trans g.1; cases this), rfl, rfl⟩) (c1.trans' c2)
  rintro w3 rfl
  have hpa : isPat a = true := hf
  have hpb : isPat b = true := hg
  have la := pat_len hpa
  have lb := pat_len hpb
  refine newB_blk fun w4 b4 c4 z4 => ?_
  have N4 : Nw w3 w4 (some ⟨w3.heap.size, 0, none⟩) 1 (some w3.heap.size) [none0] := ⟨⟨rfl, Nat.le_refl _, .inr ⟨_, 0, _, rfl, rfl, b4, by simp, by simp [sCell, none0]⟩⟩, fun k hk => by cases hk; exact Nat.le_refl _, c4⟩
  have RA3 := Rd_d C1.1.rd C2.1.ch
  refine N4.app (M := parts a) (Rd_d RA3 c4) (by have : [none0].length = 1 := rfl; omega) fun p5 c5 b5 w5 N5 => ?_
  refine N5.app (M := parts b) (Rd_d C2.1.rd N5.ch) (by simp only [List.length_append, List.length_cons, List.length_nil]; omega) fun p6 c6 b6 w6 N6 => ?_
  obtain ⟨k6, rfl⟩ := N6.some (by simp)
  have h6 := N6.new k6 rfl
  refine delete_ok N6.ow (by simp; omega) fun w7 O7 c7 => ⟨_, _, _, rfl, ?_⟩
  generalize hW : (([none0] ++ parts a ++ parts b).filter fun x => !isWild x) = W at *
  have ch37 : Ch (fun _ => False) w3 w7 := N6.ch.trans c7 fun x hx e => by rw [e] at hx; omega
  have hWm : ∀ y, y ∈ W ↔ ((Wd (parts a) y ∨ Wd (parts b) y) ∨ y = none0) := fun y => by
    rw [← hW]
    simp only [List.mem_filter, List.mem_append, List.mem_singleton, isWild, Bool.not_eq_true', Bool.or_eq_false_iff, beq_eq_false_iff_ne, Wd]
    constructor
    · rintro ⟨(h | h) | h, h1, h2⟩
      · exact .inr h
      · exact .inl (.inl ⟨h, h1, h2⟩)
      · exact .inl (.inr ⟨h, h1, h2⟩)
    · rintro ((⟨h, h1, h2⟩ | ⟨h, h1, h2⟩) | h)
      · exact ⟨.inl (.inr h), h1, h2⟩
      · exact ⟨.inr h, h1, h2⟩
      · exact ⟨.inl (.inl h), by rw [h]; exact none0_ne.2, by rw [h]; exact none0_ne.1⟩
  have hWl : W.length ≤ 2 ^ 40 := by
    have : W.length ≤ ([none0] ++ parts a ++ parts b).length := by rw [← hW]; exact List.length_filter_le ..
    simp at this; omega
  have RA := Rd_d RA3 ch37
  have RB := Rd_d C2.1.rd ch37
  have RW := O7.rd
  have ch07 : Ch (fun _ => False) w w7 := C1.1.ch.trans' (C2.1.ch.trans' ch37)
  clear N4 N5 N6 O7 c7 b4 c4 z4 hW RA3
  have key : Cov (parts a) (parts b) ↔ Good (parts a) (parts b) W 8 := by
    have kA : Known (fun y => Wd (parts a) y ∨ Wd (parts b) y) (parts a) := fun x hx => ⟨(pat_known hpa x hx).1, (pat_known hpa x hx).2.imp id (Or.imp id .inl)⟩
    have kB : Known (fun y => Wd (parts a) y ∨ Wd (parts b) y) (parts b) := fun x hx => ⟨(pat_known hpb x hx).1, (pat_known hpb x hx).2.imp id (Or.imp id .inr)⟩
    rw [cov_words kA kB]
    exact ⟨fun h ws hw h1 h2 => h ws (fun y hy => (hWm y).1 (hw y hy)) h1 h2, fun h ws hw h1 h2 => h ws (fun y hy => (hWm y).2 (hw y hy)) h1 h2⟩
  obtain ⟨w8, r8, m8, c8, z8⟩ := makeMapK_run Tryz.prog 72 (Is2 isU16V isU16V) w7
  refine ⟨_, w8, r8, wide_ok (a := 1) (I := (· = 0)) (Rd_d RA c8) la (IsSet.one _) fun a0 ha0 => ⟨_, rfl, wide_ok (a := 1) (I := (· = 0)) (Rd_d RB c8) lb (IsSet.one _) fun b0 hb0 => ⟨_, rfl, ?_⟩⟩⟩
  have ha0 : IsSet a0 (parts a).length (At (parts a) []) := ha0.congr fun k hk => At_start _ k hk
  have hb0 : IsSet b0 (parts b).length (At (parts b) []) := hb0.congr fun k hk => At_start _ k hk
  obtain ⟨w11, m11, u1, u2, u3, u4, u5⟩ := updateK_run Tryz.underlying72 pair_kl m8 (pv_is a0 b0) (.agg #[])
  refine ⟨w11, u1, ?_⟩
  have hm11 : m11 = [(pv a0 b0, .agg #[])] := by
    rcases u5 with ⟨l1, v0, l2, e, _⟩ | ⟨_, e⟩
    · have := congrArg List.length e; simp at this
    · exact e
  have c711 : Ch (fun _ => False) w7 w11 := c8.trans u3 fun x hx e => by rw [e] at hx; omega
  refine ⟨fun m p5 n7 w12 => ∃ (i r : Nat) (mm : List (Value × Value)), p5 = some r ∧ n7 = (i : Int) ∧ m + i = 8 ∧ MpK (Is2 isU16V isU16V) w12 r mm ∧ w7.heap.size ≤ r ∧ Lay (parts a) (parts b) W i (mm.map (·.1)) ∧ Good (parts a) (parts b) W i ∧ Ch (fun _ => False) w7 w12,
    ⟨8, 0, w7.heap.size, m11, rfl, rfl, rfl, u2, Nat.le_refl _, ⟨?_, ?_⟩, fun ws _ h1 h2 => by omega, c711⟩, ?_⟩
  · rw [hm11]
    intro k hk
    exact ⟨[], a0, b0, rfl, by simp, by simpa using hk, ha0, hb0⟩
  · rw [hm11]
    intro ws c d hl _ hc hd _
    have hws : ws = [] := List.eq_nil_of_length_eq_zero hl
    subst hws
    rw [ha0.inj hc, hb0.inj hd]; simp
  rintro m p5 n7 w12 ⟨i, r, mm, rfl, rfl, hm, M12, hr7, hLay, hGood, c12⟩
  refine Sif_cases (fun h => ?_) fun h => ?_
  rotate_left
  · have h := of_decide_eq_false h
    have hi : i = 8 := by omega
    subst hi
    exact hk _ _ _ (.inr ⟨hpa, hpb, rfl, by simpa using key.2 hGood⟩) (ch07.trans' c12)
  have h := of_decide_eq_true h
  obtain ⟨w13, r13, m13, c13, z13⟩ := makeMapK_run Tryz.prog 72 (Is2 isU16V isU16V) w12
  obtain ⟨w14, r14, i14, c14, z14⟩ := rangeK_run Tryz.underlying72 (M12.ch c13 id)
  refine ⟨_, w13, r13, _, w14, r14, ?_⟩
  have hs7 := c12.size
  have hlt := M12.lt
  have hr1 : w12.heap.size ≠ w13.heap.size := by omega
  generalize hR1 : w12.heap.size = R at *
  generalize hIT : w13.heap.size = T at *
  refine ⟨fun m1 w15 => ∃ (left mm' : List (Value × Value)), m1 = left.length ∧ ItK (Is2 isU16V isU16V) w15 T r mm left ∧ MpK (Is2 isU16V isU16V) w15 R mm' ∧
      (∀ k ∈ mm'.map (·.1), ∃ ws y c d, ws.length = i ∧ (∀ y ∈ ws, y ∈ W) ∧ y ∈ W ∧ k = pv c d ∧ IsSet c (parts a).length (At (parts a) (ws ++ [y])) ∧ IsSet d (parts b).length (At (parts b) (ws ++ [y]))) ∧
      (∀ x ∈ mm.map (·.1), (∃ v, (x, v) ∈ left) ∨ Dn (parts a) (parts b) W (mm'.map (·.1)) x) ∧ Ch (fun _ => False) w7 w15 ∧ R < w15.heap.size ∧ T < w15.heap.size,
    ⟨_, mm, [], rfl, i14, m13.ch c14 id, by simp, fun x hx => ?_, c12.trans' (c13.trans' c14), by omega, by omega⟩, ?_⟩
  · obtain ⟨⟨k, v⟩, hkv, rfl⟩ := List.mem_map.1 hx
    exact .inl ⟨v, hkv⟩
  rintro m1 w15 ⟨left, mm', rfl, IT, MR, hSnd, hDone, c15, hR15, hT15⟩
  rcases nextK_run (P := Tryz.prog) (ty := 0) IT with ⟨rfl, hn⟩ | ⟨k, v, l1, l2, w16, rfl, hkv, hn, he, IT', c16, z16⟩
  · refine .inl ⟨w15, hn, m - 1, by omega, i + 1, R, mm', rfl, by rw [wrap_id (by omega) (by omega)]; omega, by omega, MR, by omega, ?_, ?_, c15⟩
    · refine hLay.next hSnd fun ws y c d c' d' g1 g2 g3 g4 g5 g6 g7 => ?_
      rcases hDone _ g1 with ⟨v, hv⟩ | hv
      · cases hv
      · exact (hv y g2 ws c d c' d' rfl g3 g4 g5 g6).1 g7
    · refine hGood.next (ks' := mm'.map (·.1)) hLay fun x hx => ?_
      rcases hDone x hx with ⟨v, hv⟩ | hv
      · cases hv
      · exact hv
  · refine .inr ⟨k, v, w16, hn, k, v, he, newB_blk fun w17 b17 c17 z17 => ?_⟩
    obtain ⟨us, c, d, hul, huw, rfl, hc, hd⟩ := hLay.1 k (List.mem_map.2 ⟨_, hkv, rfl⟩)
    refine agg_two ?_
    have hTr : T ≠ r := by
      have := i14.mp.lt
      omega
    have h1617 : Ch (· = T) w15 w17 := c16.trans' (c17.mono fun _ _ g => g.elim)
    refine Sif_true (st_blk (by simpa using b17) (by simp) fun w18 b18 c18 z18 => Sif_true (st_blk b18 (by simp) fun w19 b19 c19 z19 => ?_))
    simp only [List.set_cons_zero, List.set_cons_succ] at b19
    have hs16 := c16.size
    have C19 : Ch (fun x => x = T) w15 w19 := h1617.trans (c18.trans' c19) fun x hx e => by
      exfalso; rw [e] at hx; omega
    have I19 : ItK (Is2 isU16V isU16V) w19 T r mm (l1 ++ l2) := (IT'.ch (c17.mono (S' := (· = w16.heap.size)) fun _ _ g => g.elim) (by omega) (by have := IT'.mp.lt; omega)).ch (c18.trans' c19) (by omega) (by have := IT'.mp.lt; omega)
    have M19 : MpK (Is2 isU16V isU16V) w19 R mm' := MR.ch C19 (fun e => hr1 e)
    have Q := w16.heap.size
    generalize hQ : w16.heap.size = Q at *
    refine ⟨fun m2 n8 w20 => ∃ (j : Nat) (ms : List (Value × Value)), n8 = (j : Int) ∧ m2 + j = W.length ∧ ItK (Is2 isU16V isU16V) w20 T r mm (l1 ++ l2) ∧ MpK (Is2 isU16V isU16V) w20 R ms ∧
        (∀ k ∈ ms.map (·.1), ∃ ws y c d, ws.length = i ∧ (∀ y ∈ ws, y ∈ W) ∧ y ∈ W ∧ k = pv c d ∧ IsSet c (parts a).length (At (parts a) (ws ++ [y])) ∧ IsSet d (parts b).length (At (parts b) (ws ++ [y]))) ∧
        (∀ x ∈ mm.map (·.1), (∃ v, (x, v) ∈ l1 ++ l2) ∨ x = pv c d ∨ Dn (parts a) (parts b) W (ms.map (·.1)) x) ∧ Dn (parts a) (parts b) (W.take j) (ms.map (·.1)) (pv c d) ∧
        blk w20 Q = some [.int .u16 (c : Int), .int .u16 (d : Int)] ∧ Ch (fun _ => False) w7 w20 ∧ R < w20.heap.size ∧ T < w20.heap.size,
      ⟨_, 0, mm', rfl, rfl, I19, M19, hSnd, fun x hx => ?_, (fun y hy => by simp at hy), b19, c15.trans C19 (fun x hx e => by rw [e] at hx; omega), by have := C19.size; omega, by have := C19.size; omega⟩, ?_⟩
    · rcases hDone x hx with ⟨v', hv'⟩ | hv'
      · rcases List.mem_append.1 hv' with g | g
        · exact .inl ⟨v', by simp [g]⟩
        · rcases List.mem_cons.1 g with g | g
          · exact .inr (.inl (congrArg Prod.fst g))
          · exact .inl ⟨v', by simp [g]⟩
      · exact .inr (.inr hv')
    rintro m2 n8 w20 ⟨j, ms, rfl, hm2, I20, M20, hSnd2, hDone2, hCur, b20, c20, hR20, hT20⟩
    refine Sif_cases (fun h2 => ?_) fun h2 => ?_
    rotate_left
    · have h2 := of_decide_eq_false h2
      have hj : j = W.length := by omega
      subst hj
      rw [List.take_length] at hCur
      refine ⟨_, by simp, l1 ++ l2, ms, rfl, I20, M20, hSnd2, fun x hx => ?_, c20, hR20, hT20⟩
      rcases hDone2 x hx with g | g | g
      · exact .inl g
      · rw [g]; exact .inr hCur
      · exact .inr g
    have h2 := of_decide_eq_true h2
    obtain ⟨y, hy⟩ : ∃ y, W[j]? = some y := ⟨_, List.getElem?_eq_getElem (by omega)⟩
    have hyW : y ∈ W := List.mem_of_getElem? hy
    have hte : W.take (j + 1) = W.take j ++ [y] := by rw [List.take_add_one, hy]; rfl
    obtain ⟨kw, ow, rfl, hcw⟩ := sAt (Rd_d RW c20) hy
    obtain ⟨J1, hJ⟩ : ∃ J : World → Prop, ∀ w25, J w25 ↔ ∃ (j' : Nat) (ms : List (Value × Value)), j' = j + 1 ∧ ItK (Is2 isU16V isU16V) w25 T r mm (l1 ++ l2) ∧ MpK (Is2 isU16V isU16V) w25 R ms ∧
        (∀ k ∈ ms.map (·.1), ∃ ws y c d, ws.length = i ∧ (∀ y ∈ ws, y ∈ W) ∧ y ∈ W ∧ k = pv c d ∧ IsSet c (parts a).length (At (parts a) (ws ++ [y])) ∧ IsSet d (parts b).length (At (parts b) (ws ++ [y]))) ∧
        (∀ x ∈ mm.map (·.1), (∃ v, (x, v) ∈ l1 ++ l2) ∨ x = pv c d ∨ Dn (parts a) (parts b) W (ms.map (·.1)) x) ∧ Dn (parts a) (parts b) (W.take j') (ms.map (·.1)) (pv c d) ∧
        blk w25 Q = some [.int .u16 (c : Int), .int .u16 (d : Int)] ∧ Ch (fun _ => False) w7 w25 ∧ R < w25.heap.size ∧ T < w25.heap.size := ⟨_, fun _ => Iff.rfl⟩
    -- what a round ends with
    have fin : ∀ (c' d' k : Nat) (w24 : World), IsSet c' (parts a).length (Clo (parts a) (Stp (parts a) (At (parts a) us) y)) → IsSet d' (parts b).length (Clo (parts b) (Stp (parts b) (At (parts b) us) y)) → blk w24 k = some [.int .u16 (c' : Int), .int .u16 (d' : Int)] → Ch (fun _ => False) w20 w24 →
        covTail (parts a).length (parts b).length (some R) J1 K ⟨k, 0, none⟩ w24 := by
      intro c' d' k w24 hc' hd' b24 c24
      have hc' := step_set hc hc'
      have hd' := step_set hd hd'
      have c724 := c20.trans' c24
      refine covTail_ok b24 (M20.ch c24 id) (hc'.lt la) (hd'.lt lb) la lb (fun g1 g2 w' c => ?_) (fun hg h0 w' c => ?_) fun hg h0 w' m' M' c hor => ?_
      · refine hk _ _ _ (.inr ⟨hpa, hpb, rfl, ?_⟩) (ch07.trans' (c724.trans' c))
        simp only [Bool.false_eq_true, false_iff]
        intro hcov
        have q1 : Rt.Mp (parts b) (us ++ [y]) := (At_end _ _).1 ((hd' _).1 g1).2
        have q2 := key.1 hcov (us ++ [y]) (fun z hz => by
          rcases List.mem_append.1 hz with hz | hz
          · exact huw z hz
          · rw [List.mem_singleton.1 hz]; exact hyW) (by simp) (by simp [hul]; omega) q1
        rw [(hc' _).2 ⟨Nat.le_refl _, (At_end _ _).2 q2⟩] at g2; cases g2
      · have cc := c24.trans' c
        refine (hJ _).2 ⟨_, ms, rfl, I20.ch cc id id, M20.ch cc id, hSnd2, hDone2, ?_, by rw [cc.blk (blk_lt b20) id]; exact b20, c20.trans' cc, by have := cc.size; omega, by have := cc.size; omega⟩
        rw [hte]
        exact hCur.word hc hd hc' hd' (fun g => absurd h0 g) hg
      · have cc : Ch (· = R) w20 w' := (c24.mono (S' := (· = R)) fun _ _ g => g.elim).trans' c
        have hsub : ∀ k, k ∈ m'.map (·.1) ↔ k ∈ ms.map (·.1) ∨ k = pv c' d' := fun k => by
          rcases hor with ⟨e1, v0, e2, rfl, rfl⟩ | rfl
          · simp only [List.map_append, List.map_cons, List.mem_append, List.mem_cons]
            constructor
            · rintro (g | g | g)
              · exact .inl (.inl g)
              · exact .inr g
              · exact .inl (.inr (.inr g))
            · rintro ((g | g | g) | g)
              · exact .inl g
              · exact .inr (.inl g)
              · exact .inr (.inr g)
              · exact .inr (.inl g)
          · simp
        refine (hJ _).2 ⟨_, m', rfl, I20.ch cc (fun e => hr1 e.symm) (fun e => by have := IT'.mp.lt; omega), M', fun k hk' => ?_, fun x hx => ?_, ?_, by rw [cc.blk (blk_lt b20) (by omega)]; exact b20, c20.trans cc (fun x hx e => by rw [e] at hx; omega), by have := cc.size; omega, by have := cc.size; omega⟩
        · rcases (hsub k).1 hk' with g | g
          · exact hSnd2 k g
          · exact ⟨us, y, c', d', hul, huw, hyW, g, hc', hd'⟩
        · rcases hDone2 x hx with g | g | g
          · exact .inl g
          · exact .inr (.inl g)
          · exact .inr (.inr (g.more fun k hk' => (hsub k).2 (.inl hk')))
        · rw [hte]
          exact (hCur.more fun k hk' => (hsub k).2 (.inl hk')).word hc hd hc' hd' (fun g => (hsub _).2 (.inr rfl)) hg
    have d20 : Ch (fun _ => False) w20 w20.drew := Ch.d0
    have bQ : ∀ w', Ch (fun _ => False) w20 w' → World.cell? w' (Addr.add ⟨Q, 0, none⟩ 0) = some (.int .u16 (c : Int)) ∧ World.cell? w' (Addr.add ⟨Q, 0, none⟩ 1) = some (.int .u16 (d : Int)) := fun w' cc => by
      have : blk w' Q = some [.int .u16 (c : Int), .int .u16 (d : Int)] := by rw [cc.blk (blk_lt b20) id]; exact b20
      exact ⟨by simpa using cell_blk this 0, by simpa using cell_blk this 1⟩
    refine ⟨J1, ?_, by omega, h2, ?_⟩
    rotate_left
    · rw [nn_some]
      refine ⟨y, by simpa using hcw, _, (bQ _ d20).1, _, (bQ _ d20).2, ?_, ?_⟩
      · refine on_ok (Rd_d RA (c20.trans' d20)) la hc fun c' hc' => ⟨_, rfl, ⟨_, (bQ _ d20).2, rfl⟩, ?_, ?_⟩
        · refine on_ok (Rd_d RB (c20.trans' d20)) lb hd fun d' hd' => ⟨_, rfl, box2 fun w24 b24 c24 z24 => ?_⟩
          exact fin c' d' _ w24 hc' hd' b24 (d20.trans' c24)
        · refine newB_blk fun w21 b21 c21 z21 => ⟨⟨_, (bQ _ (d20.trans' c21)).2, rfl⟩, on_ok (Rd_d RB (c20.trans' (d20.trans' c21))) lb hd fun d' hd' => ⟨_, rfl, ?_⟩⟩
          simp only [add_at]
          refine st_blk b21 (by simp) fun w22 b22 c22 z22 => st_blk b22 (by simp) fun w23 b23 c23 z23 => ?_
          exact fin c' d' _ w23 hc' hd' b23 ((d20.trans' c21).trans (c22.trans' c23) fun x hx e => by rw [e] at hx; simp at hx)
      · refine newB_blk fun w21 b21 c21 z21 => ⟨⟨_, (bQ _ (d20.trans' c21)).2, rfl⟩, ⟨_, (bQ _ (d20.trans' c21)).1, rfl⟩, on_ok (Rd_d RA (c20.trans' (d20.trans' c21))) la hc fun c' hc' => ⟨_, rfl, ⟨_, (bQ _ (d20.trans' c21)).2, rfl⟩, on_ok (Rd_d RB (c20.trans' (d20.trans' c21))) lb hd fun d' hd' => ⟨_, rfl, ?_⟩⟩⟩
        simp only [add_at]
        refine st_blk b21 (by simp) fun w22 b22 c22 z22 => st_blk b22 (by simp) fun w23 b23 c23 z23 => ?_
        exact fin c' d' _ w23 hc' hd' b23 ((d20.trans' c21).trans (c22.trans' c23) fun x hx e => by rw [e] at hx; simp at hx)
    · intro w25 g
      obtain ⟨j', ms', rfl, g1, g2, g3, g4, g5, g6, g7, g8, g9⟩ := (hJ _).1 g
      exact ⟨m2 - 1, by omega, j + 1, ms', by rw [wrap_id (by omega) (by omega)]; omega, by omega, g1, g2, g3, g4, g5, g6, g7, g8, g9⟩
end Go.Proofs.YtnibmhjdomndbaaGreatDoor
