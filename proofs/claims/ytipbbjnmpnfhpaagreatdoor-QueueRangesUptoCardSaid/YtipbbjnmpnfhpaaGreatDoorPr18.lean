/-
  QueueRanges: a range tells what there was when it began, whatever is done within; left early, within itself, ranged over again; the call returns true and the inputs read as they did. Conditions: the inputs are of bulk at most 1048576 (the second form's card); the listed tables of unicode/utf8 lie as the program's text lays them.
-/
import Derived.Test.YtipbbjnmpnfhpaaGreatDoorPr17
import Derived.ProofKit
import Derived.OpenShut
import Derived.ShutString
import Derived.ChangeOld
import Derived.Below
import Derived.Carry
import Derived.SizedLaws
import Derived.Deep.Slices
import Derived.Deep.CondSized
import Derived.Deep.DeepHandedRow
import Derived.Lib.LaidTab
import Derived.Test.YtipbbjnmpnfhpaaGreatDoorRows
import Derived.Test.YtipbbjnmpnfhpaaGreatDoorCards
import Derived.Test.YtipbbjnmpnfhpaaGreatDoorTie
namespace Go.Proofs.YtipbbjnmpnfhpaaGreatDoor
open Go Go.Sv Go.Heap Go.Qu Go.MapKept
set_option linter.unusedVariables false
set_option maxRecDepth 4000
/-- behind i rounds of the outer range -/
structure RJ (Qt : Nat → Prop) (W1 : World) (kb qb rb a8 a9 l : Nat) (cf : Cfg) (U1 : Nat → Prop) (rc : LoopR) (S : List Et) (i : Nat) (v : World) (A : AQ) (m : Nat) (B C D : Nat → Prop) (pl : Option Addr) (cl : Nat) (ol : Option Nat) : Prop where
  t : Trio Qt (BK kb) v qb rb A m B C D
  hm : m ≤ 5000 * i
  cf : A.cf = cf
  l8 : blk v a8 = some [.slice pl i cl]
  row : Ow v pl i cl 7 (((S.take i).map (·.e)).flatMap En.cells) ol
  on : ∀ b, ol = some b → W1.heap.size ≤ b ∧ ¬ TU B C D b
  rcd : recAt v l rc .ready none
  b9 : blk v a9 = some [.bool true]
  up : ∀ b, TU B C D b → U1 b ∨ W1.heap.size ≤ b
  ch : Ch (fun b => (U1 b ∧ ¬ Qt b) ∨ b = a8 ∨ b = a9 ∨ b = l ∨ W1.heap.size ≤ b) W1 v
def RX (Qt U1 : Nat → Prop) (W1 : World) (a8 a9 l b : Nat) : Prop := (U1 b ∧ ¬ Qt b) ∨ b = a8 ∨ b = a9 ∨ b = l ∨ W1.heap.size ≤ b
theorem box1 {w : World} {t : TypeId} {z v : Value} {K : Addr → World → Prop} (hk : ∀ w', blk w' w.heap.size = some [v] → Ch (fun _ => False) w w' → w'.heap.size = w.heap.size + 1 → K ⟨w.heap.size, 0, none⟩ w') :
    newB w [z] t fun a w1 => Sv.st w1 (Addr.add a 0) v fun w2 => K a w2 := by
  refine newB_blk fun w1 b1 c1 z1 => ?_
  rw [add_at]
  refine st_blk b1 (by simp) fun w2 b2 c2 z2 => hk w2 b2 (c1.trans c2 fun b hb h => by have h : b = w.heap.size := h; omega) (by omega)
theorem rec_loop {v : World} {l : Nat} {rc : LoopR} {s : LoopState} {j : Option Code} (hrc : isRec rc) (h : recAt v l rc s j) : ∃ r, objAt v l = some (.loop r) := by
  obtain ⟨r, hr⟩ := hrc s j
  exact ⟨r, by rw [← hr]; exact h⟩
set_option maxHeartbeats 8000000 in
theorem ranges_law {c : Cfg} {w : World} {p0 ps : Option Addr} {c0 cs : Nat} {Es : List EX} {Os : List OpV} {most : Int} {K : Value → World → Prop} (h1 : c.name.size ≤ 2 ^ 40) (h2 : c.dead.size ≤ 2 ^ 40) (hE : Rd w p0 Es.length 7 ((Es.map (·.1)).flatMap En.cells)) (hEin : ∀ x ∈ Es, EIn w x ∧ x.1.seq ≤ 9223372036854775807) (hEl : Es.length ≤ 2 ^ 20)
    (hO : Rd w ps Os.length 13 (Os.flatMap OpV.cells)) (hin : ∀ o ∈ Os, ∃ Ts l, OIn w o Ts l) (hOl : Os.length ≤ 2 ^ 20) (hmost1 : -9223372036854775808 ≤ most) (hmost2 : most ≤ 9223372036854775807)
    (hk : ∀ w', Ch (fun _ => False) w w' → K (.bool true) w') : callP Tryz.prog 3 [cfgV c, .slice p0 Es.length c0, .slice ps Os.length cs, .int .i64 most] w K := by
  refine ok_longshorelaw17_QueueRanges ?_
  unfold wp_longshorelaw17_QueueRanges
  refine newB_blk fun w1 b1 c1 z1 => newB_blk fun w2 b2 c2 z2 => newB_blk fun w3 b3 c3 z3 => ?_
  refine live_ok fun w4 c4 => ⟨_, rfl, ?_⟩
  have c04 := ((c1.trans' c2).trans' c3).trans' c4
  have a4 : blk w4 w.heap.size = some [.string c.name, .int .i64 c.most, .string c.dead, .int .i64 c.tries, .bool c.dur] := by rw [((c2.trans' c3).trans' c4).blk (blk_lt b1) id]; exact b1
  have i4 : blk w4 w1.heap.size = some [.slice ps Os.length cs] := by rw [(c3.trans' c4).blk (blk_lt b2) id]; exact b2
  have m4 : blk w4 w2.heap.size = some [.int .i64 most] := by rw [c4.blk (blk_lt b3) id]; exact b3
  have s4 := c4.size
  simp only [add_at, Nat.zero_add]
  refine cfg_rd a4 ?_
  refine qnew_ok (c := c) (by omega) (by omega) (fun hc w5 c5 => ⟨_, rfl, ?_⟩) fun hc w5 qb B0 Q5 n5 c5 => ⟨_, rfl, ?_⟩
  · -- no queue
    refine box1 fun w7 b7 c7 z7 => ?_
    have c47 := c5.trans' c7
    have a7 : blk w7 w.heap.size = some [.string c.name, .int .i64 c.most, .string c.dead, .int .i64 c.tries, .bool c.dur] := by rw [c47.blk (blk_lt a4) id]; exact a4
    refine cfg_rd a7 (rnew_ok (c := c) (fun _ w8 c8 => ⟨_, rfl, ?_⟩) fun h => by rw [hc] at h; cases h)
    refine box1 fun w10 b10 c10 z10 => ?_
    have b710 : blk w10 w5.heap.size = some [.pointer none] := by rw [(c8.trans' c10).blk (blk_lt b7) id]; exact b7
    refine ⟨fun _ => False, fun _ h => h.elim, ?_⟩
    refine Sif_true ⟨_, by rw [cell_blk b710]; rfl, ?_⟩
    refine Sif_false (Sif_true ⟨_, by rw [cell_blk b710]; rfl, _, by rw [cell_blk b10]; rfl, ?_⟩)
    exact hk w10 (((c04.trans' c47).trans' c8).trans' c10)
  refine box1 fun w7 b7 c7 z7 => ?_
  have c47 := c5.trans' c7
  have a7 : blk w7 w.heap.size = some [.string c.name, .int .i64 c.most, .string c.dead, .int .i64 c.tries, .bool c.dur] := by rw [c47.blk (blk_lt a4) id]; exact a4
  refine cfg_rd a7 (rnew_ok (c := c) (fun h => by rw [hc] at h; cases h) fun _ w8 rb b8 n8 c8 => ⟨_, rfl, ?_⟩)
  refine box1 fun w10 b10 c10 z10 => ?_
  have c410 := (c47.trans' c8).trans' c10
  have b710 : blk w10 w5.heap.size = some [.pointer (some ⟨qb, 0, none⟩)] := by rw [(c8.trans' c10).blk (blk_lt b7) id]; exact b7
  have Q10 := Q5.ch ((c7.trans' c8).trans' c10) fun _ _ => id
  have R10 : RQ (fun _ => False) w10 rb ⟨c, [], 0⟩ (fun b => b = rb) := rq_new Q5.wf (by rw [c10.blk (blk_lt b8) id]; exact b8)
  have l5 := Q5.lt
  have lr := blk_lt b8
  have s5 := c5.size
  have s8 := c8.size
  -- the blocks at first
  let U0 : Nat → Prop := fun b => B0 b ∨ b = rb
  have U0n : ∀ b, U0 b → w4.heap.size ≤ b ∧ b < w8.heap.size ∧ b ≠ w5.heap.size := fun b h => by
    rcases h with h | h
    · have := n5 b h; have := l5 b h; omega
    · omega
  refine ⟨fun w11 => w11 = w10, ?_, ?_⟩
  rotate_left
  · refine Sif_true ⟨_, by rw [cell_blk b710]; rfl, ?_⟩
    refine Sif_true ⟨_, by rw [cell_blk b10]; rfl, ?_⟩
    exact Sif_false (by trivial)
  rintro w11 h11
  rw [h11]
  clear h11 w11
  -- the entries are put
  refine ⟨fun mm i w' => ∃ (j : Nat) (A : AQ) (B C : Nat → Prop), i = (j : Int) ∧ j ≤ Es.length ∧ mm = Es.length - j ∧ QK w' qb A B ∧ RQ (fun _ => False) w' rb A C ∧ (∀ b, B b → ¬ C b) ∧ (∀ b, B b ∨ C b → U0 b ∨ w10.heap.size ≤ b) ∧ A.cf = c ∧ Ch U0 w10 w', ⟨Es.length, 0, _, _, _, rfl, Nat.zero_le _, rfl, Q10, R10, fun b hb h => by have := n5 b hb; have := l5 b hb; have h : b = rb := h; omega, fun b hb => .inl hb, rfl, Ch.refl _ _⟩, ?_⟩
  rintro mm i w12 ⟨j, A, B, C, rfl, hj, rfl, Q12, R12, hBC, hup, hcf, c12⟩
  have box : ∀ v, Ch U0 w10 v → blk v w5.heap.size = some [.pointer (some ⟨qb, 0, none⟩)] ∧ blk v w8.heap.size = some [.pointer (some ⟨rb, 0, none⟩)] := fun v cc => by
    refine ⟨by rw [cc.blk (blk_lt b710) fun h => (U0n _ h).2.2 rfl]; exact b710, by rw [cc.blk (blk_lt b10) fun h => by have := U0n _ h; omega]; exact b10⟩
  have old : ∀ v, Ch U0 w10 v → Ch (fun _ => False) w4 v := fun v cc => c410.trans cc fun b hb h => by have := U0n b h; omega
  refine Sif_cases (fun hlt => ?_) fun hge => ?_
  · have hlt : j < Es.length := by have := of_decide_eq_true hlt; omega
    obtain ⟨x, hx⟩ : ∃ x, Es[j]? = some x := ⟨_, List.getElem?_eq_getElem hlt⟩
    obtain ⟨hxi, hxs⟩ := hEin x (List.mem_of_getElem? hx)
    have hxe : (Es.map (·.1))[j]? = some x.1 := by rw [List.getElem?_map, hx]; rfl
    have cd : Ch U0 w10 w12.drew := c12.trans' (Ch.drew w12)
    have cw : Ch (fun _ => False) w w12.drew := c04.trans' (old _ cd)
    obtain ⟨ks, os, hps, hcs⟩ := (hE.ch cw fun _ _ _ => id).at En.cells_len hxe (by decide)
    rw [hps]
    simp only [nn_some, add_at, Int.toNat_natCast]
    refine ⟨by omega, by omega, _, by rw [cell_blk (box _ cd).1]; rfl, _, by rw [cell_blk (box _ cd).2]; rfl, _, hcs 0 _ rfl, _, hcs 1 _ rfl, _, hcs 2 _ rfl, _, hcs 3 _ rfl, _, hcs 4 _ rfl, _, hcs 5 _ rfl, _, _, _, hcs 6 _ rfl, ?_⟩
    have hU4 : ∀ b, B b ∨ C b → w4.heap.size ≤ b := fun b h => by
      rcases hup b h with q | q
      · exact (U0n b q).1
      · have := c410.size; omega
    have hxold : ∀ a, x.1.p = some a → x.1.n * 1 ≠ 0 → a.block < w4.heap.size := fun a ha h0 => Nat.lt_of_lt_of_le (hxi.rd.lt a ha h0) c04.size
    refine put_ok (e := x.1) (l := x.2) (Q12.ch (Ch.drew (S := fun _ => False) w12) fun _ _ => id) (R12.ch (Ch.drew (S := fun _ => False) w12) fun _ _ => id) (fun _ _ => id) hBC (hxi.rd.ch cw fun _ _ _ => id) (fun a ha h0 => ⟨fun h => by have := hU4 _ (.inl h); have := hxold a ha h0; omega, fun h => by have := hU4 _ (.inr h); have := hxold a ha h0; omega⟩) (by have := hxi.n; omega) hxs fun w13 B' C' Q13 R13 hBC' c13 hB' hC' => ⟨true, rfl, Sif_false ?_⟩
    rw [nameI_iff, wrap_id (by omega) (by omega)]
    have s12 := c12.size
    have hd : w12.drew.heap.size = w12.heap.size := rfl
    refine ⟨Es.length - (j + 1), by omega, j + 1, _, B', C', by omega, by omega, rfl, Q13, R13, hBC', fun b hb => ?_, ?_, cd.trans c13 fun b hb h => ?_⟩
    · rcases hb with hb | hb
      · rcases hB' b hb with q | q
        · exact hup b (.inl q)
        · exact .inr (by omega)
      · rcases hC' b hb with q | q
        · exact hup b (.inr q)
        · exact .inr (by omega)
    · rw [← hcf]
      unfold AQ.put
      split
      · rfl
      · split
        · rfl
        · split <;> rfl
    · rcases hup b h.1 with q | q
      · exact q
      · omega
  · -- the range
    have s12 := c12.size
    have B12 := Q12.lt
    have C12 := R12.lt
    refine newB_blk fun w13 b13 c13 z13 => ?_
    refine box1 fun w15 b15 c15 z15 => ?_
    have c1215 : Ch (fun _ => False) w12 w15 := c13.trans' c15
    have bx15 := box w15 (c12.new c1215)
    refine ⟨_, by rw [cell_blk bx15.1]; rfl, ?_⟩
    refine ok_queue_Queue_All ?_
    unfold wp_queue_Queue_All
    refine newB_blk fun w16 b16 c16 z16 => ⟨_, rfl, ?_⟩
    refine newB_blk fun w17 b17 c17 z17 => ?_
    refine Sif_true (Sif_true ?_)
    simp only [add_at]
    refine st_blk b17 (by simp) fun w18 b18 c18 z18 => ?_
    have c1218 : Ch (fun _ => False) w12 w18 := ((c1215.trans' c16).trans' c17).trans c18 fun b hb h => by have h : b = w16.heap.size := h; have := c1215.size; omega
    have bx18 := box w18 (c12.new c1218)
    refine ⟨_, by rw [cell_blk bx18.2]; rfl, ?_⟩
    refine rallQ_ok (R12.ch c1218 fun _ _ => id) fun pM cM w19 M oM hM datM rowM newM hMC R19 c19 => ⟨_, _, _, rfl, ?_⟩
    refine newB_blk fun w20 b20 c20 z20 => ?_
    refine box1 fun w22 b22 c22 z22 => ?_
    have s15 := c1215.size
    have s19 := c19.size
    have f22 : blk w22 w16.heap.size = some [.func (.func 26) #[] #[.pointer (some ⟨w15.heap.size, 0, none⟩)]] := by rw [((c19.trans' c20).trans' c22).blk (blk_lt b18) id]; exact b18
    refine ⟨_, by rw [cell_blk f22]; rfl, ?_⟩
    intro l hl rc hrc hy
    have hl : l = w22.heap.size + 1 := by rw [hl]; simp
    obtain ⟨cW, dW, rW, zW⟩ := over_start w22 rc
    subst hl
    generalize (w22.alloc (.deferred (some []))).alloc (rc .ready none) = W at cW dW rW zW
    refine ⟨by kernel_rfl, ?_⟩
    have c1922 : Ch (fun _ => False) w19 w22 := c20.trans' c22
    have c12W : Ch (fun _ => False) w12 W := ((c1218.trans' c19).trans' c1922).trans' cW
    have szs : w13.heap.size = w12.heap.size + 1 ∧ w15.heap.size = w13.heap.size + 1 ∧ w16.heap.size = w15.heap.size + 1 ∧ w18.heap.size = w16.heap.size + 1 ∧ w20.heap.size = w19.heap.size + 1 ∧ w22.heap.size = w20.heap.size + 1 ∧ W.heap.size = w22.heap.size + 2 := by omega
    have bqW : blk W w15.heap.size = some [.pointer (some ⟨qb, 0, none⟩)] := by
      have h18 : blk w18 w15.heap.size = some [.pointer (some ⟨qb, 0, none⟩)] := by rw [c18.blk (by have := blk_lt b16; have := c17.size; omega) (by show ¬ (_ = _); omega), c17.blk (blk_lt b16) id]; exact b16
      rw [((c19.trans' c1922).trans' cW).blk (blk_lt h18) id]; exact h18
    refine qall_ok bqW (Q12.ch c12W fun _ _ => id) fun W1 S p cS own hS C13 => ?_
    have cW1 := C13.ch
    have c12W1 := c12W.trans' cW1
    have c19W1 := (c1922.trans' cW).trans' cW1
    have sW1 := cW1.size
    let U1 : Nat → Prop := fun b => B b ∨ C b ∨ b = w12.heap.size
    let Qt : Nat → Prop := fun b => b ∈ eB M
    have hMl : M.length = A.L.length := by
      have := congrArg List.length hM
      rw [List.length_map, (ordered_perm A.L).length_eq] at this
      exact this
    have hSM : S.map Et.pe = M.map Et.pe := hS.trans hM.symm
    have hSl : S.length = M.length := by have := congrArg List.length hSM; simpa using this
    have hS4 : S.length ≤ 4096 := by have := Q12.wf.len; have := Q12.wf.most2; omega
    have hnew := C13.new
    have hlt1 : ∀ b ∈ own.toList ++ eB S, b < W1.heap.size := fun b hb => by
      rcases List.mem_append.1 hb with h | h
      · exact C13.row.blt b (by simpa [Option.mem_toList] using h)
      · obtain ⟨x, hx, hxb⟩ := mem_eB.1 h
        exact (C13.dat x hx).blt b hxb
    have U1n : ∀ b, U1 b → b ≤ w12.heap.size ∧ b ≠ w1.heap.size ∧ b ≠ w2.heap.size ∧ b ≠ w5.heap.size ∧ b ≠ w8.heap.size ∧ w4.heap.size ≤ b := fun b h => by
      have h4 := c410.size
      have h10 : w8.heap.size < w10.heap.size := by omega
      have hU : ∀ b, B b ∨ C b → (U0 b ∨ w10.heap.size ≤ b) ∧ b < w12.heap.size := fun b h => ⟨hup b h, h.elim (B12 b) (C12 b)⟩
      have : (B b ∨ C b) ∨ b = w12.heap.size := by
        rcases h with h | h | h
        · exact .inl (.inl h)
        · exact .inl (.inr h)
        · exact .inr h
      rcases this with h | h
      · obtain ⟨q | q, hl⟩ := hU b h
        · have := U0n b q
          have hne : b ≠ w8.heap.size := by omega
          exact ⟨by omega, by omega, by omega, this.2.2, hne, this.1⟩
        · omega
      · omega
    -- what stays
    have keep : ∀ v b, Ch (RX Qt U1 W1 w19.heap.size w20.heap.size (w22.heap.size + 1)) W1 v → b < W1.heap.size → (¬ U1 b ∨ Qt b) → b ≠ w19.heap.size → b ≠ w20.heap.size → b ≠ w22.heap.size + 1 → ¬ RX Qt U1 W1 w19.heap.size w20.heap.size (w22.heap.size + 1) b := fun v b _ h1 h2 h3 h4 h5 h => by
      rcases h with h | h | h | h | h
      · exact h2.elim (fun q => q h.1) fun q => h.2 q
      · exact h3 h
      · exact h4 h
      · exact h5 h
      · omega
    have kb4 : ∀ v b cs', Ch (RX Qt U1 W1 w19.heap.size w20.heap.size (w22.heap.size + 1)) W1 v → blk w4 b = some cs' → b < w4.heap.size → blk v b = some cs' := fun v b cs' cc hb h4 => by
      have o : Ch (fun _ => False) w4 W1 := (old w12 c12).trans' c12W1
      have hb1 : blk W1 b = some cs' := by rw [o.blk (blk_lt hb) id]; exact hb
      have := o.size
      rw [cc.blk (blk_lt hb1) (keep v b cc (blk_lt hb1) (.inl fun h => by have := (U1n b h).2.2.2.2.2; omega) (by have := old w12 c12; have := this.size; omega) (by have := old w12 c12; have := this.size; omega) (by have := old w12 c12; have := this.size; omega))]; exact hb1
    have inV : ∀ v, Ch (RX Qt U1 W1 w19.heap.size w20.heap.size (w22.heap.size + 1)) W1 v → blk v w1.heap.size = some [.slice ps Os.length cs] := fun v cc => kb4 v _ _ cc i4 (blk_lt i4)
    have moV : ∀ v, Ch (RX Qt U1 W1 w19.heap.size w20.heap.size (w22.heap.size + 1)) W1 v → blk v w2.heap.size = some [.int .i64 most] := fun v cc => kb4 v _ _ cc m4 (blk_lt m4)
    have wV : ∀ v, Ch (RX Qt U1 W1 w19.heap.size w20.heap.size (w22.heap.size + 1)) W1 v → Ch (fun _ => False) w v := fun v cc => ((c04.trans' (old w12 c12)).trans' c12W1).trans cc fun b hb h => by
      have o := (old w12 c12).size
      have o4 := c04.size
      have o5 := c12W1.size
      rcases h with h | h | h | h | h
      · have := (U1n b h.1).2.2.2.2.2; omega
      · omega
      · omega
      · omega
      · omega
    have bxV : ∀ v, Ch (RX Qt U1 W1 w19.heap.size w20.heap.size (w22.heap.size + 1)) W1 v → blk v w5.heap.size = some [.pointer (some ⟨qb, 0, none⟩)] ∧ blk v w8.heap.size = some [.pointer (some ⟨rb, 0, none⟩)] := fun v cc => by
      obtain ⟨g1, g2⟩ := box W1 (c12.new c12W1)
      have h4 := c410.size
      have o5 := c12W1.size
      refine ⟨?_, ?_⟩
      · rw [cc.blk (blk_lt g1) (keep v _ cc (blk_lt g1) (.inl fun h => (U1n _ h).2.2.2.1 rfl) (by omega) (by omega) (by omega))]; exact g1
      · rw [cc.blk (blk_lt g2) (keep v _ cc (blk_lt g2) (.inl fun h => (U1n _ h).2.2.2.2.1 rfl) (by omega) (by omega) (by omega))]; exact g2
    have up12 : ∀ v b cs', Ch (RX Qt U1 W1 w19.heap.size w20.heap.size (w22.heap.size + 1)) W1 v → blk W1 b = some cs' → w12.heap.size < b → b ≠ w19.heap.size → b ≠ w20.heap.size → b ≠ w22.heap.size + 1 → blk v b = some cs' := fun v b cs' cc hb g1 g2 g3 g4 => by
      rw [cc.blk (blk_lt hb) (keep v b cc (blk_lt hb) (.inl fun h => by have := (U1n b h).1; omega) g2 g3 g4)]; exact hb
    have kbV : ∀ v, Ch (RX Qt U1 W1 w19.heap.size w20.heap.size (w22.heap.size + 1)) W1 v → blk v w13.heap.size = some [.pointer (some ⟨w12.heap.size, 0, none⟩)] := fun v cc => up12 v _ _ cc (by
      have h18 : blk w18 w13.heap.size = some [.pointer (some ⟨w12.heap.size, 0, none⟩)] := by rw [c18.blk (by have := blk_lt b15; have := c16.size; have := c17.size; omega) (by show ¬ (_ = _); omega), (c16.trans' c17).blk (blk_lt b15) id]; exact b15
      rw [(c19.trans' c19W1).blk (blk_lt h18) id]; exact h18) (by omega) (by omega) (by omega) (by omega)
    have fnV : ∀ v, Ch (RX Qt U1 W1 w19.heap.size w20.heap.size (w22.heap.size + 1)) W1 v → blk v w16.heap.size = some [.func (.func 26) #[] #[.pointer (some ⟨w15.heap.size, 0, none⟩)]] := fun v cc => up12 v _ _ cc (by rw [(cW.trans' cW1).blk (blk_lt f22) id]; exact f22) (by omega) (by omega) (by omega) (by omega)
    have bqV : ∀ v, Ch (RX Qt U1 W1 w19.heap.size w20.heap.size (w22.heap.size + 1)) W1 v → blk v w15.heap.size = some [.pointer (some ⟨qb, 0, none⟩)] := fun v cc => up12 v _ _ cc (by rw [cW1.blk (blk_lt bqW) id]; exact bqW) (by omega) (by omega) (by omega) (by omega)
    have dV : ∀ v, Ch (RX Qt U1 W1 w19.heap.size w20.heap.size (w22.heap.size + 1)) W1 v → objAt v w22.heap.size = some (.deferred (some [])) := fun v cc => objAt_ch (objAt_ch dW cW1 id) cc (keep v _ cc (by omega) (.inl fun h => by have := (U1n _ h).1; omega) (by omega) (by omega) (by omega))
    have rowV : ∀ v, Ch (RX Qt U1 W1 w19.heap.size w20.heap.size (w22.heap.size + 1)) W1 v → Rd v p S.length 7 ((S.map (·.e)).flatMap En.cells) := fun v cc => (C13.row.ch cc fun b hb => by
      have h1 := hlt1 b (by simp [hb])
      have h2 := hnew b (by simp [hb])
      exact keep v b cc h1 (.inl fun h => by have := (U1n b h).1; omega) (by omega) (by omega) (by omega)).rd
    have datV : ∀ v, Ch (RX Qt U1 W1 w19.heap.size w20.heap.size (w22.heap.size + 1)) W1 v → ∀ x ∈ S, EtE.Ok v x := fun v cc x hx => EtE.ch (C13.dat x hx) cc fun b hb => by
      have hm : b ∈ own.toList ++ eB S := List.mem_append_right _ (mem_eB.2 ⟨x, hx, by simpa [EtE, Option.mem_toList] using hb⟩)
      have h1 := hlt1 b hm
      have h2 := hnew b hm
      exact keep v b cc h1 (.inl fun h => by have := (U1n b h).1; omega) (by omega) (by omega) (by omega)
    have rMV : ∀ v, Ch (RX Qt U1 W1 w19.heap.size w20.heap.size (w22.heap.size + 1)) W1 v → Rd v pM M.length 7 ((M.map (·.e)).flatMap En.cells) := fun v cc => ((rowM.ch c19W1 fun _ _ => id).ch cc fun b hb => by
      have h1 := rowM.blt b hb
      have h2 := newM b hb
      exact keep v b cc (by have := c19W1.size; omega) (.inl fun h => by have := (U1n b h).1; omega) (by omega) (by omega) (by omega)).rd
    have dMV : ∀ v, Ch (RX Qt U1 W1 w19.heap.size w20.heap.size (w22.heap.size + 1)) W1 v → ∀ x ∈ M, EtE.Ok v x := fun v cc x hx => EtE.ch (EtE.ch (datM x hx) c19W1 fun _ _ => id) cc fun b hb => by
      have hm : b ∈ eB M := mem_eB.2 ⟨x, hx, by simpa [EtE, Option.mem_toList] using hb⟩
      have := C12 b (hMC b hm)
      exact keep v b cc (by have := c12W1.size; omega) (.inr hm) (by omega) (by omega) (by omega)
    have c13W1 : Ch (fun _ => False) w13 W1 := ((((c15.trans' c16).trans' c17).trans c18 fun b hb h => by have h : b = w16.heap.size := h; omega).trans' c19).trans' c19W1
    have t0 : Trio Qt (BK w12.heap.size) W1 qb rb A 0 B C (fun b => b = w12.heap.size) := by
      refine ⟨Q12.ch c12W1 fun _ _ => id, R19.ch c19W1 fun _ _ => id, (BK.like _).ch (bk_new b13) c13W1 fun _ _ => id, hBC, fun b hb h => ?_, fun b hb h => ?_, fun b hb h => hBC b hb (hMC b h), fun b hb h => ?_⟩
      · have := B12 b h; omega
      · have := C12 b h; omega
      · have := C12 b (hMC b h); omega
    refine ⟨fun i v => ∃ A m B C D pl cl ol, RJ Qt W1 w12.heap.size qb rb w19.heap.size w20.heap.size (w22.heap.size + 1) c U1 rc S i v A m B C D pl cl ol, ?_, ?_, ?_, ?_, ?_⟩
    · exact ⟨A, 0, B, C, _, none, 0, none, t0, Nat.zero_le _, hcf, by rw [(c22.trans' (cW.trans' cW1)).blk (blk_lt b20) id]; exact b20, by simpa using Ow.nil, (fun b hb => by cases hb), rW.ch cW1 id, by rw [(cW.trans' cW1).blk (blk_lt b22) id]; exact b22, fun b hb => .inl hb, Ch.refl _ _⟩
    · rintro i v v' ⟨A', m', B', C', D', pl, cl, ol, J⟩ cc
      exact ⟨A', m', B', C', D', pl, cl, ol, J.t.ch (BK.like _) cc fun _ _ => id, J.hm, J.cf, by rw [cc.blk (blk_lt J.l8) id]; exact J.l8, J.row.ch cc fun _ _ => id, J.on, J.rcd.ch cc id, by rw [cc.blk (blk_lt J.b9) id]; exact J.b9, J.up, J.ch.new cc⟩
    · rintro i v ⟨A', m', B', C', D', pl, cl, ol, J⟩
      exact rowV v J.ch
    · rintro i x v hx ⟨A', m', B', C', D', pl, cl, ol, J⟩
      have hxS := List.mem_of_getElem? hx
      have hil := (List.getElem?_eq_some_iff.1 hx).1
      refine hy _ _ _ _ _ _ _ _ _ v _ J.rcd ?_
      refine newE (e0 := En0) (e := x.e) fun v1 x1 e1 y1 => ⟨J.rcd.ch e1 id, ?_⟩
      have r1 := J.rcd.ch e1 id
      have e2 := putObj_ch v1 (w22.heap.size + 1) (rc .busy none)
      have y2 : (v1.putObj (w22.heap.size + 1) (rc .busy none)).heap.size = v1.heap.size := by simp
      have r2 := r1.put (s' := .busy) (j' := none)
      generalize v1.putObj (w22.heap.size + 1) (rc .busy none) = v2 at e2 r2 y2 ⊢
      have lv := objAt_lt J.rcd
      have sv := J.ch.size
      have e02 : Ch (· = w22.heap.size + 1) v v2 := (e1.mono fun _ _ h => h.elim).trans' e2
      have l2 : blk v2 w19.heap.size = some [.slice pl i cl] := by rw [e02.blk (blk_lt J.l8) (by omega)]; exact J.l8
      have x2 : blk v2 v.heap.size = some x.e.cells := by rw [e2.blk (blk_lt x1) (by omega)]; exact x1
      have o2 := J.row.ch e02 fun b hb h => by have := (J.on b hb).1; omega
      have Tlt := J.t.lt (BK.like _)
      simp only [add_at, Nat.zero_add, Nat.add_zero]
      refine ⟨_, _, _, by rw [cell_blk l2]; rfl, rdN x2 ?_⟩
      have hti : (S.take i).length = i := by rw [List.length_take]; omega
      refine pushL2 hti o2 x (by omega) fun p' c' b' v5 o5 n5 c5 => ?_
      have eS : S.take i ++ [x] = S.take (i + 1) := by rw [List.take_add_one, hx]; rfl
      rw [eS] at o5
      have l5 : blk v5 w19.heap.size = some [.slice pl i cl] := by rw [c5.blk (blk_lt l2) fun h => by have := (J.on _ h).1; omega]; exact l2
      refine st_blk l5 (by simp) fun v6 l6 c6 z6 => ?_
      have hb' : ∀ b, b' = some b → W1.heap.size ≤ b ∧ (¬ TU B' C' D' b) ∧ b < v6.heap.size := fun b hb => by
        have := o5.blt b hb
        rcases n5 b hb with q | q
        · exact ⟨(J.on b q).1, (J.on b q).2, by omega⟩
        · exact ⟨by omega, fun h => by have := Tlt b h; omega, by omega⟩
      have e06 : Ch (fun b => b = w19.heap.size ∨ b = w22.heap.size + 1 ∨ ol = some b) v v6 := ((e02.mono fun b _ h => .inr (.inl h)).trans' (c5.mono fun b _ h => .inr (.inr h))).trans' (c6.mono fun b _ h => .inl h)
      have X6 : Ch (RX Qt U1 W1 w19.heap.size w20.heap.size (w22.heap.size + 1)) W1 v6 := J.ch.trans' (e06.mono fun b _ h => by
        rcases h with h | h | h
        · exact .inr (.inl h)
        · exact .inr (.inr (.inr (.inl h)))
        · exact .inr (.inr (.inr (.inr (J.on b h).1))))
      have nT : ∀ b, b < W1.heap.size → w12.heap.size < b → ¬ TU B' C' D' b := fun b g1 g2 h => by
        rcases J.up b h with q | q
        · have := (U1n b q).1; omega
        · omega
      have T6 := J.t.ch (BK.like _) e06 fun b hb h => by
        rcases h with h | h | h
        · exact nT b (by omega) (by omega) hb
        · exact nT b (by omega) (by omega) hb
        · exact (J.on b h).2 hb
      have r6 : recAt v6 (w22.heap.size + 1) rc .busy none := (r2.ch c5 fun h => by have := (J.on _ h).1; omega).ch c6 (by show ¬ (_ = _); omega)
      have g6 : blk v6 w20.heap.size = some [.bool true] := by
        rw [e06.blk (blk_lt J.b9) fun h => ?_]
        · exact J.b9
        · rcases h with h | h | h
          · omega
          · omega
          · have := (J.on _ h).1; omega
      have o6 := o5.ch c6 fun b hb h => by have := (hb' b hb).1; have h : b = w19.heap.size := h; omega
      have l6 : blk v6 w19.heap.size = some [.slice p' (i + 1) c'] := l6
      -- a round is over
      have next : ∀ (v9 : World) (A9 : AQ) (m9 : Nat) (B9 C9 D9 : Nat → Prop), Trio Qt (BK w12.heap.size) v9 qb rb A9 m9 B9 C9 D9 → m9 ≤ 5000 * (i + 1) → A9.cf = c → blk v9 w19.heap.size = some [.slice p' (i + 1) c'] → Ow v9 p' (i + 1) c' 7 (((S.take (i + 1)).map (·.e)).flatMap En.cells) b' → (∀ b, b' = some b → ¬ TU B9 C9 D9 b) → recAt v9 (w22.heap.size + 1) rc .busy none → blk v9 w20.heap.size = some [.bool true] → (∀ b, TU B9 C9 D9 b → U1 b ∨ W1.heap.size ≤ b) → Ch (RX Qt U1 W1 w19.heap.size w20.heap.size (w22.heap.size + 1)) W1 v9 →
          ∃ A m B C D pl cl ol, RJ Qt W1 w12.heap.size qb rb w19.heap.size w20.heap.size (w22.heap.size + 1) c U1 rc S (i + 1) (v9.putObj (w22.heap.size + 1) (rc .ready none)) A m B C D pl cl ol := fun v9 A9 m9 B9 C9 D9 T9 hm9 hcf9 l9 o9 hn9 r9 g9 up9 X9 => by
        have e10 := putObj_ch v9 (w22.heap.size + 1) (rc .ready none)
        have r10 := r9.put (s' := .ready) (j' := none)
        generalize v9.putObj (w22.heap.size + 1) (rc .ready none) = v10 at e10 r10 ⊢
        refine ⟨A9, m9, B9, C9, D9, p', c', b', T9.ch (BK.like _) e10 fun b hb h => ?_, hm9, hcf9, by rw [e10.blk (blk_lt l9) (by omega)]; exact l9, o9.ch e10 fun b hb h => by have := (hb' b hb).1; omega, fun b hb => ⟨(hb' b hb).1, hn9 b hb⟩, r10, by rw [e10.blk (blk_lt g9) (by omega)]; exact g9, up9, X9.trans' (e10.mono fun b _ h => .inr (.inr (.inr (.inl h))))⟩
        rcases up9 b hb with q | q
        · have := (U1n b q).1; omega
        · omega
      refine ⟨_, _, _, by rw [cell_blk l6]; rfl, ?_⟩
      have ei : ((i + 1 : Nat) : Int) - 1 = (i : Int) := by omega
      rw [ei, wrap_id (by omega) (by omega), nameI_iff]
      refine ⟨_, _, _, by rw [cell_blk (inV v6 X6)]; rfl, Sif_cases (fun hlt => ?_) fun hge => ?_⟩
      rotate_left
      · exact ⟨r6, .inl ⟨by trivial, next v6 A' m' B' C' D' T6 (by have := J.hm; omega) J.cf l6 o6 (fun b hb => (hb' b hb).2.1) r6 g6 J.up X6⟩⟩
      have hlt : i < Os.length := by have := of_decide_eq_true hlt; omega
      obtain ⟨o, ho⟩ : ∃ o, Os[i]? = some o := ⟨_, List.getElem?_eq_getElem hlt⟩
      obtain ⟨Ts, lb, hi⟩ := hin o (List.mem_of_getElem? ho)
      obtain ⟨ks, os, hps, hcs⟩ := (hO.ch (wV v6 X6) fun _ _ _ => id).at OpV.cells_len ho (by decide)
      refine ⟨_, _, _, by rw [cell_blk (inV v6 X6)]; rfl, by omega, by omega, ?_⟩
      rw [hps]
      simp only [nn_some, add_at, Int.toNat_natCast]
      refine rd13 hcs (newB_blk fun v7 b7 c7 z7 => ?_)
      simp only [add_at, Nat.zero_add, Nat.add_zero]
      refine reOp o b7 rfl fun v8 b8 c8 z8 => ?_
      refine st_blk b8 (by simp [OpV.cells]) fun v9 b9 c9 z9 => ?_
      let o' : OpV := { o with e := { o.e with seq := 0 } }
      have b9 : blk v9 v6.heap.size = some o'.cells := b9
      have e69 : Ch (fun _ => False) v6 v9 := (c7.trans c8 fun b hb h => by have h : b = v6.heap.size := h; omega).trans c9 fun b hb h => by have h : b = v6.heap.size := h; omega
      have T9 := T6.ch (BK.like _) e69 fun _ _ => id
      have X9 := X6.new e69
      have s6 := X6.size
      have s9 := e69.size
      have hi' : OIn v9 o' Ts lb := ⟨(hi.ch (wV v9 X9)).rt, hi.lt, hi.ln, (hi.ch (wV v9 X9)).rd, hi.n, by show (0 : Int) ≤ _; omega⟩
      have r9 := r6.ch e69 id
      have l9 : blk v9 w19.heap.size = some [.slice p' (i + 1) c'] := by rw [e69.blk (blk_lt l6) id]; exact l6
      have g9 : blk v9 w20.heap.size = some [.bool true] := by rw [e69.blk (blk_lt g6) id]; exact g6
      have o9 := o6.ch e69 fun _ _ => id
      have oldT : ∀ {p : Option Addr} {n sz : Nat} {xs : List Value}, Rd w p n sz xs → ∀ a, p = some a → n * sz ≠ 0 → ¬ TU B' C' D' a.block := fun hr a ha h0 h => by
        have h1 := hr.lt a ha h0
        have h2 := c04.size
        rcases J.up _ h with q | q
        · have := (U1n _ q).2.2.2.2.2; omega
        · have := (wV W1 (Ch.refl _ _)).size; omega
      refine ⟨_, by rw [cell_blk b9]; rfl, Sif_cases (fun hkind => ?_) fun hkind => ?_⟩
      rotate_left
      · -- a step
        refine ⟨_, by rw [cell_blk (kbV v9 X9)]; rfl, _, by rw [cell_blk (bxV v9 X9).1]; rfl, _, by rw [cell_blk (bxV v9 X9).2]; rfl, ?_⟩
        simp only [cell_blk b9]
        refine ⟨_, rfl, _, rfl, _, rfl, _, rfl, _, _, _, rfl, _, rfl, _, rfl, _, rfl, _, rfl, _, rfl, _, rfl, _, rfl, _, _, _, rfl, ?_⟩
        refine step_ok (o := o') T9 (by have := J.hm; omega) hi'.rt hi'.lt hi'.ln (oldT (p := o'.lp) hi.rt) hi'.rd (oldT (p := o'.e.p) hi.rd) hi'.n hi'.hi fun v10 A2 m2 B2 C2 D2 T2 hm2 hcf2 cU hU => ⟨true, rfl, ?_⟩
        have g10 : blk v10 w20.heap.size = some [.bool true] := by rw [cU.blk (blk_lt g9) fun h => nT _ (by omega) (by omega) h.1]; exact g9
        refine ⟨_, by rw [cell_blk g10]; rfl, Sif_true ?_⟩
        refine st_blk g10 (by simp) fun v11 b11 c11 z11 => ?_
        have e911 : Ch (fun b => (TU B' C' D' b ∧ ¬ Qt b) ∨ b = w20.heap.size) v9 v11 := (cU.mono fun b _ h => .inl h).trans' (c11.mono fun b _ h => .inr h)
        have r11 : recAt v11 (w22.heap.size + 1) rc .busy none := r9.ch e911 fun h => by
          rcases h with h | h
          · exact nT _ (by omega) (by omega) h.1
          · omega
        have up2 : ∀ b, TU B2 C2 D2 b → U1 b ∨ W1.heap.size ≤ b := fun b hb => by
          rcases hU b hb with q | q
          · exact J.up b q
          · exact .inr (by omega)
        have nT2 : ∀ b, b < W1.heap.size → w12.heap.size < b → ¬ TU B2 C2 D2 b := fun b g1 g2 h => by
          rcases up2 b h with q | q
          · have := (U1n b q).1; omega
          · omega
        refine ⟨r11, .inl ⟨by trivial, next v11 A2 m2 B2 C2 D2 (T2.ch (BK.like _) c11 fun b hb h => nT2 b (by have h : b = w20.heap.size := h; omega) (by have h : b = w20.heap.size := h; omega) hb) (by have := J.hm; omega) (hcf2.trans J.cf) ?_ (o9.ch e911 fun b hb h => ?_) (fun b hb h => ?_) r11 b11 up2 (X9.trans' (e911.mono fun b _ h => ?_))⟩⟩
        · rw [e911.blk (blk_lt l9) fun h => ?_]
          · exact l9
          · rcases h with h | h
            · exact nT _ (by omega) (by omega) h.1
            · omega
        · rcases h with h | h
          · exact (hb' b hb).2.1 h.1
          · have := (hb' b hb).1; omega
        · rcases hU b h with q | q
          · exact (hb' b hb).2.1 q
          · have := (hb' b hb).2.2; omega
        · rcases h with h | h
          · rcases J.up b h.1 with q | q
            · exact .inl ⟨q, h.2⟩
            · exact .inr (.inr (.inr (.inr q)))
          · exact .inr (.inr (.inl h))
      · -- a range within
        refine ⟨_, by rw [cell_blk (bxV v9 X9).2]; rfl, ?_⟩
        refine rallQ_ok T9.r fun pN cN v10 N oN hN datN rowN newN hNC _ c10 => ⟨_, _, _, rfl, ?_⟩
        refine box1 fun v12 b12 c12' z12 => box1 fun v14 b14 c14 z14 => ?_
        have e914 := (c10.trans' c12').trans' c14
        have X14 := X9.new e914
        have r14 := r9.ch e914 id
        have s10 := c10.size
        have s14 := e914.size
        refine ⟨_, by rw [cell_blk (fnV v14 X14)]; rfl, rec_loop hrc r14, ?_⟩
        intro l1 hl1 rc1 hrc1 hy1
        have hl1 : l1 = v14.heap.size := hl1
        subst hl1
        refine ⟨by kernel_rfl, ?_⟩
        have eV := alloc_ch v14 (rc1 .ready none)
        have rV := alloc_obj v14 (rc1 .ready none)
        have zV : (v14.alloc (rc1 .ready none)).heap.size = v14.heap.size + 1 := by simp
        generalize v14.alloc (rc1 .ready none) = V at eV rV zV
        have XV := X14.new eV
        have e9V := e914.trans' eV
        refine qall_ok (bqV V XV) (T9.q.ch e9V fun _ _ => id) fun V1 S2 p2 cS2 own2 hS2 C2 => ?_
        have cV1 := C2.ch
        have e9V1 := e9V.trans' cV1
        have sV1 := cV1.size
        have hSN : S2.map Et.pe = N.map Et.pe := hS2.trans hN.symm
        have hS2l : S2.length = N.length := by have := congrArg List.length hSN; simpa using this
        have hN4 : N.length ≤ 4096 := by
          have h1 := congrArg List.length hN
          rw [List.length_map, (ordered_perm A'.L).length_eq] at h1
          have := T9.q.wf.len
          have := T9.q.wf.most2
          omega
        have new2 := C2.new
        have lt2 : ∀ b ∈ own2.toList ++ eB S2, b < V1.heap.size := fun b hb => by
          rcases List.mem_append.1 hb with h | h
          · exact C2.row.blt b (by simpa [Option.mem_toList] using h)
          · obtain ⟨x, hx, hxb⟩ := mem_eB.1 h
            exact (C2.dat x hx).blt b hxb
        have T9l := T9.lt (BK.like _)
        -- what stands in the inner range's worlds
        let Y : Nat → Prop := fun b => b = v12.heap.size ∨ b = w20.heap.size ∨ b = v14.heap.size ∨ V1.heap.size ≤ b
        have a14V : ∀ u, Ch Y V1 u → blk u v10.heap.size = some [.slice pN N.length cN] := fun u cc => by
          have h1 : blk V1 v10.heap.size = some [.slice pN N.length cN] := by rw [((c14.trans' eV).trans' cV1).blk (blk_lt b12) id]; exact b12
          rw [cc.blk (blk_lt h1) (by show ¬ (_ ∨ _ ∨ _ ∨ _); have := blk_lt h1; omega)]; exact h1
        have rNV : ∀ u, Ch Y V1 u → Rd u pN N.length 7 ((N.map (·.e)).flatMap En.cells) := fun u cc => ((rowN.ch ((c12'.trans' c14).trans' (eV.trans' cV1)) fun _ _ => id).ch cc fun b hb => by
          have h1 := rowN.blt b hb
          have h2 := newN b hb
          show ¬ (_ ∨ _ ∨ _ ∨ _)
          omega).rd
        have dNV : ∀ u, Ch Y V1 u → ∀ z ∈ N, EtE.Ok u z := fun u cc z hz => EtE.ch (EtE.ch (datN z hz) ((c12'.trans' c14).trans' (eV.trans' cV1)) fun _ _ => id) cc fun b hb => by
          have hm : TU B' C' D' b := .inr (.inl (hNC b (mem_eB.2 ⟨z, hz, by simpa [EtE, Option.mem_toList] using hb⟩)))
          have h1 := T9l b hm
          show ¬ (_ ∨ _ ∨ _ ∨ _)
          rintro (h | h | h | h)
          · omega
          · exact nT b (by omega) (by omega) hm
          · omega
          · omega
        have rS2V : ∀ u, Ch Y V1 u → Rd u p2 S2.length 7 ((S2.map (·.e)).flatMap En.cells) := fun u cc => (C2.row.ch cc fun b hb => by
          have h1 := lt2 b (by simp [hb])
          have h2 := new2 b (by simp [hb])
          show ¬ (_ ∨ _ ∨ _ ∨ _)
          omega).rd
        have dS2V : ∀ u, Ch Y V1 u → ∀ z ∈ S2, EtE.Ok u z := fun u cc z hz => EtE.ch (C2.dat z hz) cc fun b hb => by
          have hm : b ∈ own2.toList ++ eB S2 := List.mem_append_right _ (mem_eB.2 ⟨z, hz, by simpa [EtE, Option.mem_toList] using hb⟩)
          have h1 := lt2 b hm
          have h2 := new2 b hm
          show ¬ (_ ∨ _ ∨ _ ∨ _)
          omega
        have e9Y : ∀ u, Ch Y V1 u → Ch (fun b => b = w20.heap.size) v9 u := fun u cc => (e9V1.mono fun _ _ h => h.elim).trans cc fun b hb h => by
          have h : b = v12.heap.size ∨ b = w20.heap.size ∨ b = v14.heap.size ∨ V1.heap.size ≤ b := h
          omega
        have XY : ∀ u, Ch Y V1 u → Ch (RX Qt U1 W1 w19.heap.size w20.heap.size (w22.heap.size + 1)) W1 u := fun u cc => X9.trans' ((e9Y u cc).mono fun b _ h => .inr (.inr (.inl h)))
        -- behind the inner range
        have fin2 : ∀ (u : World) (k : Nat) (Kx : World → Prop), Ch Y V1 u → blk u w20.heap.size = some [.bool true] → blk u v12.heap.size = some [.int .i64 (k : Int)] → (k = N.length ∨ (k : Int) = most) → (∀ u', blk u' w20.heap.size = some [.bool true] → Ch (· = w20.heap.size) u u' → Kx u') →
            ∃ b7 : Bool, u.cell? ⟨w20.heap.size, 0, none⟩ = some (.bool b7) ∧ Sif b7 (∃ n37 : Int, u.cell? ⟨v12.heap.size, 0, none⟩ = some (.int .i64 n37) ∧ ∃ p16 n38 c11, u.cell? ⟨v10.heap.size, 0, none⟩ = some (.slice p16 n38 c11) ∧ Sif (!(n37 == ((n38 : Nat) : Int))) (∃ n39 : Int, u.cell? ⟨v12.heap.size, 0, none⟩ = some (.int .i64 n39) ∧ ∃ n40 : Int, u.cell? ⟨w2.heap.size, 0, none⟩ = some (.int .i64 n40) ∧ Sv.st u ⟨w20.heap.size, 0, none⟩ (.bool (n39 == n40)) Kx) (Sv.st u ⟨w20.heap.size, 0, none⟩ (.bool true) Kx)) (Sv.st u ⟨w20.heap.size, 0, none⟩ (.bool false) Kx) := fun u k Kx cc h9 h15 hkk hK => by
          refine ⟨_, by rw [cell_blk h9]; rfl, Sif_true ⟨_, by rw [cell_blk h15]; rfl, _, _, _, by rw [cell_blk (a14V u cc)]; rfl, Sif_cases (fun g => ?_) fun g => ?_⟩⟩
          · have g : ¬ (k : Int) = (N.length : Int) := by simpa using g
            have hm : (k : Int) = most := hkk.resolve_left fun e => g (by rw [e])
            refine ⟨_, by rw [cell_blk h15]; rfl, _, by rw [cell_blk (moV u (XY u cc))]; rfl, ?_⟩
            rw [hm, beq_self_eq_true]
            exact st_blk h9 (by simp) fun u' b' c' z' => hK u' b' c'
          · exact st_blk h9 (by simp) fun u' b' c' z' => hK u' b' c'
        have over2 : ∀ (u : World), Ch Y V1 u → ∀ u', blk u' w20.heap.size = some [.bool true] → Ch (· = w20.heap.size) u u' → recAt u' (w22.heap.size + 1) rc .busy none ∧ ∃ A m B C D pl cl ol, RJ Qt W1 w12.heap.size qb rb w19.heap.size w20.heap.size (w22.heap.size + 1) c U1 rc S (i + 1) (u'.putObj (w22.heap.size + 1) (rc .ready none)) A m B C D pl cl ol := fun u cc u' h9 cu => by
          have e := (e9Y u cc).trans' cu
          have r' := r9.ch e (by show ¬ (_ = _); omega)
          exact ⟨r', next u' A' m' B' C' D' (T9.ch (BK.like _) e fun b hb h => nT b (by have h : b = w20.heap.size := h; omega) (by have h : b = w20.heap.size := h; omega) hb) (by have := J.hm; omega) J.cf (by rw [e.blk (blk_lt l9) (by show ¬ (_ = _); omega)]; exact l9) (o9.ch e fun b hb h => by have := (hb' b hb).1; have h : b = w20.heap.size := h; omega) (fun b hb => (hb' b hb).2.1) r' h9 J.up (X9.trans' (e.mono fun b _ h => .inr (.inr (.inl h))))⟩
        refine ⟨fun k u => blk u v12.heap.size = some [.int .i64 (k : Int)] ∧ blk u w20.heap.size = some [.bool true] ∧ recAt u v14.heap.size rc1 .ready none ∧ (∀ j : Nat, 1 ≤ j → j ≤ k → (j : Int) ≠ most) ∧ Ch Y V1 u, ?_, ?_, ?_, ?_, ?_⟩
        · exact ⟨by rw [(eV.trans' cV1).blk (blk_lt b14) id]; exact b14, by rw [e9V1.blk (blk_lt g9) id]; exact g9, objAt_ch rV cV1 id, (fun j h1 h2 => by omega), Ch.refl _ _⟩
        · rintro k u u' ⟨g1, g2, g3, g4, g5⟩ cc
          exact ⟨by rw [cc.blk (blk_lt g1) id]; exact g1, by rw [cc.blk (blk_lt g2) id]; exact g2, g3.ch cc id, g4, g5.new cc⟩
        · rintro k u ⟨g1, g2, g3, g4, g5⟩
          exact rS2V u g5
        · rintro k x2 u hx2 ⟨g1, g2, g3, g4, g5⟩
          have hkl := (List.getElem?_eq_some_iff.1 hx2).1
          have hxS2 := List.mem_of_getElem? hx2
          refine hy1 _ _ _ _ _ _ _ _ _ u _ g3 ?_
          refine newE (e0 := En0) (e := x2.e) fun u1 xx1 d1 q1 => ⟨g3.ch d1 id, ?_⟩
          have ru1 := g3.ch d1 id
          have d2 := putObj_ch u1 v14.heap.size (rc1 .busy none)
          have q2 : (u1.putObj v14.heap.size (rc1 .busy none)).heap.size = u1.heap.size := by simp
          have ru2 := ru1.put (s' := .busy) (j' := none)
          generalize u1.putObj v14.heap.size (rc1 .busy none) = u2 at d2 ru2 q2 ⊢
          have lu := objAt_lt g3
          have su := g5.size
          have d02 : Ch (· = v14.heap.size) u u2 := (d1.mono fun _ _ h => h.elim).trans' d2
          have Y2 : Ch Y V1 u2 := g5.trans' (d02.mono fun b _ h => .inr (.inr (.inl h)))
          have k15 : blk u2 v12.heap.size = some [.int .i64 (k : Int)] := by rw [d02.blk (blk_lt g1) (by omega)]; exact g1
          have g92 : blk u2 w20.heap.size = some [.bool true] := by rw [d02.blk (blk_lt g2) (by omega)]; exact g2
          have x16 : blk u2 u.heap.size = some x2.e.cells := by rw [d2.blk (blk_lt xx1) (by omega)]; exact xx1
          simp only [add_at, Nat.zero_add, Nat.add_zero]
          refine ⟨_, by rw [cell_blk k15]; rfl, _, _, _, by rw [cell_blk (a14V u2 Y2)]; rfl, Sif_cases (fun g => ?_) fun _ => ?_⟩
          · have g : (k : Int) ≥ (N.length : Int) := of_decide_eq_true g
            omega
          have dd : Ch (fun _ => False) u2 u2.drew := Ch.drew u2
          have Y2d : Ch Y V1 u2.drew := Y2.new dd
          obtain ⟨y, hy2⟩ : ∃ y, N[k]? = some y := ⟨_, List.getElem?_eq_getElem (by omega)⟩
          have hpe : x2.pe = y.pe := by
            have h := congrArg (fun l => l[k]?) hSN
            simp only [List.getElem?_map, hx2, hy2, Option.map_some] at h
            exact Option.some.inj h
          have hye : (N.map (·.e))[k]? = some y.e := by rw [List.getElem?_map, hy2]; rfl
          obtain ⟨ky, oy, hpy, hcy⟩ := (rNV _ Y2d).at En.cells_len hye (by decide)
          refine rdN (show blk u2.drew u.heap.size = some x2.e.cells from x16) ⟨_, _, _, by rw [cell_blk (a14V _ Y2d)]; rfl, _, by rw [cell_blk (show blk u2.drew v12.heap.size = some [.int .i64 (k : Int)] from k15)]; rfl, by omega, by omega, ?_⟩
          rw [hpy]
          simp only [nn_some, add_at, Int.toNat_natCast]
          refine ⟨_, hcy 0 _ rfl, _, hcy 1 _ rfl, _, hcy 2 _ rfl, _, hcy 3 _ rfl, _, hcy 4 _ rfl, _, hcy 5 _ rfl, _, _, _, hcy 6 _ rfl, ?_⟩
          have hyl : y.l = x2.l := (congrArg PE.l hpe).symm
          refine same_ok (a := x2.e) (b := y.e) (l := x2.l) (dS2V _ Y2d x2 hxS2).rd (by have := (dNV _ Y2d y (List.mem_of_getElem? hy2)).rd; rw [hyl] at this; exact this) (by
            show x2.pe = y.e.as x2.l
            rw [hpe, ← hyl]; rfl) fun u4 d4 => ⟨true, rfl, ?_⟩
          have d24 := dd.trans' d4
          have Y4 := Y2.new d24
          have g94 : blk u4 w20.heap.size = some [.bool true] := by rw [d24.blk (blk_lt g92) id]; exact g92
          have k154 : blk u4 v12.heap.size = some [.int .i64 (k : Int)] := by rw [d24.blk (blk_lt k15) id]; exact k15
          have ru4 := ru2.ch d24 id
          refine ⟨fun u5 => blk u5 v12.heap.size = some [.int .i64 (k : Int)] ∧ blk u5 w20.heap.size = some [.bool true] ∧ recAt u5 v14.heap.size rc1 .busy none ∧ Ch Y V1 u5, ?_, _, by rw [cell_blk g94]; rfl, Sif_true (st_blk g94 (by simp) fun u5 b5 c5 z5 => ⟨by rw [c5.blk (blk_lt k154) (by show ¬ (_ = _); omega)]; exact k154, b5, ru4.ch c5 (by show ¬ (_ = _); omega), Y4.trans' (c5.mono fun b _ h => .inr (.inl h))⟩)⟩
          rintro u6 ⟨h15, h9, hr, hY⟩
          refine ⟨_, by rw [cell_blk h15]; rfl, ?_⟩
          rw [wrap_id (n := (k : Int) + 1) (by omega) (by omega)]
          refine st_blk h15 (by simp) fun u7 h157 c7 z7 => ?_
          have Y7 : Ch Y V1 u7 := hY.trans' (c7.mono fun b _ h => .inl h)
          have h97 : blk u7 w20.heap.size = some [.bool true] := by rw [c7.blk (blk_lt h9) (by show ¬ (_ = _); omega)]; exact h9
          have r7 := hr.ch c7 (by show ¬ (_ = _); omega)
          have h157 : blk u7 v12.heap.size = some [.int .i64 ((k + 1 : Nat) : Int)] := h157
          refine ⟨_, by rw [cell_blk h157]; rfl, _, by rw [cell_blk (moV u7 (XY u7 Y7))]; rfl, Sif_cases (fun g => ⟨r7, .inr ⟨by trivial, ?_⟩⟩) fun g => ⟨r7, .inl ⟨by trivial, ?_⟩⟩⟩
          · have d8 := putObj_ch u7 v14.heap.size (rc1 .done (some (.exit 4)))
            have r8 := r7.put (s' := .done) (j' := some (.exit 4))
            generalize u7.putObj v14.heap.size (rc1 .done (some (.exit 4))) = u8 at d8 r8 ⊢
            refine .inr (.inr (.inl ⟨r8, ?_⟩))
            have d9 := putObj_ch u8 v14.heap.size (rc1 .exhausted (some (.exit 4)))
            generalize u8.putObj v14.heap.size (rc1 .exhausted (some (.exit 4))) = u9 at d9 ⊢
            have d79 : Ch (· = v14.heap.size) u7 u9 := d8.trans' d9
            have Y9 : Ch Y V1 u9 := Y7.trans' (d79.mono fun b _ h => .inr (.inr (.inl h)))
            have g : ((k + 1 : Nat) : Int) = most := by simpa using g
            refine fin2 u9 (k + 1) _ Y9 (by rw [d79.blk (blk_lt h97) (by omega)]; exact h97) (by rw [d79.blk (blk_lt h157) (by omega)]; exact h157) (.inr g) fun u' h9 cu => ?_
            obtain ⟨t1, t2⟩ := over2 u9 Y9 u' h9 cu
            exact ⟨t1, .inl ⟨by trivial, t2⟩⟩
          · have d8 := putObj_ch u7 v14.heap.size (rc1 .ready none)
            have r8 := r7.put (s' := .ready) (j' := none)
            generalize u7.putObj v14.heap.size (rc1 .ready none) = u8 at d8 r8 ⊢
            have g : ((k + 1 : Nat) : Int) ≠ most := by simpa using g
            refine ⟨by rw [d8.blk (blk_lt h157) (by omega)]; exact h157, by rw [d8.blk (blk_lt h97) (by omega)]; exact h97, r8, fun j t1 t2 => ?_, Y7.trans' (d8.mono fun b _ h => .inr (.inr (.inl h)))⟩
            by_cases e : j ≤ k
            · exact g4 j t1 e
            · have : j = k + 1 := by omega
              rw [this]; exact g
        · rintro u ⟨g1, g2, g3, g4, g5⟩
          refine .inl ⟨g3, ?_⟩
          have e8 := putObj_ch u v14.heap.size (rc1 .exhausted none)
          generalize u.putObj v14.heap.size (rc1 .exhausted none) = u2 at e8 ⊢
          have Y2 : Ch Y V1 u2 := g5.trans' (e8.mono fun b _ h => .inr (.inr (.inl h)))
          refine fin2 u2 S2.length _ Y2 (by rw [e8.blk (blk_lt g2) (by omega)]; exact g2) (by rw [e8.blk (blk_lt g1) (by omega)]; exact g1) (.inl hS2l) fun u' h9 cu => ?_
          obtain ⟨q1, q2⟩ := over2 u2 Y2 u' h9 cu
          exact ⟨q1, .inl ⟨by trivial, q2⟩⟩
    · rintro v ⟨A', m', B', C', D', pl, cl, ol, J⟩
      refine .inl ⟨J.rcd, ?_⟩
      have lv := objAt_lt J.rcd
      have sv := J.ch.size
      have e8 := putObj_ch v (w22.heap.size + 1) (rc .exhausted none)
      generalize v.putObj (w22.heap.size + 1) (rc .exhausted none) = v2 at e8 ⊢
      have X2 : Ch (RX Qt U1 W1 w19.heap.size w20.heap.size (w22.heap.size + 1)) W1 v2 := J.ch.trans' (e8.mono fun b _ h => .inr (.inr (.inr (.inl h))))
      have nT : ∀ b, b < W1.heap.size → (w12.heap.size < b ∨ ¬ U1 b) → ¬ TU B' C' D' b := fun b g1 g2 h => by
        rcases J.up b h with q | q
        · rcases g2 with g2 | g2
          · have := (U1n b q).1; omega
          · exact g2 q
        · omega
      have T2 := J.t.ch (BK.like _) e8 fun b hb h => nT b (by omega) (.inl (by omega)) hb
      have l2 : blk v2 w19.heap.size = some [.slice pl S.length cl] := by rw [e8.blk (blk_lt J.l8) (by omega)]; exact J.l8
      have row2 := J.row.ch e8 fun b hb h => by have := (J.on b hb).1; omega
      rw [List.take_length] at row2
      have g2 : blk v2 w20.heap.size = some [.bool true] := by rw [e8.blk (blk_lt J.b9) (by omega)]; exact J.b9
      refine ⟨_, by rw [cell_blk (kbV v2 X2)]; rfl, _, _, _, by rw [cell_blk l2]; rfl, ?_⟩
      have eS : ∀ b ∈ eB S, W.heap.size ≤ b ∧ b < W1.heap.size := fun b hb => ⟨hnew b (List.mem_append_right _ hb), hlt1 b (List.mem_append_right _ hb)⟩
      have hmm := J.hm
      have hm33 : m' ≤ 2 ^ 33 := by omega
      refine sameAll_ok (BK.like _) (G := S) (M := M) T2.b row2 (datV v2 X2) (List.nodup_append.1 C13.nd).2.1 (fun b hb => ⟨fun h => (J.on b hb).2 (.inr (.inr h)), fun h => by have := eS b h; have := (J.on b hb).1; omega⟩) (fun b hb h => by have := eS b hb; exact nT b (by omega) (.inl (by omega)) (.inr (.inr h))) (rMV v2 X2) (dMV v2 X2) hSM (fun x hx => ?_) (by omega) fun v3 D3 b3 hD3 c3 => ⟨true, rfl, ?_⟩
      · have hxA : x.pe ∈ A.L := (ordered_perm A.L).mem_iff.1 (by rw [← hS]; exact List.mem_map.2 ⟨x, hx, rfl⟩)
        exact (Q12.wf.ok _ hxA).len
      have Tlt := T2.lt (BK.like _)
      have s3 := c3.size
      have s2 := X2.size
      -- what the book takes
      have D3n : ∀ b, D3 b → (D' b ∨ b ∈ eB S ∨ v2.heap.size ≤ b) := hD3
      have st3 : ∀ b, b < W.heap.size → (w12.heap.size < b ∨ ¬ U1 b) → ¬ (D' b ∨ b ∈ eB S) := fun b g1 g2 h => by
        rcases h with h | h
        · exact nT b (by omega) g2 (.inr (.inr h))
        · have := eS b h; omega
      have BC3 : ∀ b, B' b ∨ C' b → ¬ (D' b ∨ b ∈ eB S) ∧ ¬ D3 b := fun b hb => by
        have n1 : ¬ (D' b ∨ b ∈ eB S) := fun h => by
          rcases h with h | h
          · exact hb.elim (fun q => T2.DB b h q) fun q => T2.DC b h q
          · have := eS b h
            exact nT b (by omega) (.inl (by omega)) (hb.elim .inl fun q => .inr (.inl q))
        refine ⟨n1, fun h => ?_⟩
        rcases D3n b h with q | q | q
        · exact n1 (.inl q)
        · exact n1 (.inr q)
        · have := Tlt b (hb.elim .inl fun q => .inr (.inl q)); omega
      have bx3 : ∀ b cs', blk v2 b = some cs' → b < W.heap.size → (w12.heap.size < b ∨ ¬ U1 b) → blk v3 b = some cs' := fun b cs' hb g1 g2 => by rw [c3.blk (blk_lt hb) (st3 b g1 g2)]; exact hb
      have o1 := c12W.size
      have o2 := c410.size
      have u5 : ¬ U1 w5.heap.size := fun h => (U1n _ h).2.2.2.1 rfl
      have u8 : ¬ U1 w8.heap.size := fun h => (U1n _ h).2.2.2.2.1 rfl
      have k3 := bx3 _ _ (kbV v2 X2) (by omega) (.inl (by omega))
      have q3 := bx3 _ _ (bxV v2 X2).1 (by omega) (.inr u5)
      have x3 := bx3 _ _ (bxV v2 X2).2 (by omega) (.inr u8)
      have Q3 := T2.q.ch c3 fun b hb => (BC3 b (.inl hb)).1
      have R3 := T2.r.ch c3 fun b hb => (BC3 b (.inr hb)).1
      refine ⟨_, by rw [cell_blk k3]; rfl, _, by rw [cell_blk q3]; rfl, _, by rw [cell_blk x3]; rfl, ?_⟩
      refine alls_ok (BK.like _) b3 Q3 R3 T2.BC (fun b hb h => (BC3 b (.inl h)).2 hb) (fun b hb h => (BC3 b (.inr h)).2 hb) (by omega) fun v4 m4 D4 b4 hm4 Q4 R4 hD4 c4 => ⟨true, rfl, ?_⟩
      have nD3 : ∀ b, b < W.heap.size → (w12.heap.size < b ∨ ¬ U1 b) → ¬ D3 b := fun b g1 g2 h => by
        rcases D3n b h with q | q | q
        · exact st3 b g1 g2 (.inl q)
        · exact st3 b g1 g2 (.inr q)
        · omega
      have s4' := c4.size
      have nD4 : ∀ b, b < W.heap.size → (w12.heap.size < b ∨ ¬ U1 b) → ¬ D4 b := fun b g1 g2 h => by
        rcases hD4 b h with q | q
        · exact nD3 b g1 g2 q
        · omega
      have BC4 : ∀ b, B' b ∨ C' b → ¬ D4 b := fun b hb h => by
        rcases hD4 b h with q | q
        · exact (BC3 b hb).2 q
        · have := hb.elim (Q3.lt b) (R3.lt b); omega
      have k4 : blk v4 w13.heap.size = some [.pointer (some ⟨w12.heap.size, 0, none⟩)] := by rw [c4.blk (blk_lt k3) (nD3 _ (by omega) (.inl (by omega)))]; exact k3
      refine ⟨_, by rw [cell_blk k4]; rfl, ?_⟩
      refine stands_ok b4 (by omega) fun v5 D5 b5 hD5 c5 => ⟨true, rfl, ?_⟩
      have cc5 : ∀ b cs', blk v3 b = some cs' → b < W.heap.size → (w12.heap.size < b ∨ ¬ U1 b) → blk v5 b = some cs' := fun b cs' hb g1 g2 => by
        have h4 : blk v4 b = some cs' := by rw [c4.blk (blk_lt hb) (nD3 b g1 g2)]; exact hb
        rw [c5.blk (blk_lt h4) (nD4 b g1 g2)]; exact h4
      refine ⟨_, by rw [cell_blk (cc5 _ _ k3 (by omega) (.inl (by omega)))]; rfl, _, by rw [cell_blk (cc5 _ _ q3 (by omega) (.inr u5))]; rfl, _, by rw [cell_blk (cc5 _ _ x3 (by omega) (.inr u8))]; rfl, ?_⟩
      have Q5' := Q4.ch c5 fun b hb h => BC4 b (.inl hb) h
      have R5' := R4.ch c5 fun b hb h => BC4 b (.inr hb) h
      refine alls_ok (BF.like _) b5 Q5' R5' T2.BC (fun b hb h => BC4 b (.inl h) (hD5 b hb)) (fun b hb h => BC4 b (.inr h) (hD5 b hb)) (by omega) fun v6 m6 D6 b6 hm6 Q6 R6 hD6 c6 => ⟨true, rfl, ?_⟩
      have g3 := bx3 _ _ g2 (by omega) (.inl (by omega))
      have g5 := cc5 _ _ g3 (by omega) (.inl (by omega))
      have g6 : blk v6 w20.heap.size = some [.bool true] := by rw [c6.blk (blk_lt g5) fun h => nD4 _ (by omega) (.inl (by omega)) (hD5 _ h)]; exact g5
      refine ⟨_, by rw [cell_blk g6]; rfl, Sif_true (Sif_true (Sif_true (Sif_true ?_)))⟩
      have d2 := dV v2 X2
      have d3 := objAt_ch d2 c3 (st3 _ (by omega) (.inl (by omega)))
      have d4 := objAt_ch d3 c4 (nD3 _ (by omega) (.inl (by omega)))
      have d5 := objAt_ch d4 c5 (nD4 _ (by omega) (.inl (by omega)))
      have d6 := objAt_ch d5 c6 fun h => nD4 _ (by omega) (.inl (by omega)) (hD5 _ h)
      refine takeM_of d6 fun v7 c7 z7 => ?_
      have lowU : ∀ b, b < w.heap.size → ¬ U1 b := fun b hb h => by have := (U1n b h).2.2.2.2.2; have := c04.size; omega
      have w2' := wV v2 X2
      have oW : w.heap.size ≤ w12.heap.size := by have := c04.size; have := (old w12 c12).size; omega
      exact hk v7 (((((w2'.trans c3 fun b hb h => st3 b (by omega) (.inr (lowU b hb)) h).trans c4 fun b hb h => nD3 b (by omega) (.inr (lowU b hb)) h).trans c5 fun b hb h => nD4 b (by omega) (.inr (lowU b hb)) h).trans c6 fun b hb h => nD4 b (by omega) (.inr (lowU b hb)) (hD5 b h)).trans c7 fun b hb h => by have h : b = w22.heap.size := h; omega)
end Go.Proofs.YtipbbjnmpnfhpaaGreatDoor
namespace Go.Sv
open Go Go.ChangeShapes Go.WideShapes Go.ChangeAt Go.RowKit
set_option linter.unusedVariables false

/-- the cells cs, of type t, are typed, and what they lead to reads; ok n b: a row of n elements of b bytes is no longer than allowed -/
def Inp (P : Program) (w : World) (ok : Nat → Nat → Prop) : Nat → TypeId → List Value → Prop
  | 0, _, _ => False
  | n + 1, t, cs =>
    match P.underlying t with
    | some .bool => ∃ b : Bool, cs = [.bool b]
    | some (.int k) => ∃ i : Int, cs = [.int k i] ∧ (Lit.int k i).wf = true
    | some .string => ∃ s : ByteArray, cs = [.string s] ∧ ok s.size 1
    | some (.slice e) => ∃ (p : Option Addr) (L : List (List Value)) (c : Nat), cs = [.slice p L.length c] ∧ L.length ≤ c ∧ ok c (P.bytesOf e) ∧ Rd w p L.length (P.cellsOf e) L.flatten ∧ ∀ x ∈ L, Inp P w ok n e x
    | some (.struct fs) => cs.length = P.cellsOf t ∧ ∀ f ∈ fs.toList, Inp P w ok n f.type ((cs.drop f.offset).take (P.cellsOf f.type))
    | _ => True
section
variable {P : Program} {w : World} {ok : Nat → Nat → Prop} {n : Nat} {t : TypeId} {cs : List Value}
theorem Inp.bool (h : Inp P w ok n t cs) (ht : P.underlying t = some .bool) : ∃ b : Bool, cs = [.bool b] := by
  cases n with
  | zero => exact h.elim
  | succ n => unfold Inp at h; rw [ht] at h; exact h
theorem Inp.int {k : IntKind} (h : Inp P w ok n t cs) (ht : P.underlying t = some (.int k)) : ∃ i : Int, cs = [.int k i] ∧ (Lit.int k i).wf = true := by
  cases n with
  | zero => exact h.elim
  | succ n => unfold Inp at h; rw [ht] at h; exact h
theorem Inp.str (h : Inp P w ok n t cs) (ht : P.underlying t = some .string) : ∃ s : ByteArray, cs = [.string s] ∧ ok s.size 1 := by
  cases n with
  | zero => exact h.elim
  | succ n => unfold Inp at h; rw [ht] at h; exact h
theorem Inp.slice {e : TypeId} (h : Inp P w ok n t cs) (ht : P.underlying t = some (.slice e)) :
    ∃ (p : Option Addr) (L : List (List Value)) (c : Nat), cs = [.slice p L.length c] ∧ L.length ≤ c ∧ ok c (P.bytesOf e) ∧ Rd w p L.length (P.cellsOf e) L.flatten ∧ ∀ x ∈ L, ∃ n, Inp P w ok n e x := by
  cases n with
  | zero => exact h.elim
  | succ n =>
    unfold Inp at h; rw [ht] at h
    obtain ⟨p, L, c, h1, h2, h3, h4, h5⟩ := h
    exact ⟨p, L, c, h1, h2, h3, h4, fun x hx => ⟨n, h5 x hx⟩⟩
theorem Inp.struct {fs : Array Field} (h : Inp P w ok n t cs) (ht : P.underlying t = some (.struct fs)) : cs.length = P.cellsOf t ∧ ∀ f ∈ fs.toList, ∃ n, Inp P w ok n f.type ((cs.drop f.offset).take (P.cellsOf f.type)) := by
  cases n with
  | zero => exact h.elim
  | succ n =>
    unfold Inp at h; rw [ht] at h
    exact ⟨h.1, fun f hf => ⟨n, h.2 f hf⟩⟩
end
def oneCells (P : Program) : Nat → List Field → Bool
  | _, [] => true
  | i, f :: r => f.offset == i && P.cellsOf f.type == 1 && oneCells P (i + 1) r
/-- cells, each of its own type -/
def InpEach (P : Program) (w : World) (ok : Nat → Nat → Prop) : List TypeId → List Value → Prop
  | [], [] => True
  | t :: ts, c :: cs => (∃ n, Inp P w ok n t [c]) ∧ InpEach P w ok ts cs
  | _, _ => False
theorem Inp.fields {P : Program} {w : World} {ok : Nat → Nat → Prop} {n : Nat} {t : TypeId} {cs : List Value} {fs : Array Field} (h : Inp P w ok n t cs) (ht : P.underlying t = some (.struct fs)) (hone : oneCells P 0 fs.toList = true)
    (hn : P.cellsOf t = fs.toList.length) : InpEach P w ok (fs.toList.map (·.type)) cs := by
  obtain ⟨h1, h2⟩ := h.struct ht
  have go : ∀ (l : List Field) (i : Nat), oneCells P i l = true → cs.length = i + l.length → (∀ f ∈ l, ∃ n, Inp P w ok n f.type ((cs.drop f.offset).take (P.cellsOf f.type))) → InpEach P w ok (l.map (·.type)) (cs.drop i) := by
    intro l
    induction l with
    | nil => intro i _ hl _; rw [List.drop_of_length_le (by simp at hl; omega)]; trivial
    | cons f r ih =>
      intro i ho hl hi
      simp only [oneCells, Bool.and_eq_true, beq_iff_eq] at ho
      obtain ⟨⟨h3, h4⟩, h5⟩ := ho
      simp only [List.length_cons] at hl
      have h6 := hi f (List.mem_cons_self ..)
      rw [h3, h4, List.drop_eq_getElem_cons (by omega)] at h6
      rw [List.drop_eq_getElem_cons (by omega)]
      exact ⟨h6, ih (i + 1) h5 (by omega) fun g hg => hi g (List.mem_cons_of_mem _ hg)⟩
  exact go fs.toList 0 hone (by omega) h2
theorem cell_at {w : World} {b j : Nat} {v : Value} (h : w.cell? ⟨b, j, none⟩ = some v) : ∃ cs, cellsAt w b = some cs ∧ cs[j]? = some v := by
  unfold World.cell? at h
  unfold cellsAt
  simp only at h
  split at h
  · rename_i c t fz hh
    exact ⟨c.toList, by rw [hh], by simpa using h⟩
  · cases h
/-- a run of cells that reads is a row -/
theorem rd_of_cells {w : World} {a : Addr} {n sz : Nat} {xs : List Value} (hl : xs.length = n * sz) (hc : ∀ i, i < n * sz → w.cell? (a.add i) = xs[i]?) : Rd w (some a) n sz xs := by
  refine ⟨hl, ?_⟩
  by_cases h0 : n * sz = 0
  · exact .inl h0
  · have h1 := hc 0 (by omega)
    rw [List.getElem?_eq_getElem (by omega)] at h1
    have hs := World.cell?_spot h1
    obtain ⟨b, o, sp⟩ := a
    have hsp : sp = none := by
      unfold Addr.add at hs
      split at hs <;> simp_all
    subst hsp
    simp only [add_at] at hc h1
    obtain ⟨cs, hcs, _⟩ := cell_at h1
    right
    have hat : ∀ i, i < n * sz → cs[o + i]? = xs[i]? := fun i hi => by
      rw [← cell_of hcs, hc i hi]
    have hlast := hat (n * sz - 1) (by omega)
    rw [List.getElem?_eq_getElem (by omega : n * sz - 1 < xs.length)] at hlast
    have hlt := (List.getElem?_eq_some_iff.1 hlast).1
    refine ⟨b, o, cs, rfl, hcs, by omega, ?_⟩
    apply List.ext_getElem?
    intro i
    rw [List.getElem?_take]
    split
    · rename_i hi; rw [List.getElem?_drop, hat i hi]
    · rw [List.getElem?_eq_none (by omega)]
section
variable {H : Type} {enc : TypeId × Value → H} {P : Program} {w : World}
theorem flatten_get {sz : Nat} (L : List (List Value)) (h : ∀ x ∈ L, x.length = sz) (i j : Nat) (hj : j < sz) : L.flatten[i * sz + j]? = L[i]?.bind fun x => x[j]? := by
  induction L generalizing i with
  | nil => simp
  | cons x L ih =>
    have hx : x.length = sz := h x (by simp)
    rw [List.flatten_cons]
    cases i with
    | zero => rw [Nat.zero_mul, Nat.zero_add, List.getElem?_append_left (by omega)]; simp
    | succ i =>
      rw [List.getElem?_append_right (by rw [hx, Nat.add_mul]; omega), hx, show (i + 1) * sz + j - sz = i * sz + j by rw [Nat.add_mul]; omega, ih (fun y hy => h y (by simp [hy])) i]; simp
theorem flatten_len {sz : Nat} (L : List (List Value)) (h : ∀ x ∈ L, x.length = sz) : L.flatten.length = L.length * sz := by
  induction L with
  | nil => simp
  | cons x L ih => rw [List.flatten_cons, List.length_append, h x (by simp), ih fun y hy => h y (by simp [hy]), List.length_cons, Nat.add_mul]; omega
/-- the bound that a way of measuring data gives -/
structure Measure (P : Program) (H : Type) where
  ok : Nat → Nat → Prop
  good : TypeId → DataW H → Prop
  str : ∀ {t : TypeId} {l : List UInt8}, good t (.lit (.string l)) → ok l.length 1
  nil : ∀ e, ok 0 (P.bytesOf e)
  slice : ∀ {t e : TypeId} {a b : List (DataW H)}, P.underlying t = some (.slice e) → good t (.slice a b) → ok (a.length + b.length) (P.bytesOf e) ∧ ∀ d ∈ a, good e d
  agg : ∀ {t : TypeId} {fs : Array Field} {l : List (DataW H)}, P.underlying t = some (.struct fs) → good t (.agg l) → ∀ (j : Nat) (f : Field) (d : DataW H), fs[j]? = some f → l[j]? = some d → good f.type d
theorem inp_of_trod (M : Measure P H) (base : Nat) : ∀ (fuel : Nat) (t : TypeId) (cs : List Value) (x : DataW H × List MemPlace), DataW.trod enc P w base (fun _ => true) true fuel t cs = some x → M.good t x.1 → ∃ n, Inp P w M.ok n t cs := by
  have mono : ∀ (a b : Nat) (t : TypeId) (cs : List Value), a ≤ b → Inp P w M.ok a t cs → Inp P w M.ok b t cs := by
    intro a
    induction a with
    | zero => intro b t cs _ h; exact h.elim
    | succ a ih =>
      intro b t cs hab h
      obtain ⟨b, rfl⟩ : ∃ c, b = c + 1 := ⟨b - 1, by omega⟩
      unfold Inp at h ⊢
      split at h
      · exact h
      · exact h
      · exact h
      · obtain ⟨p, L, c, h1, h2, h3, h4, h5⟩ := h
        exact ⟨p, L, c, h1, h2, h3, h4, fun x hx => ih b _ _ (by omega) (h5 x hx)⟩
      · exact ⟨h.1, fun f hf => ih b _ _ (by omega) (h.2 f hf)⟩
      · trivial
  intro fuel
  induction fuel with
  | zero => intro t cs x h; simp [DataW.trod] at h
  | succ fuel ih =>
    intro t cs x h hg
    cases ht : P.underlying t with
    | none => exact ⟨1, by unfold Inp; rw [ht]; trivial⟩
    | some td =>
      cases td with
      | bool =>
        obtain ⟨b, rfl, _⟩ := DataW.trod_bool ht h
        exact ⟨1, by unfold Inp; rw [ht]; exact ⟨b, rfl⟩⟩
      | int k =>
        obtain ⟨i, rfl, _, hw⟩ := DataW.trod_int ht h
        exact ⟨1, by unfold Inp; rw [ht]; exact ⟨i, rfl, hw⟩⟩
      | string =>
        obtain ⟨s, rfl, rfl, _⟩ := DataW.trod_string ht h
        exact ⟨1, by unfold Inp; rw [ht]; exact ⟨s, rfl, by simpa using M.str hg⟩⟩
      | slice e =>
        rcases DataW.trod_slice ht h with ⟨rfl, _⟩ | ⟨a, len, cap, elems, rest, m, hm, rfl, rfl, hb, hl, hmx, hlen, hel, hsp, hns⟩
        · exact ⟨1, by unfold Inp; rw [ht]; exact ⟨none, [], 0, rfl, Nat.le_refl _, M.nil e, ⟨by simp, .inl (by simp)⟩, by simp⟩⟩
        · obtain ⟨hk, hge⟩ := M.slice ht hg
          obtain rfl : fuel = m := by omega
          have hrest := (hsp rfl).1
          have hcap : elems.length + rest.length = cap := by omega
          have each : ∀ i, i < len → ∃ cs', w.cells? base (a.add (i * P.cellsOf e)) (P.cellsOf e) = some cs' ∧ ∃ n, Inp P w M.ok n e cs' := fun i hi => by
            have h1 := hel i hi
            have h2 : elems[i]? = some (elems[i]'(by omega)) := List.getElem?_eq_getElem (by omega)
            rw [h2] at h1
            cases hc : w.cells? base (a.add (i * P.cellsOf e)) (P.cellsOf e) with
            | none => rw [hc] at h1; cases h1
            | some cs' =>
              rw [hc] at h1
              exact ⟨cs', rfl, ih e cs' _ h1 (hge _ (List.mem_map.2 ⟨_, List.mem_of_getElem? h2, rfl⟩))⟩
          obtain ⟨F, hF⟩ := Deep.choose_lt each
          obtain ⟨N, hN⟩ := Deep.fuel_lt (n := len) (q := fun i n => Inp P w M.ok n e (F i)) (fun i a b hab h => mono a b _ _ hab h) (fun i hi => (hF i hi).2)
          have hFl : ∀ x ∈ (List.range len).map F, x.length = P.cellsOf e := fun x hx => by
            obtain ⟨i, hi, rfl⟩ := List.mem_map.1 hx
            exact (World.cells?_some (hF i (List.mem_range.1 hi)).1).2.1
          have hlen' : ((List.range len).map F).length = len := by simp
          refine ⟨N + 1, ?_⟩
          unfold Inp
          rw [ht]
          refine ⟨some a, (List.range len).map F, cap, by rw [hlen'], by rw [hlen']; exact hl, by simpa [hcap] using hk, ?_, fun x hx => ?_⟩
          · rw [hlen']
            have hll : ((List.range len).map F).flatten.length = len * P.cellsOf e := by
              rw [flatten_len _ hFl, hlen']
            refine rd_of_cells hll fun i hi => ?_
            have hsz : 0 < P.cellsOf e := Nat.pos_of_ne_zero fun h0 => by rw [h0] at hi; simp at hi
            have hdm := Nat.div_add_mod i (P.cellsOf e)
            have hil : i / P.cellsOf e < len := by rw [Nat.div_lt_iff_lt_mul hsz]; exact hi
            have hj := Nat.mod_lt i hsz
            have h3 := (World.cells?_some (hF _ hil).1).2.2 (i % P.cellsOf e) hj
            rw [Deep.add_add, Nat.mul_comm, hdm] at h3
            rw [h3]
            have h4 := flatten_get _ hFl (i / P.cellsOf e) (i % P.cellsOf e) hj
            rw [Nat.mul_comm, hdm] at h4
            rw [h4, List.getElem?_map, List.getElem?_range hil]; simp
          · obtain ⟨i, hi, rfl⟩ := List.mem_map.1 hx
            exact hN i (List.mem_range.1 hi)
      | struct fs =>
        obtain ⟨xs, m, hm, rfl, hcl, hxl, hf⟩ := DataW.trod_struct ht h
        obtain rfl : fuel = m := by omega
        have each : ∀ i, i < fs.size → ∃ n, ∀ f, fs[i]? = some f → Inp P w M.ok n f.type ((cs.drop f.offset).take (P.cellsOf f.type)) := fun i hi => by
          have hfi : fs[i]? = some fs[i] := Array.getElem?_eq_getElem hi
          have h1 := hf i _ hfi
          have h2 : xs[i]? = some (xs[i]'(by omega)) := List.getElem?_eq_getElem (by omega)
          rw [h2] at h1
          obtain ⟨n, hn⟩ := ih _ _ _ h1 (M.agg ht hg i _ _ hfi (by rw [List.getElem?_map, h2]; rfl))
          exact ⟨n, fun f hf' => by rw [hfi] at hf'; cases hf'; exact hn⟩
        obtain ⟨N, hN⟩ := Deep.fuel_lt (n := fs.size) (q := fun i n => ∀ f, fs[i]? = some f → Inp P w M.ok n f.type ((cs.drop f.offset).take (P.cellsOf f.type))) (fun i a b hab h f hf => mono a b _ _ hab (h f hf)) each
        refine ⟨N + 1, ?_⟩
        unfold Inp
        rw [ht]
        refine ⟨hcl, fun f hf' => ?_⟩
        obtain ⟨i, hi, rfl⟩ := List.mem_iff_getElem.1 hf'
        exact hN i (by simpa using hi) _ (by simp)
      | _ => exact ⟨1, by unfold Inp; rw [ht]; trivial⟩
end
/-- an argument as it comes in -/
def InpV (P : Program) (w : World) (ok : Nat → Nat → Prop) (t : TypeId) (v : Value) : Prop :=
  (∃ n, Inp P w ok n t v.cells.toList) ∧ (match P.underlying t with | some (.struct _) | some (.array _ _) => ∃ cs, v = .agg cs | _ => oneV v = true)
def InpAll (P : Program) (w : World) (ok : Nat → Nat → Prop) : List TypeId → List Value → Prop
  | [], [] => True
  | t :: ts, v :: vs => InpV P w ok t v ∧ InpAll P w ok ts vs
  | _, _ => False
section
variable {H : Type} {enc : TypeId × Value → H} {P : Program} {w : World}
theorem inpAll_of (M : Measure P H) : ∀ {ts : List TypeId} {vs : List Value} {ds : List (DataW H)} {ps : List MemPlace}, DataW.TrodAll enc P w 0 (fun _ => true) true ts vs ds ps →
    (∀ (j : Nat) t v, ts[j]? = some t → vs[j]? = some v → ∃ b, Value.okWide P w .any b t v) → (∀ (j : Nat) t d, ts[j]? = some t → ds[j]? = some d → M.good t d) → InpAll P w M.ok ts vs
  | [], [], _, _, _, _, _ => trivial
  | t :: ts, v :: vs, d :: ds, ps, h, hv, hg => by
    obtain ⟨p, q, ⟨fuel, hf⟩, h2, _⟩ := h
    refine ⟨⟨inp_of_trod M 0 fuel t _ _ hf (hg 0 t d rfl rfl), ?_⟩, inpAll_of M h2 (fun j t v ht hv' => hv (j + 1) t v ht hv') fun j t d ht hd => hg (j + 1) t d ht hd⟩
    obtain ⟨b, h3⟩ := hv 0 t v rfl rfl
    unfold Value.okWide at h3
    cases ht : P.underlying t with
    | none => simp only [ht] at h3 ⊢; unfold Cell.okWide Cell.ok at h3; rw [ht] at h3; cases v <;> first | rfl | exact h3.elim
    | some td =>
      cases td <;> simp only [ht] at h3 ⊢
      all_goals first
        | (obtain ⟨cs, h3, _⟩ := h3; exact ⟨cs, h3⟩)
        | (unfold Cell.okWide Cell.ok at h3; rw [ht] at h3; cases v <;> first | rfl | exact h3.elim)
  | [], _ :: _, _, _, h, _, _ => h.elim
  | _ :: _, [], _, _, h, _, _ => h.elim
  | _ :: _, _ :: _, [], _, h, _, _ => h.elim
theorem trodAll_stays {W W' : World} (hl : laidOutB P = true) (hb : RowKit.Below W.heap.size W W') : ∀ {ts : List TypeId} {vs : List Value} {ds : List (DataW H)} {ps : List MemPlace},
    (∀ t ∈ ts, P.readableRec t = true ∧ t < P.types.size) → DataW.TrodAll enc P W 0 (fun _ => true) true ts vs ds ps → DataW.TrodAll enc P W' 0 (fun b => decide (b < W.heap.size)) true ts vs ds ps
  | [], [], [], _, _, h => h
  | t :: ts, v :: vs, d :: ds, ps, hr, h => by
    obtain ⟨p, q, h1, h2, e⟩ := h
    have hlt : ∀ x ∈ p, x.block < W.heap.size := by obtain ⟨m, hm⟩ := h1; exact DataW.trod_lt m _ _ _ hm
    exact ⟨p, q, Below.trod hl (hr t (List.mem_cons_self ..)).1 (hr t (List.mem_cons_self ..)).2 h1 hb hlt, trodAll_stays hl hb (fun t ht => hr t (List.mem_cons_of_mem _ ht)) h2, e⟩
  | [], _ :: _, _, _, _, h => h.elim
  | _ :: _, [], _, _, _, h => h.elim
  | [], [], _ :: _, _, _, h => h.elim
  | _ :: _, _ :: _, [], _, _, h => h.elim
theorem trodAll_ds_len {spare : Nat → Bool} {base : Nat} {held : Bool} : ∀ {ts : List TypeId} {vs : List Value} {ds : List (DataW H)} {ps : List MemPlace}, DataW.TrodAll enc P w base spare held ts vs ds ps → ds.length = ts.length
  | [], [], [], _, _ => rfl
  | t :: ts, v :: vs, d :: ds, ps, ⟨p, q, _, h, _⟩ => by simp [trodAll_ds_len h]
  | [], _ :: _, _, _, h => h.elim
  | _ :: _, [], _, _, h => h.elim
  | [], [], _ :: _, _, h => h.elim
  | _ :: _, _ :: _, [], _, h => h.elim
theorem law_contract {C : Checked} {f : FuncId} {fn : Func} {s : ChangeSpec} {tb : TypeId} (M : Measure C.prog H)
    (hl : laidOutB C.prog = true) (hvars : s.vars = []) (hfun : ∀ ds : List (DataW H), ds.length = fn.params.toList.length → s.fn H ds = { results := [.lit (.bool true)], args := ds })
    (hres : fn.resultTypes = #[tb]) (htb : C.prog.underlying tb = some .bool) (hrec : fn.params.toList.all (fun t => C.prog.readableRec t && decide (t < C.prog.types.size)) = true)
    {W : World} {base : Nat} {args : Array Value} {ds gs : List (DataW H)} {before : List MemPlace}
    (hval : ∀ (j : Nat) t v, fn.params[j]? = some t → args[j]? = some v → Value.okWide C.prog W .any base t v)
    (hW : DataW.Whole enc C.prog fn.params.toList s.vars false W args.toList ds gs before) (hgood : ∀ (j : Nat) (t : TypeId) (d : DataW H), fn.params.toList[j]? = some t → ds[j]? = some d → M.good t d)
    (walk : InpAll C.prog W M.ok fn.params.toList args.toList → callP C.prog f args.toList W fun v w' => v = .bool true ∧ Ch (fun _ => False) W w') :
    Calls C.prog f args W fun e W' => ∃ v, e = .returned v ∧ s.post enc C.prog fn false true false false W args v W' := by
  have hW' := hW
  obtain ⟨p, q, hA, hV, hbef, hfz, hnd⟩ := hW
  rw [hvars] at hV
  obtain ⟨rfl, rfl⟩ := trodVars_none hV
  have hlen := trodAll_ds_len hA
  have hrec' : ∀ t ∈ fn.params.toList, C.prog.readableRec t = true ∧ t < C.prog.types.size := fun t ht => by
    have := List.all_eq_true.1 hrec t ht
    simpa using this
  have hin := inpAll_of M hA (fun j t v ht hv => ⟨base, hval j t v (by simpa using ht) (by simpa using hv)⟩) hgood
  have hc := walk hin
  have hc2 : Calls C.prog f args W fun e w' => ∃ v, e = .returned v ∧ (v = .bool true ∧ Ch (fun _ => False) W w') := by
    unfold callP at hc
    have e : args.toList.toArray = args := by simp
    rw [e] at hc
    exact hc
  refine Calls.mono hc2 fun e W' ⟨v, he, hv, hch⟩ => ?_
  subst hv
  have bel : RowKit.Below W.heap.size W W' := hch.below (Nat.le_refl _) fun _ h => h.elim
  refine ⟨_, he, ds, [], before, [], p, [], hW', ?_, ?_, ?_, bel.frame _, fun h => by cases h⟩
  · rw [List.append_nil, hfun ds hlen, hres]
    exact trodAll_mk1 (shut_bool htb _)
  · rw [List.append_nil, hfun ds hlen]
    exact trodAll_stays hl bel hrec' hA
  · rw [List.append_nil, hfun ds hlen, hvars]; rfl
end
end Go.Sv
namespace Go.Sv
open Go Go.ChangeShapes Go.WideShapes Go.ChangeAt Go.RowKit
set_option linter.unusedVariables false
section
variable {H : Type} {enc : TypeId × Value → H}
theorem lift_laid {C : Checked} {os : Os} (started : os.Started) {f : FuncId} {fn : Func} {s : ChangeSpec} {o : OpenSpec} {k : (H : Type) → List (DataW H) → Bool} (M : Measure C.prog H) {dom : List PathCond} {laid : List (String × DataW Unit)} {tb : TypeId} {F : Stop.Interp}
    (ho : o = { OpenSpec.ofChange s with cond := some k }) (hM : ∀ ds : List (DataW H), k H ds = true → ∀ d ∈ ds, ∀ t, M.good t d)
    (own : ownKnob C.prog.godebug = none) (hl : laidOutB C.prog = true) (noInit : C.prog.inits.idxOf? f = none) (hfn : C.prog.funcs[f]? = some fn)
    (witness : ∃ (w : World) (tape : Tape) (i : Input), w.os = os ∧ (w.forCall tape i).Shaped C.prog ∧ i.vars = [] ∧ Input.okWide C.prog (w.forCall tape i) .any w.heap.size f i ∧
      o.preRow enc C.prog fn dom false laid (w.forCall tape i).memory i.args ∧ ({} : Assume).holds C.prog (lone (Frame.enter C.prog f i.args .normal) [] (w.forCall tape i)))
    (hvars : s.vars = []) (hfun : ∀ ds : List (DataW H), ds.length = fn.params.toList.length → s.fn H ds = { results := [.lit (.bool true)], args := ds })
    (hres : fn.resultTypes = #[tb]) (htb : C.prog.underlying tb = some .bool) (hrec : fn.params.toList.all (fun t => C.prog.readableRec t && decide (t < C.prog.types.size)) = true)
    (walk : ∀ (W : World) (args : Array Value), laidMetH C.prog laid W → InpAll C.prog W M.ok fn.params.toList args.toList →
      callP C.prog f args.toList W fun v w' => v = .bool true ∧ Ch (fun _ => False) W w') :
    ReturnsInHanded {} C os f .any (o.preRow enc C.prog fn dom false laid) ((o.at F).post enc C.prog fn false true false false) := by
  subst ho
  refine returnsInHanded_of_row own started noInit hfn witness ?_
  intro W base args ds gs before hval hW _ hk _ hL _ _
  exact law_contract M hl hvars hfun hres htb hrec hval hW (fun j t d ht hd => hM _ (hk k rfl) d (List.mem_append.2 (.inl (List.mem_of_getElem? hd))) t) (walk W args hL)
end
/-- a plain datum's cells -/
def flatD : Nat → DataW Unit → List Value
  | 0, _ => []
  | n + 1, d => match d with
    | .agg l => l.flatMap (flatD n)
    | .lit l => [l.value]
    | _ => []
/-- the settled world, with what package variables hold -/
noncomputable def laidW (P : Program) (os : Os) (gs : List (Nat × List Value)) : World :=
  { World.holding P os ⟨#[], #[], []⟩ with heap := gs.foldl (fun h g => h.modify g.1 fun | .cells _ t frozen => .cells g.2.toArray t frozen | o => o) (World.holding P os ⟨#[], #[], []⟩).heap }
end Go.Sv
namespace Go.Proofs.YtipbbjnmpnfhpaaGreatDoor
open Go Go.Sv
theorem bulk_part {H : Type} {d : DataW H} {l : List (DataW H)} (h : d ∈ l) : Rows.uptoBulk d ≤ Rows.uptoBulkAll l := by
  induction l with
  | nil => cases h
  | cons x r ih =>
    simp only [Rows.uptoBulkAll]
    rcases List.mem_cons.1 h with rfl | e
    · omega
    · have := ih e; omega
theorem bulk_one {H : Type} (d : DataW H) : 1 ≤ Rows.uptoBulk d := by
  cases d with
  | lit l => cases l <;> simp [Rows.uptoBulk]
  | _ => simp [Rows.uptoBulk]
theorem bulk_len {H : Type} (l : List (DataW H)) : l.length ≤ Rows.uptoBulkAll l := by
  induction l with
  | nil => simp [Rows.uptoBulkAll]
  | cons x r ih => have := bulk_one x; simp only [Rows.uptoBulkAll, List.length_cons]; omega
def upM : Nat := 1048576
def byBulk (P : Program) (H : Type) : Measure P H where
  ok n _ := n ≤ upM
  good _ d := Rows.uptoBulk d ≤ upM
  str h := by simp only [Rows.uptoBulk] at h; omega
  nil _ := Nat.zero_le _
  slice {_ _ a b} _ h := by
    simp only [Rows.uptoBulk] at h
    have h1 := bulk_len a
    have h2 := bulk_len b
    exact ⟨by omega, fun d hd => by have := bulk_part hd; omega⟩
  agg {_ _ l} _ h j f d _ hd := by
    simp only [Rows.uptoBulk] at h
    have := bulk_part (List.mem_of_getElem? hd)
    omega
theorem byBulk_of {P : Program} {H : Type} (ds : List (DataW H)) (h : Rows.uptoSmall H ds = true) : ∀ d ∈ ds, ∀ t, (byBulk P H).good t d := fun d hd t => by
  have h1 : Rows.uptoBulkAll ds ≤ 1048576 := by simpa [Rows.uptoSmall] using h
  have := bulk_part hd
  show Rows.uptoBulk d ≤ upM
  unfold upM; omega
abbrev okU : Nat → Nat → Prop := fun n _ => n ≤ upM
end Go.Proofs.YtipbbjnmpnfhpaaGreatDoor
namespace Go.Proofs.YtipbbjnmpnfhpaaGreatDoor
open Go Go.Sv Go.Qu
set_option linter.unusedVariables false
set_option maxRecDepth 100000
theorem own : ownKnob Tryz.prog.godebug = none := by kernel_rfl
theorem laidOut : laidOutB Tryz.prog = true := by kernel_rfl
/-- a world for the witness -/
noncomputable def tabW (os : Os) : World := laidW Tryz.prog os [(0, flatD 2 Rows.laid_unicode_utf8_first), (1, flatD 3 Rows.laid_unicode_utf8_acceptRanges)]
theorem int_arg {w : World} {v : Value} (h : InpV Tryz.prog w okU 3 v) : ∃ n : Int, v = .int .i64 n ∧ -9223372036854775808 ≤ n ∧ n ≤ 9223372036854775807 := by
  obtain ⟨⟨n, h⟩, h2⟩ := h
  obtain ⟨i, e, hw⟩ := h.int Tryz.underlying3
  rw [Tryz.underlying3] at h2
  have hb : -9223372036854775808 ≤ i ∧ i ≤ 9223372036854775807 := by simpa [Lit.wf, IntKind.min, IntKind.max, IntKind.signed, IntKind.bits] using hw
  refine ⟨i, ?_, hb.1, hb.2⟩
  cases v <;> simp_all [Value.cells, oneV]
theorem cfg_arg {w : World} {v : Value} (h : InpV Tryz.prog w okU 23 v) : ∃ c : Cfg, v = .agg #[.string c.name, .int .i64 c.most, .string c.dead, .int .i64 c.tries, .bool c.dur] ∧ c.name.size ≤ 2 ^ 40 ∧ c.dead.size ≤ 2 ^ 40 := by
  obtain ⟨⟨n, h⟩, h2⟩ := h
  rw [Tryz.underlying23] at h2
  obtain ⟨cs, rfl⟩ := h2
  obtain ⟨l⟩ := cs
  have h1 := h.fields Tryz.underlying23 (by kernel_rfl) (by kernel_rfl)
  have hl : (Value.agg ⟨l⟩).cells.toList = l := rfl
  rw [hl] at h1
  match l, h1 with
  | [c0, c1, c2, c3, c4], ⟨⟨_, h0⟩, ⟨_, h1⟩, ⟨_, h2⟩, ⟨_, h3⟩, ⟨_, h4⟩, _⟩ =>
    obtain ⟨s0, e0, b0⟩ := h0.str Tryz.underlying9
    obtain ⟨i1, e1, _⟩ := h1.int Tryz.underlying3
    obtain ⟨s2, e2, b2⟩ := h2.str Tryz.underlying9
    obtain ⟨i3, e3, _⟩ := h3.int Tryz.underlying3
    obtain ⟨b, e4⟩ := h4.bool Tryz.underlying4
    simp only [okU] at b0 b2
    have : upM = 1048576 := rfl
    simp only [List.cons.injEq, and_true] at e0 e1 e2 e3 e4
    subst e0 e1 e2 e3 e4
    exact ⟨⟨s0, i1, s2, i3, b⟩, rfl, by show s0.size ≤ _; omega, by show s2.size ≤ _; omega⟩
end Go.Proofs.YtipbbjnmpnfhpaaGreatDoor
namespace Go.Sv
open Go
set_option linter.unusedVariables false
theorem list_of {α : Type} {g : α → List Value} {Good : α → Prop} : ∀ {L : List (List Value)}, (∀ x ∈ L, ∃ a, x = g a ∧ Good a) → ∃ A : List α, A.length = L.length ∧ L.flatten = A.flatMap g ∧ ∀ a ∈ A, Good a
  | [], _ => ⟨[], rfl, rfl, by simp⟩
  | x :: L, h => by
    obtain ⟨A, h1, h2, h3⟩ := list_of (L := L) fun y hy => h y (List.mem_cons_of_mem _ hy)
    obtain ⟨a, rfl, ha⟩ := h x (List.mem_cons_self ..)
    refine ⟨a :: A, by simp [h1], by rw [List.flatten_cons, h2, List.flatMap_cons], fun z hz => ?_⟩
    rcases List.mem_cons.1 hz with rfl | hz
    · exact ha
    · exact h3 z hz
end Go.Sv
namespace Go.Proofs.YtipbbjnmpnfhpaaGreatDoor
open Go Go.Sv Go.Qu
set_option linter.unusedVariables false
set_option maxRecDepth 4000
theorem qone_of {P : Program} {w : World} {ok : Nat → Nat → Prop} {t : TypeId} {v : Value} {d : TypeDesc} (ht : P.underlying t = some d) (hd : match d with | .struct _ | .array _ _ => False | _ => True) (h : InpV P w ok t v) : oneV v = true := by
  obtain ⟨_, h2⟩ := h
  rw [ht] at h2
  cases d <;> simp_all
theorem qcells_one {v : Value} (h : oneV v = true) : v.cells.toList = [v] := by cases v <;> simp_all [oneV, Value.cells]
theorem data_inp {w : World} {n : Nat} {cs : List Value} (h : Inp Tryz.prog w okU n 32 cs) : ∃ (p : Option Addr) (m c : Nat) (l : List UInt8), cs = [.slice p m c] ∧ Rd w p m 1 (bytesV l) ∧ m ≤ 2 ^ 20 := by
  obtain ⟨p, L, c, rfl, hc, hb, hr, hi⟩ := h.slice Tryz.underlying32
  obtain ⟨A, h1, h2, -⟩ := list_of (g := fun b : UInt8 => [Value.int .u8 (b.toNat : Int)]) (Good := fun _ => True) (L := L) fun x hx => by
    obtain ⟨m, hm⟩ := hi x hx
    obtain ⟨i, rfl, hwf⟩ := hm.int Tryz.underlying5
    have hw : 0 ≤ i ∧ i ≤ 255 := by
      simp [Lit.wf, IntKind.min, IntKind.max, IntKind.signed, IntKind.bits] at hwf
      omega
    refine ⟨UInt8.ofNat i.toNat, ?_, trivial⟩
    have : ((UInt8.ofNat i.toNat).toNat : Int) = i := by simp [UInt8.toNat_ofNat]; omega
    rw [this]
  have h3 : Tryz.prog.cellsOf 5 = 1 := by kernel_rfl
  rw [h3, h2] at hr
  have e : (A.flatMap fun b : UInt8 => [Value.int .u8 (b.toNat : Int)]) = bytesV A := by
    unfold bytesV
    clear h1 h2 hr
    induction A with
    | nil => rfl
    | cons a A ih => rw [List.flatMap_cons, ih]; rfl
  rw [e] at hr
  simp only [okU] at hb
  have : upM = 1048576 := rfl
  exact ⟨p, L.length, c, A, rfl, hr, by omega⟩
end Go.Proofs.YtipbbjnmpnfhpaaGreatDoor
namespace Go.Proofs.YtipbbjnmpnfhpaaGreatDoor
open Go Go.Sv Go.Qu
set_option linter.unusedVariables false
set_option maxRecDepth 4000
theorem i64_hi {i : Int} (hw : (Lit.int .i64 i).wf = true) : i ≤ 9223372036854775807 := by
  have hb : -9223372036854775808 ≤ i ∧ i ≤ 9223372036854775807 := by simpa [Lit.wf, IntKind.min, IntKind.max, IntKind.signed, IntKind.bits] using hw
  exact hb.2
theorem entry_inp2 {w : World} {n : Nat} {cs : List Value} (h : Inp Tryz.prog w okU n 34 cs) : ∃ x : EX, cs = x.1.cells ∧ EIn w x ∧ x.1.seq ≤ 9223372036854775807 := by
  have h1 := h.fields Tryz.underlying34 (by kernel_rfl) (by kernel_rfl)
  match cs, h1 with
  | [c0, c1, c2, c3, c4, c5, c6], ⟨⟨_, h0⟩, ⟨_, h1⟩, ⟨_, h2⟩, ⟨_, h3⟩, ⟨_, h4⟩, ⟨_, h5⟩, ⟨_, h6⟩, _⟩ =>
    obtain ⟨i0, e0, w0⟩ := h0.int Tryz.underlying3
    obtain ⟨i1, e1, _⟩ := h1.int Tryz.underlying3
    obtain ⟨i2, e2, _⟩ := h2.int Tryz.underlying3
    obtain ⟨b3, e3⟩ := h3.bool Tryz.underlying4
    obtain ⟨i4, e4, _⟩ := h4.int Tryz.underlying3
    obtain ⟨i5, e5, _⟩ := h5.int Tryz.underlying3
    obtain ⟨p, m, c, l, e6, hr, hm⟩ := data_inp h6
    simp only [List.cons.injEq, and_true] at e0 e1 e2 e3 e4 e5 e6
    subst e0 e1 e2 e3 e4 e5 e6
    exact ⟨(⟨i0, i1, i2, b3, i4, i5, p, m, c⟩, l), rfl, ⟨hr, hm⟩, i64_hi w0⟩
theorem op_inp2 {w : World} {n : Nat} {cs : List Value} (h : Inp Tryz.prog w okU n 46 cs) : ∃ o : OpV, cs = o.cells ∧ ∃ Ts l, OIn w o Ts l := by
  obtain ⟨hl, hf⟩ := h.struct Tryz.underlying46
  have h13 : Tryz.prog.cellsOf 46 = 13 := by kernel_rfl
  have hi1 : Tryz.prog.cellsOf 3 = 1 := by kernel_rfl
  have hb1 : Tryz.prog.cellsOf 4 = 1 := by kernel_rfl
  have hs1 : Tryz.prog.cellsOf 44 = 1 := by kernel_rfl
  have he7 : Tryz.prog.cellsOf 34 = 7 := by kernel_rfl
  rw [h13] at hl
  simp only [List.forall_mem_cons] at hf
  match cs, hl with
  | [c0, c1, c2, c3, c4, c5, c6, c7, c8, c9, c10, c11, c12], _ =>
    obtain ⟨⟨_, h0⟩, ⟨_, h1⟩, ⟨_, h2⟩, ⟨_, h3⟩, ⟨_, h4⟩, ⟨_, h5⟩, ⟨_, h6⟩, _⟩ := hf
    obtain ⟨i0, e0, _⟩ := h0.int Tryz.underlying3
    obtain ⟨i1, e1, _⟩ := h1.int Tryz.underlying3
    obtain ⟨i2, e2, _⟩ := h2.int Tryz.underlying3
    obtain ⟨i3, e3, _⟩ := h3.int Tryz.underlying3
    obtain ⟨p, L, c, e4, hc, hb, hr, hi⟩ := h4.slice Tryz.underlying44
    obtain ⟨b5, e5⟩ := h5.bool Tryz.underlying4
    obtain ⟨x, e6, hx, hxs⟩ := entry_inp2 h6
    obtain ⟨Ts, q1, q2, -⟩ := list_of (g := iC) (Good := fun _ => True) (L := L) fun y hy => by
      obtain ⟨m, hm⟩ := hi y hy
      obtain ⟨i, rfl, _⟩ := hm.int Tryz.underlying3
      exact ⟨i, rfl, trivial⟩
    rw [hi1, q2] at hr
    simp only [okU] at hb
    have : upM = 1048576 := rfl
    simp only [hi1, hb1, hs1, he7, List.drop_succ_cons, List.drop_zero, List.take_succ_cons, List.take_zero, List.cons.injEq, and_true] at e0 e1 e2 e3 e4 e5 e6
    subst e0 e1 e2 e3 e4 e5
    refine ⟨⟨i0, i1, i2, i3, p, L.length, c, b5, x.1⟩, ?_, Ts, x.2, hr, q1, by show L.length ≤ _; omega, hx.rd, by have := hx.n; show x.1.n ≤ _; omega, hxs⟩
    unfold En.cells at e6
    simp only [List.cons.injEq, and_true] at e6
    obtain ⟨rfl, rfl, rfl, rfl, rfl, rfl, rfl⟩ := e6
    rfl
theorem ops_arg2 {w : World} {v : Value} (h : InpV Tryz.prog w okU 25 v) : ∃ (p : Option Addr) (Os : List OpV) (c : Nat), v = .slice p Os.length c ∧ Rd w p Os.length 13 (Os.flatMap OpV.cells) ∧ (∀ o ∈ Os, ∃ Ts l, OIn w o Ts l) ∧ Os.length ≤ 2 ^ 20 := by
  have h0 := qone_of Tryz.underlying25 trivial h
  obtain ⟨⟨n, h⟩, _⟩ := h
  rw [qcells_one h0] at h
  obtain ⟨p, L, c, e, hc, hb, hr, hi⟩ := h.slice Tryz.underlying25
  obtain ⟨A, h1, h2, h3⟩ := list_of (g := OpV.cells) (Good := fun o => ∃ Ts l, OIn w o Ts l) (L := L) fun x hx => by
    obtain ⟨m, hm⟩ := hi x hx
    exact op_inp2 hm
  have h4 : Tryz.prog.cellsOf 46 = 13 := by kernel_rfl
  rw [h4, h2, ← h1] at hr
  simp only [okU] at hb
  have : upM = 1048576 := rfl
  exact ⟨p, A, c, by rw [h1]; exact (List.cons.inj e).1, hr, h3, by omega⟩
theorem entries_arg2 {w : World} {v : Value} (h : InpV Tryz.prog w okU 24 v) : ∃ (p : Option Addr) (Es : List EX) (c : Nat), v = .slice p Es.length c ∧ Rd w p Es.length 7 ((Es.map (·.1)).flatMap En.cells) ∧ (∀ x ∈ Es, EIn w x ∧ x.1.seq ≤ 9223372036854775807) ∧ Es.length ≤ 2 ^ 20 := by
  have h0 := qone_of Tryz.underlying24 trivial h
  obtain ⟨⟨n, h⟩, _⟩ := h
  rw [qcells_one h0] at h
  obtain ⟨p, L, c, e, hc, hb, hr, hi⟩ := h.slice Tryz.underlying24
  obtain ⟨A, h1, h2, h3⟩ := list_of (g := fun x : EX => x.1.cells) (Good := fun x => EIn w x ∧ x.1.seq ≤ 9223372036854775807) (L := L) fun x hx => by
    obtain ⟨m, hm⟩ := hi x hx
    exact entry_inp2 hm
  have h4 : Tryz.prog.cellsOf 34 = 7 := by kernel_rfl
  rw [h4, h2, ← h1] at hr
  simp only [okU] at hb
  have : upM = 1048576 := rfl
  refine ⟨p, A, c, by rw [h1]; exact (List.cons.inj e).1, ?_, h3, by omega⟩
  rw [List.flatMap_map]; exact hr
end Go.Proofs.YtipbbjnmpnfhpaaGreatDoor
namespace Go.Proofs.YtipbbjnmpnfhpaaGreatDoor
open Go Go.Sv Go.Qu
set_option linter.unusedVariables false
set_option maxRecDepth 100000
theorem queueRanges_lifted (os : Os) (started : os.Started) (H : Type) (enc : TypeId × Value → H) (F : Stop.Interp) :
    ReturnsInHanded {} Tryz.checked os 3 .any ((Rows.OpenSpec.upto Rows.queueRangesSpec).preRow enc Tryz.prog Tryz.f3 Rows.queueRangesUptoRow.domain false Rows.queueRangesUptoRow.laid) (((Rows.OpenSpec.upto Rows.queueRangesSpec).at F).post enc Tryz.prog Tryz.f3 false true false false) := by
  refine lift_laid (C := Tryz.checked) (tb := 4) (k := Rows.uptoSmall) started (byBulk Tryz.prog H) rfl byBulk_of own laidOut (by kernel_rfl) Tryz.func3
    (witness_row_at (enc := enc) (C := Tryz.checked) false (tabW os) #[.agg #[.string ⟨#[]⟩, .int .i64 0, .string ⟨#[]⟩, .int .i64 0, .bool false], .slice none 0 0, .slice none 0 0, .int .i64 0] rfl (by kernel_rfl) (by kernel_rfl) (by kernel_rfl)
      (OpenSpec.preRow_of_cond 8 (x := ([.agg [.lit (.string []), .lit (.int .i64 0), .lit (.string []), .lit (.int .i64 0), .lit (.bool false)], .nil, .nil, .lit (.int .i64 0)], [], [])) (by kernel_rfl) (by kernel_rfl) (fun k hk => by cases hk; kernel_rfl) (by kernel_rfl) (laidMet_of_run' 8 (by kernel_rfl) (by kernel_rfl))))
    rfl (fun ds h => ?_) rfl Tryz.underlying4 (by kernel_rfl) fun W args hLaid hin => ?_
  · match ds, h with
    | [d0, d1, d2, d3], _ => rfl
  · generalize args.toList = vs at hin ⊢
    rw [Tryz.params3] at hin
    match vs, hin with
    | [v0, v1, v2, v3], ⟨i0, i1, i2, i3, _⟩ =>
      obtain ⟨c, rfl, h1, h2⟩ := cfg_arg i0
      obtain ⟨p0, Es, c0, rfl, h3, h4, h5⟩ := entries_arg2 i1
      obtain ⟨ps, Os, cs, rfl, h6, h7, h8⟩ := ops_arg2 i2
      obtain ⟨most, rfl, h9, h10⟩ := int_arg i3
      exact ranges_law h1 h2 h3 h4 h5 h6 h7 h8 h9 h10 fun w' hc => ⟨rfl, hc⟩
namespace queueRanges
theorem over : Rows.queueRangesUptoRow.holds Tryz.pinned (Rows.OpenSpec.upto Rows.queueRangesSpec) :=
  OpenClaim.holds_of_cond 3 Tryz.f3 rfl rfl rfl rfl rfl rfl rfl ⟨rfl, rfl, rfl, rfl, rfl⟩ rfl rfl rfl rfl rfl (by kernel_rfl) Tryz.func3 (by kernel_rfl)
    (of_decide_eq_true (by kernel_rfl)) (by unfold Func.isWrapper; first | (rw [if_pos (by decide +kernel)]; kernel_rfl) | (rw [if_neg (by decide +kernel)]; exact ⟨rfl, rfl⟩))
    (fun os started H enc _ F => by rw [OpenClaim.pre_eq_preRow]; exact queueRanges_lifted os started H enc F)
theorem plain (f : FuncId) (fn : Func) (hf : Tryz.pinned.checked.prog.funcNamed "longshore/longshorelaw17.QueueRanges" = some f) (hfn : Tryz.pinned.checked.prog.funcs[f]? = some fn) :
    true = Tryz.pinned.checked.prog.looks [] ∧ ∀ (j : Nat) t, fn.params[j]? = some t → Tryz.pinned.checked.prog.wantsStandIn t = false := by
  obtain rfl : f = 3 := Option.some.inj ((show Tryz.prog.funcNamed "longshore/longshorelaw17.QueueRanges" = some 3 by kernel_rfl).symm.trans hf) |>.symm
  obtain rfl : fn = Tryz.f3 := (Option.some.inj (Tryz.func3.symm.trans hfn)).symm
  have hall : Tryz.f3.params.toList.all (fun t => Tryz.prog.wantsStandIn t == false) = true := by kernel_rfl
  refine ⟨by kernel_rfl, fun j t ht => ?_⟩
  have := List.all_eq_true.1 hall t (Array.mem_toList_iff.2 (Array.mem_of_getElem? ht))
  exact eq_of_beq this
theorem proved : Rows.QueueRangesUptoCardSaid :=
  Claim7.holds_tied_plain_at .later [] _ _ _ _ over (fun _ h => by cases h) (by kernel_rfl) (fun _ h => by cases h) queueRangesUpto_row_tie rfl ⟨rfl, rfl⟩ (by kernel_rfl) rfl plain (by kernel_rfl)
end queueRanges
#print axioms queueRanges.proved
end Go.Proofs.YtipbbjnmpnfhpaaGreatDoor
