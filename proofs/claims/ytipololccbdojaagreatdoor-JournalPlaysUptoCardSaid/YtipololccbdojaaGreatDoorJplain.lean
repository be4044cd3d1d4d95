/-
  The check sum (octet.Sum; the document's SumOf): what it is; that it tells a byte that has changed; the contracts of both. The contracts of octet.half, octet.Sum (of one part) and of the document's Step and SumOf. Numbers of so many bytes: octet.Put, octet.Get; the document's. journal.get, journal.number. The document's Put, Get, add. What a log's bytes say: plain: the records of a body, a head, a whole batch, the batches of a log, what is amiss behind them.
-/
import Derived.Test.YtipololccbdojaaGreatDoorSvRow
import Derived.Test.YtipololccbdojaaGreatDoorJourWp
import Derived.Test.YtipololccbdojaaGreatDoorRjWp
namespace Go.Proofs.YtipololccbdojaaGreatDoor
open Go Go.Sv
set_option linter.unusedVariables false
set_option maxRecDepth 4000

/-! ### The register -/
abbrev poly : BitVec 32 := 0xEDB88320#32
def bstep (r : BitVec 32) : BitVec 32 := if r.getLsbD 0 = true then (r >>> 1) ^^^ poly else r >>> 1
def bsteps : Nat → BitVec 32 → BitVec 32
  | 0, r => r
  | n + 1, r => bsteps n (bstep r)
def ofByte (x : UInt8) : BitVec 32 := x.toBitVec.setWidth 32
def byst (r : BitVec 32) (x : UInt8) : BitVec 32 := bsteps 8 (r ^^^ ofByte x)
def crcR (r : BitVec 32) (l : List UInt8) : BitVec 32 := l.foldl byst r
def crc (l : List UInt8) : BitVec 32 := crcR (BitVec.allOnes 32) l ^^^ BitVec.allOnes 32

theorem bstep_xor (a b : BitVec 32) : bstep (a ^^^ b) = bstep a ^^^ bstep b := by
  unfold bstep
  rw [BitVec.getLsbD_xor, BitVec.ushiftRight_xor_distrib]
  cases ha : a.getLsbD 0 <;> cases hb : b.getLsbD 0 <;> simp
  · rw [BitVec.xor_assoc]
  · rw [BitVec.xor_assoc, BitVec.xor_comm (b >>> 1) poly, ← BitVec.xor_assoc]
  · rw [BitVec.xor_assoc (a >>> 1), ← BitVec.xor_assoc poly, BitVec.xor_comm poly (b >>> 1), BitVec.xor_assoc (b >>> 1), BitVec.xor_self, BitVec.xor_zero]
theorem bsteps_xor (n : Nat) : ∀ a b : BitVec 32, bsteps n (a ^^^ b) = bsteps n a ^^^ bsteps n b := by
  induction n with
  | zero => intro a b; rfl
  | succ n ih => intro a b; simp only [bsteps, bstep_xor, ih]
theorem bstep_low {a : BitVec 32} (h : a.getLsbD 0 = false) : bstep a = a >>> 1 := by
  unfold bstep
  rw [if_neg (by rw [h]; decide)]
/-- four steps: the table's value and the rest shifted -/
theorem bsteps4 (r : BitVec 32) : bsteps 4 r = bsteps 4 (r &&& 15#32) ^^^ (r >>> 4) := by
  have e : r = (r &&& 15#32) ^^^ (r &&& ~~~15#32) := by
    ext i hi
    simp only [BitVec.getElem_xor, BitVec.getElem_and, BitVec.getElem_not]
    cases r[i] <;> cases (15#32)[i] <;> rfl
  conv => lhs; rw [e]
  rw [bsteps_xor]
  congr 1
  have low : ∀ (k : Nat), k < 4 → ((r &&& ~~~15#32) >>> k).getLsbD 0 = false := by
    intro k hk
    rw [BitVec.getLsbD_ushiftRight, BitVec.getLsbD_and]
    have : (~~~15#32).getLsbD (k + 0) = false := by
      rcases (by omega : k = 0 ∨ k = 1 ∨ k = 2 ∨ k = 3) with rfl | rfl | rfl | rfl <;> decide
    rw [this, Bool.and_false]
  have st : ∀ k, k < 4 → bstep ((r &&& ~~~15#32) >>> k) = (r &&& ~~~15#32) >>> (k + 1) := fun k hk => by
    rw [bstep_low (low k hk), ← BitVec.shiftRight_add]
  have e4 : bsteps 4 (r &&& ~~~15#32) = (r &&& ~~~15#32) >>> 4 := by
    show bstep (bstep (bstep (bstep (r &&& ~~~15#32)))) = _
    have s0 := st 0 (by omega)
    rw [BitVec.ushiftRight_zero] at s0
    rw [s0, st 1 (by omega), st 2 (by omega), st 3 (by omega)]
  rw [e4]
  ext i hi
  simp only [BitVec.getElem_ushiftRight, BitVec.getLsbD_and]
  rcases Nat.lt_or_ge (4 + i) 32 with h | h
  · have : (~~~15#32).getLsbD (4 + i) = true := by
      rw [BitVec.getLsbD_not]
      have h15 : (15#32).getLsbD (4 + i) = false := by
        rw [show (15#32) = BitVec.ofNat 32 15 from rfl, BitVec.getLsbD_ofNat]
        simp
        intro _
        exact Nat.testBit_lt_two_pow (Nat.lt_of_lt_of_le (by decide : 15 < 2 ^ 4) (Nat.pow_le_pow_right (by decide) (by omega)))
      rw [h15]
      simp [h]
    rw [this, Bool.and_true]
  · rw [BitVec.getLsbD_of_ge _ _ h]; rfl
theorem crcR_append (r : BitVec 32) (a b : List UInt8) : crcR r (a ++ b) = crcR (crcR r a) b := by simp [crcR, List.foldl_append]
/-! ### The register as a number -/
abbrev nu (r : BitVec 32) : Int := (r.toNat : Int)
theorem w32 {n : Int} (h0 : 0 ≤ n) (h1 : n < 4294967296) : IntKind.wrap .u32 n = n := by
  unfold IntKind.wrap
  simp [IntKind.bits, IntKind.signed]
  omega
theorem ofInt_nat (n : Nat) : BitVec.ofInt 32 (n : Int) = BitVec.ofNat 32 n := by
  apply BitVec.eq_of_toNat_eq
  simp [BitVec.toNat_ofInt]
theorem nu_lt (r : BitVec 32) : nu r < 4294967296 := by have := r.isLt; unfold nu; omega
theorem nu_bits (op : BinOp) (f : BitVec 32 → BitVec 32 → BitVec 32) (hf : ∀ a b, bitsV op .u32 a b = IntKind.wrap .u32 (f (BitVec.ofInt 32 a) (BitVec.ofInt 32 b)).toNat) (r s : BitVec 32) : bitsV op .u32 (nu r) (nu s) = nu (f r s) := by
  rw [hf, ofInt_nat, ofInt_nat, BitVec.ofNat_toNat, BitVec.ofNat_toNat, BitVec.setWidth_eq, BitVec.setWidth_eq]
  exact w32 (by omega) (nu_lt _)
theorem nu_xor (r s : BitVec 32) : bitsV .xor .u32 (nu r) (nu s) = nu (r ^^^ s) := nu_bits .xor (· ^^^ ·) (fun _ _ => rfl) r s
theorem nu_and (r s : BitVec 32) : bitsV .and .u32 (nu r) (nu s) = nu (r &&& s) := nu_bits .and (· &&& ·) (fun _ _ => rfl) r s
theorem nu_byte (x : UInt8) : IntKind.wrap .u32 (x.toNat : Int) = nu (ofByte x) := by
  have hx : x.toNat < 256 := x.toNat_lt
  rw [w32 (by omega) (by omega)]
  unfold nu ofByte
  rw [BitVec.toNat_setWidth, Nat.mod_eq_of_lt]
  · rfl
  · exact Nat.lt_trans hx (by decide)
theorem nu_shift (r : BitVec 32) (k : Nat) : Int.fdiv (nu r) (2 ^ k) = nu (r >>> k) := by
  unfold nu
  rw [BitVec.toNat_ushiftRight, Nat.shiftRight_eq_div_pow, Int.fdiv_eq_ediv_of_nonneg _ (by exact Int.pow_nonneg (by decide))]
  simp
theorem nu_half (r : BitVec 32) : IntKind.wrap .u32 (Int.tdiv (nu r) 2) = nu (r >>> 1) := by
  have : Int.tdiv (nu r) 2 = nu (r >>> 1) := by
    rw [← nu_shift, Int.fdiv_eq_ediv_of_nonneg _ (by decide), Int.tdiv_eq_ediv_of_nonneg (by unfold nu; omega)]
    rfl
  rw [this]
  exact w32 (by unfold nu; omega) (nu_lt _)
theorem nu_odd (r : BitVec 32) : (Int.tmod (nu r) 2 == 1) = r.getLsbD 0 := by
  rw [BitVec.getLsbD, Nat.testBit_zero, Int.tmod_eq_emod_of_nonneg (by unfold nu; omega)]
  unfold nu
  rcases Nat.mod_two_eq_zero_or_one r.toNat with h | h
  · have : ((r.toNat : Int) % 2) = 0 := by omega
    rw [this, h]; decide
  · have : ((r.toNat : Int) % 2) = 1 := by omega
    rw [this, h]; decide
end Go.Proofs.YtipololccbdojaaGreatDoor
namespace Go.Proofs.YtipololccbdojaaGreatDoor
open Go Go.Sv
set_option linter.unusedVariables false
set_option maxRecDepth 4000

theorem stCells_seg : ∀ (vs : List Value) {w : World} {b o i : Nat} {cs : List Value} {K : World → Prop}, blk w b = some cs → o + i + vs.length ≤ cs.length → (∀ v ∈ vs, oneV v = true) →
    (∀ w', blk w' b = some (putSeg cs (o + i) vs) → Ch (· = b) w w' → w'.heap.size = w.heap.size → K w') → stCells w ⟨b, o, none⟩ vs i K
  | [], w, b, o, i, cs, K, h, _, _, hk => hk w (by rw [putSeg_nil]; exact h) (Ch.refl _ _) rfl
  | [v], w, b, o, i, cs, K, h, hl, h1, hk => by
    unfold stCells
    rw [h1 v (by simp), add_at]
    refine Sif_true ?_
    refine st_blk (o := o + i) h (by simp at hl; omega) fun w1 hb hc hz => hk w1 ?_ hc hz
    rw [← putSeg_cons cs (o + i) v [] (by simpa using hl), putSeg_nil]; exact hb
  | v :: u :: r, w, b, o, i, cs, K, h, hl, h1, hk => by
    unfold stCells
    rw [h1 v (by simp), add_at]
    refine Sif_true ?_
    refine st_blk (o := o + i) h (by simp at hl; omega) fun w1 hb hc hz => ?_
    refine stCells_seg (u :: r) hb (by simp at hl ⊢; omega) (fun x hx => h1 x (List.mem_cons_of_mem _ hx)) fun w2 hb2 hc2 hz2 => hk w2 ?_ (hc.trans' hc2) (by omega)
    rw [← putSeg_cons cs (o + i) v (u :: r) (by simp at hl ⊢; omega)]; exact hb2
def tab : List Int := [0, 498536548, 997073096, 651767980, 1994146192, 1802195444, 1303535960, 1342533948, 3988292384, 4027552580, 3604390888, 3412177804, 2607071920, 2262029012, 2685067896, 3183342108]
theorem tab_at : ∀ k : Nat, k < 16 → tab[k]? = some (nu (bsteps 4 (BitVec.ofNat 32 k))) := by decide
theorem half_ok {r : BitVec 32} {w : World} {K : Value → World → Prop} (hk : ∀ w', Ch (fun _ => False) w w' → K (.int .u32 (nu (bsteps 4 (r &&& 15#32)))) w') :
    callP Tryz.prog 121 [.int .u32 (nu r)] w K := by
  refine ok_octet_half ?_
  unfold wp_octet_half
  refine newB_blk fun w1 hb1 hc1 hz1 => ?_
  refine stCells_seg (tab.map fun n => Value.int .u32 n) hb1 (by decide) (by decide) (K := fun w17 => 0 ≤ bitsV BinOp.and .u32 (nu r) 15 ∧ bitsV BinOp.and .u32 (nu r) 15 < 16 ∧
    ∃ n : Int, w17.cell? (Addr.add ⟨w.heap.size, 0, none⟩ ((bitsV BinOp.and .u32 (nu r) 15).toNat * 1)) = some (Value.int .u32 n) ∧ K (Value.int .u32 n) w17) fun w2 hb2 hc2 hz2 => ?_
  have e1 : bitsV .and .u32 (nu r) 15 = nu (r &&& 15#32) := nu_and r 15#32
  have hlt : (r &&& 15#32).toNat < 16 := by
    rw [BitVec.toNat_and]
    exact Nat.lt_of_le_of_lt Nat.and_le_right (by decide)
  have e2 : r &&& 15#32 = BitVec.ofNat 32 (r &&& 15#32).toNat := by simp
  rw [e1]
  refine ⟨by unfold nu; omega, by unfold nu; omega, nu (bsteps 4 (r &&& 15#32)), ?_, hk w2 (hc1.trans hc2 fun x hx e => by subst e; omega)⟩
  have e3 : (nu (r &&& 15#32)).toNat * 1 = (r &&& 15#32).toNat := by unfold nu; omega
  rw [e3]
  rw [add_at, cell_blk hb2]
  have e4 : putSeg [Value.int .u32 0, .int .u32 0, .int .u32 0, .int .u32 0, .int .u32 0, .int .u32 0, .int .u32 0, .int .u32 0, .int .u32 0, .int .u32 0, .int .u32 0, .int .u32 0, .int .u32 0, .int .u32 0, .int .u32 0, .int .u32 0] (0 + 0) (tab.map fun n => Value.int .u32 n) = tab.map fun n => Value.int .u32 n := rfl
  rw [e4, List.getElem?_map, Nat.zero_add, tab_at _ hlt, ← e2]
  rfl
theorem byte_two (r : BitVec 32) (x : UInt8) : byst r x = bsteps 4 (bsteps 4 (r ^^^ ofByte x)) := rfl
/-- the sum of one part -/
theorem sum_ok {a : Option Addr} {c : Nat} {p : Option Addr} {n cp : Nat} {l : List UInt8} {w : World} {K : Value → World → Prop} {b : Nat} (ha : a = some ⟨b, 0, none⟩) (hb : blk w b = some [.slice p n cp])
    (hp : Rd w p n 1 (bytesV l)) (hn : n ≤ 2 ^ 46) (hk : ∀ w', Ch (fun _ => False) w w' → K (.int .u32 (nu (crc l))) w') :
    callP Tryz.prog 97 [.slice a 1 c] w K := by
  subst ha
  have hl : l.length = n := by have := hp.1; simpa using this
  refine ok_octet_Sum ?_
  unfold wp_octet_Sum
  refine ⟨fun m r i w' => Ch (fun _ => False) w w' ∧ ((m = 1 ∧ i = 0 ∧ r = nu (BitVec.allOnes 32)) ∨ (m = 0 ∧ i = 1 ∧ r = nu (crcR (BitVec.allOnes 32) l))), ⟨1, Ch.refl _ _, .inl ⟨rfl, rfl, rfl⟩⟩, ?_⟩
  rintro m r i w1 ⟨hc1, hi⟩
  refine Sif_cases (fun hlt => ?_) fun hge => ?_
  · have hlt' : i < 1 := by simpa using hlt
    obtain ⟨rfl, rfl, rfl⟩ : m = 1 ∧ i = 0 ∧ r = nu (BitVec.allOnes 32) := by rcases hi with h | h; exact h; omega
    refine ⟨by omega, by omega, ?_⟩
    simp only [nn_some]
    have hb1 : blk w1 b = some [.slice p n cp] := (hc1.blk (blk_lt hb) (fun h => h)).trans hb
    refine ⟨p, n, cp, ?_, ?_⟩
    · rw [add_at, cell_blk hb1]; rfl
    have hp1 : Rd w1 p n 1 (bytesV l) := hp.ch hc1 fun _ _ _ h => h
    refine ⟨fun m r i w' => Ch (fun _ => False) w1 w' ∧ 0 ≤ i ∧ i ≤ n ∧ m = n - i.toNat ∧ r = nu (crcR (BitVec.allOnes 32) (l.take i.toNat)), ⟨n, Ch.refl _ _, by omega, by omega, by simp, rfl⟩, ?_⟩
    rintro m r i w2 ⟨hc2, h0, h1, hm, rfl⟩
    refine Sif_cases (fun hlt => ?_) fun hge => ?_
    · have hlt' : i < n := by simpa using hlt
      refine ⟨h0, hlt', ?_⟩
      have hp2 : Rd w2 p n 1 (bytesV l) := hp1.ch hc2 fun _ _ _ h => h
      obtain ⟨bk, o, rfl, hcell⟩ := hp2.cell (i := i.toNat) (by omega)
      have hx : i.toNat < l.length := by omega
      simp only [nn_some]
      refine ⟨(l[i.toNat].toNat : Int), ?_, ?_⟩
      · rw [add_at, Nat.mul_one, hcell]
        simp [bytesV, hx]
      rw [nu_byte, nu_xor, nameI_iff]
      refine half_ok fun w3 hc3 => ⟨_, rfl, by omega, ?_⟩
      rw [nu_shift, nu_xor, nameI_iff, ← bsteps4]
      refine half_ok fun w4 hc4 => ⟨_, rfl, by omega, ?_⟩
      rw [nu_shift, nu_xor, nameI_iff, ← bsteps4, ← byte_two]
      rw [wrap_id (by omega) (by omega)]
      refine ⟨m - 1, by omega, (hc2.new hc3).new hc4, by omega, by omega, by omega, ?_⟩
      have e : (i + 1).toNat = i.toNat + 1 := by omega
      rw [e, List.take_succ_eq_append_getElem hx, crcR_append]
      rfl
    · have : i = n := by have : ¬ i < n := by simpa using hge
                         omega
      subst this
      rw [wrap_id (by omega) (by omega)]
      refine ⟨0, by omega, hc1.new hc2, .inr ⟨rfl, rfl, ?_⟩⟩
      rw [show ((n : Int)).toNat = l.length by omega, List.take_length]
  · have hge' : ¬ i < 1 := by simpa using hge
    obtain ⟨_, rfl, rfl⟩ : m = 0 ∧ i = 1 ∧ r = nu (crcR (BitVec.allOnes 32) l) := by rcases hi with h | h; omega; exact h
    have e : bitsV .xor .u32 (if IntKind.signed .u32 = true then -1 else IntKind.max .u32) (nu (crcR (BitVec.allOnes 32) l)) = nu (crc l) := by
      have := nu_xor (BitVec.allOnes 32) (crcR (BitVec.allOnes 32) l)
      rw [BitVec.xor_comm] at this
      exact this
    rw [e, nameI_iff]
    exact hk w1 hc1
theorem bsteps_succ (n : Nat) (r : BitVec 32) : bsteps (n + 1) r = bstep (bsteps n r) := by
  induction n generalizing r with
  | zero => rfl
  | succ n ih => show bsteps (n + 1) (bstep r) = bstep (bsteps n (bstep r)); exact ih (bstep r)
/-- the document's step, bit by bit -/
theorem step_ok {r : BitVec 32} {x : UInt8} {w : World} {K : Value → World → Prop} (hk : K (.int .u32 (nu (byst r x))) w) :
    callP Tryz.prog 118 [.int .u32 (nu r), .int .u8 (x.toNat : Int)] w K := by
  refine ok_longshoreref01_Step ?_
  unfold wp_longshoreref01_Step
  rw [nu_byte, nu_xor, nameI_iff]
  refine ⟨fun m n i w' => w' = w ∧ 0 ≤ i ∧ i ≤ 8 ∧ m = 8 - i.toNat ∧ n = nu (bsteps i.toNat (r ^^^ ofByte x)), ⟨8, rfl, by omega, by omega, rfl, rfl⟩, ?_⟩
  rintro m n i w1 ⟨rfl, h0, h1, hm, rfl⟩
  refine Sif_cases (fun hlt => ?_) fun hge => ?_
  · have hlt' : i < 8 := by simpa using hlt
    have e : (i + 1).toNat = i.toNat + 1 := by omega
    refine ⟨fun n w' => w' = w1 ∧ n = nu (bsteps (i.toNat + 1) (r ^^^ ofByte x)), ?_, by omega, ?_⟩
    · rintro n w2 ⟨rfl, rfl⟩
      rw [wrap_id (by omega) (by omega), nameI_iff]
      exact ⟨m - 1, by omega, rfl, by omega, by omega, by omega, by rw [e]⟩
    · rw [nu_odd, nu_half, bsteps_succ]
      refine Sif_cases (fun hb => ⟨by omega, ?_⟩) fun hb => ⟨by omega, ?_⟩
      · have e2 : bitsV .xor .u32 (nu (bsteps i.toNat (r ^^^ ofByte x) >>> 1)) 3988292384 = nu (bsteps i.toNat (r ^^^ ofByte x) >>> 1 ^^^ poly) := nu_xor _ poly
        rw [e2, nameI_iff]
        exact ⟨rfl, by unfold bstep; rw [if_pos hb]⟩
      · rw [nameI_iff]
        exact ⟨rfl, by rw [bstep_low hb]⟩
  · have : i = 8 := by have : ¬ i < 8 := by simpa using hge
                       omega
    subst this
    exact hk
/-- the document's sum -/
theorem sumOf_ok {p : Option Addr} {n c : Nat} {l : List UInt8} {w : World} {K : Value → World → Prop} (hp : Rd w p n 1 (bytesV l)) (hn : n ≤ 2 ^ 46) (hk : K (.int .u32 (nu (crc l))) w) :
    callP Tryz.prog 89 [.slice p n c] w K := by
  have hl : l.length = n := by have := hp.1; simpa using this
  refine ok_longshoreref01_SumOf ?_
  unfold wp_longshoreref01_SumOf
  refine ⟨fun m r i w' => w' = w ∧ 0 ≤ i ∧ i ≤ n ∧ m = n - i.toNat ∧ r = nu (crcR (BitVec.allOnes 32) (l.take i.toNat)), ⟨n, rfl, by omega, by omega, by simp, rfl⟩, ?_⟩
  rintro m r i w1 ⟨rfl, h0, h1, hm, rfl⟩
  refine Sif_cases (fun hlt => ?_) fun hge => ?_
  · have hlt' : i < n := by simpa using hlt
    refine ⟨h0, hlt', ?_⟩
    obtain ⟨bk, o, rfl, hcell⟩ := hp.cell (i := i.toNat) (by omega)
    have hx : i.toNat < l.length := by omega
    simp only [nn_some]
    refine ⟨(l[i.toNat].toNat : Int), ?_, ?_⟩
    · rw [add_at, Nat.mul_one, hcell]
      simp [bytesV, hx]
    refine step_ok ⟨_, rfl, ?_⟩
    rw [wrap_id (by omega) (by omega), nameI_iff]
    refine ⟨m - 1, by omega, rfl, by omega, by omega, by omega, ?_⟩
    have e : (i + 1).toNat = i.toNat + 1 := by omega
    rw [e, List.take_succ_eq_append_getElem hx, crcR_append]
    rfl
  · have : i = n := by have : ¬ i < n := by simpa using hge
                       omega
    subst this
    rw [show ((n : Int)).toNat = l.length by omega, List.take_length]
    have e : bitsV .xor .u32 (nu (crcR (BitVec.allOnes 32) l)) 4294967295 = nu (crc l) := nu_xor (crcR (BitVec.allOnes 32) l) (BitVec.allOnes 32)
    rw [e, nameI_iff]
    exact hk
end Go.Proofs.YtipololccbdojaaGreatDoor
namespace Go.Proofs.YtipololccbdojaaGreatDoor
open Go Go.Sv
set_option linter.unusedVariables false
set_option maxRecDepth 4000

theorem oct_info : InfoIs Tryz.prog 5 1 1 (.int .u8 0) := .of (by kernel_rfl) (by kernel_rfl) (by kernel_rfl)
theorem make_oct {w : World} (l c : Nat) (hl : l ≤ c) (hc : c ≤ 2 ^ 41) : ∃ w', (Instr.makeSlice 23 (.int .i64 (l : Int)) (.int .i64 (c : Int))).run Tryz.prog w = .ok (.slice (some ⟨w.heap.size, 0, none⟩) l c) w' ∧
    blk w' w.heap.size = some (bytesV (List.replicate c 0)) ∧ Ch (fun _ => False) w w' ∧ w'.heap.size = w.heap.size + 1 := by
  obtain ⟨i, hi, h1, h2, h3⟩ := oct_info
  have hr := run_make (P := Tryz.prog) w 23 5 i _ Tryz.underlying23 hi h3 .i64 .i64 (l : Int) (c : Int) (by omega) (by omega) (by rw [h2]; omega) (by omega)
  rw [Int.toNat_natCast, Int.toNat_natCast, h1, Nat.mul_one] at hr
  have hm : madeCells (Value.int .u8 0).cells c = (bytesV (List.replicate c 0)).toArray := by
    apply Array.ext'
    apply List.ext_getElem
    · simp [madeCells]
    · intro j g1 g2
      simp [madeCells, bytesV, Value.cells, Nat.mod_one]
  rw [hm] at hr
  exact ⟨_, hr, alloc_blk w _ _, alloc_ch w _, by simp⟩

/-! ### A number's bytes, the highest first -/
def be : Nat → Nat → List UInt8
  | 0, _ => []
  | k + 1, n => UInt8.ofNat (n / 256 ^ k) :: be k n
@[simp] theorem be_length (k n : Nat) : (be k n).length = k := by induction k <;> simp_all [be]
def num (l : List UInt8) : Nat := l.foldl (fun n x => 256 * n + x.toNat) 0
theorem num_append (a b : List UInt8) : num (a ++ b) = num a * 256 ^ b.length + num b := by
  have key : ∀ (b : List UInt8) (m : Nat), b.foldl (fun n x => 256 * n + x.toNat) m = m * 256 ^ b.length + num b := by
    intro b
    induction b with
    | nil => intro m; simp [num]
    | cons x b ih =>
      intro m
      simp only [List.foldl_cons, List.length_cons, num]
      rw [ih, ih (256 * 0 + x.toNat), Nat.pow_succ]
      rw [Nat.add_mul, Nat.mul_zero, Nat.zero_add, Nat.add_assoc, Nat.mul_comm 256 m, Nat.mul_assoc, Nat.mul_comm 256 (256 ^ b.length)]
  unfold num
  rw [List.foldl_append, key]
  rfl
theorem num_lt (l : List UInt8) : num l < 256 ^ l.length := by
  induction l with
  | nil => decide
  | cons x l ih =>
    have := num_append [x] l
    rw [List.singleton_append] at this
    rw [this]
    have hx : num [x] = x.toNat := by simp [num]
    have hb := x.toNat_lt
    rw [hx, List.length_cons, Nat.pow_succ]
    have h1 : x.toNat * 256 ^ l.length ≤ 255 * 256 ^ l.length := Nat.mul_le_mul_right _ (by omega)
    omega
theorem num_be (k n : Nat) : num (be k n) = n % 256 ^ k := by
  induction k with
  | zero => simp [be, num, Nat.mod_one]
  | succ k ih =>
    have h : be (k + 1) n = [UInt8.ofNat (n / 256 ^ k)] ++ be k n := rfl
    have hx : num [UInt8.ofNat (n / 256 ^ k)] = n / 256 ^ k % 256 := by simp [num, UInt8.toNat_ofNat]
    rw [h, num_append, ih, hx, be_length, Nat.pow_succ, Nat.mod_mul, Nat.mul_comm, Nat.add_comm]
theorem be_num : ∀ (l : List UInt8), be l.length (num l) = l
  | [] => rfl
  | x :: l => by
    have hn : num (x :: l) = x.toNat * 256 ^ l.length + num l := by
      have := num_append [x] l
      rw [List.singleton_append] at this
      rw [this]; simp [num]
    have hlt := num_lt l
    have hp : 0 < 256 ^ l.length := Nat.pow_pos (by decide)
    have hmod : ∀ (k m a : Nat), be k (a * 256 ^ k + m) = be k m := by
      intro k
      induction k with
      | zero => intro m a; rfl
      | succ k ih =>
        intro m a
        have hk : 0 < 256 ^ k := Nat.pow_pos (by decide)
        have e : a * 256 ^ (k + 1) + m = (a * 256) * 256 ^ k + m := by rw [Nat.pow_succ]; simp [Nat.mul_assoc, Nat.mul_comm, Nat.mul_left_comm]
        show UInt8.ofNat ((a * 256 ^ (k + 1) + m) / 256 ^ k) :: be k (a * 256 ^ (k + 1) + m) = UInt8.ofNat (m / 256 ^ k) :: be k m
        rw [e, ih, Nat.add_comm, Nat.add_mul_div_right _ _ hk]
        congr 1
        apply UInt8.toNat_inj.1
        simp [UInt8.toNat_ofNat, Nat.add_mul_mod_self_right]
    show UInt8.ofNat (num (x :: l) / 256 ^ l.length) :: be l.length (num (x :: l)) = x :: l
    rw [hn, hmod, be_num l, Nat.add_comm, Nat.add_mul_div_right _ _ hp, Nat.div_eq_of_lt hlt, Nat.zero_add]
    congr 1
    simp
theorem w8 (n : Nat) : IntKind.wrap .u8 (n : Int) = ((UInt8.ofNat n).toNat : Int) := by
  unfold IntKind.wrap
  simp [IntKind.bits, IntKind.signed, UInt8.toNat_ofNat]
theorem w64 {n : Int} (h0 : 0 ≤ n) (h1 : n < 18446744073709551616) : IntKind.wrap .u64 n = n := by
  unfold IntKind.wrap
  simp [IntKind.bits, IntKind.signed]
  omega
/-- octet.Put -/
theorem put_ok {n k : Nat} {w : World} {K : Value → World → Prop} (hn : n < 18446744073709551616) (h1 : 1 ≤ k) (h8 : k ≤ 8)
    (hk : ∀ w', blk w' w.heap.size = some (bytesV (be k n)) → Ch (fun _ => False) w w' → w'.heap.size = w.heap.size + 1 → K (.slice (some ⟨w.heap.size, 0, none⟩) k k) w') :
    callP Tryz.prog 120 [.int .u64 (n : Int), .int .i64 (k : Int)] w K := by
  refine ok_octet_Put ?_
  unfold wp_octet_Put
  refine ⟨fun w1 => w1 = w, ?_, Sif_cases (fun _ => Sif_cases (fun h => ?_) fun _ => rfl) fun h => ?_⟩
  rotate_left
  · have : (k : Int) > 8 := by simpa using h
    omega
  · have : (k : Int) < 1 := by simpa using h
    omega
  rintro w1 rfl
  obtain ⟨w2, hm, hb2, hc2, hz2⟩ := make_oct (w := w1) k k (Nat.le_refl _) (by omega)
  refine ⟨_, _, _, w2, hm, ?_⟩
  rw [wrap_id (by omega) (by omega), nameI_iff]
  refine ⟨fun m n' i w' => Ch (fun _ => False) w1 w' ∧ w'.heap.size = w1.heap.size + 1 ∧ m ≤ k ∧ i = (m : Int) - 1 ∧ n' = ((n / 256 ^ (k - m) : Nat) : Int) ∧ blk w' w1.heap.size = some (bytesV (List.replicate m 0 ++ be (k - m) n)),
    ⟨k, hc2, hz2, Nat.le_refl _, rfl, by simp, by rw [Nat.sub_self]; simpa [be] using hb2⟩, ?_⟩
  rintro m n' i w3 ⟨hc3, hz3, hmk, rfl, rfl, hb3⟩
  refine Sif_cases (fun hge => ?_) fun hlt => ?_
  · have hge' : 0 ≤ (m : Int) - 1 := by simpa using hge
    obtain ⟨j, rfl⟩ : ∃ j, m = j + 1 := ⟨m - 1, by omega⟩
    have ej : ((j + 1 : Nat) : Int) - 1 = (j : Int) := by omega
    rw [ej]
    refine ⟨by omega, by omega, ?_⟩
    simp only [nn_some, add_at, Int.toNat_natCast, Nat.mul_one, Nat.zero_add, Nat.add_zero]
    refine st_blk hb3 (by simp [bytesV]; omega) fun w4 hb4 hc4 hz4 => ⟨by omega, ?_⟩
    have ed : Int.fdiv ((n / 256 ^ (k - (j + 1)) : Nat) : Int) (2 ^ 8) = ((n / 256 ^ (k - j) : Nat) : Int) := by
      rw [Int.fdiv_eq_ediv_of_nonneg _ (by decide), show k - j = (k - (j + 1)) + 1 by omega, Nat.pow_succ, ← Nat.div_div_eq_div_mul]
      omega
    rw [ed, nameI_iff, wrap_id (by omega) (by omega), nameI_iff]
    refine ⟨j, by omega, hc3.trans hc4 fun x hx e => by subst e; omega, by omega, by omega, rfl, rfl, ?_⟩
    rw [hb4, w8]
    congr 1
    have ek : k - j = (k - (j + 1)) + 1 := by omega
    have e2 : be (k - j) n = UInt8.ofNat (n / 256 ^ (k - (j + 1))) :: be (k - (j + 1)) n := by rw [ek]; rfl
    rw [e2]
    have e3 : Value.int .u8 ((UInt8.ofNat (n / 256 ^ (k - (j + 1)))).toNat : Int) = (fun b : UInt8 => Value.int .u8 (b.toNat : Int)) (UInt8.ofNat (n / 256 ^ (k - (j + 1)))) := rfl
    unfold bytesV
    rw [e3, ← List.map_set]
    congr 1
    rw [List.replicate_succ', List.append_assoc, List.set_append_right _ _ (by simp)]
    simp
  · have : ¬ (0 : Int) ≤ (m : Int) - 1 := by simpa using hlt
    obtain rfl : m = 0 := by omega
    refine hk w3 ?_ hc3 hz3
    simpa using hb3
theorem or_add {m x : Nat} (hm : m < 72057594037927936) (hx : x < 256) : bitsV .or .u64 ((m * 256 : Nat) : Int) (x : Int) = ((m * 256 + x : Nat) : Int) := by
  have e : bitsV .or .u64 ((m * 256 : Nat) : Int) (x : Int) = IntKind.wrap .u64 ((BitVec.ofInt 64 ((m * 256 : Nat) : Int) ||| BitVec.ofInt 64 (x : Int)).toNat : Int) := rfl
  have o : ∀ n : Nat, BitVec.ofInt 64 (n : Int) = BitVec.ofNat 64 n := fun n => by
    apply BitVec.eq_of_toNat_eq
    simp [BitVec.toNat_ofInt]
  rw [e, o, o, BitVec.toNat_or, BitVec.toNat_ofNat, BitVec.toNat_ofNat, Nat.mod_eq_of_lt (by omega), Nat.mod_eq_of_lt (by omega)]
  have h2 : m * 256 ||| x = m * 256 + x := by
    have := Nat.shiftLeft_add_eq_or_of_lt (i := 8) (b := x) (by omega) m
    rw [Nat.shiftLeft_eq] at this
    exact this.symm
  rw [h2]
  exact w64 (by omega) (by omega)
/-- octet.Get, where the bytes are there -/
theorem get_ok {p : Option Addr} {n c a k : Nat} {l : List UInt8} {w : World} {K : Value → World → Prop} (hp : Rd w p n 1 (bytesV l)) (hn : n ≤ c) (hc : n ≤ 2 ^ 46) (h1 : 1 ≤ k) (h8 : k ≤ 8) (ha : a + k ≤ n)
    (hk : K (.tuple #[.int .u64 (num ((l.drop a).take k) : Int), .int .i64 0]) w) : callP Tryz.prog 144 [.slice p n c, .int .i64 (a : Int), .int .i64 (k : Int)] w K := by
  have hl : l.length = n := by have := hp.1; simpa using this
  refine ok_octet_Get ?_
  unfold wp_octet_Get
  refine ⟨fun w1 => w1 = w, ?_, Sif_cases (fun _ => Sif_cases (fun _ => Sif_cases (fun _ => Sif_cases (fun h => ?_) fun _ => Sif_cases (fun h => ?_) fun _ => rfl) fun h => ?_) fun h => ?_) fun h => ?_⟩
  rotate_left
  · have : (a : Int) > n := by simpa using h
    omega
  · rw [wrap_id (by omega) (by omega)] at h
    have : (n : Int) - a < k := by simpa using h
    omega
  · have : (a : Int) < 0 := by simpa using h
    omega
  · have : ¬ (k : Int) ≤ 8 := by simpa using h
    omega
  · have : (k : Int) < 1 := by simpa using h
    omega
  rintro w1 rfl
  rw [wrap_id (n := (a : Int) + k) (by omega) (by omega)]
  have ea : ((a : Int) + k).toNat = a + k := by omega
  simp only [ea, Int.toNat_natCast]
  refine ⟨by omega, by omega, by omega, by omega, fun m v i w' => w' = w1 ∧ 0 ≤ i ∧ i ≤ k ∧ m = k - i.toNat ∧ v = (num ((l.drop a).take i.toNat) : Int), ⟨k, rfl, by omega, by omega, rfl, by simp [num]⟩, ?_⟩
  rintro m v i w2 ⟨rfl, h0, hik, rfl, rfl⟩
  refine Sif_cases (fun hlt => ?_) fun hge => ?_
  · have hlt' : i < k := by have : i < ((a + k - a : Nat) : Int) := by simpa using hlt
                            omega
    refine ⟨h0, by omega, ?_⟩
    obtain ⟨bk, o, rfl, hcell⟩ := hp.cell (i := a + i.toNat) (by omega)
    have hx : a + i.toNat < l.length := by omega
    have hs : subA (some ⟨bk, o, none⟩) a c 1 = some ⟨bk, o + a, none⟩ := by
      unfold subA
      rw [if_neg (by omega)]
      simp
    rw [hs]
    simp only [nn_some, add_at, Nat.mul_one]
    refine ⟨(l[a + i.toNat].toNat : Int), ?_, by omega, ?_⟩
    · rw [Nat.add_assoc, hcell]
      simp [bytesV, hx]
    have hx2 : i.toNat < (l.drop a).length := by simp; omega
    have ht : ((l.drop a).take i.toNat).length = i.toNat := by simp; omega
    have hlt2 := num_lt ((l.drop a).take i.toNat)
    rw [ht] at hlt2
    have h7 : 256 ^ i.toNat ≤ 256 ^ 7 := Nat.pow_le_pow_right (by decide) (by omega)
    have hb := l[a + i.toNat].toNat_lt
    have hm : num ((l.drop a).take i.toNat) < 72057594037927936 := Nat.lt_of_lt_of_le hlt2 (Nat.le_trans h7 (by decide))
    have e1 : IntKind.wrap .u64 ((num ((l.drop a).take i.toNat) : Int) * 2 ^ 8) = ((num ((l.drop a).take i.toNat) * 256 : Nat) : Int) := by
      rw [w64 (by omega) (by omega)]; omega
    rw [e1, w64 (n := (l[a + i.toNat].toNat : Int)) (by omega) (by omega), or_add hm hb, nameI_iff, wrap_id (by omega) (by omega)]
    refine ⟨k - (i + 1).toNat, by omega, by trivial, by omega, by omega, by trivial, ?_⟩
    have e : (i + 1).toNat = i.toNat + 1 := by omega
    rw [e, List.take_succ_eq_append_getElem hx2, num_append]
    simp [num, List.getElem_drop]
  · have : i = k := by have : ¬ i < ((a + k - a : Nat) : Int) := by simpa using hge
                       omega
    subst this
    simpa using hk
theorem jget_ok {p : Option Addr} {n c : Nat} {l : List UInt8} {w : World} {K : Value → World → Prop} (hp : Rd w p n 1 (bytesV l)) (hn : n ≤ c) (hc : n ≤ 2 ^ 46) (ha : 4 ≤ n)
    (hk : K (.int .i64 (num (l.take 4) : Int)) w) : callP Tryz.prog 114 [.slice p n c] w K := by
  refine ok_journal_get ?_
  unfold wp_journal_get
  refine get_ok (a := 0) (k := 4) hp hn hc (by decide) (by decide) (by omega) ⟨_, _, rfl, ?_⟩
  have h1 := num_lt ((l.drop 0).take 4)
  have h2 : ((l.drop 0).take 4).length ≤ 4 := by simp; omega
  have h3 : 256 ^ ((l.drop 0).take 4).length ≤ 256 ^ 4 := Nat.pow_le_pow_right (by decide) h2
  have h4 : num ((l.drop 0).take 4) < 4294967296 := Nat.lt_of_lt_of_le h1 h3
  rw [wrap_id (by omega) (by omega), nameI_iff]
  exact hk
theorem number_ok {n : Nat} {w : World} {K : Value → World → Prop} (hn : n < 9223372036854775808)
    (hk : ∀ w', blk w' w.heap.size = some (bytesV (be 4 n)) → Ch (fun _ => False) w w' → w'.heap.size = w.heap.size + 1 → K (.slice (some ⟨w.heap.size, 0, none⟩) 4 4) w') :
    callP Tryz.prog 96 [.int .i64 (n : Int)] w K := by
  refine ok_journal_number ?_
  unfold wp_journal_number
  rw [w64 (by omega) (by omega)]
  exact put_ok (k := 4) (by omega) (by decide) (by decide) fun w' h1 h2 h3 => ⟨_, _, _, rfl, hk w' h1 h2 h3⟩
end Go.Proofs.YtipololccbdojaaGreatDoor
namespace Go.Proofs.YtipololccbdojaaGreatDoor
open Go Go.Sv
set_option linter.unusedVariables false
set_option maxRecDepth 4000

def byteC (x : UInt8) : List Value := [.int .u8 (x.toNat : Int)]
theorem bytesV_flat (l : List UInt8) : l.flatMap byteC = bytesV l := by
  induction l with
  | nil => rfl
  | cons x l ih => rw [List.flatMap_cons, ih]; rfl
theorem pushB {w : World} {p : Option Addr} {n c te ty : Nat} {l : List UInt8} {b : Option Nat} (ho : Ow w p n c 1 (bytesV l) b) (x : UInt8) (hn : n ≤ 2 ^ 46) {K : Option Addr → Nat → Nat → World → Prop}
    (hk : ∀ p' c' b' w', Ow w' p' (n + 1) c' 1 (bytesV (l ++ [x])) b' → (∀ k, b' = some k → b = some k ∨ w.heap.size ≤ k) → Ch (fun k => b = some k) w w' → K p' (n + 1) c' w') :
    newB w [.int .u8 (x.toNat : Int)] te fun a w2 => ∃ p5 n7 c5 w3, Sem.run Tryz.prog (Builtin.append_ #[23, 23] ty #[.slice p n c, .slice (some a) 1 1]) w2 = .ok (.slice p5 n7 c5) w3 ∧ K p5 n7 c5 w3 := by
  have hl : l.length = n := by have := ho.1; simpa using this
  subst hl
  rw [← bytesV_flat] at ho
  refine push_ok (g := byteC) Tryz.underlying23 oct_info rfl (fun _ => rfl) (fun x v hv => by simp [byteC] at hv; rw [hv]; rfl) ho x (by omega) (by omega) fun p' c' b' w' h1 h2 h3 => ?_
  rw [List.length_append, bytesV_flat] at h1
  rw [List.length_append]
  exact hk p' c' b' w' h1 h2 h3
/-- bytes behind bytes -/
theorem radd_ok {w : World} {b : Option Addr} {bn bc : Nat} {x : List UInt8} {own : Option Nat} {c : Option Addr} {cn cc : Nat} {y : List UInt8} {K : Value → World → Prop} (ho : Ow w b bn bc 1 (bytesV x) own) (hr : Rd w c cn 1 (bytesV y))
    (hd : ∀ a, c = some a → cn ≠ 0 → own ≠ some a.block) (hn : bn + cn ≤ 2 ^ 46)
    (hk : ∀ p' c' own' w', Ow w' p' (bn + cn) c' 1 (bytesV (x ++ y)) own' → (∀ k, own' = some k → own = some k ∨ w.heap.size ≤ k) → Ch (fun k => own = some k) w w' → K (.slice p' (bn + cn) c') w') :
    callP Tryz.prog 119 [.slice b bn bc, .slice c cn cc] w K := by
  have hl : y.length = cn := by have := hr.1; simpa using this
  refine ok_longshoreref20_add ?_
  unfold wp_longshoreref20_add
  refine ⟨fun m p n c1 i w' => 0 ≤ i ∧ i ≤ cn ∧ m = cn - i.toNat ∧ n = bn + i.toNat ∧ ∃ own', Ow w' p n c1 1 (bytesV (x ++ y.take i.toNat)) own' ∧ (∀ k, own' = some k → own = some k ∨ w.heap.size ≤ k) ∧ Ch (fun k => own = some k) w w',
    ⟨cn, by omega, by omega, by simp, by simp, own, by simpa using ho, fun k => .inl, Ch.refl _ _⟩, ?_⟩
  rintro m p n c1 i w1 ⟨h0, h1, rfl, rfl, own', o1, o2, c2⟩
  refine Sif_cases (fun hlt => ?_) fun hge => ?_
  · have hlt' : i < cn := by simpa using hlt
    refine ⟨h0, hlt', ?_⟩
    have hr1 : Rd w1 c cn 1 (bytesV y) := hr.ch c2 fun a ha h0 => hd a ha (by omega)
    obtain ⟨bk, o, rfl, hcell⟩ := hr1.cell (i := i.toNat) (by omega)
    have hx : i.toNat < y.length := by omega
    simp only [nn_some]
    refine ⟨(y[i.toNat].toNat : Int), ?_, ?_⟩
    · rw [add_at, Nat.mul_one, hcell]
      simp [bytesV, hx]
    refine pushB o1 y[i.toNat] (by omega) fun p' c' b' w' q1 q2 q3 => ?_
    rw [wrap_id (by omega) (by omega), nameI_iff]
    have e : (i + 1).toNat = i.toNat + 1 := by omega
    refine ⟨cn - (i + 1).toNat, by omega, by omega, by omega, rfl, by omega, b', ?_, fun k hk => ?_, c2.trans q3 fun k hk he => ?_⟩
    · rw [e, List.take_succ_eq_append_getElem hx, ← List.append_assoc]; exact q1
    · rcases q2 k hk with q | q
      · exact o2 k q
      · have := c2.size; exact .inr (by omega)
    · rcases o2 k he with q | q
      · exact q
      · omega
  · have : i = cn := by have : ¬ i < cn := by simpa using hge
                        omega
    subst this
    rw [Int.toNat_natCast, List.take_of_length_le (by omega)] at o1
    rw [Int.toNat_natCast]
    exact hk p c1 own' w1 o1 o2 c2
theorem div_u64 (q : Nat) (h : q < 18446744073709551616) : IntKind.wrap .u64 (Int.tdiv (q : Int) 256) = ((q / 256 : Nat) : Int) := by
  rw [Int.tdiv_eq_ediv_of_nonneg (by omega), w64 (by omega) (by omega)]
  omega
theorem mod_u8 (q : Nat) : IntKind.wrap .u8 (Int.tmod (q : Int) 256) = ((UInt8.ofNat q).toNat : Int) := by
  rw [Int.tmod_eq_emod_of_nonneg (by omega), show ((q : Nat) : Int) % 256 = ((q % 256 : Nat) : Int) by omega, w8]
  simp [UInt8.toNat_ofNat]
theorem rput01_ok {n k : Nat} {w : World} {K : Value → World → Prop} (hn : n < 18446744073709551616) (h1 : 1 ≤ k) (h8 : k ≤ 8)
    (hk : ∀ p' c' own w', Ow w' p' k c' 1 (bytesV (be k n)) own → (∀ j, own = some j → w.heap.size ≤ j) → Ch (fun _ => False) w w' → K (.slice p' k c') w') :
    callP Tryz.prog 154 [.int .u64 (n : Int), .int .i64 (k : Int)] w K := by
  refine ok_longshoreref01_Put ?_
  unfold wp_longshoreref01_Put
  refine ⟨fun w1 => w1 = w, ?_, Sif_cases (fun _ => Sif_cases (fun h => ?_) fun _ => rfl) fun h => ?_⟩
  rotate_left
  · have : (k : Int) > 8 := by simpa using h
    omega
  · have : (k : Int) < 1 := by simpa using h
    omega
  rintro w1 rfl
  rw [wrap_id (by omega) (by omega), nameI_iff]
  refine ⟨fun m p t c i w' => m ≤ k ∧ i = (m : Int) - 1 ∧ t = k - m ∧ ∃ out own, out ++ be m n = be k n ∧ Ow w' p t c 1 (bytesV out) own ∧ (∀ j, own = some j → w1.heap.size ≤ j) ∧ Ch (fun _ => False) w1 w',
    ⟨k, Nat.le_refl _, rfl, by omega, [], none, rfl, Ow.nil, (fun j h => by cases h), Ch.refl _ _⟩, ?_⟩
  rintro m p t c i w2 ⟨hm, rfl, rfl, out, own, e, o1, o2, c2⟩
  refine Sif_cases (fun hge => ?_) fun hlt => ?_
  · have hge' : 0 ≤ (m : Int) - 1 := by simpa using hge
    obtain ⟨j, rfl⟩ : ∃ j, m = j + 1 := ⟨m - 1, by omega⟩
    have ej : ((j + 1 : Nat) : Int) - 1 = (j : Int) := by omega
    rw [ej]
    refine ⟨fun m' v i w' => w' = w2 ∧ 0 ≤ i ∧ i ≤ j ∧ m' = j - i.toNat ∧ v = ((n / 256 ^ i.toNat : Nat) : Int), ⟨j, rfl, by omega, by omega, rfl, by simp⟩, ?_⟩
    rintro m' v i w3 ⟨rfl, h0, hj, rfl, rfl⟩
    refine Sif_cases (fun hlt => ⟨by omega, ?_⟩) fun hge => ⟨by omega, ?_⟩
    · have hlt' : i < j := by simpa using hlt
      have e1 : (i + 1).toNat = i.toNat + 1 := by omega
      have hd : n / 256 ^ i.toNat ≤ n := Nat.div_le_self _ _
      have ed : IntKind.wrap .u64 (Int.tdiv ((n / 256 ^ i.toNat : Nat) : Int) 256) = ((n / 256 ^ (i.toNat + 1) : Nat) : Int) := by
        rw [div_u64 _ (Nat.lt_of_le_of_lt hd hn), Nat.div_div_eq_div_mul, Nat.pow_succ]
      rw [ed, nameI_iff, wrap_id (by omega) (by omega), nameI_iff]
      exact ⟨j - (i + 1).toNat, by omega, rfl, by omega, by omega, rfl, by rw [e1]⟩
    · have : i = j := by have : ¬ i < j := by simpa using hge
                         omega
      subst this
      rw [Int.toNat_natCast]
      have em : IntKind.wrap .u8 (Int.tmod ((n / 256 ^ j : Nat) : Int) 256) = ((UInt8.ofNat (n / 256 ^ j)).toNat : Int) := mod_u8 _
      rw [em]
      refine pushB o1 _ (by omega) fun p' c' b' w' q1 q2 q3 => ?_
      rw [wrap_id (by omega) (by omega), nameI_iff]
      have hch : Ch (fun _ => False) w1 w' := c2.trans q3 fun x hx he => by have := o2 x he; omega
      refine ⟨j, by omega, by omega, rfl, by omega, out ++ [UInt8.ofNat (n / 256 ^ j)], b', ?_, q1, fun x hx => ?_, hch⟩
      · rw [List.append_assoc]; exact e
      · rcases q2 x hx with q | q
        · exact o2 x q
        · have := c2.size; omega
  · have : ¬ (0 : Int) ≤ (m : Int) - 1 := by simpa using hlt
    obtain rfl : m = 0 := by omega
    rw [be, List.append_nil] at e
    subst e
    exact hk p c own w2 o1 o2 c2
end Go.Proofs.YtipololccbdojaaGreatDoor
namespace Go.Proofs.YtipololccbdojaaGreatDoor
open Go Go.Sv
set_option linter.unusedVariables false

def recOk (body : List UInt8) : Prop := 4 ≤ body.length ∧ 1 ≤ num (body.take 4) ∧ num (body.take 4) ≤ 1049600 ∧ num (body.take 4) ≤ body.length - 4
instance (body : List UInt8) : Decidable (recOk body) := by unfold recOk; infer_instance
def rcs : Nat → List UInt8 → Option (List (List UInt8))
  | 0, body => if body = [] then some [] else none
  | f + 1, body =>
    if body = [] then some [] else
    if recOk body then
      (rcs f (body.drop (4 + num (body.take 4)))).map ((body.drop 4).take (num (body.take 4)) :: ·)
    else none
theorem rcs_fuel : ∀ (f g : Nat) (body : List UInt8), body.length ≤ f → body.length ≤ g → rcs f body = rcs g body
  | 0, g, body, h, _ => by
    have : body = [] := List.eq_nil_of_length_eq_zero (by omega)
    subst this
    cases g <;> simp [rcs]
  | f + 1, 0, body, _, h => by
    have : body = [] := List.eq_nil_of_length_eq_zero (by omega)
    subst this
    simp [rcs]
  | f + 1, g + 1, body, h1, h2 => by
    simp only [rcs]
    split
    · rfl
    · split
      · rw [rcs_fuel f g _ (by simp; omega) (by simp; omega)]
      · rfl
def recs (body : List UInt8) : Option (List (List UInt8)) := rcs body.length body
theorem recs_nil : recs [] = some [] := rfl
theorem recs_step {body : List UInt8} (h : body ≠ []) (hr : recOk body) : recs body = (recs (body.drop (4 + num (body.take 4)))).map ((body.drop 4).take (num (body.take 4)) :: ·) := by
  unfold recs
  obtain ⟨n, hn⟩ : ∃ n, body.length = n + 1 := ⟨body.length - 1, by have := List.length_pos_iff.2 h; omega⟩
  rw [hn, rcs, if_neg h, if_pos hr, rcs_fuel n _ _ (by simp; omega) (Nat.le_refl _)]
theorem recs_bad {body : List UInt8} (h : body ≠ []) (hr : ¬ recOk body) : recs body = none := by
  unfold recs
  obtain ⟨n, hn⟩ : ∃ n, body.length = n + 1 := ⟨body.length - 1, by have := List.length_pos_iff.2 h; omega⟩
  rw [hn, rcs, if_neg h, if_neg hr]
theorem recs_ne {body : List UInt8} (h : body ≠ []) {l : List (List UInt8)} (hl : recs body = some l) : l ≠ [] := by
  by_cases hr : recOk body
  · rw [recs_step h hr] at hl
    obtain ⟨a, _, rfl⟩ := Option.map_eq_some_iff.1 hl
    simp
  · rw [recs_bad h hr] at hl; cases hl

/-- the number of a batch's head -/
def headN (d : List UInt8) : Nat := num (d.take 4)
def headOk (d : List UInt8) : Prop := 8 ≤ d.length ∧ num ((d.drop 4).take 4) = (crc (d.take 4)).toNat ∧ 5 ≤ headN d
instance (d : List UInt8) : Decidable (headOk d) := by unfold headOk; infer_instance
theorem headN_lt (d : List UInt8) : headN d < 4294967296 := by
  unfold headN
  have h := num_lt (d.take 4)
  exact Nat.lt_of_lt_of_le h (Nat.le_trans (Nat.pow_le_pow_right (by decide) (by simp; omega : (d.take 4).length ≤ 4)) (by decide))
def footOk (d : List UInt8) : Prop := num ((d.drop (headN d + 8)).take 4) = (crc (d.take (headN d + 8))).toNat
instance (d : List UInt8) : Decidable (footOk d) := by unfold footOk; infer_instance
/-- the records of the whole batch with which bytes begin -/
def whole (d : List UInt8) : Option (List (List UInt8)) := if headOk d ∧ headN d + 12 ≤ d.length ∧ footOk d then recs ((d.drop 8).take (headN d)) else none
/-- no beginning of a batch -/
def broken (d : List UInt8) : Prop := 8 ≤ d.length ∧ (¬ headOk d ∨ headN d + 12 ≤ d.length)
instance (d : List UInt8) : Decidable (broken d) := by unfold broken; infer_instance
theorem whole_size {d : List UInt8} {l : List (List UInt8)} (h : whole d = some l) : 5 ≤ headN d ∧ headN d + 12 ≤ d.length ∧ l ≠ [] := by
  unfold whole at h
  split at h
  · rename_i hc
    refine ⟨hc.1.2.2, hc.2.1, recs_ne (fun e => ?_) h⟩
    have := congrArg List.length e
    simp at this
    have := hc.1.2.2
    omega
  · cases h
def scn : Nat → List UInt8 → List (List (List UInt8)) × Nat
  | 0, _ => ([], 0)
  | f + 1, d => match whole d with
    | none => ([], 0)
    | some l => (l :: (scn f (d.drop (headN d + 12))).1, headN d + 12 + (scn f (d.drop (headN d + 12))).2)
theorem whole_nil : whole [] = none := by
  unfold whole
  rw [if_neg]
  rintro ⟨⟨h, _⟩, _⟩
  simp at h
theorem scn_fuel : ∀ (f g : Nat) (d : List UInt8), d.length ≤ f → d.length ≤ g → scn f d = scn g d
  | 0, g, d, h, _ => by
    have : d = [] := List.eq_nil_of_length_eq_zero (by omega)
    subst this
    cases g <;> simp [scn, whole_nil]
  | f + 1, 0, d, _, h => by
    have : d = [] := List.eq_nil_of_length_eq_zero (by omega)
    subst this
    simp [scn, whole_nil]
  | f + 1, g + 1, d, h1, h2 => by
    simp only [scn]
    split
    · rfl
    · rename_i l hl
      have := whole_size hl
      rw [scn_fuel f g _ (by simp; omega) (by simp; omega)]
/-- a log's batches, and the place behind the last whole one -/
def scanL (d : List UInt8) : List (List (List UInt8)) × Nat := scn d.length d
theorem scanL_some {d : List UInt8} {l : List (List UInt8)} (h : whole d = some l) : scanL d = (l :: (scanL (d.drop (headN d + 12))).1, headN d + 12 + (scanL (d.drop (headN d + 12))).2) := by
  have hs := whole_size h
  unfold scanL
  obtain ⟨n, hn⟩ : ∃ n, d.length = n + 1 := ⟨d.length - 1, by omega⟩
  rw [hn]
  simp only [scn, h]
  rw [scn_fuel n _ _ (by simp; omega) (Nat.le_refl _)]
theorem scanL_none {d : List UInt8} (h : whole d = none) : scanL d = ([], 0) := by
  unfold scanL
  cases hd : d.length with
  | zero => rfl
  | succ n => simp only [scn, h]
theorem scanL_le (d : List UInt8) : (scanL d).2 ≤ d.length := by
  generalize hn : d.length = n
  induction n using Nat.strongRecOn generalizing d with
  | _ n ih =>
    cases h : whole d with
    | none => rw [scanL_none h]; exact Nat.zero_le _
    | some l =>
      have hs := whole_size h
      rw [scanL_some h]
      have := ih (d.drop (headN d + 12)).length (by simp; omega) _ rfl
      simp at this ⊢
      omega
/-- what Scan answers: batches, a place, an error's number -/
def scanA (d : List UInt8) (safe : Int) : List (List (List UInt8)) × Nat × Int :=
  if safe < 0 ∨ safe > d.length then ([], 0, 1) else
  if broken (d.drop (scanL d).2) ∧ ((scanL d).2 : Int) < safe then ([], (scanL d).2, 201) else ((scanL d).1, (scanL d).2, 0)
end Go.Proofs.YtipololccbdojaaGreatDoor
