/-
  One step of a script, at both disks.
-/
import Derived.Test.YtncbmfinndcojaaPairD
namespace Go.Proofs.Ytncbmfinndcojaa
open Go Go.Sv Go.MapKept
set_option linter.unusedVariables false
set_option maxRecDepth 10000

/-- no more than one file more; what the armed fall keeps stays set -/
structure Near (a a' : AD) : Prop where
  len : a'.fs.length ≤ a.fs.length + 1
  keep : a'.keep = a.keep
theorem near_self (a : AD) : Near a a := ⟨by omega, rfl⟩
theorem near_fall (a : AD) (k : Int) : Near a (a.fall k) := ⟨by simp [AD.fall], rfl⟩
theorem near_done {a : AD} {g : AD → AD} (h : Near a (g a.act)) : Near a (a.done g).2 := by
  unfold AD.done; split
  · exact near_fall a _
  · exact h
theorem near_sync (a : AD) (n : ByteArray) : Near a (a.sync n).2 := by
  unfold AD.sync; split
  · exact near_self a
  · exact near_done ⟨by simp [AD.upd, AD.act], rfl⟩
theorem near_delete (a : AD) (n : ByteArray) : Near a (a.delete n).2 := by
  unfold AD.delete; split
  · exact near_self a
  · refine near_done ⟨?_, rfl⟩
    have := List.length_filter_le (fun f : File => decide (f.name ≠ n)) a.act.fs
    simp only [AD.gone, AD.act] at this ⊢
    omega
theorem near_rename (a : AD) (n m : ByteArray) : Near a (a.rename n m).2 := by
  unfold AD.rename; split
  · exact near_self a
  · split
    · exact near_self a
    · split
      · exact near_self a
      · refine near_done ⟨?_, ?_⟩
        · unfold moveF; split
          · simp [AD.act]
          · simp only [List.length_cons]
            have h5 := List.length_filter_le (fun g : File => decide (g.name ≠ n)) (a.act.fs.filter fun g => decide (g.name ≠ m))
            have h6 := List.length_filter_le (fun g : File => decide (g.name ≠ m)) a.act.fs
            simp only [AD.act] at h5 h6 ⊢
            omega
        · unfold moveF; split <;> rfl
theorem near_append (a : AD) (n : ByteArray) (l : List UInt8) : Near a (a.append n l).2 := by
  have h1 := a.more_rest n
  have h2 : (a.more n).fs.length ≤ a.fs.length + 1 := by unfold AD.more; split <;> simp
  unfold AD.append; split
  · exact near_self a
  · split
    · exact near_self a
    · split
      · exact ⟨by simpa [AD.fall, AD.upd, AD.act] using h2, h1.2.2.2.1⟩
      · exact ⟨by simpa [AD.upd, AD.act] using h2, h1.2.2.2.1⟩
theorem near_crash (a : AD) (k : Int) : Near a (a.crash k) := by
  unfold AD.crash; split
  · exact near_self a
  · exact near_fall a _
def AD.read (a : AD) (n : ByteArray) : List UInt8 := if a.err [n] n = 0 then a.get n else []
theorem read2_ok {w : World} {d : Nat} {a : AD} {B : Nat → Prop} {n : ByteArray} {K : Value → World → Prop} (D : DK w d a B) (hs : n.size ≤ 9223372036854775807)
    (hk : ∀ p c b w' B', DK w' d a B' → Ch B w w' → (∀ b, B' b → B b) → Ow w' p (a.read n).length c 1 (bytesV (a.read n)) b → (∀ k, b = some k → w.heap.size ≤ k) → K (.tuple #[.slice p (a.read n).length c, .int .i64 (a.err [n] n)]) w') :
    callP Try.prog 30 [.pointer (some ⟨d, 0, none⟩), .string n] w K :=
  read_ok D hs fun p c b => by
    intro l w' B' h1 h2 h3 h4 h5
    exact hk p c b w' B' h1 h2 h3 h4 h5
theorem rread2_ok {w : World} {r : Nat} {a : AD} {B : Nat → Prop} {n : ByteArray} {K : Value → World → Prop} (R : RK w r a B) (wf : WF a) (hlen : a.fs.length < 2 ^ 41) (hn : n.size ≤ 9223372036854775807)
    (hk : ∀ p c b w', Ch (fun _ => False) w w' → Ow w' p (a.read n).length c 1 (bytesV (a.read n)) b → (∀ k, b = some k → w.heap.size ≤ k) → K (.tuple #[.slice p (a.read n).length c, .int .i64 (a.err [n] n)]) w') :
    callP Try.prog 47 [.pointer (some ⟨r, 0, none⟩), .string n] w K :=
  rread_ok R wf hlen hn fun p c b w' => by
    intro l h1 h2 h3
    exact hk p c b w' h1 h2 h3
theorem read_len {a : AD} (wf : WF a) (n : ByteArray) : (a.read n).length ≤ 2 ^ 24 := by
  unfold AD.read; split
  · unfold AD.get
    cases h : a.fs.find? fun f => decide (f.name = n) with
    | none => simp
    | some f =>
      have := dat_le_total (List.mem_of_find?_eq_some h)
      have := wf.tot
      simp; omega
  · simp
set_option maxHeartbeats 4000000 in
theorem play_ok {w : World} {pp : Nat} {B : Nat → Prop} {f c : Nat} {o : OpV} {K : Value → World → Prop} (P : PX true w pp B f c) (hf : f < 2 ^ 39) (hc : c < 2 ^ 40)
    (hod : Rd w o.dp o.dat.length 1 (bytesV o.dat)) (hol : o.dat.length ≤ 2 ^ 40) (hon : o.name.size ≤ 2 ^ 62) (hot : o.to.size ≤ 2 ^ 62) (hob : ∀ q, o.dp = some q → o.dat.length ≠ 0 → ¬ B q.block)
    (hn : o.n ≤ 9223372036854775807) (hn1 : -9223372036854775808 ≤ o.n) (hm1 : -9223372036854775808 ≤ o.m)
    (hk : XPost true w pp B (f + 1) (c + f + 1) (K (.bool true))) : callP Try.prog 22 [.pointer (some ⟨pp, 0, none⟩), .agg o.cells.toArray] w K := by
  have P0 := P
  obtain ⟨d, r, a, BD, BR, C, W, cp, cc, cb, wp, wc, wb, P, rfl, haf, hCl, hWl, hkp, hW, hCd⟩ := P
  have wf := P.dk.wf
  have hPlt := P.lt
  refine ok_longshorelaw19_pair_play ?_
  unfold wp_longshorelaw19_pair_play
  refine newB_blk fun w1 b1 c1 z1 => ?_
  have P1 := P.ch0 c1
  simp only [nn_some, add_at, Nat.zero_add]
  refine ⟨fun w' => K (.bool true) w', fun _ h => h, _, by rw [cell_blk b1]; rfl, ?_⟩
  -- what both have done
  have fin : ∀ {w' : World} {a' : AD} {BD' BR' : Nat → Prop} {C' : List CL} {W' : List (List UInt8)} {cp' cc' cb' wp' wc' wb'}, PO true w' pp d r a' a' BD' BR' C' W' cp' cc' cb' wp' wc' wb' → a'.fs.length ≤ f + 1 → C'.length ≤ c + f + 1 → W'.length = C'.length → -9223372036854775808 ≤ a'.keep → W' = C'.map (·.dat) → (∀ x ∈ C', x.dat.length ≤ 2 ^ 24) →
      Ch (PB pp BD BR C cb wb) w w' → (∀ b, PB pp BD' BR' C' cb' wb' b → PB pp BD BR C cb wb b ∨ w.heap.size ≤ b) → K (.bool true) w' := fun P' h1 h2 h3 h4 h5 h6 h7 h8 =>
    hk _ _ ⟨d, r, _, _, _, _, _, _, _, _, _, _, _, P', rfl, h1, h2, h3, h4, fun _ => h5, h6⟩ h7 h8
  have fin2 : ∀ {w' : World} {a' : AD} {BD' BR' : Nat → Prop}, PO true w' pp d r a'.sorted a'.sorted BD' BR' C W cp cc cb wp wc wb → a'.fs.length ≤ a.fs.length + 1 → -9223372036854775808 ≤ a'.keep → Ch (PB pp BD BR C cb wb) w w' → (∀ b, BD' b → BD b ∨ w.heap.size ≤ b) → (∀ b, BR' b → BR b ∨ w.heap.size ≤ b) → K (.bool true) w' := fun P' h1 h2 h3 h4 h5 =>
    fin P' (by rw [sorted_len]; omega) (by omega) hWl h2 (hW rfl) hCd h3 (PB_sub h4 h5 (fun b h => .inl h) (fun b h => .inl h) fun b h => .inl h)
  have hkb : ∀ b, PB pp BD BR C cb wb b → b ≠ w.heap.size := fun b hb e => by have := hPlt b hb; omega
  have bx : ∀ {S : Nat → Prop} {v v' : World}, blk v w.heap.size = some o.cells → Ch S v v' → (¬ S w.heap.size) → blk v' w.heap.size = some o.cells := fun h1 h2 h3 => by rw [h2.blk (blk_lt h1) h3]; exact h1
  have nD : ∀ {BD' : Nat → Prop} {n : Nat}, (∀ b, BD' b → BD b ∨ n ≤ b) → w.heap.size < n → ¬ BD' w.heap.size := fun h1 h2 h => by
    rcases h1 _ h with h | h
    · exact hkb _ (.inr (.inl h)) rfl
    · omega
  refine Sif_cases (fun _ => ?_) fun _ => ?_
  · -- Append
    refine ⟨_, _, _, by rw [cell_blk b1]; rfl, lent_ok (hod.ch c1 fun _ _ _ => id) hol fun k w2 k2 n2 c2 => ⟨_, _, _, rfl, ?_⟩⟩
    have hk2 := blk_lt k2
    have P2 := (P1.ch0 c2).ch0 (Ch.drew (S := fun _ => False) w2)
    have b2 : blk w2.drew w.heap.size = some o.cells := bx (bx b1 c2 id) (Ch.drew (S := fun _ => False) w2) id
    have k2d : blk w2.drew k = some (bytesV (o.dat ++ marks9)) := k2
    have hc2 : Ch (fun _ => False) w w2.drew := (c1.new c2).new (Ch.drew w2)
    have hlr : Rd w2.drew (some ⟨k, 0, none⟩) o.dat.length 1 (bytesV o.dat) := by
      have := Rd.of_blk (n := o.dat.length) (sz := 1) k2d (by rw [lentLen]; omega)
      rw [Nat.mul_one, bytesV_append, List.take_append_of_le_length (by simp), List.take_of_length_le (by simp)] at this
      exact this
    refine ⟨_, P2.c0, _, by rw [cell_blk b2]; rfl, append_ok P2.dk (by omega) hlr (by omega) (fun q hq _ hB => ?_) ?_⟩
    · cases hq
      have := hPlt _ (.inr (.inl hB)); simp only at this; omega
    intro w3 B3 D3 c3 n3
    have hB3 : ∀ b, B3 b → BD b ∨ w.heap.size ≤ b := fun b h => (n3 b h).imp id fun h => by have := hc2.size; omega
    have P3 := P2.setD D3.sort c3 n3
    have b3 := bx b2 c3 fun h => hkb _ (.inr (.inl h)) rfl
    have k3 : blk w3 k = some (bytesV (o.dat ++ marks9)) := by rw [c3.blk (blk_lt k2d) fun h => by have := hPlt _ (.inr (.inl h)); omega]; exact k2d
    have hc3 : Ch (PB pp BD BR C cb wb) w w3 := (hc2.mono fun _ _ h => h.elim).trans' (c3.mono fun b _ h => .inr (.inl h))
    have ho3 : Rd w3 o.dp o.dat.length 1 (bytesV o.dat) := hod.ch hc3 fun q hq h0 => hob q hq (by omega)
    have hz2 := hc2.size
    refine ⟨_, rfl, _, _, _, by rw [cell_blk b3]; rfl, asLent_ok k3 ho3 hol fun w4 c4 z4 => ⟨_, rfl, Sif_true ?_⟩⟩
    have hkw : w.heap.size < k := by omega
    have hkn : ∀ b, PB pp B3 BR C cb wb b → ¬ b = k := fun b hb e => by
      subst e
      rcases hb with h | h | h | h
      · have := hPlt b (.inl h); omega
      · rcases n3 b h with h | h
        · have := hPlt b (.inr (.inl h)); omega
        · have : w2.drew.heap.size = w2.heap.size := rfl
          omega
      · have := hPlt b (.inr (.inr (.inl h))); omega
      · have := hPlt b (.inr (.inr (.inr h))); omega
    have P4 := (P3.ch c4 hkn).ch0 (Ch.drew (S := fun _ => False) w4)
    have b4 : blk w4.drew w.heap.size = some o.cells := bx b3 (c4.new (Ch.drew w4)) fun h => by omega
    have hc4 : Ch (PB pp BD BR C cb wb) w w4.drew := (hc3.trans c4 fun b hb h => by omega).new (Ch.drew w4)
    have ho4 : Rd w4.drew o.dp o.dat.length 1 (bytesV o.dat) := hod.ch hc4 fun q hq h0 => hob q hq (by omega)
    refine ⟨_, P4.c1, _, by rw [cell_blk b4]; rfl, _, _, _, by rw [cell_blk b4]; rfl, rappend_ok P4.rk wf (by omega) hkp (by omega) ho4 (by omega) (fun q hq h0 hB => hob q hq h0 (.inr (.inr (.inl hB)))) ?_⟩
    intro w5 B5 R5 c5 n5
    have P5 := P4.setR R5 c5 n5
    refine ⟨_, rfl, ?_⟩
    rw [beq_self_eq_true]
    have nr := near_append a o.name o.dat
    exact fin2 P5 nr.len (by rw [nr.keep]; exact hkp) (hc4.more c5 fun b h => .inr (.inr (.inl h))) hB3 fun b h => (n5 b h).imp id fun h => by have := hc4.size; omega
  have P1d := P1.ch0 (Ch.drew (S := fun _ => False) w1)
  have b1d : blk w1.drew w.heap.size = some o.cells := b1
  have hc1 : Ch (fun _ => False) w w1.drew := c1.new (Ch.drew w1)
  have hz1 : w.heap.size < w1.drew.heap.size := by show _ < w1.heap.size; omega
  refine Sif_cases (fun _ => ?_) fun _ => ?_
  · -- Sync
    refine ⟨_, P1d.c0, _, by rw [cell_blk b1d]; rfl, sync_ok P1d.dk (by omega) ?_⟩
    intro w2 B2 D2 c2 n2
    have P2 := (P1d.setD D2.sort c2 n2).ch0 (Ch.drew (S := fun _ => False) w2)
    have b2 : blk w2.drew w.heap.size = some o.cells := bx b1d (c2.new (Ch.drew w2)) fun h => hkb _ (.inr (.inl h)) rfl
    refine ⟨_, rfl, _, P2.c1, _, by rw [cell_blk b2]; rfl, rsync_ok P2.rk wf (by omega) hkp (by omega) ?_⟩
    intro w3 B3 R3 c3 n3
    have P3 := P2.setR R3 c3 n3
    refine ⟨_, rfl, ?_⟩
    rw [beq_self_eq_true]
    have nr := near_sync a o.name
    have hc2 : Ch (PB pp BD BR C cb wb) w w2.drew := ((hc1.mono fun _ _ h => h.elim).trans' (c2.mono fun b _ h => .inr (.inl h))).new (Ch.drew w2)
    exact fin2 P3 nr.len (by rw [nr.keep]; exact hkp) (hc2.more c3 fun b h => .inr (.inr (.inl h))) (fun b h => (n2 b h).imp id fun h => by omega) fun b h => (n3 b h).imp id fun h => by have := hc2.size; omega
  refine Sif_cases (fun _ => ?_) fun _ => ?_
  · -- Rename
    refine ⟨_, P1d.c0, _, by rw [cell_blk b1d]; rfl, _, by rw [cell_blk b1d]; rfl, rename_ok P1d.dk (by omega) (by omega) ?_⟩
    intro w2 B2 D2 c2 n2
    have P2 := (P1d.setD D2.sort c2 n2).ch0 (Ch.drew (S := fun _ => False) w2)
    have b2 : blk w2.drew w.heap.size = some o.cells := bx b1d (c2.new (Ch.drew w2)) fun h => hkb _ (.inr (.inl h)) rfl
    refine ⟨_, rfl, _, P2.c1, _, by rw [cell_blk b2]; rfl, _, by rw [cell_blk b2]; rfl, rrename_ok P2.rk wf (by omega) hkp (by omega) (by omega) ?_⟩
    intro w3 B3 R3 c3 n3
    have P3 := P2.setR R3 c3 n3
    refine ⟨_, rfl, ?_⟩
    rw [beq_self_eq_true]
    have nr := near_rename a o.name o.to
    have hc2 : Ch (PB pp BD BR C cb wb) w w2.drew := ((hc1.mono fun _ _ h => h.elim).trans' (c2.mono fun b _ h => .inr (.inl h))).new (Ch.drew w2)
    exact fin2 P3 nr.len (by rw [nr.keep]; exact hkp) (hc2.more c3 fun b h => .inr (.inr (.inl h))) (fun b h => (n2 b h).imp id fun h => by omega) fun b h => (n3 b h).imp id fun h => by have := hc2.size; omega
  refine Sif_cases (fun _ => ?_) fun _ => ?_
  · -- Delete
    refine ⟨_, P1d.c0, _, by rw [cell_blk b1d]; rfl, delete_ok P1d.dk (by omega) ?_⟩
    intro w2 B2 D2 c2 n2
    have P2 := (P1d.setD D2.sort c2 n2).ch0 (Ch.drew (S := fun _ => False) w2)
    have b2 : blk w2.drew w.heap.size = some o.cells := bx b1d (c2.new (Ch.drew w2)) fun h => hkb _ (.inr (.inl h)) rfl
    refine ⟨_, rfl, _, P2.c1, _, by rw [cell_blk b2]; rfl, rdelete_ok P2.rk wf (by omega) hkp (by omega) ?_⟩
    intro w3 B3 R3 c3 n3
    have P3 := P2.setR R3 c3 n3
    refine ⟨_, rfl, ?_⟩
    rw [beq_self_eq_true]
    have nr := near_delete a o.name
    have hc2 : Ch (PB pp BD BR C cb wb) w w2.drew := ((hc1.mono fun _ _ h => h.elim).trans' (c2.mono fun b _ h => .inr (.inl h))).new (Ch.drew w2)
    exact fin2 P3 nr.len (by rw [nr.keep]; exact hkp) (hc2.more c3 fun b h => .inr (.inr (.inl h))) (fun b h => (n2 b h).imp id fun h => by omega) fun b h => (n3 b h).imp id fun h => by have := hc2.size; omega
  refine Sif_cases (fun _ => ?_) fun _ => ?_
  · -- Read
    refine ⟨_, P1d.c0, _, by rw [cell_blk b1d]; rfl, read2_ok P1d.dk (by omega) fun q cq bq w2 B2 D2 c2 n2 o2 f2 => ?_⟩
    have hrl := read_len wf o.name
    have P2 := (P1d.setD D2 c2 fun b h => .inl (n2 b h)).ch0 (Ch.drew (S := fun _ => False) w2)
    have b2 : blk w2.drew w.heap.size = some o.cells := bx b1d (c2.new (Ch.drew w2)) fun h => hkb _ (.inr (.inl h)) rfl
    have hc2 : Ch (PB pp BD BR C cb wb) w w2.drew := ((hc1.mono fun _ _ h => h.elim).trans' (c2.mono fun b _ h => .inr (.inl h))).new (Ch.drew w2)
    refine ⟨_, _, _, _, rfl, _, P2.c1, _, by rw [cell_blk b2]; rfl, rread2_ok P2.rk wf (by omega) (by omega) fun q' cq' bq' w3 c3 o3 f3 => ⟨_, _, _, _, rfl, ?_⟩⟩
    have P3 := P2.ch0 c3
    have hB2 : ∀ b, PB pp B2 BR C cb wb b → b < w.heap.size := by
      rintro b (h | h | h)
      · exact hPlt b (.inl h)
      · exact hPlt b (.inr (.inl (n2 b h)))
      · exact hPlt b (.inr (.inr h))
    have o2' : Ow w3 q (a.read o.name).length cq 1 (bytesV (a.read o.name)) bq := (o2.ch (Ch.drew (S := fun _ => False) w2) fun _ _ => id).ch c3 fun _ _ => id
    refine ⟨_, _, _, P3.c2, ?_⟩
    have key := P3.pushC (te := 31) (x := { p := q, c := cq, own := bq, dat := a.read o.name }) (by omega) o2' (fun k hk2 h => by have := hB2 k h; have := f2 k hk2; omega)
      (K := fun p7 n5 c4' w7 => n5 = (C ++ [({ p := q, c := cq, own := bq, dat := a.read o.name } : CL)]).length ∧ ∃ b7, (∀ Q : World → Prop, (∀ w8, PO true w8 pp d r a a B2 BR (C ++ [({ p := q, c := cq, own := bq, dat := a.read o.name } : CL)]) W p7 c4' b7 wp wc wb → Ch (fun b => b = pp ∨ cb = some b) w3 w8 → Q w8) → st w7 ⟨pp, 2, none⟩ (.slice p7 (C ++ [({ p := q, c := cq, own := bq, dat := a.read o.name } : CL)]).length c4') Q) ∧ (∀ k, b7 = some k → cb = some k ∨ w3.heap.size ≤ k))
      fun p' c' b' w7 h1 h2 _ => ⟨rfl, b', h1, h2⟩
    refine newB_mono key ?_
    rintro a4 w4 ⟨_, p7, n5, c4', w5, hr5, rfl, b7, hst5, hb7⟩
    refine ⟨_, _, _, w5, hr5, hst5 _ fun w6 P6 c6 => ?_⟩
    have P6d := P6.ch0 (Ch.drew (S := fun _ => False) w6)
    have hbq : ∀ k, bq' = some k → ¬ (k = pp ∨ cb = some k) ∧ ¬ (k = pp ∨ wb = some k) := fun k hk2 => by
      have h1 := f3 k hk2
      have h2 := hc2.size
      refine ⟨fun h => ?_, fun h => ?_⟩
      · rcases h with h | h
        · have := hPlt k (.inl h); omega
        · have := hPlt k (.inr (.inr (.inr (.inl h)))); omega
      · rcases h with h | h
        · have := hPlt k (.inl h); omega
        · have := hPlt k (.inr (.inr (.inr (.inr (.inl h))))); omega
    have o6 := (o3.ch c6 fun k hk2 => (hbq k hk2).1).ch (Ch.drew (S := fun _ => False) w6) fun _ _ => id
    refine ⟨_, _, _, P6d.c3, _, toStr o6.rd, ?_⟩
    have key2 := P6d.pushW (te := 9) (l := a.read o.name) (by omega) (K := fun p7' n5 c4'' w9 => n5 = (W ++ [a.read o.name]).length ∧ ∃ b9, (∀ Q : World → Prop, (∀ w10, PO true w10 pp d r a a B2 BR (C ++ [({ p := q, c := cq, own := bq, dat := a.read o.name } : CL)]) (W ++ [a.read o.name]) p7 c4' b7 p7' c4'' b9 → Ch (fun b => b = pp ∨ wb = some b) w6.drew w10 → Q w10) → st w9 ⟨pp, 3, none⟩ (.slice p7' (W ++ [a.read o.name]).length c4'') Q) ∧ (∀ k, b9 = some k → wb = some k ∨ w6.drew.heap.size ≤ k))
      fun p' c' b' w7 h1 h2 _ => ⟨rfl, b', h1, h2⟩
    refine newB_mono key2 ?_
    rintro a8 w7 ⟨hh7, p9, n9, c9, w8, hr8, rfl, b9, hst9, hb9⟩
    refine ⟨⟨_, _, _, by rw [cell_blk hh7]; rfl, rfl⟩, _, _, _, w8, hr8, hst9 _ fun w9 P9 c9' => ?_⟩
    have o9 := o6.ch c9' fun k hk2 => (hbq k hk2).2
    rw [beq_self_eq_true]
    refine Sif_true ⟨_, toStr (P9.each rfl _ (List.mem_append.2 (.inr (List.mem_singleton.2 rfl)))).rd, _, toStr o9.rd, ?_⟩
    rw [str_eq_self]
    have hz3 : w.heap.size ≤ w3.heap.size := by have := hc2.size; have := c3.size; omega
    have hz6 : w3.heap.size ≤ w6.heap.size := c6.size
    have hd6 : w6.drew.heap.size = w6.heap.size := rfl
    refine fin P9 (by omega) (by simp; omega) (by simp; omega) hkp (by rw [hW rfl]; simp) (fun x hx => ?_) (((hc2.new c3).trans c6 fun b hb h => ?_).new (Ch.drew w6) |>.trans c9' fun b hb h => ?_) (PB_sub (fun b h => .inl (n2 b h)) (fun b h => .inl h) (fun b h => (hb7 b h).imp id fun h => by omega) (fun b h => (hb9 b h).imp id fun h => by omega) fun b h => ?_)
    · rcases List.mem_append.1 hx with h | h
      · exact hCd x h
      · simp only [List.mem_singleton] at h
        subst h; exact hrl
    · rcases h with h | h
      · exact .inl h
      · exact .inr (.inr (.inr (.inl h)))
    · rcases h with h | h
      · exact .inl h
      · exact .inr (.inr (.inr (.inr (.inl h))))
    · have e : cowns (C ++ [({ p := q, c := cq, own := bq, dat := a.read o.name } : CL)]) = cowns C ++ bq.toList := by simp [cowns]
      rw [e] at h
      rcases List.mem_append.1 h with h | h
      · exact .inl h
      · exact .inr (by have := f2 b (by simpa using h); omega)
  have PX1 : PX true w1 pp (PB pp BD BR C cb wb) f c := P0.ch c1 fun _ _ => id
  refine Sif_cases (fun _ => ?_) fun _ => ?_
  · -- Files
    refine pfiles_ok PX1 (by omega) (by omega) fun w' B' PX' c' n' => ⟨_, rfl, ?_⟩
    exact hk w' B' (PX'.up (by omega) (by omega)) ((c1.mono fun _ _ h => h.elim).trans' c') fun b h => (n' b h).imp id fun h => by omega
  refine Sif_cases (fun _ => ?_) fun _ => ?_
  · -- Arm
    refine ⟨_, P1d.c0, _, by rw [cell_blk b1d]; rfl, _, by rw [cell_blk b1d]; rfl, arm_ok P1d.dk hn ?_⟩
    intro w2 B2 D2 c2 n2
    have P2 := (P1d.setD D2.sort c2 n2).ch0 (Ch.drew (S := fun _ => False) w2)
    have b2 : blk w2.drew w.heap.size = some o.cells := bx b1d (c2.new (Ch.drew w2)) fun h => hkb _ (.inr (.inl h)) rfl
    refine ⟨rfl, _, P2.c1, _, by rw [cell_blk b2]; rfl, _, by rw [cell_blk b2]; rfl, rarm_ok P2.rk ?_⟩
    intro w3 B3 R3 c3 n3
    have P3 := P2.setR R3 c3 n3
    refine ⟨rfl, ?_⟩
    have hc2 : Ch (PB pp BD BR C cb wb) w w2.drew := ((hc1.mono fun _ _ h => h.elim).trans' (c2.mono fun b _ h => .inr (.inl h))).new (Ch.drew w2)
    refine fin2 P3 (by unfold AD.arm; split <;> simp) (by unfold AD.arm; split <;> assumption) (hc2.more c3 fun b h => .inr (.inr (.inl h))) (fun b h => (n2 b h).imp id fun h => by omega) fun b h => (n3 b h).imp id fun h => by have := hc2.size; omega
  refine Sif_cases (fun _ => ?_) fun _ => ?_
  · -- Crash
    refine ⟨_, P1d.c0, _, by rw [cell_blk b1d]; rfl, crash_ok P1d.dk ?_⟩
    intro w2 B2 D2 c2 n2
    have P2 := (P1d.setD D2.sort c2 n2).ch0 (Ch.drew (S := fun _ => False) w2)
    have b2 : blk w2.drew w.heap.size = some o.cells := bx b1d (c2.new (Ch.drew w2)) fun h => hkb _ (.inr (.inl h)) rfl
    refine ⟨rfl, _, P2.c1, _, by rw [cell_blk b2]; rfl, rcrash_ok P2.rk wf (by omega) hn1 ?_⟩
    intro w3 B3 R3 c3 n3
    have P3 := P2.setR R3 c3 n3
    refine ⟨rfl, ?_⟩
    have nr := near_crash a o.n
    have hc2 : Ch (PB pp BD BR C cb wb) w w2.drew := ((hc1.mono fun _ _ h => h.elim).trans' (c2.mono fun b _ h => .inr (.inl h))).new (Ch.drew w2)
    exact fin2 P3 nr.len (by rw [nr.keep]; exact hkp) (hc2.more c3 fun b h => .inr (.inr (.inl h))) (fun b h => (n2 b h).imp id fun h => by omega) fun b h => (n3 b h).imp id fun h => by have := hc2.size; omega
  refine Sif_cases (fun _ => ?_) fun _ => ?_
  · -- Start
    refine ⟨_, P1.c0, start_ok P1.dk ?_⟩
    intro w2 B2 D2 c2 n2
    have P2 := P1.setD D2.sort c2 n2
    refine ⟨rfl, _, P2.c1, rstart_ok P2.rk ?_⟩
    intro w3 B3 R3 c3 n3
    have P3 := P2.setR R3 c3 n3
    refine ⟨rfl, ?_⟩
    have hc2 : Ch (PB pp BD BR C cb wb) w w2 := (c1.mono fun _ _ h => h.elim).trans' (c2.mono fun b _ h => .inr (.inl h))
    exact fin2 (a' := { a with down := false }) P3 (by simp) hkp (hc2.more c3 fun b h => .inr (.inr (.inl h))) (fun b h => (n2 b h).imp id fun h => by omega) fun b h => (n3 b h).imp id fun h => by have := hc2.size; omega
  refine Sif_cases (fun _ => ?_) fun _ => ?_
  · -- Load
    refine ⟨_, by rw [cell_blk b1]; rfl, pload_ok PX1 (by omega) fun w' B' PX' c' n' => ⟨_, rfl, ?_⟩⟩
    exact hk w' B' (PX'.up (by omega) (by omega)) ((c1.mono fun _ _ h => h.elim).trans' c') fun b h => (n' b h).imp id fun h => by omega
  · exact hk w1 _ (PX1.up (by omega) (by omega)) (c1.mono fun _ _ h => h.elim) fun b h => .inl h
end Go.Proofs.Ytncbmfinndcojaa
