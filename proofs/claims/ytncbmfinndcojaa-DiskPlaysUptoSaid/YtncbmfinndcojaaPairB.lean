/-
  The pair's files and owned.
-/
import Derived.Test.YtncbmfinndcojaaPairA
namespace Go.Proofs.Ytncbmfinndcojaa
open Go Go.Sv Go.MapKept
set_option linter.unusedVariables false
set_option maxRecDepth 10000

/-- a pair whose disks are there: at most f files, at most c lists came out; g: all that came out is still what it was -/
structure PX (g : Bool) (w : World) (pp : Nat) (B : Nat → Prop) (f c : Nat) : Prop where
  ex : ∃ d r a BD BR C W cp cc cb wp wc wb, PO g w pp d r a a BD BR C W cp cc cb wp wc wb ∧ B = PB pp BD BR C cb wb ∧ a.fs.length ≤ f ∧ C.length ≤ c ∧ W.length = C.length ∧ -9223372036854775808 ≤ a.keep ∧ (g = true → W = C.map (·.dat)) ∧ ∀ x ∈ C, x.dat.length ≤ 2 ^ 24
theorem PX.ch {g : Bool} {S : Nat → Prop} {w w' : World} {pp : Nat} {B : Nat → Prop} {f c : Nat} (P : PX g w pp B f c) (hc : Ch S w w') (hn : ∀ b, B b → ¬ S b) : PX g w' pp B f c := by
  obtain ⟨d, r, a, BD, BR, C, W, cp, cc, cb, wp, wc, wb, P, rfl, h⟩ := P
  exact ⟨d, r, a, BD, BR, C, W, cp, cc, cb, wp, wc, wb, P.ch hc hn, rfl, h⟩
theorem PX.lt {g : Bool} {w : World} {pp : Nat} {B : Nat → Prop} {f c : Nat} (P : PX g w pp B f c) : ∀ b, B b → b < w.heap.size := by
  obtain ⟨d, r, a, BD, BR, C, W, cp, cc, cb, wp, wc, wb, P, rfl, h⟩ := P
  exact P.lt
theorem PX.up {g : Bool} {w : World} {pp : Nat} {B : Nat → Prop} {f c f' c' : Nat} (P : PX g w pp B f c) (h1 : f ≤ f') (h2 : c ≤ c') : PX g w pp B f' c' := by
  obtain ⟨d, r, a, BD, BR, C, W, cp, cc, cb, wp, wc, wb, P, h3, h4, h5, h6⟩ := P
  exact ⟨d, r, a, BD, BR, C, W, cp, cc, cb, wp, wc, wb, P, h3, by omega, by omega, h6⟩
abbrev XPost (g : Bool) (w : World) (pp : Nat) (B : Nat → Prop) (f c : Nat) (K : World → Prop) : Prop := ∀ w' B', PX g w' pp B' f c → Ch B w w' → (∀ b, B' b → B b ∨ w.heap.size ≤ b) → K w'
def toCL (x : OF) : CL := { p := x.p, c := x.c, own := x.own, dat := x.f.dat }
theorem cowns_map (C : List CL) (T : List OF) : cowns (C ++ T.map toCL) = cowns C ++ dbl T := by unfold cowns dbl; rw [List.flatMap_append, List.flatMap_map]; rfl
section
variable {g : Bool} {w w' : World} {pp d r : Nat} {aD aR : AD} {BD BR : Nat → Prop} {C : List CL} {W : List (List UInt8)} {cp : Option Addr} {cc : Nat} {cb : Option Nat} {wp : Option Addr} {wc : Nat} {wb : Option Nat}
theorem PO.c0 (P : PO g w pp d r aD aR BD BR C W cp cc cb wp wc wb) : w.cell? ⟨pp, 0, none⟩ = some (.pointer (some ⟨d, 0, none⟩)) := by rw [cell_blk P.head]; rfl
theorem PO.c1 (P : PO g w pp d r aD aR BD BR C W cp cc cb wp wc wb) : w.cell? ⟨pp, 1, none⟩ = some (.pointer (some ⟨r, 0, none⟩)) := by rw [cell_blk P.head]; rfl
theorem PO.c2 (P : PO g w pp d r aD aR BD BR C W cp cc cb wp wc wb) : w.cell? ⟨pp, 2, none⟩ = some (.slice cp C.length cc) := by rw [cell_blk P.head]; rfl
theorem PO.c3 (P : PO g w pp d r aD aR BD BR C W cp cc cb wp wc wb) : w.cell? ⟨pp, 3, none⟩ = some (.slice wp W.length wc) := by rw [cell_blk P.head]; rfl
end
theorem PB_sub {pp : Nat} {BD BR BD' BR' : Nat → Prop} {C C' : List CL} {cb wb cb' wb' : Option Nat} {n : Nat} (h1 : ∀ b, BD' b → BD b ∨ n ≤ b) (h2 : ∀ b, BR' b → BR b ∨ n ≤ b) (h3 : ∀ b, cb' = some b → cb = some b ∨ n ≤ b) (h4 : ∀ b, wb' = some b → wb = some b ∨ n ≤ b) (h5 : ∀ b, b ∈ cowns C' → b ∈ cowns C ∨ n ≤ b) :
    ∀ b, PB pp BD' BR' C' cb' wb' b → PB pp BD BR C cb wb b ∨ n ≤ b := by
  rintro b (h | h | h | h | h | h)
  · exact .inl (.inl h)
  · exact (h1 b h).imp (fun h => .inr (.inl h)) id
  · exact (h2 b h).imp (fun h => .inr (.inr (.inl h))) id
  · exact (h3 b h).imp (fun h => .inr (.inr (.inr (.inl h)))) id
  · exact (h4 b h).imp (fun h => .inr (.inr (.inr (.inr (.inl h))))) id
  · exact (h5 b h).imp (fun h => .inr (.inr (.inr (.inr (.inr h))))) id
set_option maxHeartbeats 4000000 in
theorem pfiles_ok {g : Bool} {w : World} {pp : Nat} {B : Nat → Prop} {f c : Nat} {K : Value → World → Prop} (P : PX g w pp B f c) (hf : f < 2 ^ 40) (hc : c < 2 ^ 41)
    (hk : XPost g w pp B f (c + f) (K (.bool true))) : callP Try.prog 24 [.pointer (some ⟨pp, 0, none⟩)] w K := by
  obtain ⟨d, r, a, BD, BR, C, W, cp, cc, cb, wp, wc, wb, P, rfl, haf, hCl, hWl, hkp, hW, hCd⟩ := P
  have hsrt := sorted_self P.rk.sort
  have wf := P.dk.wf
  have hPlt := P.lt
  refine ok_longshorelaw19_pair_files ?_
  unfold wp_longshorelaw19_pair_files
  simp only [nn_some, add_at, Nat.zero_add]
  refine ⟨_, P.c0, filesS_ok P.dk (by omega) fun p2 c2 ob O w1 BD1 D1 c1 n1 FR hO hnew => ⟨_, _, _, rfl, ?_⟩⟩
  rw [hsrt] at D1 hO
  have P1 := P.setD D1 c1 fun b h => .inl (n1 b h)
  refine ⟨_, P1.c1, rfiles_ok P1.rk (fun f hf => by have := dat_le_total hf; have := wf.tot; omega) (by omega) fun p4 c4 ob2 O2 w2 c2' FR2 hO2 hnew2 => ⟨_, _, _, rfl, ?_⟩⟩
  have hOl : O.length = a.fs.length := by have := congrArg List.length hO; simpa using this
  have hO2l : O2.length = a.fs.length := by have := congrArg List.length hO2; simpa using this
  refine Same_ok (FR.rd.ch0 c2') FR2.rd (by rw [hO, hO2]) (by omega) fun w3 c3 z3 => ⟨_, rfl, ?_⟩
  have P3 := (P1.ch0 c2').ch0 c3
  have FR3 := (FR.ch c2' fun _ _ => id).ch c3 fun _ _ => id
  have FR23 : FilesD w3 p4 O2 := FR2.rd.ch0 c3
  have hFl := FR.lt
  have hz12 := c2'.size
  have hz23 := c3.size
  have hzw1 := c1.size
  have hOb : ∀ b ∈ FilesR.bl ob O, w.heap.size ≤ b ∧ b < w3.heap.size := fun b hb => ⟨hnew b hb, by have := hFl b hb; omega⟩
  have hc13 : Ch (PB pp BD BR C cb wb) w w3 := ((c1.mono fun b _ h => .inr (.inl h)).new c2').new c3
  have hrl2 : ∀ a2, p4 = some a2 → O2.length ≠ 0 → ∀ b, a2.block = b → w.heap.size ≤ b := fun a2 ha2 h0 b hb => by
    obtain ⟨h1, h2, h3⟩ := FR2.row
    rcases h3 with ⟨_, h3⟩ | ⟨k, o, cs, hk2, hp, _⟩
    · omega
    · rw [hp] at ha2; cases ha2
      have := hnew2 k (by simp [FilesR.bl, hk2])
      simp only at hb; omega
  have hdl2 : ∀ o ∈ O2, ∀ a2, o.p = some a2 → o.f.dat.length ≠ 0 → w.heap.size ≤ a2.block := fun o ho a2 ha2 h0 => by
    obtain ⟨h1, h2, h3⟩ := FR2.dat o ho
    rcases h3 with ⟨_, h3⟩ | ⟨k, o', cs, hk2, hp, _⟩
    · omega
    · rw [hp] at ha2; cases ha2
      have := hnew2 k (List.mem_append.2 (.inr (List.mem_flatMap.2 ⟨o, ho, by simp [hk2]⟩)))
      simp only; omega
  -- all that came out is kept
  refine ⟨fun m k w' => ∃ (j : Nat) (cp' : Option Addr) (cc' : Nat) (cb' : Option Nat) (wp' : Option Addr) (wc' : Nat) (wb' : Option Nat), k = j ∧ j ≤ O.length ∧ m = O.length - j ∧ PO g w' pp d r a a BD1 BR (C ++ (O.take j).map toCL) (W ++ (O2.take j).map (·.f.dat)) cp' cc' cb' wp' wc' wb' ∧
      Ow w' p2 O.length c2 3 (O.flatMap OF.cells) ob ∧ (∀ (i : Nat) (x : OF), O[i]? = some x → j ≤ i → Ow w' x.p x.f.dat.length x.c 1 (bytesV x.f.dat) x.own) ∧ FilesD w' p4 O2 ∧ Ch (PB pp BD BR C cb wb) w w' ∧
      (∀ k, cb' = some k → cb = some k ∨ w3.heap.size ≤ k) ∧ (∀ k, wb' = some k → wb = some k ∨ w3.heap.size ≤ k) ∧ w3.heap.size ≤ w'.heap.size,
    ⟨O.length, 0, cp, cc, cb, wp, wc, wb, rfl, by omega, by omega, by simpa using P3, FR3.row, fun i x hx _ => FR3.dat x (List.mem_of_getElem? hx), FR23, hc13, fun k h => .inl h, fun k h => .inl h, Nat.le_refl _⟩, ?_⟩
  rintro m k w4 ⟨j, cp', cc', cb', wp', wc', wb', rfl, hj, rfl, P4, o4, e4, F4, kc4, hcb4, hwb4, hz4⟩
  have hPB4 : ∀ b, PB pp BD1 BR (C ++ (O.take j).map toCL) cb' wb' b → b < w.heap.size ∨ w3.heap.size ≤ b ∨ b ∈ dbl (O.take j) := by
    rintro b (h | h | h | h | h | h)
    · exact .inl (hPlt b (.inl h))
    · exact .inl (hPlt b (.inr (.inl (n1 b h))))
    · exact .inl (hPlt b (.inr (.inr (.inl h))))
    · exact (hcb4 b h).imp (fun h => hPlt b (.inr (.inr (.inr (.inl h))))) .inl
    · exact (hwb4 b h).imp (fun h => hPlt b (.inr (.inr (.inr (.inr (.inl h)))))) .inl
    · have e : cowns (C ++ (O.take j).map toCL) = cowns C ++ dbl (O.take j) := cowns_map _ _
      rw [e] at h
      rcases List.mem_append.1 h with h | h
      · exact .inl (hPlt b (.inr (.inr (.inr (.inr (.inr h))))))
      · exact .inr (.inr h)
  have hnd := FR.nodup
  refine ⟨fun w' => w' = w4 ∧ j < O.length, ?_, Sif_cases (fun q => Sif_true ⟨rfl, by have := of_decide_eq_true q; omega⟩) fun q => ?_⟩
  · rintro w5 ⟨rfl, hlt⟩
    have hx : O[j]? = some O[j] := List.getElem?_eq_getElem hlt
    have hy : O2[j]? = some (O2[j]'(by omega)) := List.getElem?_eq_getElem (by omega)
    generalize O[j] = x at hx
    generalize O2[j]'(by omega) = y at hy
    have P4d := P4.ch0 (Ch.drew (S := fun _ => False) w5)
    refine ⟨by omega, by omega, ?_⟩
    have o4d := o4.ch (Ch.drew (S := fun _ => False) w5) fun _ _ => id
    obtain ⟨kb, ko, rfl, hcr⟩ := Rd.at OF.cells_len o4d.rd hx (by omega)
    simp only [nn_some, add_at, Int.toNat_natCast, Nat.add_zero]
    refine ⟨_, _, _, P4d.c2, _, _, _, hcr 1 _ rfl, ?_⟩
    have hxo : ∀ k, x.own = some k → k ∈ FilesR.bl ob O ∧ k ∉ dbl (O.take j) := fun k hk2 => by
      have h1 : k ∈ dbl O := List.mem_flatMap.2 ⟨x, List.mem_of_getElem? hx, by simp [hk2]⟩
      refine ⟨List.mem_append.2 (.inr h1), fun h2 => ?_⟩
      have h3 : (dbl O).Nodup := (List.nodup_append.1 hnd).2.1
      have h4 : dbl O = dbl (O.take j) ++ dbl (O.drop j) := by unfold dbl; rw [← List.flatMap_append, List.take_append_drop]
      have h5 : k ∈ dbl (O.drop j) := by
        rw [List.drop_eq_getElem_cons hlt]
        have : O[j] = x := by rw [List.getElem?_eq_getElem hlt] at hx; exact Option.some.inj hx
        rw [this]
        exact List.mem_append.2 (.inl (by simp [hk2]))
      rw [h4] at h3
      exact (List.nodup_append.1 h3).2.2 k h2 k h5 rfl
    have hxn : ∀ k, x.own = some k → ¬ PB pp BD1 BR (C ++ (O.take j).map toCL) cb' wb' k := fun k hk2 h => by
      obtain ⟨h1, h2⟩ := hxo k hk2
      have h3 := hOb k h1
      rcases hPB4 k h with h | h | h
      · omega
      · omega
      · exact h2 h
    have key := P4d.pushC (te := 31) (x := toCL x) (by simp; omega) ((e4 j x hx (Nat.le_refl _)).ch (Ch.drew (S := fun _ => False) w5) fun _ _ => id) hxn (K := fun p7 n5 c4' w7 => n5 = (C ++ (O.take j).map toCL ++ [toCL x]).length ∧ ∃ b7, (∀ Q : World → Prop, (∀ w8, PO g w8 pp d r a a BD1 BR (C ++ (O.take j).map toCL ++ [toCL x]) (W ++ (O2.take j).map (·.f.dat)) p7 c4' b7 wp' wc' wb' → Ch (fun b => b = pp ∨ cb' = some b) w5.drew w8 → Q w8) → st w7 ⟨pp, 2, none⟩ (.slice p7 (C ++ (O.take j).map toCL ++ [toCL x]).length c4') Q) ∧ (∀ k, b7 = some k → cb' = some k ∨ w5.drew.heap.size ≤ k))
      fun p' c' b' w7 h1 h2 _ => ⟨rfl, b', h1, h2⟩
    refine newB_mono key ?_
    rintro a4 w6 ⟨hh6, p7, n5, c4', w7, hr7, rfl, b7, hst7, hb7⟩
    refine ⟨⟨_, _, _, by rw [cell_blk hh6]; rfl, rfl⟩, _, _, _, w7, hr7, hst7 _ fun w8 P8 c8 => ⟨by omega, by omega, ?_⟩⟩
    have hz8 : w5.heap.size ≤ w8.heap.size := c8.size
    have hppw : pp < w.heap.size := hPlt pp (.inl rfl)
    have hS8 : ∀ b, w.heap.size ≤ b → b < w3.heap.size → ¬ (b = pp ∨ cb' = some b) := fun b h1 h2 h => by
      rcases h with h | h
      · omega
      · rcases hcb4 b h with h | h
        · have := hPlt b (.inr (.inr (.inr (.inl h)))); omega
        · omega
    have hp4lt : ∀ a2, p4 = some a2 → O2.length ≠ 0 → a2.block < w3.heap.size := fun a2 h1 h2 => FR23.row.lt a2 h1 (by omega)
    have F8 : FilesD w8 p4 O2 := ⟨(F4.ch0 (Ch.drew w5)).row.ch c8 fun a2 h1 h2 => hS8 _ (hrl2 a2 h1 (by omega) _ rfl) (hp4lt a2 h1 (by omega)), fun o ho => ((F4.ch0 (Ch.drew w5)).dat o ho).ch c8 fun a2 h1 h2 => hS8 _ (hdl2 o ho a2 h1 (by omega)) ((FR23.dat o ho).lt a2 h1 h2)⟩
    have P8d := P8.ch0 (Ch.drew (S := fun _ => False) w8)
    have F8d := F8.ch0 (Ch.drew w8)
    obtain ⟨yb, yo, rfl, g0, g1, g2⟩ := F8d.at hy
    simp only [nn_some, add_at, Int.toNat_natCast, Nat.add_zero]
    refine ⟨_, _, _, P8d.c3, _, _, _, g1, _, toStr (F8d.dat y (List.mem_of_getElem? hy)), ?_⟩
    have key2 := P8d.pushW (te := 9) (l := y.f.dat) (by simp; omega) (K := fun p7' n5 c4'' w9 => n5 = (W ++ (O2.take j).map (·.f.dat) ++ [y.f.dat]).length ∧ ∃ b9, (∀ Q : World → Prop, (∀ w10, PO g w10 pp d r a a BD1 BR (C ++ (O.take j).map toCL ++ [toCL x]) (W ++ (O2.take j).map (·.f.dat) ++ [y.f.dat]) p7 c4' b7 p7' c4'' b9 → Ch (fun b => b = pp ∨ wb' = some b) w8.drew w10 → Q w10) → st w9 ⟨pp, 3, none⟩ (.slice p7' (W ++ (O2.take j).map (·.f.dat) ++ [y.f.dat]).length c4'') Q) ∧ (∀ k, b9 = some k → wb' = some k ∨ w8.drew.heap.size ≤ k))
      fun p' c' b' w7 h1 h2 _ => ⟨rfl, b', h1, h2⟩
    refine newB_mono key2 ?_
    rintro a8 w9 ⟨hh9, p9, n9, c9, w10, hr10, rfl, b9, hst9, hb9⟩
    refine ⟨⟨_, _, _, by rw [cell_blk hh9]; rfl, rfl⟩, _, _, _, w10, hr10, hst9 _ fun w11 P11 c11 => ?_⟩
    rw [nameI_iff, wrap_id (by omega) (by omega)]
    have hS11 : ∀ b, w.heap.size ≤ b → b < w3.heap.size → ¬ (b = pp ∨ wb' = some b) := fun b h1 h2 h => by
      rcases h with h | h
      · omega
      · rcases hwb4 b h with h | h
        · have := hPlt b (.inr (.inr (.inr (.inr (.inl h))))); omega
        · omega
    have hz11 : w8.heap.size ≤ w11.heap.size := c11.size
    have e1 : C ++ (O.take (j + 1)).map toCL = C ++ (O.take j).map toCL ++ [toCL x] := by rw [List.take_add_one, hx]; simp
    have e2 : W ++ (O2.take (j + 1)).map (·.f.dat) = W ++ (O2.take j).map (·.f.dat) ++ [y.f.dat] := by rw [List.take_add_one, hy]; simp
    have hd8 : w5.drew.heap.size = w5.heap.size := rfl
    have hd11 : w8.drew.heap.size = w8.heap.size := rfl
    refine ⟨O.length - (j + 1), by omega, j + 1, p7, c4', b7, p9, c9, b9, by simp, by omega, rfl, by rw [e1, e2]; exact P11, ?_, fun i z hz hi => ?_, ?_, ?_, fun k h => ?_, fun k h => ?_, by omega⟩
    · have h1 : Ow w8 (some ⟨kb, ko, none⟩) O.length c2 3 (O.flatMap OF.cells) ob := o4d.ch c8 fun k hk2 => hS8 k (hOb k (by simp [FilesR.bl, hk2])).1 (hOb k (by simp [FilesR.bl, hk2])).2
      exact (h1.ch (Ch.drew (S := fun _ => False) w8) fun _ _ => id).ch c11 fun k hk2 => hS11 k (hOb k (by simp [FilesR.bl, hk2])).1 (hOb k (by simp [FilesR.bl, hk2])).2
    · have hzo : ∀ k, z.own = some k → k ∈ FilesR.bl ob O := fun k hk2 => List.mem_append.2 (.inr (List.mem_flatMap.2 ⟨z, List.mem_of_getElem? hz, by simp [hk2]⟩))
      have h1 := ((e4 i z hz (by omega)).ch (Ch.drew (S := fun _ => False) w5) fun _ _ => id).ch c8 fun k hk2 => hS8 k (hOb k (hzo k hk2)).1 (hOb k (hzo k hk2)).2
      exact (h1.ch (Ch.drew (S := fun _ => False) w8) fun _ _ => id).ch c11 fun k hk2 => hS11 k (hOb k (hzo k hk2)).1 (hOb k (hzo k hk2)).2
    · exact ⟨F8d.row.ch c11 fun a2 h1 h2 => hS11 _ (hrl2 a2 h1 (by omega) _ rfl) (hp4lt a2 h1 (by omega)), fun o ho => (F8d.dat o ho).ch c11 fun a2 h1 h2 => hS11 _ (hdl2 o ho a2 h1 (by omega)) ((FR23.dat o ho).lt a2 h1 h2)⟩
    · refine (((kc4.new (Ch.drew w5)).trans c8 fun k hk2 h => ?_).new (Ch.drew w8)).trans c11 fun k hk2 h => ?_
      · rcases h with h | h
        · exact .inl h
        · rcases hcb4 k h with h | h
          · exact .inr (.inr (.inr (.inl h)))
          · omega
      · rcases h with h | h
        · exact .inl h
        · rcases hwb4 k h with h | h
          · exact .inr (.inr (.inr (.inr (.inl h))))
          · omega
    · rcases hb7 k h with h | h
      · exact hcb4 k h
      · exact .inr (by omega)
    · rcases hb9 k h with h | h
      · exact hwb4 k h
      · exact .inr (by omega)
  · have hge : j = O.length := by have := of_decide_eq_false q; omega
    subst hge
    rw [List.take_length, show O2.take O.length = O2 by rw [List.take_of_length_le (by omega)]] at P4
    rw [List.take_length] at hPB4
    refine ⟨fun m k w' => ∃ (i : Nat) (xs : List Value), k = i ∧ i ≤ O.length ∧ m = O.length - i ∧ Ow w' p2 O.length c2 3 xs ob ∧ Ch (fun b => ob = some b) w4 w', ⟨O.length, 0, _, rfl, by omega, by omega, o4, Ch.refl _ _⟩, ?_⟩
    rintro m k w5 ⟨i, xs, rfl, hi, rfl, o5, c5⟩
    refine Sif_cases (fun q2 => ?_) fun q2 => ?_
    · have hlt : i < O.length := by have := of_decide_eq_true q2; omega
      obtain ⟨kb, ko, rfl, hob, hst⟩ := o5.st (i := i * 3) (by omega)
      simp only [nn_some, add_at, Int.toNat_natCast, Nat.add_zero]
      refine ⟨by omega, by omega, hst _ _ fun w6 o6 c6 z6 => ?_⟩
      obtain ⟨_, _, e1, _, hst⟩ := o6.st (i := i * 3 + 1) (by omega)
      cases e1
      rw [show ko + i * 3 + 1 = ko + (i * 3 + 1) by omega]
      refine hst _ _ fun w7 o7 c7 z7 => ?_
      obtain ⟨_, _, e1, _, hst⟩ := o7.st (i := i * 3 + 2) (by omega)
      cases e1
      rw [show ko + i * 3 + 2 = ko + (i * 3 + 2) by omega]
      refine hst _ _ fun w8 o8 c8 z8 => ?_
      rw [nameI_iff, wrap_id (by omega) (by omega)]
      exact ⟨O.length - (i + 1), by omega, i + 1, _, by simp, by omega, rfl, o8, c5.more ((c6.trans' c7).trans' c8) fun k hk => by rw [hk]; exact hob⟩
    · have hobn : ∀ b, PB pp BD1 BR (C ++ O.map toCL) cb' wb' b → ob ≠ some b := fun b h e => by
        have h1 := hOb b (by simp [FilesR.bl, e])
        rcases hPB4 b h with h | h | h
        · omega
        · omega
        · rw [e] at hnd
          simp only [Option.toList_some, List.singleton_append] at hnd
          exact (List.nodup_cons.1 hnd).1 h
      refine hk w5 _ ⟨d, r, a, BD1, BR, C ++ O.map toCL, W ++ O2.map (·.f.dat), cp', cc', cb', wp', wc', wb', P4.ch c5 hobn, rfl, haf, by simp; omega, by simp; omega, hkp, fun hg => ?_, fun x hx => ?_⟩ (kc4.trans c5 fun k hk2 h => by have := (hOb k (by simp [FilesR.bl, h])).1; omega) ?_
      · rw [hW hg, List.map_append, List.map_map]
        congr 1
        have h1 : O.map (·.f) = O2.map (·.f) := by rw [hO, hO2]
        have h2 := congrArg (List.map File.dat) h1
        rw [List.map_map, List.map_map] at h2
        exact h2.symm
      · rcases List.mem_append.1 hx with h | h
        · exact hCd x h
        · obtain ⟨o, ho, rfl⟩ := List.mem_map.1 h
          have := dat_le_total (hO ▸ List.mem_map.2 ⟨o, ho, rfl⟩ : o.f ∈ a.fs)
          have := wf.tot
          show o.f.dat.length ≤ _
          omega
      · refine PB_sub (fun b h => .inl (n1 b h)) (fun b h => .inl h) (fun b h => (hcb4 b h).imp id fun h => by omega) (fun b h => (hwb4 b h).imp id fun h => by omega) fun b h => ?_
        have e : cowns (C ++ O.map toCL) = cowns C ++ dbl O := cowns_map _ _
        rw [e] at h
        rcases List.mem_append.1 h with h | h
        · exact .inl h
        · exact .inr (hOb b (List.mem_append.2 (.inr h))).1
end Go.Proofs.Ytncbmfinndcojaa
