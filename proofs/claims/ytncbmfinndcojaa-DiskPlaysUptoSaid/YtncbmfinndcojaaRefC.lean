/-
  The document's disk: stores into the list, take, fall, fails, asked; Start, Arm, Crash.
-/
import Derived.Test.YtncbmfinndcojaaRefB
namespace Go.Proofs.Ytncbmfinndcojaa
open Go Go.Sv Go.MapKept
set_option linter.unusedVariables false
set_option maxRecDepth 4000

theorem set_split {α : Type} {l : List α} {i : Nat} {x : α} (h : l[i]? = some x) (y : α) : l.set i y = l.take i ++ y :: l.drop (i + 1) := by
  obtain ⟨hi, rfl⟩ := List.getElem?_eq_some_iff.1 h
  exact List.set_eq_take_append_cons_drop .. |>.trans (by rw [if_pos hi])
theorem dbl_at {O : List OF} {i : Nat} {x : OF} (h : O[i]? = some x) : (dbl O).Perm (x.own.toList ++ dbl (O.take i ++ O.drop (i + 1))) := by
  have h1 : O.Perm (x :: (O.take i ++ O.drop (i + 1))) := by
    conv => lhs; rw [split_at h]
    exact List.perm_middle
  exact dbl_perm h1
theorem dbl_set {O : List OF} {i : Nat} {x y : OF} (h : O[i]? = some x) : (dbl (O.set i y)).Perm (y.own.toList ++ dbl (O.take i ++ O.drop (i + 1))) := by
  rw [set_split h]
  exact dbl_perm (O := O.take i ++ y :: O.drop (i + 1)) List.perm_middle
/-- a store into one of the list's elements -/
theorem RK0.stEl {w : World} {r : Nat} {a : AD} {O : List OF} {p : Option Addr} {c : Nat} {ob : Option Nat} (R : RK0 w r a O p c ob) {i j : Nat} {x x' : OF} {v : Value} (hi : O[i]? = some x) (hj : j < 3) (hc : x'.cells = x.cells.set j v)
    (hd : Ow w x'.p x'.f.dat.length x'.c 1 (bytesV x'.f.dat) x'.own) (hown : ∀ k, x'.own = some k → x.own = some k ∨ ¬ rbl r ob O k) :
    ∃ kb ko, p = some ⟨kb, ko, none⟩ ∧ ob = some kb ∧ ∀ K : World → Prop, (∀ w', RK0 w' r { a with fs := (O.set i x').map (·.f) } (O.set i x') p c ob → Ch (· = kb) w w' → w'.heap.size = w.heap.size → K w') → Sv.st w ⟨kb, ko + i * 3 + j, none⟩ v K := by
  have hil : i < O.length := (List.getElem?_eq_some_iff.1 hi).1
  have hob := R.obn
  have hdn := R.dn
  have hat := dbl_at hi
  have hset := dbl_set (y := x') hi
  obtain ⟨⟨ac, h1, h2⟩, h3, h4, h5⟩ := R
  obtain ⟨kb, ko, rfl, rfl, hst⟩ := h3.row.st (i := i * 3 + j) (by omega)
  have hnd1 := hat.nodup_iff.1 hdn.1
  obtain ⟨n1, n2, n3⟩ := List.nodup_append.1 hnd1
  have hsub : ∀ k, k ∈ dbl (O.take i ++ O.drop (i + 1)) → k ∈ dbl O := fun k hk => hat.mem_iff.2 (List.mem_append.2 (.inr hk))
  have hmem : ∀ k, k ∈ dbl (O.set i x') → k ∈ dbl O ∨ x'.own = some k := fun k hk => by
    rcases List.mem_append.1 (hset.mem_iff.1 hk) with h | h
    · exact .inr (by simpa using h)
    · exact .inl (hsub k h)
  have hx'n : ∀ k, x'.own = some k → k ≠ r ∧ k ≠ kb ∧ k ∉ dbl (O.take i ++ O.drop (i + 1)) := fun k hk => by
    rcases hown k hk with h | h
    · have hin : k ∈ dbl O := hat.mem_iff.2 (List.mem_append.2 (.inl (by simp [h])))
      exact ⟨fun e => hdn.2 (e ▸ hin), fun e => (hob kb rfl).1 (e ▸ hin), fun h6 => n3 k (by simp [h]) k h6 rfl⟩
    · exact ⟨fun e => h (rbl_eq.2 (.inl e)), fun e => h (rbl_eq.2 (.inr (.inl (by rw [e])))), fun h6 => h (rbl_eq.2 (.inr (.inr (hsub k h6))))⟩
  refine ⟨kb, ko, rfl, rfl, fun K hK => ?_⟩
  rw [Nat.add_assoc]
  refine hst v K fun w' o' c' z' => hK w' ?_ c' z'
  have hlen : (O.set i x').length = O.length := by simp
  refine ⟨⟨ac, by rw [c'.blk (blk_lt h1) fun e => (hob kb rfl).2 e.symm, hlen]; exact h1, h2⟩, ⟨?_, fun o ho => ?_, ?_⟩, fun h => ?_, rfl⟩
  · rw [hlen, ← flat_set OF.cells_len O i j v hi hj hc]; exact o'
  · rw [set_split hi] at ho
    rcases List.mem_append.1 ho with h | h
    · have hoO := List.mem_of_mem_take h
      exact (h3.dat o hoO).ch c' fun k hk e => (hob kb rfl).1 (List.mem_flatMap.2 ⟨o, hoO, by simp [hk, e]⟩)
    · rcases List.mem_cons.1 h with rfl | h
      · exact hd.ch c' fun k hk e => (hx'n k hk).2.1 e
      · have hoO := List.mem_of_mem_drop h
        exact (h3.dat o hoO).ch c' fun k hk e => (hob kb rfl).1 (List.mem_flatMap.2 ⟨o, hoO, by simp [hk, e]⟩)
  · simp only [Option.toList_some, List.singleton_append]
    refine List.nodup_cons.2 ⟨fun h => ?_, hset.nodup_iff.2 ?_⟩
    · rcases hmem kb h with h | h
      · exact (hob kb rfl).1 h
      · exact (hx'n kb h).2.1 rfl
    · refine List.nodup_append.2 ⟨by cases x'.own <;> simp, n2, fun a ha b hb e => ?_⟩
      subst e
      exact (hx'n a (by simpa using ha)).2.2 hb
  · rcases List.mem_append.1 h with h | h
    · exact (hob r (by simpa [eq_comm] using h)).2 rfl
    · rcases hmem r h with h | h
      · exact hdn.2 h
      · exact (hx'n r h).1 rfl

/-! ### fall -/
def cutO (keep : Int) (x : OF) : OF := { x with f := cutF keep x.f, c := nCut x.f keep }
theorem Ow.cut {w : World} {p : Option Addr} {n c : Nat} {l : List UInt8} {b : Option Nat} (h : Ow w p n c 1 (bytesV l) b) {k : Nat} (hk : k ≤ n) : Ow w p k k 1 (bytesV (l.take k)) b := by
  obtain ⟨h1, h2, h3⟩ := h
  have hl : l.length = n := by simpa using h1
  refine ⟨by simp; omega, Nat.le_refl _, ?_⟩
  rcases h3 with ⟨h3, h4⟩ | ⟨b', o, cs, h3, hp, hb, hle, ht⟩
  · exact .inl ⟨h3, by omega⟩
  · refine .inr ⟨b', o, cs, h3, hp, hb, by omega, ?_⟩
    rw [bytesV_take, ← ht, List.take_take]; congr 1; omega
theorem rbl_map {r : Nat} {ob : Option Nat} {O : List OF} {g : OF → OF} (hg : ∀ x, (g x).own = x.own) : rbl r ob (O.map g) = rbl r ob O := by
  funext b
  apply propext
  rw [rbl_eq, rbl_eq]
  have : dbl (O.map g) = dbl O := by simp [dbl, List.flatMap_map, hg]
  rw [this]
set_option maxHeartbeats 1000000 in
theorem rfall_ok {w : World} {r : Nat} {a : AD} {O : List OF} {p : Option Addr} {c : Nat} {ob : Option Nat} {keep : Int} {K : Value → World → Prop} (R : RK0 w r a O p c ob) (hlen : O.length < 2 ^ 41) (wf : WF a) (hk1 : -9223372036854775808 ≤ keep)
    (hk : ∀ w', RK0 w' r (a.fall keep) (O.map (cutO keep)) p c ob → Ch (rbl r ob O) w w' → w'.heap.size = w.heap.size → K (.tuple #[]) w') :
    callP Try.prog 69 [.pointer (some ⟨r, 0, none⟩), .int .i64 keep] w K := by
  refine ok_longshoreref19_Disk_fall ?_
  unfold wp_longshoreref19_Disk_fall
  have hOl := R.len
  refine ⟨fun m k w' => ∃ i : Nat, k = i ∧ i ≤ O.length ∧ m = O.length - i ∧ RK0 w' r { a with fs := ((O.take i).map (cutO keep) ++ O.drop i).map (·.f) } ((O.take i).map (cutO keep) ++ O.drop i) p c ob ∧ Ch (rbl r ob O) w w' ∧ w'.heap.size = w.heap.size,
    ⟨O.length, 0, rfl, by omega, by omega, by simpa [R.hO] using R, Ch.refl _ _, rfl⟩, ?_⟩
  rintro m k w1 ⟨i, rfl, hi, rfl, R1, c1, z1⟩
  have hl1 : ((O.take i).map (cutO keep) ++ O.drop i).length = O.length := by simp; omega
  simp only [nn_some, add_at, Nat.zero_add]
  have hs1 := R1.slice
  rw [hl1] at hs1
  refine ⟨_, _, _, hs1, Sif_cases (fun g => ?_) fun g => ?_⟩
  · have hlt : i < O.length := by have := of_decide_eq_true g; omega
    have hy : O[i]? = some O[i] := List.getElem?_eq_getElem hlt
    have hdrop : O.drop i = O[i] :: O.drop (i + 1) := List.drop_eq_getElem_cons hlt
    have htake : O.take (i + 1) = O.take i ++ [O[i]] := by rw [List.take_add_one, hy]; rfl
    generalize O[i] = y at hy hdrop htake
    have hyf : y.f ∈ a.fs := R.hO ▸ List.mem_map.2 ⟨y, List.mem_of_getElem? hy, rfl⟩
    have hsafe := wf.safe y.f hyf
    have hdl := dat_le_total hyf
    have htot := wf.tot
    have hylen : y.f.dat.length ≤ y.c := (R.files.dat y (List.mem_of_getElem? hy)).2.1
    have hy1 : ((O.take i).map (cutO keep) ++ O.drop i)[i]? = some y := by
      rw [List.getElem?_append_right (by simp; omega), hdrop]
      simp [Nat.min_eq_left (Nat.le_of_lt hlt)]
    obtain ⟨kb, ko, rfl, g0, g1, g2⟩ := R1.files.rd.at hy1
    refine ⟨_, _, _, hs1, by omega, by omega, ?_⟩
    simp only [nn_some, add_at, Int.toNat_natCast, Nat.add_zero]
    refine ⟨_, _, _, g1, _, _, _, hs1, by omega, by omega, ?_⟩
    simp only [nn_some, add_at, Int.toNat_natCast, Nat.add_zero]
    refine ⟨_, g2, ?_⟩
    rw [nameI_iff, wrap_id (n := (y.f.dat.length : Int) - (y.f.safe : Int)) (by omega) (by omega)]
    -- what stays of the bytes: nCut
    refine ⟨fun n' w' => w' = w1 ∧ n' = nCut y.f keep, ?_, ?_⟩
    · rintro n' w2 ⟨rfl, rfl⟩
      have hcut := nCut_le y.f keep
      have Rd2 : RK0 w2.drew r _ _ _ _ _ := R1.ch (Ch.drew (S := fun _ => False) w2) fun _ _ => id
      have hsd := Rd2.slice
      rw [hl1] at hsd
      refine ⟨_, _, _, hsd, _, _, _, hsd, by omega, by omega, ?_⟩
      have g1d : w2.drew.cell? ⟨kb, ko + i * 3 + 1, none⟩ = some (.slice y.p y.f.dat.length y.c) := g1
      simp only [nn_some, add_at, Int.toNat_natCast, Nat.add_zero]
      refine ⟨_, _, _, g1d, by omega, by omega, by omega, by omega, by omega, by omega, ?_⟩
      have hyd := Rd2.files.dat y (List.mem_of_getElem? hy1)
      obtain ⟨kb', ko', e1, hob, hst⟩ := Rd2.stEl (j := 1) (x' := { y with f := { y.f with dat := y.f.dat.take (nCut y.f keep) }, c := nCut y.f keep }) (v := .slice y.p (nCut y.f keep) (nCut y.f keep)) hy1 (by omega)
        (by simp [OF.cells]; omega) (by
          have h6 := Ow.cut hyd hcut
          have h7 : (y.f.dat.take (nCut y.f keep)).length = nCut y.f keep := by simp; omega
          show Ow _ _ (y.f.dat.take (nCut y.f keep)).length _ _ _ _
          rw [h7]; exact h6) (fun k hk => .inl hk)
      cases e1
      refine hst _ fun w3 R3 c3 z3 => ?_
      have hs3 := R3.slice
      rw [List.length_set, hl1] at hs3
      have hy3 : (((O.take i).map (cutO keep) ++ O.drop i).set i { y with f := { y.f with dat := y.f.dat.take (nCut y.f keep) }, c := nCut y.f keep })[i]? = some { y with f := { y.f with dat := y.f.dat.take (nCut y.f keep) }, c := nCut y.f keep } := by
        rw [List.getElem?_set_self (by rw [hl1]; exact hlt)]
      have hyd3 := R3.files.dat _ (List.mem_of_getElem? hy3)
      refine ⟨_, _, _, hs3, by omega, by omega, ?_⟩
      simp only [nn_some, add_at, Int.toNat_natCast, Nat.add_zero]
      obtain ⟨kb', ko', e1, _, hst2⟩ := R3.stEl (j := 2) (x' := cutO keep y) (v := .int .i64 (nCut y.f keep)) hy3 (by omega) rfl hyd3 (fun k hk => .inl hk)
      cases e1
      refine hst2 _ fun w4 R4 c4 z4 => ?_
      rw [nameI_iff, wrap_id (by omega) (by omega)]
      have hfin : ((((O.take i).map (cutO keep) ++ O.drop i).set i { y with f := { y.f with dat := y.f.dat.take (nCut y.f keep) }, c := nCut y.f keep }).set i (cutO keep y)) = (O.take (i + 1)).map (cutO keep) ++ O.drop (i + 1) := by
        rw [List.set_set, hdrop, htake, List.map_append, List.set_append_right _ _ (by simp; omega)]
        simp [Nat.min_eq_left (Nat.le_of_lt hlt)]
      rw [hfin] at R4
      have hkb : rbl r ob O kb := rbl_eq.2 (.inr (.inl hob))
      refine ⟨O.length - (i + 1), by omega, i + 1, by simp, by omega, rfl, R4, ((c1.trans' (Ch.drew w2)).more c3 fun x hx => by rw [hx]; exact hkb).more c4 fun x hx => by rw [hx]; exact hkb, ?_⟩
      rw [z4, z3]; exact z1
    · refine Sif_cases (fun q => ⟨_, _, _, hs1, by omega, by omega, ?_⟩) fun q => ⟨rfl, ?_⟩
      · have q' := of_decide_eq_true q
        simp only [nn_some, add_at, Int.toNat_natCast, Nat.add_zero]
        refine ⟨_, g2, Sif_cases (fun q2 => ?_) fun q2 => ⟨by trivial, ?_⟩⟩
        · have q2' := of_decide_eq_true q2
          rw [nameI_iff, wrap_id (by omega) (by omega)]
          exact ⟨by trivial, by unfold nCut; omega⟩
        · have q2' := of_decide_eq_false q2
          unfold nCut; omega
      · have q' := of_decide_eq_false q
        unfold nCut; omega
  · have hge : i = O.length := by have := of_decide_eq_false g; omega
    subst hge
    rw [List.take_length, List.drop_length, List.append_nil] at R1
    have hff : (O.map (cutO keep)).map (·.f) = (a.fall keep).fs := by
      show _ = a.fs.map (cutF keep)
      rw [← R.hO, List.map_map, List.map_map]; rfl
    refine R1.stH (a' := { a with fs := (O.map (cutO keep)).map (·.f), down := true }) (by omega) rfl (fun ac h => ⟨ac, rfl, h⟩) fun w2 R2 c2 z2 => ?_
    refine R2.stH (a' := a.fall keep) (by omega) hff.symm (fun ac h => ⟨ac, by simp [AD.fall], fun h => by simp [AD.fall] at h⟩) fun w3 R3 c3 z3 => ?_
    exact hk w3 R3 ((c1.more c2 fun x hx => rbl_eq.2 (.inl hx)).more c3 fun x hx => rbl_eq.2 (.inl hx)) (by omega)
end Go.Proofs.Ytncbmfinndcojaa
