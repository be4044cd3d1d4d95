/-
  The document's Load.
-/
import Derived.Test.YtncbmfinndcojaaRefG
namespace Go.Proofs.Ytncbmfinndcojaa
open Go Go.Sv Go.MapKept
set_option linter.unusedVariables false
set_option maxRecDepth 4000

theorem rnew0_ok {w : World} {room : Int} {K : Value → World → Prop}
    (hno : room < 0 ∨ room > 16777216 → K (.pointer none) w)
    (hk : 0 ≤ room → room ≤ 16777216 → ∀ r w', RK0 w' r (newA room) [] none 0 none → Ch (fun _ => False) w w' → w.heap.size ≤ r → K (.pointer (some ⟨r, 0, none⟩)) w') :
    callP Try.prog 21 [.int .i64 room] w K := by
  refine ok_longshoreref19_New ?_
  unfold wp_longshoreref19_New
  refine ⟨fun w' => w' = w ∧ 0 ≤ room ∧ room ≤ 16777216, ?_, Sif_cases (fun g => Sif_cases (fun g2 => ?_) fun g2 => ?_) fun g => ?_⟩
  · rintro w1 ⟨rfl, h1, h2⟩
    refine newB_blk fun w3 b3 c3 z3 => ?_
    exact hk h1 h2 w1.heap.size w3 ⟨⟨0, b3, by simp [newA]⟩, ⟨Ow.nil, by simp, by simp⟩, by simp [FilesR.bl], rfl⟩ c3 (Nat.le_refl _)
  · exact hno (.inr (by have := of_decide_eq_true g2; omega))
  · have h1 : ¬ room < 0 := by simpa using g
    have h2 : ¬ room > 16777216 := of_decide_eq_false g2
    exact ⟨rfl, by omega, by omega⟩
  · have h1 : room < 0 := by simpa using g
    exact hno (.inl h1)
theorem badF_perm {fs gs : List File} (h : fs.Perm gs) (x : FV) : badF fs x ↔ badF gs x := by unfold badF; rw [hasN_perm h]
set_option maxHeartbeats 1000000 in
theorem rload_ok {w : World} {p : Option Addr} {c : Nat} {L : List FV} {room : Int} {K : Value → World → Prop} (I : FVIn w p L)
    (hno : ∀ e w', loadS room L = (e, none) → Ch (fun _ => False) w w' → K (.tuple #[.pointer none, .int .i64 e]) w')
    (hyes : ∀ a r w' B', loadS room L = (0, some a) → RK w' r a.sorted B' → Ch (fun _ => False) w w' → (∀ b, B' b → w.heap.size ≤ b) → K (.tuple #[.pointer (some ⟨r, 0, none⟩), .int .i64 0]) w') :
    callP Try.prog 16 [.slice p L.length c, .int .i64 room] w K := by
  refine ok_longshoreref19_Load ?_
  unfold wp_longshoreref19_Load
  refine rnew0_ok (fun h => ⟨_, rfl, Sif_true (hno 1 w (by unfold loadS; rw [if_pos h]) (Ch.refl _ _))⟩) fun hr0 hr1 r w1 R1 c1 nr => ⟨_, rfl, Sif_false ?_⟩
  have hroom : ¬ (room < 0 ∨ room > 16777216) := by omega
  have hlen := I.len
  have htot := I.tot
  refine ⟨fun m k w' => ∃ (i : Nat) (O : List OF) (q : Option Addr) (cc : Nat) (ob : Option Nat) (F : List File), k = i ∧ i ≤ L.length ∧ m = L.length - i ∧ O.length ≤ i ∧ RK0 w' r { newA room with fs := O.map (·.f) } O q cc ob ∧ (O.map (·.f)).Perm F ∧ O.Pairwise ltO ∧ addAll F (L.drop i) = addAll [] L ∧
      Ch (fun _ => False) w w' ∧ (∀ b, rbl r ob O b → w.heap.size ≤ b) ∧ (total F + ((L.drop i).map fun x => x.dat.length).sum ≤ 2 ^ 60),
    ⟨L.length, 0, [], none, 0, none, [], rfl, by omega, by omega, by simp, R1, .refl _, by simp, rfl, c1, by intro b hb; rcases rbl_eq.1 hb with h | h | h; exact h ▸ nr; cases h; simp [dbl] at h, by simpa [total] using htot⟩, ?_⟩
  rintro m k w2 ⟨i, O, q, cc, ob, F, rfl, hi, rfl, hOl, R2, hp, hso, hadd, c2, hnew, hsum⟩
  have hRl := R2.lt
  have htF : total (O.map (·.f)) = total F := total_perm hp
  refine Sif_cases (fun g => ?_) fun g => ?_
  · have hlt : i < L.length := by have := of_decide_eq_true g; omega
    have hx : L[i]? = some L[i] := List.getElem?_eq_getElem hlt
    generalize L[i] = x at hx
    have hxm := List.mem_of_getElem? hx
    have hsd := sum_drop L i x hx
    have hstep := addAll_step (fs := F) hx
    rw [hadd] at hstep
    have bad : badF (O.map (·.f)) x → ∀ w', Ch (fun _ => False) w w' → K (.tuple #[.pointer none, .int .i64 1]) w' := fun h w' hc => by
      refine hno 1 w' ?_ hc
      unfold loadS
      rw [if_neg hroom, hstep, if_pos ((badF_perm hp x).1 h)]
    refine ⟨fun w' => ∃ (O' : List OF) (q' : Option Addr) (cc' : Nat) (ob' : Option Nat) (F' : List File), O'.length ≤ i + 1 ∧ RK0 w' r { newA room with fs := O'.map (·.f) } O' q' cc' ob' ∧ (O'.map (·.f)).Perm F' ∧ O'.Pairwise ltO ∧ addAll F' (L.drop (i + 1)) = addAll [] L ∧
      Ch (fun _ => False) w w' ∧ (∀ b, rbl r ob' O' b → w.heap.size ≤ b) ∧ (total F' + ((L.drop (i + 1)).map fun x => x.dat.length).sum ≤ 2 ^ 60), ?_, by omega, by omega, ?_⟩
    · rintro w3 ⟨O', q', cc', ob', F', h1, h2, h3, h4, h5, h6, h7, h8⟩
      rw [nameI_iff, wrap_id (by omega) (by omega)]
      exact ⟨L.length - (i + 1), by omega, i + 1, O', q', cc', ob', F', by simp, by omega, rfl, h1, h2, h3, h4, h5, h6, h7, h8⟩
    have I2 := I.ch0 c2
    obtain ⟨kb, ko, rfl, g0, g1, g2⟩ := I2.at hx
    simp only [nn_some, add_at, Int.toNat_natCast, Nat.add_zero]
    refine ⟨_, g0, _, _, _, g1, _, g2, box3 fun w3 b3 c3 z3 => ?_⟩
    simp only [add_at, Nat.zero_add]
    have hc3 := c2.new c3
    have R3 := R2.ch c3 fun _ _ => id
    have hdl := I.dlen x hxm
    refine ⟨_, by rw [cell_blk b3]; rfl, rIsName_ok (by have := I.nlen x hxm; omega) ⟨_, rfl, ?_⟩⟩
    refine ⟨fun w' => w' = w3 ∧ ¬ badF (O.map (·.f)) x, ?_, ?_⟩
    · rintro w4 ⟨rfl, hgood⟩
      have hne : ∀ y ∈ O, y.f.name ≠ x.name := fun y hy e => hgood (.inl (by
        unfold hasN
        rw [List.any_eq_true]
        exact ⟨y.f, List.mem_map.2 ⟨y, hy, rfl⟩, by simp [e]⟩))
      have hs0 : 0 ≤ x.safe := Int.not_lt.1 fun h => hgood (.inr (.inr (.inl h)))
      have hnat : ((x.safe.toNat : Nat) : Int) = x.safe := by omega
      have I4 : FVIn w4 (some ⟨kb, ko, none⟩) L := I.ch0 hc3
      refine ⟨_, _, _, by rw [cell_blk b3]; rfl, rcopied_ok (I4.dat x hxm) (by omega) fun p5 c5 w5 b5 o5 f5 e5 => ⟨_, _, _, rfl, ?_⟩⟩
      have k5 : blk w5 w2.heap.size = some [.string x.name, .slice x.p x.dat.length x.c, .int .i64 x.safe] := by rw [e5.blk (blk_lt b3) id]; exact b3
      refine st_blk k5 (by simp) fun w6 b6 c6 z6 => ?_
      simp only [List.set_cons_succ, List.set_cons_zero] at b6
      refine ⟨_, by rw [cell_blk b6]; rfl, _, _, _, by rw [cell_blk b6]; rfl, _, by rw [cell_blk b6]; rfl, ?_⟩
      have hc56 : Ch (fun k => k = w2.heap.size) w4 w6 := (e5.mono fun _ _ h => h.elim).trans' c6
      have hb5 : ∀ k, b5 = some k → w4.heap.size ≤ k ∧ k < w5.heap.size := fun k hk => ⟨f5 k hk, o5.blt k hk⟩
      have hz2 := c2.size
      have R6 := R3.ch hc56 fun b hb e => by have := hRl b hb; omega
      have o6 : Ow w6 p5 x.dat.length c5 1 (bytesV x.dat) b5 := o5.ch c6 fun k hk e => by have := (hb5 k hk).1; omega
      have hput := rput_ok (x := { f := x.file, p := p5, c := c5, own := b5 }) (K := fun v3 w11 => v3 = .tuple #[] ∧ ∃ (O' : List OF) (q' : Option Addr) (cc' : Nat) (ob' : Option Nat) (F' : List File), O'.length ≤ i + 1 ∧ RK0 w11 r { newA room with fs := O'.map (·.f) } O' q' cc' ob' ∧ (O'.map (·.f)).Perm F' ∧ O'.Pairwise ltO ∧ addAll F' (L.drop (i + 1)) = addAll [] L ∧
        Ch (fun _ => False) w w11 ∧ (∀ b, rbl r ob' O' b → w.heap.size ≤ b) ∧ (total F' + ((L.drop (i + 1)).map fun x => x.dat.length).sum ≤ 2 ^ 60)) R6 (by omega) o6 (fun k hk h => by have := hRl k h; have := (hb5 k hk).1; omega) fun p' c' ob' w7 R7 c7 n7 => ?_
      · show callP _ _ [_, .agg #[.string x.name, .slice p5 x.dat.length c5, .int .i64 x.safe]] _ _
        rw [← hnat]; exact hput
      refine ⟨rfl, _, p', c', ob', x.file :: F, ?_, R7, ?_, insO_sort _ _ hso hne, ?_, ?_, fun b hb => ?_, ?_⟩
      · have := (insO_perm { f := x.file, p := p5, c := c5, own := b5 } O).length_eq
        rw [List.length_cons] at this
        omega
      · exact ((insO_perm _ O).map _).trans (hp.cons _)
      · rw [if_neg fun h => hgood ((badF_perm hp x).2 h)] at hstep
        exact hstep.symm
      · refine ((hc3.new e5).trans c6 fun k hk h => by omega).trans c7 fun k hk h => ?_
        have := hnew r (.inl rfl); omega
      · have hz3 := hc3.size
        have hz6 := hc56.size
        rcases rbl_eq.1 hb with h | h | h
        · exact hnew b (rbl_eq.2 (.inl h))
        · have := n7 b h; omega
        · rcases List.mem_append.1 (show b ∈ b5.toList ++ dbl O from (dbl_perm (insO_perm { f := x.file, p := p5, c := c5, own := b5 } O)).mem_iff.1 h) with h | h
          · have := (hb5 b (by simpa using h)).1; omega
          · exact hnew b (rbl_eq.2 (.inr (.inr h)))
      · rw [total_cons]
        show x.dat.length + _ + _ ≤ _
        omega
    · refine Sif_cases (fun g1 => ⟨_, by rw [cell_blk b3]; rfl, rfind_ok R3 (by omega) fun kk hkk => ⟨_, rfl, ?_⟩⟩) fun g1 => bad (.inr (.inl (by simpa using g1))) w3 hc3
      have hnok : nameOk x.name = true := by simpa using g1
      rcases hkk with ⟨j, y, rfl, hy, hyn⟩ | ⟨rfl, hno'⟩
      · refine Sif_cases (fun g4 => ?_) fun _ => bad (.inl ?_) w3 hc3
        · simp at g4
        · unfold hasN
          rw [List.any_eq_true]
          exact ⟨y.f, List.mem_map.2 ⟨y, List.mem_of_getElem? hy, rfl⟩, by simp [hyn]⟩
      have hhas : hasN (O.map (·.f)) x.name = false := by
        unfold hasN
        rw [List.any_eq_false]
        intro f hf
        obtain ⟨y, hy, rfl⟩ := List.mem_map.1 hf
        simpa using hno' y hy
      refine Sif_cases (fun _ => ⟨_, by rw [cell_blk b3]; rfl, Sif_cases (fun g6 => ⟨_, by rw [cell_blk b3]; rfl, _, _, _, by rw [cell_blk b3]; rfl, Sif_cases (fun g7 => bad (.inr (.inr (.inr ?_))) _ hc3) fun g7 => ⟨rfl, ?_⟩⟩) fun g6 => bad (.inr (.inr (.inl ?_))) _ hc3⟩) fun g4 => by simp at g4
      · have := of_decide_eq_true g7; omega
      · have h6 : ¬ x.safe < 0 := by simpa using g6
        have h7 := of_decide_eq_false g7
        rintro (h | h | h | h)
        · rw [hhas] at h; cases h
        · rw [hnok] at h; cases h
        · omega
        · omega
      · simpa using g6
  · have hge : i = L.length := by have := of_decide_eq_false g; omega
    subst hge
    rw [List.drop_length] at hadd hsum
    have hfs : addAll [] L = some F := hadd.symm
    refine rused_ok R2 (by omega) (by show total (O.map (·.f)) ≤ _; rw [htF]; simp at hsum; omega) ⟨_, rfl, ?_⟩
    have e0 : total ({ newA room with fs := O.map (·.f) } : AD).fs = total F := htF
    rw [e0]
    refine Sif_cases (fun q => hno 190 w2 ?_ c2) fun q => ?_
    · have h1 : ((total F : Nat) : Int) > room := of_decide_eq_true q
      unfold loadS; rw [if_neg hroom, hfs]; simp only; rw [if_pos (by omega)]
    · have h1 : ¬ ((total F : Nat) : Int) > room := of_decide_eq_false q
      have hl : loadS room L = (0, some { newA room with fs := F }) := by unfold loadS; rw [if_neg hroom, hfs]; simp only; rw [if_neg (by omega)]
      refine hyes _ r w2 _ hl (RK.fin R2 (by rw [List.pairwise_map]; exact hso) hp rfl) c2 hnew
end Go.Proofs.Ytncbmfinndcojaa
