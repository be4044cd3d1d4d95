/-
  The document's disk: put, take, fall, the next act, the errors ahead of an act.
-/
import Derived.Test.YtncbmfinndcojaaRefA
namespace Go.Proofs.Ytncbmfinndcojaa
open Go Go.Sv Go.MapKept
set_option linter.unusedVariables false
set_option maxRecDepth 4000

abbrev ltO (x y : OF) : Prop := x.f.name.data.toList < y.f.name.data.toList
instance (x y : OF) : Decidable (ltO x y) := inferInstanceAs (Decidable (_ < _))
def insO (x : OF) : List OF → List OF
  | [] => [x]
  | y :: l => if ltO x y then x :: y :: l else y :: insO x l
theorem insO_perm (x : OF) : ∀ l, (insO x l).Perm (x :: l)
  | [] => .refl _
  | y :: l => by
    unfold insO; split
    · exact .refl _
    · exact (insO_perm x l |>.cons y).trans (.swap x y l)
theorem ltO_trans {x y z : OF} (h : ltO x y) (k : ltO y z) : ltO x z := List.lt_trans h k
theorem insO_sort (x : OF) : ∀ l : List OF, l.Pairwise ltO → (∀ y ∈ l, y.f.name ≠ x.f.name) → (insO x l).Pairwise ltO
  | [], _, _ => by simp [insO]
  | y :: l, h, hn => by
    obtain ⟨h1, h2⟩ := List.pairwise_cons.1 h
    unfold insO; split
    · rename_i hlt
      refine List.pairwise_cons.2 ⟨fun z hz => ?_, h⟩
      rcases List.mem_cons.1 hz with rfl | hz
      · exact hlt
      · exact ltO_trans hlt (h1 z hz)
    · rename_i hlt
      refine List.pairwise_cons.2 ⟨fun z hz => ?_, insO_sort x l h2 fun w hw => hn w (List.mem_cons_of_mem _ hw)⟩
      rcases List.mem_cons.1 ((insO_perm x l).mem_iff.1 hz) with rfl | hz
      · rcases Std.lt_trichotomy z.f.name.data.toList y.f.name.data.toList with h3 | h3 | h3
        · exact absurd h3 hlt
        · exact absurd (data_ext h3).symm (hn y (List.mem_cons_self ..))
        · exact h3
      · exact h1 z hz
/-- the elements' own blocks -/
def dbl (O : List OF) : List Nat := O.flatMap fun o => o.own.toList
theorem rbl_eq {r : Nat} {ob : Option Nat} {O : List OF} {b : Nat} : rbl r ob O b ↔ b = r ∨ ob = some b ∨ b ∈ dbl O := by
  simp [rbl, FilesR.bl, dbl]
theorem dbl_perm {O O' : List OF} (h : O.Perm O') : (dbl O).Perm (dbl O') := h.flatMap_right _
theorem RK0.obn {w : World} {r : Nat} {a : AD} {O : List OF} {p : Option Addr} {c : Nat} {ob : Option Nat} (R : RK0 w r a O p c ob) : ∀ k, ob = some k → k ∉ dbl O ∧ k ≠ r := fun k hk => by
  have h1 := R.files.nodup
  have h2 := R.apart
  subst hk
  simp only [Option.toList_some, List.singleton_append] at h1
  refine ⟨(List.nodup_cons.1 h1).1, fun e => h2 ?_⟩
  simp [FilesR.bl, e]
theorem RK0.dn {w : World} {r : Nat} {a : AD} {O : List OF} {p : Option Addr} {c : Nat} {ob : Option Nat} (R : RK0 w r a O p c ob) : (dbl O).Nodup ∧ r ∉ dbl O :=
  ⟨(List.nodup_append.1 R.files.nodup).2.1, fun h => R.apart (List.mem_append.2 (.inr h))⟩
/-- a store into the disk's own block -/
theorem RK0.stH {w : World} {r : Nat} {a a' : AD} {O : List OF} {p : Option Addr} {c : Nat} {ob : Option Nat} (R : RK0 w r a O p c ob) {i : Nat} {v : Value} (hi : i < 6) {K : World → Prop} (hfs : a'.fs = a.fs)
    (hset : ∀ ac : Int, (0 ≤ a.acts → ac = a.acts) → ∃ ac' : Int, ([.slice p O.length c, .int .i64 a.room, .bool a.down, .bool (decide (0 ≤ a.acts)), .int .i64 ac, .int .i64 a.keep] : List Value).set i v = [.slice p O.length c, .int .i64 a'.room, .bool a'.down, .bool (decide (0 ≤ a'.acts)), .int .i64 ac', .int .i64 a'.keep] ∧ (0 ≤ a'.acts → ac' = a'.acts))
    (hk : ∀ w', RK0 w' r a' O p c ob → Ch (· = r) w w' → w'.heap.size = w.heap.size → K w') : Sv.st w ⟨r, i, none⟩ v K := by
  obtain ⟨⟨ac, h1, h2⟩, h3, h4, h5⟩ := R
  refine st_blk h1 (by simpa using hi) fun w' b' c' z' => hk w' ?_ c' z'
  obtain ⟨ac', h6, h7⟩ := hset ac h2
  exact ⟨⟨ac', by rw [b', h6], h7⟩, h3.ch c' fun b hb e => h4 (e ▸ hb), h4, by rw [h5, hfs]⟩
/-- the list is replaced by another one that was built beside it -/
theorem RK0.relist {w : World} {r : Nat} {a : AD} {O O' : List OF} {p p' : Option Addr} {c c' : Nat} {ob ob' : Option Nat} (R : RK0 w r a O p c ob) (ho : Ow w p' O'.length c' 3 (O'.flatMap OF.cells) ob') (hd : ∀ o ∈ O', Ow w o.p o.f.dat.length o.c 1 (bytesV o.f.dat) o.own)
    (hnd : (dbl O').Nodup) (hr : r ∉ dbl O') (hob : ∀ k, ob' = some k → k ∉ dbl O' ∧ k ≠ r) {K : World → Prop}
    (hk : ∀ w', RK0 w' r { a with fs := O'.map (·.f) } O' p' c' ob' → Ch (· = r) w w' → w'.heap.size = w.heap.size → K w') : Sv.st w ⟨r, 0, none⟩ (.slice p' O'.length c') K := by
  obtain ⟨⟨ac, h1, h2⟩, h3, h4, h5⟩ := R
  refine st_blk h1 (by simp) fun w' b' e' z' => hk w' ?_ e' z'
  have hF : FilesR w' p' c' ob' O' := ⟨ho.ch e' fun k hk e => (hob k hk).2 e, fun o ho => (hd o ho).ch e' fun k hk e => hr (List.mem_flatMap.2 ⟨o, ho, by simp [hk, e]⟩), by
    cases ob' with
    | none => simpa [dbl] using hnd
    | some k =>
      simp only [Option.toList_some, List.singleton_append]
      exact List.nodup_cons.2 ⟨(hob k rfl).1, hnd⟩⟩
  refine ⟨⟨ac, by rw [b']; rfl, h2⟩, hF, fun h => ?_, rfl⟩
  rcases List.mem_append.1 h with h | h
  · exact (hob r (by simpa using h)).2 rfl
  · exact hr h
theorem pushF {te : TypeId} {w : World} {p : Option Addr} {c : Nat} {O : List OF} {b : Option Nat} (ho : Ow w p O.length c 3 (O.flatMap OF.cells) b) (x : OF) (h1 : O.length < 2 ^ 41) {K : Option Addr → Nat → Nat → World → Prop}
    (hk : ∀ p' c' b' w', Ow w' p' (O ++ [x]).length c' 3 ((O ++ [x]).flatMap OF.cells) b' → (∀ k, b' = some k → b = some k ∨ w.heap.size ≤ k) → Ch (fun k => b = some k) w w' → K p' (O ++ [x]).length c' w') :
    newB w [.string x.f.name, .slice x.p x.f.dat.length x.c, .int .i64 x.f.safe] te fun a w2 => ∃ p5 n7 c5 w3, Sem.run Try.prog (Builtin.append_ #[29, 29] 29 #[.slice p O.length c, .slice (some a) 1 1]) w2 = .ok (.slice p5 n7 c5) w3 ∧ K p5 n7 c5 w3 :=
  push_ok Try.underlying29 apifile_info rfl OF.cells_len OF.cells_one ho x (by omega) (by omega) hk
set_option maxHeartbeats 1000000 in
theorem rput_ok {w : World} {r : Nat} {a : AD} {O : List OF} {p : Option Addr} {c : Nat} {ob : Option Nat} {x : OF} {K : Value → World → Prop} (R : RK0 w r a O p c ob) (hlen : O.length < 2 ^ 41)
    (hx : Ow w x.p x.f.dat.length x.c 1 (bytesV x.f.dat) x.own) (hxo : ∀ k, x.own = some k → ¬ rbl r ob O k)
    (hk : ∀ p' c' ob' w', RK0 w' r { a with fs := (insO x O).map (·.f) } (insO x O) p' c' ob' → Ch (fun k => k = r) w w' → (∀ k, ob' = some k → w.heap.size ≤ k) → K (.tuple #[]) w') :
    callP Try.prog 40 [.pointer (some ⟨r, 0, none⟩), .agg #[.string x.f.name, .slice x.p x.f.dat.length x.c, .int .i64 x.f.safe]] w K := by
  refine ok_longshoreref19_Disk_put ?_
  unfold wp_longshoreref19_Disk_put
  refine newB_blk fun w1 b1 c1 y1 => ?_
  have R1 := R.ch c1 fun _ _ => id
  have hRl := R.lt
  -- what is built: T, with the rest
  refine ⟨fun m q n e b k w' => ∃ (i : Nat) (T : List OF) (tb : Option Nat), k = i ∧ i ≤ O.length ∧ m = O.length - i ∧ n = T.length ∧ T.length ≤ i + 1 ∧ T ++ (if b = true then O.drop i else insO x (O.drop i)) = insO x O ∧
    Ow w' q T.length e 3 (T.flatMap OF.cells) tb ∧ (∀ k, tb = some k → w1.heap.size ≤ k) ∧ Ch (fun _ => False) w1 w', ⟨O.length, 0, [], none, rfl, by omega, by omega, rfl, by simp, by simp, Ow.nil, by simp, Ch.refl _ _⟩, ?_⟩
  rintro m q n e b k w2 ⟨i, T, tb, rfl, hi, rfl, rfl, hTl, hT, hTo, hTb, c2⟩
  have R2 := R1.ch c2 fun _ _ => id
  have b2 : blk w2 w.heap.size = some [.string x.f.name, .slice x.p x.f.dat.length x.c, .int .i64 x.f.safe] := by rw [c2.blk (blk_lt b1) id]; exact b1
  simp only [nn_some, add_at, Nat.zero_add]
  refine ⟨_, _, _, R2.slice, Sif_cases (fun g => ?_) fun g => ?_⟩
  · have hlt : i < O.length := by have := of_decide_eq_true g; omega
    have hy : O[i]? = some O[i] := List.getElem?_eq_getElem hlt
    have hdrop : O.drop i = O[i] :: O.drop (i + 1) := List.drop_eq_getElem_cons hlt
    generalize O[i] = y at hy hdrop
    -- what stands behind the round
    refine ⟨fun q' n' e' b' w' => ∃ (T' : List OF) (tb' : Option Nat), n' = T'.length ∧ T'.length ≤ i + 2 ∧ T' ++ (if b' = true then O.drop (i + 1) else insO x (O.drop (i + 1))) = insO x O ∧ Ow w' q' T'.length e' 3 (T'.flatMap OF.cells) tb' ∧ (∀ k, tb' = some k → w1.heap.size ≤ k) ∧ Ch (fun _ => False) w1 w', ?_, ?_⟩
    · rintro q' n' e' b' w3 ⟨T', tb', rfl, h1, h2, h3, h4, h5⟩
      rw [nameI_iff, wrap_id (by omega) (by omega)]
      exact ⟨O.length - (i + 1), by omega, i + 1, T', tb', by simp, by omega, rfl, rfl, h1, h2, h3, h4, h5⟩
    refine ⟨fun q' n' e' b' w' => ∃ (T' : List OF) (tb' : Option Nat), n' = T'.length ∧ T'.length ≤ i + 1 ∧ T' ++ y :: (if b' = true then O.drop (i + 1) else insO x (O.drop (i + 1))) = insO x O ∧ Ow w' q' T'.length e' 3 (T'.flatMap OF.cells) tb' ∧ (∀ k, tb' = some k → w1.heap.size ≤ k) ∧ Ch (fun _ => False) w1 w', ?_, ?_⟩
    · rintro q' n' e' b' w3 ⟨T', tb', rfl, h1, h2, h3, h4, h5⟩
      have R3 := R1.ch h5 fun _ _ => id
      refine ⟨_, _, _, R3.slice, by omega, by omega, ?_⟩
      obtain ⟨yb, yo, rfl, g0, g1, g2⟩ := R3.files.rd.at hy
      simp only [nn_some, add_at, Int.toNat_natCast, Nat.add_zero]
      refine ⟨_, g0, _, _, _, g1, _, g2, pushF h3 y (by omega) fun p' c' b'' w' o1 o2 o3 => ?_⟩
      refine ⟨T' ++ [y], b'', rfl, by simp; omega, by simpa using h2, o1, fun k hk => ?_, h5.trans o3 fun k hk h => ?_⟩
      · rcases o2 k hk with h | h
        · exact h4 k h
        · have := h5.size; omega
      · have := h4 k h; omega
    refine Sif_cases (fun gb => ?_) fun gb => ?_
    · have hb : b = false := by simpa using gb
      subst hb
      simp only [Bool.false_eq_true, if_false] at hT ⊢
      rw [hdrop] at hT
      have R2d := R2.ch (Ch.drew (S := fun _ => False) w2) fun _ _ => id
      refine ⟨_, _, _, R2d.slice, by omega, by omega, ?_⟩
      obtain ⟨yb, yo, rfl, g0, g1, g2⟩ := R2d.files.rd.at hy
      simp only [nn_some, add_at, Int.toNat_natCast, Nat.add_zero]
      have b2d : blk w2.drew w.heap.size = some [.string x.f.name, .slice x.p x.f.dat.length x.c, .int .i64 x.f.safe] := b2
      refine ⟨_, g0, _, by rw [cell_blk b2d]; rfl, ?_⟩
      rw [grtB]
      have hTd := hTo.ch (Ch.drew (S := fun _ => False) w2) fun _ _ => id
      have c2d := c2.new (Ch.drew w2)
      refine Sif_cases (fun gl => ⟨_, by rw [cell_blk b2d]; rfl, _, _, _, by rw [cell_blk b2d]; rfl, _, by rw [cell_blk b2d]; rfl, ?_⟩) fun gl => ?_
      · have hlt2 : ltO x y := of_decide_eq_true gl
        refine pushF hTd x (by omega) fun p' c' b'' w' o1 o2 o3 => ?_
        refine ⟨T ++ [x], b'', rfl, ?_, ?_, o1, fun k hk => ?_, c2d.trans o3 fun k hk h => ?_⟩
        · have hl := congrArg List.length hT
          have h1 := (insO_perm x O).length_eq
          have h2 := (insO_perm x (y :: O.drop (i + 1))).length_eq
          simp at hl h1 h2 ⊢
          omega
        · simp only [if_true]
          conv at hT => lhs; unfold insO
          rw [if_pos hlt2] at hT
          simpa using hT
        · rcases o2 k hk with h | h
          · exact hTb k h
          · have h1 := c2d.size; omega
        · have := hTb k h; omega
      · have hlt2 : ¬ ltO x y := of_decide_eq_false gl
        refine ⟨T, tb, rfl, hTl, ?_, hTd, hTb, c2d⟩
        conv at hT => lhs; unfold insO
        rw [if_neg hlt2] at hT
        exact hT
    · have hb : b = true := by simpa using gb
      subst hb
      rw [if_pos rfl, hdrop] at hT
      exact ⟨T, tb, rfl, hTl, by rw [if_pos rfl]; exact hT, hTo.ch (Ch.drew (S := fun _ => False) w2) fun _ _ => id, hTb, c2.new (Ch.drew w2)⟩
  · have hge : i = O.length := by have := of_decide_eq_false g; omega
    have fin : ∀ (q' : Option Addr) (e' : Nat) (tb' : Option Nat) (w3 : World), Ow w3 q' (insO x O).length e' 3 ((insO x O).flatMap OF.cells) tb' → (∀ k, tb' = some k → w1.heap.size ≤ k) → Ch (fun _ => False) w1 w3 →
        Sv.st w3 ⟨r, 0, none⟩ (.slice q' (insO x O).length e') fun w4 => K (.tuple #[]) w4 := by
      intro q' e' tb' w3 h1 h2 h3
      have R3 := R1.ch h3 fun _ _ => id
      have hc3 : Ch (fun _ => False) w w3 := c1.new h3
      have hdp := dbl_perm (insO_perm x O)
      have hxd : ∀ k, x.own = some k → k ∉ dbl O ∧ k ≠ r := fun k hk => ⟨fun h => hxo k hk (rbl_eq.2 (.inr (.inr h))), fun h => hxo k hk (rbl_eq.2 (.inl h))⟩
      have hd2 : (dbl (x :: O)).Nodup ∧ r ∉ dbl (x :: O) := by
        have h4 := R.dn
        refine ⟨?_, ?_⟩
        · show ((x.own.toList) ++ dbl O).Nodup
          cases hxw : x.own with
          | none => simpa using h4.1
          | some k => simp only [Option.toList_some, List.singleton_append]; exact List.nodup_cons.2 ⟨(hxd k hxw).1, h4.1⟩
        · intro h
          rcases List.mem_append.1 (show r ∈ x.own.toList ++ dbl O from h) with h | h
          · exact (hxd r (by simpa using h)).2 rfl
          · exact h4.2 h
      refine R3.relist h1 (fun o ho => ?_) (hdp.nodup_iff.2 hd2.1) (fun h => hd2.2 (hdp.mem_iff.1 h)) (fun k hk => ⟨fun h => ?_, fun h => ?_⟩) fun w4 R4 c4 z4 => hk q' e' tb' w4 R4 ((hc3.mono fun _ _ h => h.elim).trans' c4) fun k hk => by have := h2 k hk; have := c1.size; omega
      · rcases List.mem_cons.1 ((insO_perm x O).mem_iff.1 ho) with rfl | ho
        · exact hx.ch hc3 fun _ _ => id
        · exact R3.files.dat o ho
      · have h5 := h2 k hk
        rcases List.mem_append.1 (show k ∈ x.own.toList ++ dbl O from hdp.mem_iff.1 h) with h | h
        · have := hx.blt k (by simpa using h); have := c1.size; omega
        · have := hRl k (rbl_eq.2 (.inr (.inr h))); have := c1.size; omega
      · have h5 := h2 k hk
        have := hRl r (.inl rfl); have := c1.size; omega
    refine ⟨fun q' n' e' w' => ∃ tb' : Option Nat, n' = (insO x O).length ∧ Ow w' q' (insO x O).length e' 3 ((insO x O).flatMap OF.cells) tb' ∧ (∀ k, tb' = some k → w1.heap.size ≤ k) ∧ Ch (fun _ => False) w1 w', ?_, ?_⟩
    · rintro q' n' e' w3 ⟨tb', rfl, h1, h2, h3⟩
      exact fin q' e' tb' w3 h1 h2 h3
    refine Sif_cases (fun gb => ?_) fun gb => ?_
    · have hb : b = false := by simpa using gb
      subst hb
      simp only [Bool.false_eq_true, if_false] at hT
      rw [hge, List.drop_length] at hT
      refine ⟨_, by rw [cell_blk b2]; rfl, _, _, _, by rw [cell_blk b2]; rfl, _, by rw [cell_blk b2]; rfl, pushF hTo x (by have h1 := congrArg List.length hT; have h2 := (insO_perm x O).length_eq; simp [insO] at h1 h2; omega) fun p' c' b'' w' o1 o2 o3 => ?_⟩
      have hT' : T ++ [x] = insO x O := hT
      rw [hT'] at o1 ⊢
      refine ⟨b'', rfl, o1, fun k hk => ?_, c2.trans o3 fun k hk h => ?_⟩
      · rcases o2 k hk with h | h
        · exact hTb k h
        · have h1 := c2.size; omega
      · have := hTb k h; omega
    · have hb : b = true := by simpa using gb
      subst hb
      rw [if_pos rfl, hge, List.drop_length, List.append_nil] at hT
      subst hT
      exact ⟨tb, rfl, hTo, hTb, c2⟩
end Go.Proofs.Ytncbmfinndcojaa
