/-
  The program's Parse. The program's values: walk, Check.
-/
import Derived.Test.YtnacobknngidkaaGreatDoorPz17
set_option linter.unusedVariables false
set_option linter.unusedSimpArgs false
namespace Go.Proofs.YtnacobknngidkaaGreatDoor
open Go Go.Sv Go.Note
set_option linter.unusedVariables false
attribute [local irreducible] Sif
set_option maxRecDepth 4000
def parseR (s : Bs) : M × Nat × Nat := match parseB s with
  | .ok m _ => (m, 0, 0)
  | .bad a e => (.mk 0 0 [] 0 [], a, e)
theorem st1 {w : World} {k : Nat} {z v : Value} {K : World → Prop} (h : blk w k = some [z]) (hk : ∀ w', blk w' k = some [v] → Ch (· = k) w w' → K w') : Sv.st w ⟨k, 0, none⟩ v K :=
  st_blk h (by simp) fun w' b c _ => hk w' b c
theorem quiet_ok {a b c : Option Addr} {w : World} {K : World → Prop} (hk : K w) : callD Tryz.prog 40 [.pointer a, .pointer b, .pointer c] w K := by
  refine CallsD.mono (ok_note_Parse_1_n (u := .returning) (K := K) rfl (by unfold wp_note_Parse_1_n; exact ⟨rfl, hk⟩)) ?_
  rintro e u w' ⟨h1, h2, h3⟩
  exact ⟨h1, h2, h3⟩
theorem recover_ok {ab a1b a2b at0 e0 : Nat} {zs : List Value} {z1 z2 : Value} (hne : ab ≠ a1b ∧ ab ≠ a2b ∧ a1b ≠ a2b) {w : World} (h0 : blk w ab = some zs) (hl : zs.length = 5) (h1 : blk w a1b = some [z1]) (h2 : blk w a2b = some [z2]) {K : FrameMode → World → Prop}
    (hk : ∀ w', blk w' ab = some (one 0 0 []).g → blk w' a1b = some [.int .i64 (at0 : Int)] → blk w' a2b = some [.int .i64 (e0 : Int)] → Ch (fun j => j = ab ∨ j = a1b ∨ j = a2b) w w' → K (recMode (.panicking (flt at0 e0))).2 w') :
    callDM Tryz.prog 40 [.pointer (some ⟨ab, 0, none⟩), .pointer (some ⟨a1b, 0, none⟩), .pointer (some ⟨a2b, 0, none⟩)] (.panicking (flt at0 e0)) w K := by
  refine CallsD.mono (ok_note_Parse_1_x (u := .panicking (flt at0 e0)) (at0 := at0) (e0 := e0) (K := fun w' => K (recMode (.panicking (flt at0 e0))).2 w') rfl ?_) ?_
  rotate_left
  · rintro e u w' ⟨g1, g2, g3⟩
    refine ⟨g1, ?_⟩
    rw [g2]; exact g3
  unfold wp_note_Parse_1_x
  refine ⟨rfl, (at0 : Int), (e0 : Int), true, by kernel_rfl, ?_⟩
  refine newB_blk fun w1 b1 c1 z1' => ?_
  have l0 := blk_lt h0
  have l1 := blk_lt h1
  have l2 := blk_lt h2
  simp only [add_at, Nat.zero_add]
  refine st_blk b1 (by simp) fun w2 b2 c2 z2' => st_blk b2 (by simp) fun w3 b3 c3 z3' => ?_
  have b3 : blk w3 w.heap.size = some [.int .i64 (at0 : Int), .int .i64 (e0 : Int)] := b3
  have c13 : Ch (fun _ => False) w w3 := (c1.trans c2 fun x hx h => by omega).trans c3 fun x hx h => by omega
  have k0 := (c13.blk l0 id).trans h0
  have k1 := (c13.blk l1 id).trans h1
  have k2 := (c13.blk l2 id).trans h2
  refine ⟨fun w4 => w4 = w3, ?_, Sif_false rfl⟩
  rintro w4 rfl
  have b3d : blk w4.drew w.heap.size = some [.int .i64 (at0 : Int), .int .i64 (e0 : Int)] := b3
  have k0d : blk w4.drew ab = some zs := k0
  have k1d : blk w4.drew a1b = some [z1] := k1
  have k2d : blk w4.drew a2b = some [z2] := k2
  refine ⟨_, cellK b3d 0 rfl, _, cellK b3d 1 rfl, ?_⟩
  simp only [nn, add_at, Nat.zero_add]
  refine st5 (x := one 0 0 []) k0d hl fun w9 b9 c9 z9 => ?_
  have b39 := (c9.blk (blk_lt b3d) (by omega)).trans b3d
  have k19 := (c9.blk (blk_lt k1d) (by omega)).trans k1d
  have k29 := (c9.blk (blk_lt k2d) (by omega)).trans k2d
  refine ⟨⟨_, cellK b39 1 rfl, rfl⟩, ⟨_, cellK b39 0 rfl, rfl⟩, ?_⟩
  refine st1 k19 fun w10 b10 c10 => ?_
  have b310 := (c10.blk (blk_lt b39) (by omega)).trans b39
  have k210 := (c10.blk (blk_lt k29) (by omega)).trans k29
  have k010 := (c10.blk (blk_lt b9) (by omega)).trans b9
  refine ⟨⟨_, cellK b310 1 rfl, rfl⟩, ?_⟩
  refine st1 k210 fun w11 b11 c11 => ?_
  refine hk w11 ((c11.blk (blk_lt k010) (by omega)).trans k010) ((c11.blk (blk_lt b10) (by omega)).trans b10) b11 ?_
  exact ((((c13.mono (S' := fun j => j = ab ∨ j = a1b ∨ j = a2b) fun _ _ h => h.elim).trans' (Ch.drew _)).trans c9 fun _ _ h => .inl h).trans c10 fun _ _ h => .inr (.inl h)).trans c11 fun _ _ h => .inr (.inr h)
theorem Parse_ok {S : ByteArray} (hs : S.size ≤ 2 ^ 40) {w : World} (hL : LW w) {K : Value → World → Prop}
    (hk : ∀ x w', x.m = (parseR S.data.toList).1 → VO w' x → (∀ k ∈ x.B, w.heap.size ≤ k) → Ch (fun _ => False) w w' → K (.tuple #[x.v, .int .i64 ((parseR S.data.toList).2.1 : Int), .int .i64 ((parseR S.data.toList).2.2 : Int)]) w') :
    callP Tryz.prog 19 [.string S] w K := by
  apply ok_note_Parse
  unfold wp_note_Parse
  have hlen := sl S
  refine newB_blk fun w1 b1 c1 z1 => newB_blk fun w2 b2 c2 z2 => newB_blk fun w3 b3 c3 z3 => ?_
  have c03 : Ch (fun _ => False) w w3 := (c1.trans' c2).trans' c3
  have b13 := (c3.blk (by have := blk_lt b1; omega) id).trans ((c2.blk (blk_lt b1) id).trans b1)
  have b23 := (c3.blk (blk_lt b2) id).trans b2
  have hw8 := hL.size
  obtain ⟨ab, hab⟩ : ∃ ab, ab = w.heap.size := ⟨_, rfl⟩
  obtain ⟨a1b, ha1b⟩ : ∃ ab, ab = w1.heap.size := ⟨_, rfl⟩
  obtain ⟨a2b, ha2b⟩ : ∃ ab, ab = w2.heap.size := ⟨_, rfl⟩
  rw [← hab] at b13 z1 ⊢
  rw [← ha1b] at b23 z2 ⊢
  rw [← ha2b] at b3 z3 ⊢
  have hne : ab ≠ a1b ∧ ab ≠ a2b ∧ a1b ≠ a2b := by omega
  simp only [add_at, Nat.zero_add]
  -- results that are read
  have done : ∀ w' (x : MV) (a e : Nat), blk w' ab = some x.g → blk w' a1b = some [.int .i64 (a : Int)] → blk w' a2b = some [.int .i64 (e : Int)] → x.m = (parseR S.data.toList).1 → (a, e) = (parseR S.data.toList).2 → VO w' x → (∀ k ∈ x.B, w.heap.size ≤ k) → Ch (fun _ => False) w w' →
      ∃ n, w'.cell? ⟨ab, 0, none⟩ = some (.int .i64 n) ∧ ∃ n1, w'.cell? ⟨ab, 1, none⟩ = some (.int .u64 n1) ∧ ∃ s, w'.cell? ⟨ab, 2, none⟩ = some (.string s) ∧ ∃ p n2 c, w'.cell? ⟨ab, 3, none⟩ = some (.slice p n2 c) ∧ ∃ n3, w'.cell? ⟨ab, 4, none⟩ = some (.int .i64 n3) ∧ ∃ n4, w'.cell? ⟨a1b, 0, none⟩ = some (.int .i64 n4) ∧ ∃ n5, w'.cell? ⟨a2b, 0, none⟩ = some (.int .i64 n5) ∧ K (.tuple (Array.mk [.agg (Array.mk [.int .i64 n, .int .u64 n1, .string s, .slice p n2 c, .int .i64 n3]), .int .i64 n4, .int .i64 n5])) w' := by
    intro w' x a e h0 h1 h2 hx hae hvo hxb hc
    refine ldN h0 ⟨_, cellK h1 0 rfl, _, cellK h2 0 rfl, ?_⟩
    have := hk x w' hx hvo hxb hc
    rw [vv x]
    rw [← hae] at this
    exact this
  refine Sif_cases (fun h => ?_) (fun h => ?_)
  · have h := of_decide_eq_true h
    have hpr : parseR S.data.toList = (.mk 0 0 [] 0 [], 0, 2) := by
      unfold parseR parseB
      rw [if_pos (by omega)]
    refine st5 (x := one 0 0 []) b13 rfl fun w8 b8 c8 z8 => ?_
    have b28 := (c8.blk (blk_lt b23) (by omega)).trans b23
    have b38 := (c8.blk (blk_lt b3) (by omega)).trans b3
    refine st1 b28 fun w9 b9 c9 => ?_
    have b39 := (c9.blk (blk_lt b38) (by omega)).trans b38
    have b19 := (c9.blk (blk_lt b8) (by omega)).trans b8
    refine st1 b39 fun w10 b10 c10 => ?_
    have b110 := (c10.blk (blk_lt b19) (by omega)).trans b19
    have b210 := (c10.blk (blk_lt b9) (by omega)).trans b9
    refine done w10 (one 0 0 []) 0 2 b110 b210 b10 (by rw [hpr, one_m]) (by rw [hpr]) (one_ok ..) (by rw [one_B]; simp) ?_
    exact ((c03.trans c8 fun x hx h => by omega).trans c9 fun x hx h => by omega).trans c10 fun x hx h => by omega
  · have h := of_decide_eq_false h
    refine newB_blk fun w4 b4 c4 z4 => ?_
    have c04 := c03.trans' c4
    have b14 := (c4.blk (blk_lt b13) id).trans b13
    have b24 := (c4.blk (blk_lt b23) id).trans b23
    have b34 := (c4.blk (blk_lt b3) id).trans b3
    have hL4 := hL.ch0 c04
    obtain ⟨rb, hrb⟩ : ∃ rb, rb = w3.heap.size := ⟨_, rfl⟩
    rw [← hrb] at b4 ⊢
    have h8 : 8 ≤ rb := by have := c03.size; omega
    refine callX_of (step_ok (t := ⟨0, 0, 0, []⟩) (f := 0) hs b4 (by omega) hL4.ut (by omega) fun w5 b5 c5 => ⟨_, _, _, rfl, ?_⟩)
    have r5 : RS S rb 0 w5 := ⟨b5, by omega⟩
    have hL5 := hL4.chr h8 c5
    have b15 := (c5.blk (blk_lt b14) (by omega)).trans b14
    have b25 := (c5.blk (blk_lt b24) (by omega)).trans b24
    have b35 := (c5.blk (blk_lt b34) (by omega)).trans b34
    have c05 : Ch (fun _ => False) w w5 := c04.trans c5 fun x hx h => by omega
    have hpb : parseB S.data.toList = match rdM S.data.toList 32 0 with
      | .bad a e => .bad a e
      | .ok m a => if (next S.data.toList a).kind ≠ 0 then amiss (next S.data.toList a) 44 else .ok m 0 := by
      unfold parseB
      rw [if_neg (by omega)]
      rfl
    -- a fault
    have fault : ∀ w6 a e, parseB S.data.toList = .bad a e → Ch (fun j => j = rb ∨ j = ab) w5 w6 → (∃ zs, blk w6 ab = some zs ∧ zs.length = 5) → callDM Tryz.prog 40 [.pointer (some ⟨ab, 0, none⟩), .pointer (some ⟨a1b, 0, none⟩), .pointer (some ⟨a2b, 0, none⟩)] (.panicking (flt a e)) w6 fun u' w7 => settle u' = .returning ∧
      ∃ n, w7.cell? ⟨ab, 0, none⟩ = some (.int .i64 n) ∧ ∃ n1, w7.cell? ⟨ab, 1, none⟩ = some (.int .u64 n1) ∧ ∃ s, w7.cell? ⟨ab, 2, none⟩ = some (.string s) ∧ ∃ p n2 c, w7.cell? ⟨ab, 3, none⟩ = some (.slice p n2 c) ∧ ∃ n3, w7.cell? ⟨ab, 4, none⟩ = some (.int .i64 n3) ∧ ∃ n4, w7.cell? ⟨a1b, 0, none⟩ = some (.int .i64 n4) ∧ ∃ n5, w7.cell? ⟨a2b, 0, none⟩ = some (.int .i64 n5) ∧ K (.tuple (Array.mk [.agg (Array.mk [.int .i64 n, .int .u64 n1, .string s, .slice p n2 c, .int .i64 n3]), .int .i64 n4, .int .i64 n5])) w7 := by
      intro w6 a e hpar c6 ⟨zs, h0, hl⟩
      have hpr : parseR S.data.toList = (.mk 0 0 [] 0 [], a, e) := by unfold parseR; rw [hpar]
      have b26 := (c6.blk (blk_lt b25) (by omega)).trans b25
      have b36 := (c6.blk (blk_lt b35) (by omega)).trans b35
      refine recover_ok hne h0 hl b26 b36 fun w7 g0 g1 g2 c7 => ⟨rfl, ?_⟩
      refine done w7 (one 0 0 []) a e g0 g1 g2 (by rw [hpr, one_m]) (by rw [hpr]) (one_ok ..) (by rw [one_B]; simp) ?_
      exact (c05.trans c6 fun x hx h => by omega).trans c7 fun x hx h => by omega
    refine value_ok hs h8 32 (Nat.le_refl _) 0 w5 _ _ r5 hL5 (fun x b w6 hrd hvo hxb r6 c6 => ?_) (fun a e w6 hrd c6 => ?_)
    · rw [hrd] at hpb
      simp only at hpb
      have b16 := (c6.blk (blk_lt b15) (by omega)).trans b15
      have hs5 := c05.size
      have hs6 := c6.size
      have b16l := blk_lt b15
      refine is5 (st5 b16 rfl fun w11 b11 c11 z11 => ?_)
      have r11 : RS S rb b w11 := r6.ch c11 (by omega)
      have hvo11 : VO w11 x := VO.ch c11 x hvo fun j hj e => by have := hxb j hj; omega
      have c511 : Ch (fun j => j = rb ∨ j = ab) w5 w11 := (c6.mono fun _ _ h => .inl h).trans c11 fun _ _ h => .inr h
      refine ⟨fun w12 => w12 = w11 ∧ (next S.data.toList b).kind = 0, ?_, ?_⟩
      · rintro w12 ⟨rfl, hk0⟩
        have hpr : parseR S.data.toList = (x.m, 0, 0) := by
          unfold parseR
          rw [hpb, if_neg (by omega)]
        refine ldN b11 (st5 b11 (MV.glen x) fun w17 b17 c17 z17 => ?_)
        have b217 := (c17.blk (by have := c511.size; have := blk_lt b25; omega) (by omega)).trans ((c511.blk (blk_lt b25) (by omega)).trans b25)
        have b317 := (c17.blk (by have := c511.size; have := blk_lt b35; omega) (by omega)).trans ((c511.blk (blk_lt b35) (by omega)).trans b35)
        refine st1 b217 fun w18 b18 c18 => ?_
        have b318 := (c18.blk (blk_lt b317) (by omega)).trans b317
        have b118 := (c18.blk (blk_lt b17) (by omega)).trans b17
        refine st1 b318 fun w19 b19 c19 => ?_
        have b119 := (c19.blk (blk_lt b118) (by omega)).trans b118
        have b219 := (c19.blk (blk_lt b18) (by omega)).trans b18
        have hl5 := blk_lt b25
        have hl5' := blk_lt b35
        refine quiet_ok (done w19 x 0 0 b119 b219 b19 (by rw [hpr]) (by rw [hpr]) ?_ (fun j hj => by have := hxb j hj; omega) ?_)
        · exact VO.ch c19 x (VO.ch c18 x (VO.ch c17 x hvo11 fun j hj e => by have := hxb j hj; omega) fun j hj e => by have := hxb j hj; omega) fun j hj e => by have := hxb j hj; omega
        · exact (((c05.trans c511 fun x hx h => by omega).trans c17 fun x hx h => by omega).trans c18 fun x hx h => by omega).trans c19 fun x hx h => by omega
      · have h11 := r11.1
        unfold rcl at h11
        refine ⟨_, cellK h11 2 rfl, ?_⟩
        have hk0 : (((pk (next S.data.toList b) : Nat) : Int) != 0) = decide ((next S.data.toList b).kind ≠ 0) := by
          rw [int_bne]
          unfold pk
          by_cases h5 : (next S.data.toList b).kind = 5
          · rw [if_pos h5, h5]; rfl
          · rw [if_neg h5]
            by_cases h0 : (next S.data.toList b).kind = 0
            · rw [h0]; rfl
            · rw [decide_eq_false (by omega), decide_eq_true h0]; rfl
        rw [hk0]
        refine Sif_cases (fun h => ?_) (fun h => ⟨by trivial, by simpa using h⟩)
        rw [if_pos (of_decide_eq_true h)] at hpb
        exact refuse_ok (e := 44) r11 (fault w11 _ _ hpb c511 ⟨_, b11, MV.glen x⟩)
    · rw [hrd] at hpb
      exact fault w6 a e hpb (c6.mono fun _ _ h => .inl h) ⟨_, (c6.blk (blk_lt b15) (by omega)).trans b15, rfl⟩
end Go.Proofs.YtnacobknngidkaaGreatDoor
namespace Go.Proofs.YtnacobknngidkaaGreatDoor
open Go Go.Sv Go.Note
set_option linter.unusedVariables false
attribute [local irreducible] Sif
set_option maxRecDepth 4000
theorem le_sum_of {x : Nat} {l : List Nat} (h : x ∈ l) : x ≤ l.sum := by
  induction l with
  | nil => cases h
  | cons y l ih =>
    rw [List.sum_cons]
    rcases List.mem_cons.1 h with h | h
    · omega
    · have := ih h; omega
theorem yieldP_mono {P : Program} {l : Nat} {args : List Value} {w : World} {K K' : Value → World → Prop} (h : yieldP P l args w K) (hk : ∀ v w', K v w' → K' v w') : yieldP P l args w K' := by
  obtain ⟨fn, tmps, assign, body, h1, h2⟩ := h
  exact ⟨fn, tmps, assign, body, h1, RoundIn.mono h2 fun e w' ⟨v, he, hv⟩ => ⟨v, he, hk _ _ hv⟩⟩
theorem over_start (w : World) (rc : LoopR) : Ch (fun _ => False) w ((w.alloc (.deferred (some []))).alloc (rc .ready none)) ∧ objAt ((w.alloc (.deferred (some []))).alloc (rc .ready none)) w.heap.size = some (.deferred (some [])) ∧
    recAt ((w.alloc (.deferred (some []))).alloc (rc .ready none)) (w.heap.size + 1) rc .ready none ∧ ((w.alloc (.deferred (some []))).alloc (rc .ready none)).heap.size = w.heap.size + 2 := by
  refine ⟨(alloc_ch w _).trans' (alloc_ch _ _), ?_, ?_, by simp⟩
  · exact objAt_ch (alloc_obj w _) (alloc_ch _ _) id
  · have := alloc_obj (w.alloc (.deferred (some []))) (rc .ready none)
    simpa [recAt] using this
theorem walk_ok {Q S : Nat → Prop} {l : Nat} {Inv : World → Prop} {Stop : Nat → World → Prop} (hst : ∀ w w', Inv w → Ch (fun _ => False) w w' → Inv w') (hS : ∀ w, Inv w → ∀ j, S j → j < w.heap.size) (hQ : ∀ b, Q b → ¬ S b)
    (hy : ∀ (x : MV) (d : Nat) (w : World), Inv w → VR Q w x → x.n < 18446744073709551616 → x.t.length ≤ 2 ^ 48 → yieldP Tryz.prog l [.int .i64 (d : Int), x.v] w fun v w' => Ch S w w' ∧ ((x.m.own d = 0 ∧ v = .bool true ∧ Inv w') ∨ (x.m.own d ≠ 0 ∧ v = .bool false ∧ Stop (x.m.own d) w'))) :
    ∀ (x : MV) (d : Nat) (w : World) (K : Value → World → Prop), d ≤ 33 → Inv w → VR Q w x → x.m.fits → x.m.sz ≤ 2 ^ 48 →
      (∀ w', x.m.check d = 0 → Inv w' → Ch S w w' → K (.bool true) w') → (∀ w', x.m.check d ≠ 0 → Stop (x.m.check d) w' → Ch S w w' → K (.bool false) w') →
      callP Tryz.prog 99 [x.v, .int .i64 (d : Int), .func (.yield l) #[] #[]] w K := by
  refine MV.ind fun k n t s e ls ih => ?_
  intro d w K hd hI hx hf hsz hk1 hk2
  apply ok_value_walk
  unfold wp_value_walk
  refine boxV (x := .mk k n t s e ls) fun w1 b1 a1 c1 z1 => ?_
  have hI1 := hst _ _ hI c1
  have hx1 := hx.ch0 c1
  simp only [add_at, Nat.zero_add]
  refine ldN b1 ?_
  rw [vv]
  rw [MV.m_mk] at hf hsz
  have htl : t.length ≤ 2 ^ 48 := by rw [M.sz_mk] at hsz; omega
  have hcl : (MV.mk k n t s e ls).m.check d = if (MV.mk k n t s e ls).m.own d ≠ 0 then (MV.mk k n t s e ls).m.own d else M.checkL (d + 1) (ls.map MV.m) := by
    rw [MV.m_mk, M.check]
  have hn64 : n < 18446744073709551616 := by cases hf with | mk h _ => exact h
  have hfl : ∀ x ∈ ls, x.m.fits := fun x hx => by
    cases hf with | mk _ h => exact h x.m (List.mem_map.2 ⟨x, hx, rfl⟩)
  have hszl : ∀ x ∈ ls, x.m.sz ≤ 2 ^ 48 := fun x hx => by
    rw [M.sz_mk] at hsz
    have := le_sum_of (List.mem_map.2 ⟨x.m, List.mem_map.2 ⟨x, hx, rfl⟩, rfl⟩ : x.m.sz ∈ (ls.map MV.m).map M.sz)
    omega
  have cS : ∀ {a b : World}, Ch (fun _ => False) a b → Ch S a b := fun c => c.mono fun _ _ h => h.elim
  show yieldP _ _ _ _ _
  refine yieldP_mono (hy (.mk k n t s e ls) d w1 hI1 hx1 hn64 htl) ?_
  rintro v w2 ⟨c2, hv⟩
  have c12 : Ch S w w2 := (cS c1).trans' c2
  have hns : ¬ S w.heap.size := fun h => by have := hS w hI _ h; omega
  rcases hv with ⟨h0, rfl, hI2⟩ | ⟨h0, rfl, hst2⟩
  · refine ⟨_, rfl, Sif_false ?_⟩
    have b2 := (c2.blk (blk_lt b1) hns).trans b1
    refine ⟨_, _, _, cellK b2 3 rfl, ?_⟩
    have hd32 : d ≤ 32 := by
      have := own_ok h0
      exact this.2.2.1
    rw [hcl, if_neg (by simp [h0])] at hk1 hk2
    have hrow : ∀ w3, Ch S w w3 → VRow Q w3 s.p s.n ls := fun w3 c => (hx.row.ch c hQ)
    have hl : ls.length = s.n := (hrow w (Ch.refl _ _)).1
    have hn46 : s.n ≤ 2 ^ 46 := (hrow w (Ch.refl _ _)).2.1
    refine ⟨fun m i w3 => ∃ j : Nat, i = (j : Int) ∧ m = s.n - j ∧ j ≤ s.n ∧ Inv w3 ∧ Ch S w w3 ∧ blk w3 w.heap.size = some (MV.mk k n t s e ls).g ∧ M.checkL (d + 1) (ls.map MV.m) = M.checkL (d + 1) ((ls.drop j).map MV.m), ⟨s.n, 0, rfl, rfl, Nat.zero_le _, hI2, c12, b2, rfl⟩, ?_⟩
    rintro m i w3 ⟨j, rfl, rfl, hj, hI3, c3, b3, heq⟩
    refine Sif_cases (fun h => ?_) (fun h => ?_)
    · have hjl : j < s.n := by have := of_decide_eq_true h; omega
      obtain ⟨y, hyi⟩ : ∃ y, ls[j]? = some y := ⟨ls[j]'(by omega), List.getElem?_eq_getElem _⟩
      have hdr : ls.drop j = y :: ls.drop (j + 1) := by
        rw [List.drop_eq_getElem_cons (by omega)]
        congr 1
        rw [List.getElem?_eq_getElem (by omega)] at hyi
        exact Option.some.inj hyi
      rw [hdr, List.map_cons, M.checkL] at heq
      obtain ⟨by', oy, py, _, ay⟩ := (hrow w3 c3).at hyi
      refine ⟨by omega, by omega, ?_⟩
      rw [py]
      simp only [nn]
      refine ldR ay ?_
      refine nbx rfl fun w4 b4 c4 z4 => ?_
      refine ldK b4 ?_
      rw [vv y, wrap_id (n := (d : Int) + 1) (by omega) (by omega)]
      have c34 : Ch S w w4 := c3.trans' (cS c4)
      have hym := List.mem_of_getElem? hyi
      have b34 := (c4.blk (blk_lt b3) id).trans b3
      refine ih y hym (d + 1) w4 _ (by omega) (hst _ _ hI3 c4) ((hrow w4 c34).2.2.2.2 y hym) (hfl y hym) (hszl y hym) (fun w5 hc0 hI5 c5 => ⟨_, rfl, Sif_false ?_⟩) (fun w5 hc0 hs5 c5 => ⟨_, rfl, Sif_true ?_⟩)
      · rw [wrap_id (n := (j : Int) + 1) (by omega) (by omega)]
        refine ⟨s.n - (j + 1), by omega, j + 1, by omega, rfl, by omega, hI5, c34.trans' c5, (c5.blk (blk_lt b34) hns).trans b34, ?_⟩
        rw [heq, if_neg (by simp [hc0])]
      · rw [if_pos hc0] at heq
        exact hk2 w5 (by rw [heq]; exact hc0) (by rw [heq]; exact hs5) (c34.trans' c5)
    · have hjl : j = s.n := by have := of_decide_eq_false h; omega
      rw [List.drop_of_length_le (by omega)] at heq
      exact hk1 w3 (by rw [heq]; rfl) hI3 c3
  · refine ⟨_, rfl, Sif_true ?_⟩
    rw [hcl, if_pos h0] at hk2
    exact hk2 w2 h0 hst2 c12
theorem vCheck_ok {Q : Nat → Prop} {x : MV} (hf : x.m.fits) (hsz : x.m.sz ≤ 2 ^ 48) {w : World} (hL : LW w) (hx : VR Q w x) {K : Value → World → Prop} (hk : ∀ w', Ch (fun _ => False) w w' → K (.int .i64 (x.m.check 1 : Int)) w') :
    callP Tryz.prog 33 [x.v] w K := by
  have hxl := hx.lt x
  obtain ⟨k, n, t, s, e, ls⟩ := x
  apply ok_value_Check
  unfold wp_value_Check
  refine boxV (x := .mk k n t s e ls) fun w1 b1 a1 c1 z1 => newB_blk fun w2 b2 c2 z2 => ?_
  have b12 := (c2.blk (blk_lt b1) id).trans b1
  have c12 := c1.trans' c2
  refine ldK b12 ?_
  rw [vv]
  apply ok_value_each
  unfold wp_value_each
  refine boxV (x := .mk k n t s e ls) fun w3 b3 a3 c3 z3 => ⟨_, rfl, ?_⟩
  have c13 := c12.trans' c3
  have b23 := (c3.blk (blk_lt b2) id).trans b2
  have hs3 := blk_lt b3
  have hs2 := blk_lt b2
  intro l hl rc hrc hyield
  have hl : l = w3.heap.size + 1 := by rw [hl]; simp
  obtain ⟨cW, dW, rW, zW⟩ := over_start w3 rc
  subst hl
  obtain ⟨W, hW⟩ : ∃ W, W = (w3.alloc (.deferred (some []))).alloc (rc .ready none) := ⟨_, rfl⟩
  rw [← hW] at cW dW rW zW ⊢
  have cW0 : Ch (fun _ => False) w W := c13.trans' cW
  have bW2 := (cW.blk (blk_lt b23) id).trans b23
  have bW3 := (cW.blk (blk_lt b3) id).trans b3
  obtain ⟨rb, hrb⟩ : ∃ rb, rb = w1.heap.size := ⟨_, rfl⟩
  rw [← hrb] at bW2 hyield ⊢
  have hw1 := c1.size
  -- the loop's record, the answer's box
  obtain ⟨S, hSd⟩ : ∃ S : Nat → Prop, S = fun j => j = w3.heap.size + 1 ∨ j = rb := ⟨_, rfl⟩
  have hInvS : ∀ a b : World, objAt a w3.heap.size = some (.deferred (some [])) → Ch S a b → objAt b w3.heap.size = some (.deferred (some [])) := fun a b h c => objAt_ch h c (by rw [hSd]; rintro (h | h) <;> omega)
  refine ⟨by kernel_rfl, ?_⟩
  show callP _ _ [.func (.yield (w3.heap.size + 1)) #[] #[], .pointer (some ⟨w2.heap.size, 0, none⟩)] W _
  apply ok_value_each_1
  unfold wp_value_each_1
  simp only [nn]
  refine ldK bW3 ?_
  rw [vv]
  have hLW : LW W := hL.ch0 cW0
  refine walk_ok (Q := fun b => Q b ∧ b < w.heap.size) (S := S) (l := w3.heap.size + 1)
    (Inv := fun a => recAt a (w3.heap.size + 1) rc .ready none ∧ blk a rb = some [.int .i64 0] ∧ objAt a w3.heap.size = some (.deferred (some [])) ∧ Ch S W a)
    (Stop := fun er a => recAt a (w3.heap.size + 1) rc .done (some .ret) ∧ blk a rb = some [.int .i64 (er : Int)] ∧ objAt a w3.heap.size = some (.deferred (some [])) ∧ Ch S W a)
    (fun a b ⟨h1, h2, h3, h4⟩ c => ⟨h1.ch c id, (c.blk (blk_lt h2) id).trans h2, objAt_ch h3 c id, h4.trans' (c.mono fun _ _ h => h.elim)⟩)
    (fun a ⟨h1, h2, _, _⟩ j hj => by
      rw [hSd] at hj
      rcases hj with rfl | rfl
      · exact objAt_lt h1
      · exact blk_lt h2)
    (fun b hb hs => by rw [hSd] at hs; rcases hs with h | h <;> omega) ?_ (.mk k n t s e ls) 1 W _ (by decide) ⟨rW, bW2, dW, Ch.refl _ _⟩ (hxl.ch0 cW0) hf hsz (fun w4 hc ⟨r4, b4, o4, c4⟩ _ => ⟨_, rfl, ?_⟩) (fun w4 hc ⟨r4, b4, o4, c4⟩ _ => ⟨_, rfl, ?_⟩)
  · rintro ⟨k', n', t', s', e', l'⟩ d a ⟨r1, r2, r3, r4⟩ hxa hn64 htl
    refine hyield (d : Int) k' (n' : Int) ⟨t'.toArray⟩ s'.p s'.n s'.c e' a _ r1 ?_
    refine nbx (x := .mk k' n' t' s' e' l') rfl fun w10 b10 c10 z10 => ?_
    have r10 := r1.ch c10 id
    refine ⟨r10, ?_⟩
    obtain ⟨w11, hw11⟩ : ∃ w11, w11 = w10.putObj (w3.heap.size + 1) (rc .busy none) := ⟨_, rfl⟩
    rw [← hw11]
    have c11 : Ch (· = w3.heap.size + 1) w10 w11 := by rw [hw11]; exact putObj_ch ..
    have rb11 : recAt w11 (w3.heap.size + 1) rc .busy none := by rw [hw11]; exact r10.put
    have hls : w3.heap.size + 1 < a.heap.size := objAt_lt r1
    have b11 := (c11.blk (blk_lt b10) (by omega)).trans b10
    refine ldK b11 ?_
    rw [vv]
    have ca11 : Ch S a w11 := (c10.mono fun _ _ h => h.elim).trans c11 fun x hx h => by rw [hSd]; exact .inl h
    have cW11 : Ch S W w11 := r4.trans' ca11
    have hL11 : LW w11 := hLW.ch cW11 fun b hb hs => by
      have := hL.size
      rw [hSd] at hs; rcases hs with h | h <;> omega
    have hx11 : VR (fun b => Q b ∧ b < w.heap.size) w11 (.mk k' n' t' s' e' l') := VR.ch ca11 (fun b hb hs => by rw [hSd] at hs; rcases hs with h | h <;> omega) _ hxa
    refine alone_ok hn64 htl hL11 hx11 fun w12 c12' => ⟨_, rfl, ?_⟩
    have rb12 := rb11.ch c12' id
    have ba12 : blk w12 rb = some [.int .i64 0] := (c12'.blk (by have := c11.size; have := c10.size; have := blk_lt r2; omega) id).trans ((c11.blk (by have := c10.size; have := blk_lt r2; omega) (by omega)).trans ((c10.blk (blk_lt r2) id).trans r2))
    have o12 : objAt w12 w3.heap.size = some (.deferred (some [])) := objAt_ch (hInvS a w11 r3 ca11) c12' id
    have ca12 : Ch S a w12 := ca11.trans' (c12'.mono fun _ _ h => h.elim)
    rw [int_bne]
    refine Sif_cases (fun h => ?_) (fun h => ?_)
    · rw [Bool.not_eq_true'] at h
      have h := of_decide_eq_false h
      refine st1 ba12 fun w13 b13 c13' => ?_
      have r13 := rb12.ch c13' (by omega)
      refine ⟨r13, ?_⟩
      have cp := putObj_ch w13 (w3.heap.size + 1) (rc .done (some .ret))
      have ca13 : Ch S a w13 := ca12.trans c13' fun x hx h => by rw [hSd]; exact .inr h
      have caf := ca13.trans cp fun x hx h => by rw [hSd]; exact .inl h
      refine ⟨caf, .inr ⟨by omega, rfl, r13.put, (cp.blk (blk_lt b13) (by omega)).trans b13, hInvS _ _ r3 caf, r4.trans' caf⟩⟩
    · rw [Bool.not_eq_false'] at h
      have h := of_decide_eq_true h
      refine ⟨rb12, ?_⟩
      have cp := putObj_ch w12 (w3.heap.size + 1) (rc .ready none)
      have caf := ca12.trans cp fun x hx h => by rw [hSd]; exact .inl h
      refine ⟨caf, .inl ⟨by omega, rfl, rb12.put, (cp.blk (blk_lt ba12) (by omega)).trans ba12, hInvS _ _ r3 caf, r4.trans' caf⟩⟩
  · -- all may be
    refine .inl ⟨r4, ?_⟩
    have cp := putObj_ch w4 (w3.heap.size + 1) (rc .exhausted none)
    have b5 := (cp.blk (blk_lt b4) (by omega)).trans b4
    have o5 := objAt_ch o4 cp (by omega)
    simp only [add_at, Nat.zero_add]
    refine st1 b5 fun w6 b6 c6 => ?_
    refine takeM_of (objAt_ch o5 c6 (by omega)) fun w7 c7 z7 => ?_
    refine ⟨_, cellK ((c7.blk (blk_lt b6) (by omega)).trans b6) 0 rfl, ?_⟩
    have := hk w7 ((((cW0.trans c4 fun x hx h => by rw [hSd] at h; rcases h with h | h <;> omega).trans cp fun x hx h => by omega).trans c6 fun x hx h => by omega).trans c7 fun x hx h => by omega)
    rw [hc] at this
    exact this
  · refine .inr (.inl ⟨r4, ?_⟩)
    have cp := putObj_ch w4 (w3.heap.size + 1) (rc .exhausted (some .ret))
    have b5 := (cp.blk (blk_lt b4) (by omega)).trans b4
    refine takeM_of (objAt_ch o4 cp (by omega)) fun w7 c7 z7 => ?_
    refine ⟨_, cellK ((c7.blk (blk_lt b5) (by omega)).trans b5) 0 rfl, ?_⟩
    exact hk w7 (((cW0.trans c4 fun x hx h => by rw [hSd] at h; rcases h with h | h <;> omega).trans cp fun x hx h => by omega).trans c7 fun x hx h => by omega)
end Go.Proofs.YtnacobknngidkaaGreatDoor
