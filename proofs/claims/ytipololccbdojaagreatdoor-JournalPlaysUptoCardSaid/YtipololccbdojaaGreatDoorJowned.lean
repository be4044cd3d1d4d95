/-
  The law's owned.
-/
import Derived.Test.YtipololccbdojaaGreatDoorJown
import Derived.Test.YtipololccbdojaaGreatDoorJsmall
namespace Go.Sv
open Go
set_option linter.unusedVariables false
theorem recsOf_at {L : List Bt} {i k : Nat} {y : Bt} {x : Rc} (hi : L[i]? = some y) (hk : y.r[k]? = some x) : (recsOf L)[(recsOf (L.take i)).length + k]? = some x ∧ (recsOf L).take ((recsOf (L.take i)).length + k) = recsOf (L.take i) ++ y.r.take k := by
  obtain ⟨hlt, rfl⟩ := List.getElem?_eq_some_iff.1 hi
  obtain ⟨hk1, rfl⟩ := List.getElem?_eq_some_iff.1 hk
  have e : recsOf L = recsOf (L.take i) ++ (L[i].r ++ recsOf (L.drop (i + 1))) := by
    conv => lhs; rw [← List.take_append_drop i L, ← List.getElem_cons_drop (h := hlt)]
    simp only [recsOf, List.flatMap_append, List.flatMap_cons]
  rw [e]
  constructor
  · rw [List.getElem?_append_right (by omega), Nat.add_sub_cancel_left, List.getElem?_append_left hk1, List.getElem?_eq_getElem]
  · rw [List.take_length_add_append, List.take_append_of_le_length (by omega)]
theorem recsOf_succ {L : List Bt} {i : Nat} {y : Bt} (hi : L[i]? = some y) : recsOf (L.take (i + 1)) = recsOf (L.take i) ++ y.r := by
  obtain ⟨hlt, rfl⟩ := List.getElem?_eq_some_iff.1 hi
  rw [List.take_succ_eq_append_getElem hlt]
  simp only [recsOf, List.flatMap_append, List.flatMap_cons, List.flatMap_nil, List.append_nil]
theorem recsOf_take_le (L : List Bt) (i : Nat) : (recsOf (L.take i)).length ≤ (recsOf L).length := by
  have e : recsOf L = recsOf (L.take i) ++ recsOf (L.drop i) := by
    conv => lhs; rw [← List.take_append_drop i L]
    simp only [recsOf, List.flatMap_append]
  rw [e]; simp
theorem recsOf_nodup : ∀ {L : List Bt}, (L.flatMap BtE.B).Nodup → ((recsOf L).flatMap RcE.B).Nodup
  | [], _ => by simp [recsOf]
  | y :: L, h => by
    rw [List.flatMap_cons] at h
    obtain ⟨h1, h2, h3⟩ := List.nodup_append.1 h
    have e : recsOf (y :: L) = y.r ++ recsOf L := by simp [recsOf]
    rw [e, List.flatMap_append]
    have h1' : (y.s.own.toList ++ y.r.flatMap RcE.B).Nodup := h1
    refine List.nodup_append.2 ⟨(List.nodup_append.1 h1').2.1, recsOf_nodup h2, fun a ha b hb => h3 a (List.mem_append.2 (.inr ha)) b ?_⟩
    obtain ⟨x, hx, hb⟩ := List.mem_flatMap.1 hb
    obtain ⟨z, hz, hxz⟩ := mem_recsOf.1 hx
    exact List.mem_flatMap.2 ⟨z, hz, List.mem_append.2 (.inr (List.mem_flatMap.2 ⟨x, hxz, hb⟩))⟩
end Go.Sv
namespace Go.Proofs.YtipololccbdojaaGreatDoor
open Go Go.Sv
set_option linter.unusedVariables false
set_option maxRecDepth 4000
def toBL (x : Rc) : BL := ⟨x.s.p, x.s.n, x.s.c, x.s.own⟩
theorem bowns_toBL (A : List Rc) : bowns (A.map toBL) = A.flatMap RcE.B := by
  unfold bowns
  rw [List.flatMap_map]; rfl
set_option maxHeartbeats 1000000 in
theorem jowned_ok {w : World} {p : Option Addr} {n c : Nat} {own : Option Nat} {L : List Bt} {K : Value → World → Prop} (H : BtE.Row w p n c own L) (hn : n ≤ 2 ^ 40) (hs : ∀ y ∈ L, y.s.n ≤ 2 ^ 40) (hr : ∀ x ∈ recsOf L, x.s.n ≤ 2 ^ 46) (hlen : (recsOf L).length ≤ 2 ^ 40)
    (hk : ∀ w', Ch (fun b => b ∈ BtE.rowB own L) w w' → K (.bool true) w') : callP Tryz.prog 15 [.slice p n c] w K := by
  obtain ⟨hLn, hrow, hok, hnd⟩ := H
  have hH : BtE.Row w p n c own L := ⟨hLn, hrow, hok, hnd⟩
  subst hLn
  have hlt := hH.lt
  obtain ⟨nd1, nd2, nd3⟩ := List.nodup_append.1 (show (own.toList ++ L.flatMap BtE.B).Nodup from hnd)
  have ndA := recsOf_nodup nd2
  have hRow : ∀ y ∈ L, RcE.Row w y.s.p y.s.n y.s.c y.s.own y.r := hok
  have inRow : ∀ x ∈ recsOf L, ∀ b, x.s.own = some b → b ∈ BtE.rowB own L := fun x hx b hb => by
    obtain ⟨y, hy, hxy⟩ := mem_recsOf.1 hx
    exact El.mem_rowB.2 (.inr ⟨y, hy, El.mem_rowB.2 (.inr ⟨x, hxy, by show b ∈ x.s.own.toList; rw [hb]; simp⟩)⟩)
  have inB2 : ∀ b ∈ (recsOf L).flatMap RcE.B, b ∈ BtE.rowB own L := fun b hb => by
    obtain ⟨x, hx, hb⟩ := List.mem_flatMap.1 hb
    exact inRow x hx b (by have hb : b ∈ x.s.own.toList := hb; simpa [Option.mem_toList] using hb)
  refine ok_longshorelaw20_owned ?_
  unfold wp_longshorelaw20_owned
  refine newB_blk fun w1 b1 c1 z1 => ?_
  refine ⟨fun m i w' => ∃ (j : Nat) (tp : Option Addr) (tc : Nat) (tb : Option Nat), i = (j : Int) ∧ j ≤ L.length ∧ m = L.length - j ∧ Ch (fun _ => False) w w' ∧ BookR w' w.heap.size ((recsOf (L.take j)).map toBL) tp tc tb ∧ (∀ b, tb = some b → w.heap.size ≤ b),
    ⟨L.length, 0, none, 0, none, rfl, by omega, rfl, c1, book_new b1, fun b hb => by cases hb⟩, ?_⟩
  rintro m i w2 ⟨j, tp, tc, tb, rfl, hj, rfl, c2, B2, hf2⟩
  refine Sif_cases (fun hlt1 => ?_) fun hge => ?_
  · have hlt' : (j : Int) < L.length := by simpa using hlt1
    have hjl : j < L.length := by omega
    have hy := List.getElem?_eq_getElem hjl
    have hyn := hs _ (List.getElem_mem hjl)
    have hyR := hRow _ (List.getElem_mem hjl)
    have hyl : L[j].r.length = L[j].s.n := hyR.1
    refine ⟨fun m i w' => ∃ (k : Nat) (tp : Option Addr) (tc : Nat) (tb : Option Nat), i = (k : Int) ∧ k ≤ L[j].s.n ∧ m = L[j].s.n - k ∧ Ch (fun _ => False) w w' ∧ BookR w' w.heap.size ((recsOf (L.take j) ++ L[j].r.take k).map toBL) tp tc tb ∧ (∀ b, tb = some b → w.heap.size ≤ b),
      ⟨L[j].s.n, 0, tp, tc, tb, rfl, by omega, rfl, c2, by simpa using B2, hf2⟩, ?_⟩
    rintro m i w3 ⟨k, tp, tc, tb, rfl, hk1, rfl, c3, B3, hf3⟩
    have hrow3 : Rd w3 p L.length 1 (L.flatMap BtE.g) := (hrow.ch c3 fun _ _ => id).rd
    obtain ⟨kb, ko, rfl, hc⟩ := hrow3.at (g := BtE.g) BtE.glen hy (by decide)
    have hc0 := hc 0 _ rfl
    rw [show BtE.sz = 1 from rfl, Nat.mul_one, Nat.add_zero] at hc0
    refine ⟨by omega, hlt', ?_⟩
    simp only [nn_some, add_at, Int.toNat_natCast, Nat.mul_one]
    refine ⟨_, _, _, hc0, Sif_cases (fun hk2 => ?_) fun hk2 => ?_⟩
    · have hk2' : (k : Int) < L[j].s.n := by simpa using hk2
      have hkl : k < L[j].r.length := by omega
      have hx := List.getElem?_eq_getElem hkl
      obtain ⟨ra, rt⟩ := recsOf_at hy hx
      have hyrow3 : Rd w3 L[j].s.p L[j].s.n 1 (L[j].r.flatMap RcE.g) := (hyR.2.1.ch c3 fun _ _ => id).rd
      obtain ⟨yb, yo, hyp, hyc⟩ := hyrow3.at (g := RcE.g) RcE.glen hx (by decide)
      have hyc0 := hyc 0 _ rfl
      rw [show RcE.sz = 1 from rfl, Nat.mul_one, Nat.add_zero] at hyc0
      refine ⟨by omega, hlt', _, _, _, hc0, by omega, hk2', ?_⟩
      rw [hyp]
      simp only [nn_some, add_at, Int.toNat_natCast, Nat.mul_one]
      refine ⟨_, _, _, hyc0, ?_⟩
      have hxO : Ow w L[j].r[k].s.p L[j].r[k].s.n L[j].r[k].s.c 1 (bytesV L[j].r[k].l) L[j].r[k].s.own := hyR.2.2.1 _ (List.getElem_mem hkl)
      have hle := recsOf_take_le L j
      have hlt5 := (List.getElem?_eq_some_iff.1 ra).1
      refine take_ok (x := toBL L[j].r[k]) B3 (by simp; omega) (hxO.ch c3 fun _ _ => id) (fun b hb hm => ?_) fun p' c' tb' w4 B4 c4 h4 => ⟨rfl, ?_⟩
      · have hb' : L[j].r[k].s.own = some b := hb
        have hbl := hxO.blt b hb'
        rcases List.mem_cons.1 hm with e | hm
        · omega
        · rcases List.mem_append.1 hm with hm | hm
          · have := hf3 b (by simpa [Option.mem_toList] using hm); omega
          · rw [bowns_toBL, ← rt] at hm
            -- earlier records hold other blocks
            have hsp : recsOf L = (recsOf L).take ((recsOf (L.take j)).length + k) ++ (L[j].r[k] :: (recsOf L).drop ((recsOf (L.take j)).length + k + 1)) := by
              have h5 := (List.getElem?_eq_some_iff.1 ra).2
              rw [← h5, List.getElem_cons_drop, List.take_append_drop]
            rw [hsp, List.flatMap_append, List.flatMap_cons] at ndA
            obtain ⟨_, _, h7⟩ := List.nodup_append.1 ndA
            exact h7 b hm b (List.mem_append.2 (.inl (by show b ∈ L[j].r[k].s.own.toList; rw [hb']; simp))) rfl
      · have c04 : Ch (fun _ => False) w w4 := c3.trans c4 fun x hx h => by
          rcases h with h | h
          · omega
          · have := hf3 x h; omega
        rw [wrap_id (by omega) (by omega), nameI_iff]
        have e : (recsOf (L.take j) ++ L[j].r.take (k + 1)).map toBL = (recsOf (L.take j) ++ L[j].r.take k).map toBL ++ [toBL L[j].r[k]] := by
          rw [List.take_succ_eq_append_getElem hkl]; simp only [List.map_append, List.map_cons, List.map_nil, List.append_assoc]
        refine ⟨L[j].s.n - (k + 1), by omega, k + 1, p', c', tb', by omega, by omega, rfl, c04, by rw [e]; exact B4, fun b hb => ?_⟩
        rcases h4 b hb with h | h
        · exact hf3 b h
        · have := c3.size; omega
    · have hk2' : ¬ (k : Int) < L[j].s.n := by simpa using hk2
      rw [List.take_of_length_le (l := L[j].r) (by omega), ← recsOf_succ hy] at B3
      rw [wrap_id (by omega) (by omega), nameI_iff]
      exact ⟨L.length - (j + 1), by omega, j + 1, tp, tc, tb, by omega, by omega, rfl, c3, B3, hf3⟩
  have hj' : ¬ (j : Int) < L.length := by simpa using hge
  rw [List.take_of_length_le (by omega)] at B2
  refine owned_ok B2 (fun x hx => ?_) (by simpa using hlen) fun w3 c3 => ⟨_, rfl, ?_⟩
  · obtain ⟨z, hz, rfl⟩ := List.mem_map.1 hx
    exact hr z hz
  rw [bowns_toBL] at c3
  have C3 : Ch (fun b => b ∈ (recsOf L).flatMap RcE.B) w w3 := (c2.mono fun _ _ h => h.elim).trans' c3
  -- the lists themselves hold other blocks than the records
  have notRec : ∀ y ∈ L, ∀ b, y.s.own = some b → b ∉ (recsOf L).flatMap RcE.B := by
    have key : ∀ {M : List Bt}, (M.flatMap BtE.B).Nodup → ∀ y ∈ M, ∀ b, y.s.own = some b → b ∉ (recsOf M).flatMap RcE.B := by
      intro M
      induction M with
      | nil => intro _ y hy; cases hy
      | cons z M ih =>
        intro h y hy b hb hm
        rw [List.flatMap_cons] at h
        obtain ⟨h1, h2, h3⟩ := List.nodup_append.1 h
        have h1' : (z.s.own.toList ++ z.r.flatMap RcE.B).Nodup := h1
        have e : recsOf (z :: M) = z.r ++ recsOf M := by simp [recsOf]
        rw [e, List.flatMap_append] at hm
        have inM : ∀ b ∈ (recsOf M).flatMap RcE.B, b ∈ M.flatMap BtE.B := fun b hb => by
          obtain ⟨x, hx, hb⟩ := List.mem_flatMap.1 hb
          obtain ⟨q, hq, hxq⟩ := mem_recsOf.1 hx
          exact List.mem_flatMap.2 ⟨q, hq, List.mem_append.2 (.inr (List.mem_flatMap.2 ⟨x, hxq, hb⟩))⟩
        rcases List.mem_cons.1 hy with rfl | hy
        · rcases List.mem_append.1 hm with hm | hm
          · exact (List.nodup_append.1 h1').2.2 b (by rw [hb]; simp) b hm rfl
          · exact h3 b (List.mem_append.2 (.inl (by rw [hb]; simp))) b (inM b hm) rfl
        · have hbM : b ∈ M.flatMap BtE.B := List.mem_flatMap.2 ⟨y, hy, List.mem_append.2 (.inl (by rw [hb]; simp))⟩
          rcases List.mem_append.1 hm with hm | hm
          · exact h3 b (List.mem_append.2 (.inr hm)) b hbM rfl
          · exact ih h2 y hy b hb hm
    exact key nd2
  have notOwn : ∀ b, own = some b → b ∉ L.flatMap BtE.B := fun b hb hm => nd3 b (by rw [hb]; simp) b hm rfl
  have inL : ∀ b ∈ (recsOf L).flatMap RcE.B, b ∈ L.flatMap BtE.B := fun b hb => by
    obtain ⟨x, hx, hb⟩ := List.mem_flatMap.1 hb
    obtain ⟨q, hq, hxq⟩ := mem_recsOf.1 hx
    exact List.mem_flatMap.2 ⟨q, hq, List.mem_append.2 (.inr (List.mem_flatMap.2 ⟨x, hxq, hb⟩))⟩
  have hrow3 := hrow.ch C3 fun b hb hm => notOwn b hb (inL b hm)
  have eT : (L.map (·.s)).flatMap SL.cells = L.flatMap BtE.g := by rw [List.flatMap_map]; rfl
  have LL : Lsts w3 p (L.map (·.s)) (fun j => ((L[j]?.map (·.r)).getD []).map (·.s)) := by
    refine ⟨by rw [eT, List.length_map]; exact hrow3.rd, fun j x hx => ?_, fun j k x y b hjk hx hy hb hb2 => ?_, fun a ha h0 x hx hb => ?_⟩
    · rw [List.getElem?_map] at hx
      obtain ⟨y, hy, rfl⟩ := Option.map_eq_some_iff.1 hx
      have hyL := List.mem_of_getElem? hy
      have hyR := hRow y hyL
      rw [hy]
      simp only [Option.map_some, Option.getD_some]
      have e : (y.r.map (·.s)).flatMap SL.cells = y.r.flatMap RcE.g := by rw [List.flatMap_map]; rfl
      rw [e, List.length_map]
      exact ⟨hyR.2.1.ch C3 fun b hb hm => notRec y hyL b hb hm, hyR.1⟩
    · rw [List.getElem?_map] at hx hy
      obtain ⟨y1, hy1, rfl⟩ := Option.map_eq_some_iff.1 hx
      obtain ⟨y2, hy2, rfl⟩ := Option.map_eq_some_iff.1 hy
      have key : ∀ {M : List Bt} {j k : Nat} {y1 y2 : Bt}, (M.flatMap BtE.B).Nodup → j < k → M[j]? = some y1 → M[k]? = some y2 → y1.s.own = some b → y2.s.own ≠ some b := by
        intro M
        induction M with
        | nil => intro j k y1 y2 _ _ h; simp at h
        | cons z M ih =>
          intro j k y1 y2 h hjk h1 h2 e1 e2
          rw [List.flatMap_cons] at h
          obtain ⟨q1, q2, q3⟩ := List.nodup_append.1 h
          obtain ⟨k', rfl⟩ : ∃ k', k = k' + 1 := ⟨k - 1, by omega⟩
          rw [List.getElem?_cons_succ] at h2
          cases j with
          | zero =>
            rw [List.getElem?_cons_zero] at h1
            cases h1
            exact q3 b (List.mem_append.2 (.inl (by rw [e1]; simp))) b (List.mem_flatMap.2 ⟨y2, List.mem_of_getElem? h2, List.mem_append.2 (.inl (by rw [e2]; simp))⟩) rfl
          | succ j =>
            rw [List.getElem?_cons_succ] at h1
            exact ih q2 (by omega) h1 h2 e1 e2
      rcases Nat.lt_or_gt_of_ne hjk with h | h
      · exact key nd2 h hy1 hy2 hb hb2
      · exact key nd2 h hy2 hy1 hb2 hb
    · obtain ⟨y, hy, rfl⟩ := List.mem_map.1 hx
      have h1 := hrow.inB (by decide) a ha (by simpa using h0)
      exact notOwn _ h1 (List.mem_flatMap.2 ⟨y, hy, List.mem_append.2 (.inl (by rw [hb]; simp))⟩)
  have hap := apart_ok (lc := c) (K := fun v w' => ∃ b1 : Bool, v = .bool b1 ∧ Sif true (K (.bool b1) w') (K (.bool false) w')) LL (by simpa using hn) (fun x hx => by
    obtain ⟨y, hy, rfl⟩ := List.mem_map.1 hx
    exact hs y hy) fun w4 c4 => ⟨true, rfl, Sif_true (hk w4 ((C3.mono fun b _ h => inB2 b h).trans c4 fun x hx ⟨y, hy, hb⟩ => by
      obtain ⟨z, hz, rfl⟩ := List.mem_map.1 hy
      exact El.mem_rowB.2 (.inr ⟨z, hz, List.mem_append.2 (.inl (by rw [hb]; simp))⟩)))⟩
  rw [List.length_map] at hap
  exact hap
end Go.Proofs.YtipololccbdojaaGreatDoor
