/-
  The queue's All: what there is, copied and sorted; then one after the other.
-/
import Derived.Test.YtipbbjnmpnfhpaaDoorQsort
import Derived.Test.YtipbbjnmpnfhpaaDoorQrelw
import Derived.Test.YtipbbjnmpnfhpaaDoorSvOver
namespace Go.Proofs.YtipbbjnmpnfhpaaDoor
open Go Go.Sv Go.Heap Go.Qu Go.MapKept
set_option linter.unusedVariables false
set_option maxRecDepth 4000
theorem make_ents {w : World} (c : Nat) (hc : c ≤ 2 ^ 40) : ∃ w', (Instr.makeSlice 33 (.int .i64 0) (.int .i64 (c : Int))).run Tryd.prog w = .ok (.slice (some ⟨w.heap.size, 0, none⟩) 0 c) w' ∧
    Ow w' (some ⟨w.heap.size, 0, none⟩) 0 c 7 [] (some w.heap.size) ∧ Ch (fun _ => False) w w' := by
  obtain ⟨i, hi, h1, h2, h3⟩ := entry_info
  have hr := run_make (P := Tryd.prog) w 33 37 i _ Tryd.underlying33 hi h3 .i64 .i64 (0 : Int) (c : Int) (by omega) (by omega) (by rw [h2]; omega) (by omega)
  rw [Int.toNat_natCast, h1] at hr
  refine ⟨_, hr, ⟨rfl, Nat.zero_le _, .inr ⟨_, 0, _, rfl, rfl, alloc_blk w (madeCells (.agg #[.int .i64 0, .int .i64 0, .int .i64 0, .bool false, .int .i64 0, .int .i64 0, .slice none 0 0] : Value).cells (c * 7)).toList 37, ?_, by simp⟩⟩, alloc_ch w _⟩
  simp [madeCells]
/-- copies, gathered since w -/
structure Col (w w' : World) (p : Option Addr) (n c : Nat) (own : Option Nat) (S : List Et) : Prop where
  len : n = S.length
  row : Ow w' p n c 7 ((S.map (·.e)).flatMap En.cells) own
  dat : ∀ x ∈ S, EtE.Ok w' x
  nd : (own.toList ++ eB S).Nodup
  new : ∀ b ∈ own.toList ++ eB S, w.heap.size ≤ b
  ch : Ch (fun _ => False) w w'
theorem Col.lt {w w' : World} {p : Option Addr} {n c : Nat} {own : Option Nat} {S : List Et} (h : Col w w' p n c own S) : ∀ b ∈ own.toList ++ eB S, b < w'.heap.size := fun b hb => by
  rcases List.mem_append.1 hb with hb | hb
  · exact h.row.blt b (by simpa [Option.mem_toList] using hb)
  · obtain ⟨x, hx, ho⟩ := mem_eB.1 hb
    exact (h.dat x hx).blt b ho
theorem Col.next {w w' w2 : World} {p : Option Addr} {n c : Nat} {own : Option Nat} {S : List Et} (h : Col w w' p n c own S) (c2 : Ch (fun b => w.heap.size ≤ b ∧ b ∉ own.toList ++ eB S) w' w2) : Col w w2 p n c own S :=
  ⟨h.len, h.row.ch c2 fun b hb hs => hs.2 (by simp [hb, Option.mem_toList]), fun x hx => EtE.ch (h.dat x hx) c2 fun b hb hs => hs.2 (List.mem_append_right _ (mem_eB.2 ⟨x, hx, by simpa [EtE, Option.mem_toList] using hb⟩)), h.nd, h.new, h.ch.trans c2 fun b hb hs => by omega⟩
theorem Col.next0 {w w' w2 : World} {p : Option Addr} {n c : Nat} {own : Option Nat} {S : List Et} (h : Col w w' p n c own S) (c2 : Ch (fun _ => False) w' w2) : Col w w2 p n c own S := h.next (c2.mono fun _ _ h => h.elim)
theorem Col.push {w w' : World} {p : Option Addr} {n c : Nat} {own : Option Nat} {S : List Et} {x : Et} (h : Col w w' p n c own S) (hx : EtE.Ok w' x) (hd : ∀ b, x.own = some b → w.heap.size ≤ b ∧ b ∉ own.toList ++ eB S) (hn : n ≤ 2 ^ 40) {K : Option Addr → Nat → Nat → World → Prop}
    (hk : ∀ p' c' own' w3, Col w w3 p' (n + 1) c' own' (S ++ [x]) → (∀ b, own' = some b → own = some b ∨ w'.heap.size ≤ b) → Ch (fun b => own = some b) w' w3 → K p' (n + 1) c' w3) :
    newB w' x.e.cells 37 fun a3 w10 => ∃ p5 n18 c5 w11, Sem.run Tryd.prog (Builtin.append_ #[33, 33] 33 #[.slice p n c, .slice (some a3) 1 1]) w10 = .ok (.slice p5 n18 c5) w11 ∧ K p5 n18 c5 w11 := by
  have hlt := h.lt
  obtain ⟨rfl, hrow, hdat, hnd, hnew, hch⟩ := h
  have hl : (S.map (·.e)).length = S.length := List.length_map ..
  rw [← hl] at hrow ⊢
  have hol : ∀ b, own = some b → b ∈ own.toList ++ eB S := fun b hb => by simp [hb, Option.mem_toList]
  refine push_ok (g := En.cells) (sz := 7) (bytes := 72) Tryd.underlying33 entry_info rfl En.cells_len En.cells_one hrow x.e (by rw [hl]; omega) (by rw [hl]; omega) fun p' c' b' w11 o11 n11 c11 => ?_
  have e1 : (List.map (·.e) S ++ [x.e]) = (S ++ [x]).map (·.e) := by simp
  rw [e1] at o11 ⊢
  have e2 : ((S ++ [x]).map (·.e)).length = S.length + 1 := by simp
  rw [e2] at o11 ⊢
  have hndc := List.nodup_append.1 hnd
  have hmem : ∀ b, b ∈ eB (S ++ [x]) ↔ b ∈ eB S ∨ x.own = some b := fun b => by
    rw [eB_app, List.mem_append]
    refine or_congr Iff.rfl ?_
    rw [mem_eB]; simp
  have hxl : ∀ b, x.own = some b → b < w'.heap.size := hx.blt
  have hneq : ∀ b, own = some b → b ∉ eB (S ++ [x]) := fun b hb hm => by
    rcases (hmem b).1 hm with q | q
    · exact hndc.2.2 b (by simp [hb, Option.mem_toList]) b q rfl
    · exact (hd b q).2 (hol b hb)
  refine hk p' c' b' w11 ⟨by simp, o11, fun y hy => ?_, ?_, fun b hb => ?_, hch.trans c11 fun b hb hs => by have := hnew b (hol b hs); omega⟩ n11 c11
  · have hy2 : EtE.Ok w' y := by
      rcases List.mem_append.1 hy with q | q
      · exact hdat y q
      · rw [List.mem_singleton.1 q]; exact hx
    exact EtE.ch hy2 c11 fun b hb hs => hneq b hs (mem_eB.2 ⟨y, hy, by simpa [EtE, Option.mem_toList] using hb⟩)
  · refine List.nodup_append.2 ⟨by cases b' <;> simp, ?_, fun a ha b hb e => ?_⟩
    · rw [eB_app]
      refine List.nodup_append.2 ⟨hndc.2.1, ?_, fun a ha b hb e => ?_⟩
      · have : eB [x] = EtE.B x := by simp [eB]
        rw [this]; exact EtE.nd hx
      · subst e
        have hb' : x.own = some a := by
          obtain ⟨y, hy, ho⟩ := mem_eB.1 hb
          rw [List.mem_singleton.1 hy] at ho; exact ho
        exact (hd a hb').2 (List.mem_append_right _ ha)
    · subst e
      have ha : b' = some a := by simpa [Option.mem_toList] using ha
      rcases n11 a ha with q | q
      · exact hneq a q hb
      · rcases (hmem a).1 hb with z | z
        · have := hlt a (List.mem_append_right _ z); omega
        · have := hxl a z; omega
  · rcases List.mem_append.1 hb with q | q
    · have q : b' = some b := by simpa [Option.mem_toList] using q
      rcases n11 b q with z | z
      · exact hnew b (hol b z)
      · have := hch.size; omega
    · rcases (hmem b).1 q with z | z
      · exact hnew b (List.mem_append_right _ z)
      · exact (hd b z).1
/-- a range over what All gives, in its words: rounds that keep to J -/
structure Rounds (l : Nat) (w1 : World) (p : Option Addr) (S : List Et) (K : Value → World → Prop) : Prop where
  ex : ∃ J : Nat → World → Prop, J 0 w1 ∧ (∀ i w2 w3, J i w2 → Ch (fun _ => False) w2 w3 → J i w3) ∧ (∀ i w2, J i w2 → Rd w2 p S.length 7 ((S.map (·.e)).flatMap En.cells)) ∧
    (∀ i x w2, S[i]? = some x → J i w2 → yieldP Tryd.prog l [x.e.val] w2 fun v w3 => (v = .bool true ∧ J (i + 1) w3) ∨ (v = .bool false ∧ K (.tuple #[]) w3)) ∧ (∀ w2, J S.length w2 → K (.tuple #[]) w2)
theorem yieldP_mono {P : Program} {l : Nat} {args : List Value} {w : World} {K K' : Value → World → Prop} (h : yieldP P l args w K) (hk : ∀ v w', K v w' → K' v w') : yieldP P l args w K' := by
  obtain ⟨fn, tmps, assign, body, h1, h2⟩ := h
  exact ⟨fn, tmps, assign, body, h1, RoundIn.mono h2 fun e w' ⟨v, he, hv⟩ => ⟨v, he, hk _ _ hv⟩⟩
theorem Col.perm {w w' : World} {p : Option Addr} {n c : Nat} {own : Option Nat} {S S' : List Et} {w2 : World} (h : Col w w' p n c own S) (hp : S'.Perm S) (hr : Ow w2 p S'.length c 7 ((S'.map (·.e)).flatMap En.cells) own) (c2 : Ch (fun b => own = some b) w' w2) : Col w w2 p S'.length c own S' := by
  have hndc := List.nodup_append.1 h.nd
  have hm : ∀ b, b ∈ own.toList ++ eB S' → b ∈ own.toList ++ eB S := fun b hb => by
    rcases List.mem_append.1 hb with q | q
    · exact List.mem_append_left _ q
    · exact List.mem_append_right _ ((eB_perm hp).mem_iff.1 q)
  refine ⟨rfl, hr, fun x hx => EtE.ch (h.dat x (hp.mem_iff.1 hx)) c2 fun b hb hs => ?_, ?_, fun b hb => h.new b (hm b hb), h.ch.trans c2 fun b hb hs => ?_⟩
  · exact hndc.2.2 b (by simp [hs, Option.mem_toList]) b (mem_eB.2 ⟨x, hp.mem_iff.1 hx, by simpa [EtE, Option.mem_toList] using hb⟩) rfl
  · exact (((eB_perm hp).append_left _).nodup_iff).2 h.nd
  · have := h.new b (by simp [hs, Option.mem_toList]); omega
theorem qall_ok {w : World} {kb qb l : Nat} {A : AQ} {B : Nat → Prop} {K : Value → World → Prop} (hb : blk w kb = some [.pointer (some ⟨qb, 0, none⟩)]) (Q : QK w qb A B)
    (hk : ∀ w1 S p c own, S.map Et.pe = ordered A.L → Col w w1 p S.length c own S → Rounds l w1 p S K) :
    callP Tryd.prog 34 [.func (.yield l) #[] #[], .pointer (some ⟨kb, 0, none⟩)] w K := by
  obtain ⟨wf, F, H, p, c, own, r, M, E, rfl⟩ := Q
  have old := M.lt
  have hlen := E.len
  have hwl := wf.len
  have hm2 := wf.most2
  have hbd : blk w.drew kb = some [.pointer (some ⟨qb, 0, none⟩)] := hb
  have Md : QM w.drew qb A.cf A.last F H p c own r := M.ch (Ch.drew (S := fun _ => False) _) fun _ _ => id
  refine ok_queue_Queue_All_1 ?_
  unfold wp_queue_Queue_All_1
  simp only [nn_some, add_at, Nat.zero_add]
  refine ⟨_, by rw [cell_blk hbd]; rfl, ?_⟩
  simp only [nn_some, add_at, Nat.zero_add]
  refine ⟨_, _, _, Md.cell rfl, _, by rw [cell_blk hbd]; rfl, ?_⟩
  simp only [nn_some, add_at, Nat.zero_add]
  refine ⟨_, Md.cell rfl, _, Md.mlen, ?_⟩
  rw [wrap_small (by omega) (by omega)]
  have hcap : (F.length : Int) + (H.length : Int) = ((F.length + H.length : Nat) : Int) := by omega
  rw [hcap]
  obtain ⟨w1, hmk, o1, c1⟩ := make_ents (w := w.drew) (F.length + H.length) (by omega)
  have ch1 : Ch (fun _ => False) w w1 := (Ch.drew w).trans' c1
  have C1 : Col w w1 (some ⟨w.heap.size, 0, none⟩) 0 (F.length + H.length) (some w.heap.size) [] := ⟨rfl, o1, (fun x hx => by simp at hx), by simp [eB], (fun b hb => by simp [eB] at hb; omega), ch1⟩
  have hb1 : blk w1 kb = some [.pointer (some ⟨qb, 0, none⟩)] := by rw [ch1.blk (blk_lt hb) id]; exact hb
  refine ⟨_, _, _, w1, hmk, _, by rw [cell_blk hb1]; rfl, ?_⟩
  simp only [nn_some, add_at, Nat.zero_add]
  have M1 := M.ch ch1 fun _ _ => id
  refine ⟨_, _, _, M1.cell rfl, ?_⟩
  have hEl : ∀ x ∈ F ++ H, x.e.n ≤ 2 ^ 46 := fun x hx => by
    have h1 := (wf.ok _ (E.all hx)).len
    have h2 : x.l.length = x.e.n := EtE.len (M.dat x hx)
    have h3 : x.pe.l = x.l := rfl
    rw [h3, h2] at h1
    omega
  refine ⟨fun m p6 n4 c3 i w2 => ∃ (j : Nat) (ow : Option Nat) (S : List Et), i = (j : Int) ∧ j ≤ F.length ∧ m = F.length - j ∧ S.map Et.pe = (F.take j).map Et.pe ∧ Col w w2 p6 n4 c3 ow S, ⟨F.length, 0, _, [], rfl, Nat.zero_le _, rfl, rfl, C1⟩, ?_⟩
  rintro m p6 n4 c3 i w2 ⟨j, ow, S, rfl, hj, rfl, hS, C2⟩
  have hSl : S.length = j := by
    have := congrArg List.length hS
    rw [List.length_map, List.length_map, List.length_take] at this
    omega
  have hn4 := C2.len
  have M2 := M.ch C2.ch fun _ _ => id
  refine Sif_cases (fun hlt => ?_) fun hge => ?_
  · have hlt : j < F.length := by
      have : (j : Int) < (F.length : Int) := by simpa using hlt
      omega
    obtain ⟨x, hx⟩ : ∃ x, F[j]? = some x := ⟨_, List.getElem?_eq_getElem hlt⟩
    have hxe : (F.map (·.e))[j]? = some x.e := by rw [List.getElem?_map, hx]; rfl
    have hxF : x ∈ F ++ H := List.mem_append_left _ (List.mem_of_getElem? hx)
    obtain ⟨kb', o, hpp, hc⟩ := M2.row.rd.at En.cells_len hxe (by decide)
    refine ⟨by omega, by omega, ?_⟩
    rw [hpp]
    simp only [nn_some, add_at, Int.toNat_natCast]
    refine ⟨_, hc 0 _ rfl, _, hc 1 _ rfl, _, hc 2 _ rfl, _, hc 3 _ rfl, _, hc 4 _ rfl, _, hc 5 _ rfl, _, _, _, hc 6 _ rfl, ?_⟩
    refine newE (e0 := En0) (e := x.e) fun w9 b9 c9 z9 => rdN (by simpa using b9) ?_
    have M9 := M2.ch c9 fun _ _ => id
    refine own_ok (e := x.e) (M9.dat x hxF).rd (hEl x hxF) fun w10 y hy hyp hyn c10 => isE ?_
    have C10 := (C2.next0 c9).next0 c10
    refine C10.push hy (fun b hb => ⟨by have := hyn b hb; have := c9.size; have := C2.ch.size; omega, fun h => by have := hyn b hb; have := (C2.next0 c9).lt b h; omega⟩) (by omega) fun p' c' ow' w3 C3 _ _ => ?_
    refine ⟨F.length - (j + 1), by omega, j + 1, ow', S ++ [y], by rw [wrap_id (by omega) (by omega)]; rfl, by omega, rfl, ?_, C3⟩
    rw [List.map_append, hS, List.take_add_one, hx, List.map_append, List.map_singleton, hyp]; rfl
  · have hje : j = F.length := by
      have : ¬ (j : Int) < (F.length : Int) := by simpa using hge
      omega
    subst hje
    rw [List.take_length] at hS
    have hb2 : blk w2 kb = some [.pointer (some ⟨qb, 0, none⟩)] := by rw [C2.ch.blk (blk_lt hb) id]; exact hb
    refine ⟨_, by rw [cell_blk hb2]; rfl, ?_⟩
    simp only [nn_some, add_at, Nat.zero_add]
    refine ⟨_, M2.cell rfl, ?_⟩
    obtain ⟨m0, hm0, hmp0⟩ := M2.map
    obtain ⟨w3, hrun3, hit3, c3', z3⟩ := range_run Tryd.underlying59 hm0
    refine ⟨_, w3, hrun3, ?_⟩
    have hrq : r < w.heap.size := old r (mem_qbl.2 (.inr (.inl rfl)))
    have s2 := C2.ch.size
    refine ⟨fun m p9 n6 c4 w4 => ∃ (Hl D : List Et) (left : List (Value × Value)) (ow : Option Nat) (S : List Et), m = Hl.length ∧ H.Perm (D ++ Hl) ∧ left.Perm (Hl.map pairE) ∧ It (.int .i64) w4 w2.heap.size r m0 left ∧ S.map Et.pe = (F ++ D).map Et.pe ∧ Col w w4 p9 n6 c4 ow S ∧ (∀ b ∈ ow.toList ++ eB S, b ≠ w2.heap.size),
      ⟨H.length, H, [], m0, ow, S, rfl, .refl _, hmp0, hit3, by rw [List.append_nil]; exact hS, C2.next0 c3', fun b hb => by have := C2.lt b hb; omega⟩, ?_⟩
    rintro m p9 n6 c4 w4 ⟨Hl, D, left, ow4, S4, rfl, hpD, hlp, it4, hS4, C4, hne4⟩
    have itl := it4.lt
    have hn6 := C4.len
    have hS4l : S4.length = F.length + D.length := by
      have := congrArg List.length hS4
      rw [List.length_map, List.length_map, List.length_append] at this
      exact this
    have hDl := hpD.length_eq
    rw [List.length_append] at hDl
    rcases next_et (ty := 0) it4 hlp with ⟨rfl, hrun⟩ | ⟨x, Hl', left', w5, hpx, hlp', hrun, hent, it5, c5, z5⟩
    · refine .inl ⟨w4, hrun, ?_⟩
      have hperm : (S4.map Et.pe).Perm A.L := by
        rw [hS4]
        refine List.Perm.trans ?_ E.perm
        rw [List.append_nil] at hpD
        exact ((hpD.symm.append_left F)).map Et.pe
      have hnd : (S4.map fun x : Et => x.e.seq).Nodup := by
        have h1 := (hperm.map (·.seq)).nodup_iff.2 wf.nd
        rw [List.map_map] at h1
        exact h1
      have C4' := C4
      rw [hn6] at C4' ⊢
      refine sortQ_ok (L := S4) C4'.row (by omega) hnd fun w6 S hp hs o6 c6 => ⟨rfl, ?_⟩
      have C6 := C4'.perm hp o6 c6
      have hSA : S.map Et.pe = ordered A.L := ordered_eq wf.nd hs ((hp.map Et.pe).trans hperm)
      obtain ⟨J, hJ0, hJst, hJrd, hJy, hJend⟩ := hk w6 S p9 c4 ow4 hSA C6
      have hSl6 : S.length = S4.length := hp.length_eq
      rw [← hSl6]
      refine ⟨fun m i w => ∃ j : Nat, i = (j : Int) ∧ j ≤ S.length ∧ m = S.length - j ∧ J j w, ⟨S.length, 0, rfl, Nat.zero_le _, rfl, hJ0⟩, ?_⟩
      rintro m i w7 ⟨j, rfl, hj, rfl, hJ⟩
      refine Sif_cases (fun hlt => ?_) fun hge => ?_
      · have hlt : j < S.length := by
          have : (j : Int) < (S.length : Int) := by simpa using hlt
          omega
        obtain ⟨x, hx⟩ : ∃ x, S[j]? = some x := ⟨_, List.getElem?_eq_getElem hlt⟩
        have hxe : (S.map (·.e))[j]? = some x.e := by rw [List.getElem?_map, hx]; rfl
        obtain ⟨kb', o, hpp, hc⟩ := (hJrd j w7 hJ).at En.cells_len hxe (by decide)
        refine ⟨by omega, by omega, ?_⟩
        rw [hpp]
        simp only [nn_some, add_at, Int.toNat_natCast]
        refine ⟨_, hc 0 _ rfl, _, hc 1 _ rfl, _, hc 2 _ rfl, _, hc 3 _ rfl, _, hc 4 _ rfl, _, hc 5 _ rfl, _, _, _, hc 6 _ rfl, ?_⟩
        refine newE (e0 := En0) (e := x.e) fun w9 b9 c9 z9 => rdN (by simpa using b9) ?_
        refine yieldP_mono (hJy j x w9 hx (hJst j w7 w9 hJ c9)) fun v w10 hv => ?_
        rcases hv with ⟨rfl, hJ'⟩ | ⟨rfl, hK⟩
        · exact ⟨true, rfl, Sif_false ⟨S.length - (j + 1), by omega, j + 1, by rw [wrap_id (by omega) (by omega)]; rfl, by omega, rfl, hJ'⟩⟩
        · exact ⟨false, rfl, Sif_true hK⟩
      · have hje : j = S.length := by
          have : ¬ (j : Int) < (S.length : Int) := by simpa using hge
          omega
        subst hje
        exact hJend w7 hJ
    · refine .inr ⟨_, _, w5, hrun, _, _, hent, ?_⟩
      refine newB_blk fun w6 b6 c6 z6 => asE ?_
      refine stCells_seg _ b6 (by simp [En.cells]) x.e.cells_one fun w7 b7 c7 z7 => ?_
      rw [putSeg_all (by rfl)] at b7
      simp only [add_at, Nat.zero_add]
      refine rdN b7 ?_
      have hxH : x ∈ H := hpD.mem_iff.2 (List.mem_append_right _ (hpx.mem_iff.2 (by simp)))
      have hnm : w2.heap.size ∉ ow4.toList ++ eB S4 := fun hm => hne4 _ hm rfl
      have C5 := C4.next (c5.mono fun b _ h => ⟨by omega, h ▸ hnm⟩)
      have c57 : Ch (fun _ => False) w5 w7 := c6.trans c7 fun b hb h => by omega
      have C7 := C5.next0 c57
      have M7 := M.ch C7.ch fun _ _ => id
      refine own_ok (e := x.e) (M7.dat x (List.mem_append_right _ hxH)).rd (hEl x (List.mem_append_right _ hxH)) fun w8 y hy hyp hyn c8 => isE ?_
      have C8 := C7.next0 c8
      refine C8.push hy (fun b hb => ⟨by have := hyn b hb; have := C7.ch.size; omega, fun h => by have := hyn b hb; have := C7.lt b h; omega⟩) (by omega) fun p' c' ow' w9 C9 n9 c9 => ?_
      have hl1 := hpx.length_eq
      rw [List.length_cons] at hl1
      refine ⟨Hl'.length, by omega, Hl', D ++ [x], left', ow', S4 ++ [y], rfl, ?_, hlp', (((it5.ch c57 id id).ch c8 id id).ch c9 (fun e => hne4 _ (by simp [e, Option.mem_toList]) rfl) fun e => ?_), ?_, C9, fun b hb => ?_⟩
      · rw [List.append_assoc]; exact hpD.trans (hpx.append_left D)
      · have := C8.new r (by simp [e, Option.mem_toList]); omega
      · rw [List.map_append, hS4, ← List.append_assoc, List.map_append (l₂ := [x]), List.map_singleton, List.map_singleton, hyp]; rfl
      · rcases List.mem_append.1 hb with q | q
        · have q : ow' = some b := by simpa [Option.mem_toList] using q
          rcases n9 b q with q | q
          · exact hne4 b (by simp [q, Option.mem_toList])
          · have := c8.size; have := c57.size; omega
        · rw [eB_app] at q
          rcases List.mem_append.1 q with q | q
          · exact hne4 b (List.mem_append_right _ q)
          · obtain ⟨z, hz, ho⟩ := mem_eB.1 q
            rw [List.mem_singleton.1 hz] at ho
            have := hyn b ho
            have := c57.size
            omega
end Go.Proofs.YtipbbjnmpnfhpaaDoor
