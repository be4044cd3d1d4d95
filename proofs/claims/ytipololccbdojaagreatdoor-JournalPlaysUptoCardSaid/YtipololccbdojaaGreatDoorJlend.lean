/-
  The law's lentAll, asLentAll: records in memory of their owner's.
-/
import Derived.Test.YtipololccbdojaaGreatDoorJview
import Derived.Test.YtipololccbdojaaGreatDoorBookC
import Derived.Test.YtipololccbdojaaGreatDoorJlawWp
import Derived.Test.YtipololccbdojaaGreatDoorJrscan
namespace Go.Proofs.YtipololccbdojaaGreatDoor
open Go Go.Sv
set_option linter.unusedVariables false
set_option maxRecDepth 4000

structure Lt where
  k : Nat
  l : List UInt8
def LtE : El Lt where
  g x := [.slice (some ⟨x.k, 0, none⟩) x.l.length (x.l.length + 9)]
  sz := 1
  B x := [x.k]
  Ok w x := blk w x.k = some (bytesV (x.l ++ marks9))
  glen _ := rfl
  gone x v hv := by simp at hv; subst hv; rfl
  ch {_ _ _ x} h c hn := by rw [c.blk (blk_lt h) (hn x.k (by simp))]; exact h
  lt {_ x} h b hb := by simp at hb; subst hb; exact blk_lt h
  nd {_ x} _ := by simp
structure Ll where
  s : SL
  r : List Lt
def LlE : El Ll where
  g x := x.s.cells
  sz := 1
  B x := LtE.rowB x.s.own x.r
  Ok w x := LtE.Row w x.s.p x.s.n x.s.c x.s.own x.r
  glen _ := rfl
  gone x := x.s.cells_one
  ch h c hn := h.ch c hn
  lt h := h.lt
  nd h := h.2.2.2
def Lt.view (x : Lt) : RV := ⟨some ⟨x.k, 0, none⟩, x.l.length, x.l.length + 9, x.l⟩
def Ll.view (x : Ll) : BV := ⟨x.s.p, x.s.n, x.s.c, x.r.map Lt.view⟩
theorem Lt.view_ok {w : World} {x : Lt} (h : LtE.Ok w x) : x.view.ok w (fun b => b = x.k) := by
  have h : blk w x.k = some (bytesV (x.l ++ marks9)) := h
  refine ⟨?_, by show x.l.length ≤ x.l.length + 9; omega, fun a ha _ => ?_⟩
  · have := Rd.of_blk (n := x.l.length) (sz := 1) h (by rw [lentLen]; omega)
    rw [Nat.mul_one, bytesV_append, List.take_append_of_le_length (by simp), List.take_of_length_le (by simp)] at this
    exact this
  · have ha : some (⟨x.k, 0, none⟩ : Addr) = some a := ha
    cases ha; rfl
theorem LtE.Row.view {w : World} {p : Option Addr} {n c : Nat} {own : Option Nat} {R : List Lt} (h : LtE.Row w p n c own R) : VR w (fun b => b ∈ LtE.rowB own R) p n (R.map Lt.view) := by
  obtain ⟨h1, h2, h3, h4⟩ := h
  refine ⟨by simpa using h1, ?_, fun x hx => ?_, (h2.inB (by decide)).mono fun b hb => El.mem_rowB.2 (.inl hb)⟩
  · have e : (R.map Lt.view).flatMap RV.cells = R.flatMap LtE.g := by rw [List.flatMap_map]; rfl
    rw [e]; exact h2.rd
  · obtain ⟨y, hy, rfl⟩ := List.mem_map.1 hx
    exact (Lt.view_ok (h3 y hy)).mono fun b hb => El.mem_rowB.2 (.inr ⟨y, hy, by show b ∈ [y.k]; simp [hb]⟩)
theorem LlE.Row.view {w : World} {p : Option Addr} {n c : Nat} {own : Option Nat} {L : List Ll} (h : LlE.Row w p n c own L) : VL w (fun b => b ∈ LlE.rowB own L) p n (L.map Ll.view) := by
  obtain ⟨h1, h2, h3, h4⟩ := h
  refine ⟨by simpa using h1, ?_, fun x hx => ?_, (h2.inB (by decide)).mono fun b hb => El.mem_rowB.2 (.inl hb)⟩
  · have e : (L.map Ll.view).flatMap BV.cells = L.flatMap LlE.g := by rw [List.flatMap_map]; rfl
    rw [e]; exact h2.rd
  · obtain ⟨y, hy, rfl⟩ := List.mem_map.1 hx
    have hy2 : LtE.Row w y.s.p y.s.n y.s.c y.s.own y.r := h3 y hy
    exact ⟨(LtE.Row.view hy2).mono fun b hb => El.mem_rowB.2 (.inr ⟨y, hy, hb⟩), hy2.2.1.2.1⟩
def Ll.says (x : Ll) : List (List UInt8) := x.r.map (·.l)
theorem ltv_says (R : List Lt) : saysR (R.map Lt.view) = R.map (·.l) := by
  unfold saysR; rw [List.map_map]; rfl
theorem llv_says (L : List Ll) : saysL (L.map Ll.view) = L.map Ll.says := by
  unfold saysL
  rw [List.map_map]
  exact List.map_congr_left fun x _ => ltv_says x.r
theorem rec_info : InfoIs Tryz.prog 23 1 24 (.slice none 0 0) := .of (by kernel_rfl) (by kernel_rfl) (by kernel_rfl)
theorem lentAll_ok {w : World} {B : Nat → Prop} {p : Option Addr} {n c : Nat} {X : List RV} {K : Value → World → Prop} (h : VR w B p n X) (hn : n ≤ 2 ^ 40) (hx : ∀ x ∈ X, x.n ≤ 2 ^ 40)
    (hk : ∀ w' q cq own R, LtE.Row w' q n cq own R → R.map (·.l) = saysR X → (∀ b ∈ LtE.rowB own R, w.heap.size ≤ b) → Ch (fun _ => False) w w' → K (.slice q n cq) w') :
    callP Tryz.prog 107 [.slice p n c] w K := by
  have hl := h.len
  refine ok_longshorelaw20_lentAll ?_
  unfold wp_longshorelaw20_lentAll
  refine ⟨fun m q t cq i w' => ∃ (own : Option Nat) (R : List Lt), i = (t : Int) ∧ t ≤ n ∧ m = n - t ∧ Ch (fun _ => False) w w' ∧ LtE.Row w' q t cq own R ∧ R.map (·.l) = saysR (X.take t) ∧ (∀ b ∈ LtE.rowB own R, w.heap.size ≤ b), ⟨n, none, [], rfl, by omega, rfl, Ch.refl _ _, El.Row.nil, by simp [saysR], by simp [El.rowB]⟩, ?_⟩
  rintro m q t cq i w1 ⟨own, R, rfl, ht, rfl, c1, hrow, hsay, hfr⟩
  have hz1 := c1.size
  refine Sif_cases (fun hlt => ?_) fun hge => ?_
  · have hlt' : (t : Int) < n := by simpa using hlt
    have hil : t < X.length := by omega
    have hv1 := h.ch0 c1
    obtain ⟨kk, o, rfl, hcell⟩ := hv1.at (List.getElem?_eq_getElem hil)
    have hxo := hv1.ok _ (List.getElem_mem hil)
    refine ⟨by omega, hlt', ?_⟩
    simp only [nn_some, add_at, Int.toNat_natCast, Nat.mul_one]
    refine ⟨_, _, _, hcell, ?_⟩
    have hxl : X[t].l.length = X[t].n := hxo.len
    refine lent_ok hxo.rd (hx _ (List.getElem_mem hil)) fun k w2 b2 hk2 c2 => ⟨_, _, _, rfl, ?_⟩
    have hz2 := c2.size
    have hkl := blk_lt b2
    rw [← hxl]
    refine El.Row.push (E := LtE) (bytes := 24) (x := ⟨k, X[t].l⟩) Tryz.underlying29 rec_info rfl (hrow.ch c2 fun _ _ => id) b2 (fun b hb hm => ?_) (by omega) (by omega) fun p' c' own' w' hr hb c3 => ?_
    · have hb : b = k := by simpa [LtE] using hb
      have := hrow.lt b hm
      omega
    · rw [wrap_id (by omega) (by omega), nameI_iff]
      refine ⟨n - (t + 1), by omega, own', _, by omega, by omega, rfl, (c1.trans' c2).trans c3 fun x hx e => by have := hfr x (El.mem_rowB.2 (.inl e)); omega, hr, ?_, fun b hm => ?_⟩
      · rw [List.take_succ_eq_append_getElem hil]
        simp only [saysR, List.map_append, List.map_cons, List.map_nil] at hsay ⊢
        rw [hsay]
      · rcases hb b hm with h | h | h
        · exact hfr b h
        · have h : b = k := by simpa [LtE] using h
          omega
        · omega
  · have hge' : ¬ (t : Int) < n := by simpa using hge
    obtain rfl : t = n := by omega
    rw [List.take_of_length_le (by omega)] at hsay
    exact hk w1 q cq own R hrow hsay hfr c1
theorem ltB_flat (R : List Lt) : R.flatMap LtE.B = R.map (·.k) := by
  induction R with
  | nil => rfl
  | cons y R ih => rw [List.flatMap_cons, ih]; rfl
theorem asLentAll_ok {w : World} {B : Nat → Prop} {q p : Option Addr} {t n cq c : Nat} {own : Option Nat} {R : List Lt} {X : List RV} {K : Value → World → Prop} (hrow : LtE.Row w q t cq own R) (h : VR w B p n X) (hs : R.map (·.l) = saysR X) (hd : ∀ b, B b → b ∉ LtE.rowB own R) (hn : n ≤ 2 ^ 40) (hx : ∀ x ∈ X, x.n ≤ 2 ^ 40)
    (hk : ∀ w', Ch (fun b => b ∈ LtE.rowB own R) w w' → K (.bool true) w') :
    callP Tryz.prog 109 [.slice q t cq, .slice p n c] w K := by
  have hl := h.len
  have hRl := hrow.1
  have hRX : R.length = X.length := by have := congrArg List.length hs; simpa [saysR] using this
  obtain ⟨h1, h2, h3, h4⟩ := hrow
  have htn : t = n := by omega
  subst htn
  refine ok_longshorelaw20_asLentAll ?_
  unfold wp_longshorelaw20_asLentAll
  refine Sif_cases (fun he => by simp at he) fun _ => ?_
  refine ⟨fun m i w' => ∃ (j : Nat) (cs : List Value), i = (j : Int) ∧ j ≤ t ∧ m = t - j ∧ Ch (fun b => b ∈ LtE.rowB own R) w w' ∧ Ow w' q t cq 1 cs own ∧ (∀ i, j ≤ i → cs[i]? = (R.flatMap LtE.g)[i]?) ∧ ∀ (i : Nat) (x : Lt), j ≤ i → R[i]? = some x → LtE.Ok w' x, ⟨t, 0, _, rfl, by omega, rfl, Ch.refl _ _, h2, fun _ _ => rfl, fun i x _ hx => h3 x (List.mem_of_getElem? hx)⟩, ?_⟩
  rintro m i w1 ⟨j, cs, rfl, hj, rfl, c1, o1, hcs, hok⟩
  refine Sif_cases (fun hlt => ?_) fun hge => ?_
  · have hlt' : (j : Int) < t := by simpa using hlt
    have hjR : j < R.length := by omega
    have hjX : j < X.length := by omega
    have hv1 : VR w1.drew B p t X := (h.ch c1 hd).ch0 (Ch.drew w1)
    obtain ⟨kk, o, rfl, hcell⟩ := hv1.at (List.getElem?_eq_getElem hjX)
    have hxo := hv1.ok _ (List.getElem_mem hjX)
    have o2 : Ow w1.drew q t cq 1 cs own := o1.ch (S := fun _ => False) (Ch.drew w1) fun _ _ => id
    obtain ⟨kq, oq, hq, hown, -⟩ := o2.st (i := j) (by omega)
    obtain ⟨kq', oq', hq', hcq⟩ := o2.rd.cell (i := j) (by omega)
    rw [hq] at hq'; cases hq'
    have hg : (R.flatMap LtE.g)[j]? = some (.slice (some ⟨R[j].k, 0, none⟩) R[j].l.length (R[j].l.length + 9)) := by
      have := flat_get LtE.glen R j 0 (by decide)
      rw [List.getElem?_eq_getElem hjR] at this
      simpa [LtE] using this
    have hl2 : R[j].l = X[j].l := by
      have e1 := congrArg (·[j]?) hs
      simp only [saysR, List.getElem?_map, List.getElem?_eq_getElem hjR, List.getElem?_eq_getElem hjX, Option.map_some] at e1
      exact Option.some.inj e1
    have hxl : X[j].l.length = X[j].n := hxo.len
    rw [hq]
    refine ⟨by omega, hlt', ?_⟩
    simp only [nn_some, add_at, Int.toNat_natCast, Nat.mul_one, Nat.add_zero]
    have hcell2 : w1.drew.cell? ⟨kq, oq + j, none⟩ = some (.slice (some ⟨R[j].k, 0, none⟩) R[j].l.length (R[j].l.length + 9)) := by rw [hcq, hcs j (Nat.le_refl _), hg]
    refine ⟨by omega, hlt', _, _, _, hcell2, _, _, _, hcell, ?_⟩
    have hbk : blk w1.drew R[j].k = some (bytesV (X[j].l ++ marks9)) := by
      have h5 : blk w1 R[j].k = some (bytesV (R[j].l ++ marks9)) := hok j R[j] (Nat.le_refl _) (List.getElem?_eq_getElem hjR)
      rw [← hl2, (Ch.drew (S := fun _ => False) w1).blk (blk_lt h5) id]
      exact h5
    rw [hl2, hxl]
    refine asLent_ok hbk hxo.rd (hx _ (List.getElem_mem hjX)) fun w2 c2 z2 => ⟨_, rfl, Sif_false ?_⟩
    obtain ⟨ndo, ndR, ndd⟩ := List.nodup_append.1 (show (own.toList ++ R.flatMap LtE.B).Nodup from h4)
    have hkm : R[j].k ∈ R.flatMap LtE.B := List.mem_flatMap.2 ⟨R[j], List.getElem_mem hjR, by simp [LtE]⟩
    have hko : ∀ b, own = some b → b ≠ R[j].k := fun b hb e => ndd b (by rw [hb]; simp) _ hkm e
    have o3 : Ow w2 q t cq 1 cs own := o2.ch c2 hko
    obtain ⟨kq2, oq2, hq2, hown2, hst⟩ := o3.st (i := j) (by omega)
    rw [hq] at hq2; cases hq2
    refine ⟨by omega, hlt', ?_⟩
    refine hst _ _ fun w3 o4 c4 z4 => ?_
    rw [wrap_id (by omega) (by omega), nameI_iff]
    have hkneq : ∀ (i : Nat) (x : Lt), j < i → R[i]? = some x → x.k ≠ R[j].k := fun i x hi hx e => by
      obtain ⟨hiR, rfl⟩ := List.getElem?_eq_some_iff.1 hx
      rw [ltB_flat] at ndR
      have := (List.getElem_inj (h₀ := by simpa using hiR) (h₁ := by simpa using hjR) ndR).1 (by simpa using e)
      omega
    refine ⟨t - (j + 1), by omega, j + 1, _, by omega, by omega, rfl, ?_, hq ▸ o4, fun i hi => ?_, fun i x hi hx => ?_⟩
    · have c12 : Ch (fun b => b ∈ LtE.rowB own R) w w2 := (c1.trans' (Ch.drew w1)).trans c2 fun x hx e => by
        rw [e]; exact List.mem_append.2 (.inr hkm)
      exact c12.trans c4 fun x hx e => El.mem_rowB.2 (.inl (by rw [e]; exact hown))
    · rw [List.getElem?_set_ne (by omega)]
      exact hcs i (by omega)
    · have h5 := hok i x (by omega) hx
      have h6 : LtE.Ok w2 x := LtE.ch (LtE.ch h5 (Ch.drew (S := fun _ => False) w1) fun _ _ => id) c2 fun b hb e => by
        have hb : b = x.k := by simpa [LtE] using hb
        exact hkneq i x (by omega) hx (hb ▸ e)
      refine LtE.ch h6 c4 fun b hb e => ?_
      have hb : b = x.k := by simpa [LtE] using hb
      have hxm : x.k ∈ R.flatMap LtE.B := List.mem_flatMap.2 ⟨x, List.mem_of_getElem? hx, by simp [LtE]⟩
      exact ndd kq (by rw [hown]; simp) _ hxm (by rw [← hb, e])
  · exact hk w1 c1
end Go.Proofs.YtipololccbdojaaGreatDoor
