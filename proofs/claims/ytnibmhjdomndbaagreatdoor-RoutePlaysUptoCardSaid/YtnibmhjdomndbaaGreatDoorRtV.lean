/-
  The program's Bindings, Drop, Unbind.
-/
import Derived.Test.YtnibmhjdomndbaaGreatDoorRtS
import Derived.Test.YtnibmhjdomndbaaGreatDoorSvSort
import Derived.Test.YtnibmhjdomndbaaGreatDoorShelf3
namespace Go.Proofs.YtnibmhjdomndbaaGreatDoor
open Go Go.Sv Go.Rt Go.Sort
set_option linter.unusedVariables false
abbrev Bd : Type := ByteArray × ByteArray
def bCells (x : Bd) : List Value := [.string x.1, .string x.2]
theorem bCells_len (x : Bd) : (bCells x).length = 2 := rfl
theorem bCells_one (x : Bd) : ∀ v ∈ bCells x, oneV v = true := by
  intro v hv; simp [bCells] at hv; rcases hv with rfl | rfl <;> rfl
theorem bind_info : InfoIs Tryz.prog 48 2 32 (.agg #[.string ⟨#[]⟩, .string ⟨#[]⟩]) := .of (by kernel_rfl) (by kernel_rfl) (by kernel_rfl)
/-! ### How they are compared -/
theorem cmpB_lt : ∀ (a b : List UInt8), (Lib.compareBytes a b < 0 ↔ a < b) ∧ (Lib.compareBytes a b = 0 ↔ a = b)
  | [], [] => by simp [Lib.compareBytes]
  | [], _ :: _ => by simp [Lib.compareBytes]
  | _ :: _, [] => by simp [Lib.compareBytes]
  | a :: r, b :: s => by
    unfold Lib.compareBytes
    obtain ⟨h1, h2⟩ := cmpB_lt r s
    by_cases hab : a < b
    · rw [if_pos hab]
      have hne : a ≠ b := fun e => by rw [e] at hab; exact absurd hab (UInt8.lt_irrefl _)
      simp [List.cons_lt_cons_iff, hab, hne]
    · rw [if_neg hab]
      by_cases hba : b < a
      · rw [if_pos hba]
        have hne : a ≠ b := fun e => by rw [e] at hba; exact absurd hba (UInt8.lt_irrefl _)
        simp [List.cons_lt_cons_iff, hab, hne]
      · rw [if_neg hba]
        have he : a = b := by
          rcases Std.lt_trichotomy a b with h | h | h
          · exact absurd h hab
          · exact h
          · exact absurd h hba
        subst he
        simp [List.cons_lt_cons_iff, UInt8.lt_irrefl, h1, h2]
def cfB (x y : Bd) : Int := if Lib.compareBytes (dl x.1) (dl y.1) ≠ 0 then Lib.compareBytes (dl x.1) (dl y.1) else Lib.compareBytes (dl x.2) (dl y.2)
def ltB (x y : Bd) : Prop := dl x.1 < dl y.1 ∨ (x.1 = y.1 ∧ dl x.2 < dl y.2)
theorem ltB_irr (x : Bd) : ¬ ltB x x := by
  rintro (h | ⟨_, h⟩) <;> exact List.lt_irrefl _ h
theorem ltB_trans {x y z : Bd} (h : ltB x y) (k : ltB y z) : ltB x z := by
  rcases h with h | ⟨e, h⟩ <;> rcases k with k | ⟨e', k⟩
  · exact .inl (List.lt_trans h k)
  · exact .inl (e' ▸ h)
  · exact .inl (e ▸ k)
  · exact .inr ⟨e.trans e', List.lt_trans h k⟩
theorem ltB_tri (x y : Bd) : ltB x y ∨ x = y ∨ ltB y x := by
  rcases Std.lt_trichotomy (dl x.1) (dl y.1) with h | h | h
  · exact .inl (.inl h)
  · have h := dl_inj h
    rcases Std.lt_trichotomy (dl x.2) (dl y.2) with k | k | k
    · exact .inl (.inr ⟨h, k⟩)
    · exact .inr (.inl (Prod.ext h (dl_inj k)))
    · exact .inr (.inr (.inr ⟨h.symm, k⟩))
  · exact .inr (.inr (.inl h))
theorem lt_cfB (x y : Bd) : ltOf cfB x y = true ↔ ltB x y := by
  unfold ltOf cfB ltB
  rw [decide_eq_true_eq]
  obtain ⟨h1, h2⟩ := cmpB_lt (dl x.1) (dl y.1)
  by_cases h : Lib.compareBytes (dl x.1) (dl y.1) = 0
  · rw [if_neg (by simp [h]), (cmpB_lt _ _).1]
    have e := h2.1 h
    constructor
    · exact fun k => .inr ⟨dl_inj e, k⟩
    · rintro (k | ⟨_, k⟩)
      · rw [e] at k; exact absurd k (List.lt_irrefl _)
      · exact k
  · rw [if_pos h, h1]
    constructor
    · exact .inl
    · rintro (k | ⟨e, _⟩)
      · exact k
      · exact absurd (h2.2 (by rw [e])) h
theorem swoB : SWO (ltOf cfB) where
  irrefl x := by
    cases h : ltOf cfB x x
    · rfl
    · exact absurd ((lt_cfB _ _).1 h) (ltB_irr x)
  trans x y z h k := (lt_cfB _ _).2 (ltB_trans ((lt_cfB _ _).1 h) ((lt_cfB _ _).1 k))
  ntrans x y z h k := by
    cases e : ltOf cfB x z
    · rfl
    · exfalso
      have e := (lt_cfB _ _).1 e
      have h' : ¬ ltB x y := fun g => by rw [(lt_cfB _ _).2 g] at h; cases h
      have k' : ¬ ltB y z := fun g => by rw [(lt_cfB _ _).2 g] at k; cases k
      rcases ltB_tri x y with g | g | g
      · exact h' g
      · subst g; exact k' e
      · exact k' (ltB_trans g e)
theorem totB (x y : Bd) (h : ltOf cfB x y = false) (k : ltOf cfB y x = false) : x = y := by
  rcases ltB_tri x y with g | g | g
  · rw [(lt_cfB _ _).2 g] at h; cases h
  · exact g
  · rw [(lt_cfB _ _).2 g] at k; cases k
/-- rising, each once -/
def AscB (L : List Bd) : Prop := L.Pairwise ltB
theorem AscB.eq {L M : List Bd} (hL : AscB L) (hM : AscB M) (h : ∀ x, x ∈ L ↔ x ∈ M) : L = M := by
  induction L generalizing M with
  | nil =>
    cases M with
    | nil => rfl
    | cons y M => exact absurd ((h y).2 (by simp)) (by simp)
  | cons x L ih =>
    cases M with
    | nil => exact absurd ((h x).1 (by simp)) (by simp)
    | cons y M =>
      obtain ⟨hx, hL'⟩ := List.pairwise_cons.1 hL
      obtain ⟨hy, hM'⟩ := List.pairwise_cons.1 hM
      have e : x = y := by
        rcases List.mem_cons.1 ((h x).1 (by simp)) with e | e
        · exact e
        · rcases List.mem_cons.1 ((h y).2 (by simp)) with e2 | e2
          · exact e2.symm
          · exact absurd (ltB_trans (hy x e) (hx y e2)) (ltB_irr _)
      subst e
      congr 1
      refine ih hL' hM' fun z => ?_
      constructor
      · intro hz
        rcases List.mem_cons.1 ((h z).1 (by simp [hz])) with e | e
        · rw [e] at hz; exact absurd (hx x hz) (ltB_irr _)
        · exact e
      · intro hz
        rcases List.mem_cons.1 ((h z).2 (by simp [hz])) with e | e
        · rw [e] at hz; exact absurd (hy x hz) (ltB_irr _)
        · exact e
theorem srtB_asc {L : List Bd} (hn : L.Nodup) : AscB (srtBy cfB L) := by
  have h1 := srtBy_sorted cfB swoB L
  have h2 : (srtBy cfB L).Nodup := (srtBy_perm cfB L).nodup_iff.2 hn
  refine (h1.and h2).imp fun {x y} ⟨h, hne⟩ => ?_
  rcases ltB_tri x y with g | g | g
  · exact g
  · exact absurd g hne
  · rw [(lt_cfB _ _).2 g] at h; cases h
theorem compare_ok {a b : ByteArray} {w : World} {K : Value → World → Prop} (hk : K (.int .i64 (Lib.compareBytes (dl a) (dl b))) w) : callP Tryz.prog 27 [.string a, .string b] w K :=
  Calls.mono (Tryz.strings_Compare a b w) fun e w' ⟨he, hw⟩ => ⟨_, he, hw ▸ hk⟩
theorem or2_ok {a b : Int} {k : Nat} {w : World} {K : Value → World → Prop} (hb : blk w k = some [.int .i64 a, .int .i64 b]) (hk : K (.int .i64 (if a ≠ 0 then a else b)) w) : callP Tryz.prog 26 [.slice (some ⟨k, 0, none⟩) 2 2] w K := by
  refine ok_cmp_Or ?_
  unfold wp_cmp_Or
  have h0 : w.cell? ⟨k, 0, none⟩ = some (.int .i64 a) := by simpa using cell_blk hb 0
  have h1 : w.cell? ⟨k, 1, none⟩ = some (.int .i64 b) := by simpa using cell_blk hb 1
  refine ⟨fun m n w1 => ∃ i : Nat, n = (i : Int) ∧ m + i = 2 ∧ w1 = w ∧ (0 < i → a = 0) ∧ (1 < i → b = 0), ⟨2, 0, rfl, rfl, rfl, by omega, by omega⟩, ?_⟩
  rintro m n w1 ⟨i, rfl, hm, rfl, ha, hb⟩
  refine Sif_cases (fun h => ⟨by omega, of_decide_eq_true h, ?_⟩) fun h => ?_
  · have h := of_decide_eq_true h
    rw [nn_some]
    simp only [add_at, Int.toNat_natCast, Nat.mul_one, Nat.zero_add]
    have hi : i = 0 ∨ i = 1 := by omega
    rcases hi with rfl | rfl
    · refine ⟨a, h0, Sif_cases (fun g => ?_) fun g => ?_⟩
      · rw [if_pos (by simpa using g)] at hk; exact hk
      · exact ⟨1, by omega, 1, by rw [wrap_id (by omega) (by omega)]; rfl, by trivial, by trivial, fun _ => by simpa using g, by omega⟩
    · refine ⟨b, h1, Sif_cases (fun g => ?_) fun g => ?_⟩
      · rw [if_neg (by simp [ha])] at hk; exact hk
      · exact ⟨0, by omega, 2, by rw [wrap_id (by omega) (by omega)]; rfl, by trivial, by trivial, fun _ => ha (by omega), fun _ => by simpa using g⟩
  · have h := of_decide_eq_false h
    have e1 := ha (by omega)
    have e2 := hb (by omega)
    rw [e1, e2] at hk
    exact hk
theorem cmpB_ok (x y : Bd) (W : World) : Calls Tryz.prog 25 #[.agg (bCells x).toArray, .agg (bCells y).toArray] W fun e w' => e = .returned (.int .i64 (cfB x y)) ∧ Qt W w' := by
  have : callP Tryz.prog 25 [.agg #[.string x.1, .string x.2], .agg #[.string y.1, .string y.2]] W fun v w' => v = .int .i64 (cfB x y) ∧ Qt W w' := by
    refine ok_route_Router_Bindings_1 ?_
    unfold wp_route_Router_Bindings_1
    refine newB_qt fun w1 b1 q1 z1 => newB_qt fun w2 b2 q2 z2 => ?_
    have d2 := Qt.drew w2
    have f1 : ∀ w', Qt w2 w' → blk w' W.heap.size = some [.string x.1, .string x.2] := fun w' q => by
      have c := q2.trans q
      rw [c.ch.blk (blk_lt b1) id]; exact b1
    have f2 : ∀ w', Qt w2 w' → blk w' w1.heap.size = some [.string y.1, .string y.2] := fun w' q => by
      rw [q.ch.blk (blk_lt b2) id]; exact b2
    simp only [add_at, Nat.add_zero, Nat.zero_add]
    refine ⟨x.1, by simpa using cell_blk (f1 _ d2) 0, y.1, by simpa using cell_blk (f2 _ d2) 0, x.2, by simpa using cell_blk (f1 _ d2) 1, y.2, by simpa using cell_blk (f2 _ d2) 1, compare_ok ⟨_, rfl, ⟨y.2, by simpa using cell_blk (f2 _ d2) 1, rfl⟩, ⟨x.2, by simpa using cell_blk (f1 _ d2) 1, rfl⟩, compare_ok ⟨_, rfl, newB_qt fun w3 b3 q3 z3 => ?_⟩⟩⟩
    exact or2_ok b3 ⟨_, rfl, rfl, q1.trans (q2.trans (d2.trans q3))⟩
  exact Calls.mono this fun e w' ⟨v, he, hv, hq⟩ => ⟨by rw [he, hv], hq⟩
theorem sortB_ok {w : World} {p : Option Addr} {c : Nat} {b : Option Nat} {L : List Bd} (ho : Ow w p L.length c 2 (L.flatMap bCells) b) (hL : L.length ≤ 2 ^ 40) {K : Value → World → Prop}
    (hK : ∀ w', Ow w' p L.length c 2 ((srtBy cfB L).flatMap bCells) b → Ch (fun j => b = some j) w w' → K (.tuple #[]) w') : callP Tryz.prog 24 [.slice p L.length c, .func (.func 25) #[] #[]] w K :=
  haveI : Inhabited Bd := ⟨(⟨#[]⟩, ⟨#[]⟩)⟩
  sortK_ok Tryz.laysSortB (k := 2) Tryz.isAgg48 Tryz.sizeOf48 bCells_len bCells_one swoB totB (fun args w => okCall_enter (by kernel_rfl) args w) cmpB_ok ho (by decide) hL hK
/-- a row of bindings of one's own -/
structure Nb (w w' : World) (p : Option Addr) (c : Nat) (b : Option Nat) (L : List Bd) : Prop where
  ow : Ow w' p L.length c 2 (L.flatMap bCells) b
  new : ∀ k, b = some k → w.heap.size ≤ k
  ch : Ch (fun _ => False) w w'
theorem Nb.nil (w : World) : Nb w w none 0 none [] := ⟨Ow.nil, (fun k h => by cases h), Ch.refl _ _⟩
theorem Nb.push {w w' : World} {p : Option Addr} {c : Nat} {b : Option Nat} {L : List Bd} (h : Nb w w' p c b L) (x : Bd) (h1 : L.length + 1 ≤ 2 ^ 41) {K : Option Addr → Nat → Nat → World → Prop}
    (hk : ∀ p' c' b' w2, Nb w w2 p' c' b' (L ++ [x]) → Ch (fun k => b = some k) w' w2 → (∀ k, b' = some k → b = some k ∨ w'.heap.size ≤ k) → K p' (L ++ [x]).length c' w2) :
    newB w' [.string x.1, .string x.2] 48 fun a w2 => ∃ p5 n7 c5 w3, Sem.run Tryz.prog (Builtin.append_ #[27, 27] 27 #[.slice p L.length c, .slice (some a) 1 1]) w2 = .ok (.slice p5 n7 c5) w3 ∧ K p5 n7 c5 w3 :=
  push_ok (sz := 2) (g := bCells) Tryz.underlying27 bind_info (by rfl) bCells_len bCells_one h.ow x (by omega) (by omega) fun p' c' b' w2 o2 n2 c2 =>
    hk p' c' b' w2 ⟨o2, (fun k hk => by rcases n2 k hk with h3 | h3; exact h.new k h3; exact Nat.le_trans h.ch.size h3), h.ch.trans c2 fun x hx h3 => absurd hx (Nat.not_lt.2 (h.new x h3))⟩ c2 n2
end Go.Proofs.YtnibmhjdomndbaaGreatDoor
