/-
  The law's script, as it is read; the bound.
-/
import Derived.Test.YtipololccbdojaaGreatDoorJweigh
namespace Go.Proofs.YtipololccbdojaaGreatDoor
open Go Go.Sv
set_option linter.unusedVariables false
set_option maxRecDepth 4000

/-- an operation of the script -/
structure OV where
  k : Int
  A : Int
  B : Int
  l : BV
  m : LV
def OV.cells (o : OV) : List Value := [.int .i64 o.k, .int .i64 o.A, .int .i64 o.B, .slice o.l.p o.l.n o.l.c, .slice o.m.p o.m.n o.m.c]
theorem OV.cells_len (o : OV) : o.cells.length = 5 := rfl
structure OV.ok (w : World) (o : OV) : Prop where
  a : o.A ≤ 9223372036854775807
  a0 : -9223372036854775808 ≤ o.A
  b0 : -9223372036854775808 ≤ o.B
  l : o.l.ok w (Old w)
  ls : BV.small o.l
  m : o.m.ok w
structure ScV (w : World) (p : Option Addr) (n : Nat) (X : List OV) : Prop where
  len : X.length = n
  row : Rd w p n 5 (X.flatMap OV.cells)
  n : n ≤ 2 ^ 20
  ok : ∀ o ∈ X, o.ok w
theorem ScV.at {W w : World} {p : Option Addr} {n : Nat} {X : List OV} (h : ScV W p n X) (c : Ch (fun _ => False) W w) {i : Nat} {x : OV} (hi : X[i]? = some x) : ∃ k o, p = some ⟨k, o, none⟩ ∧ ∀ j v, x.cells[j]? = some v → w.cell? ⟨k, o + i * 5 + j, none⟩ = some v :=
  (h.row.ch c fun _ _ _ => id).at OV.cells_len hi (by decide)
theorem beyond_ok {w : World} {p : Option Addr} {n c : Nat} {X : List OV} {K : Value → World → Prop} (h : ScV w p n X)
    (hk : ∀ b, (b = false → ∀ o ∈ X, (wtR o.l.says : Int) ≤ most ∧ (wtL (saysL o.m.Y) : Int) ≤ most) → K (.bool b) w) : callP Tryz.prog 25 [.slice p n c] w K := by
  have hl := h.len
  have hn := h.n
  refine ok_longshorelaw20_beyond ?_
  unfold wp_longshorelaw20_beyond
  refine ⟨fun m t i w' => ∃ j : Nat, i = (j : Int) ∧ j ≤ n ∧ m = n - j ∧ w' = w ∧ 0 ≤ t ∧ t ≤ 2 ^ 41 ∧ (t ≤ most → ∀ o ∈ X.take j, (wtR o.l.says : Int) ≤ most ∧ (wtL (saysL o.m.Y) : Int) ≤ most), ⟨n, 0, rfl, by omega, rfl, rfl, by omega, by omega, fun _ => by simp⟩, ?_⟩
  rintro m t i w1 ⟨j, rfl, hj, rfl, rfl, ht0, ht1, ht⟩
  refine ⟨fun w2 => w2 = w1 ∧ j < n ∧ t ≤ most, ?_, Sif_cases (fun hlt => Sif_cases (fun hm => ?_) fun hm => ?_) fun hge => ?_⟩
  · rintro w2 ⟨rfl, hjn, hm⟩
    have hjl : j < X.length := by omega
    have hi := List.getElem?_eq_getElem hjl
    obtain ⟨k, o, rfl, hcell⟩ := h.at (Ch.refl _ _) hi
    have ho := h.ok _ (List.getElem_mem hjl)
    have hm' : t ≤ 2147483647 := hm
    refine ⟨by omega, by omega, ?_⟩
    simp only [nn_some, add_at, Int.toNat_natCast]
    refine ⟨_, _, _, hcell 3 _ rfl, ?_⟩
    rw [wrap_id (n := t + 13) (by omega) (by omega)]
    refine weigh_ok ho.l.rd (by have := ho.ls.1; omega) (fun z hz => by have := ho.ls.2 z hz; omega) (by omega) (by omega) fun v v0 v1 v2 => ⟨_, rfl, by omega, by omega, ?_⟩
    refine ⟨_, _, _, hcell 4 _ rfl, ?_⟩
    refine weighAll_ok ho.m.rd (by have := ho.m.n; omega) (fun y hy => ⟨by have := (ho.m.small y hy).1; omega, fun z hz => by have := (ho.m.small y hy).2 z hz; omega⟩) (by omega) (by omega) fun u u0 u1 u2 => ⟨_, rfl, ?_⟩
    rw [wrap_id (by omega) (by omega), nameI_iff]
    refine ⟨n - (j + 1), by omega, j + 1, by omega, by omega, rfl, by trivial, by omega, u1, fun hu => ?_⟩
    have hu' : u ≤ 2147483647 := hu
    have e1 := u2 hu
    have e2 := v2 (by show v ≤ 2147483647; omega)
    intro z hz
    rw [List.take_succ_eq_append_getElem hjl] at hz
    rcases List.mem_append.1 hz with hz | hz
    · exact ht hm z hz
    · rw [List.mem_singleton.1 hz]
      have e3 : wtR (saysR X[j].l.X) = wtR X[j].l.says := rfl
      constructor
      · show _ ≤ (2147483647 : Int); omega
      · show _ ≤ (2147483647 : Int); omega
  · have hlt' : (j : Int) < n := by simpa using hlt
    have hm' : t ≤ 2147483647 := by simpa using hm
    exact ⟨rfl, by omega, hm'⟩
  · have hm' : ¬ t ≤ 2147483647 := by simpa using hm
    refine hk _ fun hb => absurd ?_ hm'
    have : ¬ t > 2147483647 := by simpa using hb
    omega
  · have : ¬ (j : Int) < n := by simpa using hge
    rw [List.take_of_length_le (by omega)] at ht
    refine hk _ fun hb => ht ?_
    have : ¬ t > 2147483647 := by simpa using hb
    show t ≤ 2147483647
    omega
end Go.Proofs.YtipololccbdojaaGreatDoor
