/-
  The law's weigh, weighAll, with, without.
-/
import Derived.Test.YtipololccbdojaaGreatDoorJlive
namespace Go.Proofs.YtipololccbdojaaGreatDoor
open Go Go.Sv
set_option linter.unusedVariables false
set_option maxRecDepth 4000

abbrev most : Int := 2147483647
def wtR (R : Batch) : Nat := (R.map fun r => 5 + r.length).sum
def wtL (L : List Batch) : Nat := (L.map fun R => 13 + wtR R).sum
theorem wtR_body (R : Batch) : (body R).length + R.length = wtR R := by
  induction R with
  | nil => rfl
  | cons r R ih =>
    have e : wtR (r :: R) = (5 + r.length) + wtR R := by simp [wtR]
    rw [body_cons, e, ← ih]
    simp only [List.length_append, be_length, List.length_cons]
    omega
theorem batchB_le (R : Batch) : (batchB R).length ≤ 12 + wtR R := by
  by_cases h : R = []
  · subst h; simp [batchB]
  · have := batchB_length h
    have := wtR_body R
    omega
theorem allB_wt (L : List Batch) : (allB L).length + L.length ≤ wtL L := by
  induction L with
  | nil => simp [allB, wtL]
  | cons R L ih =>
    have e : wtL (R :: L) = (13 + wtR R) + wtL L := by simp [wtL]
    have := batchB_le R
    rw [allB_cons, e, List.length_append, List.length_cons]
    omega
theorem wtR_succ {X : List RV} {i : Nat} {x : RV} (h : X[i]? = some x) : wtR (saysR (X.take (i + 1))) = wtR (saysR (X.take i)) + (5 + x.l.length) := by
  obtain ⟨hlt, he⟩ := List.getElem?_eq_some_iff.1 h
  rw [List.take_succ_eq_append_getElem hlt, he]
  simp only [saysR, wtR, List.map_append, List.map_cons, List.map_nil, List.sum_append, List.sum_cons, List.sum_nil]
  omega
theorem weigh_ok {w : World} {B : Nat → Prop} {p : Option Addr} {n c : Nat} {X : List RV} {n0 : Int} {K : Value → World → Prop} (h : VR w B p n X) (hn : n ≤ 2 ^ 40) (hx : ∀ x ∈ X, x.n ≤ 2 ^ 30) (h0 : 0 ≤ n0) (h1 : n0 ≤ 2 ^ 41)
    (hk : ∀ v : Int, n0 ≤ v → v ≤ 2 ^ 41 → (v ≤ most → v = n0 + wtR (saysR X)) → K (.int .i64 v) w) : callP Tryz.prog 23 [.int .i64 n0, .slice p n c] w K := by
  have hl := h.len
  refine ok_longshorelaw20_weigh ?_
  unfold wp_longshorelaw20_weigh
  refine ⟨fun m t i w' => ∃ j : Nat, i = (j : Int) ∧ j ≤ n ∧ m = n - j ∧ w' = w ∧ t = n0 + wtR (saysR (X.take j)) ∧ t ≤ 2 ^ 41, ⟨n, 0, rfl, by omega, rfl, rfl, by simp [saysR, wtR], by omega⟩, ?_⟩
  rintro m t i w1 ⟨j, rfl, hj, rfl, rfl, rfl, ht⟩
  refine ⟨fun w2 => w2 = w1 ∧ j < n ∧ n0 + wtR (saysR (X.take j)) ≤ most, ?_, Sif_cases (fun hlt => Sif_cases (fun hm => ?_) fun hm => ?_) fun hge => ?_⟩
  · rintro w2 ⟨rfl, hjn, hm⟩
    have hjl : j < X.length := by omega
    have hi := List.getElem?_eq_getElem hjl
    obtain ⟨k, o, rfl, hcell⟩ := h.at hi
    have hxl := (h.ok _ (List.getElem_mem hjl)).len
    have hxn := hx _ (List.getElem_mem hjl)
    have hsucc := wtR_succ hi
    refine ⟨by omega, by omega, ?_⟩
    simp only [nn_some, add_at, Int.toNat_natCast, Nat.mul_one]
    refine ⟨_, _, _, hcell, ?_⟩
    have hm' : n0 + (wtR (saysR (X.take j)) : Int) ≤ 2147483647 := hm
    rw [wrap_id (n := _ + 5) (by omega) (by omega), wrap_id (n := _ + (X[j].n : Int)) (by omega) (by omega), nameI_iff, wrap_id (by omega) (by omega), nameI_iff]
    exact ⟨n - (j + 1), by omega, j + 1, by omega, by omega, rfl, by trivial, by omega, by omega⟩
  · have hlt' : (j : Int) < n := by simpa using hlt
    have hm' : n0 + (wtR (saysR (X.take j)) : Int) ≤ 2147483647 := by simpa using hm
    exact ⟨rfl, by omega, hm'⟩
  · have hm' : ¬ n0 + (wtR (saysR (X.take j)) : Int) ≤ 2147483647 := by simpa using hm
    exact hk _ (by omega) ht fun h => absurd h hm'
  · have : ¬ (j : Int) < n := by simpa using hge
    rw [List.take_of_length_le (by omega)] at ht ⊢
    exact hk _ (by omega) ht fun _ => rfl
theorem wtL_succ {Y : List BV} {i : Nat} {y : BV} (h : Y[i]? = some y) : wtL (saysL (Y.take (i + 1))) = wtL (saysL (Y.take i)) + (13 + wtR y.says) := by
  obtain ⟨hlt, he⟩ := List.getElem?_eq_some_iff.1 h
  rw [List.take_succ_eq_append_getElem hlt, he]
  simp only [saysL, wtL, List.map_append, List.map_cons, List.map_nil, List.sum_append, List.sum_cons, List.sum_nil]
  omega
theorem weighAll_ok {w : World} {B : Nat → Prop} {p : Option Addr} {n c : Nat} {Y : List BV} {n0 : Int} {K : Value → World → Prop} (h : VL w B p n Y) (hn : n ≤ 2 ^ 40) (hy : ∀ y ∈ Y, y.n ≤ 2 ^ 40 ∧ ∀ x ∈ y.X, x.n ≤ 2 ^ 30) (h0 : 0 ≤ n0) (h1 : n0 ≤ 2 ^ 41)
    (hk : ∀ v : Int, n0 ≤ v → v ≤ 2 ^ 41 → (v ≤ most → v = n0 + wtL (saysL Y)) → K (.int .i64 v) w) : callP Tryz.prog 16 [.int .i64 n0, .slice p n c] w K := by
  have hl := h.len
  refine ok_longshorelaw20_weighAll ?_
  unfold wp_longshorelaw20_weighAll
  refine ⟨fun m t i w' => ∃ j : Nat, i = (j : Int) ∧ j ≤ n ∧ m = n - j ∧ w' = w ∧ n0 ≤ t ∧ t ≤ 2 ^ 41 ∧ (t ≤ most → t = n0 + wtL (saysL (Y.take j))), ⟨n, 0, rfl, by omega, rfl, rfl, by omega, h1, fun _ => by simp [saysL, wtL]⟩, ?_⟩
  rintro m t i w1 ⟨j, rfl, hj, rfl, rfl, ht0, ht1, ht⟩
  refine ⟨fun w2 => w2 = w1 ∧ j < n ∧ t ≤ most, ?_, Sif_cases (fun hlt => Sif_cases (fun hm => ?_) fun hm => ?_) fun hge => ?_⟩
  · rintro w2 ⟨rfl, hjn, hm⟩
    have hjl : j < Y.length := by omega
    have hi := List.getElem?_eq_getElem hjl
    obtain ⟨k, o, rfl, hcell⟩ := h.at hi
    have hyo := h.ok _ (List.getElem_mem hjl)
    obtain ⟨hyn, hyx⟩ := hy _ (List.getElem_mem hjl)
    have hsucc := wtL_succ hi
    have hm' : t ≤ 2147483647 := hm
    refine ⟨by omega, by omega, ?_⟩
    simp only [nn_some, add_at, Int.toNat_natCast, Nat.mul_one]
    refine ⟨_, _, _, hcell, ?_⟩
    rw [wrap_id (n := t + 13) (by omega) (by omega)]
    refine weigh_ok hyo.rd hyn hyx (by omega) (by omega) fun v v0 v1 v2 => ⟨_, rfl, ?_⟩
    rw [wrap_id (by omega) (by omega), nameI_iff]
    refine ⟨n - (j + 1), by omega, j + 1, by omega, by omega, rfl, by trivial, by omega, v1, fun hv => ?_⟩
    have e1 := ht hm
    have e2 := v2 hv
    have e3 : wtR (saysR Y[j].X) = wtR Y[j].says := rfl
    omega
  · have hlt' : (j : Int) < n := by simpa using hlt
    have hm' : t ≤ 2147483647 := by simpa using hm
    exact ⟨rfl, by omega, hm'⟩
  · have hm' : ¬ t ≤ 2147483647 := by simpa using hm
    exact hk _ ht0 ht1 fun h => absurd h hm'
  · have : ¬ (j : Int) < n := by simpa using hge
    rw [List.take_of_length_le (by omega)] at ht
    exact hk _ ht0 ht1 ht
/-- a list of batches that is built out of others' -/
structure Made (w : World) (B : Nat → Prop) (q : Option Addr) (t cq : Nat) (own : Option Nat) (Y : List BV) : Prop where
  len : Y.length = t
  row : Ow w q t cq 1 (Y.flatMap BV.cells) own
  ok : ∀ y ∈ Y, y.ok w B
theorem Made.nil {w : World} {B : Nat → Prop} : Made w B none 0 0 none [] := ⟨rfl, Ow.nil, by simp⟩
theorem Made.vl {w : World} {B : Nat → Prop} {q : Option Addr} {t cq : Nat} {own : Option Nat} {Y : List BV} (h : Made w B q t cq own Y) : VL w (fun b => B b ∨ own = some b) q t Y :=
  ⟨h.len, h.row.rd, fun y hy => (h.ok y hy).mono fun _ => .inl, (h.row.inB (by decide)).mono fun _ => .inr⟩
theorem Made.push {te ty : TypeId} {w : World} {B : Nat → Prop} {q : Option Addr} {t cq : Nat} {own : Option Nat} {Y : List BV} (h : Made w B q t cq own Y) {y : BV} (hy : y.ok w B) (hB : ∀ b, B b → own ≠ some b) (ht : t ≤ 2 ^ 40)
    {K : Option Addr → Nat → Nat → World → Prop} (hk : ∀ p' c' own2 w', Made w' B p' (t + 1) c' own2 (Y ++ [y]) → (∀ b, own2 = some b → own = some b ∨ w.heap.size ≤ b) → Ch (fun b => own = some b) w w' → K p' (t + 1) c' w') :
    newB w [.slice y.p y.n y.c] te fun a w2 => ∃ p5 n7 c5 w3, Sem.run Tryz.prog (Builtin.append_ #[24, 24] ty #[.slice q t cq, .slice (some a) 1 1]) w2 = .ok (.slice p5 n7 c5) w3 ∧ K p5 n7 c5 w3 := by
  obtain ⟨r1, r2, r3⟩ := h
  subst r1
  refine push_ok (g := BV.cells) (sz := 1) (bytes := 24) Tryz.underlying24 log_info rfl BV.cells_len BV.cells_one r2 y (by omega) (by omega) fun p' c' b' w' o' n' c1 => ?_
  have el : (Y ++ [y]).length = Y.length + 1 := by simp
  rw [el] at o' ⊢
  refine hk p' c' b' w' ⟨el, o', fun z hz => ?_⟩ n' c1
  rcases List.mem_append.1 hz with hz | hz
  · exact (r3 z hz).ch c1 fun b hb e => hB b hb e
  · rw [List.mem_singleton.1 hz]
    exact hy.ch c1 fun b hb e => hB b hb e
def nonV (Y : List BV) : List BV := Y.filter fun y => decide (0 < y.n)
theorem nonV_says {w : World} {B : Nat → Prop} {Y : List BV} (h : ∀ y ∈ Y, y.ok w B) : saysL (nonV Y) = nonE (saysL Y) := by
  unfold nonV nonE saysL
  induction Y with
  | nil => rfl
  | cons y Y ih =>
    have hy := (h y (by simp)).rd.len
    have e : (!(BV.says y).isEmpty) = decide (0 < y.n) := by
      unfold BV.says saysR
      cases hX : y.X with
      | nil => rw [hX] at hy; simp at hy; simp [← hy]
      | cons x X => rw [hX] at hy; simp at hy; simp [← hy]
    have ih := ih fun z hz => h z (by simp [hz])
    rw [List.filter_cons, List.map_cons, List.filter_cons, e]
    cases decide (0 < y.n) <;> simp [ih]
theorem nonV_succ {Y : List BV} {i : Nat} {y : BV} (h : Y[i]? = some y) : nonV (Y.take (i + 1)) = nonV (Y.take i) ++ if y.n = 0 then [] else [y] := by
  obtain ⟨hlt, rfl⟩ := List.getElem?_eq_some_iff.1 h
  rw [List.take_succ_eq_append_getElem hlt]
  unfold nonV
  rw [List.filter_append]
  congr 1
  by_cases h : Y[i].n = 0
  · simp [h]
  · have : 0 < Y[i].n := by omega
    simp [h, this]
end Go.Proofs.YtipololccbdojaaGreatDoor
