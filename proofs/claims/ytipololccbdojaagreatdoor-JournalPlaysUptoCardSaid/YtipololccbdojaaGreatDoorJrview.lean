/-
  The document's Records, Bytes, All.
-/
import Derived.Test.YtipololccbdojaaGreatDoorJview
import Derived.Test.YtipololccbdojaaGreatDoorJrscan
namespace Go.Proofs.YtipololccbdojaaGreatDoor
open Go Go.Sv
set_option linter.unusedVariables false
set_option maxRecDepth 4000

theorem rrec_ok {p : Option Addr} {n c : Nat} {l : List UInt8} (hl : l.length = n) {w : World} {K : Value → World → Prop} (hk : K (.bool (recB l)) w) : callP Tryz.prog 153 [.slice p n c] w K := by
  refine ok_longshoreref20_Record ?_
  unfold wp_longshoreref20_Record
  unfold recB at hk
  rw [hl] at hk
  refine Sif_cases (fun h => ?_) fun h => ?_
  · have h' : (n : Int) ≥ 1 := by simpa using h
    rw [decide_eq_true (by omega : 1 ≤ n), Bool.true_and] at hk
    have e : decide ((n : Int) ≤ 1049600) = decide (n ≤ 1049600) := by congr 1; apply propext; omega
    rw [e]; exact hk
  · have h' : ¬ (n : Int) ≥ 1 := by simpa using h
    rw [decide_eq_false (by omega : ¬ 1 ≤ n), Bool.false_and] at hk
    exact hk
theorem rrecords_ok {w : World} {B : Nat → Prop} {p : Option Addr} {n c : Nat} {X : List RV} {K : Value → World → Prop} (h : VR w B p n X) (hn : n ≤ 2 ^ 60) (hk : K (.bool (recsB (saysR X))) w) :
    callP Tryz.prog 137 [.slice p n c] w K := by
  refine ok_longshoreref20_Records ?_
  unfold wp_longshoreref20_Records
  have hl := h.len
  refine ⟨fun m i w' => ∃ j : Nat, i = (j : Int) ∧ j ≤ n ∧ m = n - j ∧ w' = w ∧ recsB (saysR (X.take j)) = true, ⟨n, 0, rfl, by omega, rfl, rfl, rfl⟩, ?_⟩
  rintro m i w1 ⟨j, rfl, hj, rfl, rfl, hall⟩
  refine Sif_cases (fun hlt => ?_) fun hge => ?_
  · have hlt' : (j : Int) < n := by simpa using hlt
    have hjl : j < X.length := by omega
    obtain ⟨k, o, rfl, hcell⟩ := h.at (List.getElem?_eq_getElem hjl)
    have hx := h.ok _ (List.getElem_mem hjl)
    have hxl := hx.len
    have hs : saysR (X.take (j + 1)) = saysR (X.take j) ++ [X[j].l] := by rw [List.take_succ_eq_append_getElem hjl]; simp only [saysR, List.map_append, List.map_cons, List.map_nil]
    refine ⟨by omega, by omega, ?_⟩
    simp only [nn_some, add_at, Int.toNat_natCast, Nat.mul_one]
    refine ⟨_, _, _, hcell, rrec_ok hxl ⟨_, rfl, Sif_cases (fun hb => ?_) fun hb => ?_⟩⟩
    · have hb' : recB X[j].l = false := by simpa using hb
      have : recsB (saysR X) = false := by
        unfold recsB
        rw [List.all_eq_false]
        exact ⟨_, List.mem_map.2 ⟨_, List.getElem_mem hjl, rfl⟩, by simp [hb']⟩
      rw [this] at hk; exact hk
    · have hb' : recB X[j].l = true := by simpa using hb
      rw [wrap_id (by omega) (by omega), nameI_iff]
      refine ⟨n - (j + 1), by omega, j + 1, by omega, by omega, rfl, by trivial, ?_⟩
      rw [hs]; unfold recsB at hall ⊢; rw [List.all_append, hall]; simp [hb']
  · have : ¬ (j : Int) < n := by simpa using hge
    rw [List.take_of_length_le (by omega)] at hall
    rw [hall] at hk; exact hk
theorem rput_ok' {n : Nat} {w : World} {K : Value → World → Prop} (hn : n < 18446744073709551616)
    (hk : ∀ p c b w', Ow w' p 4 c 1 (bytesV (be 4 n)) b → (∀ k, b = some k → w.heap.size ≤ k) → Ch (fun _ => False) w w' → K (.slice p 4 c) w') :
    callP Tryz.prog 154 [.int .u64 (n : Int), .int .i64 4] w K :=
  rput01_ok (k := 4) hn (by decide) (by decide) hk
theorem inB_own {b : Option Nat} {w : World} {p : Option Addr} {n c sz : Nat} {xs : List Value} (h : Ow w p n c sz xs b) (hs : sz ≠ 0) {own : Option Nat} (hd : ∀ k, b = some k → own ≠ some k) : ∀ a, p = some a → n ≠ 0 → own ≠ some a.block := fun a ha hn => hd _ (h.inB hs a ha hn)
set_option maxHeartbeats 1000000 in
theorem rbytes_ok {w : World} {B : Nat → Prop} {p : Option Addr} {n c : Nat} {X : List RV} {K : Value → World → Prop} (h : VR w B p n X) (hlen : (body (saysR X)).length ≤ 2 ^ 40) (hn : n ≤ 2 ^ 40)
    (hk : ∀ w' q m cq b, m = (batchB (saysR X)).length → Ow w' q m cq 1 (bytesV (batchB (saysR X))) b → (∀ k, b = some k → w.heap.size ≤ k) → Ch (fun _ => False) w w' → K (.slice q m cq) w') :
    callP Tryz.prog 139 [.slice p n c] w K := by
  have hl := h.len
  refine ok_longshoreref20_Bytes ?_
  unfold wp_longshoreref20_Bytes
  refine Sif_cases (fun h0 => ?_) fun h0 => ?_
  · have h0' : (n : Int) = 0 := by simpa using h0
    have : X = [] := List.eq_nil_of_length_eq_zero (by omega)
    subst this
    exact hk w none 0 0 none rfl ⟨rfl, Nat.le_refl _, .inl ⟨rfl, rfl⟩⟩ (fun k hk => by cases hk) (Ch.refl _ _)
  have h0' : ¬ (n : Int) = 0 := by simpa using h0
  have hne : saysR X ≠ [] := fun e => by have := congrArg List.length e; simp [saysR] at this; subst this; simp at hl; omega
  refine ⟨fun m q t cq i w' => ∃ (j : Nat) (b : Option Nat), i = (j : Int) ∧ j ≤ n ∧ m = n - j ∧ Ch (fun _ => False) w w' ∧ (∀ k, b = some k → w.heap.size ≤ k) ∧ t = (body (saysR (X.take j))).length ∧ Ow w' q t cq 1 (bytesV (body (saysR (X.take j)))) b,
    ⟨n, 0, none, rfl, by omega, rfl, Ch.refl _ _, (fun k hk => by cases hk), by simp [saysR, body], Ow.nil⟩, ?_⟩
  rintro m q t cq i w1 ⟨j, b1, rfl, hj, rfl, C1, f1, rfl, o1⟩
  have hle9 := body_take_le X j
  have s1 := C1.size
  refine Sif_cases (fun hlt => ?_) fun hge => ?_
  · have hlt' : (j : Int) < n := by simpa using hlt
    have hjl : j < X.length := by omega
    have hi := List.getElem?_eq_getElem hjl
    have h1 := h.ch0 C1
    obtain ⟨k, o, rfl, hcell⟩ := h1.at hi
    have hxl := (h.ok _ (List.getElem_mem hjl)).len
    have hsucc := congrArg List.length (body_take_succ hi)
    have hle := body_take_le X (j + 1)
    simp only [List.length_append, be_length] at hsucc
    refine ⟨by omega, by omega, ?_⟩
    simp only [nn_some, add_at, Int.toNat_natCast, Nat.mul_one]
    refine ⟨_, _, _, hcell, ?_⟩
    rw [w64 (by omega) (by omega)]
    refine rput_ok' (by omega) fun p2 c2 b2 w2 o2 n2 C2 => ⟨_, _, _, rfl, ?_⟩
    refine radd_ok (o1.ch C2 fun _ _ => id) o2.rd (inB_own o2 (by decide) fun k hk e => ?_) (by omega) fun p3 c3 b3 w3 o3 n3 C3 => ⟨_, _, _, rfl, ?_⟩
    · have := n2 k hk
      have := o1.blt k e
      omega
    have s2 := C2.size
    have f3 : ∀ k, b3 = some k → w.heap.size ≤ k := fun k hk => by
      rcases n3 k hk with e | e
      · exact f1 k e
      · omega
    have C13 : Ch (fun _ => False) w w3 := (C1.new C2).trans C3 fun x hx e => by have := f1 x e; omega
    have h3 := h.ch0 C13
    obtain ⟨k', o', hp3, hcell3⟩ := h3.at hi
    cases hp3
    refine ⟨by omega, by omega, _, _, _, hcell3, ?_⟩
    have hx3 := h3.ok _ (List.getElem_mem hjl)
    have hx0 := h.ok _ (List.getElem_mem hjl)
    refine radd_ok o3 hx3.rd (fun a ha h0 e => ?_) (by omega) fun p4 c4 b4 w4 o4 n4 C4 => ⟨_, _, _, rfl, ?_⟩
    · have h5 := f3 _ e
      have h6 := hx0.rd.lt a ha (by omega)
      omega
    rw [wrap_id (by omega) (by omega), nameI_iff]
    have s3 := C13.size
    refine ⟨n - (j + 1), by omega, j + 1, b4, by omega, by omega, rfl, C13.trans C4 fun x hx e => by have := f3 x e; omega, fun k hk => ?_, by omega, ?_⟩
    · rcases n4 k hk with e | e
      · exact f3 k e
      · omega
    · rw [body_take_succ hi, ← List.append_assoc, hxl]
      exact o4
  · have hj' : ¬ (j : Int) < n := by simpa using hge
    obtain rfl : j = n := by omega
    rw [List.take_of_length_le (by omega)] at o1 ⊢
    rw [w64 (by omega) (by omega)]
    refine rput_ok' (by omega) fun p2 c2 b2 w2 o2 n2 C2 => ⟨_, _, _, rfl, ?_⟩
    refine sumOf_ok o2.rd (by decide) ⟨_, rfl, ?_⟩
    rw [crcU]
    refine rput_ok' (by have := crc_lt (be 4 (body (saysR X)).length); omega) fun p3 c3 b3 w3 o3 n3 C3 => ⟨_, _, _, rfl, ?_⟩
    refine radd_ok (o2.ch C3 fun _ _ => id) o3.rd (inB_own o3 (by decide) fun k hk e => ?_) (by omega) fun p4 c4 b4 w4 o4 n4 C4 => ⟨_, _, _, rfl, ?_⟩
    · have := n3 k hk
      have := o2.blt k e
      omega
    have s2 := C2.size
    have s3 := C3.size
    have s4 := C4.size
    have o1' : Ow w4 q (body (saysR X)).length cq 1 (bytesV (body (saysR X))) b1 := ((o1.ch C2 fun _ _ => id).ch C3 fun _ _ => id).ch C4 fun k hk e => by have := n2 k e; have := o1.blt k hk; omega
    have f4 : ∀ k, b4 = some k → w1.heap.size ≤ k := fun k hk => by
      rcases n4 k hk with e | e
      · exact n2 k e
      · omega
    have ehead : be 4 (body (saysR X)).length ++ be 4 (crc (be 4 (body (saysR X)).length)).toNat = headB (saysR X) := rfl
    rw [ehead] at o4
    refine radd_ok o4 o1'.rd (inB_own o1' (by decide) fun k hk e => ?_) (by omega) fun p5 c5 b5 w5 o5 n5 C5 => ⟨_, _, _, rfl, ?_⟩
    · have := f4 k e
      have := o1.blt k hk
      omega
    have efore : headB (saysR X) ++ body (saysR X) = foreB (saysR X) := rfl
    rw [efore] at o5
    refine sumOf_ok o5.rd (by omega) ⟨_, rfl, ?_⟩
    rw [crcU]
    have s5 := C5.size
    have f5 : ∀ k, b5 = some k → w1.heap.size ≤ k := fun k hk => by
      rcases n5 k hk with e | e
      · exact f4 k e
      · omega
    refine rput_ok' (by have := crc_lt (foreB (saysR X)); omega) fun p6 c6 b6 w6 o6 n6 C6 => ⟨_, _, _, rfl, ?_⟩
    refine radd_ok (o5.ch C6 fun _ _ => id) o6.rd (inB_own o6 (by decide) fun k hk e => ?_) (by omega) fun p7 c7 b7 w7 o7 n7 C7 => ⟨_, _, _, rfl, ?_⟩
    · have := n6 k hk
      have := o5.blt k e
      omega
    have ebt : foreB (saysR X) ++ be 4 (crc (foreB (saysR X))).toNat = batchB (saysR X) := by unfold batchB; rw [if_neg hne]
    rw [ebt] at o7
    have hbl := batchB_length hne
    have C14 : Ch (fun _ => False) w w4 := ((C1.new C2).new C3).trans C4 fun x hx e => by have := n2 x e; omega
    have C15 : Ch (fun _ => False) w w5 := C14.trans C5 fun x hx e => by have := f4 x e; omega
    refine hk w7 p7 _ c7 b7 (by omega) o7 (fun k hk => ?_) ((C15.new C6).trans C7 fun x hx e => by have := f5 x e; omega)
    have s6 := C6.size
    rcases n7 k hk with e | e
    · have := f5 k e; omega
    · omega
theorem allB_take_succ {Y : List BV} {i : Nat} {y : BV} (h : Y[i]? = some y) : allB (saysL (Y.take (i + 1))) = allB (saysL (Y.take i)) ++ batchB y.says := by
  obtain ⟨hlt, he⟩ := List.getElem?_eq_some_iff.1 h
  rw [List.take_succ_eq_append_getElem hlt, he]
  simp [saysL, allB]
theorem allB_take_le (Y : List BV) (i : Nat) : (allB (saysL (Y.take i))).length ≤ (allB (saysL Y)).length := by
  have e : allB (saysL Y) = allB (saysL (Y.take i)) ++ allB (saysL (Y.drop i)) := by
    conv => lhs; rw [← List.take_append_drop i Y]
    simp only [saysL, allB, List.map_append, List.flatMap_append]
  rw [e, List.length_append]; omega
theorem body_le (R : Batch) : (body R).length ≤ (batchB R).length := by
  by_cases h : R = []
  · subst h; exact Nat.le_refl _
  · have := batchB_length h; omega
theorem rall_ok {w : World} {B : Nat → Prop} {p : Option Addr} {n c : Nat} {Y : List BV} {K : Value → World → Prop} (h : VL w B p n Y) (hlen : (allB (saysL Y)).length ≤ 2 ^ 40) (hn : n ≤ 2 ^ 40) (hns : ∀ y ∈ Y, y.n ≤ 2 ^ 40)
    (hk : ∀ w' q m cq b, m = (allB (saysL Y)).length → Ow w' q m cq 1 (bytesV (allB (saysL Y))) b → (∀ k, b = some k → w.heap.size ≤ k) → Ch (fun _ => False) w w' → K (.slice q m cq) w') :
    callP Tryz.prog 134 [.slice p n c] w K := by
  have hl := h.len
  refine ok_longshoreref20_All ?_
  unfold wp_longshoreref20_All
  refine ⟨fun m q t cq i w' => ∃ (j : Nat) (b : Option Nat), i = (j : Int) ∧ j ≤ n ∧ m = n - j ∧ Ch (fun _ => False) w w' ∧ (∀ k, b = some k → w.heap.size ≤ k) ∧ t = (allB (saysL (Y.take j))).length ∧ Ow w' q t cq 1 (bytesV (allB (saysL (Y.take j)))) b,
    ⟨n, 0, none, rfl, by omega, rfl, Ch.refl _ _, (fun k hk => by cases hk), by simp [saysL, allB], Ow.nil⟩, ?_⟩
  rintro m q t cq i w1 ⟨j, b1, rfl, hj, rfl, C1, f1, rfl, o1⟩
  have hle9 := allB_take_le Y j
  have s1 := C1.size
  refine Sif_cases (fun hlt => ?_) fun hge => ?_
  · have hlt' : (j : Int) < n := by simpa using hlt
    have hjl : j < Y.length := by omega
    have hi := List.getElem?_eq_getElem hjl
    have h1 := h.ch0 C1
    obtain ⟨k, o, rfl, hcell⟩ := h1.at hi
    have hy := h1.ok _ (List.getElem_mem hjl)
    have hsucc := congrArg List.length (allB_take_succ hi)
    have hle := allB_take_le Y (j + 1)
    simp only [List.length_append] at hsucc
    have hbl := body_le Y[j].says
    refine ⟨by omega, by omega, ?_⟩
    simp only [nn_some, add_at, Int.toNat_natCast, Nat.mul_one]
    refine ⟨_, _, _, hcell, rbytes_ok hy.rd (by show (body Y[j].says).length ≤ _; omega) (hns _ (List.getElem_mem hjl)) fun w2 p2 m2 c2 b2 hm2 o2 n2 C2 => ⟨_, _, _, rfl, ?_⟩⟩
    have hm2' : m2 = (batchB Y[j].says).length := hm2
    refine radd_ok (o1.ch C2 fun _ _ => id) o2.rd (inB_own o2 (by decide) fun k hk e => ?_) (by omega) fun p3 c3 b3 w3 o3 n3 C3 => ⟨_, _, _, rfl, ?_⟩
    · have := n2 k hk
      have := o1.blt k e
      omega
    have s2 := C2.size
    rw [wrap_id (by omega) (by omega), nameI_iff]
    refine ⟨n - (j + 1), by omega, j + 1, b3, by omega, by omega, rfl, (C1.new C2).trans C3 fun x hx e => by have := f1 x e; omega, fun k hk => ?_, by omega, ?_⟩
    · rcases n3 k hk with e | e
      · exact f1 k e
      · omega
    · rw [allB_take_succ hi]
      exact o3
  · have hj' : ¬ (j : Int) < n := by simpa using hge
    rw [List.take_of_length_le (by omega)] at o1 ⊢
    exact hk w1 q _ cq b1 rfl o1 f1 C1
end Go.Proofs.YtipololccbdojaaGreatDoor
