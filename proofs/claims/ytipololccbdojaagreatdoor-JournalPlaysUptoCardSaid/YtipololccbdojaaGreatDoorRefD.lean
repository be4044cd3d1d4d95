/-
  The document's disk in memory (longshoreref19), and its small functions. The document's disk: put, take, fall, the next act, the errors ahead of an act. The document's disk: stores into the list, take, fall, fails, asked; Start, Arm, Crash. The document's disk: take, fails, asked; Start, Arm, Crash, Append, Sync, Delete: they do what the program's do.
-/
import Derived.Test.YtipololccbdojaaGreatDoorDiskS
import Derived.Test.YtipololccbdojaaGreatDoorRefWp
namespace Go.Proofs.YtipololccbdojaaGreatDoor
open Go Go.Sv Go.MapKept
set_option linter.unusedVariables false
set_option maxRecDepth 4000

theorem OF.cells_one (o : OF) : ∀ v ∈ o.cells, oneV v = true := by intro v hv; simp [OF.cells] at hv; rcases hv with rfl | rfl | rfl <;> rfl
def ltN (x y : File) : Prop := x.name.data.toList < y.name.data.toList
/-- the document's disk at block r: what it holds, its list's elements O -/
structure RK0 (w : World) (r : Nat) (a : AD) (O : List OF) (p : Option Addr) (c : Nat) (ob : Option Nat) : Prop where
  head : ∃ ac : Int, blk w r = some [.slice p O.length c, .int .i64 a.room, .bool a.down, .bool (decide (0 ≤ a.acts)), .int .i64 ac, .int .i64 a.keep] ∧ (0 ≤ a.acts → ac = a.acts)
  files : FilesR w p c ob O
  apart : r ∉ FilesR.bl ob O
  hO : O.map (·.f) = a.fs
def rbl (r : Nat) (ob : Option Nat) (O : List OF) : Nat → Prop := fun b => b = r ∨ b ∈ FilesR.bl ob O
structure RK (w : World) (r : Nat) (a : AD) (B : Nat → Prop) : Prop where
  ex : ∃ O p c ob, RK0 w r a O p c ob ∧ B = rbl r ob O
  sort : a.fs.Pairwise ltN
theorem RK0.ch {S : Nat → Prop} {w w' : World} {r : Nat} {a : AD} {O : List OF} {p : Option Addr} {c : Nat} {ob : Option Nat} (R : RK0 w r a O p c ob) (hc : Ch S w w') (hn : ∀ b, rbl r ob O b → ¬ S b) : RK0 w' r a O p c ob := by
  obtain ⟨⟨ac, h1, h2⟩, h3, h4, h5⟩ := R
  exact ⟨⟨ac, by rw [hc.blk (blk_lt h1) (hn r (.inl rfl))]; exact h1, h2⟩, h3.ch hc fun b hb => hn b (.inr hb), h4, h5⟩
theorem RK.ch {S : Nat → Prop} {w w' : World} {r : Nat} {a : AD} {B : Nat → Prop} (R : RK w r a B) (hc : Ch S w w') (hn : ∀ b, B b → ¬ S b) : RK w' r a B := by
  obtain ⟨⟨O, p, c, ob, R0, rfl⟩, hs⟩ := R
  exact ⟨⟨O, p, c, ob, R0.ch hc hn, rfl⟩, hs⟩
theorem RK0.lt {w : World} {r : Nat} {a : AD} {O : List OF} {p : Option Addr} {c : Nat} {ob : Option Nat} (R : RK0 w r a O p c ob) : ∀ b, rbl r ob O b → b < w.heap.size := by
  obtain ⟨⟨ac, h1, h2⟩, h3, h4, h5⟩ := R
  rintro b (rfl | hb)
  · exact blk_lt h1
  · exact h3.lt b hb
theorem RK.lt {w : World} {r : Nat} {a : AD} {B : Nat → Prop} (R : RK w r a B) : ∀ b, B b → b < w.heap.size := by
  obtain ⟨⟨O, p, c, ob, R0, rfl⟩, hs⟩ := R
  exact R0.lt
theorem RK0.len {w : World} {r : Nat} {a : AD} {O : List OF} {p : Option Addr} {c : Nat} {ob : Option Nat} (R : RK0 w r a O p c ob) : O.length = a.fs.length := by have := congrArg List.length R.hO; simpa using this
theorem RK0.slice {w : World} {r : Nat} {a : AD} {O : List OF} {p : Option Addr} {c : Nat} {ob : Option Nat} (R : RK0 w r a O p c ob) : w.cell? ⟨r, 0, none⟩ = some (.slice p O.length c) := by obtain ⟨ac, h1, _⟩ := R.head; rw [cell_blk h1]; rfl
theorem RK0.roomC {w : World} {r : Nat} {a : AD} {O : List OF} {p : Option Addr} {c : Nat} {ob : Option Nat} (R : RK0 w r a O p c ob) : w.cell? ⟨r, 1, none⟩ = some (.int .i64 a.room) := by obtain ⟨ac, h1, _⟩ := R.head; rw [cell_blk h1]; rfl
theorem RK0.downC {w : World} {r : Nat} {a : AD} {O : List OF} {p : Option Addr} {c : Nat} {ob : Option Nat} (R : RK0 w r a O p c ob) : w.cell? ⟨r, 2, none⟩ = some (.bool a.down) := by obtain ⟨ac, h1, _⟩ := R.head; rw [cell_blk h1]; rfl
theorem RK0.keepC {w : World} {r : Nat} {a : AD} {O : List OF} {p : Option Addr} {c : Nat} {ob : Option Nat} (R : RK0 w r a O p c ob) : w.cell? ⟨r, 5, none⟩ = some (.int .i64 a.keep) := by obtain ⟨ac, h1, _⟩ := R.head; rw [cell_blk h1]; rfl

theorem rIsName_ok {s : ByteArray} {w : World} {K : Value → World → Prop} (hs : s.size ≤ 9223372036854775807) (hk : K (.bool (nameOk s)) w) : callP Tryz.prog 64 [.string s] w K := by
  refine ok_longshoreref19_IsName ?_
  unfold wp_longshoreref19_IsName
  refine ⟨fun m n w' => w' = w ∧ 0 ≤ n ∧ n ≤ s.size ∧ m = s.size - n.toNat ∧ ∀ i, i < n.toNat → okc (byteAt s i) = true, ⟨s.size, rfl, by omega, by omega, by simp, fun i hi => by simp at hi⟩, ?_⟩
  rintro m n w1 ⟨rfl, h0, h1, hm, hall⟩
  have bad : n < s.size → okc (byteAt s n.toNat) = false → nameOk s = false := fun hn hb => by
    have : (List.range s.size).all (fun i => okc (byteAt s i)) = false := by
      rw [List.all_eq_false]
      exact ⟨n.toNat, by simp; omega, by simp [hb]⟩
    simp [nameOk, this]
  refine Sif_cases (fun hn => ?_) fun hn => ?_
  · have hn' : n < s.size := by simpa using hn
    refine ⟨fun w2 => w2 = w1 ∧ okc (byteAt s n.toNat) = true, ?_, h0, hn', ?_⟩
    · rintro w2 ⟨rfl, hok⟩
      rw [nameI_iff]
      refine ⟨m - 1, by omega, rfl, ?_, ?_, ?_, ?_⟩
      · rw [wrap_id (by omega) (by omega)]; omega
      · rw [wrap_id (by omega) (by omega)]; omega
      · rw [wrap_id (by omega) (by omega)]; omega
      · intro i hi
        rw [wrap_id (by omega) (by omega)] at hi
        by_cases hin : i < n.toNat
        · exact hall i hin
        · have : i = n.toNat := by omega
          rw [this]; exact hok
    · generalize hc : byteAt s n.toNat = ch at *
      refine Sif_cases (fun g1 => ⟨h0, hn', Sif_cases (fun g2 => ⟨h0, hn', Sif_cases (fun g3 => ?_) fun g3 => ⟨rfl, ?_⟩⟩) fun g2 => ?_⟩) fun g1 => ⟨rfl, ?_⟩
      · rw [← bad hn' (by simp at g1 g2 g3; simp [okc, g1]; omega)]; exact hk
      · simp at g1 g2 g3; simp [okc]; omega
      · rw [← bad hn' (by simp at g1 g2; simp [okc, g1]; omega)]; exact hk
      · simp at g1; simp [okc, g1]
  · have hn' : ¬ n < s.size := by simpa using hn
    have hall' : (List.range s.size).all (fun i => okc (byteAt s i)) = true := by
      rw [List.all_eq_true]
      intro i hi
      have : i < s.size := by simpa using hi
      exact hall i (by omega)
    have e : nameOk s = (decide (1 ≤ s.size) && decide (s.size ≤ 16)) := by simp [nameOk, hall']
    refine Sif_cases (fun g => ?_) fun g => ?_
    · have g' : 1 ≤ s.size := by simp at g; omega
      have : decide ((↑s.size : Int) ≤ 16) = nameOk s := by
        rw [e]; simp only [g', decide_true, Bool.true_and]; rw [decide_eq_decide]; omega
      rw [this]; exact hk
    · have g' : ¬ 1 ≤ s.size := by simp at g; omega
      rw [e] at hk; simpa [g'] using hk
theorem neS {a b : ByteArray} (h : a ≠ b) : (a.toList == b.toList) = false := by
  rw [beq_eq_false_iff_ne, ByteArray.toList_eq, ByteArray.toList_eq]
  exact fun e => h (data_ext e)
theorem eqS {a b : ByteArray} (h : (a.toList == b.toList) = true) : a = b := by
  have h5 := beq_iff_eq.1 h
  rw [ByteArray.toList_eq, ByteArray.toList_eq] at h5
  exact data_ext h5
theorem rfind_ok {w : World} {r : Nat} {a : AD} {O : List OF} {p : Option Addr} {c : Nat} {ob : Option Nat} {n : ByteArray} {K : Value → World → Prop} (R : RK0 w r a O p c ob) (hlen : O.length ≤ 2 ^ 60)
    (hk : ∀ k : Int, ((∃ (i : Nat) (x : OF), k = i ∧ O[i]? = some x ∧ x.f.name = n) ∨ (k = -1 ∧ ∀ x ∈ O, x.f.name ≠ n)) → K (.int .i64 k) w) : callP Tryz.prog 65 [.pointer (some ⟨r, 0, none⟩), .string n] w K := by
  refine ok_longshoreref19_Disk_find ?_
  unfold wp_longshoreref19_Disk_find
  refine ⟨fun m k w' => ∃ i : Nat, k = i ∧ i ≤ O.length ∧ m = O.length - i ∧ w' = w ∧ ∀ (j : Nat) (x : OF), j < i → O[j]? = some x → x.f.name ≠ n, ⟨O.length, 0, rfl, by omega, by omega, rfl, fun j x hj => by omega⟩, ?_⟩
  rintro m k w1 ⟨i, rfl, hi, rfl, rfl, hne⟩
  simp only [nn_some, add_at, Nat.zero_add]
  refine ⟨_, _, _, R.slice, Sif_cases (fun g => ?_) fun g => ?_⟩
  · have hlt : i < O.length := by have := of_decide_eq_true g; omega
    have hx : O[i]? = some O[i] := List.getElem?_eq_getElem hlt
    generalize O[i] = x at hx
    obtain ⟨b, o, rfl, h0, h1, h2⟩ := R.files.rd.at hx
    refine ⟨_, _, _, R.slice, by omega, by omega, ?_⟩
    simp only [nn_some, add_at, Int.toNat_natCast, Nat.add_zero]
    refine ⟨_, h0, Sif_cases (fun q => hk _ (.inl ⟨i, x, rfl, hx, eqS q⟩)) fun q => ?_⟩
    rw [nameI_iff, wrap_id (by omega) (by omega)]
    refine ⟨O.length - (i + 1), by omega, i + 1, by simp, by omega, rfl, by trivial, fun j y hj hy => ?_⟩
    by_cases hji : j = i
    · subst hji
      rw [hx] at hy; cases hy
      intro e; rw [e] at q; simp at q
    · exact hne j y (by omega) hy
  · refine hk _ (.inr ⟨rfl, fun x hx => ?_⟩)
    obtain ⟨j, hj⟩ := List.getElem?_of_mem hx
    have := of_decide_eq_false g
    exact hne j x (by have := (List.getElem?_eq_some_iff.1 hj).1; omega) hj
theorem total_take (fs : List File) (i : Nat) (f : File) (h : fs[i]? = some f) : total (fs.take (i + 1)) = total (fs.take i) + f.dat.length := by
  rw [List.take_add_one, h]; simp [total]
theorem total_le_take (fs : List File) (i : Nat) : total (fs.take i) ≤ total fs := by
  have h1 : total fs = total (fs.take i) + total (fs.drop i) := by
    unfold total
    rw [← List.sum_append_nat, ← List.map_append, List.take_append_drop]
  omega
theorem rused_ok {w : World} {r : Nat} {a : AD} {O : List OF} {p : Option Addr} {c : Nat} {ob : Option Nat} {K : Value → World → Prop} (R : RK0 w r a O p c ob) (hlen : O.length ≤ 2 ^ 60) (htot : total a.fs ≤ 2 ^ 62)
    (hk : K (.int .i64 (total a.fs)) w) : callP Tryz.prog 68 [.pointer (some ⟨r, 0, none⟩)] w K := by
  refine ok_longshoreref19_Disk_used ?_
  unfold wp_longshoreref19_Disk_used
  refine ⟨fun m t k w' => ∃ i : Nat, k = i ∧ i ≤ O.length ∧ m = O.length - i ∧ w' = w ∧ t = total (a.fs.take i), ⟨O.length, 0, rfl, by omega, by omega, rfl, by simp [total]⟩, ?_⟩
  rintro m t k w1 ⟨i, rfl, hi, rfl, rfl, rfl⟩
  simp only [nn_some, add_at, Nat.zero_add]
  have hol := R.len
  refine ⟨_, _, _, R.slice, Sif_cases (fun g => ?_) fun g => ?_⟩
  · have hlt : i < O.length := by have := of_decide_eq_true g; omega
    have hx : O[i]? = some O[i] := List.getElem?_eq_getElem hlt
    generalize O[i] = x at hx
    have hf : a.fs[i]? = some x.f := by rw [← R.hO, List.getElem?_map, hx]; rfl
    obtain ⟨b, o, rfl, h0, h1, h2⟩ := R.files.rd.at hx
    refine ⟨_, _, _, R.slice, by omega, by omega, ?_⟩
    simp only [nn_some, add_at, Int.toNat_natCast, Nat.add_zero]
    have h3 := total_take a.fs i x.f hf
    have h4 := total_le_take a.fs (i + 1)
    refine ⟨_, _, _, h1, ?_⟩
    rw [nameI_iff, nameI_iff, wrap_id (n := (i : Int) + 1) (by omega) (by omega), wrap_id (by omega) (by omega)]
    exact ⟨O.length - (i + 1), by omega, i + 1, by simp, by omega, rfl, by trivial, by rw [h3]; simp⟩
  · have := of_decide_eq_false g
    rw [List.take_of_length_le (by omega)]
    exact hk
theorem rcopied_ok {s : Option Addr} {n c : Nat} {w : World} {K : Value → World → Prop} {l : List UInt8} (h : Rd w s n 1 (bytesV l)) (hn : n ≤ 2 ^ 46)
    (hk : ∀ p' c' w' b', Ow w' p' n c' 1 (bytesV l) b' → (∀ k, b' = some k → w.heap.size ≤ k) → Ch (fun _ => False) w w' → K (.slice p' n c') w') : callP Tryz.prog 66 [.slice s n c] w K := by
  refine ok_longshoreref19_copied ?_
  unfold wp_longshoreref19_copied
  obtain ⟨p', c', w', b', h1, h2, h3, h4, _⟩ := append_rd (ty := 23) (c2 := c) Tryz.underlying23 Tryz.underlying23 byte_info rfl (xs := []) (n := 0) (c := 0) (b := none) (p := none) (w := w) ⟨rfl, Nat.le_refl _, .inl ⟨rfl, rfl⟩⟩ h (bytesV_one l) (by omega) (by omega)
  rw [Nat.zero_add] at h1 h2
  refine ⟨p', n, c', w', h1, hk p' c' w' b' h2 (fun k hk => ?_) (h4.mono fun x _ hx => by cases hx)⟩
  rcases h3 k hk with h3 | h3
  · cases h3
  · omega
theorem rnew_ok {w : World} {room : Int} {K : Value → World → Prop}
    (hno : room < 0 ∨ room > 16777216 → K (.pointer none) w)
    (hk : 0 ≤ room → room ≤ 16777216 → ∀ r w' B', RK w' r (newA room) B' → Ch (fun _ => False) w w' → (∀ b, B' b → w.heap.size ≤ b) → K (.pointer (some ⟨r, 0, none⟩)) w') :
    callP Tryz.prog 63 [.int .i64 room] w K := by
  refine ok_longshoreref19_New ?_
  unfold wp_longshoreref19_New
  refine ⟨fun w' => w' = w ∧ 0 ≤ room ∧ room ≤ 16777216, ?_, Sif_cases (fun g => Sif_cases (fun g2 => ?_) fun g2 => ?_) fun g => ?_⟩
  · rintro w1 ⟨rfl, h1, h2⟩
    refine newB_blk fun w3 b3 c3 z3 => ?_
    refine hk h1 h2 w1.heap.size w3 _ ⟨⟨[], none, 0, none, ⟨⟨0, b3, by simp [newA]⟩, ⟨Ow.nil, by simp, by simp⟩, by simp [FilesR.bl], rfl⟩, rfl⟩, by simp [newA]⟩ c3 fun b hb => ?_
    rcases hb with rfl | hb
    · exact Nat.le_refl _
    · simp [FilesR.bl] at hb
  · exact hno (.inr (by have := of_decide_eq_true g2; omega))
  · have h1 : ¬ room < 0 := by simpa using g
    have h2 : ¬ room > 16777216 := of_decide_eq_false g2
    exact ⟨rfl, by omega, by omega⟩
  · have h1 : room < 0 := by simpa using g
    exact hno (.inl h1)
theorem rup_ok {w : World} {r : Nat} {a : AD} {B : Nat → Prop} {K : Value → World → Prop} (R : RK w r a B) (hk : K (.bool (!a.down)) w) : callP Tryz.prog 102 [.pointer (some ⟨r, 0, none⟩)] w K := by
  obtain ⟨⟨O, p, c, ob, R0, rfl⟩, hs⟩ := R
  refine ok_longshoreref19_Disk_Up ?_
  unfold wp_longshoreref19_Disk_Up
  simp only [nn_some, add_at, Nat.zero_add]
  exact ⟨_, R0.downC, hk⟩
end Go.Proofs.YtipololccbdojaaGreatDoor
namespace Go.Proofs.YtipololccbdojaaGreatDoor
open Go Go.Sv Go.MapKept
set_option linter.unusedVariables false
set_option maxRecDepth 4000

abbrev ltO (x y : OF) : Prop := x.f.name.data.toList < y.f.name.data.toList
instance (x y : OF) : Decidable (ltO x y) := inferInstanceAs (Decidable (_ < _))
def insO (x : OF) : List OF → List OF
  | [] => [x]
  | y :: l => if ltO x y then x :: y :: l else y :: insO x l
theorem insO_perm (x : OF) : ∀ l, (insO x l).Perm (x :: l)
  | [] => .refl _
  | y :: l => by
    unfold insO; split
    · exact .refl _
    · exact (insO_perm x l |>.cons y).trans (.swap x y l)
theorem ltO_trans {x y z : OF} (h : ltO x y) (k : ltO y z) : ltO x z := List.lt_trans h k
theorem insO_sort (x : OF) : ∀ l : List OF, l.Pairwise ltO → (∀ y ∈ l, y.f.name ≠ x.f.name) → (insO x l).Pairwise ltO
  | [], _, _ => by simp [insO]
  | y :: l, h, hn => by
    obtain ⟨h1, h2⟩ := List.pairwise_cons.1 h
    unfold insO; split
    · rename_i hlt
      refine List.pairwise_cons.2 ⟨fun z hz => ?_, h⟩
      rcases List.mem_cons.1 hz with rfl | hz
      · exact hlt
      · exact ltO_trans hlt (h1 z hz)
    · rename_i hlt
      refine List.pairwise_cons.2 ⟨fun z hz => ?_, insO_sort x l h2 fun w hw => hn w (List.mem_cons_of_mem _ hw)⟩
      rcases List.mem_cons.1 ((insO_perm x l).mem_iff.1 hz) with rfl | hz
      · rcases Std.lt_trichotomy z.f.name.data.toList y.f.name.data.toList with h3 | h3 | h3
        · exact absurd h3 hlt
        · exact absurd (data_ext h3).symm (hn y (List.mem_cons_self ..))
        · exact h3
      · exact h1 z hz
/-- the elements' own blocks -/
def dbl (O : List OF) : List Nat := O.flatMap fun o => o.own.toList
theorem rbl_eq {r : Nat} {ob : Option Nat} {O : List OF} {b : Nat} : rbl r ob O b ↔ b = r ∨ ob = some b ∨ b ∈ dbl O := by
  simp [rbl, FilesR.bl, dbl]
theorem dbl_perm {O O' : List OF} (h : O.Perm O') : (dbl O).Perm (dbl O') := h.flatMap_right _
theorem RK0.obn {w : World} {r : Nat} {a : AD} {O : List OF} {p : Option Addr} {c : Nat} {ob : Option Nat} (R : RK0 w r a O p c ob) : ∀ k, ob = some k → k ∉ dbl O ∧ k ≠ r := fun k hk => by
  have h1 := R.files.nodup
  have h2 := R.apart
  subst hk
  simp only [Option.toList_some, List.singleton_append] at h1
  refine ⟨(List.nodup_cons.1 h1).1, fun e => h2 ?_⟩
  simp [FilesR.bl, e]
theorem RK0.dn {w : World} {r : Nat} {a : AD} {O : List OF} {p : Option Addr} {c : Nat} {ob : Option Nat} (R : RK0 w r a O p c ob) : (dbl O).Nodup ∧ r ∉ dbl O :=
  ⟨(List.nodup_append.1 R.files.nodup).2.1, fun h => R.apart (List.mem_append.2 (.inr h))⟩
/-- a store into the disk's own block -/
theorem RK0.stH {w : World} {r : Nat} {a a' : AD} {O : List OF} {p : Option Addr} {c : Nat} {ob : Option Nat} (R : RK0 w r a O p c ob) {i : Nat} {v : Value} (hi : i < 6) {K : World → Prop} (hfs : a'.fs = a.fs)
    (hset : ∀ ac : Int, (0 ≤ a.acts → ac = a.acts) → ∃ ac' : Int, ([.slice p O.length c, .int .i64 a.room, .bool a.down, .bool (decide (0 ≤ a.acts)), .int .i64 ac, .int .i64 a.keep] : List Value).set i v = [.slice p O.length c, .int .i64 a'.room, .bool a'.down, .bool (decide (0 ≤ a'.acts)), .int .i64 ac', .int .i64 a'.keep] ∧ (0 ≤ a'.acts → ac' = a'.acts))
    (hk : ∀ w', RK0 w' r a' O p c ob → Ch (· = r) w w' → w'.heap.size = w.heap.size → K w') : Sv.st w ⟨r, i, none⟩ v K := by
  obtain ⟨⟨ac, h1, h2⟩, h3, h4, h5⟩ := R
  refine st_blk h1 (by simpa using hi) fun w' b' c' z' => hk w' ?_ c' z'
  obtain ⟨ac', h6, h7⟩ := hset ac h2
  exact ⟨⟨ac', by rw [b', h6], h7⟩, h3.ch c' fun b hb e => h4 (e ▸ hb), h4, by rw [h5, hfs]⟩
/-- the list is replaced by another one that was built beside it -/
theorem RK0.relist {w : World} {r : Nat} {a : AD} {O O' : List OF} {p p' : Option Addr} {c c' : Nat} {ob ob' : Option Nat} (R : RK0 w r a O p c ob) (ho : Ow w p' O'.length c' 3 (O'.flatMap OF.cells) ob') (hd : ∀ o ∈ O', Ow w o.p o.f.dat.length o.c 1 (bytesV o.f.dat) o.own)
    (hnd : (dbl O').Nodup) (hr : r ∉ dbl O') (hob : ∀ k, ob' = some k → k ∉ dbl O' ∧ k ≠ r) {K : World → Prop}
    (hk : ∀ w', RK0 w' r { a with fs := O'.map (·.f) } O' p' c' ob' → Ch (· = r) w w' → w'.heap.size = w.heap.size → K w') : Sv.st w ⟨r, 0, none⟩ (.slice p' O'.length c') K := by
  obtain ⟨⟨ac, h1, h2⟩, h3, h4, h5⟩ := R
  refine st_blk h1 (by simp) fun w' b' e' z' => hk w' ?_ e' z'
  have hF : FilesR w' p' c' ob' O' := ⟨ho.ch e' fun k hk e => (hob k hk).2 e, fun o ho => (hd o ho).ch e' fun k hk e => hr (List.mem_flatMap.2 ⟨o, ho, by simp [hk, e]⟩), by
    cases ob' with
    | none => simpa [dbl] using hnd
    | some k =>
      simp only [Option.toList_some, List.singleton_append]
      exact List.nodup_cons.2 ⟨(hob k rfl).1, hnd⟩⟩
  refine ⟨⟨ac, by rw [b']; rfl, h2⟩, hF, fun h => ?_, rfl⟩
  rcases List.mem_append.1 h with h | h
  · exact (hob r (by simpa using h)).2 rfl
  · exact hr h
theorem pushF {te : TypeId} {w : World} {p : Option Addr} {c : Nat} {O : List OF} {b : Option Nat} (ho : Ow w p O.length c 3 (O.flatMap OF.cells) b) (x : OF) (h1 : O.length < 2 ^ 41) {K : Option Addr → Nat → Nat → World → Prop}
    (hk : ∀ p' c' b' w', Ow w' p' (O ++ [x]).length c' 3 ((O ++ [x]).flatMap OF.cells) b' → (∀ k, b' = some k → b = some k ∨ w.heap.size ≤ k) → Ch (fun k => b = some k) w w' → K p' (O ++ [x]).length c' w') :
    newB w [.string x.f.name, .slice x.p x.f.dat.length x.c, .int .i64 x.f.safe] te fun a w2 => ∃ p5 n7 c5 w3, Sem.run Tryz.prog (Builtin.append_ #[52, 52] 52 #[.slice p O.length c, .slice (some a) 1 1]) w2 = .ok (.slice p5 n7 c5) w3 ∧ K p5 n7 c5 w3 :=
  push_ok Tryz.underlying52 apifile_info rfl OF.cells_len OF.cells_one ho x (by omega) (by omega) hk
set_option maxHeartbeats 1000000 in
theorem rput_ok {w : World} {r : Nat} {a : AD} {O : List OF} {p : Option Addr} {c : Nat} {ob : Option Nat} {x : OF} {K : Value → World → Prop} (R : RK0 w r a O p c ob) (hlen : O.length < 2 ^ 41)
    (hx : Ow w x.p x.f.dat.length x.c 1 (bytesV x.f.dat) x.own) (hxo : ∀ k, x.own = some k → ¬ rbl r ob O k)
    (hk : ∀ p' c' ob' w', RK0 w' r { a with fs := (insO x O).map (·.f) } (insO x O) p' c' ob' → Ch (fun k => k = r) w w' → (∀ k, ob' = some k → w.heap.size ≤ k) → K (.tuple #[]) w') :
    callP Tryz.prog 67 [.pointer (some ⟨r, 0, none⟩), .agg #[.string x.f.name, .slice x.p x.f.dat.length x.c, .int .i64 x.f.safe]] w K := by
  refine ok_longshoreref19_Disk_put ?_
  unfold wp_longshoreref19_Disk_put
  refine newB_blk fun w1 b1 c1 y1 => ?_
  have R1 := R.ch c1 fun _ _ => id
  have hRl := R.lt
  -- what is built: T, with the rest
  refine ⟨fun m q n e b k w' => ∃ (i : Nat) (T : List OF) (tb : Option Nat), k = i ∧ i ≤ O.length ∧ m = O.length - i ∧ n = T.length ∧ T.length ≤ i + 1 ∧ T ++ (if b = true then O.drop i else insO x (O.drop i)) = insO x O ∧
    Ow w' q T.length e 3 (T.flatMap OF.cells) tb ∧ (∀ k, tb = some k → w1.heap.size ≤ k) ∧ Ch (fun _ => False) w1 w', ⟨O.length, 0, [], none, rfl, by omega, by omega, rfl, by simp, by simp, Ow.nil, by simp, Ch.refl _ _⟩, ?_⟩
  rintro m q n e b k w2 ⟨i, T, tb, rfl, hi, rfl, rfl, hTl, hT, hTo, hTb, c2⟩
  have R2 := R1.ch c2 fun _ _ => id
  have b2 : blk w2 w.heap.size = some [.string x.f.name, .slice x.p x.f.dat.length x.c, .int .i64 x.f.safe] := by rw [c2.blk (blk_lt b1) id]; exact b1
  simp only [nn_some, add_at, Nat.zero_add]
  refine ⟨_, _, _, R2.slice, Sif_cases (fun g => ?_) fun g => ?_⟩
  · have hlt : i < O.length := by have := of_decide_eq_true g; omega
    have hy : O[i]? = some O[i] := List.getElem?_eq_getElem hlt
    have hdrop : O.drop i = O[i] :: O.drop (i + 1) := List.drop_eq_getElem_cons hlt
    generalize O[i] = y at hy hdrop
    -- what stands behind the round
    refine ⟨fun q' n' e' b' w' => ∃ (T' : List OF) (tb' : Option Nat), n' = T'.length ∧ T'.length ≤ i + 2 ∧ T' ++ (if b' = true then O.drop (i + 1) else insO x (O.drop (i + 1))) = insO x O ∧ Ow w' q' T'.length e' 3 (T'.flatMap OF.cells) tb' ∧ (∀ k, tb' = some k → w1.heap.size ≤ k) ∧ Ch (fun _ => False) w1 w', ?_, ?_⟩
    · rintro q' n' e' b' w3 ⟨T', tb', rfl, h1, h2, h3, h4, h5⟩
      rw [nameI_iff, wrap_id (by omega) (by omega)]
      exact ⟨O.length - (i + 1), by omega, i + 1, T', tb', by simp, by omega, rfl, rfl, h1, h2, h3, h4, h5⟩
    refine ⟨fun q' n' e' b' w' => ∃ (T' : List OF) (tb' : Option Nat), n' = T'.length ∧ T'.length ≤ i + 1 ∧ T' ++ y :: (if b' = true then O.drop (i + 1) else insO x (O.drop (i + 1))) = insO x O ∧ Ow w' q' T'.length e' 3 (T'.flatMap OF.cells) tb' ∧ (∀ k, tb' = some k → w1.heap.size ≤ k) ∧ Ch (fun _ => False) w1 w', ?_, ?_⟩
    · rintro q' n' e' b' w3 ⟨T', tb', rfl, h1, h2, h3, h4, h5⟩
      have R3 := R1.ch h5 fun _ _ => id
      refine ⟨_, _, _, R3.slice, by omega, by omega, ?_⟩
      obtain ⟨yb, yo, rfl, g0, g1, g2⟩ := R3.files.rd.at hy
      simp only [nn_some, add_at, Int.toNat_natCast, Nat.add_zero]
      refine ⟨_, g0, _, _, _, g1, _, g2, pushF h3 y (by omega) fun p' c' b'' w' o1 o2 o3 => ?_⟩
      refine ⟨T' ++ [y], b'', rfl, by simp; omega, by simpa using h2, o1, fun k hk => ?_, h5.trans o3 fun k hk h => ?_⟩
      · rcases o2 k hk with h | h
        · exact h4 k h
        · have := h5.size; omega
      · have := h4 k h; omega
    refine Sif_cases (fun gb => ?_) fun gb => ?_
    · have hb : b = false := by simpa using gb
      subst hb
      simp only [Bool.false_eq_true, if_false] at hT ⊢
      rw [hdrop] at hT
      have R2d := R2.ch (Ch.drew (S := fun _ => False) w2) fun _ _ => id
      refine ⟨_, _, _, R2d.slice, by omega, by omega, ?_⟩
      obtain ⟨yb, yo, rfl, g0, g1, g2⟩ := R2d.files.rd.at hy
      simp only [nn_some, add_at, Int.toNat_natCast, Nat.add_zero]
      have b2d : blk w2.drew w.heap.size = some [.string x.f.name, .slice x.p x.f.dat.length x.c, .int .i64 x.f.safe] := b2
      refine ⟨_, g0, _, by rw [cell_blk b2d]; rfl, ?_⟩
      rw [grtB]
      have hTd := hTo.ch (Ch.drew (S := fun _ => False) w2) fun _ _ => id
      have c2d := c2.new (Ch.drew w2)
      refine Sif_cases (fun gl => ⟨_, by rw [cell_blk b2d]; rfl, _, _, _, by rw [cell_blk b2d]; rfl, _, by rw [cell_blk b2d]; rfl, ?_⟩) fun gl => ?_
      · have hlt2 : ltO x y := of_decide_eq_true gl
        refine pushF hTd x (by omega) fun p' c' b'' w' o1 o2 o3 => ?_
        refine ⟨T ++ [x], b'', rfl, ?_, ?_, o1, fun k hk => ?_, c2d.trans o3 fun k hk h => ?_⟩
        · have hl := congrArg List.length hT
          have h1 := (insO_perm x O).length_eq
          have h2 := (insO_perm x (y :: O.drop (i + 1))).length_eq
          simp at hl h1 h2 ⊢
          omega
        · simp only [if_true]
          conv at hT => lhs; unfold insO
          rw [if_pos hlt2] at hT
          simpa using hT
        · rcases o2 k hk with h | h
          · exact hTb k h
          · have h1 := c2d.size; omega
        · have := hTb k h; omega
      · have hlt2 : ¬ ltO x y := of_decide_eq_false gl
        refine ⟨T, tb, rfl, hTl, ?_, hTd, hTb, c2d⟩
        conv at hT => lhs; unfold insO
        rw [if_neg hlt2] at hT
        exact hT
    · have hb : b = true := by simpa using gb
      subst hb
      rw [if_pos rfl, hdrop] at hT
      exact ⟨T, tb, rfl, hTl, by rw [if_pos rfl]; exact hT, hTo.ch (Ch.drew (S := fun _ => False) w2) fun _ _ => id, hTb, c2.new (Ch.drew w2)⟩
  · have hge : i = O.length := by have := of_decide_eq_false g; omega
    have fin : ∀ (q' : Option Addr) (e' : Nat) (tb' : Option Nat) (w3 : World), Ow w3 q' (insO x O).length e' 3 ((insO x O).flatMap OF.cells) tb' → (∀ k, tb' = some k → w1.heap.size ≤ k) → Ch (fun _ => False) w1 w3 →
        Sv.st w3 ⟨r, 0, none⟩ (.slice q' (insO x O).length e') fun w4 => K (.tuple #[]) w4 := by
      intro q' e' tb' w3 h1 h2 h3
      have R3 := R1.ch h3 fun _ _ => id
      have hc3 : Ch (fun _ => False) w w3 := c1.new h3
      have hdp := dbl_perm (insO_perm x O)
      have hxd : ∀ k, x.own = some k → k ∉ dbl O ∧ k ≠ r := fun k hk => ⟨fun h => hxo k hk (rbl_eq.2 (.inr (.inr h))), fun h => hxo k hk (rbl_eq.2 (.inl h))⟩
      have hd2 : (dbl (x :: O)).Nodup ∧ r ∉ dbl (x :: O) := by
        have h4 := R.dn
        refine ⟨?_, ?_⟩
        · show ((x.own.toList) ++ dbl O).Nodup
          cases hxw : x.own with
          | none => simpa using h4.1
          | some k => simp only [Option.toList_some, List.singleton_append]; exact List.nodup_cons.2 ⟨(hxd k hxw).1, h4.1⟩
        · intro h
          rcases List.mem_append.1 (show r ∈ x.own.toList ++ dbl O from h) with h | h
          · exact (hxd r (by simpa using h)).2 rfl
          · exact h4.2 h
      refine R3.relist h1 (fun o ho => ?_) (hdp.nodup_iff.2 hd2.1) (fun h => hd2.2 (hdp.mem_iff.1 h)) (fun k hk => ⟨fun h => ?_, fun h => ?_⟩) fun w4 R4 c4 z4 => hk q' e' tb' w4 R4 ((hc3.mono fun _ _ h => h.elim).trans' c4) fun k hk => by have := h2 k hk; have := c1.size; omega
      · rcases List.mem_cons.1 ((insO_perm x O).mem_iff.1 ho) with rfl | ho
        · exact hx.ch hc3 fun _ _ => id
        · exact R3.files.dat o ho
      · have h5 := h2 k hk
        rcases List.mem_append.1 (show k ∈ x.own.toList ++ dbl O from hdp.mem_iff.1 h) with h | h
        · have := hx.blt k (by simpa using h); have := c1.size; omega
        · have := hRl k (rbl_eq.2 (.inr (.inr h))); have := c1.size; omega
      · have h5 := h2 k hk
        have := hRl r (.inl rfl); have := c1.size; omega
    refine ⟨fun q' n' e' w' => ∃ tb' : Option Nat, n' = (insO x O).length ∧ Ow w' q' (insO x O).length e' 3 ((insO x O).flatMap OF.cells) tb' ∧ (∀ k, tb' = some k → w1.heap.size ≤ k) ∧ Ch (fun _ => False) w1 w', ?_, ?_⟩
    · rintro q' n' e' w3 ⟨tb', rfl, h1, h2, h3⟩
      exact fin q' e' tb' w3 h1 h2 h3
    refine Sif_cases (fun gb => ?_) fun gb => ?_
    · have hb : b = false := by simpa using gb
      subst hb
      simp only [Bool.false_eq_true, if_false] at hT
      rw [hge, List.drop_length] at hT
      refine ⟨_, by rw [cell_blk b2]; rfl, _, _, _, by rw [cell_blk b2]; rfl, _, by rw [cell_blk b2]; rfl, pushF hTo x (by have h1 := congrArg List.length hT; have h2 := (insO_perm x O).length_eq; simp [insO] at h1 h2; omega) fun p' c' b'' w' o1 o2 o3 => ?_⟩
      have hT' : T ++ [x] = insO x O := hT
      rw [hT'] at o1 ⊢
      refine ⟨b'', rfl, o1, fun k hk => ?_, c2.trans o3 fun k hk h => ?_⟩
      · rcases o2 k hk with h | h
        · exact hTb k h
        · have h1 := c2.size; omega
      · have := hTb k h; omega
    · have hb : b = true := by simpa using gb
      subst hb
      rw [if_pos rfl, hge, List.drop_length, List.append_nil] at hT
      subst hT
      exact ⟨tb, rfl, hTo, hTb, c2⟩
end Go.Proofs.YtipololccbdojaaGreatDoor
namespace Go.Proofs.YtipololccbdojaaGreatDoor
open Go Go.Sv Go.MapKept
set_option linter.unusedVariables false
set_option maxRecDepth 4000

theorem set_split {α : Type} {l : List α} {i : Nat} {x : α} (h : l[i]? = some x) (y : α) : l.set i y = l.take i ++ y :: l.drop (i + 1) := by
  obtain ⟨hi, rfl⟩ := List.getElem?_eq_some_iff.1 h
  exact List.set_eq_take_append_cons_drop .. |>.trans (by rw [if_pos hi])
theorem dbl_at {O : List OF} {i : Nat} {x : OF} (h : O[i]? = some x) : (dbl O).Perm (x.own.toList ++ dbl (O.take i ++ O.drop (i + 1))) := by
  have h1 : O.Perm (x :: (O.take i ++ O.drop (i + 1))) := by
    conv => lhs; rw [split_at h]
    exact List.perm_middle
  exact dbl_perm h1
theorem dbl_set {O : List OF} {i : Nat} {x y : OF} (h : O[i]? = some x) : (dbl (O.set i y)).Perm (y.own.toList ++ dbl (O.take i ++ O.drop (i + 1))) := by
  rw [set_split h]
  exact dbl_perm (O := O.take i ++ y :: O.drop (i + 1)) List.perm_middle
/-- a store into one of the list's elements -/
theorem RK0.stEl {w : World} {r : Nat} {a : AD} {O : List OF} {p : Option Addr} {c : Nat} {ob : Option Nat} (R : RK0 w r a O p c ob) {i j : Nat} {x x' : OF} {v : Value} (hi : O[i]? = some x) (hj : j < 3) (hc : x'.cells = x.cells.set j v)
    (hd : Ow w x'.p x'.f.dat.length x'.c 1 (bytesV x'.f.dat) x'.own) (hown : ∀ k, x'.own = some k → x.own = some k ∨ ¬ rbl r ob O k) :
    ∃ kb ko, p = some ⟨kb, ko, none⟩ ∧ ob = some kb ∧ ∀ K : World → Prop, (∀ w', RK0 w' r { a with fs := (O.set i x').map (·.f) } (O.set i x') p c ob → Ch (· = kb) w w' → w'.heap.size = w.heap.size → K w') → Sv.st w ⟨kb, ko + i * 3 + j, none⟩ v K := by
  have hil : i < O.length := (List.getElem?_eq_some_iff.1 hi).1
  have hob := R.obn
  have hdn := R.dn
  have hat := dbl_at hi
  have hset := dbl_set (y := x') hi
  obtain ⟨⟨ac, h1, h2⟩, h3, h4, h5⟩ := R
  obtain ⟨kb, ko, rfl, rfl, hst⟩ := h3.row.st (i := i * 3 + j) (by omega)
  have hnd1 := hat.nodup_iff.1 hdn.1
  obtain ⟨n1, n2, n3⟩ := List.nodup_append.1 hnd1
  have hsub : ∀ k, k ∈ dbl (O.take i ++ O.drop (i + 1)) → k ∈ dbl O := fun k hk => hat.mem_iff.2 (List.mem_append.2 (.inr hk))
  have hmem : ∀ k, k ∈ dbl (O.set i x') → k ∈ dbl O ∨ x'.own = some k := fun k hk => by
    rcases List.mem_append.1 (hset.mem_iff.1 hk) with h | h
    · exact .inr (by simpa using h)
    · exact .inl (hsub k h)
  have hx'n : ∀ k, x'.own = some k → k ≠ r ∧ k ≠ kb ∧ k ∉ dbl (O.take i ++ O.drop (i + 1)) := fun k hk => by
    rcases hown k hk with h | h
    · have hin : k ∈ dbl O := hat.mem_iff.2 (List.mem_append.2 (.inl (by simp [h])))
      exact ⟨fun e => hdn.2 (e ▸ hin), fun e => (hob kb rfl).1 (e ▸ hin), fun h6 => n3 k (by simp [h]) k h6 rfl⟩
    · exact ⟨fun e => h (rbl_eq.2 (.inl e)), fun e => h (rbl_eq.2 (.inr (.inl (by rw [e])))), fun h6 => h (rbl_eq.2 (.inr (.inr (hsub k h6))))⟩
  refine ⟨kb, ko, rfl, rfl, fun K hK => ?_⟩
  rw [Nat.add_assoc]
  refine hst v K fun w' o' c' z' => hK w' ?_ c' z'
  have hlen : (O.set i x').length = O.length := by simp
  refine ⟨⟨ac, by rw [c'.blk (blk_lt h1) fun e => (hob kb rfl).2 e.symm, hlen]; exact h1, h2⟩, ⟨?_, fun o ho => ?_, ?_⟩, fun h => ?_, rfl⟩
  · rw [hlen, ← flat_set OF.cells_len O i j v hi hj hc]; exact o'
  · rw [set_split hi] at ho
    rcases List.mem_append.1 ho with h | h
    · have hoO := List.mem_of_mem_take h
      exact (h3.dat o hoO).ch c' fun k hk e => (hob kb rfl).1 (List.mem_flatMap.2 ⟨o, hoO, by simp [hk, e]⟩)
    · rcases List.mem_cons.1 h with rfl | h
      · exact hd.ch c' fun k hk e => (hx'n k hk).2.1 e
      · have hoO := List.mem_of_mem_drop h
        exact (h3.dat o hoO).ch c' fun k hk e => (hob kb rfl).1 (List.mem_flatMap.2 ⟨o, hoO, by simp [hk, e]⟩)
  · simp only [Option.toList_some, List.singleton_append]
    refine List.nodup_cons.2 ⟨fun h => ?_, hset.nodup_iff.2 ?_⟩
    · rcases hmem kb h with h | h
      · exact (hob kb rfl).1 h
      · exact (hx'n kb h).2.1 rfl
    · refine List.nodup_append.2 ⟨by cases x'.own <;> simp, n2, fun a ha b hb e => ?_⟩
      subst e
      exact (hx'n a (by simpa using ha)).2.2 hb
  · rcases List.mem_append.1 h with h | h
    · exact (hob r (by simpa [eq_comm] using h)).2 rfl
    · rcases hmem r h with h | h
      · exact hdn.2 h
      · exact (hx'n r h).1 rfl

/-! ### fall -/
def cutO (keep : Int) (x : OF) : OF := { x with f := cutF keep x.f, c := nCut x.f keep }
theorem Ow.cut {w : World} {p : Option Addr} {n c : Nat} {l : List UInt8} {b : Option Nat} (h : Ow w p n c 1 (bytesV l) b) {k : Nat} (hk : k ≤ n) : Ow w p k k 1 (bytesV (l.take k)) b := by
  obtain ⟨h1, h2, h3⟩ := h
  have hl : l.length = n := by simpa using h1
  refine ⟨by simp; omega, Nat.le_refl _, ?_⟩
  rcases h3 with ⟨h3, h4⟩ | ⟨b', o, cs, h3, hp, hb, hle, ht⟩
  · exact .inl ⟨h3, by omega⟩
  · refine .inr ⟨b', o, cs, h3, hp, hb, by omega, ?_⟩
    rw [bytesV_take, ← ht, List.take_take]; congr 1; omega
theorem rbl_map {r : Nat} {ob : Option Nat} {O : List OF} {g : OF → OF} (hg : ∀ x, (g x).own = x.own) : rbl r ob (O.map g) = rbl r ob O := by
  funext b
  apply propext
  rw [rbl_eq, rbl_eq]
  have : dbl (O.map g) = dbl O := by simp [dbl, List.flatMap_map, hg]
  rw [this]
set_option maxHeartbeats 1000000 in
theorem rfall_ok {w : World} {r : Nat} {a : AD} {O : List OF} {p : Option Addr} {c : Nat} {ob : Option Nat} {keep : Int} {K : Value → World → Prop} (R : RK0 w r a O p c ob) (hlen : O.length < 2 ^ 41) (wf : WF a) (hk1 : -9223372036854775808 ≤ keep)
    (hk : ∀ w', RK0 w' r (a.fall keep) (O.map (cutO keep)) p c ob → Ch (rbl r ob O) w w' → w'.heap.size = w.heap.size → K (.tuple #[]) w') :
    callP Tryz.prog 111 [.pointer (some ⟨r, 0, none⟩), .int .i64 keep] w K := by
  refine ok_longshoreref19_Disk_fall ?_
  unfold wp_longshoreref19_Disk_fall
  have hOl := R.len
  refine ⟨fun m k w' => ∃ i : Nat, k = i ∧ i ≤ O.length ∧ m = O.length - i ∧ RK0 w' r { a with fs := ((O.take i).map (cutO keep) ++ O.drop i).map (·.f) } ((O.take i).map (cutO keep) ++ O.drop i) p c ob ∧ Ch (rbl r ob O) w w' ∧ w'.heap.size = w.heap.size,
    ⟨O.length, 0, rfl, by omega, by omega, by simpa [R.hO] using R, Ch.refl _ _, rfl⟩, ?_⟩
  rintro m k w1 ⟨i, rfl, hi, rfl, R1, c1, z1⟩
  have hl1 : ((O.take i).map (cutO keep) ++ O.drop i).length = O.length := by simp; omega
  simp only [nn_some, add_at, Nat.zero_add]
  have hs1 := R1.slice
  rw [hl1] at hs1
  refine ⟨_, _, _, hs1, Sif_cases (fun g => ?_) fun g => ?_⟩
  · have hlt : i < O.length := by have := of_decide_eq_true g; omega
    have hy : O[i]? = some O[i] := List.getElem?_eq_getElem hlt
    have hdrop : O.drop i = O[i] :: O.drop (i + 1) := List.drop_eq_getElem_cons hlt
    have htake : O.take (i + 1) = O.take i ++ [O[i]] := by rw [List.take_add_one, hy]; rfl
    generalize O[i] = y at hy hdrop htake
    have hyf : y.f ∈ a.fs := R.hO ▸ List.mem_map.2 ⟨y, List.mem_of_getElem? hy, rfl⟩
    have hsafe := wf.safe y.f hyf
    have hdl := dat_le_total hyf
    have htot := wf.tot
    have hylen : y.f.dat.length ≤ y.c := (R.files.dat y (List.mem_of_getElem? hy)).2.1
    have hy1 : ((O.take i).map (cutO keep) ++ O.drop i)[i]? = some y := by
      rw [List.getElem?_append_right (by simp; omega), hdrop]
      simp [Nat.min_eq_left (Nat.le_of_lt hlt)]
    obtain ⟨kb, ko, rfl, g0, g1, g2⟩ := R1.files.rd.at hy1
    refine ⟨_, _, _, hs1, by omega, by omega, ?_⟩
    simp only [nn_some, add_at, Int.toNat_natCast, Nat.add_zero]
    refine ⟨_, _, _, g1, _, _, _, hs1, by omega, by omega, ?_⟩
    simp only [nn_some, add_at, Int.toNat_natCast, Nat.add_zero]
    refine ⟨_, g2, ?_⟩
    rw [nameI_iff, wrap_id (n := (y.f.dat.length : Int) - (y.f.safe : Int)) (by omega) (by omega)]
    -- what stays of the bytes: nCut
    refine ⟨fun n' w' => w' = w1 ∧ n' = nCut y.f keep, ?_, ?_⟩
    · rintro n' w2 ⟨rfl, rfl⟩
      have hcut := nCut_le y.f keep
      have Rd2 : RK0 w2.drew r _ _ _ _ _ := R1.ch (Ch.drew (S := fun _ => False) w2) fun _ _ => id
      have hsd := Rd2.slice
      rw [hl1] at hsd
      refine ⟨_, _, _, hsd, _, _, _, hsd, by omega, by omega, ?_⟩
      have g1d : w2.drew.cell? ⟨kb, ko + i * 3 + 1, none⟩ = some (.slice y.p y.f.dat.length y.c) := g1
      simp only [nn_some, add_at, Int.toNat_natCast, Nat.add_zero]
      refine ⟨_, _, _, g1d, by omega, by omega, by omega, by omega, by omega, by omega, ?_⟩
      have hyd := Rd2.files.dat y (List.mem_of_getElem? hy1)
      obtain ⟨kb', ko', e1, hob, hst⟩ := Rd2.stEl (j := 1) (x' := { y with f := { y.f with dat := y.f.dat.take (nCut y.f keep) }, c := nCut y.f keep }) (v := .slice y.p (nCut y.f keep) (nCut y.f keep)) hy1 (by omega)
        (by simp [OF.cells]; omega) (by
          have h6 := Ow.cut hyd hcut
          have h7 : (y.f.dat.take (nCut y.f keep)).length = nCut y.f keep := by simp; omega
          show Ow _ _ (y.f.dat.take (nCut y.f keep)).length _ _ _ _
          rw [h7]; exact h6) (fun k hk => .inl hk)
      cases e1
      refine hst _ fun w3 R3 c3 z3 => ?_
      have hs3 := R3.slice
      rw [List.length_set, hl1] at hs3
      have hy3 : (((O.take i).map (cutO keep) ++ O.drop i).set i { y with f := { y.f with dat := y.f.dat.take (nCut y.f keep) }, c := nCut y.f keep })[i]? = some { y with f := { y.f with dat := y.f.dat.take (nCut y.f keep) }, c := nCut y.f keep } := by
        rw [List.getElem?_set_self (by rw [hl1]; exact hlt)]
      have hyd3 := R3.files.dat _ (List.mem_of_getElem? hy3)
      refine ⟨_, _, _, hs3, by omega, by omega, ?_⟩
      simp only [nn_some, add_at, Int.toNat_natCast, Nat.add_zero]
      obtain ⟨kb', ko', e1, _, hst2⟩ := R3.stEl (j := 2) (x' := cutO keep y) (v := .int .i64 (nCut y.f keep)) hy3 (by omega) rfl hyd3 (fun k hk => .inl hk)
      cases e1
      refine hst2 _ fun w4 R4 c4 z4 => ?_
      rw [nameI_iff, wrap_id (by omega) (by omega)]
      have hfin : ((((O.take i).map (cutO keep) ++ O.drop i).set i { y with f := { y.f with dat := y.f.dat.take (nCut y.f keep) }, c := nCut y.f keep }).set i (cutO keep y)) = (O.take (i + 1)).map (cutO keep) ++ O.drop (i + 1) := by
        rw [List.set_set, hdrop, htake, List.map_append, List.set_append_right _ _ (by simp; omega)]
        simp [Nat.min_eq_left (Nat.le_of_lt hlt)]
      rw [hfin] at R4
      have hkb : rbl r ob O kb := rbl_eq.2 (.inr (.inl hob))
      refine ⟨O.length - (i + 1), by omega, i + 1, by simp, by omega, rfl, R4, ((c1.trans' (Ch.drew w2)).more c3 fun x hx => by rw [hx]; exact hkb).more c4 fun x hx => by rw [hx]; exact hkb, ?_⟩
      rw [z4, z3]; exact z1
    · refine Sif_cases (fun q => ⟨_, _, _, hs1, by omega, by omega, ?_⟩) fun q => ⟨rfl, ?_⟩
      · have q' := of_decide_eq_true q
        simp only [nn_some, add_at, Int.toNat_natCast, Nat.add_zero]
        refine ⟨_, g2, Sif_cases (fun q2 => ?_) fun q2 => ⟨by trivial, ?_⟩⟩
        · have q2' := of_decide_eq_true q2
          rw [nameI_iff, wrap_id (by omega) (by omega)]
          exact ⟨by trivial, by unfold nCut; omega⟩
        · have q2' := of_decide_eq_false q2
          unfold nCut; omega
      · have q' := of_decide_eq_false q
        unfold nCut; omega
  · have hge : i = O.length := by have := of_decide_eq_false g; omega
    subst hge
    rw [List.take_length, List.drop_length, List.append_nil] at R1
    have hff : (O.map (cutO keep)).map (·.f) = (a.fall keep).fs := by
      show _ = a.fs.map (cutF keep)
      rw [← R.hO, List.map_map, List.map_map]; rfl
    refine R1.stH (a' := { a with fs := (O.map (cutO keep)).map (·.f), down := true }) (by omega) rfl (fun ac h => ⟨ac, rfl, h⟩) fun w2 R2 c2 z2 => ?_
    refine R2.stH (a' := a.fall keep) (by omega) hff.symm (fun ac h => ⟨ac, by simp [AD.fall], fun h => by simp [AD.fall] at h⟩) fun w3 R3 c3 z3 => ?_
    exact hk w3 R3 ((c1.more c2 fun x hx => rbl_eq.2 (.inl hx)).more c3 fun x hx => rbl_eq.2 (.inl hx)) (by omega)
end Go.Proofs.YtipololccbdojaaGreatDoor
namespace Go.Proofs.YtipololccbdojaaGreatDoor
open Go Go.Sv Go.MapKept
set_option linter.unusedVariables false
set_option maxRecDepth 4000

theorem sub_flat {α β : Type} {f : α → List β} {l1 l2 : List α} (h : l1.Sublist l2) : (l1.flatMap f).Sublist (l2.flatMap f) := by
  induction h with
  | slnil => exact .slnil
  | cons a _ ih => rw [List.flatMap_cons]; exact ih.trans (List.sublist_append_right _ _)
  | cons_cons a _ ih => rw [List.flatMap_cons, List.flatMap_cons]; exact (List.Sublist.refl _).append ih
theorem lt_names {fs : List File} (h : fs.Pairwise ltN) : (fs.map (·.name)).Nodup := by
  unfold List.Nodup
  rw [List.pairwise_map]
  exact h.imp fun {x y} hxy e => by unfold ltN at hxy; rw [e] at hxy; exact List.lt_irrefl _ hxy
theorem sort_unique {fs fs2 : List File} (hp : fs.Perm fs2) (hs : fs.Pairwise ltN) : fs2.mergeSort leN = fs := by
  have hn := lt_names hs
  refine List.Perm.eq_of_pairwise (le := fun x y : File => x.name.data.toList ≤ y.name.data.toList) (fun x y hx hy h1 h2 => ?_) ?_ ?_ ((List.mergeSort_perm ..).trans hp.symm)
  · have hx' : x ∈ fs := ((List.mergeSort_perm fs2 leN).trans hp.symm).mem_iff.1 hx
    exact inj_of_nodup hn hx' hy (data_ext (List.le_antisymm h1 h2))
  · exact (List.pairwise_mergeSort (le := leN) (fun a b c h1 h2 => by simp [leN] at h1 h2 ⊢; exact List.le_trans h1 h2) (fun a b => by simp [leN]; exact List.le_total _ _) fs2).imp fun h => by simpa [leN] using h
  · exact hs.imp fun h => List.le_of_lt h
theorem sorted_self {a : AD} (h : a.fs.Pairwise ltN) : a.sorted = a := by
  show ({ a with fs := a.fs.mergeSort leN } : AD) = a
  rw [sort_unique (.refl _) h]
theorem RK.fin {w : World} {r : Nat} {a' a2 : AD} {O : List OF} {p : Option Addr} {c : Nat} {ob : Option Nat} (R : RK0 w r a' O p c ob) (hs : a'.fs.Pairwise ltN) (hp : a'.fs.Perm a2.fs) (he : a' = { a2 with fs := a'.fs }) : RK w r a2.sorted (rbl r ob O) := by
  have : a2.sorted = a' := by
    show ({ a2 with fs := a2.fs.mergeSort leN } : AD) = a'
    rw [sort_unique hp hs]; exact he.symm
  rw [this]
  exact ⟨⟨O, p, c, ob, R, rfl⟩, hs⟩
theorem ltN_map {fs : List File} {g : File → File} (hg : ∀ f, (g f).name = f.name) (h : fs.Pairwise ltN) : (fs.map g).Pairwise ltN := by
  rw [List.pairwise_map]
  exact h.imp fun {x y} hxy => by unfold ltN at hxy ⊢; rw [hg, hg]; exact hxy
abbrev RPost (w : World) (r : Nat) (a2 : AD) (B : Nat → Prop) (K : World → Prop) : Prop := ∀ w' B', RK w' r a2.sorted B' → Ch B w w' → (∀ b, B' b → B b ∨ w.heap.size ≤ b) → K w'
theorem rbl_sub {r : Nat} {ob ob' : Option Nat} {O O' : List OF} {n : Nat} (h1 : ∀ k, ob' = some k → ob = some k ∨ n ≤ k) (h2 : ∀ k, k ∈ dbl O' → k ∈ dbl O ∨ n ≤ k) : ∀ b, rbl r ob' O' b → rbl r ob O b ∨ n ≤ b := by
  intro b hb
  rcases rbl_eq.1 hb with h | h | h
  · exact .inl (rbl_eq.2 (.inl h))
  · exact (h1 b h).imp (fun h => rbl_eq.2 (.inr (.inl h))) id
  · exact (h2 b h).imp (fun h => rbl_eq.2 (.inr (.inr h))) id
set_option maxHeartbeats 1000000 in
theorem rtake_ok {w : World} {r : Nat} {a : AD} {O : List OF} {p : Option Addr} {c : Nat} {ob : Option Nat} {n : ByteArray} {K : Value → World → Prop} (R : RK0 w r a O p c ob) (hlen : O.length < 2 ^ 41)
    (hk : ∀ p' c' ob' w', RK0 w' r { a with fs := a.fs.filter fun f => decide (f.name ≠ n) } (O.filter fun o => decide (o.f.name ≠ n)) p' c' ob' → Ch (fun k => k = r) w w' → (∀ k, ob' = some k → w.heap.size ≤ k) → K (.tuple #[]) w') :
    callP Tryz.prog 133 [.pointer (some ⟨r, 0, none⟩), .string n] w K := by
  refine ok_longshoreref19_Disk_take ?_
  unfold wp_longshoreref19_Disk_take
  refine ⟨fun m q t e k w' => ∃ (i : Nat) (tb : Option Nat), k = i ∧ i ≤ O.length ∧ m = O.length - i ∧ t = ((O.take i).filter fun o => decide (o.f.name ≠ n)).length ∧
    Ow w' q ((O.take i).filter fun o => decide (o.f.name ≠ n)).length e 3 (((O.take i).filter fun o => decide (o.f.name ≠ n)).flatMap OF.cells) tb ∧ (∀ k, tb = some k → w.heap.size ≤ k) ∧ Ch (fun _ => False) w w',
    ⟨O.length, 0, none, rfl, by omega, by omega, by simp, by simpa using Ow.nil, by simp, Ch.refl _ _⟩, ?_⟩
  rintro m q t e k w1 ⟨i, tb, rfl, hi, rfl, rfl, hTo, hTb, c1⟩
  have R1 := R.ch c1 fun _ _ => id
  simp only [nn_some, add_at, Nat.zero_add]
  refine ⟨_, _, _, R1.slice, Sif_cases (fun g => ?_) fun g => ?_⟩
  · have hlt : i < O.length := by have := of_decide_eq_true g; omega
    have hy : O[i]? = some O[i] := List.getElem?_eq_getElem hlt
    have htake : O.take (i + 1) = O.take i ++ [O[i]] := by rw [List.take_add_one, hy]; rfl
    generalize O[i] = y at hy htake
    refine ⟨fun q' t' e' w' => ∃ (tb' : Option Nat), t' = ((O.take (i + 1)).filter fun o => decide (o.f.name ≠ n)).length ∧
      Ow w' q' ((O.take (i + 1)).filter fun o => decide (o.f.name ≠ n)).length e' 3 (((O.take (i + 1)).filter fun o => decide (o.f.name ≠ n)).flatMap OF.cells) tb' ∧ (∀ k, tb' = some k → w.heap.size ≤ k) ∧ Ch (fun _ => False) w w', ?_, ?_⟩
    · rintro q' t' e' w2 ⟨tb', rfl, h1, h2, h3⟩
      rw [nameI_iff, wrap_id (by omega) (by omega)]
      exact ⟨O.length - (i + 1), by omega, i + 1, tb', by simp, by omega, rfl, rfl, h1, h2, h3⟩
    obtain ⟨yb, yo, rfl, g0, g1, g2⟩ := R1.files.rd.at hy
    refine ⟨_, _, _, R1.slice, by omega, by omega, ?_⟩
    simp only [nn_some, add_at, Int.toNat_natCast, Nat.add_zero]
    refine ⟨_, g0, Sif_cases (fun q1 => ⟨_, _, _, R1.slice, by omega, by omega, ?_⟩) fun q1 => ?_⟩
    · simp only [nn_some, add_at, Int.toNat_natCast, Nat.add_zero]
      have hne : y.f.name ≠ n := fun e => by rw [e] at q1; simp at q1
      have hf : (O.take (i + 1)).filter (fun o => decide (o.f.name ≠ n)) = (O.take i).filter (fun o => decide (o.f.name ≠ n)) ++ [y] := by rw [htake, List.filter_append]; simp [hne]
      refine ⟨_, g0, _, _, _, g1, _, g2, ?_⟩
      rw [hf]
      have hfl := List.length_filter_le (fun o : OF => decide (o.f.name ≠ n)) (O.take i)
      rw [List.length_take] at hfl
      refine pushF hTo y (by omega) fun p' c' b'' w' o1 o2 o3 => ⟨b'', rfl, o1, fun k hk => ?_, c1.trans o3 fun k hk h => ?_⟩
      · rcases o2 k hk with h | h
        · exact hTb k h
        · have := c1.size; omega
      · have := hTb k h; omega
    · have hne : y.f.name = n := eqS (by simpa using q1)
      have hf : (O.take (i + 1)).filter (fun o => decide (o.f.name ≠ n)) = (O.take i).filter (fun o => decide (o.f.name ≠ n)) := by rw [htake, List.filter_append]; simp [hne]
      rw [hf]
      exact ⟨tb, rfl, hTo, hTb, c1⟩
  · have hge : i = O.length := by have := of_decide_eq_false g; omega
    subst hge
    rw [List.take_length] at hTo ⊢
    have hsub : ((dbl (O.filter fun o => decide (o.f.name ≠ n))).Sublist (dbl O)) := sub_flat List.filter_sublist
    have hdn := R.dn
    have hRl := R.lt
    refine R1.relist hTo (fun o ho => R1.files.dat o (List.mem_filter.1 ho).1) (hsub.nodup hdn.1) (fun h => hdn.2 (hsub.subset h)) (fun k hk => ⟨fun h => ?_, fun h => ?_⟩) fun w2 R2 c2 z2 => ?_
    · have h1 := hTb k hk
      have h2 := hRl k (rbl_eq.2 (.inr (.inr (hsub.subset h))))
      omega
    · have h1 := hTb k hk
      have h2 := hRl r (.inl rfl)
      omega
    · have hff : (O.filter fun o => decide (o.f.name ≠ n)).map (·.f) = a.fs.filter fun f => decide (f.name ≠ n) := by rw [← R.hO, List.filter_map]; rfl
      rw [hff] at R2
      exact hk q e tb w2 R2 ((c1.mono fun _ _ h => h.elim).trans' c2) hTb
theorem rfails_ok {w : World} {r : Nat} {a : AD} {O : List OF} {p : Option Addr} {c : Nat} {ob : Option Nat} {K : Value → World → Prop} (R : RK0 w r a O p c ob) (h1 : -1 ≤ a.acts) (h2 : a.acts ≤ 9223372036854775807)
    (hk : ∀ w', RK0 w' r a.act O p c ob → Ch (fun k => k = r) w w' → w'.heap.size = w.heap.size → K (.bool (a.acts == 0)) w') : callP Tryz.prog 132 [.pointer (some ⟨r, 0, none⟩)] w K := by
  refine ok_longshoreref19_Disk_fails ?_
  unfold wp_longshoreref19_Disk_fails
  simp only [nn_some, add_at, Nat.zero_add]
  obtain ⟨ac, hb, hac⟩ := R.head
  refine ⟨_, by rw [cell_blk hb]; rfl, Sif_cases (fun g => ?_) fun g => ⟨ac, by rw [cell_blk hb]; rfl, Sif_cases (fun g2 => ?_) fun g2 => ⟨ac, by rw [cell_blk hb]; rfl, ?_⟩⟩⟩
  · have h3 : a.acts = -1 := by simp at g; omega
    have := hk w (by
      have : a.act = a := by unfold AD.act actsN; rw [h3]; cases a; simp at h3; subst h3; rfl
      rw [this]; exact R) (Ch.refl _ _) rfl
    rw [h3] at this; exact this
  · have h3 : 0 ≤ a.acts := by simpa using g
    have h4 := hac h3
    have h5 : a.acts = 0 := by rw [← h4]; simpa using g2
    have := hk w (by
      have : a.act = a := by unfold AD.act actsN; rw [h5]; cases a; simp at h5; subst h5; rfl
      rw [this]; exact R) (Ch.refl _ _) rfl
    rw [h5] at this; exact this
  · have h3 : 0 ≤ a.acts := by simpa using g
    have h4 := hac h3
    have h5 : a.acts ≠ 0 := by rw [← h4]; simpa using g2
    rw [wrap_id (by omega) (by omega)]
    refine R.stH (a' := a.act) (by omega) rfl (fun ac' h' => ⟨ac - 1, ?_, fun _ => ?_⟩) fun w' R' c' z' => ?_
    · have h6 := h' h3
      subst h6
      simp [AD.act, actsN, h5]
      omega
    · simp [AD.act, actsN, h5]; omega
    · have h6 : (a.acts == 0) = false := by simpa using h5
      have := hk w' R' c' z'
      rw [h6] at this; exact this
theorem rasked_ok {w : World} {r : Nat} {a : AD} {O : List OF} {p : Option Addr} {c : Nat} {ob : Option Nat} {n : ByteArray} {K : Value → World → Prop} (R : RK0 w r a O p c ob) (hlen : O.length ≤ 2 ^ 60) (hs : n.size ≤ 9223372036854775807)
    (hk : K (.int .i64 (a.err [n] n)) w) : callP Tryz.prog 131 [.pointer (some ⟨r, 0, none⟩), .string n] w K := by
  refine ok_longshoreref19_Disk_asked ?_
  unfold wp_longshoreref19_Disk_asked
  refine rIsName_ok hs ⟨_, rfl, ?_⟩
  simp only [nn_some, add_at, Nat.zero_add]
  unfold AD.err at hk
  refine ⟨_, R.downC, Sif_cases (fun g => ?_) fun g => ?_⟩
  · rw [if_pos g] at hk; exact hk
  rw [if_neg (by simp [g])] at hk
  refine Sif_cases (fun g2 => ?_) fun g2 => ?_
  · have h2 : nameOk n = false := by simpa using g2
    rw [if_pos (by simp [h2])] at hk; exact hk
  have h2 : nameOk n = true := by simpa using g2
  rw [if_neg (by simp [h2])] at hk
  refine rfind_ok R hlen fun k hkk => ⟨k, rfl, ?_⟩
  rcases hkk with ⟨i, x, rfl, hx, hxn⟩ | ⟨rfl, hno⟩
  · have h3 : a.has n = true := by
      unfold AD.has
      rw [← R.hO, List.any_eq_true]
      exact ⟨x.f, List.mem_map.2 ⟨x, List.mem_of_getElem? hx, rfl⟩, by simp [hxn]⟩
    rw [if_neg (by simp [h3])] at hk
    exact Sif_cases (fun g3 => by have := of_decide_eq_true g3; omega) fun _ => hk
  · have h3 : a.has n = false := by
      unfold AD.has
      rw [← R.hO, List.any_eq_false]
      intro f hf
      obtain ⟨x, hx, rfl⟩ := List.mem_map.1 hf
      simpa using hno x hx
    rw [if_pos h3] at hk
    exact Sif_cases (fun _ => hk) fun g3 => by simp at g3
theorem rstart_ok {w : World} {r : Nat} {a : AD} {B : Nat → Prop} {K : Value → World → Prop} (R : RK w r a B) (hk : RPost w r { a with down := false } B (K (.tuple #[]))) : callP Tryz.prog 75 [.pointer (some ⟨r, 0, none⟩)] w K := by
  obtain ⟨⟨O, p, c, ob, R0, rfl⟩, hs⟩ := R
  refine ok_longshoreref19_Disk_Start ?_
  unfold wp_longshoreref19_Disk_Start
  simp only [nn_some, add_at, Nat.zero_add]
  refine R0.stH (a' := { a with down := false }) (by omega) rfl (fun ac h => ⟨ac, rfl, h⟩) fun w' R' c' z' => hk w' _ (RK.fin R' hs (.refl _) rfl) (c'.mono fun x _ hx => .inl hx) fun b hb => .inl hb
theorem rarm_ok {w : World} {r : Nat} {a : AD} {B : Nat → Prop} {acts keep : Int} {K : Value → World → Prop} (R : RK w r a B) (hk : RPost w r (a.arm acts keep) B (K (.tuple #[]))) : callP Tryz.prog 73 [.pointer (some ⟨r, 0, none⟩), .int .i64 acts, .int .i64 keep] w K := by
  obtain ⟨⟨O, p, c, ob, R0, rfl⟩, hs⟩ := R
  refine ok_longshoreref19_Disk_Arm ?_
  unfold wp_longshoreref19_Disk_Arm
  simp only [nn_some, add_at, Nat.zero_add]
  unfold AD.arm at hk
  refine ⟨_, R0.downC, Sif_cases (fun g => ?_) fun g => ?_⟩
  · rw [if_pos g] at hk
    exact hk w _ (RK.fin R0 hs (.refl _) rfl) (Ch.refl _ _) fun b hb => .inl hb
  rw [if_neg (by simp [g])] at hk
  obtain ⟨⟨ac, h1, h2⟩, h3, h4, h5⟩ := R0
  refine st_blk h1 (by simp) fun w1 b1 c1 z1 => ?_
  refine st_blk b1 (by simp) fun w2 b2 c2 z2 => ?_
  refine st_blk b2 (by simp) fun w3 b3 c3 z3 => ?_
  have hc := (c1.trans' c2).trans' c3
  refine hk w3 (rbl r ob O) (RK.fin (a' := { a with acts := max acts (-1), keep := keep }) ⟨⟨acts, ?_, fun h => ?_⟩, h3.ch hc fun b hb e => h4 (e ▸ hb), h4, h5⟩ hs (.refl _) rfl) (hc.mono fun x _ hx => .inl hx) fun b hb => .inl hb
  · rw [b3]
    simp only [List.set_cons_succ, List.set_cons_zero]
    rw [decide_eq_decide.2 (by omega : acts ≥ 0 ↔ 0 ≤ max acts (-1))]
  · simp at h ⊢; omega
theorem RK0.small {w : World} {r : Nat} {a : AD} {O : List OF} {p : Option Addr} {c : Nat} {ob : Option Nat} (R : RK0 w r a O p c ob) (h : a.fs.length < 2 ^ 41) : O.length < 2 ^ 41 := by rw [R.len]; exact h
theorem rcrash_ok {w : World} {r : Nat} {a : AD} {B : Nat → Prop} {keep : Int} {K : Value → World → Prop} (R : RK w r a B) (wf : WF a) (hlen : a.fs.length < 2 ^ 41) (hk1 : -9223372036854775808 ≤ keep) (hk : RPost w r (a.crash keep) B (K (.tuple #[]))) : callP Tryz.prog 74 [.pointer (some ⟨r, 0, none⟩), .int .i64 keep] w K := by
  obtain ⟨⟨O, p, c, ob, R0, rfl⟩, hs⟩ := R
  refine ok_longshoreref19_Disk_Crash ?_
  unfold wp_longshoreref19_Disk_Crash
  simp only [nn_some, add_at, Nat.zero_add]
  unfold AD.crash at hk
  refine ⟨_, R0.downC, Sif_cases (fun g => ?_) fun g => ?_⟩
  · rw [if_neg (by simpa using g)] at hk
    refine rfall_ok R0 (R0.small hlen) wf hk1 fun w' R' c' z' => ⟨rfl, hk w' _ (RK.fin R' (ltN_map (fun _ => rfl) hs) (.refl _) rfl) c' fun b hb => .inl ?_⟩
    rw [rbl_map (g := cutO keep) fun _ => rfl] at hb; exact hb
  · rw [if_pos (by simpa using g)] at hk
    exact hk w _ (RK.fin R0 hs (.refl _) rfl) (Ch.refl _ _) fun b hb => .inl hb
end Go.Proofs.YtipololccbdojaaGreatDoor
