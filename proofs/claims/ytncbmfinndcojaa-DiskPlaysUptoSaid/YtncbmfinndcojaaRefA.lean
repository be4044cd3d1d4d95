/-
  The document's disk in memory (longshoreref19), and its small functions.
-/
import Derived.Test.YtncbmfinndcojaaDiskN
import Derived.Test.YtncbmfinndcojaaRefWp
namespace Go.Proofs.Ytncbmfinndcojaa
open Go Go.Sv Go.MapKept
set_option linter.unusedVariables false
set_option maxRecDepth 4000

theorem OF.cells_one (o : OF) : ∀ v ∈ o.cells, oneV v = true := by intro v hv; simp [OF.cells] at hv; rcases hv with rfl | rfl | rfl <;> rfl
def ltN (x y : File) : Prop := x.name.data.toList < y.name.data.toList
/-- the document's disk at block r: what it holds, its list's elements O -/
structure RK0 (w : World) (r : Nat) (a : AD) (O : List OF) (p : Option Addr) (c : Nat) (ob : Option Nat) : Prop where
  head : ∃ ac : Int, blk w r = some [.slice p O.length c, .int .i64 a.room, .bool a.down, .bool (decide (0 ≤ a.acts)), .int .i64 ac, .int .i64 a.keep] ∧ (0 ≤ a.acts → ac = a.acts)
  files : FilesR w p c ob O
  apart : r ∉ FilesR.bl ob O
  hO : O.map (·.f) = a.fs
def rbl (r : Nat) (ob : Option Nat) (O : List OF) : Nat → Prop := fun b => b = r ∨ b ∈ FilesR.bl ob O
structure RK (w : World) (r : Nat) (a : AD) (B : Nat → Prop) : Prop where
  ex : ∃ O p c ob, RK0 w r a O p c ob ∧ B = rbl r ob O
  sort : a.fs.Pairwise ltN
theorem RK0.ch {S : Nat → Prop} {w w' : World} {r : Nat} {a : AD} {O : List OF} {p : Option Addr} {c : Nat} {ob : Option Nat} (R : RK0 w r a O p c ob) (hc : Ch S w w') (hn : ∀ b, rbl r ob O b → ¬ S b) : RK0 w' r a O p c ob := by
  obtain ⟨⟨ac, h1, h2⟩, h3, h4, h5⟩ := R
  exact ⟨⟨ac, by rw [hc.blk (blk_lt h1) (hn r (.inl rfl))]; exact h1, h2⟩, h3.ch hc fun b hb => hn b (.inr hb), h4, h5⟩
theorem RK.ch {S : Nat → Prop} {w w' : World} {r : Nat} {a : AD} {B : Nat → Prop} (R : RK w r a B) (hc : Ch S w w') (hn : ∀ b, B b → ¬ S b) : RK w' r a B := by
  obtain ⟨⟨O, p, c, ob, R0, rfl⟩, hs⟩ := R
  exact ⟨⟨O, p, c, ob, R0.ch hc hn, rfl⟩, hs⟩
theorem RK0.lt {w : World} {r : Nat} {a : AD} {O : List OF} {p : Option Addr} {c : Nat} {ob : Option Nat} (R : RK0 w r a O p c ob) : ∀ b, rbl r ob O b → b < w.heap.size := by
  obtain ⟨⟨ac, h1, h2⟩, h3, h4, h5⟩ := R
  rintro b (rfl | hb)
  · exact blk_lt h1
  · exact h3.lt b hb
theorem RK.lt {w : World} {r : Nat} {a : AD} {B : Nat → Prop} (R : RK w r a B) : ∀ b, B b → b < w.heap.size := by
  obtain ⟨⟨O, p, c, ob, R0, rfl⟩, hs⟩ := R
  exact R0.lt
theorem RK0.len {w : World} {r : Nat} {a : AD} {O : List OF} {p : Option Addr} {c : Nat} {ob : Option Nat} (R : RK0 w r a O p c ob) : O.length = a.fs.length := by have := congrArg List.length R.hO; simpa using this
theorem RK0.slice {w : World} {r : Nat} {a : AD} {O : List OF} {p : Option Addr} {c : Nat} {ob : Option Nat} (R : RK0 w r a O p c ob) : w.cell? ⟨r, 0, none⟩ = some (.slice p O.length c) := by obtain ⟨ac, h1, _⟩ := R.head; rw [cell_blk h1]; rfl
theorem RK0.roomC {w : World} {r : Nat} {a : AD} {O : List OF} {p : Option Addr} {c : Nat} {ob : Option Nat} (R : RK0 w r a O p c ob) : w.cell? ⟨r, 1, none⟩ = some (.int .i64 a.room) := by obtain ⟨ac, h1, _⟩ := R.head; rw [cell_blk h1]; rfl
theorem RK0.downC {w : World} {r : Nat} {a : AD} {O : List OF} {p : Option Addr} {c : Nat} {ob : Option Nat} (R : RK0 w r a O p c ob) : w.cell? ⟨r, 2, none⟩ = some (.bool a.down) := by obtain ⟨ac, h1, _⟩ := R.head; rw [cell_blk h1]; rfl
theorem RK0.keepC {w : World} {r : Nat} {a : AD} {O : List OF} {p : Option Addr} {c : Nat} {ob : Option Nat} (R : RK0 w r a O p c ob) : w.cell? ⟨r, 5, none⟩ = some (.int .i64 a.keep) := by obtain ⟨ac, h1, _⟩ := R.head; rw [cell_blk h1]; rfl

theorem rIsName_ok {s : ByteArray} {w : World} {K : Value → World → Prop} (hs : s.size ≤ 9223372036854775807) (hk : K (.bool (nameOk s)) w) : callP Try.prog 37 [.string s] w K := by
  refine ok_longshoreref19_IsName ?_
  unfold wp_longshoreref19_IsName
  refine ⟨fun m n w' => w' = w ∧ 0 ≤ n ∧ n ≤ s.size ∧ m = s.size - n.toNat ∧ ∀ i, i < n.toNat → okc (byteAt s i) = true, ⟨s.size, rfl, by omega, by omega, by simp, fun i hi => by simp at hi⟩, ?_⟩
  rintro m n w1 ⟨rfl, h0, h1, hm, hall⟩
  have bad : n < s.size → okc (byteAt s n.toNat) = false → nameOk s = false := fun hn hb => by
    have : (List.range s.size).all (fun i => okc (byteAt s i)) = false := by
      rw [List.all_eq_false]
      exact ⟨n.toNat, by simp; omega, by simp [hb]⟩
    simp [nameOk, this]
  refine Sif_cases (fun hn => ?_) fun hn => ?_
  · have hn' : n < s.size := by simpa using hn
    refine ⟨fun w2 => w2 = w1 ∧ okc (byteAt s n.toNat) = true, ?_, h0, hn', ?_⟩
    · rintro w2 ⟨rfl, hok⟩
      rw [nameI_iff]
      refine ⟨m - 1, by omega, rfl, ?_, ?_, ?_, ?_⟩
      · rw [wrap_id (by omega) (by omega)]; omega
      · rw [wrap_id (by omega) (by omega)]; omega
      · rw [wrap_id (by omega) (by omega)]; omega
      · intro i hi
        rw [wrap_id (by omega) (by omega)] at hi
        by_cases hin : i < n.toNat
        · exact hall i hin
        · have : i = n.toNat := by omega
          rw [this]; exact hok
    · generalize hc : byteAt s n.toNat = ch at *
      refine Sif_cases (fun g1 => ⟨h0, hn', Sif_cases (fun g2 => ⟨h0, hn', Sif_cases (fun g3 => ?_) fun g3 => ⟨rfl, ?_⟩⟩) fun g2 => ?_⟩) fun g1 => ⟨rfl, ?_⟩
      · rw [← bad hn' (by simp at g1 g2 g3; simp [okc, g1]; omega)]; exact hk
      · simp at g1 g2 g3; simp [okc]; omega
      · rw [← bad hn' (by simp at g1 g2; simp [okc, g1]; omega)]; exact hk
      · simp at g1; simp [okc, g1]
  · have hn' : ¬ n < s.size := by simpa using hn
    have hall' : (List.range s.size).all (fun i => okc (byteAt s i)) = true := by
      rw [List.all_eq_true]
      intro i hi
      have : i < s.size := by simpa using hi
      exact hall i (by omega)
    have e : nameOk s = (decide (1 ≤ s.size) && decide (s.size ≤ 16)) := by simp [nameOk, hall']
    refine Sif_cases (fun g => ?_) fun g => ?_
    · have g' : 1 ≤ s.size := by simp at g; omega
      have : decide ((↑s.size : Int) ≤ 16) = nameOk s := by
        rw [e]; simp only [g', decide_true, Bool.true_and]; rw [decide_eq_decide]; omega
      rw [this]; exact hk
    · have g' : ¬ 1 ≤ s.size := by simp at g; omega
      rw [e] at hk; simpa [g'] using hk
theorem neS {a b : ByteArray} (h : a ≠ b) : (a.toList == b.toList) = false := by
  rw [beq_eq_false_iff_ne, ByteArray.toList_eq, ByteArray.toList_eq]
  exact fun e => h (data_ext e)
theorem eqS {a b : ByteArray} (h : (a.toList == b.toList) = true) : a = b := by
  have h5 := beq_iff_eq.1 h
  rw [ByteArray.toList_eq, ByteArray.toList_eq] at h5
  exact data_ext h5
theorem rfind_ok {w : World} {r : Nat} {a : AD} {O : List OF} {p : Option Addr} {c : Nat} {ob : Option Nat} {n : ByteArray} {K : Value → World → Prop} (R : RK0 w r a O p c ob) (hlen : O.length ≤ 2 ^ 60)
    (hk : ∀ k : Int, ((∃ (i : Nat) (x : OF), k = i ∧ O[i]? = some x ∧ x.f.name = n) ∨ (k = -1 ∧ ∀ x ∈ O, x.f.name ≠ n)) → K (.int .i64 k) w) : callP Try.prog 38 [.pointer (some ⟨r, 0, none⟩), .string n] w K := by
  refine ok_longshoreref19_Disk_find ?_
  unfold wp_longshoreref19_Disk_find
  refine ⟨fun m k w' => ∃ i : Nat, k = i ∧ i ≤ O.length ∧ m = O.length - i ∧ w' = w ∧ ∀ (j : Nat) (x : OF), j < i → O[j]? = some x → x.f.name ≠ n, ⟨O.length, 0, rfl, by omega, by omega, rfl, fun j x hj => by omega⟩, ?_⟩
  rintro m k w1 ⟨i, rfl, hi, rfl, rfl, hne⟩
  simp only [nn_some, add_at, Nat.zero_add]
  refine ⟨_, _, _, R.slice, Sif_cases (fun g => ?_) fun g => ?_⟩
  · have hlt : i < O.length := by have := of_decide_eq_true g; omega
    have hx : O[i]? = some O[i] := List.getElem?_eq_getElem hlt
    generalize O[i] = x at hx
    obtain ⟨b, o, rfl, h0, h1, h2⟩ := R.files.rd.at hx
    refine ⟨_, _, _, R.slice, by omega, by omega, ?_⟩
    simp only [nn_some, add_at, Int.toNat_natCast, Nat.add_zero]
    refine ⟨_, h0, Sif_cases (fun q => hk _ (.inl ⟨i, x, rfl, hx, eqS q⟩)) fun q => ?_⟩
    rw [nameI_iff, wrap_id (by omega) (by omega)]
    refine ⟨O.length - (i + 1), by omega, i + 1, by simp, by omega, rfl, by trivial, fun j y hj hy => ?_⟩
    by_cases hji : j = i
    · subst hji
      rw [hx] at hy; cases hy
      intro e; rw [e] at q; simp at q
    · exact hne j y (by omega) hy
  · refine hk _ (.inr ⟨rfl, fun x hx => ?_⟩)
    obtain ⟨j, hj⟩ := List.getElem?_of_mem hx
    have := of_decide_eq_false g
    exact hne j x (by have := (List.getElem?_eq_some_iff.1 hj).1; omega) hj
theorem total_take (fs : List File) (i : Nat) (f : File) (h : fs[i]? = some f) : total (fs.take (i + 1)) = total (fs.take i) + f.dat.length := by
  rw [List.take_add_one, h]; simp [total]
theorem total_le_take (fs : List File) (i : Nat) : total (fs.take i) ≤ total fs := by
  have h1 : total fs = total (fs.take i) + total (fs.drop i) := by
    unfold total
    rw [← List.sum_append_nat, ← List.map_append, List.take_append_drop]
  omega
theorem rused_ok {w : World} {r : Nat} {a : AD} {O : List OF} {p : Option Addr} {c : Nat} {ob : Option Nat} {K : Value → World → Prop} (R : RK0 w r a O p c ob) (hlen : O.length ≤ 2 ^ 60) (htot : total a.fs ≤ 2 ^ 62)
    (hk : K (.int .i64 (total a.fs)) w) : callP Try.prog 41 [.pointer (some ⟨r, 0, none⟩)] w K := by
  refine ok_longshoreref19_Disk_used ?_
  unfold wp_longshoreref19_Disk_used
  refine ⟨fun m t k w' => ∃ i : Nat, k = i ∧ i ≤ O.length ∧ m = O.length - i ∧ w' = w ∧ t = total (a.fs.take i), ⟨O.length, 0, rfl, by omega, by omega, rfl, by simp [total]⟩, ?_⟩
  rintro m t k w1 ⟨i, rfl, hi, rfl, rfl, rfl⟩
  simp only [nn_some, add_at, Nat.zero_add]
  have hol := R.len
  refine ⟨_, _, _, R.slice, Sif_cases (fun g => ?_) fun g => ?_⟩
  · have hlt : i < O.length := by have := of_decide_eq_true g; omega
    have hx : O[i]? = some O[i] := List.getElem?_eq_getElem hlt
    generalize O[i] = x at hx
    have hf : a.fs[i]? = some x.f := by rw [← R.hO, List.getElem?_map, hx]; rfl
    obtain ⟨b, o, rfl, h0, h1, h2⟩ := R.files.rd.at hx
    refine ⟨_, _, _, R.slice, by omega, by omega, ?_⟩
    simp only [nn_some, add_at, Int.toNat_natCast, Nat.add_zero]
    have h3 := total_take a.fs i x.f hf
    have h4 := total_le_take a.fs (i + 1)
    refine ⟨_, _, _, h1, ?_⟩
    rw [nameI_iff, nameI_iff, wrap_id (n := (i : Int) + 1) (by omega) (by omega), wrap_id (by omega) (by omega)]
    exact ⟨O.length - (i + 1), by omega, i + 1, by simp, by omega, rfl, by trivial, by rw [h3]; simp⟩
  · have := of_decide_eq_false g
    rw [List.take_of_length_le (by omega)]
    exact hk
theorem rcopied_ok {s : Option Addr} {n c : Nat} {w : World} {K : Value → World → Prop} {l : List UInt8} (h : Rd w s n 1 (bytesV l)) (hn : n ≤ 2 ^ 46)
    (hk : ∀ p' c' w' b', Ow w' p' n c' 1 (bytesV l) b' → (∀ k, b' = some k → w.heap.size ≤ k) → Ch (fun _ => False) w w' → K (.slice p' n c') w') : callP Try.prog 39 [.slice s n c] w K := by
  refine ok_longshoreref19_copied ?_
  unfold wp_longshoreref19_copied
  obtain ⟨p', c', w', b', h1, h2, h3, h4, _⟩ := append_rd (ty := 31) (c2 := c) Try.underlying31 Try.underlying31 byte_info rfl (xs := []) (n := 0) (c := 0) (b := none) (p := none) (w := w) ⟨rfl, Nat.le_refl _, .inl ⟨rfl, rfl⟩⟩ h (bytesV_one l) (by omega) (by omega)
  rw [Nat.zero_add] at h1 h2
  refine ⟨p', n, c', w', h1, hk p' c' w' b' h2 (fun k hk => ?_) (h4.mono fun x _ hx => by cases hx)⟩
  rcases h3 k hk with h3 | h3
  · cases h3
  · omega
theorem rnew_ok {w : World} {room : Int} {K : Value → World → Prop}
    (hno : room < 0 ∨ room > 16777216 → K (.pointer none) w)
    (hk : 0 ≤ room → room ≤ 16777216 → ∀ r w' B', RK w' r (newA room) B' → Ch (fun _ => False) w w' → (∀ b, B' b → w.heap.size ≤ b) → K (.pointer (some ⟨r, 0, none⟩)) w') :
    callP Try.prog 21 [.int .i64 room] w K := by
  refine ok_longshoreref19_New ?_
  unfold wp_longshoreref19_New
  refine ⟨fun w' => w' = w ∧ 0 ≤ room ∧ room ≤ 16777216, ?_, Sif_cases (fun g => Sif_cases (fun g2 => ?_) fun g2 => ?_) fun g => ?_⟩
  · rintro w1 ⟨rfl, h1, h2⟩
    refine newB_blk fun w3 b3 c3 z3 => ?_
    refine hk h1 h2 w1.heap.size w3 _ ⟨⟨[], none, 0, none, ⟨⟨0, b3, by simp [newA]⟩, ⟨Ow.nil, by simp, by simp⟩, by simp [FilesR.bl], rfl⟩, rfl⟩, by simp [newA]⟩ c3 fun b hb => ?_
    rcases hb with rfl | hb
    · exact Nat.le_refl _
    · simp [FilesR.bl] at hb
  · exact hno (.inr (by have := of_decide_eq_true g2; omega))
  · have h1 : ¬ room < 0 := by simpa using g
    have h2 : ¬ room > 16777216 := of_decide_eq_false g2
    exact ⟨rfl, by omega, by omega⟩
  · have h1 : room < 0 := by simpa using g
    exact hno (.inl h1)
theorem rup_ok {w : World} {r : Nat} {a : AD} {B : Nat → Prop} {K : Value → World → Prop} (R : RK w r a B) (hk : K (.bool (!a.down)) w) : callP Try.prog 23 [.pointer (some ⟨r, 0, none⟩)] w K := by
  obtain ⟨⟨O, p, c, ob, R0, rfl⟩, hs⟩ := R
  refine ok_longshoreref19_Disk_Up ?_
  unfold wp_longshoreref19_Disk_Up
  simp only [nn_some, add_at, Nat.zero_add]
  exact ⟨_, R0.downC, hk⟩
end Go.Proofs.Ytncbmfinndcojaa
