/-
  The disk in memory, and the contracts of its small functions: cloning bytes, the names' rule, the next act, the finding of a file.
-/
import Derived.Test.YtncbmfinndcojaaKeys
import Derived.Test.YtncbmfinndcojaaDiskWp
import Derived.Test.YtncbmfinndcojaaLocks
namespace Go.Proofs.Ytncbmfinndcojaa
open Go Go.Sv Go.MapKept
set_option linter.unusedVariables false

theorem byte_info : InfoIs Try.prog 5 1 1 (.int .u8 0) := .of (by kernel_rfl) (by kernel_rfl) (by kernel_rfl)
theorem clone_ok {s : Option Addr} {n c : Nat} {w : World} {K : Value → World → Prop} {l : List UInt8} (h : Rd w s n 1 (bytesV l)) (hn : n ≤ 2 ^ 46)
    (hk : ∀ p' c' w' b', Ow w' p' n c' 1 (bytesV l) b' → (∀ k, b' = some k → w.heap.size ≤ k) → Ch (fun _ => False) w w' → K (.slice p' n c') w') : callP Try.prog 35 [.slice s n c] w K := by
  refine ok_slices_Clone ?_
  unfold wp_slices_Clone
  have hl : l.length = n := by have := h.1; simpa using this
  refine Sif_cases (fun hs => ?_) fun hs => ?_
  · have hs' : s = none := by simpa using hs
    subst hs'
    have h0 : n = 0 := by
      rcases h.2 with h | ⟨b, o, cs, hp, _⟩
      · omega
      · cases hp
    subst h0
    exact hk none 0 w none ⟨by simpa using hl, Nat.le_refl _, .inl ⟨rfl, rfl⟩⟩ (fun k hk => by cases hk) (Ch.refl _ _)
  · refine newB_blk fun w1 hb1 hc1 hz1 => ?_
    have hr : Rd w1 s n 1 (bytesV l) := h.ch hc1 fun _ _ _ => id
    obtain ⟨p', c', w', b', h1, h2, h3, h4, _⟩ := append_rd (ty := 31) (c2 := c) Try.underlying31 Try.underlying31 byte_info rfl (xs := []) (n := 0) (c := 0) (b := none) (p := some ⟨w.heap.size, 0, none⟩) ⟨rfl, Nat.le_refl _, .inl ⟨rfl, rfl⟩⟩ hr (bytesV_one l) (by omega) (by omega)
    rw [Nat.zero_add] at h1 h2
    refine ⟨p', n, c', w', h1, hk p' c' w' b' h2 (fun k hk => ?_) (hc1.trans h4 fun x _ hx => by cases hx)⟩
    rcases h3 k hk with h3 | h3
    · cases h3
    · omega

/-! ### Names -/
def okc (n : Int) : Bool := (decide (97 ≤ n) && decide (n ≤ 122)) || n == 46
def nameOk (s : ByteArray) : Bool := (List.range s.size).all (fun i => okc (byteAt s i)) && decide (1 ≤ s.size) && decide (s.size ≤ 16)
theorem isName_ok {s : ByteArray} {w : World} {K : Value → World → Prop} (hs : s.size ≤ 9223372036854775807) (hk : K (.bool (nameOk s)) w) : callP Try.prog 42 [.string s] w K := by
  refine ok_disk_isName ?_
  unfold wp_disk_isName
  refine ⟨fun m n w' => w' = w ∧ 0 ≤ n ∧ n ≤ s.size ∧ m = s.size - n.toNat ∧ ∀ i, i < n.toNat → okc (byteAt s i) = true, ⟨s.size, rfl, by omega, by omega, by simp, fun i hi => by simp at hi⟩, ?_⟩
  rintro m n w1 ⟨rfl, h0, h1, hm, hall⟩
  have bad : n < s.size → okc (byteAt s n.toNat) = false → nameOk s = false := fun hn hb => by
    have : (List.range s.size).all (fun i => okc (byteAt s i)) = false := by
      rw [List.all_eq_false]
      exact ⟨n.toNat, by simp; omega, by simp [hb]⟩
    simp [nameOk, this]
  refine Sif_cases (fun hn => ?_) fun hn => ?_
  · have hn' : n < s.size := by simpa using hn
    refine ⟨fun w2 => w2 = w1 ∧ okc (byteAt s n.toNat) = true, ?_, h0, hn', ?_⟩
    · rintro w2 ⟨rfl, hok⟩
      refine ⟨m - 1, by omega, rfl, ?_, ?_, ?_, ?_⟩
      · rw [wrap_id (by omega) (by omega)]; omega
      · rw [wrap_id (by omega) (by omega)]; omega
      · rw [wrap_id (by omega) (by omega)]; omega
      · intro i hi
        rw [wrap_id (by omega) (by omega)] at hi
        by_cases hin : i < n.toNat
        · exact hall i hin
        · have : i = n.toNat := by omega
          rw [this]; exact hok
    · rw [nameI_iff]
      generalize hc : byteAt s n.toNat = ch at *
      have e : okc ch = ((!decide (ch < 97) && !decide (ch > 122)) || !(ch != 46)) := by
        unfold okc
        have e1 : decide (97 ≤ ch) = !decide (ch < 97) := by by_cases h : ch < 97 <;> simp [h] <;> omega
        have e2 : decide (ch ≤ 122) = !decide (ch > 122) := by by_cases h : ch > 122 <;> simp [h] <;> omega
        rw [e1, e2]; simp [bne]
      refine Sif_cases (fun g1 => Sif_cases (fun g2 => Sif_cases (fun g3 => ?_) fun g3 => ?_) fun g2 => ?_) fun g1 => Sif_cases (fun g3 => ?_) fun g3 => ?_
      · rw [← bad hn' (by rw [e, g2, g3]; simp)]; exact hk
      · exact ⟨rfl, by rw [e, g3]; simp⟩
      · exact ⟨rfl, by rw [e, g1, g2]; simp⟩
      · rw [← bad hn' (by rw [e, g1, g3]; simp)]; exact hk
      · exact ⟨rfl, by rw [e, g3]; simp⟩
  · have hn' : ¬ n < s.size := by simpa using hn
    have hall' : (List.range s.size).all (fun i => okc (byteAt s i)) = true := by
      rw [List.all_eq_true]
      intro i hi
      have : i < s.size := by simpa using hi
      exact hall i (by omega)
    have e : nameOk s = (decide (1 ≤ s.size) && decide (s.size ≤ 16)) := by simp [nameOk, hall']
    refine Sif_cases (fun g => ?_) fun g => ?_
    · have g' : 1 ≤ s.size := by simp at g; omega
      have : decide ((↑s.size : Int) ≤ 16) = nameOk s := by
        rw [e]; simp only [g', decide_true, Bool.true_and]; rw [decide_eq_decide]; omega
      rw [this]; exact hk
    · have g' : ¬ 1 ≤ s.size := by simp at g; omega
      rw [e] at hk; simpa [g'] using hk
end Go.Proofs.Ytncbmfinndcojaa
