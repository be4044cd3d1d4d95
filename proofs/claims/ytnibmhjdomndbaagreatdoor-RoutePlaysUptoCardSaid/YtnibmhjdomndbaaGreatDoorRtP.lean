/-
  The program's Covers: its maps of pairs. The plain law of the program's Covers: layers of pairs of places.
-/
import Derived.Test.YtnibmhjdomndbaaGreatDoorRtN
import Derived.Test.YtnibmhjdomndbaaGreatDoorSvMapS
import Derived.Test.YtnibmhjdomndbaaGreatDoorCovWp
namespace Go.Proofs.YtnibmhjdomndbaaGreatDoor
open Go Go.Sv Go.Rt
set_option linter.unusedVariables false
theorem pair_kl : KL Tryz.prog 70 (Is2 isU16V isU16V) :=
  KL.two Tryz.underlying70 (by kernel_rfl) (by decide) (by decide) rfl rfl (KF.u16 Tryz.underlying67) (KF.u16 Tryz.underlying67) (by
    rintro _ ⟨_, _, rfl, ⟨a, rfl⟩, ⟨b, rfl⟩⟩
    simp [Instr.sameBits])
/-- a pair of places -/
def pv (a b : Nat) : Value := .agg #[.int .u16 (a : Int), .int .u16 (b : Int)]
theorem pv_is (a b : Nat) : Is2 isU16V isU16V (pv a b) := ⟨_, _, rfl, ⟨_, rfl⟩, ⟨_, rfl⟩⟩
theorem Nw.app {w w1 : World} {p : Option Addr} {c : Nat} {b : Option Nat} {L : List ByteArray} (h : Nw w w1 p c b L) {q : Option Addr} {d : Nat} {M : List ByteArray} (hR : Rd w1 q M.length 1 (M.flatMap sCell)) (hl : L.length + M.length ≤ 2 ^ 42) {K : Option Addr → Nat → Nat → World → Prop}
    (hk : ∀ p' c' b' w2, Nw w w2 p' c' b' (L ++ M) → K p' (L ++ M).length c' w2) :
    ∃ p2 n2 c2 w5, Sem.run Tryz.prog (Builtin.append_ #[49, 49] 49 #[.slice p L.length c, .slice q M.length d]) w1 = .ok (.slice p2 n2 c2) w5 ∧ K p2 n2 c2 w5 := by
  obtain ⟨p', c', w', b', r1, r2, r3, r4, _⟩ := append_rd (ty := 49) (c2 := d) Tryz.underlying49 Tryz.underlying49 strings_info (by rfl) h.ow hR (fun v hv => by
    obtain ⟨x, _, hx⟩ := List.mem_flatMap.1 hv
    exact sCell_one x v hx) (by omega) (by omega)
  have e : (L ++ M).length = L.length + M.length := List.length_append
  refine ⟨p', _, c', w', r1, ?_⟩
  have := hk p' c' b' w' ⟨by rw [e, List.flatMap_append]; exact r2, (fun k hk => by rcases r3 k hk with h3 | h3; exact h.new k h3; exact h3 ▸ h.ch.size), h.ch.trans r4 fun x hx h3 => absurd hx (Nat.not_lt.2 (h.new x h3))⟩
  rw [e] at this
  exact this
theorem Nw.some {w w1 : World} {p : Option Addr} {c : Nat} {b : Option Nat} {L : List ByteArray} (h : Nw w w1 p c b L) (h0 : 0 < L.length) : ∃ k, b = some k := by
  obtain ⟨_, h2, h3⟩ := h.ow
  rcases h3 with ⟨rfl, h3⟩ | ⟨k, _, _, rfl, _⟩
  · omega
  · exact ⟨k, rfl⟩
end Go.Proofs.YtnibmhjdomndbaaGreatDoor
namespace Go.Proofs.YtnibmhjdomndbaaGreatDoor
open Go Go.Sv Go.Rt
set_option linter.unusedVariables false
theorem ex_set (I : Nat → Prop) : ∀ n, ∃ a, IsSet a n I
  | 0 => by
    by_cases h : I 0
    · exact ⟨1, (IsSet.one 0).congr fun k hk => by
        have : k = 0 := by omega
        subst this; simp [h]⟩
    · exact ⟨0, (IsSet.none 0).congr fun k hk => by
        have : k = 0 := by omega
        subst this; simp [h]⟩
  | n + 1 => by
    obtain ⟨a, ha⟩ := ex_set I n
    have hup : IsSet a (n + 1) fun k => k ≤ n ∧ I k := fun k => by
      rw [ha k]; exact ⟨fun ⟨h1, h2⟩ => ⟨by omega, h1, h2⟩, fun ⟨_, h⟩ => h⟩
    by_cases h : I (n + 1)
    · refine ⟨_, (hup.add (j := n + 1) (Nat.le_refl _)).congr fun k hk => ?_⟩
      constructor
      · rintro (⟨_, h1⟩ | rfl)
        · exact h1
        · exact h
      · intro h1
        by_cases hk1 : k = n + 1
        · exact .inr hk1
        · exact .inl ⟨by omega, h1⟩
    · refine ⟨a, hup.congr fun k hk => ⟨fun h1 => h1.2, fun h1 => ⟨?_, h1⟩⟩⟩
      by_cases hk1 : k = n + 1
      · subst hk1; exact absurd h1 h
      · omega
/-- the map holds where the two patterns stand behind i words of W, but for places where the second one stands nowhere -/
def Lay (p q W : List ByteArray) (i : Nat) (ks : List Value) : Prop :=
  (∀ k ∈ ks, ∃ ws a b, ws.length = i ∧ (∀ y ∈ ws, y ∈ W) ∧ k = pv a b ∧ IsSet a p.length (At p ws) ∧ IsSet b q.length (At q ws)) ∧
  (∀ ws a b, ws.length = i → (∀ y ∈ ws, y ∈ W) → IsSet a p.length (At p ws) → IsSet b q.length (At q ws) → b ≠ 0 → pv a b ∈ ks)
theorem step_set {p ws : List ByteArray} {a a' : Nat} {y : ByteArray} (h : IsSet a p.length (At p ws)) (h' : IsSet a' p.length (Clo p (Stp p (At p ws) y))) : IsSet a' p.length (At p (ws ++ [y])) := h'.congr fun k hk => At_step p ws y k hk
theorem Lay.next {p q W : List ByteArray} {i : Nat} {ks ks' : List Value} (h : Lay p q W i ks)
    (h1 : ∀ k ∈ ks', ∃ ws y a b, ws.length = i ∧ (∀ y ∈ ws, y ∈ W) ∧ y ∈ W ∧ k = pv a b ∧ IsSet a p.length (At p (ws ++ [y])) ∧ IsSet b q.length (At q (ws ++ [y])))
    (h2 : ∀ ws y a b a' b', pv a b ∈ ks → y ∈ W → IsSet a p.length (At p ws) → IsSet b q.length (At q ws) → IsSet a' p.length (At p (ws ++ [y])) → IsSet b' q.length (At q (ws ++ [y])) → b' ≠ 0 → pv a' b' ∈ ks') : Lay p q W (i + 1) ks' := by
  refine ⟨fun k hk => ?_, fun ws a' b' hl hw ha hb hb0 => ?_⟩
  · obtain ⟨ws, y, a, b, g1, g2, g3, g4, g5, g6⟩ := h1 k hk
    refine ⟨ws ++ [y], a, b, by simp [g1], fun z hz => ?_, g4, g5, g6⟩
    rcases List.mem_append.1 hz with hz | hz
    · exact g2 z hz
    · rw [List.mem_singleton.1 hz]; exact g3
  · obtain ⟨us, y, rfl⟩ : ∃ us y, ws = us ++ [y] := by
      have hne : ws ≠ [] := fun e => by rw [e] at hl; cases hl
      exact ⟨ws.dropLast, ws.getLast hne, (List.dropLast_concat_getLast hne).symm⟩
    obtain ⟨a, ga⟩ := ex_set (At p us) p.length
    obtain ⟨b, gb⟩ := ex_set (At q us) q.length
    have hul : us.length = i := by simp at hl; exact hl
    have huw : ∀ z ∈ us, z ∈ W := fun z hz => hw z (by simp [hz])
    have hb1 : b ≠ 0 := fun e => by
      subst e
      have := At_none (w := y) (fun k hk => gb.zero k hk)
      apply hb0
      refine hb.inj ((IsSet.none _).congr fun k hk => ⟨fun g => g.elim, fun g => this k hk g⟩)
    exact h2 us y a b a' b' (h.2 us a b hul huw ga gb hb1) (hw y (by simp)) ga gb ha hb hb0
end Go.Proofs.YtnibmhjdomndbaaGreatDoor
