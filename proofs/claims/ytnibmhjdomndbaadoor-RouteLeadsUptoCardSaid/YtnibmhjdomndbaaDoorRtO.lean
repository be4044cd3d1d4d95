/-
  The program's Covers: its maps of pairs.
-/
import Derived.Test.YtnibmhjdomndbaaDoorRtN
import Derived.Test.YtnibmhjdomndbaaDoorSvMapS
import Derived.Test.YtnibmhjdomndbaaDoorCovWp
namespace Go.Proofs.YtnibmhjdomndbaaDoor
open Go Go.Sv Go.Rt
set_option linter.unusedVariables false
theorem pair_kl : KL Tryd.prog 52 (Is2 isU16V isU16V) :=
  KL.two Tryd.underlying52 (by kernel_rfl) (by decide) (by decide) rfl rfl (KF.u16 Tryd.underlying49) (KF.u16 Tryd.underlying49) (by
    rintro _ ⟨_, _, rfl, ⟨a, rfl⟩, ⟨b, rfl⟩⟩
    simp [Instr.sameBits])
/-- a pair of places -/
def pv (a b : Nat) : Value := .agg #[.int .u16 (a : Int), .int .u16 (b : Int)]
theorem pv_is (a b : Nat) : Is2 isU16V isU16V (pv a b) := ⟨_, _, rfl, ⟨_, rfl⟩, ⟨_, rfl⟩⟩
theorem Nw.app {w w1 : World} {p : Option Addr} {c : Nat} {b : Option Nat} {L : List ByteArray} (h : Nw w w1 p c b L) {q : Option Addr} {d : Nat} {M : List ByteArray} (hR : Rd w1 q M.length 1 (M.flatMap sCell)) (hl : L.length + M.length ≤ 2 ^ 42) {K : Option Addr → Nat → Nat → World → Prop}
    (hk : ∀ p' c' b' w2, Nw w w2 p' c' b' (L ++ M) → K p' (L ++ M).length c' w2) :
    ∃ p2 n2 c2 w5, Sem.run Tryd.prog (Builtin.append_ #[39, 39] 39 #[.slice p L.length c, .slice q M.length d]) w1 = .ok (.slice p2 n2 c2) w5 ∧ K p2 n2 c2 w5 := by
  obtain ⟨p', c', w', b', r1, r2, r3, r4, _⟩ := append_rd (ty := 39) (c2 := d) Tryd.underlying39 Tryd.underlying39 strings_info (by rfl) h.ow hR (fun v hv => by
    obtain ⟨x, _, hx⟩ := List.mem_flatMap.1 hv
    exact sCell_one x v hx) (by omega) (by omega)
  have e : (L ++ M).length = L.length + M.length := List.length_append
  refine ⟨p', _, c', w', r1, ?_⟩
  have := hk p' c' b' w' ⟨by rw [e, List.flatMap_append]; exact r2, (fun k hk => by rcases r3 k hk with h3 | h3; exact h.new k h3; exact h3 ▸ h.ch.size), h.ch.trans r4 fun x hx h3 => absurd hx (Nat.not_lt.2 (h.new x h3))⟩
  rw [e] at this
  exact this
theorem Nw.some {w w1 : World} {p : Option Addr} {c : Nat} {b : Option Nat} {L : List ByteArray} (h : Nw w w1 p c b L) (h0 : 0 < L.length) : ∃ k, b = some k := by
  obtain ⟨_, h2, h3⟩ := h.ow
  rcases h3 with ⟨rfl, h3⟩ | ⟨k, _, _, rfl, _⟩
  · omega
  · exact ⟨k, rfl⟩
end Go.Proofs.YtnibmhjdomndbaaDoor
