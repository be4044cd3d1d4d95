/-
  Small laws over every program: wrapping that changes nothing, facts of a type, append in these words, a mutex, a call met by a contract.
-/
import Derived.Test.YtnibmhjdomndbaaDoorSvMap
import Derived.Conc.MuLone
namespace Go.Sv
open Go

theorem wrap_id {n : Int} (h1 : -9223372036854775808 ≤ n) (h2 : n ≤ 9223372036854775807) : IntKind.wrap .i64 n = n := by
  unfold IntKind.wrap
  simp only [show IntKind.i64.bits = 64 from rfl, show IntKind.i64.signed = true from rfl, Bool.true_and]
  split
  · rename_i h; simp at h; omega
  · rename_i h; simp at h; omega
def InfoIs (P : Program) (t : TypeId) (sz bytes : Nat) (z : Value) : Prop := ∃ inf, P.info? t = some inf ∧ inf.size = sz ∧ inf.bytes = bytes ∧ inf.zero = some z
theorem InfoIs.of {P : Program} {t : TypeId} {sz bytes : Nat} {z : Value} (h1 : (P.info? t).map (·.size) = some sz) (h2 : (P.info? t).map (·.bytes) = some bytes) (h3 : (P.info? t).map (·.zero) = some (some z)) : InfoIs P t sz bytes z := by
  cases h : P.info? t with
  | none => rw [h] at h1; cases h1
  | some i =>
    rw [h] at h1 h2 h3
    exact ⟨i, h, by simpa using h1, by simpa using h2, by simpa using h3⟩
theorem InfoIs.zero {P : Program} {t : TypeId} {sz bytes : Nat} {z : Value} (h : InfoIs P t sz bytes z) (w : World) : (zeroValue t).run P w = .ok z w := by
  obtain ⟨i, hi, _, _, hz⟩ := h
  simp [zeroValue, typeInfo, hi, hz]
theorem append_rd {P : Program} {T T2 ty e e2 : TypeId} {sz bytes : Nat} {z : Value} (hT : P.underlying T = some (.slice e)) (hT2 : P.underlying T2 = some (.slice e2)) (hi : InfoIs P e sz bytes z) (hzs : z.cells.size = sz)
    {w : World} {p q : Option Addr} {n c m c2 : Nat} {xs ys : List Value} {b : Option Nat} (ho : Ow w p n c sz xs b) (hs : Rd w q m sz ys) (hone : ∀ u ∈ ys, oneV u = true)
    (h1 : n + m ≤ 2 ^ 47) (h2 : (n + m) * bytes ≤ 2 ^ 47) :
    ∃ p' c' w' b', (Builtin.append_ #[T, T2] ty #[.slice p n c, .slice q m c2]).run P w = .ok (.slice p' (n + m) c') w' ∧ Ow w' p' (n + m) c' sz (xs ++ ys) b' ∧
      (∀ k, b' = some k → b = some k ∨ k = w.heap.size) ∧ Ch (fun k => b = some k) w w' ∧ (p ≠ none → p' ≠ none) ∧ (m ≠ 0 → p' ≠ none ∨ sz = 0) := by
  obtain ⟨inf, hi, rfl, rfl, hz⟩ := hi
  obtain ⟨p', c', w', b', h3, h4, h5⟩ := append_run (ty := ty) hT hi hz hzs ho (Src.of_rd hT2 hs hone) h1 h2
  refine ⟨p', c', w', b', h3, h4, ?_⟩
  rcases h5 with ⟨g1, rfl, rfl, rfl, g5, _⟩ | ⟨g1, rfl, rfl, g4, _⟩
  · refine ⟨fun k hk => .inl hk, g5, id, fun hm => ?_⟩
    obtain ⟨_, _, h6⟩ := h4
    rcases h6 with ⟨_, h6⟩ | ⟨k, o, cs, _, hp, _⟩
    · right
      rcases Nat.mul_eq_zero.1 h6 with h6 | h6
      · omega
      · exact h6
    · left; rw [hp]; simp
  · exact ⟨fun k hk => .inr (Option.some.inj hk).symm, g4.mono fun _ _ h => h.elim, fun _ => by simp, fun _ => .inl (by simp)⟩
/-- a mutex that is free is taken -/
theorem lock_ok {P : Program} {L : Go.Conc.Locks.MuLink} (H : Go.Conc.Locks.MuLib P L) {w : World} {b o : Nat} {cs : List Value} {K : Value → World → Prop} (hb : blk w b = some cs) (ho : cs[o]? = some (.int .i32 0))
    (hk : ∀ w', blk w' b = some (cs.set o (.int .i32 1)) → Ch (· = b) w w' → w'.heap.size = w.heap.size → K (.tuple #[]) w') : callP P L.lock [.pointer (some ⟨b, o, none⟩)] w K := by
  have hl : o < cs.length := (List.getElem?_eq_some_iff.1 ho).1
  refine (Go.MuLone.lock_free H ⟨b, o, none⟩ w (by rw [cell_blk hb]; exact ho) (frozen_blk hb hl)).mono fun e w' ⟨he, hw⟩ => ?_
  subst he hw
  exact ⟨_, rfl, hk _ (setCell_blk hb o _) (setCell_ch w b o _) (by simp)⟩
theorem unlock_ok {P : Program} {L : Go.Conc.Locks.MuLink} (H : Go.Conc.Locks.MuLib P L) {w : World} {b o : Nat} {cs : List Value} {K : World → Prop} (hb : blk w b = some cs) (ho : cs[o]? = some (.int .i32 1))
    (hk : ∀ w', blk w' b = some (cs.set o (.int .i32 0)) → Ch (· = b) w w' → w'.heap.size = w.heap.size → K w') : callD P L.unlock [.pointer (some ⟨b, o, none⟩)] w K := by
  have hl : o < cs.length := (List.getElem?_eq_some_iff.1 ho).1
  refine (Go.MuLone.unlock_deferred H ⟨b, o, none⟩ .returning w (by rw [cell_blk hb]; exact ho) (frozen_blk hb hl)).mono fun e u w' ⟨hu, he, hw⟩ => ?_
  subst he hw hu
  exact ⟨⟨_, rfl⟩, rfl, hk _ (setCell_blk hb o _) (setCell_ch w b o _) (by simp)⟩
theorem callP_mono {P : Program} {f : FuncId} {args : List Value} {w : World} {K K' : Value → World → Prop} (h : callP P f args w K) (hk : ∀ v w', K v w' → K' v w') : callP P f args w K' :=
  Calls.mono h fun _ _ ⟨v, he, hv⟩ => ⟨v, he, hk _ _ hv⟩
theorem Sif_cases {b : Bool} {x y : Prop} (h1 : b = true → x) (h2 : b = false → y) : Sif b x y := by
  unfold Sif; cases b
  · exact h2 rfl
  · exact h1 rfl
theorem Sif_true {x y : Prop} (h : x) : Sif true x y := h
theorem Sif_false {x y : Prop} (h : y) : Sif false x y := h
@[simp] theorem nn_some {a : Addr} {K : Addr → Prop} : nn (some a) K ↔ K a := by
  unfold nn; exact Iff.rfl
@[simp] theorem nameI_iff {n : Int} {K : Int → Prop} : nameI n K ↔ K n := by unfold nameI; simp
theorem Ch.new {S : Nat → Prop} {a b c : World} (h : Ch S a b) (k : Ch (fun _ => False) b c) : Ch S a c := h.trans k fun _ _ hx => hx.elim
theorem Ch.more {S S' : Nat → Prop} {a b c : World} (h : Ch S a b) (k : Ch S' b c) (hs : ∀ x, S' x → S x) : Ch S a c := h.trans k fun x _ hx => hs x hx
theorem Ch.d0 {w : World} : Ch (fun _ => False) w w.drew := Ch.drew w
theorem inj_of_nodup {α β : Type} {f : α → β} : ∀ {l : List α}, (l.map f).Nodup → ∀ {x y : α}, x ∈ l → y ∈ l → f x = f y → x = y
  | a :: l, h, x, y, hx, hy, e => by
    simp only [List.map_cons] at h
    obtain ⟨h1, h2⟩ := List.nodup_cons.1 h
    rcases List.mem_cons.1 hx with ex | hx2
    · rcases List.mem_cons.1 hy with ey | hy2
      · rw [ex, ey]
      · exact (h1 (List.mem_map.2 ⟨y, hy2, by rw [← e, ex]⟩)).elim
    · rcases List.mem_cons.1 hy with ey | hy2
      · exact (h1 (List.mem_map.2 ⟨x, hx2, by rw [e, ey]⟩)).elim
      · exact inj_of_nodup h2 hx2 hy2 e
end Go.Sv
