/-
  Maps whose keys are structs of two plain fields.
-/
import Derived.Test.YtnibmhjdomndbaaDoorSvMapK
import Derived.WideKeyRuns
import Derived.Laws.StructEq
namespace Go.Sv
open Go MapKept
set_option linter.unusedVariables false
def Is2 (I0 I1 : Value → Prop) (v : Value) : Prop := ∃ a b, v = .agg #[a, b] ∧ I0 a ∧ I1 b
/-- what is asked of a field of a key -/
structure KF (P : Program) (t : TypeId) (I : Value → Prop) : Prop where
  plain : P.plainKey t = true
  eq : ∀ (a b : Value) (w : World), I a → I b → ∃ r : Bool, (Op.equalIn 9999 t a b).run P w = .ok r w ∧ (r = true ↔ a = b)
  chk : ∀ (a : Value) (w : World) (em : Bool) (n : Nat), I a → (Instr.checkKey em (n + 1) t a).run P w = .ok () w
def isStrV (v : Value) : Prop := ∃ s, v = .string s
def isU16V (v : Value) : Prop := ∃ n, v = .int .u16 n
theorem KF.str {P : Program} {t : TypeId} (ht : P.underlying t = some .string) : KF P t isStrV where
  plain := by unfold Program.plainKey; rw [ht]
  eq := by
    rintro _ _ w ⟨a, rfl⟩ ⟨b, rfl⟩
    refine ⟨_, run_equalIn_string w 9998 t a b ht, ?_⟩
    rw [beq_iff_eq, ByteArray.toList_eq, ByteArray.toList_eq]
    exact ⟨fun h => by rw [Go.WideShapes.bytes_inj h], fun h => by cases h; rfl⟩
  chk := by
    rintro _ w em n ⟨a, rfl⟩
    simp [Instr.checkKey, run_underlying ht]
theorem KF.u16 {P : Program} {t : TypeId} (ht : P.underlying t = some (.int .u16)) : KF P t isU16V where
  plain := by unfold Program.plainKey; rw [ht]
  eq := by
    rintro _ _ w ⟨a, rfl⟩ ⟨b, rfl⟩
    refine ⟨_, run_equalIn_int w 9998 t .u16 .u16 a b ht, ?_⟩
    rw [beq_iff_eq]
    exact ⟨fun h => by rw [h], fun h => by cases h; rfl⟩
  chk := by
    rintro _ w em n ⟨a, rfl⟩
    simp [Instr.checkKey, run_underlying ht]
theorem KL.two {P : Program} {kt : TypeId} {f0 f1 : Field} {I0 I1 : Value → Prop} (ht : P.underlying kt = some (.struct #[f0, f1])) (hp : P.stoodInHeld kt = false) (n0 : f0.name ≠ "_") (n1 : f1.name ≠ "_") (o0 : f0.offset = 0) (o1 : f1.offset = 1)
    (F0 : KF P f0.type I0) (F1 : KF P f1.type I1) (hs : ∀ k, Is2 I0 I1 k → Instr.sameBits 10000 k k = true) : KL P kt (Is2 I0 I1) where
  chk := by
    rintro _ w em ⟨a, b, rfl, ha, hb⟩
    have p0 := run_part_plain (P := P) w F0.plain (xs := #[a, b]) (off := 0) (v := a) rfl
    have p1 := run_part_plain (P := P) w F1.plain (xs := #[a, b]) (off := 1) (v := b) rfl
    have : ∀ n, (Instr.checkKey em (n + 1 + 1) kt (.agg #[a, b])).run P w = .ok () w := fun n => by
      rw [Instr.checkKey]
      simp [run_underlying ht, n0, n1, o0, o1, p0, p1, F0.chk a w em n ha, F1.chk b w em n hb]
    exact this 9998
  find := by
    rintro _ l w ⟨a, b, rfl, ha, hb⟩ hl
    have heq : ∀ c d, I0 c → I1 d → ∃ r : Bool, (Op.equal kt (.agg #[a, b]) (.agg #[c, d])).run P w = .ok r w ∧ (r = true ↔ Value.agg #[c, d] = Value.agg #[a, b]) := fun c d hc hd => by
      have hf : P.fieldsOf kt = #[f0, f1] := by unfold Program.fieldsOf; rw [ht]
      have p0 := run_part_plain (P := P) w F0.plain (xs := #[a, b]) (off := 0) (v := a) rfl
      have p1 := run_part_plain (P := P) w F1.plain (xs := #[a, b]) (off := 1) (v := b) rfl
      have q0 := run_part_plain (P := P) w F0.plain (xs := #[c, d]) (off := 0) (v := c) rfl
      have q1 := run_part_plain (P := P) w F1.plain (xs := #[c, d]) (off := 1) (v := d) rfl
      have := run_equalIn_struct (P := P) w 9999 kt #[a, b] #[c, d] (by rw [hf]; exact ht) hp
      obtain ⟨r0, e0, g0⟩ := F0.eq a c w ha hc
      obtain ⟨r1, e1, g1⟩ := F1.eq b d w hb hd
      refine ⟨r0 && r1, this.trans ?_, ?_⟩
      · rw [hf]
        generalize (9999 : Nat) = m at *
        cases r0 <;> cases r1 <;> simp [Op.eqFields, n0, n1, o0, o1, p0, p1, q0, q1, e0, e1]
      · rw [Bool.and_eq_true, g0, g1]
        exact ⟨fun ⟨h1, h2⟩ => by rw [h1, h2], fun h => by cases h; exact ⟨rfl, rfl⟩⟩
    have hrun : (Instr.findKey kt (.agg #[a, b]) l).run P w = (Instr.findAsking kt (.agg #[a, b]) l).run P w := run_findKey_eq (P := P) w (by rw [ht]) _ _
    rw [hrun]
    have key : ∀ (l : List MapEntry) (i : Nat), (∀ x ∈ l, Is2 I0 I1 x.key) → ∃ r, (Instr.findAsking kt (.agg #[a, b]) l i).run P w = .ok r w ∧ ((r = none ∧ ∀ x ∈ l, x.key ≠ .agg #[a, b]) ∨ ∃ j e, r = some (i + j, e.val) ∧ l[j]? = some e ∧ e.key = .agg #[a, b]) := by
      intro l
      induction l with
      | nil => intro i _; exact ⟨none, by simp [Instr.findAsking], .inl ⟨rfl, by simp⟩⟩
      | cons e l ih =>
        intro i hl
        obtain ⟨c, d, hk, hc, hd⟩ := hl e (by simp)
        obtain ⟨r0, this, hr0⟩ := heq c d hc hd
        rw [← hk] at this hr0
        by_cases h : e.key = .agg #[a, b]
        · exact ⟨some (i, e.val), by simp [Instr.findAsking, this, hr0.2 h], .inr ⟨0, e, rfl, rfl, h⟩⟩
        · obtain ⟨r, h1, h2⟩ := ih (i + 1) fun x hx => hl x (by simp [hx])
          have hr1 : r0 = false := by cases r0; rfl; exact absurd (hr0.1 rfl) h
          refine ⟨r, by simp [Instr.findAsking, this, hr1, h1], ?_⟩
          rcases h2 with ⟨h2, h3⟩ | ⟨j, e', h2, h3, h4⟩
          · exact .inl ⟨h2, fun x hx => by rcases List.mem_cons.1 hx with rfl | hx; exact h; exact h3 x hx⟩
          · exact .inr ⟨j + 1, e', by rw [h2]; congr 2; omega, by simpa using h3, h4⟩
    obtain ⟨r, h1, h2⟩ := key l 0 hl
    refine ⟨r, h1, h2.imp id fun ⟨j, e, h3, h4, h5⟩ => ⟨j, e, by simpa using h3, h4, h5⟩⟩
  stays := by
    intro k w hk
    simp [Instr.keyThatStays, hs k hk]
end Go.Sv
