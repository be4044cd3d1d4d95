/-
  A router: its map of bindings.
-/
import Derived.Test.YtnibmhjdomndbaaGreatDoorRtP
import Derived.Test.YtnibmhjdomndbaaGreatDoorRoutWp
namespace Go.Proofs.YtnibmhjdomndbaaGreatDoor
open Go Go.Sv Go.Rt
set_option linter.unusedVariables false
theorem bind_kl : KL Tryz.prog 48 (Is2 isStrV isStrV) :=
  KL.two Tryz.underlying48 (by kernel_rfl) (by decide) (by decide) rfl rfl (KF.str Tryz.underlying9) (KF.str Tryz.underlying9) (by
    rintro _ ⟨_, _, rfl, ⟨a, rfl⟩, ⟨b, rfl⟩⟩
    simp [Instr.sameBits])
def bv (x : ByteArray × ByteArray) : Value := .agg #[.string x.1, .string x.2]
theorem bv_is (x : ByteArray × ByteArray) : Is2 isStrV isStrV (bv x) := ⟨_, _, rfl, ⟨_, rfl⟩, ⟨_, rfl⟩⟩
/-- router k with map r holds the bindings B -/
def RtK (w : World) (k r : Nat) (B : List (ByteArray × ByteArray)) : Prop := blk w k = some [.map (some r)] ∧ MpK (Is2 isStrV isStrV) w r (B.map fun x => (bv x, .agg #[]))
theorem new_ok {w : World} {K : Value → World → Prop} (hk : ∀ k r w', RtK w' k r [] → w.heap.size ≤ k → w.heap.size ≤ r → k ≠ r → Ch (fun _ => False) w w' → K (.pointer (some ⟨k, 0, none⟩)) w') : callP Tryz.prog 5 [] w K := by
  refine ok_route_New ?_
  unfold wp_route_New
  obtain ⟨w1, r1, m1, c1, z1⟩ := makeMapK_run Tryz.prog 52 (Is2 isStrV isStrV) w
  refine ⟨_, w1, r1, newB_blk fun w2 b2 c2 z2 => hk _ _ _ ⟨b2, m1.ch c2 id⟩ (by omega) (Nat.le_refl _) (by omega) (c1.trans' c2)⟩
theorem RtK.ch {w w' : World} {k r : Nat} {B : List (ByteArray × ByteArray)} (h : RtK w k r B) (c : Ch (fun _ => False) w w') : RtK w' k r B := ⟨by rw [c.blk (blk_lt h.1) id]; exact h.1, h.2.ch c id⟩
theorem unit_zero (w : World) : (zeroValue 71).run Tryz.prog w = .ok (.agg #[]) w := InfoIs.zero (sz := 0) (bytes := 0) (.of (by kernel_rfl) (by kernel_rfl) (by kernel_rfl)) w
theorem bv_inj {x y : ByteArray × ByteArray} (h : bv x = bv y) : x = y := by
  obtain ⟨a, b⟩ := x; obtain ⟨c, d⟩ := y
  simp [bv] at h
  rw [h.1, h.2]
theorem look_ok {w : World} {k r : Nat} {B : List (ByteArray × ByteArray)} (h : RtK w k r B) (x : ByteArray × ByteArray) : ∃ b : Bool, (b = true ↔ x ∈ B) ∧ (Instr.lookup 52 (.map (some r)) (bv x) true).run Tryz.prog w = .ok (.tuple #[.agg #[], .bool b]) w := by
  rcases lookupK_run Tryz.underlying52 bind_kl (unit_zero w) h.2 (bv_is x) with ⟨v, hm, _, hr⟩ | ⟨hn, _, hr⟩
  · obtain ⟨y, hy, e⟩ := List.mem_map.1 hm
    have e1 := bv_inj (congrArg Prod.fst e)
    have e2 : v = .agg #[] := (congrArg Prod.snd e).symm
    rw [e1] at hy
    rw [e2] at hr
    exact ⟨true, by simp [hy], hr⟩
  · refine ⟨false, ?_, hr⟩
    simp only [Bool.false_eq_true, false_iff]
    intro hx
    exact hn _ (List.mem_map.2 ⟨x, hx, rfl⟩) rfl
theorem lenK_run {P : Program} {t kt et ty : TypeId} (ht : P.underlying t = some (.map kt et)) {Is : Value → Prop} {w : World} {r : Nat} {m : List (Value × Value)} (h : MpK Is w r m) : (Builtin.len_ #[t] ty #[.map (some r)]).run P w = .ok (.int .i64 (m.length : Int)) w := by
  obtain ⟨es, c, hb, hs, hk, hm⟩ := h
  subst hm
  simp [Builtin.len_, run_underlying ht, MapKept.run_getObj_map hb, goInt, Result.andThen]
def bindE (B : List (ByteArray × ByteArray)) (x : ByteArray × ByteArray) : Int := if isPat x.1 = false then 180 else if named x.2 = false then 82 else if x ∈ B then 181 else if 256 ≤ B.length then 183 else 0
def bindB (B : List (ByteArray × ByteArray)) (x : ByteArray × ByteArray) : List (ByteArray × ByteArray) := if bindE B x = 0 then B ++ [x] else B
set_option maxHeartbeats 1000000 in
theorem bind_ok {w : World} {k r : Nat} {B : List (ByteArray × ByteArray)} {x : ByteArray × ByteArray} {K : Value → World → Prop} (h : RtK w k r B) (hkr : k ≠ r) (h1 : x.1.size ≤ 2 ^ 40) (h2 : x.2.size ≤ 2 ^ 40)
    (hk : ∀ w', RtK w' k r (bindB B x) → Ch (· = r) w w' → K (.int .i64 (bindE B x)) w') : callP Tryz.prog 14 [.pointer (some ⟨k, 0, none⟩), .agg #[.string x.1, .string x.2]] w K := by
  refine ok_route_Router_Bind ?_
  unfold wp_route_Router_Bind
  refine newB_blk fun w1 b1 c1 z1 => ?_
  rw [nn_some]
  have R1 := h.ch c1
  have R1d := R1.ch (Ch.d0 (w := w1))
  obtain ⟨b, hb, hl⟩ := look_ok R1d x
  refine ⟨some r, by simpa using cell_blk R1.1 0, x.1, by simpa using cell_blk b1 0, x.2, by simpa using cell_blk b1 1, b, hl, newB_blk fun w2 b2 c2 z2 => ?_⟩
  have R2 := R1d.ch c2
  have c12 : Ch (fun _ => False) w w2 := c1.trans' ((Ch.d0 (w := w1)).trans' c2)
  have bx2 : blk w2 w.heap.size = some [.string x.1, .string x.2] := by rw [((Ch.d0 (w := w1)).trans' c2).blk (blk_lt b1) id]; exact b1
  obtain ⟨b', hb', hl'⟩ := look_ok R2 x
  have hbb : b' = b := by rw [Bool.eq_iff_iff, hb, hb']
  refine ⟨⟨b', hl', by rw [hbb]⟩, ⟨x.1, by simpa using cell_blk bx2 0, x.2, by simpa using cell_blk bx2 1, rfl⟩, ⟨some r, by simpa using cell_blk R2.1 0, rfl⟩, x.1, by simpa using cell_blk bx2 0, ?_⟩
  have stay : ∀ w', Ch (fun _ => False) w w' → bindE B x ≠ 0 → K (.int .i64 (bindE B x)) w' := fun w' c hne => hk w' (by rw [bindB, if_neg hne]; exact h.ch c) (c.mono fun _ _ g => g.elim)
  refine cut_ok h1 (fun hf w3 C3 => ⟨_, _, _, rfl, Sif_false ?_⟩) fun hf w3 c3 => ⟨_, _, _, rfl, Sif_true ?_⟩
  · have hf : isPat x.1 = true := hf
    have c123 := c12.trans' C3.1.ch
    have bx3 : blk w3 w.heap.size = some [.string x.1, .string x.2] := by rw [C3.1.ch.blk (blk_lt bx2) id]; exact bx2
    have R3 := R2.ch C3.1.ch
    refine ⟨x.2, by simpa using cell_blk bx3 1, isName_ok h2 ⟨_, rfl, Sif_cases (fun g => ?_) fun g => Sif_cases (fun g2 => ?_) fun g2 => ?_⟩⟩
    · have e : bindE B x = 82 := by rw [bindE, if_neg (by rw [hf]; decide), if_pos (by simpa using g)]
      have := stay w3 c123 (by rw [e]; decide)
      rw [e] at this; exact this
    · have e : bindE B x = 181 := by rw [bindE, if_neg (by rw [hf]; decide), if_neg (by simpa using g), if_pos (hb.1 g2)]
      have := stay w3 c123 (by rw [e]; decide)
      rw [e] at this; exact this
    · have hnb : x ∉ B := fun g3 => by rw [hb.2 g3] at g2; cases g2
      rw [nn_some]
      refine ⟨some r, by simpa using cell_blk R3.1 0, _, lenK_run Tryz.underlying52 R3.2, Sif_cases (fun g4 => ?_) fun g4 => ?_⟩
      · have g4 := of_decide_eq_true g4
        rw [List.length_map] at g4
        have e : bindE B x = 183 := by rw [bindE, if_neg (by rw [hf]; decide), if_neg (by simpa using g), if_neg hnb, if_pos (by omega)]
        have := stay w3 c123 (by rw [e]; decide)
        rw [e] at this; exact this
      · have g4 := of_decide_eq_false g4
        rw [List.length_map] at g4
        have e : bindE B x = 0 := by rw [bindE, if_neg (by rw [hf]; decide), if_neg (by simpa using g), if_neg hnb, if_neg (by omega)]
        rw [nn_some]
        refine ⟨some r, by simpa using cell_blk R3.1 0, x.1, by simpa using cell_blk bx3 0, x.2, by simpa using cell_blk bx3 1, ?_⟩
        obtain ⟨w5, m', u1, u2, u3, u4, u5⟩ := updateK_run Tryz.underlying52 bind_kl (R3.ch (Ch.d0 (w := w3))).2 (bv_is x) (.agg #[])
        refine ⟨w5, u1, ?_⟩
        have hm : m' = (bindB B x).map fun x => (bv x, .agg #[]) := by
          rcases u5 with ⟨l1, v0, l2, g6, _⟩ | ⟨_, g6⟩
          · exfalso
            have : (bv x, v0) ∈ B.map fun x => (bv x, (Value.agg #[])) := by rw [g6]; simp
            obtain ⟨y, hy, ey⟩ := List.mem_map.1 this
            rw [bv_inj (congrArg Prod.fst ey)] at hy
            exact hnb hy
          · rw [g6, bindB, if_pos e]; simp
        have := hk w5 ⟨by rw [u3.blk (blk_lt (R3.ch (Ch.d0 (w := w3))).1) hkr]; exact (R3.ch (Ch.d0 (w := w3))).1, hm ▸ u2⟩ (((c123.trans' Ch.d0).mono (S' := (· = r)) fun _ _ g => g.elim).trans' u3)
        rw [e] at this; exact this
  · have hf : isPat x.1 = false := hf
    have e : bindE B x = 180 := by rw [bindE, if_pos hf]
    have := stay w3 (c12.trans' c3) (by rw [e]; decide)
    rw [e] at this; exact this
end Go.Proofs.YtnibmhjdomndbaaGreatDoor
