/-
  A pair: a disk and a journal, and the document's: what it holds; its open. A pair: its add, its shorten, its files. A pair: its shorten. A pair: a step. JournalPlays: two pairs side by side; the walk.
-/
import Derived.Test.YtipololccbdojaaGreatDoorJdoco
import Derived.Test.YtipololccbdojaaGreatDoorJlend
import Derived.Test.YtipololccbdojaaGreatDoorJowned
import Derived.Test.YtipololccbdojaaGreatDoorJsame
import Derived.Test.YtipololccbdojaaGreatDoorJscript
import Derived.Test.YtipololccbdojaaGreatDoorJlive
namespace Go.Proofs.YtipololccbdojaaGreatDoor
open Go Go.Sv
set_option linter.unusedVariables false
set_option maxRecDepth 4000

theorem up_ln {l k k' : Nat} (h : l ≤ 33554432 + k) (hk : k ≤ k') : l ≤ 33554432 + k' := Nat.le_trans h (Nat.add_le_add_left hk _)
theorem up_sz {l k k' : Nat} (h : l ≤ 33554432 + k * 8589934592) (hk : k ≤ k') : l ≤ 33554432 + k' * 8589934592 := Nat.le_trans h (Nat.add_le_add_left (Nat.mul_le_mul_right _ hk) _)
structure Par (w : World) (pb : Nat) (I D V : Nat → Prop) : Prop where
  id : ∀ b, I b → ¬ D b
  ip : ¬ I pb
  dp : ¬ D pb
  iv : ∀ b, V b → ¬ I b
  dv : ∀ b, V b → ¬ D b
  vp : ¬ V pb
  lt : ∀ b, I b ∨ D b ∨ b = pb ∨ V b → b < w.heap.size
theorem Par.stepI {w w' : World} {pb : Nat} {I I' D V : Nat → Prop} (P : Par w pb I D V) (hz : w.heap.size ≤ w'.heap.size) (n : ∀ b, I' b → I b ∨ w.heap.size ≤ b) (l : ∀ b, I' b → b < w'.heap.size) : Par w' pb I' D V := by
  refine ⟨fun b h hd => ?_, fun h => ?_, P.dp, fun b hv h => ?_, P.dv, P.vp, fun b h => ?_⟩
  · rcases n b h with h | h
    · exact P.id b h hd
    · have := P.lt b (.inr (.inl hd)); omega
  · rcases n _ h with h | h
    · exact P.ip h
    · have := P.lt pb (.inr (.inr (.inl rfl))); omega
  · rcases n b h with h | h
    · exact P.iv b hv h
    · have := P.lt b (.inr (.inr (.inr hv))); omega
  · rcases h with h | h
    · exact l b h
    · have := P.lt b (.inr h); omega
theorem Par.stepD {w w' : World} {pb : Nat} {I D D' V : Nat → Prop} (P : Par w pb I D V) (hz : w.heap.size ≤ w'.heap.size) (n : ∀ b, D' b → D b ∨ w.heap.size ≤ b) (l : ∀ b, D' b → b < w'.heap.size) : Par w' pb I D' V := by
  refine ⟨fun b h hd => ?_, P.ip, fun h => ?_, P.iv, fun b hv h => ?_, P.vp, fun b h => ?_⟩
  · rcases n b hd with hd | hd
    · exact P.id b h hd
    · have := P.lt b (.inl h); omega
  · rcases n _ h with h | h
    · exact P.dp h
    · have := P.lt pb (.inr (.inr (.inl rfl))); omega
  · rcases n b h with h | h
    · exact P.dv b hv h
    · have := P.lt b (.inr (.inr (.inr hv))); omega
  · rcases h with h | h | h
    · have := P.lt b (.inl h); omega
    · exact l b h
    · have := P.lt b (.inr (.inr h)); omega
theorem Par.more {w w' : World} {pb : Nat} {I D V : Nat → Prop} (P : Par w pb I D V) (hz : w.heap.size ≤ w'.heap.size) : Par w' pb I D V :=
  P.stepI hz (fun b => .inl) fun b h => by have := P.lt b (.inl h); omega
abbrev pcells (d r : Nat) (o : Option (Nat × Nat)) : List Value := [.pointer (some ⟨d, 0, none⟩), .pointer (some ⟨r, 0, none⟩), .pointer (o.map fun x => ⟨x.1, 0, none⟩), .pointer (o.map fun x => ⟨x.2, 0, none⟩)]
/-- no journal yet -/
structure PN (W w : World) (pb d r : Nat) (a : AD) (Bd Br : Nat → Prop) (k : Nat) : Prop where
  bl : blk w pb = some (pcells d r none)
  dk : DK w d a Bd
  rk : RK w r a Br
  ra : RA a k
  par : Par w pb Bd Br (Old W)
structure PJ (W w : World) (pb d r jb kb : Nat) (a : AD) (j : AJ) (L : List Batch) (Bd Br Bv : Nat → Prop) (own : Option Nat) (k : Nat) : Prop where
  bl : blk w pb = some (pcells d r (some (jb, kb)))
  J : JD w jb d a j Bd
  K : KD w kb r a j L Br Bv own
  ra : RA a k
  par : Par w pb (fun b => Bd b ∨ b = jb) (Fk Br kb own) Bv
  old : ∀ b, Old W b → Bv b
  inv : PInv a j L
  ln : L.length ≤ 33554432 + k
  size : j.size ≤ 33554432 + k * 8589934592
abbrev PNF (pb : Nat) (Bd Br : Nat → Prop) : Nat → Prop := fun b => Bd b ∨ Br b ∨ b = pb
abbrev PJF (pb jb kb : Nat) (Bd Br : Nat → Prop) (own : Option Nat) : Nat → Prop := fun b => (Bd b ∨ b = jb) ∨ Fk Br kb own b ∨ b = pb
def Pr (W w : World) (pb : Nat) (F V : Nat → Prop) (k : Nat) : Prop :=
  (∃ d r a Bd Br, PN W w pb d r a Bd Br k ∧ F = PNF pb Bd Br ∧ V = Old W) ∨ (∃ d r jb kb a j L Bd Br Bv own, PJ W w pb d r jb kb a j L Bd Br Bv own k ∧ F = PJF pb jb kb Bd Br own ∧ V = Bv)
abbrev PPost (W w : World) (pb : Nat) (F V : Nat → Prop) (k' : Nat) (K : World → Prop) : Prop := ∀ w' F' V', Pr W w' pb F' V' k' → Ch F w w' → (∀ b, F' b → F b ∨ w.heap.size ≤ b) → (∀ b, V' b → V b ∨ w.heap.size ≤ b) → K w'
section
variable {W w w' : World} {pb d r jb kb : Nat} {a a' : AD} {j j' : AJ} {L L' : List Batch} {Bd Br Bv Bd' Br' : Nat → Prop} {own own' : Option Nat} {k k' : Nat}
theorem PN.blt (P : PN W w pb d r a Bd Br k) : pb < w.heap.size := blk_lt P.bl
theorem PJ.blt (P : PJ W w pb d r jb kb a j L Bd Br Bv own k) : pb < w.heap.size := blk_lt P.bl
theorem PN.ch {S : Nat → Prop} (P : PN W w pb d r a Bd Br k) (c : Ch S w w') (hn : ∀ b, PNF pb Bd Br b → ¬ S b) : PN W w' pb d r a Bd Br k :=
  ⟨by rw [c.blk P.blt (hn _ (.inr (.inr rfl)))]; exact P.bl, P.dk.ch c fun b h => hn b (.inl h), P.rk.ch c fun b h => hn b (.inr (.inl h)), P.ra, P.par.more c.size⟩
theorem PJ.ch {S : Nat → Prop} (P : PJ W w pb d r jb kb a j L Bd Br Bv own k) (c : Ch S w w') (hn : ∀ b, PJF pb jb kb Bd Br own b → ¬ S b) (hv : ∀ b, Bv b → ¬ S b) : PJ W w' pb d r jb kb a j L Bd Br Bv own k :=
  ⟨by rw [c.blk P.blt (hn _ (.inr (.inr rfl)))]; exact P.bl, P.J.ch c fun b h => hn b (.inl h), P.K.ch c (fun b h => hn b (.inr (.inl h))) hv, P.ra, P.par.more c.size, P.old, P.inv, P.ln, P.size⟩
theorem Pr.ch {S F V : Nat → Prop} (h : Pr W w pb F V k) (c : Ch S w w') (hn : ∀ b, F b ∨ V b → ¬ S b) : Pr W w' pb F V k := by
  rcases h with ⟨d, r, a, Bd, Br, P, rfl, rfl⟩ | ⟨d, r, jb, kb, a, j, L, Bd, Br, Bv, own, P, rfl, rfl⟩
  · exact .inl ⟨d, r, a, Bd, Br, P.ch c fun b h => hn b (.inl h), rfl, rfl⟩
  · exact .inr ⟨d, r, jb, kb, a, j, L, Bd, Br, V, own, P.ch c (fun b h => hn b (.inl h)) fun b h => hn b (.inr h), rfl, rfl⟩
theorem Pr.lt {F V : Nat → Prop} (h : Pr W w pb F V k) : ∀ b, F b ∨ V b → b < w.heap.size := by
  rcases h with ⟨d, r, a, Bd, Br, P, rfl, rfl⟩ | ⟨d, r, jb, kb, a, j, L, Bd, Br, Bv, own, P, rfl, rfl⟩
  · rintro b ((h | h | h) | h)
    · exact P.par.lt b (.inl h)
    · exact P.par.lt b (.inr (.inl h))
    · exact P.par.lt b (.inr (.inr (.inl h)))
    · exact P.par.lt b (.inr (.inr (.inr h)))
  · rintro b ((h | h | h) | h)
    · exact P.par.lt b (.inl h)
    · exact P.par.lt b (.inr (.inl h))
    · exact P.par.lt b (.inr (.inr (.inl h)))
    · exact P.par.lt b (.inr (.inr (.inr h)))
theorem Pr.more {F V : Nat → Prop} (h : Pr W w pb F V k) (hk : k ≤ k') : Pr W w pb F V k' := by
  rcases h with ⟨d, r, a, Bd, Br, P, rfl, rfl⟩ | ⟨d, r, jb, kb, a, j, L, Bd, Br, Bv, own, P, rfl, rfl⟩
  · exact .inl ⟨d, r, a, Bd, Br, ⟨P.bl, P.dk, P.rk, P.ra.more hk, P.par⟩, rfl, rfl⟩
  · have h1 := P.ln
    have h2 := P.size
    have h4 := up_ln h1 hk
    have h5 := up_sz h2 hk
    exact .inr ⟨d, r, jb, kb, a, j, L, Bd, Br, V, own, ⟨P.bl, P.J, P.K, P.ra.more hk, P.par, P.old, P.inv, h4, h5⟩, rfl, rfl⟩
theorem Pr.old {F V : Nat → Prop} (h : Pr W w pb F V k) : ∀ b, Old W b → V b := by
  rcases h with ⟨d, r, a, Bd, Br, P, rfl, rfl⟩ | ⟨d, r, jb, kb, a, j, L, Bd, Br, Bv, own, P, rfl, rfl⟩
  · exact fun b => id
  · exact P.old
/-- the pair's journal has done something -/
theorem PJ.I {w1 : World} {a1 : AD} {j1 : AJ} {Bd1 : Nat → Prop} (P : PJ W w pb d r jb kb a j L Bd Br Bv own k) (H1 : JD w1 jb d a1 j1 Bd1) (c1 : Ch (fun b => Bd b ∨ b = jb) w w1) (n1 : ∀ b, Bd1 b → Bd b ∨ w.heap.size ≤ b) :
    KD w1 kb r a j L Br Bv own ∧ Par w1 pb (fun b => Bd1 b ∨ b = jb) (Fk Br kb own) Bv ∧ blk w1 pb = some (pcells d r (some (jb, kb))) := by
  refine ⟨P.K.ch c1 (fun b h hi => P.par.id b hi h) fun b h => P.par.iv b h, P.par.stepI c1.size (fun b h => ?_) H1.blt, by rw [c1.blk P.blt P.par.ip]; exact P.bl⟩
  rcases h with h | h
  · exact (n1 b h).imp .inl id
  · exact .inl (.inr h)
/-- .. and the document's, likewise -/
theorem PJ.of {w1 w2 : World} {a1 : AD} {j1 : AJ} {Bd1 : Nat → Prop} {Br2 : Nat → Prop} {own2 : Option Nat} (H1 : JD w1 jb d a1 j1 Bd1) (par : Par w1 pb (fun b => Bd1 b ∨ b = jb) (Fk Br kb own) Bv) (hb : blk w1 pb = some (pcells d r (some (jb, kb))))
    (H2 : KD w2 kb r a1 j1 L' Br2 Bv own2) (c2 : Ch (Fk Br kb own) w1 w2) (n2 : ∀ b, Br2 b ∨ own2 = some b → Br b ∨ own = some b ∨ w1.heap.size ≤ b) (ra : RA a1 k) (old : ∀ b, Old W b → Bv b) (inv : PInv a1 j1 L') (ln : L'.length ≤ 33554432 + k) (size : j1.size ≤ 33554432 + k * 8589934592) :
    PJ W w2 pb d r jb kb a1 j1 L' Bd1 Br2 Bv own2 k := by
  refine ⟨by rw [c2.blk (blk_lt hb) par.dp]; exact hb, H1.ch c2 fun b h => par.id b h, H2, ra, par.stepD c2.size (fun b h => ?_) H2.blt, old, inv, ln, size⟩
  rcases h with h | h | h
  · exact (n2 b (.inl h)).elim (fun h => .inl (.inl h)) fun h => h.imp (fun h => .inr (.inr h)) id
  · exact .inl (.inr (.inl h))
  · exact (n2 b (.inr h)).elim (fun h => .inl (.inl h)) fun h => h.imp (fun h => .inr (.inr h)) id
theorem ltS_of {w : World} {r : Nat} {a : AD} {B : Nat → Prop} (R : RK w r a B) : ltS a := by rw [← sorted_self R.sort]; exact ltS_sorted a
theorem RA.openB (h : RA a k) : RA a.openB.2.1 (k + 3) := by
  unfold AD.openB
  split
  · exact h.tidy.more (by omega)
  split
  · exact (h.tidy.cut _).more (by omega)
  split
  · exact (h.tidy.cut _).more (by omega)
  split
  · exact ((h.tidy.cut _).sync _).more (by omega)
  · exact ((h.tidy.cut _).sync _).more (by omega)
theorem RA.jopen (h : RA a k) : RA a.jopen.2.1 (k + 3) := by
  unfold AD.jopen
  split
  · exact h.more (by omega)
  split
  · exact h.more (by omega)
  · exact h.openB
end
theorem Pr.gen {W w : World} {pb k : Nat} {F V : Nat → Prop} {Q : World → Prop} (h : Pr W w pb F V k) (hk : PPost W w pb F V (k + 3) Q) : ∃ (d r : Nat) (a : AD) (Bd Br : Nat → Prop) (o : Option (Nat × Nat)), blk w pb = some (pcells d r o) ∧ DK w d a Bd ∧ RK w r a Br ∧ RA a k ∧ (∀ b, Bd b → F b) ∧ (∀ b, Br b → F b) ∧ (∀ b, Bd b → ¬ Br b) ∧ F pb ∧ ¬ Bd pb ∧ ¬ Br pb ∧
    (∀ w3 a3 Bd3 Br3, (∀ (j : AJ) L, PInv a j L → PInv a3 j L) → RA a3 (k + 3) → DK w3 d a3 Bd3 → RK w3 r a3 Br3 → Ch (fun b => Bd b ∨ Br b) w w3 → (∀ b, Bd3 b → Bd b ∨ w.heap.size ≤ b) → (∀ b, Br3 b → Br b ∨ w.heap.size ≤ b) → (∀ b, Bd3 b → ¬ Br3 b) → (∀ b, Bd3 b ∨ Br3 b → b < w3.heap.size) → Q w3) := by
  rcases h with ⟨d, r, a, Bd, Br, P, rfl, rfl⟩ | ⟨d, r, jb, kb, a, j, L, Bd, Br, Bv, own, P, rfl, rfl⟩
  · refine ⟨d, r, a, Bd, Br, none, P.bl, P.dk, P.rk, P.ra, fun b h => .inl h, fun b h => .inr (.inl h), P.par.id, .inr (.inr rfl), P.par.ip, P.par.dp, fun w3 a3 Bd3 Br3 hP ra D3 R3 c3 n3 m3 hd hl => ?_⟩
    have hpb := P.blt
    refine hk w3 _ _ (.inl ⟨d, r, a3, Bd3, Br3, ⟨by rw [c3.blk P.blt fun h => h.elim P.par.ip P.par.dp]; exact P.bl, D3, R3, ra, ⟨hd, fun h => ?_, fun h => ?_, fun b hv h => ?_, fun b hv h => ?_, P.par.vp, fun b h => ?_⟩⟩, rfl, rfl⟩) (c3.mono fun _ _ h => h.elim .inl fun h => .inr (.inl h)) (fun b h => ?_) fun b => .inl
    · rcases n3 _ h with h | h
      · exact P.par.ip h
      · omega
    · rcases m3 _ h with h | h
      · exact P.par.dp h
      · omega
    · rcases n3 b h with h | h
      · exact P.par.iv b hv h
      · have := P.par.lt b (.inr (.inr (.inr hv))); omega
    · rcases m3 b h with h | h
      · exact P.par.dv b hv h
      · have := P.par.lt b (.inr (.inr (.inr hv))); omega
    · have := c3.size
      rcases h with h | h | h | h
      · exact hl b (.inl h)
      · exact hl b (.inr h)
      · omega
      · have := P.par.lt b (.inr (.inr (.inr h))); omega
    · rcases h with h | h | h
      · exact (n3 b h).imp .inl id
      · exact (m3 b h).imp (fun h => .inr (.inl h)) id
      · exact .inl (.inr (.inr h))
  · refine ⟨d, r, a, Bd, Br, some (jb, kb), P.bl, P.J.dk, P.K.rk, P.ra, fun b h => .inl (.inl h), fun b h => .inr (.inl (.inl h)), fun b h1 h2 => P.par.id b (.inl h1) (.inl h2), .inr (.inr rfl), fun h => P.par.ip (.inl h), fun h => P.par.dp (.inl h), fun w3 a3 Bd3 Br3 hP ra D3 R3 c3 n3 m3 hd hl => ?_⟩
    have hjl := P.J.lt
    have hkl := P.K.lt
    have hnj : ¬ (Bd jb ∨ Br jb) := fun h => h.elim P.J.ap fun h => P.par.id jb (.inr rfl) (.inl h)
    have hnk : ¬ (Bd kb ∨ Br kb) := fun h => h.elim (fun h => P.par.id kb (.inl h) (.inr (.inl rfl))) P.K.nkb
    have J3 : JD w3 jb d a3 j Bd3 := ⟨by unfold JM; rw [c3.blk hjl hnj]; exact P.J.m, D3, fun h => by
      rcases n3 _ h with h | h
      · exact P.J.ap h
      · omega⟩
    have K3 : KD w3 kb r a3 j L Br3 V own := by
      obtain ⟨p, n, c, Y, m1, m2, ms⟩ := P.K.m
      have hsz := c3.size
      have hov : ∀ b, V b → ¬ (Bd b ∨ Br b) := fun b hb h => h.elim (fun h => P.par.iv b hb (.inl h)) fun h => P.par.dv b hb (.inl h)
      refine ⟨⟨p, n, c, Y, by rw [c3.blk hkl hnk]; exact m1, m2.ch c3 (fun b hb h => h.elim (fun h => P.par.id b (.inl h) (.inr (.inr hb))) fun h => (P.K.ownB b hb).1 h) hov, ms⟩, R3, fun h => ?_, fun b hb => ⟨fun h => ?_, (P.K.ownB b hb).2⟩, fun b hb => ⟨by have := (P.K.vB b hb).1; omega, fun h => ?_, (P.K.vB b hb).2.2⟩, P.K.ne⟩
      · rcases m3 _ h with h | h
        · exact P.K.nkb h
        · omega
      · rcases m3 _ h with h | h
        · exact (P.K.ownB b hb).1 h
        · have := P.K.olt b hb; omega
      · rcases m3 _ h with h | h
        · exact (P.K.vB b hb).2.1 h
        · have := (P.K.vB b hb).1; omega
    have hsz := c3.size
    have par3 : Par w3 pb (fun b => Bd3 b ∨ b = jb) (Fk Br3 kb own) V := by
      have hpb := P.blt
      refine ⟨fun b h h2 => ?_, fun h => ?_, fun h => ?_, fun b hv h => ?_, fun b hv h => ?_, P.par.vp, fun b h => ?_⟩
      · rcases h with h | h
        · rcases h2 with h2 | h2
          · exact hd b h h2
          · rcases n3 b h with h | h
            · exact P.par.id b (.inl h) (.inr h2)
            · have := P.K.blt b (.inr h2); omega
        · rcases h2 with h2 | h2
          · rcases m3 b h2 with h2 | h2
            · exact P.par.id b (.inr h) (.inl h2)
            · omega
          · exact P.par.id b (.inr h) (.inr h2)
      · rcases h with h | h
        · rcases n3 _ h with h | h
          · exact P.par.ip (.inl h)
          · omega
        · exact P.par.ip (.inr h)
      · rcases h with h | h
        · rcases m3 _ h with h | h
          · exact P.par.dp (.inl h)
          · omega
        · exact P.par.dp (.inr h)
      · have hvl := P.par.lt b (.inr (.inr (.inr hv)))
        rcases h with h | h
        · rcases n3 _ h with h | h
          · exact P.par.iv b hv (.inl h)
          · omega
        · exact P.par.iv b hv (.inr h)
      · have hvl := P.par.lt b (.inr (.inr (.inr hv)))
        rcases h with h | h
        · rcases m3 _ h with h | h
          · exact P.par.dv b hv (.inl h)
          · omega
        · exact P.par.dv b hv (.inr h)
      · rcases h with h | h | h | h
        · exact J3.blt b h
        · exact K3.blt b h
        · omega
        · have := P.par.lt b (.inr (.inr (.inr h))); omega
    have h1 := P.ln
    have h2 := P.size
    have h4 := up_ln h1 (Nat.le_add_right k 3)
    have h5 := up_sz h2 (Nat.le_add_right k 3)
    refine hk w3 _ _ (.inr ⟨d, r, jb, kb, a3, j, L, Bd3, Br3, V, own, ⟨by rw [c3.blk P.blt fun h => h.elim (fun h => P.par.ip (.inl h)) fun h => P.par.dp (.inl h)]; exact P.bl, J3, K3, ra, par3, P.old, hP j L P.inv, h4, h5⟩, rfl, rfl⟩) (c3.mono fun _ _ h => h.elim (fun h => .inl (.inl h)) fun h => .inr (.inl (.inl h))) (fun b h => ?_) fun b => .inl
    rcases h with (h | h) | (h | h) | h
    · exact (n3 b h).imp (fun h => .inl (.inl h)) id
    · exact .inl (.inl (.inr h))
    · exact (m3 b h).imp (fun h => .inr (.inl (.inl h))) id
    · exact .inl (.inr (.inl (.inr h)))
    · exact .inl (.inr (.inr h))
set_option maxHeartbeats 2000000 in
theorem popen_ok {W w : World} {pb k : Nat} {F V : Nat → Prop} {aB aS : Addr} {K : Value → World → Prop} (E : ErrsA w aB aS) (hF : ∀ b, F b → W.heap.size ≤ b) (h : Pr W w pb F V k) (hz : W.heap.size ≤ w.heap.size) (hk24 : k ≤ 2 ^ 24) (hE : ∀ w', Ch F w w' → ErrsA w' aB aS)
    (hk : PPost W w pb F V (k + 3) (K (.bool true))) : callP Tryz.prog 34 [.pointer (some ⟨pb, 0, none⟩)] w K := by
  have hold := h.old
  have hgen := h.gen hk
  obtain ⟨d, r, a, Bd, Br, o, bl, D, R, ra, hBd, hBr, hdis, hFpb, hpd, hpr, hfail⟩ := hgen
  have hpb := blk_lt bl
  have hcnt := ra.cnt
  refine ok_longshorelaw20_pair_open ?_
  unfold wp_longshorelaw20_pair_open
  simp only [nn_some, add_at, Nat.zero_add, Nat.add_zero]
  refine ⟨_, by rw [cell_blk bl]; rfl, ?_⟩
  have hdlt := D.lt
  have hrlt := R.lt
  have hsafe : ∀ f, a.file sLog = some f → f.safe ≤ f.dat.length := fun f hf => ra.wf.safe f (file_mem hf)
  have hEd : ∀ w', Ch Bd w w' → ErrsA w' aB aS := fun w' c => hE w' (c.mono fun _ _ h => hBd _ h)
  refine jopen_ok D hEd (ltS_of R) (by omega) (fun w1 Bd1 D1 c1 n1 hn => ⟨_, _, _, _, _, rfl, ?_⟩) fun w1 Bd1 jb j L q m cq own1 R1 hj J1 c1 n1 hjn hrow hsay hfr => ⟨_, _, _, _, _, rfl, ?_⟩
  · have bl1 : blk w1 pb = some (pcells d r o) := by rw [c1.blk hpb hpd]; exact bl
    have Rk1 := R.ch c1 fun b h h2 => hdis b h2 h
    have hz1 := c1.size
    refine ⟨_, by rw [cell_blk bl1]; rfl, ?_⟩
    refine kopen_ok (Bv0 := fun _ => False) Rk1 ra (by omega) (fun b h => h.elim) (fun w2 Br2 R2 c2 n2 _ => ⟨_, _, _, _, _, rfl, ?_⟩) fun w2 Br2 kb j L q2 m2 cq2 own2 R2 hj => by rw [hj] at hn; cases hn
    have hz2 := c2.size
    refine same_ok (A := fun _ => False) (B := fun _ => False) VL.nil VL.nil (by decide) (by simp) fun w3 c3 => ⟨_, rfl, ?_⟩
    refine jowned_ok El.Row.nil (by decide) (by simp) (by simp [recsOf]) (by simp [recsOf]) fun w4 c4 => ⟨_, rfl, ?_⟩
    have c24 : Ch (fun _ => False) w2 w4 := c3.trans c4 fun x _ h => by simp [El.rowB] at h
    refine ⟨fun w5 => w5 = w4, ?_, ?_⟩
    · rintro w5 rfl
      refine ⟨fun w6 => w6 = w5, ?_, Sif_false rfl⟩
      rintro w6 rfl
      have hdis2 : ∀ b, Bd1 b → ¬ Br2 b := fun b h h2 => by
        have hb1 := D1.lt b h
        rcases n2 b h2 with h2 | h2
        · rcases n1 b h with h | h
          · exact hdis b h h2
          · have := hrlt b h2; omega
        · omega
      have hd1l := D1.lt
      have hr2l := R2.lt
      refine hfail w6 a.jopen.2.1 Bd1 Br2 (fun j L => ?_) ra.jopen ((D1.ch c2 fun b h h2 => ?_).ch c24 fun _ _ => id) (R2.ch c24 fun _ _ => id) (((c1.mono fun _ _ h => .inl h).trans c2 fun x hx h => .inr h).new c24) n1 (fun b h => (n2 b h).imp id fun h => by omega) hdis2 fun b h => ?_
      · rcases jopen_any ra.nd hsafe with ⟨e, a', h1, h2⟩ | ⟨a', j', L', h1, _⟩
        · rw [h1]; exact h2 j L
        · rw [h1] at hn; cases hn
      · rcases n1 b h with h | h
        · exact hdis b h h2
        · have := hrlt b h2; omega
      · have := c24.size
        rcases h with h | h
        · have := hd1l b h; omega
        · have := hr2l b h; omega
    · refine Sif_true ?_
      rw [show (!a.jopen.1 != a.jopen.1) = true by simp]
      exact Sif_true (Sif_true (Sif_false rfl))
  · have bl1 : blk w1 pb = some (pcells d r o) := by rw [c1.blk hpb hpd]; exact bl
    have Rk1 := R.ch c1 fun b h h2 => hdis b h2 h
    have hz1 := c1.size
    have hJl := J1.blt
    have hrl1 := hrow.lt
    refine ⟨_, by rw [cell_blk bl1]; rfl, ?_⟩
    refine kopen_ok (Bv0 := Old W) Rk1 ra (by omega) (fun b h => ⟨by have h : b < W.heap.size := h
                                                                     omega, fun e => by have h : b < W.heap.size := h
                                                                                        have := hF b (hBr b e); omega⟩) (fun w2 Br2 R2 c2 n2 hno => by rw [hj] at hno; cases hno) fun w2 Br2 kb j2 L2 q2 m2 cq2 own2 R2 hj2 K2 c2 n2 hkn hrow2 hsay2 hfr2 => ⟨_, _, _, _, _, rfl, ?_⟩
    have hz2 := c2.size
    have he : j = j2 ∧ L = L2 := by
      rw [hj] at hj2
      have := congrArg (fun x : Int × AD × Option (AJ × List Batch) => x.2.2) hj2
      simpa using this
    obtain ⟨rfl, rfl⟩ := he
    rcases jopen_any ra.nd hsafe with ⟨e, a', h1, h2⟩ | ⟨a', j', L', h1, hinv, hjsz⟩
    · rw [h1] at hj; cases hj
    have ha' : a.jopen.2.1 = a' := by rw [h1]
    have he2 : j' = j ∧ L' = L := by
      rw [h1] at hj
      have := congrArg (fun x : Int × AD × Option (AJ × List Batch) => x.2.2) hj
      simpa using this
    obtain ⟨rfl, rfl⟩ := he2
    have hscan : L' = a.scan.1 := by
      have h5 := congrArg (fun x : Int × AD × Option (AJ × List Batch) => x.2.2.map (·.2)) h1
      simp only [Option.map_some] at h5
      unfold AD.jopen at h5
      split at h5
      · cases h5
      split at h5
      · cases h5
      · simp only [Option.map_map] at h5
        cases ho : a.openB.2.2 with
        | none => rw [ho] at h5; cases h5
        | some x => rw [ho] at h5; simpa using h5.symm
    have hlog : a.logF.dat.length ≤ 2 ^ 24 := by
      have ht := ra.wf.tot
      unfold AD.logF
      cases hf : a.file sLog with
      | none => simp
      | some f => have := dat_le_total (file_mem hf); simp; omega
    obtain ⟨hgood, hsmall⟩ := scanA_small a.logF.dat a.logF.safe
    have hscan2 : L' = (scanA a.logF.dat a.logF.safe).1 := hscan
    rw [← hscan2] at hgood hsmall
    have hLn := allB_cnt hgood
    have hB2 : ∀ b, Br b → b < w1.heap.size := Rk1.lt
    have hrow12 : BtE.Row w2 q m cq own1 R1 := hrow.ch c2 fun b hb h => by
      have h3 := hfr b hb
      have := hrlt b h; omega
    have S1 : Small (2 ^ 24) R1 := small_of hrow (by rw [hsay]; exact hgood) (by rw [hsay]; omega)
    have h1n := S1.n
    have hm1 : R1.length = m := hrow.1
    refine same_ok (BtE.Row.view hrow12) (BtE.Row.view hrow2) (by omega) (fun y hy => by have := view_small S1 y hy; omega) fun w3 c3 => ⟨_, rfl, ?_⟩
    rw [view_says, view_says, hsay, hsay2, decide_eq_true rfl]
    have hrow13 := hrow12.ch c3 fun _ _ => id
    refine jowned_ok hrow13 (by omega) (fun y hy => by have := S1.each y hy; omega) (fun x hx => by have := S1.recs x hx; omega) (by have := S1.all; omega) fun w4 c4 => ⟨_, rfl, ?_⟩
    have hz3 := c3.size
    have hz4 := c4.size
    have K3 := K2.ch0 c3
    have hK2l := K2.blt
    have hv2 := K2.vB
    have K4 : KD w4 kb r a.jopen.2.1 j' L' Br2 (fun b => Old W b ∨ b ∈ R2.flatMap BtE.B) own2 := by
      refine K3.ch c4 (fun b h hm => ?_) fun b h hm => ?_
      · have h3 := hfr b hm
        have h4 := hrl1 b hm
        rcases h with h | h | h
        · rcases n2 b h with h | h
          · have := hrlt b h; omega
          · omega
        · omega
        · have := hfr2 b (El.mem_rowB.2 (.inl h)); omega
      · have h3 := hfr b hm
        have h4 := hrl1 b hm
        rcases h with h | h
        · have h : b < W.heap.size := h
          omega
        · have := hfr2 b (List.mem_append.2 (.inr h)); omega
    have J2 : JD w2 jb d a.jopen.2.1 j' Bd1 := J1.ch c2 fun b h h2 => by
      rcases h with h | h
      · rcases n1 b h with h | h
        · exact hdis b h h2
        · have := hrlt b h2; omega
      · have := hrlt b h2; omega
    have J4 : JD w4 jb d a.jopen.2.1 j' Bd1 := (J2.ch0 c3).ch c4 fun b h hm => by
      have h3 := hfr b hm
      rcases h with h | h
      · exact h3.2.1 h
      · exact h3.2.2 h
    have bl2 : blk w2 pb = some (pcells d r o) := by rw [c2.blk (blk_lt bl1) hpr]; exact bl1
    have bl4 : blk w4 pb = some (pcells d r o) := by
      rw [c4.blk (by omega) fun h => by have := hfr pb h; omega, c3.blk (by omega) id]; exact bl2
    refine ⟨fun w5 => w5 = w4, ?_, Sif_true ?_⟩
    rotate_left
    · rw [show (!(0 : Int) != 0) = true by simp]
      exact Sif_true (Sif_true (Sif_false rfl))
    rintro w5 rfl
    refine ⟨fun w6 => blk w6 pb = some (pcells d r (some (jb, kb))) ∧ Ch (· = pb) w5 w6, ?_, Sif_true ?_⟩
    rotate_left
    · refine st_blk bl4 (by simp) fun w6 b6 c6 z6 => st_blk b6 (by simp) fun w7 b7 c7 z7 => ⟨b7, c6.trans' c7⟩
    rintro w6 ⟨b6, c6⟩
    have hz6 := c6.size
    have hpjb : pb ≠ jb := by omega
    have hnb1 : ¬ Bd1 pb := fun h => by
      rcases n1 _ h with h | h
      · exact hpd h
      · omega
    have J6 : JD w6 jb d a.jopen.2.1 j' Bd1 := J4.ch c6 fun b h e => by
      rcases h with h | h
      · exact hnb1 (e ▸ h)
      · exact hpjb (e.symm.trans h)
    have hnk : ∀ b, Fk Br2 kb own2 b → b ≠ pb := fun b h e => by
      rcases h with h | h | h
      · rcases n2 b h with h | h
        · exact hpr (e ▸ h)
        · omega
      · omega
      · have := hfr2 b (El.mem_rowB.2 (.inl h)); omega
    have hnv : ∀ b, (Old W b ∨ b ∈ R2.flatMap BtE.B) → b ≠ pb := fun b h e => by
      rcases h with h | h
      · have h : b < W.heap.size := h
        have := hF pb hFpb; omega
      · have := hfr2 b (List.mem_append.2 (.inr h)); omega
    have K6 := K4.ch c6 hnk hnv
    have c2w : Ch (fun b => Bd b ∨ Br b) w w2 := (c1.mono fun _ _ h => .inl h).trans c2 fun x hx h => .inr h
    have c4w : Ch (fun b => Bd b ∨ Br b) w w5 := (c2w.new c3).trans c4 fun x hx h => by have := hfr x h; omega
    have CF : Ch F w w6 := (c4w.mono fun _ _ h => h.elim (hBd _) (hBr _)).trans c6 fun x hx e => e ▸ hFpb
    refine hk w6 _ _ (.inr ⟨d, r, jb, kb, a.jopen.2.1, j', L', Bd1, Br2, _, own2, ⟨b6, J6, K6, ra.jopen, ⟨fun b h h2 => ?_, fun h => ?_, fun h => hnk pb h rfl, fun b hv h => ?_, fun b hv h => K6.vF b hv h, fun h => hnv pb h rfl, fun b h => ?_⟩, fun b => .inl, by rw [ha']; exact hinv, by omega, by omega⟩, rfl, rfl⟩) CF (fun b h => ?_) fun b h => ?_
    · rcases h with h | h
      · have hl := hJl b (.inl h)
        rcases h2 with h2 | h2 | h2
        · rcases n2 b h2 with h2 | h2
          · rcases n1 b h with h | h
            · exact hdis b h h2
            · have := hrlt b h2; omega
          · omega
        · omega
        · have := hfr2 b (El.mem_rowB.2 (.inl h2)); omega
      · have hl := hJl b (.inr h)
        rcases h2 with h2 | h2 | h2
        · rcases n2 b h2 with h2 | h2
          · have := hrlt b h2; omega
          · omega
        · omega
        · have := hfr2 b (El.mem_rowB.2 (.inl h2)); omega
    · rcases h with h | h
      · exact hnb1 h
      · exact hpjb h
    · rcases hv with hv | hv
      · have hv : b < W.heap.size := hv
        rcases h with h | h
        · rcases n1 b h with h | h
          · have := hF b (hBd b h); omega
          · omega
        · omega
      · have h3 := hfr2 b (List.mem_append.2 (.inr hv))
        have := hJl b h
        omega
    · rcases h with h | h | h | h
      · exact J6.blt b h
      · exact K6.blt b h
      · omega
      · exact (K6.vB b h).1
    · rcases h with (h | h) | (h | h | h) | h
      · exact (n1 b h).imp (hBd b) id
      · exact .inr (by omega)
      · exact (n2 b h).imp (hBr b) fun h => by omega
      · exact .inr (by omega)
      · have := hfr2 b (El.mem_rowB.2 (.inl h)); exact .inr (by omega)
      · exact .inl (h ▸ hFpb)
    · rcases h with h | h
      · exact .inl (hold b h)
      · have := hfr2 b (List.mem_append.2 (.inr h)); exact .inr (by omega)
end Go.Proofs.YtipololccbdojaaGreatDoor
namespace Go.Proofs.YtipololccbdojaaGreatDoor
open Go Go.Sv
set_option linter.unusedVariables false
set_option maxRecDepth 4000

theorem flat_dis {α : Type} {B : α → List Nat} : ∀ {M : List α} {j k : Nat} {y1 y2 : α}, (M.flatMap B).Nodup → j < k → M[j]? = some y1 → M[k]? = some y2 → ∀ b ∈ B y1, b ∉ B y2
  | [], j, k, y1, y2, _, _, h1, _ => by simp at h1
  | x :: M, j, k, y1, y2, nd, hjk, h1, h2 => by
    rw [List.flatMap_cons] at nd
    obtain ⟨n1, n2, n3⟩ := List.nodup_append.1 nd
    intro b hb hb2
    cases k with
    | zero => omega
    | succ k =>
      rw [List.getElem?_cons_succ] at h2
      cases j with
      | zero =>
        rw [List.getElem?_cons_zero] at h1
        cases h1
        exact n3 b hb b (List.mem_flatMap.2 ⟨y2, List.mem_of_getElem? h2, hb2⟩) rfl
      | succ j =>
        rw [List.getElem?_cons_succ] at h1
        exact flat_dis n2 (by omega) h1 h2 b hb hb2
theorem RA.add {a : AD} {k : Nat} (h : RA a k) (j : AJ) (R : Batch) : RA (a.add j R).2.1 (k + 3) := by
  unfold AD.add
  split
  · exact h.more (by omega)
  split
  · exact h.more (by omega)
  split
  · exact h.more (by omega)
  split
  · exact (h.cut _).more (by omega)
  · unfold AD.lay
    split
    · exact (h.cut _).append _ _
    split
    · exact ((h.cut _).append _ _).sync _
    · exact ((h.cut _).append _ _).sync _
theorem RA.shorten {a : AD} {k : Nat} (h : RA a k) (j : AJ) (L : List Batch) : RA (a.shorten j L).2.1 (k + 3) := by
  unfold AD.shorten
  split
  · exact h.more (by omega)
  split
  · exact h.more (by omega)
  split
  · exact (h.repl _).more (by omega)
  · exact (h.repl _).more (by omega)
theorem add_size (a : AD) (j : AJ) (R : Batch) : (a.add j R).2.2.size ≤ j.size + (batchB R).length := by
  have hc : ∀ j' : AJ, (a.cut j').2.2.size = j'.size := fun j' => by
    unfold AD.cut
    split
    · rfl
    split
    · rfl
    split <;> rfl
  unfold AD.add
  split
  · exact Nat.le_add_right _ _
  split
  · exact Nat.le_add_right _ _
  split
  · exact Nat.le_add_right _ _
  split
  · show (a.cut (j.look a)).2.2.size ≤ _
    rw [hc]; exact Nat.le_add_right _ _
  · unfold AD.lay
    split
    · show (a.cut (j.look a)).2.2.size ≤ _
      rw [hc]; exact Nat.le_add_right _ _
    split
    · show (a.cut (j.look a)).2.2.size ≤ _
      rw [hc]; exact Nat.le_add_right _ _
    · show (a.cut (j.look a)).2.2.size + _ ≤ _
      rw [hc]; exact Nat.le_refl _
theorem shorten_size (a : AD) (j : AJ) (L : List Batch) : (a.shorten j L).2.2.size ≤ j.size + (allB L).length := by
  unfold AD.shorten
  split
  · exact Nat.le_add_right _ _
  split
  · exact Nat.le_add_right _ _
  split
  · exact Nat.le_add_right _ _
  · exact Nat.le_add_left _ _
theorem add_any {w : World} {jb d : Nat} {a : AD} {j : AJ} {L : List Batch} {B Bv : Nat → Prop} {p : Option Addr} {n c : Nat} {X : List RV} {K : Value → World → Prop} (H : JD w jb d a j B) (inv : PInv a j L) (hv : VR w Bv p n X) (hd : ∀ b, Bv b → ¬ (B b ∨ b = jb)) (hlen : (body (saysR X)).length ≤ 2 ^ 40) (hn : n ≤ 2 ^ 40) (hsz : j.size ≤ 2 ^ 61)
    (hk : JPost w jb d (a.add j (saysR X)).2.1 (a.add j (saysR X)).2.2 B (K (.int .i64 (a.add j (saysR X)).1))) :
    callP Tryz.prog 19 [.pointer (some ⟨jb, 0, none⟩), .slice p n c] w K := by
  cases hdn : (j.look a).down with
  | true =>
    have e : a.add j (saysR X) = (3, a, j.look a) := by unfold AD.add; rw [if_pos hdn]
    rw [e] at hk
    refine ok_journal_Journal_Add ?_
    unfold wp_journal_Journal_Add
    exact isDown_ok H fun w1 B1 H1 c1 n1 => ⟨_, rfl, by rw [hdn]; exact Sif_true (hk w1 B1 H1 c1 n1)⟩
  | false =>
    have h2 : j.down = false ∧ a.down = false := by unfold AJ.look at hdn; simpa using hdn
    exact add_ok H (fun t _ => (inv.read h2.1 h2.2 t).2.2) hv hd hlen hn hsz hk
set_option maxHeartbeats 1000000 in
theorem padd_ok {W w : World} {pb d r jb kb k : Nat} {a : AD} {j : AJ} {L : List Batch} {Bd Br Bv : Nat → Prop} {own : Option Nat} {x : BV} {K : Value → World → Prop} (P : PJ W w pb d r jb kb a j L Bd Br Bv own k) (hk24 : k ≤ 2 ^ 24) (hx : x.ok w (Old W)) (hxs : BV.small x) (hw : (wtR x.says : Int) ≤ most)
    (hk : PPost W w pb (PJF pb jb kb Bd Br own) Bv (k + 3) (K (.bool true))) : callP Tryz.prog 70 [.pointer (some ⟨pb, 0, none⟩), .slice x.p x.n x.c] w K := by
  have hw : (wtR x.says : Int) ≤ 2147483647 := hw
  have hbody := wtR_body x.says
  have hbatch := batchB_le x.says
  have hxn := hxs.1
  have hln := P.ln
  have hsz : j.size ≤ 2 ^ 60 := by
    have h1 := P.size
    have h2 : k * 8589934592 ≤ 2 ^ 24 * 8589934592 := Nat.mul_le_mul_right _ hk24
    omega
  have hold := P.old
  have hPlt := P.par.lt
  refine ok_longshorelaw20_pair_add ?_
  unfold wp_longshorelaw20_pair_add
  refine lentAll_ok hx.rd (by omega) (fun y hy => by have := hxs.2 y hy; omega) fun w1 q cq lo R hrow hsay hfr c1 => ⟨_, _, _, rfl, ?_⟩
  have hz1 := c1.size
  have P1 := P.ch c1 (fun _ _ => id) fun _ _ => id
  have hR1 := hrow.lt
  simp only [nn_some, add_at, Nat.zero_add]
  refine ⟨_, by rw [cell_blk P1.bl]; rfl, ?_⟩
  have V1 := LtE.Row.view hrow
  have hs1 : saysR (R.map Lt.view) = x.says := by rw [ltv_says, hsay]; rfl
  refine add_any P1.J P1.inv V1 (fun b hb h => by have := hfr b hb; have := hPlt b (.inl h.symm.symm); omega) (by rw [hs1]; omega) (by omega) (by omega) ?_
  rw [hs1]
  intro w2 Bd2 H2 c2 n2
  have hz2 := c2.size
  obtain ⟨K2, par2, bl2⟩ := P1.I H2 c2 n2
  refine ⟨_, rfl, _, by rw [cell_blk bl2]; rfl, ?_⟩
  have hx1 : x.ok w1 Bv := (hx.ch c1 fun _ _ => id).mono hold
  have hx2 : x.ok w2 Bv := hx1.ch c2 fun b hb => P1.par.iv b hb
  refine kadd_ok K2 P1.ra (by omega) P1.inv (by omega) hx2 (by omega) (by omega) (by omega) fun w3 Br3 own3 K3 c3 n3 => ⟨_, rfl, ?_⟩
  have hz3 := c3.size
  have inv3 := (PInv.add (a := a) x.says P.ra.nd P.inv).1
  have hasz := add_size a j x.says
  have P3 : PJ W w3 pb d r jb kb (a.add j x.says).2.1 (a.add j x.says).2.2 (if (a.add j x.says).1 = 0 ∧ x.says ≠ [] then L ++ [x.says] else L) Bd2 Br3 Bv own3 (k + 3) := by
    refine PJ.of H2 par2 bl2 K3 c3 n3 (P.ra.add j x.says) hold inv3 ?_ ?_
    · split
      · rw [List.length_append, List.length_singleton]; exact up_ln (l := L.length + 1) (k := k + 1) (by omega) (by omega)
      · exact up_ln hln (by omega)
    · have h1 := P.size
      have h3 : (k + 3) * 8589934592 = k * 8589934592 + 25769803776 := by rw [Nat.add_mul]
      rw [h3]
      omega
  have hI : ∀ b, (Bd b ∨ b = jb) → b < w.heap.size := fun b h => hPlt b (.inl h)
  have hD : ∀ b, Fk Br kb own b → b < w.heap.size := fun b h => hPlt b (.inr (.inl h))
  have hrow3 : LtE.Row w3 q x.n cq lo R := (hrow.ch c2 fun b hb h => by have := hfr b hb; have := hI b h; omega).ch c3 fun b hb h => by have := hfr b hb; have := hD b h; omega
  have hx3 : x.ok w3 (Old W) := ((hx.ch c1 fun _ _ => id).ch c2 fun b hb => P1.par.iv b (hold b hb)).ch c3 fun b hb => par2.dv b (hold b hb)
  refine asLentAll_ok hrow3 hx3.rd hsay (fun b hb hm => by have := hfr b hm; have := hPlt b (.inr (.inr (.inr (hold b hb)))); omega) (by omega) (fun y hy => by have := hxs.2 y hy; omega) fun w4 c4 => ⟨_, rfl, ?_⟩
  have hF3 : ∀ b, PJF pb jb kb Bd2 Br3 own3 b → PJF pb jb kb Bd Br own b ∨ w1.heap.size ≤ b := fun b h => by
    rcases h with (h | h) | (h | h | h) | h
    · exact (n2 b h).imp (fun h => .inl (.inl h)) id
    · exact .inl (.inl (.inr h))
    · rcases n3 b (.inl h) with h | h | h
      · exact .inl (.inr (.inl (.inl h)))
      · exact .inl (.inr (.inl (.inr (.inr h))))
      · exact .inr (by omega)
    · exact .inl (.inr (.inl (.inr (.inl h))))
    · rcases n3 b (.inr h) with h | h | h
      · exact .inl (.inr (.inl (.inl h)))
      · exact .inl (.inr (.inl (.inr (.inr h))))
      · exact .inr (by omega)
    · exact .inl (.inr (.inr h))
  have hFlt : ∀ b, PJF pb jb kb Bd Br own b → b < w.heap.size := fun b h => hPlt b (by rcases h with h | h | h; exact .inl h; exact .inr (.inl h); exact .inr (.inr (.inl h)))
  have P4 := P3.ch c4 (fun b h hm => by
    have h1 := hfr b hm
    have h2 := hR1 b hm
    rcases hF3 b h with h | h
    · have := hFlt b h; omega
    · omega) fun b hb hm => by
      have h1 := hfr b hm
      have := hPlt b (.inr (.inr (.inr hb))); omega
  rw [show ((a.add j x.says).1 == (a.add j x.says).1) = true by simp]
  refine Sif_true (hk w4 _ _ (.inr ⟨d, r, jb, kb, _, _, _, Bd2, Br3, Bv, own3, P4, rfl, rfl⟩) ?_ (fun b h => (hF3 b h).imp id fun h => by omega) fun b => .inl)
  have c02 : Ch (PJF pb jb kb Bd Br own) w w2 := (c1.mono fun _ _ h => h.elim).trans c2 fun x hx h => .inl h
  exact (c02.trans c3 fun x hx h => .inr (.inl h)).trans c4 fun x hx h => by have := hfr x h; omega
theorem shorten_any {w : World} {jb d : Nat} {a : AD} {j : AJ} {B Bv : Nat → Prop} {p : Option Addr} {n c : Nat} {Y : List BV} {K : Value → World → Prop} (H : JD w jb d a j B) (hv : VL w Bv p n Y) (hd : ∀ b, Bv b → ¬ (B b ∨ b = jb)) (hlen : (allB (saysL Y)).length ≤ 2 ^ 40) (hn : n ≤ 2 ^ 40) (hns : ∀ y ∈ Y, y.n ≤ 2 ^ 40)
    (hk : JPost w jb d (a.shorten j (saysL Y)).2.1 (a.shorten j (saysL Y)).2.2 B (K (.int .i64 (a.shorten j (saysL Y)).1))) :
    callP Tryz.prog 28 [.pointer (some ⟨jb, 0, none⟩), .slice p n c] w K :=
  shorten_ok H hv hd hlen hn hns hk
theorem pfiles_ok {W w : World} {pb k : Nat} {F V : Nat → Prop} {K : Value → World → Prop} (h : Pr W w pb F V k) (hk24 : k ≤ 2 ^ 24)
    (hk : PPost W w pb F V k (K (.bool true))) : callP Tryz.prog 36 [.pointer (some ⟨pb, 0, none⟩)] w K := by
  have hgen : ∃ (d r : Nat) (a : AD) (Bd Br : Nat → Prop) (o : Option (Nat × Nat)), blk w pb = some (pcells d r o) ∧ DK w d a Bd ∧ RK w r a Br ∧ RA a k ∧ (∀ b, Bd b → ¬ Br b) ∧ ¬ Bd pb ∧ 
      (∀ w3 Bd3, DK w3 d a Bd3 → Ch Bd w w3 → (∀ b, Bd3 b → Bd b) → K (.bool true) w3) := by
    rcases h with ⟨d, r, a, Bd, Br, P, rfl, rfl⟩ | ⟨d, r, jb, kb, a, j, L, Bd, Br, Bv, own, P, rfl, rfl⟩
    · refine ⟨d, r, a, Bd, Br, none, P.bl, P.dk, P.rk, P.ra, P.par.id, P.par.ip, fun w3 Bd3 D3 c3 n3 => ?_⟩
      refine hk w3 _ _ (.inl ⟨d, r, a, Bd3, Br, ⟨by rw [c3.blk P.blt P.par.ip]; exact P.bl, D3, P.rk.ch c3 fun b h h2 => P.par.id b h2 h, P.ra, P.par.stepI c3.size (fun b h => .inl (n3 b h)) D3.lt⟩, rfl, rfl⟩) (c3.mono fun _ _ h => .inl h) (fun b h => .inl ?_) fun b => .inl
      rcases h with h | h
      · exact .inl (n3 b h)
      · exact .inr h
    · refine ⟨d, r, a, Bd, Br, some (jb, kb), P.bl, P.J.dk, P.K.rk, P.ra, fun b h1 h2 => P.par.id b (.inl h1) (.inl h2), fun h => P.par.ip (.inl h), fun w3 Bd3 D3 c3 n3 => ?_⟩
      have J3 := P.J.disk D3 c3 fun b h => .inl (n3 b h)
      obtain ⟨K3, par3, bl3⟩ := P.I J3 (c3.mono fun _ _ h => .inl h) fun b h => .inl (n3 b h)
      refine hk w3 _ _ (.inr ⟨d, r, jb, kb, a, j, L, Bd3, Br, V, own, ⟨bl3, J3, K3, P.ra, par3, P.old, P.inv, P.ln, P.size⟩, rfl, rfl⟩) (c3.mono fun _ _ h => .inl (.inl h)) (fun b h => .inl ?_) fun b => .inl
      rcases h with (h | h) | h
      · exact .inl (.inl (n3 b h))
      · exact .inl (.inr h)
      · exact .inr h
  obtain ⟨d, r, a, Bd, Br, o, bl, D, R, ra, hdis, hpd, hend⟩ := hgen
  have hcnt := ra.cnt
  refine ok_longshorelaw20_pair_files ?_
  unfold wp_longshorelaw20_pair_files
  simp only [nn_some, add_at, Nat.zero_add, Nat.add_zero]
  refine ⟨_, by rw [cell_blk bl]; rfl, ?_⟩
  refine files_ok D (ltS_of R) (by omega) fun p c ob O w1 Bd1 D1 c1 n1 F1 hO1 hfr1 => ⟨_, _, _, rfl, ?_⟩
  have bl1 : blk w1 pb = some (pcells d r o) := by rw [c1.blk (blk_lt bl) hpd]; exact bl
  refine ⟨_, by rw [cell_blk bl1]; rfl, ?_⟩
  have R1 := R.ch c1 fun b h h2 => hdis b h2 h
  refine rfiles_ok R1 ra.dat (by omega) fun p2 c2 ob2 O2 w2 c12 F2 hO2 hfr2 => ⟨_, _, _, rfl, ?_⟩
  have hl : O.length = a.fs.length := by have := congrArg List.length hO1; simpa using this
  refine Same_ok (F1.rd.ch0 c12) F2.rd (by rw [hO1, hO2]) (by omega) fun w3 c3 z3 => ⟨_, rfl, ?_⟩
  exact hend w3 Bd1 ((D1.ch c12 fun _ _ => id).ch c3 fun _ _ => id) ((c1.new c12).new c3) n1
end Go.Proofs.YtipololccbdojaaGreatDoor
namespace Go.Proofs.YtipololccbdojaaGreatDoor
open Go Go.Sv
set_option linter.unusedVariables false
set_option maxRecDepth 4000

theorem pj_foot {pb jb kb : Nat} {Bd Br Bd2 Br3 : Nat → Prop} {own own3 : Option Nat} {n0 n1 n2 : Nat} (h1 : n0 ≤ n1) (h2 : n0 ≤ n2) (a1 : ∀ b, Bd2 b → Bd b ∨ n1 ≤ b) (a2 : ∀ b, Br3 b ∨ own3 = some b → Br b ∨ own = some b ∨ n2 ≤ b) : ∀ b, PJF pb jb kb Bd2 Br3 own3 b → PJF pb jb kb Bd Br own b ∨ n0 ≤ b := fun b h => by
  rcases h with (h | h) | (h | h | h) | h
  · exact (a1 b h).imp (fun h => .inl (.inl h)) fun h => by omega
  · exact .inl (.inl (.inr h))
  · rcases a2 b (.inl h) with h | h | h
    · exact .inl (.inr (.inl (.inl h)))
    · exact .inl (.inr (.inl (.inr (.inr h))))
    · exact .inr (by omega)
  · exact .inl (.inr (.inl (.inr (.inl h))))
  · rcases a2 b (.inr h) with h | h | h
    · exact .inl (.inr (.inl (.inl h)))
    · exact .inl (.inr (.inl (.inr (.inr h))))
    · exact .inr (by omega)
  · exact .inl (.inr (.inr h))
set_option maxHeartbeats 1000000 in
theorem pshorten_ok {W w : World} {pb d r jb kb k : Nat} {a : AD} {j : AJ} {L : List Batch} {Bd Br Bv : Nat → Prop} {own : Option Nat} {x : LV} {K : Value → World → Prop} (P : PJ W w pb d r jb kb a j L Bd Br Bv own k) (hk24 : k ≤ 2 ^ 24) (hx : VL w (Old W) x.p x.n x.Y) (hxn : x.n ≤ 2 ^ 20) (hxs : ∀ y ∈ x.Y, BV.small y) (hw : (wtL (saysL x.Y) : Int) ≤ most)
    (hk : PPost W w pb (PJF pb jb kb Bd Br own) Bv (k + 3) (K (.bool true))) : callP Tryz.prog 71 [.pointer (some ⟨pb, 0, none⟩), .slice x.p x.n x.c] w K := by
  have hw : (wtL (saysL x.Y) : Int) ≤ 2147483647 := hw
  have hall := allB_wt (saysL x.Y)
  have hln := P.ln
  have hold := P.old
  have hPlt := P.par.lt
  have hxl := hx.len
  have hI : ∀ b, (Bd b ∨ b = jb) → b < w.heap.size := fun b h => hPlt b (.inl h)
  have hD : ∀ b, Fk Br kb own b → b < w.heap.size := fun b h => hPlt b (.inr (.inl h))
  have hV : ∀ b, Bv b → b < w.heap.size := fun b h => hPlt b (.inr (.inr (.inr h)))
  have hFlt : ∀ b, PJF pb jb kb Bd Br own b → b < w.heap.size := fun b h => hPlt b (by rcases h with h | h | h; exact .inl h; exact .inr (.inl h); exact .inr (.inr (.inl h)))
  refine ok_longshorelaw20_pair_shorten ?_
  unfold wp_longshorelaw20_pair_shorten
  refine ⟨fun m q t cq i w' => ∃ (lo : Option Nat) (R : List Ll), i = (t : Int) ∧ t ≤ x.n ∧ m = x.n - t ∧ Ch (fun _ => False) w w' ∧ LlE.Row w' q t cq lo R ∧ R.map Ll.says = saysL (x.Y.take t) ∧ (∀ b ∈ LlE.rowB lo R, w.heap.size ≤ b), ⟨x.n, none, [], rfl, by omega, rfl, Ch.refl _ _, El.Row.nil, by simp [saysL], by simp [El.rowB]⟩, ?_⟩
  rintro m q t cq i w1 ⟨lo, R, rfl, ht, rfl, c1, hrow, hsay, hfr⟩
  have hz1 := c1.size
  refine Sif_cases (fun hlt => ?_) fun hge => ?_
  · have hlt' : (t : Int) < x.n := by simpa using hlt
    have hil : t < x.Y.length := by omega
    have hv1 := hx.ch0 c1
    obtain ⟨kk, o, hp, hcell⟩ := hv1.at (List.getElem?_eq_getElem hil)
    have hyo := hv1.ok _ (List.getElem_mem hil)
    have hys := hxs _ (List.getElem_mem hil)
    rw [hp]
    refine ⟨by omega, hlt', ?_⟩
    simp only [nn_some, add_at, Int.toNat_natCast, Nat.mul_one]
    refine ⟨_, _, _, hcell, ?_⟩
    have hyn := hys.1
    refine lentAll_ok hyo.rd (by omega) (fun z hz => by have := hys.2 z hz; omega) fun w2 q1 cq1 lo1 R1 hrow1 hsay1 hfr1 c2 => ⟨_, _, _, rfl, ?_⟩
    have hz2 := c2.size
    have hrl := hrow.lt
    refine El.Row.push (E := LlE) (bytes := 24) (x := ⟨⟨q1, x.Y[t].n, cq1, lo1⟩, R1⟩) Tryz.underlying24 log_info rfl (hrow.ch c2 fun _ _ => id) hrow1 (fun b hb hm => ?_) (by omega) (by omega) fun p' c' own' w' hr hb c3 => ?_
    · have h1 := hfr1 b hb
      have h2 := hrl b hm
      omega
    · rw [wrap_id (by omega) (by omega), nameI_iff]
      refine ⟨x.n - (t + 1), by omega, own', _, by omega, by omega, rfl, (c1.trans' c2).trans c3 fun z hz e => by have := hfr z (El.mem_rowB.2 (.inl e)); omega, hr, ?_, fun b hm => ?_⟩
      · rw [List.take_succ_eq_append_getElem hil]
        simp only [saysL, List.map_append, List.map_cons, List.map_nil] at hsay ⊢
        rw [hsay]
        congr 2
      · rcases hb b hm with h | h | h
        · exact hfr b h
        · have := hfr1 b h; omega
        · omega
  have hge' : ¬ (t : Int) < x.n := by simpa using hge
  obtain rfl : t = x.n := by omega
  rw [List.take_of_length_le (by omega)] at hsay
  have P1 := P.ch c1 (fun _ _ => id) fun _ _ => id
  have hR1 := hrow.lt
  have hRlen : R.length = x.n := hrow.1
  simp only [nn_some, add_at, Nat.zero_add]
  refine ⟨_, by rw [cell_blk P1.bl]; rfl, ?_⟩
  have V1 := LlE.Row.view hrow
  have hs1 : saysL (R.map Ll.view) = saysL x.Y := by rw [llv_says, hsay]
  have hRn : ∀ y ∈ R.map Ll.view, y.n ≤ 2 ^ 40 := fun y hy => by
    obtain ⟨z, hz, rfl⟩ := List.mem_map.1 hy
    have h2 : LtE.Row w1 z.s.p z.s.n z.s.c z.s.own z.r := hrow.2.2.1 z hz
    have h3 : z.says ∈ R.map Ll.says := List.mem_map.2 ⟨z, hz, rfl⟩
    rw [hsay] at h3
    obtain ⟨y2, hy2, he⟩ := List.mem_map.1 h3
    have h4 := (hxs y2 hy2).1
    have h5 := (hx.ok y2 hy2).rd.len
    have h6 : z.says.length = z.r.length := by simp [Ll.says]
    have h7 : y2.says.length = y2.X.length := by unfold BV.says; simp [saysR]
    have h8 : z.r.length = z.s.n := h2.1
    rw [← he] at h6
    show z.s.n ≤ _
    omega
  refine shorten_any P1.J V1 (fun b hb h => by have := hfr b hb; have := hI b h; omega) (by rw [hs1]; omega) (by omega) hRn ?_
  rw [hs1]
  intro w2 Bd2 H2 c2 n2
  have hz2 := c2.size
  obtain ⟨K2, par2, bl2⟩ := P1.I H2 c2 n2
  refine ⟨_, rfl, _, by rw [cell_blk bl2]; rfl, ?_⟩
  have hx2o : VL w2 (Old W) x.p x.n x.Y := (hx.ch0 c1).ch c2 fun b hb => P1.par.iv b (hold b hb)
  refine kshorten_ok K2 P1.ra (by omega) (hx2o.mono hold) (by omega) (by omega) (fun y hy => by have := (hxs y hy).1; omega) fun w3 Br3 own3 K3 c3 n3 => ⟨_, rfl, ?_⟩
  have hz3 := c3.size
  have inv3 := PInv.shorten (a := a) (saysL x.Y) P.ra.nd P.inv
  have hasz := shorten_size a j (saysL x.Y)
  have P3 : PJ W w3 pb d r jb kb (a.shorten j (saysL x.Y)).2.1 (a.shorten j (saysL x.Y)).2.2 (if (a.shorten j (saysL x.Y)).1 = 0 then nonE (saysL x.Y) else L) Bd2 Br3 Bv own3 (k + 3) := by
    refine PJ.of H2 par2 bl2 K3 c3 n3 (P.ra.shorten j (saysL x.Y)) hold inv3 ?_ ?_
    · split
      · have h1 : (nonE (saysL x.Y)).length ≤ (saysL x.Y).length := List.length_filter_le ..
        have h2 : (saysL x.Y).length = x.Y.length := by simp [saysL]
        exact up_ln (l := (nonE (saysL x.Y)).length) (k := 0) (by omega) (by omega)
      · exact up_ln hln (by omega)
    · have h1 := P.size
      have h3 : (k + 3) * 8589934592 = k * 8589934592 + 25769803776 := by rw [Nat.add_mul]
      rw [h3]
      omega
  have hrow3 : LlE.Row w3 q x.n cq lo R := (hrow.ch c2 fun b hb h => by have := hfr b hb; have := hI b h; omega).ch c3 fun b hb h => by have := hfr b hb; have := hD b h; omega
  have hx3 : VL w3 (Old W) x.p x.n x.Y := hx2o.ch c3 fun b hb => par2.dv b (hold b hb)
  have hF3 := pj_foot (pb := pb) (jb := jb) (kb := kb) (own3 := own3) (n0 := w1.heap.size) (Nat.le_refl _) hz2 n2 n3
  obtain ⟨r1, r2, r3, r4⟩ := hrow3
  obtain ⟨nd1, nd2, nd3⟩ := List.nodup_append.1 (show (lo.toList ++ R.flatMap LlE.B).Nodup from r4)
  have hRx : ∀ b ∈ R.flatMap LlE.B, w.heap.size ≤ b ∧ b < w1.heap.size := fun b hb => ⟨hfr b (List.mem_append.2 (.inr hb)), hR1 b (List.mem_append.2 (.inr hb))⟩
  refine ⟨fun m i w' => ∃ i' : Nat, i = (i' : Int) ∧ i' ≤ x.n ∧ m = x.n - i' ∧ Ch (fun b => b ∈ R.flatMap LlE.B) w3 w' ∧ ∀ (i : Nat) (z : Ll), i' ≤ i → R[i]? = some z → LlE.Ok w' z, ⟨x.n, 0, rfl, by omega, rfl, Ch.refl _ _, fun i z _ hz => r3 z (List.mem_of_getElem? hz)⟩, ?_⟩
  rintro m i w4 ⟨i, rfl, hi, rfl, c4, hok⟩
  have hz4 := c4.size
  refine Sif_cases (fun hlt => ?_) fun hge => ?_
  · have hlt' : (i : Int) < x.n := by simpa using hlt
    have hil : i < x.Y.length := by omega
    have hiR : i < R.length := by omega
    have c4d : Ch (fun b => b ∈ R.flatMap LlE.B) w3 w4.drew := c4.trans' (Ch.drew w4)
    have hx4 : VL w4.drew (Old W) x.p x.n x.Y := hx3.ch c4d fun b hb hm => by have := hRx b hm; have := hV b (hold b hb); omega
    obtain ⟨kk, o, hp, hcell⟩ := hx4.at (List.getElem?_eq_getElem hil)
    have hyo := hx4.ok _ (List.getElem_mem hil)
    have hys := hxs _ (List.getElem_mem hil)
    have o4 : Ow w4.drew q x.n cq LlE.sz (R.flatMap LlE.g) lo := r2.ch c4d fun b hb hm => nd3 b (by rw [hb]; simp) b hm rfl
    obtain ⟨kq, oq, hq, hcq⟩ := o4.rd.at (g := LlE.g) LlE.glen (List.getElem?_eq_getElem hiR) (by decide)
    have hcq0 := hcq 0 (.slice R[i].s.p R[i].s.n R[i].s.c) rfl
    rw [show LlE.sz = 1 from rfl, Nat.mul_one, Nat.add_zero] at hcq0
    rw [hq, hp]
    refine ⟨by omega, hlt', ?_⟩
    simp only [nn_some, add_at, Int.toNat_natCast, Nat.mul_one]
    refine ⟨by omega, hlt', _, _, _, hcq0, _, _, _, hcell, ?_⟩
    have hokR : LtE.Row w4.drew R[i].s.p R[i].s.n R[i].s.c R[i].s.own R[i].r := (LlE.ch (hok i R[i] (Nat.le_refl _) (List.getElem?_eq_getElem hiR)) (Ch.drew (S := fun _ => False) w4) fun _ _ => id)
    have hsi : R[i].r.map (·.l) = saysR x.Y[i].X := by
      have e1 := congrArg (·[i]?) hsay
      simp only [saysL, List.getElem?_map, List.getElem?_eq_getElem hiR, List.getElem?_eq_getElem hil, Option.map_some] at e1
      exact Option.some.inj e1
    have hBm : ∀ b ∈ LtE.rowB R[i].s.own R[i].r, b ∈ R.flatMap LlE.B := fun b hb => List.mem_flatMap.2 ⟨R[i], List.getElem_mem hiR, hb⟩
    refine asLentAll_ok hokR hyo.rd hsi (fun b hb hm => by have := hRx b (hBm b hm); have := hV b (hold b hb); omega) (by have := hys.1; omega) (fun y hy => by have := hys.2 y hy; omega) fun w5 c5 => ⟨_, rfl, Sif_false ?_⟩
    rw [wrap_id (by omega) (by omega), nameI_iff]
    refine ⟨x.n - (i + 1), by omega, i + 1, by omega, by omega, rfl, c4d.trans c5 fun z hz h => hBm z h, fun i2 z hi2 hz => ?_⟩
    exact LlE.ch (LlE.ch (hok i2 z (by omega) hz) (Ch.drew (S := fun _ => False) w4) fun _ _ => id) c5 fun b hb hm => flat_dis nd2 (by omega) (List.getElem?_eq_getElem hiR) hz b hm hb
  · have P4 := P3.ch c4 (fun b h hm => by
      have h1 := hRx b hm
      rcases hF3 b h with h | h
      · have := hFlt b h; omega
      · omega) fun b hb hm => by
        have h1 := hRx b hm
        have := hV b hb; omega
    rw [show ((a.shorten j (saysL x.Y)).1 == (a.shorten j (saysL x.Y)).1) = true by simp]
    refine hk w4 _ _ (.inr ⟨d, r, jb, kb, _, _, _, Bd2, Br3, Bv, own3, P4, rfl, rfl⟩) ?_ (fun b h => (hF3 b h).imp id fun h => by omega) fun b => .inl
    have c02 : Ch (PJF pb jb kb Bd Br own) w w2 := (c1.mono fun _ _ h => h.elim).trans c2 fun x hx h => .inl h
    exact (c02.trans c3 fun x hx h => .inr (.inl h)).trans c4 fun x hx h => by have := hRx x h; omega
end Go.Proofs.YtipololccbdojaaGreatDoor
namespace Go.Proofs.YtipololccbdojaaGreatDoor
open Go Go.Sv
set_option linter.unusedVariables false
set_option maxRecDepth 4000

section
variable {a : AD} {k : Nat}
theorem RA.start (h : RA a k) : RA { a with down := false } k := ⟨⟨h.wf.safe, h.wf.fits, h.wf.room, h.wf.acts1, h.wf.acts2, h.wf.names⟩, h.nd, h.kp, h.cnt⟩
theorem RA.crash (h : RA a k) (x : Int) : RA (a.crash x) k := by
  unfold AD.crash
  split
  · exact h
  · exact h.fall x
theorem RA.arm (h : RA a k) {x y : Int} (hx : x ≤ 9223372036854775807) (hy : -9223372036854775808 ≤ y) : RA (a.arm x y) k := by
  unfold AD.arm
  split
  · exact h
  · exact ⟨⟨h.wf.safe, h.wf.fits, h.wf.room, by show -1 ≤ max x (-1); omega, by show max x (-1) ≤ _; omega, h.wf.names⟩, h.nd, hy, h.cnt⟩
theorem arm_file (a : AD) (x y : Int) (n : ByteArray) : (a.arm x y).file n = a.file n := by
  unfold AD.arm
  split <;> rfl
end
set_option maxHeartbeats 1000000 in
theorem pstep_ok {W w : World} {pb k : Nat} {F V : Nat → Prop} {o : OV} {aB aS : Addr} {K : Value → World → Prop} (E : ErrsA W aB aS) (hWw : Ch (fun _ => False) W w) (hF : ∀ b, F b → W.heap.size ≤ b) (h : Pr W w pb F V k) (hk24 : k ≤ 2 ^ 24) (ho : o.ok W) (hw : (wtR o.l.says : Int) ≤ most ∧ (wtL (saysL o.m.Y) : Int) ≤ most)
    (hk : PPost W w pb F V (k + 3) (K (.bool true))) : callP Tryz.prog 35 [.pointer (some ⟨pb, 0, none⟩), .agg #[.int .i64 o.k, .int .i64 o.A, .int .i64 o.B, .slice o.l.p o.l.n o.l.c, .slice o.m.p o.m.n o.m.c]] w K := by
  refine ok_longshorelaw20_pair_step ?_
  unfold wp_longshorelaw20_pair_step
  refine newB_blk fun w1 b1 c1 z1 => ?_
  have hz1 := c1.size
  have h1 := h.ch c1 fun _ _ => id
  have hFl : ∀ b, F b ∨ V b → b < w.heap.size := h.lt
  -- from there
  have hk1 : PPost W w1 pb F V (k + 3) (K (.bool true)) := fun w' F' V' hp c' n' m' => hk w' F' V' hp ((c1.mono fun _ _ h => h.elim).trans' c') (fun b hb => (n' b hb).imp id fun h => by omega) fun b hb => (m' b hb).imp id fun h => by omega
  have hself : ∀ w', Ch (fun _ => False) w1 w' → K (.bool true) w' := fun w' c => hk1 w' F V ((h1.ch c fun _ _ => id).more (by omega)) (c.mono fun _ _ h => h.elim) (fun b => .inl) fun b => .inl
  have C1 := hWw.new c1
  have hE1 : ∀ w', Ch F w1 w' → ErrsA w' aB aS := fun w' c => E.ch (C1.trans c fun x hx h => by have := hF x h; omega)
  have hz : W.heap.size ≤ w1.heap.size := C1.size
  simp only [nn_some, add_at, Nat.zero_add, Nat.add_zero]
  refine ⟨fun w2 => K (.bool true) w2, fun _ => id, _, by rw [cell_blk b1]; rfl, ?_⟩
  refine Sif_cases (fun _ => ?_) fun _ => Sif_cases (fun _ => ?_) fun _ => Sif_cases (fun _ => ?_) fun _ => Sif_cases (fun _ => ?_) fun _ => Sif_cases (fun _ => ?_) fun _ => Sif_cases (fun _ => ?_) fun _ => Sif_cases (fun _ => ?_) fun _ => Sif_cases (fun _ => ?_) fun _ => hself w1 (Ch.refl _ _)
  · -- Add
    rcases h1 with ⟨d, r, a, Bd, Br, P, rfl, rfl⟩ | ⟨d, r, jb, kb, a, j, L, Bd, Br, Bv, own, P, rfl, rfl⟩
    · have e2 : w1.cell? ⟨pb, 2, none⟩ = some (.pointer none) := by rw [cell_blk P.bl]; rfl
      exact ⟨_, e2, Sif_false (hself w1 (Ch.refl _ _))⟩
    · have e2 : w1.cell? ⟨pb, 2, none⟩ = some (.pointer (some ⟨jb, 0, none⟩)) := by rw [cell_blk P.bl]; rfl
      refine ⟨_, e2, Sif_true ⟨_, _, _, by rw [cell_blk b1]; rfl, ?_⟩⟩
      exact padd_ok P hk24 (ho.l.ch C1 fun _ _ => id) ho.ls hw.1 fun w' F' V' hp c' n' m' => ⟨_, rfl, hk1 w' F' V' hp c' n' m'⟩
  · -- Shorten
    rcases h1 with ⟨d, r, a, Bd, Br, P, rfl, rfl⟩ | ⟨d, r, jb, kb, a, j, L, Bd, Br, Bv, own, P, rfl, rfl⟩
    · have e2 : w1.cell? ⟨pb, 2, none⟩ = some (.pointer none) := by rw [cell_blk P.bl]; rfl
      exact ⟨_, e2, Sif_false (hself w1 (Ch.refl _ _))⟩
    · have e2 : w1.cell? ⟨pb, 2, none⟩ = some (.pointer (some ⟨jb, 0, none⟩)) := by rw [cell_blk P.bl]; rfl
      refine ⟨_, e2, Sif_true ⟨_, _, _, by rw [cell_blk b1]; rfl, ?_⟩⟩
      exact pshorten_ok (x := o.m) P hk24 (ho.m.rd.ch C1 fun _ _ => id) ho.m.n ho.m.small hw.2 fun w' F' V' hp c' n' m' => ⟨_, rfl, hk1 w' F' V' hp c' n' m'⟩
  · -- Size
    have h1d := h1.ch (Ch.drew (S := fun _ => False) w1) fun _ _ => id
    rcases h1d with ⟨d, r, a, Bd, Br, P, rfl, rfl⟩ | ⟨d, r, jb, kb, a, j, L, Bd, Br, Bv, own, P, rfl, rfl⟩
    · have e2 : w1.drew.cell? ⟨pb, 2, none⟩ = some (.pointer none) := by rw [cell_blk P.bl]; rfl
      exact ⟨_, e2, Sif_false (hself _ (Ch.drew w1))⟩
    · have e2 : w1.drew.cell? ⟨pb, 2, none⟩ = some (.pointer (some ⟨jb, 0, none⟩)) := by rw [cell_blk P.bl]; rfl
      have e3 : w1.drew.cell? ⟨pb, 3, none⟩ = some (.pointer (some ⟨kb, 0, none⟩)) := by rw [cell_blk P.bl]; rfl
      refine ⟨_, e2, Sif_true ⟨_, e2, _, e3, ?_⟩⟩
      refine size_ok P.J ⟨_, rfl, ⟨_, e3, rfl⟩, ?_⟩
      refine ksize_ok P.K ⟨_, rfl, ?_⟩
      rw [show ((j.size : Int) == (j.size : Int)) = true by simp]
      exact hself _ (Ch.drew w1)
  · -- Open
    exact popen_ok (hE1 w1 (Ch.refl _ _)) hF h1 hz hk24 hE1 fun w' F' V' hp c' n' m' => ⟨_, rfl, hk1 w' F' V' hp c' n' m'⟩
  · -- Arm
    have h1d := h1.ch (Ch.drew (S := fun _ => False) w1) fun _ _ => id
    have hk1d : PPost W w1.drew pb F V (k + 3) (K (.bool true)) := fun w' F' V' hp c' n' m' => hk1 w' F' V' hp ((Ch.drew w1).trans' c') n' m'
    obtain ⟨d, r, a, Bd, Br, oo, bl, D, R, ra, hBd, hBr, hdis, hFpb, hpd, hpr, hend⟩ := h1d.gen hk1d
    have hrlt := R.lt
    have hdlt := D.lt
    have b1d : blk w1.drew w.heap.size = some [.int .i64 o.k, .int .i64 o.A, .int .i64 o.B, .slice o.l.p o.l.n o.l.c, .slice o.m.p o.m.n o.m.c] := by rw [(Ch.drew (S := fun _ => False) w1).blk (blk_lt b1) id]; exact b1
    have hnF : ¬ F w.heap.size := fun e => by have := hFl _ (.inl e); omega
    refine ⟨_, by rw [cell_blk bl]; rfl, _, by rw [cell_blk b1d]; rfl, _, by rw [cell_blk b1d]; rfl, ?_⟩
    refine arm_ok D ho.a fun w2 Bd2 D2 c2 n2 => ⟨rfl, ?_⟩
    have c2d : Ch Bd w1.drew w2.drew := c2.trans' (Ch.drew w2)
    have bl2 : blk w2.drew pb = some (pcells d r oo) := by rw [c2d.blk (blk_lt bl) hpd]; exact bl
    have b12 : blk w2.drew w.heap.size = some [.int .i64 o.k, .int .i64 o.A, .int .i64 o.B, .slice o.l.p o.l.n o.l.c, .slice o.m.p o.m.n o.m.c] := by rw [c2d.blk (blk_lt b1d) fun e => hnF (hBd _ e)]; exact b1d
    have R2 := R.ch c2d fun b h h2 => hdis b h2 h
    have hz2 := c2.size
    refine ⟨_, by rw [cell_blk bl2]; rfl, _, by rw [cell_blk b12]; rfl, _, by rw [cell_blk b12]; rfl, ?_⟩
    refine rarm_ok R2 fun w3 Br3 R3 c3 n3 => ⟨rfl, ?_⟩
    have hd2 := D2.lt
    have hra := ra.arm ho.a ho.b0
    have D2d : DK w2.drew d (a.arm o.A o.B) Bd2 := D2.ch (S := fun _ => False) (Ch.drew w2) fun _ _ => id
    have hz3 := c3.size
    have hz2d : w2.drew.heap.size = w2.heap.size := rfl
    refine hend w3 (a.arm o.A o.B).sorted Bd2 Br3 (fun j L hi => hi.files (by rw [file_sorted hra.nd, arm_file])) (hra.sort.more (by omega)) (D2d.sort.ch c3 fun b h h2 => ?_) R3 ((c2d.mono fun _ _ h => .inl h).trans c3 fun _ _ h => .inr h) n2 (fun b h => (n3 b h).imp id fun h => by omega) (fun b h h2 => ?_) fun b h => ?_
    · rcases n2 b h with h | h
      · exact hdis b h h2
      · have := hrlt b h2; omega
    · have := hd2 b h
      rcases n3 b h2 with h2 | h2
      · rcases n2 b h with h | h
        · exact hdis b h h2
        · have := hrlt b h2; omega
      · omega
    · rcases h with h | h
      · have := hd2 b h; omega
      · exact R3.lt b h
  · -- Crash
    have h1d := h1.ch (Ch.drew (S := fun _ => False) w1) fun _ _ => id
    have hk1d : PPost W w1.drew pb F V (k + 3) (K (.bool true)) := fun w' F' V' hp c' n' m' => hk1 w' F' V' hp ((Ch.drew w1).trans' c') n' m'
    obtain ⟨d, r, a, Bd, Br, oo, bl, D, R, ra, hBd, hBr, hdis, hFpb, hpd, hpr, hend⟩ := h1d.gen hk1d
    have hrlt := R.lt
    have hdlt := D.lt
    have b1d : blk w1.drew w.heap.size = some [.int .i64 o.k, .int .i64 o.A, .int .i64 o.B, .slice o.l.p o.l.n o.l.c, .slice o.m.p o.m.n o.m.c] := by rw [(Ch.drew (S := fun _ => False) w1).blk (blk_lt b1) id]; exact b1
    have hnF : ¬ F w.heap.size := fun e => by have := hFl _ (.inl e); omega
    refine ⟨_, by rw [cell_blk bl]; rfl, _, by rw [cell_blk b1d]; rfl, ?_⟩
    refine crash_ok D fun w2 Bd2 D2 c2 n2 => ⟨rfl, ?_⟩
    have c2d : Ch Bd w1.drew w2.drew := c2.trans' (Ch.drew w2)
    have bl2 : blk w2.drew pb = some (pcells d r oo) := by rw [c2d.blk (blk_lt bl) hpd]; exact bl
    have b12 : blk w2.drew w.heap.size = some [.int .i64 o.k, .int .i64 o.A, .int .i64 o.B, .slice o.l.p o.l.n o.l.c, .slice o.m.p o.m.n o.m.c] := by rw [c2d.blk (blk_lt b1d) fun e => hnF (hBd _ e)]; exact b1d
    have R2 := R.ch c2d fun b h h2 => hdis b h2 h
    have hz2 := c2.size
    refine ⟨_, by rw [cell_blk bl2]; rfl, _, by rw [cell_blk b12]; rfl, ?_⟩
    refine rcrash_ok R2 ra.wf (by have := ra.cnt; omega) ho.a0 fun w3 Br3 R3 c3 n3 => ⟨rfl, ?_⟩
    have hd2 := D2.lt
    have hra := ra.crash o.A
    have D2d : DK w2.drew d (a.crash o.A) Bd2 := D2.ch (S := fun _ => False) (Ch.drew w2) fun _ _ => id
    have hz3 := c3.size
    have hz2d : w2.drew.heap.size = w2.heap.size := rfl
    refine hend w3 (a.crash o.A).sorted Bd2 Br3 (fun j L hi => ?_) (hra.sort.more (by omega)) (D2d.sort.ch c3 fun b h h2 => ?_) R3 ((c2d.mono fun _ _ h => .inl h).trans c3 fun _ _ h => .inr h) n2 (fun b h => (n3 b h).imp id fun h => by omega) (fun b h h2 => ?_) fun b h => ?_
    · cases hd : a.down with
      | true =>
        have e : a.crash o.A = a := by unfold AD.crash; rw [hd]; rfl
        rw [e]
        exact hi.files (file_sorted ra.nd _)
      | false =>
        have e : a.crash o.A = a.fall o.A := by unfold AD.crash; rw [hd]; rfl
        refine hi.fall (k := o.A) ?_
        rw [file_sorted hra.nd, e, file_fall]
    · rcases n2 b h with h | h
      · exact hdis b h h2
      · have := hrlt b h2; omega
    · have := hd2 b h
      rcases n3 b h2 with h2 | h2
      · rcases n2 b h with h | h
        · exact hdis b h h2
        · have := hrlt b h2; omega
      · omega
    · rcases h with h | h
      · have := hd2 b h; omega
      · exact R3.lt b h
  · -- Start
    obtain ⟨d, r, a, Bd, Br, oo, bl, D, R, ra, hBd, hBr, hdis, hFpb, hpd, hpr, hend⟩ := h1.gen hk1
    have hrlt := R.lt
    have hdlt := D.lt
    refine ⟨_, by rw [cell_blk bl]; rfl, ?_⟩
    refine start_ok D fun w2 Bd2 D2 c2 n2 => ⟨rfl, ?_⟩
    have bl2 : blk w2 pb = some (pcells d r oo) := by rw [c2.blk (blk_lt bl) hpd]; exact bl
    have R2 := R.ch c2 fun b h h2 => hdis b h2 h
    have hz2 := c2.size
    refine ⟨_, by rw [cell_blk bl2]; rfl, ?_⟩
    refine rstart_ok R2 fun w3 Br3 R3 c3 n3 => ⟨rfl, ?_⟩
    have hd2 := D2.lt
    have hra := ra.start
    have hz3 := c3.size
    refine hend w3 ({ a with down := false } : AD).sorted Bd2 Br3 (fun j L hi => hi.files (by rw [file_sorted hra.nd]; rfl)) (hra.sort.more (by omega)) (D2.sort.ch c3 fun b h h2 => ?_) R3 ((c2.mono fun _ _ h => .inl h).trans c3 fun _ _ h => .inr h) n2 (fun b h => (n3 b h).imp id fun h => by omega) (fun b h h2 => ?_) fun b h => ?_
    · rcases n2 b h with h | h
      · exact hdis b h h2
      · have := hrlt b h2; omega
    · have := hd2 b h
      rcases n3 b h2 with h2 | h2
      · rcases n2 b h with h | h
        · exact hdis b h h2
        · have := hrlt b h2; omega
      · omega
    · rcases h with h | h
      · have := hd2 b h; omega
      · exact R3.lt b h
  · -- Files
    exact pfiles_ok h1 hk24 fun w' F' V' hp c' n' m' => ⟨_, rfl, hk1 w' F' V' (hp.more (by omega)) c' n' m'⟩
end Go.Proofs.YtipololccbdojaaGreatDoor
namespace Go.Proofs.YtipololccbdojaaGreatDoor
open Go Go.Sv
set_option linter.unusedVariables false
set_option maxRecDepth 4000

def Two (W w : World) (pb qb k : Nat) : Prop := ∃ Fp Vp Fq Vq : Nat → Prop, Ch (fun _ => False) W w ∧ Pr W w pb Fp Vp k ∧ Pr W w qb Fq Vq k ∧ (∀ b, Fp b → W.heap.size ≤ b ∧ ¬ (Fq b ∨ Vq b)) ∧ (∀ b, Fq b → W.heap.size ≤ b ∧ ¬ (Fp b ∨ Vp b))
theorem Two.swap {W w : World} {pb qb k : Nat} (h : Two W w pb qb k) : Two W w qb pb k := by
  obtain ⟨Fp, Vp, Fq, Vq, c, h1, h2, h3, h4⟩ := h
  exact ⟨Fq, Vq, Fp, Vp, c, h2, h1, h4, h3⟩
theorem Two.did {W w w' : World} {pb qb k k' : Nat} {Fp Vp Fq Vq F' V' : Nat → Prop} (c : Ch (fun _ => False) W w) (h1 : Pr W w pb Fp Vp k) (h2 : Pr W w qb Fq Vq k) (h3 : ∀ b, Fp b → W.heap.size ≤ b ∧ ¬ (Fq b ∨ Vq b)) (h4 : ∀ b, Fq b → W.heap.size ≤ b ∧ ¬ (Fp b ∨ Vp b)) (hk : k ≤ k')
    (hp : Pr W w' pb F' V' k') (c' : Ch Fp w w') (n' : ∀ b, F' b → Fp b ∨ w.heap.size ≤ b) (m' : ∀ b, V' b → Vp b ∨ w.heap.size ≤ b) : Two W w' pb qb k' := by
  have hz := c.size
  have hl := h2.lt
  refine ⟨F', V', Fq, Vq, c.trans c' fun x hx h => by have := (h3 x h).1; omega, hp, (h2.ch c' fun b hb h => (h3 b h).2 hb).more hk, fun b hb => ?_, fun b hb => ⟨(h4 b hb).1, fun h => ?_⟩⟩
  · rcases n' b hb with hb | hb
    · exact h3 b hb
    · exact ⟨by omega, fun h => by have := hl b h; omega⟩
  · have hbl := hl b (.inl hb)
    rcases h with h | h
    · rcases n' b h with h | h
      · exact (h4 b hb).2 (.inl h)
      · omega
    · rcases m' b h with h | h
      · exact (h4 b hb).2 (.inr h)
      · omega
section
variable {W w : World} {pb qb k : Nat} {aB aS : Addr} {K : Value → World → Prop}
theorem two_open (E : ErrsA W aB aS) (T : Two W w pb qb k) (hk24 : k ≤ 2 ^ 24) (hk : ∀ w', Two W w' pb qb (k + 3) → K (.bool true) w') : callP Tryz.prog 34 [.pointer (some ⟨pb, 0, none⟩)] w K := by
  obtain ⟨Fp, Vp, Fq, Vq, c, h1, h2, h3, h4⟩ := T
  have hE : ∀ w', Ch Fp w w' → ErrsA w' aB aS := fun w' c' => E.ch (c.trans c' fun x hx h => by have := (h3 x h).1; omega)
  exact popen_ok (hE w (Ch.refl _ _)) (fun b h => (h3 b h).1) h1 c.size hk24 hE fun w' F' V' hp c' n' m' => hk w' (Two.did c h1 h2 h3 h4 (by omega) hp c' n' m')
theorem two_step {o : OV} (E : ErrsA W aB aS) (T : Two W w pb qb k) (hk24 : k ≤ 2 ^ 24) (ho : o.ok W) (hw : (wtR o.l.says : Int) ≤ most ∧ (wtL (saysL o.m.Y) : Int) ≤ most) (hk : ∀ w', Two W w' pb qb (k + 3) → K (.bool true) w') :
    callP Tryz.prog 35 [.pointer (some ⟨pb, 0, none⟩), .agg #[.int .i64 o.k, .int .i64 o.A, .int .i64 o.B, .slice o.l.p o.l.n o.l.c, .slice o.m.p o.m.n o.m.c]] w K := by
  obtain ⟨Fp, Vp, Fq, Vq, c, h1, h2, h3, h4⟩ := T
  exact pstep_ok E c (fun b h => (h3 b h).1) h1 hk24 ho hw fun w' F' V' hp c' n' m' => hk w' (Two.did c h1 h2 h3 h4 (by omega) hp c' n' m')
theorem two_files (T : Two W w pb qb k) (hk24 : k ≤ 2 ^ 24) (hk : ∀ w', Two W w' pb qb k → K (.bool true) w') : callP Tryz.prog 36 [.pointer (some ⟨pb, 0, none⟩)] w K := by
  obtain ⟨Fp, Vp, Fq, Vq, c, h1, h2, h3, h4⟩ := T
  exact pfiles_ok h1 hk24 fun w' F' V' hp c' n' m' => hk w' (Two.did c h1 h2 h3 h4 (Nat.le_refl _) hp c' n' m')
end
theorem Two.ch {W w : World} {pb qb k : Nat} (T : Two W w pb qb k) : Ch (fun _ => False) W w := by
  obtain ⟨_, _, _, _, c, _⟩ := T
  exact c
/-- two loads, and what stands over them -/
theorem pn_of {W w w' : World} {pb d r k : Nat} {a : AD} {Bd Br : Nat → Prop} (D : DK w d a Bd) (R : RK w r a.sorted Br) (hk : a.keep = 0) (hc : a.fs.length ≤ k) (hd : ∀ b, Bd b → ¬ Br b) (hW : ∀ b, Bd b ∨ Br b → W.heap.size ≤ b) (hz : W.heap.size ≤ w.heap.size)
    (hpb : w.heap.size ≤ pb) (c : Ch (fun _ => False) w w') (b : blk w' pb = some (pcells d r none)) : PN W w' pb d r a.sorted Bd Br k := by
  have hdl := D.lt
  have hrl := R.lt
  have hzw := c.size
  have hbl := blk_lt b
  have hw : RA a k := ⟨D.wf, D.names, by rw [hk]; decide, hc⟩
  refine ⟨b, D.sort.ch c fun _ _ => id, R.ch c fun _ _ => id, hw.sort, ⟨hd, fun h => by have := hdl _ h; omega, fun h => by have := hrl _ h; omega, fun b hv h => ?_, fun b hv h => ?_, fun h => ?_, fun b h => ?_⟩⟩
  · have hv : b < W.heap.size := hv
    have := hW b (.inl h); omega
  · have hv : b < W.heap.size := hv
    have := hW b (.inr h); omega
  · have h : pb < W.heap.size := h
    omega
  · rcases h with h | h | h | h
    · have := hdl b h; omega
    · have := hrl b h; omega
    · omega
    · have h : b < W.heap.size := h
      omega
theorem jloadS_len {room : Int} {L : List FV} {a : AD} (h : loadS room L = (0, some a)) : a.fs.length = L.length ∧ a.down = false ∧ a.keep = 0 := by
  have key : ∀ (L : List FV) (fs F : List File), addAll fs L = some F → F.length = fs.length + L.length := by
    intro L
    induction L with
    | nil => intro fs F h; simp only [addAll, Option.some.injEq] at h; subst h; simp
    | cons x L ih =>
      intro fs F h
      unfold addAll at h
      split at h
      · cases h
      · have := ih _ _ h
        simp at this ⊢
        omega
  unfold loadS at h
  split at h
  · cases h
  · split at h
    · cases h
    · rename_i F hF
      split at h
      · cases h
      · have h : ({ newA room with fs := F } : AD) = a := by simpa using h
        subst h
        have := key L [] F hF
        exact ⟨by simpa using this, rfl, rfl⟩
set_option maxHeartbeats 2000000 in
theorem plays_walk {w : World} {fp : Option Addr} {fL : List FV} {fc : Nat} {room : Int} {p : Option Addr} {n c : Nat} {X : List OV} {aB aS : Addr} {K : Value → World → Prop} (E : ErrsA w aB aS) (hf : FVIn w fp fL) (hfl : fL.length ≤ 2 ^ 20) (hx : ScV w p n X)
    (hk : ∀ w', Ch (fun _ => False) w w' → K (.bool true) w') : callP Tryz.prog 8 [.slice fp fL.length fc, .int .i64 room, .slice p n c] w K := by
  have hl := hx.len
  have hn := hx.n
  refine ok_longshorelaw20_JournalPlays ?_
  unfold wp_longshorelaw20_JournalPlays
  refine beyond_ok hx fun b hb => ⟨_, rfl, Sif_cases (fun _ => hk w (Ch.refl _ _)) fun hbf => ?_⟩
  have hall := hb (by simpa using hbf)
  refine live_ok E fun w2 c2 => ⟨_, rfl, ?_⟩
  have f2 := hf.ch0 c2
  refine load_ok f2 (fun e w3 he c3 => ⟨_, _, rfl, ?_⟩) fun a d w3 B3 he D3 c3 n3 => ⟨_, _, rfl, ?_⟩
  · -- no such disk
    have f3 := f2.ch0 c3
    refine rload_ok f3 (fun e2 w4 he2 c4 => ⟨_, _, rfl, ?_⟩) fun a r w4 B4 he2 _ _ _ => by rw [he] at he2; cases he2
    rw [he] at he2
    cases he2
    have f4 := f3.ch0 c4
    refine ⟨fun w5 => w5 = w4, ?_, Sif_true ?_⟩
    rotate_left
    · rw [show (!e != e) = true by simp]
      exact Sif_true (Sif_false rfl)
    rintro w5 rfl
    refine jopen_nil ⟨_, _, _, _, _, rfl, ?_⟩
    refine load_ok f4 (fun e3 w7 he3 c7 => ⟨_, _, rfl, ?_⟩) fun a d w7 B7 he3 _ _ _ => by rw [he] at he3; cases he3
    refine rload_ok (f4.ch0 c7) (fun e4 w8 he4 c8 => ⟨_, _, rfl, ?_⟩) fun a r w8 B8 he4 _ _ _ => by rw [he] at he4; cases he4
    refine ⟨fun _ => False, fun _ h => h.elim, Sif_false (Sif_true ?_)⟩
    exact hk w8 ((((c2.trans' c3).trans' c4).trans' c7).trans' c8)
  have f3 := f2.ch0 c3
  refine rload_ok f3 (fun e2 w4 he2 _ => by rw [he] at he2; cases he2) fun a' r w4 B4 he2 R4 c4 n4 => ⟨_, _, rfl, ?_⟩
  rw [he] at he2
  obtain rfl : a = a' := by simpa using he2
  have f4 := f3.ch0 c4
  obtain ⟨hlen, hup, hkeep⟩ := jloadS_len he
  refine ⟨fun w5 => w5 = w4, ?_, Sif_true ?_⟩
  rotate_left
  · rw [show (!(0 : Int) != 0) = true by simp]
    exact Sif_true (Sif_false rfl)
  rintro w5 rfl
  refine jopen_nil ⟨_, _, _, _, _, rfl, ?_⟩
  refine load_ok f4 (fun e3 w7 he3 _ => by rw [he] at he3; cases he3) fun a7 d2 w7 B7 he3 D7 c7 n7 => ⟨_, _, rfl, ?_⟩
  rw [he] at he3
  obtain rfl : a = a7 := by simpa using he3
  refine rload_ok (f4.ch0 c7) (fun e4 w8 he4 _ => by rw [he] at he4; cases he4) fun a8 r2 w8 B8 he4 R8 c8 n8 => ⟨_, _, rfl, ?_⟩
  rw [he] at he4
  obtain rfl : a = a8 := by simpa using he4
  refine ⟨fun w9 => w9 = w8, ?_, Sif_true (Sif_true (Sif_true (Sif_false rfl)))⟩
  rintro w9 rfl
  refine newB_blk fun w10 b10 c10 z10 => newB_blk fun w11 b11 c11 z11 => ?_
  have hz2 := c2.size
  have hz3 := c3.size
  have hz4 := c4.size
  have hz7 := c7.size
  have hz8 := c8.size
  have C48 : Ch (fun _ => False) w5 w9 := c7.trans' c8
  have C8 : Ch (fun _ => False) w w9 := ((((c2.trans' c3).trans' c4).trans' c7).trans' c8)
  have hB3 := D3.lt
  have hB4 := R4.lt
  have hB7 := D7.lt
  have hB8 := R8.lt
  have D8 : DK w9 d a B3 := ((D3.ch c4 fun _ _ => id).ch c7 fun _ _ => id).ch c8 fun _ _ => id
  have R8' : RK w9 r a.sorted B4 := (R4.ch c7 fun _ _ => id).ch c8 fun _ _ => id
  have D8' : DK w9 d2 a B7 := D7.ch c8 fun _ _ => id
  have b10' : blk w11 w9.heap.size = some (pcells d r none) := by rw [c11.blk (blk_lt b10) id]; exact b10
  have T11 : Two w w11 w9.heap.size w10.heap.size (2 ^ 20) := by
    refine ⟨_, _, _, _, (C8.trans' c10).trans' c11, .inl ⟨d, r, a.sorted, B3, B4, pn_of D8 R8' hkeep (by omega) (fun b h h2 => ?_) (fun b h => ?_) C8.size (Nat.le_refl _) (c10.trans' c11) b10', rfl, rfl⟩, .inl ⟨d2, r2, a.sorted, B7, B8, pn_of D8' R8 hkeep (by omega) (fun b h h2 => ?_) (fun b h => ?_) C8.size (by omega) (c10.trans' c11) b11, rfl, rfl⟩, fun b h => ?_, fun b h => ?_⟩
    · have := hB3 b h; have := n4 b h2; omega
    · rcases h with h | h
      · have := n3 b h; omega
      · have := n4 b h; omega
    · have := hB7 b h; have := n8 b h2; omega
    · rcases h with h | h
      · have := n7 b h; omega
      · have := n8 b h; omega
    · have hr : w2.heap.size ≤ b ∧ (b < w5.heap.size ∨ b = w9.heap.size) := by
        rcases h with h | h | h
        · have := n3 b h; have := hB3 b h; omega
        · have := n4 b h; have := hB4 b h; omega
        · omega
      refine ⟨by omega, fun h2 => ?_⟩
      rcases h2 with (h2 | h2 | h2) | h2
      · have := n7 b h2; have := hB7 b h2; omega
      · have := n8 b h2; have := hB8 b h2; omega
      · omega
      · have h2 : b < w.heap.size := h2
        omega
    · have hr : (w5.heap.size ≤ b ∧ b < w9.heap.size) ∨ b = w10.heap.size := by
        rcases h with h | h | h
        · have := n7 b h; have := hB7 b h; omega
        · have := n8 b h; have := hB8 b h; omega
        · omega
      refine ⟨by omega, fun h2 => ?_⟩
      rcases h2 with (h2 | h2 | h2) | h2
      · have := hB3 b h2; omega
      · have := hB4 b h2; omega
      · omega
      · have h2 : b < w.heap.size := h2
        omega
  generalize w9.heap.size = pb at *
  generalize w10.heap.size = qb at *
  refine two_open E T11 (by decide) fun w12 T12 => ⟨_, rfl, ?_⟩
  refine two_open E T12.swap (by decide) fun w13 T13 => ⟨_, rfl, ?_⟩
  refine ⟨fun b w14 => b = true ∧ Two w w14 pb qb (2 ^ 20 + 6), ?_, Sif_true ⟨rfl, T13.swap⟩⟩
  rintro b w14 ⟨rfl, T14⟩
  refine ⟨fun m b i w' => ∃ t : Nat, b = true ∧ i = (t : Int) ∧ t ≤ n ∧ m = n - t ∧ Two w w' pb qb (2 ^ 20 + 6 + 3 * t), ⟨n, 0, rfl, rfl, by omega, rfl, T14⟩, ?_⟩
  rintro m b i w15 ⟨t, rfl, rfl, ht, rfl, T15⟩
  have ht20 : t ≤ 2 ^ 20 := by omega
  refine ⟨fun w16 => w16 = w15 ∧ t < n, ?_, Sif_true (Sif_cases (fun hlt => ⟨rfl, (by have h : (t : Int) < n := (by simpa using hlt); omega)⟩) fun hge => ?_)⟩
  · rintro w16 ⟨rfl, htn⟩
    have htl : t < X.length := by omega
    have hi := List.getElem?_eq_getElem htl
    have ho := hx.ok _ (List.getElem_mem htl)
    have hw := hall _ (List.getElem_mem htl)
    obtain ⟨kb, ob, rfl, hcell⟩ := hx.at T15.ch hi
    generalize X[t] = o at ho hw hcell
    refine ⟨fun b w17 => b = true ∧ Two w w17 pb qb (2 ^ 20 + 6 + 3 * (t + 1)), ?_, by decide, ?_⟩
    · rintro b w17 ⟨rfl, T17⟩
      rw [wrap_id (by omega) (by omega), nameI_iff]
      exact ⟨n - (t + 1), by omega, t + 1, rfl, by omega, by omega, rfl, T17⟩
    · simp only [nn_some, add_at, Int.toNat_natCast]
      refine Sif_cases (fun _ => ?_) fun _ => ?_
      · refine ⟨by omega, by omega, _, hcell 0 _ rfl, _, hcell 1 _ rfl, _, hcell 2 _ rfl, _, _, _, hcell 3 _ rfl, _, _, _, hcell 4 _ rfl, ?_⟩
        exact two_step E T15.swap (by omega) ho hw fun w' T' => ⟨_, rfl, rfl, T'.swap⟩
      · refine ⟨by omega, by omega, _, hcell 0 _ rfl, _, hcell 1 _ rfl, _, hcell 2 _ rfl, _, _, _, hcell 3 _ rfl, _, _, _, hcell 4 _ rfl, ?_⟩
        exact two_step E T15 (by omega) ho hw fun w' T' => ⟨_, rfl, rfl, T'⟩
  · refine two_files T15 (by omega) fun w16 T16 => ⟨_, rfl, ?_⟩
    refine two_files T16.swap (by omega) fun w17 T17 => ⟨_, rfl, ?_⟩
    exact Sif_true (Sif_true (Sif_true (hk w17 T17.ch)))
end Go.Proofs.YtipololccbdojaaGreatDoor
