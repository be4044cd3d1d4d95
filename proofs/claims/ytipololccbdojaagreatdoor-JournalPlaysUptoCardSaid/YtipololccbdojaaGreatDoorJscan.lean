/-
  journal.Scan: the batches of a log's bytes.
-/
import Derived.Test.YtipololccbdojaaGreatDoorJis
import Derived.Test.YtipololccbdojaaGreatDoorJbatch
import Derived.Test.YtipololccbdojaaGreatDoorJrscan
import Derived.Test.YtipololccbdojaaGreatDoorSvOver
namespace Go.Proofs.YtipololccbdojaaGreatDoor
open Go Go.Sv
set_option linter.unusedVariables false
set_option maxRecDepth 4000

structure SI (w w1 : World) (p : Option Addr) (n c : Nat) (safe : Int) (at_ : Nat) (q : Option Addr) (m cq : Nat) (own : Option Nat) (L : List Bt) : Prop where
  hc : Ch (fun _ => False) w w1
  c0 : blk w1 w.heap.size = some [.int .i64 safe]
  c1 : blk w1 (w.heap.size + 1) = some [.slice none 0 0]
  c2 : blk w1 (w.heap.size + 2) = some [.int .i64 0]
  c3 : blk w1 (w.heap.size + 3) = some [.int .i64 0]
  c4 : blk w1 (w.heap.size + 4) = some [.slice q m cq]
  c5 : blk w1 (w.heap.size + 5) = some [.int .i64 (at_ : Int)]
  c6 : blk w1 (w.heap.size + 6) = some [.slice p n c]
  df : objAt w1 (w.heap.size + 7) = some (.deferred (some []))
  row : BtE.Row w1 q m cq own L
  fr : ∀ b ∈ BtE.rowB own L, w.heap.size + 9 ≤ b
theorem SI.ch {S : Nat → Prop} {w w1 w2 : World} {p : Option Addr} {n c : Nat} {safe : Int} {at_ : Nat} {q : Option Addr} {m cq : Nat} {own : Option Nat} {L : List Bt} (h : SI w w1 p n c safe at_ q m cq own L) (k : Ch S w1 w2)
    (hS : ∀ b, S b → b = w.heap.size + 8 ∨ (w.heap.size + 9 ≤ b ∧ b ∉ BtE.rowB own L)) : SI w w2 p n c safe at_ q m cq own L := by
  have no : ∀ b, b < w.heap.size + 8 → ¬ S b := fun b hb hs => by rcases hS b hs with h | h <;> omega
  have K : ∀ b v, b < w.heap.size + 8 → blk w1 b = some v → blk w2 b = some v := fun b v hb hv => by rw [k.blk (blk_lt hv) (no b hb)]; exact hv
  exact ⟨h.hc.trans k fun x hx hs => no x (by omega) hs, K _ _ (by omega) h.c0, K _ _ (by omega) h.c1, K _ _ (by omega) h.c2, K _ _ (by omega) h.c3, K _ _ (by omega) h.c4, K _ _ (by omega) h.c5, K _ _ (by omega) h.c6,
    objAt_ch h.df k (no _ (by omega)), h.row.ch k fun b hb hs => by
      rcases hS b hs with e | ⟨_, e⟩
      · have := h.fr b hb; omega
      · exact e hb, h.fr⟩
set_option maxHeartbeats 1000000 in
theorem scan_ok {p : Option Addr} {n c : Nat} {d : List UInt8} {safe : Int} {w : World} {aB aS : Addr} {K : Value → World → Prop} (hp : Rd w p n 1 (bytesV d)) (hn : n ≤ c) (hc : n ≤ 2 ^ 40) (E : ErrsA w aB aS)
    (hk : ∀ w' q m cq own L, Ch (fun _ => False) w w' → L.map Bt.says = (scanA d safe).1 → BtE.Row w' q m cq own L → (∀ b ∈ BtE.rowB own L, w.heap.size ≤ b) →
      K (.tuple #[.slice q m cq, .int .i64 ((scanA d safe).2.1 : Int), .int .i64 (scanA d safe).2.2]) w') :
    callP Tryz.prog 10 [.slice p n c, .int .i64 safe] w K := by
  have hl : d.length = n := by have := hp.1; simpa using this
  refine ok_journal_Scan ?_
  unfold wp_journal_Scan
  refine newB_blk fun w1 b1 k1 z1 => newB_blk fun w2 b2 k2 z2 => newB_blk fun w3 b3 k3 z3 => newB_blk fun w4 b4 k4 z4 => ?_
  have C4 : Ch (fun _ => False) w w4 := ((k1.new k2).new k3).new k4
  have g1 : blk w4 w.heap.size = some [.int .i64 safe] := by rw [((k2.new k3).new k4).blk (by omega) id]; exact b1
  have g2 : blk w4 w1.heap.size = some [.slice none 0 0] := by rw [(k3.new k4).blk (by omega) id]; exact b2
  have g3 : blk w4 w2.heap.size = some [.int .i64 0] := by rw [k4.blk (by omega) id]; exact b3
  have arg : (safe < 0 ∨ safe > d.length) → st w4 (Addr.add ⟨w1.heap.size, 0, none⟩ 0) (.slice none 0 0) fun w5 => st w5 (Addr.add ⟨w2.heap.size, 0, none⟩ 0) (.int .i64 0) fun w6 => st w6 (Addr.add ⟨w3.heap.size, 0, none⟩ 0) (.int .i64 1) fun w7 =>
      ∃ (q : Option Addr) (m cq : Nat), w7.cell? ⟨w1.heap.size, 0, none⟩ = some (.slice q m cq) ∧ ∃ n1 : Int, w7.cell? ⟨w2.heap.size, 0, none⟩ = some (.int .i64 n1) ∧ ∃ n2 : Int, w7.cell? ⟨w3.heap.size, 0, none⟩ = some (.int .i64 n2) ∧ K (.tuple #[.slice q m cq, .int .i64 n1, .int .i64 n2]) w7 := fun h => by
    have e : scanA d safe = ([], 0, 1) := if_pos h
    simp only [add_at]
    refine st_blk g2 (by simp) fun w5 q5 c5 y5 => ?_
    have g3' : blk w5 w2.heap.size = some [.int .i64 0] := by rw [c5.blk (blk_lt g3) (by omega)]; exact g3
    refine st_blk g3' (by simp) fun w6 q6 c6 y6 => ?_
    have g4' : blk w6 w3.heap.size = some [.int .i64 0] := by rw [c6.blk (by omega) (by omega), c5.blk (by omega) (by omega)]; exact b4
    refine st_blk g4' (by simp) fun w7 q7 c7 y7 => ?_
    have g2' : blk w7 w1.heap.size = some [.slice none 0 0] := by rw [c7.blk (by omega) (by omega), c6.blk (by omega) (by omega)]; exact q5
    have g3'' : blk w7 w2.heap.size = some [.int .i64 0] := by rw [c7.blk (by omega) (by omega)]; exact q6
    have := hk w7 none 0 0 none [] (((C4.trans c5 fun x hx e => by omega).trans c6 fun x hx e => by omega).trans c7 fun x hx e => by omega) (by rw [e]; rfl) El.Row.nil (by simp [El.rowB])
    rw [e] at this
    exact ⟨_, _, _, by rw [cell_blk g2']; rfl, _, by rw [cell_blk g3'']; rfl, _, by rw [cell_blk q7]; rfl, this⟩
  refine ⟨fun w5 => w5 = w4 ∧ 0 ≤ safe ∧ safe ≤ n, ?_, _, by rw [cell_blk g1]; rfl, Sif_cases (fun h0 => ⟨_, by rw [cell_blk g1]; rfl, Sif_cases (fun h1 => ?_) fun h1 => ?_⟩) fun h0 => ?_⟩
  rotate_left
  · have : safe > (n : Int) := by simpa using h1
    exact arg (.inr (by omega))
  · have h0' : ¬ safe < 0 := by simpa using h0
    have h1' : ¬ safe > (n : Int) := by simpa using h1
    exact ⟨rfl, by omega, by omega⟩
  · have h0' : safe < 0 := by simpa using h0
    exact arg (.inl h0')
  rintro w5 ⟨rfl, hs0, hs1⟩
  have hin : ¬ (safe < 0 ∨ safe > d.length) := by omega
  refine newB_blk fun w6 b6 k6 z6 => newB_blk fun w7 b7 k7 z7 => ?_
  simp only [add_at]
  refine st_blk b7 (by simp) fun w8 b8 k8 z8 => ?_
  refine ok_journal_batches ?_
  unfold wp_journal_batches
  refine newB_blk fun w9 b9 k9 z9 => ⟨_, rfl, ?_⟩
  rintro l hl0 rc hrc hyl
  have hsz : w9.heap.size = w.heap.size + 7 := by omega
  have el : l = w.heap.size + 8 := by rw [hl0]; simp [hsz]
  have kd := alloc_ch w9 (.deferred (some []))
  have od := alloc_obj w9 (.deferred (some []))
  have zd : (w9.alloc (.deferred (some []))).heap.size = w9.heap.size + 1 := by simp
  generalize w9.alloc (.deferred (some [])) = wd at kd od zd ⊢
  have kl := alloc_ch wd (rc .ready none)
  have ol := alloc_obj wd (rc .ready none)
  have zl : (wd.alloc (rc .ready none)).heap.size = wd.heap.size + 1 := by simp
  generalize wd.alloc (rc .ready none) = wl at kl ol zl ⊢
  have hwd : wd.heap.size = l := by omega
  rw [hwd] at ol
  have s1 : w1.heap.size = w.heap.size + 1 := z1
  have s2 : w2.heap.size = w.heap.size + 2 := by omega
  have s3 : w3.heap.size = w.heap.size + 3 := by omega
  have s5 : w5.heap.size = w.heap.size + 4 := by omega
  have s6 : w6.heap.size = w.heap.size + 5 := by omega
  have s8 : w8.heap.size = w.heap.size + 6 := by omega
  have kA : Ch (fun _ => False) w8 wl := (k9.new kd).new kl
  have k58 : Ch (fun _ => False) w5 w8 := (k6.new k7).trans k8 fun x hx e => by omega
  have k5l : Ch (fun _ => False) w5 wl := k58.new kA
  have I0 : SI w wl p n c safe 0 none 0 0 none [] := by
    refine ⟨C4.new k5l, ?_, ?_, ?_, ?_, ?_, ?_, ?_, ?_, El.Row.nil, by simp [El.rowB]⟩
    · rw [k5l.blk (by omega) id]; exact g1
    · rw [k5l.blk (by omega) id, ← s1]; exact g2
    · rw [k5l.blk (by omega) id, ← s2]; exact g3
    · rw [k5l.blk (by omega) id, ← s3]; exact b4
    · rw [kA.blk (by omega) id, k8.blk (by omega) (by omega), k7.blk (by omega) id, ← s5]; exact b6
    · rw [kA.blk (by omega) id, ← s6]; exact b8
    · rw [(kd.new kl).blk (by omega) id, ← s8]; exact b9
    · rw [← hsz]; exact objAt_ch od kl id
  have hpl : Rd wl p n 1 (bytesV d) := hp.ch I0.hc fun _ _ _ => id
  have Rd1 : ∀ w1, Ch (fun _ => False) w w1 → Rd w1 p n 1 (bytesV d) := fun w1 h => hp.ch h fun _ _ _ => id
  rw [s1, s2, s3]
  rw [s1, s2, s3] at hyl
  rw [s5, s6, s8, hsz]
  rw [s5, s6] at hyl
  have fin : ∀ W at_ q m cq own L, SI w W p n c safe at_ q m cq own L → scanA d safe = (L.map Bt.says, at_, 0) →
      ∃ (q : Option Addr) (m cq : Nat), W.cell? ⟨w.heap.size + 4, 0, none⟩ = some (.slice q m cq) ∧ ∃ n1 : Int, W.cell? ⟨w.heap.size + 5, 0, none⟩ = some (.int .i64 n1) ∧ st W ⟨w.heap.size + 1, 0 + 0, none⟩ (.slice q m cq) fun w11 =>
        (∃ n2 : Int, w11.cell? ⟨w.heap.size + 5, 0, none⟩ = some (.int .i64 n2) ∧ Value.int .i64 n2 = Value.int .i64 n1) ∧ st w11 ⟨w.heap.size + 2, 0 + 0, none⟩ (.int .i64 n1) fun w12 => st w12 ⟨w.heap.size + 3, 0 + 0, none⟩ (.int .i64 0) fun w13 => takeM w13 (w.heap.size + 7) fun w14 =>
          ∃ (p1 : Option Addr) (n2 c1 : Nat), w14.cell? ⟨w.heap.size + 1, 0, none⟩ = some (.slice p1 n2 c1) ∧ ∃ n3 : Int, w14.cell? ⟨w.heap.size + 2, 0, none⟩ = some (.int .i64 n3) ∧ ∃ n4 : Int, w14.cell? ⟨w.heap.size + 3, 0, none⟩ = some (.int .i64 n4) ∧ K (.tuple #[.slice p1 n2 c1, .int .i64 n3, .int .i64 n4]) w14 := by
    intro W at_ q m cq own L I hA
    refine ⟨q, m, cq, by rw [cell_blk I.c4]; rfl, _, by rw [cell_blk I.c5]; rfl, ?_⟩
    refine st_blk I.c1 (by simp) fun v1 q1 e1 y1 => ⟨⟨_, by rw [cell_blk (show blk v1 (w.heap.size + 5) = _ by rw [e1.blk (blk_lt I.c5) (by omega)]; exact I.c5)]; rfl, rfl⟩, ?_⟩
    refine st_blk (show blk v1 (w.heap.size + 2) = _ by rw [e1.blk (blk_lt I.c2) (by omega)]; exact I.c2) (by simp) fun v2 q2 e2 y2 => ?_
    refine st_blk (show blk v2 (w.heap.size + 3) = _ by rw [e2.blk (by have := blk_lt I.c3; omega) (by omega), e1.blk (blk_lt I.c3) (by omega)]; exact I.c3) (by simp) fun v3 q3 e3 y3 => ?_
    refine takeM_of (objAt_ch (objAt_ch (objAt_ch I.df e1 (by omega)) e2 (by omega)) e3 (by omega)) fun v4 e4 y4 => ?_
    have h1 : blk v4 (w.heap.size + 1) = some [.slice q m cq] := by rw [e4.blk (by have := blk_lt I.c1; omega) (by omega), e3.blk (by have := blk_lt I.c1; omega) (by omega), e2.blk (by have := blk_lt I.c1; omega) (by omega)]; exact q1
    have h2 : blk v4 (w.heap.size + 2) = some [.int .i64 (at_ : Int)] := by rw [e4.blk (by have := blk_lt I.c2; omega) (by omega), e3.blk (by have := blk_lt I.c2; omega) (by omega)]; exact q2
    have h3 : blk v4 (w.heap.size + 3) = some [.int .i64 0] := by rw [e4.blk (by have := blk_lt I.c3; omega) (by omega)]; exact q3
    refine ⟨_, _, _, by rw [cell_blk h1]; rfl, _, by rw [cell_blk h2]; rfl, _, by rw [cell_blk h3]; rfl, ?_⟩
    have := hk v4 q m cq own L ((((I.hc.trans e1 fun x hx e => by omega).trans e2 fun x hx e => by omega).trans e3 fun x hx e => by omega).trans e4 fun x hx e => by omega) (by rw [hA])
      ((((I.row.ch e1 fun b hb e => by have := I.fr b hb; omega).ch e2 fun b hb e => by have := I.fr b hb; omega).ch e3 fun b hb e => by have := I.fr b hb; omega).ch e4 fun b hb e => by have := I.fr b hb; omega) (fun b hb => by have := I.fr b hb; omega)
    rw [hA] at this
    exact this
  have SIput : ∀ W j at_ q m cq own L, SI w W p n c safe at_ q m cq own L → SI w (W.putObj l j).drew p n c safe at_ q m cq own L := fun W j at_ q m cq own L I => (I.ch (putObj_ch W l j) fun b e => .inl (by omega)).ch (Ch.drew (S := fun _ => False) _) fun b h => h.elim
  refine ⟨by kernel_rfl, batches1_ok (l := l) (ab := w.heap.size + 6) (p := p) (n := n) (c := c) (d := d) (eB := eV aB) (eS := eV aS) (fun at_ w1 => at_ ≤ n ∧ recAt w1 l rc .ready none ∧ ∃ q m cq own L, SI w w1 p n c safe at_ q m cq own L ∧ scanL d = (L.map Bt.says ++ (scanL (d.drop at_)).1, at_ + (scanL (d.drop at_)).2) ∧ m + (n - at_) ≤ 2 ^ 40)
    hn hc hl ⟨rfl, rfl, rfl⟩ ⟨rfl, rfl, rfl⟩ ?_ ⟨by omega, ol, _, _, _, _, _, I0, by simp, by omega⟩ ?_ ?_ ?_⟩
  · rintro at_ v1 ⟨_, _, q, m, cq, own, L, I, _⟩
    exact ⟨by rw [cell_blk I.c6]; rfl, Rd1 v1 I.hc, (E.ch I.hc).e⟩
  · rintro at_ v1 v2 q m cq own R ⟨hat, hrec, q0, m0, cq0, own0, L0, I, hsc, hsm⟩ hc2 hw hrow hfr
    have hll := objAt_lt hrec
    have I2 := I.ch hc2 fun b h => h.elim
    have r2 := hrec.ch hc2 id
    obtain ⟨hw1, hw2, _⟩ := whole_size hw
    have hdl : (d.drop at_).length = n - at_ := by simp; omega
    refine hyl _ _ _ _ _ v2 _ r2 ?_
    refine box2 fun v3 x3 e3 y3 => ⟨r2.ch e3 id, ?_⟩
    have r3 := r2.ch e3 id
    have e4 := putObj_ch v3 l (rc .busy none)
    have r4 := r3.put (s' := .busy) (j' := none)
    have y4 : (v3.putObj l (rc .busy none)).heap.size = v3.heap.size := by simp
    generalize v3.putObj l (rc .busy none) = v4 at e4 r4 y4 ⊢
    refine newB_blk fun v5 x5 e5 y5 => ?_
    refine as_nil ⟨_, rfl, Sif_false ?_⟩
    have I5 := ((I2.ch e3 fun b h => h.elim).ch e4 fun b e => .inl (by omega)).ch e5 fun b h => h.elim
    have e25 : Ch (· = l) v2 v5 := ((e3.mono fun _ _ h => h.elim).trans' e4).new e5
    have hrow5 := hrow.ch e25 fun b hb e => by have := hfr b hb; omega
    have hz12 := hc2.size
    have hz5 : v5.heap.size = v2.heap.size + 2 := by omega
    have x35 : blk v5 v2.heap.size = some [.slice q m cq, .int .i64 ((at_ + (headN (d.drop at_) + 12) : Nat) : Int)] := by rw [(e4.new e5).blk (by omega) (by omega)]; exact x3
    refine ⟨_, _, _, by rw [cell_blk I5.c4]; rfl, _, _, _, by rw [add_at, cell_blk x35]; rfl, ?_⟩
    have hl0 := I.row.lt
    refine El.Row.push (E := BtE) (bytes := 24) Tryz.underlying24 log_info rfl I5.row (x := ⟨⟨q, m, cq, own⟩, R⟩) hrow5 (fun b hb hm => ?_) (by omega) (by omega) fun q' cq' own' v8 r8 n8 c8 => ?_
    · have h1 := hfr b hb
      have h2 := hl0 b hm
      omega
    have fr0 : ∀ b, own0 = some b → w.heap.size + 9 ≤ b ∧ b < v1.heap.size := fun b hb => ⟨I.fr b (El.mem_rowB.2 (.inl hb)), hl0 b (El.mem_rowB.2 (.inl hb))⟩
    have K8 : ∀ b v, (b < w.heap.size + 9 ∨ v1.heap.size ≤ b) → blk v5 b = some v → blk v8 b = some v := fun b v hb hv => by
      rw [c8.blk (blk_lt hv) (fun e => by have := fr0 b e; omega)]; exact hv
    simp only [add_at]
    refine st_blk (K8 _ _ (.inl (by omega)) I5.c4) (by simp) fun v9 x9 e9 y9 => ?_
    refine ⟨_, by rw [cell_blk (show blk v9 v2.heap.size = _ by rw [e9.blk (by have := c8.size; omega) (by omega)]; exact K8 _ _ (.inr hz12) x35)]; rfl, ?_⟩
    refine st_blk (show blk v9 (w.heap.size + 5) = _ by rw [e9.blk (by have := blk_lt (K8 _ _ (.inl (by omega)) I5.c5); omega) (by omega)]; exact K8 _ _ (.inl (by omega)) I5.c5) (by simp) fun v10 x10 e10 y10 => ?_
    have r10 : recAt v10 l rc .busy none := (((r4.ch e5 id).ch c8 fun e => by have := fr0 l e; omega).ch e9 (by omega)).ch e10 (by omega)
    refine ⟨r10, .inl ⟨by trivial, by omega, r10.put, ?_⟩⟩
    have lt5 : ∀ b v, blk v5 b = some v → b < v8.heap.size := fun b v hv => by have := blk_lt hv; have := c8.size; omega
    have K10 : ∀ b v, b < w.heap.size + 9 → b ≠ w.heap.size + 4 → b ≠ w.heap.size + 5 → blk v5 b = some v → blk v10 b = some v := fun b v hb h4 h5 hv => by
      rw [e10.blk (by have := lt5 b v hv; omega) (fun e => h5 e), e9.blk (lt5 b v hv) (fun e => h4 e)]
      exact K8 b v (.inl hb) hv
    have fr' : ∀ b ∈ BtE.rowB own' (L0 ++ [⟨⟨q, m, cq, own⟩, R⟩]), w.heap.size + 9 ≤ b := fun b hb => by
      rcases n8 b hb with g | g | g
      · exact I.fr b g
      · have := hfr b g; omega
      · omega
    refine ⟨q', m0 + 1, cq', own', L0 ++ [⟨⟨q, m, cq, own⟩, R⟩], SI.ch (w1 := v10) ⟨?_, K10 _ _ (by omega) (by omega) (by omega) I5.c0, K10 _ _ (by omega) (by omega) (by omega) I5.c1, K10 _ _ (by omega) (by omega) (by omega) I5.c2, K10 _ _ (by omega) (by omega) (by omega) I5.c3, ?_, x10, K10 _ _ (by omega) (by omega) (by omega) I5.c6, ?_, ?_, fr'⟩ (putObj_ch v10 l _) (fun b e => .inl (by omega)), ?_, by omega⟩
    · exact ((I5.hc.trans c8 fun x hx e => by have := fr0 x e; omega).trans e9 fun x hx e => by omega).trans e10 fun x hx e => by omega
    · rw [e10.blk (by have := blk_lt x9; omega) (by omega)]; exact x9
    · exact objAt_ch (objAt_ch (objAt_ch I5.df c8 fun e => by have := fr0 _ e; omega) e9 (by omega)) e10 (by omega)
    · exact (r8.ch e9 fun b hb e => by have := fr' b hb; omega).ch e10 fun b hb e => by have := fr' b hb; omega
    · have ed : (d.drop at_).drop (headN (d.drop at_) + 12) = d.drop (at_ + (headN (d.drop at_) + 12)) := by rw [List.drop_drop]
      rw [hsc, scanL_some hw, ed]
      refine Prod.ext ?_ ?_
      · simp [Bt.says]
      · show at_ + (headN (d.drop at_) + 12 + _) = _
        omega
  · rintro at_ v1 v2 e ⟨hat, hrec, q0, m0, cq0, own0, L0, I, hsc, hsm⟩ hc2 hlt hw he
    have hll := objAt_lt hrec
    have I2 := I.ch hc2 fun b h => h.elim
    have r2 := hrec.ch hc2 id
    have hsl : scanL d = (L0.map Bt.says, at_) := by rw [hsc, scanL_none hw]; simp
    have hx : ∃ x, e = eV x ∧ (x = aB ∨ x = aS) ∧ (x = aB ↔ broken (d.drop at_)) := by
      rcases he with ⟨rfl, hb⟩ | ⟨rfl, hb⟩
      · exact ⟨aB, rfl, .inl rfl, fun _ => hb, fun _ => rfl⟩
      · exact ⟨aS, rfl, .inr rfl, fun h => absurd h E.ne.symm, fun h => absurd h hb⟩
    obtain ⟨x, rfl, hx1, hx2⟩ := hx
    refine hyl _ _ _ _ _ v2 _ r2 ?_
    refine box2 fun v3 x3 e3 y3 => ⟨r2.ch e3 id, ?_⟩
    have r3 := r2.ch e3 id
    have e4 := putObj_ch v3 l (rc .busy none)
    have r4 := r3.put (s' := .busy) (j' := none)
    have y4 : (v3.putObj l (rc .busy none)).heap.size = v3.heap.size := by simp
    generalize v3.putObj l (rc .busy none) = v4 at e4 r4 y4 ⊢
    refine newB_blk fun v5 x5 e5 y5 => ?_
    have I5 := ((I2.ch e3 fun b h => h.elim).ch e4 fun b e => .inl (by omega)).ch e5 fun b h => h.elim
    have E5 := E.ch I5.hc
    have hz5 := hc2.size
    have hbig : w.heap.size + 9 ≤ v4.heap.size := by omega
    refine as_fault x5 rfl rfl E5.ty (by omega) fun v6 x6 e6 => ⟨_, rfl, Sif_true ?_⟩
    have I6 := I5.ch e6 fun b e => .inr ⟨by omega, fun hm => by have := I.row.lt b hm; omega⟩
    have r6 : recAt v6 l rc .busy none := (r4.ch e5 id).ch e6 (by omega)
    have E6 := E.ch I6.hc
    refine ⟨fun v7 => Ch (fun _ => False) v6 v7 ∧ ¬ (broken (d.drop at_) ∧ (at_ : Int) < safe), ?_, _, E6.e.bad, ?_⟩
    · rintro v7 ⟨e7, hno⟩
      have I7 := I6.ch e7 fun b h => h.elim
      have r7 := r6.ch e7 id
      refine ⟨r7, ⟨_, rfl⟩, .inr (.inr (.inl ⟨r7.put, ?_⟩))⟩
      have hA : scanA d safe = (L0.map Bt.says, at_, 0) := by
        unfold scanA
        rw [if_neg hin, hsl, if_neg hno]
      exact fin _ at_ q0 m0 cq0 own0 L0 (SIput _ _ _ _ _ _ _ _ (I7.ch (putObj_ch v7 l _) fun b e => .inl (by omega))) hA
    · refine is_fault E6 hx1 fun v7 e7 => ⟨_, rfl, Sif_cases (fun hb => ?_) fun hb => ?_⟩
      · have hbr : broken (d.drop at_) := hx2.1 (by simpa using hb)
        have I7 := I6.ch e7 fun b h => h.elim
        have r7 := r6.ch e7 id
        have x7 : blk v7 v4.heap.size = some [.int .i64 (at_ : Int), eV x] := by rw [e7.blk (blk_lt x6) id]; exact x6
        refine ⟨_, by rw [add_at, cell_blk x7]; rfl, _, by rw [cell_blk I7.c0]; rfl, Sif_cases (fun hs => ?_) fun hs => ?_⟩
        · have hs' : (at_ : Int) < safe := by simpa using hs
          have hA : scanA d safe = ([], at_, 201) := by
            unfold scanA
            rw [if_neg hin, hsl, if_pos ⟨hbr, hs'⟩]
          refine ⟨_, by rw [add_at]; show World.cell? v7 _ = _; rw [cell_blk x7]; rfl, ?_⟩
          have I8 := I7.ch (Ch.drew (S := fun _ => False) v7) fun b h => h.elim
          have x8 : blk v7.drew v4.heap.size = some [.int .i64 (at_ : Int), eV x] := x7
          have r8 : recAt v7.drew l rc .busy none := r7
          generalize v7.drew = v8 at I8 x8 r8 ⊢
          simp only [add_at]
          refine st_blk I8.c1 (by simp) fun v9 x9 e9 y9 => ⟨⟨_, by rw [cell_blk (show blk v9 v4.heap.size = _ by rw [e9.blk (blk_lt x8) (by omega)]; exact x8)]; rfl, rfl⟩, ?_⟩
          refine st_blk (show blk v9 (w.heap.size + 2) = _ by rw [e9.blk (blk_lt I8.c2) (by omega)]; exact I8.c2) (by simp) fun v10 x10 e10 y10 => ?_
          refine st_blk (show blk v10 (w.heap.size + 3) = _ by rw [e10.blk (by have := blk_lt I8.c3; omega) (by omega), e9.blk (blk_lt I8.c3) (by omega)]; exact I8.c3) (by simp) fun v11 x11 e11 y11 => ?_
          have r11 := ((r8.ch e9 (by omega)).ch e10 (by omega)).ch e11 (by omega)
          have r12 := r11.put (s' := .done) (j' := some .ret)
          refine ⟨r11, ⟨_, rfl⟩, .inr (.inl ⟨r12, ?_⟩)⟩
          have e12 := putObj_ch v11 l (rc .done (some .ret))
          have y12 : (v11.putObj l (rc .done (some .ret))).heap.size = v11.heap.size := by simp
          generalize v11.putObj l (rc .done (some .ret)) = v12 at e12 r12 y12 ⊢
          have e13 := putObj_ch v12 l (rc .exhausted (some .ret))
          have y13 : (v12.putObj l (rc .exhausted (some .ret))).heap.size = v12.heap.size := by simp
          generalize v12.putObj l (rc .exhausted (some .ret)) = v13 at e13 y13 ⊢
          have e11_13 : Ch (· = l) v11 v13 := e12.trans' e13
          refine takeM_of (objAt_ch (objAt_ch (objAt_ch (objAt_ch I8.df e9 (by omega)) e10 (by omega)) e11 (by omega)) e11_13 (by omega)) fun v14 e14 y14 => ?_
          have l1 := blk_lt I8.c1
          have l2 := blk_lt I8.c2
          have l3 := blk_lt I8.c3
          have h1 : blk v14 (w.heap.size + 1) = some [.slice none 0 0] := by rw [e14.blk (by omega) (by omega), e11_13.blk (by omega) (by omega), e11.blk (by omega) (by omega), e10.blk (by omega) (by omega)]; exact x9
          have h2 : blk v14 (w.heap.size + 2) = some [.int .i64 (at_ : Int)] := by rw [e14.blk (by omega) (by omega), e11_13.blk (by omega) (by omega), e11.blk (by omega) (by omega)]; exact x10
          have h3 : blk v14 (w.heap.size + 3) = some [.int .i64 201] := by rw [e14.blk (by omega) (by omega), e11_13.blk (by omega) (by omega)]; exact x11
          refine ⟨_, _, _, by rw [cell_blk h1]; rfl, _, by rw [cell_blk h2]; rfl, _, by rw [cell_blk h3]; rfl, ?_⟩
          have := hk v14 none 0 0 none [] (((((I8.hc.trans e9 fun x hx e => by omega).trans e10 fun x hx e => by omega).trans e11 fun x hx e => by omega).trans e11_13 fun x hx e => by omega).trans e14 fun x hx e => by omega) (by rw [hA]; rfl) El.Row.nil (by simp [El.rowB])
          rw [hA] at this
          exact this
        · have hs' : ¬ (at_ : Int) < safe := by simpa using hs
          exact ⟨e7, fun h => hs' h.2⟩
      · have hb' : ¬ x = aB := by simpa using hb
        exact ⟨e7, fun h => hb' (hx2.2 h.1)⟩
  · rintro at_ v1 ⟨hat, hrec, q0, m0, cq0, own0, L0, I, hsc, hsm⟩ hend
    refine .inl ⟨hrec, ?_⟩
    have e0 : d.drop at_ = [] := List.eq_nil_of_length_eq_zero (by simp; omega)
    have hsl : scanL d = (L0.map Bt.says, at_) := by rw [hsc, e0, scanL_none whole_nil]; simp
    have hA : scanA d safe = (L0.map Bt.says, at_, 0) := by
      unfold scanA
      rw [if_neg hin, hsl, if_neg fun h => by
        have := h.1.1
        simp at this
        omega]
    exact fin _ at_ q0 m0 cq0 own0 L0 (SIput _ _ _ _ _ _ _ _ I) hA
end Go.Proofs.YtipololccbdojaaGreatDoor
