/-
  Lists of lists of bytes that are read (whoever owns them); journal.are, written; the document's Records, Bytes, All.
-/
import Derived.Test.YtipololccbdojaaGreatDoorJbytes
import Derived.Test.YtipololccbdojaaGreatDoorSvPile
import Derived.Test.YtipololccbdojaaGreatDoorJplain
namespace Go.Sv
open Go
set_option linter.unusedVariables false
/-- bytes that are read; lists of these -/
structure RV where
  p : Option Addr
  n : Nat
  c : Nat
  l : List UInt8
def RV.cells (x : RV) : List Value := [.slice x.p x.n x.c]
theorem RV.cells_len (x : RV) : x.cells.length = 1 := rfl
theorem RV.cells_one (x : RV) : ∀ v ∈ x.cells, oneV v = true := by intro v hv; simp [RV.cells] at hv; rw [hv]; rfl
def inB (B : Nat → Prop) (p : Option Addr) (n : Nat) : Prop := ∀ a, p = some a → n ≠ 0 → B a.block
theorem inB.mono {B B' : Nat → Prop} {p : Option Addr} {n : Nat} (h : inB B p n) (hb : ∀ b, B b → B' b) : inB B' p n := fun a ha hn => hb _ (h a ha hn)
theorem inB.ch {B S : Nat → Prop} {w w' : World} {p : Option Addr} {n sz : Nat} {xs : List Value} (h : inB B p n) (hr : Rd w p n sz xs) (c : Ch S w w') (hn : ∀ b, B b → ¬ S b) : Rd w' p n sz xs := hr.ch c fun a ha h0 => hn _ (h a ha fun e => h0 (by rw [e, Nat.zero_mul]))
structure RV.ok (w : World) (B : Nat → Prop) (x : RV) : Prop where
  rd : Rd w x.p x.n 1 (bytesV x.l)
  cap : x.n ≤ x.c
  at_ : inB B x.p x.n
structure VR (w : World) (B : Nat → Prop) (p : Option Addr) (n : Nat) (X : List RV) : Prop where
  len : X.length = n
  row : Rd w p n 1 (X.flatMap RV.cells)
  ok : ∀ x ∈ X, x.ok w B
  at_ : inB B p n
structure BV where
  p : Option Addr
  n : Nat
  c : Nat
  X : List RV
def BV.cells (x : BV) : List Value := [.slice x.p x.n x.c]
theorem BV.cells_len (x : BV) : x.cells.length = 1 := rfl
theorem BV.cells_one (x : BV) : ∀ v ∈ x.cells, oneV v = true := by intro v hv; simp [BV.cells] at hv; rw [hv]; rfl
structure BV.ok (w : World) (B : Nat → Prop) (x : BV) : Prop where
  rd : VR w B x.p x.n x.X
  cap : x.n ≤ x.c
structure VL (w : World) (B : Nat → Prop) (p : Option Addr) (n : Nat) (Y : List BV) : Prop where
  len : Y.length = n
  row : Rd w p n 1 (Y.flatMap BV.cells)
  ok : ∀ y ∈ Y, y.ok w B
  at_ : inB B p n
def saysR (X : List RV) : List (List UInt8) := X.map (·.l)
def BV.says (y : BV) : List (List UInt8) := saysR y.X
def saysL (Y : List BV) : List (List (List UInt8)) := Y.map BV.says
theorem RV.ok.ch {S B : Nat → Prop} {w w' : World} {x : RV} (h : x.ok w B) (c : Ch S w w') (hn : ∀ b, B b → ¬ S b) : x.ok w' B := ⟨h.at_.ch h.rd c hn, h.cap, h.at_⟩
theorem VR.ch {S B : Nat → Prop} {w w' : World} {p : Option Addr} {n : Nat} {X : List RV} (h : VR w B p n X) (c : Ch S w w') (hn : ∀ b, B b → ¬ S b) : VR w' B p n X := ⟨h.len, h.at_.ch h.row c hn, fun x hx => (h.ok x hx).ch c hn, h.at_⟩
theorem BV.ok.ch {S B : Nat → Prop} {w w' : World} {x : BV} (h : x.ok w B) (c : Ch S w w') (hn : ∀ b, B b → ¬ S b) : x.ok w' B := ⟨h.rd.ch c hn, h.cap⟩
theorem VL.ch {S B : Nat → Prop} {w w' : World} {p : Option Addr} {n : Nat} {Y : List BV} (h : VL w B p n Y) (c : Ch S w w') (hn : ∀ b, B b → ¬ S b) : VL w' B p n Y := ⟨h.len, h.at_.ch h.row c hn, fun x hx => (h.ok x hx).ch c hn, h.at_⟩
theorem VR.ch0 {B : Nat → Prop} {w w' : World} {p : Option Addr} {n : Nat} {X : List RV} (h : VR w B p n X) (c : Ch (fun _ => False) w w') : VR w' B p n X := h.ch c fun _ _ => id
theorem VL.ch0 {B : Nat → Prop} {w w' : World} {p : Option Addr} {n : Nat} {Y : List BV} (h : VL w B p n Y) (c : Ch (fun _ => False) w w') : VL w' B p n Y := h.ch c fun _ _ => id
theorem RV.ok.mono {B B' : Nat → Prop} {w : World} {x : RV} (h : x.ok w B) (hb : ∀ b, B b → B' b) : x.ok w B' := ⟨h.rd, h.cap, h.at_.mono hb⟩
theorem VR.mono {B B' : Nat → Prop} {w : World} {p : Option Addr} {n : Nat} {X : List RV} (h : VR w B p n X) (hb : ∀ b, B b → B' b) : VR w B' p n X := ⟨h.len, h.row, fun x hx => (h.ok x hx).mono hb, h.at_.mono hb⟩
theorem BV.ok.mono {B B' : Nat → Prop} {w : World} {x : BV} (h : x.ok w B) (hb : ∀ b, B b → B' b) : x.ok w B' := ⟨h.rd.mono hb, h.cap⟩
theorem VL.mono {B B' : Nat → Prop} {w : World} {p : Option Addr} {n : Nat} {Y : List BV} (h : VL w B p n Y) (hb : ∀ b, B b → B' b) : VL w B' p n Y := ⟨h.len, h.row, fun x hx => (h.ok x hx).mono hb, h.at_.mono hb⟩
theorem VR.at {w : World} {B : Nat → Prop} {p : Option Addr} {n : Nat} {X : List RV} (h : VR w B p n X) {i : Nat} {x : RV} (hi : X[i]? = some x) : ∃ k o, p = some ⟨k, o, none⟩ ∧ w.cell? ⟨k, o + i, none⟩ = some (.slice x.p x.n x.c) := by
  obtain ⟨k, o, e, h⟩ := h.row.at RV.cells_len hi (by decide)
  exact ⟨k, o, e, by simpa using h 0 _ rfl⟩
theorem VL.at {w : World} {B : Nat → Prop} {p : Option Addr} {n : Nat} {Y : List BV} (h : VL w B p n Y) {i : Nat} {y : BV} (hi : Y[i]? = some y) : ∃ k o, p = some ⟨k, o, none⟩ ∧ w.cell? ⟨k, o + i, none⟩ = some (.slice y.p y.n y.c) := by
  obtain ⟨k, o, e, h⟩ := h.row.at BV.cells_len hi (by decide)
  exact ⟨k, o, e, by simpa using h 0 _ rfl⟩
theorem VR.nil {w : World} {B : Nat → Prop} : VR w B none 0 [] := ⟨rfl, ⟨rfl, .inl rfl⟩, by simp, fun a h => by cases h⟩
theorem VL.nil {w : World} {B : Nat → Prop} : VL w B none 0 [] := ⟨rfl, ⟨rfl, .inl rfl⟩, by simp, fun a h => by cases h⟩
theorem RV.ok.len {w : World} {B : Nat → Prop} {x : RV} (h : x.ok w B) : x.l.length = x.n := by have := h.rd.1; simpa using this
/-- what is owned is read -/
def Rc.view (x : Rc) : RV := ⟨x.s.p, x.s.n, x.s.c, x.l⟩
def Bt.view (x : Bt) : BV := ⟨x.s.p, x.s.n, x.s.c, x.r.map Rc.view⟩
theorem Ow.inB {w : World} {p : Option Addr} {n c sz : Nat} {xs : List Value} {b : Option Nat} (h : Ow w p n c sz xs b) (hs : sz ≠ 0) : inB (fun k => b = some k) p n := fun a ha hn => by
  obtain ⟨h1, h2, h3⟩ := h
  rcases h3 with ⟨_, h3⟩ | ⟨k, o, cs, hb, hp, _⟩
  · have := Nat.mul_eq_zero.1 h3
    omega
  · rw [hp] at ha; cases ha; exact hb
theorem RcE.Row.view {w : World} {p : Option Addr} {n c : Nat} {own : Option Nat} {R : List Rc} (h : RcE.Row w p n c own R) : VR w (fun b => b ∈ RcE.rowB own R) p n (R.map Rc.view) := by
  obtain ⟨h1, h2, h3, h4⟩ := h
  refine ⟨by simpa using h1, ?_, fun x hx => ?_, (h2.inB (by decide)).mono fun b hb => El.mem_rowB.2 (.inl hb)⟩
  · have e : (R.map Rc.view).flatMap RV.cells = R.flatMap RcE.g := by rw [List.flatMap_map]; rfl
    rw [e]; exact h2.rd
  · obtain ⟨y, hy, rfl⟩ := List.mem_map.1 hx
    have hy2 : Ow w y.s.p y.s.n y.s.c 1 (bytesV y.l) y.s.own := h3 y hy
    exact ⟨hy2.rd, hy2.2.1, (hy2.inB (by decide)).mono fun b hb => El.mem_rowB.2 (.inr ⟨y, hy, by simpa [RcE, Option.mem_toList] using hb⟩)⟩
theorem BtE.Row.view {w : World} {p : Option Addr} {n c : Nat} {own : Option Nat} {L : List Bt} (h : BtE.Row w p n c own L) : VL w (fun b => b ∈ BtE.rowB own L) p n (L.map Bt.view) := by
  obtain ⟨h1, h2, h3, h4⟩ := h
  refine ⟨by simpa using h1, ?_, fun x hx => ?_, (h2.inB (by decide)).mono fun b hb => El.mem_rowB.2 (.inl hb)⟩
  · have e : (L.map Bt.view).flatMap BV.cells = L.flatMap BtE.g := by rw [List.flatMap_map]; rfl
    rw [e]; exact h2.rd
  · obtain ⟨y, hy, rfl⟩ := List.mem_map.1 hx
    have hy2 : RcE.Row w y.s.p y.s.n y.s.c y.s.own y.r := h3 y hy
    exact ⟨(RcE.Row.view hy2).mono fun b hb => El.mem_rowB.2 (.inr ⟨y, hy, hb⟩), hy2.2.1.2.1⟩
theorem view_says (L : List Bt) : saysL (L.map Bt.view) = L.map Bt.says := by
  unfold saysL
  rw [List.map_map]
  refine List.map_congr_left fun x _ => ?_
  show saysR (x.r.map Rc.view) = x.r.map (·.l)
  unfold saysR
  rw [List.map_map]; rfl
end Go.Sv
namespace Go.Proofs.YtipololccbdojaaGreatDoor
open Go Go.Sv
set_option linter.unusedVariables false
set_option maxRecDepth 4000

theorem body_take_succ {X : List RV} {i : Nat} {x : RV} (h : X[i]? = some x) : body (saysR (X.take (i + 1))) = body (saysR (X.take i)) ++ (be 4 x.l.length ++ x.l) := by
  obtain ⟨hlt, he⟩ := List.getElem?_eq_some_iff.1 h
  rw [List.take_succ_eq_append_getElem hlt, he]
  simp [saysR, body]
theorem body_take_le (X : List RV) (i : Nat) : (body (saysR (X.take i))).length ≤ (body (saysR X)).length := by
  have e : body (saysR X) = body (saysR (X.take i)) ++ body (saysR (X.drop i)) := by
    conv => lhs; rw [← List.take_append_drop i X]
    simp only [saysR, body, List.map_append, List.flatMap_append]
  rw [e, List.length_append]; omega
theorem are_ok {w : World} {B : Nat → Prop} {p : Option Addr} {n c : Nat} {X : List RV} {K : Value → World → Prop} (h : VR w B p n X) (hn : n ≤ 2 ^ 60) (hk : K (.bool (recsB (saysR X))) w) :
    callP Tryz.prog 51 [.slice p n c] w K := by
  refine ok_journal_are ?_
  unfold wp_journal_are
  have hl := h.len
  refine ⟨fun m i w' => ∃ j : Nat, i = (j : Int) ∧ j ≤ n ∧ m = n - j ∧ w' = w ∧ recsB (saysR (X.take j)) = true, ⟨n, 0, rfl, by omega, rfl, rfl, rfl⟩, ?_⟩
  rintro m i w1 ⟨j, rfl, hj, rfl, rfl, hall⟩
  refine Sif_cases (fun hlt => ?_) fun hge => ?_
  · have hlt' : (j : Int) < n := by simpa using hlt
    have hjl : j < X.length := by omega
    obtain ⟨k, o, rfl, hcell⟩ := h.at (List.getElem?_eq_getElem hjl)
    have hx := h.ok _ (List.getElem_mem hjl)
    have hxl := hx.len
    have hs : saysR (X.take (j + 1)) = saysR (X.take j) ++ [X[j].l] := by rw [List.take_succ_eq_append_getElem hjl]; simp only [saysR, List.map_append, List.map_cons, List.map_nil]
    have bad : recB X[j].l = false → K (.bool false) w1 := fun hb => by
      have : recsB (saysR X) = false := by
        unfold recsB
        rw [List.all_eq_false]
        exact ⟨_, List.mem_map.2 ⟨_, List.getElem_mem hjl, rfl⟩, by simp [hb]⟩
      rw [this] at hk; exact hk
    refine ⟨fun w2 => w2 = w1 ∧ recB X[j].l = true, ?_, by omega, by omega, ?_⟩
    · rintro w2 ⟨rfl, hb⟩
      rw [wrap_id (by omega) (by omega)]
      refine ⟨n - (j + 1), by omega, j + 1, by omega, by omega, rfl, by trivial, ?_⟩
      rw [hs]; unfold recsB at hall ⊢; rw [List.all_append, hall]; simp [hb]
    · simp only [nn_some, add_at, Int.toNat_natCast, Nat.mul_one]
      refine ⟨_, _, _, hcell, Sif_cases (fun h1 => Sif_cases (fun h2 => ?_) fun h2 => ?_) fun h1 => ?_⟩
      · have h2' : (X[j].n : Int) > 1049600 := by simpa using h2
        exact bad (by unfold recB; rw [hxl]; simp; omega)
      · have h1' : ¬ (X[j].n : Int) < 1 := by simpa using h1
        have h2' : ¬ (X[j].n : Int) > 1049600 := by simpa using h2
        exact ⟨by trivial, by unfold recB; rw [hxl]; simp; omega⟩
      · have h1' : (X[j].n : Int) < 1 := by simpa using h1
        exact bad (by unfold recB; rw [hxl]; simp; omega)
  · have : ¬ (j : Int) < n := by simpa using hge
    rw [List.take_of_length_le (by omega)] at hall
    rw [hall] at hk; exact hk
/-- bytes behind bytes, in Go's own append -/
theorem apB {w : World} {p : Option Addr} {n c : Nat} {x : List UInt8} {b : Option Nat} {q : Option Addr} {m c2 : Nat} {y : List UInt8} (ho : Ow w p n c 1 (bytesV x) b) (hr : Rd w q m 1 (bytesV y)) (hs : n + m ≤ 2 ^ 46) {K : Option Addr → Nat → Nat → World → Prop}
    (hk : ∀ p' c' b' w', Ow w' p' (n + m) c' 1 (bytesV (x ++ y)) b' → (∀ k, b' = some k → b = some k ∨ w.heap.size ≤ k) → Ch (fun k => b = some k) w w' → K p' (n + m) c' w') :
    ∃ p' n' c' w', Sem.run Tryz.prog (Builtin.append_ #[23, 23] 23 #[.slice p n c, .slice q m c2]) w = .ok (.slice p' n' c') w' ∧ K p' n' c' w' := by
  obtain ⟨p', c', w', b', h1, h2, h3, h4, _⟩ := append_rd (ty := 23) (c2 := c2) Tryz.underlying23 Tryz.underlying23 oct_info rfl ho hr (bytesV_one y) (by omega) (by omega)
  rw [← bytesV_append] at h2
  exact ⟨p', _, c', w', h1, hk p' c' b' w' h2 (fun k hk => (h3 k hk).imp id fun e => by omega) h4⟩
theorem rd_blk {w : World} {k : Nat} {l : List UInt8} {n : Nat} (hb : blk w k = some (bytesV l)) (hn : l.length = n) : Rd w (some ⟨k, 0, none⟩) n 1 (bytesV l) := by
  subst hn
  exact ⟨by simp, .inr ⟨k, 0, _, rfl, blk_cells hb, by simp, by rw [List.drop_zero, Nat.mul_one, List.take_of_length_le (by simp)]⟩⟩
theorem crcN (l : List UInt8) : IntKind.wrap .i64 (nu (crc l)) = (((crc l).toNat : Nat) : Int) := by
  have := nu_lt (crc l)
  rw [wrap_id (by unfold nu; omega) (by omega)]
theorem crcU (l : List UInt8) : IntKind.wrap .u64 (nu (crc l)) = (((crc l).toNat : Nat) : Int) := by
  have := nu_lt (crc l)
  rw [w64 (by unfold nu; omega) (by omega)]
set_option maxHeartbeats 1000000 in
theorem written_ok {w : World} {B : Nat → Prop} {p : Option Addr} {n c : Nat} {X : List RV} {K : Value → World → Prop} (h : VR w B p n X) (hlen : (body (saysR X)).length ≤ 2 ^ 40) (hn : n ≤ 2 ^ 40)
    (hk : ∀ w' q m cq b, m = (batchB (saysR X)).length → Ow w' q m cq 1 (bytesV (batchB (saysR X))) b → (∀ k, b = some k → w.heap.size ≤ k) → Ch (fun _ => False) w w' → K (.slice q m cq) w') :
    callP Tryz.prog 53 [.slice p n c] w K := by
  have hl := h.len
  refine ok_journal_written ?_
  unfold wp_journal_written
  refine Sif_cases (fun h0 => ?_) fun h0 => ?_
  · have h0' : (n : Int) = 0 := by simpa using h0
    have : X = [] := List.eq_nil_of_length_eq_zero (by omega)
    subst this
    exact hk w none 0 0 none rfl ⟨rfl, Nat.le_refl _, .inl ⟨rfl, rfl⟩⟩ (fun k hk => by cases hk) (Ch.refl _ _)
  have h0' : ¬ (n : Int) = 0 := by simpa using h0
  have hne : saysR X ≠ [] := fun e => by have := congrArg List.length e; simp [saysR] at this; subst this; simp at hl; omega
  refine ⟨fun m t i w' => ∃ j : Nat, i = (j : Int) ∧ j ≤ n ∧ m = n - j ∧ w' = w ∧ t = ((body (saysR (X.take j))).length : Int), ⟨n, 0, rfl, by omega, rfl, rfl, by simp [saysR, body]⟩, ?_⟩
  rintro m t i w1 ⟨j, rfl, hj, rfl, rfl, rfl⟩
  refine Sif_cases (fun hlt => ?_) fun hge => ?_
  · have hlt' : (j : Int) < n := by simpa using hlt
    have hjl : j < X.length := by omega
    have hi := List.getElem?_eq_getElem hjl
    obtain ⟨k, o, rfl, hcell⟩ := h.at hi
    have hx := h.ok _ (List.getElem_mem hjl)
    have hxl := hx.len
    have hsucc := congrArg List.length (body_take_succ hi)
    have hle := body_take_le X (j + 1)
    simp only [List.length_append, be_length] at hsucc
    refine ⟨by omega, by omega, ?_⟩
    simp only [nn_some, add_at, Int.toNat_natCast, Nat.mul_one]
    refine ⟨_, _, _, hcell, ?_⟩
    rw [wrap_id (n := 4 + (X[j].n : Int)) (by omega) (by omega), wrap_id (n := _ + (4 + (X[j].n : Int))) (by omega) (by omega), nameI_iff, wrap_id (by omega) (by omega)]
    exact ⟨n - (j + 1), by omega, j + 1, by omega, by omega, rfl, by trivial, by omega⟩
  have hj' : ¬ (j : Int) < n := by simpa using hge
  obtain rfl : j = n := by omega
  rw [List.take_of_length_le (by omega)]
  have hbl : (be 4 (body (saysR X)).length).length = 4 := by simp
  rw [wrap_id (n := _ + 12) (by omega) (by omega)]
  obtain ⟨w2, hm, hb2, hc2, hz2⟩ := make_oct (w := w1) 0 ((body (saysR X)).length + 12) (by omega) (by omega)
  refine ⟨_, _, _, w2, by simpa using hm, ?_⟩
  have o2 : Ow w2 (some ⟨w1.heap.size, 0, none⟩) 0 ((body (saysR X)).length + 12) 1 (bytesV []) (some w1.heap.size) := ⟨rfl, by omega, .inr ⟨w1.heap.size, 0, _, rfl, rfl, hb2, by simp, by simp [bytesV]⟩⟩
  refine number_ok (by omega) fun w3 b3 c3 z3 => ⟨_, _, _, rfl, ?_⟩
  refine apB (o2.ch c3 fun _ _ => id) (rd_blk b3 hbl) (by omega) fun p4 c4 own4 w4 o4 n4 e4 => ?_
  rw [List.nil_append] at o4
  have f4 : ∀ k, own4 = some k → w1.heap.size ≤ k := fun k hk => by
    rcases n4 k hk with e | e
    · cases e; exact Nat.le_refl _
    · omega
  have C4 : Ch (fun _ => False) w1 w4 := (hc2.new c3).trans e4 fun x hx e => by cases e; omega
  refine newB_blk fun w5 b5 c5 z5 => ?_
  refine sum_ok rfl b5 ((o4.ch c5 fun _ _ => id).rd) (by omega) fun w6 c6 => ⟨_, rfl, ?_⟩
  rw [crcN]
  refine number_ok (by have := crc_lt (be 4 (body (saysR X)).length); omega) fun w7 b7 c7 z7 => ⟨_, _, _, rfl, ?_⟩
  refine apB (((o4.ch c5 fun _ _ => id).ch c6 fun _ _ => id).ch c7 fun _ _ => id) (rd_blk b7 (by simp)) (by omega) fun p8 c8 own8 w8 o8 n8 e8 => ?_
  have s5 := c5.size
  have s6 := c6.size
  have s7 := c7.size
  have sC4 := C4.size
  have f8 : ∀ k, own8 = some k → w1.heap.size ≤ k := fun k hk => by
    rcases n8 k hk with e | e
    · exact f4 k e
    · omega
  have C8 : Ch (fun _ => False) w1 w8 := (((C4.new c5).new c6).new c7).trans e8 fun x hx e => by have := f4 x e; omega
  have ehead : be 4 (body (saysR X)).length ++ be 4 (crc (be 4 (body (saysR X)).length)).toNat = headB (saysR X) := rfl
  rw [ehead] at o8
  refine ⟨fun m q t cq i w' => ∃ (j' : Nat) (b : Option Nat), i = (j' : Int) ∧ j' ≤ j ∧ m = j - j' ∧ Ch (fun _ => False) w1 w' ∧ (∀ k, b = some k → w1.heap.size ≤ k) ∧ t = 8 + (body (saysR (X.take j'))).length ∧ Ow w' q t cq 1 (bytesV (headB (saysR X) ++ body (saysR (X.take j')))) b,
    ⟨j, 0, own8, rfl, by omega, rfl, C8, f8, by simp [saysR, body], by simpa [saysR, body] using o8⟩, ?_⟩
  rintro m q t cq i w9 ⟨j', b9, rfl, hj9, rfl, C9, f9, rfl, o9⟩
  have hle9 := body_take_le X j'
  refine Sif_cases (fun hlt => ?_) fun hge => ?_
  · have hlt' : (j' : Int) < j := by simpa using hlt
    have hjl : j' < X.length := by omega
    have hi := List.getElem?_eq_getElem hjl
    have h9 := h.ch0 C9
    obtain ⟨k, o, rfl, hcell⟩ := h9.at hi
    have hx := h9.ok _ (List.getElem_mem hjl)
    have hx0 := h.ok _ (List.getElem_mem hjl)
    have hxl := hx.len
    have hsucc := congrArg List.length (body_take_succ hi)
    have hle := body_take_le X (j' + 1)
    simp only [List.length_append, be_length] at hsucc
    refine ⟨by omega, by omega, ?_⟩
    simp only [nn_some, add_at, Int.toNat_natCast, Nat.mul_one]
    refine ⟨_, _, _, hcell, number_ok (by omega) fun w10 b10 c10 z10 => ⟨_, _, _, rfl, ?_⟩⟩
    refine apB (o9.ch c10 fun _ _ => id) (rd_blk b10 (by simp)) (by omega) fun p11 c11 own11 w11 o11 n11 e11 => ?_
    have s9 := C9.size
    have f11 : ∀ k, own11 = some k → w1.heap.size ≤ k := fun k hk => by
      rcases n11 k hk with e | e
      · exact f9 k e
      · omega
    have C11 : Ch (fun _ => False) w1 w11 := (C9.new c10).trans e11 fun x hx e => by have := f9 x e; omega
    refine apB o11 ((h.ch0 C11).ok _ (List.getElem_mem hjl)).rd (by omega) fun p12 c12 own12 w12 o12 n12 e12 => ?_
    rw [wrap_id (by omega) (by omega)]
    have s11 := C11.size
    refine ⟨j - (j' + 1), by omega, j' + 1, own12, by omega, by omega, rfl, C11.trans e12 fun x hx e => by have := f11 x e; omega, fun k hk => ?_, by omega, ?_⟩
    · rcases n12 k hk with e | e
      · exact f11 k e
      · omega
    · rw [body_take_succ hi, ← List.append_assoc, ← List.append_assoc, hxl]
      exact o12
  · have hj' : ¬ (j' : Int) < j := by simpa using hge
    obtain rfl : j' = j := by omega
    rw [List.take_of_length_le (by omega)] at o9 ⊢
    have efore : headB (saysR X) ++ body (saysR X) = foreB (saysR X) := rfl
    rw [efore] at o9
    refine newB_blk fun w10 b10 c10 z10 => ?_
    refine sum_ok rfl b10 ((o9.ch c10 fun _ _ => id).rd) (by omega) fun w11 c11 => ⟨_, rfl, ?_⟩
    rw [crcN]
    refine number_ok (by have := crc_lt (foreB (saysR X)); omega) fun w12 b12 c12 z12 => ⟨_, _, _, rfl, ?_⟩
    refine apB (((o9.ch c10 fun _ _ => id).ch c11 fun _ _ => id).ch c12 fun _ _ => id) (rd_blk b12 (by simp)) (by omega) fun p13 c13 own13 w13 o13 n13 e13 => ?_
    have s9 := C9.size
    have s10 := c10.size
    have s11 := c11.size
    have s12 := c12.size
    have ebt : foreB (saysR X) ++ be 4 (crc (foreB (saysR X))).toNat = batchB (saysR X) := by unfold batchB; rw [if_neg hne]
    rw [ebt] at o13
    have hbl := batchB_length hne
    refine hk w13 p13 _ c13 own13 (by omega) o13 (fun k hk => ?_) ((((C9.new c10).new c11).new c12).trans e13 fun x hx e => by have := f9 x e; omega)
    rcases n13 k hk with e | e
    · exact f9 k e
    · omega
abbrev Old (w : World) : Nat → Prop := fun b => b < w.heap.size
def BV.small (y : BV) : Prop := y.n ≤ 2 ^ 20 ∧ ∀ x ∈ y.X, x.n ≤ 2 ^ 20
structure LV where
  p : Option Addr
  n : Nat
  c : Nat
  Y : List BV
def LV.cells (x : LV) : List Value := [.slice x.p x.n x.c]
structure LV.ok (w : World) (x : LV) : Prop where
  rd : VL w (Old w) x.p x.n x.Y
  cap : x.n ≤ x.c
  n : x.n ≤ 2 ^ 20
  small : ∀ y ∈ x.Y, BV.small y
end Go.Proofs.YtipololccbdojaaGreatDoor
