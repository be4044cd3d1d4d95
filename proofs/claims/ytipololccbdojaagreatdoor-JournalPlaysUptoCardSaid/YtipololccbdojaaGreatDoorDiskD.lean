/-
  The disk in memory, and the contracts of its small functions: cloning bytes, the names' rule, the next act, the finding of a file. The disk in memory: what lies where; the next act, the finding of a file. The disk's fall: what does not last is lost; a file that goes away. The disk's lock; a file that goes away; an act that is done, or in which the power fails.
-/
import Derived.Test.YtipololccbdojaaGreatDoorKeys
import Derived.Test.YtipololccbdojaaGreatDoorDiskWp
import Derived.Test.YtipololccbdojaaGreatDoorLocks
namespace Go.Proofs.YtipololccbdojaaGreatDoor
open Go Go.Sv Go.MapKept
set_option linter.unusedVariables false

theorem byte_info : InfoIs Tryz.prog 5 1 1 (.int .u8 0) := .of (by kernel_rfl) (by kernel_rfl) (by kernel_rfl)
theorem clone_ok {s : Option Addr} {n c : Nat} {w : World} {K : Value → World → Prop} {l : List UInt8} (h : Rd w s n 1 (bytesV l)) (hn : n ≤ 2 ^ 46)
    (hk : ∀ p' c' w' b', Ow w' p' n c' 1 (bytesV l) b' → (∀ k, b' = some k → w.heap.size ≤ k) → Ch (fun _ => False) w w' → K (.slice p' n c') w') : callP Tryz.prog 58 [.slice s n c] w K := by
  refine ok_slices_Clone ?_
  unfold wp_slices_Clone
  have hl : l.length = n := by have := h.1; simpa using this
  refine Sif_cases (fun hs => ?_) fun hs => ?_
  · have hs' : s = none := by simpa using hs
    subst hs'
    have h0 : n = 0 := by
      rcases h.2 with h | ⟨b, o, cs, hp, _⟩
      · omega
      · cases hp
    subst h0
    exact hk none 0 w none ⟨by simpa using hl, Nat.le_refl _, .inl ⟨rfl, rfl⟩⟩ (fun k hk => by cases hk) (Ch.refl _ _)
  · refine newB_blk fun w1 hb1 hc1 hz1 => ?_
    have hr : Rd w1 s n 1 (bytesV l) := h.ch hc1 fun _ _ _ => id
    obtain ⟨p', c', w', b', h1, h2, h3, h4, _⟩ := append_rd (ty := 23) (c2 := c) Tryz.underlying23 Tryz.underlying23 byte_info rfl (xs := []) (n := 0) (c := 0) (b := none) (p := some ⟨w.heap.size, 0, none⟩) ⟨rfl, Nat.le_refl _, .inl ⟨rfl, rfl⟩⟩ hr (bytesV_one l) (by omega) (by omega)
    rw [Nat.zero_add] at h1 h2
    refine ⟨p', n, c', w', h1, hk p' c' w' b' h2 (fun k hk => ?_) (hc1.trans h4 fun x _ hx => by cases hx)⟩
    rcases h3 k hk with h3 | h3
    · cases h3
    · omega

/-! ### Names -/
def okc (n : Int) : Bool := (decide (97 ≤ n) && decide (n ≤ 122)) || n == 46
def nameOk (s : ByteArray) : Bool := (List.range s.size).all (fun i => okc (byteAt s i)) && decide (1 ≤ s.size) && decide (s.size ≤ 16)
theorem isName_ok {s : ByteArray} {w : World} {K : Value → World → Prop} (hs : s.size ≤ 9223372036854775807) (hk : K (.bool (nameOk s)) w) : callP Tryz.prog 59 [.string s] w K := by
  refine ok_disk_isName ?_
  unfold wp_disk_isName
  refine ⟨fun m n w' => w' = w ∧ 0 ≤ n ∧ n ≤ s.size ∧ m = s.size - n.toNat ∧ ∀ i, i < n.toNat → okc (byteAt s i) = true, ⟨s.size, rfl, by omega, by omega, by simp, fun i hi => by simp at hi⟩, ?_⟩
  rintro m n w1 ⟨rfl, h0, h1, hm, hall⟩
  have bad : n < s.size → okc (byteAt s n.toNat) = false → nameOk s = false := fun hn hb => by
    have : (List.range s.size).all (fun i => okc (byteAt s i)) = false := by
      rw [List.all_eq_false]
      exact ⟨n.toNat, by simp; omega, by simp [hb]⟩
    simp [nameOk, this]
  refine Sif_cases (fun hn => ?_) fun hn => ?_
  · have hn' : n < s.size := by simpa using hn
    refine ⟨fun w2 => w2 = w1 ∧ okc (byteAt s n.toNat) = true, ?_, h0, hn', ?_⟩
    · rintro w2 ⟨rfl, hok⟩
      refine ⟨m - 1, by omega, rfl, ?_, ?_, ?_, ?_⟩
      · rw [wrap_id (by omega) (by omega)]; omega
      · rw [wrap_id (by omega) (by omega)]; omega
      · rw [wrap_id (by omega) (by omega)]; omega
      · intro i hi
        rw [wrap_id (by omega) (by omega)] at hi
        by_cases hin : i < n.toNat
        · exact hall i hin
        · have : i = n.toNat := by omega
          rw [this]; exact hok
    · rw [nameI_iff]
      generalize hc : byteAt s n.toNat = ch at *
      have e : okc ch = ((!decide (ch < 97) && !decide (ch > 122)) || !(ch != 46)) := by
        unfold okc
        have e1 : decide (97 ≤ ch) = !decide (ch < 97) := by by_cases h : ch < 97 <;> simp [h] <;> omega
        have e2 : decide (ch ≤ 122) = !decide (ch > 122) := by by_cases h : ch > 122 <;> simp [h] <;> omega
        rw [e1, e2]; simp [bne]
      refine Sif_cases (fun g1 => Sif_cases (fun g2 => Sif_cases (fun g3 => ?_) fun g3 => ?_) fun g2 => ?_) fun g1 => Sif_cases (fun g3 => ?_) fun g3 => ?_
      · rw [← bad hn' (by rw [e, g2, g3]; simp)]; exact hk
      · exact ⟨rfl, by rw [e, g3]; simp⟩
      · exact ⟨rfl, by rw [e, g1, g2]; simp⟩
      · rw [← bad hn' (by rw [e, g1, g3]; simp)]; exact hk
      · exact ⟨rfl, by rw [e, g3]; simp⟩
  · have hn' : ¬ n < s.size := by simpa using hn
    have hall' : (List.range s.size).all (fun i => okc (byteAt s i)) = true := by
      rw [List.all_eq_true]
      intro i hi
      have : i < s.size := by simpa using hi
      exact hall i (by omega)
    have e : nameOk s = (decide (1 ≤ s.size) && decide (s.size ≤ 16)) := by simp [nameOk, hall']
    refine Sif_cases (fun g => ?_) fun g => ?_
    · have g' : 1 ≤ s.size := by simp at g; omega
      have : decide ((↑s.size : Int) ≤ 16) = nameOk s := by
        rw [e]; simp only [g', decide_true, Bool.true_and]; rw [decide_eq_decide]; omega
      rw [this]; exact hk
    · have g' : ¬ 1 ≤ s.size := by simp at g; omega
      rw [e] at hk; simpa [g'] using hk
end Go.Proofs.YtipololccbdojaaGreatDoor
namespace Go.Proofs.YtipololccbdojaaGreatDoor
open Go Go.Sv Go.MapKept
set_option linter.unusedVariables false

structure File where
  name : ByteArray
  dat : List UInt8
  safe : Nat
/-- a file in memory: its block, its bytes' slice, the block of these (none: there is no room) -/
structure PF where
  f : File
  b : Nat
  p : Option Addr
  c : Nat
  own : Option Nat
def PF.bl (x : PF) : List Nat := x.b :: x.own.toList
def PF.good (w : World) (x : PF) : Prop := blk w x.b = some [.slice x.p x.f.dat.length x.c, .int .i64 x.f.safe] ∧ Ow w x.p x.f.dat.length x.c 1 (bytesV x.f.dat) x.own
def PF.pair (x : PF) : Value × Value := (.string x.f.name, .pointer (some ⟨x.b, 0, none⟩))
structure Hd where
  lk : Int
  room : Int
  used : Int
  down : Bool
  acts : Int
  keep : Int
def Hd.cells (r : Nat) (h : Hd) : List Value := [.int .i32 h.lk, .int .u32 0, .int .i64 h.room, .int .i64 h.used, .map (some r), .bool h.down, .int .i64 h.acts, .int .i64 h.keep]
def blocks (d r : Nat) (L : List PF) : List Nat := d :: r :: L.flatMap PF.bl
structure DR (w : World) (d r : Nat) (h : Hd) (L : List PF) : Prop where
  head : blk w d = some (h.cells r)
  map : ∃ m, Mp .string w r m ∧ m.Perm (L.map PF.pair)
  files : ∀ x ∈ L, x.good w
  nodup : (blocks d r L).Nodup
theorem PF.good.lt {w : World} {x : PF} (h : x.good w) : ∀ b ∈ x.bl, b < w.heap.size := by
  intro b hb
  simp only [PF.bl, List.mem_cons, Option.mem_toList, Option.mem_def] at hb
  rcases hb with rfl | hb
  · exact blk_lt h.1
  · have := h.2; rw [hb] at this; exact this.lt
theorem PF.good.ch {S : Nat → Prop} {w w' : World} {x : PF} (h : x.good w) (hc : Ch S w w') (hn : ∀ b ∈ x.bl, ¬ S b) : x.good w' := by
  refine ⟨by rw [hc.blk (blk_lt h.1) (hn _ (by simp [PF.bl]))]; exact h.1, h.2.ch hc fun k hk => hn k (by simp [PF.bl, hk])⟩
theorem mem_blocks {d r : Nat} {L : List PF} {b : Nat} : b ∈ blocks d r L ↔ b = d ∨ b = r ∨ ∃ x ∈ L, b ∈ x.bl := by
  simp [blocks, List.mem_flatMap]
theorem DR.lt {w : World} {d r : Nat} {h : Hd} {L : List PF} (H : DR w d r h L) : ∀ b ∈ blocks d r L, b < w.heap.size := by
  intro b hb
  rcases mem_blocks.1 hb with rfl | rfl | ⟨x, hx, hb⟩
  · exact blk_lt H.head
  · obtain ⟨m, hm, _⟩ := H.map; exact hm.lt
  · exact (H.files x hx).lt b hb
theorem DR.ch {S : Nat → Prop} {w w' : World} {d r : Nat} {h : Hd} {L : List PF} (H : DR w d r h L) (hc : Ch S w w') (hn : ∀ b ∈ blocks d r L, ¬ S b) : DR w' d r h L := by
  refine ⟨by rw [hc.blk (blk_lt H.head) (hn _ (by simp [blocks]))]; exact H.head, ?_, fun x hx => (H.files x hx).ch hc fun b hb => hn b (mem_blocks.2 (.inr (.inr ⟨x, hx, hb⟩))), H.nodup⟩
  obtain ⟨m, hm, hp⟩ := H.map
  exact ⟨m, hm.ch hc (hn _ (by simp [blocks])), hp⟩
theorem DR.ch0 {w w' : World} {d r : Nat} {h : Hd} {L : List PF} (H : DR w d r h L) (hc : Ch (fun _ => False) w w') : DR w' d r h L := H.ch hc fun _ _ => id
theorem DR.setHead {w w' : World} {d r : Nat} {h h' : Hd} {L : List PF} (H : DR w d r h L) (hc : Ch (· = d) w w') (hb : blk w' d = some (h'.cells r)) : DR w' d r h' L := by
  have hnd := H.nodup
  unfold blocks at hnd
  obtain ⟨n1, n2⟩ := List.nodup_cons.1 hnd
  refine ⟨hb, ?_, fun x hx => (H.files x hx).ch hc fun b hm e => n1 (e ▸ List.mem_cons_of_mem _ (List.mem_flatMap.2 ⟨x, hx, hm⟩)), H.nodup⟩
  obtain ⟨m, hm, hp⟩ := H.map
  exact ⟨m, hm.ch hc fun e => n1 (by rw [e]; simp), hp⟩
theorem DR.perm {w : World} {d r : Nat} {h : Hd} {L L' : List PF} (H : DR w d r h L) (hp : L.Perm L') : DR w d r h L' := by
  refine ⟨H.head, ?_, fun x hx => H.files x (hp.mem_iff.2 hx), ?_⟩
  · obtain ⟨m, hm, hq⟩ := H.map
    exact ⟨m, hm, hq.trans (hp.map _)⟩
  · exact (List.Perm.cons d (List.Perm.cons r (hp.flatMap_right _))).nodup_iff.1 H.nodup
theorem DR.names {w : World} {d r : Nat} {h : Hd} {L : List PF} (H : DR w d r h L) : (L.map fun x => x.f.name).Nodup := by
  obtain ⟨m, hm, hp⟩ := H.map
  have h1 := (hp.map Prod.fst).nodup_iff.1 hm.nodup
  rw [List.map_map] at h1
  have h2 : L.map (Prod.fst ∘ PF.pair) = (L.map fun x => x.f.name).map Value.string := by rw [List.map_map]; rfl
  rw [h2] at h1
  exact List.Pairwise.of_map Value.string (fun a b hab e => hab (by rw [e])) h1
theorem DR.cell {w : World} {d r : Nat} {h : Hd} {L : List PF} (H : DR w d r h L) (i : Nat) : w.cell? ⟨d, i, none⟩ = (h.cells r)[i]? := cell_blk H.head i
/-- a store into the disk's own block -/
theorem DR.st {w : World} {d r : Nat} {h h' : Hd} {L : List PF} (H : DR w d r h L) {o : Nat} {v : Value} {K : World → Prop} (ho : o < 8) (he : (h.cells r).set o v = h'.cells r)
    (hk : ∀ w', DR w' d r h' L → Ch (· = d) w w' → w'.heap.size = w.heap.size → K w') : Sv.st w ⟨d, o, none⟩ v K :=
  st_blk H.head (by simpa [Hd.cells] using ho) fun w' hb hc hz => hk w' (H.setHead hc (by rw [hb, he])) hc hz

/-! ### The next act -/
def actsN (a : Int) : Int := if a = 0 then 0 else max (a - 1) (-1)
theorem act_ok {w : World} {d r : Nat} {h : Hd} {L : List PF} {K : Value → World → Prop} (H : DR w d r h L) (ha : -1 ≤ h.acts) (hb : h.acts ≤ 9223372036854775807)
    (hk : ∀ w', DR w' d r { h with acts := actsN h.acts } L → Ch (· = d) w w' → w'.heap.size = w.heap.size → K (.bool (h.acts == 0)) w') : callP Tryz.prog 98 [.pointer (some ⟨d, 0, none⟩)] w K := by
  refine ok_disk_Disk_act ?_
  unfold wp_disk_Disk_act
  simp only [nn_some, add_at]
  refine ⟨h.acts, H.cell 6, Sif_cases (fun e => ?_) fun e => ⟨h.acts, H.cell 6, ?_⟩⟩
  · have e' : h.acts = 0 := by simpa using e
    have := hk w (by
      have : ({ h with acts := actsN h.acts } : Hd) = h := by cases h; simp only at e'; subst e'; rfl
      rw [this]; exact H) (Ch.refl _ _) rfl
    rw [e] at this; exact this
  · have e' : ¬ h.acts = 0 := by simpa using e
    refine H.st (h' := { h with acts := actsN h.acts }) (by omega) ?_ fun w' h1 h2 h3 => ?_
    · rw [wrap_id (by omega) (by omega)]; simp [Hd.cells, actsN, e']
    · have := hk w' h1 h2 h3
      rw [e] at this; exact this

/-! ### Finding -/
def ofR (h : Hd) (L : List PF) (ns : List ByteArray) (n0 : ByteArray) (p : Option Addr) (e : Int) : Prop :=
  (h.down = true ∧ p = none ∧ e = 3) ∨ (h.down = false ∧ (∃ s ∈ ns, nameOk s = false) ∧ p = none ∧ e = 1) ∨
  (h.down = false ∧ (∀ s ∈ ns, nameOk s = true) ∧ (∀ x ∈ L, x.f.name ≠ n0) ∧ p = none ∧ e = 191) ∨
  (h.down = false ∧ (∀ s ∈ ns, nameOk s = true) ∧ ∃ x ∈ L, x.f.name = n0 ∧ p = some ⟨x.b, 0, none⟩ ∧ e = 0)
theorem ptr_info : InfoIs Tryz.prog 117 1 8 (.pointer none) := .of (by kernel_rfl) (by kernel_rfl) (by kernel_rfl)
theorem look_ok {w : World} {d r : Nat} {h : Hd} {L : List PF} (H : DR w d r h L) (name : ByteArray) :
    (∃ x ∈ L, x.f.name = name ∧ (Instr.lookup 97 (.map (some r)) (.string name) false).run Tryz.prog w = .ok (.pointer (some ⟨x.b, 0, none⟩)) w ∧
      (Instr.lookup 97 (.map (some r)) (.string name) true).run Tryz.prog w = .ok (.tuple #[.pointer (some ⟨x.b, 0, none⟩), .bool true]) w) ∨
    ((∀ x ∈ L, x.f.name ≠ name) ∧ (Instr.lookup 97 (.map (some r)) (.string name) true).run Tryz.prog w = .ok (.tuple #[.pointer none, .bool false]) w) := by
  obtain ⟨m, hm, hp⟩ := H.map
  rcases lookup_run (t := 97) Tryz.underlying97 Tryz.underlying9 (ptr_info.zero w) hm (k := .string name) trivial with ⟨v, hv, h1, h2⟩ | ⟨h1, _, h2⟩
  · left
    obtain ⟨x, hx, he⟩ := List.mem_map.1 (hp.mem_iff.1 hv)
    simp only [PF.pair, Prod.mk.injEq, Value.string.injEq] at he
    obtain ⟨he, rfl⟩ := he
    exact ⟨x, hx, he, h1, h2⟩
  · exact .inr ⟨fun x hx he => h1 x.pair (hp.mem_iff.2 (List.mem_map.2 ⟨x, hx, rfl⟩)) (by simp [PF.pair, he]), h2⟩
theorem of_ok {w : World} {d r : Nat} {h : Hd} {L : List PF} {K : Value → World → Prop} (H : DR w d r h L) {ns : List ByteArray} {n0 : ByteArray} {rest : List ByteArray} (hns : ns = n0 :: rest) {p : Option Addr} {c : Nat}
    (hp : Rd w p ns.length 1 (ns.map .string)) (hl : ∀ s ∈ ns, s.size ≤ 9223372036854775807) (hnl : ns.length ≤ 2 ^ 40)
    (hk : ∀ q e w', Ch (fun _ => False) w w' → w'.heap.size = w.heap.size → ofR h L ns n0 q e → K (.tuple #[.pointer q, .int .i64 e]) w') : callP Tryz.prog 57 [.pointer (some ⟨d, 0, none⟩), .slice p ns.length c] w K := by
  refine ok_disk_Disk_of ?_
  unfold wp_disk_Disk_of
  simp only [nn_some, add_at]
  have cellN : ∀ i (s : ByteArray), ns[i]? = some s → ∃ b o, p = some ⟨b, o, none⟩ ∧ w.cell? ⟨b, o + i, none⟩ = some (.string s) := fun i s hi => by
    have hil : i < ns.length := (List.getElem?_eq_some_iff.1 hi).1
    obtain ⟨b, o, h1, h2⟩ := hp.cell (i := i) (by omega)
    exact ⟨b, o, h1, by rw [h2, List.getElem?_map, hi]; rfl⟩
  refine ⟨h.down, H.cell 5, Sif_cases (fun hd => hk _ _ w (Ch.refl _ _) rfl (.inl ⟨hd, rfl, rfl⟩)) fun hd => ?_⟩
  refine ⟨fun m n w' => w' = w ∧ 0 ≤ n ∧ n ≤ ns.length ∧ m = ns.length - n.toNat ∧ ∀ i s, i < n.toNat → ns[i]? = some s → nameOk s = true, ⟨ns.length, rfl, by omega, by omega, by simp, fun i _ hi => by simp at hi⟩, ?_⟩
  rintro m n w1 ⟨rfl, h0, h1, hm, hall⟩
  refine Sif_cases (fun hn => ?_) fun hn => ?_
  · have hn' : n < ns.length := by simpa using hn
    obtain ⟨s, hs⟩ : ∃ s, ns[n.toNat]? = some s := ⟨ns[n.toNat]'(by omega), List.getElem?_eq_getElem (by omega)⟩
    have hsm : s ∈ ns := List.mem_of_getElem? hs
    obtain ⟨b, o, rfl, hc⟩ := cellN n.toNat s hs
    simp only [nn_some, add_at, Nat.mul_one]
    refine ⟨h0, hn', s, hc, isName_ok (hl s hsm) ⟨_, rfl, Sif_cases (fun hb => ?_) fun hb => ?_⟩⟩
    · exact hk _ _ _ (Ch.refl _ _) rfl (.inr (.inl ⟨hd, ⟨s, hsm, by simpa using hb⟩, rfl, rfl⟩))
    · have hwrap : IntKind.wrap .i64 (n + 1) = n + 1 := wrap_id (by omega) (by omega)
      refine ⟨m - 1, by omega, rfl, by rw [hwrap]; omega, by rw [hwrap]; omega, by rw [hwrap]; omega, fun i s' hi hs' => ?_⟩
      rw [hwrap] at hi
      by_cases hin : i < n.toNat
      · exact hall i s' hin hs'
      · have : i = n.toNat := by omega
        subst this
        rw [hs] at hs'; cases hs'
        simpa using hb
  · have hn' : ¬ n < ns.length := by simpa using hn
    have hok : ∀ s ∈ ns, nameOk s = true := fun s hs => by
      obtain ⟨i, hi⟩ := List.getElem?_of_mem hs
      have hil : i < ns.length := (List.getElem?_eq_some_iff.1 hi).1
      exact hall i s (by omega) hi
    have hpos : 0 < ns.length := by rw [hns]; simp
    obtain ⟨b, o, rfl, hc⟩ := cellN 0 n0 (by rw [hns]; rfl)
    simp only [nn_some, add_at, World.cell?_drew]
    refine ⟨by omega, by omega, some r, H.cell 4, n0, hc, ?_⟩
    have Hd' : DR w1.drew d r h L := H.ch0 (Ch.drew w1)
    rcases look_ok Hd' n0 with ⟨x, hx, he, _, h2⟩ | ⟨hx, h2⟩
    · exact ⟨_, true, h2, Sif_false (hk _ _ _ (Ch.drew w1) rfl (.inr (.inr (.inr ⟨hd, hok, x, hx, he, rfl, rfl⟩))))⟩
    · exact ⟨_, false, h2, Sif_true (hk _ _ _ (Ch.drew w1) rfl (.inr (.inr (.inl ⟨hd, hok, hx, rfl, rfl⟩))))⟩
end Go.Proofs.YtipololccbdojaaGreatDoor
namespace Go.Proofs.YtipololccbdojaaGreatDoor
open Go Go.Sv Go.MapKept
set_option linter.unusedVariables false

theorem Ow.lt' {w : World} {p : Option Addr} {n c sz : Nat} {xs : List Value} {b : Option Nat} (h : Ow w p n c sz xs b) : ∀ k, b = some k → k < w.heap.size := by
  intro k hk; subst hk; exact h.lt
/-- one file is put in another's place in memory -/
theorem DR.repl {w w' : World} {d r : Nat} {h : Hd} {x y : PF} {R : List PF} (H : DR w d r h (x :: R)) (hb : y.b = x.b) (hn : y.f.name = x.f.name) (hg : y.good w') (hc : Ch (fun k => k ∈ x.bl) w w')
    (hnew : ∀ k, y.own = some k → x.own = some k ∨ w.heap.size ≤ k) : DR w' d r h (y :: R) := by
  have hnd := H.nodup
  have hlt := H.lt
  have hxr : ∀ k, k ∈ x.bl → k ≠ d ∧ k ≠ r ∧ ∀ z ∈ R, k ∉ z.bl := by
    intro k hk
    simp only [blocks, List.flatMap_cons] at hnd
    obtain ⟨n1, n2⟩ := List.nodup_cons.1 hnd
    obtain ⟨n3, n4⟩ := List.nodup_cons.1 n2
    obtain ⟨n5, n6, n7⟩ := List.nodup_append.1 n4
    refine ⟨fun e => n1 (by rw [← e]; simp [hk]), fun e => n3 (by rw [← e]; simp [hk]), fun z hz hkz => n7 k hk k (List.mem_flatMap.2 ⟨z, hz, hkz⟩) rfl⟩
  refine ⟨?_, ?_, ?_, ?_⟩
  · rw [hc.blk (blk_lt H.head) fun e => (hxr d e).1 rfl]; exact H.head
  · obtain ⟨m, hm, hp⟩ := H.map
    refine ⟨m, hm.ch hc fun e => (hxr r e).2.1 rfl, ?_⟩
    have : (y :: R).map PF.pair = (x :: R).map PF.pair := by simp [PF.pair, hb, hn]
    rw [this]; exact hp
  · intro z hz
    rcases List.mem_cons.1 hz with rfl | hz
    · exact hg
    · exact (H.files z (List.mem_cons_of_mem _ hz)).ch hc fun k hk hkx => (hxr k hkx).2.2 z hz hk
  · simp only [blocks, List.flatMap_cons] at hnd ⊢
    obtain ⟨n1, n2⟩ := List.nodup_cons.1 hnd
    obtain ⟨n3, n4⟩ := List.nodup_cons.1 n2
    obtain ⟨n5, n6, n7⟩ := List.nodup_append.1 n4
    have old : ∀ k ∈ y.bl, k ∈ x.bl ∨ w.heap.size ≤ k := by
      intro k hk
      simp only [PF.bl, List.mem_cons, Option.mem_toList, Option.mem_def] at hk ⊢
      rcases hk with rfl | hk
      · exact .inl (.inl hb)
      · exact (hnew k hk).imp .inr id
    have hd : d < w.heap.size := blk_lt H.head
    have hr : r < w.heap.size := hlt r (by simp [blocks])
    have hR : ∀ k ∈ R.flatMap PF.bl, k < w.heap.size := fun k hk => hlt k (by simp only [blocks, List.flatMap_cons]; simp; exact .inr (.inr (.inr (by simpa [List.mem_flatMap] using hk))))
    have hyn : y.bl.Nodup := by
      have hxb : x.b < w.heap.size := hlt x.b (mem_blocks.2 (.inr (.inr ⟨x, by simp, by simp [PF.bl]⟩)))
      simp only [PF.bl]
      cases ho : y.own with
      | none => simp
      | some k =>
        simp only [Option.toList_some, List.nodup_cons, List.mem_singleton, List.not_mem_nil, not_false_eq_true, List.nodup_nil, and_true, hb]
        intro e
        rcases hnew k ho with h1 | h1
        · simp [PF.bl, h1] at n5; exact n5 e
        · omega
    refine List.nodup_cons.2 ⟨?_, List.nodup_cons.2 ⟨?_, List.nodup_append.2 ⟨hyn, n6, ?_⟩⟩⟩
    · intro hm
      rcases List.mem_cons.1 hm with e | hm
      · exact n1 (by rw [e]; simp)
      rcases List.mem_append.1 hm with hm | hm
      · rcases old d hm with hm | hm
        · exact (hxr d hm).1 rfl
        · omega
      · exact n1 (by simp only [List.mem_cons, List.mem_append]; exact .inr (.inr hm))
    · intro hm
      rcases List.mem_append.1 hm with hm | hm
      · rcases old r hm with hm | hm
        · exact (hxr r hm).2.1 rfl
        · omega
      · exact n3 (List.mem_append.2 (.inr hm))
    · intro k hk j hj e
      subst e
      rcases old k hk with hk | hk
      · exact n7 k hk k hj rfl
      · have := hR k hj; omega

def nCut (f : File) (keep : Int) : Nat := min f.dat.length (f.safe + min keep.toNat f.dat.length)
def cutF (keep : Int) (f : File) : File := { f with dat := f.dat.take (nCut f keep), safe := nCut f keep }
theorem nCut_le (f : File) (keep : Int) : nCut f keep ≤ f.dat.length := Nat.min_le_left _ _
def total (L : List File) : Nat := (L.map fun f => f.dat.length).sum
theorem total_cons (f : File) (L : List File) : total (f :: L) = f.dat.length + total L := by simp [total]
theorem total_perm {L L' : List File} (h : L.Perm L') : total L = total L' := (h.map _).sum_nat
theorem dat_le_total {L : List File} {f : File} (h : f ∈ L) : f.dat.length ≤ total L := by
  induction L with
  | nil => cases h
  | cons g L ih =>
    rw [total_cons]
    rcases List.mem_cons.1 h with rfl | h
    · omega
    · have := ih h; omega
theorem Rd.take {w : World} {p : Option Addr} {n : Nat} {l : List UInt8} (h : Rd w p n 1 (bytesV l)) {k : Nat} (hk : k ≤ n) : Rd w p k 1 (bytesV (l.take k)) := by
  obtain ⟨h1, h2⟩ := h
  have hl : l.length = n := by simpa using h1
  refine ⟨by simp; omega, ?_⟩
  rcases h2 with h2 | ⟨b, o, cs, hp, hc, hle, ht⟩
  · left; omega
  · right
    refine ⟨b, o, cs, hp, hc, by omega, ?_⟩
    rw [bytesV_take, ← ht, List.take_take, Nat.mul_one, Nat.mul_one, Nat.min_eq_left hk]
set_option maxHeartbeats 1000000 in
theorem fall_ok {w : World} {d r : Nat} {h : Hd} {L : List PF} {keep : Int} {K : Value → World → Prop} (H : DR w d r h L) (wf : ∀ x ∈ L, x.f.safe ≤ x.f.dat.length) (ht : total (L.map (·.f)) ≤ 2 ^ 40)
    (hk : ∀ L' w', DR w' d r { h with used := total (L'.map (·.f)), down := true, acts := -1 } L' → (L'.map (·.f)).Perm ((L.map (·.f)).map (cutF keep)) → Ch (· ∈ blocks d r L) w w' →
      (∀ b ∈ blocks d r L', b ∈ blocks d r L ∨ w.heap.size ≤ b) → K (.tuple #[]) w') :
    callP Tryz.prog 62 [.pointer (some ⟨d, 0, none⟩), .int .i64 keep] w K := by
  refine ok_disk_Disk_fall ?_
  unfold wp_disk_Disk_fall
  simp only [nn_some, add_at]
  refine H.st (h' := { h with used := 0 }) (by omega) rfl fun w1 H1 c1 z1 => ⟨some r, H1.cell 4, ?_⟩
  obtain ⟨m0, hm0, hp0⟩ := H1.map
  obtain ⟨w2, hr2, hit2, c2, z2⟩ := range_run (t := 97) Tryz.underlying97 hm0
  refine ⟨some ⟨w1.heap.size, 0, none⟩, w2, hr2, ?_⟩
  have hdL : ∀ b, b = d → b ∈ blocks d r L := fun b e => by simp [blocks, e]
  refine ⟨fun m w3 => ∃ (D T : List PF) (D0 : List File) (left : List (Value × Value)), m = left.length ∧ It .string w3 w1.heap.size r m0 left ∧ left.Perm (T.map PF.pair) ∧ DR w3 d r { h with used := total (D.map (·.f)) } (D ++ T) ∧
    (L.map (·.f)).Perm (D0 ++ T.map (·.f)) ∧ D.map (·.f) = D0.map (cutF keep) ∧ total (D.map (·.f)) + total (T.map (·.f)) ≤ total (L.map (·.f)) ∧ (∀ b ∈ blocks d r (D ++ T), b ∈ blocks d r L ∨ (w.heap.size ≤ b ∧ b ≠ w1.heap.size)) ∧ Ch (· ∈ blocks d r L) w w3, ?_, ?_⟩
  · exact ⟨_, [], L, [], m0, rfl, hit2, hp0, H1.ch0 c2, by simp, rfl, by simp [total], fun b hb => .inl hb, (c1.mono fun x _ hx => hdL x hx).trans c2 fun _ _ hx => hx.elim⟩
  rintro m w3 ⟨D, T, D0, left, hm, hit, hleft, H3, hL, hD, htot, hbl, c3⟩
  have hw13 : w1.heap.size < w3.heap.size := hit.lt
  rcases next_run (P := Tryz.prog) (ty := 0) hit with ⟨he, hn⟩ | ⟨k, v, l1, l2, w4, he, _, hn, hent, hit4, c4, z4⟩
  · left
    refine ⟨w3, hn, ?_⟩
    have hT : T = [] := by
      subst he
      have := hleft.length_eq
      simpa using this.symm
    subst hT
    simp only [List.append_nil] at H3 hbl
    refine H3.st (h' := { h with used := total (D.map (·.f)), down := true }) (by omega) rfl fun w5 H5 c5 z5 => ?_
    refine H5.st (h' := { h with used := total (D.map (·.f)), down := true, acts := -1 }) (by omega) rfl fun w6 H6 c6 z6 => ?_
    refine hk D w6 H6 ?_ ((c3.trans c5 fun x _ hx => hdL x hx).trans c6 fun x _ hx => hdL x hx) fun b hb => (hbl b hb).imp id (·.1)
    rw [hD]
    have h9 := (hL.map (cutF keep)).symm
    simpa using h9
  · right
    -- the pair that comes out is some file's
    have hmem : (k, v) ∈ T.map PF.pair := hleft.mem_iff.1 (by rw [he]; simp)
    obtain ⟨x, hx, hxp⟩ := List.mem_map.1 hmem
    obtain ⟨t1, t2, rfl⟩ := List.append_of_mem hx
    simp only [PF.pair, Prod.mk.injEq] at hxp
    obtain ⟨rfl, rfl⟩ := hxp
    have hTp : (t1 ++ x :: t2).Perm (x :: (t1 ++ t2)) := List.perm_middle
    have hleft' : (l1 ++ l2).Perm ((t1 ++ t2).map PF.pair) := by
      have h1 : (PF.pair x :: (l1 ++ l2)).Perm (PF.pair x :: (t1 ++ t2).map PF.pair) := by
        refine (List.perm_middle.symm.trans ?_).trans (hTp.map PF.pair)
        have he' : left = l1 ++ x.pair :: l2 := he
        rw [← he']; exact hleft
      exact h1.cons_inv
    have H3' : DR w3 d r { h with used := total (D.map (·.f)) } (x :: (D ++ (t1 ++ t2))) := H3.perm (by
      refine (List.Perm.append_left D hTp).trans List.perm_middle)
    have hnit : w1.heap.size ∉ blocks d r (x :: (D ++ (t1 ++ t2))) := fun hb => by
      have hb' : w1.heap.size ∈ blocks d r (D ++ (t1 ++ x :: t2)) := by
        rcases mem_blocks.1 hb with e | e | ⟨y, hy, hyb⟩
        · exact mem_blocks.2 (.inl e)
        · exact mem_blocks.2 (.inr (.inl e))
        · exact mem_blocks.2 (.inr (.inr ⟨y, by simp at hy ⊢; rcases hy with hy | hy | hy | hy <;> simp [hy], hyb⟩))
      rcases hbl _ hb' with hb | hb
      · have := H.lt _ hb; omega
      · exact hb.2 rfl
    have H4 : DR w4 d r { h with used := total (D.map (·.f)) } (x :: (D ++ (t1 ++ t2))) := H3'.ch c4 fun b hb e => hnit (e ▸ hb)
    have H4' : DR w4.drew d r { h with used := total (D.map (·.f)) } (x :: (D ++ (t1 ++ t2))) := H4.ch0 (Ch.drew w4)
    refine ⟨.string x.f.name, .pointer (some ⟨x.b, 0, none⟩), w4, hn, .string x.f.name, .pointer (some ⟨x.b, 0, none⟩), hent, ?_⟩
    unfold asPtrV
    have hg := H4'.files x (by simp)
    have hxf : x.f ∈ L.map (·.f) := hL.mem_iff.2 (by simp)
    have hsafe : x.f.safe ≤ x.f.dat.length := by
      obtain ⟨y, hy, hyf⟩ := List.mem_map.1 hxf
      rw [← hyf]; exact wf y hy
    have hdl := dat_le_total hxf
    have hcut := nCut_le x.f keep
    have htT : total ((t1 ++ x :: t2).map (·.f)) = x.f.dat.length + total ((t1 ++ t2).map (·.f)) := by
      rw [total_perm (hTp.map _), List.map_cons, total_cons]
    have hmin : min (x.f.dat.length : Int) (IntKind.wrap .i64 ((x.f.safe : Int) + min (max keep 0) (x.f.dat.length : Int))) = (nCut x.f keep : Int) := by
      have e1 : min (max keep 0) (x.f.dat.length : Int) = ((min keep.toNat x.f.dat.length : Nat) : Int) := by omega
      rw [e1, wrap_id (by omega) (by omega)]
      unfold nCut; omega
    simp only [nn_some, add_at]
    refine ⟨x.p, x.f.dat.length, x.c, by rw [cell_blk hg.1]; rfl, x.f.safe, by rw [cell_blk hg.1]; rfl, x.p, x.f.dat.length, x.c, by rw [cell_blk hg.1]; rfl, ?_⟩
    rw [nameI_iff, hmin]
    refine ⟨x.p, x.f.dat.length, x.c, by rw [cell_blk hg.1]; rfl, by omega, by have := hg.2.2.1; omega, ?_⟩
    rw [Int.toNat_natCast]
    refine clone_ok (Rd.take hg.2.rd hcut) (by omega) fun p5 c5 w5 b5 ho5 hb5 cc5 => ?_
    refine ⟨p5, nCut x.f keep, c5, rfl, ?_⟩
    have hg5 : blk w5 x.b = some [.slice x.p x.f.dat.length x.c, .int .i64 x.f.safe] := by rw [cc5.blk (blk_lt hg.1) id]; exact hg.1
    have hxlt : x.b < w4.drew.heap.size := blk_lt hg.1
    refine st_blk hg5 (by simp) fun w6 hb6 c6 z6 => ?_
    refine st_blk hb6 (by simp) fun w7 hb7 c7 z7 => ?_
    have hone : ∀ k, b5 = some k → k ≠ x.b := fun k hk e => by have := hb5 k hk; omega
    have H7 : DR w7 d r { h with used := total (D.map (·.f)) } ({ f := cutF keep x.f, b := x.b, p := p5, c := c5, own := b5 } :: (D ++ (t1 ++ t2))) := by
      refine H4'.repl rfl rfl ⟨?_, ?_⟩ ?_ fun k hk => .inr (hb5 k hk)
      · rw [hb7]
        have e1 : (cutF keep x.f).dat.length = nCut x.f keep := by simp [cutF]; omega
        show some _ = some [Value.slice p5 (cutF keep x.f).dat.length c5, .int .i64 (nCut x.f keep)]
        rw [e1]; rfl
      · have e1 : (cutF keep x.f).dat.length = nCut x.f keep := by simp [cutF]; omega
        show Ow w7 p5 (cutF keep x.f).dat.length c5 1 (bytesV (x.f.dat.take (nCut x.f keep))) b5
        rw [e1]
        exact (ho5.ch c6 hone).ch c7 hone
      · exact ((cc5.mono fun _ _ h => h.elim).trans c6 fun k _ hk => by simp [PF.bl, hk]).trans c7 fun k _ hk => by simp [PF.bl, hk]
    refine ⟨_, H7.cell 3, ?_⟩
    have hu : IntKind.wrap .i64 ((total (D.map (·.f)) : Int) + (nCut x.f keep : Int)) = ((total (D.map (·.f)) + nCut x.f keep : Nat) : Int) := by
      rw [wrap_id (by omega) (by omega)]; omega
    have e2 : total ((({ f := cutF keep x.f, b := x.b, p := p5, c := c5, own := b5 } : PF) :: D).map (·.f)) = total (D.map (·.f)) + nCut x.f keep := by
      rw [List.map_cons, total_cons]
      have e1 : (cutF keep x.f).dat.length = nCut x.f keep := by simp [cutF]; omega
      show (cutF keep x.f).dat.length + _ = _
      rw [e1]; omega
    refine H7.st (h' := { h with used := total ((({ f := cutF keep x.f, b := x.b, p := p5, c := c5, own := b5 } : PF) :: D).map (·.f)) }) (by omega) (by rw [hu, e2]; rfl) fun w8 H8 c8 z8 => ?_
    have hs4 : w3.heap.size ≤ w4.drew.heap.size := c4.size
    have hw4 : w.heap.size ≤ w4.drew.heap.size := Nat.le_trans c3.size hs4
    have hd48 : Ch (fun k => k ∈ x.bl ∨ k = d) w4.drew w8 := by
      refine (((cc5.mono fun _ _ h => h.elim).trans c6 fun k _ hk => .inl (by simp [PF.bl, hk])).trans c7 fun k _ hk => .inl (by simp [PF.bl, hk])).trans c8 fun k _ hk => .inr hk
    have hbx : ∀ k, k ∈ x.bl ∨ k = d → k ∈ blocks d r L ∨ (w.heap.size ≤ k ∧ k ≠ w1.heap.size) := by
      rintro k (hk | rfl)
      · exact hbl k (mem_blocks.2 (.inr (.inr ⟨x, by simp, hk⟩)))
      · exact .inl (by simp [blocks])
    refine ⟨(l1 ++ l2).length, by rw [hm, he]; simp, ({ f := cutF keep x.f, b := x.b, p := p5, c := c5, own := b5 } : PF) :: D, t1 ++ t2, x.f :: D0, l1 ++ l2, rfl, ?_, hleft', H8, ?_, ?_, ?_, ?_, ?_⟩
    · refine ((It_drew _ _ _ _ _ _).2 hit4).ch hd48 (fun hk => ?_) fun hk => ?_
      · rcases hk with hk | hk
        · exact hnit (mem_blocks.2 (.inr (.inr ⟨x, by simp, hk⟩)))
        · exact hnit (mem_blocks.2 (.inl hk))
      · have hnd := H4.nodup
        simp only [blocks, List.flatMap_cons] at hnd
        obtain ⟨n1, n2⟩ := List.nodup_cons.1 hnd
        obtain ⟨n3, _⟩ := List.nodup_cons.1 n2
        rcases hk with hk | hk
        · exact n3 (List.mem_append.2 (.inl hk))
        · exact n1 (by rw [← hk]; simp)
    · refine hL.trans ?_
      rw [List.map_append, List.map_cons, List.map_append, List.cons_append]
      exact (List.Perm.append_left D0 List.perm_middle).trans List.perm_middle
    · rw [List.map_cons, List.map_cons, hD]
    · rw [e2]; rw [htT] at htot; omega
    · intro b hb
      rcases mem_blocks.1 hb with e | e | ⟨y, hy, hyb⟩
      · exact .inl (by simp [blocks, e])
      · exact .inl (by simp [blocks, e])
      · simp only [List.cons_append, List.mem_cons] at hy
        rcases hy with rfl | hy
        · simp only [PF.bl, List.mem_cons, Option.mem_toList, Option.mem_def] at hyb
          rcases hyb with rfl | hyb
          · exact hbx x.b (.inl (by simp [PF.bl]))
          · have := hb5 b hyb
            right
            have : w4.drew.heap.size = w4.heap.size := rfl
            omega
        · exact hbl b (mem_blocks.2 (.inr (.inr ⟨y, by simp at hy ⊢; rcases hy with hy | hy | hy <;> simp [hy], hyb⟩)))
    · refine ((c3.trans c4 fun k hk e => ?_).trans' (Ch.drew w4)).trans hd48 fun k hk hS => ?_
      · exfalso
        have h1 : w.heap.size ≤ w1.heap.size := c1.size
        omega
      · rcases hbx k hS with h1 | h1
        · exact h1
        · omega
end Go.Proofs.YtipololccbdojaaGreatDoor
namespace Go.Proofs.YtipololccbdojaaGreatDoor
open Go Go.Sv Go.MapKept
set_option linter.unusedVariables false
set_option maxRecDepth 4000

theorem DR.lock {w : World} {d r : Nat} {h : Hd} {L : List PF} {K : Value → World → Prop} (H : DR w d r h L) (h0 : h.lk = 0)
    (hk : ∀ w', DR w' d r { h with lk := 1 } L → Ch (· = d) w w' → w'.heap.size = w.heap.size → K (.tuple #[]) w') : callP Tryz.prog 55 [.pointer (some ⟨d, 0, none⟩)] w K :=
  lock_ok Tryz.muLib H.head (by simp [Hd.cells, h0]) fun w' hb hc hz => hk w' (H.setHead hc (by rw [hb]; rfl)) hc hz
theorem DR.unlock {w : World} {d r : Nat} {h : Hd} {L : List PF} {K : World → Prop} (H : DR w d r h L) (h0 : h.lk = 1)
    (hk : ∀ w', DR w' d r { h with lk := 0 } L → Ch (· = d) w w' → w'.heap.size = w.heap.size → K w') : callD Tryz.prog 56 [.pointer (some ⟨d, 0, none⟩)] w K :=
  unlock_ok Tryz.muLib H.head (by simp [Hd.cells, h0]) fun w' hb hc hz => hk w' (H.setHead hc (by rw [hb]; rfl)) hc hz
theorem perm_lift {α β : Type} {g : α → β} : ∀ {M : List β} {L : List α}, (L.map g).Perm M → ∃ L', L.Perm L' ∧ L'.map g = M
  | [], L, h => ⟨L, .refl _, by simpa using h.eq_nil⟩
  | m :: M, L, h => by
    obtain ⟨x, hx, rfl⟩ := List.mem_map.1 (h.mem_iff.2 (by simp : m ∈ m :: M))
    obtain ⟨l1, l2, rfl⟩ := List.append_of_mem hx
    have h2 : (g x :: (l1 ++ l2).map g).Perm (g x :: M) := ((List.perm_middle (l₁ := l1) (a := x) (l₂ := l2)).map g).symm.trans h
    obtain ⟨L', h3, h4⟩ := perm_lift h2.cons_inv
    exact ⟨x :: L', List.perm_middle.trans (h3.cons x), by rw [List.map_cons, h4]⟩
/-- a file goes: what is left of the map -/
theorem DR.del {w w' : World} {d r : Nat} {h : Hd} {x : PF} {R : List PF} {m' : List (Value × Value)} (H : DR w d r h (x :: R)) (hm : Mp .string w' r m') (hp : m'.Perm (R.map PF.pair)) (hc : Ch (· = r) w w') : DR w' d r h R := by
  have hnd := H.nodup
  simp only [blocks, List.flatMap_cons] at hnd
  obtain ⟨n1, n2⟩ := List.nodup_cons.1 hnd
  obtain ⟨n3, n4⟩ := List.nodup_cons.1 n2
  obtain ⟨n5, n6, n7⟩ := List.nodup_append.1 n4
  refine ⟨?_, ⟨m', hm, hp⟩, fun z hz => (H.files z (List.mem_cons_of_mem _ hz)).ch hc fun b hb e => n3 ?_, ?_⟩
  · rw [hc.blk (blk_lt H.head) fun e => n1 (by rw [e]; simp)]; exact H.head
  · subst e; exact List.mem_append.2 (.inr (List.mem_flatMap.2 ⟨z, hz, hb⟩))
  · refine List.nodup_cons.2 ⟨fun hm => n1 ?_, List.nodup_cons.2 ⟨fun hm => n3 (List.mem_append.2 (.inr hm)), n6⟩⟩
    rcases List.mem_cons.1 hm with e | hm
    · rw [e]; simp
    · exact List.mem_cons_of_mem _ (List.mem_append.2 (.inr hm))
/-- a file more: its blocks are new -/
theorem DR.ins {w w' : World} {d r : Nat} {h : Hd} {x : PF} {L : List PF} {m' : List (Value × Value)} (H : DR w d r h L) (hm : Mp .string w' r m') (hp : m'.Perm ((x :: L).map PF.pair)) (hc : Ch (· = r) w w') (hg : x.good w')
    (hx : x.bl.Nodup) (hn : ∀ b ∈ x.bl, b ∉ blocks d r L) : DR w' d r h (x :: L) := by
  have hnd := H.nodup
  unfold blocks at hnd
  obtain ⟨n1, n2⟩ := List.nodup_cons.1 hnd
  obtain ⟨n3, n4⟩ := List.nodup_cons.1 n2
  refine ⟨?_, ⟨m', hm, hp⟩, fun z hz => ?_, ?_⟩
  · rw [hc.blk (blk_lt H.head) fun e => n1 (by rw [e]; simp)]; exact H.head
  · rcases List.mem_cons.1 hz with rfl | hz
    · exact hg
    · exact (H.files z hz).ch hc fun b hb e => n3 (by subst e; exact List.mem_flatMap.2 ⟨z, hz, hb⟩)
  · simp only [blocks, List.flatMap_cons]
    refine List.nodup_cons.2 ⟨fun hm => ?_, List.nodup_cons.2 ⟨fun hm => ?_, List.nodup_append.2 ⟨hx, n4, fun a ha b hb e => ?_⟩⟩⟩
    · rcases List.mem_cons.1 hm with e | hm
      · exact n1 (by rw [e]; simp)
      · rcases List.mem_append.1 hm with hm | hm
        · exact hn d hm (by simp [blocks])
        · exact n1 (List.mem_cons_of_mem _ hm)
    · rcases List.mem_append.1 hm with hm | hm
      · exact hn r hm (by simp [blocks])
      · exact n3 hm
    · subst e
      exact hn a ha (by unfold blocks; exact List.mem_cons_of_mem _ (List.mem_cons_of_mem _ hb))
theorem Hd.used_set (h : Hd) (r : Nat) (u : Int) : (h.cells r).set 3 (.int .i64 u) = ({ h with used := u } : Hd).cells r := rfl
/-- taking a file's name out of the map -/
theorem del_ok {w : World} {d r : Nat} {h : Hd} {x : PF} {R : List PF} (H : DR w d r h (x :: R)) {ty : TypeId} : ∃ w', (Builtin.delete_ #[97, 9] ty #[.map (some r), .string x.f.name]).run Tryz.prog w = .ok (.tuple #[]) w' ∧ DR w' d r h R ∧ Ch (· = r) w w' := by
  obtain ⟨m, hm, hp⟩ := H.map
  obtain ⟨w', m', h1, h2, h3, _, h4⟩ := delete_run (ty := ty) Tryz.underlying97 Tryz.underlying9 hm (k := .string x.f.name) trivial
  refine ⟨w', h1, ?_, h3⟩
  rcases h4 with ⟨l1, v0, l2, rfl, rfl⟩ | ⟨h4, _⟩
  · have hpp : ((.string x.f.name, v0) :: (l1 ++ l2)).Perm (x.pair :: R.map PF.pair) := List.perm_middle.symm.trans hp
    have hnd : ((x :: R).map PF.pair |>.map Prod.fst).Nodup := (hp.map Prod.fst).nodup_iff.1 hm.nodup
    have hv : (Value.string x.f.name, v0) = x.pair := by
      rcases List.mem_cons.1 (hpp.mem_iff.1 (List.mem_cons_self ..)) with e | e
      · exact e
      · exfalso
        simp only [List.map_cons] at hnd
        exact (List.nodup_cons.1 hnd).1 (List.mem_map.2 ⟨_, e, rfl⟩)
    rw [hv] at hpp
    exact H.del h2 hpp.cons_inv h3
  · exact absurd rfl (h4 x.pair (hp.mem_iff.2 (by simp)))
/-- of a file that is not there nothing goes -/
theorem del_none {w : World} {d r : Nat} {h : Hd} {L : List PF} (H : DR w d r h L) {name : ByteArray} (hn : ∀ x ∈ L, x.f.name ≠ name) {ty : TypeId} : ∃ w', (Builtin.delete_ #[97, 9] ty #[.map (some r), .string name]).run Tryz.prog w = .ok (.tuple #[]) w' ∧ DR w' d r h L ∧ Ch (· = r) w w' := by
  obtain ⟨m, hm, hp⟩ := H.map
  obtain ⟨w', m', h1, h2, h3, _, h4⟩ := delete_run (ty := ty) Tryz.underlying97 Tryz.underlying9 hm (k := .string name) trivial
  have hnd := H.nodup
  unfold blocks at hnd
  obtain ⟨n1, n2⟩ := List.nodup_cons.1 hnd
  obtain ⟨n3, n4⟩ := List.nodup_cons.1 n2
  refine ⟨w', h1, ⟨?_, ⟨m', h2, ?_⟩, fun z hz => (H.files z hz).ch h3 fun b hb e => n3 (by subst e; exact List.mem_flatMap.2 ⟨z, hz, hb⟩), H.nodup⟩, h3⟩
  · rw [h3.blk (blk_lt H.head) fun e => n1 (by rw [e]; simp)]; exact H.head
  · rcases h4 with ⟨l1, v0, l2, rfl, rfl⟩ | ⟨_, rfl⟩
    · exfalso
      obtain ⟨z, hz, he⟩ := List.mem_map.1 (hp.mem_iff.1 (by simp : (Value.string name, v0) ∈ l1 ++ (.string name, v0) :: l2))
      simp only [PF.pair, Prod.mk.injEq, Value.string.injEq] at he
      exact hn z hz he.1
    · exact hp
theorem gone_ok {w : World} {d r : Nat} {h : Hd} {L : List PF} {name : ByteArray} {K : Value → World → Prop} (H : DR w d r h L) (hu : h.used = total (L.map (·.f))) (ht : total (L.map (·.f)) ≤ 2 ^ 40)
    (hk : ∀ L' w', DR w' d r { h with used := total (L'.map (·.f)) } L' → L'.map (·.f) = (L.map (·.f)).filter (fun f => decide (f.name ≠ name)) → (∀ x ∈ L', x ∈ L) → Ch (fun b => b = d ∨ b = r) w w' → K (.tuple #[]) w') :
    callP Tryz.prog 94 [.pointer (some ⟨d, 0, none⟩), .string name] w K := by
  refine ok_disk_Disk_gone ?_
  unfold wp_disk_Disk_gone
  simp only [nn_some, add_at]
  refine ⟨some r, H.cell 4, ?_⟩
  rcases look_ok H name with ⟨x, hx, hn, _, h2⟩ | ⟨hn, h2⟩
  · refine ⟨_, true, h2, Sif_true ?_⟩
    simp only [nn_some, add_at, World.cell?_drew]
    have hgood := H.files x hx
    obtain ⟨l1, l2, rfl⟩ := List.append_of_mem hx
    have hpm : (l1 ++ x :: l2).Perm (x :: (l1 ++ l2)) := List.perm_middle
    refine ⟨h.used, H.cell 3, x.p, x.f.dat.length, x.c, by rw [cell_blk hgood.1]; rfl, ?_⟩
    have htt : total ((l1 ++ x :: l2).map (·.f)) = x.f.dat.length + total ((l1 ++ l2).map (·.f)) := by rw [total_perm (hpm.map _), List.map_cons, total_cons]
    have hw : IntKind.wrap .i64 (h.used - (x.f.dat.length : Int)) = (total ((l1 ++ l2).map (·.f)) : Int) := by rw [wrap_id (by omega) (by omega)]; omega
    rw [hw]
    refine (H.ch0 (Ch.drew w)).st (h' := { h with used := total ((l1 ++ l2).map (·.f)) }) (by omega) rfl fun w1 H1 c1 z1 => ⟨some r, H1.cell 4, ?_⟩
    obtain ⟨w2, hr, H2, c2⟩ := del_ok (H1.perm hpm) (ty := 0)
    rw [hn] at hr
    have hnames := H.names
    refine ⟨w2, hr, hk (l1 ++ l2) w2 H2 ?_ (fun z hz => by simp at hz ⊢; rcases hz with hz | hz <;> simp [hz]) (((Ch.drew w).trans c1 fun _ _ hx => .inl hx).trans c2 fun _ _ hx => .inr hx)⟩
    have hnm : ∀ z ∈ l1 ++ l2, z.f.name ≠ name := fun z hz e => by
      have h3 : ((x :: (l1 ++ l2)).map fun x => x.f.name).Nodup := (hpm.map _).nodup_iff.1 hnames
      simp only [List.map_cons] at h3
      exact (List.nodup_cons.1 h3).1 (by rw [hn, ← e]; exact List.mem_map.2 ⟨z, hz, rfl⟩)
    rw [List.map_append, List.map_append, List.map_cons, List.filter_append, List.filter_cons]
    simp only [hn, ne_eq, not_true_eq_false, decide_false, Bool.false_eq_true, if_false]
    congr 1
    · rw [List.filter_eq_self.2]
      intro f hf
      obtain ⟨z, hz, rfl⟩ := List.mem_map.1 hf
      simpa using hnm z (by simp [hz])
    · rw [List.filter_eq_self.2]
      intro f hf
      obtain ⟨z, hz, rfl⟩ := List.mem_map.1 hf
      simpa using hnm z (by simp [hz])
  · refine ⟨_, false, h2, Sif_false (hk L w ?_ ?_ (fun _ h => h) (Ch.refl _ _))⟩
    · rw [← hu]; exact H
    · rw [List.filter_eq_self.2]
      intro f hf
      obtain ⟨z, hz, rfl⟩ := List.mem_map.1 hf
      simpa using hn z hz
/-- an act: done, if the power does not fail in it -/
theorem done_ok {w : World} {d r : Nat} {h : Hd} {L : List PF} {what : Value} {K : Value → World → Prop} (H : DR w d r h L) (wf : ∀ x ∈ L, x.f.safe ≤ x.f.dat.length) (ht : total (L.map (·.f)) ≤ 2 ^ 40) (ha : -1 ≤ h.acts) (hb : h.acts ≤ 9223372036854775807)
    (hfall : h.acts = 0 → ∀ L' w', DR w' d r { h with used := total (L'.map (·.f)), down := true, acts := -1 } L' → (L'.map (·.f)).Perm ((L.map (·.f)).map (cutF h.keep)) → Ch (· ∈ blocks d r L) w w' →
      (∀ b ∈ blocks d r L', b ∈ blocks d r L ∨ w.heap.size ≤ b) → K (.int .i64 3) w')
    (hdo : h.acts ≠ 0 → ∀ w', DR w' d r { h with acts := actsN h.acts } L → Ch (· = d) w w' → w'.heap.size = w.heap.size → callV Tryz.prog none what [] w' fun v w2 => v = .tuple #[] ∧ K (.int .i64 0) w2) :
    callP Tryz.prog 92 [.pointer (some ⟨d, 0, none⟩), what] w K := by
  refine ok_disk_Disk_done ?_
  unfold wp_disk_Disk_done
  refine act_ok H ha hb fun w1 H1 c1 z1 => ⟨_, rfl, Sif_cases (fun e => ?_) fun e => ?_⟩
  · have e' : h.acts = 0 := by simpa using e
    simp only [nn_some, add_at]
    refine ⟨_, H1.cell 7, fall_ok H1 wf ht fun L' w2 H2 hp c2 hbl => ⟨rfl, hfall e' L' w2 H2 hp ((c1.mono fun x _ hx => by simp [blocks, hx]).trans c2 fun _ _ hx => hx) fun b hb => (hbl b hb).imp id fun hh => by omega⟩⟩
  · exact hdo (by simpa using e) w1 H1 c1 z1
end Go.Proofs.YtipololccbdojaaGreatDoor
