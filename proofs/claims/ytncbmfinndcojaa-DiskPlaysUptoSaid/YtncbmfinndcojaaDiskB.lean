/-
  The disk in memory: what lies where; the next act, the finding of a file.
-/
import Derived.Test.YtncbmfinndcojaaDiskA
namespace Go.Proofs.Ytncbmfinndcojaa
open Go Go.Sv Go.MapKept
set_option linter.unusedVariables false

structure File where
  name : ByteArray
  dat : List UInt8
  safe : Nat
/-- a file in memory: its block, its bytes' slice, the block of these (none: there is no room) -/
structure PF where
  f : File
  b : Nat
  p : Option Addr
  c : Nat
  own : Option Nat
def PF.bl (x : PF) : List Nat := x.b :: x.own.toList
def PF.good (w : World) (x : PF) : Prop := blk w x.b = some [.slice x.p x.f.dat.length x.c, .int .i64 x.f.safe] ∧ Ow w x.p x.f.dat.length x.c 1 (bytesV x.f.dat) x.own
def PF.pair (x : PF) : Value × Value := (.string x.f.name, .pointer (some ⟨x.b, 0, none⟩))
structure Hd where
  lk : Int
  room : Int
  used : Int
  down : Bool
  acts : Int
  keep : Int
def Hd.cells (r : Nat) (h : Hd) : List Value := [.int .i32 h.lk, .int .u32 0, .int .i64 h.room, .int .i64 h.used, .map (some r), .bool h.down, .int .i64 h.acts, .int .i64 h.keep]
def blocks (d r : Nat) (L : List PF) : List Nat := d :: r :: L.flatMap PF.bl
structure DR (w : World) (d r : Nat) (h : Hd) (L : List PF) : Prop where
  head : blk w d = some (h.cells r)
  map : ∃ m, Mp .string w r m ∧ m.Perm (L.map PF.pair)
  files : ∀ x ∈ L, x.good w
  nodup : (blocks d r L).Nodup
theorem PF.good.lt {w : World} {x : PF} (h : x.good w) : ∀ b ∈ x.bl, b < w.heap.size := by
  intro b hb
  simp only [PF.bl, List.mem_cons, Option.mem_toList, Option.mem_def] at hb
  rcases hb with rfl | hb
  · exact blk_lt h.1
  · have := h.2; rw [hb] at this; exact this.lt
theorem PF.good.ch {S : Nat → Prop} {w w' : World} {x : PF} (h : x.good w) (hc : Ch S w w') (hn : ∀ b ∈ x.bl, ¬ S b) : x.good w' := by
  refine ⟨by rw [hc.blk (blk_lt h.1) (hn _ (by simp [PF.bl]))]; exact h.1, h.2.ch hc fun k hk => hn k (by simp [PF.bl, hk])⟩
theorem mem_blocks {d r : Nat} {L : List PF} {b : Nat} : b ∈ blocks d r L ↔ b = d ∨ b = r ∨ ∃ x ∈ L, b ∈ x.bl := by
  simp [blocks, List.mem_flatMap]
theorem DR.lt {w : World} {d r : Nat} {h : Hd} {L : List PF} (H : DR w d r h L) : ∀ b ∈ blocks d r L, b < w.heap.size := by
  intro b hb
  rcases mem_blocks.1 hb with rfl | rfl | ⟨x, hx, hb⟩
  · exact blk_lt H.head
  · obtain ⟨m, hm, _⟩ := H.map; exact hm.lt
  · exact (H.files x hx).lt b hb
theorem DR.ch {S : Nat → Prop} {w w' : World} {d r : Nat} {h : Hd} {L : List PF} (H : DR w d r h L) (hc : Ch S w w') (hn : ∀ b ∈ blocks d r L, ¬ S b) : DR w' d r h L := by
  refine ⟨by rw [hc.blk (blk_lt H.head) (hn _ (by simp [blocks]))]; exact H.head, ?_, fun x hx => (H.files x hx).ch hc fun b hb => hn b (mem_blocks.2 (.inr (.inr ⟨x, hx, hb⟩))), H.nodup⟩
  obtain ⟨m, hm, hp⟩ := H.map
  exact ⟨m, hm.ch hc (hn _ (by simp [blocks])), hp⟩
theorem DR.ch0 {w w' : World} {d r : Nat} {h : Hd} {L : List PF} (H : DR w d r h L) (hc : Ch (fun _ => False) w w') : DR w' d r h L := H.ch hc fun _ _ => id
theorem DR.setHead {w w' : World} {d r : Nat} {h h' : Hd} {L : List PF} (H : DR w d r h L) (hc : Ch (· = d) w w') (hb : blk w' d = some (h'.cells r)) : DR w' d r h' L := by
  have hnd := H.nodup
  unfold blocks at hnd
  obtain ⟨n1, n2⟩ := List.nodup_cons.1 hnd
  refine ⟨hb, ?_, fun x hx => (H.files x hx).ch hc fun b hm e => n1 (e ▸ List.mem_cons_of_mem _ (List.mem_flatMap.2 ⟨x, hx, hm⟩)), H.nodup⟩
  obtain ⟨m, hm, hp⟩ := H.map
  exact ⟨m, hm.ch hc fun e => n1 (by rw [e]; simp), hp⟩
theorem DR.perm {w : World} {d r : Nat} {h : Hd} {L L' : List PF} (H : DR w d r h L) (hp : L.Perm L') : DR w d r h L' := by
  refine ⟨H.head, ?_, fun x hx => H.files x (hp.mem_iff.2 hx), ?_⟩
  · obtain ⟨m, hm, hq⟩ := H.map
    exact ⟨m, hm, hq.trans (hp.map _)⟩
  · exact (List.Perm.cons d (List.Perm.cons r (hp.flatMap_right _))).nodup_iff.1 H.nodup
theorem DR.names {w : World} {d r : Nat} {h : Hd} {L : List PF} (H : DR w d r h L) : (L.map fun x => x.f.name).Nodup := by
  obtain ⟨m, hm, hp⟩ := H.map
  have h1 := (hp.map Prod.fst).nodup_iff.1 hm.nodup
  rw [List.map_map] at h1
  have h2 : L.map (Prod.fst ∘ PF.pair) = (L.map fun x => x.f.name).map Value.string := by rw [List.map_map]; rfl
  rw [h2] at h1
  exact List.Pairwise.of_map Value.string (fun a b hab e => hab (by rw [e])) h1
theorem DR.cell {w : World} {d r : Nat} {h : Hd} {L : List PF} (H : DR w d r h L) (i : Nat) : w.cell? ⟨d, i, none⟩ = (h.cells r)[i]? := cell_blk H.head i
/-- a store into the disk's own block -/
theorem DR.st {w : World} {d r : Nat} {h h' : Hd} {L : List PF} (H : DR w d r h L) {o : Nat} {v : Value} {K : World → Prop} (ho : o < 8) (he : (h.cells r).set o v = h'.cells r)
    (hk : ∀ w', DR w' d r h' L → Ch (· = d) w w' → w'.heap.size = w.heap.size → K w') : Sv.st w ⟨d, o, none⟩ v K :=
  st_blk H.head (by simpa [Hd.cells] using ho) fun w' hb hc hz => hk w' (H.setHead hc (by rw [hb, he])) hc hz

/-! ### The next act -/
def actsN (a : Int) : Int := if a = 0 then 0 else max (a - 1) (-1)
theorem act_ok {w : World} {d r : Nat} {h : Hd} {L : List PF} {K : Value → World → Prop} (H : DR w d r h L) (ha : -1 ≤ h.acts) (hb : h.acts ≤ 9223372036854775807)
    (hk : ∀ w', DR w' d r { h with acts := actsN h.acts } L → Ch (· = d) w w' → w'.heap.size = w.heap.size → K (.bool (h.acts == 0)) w') : callP Try.prog 55 [.pointer (some ⟨d, 0, none⟩)] w K := by
  refine ok_disk_Disk_act ?_
  unfold wp_disk_Disk_act
  simp only [nn_some, add_at]
  refine ⟨h.acts, H.cell 6, Sif_cases (fun e => ?_) fun e => ⟨h.acts, H.cell 6, ?_⟩⟩
  · have e' : h.acts = 0 := by simpa using e
    have := hk w (by
      have : ({ h with acts := actsN h.acts } : Hd) = h := by cases h; simp only at e'; subst e'; rfl
      rw [this]; exact H) (Ch.refl _ _) rfl
    rw [e] at this; exact this
  · have e' : ¬ h.acts = 0 := by simpa using e
    refine H.st (h' := { h with acts := actsN h.acts }) (by omega) ?_ fun w' h1 h2 h3 => ?_
    · rw [wrap_id (by omega) (by omega)]; simp [Hd.cells, actsN, e']
    · have := hk w' h1 h2 h3
      rw [e] at this; exact this

/-! ### Finding -/
def ofR (h : Hd) (L : List PF) (ns : List ByteArray) (n0 : ByteArray) (p : Option Addr) (e : Int) : Prop :=
  (h.down = true ∧ p = none ∧ e = 3) ∨ (h.down = false ∧ (∃ s ∈ ns, nameOk s = false) ∧ p = none ∧ e = 1) ∨
  (h.down = false ∧ (∀ s ∈ ns, nameOk s = true) ∧ (∀ x ∈ L, x.f.name ≠ n0) ∧ p = none ∧ e = 191) ∨
  (h.down = false ∧ (∀ s ∈ ns, nameOk s = true) ∧ ∃ x ∈ L, x.f.name = n0 ∧ p = some ⟨x.b, 0, none⟩ ∧ e = 0)
theorem ptr_info : InfoIs Try.prog 80 1 8 (.pointer none) := .of (by kernel_rfl) (by kernel_rfl) (by kernel_rfl)
theorem look_ok {w : World} {d r : Nat} {h : Hd} {L : List PF} (H : DR w d r h L) (name : ByteArray) :
    (∃ x ∈ L, x.f.name = name ∧ (Instr.lookup 66 (.map (some r)) (.string name) false).run Try.prog w = .ok (.pointer (some ⟨x.b, 0, none⟩)) w ∧
      (Instr.lookup 66 (.map (some r)) (.string name) true).run Try.prog w = .ok (.tuple #[.pointer (some ⟨x.b, 0, none⟩), .bool true]) w) ∨
    ((∀ x ∈ L, x.f.name ≠ name) ∧ (Instr.lookup 66 (.map (some r)) (.string name) true).run Try.prog w = .ok (.tuple #[.pointer none, .bool false]) w) := by
  obtain ⟨m, hm, hp⟩ := H.map
  rcases lookup_run (t := 66) Try.underlying66 Try.underlying9 (ptr_info.zero w) hm (k := .string name) trivial with ⟨v, hv, h1, h2⟩ | ⟨h1, _, h2⟩
  · left
    obtain ⟨x, hx, he⟩ := List.mem_map.1 (hp.mem_iff.1 hv)
    simp only [PF.pair, Prod.mk.injEq, Value.string.injEq] at he
    obtain ⟨he, rfl⟩ := he
    exact ⟨x, hx, he, h1, h2⟩
  · exact .inr ⟨fun x hx he => h1 x.pair (hp.mem_iff.2 (List.mem_map.2 ⟨x, hx, rfl⟩)) (by simp [PF.pair, he]), h2⟩
theorem of_ok {w : World} {d r : Nat} {h : Hd} {L : List PF} {K : Value → World → Prop} (H : DR w d r h L) {ns : List ByteArray} {n0 : ByteArray} {rest : List ByteArray} (hns : ns = n0 :: rest) {p : Option Addr} {c : Nat}
    (hp : Rd w p ns.length 1 (ns.map .string)) (hl : ∀ s ∈ ns, s.size ≤ 9223372036854775807) (hnl : ns.length ≤ 2 ^ 40)
    (hk : ∀ q e w', Ch (fun _ => False) w w' → w'.heap.size = w.heap.size → ofR h L ns n0 q e → K (.tuple #[.pointer q, .int .i64 e]) w') : callP Try.prog 54 [.pointer (some ⟨d, 0, none⟩), .slice p ns.length c] w K := by
  refine ok_disk_Disk_of ?_
  unfold wp_disk_Disk_of
  simp only [nn_some, add_at]
  have cellN : ∀ i (s : ByteArray), ns[i]? = some s → ∃ b o, p = some ⟨b, o, none⟩ ∧ w.cell? ⟨b, o + i, none⟩ = some (.string s) := fun i s hi => by
    have hil : i < ns.length := (List.getElem?_eq_some_iff.1 hi).1
    obtain ⟨b, o, h1, h2⟩ := hp.cell (i := i) (by omega)
    exact ⟨b, o, h1, by rw [h2, List.getElem?_map, hi]; rfl⟩
  refine ⟨h.down, H.cell 5, Sif_cases (fun hd => hk _ _ w (Ch.refl _ _) rfl (.inl ⟨hd, rfl, rfl⟩)) fun hd => ?_⟩
  refine ⟨fun m n w' => w' = w ∧ 0 ≤ n ∧ n ≤ ns.length ∧ m = ns.length - n.toNat ∧ ∀ i s, i < n.toNat → ns[i]? = some s → nameOk s = true, ⟨ns.length, rfl, by omega, by omega, by simp, fun i _ hi => by simp at hi⟩, ?_⟩
  rintro m n w1 ⟨rfl, h0, h1, hm, hall⟩
  refine Sif_cases (fun hn => ?_) fun hn => ?_
  · have hn' : n < ns.length := by simpa using hn
    obtain ⟨s, hs⟩ : ∃ s, ns[n.toNat]? = some s := ⟨ns[n.toNat]'(by omega), List.getElem?_eq_getElem (by omega)⟩
    have hsm : s ∈ ns := List.mem_of_getElem? hs
    obtain ⟨b, o, rfl, hc⟩ := cellN n.toNat s hs
    simp only [nn_some, add_at, Nat.mul_one]
    refine ⟨h0, hn', s, hc, isName_ok (hl s hsm) ⟨_, rfl, Sif_cases (fun hb => ?_) fun hb => ?_⟩⟩
    · exact hk _ _ _ (Ch.refl _ _) rfl (.inr (.inl ⟨hd, ⟨s, hsm, by simpa using hb⟩, rfl, rfl⟩))
    · have hwrap : IntKind.wrap .i64 (n + 1) = n + 1 := wrap_id (by omega) (by omega)
      refine ⟨m - 1, by omega, rfl, by rw [hwrap]; omega, by rw [hwrap]; omega, by rw [hwrap]; omega, fun i s' hi hs' => ?_⟩
      rw [hwrap] at hi
      by_cases hin : i < n.toNat
      · exact hall i s' hin hs'
      · have : i = n.toNat := by omega
        subst this
        rw [hs] at hs'; cases hs'
        simpa using hb
  · have hn' : ¬ n < ns.length := by simpa using hn
    have hok : ∀ s ∈ ns, nameOk s = true := fun s hs => by
      obtain ⟨i, hi⟩ := List.getElem?_of_mem hs
      have hil : i < ns.length := (List.getElem?_eq_some_iff.1 hi).1
      exact hall i s (by omega) hi
    have hpos : 0 < ns.length := by rw [hns]; simp
    obtain ⟨b, o, rfl, hc⟩ := cellN 0 n0 (by rw [hns]; rfl)
    simp only [nn_some, add_at, World.cell?_drew]
    refine ⟨by omega, by omega, some r, H.cell 4, n0, hc, ?_⟩
    have Hd' : DR w1.drew d r h L := H.ch0 (Ch.drew w1)
    rcases look_ok Hd' n0 with ⟨x, hx, he, _, h2⟩ | ⟨hx, h2⟩
    · exact ⟨_, true, h2, Sif_false (hk _ _ _ (Ch.drew w1) rfl (.inr (.inr (.inr ⟨hd, hok, x, hx, he, rfl, rfl⟩))))⟩
    · exact ⟨_, false, h2, Sif_true (hk _ _ _ (Ch.drew w1) rfl (.inr (.inr (.inl ⟨hd, hok, hx, rfl, rfl⟩))))⟩
end Go.Proofs.Ytncbmfinndcojaa
