/-
  A queue in memory: its free row, its map of those that are held, each entry's bytes of its own.
-/
import Derived.Test.YtipbbjnmpnfhpaaDoorQown
import Derived.Test.YtipbbjnmpnfhpaaDoorQplain
import Derived.Test.YtipbbjnmpnfhpaaDoorSvPile
namespace Go.Proofs.YtipbbjnmpnfhpaaDoor
open Go Go.Sv Go.Heap Go.Qu Go.MapKept
set_option linter.unusedVariables false
set_option maxRecDepth 4000
/-- an entry in memory, with its bytes -/
structure Et where
  e : En
  l : List UInt8
  own : Option Nat
def EtE : El Et where
  g x := x.e.cells
  sz := 7
  B x := x.own.toList
  Ok w x := Ow w x.e.p x.e.n x.e.c 1 (bytesV x.l) x.own
  glen _ := rfl
  gone x := x.e.cells_one
  ch h c hn := h.ch c fun b hb => hn b (by simp [hb])
  lt h b hb := h.blt b (by simpa [Option.mem_toList] using hb)
  nd {_ x} _ := by cases x.own <;> simp
def Et.pe (x : Et) : PE := ⟨x.e.seq, x.e.pri, x.e.exp, x.e.dur, x.e.cnt, x.e.hold, x.l⟩
theorem EtE.len {w : World} {x : Et} (h : EtE.Ok w x) : x.l.length = x.e.n := by
  have := h.1
  simpa using this
theorem ebl_lt {w : World} {x : Et} (h : EtE.Ok w x) : ∀ b ∈ EtE.B x, b < w.heap.size := EtE.lt h
theorem flat_et (F : List Et) : F.flatMap EtE.g = (F.map (·.e)).flatMap En.cells := by rw [List.flatMap_map]; rfl
theorem lt_pe (x y : Et) : x.e.lt y.e = x.pe.lt y.pe := rfl
def eB (F : List Et) : List Nat := F.flatMap EtE.B
theorem mem_eB {F : List Et} {b : Nat} : b ∈ eB F ↔ ∃ x ∈ F, x.own = some b := by
  unfold eB
  rw [List.mem_flatMap]
  simp only [EtE, Option.mem_toList, Option.mem_def]
theorem eB_app (F G : List Et) : eB (F ++ G) = eB F ++ eB G := List.flatMap_append
theorem eB_perm {F G : List Et} (h : F.Perm G) : (eB F).Perm (eB G) := h.flatMap_right _
theorem eB_cons (x : Et) (F : List Et) : eB (x :: F) = EtE.B x ++ eB F := rfl
def pairE (x : Et) : Value × Value := (.int .i64 x.e.seq, x.e.val)
def qcells (cf : Cfg) (s : Value) (r : Nat) (last : Int) : List Value := [.string cf.name, .int .i64 cf.most, .string cf.dead, .int .i64 cf.tries, .bool cf.dur, s, .map (some r), .int .i64 last]
/-- the queue's blocks -/
def qbl (qb r : Nat) (own : Option Nat) (F H : List Et) : List Nat := qb :: r :: (own.toList ++ eB (F ++ H))
structure QM (w : World) (qb : Nat) (cf : Cfg) (last : Int) (F H : List Et) (p : Option Addr) (c : Nat) (own : Option Nat) (r : Nat) : Prop where
  head : blk w qb = some (qcells cf (.slice p F.length c) r last)
  row : Ow w p F.length c 7 ((F.map (·.e)).flatMap En.cells) own
  map : ∃ m, Mp (.int .i64) w r m ∧ m.Perm (H.map pairE)
  dat : ∀ x ∈ F ++ H, EtE.Ok w x
  nd : (qbl qb r own F H).Nodup
theorem mem_qbl {qb r : Nat} {own : Option Nat} {F H : List Et} {b : Nat} : b ∈ qbl qb r own F H ↔ b = qb ∨ b = r ∨ own = some b ∨ b ∈ eB (F ++ H) := by
  simp [qbl, Option.mem_toList]
section
variable {w w' : World} {qb : Nat} {cf : Cfg} {last : Int} {F H : List Et} {p : Option Addr} {c : Nat} {own : Option Nat} {r : Nat}
theorem QM.lt (Q : QM w qb cf last F H p c own r) : ∀ b ∈ qbl qb r own F H, b < w.heap.size := fun b hb => by
  rcases mem_qbl.1 hb with rfl | rfl | h | h
  · exact blk_lt Q.head
  · obtain ⟨m, hm, _⟩ := Q.map; exact hm.lt
  · exact Q.row.blt b h
  · obtain ⟨x, hx, ho⟩ := mem_eB.1 h
    exact (Q.dat x hx).blt b ho
theorem QM.ch {S : Nat → Prop} (Q : QM w qb cf last F H p c own r) (hc : Ch S w w') (hn : ∀ b ∈ qbl qb r own F H, ¬ S b) : QM w' qb cf last F H p c own r := by
  refine ⟨by rw [hc.blk (blk_lt Q.head) (hn qb (mem_qbl.2 (.inl rfl)))]; exact Q.head, Q.row.ch hc fun k hk => hn k (mem_qbl.2 (.inr (.inr (.inl hk)))), ?_, fun x hx => EtE.ch (Q.dat x hx) hc fun b hb => hn b (mem_qbl.2 (.inr (.inr (.inr (mem_eB.2 ⟨x, hx, by simpa [EtE, Option.mem_toList] using hb⟩))))), Q.nd⟩
  obtain ⟨m, hm, hp⟩ := Q.map
  exact ⟨m, hm.ch hc (hn r (mem_qbl.2 (.inr (.inl rfl)))), hp⟩
theorem qbl_perm {F' H' : List Et} (h : (F ++ H).Perm (F' ++ H')) : (qbl qb r own F H).Perm (qbl qb r own F' H') := (((eB_perm h).append_left _).cons r).cons qb
theorem QM.ne_qr (Q : QM w qb cf last F H p c own r) : qb ≠ r := fun e => by
  have := (List.nodup_cons.1 Q.nd).1
  exact this (by rw [e]; simp)
theorem QM.ne_qo (Q : QM w qb cf last F H p c own r) : own ≠ some qb := fun e => by
  have := (List.nodup_cons.1 Q.nd).1
  exact this (by simp [e, Option.mem_toList])
theorem QM.ne_ro (Q : QM w qb cf last F H p c own r) : own ≠ some r := fun e => by
  have := (List.nodup_cons.1 (List.nodup_cons.1 Q.nd).2).1
  exact this (by simp [e, Option.mem_toList])
theorem QM.ne_qe (Q : QM w qb cf last F H p c own r) : qb ∉ eB (F ++ H) := fun e => by
  have := (List.nodup_cons.1 Q.nd).1
  exact this (by simp [e])
theorem QM.ne_re (Q : QM w qb cf last F H p c own r) : r ∉ eB (F ++ H) := fun e => by
  have := (List.nodup_cons.1 (List.nodup_cons.1 Q.nd).2).1
  exact this (by simp [e])
theorem QM.ne_oe (Q : QM w qb cf last F H p c own r) : ∀ b, own = some b → b ∉ eB (F ++ H) := fun b hb e => by
  subst hb
  have := (List.nodup_cons.1 (List.nodup_cons.1 Q.nd).2).2
  exact (List.nodup_cons.1 this).1 e
theorem QM.ndE (Q : QM w qb cf last F H p c own r) : (eB (F ++ H)).Nodup := by
  have := (List.nodup_cons.1 (List.nodup_cons.1 Q.nd).2).2
  exact (List.nodup_append.1 this).2.1
theorem qbl_nd (h1 : qb ≠ r) (h2 : own ≠ some qb) (h3 : own ≠ some r) (h4 : qb ∉ eB (F ++ H)) (h5 : r ∉ eB (F ++ H)) (h6 : ∀ b, own = some b → b ∉ eB (F ++ H)) (h7 : (eB (F ++ H)).Nodup) : (qbl qb r own F H).Nodup := by
  unfold qbl
  refine List.nodup_cons.2 ⟨?_, List.nodup_cons.2 ⟨?_, ?_⟩⟩
  · simp [Option.mem_toList, h1, h2, h4]
  · simp [Option.mem_toList, h3, h5]
  · cases own with
    | none => simpa using h7
    | some k => exact List.nodup_cons.2 ⟨h6 k rfl, h7⟩
end
theorem perm_lift' {α β : Type} {g : α → β} : ∀ {M : List β} {L : List α}, (L.map g).Perm M → ∃ L', L.Perm L' ∧ L'.map g = M
  | [], L, h => ⟨L, .refl _, by simpa using h.eq_nil⟩
  | m :: M, L, h => by
    obtain ⟨x, hx, rfl⟩ := List.mem_map.1 (h.mem_iff.2 (by simp : m ∈ m :: M))
    obtain ⟨l1, l2, rfl⟩ := List.append_of_mem hx
    have h2 : (g x :: (l1 ++ l2).map g).Perm (g x :: M) := ((List.perm_middle (l₁ := l1) (a := x) (l₂ := l2)).map g).symm.trans h
    obtain ⟨L', h3, h4⟩ := perm_lift' h2.cons_inv
    exact ⟨x :: L', List.perm_middle.trans (h3.cons x), by rw [List.map_cons, h4]⟩
/-- heap.Push at the queue's row -/
theorem qpush_ok {w : World} {qb : Nat} {cf : Cfg} {last : Int} {F H : List Et} {p : Option Addr} {c : Nat} {own : Option Nat} {r : Nat} {x : Et} {K : Value → World → Prop} (Q : QM w qb cf last F H p c own r) (hh : HeapFrom En.lt (atE (F.map (·.e))) F.length 0) (hn : F.length ≤ 2 ^ 39) (hx : EtE.Ok w x) (hd : ∀ b ∈ EtE.B x, b ∉ qbl qb r own F H)
    (hk : ∀ w' F' p' c' own', F'.Perm (x :: F) → HeapFrom En.lt (atE (F'.map (·.e))) F'.length 0 → QM w' qb cf last F' H p' c' own' r → (∀ b ∈ qbl qb r own' F' H, b ∈ qbl qb r own F H ∨ b ∈ EtE.B x ∨ w.heap.size ≤ b) → Ch (fun b => own = some b ∨ b = qb) w w' → K (.tuple #[]) w') :
    callP Tryd.prog 23 [fH ⟨qb, 5, none⟩, .iface 37 x.e.val] w K := by
  refine hpush_ok Q.head (o := 5) (p := p) (n := F.length) (c := c) (L := F.map (·.e)) rfl Q.ne_qo Q.row (by simp) hn hh fun w' p' c' own' L' hp hheap hb' ho' hnew hch => ?_
  obtain ⟨F', hp', rfl⟩ := perm_lift' (g := fun x : Et => x.e) (L := F ++ [x]) (M := L') (by rw [List.map_append]; exact hp.symm)
  have hp2 : F'.Perm (x :: F) := hp'.symm.trans (List.perm_append_singleton ..)
  have hlen : F'.length = F.length + 1 := by rw [hp2.length_eq]; rfl
  have hpe : (F' ++ H).Perm (x :: (F ++ H)) := hp2.append_right H
  have hmem : ∀ b, b ∈ eB (F' ++ H) → b ∈ EtE.B x ∨ b ∈ eB (F ++ H) := fun b hb => by
    rw [(eB_perm hpe).mem_iff, eB_cons] at hb
    exact List.mem_append.1 hb
  have hxl := EtE.lt hx
  have hS : ∀ b, b ∈ eB (F' ++ H) → ¬ (own = some b ∨ b = qb) := fun b hb h => by
    rcases hmem b hb with q | q
    · rcases h with h | h
      · exact hd b q (mem_qbl.2 (.inr (.inr (.inl h))))
      · exact hd b q (mem_qbl.2 (.inl h))
    · rcases h with h | h
      · exact Q.ne_oe b h q
      · exact Q.ne_qe (h ▸ q)
  have hlt := Q.lt
  refine hk w' F' p' c' own' hp2 (by rw [hlen]; exact hheap) ⟨?_, by rw [hlen]; exact ho', ?_, fun y hy => ?_, ?_⟩ (fun b hb => ?_) hch
  · rw [hb', hlen]; rfl
  · obtain ⟨m, hm, hmp⟩ := Q.map
    exact ⟨m, hm.ch hch fun h => by
      rcases h with h | h
      · exact Q.ne_ro h
      · exact Q.ne_qr h.symm, hmp⟩
  · have hy2 : EtE.Ok w y := by
      rcases List.mem_cons.1 (hpe.mem_iff.1 hy) with e | e
      · rw [e]; exact hx
      · exact Q.dat y e
    exact EtE.ch hy2 hch fun b hb => hS b (mem_eB.2 ⟨y, hy, by simpa [EtE, Option.mem_toList] using hb⟩)
  · have hown : ∀ b, own' = some b → own = some b ∨ w.heap.size ≤ b := hnew
    refine qbl_nd Q.ne_qr (fun h => ?_) (fun h => ?_) (fun h => ?_) (fun h => ?_) (fun b hb h => ?_) ?_
    · rcases hown _ h with h | h
      · exact Q.ne_qo h
      · have := hlt qb (mem_qbl.2 (.inl rfl)); omega
    · rcases hown _ h with h | h
      · exact Q.ne_ro h
      · have := hlt r (mem_qbl.2 (.inr (.inl rfl))); omega
    · exact hS qb h (.inr rfl)
    · rcases hmem r h with q | q
      · exact hd r q (mem_qbl.2 (.inr (.inl rfl)))
      · exact Q.ne_re q
    · rcases hown b hb with q | q
      · exact hS b h (.inl q)
      · rcases hmem b h with z | z
        · have := hxl b z; omega
        · have := hlt b (mem_qbl.2 (.inr (.inr (.inr z)))); omega
    · rw [(eB_perm hpe).nodup_iff, eB_cons]
      refine List.nodup_append.2 ⟨EtE.nd hx, Q.ndE, fun a ha b hb e => ?_⟩
      subst e
      exact hd a ha (mem_qbl.2 (.inr (.inr (.inr hb))))
  · rcases mem_qbl.1 hb with h | h | h | h
    · exact .inl (mem_qbl.2 (.inl h))
    · exact .inl (mem_qbl.2 (.inr (.inl h)))
    · rcases hnew b h with q | q
      · exact .inl (mem_qbl.2 (.inr (.inr (.inl q))))
      · exact .inr (.inr q)
    · rcases hmem b h with q | q
      · exact .inr (.inl q)
      · exact .inl (mem_qbl.2 (.inr (.inr (.inr q))))
/-- heap.Pop at the queue's row -/
theorem qpop_ok {w : World} {qb : Nat} {cf : Cfg} {last : Int} {F H : List Et} {p : Option Addr} {c : Nat} {own : Option Nat} {r : Nat} {K : Value → World → Prop} (Q : QM w qb cf last F H p c own r) (hh : HeapFrom En.lt (atE (F.map (·.e))) F.length 0) (hn : F.length ≤ 2 ^ 39) (h0 : F ≠ [])
    (hk : ∀ w' F' x, F.Perm (x :: F') → (∀ y ∈ F', y.pe.lt x.pe = false) → HeapFrom En.lt (atE (F'.map (·.e))) F'.length 0 → QM w' qb cf last F' H p c own r → EtE.Ok w' x → (∀ b ∈ EtE.B x, b ∈ qbl qb r own F H ∧ b ∉ qbl qb r own F' H) → (∀ b ∈ qbl qb r own F' H, b ∈ qbl qb r own F H) → Ch (fun b => own = some b ∨ b = qb) w w' → K (.iface 37 x.e.val) w') :
    callP Tryd.prog 26 [fH ⟨qb, 5, none⟩] w K := by
  obtain ⟨m, hm⟩ : ∃ m, F.length = m + 1 := ⟨F.length - 1, by have := List.length_pos_iff.2 h0; omega⟩
  have hhead := Q.head
  have hrow := Q.row
  rw [hm] at hhead hrow hh
  refine hpop_ok hhead (o := 5) (p := p) (m := m) (c := c) (L := F.map (·.e)) rfl Q.ne_qo hrow (by simp [hm]) (by omega) hh fun w' G hp hl hheap hb' ho' hch => ?_
  obtain ⟨F2, hp2, he⟩ := perm_lift' (g := fun x : Et => x.e) (L := F) (M := G ++ [atE (F.map (·.e)) 0]) hp.symm
  obtain ⟨F', z, rfl, rfl, hz⟩ := List.map_eq_append_iff.1 he
  obtain ⟨x, rfl, hxe⟩ : ∃ x, z = [x] ∧ x.e = atE (F.map (·.e)) 0 := by
    cases z with
    | nil => simp at hz
    | cons x z =>
      simp only [List.map_cons, List.cons.injEq, List.map_eq_nil_iff] at hz
      exact ⟨x, by rw [hz.2], hz.1⟩
  have hp3 : F.Perm (x :: F') := hp2.trans (List.perm_append_singleton ..)
  have hl' : F'.length = m := by simpa using hl
  have hpe : (F ++ H).Perm (x :: (F' ++ H)) := hp3.append_right H
  have hnd : (EtE.B x ++ eB (F' ++ H)).Nodup := by rw [← eB_cons, ← (eB_perm hpe).nodup_iff]; exact Q.ndE
  have hsub : ∀ b, b ∈ EtE.B x ++ eB (F' ++ H) → b ∈ eB (F ++ H) := fun b hb => by rw [(eB_perm hpe).mem_iff, eB_cons]; exact hb
  have hS : ∀ b, b ∈ eB (F ++ H) → ¬ (own = some b ∨ b = qb) := fun b hb h => by
    rcases h with h | h
    · exact Q.ne_oe b h hb
    · exact Q.ne_qe (h ▸ hb)
  have hdat : ∀ y ∈ F ++ H, EtE.Ok w' y := fun y hy => EtE.ch (Q.dat y hy) hch fun b hb => hS b (mem_eB.2 ⟨y, hy, by simpa [EtE, Option.mem_toList] using hb⟩)
  have hfirst := heap_first En.ord En.irr hh
  refine hxe ▸ hk w' F' x hp3 (fun y hy => ?_) (by rw [hl']; exact hheap) ⟨by rw [hb', hl']; rfl, by rw [hl']; exact ho', ?_, fun y hy => hdat y (hpe.mem_iff.2 (List.mem_cons_of_mem _ hy)), ?_⟩ (hdat x (hpe.mem_iff.2 (by simp))) (fun b hb => ⟨mem_qbl.2 (.inr (.inr (.inr (hsub b (List.mem_append_left _ hb))))), fun h => ?_⟩) (fun b hb => ?_) hch
  · have hyF : y.e ∈ F.map (·.e) := List.mem_map.2 ⟨y, hp3.mem_iff.2 (List.mem_cons_of_mem _ hy), rfl⟩
    obtain ⟨i, hi⟩ := List.getElem?_of_mem hyF
    have hil := (List.getElem?_eq_some_iff.1 hi).1
    have := hfirst i (by simpa [hm] using hil)
    rw [← lt_pe, hxe]
    have e : atE (F.map (·.e)) i = y.e := by unfold atE; rw [hi]; rfl
    rw [← e]; exact this
  · obtain ⟨m', hm', hmp⟩ := Q.map
    exact ⟨m', hm'.ch hch fun h => by
      rcases h with h | h
      · exact Q.ne_ro h
      · exact Q.ne_qr h.symm, hmp⟩
  · exact qbl_nd Q.ne_qr Q.ne_qo Q.ne_ro (fun h => Q.ne_qe (hsub _ (List.mem_append_right _ h))) (fun h => Q.ne_re (hsub _ (List.mem_append_right _ h))) (fun b hb h => Q.ne_oe b hb (hsub _ (List.mem_append_right _ h))) (List.nodup_append.1 hnd).2.1
  · have hb2 := hsub b (List.mem_append_left _ hb)
    rcases mem_qbl.1 h with h | h | h | h
    · exact Q.ne_qe (h ▸ hb2)
    · exact Q.ne_re (h ▸ hb2)
    · exact Q.ne_oe b h hb2
    · exact (List.nodup_append.1 hnd).2.2 b hb b h rfl
  · rcases mem_qbl.1 hb with h | h | h | h
    · exact mem_qbl.2 (.inl h)
    · exact mem_qbl.2 (.inr (.inl h))
    · exact mem_qbl.2 (.inr (.inr (.inl h)))
    · exact mem_qbl.2 (.inr (.inr (.inr (hsub b (List.mem_append_right _ h)))))
end Go.Proofs.YtipbbjnmpnfhpaaDoor
