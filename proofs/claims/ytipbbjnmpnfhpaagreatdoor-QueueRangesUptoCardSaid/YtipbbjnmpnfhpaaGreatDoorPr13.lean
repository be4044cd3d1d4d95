/-
  The document's queue: All, Len, by what it holds. DERIVED: THE SHELF's CONTRACTS AT THIS DUMP, IN PLAIN WORDS (tools/lay-plain.mjs out of 'YtipbbjnmpnfhpaaGreatDoorShelf3.lean', which tools/lay-shelf.mjs wrote): THE SAME DECLARATIONS UNDER THE SAME NAMES: 'import', 'namespace', 'open', 'def', 'theorem' AND NOTHING ELSE: no command of the shelf's: FOR A HAND-IN. Each laying: the table of numbers ('.._ren') and one theorem, a field a fact of the dump's own or the kernel's comparison; each contract: ONE APPLICATION. The queue's rows, sorted by the queue's order. The queue's Back. DERIVED: THE SHELF's CONTRACTS AT THIS DUMP, IN PLAIN WORDS (tools/lay-plain.mjs out of 'YtipbbjnmpnfhpaaGreatDoorShelf.lean', which tools/lay-shelf.mjs wrote): THE SAME DECLARATIONS UNDER THE SAME NAMES: 'import', 'namespace', 'open', 'def', 'theorem' AND NOTHING ELSE: no command of the shelf's: FOR A HAND-IN. Each laying: the table of numbers ('.._ren') and one theorem, a field a fact of the dump's own or the kernel's comparison; each contract: ONE APPLICATION. The queue's Release. The queue's Release, its walk. Ranges over functions: the loop's record and the block of deferred calls, as memory. Over every program. The queue's All: what there is, copied and sorted; then one after the other. DERIVED: THE SHELF's CONTRACTS AT THIS DUMP, IN PLAIN WORDS (tools/lay-plain.mjs out of 'YtipbbjnmpnfhpaaGreatDoorShelf2.lean', which tools/lay-shelf.mjs wrote): THE SAME DECLARATIONS UNDER THE SAME NAMES: 'import', 'namespace', 'open', 'def', 'theorem' AND NOTHING ELSE: no command of the shelf's: FOR A HAND-IN. Each laying: the table of numbers ('.._ren') and one theorem, a field a fact of the dump's own or the kernel's comparison; each contract: ONE APPLICATION. The queue's New: what may be a name. The law's small functions: two entries alike; live. The law's sameAll, alls: what comes out in a range goes into the book. Go's pattern-defeating sort at rows of structs, called as slices.SortFunc calls it; in the words of the memory laws. Over every program.
-/
import Derived.Test.YtipbbjnmpnfhpaaGreatDoorPr12
import Derived.Shelf.SlSortCmp.NoneTotal
import Derived.Test.YtipbbjnmpnfhpaaGreatDoorProg
import Derived.Shelf.Strings.Trim
import Derived.Shelf.Small.Utf8
import Derived.Shelf.Small.Bits
import Derived.Shelf.Small.Strs
import Derived.Shelf.Strconv.Itoa0
import Derived.Shelf.Strings.Search1
import Derived.Shelf.Sort.Plain
import Derived.Shelf.Strings.Runes
import Derived.Shelf.Strings.AsciiSet
import Derived.Shelf.Unicode.DecodeSlow
import Derived.Shelf.Slices.In.SortNone
import Derived.Shelf.Strings.SlTrimAscii
namespace Go.Proofs.YtipbbjnmpnfhpaaGreatDoor
open Go Go.Sv Go.Heap Go.Qu Go.MapKept
set_option linter.unusedVariables false
set_option maxRecDepth 4000
variable {Qt : Nat → Prop}
theorem rall_ok {w : World} {rb : Nat} {A : AQ} {B : Nat → Prop} {K : Value → World → Prop} (Q : RQ Qt w rb A B)
    (hk : ∀ p c w' (G : List Et) ow, G.map Et.pe = ordered A.L → (∀ x ∈ G, EtE.Ok w' x) → Ow w' p G.length c 7 ((G.map (·.e)).flatMap En.cells) ow → (∀ b, ow = some b → w.heap.size ≤ b) → Ch (fun _ => False) w w' → K (.slice p G.length c) w') :
    callP Tryz.prog 10 [.pointer (some ⟨rb, 0, none⟩)] w K := by
  obtain ⟨wf, L, p, c, own, R, E, rfl, hQt⟩ := Q
  have hwl := wf.len
  have hm2 := wf.most2
  have hLl : L.length = A.L.length := by rw [← E, List.length_map]
  refine ok_longshoreref17_Queue_All ?_
  unfold wp_longshoreref17_Queue_All
  refine rord_ok R (by omega) fun p2 c2 w2 G ow2 hGo hGp o2 how2 ch2 => ⟨_, _, _, rfl, ?_⟩
  rw [E] at hGo
  exact hk p2 c2 w2 G ow2 hGo (fun x hx => (R.ch ch2 fun _ _ => id).dat x (hGp.mem_iff.1 hx)) o2 how2 ch2
theorem rallQ_ok {w : World} {rb : Nat} {A : AQ} {B : Nat → Prop} {K : Value → World → Prop} (Q : RQ Qt w rb A B)
    (hk : ∀ p c w' (G : List Et) ow, G.map Et.pe = ordered A.L → (∀ x ∈ G, EtE.Ok w' x) → Ow w' p G.length c 7 ((G.map (·.e)).flatMap En.cells) ow → (∀ b, ow = some b → w.heap.size ≤ b) → (∀ b ∈ eB G, B b) → RQ (fun b => b ∈ eB G) w' rb A B → Ch (fun _ => False) w w' → K (.slice p G.length c) w') :
    callP Tryz.prog 10 [.pointer (some ⟨rb, 0, none⟩)] w K := by
  obtain ⟨wf, L, p, c, own, R, E, rfl, hQt⟩ := Q
  have hwl := wf.len
  have hm2 := wf.most2
  have hLl : L.length = A.L.length := by rw [← E, List.length_map]
  refine ok_longshoreref17_Queue_All ?_
  unfold wp_longshoreref17_Queue_All
  refine rord_ok R (by omega) fun p2 c2 w2 G ow2 hGo hGp o2 how2 ch2 => ⟨_, _, _, rfl, ?_⟩
  rw [E] at hGo
  have hm : ∀ b, b ∈ eB G → b ∈ eB L := fun b hb => (eB_perm hGp).mem_iff.1 hb
  have R2 := R.ch ch2 fun _ _ => id
  exact hk p2 c2 w2 G ow2 hGo (fun x hx => R2.dat x (hGp.mem_iff.1 hx)) o2 how2 (fun b hb => mem_rbl.2 (.inr (.inr (hm b hb)))) ⟨wf, L, p, c, own, R2, E, rfl, ⟨fun h => R.ne_re (hm _ h), fun b hb h => R.ne_oe b hb (hm _ h), fun b hb => R2.lt b (mem_rbl.2 (.inr (.inr (hm b hb))))⟩⟩ ch2
theorem free_held : ∀ L : List Et, ((L.map Et.pe).filter isFree).length + (L.filter fun x => decide (x.e.hold ≠ 0)).length = L.length
  | [] => rfl
  | x :: L => by
    have ih := free_held L
    rw [List.map_cons, List.filter_cons, List.filter_cons]
    by_cases h : x.e.hold = 0
    · have h1 : isFree x.pe = true := by
        show decide (x.e.hold = 0) = true
        simp [h]
      rw [if_pos h1, if_neg (by simp [h]), List.length_cons, List.length_cons]; omega
    · have h1 : isFree x.pe = false := by
        show decide (x.e.hold = 0) = false
        simp [h]
      rw [if_neg (by simp [h1]), if_pos (by simp [h]), List.length_cons, List.length_cons]; omega
theorem rqlen_ok {w : World} {rb : Nat} {A : AQ} {B : Nat → Prop} {K : Value → World → Prop} (Q : RQ Qt w rb A B)
    (hk : K (.tuple #[.int .i64 ((A.L.filter isFree).length : Int), .int .i64 ((A.L.length : Int) - ((A.L.filter isFree).length : Int))]) w) :
    callP Tryz.prog 42 [.pointer (some ⟨rb, 0, none⟩)] w K := by
  obtain ⟨wf, L, p, c, own, R, E, rfl, hQt⟩ := Q
  have hwl := wf.len
  have hm2 := wf.most2
  have hLl : L.length = A.L.length := by rw [← E, List.length_map]
  refine rlen_ok R (by omega) ?_
  have h := free_held L
  rw [E] at h
  have e1 : (L.length : Int) - ((L.filter fun x => decide (x.e.hold ≠ 0)).length : Int) = ((A.L.filter isFree).length : Int) := by omega
  have e2 : ((L.filter fun x => decide (x.e.hold ≠ 0)).length : Int) = (A.L.length : Int) - ((A.L.filter isFree).length : Int) := by omega
  rw [e1, e2]
  exact hk
end Go.Proofs.YtipbbjnmpnfhpaaGreatDoor
namespace Go.Proofs
open Go.Shelf
def Tryz.laysSF6_ren : Go.Shelf.Ren := ⟨fun | 6 => 28 | 15 => 55 | 14 => 54 | 28 => 90 | 29 => 91 | 20 => 82 | 21 => 83 | 22 => 84 | 23 => 85 | 24 => 86 | 25 => 87 | 26 => 88 | 27 => 89 | 46 => 102 | 47 => 103 | 48 => 104 | 49 => 105 | 50 => 106 | 57 => 119 | n => n, fun | 22 => 24 | 24 => 34 | 25 => 75 | 3 => 3 | 39 => 94 | 0 => 0 | 53 => 133 | 55 => 135 | 4 => 4 | 46 => 126 | 45 => 125 | 50 => 130 | 5 => 5 | 9 => 9 | 66 => 146 | 70 => 150 | 76 => 158 | 77 => 60 | n => n, fun | n => n⟩
theorem Tryz.laysSF6 : Go.Proofs.SlLaysF0.n6 Tryz.prog Tryz.laysSF6_ren := {
  mixed := by kernel_rfl
  f6 := ⟨Tryz.f28.name, by decide, Tryz.func28.trans (congrArg some (by kernel_rfl))⟩
  f14 := ⟨Tryz.f54.name, by decide, Tryz.func54.trans (congrArg some (by kernel_rfl))⟩
  f15 := Tryz.func55.trans (congrArg some (by kernel_rfl))
  f20 := ⟨Tryz.f82.name, by decide, Tryz.func82.trans (congrArg some (by kernel_rfl))⟩
  f21 := ⟨Tryz.f83.name, by decide, Tryz.func83.trans (congrArg some (by kernel_rfl))⟩
  f22 := ⟨Tryz.f84.name, by decide, Tryz.func84.trans (congrArg some (by kernel_rfl))⟩
  f23 := ⟨Tryz.f85.name, by decide, Tryz.func85.trans (congrArg some (by kernel_rfl))⟩
  f24 := ⟨Tryz.f86.name, by decide, Tryz.func86.trans (congrArg some (by kernel_rfl))⟩
  f25 := ⟨Tryz.f87.name, by decide, Tryz.func87.trans (congrArg some (by kernel_rfl))⟩
  f26 := ⟨Tryz.f88.name, by decide, Tryz.func88.trans (congrArg some (by kernel_rfl))⟩
  f27 := ⟨Tryz.f89.name, by decide, Tryz.func89.trans (congrArg some (by kernel_rfl))⟩
  f28 := Tryz.func90.trans (congrArg some (by kernel_rfl))
  f29 := Tryz.func91.trans (congrArg some (by kernel_rfl))
  f46 := ⟨Tryz.f102.name, by decide, Tryz.func102.trans (congrArg some (by kernel_rfl))⟩
  f47 := Tryz.func103.trans (congrArg some (by kernel_rfl))
  f48 := Tryz.func104.trans (congrArg some (by kernel_rfl))
  f49 := ⟨Tryz.f105.name, by decide, Tryz.func105.trans (congrArg some (by kernel_rfl))⟩
  f50 := ⟨Tryz.f106.name, by decide, Tryz.func106.trans (congrArg some (by kernel_rfl))⟩
  f57 := ⟨Tryz.f119.name, by decide, Tryz.func119.trans (congrArg some (by kernel_rfl))⟩
  t0 := Tryz.underlying0
  a0 := Tryz.isAgg0
  z0 := Tryz.sizeOf0
  v0 := Tryz.zeroValue0
  t3 := Tryz.underlying3
  a3 := Tryz.isAgg3
  z3 := Tryz.sizeOf3
  v3 := Tryz.zeroValue3
  t4 := Tryz.underlying4
  a4 := Tryz.isAgg4
  z4 := Tryz.sizeOf4
  v4 := Tryz.zeroValue4
  t5 := Tryz.underlying5
  a5 := Tryz.isAgg5
  z5 := Tryz.sizeOf5
  v5 := Tryz.zeroValue5
  t9 := Tryz.underlying9
  a9 := Tryz.isAgg9
  z9 := Tryz.sizeOf9
  v9 := Tryz.zeroValue9
  t22 := Tryz.underlying24
  a22 := Tryz.isAgg24
  z22 := Tryz.sizeOf24
  v22 := Tryz.zeroValue24
  t25 := Tryz.underlying75
  a25 := Tryz.isAgg75
  z25 := Tryz.sizeOf75
  v25 := Tryz.zeroValue75
  t39 := Tryz.underlying94
  a39 := Tryz.isAgg94
  z39 := Tryz.sizeOf94
  v39 := Tryz.zeroValue94
  t45 := Tryz.underlying125
  a45 := Tryz.isAgg125
  z45 := Tryz.sizeOf125
  v45 := Tryz.zeroValue125
  t46 := Tryz.underlying126
  a46 := Tryz.isAgg126
  z46 := Tryz.sizeOf126
  v46 := Tryz.zeroValue126
  t50 := Tryz.underlying130
  a50 := Tryz.isAgg130
  z50 := Tryz.sizeOf130
  v50 := Tryz.zeroValue130
  t53 := Tryz.underlying133
  a53 := Tryz.isAgg133
  z53 := Tryz.sizeOf133
  v53 := Tryz.zeroValue133
  t55 := Tryz.underlying135
  a55 := Tryz.isAgg135
  z55 := Tryz.sizeOf135
  v55 := Tryz.zeroValue135
  t66 := Tryz.underlying146
  a66 := Tryz.isAgg146
  z66 := Tryz.sizeOf146
  v66 := Tryz.zeroValue146
  t70 := Tryz.underlying150
  a70 := Tryz.isAgg150
  z70 := Tryz.sizeOf150
  v70 := Tryz.zeroValue150
  t76 := Tryz.underlying158
  a76 := Tryz.isAgg158
  z76 := Tryz.sizeOf158
  v76 := Tryz.zeroValue158
  t77 := Tryz.underlying60
  a77 := Tryz.isAgg60
  z77 := Tryz.sizeOf60
  v77 := Tryz.zeroValue60 }
end Go.Proofs
namespace Go.Proofs.YtipbbjnmpnfhpaaGreatDoor
open Go Go.Sv Go.Heap Go.Qu Go.Sort
set_option linter.unusedVariables false
set_option maxRecDepth 4000
theorem order_qt {a b : En} {w : World} {K : Value → World → Prop} (hk : ∀ w', Qt w w' → K (.int .i64 (ordE a b)) w') : callP Tryz.prog 29 [a.val, b.val] w K := by
  refine ok_queue_order ?_
  unfold wp_queue_order
  refine newB_qt fun w1 b1 c1 z1 => newB_qt fun w2 b2 c2 z2 => ?_
  have b1' : blk w2 w.heap.size = some a.cells := by rw [c2.ch.blk (blk_lt b1) id]; exact b1
  have e1 : blk w2.drew w.heap.size = some a.cells := by rw [(Ch.drew (S := fun _ => False) w2).blk (blk_lt b1') id]; exact b1'
  have e2 : blk w2.drew w1.heap.size = some b.cells := by rw [(Ch.drew (S := fun _ => False) w2).blk (blk_lt b2) id]; exact b2
  simp only [add_at, Nat.zero_add]
  refine ⟨_, by rw [cell_blk e2]; rfl, _, by rw [cell_blk e1]; rfl, _, by rw [cell_blk e1]; rfl, _, by rw [cell_blk e2]; rfl, ?_⟩
  refine compare_ok ⟨_, rfl, ⟨_, by rw [cell_blk e2]; rfl, rfl⟩, ⟨_, by rw [cell_blk e1]; rfl, rfl⟩, compare_ok ⟨_, rfl, ?_⟩⟩
  refine newB_qt fun w5 b5 c5 z5 => ?_
  refine or_ok b5 ⟨_, rfl, ?_⟩
  exact hk w5 (((c1.trans c2).trans (Qt.drew w2)).trans c5)
theorem Pe.lt_of {L : List Et} (hn : (L.map fun x : Et => x.e.seq).Nodup) {x y : Et} (hx : x ∈ L) (hy : y ∈ L) (h : x.pe.lt y.pe = false) (k : y.pe.lt x.pe = false) : x = y := by
  refine Classical.byContradiction fun hne => ?_
  have hs : x.pe.seq ≠ y.pe.seq := fun e => hne (inj_of_nodup hn hx hy e)
  have := PE.tri hs h
  rw [k] at this
  cases this
theorem swoE (L : List Et) : SWO (ltOf fun x y : {x : Et // x ∈ L} => ordE x.1.e y.1.e) := by
  have e : ∀ x y : {x : Et // x ∈ L}, ltOf (fun x y : {x : Et // x ∈ L} => ordE x.1.e y.1.e) x y = x.1.e.lt y.1.e := fun x y => ordE_lt x.1.e y.1.e
  refine ⟨fun x => ?_, fun x y z h k => ?_, fun x y z h k => ?_⟩
  · rw [e]; exact En.irr _
  · rw [e] at *; exact PE.tr (a := x.1.pe) (b := y.1.pe) (c := z.1.pe) h k
  · rw [e] at *
    exact En.ord.tr _ _ _ k h
theorem attach_flat (L : List Et) : (L.attach.flatMap fun x : {x : Et // x ∈ L} => x.1.e.cells) = (L.map (·.e)).flatMap En.cells := by
  rw [List.flatMap_map]
  conv => rhs; rw [← List.attach_map_subtype_val L, List.flatMap_map]
theorem sortQ_ok {w : World} {p : Option Addr} {c : Nat} {b : Option Nat} {L : List Et} (ho : Ow w p L.length c 7 ((L.map (·.e)).flatMap En.cells) b) (hL : L.length ≤ 2 ^ 40) (hn : (L.map fun x : Et => x.e.seq).Nodup) {K : Value → World → Prop}
    (hK : ∀ w' (L' : List Et), L'.Perm L → Sorted (L'.map Et.pe) → Ow w' p L'.length c 7 ((L'.map (·.e)).flatMap En.cells) b → Ch (fun j => b = some j) w w' → K (.tuple #[]) w') : callP Tryz.prog 28 [.slice p L.length c, .func (.func 29) #[] #[]] w K := by
  by_cases h0 : L = []
  · subst h0
    exact Calls.mono (AnyF.slices_SortFunc_none Tryz.laysSF6 p c (.func (.func 29) #[] #[]) w) fun e w' ⟨he, hw⟩ => ⟨_, he, hw ▸ hK _ [] (.refl _) .nil ho (Ch.refl _ _)⟩
  obtain ⟨x0, hx0⟩ := List.exists_mem_of_ne_nil L h0
  haveI : Inhabited {x : Et // x ∈ L} := ⟨⟨x0, hx0⟩⟩
  have hl : L.attach.length = L.length := List.length_attach ..
  have ho' : Ow w p L.attach.length c 7 (L.attach.flatMap fun x : {x : Et // x ∈ L} => x.1.e.cells) b := by rw [hl, attach_flat]; exact ho
  rw [← hl] at hL
  rw [← hl]
  refine sortK_ok (α := {x : Et // x ∈ L}) Tryz.laysSF6 (k := 7) Tryz.isAgg34 Tryz.sizeOf34 (enc := fun x => x.1.e.cells) (fun _ => rfl) (fun x => x.1.e.cells_one) (swoE L)
    (fun x y h k => Subtype.ext (Pe.lt_of hn x.2 y.2 (by rw [← h]; exact (ordE_lt x.1.e y.1.e).symm) (by rw [← k]; exact (ordE_lt y.1.e x.1.e).symm)))
    (g := 29) (fun args w => okCall_enter (by kernel_rfl) args w) (fun x y W => (order_qt (a := x.1.e) (b := y.1.e) (w := W) (K := fun v w' => v = .int .i64 (ordE x.1.e y.1.e) ∧ Qt W w') fun w' q => ⟨rfl, q⟩).mono fun e w' ⟨v, he, hv, q⟩ => ⟨by rw [he, hv], q⟩) ho' (by decide) hL fun w' o' c' => ?_
  have hp := (srtBy_perm (fun x y : {x : Et // x ∈ L} => ordE x.1.e y.1.e) L.attach).map Subtype.val
  rw [List.attach_map_subtype_val] at hp
  have hs := srtBy_sorted (fun x y : {x : Et // x ∈ L} => ordE x.1.e y.1.e) (swoE L) L.attach
  obtain ⟨S, hS⟩ : ∃ S, S = srtBy (fun x y : {x : Et // x ∈ L} => ordE x.1.e y.1.e) L.attach := ⟨_, rfl⟩
  rw [← hS] at hp hs o'
  refine hK w' (S.map Subtype.val) hp ?_ ?_ c'
  · have hnd : ((S.map Subtype.val).map fun x : Et => x.e.seq).Nodup := by rw [(hp.map _).nodup_iff]; exact hn
    rw [List.map_map, Sorted, List.pairwise_map]
    rw [List.map_map, List.Nodup, List.pairwise_map] at hnd
    refine (hs.and hnd).imp fun {a b} h => ?_
    have h1 : b.1.e.lt a.1.e = false := by rw [← h.1]; exact (ordE_lt b.1.e a.1.e).symm
    exact PE.tri (a := b.1.pe) (b := a.1.pe) (fun e => h.2 e.symm) h1
  · have hlen : S.length = L.length := by rw [hS, srtBy_len]; exact hl
    rw [List.length_map, List.map_map, List.flatMap_map]
    rw [hl] at o'
    rw [hlen]
    exact o'
end Go.Proofs.YtipbbjnmpnfhpaaGreatDoor
namespace Go.Proofs.YtipbbjnmpnfhpaaGreatDoor
open Go Go.Sv Go.Heap Go.Qu Go.MapKept
set_option linter.unusedVariables false
set_option maxRecDepth 4000
theorem QF.findH {A : AQ} {F H : List Et} (E : QF A F H) (W : WQ A) {x : Et} (hx : x ∈ H) : A.find x.e.seq = some x.pe := find_of W (x := x.pe) (E.all (List.mem_append_right _ hx))
theorem QF.findF {A : AQ} {F H : List Et} (E : QF A F H) (W : WQ A) {x : Et} (hx : x ∈ F) : A.find x.e.seq = some x.pe := find_of W (x := x.pe) (E.all (List.mem_append_left _ hx))
theorem QF.notH {A : AQ} {F H : List Et} (E : QF A F H) {seq : Int} (hn : ∀ x ∈ H, x.e.seq ≠ seq) : ∀ y, A.find seq = some y → y.hold = 0 ∧ ∃ x ∈ F, x.pe = y := fun y hy => by
  obtain ⟨h1, h2⟩ := find_mem hy
  obtain ⟨x, hx, rfl⟩ := List.mem_map.1 (E.perm.mem_iff.2 h1)
  rcases List.mem_append.1 hx with hx | hx
  · exact ⟨E.free x hx, x, hx, rfl⟩
  · exact absurd h2 (hn x hx)
/-- one that is held is given back, as y -/
theorem QF.gave {A : AQ} {F F' H H' : List Et} {x y : Et} (E : QF A F H) (W : WQ A) (hp : H.Perm (x :: H')) (hF : F'.Perm (y :: F)) (hs : y.pe.seq = x.pe.seq) (hy : y.pe.hold = 0) (hheap : HeapFrom En.lt (atE (F'.map (·.e))) F'.length 0) : QF { A with L := setE y.pe A.L } F' H' := by
  have h1 : A.L.Perm (x.pe :: (F ++ H').map Et.pe) := E.perm.symm.trans ((((hp.append_left F).trans List.perm_middle)).map Et.pe)
  refine ⟨hheap, ?_, fun z hz => ?_, fun z hz => E.held z (hp.mem_iff.2 (List.mem_cons_of_mem _ hz))⟩
  · have h2 := map_one (f := fun z => if z.seq = y.pe.seq then y.pe else z) W.nd (h1.mem_iff.2 (by simp)) (fun z hz => by rw [if_neg (by rw [hs]; exact hz)]) h1
    rw [if_pos hs.symm] at h2
    refine List.Perm.trans ?_ h2.symm
    exact (hF.append_right H').map Et.pe
  · rcases List.mem_cons.1 (hF.mem_iff.1 hz) with rfl | hz
    · exact hy
    · exact E.free z hz
/-- one that is held has left -/
theorem QF.left {A : AQ} {F H H' : List Et} {x : Et} (E : QF A F H) (W : WQ A) (hp : H.Perm (x :: H')) : QF { A with L := delQ x.pe.seq A.L } F H' := by
  have h1 : A.L.Perm (x.pe :: (F ++ H').map Et.pe) := E.perm.symm.trans ((((hp.append_left F).trans List.perm_middle)).map Et.pe)
  exact ⟨E.heap, (filter_one W.nd h1).symm, E.free, fun z hz => E.held z (hp.mem_iff.2 (List.mem_cons_of_mem _ hz))⟩
theorem perm_of_mem {α : Type} {l : List α} {x : α} (h : x ∈ l) : ∃ l', l.Perm (x :: l') := by
  obtain ⟨l1, l2, rfl⟩ := List.append_of_mem h
  exact ⟨l1 ++ l2, List.perm_middle⟩
def Et.fail (x : Et) (f : Bool) : Et := { x with e := { x.e with hold := 0, cnt := if f = true then min (x.e.cnt + 1) 4294967295 else x.e.cnt } }
theorem qback_ok {w : World} {qb : Nat} {A : AQ} {B : Nat → Prop} {seq h : Int} {f : Bool} {K : Value → World → Prop} (Q : QK w qb A B)
    (hno : (A.back seq h f).1 = none → QPost w qb (A.back seq h f).2 B fun w' _ => K (.tuple #[Ez.e.val, .bool false, .int .i64 171]) w')
    (hyes : ∀ y d, (A.back seq h f).1 = some (y, d) → ∀ x : Et, x.pe = y → QPost w qb (A.back seq h f).2 B fun w' B' => Out w' B B' w.heap.size x → K (.tuple #[x.e.val, .bool d, .int .i64 0]) w') :
    callP Tryz.prog 19 [.pointer (some ⟨qb, 0, none⟩), .int .i64 seq, .int .i64 h, .bool f] w K := by
  have hQ0 := Q
  have hW := Q.wf.back seq h f
  obtain ⟨wf, F, H, p, c, own, r, M, E, rfl⟩ := Q
  have old := M.lt
  have hlen := E.len
  refine ok_queue_Queue_Back ?_
  unfold wp_queue_Queue_Back
  refine newB_blk fun w1 b1 c1 z1 => ?_
  have b1 : blk w1 w.heap.size = some Ez.e.cells := b1
  have M1 := M.ch c1 fun _ _ => id
  simp only [nn_some, add_at, Nat.zero_add]
  refine ⟨_, M1.cell rfl, ?_⟩
  have nope : (A.back seq h f) = (none, A) → ∀ w9, Ch (fun _ => False) w1 w9 → blk w9 w.heap.size = some Ez.e.cells → (∀ w', Ch (fun _ => False) w w' → K (.tuple #[Ez.e.val, .bool false, .int .i64 171]) w') := fun e1 w9 c9 b9 w' cw => by
    rw [e1] at hno
    exact hno rfl w' _ (hQ0.ch cw fun _ _ => id) (cw.mono fun _ _ h => h.elim) fun b hb => .inl hb
  rcases M1.look seq with ⟨x, hx, hs, hrun⟩ | ⟨hn, hrun⟩
  rotate_left
  · -- not among those that are held
    have e1 : (A.back seq h f) = (none, A) := by
      unfold AQ.back
      split
      · rfl
      · rename_i y hy
        have h0 := (E.notH hn y hy).1
        rw [if_pos (by omega)]
    refine ⟨_, _, _, _, _, _, _, _, _, _, hrun, newE (e0 := En0) (e := En0) fun w2 b2 c2 z2 => ⟨fun _ => False, fun _ h => h.elim, ?_⟩⟩
    refine Sif_false ?_
    have b12 : blk w2 w.heap.size = some Ez.e.cells := by rw [c2.blk (blk_lt b1) id]; exact b1
    refine reN (e := Ez.e) b12 fun w3 b3 c3 z3 => rdN b3 ?_
    exact nope e1 w2 c2 b12 w3 ((c1.trans' c2).trans c3 fun y hy h => by omega)
  subst hs
  refine ⟨_, _, _, _, _, _, _, _, _, _, hrun, newE (e0 := En0) (e := x.e) fun w2 b2 c2 z2 => ?_⟩
  have b12 : blk w2 w.heap.size = some Ez.e.cells := by rw [c2.blk (blk_lt b1) id]; exact b1
  have c02 := c1.trans' c2
  have hfind := E.findH wf hx
  have hxm := E.all (List.mem_append_right F hx)
  have hok := wf.ok _ hxm
  have hhold := E.held x hx
  have hh0 : 0 ≤ x.e.hold := hok.hold
  refine ⟨fun w10 => w10 = w2 ∧ x.e.hold = h, ?_, ?_⟩
  rotate_left
  · refine Sif_true ?_
    simp only [add_at, Nat.zero_add]
    refine ⟨_, by rw [cell_blk b2]; rfl, Sif_cases (fun g => ?_) fun g => ⟨by trivial, by simpa using g⟩⟩
    have g : x.e.hold ≠ h := by simpa using g
    have e1 : (A.back x.e.seq h f) = (none, A) := by
      unfold AQ.back
      rw [hfind]
      show (if h < 1 ∨ x.e.hold ≠ h then _ else _) = _
      rw [if_pos (.inr g)]
    refine reN (e := Ez.e) b12 fun w3 b3 c3 z3 => rdN b3 ?_
    exact nope e1 w2 c2 b12 w3 (c02.trans c3 fun y hy h => by omega)
  rintro _ ⟨rfl, hheld⟩
  rename_i w2
  obtain ⟨H', hp⟩ := perm_of_mem hx
  have M2 := M1.ch c2 fun _ _ => id
  simp only [nn_some, add_at, Nat.zero_add]
  refine ⟨_, M2.cell rfl, ?_⟩
  have hndH : (H.map fun x : Et => x.e.seq).Nodup := by
    have := E.ndq wf
    rw [List.map_append] at this
    exact (List.nodup_append.1 this).2.1
  obtain ⟨w3, hdel, M3, hx3, hxB, hsub, c3⟩ := M2.del (ty := 0) hp hndH
  refine ⟨w3, hdel, ?_⟩
  have hr : r < w.heap.size := old r (mem_qbl.2 (.inr (.inl rfl)))
  have hrm : r ∈ qbl qb r own F H := mem_qbl.2 (.inr (.inl rfl))
  have b23 : blk w3 w1.heap.size = some x.e.cells := by rw [c3.blk (blk_lt b2) (by omega)]; exact b2
  have b13 : blk w3 w.heap.size = some Ez.e.cells := by rw [c3.blk (blk_lt b12) (by omega)]; exact b12
  have c03 : Ch (fun b => b ∈ qbl qb r own F H) w w3 := (c02.mono fun _ _ h => h.elim).trans' (c3.mono fun b _ h => h ▸ hrm)
  have s3 := c3.size
  -- what comes to be known
  have hbk : A.back x.e.seq h f = if deadE A.cf f (failE f x.pe) = true then (some (failE f x.pe, true), { A with L := delQ x.e.seq A.L }) else (some (failE f x.pe, false), { A with L := setE (failE f x.pe) A.L }) := by
    unfold AQ.back
    rw [hfind]
    show (if h < 1 ∨ x.e.hold ≠ h then _ else _) = _
    rw [if_neg (by omega)]
  refine st_blk b23 (by simp [En.cells]) fun w4 b4 c4 z4 => ?_
  have b14 : blk w4 w.heap.size = some Ez.e.cells := by rw [c4.blk (blk_lt b13) (by omega)]; exact b13
  have hc1 := hok.cnt0
  have hc2 := hok.cnt1
  have hc1 : 0 ≤ x.e.cnt := hc1
  have hc2 : x.e.cnt ≤ 4294967295 := hc2
  have big : ∀ b ∈ qbl qb r own F H', ¬ w.heap.size ≤ b := fun b hb hle => by have := old b (hsub b hb); omega
  have bigx : ∀ b ∈ EtE.B x, ¬ w.heap.size ≤ b := fun b hb hle => by have := old b (hxB b hb).1; omega
  refine ⟨fun w5 => deadE A.cf f (failE f x.pe) = false ∧ blk w5 w1.heap.size = some (x.fail f).e.cells ∧ blk w5 w.heap.size = some Ez.e.cells ∧ Ch (fun b => w.heap.size ≤ b) w3 w5, ?_, ?_⟩
  · rintro w5 ⟨hdead, b25, b15, c35⟩
    rw [hdead] at hbk
    simp only [Bool.false_eq_true, if_false] at hbk
    rw [hbk] at hyes hW
    have b25d : blk w5.drew w1.heap.size = some (x.fail f).e.cells := b25
    have c35d := c35.trans' (Ch.drew w5)
    have M5 : QM w5.drew qb A.cf A.last F H' p c own r := M3.ch c35d big
    have hx5 : EtE.Ok w5.drew (x.fail f) := EtE.ch hx3 c35d bigx
    refine rdN b25d ?_
    refine qpush_ok M5 E.heap (by have := wf.len; have := wf.most2; omega) hx5 (fun b hb => (hxB b hb).2) fun w6 F' p' c' own' hp6 hheap6 M6 hsub6 c6 => ⟨rfl, ?_⟩
    have hin : ∀ b, own = some b ∨ b = qb → b ∈ qbl qb r own F H := fun b h => by
      rcases h with h | h
      · exact mem_qbl.2 (.inr (.inr (.inl h)))
      · exact mem_qbl.2 (.inl h)
    have c06 : Ch (fun b => b ∈ qbl qb r own F H) w w6 := (c03.trans c35d fun b hb h => by omega).trans' (c6.mono fun b _ h => hin b h)
    have kp6 : ∀ k v, w.heap.size ≤ k → blk w5.drew k = some v → blk w6 k = some v := fun k v hk hb => by
      rw [c6.blk (blk_lt hb) fun h => by have := old k (hin k h); omega]; exact hb
    refine rdN (kp6 _ _ (by omega) b25d) ?_
    have hx6 : EtE.Ok w6 (x.fail f) := M6.dat _ (List.mem_append_left _ (hp6.mem_iff.2 (by simp)))
    refine own_ok (e := (x.fail f).e) hx6.rd (by have := hok.len; have h9 : x.pe.l.length = x.e.n := EtE.len hx6; have h10 : (x.fail f).e.n = x.e.n := rfl; omega) fun w7 y hy hyp hyn c7 => isE ?_
    have kp7 : ∀ k v, w.heap.size ≤ k → blk w5.drew k = some v → blk w7 k = some v := fun k v hk hb => by
      rw [c7.blk (blk_lt (kp6 k v hk hb)) id]; exact kp6 k v hk hb
    refine reN (e := y.e) (kp7 _ _ (by omega) b15) fun w8 b8 c8 z8 => rdN b8 ?_
    have s6 := c6.size
    have s5 := c35d.size
    have c68 : Ch (fun b => w.heap.size = b) w6 w8 := (c7.mono fun _ _ h => h.elim).trans' (c8.mono fun b _ h => h.symm)
    have hQ : ∀ b ∈ qbl qb r own' F' H', b ∈ qbl qb r own F H ∨ w.heap.size < b := fun b hb => by
      rcases hsub6 b hb with q | q | q
      · exact .inl (hsub b q)
      · exact .inl (hxB b q).1
      · exact .inr (by omega)
    have M8 : QM w8 qb A.cf A.last F' H' p' c' own' r := M6.ch c68 fun b hb he => by
      rcases hQ b hb with q | q
      · have := old b q; omega
      · omega
    refine hyes _ _ rfl y hyp w8 _ ⟨hW, F', H', p', c', own', r, M8, E.gave wf hp hp6 rfl rfl hheap6, rfl⟩ (c06.trans c68 fun b hb h => by omega) (fun b hb => (hQ b hb).imp id fun h => by omega) ⟨EtE.ch hy c8 fun b hb h => ?_, fun b hb => ⟨fun h => ?_, .inr ?_⟩⟩
    · have := hyn b (by simpa [EtE, Option.mem_toList] using hb)
      omega
    · have := hyn b hb
      rcases hQ b h with q | q
      · have := old b q; omega
      · have := M6.lt b h; omega
    · have := hyn b hb
      omega
  · have c34 : Ch (fun b => w.heap.size ≤ b) w3 w4 := c4.mono fun b _ h => by omega
    refine Sif_cases (fun hf => ?_) fun hf => ?_
    rotate_left
    · subst hf
      exact ⟨rfl, b4, b14, c34⟩
    subst hf
    have hwr : IntKind.wrap .i64 (x.e.cnt + 1) = x.e.cnt + 1 := wrap_id (by omega) (by omega)
    refine ⟨_, by rw [cell_blk b4]; rfl, ?_⟩
    rw [hwr]
    refine st_blk b4 (by simp [En.cells]) fun w5 b5 c5 z5 => ?_
    have b5 : blk w5 w1.heap.size = some (x.fail true).e.cells := b5
    have b15 : blk w5 w.heap.size = some Ez.e.cells := by rw [c5.blk (blk_lt b14) (by omega)]; exact b14
    have c35 := c34.trans' (c5.mono (S' := fun b => w.heap.size ≤ b) fun b _ h => by omega)
    have c35d := c35.trans' (Ch.drew w5)
    have b5d : blk w5.drew w1.heap.size = some (x.fail true).e.cells := b5
    have b15d : blk w5.drew w.heap.size = some Ez.e.cells := b15
    have M5 : QM w5.drew qb A.cf A.last F H' p c own r := M3.ch c35d big
    have hx5 : EtE.Ok w5.drew (x.fail true) := EtE.ch hx3 c35d bigx
    have dead : deadE A.cf true (failE true x.pe) = (decide (0 < A.cf.tries) && decide (A.cf.tries ≤ (x.fail true).e.cnt)) := by unfold deadE; rw [Bool.true_and]; rfl
    refine ⟨_, M5.cell rfl, Sif_cases (fun g1 => ?_) fun g1 => ?_⟩
    rotate_left
    · have g1 : ¬ 0 < A.cf.tries := by simpa using g1
      exact ⟨by rw [dead, decide_eq_false g1, Bool.false_and], b5d, b15d, c35d⟩
    have g1 : 0 < A.cf.tries := by simpa using g1
    refine ⟨_, by rw [cell_blk b5d]; rfl, _, M5.cell rfl, Sif_cases (fun g2 => ?_) fun g2 => ?_⟩
    rotate_left
    · have g2 : ¬ A.cf.tries ≤ (x.fail true).e.cnt := by simpa using g2
      exact ⟨by rw [dead, decide_eq_false g2, Bool.and_false], b5d, b15d, c35d⟩
    have g2 : A.cf.tries ≤ (x.fail true).e.cnt := of_decide_eq_true g2
    rw [dead, decide_eq_true g1, decide_eq_true g2] at hbk
    simp only [Bool.and_self, if_true] at hbk
    rw [hbk] at hyes hW
    refine rdN b5d (reN (e := (x.fail true).e) b15d fun w6 b6 c6 z6 => rdN b6 ?_)
    have c36 : Ch (fun b => w.heap.size ≤ b) w3 w6 := c35d.trans' (c6.mono fun b _ h => by omega)
    have M6 : QM w6 qb A.cf A.last F H' p c own r := M3.ch c36 big
    have hx6 : EtE.Ok w6 (x.fail true) := EtE.ch hx3 c36 bigx
    refine hyes _ _ rfl (x.fail true) rfl w6 _ ⟨hW, F, H', p, c, own, r, M6, E.left wf hp, rfl⟩ (c03.trans c36 fun b hb h => by omega) (fun b hb => .inl (hsub b hb)) ⟨hx6, fun b hb => ?_⟩
    have hb : x.own = some b := hb
    have hb' : b ∈ EtE.B x := by simpa [EtE, Option.mem_toList] using hb
    exact ⟨(hxB b hb').2, .inl (hxB b hb').1⟩
end Go.Proofs.YtipbbjnmpnfhpaaGreatDoor
namespace Go.Proofs
open Go.Shelf
def Tryz.lays189_ren : Go.Shelf.Ren := ⟨fun | 189 => 70 | 125 => 55 | 257 => 97 | 128 => 90 | 129 => 91 | 294 => 107 | 295 => 108 | 296 => 109 | 297 => 110 | 298 => 111 | 299 => 112 | 216 => 113 | 300 => 114 | 301 => 115 | 328 => 120 | 329 => 103 | 330 => 104 | 331 => 121 | 332 => 122 | 215 => 92 | 343 => 127 | n => n, fun | 28 => 44 | 3 => 3 | 46 => 94 | 0 => 0 | 51 => 133 | 53 => 135 | 4 => 4 | 183 => 126 | 182 => 125 | 131 => 130 | 5 => 5 | 9 => 9 | 218 => 146 | 222 => 150 | 228 => 158 | 229 => 60 | n => n, fun | n => n⟩
theorem Tryz.lays189 : Go.Proofs.Lays.n189 Tryz.prog Tryz.lays189_ren := {
  mixed := by kernel_rfl
  f125 := Tryz.func55.trans (congrArg some (by kernel_rfl))
  f128 := Tryz.func90.trans (congrArg some (by kernel_rfl))
  f129 := Tryz.func91.trans (congrArg some (by kernel_rfl))
  f189 := Tryz.func70.trans (congrArg some (by kernel_rfl))
  f215 := Tryz.func92.trans (congrArg some (by kernel_rfl))
  f216 := Tryz.func113.trans (congrArg some (by kernel_rfl))
  f257 := Tryz.func97.trans (congrArg some (by kernel_rfl))
  f294 := Tryz.func107.trans (congrArg some (by kernel_rfl))
  f295 := Tryz.func108.trans (congrArg some (by kernel_rfl))
  f296 := Tryz.func109.trans (congrArg some (by kernel_rfl))
  f297 := Tryz.func110.trans (congrArg some (by kernel_rfl))
  f298 := Tryz.func111.trans (congrArg some (by kernel_rfl))
  f299 := Tryz.func112.trans (congrArg some (by kernel_rfl))
  f300 := Tryz.func114.trans (congrArg some (by kernel_rfl))
  f301 := Tryz.func115.trans (congrArg some (by kernel_rfl))
  f328 := Tryz.func120.trans (congrArg some (by kernel_rfl))
  f329 := Tryz.func103.trans (congrArg some (by kernel_rfl))
  f330 := Tryz.func104.trans (congrArg some (by kernel_rfl))
  f331 := Tryz.func121.trans (congrArg some (by kernel_rfl))
  f332 := Tryz.func122.trans (congrArg some (by kernel_rfl))
  f343 := Tryz.func127.trans (congrArg some (by kernel_rfl))
  t0 := Tryz.underlying0
  a0 := Tryz.isAgg0
  z0 := Tryz.sizeOf0
  v0 := Tryz.zeroValue0
  t3 := Tryz.underlying3
  a3 := Tryz.isAgg3
  z3 := Tryz.sizeOf3
  v3 := Tryz.zeroValue3
  t4 := Tryz.underlying4
  a4 := Tryz.isAgg4
  z4 := Tryz.sizeOf4
  v4 := Tryz.zeroValue4
  t5 := Tryz.underlying5
  a5 := Tryz.isAgg5
  z5 := Tryz.sizeOf5
  v5 := Tryz.zeroValue5
  t9 := Tryz.underlying9
  a9 := Tryz.isAgg9
  z9 := Tryz.sizeOf9
  v9 := Tryz.zeroValue9
  t28 := Tryz.underlying44
  a28 := Tryz.isAgg44
  z28 := Tryz.sizeOf44
  v28 := Tryz.zeroValue44
  t46 := Tryz.underlying94
  a46 := Tryz.isAgg94
  z46 := Tryz.sizeOf94
  v46 := Tryz.zeroValue94
  t51 := Tryz.underlying133
  a51 := Tryz.isAgg133
  z51 := Tryz.sizeOf133
  v51 := Tryz.zeroValue133
  t53 := Tryz.underlying135
  a53 := Tryz.isAgg135
  z53 := Tryz.sizeOf135
  v53 := Tryz.zeroValue135
  t131 := Tryz.underlying130
  a131 := Tryz.isAgg130
  z131 := Tryz.sizeOf130
  v131 := Tryz.zeroValue130
  t182 := Tryz.underlying125
  a182 := Tryz.isAgg125
  z182 := Tryz.sizeOf125
  v182 := Tryz.zeroValue125
  t183 := Tryz.underlying126
  a183 := Tryz.isAgg126
  z183 := Tryz.sizeOf126
  v183 := Tryz.zeroValue126
  t218 := Tryz.underlying146
  a218 := Tryz.isAgg146
  z218 := Tryz.sizeOf146
  v218 := Tryz.zeroValue146
  t222 := Tryz.underlying150
  a222 := Tryz.isAgg150
  z222 := Tryz.sizeOf150
  v222 := Tryz.zeroValue150
  t228 := Tryz.underlying158
  a228 := Tryz.isAgg158
  z228 := Tryz.sizeOf158
  v228 := Tryz.zeroValue158
  t229 := Tryz.underlying60
  a229 := Tryz.isAgg60
  z229 := Tryz.sizeOf60
  v229 := Tryz.zeroValue60 }
open Go.Sort Go.RowKit in
theorem Tryz.slices_Sort_int (blk off cap : Nat) (zs : List Int) (w : World) (hH : Holds (Value.int .i64) w blk off zs.toArray) (hblk : blk < w.heap.size) (hsz : zs.length < 4611686018427387904) :
    Calls Tryz.prog 70 #[.slice (some ⟨blk, off, none⟩) zs.length cap] w fun e w' =>
      e = .returned (.tuple #[]) ∧ ∃ n os, w' = grow (putRow (Value.int .i64) (Sort.ahead w n) blk off (zs.mergeSort fun x y => decide (x ≤ y)).toArray) os := Any.slices_Sort_int Tryz.lays189 blk off cap zs w hH hblk hsz
open Go.RowKit Go.Sort in
/-- .. and plain. (LAID: no walk: one application.) -/
theorem Tryz.slices_Sort_int_none (p : Option Addr) (cap : Nat) (w : World) :
    Calls Tryz.prog 70 #[.slice p 0 cap] w fun e w' => e = .returned (.tuple #[]) ∧ w' = w := Any.slices_Sort_int_none Tryz.lays189 p cap w
end Go.Proofs
namespace Go.Proofs.YtipbbjnmpnfhpaaGreatDoor
open Go Go.Sv Go.Heap Go.Qu Go.MapKept
set_option linter.unusedVariables false
set_option maxRecDepth 4000
theorem qint_info : InfoIs Tryz.prog 3 1 8 (.int .i64 0) := .of (by kernel_rfl) (by kernel_rfl) (by kernel_rfl)
theorem sortI_ok {w : World} {p : Option Addr} {c : Nat} {b : Option Nat} {L : List Int} {K : Value → World → Prop} (hO : Ow w p L.length c 1 (L.flatMap iC) b) (hL : L.length ≤ 2 ^ 40)
    (hk : ∀ w', Ow w' p L.length c 1 ((L.mergeSort fun x y => decide (x ≤ y)).flatMap iC) b → Ch (fun k => b = some k) w w' → K (.tuple #[]) w') : callP Tryz.prog 70 [.slice p L.length c] w K := by
  by_cases h0 : L.length = 0
  · have : L = [] := List.eq_nil_of_length_eq_zero h0
    subst this
    exact Calls.mono (Tryz.slices_Sort_int_none p c w) fun e w' ⟨he, hw⟩ => ⟨_, he, hw ▸ hk _ (by simpa using hO) (Ch.refl _ _)⟩
  obtain ⟨h1, h2, h3⟩ := hO
  rcases h3 with ⟨_, h3⟩ | ⟨k, o, cs, rfl, rfl, hbk, hl, ht⟩
  · omega
  have g := Tryz.slices_Sort_int k o c L w (holdsI hbk (by omega) (by simpa using ht)) (blk_lt hbk) (by omega)
  refine Calls.mono g fun e w' ⟨he, n, os, hw⟩ => ⟨_, he, ?_⟩
  obtain ⟨q1, q2⟩ := sorted_row hbk h2 hl hw
  exact hk w' q1 q2
theorem asE {e : En} {K : List Value → Prop} (h : K e.cells) : asAggV (nat_lit 7) e.val K := by
  unfold asAggV En.val
  simp only [asAggC]
  exact h
theorem rel_out {A : AQ} {F H : List Et} (E : QF A F H) (W : WQ A) (h : Int) {l : List Int} (hp : l.Perm ((H.filter fun x => decide (x.e.hold = h)).map fun x => x.e.seq)) : (l.mergeSort fun x y => decide (x ≤ y)) = (A.release h).1 := by
  have h1 : ((A.L.filter (has h)).map (·.seq)).Perm l := by
    have e1 := (E.perm.filter (has h)).map (·.seq)
    rw [List.map_append, List.filter_append] at e1
    have f1 : (F.map Et.pe).filter (has h) = [] := List.filter_eq_nil_iff.2 fun y hy => by
      obtain ⟨x, hx, rfl⟩ := List.mem_map.1 hy
      have := E.free x hx
      have e : x.pe.hold = x.e.hold := rfl
      unfold has
      simp only [Bool.and_eq_true, decide_eq_true_eq, not_and]
      omega
    have f2 : (H.map Et.pe).filter (has h) = (H.filter fun x => decide (x.e.hold = h)).map Et.pe := by
      rw [List.filter_map]
      congr 1
      refine List.filter_congr fun x hx => ?_
      have h2 := (W.ok _ (E.all (List.mem_append_right F hx))).hold
      have h2 : 0 ≤ x.e.hold := h2
      have h3 := E.held x hx
      show (decide (1 ≤ h) && decide (x.e.hold = h)) = decide (x.e.hold = h)
      rw [Bool.eq_iff_iff]
      simp only [Bool.and_eq_true, decide_eq_true_eq]
      omega
    rw [f1, f2, List.nil_append, List.map_map] at e1
    exact e1.symm.trans hp.symm
  have hs : ((A.L.filter (has h)).map (·.seq)).Pairwise (· < ·) := by
    rw [List.pairwise_map]
    exact W.asc.filter _
  refine sorted_one (r := fun a b : Int => a < b) (fun a b h1 h2 => by omega) ?_ hs (((List.mergeSort_perm ..).trans h1.symm))
  have q1 := List.pairwise_mergeSort (le := fun x y : Int => decide (x ≤ y)) (fun a b c h1 h2 => by simp at h1 h2 ⊢; omega) (fun a b => by simp; omega) l
  have q2 : (l.mergeSort fun x y => decide (x ≤ y)).Nodup := by
    rw [((List.mergeSort_perm ..).trans h1.symm).nodup_iff]
    exact hs.imp fun h => by omega
  exact (q1.and q2).imp fun {a b} h => by
    have := h.1
    have := h.2
    simp at *
    omega
/-- all of one holder are given back -/
theorem QF.released {A : AQ} {F F' H D H' : List Et} {h : Int} (E : QF A F H) (W : WQ A) (hp : H.Perm (D ++ H')) (hF : F'.Perm (D.map (·.setH 0) ++ F)) (hD : D.map (fun x : Et => x.e.seq) = (A.release h).1) (hheap : HeapFrom En.lt (atE (F'.map (·.e))) F'.length 0) : QF (A.release h).2 F' H' := by
  have hH0 : ∀ x ∈ H, 0 ≤ x.e.hold := fun x hx => (W.ok _ (E.all (List.mem_append_right F hx))).hold
  have hHn := E.held
  have hndH : (H.map fun x : Et => x.e.seq).Nodup := by
    have := E.ndq W
    rw [List.map_append] at this
    exact (List.nodup_append.1 this).2.1
  have key : ∀ x ∈ H, x.e.seq ∈ (A.release h).1 ↔ x.e.hold = h := fun x hx => by
    show x.pe.seq ∈ (A.L.filter (has h)).map (·.seq) ↔ _
    constructor
    · intro hm
      obtain ⟨y, hy, he⟩ := List.mem_map.1 hm
      obtain ⟨hy1, hy2⟩ := List.mem_filter.1 hy
      have : y = x.pe := inj_of_nodup W.nd hy1 (E.all (List.mem_append_right F hx)) he
      subst this
      unfold has at hy2
      simp at hy2
      exact hy2.2
    · intro hh
      refine List.mem_map.2 ⟨x.pe, List.mem_filter.2 ⟨E.all (List.mem_append_right F hx), ?_⟩, rfl⟩
      have h1 := hH0 x hx
      have h2 := hHn x hx
      show (decide (1 ≤ h) && decide (x.e.hold = h)) = true
      simp only [Bool.and_eq_true, decide_eq_true_eq]
      omega
  have hDh : ∀ x ∈ D, x.e.hold = h ∧ 1 ≤ h := fun x hx => by
    have hxH := hp.mem_iff.2 (List.mem_append_left _ hx)
    have h1 := (key x hxH).1 (hD ▸ List.mem_map.2 ⟨x, hx, rfl⟩)
    have := hH0 x hxH
    have := hHn x hxH
    omega
  have hH' : ∀ x ∈ H', x.e.hold ≠ h := fun x hx e => by
    have hxH := hp.mem_iff.2 (List.mem_append_right _ hx)
    have h1 := (key x hxH).2 e
    rw [← hD] at h1
    have h2 : ((D ++ H').map fun x : Et => x.e.seq).Nodup := by rw [← (hp.map _).nodup_iff]; exact hndH
    rw [List.map_append] at h2
    exact (List.nodup_append.1 h2).2.2 _ h1 _ (List.mem_map.2 ⟨x, hx, rfl⟩) rfl
  refine ⟨hheap, ?_, fun x hx => ?_, fun x hx => E.held x (hp.mem_iff.2 (List.mem_append_right _ hx))⟩
  · show ((F' ++ H').map Et.pe).Perm (A.L.map _)
    refine List.Perm.trans ?_ ((E.perm.map _))
    have e1 : (F ++ H).Perm (D ++ F ++ H') := (hp.append_left F).trans (by rw [← List.append_assoc]; exact (List.perm_append_comm).append_right H')
    refine List.Perm.trans ?_ ((e1.map Et.pe).map _).symm
    refine ((hF.append_right H').map Et.pe).trans (.of_eq ?_)
    simp only [List.map_append, List.map_map]
    congr 1
    · congr 1
      · refine List.map_congr_left fun x hx => ?_
        obtain ⟨h1, h2⟩ := hDh x hx
        have e : has h x.pe = true := by
          show (decide (1 ≤ h) && decide (x.e.hold = h)) = true
          simp [h1, h2]
        show (x.setH 0).pe = if has h x.pe = true then _ else _
        rw [if_pos e]; rfl
      · refine List.map_congr_left fun x hx => ?_
        have e : ¬ has h x.pe = true := by
          show ¬ (decide (1 ≤ h) && decide (x.e.hold = h)) = true
          have := E.free x hx
          simp only [Bool.and_eq_true, decide_eq_true_eq]
          omega
        show x.pe = if has h x.pe = true then _ else _
        rw [if_neg e]
    · refine List.map_congr_left fun x hx => ?_
      have e : ¬ has h x.pe = true := by
        show ¬ (decide (1 ≤ h) && decide (x.e.hold = h)) = true
        have := hH' x hx
        simp only [Bool.and_eq_true, decide_eq_true_eq]
        omega
      show x.pe = if has h x.pe = true then _ else _
      rw [if_neg e]
  · rcases List.mem_append.1 (hF.mem_iff.1 hx) with hx | hx
    · obtain ⟨y, hy, rfl⟩ := List.mem_map.1 hx
      rfl
    · exact E.free x hx
end Go.Proofs.YtipbbjnmpnfhpaaGreatDoor
namespace Go.Proofs.YtipbbjnmpnfhpaaGreatDoor
open Go Go.Sv Go.Heap Go.Qu Go.MapKept
set_option linter.unusedVariables false
set_option maxRecDepth 4000
theorem putSeg_all {cs vs : List Value} (h : cs.length = vs.length) : putSeg cs 0 vs = vs := by
  unfold putSeg
  simp [h]
/-- one comes out of a range over the map -/
theorem next_et {ty : TypeId} {w : World} {it r : Nat} {m left : List (Value × Value)} {H : List Et} (h : It (.int .i64) w it r m left) (hp : left.Perm (H.map pairE)) :
    (H = [] ∧ (Instr.next (.pointer (some ⟨it, 0, none⟩)) false ty).run Tryz.prog w = .ok (.tuple #[.bool false]) w) ∨
    ∃ x H' left' w', H.Perm (x :: H') ∧ left'.Perm (H'.map pairE) ∧ (Instr.next (.pointer (some ⟨it, 0, none⟩)) false ty).run Tryz.prog w = .ok (.tuple #[.bool true, .int .i64 x.e.seq, x.e.val]) w' ∧
      (Instr.entry (.pointer (some ⟨it, 0, none⟩))).run Tryz.prog w' = .ok (.tuple #[.int .i64 x.e.seq, x.e.val]) w' ∧ It (.int .i64) w' it r m left' ∧ Ch (· = it) w w' ∧ w'.heap.size = w.heap.size := by
  rcases next_run (P := Tryz.prog) (ty := ty) h with ⟨rfl, hrun⟩ | ⟨k, v, l1, l2, w', rfl, hmem, hrun, hent, hit, hch, hz⟩
  · left
    have := hp.length_eq
    exact ⟨List.eq_nil_of_length_eq_zero (by simpa using this.symm), hrun⟩
  · right
    have h1 : (H.map pairE).Perm ((k, v) :: (l1 ++ l2)) := hp.symm.trans (List.perm_middle)
    obtain ⟨L', h2, h3⟩ := perm_lift' h1
    cases L' with
    | nil => simp at h3
    | cons x H' =>
      rw [List.map_cons] at h3
      obtain ⟨h4, h5⟩ := List.cons.inj h3
      unfold pairE at h4
      obtain ⟨rfl, rfl⟩ := Prod.mk.inj h4
      exact ⟨x, H', l1 ++ l2, w', h2, .of_eq h5.symm, hrun, hent, hit, hch, hz⟩
theorem qrel_ok {w : World} {qb : Nat} {A : AQ} {B : Nat → Prop} {h : Int} {K : Value → World → Prop} (Q : QK w qb A B)
    (hk : ∀ p n c own', n = (A.release h).1.length → QPost w qb (A.release h).2 B fun w' B' => Ow w' p n c 1 ((A.release h).1.flatMap iC) own' → (∀ b, own' = some b → ¬ B' b ∧ w.heap.size ≤ b) → K (.slice p n c) w') :
    callP Tryz.prog 36 [.pointer (some ⟨qb, 0, none⟩), .int .i64 h] w K := by
  have hW := Q.wf.release h
  obtain ⟨wf, F, H, p, c, own, r, M, E, rfl⟩ := Q
  have old := M.lt
  have hlen := E.len
  have hwl := wf.len
  have hm2 := wf.most2
  have hnd := E.ndq wf
  rw [List.map_append] at hnd
  obtain ⟨hndF, hndH, hdisj⟩ := List.nodup_append.1 hnd
  have hrq : r ∈ qbl qb r own F H := mem_qbl.2 (.inr (.inl rfl))
  refine ok_queue_Queue_Release ?_
  unfold wp_queue_Queue_Release
  rw [nn_some, add_at, Nat.zero_add]
  refine ⟨_, M.cell rfl, ?_⟩
  obtain ⟨m0, hm0, hmp0⟩ := M.map
  obtain ⟨w1, hrun1, hit1, c1, z1⟩ := range_run Tryz.underlying63 hm0
  refine ⟨_, w1, hrun1, ?_⟩
  refine ⟨fun m p1 n1 c1' w2 => ∃ (l : List Int) (Hl : List Et) (left : List (Value × Value)) (ow : Option Nat), n1 = l.length ∧ Ow w2 p1 n1 c1' 1 (l.flatMap iC) ow ∧ (∀ b, ow = some b → w.heap.size < b) ∧ It (.int .i64) w2 w.heap.size r m0 left ∧ left.Perm (Hl.map pairE) ∧ m = Hl.length ∧ (∀ x ∈ Hl, x ∈ H) ∧ (l ++ (Hl.filter fun x => decide (x.e.hold = h)).map fun x => x.e.seq).Perm ((H.filter fun x => decide (x.e.hold = h)).map fun x => x.e.seq) ∧ l.length + Hl.length ≤ H.length ∧ Ch (fun _ => False) w w2,
    ⟨H.length, [], H, m0, none, rfl, Ow.nil, (fun b hb => by cases hb), hit1, hmp0, rfl, (fun _ hx => hx), by simp, by simp, c1⟩, ?_⟩
  rintro m p1 n1 c1' w2 ⟨l, Hl, left, ow, rfl, o2, fr2, it2, hlp, rfl, hsub2, hacc, hcnt, c2⟩
  have itlt := it2.lt
  have hr : r < w.heap.size := old r hrq
  rcases next_et (ty := 0) it2 hlp with ⟨rfl, hrun2⟩ | ⟨x, Hl', left', w3, hpx, hlp', hrun2, hent, it3, c3, z3⟩
  · -- all have come out
    refine .inl ⟨w2, hrun2, ?_⟩
    rw [List.filter_nil, List.map_nil, List.append_nil] at hacc
    have hout := rel_out E wf h hacc
    refine sortI_ok o2 (by omega) fun w3 o3 c3 => ⟨rfl, ?_⟩
    rw [hout] at o3
    have hol : (A.release h).1.length = l.length := by rw [← hout, List.length_mergeSort]
    have c03 : Ch (fun b => w.heap.size < b) w w3 := (c2.mono fun _ _ h => h.elim).trans' (c3.mono fun b _ hb => fr2 b hb)
    have M3 : QM w3 qb A.cf A.last F H p c own r := M.ch c03 fun b hb hlt => by have := old b hb; omega
    obtain ⟨out, hout'⟩ : ∃ out, out = (A.release h).1 := ⟨_, rfl⟩
    rw [← hout'] at o3 hol
    refine ⟨fun m1 n1 w5 => ∃ (j : Nat) (D Hj Fj : List Et) (pj : Option Addr) (cj : Nat) (ownj : Option Nat), n1 = (j : Int) ∧ j ≤ out.length ∧ m1 = out.length - j ∧ H.Perm (D ++ Hj) ∧ D.map (fun x : Et => x.e.seq) = out.take j ∧ Fj.Perm (D.map (·.setH 0) ++ F) ∧ HeapFrom En.lt (atE (Fj.map (·.e))) Fj.length 0 ∧ QM w5 qb A.cf A.last Fj Hj pj cj ownj r ∧
        (∀ b ∈ qbl qb r ownj Fj Hj, b ∈ qbl qb r own F H ∨ (w.heap.size ≤ b ∧ ow ≠ some b)) ∧ Ow w5 p1 l.length c1' 1 (out.flatMap iC) ow ∧ Ch (fun b => b ∈ qbl qb r own F H) w w5 ∧ w3.heap.size ≤ w5.heap.size, ⟨out.length, 0, [], H, F, p, c, own, rfl, Nat.zero_le _, rfl, .refl _, rfl, .refl _, E.heap, M3, fun b hb => .inl hb, o3, (c03.mono fun b hb hlt => by omega), Nat.le_refl _⟩, ?_⟩
    rintro m1 n1 w5 ⟨j, D, Hj, Fj, pj, cj, ownj, rfl, hj, rfl, hpD, hDs, hpF, hheap, M5, hsub5, o5, c5, s5⟩
    have c5w3 : ∀ b, ow = some b → b < w5.heap.size := o5.blt
    refine Sif_cases (fun hlt => ?_) fun hge => ?_
    · have hlt : j < out.length := by
        have : (j : Int) < (l.length : Int) := by simpa using hlt
        omega
      obtain ⟨seq, hseq⟩ : ∃ s, out[j]? = some s := ⟨_, List.getElem?_eq_getElem hlt⟩
      refine ⟨by omega, by omega, ?_⟩
      obtain ⟨kb, o, hpp, hc⟩ := o5.rd.at iC_len hseq (by decide)
      subst hpp
      simp only [nn_some, add_at, Int.toNat_natCast, Nat.zero_add]
      refine ⟨seq, by have := hc 0 _ rfl; simpa using this, ?_⟩
      refine ⟨_, M5.cell rfl, ?_⟩
      -- who it is
      have hsm : seq ∈ out := List.mem_of_getElem? hseq
      have hndo : out.Nodup := by
        rw [hout']
        show ((A.L.filter (has h)).map (·.seq)).Nodup
        exact ((List.filter_sublist).map _).nodup wf.nd
      obtain ⟨x, hxH, hxs⟩ : ∃ x ∈ H, x.e.seq = seq := by
        have : seq ∈ (H.filter fun x => decide (x.e.hold = h)).map fun x => x.e.seq := hacc.mem_iff.1 (by
          have h9 := (List.mergeSort_perm l fun x y => decide (x ≤ y)).mem_iff (a := seq)
          rw [hout, ← hout'] at h9
          exact h9.1 hsm)
        obtain ⟨y, hy, he⟩ := List.mem_map.1 this
        exact ⟨y, (List.mem_filter.1 hy).1, he⟩
      have hxD : x ∉ D := fun hd => by
        have h1 : seq ∈ out.take j := by rw [← hDs, ← hxs]; exact List.mem_map.2 ⟨x, hd, rfl⟩
        obtain ⟨t, ht⟩ := List.getElem?_of_mem h1
        have htj : t < j := by
          have := (List.getElem?_eq_some_iff.1 ht).1
          rw [List.length_take] at this; omega
        rw [List.getElem?_take, if_pos htj] at ht
        obtain ⟨g1, g2⟩ := List.getElem?_eq_some_iff.1 ht
        obtain ⟨g3, g4⟩ := List.getElem?_eq_some_iff.1 hseq
        have := (List.getElem_inj hndo).1 (g2.trans g4.symm)
        omega
      have hxj : x ∈ Hj := by
        rcases List.mem_append.1 (hpD.mem_iff.1 hxH) with q | q
        · exact absurd q hxD
        · exact q
      have hndj : (Hj.map fun x : Et => x.e.seq).Nodup := by
        have h2 : ((D ++ Hj).map fun x : Et => x.e.seq).Nodup := by rw [← (hpD.map _).nodup_iff]; exact hndH
        rw [List.map_append] at h2
        exact (List.nodup_append.1 h2).2.1
      subst hxs
      refine ⟨_, _, _, _, _, _, _, _, _, M5.look1 hxj hndj, newE (e0 := En0) (e := x.e) fun w6 b6 c6 z6 => ?_⟩
      have M6 := M5.ch c6 fun _ _ => id
      simp only [add_at, Nat.zero_add]
      refine ⟨_, M6.cell rfl, ?_⟩
      obtain ⟨Hj', hpj⟩ := perm_of_mem hxj
      obtain ⟨w7, hdel, M7, hx7, hxB, hsub7, c7⟩ := M6.del (ty := 0) hpj hndj
      have lt5 := M5.lt
      have hr5 : r < w5.heap.size := lt5 r (mem_qbl.2 (.inr (.inl rfl)))
      have b67 : blk w7 w5.heap.size = some x.e.cells := by rw [c7.blk (blk_lt b6) (by omega)]; exact b6
      refine ⟨w7, hdel, st_blk b67 (by simp [En.cells]) fun w8 b8 c8 z8 => ?_⟩
      have b8 : blk w8 w5.heap.size = some (x.setH 0).e.cells := b8
      have b8d : blk w8.drew w5.heap.size = some (x.setH 0).e.cells := b8
      have c78 := c8.trans' (Ch.drew w8)
      have M8 : QM w8.drew qb A.cf A.last Fj Hj' pj cj ownj r := M7.ch c78 fun b hb he => by have := lt5 b (hsub7 b hb); omega
      have hx8 : EtE.Ok w8.drew (x.setH 0) := EtE.ch hx7 c78 fun b hb he => by have := lt5 b (hxB b hb).1; omega
      have hFl : Fj.length + Hj.length = F.length + H.length := by
        have q1 := hpF.length_eq
        have q2 := hpD.length_eq
        rw [List.length_append] at q1 q2
        rw [List.length_map] at q1
        omega
      refine rdN b8d (qpush_ok M8 hheap (by omega) hx8 (fun b hb => (hxB b hb).2) fun w9 F9 p9 c9 own9 hp9 hheap9 M9 hsub9 c9' => ⟨rfl, ?_⟩)
      have hin : ∀ b, ownj = some b ∨ b = qb → b ∈ qbl qb r ownj Fj Hj := fun b hb => by
        rcases hb with hb | hb
        · exact mem_qbl.2 (.inr (.inr (.inl hb)))
        · exact mem_qbl.2 (.inl hb)
      have c59 : Ch (fun b => b ∈ qbl qb r ownj Fj Hj) w5 w9 := (((c6.mono fun _ _ h => h.elim).trans' (c7.mono fun b _ hb => hb ▸ mem_qbl.2 (.inr (.inl rfl)))).trans c78 fun b hb he => by omega).trans' (c9'.mono fun b _ hb => hin b hb)
      have hno : ∀ b ∈ qbl qb r ownj Fj Hj, ow ≠ some b := fun b hb e => by
        rcases hsub5 b hb with q | q
        · have := old b q; have := fr2 b e; omega
        · exact q.2 e
      have c6s := c6.size
      have c7s := c7.size
      have c78s := c78.size
      refine ⟨out.length - (j + 1), by omega, j + 1, D ++ [x], Hj', F9, p9, c9, own9, ?_, by omega, rfl, hpD.trans ?_, ?_, ?_, hheap9, M9, fun b hb => ?_, o5.ch c59 fun b hb h => hno b h hb, c5.trans c59 fun b hb h => ?_, ?_⟩
      · rw [wrap_id (by omega) (by omega)]; rfl
      · rw [List.append_assoc]; exact hpj.append_left D
      · rw [List.map_append, hDs, List.map_singleton, List.take_add_one, hseq]; rfl
      · refine hp9.trans ?_
        rw [List.map_append, List.map_singleton]
        refine ((hpF.cons _).trans ?_)
        rw [List.append_assoc]
        exact (List.perm_middle (l₁ := D.map (·.setH 0)) (a := x.setH 0) (l₂ := F)).symm
      · rcases hsub9 b hb with q | q | q
        · exact hsub5 b (hsub7 b q)
        · exact hsub5 b (hxB b q).1
        · refine .inr ⟨?_, fun e => ?_⟩
          · have := c5.size; omega
          · have := c5w3 b e; omega
      · rcases hsub5 b h with q | q
        · exact q
        · omega
      · have := c59.size; omega
    · have hje : j = out.length := by
        have : ¬ (j : Int) < (l.length : Int) := by simpa using hge
        omega
      subst hje
      rw [List.take_length, hout'] at hDs
      have hlo : l.length = out.length := hol.symm
      rw [hlo] at o5 ⊢
      rw [hout'] at o5 ⊢
      refine hk p1 _ c1' ow rfl w5 _ ⟨hW, Fj, Hj, pj, cj, ownj, r, M5, E.released wf hpD hpF hDs hheap, rfl⟩ c5 (fun b hb => (hsub5 b hb).imp id fun q => q.1) o5 fun b hb => ⟨fun hq => ?_, by have := fr2 b hb; omega⟩
      rcases hsub5 b hq with q | q
      · have := old b q; have := fr2 b hb; omega
      · exact q.2 hb
  · -- one comes out
    refine .inr ⟨_, _, w3, hrun2, _, _, hent, ?_⟩
    have s2 := c2.size
    have hne : r ≠ w.heap.size := by omega
    unfold asIntV
    simp only [decide_true]
    refine newB_blk fun w4 b4 c4 z4 => asE ?_
    refine stCells_seg _ b4 (by simp [En.cells]) x.e.cells_one fun w5 b5 c5 z5 => ?_
    rw [putSeg_all (by rfl)] at b5
    simp only [add_at, Nat.zero_add]
    refine ⟨_, by rw [cell_blk b5]; rfl, ?_⟩
    have c35 : Ch (fun _ => False) w3 w5 := c4.trans c5 fun b hb he => by omega
    have it5 := it3.ch c35 id id
    have c05 : Ch (fun _ => False) w w5 := (c2.trans c3 fun b hb he => by omega).trans' c35
    have o5 := (o2.ch c3 fun b hb he => by have := fr2 b hb; omega).ch c35 fun _ _ => id
    have hl1 := hpx.length_eq
    rw [List.length_cons] at hl1
    have hsub3 : ∀ y ∈ Hl', y ∈ H := fun y hy => hsub2 y (hpx.mem_iff.2 (List.mem_cons_of_mem _ hy))
    have hperm : ((Hl.filter fun x => decide (x.e.hold = h)).map fun x => x.e.seq).Perm (((x :: Hl').filter fun x => decide (x.e.hold = h)).map fun x => x.e.seq) := (hpx.filter _).map _
    have hacc2 := ((hperm.append_left l).symm.trans hacc)
    refine Sif_cases (fun hh => ?_) fun hh => ?_
    · have hh : x.e.hold = h := by simpa using hh
      refine push_ok (g := iC) (sz := 1) (bytes := 8) Tryz.underlying44 qint_info rfl iC_len iC_one o5 x.e.seq (by omega) (by omega) fun p' c' b' w6 o6 n6 c6 => ?_
      refine ⟨Hl'.length, by omega, l ++ [x.e.seq], Hl', left', b', rfl, o6, fun b hb => ?_, it5.ch c6 (fun e => ?_) (fun e => ?_), hlp', rfl, hsub3, ?_, by rw [List.length_append, List.length_singleton]; omega, c05.trans c6 fun b hb e => ?_⟩
      · rcases n6 b hb with q | q
        · exact fr2 b q
        · have := c05.size; omega
      · have := fr2 _ e; omega
      · have := fr2 _ e; omega
      · rw [List.append_assoc]
        rw [List.filter_cons, if_pos (by simp [hh]), List.map_cons] at hacc2
        exact hacc2
      · have := fr2 b e; omega
    · have hh : ¬ x.e.hold = h := by simpa using hh
      refine ⟨Hl'.length, by omega, l, Hl', left', ow, rfl, o5, fr2, it5, hlp', rfl, hsub3, ?_, by omega, c05⟩
      rw [List.filter_cons, if_neg (by simp [hh])] at hacc2
      exact hacc2
end Go.Proofs.YtipbbjnmpnfhpaaGreatDoor
namespace Go.Sv
open Go
set_option linter.unusedVariables false
theorem putObj_ch (w : World) (l : Nat) (o : Obj) : Ch (· = l) w (w.putObj l o) :=
  ⟨rfl, rfl, rfl, by simp [World.putObj], fun b hb hn => by
    simp only [World.putObj]
    rw [Array.getElem?_setIfInBounds_ne (fun e => hn e.symm)]⟩
theorem putObj_at {w : World} {l : Nat} (h : l < w.heap.size) (o : Obj) : objAt (w.putObj l o) l = some o := by
  unfold objAt
  simp [World.putObj, h]
@[simp] theorem putObj_size (w : World) (l : Nat) (o : Obj) : (w.putObj l o).heap.size = w.heap.size := by simp [World.putObj]
theorem objAt_ch {S : Nat → Prop} {w w' : World} {l : Nat} {o : Obj} (h : objAt w l = some o) (c : Ch S w w') (hn : ¬ S l) : objAt w' l = some o := by
  unfold objAt at h ⊢
  rw [c.keep l (lt_of_heap h) hn]; exact h
theorem objAt_lt {w : World} {l : Nat} {o : Obj} (h : objAt w l = some o) : l < w.heap.size := lt_of_heap h
theorem alloc_obj (w : World) (o : Obj) : objAt (w.alloc o) w.heap.size = some o := heap_alloc_new w o
theorem recAt.put {w : World} {l : Nat} {rc : LoopR} {s s' : LoopState} {j j' : Option Code} (h : recAt w l rc s j) : recAt (w.putObj l (rc s' j')) l rc s' j' := putObj_at (objAt_lt h) _
theorem recAt.ch {S : Nat → Prop} {w w' : World} {l : Nat} {rc : LoopR} {s : LoopState} {j : Option Code} (h : recAt w l rc s j) (c : Ch S w w') (hn : ¬ S l) : recAt w' l rc s j := objAt_ch h c hn
theorem takeM_of {w : World} {r : Nat} {K : World → Prop} (h : objAt w r = some (.deferred (some []))) (hk : ∀ w', Ch (· = r) w w' → w'.heap.size = w.heap.size → K w') : takeM w r K := ⟨h, hk _ (putObj_ch w r _) (by simp)⟩
end Go.Sv
namespace Go.Proofs.YtipbbjnmpnfhpaaGreatDoor
open Go Go.Sv Go.Heap Go.Qu Go.MapKept
set_option linter.unusedVariables false
set_option maxRecDepth 4000
theorem make_ents {w : World} (c : Nat) (hc : c ≤ 2 ^ 40) : ∃ w', (Instr.makeSlice 24 (.int .i64 0) (.int .i64 (c : Int))).run Tryz.prog w = .ok (.slice (some ⟨w.heap.size, 0, none⟩) 0 c) w' ∧
    Ow w' (some ⟨w.heap.size, 0, none⟩) 0 c 7 [] (some w.heap.size) ∧ Ch (fun _ => False) w w' := by
  obtain ⟨i, hi, h1, h2, h3⟩ := entry_info
  have hr := run_make (P := Tryz.prog) w 24 34 i _ Tryz.underlying24 hi h3 .i64 .i64 (0 : Int) (c : Int) (by omega) (by omega) (by rw [h2]; omega) (by omega)
  rw [Int.toNat_natCast, h1] at hr
  refine ⟨_, hr, ⟨rfl, Nat.zero_le _, .inr ⟨_, 0, _, rfl, rfl, alloc_blk w (madeCells (.agg #[.int .i64 0, .int .i64 0, .int .i64 0, .bool false, .int .i64 0, .int .i64 0, .slice none 0 0] : Value).cells (c * 7)).toList 34, ?_, by simp⟩⟩, alloc_ch w _⟩
  simp [madeCells]
/-- copies, gathered since w -/
structure Col (w w' : World) (p : Option Addr) (n c : Nat) (own : Option Nat) (S : List Et) : Prop where
  len : n = S.length
  row : Ow w' p n c 7 ((S.map (·.e)).flatMap En.cells) own
  dat : ∀ x ∈ S, EtE.Ok w' x
  nd : (own.toList ++ eB S).Nodup
  new : ∀ b ∈ own.toList ++ eB S, w.heap.size ≤ b
  ch : Ch (fun _ => False) w w'
theorem Col.lt {w w' : World} {p : Option Addr} {n c : Nat} {own : Option Nat} {S : List Et} (h : Col w w' p n c own S) : ∀ b ∈ own.toList ++ eB S, b < w'.heap.size := fun b hb => by
  rcases List.mem_append.1 hb with hb | hb
  · exact h.row.blt b (by simpa [Option.mem_toList] using hb)
  · obtain ⟨x, hx, ho⟩ := mem_eB.1 hb
    exact (h.dat x hx).blt b ho
theorem Col.next {w w' w2 : World} {p : Option Addr} {n c : Nat} {own : Option Nat} {S : List Et} (h : Col w w' p n c own S) (c2 : Ch (fun b => w.heap.size ≤ b ∧ b ∉ own.toList ++ eB S) w' w2) : Col w w2 p n c own S :=
  ⟨h.len, h.row.ch c2 fun b hb hs => hs.2 (by simp [hb, Option.mem_toList]), fun x hx => EtE.ch (h.dat x hx) c2 fun b hb hs => hs.2 (List.mem_append_right _ (mem_eB.2 ⟨x, hx, by simpa [EtE, Option.mem_toList] using hb⟩)), h.nd, h.new, h.ch.trans c2 fun b hb hs => by omega⟩
theorem Col.next0 {w w' w2 : World} {p : Option Addr} {n c : Nat} {own : Option Nat} {S : List Et} (h : Col w w' p n c own S) (c2 : Ch (fun _ => False) w' w2) : Col w w2 p n c own S := h.next (c2.mono fun _ _ h => h.elim)
theorem Col.push {w w' : World} {p : Option Addr} {n c : Nat} {own : Option Nat} {S : List Et} {x : Et} (h : Col w w' p n c own S) (hx : EtE.Ok w' x) (hd : ∀ b, x.own = some b → w.heap.size ≤ b ∧ b ∉ own.toList ++ eB S) (hn : n ≤ 2 ^ 40) {K : Option Addr → Nat → Nat → World → Prop}
    (hk : ∀ p' c' own' w3, Col w w3 p' (n + 1) c' own' (S ++ [x]) → (∀ b, own' = some b → own = some b ∨ w'.heap.size ≤ b) → Ch (fun b => own = some b) w' w3 → K p' (n + 1) c' w3) :
    newB w' x.e.cells 34 fun a3 w10 => ∃ p5 n18 c5 w11, Sem.run Tryz.prog (Builtin.append_ #[24, 24] 24 #[.slice p n c, .slice (some a3) 1 1]) w10 = .ok (.slice p5 n18 c5) w11 ∧ K p5 n18 c5 w11 := by
  have hlt := h.lt
  obtain ⟨rfl, hrow, hdat, hnd, hnew, hch⟩ := h
  have hl : (S.map (·.e)).length = S.length := List.length_map ..
  rw [← hl] at hrow ⊢
  have hol : ∀ b, own = some b → b ∈ own.toList ++ eB S := fun b hb => by simp [hb, Option.mem_toList]
  refine push_ok (g := En.cells) (sz := 7) (bytes := 72) Tryz.underlying24 entry_info rfl En.cells_len En.cells_one hrow x.e (by rw [hl]; omega) (by rw [hl]; omega) fun p' c' b' w11 o11 n11 c11 => ?_
  have e1 : (List.map (·.e) S ++ [x.e]) = (S ++ [x]).map (·.e) := by simp
  rw [e1] at o11 ⊢
  have e2 : ((S ++ [x]).map (·.e)).length = S.length + 1 := by simp
  rw [e2] at o11 ⊢
  have hndc := List.nodup_append.1 hnd
  have hmem : ∀ b, b ∈ eB (S ++ [x]) ↔ b ∈ eB S ∨ x.own = some b := fun b => by
    rw [eB_app, List.mem_append]
    refine or_congr Iff.rfl ?_
    rw [mem_eB]; simp
  have hxl : ∀ b, x.own = some b → b < w'.heap.size := hx.blt
  have hneq : ∀ b, own = some b → b ∉ eB (S ++ [x]) := fun b hb hm => by
    rcases (hmem b).1 hm with q | q
    · exact hndc.2.2 b (by simp [hb, Option.mem_toList]) b q rfl
    · exact (hd b q).2 (hol b hb)
  refine hk p' c' b' w11 ⟨by simp, o11, fun y hy => ?_, ?_, fun b hb => ?_, hch.trans c11 fun b hb hs => by have := hnew b (hol b hs); omega⟩ n11 c11
  · have hy2 : EtE.Ok w' y := by
      rcases List.mem_append.1 hy with q | q
      · exact hdat y q
      · rw [List.mem_singleton.1 q]; exact hx
    exact EtE.ch hy2 c11 fun b hb hs => hneq b hs (mem_eB.2 ⟨y, hy, by simpa [EtE, Option.mem_toList] using hb⟩)
  · refine List.nodup_append.2 ⟨by cases b' <;> simp, ?_, fun a ha b hb e => ?_⟩
    · rw [eB_app]
      refine List.nodup_append.2 ⟨hndc.2.1, ?_, fun a ha b hb e => ?_⟩
      · have : eB [x] = EtE.B x := by simp [eB]
        rw [this]; exact EtE.nd hx
      · subst e
        have hb' : x.own = some a := by
          obtain ⟨y, hy, ho⟩ := mem_eB.1 hb
          rw [List.mem_singleton.1 hy] at ho; exact ho
        exact (hd a hb').2 (List.mem_append_right _ ha)
    · subst e
      have ha : b' = some a := by simpa [Option.mem_toList] using ha
      rcases n11 a ha with q | q
      · exact hneq a q hb
      · rcases (hmem a).1 hb with z | z
        · have := hlt a (List.mem_append_right _ z); omega
        · have := hxl a z; omega
  · rcases List.mem_append.1 hb with q | q
    · have q : b' = some b := by simpa [Option.mem_toList] using q
      rcases n11 b q with z | z
      · exact hnew b (hol b z)
      · have := hch.size; omega
    · rcases (hmem b).1 q with z | z
      · exact hnew b (List.mem_append_right _ z)
      · exact (hd b z).1
/-- a range over what All gives, in its words: rounds that keep to J -/
structure Rounds (l : Nat) (w1 : World) (p : Option Addr) (S : List Et) (K : Value → World → Prop) : Prop where
  ex : ∃ J : Nat → World → Prop, J 0 w1 ∧ (∀ i w2 w3, J i w2 → Ch (fun _ => False) w2 w3 → J i w3) ∧ (∀ i w2, J i w2 → Rd w2 p S.length 7 ((S.map (·.e)).flatMap En.cells)) ∧
    (∀ i x w2, S[i]? = some x → J i w2 → yieldP Tryz.prog l [x.e.val] w2 fun v w3 => (v = .bool true ∧ J (i + 1) w3) ∨ (v = .bool false ∧ K (.tuple #[]) w3)) ∧ (∀ w2, J S.length w2 → K (.tuple #[]) w2)
theorem yieldP_mono {P : Program} {l : Nat} {args : List Value} {w : World} {K K' : Value → World → Prop} (h : yieldP P l args w K) (hk : ∀ v w', K v w' → K' v w') : yieldP P l args w K' := by
  obtain ⟨fn, tmps, assign, body, h1, h2⟩ := h
  exact ⟨fn, tmps, assign, body, h1, RoundIn.mono h2 fun e w' ⟨v, he, hv⟩ => ⟨v, he, hk _ _ hv⟩⟩
theorem Col.perm {w w' : World} {p : Option Addr} {n c : Nat} {own : Option Nat} {S S' : List Et} {w2 : World} (h : Col w w' p n c own S) (hp : S'.Perm S) (hr : Ow w2 p S'.length c 7 ((S'.map (·.e)).flatMap En.cells) own) (c2 : Ch (fun b => own = some b) w' w2) : Col w w2 p S'.length c own S' := by
  have hndc := List.nodup_append.1 h.nd
  have hm : ∀ b, b ∈ own.toList ++ eB S' → b ∈ own.toList ++ eB S := fun b hb => by
    rcases List.mem_append.1 hb with q | q
    · exact List.mem_append_left _ q
    · exact List.mem_append_right _ ((eB_perm hp).mem_iff.1 q)
  refine ⟨rfl, hr, fun x hx => EtE.ch (h.dat x (hp.mem_iff.1 hx)) c2 fun b hb hs => ?_, ?_, fun b hb => h.new b (hm b hb), h.ch.trans c2 fun b hb hs => ?_⟩
  · exact hndc.2.2 b (by simp [hs, Option.mem_toList]) b (mem_eB.2 ⟨x, hp.mem_iff.1 hx, by simpa [EtE, Option.mem_toList] using hb⟩) rfl
  · exact (((eB_perm hp).append_left _).nodup_iff).2 h.nd
  · have := h.new b (by simp [hs, Option.mem_toList]); omega
theorem qall_ok {w : World} {kb qb l : Nat} {A : AQ} {B : Nat → Prop} {K : Value → World → Prop} (hb : blk w kb = some [.pointer (some ⟨qb, 0, none⟩)]) (Q : QK w qb A B)
    (hk : ∀ w1 S p c own, S.map Et.pe = ordered A.L → Col w w1 p S.length c own S → Rounds l w1 p S K) :
    callP Tryz.prog 26 [.func (.yield l) #[] #[], .pointer (some ⟨kb, 0, none⟩)] w K := by
  obtain ⟨wf, F, H, p, c, own, r, M, E, rfl⟩ := Q
  have old := M.lt
  have hlen := E.len
  have hwl := wf.len
  have hm2 := wf.most2
  have hbd : blk w.drew kb = some [.pointer (some ⟨qb, 0, none⟩)] := hb
  have Md : QM w.drew qb A.cf A.last F H p c own r := M.ch (Ch.drew (S := fun _ => False) _) fun _ _ => id
  refine ok_queue_Queue_All_1 ?_
  unfold wp_queue_Queue_All_1
  simp only [nn_some, add_at, Nat.zero_add]
  refine ⟨_, by rw [cell_blk hbd]; rfl, ?_⟩
  simp only [nn_some, add_at, Nat.zero_add]
  refine ⟨_, _, _, Md.cell rfl, _, by rw [cell_blk hbd]; rfl, ?_⟩
  simp only [nn_some, add_at, Nat.zero_add]
  refine ⟨_, Md.cell rfl, _, Md.mlen, ?_⟩
  rw [wrap_small (by omega) (by omega)]
  have hcap : (F.length : Int) + (H.length : Int) = ((F.length + H.length : Nat) : Int) := by omega
  rw [hcap]
  obtain ⟨w1, hmk, o1, c1⟩ := make_ents (w := w.drew) (F.length + H.length) (by omega)
  have ch1 : Ch (fun _ => False) w w1 := (Ch.drew w).trans' c1
  have C1 : Col w w1 (some ⟨w.heap.size, 0, none⟩) 0 (F.length + H.length) (some w.heap.size) [] := ⟨rfl, o1, (fun x hx => by simp at hx), by simp [eB], (fun b hb => by simp [eB] at hb; omega), ch1⟩
  have hb1 : blk w1 kb = some [.pointer (some ⟨qb, 0, none⟩)] := by rw [ch1.blk (blk_lt hb) id]; exact hb
  refine ⟨_, _, _, w1, hmk, _, by rw [cell_blk hb1]; rfl, ?_⟩
  simp only [nn_some, add_at, Nat.zero_add]
  have M1 := M.ch ch1 fun _ _ => id
  refine ⟨_, _, _, M1.cell rfl, ?_⟩
  have hEl : ∀ x ∈ F ++ H, x.e.n ≤ 2 ^ 46 := fun x hx => by
    have h1 := (wf.ok _ (E.all hx)).len
    have h2 : x.l.length = x.e.n := EtE.len (M.dat x hx)
    have h3 : x.pe.l = x.l := rfl
    rw [h3, h2] at h1
    omega
  refine ⟨fun m p6 n4 c3 i w2 => ∃ (j : Nat) (ow : Option Nat) (S : List Et), i = (j : Int) ∧ j ≤ F.length ∧ m = F.length - j ∧ S.map Et.pe = (F.take j).map Et.pe ∧ Col w w2 p6 n4 c3 ow S, ⟨F.length, 0, _, [], rfl, Nat.zero_le _, rfl, rfl, C1⟩, ?_⟩
  rintro m p6 n4 c3 i w2 ⟨j, ow, S, rfl, hj, rfl, hS, C2⟩
  have hSl : S.length = j := by
    have := congrArg List.length hS
    rw [List.length_map, List.length_map, List.length_take] at this
    omega
  have hn4 := C2.len
  have M2 := M.ch C2.ch fun _ _ => id
  refine Sif_cases (fun hlt => ?_) fun hge => ?_
  · have hlt : j < F.length := by
      have : (j : Int) < (F.length : Int) := by simpa using hlt
      omega
    obtain ⟨x, hx⟩ : ∃ x, F[j]? = some x := ⟨_, List.getElem?_eq_getElem hlt⟩
    have hxe : (F.map (·.e))[j]? = some x.e := by rw [List.getElem?_map, hx]; rfl
    have hxF : x ∈ F ++ H := List.mem_append_left _ (List.mem_of_getElem? hx)
    obtain ⟨kb', o, hpp, hc⟩ := M2.row.rd.at En.cells_len hxe (by decide)
    refine ⟨by omega, by omega, ?_⟩
    rw [hpp]
    simp only [nn_some, add_at, Int.toNat_natCast]
    refine ⟨_, hc 0 _ rfl, _, hc 1 _ rfl, _, hc 2 _ rfl, _, hc 3 _ rfl, _, hc 4 _ rfl, _, hc 5 _ rfl, _, _, _, hc 6 _ rfl, ?_⟩
    refine newE (e0 := En0) (e := x.e) fun w9 b9 c9 z9 => rdN (by simpa using b9) ?_
    have M9 := M2.ch c9 fun _ _ => id
    refine own_ok (e := x.e) (M9.dat x hxF).rd (hEl x hxF) fun w10 y hy hyp hyn c10 => isE ?_
    have C10 := (C2.next0 c9).next0 c10
    refine C10.push hy (fun b hb => ⟨by have := hyn b hb; have := c9.size; have := C2.ch.size; omega, fun h => by have := hyn b hb; have := (C2.next0 c9).lt b h; omega⟩) (by omega) fun p' c' ow' w3 C3 _ _ => ?_
    refine ⟨F.length - (j + 1), by omega, j + 1, ow', S ++ [y], by rw [wrap_id (by omega) (by omega)]; rfl, by omega, rfl, ?_, C3⟩
    rw [List.map_append, hS, List.take_add_one, hx, List.map_append, List.map_singleton, hyp]; rfl
  · have hje : j = F.length := by
      have : ¬ (j : Int) < (F.length : Int) := by simpa using hge
      omega
    subst hje
    rw [List.take_length] at hS
    have hb2 : blk w2 kb = some [.pointer (some ⟨qb, 0, none⟩)] := by rw [C2.ch.blk (blk_lt hb) id]; exact hb
    refine ⟨_, by rw [cell_blk hb2]; rfl, ?_⟩
    simp only [nn_some, add_at, Nat.zero_add]
    refine ⟨_, M2.cell rfl, ?_⟩
    obtain ⟨m0, hm0, hmp0⟩ := M2.map
    obtain ⟨w3, hrun3, hit3, c3', z3⟩ := range_run Tryz.underlying63 hm0
    refine ⟨_, w3, hrun3, ?_⟩
    have hrq : r < w.heap.size := old r (mem_qbl.2 (.inr (.inl rfl)))
    have s2 := C2.ch.size
    refine ⟨fun m p9 n6 c4 w4 => ∃ (Hl D : List Et) (left : List (Value × Value)) (ow : Option Nat) (S : List Et), m = Hl.length ∧ H.Perm (D ++ Hl) ∧ left.Perm (Hl.map pairE) ∧ It (.int .i64) w4 w2.heap.size r m0 left ∧ S.map Et.pe = (F ++ D).map Et.pe ∧ Col w w4 p9 n6 c4 ow S ∧ (∀ b ∈ ow.toList ++ eB S, b ≠ w2.heap.size),
      ⟨H.length, H, [], m0, ow, S, rfl, .refl _, hmp0, hit3, by rw [List.append_nil]; exact hS, C2.next0 c3', fun b hb => by have := C2.lt b hb; omega⟩, ?_⟩
    rintro m p9 n6 c4 w4 ⟨Hl, D, left, ow4, S4, rfl, hpD, hlp, it4, hS4, C4, hne4⟩
    have itl := it4.lt
    have hn6 := C4.len
    have hS4l : S4.length = F.length + D.length := by
      have := congrArg List.length hS4
      rw [List.length_map, List.length_map, List.length_append] at this
      exact this
    have hDl := hpD.length_eq
    rw [List.length_append] at hDl
    rcases next_et (ty := 0) it4 hlp with ⟨rfl, hrun⟩ | ⟨x, Hl', left', w5, hpx, hlp', hrun, hent, it5, c5, z5⟩
    · refine .inl ⟨w4, hrun, ?_⟩
      have hperm : (S4.map Et.pe).Perm A.L := by
        rw [hS4]
        refine List.Perm.trans ?_ E.perm
        rw [List.append_nil] at hpD
        exact ((hpD.symm.append_left F)).map Et.pe
      have hnd : (S4.map fun x : Et => x.e.seq).Nodup := by
        have h1 := (hperm.map (·.seq)).nodup_iff.2 wf.nd
        rw [List.map_map] at h1
        exact h1
      have C4' := C4
      rw [hn6] at C4' ⊢
      refine sortQ_ok (L := S4) C4'.row (by omega) hnd fun w6 S hp hs o6 c6 => ⟨rfl, ?_⟩
      have C6 := C4'.perm hp o6 c6
      have hSA : S.map Et.pe = ordered A.L := ordered_eq wf.nd hs ((hp.map Et.pe).trans hperm)
      obtain ⟨J, hJ0, hJst, hJrd, hJy, hJend⟩ := hk w6 S p9 c4 ow4 hSA C6
      have hSl6 : S.length = S4.length := hp.length_eq
      rw [← hSl6]
      refine ⟨fun m i w => ∃ j : Nat, i = (j : Int) ∧ j ≤ S.length ∧ m = S.length - j ∧ J j w, ⟨S.length, 0, rfl, Nat.zero_le _, rfl, hJ0⟩, ?_⟩
      rintro m i w7 ⟨j, rfl, hj, rfl, hJ⟩
      refine Sif_cases (fun hlt => ?_) fun hge => ?_
      · have hlt : j < S.length := by
          have : (j : Int) < (S.length : Int) := by simpa using hlt
          omega
        obtain ⟨x, hx⟩ : ∃ x, S[j]? = some x := ⟨_, List.getElem?_eq_getElem hlt⟩
        have hxe : (S.map (·.e))[j]? = some x.e := by rw [List.getElem?_map, hx]; rfl
        obtain ⟨kb', o, hpp, hc⟩ := (hJrd j w7 hJ).at En.cells_len hxe (by decide)
        refine ⟨by omega, by omega, ?_⟩
        rw [hpp]
        simp only [nn_some, add_at, Int.toNat_natCast]
        refine ⟨_, hc 0 _ rfl, _, hc 1 _ rfl, _, hc 2 _ rfl, _, hc 3 _ rfl, _, hc 4 _ rfl, _, hc 5 _ rfl, _, _, _, hc 6 _ rfl, ?_⟩
        refine newE (e0 := En0) (e := x.e) fun w9 b9 c9 z9 => rdN (by simpa using b9) ?_
        refine yieldP_mono (hJy j x w9 hx (hJst j w7 w9 hJ c9)) fun v w10 hv => ?_
        rcases hv with ⟨rfl, hJ'⟩ | ⟨rfl, hK⟩
        · exact ⟨true, rfl, Sif_false ⟨S.length - (j + 1), by omega, j + 1, by rw [wrap_id (by omega) (by omega)]; rfl, by omega, rfl, hJ'⟩⟩
        · exact ⟨false, rfl, Sif_true hK⟩
      · have hje : j = S.length := by
          have : ¬ (j : Int) < (S.length : Int) := by simpa using hge
          omega
        subst hje
        exact hJend w7 hJ
    · refine .inr ⟨_, _, w5, hrun, _, _, hent, ?_⟩
      refine newB_blk fun w6 b6 c6 z6 => asE ?_
      refine stCells_seg _ b6 (by simp [En.cells]) x.e.cells_one fun w7 b7 c7 z7 => ?_
      rw [putSeg_all (by rfl)] at b7
      simp only [add_at, Nat.zero_add]
      refine rdN b7 ?_
      have hxH : x ∈ H := hpD.mem_iff.2 (List.mem_append_right _ (hpx.mem_iff.2 (by simp)))
      have hnm : w2.heap.size ∉ ow4.toList ++ eB S4 := fun hm => hne4 _ hm rfl
      have C5 := C4.next (c5.mono fun b _ h => ⟨by omega, h ▸ hnm⟩)
      have c57 : Ch (fun _ => False) w5 w7 := c6.trans c7 fun b hb h => by omega
      have C7 := C5.next0 c57
      have M7 := M.ch C7.ch fun _ _ => id
      refine own_ok (e := x.e) (M7.dat x (List.mem_append_right _ hxH)).rd (hEl x (List.mem_append_right _ hxH)) fun w8 y hy hyp hyn c8 => isE ?_
      have C8 := C7.next0 c8
      refine C8.push hy (fun b hb => ⟨by have := hyn b hb; have := C7.ch.size; omega, fun h => by have := hyn b hb; have := C7.lt b h; omega⟩) (by omega) fun p' c' ow' w9 C9 n9 c9 => ?_
      have hl1 := hpx.length_eq
      rw [List.length_cons] at hl1
      refine ⟨Hl'.length, by omega, Hl', D ++ [x], left', ow', S4 ++ [y], rfl, ?_, hlp', (((it5.ch c57 id id).ch c8 id id).ch c9 (fun e => hne4 _ (by simp [e, Option.mem_toList]) rfl) fun e => ?_), ?_, C9, fun b hb => ?_⟩
      · rw [List.append_assoc]; exact hpD.trans (hpx.append_left D)
      · have := C8.new r (by simp [e, Option.mem_toList]); omega
      · rw [List.map_append, hS4, ← List.append_assoc, List.map_append (l₂ := [x]), List.map_singleton, List.map_singleton, hyp]; rfl
      · rcases List.mem_append.1 hb with q | q
        · have q : ow' = some b := by simpa [Option.mem_toList] using q
          rcases n9 b q with q | q
          · exact hne4 b (by simp [q, Option.mem_toList])
          · have := c8.size; have := c57.size; omega
        · rw [eB_app] at q
          rcases List.mem_append.1 q with q | q
          · exact hne4 b (List.mem_append_right _ q)
          · obtain ⟨z, hz, ho⟩ := mem_eB.1 q
            rw [List.mem_singleton.1 hz] at ho
            have := hyn b ho
            have := c57.size
            omega
end Go.Proofs.YtipbbjnmpnfhpaaGreatDoor
namespace Go.Proofs
open Go.Shelf
def Tryz.lays160_ren : Go.Shelf.Ren := ⟨fun | 160 => 50 | 232 => 76 | 231 => 75 | 227 => 77 | 234 => 79 | 233 => 78 | 236 => 81 | 235 => 80 | 228 => 98 | 271 => 101 | 151 => 100 | 197 => 99 | 120 => 118 | 152 => 117 | 260 => 116 | 137 => 123 | 119 => 124 | 224 => 125 | 225 => 126 | 217 => 128 | 266 => 129 | n => n, fun | 9 => 9 | 4 => 4 | 3 => 3 | 5 => 5 | 117 => 120 | 116 => 119 | 0 => 0 | 124 => 123 | 21 => 21 | 105 => 143 | 46 => 94 | 119 => 162 | 139 => 165 | 138 => 164 | n => n, fun | 3 => 0 | 4 => 1 | n => n⟩
theorem Tryz.lays160 : Go.Proofs.Lays.n160 Tryz.prog Tryz.lays160_ren := {
  mixed := by kernel_rfl
  f119 := Tryz.func124.trans (congrArg some (by kernel_rfl))
  f120 := Tryz.func118.trans (congrArg some (by kernel_rfl))
  f137 := Tryz.func123.trans (congrArg some (by kernel_rfl))
  f151 := Tryz.func100.trans (congrArg some (by kernel_rfl))
  f152 := Tryz.func117.trans (congrArg some (by kernel_rfl))
  f160 := Tryz.func50.trans (congrArg some (by kernel_rfl))
  f197 := Tryz.func99.trans (congrArg some (by kernel_rfl))
  f217 := Tryz.func128.trans (congrArg some (by kernel_rfl))
  f224 := Tryz.func125.trans (congrArg some (by kernel_rfl))
  f225 := Tryz.func126.trans (congrArg some (by kernel_rfl))
  f227 := Tryz.func77.trans (congrArg some (by kernel_rfl))
  f228 := Tryz.func98.trans (congrArg some (by kernel_rfl))
  f231 := Tryz.func75.trans (congrArg some (by kernel_rfl))
  f232 := Tryz.func76.trans (congrArg some (by kernel_rfl))
  f233 := Tryz.func78.trans (congrArg some (by kernel_rfl))
  f234 := Tryz.func79.trans (congrArg some (by kernel_rfl))
  f235 := Tryz.func80.trans (congrArg some (by kernel_rfl))
  f236 := Tryz.func81.trans (congrArg some (by kernel_rfl))
  f260 := Tryz.func116.trans (congrArg some (by kernel_rfl))
  f266 := Tryz.func129.trans (congrArg some (by kernel_rfl))
  f271 := Tryz.func101.trans (congrArg some (by kernel_rfl))
  t0 := Tryz.underlying0
  a0 := Tryz.isAgg0
  z0 := Tryz.sizeOf0
  v0 := Tryz.zeroValue0
  t3 := Tryz.underlying3
  a3 := Tryz.isAgg3
  z3 := Tryz.sizeOf3
  v3 := Tryz.zeroValue3
  t4 := Tryz.underlying4
  a4 := Tryz.isAgg4
  z4 := Tryz.sizeOf4
  v4 := Tryz.zeroValue4
  t5 := Tryz.underlying5
  a5 := Tryz.isAgg5
  z5 := Tryz.sizeOf5
  v5 := Tryz.zeroValue5
  t9 := Tryz.underlying9
  a9 := Tryz.isAgg9
  z9 := Tryz.sizeOf9
  v9 := Tryz.zeroValue9
  t21 := Tryz.underlying21
  a21 := Tryz.isAgg21
  z21 := Tryz.sizeOf21
  v21 := Tryz.zeroValue21
  t46 := Tryz.underlying94
  a46 := Tryz.isAgg94
  z46 := Tryz.sizeOf94
  v46 := Tryz.zeroValue94
  t105 := Tryz.underlying143
  a105 := Tryz.isAgg143
  z105 := Tryz.sizeOf143
  v105 := Tryz.zeroValue143
  t116 := Tryz.underlying119
  a116 := Tryz.isAgg119
  z116 := Tryz.sizeOf119
  t117 := Tryz.underlying120
  a117 := Tryz.isAgg120
  z117 := Tryz.sizeOf120
  v117 := Tryz.zeroValue120
  t119 := Tryz.underlying162
  a119 := Tryz.isAgg162
  z119 := Tryz.sizeOf162
  t124 := Tryz.underlying123
  a124 := Tryz.isAgg123
  z124 := Tryz.sizeOf123
  v124 := Tryz.zeroValue123
  t138 := Tryz.underlying164
  a138 := Tryz.isAgg164
  z138 := Tryz.sizeOf164
  v138 := Tryz.zeroValue164
  t139 := Tryz.underlying165
  a139 := Tryz.isAgg165
  z139 := Tryz.sizeOf165
  v139 := Tryz.zeroValue165
  g3 := by kernel_rfl
  g4 := by kernel_rfl }
end Go.Proofs
namespace Go.Proofs.YtipbbjnmpnfhpaaGreatDoor
open Go Go.Sv Go.Heap Go.Qu Go.MapKept
set_option linter.unusedVariables false
set_option maxRecDepth 4000
def nmSet : List UInt8 := [97, 98, 99, 100, 101, 102, 103, 104, 105, 106, 107, 108, 109, 110, 111, 112, 113, 114, 115, 116, 117, 118, 119, 120, 121, 122, 48, 49, 50, 51, 52, 53, 54, 55, 56, 57, 45, 46, 95]
/-- may a text be a queue's name? -/
def isNm (s : ByteArray) : Bool := decide (1 ≤ s.size) && decide (s.size ≤ 64) && s.data.toList.all fun b => nmSet.contains b
theorem toList_inj {a b : ByteArray} (h : a.toList = b.toList) : a = b := data_ext (by rw [ByteArray.toList_eq, ByteArray.toList_eq] at h; exact h)
theorem dw_nil {α : Type} {p : α → Bool} : ∀ l : List α, l.dropWhile p = [] ↔ ∀ b ∈ l, p b = true
  | [] => by simp
  | a :: l => by
    rw [List.dropWhile_cons]
    cases h : p a
    · simp [h]
    · simp [h, dw_nil l]
theorem trimS_nil (l cs : List UInt8) : Lib.trimS l cs = [] ↔ ∀ b ∈ l, cs.contains b = true := by
  unfold Lib.trimS Lib.trimLeftS Lib.trimRightS
  rw [dw_nil]
  constructor
  · intro h b hb
    have h1 := List.takeWhile_append_dropWhile (p := fun x => cs.contains x) (l := l.reverse)
    have h2 : b ∈ l.reverse := List.mem_reverse.2 hb
    rw [← h1] at h2
    rcases List.mem_append.1 h2 with h2 | h2
    · exact List.all_eq_true.1 (List.all_takeWhile (p := fun x => cs.contains x) (l := l.reverse)) b h2
    · exact h b (List.mem_reverse.2 h2)
  · intro h b hb
    exact h b (List.mem_reverse.1 ((List.dropWhile_sublist _).subset (List.mem_reverse.1 hb)))
theorem trim_ok {s : ByteArray} {w : World} {K : Value → World → Prop} (hs : s.size ≤ 9223372036854775807)
    (hk : ∀ w', Ch (fun _ => False) w w' → K (.string ⟨(Lib.trimS s.data.toList nmSet).toArray⟩) w') : callP Tryz.prog 50 [.string s, .string (ByteArray.mk #[97, 98, 99, 100, 101, 102, 103, 104, 105, 106, 107, 108, 109, 110, 111, 112, 113, 114, 115, 116, 117, 118, 119, 120, 121, 122, 48, 49, 50, 51, 52, 53, 54, 55, 56, 57, 45, 46, 95])] w K := by
  refine (Any.strings_Trim_laid Tryz.lays160 (by kernel_rfl) s (ByteArray.mk #[97, 98, 99, 100, 101, 102, 103, 104, 105, 106, 107, 108, 109, 110, 111, 112, 113, 114, 115, 116, 117, 118, 119, 120, 121, 122, 48, 49, 50, 51, 52, 53, 54, 55, 56, 57, 45, 46, 95]) w hs (by decide) (ascii_of_all (by decide))).mono fun e w' ⟨he, hb⟩ => ⟨_, he, ?_⟩
  obtain ⟨h1, h2, h3, h4, h5⟩ := hb
  exact hk w' ⟨h1, h2, h3, h4, fun b hb _ => h5 b hb⟩
theorem named_ok {s : ByteArray} {w : World} {K : Value → World → Prop} (hs : s.size ≤ 9223372036854775807)
    (hk : ∀ w', Ch (fun _ => False) w w' → K (.bool (isNm s)) w') : callP Tryz.prog 21 [.string s] w K := by
  refine ok_queue_named ?_
  unfold wp_queue_named
  have no : isNm s = false → K (.bool false) w := fun h => h ▸ hk w (Ch.refl _ _)
  refine Sif_cases (fun h1 => Sif_cases (fun h2 => ?_) fun h2 => no ?_) fun h1 => no ?_
  · have h1 : 1 ≤ s.size := by
      have : (s.size : Int) ≥ 1 := by simpa using h1
      omega
    have h2 : s.size ≤ 64 := by
      have : (s.size : Int) ≤ 64 := by simpa using h2
      omega
    refine trim_ok hs fun w' c => ⟨_, rfl, ?_⟩
    have e : ((ByteArray.mk (Lib.trimS s.data.toList nmSet).toArray).toList == (ByteArray.mk #[]).toList) = isNm s := by
      rw [Bool.eq_iff_iff, beq_iff_eq, ByteArray.toList_eq, ByteArray.toList_eq]
      unfold isNm
      simp only [h1, h2, decide_true, Bool.true_and, List.all_eq_true]
      exact trimS_nil _ _
    rw [e]
    exact hk w' c
  · have h2 : ¬ s.size ≤ 64 := by
      have : ¬ (s.size : Int) ≤ 64 := by simpa using h2
      omega
    unfold isNm; simp [h2]
  · have h1 : ¬ 1 ≤ s.size := by
      have : ¬ (s.size : Int) ≥ 1 := by simpa using h1
      omega
    unfold isNm; simp [h1]
/-- may a queue be made so? -/
def cfgOk (c : Cfg) : Bool := isNm c.name && decide (1 ≤ c.most) && decide (c.most ≤ 4096) && decide (0 ≤ c.tries) && decide (c.tries ≤ 4294967295) && (decide (c.dead = ByteArray.mk #[]) || (isNm c.dead && !(decide (c.dead = c.name))))
theorem qnew_ok {c : Cfg} {w : World} {K : Value → World → Prop} (h1 : c.name.size ≤ 9223372036854775807) (h2 : c.dead.size ≤ 9223372036854775807)
    (hno : cfgOk c = false → ∀ w', Ch (fun _ => False) w w' → K (.pointer none) w')
    (hyes : cfgOk c = true → ∀ w' qb B, QK w' qb ⟨c, [], 0⟩ B → (∀ b, B b → w.heap.size ≤ b) → Ch (fun _ => False) w w' → K (.pointer (some ⟨qb, 0, none⟩)) w') : callP Tryz.prog 6 [cfgV c] w K := by
  refine ok_queue_New ?_
  unfold wp_queue_New
  refine newB_blk fun w1 b1 c1 z1 => ?_
  refine ⟨fun w2 => cfgOk c = true ∧ blk w2 w.heap.size = some [.string c.name, .int .i64 c.most, .string c.dead, .int .i64 c.tries, .bool c.dur] ∧ Ch (fun _ => False) w w2, ?_, ?_⟩
  · rintro w2 ⟨hc, b2, c2⟩
    simp only [add_at, Nat.zero_add, cell_blk b2]
    refine ⟨_, rfl, _, rfl, _, rfl, _, rfl, _, rfl, ?_⟩
    obtain ⟨w3, hrun, hm3, c3, z3⟩ := makeMap_run Tryz.prog 63 (.int .i64) w2
    refine ⟨_, w3, hrun, newB_blk fun w4 b4 c4 z4 => ?_⟩
    have hcc := hc
    unfold cfgOk at hcc
    simp only [Bool.and_eq_true, decide_eq_true_eq] at hcc
    refine hyes hc w4 w3.heap.size _ ⟨⟨hcc.1.1.1.1.2, hcc.1.1.1.2, hcc.1.1.2, hcc.1.2, .nil, (fun e he => by simp at he), (fun e he => by simp at he), by simp; omega, Int.le_refl _, by simp⟩, [], [], none, 0, none, w2.heap.size, ⟨b4, by simpa using Ow.nil, ⟨[], hm3.ch c4 id, by simp⟩, (fun x hx => by simp at hx), ?_⟩, ⟨fun c h0 hcn => by simp at hcn, by simp, (fun x hx => by simp at hx), fun x hx => by simp at hx⟩, rfl⟩ (fun b hb => ?_) ((c2.trans' c3).trans' c4)
    · simp [qbl, eB]; omega
    · have := c2.size
      simp [qbl, eB] at hb
      omega
  · have no : cfgOk c = false → ∀ w', Ch (fun _ => False) w1 w' → K (.pointer none) w' := fun h w' c' => hno h w' (c1.trans' c')
    simp only [add_at, Nat.zero_add]
    refine ⟨_, by rw [cell_blk b1]; rfl, named_ok h1 fun w2 c2 => ⟨_, rfl, ?_⟩⟩
    have b2 : blk w2 w.heap.size = some [.string c.name, .int .i64 c.most, .string c.dead, .int .i64 c.tries, .bool c.dur] := by rw [c2.blk (blk_lt b1) id]; exact b1
    rw [Bool.not_not]
    simp only [cell_blk b2]
    refine Sif_cases (fun g1 => ?_) fun g1 => no (by unfold cfgOk; simp [g1]) w2 c2
    have no' : ¬ cfgOk c = true → ∀ w', Ch (fun _ => False) w1 w' → K (.pointer none) w' := fun h => no (by simpa using h)
    have parts : cfgOk c = true ↔ (((((isNm c.name = true ∧ 1 ≤ c.most) ∧ c.most ≤ 4096) ∧ 0 ≤ c.tries) ∧ c.tries ≤ 4294967295) ∧ (c.dead = ByteArray.mk #[] ∨ (isNm c.dead = true ∧ ¬ c.dead = c.name))) := by
      unfold cfgOk
      simp only [Bool.and_eq_true, Bool.or_eq_true, decide_eq_true_eq, Bool.not_eq_true', decide_eq_false_iff_not]
    refine ⟨_, rfl, Sif_cases (fun g2 => ?_) fun g2 => no' (fun h => ?_) w2 c2⟩
    rotate_left
    · have g2 : c.most < 1 := by simpa using g2
      have := (parts.1 h).1.1.1.1.2
      omega
    refine ⟨_, rfl, Sif_cases (fun g3 => ?_) fun g3 => no' (fun h => ?_) w2 c2⟩
    rotate_left
    · have g3 : 4096 < c.most := by simpa using g3
      have := (parts.1 h).1.1.1.2
      omega
    refine ⟨_, rfl, Sif_cases (fun g4 => ?_) fun g4 => no' (fun h => ?_) w2 c2⟩
    rotate_left
    · have g4 : c.tries < 0 := by simpa using g4
      have := (parts.1 h).1.1.2
      omega
    refine ⟨_, rfl, Sif_cases (fun g5 => no' (fun h => ?_) w2 c2) fun g5 => ?_⟩
    · have g5 : 4294967295 < c.tries := by simpa using g5
      have := (parts.1 h).1.2
      omega
    have g2 : 1 ≤ c.most := by
      have : ¬ c.most < 1 := by simpa using g2
      omega
    have g3 : c.most ≤ 4096 := by
      have : ¬ 4096 < c.most := by simpa using g3
      omega
    have g4 : 0 ≤ c.tries := by
      have : ¬ c.tries < 0 := by simpa using g4
      omega
    have g5 : c.tries ≤ 4294967295 := by
      have : ¬ 4294967295 < c.tries := by simpa using g5
      omega
    refine ⟨_, rfl, Sif_cases (fun g6 => ?_) fun g6 => ?_⟩
    · have g6 : ¬ c.dead = ByteArray.mk #[] := fun e => by rw [e] at g6; simp at g6
      refine ⟨_, rfl, named_ok h2 fun w3 c3 => ⟨_, rfl, ?_⟩⟩
      have b3 : blk w3 w.heap.size = some [.string c.name, .int .i64 c.most, .string c.dead, .int .i64 c.tries, .bool c.dur] := by rw [c3.blk (blk_lt b2) id]; exact b2
      rw [Bool.not_not]
      simp only [cell_blk b3]
      refine Sif_cases (fun g7 => ?_) fun g7 => no' (fun h => ?_) w3 (c2.trans' c3)
      · refine ⟨_, rfl, _, rfl, Sif_cases (fun g8 => no' (fun h => ?_) w3 (c2.trans' c3)) fun g8 => ?_⟩
        · have g8 : c.dead = c.name := toList_inj (beq_iff_eq.1 g8)
          rcases (parts.1 h).2 with h | h
          · exact g6 h
          · exact h.2 g8
        · have g8 : ¬ c.dead = c.name := fun e => by rw [e] at g8; simp at g8
          exact ⟨parts.2 ⟨⟨⟨⟨⟨g1, g2⟩, g3⟩, g4⟩, g5⟩, .inr ⟨g7, g8⟩⟩, b3, (c1.trans' c2).trans' c3⟩
      · rcases (parts.1 h).2 with h | h
        · exact g6 h
        · rw [g7] at h; exact Bool.noConfusion h.1
    · have g6 : c.dead = ByteArray.mk #[] := toList_inj (by simpa only [Bool.not_eq_false', beq_iff_eq] using g6)
      exact ⟨parts.2 ⟨⟨⟨⟨⟨g1, g2⟩, g3⟩, g4⟩, g5⟩, .inl g6⟩, b2, c1.trans' c2⟩
end Go.Proofs.YtipbbjnmpnfhpaaGreatDoor
namespace Go.Proofs.YtipbbjnmpnfhpaaGreatDoor
open Go Go.Sv Go.Heap Go.Qu Go.MapKept
set_option linter.unusedVariables false
set_option maxRecDepth 4000
/-- a range over a function begins -/
theorem over_start (w : World) (rc : LoopR) : Ch (fun _ => False) w ((w.alloc (.deferred (some []))).alloc (rc .ready none)) ∧ objAt ((w.alloc (.deferred (some []))).alloc (rc .ready none)) w.heap.size = some (.deferred (some [])) ∧
    recAt ((w.alloc (.deferred (some []))).alloc (rc .ready none)) (w.heap.size + 1) rc .ready none ∧ ((w.alloc (.deferred (some []))).alloc (rc .ready none)).heap.size = w.heap.size + 2 := by
  refine ⟨(alloc_ch w _).trans' (alloc_ch _ _), ?_, ?_, by simp⟩
  · exact objAt_ch (alloc_obj w _) (alloc_ch _ _) id
  · have := alloc_obj (w.alloc (.deferred (some []))) (rc .ready none)
    simpa [recAt] using this
theorem isNilF_f {fn : Fn} {a c : Array Value} {K : Bool → Prop} (h : K false) : isNilF (.func fn a c) K := h
def cQ : Cfg := ⟨⟨#[113]⟩, 2, ⟨#[]⟩, 2, false⟩
def eQ : PE := ⟨5, 4, -1, false, 0, 0, [7]⟩
theorem live_ok {w : World} {K : Value → World → Prop} (hk : ∀ w', Ch (fun _ => False) w w' → K (.bool true) w') : callP Tryz.prog 5 [] w K := by
  refine ok_longshorelaw17_live ?_
  unfold wp_longshorelaw17_live
  refine qnew_ok (c := cQ) (by decide) (by decide) (fun h => absurd h (by decide)) fun _ w1 qb B1 Q1 n1 c1 => ⟨_, rfl, Sif_false ?_⟩
  refine newB_blk fun w2 b2 c2 z2 => ?_
  have Q2 := Q1.ch c2 fun _ _ => id
  have hr : Rd w2 (some ⟨w1.heap.size, 0, none⟩) 1 1 (bytesV [7]) := ⟨rfl, .inr ⟨_, 0, _, rfl, blk_cells b2, by simp, rfl⟩⟩
  have p1 : (AQ.mk cQ [] 0).put eQ = (0, ⟨cQ, [eQ], 5⟩) := rfl
  refine qput_ok (e := ⟨5, 4, -1, false, 0, 0, some ⟨w1.heap.size, 0, none⟩, 1, 1⟩) (l := [7]) Q2 hr (fun a ha _ hb => by cases ha; have := Q1.lt _ hb; simp at this) (by show (1 : Nat) ≤ 2 ^ 46; decide) (by show (5 : Int) ≤ 9223372036854775807; decide) fun w3 B3 Q3 c3 n3 => ⟨_, rfl, ?_⟩
  have Q3 : QK w3 qb ⟨cQ, [eQ], 5⟩ B3 := Q3
  have t1 : (AQ.mk cQ [eQ] 5).take 1 (fun _ => true) = (some { eQ with hold := 1 }, ⟨cQ, [{ eQ with hold := 1 }], 5⟩) := rfl
  refine qtake_ok Q3 (fun h => by rw [t1] at h; cases h) fun y hy x hx w4 B4 Q4 c4 n4 o4 => ⟨_, _, _, _, _, _, _, _, _, _, rfl, ?_⟩
  have Q4 : QK w4 qb ⟨cQ, [{ eQ with hold := 1 }], 5⟩ B4 := Q4
  have hy' : y = { eQ with hold := 1 } := by rw [t1] at hy; cases hy; rfl
  refine newE (e0 := En0) (e := x.e) fun w5 b5 c5 z5 => ?_
  have Q5 := Q4.ch c5 fun _ _ => id
  have k1 : (AQ.mk cQ [{ eQ with hold := 1 }] 5).back 5 1 true = (some ({ eQ with cnt := 1 }, false), ⟨cQ, [{ eQ with cnt := 1 }], 5⟩) := rfl
  refine qback_ok Q5 (fun h => by rw [k1] at h; cases h) fun y2 d hy2 x2 hx2 w6 B6 Q6 c6 n6 o6 => ⟨_, _, _, _, _, _, _, _, _, _, _, rfl, ?_⟩
  have Q6 : QK w6 qb ⟨cQ, [{ eQ with cnt := 1 }], 5⟩ B6 := Q6
  have hy2' : y2 = { eQ with cnt := 1 } ∧ d = false := by rw [k1] at hy2; cases hy2; exact ⟨rfl, rfl⟩
  obtain ⟨rfl, rfl⟩ := hy2'
  subst hy'
  refine newE (e0 := En0) (e := x2.e) fun w7 b7 c7 z7 => ?_
  have Q7 := Q6.ch c7 fun _ _ => id
  refine qlen_ok Q7 ⟨_, _, rfl, ?_⟩
  have Q8 := Q7.ch (Ch.drew (S := fun _ => False) w7) fun _ _ => id
  have b7d : blk w7.drew w6.heap.size = some x2.e.cells := b7
  have hlen1 : (((AQ.mk cQ [{ eQ with cnt := 1 }] 5).L.filter isFree).length : Int) = 1 := rfl
  have hlen2 : (((AQ.mk cQ [{ eQ with cnt := 1 }] 5).L.length : Int) - (((AQ.mk cQ [{ eQ with cnt := 1 }] 5).L.filter isFree).length : Int)) = 0 := rfl
  refine newB_blk fun w9 b9 c9 z9 => ?_
  simp only [add_at, Nat.zero_add]
  refine st_blk b9 (by simp) fun w10 b10 c10 z10 => ?_
  have Q10 := (Q8.ch c9 fun _ _ => id).ch c10 fun b hb h => by have := Q8.lt b hb; omega
  refine ok_queue_Queue_All ?_
  unfold wp_queue_Queue_All
  refine newB_blk fun w11 b11 c11 z11 => ⟨_, rfl, isNilF_f (Sif_false ?_)⟩
  intro l hl rc hrc hy
  have hl : l = w11.heap.size + 1 := by rw [hl]; simp
  obtain ⟨cW, dW, rW, zW⟩ := over_start w11 rc
  subst hl
  generalize (w11.alloc (.deferred (some []))).alloc (rc .ready none) = W at cW dW rW zW
  have Q11 := (Q10.ch c11 fun _ _ => id).ch cW fun _ _ => id
  have hbox : blk W w10.heap.size = some [.pointer (some ⟨qb, 0, none⟩)] := by rw [cW.blk (blk_lt b11) id]; exact b11
  have b10W : blk W w7.drew.heap.size = some [.int .i64 0] := by rw [cW.blk (by have := blk_lt b10; omega) id, c11.blk (blk_lt b10) id]; exact b10
  have s46 := c6.size
  have s34 := c4.size
  have s13 := c3.size
  have hd : w7.drew.heap.size = w7.heap.size := rfl
  have b7W : blk W w6.heap.size = some x2.e.cells := by
    rw [cW.blk (by have := blk_lt b7; omega) id, c11.blk (by have := blk_lt b7; omega) id, c10.blk (by have := blk_lt b7; omega) (by have := blk_lt b7; omega), c9.blk (blk_lt b7d) id]; exact b7d
  have b5W : blk W w4.heap.size = some x.e.cells := by
    have h6 : blk w6 w4.heap.size = some x.e.cells := by rw [c6.blk (blk_lt b5) fun hb => by have := Q4.lt _ hb; omega]; exact b5
    have h7 : blk w7.drew w4.heap.size = some x.e.cells := by rw [(Ch.drew (S := fun _ => False) w7).blk (by have := blk_lt h6; omega) id, c7.blk (blk_lt h6) id]; exact h6
    rw [cW.blk (by have := blk_lt h7; omega) id, c11.blk (by have := blk_lt h7; omega) id, c10.blk (by have := blk_lt h7; omega) (by have := blk_lt h6; omega), c9.blk (blk_lt h7) id]; exact h7
  have c0W : Ch (fun _ => False) w W := by
    refine (((((((((c1.trans' c2).trans c3 fun b hb h => ?_).trans c4 fun b hb h => ?_).trans' c5).trans c6 fun b hb h => ?_).trans' c7).trans' (Ch.drew w7)).trans' c9).trans c10 fun b hb h => ?_).trans' (c11.trans' cW)
    · have := n1 b h; omega
    · rcases n3 b h with h | h
      · have := n1 b h; omega
      · have := c1.size; have := c2.size; omega
    · rcases n4 b h with h | h
      · rcases n3 b h with h | h
        · have := n1 b h; omega
        · have := c1.size; have := c2.size; omega
      · have := c1.size; have := c2.size; have := c3.size; omega
    · have := c1.size; have := c2.size; have := c3.size; omega
  have s11 : w7.drew.heap.size + 1 < w11.heap.size := by omega
  have s04 : w.heap.size ≤ w4.heap.size := by have := c1.size; have := c2.size; omega
  have s6 : w6.heap.size < w7.drew.heap.size := by omega
  have s45 : w4.heap.size < w6.heap.size := by omega
  refine ⟨by kernel_rfl, ?_⟩
  refine qall_ok hbox Q11 fun w12 S p c own hS C12 => ?_
  have hord : ordered [{ eQ with cnt := 1 }] = [{ eQ with cnt := 1 }] := rfl
  rw [hord] at hS
  obtain ⟨z, hzS, hz⟩ : ∃ z, S = [z] ∧ z.pe = { eQ with cnt := 1 } := by
    cases S with
    | nil => simp at hS
    | cons z S =>
      simp only [List.map_cons, List.cons.injEq, List.map_eq_nil_iff] at hS
      exact ⟨z, by rw [hS.2], hS.1⟩
  subst hzS
  have hzq : z.e.seq = 5 := by
    have : z.pe.seq = 5 := by rw [hz]; rfl
    exact this
  have big : ∀ b ∈ own.toList ++ eB [z], W.heap.size ≤ b := C12.new
  refine ⟨fun i v => ∃ m : Int, (i = 0 → m = 0) ∧ (i = 1 → m = 5) ∧ recAt v (w11.heap.size + 1) rc .ready none ∧ objAt v w11.heap.size = some (.deferred (some [])) ∧ blk v w7.drew.heap.size = some [.int .i64 m] ∧ blk v w6.heap.size = some x2.e.cells ∧ blk v w4.heap.size = some x.e.cells ∧ Rd v p 1 7 (([z].map (·.e)).flatMap En.cells) ∧ Ch (fun _ => False) w v,
    ⟨0, fun _ => rfl, fun h => by omega, rW.ch C12.ch id, objAt_ch dW C12.ch id, by rw [C12.ch.blk (blk_lt b10W) id]; exact b10W, by rw [C12.ch.blk (blk_lt b7W) id]; exact b7W, by rw [C12.ch.blk (blk_lt b5W) id]; exact b5W, C12.row.rd, c0W.trans' C12.ch⟩, ?_, ?_, ?_, ?_⟩
  · rintro i v v' ⟨m, h0, h1, hr, hd, hn, h7, h5, hrow, hc⟩ c
    exact ⟨m, h0, h1, hr.ch c id, objAt_ch hd c id, by rw [c.blk (blk_lt hn) id]; exact hn, by rw [c.blk (blk_lt h7) id]; exact h7, by rw [c.blk (blk_lt h5) id]; exact h5, hrow.ch c fun _ _ _ => id, hc.trans' c⟩
  · rintro i v ⟨m, h0, h1, hr, hd, hn, h7, h5, hrow, hc⟩
    exact hrow
  · rintro i y v hi ⟨m, h0, h1, hr, hdf, hn, h7, h5, hrow, hc⟩
    have hi0 : i = 0 ∧ z = y := by
      cases i with
      | zero => exact ⟨rfl, by simpa using hi⟩
      | succ i => simp at hi
    obtain ⟨rfl, rfl⟩ := hi0
    have hm := h0 rfl
    subst hm
    refine hy _ _ _ _ _ _ _ _ _ v _ hr ?_
    refine newE (e0 := En0) (e := z.e) fun v1 x1 e1 y1 => ⟨hr.ch e1 id, ?_⟩
    have r1 := hr.ch e1 id
    have e2 := putObj_ch v1 (w11.heap.size + 1) (rc .busy none)
    have r2 := r1.put (s' := .busy) (j' := none)
    generalize v1.putObj (w11.heap.size + 1) (rc .busy none) = v2 at e2 r2 ⊢
    have lv := objAt_lt hr
    have hn1 : blk v1 w7.drew.heap.size = some [.int .i64 0] := by rw [e1.blk (blk_lt hn) id]; exact hn
    have hn2 : blk v2 w7.drew.heap.size = some [.int .i64 0] := by rw [e2.blk (blk_lt hn1) (by omega)]; exact hn1
    have x2' : blk v2 v.heap.size = some z.e.cells := by rw [e2.blk (blk_lt x1) (by omega)]; exact x1
    simp only [add_at, Nat.zero_add]
    refine ⟨_, by rw [cell_blk hn2]; rfl, _, by rw [cell_blk x2']; rfl, ?_⟩
    refine st_blk hn2 (by simp) fun v3 x3 e3 y3 => ⟨r2.ch e3 (by omega), .inl ⟨by trivial, ?_⟩⟩
    have e4 := putObj_ch v3 (w11.heap.size + 1) (rc .ready none)
    have r4 := (r2.ch e3 (by omega)).put (s' := .ready) (j' := none)
    generalize v3.putObj (w11.heap.size + 1) (rc .ready none) = v4 at e4 r4 ⊢
    have s1 := e1.size
    have s2 := e2.size
    have s3 := e3.size
    have kp : ∀ b cs, b ≠ w11.heap.size + 1 → b ≠ w7.drew.heap.size → blk v b = some cs → blk v4 b = some cs := fun b cs hb hb2 h => by
      have hlt := blk_lt h
      rw [e4.blk (by omega) hb, e3.blk (by omega) hb2, e2.blk (by omega) hb, e1.blk hlt id]; exact h
    have e04 : Ch (fun b => b = w11.heap.size + 1 ∨ b = w7.drew.heap.size) v v4 := (((e1.mono fun _ _ h => h.elim).trans' (e2.mono fun b _ h => .inl h)).trans' (e3.mono fun b _ h => .inr h)).trans' (e4.mono fun b _ h => .inl h)
    refine ⟨5, (fun h => by omega), (fun _ => rfl), r4, objAt_ch hdf e04 (by omega), ?_, kp _ _ (by have := blk_lt b7W; have := blk_lt b7; omega) (by omega) h7, kp _ _ (by have := blk_lt b5; omega) (by have := blk_lt b5; omega) h5, hrow.ch e04 fun a ha h0 hb => ?_, hc.trans e04 fun b hb h => by omega⟩
    · have hlt := blk_lt x3
      rw [e4.blk hlt (by omega)]
      have : ([.int .i64 0] : List Value).set 0 (.int .i64 (IntKind.wrap .i64 (0 + z.e.seq))) = [.int .i64 5] := by
        rw [hzq]; rfl
      rw [this] at x3
      exact x3
    · obtain ⟨_, g2, g3⟩ := C12.row
      have g2 : 1 ≤ c := g2
      rcases g3 with ⟨_, g3⟩ | ⟨k, o, cs, e5, e6, _⟩
      · omega
      · rw [e6] at ha; cases ha
        have := big k (by simp [e5, Option.mem_toList])
        have hb : k = w11.heap.size + 1 ∨ k = w7.drew.heap.size := hb
        omega
  · rintro v ⟨m, h0, h1, hr, hdf, hn, h7, h5, hrow, hc⟩
    have hm := h1 rfl
    subst hm
    refine .inl ⟨hr, ?_⟩
    have e2 := putObj_ch v (w11.heap.size + 1) (rc .exhausted none)
    generalize v.putObj (w11.heap.size + 1) (rc .exhausted none) = v2 at e2 ⊢
    have hdf2 := objAt_ch hdf e2 (by omega)
    have hn2 : blk v2 w7.drew.heap.size = some [.int .i64 5] := by rw [e2.blk (blk_lt hn) (by omega)]; exact hn
    have h72 : blk v2 w6.heap.size = some x2.e.cells := by rw [e2.blk (blk_lt h7) (by have := blk_lt b7; omega)]; exact h7
    have h52 : blk v2 w4.heap.size = some x.e.cells := by rw [e2.blk (blk_lt h5) (by have := blk_lt b5; omega)]; exact h5
    have hxh : x.e.hold = 1 := by
      have : x.pe.hold = 1 := by rw [hx]
      exact this
    have hxc : x2.e.cnt = 1 := by
      have : x2.pe.cnt = 1 := by rw [hx2]
      exact this
    have hxn : x2.e.n = 1 := by
      have h9 := EtE.len o6.ok
      have : x2.pe.l.length = 1 := by rw [hx2]; rfl
      rw [← h9]; exact this
    simp only [cell_blk h72, cell_blk h52, cell_blk hn2]
    refine Sif_true (Sif_true ⟨_, rfl, ?_⟩)
    rw [hxh]
    refine Sif_true (Sif_true (Sif_true ⟨_, rfl, ?_⟩))
    rw [hxc]
    refine Sif_true ⟨_, _, _, rfl, ?_⟩
    rw [hxn]
    refine Sif_true (Sif_true (Sif_true ⟨_, rfl, ?_⟩))
    exact takeM_of hdf2 fun v3 e3 y3 => hk v3 ((hc.trans e2 fun b hb h => by omega).trans e3 fun b hb h => by omega)
end Go.Proofs.YtipbbjnmpnfhpaaGreatDoor
namespace Go.Proofs.YtipbbjnmpnfhpaaGreatDoor
open Go Go.Sv Go.Heap Go.Qu Go.MapKept
set_option linter.unusedVariables false
set_option maxRecDepth 4000
theorem take_eB {G : List Et} {j b : Nat} (h : b ∈ eB (G.take j)) : b ∈ eB G := by
  obtain ⟨x, hx, hb⟩ := mem_eB.1 h
  exact mem_eB.2 ⟨x, List.mem_of_mem_take hx, hb⟩
theorem pushL2 {w : World} {p : Option Addr} {n c : Nat} {G : List Et} {ow : Option Nat} (hn : G.length = n) (ho : Ow w p n c 7 ((G.map (·.e)).flatMap En.cells) ow) (x : Et) (h : n ≤ 2 ^ 36) {K : Option Addr → Nat → Nat → World → Prop}
    (hk : ∀ p' c' b' w', Ow w' p' (n + 1) c' 7 (((G ++ [x]).map (·.e)).flatMap En.cells) b' → (∀ k, b' = some k → ow = some k ∨ w.heap.size ≤ k) → Ch (fun k => ow = some k) w w' → K p' (n + 1) c' w') :
    newB w x.e.cells 34 fun a w2 => ∃ p5 n7 c5 w3, Sem.run Tryz.prog (Builtin.append_ #[24, 24] 24 #[.slice p n c, .slice (some a) 1 1]) w2 = .ok (.slice p5 n7 c5) w3 ∧ K p5 n7 c5 w3 := by
  subst hn
  refine pushL ho x h fun p' c' b' w' o n c => ?_
  have e : (G ++ [x]).length = G.length + 1 := by simp
  rw [e] at o ⊢
  exact hk p' c' b' w' o n c
/-- an element's block is no other's -/
theorem eB_other {G : List Et} (h : (eB G).Nodup) {j : Nat} {x : Et} (hx : G[j]? = some x) {b : Nat} (hb : x.own = some b) : b ∉ eB (G.take j) := fun hm => by
  obtain ⟨z, hz, hzb⟩ := mem_eB.1 hm
  rw [split_at hx, eB_app, eB_cons] at h
  exact (List.nodup_append.1 h).2.2 b hm b (List.mem_append_left _ (by simp [EtE, hb])) rfl
set_option maxHeartbeats 1000000 in
theorem sameAll_ok {Bp : World → Nat → (Nat → Prop) → Prop} {kb m : Nat} (HB : BookLike kb Bp) {w : World} {D : Nat → Prop} {p q : Option Addr} {c c2 : Nat} {own : Option Nat} {G M : List Et} {K : Value → World → Prop} (hb : Bp w m D) (row : Ow w p G.length c 7 ((G.map (·.e)).flatMap En.cells) own) (dat : ∀ x ∈ G, EtE.Ok w x) (nd : (eB G).Nodup)
    (ow : ∀ b, own = some b → ¬ D b ∧ b ∉ eB G) (off : ∀ b ∈ eB G, ¬ D b) (rowM : Rd w q M.length 7 ((M.map (·.e)).flatMap En.cells)) (datM : ∀ x ∈ M, EtE.Ok w x) (he : G.map Et.pe = M.map Et.pe) (hs : ∀ x ∈ G, x.l.length ≤ 2 ^ 20) (hm : m + G.length ≤ 2 ^ 34)
    (hk : ∀ w' D', Bp w' (m + G.length) D' → (∀ b, D' b → D b ∨ b ∈ eB G ∨ w.heap.size ≤ b) → Ch (fun b => D b ∨ b ∈ eB G) w w' → K (.bool true) w') :
    callP Tryz.prog 13 [.pointer (some ⟨kb, 0, none⟩), .slice p G.length c, .slice q M.length c2] w K := by
  have hlen : G.length = M.length := by have := congrArg List.length he; simpa using this
  have hDl := HB.lt hb
  refine ok_longshorelaw17_sameAll ?_
  unfold wp_longshorelaw17_sameAll
  rw [show ((G.length : Int) != (M.length : Int)) = false by rw [hlen]; simp]
  refine Sif_false ?_
  refine ⟨fun mm i w' => ∃ j : Nat, i = (j : Int) ∧ j ≤ G.length ∧ mm = G.length - j ∧ Ch (fun _ => False) w w', ⟨G.length, 0, rfl, Nat.zero_le _, rfl, Ch.refl _ _⟩, ?_⟩
  rintro mm i w1 ⟨j, rfl, hj, rfl, c1⟩
  refine Sif_cases (fun hlt => ?_) fun hge => ?_
  · have hlt : j < G.length := by have := of_decide_eq_true hlt; omega
    obtain ⟨x, hx⟩ : ∃ x, G[j]? = some x := ⟨_, List.getElem?_eq_getElem hlt⟩
    obtain ⟨y, hy⟩ : ∃ y, M[j]? = some y := ⟨_, List.getElem?_eq_getElem (by omega)⟩
    have hpe : x.pe = y.pe := by
      have h := congrArg (fun l => l[j]?) he
      simp only [List.getElem?_map, hx, hy, Option.map_some] at h
      exact Option.some.inj h
    have hxe : (G.map (·.e))[j]? = some x.e := by rw [List.getElem?_map, hx]; rfl
    have hye : (M.map (·.e))[j]? = some y.e := by rw [List.getElem?_map, hy]; rfl
    have c1d : Ch (fun _ => False) w w1.drew := c1.trans' (Ch.drew w1)
    obtain ⟨kx, ox, hpx, hcx⟩ := (row.rd.ch c1d fun _ _ _ => id).at En.cells_len hxe (by decide)
    obtain ⟨ky, oy, hpy, hcy⟩ := (rowM.ch c1d fun _ _ _ => id).at En.cells_len hye (by decide)
    rw [hpx, hpy]
    simp only [nn_some, add_at, Int.toNat_natCast]
    refine ⟨by omega, by omega, by omega, by omega, ?_⟩
    refine ⟨_, hcx 0 _ rfl, _, hcx 1 _ rfl, _, hcx 2 _ rfl, _, hcx 3 _ rfl, _, hcx 4 _ rfl, _, hcx 5 _ rfl, _, _, _, hcx 6 _ rfl, ?_⟩
    refine ⟨_, hcy 0 _ rfl, _, hcy 1 _ rfl, _, hcy 2 _ rfl, _, hcy 3 _ rfl, _, hcy 4 _ rfl, _, hcy 5 _ rfl, _, _, _, hcy 6 _ rfl, ?_⟩
    have hyl : y.l = x.l := (congrArg PE.l hpe).symm
    refine same_ok (a := x.e) (b := y.e) (l := x.l) (EtE.ch (dat x (List.mem_of_getElem? hx)) c1d fun _ _ => id).rd (by have := (EtE.ch (datM y (List.mem_of_getElem? hy)) c1d fun _ _ => id).rd; rw [hyl] at this; exact this) (by
      show x.pe = y.e.as x.l
      rw [hpe, ← hyl]; rfl) fun w2 c2 => ⟨true, rfl, Sif_false ?_⟩
    rw [nameI_iff, wrap_id (by omega) (by omega)]
    exact ⟨G.length - (j + 1), by omega, j + 1, by omega, by omega, rfl, c1d.trans' c2⟩
  -- they are taken
  refine ⟨fun mm i w' => ∃ (j : Nat) (Dj : Nat → Prop), i = (j : Int) ∧ j ≤ G.length ∧ mm = G.length - j ∧ Bp w' (m + j) Dj ∧ (∀ b, Dj b → D b ∨ b ∈ eB (G.take j) ∨ w.heap.size ≤ b) ∧ Ch (fun b => D b ∨ b ∈ eB (G.take j)) w w', ⟨G.length, 0, D, rfl, Nat.zero_le _, rfl, HB.ch hb c1 fun _ _ => id, (fun b hb => .inl hb), c1.mono fun _ _ h => h.elim⟩, ?_⟩
  rintro mm i w2 ⟨j, Dj, rfl, hj, rfl, bj, hDj, c2⟩
  refine Sif_cases (fun hlt => ?_) fun hge => ?_
  · have hlt : j < G.length := by have := of_decide_eq_true hlt; omega
    obtain ⟨x, hx⟩ : ∃ x, G[j]? = some x := ⟨_, List.getElem?_eq_getElem hlt⟩
    have hxm := List.mem_of_getElem? hx
    have hxe : (G.map (·.e))[j]? = some x.e := by rw [List.getElem?_map, hx]; rfl
    have hrow : Ow w2 p G.length c 7 ((G.map (·.e)).flatMap En.cells) own := row.ch c2 fun b hb h => by
      rcases h with h | h
      · exact (ow b hb).1 h
      · exact (ow b hb).2 (take_eB h)
    obtain ⟨kx, ox, hpx, hcx⟩ := hrow.rd.at En.cells_len hxe (by decide)
    rw [hpx]
    simp only [nn_some, add_at, Int.toNat_natCast]
    refine ⟨by omega, by omega, _, hcx 0 _ rfl, _, hcx 1 _ rfl, _, hcx 2 _ rfl, _, hcx 3 _ rfl, _, hcx 4 _ rfl, _, hcx 5 _ rfl, _, _, _, hcx 6 _ rfl, ?_⟩
    have hxo : ∀ b, x.own = some b → ¬ D b ∧ b ∉ eB (G.take j) ∧ b < w.heap.size := fun b hb => ⟨off b (mem_eB.2 ⟨x, hxm, hb⟩), eB_other nd hx hb, (dat x hxm).blt b hb⟩
    have hx2 : EtE.Ok w2 x := EtE.ch (dat x hxm) c2 fun b hb h => by
      have hb : x.own = some b := by simpa [EtE, Option.mem_toList] using hb
      rcases h with h | h
      · exact (hxo b hb).1 h
      · exact (hxo b hb).2.1 h
    have hxl := EtE.len hx2
    have hx20 := hs x hxm
    refine HB.take bj hx2 (fun b hb h => ?_) (by omega) (by omega) fun w3 D' b3 c3 hD' => ⟨rfl, ?_⟩
    · rcases hDj b h with q | q | q
      · exact (hxo b hb).1 q
      · exact (hxo b hb).2.1 q
      · have := (hxo b hb).2.2; omega
    have hin : ∀ b, x.own = some b → b ∈ eB (G.take (j + 1)) := fun b hb => mem_eB.2 ⟨x, by rw [List.take_add_one, hx]; simp, hb⟩
    have hup : ∀ b, b ∈ eB (G.take j) → b ∈ eB (G.take (j + 1)) := fun b hb => by rw [List.take_add_one, eB_app]; exact List.mem_append_left _ hb
    have s2 := c2.size
    rw [nameI_iff, wrap_id (by omega) (by omega)]
    refine ⟨G.length - (j + 1), by omega, j + 1, D', by omega, by omega, rfl, by rw [← Nat.add_assoc]; exact b3, fun b hb => ?_, (c2.mono fun b _ h => h.imp id (hup b)).trans c3 fun b hb h => ?_⟩
    · rcases hD' b hb with q | q | q
      · rcases hDj b q with q | q | q
        · exact .inl q
        · exact .inr (.inl (hup b q))
        · exact .inr (.inr q)
      · exact .inr (.inl (hin b q))
      · exact .inr (.inr (by omega))
    · rcases h with h | h
      · rcases hDj b h with q | q | q
        · exact .inl q
        · exact .inr (hup b q)
        · omega
      · exact .inr (hin b h)
  · have hje : j = G.length := by have := of_decide_eq_false hge; omega
    subst hje
    rw [List.take_length] at hDj c2
    exact hk w2 Dj bj hDj c2
theorem map_take_eq {G M : List Et} {k : Nat} (h : G.map Et.pe = M.map Et.pe) : (G.take k).map Et.pe = (M.take k).map Et.pe := by rw [List.map_take, List.map_take, h]
set_option maxHeartbeats 2000000 in
theorem alls_ok {Qt : Nat → Prop} {Bp : World → Nat → (Nat → Prop) → Prop} {kb m qb rb : Nat} (HB : BookLike kb Bp) {w : World} {A : AQ} {B C D : Nat → Prop} {most : Int} {K : Value → World → Prop} (hb : Bp w m D) (Q : QK w qb A B) (R : RQ Qt w rb A C) (hBC : ∀ b, B b → ¬ C b) (hDB : ∀ b, D b → ¬ B b) (hDC : ∀ b, D b → ¬ C b) (hm : m ≤ 2 ^ 33)
    (hk : ∀ w' m' D', Bp w' m' D' → m' ≤ m + 4096 → QK w' qb A B → RQ Qt w' rb A C → (∀ b, D' b → D b ∨ w.heap.size ≤ b) → Ch D w w' → K (.bool true) w') :
    callP Tryz.prog 14 [.pointer (some ⟨kb, 0, none⟩), .pointer (some ⟨qb, 0, none⟩), .pointer (some ⟨rb, 0, none⟩), .int .i64 most] w K := by
  have hDl := HB.lt hb
  have hBl := Q.lt
  have hCl := R.lt
  have wf := Q.wf
  have hlen := wf.len
  have hmost2 := wf.most2
  refine ok_longshorelaw17_alls ?_
  unfold wp_longshorelaw17_alls
  refine newB_blk fun w1 b1 c1 z1 => ?_
  refine rall_ok (R.ch c1 fun _ _ => id) fun pM cM w2 M oM hM datM rowM newM c2 => ⟨_, _, _, rfl, ?_⟩
  have hMl : M.length = A.L.length := by
    have := congrArg List.length hM
    rw [List.length_map, (ordered_perm A.L).length_eq] at this
    exact this
  refine newB_blk fun w3 b3 c3 z3 => ?_
  refine ok_queue_Queue_All ?_
  unfold wp_queue_Queue_All
  refine newB_blk fun w4 b4 c4 z4 => ⟨_, rfl, isNilF_f (Sif_false ?_)⟩
  intro l hl rc hrc hy
  have hl : l = w4.heap.size + 1 := by rw [hl]; simp
  obtain ⟨cW, dW, rW, zW⟩ := over_start w4 rc
  subst hl
  generalize (w4.alloc (.deferred (some []))).alloc (rc .ready none) = W at cW dW rW zW
  refine ⟨by kernel_rfl, ?_⟩
  have c4W : Ch (fun _ => False) w3 W := c4.trans' cW
  have c0W : Ch (fun _ => False) w W := ((c1.trans' c2).trans' c3).trans' c4W
  have c2W : Ch (fun _ => False) w2 W := c3.trans' c4W
  have s1 := c1.size
  have s2 := c2.size
  have szs : w.heap.size + 1 ≤ w2.heap.size ∧ w3.heap.size = w2.heap.size + 1 ∧ w4.heap.size = w3.heap.size + 1 ∧ W.heap.size = w4.heap.size + 2 := by omega
  have bqW : blk W w3.heap.size = some [.pointer (some ⟨qb, 0, none⟩)] := by rw [cW.blk (blk_lt b4) id]; exact b4
  have aW : blk W w.heap.size = some [.int .i64 most] := by rw [((c2.trans' c2W)).blk (blk_lt b1) id]; exact b1
  have lW : blk W w2.heap.size = some [.slice none 0 0] := by rw [c4W.blk (blk_lt b3) id]; exact b3
  refine qall_ok bqW (Q.ch c0W fun _ _ => id) fun W1 S p c own hS C13 => ?_
  have hSM : S.map Et.pe = M.map Et.pe := hS.trans hM.symm
  have hSl : S.length = M.length := by have := congrArg List.length hSM; simpa using this
  have hS4 : S.length ≤ 4096 := by omega
  have sW1 := C13.ch.size
  have hnew := C13.new
  have hlt1 : ∀ b ∈ own.toList ++ eB S, b < W1.heap.size := fun b hb => by
    rcases List.mem_append.1 hb with h | h
    · exact C13.row.blt b (by simpa [Option.mem_toList] using h)
    · obtain ⟨x, hx, hxb⟩ := mem_eB.1 h
      exact (C13.dat x hx).blt b hxb
  -- what stands in the rounds' worlds
  let X : Nat → Prop := fun b => b = w2.heap.size ∨ b = w4.heap.size + 1 ∨ W1.heap.size ≤ b
  have aV : ∀ v, Ch X W1 v → blk v w.heap.size = some [.int .i64 most] := fun v cc => by
    rw [cc.blk (by have := blk_lt aW; omega) (by show ¬ (_ ∨ _ ∨ _); omega), C13.ch.blk (blk_lt aW) id]; exact aW
  have dV : ∀ v, Ch X W1 v → objAt v w4.heap.size = some (.deferred (some [])) := fun v cc => objAt_ch (objAt_ch dW C13.ch id) cc (by show ¬ (_ ∨ _ ∨ _); omega)
  have rowV : ∀ v, Ch X W1 v → Rd v p S.length 7 ((S.map (·.e)).flatMap En.cells) := fun v cc => (C13.row.ch cc fun b hb h => by
    have h1 := hlt1 b (by simp [hb, Option.mem_toList])
    have h2 := hnew b (by simp [hb, Option.mem_toList])
    have h : b = w2.heap.size ∨ b = w4.heap.size + 1 ∨ W1.heap.size ≤ b := h
    omega).rd
  have datV : ∀ v, Ch X W1 v → ∀ x ∈ S, EtE.Ok v x := fun v cc x hx => EtE.ch (C13.dat x hx) cc fun b hb h => by
    have hm : b ∈ own.toList ++ eB S := List.mem_append_right _ (mem_eB.2 ⟨x, hx, by simpa [EtE, Option.mem_toList] using hb⟩)
    have h1 := hlt1 b hm
    have h2 := hnew b hm
    have h : b = w2.heap.size ∨ b = w4.heap.size + 1 ∨ W1.heap.size ≤ b := h
    omega
  have hMlt : ∀ b, oM = some b → b < w2.heap.size := rowM.blt
  have c2V : ∀ v, Ch X W1 v → Ch (fun b => w2.heap.size ≤ b) w2 v := fun v cc => ((c2W.trans' C13.ch).mono fun _ _ h => h.elim).trans cc fun b hb h => by
    have h : b = w2.heap.size ∨ b = w4.heap.size + 1 ∨ W1.heap.size ≤ b := h
    omega
  -- behind the range
  have tail : ∀ (v : World) (pl : Option Addr) (k cl : Nat) (ol : Option Nat) (K1 : World → Prop), k ≤ S.length → Ch X W1 v → blk v w2.heap.size = some [.slice pl k cl] → Ow v pl k cl 7 (((S.take k).map (·.e)).flatMap En.cells) ol → (∀ b, ol = some b → W1.heap.size ≤ b) →
      ∃ p2 n2 c2, v.cell? ⟨w2.heap.size, 0, none⟩ = some (.slice p2 n2 c2) ∧ callP Tryz.prog 13 [.pointer (some ⟨kb, 0, none⟩), .slice p2 n2 c2, .slice pM k cM] v fun v3 w7 => ∃ b, v3 = .bool b ∧ takeM w7 w4.heap.size fun w8 => K (.bool b) w8 := fun v pl k cl ol _ hkS cc hl1 ho hol => by
    refine ⟨_, _, _, by rw [cell_blk hl1]; rfl, ?_⟩
    have hkl : (S.take k).length = k := by rw [List.length_take]; omega
    have hkm : (M.take k).length = k := by rw [List.length_take]; omega
    have h0 : ∀ b, b < w.heap.size → b < W1.heap.size ∧ ¬ X b := fun b hb => ⟨by omega, by show ¬ (_ ∨ _ ∨ _); omega⟩
    have cv : Ch (fun _ => False) w v := (c0W.trans' C13.ch).trans cc fun b hb h => (h0 b hb).2 h
    have hrm : Rd v pM (M.take k).length 7 (((M.take k).map (·.e)).flatMap En.cells) := by
      have h := (rowM.ch (c2V v cc) fun b hb h => by have := hMlt b hb; omega).rd
      have hml : (M.map (·.e)).length = M.length := List.length_map ..
      have := Rd.take h (m := k) (by omega)
      rw [flat_take En.cells_len, ← List.map_take] at this
      rw [hkm]; exact this
    have key := sameAll_ok (kb := kb) (m := m) (q := pM) (c := cl) (c2 := cM) (G := S.take k) (M := M.take k) (p := pl) (own := ol) (K := fun v3 w7 => ∃ b, v3 = .bool b ∧ takeM w7 w4.heap.size fun w8 => K (.bool b) w8) HB (HB.ch hb cv fun _ _ => id) (by rw [hkl]; exact ho) (fun x hx => datV v cc x (List.mem_of_mem_take hx)) ?_ (fun b hb => ⟨fun h => ?_, fun h => ?_⟩) (fun b hb h => ?_) hrm (fun x hx => EtE.ch (datM x (List.mem_of_mem_take hx)) (c2V v cc) fun b hb h => ?_) (map_take_eq hSM) (fun x hx => ?_) (by rw [hkl]; omega) fun w' D' b' hD' c' => ⟨true, rfl, ?_⟩
    · rw [hkl, hkm] at key; exact key
    · have := (List.nodup_append.1 C13.nd).2.1
      rw [← List.take_append_drop k S, eB_app] at this
      exact (List.nodup_append.1 this).1
    · have := hDl b h; have := hol b hb; omega
    · have := hlt1 b (List.mem_append_right _ (take_eB h)); have := hol b hb; omega
    · have := hDl b h; have := hnew b (List.mem_append_right _ (take_eB hb)); omega
    · have := (datM x (List.mem_of_mem_take hx)).blt b (by simpa [EtE, Option.mem_toList] using hb); omega
    · have hxA : x.pe ∈ A.L := (ordered_perm A.L).mem_iff.1 (by rw [← hS]; exact List.mem_map.2 ⟨x, List.mem_of_mem_take hx, rfl⟩)
      exact (wf.ok _ hxA).len
    · rw [hkl] at b'
      have hlv := (objAt_lt (dV v cc))
      have hne : ∀ b, D b ∨ b ∈ eB (S.take k) → b ≠ w4.heap.size := fun b h => by
        rcases h with h | h
        · have := hDl b h; omega
        · have := hnew b (List.mem_append_right _ (take_eB h)); omega
      refine takeM_of (objAt_ch (dV v cc) c' fun h => hne _ h rfl) fun w8 c8 z8 => ?_
      have sv := cv.size
      have hnx : ∀ b, D' b → b ≠ w4.heap.size := fun b hb e => by
        rcases hD' b hb with q | q | q
        · exact hne b (.inl q) e
        · exact hne b (.inr q) e
        · omega
      have cw : Ch D w w8 := ((cv.mono fun _ _ h => h.elim).trans c' fun b hb h => by
        rcases h with h | h
        · exact h
        · have := hnew b (List.mem_append_right _ (take_eB h)); omega).trans c8 fun b hb h => by have h : b = w4.heap.size := h; omega
      exact hk w8 (m + k) D' (HB.ch b' c8 hnx) (by omega) (Q.ch cw fun b hb h => hDB b h hb) (R.ch cw fun b hb h => hDC b h hb) (fun b hb => by
        rcases hD' b hb with q | q | q
        · exact .inl q
        · have := hnew b (List.mem_append_right _ (take_eB q)); exact .inr (by omega)
        · exact .inr (by omega)) cw
  have fin : ∀ (v : World) (pl : Option Addr) (k cl : Nat) (ol : Option Nat), k ≤ S.length → Ch X W1 v → blk v w2.heap.size = some [.slice pl k cl] → Ow v pl k cl 7 (((S.take k).map (·.e)).flatMap En.cells) ol → (∀ b, ol = some b → W1.heap.size ≤ b) → (0 < most ∧ most < (S.length : Int) → (k : Int) = most) → (¬ (0 < most ∧ most < (S.length : Int)) → k = S.length) →
      ∃ (J : Option Addr → Nat → Nat → World → Prop), (∀ (p1 : Option Addr) (n1 c1 : Nat) (w6 : World), J p1 n1 c1 w6 → ∃ p2 n2 c2, w6.cell? ⟨w2.heap.size, 0, none⟩ = some (.slice p2 n2 c2) ∧ callP Tryz.prog 13 [.pointer (some ⟨kb, 0, none⟩), .slice p2 n2 c2, .slice p1 n1 c1] w6 fun v3 w7 => ∃ b, v3 = .bool b ∧ takeM w7 w4.heap.size fun w8 => K (.bool b) w8) ∧
        ∃ n1 : Int, v.cell? ⟨w.heap.size, 0, none⟩ = some (.int .i64 n1) ∧ Sif (decide (n1 > 0)) (∃ n2 : Int, v.cell? ⟨w.heap.size, 0, none⟩ = some (.int .i64 n2) ∧ Sif (decide ((M.length : Int) > n2)) (∃ n3 : Int, v.cell? ⟨w.heap.size, 0, none⟩ = some (.int .i64 n3) ∧ 0 ≤ n3 ∧ n3 ≤ (cM : Int) ∧ J pM n3.toNat cM v) (J pM M.length cM v)) (J pM M.length cM v) := fun v pl k cl ol hkS cc hl1 ho hol k1 k2 => by
    have hcM := rowM.2.1
    have hav : v.cell? ⟨w.heap.size, 0, none⟩ = some (.int .i64 most) := by rw [cell_blk (aV v cc)]; rfl
    refine ⟨fun p1 n1 c1 w6 => p1 = pM ∧ n1 = k ∧ c1 = cM ∧ w6 = v, ?_, most, hav, ?_⟩
    · rintro p1 n1 c1 w6 ⟨rfl, rfl, rfl, rfl⟩
      exact tail _ pl _ cl ol (fun _ => True) hkS cc hl1 ho hol
    · refine Sif_cases (fun g1 => ⟨most, hav, Sif_cases (fun g2 => ?_) fun g2 => ?_⟩) fun g1 => ?_
      · have g1 := of_decide_eq_true g1
        have g2 := of_decide_eq_true g2
        have := k1 ⟨g1, by omega⟩
        exact ⟨most, hav, by omega, by omega, rfl, by omega, rfl, rfl⟩
      · have g2 := of_decide_eq_false g2
        exact ⟨rfl, by rw [k2 (by omega)]; exact hSl.symm, rfl, rfl⟩
      · have g1 := of_decide_eq_false g1
        exact ⟨rfl, by rw [k2 (by omega)]; exact hSl.symm, rfl, rfl⟩
  refine ⟨fun i v => ∃ pl cl ol, blk v w2.heap.size = some [.slice pl i cl] ∧ Ow v pl i cl 7 (((S.take i).map (·.e)).flatMap En.cells) ol ∧ (∀ b, ol = some b → W1.heap.size ≤ b) ∧ recAt v (w4.heap.size + 1) rc .ready none ∧ (∀ j : Nat, 1 ≤ j → j ≤ i → (j : Int) ≠ most) ∧ Ch X W1 v, ?_, ?_, ?_, ?_, ?_⟩
  · exact ⟨none, 0, none, by rw [C13.ch.blk (blk_lt lW) id]; exact lW, by simpa using Ow.nil, (fun b hb => by cases hb), rW.ch C13.ch id, (fun j h1 h2 => by omega), Ch.refl _ _⟩
  · rintro i v v' ⟨pl, cl, ol, h1, h2, h3, h4, h5, h6⟩ cc
    exact ⟨pl, cl, ol, by rw [cc.blk (blk_lt h1) id]; exact h1, h2.ch cc fun _ _ => id, h3, h4.ch cc id, h5, h6.new cc⟩
  · rintro i v ⟨pl, cl, ol, h1, h2, h3, h4, h5, h6⟩
    exact rowV v h6
  · rintro i x v hx ⟨pl, cl, ol, h1, h2, h3, h4, h5, h6⟩
    have hxS := List.mem_of_getElem? hx
    have hil := (List.getElem?_eq_some_iff.1 hx).1
    refine hy _ _ _ _ _ _ _ _ _ v _ h4 ?_
    refine newE (e0 := En0) (e := x.e) fun v1 x1 e1 y1 => ⟨h4.ch e1 id, ?_⟩
    have r1 := h4.ch e1 id
    have e2 := putObj_ch v1 (w4.heap.size + 1) (rc .busy none)
    have y2 : (v1.putObj (w4.heap.size + 1) (rc .busy none)).heap.size = v1.heap.size := by simp
    have r2 := r1.put (s' := .busy) (j' := none)
    generalize v1.putObj (w4.heap.size + 1) (rc .busy none) = v2 at e2 r2 y2 ⊢
    have lv := objAt_lt h4
    have sv := h6.size
    have e02 : Ch (· = w4.heap.size + 1) v v2 := (e1.mono fun _ _ h => h.elim).trans' e2
    have l2 : blk v2 w2.heap.size = some [.slice pl i cl] := by rw [e02.blk (blk_lt h1) (by omega)]; exact h1
    have x2 : blk v2 v.heap.size = some x.e.cells := by rw [e2.blk (blk_lt x1) (by omega)]; exact x1
    have o2 := h2.ch e02 fun b hb h => by have := h3 b hb; omega
    simp only [add_at, Nat.zero_add, Nat.add_zero]
    refine ⟨_, _, _, by rw [cell_blk l2]; rfl, rdN x2 ?_⟩
    have hti : (S.take i).length = i := by rw [List.length_take]; omega
    refine pushL2 hti o2 x (by omega) fun p' c' b' w5 o5 n5 c5 => ?_
    have eS : S.take i ++ [x] = S.take (i + 1) := by rw [List.take_add_one, hx]; rfl
    rw [eS] at o5
    have l5 : blk w5 w2.heap.size = some [.slice pl i cl] := by rw [c5.blk (blk_lt l2) fun h => by have := h3 _ h; omega]; exact l2
    refine st_blk l5 (by simp) fun w6 l6 c6 z6 => ?_
    have hb' : ∀ b, b' = some b → W1.heap.size ≤ b := fun b hb => by
      rcases n5 b hb with q | q
      · exact h3 b q
      · omega
    have e26 : Ch (fun b => b = w2.heap.size ∨ W1.heap.size ≤ b) v2 w6 := (c5.mono fun b _ h => .inr (h3 b h)).trans' (c6.mono fun b _ h => .inl h)
    have e06 : Ch X v w6 := (e02.mono fun b _ h => .inr (.inl h)).trans' (e26.mono fun b _ h => h.elim (fun h => .inl h) fun h => .inr (.inr h))
    have hX6 := h6.trans' e06
    have r6 : recAt w6 (w4.heap.size + 1) rc .busy none := r2.ch e26 (by omega)
    have o6 := o5.ch c6 fun b hb h => by have := hb' b hb; have h : b = w2.heap.size := h; omega
    refine ⟨_, _, _, by rw [cell_blk l6]; rfl, _, by rw [cell_blk (aV w6 hX6)]; rfl, Sif_cases (fun g => ⟨r6, .inr ⟨by trivial, ?_⟩⟩) fun g => ⟨r6, .inl ⟨by trivial, ?_⟩⟩⟩
    · have e7 := putObj_ch w6 (w4.heap.size + 1) (rc .done (some (.exit 0)))
      have r7 := r6.put (s' := .done) (j' := some (.exit 0))
      generalize w6.putObj (w4.heap.size + 1) (rc .done (some (.exit 0))) = w7 at e7 r7 ⊢
      refine .inr (.inr (.inl ⟨r7, ?_⟩))
      have e8 := putObj_ch w7 (w4.heap.size + 1) (rc .exhausted (some (.exit 0)))
      generalize w7.putObj (w4.heap.size + 1) (rc .exhausted (some (.exit 0))) = w8 at e8 ⊢
      have e68 : Ch (· = w4.heap.size + 1) w6 w8 := e7.trans' e8
      have g : ((i + 1 : Nat) : Int) = most := by simpa using g
      refine fin w8 p' (i + 1) c' b' (by omega) (hX6.trans' (e68.mono fun b _ h => .inr (.inl h))) (by rw [e68.blk (blk_lt l6) (by omega)]; exact l6) (o6.ch e68 fun b hb h => by have := hb' b hb; omega) hb' (fun _ => g) fun h => ?_
      omega
    · have e7 := putObj_ch w6 (w4.heap.size + 1) (rc .ready none)
      have r7 := r6.put (s' := .ready) (j' := none)
      generalize w6.putObj (w4.heap.size + 1) (rc .ready none) = w7 at e7 r7 ⊢
      have g : ((i + 1 : Nat) : Int) ≠ most := by simpa using g
      refine ⟨p', c', b', by rw [e7.blk (blk_lt l6) (by omega)]; exact l6, o6.ch e7 fun b hb h => by have := hb' b hb; omega, hb', r7, fun j q1 q2 => ?_, hX6.trans' (e7.mono fun b _ h => .inr (.inl h))⟩
      by_cases e : j ≤ i
      · exact h5 j q1 e
      · have : j = i + 1 := by omega
        rw [this]; exact g
  · rintro v ⟨pl, cl, ol, h1, h2, h3, h4, h5, h6⟩
    refine .inl ⟨h4, ?_⟩
    have e8 := putObj_ch v (w4.heap.size + 1) (rc .exhausted none)
    generalize v.putObj (w4.heap.size + 1) (rc .exhausted none) = w8 at e8 ⊢
    refine fin w8 pl S.length cl ol (Nat.le_refl _) (h6.trans' (e8.mono fun b _ h => .inr (.inl h))) (by rw [e8.blk (blk_lt h1) (by omega)]; exact h1) (h2.ch e8 fun b hb h => by have := h3 b hb; omega) h3 (fun h => ?_) fun _ => rfl
    have := h5 most.toNat (by omega) (by omega)
    omega
end Go.Proofs.YtipbbjnmpnfhpaaGreatDoor
namespace Go.Sv
open Go Go.Sort Go.RowKit Go.Shelf Go.Proofs
set_option linter.unusedVariables false
section
variable {α : Type} [Inhabited α]
theorem pdqK_ok {P : Program} {ρ : Ren} (Ly : SlLaysF0.n6 P ρ) {k : Nat} (aE : ∀ w, (isAgg (ρ.t 24)).run P w = .ok true w) (zE : ∀ w, (Go.sizeOf (ρ.t 24)).run P w = .ok k w) {enc : α → List Value} (henc : ∀ x, (enc x).length = k) (h1 : ∀ x, ∀ v ∈ enc x, oneV v = true)
    {cf : α → α → Int} (hO : SWO (ltOf cf)) (hT : ∀ x y, (ltOf cf) x y = false → (ltOf cf) y x = false → x = y) {g : Nat} (eg : ∀ args w, (callFunc g args).run P w = .ok (.enter g args) w)
    (hcmp : ∀ (x y : α) (W : World), Calls P g #[.agg (enc x).toArray, .agg (enc y).toArray] W fun e w' => e = .returned (.int .i64 (cf x y)) ∧ Qt W w')
    {w : World} {p : Option Addr} {c : Nat} {b : Option Nat} {L : List α} (ho : Ow w p L.length c k (L.flatMap enc) b) (hk0 : 0 < k) (h0 : L.length ≠ 0) (hL : L.length ≤ 2 ^ 40) {K : Value → World → Prop}
    (hK : ∀ w', Ow w' p L.length c k ((srtBy cf L).flatMap enc) b → Ch (fun j => b = some j) w w' → K (.tuple #[]) w') : callP P (ρ.f 14) [.slice p L.length c, .int .i64 0, .int .i64 (L.length : Int), .int .i64 (Lib.bitLen L.length : Nat), .func (.func g) #[] #[]] w K := by
  obtain ⟨g1, g2, g3⟩ := ho
  rcases g3 with ⟨_, g3⟩ | ⟨kb, o, cs, rfl, rfl, hbk, hl, ht⟩
  · have : L.length * k ≤ c * k := Nat.mul_le_mul_right _ g2
    have : 0 < L.length * k := Nat.mul_pos (by omega) hk0
    omega
  have hmul : L.length * k ≤ c * k := Nat.mul_le_mul_right _ g2
  have hH : HoldsK enc k w kb o L.toArray := fun j hj => by
    have hj' : j < L.length * k := by simpa using hj
    refine ⟨?_, frozen_blk hbk (by omega)⟩
    obtain ⟨v, hv⟩ : ∃ v, (L.flatMap enc)[j]? = some v := ⟨_, List.getElem?_eq_getElem (by rw [flat_len henc]; exact hj')⟩
    have e1 : (flatK enc k L.toArray)[j]! = v := by
      have h2 := flatK_list henc L.toArray
      have h3 : (flatK enc k L.toArray).toList[j]? = some v := by rw [h2]; exact hv
      rw [Array.getElem?_toList, Array.getElem?_eq_getElem hj] at h3
      rw [getElem!_pos _ j hj]
      exact Option.some.inj h3
    rw [← ht, List.getElem?_take, if_pos (by omega), List.getElem?_drop] at hv
    rw [cell_blk hbk, hv, e1]; rfl
  have h1' : ∀ x, ∀ v ∈ enc x, v.oneCell' = true := fun x v hv => by rw [oneCell_of]; exact h1 x v hv
  have hsz : L.toArray.size < 4611686018427387904 := by simp; omega
  have hlim : Lib.bitLen L.toArray.size < 4611686018427387904 := Nat.lt_of_le_of_lt (Lib.bitLen_le L.toArray.size 62 (by omega) (by omega)) (by omega)
  have gg := AnyQ.pdqsortCmpFunc_all (P := P) (ρ := ρ) { Ly with } k aE zE enc cf g #[] hO kb o c L.toArray w eg (fun m os dk _ x y => (hcmp x y _).mono fun e w' ⟨he, hq⟩ => ⟨he, hq.grow⟩) ⟨henc, h1', hH, blk_lt hbk⟩ (L.toArray.size + 1) 0 L.toArray.size (Lib.bitLen L.toArray.size) L.toArray w (by omega) rfl (SWK.start hH) (Nat.zero_le _) (Nat.le_refl _) hsz hlim (Or.inl rfl)
  have hso := pdq_sorts (ltOf cf) hO L.toArray 0 L.toArray.size (Lib.bitLen L.toArray.size) true true (Nat.zero_le _) (Nat.le_refl _) (Or.inl rfl)
  have hun := sorted_unique_holds hO hT L.toArray _ hso.1 hso.2
  have gsz : L.toArray.size = L.length := by simp
  refine Calls.mono gg fun e w' ⟨he, n, os, hw⟩ => ⟨_, he, ?_⟩
  have hun' := congrArg List.toArray hun
  rw [Array.toArray_toList] at hun'
  rw [hun'] at hw
  have hb2 : blk (Go.Sort.ahead w n) kb = some cs := hbk
  obtain ⟨R, hR⟩ : ∃ R, R = (L.toArray.toList.mergeSort fun x y => !(ltOf cf) y x).toArray := ⟨_, rfl⟩
  rw [← hR] at hw
  have hRl : R.toList = srtBy cf L := by rw [hR]; simp [srtBy]
  have hRs : R.size = L.length := by rw [← Array.length_toList, hRl, srtBy_len]
  obtain ⟨cs', q1, q2, q3, q4⟩ := putRow_blk' (off := o) (d := flatK enc k R) hb2 (by rw [size_flatK, hRs]; omega)
  have q5 := sort_grow_ch (w := putRowK enc k (Go.Sort.ahead w n) kb o R) os
  have hw2 : w' = Go.Sort.grow (putRowK enc k (Go.Sort.ahead w n) kb o R) os := hw
  rw [← hw2] at q5
  refine hK w' ⟨by rw [flat_len henc, srtBy_len], g2, .inr ⟨kb, o, cs', rfl, rfl, by rw [q5.blk (blk_lt q1) id]; exact q1, by omega, ?_⟩⟩ ((⟨rfl, rfl, rfl, Nat.le_refl _, fun _ _ _ => rfl⟩ : Ch (fun j => some kb = some j) w (Go.Sort.ahead w n)).trans' ((q4.mono fun x _ h => by rw [h]).trans' (q5.mono fun _ _ h => h.elim)))
  rw [size_flatK, hRs, flatK_list henc, hRl] at q3
  exact q3
end
theorem lenK_ok {P : Program} {ρ : Ren} (Ly : SlLaysF0.n6 P ρ) {n : Nat} (hn : n ≤ 2 ^ 40) {w : World} {K : Value → World → Prop} (hk : K (.int .i64 (Lib.bitLen n : Nat)) w) : callP P (ρ.f 15) [.int .u64 (n : Int)] w K := by
  have h := Any.bits_Len (SlLaysF0.n15.bits (P := P) (ρ := ρ) { Ly with }) (n : Int) w (by omega) (by omega)
  rw [Int.toNat_natCast] at h
  exact h.mono fun e w' ⟨he, hw⟩ => ⟨_, he, hw ▸ hk⟩
end Go.Sv
