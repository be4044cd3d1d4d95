/-
  What the disk's methods do, as functions of what the disk holds; and that they do so (Up, Start, Arm, Crash, Sync, Delete, Read). Sync, Delete, Read do what is said. Delete and Read do what is said.
-/
import Derived.Test.YtipololccbdojaaGreatDoorDiskD
namespace Go.Proofs.YtipololccbdojaaGreatDoor
open Go Go.Sv Go.MapKept
set_option linter.unusedVariables false
set_option maxRecDepth 4000

structure AD where
  room : Int
  down : Bool
  acts : Int
  keep : Int
  fs : List File
structure WF (a : AD) : Prop where
  safe : ∀ f ∈ a.fs, f.safe ≤ f.dat.length
  fits : (total a.fs : Int) ≤ a.room
  room : a.room ≤ 16777216
  acts1 : -1 ≤ a.acts
  acts2 : a.acts ≤ 9223372036854775807
  names : ∀ f ∈ a.fs, nameOk f.name = true
def AD.hd (a : AD) : Hd := { lk := 0, room := a.room, used := total a.fs, down := a.down, acts := a.acts, keep := a.keep }
/-- in w the disk at block d is a, in the blocks B -/
structure DK (w : World) (d : Nat) (a : AD) (B : Nat → Prop) : Prop where
  wf : WF a
  ex : ∃ r L, DR w d r a.hd L ∧ L.map (·.f) = a.fs ∧ B = fun b => b ∈ blocks d r L
theorem DK.of {w : World} {d r : Nat} {a : AD} {L : List PF} {h : Hd} (H : DR w d r h L) (hh : h = a.hd) (hp : (L.map (·.f)).Perm a.fs) (wf : WF a) : DK w d a (fun b => b ∈ blocks d r L) := by
  obtain ⟨L', h1, h2⟩ := perm_lift hp
  refine ⟨wf, r, L', hh ▸ H.perm h1, h2, ?_⟩
  funext b
  apply propext
  rw [mem_blocks, mem_blocks]
  simp only [h1.mem_iff]
theorem WF.perm {a : AD} {fs : List File} (wf : WF a) (h : a.fs.Perm fs) : WF { a with fs := fs } :=
  ⟨fun f hf => wf.safe f (h.mem_iff.2 hf), by show (total fs : Int) ≤ _; rw [← total_perm h]; exact wf.fits, wf.room, wf.acts1, wf.acts2, fun f hf => wf.names f (h.mem_iff.2 hf)⟩
theorem DK.perm {w : World} {d : Nat} {a : AD} {B : Nat → Prop} {fs : List File} (D : DK w d a B) (h : a.fs.Perm fs) : DK w d { a with fs := fs } B := by
  obtain ⟨wf, r, L, H, hL, rfl⟩ := D
  refine DK.of (h := a.hd) H ?_ (by rw [hL]; exact h) (wf.perm h)
  show Hd.mk _ _ _ _ _ _ = Hd.mk _ _ _ _ _ _
  rw [total_perm h]
theorem DK.ch {S : Nat → Prop} {w w' : World} {d : Nat} {a : AD} {B : Nat → Prop} (D : DK w d a B) (hc : Ch S w w') (hn : ∀ b, B b → ¬ S b) : DK w' d a B := by
  obtain ⟨wf, r, L, H, hL, rfl⟩ := D
  exact ⟨wf, r, L, H.ch hc hn, hL, rfl⟩
theorem DK.lt {w : World} {d : Nat} {a : AD} {B : Nat → Prop} (D : DK w d a B) : ∀ b, B b → b < w.heap.size := by
  obtain ⟨wf, r, L, H, hL, rfl⟩ := D
  exact H.lt
theorem DK.self {w : World} {d : Nat} {a : AD} {B : Nat → Prop} (D : DK w d a B) : B d := by
  obtain ⟨wf, r, L, H, hL, rfl⟩ := D
  simp [blocks]
theorem WF.tot {a : AD} (wf : WF a) : total a.fs ≤ 2 ^ 24 := by have := wf.fits; have := wf.room; omega

/-! ### What the methods do -/
def AD.has (a : AD) (n : ByteArray) : Bool := a.fs.any fun f => decide (f.name = n)
def AD.err (a : AD) (ns : List ByteArray) (n0 : ByteArray) : Int := if a.down then 3 else if ns.all nameOk = false then 1 else if a.has n0 = false then 191 else 0
def AD.fall (a : AD) (keep : Int) : AD := { a with fs := a.fs.map (cutF keep), down := true, acts := -1 }
def AD.act (a : AD) : AD := { a with acts := actsN a.acts }
def AD.done (a : AD) (g : AD → AD) : Int × AD := if a.acts = 0 then (3, a.fall a.keep) else (0, g a.act)
def AD.upd (a : AD) (n : ByteArray) (g : File → File) : AD := { a with fs := a.fs.map fun f => if f.name = n then g f else f }
def AD.gone (a : AD) (n : ByteArray) : AD := { a with fs := a.fs.filter fun f => decide (f.name ≠ n) }
def sealF (f : File) : File := { f with safe := f.dat.length }
def AD.sync (a : AD) (n : ByteArray) : Int × AD := if a.err [n] n ≠ 0 then (a.err [n] n, a) else a.done fun a => a.upd n sealF
def AD.delete (a : AD) (n : ByteArray) : Int × AD := if a.err [n] n ≠ 0 then (a.err [n] n, a) else a.done fun a => a.gone n
def AD.arm (a : AD) (acts keep : Int) : AD := if a.down then a else { a with acts := max acts (-1), keep := keep }
def AD.crash (a : AD) (keep : Int) : AD := if a.down then a else a.fall keep
def AD.get (a : AD) (n : ByteArray) : List UInt8 := ((a.fs.find? fun f => decide (f.name = n)).map (·.dat)).getD []
theorem total_cut (keep : Int) (fs : List File) : total (fs.map (cutF keep)) ≤ total fs := by
  induction fs with
  | nil => simp
  | cons f fs ih =>
    rw [List.map_cons, total_cons, total_cons]
    have : (cutF keep f).dat.length ≤ f.dat.length := by simp [cutF]; omega
    omega
theorem WF.fall {a : AD} (wf : WF a) (keep : Int) : WF (a.fall keep) := by
  refine ⟨fun f hf => ?_, ?_, wf.room, by simp [AD.fall], by simp [AD.fall], fun f hf => ?_⟩
  · obtain ⟨g, _, rfl⟩ := List.mem_map.1 hf
    have := nCut_le g keep
    simp [cutF]; omega
  · have := total_cut keep a.fs
    have := wf.fits
    show (total (a.fs.map (cutF keep)) : Int) ≤ a.room
    omega
  · obtain ⟨g, hg, rfl⟩ := List.mem_map.1 hf
    exact wf.names g hg
theorem actsN_ge {n : Int} (h : -1 ≤ n) : -1 ≤ actsN n ∧ actsN n ≤ max n 0 := by unfold actsN; split <;> omega
theorem WF.act {a : AD} (wf : WF a) : WF a.act := by
  have h1 := actsN_ge wf.acts1
  have h2 := wf.acts2
  exact ⟨wf.safe, wf.fits, wf.room, h1.1, by show actsN a.acts ≤ _; omega, wf.names⟩
theorem total_filter (p : File → Bool) (fs : List File) : total (fs.filter p) ≤ total fs := by
  induction fs with
  | nil => simp
  | cons f fs ih =>
    rw [List.filter_cons, total_cons]
    split
    · rw [total_cons]; omega
    · omega
theorem WF.gone {a : AD} (wf : WF a) (n : ByteArray) : WF (a.gone n) := by
  refine ⟨fun f hf => wf.safe f (List.mem_filter.1 hf).1, ?_, wf.room, wf.acts1, wf.acts2, fun f hf => wf.names f (List.mem_filter.1 hf).1⟩
  have := total_filter (fun f => decide (f.name ≠ n)) a.fs
  have := wf.fits
  show (total (a.fs.filter fun f => decide (f.name ≠ n)) : Int) ≤ a.room
  omega
/-- what 'of' finds -/
theorem ofR_err {a : AD} {L : List PF} {h : Hd} {ns : List ByteArray} {n0 : ByteArray} {q : Option Addr} {e : Int} (hd : h.down = a.down) (hL : L.map (·.f) = a.fs) (ho : ofR h L ns n0 q e) :
    e = a.err ns n0 ∧ (e = 0 → ∃ x ∈ L, x.f.name = n0 ∧ q = some ⟨x.b, 0, none⟩) ∧ (e = 191 → q = none ∧ ∀ x ∈ L, x.f.name ≠ n0) := by
  unfold AD.err
  rw [← hd]
  have hall : (∀ s ∈ ns, nameOk s = true) → ns.all nameOk = true := fun h => List.all_eq_true.2 h
  rcases ho with ⟨h1, rfl, rfl⟩ | ⟨h1, ⟨s, hs, h2⟩, rfl, rfl⟩ | ⟨h1, h2, h3, rfl, rfl⟩ | ⟨h1, h2, x, hx, h3, rfl, rfl⟩
  · rw [h1]; exact ⟨rfl, by omega, by omega⟩
  · rw [h1]
    have : ns.all nameOk = false := List.all_eq_false.2 ⟨s, hs, by simp [h2]⟩
    rw [this]; exact ⟨rfl, by omega, by omega⟩
  · rw [h1, hall h2]
    have : a.has n0 = false := by
      unfold AD.has
      rw [← hL, List.any_eq_false]
      intro f hf
      obtain ⟨x, hx, rfl⟩ := List.mem_map.1 hf
      simpa using h3 x hx
    rw [this]; exact ⟨rfl, by omega, fun _ => ⟨rfl, h3⟩⟩
  · rw [h1, hall h2]
    have : a.has n0 = true := by
      unfold AD.has
      rw [← hL, List.any_eq_true]
      exact ⟨x.f, List.mem_map.2 ⟨x, hx, rfl⟩, by simp [h3]⟩
    rw [this]; exact ⟨rfl, fun _ => ⟨x, hx, h3, rfl⟩, by omega⟩
/-- the one name's slice, newly laid -/
theorem one_rd {w' : World} {k : Nat} {s : ByteArray} (hb : blk w' k = some [.string s]) : Rd w' (some ⟨k, 0, none⟩) [s].length 1 ([s].map .string) := ⟨rfl, .inr ⟨k, 0, [.string s], rfl, blk_cells hb, by simp, rfl⟩⟩

abbrev Post (w : World) (d : Nat) (a' : AD) (B : Nat → Prop) (K : World → Prop) : Prop := ∀ w' B', DK w' d a' B' → Ch B w w' → (∀ b, B' b → B b ∨ w.heap.size ≤ b) → K w'

theorem up_ok {w : World} {d : Nat} {a : AD} {B : Nat → Prop} {K : Value → World → Prop} (D : DK w d a B) (hk : Post w d a B (K (.bool (!a.down)))) : callP Tryz.prog 32 [.pointer (some ⟨d, 0, none⟩)] w K := by
  obtain ⟨wf, r, L, H, hL, rfl⟩ := D
  refine ok_disk_Disk_Up ?_
  unfold wp_disk_Disk_Up
  simp only [nn_some, add_at]
  refine H.lock rfl fun w1 H1 c1 z1 => ⟨rfl, a.down, H1.cell 5, ?_⟩
  refine H1.unlock rfl fun w2 H2 c2 z2 => ?_
  exact hk w2 _ (DK.of H2 rfl (by rw [hL]) wf) ((c1.mono fun x _ hx => by simp [blocks, hx]).trans c2 fun x _ hx => by simp [blocks, hx]) fun b hb => .inl hb
theorem start_ok {w : World} {d : Nat} {a : AD} {B : Nat → Prop} {K : Value → World → Prop} (D : DK w d a B) (hk : Post w d { a with down := false } B (K (.tuple #[]))) : callP Tryz.prog 60 [.pointer (some ⟨d, 0, none⟩)] w K := by
  obtain ⟨wf, r, L, H, hL, rfl⟩ := D
  refine ok_disk_Disk_Start ?_
  unfold wp_disk_Disk_Start
  simp only [nn_some, add_at]
  refine H.lock rfl fun w1 H1 c1 z1 => ⟨rfl, ?_⟩
  refine H1.st (h' := { a.hd with lk := 1, down := false }) (by omega) rfl fun w2 H2 c2 z2 => ?_
  refine H2.unlock rfl fun w3 H3 c3 z3 => ?_
  exact hk w3 _ (DK.of H3 rfl (by rw [hL]) ⟨wf.safe, wf.fits, wf.room, wf.acts1, wf.acts2, wf.names⟩) (((c1.mono fun x _ hx => by simp [blocks, hx]).trans c2 fun x _ hx => by simp [blocks, hx]).trans c3 fun x _ hx => by simp [blocks, hx]) fun b hb => .inl hb
theorem arm_ok {w : World} {d : Nat} {a : AD} {B : Nat → Prop} {acts keep : Int} {K : Value → World → Prop} (D : DK w d a B) (ha : acts ≤ 9223372036854775807) (hk : Post w d (a.arm acts keep) B (K (.tuple #[]))) : callP Tryz.prog 30 [.pointer (some ⟨d, 0, none⟩), .int .i64 acts, .int .i64 keep] w K := by
  obtain ⟨wf, r, L, H, hL, rfl⟩ := D
  refine ok_disk_Disk_Arm ?_
  unfold wp_disk_Disk_Arm
  simp only [nn_some, add_at]
  refine H.lock rfl fun w1 H1 c1 z1 => ⟨rfl, a.down, H1.cell 5, Sif_cases (fun e => ?_) fun e => ?_⟩
  · have e' : a.down = false := by simpa using e
    refine H1.st (h' := { a.hd with lk := 1, acts := max acts (-1) }) (by omega) rfl fun w2 H2 c2 z2 => ?_
    refine H2.st (h' := { a.hd with lk := 1, acts := max acts (-1), keep := keep }) (by omega) rfl fun w3 H3 c3 z3 => ?_
    refine H3.unlock rfl fun w4 H4 c4 z4 => ?_
    unfold AD.arm at hk
    rw [e'] at hk
    exact hk w4 _ (DK.of H4 (by simp [AD.hd, e']) (by rw [hL]; exact .refl _) ⟨wf.safe, wf.fits, wf.room, by simp; omega, by simp; omega, wf.names⟩)
      ((((c1.mono fun x _ hx => by simp [blocks, hx]).trans c2 fun x _ hx => by simp [blocks, hx]).trans c3 fun x _ hx => by simp [blocks, hx]).trans c4 fun x _ hx => by simp [blocks, hx]) fun b hb => .inl hb
  · have e' : a.down = true := by simpa using e
    refine H1.unlock rfl fun w4 H4 c4 z4 => ?_
    unfold AD.arm at hk
    rw [if_pos e'] at hk
    exact hk w4 _ (DK.of H4 rfl (by rw [hL]) wf) ((c1.mono fun x _ hx => by simp [blocks, hx]).trans c4 fun x _ hx => by simp [blocks, hx]) fun b hb => .inl hb
theorem crash_ok {w : World} {d : Nat} {a : AD} {B : Nat → Prop} {keep : Int} {K : Value → World → Prop} (D : DK w d a B) (hk : Post w d (a.crash keep) B (K (.tuple #[]))) : callP Tryz.prog 31 [.pointer (some ⟨d, 0, none⟩), .int .i64 keep] w K := by
  obtain ⟨wf, r, L, H, hL, rfl⟩ := D
  have htot := wf.tot
  refine ok_disk_Disk_Crash ?_
  unfold wp_disk_Disk_Crash
  simp only [nn_some, add_at]
  refine H.lock rfl fun w1 H1 c1 z1 => ⟨rfl, a.down, H1.cell 5, Sif_cases (fun e => ?_) fun e => ?_⟩
  · have e' : a.down = false := by simpa using e
    refine fall_ok H1 (fun x hx => wf.safe x.f (hL ▸ List.mem_map.2 ⟨x, hx, rfl⟩)) (by rw [hL]; omega) fun L' w2 H2 hp c2 hbl => ⟨rfl, ?_⟩
    refine H2.unlock rfl fun w3 H3 c3 z3 => ?_
    unfold AD.crash at hk
    rw [if_neg (by simp [e'])] at hk
    rw [hL] at hp
    refine hk w3 _ (DK.of H3 (by simp only [AD.hd, AD.fall]; rw [total_perm hp]) hp (wf.fall keep)) (((c1.mono fun x _ hx => by simp [blocks, hx]).trans c2 fun x _ hx => hx).trans c3 fun x _ hx => by simp [blocks, hx]) fun b hb => (hbl b hb).imp id fun h => by omega
  · have e' : a.down = true := by simpa using e
    refine H1.unlock rfl fun w4 H4 c4 z4 => ?_
    unfold AD.crash at hk
    rw [if_pos e'] at hk
    exact hk w4 _ (DK.of H4 rfl (by rw [hL]) wf) ((c1.mono fun x _ hx => by simp [blocks, hx]).trans c4 fun x _ hx => by simp [blocks, hx]) fun b hb => .inl hb
end Go.Proofs.YtipololccbdojaaGreatDoor
namespace Go.Proofs.YtipololccbdojaaGreatDoor
open Go Go.Sv Go.MapKept
set_option linter.unusedVariables false
set_option maxRecDepth 4000

theorem callV_unit {P : Program} {f : FuncId} {cap : Array Value} {w : World} {K : Value → World → Prop} (ho : okCall P f = true) (h : callP P f cap.toList w fun v w' => v = .tuple #[] ∧ K v w') : callV P none (.func (.func f) #[] cap) [] w fun v w' => v = .tuple #[] ∧ K v w' :=
  ⟨ho, by show callP P f _ w _; exact h⟩
theorem upd_perm {L R : List PF} {x : PF} {n : ByteArray} {g : File → File} (hp : L.Perm (x :: R)) (hn : (L.map fun x => x.f.name).Nodup) (hx : x.f.name = n) :
    (g x.f :: R.map (·.f)).Perm ((L.map (·.f)).map fun f => if f.name = n then g f else f) := by
  have h1 := (hp.map (·.f)).map fun f => if f.name = n then g f else f
  refine List.Perm.trans ?_ h1.symm
  simp only [List.map_cons, hx, if_true]
  refine List.Perm.cons _ (.of_eq ?_)
  have h2 : ((x :: R).map fun x => x.f.name).Nodup := (hp.map _).nodup_iff.1 hn
  simp only [List.map_cons] at h2
  rw [List.map_map]
  apply List.map_congr_left
  intro z hz
  have : z.f.name ≠ n := fun e => (List.nodup_cons.1 h2).1 (by rw [hx, ← e]; exact List.mem_map.2 ⟨z, hz, rfl⟩)
  simp [this]
theorem WF.upd {a : AD} (wf : WF a) {n : ByteArray} {g : File → File} (hg : ∀ f ∈ a.fs, f.name = n → (g f).name = f.name ∧ (g f).safe ≤ (g f).dat.length) (ht : (total (a.upd n g).fs : Int) ≤ a.room) : WF (a.upd n g) := by
  refine ⟨fun f hf => ?_, ht, wf.room, wf.acts1, wf.acts2, fun f hf => ?_⟩ <;>
  · obtain ⟨z, hz, rfl⟩ := List.mem_map.1 hf
    by_cases h : z.name = n
    · simp only [h, if_true]
      first | exact (hg z hz h).2 | (rw [(hg z hz h).1]; exact wf.names z hz)
    · simp only [h, if_false]
      first | exact wf.safe z hz | exact wf.names z hz
theorem total_upd {fs : List File} {n : ByteArray} {g : File → File} (hg : ∀ f, (g f).dat.length = f.dat.length) : total (fs.map fun f => if f.name = n then g f else f) = total fs := by
  induction fs with
  | nil => rfl
  | cons f fs ih =>
    rw [List.map_cons, total_cons, total_cons, ih]
    split
    · rw [hg]
    · rfl
theorem ok_of_err {a : AD} {n : ByteArray} {ns : List ByteArray} (h : a.err ns n = 0) : a.down = false ∧ ns.all nameOk = true ∧ a.has n = true := by
  unfold AD.err at h
  split at h
  · omega
  · split at h
    · omega
    · split at h
      · omega
      · simp_all

theorem sync_ok {w : World} {d : Nat} {a : AD} {B : Nat → Prop} {n : ByteArray} {K : Value → World → Prop} (D : DK w d a B) (hs : n.size ≤ 9223372036854775807) (hk : Post w d (a.sync n).2 B (K (.int .i64 (a.sync n).1))) :
    callP Tryz.prog 49 [.pointer (some ⟨d, 0, none⟩), .string n] w K := by
  obtain ⟨wf, r, L, H, hL, rfl⟩ := D
  have htot := wf.tot
  refine ok_disk_Disk_Sync ?_
  unfold wp_disk_Disk_Sync
  simp only [nn_some, add_at]
  refine H.lock rfl fun w1 H1 c1 z1 => ⟨rfl, ?_⟩
  refine newB_blk fun w2 b2 c2 z2 => ?_
  refine of_ok (H1.ch0 c2) (ns := [n]) rfl (one_rd b2) (fun s hs' => by simp at hs'; subst hs'; exact hs) (by simp) fun q e w3 c3 z3 ho => ?_
  obtain ⟨he, he0, _⟩ := ofR_err (a := a) rfl hL ho
  refine ⟨q, e, rfl, newB_blk fun w4 b4 c4 z4 => ?_⟩
  simp only [add_at]
  refine st_blk b4 (by simp) fun w5 b5 c5 z5 => ?_
  have hlt := H.lt
  have hw1 : w.heap.size ≤ w1.heap.size := c1.size
  have hw2 : w1.heap.size ≤ w2.heap.size := c2.size
  have hw3 : w2.heap.size ≤ w3.heap.size := c3.size
  have hc5 : Ch (· ∈ blocks d r L) w w5 := ((((c1.mono fun x _ hx => by simp [blocks, hx]).trans c2 fun _ _ hx => hx.elim).trans c3 fun _ _ hx => hx.elim).trans c4 fun _ _ hx => hx.elim).trans c5 fun x hx e => by omega
  have H5 : DR w5 d r { a.hd with lk := 1 } L := (((H1.ch0 c2).ch0 c3).ch0 c4).ch c5 fun b hb e => by have := hlt b hb; omega
  refine Sif_cases (fun g => ?_) fun g => ?_
  · have g' : e ≠ 0 := by simpa using g
    have hsy : a.sync n = (e, a) := by unfold AD.sync; rw [← he, if_pos g']
    rw [hsy] at hk
    refine H5.unlock rfl fun w6 H6 c6 z6 => ?_
    exact hk w6 _ (DK.of H6 rfl (by rw [hL]) wf) (hc5.trans c6 fun x _ hx => by simp [blocks, hx]) fun b hb => .inl hb
  · have g' : e = 0 := by simpa using g
    have hsy : a.sync n = a.done fun a => a.upd n sealF := by unfold AD.sync; rw [← he, if_neg (by omega)]
    rw [hsy] at hk
    obtain ⟨x, hx, hxn, rfl⟩ := he0 g'
    refine done_ok H5 (fun x hx => wf.safe x.f (hL ▸ List.mem_map.2 ⟨x, hx, rfl⟩)) (by rw [hL]; omega) wf.acts1 wf.acts2 (fun ha L' w' H' hp c6 hbl => ⟨3, rfl, ?_⟩) fun ha w' H' c6 z6 => ?_
    · have ha' : a.acts = 0 := ha
      unfold AD.done at hk
      rw [if_pos ha'] at hk
      rw [hL] at hp
      refine H'.unlock rfl fun w7 H7 c7 z7 => ?_
      exact hk w7 _ (DK.of H7 (by simp only [AD.hd, AD.fall]; rw [total_perm hp]; rfl) hp (wf.fall a.keep)) ((hc5.trans c6 fun _ _ hx => hx).trans c7 fun x _ hx => by simp [blocks, hx]) fun b hb => (hbl b hb).imp id fun h => by have := hc5.size; omega
    · have ha' : a.acts ≠ 0 := ha
      unfold AD.done at hk
      rw [if_neg ha'] at hk
      refine callV_unit (by kernel_rfl) (ok_disk_Disk_Sync_1 ?_)
      unfold wp_disk_Disk_Sync_1
      simp only [nn_some, add_at, World.cell?_drew]
      have b6 : blk w' w3.heap.size = some [.pointer (some ⟨x.b, 0, none⟩)] := by
        rw [c6.blk (blk_lt b5) fun e => by have := hlt d (by simp [blocks]); omega]; exact b5
      refine ⟨_, by rw [cell_blk b6]; rfl, _, by rw [cell_blk b6]; rfl, ?_⟩
      simp only [nn_some, add_at, World.cell?_drew]
      obtain ⟨l1, l2, hsp⟩ := List.append_of_mem hx
      have hpm : L.Perm (x :: (l1 ++ l2)) := hsp ▸ List.perm_middle
      have H6 : DR w'.drew d r _ (x :: (l1 ++ l2)) := (H'.ch0 (Ch.drew w')).perm hpm
      have hg := H6.files x (by simp)
      refine ⟨x.p, x.f.dat.length, x.c, by rw [← World.cell?_drew, cell_blk hg.1]; rfl, ?_⟩
      refine st_blk hg.1 (by simp) fun w7 b7 c7 z7 => ⟨trivial, 0, rfl, ?_⟩
      have hone : ∀ k, x.own = some k → k ≠ x.b := fun k hk e => by
        have := H6.nodup
        simp only [blocks, List.flatMap_cons, PF.bl, hk, Option.toList_some] at this
        simp [e] at this
      have H7 : DR w7 d r _ ({ x with f := sealF x.f } :: (l1 ++ l2)) := H6.repl rfl rfl ⟨by rw [b7]; rfl, hg.2.ch c7 hone⟩ (c7.mono fun k _ hk => by simp [PF.bl, hk]) fun k hk => .inl hk
      refine H7.unlock rfl fun w8 H8 c8 z8 => ?_
      have hup := upd_perm (g := sealF) hpm H.names hxn
      rw [hL] at hup
      have hwf : WF (a.act.upd n sealF) := wf.act.upd (fun f _ _ => ⟨rfl, Nat.le_refl _⟩) (by
        show (total (a.fs.map _) : Int) ≤ _
        rw [total_upd (g := sealF) fun _ => rfl]; exact wf.fits)
      have hc6 : Ch (· ∈ blocks d r L) w w'.drew := (hc5.trans c6 fun x _ hx => by simp [blocks, hx]).trans (Ch.drew (S := fun _ => False) w') fun _ _ hx => hx.elim
      have hc7 : Ch (· ∈ blocks d r L) w w7 := hc6.trans c7 fun k _ hk => by subst hk; exact mem_blocks.2 (.inr (.inr ⟨x, hx, by simp [PF.bl]⟩))
      have hc8 : Ch (· ∈ blocks d r L) w w8 := hc7.trans c8 fun k _ hk => by simp [blocks, hk]
      refine hk w8 _ (DK.of H8 (by
        simp only [AD.hd, AD.upd, AD.act]; rw [total_upd (g := sealF) fun _ => rfl]) hup hwf) hc8 fun b hb => ?_
      left
      rcases mem_blocks.1 hb with e | e | ⟨y, hy, hyb⟩
      · simp [blocks, e]
      · simp [blocks, e]
      · refine mem_blocks.2 (.inr (.inr ?_))
        rcases List.mem_cons.1 hy with rfl | hy
        · exact ⟨x, hx, hyb⟩
        · exact ⟨y, hpm.mem_iff.2 (List.mem_cons_of_mem _ hy), hyb⟩
end Go.Proofs.YtipololccbdojaaGreatDoor
namespace Go.Proofs.YtipololccbdojaaGreatDoor
open Go Go.Sv Go.MapKept
set_option linter.unusedVariables false
set_option maxRecDepth 4000

theorem in_d {d r : Nat} {L : List PF} : ∀ x, x = d → x ∈ blocks d r L := fun x h => by simp [blocks, h]
theorem in_r {d r : Nat} {L : List PF} : ∀ x, x = r → x ∈ blocks d r L := fun x h => by simp [blocks, h]
theorem blocks_sub {d r : Nat} {L L' : List PF} (h : ∀ x ∈ L', x ∈ L) : ∀ b ∈ blocks d r L', b ∈ blocks d r L := fun b hb => by
  rcases mem_blocks.1 hb with e | e | ⟨y, hy, hyb⟩
  · exact mem_blocks.2 (.inl e)
  · exact mem_blocks.2 (.inr (.inl e))
  · exact mem_blocks.2 (.inr (.inr ⟨y, h y hy, hyb⟩))
set_option maxHeartbeats 1000000 in
theorem delete_ok {w : World} {d : Nat} {a : AD} {B : Nat → Prop} {n : ByteArray} {K : Value → World → Prop} (D : DK w d a B) (hs : n.size ≤ 9223372036854775807) (hk : Post w d (a.delete n).2 B (K (.int .i64 (a.delete n).1))) :
    callP Tryz.prog 47 [.pointer (some ⟨d, 0, none⟩), .string n] w K := by
  obtain ⟨wf, r, L, H, hL, rfl⟩ := D
  have htot := wf.tot
  have hlt := H.lt
  have hdlt : d < w.heap.size := hlt d (by simp [blocks])
  refine ok_disk_Disk_Delete ?_
  unfold wp_disk_Disk_Delete
  refine newB_blk fun v1 p1 e1 y1 => newB_blk fun v2 p2 e2 y2 => ?_
  have p1' : blk v2 w.heap.size = some [.pointer (some ⟨d, 0, none⟩)] := by rw [e2.blk (blk_lt p1) id]; exact p1
  refine ⟨some ⟨d, 0, none⟩, by rw [cell_blk p1']; rfl, ?_⟩
  simp only [nn_some, add_at]
  refine ((H.ch0 e1).ch0 e2).lock rfl fun w1 H1 c1 z1 => ⟨rfl, ?_⟩
  have pa1 : blk w1 w.heap.size = some [.pointer (some ⟨d, 0, none⟩)] := by rw [c1.blk (blk_lt p1') (by omega)]; exact p1'
  have pn1 : blk w1 v1.heap.size = some [.string n] := by rw [c1.blk (blk_lt p2) (by omega)]; exact p2
  refine ⟨some ⟨d, 0, none⟩, by rw [cell_blk pa1]; rfl, ?_⟩
  simp only [nn_some, add_at]
  refine ⟨some ⟨d, 0, none⟩, by rw [cell_blk pa1]; rfl, n, by rw [cell_blk pn1]; rfl, newB_blk fun w2 b2 c2 z2 => ?_⟩
  refine of_ok (H1.ch0 c2) (ns := [n]) rfl (one_rd b2) (fun s hs' => by simp at hs'; subst hs'; exact hs) (by simp) fun q e w3 c3 z3 ho => ?_
  obtain ⟨he, he0, _⟩ := ofR_err (a := a) rfl hL ho
  have hc1 : Ch (· ∈ blocks d r L) w w1 := ((e1.mono fun _ _ h => h.elim).new e2).more c1 in_d
  have hc3 : Ch (· ∈ blocks d r L) w w3 := (hc1.new c2).new c3
  have H3 : DR w3 d r { a.hd with lk := 1 } L := (H1.ch0 c2).ch0 c3
  have pa3 : blk w3 w.heap.size = some [.pointer (some ⟨d, 0, none⟩)] := by rw [(c2.new c3).blk (blk_lt pa1) id]; exact pa1
  have pn3 : blk w3 v1.heap.size = some [.string n] := by rw [(c2.new c3).blk (blk_lt pn1) id]; exact pn1
  refine ⟨q, e, rfl, Sif_cases (fun g => ?_) fun g => ?_⟩
  · have g' : e ≠ 0 := by simpa using g
    have hsy : a.delete n = (e, a) := by unfold AD.delete; rw [← he, if_pos g']
    rw [hsy] at hk
    refine H3.unlock rfl fun w6 H6 c6 z6 => ?_
    exact hk w6 _ (DK.of H6 rfl (by rw [hL]) wf) (hc3.more c6 in_d) fun b hb => .inl hb
  · have g' : e = 0 := by simpa using g
    have hsy : a.delete n = a.done fun a => a.gone n := by unfold AD.delete; rw [← he, if_neg (by omega)]
    rw [hsy] at hk
    refine ⟨some ⟨d, 0, none⟩, by rw [cell_blk pa3]; rfl, ?_⟩
    refine done_ok H3 (fun x hx => wf.safe x.f (hL ▸ List.mem_map.2 ⟨x, hx, rfl⟩)) (by rw [hL]; omega) wf.acts1 wf.acts2 (fun ha L' w' H' hp c6 hbl => ⟨3, rfl, ?_⟩) fun ha w' H' c6 z6 => ?_
    · have ha' : a.acts = 0 := ha
      unfold AD.done at hk
      rw [if_pos ha'] at hk
      rw [hL] at hp
      refine H'.unlock rfl fun w7 H7 c7 z7 => ?_
      exact hk w7 _ (DK.of H7 (by simp only [AD.hd, AD.fall]; rw [total_perm hp]; rfl) hp (wf.fall a.keep)) ((hc3.more c6 fun _ hx => hx).more c7 in_d) fun b hb => (hbl b hb).imp id fun h => by have := hc3.size; omega
    · have ha' : a.acts ≠ 0 := ha
      unfold AD.done at hk
      rw [if_neg ha'] at hk
      refine callV_unit (by kernel_rfl) (ok_disk_Disk_Delete_1 ?_)
      unfold wp_disk_Disk_Delete_1
      have pa6 : blk w' w.heap.size = some [.pointer (some ⟨d, 0, none⟩)] := by rw [c6.blk (blk_lt pa3) (by omega)]; exact pa3
      have pn6 : blk w' v1.heap.size = some [.string n] := by rw [c6.blk (blk_lt pn3) (by omega)]; exact pn3
      simp only [nn_some]
      refine ⟨_, by rw [cell_blk pa6]; rfl, _, by rw [cell_blk pn6]; rfl, ?_⟩
      refine gone_ok H' (by rw [hL]; rfl) (by rw [hL]; omega) fun L' w7 H7 hf hsub c7 => ⟨rfl, trivial, 0, rfl, ?_⟩
      refine H7.unlock rfl fun w8 H8 c8 z8 => ?_
      rw [hL] at hf
      refine hk w8 _ (DK.of H8 (by simp only [AD.hd, AD.gone, AD.act]; rw [hf]) (.of_eq hf) (wf.act.gone n)) (((hc3.more c6 in_d).more c7 fun x hx => hx.elim (in_d x) (in_r x)).more c8 in_d) fun b hb => .inl (blocks_sub hsub b hb)
/-- reading: the file's bytes in memory of their own -/
theorem read_ok {w : World} {d : Nat} {a : AD} {B : Nat → Prop} {n : ByteArray} {K : Value → World → Prop} (D : DK w d a B) (hs : n.size ≤ 9223372036854775807)
    (hk : ∀ p c b, let l := if a.err [n] n = 0 then a.get n else []
      ∀ w' B', DK w' d a B' → Ch B w w' → (∀ b, B' b → B b) → Ow w' p l.length c 1 (bytesV l) b → (∀ k, b = some k → w.heap.size ≤ k) → K (.tuple #[.slice p l.length c, .int .i64 (a.err [n] n)]) w') :
    callP Tryz.prog 22 [.pointer (some ⟨d, 0, none⟩), .string n] w K := by
  obtain ⟨wf, r, L, H, hL, rfl⟩ := D
  have htot := wf.tot
  have hlt := H.lt
  refine ok_disk_Disk_Read ?_
  unfold wp_disk_Disk_Read
  simp only [nn_some, add_at]
  refine H.lock rfl fun w1 H1 c1 z1 => ⟨rfl, newB_blk fun w2 b2 c2 z2 => ?_⟩
  refine of_ok (H1.ch0 c2) (ns := [n]) rfl (one_rd b2) (fun s hs' => by simp at hs'; subst hs'; exact hs) (by simp) fun q e w3 c3 z3 ho => ?_
  obtain ⟨he, he0, _⟩ := ofR_err (a := a) rfl hL ho
  have hc3 : Ch (· ∈ blocks d r L) w w3 := ((c1.mono fun x _ hx => in_d x hx).new c2).new c3
  have H3 : DR w3 d r { a.hd with lk := 1 } L := (H1.ch0 c2).ch0 c3
  refine ⟨q, e, rfl, Sif_cases (fun g => ?_) fun g => ?_⟩
  · have g' : e ≠ 0 := by simpa using g
    rw [he] at g'
    refine H3.unlock rfl fun w6 H6 c6 z6 => ?_
    have := hk none 0 none
    simp only [if_neg g'] at this
    rw [he]
    exact this w6 _ (DK.of H6 rfl (by rw [hL]) wf) (hc3.more c6 in_d) (fun b hb => hb) ⟨rfl, Nat.le_refl _, .inl ⟨rfl, rfl⟩⟩ fun k hk => by cases hk
  · have g' : e = 0 := by simpa using g
    obtain ⟨x, hx, hxn, rfl⟩ := he0 g'
    simp only [nn_some, add_at]
    have hg := H3.files x hx
    have hxf : x.f ∈ a.fs := hL ▸ List.mem_map.2 ⟨x, hx, rfl⟩
    have hget : a.get n = x.f.dat := by
      have hnm : (a.fs.map (·.name)).Nodup := by rw [← hL, List.map_map]; exact H.names
      unfold AD.get
      cases hf : a.fs.find? fun f => decide (f.name = n) with
      | none => exact absurd (List.find?_eq_none.1 hf x.f hxf) (by simp [hxn])
      | some f =>
        have h1 : f.name = n := by simpa using List.find?_some hf
        have h2 := List.mem_of_find?_eq_some hf
        have : f = x.f := by
          exact inj_of_nodup hnm h2 hxf (h1.trans hxn.symm)
        simp [this]
    refine ⟨x.p, x.f.dat.length, x.c, by rw [cell_blk hg.1]; rfl, clone_ok hg.2.rd (by have := dat_le_total hxf; omega) fun p4 c4 w4 b4 o4 f4 e4 => ⟨p4, _, c4, rfl, ?_⟩⟩
    refine (H3.ch0 e4).unlock rfl fun w6 H6 c6 z6 => ?_
    have := hk p4 c4 b4
    simp only [if_pos (he ▸ g' : a.err [n] n = 0)] at this
    rw [show (0 : Int) = a.err [n] n by rw [← he, g']]
    rw [hget] at this
    refine this w6 _ (DK.of H6 rfl (by rw [hL]) wf) ((hc3.new e4).more c6 in_d) (fun b hb => hb) (o4.ch c6 fun k hk e => ?_) fun k hk => ?_
    · have := f4 k hk
      have := hlt d (by simp [blocks])
      have := hc3.size
      omega
    · have := f4 k hk
      have := hc3.size
      omega
end Go.Proofs.YtipololccbdojaaGreatDoor
