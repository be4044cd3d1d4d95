/-
  What the disk's methods do, as functions of what the disk holds; and that they do so (Up, Start, Arm, Crash, Sync, Delete, Read).
-/
import Derived.Test.YtncbmfinndcojaaDiskD
namespace Go.Proofs.Ytncbmfinndcojaa
open Go Go.Sv Go.MapKept
set_option linter.unusedVariables false
set_option maxRecDepth 4000

structure AD where
  room : Int
  down : Bool
  acts : Int
  keep : Int
  fs : List File
structure WF (a : AD) : Prop where
  safe : ∀ f ∈ a.fs, f.safe ≤ f.dat.length
  fits : (total a.fs : Int) ≤ a.room
  room : a.room ≤ 16777216
  acts1 : -1 ≤ a.acts
  acts2 : a.acts ≤ 9223372036854775807
  names : ∀ f ∈ a.fs, nameOk f.name = true
def AD.hd (a : AD) : Hd := { lk := 0, room := a.room, used := total a.fs, down := a.down, acts := a.acts, keep := a.keep }
/-- in w the disk at block d is a, in the blocks B -/
structure DK (w : World) (d : Nat) (a : AD) (B : Nat → Prop) : Prop where
  wf : WF a
  ex : ∃ r L, DR w d r a.hd L ∧ L.map (·.f) = a.fs ∧ B = fun b => b ∈ blocks d r L
theorem DK.of {w : World} {d r : Nat} {a : AD} {L : List PF} {h : Hd} (H : DR w d r h L) (hh : h = a.hd) (hp : (L.map (·.f)).Perm a.fs) (wf : WF a) : DK w d a (fun b => b ∈ blocks d r L) := by
  obtain ⟨L', h1, h2⟩ := perm_lift hp
  refine ⟨wf, r, L', hh ▸ H.perm h1, h2, ?_⟩
  funext b
  apply propext
  rw [mem_blocks, mem_blocks]
  simp only [h1.mem_iff]
theorem WF.perm {a : AD} {fs : List File} (wf : WF a) (h : a.fs.Perm fs) : WF { a with fs := fs } :=
  ⟨fun f hf => wf.safe f (h.mem_iff.2 hf), by show (total fs : Int) ≤ _; rw [← total_perm h]; exact wf.fits, wf.room, wf.acts1, wf.acts2, fun f hf => wf.names f (h.mem_iff.2 hf)⟩
theorem DK.perm {w : World} {d : Nat} {a : AD} {B : Nat → Prop} {fs : List File} (D : DK w d a B) (h : a.fs.Perm fs) : DK w d { a with fs := fs } B := by
  obtain ⟨wf, r, L, H, hL, rfl⟩ := D
  refine DK.of (h := a.hd) H ?_ (by rw [hL]; exact h) (wf.perm h)
  show Hd.mk _ _ _ _ _ _ = Hd.mk _ _ _ _ _ _
  rw [total_perm h]
theorem DK.ch {S : Nat → Prop} {w w' : World} {d : Nat} {a : AD} {B : Nat → Prop} (D : DK w d a B) (hc : Ch S w w') (hn : ∀ b, B b → ¬ S b) : DK w' d a B := by
  obtain ⟨wf, r, L, H, hL, rfl⟩ := D
  exact ⟨wf, r, L, H.ch hc hn, hL, rfl⟩
theorem DK.lt {w : World} {d : Nat} {a : AD} {B : Nat → Prop} (D : DK w d a B) : ∀ b, B b → b < w.heap.size := by
  obtain ⟨wf, r, L, H, hL, rfl⟩ := D
  exact H.lt
theorem DK.self {w : World} {d : Nat} {a : AD} {B : Nat → Prop} (D : DK w d a B) : B d := by
  obtain ⟨wf, r, L, H, hL, rfl⟩ := D
  simp [blocks]
theorem WF.tot {a : AD} (wf : WF a) : total a.fs ≤ 2 ^ 24 := by have := wf.fits; have := wf.room; omega

/-! ### What the methods do -/
def AD.has (a : AD) (n : ByteArray) : Bool := a.fs.any fun f => decide (f.name = n)
def AD.err (a : AD) (ns : List ByteArray) (n0 : ByteArray) : Int := if a.down then 3 else if ns.all nameOk = false then 1 else if a.has n0 = false then 191 else 0
def AD.fall (a : AD) (keep : Int) : AD := { a with fs := a.fs.map (cutF keep), down := true, acts := -1 }
def AD.act (a : AD) : AD := { a with acts := actsN a.acts }
def AD.done (a : AD) (g : AD → AD) : Int × AD := if a.acts = 0 then (3, a.fall a.keep) else (0, g a.act)
def AD.upd (a : AD) (n : ByteArray) (g : File → File) : AD := { a with fs := a.fs.map fun f => if f.name = n then g f else f }
def AD.gone (a : AD) (n : ByteArray) : AD := { a with fs := a.fs.filter fun f => decide (f.name ≠ n) }
def sealF (f : File) : File := { f with safe := f.dat.length }
def AD.sync (a : AD) (n : ByteArray) : Int × AD := if a.err [n] n ≠ 0 then (a.err [n] n, a) else a.done fun a => a.upd n sealF
def AD.delete (a : AD) (n : ByteArray) : Int × AD := if a.err [n] n ≠ 0 then (a.err [n] n, a) else a.done fun a => a.gone n
def AD.arm (a : AD) (acts keep : Int) : AD := if a.down then a else { a with acts := max acts (-1), keep := keep }
def AD.crash (a : AD) (keep : Int) : AD := if a.down then a else a.fall keep
def AD.get (a : AD) (n : ByteArray) : List UInt8 := ((a.fs.find? fun f => decide (f.name = n)).map (·.dat)).getD []
theorem total_cut (keep : Int) (fs : List File) : total (fs.map (cutF keep)) ≤ total fs := by
  induction fs with
  | nil => simp
  | cons f fs ih =>
    rw [List.map_cons, total_cons, total_cons]
    have : (cutF keep f).dat.length ≤ f.dat.length := by simp [cutF]; omega
    omega
theorem WF.fall {a : AD} (wf : WF a) (keep : Int) : WF (a.fall keep) := by
  refine ⟨fun f hf => ?_, ?_, wf.room, by simp [AD.fall], by simp [AD.fall], fun f hf => ?_⟩
  · obtain ⟨g, _, rfl⟩ := List.mem_map.1 hf
    have := nCut_le g keep
    simp [cutF]; omega
  · have := total_cut keep a.fs
    have := wf.fits
    show (total (a.fs.map (cutF keep)) : Int) ≤ a.room
    omega
  · obtain ⟨g, hg, rfl⟩ := List.mem_map.1 hf
    exact wf.names g hg
theorem actsN_ge {n : Int} (h : -1 ≤ n) : -1 ≤ actsN n ∧ actsN n ≤ max n 0 := by unfold actsN; split <;> omega
theorem WF.act {a : AD} (wf : WF a) : WF a.act := by
  have h1 := actsN_ge wf.acts1
  have h2 := wf.acts2
  exact ⟨wf.safe, wf.fits, wf.room, h1.1, by show actsN a.acts ≤ _; omega, wf.names⟩
theorem total_filter (p : File → Bool) (fs : List File) : total (fs.filter p) ≤ total fs := by
  induction fs with
  | nil => simp
  | cons f fs ih =>
    rw [List.filter_cons, total_cons]
    split
    · rw [total_cons]; omega
    · omega
theorem WF.gone {a : AD} (wf : WF a) (n : ByteArray) : WF (a.gone n) := by
  refine ⟨fun f hf => wf.safe f (List.mem_filter.1 hf).1, ?_, wf.room, wf.acts1, wf.acts2, fun f hf => wf.names f (List.mem_filter.1 hf).1⟩
  have := total_filter (fun f => decide (f.name ≠ n)) a.fs
  have := wf.fits
  show (total (a.fs.filter fun f => decide (f.name ≠ n)) : Int) ≤ a.room
  omega
/-- what 'of' finds -/
theorem ofR_err {a : AD} {L : List PF} {h : Hd} {ns : List ByteArray} {n0 : ByteArray} {q : Option Addr} {e : Int} (hd : h.down = a.down) (hL : L.map (·.f) = a.fs) (ho : ofR h L ns n0 q e) :
    e = a.err ns n0 ∧ (e = 0 → ∃ x ∈ L, x.f.name = n0 ∧ q = some ⟨x.b, 0, none⟩) ∧ (e = 191 → q = none ∧ ∀ x ∈ L, x.f.name ≠ n0) := by
  unfold AD.err
  rw [← hd]
  have hall : (∀ s ∈ ns, nameOk s = true) → ns.all nameOk = true := fun h => List.all_eq_true.2 h
  rcases ho with ⟨h1, rfl, rfl⟩ | ⟨h1, ⟨s, hs, h2⟩, rfl, rfl⟩ | ⟨h1, h2, h3, rfl, rfl⟩ | ⟨h1, h2, x, hx, h3, rfl, rfl⟩
  · rw [h1]; exact ⟨rfl, by omega, by omega⟩
  · rw [h1]
    have : ns.all nameOk = false := List.all_eq_false.2 ⟨s, hs, by simp [h2]⟩
    rw [this]; exact ⟨rfl, by omega, by omega⟩
  · rw [h1, hall h2]
    have : a.has n0 = false := by
      unfold AD.has
      rw [← hL, List.any_eq_false]
      intro f hf
      obtain ⟨x, hx, rfl⟩ := List.mem_map.1 hf
      simpa using h3 x hx
    rw [this]; exact ⟨rfl, by omega, fun _ => ⟨rfl, h3⟩⟩
  · rw [h1, hall h2]
    have : a.has n0 = true := by
      unfold AD.has
      rw [← hL, List.any_eq_true]
      exact ⟨x.f, List.mem_map.2 ⟨x, hx, rfl⟩, by simp [h3]⟩
    rw [this]; exact ⟨rfl, fun _ => ⟨x, hx, h3, rfl⟩, by omega⟩
/-- the one name's slice, newly laid -/
theorem one_rd {w' : World} {k : Nat} {s : ByteArray} (hb : blk w' k = some [.string s]) : Rd w' (some ⟨k, 0, none⟩) [s].length 1 ([s].map .string) := ⟨rfl, .inr ⟨k, 0, [.string s], rfl, blk_cells hb, by simp, rfl⟩⟩

abbrev Post (w : World) (d : Nat) (a' : AD) (B : Nat → Prop) (K : World → Prop) : Prop := ∀ w' B', DK w' d a' B' → Ch B w w' → (∀ b, B' b → B b ∨ w.heap.size ≤ b) → K w'

theorem up_ok {w : World} {d : Nat} {a : AD} {B : Nat → Prop} {K : Value → World → Prop} (D : DK w d a B) (hk : Post w d a B (K (.bool (!a.down)))) : callP Try.prog 11 [.pointer (some ⟨d, 0, none⟩)] w K := by
  obtain ⟨wf, r, L, H, hL, rfl⟩ := D
  refine ok_disk_Disk_Up ?_
  unfold wp_disk_Disk_Up
  simp only [nn_some, add_at]
  refine H.lock rfl fun w1 H1 c1 z1 => ⟨rfl, a.down, H1.cell 5, ?_⟩
  refine H1.unlock rfl fun w2 H2 c2 z2 => ?_
  exact hk w2 _ (DK.of H2 rfl (by rw [hL]) wf) ((c1.mono fun x _ hx => by simp [blocks, hx]).trans c2 fun x _ hx => by simp [blocks, hx]) fun b hb => .inl hb
theorem start_ok {w : World} {d : Nat} {a : AD} {B : Nat → Prop} {K : Value → World → Prop} (D : DK w d a B) (hk : Post w d { a with down := false } B (K (.tuple #[]))) : callP Try.prog 14 [.pointer (some ⟨d, 0, none⟩)] w K := by
  obtain ⟨wf, r, L, H, hL, rfl⟩ := D
  refine ok_disk_Disk_Start ?_
  unfold wp_disk_Disk_Start
  simp only [nn_some, add_at]
  refine H.lock rfl fun w1 H1 c1 z1 => ⟨rfl, ?_⟩
  refine H1.st (h' := { a.hd with lk := 1, down := false }) (by omega) rfl fun w2 H2 c2 z2 => ?_
  refine H2.unlock rfl fun w3 H3 c3 z3 => ?_
  exact hk w3 _ (DK.of H3 rfl (by rw [hL]) ⟨wf.safe, wf.fits, wf.room, wf.acts1, wf.acts2, wf.names⟩) (((c1.mono fun x _ hx => by simp [blocks, hx]).trans c2 fun x _ hx => by simp [blocks, hx]).trans c3 fun x _ hx => by simp [blocks, hx]) fun b hb => .inl hb
theorem arm_ok {w : World} {d : Nat} {a : AD} {B : Nat → Prop} {acts keep : Int} {K : Value → World → Prop} (D : DK w d a B) (ha : acts ≤ 9223372036854775807) (hk : Post w d (a.arm acts keep) B (K (.tuple #[]))) : callP Try.prog 8 [.pointer (some ⟨d, 0, none⟩), .int .i64 acts, .int .i64 keep] w K := by
  obtain ⟨wf, r, L, H, hL, rfl⟩ := D
  refine ok_disk_Disk_Arm ?_
  unfold wp_disk_Disk_Arm
  simp only [nn_some, add_at]
  refine H.lock rfl fun w1 H1 c1 z1 => ⟨rfl, a.down, H1.cell 5, Sif_cases (fun e => ?_) fun e => ?_⟩
  · have e' : a.down = false := by simpa using e
    refine H1.st (h' := { a.hd with lk := 1, acts := max acts (-1) }) (by omega) rfl fun w2 H2 c2 z2 => ?_
    refine H2.st (h' := { a.hd with lk := 1, acts := max acts (-1), keep := keep }) (by omega) rfl fun w3 H3 c3 z3 => ?_
    refine H3.unlock rfl fun w4 H4 c4 z4 => ?_
    unfold AD.arm at hk
    rw [e'] at hk
    exact hk w4 _ (DK.of H4 (by simp [AD.hd, e']) (by rw [hL]; exact .refl _) ⟨wf.safe, wf.fits, wf.room, by simp; omega, by simp; omega, wf.names⟩)
      ((((c1.mono fun x _ hx => by simp [blocks, hx]).trans c2 fun x _ hx => by simp [blocks, hx]).trans c3 fun x _ hx => by simp [blocks, hx]).trans c4 fun x _ hx => by simp [blocks, hx]) fun b hb => .inl hb
  · have e' : a.down = true := by simpa using e
    refine H1.unlock rfl fun w4 H4 c4 z4 => ?_
    unfold AD.arm at hk
    rw [if_pos e'] at hk
    exact hk w4 _ (DK.of H4 rfl (by rw [hL]) wf) ((c1.mono fun x _ hx => by simp [blocks, hx]).trans c4 fun x _ hx => by simp [blocks, hx]) fun b hb => .inl hb
theorem crash_ok {w : World} {d : Nat} {a : AD} {B : Nat → Prop} {keep : Int} {K : Value → World → Prop} (D : DK w d a B) (hk : Post w d (a.crash keep) B (K (.tuple #[]))) : callP Try.prog 29 [.pointer (some ⟨d, 0, none⟩), .int .i64 keep] w K := by
  obtain ⟨wf, r, L, H, hL, rfl⟩ := D
  have htot := wf.tot
  refine ok_disk_Disk_Crash ?_
  unfold wp_disk_Disk_Crash
  simp only [nn_some, add_at]
  refine H.lock rfl fun w1 H1 c1 z1 => ⟨rfl, a.down, H1.cell 5, Sif_cases (fun e => ?_) fun e => ?_⟩
  · have e' : a.down = false := by simpa using e
    refine fall_ok H1 (fun x hx => wf.safe x.f (hL ▸ List.mem_map.2 ⟨x, hx, rfl⟩)) (by rw [hL]; omega) fun L' w2 H2 hp c2 hbl => ⟨rfl, ?_⟩
    refine H2.unlock rfl fun w3 H3 c3 z3 => ?_
    unfold AD.crash at hk
    rw [if_neg (by simp [e'])] at hk
    rw [hL] at hp
    refine hk w3 _ (DK.of H3 (by simp only [AD.hd, AD.fall]; rw [total_perm hp]) hp (wf.fall keep)) (((c1.mono fun x _ hx => by simp [blocks, hx]).trans c2 fun x _ hx => hx).trans c3 fun x _ hx => by simp [blocks, hx]) fun b hb => (hbl b hb).imp id fun h => by omega
  · have e' : a.down = true := by simpa using e
    refine H1.unlock rfl fun w4 H4 c4 z4 => ?_
    unfold AD.crash at hk
    rw [if_pos e'] at hk
    exact hk w4 _ (DK.of H4 rfl (by rw [hL]) wf) ((c1.mono fun x _ hx => by simp [blocks, hx]).trans c4 fun x _ hx => by simp [blocks, hx]) fun b hb => .inl hb
end Go.Proofs.Ytncbmfinndcojaa
