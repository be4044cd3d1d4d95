/-
  A journal over a disk, in plain words: what its calls do, as functions of what the disk holds and of what the journal keeps in mind; what the disk's acts do to its files. A journal over a disk: plain laws: what a log holds behind each call, wherever the power fails. A journal over any disk, plain: what a log's bytes say is written so again; what stays true of a journal whatever befalls its disk.
-/
import Derived.Test.YtipololccbdojaaGreatDoorDiskS
import Derived.Test.YtipololccbdojaaGreatDoorJbytes
namespace Go.Proofs.YtipololccbdojaaGreatDoor
open Go Go.Sv
set_option linter.unusedVariables false

abbrev sNew : ByteArray := ⟨#[108, 111, 103, 46, 110, 101, 119]⟩
def step (x : Int × AD) : Int × AD := (x.1, x.2.sorted)
def AD.file (a : AD) (n : ByteArray) : Option File := a.fs.find? fun f => decide (f.name = n)
def AD.repl (a : AD) (b : List UInt8) : Int × AD :=
  if (step (a.append sNew b)).1 ≠ 0 then step (a.append sNew b)
  else if (step ((step (a.append sNew b)).2.sync sNew)).1 ≠ 0 then step ((step (a.append sNew b)).2.sync sNew)
  else step ((step ((step (a.append sNew b)).2.sync sNew)).2.rename sNew sLog)
structure AJ where
  size : Nat
  tail : Bool
  down : Bool
def AJ.noted (j : AJ) (e : Int) : AJ := { j with down := j.down || e == 3 }
def AJ.look (j : AJ) (a : AD) : AJ := { j with down := j.down || a.down }
def AD.cut (a : AD) (j : AJ) : Int × AD × AJ :=
  if j.tail = false then (0, a, j)
  else if a.err [sLog] sLog ≠ 0 then (a.err [sLog] sLog, a, j)
  else if (a.repl ((a.get sLog).take j.size)).1 ≠ 0 then ((a.repl ((a.get sLog).take j.size)).1, (a.repl ((a.get sLog).take j.size)).2, j)
  else (0, (a.repl ((a.get sLog).take j.size)).2, { j with tail := false })
/-- Add behind the cut -/
def AD.lay (a : AD) (j : AJ) (R : Batch) : Int × AD × AJ :=
  if (step (a.append sLog (batchB R))).1 ≠ 0 then ((step (a.append sLog (batchB R))).1, (step (a.append sLog (batchB R))).2, j.noted (step (a.append sLog (batchB R))).1)
  else if (step ((step (a.append sLog (batchB R))).2.sync sLog)).1 ≠ 0 then ((step ((step (a.append sLog (batchB R))).2.sync sLog)).1, (step ((step (a.append sLog (batchB R))).2.sync sLog)).2, j.noted (step ((step (a.append sLog (batchB R))).2.sync sLog)).1)
  else (0, (step ((step (a.append sLog (batchB R))).2.sync sLog)).2, { j with size := j.size + (batchB R).length })
def AD.add (a : AD) (j : AJ) (R : Batch) : Int × AD × AJ :=
  if (j.look a).down = true then (3, a, j.look a)
  else if recsB R = false then (200, a, j.look a)
  else if R = [] then (0, a, j.look a)
  else if (a.cut (j.look a)).1 ≠ 0 then ((a.cut (j.look a)).1, (a.cut (j.look a)).2.1, (a.cut (j.look a)).2.2.noted (a.cut (j.look a)).1)
  else (a.cut (j.look a)).2.1.lay (a.cut (j.look a)).2.2 R
def AD.shorten (a : AD) (j : AJ) (L : List Batch) : Int × AD × AJ :=
  if (j.look a).down = true then (3, a, j.look a)
  else if L.all recsB = false then (200, a, j.look a)
  else if (a.repl (allB L)).1 ≠ 0 then ((a.repl (allB L)).1, (a.repl (allB L)).2, (j.look a).noted (a.repl (allB L)).1)
  else (0, (a.repl (allB L)).2, { j.look a with size := (allB L).length, tail := false })
def AD.logF (a : AD) : File := (a.file sLog).getD ⟨sLog, [], 0⟩
def AD.tidy (a : AD) : Int × AD := if a.has sNew then step (a.delete sNew) else (0, a)
def AD.openJ (a : AD) : AJ := ⟨(scanL a.logF.dat).2, decide ((scanL a.logF.dat).2 < a.logF.dat.length), false⟩
def AD.there (a : AD) (e : Int) : Bool := if e = 0 then a.has sLog && decide (a.logF.safe < a.logF.dat.length) && decide ((scanL a.logF.dat).2 = a.logF.dat.length) else decide (a.logF.safe < a.logF.dat.length)
/-- Open behind its scan -/
def AD.openB (a : AD) : Int × AD × Option AJ :=
  if a.tidy.1 ≠ 0 then (a.tidy.1, a.tidy.2, none)
  else if (a.tidy.2.cut a.openJ).1 ≠ 0 ∧ (a.tidy.2.cut a.openJ).1 ≠ 190 then (3, (a.tidy.2.cut a.openJ).2.1, none)
  else if a.there (a.tidy.2.cut a.openJ).1 = false then (0, (a.tidy.2.cut a.openJ).2.1, some (a.tidy.2.cut a.openJ).2.2)
  else if (step ((a.tidy.2.cut a.openJ).2.1.sync sLog)).1 ≠ 0 then ((step ((a.tidy.2.cut a.openJ).2.1.sync sLog)).1, (step ((a.tidy.2.cut a.openJ).2.1.sync sLog)).2, none)
  else (0, (step ((a.tidy.2.cut a.openJ).2.1.sync sLog)).2, some (a.tidy.2.cut a.openJ).2.2)
def AD.scan (a : AD) : List Batch × Nat × Int := scanA a.logF.dat a.logF.safe
def AD.jopen (a : AD) : Int × AD × Option (AJ × List Batch) :=
  if a.down = true then (3, a, none)
  else if a.scan.2.2 ≠ 0 then (a.scan.2.2, a, none)
  else (a.openB.1, a.openB.2.1, a.openB.2.2.map fun j => (j, a.scan.1))

/-! ### The disk's acts, by its files -/
def ND (a : AD) : Prop := (a.fs.map (·.name)).Nodup
theorem find_perm {fs gs : List File} (h : fs.Perm gs) (nd : (fs.map (·.name)).Nodup) (n : ByteArray) : (gs.find? fun f => decide (f.name = n)) = fs.find? fun f => decide (f.name = n) := by
  have nd2 : (gs.map (·.name)).Nodup := (h.map _).nodup nd
  cases hf : fs.find? fun f => decide (f.name = n) with
  | none =>
    rw [List.find?_eq_none] at hf ⊢
    exact fun x hx => hf x (h.mem_iff.2 hx)
  | some f =>
    have h1 : f.name = n := by simpa using List.find?_some hf
    exact find_eq nd2 (h.mem_iff.1 (List.mem_of_find?_eq_some hf)) h1
theorem file_sorted {a : AD} (nd : ND a) (n : ByteArray) : a.sorted.file n = a.file n := find_perm a.sorted_perm nd n
theorem nd_sorted {a : AD} (nd : ND a) : ND a.sorted := (a.sorted_perm.map _).nodup nd
theorem tot_sorted (a : AD) : total a.sorted.fs = total a.fs := (total_perm a.sorted_perm).symm
theorem has_file (a : AD) (n : ByteArray) : a.has n = (a.file n).isSome := by
  unfold AD.has AD.file
  induction a.fs with
  | nil => rfl
  | cons f fs ih => rw [List.any_cons, List.find?_cons, ih]; cases decide (f.name = n) <;> rfl
theorem file_name {a : AD} {n : ByteArray} {f : File} (h : a.file n = some f) : f.name = n := by simpa using List.find?_some h
theorem file_mem {a : AD} {n : ByteArray} {f : File} (h : a.file n = some f) : f ∈ a.fs := List.mem_of_find?_eq_some h
theorem find_map {fs : List File} {g : File → File} (hg : ∀ f, (g f).name = f.name) (n : ByteArray) : ((fs.map g).find? fun f => decide (f.name = n)) = (fs.find? fun f => decide (f.name = n)).map g := by
  induction fs with
  | nil => rfl
  | cons f fs ih => rw [List.map_cons, List.find?_cons, List.find?_cons, hg, ih]; cases decide (f.name = n) <;> rfl
theorem file_upd {a : AD} {n : ByteArray} {g : File → File} (hg : ∀ f, (g f).name = f.name) (m : ByteArray) : (a.upd n g).file m = if m = n then (a.file m).map g else a.file m := by
  have h := find_map (fs := a.fs) (g := fun f => if f.name = n then g f else f) (fun f => by split <;> simp [hg]) m
  show (List.find? _ (a.fs.map _)) = _
  rw [h]
  show Option.map _ (a.file m) = _
  cases hf : a.file m with
  | none => simp
  | some f =>
    have := file_name hf
    subst this
    simp only [Option.map_some]
    split <;> rfl
theorem file_fall (a : AD) (k : Int) (m : ByteArray) : (a.fall k).file m = (a.file m).map (cutF k) := find_map (fs := a.fs) (g := cutF k) (fun _ => rfl) m
theorem file_gone (a : AD) (n m : ByteArray) : (a.gone n).file m = if m = n then none else a.file m := by
  show List.find? _ (a.fs.filter _) = _
  rw [List.find?_filter]
  split
  · rename_i h
    rw [List.find?_eq_none]
    intro f hf
    simp [h]
  · rename_i h
    unfold AD.file
    congr 1
    funext f
    by_cases hm : f.name = m
    · have : f.name ≠ n := fun e => h (hm.symm.trans e)
      simp [hm, h]
    · simp [hm]
theorem nd_map {a : AD} {g : File → File} (hg : ∀ f, (g f).name = f.name) (nd : ND a) : ((a.fs.map g).map (·.name)).Nodup := by
  have e : (a.fs.map g).map (·.name) = a.fs.map (·.name) := by
    rw [List.map_map]
    exact List.map_congr_left fun f _ => hg f
  rw [e]; exact nd
theorem nd_upd {a : AD} {n : ByteArray} {g : File → File} (hg : ∀ f, (g f).name = f.name) (nd : ND a) : ND (a.upd n g) := nd_map (fun f => by split <;> simp [hg]) nd
theorem nd_fall {a : AD} (k : Int) (nd : ND a) : ND (a.fall k) := nd_map (fun _ => rfl) nd
theorem nd_filter {a : AD} (p : File → Bool) (nd : ND a) : ((a.fs.filter p).map (·.name)).Nodup := (List.filter_sublist.map _).nodup nd
theorem tot_gone : ∀ {fs : List File} {n : ByteArray}, (fs.map (·.name)).Nodup → total (fs.filter fun f => decide (f.name ≠ n)) + (((fs.find? fun f => decide (f.name = n)).map fun f => f.dat.length).getD 0) = total fs
  | [], n, _ => by simp [total]
  | f :: fs, n, nd => by
    obtain ⟨n1, n2⟩ := List.nodup_cons.1 nd
    rw [List.filter_cons, List.find?_cons, total_cons]
    by_cases h : f.name = n
    · have : fs.filter (fun f => decide (f.name ≠ n)) = fs := List.filter_eq_self.2 fun x hx => by
        have : x.name ≠ n := fun e => n1 (List.mem_map.2 ⟨x, hx, e.trans h.symm⟩)
        simp [this]
      simp only [h, ne_eq, not_true, decide_false, Bool.false_eq_true, if_false, decide_true, Option.map_some, Option.getD_some, this]
      omega
    · have ih := tot_gone (n := n) n2
      simp only [h, ne_eq, not_false_iff, decide_true, if_true, decide_false, total_cons]
      simp only [ne_eq] at ih
      omega
theorem tot_grow : ∀ {fs : List File} {n : ByteArray} {l : List UInt8}, (fs.map (·.name)).Nodup → (∃ f ∈ fs, f.name = n) → total (fs.map fun f => if f.name = n then growF l f else f) = total fs + l.length
  | [], n, l, _, h => by obtain ⟨f, h, _⟩ := h; simp at h
  | f :: fs, n, l, nd, hx => by
    obtain ⟨n1, n2⟩ := List.nodup_cons.1 nd
    rw [List.map_cons, total_cons, total_cons]
    by_cases h : f.name = n
    · have : (fs.map fun f => if f.name = n then growF l f else f) = fs := by
        conv => rhs; rw [← List.map_id fs]
        refine List.map_congr_left fun x hx => ?_
        have : x.name ≠ n := fun e => n1 (List.mem_map.2 ⟨x, hx, e.trans h.symm⟩)
        simp [this]
      rw [this, if_pos h]
      simp [growF]; omega
    · obtain ⟨g, hg, he⟩ := hx
      rcases List.mem_cons.1 hg with rfl | hg
      · exact absurd he h
      · rw [if_neg h, tot_grow n2 ⟨g, hg, he⟩]; omega

/-- an act has been done: the files are F -/
structure Did (a a' : AD) (F : ByteArray → Option File) : Prop where
  nd : ND a'
  up : a'.down = false
  room : a'.room = a.room
  keep : a'.keep = a.keep
  acts : a'.acts = actsN a.acts
  armed : a.acts ≠ 0
  files : ∀ m, a'.file m = F m
/-- the power has failed in it -/
structure Fell (a a' : AD) (F : ByteArray → Option File) : Prop where
  nd : ND a'
  down : a'.down = true
  room : a'.room = a.room
  acts : a'.acts = -1
  armed : a.acts = 0
  files : ∀ m, a'.file m = (F m).map (cutF a.keep)
theorem Did.sort {a a' : AD} {F : ByteArray → Option File} (h : Did a a' F) : Did a a'.sorted F := ⟨nd_sorted h.nd, h.up, h.room, h.keep, h.acts, h.armed, fun m => by rw [file_sorted h.nd]; exact h.files m⟩
theorem Fell.sort {a a' : AD} {F : ByteArray → Option File} (h : Fell a a' F) : Fell a a'.sorted F := ⟨nd_sorted h.nd, h.down, h.room, h.acts, h.armed, fun m => by rw [file_sorted h.nd]; exact h.files m⟩
theorem done_up {a : AD} {g : AD → AD} (nd : ND a) (hup : a.down = false) (hg : ND (g a.act) ∧ (g a.act).down = a.act.down ∧ (g a.act).room = a.act.room ∧ (g a.act).keep = a.act.keep ∧ (g a.act).acts = a.act.acts) :
    (∃ a', a.done g = (3, a') ∧ Fell a a' fun m => a.file m) ∨ ((a.done g) = (0, g a.act) ∧ Did a (g a.act) fun m => (g a.act).file m) := by
  unfold AD.done
  by_cases h : a.acts = 0
  · rw [if_pos h]
    exact .inl ⟨_, rfl, nd_fall _ nd, rfl, rfl, rfl, h, fun m => file_fall a _ m⟩
  · rw [if_neg h]
    exact .inr ⟨rfl, hg.1, hg.2.1.trans hup, hg.2.2.1, hg.2.2.2.1, hg.2.2.2.2, h, fun _ => rfl⟩
theorem err_up {a : AD} {n : ByteArray} (hd : a.down = false) (hn : nameOk n = true) : a.err [n] n = if (a.file n).isSome then 0 else 191 := by
  unfold AD.err
  rw [hd, has_file]
  simp only [List.all_cons, hn, List.all_nil, Bool.and_true, Bool.false_eq_true, if_false, Bool.true_eq_false]
  cases a.file n <;> simp
theorem append_up {a : AD} {n : ByteArray} {l : List UInt8} (nd : ND a) (hd : a.down = false) (hn : nameOk n = true) :
    ((step (a.append n l)) = (190, a.sorted) ∧ (l.length : Int) > a.room - total a.fs) ∨
    (∃ a', step (a.append n l) = (3, a') ∧ Fell a a' fun m => if m = n then some (growF l ((a.file n).getD ⟨n, [], 0⟩)) else a.file m) ∨
    (∃ a', step (a.append n l) = (0, a') ∧ (Did a a' fun m => if m = n then some (growF l ((a.file n).getD ⟨n, [], 0⟩)) else a.file m) ∧ total a'.fs = total a.fs + l.length ∧ (l.length : Int) ≤ a.room - total a.fs) := by
  have he := err_up hd hn
  unfold AD.append step
  rw [if_neg (by rw [he]; split <;> omega)]
  by_cases hr : (l.length : Int) > a.room - total a.fs
  · rw [if_pos hr]; exact .inl ⟨rfl, hr⟩
  rw [if_neg hr]
  right
  have hm : ∀ m, (a.more n).file m = if m = n then some ((a.file n).getD ⟨n, [], 0⟩) else a.file m := fun m => by
    unfold AD.more
    rw [he]
    cases hf : a.file n with
    | none =>
      simp only [Option.isSome_none, Bool.false_eq_true, if_false, if_true, Option.getD_none]
      show List.find? _ (_ :: a.fs) = _
      rw [List.find?_cons]
      by_cases h : m = n
      · simp [h]
      · rw [if_neg h]
        have : ¬ n = m := fun e => h e.symm
        simp only [this, decide_false]
        rfl
    | some f =>
      simp only [Option.isSome_some, if_true, Option.getD_some]
      rw [if_neg (by omega)]
      split
      · rename_i h; rw [h, hf]
      · rfl
  have hnd : ND (a.more n) := by
    unfold AD.more
    split
    · rename_i h
      have hf : a.file n = none := by
        rw [he] at h
        cases hf : a.file n with
        | none => rfl
        | some f => rw [hf] at h; simp at h
      refine List.nodup_cons.2 ⟨fun hm => ?_, nd⟩
      obtain ⟨f, hf1, hf2⟩ := List.mem_map.1 hm
      have := List.find?_eq_none.1 hf f hf1
      simp at hf2
      simp [hf2] at this
    · exact nd
  obtain ⟨r1, r2, r3, r4, r5⟩ := a.more_rest n
  have hgn : ∀ f, (growF l f).name = f.name := fun _ => rfl
  have hF : ∀ m, ((a.more n).act.upd n (growF l)).file m = if m = n then some (growF l ((a.file n).getD ⟨n, [], 0⟩)) else a.file m := fun m => by
    rw [file_upd hgn]
    show (if m = n then Option.map (growF l) ((a.more n).file m) else (a.more n).file m) = _
    rw [hm]
    split <;> rfl
  have hnd2 : ND ((a.more n).act.upd n (growF l)) := nd_upd hgn hnd
  by_cases h0 : a.acts = 0
  · rw [if_pos h0]
    refine .inl ⟨_, rfl, Fell.sort ⟨nd_fall _ hnd2, rfl, r1, rfl, h0, fun m => ?_⟩⟩
    rw [file_fall, hF]
  · rw [if_neg h0]
    refine .inr ⟨_, rfl, Did.sort ⟨hnd2, r2.trans hd, r1, r4, by show actsN (a.more n).acts = _; rw [r3], h0, hF⟩, ?_, by omega⟩
    rw [tot_sorted]
    show total ((a.more n).fs.map _) = _
    have hex : ∃ f ∈ (a.more n).fs, f.name = n := by
      have := hm n
      rw [if_pos rfl] at this
      exact ⟨_, file_mem this, file_name this⟩
    rw [tot_grow hnd hex, r5]
theorem sync_up {a : AD} {n : ByteArray} {f : File} (nd : ND a) (hd : a.down = false) (hn : nameOk n = true) (hf : a.file n = some f) :
    (∃ a', step (a.sync n) = (3, a') ∧ Fell a a' fun m => a.file m) ∨
    (∃ a', step (a.sync n) = (0, a') ∧ (Did a a' fun m => if m = n then some (sealF f) else a.file m) ∧ total a'.fs = total a.fs) := by
  have he := err_up hd hn
  rw [hf] at he
  have he : a.err [n] n = 0 := he
  unfold AD.sync step
  rw [if_neg (by omega)]
  have hsn : ∀ f, (sealF f).name = f.name := fun _ => rfl
  rcases done_up (a := a) (g := fun a => a.upd n sealF) nd hd ⟨nd_upd hsn nd, rfl, rfl, rfl, rfl⟩ with ⟨a', h1, h2⟩ | ⟨h1, h2⟩
  · rw [h1]; exact .inl ⟨_, rfl, h2.sort⟩
  · rw [h1]
    refine .inr ⟨_, rfl, ⟨nd_sorted h2.nd, h2.up, h2.room, h2.keep, h2.acts, h2.armed, fun m => ?_⟩, ?_⟩
    · rw [file_sorted h2.nd, file_upd hsn]
      split
      · rename_i h; subst h
        show Option.map sealF (a.file m) = _
        rw [hf]; rfl
      · rfl
    · rw [tot_sorted]
      exact total_upd fun _ => rfl
theorem rename_up {a : AD} {n m : ByteArray} {f : File} (nd : ND a) (hd : a.down = false) (hn : nameOk n = true) (hm : nameOk m = true) (hnm : n ≠ m) (hf : a.file n = some f) (hs : f.safe = f.dat.length) :
    (∃ a', step (a.rename n m) = (3, a') ∧ Fell a a' fun m => a.file m) ∨
    (∃ a', step (a.rename n m) = (0, a') ∧ (Did a a' fun k => if k = m then some { f with name := m } else if k = n then none else a.file k) ∧ total a'.fs + (((a.file m).map fun f => f.dat.length).getD 0) = total a.fs) := by
  have he : a.err [n, m] n = 0 := by
    unfold AD.err
    rw [hd, has_file, hf]
    simp [hn, hm]
  have hfn := file_name hf
  have e1 : (a.fs.find? fun f => decide (f.name = n)) = some f := hf
  unfold AD.rename step
  rw [if_neg (by omega), e1]
  simp only []
  rw [if_neg (by omega)]
  have hmv : ∀ b : AD, moveF b n m f = { b with fs := { f with name := m } :: ((b.gone m).gone n).fs } := fun b => by unfold moveF; rw [if_neg hnm]; rfl
  have hnd : ND (moveF a.act n m f) := by
    rw [hmv]
    refine List.nodup_cons.2 ⟨fun h => ?_, nd_filter (a := a.act.gone m) _ (nd_filter (a := a.act) _ nd)⟩
    obtain ⟨g, hg1, hg2⟩ := List.mem_map.1 h
    have h1 := (List.mem_filter.1 hg1).1
    have h2 := (List.mem_filter.1 h1).2
    simp only [ne_eq, decide_not, Bool.not_eq_true', decide_eq_false_iff_not] at h2
    exact h2 hg2
  have hF : ∀ k, (moveF a.act n m f).file k = if k = m then some { f with name := m } else if k = n then none else a.file k := fun k => by
    rw [hmv]
    show List.find? _ (_ :: _) = _
    rw [List.find?_cons]
    by_cases hk : k = m
    · simp [hk]
    · have h2 : ¬ m = k := fun e => hk e.symm
      simp only [h2, decide_false, hk, if_false]
      have h1 := file_gone (a.act.gone m) n k
      have h3 := file_gone a.act m k
      rw [if_neg hk] at h3
      rw [h3] at h1
      exact h1
  rcases done_up (a := a) (g := fun a => moveF a n m f) nd hd ⟨hnd, by rw [hmv], by rw [hmv], by rw [hmv], by rw [hmv]⟩ with ⟨a', h1, h2⟩ | ⟨h1, h2⟩
  · rw [h1]; exact .inl ⟨_, rfl, h2.sort⟩
  · rw [h1]
    refine .inr ⟨_, rfl, ⟨nd_sorted h2.nd, h2.up, h2.room, h2.keep, h2.acts, h2.armed, fun m => by rw [file_sorted h2.nd]; exact hF m⟩, ?_⟩
    rw [tot_sorted, hmv]
    show total ({ f with name := m } :: ((a.gone m).gone n).fs) + _ = _
    rw [total_cons]
    have t1 := tot_gone (n := m) nd
    have t2 := tot_gone (fs := (a.gone m).fs) (n := n) (nd_filter (a := a) _ nd)
    have e2 : (a.gone m).file n = some f := by rw [file_gone, if_neg hnm, hf]
    have e3 : ((a.gone m).fs.find? fun f => decide (f.name = n)) = some f := e2
    rw [e3] at t2
    simp only [Option.map_some, Option.getD_some] at t2
    have t1 : total (a.gone m).fs + _ = total a.fs := t1
    have t2 : total ((a.gone m).gone n).fs + _ = total (a.gone m).fs := t2
    show f.dat.length + _ + _ = _
    unfold AD.file
    omega
theorem delete_up {a : AD} {n : ByteArray} {f : File} (nd : ND a) (hd : a.down = false) (hn : nameOk n = true) (hf : a.file n = some f) :
    (∃ a', step (a.delete n) = (3, a') ∧ Fell a a' fun m => a.file m) ∨
    (∃ a', step (a.delete n) = (0, a') ∧ (Did a a' fun k => if k = n then none else a.file k)) := by
  have he := err_up hd hn
  rw [hf] at he
  have he : a.err [n] n = 0 := he
  unfold AD.delete step
  rw [if_neg (by omega)]
  rcases done_up (a := a) (g := fun a => a.gone n) nd hd ⟨nd_filter (a := a.act) _ nd, rfl, rfl, rfl, rfl⟩ with ⟨a', h1, h2⟩ | ⟨h1, h2⟩
  · rw [h1]; exact .inl ⟨_, rfl, h2.sort⟩
  · rw [h1]
    refine .inr ⟨_, rfl, ⟨nd_sorted h2.nd, h2.up, h2.room, h2.keep, h2.acts, h2.armed, fun m => ?_⟩⟩
    rw [file_sorted h2.nd]
    exact file_gone a.act n m
end Go.Proofs.YtipololccbdojaaGreatDoor
namespace Go.Proofs.YtipololccbdojaaGreatDoor
open Go Go.Sv
set_option linter.unusedVariables false

theorem name_log : nameOk sLog = true := by decide
theorem name_new : nameOk sNew = true := by decide
theorem new_ne : sNew ≠ sLog := by decide
theorem actsN_neg {n : Int} (h : n = -1) : actsN n = -1 := by subst h; rfl
/-- an act has been done that is one of several -/
structure Held (a a' : AD) : Prop where
  nd : ND a'
  up : a'.down = false
  room : a'.room = a.room
  keep : a'.keep = a.keep
  free : a.acts = -1 → a'.acts = -1
theorem Did.held {a a' : AD} {F : ByteArray → Option File} (h : Did a a' F) : Held a a' := ⟨h.nd, h.up, h.room, h.keep, fun e => by rw [h.acts, actsN_neg e]⟩
theorem Held.trans {a b c : AD} (h : Held a b) (k : Held b c) : Held a c := ⟨k.nd, k.up, k.room.trans h.room, k.keep.trans h.keep, fun e => k.free (h.free e)⟩
structure Lost (a a' : AD) : Prop where
  nd : ND a'
  down : a'.down = true
  room : a'.room = a.room
  acts : a'.acts = -1
  armed : a.acts ≠ -1
theorem Fell.lost {a a' : AD} {F : ByteArray → Option File} (h : Fell a a' F) : Lost a a' := ⟨h.nd, h.down, h.room, h.acts, by have := h.armed; omega⟩
theorem Held.lost {a b c : AD} (h : Held a b) (k : Lost b c) : Lost a c := ⟨k.nd, k.down, k.room.trans h.room, k.acts, fun e => k.armed (h.free e)⟩
def fileD (a : AD) (n : ByteArray) : List UInt8 := ((a.file n).map (·.dat)).getD []
theorem repl_up {a : AD} {b : List UInt8} (nd : ND a) (hd : a.down = false) :
    (a.repl b = (190, a.sorted) ∧ (b.length : Int) > a.room - total a.fs) ∨
    (∃ a', a.repl b = (3, a') ∧ Lost a a' ∧ a'.file sLog = (a.file sLog).map (cutF a.keep)) ∨
    (∃ a', a.repl b = (0, a') ∧ Held a a' ∧ a'.file sNew = none ∧ a'.file sLog = some ⟨sLog, fileD a sNew ++ b, (fileD a sNew ++ b).length⟩ ∧ total a'.fs + (fileD a sLog).length = total a.fs + b.length ∧ (b.length : Int) ≤ a.room - total a.fs) := by
  unfold AD.repl
  have hnl : ¬ sLog = sNew := fun e => new_ne e.symm
  rcases append_up (l := b) nd hd name_new with ⟨h1, h2⟩ | ⟨a1, h1, h2⟩ | ⟨a1, h1, h2, h3, h4⟩
  · rw [h1]; simp only []
    rw [if_pos (by decide)]
    exact .inl ⟨rfl, h2⟩
  · rw [h1]; simp only []
    rw [if_pos (by decide)]
    exact .inr (.inl ⟨a1, rfl, h2.lost, by rw [h2.files, if_neg hnl]⟩)
  · rw [h1]; simp only []
    rw [if_neg (by decide)]
    have hf1 : a1.file sNew = some (growF b ((a.file sNew).getD ⟨sNew, [], 0⟩)) := by rw [h2.files, if_pos rfl]
    have hl1 : a1.file sLog = a.file sLog := by rw [h2.files, if_neg hnl]
    rcases sync_up h2.nd h2.up name_new hf1 with ⟨a2, g1, g2⟩ | ⟨a2, g1, g2, g3⟩
    · rw [g1]; simp only []
      rw [if_pos (by decide)]
      exact .inr (.inl ⟨a2, rfl, h2.held.lost g2.lost, by rw [g2.files, hl1, h2.keep]⟩)
    · rw [g1]; simp only []
      rw [if_neg (by decide)]
      have hf2 : a2.file sNew = some (sealF (growF b ((a.file sNew).getD ⟨sNew, [], 0⟩))) := by rw [g2.files, if_pos rfl]
      have hl2 : a2.file sLog = a.file sLog := by rw [g2.files, if_neg hnl, hl1]
      rcases rename_up g2.nd g2.up name_new name_log new_ne hf2 rfl with ⟨a3, k1, k2⟩ | ⟨a3, k1, k2, k3⟩
      · rw [k1]
        exact .inr (.inl ⟨a3, rfl, (h2.held.trans g2.held).lost k2.lost, by rw [k2.files, hl2, g2.keep, h2.keep]⟩)
      · rw [k1]
        refine .inr (.inr ⟨a3, rfl, (h2.held.trans g2.held).trans k2.held, ?_, ?_, ?_, h4⟩)
        · rw [k2.files, if_neg new_ne, if_pos rfl]
        · rw [k2.files, if_pos rfl]
          unfold fileD
          cases a.file sNew <;> simp [sealF, growF]
        · rw [hl2] at k3
          unfold fileD
          have : ((a.file sLog).map fun f => f.dat.length).getD 0 = (((a.file sLog).map (·.dat)).getD []).length := by cases a.file sLog <;> rfl
          omega

/-! ### What a log holds -/
def PartT (t : List UInt8) : Prop := t = [] ∨ ∃ R k, goodB R ∧ k < (batchB R).length ∧ t = (batchB R).take k
theorem PartT.take {t : List UInt8} (h : PartT t) (n : Nat) : PartT (t.take n) := by
  rcases h with rfl | ⟨R, k, hg, hk, rfl⟩
  · exact .inl (by simp)
  · exact .inr ⟨R, min n k, hg, by omega, by rw [List.take_take]⟩
def LogF (o : Option File) (L : List Batch) : Prop := (∀ R ∈ L, goodB R) ∧ match o with
  | none => L = []
  | some f => ∃ t, f.dat = allB L ++ t ∧ PartT t ∧ (allB L).length ≤ f.safe ∧ f.safe ≤ f.dat.length
theorem LogF.cut {o : Option File} {L : List Batch} (h : LogF o L) (k : Int) : LogF (o.map (cutF k)) L := by
  refine ⟨h.1, ?_⟩
  cases o with
  | none => exact h.2
  | some f =>
    obtain ⟨t, h1, h2, h3, h4⟩ := h.2
    have h5 : (allB L).length ≤ nCut f k := by unfold nCut; omega
    refine ⟨t.take (nCut f k - (allB L).length), ?_, h2.take _, h5, ?_⟩
    · show f.dat.take _ = _
      rw [h1, List.take_append, List.take_of_length_le h5]
    · show nCut f k ≤ (f.dat.take _).length
      have := nCut_le f k
      simp; omega
theorem LogF.scan {a : AD} {L : List Batch} (h : LogF (a.file sLog) L) : a.scan = (L, (allB L).length, 0) ∧ scanL a.logF.dat = (L, (allB L).length) := by
  unfold AD.scan AD.logF
  have hL := h.1
  have h2 := h.2
  cases hf : a.file sLog with
  | none =>
    rw [hf] at h2
    have : L = [] := h2
    subst this
    exact ⟨by decide, by decide⟩
  | some f =>
    rw [hf] at h2
    obtain ⟨t, g1, g2, g3, g4⟩ := h2
    simp only [Option.getD_some]
    rw [g1] at g4 ⊢
    obtain ⟨s1, s2⟩ := scan_part hL g2
    exact ⟨s2 _ (by omega) (by omega), s1⟩
theorem LogF.tail {a : AD} {L : List Batch} (h : LogF (a.file sLog) L) (hs : (allB L).length < a.logF.dat.length) : ∃ f t, a.file sLog = some f ∧ f.dat = allB L ++ t ∧ PartT t ∧ t ≠ [] := by
  have h2 := h.2
  unfold AD.logF at hs
  cases hf : a.file sLog with
  | none => rw [hf] at hs; simp at hs
  | some f =>
    rw [hf] at h2 hs
    obtain ⟨t, g1, g2, g3, g4⟩ := h2
    refine ⟨f, t, rfl, g1, g2, fun e => ?_⟩
    simp only [Option.getD_some, g1, e, List.append_nil] at hs
    omega
/-- a journal lives on the disk, its log says L -/
structure Live (a : AD) (j : AJ) (L : List Batch) : Prop where
  nd : ND a
  up : a.down = false
  jup : j.down = false
  new : a.file sNew = none
  good : ∀ R ∈ L, goodB R
  size : j.size = (allB L).length
  log : match a.file sLog with
    | none => L = [] ∧ j.tail = false
    | some f => f.safe = f.dat.length ∧ ∃ t, f.dat = allB L ++ t ∧ PartT t ∧ (j.tail = false ↔ t = [])
theorem Live.logF {a : AD} {j : AJ} {L : List Batch} (h : Live a j L) : LogF (a.file sLog) L := by
  refine ⟨h.good, ?_⟩
  have := h.log
  cases hf : a.file sLog with
  | none => rw [hf] at this; exact this.1
  | some f =>
    rw [hf] at this
    obtain ⟨h1, t, h2, h3, h4⟩ := this
    exact ⟨t, h2, h3, by rw [h1, h2]; simp, by omega⟩
theorem Live.look {a : AD} {j : AJ} {L : List Batch} (h : Live a j L) : j.look a = j := by
  unfold AJ.look
  rw [h.up, h.jup]
  cases j
  have := h.jup
  simp at this
  simp [this]
theorem Live.sort {a : AD} {j : AJ} {L : List Batch} (h : Live a j L) : Live a.sorted j L :=
  ⟨nd_sorted h.nd, h.up, h.jup, by rw [file_sorted h.nd]; exact h.new, h.good, h.size, by rw [file_sorted h.nd]; exact h.log⟩
theorem Live.safe {a : AD} {j : AJ} {L : List Batch} (h : Live a j L) {f : File} (hf : a.file sLog = some f) (k : Int) : cutF k f = f := by
  have := h.log
  rw [hf] at this
  have h1 := this.1
  have : nCut f k = f.dat.length := by unfold nCut; omega
  unfold cutF
  rw [this, List.take_of_length_le (Nat.le_refl _), ← h1]
/-- the tail is cut -/
theorem cut_up {a : AD} {j : AJ} {L : List Batch} (nd : ND a) (hup : a.down = false) (hj : j.size = (allB L).length) (hL : LogF (a.file sLog) L) (hn : a.file sNew = none) (ht : j.tail = true → (allB L).length < a.logF.dat.length) :
    (j.tail = false ∧ a.cut j = (0, a, j)) ∨
    (a.cut j = (190, a.sorted, j) ∧ j.tail = true ∧ ((allB L).length : Int) > a.room - total a.fs) ∨
    (∃ a', a.cut j = (3, a', j) ∧ j.tail = true ∧ Lost a a' ∧ a'.file sLog = (a.file sLog).map (cutF a.keep)) ∨
    (∃ a', a.cut j = (0, a', { j with tail := false }) ∧ j.tail = true ∧ Held a a' ∧ a'.file sNew = none ∧ a'.file sLog = some ⟨sLog, allB L, (allB L).length⟩ ∧ total a'.fs + (fileD a sLog).length = total a.fs + (allB L).length ∧ ((allB L).length : Int) ≤ a.room - total a.fs) := by
  unfold AD.cut
  cases htl : j.tail with
  | false => exact .inl ⟨rfl, by simp⟩
  | true =>
    right
    obtain ⟨f, t, hf, h1, h2, h3⟩ := hL.tail (ht htl)
    have he : a.err [sLog] sLog = 0 := by rw [err_up hup name_log, hf]; rfl
    have hg : (a.get sLog).take j.size = allB L := by
      have : a.get sLog = ((a.file sLog).map (·.dat)).getD [] := rfl
      rw [this, hf, hj]
      simp [h1]
    have hnew : fileD a sNew = [] := by unfold fileD; rw [hn]; rfl
    rw [if_neg (by simp), if_neg (by omega), hg]
    rcases repl_up (b := allB L) nd hup with ⟨r1, r2⟩ | ⟨a', r1, r2, r3⟩ | ⟨a', r1, r2, r3, r4, r5, r6⟩
    · rw [r1]; simp only []
      rw [if_pos (by decide)]
      exact .inl ⟨rfl, by simp, r2⟩
    · rw [r1]; simp only []
      rw [if_pos (by decide)]
      exact .inr (.inl ⟨a', rfl, by simp, r2, r3⟩)
    · rw [r1]; simp only []
      rw [if_neg (by decide)]
      rw [hnew, List.nil_append] at r4
      exact .inr (.inr ⟨a', rfl, by simp, r2, r3, r4, r5, r6⟩)
theorem Live.cut {a : AD} {j : AJ} {L : List Batch} (h : Live a j L) :
    (∃ a' j', a.cut j = (190, a', j') ∧ Live a' j' L ∧ j'.tail = true ∧ total a'.fs = total a.fs ∧ ((allB L).length : Int) > a.room - total a.fs) ∨
    (∃ a' j', a.cut j = (3, a', j') ∧ Lost a a' ∧ LogF (a'.file sLog) L) ∨
    (∃ a' j', a.cut j = (0, a', j') ∧ Held a a' ∧ Live a' j' L ∧ j'.tail = false ∧ total a'.fs + (fileD a sLog).length = total a.fs + (allB L).length ∧ (j.tail = false ∨ ((allB L).length : Int) ≤ a.room - total a.fs)) := by
  have ht : j.tail = true → (allB L).length < a.logF.dat.length := fun e => by
    have := h.log
    unfold AD.logF
    cases hf : a.file sLog with
    | none => rw [hf] at this; rw [this.2] at e; cases e
    | some f =>
      rw [hf] at this
      obtain ⟨h1, t, h2, h3, h4⟩ := this
      have hne : t ≠ [] := fun e2 => by rw [h4.2 e2] at e; cases e
      have := List.length_pos_iff.2 hne
      simp only [Option.getD_some, h2, List.length_append]
      omega
  rcases cut_up h.nd h.up h.size h.logF h.new ht with ⟨h1, h2⟩ | ⟨h1, h2, h3⟩ | ⟨a', h1, h2, h3, h4⟩ | ⟨a', h1, h2, h3, h4, h5, h6, h7⟩
  · refine .inr (.inr ⟨a, j, h2, ⟨h.nd, h.up, rfl, rfl, id⟩, h, h1, ?_, .inl h1⟩)
    have := h.log
    unfold fileD
    cases hf : a.file sLog with
    | none => rw [hf] at this; rw [this.1]; rfl
    | some f =>
      rw [hf] at this
      obtain ⟨g1, t, g2, g3, g4⟩ := this
      simp [g2, g4.1 h1]
  · exact .inl ⟨_, _, h1, h.sort, h2, tot_sorted a, h3⟩
  · exact .inr (.inl ⟨_, _, h1, h3, by rw [h4]; exact h.logF.cut _⟩)
  · refine .inr (.inr ⟨_, _, h1, h3, ⟨h3.nd, h3.up, h.jup, h4, h.good, h.size, ?_⟩, rfl, h6, .inr h7⟩)
    rw [h5]
    exact ⟨rfl, [], by simp, .inl rfl, by simp⟩
theorem goodB_of {R : Batch} (hne : R ≠ []) (hr : recsB R = true) (hl : (batchB R).length ≤ 16777216) : goodB R := ⟨hne, hr, by have := batchB_length hne; omega⟩
theorem LogF.grow {o : Option File} {L : List Batch} (hL : ∀ R ∈ L, goodB R) {R : Batch} (hg : goodB R) {f : File} (h1 : f.dat = allB L ++ batchB R) (h2 : (allB L).length ≤ f.safe) (h3 : f.safe ≤ f.dat.length) (k : Int) : LogF (some (cutF k f)) L ∨ LogF (some (cutF k f)) (L ++ [R]) := by
  have hl1 : (allB L).length ≤ nCut f k := by unfold nCut; rw [h1] at *; simp at *; omega
  have hl2 := nCut_le f k
  rw [h1] at hl2
  simp only [List.length_append] at hl2
  by_cases he : nCut f k = (allB L).length + (batchB R).length
  · right
    refine ⟨fun Q hQ => by
      rcases List.mem_append.1 hQ with h | h
      · exact hL Q h
      · rw [List.mem_singleton.1 h]; exact hg, [], ?_, .inl rfl, ?_, ?_⟩
    · show f.dat.take _ = _
      rw [h1, he, allB_append, List.take_of_length_le (by simp)]
      simp [allB]
    · show _ ≤ nCut f k
      rw [he, allB_append]; simp [allB]
    · show nCut f k ≤ (f.dat.take _).length
      rw [h1]; simp; omega
  · left
    refine ⟨hL, (batchB R).take (nCut f k - (allB L).length), ?_, .inr ⟨R, _, hg, by omega, rfl⟩, hl1, ?_⟩
    · show f.dat.take _ = _
      rw [h1, List.take_append, List.take_of_length_le hl1]
    · show nCut f k ≤ (f.dat.take _).length
      rw [h1]; simp; omega
/-- what Add lays -/
theorem Live.lay {a : AD} {j : AJ} {L : List Batch} {R : Batch} (h : Live a j L) (ht : j.tail = false) (hne : R ≠ []) (hr : recsB R = true) (hroom : a.room ≤ 16777216) :
    (∃ a' j', a.lay j R = (190, a', j') ∧ Live a' j' L ∧ ((batchB R).length : Int) > a.room - total a.fs) ∨
    (∃ a' j', a.lay j R = (3, a', j') ∧ Lost a a' ∧ j'.down = true ∧ (LogF (a'.file sLog) L ∨ LogF (a'.file sLog) (L ++ [R]))) ∨
    (∃ a' j', a.lay j R = (0, a', j') ∧ Held a a' ∧ Live a' j' (L ++ [R]) ∧ j'.tail = false ∧ total a'.fs = total a.fs + (batchB R).length ∧ ((batchB R).length : Int) ≤ a.room - total a.fs ∧ goodB R) := by
  have hlog : ∃ f0, (a.file sLog).getD ⟨sLog, [], 0⟩ = f0 ∧ f0.dat = allB L ∧ f0.safe = f0.dat.length ∧ f0.name = sLog := by
    have := h.log
    cases hf : a.file sLog with
    | none => rw [hf] at this; exact ⟨_, rfl, by rw [this.1]; rfl, rfl, rfl⟩
    | some f =>
      rw [hf] at this
      obtain ⟨g1, t, g2, g3, g4⟩ := this
      exact ⟨_, rfl, by rw [Option.getD_some, g2, g4.1 ht, List.append_nil], g1, file_name hf⟩
  obtain ⟨f0, e0, d0, s0, n0⟩ := hlog
  unfold AD.lay
  rcases append_up (l := batchB R) h.nd h.up name_log with ⟨h1, h2⟩ | ⟨a1, h1, h2⟩ | ⟨a1, h1, h2, h3, h4⟩
  · rw [h1]; simp only []
    rw [if_pos (by decide)]
    refine .inl ⟨_, _, rfl, ?_, h2⟩
    have : j.noted 190 = j := by unfold AJ.noted; simp
    rw [this]; exact h.sort
  · rw [h1]; simp only []
    rw [if_pos (by decide)]
    have hfit : (batchB R).length ≤ 16777216 := by
      have := h1
      unfold AD.append step at this
      rw [if_neg (by rw [err_up h.up name_log]; split <;> omega)] at this
      by_cases hr : ((batchB R).length : Int) > a.room - total a.fs
      · rw [if_pos hr] at this; simp at this
      · omega
    have hg := goodB_of hne hr hfit
    refine .inr (.inl ⟨_, _, rfl, h2.lost, by unfold AJ.noted; simp, ?_⟩)
    rw [h2.files, if_pos rfl, e0, Option.map_some]
    exact LogF.grow (o := none) h.good hg (by show f0.dat ++ _ = _; rw [d0]) (by show _ ≤ f0.safe; rw [s0, d0]; exact Nat.le_refl _) (by show f0.safe ≤ (f0.dat ++ _).length; rw [s0]; simp) _
  · have hg := goodB_of hne hr (by omega : (batchB R).length ≤ 16777216)
    rw [h1]; simp only []
    rw [if_neg (by decide)]
    have hf1 : a1.file sLog = some (growF (batchB R) f0) := by rw [h2.files, if_pos rfl, e0]
    rcases sync_up h2.nd h2.up name_log hf1 with ⟨a2, g1, g2⟩ | ⟨a2, g1, g2, g3⟩
    · rw [g1]; simp only []
      rw [if_pos (by decide)]
      refine .inr (.inl ⟨_, _, rfl, h2.held.lost g2.lost, by unfold AJ.noted; simp, ?_⟩)
      rw [g2.files, hf1, Option.map_some]
      exact LogF.grow (o := none) h.good hg (by show f0.dat ++ _ = _; rw [d0]) (by show _ ≤ f0.safe; rw [s0, d0]; exact Nat.le_refl _) (by show f0.safe ≤ (f0.dat ++ _).length; rw [s0]; simp) _
    · rw [g1]; simp only []
      rw [if_neg (by decide)]
      refine .inr (.inr ⟨_, _, rfl, h2.held.trans g2.held, ⟨g2.nd, g2.up, h.jup, ?_, fun Q hQ => ?_, ?_, ?_⟩, ht, by rw [g3, h3], h4, hg⟩)
      · rw [g2.files, if_neg new_ne, h2.files, if_neg new_ne, h.new]
      · rcases List.mem_append.1 hQ with h' | h'
        · exact h.good Q h'
        · rw [List.mem_singleton.1 h']; exact hg
      · show j.size + _ = _
        rw [h.size, allB_append]; simp [allB]
      · rw [g2.files, if_pos rfl]
        refine ⟨rfl, [], ?_, .inl rfl, by simp [ht]⟩
        show f0.dat ++ _ = _
        rw [d0, allB_append]; simp [allB]
theorem Live.add {a : AD} {j : AJ} {L : List Batch} (R : Batch) (h : Live a j L) (hroom : a.room ≤ 16777216) :
    (a.add j R = (200, a, j) ∧ recsB R = false) ∨ (a.add j R = (0, a, j) ∧ R = []) ∨
    (R ≠ [] ∧ recsB R = true ∧
    ((∃ a' j', a.add j R = (190, a', j') ∧ Live a' j' L ∧ a'.room = a.room ∧ (a.acts = -1 → a'.acts = -1) ∧ (j.tail = true → ((allB L).length : Int) ≤ a.room - total a.fs → ((batchB R).length : Int) > a.room - (total a.fs + (allB L).length - (fileD a sLog).length)) ∧ (j.tail = false → ((batchB R).length : Int) > a.room - total a.fs)) ∨
    (∃ a' j', a.add j R = (3, a', j') ∧ Lost a a' ∧ j'.down = true ∧ (LogF (a'.file sLog) L ∨ LogF (a'.file sLog) (L ++ [R]))) ∨
    (∃ a' j', a.add j R = (0, a', j') ∧ Held a a' ∧ Live a' j' (L ++ [R]) ∧ j'.tail = false ∧ total a'.fs + (fileD a sLog).length = total a.fs + (allB L).length + (batchB R).length ∧ goodB R ∧ (j.tail = true → ((allB L).length : Int) ≤ a.room - total a.fs) ∧ ((batchB R).length : Int) ≤ a.room - (total a.fs + (allB L).length - (fileD a sLog).length)))) := by
  unfold AD.add
  rw [h.look, h.jup]
  simp only [Bool.false_eq_true, if_false]
  cases hr : recsB R with
  | false => exact .inl ⟨by simp, rfl⟩
  | true =>
    right
    simp only [Bool.true_eq_false, if_false]
    by_cases hne : R = []
    · exact .inl ⟨by rw [if_pos hne], hne⟩
    right
    rw [if_neg hne]
    refine ⟨hne, trivial, ?_⟩
    rcases h.cut with ⟨a1, j1, h1, h2, h3, h4, h5⟩ | ⟨a1, j1, h1, h2, h3⟩ | ⟨a1, j1, h1, h2, h3, h4, h5, h6⟩
    · rw [h1]; simp only []
      rw [if_pos (by decide)]
      have : j1.noted 190 = j1 := by unfold AJ.noted; simp
      have hc : j.tail = true := by
        cases ht : j.tail with
        | true => rfl
        | false => unfold AD.cut at h1; rw [if_pos ht] at h1; simp at h1
      have ha : a1 = a.sorted := by
        rcases cut_up h.nd h.up h.size h.logF h.new (fun e => by
          have := h.log
          unfold AD.logF
          cases hf : a.file sLog with
          | none => rw [hf] at this; rw [this.2] at e; cases e
          | some f =>
            rw [hf] at this
            obtain ⟨h1, t, h2, h3, h4⟩ := this
            have hne : t ≠ [] := fun e2 => by rw [h4.2 e2] at e; cases e
            have := List.length_pos_iff.2 hne
            simp only [Option.getD_some, h2, List.length_append]
            omega) with ⟨q1, q2⟩ | ⟨q1, q2, q3⟩ | ⟨a', q1, q2, q3, q4⟩ | ⟨a', q1, _⟩
        · rw [q2] at h1; simp at h1
        · rw [q1] at h1; simp at h1; exact h1.1.symm
        · rw [q1] at h1; simp at h1
        · rw [q1] at h1; simp at h1
      refine .inl ⟨_, _, rfl, by rw [this]; exact h2, by rw [ha]; rfl, fun e => by rw [ha]; exact e, fun _ e => by omega, fun e => by rw [hc] at e; cases e⟩
    · rw [h1]; simp only []
      rw [if_pos (by decide)]
      exact .inr (.inl ⟨_, _, rfl, h2, by unfold AJ.noted; simp, .inl h3⟩)
    · rw [h1]; simp only []
      rw [if_neg (by decide)]
      rcases h3.lay h4 hne hr (by rw [h2.room]; exact hroom) with ⟨a2, j2, g1, g2, g3⟩ | ⟨a2, j2, g1, g2, g3, g4⟩ | ⟨a2, j2, g1, g2, g3, g4, g5, g6, g7⟩
      · rw [h2.room] at g3
        have ha : a2 = a1.sorted := by
          unfold AD.lay at g1
          rcases append_up (l := batchB R) h3.nd h3.up name_log with ⟨q1, q2⟩ | ⟨a', q1, q2⟩ | ⟨a', q1, q2, q3, q4⟩
          · rw [q1] at g1; simp at g1; exact g1.1.symm
          · rw [q1] at g1; simp at g1
          · rw [h2.room] at q4; omega
        refine .inl ⟨_, _, g1, g2, by rw [ha]; exact h2.room, fun e => by rw [ha]; exact h2.free e, fun e1 e2 => ?_, fun e => ?_⟩
        · omega
        · have hlen : (fileD a sLog).length = (allB L).length := by
            have := h.log
            unfold fileD
            cases hf : a.file sLog with
            | none => rw [hf] at this; rw [this.1]; rfl
            | some f =>
              rw [hf] at this
              obtain ⟨_, t, k2, _, k4⟩ := this
              simp [k2, k4.1 e]
          omega
      · exact .inr (.inl ⟨_, _, g1, h2.lost g2, g3, g4⟩)
      · rw [h2.room] at g6
        refine .inr (.inr ⟨_, _, g1, h2.trans g2, g3, g4, by omega, g7, fun e => ?_, by omega⟩)
        rcases h6 with h6 | h6
        · rw [h6] at e; cases e
        · exact h6
def nonE (M : List Batch) : List Batch := M.filter fun R => !R.isEmpty
theorem allB_nonE (M : List Batch) : allB (nonE M) = allB M := by
  induction M with
  | nil => rfl
  | cons R M ih =>
    unfold nonE at ih ⊢
    rw [List.filter_cons, allB_cons]
    cases R with
    | nil => simpa [batchB] using ih
    | cons r R => simp [allB_cons, ih]
theorem allB_le {L : List Batch} {R : Batch} (h : R ∈ L) : (batchB R).length ≤ (allB L).length := by
  induction L with
  | nil => simp at h
  | cons Q L ih =>
    rw [allB_cons, List.length_append]
    rcases List.mem_cons.1 h with rfl | h
    · omega
    · have := ih h; omega
theorem Live.shorten {a : AD} {j : AJ} {L : List Batch} (M : List Batch) (h : Live a j L) (hroom : a.room ≤ 16777216) :
    (a.shorten j M = (200, a, j) ∧ M.all recsB = false) ∨
    (∃ a' j', a.shorten j M = (190, a', j') ∧ Live a' j' L ∧ a'.room = a.room) ∨
    (∃ a' j', a.shorten j M = (3, a', j') ∧ Lost a a' ∧ j'.down = true ∧ LogF (a'.file sLog) L) ∨
    (∃ a' j', a.shorten j M = (0, a', j') ∧ Held a a' ∧ Live a' j' (nonE M)) := by
  unfold AD.shorten
  rw [h.look, h.jup]
  simp only [Bool.false_eq_true, if_false]
  cases hr : M.all recsB with
  | false => exact .inl ⟨by simp, rfl⟩
  | true =>
    right
    simp only [Bool.true_eq_false, if_false]
    rcases repl_up (b := allB M) h.nd h.up with ⟨r1, r2⟩ | ⟨a', r1, r2, r3⟩ | ⟨a', r1, r2, r3, r4, r5, r6⟩
    · rw [r1]; simp only []
      rw [if_pos (by decide)]
      have : j.noted 190 = j := by unfold AJ.noted; simp
      exact .inl ⟨_, _, rfl, by rw [this]; exact h.sort, rfl⟩
    · rw [r1]; simp only []
      rw [if_pos (by decide)]
      exact .inr (.inl ⟨_, _, rfl, r2, by unfold AJ.noted; simp, by rw [r3]; exact h.logF.cut _⟩)
    · rw [r1]; simp only []
      rw [if_neg (by decide)]
      have hnew : fileD a sNew = [] := by unfold fileD; rw [h.new]; rfl
      rw [hnew, List.nil_append] at r4
      refine .inr (.inr ⟨_, _, rfl, r2, ⟨r2.nd, r2.up, h.jup, r3, fun R hR => ?_, by rw [allB_nonE], ?_⟩⟩)
      · obtain ⟨h1, h2⟩ := List.mem_filter.1 hR
        have h3 := allB_le h1
        exact goodB_of (by simpa using h2) (List.all_eq_true.1 hr R h1) (by omega)
      · rw [r4]
        exact ⟨rfl, [], by rw [allB_nonE]; simp, .inl rfl, by simp⟩
/-- Open -/
theorem open_up {a : AD} {L : List Batch} (nd : ND a) (hup : a.down = false) (hL : LogF (a.file sLog) L) :
    (∃ a', a.jopen = (3, a', none) ∧ Lost a a' ∧ LogF (a'.file sLog) L) ∨
    (∃ a' j, a.jopen = (0, a', some (j, L)) ∧ Held a a' ∧ Live a' j L ∧ (a.file sNew = none → (total a'.fs = total a.fs ∧ fileD a' sLog = fileD a sLog ∧ (j.tail = true → ((allB L).length : Int) > a.room - total a.fs)) ∨ (total a'.fs + (fileD a sLog).length = total a.fs + (fileD a' sLog).length ∧ fileD a' sLog = allB L ∧ ((allB L).length : Int) ≤ a.room - total a.fs))) := by
  obtain ⟨hs, hs2⟩ := hL.scan
  unfold AD.jopen
  rw [if_neg (by simp [hup]), hs]
  simp only [ne_eq, not_true, if_false]
  have hidle : (∃ a1, a.tidy = (3, a1) ∧ Lost a a1 ∧ LogF (a1.file sLog) L) ∨ (∃ a1, a.tidy = (0, a1) ∧ Held a a1 ∧ a1.file sNew = none ∧ a1.file sLog = a.file sLog ∧ (a.file sNew = none → a1 = a)) := by
    unfold AD.tidy
    rw [has_file]
    cases hf : a.file sNew with
    | none => exact .inr ⟨a, by simp, ⟨nd, hup, rfl, rfl, id⟩, hf, rfl, fun _ => rfl⟩
    | some f =>
      simp only [Option.isSome_some, if_true]
      rcases delete_up nd hup name_new hf with ⟨a', h1, h2⟩ | ⟨a', h1, h2⟩
      · exact .inl ⟨a', h1, h2.lost, by rw [h2.files]; exact hL.cut _⟩
      · exact .inr ⟨a', h1, h2.held, by rw [h2.files, if_pos rfl], by rw [h2.files, if_neg fun e => new_ne e.symm], fun e => by cases e⟩
  rcases hidle with ⟨a1, h1, h2, h3⟩ | ⟨a1, h1, h2, h3, h4, h5⟩
  · left
    refine ⟨a1, ?_, h2, h3⟩
    unfold AD.openB
    rw [h1]; simp only []
    rw [if_pos (by decide)]
    rfl
  have hdat : a.openJ = ⟨(allB L).length, decide ((allB L).length < a.logF.dat.length), false⟩ := by unfold AD.openJ; rw [hs2]
  have hlf : a1.logF = a.logF := by unfold AD.logF; rw [h4]
  have hL1 : LogF (a1.file sLog) L := by rw [h4]; exact hL
  have hcut := cut_up (j := a.openJ) h2.nd h2.up (by rw [hdat]) hL1 h3 (fun e => by rw [hdat] at e; rw [hlf]; simpa using e)
  unfold AD.openB
  rw [h1]; simp only []
  rw [if_neg (by decide)]
  -- the end: the log is made safe
  have fin : ∀ (a2 : AD) (j2 : AJ) (e : Int), Held a a2 → (e = 0 ∨ e = 190) → a2.file sNew = none → j2.size = (allB L).length → j2.down = false →
      (match a2.file sLog with | none => L = [] ∧ j2.tail = false | some f => (f.safe = f.dat.length ∨ a.there e = true) ∧ ∃ t, f.dat = allB L ++ t ∧ PartT t ∧ (j2.tail = false ↔ t = []) ∧ (allB L).length ≤ f.safe ∧ f.safe ≤ f.dat.length) →
      (a.there e = true → ∃ f, a2.file sLog = some f) →
      (a.file sNew = none → (total a2.fs = total a.fs ∧ fileD a2 sLog = fileD a sLog ∧ (j2.tail = true → ((allB L).length : Int) > a.room - total a.fs)) ∨ (total a2.fs + (fileD a sLog).length = total a.fs + (fileD a2 sLog).length ∧ fileD a2 sLog = allB L ∧ ((allB L).length : Int) ≤ a.room - total a.fs)) →
      ∀ x : Int × AD × Option AJ, x = (if a.there e = false then (0, a2, some j2) else if (step (a2.sync sLog)).1 ≠ 0 then ((step (a2.sync sLog)).1, (step (a2.sync sLog)).2, none) else (0, (step (a2.sync sLog)).2, some j2)) →
      (∃ a', (x.1, x.2.1, Option.map (fun j => (j, L)) x.2.2) = (3, a', none) ∧ Lost a a' ∧ LogF (a'.file sLog) L) ∨ (∃ a' j, (x.1, x.2.1, Option.map (fun j => (j, L)) x.2.2) = (0, a', some (j, L)) ∧ Held a a' ∧ Live a' j L ∧ (a.file sNew = none → (total a'.fs = total a.fs ∧ fileD a' sLog = fileD a sLog ∧ (j.tail = true → ((allB L).length : Int) > a.room - total a.fs)) ∨ (total a'.fs + (fileD a sLog).length = total a.fs + (fileD a' sLog).length ∧ fileD a' sLog = allB L ∧ ((allB L).length : Int) ≤ a.room - total a.fs))) := by
    intro a2 j2 e k1 k2 k3 k4 k5 k6 k7 k8 x hx
    subst hx
    cases hth : a.there e with
    | false =>
      right
      refine ⟨a2, j2, by simp, k1, ⟨k1.nd, k1.up, k5, k3, hL.1, k4, ?_⟩, k8⟩
      cases hf : a2.file sLog with
      | none => rw [hf] at k6; exact k6
      | some f =>
        rw [hf, hth] at k6
        obtain ⟨g1, t, g2, g3, g4, _⟩ := k6
        exact ⟨by simpa using g1, t, g2, g3, g4⟩
    | true =>
      simp only [Bool.true_eq_false, if_false]
      obtain ⟨f, hf⟩ := k7 hth
      rw [hf] at k6
      obtain ⟨_, t, g2, g3, g4, g5, g6⟩ := k6
      rcases sync_up k1.nd k1.up name_log hf with ⟨a3, m1, m2⟩ | ⟨a3, m1, m2, m3⟩
      · left
        refine ⟨a3, ?_, k1.lost m2.lost, ?_⟩
        · rw [m1]; simp
        · rw [m2.files, hf]
          exact LogF.cut (o := some f) ⟨hL.1, t, g2, g3, g5, g6⟩ _
      · right
        refine ⟨a3, j2, by rw [m1]; simp, k1.trans m2.held, ⟨m2.nd, m2.up, k5, ?_, hL.1, k4, ?_⟩, fun e => ?_⟩
        · rw [m2.files, if_neg new_ne]; exact k3
        · rw [m2.files, if_pos rfl]
          exact ⟨rfl, t, g2, g3, g4⟩
        · have hfd : fileD a3 sLog = fileD a2 sLog := by unfold fileD; rw [m2.files, if_pos rfl, hf]; rfl
          rw [m3, hfd]; exact k8 e
  have hlog := hL.2
  rcases hcut with ⟨c1, c2⟩ | ⟨c1, c2, c3⟩ | ⟨a', c1, c2, c3, c4⟩ | ⟨a', c1, c2, c3, c4, c5, c6, c7⟩
  · rw [c2]; simp only [ne_eq, not_true, false_and, if_false]
    have hnt : ¬ (allB L).length < a.logF.dat.length := by rw [hdat] at c1; simpa using c1
    refine fin a1 a.openJ 0 h2 (.inl rfl) h3 (by rw [hdat]) (by rw [hdat]) ?_ (fun e => ?_) (fun e => .inl (by rw [h5 e]; exact ⟨rfl, rfl, fun e2 => by rw [c1] at e2; cases e2⟩)) _ rfl
    · rw [h4]
      cases hf : a.file sLog with
      | none => rw [hf] at hlog; exact ⟨hlog, c1⟩
      | some f =>
        rw [hf] at hlog
        obtain ⟨t, g1, g2, g3, g4⟩ := hlog
        have hlf2 : a.logF = f := by unfold AD.logF; rw [hf]; rfl
        rw [hlf2] at hnt
        have ht : t = [] := List.eq_nil_of_length_eq_zero (by rw [g1] at hnt; simp at hnt; exact List.length_eq_zero_iff.2 hnt)
        refine ⟨?_, t, g1, g2, by simp [c1, ht], g3, g4⟩
        by_cases hsf : f.safe = f.dat.length
        · exact .inl hsf
        · right
          unfold AD.there
          rw [if_pos rfl, has_file, hs2, hf, hlf2]
          have h5 : f.safe < f.dat.length := by omega
          have h6 : (allB L).length = f.dat.length := by rw [g1, ht]; simp
          simp [h5, h6]
    · unfold AD.there at e
      rw [if_pos rfl, has_file] at e
      simp only [Bool.and_eq_true] at e
      rw [h4]
      exact Option.isSome_iff_exists.1 e.1.1
  · rw [c1]; simp only [ne_eq, not_true, and_false, if_false]
    have hlt : (allB L).length < a.logF.dat.length := by rw [hdat] at c2; simpa using c2
    obtain ⟨f, t, hf, g1, g2, g3⟩ := hL.tail hlt
    have hlf2 : a.logF = f := by unfold AD.logF; rw [hf]; rfl
    rw [hf] at hlog
    obtain ⟨t', g1', g2', g4, g5⟩ := hlog
    have hf2 : a1.sorted.file sLog = some f := by rw [file_sorted h2.nd, h4, hf]
    refine fin a1.sorted a.openJ 190 ⟨nd_sorted h2.nd, h2.up, h2.room, h2.keep, h2.free⟩ (.inr rfl) (by rw [file_sorted h2.nd]; exact h3) (by rw [hdat]) (by rw [hdat]) ?_ (fun _ => ⟨f, hf2⟩) (fun e => .inl ?_) _ rfl
    · rw [hf2]
      refine ⟨?_, t, g1, g2, by simp [c2, g3], g4, g5⟩
      by_cases hsf : f.safe = f.dat.length
      · exact .inl hsf
      · right
        unfold AD.there
        rw [if_neg (by decide), hlf2]
        have h5 : f.safe < f.dat.length := by omega
        simp [h5]
    · rw [h5 e] at c3
      rw [tot_sorted, h5 e]
      refine ⟨rfl, ?_, fun _ => c3⟩
      unfold fileD
      rw [file_sorted nd]
  · rw [c1]; simp only []
    rw [if_pos (by decide)]
    exact .inl ⟨a', by simp, h2.lost c3, by rw [c4]; exact hL1.cut _⟩
  · rw [c1]; simp only [ne_eq, not_true, false_and, if_false]
    have hfd : fileD a' sLog = allB L := by unfold fileD; rw [c5]; rfl
    refine fin a' { a.openJ with tail := false } 0 (h2.trans c3) (.inl rfl) c4 (by rw [hdat]) (by rw [hdat]) ?_ (fun _ => ⟨_, c5⟩) (fun e => .inr ?_) _ rfl
    · rw [c5]
      exact ⟨.inl rfl, [], by simp, .inl rfl, by simp, Nat.le_refl _, Nat.le_refl _⟩
    · rw [h5 e] at c6 c7
      rw [hfd]
      exact ⟨c6, rfl, c7⟩
end Go.Proofs.YtipololccbdojaaGreatDoor
namespace Go.Proofs.YtipololccbdojaaGreatDoor
open Go Go.Sv
set_option linter.unusedVariables false

theorem be4_take {d : List UInt8} (h : 4 ≤ d.length) : be 4 (num (d.take 4)) = d.take 4 := by
  have := be_num (d.take 4)
  rwa [show (d.take 4).length = 4 by simp; omega] at this
theorem recs_back : ∀ (n : Nat) (b : List UInt8) (R : Batch), b.length ≤ n → recs b = some R → b = body R ∧ recsB R = true
  | 0, b, R, hn, h => by
    have : b = [] := List.eq_nil_of_length_eq_zero (by omega)
    subst this
    rw [recs_nil] at h
    cases h
    exact ⟨rfl, rfl⟩
  | n + 1, b, R, hn, h => by
    by_cases hb : b = []
    · subst hb
      rw [recs_nil] at h
      cases h
      exact ⟨rfl, rfl⟩
    by_cases hr : recOk b
    · rw [recs_step hb hr] at h
      obtain ⟨S, hS, rfl⟩ := Option.map_eq_some_iff.1 h
      obtain ⟨h1, h2, h3, h4⟩ := hr
      obtain ⟨g1, g2⟩ := recs_back n _ S (by simp; omega) hS
      have hl : ((b.drop 4).take (num (b.take 4))).length = num (b.take 4) := by simp; omega
      refine ⟨?_, ?_⟩
      · rw [body_cons, ← g1, hl, be4_take h1, ← List.drop_drop, List.append_assoc, List.take_append_drop, List.take_append_drop]
      · unfold recsB at g2 ⊢
        rw [List.all_cons, g2, Bool.and_true]
        unfold recB
        rw [hl]; simp; omega
    · rw [recs_bad hb hr] at h; cases h
theorem whole_back {d : List UInt8} {R : Batch} (h : whole d = some R) : d.take (headN d + 12) = batchB R ∧ goodB R := by
  have hs := whole_size h
  unfold whole at h
  split at h
  · rename_i hc
    obtain ⟨h1, h2, h3⟩ := hc
    obtain ⟨g1, g2⟩ := recs_back _ _ R (Nat.le_refl _) h
    have hbl : (body R).length = headN d := by rw [← g1]; simp; omega
    have hN := headN_lt d
    refine ⟨?_, hs.2.2, g2, by omega⟩
    unfold batchB foreB headB
    rw [if_neg hs.2.2, hbl]
    have a1 : be 4 (headN d) = d.take 4 := be4_take (by omega)
    have a2 : be 4 (crc (d.take 4)).toNat = (d.drop 4).take 4 := by
      rw [← h1.2.1]; exact be4_take (d := d.drop 4) (by simp; omega)
    rw [a1, a2, ← g1]
    have e1 : d.take 4 ++ (d.drop 4).take 4 ++ (d.drop 8).take (headN d) = d.take (headN d + 8) := by
      rw [← List.take_add, ← List.take_add]; congr 1; omega
    rw [e1]
    have a3 : be 4 (crc (d.take (headN d + 8))).toNat = (d.drop (headN d + 8)).take 4 := by
      have : num ((d.drop (headN d + 8)).take 4) = _ := h3
      rw [← this]; exact be4_take (d := d.drop (headN d + 8)) (by simp; omega)
    rw [a3, ← List.take_add]
  · cases h
theorem scanL_back (d : List UInt8) : d.take (scanL d).2 = allB (scanL d).1 ∧ ∀ R ∈ (scanL d).1, goodB R := by
  generalize hn : d.length = n
  induction n using Nat.strongRecOn generalizing d with
  | _ n ih =>
    cases h : whole d with
    | none => rw [scanL_none h]; simp [allB]
    | some R =>
      have hs := whole_size h
      obtain ⟨h1, h2⟩ := whole_back h
      rw [scanL_some h]
      obtain ⟨g1, g2⟩ := ih (d.drop (headN d + 12)).length (by simp; omega) _ rfl
      refine ⟨?_, fun Q hQ => ?_⟩
      · simp only []
        rw [List.take_add, h1, g1, allB_cons]
      · rcases List.mem_cons.1 hQ with rfl | hQ
        · exact h2
        · exact g2 Q hQ
/-! ### A journal on any disk -/
/-- what is known of a journal that has a tail -/
def PInv (a : AD) (j : AJ) (L : List Batch) : Prop := j.down = false → j.tail = true → ∃ f, a.file sLog = some f ∧ f.safe = f.dat.length ∧ scanL f.dat = (L, j.size)
theorem PInv.down {a : AD} {j : AJ} {L : List Batch} (h : j.down = true) : PInv a j L := fun e => by rw [h] at e; cases e
theorem PInv.whole {a : AD} {j : AJ} {L : List Batch} (h : j.tail = false) : PInv a j L := fun _ e => by rw [h] at e; cases e
theorem PInv.look {a : AD} {j : AJ} {L : List Batch} (h : PInv a j L) : PInv a (j.look a) L := fun e t => h (by unfold AJ.look at e; simp at e; exact e.1) t
theorem PInv.files {a a' : AD} {j : AJ} {L : List Batch} (h : PInv a j L) (hf : a'.file sLog = a.file sLog) : PInv a' j L := fun e t => by rw [hf]; exact h e t
theorem PInv.fall {a a' : AD} {j : AJ} {L : List Batch} {k : Int} (h : PInv a j L) (hf : a'.file sLog = (a.file sLog).map (cutF k)) : PInv a' j L := fun e t => by
  obtain ⟨f, h1, h2, h3⟩ := h e t
  have hc : cutF k f = f := by
    have : nCut f k = f.dat.length := by unfold nCut; omega
    unfold cutF
    rw [this, List.take_of_length_le (Nat.le_refl _), ← h2]
  exact ⟨f, by rw [hf, h1, Option.map_some, hc], h2, h3⟩
/-- what Read gives where there is a tail -/
theorem PInv.read {a : AD} {j : AJ} {L : List Batch} (h : PInv a j L) (hd : j.down = false) (hup : a.down = false) (ht : j.tail = true) : a.err [sLog] sLog = 0 ∧ (a.get sLog).take j.size = allB L ∧ j.size ≤ (a.get sLog).length := by
  obtain ⟨f, h1, h2, h3⟩ := h hd ht
  have hg : a.get sLog = f.dat := by
    have : a.get sLog = ((a.file sLog).map (·.dat)).getD [] := rfl
    rw [this, h1]; rfl
  have hb := (scanL_back f.dat).1
  have hl := scanL_le f.dat
  rw [h3] at hb hl
  exact ⟨by rw [err_up hup name_log, h1]; rfl, by rw [hg]; exact hb, by rw [hg]; exact hl⟩
/-- what the cut comes to -/
theorem cut_any {a : AD} {j : AJ} (nd : ND a) (hup : a.down = false) (hl : j.tail = true → a.err [sLog] sLog = 0) :
    (j.tail = false ∧ a.cut j = (0, a, j)) ∨
    (a.cut j = (190, a.sorted, j) ∧ j.tail = true) ∨
    (∃ a', a.cut j = (3, a', j) ∧ j.tail = true ∧ Lost a a' ∧ a'.file sLog = (a.file sLog).map (cutF a.keep)) ∨
    (∃ a', a.cut j = (0, a', { j with tail := false }) ∧ j.tail = true ∧ Held a a' ∧ ∃ f, a'.file sLog = some f ∧ f.safe = f.dat.length) := by
  unfold AD.cut
  cases htl : j.tail with
  | false => exact .inl ⟨rfl, by simp⟩
  | true =>
    right
    rw [if_neg (by simp), if_neg (by rw [hl htl]; decide)]
    rcases repl_up (b := (a.get sLog).take j.size) nd hup with ⟨r1, r2⟩ | ⟨a', r1, r2, r3⟩ | ⟨a', r1, r2, r3, r4, r5, r6⟩
    · rw [r1]; simp only []
      rw [if_pos (by decide)]
      exact .inl ⟨rfl, by simp⟩
    · rw [r1]; simp only []
      rw [if_pos (by decide)]
      exact .inr (.inl ⟨a', rfl, by simp, r2, r3⟩)
    · rw [r1]; simp only []
      rw [if_neg (by decide)]
      exact .inr (.inr ⟨a', rfl, by simp, r2, _, r4, rfl⟩)
theorem noted190 (j : AJ) : j.noted 190 = j := by unfold AJ.noted; simp
theorem noted3 (j : AJ) : (j.noted 3).down = true := by unfold AJ.noted; simp
theorem PInv.add {a : AD} {j : AJ} {L : List Batch} (R : Batch) (nd : ND a) (h : PInv a j L) : PInv (a.add j R).2.1 (a.add j R).2.2 (if (a.add j R).1 = 0 ∧ R ≠ [] then L ++ [R] else L) ∧ ((a.add j R).1 ≠ 0 ∨ R = [] → True) := by
  refine ⟨?_, fun _ => trivial⟩
  unfold AD.add
  split
  · rename_i hd; exact PInv.down hd
  rename_i hd
  split
  · simp only [show ¬ (200 : Int) = 0 by decide, false_and, if_false]; exact h.look
  split
  · rename_i hR
    simp only [hR, ne_eq, not_true, and_false, if_false]; exact h.look
  rename_i hR
  have hjd : (j.look a).down = false := by simpa using hd
  have hup : a.down = false := by unfold AJ.look at hjd; simp at hjd; exact hjd.2
  rcases cut_any (j := j.look a) nd hup (fun e => (h.look.read hjd hup e).1) with ⟨c1, c2⟩ | ⟨c1, c2⟩ | ⟨a', c1, c2, c3, c4⟩ | ⟨a', c1, c2, c3, f, c4, c5⟩
  · rw [c2]; simp only [ne_eq, not_true, if_false]
    refine PInv.whole ?_
    unfold AD.lay
    split
    · exact c1
    · split <;> exact c1
  · rw [c1]; simp only [ne_eq, show ¬ (190 : Int) = 0 by decide, not_false_iff, if_true, false_and, if_false]
    rw [noted190]
    exact h.look.files (file_sorted nd _)
  · rw [c1]; simp only [ne_eq, show ¬ (3 : Int) = 0 by decide, not_false_iff, if_true, false_and, if_false]
    exact PInv.down (noted3 _)
  · rw [c1]; simp only [ne_eq, not_true, if_false]
    refine PInv.whole ?_
    unfold AD.lay
    split
    · rfl
    · split <;> rfl
theorem PInv.shorten {a : AD} {j : AJ} {L : List Batch} (M : List Batch) (nd : ND a) (h : PInv a j L) : PInv (a.shorten j M).2.1 (a.shorten j M).2.2 (if (a.shorten j M).1 = 0 then nonE M else L) := by
  unfold AD.shorten
  split
  · rename_i hd; exact PInv.down hd
  rename_i hd
  split
  · simp only [show ¬ (200 : Int) = 0 by decide, if_false]; exact h.look
  have hjd : (j.look a).down = false := by simpa using hd
  have hup : a.down = false := by unfold AJ.look at hjd; simp at hjd; exact hjd.2
  rcases repl_up (b := allB M) nd hup with ⟨r1, r2⟩ | ⟨a', r1, r2, r3⟩ | ⟨a', r1, r2, r3, r4, r5, r6⟩
  · rw [r1]; simp only [ne_eq, show ¬ (190 : Int) = 0 by decide, not_false_iff, if_true, if_false]
    rw [noted190]
    exact h.look.files (file_sorted nd _)
  · rw [r1]; simp only [ne_eq, show ¬ (3 : Int) = 0 by decide, not_false_iff, if_true, if_false]
    exact PInv.down (noted3 _)
  · rw [r1]; simp only [ne_eq, not_true, if_false]
    exact PInv.whole rfl
theorem openJ_tail {a : AD} (h : a.openJ.tail = true) : ∃ f, a.file sLog = some f ∧ a.logF = f := by
  unfold AD.openJ AD.logF at h
  unfold AD.logF
  cases hf : a.file sLog with
  | none => rw [hf] at h; simp [show scanL [] = ([], 0) from rfl] at h
  | some f => exact ⟨f, rfl, rfl⟩
theorem tidy_any {a : AD} (nd : ND a) (hup : a.down = false) :
    (∃ a1, a.tidy = (3, a1) ∧ Lost a a1 ∧ a1.file sLog = (a.file sLog).map (cutF a.keep)) ∨ (∃ a1, a.tidy = (0, a1) ∧ Held a a1 ∧ a1.file sNew = none ∧ a1.file sLog = a.file sLog) := by
  unfold AD.tidy
  rw [has_file]
  cases hf : a.file sNew with
  | none => exact .inr ⟨a, by simp, ⟨nd, hup, rfl, rfl, id⟩, hf, rfl⟩
  | some f =>
    simp only [Option.isSome_some, if_true]
    rcases delete_up nd hup name_new hf with ⟨a', h1, h2⟩ | ⟨a', h1, h2⟩
    · exact .inl ⟨a', h1, h2.lost, by rw [h2.files]⟩
    · exact .inr ⟨a', h1, h2.held, by rw [h2.files, if_pos rfl], by rw [h2.files, if_neg fun e => new_ne e.symm]⟩
/-- the document looks at the log once more: it comes to the same -/
theorem there_eq {a : AD} (nd : ND a) (hup : a.down = false) (hs : ∀ f, a.file sLog = some f → f.safe ≤ f.dat.length) (ht : a.tidy.1 = 0) :
    ((a.tidy.2.cut a.openJ).1 = 0 ∨ (a.tidy.2.cut a.openJ).1 = 190 ∨ (a.tidy.2.cut a.openJ).1 = 3) ∧ (a.openJ.tail = true → a.tidy.2.err [sLog] sLog = 0 ∧ (a.tidy.2.get sLog).take a.openJ.size = allB (scanL a.logF.dat).1 ∧ a.openJ.size ≤ (a.tidy.2.get sLog).length) ∧ a.tidy.2.down = false ∧ ND a.tidy.2 ∧
    ((a.tidy.2.cut a.openJ).1 ≠ 3 → a.there (a.tidy.2.cut a.openJ).1 = ((a.tidy.2.cut a.openJ).2.1.has sLog && decide ((a.tidy.2.cut a.openJ).2.1.logF.safe < (a.tidy.2.cut a.openJ).2.1.logF.dat.length))) := by
  rcases tidy_any nd hup with ⟨a1, h1, _⟩ | ⟨a1, h1, h2, h3, h4⟩
  · rw [h1] at ht; simp at ht
  rw [h1]; simp only []
  have hread : a.openJ.tail = true → a1.err [sLog] sLog = 0 ∧ (a1.get sLog).take a.openJ.size = allB (scanL a.logF.dat).1 ∧ a.openJ.size ≤ (a1.get sLog).length := fun e => by
    obtain ⟨f, g1, g2⟩ := openJ_tail e
    have hg : a1.get sLog = f.dat := by
      have : a1.get sLog = ((a1.file sLog).map (·.dat)).getD [] := rfl
      rw [this, h4, g1]; rfl
    refine ⟨by rw [err_up h2.up name_log, h4, g1]; rfl, ?_, ?_⟩
    · have := (scanL_back f.dat).1
      rw [hg, g2]; show f.dat.take (scanL a.logF.dat).2 = _; rw [g2]; exact this
    · rw [hg]; show (scanL a.logF.dat).2 ≤ _; rw [g2]; exact scanL_le _
  have hlf : a1.logF = a.logF := by unfold AD.logF; rw [h4]
  have hhas : a1.has sLog = a.has sLog := by rw [has_file, has_file, h4]
  have htail : a.openJ.tail = decide ((scanL a.logF.dat).2 < a.logF.dat.length) := rfl
  have hsl := scanL_le a.logF.dat
  rcases cut_any (j := a.openJ) h2.nd h2.up (fun e => (hread e).1) with ⟨c1, c2⟩ | ⟨c1, c2⟩ | ⟨a', c1, c2, c3, c4⟩ | ⟨a', c1, c2, c3, f, c4, c5⟩
  · rw [c2]; simp only []
    refine ⟨.inl (by trivial), hread, h2.up, h2.nd, fun _ => ?_⟩
    rw [hlf, hhas]
    unfold AD.there
    rw [if_pos rfl]
    rw [c1] at htail
    have : (scanL a.logF.dat).2 = a.logF.dat.length := by
      have := of_decide_eq_false htail.symm
      omega
    simp [this]
  · rw [c1]; simp only []
    refine ⟨.inr (.inl (by trivial)), hread, h2.up, h2.nd, fun _ => ?_⟩
    obtain ⟨f, g1, g2⟩ := openJ_tail c2
    have e1 : a1.sorted.logF = a.logF := by unfold AD.logF; rw [file_sorted h2.nd, h4]
    have e2 : a1.sorted.has sLog = true := by rw [has_file, file_sorted h2.nd, h4, g1]; rfl
    rw [e1, e2]
    unfold AD.there
    rw [if_neg (by decide)]; simp
  · rw [c1]; simp only []
    exact ⟨.inr (.inr (by trivial)), hread, h2.up, h2.nd, fun e => absurd rfl e⟩
  · rw [c1]; simp only []
    refine ⟨.inl (by trivial), hread, h2.up, h2.nd, fun _ => ?_⟩
    have e1 : a'.logF = f := by unfold AD.logF; rw [c4]; rfl
    rw [e1]
    unfold AD.there
    rw [if_pos rfl]
    rw [c2] at htail
    have h1 : (scanL a.logF.dat).2 < a.logF.dat.length := of_decide_eq_true htail.symm
    have h2 : ¬ (scanL a.logF.dat).2 = a.logF.dat.length := by omega
    simp [h2, c5]
/-- Open on any disk -/
theorem jopen_any {a : AD} (nd : ND a) (hs : ∀ f, a.file sLog = some f → f.safe ≤ f.dat.length) :
    (∃ e a', a.jopen = (e, a', none) ∧ ∀ j L, PInv a j L → PInv a' j L) ∨ (∃ a' j L, a.jopen = (0, a', some (j, L)) ∧ PInv a' j L ∧ j.size ≤ a.logF.dat.length) := by
  unfold AD.jopen
  split
  · exact .inl ⟨_, _, rfl, fun _ _ => id⟩
  rename_i hup
  have hup : a.down = false := by simpa using hup
  split
  · exact .inl ⟨_, _, rfl, fun _ _ => id⟩
  rename_i he
  have hsc : a.scan.1 = (scanL a.logF.dat).1 := by
    unfold AD.scan scanA at he ⊢
    split
    · rename_i h; rw [if_pos h] at he; simp at he
    · rename_i h; rw [if_neg h] at he
      split
      · rename_i h2; rw [if_pos h2] at he; simp at he
      · rfl
  unfold AD.openB
  rcases tidy_any nd hup with ⟨a1, h1, h2, h3⟩ | ⟨a1, h1, h2, h3, h4⟩
  · rw [h1]; simp only [ne_eq, show ¬ (3 : Int) = 0 by decide, not_false_iff, if_true]
    exact .inl ⟨_, _, rfl, fun _ _ h => h.fall h3⟩
  have hth := there_eq nd hup hs (by rw [h1])
  rw [h1] at hth
  rw [h1]; simp only [ne_eq, not_true, if_false]
  simp only [] at hth
  obtain ⟨hcode, hread, _, _, hthere⟩ := hth
  have hsl := scanL_le a.logF.dat
  rcases cut_any (j := a.openJ) h2.nd h2.up (fun e => (hread e).1) with ⟨c1, c2⟩ | ⟨c1, c2⟩ | ⟨a', c1, c2, c3, c4⟩ | ⟨a', c1, c2, c3, f, c4, c5⟩
  · rw [c2]; simp only [not_true, false_and, if_false]
    split
    · exact .inr ⟨_, _, _, rfl, PInv.whole c1, hsl⟩
    · rename_i hth
      have hex : ∃ f, a1.file sLog = some f := by
        have hth : a.there 0 = true := by simpa using hth
        unfold AD.there at hth
        rw [if_pos rfl, has_file] at hth
        simp only [Bool.and_eq_true] at hth
        rw [h4]; exact Option.isSome_iff_exists.1 hth.1.1
      obtain ⟨f, hf⟩ := hex
      rcases sync_up h2.nd h2.up name_log hf with ⟨a3, m1, m2⟩ | ⟨a3, m1, m2, m3⟩
      · rw [m1]; simp only [show ¬ (3 : Int) = 0 by decide, not_false_iff, if_true]
        exact .inl ⟨_, _, rfl, fun _ _ h => (h.files h4).fall (k := a1.keep) (by rw [m2.files])⟩
      · rw [m1]; simp only [not_true, if_false]
        exact .inr ⟨_, _, _, rfl, PInv.whole c1, hsl⟩
  · obtain ⟨f, g1, g2⟩ := openJ_tail c2
    have hf : a1.sorted.file sLog = some f := by rw [file_sorted h2.nd, h4, g1]
    rw [c1]; simp only [show ¬ (190 : Int) = 0 by decide, not_false_iff, true_and, not_true, if_false]
    split
    · rename_i hth
      refine .inr ⟨_, _, _, rfl, fun _ _ => ⟨f, hf, ?_, ?_⟩, hsl⟩
      · unfold AD.there at hth
        rw [if_neg (by decide), g2] at hth
        have := of_decide_eq_false hth
        have := hs f g1
        omega
      · rw [hsc, g2]
        show _ = ((scanL f.dat).1, (scanL a.logF.dat).2)
        rw [g2]
    · rcases sync_up (a := a1.sorted) (nd_sorted h2.nd) h2.up name_log hf with ⟨a3, m1, m2⟩ | ⟨a3, m1, m2, m3⟩
      · rw [m1]; simp only [show ¬ (3 : Int) = 0 by decide, not_false_iff, if_true]
        exact .inl ⟨_, _, rfl, fun _ _ h => (h.files (h4 : a1.file sLog = _)).fall (k := a1.sorted.keep) (by rw [m2.files, file_sorted h2.nd])⟩
      · rw [m1]; simp only [not_true, if_false]
        refine .inr ⟨_, _, _, rfl, fun _ _ => ⟨sealF f, by rw [m2.files, if_pos rfl], rfl, ?_⟩, hsl⟩
        rw [hsc, g2]
        show _ = ((scanL f.dat).1, (scanL a.logF.dat).2)
        rw [g2]; rfl
  · rw [c1]; simp only [show ¬ (3 : Int) = 0 by decide, show ¬ (3 : Int) = 190 by decide, not_false_iff, and_self, if_true]
    exact .inl ⟨_, _, rfl, fun _ _ h => (h.files (h4 : a1.file sLog = _)).fall c4⟩
  · rw [c1]; simp only [not_true, false_and, if_false]
    have : a.there 0 = false := by
      unfold AD.there
      have h5 : (scanL a.logF.dat).2 < a.logF.dat.length := of_decide_eq_true c2
      have h6 : ¬ (scanL a.logF.dat).2 = a.logF.dat.length := by omega
      simp [h6]
    rw [if_pos this]
    exact .inr ⟨_, _, _, rfl, PInv.whole rfl, hsl⟩
end Go.Proofs.YtipololccbdojaaGreatDoor
