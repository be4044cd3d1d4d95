/-
  The document's disk: Sync, Delete, Append, Rename, Read, Files: they do what the program's do. The document's disk: Rename, Read, Files. Load: the program's and the document's: the same answer, the same files. The document's Load.
-/
import Derived.Test.YtipololccbdojaaGreatDoorRefD
namespace Go.Proofs.YtipololccbdojaaGreatDoor
open Go Go.Sv Go.MapKept
set_option linter.unusedVariables false
set_option maxRecDepth 4000

theorem set_upd {O : List OF} {i : Nat} {x x' : OF} {n : ByteArray} {g : File → File} (hi : O[i]? = some x) (hn : x.f.name = n) (hnd : ((O.map (·.f)).map (·.name)).Nodup) (hx : x'.f = g x.f) : (O.set i x').map (·.f) = (O.map (·.f)).map fun f => if f.name = n then g f else f := by
  rw [set_split hi]
  have hO : O = O.take i ++ x :: O.drop (i + 1) := split_at hi
  have hne : ∀ y ∈ O.take i ++ O.drop (i + 1), y.f.name ≠ n := fun y hy e => by
    have hp : O.Perm (x :: (O.take i ++ O.drop (i + 1))) := by
      conv => lhs; rw [hO]
      exact List.perm_middle
    have h1 := ((hp.map (·.f)).map (·.name)).nodup_iff.1 hnd
    simp only [List.map_cons] at h1
    exact (List.nodup_cons.1 h1).1 (List.mem_map.2 ⟨y.f, List.mem_map.2 ⟨y, hy, rfl⟩, by rw [e, hn]⟩)
  conv => rhs; rw [hO]
  simp only [List.map_append, List.map_cons, List.map_map]
  have e1 : ∀ l : List OF, (∀ y ∈ l, y.f.name ≠ n) → l.map (·.f) = l.map ((fun f => if f.name = n then g f else f) ∘ fun x => x.f) := fun l hl => List.map_congr_left fun y hy => by simp [hl y hy]
  rw [e1 (O.take i) fun y hy => hne y (List.mem_append.2 (.inl hy)), e1 (O.drop (i + 1)) fun y hy => hne y (List.mem_append.2 (.inr hy)), if_pos hn, hx]
theorem set_dbl {O : List OF} {i : Nat} {x x' : OF} (hi : O[i]? = some x) {n : Nat} (h : ∀ k, x'.own = some k → x.own = some k ∨ n ≤ k) : ∀ k, k ∈ dbl (O.set i x') → k ∈ dbl O ∨ n ≤ k := fun k hk => by
  rcases List.mem_append.1 ((dbl_set hi).mem_iff.1 hk) with h1 | h1
  · rcases h k (by simpa using h1) with h2 | h2
    · exact .inl ((dbl_at hi).mem_iff.2 (List.mem_append.2 (.inl (by simp [h2]))))
    · exact .inr h2
  · exact .inl ((dbl_at hi).mem_iff.2 (List.mem_append.2 (.inr h1)))
theorem RK0.nm {w : World} {r : Nat} {a : AD} {O : List OF} {p : Option Addr} {c : Nat} {ob : Option Nat} (R : RK0 w r a O p c ob) (hs : a.fs.Pairwise ltN) : ((O.map (·.f)).map (·.name)).Nodup := by rw [R.hO]; exact lt_names hs
/-- the next act fails: the fall -/
theorem rdown_ok {w w1 : World} {r : Nat} {a : AD} {O : List OF} {p : Option Addr} {c : Nat} {ob : Option Nat} {K : Value → World → Prop} (R : RK0 w1 r a O p c ob) (hc : Ch (rbl r ob O) w w1) (hs : a.fs.Pairwise ltN) (wf : WF a) (hlen : a.fs.length < 2 ^ 41) (hk1 : -9223372036854775808 ≤ a.keep)
    (hk : RPost w r (a.fall a.keep) (rbl r ob O) (K (.int .i64 3))) :
    nn (some ⟨r, 0, none⟩) fun a1 => ∃ n1 : Int, w1.cell? (a1.add 5) = some (.int .i64 n1) ∧ callP Tryz.prog 111 [.pointer (some ⟨r, 0, none⟩), .int .i64 n1] w1 fun v2 w3 => v2 = .tuple #[] ∧ K (.int .i64 3) w3 := by
  simp only [nn_some, add_at, Nat.zero_add]
  refine ⟨_, R.keepC, rfall_ok R (R.small hlen) wf hk1 fun w' R' c' z' => ⟨rfl, hk w' _ (RK.fin R' (ltN_map (fun _ => rfl) hs) (.refl _) rfl) (hc.trans' c') fun b hb => .inl ?_⟩⟩
  rw [rbl_map (g := cutO a.keep) fun _ => rfl] at hb; exact hb
theorem act0 {a : AD} (h : a.acts = 0) : a.act = a := by unfold AD.act actsN; rw [h]; cases a; simp at h; subst h; rfl
theorem rsync_ok {w : World} {r : Nat} {a : AD} {B : Nat → Prop} {n : ByteArray} {K : Value → World → Prop} (R : RK w r a B) (wf : WF a) (hlen : a.fs.length < 2 ^ 41) (hkp : -9223372036854775808 ≤ a.keep) (hn : n.size ≤ 9223372036854775807)
    (hk : RPost w r (a.sync n).2 B (K (.int .i64 (a.sync n).1))) : callP Tryz.prog 106 [.pointer (some ⟨r, 0, none⟩), .string n] w K := by
  obtain ⟨⟨O, p, c, ob, R0, rfl⟩, hs⟩ := R
  have hol := R0.small hlen
  refine ok_longshoreref19_Disk_Sync ?_
  unfold wp_longshoreref19_Disk_Sync
  refine rasked_ok R0 (by omega) hn ⟨_, rfl, Sif_cases (fun g => ?_) fun g => ?_⟩
  · have hsy : a.sync n = (a.err [n] n, a) := by unfold AD.sync; rw [if_pos (by simpa using g)]
    rw [hsy] at hk
    exact hk w _ (RK.fin R0 hs (.refl _) rfl) (Ch.refl _ _) fun b hb => .inl hb
  have he : a.err [n] n = 0 := by simpa using g
  have hsy : a.sync n = a.done fun a => a.upd n sealF := by unfold AD.sync; rw [if_neg (by omega)]
  rw [hsy] at hk
  refine rfails_ok R0 wf.acts1 wf.acts2 fun w1 R1 c1 z1 => ⟨_, rfl, Sif_cases (fun q => ?_) fun q => ?_⟩
  · have h0 : a.acts = 0 := by simpa using q
    unfold AD.done at hk
    rw [if_pos h0] at hk
    rw [act0 h0] at R1
    exact rdown_ok R1 (c1.mono fun x _ hx => .inl hx) hs wf hlen hkp hk
  have h0 : a.acts ≠ 0 := by simpa using q
  unfold AD.done at hk
  rw [if_neg h0] at hk
  refine rfind_ok R1 (by omega) fun k hkk => ⟨k, rfl, ?_⟩
  rcases hkk with ⟨i, x, rfl, hx, hxn⟩ | ⟨rfl, hno⟩
  · have hil : i < O.length := (List.getElem?_eq_some_iff.1 hx).1
    have R1d : RK0 w1.drew r a.act O p c ob := R1.ch (Ch.drew (S := fun _ => False) w1) fun _ _ => id
    obtain ⟨kb, ko, rfl, g0, g1, g2⟩ := R1d.files.rd.at hx
    simp only [nn_some, add_at, Nat.zero_add]
    refine ⟨_, _, _, R1d.slice, _, _, _, R1d.slice, by omega, by omega, ?_⟩
    simp only [nn_some, add_at, Int.toNat_natCast, Nat.add_zero]
    refine ⟨_, _, _, g1, by omega, by omega, ?_⟩
    obtain ⟨kb', ko', e1, hob, hst⟩ := R1d.stEl (j := 2) (x' := { x with f := sealF x.f }) (v := .int .i64 (x.f.dat.length : Int)) hx (by omega) rfl (R1d.files.dat x (List.mem_of_getElem? hx)) fun k hk => .inl hk
    cases e1
    refine hst _ fun w2 R2 c2 z2 => ?_
    have hfs : (O.set i { x with f := sealF x.f }).map (·.f) = (a.act.upd n sealF).fs := by
      rw [set_upd (x' := { x with f := sealF x.f }) (g := sealF) hx hxn (R0.nm hs) rfl, R0.hO]; rfl
    have hkb : rbl r ob O kb := rbl_eq.2 (.inr (.inl hob))
    refine hk w2 _ (RK.fin R2 (by rw [hfs]; exact ltN_map (fun f => by split <;> rfl) hs) (by rw [hfs]) (by rw [hfs]; rfl)) (((c1.mono fun x _ hx => .inl hx).trans' (Ch.drew w1)).more c2 fun x hx => by rw [hx]; exact hkb) fun b hb => ?_
    exact rbl_sub (fun k hk => .inl hk) (set_dbl (x' := { x with f := sealF x.f }) hx (n := w.heap.size) fun k hk => .inl hk) b hb
  · exfalso
    have h3 : a.has n = false := by
      unfold AD.has
      rw [← R0.hO, List.any_eq_false]
      intro f hf
      obtain ⟨x, hx, rfl⟩ := List.mem_map.1 hf
      simpa using hno x hx
    unfold AD.err at he
    rw [h3] at he
    revert he
    split
    · omega
    · split
      · omega
      · simp
theorem rdelete_ok {w : World} {r : Nat} {a : AD} {B : Nat → Prop} {n : ByteArray} {K : Value → World → Prop} (R : RK w r a B) (wf : WF a) (hlen : a.fs.length < 2 ^ 41) (hkp : -9223372036854775808 ≤ a.keep) (hn : n.size ≤ 9223372036854775807)
    (hk : RPost w r (a.delete n).2 B (K (.int .i64 (a.delete n).1))) : callP Tryz.prog 104 [.pointer (some ⟨r, 0, none⟩), .string n] w K := by
  obtain ⟨⟨O, p, c, ob, R0, rfl⟩, hs⟩ := R
  have hol := R0.small hlen
  refine ok_longshoreref19_Disk_Delete ?_
  unfold wp_longshoreref19_Disk_Delete
  refine rasked_ok R0 (by omega) hn ⟨_, rfl, Sif_cases (fun g => ?_) fun g => ?_⟩
  · have hsy : a.delete n = (a.err [n] n, a) := by unfold AD.delete; rw [if_pos (by simpa using g)]
    rw [hsy] at hk
    exact hk w _ (RK.fin R0 hs (.refl _) rfl) (Ch.refl _ _) fun b hb => .inl hb
  have he : a.err [n] n = 0 := by simpa using g
  have hsy : a.delete n = a.done fun a => a.gone n := by unfold AD.delete; rw [if_neg (by omega)]
  rw [hsy] at hk
  refine rfails_ok R0 wf.acts1 wf.acts2 fun w1 R1 c1 z1 => ⟨_, rfl, Sif_cases (fun q => ?_) fun q => ?_⟩
  · have h0 : a.acts = 0 := by simpa using q
    unfold AD.done at hk
    rw [if_pos h0] at hk
    rw [act0 h0] at R1
    exact rdown_ok R1 (c1.mono fun x _ hx => .inl hx) hs wf hlen hkp hk
  have h0 : a.acts ≠ 0 := by simpa using q
  unfold AD.done at hk
  rw [if_neg h0] at hk
  refine rtake_ok R1 (by omega) fun p' c' ob' w2 R2 c2 hn2 => ⟨rfl, ?_⟩
  refine hk w2 _ (RK.fin R2 (hs.sublist List.filter_sublist) (.refl _) rfl) ((c1.mono fun x _ hx => .inl hx).more c2 fun x hx => .inl hx) (rbl_sub (fun k hk => .inr (by have := hn2 k hk; omega)) fun k hk => .inl ((sub_flat List.filter_sublist).subset hk))
set_option maxHeartbeats 1000000 in
theorem rappend_ok {w : World} {r : Nat} {a : AD} {B : Nat → Prop} {n : ByteArray} {b : Option Addr} {bn bc : Nat} {l : List UInt8} {K : Value → World → Prop} (R : RK w r a B) (wf : WF a) (hlen : a.fs.length < 2 ^ 41 - 1) (hkp : -9223372036854775808 ≤ a.keep) (hn : n.size ≤ 9223372036854775807)
    (hb : Rd w b bn 1 (bytesV l)) (hbl : bn ≤ 2 ^ 62) (hbB : ∀ p, b = some p → bn ≠ 0 → ¬ B p.block)
    (hk : RPost w r (a.append n l).2 B (K (.int .i64 (a.append n l).1))) : callP Tryz.prog 140 [.pointer (some ⟨r, 0, none⟩), .string n, .slice b bn bc] w K := by
  obtain ⟨⟨O, p, c, ob, R0, rfl⟩, hs⟩ := R
  have hol := R0.len
  have htot := wf.tot
  have hln : l.length = bn := by have := hb.1; simpa using this
  refine ok_longshoreref19_Disk_Append ?_
  unfold wp_longshoreref19_Disk_Append
  refine rasked_ok R0 (by omega) hn ⟨_, rfl, ?_⟩
  have stay : a.append n l = (a.err [n] n, a) → K (.int .i64 (a.err [n] n)) w := fun h => by
    rw [h] at hk
    exact hk w _ (RK.fin R0 hs (.refl _) rfl) (Ch.refl _ _) fun b hb => .inl hb
  refine ⟨fun w' => w' = w ∧ a.err [n] n ≠ 3 ∧ a.err [n] n ≠ 1, ?_, Sif_cases (fun g => Sif_cases (fun g2 => stay ?_) fun g2 => ⟨rfl, by simpa using g, by simpa using g2⟩) fun g => stay ?_⟩
  rotate_left
  · unfold AD.append; rw [if_pos (.inr (by simpa using g2))]
  · unfold AD.append; rw [if_pos (.inl (by simpa using g))]
  rintro w1 ⟨rfl, he3, he1⟩
  have happ : a.append n l = if (l.length : Int) > a.room - total a.fs then (190, a) else if a.acts = 0 then (3, ((a.more n).act.upd n (growF l)).fall a.keep) else (0, (a.more n).act.upd n (growF l)) := by
    unfold AD.append; rw [if_neg (by omega)]
  rw [happ] at hk
  have R0d : RK0 w1.drew r a O p c ob := R0.ch (Ch.drew (S := fun _ => False) w1) fun _ _ => id
  simp only [nn_some, add_at, Nat.zero_add]
  refine ⟨_, R0d.roomC, rused_ok R0d (by omega) (by omega) ⟨_, rfl, ⟨_, R0d.roomC, rfl⟩, ?_⟩⟩
  rw [wrap_id (by omega) (by omega)]
  refine Sif_cases (fun g => ?_) fun g => ?_
  · rw [if_pos (by have := of_decide_eq_true g; omega)] at hk
    exact hk _ _ (RK.fin R0d hs (.refl _) rfl) (Ch.drew _) fun b hb => .inl hb
  have hroom := of_decide_eq_false g
  rw [if_neg (by omega)] at hk
  refine rfails_ok R0d wf.acts1 wf.acts2 fun w2 R2 c2 z2 => ⟨_, rfl, ?_⟩
  have hc2 : Ch (rbl r ob O) w1 w2 := (Ch.drew w1).trans' (c2.mono fun x _ hx => .inl hx)
  have hz2 : w2.heap.size = w1.heap.size := z2
  have hmr := a.more_rest n
  -- the file stands there, made if need be
  refine ⟨fun w' => ∃ (O1 : List OF) (p1 : Option Addr) (c1 : Nat) (ob1 : Option Nat), RK0 w' r { a.act with fs := O1.map (·.f) } O1 p1 c1 ob1 ∧ (O1.map (·.f)).Perm (a.more n).fs ∧ (O1.map (·.f)).Pairwise ltN ∧ (∃ x ∈ O1, x.f.name = n) ∧ Ch (rbl r ob O) w1 w' ∧
      (∀ k, rbl r ob1 O1 k → rbl r ob O k ∨ w1.heap.size ≤ k), ?_, Sif_cases (fun g => ?_) fun g => ?_⟩
  rotate_left
  · have he : a.err [n] n = 191 := by simpa using g
    have hno : ∀ x ∈ O, x.f.name ≠ n := fun x hx e => by
      rcases a.err_cases n with h | h | h | h
      · omega
      · omega
      · have h3 := h.2.2
        unfold AD.has at h3
        rw [← R0.hO, List.any_eq_false] at h3
        exact h3 x.f (List.mem_map.2 ⟨x, hx, rfl⟩) (by simp [e])
      · omega
    have hm : (a.more n).fs = ⟨n, [], 0⟩ :: a.fs := by unfold AD.more; rw [if_pos he]
    refine rput_ok (x := { f := ⟨n, [], 0⟩, p := none, c := 0, own := none }) R2 (by omega) Ow.nil (fun k hk => by cases hk) fun p1 c1 ob1 w3 R3 c3 n3 => ⟨rfl, _, p1, c1, ob1, R3, ?_, ?_, ?_, ?_, ?_⟩
    · rw [hm, ← R0.hO]; exact (insO_perm _ O).map _
    · rw [List.pairwise_map]
      have hso : O.Pairwise ltO := by rw [← R0.hO, List.pairwise_map] at hs; exact hs
      exact insO_sort _ O hso hno
    · exact ⟨_, (insO_perm _ O).mem_iff.2 (List.mem_cons_self ..), rfl⟩
    · exact hc2.more c3 fun x hx => .inl hx
    · refine rbl_sub (fun k hk => .inr (by have := n3 k hk; omega)) fun k hk => .inl ?_
      have := (dbl_perm (insO_perm _ O)).mem_iff.1 hk
      simpa [dbl] using this
  · have he : a.err [n] n ≠ 191 := by simpa using g
    have hm : (a.more n).fs = a.fs := by unfold AD.more; rw [if_neg he]
    refine ⟨O, p, c, ob, ?_, by rw [hm, R0.hO], by rw [R0.hO]; exact hs, ?_, hc2, fun k hk => .inl hk⟩
    · have : ({ a.act with fs := O.map (·.f) } : AD) = a.act := by rw [R0.hO]; rfl
      rw [this]; exact R2
    · rcases a.err_cases n with h | h | h | h
      · omega
      · omega
      · omega
      · have h3 := h.2.2
        unfold AD.has at h3
        rw [← R0.hO, List.any_eq_true] at h3
        obtain ⟨f, hf, hfn⟩ := h3
        obtain ⟨x, hx, rfl⟩ := List.mem_map.1 hf
        exact ⟨x, hx, by simpa using hfn⟩
  rintro w3 ⟨O1, p1, c1, ob1, R3, hp1, hs1, ⟨y, hy, hyn⟩, hc3, hb3⟩
  have hnd1 := lt_names hs1
  have hl1 : O1.length ≤ O.length + 1 := by
    have h1 := hp1.length_eq
    rw [List.length_map] at h1
    have h2 : (a.more n).fs.length ≤ a.fs.length + 1 := by unfold AD.more; split <;> simp
    omega
  refine rfind_ok R3 (by omega) fun k hkk => ⟨k, rfl, ?_⟩
  rcases hkk with ⟨i, x, rfl, hx, hxn⟩ | ⟨rfl, hno⟩
  case inr => exact absurd hyn (hno y hy)
  have hil : i < O1.length := (List.getElem?_eq_some_iff.1 hx).1
  have hxm := List.mem_of_getElem? hx
  obtain ⟨kb, ko, rfl, g0, g1, g2⟩ := R3.files.rd.at hx
  refine ⟨_, _, _, R3.slice, by omega, by omega, ?_⟩
  simp only [nn_some, add_at, Int.toNat_natCast, Nat.add_zero]
  have hxt : x.f.dat.length ≤ total a.fs := by
    have h1 : x.f ∈ O1.map (·.f) := List.mem_map.2 ⟨x, hxm, rfl⟩
    have h2 := dat_le_total h1
    rw [total_perm hp1, hmr.2.2.2.2] at h2
    exact h2
  have hroom2 : bn ≤ 2 ^ 24 := by have := wf.room; omega
  refine ⟨_, _, _, g1, rcopied_ok (R3.files.dat x hxm).rd (by omega) fun p4 c4 w4 b4 o4 f4 e4 => ⟨_, _, _, rfl, ?_⟩⟩
  have R4 := R3.ch e4 fun _ _ => id
  have R4d : RK0 w4.drew r _ O1 _ c1 ob1 := R4.ch (Ch.drew (S := fun _ => False) w4) fun _ _ => id
  refine ⟨_, _, _, R4d.slice, ?_⟩
  have hc4 : Ch (rbl r ob O) w1 w4.drew := (hc3.new e4).new (Ch.drew w4)
  have hbr : Rd w4.drew b bn 1 (bytesV l) := hb.ch hc4 fun q hq h0 => hbB q hq (by omega)
  obtain ⟨p5, c5, w5, b5, r1, r2, r3, r4, _⟩ := append_rd (ty := 23) (c2 := bc) Tryz.underlying23 Tryz.underlying23 byte_info rfl (o4.ch (Ch.drew (S := fun _ => False) w4) fun _ _ => id) hbr (bytesV_one l) (by omega) (by omega)
  have hlt3 := R3.lt
  have hsz3 := hc3.size
  have hsz4 := e4.size
  have hb4n : ∀ k, b4 = some k → ¬ rbl r ob1 O1 k := fun k hk h => by have := f4 k hk; have := hlt3 k h; omega
  have R5 : RK0 w5 r _ O1 _ c1 ob1 := R4d.ch r4 fun k hk h => hb4n k h hk
  have hc5 : Ch (rbl r ob O) w1 w5 := hc4.trans r4 fun k hk h => by have := f4 k h; omega
  refine ⟨p5, _, c5, w5, r1, ⟨_, _, _, R5.slice, rfl⟩, by omega, by omega, ?_⟩
  have hown5 : ∀ k, b5 = some k → w3.heap.size ≤ k := fun k hk => by
    rcases r3 k hk with h | h
    · exact f4 k h
    · have : w4.drew.heap.size = w4.heap.size := rfl
      omega
  have hgl : (x.f.dat ++ l).length = x.f.dat.length + bn := by simp [hln]
  obtain ⟨kb', ko', e1, hob, hst⟩ := R5.stEl (j := 1) (x' := { f := growF l x.f, p := p5, c := c5, own := b5 }) (v := .slice p5 (x.f.dat.length + bn) c5) hx (by omega) (by simp [OF.cells, growF, hln])
    (by show Ow w5 p5 (x.f.dat ++ l).length c5 1 (bytesV (x.f.dat ++ l)) b5; rw [hgl, bytesV_append]; exact r2) fun k hk => .inr fun h => by have := hown5 k hk; have := hlt3 k h; omega
  cases e1
  simp only [nn_some, add_at, Int.toNat_natCast, Nat.add_zero]
  refine hst _ fun w6 R6 c6 z6 => ?_
  have hfs : (O1.set i { f := growF l x.f, p := p5, c := c5, own := b5 }).map (·.f) = (O1.map (·.f)).map fun f => if f.name = n then growF l f else f := set_upd hx hxn hnd1 rfl
  have hkb : rbl r ob O kb ∨ w1.heap.size ≤ kb := hb3 kb (rbl_eq.2 (.inr (.inl hob)))
  have hc6 : Ch (rbl r ob O) w1 w6 := hc5.trans c6 fun k hk h => by subst h; exact hkb.resolve_right (by omega)
  have hb6 : ∀ k, rbl r ob1 (O1.set i { f := growF l x.f, p := p5, c := c5, own := b5 }) k → rbl r ob O k ∨ w1.heap.size ≤ k := fun k hk => by
    rcases rbl_sub (fun k hk => .inl hk) (set_dbl hx (n := w1.heap.size) fun k hk => .inr (by have := hown5 k hk; omega)) k hk with h | h
    · exact hb3 k h
    · exact .inr h
  rw [hfs] at R6
  have hs6 : ((O1.map (·.f)).map fun f => if f.name = n then growF l f else f).Pairwise ltN := ltN_map (fun f => by split <;> rfl) hs1
  have hp6 : ((O1.map (·.f)).map fun f => if f.name = n then growF l f else f).Perm ((a.more n).act.upd n (growF l)).fs := hp1.map _
  refine Sif_cases (fun q => ?_) fun q => ?_
  · have h0 : a.acts = 0 := by simpa using q
    rw [if_pos h0] at hk
    have wf6 : WF { a.act with fs := (O1.map (·.f)).map fun f => if f.name = n then growF l f else f } := by
      have wa := wf.act
      refine ⟨fun f hf => ?_, ?_, wf.room, wa.acts1, wa.acts2, fun f hf => ?_⟩
      · obtain ⟨g, hg, rfl⟩ := List.mem_map.1 hf
        have hgm := hp1.mem_iff.1 hg
        have : g.safe ≤ g.dat.length := by
          unfold AD.more at hgm; split at hgm
          · rcases List.mem_cons.1 hgm with rfl | h
            · simp
            · exact wf.safe g h
          · exact wf.safe g hgm
        split
        · simp [growF]; omega
        · exact this
      · have h1 : total ((O1.map (·.f)).map fun f => if f.name = n then growF l f else f) = total a.fs + l.length := by
          have h2 : (O1.set i { f := growF l x.f, p := p5, c := c5, own := b5 }).map (·.f) = _ := hfs
          rw [← h2, set_split hx]
          have h3 : total (O1.map (·.f)) = total a.fs := by rw [total_perm hp1, hmr.2.2.2.2]
          have h4 : O1.map (·.f) = (O1.take i).map (·.f) ++ x.f :: (O1.drop (i + 1)).map (·.f) := by
            conv => lhs; rw [split_at hx]
            simp
          rw [h4] at h3
          simp [total, growF] at h3 ⊢
          omega
        show (total _ : Int) ≤ a.room
        rw [h1]; omega
      · obtain ⟨g, hg, rfl⟩ := List.mem_map.1 hf
        have hgm := hp1.mem_iff.1 hg
        have : nameOk g.name = true := by
          unfold AD.more at hgm; split at hgm
          · rename_i h191
            rcases List.mem_cons.1 hgm with rfl | h
            · rcases a.err_cases n with h | h | h | h
              · omega
              · omega
              · exact h.2.1
              · omega
            · exact wf.names g h
          · exact wf.names g hgm
        split <;> exact this
    have hk2 : RPost w1 r (AD.fall { a.act with fs := (O1.map (·.f)).map fun f => if f.name = n then growF l f else f } a.keep) (rbl r ob O) (K (.int .i64 3)) := fun w' B' R' c' n' => by
      refine hk w' B' ?_ c' n'
      have e : (((a.more n).act.upd n (growF l)).fall a.keep).sorted = (AD.fall { a.act with fs := (O1.map (·.f)).map fun f => if f.name = n then growF l f else f } a.keep).sorted := by
        have h1 : (AD.fall { a.act with fs := (O1.map (·.f)).map fun f => if f.name = n then growF l f else f } a.keep).fs.Perm (((a.more n).act.upd n (growF l)).fall a.keep).fs := hp6.map _
        have h2 := sort_unique h1 (ltN_map (fun _ => rfl) hs6)
        have h3 := sort_unique (.refl _) (ltN_map (g := cutF a.keep) (fun _ => rfl) hs6)
        simp only [AD.sorted]
        rw [h2]
        simp only [AD.fall, AD.upd, AD.act] at h3 ⊢
        rw [h3]
        simp [hmr.1, hmr.2.2.2.1]
      rw [e]; exact R'
    refine ⟨_, R6.keepC, rfall_ok R6 (by simp; omega) wf6 hkp fun w' R' c' z' => ⟨rfl, hk2 w' _ (RK.fin R' (ltN_map (fun _ => rfl) hs6) (.refl _) rfl) (hc6.trans c' fun k hk h => (hb6 k h).resolve_right (by omega)) fun b hb => ?_⟩⟩
    rw [rbl_map (g := cutO a.act.keep) fun _ => rfl] at hb
    exact hb6 b hb
  · have h0 : a.acts ≠ 0 := by simpa using q
    rw [if_neg h0] at hk
    exact hk w6 _ (RK.fin R6 hs6 hp6 (by simp only [AD.upd, AD.act]; simp [hmr.1, hmr.2.1, hmr.2.2.1, hmr.2.2.2.1])) hc6 hb6
end Go.Proofs.YtipololccbdojaaGreatDoor
namespace Go.Proofs.YtipololccbdojaaGreatDoor
open Go Go.Sv Go.MapKept
set_option linter.unusedVariables false
set_option maxRecDepth 4000

theorem RK0.find {w : World} {r : Nat} {a : AD} {O : List OF} {p : Option Addr} {c : Nat} {ob : Option Nat} (R : RK0 w r a O p c ob) (hs : a.fs.Pairwise ltN) {x : OF} (hx : x ∈ O) {n : ByteArray} (hn : x.f.name = n) : (a.fs.find? fun g => decide (g.name = n)) = some x.f :=
  find_eq (lt_names hs) (R.hO ▸ List.mem_map.2 ⟨x, hx, rfl⟩) hn
theorem RK0.has {w : World} {r : Nat} {a : AD} {O : List OF} {p : Option Addr} {c : Nat} {ob : Option Nat} (R : RK0 w r a O p c ob) {n : ByteArray} : a.has n = true ↔ ∃ x ∈ O, x.f.name = n := by
  unfold AD.has
  rw [← R.hO, List.any_eq_true]
  constructor
  · rintro ⟨f, hf, hfn⟩
    obtain ⟨x, hx, rfl⟩ := List.mem_map.1 hf
    exact ⟨x, hx, by simpa using hfn⟩
  · rintro ⟨x, hx, hxn⟩
    exact ⟨x.f, List.mem_map.2 ⟨x, hx, rfl⟩, by simp [hxn]⟩
theorem filt_name {O : List OF} {x : OF} (hx : x ∈ O) (hnd : ((O.map (·.f)).map (·.name)).Nodup) : O.Perm (x :: O.filter fun o => decide (o.f.name ≠ x.f.name)) := by
  obtain ⟨l1, l2, rfl⟩ := List.append_of_mem hx
  have hne : ∀ y ∈ l1 ++ l2, y.f.name ≠ x.f.name := fun y hy e => by
    have hp : (l1 ++ x :: l2).Perm (x :: (l1 ++ l2)) := List.perm_middle
    have h1 := ((hp.map (·.f)).map (·.name)).nodup_iff.1 hnd
    simp only [List.map_cons] at h1
    exact (List.nodup_cons.1 h1).1 (List.mem_map.2 ⟨y.f, List.mem_map.2 ⟨y, hy, rfl⟩, e⟩)
  have hf : (l1 ++ x :: l2).filter (fun o => decide (o.f.name ≠ x.f.name)) = l1 ++ l2 := by
    rw [List.filter_append, List.filter_cons, if_neg (by simp)]
    rw [List.filter_eq_self.2 fun y hy => by simpa using hne y (List.mem_append.2 (.inl hy)), List.filter_eq_self.2 fun y hy => by simpa using hne y (List.mem_append.2 (.inr hy))]
  rw [hf]
  exact List.perm_middle
set_option maxHeartbeats 1000000 in
theorem rrename_ok {w : World} {r : Nat} {a : AD} {B : Nat → Prop} {n m : ByteArray} {K : Value → World → Prop} (R : RK w r a B) (wf : WF a) (hlen : a.fs.length < 2 ^ 41 - 1) (hkp : -9223372036854775808 ≤ a.keep) (hn : n.size ≤ 9223372036854775807) (hm : m.size ≤ 9223372036854775807)
    (hk : RPost w r (a.rename n m).2 B (K (.int .i64 (a.rename n m).1))) : callP Tryz.prog 152 [.pointer (some ⟨r, 0, none⟩), .string n, .string m] w K := by
  obtain ⟨⟨O, p, c, ob, R0, rfl⟩, hs⟩ := R
  have hol := R0.len
  refine ok_longshoreref19_Disk_Rename ?_
  unfold wp_longshoreref19_Disk_Rename
  refine rIsName_ok hn ⟨_, rfl, rIsName_ok hm ⟨_, rfl, ?_⟩⟩
  simp only [nn_some, add_at, Nat.zero_add]
  have stay : ∀ (e : Int), a.rename n m = (e, a) → ∀ w', RK0 w' r a O p c ob → Ch (rbl r ob O) w w' → K (.int .i64 e) w' := fun e h w' R' c' => by
    rw [h] at hk
    exact hk w' _ (RK.fin R' hs (.refl _) rfl) c' fun b hb => .inl hb
  have err : ∀ e : Int, e ≠ 0 → a.err [n, m] n = e → a.rename n m = (e, a) := fun e h0 he => by unfold AD.rename; rw [he, if_pos h0]
  refine ⟨_, R0.downC, Sif_cases (fun g => stay 3 (err 3 (by omega) (by unfold AD.err; rw [if_pos g])) w R0 (Ch.refl _ _)) fun g => ?_⟩
  have hbad : (nameOk n && nameOk m) = false → a.err [n, m] n = 1 := fun h => by unfold AD.err; rw [if_neg (by simp [g]), if_pos (by simpa using h)]
  refine Sif_cases (fun g1 => Sif_cases (fun g2 => stay 1 (err 1 (by omega) (hbad ?_)) w R0 (Ch.refl _ _)) fun g2 => ?_) fun g1 => stay 1 (err 1 (by omega) (hbad ?_)) w R0 (Ch.refl _ _)
  · have : nameOk m = false := by simpa using g2
    rw [this]; simp
  rotate_left
  · have : nameOk n = false := by simpa using g1
    rw [this]; simp
  have hok : a.err [n, m] n = if a.has n = false then 191 else 0 := by
    have h1 : nameOk n = true := by simpa using g1
    have h2 : nameOk m = true := by simpa using g2
    unfold AD.err; rw [if_neg (by simp [g]), if_neg (by simp [h1, h2])]
  refine rfind_ok R0 (by omega) fun k hkk => ⟨k, rfl, ?_⟩
  rcases hkk with ⟨i, x, rfl, hx, hxn⟩ | ⟨rfl, hno⟩
  case inr =>
    refine Sif_cases (fun _ => stay 191 (err 191 (by omega) ?_) w R0 (Ch.refl _ _)) fun g3 => by simp at g3
    have : a.has n = false := by
      cases h : a.has n with
      | false => rfl
      | true => obtain ⟨x, hx, hxn⟩ := R0.has.1 h; exact absurd hxn (hno x hx)
    rw [hok, if_pos this]
  refine Sif_cases (fun g3 => by have := of_decide_eq_true g3; omega) fun _ => ?_
  have hil : i < O.length := (List.getElem?_eq_some_iff.1 hx).1
  have hxm := List.mem_of_getElem? hx
  have hhas : a.has n = true := R0.has.2 ⟨x, hxm, hxn⟩
  have hren : a.rename n m = if x.f.safe < x.f.dat.length then (192, a) else a.done fun a => moveF a n m x.f := by
    unfold AD.rename
    rw [hok, if_neg (by simp [hhas] : ¬ a.has n = false), if_neg (by simp), R0.find hs hxm hxn]
  rw [hren] at hk
  obtain ⟨kb, ko, rfl, g0, g1', g2'⟩ := R0.files.rd.at hx
  refine ⟨_, _, _, R0.slice, by omega, by omega, ?_⟩
  simp only [nn_some, add_at, Int.toNat_natCast, Nat.add_zero]
  refine ⟨_, g0, _, _, _, g1', _, g2', box3 fun w1 b1 c1 z1 => ?_⟩
  simp only [add_at, Nat.zero_add]
  have R1 := R0.ch c1 fun _ _ => id
  refine ⟨_, by rw [cell_blk b1]; rfl, _, _, _, by rw [cell_blk b1]; rfl, Sif_cases (fun q => ?_) fun q => ?_⟩
  · rw [if_pos (by have := of_decide_eq_true q; omega)] at hk
    exact hk w1 _ (RK.fin R1 hs (.refl _) rfl) (c1.mono fun _ _ h => h.elim) fun b hb => .inl hb
  rw [if_neg (by have := of_decide_eq_false q; omega)] at hk
  refine rfails_ok R1 wf.acts1 wf.acts2 fun w2 R2 c2 z2 => ⟨_, rfl, Sif_cases (fun q2 => ?_) fun q2 => ?_⟩
  · have h0 : a.acts = 0 := by simpa using q2
    unfold AD.done at hk
    rw [if_pos h0] at hk
    rw [act0 h0] at R2
    have := rdown_ok R2 ((c1.mono fun _ _ h => h.elim : Ch (rbl r ob O) w w1).more c2 fun x hx => .inl hx) hs wf (by omega) hkp hk
    simpa only [nn_some, add_at, Nat.zero_add] using this
  have h0 : a.acts ≠ 0 := by simpa using q2
  unfold AD.done at hk
  rw [if_neg h0] at hk
  have hlt := R0.lt
  have hrl : r < w.heap.size := hlt r (.inl rfl)
  refine rtake_ok R2 (by omega) fun p3 c3' ob3 w3 R3 c3 n3 => ⟨rfl, ?_⟩
  have hl3 := List.length_filter_le (fun o : OF => decide (o.f.name ≠ n)) O
  refine rtake_ok R3 (by omega) fun p4 c4' ob4 w4 R4 c4 n4 => ⟨rfl, ?_⟩
  have hl4 := List.length_filter_le (fun o : OF => decide (o.f.name ≠ m)) (O.filter fun o => decide (o.f.name ≠ n))
  have hc14 : Ch (fun k => k = r) w1 w4 := (c2.trans' c3).trans' c4
  have b4 : blk w4 w.heap.size = some [.string x.f.name, .slice x.p x.f.dat.length x.c, .int .i64 x.f.safe] := by rw [hc14.blk (blk_lt b1) fun e => by omega]; exact b1
  refine st_blk b4 (by simp) fun w5 b5 c5 z5 => ?_
  simp only [List.set_cons_zero] at b5
  refine ⟨_, by rw [cell_blk b5]; rfl, _, _, _, by rw [cell_blk b5]; rfl, _, by rw [cell_blk b5]; rfl, ?_⟩
  have hdn := R0.dn
  have hc5 : Ch (rbl r ob O) w w5 := ((c1.mono fun _ _ h => h.elim : Ch (rbl r ob O) w w1).more hc14 fun x hx => .inl hx).trans c5 fun k hk h => by omega
  have hxo : ∀ k, x.own = some k → k ∈ dbl O := fun k hk => List.mem_flatMap.2 ⟨x, hxm, by simp [hk]⟩
  have hx5 : Ow w5 x.p x.f.dat.length x.c 1 (bytesV x.f.dat) x.own := ((R1.files.dat x hxm).ch hc14 fun k hk e => hdn.2 (e ▸ hxo k hk)).ch c5 fun k hk e => by have := hlt k (rbl_eq.2 (.inr (.inr (hxo k hk)))); omega
  have hs4 : (O.filter fun o => decide (o.f.name ≠ n)).filter (fun o => decide (o.f.name ≠ m)) |>.Sublist O := List.filter_sublist.trans List.filter_sublist
  have R5 := R4.ch c5 fun b hb e => by
    rcases rbl_eq.1 hb with h | h | h
    · omega
    · have := n4 b h; have := ((c2.trans' c3).size); omega
    · have := hlt b (rbl_eq.2 (.inr (.inr ((sub_flat hs4).subset h)))); omega
  have hxp := filt_name hxm (by rw [R0.hO]; exact lt_names hs)
  rw [hxn] at hxp
  have hxnot : ∀ k, x.own = some k → ¬ rbl r ob4 ((O.filter fun o => decide (o.f.name ≠ n)).filter fun o => decide (o.f.name ≠ m)) k := fun k hk h => by
    have hkO := hxo k hk
    have hkl := hlt k (rbl_eq.2 (.inr (.inr hkO)))
    rcases rbl_eq.1 h with h | h | h
    · exact hdn.2 (h ▸ hkO)
    · have := n4 k h; have := ((c2.trans' c3).size); omega
    · have h1 : k ∈ dbl (O.filter fun o => decide (o.f.name ≠ n)) := (sub_flat List.filter_sublist).subset h
      have h2 := (dbl_perm hxp).nodup_iff.1 hdn.1
      exact (List.nodup_append.1 (show (x.own.toList ++ dbl (O.filter fun o => decide (o.f.name ≠ n))).Nodup from h2)).2.2 k (by simp [hk]) k h1 rfl
  refine rput_ok (x := { x with f := { x.f with name := m } }) R5 (by omega) hx5 hxnot fun p6 c6' ob6 w6 R6 c6 n6 => ⟨rfl, ?_⟩
  have hso : O.Pairwise ltO := by rw [← R0.hO, List.pairwise_map] at hs; exact hs
  have hs6 : (insO { x with f := { x.f with name := m } } ((O.filter fun o => decide (o.f.name ≠ n)).filter fun o => decide (o.f.name ≠ m))).Pairwise ltO :=
    insO_sort _ _ (hso.sublist hs4) fun y hy => by simpa using (List.mem_filter.1 hy).2
  have hfs : ((insO { x with f := { x.f with name := m } } ((O.filter fun o => decide (o.f.name ≠ n)).filter fun o => decide (o.f.name ≠ m))).map (·.f)).Perm (moveF a.act n m x.f).fs := by
    refine ((insO_perm _ _).map _).trans ?_
    unfold moveF
    rw [List.map_cons]
    have e1 : ∀ l : List OF, ∀ q : ByteArray, (l.filter fun o => decide (o.f.name ≠ q)).map (·.f) = (l.map (·.f)).filter fun f => decide (f.name ≠ q) := fun l q => by rw [List.filter_map]; rfl
    rw [e1, e1, R0.hO]
    split
    · rename_i hnm
      subst hnm
      have h1 := hxp.map (·.f)
      rw [R0.hO, List.map_cons, e1, R0.hO] at h1
      rw [List.filter_filter]
      simp only [Bool.and_self]
      rw [show ({ x.f with name := n } : File) = x.f by rw [← hxn]]
      exact h1.symm
    · show (_ :: _ : List File).Perm (_ :: _)
      refine List.Perm.cons _ ?_
      rw [List.filter_filter, List.filter_filter]
      refine List.Perm.of_eq ?_
      refine List.filter_congr fun f _ => ?_
      rw [Bool.and_comm]
  refine hk w6 _ (RK.fin R6 (by rw [List.pairwise_map]; exact hs6) hfs ?_) (hc5.more c6 fun x hx => .inl hx) fun b hb => ?_
  · unfold moveF; split <;> rfl
  · rcases rbl_eq.1 hb with h | h | h
    · exact .inl (rbl_eq.2 (.inl h))
    · exact .inr (by have := n6 b h; have := hc5.size; omega)
    · rcases List.mem_append.1 (show b ∈ x.own.toList ++ dbl _ from (dbl_perm (insO_perm { x with f := { x.f with name := m } } _)).mem_iff.1 h) with h | h
      · exact .inl (rbl_eq.2 (.inr (.inr (hxo b (by simpa using h)))))
      · exact .inl (rbl_eq.2 (.inr (.inr ((sub_flat hs4).subset h))))
theorem err_has {a : AD} {n : ByteArray} (h : a.err [n] n = 0) : a.has n = true := by
  rcases a.err_cases n with h1 | h1 | h1 | h1
  · omega
  · omega
  · omega
  · exact h1.2.2
set_option maxHeartbeats 1000000 in
/-- all files, in memory of their own -/
theorem rfiles_ok {w : World} {r : Nat} {a : AD} {B : Nat → Prop} {K : Value → World → Prop} (R : RK w r a B) (hdat : ∀ f ∈ a.fs, f.dat.length ≤ 2 ^ 46) (hlen : a.fs.length < 2 ^ 41)
    (hk : ∀ p c ob O w', Ch (fun _ => False) w w' → FilesR w' p c ob O → O.map (·.f) = a.fs → (∀ b ∈ FilesR.bl ob O, w.heap.size ≤ b) → K (.slice p O.length c) w') :
    callP Tryz.prog 77 [.pointer (some ⟨r, 0, none⟩)] w K := by
  obtain ⟨⟨O, p, c, ob, R0, rfl⟩, hs⟩ := R
  have hol := R0.len
  have hlt := R0.lt
  refine ok_longshoreref19_Disk_Files ?_
  unfold wp_longshoreref19_Disk_Files
  refine ⟨fun m q t e k w' => ∃ (T : List OF) (tb : Option Nat), k = (T.length : Int) ∧ t = T.length ∧ T.length ≤ O.length ∧ m = O.length - T.length ∧ T.map (·.f) = a.fs.take T.length ∧ FilesR w' q e tb T ∧ Ch (fun _ => False) w w' ∧ (∀ b ∈ FilesR.bl tb T, w.heap.size ≤ b),
    ⟨O.length, [], none, rfl, rfl, by simp, by simp, by simp, ⟨Ow.nil, by simp, by simp⟩, Ch.refl _ _, by simp [FilesR.bl]⟩, ?_⟩
  rintro m q t e k w1 ⟨T, tb, rfl, rfl, hTl, rfl, hT, FT, c1, hnew⟩
  have R1 := R0.ch c1 fun _ _ => id
  simp only [nn_some, add_at, Nat.zero_add]
  refine ⟨_, _, _, R1.slice, Sif_cases (fun g => ?_) fun g => ?_⟩
  · have hlt1 : T.length < O.length := by have := of_decide_eq_true g; omega
    have hy : O[T.length]? = some (O[T.length]'hlt1) := List.getElem?_eq_getElem hlt1
    generalize O[T.length]'hlt1 = y at hy
    have hym := List.mem_of_getElem? hy
    have hyf : y.f ∈ a.fs := R0.hO ▸ List.mem_map.2 ⟨y, hym, rfl⟩
    have hya : a.fs[T.length]? = some y.f := by rw [← R0.hO, List.getElem?_map, hy]; rfl
    obtain ⟨yb, yo, rfl, g0, g1, g2⟩ := R1.files.rd.at hy
    refine ⟨_, _, _, R1.slice, by omega, by omega, ?_⟩
    simp only [nn_some, add_at, Int.toNat_natCast, Nat.add_zero]
    refine ⟨_, g0, _, _, _, g1, _, g2, box3 fun w2 b2 c2 z2 => ?_⟩
    simp only [add_at, Nat.zero_add]
    have R2 := R1.ch c2 fun _ _ => id
    refine ⟨_, _, _, by rw [cell_blk b2]; rfl, rcopied_ok (R2.files.dat y hym).rd (hdat _ hyf) fun p3 c3' w3 b3 o3 f3 e3 => ⟨_, _, _, rfl, ?_⟩⟩
    have b2' : blk w3 w1.heap.size = some [.string y.f.name, .slice y.p y.f.dat.length y.c, .int .i64 y.f.safe] := by rw [e3.blk (blk_lt b2) id]; exact b2
    refine st_blk b2' (by simp) fun w4 b4 c4 z4 => ?_
    simp only [List.set_cons_succ, List.set_cons_zero] at b4
    refine ⟨_, by rw [cell_blk b4]; rfl, _, _, _, by rw [cell_blk b4]; rfl, _, by rw [cell_blk b4]; rfl, ?_⟩
    have hc14 : Ch (fun _ => False) w1 w4 := (c2.new e3).trans c4 fun k hk h => by omega
    have hTlt := FT.lt
    have FT4 := FT.ch hc14 fun _ _ => id
    have o4 := o3.ch c4 fun k hk e => by have := f3 k hk; omega
    refine pushF FT4.row { f := y.f, p := p3, c := c3', own := b3 } (by omega) fun p' c' b'' w5 o5 n5 c5 => ?_
    rw [nameI_iff, wrap_id (by omega) (by omega)]
    have hb3 : ∀ k, b3 = some k → w1.heap.size ≤ k ∧ k < w4.heap.size := fun k hk => ⟨by have := f3 k hk; omega, o4.blt k hk⟩
    refine ⟨O.length - (T.length + 1), by omega, T ++ [{ f := y.f, p := p3, c := c3', own := b3 }], b'', by simp, rfl, by simp; omega, by simp, ?_, ⟨o5, fun o ho => ?_, ?_⟩, ((c1.trans' hc14).trans c5 fun k hk h => ?_), fun b hb => ?_⟩
    · rw [List.map_append, hT, List.length_append]
      simp only [List.map_cons, List.map_nil, List.length_cons, List.length_nil, Nat.zero_add]
      rw [List.take_add_one, hya]; rfl
    · rcases List.mem_append.1 ho with ho | ho
      · refine (FT4.dat o ho).ch c5 fun k hk hk2 => ?_
        have hnd := FT.nodup
        rw [hk2] at hnd
        simp only [Option.toList_some, List.singleton_append] at hnd
        exact (List.nodup_cons.1 hnd).1 (List.mem_flatMap.2 ⟨o, ho, by simp [hk]⟩)
      · simp only [List.mem_singleton] at ho
        subst ho
        exact o4.ch c5 fun k hk hk2 => by
          have h1 := hTlt k (by simp [FilesR.bl, hk2])
          have h2 := (hb3 k hk).1
          omega
    · have hnd := FT.nodup
      rw [List.flatMap_append]
      simp only [List.flatMap_cons, List.flatMap_nil, List.append_nil]
      have hrest : ((T.flatMap fun o => o.own.toList) ++ b3.toList).Nodup := by
        refine List.nodup_append.2 ⟨(List.nodup_append.1 hnd).2.1, by cases b3 <;> simp, fun a ha b hb e => ?_⟩
        subst e
        have h1 := hTlt a (List.mem_append.2 (.inr ha))
        have h2 := (hb3 a (by simpa using hb)).1
        omega
      refine List.nodup_append.2 ⟨by cases b'' <;> simp, hrest, fun a ha b hb e => ?_⟩
      subst e
      have ha' : b'' = some a := by simpa using ha
      rcases n5 a ha' with h | h
      · rcases List.mem_append.1 hb with hb | hb
        · rw [h] at hnd
          simp only [Option.toList_some, List.singleton_append] at hnd
          exact (List.nodup_cons.1 hnd).1 hb
        · have h1 := hTlt a (by simp [FilesR.bl, h])
          have h2 := (hb3 a (by simpa using hb)).1
          omega
      · rcases List.mem_append.1 hb with hb | hb
        · have h1 := hTlt a (List.mem_append.2 (.inr hb))
          have := hc14.size
          omega
        · have h2 := (hb3 a (by simpa using hb)).2
          omega
    · have := hnew k (by simp [FilesR.bl, h])
      omega
    · have hz := c1.size
      rcases List.mem_append.1 hb with hb | hb
      · rcases n5 b (by simpa using hb) with h | h
        · exact hnew b (by simp [FilesR.bl, h])
        · have := hc14.size; omega
      · rw [List.flatMap_append] at hb
        rcases List.mem_append.1 hb with hb | hb
        · exact hnew b (List.mem_append.2 (.inr hb))
        · have := (hb3 b (by simpa using hb)).1; omega
  · have hge : T.length = O.length := by have := of_decide_eq_false g; omega
    exact hk q e tb T w1 c1 FT (by rw [hT, List.take_of_length_le (by omega)]) hnew
end Go.Proofs.YtipololccbdojaaGreatDoor
namespace Go.Proofs.YtipololccbdojaaGreatDoor
open Go Go.Sv Go.MapKept
set_option linter.unusedVariables false
set_option maxRecDepth 4000

/-- a file as it is handed in -/
structure FV where
  name : ByteArray
  dat : List UInt8
  safe : Int
  p : Option Addr
  c : Nat
def FV.cells (x : FV) : List Value := [.string x.name, .slice x.p x.dat.length x.c, .int .i64 x.safe]
theorem FV.cells_len (o : FV) : o.cells.length = 3 := rfl
def FV.file (x : FV) : File := ⟨x.name, x.dat, x.safe.toNat⟩
structure FVIn (w : World) (p : Option Addr) (L : List FV) : Prop where
  row : Rd w p L.length 3 (L.flatMap FV.cells)
  dat : ∀ x ∈ L, Rd w x.p x.dat.length 1 (bytesV x.dat)
  nlen : ∀ x ∈ L, x.name.size ≤ 2 ^ 62
  dlen : ∀ x ∈ L, x.dat.length ≤ 2 ^ 40
  tot : (L.map fun x => x.dat.length).sum ≤ 2 ^ 60
  len : L.length < 2 ^ 41
theorem FVIn.ch {S : Nat → Prop} {w w' : World} {p : Option Addr} {L : List FV} (h : FVIn w p L) (hc : Ch S w w') (h1 : ∀ a, p = some a → L.length ≠ 0 → ¬ S a.block) (h2 : ∀ x ∈ L, ∀ a, x.p = some a → x.dat.length ≠ 0 → ¬ S a.block) : FVIn w' p L :=
  ⟨h.row.ch hc fun a ha h0 => h1 a ha (by omega), fun x hx => (h.dat x hx).ch hc fun a ha h0 => h2 x hx a ha (by omega), h.nlen, h.dlen, h.tot, h.len⟩
theorem FVIn.ch0 {w w' : World} {p : Option Addr} {L : List FV} (h : FVIn w p L) (hc : Ch (fun _ => False) w w') : FVIn w' p L := h.ch hc (fun _ _ _ => id) fun _ _ _ _ _ => id
theorem FVIn.at {w : World} {p : Option Addr} {L : List FV} (h : FVIn w p L) {i : Nat} {x : FV} (hi : L[i]? = some x) :
    ∃ b o, p = some ⟨b, o, none⟩ ∧ w.cell? ⟨b, o + i * 3, none⟩ = some (.string x.name) ∧ w.cell? ⟨b, o + i * 3 + 1, none⟩ = some (.slice x.p x.dat.length x.c) ∧ w.cell? ⟨b, o + i * 3 + 2, none⟩ = some (.int .i64 x.safe) := by
  obtain ⟨b, o, hp, hc⟩ := Rd.at FV.cells_len h.row hi (by omega)
  exact ⟨b, o, hp, hc 0 _ rfl, hc 1 _ rfl, hc 2 _ rfl⟩
def hasN (fs : List File) (n : ByteArray) : Bool := fs.any fun f => decide (f.name = n)
def badF (fs : List File) (x : FV) : Prop := hasN fs x.name = true ∨ nameOk x.name = false ∨ x.safe < 0 ∨ (x.dat.length : Int) < x.safe
instance (fs : List File) (x : FV) : Decidable (badF fs x) := inferInstanceAs (Decidable (_ ∨ _ ∨ _ ∨ _))
/-- all files laid in, one by one: none: one of them may not be -/
def addAll : List File → List FV → Option (List File)
  | fs, [] => some fs
  | fs, x :: L => if badF fs x then none else addAll (x.file :: fs) L
theorem addAll_step {fs : List File} {L : List FV} {i : Nat} {x : FV} (hi : L[i]? = some x) : addAll fs (L.drop i) = if badF fs x then none else addAll (x.file :: fs) (L.drop (i + 1)) := by
  obtain ⟨hil, rfl⟩ := List.getElem?_eq_some_iff.1 hi
  rw [List.drop_eq_getElem_cons hil, addAll]
def loadS (room : Int) (L : List FV) : Int × Option AD :=
  if room < 0 ∨ room > 16777216 then (1, none) else match addAll [] L with
  | none => (1, none)
  | some fs => if (total fs : Int) > room then (190, none) else (0, some { newA room with fs := fs })
theorem hasN_perm {fs gs : List File} (h : fs.Perm gs) (n : ByteArray) : hasN fs n = hasN gs n := by
  unfold hasN
  rw [Bool.eq_iff_iff, List.any_eq_true, List.any_eq_true]
  simp only [h.mem_iff]
theorem sum_drop (L : List FV) (i : Nat) (x : FV) (hi : L[i]? = some x) : ((L.drop i).map fun x => x.dat.length).sum = x.dat.length + ((L.drop (i + 1)).map fun x => x.dat.length).sum := by
  obtain ⟨hil, rfl⟩ := List.getElem?_eq_some_iff.1 hi
  rw [List.drop_eq_getElem_cons hil, List.map_cons, List.sum_cons]
/-- a disk's files go in and out -/
theorem layFile_ok {w : World} {d r : Nat} {h : Hd} {L : List PF} {x : PF} {K : World → Prop} (H : DR w d r h L) (hg : x.good w) (hx : x.bl.Nodup) (hb : ∀ b ∈ x.bl, b ∉ blocks d r L) (hn : ∀ y ∈ L, y.f.name ≠ x.f.name)
    (hK : ∀ w', DR w' d r h (x :: L) → Ch (· = r) w w' → K w') :
    runU Tryz.prog (Instr.mapUpdate 97 (.map (some r)) (.string x.f.name) (.pointer (some ⟨x.b, 0, none⟩))) w K := by
  obtain ⟨m, hm, hp⟩ := H.map
  obtain ⟨w', m', h1, h2, h3, h4, h5⟩ := update_run (t := 97) Tryz.underlying97 Tryz.underlying9 hm (k := .string x.f.name) trivial (.pointer (some ⟨x.b, 0, none⟩))
  refine ⟨w', h1, hK w' ?_ h3⟩
  refine H.ins (x := x) h2 ?_ h3 (hg.ch h3 fun b hbm e => hb b hbm (by simp [blocks, e])) hx hb
  rcases h5 with ⟨l1, v0, l2, rfl, _⟩ | ⟨_, rfl⟩
  · exfalso
    obtain ⟨z, hz, he⟩ := List.mem_map.1 (hp.mem_iff.1 (by simp : (Value.string x.f.name, v0) ∈ l1 ++ (.string x.f.name, v0) :: l2))
    simp only [PF.pair, Prod.mk.injEq, Value.string.injEq] at he
    exact hn z hz he.1
  · exact (List.perm_append_singleton _ _).trans (hp.cons _)
theorem newDR_ok {w : World} {room : Int} {K : Value → World → Prop}
    (hno : room < 0 ∨ room > 16777216 → K (.pointer none) w)
    (hk : 0 ≤ room → room ≤ 16777216 → ∀ d r w', DR w' d r (newA room).hd [] → Ch (fun _ => False) w w' → w.heap.size ≤ d → w.heap.size ≤ r → K (.pointer (some ⟨d, 0, none⟩)) w') :
    callP Tryz.prog 17 [.int .i64 room] w K := by
  refine new_ok hno fun h1 h2 d w' B' D c n => ?_
  obtain ⟨wf, r, L, H, hL, rfl⟩ := D
  have : L = [] := by cases L <;> simp [newA] at hL ⊢
  subst this
  exact hk h1 h2 d r w' H c (n d (by simp [blocks])) (n r (by simp [blocks]))
set_option maxHeartbeats 1000000 in
theorem load_ok {w : World} {p : Option Addr} {c : Nat} {L : List FV} {room : Int} {K : Value → World → Prop} (I : FVIn w p L)
    (hno : ∀ e w', loadS room L = (e, none) → Ch (fun _ => False) w w' → K (.tuple #[.pointer none, .int .i64 e]) w')
    (hyes : ∀ a d w' B', loadS room L = (0, some a) → DK w' d a B' → Ch (fun _ => False) w w' → (∀ b, B' b → w.heap.size ≤ b) → K (.tuple #[.pointer (some ⟨d, 0, none⟩), .int .i64 0]) w') :
    callP Tryz.prog 24 [.slice p L.length c, .int .i64 room] w K := by
  refine ok_disk_Load ?_
  unfold wp_disk_Load
  refine newDR_ok (fun h => ⟨_, rfl, Sif_true (hno 1 w (by unfold loadS; rw [if_pos h]) (Ch.refl _ _))⟩) fun hr0 hr1 d r w1 H1 c1 nd nr => ⟨_, rfl, Sif_false ?_⟩
  have hroom : ¬ (room < 0 ∨ room > 16777216) := by omega
  have hlen := I.len
  have htot := I.tot
  have hrd : ∀ w', Ch (fun _ => False) w w' → FVIn w' p L := fun w' h => I.ch0 h
  refine ⟨fun m k w' => ∃ (i : Nat) (F : List PF), k = i ∧ i ≤ L.length ∧ m = L.length - i ∧ DR w' d r { (newA room).hd with used := total (F.map (·.f)) } F ∧ addAll (F.map (·.f)) (L.drop i) = addAll [] L ∧ Ch (fun _ => False) w w' ∧ (∀ b ∈ blocks d r F, w.heap.size ≤ b) ∧
      (total (F.map (·.f)) + ((L.drop i).map fun x => x.dat.length).sum ≤ 2 ^ 60) ∧ (∀ f ∈ F.map (·.f), nameOk f.name = true ∧ f.safe ≤ f.dat.length),
    ⟨L.length, 0, [], rfl, by omega, by omega, H1, rfl, c1, by intro b hb; simp [blocks] at hb; rcases hb with rfl | rfl <;> assumption, by simpa [total] using htot, by simp⟩, ?_⟩
  rintro m k w2 ⟨i, F, rfl, hi, rfl, H2, hadd, c2, hnew, hsum, hwf⟩
  refine Sif_cases (fun g => ?_) fun g => ?_
  · have hlt : i < L.length := by have := of_decide_eq_true g; omega
    have hx : L[i]? = some L[i] := List.getElem?_eq_getElem hlt
    generalize L[i] = x at hx
    have hxm := List.mem_of_getElem? hx
    have hsd := sum_drop L i x hx
    have hstep := addAll_step (fs := F.map (·.f)) hx
    rw [hadd] at hstep
    have bad : badF (F.map (·.f)) x → ∀ w', Ch (fun _ => False) w w' → K (.tuple #[.pointer none, .int .i64 1]) w' := fun h w' hc => by
      refine hno 1 w' ?_ hc
      unfold loadS
      rw [if_neg hroom, hstep, if_pos h]
    refine ⟨fun w' => ∃ F' : List PF, DR w' d r { (newA room).hd with used := total (F'.map (·.f)) } F' ∧ addAll (F'.map (·.f)) (L.drop (i + 1)) = addAll [] L ∧ Ch (fun _ => False) w w' ∧ (∀ b ∈ blocks d r F', w.heap.size ≤ b) ∧
      (total (F'.map (·.f)) + ((L.drop (i + 1)).map fun x => x.dat.length).sum ≤ 2 ^ 60) ∧ (∀ f ∈ F'.map (·.f), nameOk f.name = true ∧ f.safe ≤ f.dat.length), ?_, by omega, by omega, ?_⟩
    · rintro w3 ⟨F', H3, ha3, c3, hn3, hs3, hw3⟩
      rw [wrap_id (by omega) (by omega)]
      exact ⟨L.length - (i + 1), by omega, i + 1, F', by simp, by omega, rfl, H3, ha3, c3, hn3, hs3, hw3⟩
    have I2 := I.ch0 c2
    obtain ⟨kb, ko, rfl, g0, g1, g2⟩ := I2.at hx
    simp only [nn_some, add_at, Int.toNat_natCast, Nat.add_zero]
    refine ⟨_, g0, _, _, _, g1, _, g2, box3 fun w3 b3 c3 z3 => ?_⟩
    simp only [add_at, Nat.zero_add]
    have hc3 := c2.new c3
    have H3 := H2.ch0 c3
    have H3d : DR w3.drew d r _ F := H3.ch0 (Ch.drew w3)
    have b3d : blk w3.drew w2.heap.size = some [.string x.name, .slice x.p x.dat.length x.c, .int .i64 x.safe] := b3
    have hc3d := hc3.new (Ch.drew w3)
    have hdl := I.dlen x hxm
    refine ⟨fun w' => w' = w3.drew ∧ ¬ badF (F.map (·.f)) x, ?_, ?_⟩
    · rintro w4 ⟨rfl, hgood⟩
      have hmf : hasN (F.map (·.f)) x.name = false := by
        cases h : hasN (F.map (·.f)) x.name with
        | false => rfl
        | true => exact absurd (.inl h) hgood
      have hne : ∀ y ∈ F, y.f.name ≠ x.name := fun y hy e => by
        unfold hasN at hmf
        rw [List.any_eq_false] at hmf
        exact hmf y.f (List.mem_map.2 ⟨y, hy, rfl⟩) (by simp [e])
      have hnok : nameOk x.name = true := by
        cases h : nameOk x.name with
        | true => rfl
        | false => exact absurd (.inr (.inl h)) hgood
      have hsf : 0 ≤ x.safe ∧ x.safe ≤ x.dat.length := by
        refine ⟨?_, ?_⟩
        · exact Int.not_lt.1 fun h => hgood (.inr (.inr (.inl h)))
        · exact Int.not_lt.1 fun h => hgood (.inr (.inr (.inr h)))
      generalize hw4 : w3.drew = w4 at *
      have H4 : DR w4.drew d r _ F := H3d.ch0 (Ch.drew w4)
      have b4 : blk w4.drew w2.heap.size = some [.string x.name, .slice x.p x.dat.length x.c, .int .i64 x.safe] := b3d
      have I4 : FVIn w4.drew (some ⟨kb, ko, none⟩) L := I.ch0 (hc3d.new (Ch.drew w4))
      refine ⟨some r, H4.cell 4, _, by rw [cell_blk b4]; rfl, _, _, _, by rw [cell_blk b4]; rfl, _, by rw [cell_blk b4]; rfl, ?_⟩
      refine clone_ok (I4.dat x hxm) (by omega) fun p5 c5 w5 b5 o5 f5 e5 => ⟨_, _, _, rfl, ?_⟩
      have k5 : blk w5 w2.heap.size = some [.string x.name, .slice x.p x.dat.length x.c, .int .i64 x.safe] := by rw [e5.blk (blk_lt b4) id]; exact b4
      have H5 := H4.ch0 e5
      refine ⟨⟨_, by rw [cell_blk k5]; rfl, rfl⟩, ⟨_, by rw [cell_blk k5]; rfl, rfl⟩, ⟨some r, H5.cell 4, rfl⟩, newB_blk fun w6 b6 c6 z6 => ?_⟩
      have k6 : blk w6 w2.heap.size = some [.string x.name, .slice x.p x.dat.length x.c, .int .i64 x.safe] := by rw [c6.blk (blk_lt k5) id]; exact k5
      have H6 := H5.ch0 c6
      refine ⟨⟨_, by rw [cell_blk k6]; rfl, rfl⟩, ⟨some r, H6.cell 4, rfl⟩, ?_⟩
      have hz4 : w3.heap.size = w4.heap.size := by rw [← hw4]; rfl
      have hz4d : w4.drew.heap.size = w4.heap.size := rfl
      have hz5 := e5.size
      have hz2 := c2.size
      have hlt2 := H2.lt
      have hb5 : ∀ k, b5 = some k → w4.heap.size ≤ k ∧ k < w5.heap.size := fun k hk => ⟨by have := f5 k hk; omega, o5.blt k hk⟩
      have hnat : ((x.safe.toNat : Nat) : Int) = x.safe := by omega
      refine layFile_ok (x := { f := x.file, b := w5.heap.size, p := p5, c := c5, own := b5 }) H6 ⟨?_, o5.ch c6 fun _ _ => id⟩ ?_ (fun b hb hin => ?_) (fun y hy => hne y hy) fun w7 H7 c7 => ?_
      · show blk w6 w5.heap.size = some [.slice p5 x.dat.length c5, .int .i64 (x.safe.toNat : Nat)]
        rw [hnat]; exact b6
      · show (w5.heap.size :: b5.toList).Nodup
        cases hb : b5 with
        | none => simp
        | some k => simp; have := (hb5 k hb).2; omega
      · have h1 := H2.lt b hin
        rcases List.mem_cons.1 (show b ∈ w5.heap.size :: b5.toList from hb) with h | h
        · omega
        · have := (hb5 b (by simpa using h)).1; omega
      have H7d : DR w7.drew d r _ _ := H7.ch0 (Ch.drew w7)
      have hr2 : r < w2.heap.size := hlt2 r (by simp [blocks])
      have k7 : blk w7.drew w2.heap.size = some [.string x.name, .slice x.p x.dat.length x.c, .int .i64 x.safe] := by
        show blk w7 _ = _
        rw [c7.blk (blk_lt k6) (by omega)]; exact k6
      refine ⟨_, H7d.cell 3, _, _, _, by rw [cell_blk k7]; rfl, ?_⟩
      refine H7d.st (h' := { (newA room).hd with used := total ((({ f := x.file, b := w5.heap.size, p := p5, c := c5, own := b5 } : PF) :: F).map (·.f)) }) (by omega) ?_ fun w8 H8 c8 z8 => ?_
      · rw [wrap_id (by simp only [Hd.cells]; omega) (by simp only [Hd.cells]; omega)]
        simp [Hd.cells, total, FV.file]
        omega
      · refine ⟨_, H8, ?_, ?_, fun b hb => ?_, ?_, fun f hf => ?_⟩
        · rw [List.map_cons]
          rw [if_neg hgood] at hstep
          exact hstep.symm
        · have hcx : Ch (fun _ => False) w w6 := ((hc3d.new (Ch.drew w4)).new e5).new c6
          refine ((hcx.trans c7 fun k hk h => ?_).new (Ch.drew w7)).trans c8 fun k hk h => ?_
          · have := hnew r (by simp [blocks]); omega
          · have := hnew d (by simp [blocks]); omega
        · rcases mem_blocks.1 hb with h | h | ⟨y, hy, hyb⟩
          · exact hnew b (mem_blocks.2 (.inl h))
          · exact hnew b (mem_blocks.2 (.inr (.inl h)))
          · rcases List.mem_cons.1 hy with rfl | hy
            · rcases List.mem_cons.1 (show b ∈ w5.heap.size :: b5.toList from hyb) with h | h
              · omega
              · have := (hb5 b (by simpa using h)).1
                have := hc3.size
                omega
            · exact hnew b (mem_blocks.2 (.inr (.inr ⟨y, hy, hyb⟩)))
        · rw [List.map_cons, total_cons]
          show x.dat.length + _ + _ ≤ _
          omega
        · rcases List.mem_cons.1 hf with rfl | hf
          · exact ⟨hnok, by show x.safe.toNat ≤ x.dat.length; omega⟩
          · exact hwf f hf
    · refine ⟨some r, H3d.cell 4, _, by rw [cell_blk b3d]; rfl, ?_⟩
      rcases look_ok H3d x.name with ⟨y, hy, hyn, _, hl⟩ | ⟨hno', hl⟩
      · refine ⟨_, _, hl, Sif_cases (fun g4 => by simp at g4) fun _ => bad (.inl ?_) _ hc3d⟩
        unfold hasN
        rw [List.any_eq_true]
        exact ⟨y.f, List.mem_map.2 ⟨y, hy, rfl⟩, by simp [hyn]⟩
      have hhas : hasN (F.map (·.f)) x.name = false := by
        unfold hasN
        rw [List.any_eq_false]
        intro f hf
        obtain ⟨y, hy, rfl⟩ := List.mem_map.1 hf
        simpa using hno' y hy
      refine ⟨_, _, hl, Sif_cases (fun _ => ⟨_, by rw [cell_blk b3d]; rfl, isName_ok (by have := I.nlen x hxm; omega) ⟨_, rfl, ?_⟩⟩) fun g4 => by simp at g4⟩
      refine Sif_cases (fun g5 => ⟨_, by rw [cell_blk b3d]; rfl, Sif_cases (fun g6 => ⟨_, by rw [cell_blk b3d]; rfl, _, _, _, by rw [cell_blk b3d]; rfl, Sif_cases (fun g7 => bad (.inr (.inr (.inr ?_))) _ hc3d) fun g7 => ⟨rfl, ?_⟩⟩) fun g6 => bad (.inr (.inr (.inl ?_))) _ hc3d⟩) fun g5 => bad (.inr (.inl ?_)) _ hc3d
      · have := of_decide_eq_true g7; omega
      · have h5 : nameOk x.name = true := by simpa using g5
        have h6 : ¬ x.safe < 0 := by simpa using g6
        have h7 := of_decide_eq_false g7
        rintro (h | h | h | h)
        · rw [hhas] at h; cases h
        · rw [h5] at h; cases h
        · omega
        · omega
      · simpa using g6
      · simpa using g5
  · have hge : i = L.length := by have := of_decide_eq_false g; omega
    subst hge
    rw [List.drop_length] at hadd
    have hfs : addAll [] L = some (F.map (·.f)) := hadd.symm
    simp only [nn_some, add_at, Nat.zero_add]
    refine ⟨_, H2.cell 3, Sif_cases (fun q => hno 190 w2 ?_ c2) fun q => ?_⟩
    · have h1 : ((total (F.map (·.f)) : Nat) : Int) > room := of_decide_eq_true q
      unfold loadS; rw [if_neg hroom, hfs]; simp only; rw [if_pos (by omega)]
    · have h1 : ¬ ((total (F.map (·.f)) : Nat) : Int) > room := of_decide_eq_false q
      have hl : loadS room L = (0, some { newA room with fs := F.map (·.f) }) := by unfold loadS; rw [if_neg hroom, hfs]; simp only; rw [if_neg (by omega)]
      refine hyes _ d w2 _ hl (DK.of H2 rfl (.refl _) ⟨fun f hf => (hwf f hf).2, by show (total (F.map (·.f)) : Int) ≤ room; omega, hr1, by simp [newA], by simp [newA], fun f hf => (hwf f hf).1⟩) c2 hnew
end Go.Proofs.YtipololccbdojaaGreatDoor
namespace Go.Proofs.YtipololccbdojaaGreatDoor
open Go Go.Sv Go.MapKept
set_option linter.unusedVariables false
set_option maxRecDepth 4000

theorem rnew0_ok {w : World} {room : Int} {K : Value → World → Prop}
    (hno : room < 0 ∨ room > 16777216 → K (.pointer none) w)
    (hk : 0 ≤ room → room ≤ 16777216 → ∀ r w', RK0 w' r (newA room) [] none 0 none → Ch (fun _ => False) w w' → w.heap.size ≤ r → K (.pointer (some ⟨r, 0, none⟩)) w') :
    callP Tryz.prog 63 [.int .i64 room] w K := by
  refine ok_longshoreref19_New ?_
  unfold wp_longshoreref19_New
  refine ⟨fun w' => w' = w ∧ 0 ≤ room ∧ room ≤ 16777216, ?_, Sif_cases (fun g => Sif_cases (fun g2 => ?_) fun g2 => ?_) fun g => ?_⟩
  · rintro w1 ⟨rfl, h1, h2⟩
    refine newB_blk fun w3 b3 c3 z3 => ?_
    exact hk h1 h2 w1.heap.size w3 ⟨⟨0, b3, by simp [newA]⟩, ⟨Ow.nil, by simp, by simp⟩, by simp [FilesR.bl], rfl⟩ c3 (Nat.le_refl _)
  · exact hno (.inr (by have := of_decide_eq_true g2; omega))
  · have h1 : ¬ room < 0 := by simpa using g
    have h2 : ¬ room > 16777216 := of_decide_eq_false g2
    exact ⟨rfl, by omega, by omega⟩
  · have h1 : room < 0 := by simpa using g
    exact hno (.inl h1)
theorem badF_perm {fs gs : List File} (h : fs.Perm gs) (x : FV) : badF fs x ↔ badF gs x := by unfold badF; rw [hasN_perm h]
set_option maxHeartbeats 1000000 in
theorem rload_ok {w : World} {p : Option Addr} {c : Nat} {L : List FV} {room : Int} {K : Value → World → Prop} (I : FVIn w p L)
    (hno : ∀ e w', loadS room L = (e, none) → Ch (fun _ => False) w w' → K (.tuple #[.pointer none, .int .i64 e]) w')
    (hyes : ∀ a r w' B', loadS room L = (0, some a) → RK w' r a.sorted B' → Ch (fun _ => False) w w' → (∀ b, B' b → w.heap.size ≤ b) → K (.tuple #[.pointer (some ⟨r, 0, none⟩), .int .i64 0]) w') :
    callP Tryz.prog 33 [.slice p L.length c, .int .i64 room] w K := by
  refine ok_longshoreref19_Load ?_
  unfold wp_longshoreref19_Load
  refine rnew0_ok (fun h => ⟨_, rfl, Sif_true (hno 1 w (by unfold loadS; rw [if_pos h]) (Ch.refl _ _))⟩) fun hr0 hr1 r w1 R1 c1 nr => ⟨_, rfl, Sif_false ?_⟩
  have hroom : ¬ (room < 0 ∨ room > 16777216) := by omega
  have hlen := I.len
  have htot := I.tot
  refine ⟨fun m k w' => ∃ (i : Nat) (O : List OF) (q : Option Addr) (cc : Nat) (ob : Option Nat) (F : List File), k = i ∧ i ≤ L.length ∧ m = L.length - i ∧ O.length ≤ i ∧ RK0 w' r { newA room with fs := O.map (·.f) } O q cc ob ∧ (O.map (·.f)).Perm F ∧ O.Pairwise ltO ∧ addAll F (L.drop i) = addAll [] L ∧
      Ch (fun _ => False) w w' ∧ (∀ b, rbl r ob O b → w.heap.size ≤ b) ∧ (total F + ((L.drop i).map fun x => x.dat.length).sum ≤ 2 ^ 60),
    ⟨L.length, 0, [], none, 0, none, [], rfl, by omega, by omega, by simp, R1, .refl _, by simp, rfl, c1, by intro b hb; rcases rbl_eq.1 hb with h | h | h; exact h ▸ nr; cases h; simp [dbl] at h, by simpa [total] using htot⟩, ?_⟩
  rintro m k w2 ⟨i, O, q, cc, ob, F, rfl, hi, rfl, hOl, R2, hp, hso, hadd, c2, hnew, hsum⟩
  have hRl := R2.lt
  have htF : total (O.map (·.f)) = total F := total_perm hp
  refine Sif_cases (fun g => ?_) fun g => ?_
  · have hlt : i < L.length := by have := of_decide_eq_true g; omega
    have hx : L[i]? = some L[i] := List.getElem?_eq_getElem hlt
    generalize L[i] = x at hx
    have hxm := List.mem_of_getElem? hx
    have hsd := sum_drop L i x hx
    have hstep := addAll_step (fs := F) hx
    rw [hadd] at hstep
    have bad : badF (O.map (·.f)) x → ∀ w', Ch (fun _ => False) w w' → K (.tuple #[.pointer none, .int .i64 1]) w' := fun h w' hc => by
      refine hno 1 w' ?_ hc
      unfold loadS
      rw [if_neg hroom, hstep, if_pos ((badF_perm hp x).1 h)]
    refine ⟨fun w' => ∃ (O' : List OF) (q' : Option Addr) (cc' : Nat) (ob' : Option Nat) (F' : List File), O'.length ≤ i + 1 ∧ RK0 w' r { newA room with fs := O'.map (·.f) } O' q' cc' ob' ∧ (O'.map (·.f)).Perm F' ∧ O'.Pairwise ltO ∧ addAll F' (L.drop (i + 1)) = addAll [] L ∧
      Ch (fun _ => False) w w' ∧ (∀ b, rbl r ob' O' b → w.heap.size ≤ b) ∧ (total F' + ((L.drop (i + 1)).map fun x => x.dat.length).sum ≤ 2 ^ 60), ?_, by omega, by omega, ?_⟩
    · rintro w3 ⟨O', q', cc', ob', F', h1, h2, h3, h4, h5, h6, h7, h8⟩
      rw [nameI_iff, wrap_id (by omega) (by omega)]
      exact ⟨L.length - (i + 1), by omega, i + 1, O', q', cc', ob', F', by simp, by omega, rfl, h1, h2, h3, h4, h5, h6, h7, h8⟩
    have I2 := I.ch0 c2
    obtain ⟨kb, ko, rfl, g0, g1, g2⟩ := I2.at hx
    simp only [nn_some, add_at, Int.toNat_natCast, Nat.add_zero]
    refine ⟨_, g0, _, _, _, g1, _, g2, box3 fun w3 b3 c3 z3 => ?_⟩
    simp only [add_at, Nat.zero_add]
    have hc3 := c2.new c3
    have R3 := R2.ch c3 fun _ _ => id
    have hdl := I.dlen x hxm
    refine ⟨_, by rw [cell_blk b3]; rfl, rIsName_ok (by have := I.nlen x hxm; omega) ⟨_, rfl, ?_⟩⟩
    refine ⟨fun w' => w' = w3 ∧ ¬ badF (O.map (·.f)) x, ?_, ?_⟩
    · rintro w4 ⟨rfl, hgood⟩
      have hne : ∀ y ∈ O, y.f.name ≠ x.name := fun y hy e => hgood (.inl (by
        unfold hasN
        rw [List.any_eq_true]
        exact ⟨y.f, List.mem_map.2 ⟨y, hy, rfl⟩, by simp [e]⟩))
      have hs0 : 0 ≤ x.safe := Int.not_lt.1 fun h => hgood (.inr (.inr (.inl h)))
      have hnat : ((x.safe.toNat : Nat) : Int) = x.safe := by omega
      have I4 : FVIn w4 (some ⟨kb, ko, none⟩) L := I.ch0 hc3
      refine ⟨_, _, _, by rw [cell_blk b3]; rfl, rcopied_ok (I4.dat x hxm) (by omega) fun p5 c5 w5 b5 o5 f5 e5 => ⟨_, _, _, rfl, ?_⟩⟩
      have k5 : blk w5 w2.heap.size = some [.string x.name, .slice x.p x.dat.length x.c, .int .i64 x.safe] := by rw [e5.blk (blk_lt b3) id]; exact b3
      refine st_blk k5 (by simp) fun w6 b6 c6 z6 => ?_
      simp only [List.set_cons_succ, List.set_cons_zero] at b6
      refine ⟨_, by rw [cell_blk b6]; rfl, _, _, _, by rw [cell_blk b6]; rfl, _, by rw [cell_blk b6]; rfl, ?_⟩
      have hc56 : Ch (fun k => k = w2.heap.size) w4 w6 := (e5.mono fun _ _ h => h.elim).trans' c6
      have hb5 : ∀ k, b5 = some k → w4.heap.size ≤ k ∧ k < w5.heap.size := fun k hk => ⟨f5 k hk, o5.blt k hk⟩
      have hz2 := c2.size
      have R6 := R3.ch hc56 fun b hb e => by have := hRl b hb; omega
      have o6 : Ow w6 p5 x.dat.length c5 1 (bytesV x.dat) b5 := o5.ch c6 fun k hk e => by have := (hb5 k hk).1; omega
      have hput := rput_ok (x := { f := x.file, p := p5, c := c5, own := b5 }) (K := fun v3 w11 => v3 = .tuple #[] ∧ ∃ (O' : List OF) (q' : Option Addr) (cc' : Nat) (ob' : Option Nat) (F' : List File), O'.length ≤ i + 1 ∧ RK0 w11 r { newA room with fs := O'.map (·.f) } O' q' cc' ob' ∧ (O'.map (·.f)).Perm F' ∧ O'.Pairwise ltO ∧ addAll F' (L.drop (i + 1)) = addAll [] L ∧
        Ch (fun _ => False) w w11 ∧ (∀ b, rbl r ob' O' b → w.heap.size ≤ b) ∧ (total F' + ((L.drop (i + 1)).map fun x => x.dat.length).sum ≤ 2 ^ 60)) R6 (by omega) o6 (fun k hk h => by have := hRl k h; have := (hb5 k hk).1; omega) fun p' c' ob' w7 R7 c7 n7 => ?_
      · show callP _ _ [_, .agg #[.string x.name, .slice p5 x.dat.length c5, .int .i64 x.safe]] _ _
        rw [← hnat]; exact hput
      refine ⟨rfl, _, p', c', ob', x.file :: F, ?_, R7, ?_, insO_sort _ _ hso hne, ?_, ?_, fun b hb => ?_, ?_⟩
      · have := (insO_perm { f := x.file, p := p5, c := c5, own := b5 } O).length_eq
        rw [List.length_cons] at this
        omega
      · exact ((insO_perm _ O).map _).trans (hp.cons _)
      · rw [if_neg fun h => hgood ((badF_perm hp x).2 h)] at hstep
        exact hstep.symm
      · refine ((hc3.new e5).trans c6 fun k hk h => by omega).trans c7 fun k hk h => ?_
        have := hnew r (.inl rfl); omega
      · have hz3 := hc3.size
        have hz6 := hc56.size
        rcases rbl_eq.1 hb with h | h | h
        · exact hnew b (rbl_eq.2 (.inl h))
        · have := n7 b h; omega
        · rcases List.mem_append.1 (show b ∈ b5.toList ++ dbl O from (dbl_perm (insO_perm { f := x.file, p := p5, c := c5, own := b5 } O)).mem_iff.1 h) with h | h
          · have := (hb5 b (by simpa using h)).1; omega
          · exact hnew b (rbl_eq.2 (.inr (.inr h)))
      · rw [total_cons]
        show x.dat.length + _ + _ ≤ _
        omega
    · refine Sif_cases (fun g1 => ⟨_, by rw [cell_blk b3]; rfl, rfind_ok R3 (by omega) fun kk hkk => ⟨_, rfl, ?_⟩⟩) fun g1 => bad (.inr (.inl (by simpa using g1))) w3 hc3
      have hnok : nameOk x.name = true := by simpa using g1
      rcases hkk with ⟨j, y, rfl, hy, hyn⟩ | ⟨rfl, hno'⟩
      · refine Sif_cases (fun g4 => ?_) fun _ => bad (.inl ?_) w3 hc3
        · simp at g4
        · unfold hasN
          rw [List.any_eq_true]
          exact ⟨y.f, List.mem_map.2 ⟨y, List.mem_of_getElem? hy, rfl⟩, by simp [hyn]⟩
      have hhas : hasN (O.map (·.f)) x.name = false := by
        unfold hasN
        rw [List.any_eq_false]
        intro f hf
        obtain ⟨y, hy, rfl⟩ := List.mem_map.1 hf
        simpa using hno' y hy
      refine Sif_cases (fun _ => ⟨_, by rw [cell_blk b3]; rfl, Sif_cases (fun g6 => ⟨_, by rw [cell_blk b3]; rfl, _, _, _, by rw [cell_blk b3]; rfl, Sif_cases (fun g7 => bad (.inr (.inr (.inr ?_))) _ hc3) fun g7 => ⟨rfl, ?_⟩⟩) fun g6 => bad (.inr (.inr (.inl ?_))) _ hc3⟩) fun g4 => by simp at g4
      · have := of_decide_eq_true g7; omega
      · have h6 : ¬ x.safe < 0 := by simpa using g6
        have h7 := of_decide_eq_false g7
        rintro (h | h | h | h)
        · rw [hhas] at h; cases h
        · rw [hnok] at h; cases h
        · omega
        · omega
      · simpa using g6
  · have hge : i = L.length := by have := of_decide_eq_false g; omega
    subst hge
    rw [List.drop_length] at hadd hsum
    have hfs : addAll [] L = some F := hadd.symm
    refine rused_ok R2 (by omega) (by show total (O.map (·.f)) ≤ _; rw [htF]; simp at hsum; omega) ⟨_, rfl, ?_⟩
    have e0 : total ({ newA room with fs := O.map (·.f) } : AD).fs = total F := htF
    rw [e0]
    refine Sif_cases (fun q => hno 190 w2 ?_ c2) fun q => ?_
    · have h1 : ((total F : Nat) : Int) > room := of_decide_eq_true q
      unfold loadS; rw [if_neg hroom, hfs]; simp only; rw [if_pos (by omega)]
    · have h1 : ¬ ((total F : Nat) : Int) > room := of_decide_eq_false q
      have hl : loadS room L = (0, some { newA room with fs := F }) := by unfold loadS; rw [if_neg hroom, hfs]; simp only; rw [if_neg (by omega)]
      refine hyes _ r w2 _ hl (RK.fin R2 (by rw [List.pairwise_map]; exact hso) hp rfl) c2 hnew
end Go.Proofs.YtipololccbdojaaGreatDoor
