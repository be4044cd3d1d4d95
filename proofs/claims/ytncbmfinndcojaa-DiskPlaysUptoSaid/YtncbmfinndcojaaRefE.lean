/-
  The document's disk: Sync, Delete, Append, Rename, Read, Files: they do what the program's do.
-/
import Derived.Test.YtncbmfinndcojaaRefD
namespace Go.Proofs.Ytncbmfinndcojaa
open Go Go.Sv Go.MapKept
set_option linter.unusedVariables false
set_option maxRecDepth 4000

theorem set_upd {O : List OF} {i : Nat} {x x' : OF} {n : ByteArray} {g : File → File} (hi : O[i]? = some x) (hn : x.f.name = n) (hnd : ((O.map (·.f)).map (·.name)).Nodup) (hx : x'.f = g x.f) : (O.set i x').map (·.f) = (O.map (·.f)).map fun f => if f.name = n then g f else f := by
  rw [set_split hi]
  have hO : O = O.take i ++ x :: O.drop (i + 1) := split_at hi
  have hne : ∀ y ∈ O.take i ++ O.drop (i + 1), y.f.name ≠ n := fun y hy e => by
    have hp : O.Perm (x :: (O.take i ++ O.drop (i + 1))) := by
      conv => lhs; rw [hO]
      exact List.perm_middle
    have h1 := ((hp.map (·.f)).map (·.name)).nodup_iff.1 hnd
    simp only [List.map_cons] at h1
    exact (List.nodup_cons.1 h1).1 (List.mem_map.2 ⟨y.f, List.mem_map.2 ⟨y, hy, rfl⟩, by rw [e, hn]⟩)
  conv => rhs; rw [hO]
  simp only [List.map_append, List.map_cons, List.map_map]
  have e1 : ∀ l : List OF, (∀ y ∈ l, y.f.name ≠ n) → l.map (·.f) = l.map ((fun f => if f.name = n then g f else f) ∘ fun x => x.f) := fun l hl => List.map_congr_left fun y hy => by simp [hl y hy]
  rw [e1 (O.take i) fun y hy => hne y (List.mem_append.2 (.inl hy)), e1 (O.drop (i + 1)) fun y hy => hne y (List.mem_append.2 (.inr hy)), if_pos hn, hx]
theorem set_dbl {O : List OF} {i : Nat} {x x' : OF} (hi : O[i]? = some x) {n : Nat} (h : ∀ k, x'.own = some k → x.own = some k ∨ n ≤ k) : ∀ k, k ∈ dbl (O.set i x') → k ∈ dbl O ∨ n ≤ k := fun k hk => by
  rcases List.mem_append.1 ((dbl_set hi).mem_iff.1 hk) with h1 | h1
  · rcases h k (by simpa using h1) with h2 | h2
    · exact .inl ((dbl_at hi).mem_iff.2 (List.mem_append.2 (.inl (by simp [h2]))))
    · exact .inr h2
  · exact .inl ((dbl_at hi).mem_iff.2 (List.mem_append.2 (.inr h1)))
theorem RK0.nm {w : World} {r : Nat} {a : AD} {O : List OF} {p : Option Addr} {c : Nat} {ob : Option Nat} (R : RK0 w r a O p c ob) (hs : a.fs.Pairwise ltN) : ((O.map (·.f)).map (·.name)).Nodup := by rw [R.hO]; exact lt_names hs
/-- the next act fails: the fall -/
theorem rdown_ok {w w1 : World} {r : Nat} {a : AD} {O : List OF} {p : Option Addr} {c : Nat} {ob : Option Nat} {K : Value → World → Prop} (R : RK0 w1 r a O p c ob) (hc : Ch (rbl r ob O) w w1) (hs : a.fs.Pairwise ltN) (wf : WF a) (hlen : a.fs.length < 2 ^ 41) (hk1 : -9223372036854775808 ≤ a.keep)
    (hk : RPost w r (a.fall a.keep) (rbl r ob O) (K (.int .i64 3))) :
    nn (some ⟨r, 0, none⟩) fun a1 => ∃ n1 : Int, w1.cell? (a1.add 5) = some (.int .i64 n1) ∧ callP Try.prog 69 [.pointer (some ⟨r, 0, none⟩), .int .i64 n1] w1 fun v2 w3 => v2 = .tuple #[] ∧ K (.int .i64 3) w3 := by
  simp only [nn_some, add_at, Nat.zero_add]
  refine ⟨_, R.keepC, rfall_ok R (R.small hlen) wf hk1 fun w' R' c' z' => ⟨rfl, hk w' _ (RK.fin R' (ltN_map (fun _ => rfl) hs) (.refl _) rfl) (hc.trans' c') fun b hb => .inl ?_⟩⟩
  rw [rbl_map (g := cutO a.keep) fun _ => rfl] at hb; exact hb
theorem act0 {a : AD} (h : a.acts = 0) : a.act = a := by unfold AD.act actsN; rw [h]; cases a; simp at h; subst h; rfl
theorem rsync_ok {w : World} {r : Nat} {a : AD} {B : Nat → Prop} {n : ByteArray} {K : Value → World → Prop} (R : RK w r a B) (wf : WF a) (hlen : a.fs.length < 2 ^ 41) (hkp : -9223372036854775808 ≤ a.keep) (hn : n.size ≤ 9223372036854775807)
    (hk : RPost w r (a.sync n).2 B (K (.int .i64 (a.sync n).1))) : callP Try.prog 44 [.pointer (some ⟨r, 0, none⟩), .string n] w K := by
  obtain ⟨⟨O, p, c, ob, R0, rfl⟩, hs⟩ := R
  have hol := R0.small hlen
  refine ok_longshoreref19_Disk_Sync ?_
  unfold wp_longshoreref19_Disk_Sync
  refine rasked_ok R0 (by omega) hn ⟨_, rfl, Sif_cases (fun g => ?_) fun g => ?_⟩
  · have hsy : a.sync n = (a.err [n] n, a) := by unfold AD.sync; rw [if_pos (by simpa using g)]
    rw [hsy] at hk
    exact hk w _ (RK.fin R0 hs (.refl _) rfl) (Ch.refl _ _) fun b hb => .inl hb
  have he : a.err [n] n = 0 := by simpa using g
  have hsy : a.sync n = a.done fun a => a.upd n sealF := by unfold AD.sync; rw [if_neg (by omega)]
  rw [hsy] at hk
  refine rfails_ok R0 wf.acts1 wf.acts2 fun w1 R1 c1 z1 => ⟨_, rfl, Sif_cases (fun q => ?_) fun q => ?_⟩
  · have h0 : a.acts = 0 := by simpa using q
    unfold AD.done at hk
    rw [if_pos h0] at hk
    rw [act0 h0] at R1
    exact rdown_ok R1 (c1.mono fun x _ hx => .inl hx) hs wf hlen hkp hk
  have h0 : a.acts ≠ 0 := by simpa using q
  unfold AD.done at hk
  rw [if_neg h0] at hk
  refine rfind_ok R1 (by omega) fun k hkk => ⟨k, rfl, ?_⟩
  rcases hkk with ⟨i, x, rfl, hx, hxn⟩ | ⟨rfl, hno⟩
  · have hil : i < O.length := (List.getElem?_eq_some_iff.1 hx).1
    have R1d : RK0 w1.drew r a.act O p c ob := R1.ch (Ch.drew (S := fun _ => False) w1) fun _ _ => id
    obtain ⟨kb, ko, rfl, g0, g1, g2⟩ := R1d.files.rd.at hx
    simp only [nn_some, add_at, Nat.zero_add]
    refine ⟨_, _, _, R1d.slice, _, _, _, R1d.slice, by omega, by omega, ?_⟩
    simp only [nn_some, add_at, Int.toNat_natCast, Nat.add_zero]
    refine ⟨_, _, _, g1, by omega, by omega, ?_⟩
    obtain ⟨kb', ko', e1, hob, hst⟩ := R1d.stEl (j := 2) (x' := { x with f := sealF x.f }) (v := .int .i64 (x.f.dat.length : Int)) hx (by omega) rfl (R1d.files.dat x (List.mem_of_getElem? hx)) fun k hk => .inl hk
    cases e1
    refine hst _ fun w2 R2 c2 z2 => ?_
    have hfs : (O.set i { x with f := sealF x.f }).map (·.f) = (a.act.upd n sealF).fs := by
      rw [set_upd (x' := { x with f := sealF x.f }) (g := sealF) hx hxn (R0.nm hs) rfl, R0.hO]; rfl
    have hkb : rbl r ob O kb := rbl_eq.2 (.inr (.inl hob))
    refine hk w2 _ (RK.fin R2 (by rw [hfs]; exact ltN_map (fun f => by split <;> rfl) hs) (by rw [hfs]) (by rw [hfs]; rfl)) (((c1.mono fun x _ hx => .inl hx).trans' (Ch.drew w1)).more c2 fun x hx => by rw [hx]; exact hkb) fun b hb => ?_
    exact rbl_sub (fun k hk => .inl hk) (set_dbl (x' := { x with f := sealF x.f }) hx (n := w.heap.size) fun k hk => .inl hk) b hb
  · exfalso
    have h3 : a.has n = false := by
      unfold AD.has
      rw [← R0.hO, List.any_eq_false]
      intro f hf
      obtain ⟨x, hx, rfl⟩ := List.mem_map.1 hf
      simpa using hno x hx
    unfold AD.err at he
    rw [h3] at he
    revert he
    split
    · omega
    · split
      · omega
      · simp
theorem rdelete_ok {w : World} {r : Nat} {a : AD} {B : Nat → Prop} {n : ByteArray} {K : Value → World → Prop} (R : RK w r a B) (wf : WF a) (hlen : a.fs.length < 2 ^ 41) (hkp : -9223372036854775808 ≤ a.keep) (hn : n.size ≤ 9223372036854775807)
    (hk : RPost w r (a.delete n).2 B (K (.int .i64 (a.delete n).1))) : callP Try.prog 46 [.pointer (some ⟨r, 0, none⟩), .string n] w K := by
  obtain ⟨⟨O, p, c, ob, R0, rfl⟩, hs⟩ := R
  have hol := R0.small hlen
  refine ok_longshoreref19_Disk_Delete ?_
  unfold wp_longshoreref19_Disk_Delete
  refine rasked_ok R0 (by omega) hn ⟨_, rfl, Sif_cases (fun g => ?_) fun g => ?_⟩
  · have hsy : a.delete n = (a.err [n] n, a) := by unfold AD.delete; rw [if_pos (by simpa using g)]
    rw [hsy] at hk
    exact hk w _ (RK.fin R0 hs (.refl _) rfl) (Ch.refl _ _) fun b hb => .inl hb
  have he : a.err [n] n = 0 := by simpa using g
  have hsy : a.delete n = a.done fun a => a.gone n := by unfold AD.delete; rw [if_neg (by omega)]
  rw [hsy] at hk
  refine rfails_ok R0 wf.acts1 wf.acts2 fun w1 R1 c1 z1 => ⟨_, rfl, Sif_cases (fun q => ?_) fun q => ?_⟩
  · have h0 : a.acts = 0 := by simpa using q
    unfold AD.done at hk
    rw [if_pos h0] at hk
    rw [act0 h0] at R1
    exact rdown_ok R1 (c1.mono fun x _ hx => .inl hx) hs wf hlen hkp hk
  have h0 : a.acts ≠ 0 := by simpa using q
  unfold AD.done at hk
  rw [if_neg h0] at hk
  refine rtake_ok R1 (by omega) fun p' c' ob' w2 R2 c2 hn2 => ⟨rfl, ?_⟩
  refine hk w2 _ (RK.fin R2 (hs.sublist List.filter_sublist) (.refl _) rfl) ((c1.mono fun x _ hx => .inl hx).more c2 fun x hx => .inl hx) (rbl_sub (fun k hk => .inr (by have := hn2 k hk; omega)) fun k hk => .inl ((sub_flat List.filter_sublist).subset hk))
set_option maxHeartbeats 1000000 in
theorem rappend_ok {w : World} {r : Nat} {a : AD} {B : Nat → Prop} {n : ByteArray} {b : Option Addr} {bn bc : Nat} {l : List UInt8} {K : Value → World → Prop} (R : RK w r a B) (wf : WF a) (hlen : a.fs.length < 2 ^ 41 - 1) (hkp : -9223372036854775808 ≤ a.keep) (hn : n.size ≤ 9223372036854775807)
    (hb : Rd w b bn 1 (bytesV l)) (hbl : bn ≤ 2 ^ 62) (hbB : ∀ p, b = some p → bn ≠ 0 → ¬ B p.block)
    (hk : RPost w r (a.append n l).2 B (K (.int .i64 (a.append n l).1))) : callP Try.prog 43 [.pointer (some ⟨r, 0, none⟩), .string n, .slice b bn bc] w K := by
  obtain ⟨⟨O, p, c, ob, R0, rfl⟩, hs⟩ := R
  have hol := R0.len
  have htot := wf.tot
  have hln : l.length = bn := by have := hb.1; simpa using this
  refine ok_longshoreref19_Disk_Append ?_
  unfold wp_longshoreref19_Disk_Append
  refine rasked_ok R0 (by omega) hn ⟨_, rfl, ?_⟩
  have stay : a.append n l = (a.err [n] n, a) → K (.int .i64 (a.err [n] n)) w := fun h => by
    rw [h] at hk
    exact hk w _ (RK.fin R0 hs (.refl _) rfl) (Ch.refl _ _) fun b hb => .inl hb
  refine ⟨fun w' => w' = w ∧ a.err [n] n ≠ 3 ∧ a.err [n] n ≠ 1, ?_, Sif_cases (fun g => Sif_cases (fun g2 => stay ?_) fun g2 => ⟨rfl, by simpa using g, by simpa using g2⟩) fun g => stay ?_⟩
  rotate_left
  · unfold AD.append; rw [if_pos (.inr (by simpa using g2))]
  · unfold AD.append; rw [if_pos (.inl (by simpa using g))]
  rintro w1 ⟨rfl, he3, he1⟩
  have happ : a.append n l = if (l.length : Int) > a.room - total a.fs then (190, a) else if a.acts = 0 then (3, ((a.more n).act.upd n (growF l)).fall a.keep) else (0, (a.more n).act.upd n (growF l)) := by
    unfold AD.append; rw [if_neg (by omega)]
  rw [happ] at hk
  have R0d : RK0 w1.drew r a O p c ob := R0.ch (Ch.drew (S := fun _ => False) w1) fun _ _ => id
  simp only [nn_some, add_at, Nat.zero_add]
  refine ⟨_, R0d.roomC, rused_ok R0d (by omega) (by omega) ⟨_, rfl, ⟨_, R0d.roomC, rfl⟩, ?_⟩⟩
  rw [wrap_id (by omega) (by omega)]
  refine Sif_cases (fun g => ?_) fun g => ?_
  · rw [if_pos (by have := of_decide_eq_true g; omega)] at hk
    exact hk _ _ (RK.fin R0d hs (.refl _) rfl) (Ch.drew _) fun b hb => .inl hb
  have hroom := of_decide_eq_false g
  rw [if_neg (by omega)] at hk
  refine rfails_ok R0d wf.acts1 wf.acts2 fun w2 R2 c2 z2 => ⟨_, rfl, ?_⟩
  have hc2 : Ch (rbl r ob O) w1 w2 := (Ch.drew w1).trans' (c2.mono fun x _ hx => .inl hx)
  have hz2 : w2.heap.size = w1.heap.size := z2
  have hmr := a.more_rest n
  -- the file stands there, made if need be
  refine ⟨fun w' => ∃ (O1 : List OF) (p1 : Option Addr) (c1 : Nat) (ob1 : Option Nat), RK0 w' r { a.act with fs := O1.map (·.f) } O1 p1 c1 ob1 ∧ (O1.map (·.f)).Perm (a.more n).fs ∧ (O1.map (·.f)).Pairwise ltN ∧ (∃ x ∈ O1, x.f.name = n) ∧ Ch (rbl r ob O) w1 w' ∧
      (∀ k, rbl r ob1 O1 k → rbl r ob O k ∨ w1.heap.size ≤ k), ?_, Sif_cases (fun g => ?_) fun g => ?_⟩
  rotate_left
  · have he : a.err [n] n = 191 := by simpa using g
    have hno : ∀ x ∈ O, x.f.name ≠ n := fun x hx e => by
      rcases a.err_cases n with h | h | h | h
      · omega
      · omega
      · have h3 := h.2.2
        unfold AD.has at h3
        rw [← R0.hO, List.any_eq_false] at h3
        exact h3 x.f (List.mem_map.2 ⟨x, hx, rfl⟩) (by simp [e])
      · omega
    have hm : (a.more n).fs = ⟨n, [], 0⟩ :: a.fs := by unfold AD.more; rw [if_pos he]
    refine rput_ok (x := { f := ⟨n, [], 0⟩, p := none, c := 0, own := none }) R2 (by omega) Ow.nil (fun k hk => by cases hk) fun p1 c1 ob1 w3 R3 c3 n3 => ⟨rfl, _, p1, c1, ob1, R3, ?_, ?_, ?_, ?_, ?_⟩
    · rw [hm, ← R0.hO]; exact (insO_perm _ O).map _
    · rw [List.pairwise_map]
      have hso : O.Pairwise ltO := by rw [← R0.hO, List.pairwise_map] at hs; exact hs
      exact insO_sort _ O hso hno
    · exact ⟨_, (insO_perm _ O).mem_iff.2 (List.mem_cons_self ..), rfl⟩
    · exact hc2.more c3 fun x hx => .inl hx
    · refine rbl_sub (fun k hk => .inr (by have := n3 k hk; omega)) fun k hk => .inl ?_
      have := (dbl_perm (insO_perm _ O)).mem_iff.1 hk
      simpa [dbl] using this
  · have he : a.err [n] n ≠ 191 := by simpa using g
    have hm : (a.more n).fs = a.fs := by unfold AD.more; rw [if_neg he]
    refine ⟨O, p, c, ob, ?_, by rw [hm, R0.hO], by rw [R0.hO]; exact hs, ?_, hc2, fun k hk => .inl hk⟩
    · have : ({ a.act with fs := O.map (·.f) } : AD) = a.act := by rw [R0.hO]; rfl
      rw [this]; exact R2
    · rcases a.err_cases n with h | h | h | h
      · omega
      · omega
      · omega
      · have h3 := h.2.2
        unfold AD.has at h3
        rw [← R0.hO, List.any_eq_true] at h3
        obtain ⟨f, hf, hfn⟩ := h3
        obtain ⟨x, hx, rfl⟩ := List.mem_map.1 hf
        exact ⟨x, hx, by simpa using hfn⟩
  rintro w3 ⟨O1, p1, c1, ob1, R3, hp1, hs1, ⟨y, hy, hyn⟩, hc3, hb3⟩
  have hnd1 := lt_names hs1
  have hl1 : O1.length ≤ O.length + 1 := by
    have h1 := hp1.length_eq
    rw [List.length_map] at h1
    have h2 : (a.more n).fs.length ≤ a.fs.length + 1 := by unfold AD.more; split <;> simp
    omega
  refine rfind_ok R3 (by omega) fun k hkk => ⟨k, rfl, ?_⟩
  rcases hkk with ⟨i, x, rfl, hx, hxn⟩ | ⟨rfl, hno⟩
  case inr => exact absurd hyn (hno y hy)
  have hil : i < O1.length := (List.getElem?_eq_some_iff.1 hx).1
  have hxm := List.mem_of_getElem? hx
  obtain ⟨kb, ko, rfl, g0, g1, g2⟩ := R3.files.rd.at hx
  refine ⟨_, _, _, R3.slice, by omega, by omega, ?_⟩
  simp only [nn_some, add_at, Int.toNat_natCast, Nat.add_zero]
  have hxt : x.f.dat.length ≤ total a.fs := by
    have h1 : x.f ∈ O1.map (·.f) := List.mem_map.2 ⟨x, hxm, rfl⟩
    have h2 := dat_le_total h1
    rw [total_perm hp1, hmr.2.2.2.2] at h2
    exact h2
  have hroom2 : bn ≤ 2 ^ 24 := by have := wf.room; omega
  refine ⟨_, _, _, g1, rcopied_ok (R3.files.dat x hxm).rd (by omega) fun p4 c4 w4 b4 o4 f4 e4 => ⟨_, _, _, rfl, ?_⟩⟩
  have R4 := R3.ch e4 fun _ _ => id
  have R4d : RK0 w4.drew r _ O1 _ c1 ob1 := R4.ch (Ch.drew (S := fun _ => False) w4) fun _ _ => id
  refine ⟨_, _, _, R4d.slice, ?_⟩
  have hc4 : Ch (rbl r ob O) w1 w4.drew := (hc3.new e4).new (Ch.drew w4)
  have hbr : Rd w4.drew b bn 1 (bytesV l) := hb.ch hc4 fun q hq h0 => hbB q hq (by omega)
  obtain ⟨p5, c5, w5, b5, r1, r2, r3, r4, _⟩ := append_rd (ty := 31) (c2 := bc) Try.underlying31 Try.underlying31 byte_info rfl (o4.ch (Ch.drew (S := fun _ => False) w4) fun _ _ => id) hbr (bytesV_one l) (by omega) (by omega)
  have hlt3 := R3.lt
  have hsz3 := hc3.size
  have hsz4 := e4.size
  have hb4n : ∀ k, b4 = some k → ¬ rbl r ob1 O1 k := fun k hk h => by have := f4 k hk; have := hlt3 k h; omega
  have R5 : RK0 w5 r _ O1 _ c1 ob1 := R4d.ch r4 fun k hk h => hb4n k h hk
  have hc5 : Ch (rbl r ob O) w1 w5 := hc4.trans r4 fun k hk h => by have := f4 k h; omega
  refine ⟨p5, _, c5, w5, r1, ⟨_, _, _, R5.slice, rfl⟩, by omega, by omega, ?_⟩
  have hown5 : ∀ k, b5 = some k → w3.heap.size ≤ k := fun k hk => by
    rcases r3 k hk with h | h
    · exact f4 k h
    · have : w4.drew.heap.size = w4.heap.size := rfl
      omega
  have hgl : (x.f.dat ++ l).length = x.f.dat.length + bn := by simp [hln]
  obtain ⟨kb', ko', e1, hob, hst⟩ := R5.stEl (j := 1) (x' := { f := growF l x.f, p := p5, c := c5, own := b5 }) (v := .slice p5 (x.f.dat.length + bn) c5) hx (by omega) (by simp [OF.cells, growF, hln])
    (by show Ow w5 p5 (x.f.dat ++ l).length c5 1 (bytesV (x.f.dat ++ l)) b5; rw [hgl, bytesV_append]; exact r2) fun k hk => .inr fun h => by have := hown5 k hk; have := hlt3 k h; omega
  cases e1
  simp only [nn_some, add_at, Int.toNat_natCast, Nat.add_zero]
  refine hst _ fun w6 R6 c6 z6 => ?_
  have hfs : (O1.set i { f := growF l x.f, p := p5, c := c5, own := b5 }).map (·.f) = (O1.map (·.f)).map fun f => if f.name = n then growF l f else f := set_upd hx hxn hnd1 rfl
  have hkb : rbl r ob O kb ∨ w1.heap.size ≤ kb := hb3 kb (rbl_eq.2 (.inr (.inl hob)))
  have hc6 : Ch (rbl r ob O) w1 w6 := hc5.trans c6 fun k hk h => by subst h; exact hkb.resolve_right (by omega)
  have hb6 : ∀ k, rbl r ob1 (O1.set i { f := growF l x.f, p := p5, c := c5, own := b5 }) k → rbl r ob O k ∨ w1.heap.size ≤ k := fun k hk => by
    rcases rbl_sub (fun k hk => .inl hk) (set_dbl hx (n := w1.heap.size) fun k hk => .inr (by have := hown5 k hk; omega)) k hk with h | h
    · exact hb3 k h
    · exact .inr h
  rw [hfs] at R6
  have hs6 : ((O1.map (·.f)).map fun f => if f.name = n then growF l f else f).Pairwise ltN := ltN_map (fun f => by split <;> rfl) hs1
  have hp6 : ((O1.map (·.f)).map fun f => if f.name = n then growF l f else f).Perm ((a.more n).act.upd n (growF l)).fs := hp1.map _
  refine Sif_cases (fun q => ?_) fun q => ?_
  · have h0 : a.acts = 0 := by simpa using q
    rw [if_pos h0] at hk
    have wf6 : WF { a.act with fs := (O1.map (·.f)).map fun f => if f.name = n then growF l f else f } := by
      have wa := wf.act
      refine ⟨fun f hf => ?_, ?_, wf.room, wa.acts1, wa.acts2, fun f hf => ?_⟩
      · obtain ⟨g, hg, rfl⟩ := List.mem_map.1 hf
        have hgm := hp1.mem_iff.1 hg
        have : g.safe ≤ g.dat.length := by
          unfold AD.more at hgm; split at hgm
          · rcases List.mem_cons.1 hgm with rfl | h
            · simp
            · exact wf.safe g h
          · exact wf.safe g hgm
        split
        · simp [growF]; omega
        · exact this
      · have h1 : total ((O1.map (·.f)).map fun f => if f.name = n then growF l f else f) = total a.fs + l.length := by
          have h2 : (O1.set i { f := growF l x.f, p := p5, c := c5, own := b5 }).map (·.f) = _ := hfs
          rw [← h2, set_split hx]
          have h3 : total (O1.map (·.f)) = total a.fs := by rw [total_perm hp1, hmr.2.2.2.2]
          have h4 : O1.map (·.f) = (O1.take i).map (·.f) ++ x.f :: (O1.drop (i + 1)).map (·.f) := by
            conv => lhs; rw [split_at hx]
            simp
          rw [h4] at h3
          simp [total, growF] at h3 ⊢
          omega
        show (total _ : Int) ≤ a.room
        rw [h1]; omega
      · obtain ⟨g, hg, rfl⟩ := List.mem_map.1 hf
        have hgm := hp1.mem_iff.1 hg
        have : nameOk g.name = true := by
          unfold AD.more at hgm; split at hgm
          · rename_i h191
            rcases List.mem_cons.1 hgm with rfl | h
            · rcases a.err_cases n with h | h | h | h
              · omega
              · omega
              · exact h.2.1
              · omega
            · exact wf.names g h
          · exact wf.names g hgm
        split <;> exact this
    have hk2 : RPost w1 r (AD.fall { a.act with fs := (O1.map (·.f)).map fun f => if f.name = n then growF l f else f } a.keep) (rbl r ob O) (K (.int .i64 3)) := fun w' B' R' c' n' => by
      refine hk w' B' ?_ c' n'
      have e : (((a.more n).act.upd n (growF l)).fall a.keep).sorted = (AD.fall { a.act with fs := (O1.map (·.f)).map fun f => if f.name = n then growF l f else f } a.keep).sorted := by
        have h1 : (AD.fall { a.act with fs := (O1.map (·.f)).map fun f => if f.name = n then growF l f else f } a.keep).fs.Perm (((a.more n).act.upd n (growF l)).fall a.keep).fs := hp6.map _
        have h2 := sort_unique h1 (ltN_map (fun _ => rfl) hs6)
        have h3 := sort_unique (.refl _) (ltN_map (g := cutF a.keep) (fun _ => rfl) hs6)
        simp only [AD.sorted]
        rw [h2]
        simp only [AD.fall, AD.upd, AD.act] at h3 ⊢
        rw [h3]
        simp [hmr.1, hmr.2.2.2.1]
      rw [e]; exact R'
    refine ⟨_, R6.keepC, rfall_ok R6 (by simp; omega) wf6 hkp fun w' R' c' z' => ⟨rfl, hk2 w' _ (RK.fin R' (ltN_map (fun _ => rfl) hs6) (.refl _) rfl) (hc6.trans c' fun k hk h => (hb6 k h).resolve_right (by omega)) fun b hb => ?_⟩⟩
    rw [rbl_map (g := cutO a.act.keep) fun _ => rfl] at hb
    exact hb6 b hb
  · have h0 : a.acts ≠ 0 := by simpa using q
    rw [if_neg h0] at hk
    exact hk w6 _ (RK.fin R6 hs6 hp6 (by simp only [AD.upd, AD.act]; simp [hmr.1, hmr.2.1, hmr.2.2.1, hmr.2.2.2.1])) hc6 hb6
end Go.Proofs.Ytncbmfinndcojaa
