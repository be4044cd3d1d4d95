/-
  The document's disk: Rename, Read, Files.
-/
import Derived.Test.YtncbmfinndcojaaRefE
namespace Go.Proofs.Ytncbmfinndcojaa
open Go Go.Sv Go.MapKept
set_option linter.unusedVariables false
set_option maxRecDepth 4000

theorem RK0.find {w : World} {r : Nat} {a : AD} {O : List OF} {p : Option Addr} {c : Nat} {ob : Option Nat} (R : RK0 w r a O p c ob) (hs : a.fs.Pairwise ltN) {x : OF} (hx : x ∈ O) {n : ByteArray} (hn : x.f.name = n) : (a.fs.find? fun g => decide (g.name = n)) = some x.f :=
  find_eq (lt_names hs) (R.hO ▸ List.mem_map.2 ⟨x, hx, rfl⟩) hn
theorem RK0.has {w : World} {r : Nat} {a : AD} {O : List OF} {p : Option Addr} {c : Nat} {ob : Option Nat} (R : RK0 w r a O p c ob) {n : ByteArray} : a.has n = true ↔ ∃ x ∈ O, x.f.name = n := by
  unfold AD.has
  rw [← R.hO, List.any_eq_true]
  constructor
  · rintro ⟨f, hf, hfn⟩
    obtain ⟨x, hx, rfl⟩ := List.mem_map.1 hf
    exact ⟨x, hx, by simpa using hfn⟩
  · rintro ⟨x, hx, hxn⟩
    exact ⟨x.f, List.mem_map.2 ⟨x, hx, rfl⟩, by simp [hxn]⟩
theorem filt_name {O : List OF} {x : OF} (hx : x ∈ O) (hnd : ((O.map (·.f)).map (·.name)).Nodup) : O.Perm (x :: O.filter fun o => decide (o.f.name ≠ x.f.name)) := by
  obtain ⟨l1, l2, rfl⟩ := List.append_of_mem hx
  have hne : ∀ y ∈ l1 ++ l2, y.f.name ≠ x.f.name := fun y hy e => by
    have hp : (l1 ++ x :: l2).Perm (x :: (l1 ++ l2)) := List.perm_middle
    have h1 := ((hp.map (·.f)).map (·.name)).nodup_iff.1 hnd
    simp only [List.map_cons] at h1
    exact (List.nodup_cons.1 h1).1 (List.mem_map.2 ⟨y.f, List.mem_map.2 ⟨y, hy, rfl⟩, e⟩)
  have hf : (l1 ++ x :: l2).filter (fun o => decide (o.f.name ≠ x.f.name)) = l1 ++ l2 := by
    rw [List.filter_append, List.filter_cons, if_neg (by simp)]
    rw [List.filter_eq_self.2 fun y hy => by simpa using hne y (List.mem_append.2 (.inl hy)), List.filter_eq_self.2 fun y hy => by simpa using hne y (List.mem_append.2 (.inr hy))]
  rw [hf]
  exact List.perm_middle
set_option maxHeartbeats 1000000 in
theorem rrename_ok {w : World} {r : Nat} {a : AD} {B : Nat → Prop} {n m : ByteArray} {K : Value → World → Prop} (R : RK w r a B) (wf : WF a) (hlen : a.fs.length < 2 ^ 41 - 1) (hkp : -9223372036854775808 ≤ a.keep) (hn : n.size ≤ 9223372036854775807) (hm : m.size ≤ 9223372036854775807)
    (hk : RPost w r (a.rename n m).2 B (K (.int .i64 (a.rename n m).1))) : callP Try.prog 45 [.pointer (some ⟨r, 0, none⟩), .string n, .string m] w K := by
  obtain ⟨⟨O, p, c, ob, R0, rfl⟩, hs⟩ := R
  have hol := R0.len
  refine ok_longshoreref19_Disk_Rename ?_
  unfold wp_longshoreref19_Disk_Rename
  refine rIsName_ok hn ⟨_, rfl, rIsName_ok hm ⟨_, rfl, ?_⟩⟩
  simp only [nn_some, add_at, Nat.zero_add]
  have stay : ∀ (e : Int), a.rename n m = (e, a) → ∀ w', RK0 w' r a O p c ob → Ch (rbl r ob O) w w' → K (.int .i64 e) w' := fun e h w' R' c' => by
    rw [h] at hk
    exact hk w' _ (RK.fin R' hs (.refl _) rfl) c' fun b hb => .inl hb
  have err : ∀ e : Int, e ≠ 0 → a.err [n, m] n = e → a.rename n m = (e, a) := fun e h0 he => by unfold AD.rename; rw [he, if_pos h0]
  refine ⟨_, R0.downC, Sif_cases (fun g => stay 3 (err 3 (by omega) (by unfold AD.err; rw [if_pos g])) w R0 (Ch.refl _ _)) fun g => ?_⟩
  have hbad : (nameOk n && nameOk m) = false → a.err [n, m] n = 1 := fun h => by unfold AD.err; rw [if_neg (by simp [g]), if_pos (by simpa using h)]
  refine Sif_cases (fun g1 => Sif_cases (fun g2 => stay 1 (err 1 (by omega) (hbad ?_)) w R0 (Ch.refl _ _)) fun g2 => ?_) fun g1 => stay 1 (err 1 (by omega) (hbad ?_)) w R0 (Ch.refl _ _)
  · have : nameOk m = false := by simpa using g2
    rw [this]; simp
  rotate_left
  · have : nameOk n = false := by simpa using g1
    rw [this]; simp
  have hok : a.err [n, m] n = if a.has n = false then 191 else 0 := by
    have h1 : nameOk n = true := by simpa using g1
    have h2 : nameOk m = true := by simpa using g2
    unfold AD.err; rw [if_neg (by simp [g]), if_neg (by simp [h1, h2])]
  refine rfind_ok R0 (by omega) fun k hkk => ⟨k, rfl, ?_⟩
  rcases hkk with ⟨i, x, rfl, hx, hxn⟩ | ⟨rfl, hno⟩
  case inr =>
    refine Sif_cases (fun _ => stay 191 (err 191 (by omega) ?_) w R0 (Ch.refl _ _)) fun g3 => by simp at g3
    have : a.has n = false := by
      cases h : a.has n with
      | false => rfl
      | true => obtain ⟨x, hx, hxn⟩ := R0.has.1 h; exact absurd hxn (hno x hx)
    rw [hok, if_pos this]
  refine Sif_cases (fun g3 => by have := of_decide_eq_true g3; omega) fun _ => ?_
  have hil : i < O.length := (List.getElem?_eq_some_iff.1 hx).1
  have hxm := List.mem_of_getElem? hx
  have hhas : a.has n = true := R0.has.2 ⟨x, hxm, hxn⟩
  have hren : a.rename n m = if x.f.safe < x.f.dat.length then (192, a) else a.done fun a => moveF a n m x.f := by
    unfold AD.rename
    rw [hok, if_neg (by simp [hhas] : ¬ a.has n = false), if_neg (by simp), R0.find hs hxm hxn]
  rw [hren] at hk
  obtain ⟨kb, ko, rfl, g0, g1', g2'⟩ := R0.files.rd.at hx
  refine ⟨_, _, _, R0.slice, by omega, by omega, ?_⟩
  simp only [nn_some, add_at, Int.toNat_natCast, Nat.add_zero]
  refine ⟨_, g0, _, _, _, g1', _, g2', box3 fun w1 b1 c1 z1 => ?_⟩
  simp only [add_at, Nat.zero_add]
  have R1 := R0.ch c1 fun _ _ => id
  refine ⟨_, by rw [cell_blk b1]; rfl, _, _, _, by rw [cell_blk b1]; rfl, Sif_cases (fun q => ?_) fun q => ?_⟩
  · rw [if_pos (by have := of_decide_eq_true q; omega)] at hk
    exact hk w1 _ (RK.fin R1 hs (.refl _) rfl) (c1.mono fun _ _ h => h.elim) fun b hb => .inl hb
  rw [if_neg (by have := of_decide_eq_false q; omega)] at hk
  refine rfails_ok R1 wf.acts1 wf.acts2 fun w2 R2 c2 z2 => ⟨_, rfl, Sif_cases (fun q2 => ?_) fun q2 => ?_⟩
  · have h0 : a.acts = 0 := by simpa using q2
    unfold AD.done at hk
    rw [if_pos h0] at hk
    rw [act0 h0] at R2
    have := rdown_ok R2 ((c1.mono fun _ _ h => h.elim : Ch (rbl r ob O) w w1).more c2 fun x hx => .inl hx) hs wf (by omega) hkp hk
    simpa only [nn_some, add_at, Nat.zero_add] using this
  have h0 : a.acts ≠ 0 := by simpa using q2
  unfold AD.done at hk
  rw [if_neg h0] at hk
  have hlt := R0.lt
  have hrl : r < w.heap.size := hlt r (.inl rfl)
  refine rtake_ok R2 (by omega) fun p3 c3' ob3 w3 R3 c3 n3 => ⟨rfl, ?_⟩
  have hl3 := List.length_filter_le (fun o : OF => decide (o.f.name ≠ n)) O
  refine rtake_ok R3 (by omega) fun p4 c4' ob4 w4 R4 c4 n4 => ⟨rfl, ?_⟩
  have hl4 := List.length_filter_le (fun o : OF => decide (o.f.name ≠ m)) (O.filter fun o => decide (o.f.name ≠ n))
  have hc14 : Ch (fun k => k = r) w1 w4 := (c2.trans' c3).trans' c4
  have b4 : blk w4 w.heap.size = some [.string x.f.name, .slice x.p x.f.dat.length x.c, .int .i64 x.f.safe] := by rw [hc14.blk (blk_lt b1) fun e => by omega]; exact b1
  refine st_blk b4 (by simp) fun w5 b5 c5 z5 => ?_
  simp only [List.set_cons_zero] at b5
  refine ⟨_, by rw [cell_blk b5]; rfl, _, _, _, by rw [cell_blk b5]; rfl, _, by rw [cell_blk b5]; rfl, ?_⟩
  have hdn := R0.dn
  have hc5 : Ch (rbl r ob O) w w5 := ((c1.mono fun _ _ h => h.elim : Ch (rbl r ob O) w w1).more hc14 fun x hx => .inl hx).trans c5 fun k hk h => by omega
  have hxo : ∀ k, x.own = some k → k ∈ dbl O := fun k hk => List.mem_flatMap.2 ⟨x, hxm, by simp [hk]⟩
  have hx5 : Ow w5 x.p x.f.dat.length x.c 1 (bytesV x.f.dat) x.own := ((R1.files.dat x hxm).ch hc14 fun k hk e => hdn.2 (e ▸ hxo k hk)).ch c5 fun k hk e => by have := hlt k (rbl_eq.2 (.inr (.inr (hxo k hk)))); omega
  have hs4 : (O.filter fun o => decide (o.f.name ≠ n)).filter (fun o => decide (o.f.name ≠ m)) |>.Sublist O := List.filter_sublist.trans List.filter_sublist
  have R5 := R4.ch c5 fun b hb e => by
    rcases rbl_eq.1 hb with h | h | h
    · omega
    · have := n4 b h; have := ((c2.trans' c3).size); omega
    · have := hlt b (rbl_eq.2 (.inr (.inr ((sub_flat hs4).subset h)))); omega
  have hxp := filt_name hxm (by rw [R0.hO]; exact lt_names hs)
  rw [hxn] at hxp
  have hxnot : ∀ k, x.own = some k → ¬ rbl r ob4 ((O.filter fun o => decide (o.f.name ≠ n)).filter fun o => decide (o.f.name ≠ m)) k := fun k hk h => by
    have hkO := hxo k hk
    have hkl := hlt k (rbl_eq.2 (.inr (.inr hkO)))
    rcases rbl_eq.1 h with h | h | h
    · exact hdn.2 (h ▸ hkO)
    · have := n4 k h; have := ((c2.trans' c3).size); omega
    · have h1 : k ∈ dbl (O.filter fun o => decide (o.f.name ≠ n)) := (sub_flat List.filter_sublist).subset h
      have h2 := (dbl_perm hxp).nodup_iff.1 hdn.1
      exact (List.nodup_append.1 (show (x.own.toList ++ dbl (O.filter fun o => decide (o.f.name ≠ n))).Nodup from h2)).2.2 k (by simp [hk]) k h1 rfl
  refine rput_ok (x := { x with f := { x.f with name := m } }) R5 (by omega) hx5 hxnot fun p6 c6' ob6 w6 R6 c6 n6 => ⟨rfl, ?_⟩
  have hso : O.Pairwise ltO := by rw [← R0.hO, List.pairwise_map] at hs; exact hs
  have hs6 : (insO { x with f := { x.f with name := m } } ((O.filter fun o => decide (o.f.name ≠ n)).filter fun o => decide (o.f.name ≠ m))).Pairwise ltO :=
    insO_sort _ _ (hso.sublist hs4) fun y hy => by simpa using (List.mem_filter.1 hy).2
  have hfs : ((insO { x with f := { x.f with name := m } } ((O.filter fun o => decide (o.f.name ≠ n)).filter fun o => decide (o.f.name ≠ m))).map (·.f)).Perm (moveF a.act n m x.f).fs := by
    refine ((insO_perm _ _).map _).trans ?_
    unfold moveF
    rw [List.map_cons]
    have e1 : ∀ l : List OF, ∀ q : ByteArray, (l.filter fun o => decide (o.f.name ≠ q)).map (·.f) = (l.map (·.f)).filter fun f => decide (f.name ≠ q) := fun l q => by rw [List.filter_map]; rfl
    rw [e1, e1, R0.hO]
    split
    · rename_i hnm
      subst hnm
      have h1 := hxp.map (·.f)
      rw [R0.hO, List.map_cons, e1, R0.hO] at h1
      rw [List.filter_filter]
      simp only [Bool.and_self]
      rw [show ({ x.f with name := n } : File) = x.f by rw [← hxn]]
      exact h1.symm
    · show (_ :: _ : List File).Perm (_ :: _)
      refine List.Perm.cons _ ?_
      rw [List.filter_filter, List.filter_filter]
      refine List.Perm.of_eq ?_
      refine List.filter_congr fun f _ => ?_
      rw [Bool.and_comm]
  refine hk w6 _ (RK.fin R6 (by rw [List.pairwise_map]; exact hs6) hfs ?_) (hc5.more c6 fun x hx => .inl hx) fun b hb => ?_
  · unfold moveF; split <;> rfl
  · rcases rbl_eq.1 hb with h | h | h
    · exact .inl (rbl_eq.2 (.inl h))
    · exact .inr (by have := n6 b h; have := hc5.size; omega)
    · rcases List.mem_append.1 (show b ∈ x.own.toList ++ dbl _ from (dbl_perm (insO_perm { x with f := { x.f with name := m } } _)).mem_iff.1 h) with h | h
      · exact .inl (rbl_eq.2 (.inr (.inr (hxo b (by simpa using h)))))
      · exact .inl (rbl_eq.2 (.inr (.inr ((sub_flat hs4).subset h))))
theorem err_has {a : AD} {n : ByteArray} (h : a.err [n] n = 0) : a.has n = true := by
  rcases a.err_cases n with h1 | h1 | h1 | h1
  · omega
  · omega
  · omega
  · exact h1.2.2
theorem rread_ok {w : World} {r : Nat} {a : AD} {B : Nat → Prop} {n : ByteArray} {K : Value → World → Prop} (R : RK w r a B) (wf : WF a) (hlen : a.fs.length < 2 ^ 41) (hn : n.size ≤ 9223372036854775807)
    (hk : ∀ p c b w', let l := if a.err [n] n = 0 then a.get n else []
      Ch (fun _ => False) w w' → Ow w' p l.length c 1 (bytesV l) b → (∀ k, b = some k → w.heap.size ≤ k) → K (.tuple #[.slice p l.length c, .int .i64 (a.err [n] n)]) w') :
    callP Try.prog 47 [.pointer (some ⟨r, 0, none⟩), .string n] w K := by
  obtain ⟨⟨O, p, c, ob, R0, rfl⟩, hs⟩ := R
  have hol := R0.small hlen
  have htot := wf.tot
  refine ok_longshoreref19_Disk_Read ?_
  unfold wp_longshoreref19_Disk_Read
  refine rasked_ok R0 (by omega) hn ⟨_, rfl, Sif_cases (fun g => ?_) fun g => ?_⟩
  · have g' : a.err [n] n ≠ 0 := by simpa using g
    have := hk none 0 none w
    simp only [if_neg g'] at this
    exact this (Ch.refl _ _) Ow.nil fun k hk => by cases hk
  have he : a.err [n] n = 0 := by simpa using g
  obtain ⟨x0, hx0, hxn0⟩ := R0.has.1 (err_has he)
  refine rfind_ok R0 (by omega) fun k hkk => ⟨k, rfl, ?_⟩
  rcases hkk with ⟨i, x, rfl, hx, hxn⟩ | ⟨rfl, hno⟩
  case inr => exact absurd hxn0 (hno x0 hx0)
  have hxm := List.mem_of_getElem? hx
  have hil : i < O.length := (List.getElem?_eq_some_iff.1 hx).1
  obtain ⟨kb, ko, rfl, g0, g1, g2⟩ := R0.files.rd.at hx
  simp only [nn_some, add_at, Nat.zero_add]
  refine ⟨_, _, _, R0.slice, by omega, by omega, ?_⟩
  simp only [nn_some, add_at, Int.toNat_natCast, Nat.add_zero]
  have hxt := dat_le_total (R0.hO ▸ List.mem_map.2 ⟨x, hxm, rfl⟩ : x.f ∈ a.fs)
  refine ⟨_, _, _, g1, rcopied_ok (R0.files.dat x hxm).rd (by omega) fun p4 c4 w4 b4 o4 f4 e4 => ⟨_, _, _, rfl, ?_⟩⟩
  have hget : a.get n = x.f.dat := by unfold AD.get; rw [R0.find hs hxm hxn]; rfl
  have := hk p4 c4 b4 w4
  simp only [if_pos he, hget] at this
  rw [he] at this
  exact this e4 o4 f4
set_option maxHeartbeats 1000000 in
/-- all files, in memory of their own -/
theorem rfiles_ok {w : World} {r : Nat} {a : AD} {B : Nat → Prop} {K : Value → World → Prop} (R : RK w r a B) (hdat : ∀ f ∈ a.fs, f.dat.length ≤ 2 ^ 46) (hlen : a.fs.length < 2 ^ 41)
    (hk : ∀ p c ob O w', Ch (fun _ => False) w w' → FilesR w' p c ob O → O.map (·.f) = a.fs → (∀ b ∈ FilesR.bl ob O, w.heap.size ≤ b) → K (.slice p O.length c) w') :
    callP Try.prog 20 [.pointer (some ⟨r, 0, none⟩)] w K := by
  obtain ⟨⟨O, p, c, ob, R0, rfl⟩, hs⟩ := R
  have hol := R0.len
  have hlt := R0.lt
  refine ok_longshoreref19_Disk_Files ?_
  unfold wp_longshoreref19_Disk_Files
  refine ⟨fun m q t e k w' => ∃ (T : List OF) (tb : Option Nat), k = (T.length : Int) ∧ t = T.length ∧ T.length ≤ O.length ∧ m = O.length - T.length ∧ T.map (·.f) = a.fs.take T.length ∧ FilesR w' q e tb T ∧ Ch (fun _ => False) w w' ∧ (∀ b ∈ FilesR.bl tb T, w.heap.size ≤ b),
    ⟨O.length, [], none, rfl, rfl, by simp, by simp, by simp, ⟨Ow.nil, by simp, by simp⟩, Ch.refl _ _, by simp [FilesR.bl]⟩, ?_⟩
  rintro m q t e k w1 ⟨T, tb, rfl, rfl, hTl, rfl, hT, FT, c1, hnew⟩
  have R1 := R0.ch c1 fun _ _ => id
  simp only [nn_some, add_at, Nat.zero_add]
  refine ⟨_, _, _, R1.slice, Sif_cases (fun g => ?_) fun g => ?_⟩
  · have hlt1 : T.length < O.length := by have := of_decide_eq_true g; omega
    have hy : O[T.length]? = some (O[T.length]'hlt1) := List.getElem?_eq_getElem hlt1
    generalize O[T.length]'hlt1 = y at hy
    have hym := List.mem_of_getElem? hy
    have hyf : y.f ∈ a.fs := R0.hO ▸ List.mem_map.2 ⟨y, hym, rfl⟩
    have hya : a.fs[T.length]? = some y.f := by rw [← R0.hO, List.getElem?_map, hy]; rfl
    obtain ⟨yb, yo, rfl, g0, g1, g2⟩ := R1.files.rd.at hy
    refine ⟨_, _, _, R1.slice, by omega, by omega, ?_⟩
    simp only [nn_some, add_at, Int.toNat_natCast, Nat.add_zero]
    refine ⟨_, g0, _, _, _, g1, _, g2, box3 fun w2 b2 c2 z2 => ?_⟩
    simp only [add_at, Nat.zero_add]
    have R2 := R1.ch c2 fun _ _ => id
    refine ⟨_, _, _, by rw [cell_blk b2]; rfl, rcopied_ok (R2.files.dat y hym).rd (hdat _ hyf) fun p3 c3' w3 b3 o3 f3 e3 => ⟨_, _, _, rfl, ?_⟩⟩
    have b2' : blk w3 w1.heap.size = some [.string y.f.name, .slice y.p y.f.dat.length y.c, .int .i64 y.f.safe] := by rw [e3.blk (blk_lt b2) id]; exact b2
    refine st_blk b2' (by simp) fun w4 b4 c4 z4 => ?_
    simp only [List.set_cons_succ, List.set_cons_zero] at b4
    refine ⟨_, by rw [cell_blk b4]; rfl, _, _, _, by rw [cell_blk b4]; rfl, _, by rw [cell_blk b4]; rfl, ?_⟩
    have hc14 : Ch (fun _ => False) w1 w4 := (c2.new e3).trans c4 fun k hk h => by omega
    have hTlt := FT.lt
    have FT4 := FT.ch hc14 fun _ _ => id
    have o4 := o3.ch c4 fun k hk e => by have := f3 k hk; omega
    refine pushF FT4.row { f := y.f, p := p3, c := c3', own := b3 } (by omega) fun p' c' b'' w5 o5 n5 c5 => ?_
    rw [nameI_iff, wrap_id (by omega) (by omega)]
    have hb3 : ∀ k, b3 = some k → w1.heap.size ≤ k ∧ k < w4.heap.size := fun k hk => ⟨by have := f3 k hk; omega, o4.blt k hk⟩
    refine ⟨O.length - (T.length + 1), by omega, T ++ [{ f := y.f, p := p3, c := c3', own := b3 }], b'', by simp, rfl, by simp; omega, by simp, ?_, ⟨o5, fun o ho => ?_, ?_⟩, ((c1.trans' hc14).trans c5 fun k hk h => ?_), fun b hb => ?_⟩
    · rw [List.map_append, hT, List.length_append]
      simp only [List.map_cons, List.map_nil, List.length_cons, List.length_nil, Nat.zero_add]
      rw [List.take_add_one, hya]; rfl
    · rcases List.mem_append.1 ho with ho | ho
      · refine (FT4.dat o ho).ch c5 fun k hk hk2 => ?_
        have hnd := FT.nodup
        rw [hk2] at hnd
        simp only [Option.toList_some, List.singleton_append] at hnd
        exact (List.nodup_cons.1 hnd).1 (List.mem_flatMap.2 ⟨o, ho, by simp [hk]⟩)
      · simp only [List.mem_singleton] at ho
        subst ho
        exact o4.ch c5 fun k hk hk2 => by
          have h1 := hTlt k (by simp [FilesR.bl, hk2])
          have h2 := (hb3 k hk).1
          omega
    · have hnd := FT.nodup
      rw [List.flatMap_append]
      simp only [List.flatMap_cons, List.flatMap_nil, List.append_nil]
      have hrest : ((T.flatMap fun o => o.own.toList) ++ b3.toList).Nodup := by
        refine List.nodup_append.2 ⟨(List.nodup_append.1 hnd).2.1, by cases b3 <;> simp, fun a ha b hb e => ?_⟩
        subst e
        have h1 := hTlt a (List.mem_append.2 (.inr ha))
        have h2 := (hb3 a (by simpa using hb)).1
        omega
      refine List.nodup_append.2 ⟨by cases b'' <;> simp, hrest, fun a ha b hb e => ?_⟩
      subst e
      have ha' : b'' = some a := by simpa using ha
      rcases n5 a ha' with h | h
      · rcases List.mem_append.1 hb with hb | hb
        · rw [h] at hnd
          simp only [Option.toList_some, List.singleton_append] at hnd
          exact (List.nodup_cons.1 hnd).1 hb
        · have h1 := hTlt a (by simp [FilesR.bl, h])
          have h2 := (hb3 a (by simpa using hb)).1
          omega
      · rcases List.mem_append.1 hb with hb | hb
        · have h1 := hTlt a (List.mem_append.2 (.inr hb))
          have := hc14.size
          omega
        · have h2 := (hb3 a (by simpa using hb)).2
          omega
    · have := hnew k (by simp [FilesR.bl, h])
      omega
    · have hz := c1.size
      rcases List.mem_append.1 hb with hb | hb
      · rcases n5 b (by simpa using hb) with h | h
        · exact hnew b (by simp [FilesR.bl, h])
        · have := hc14.size; omega
      · rw [List.flatMap_append] at hb
        rcases List.mem_append.1 hb with hb | hb
        · exact hnew b (List.mem_append.2 (.inr hb))
        · have := (hb3 b (by simpa using hb)).1; omega
  · have hge : T.length = O.length := by have := of_decide_eq_false g; omega
    exact hk q e tb T w1 c1 FT (by rw [hT, List.take_of_length_le (by omega)]) hnew
end Go.Proofs.Ytncbmfinndcojaa
