/-
  Rename does what is said.
-/
import Derived.Test.YtncbmfinndcojaaDiskH
namespace Go.Proofs.Ytncbmfinndcojaa
open Go Go.Sv Go.MapKept
set_option linter.unusedVariables false
set_option maxRecDepth 4000

def moveF (a : AD) (from_ to : ByteArray) (f : File) : AD := if from_ = to then a else { a with fs := { f with name := to } :: (a.fs.filter fun g => decide (g.name ≠ to)).filter fun g => decide (g.name ≠ from_) }
def AD.rename (a : AD) (from_ to : ByteArray) : Int × AD :=
  if a.err [from_, to] from_ ≠ 0 then (a.err [from_, to] from_, a)
  else match a.fs.find? fun f => decide (f.name = from_) with
    | none => (0, a)
    | some f => if f.safe < f.dat.length then (192, a) else a.done fun a => moveF a from_ to f
theorem find_eq {fs : List File} (hn : (fs.map (·.name)).Nodup) {f : File} (hf : f ∈ fs) {n : ByteArray} (hx : f.name = n) : (fs.find? fun g => decide (g.name = n)) = some f := by
  cases h : fs.find? fun g => decide (g.name = n) with
  | none => exact absurd (List.find?_eq_none.1 h f hf) (by simp [hx])
  | some g =>
    have h1 : g.name = n := by simpa using List.find?_some h
    rw [inj_of_nodup hn (List.mem_of_find?_eq_some h) hf (h1.trans hx.symm)]
/-- a file is laid under a name that no other has -/
theorem lay_ok {w : World} {d r : Nat} {h : Hd} {x : PF} {R : List PF} {to : ByteArray} {K : World → Prop} (H : DR w d r h (x :: R)) (hne : x.f.name ≠ to) (hn : ∀ y ∈ R, y.f.name ≠ to)
    (hK : ∀ w', blk w' d = some (h.cells r) → (∃ m, Mp .string w' r m ∧ m.Perm ((.string to, .pointer (some ⟨x.b, 0, none⟩)) :: (x :: R).map PF.pair)) → (∀ y ∈ x :: R, y.good w') → Ch (· = r) w w' → K w') :
    runU Try.prog (Instr.mapUpdate 66 (.map (some r)) (.string to) (.pointer (some ⟨x.b, 0, none⟩))) w K := by
  obtain ⟨m, hm, hp⟩ := H.map
  obtain ⟨w', m', h1, h2, h3, h4, h5⟩ := update_run (t := 66) Try.underlying66 Try.underlying9 hm (k := .string to) trivial (.pointer (some ⟨x.b, 0, none⟩))
  have hnd := H.nodup
  unfold blocks at hnd
  obtain ⟨n1, n2⟩ := List.nodup_cons.1 hnd
  obtain ⟨n3, n4⟩ := List.nodup_cons.1 n2
  refine ⟨w', h1, hK w' ?_ ⟨m', h2, ?_⟩ (fun y hy => (H.files y hy).ch h3 fun b hb e => n3 (by subst e; exact List.mem_flatMap.2 ⟨y, hy, hb⟩)) h3⟩
  · rw [h3.blk (blk_lt H.head) fun e => n1 (by rw [e]; simp)]; exact H.head
  · rcases h5 with ⟨l1, v0, l2, rfl, _⟩ | ⟨_, rfl⟩
    · exfalso
      obtain ⟨z, hz, he⟩ := List.mem_map.1 (hp.mem_iff.1 (by simp : (Value.string to, v0) ∈ l1 ++ (.string to, v0) :: l2))
      simp only [PF.pair, Prod.mk.injEq, Value.string.injEq] at he
      rcases List.mem_cons.1 hz with rfl | hz
      · exact hne he.1
      · exact hn z hz he.1
    · exact (List.perm_append_singleton _ _).trans (hp.cons _)
/-- .. and its old name goes -/
theorem unlay_ok {w : World} {d r : Nat} {h : Hd} {x : PF} {R : List PF} {to : ByteArray} (hb : blk w d = some (h.cells r)) (hm : ∃ m, Mp .string w r m ∧ m.Perm ((.string to, .pointer (some ⟨x.b, 0, none⟩)) :: (x :: R).map PF.pair))
    (hg : ∀ y ∈ x :: R, y.good w) (hnd : (blocks d r (x :: R)).Nodup) {ty : TypeId} :
    ∃ w', (Builtin.delete_ #[66, 9] ty #[.map (some r), .string x.f.name]).run Try.prog w = .ok (.tuple #[]) w' ∧ DR w' d r h ({ x with f := { x.f with name := to } } :: R) ∧ Ch (· = r) w w' := by
  obtain ⟨m, hm, hp⟩ := hm
  obtain ⟨w', m', h1, h2, h3, _, h4⟩ := delete_run (ty := ty) Try.underlying66 Try.underlying9 hm (k := .string x.f.name) trivial
  have hnd' := hnd
  unfold blocks at hnd'
  obtain ⟨n1, n2⟩ := List.nodup_cons.1 hnd'
  obtain ⟨n3, n4⟩ := List.nodup_cons.1 n2
  refine ⟨w', h1, ⟨?_, ⟨m', h2, ?_⟩, fun y hy => ?_, ?_⟩, h3⟩
  · rw [h3.blk (blk_lt hb) fun e => n1 (by rw [e]; simp)]; exact hb
  · rcases h4 with ⟨l1, v0, l2, rfl, rfl⟩ | ⟨h4, _⟩
    · have hp1 : ((.string to, .pointer (some ⟨x.b, 0, none⟩)) :: (x :: R).map PF.pair : List (Value × Value)).Perm (x.pair :: (.string to, .pointer (some ⟨x.b, 0, none⟩)) :: R.map PF.pair) := List.Perm.swap _ _ _
      have hpp : ((.string x.f.name, v0) :: (l1 ++ l2) : List (Value × Value)).Perm (x.pair :: (.string to, .pointer (some ⟨x.b, 0, none⟩)) :: R.map PF.pair) := (List.perm_middle.symm.trans hp).trans hp1
      have hnm := ((hp.trans hp1).map Prod.fst).nodup_iff.1 hm.nodup
      have hv : (Value.string x.f.name, v0) = x.pair := by
        rcases List.mem_cons.1 (hpp.mem_iff.1 (List.mem_cons_self ..)) with e | e
        · exact e
        · exfalso
          simp only [List.map_cons] at hnm
          have e2 := List.mem_map_of_mem (f := Prod.fst) e
          exact (List.nodup_cons.1 hnm).1 e2
      rw [hv] at hpp
      exact hpp.cons_inv
    · exact absurd rfl (h4 x.pair (hp.mem_iff.2 (by simp)))
  · have hk : ∀ z : PF, (∃ z' ∈ x :: R, z'.bl = z.bl) → z.good w → z.good w' := fun z ⟨z', hz', hbl⟩ hgz => hgz.ch h3 fun b hb' e => n3 (by subst e; exact List.mem_flatMap.2 ⟨z', hz', hbl ▸ hb'⟩)
    rcases List.mem_cons.1 hy with rfl | hy
    · exact hk _ ⟨x, by simp, rfl⟩ (hg x (by simp))
    · exact hk y ⟨y, by simp [hy], rfl⟩ (hg y (by simp [hy]))
  · exact hnd
set_option maxHeartbeats 2000000 in
theorem rename_ok {w : World} {d : Nat} {a : AD} {B : Nat → Prop} {n m : ByteArray} {K : Value → World → Prop} (D : DK w d a B) (hs : n.size ≤ 9223372036854775807) (hs2 : m.size ≤ 9223372036854775807)
    (hk : Post w d (a.rename n m).2 B (K (.int .i64 (a.rename n m).1))) :
    callP Try.prog 28 [.pointer (some ⟨d, 0, none⟩), .string n, .string m] w K := by
  obtain ⟨wf, r, L, H, hL, rfl⟩ := D
  have htot := wf.tot
  have hlt := H.lt
  have hdlt : d < w.heap.size := hlt d (by simp [blocks])
  have hrlt : r < w.heap.size := hlt r (by simp [blocks])
  refine ok_disk_Disk_Rename ?_
  unfold wp_disk_Disk_Rename
  refine newB_blk fun v1 p1 e1 y1 => newB_blk fun v2 p2 e2 y2 => newB_blk fun v3 p3 e3 y3 => ?_
  have pa0 : blk v3 w.heap.size = some [.pointer (some ⟨d, 0, none⟩)] := by rw [(e2.new e3).blk (blk_lt p1) id]; exact p1
  have pn0 : blk v3 v1.heap.size = some [.string n] := by rw [e3.blk (blk_lt p2) id]; exact p2
  refine ⟨some ⟨d, 0, none⟩, by rw [cell_blk pa0]; rfl, ?_⟩
  simp only [nn_some, add_at]
  refine (((H.ch0 e1).ch0 e2).ch0 e3).lock rfl fun w1 H1 c1 z1 => ⟨rfl, ?_⟩
  have keepD : ∀ {u u' : World} {k : Nat} {cs : List Value}, w.heap.size ≤ k → blk u k = some cs → Ch (· = d) u u' → blk u' k = some cs := fun hk hb hc => by rw [hc.blk (blk_lt hb) (by omega)]; exact hb
  have pa1 := keepD (Nat.le_refl _) pa0 c1
  have pn1 := keepD (by omega) pn0 c1
  have pm1 := keepD (by omega) p3 c1
  refine ⟨some ⟨d, 0, none⟩, by rw [cell_blk pa1]; rfl, ?_⟩
  simp only [nn_some, add_at]
  refine ⟨some ⟨d, 0, none⟩, by rw [cell_blk pa1]; rfl, n, by rw [cell_blk pn1]; rfl, m, by rw [cell_blk pm1]; rfl, newB_blk fun w2 b2 c2 z2 => ?_⟩
  refine of_ok (H1.ch0 c2) (ns := [n, m]) rfl ⟨rfl, .inr ⟨w1.heap.size, 0, _, rfl, blk_cells b2, by simp, rfl⟩⟩ (fun s hs' => by simp at hs'; rcases hs' with rfl | rfl <;> assumption) (by simp) fun q e w3 c3 z3 ho => ?_
  obtain ⟨he, he0, _⟩ := ofR_err (a := a) rfl hL ho
  refine ⟨q, e, rfl, newB_blk fun w4 b4 c4 z4 => ?_⟩
  simp only [add_at]
  refine st_blk b4 (by simp) fun w5 b5 c5 z5 => ?_
  have hz2 : w.heap.size + 3 ≤ w1.heap.size := by omega
  have hz3 : w1.heap.size < w3.heap.size := by omega
  have hc1 : Ch (· ∈ blocks d r L) w w1 := (((e1.mono fun _ _ h => h.elim).new e2).new e3).more c1 in_d
  have hc5 : Ch (· ∈ blocks d r L) w w5 := (((hc1.new c2).new c3).new c4).trans c5 fun x hx e => by omega
  have c15 : Ch (· = w3.heap.size) w1 w5 := (((c2.mono fun _ _ h => h.elim).new c3).new c4).trans' c5
  have H5 : DR w5 d r { a.hd with lk := 1 } L := (((H1.ch0 c2).ch0 c3).ch0 c4).ch c5 fun b hb e => by have := hlt b hb; omega
  have pa5 : blk w5 w.heap.size = some [.pointer (some ⟨d, 0, none⟩)] := by rw [c15.blk (blk_lt pa1) (by omega)]; exact pa1
  have pn5 : blk w5 v1.heap.size = some [.string n] := by rw [c15.blk (blk_lt pn1) (by omega)]; exact pn1
  have pm5 : blk w5 v2.heap.size = some [.string m] := by rw [c15.blk (blk_lt pm1) (by omega)]; exact pm1
  refine Sif_cases (fun g => ?_) fun g => ?_
  · have g' : e ≠ 0 := by simpa using g
    have hsy : a.rename n m = (e, a) := by unfold AD.rename; rw [← he, if_pos g']
    rw [hsy] at hk
    refine H5.unlock rfl fun w6 H6 c6 z6 => ?_
    exact hk w6 _ (DK.of H6 rfl (by rw [hL]) wf) (hc5.more c6 in_d) fun b hb => .inl hb
  · have g' : e = 0 := by simpa using g
    obtain ⟨x, hx, hxn, rfl⟩ := he0 g'
    have hxf : x.f ∈ a.fs := hL ▸ List.mem_map.2 ⟨x, hx, rfl⟩
    have hnm : (a.fs.map (·.name)).Nodup := by rw [← hL, List.map_map]; exact H.names
    have hsy : a.rename n m = if x.f.safe < x.f.dat.length then (192, a) else a.done fun a => moveF a n m x.f := by
      unfold AD.rename; rw [← he, if_neg (by omega), find_eq hnm hxf hxn]
    have H5d : DR w5.drew d r { a.hd with lk := 1 } L := H5.ch0 (Ch.drew w5)
    have hc5d := hc5.new (Ch.drew w5)
    have hg := H5d.files x hx
    refine ⟨some ⟨x.b, 0, none⟩, by rw [World.cell?_drew, cell_blk b5]; rfl, ?_⟩
    simp only [nn_some, add_at]
    refine ⟨x.f.safe, by rw [cell_blk hg.1]; rfl, some ⟨x.b, 0, none⟩, by rw [World.cell?_drew, cell_blk b5]; rfl, ?_⟩
    simp only [nn_some, add_at]
    refine ⟨x.p, x.f.dat.length, x.c, by rw [cell_blk hg.1]; rfl, Sif_cases (fun gs => ?_) fun gs => ?_⟩
    · have gs' : x.f.safe < x.f.dat.length := by have := of_decide_eq_true gs; omega
      rw [hsy, if_pos gs'] at hk
      refine H5d.unlock rfl fun w6 H6 c6 z6 => ?_
      exact hk w6 _ (DK.of H6 rfl (by rw [hL]) wf) (hc5d.more c6 in_d) fun b hb => .inl hb
    · have gs' : ¬ x.f.safe < x.f.dat.length := by have := of_decide_eq_false gs; omega
      rw [hsy, if_neg gs'] at hk
      refine ⟨some ⟨d, 0, none⟩, by rw [World.cell?_drew, cell_blk pa5]; rfl, ?_⟩
      refine done_ok H5d (fun x hx => wf.safe x.f (hL ▸ List.mem_map.2 ⟨x, hx, rfl⟩)) (by rw [hL]; omega) wf.acts1 wf.acts2 (fun ha L' w' H' hp c6 hbl => ⟨3, rfl, ?_⟩) fun ha w' H' c6 z6 => ?_
      · have ha' : a.acts = 0 := ha
        unfold AD.done at hk
        rw [if_pos ha'] at hk
        rw [hL] at hp
        refine H'.unlock rfl fun w7 H7 c7 z7 => ?_
        exact hk w7 _ (DK.of H7 (by simp only [AD.hd, AD.fall]; rw [total_perm hp]; rfl) hp (wf.fall a.keep)) ((hc5d.more c6 fun _ hx => hx).more c7 in_d) fun b hb => (hbl b hb).imp id fun h => by have := hc5d.size; omega
      · have ha' : a.acts ≠ 0 := ha
        unfold AD.done at hk
        rw [if_neg ha'] at hk
        have hc6 := hc5d.more c6 in_d
        have pa6 := keepD (Nat.le_refl _) ((blk_drew w5 _).trans pa5) c6
        have pn6 := keepD (by omega) ((blk_drew w5 _).trans pn5) c6
        have pm6 := keepD (by omega) ((blk_drew w5 _).trans pm5) c6
        have pf6 := keepD (by omega) ((blk_drew w5 _).trans b5) c6
        refine callV_unit (by kernel_rfl) (ok_disk_Disk_Rename_1 ?_)
        unfold wp_disk_Disk_Rename_1
        simp only [nn_some]
        refine ⟨n, by rw [cell_blk pn6]; rfl, m, by rw [cell_blk pm6]; rfl, Sif_cases (fun gn => ?_) fun gn => ?_⟩
        · have hne : n ≠ m := fun e => by subst e; simp at gn
          refine ⟨some ⟨d, 0, none⟩, by rw [cell_blk pa6]; rfl, m, by rw [cell_blk pm6]; rfl, ?_⟩
          refine gone_ok H' (by rw [hL]; rfl) (by rw [hL]; omega) fun L' w7 H7 hf hsub c7 => ⟨rfl, ?_⟩
          rw [hL] at hf
          have keepR : ∀ {u u' : World} {k : Nat} {cs : List Value}, w.heap.size ≤ k → blk u k = some cs → Ch (fun b => b = d ∨ b = r) u u' → blk u' k = some cs := fun hk hb hc => by rw [hc.blk (blk_lt hb) (by omega)]; exact hb
          have pa7 := keepR (Nat.le_refl _) pa6 c7
          have pn7 := keepR (by omega) pn6 c7
          have pm7 := keepR (by omega) pm6 c7
          have pf7 := keepR (by omega) pf6 c7
          have hxL : x ∈ L' := by
            have h1 : x.f ∈ L'.map (·.f) := by rw [hf]; exact List.mem_filter.2 ⟨hxf, by simp [hxn, hne]⟩
            obtain ⟨z, hz, hzf⟩ := List.mem_map.1 h1
            rw [← inj_of_nodup H.names (hsub z hz) hx (by rw [hzf])]; exact hz
          obtain ⟨l1, l2, hsp⟩ := List.append_of_mem hxL
          have hpm : L'.Perm (x :: (l1 ++ l2)) := hsp ▸ List.perm_middle
          have H7p := (H7.ch0 (Ch.drew w7)).perm hpm
          have hRn : ∀ y ∈ l1 ++ l2, y.f.name ≠ m ∧ y.f.name ≠ n := fun y hy => by
            have hyL : y ∈ L' := hpm.mem_iff.2 (List.mem_cons_of_mem _ hy)
            refine ⟨?_, fun e => ?_⟩
            · have h1 : y.f ∈ L'.map (·.f) := List.mem_map.2 ⟨y, hyL, rfl⟩
              rw [hf] at h1
              simpa using (List.mem_filter.1 h1).2
            · have h2 := H7p.names
              simp only [List.map_cons] at h2
              exact (List.nodup_cons.1 h2).1 (by rw [hxn, ← e]; exact List.mem_map.2 ⟨y, hy, rfl⟩)
          refine ⟨some ⟨d, 0, none⟩, by rw [World.cell?_drew, cell_blk pa7]; rfl, ?_⟩
          simp only [nn_some, add_at]
          refine ⟨some r, H7p.cell 4, m, by rw [World.cell?_drew, cell_blk pm7]; rfl, some ⟨x.b, 0, none⟩, by rw [World.cell?_drew, cell_blk pf7]; rfl, ?_⟩
          refine lay_ok H7p (by rw [hxn]; exact hne) (fun y hy => (hRn y hy).1) fun w8 hb8 hm8 hg8 c8 => ?_
          have keep8 : ∀ {k : Nat} {cs : List Value}, w.heap.size ≤ k → blk w7 k = some cs → blk w8 k = some cs := fun hk hb => by rw [c8.blk (blk_lt hb) (by omega)]; exact hb
          refine ⟨some ⟨d, 0, none⟩, by rw [World.cell?_drew, cell_blk (keep8 (Nat.le_refl _) pa7)]; rfl, ?_⟩
          simp only [nn_some, add_at]
          refine ⟨some r, by rw [World.cell?_drew, cell_blk hb8]; rfl, n, by rw [World.cell?_drew, cell_blk (keep8 (by omega) pn7)]; rfl, ?_⟩
          obtain ⟨w9, hr9, H9, c9⟩ := unlay_ok (w := w8.drew) (to := m) (ty := 0) hb8 hm8 (fun y hy => (hg8 y hy).ch (Ch.drew (S := fun _ => False) w8) fun _ _ => id) H7p.nodup
          rw [hxn] at hr9
          refine ⟨w9, hr9, trivial, 0, rfl, ?_⟩
          refine H9.unlock rfl fun w10 H10 c10 z10 => ?_
          have hmv : moveF a.act n m x.f = { a.act with fs := { x.f with name := m } :: (a.fs.filter fun g => decide (g.name ≠ m)).filter fun g => decide (g.name ≠ n) } := by unfold moveF; rw [if_neg hne]; rfl
          have hp1 : ((a.fs.filter fun g => decide (g.name ≠ m)).filter fun g => decide (g.name ≠ n)).Perm ((l1 ++ l2).map (·.f)) := by
            rw [← hf]
            refine ((hpm.map (·.f)).filter _).trans ?_
            rw [List.map_cons, List.filter_cons]
            simp only [hxn, ne_eq, not_true_eq_false, decide_false, Bool.false_eq_true, if_false]
            rw [List.filter_eq_self.2]
            intro f hf2
            obtain ⟨y, hy, rfl⟩ := List.mem_map.1 hf2
            simpa using (hRn y hy).2
          have htt : total (L'.map (·.f)) = x.f.dat.length + total ((l1 ++ l2).map (·.f)) := by rw [total_perm (hpm.map _), List.map_cons, total_cons]
          have htf : total (L'.map (·.f)) ≤ total a.fs := by rw [hf]; exact total_filter _ _
          have hnok : nameOk m = true := by
            have h1 := (ok_of_err (he ▸ g' : a.err [n, m] n = 0)).2.1
            have h2 := List.all_eq_true.1 h1 m (by simp)
            exact h2
          simp only [hmv] at hk
          have hc10 : Ch (· ∈ blocks d r L) w w10 := (((((hc6.more c7 fun b hb => hb.elim (in_d b) (in_r b)).new (Ch.drew w7)).more c8 in_r).new (Ch.drew w8)).more c9 in_r).more c10 in_d
          refine hk w10 _ (DK.of H10 ?_ ?_ ?_) hc10 fun b hb => ?_
          · show Hd.mk _ _ _ _ _ _ = Hd.mk _ _ _ _ _ _
            have : total ({ x.f with name := m } :: (a.fs.filter fun g => decide (g.name ≠ m)).filter fun g => decide (g.name ≠ n)) = total (L'.map (·.f)) := by
              rw [total_cons, total_perm hp1, htt]
            show Hd.mk 0 a.room (total (L'.map (·.f)) : Nat) a.down (actsN a.acts) a.keep = Hd.mk 0 a.room (total ({ x.f with name := m } :: _) : Nat) a.down (actsN a.acts) a.keep
            rw [this]
          · exact (hp1.symm.cons _)
          · refine ⟨fun f hf2 => ?_, ?_, wf.room, wf.act.acts1, wf.act.acts2, fun f hf2 => ?_⟩
            · rcases List.mem_cons.1 hf2 with rfl | hf2
              · exact wf.safe x.f hxf
              · exact wf.safe f (List.mem_filter.1 (List.mem_filter.1 hf2).1).1
            · have hfit := wf.fits
              show (total (_ :: _) : Int) ≤ a.room
              rw [total_cons, total_perm hp1]
              show ((x.f.dat.length + _ : Nat) : Int) ≤ _
              omega
            · rcases List.mem_cons.1 hf2 with rfl | hf2
              · exact hnok
              · exact wf.names f (List.mem_filter.1 (List.mem_filter.1 hf2).1).1
          · left
            rcases mem_blocks.1 hb with e | e | ⟨y, hy, hyb⟩
            · exact in_d b e
            · exact in_r b e
            · rcases List.mem_cons.1 hy with rfl | hy
              · exact mem_blocks.2 (.inr (.inr ⟨x, hx, hyb⟩))
              · exact mem_blocks.2 (.inr (.inr ⟨y, hsub y (hpm.mem_iff.2 (List.mem_cons_of_mem _ hy)), hyb⟩))
        · have hnm2 : n = m := by
            have h1 : n.toList = m.toList := by simpa using gn
            rw [Go.ByteArray.toList_eq, Go.ByteArray.toList_eq] at h1
            exact ByteArray.ext (Array.toList_inj.1 h1)
          refine ⟨trivial, 0, rfl, ?_⟩
          refine H'.unlock rfl fun w8 H8 c8 z8 => ?_
          have hmv : moveF a.act n m x.f = a.act := by unfold moveF; rw [if_pos hnm2]
          simp only [hmv] at hk
          exact hk w8 _ (DK.of H8 rfl (by rw [hL]; exact .refl _) wf.act) (hc6.more c8 in_d) fun b hb => .inl hb
end Go.Proofs.Ytncbmfinndcojaa
