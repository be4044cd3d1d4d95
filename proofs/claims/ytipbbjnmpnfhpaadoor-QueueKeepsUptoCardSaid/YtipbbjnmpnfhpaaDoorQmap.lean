/-
  The queue's map of those that are held; Len, Config, Put.
-/
import Derived.Test.YtipbbjnmpnfhpaaDoorQlib
namespace Go.Proofs.YtipbbjnmpnfhpaaDoor
open Go Go.Sv Go.Heap Go.Qu Go.MapKept
set_option linter.unusedVariables false
set_option maxRecDepth 4000
theorem ikey (n : Int) : IsKey (.int .i64) (.int .i64 n) := rfl
theorem en_zero (w : World) : (zeroValue 37).run Tryd.prog w = .ok En0.val w := entry_info.zero w
theorem qlen_run {ty : TypeId} {w : World} {r : Nat} {m : List (Value × Value)} (h : Mp (.int .i64) w r m) : (Builtin.len_ #[59] ty #[.map (some r)]).run Tryd.prog w = .ok (.int .i64 (m.length : Int)) w := by
  obtain ⟨es, c, hb, hs, hk, hm⟩ := h
  subst hm
  simp [Builtin.len_, run_underlying Tryd.underlying59, MapKept.run_getObj_map hb, goInt, Result.andThen]
section
variable {w w' : World} {qb : Nat} {cf : Cfg} {last : Int} {F H : List Et} {p : Option Addr} {c : Nat} {own : Option Nat} {r : Nat}
theorem QM.mlen (Q : QM w qb cf last F H p c own r) {ty : TypeId} : (Builtin.len_ #[59] ty #[.map (some r)]).run Tryd.prog w = .ok (.int .i64 (H.length : Int)) w := by
  obtain ⟨m, hm, hp⟩ := Q.map
  rw [qlen_run hm, hp.length_eq, List.length_map]
theorem QM.head' (Q : QM w qb cf last F H p c own r) {last' : Int} (hb : blk w' qb = some (qcells cf (.slice p F.length c) r last')) (hc : Ch (· = qb) w w') : QM w' qb cf last' F H p c own r :=
  ⟨hb, Q.row.ch hc fun k hk h => Q.ne_qo (h ▸ hk), (by
    obtain ⟨m, hm, hp⟩ := Q.map
    exact ⟨m, hm.ch hc fun h => Q.ne_qr h.symm, hp⟩), fun x hx => EtE.ch (Q.dat x hx) hc fun b hb h => Q.ne_qe (h ▸ mem_eB.2 ⟨x, hx, by simpa [EtE, Option.mem_toList] using hb⟩), Q.nd⟩
theorem QM.look (Q : QM w qb cf last F H p c own r) (seq : Int) :
    (∃ x ∈ H, x.e.seq = seq ∧ (Instr.lookup 59 (.map (some r)) (.int .i64 seq) true).run Tryd.prog w = .ok (.tuple #[x.e.val, .bool true]) w) ∨
    ((∀ x ∈ H, x.e.seq ≠ seq) ∧ (Instr.lookup 59 (.map (some r)) (.int .i64 seq) true).run Tryd.prog w = .ok (.tuple #[En0.val, .bool false]) w) := by
  obtain ⟨m, hm, hp⟩ := Q.map
  rcases lookup_run Tryd.underlying59 Tryd.underlying3 (en_zero w) hm (ikey seq) with ⟨v, hv, _, h⟩ | ⟨hn, _, h⟩
  · obtain ⟨x, hx, he⟩ := List.mem_map.1 (hp.mem_iff.1 hv)
    unfold pairE at he
    simp only [Prod.mk.injEq, Value.int.injEq, true_and] at he
    obtain ⟨h1, rfl⟩ := he
    exact .inl ⟨x, hx, h1, h⟩
  · exact .inr ⟨fun x hx e => hn (pairE x) (hp.mem_iff.2 (List.mem_map.2 ⟨x, hx, rfl⟩)) (by rw [← e]; rfl), h⟩
theorem QM.look1 (Q : QM w qb cf last F H p c own r) {x : Et} (hx : x ∈ H) (hn : (H.map fun x : Et => x.e.seq).Nodup) : (Instr.lookup 59 (.map (some r)) (.int .i64 x.e.seq) false).run Tryd.prog w = .ok x.e.val w := by
  obtain ⟨m, hm, hp⟩ := Q.map
  rcases lookup_run Tryd.underlying59 Tryd.underlying3 (en_zero w) hm (ikey x.e.seq) with ⟨v, hv, h, _⟩ | ⟨hn, _, h⟩
  · obtain ⟨y, hy, he⟩ := List.mem_map.1 (hp.mem_iff.1 hv)
    unfold pairE at he
    simp only [Prod.mk.injEq, Value.int.injEq, true_and] at he
    obtain ⟨h1, rfl⟩ := he
    rw [inj_of_nodup hn hy hx h1] at h
    exact h
  · exact absurd rfl (hn (pairE x) (hp.mem_iff.2 (List.mem_map.2 ⟨x, hx, rfl⟩)))
/-- one that is held goes -/
theorem QM.del (Q : QM w qb cf last F H p c own r) {ty : TypeId} {x : Et} {H' : List Et} (hp : H.Perm (x :: H')) (hn : (H.map fun x : Et => x.e.seq).Nodup) :
    ∃ w', (Builtin.delete_ #[59, 3] ty #[.map (some r), .int .i64 x.e.seq]).run Tryd.prog w = .ok (.tuple #[]) w' ∧ QM w' qb cf last F H' p c own r ∧ EtE.Ok w' x ∧ (∀ b ∈ EtE.B x, b ∈ qbl qb r own F H ∧ b ∉ qbl qb r own F H') ∧ (∀ b ∈ qbl qb r own F H', b ∈ qbl qb r own F H) ∧ Ch (· = r) w w' := by
  obtain ⟨m, hm, hmp⟩ := Q.map
  obtain ⟨w', m', hrun, hm', hch, _, hcase⟩ := delete_run (ty := ty) Tryd.underlying59 Tryd.underlying3 hm (ikey x.e.seq)
  have hpe : (F ++ H).Perm (x :: (F ++ H')) := (hp.append_left F).trans List.perm_middle
  have hnd : (EtE.B x ++ eB (F ++ H')).Nodup := by rw [← eB_cons, ← (eB_perm hpe).nodup_iff]; exact Q.ndE
  have hsub : ∀ b, b ∈ EtE.B x ++ eB (F ++ H') → b ∈ eB (F ++ H) := fun b hb => by rw [(eB_perm hpe).mem_iff, eB_cons]; exact hb
  have hdat : ∀ y ∈ F ++ H, EtE.Ok w' y := fun y hy => EtE.ch (Q.dat y hy) hch fun b hb h => Q.ne_re (h ▸ mem_eB.2 ⟨y, hy, by simpa [EtE, Option.mem_toList] using hb⟩)
  refine ⟨w', hrun, ⟨?_, ?_, ⟨m', hm', ?_⟩, fun y hy => hdat y (hpe.mem_iff.2 (List.mem_cons_of_mem _ hy)), ?_⟩, hdat x (hpe.mem_iff.2 (by simp)), fun b hb => ⟨mem_qbl.2 (.inr (.inr (.inr (hsub b (List.mem_append_left _ hb))))), fun h => ?_⟩, fun b hb => ?_, hch⟩
  · rw [hch.blk (blk_lt Q.head) Q.ne_qr]; exact Q.head
  · exact Q.row.ch hch fun k hk h => Q.ne_ro (h ▸ hk)
  · have h1 : m.Perm (pairE x :: H'.map pairE) := hmp.trans (hp.map pairE)
    rcases hcase with ⟨l1, v0, l2, rfl, rfl⟩ | ⟨hno, rfl⟩
    · have hk1 := hm.nodup
      have hv : v0 = x.e.val := by
        have hmem : (Value.int .i64 x.e.seq, v0) ∈ pairE x :: H'.map pairE := h1.mem_iff.1 (by simp)
        rcases List.mem_cons.1 hmem with e | e
        · exact (Prod.mk.inj e).2
        · obtain ⟨y, hy, he⟩ := List.mem_map.1 e
          unfold pairE at he
          simp only [Prod.mk.injEq, Value.int.injEq, true_and] at he
          have hn2 : ((x :: H').map fun x : Et => x.e.seq).Nodup := by rw [← (hp.map _).nodup_iff]; exact hn
          rw [List.map_cons] at hn2
          exact absurd (List.mem_map.2 ⟨y, hy, he.1⟩) (List.nodup_cons.1 hn2).1
      subst hv
      have h2 : ((pairE x) :: (l1 ++ l2)).Perm (pairE x :: H'.map pairE) := (List.perm_middle (l₁ := l1) (a := pairE x) (l₂ := l2)).symm.trans h1
      exact h2.cons_inv
    · exact absurd rfl (hno (pairE x) (h1.mem_iff.2 (by simp)))
  · exact qbl_nd Q.ne_qr Q.ne_qo Q.ne_ro (fun h => Q.ne_qe (hsub _ (List.mem_append_right _ h))) (fun h => Q.ne_re (hsub _ (List.mem_append_right _ h))) (fun b hb h => Q.ne_oe b hb (hsub _ (List.mem_append_right _ h))) (List.nodup_append.1 hnd).2.1
  · have hb2 := hsub b (List.mem_append_left _ hb)
    rcases mem_qbl.1 h with h | h | h | h
    · exact Q.ne_qe (h ▸ hb2)
    · exact Q.ne_re (h ▸ hb2)
    · exact Q.ne_oe b h hb2
    · exact (List.nodup_append.1 hnd).2.2 b hb b h rfl
  · rcases mem_qbl.1 hb with h | h | h | h
    · exact mem_qbl.2 (.inl h)
    · exact mem_qbl.2 (.inr (.inl h))
    · exact mem_qbl.2 (.inr (.inr (.inl h)))
    · exact mem_qbl.2 (.inr (.inr (.inr (hsub b (List.mem_append_right _ h)))))
/-- one comes to those that are held -/
theorem QM.add (Q : QM w qb cf last F H p c own r) {x : Et} (hx : EtE.Ok w x) (hd : ∀ b ∈ EtE.B x, b ∉ qbl qb r own F H) (hn : ∀ y ∈ H, y.e.seq ≠ x.e.seq) :
    ∃ w', (Instr.mapUpdate 59 (.map (some r)) (.int .i64 x.e.seq) x.e.val).run Tryd.prog w = .ok () w' ∧ QM w' qb cf last F (x :: H) p c own r ∧ (∀ b ∈ qbl qb r own F (x :: H), b ∈ qbl qb r own F H ∨ b ∈ EtE.B x) ∧ Ch (· = r) w w' := by
  obtain ⟨m, hm, hmp⟩ := Q.map
  obtain ⟨w', m', hrun, hm', hch, _, hcase⟩ := update_run Tryd.underlying59 Tryd.underlying3 hm (ikey x.e.seq) x.e.val
  have hpe : (F ++ x :: H).Perm (x :: (F ++ H)) := List.perm_middle
  have hmem : ∀ b, b ∈ eB (F ++ x :: H) → b ∈ EtE.B x ∨ b ∈ eB (F ++ H) := fun b hb => by
    rw [(eB_perm hpe).mem_iff, eB_cons] at hb
    exact List.mem_append.1 hb
  have hxr : r ∉ EtE.B x := fun h => hd r h (mem_qbl.2 (.inr (.inl rfl)))
  refine ⟨w', hrun, ⟨?_, ?_, ⟨m', hm', ?_⟩, fun y hy => ?_, ?_⟩, fun b hb => ?_, hch⟩
  · rw [hch.blk (blk_lt Q.head) Q.ne_qr]; exact Q.head
  · exact Q.row.ch hch fun k hk h => Q.ne_ro (h ▸ hk)
  · rcases hcase with ⟨l1, v0, l2, rfl, rfl⟩ | ⟨_, rfl⟩
    · have hmem : (Value.int .i64 x.e.seq, v0) ∈ H.map pairE := hmp.mem_iff.1 (by simp)
      obtain ⟨y, hy, he⟩ := List.mem_map.1 hmem
      unfold pairE at he
      simp only [Prod.mk.injEq, Value.int.injEq, true_and] at he
      exact absurd he.1 (hn y hy)
    · exact ((hmp.append_right _).trans (List.perm_append_singleton ..))
  · rcases List.mem_cons.1 (hpe.mem_iff.1 hy) with e | e
    · rw [e]; exact EtE.ch hx hch fun b hb h => hxr (h ▸ hb)
    · exact EtE.ch (Q.dat y e) hch fun b hb h => Q.ne_re (h ▸ mem_eB.2 ⟨y, e, by simpa [EtE, Option.mem_toList] using hb⟩)
  · refine qbl_nd Q.ne_qr Q.ne_qo Q.ne_ro (fun h => ?_) (fun h => ?_) (fun b hb h => ?_) ?_
    · rcases hmem _ h with q | q
      · exact hd _ q (mem_qbl.2 (.inl rfl))
      · exact Q.ne_qe q
    · rcases hmem _ h with q | q
      · exact hxr q
      · exact Q.ne_re q
    · rcases hmem _ h with q | q
      · exact hd _ q (mem_qbl.2 (.inr (.inr (.inl hb))))
      · exact Q.ne_oe b hb q
    · rw [(eB_perm hpe).nodup_iff, eB_cons]
      refine List.nodup_append.2 ⟨EtE.nd hx, Q.ndE, fun a ha b hb e => ?_⟩
      subst e
      exact hd a ha (mem_qbl.2 (.inr (.inr (.inr hb))))
  · rcases mem_qbl.1 hb with h | h | h | h
    · exact .inl (mem_qbl.2 (.inl h))
    · exact .inl (mem_qbl.2 (.inr (.inl h)))
    · exact .inl (mem_qbl.2 (.inr (.inr (.inl h))))
    · rcases hmem b h with q | q
      · exact .inr q
      · exact .inl (mem_qbl.2 (.inr (.inr (.inr q))))
theorem QM.cell (Q : QM w qb cf last F H p c own r) {i : Nat} {v : Value} (h : (qcells cf (.slice p F.length c) r last)[i]? = some v) : w.cell? ⟨qb, i, none⟩ = some v := by rw [cell_blk Q.head]; exact h
end
theorem wrap_small {n : Int} (h1 : 0 ≤ n) (h2 : n ≤ 2 ^ 40) : IntKind.wrap .i64 n = n := wrap_id (by omega) (by omega)
theorem qlen_ok {w : World} {qb : Nat} {A : AQ} {B : Nat → Prop} {K : Value → World → Prop} (Q : QK w qb A B)
    (hk : K (.tuple #[.int .i64 ((A.L.filter isFree).length : Int), .int .i64 ((A.L.length : Int) - ((A.L.filter isFree).length : Int))]) w.drew) : callP Tryd.prog 10 [.pointer (some ⟨qb, 0, none⟩)] w K := by
  obtain ⟨wf, F, H, p, c, own, r, M, E, rfl⟩ := Q
  have h1 := E.fr.length_eq
  have h2 := E.len
  have M' : QM w.drew qb A.cf A.last F H p c own r := M.ch (Ch.drew (S := fun _ => False) w) fun _ _ => id
  refine ok_queue_Queue_Len ?_
  unfold wp_queue_Queue_Len
  simp only [nn_some, add_at]
  refine ⟨_, _, _, M'.cell rfl, _, M'.cell rfl, _, M'.mlen, ?_⟩
  rw [List.length_map] at h1
  rw [show (H.length : Int) = (A.L.length : Int) - ((A.L.filter isFree).length : Int) by omega, h1]
  exact hk
def cfgV (c : Cfg) : Value := .agg #[.string c.name, .int .i64 c.most, .string c.dead, .int .i64 c.tries, .bool c.dur]
theorem qconf_ok {w : World} {qb : Nat} {A : AQ} {B : Nat → Prop} {K : Value → World → Prop} (Q : QK w qb A B)
    (hk : ∀ w', Ch (fun _ => False) w w' → K (cfgV A.cf) w') : callP Tryd.prog 11 [.pointer (some ⟨qb, 0, none⟩)] w K := by
  obtain ⟨wf, F, H, p, c, own, r, M, E, rfl⟩ := Q
  refine ok_queue_Queue_Config ?_
  unfold wp_queue_Queue_Config
  simp only [nn_some, add_at]
  refine newB_blk fun w1 b1 c1 z1 => ?_
  have M1 := M.ch c1 fun _ _ => id
  simp only [add_at, Nat.zero_add, Nat.add_zero]
  refine ⟨_, M1.cell rfl, _, M1.cell rfl, _, M1.cell rfl, _, M1.cell rfl, _, M1.cell rfl, ?_⟩
  refine st_blk b1 (by simp) fun w2 b2 c2 z2 => st_blk b2 (by simp) fun w3 b3 c3 z3 => st_blk b3 (by simp) fun w4 b4 c4 z4 => st_blk b4 (by simp) fun w5 b5 c5 z5 => st_blk b5 (by simp) fun w6 b6 c6 z6 => ?_
  simp only [cell_blk b6]
  refine ⟨_, rfl, _, rfl, _, rfl, _, rfl, _, rfl, hk w6 (c1.trans ((((c2.trans' c3).trans' c4).trans' c5).trans' c6) fun x hx h => by omega)⟩
end Go.Proofs.YtipbbjnmpnfhpaaDoor
