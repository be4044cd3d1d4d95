/-
  The pair's owned.
-/
import Derived.Test.YtncbmfinndcojaaPairB
namespace Go.Proofs.Ytncbmfinndcojaa
open Go Go.Sv Go.MapKept
set_option linter.unusedVariables false
set_option maxRecDepth 10000

def toBL (x : CL) : BL := { p := x.p, n := x.dat.length, c := x.c, own := x.own }
theorem bowns_map (C : List CL) : bowns (C.map toBL) = cowns C := by unfold bowns cowns; rw [List.flatMap_map]; rfl
set_option maxHeartbeats 2000000 in
theorem powned_ok {w : World} {pp : Nat} {B : Nat → Prop} {f c : Nat} {K : Value → World → Prop} (P : PX true w pp B f c) (hc : c ≤ 2 ^ 40)
    (hk : XPost false w pp B f c (K (.bool true))) : callP Try.prog 25 [.pointer (some ⟨pp, 0, none⟩)] w K := by
  obtain ⟨d, r, a, BD, BR, C, W, cp, cc, cb, wp, wc, wb, P, rfl, haf, hCl, hWl, hkp, hW, hCd⟩ := P
  have hPlt := P.lt
  have hW' := hW rfl
  subst hW'
  refine ok_longshorelaw19_pair_owned ?_
  unfold wp_longshorelaw19_pair_owned
  refine newB_blk fun w1 b1 c1 z1 => ?_
  have P1 := P.ch0 c1
  refine ⟨fun m k w' => ∃ (i : Nat) (bp : Option Addr) (bc : Nat) (bb : Option Nat), k = i ∧ i ≤ C.length ∧ m = C.length - i ∧ PO true w' pp d r a a BD BR C (C.map (·.dat)) cp cc cb wp wc wb ∧ BookR w' w.heap.size ((C.take i).map toBL) bp bc bb ∧ (∀ k, bb = some k → w.heap.size < k) ∧ Ch (fun _ => False) w w',
    ⟨C.length, 0, none, 0, none, rfl, by omega, by omega, P1, book_new b1, by simp, c1⟩, ?_⟩
  rintro m k w2 ⟨i, bp, bc, bb, rfl, hi, rfl, P2, B2, hbb, c2⟩
  simp only [nn_some, add_at, Nat.zero_add]
  refine ⟨_, _, _, P2.c2, Sif_cases (fun g => ?_) fun g => ?_⟩
  · have hlt : i < C.length := by have := of_decide_eq_true g; omega
    have hx : C[i]? = some C[i] := List.getElem?_eq_getElem hlt
    have htake : C.take (i + 1) = C.take i ++ [C[i]] := by rw [List.take_add_one, hx]; rfl
    have hdrop : C = C.take i ++ C[i] :: C.drop (i + 1) := by rw [List.getElem_cons_drop hlt, List.take_append_drop]
    generalize C[i] = x at hx htake hdrop
    have hxm := List.mem_of_getElem? hx
    have P2d := P2.ch0 (Ch.drew (S := fun _ => False) w2)
    obtain ⟨xb, xo, rfl, hcell⟩ := Rd.at CL.cells_len P2d.came.rd hx (by omega)
    have hcell0 : w2.drew.cell? ⟨xb, xo + i, none⟩ = some (.slice x.p x.dat.length x.c) := by simpa using hcell 0 _ rfl
    refine ⟨_, _, _, P2d.c2, by omega, by omega, ?_⟩
    simp only [nn_some, add_at, Nat.mul_one, Int.toNat_natCast]
    refine ⟨_, _, _, hcell0, _, toStr (P2d.each rfl x hxm).rd, _, _, _, P2d.c3, by omega, by simp; omega, ?_⟩
    have hw : (C.map (·.dat))[i]? = some x.dat := by rw [List.getElem?_map, hx]; rfl
    obtain ⟨yb, yo, rfl, hcw⟩ := Rd.at wcell_len P2d.want.rd hw (by omega)
    have hcw0 : w2.drew.cell? ⟨yb, yo + i, none⟩ = some (.string (strB x.dat)) := by simpa using hcw 0 _ rfl
    simp only [nn_some, add_at]
    refine ⟨_, hcw0, ?_⟩
    have hsame : (!((ByteArray.mk x.dat.toArray).toList == (strB x.dat).toList)) = false := by simp [strB]
    rw [hsame]
    refine ⟨_, _, _, P2d.c2, by omega, by omega, ?_⟩
    simp only [nn_some, add_at]
    refine ⟨_, _, _, hcell0, ?_⟩
    have hxl : ∀ k, x.own = some k → k ∈ cowns C := fun k hk2 => List.mem_flatMap.2 ⟨x, hxm, by simp [hk2]⟩
    have B2d := B2.ch (Ch.drew (S := fun _ => False) w2) fun _ _ => id
    refine take_ok (x := toBL x) (l := x.dat) B2d (by simp; omega) (P2d.each rfl x hxm) (fun k hk2 h => ?_) fun p' c' tb' w3 B3 c3 n3 => ⟨rfl, ?_⟩
    · have h1 := hPlt k (.inr (.inr (.inr (.inr (.inr (hxl k hk2))))))
      rcases List.mem_cons.1 h with h | h
      · omega
      · rcases List.mem_append.1 h with h | h
        · have := hbb k (by simpa using h); omega
        · rw [bowns_map] at h
          have hnd := P.nd
          rw [hdrop] at hnd
          have e : cowns (C.take i ++ x :: C.drop (i + 1)) = cowns (C.take i) ++ (x.own.toList ++ cowns (C.drop (i + 1))) := by simp [cowns]
          rw [e] at hnd
          exact (List.nodup_append.1 hnd).2.2 k h k (List.mem_append.2 (.inl (by simp [show x.own = some k from hk2]))) rfl
    · rw [nameI_iff, wrap_id (by omega) (by omega)]
      have hS : ∀ b, b < w.heap.size → ¬ (b = w.heap.size ∨ bb = some b) := fun b hb h => by
        rcases h with h | h
        · omega
        · have := hbb b h; omega
      have hz2 : w2.drew.heap.size = w2.heap.size := rfl
      have hz12 := c2.size
      have hB2l := B2.lt w.heap.size (List.mem_cons_self ..)
      refine ⟨C.length - (i + 1), by omega, i + 1, p', c', tb', by simp, by omega, rfl, P2d.ch c3 fun b hb => hS b (hPlt b hb), by rw [htake, List.map_append]; exact B3, fun k hk2 => ?_, (c2.new (Ch.drew w2)).trans c3 fun k hk2 h => hS k hk2 h⟩
      rcases n3 k hk2 with h | h
      · exact hbb k h
      · omega
  · have hge : i = C.length := by have := of_decide_eq_false g; omega
    subst hge
    rw [List.take_length] at B2
    refine owned_ok B2 (fun x hx => ?_) (by simp; omega) fun w3 c3 => ⟨_, rfl, ?_⟩
    · obtain ⟨y, hy, rfl⟩ := List.mem_map.1 hx
      have := hCd y hy
      show y.dat.length ≤ _
      omega
    rw [bowns_map] at c3
    have hat := (Dis.at (l1 := [(· = pp), BD, BR, (fun b => cb = some b), (fun b => wb = some b)]) (A := (· ∈ cowns C)) (l2 := []) P.dis)
    have hn : ∀ X ∈ [(· = pp), BD, BR, (fun b => cb = some b), (fun b => wb = some b)], ∀ b, X b → ¬ b ∈ cowns C := fun X hX b hb h => hat X (by simpa using hX) b h hb
    have P3 : PO false w3 pp d r a a BD BR C (C.map (·.dat)) cp cc cb wp wc wb := by
      refine ⟨?_, P2.dk.ch c3 fun b h => hn BD (by simp) b h, P2.rk.ch c3 fun b h => hn BR (by simp) b h, P2.came.ch c3 fun k h => hn _ (by simp : (fun b => cb = some b) ∈ _) k h, P2.want.ch c3 fun k h => hn _ (by simp : (fun b => wb = some b) ∈ _) k h, (fun h => by cases h), fun b hb => ?_, P2.nd, P2.dis⟩
      · rw [c3.blk (blk_lt P2.head) (hn (· = pp) (List.mem_cons_self ..) pp rfl)]; exact P2.head
      · have := P2.olt b hb; have := c3.size; omega
    exact hk w3 _ ⟨d, r, a, BD, BR, C, _, cp, cc, cb, wp, wc, wb, P3, rfl, haf, hCl, by simp, hkp, (fun h => by cases h), hCd⟩ ((c2.mono fun _ _ h => h.elim).trans' (c3.mono fun b _ h => .inr (.inr (.inr (.inr (.inr h)))))) fun b h => .inl h
end Go.Proofs.Ytncbmfinndcojaa
