/-
  The law's own small functions over lists of files: file, begins, Same; act.
-/
import Derived.Test.YtncbmfinndcojaaDiskL
import Derived.Test.YtncbmfinndcojaaSvRow
namespace Go.Proofs.Ytncbmfinndcojaa
open Go Go.Sv Go.MapKept
set_option linter.unusedVariables false
set_option maxRecDepth 4000

theorem OF.cells_len (o : OF) : o.cells.length = 3 := rfl
/-- files that read -/
structure FilesD (w : World) (p : Option Addr) (O : List OF) : Prop where
  row : Rd w p O.length 3 (O.flatMap OF.cells)
  dat : ∀ o ∈ O, Rd w o.p o.f.dat.length 1 (bytesV o.f.dat)
theorem FilesR.rd {w : World} {p : Option Addr} {c : Nat} {ob : Option Nat} {O : List OF} (h : FilesR w p c ob O) : FilesD w p O := ⟨h.row.rd, fun o ho => (h.dat o ho).rd⟩
theorem FilesD.ch0 {w w' : World} {p : Option Addr} {O : List OF} (h : FilesD w p O) (hc : Ch (fun _ => False) w w') : FilesD w' p O := ⟨h.row.ch hc fun _ _ _ => id, fun o ho => (h.dat o ho).ch hc fun _ _ _ => id⟩
theorem FilesD.at {w : World} {p : Option Addr} {O : List OF} (h : FilesD w p O) {i : Nat} {x : OF} (hi : O[i]? = some x) :
    ∃ b o, p = some ⟨b, o, none⟩ ∧ w.cell? ⟨b, o + i * 3, none⟩ = some (.string x.f.name) ∧ w.cell? ⟨b, o + i * 3 + 1, none⟩ = some (.slice x.p x.f.dat.length x.c) ∧ w.cell? ⟨b, o + i * 3 + 2, none⟩ = some (.int .i64 x.f.safe) := by
  obtain ⟨b, o, hp, hc⟩ := Rd.at OF.cells_len h.row hi (by omega)
  exact ⟨b, o, hp, hc 0 _ rfl, hc 1 _ rfl, hc 2 _ rfl⟩
theorem toStr {w : World} {p : Option Addr} {n c : Nat} {l : List UInt8} (h : Rd w p n 1 (bytesV l)) : (convert 31 9 (.slice p n c)).run Try.prog w = .ok (.string ⟨l.toArray⟩) w :=
  toString_run Try.underlying31 Try.underlying5 Try.underlying9 h

theorem begins_ok {a b : ByteArray} {w : World} {K : Value → World → Prop} (h : a.data.toList <+: b.data.toList) (hk : K (.bool true) w) : callP Try.prog 13 [.string a, .string b] w K := by
  refine ok_longshorelaw19_begins ?_
  unfold wp_longshorelaw19_begins
  have hle : a.size ≤ b.size := by have := h.length_le; simpa using this
  refine Sif_cases (fun _ => ⟨by omega, by omega, ?_⟩) fun g => ?_
  · have : (a.toList == (b.extract 0 ((a.size : Int)).toNat).toList) = true := by
      rw [ByteArray.toList_eq, ByteArray.toList_eq, Int.toNat_natCast, beq_iff_eq, Lib.extract_data]
      obtain ⟨t, ht⟩ := h
      rw [← ht]
      have hsz : a.size = a.data.toList.length := by simp
      rw [hsz, List.drop_zero, Nat.sub_zero, List.take_left]
    rw [this]; exact hk
  · have := of_decide_eq_false g; omega
theorem Same_ok {w : World} {p q : Option Addr} {cp cq : Nat} {A B : List OF} {K : Value → World → Prop} (ha : FilesD w p A) (hb : FilesD w q B) (he : A.map (·.f) = B.map (·.f)) (hlen : A.length ≤ 2 ^ 60)
    (hk : ∀ w', Ch (fun _ => False) w w' → w'.heap.size = w.heap.size → K (.bool true) w') : callP Try.prog 15 [.slice p A.length cp, .slice q B.length cq] w K := by
  have hl : A.length = B.length := by have := congrArg List.length he; simpa using this
  refine ok_longshoreref19_Same ?_
  unfold wp_longshoreref19_Same
  refine Sif_cases (fun g => by simp [hl] at g) fun _ => ?_
  refine ⟨fun m n w' => ∃ k : Nat, n = k ∧ k ≤ A.length ∧ m = A.length - k ∧ Ch (fun _ => False) w w' ∧ w'.heap.size = w.heap.size, ⟨A.length, 0, rfl, Nat.zero_le _, by simp, Ch.refl _ _, rfl⟩, ?_⟩
  rintro m n w1 ⟨k, rfl, hkl, rfl, c1, z1⟩
  refine Sif_cases (fun g => ?_) fun g => hk w1 c1 z1
  have hlt : k < A.length := by have := of_decide_eq_true g; omega
  have hltB : k < B.length := by omega
  have hxa : A[k]? = some A[k] := List.getElem?_eq_getElem hlt
  have hxb : B[k]? = some B[k] := List.getElem?_eq_getElem hltB
  have hf : (A[k]).f = (B[k]).f := by
    have h1 : (A.map (·.f))[k]? = (B.map (·.f))[k]? := by rw [he]
    simpa [hxa, hxb] using h1
  have hma := List.mem_of_getElem? hxa
  have hmb := List.mem_of_getElem? hxb
  generalize A[k] = x at *
  generalize B[k] = y at *
  have cd : Ch (fun _ => False) w w1.drew := c1.new (Ch.drew w1)
  obtain ⟨b1, o1, rfl, h10, h11, h12⟩ := (ha.ch0 cd).at hxa
  obtain ⟨b2, o2, rfl, h20, h21, h22⟩ := (hb.ch0 cd).at hxb
  have hd1 := toStr (c := x.c) ((ha.ch0 cd).dat x hma)
  have hd2 := toStr (c := y.c) ((hb.ch0 cd).dat y hmb)
  refine ⟨fun w' => Ch (fun _ => False) w w' ∧ w'.heap.size = w.heap.size, fun w2 ⟨c2, z2⟩ => ?_, by omega, by omega, ?_⟩
  · rw [nameI_iff, wrap_id (by omega) (by omega)]
    exact ⟨A.length - (k + 1), by omega, k + 1, by simp, by omega, rfl, c2, z2⟩
  simp only [nn_some, add_at, Int.toNat_natCast, Nat.add_zero]
  refine ⟨by omega, by omega, _, h10, _, h20, ?_⟩
  rw [hf, str_eq_self]
  refine ⟨by omega, by omega, by omega, by omega, _, h12, _, h22, ?_⟩
  rw [hf, show (!((y.f.safe : Int) != (y.f.safe : Int))) = true by simp]
  refine ⟨by omega, by omega, by omega, by omega, _, _, _, h11, _, hd1, _, _, _, h21, _, hd2, ?_⟩
  rw [hf, str_eq_self]
  exact ⟨cd, by simpa using z1⟩
def findO (O : List OF) (n : ByteArray) : Option OF := O.find? fun o => decide (o.f.name = n)
theorem file_ok {w : World} {p : Option Addr} {c : Nat} {O : List OF} {n : ByteArray} {K : Value → World → Prop} (h : FilesD w p O) (hlen : O.length ≤ 2 ^ 60) {x : OF} {i : Nat} (hx : O[i]? = some x) (hn : x.f.name = n) (hfst : ∀ (j : Nat) (y : OF), j < i → O[j]? = some y → y.f.name ≠ n)
    (hk : ∀ w', Ch (fun _ => False) w w' → K (.tuple #[.agg #[.string n, .slice x.p x.f.dat.length x.c, .int .i64 x.f.safe], .bool true]) w') : callP Try.prog 12 [.slice p O.length c, .string n] w K := by
  have hil : i < O.length := (List.getElem?_eq_some_iff.1 hx).1
  refine ok_longshorelaw19_file ?_
  unfold wp_longshorelaw19_file
  refine newB_blk fun w1 b1 c1 y1 => ?_
  refine ⟨fun m k w' => ∃ j : Nat, k = j ∧ j ≤ i ∧ m = i - j ∧ w' = w1, ⟨i, 0, rfl, Nat.zero_le _, by simp, rfl⟩, ?_⟩
  rintro m k w2 ⟨j, rfl, hj, rfl, rfl⟩
  refine Sif_cases (fun g => ?_) fun g => by have := of_decide_eq_false g; omega
  have hjl : j < O.length := by omega
  have hy : O[j]? = some O[j] := List.getElem?_eq_getElem hjl
  generalize O[j] = y at hy
  obtain ⟨b, o, rfl, h0, h1, h2⟩ := (h.ch0 c1).at hy
  simp only [nn_some, add_at, Int.toNat_natCast, Nat.add_zero]
  refine ⟨by omega, by omega, _, h0, ?_⟩
  by_cases hji : j = i
  · subst hji
    rw [hx] at hy; cases hy
    rw [hn, str_eq_self]
    refine ⟨by omega, by omega, _, hn ▸ h0, _, _, _, h1, _, h2, ?_⟩
    refine re3 b1 fun w3 b3 c3 y3 => ?_
    refine ⟨_, by rw [cell_blk b3]; rfl, _, _, _, by rw [cell_blk b3]; rfl, _, by rw [cell_blk b3]; rfl, hk w3 (c1.trans c3 fun x hx h => by omega)⟩
  · have hne : (y.f.name.toList == n.toList) = false := by
      have := hfst j y (by omega) hy
      rw [beq_eq_false_iff_ne, ByteArray.toList_eq, ByteArray.toList_eq]
      exact fun e => this (data_ext e)
    rw [hne]
    refine ⟨i - (j + 1), by omega, j + 1, ?_, by omega, rfl, by trivial⟩
    rw [wrap_id (by omega) (by omega)]; simp

/-! ### One act -/
structure OpV where
  kind : Int
  on : Int
  n : Int
  m : Int
  name : ByteArray
  to : ByteArray
  dp : Option Addr
  dat : List UInt8
  dc : Nat
def OpV.cells (o : OpV) : List Value := [.int .i64 o.kind, .int .i64 o.on, .int .i64 o.n, .int .i64 o.m, .string o.name, .string o.to, .slice o.dp o.dat.length o.dc]
theorem OpV.cells_len (o : OpV) : o.cells.length = 7 := rfl
def AD.do (a : AD) (o : OpV) : Int × AD := if o.kind = 2 then a.sync o.name else if o.kind = 3 then a.rename o.name o.to else if o.kind = 4 then a.delete o.name else a.append o.name o.dat
theorem doAct_ok {w : World} {d : Nat} {a : AD} {B : Nat → Prop} {o : OpV} {K : Value → World → Prop} (D : DK w d a B) (hs : o.name.size ≤ 9223372036854775807) (hs2 : o.to.size ≤ 9223372036854775807)
    (hb : Rd w o.dp o.dat.length 1 (bytesV o.dat)) (hbl : o.dat.length ≤ 2 ^ 62) (hbB : ∀ p, o.dp = some p → o.dat.length ≠ 0 → ¬ B p.block)
    (hk : Post w d (a.do o).2 B (K (.int .i64 (a.do o).1))) :
    callP Try.prog 10 [.pointer (some ⟨d, 0, none⟩), .agg o.cells.toArray] w K := by
  refine ok_longshorelaw19_act ?_
  unfold wp_longshorelaw19_act
  refine newB_blk fun w1 b1 c1 y1 => ?_
  have D1 := D.ch c1 fun _ _ => id
  have post : ∀ {r : Int × AD}, Post w d r.2 B (K (.int .i64 r.1)) → Post w1 d r.2 B fun w2 => ∃ n1 : Int, Value.int .i64 r.1 = .int .i64 n1 ∧ K (.int .i64 n1) w2 := fun h w2 B2 D2 c2 n2 =>
    ⟨_, rfl, h w2 B2 D2 (c1.mono (fun _ _ h => h.elim) |>.trans' c2) fun b hb => (n2 b hb).imp id fun h => by omega⟩
  simp only [add_at, Nat.zero_add]
  refine ⟨_, by rw [cell_blk b1]; rfl, ?_⟩
  unfold AD.do at hk
  refine Sif_cases (fun g => ?_) fun g => ?_
  · rw [if_pos (by simpa using g)] at hk
    exact ⟨_, by rw [cell_blk b1]; rfl, sync_ok D1 hs (post hk)⟩
  rw [if_neg (by simpa using g)] at hk
  refine Sif_cases (fun g => ?_) fun g => ?_
  · rw [if_pos (by simpa using g)] at hk
    exact ⟨_, by rw [cell_blk b1]; rfl, _, by rw [cell_blk b1]; rfl, rename_ok D1 hs hs2 (post hk)⟩
  rw [if_neg (by simpa using g)] at hk
  refine Sif_cases (fun g => ?_) fun g => ?_
  · rw [if_pos (by simpa using g)] at hk
    exact ⟨_, by rw [cell_blk b1]; rfl, delete_ok D1 hs (post hk)⟩
  rw [if_neg (by simpa using g)] at hk
  exact ⟨_, by rw [cell_blk b1]; rfl, _, _, _, by rw [cell_blk b1]; rfl, append_ok D1 hs (hb.ch c1 fun _ _ _ => id) hbl hbB (post hk)⟩
end Go.Proofs.Ytncbmfinndcojaa
