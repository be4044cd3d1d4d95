/-
  A pair of disks, the program's and the document's, and what came out of them: in memory; its parts, one by one.
-/
import Derived.Test.YtncbmfinndcojaaDiskQ
namespace Go.Proofs.Ytncbmfinndcojaa
open Go Go.Sv Go.MapKept
set_option linter.unusedVariables false
set_option maxRecDepth 10000

def Dis (l : List (Nat → Prop)) : Prop := l.Pairwise fun A B => ∀ b, A b → ¬ B b
theorem Dis.at {l1 l2 : List (Nat → Prop)} {A : Nat → Prop} (h : Dis (l1 ++ A :: l2)) : ∀ X ∈ l1 ++ l2, ∀ b, A b → ¬ X b := fun X hX b hA hb => by
  obtain ⟨h1, h2, h3⟩ := List.pairwise_append.1 h
  obtain ⟨h4, h5⟩ := List.pairwise_cons.1 h2
  rcases List.mem_append.1 hX with h | h
  · exact h3 X h A (List.mem_cons_self ..) b hb hA
  · exact h4 X h b hA hb
theorem Dis.upd {l1 l2 : List (Nat → Prop)} {A A' : Nat → Prop} {n : Nat} (h : Dis (l1 ++ A :: l2)) (hlt : ∀ X ∈ l1 ++ l2, ∀ b, X b → b < n) (hA : ∀ b, A' b → A b ∨ n ≤ b) : Dis (l1 ++ A' :: l2) := by
  have hat := h.at
  obtain ⟨h1, h2, h3⟩ := List.pairwise_append.1 h
  obtain ⟨h4, h5⟩ := List.pairwise_cons.1 h2
  refine List.pairwise_append.2 ⟨h1, List.pairwise_cons.2 ⟨fun X hX b hb hx => ?_, h5⟩, fun X hX Y hY b hx hy => ?_⟩
  · rcases hA b hb with h | h
    · exact h4 X hX b h hx
    · have := hlt X (List.mem_append.2 (.inr hX)) b hx; omega
  · rcases List.mem_cons.1 hY with rfl | hY
    · rcases hA b hy with h | h
      · exact h3 X hX A (List.mem_cons_self ..) b hx h
      · have := hlt X (List.mem_append.2 (.inl hX)) b hx; omega
    · exact h3 X hX Y (List.mem_cons_of_mem _ hY) b hx hy
/-- bytes that came out -/
structure CL where
  p : Option Addr
  c : Nat
  own : Option Nat
  dat : List UInt8
def CL.cells (x : CL) : List Value := [.slice x.p x.dat.length x.c]
theorem CL.cells_len (o : CL) : o.cells.length = 1 := rfl
theorem CL.cells_one (o : CL) : ∀ v ∈ o.cells, oneV v = true := by intro v hv; simp [CL.cells] at hv; subst hv; rfl
def strB (l : List UInt8) : ByteArray := ⟨l.toArray⟩
def wcell (l : List UInt8) : List Value := [.string (strB l)]
theorem wcell_len (o : List UInt8) : (wcell o).length = 1 := rfl
theorem wcell_one (o : List UInt8) : ∀ v ∈ wcell o, oneV v = true := by intro v hv; simp [wcell] at hv; subst hv; rfl
def cowns (C : List CL) : List Nat := C.flatMap fun x => x.own.toList
structure PO (g : Bool) (w : World) (pp d r : Nat) (aD aR : AD) (BD BR : Nat → Prop) (C : List CL) (W : List (List UInt8)) (cp : Option Addr) (cc : Nat) (cb : Option Nat) (wp : Option Addr) (wc : Nat) (wb : Option Nat) : Prop where
  head : blk w pp = some [.pointer (some ⟨d, 0, none⟩), .pointer (some ⟨r, 0, none⟩), .slice cp C.length cc, .slice wp W.length wc]
  dk : DK w d aD BD
  rk : RK w r aR BR
  came : Ow w cp C.length cc 1 (C.flatMap CL.cells) cb
  want : Ow w wp W.length wc 1 (W.flatMap wcell) wb
  each : g = true → ∀ x ∈ C, Ow w x.p x.dat.length x.c 1 (bytesV x.dat) x.own
  olt : ∀ b ∈ cowns C, b < w.heap.size
  nd : (cowns C).Nodup
  dis : Dis [(· = pp), BD, BR, (fun b => cb = some b), (fun b => wb = some b), (· ∈ cowns C)]
def PB (pp : Nat) (BD BR : Nat → Prop) (C : List CL) (cb wb : Option Nat) : Nat → Prop := fun b => b = pp ∨ BD b ∨ BR b ∨ cb = some b ∨ wb = some b ∨ b ∈ cowns C
section
variable {g : Bool} {w w' : World} {pp d r : Nat} {aD aR : AD} {BD BR : Nat → Prop} {C : List CL} {W : List (List UInt8)} {cp : Option Addr} {cc : Nat} {cb : Option Nat} {wp : Option Addr} {wc : Nat} {wb : Option Nat}
theorem PO.lt (P : PO g w pp d r aD aR BD BR C W cp cc cb wp wc wb) : ∀ b, PB pp BD BR C cb wb b → b < w.heap.size := by
  rintro b (h | h | h | h | h | h)
  · rw [h]; exact blk_lt P.head
  · exact P.dk.lt b h
  · exact P.rk.lt b h
  · exact P.came.blt b h
  · exact P.want.blt b h
  · exact P.olt b h
theorem PO.ch {S : Nat → Prop} (P : PO g w pp d r aD aR BD BR C W cp cc cb wp wc wb) (hc : Ch S w w') (hn : ∀ b, PB pp BD BR C cb wb b → ¬ S b) : PO g w' pp d r aD aR BD BR C W cp cc cb wp wc wb :=
  ⟨by rw [hc.blk (blk_lt P.head) (hn pp (.inl rfl))]; exact P.head, P.dk.ch hc fun b h => hn b (.inr (.inl h)), P.rk.ch hc fun b h => hn b (.inr (.inr (.inl h))), P.came.ch hc fun k h => hn k (.inr (.inr (.inr (.inl h)))), P.want.ch hc fun k h => hn k (.inr (.inr (.inr (.inr (.inl h))))),
   fun hg x hx => (P.each hg x hx).ch hc fun k h => hn k (.inr (.inr (.inr (.inr (.inr (List.mem_flatMap.2 ⟨x, hx, by simp [h]⟩)))))), fun b hb => Nat.lt_of_lt_of_le (P.olt b hb) hc.size, P.nd, P.dis⟩
theorem PO.ch0 (P : PO g w pp d r aD aR BD BR C W cp cc cb wp wc wb) (hc : Ch (fun _ => False) w w') : PO g w' pp d r aD aR BD BR C W cp cc cb wp wc wb := P.ch hc fun _ _ => id
theorem PO.lts (P : PO g w pp d r aD aR BD BR C W cp cc cb wp wc wb) : ∀ X ∈ [(· = pp), BD, BR, (fun b => cb = some b), (fun b => wb = some b), (· ∈ cowns C)], ∀ b, X b → b < w.heap.size := by
  intro X hX b hb
  refine P.lt b ?_
  simp only [List.mem_cons, List.not_mem_nil, or_false] at hX
  rcases hX with rfl | rfl | rfl | rfl | rfl | rfl
  · exact .inl hb
  · exact .inr (.inl hb)
  · exact .inr (.inr (.inl hb))
  · exact .inr (.inr (.inr (.inl hb)))
  · exact .inr (.inr (.inr (.inr (.inl hb))))
  · exact .inr (.inr (.inr (.inr (.inr hb))))
/-- the program's disk has done something -/
theorem PO.setD {aD' : AD} {BD' : Nat → Prop} (P : PO g w pp d r aD aR BD BR C W cp cc cb wp wc wb) (D : DK w' d aD' BD') (hc : Ch BD w w') (hB : ∀ b, BD' b → BD b ∨ w.heap.size ≤ b) : PO g w' pp d r aD' aR BD' BR C W cp cc cb wp wc wb := by
  have hat := (Dis.at (l1 := [(· = pp)]) (A := BD) P.dis)
  have hn : ∀ X ∈ [(· = pp), BR, (fun b => cb = some b), (fun b => wb = some b), (· ∈ cowns C)], ∀ b, X b → ¬ BD b := fun X hX b hb h => hat X hX b h hb
  refine ⟨by rw [hc.blk (blk_lt P.head) (hn (· = pp) (List.mem_cons_self ..) pp rfl)]; exact P.head, D, P.rk.ch hc fun b h => hn BR (by simp) b h, P.came.ch hc fun k h => hn _ (by simp : (fun b => cb = some b) ∈ _) k h, P.want.ch hc fun k h => hn _ (by simp : (fun b => wb = some b) ∈ _) k h,
    fun hg x hx => (P.each hg x hx).ch hc fun k h => hn _ (by simp : (· ∈ cowns C) ∈ _) k (List.mem_flatMap.2 ⟨x, hx, by simp [h]⟩), fun b hb => Nat.lt_of_lt_of_le (P.olt b hb) hc.size, P.nd, ?_⟩
  exact Dis.upd (l1 := [(· = pp)]) (n := w.heap.size) P.dis (fun X hX => P.lts X (by simp at hX ⊢; rcases hX with h | h | h | h | h <;> simp [h])) hB
theorem PO.setR {aR' : AD} {BR' : Nat → Prop} (P : PO g w pp d r aD aR BD BR C W cp cc cb wp wc wb) (D : RK w' r aR' BR') (hc : Ch BR w w') (hB : ∀ b, BR' b → BR b ∨ w.heap.size ≤ b) : PO g w' pp d r aD aR' BD BR' C W cp cc cb wp wc wb := by
  have hat := (Dis.at (l1 := [(· = pp), BD]) (A := BR) P.dis)
  have hn : ∀ X ∈ [(· = pp), BD, (fun b => cb = some b), (fun b => wb = some b), (· ∈ cowns C)], ∀ b, X b → ¬ BR b := fun X hX b hb h => hat X hX b h hb
  refine ⟨by rw [hc.blk (blk_lt P.head) (hn (· = pp) (List.mem_cons_self ..) pp rfl)]; exact P.head, P.dk.ch hc fun b h => hn BD (by simp) b h, D, P.came.ch hc fun k h => hn _ (by simp : (fun b => cb = some b) ∈ _) k h, P.want.ch hc fun k h => hn _ (by simp : (fun b => wb = some b) ∈ _) k h,
    fun hg x hx => (P.each hg x hx).ch hc fun k h => hn _ (by simp : (· ∈ cowns C) ∈ _) k (List.mem_flatMap.2 ⟨x, hx, by simp [h]⟩), fun b hb => Nat.lt_of_lt_of_le (P.olt b hb) hc.size, P.nd, ?_⟩
  exact Dis.upd (l1 := [(· = pp), BD]) (n := w.heap.size) P.dis (fun X hX => P.lts X (by simp at hX ⊢; rcases hX with h | h | h | h | h <;> simp [h])) hB
theorem strings_info : InfoIs Try.prog 9 1 16 (.string ⟨#[]⟩) := .of (by kernel_rfl) (by kernel_rfl) (by kernel_rfl)
/-- bytes that came out are kept -/
theorem PO.pushC {te : TypeId} (P : PO g w pp d r aD aR BD BR C W cp cc cb wp wc wb) (hlen : C.length < 2 ^ 42) {x : CL} (hx : Ow w x.p x.dat.length x.c 1 (bytesV x.dat) x.own) (hxn : ∀ k, x.own = some k → ¬ PB pp BD BR C cb wb k) {K : Option Addr → Nat → Nat → World → Prop}
    (hk : ∀ p' c' b' w7, (∀ Q : World → Prop, (∀ w8, PO g w8 pp d r aD aR BD BR (C ++ [x]) W p' c' b' wp wc wb → Ch (fun b => b = pp ∨ cb = some b) w w8 → Q w8) → st w7 ⟨pp, 2, none⟩ (.slice p' (C ++ [x]).length c') Q) → (∀ k, b' = some k → cb = some k ∨ w.heap.size ≤ k) → Ch (fun b => cb = some b) w w7 → K p' (C ++ [x]).length c' w7) :
    newB w [.slice x.p x.dat.length x.c] te fun a4 w6 => blk w6 pp = some [.pointer (some ⟨d, 0, none⟩), .pointer (some ⟨r, 0, none⟩), .slice cp C.length cc, .slice wp W.length wc] ∧ ∃ p7 n5 c4 w7, Sem.run Try.prog (Builtin.append_ #[46, 46] 46 #[.slice cp C.length cc, .slice (some a4) 1 1]) w6 = .ok (.slice p7 n5 c4) w7 ∧ K p7 n5 c4 w7 := by
  have hpp : pp < w.heap.size := blk_lt P.head
  have hat := (Dis.at (l1 := [(· = pp), BD, BR]) (A := fun b => cb = some b) P.dis)
  have hn : ∀ X ∈ [(· = pp), BD, BR, (fun b => wb = some b), (· ∈ cowns C)], ∀ b, X b → ¬ (cb = some b) := fun X hX b hb h => hat X hX b h hb
  have hatp := (Dis.at (l1 := []) (A := (· = pp)) P.dis)
  have key := push_ok (ty := 46) (te := te) (K := K) Try.underlying46 lists_info rfl CL.cells_len CL.cells_one P.came x (by omega) (by omega) fun p' c' b' w7 o' n' c7 => ?_
  · refine newB_mono' key fun a4 w6 c6 hk' => ⟨by rw [c6.blk hpp id]; exact P.head, hk'⟩
  refine hk p' c' b' w7 (fun Q hQ => ?_) n' c7
  have hh : blk w7 pp = some [.pointer (some ⟨d, 0, none⟩), .pointer (some ⟨r, 0, none⟩), .slice cp C.length cc, .slice wp W.length wc] := by rw [c7.blk hpp (hn (· = pp) (List.mem_cons_self ..) pp rfl)]; exact P.head
  refine st_blk hh (by simp) fun w8 b8 c8 z8 => hQ w8 ?_ ((c7.mono fun _ _ h => .inr h).trans' (c8.mono fun _ _ h => .inl h))
  have hnp : ∀ X ∈ [BD, BR, (fun b => cb = some b), (fun b => wb = some b), (· ∈ cowns C)], ∀ b, X b → ¬ (b = pp) := fun X hX b hb h => hatp X hX b h hb
  have hown : ∀ y ∈ C, ∀ k, y.own = some k → k ∈ cowns C := fun y hy k hk => List.mem_flatMap.2 ⟨y, hy, by simp [hk]⟩
  have ec : cowns (C ++ [x]) = cowns C ++ x.own.toList := by simp [cowns]
  refine ⟨b8, (P.dk.ch c7 fun b h => hn BD (by simp) b h).ch c8 fun b h => hnp BD (by simp) b h, (P.rk.ch c7 fun b h => hn BR (by simp) b h).ch c8 fun b h => hnp BR (by simp) b h, o'.ch c8 fun k hk e => ?_, (P.want.ch c7 fun k h => hn _ (by simp : (fun b => wb = some b) ∈ _) k h).ch c8 fun k h => hnp _ (by simp : (fun b => wb = some b) ∈ _) k h, fun hg y hy => ?_, fun b hb => ?_, ?_, ?_⟩
  · rcases n' k hk with h | h
    · exact hnp _ (by simp : (fun b => cb = some b) ∈ _) k h e
    · omega
  · rcases List.mem_append.1 hy with hy | hy
    · exact ((P.each hg y hy).ch c7 fun k h => hn _ (by simp : (· ∈ cowns C) ∈ _) k (hown y hy k h)).ch c8 fun k h => hnp _ (by simp : (· ∈ cowns C) ∈ _) k (hown y hy k h)
    · simp only [List.mem_singleton] at hy
      subst hy
      exact (hx.ch c7 fun k h e => hxn k h (.inr (.inr (.inr (.inl e))))).ch c8 fun k h e => hxn k h (.inl e)
  · have hz7 := c7.size
    rw [ec] at hb
    rcases List.mem_append.1 hb with h | h
    · have := P.olt b h; omega
    · have := hx.blt b (by simpa using h); omega
  · rw [ec]
    exact List.nodup_append.2 ⟨P.nd, by cases x.own <;> simp, fun u hu v hv e => by subst e; exact hxn u (by simpa using hv) (.inr (.inr (.inr (.inr (.inr hu)))))⟩
  · have d1 : Dis [(· = pp), BD, BR, (fun b => b' = some b), (fun b => wb = some b), (· ∈ cowns C)] := Dis.upd (l1 := [(· = pp), BD, BR]) (n := w.heap.size) P.dis (fun X hX => P.lts X (by simp at hX ⊢; rcases hX with h | h | h | h | h <;> simp [h])) n'
    rw [ec]
    have hxlt : ∀ k, x.own = some k → k < w.heap.size := hx.blt
    obtain ⟨q1, q2⟩ := List.pairwise_cons.1 d1
    obtain ⟨q3, q4⟩ := List.pairwise_cons.1 q2
    obtain ⟨q5, q6⟩ := List.pairwise_cons.1 q4
    obtain ⟨q7, q8⟩ := List.pairwise_cons.1 q6
    obtain ⟨q9, q10⟩ := List.pairwise_cons.1 q8
    have fin : ∀ A : Nat → Prop, (∀ b, A b → ¬ b ∈ cowns C) → (∀ k, x.own = some k → ¬ A k) → ∀ b, A b → ¬ b ∈ cowns C ++ x.own.toList := fun A h1 h2 b hb h => by
      rcases List.mem_append.1 h with h | h
      · exact h1 b hb h
      · exact h2 b (by simpa using h) hb
    refine List.pairwise_cons.2 ⟨fun X hX => ?_, List.pairwise_cons.2 ⟨fun X hX => ?_, List.pairwise_cons.2 ⟨fun X hX => ?_, List.pairwise_cons.2 ⟨fun X hX => ?_, List.pairwise_cons.2 ⟨fun X hX => ?_, List.pairwise_singleton ..⟩⟩⟩⟩⟩
    · simp only [List.mem_cons, List.not_mem_nil, or_false] at hX
      rcases hX with rfl | rfl | rfl | rfl | rfl
      · exact q1 _ (by simp)
      · exact q1 _ (by simp)
      · exact q1 _ (by simp)
      · exact q1 _ (by simp)
      · exact fin _ (q1 _ (by simp)) fun k hk h => hxn k hk (.inl h)
    · simp only [List.mem_cons, List.not_mem_nil, or_false] at hX
      rcases hX with rfl | rfl | rfl | rfl
      · exact q3 _ (by simp)
      · exact q3 _ (by simp)
      · exact q3 _ (by simp)
      · exact fin _ (q3 _ (by simp)) fun k hk h => hxn k hk (.inr (.inl h))
    · simp only [List.mem_cons, List.not_mem_nil, or_false] at hX
      rcases hX with rfl | rfl | rfl
      · exact q5 _ (by simp)
      · exact q5 _ (by simp)
      · exact fin _ (q5 _ (by simp)) fun k hk h => hxn k hk (.inr (.inr (.inl h)))
    · simp only [List.mem_cons, List.not_mem_nil, or_false] at hX
      rcases hX with rfl | rfl
      · exact q7 _ (by simp)
      · exact fin _ (q7 _ (by simp)) fun k hk h => by
          rcases n' k h with h | h
          · exact hxn k hk (.inr (.inr (.inr (.inl h))))
          · have := hxlt k hk; omega
    · simp only [List.mem_cons, List.not_mem_nil, or_false] at hX
      subst hX
      exact fin _ (q9 _ (by simp)) fun k hk h => hxn k hk (.inr (.inr (.inr (.inr (.inl h)))))
/-- .. and what they should be -/
theorem PO.pushW {te : TypeId} (P : PO g w pp d r aD aR BD BR C W cp cc cb wp wc wb) (hlen : W.length < 2 ^ 42) {l : List UInt8} {K : Option Addr → Nat → Nat → World → Prop}
    (hk : ∀ p' c' b' w7, (∀ Q : World → Prop, (∀ w8, PO g w8 pp d r aD aR BD BR C (W ++ [l]) cp cc cb p' c' b' → Ch (fun b => b = pp ∨ wb = some b) w w8 → Q w8) → st w7 ⟨pp, 3, none⟩ (.slice p' (W ++ [l]).length c') Q) → (∀ k, b' = some k → wb = some k ∨ w.heap.size ≤ k) → Ch (fun b => wb = some b) w w7 → K p' (W ++ [l]).length c' w7) :
    newB w [.string (strB l)] te fun a4 w6 => blk w6 pp = some [.pointer (some ⟨d, 0, none⟩), .pointer (some ⟨r, 0, none⟩), .slice cp C.length cc, .slice wp W.length wc] ∧ ∃ p7 n5 c4 w7, Sem.run Try.prog (Builtin.append_ #[54, 54] 54 #[.slice wp W.length wc, .slice (some a4) 1 1]) w6 = .ok (.slice p7 n5 c4) w7 ∧ K p7 n5 c4 w7 := by
  have hpp : pp < w.heap.size := blk_lt P.head
  have hat := (Dis.at (l1 := [(· = pp), BD, BR, fun b => cb = some b]) (A := fun b => wb = some b) P.dis)
  have hn : ∀ X ∈ [(· = pp), BD, BR, (fun b => cb = some b), (· ∈ cowns C)], ∀ b, X b → ¬ (wb = some b) := fun X hX b hb h => hat X hX b h hb
  have hatp := (Dis.at (l1 := []) (A := (· = pp)) P.dis)
  have key := push_ok (ty := 54) (te := te) (K := K) Try.underlying54 strings_info rfl wcell_len wcell_one P.want l (by omega) (by omega) fun p' c' b' w7 o' n' c7 => ?_
  · refine newB_mono' key fun a4 w6 c6 hk' => ⟨by rw [c6.blk hpp id]; exact P.head, hk'⟩
  refine hk p' c' b' w7 (fun Q hQ => ?_) n' c7
  have hh : blk w7 pp = some [.pointer (some ⟨d, 0, none⟩), .pointer (some ⟨r, 0, none⟩), .slice cp C.length cc, .slice wp W.length wc] := by rw [c7.blk hpp (hn (· = pp) (List.mem_cons_self ..) pp rfl)]; exact P.head
  refine st_blk hh (by simp) fun w8 b8 c8 z8 => hQ w8 ?_ ((c7.mono fun _ _ h => .inr h).trans' (c8.mono fun _ _ h => .inl h))
  have hnp : ∀ X ∈ [BD, BR, (fun b => cb = some b), (fun b => wb = some b), (· ∈ cowns C)], ∀ b, X b → ¬ (b = pp) := fun X hX b hb h => hatp X hX b h hb
  have hown : ∀ y ∈ C, ∀ k, y.own = some k → k ∈ cowns C := fun y hy k hk => List.mem_flatMap.2 ⟨y, hy, by simp [hk]⟩
  refine ⟨b8, (P.dk.ch c7 fun b h => hn BD (by simp) b h).ch c8 fun b h => hnp BD (by simp) b h, (P.rk.ch c7 fun b h => hn BR (by simp) b h).ch c8 fun b h => hnp BR (by simp) b h, (P.came.ch c7 fun k h => hn _ (by simp : (fun b => cb = some b) ∈ _) k h).ch c8 fun k h => hnp _ (by simp : (fun b => cb = some b) ∈ _) k h, o'.ch c8 fun k hk e => ?_, fun hg y hy => ?_, fun b hb => by have := P.olt b hb; have := c7.size; omega, P.nd, ?_⟩
  · rcases n' k hk with h | h
    · exact hnp _ (by simp : (fun b => wb = some b) ∈ _) k h e
    · omega
  · exact ((P.each hg y hy).ch c7 fun k h => hn _ (by simp : (· ∈ cowns C) ∈ _) k (hown y hy k h)).ch c8 fun k h => hnp _ (by simp : (· ∈ cowns C) ∈ _) k (hown y hy k h)
  · exact Dis.upd (l1 := [(· = pp), BD, BR, fun b => cb = some b]) (n := w.heap.size) P.dis (fun X hX => P.lts X (by simp at hX ⊢; rcases hX with h | h | h | h | h <;> simp [h])) n'
end
end Go.Proofs.Ytncbmfinndcojaa
