/-
  The pair's load: both anew, of their files.
-/
import Derived.Test.YtncbmfinndcojaaPairC
namespace Go.Proofs.Ytncbmfinndcojaa
open Go Go.Sv Go.MapKept
set_option linter.unusedVariables false
set_option maxRecDepth 10000

def ofF (x : OF) : FV := { name := x.f.name, dat := x.f.dat, safe := (x.f.safe : Int), p := x.p, c := x.c }
def keyF (x : FV) : ByteArray × List UInt8 × Int := (x.name, x.dat, x.safe)
theorem addAll_congr : ∀ (L L' : List FV) (fs : List File), L.map keyF = L'.map keyF → addAll fs L = addAll fs L'
  | [], [], _, _ => rfl
  | x :: L, y :: L', fs, h => by
    simp only [List.map_cons, List.cons.injEq] at h
    obtain ⟨h1, h2⟩ := h
    simp only [keyF, Prod.mk.injEq] at h1
    have e1 : x.file = y.file := by unfold FV.file; rw [h1.1, h1.2.1, h1.2.2]
    have e2 : badF fs x ↔ badF fs y := by unfold badF; rw [h1.1, h1.2.1, h1.2.2]
    unfold addAll
    by_cases hb : badF fs x
    · rw [if_pos hb, if_pos (e2.1 hb)]
    · rw [if_neg hb, if_neg fun h => hb (e2.2 h), e1, addAll_congr L L' _ h2]
  | [], _ :: _, _, h => by simp at h
  | _ :: _, [], _, h => by simp at h
theorem loadS_congr {room : Int} {L L' : List FV} (h : L.map keyF = L'.map keyF) : loadS room L = loadS room L' := by unfold loadS; rw [addAll_congr L L' [] h]
theorem ofF_keys {O O' : List OF} (h : O.map (·.f) = O'.map (·.f)) : (O.map ofF).map keyF = (O'.map ofF).map keyF := by
  have h1 := congrArg (List.map fun f : File => (f.name, f.dat, (f.safe : Int))) h
  rw [List.map_map, List.map_map] at h1 ⊢
  exact h1
theorem fvin_of {w : World} {p : Option Addr} {O : List OF} {a : AD} (h : FilesD w p O) (hO : O.map (·.f) = a.fs) (wf : WF a) (hl : a.fs.length < 2 ^ 41) : FVIn w p (O.map ofF) := by
  have htot := wf.tot
  have hm : ∀ x ∈ O, x.f ∈ a.fs := fun x hx => hO ▸ List.mem_map.2 ⟨x, hx, rfl⟩
  have hlen : O.length = a.fs.length := by have := congrArg List.length hO; simpa using this
  refine ⟨?_, fun x hx => ?_, fun x hx => ?_, fun x hx => ?_, ?_, by simp; omega⟩
  · rw [List.length_map, List.flatMap_map]; exact h.row
  · obtain ⟨y, hy, rfl⟩ := List.mem_map.1 hx
    exact h.dat y hy
  · obtain ⟨y, hy, rfl⟩ := List.mem_map.1 hx
    have := wf.names y.f (hm y hy)
    unfold nameOk at this
    simp at this
    show y.f.name.size ≤ _
    omega
  · obtain ⟨y, hy, rfl⟩ := List.mem_map.1 hx
    have := dat_le_total (hm y hy)
    show y.f.dat.length ≤ _
    omega
  · rw [List.map_map]
    have : (O.map ((fun x : FV => x.dat.length) ∘ ofF)).sum = total a.fs := by
      rw [← hO]; unfold total; rw [List.map_map]; rfl
    rw [this]; omega
theorem loadS_len {room : Int} {L : List FV} {a : AD} (h : loadS room L = (0, some a)) : a.fs.length = L.length ∧ a.down = false ∧ a.keep = 0 := by
  unfold loadS at h
  split at h
  · cases h
  · cases hadd : addAll [] L with
    | none => rw [hadd] at h; cases h
    | some fs =>
      rw [hadd] at h
      simp only at h
      split at h
      · cases h
      · simp only [Prod.mk.injEq, Option.some.injEq, true_and] at h
        subst h
        have key : ∀ (L : List FV) (fs0 fs : List File), addAll fs0 L = some fs → fs.length = fs0.length + L.length := by
          intro L
          induction L with
          | nil => intro fs0 fs h; simp only [addAll, Option.some.injEq] at h; subst h; rfl
          | cons x L ih =>
            intro fs0 fs h
            unfold addAll at h
            split at h
            · cases h
            · have := ih _ _ h
              simp at this ⊢
              omega
        have := key L [] fs hadd
        simp at this
        exact ⟨this, rfl, rfl⟩
theorem own_neF {O : List OF} (h : (dbl O).Nodup) {i j : Nat} {x y : OF} (hi : O[i]? = some x) (hj : O[j]? = some y) (hne : i ≠ j) : ∀ k, x.own = some k → y.own ≠ some k := by
  have e : bowns (O.map fun x => ({ p := x.p, n := x.f.dat.length, c := x.c, own := x.own } : BL)) = dbl O := by unfold bowns dbl; rw [List.flatMap_map]
  exact own_ne (T := O.map fun x => ({ p := x.p, n := x.f.dat.length, c := x.c, own := x.own } : BL)) (by rw [e]; exact h) (by rw [List.getElem?_map, hi]; rfl) (by rw [List.getElem?_map, hj]; rfl) hne
section
variable {g : Bool} {w w' : World} {pp d r : Nat} {aD aR : AD} {BD BR : Nat → Prop} {C : List CL} {W : List (List UInt8)} {cp : Option Addr} {cc : Nat} {cb : Option Nat} {wp : Option Addr} {wc : Nat} {wb : Option Nat}
/-- both disks are replaced by new ones -/
theorem PO.renew {d' r' n : Nat} {a' : AD} {BD' BR' : Nat → Prop} {K : World → Prop} (P : PO g w pp d r aD aR BD BR C W cp cc cb wp wc wb) (D : DK w d' a' BD') (R : RK w r' a' BR') (hn : ∀ b, PB pp BD BR C cb wb b → b < n) (hBD : ∀ b, BD' b → n ≤ b) (hBR : ∀ b, BR' b → n ≤ b) (hDR : ∀ b, BD' b → ¬ BR' b)
    (hk : ∀ w', PO g w' pp d' r' a' a' BD' BR' C W cp cc cb wp wc wb → Ch (· = pp) w w' → K w') : st w ⟨pp, 0, none⟩ (.pointer (some ⟨d', 0, none⟩)) fun w7 => st w7 ⟨pp, 1, none⟩ (.pointer (some ⟨r', 0, none⟩)) fun w8 => K w8 := by
  have hatp := (Dis.at (l1 := []) (A := (· = pp)) P.dis)
  have hnp : ∀ X ∈ [BD, BR, (fun b => cb = some b), (fun b => wb = some b), (· ∈ cowns C)], ∀ b, X b → ¬ (b = pp) := fun X hX b hb h => hatp X hX b h hb
  have hpp : pp < n := hn pp (.inl rfl)
  refine st_blk P.head (by simp) fun w1 b1 c1 z1 => st_blk b1 (by simp) fun w2 b2 c2 z2 => ?_
  have hc := c1.trans' c2
  have hown : ∀ y ∈ C, ∀ k, y.own = some k → k ∈ cowns C := fun y hy k hk => List.mem_flatMap.2 ⟨y, hy, by simp [hk]⟩
  refine hk w2 ⟨b2, D.ch hc fun b h e => by have := hBD b h; omega, R.ch hc fun b h e => by have := hBR b h; omega, P.came.ch hc fun k h => hnp _ (by simp : (fun b => cb = some b) ∈ _) k h, P.want.ch hc fun k h => hnp _ (by simp : (fun b => wb = some b) ∈ _) k h,
    fun hg y hy => (P.each hg y hy).ch hc fun k h => hnp _ (by simp : (· ∈ cowns C) ∈ _) k (hown y hy k h), fun b hb => by have := P.olt b hb; omega, P.nd, ?_⟩ hc
  obtain ⟨q1, q2⟩ := List.pairwise_cons.1 P.dis
  obtain ⟨q3, q4⟩ := List.pairwise_cons.1 q2
  obtain ⟨q5, q6⟩ := List.pairwise_cons.1 q4
  have old : ∀ X ∈ [(fun b => cb = some b), (fun b => wb = some b), (· ∈ cowns C)], ∀ b, X b → b < n := fun X hX b hb => by
    simp only [List.mem_cons, List.not_mem_nil, or_false] at hX
    rcases hX with rfl | rfl | rfl
    · exact hn b (.inr (.inr (.inr (.inl hb))))
    · exact hn b (.inr (.inr (.inr (.inr (.inl hb)))))
    · exact hn b (.inr (.inr (.inr (.inr (.inr hb)))))
  refine List.pairwise_cons.2 ⟨fun X hX => ?_, List.pairwise_cons.2 ⟨fun X hX => ?_, List.pairwise_cons.2 ⟨fun X hX b hb h => ?_, q6⟩⟩⟩
  · rcases List.mem_cons.1 hX with rfl | hX
    · intro b hb h; have := hBD b h; omega
    · rcases List.mem_cons.1 hX with rfl | hX
      · intro b hb h; have := hBR b h; omega
      · exact q1 X (List.mem_cons_of_mem _ (List.mem_cons_of_mem _ hX))
  · rcases List.mem_cons.1 hX with rfl | hX
    · exact hDR
    · intro b hb h; have := old X hX b h; have := hBD b hb; omega
  · have := old X hX b h; have := hBR b hb; omega
end
set_option maxHeartbeats 4000000 in
theorem pload_ok {g : Bool} {w : World} {pp : Nat} {B : Nat → Prop} {f c : Nat} {room : Int} {K : Value → World → Prop} (P : PX g w pp B f c) (hf : f < 2 ^ 40)
    (hk : XPost g w pp B f c (K (.bool true))) : callP Try.prog 51 [.pointer (some ⟨pp, 0, none⟩), .int .i64 room] w K := by
  obtain ⟨d, r, a, BD, BR, C, W, cp, cc, cb, wp, wc, wb, P, rfl, haf, hCl, hWl, hrest⟩ := P
  have hsrt := sorted_self P.rk.sort
  have wf := P.dk.wf
  have hPlt := P.lt
  refine ok_longshorelaw19_pair_load ?_
  unfold wp_longshorelaw19_pair_load
  simp only [nn_some, add_at, Nat.zero_add]
  refine ⟨_, P.c0, filesS_ok P.dk (by omega) fun p2 c2 ob O w1 BD1 D1 c1 n1 FR hO hnew => ⟨_, _, _, rfl, ?_⟩⟩
  rw [hsrt] at D1 hO
  have P1 := P.setD D1 c1 fun b h => .inl (n1 b h)
  have hOl : O.length = a.fs.length := by have := congrArg List.length hO; simpa using this
  have I1 := fvin_of FR.rd hO wf (by omega)
  have hlm : (O.map ofF).length = O.length := by simp
  rw [← hlm]
  refine callP_mono (load_ok (K := fun v w2 => ∃ (q : Option Addr) (n : Int), v = .tuple #[.pointer q, .int .i64 n] ∧ Ch (fun _ => False) w1 w2 ∧ ((q = none ∧ loadS room (O.map ofF) = (n, none)) ∨ ∃ a' d' B', q = some ⟨d', 0, none⟩ ∧ n = 0 ∧ loadS room (O.map ofF) = (0, some a') ∧ DK w2 d' a' B' ∧ ∀ b, B' b → w1.heap.size ≤ b)) I1
    (fun e w' h1 h2 => ⟨_, _, rfl, h2, .inl ⟨rfl, h1⟩⟩) fun a' d' w' B' h1 h2 h3 h4 => ⟨_, _, rfl, h3, .inr ⟨a', d', B', rfl, rfl, h1, h2, h4⟩⟩) ?_
  rintro v w2 ⟨dp, dn, rfl, k2, hd⟩
  refine ⟨_, _, rfl, ?_⟩
  have P2 := P1.ch0 k2
  refine ⟨_, P2.c1, rfiles_ok P2.rk (fun f hf => by have := dat_le_total hf; have := wf.tot; omega) (by omega) fun p4 c4 ob2 O2 w3 k3 FR2 hO2 hnew2 => ⟨_, _, _, rfl, ?_⟩⟩
  have P3 := P2.ch0 k3
  have I2 := fvin_of FR2.rd hO2 wf (by omega)
  have hlm2 : (O2.map ofF).length = O2.length := by simp
  rw [← hlm2]
  have hload : loadS room (O2.map ofF) = loadS room (O.map ofF) := loadS_congr (ofF_keys (by rw [hO, hO2]))
  refine callP_mono (rload_ok (K := fun v w4 => ∃ (q : Option Addr) (n : Int), v = .tuple #[.pointer q, .int .i64 n] ∧ Ch (fun _ => False) w3 w4 ∧ ((q = none ∧ loadS room (O.map ofF) = (n, none)) ∨ ∃ a' r' B', q = some ⟨r', 0, none⟩ ∧ n = 0 ∧ loadS room (O.map ofF) = (0, some a') ∧ RK w4 r' a'.sorted B' ∧ ∀ b, B' b → w3.heap.size ≤ b)) I2
    (fun e w' h1 h2 => ⟨_, _, rfl, h2, .inl ⟨rfl, by rw [← hload]; exact h1⟩⟩) fun a' r' w' B' h1 h2 h3 h4 => ⟨_, _, rfl, h3, .inr ⟨a', r', B', rfl, rfl, by rw [← hload]; exact h1, h2, h4⟩⟩) ?_
  rintro v w4 ⟨rp, rn, rfl, k4, hr⟩
  refine ⟨_, _, rfl, ?_⟩
  have P4 := P3.ch0 k4
  have k14 : Ch (fun _ => False) w1 w4 := (k2.new k3).new k4
  have FR4 := FR.ch k14 fun _ _ => id
  have hFl := FR.lt
  have hz1 := c1.size
  have hz2 := k2.size
  have hz3 := k3.size
  have hOb : ∀ b ∈ FilesR.bl ob O, w.heap.size ≤ b ∧ b < w1.heap.size := fun b hb => ⟨hnew b hb, hFl b hb⟩
  have hPB1 : ∀ b, PB pp BD1 BR C cb wb b → b < w.heap.size := fun b hb => by
    rcases PB_sub (n := w.heap.size) (C := C) (cb := cb) (wb := wb) (BD := BD) (BR := BR) (fun b h => .inl (n1 b h)) (fun b h => .inl h) (fun b h => .inl h) (fun b h => .inl h) (fun b h => .inl h) b hb with h | h
    · exact hPlt b h
    · rcases hb with h2 | h2 | h2 | h2 | h2 | h2
      · exact hPlt b (.inl h2)
      · exact hPlt b (.inr (.inl (n1 b h2)))
      · exact hPlt b (.inr (.inr (.inl h2)))
      · exact hPlt b (.inr (.inr (.inr (.inl h2))))
      · exact hPlt b (.inr (.inr (.inr (.inr (.inl h2)))))
      · exact hPlt b (.inr (.inr (.inr (.inr (.inr h2)))))
  have hPB : ∀ b, PB pp BD1 BR C cb wb b → PB pp BD BR C cb wb b := by
    rintro b (h | h | h)
    · exact .inl h
    · exact .inr (.inl (n1 b h))
    · exact .inr (.inr h)
  have hc4 : Ch (PB pp BD BR C cb wb) w w4 := (c1.mono fun b _ h => .inr (.inl h)).new k14
  have hnd := FR.nodup
  have hdn : (dbl O).Nodup := (List.nodup_append.1 hnd).2.1
  have hobd : ∀ k, ob = some k → k ∉ dbl O := fun k hk2 h => by
    rw [hk2] at hnd
    simp only [Option.toList_some, List.singleton_append] at hnd
    exact (List.nodup_cons.1 hnd).1 h
  have hnn : dn = rn ∧ Option.isNone dp = Option.isNone rp := by
    rcases hd with ⟨rfl, h1⟩ | ⟨a1, d1, B1, rfl, rfl, h1, _⟩
    · rcases hr with ⟨rfl, h2⟩ | ⟨a2, r2, B2, rfl, rfl, h2, _⟩
      · rw [h1] at h2; cases h2; exact ⟨rfl, rfl⟩
      · rw [h1] at h2; cases h2
    · rcases hr with ⟨rfl, h2⟩ | ⟨a2, r2, B2, rfl, rfl, h2, _⟩
      · rw [h1] at h2; cases h2
      · exact ⟨rfl, rfl⟩
  -- what was read is written over
  refine ⟨fun w' => w' = w4, ?_, ?_⟩
  rotate_left
  · rw [hnn.1, hnn.2]
    refine Sif_cases (fun _ => Sif_cases (fun q => ?_) fun _ => rfl) fun q => ?_
    · simp at q
    · simp at q
  rintro w5 rfl
  refine ⟨fun m k w' => ∃ (i : Nat) (F : List OF), k = i ∧ i ≤ O.length ∧ m = O.length - i ∧ F.length = O.length ∧ (∀ j, i ≤ j → F[j]? = O[j]?) ∧ Ow w' p2 O.length c2 3 (F.flatMap OF.cells) ob ∧ (∀ (j : Nat) (x : OF), O[j]? = some x → i ≤ j → ∃ xs, Ow w' x.p x.f.dat.length x.c 1 xs x.own) ∧ Ch (fun b => b ∈ FilesR.bl ob O) w5 w',
    ⟨O.length, 0, O, rfl, by omega, by omega, rfl, fun _ _ => rfl, FR4.row, fun j x hx _ => ⟨_, FR4.dat x (List.mem_of_getElem? hx)⟩, Ch.refl _ _⟩, ?_⟩
  rintro m k w6 ⟨i, F, rfl, hi, rfl, hFl', hFe, o6, e6, c6⟩
  rw [hlm]
  refine Sif_cases (fun q => ?_) fun q => ?_
  · have hlt : i < O.length := by have := of_decide_eq_true q; omega
    have hx : O[i]? = some O[i] := List.getElem?_eq_getElem hlt
    generalize O[i] = x at hx
    have hxm := List.mem_of_getElem? hx
    have hFi : F[i]? = some x := by rw [hFe i (Nat.le_refl _), hx]
    obtain ⟨xs0, ox⟩ := e6 i x hx (Nat.le_refl _)
    have hxo : ∀ k, x.own = some k → k ∈ dbl O := fun k hk2 => List.mem_flatMap.2 ⟨x, hxm, by simp [hk2]⟩
    refine ⟨fun m' k' w' => ∃ (j : Nat) (xs : List Value), k' = j ∧ j ≤ x.f.dat.length ∧ m' = x.f.dat.length - j ∧ Ow w' x.p x.f.dat.length x.c 1 xs x.own ∧ Ch (fun b => x.own = some b) w6 w', ⟨x.f.dat.length, 0, xs0, rfl, by omega, by omega, ox, Ch.refl _ _⟩, ?_⟩
    rintro m' k' w7 ⟨j, xs, rfl, hj, rfl, o7, c7⟩
    have hdt := dat_le_total (hO ▸ List.mem_map.2 ⟨x, hxm, rfl⟩ : x.f ∈ a.fs)
    have htt := wf.tot
    have o67 : Ow w7 p2 O.length c2 3 (F.flatMap OF.cells) ob := o6.ch c7 fun k hk2 h => hobd k hk2 (hxo k h)
    have hrd := o67.rd
    rw [← hFl'] at hrd
    obtain ⟨kb, ko, rfl, hcr⟩ := Rd.at OF.cells_len hrd hFi (by omega)
    simp only [nn_some, add_at, Int.toNat_natCast, Nat.add_zero]
    refine ⟨by omega, by omega, _, _, _, hcr 1 _ rfl, Sif_cases (fun q2 => ?_) fun q2 => ?_⟩
    · have hjl : j < x.f.dat.length := by have := of_decide_eq_true q2; omega
      obtain ⟨yb, yo, hyp, hyo, hst⟩ := o7.st (i := j) (by omega)
      refine ⟨by omega, by omega, _, _, _, hcr 1 _ rfl, by omega, by omega, ?_⟩
      rw [hyp]
      simp only [nn_some, add_at, Int.toNat_natCast, Nat.add_zero, Nat.mul_one]
      refine hst _ _ fun w8 o8 c8 z8 => ?_
      rw [nameI_iff, wrap_id (by omega) (by omega)]
      rw [hyp] at o8
      exact ⟨x.f.dat.length - (j + 1), by omega, j + 1, _, by simp, by omega, rfl, o8, c7.more c8 fun b hb => by rw [hb]; exact hyo⟩
    · obtain ⟨xb, xo, e1, e2, hst⟩ := o67.st (i := i * 3) (by omega)
      cases e1
      refine ⟨by omega, by omega, hst _ _ fun w8 o8 c8 z8 => ?_⟩
      obtain ⟨_, _, e1, _, hst⟩ := o8.st (i := i * 3 + 1) (by omega)
      cases e1
      rw [show ko + i * 3 + 1 = ko + (i * 3 + 1) by omega]
      refine hst _ _ fun w9 o9 c9 z9 => ?_
      obtain ⟨_, _, e1, _, hst⟩ := o9.st (i := i * 3 + 2) (by omega)
      cases e1
      rw [show ko + i * 3 + 2 = ko + (i * 3 + 2) by omega]
      refine hst _ _ fun w10 o10 c10 z10 => ?_
      rw [nameI_iff, wrap_id (by omega) (by omega)]
      have hs1 := flat_set OF.cells_len (x' := { x with f := { x.f with name := ⟨#[]⟩ } }) F i 0 (.string ⟨#[]⟩) hFi (by omega) rfl
      rw [Nat.add_zero] at hs1
      have hs2 := flat_set OF.cells_len (x' := { f := { name := ⟨#[]⟩, dat := [], safe := x.f.safe }, p := none, c := 0, own := none }) (F.set i { x with f := { x.f with name := ⟨#[]⟩ } }) i 1 (.slice none 0 0) (x := { x with f := { x.f with name := ⟨#[]⟩ } }) (List.getElem?_set_self (by omega)) (by omega) rfl
      have hs3 := flat_set OF.cells_len (x' := { f := { name := ⟨#[]⟩, dat := [], safe := 0 }, p := none, c := 0, own := none }) ((F.set i { x with f := { x.f with name := ⟨#[]⟩ } }).set i { f := { name := ⟨#[]⟩, dat := [], safe := x.f.safe }, p := none, c := 0, own := none }) i 2 (.int .i64 0) (x := { f := { name := ⟨#[]⟩, dat := [], safe := x.f.safe }, p := none, c := 0, own := none }) (List.getElem?_set_self (by simp; omega)) (by omega) rfl
      rw [hs1, hs2, hs3] at o10
      have hc710 : Ch (fun k => k = kb) w7 w10 := (c8.trans' c9).trans' c10
      refine ⟨O.length - (i + 1), by omega, i + 1, _, by simp, by omega, rfl, by simpa using hFl', fun j' hj' => ?_, o10, fun j' y hy hj' => ?_, (c6.more c7 fun b hb => List.mem_append.2 (.inr (hxo b hb))).more hc710 fun b hb => by rw [hb]; simp [FilesR.bl, e2]⟩
      · rw [List.getElem?_set_ne (by omega), List.getElem?_set_ne (by omega), List.getElem?_set_ne (by omega)]
        exact hFe j' (by omega)
      · obtain ⟨ys, oy⟩ := e6 j' y hy (by omega)
        exact ⟨ys, (oy.ch c7 fun k hk2 h => own_neF hdn hy hx (by omega) k hk2 h).ch hc710 fun k hk2 h => hobd kb e2 (h ▸ List.mem_flatMap.2 ⟨y, List.mem_of_getElem? hy, by simp [hk2]⟩)⟩
  · have P6 := P4.ch c6 fun b hb h => by have := hPB1 b hb; have := (hOb b h).1; omega
    have hc6 : Ch (PB pp BD BR C cb wb) w w6 := hc4.trans c6 fun b hb h => by have := (hOb b h).1; omega
    refine ⟨fun w' => K (.bool true) w', fun _ h => h, ?_⟩
    rcases hd with ⟨rfl, h1⟩ | ⟨a1, d1, B1, rfl, rfl, h1, D2, hB1⟩
    · exact Sif_false (hk w6 _ ⟨d, r, a, BD1, BR, C, W, cp, cc, cb, wp, wc, wb, P6, rfl, haf, hCl, hWl, hrest⟩ hc6 fun b hb => .inl (hPB b hb))
    · rcases hr with ⟨rfl, h2⟩ | ⟨a2, r2, B2, rfl, rfl, h2, R4, hB2⟩
      · rw [h1] at h2; cases h2
      rw [h1] at h2
      simp only [Prod.mk.injEq, Option.some.injEq, true_and] at h2
      subst h2
      obtain ⟨hl1, hl2, hl3⟩ := loadS_len h1
      have hD2l := D2.lt
      have D6 : DK w6 d1 a1.sorted B1 := (((D2.ch k3 fun _ _ => id).ch k4 fun _ _ => id).ch c6 fun b hb h => by have := hB1 b hb; have := (hOb b h).2; omega).sort
      have R6 : RK w6 r2 a1.sorted B2 := R4.ch c6 fun b hb h => by have := hB2 b hb; have := (hOb b h).2; omega
      refine Sif_true (Sif_true ?_)
      refine P6.renew (n := w1.heap.size) D6 R6 (fun b hb => by have := hPB1 b hb; omega) hB1 (fun b hb => by have := hB2 b hb; omega) (fun b hb h => by have := hD2l b hb; have := hB2 b h; omega) fun w8 P8 c8 => ?_
      refine hk w8 _ ⟨d1, r2, a1.sorted, B1, B2, C, W, cp, cc, cb, wp, wc, wb, P8, rfl, by rw [sorted_len, hl1, hlm]; omega, hCl, hWl, by show _ ≤ a1.keep; rw [hl3]; omega, hrest.2⟩ (hc6.more c8 fun b hb => .inl hb) ?_
      rintro b (h | h | h | h)
      · exact .inl (.inl h)
      · exact .inr (by have := hB1 b h; omega)
      · exact .inr (by have := hB2 b h; omega)
      · exact .inl (.inr (.inr (.inr h)))
end Go.Proofs.Ytncbmfinndcojaa
