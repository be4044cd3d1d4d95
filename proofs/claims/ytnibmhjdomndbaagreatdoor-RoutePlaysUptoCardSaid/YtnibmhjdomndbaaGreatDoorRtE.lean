/-
  Topic, Pattern of the document; the program's cut. The program's cut: the parts of a pattern or of a topic, or none.
-/
import Derived.Test.YtnibmhjdomndbaaGreatDoorRtC
namespace Go.Proofs.YtnibmhjdomndbaaGreatDoor
open Go Go.Sv Go.Rt
set_option linter.unusedVariables false
theorem part_size {s x : ByteArray} (hx : x ∈ parts s) : x.size ≤ s.size := by
  have key : ∀ (l : List UInt8) (a : List UInt8), a ∈ splitDot l → a.length ≤ l.length := by
    intro l
    induction l with
    | nil => intro a ha; simp [splitDot] at ha; subst ha; exact Nat.le_refl _
    | cons c l ih =>
      intro a ha
      unfold splitDot at ha
      split at ha
      · rcases List.mem_cons.1 ha with rfl | h
        · simp
        · have := ih a h; simp; omega
      · split at ha
        · simp at ha; subst ha; simp
        · rename_i x r e
          rcases List.mem_cons.1 ha with rfl | h
          · have := ih x (by rw [e]; simp); simp; omega
          · have := ih a (by rw [e]; simp [h]); simp; omega
  obtain ⟨a, ha, rfl⟩ := List.mem_map.1 hx
  have := key _ a ha
  simpa [← ByteArray.size_data] using this
theorem take_all {α : Type} {L : List α} {f : α → Bool} {i : Nat} {x : α} (h : ∀ y ∈ L.take i, f y = true) (hx : L[i]? = some x) (hf : f x = true) : ∀ y ∈ L.take (i + 1), f y = true := by
  intro y hy
  rw [List.take_add_one, hx, Option.toList_some] at hy
  rcases List.mem_append.1 hy with hy | hy
  · exact h y hy
  · rw [List.mem_singleton.1 hy]; exact hf
theorem all_of_take {α : Type} {L : List α} {f : α → Bool} (h : ∀ y ∈ L.take L.length, f y = true) : L.all f = true := by
  rw [List.take_length] at h; exact List.all_eq_true.2 h
theorem not_all_at {α : Type} {L : List α} {f : α → Bool} {i : Nat} {x : α} (hx : L[i]? = some x) (hf : f x = false) : L.all f = false :=
  List.all_eq_false.2 ⟨x, List.mem_of_getElem? hx, by simp [hf]⟩
set_option maxHeartbeats 1000000 in
theorem topic_ok {s : ByteArray} {w : World} {K : Value → World → Prop} (hs : s.size ≤ 2 ^ 40) (hk : ∀ w', Ch (fun _ => False) w w' → K (.bool (isTop s)) w') : callP Tryz.prog 41 [.string s] w K := by
  refine ok_longshoreref18_Topic ?_
  unfold wp_longshoreref18_Topic
  refine parts_ok hs fun p c b w1 N => ⟨_, _, _, rfl, ?_⟩
  have hpl : (parts s).length ≤ s.size + 1 := by
    rw [parts, List.length_map, splitDot_len]
    have := List.count_le_length (a := (46 : UInt8)) (l := s.data.toList)
    have h2 : s.data.toList.length = s.size := by simp
    omega
  refine ⟨fun m n1 w2 => ∃ i : Nat, n1 = (i : Int) ∧ m + i = (parts s).length ∧ (∀ y ∈ (parts s).take i, word y = true) ∧ w2 = w1, ⟨_, 0, rfl, rfl, by simp, rfl⟩, ?_⟩
  rintro m n1 w2 ⟨i, rfl, hm, hg, rfl⟩
  refine Sif_cases (fun h => ?_) fun h => ?_
  · have h := of_decide_eq_true h
    have hx : (parts s)[i]? = some (parts s)[i] := List.getElem?_eq_getElem (by omega)
    obtain ⟨b', o, rfl, hc⟩ := sAt N.rd hx
    refine ⟨by omega, h, ?_⟩
    rw [nn_some]
    simp only [add_at, Int.toNat_natCast, Nat.mul_one]
    refine ⟨_, hc, ?_⟩
    refine word_ok (Nat.le_trans (part_size (List.mem_of_getElem? hx)) hs) ⟨_, rfl, Sif_cases (fun h5 => ?_) fun h5 => ?_⟩
    · have h5 : word (parts s)[i] = false := by simpa using h5
      have : isTop s = false := by rw [isTop, not_all_at hx h5]; rfl
      rw [this] at hk; exact hk _ N.ch
    · have h5 : word (parts s)[i] = true := by simpa using h5
      rw [nameI_iff, wrap_id (n := (i : Int) + 1) (by omega) (by omega)]
      exact ⟨m - 1, by omega, i + 1, by omega, by omega, take_all hg hx h5, rfl⟩
  · have h := of_decide_eq_false h
    have e : isTop s = decide ((parts s).length ≤ 8) := by
      rw [isTop, all_of_take (by have : i = (parts s).length := by omega
                                 rw [← this]; exact hg), Bool.true_and]
    rw [e] at hk
    have : decide (((parts s).length : Int) ≤ 8) = decide ((parts s).length ≤ 8) := decide_eq_decide.2 (by omega)
    rw [this]; exact hk _ N.ch
instance lawful_ba : LawfulBEq ByteArray where
  rfl := by
    intro a
    show (a.data == a.data) = true
    exact beq_self_eq_true _
  eq_of_beq := by
    intro a b h
    have h : (a.data == b.data) = true := h
    have := eq_of_beq h
    cases a; cases b; simp_all
theorem word_star : word star = false := by decide
theorem word_hash : word hash = false := by decide
def okp (pattern : Bool) (x : ByteArray) : Bool := word x || (pattern && (x == star || x == hash))
theorem beq_ba {a b : ByteArray} : (a.toList == b.toList) = (a == b) := by
  by_cases h : a = b
  · subst h; simp
  · rw [neS h]; exact (beq_eq_false_iff_ne.2 h).symm
theorem star_eq (x : ByteArray) : (x.toList == ByteArray.toList ⟨#[42]⟩) = (x == star) := beq_ba
theorem hash_eq (x : ByteArray) : (x.toList == ByteArray.toList ⟨#[35]⟩) = (x == Rt.hash) := beq_ba
theorem isPat_eq (s : ByteArray) : isPat s = ((parts s).all (okp true) && decide ((parts s).length ≤ 8) && decide ((parts s).count hash ≤ 2)) := by
  unfold isPat okp
  simp only [Bool.true_and, Bool.or_assoc]
theorem isTop_eq (s : ByteArray) : isTop s = ((parts s).all (okp false) && decide ((parts s).length ≤ 8)) := by
  unfold isTop okp
  simp
theorem count_take {L : List ByteArray} {i : Nat} {x : ByteArray} (hx : L[i]? = some x) : (L.take (i + 1)).count hash = (L.take i).count hash + if x = hash then 1 else 0 := by
  rw [List.take_add_one, hx, Option.toList_some, List.count_append]
  congr 1
  by_cases h : x = hash
  · subst h; simp
  · simp [h]
theorem count_le {L : List ByteArray} (i : Nat) : (L.take i).count hash ≤ L.count hash := (List.take_sublist i L).count_le _
theorem parts_len_le {s : ByteArray} : (parts s).length ≤ s.size + 1 := by
  rw [parts, List.length_map, splitDot_len]
  have := List.count_le_length (a := (46 : UInt8)) (l := s.data.toList)
  have h2 : s.data.toList.length = s.size := by simp
  omega
set_option maxHeartbeats 2000000 in
theorem pattern_ok {s : ByteArray} {w : World} {K : Value → World → Prop} (hs : s.size ≤ 2 ^ 40) (hk : ∀ w', Ch (fun _ => False) w w' → K (.bool (isPat s)) w') : callP Tryz.prog 38 [.string s] w K := by
  refine ok_longshoreref18_Pattern ?_
  unfold wp_longshoreref18_Pattern
  refine parts_ok hs fun p c b w1 N => ⟨_, _, _, rfl, ?_⟩
  have hpl := parts_len_le (s := s)
  rw [isPat_eq] at hk
  refine ⟨fun m n1 n2 w2 => ∃ i : Nat, n2 = (i : Int) ∧ n1 = (((parts s).take i).count hash : Int) ∧ m + i = (parts s).length ∧ (∀ y ∈ (parts s).take i, okp true y = true) ∧ w2 = w1, ⟨_, 0, rfl, rfl, rfl, by simp, rfl⟩, ?_⟩
  rintro m n1 n2 w2 ⟨i, rfl, rfl, hm, hg, rfl⟩
  have hci : ((parts s).take i).count hash ≤ i := Nat.le_trans List.count_le_length (by simp; omega)
  refine Sif_cases (fun h => ?_) fun h => ?_
  · have h := of_decide_eq_true h
    have hx : (parts s)[i]? = some (parts s)[i] := List.getElem?_eq_getElem (by omega)
    obtain ⟨b', o, rfl, hc⟩ := sAt N.rd hx
    refine ⟨fun n3 w3 => w3 = w2 ∧ n3 = (((parts s).take (i + 1)).count hash : Int) ∧ okp true (parts s)[i] = true, ?_, by omega, h, ?_⟩
    · rintro n3 w3 ⟨rfl, rfl, h5⟩
      rw [nameI_iff, wrap_id (n := (i : Int) + 1) (by omega) (by omega)]
      exact ⟨m - 1, by omega, i + 1, by omega, rfl, by omega, take_all hg hx h5, rfl⟩
    have ct := count_take hx
    rw [nn_some]
    simp only [add_at, Int.toNat_natCast, Nat.mul_one]
    refine ⟨_, hc, word_ok (Nat.le_trans (part_size (List.mem_of_getElem? hx)) hs) ⟨_, rfl, ?_⟩⟩
    have hc' : w2.cell? ((⟨b', o, none⟩ : Addr).add i) = some (.string (parts s)[i]) := by rw [add_at]; exact hc
    generalize (parts s)[i] = x at *
    refine ⟨fun n3 w3 => w3 = w2 ∧ n3 = (((parts s).take (i + 1)).count hash : Int), ?_, by omega, h, ?_⟩
    · rintro n3 w4 ⟨rfl, rfl⟩
      refine Sif_cases (fun h5 => ⟨by omega, h, ?_⟩) fun h5 => ⟨rfl, rfl, ?_⟩
      · rw [nn_some]
        refine ⟨_, hc', Sif_cases (fun h6 => ⟨by omega, h, ?_⟩) fun h6 => ⟨rfl, rfl, ?_⟩⟩
        · rw [nn_some]
          refine ⟨_, hc', Sif_cases (fun h7 => ?_) fun h7 => ⟨rfl, rfl, ?_⟩⟩
          · rw [star_eq] at h6; rw [hash_eq] at h7
            have : okp true x = false := by
              unfold okp
              rw [show (x == star) = false by simpa using h6, show (x == Rt.hash) = false by simpa using h7, show word x = false by simpa using h5]; rfl
            have : (parts s).all (okp true) = false := not_all_at hx this
            rw [this] at hk; exact hk _ N.ch
          · rw [hash_eq] at h7
            have h7 : (x == Rt.hash) = true := by simpa using h7
            unfold okp; rw [h7]; simp
        · rw [star_eq] at h6
          have h6 : (x == star) = true := by simpa using h6
          unfold okp; rw [h6]; simp
      · have h5 : word x = true := by simpa using h5
        unfold okp; rw [h5]; rfl
    · rw [nn_some]
      refine ⟨_, hc', Sif_cases (fun h5 => ?_) fun h5 => ?_⟩
      · rw [hash_eq] at h5; have h5 : x = Rt.hash := eq_of_beq h5
        rw [if_pos h5] at ct
        rw [nameI_iff, wrap_id (by omega) (by omega)]
        exact ⟨rfl, by omega⟩
      · rw [hash_eq] at h5; have h5 : ¬ x = Rt.hash := beq_eq_false_iff_ne.1 h5
        rw [if_neg h5] at ct
        exact ⟨rfl, by omega⟩
  · have h := of_decide_eq_false h
    have hi : i = (parts s).length := by omega
    subst hi
    rw [all_of_take hg, Bool.true_and] at hk
    rw [List.take_length] at *
    refine Sif_cases (fun h1 => ?_) fun h1 => ?_
    · have h1 := of_decide_eq_true h1
      rw [decide_eq_true (show (parts s).length ≤ 8 by omega), Bool.true_and] at hk
      have : decide (((parts s).count hash : Int) ≤ 2) = decide ((parts s).count hash ≤ 2) := decide_eq_decide.2 (by omega)
      rw [this]; exact hk _ N.ch
    · have h1 := of_decide_eq_false h1
      rw [decide_eq_false (show ¬ (parts s).length ≤ 8 by omega), Bool.false_and] at hk
      exact hk _ N.ch
end Go.Proofs.YtnibmhjdomndbaaGreatDoor
namespace Go.Proofs.YtnibmhjdomndbaaGreatDoor
open Go Go.Sv Go.Rt
set_option linter.unusedVariables false
def fine (pattern : Bool) (s : ByteArray) : Bool := match pattern with | true => isPat s | false => isTop s
def cnt (pattern : Bool) (L : List ByteArray) : Nat := match pattern with | true => L.count Rt.hash | false => 0
theorem fine_eq (pattern : Bool) (s : ByteArray) : fine pattern s = ((parts s).all (okp pattern) && decide ((parts s).length ≤ 8) && decide (cnt pattern (parts s) ≤ 2)) := by
  cases pattern with
  | true => exact isPat_eq s
  | false =>
    show isTop s = _
    rw [isTop_eq, show decide (cnt false (parts s) ≤ 2) = true from rfl, Bool.and_true]
/-- the program's row of parts -/
def Cut (w w' : World) (s : ByteArray) : Prop := Nw w w' (some ⟨w.heap.size, 0, none⟩) (parts s).length (some w.heap.size) (parts s) ∧ w.heap.size < w'.heap.size
set_option maxHeartbeats 2000000 in
theorem cut_ok {s : ByteArray} {pattern : Bool} {w : World} {K : Value → World → Prop} (hs : s.size ≤ 2 ^ 40)
    (hk1 : fine pattern s = true → ∀ w', Cut w w' s → K (.slice (some ⟨w.heap.size, 0, none⟩) (parts s).length (parts s).length) w')
    (hk0 : fine pattern s = false → ∀ w', Ch (fun _ => False) w w' → K (.slice none 0 0) w') : callP Tryz.prog 28 [.string s, .bool pattern] w K := by
  refine ok_route_cut ?_
  unfold wp_route_cut
  rw [fine_eq] at hk1 hk0
  refine split_ok hs fun w1 o1 c1 z1 => ⟨_, _, _, rfl, ?_⟩
  have N : Nw w w1 (some ⟨w.heap.size, 0, none⟩) (parts s).length (some w.heap.size) (parts s) := ⟨o1, (fun k hk => by cases hk; exact Nat.le_refl _), c1⟩
  refine Sif_cases (fun h => ?_) fun h => ?_
  · have h := of_decide_eq_true h
    rw [decide_eq_false (show ¬ (parts s).length ≤ 8 by omega), Bool.and_false, Bool.false_and] at hk0
    exact hk0 rfl _ c1
  · have h8 := of_decide_eq_false h
    have h8' : (parts s).length ≤ 8 := by omega
    refine ⟨fun m n1 n2 w2 => ∃ i : Nat, n2 = (i : Int) ∧ n1 = (cnt pattern ((parts s).take i) : Int) ∧ cnt pattern ((parts s).take i) ≤ 2 ∧ m + i = (parts s).length ∧ (∀ y ∈ (parts s).take i, okp pattern y = true) ∧ w2 = w1, ⟨_, 0, rfl, by cases pattern <;> rfl, by cases pattern <;> simp [cnt], rfl, by simp, rfl⟩, ?_⟩
    rintro m n1 n2 w2 ⟨i, rfl, rfl, hc2, hm, hg, rfl⟩
    refine Sif_cases (fun h => ?_) fun h => ?_
    · have h := of_decide_eq_true h
      have hx : (parts s)[i]? = some (parts s)[i] := List.getElem?_eq_getElem (by omega)
      obtain ⟨b', o, hp, hc⟩ := sAt N.rd hx
      have ct := count_take hx
      have hsz := Nat.le_trans (part_size (List.mem_of_getElem? hx)) hs
      refine ⟨fun n3 w3 => w3 = w2 ∧ n3 = (cnt pattern ((parts s).take (i + 1)) : Int) ∧ cnt pattern ((parts s).take (i + 1)) ≤ 2 ∧ okp pattern (parts s)[i] = true, ?_, by omega, h, ?_⟩
      · rintro n3 w3 ⟨rfl, rfl, h4, h5⟩
        rw [wrap_id (n := (i : Int) + 1) (by omega) (by omega)]
        exact ⟨m - 1, by omega, i + 1, by omega, rfl, h4, by omega, take_all hg hx h5, rfl⟩
      · rw [hp, nn_some]
        have hc' : w2.cell? ((⟨b', o, none⟩ : Addr).add ((i : Int).toNat * 1)) = some (.string (parts s)[i]) := by simp only [add_at, Int.toNat_natCast, Nat.mul_one]; exact hc
        refine ⟨_, hc', ?_⟩
        refine word_made hsz ⟨_, rfl, ?_⟩
        generalize (parts s)[i] = x at *
        have bad : okp pattern x = false → K (.slice none 0 0) w2 := fun e => by
          rw [not_all_at hx e] at hk0; exact hk0 rfl _ c1
        refine Sif_cases (fun h5 => ?_) fun h5 => ?_
        · have hn : x ≠ Rt.hash := fun e => by rw [e, word_hash] at h5; cases h5
          have e : cnt pattern ((parts s).take (i + 1)) = cnt pattern ((parts s).take i) := by
            cases pattern
            · rfl
            · rw [if_neg hn] at ct; exact ct
          rw [e]
          exact ⟨rfl, rfl, hc2, by unfold okp; rw [h5]; rfl⟩
        · cases pattern with
          | false => exact Sif_false (Sif_false (bad (by unfold okp; rw [h5]; rfl)))
          | true =>
            refine Sif_true ?_
            rw [star_eq, hash_eq]
            refine Sif_cases (fun h6 => ?_) fun h6 => Sif_true (Sif_cases (fun h7 => Sif_cases (fun h9 => ?_) fun h9 => ?_) fun h7 => bad ?_)
            · have h6' : x = star := eq_of_beq h6
              rw [if_neg (show ¬ x = Rt.hash by rw [h6']; exact star_ne_hash)] at ct
              have e : cnt true ((parts s).take (i + 1)) = cnt true ((parts s).take i) := ct
              rw [e]
              exact ⟨rfl, rfl, hc2, by unfold okp; rw [h6]; simp⟩
            · have h7' : x = Rt.hash := eq_of_beq h7
              rw [if_pos h7'] at ct
              have e : cnt true ((parts s).take (i + 1)) = cnt true ((parts s).take i) + 1 := ct
              have h9 := of_decide_eq_true h9
              rw [nameI_iff, wrap_id (by omega) (by omega), e]
              exact ⟨rfl, by omega, by omega, by unfold okp; rw [h7]; simp⟩
            · have h7' : x = Rt.hash := eq_of_beq h7
              rw [if_pos h7'] at ct
              have e : cnt true ((parts s).take (i + 1)) = cnt true ((parts s).take i) + 1 := ct
              have h9 := of_decide_eq_false h9
              have h10 : cnt true ((parts s).take (i + 1)) ≤ cnt true (parts s) := count_le _
              rw [decide_eq_false (show ¬ cnt true (parts s) ≤ 2 by omega), Bool.and_false] at hk0
              exact hk0 rfl _ c1
            · unfold okp; rw [h5, h6, h7]; rfl
    · have h := of_decide_eq_false h
      have hi : i = (parts s).length := by omega
      subst hi
      rw [List.take_length] at hc2
      rw [all_of_take hg, decide_eq_true h8', decide_eq_true hc2] at hk1
      exact hk1 rfl _ ⟨N, by omega⟩
/-- what an address says -/
def addr (s : ByteArray) : Int × ByteArray × Int :=
  if s = ⟨#[116, 120, 110, 115]⟩ then (3, ⟨#[]⟩, 0)
  else if (Lib.hasPrefix s.data.toList [113, 117, 101, 117, 101, 47] && named (s.extract 6 s.size)) = true then (1, s.extract 6 s.size, 0)
  else if (Lib.hasPrefix s.data.toList [116, 111, 112, 105, 99, 47] && isPat (s.extract 6 s.size)) = true then (2, s.extract 6 s.size, 0)
  else (0, ⟨#[]⟩, 82)
end Go.Proofs.YtnibmhjdomndbaaGreatDoor
