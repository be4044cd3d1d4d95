/-
  A queue, plain: what its calls keep of the entries, how many there are behind them.
-/
import Derived.Test.YtipbbjnmpnfhpaaDoorQplain
namespace Go.Qu
set_option linter.unusedVariables false
/-- the same entry, at most given back more often, held by another one -/
structure Like (x y : PE) : Prop where
  seq : y.seq = x.seq
  pri : y.pri = x.pri
  exp : y.exp = x.exp
  dur : y.dur = x.dur
  l : y.l = x.l
  cnt : x.cnt ≤ y.cnt
theorem Like.refl (x : PE) : Like x x := ⟨rfl, rfl, rfl, rfl, rfl, Int.le_refl _⟩
/-- nothing but what was there -/
structure Kin (A A' : AQ) : Prop where
  cf : A'.cf = A.cf
  last : A'.last = A.last
  mem : ∀ y ∈ A'.L, ∃ x ∈ A.L, Like x y
theorem Kin.refl (A : AQ) : Kin A A := ⟨rfl, rfl, fun y hy => ⟨y, hy, .refl y⟩⟩
theorem Kin.map {A : AQ} (f : PE → PE) (h : ∀ x ∈ A.L, Like x (f x)) : Kin A { A with L := A.L.map f } := ⟨rfl, rfl, fun y hy => by
  obtain ⟨x, hx, rfl⟩ := List.mem_map.1 hy
  exact ⟨x, hx, h x hx⟩⟩
theorem Kin.filter {A : AQ} (f : PE → Bool) : Kin A { A with L := A.L.filter f } := ⟨rfl, rfl, fun y hy => ⟨y, (List.mem_filter.1 hy).1, .refl y⟩⟩
theorem kin_take (A : AQ) (h : Int) (fit : PE → Bool) : Kin A (A.take h fit).2 ∧ (A.take h fit).2.L.length = A.L.length := by
  unfold AQ.take
  split
  · exact ⟨.refl _, rfl⟩
  · split
    · exact ⟨.refl _, rfl⟩
    · refine ⟨Kin.map _ fun x hx => ?_, List.length_map ..⟩
      split
      · exact ⟨rfl, rfl, rfl, rfl, rfl, Int.le_refl _⟩
      · exact .refl _
theorem delQ_len {L : List PE} (hn : (L.map (·.seq)).Nodup) {x : PE} (hx : x ∈ L) : (delQ x.seq L).length + 1 = L.length := by
  obtain ⟨l1, l2, rfl⟩ := List.append_of_mem hx
  have := (filter_one hn (List.perm_middle (l₁ := l1) (a := x) (l₂ := l2))).length_eq
  simp only [List.length_append, List.length_cons] at *
  omega
theorem kin_back {A : AQ} (W : WQ A) (q h : Int) (f : Bool) : Kin A (A.back q h f).2 ∧ (A.back q h f).2.L.length + (match (A.back q h f).1 with | some (_, true) => 1 | _ => 0) = A.L.length := by
  unfold AQ.back
  split
  · exact ⟨.refl _, rfl⟩
  · rename_i x hx
    obtain ⟨hm, hs⟩ := find_mem hx
    split
    · exact ⟨.refl _, rfl⟩
    · split
      · refine ⟨Kin.filter _, ?_⟩
        rw [← hs]; exact delQ_len W.nd hm
      · refine ⟨Kin.map _ fun y hy => ?_, by simp [setE]⟩
        split
        · rename_i e
          have e2 : y = x := Sv.inj_of_nodup W.nd hy hm e
          subst e2
          refine ⟨rfl, rfl, rfl, rfl, rfl, ?_⟩
          unfold failE
          have := (W.ok y hm).cnt1
          dsimp only
          split <;> omega
        · exact .refl _
theorem kin_remove {A : AQ} (W : WQ A) (q h : Int) : Kin A (A.remove q h).2 ∧ (A.remove q h).2.L.length + (match (A.remove q h).1 with | some _ => 1 | none => 0) = A.L.length := by
  unfold AQ.remove
  split
  · exact ⟨.refl _, rfl⟩
  · rename_i x hx
    obtain ⟨hm, hs⟩ := find_mem hx
    split
    · exact ⟨.refl _, rfl⟩
    · refine ⟨Kin.filter _, ?_⟩
      rw [← hs]; exact delQ_len W.nd hm
theorem kin_release (A : AQ) (h : Int) : Kin A (A.release h).2 ∧ (A.release h).2.L.length = A.L.length := by
  refine ⟨Kin.map _ fun x hx => ?_, List.length_map ..⟩
  split
  · exact ⟨rfl, rfl, rfl, rfl, rfl, Int.le_refl _⟩
  · exact .refl _
theorem filter_two {α : Type} (f : α → Bool) : ∀ L : List α, (L.filter fun x => !(f x)).length + (L.filter f).length = L.length
  | [] => rfl
  | x :: L => by
    have := filter_two f L
    rw [List.filter_cons, List.filter_cons]
    cases f x <;> simp <;> omega
theorem kin_expire (A : AQ) (now : Int) : Kin A (A.expire now).2 ∧ (A.expire now).2.L.length + (A.expire now).1.length = A.L.length := by
  refine ⟨Kin.filter _, ?_⟩
  have h1 : (A.expire now).1.length = (A.L.filter fun e => isFree e && over now e).length := by
    show ((ordered A.L).filter isFree |>.filter (over now)).length = _
    rw [List.filter_filter, ((ordered_perm A.L).filter _).length_eq]
    congr 1
    refine List.filter_congr fun x _ => ?_
    rw [Bool.and_comm]
  rw [h1]
  exact filter_two (fun e => isFree e && over now e) A.L
theorem asked_app {fit : PE → Bool} : ∀ {P S : List PE}, (∀ x ∈ P, fit x = false) → asked fit (P ++ S) = P ++ asked fit S
  | [], S, _ => rfl
  | x :: P, S, h => by
    rw [List.cons_append, asked, if_neg (by rw [h x (by simp)]; simp), asked_app fun y hy => h y (List.mem_cons_of_mem _ hy)]; rfl
theorem find_app {fit : PE → Bool} {P S : List PE} (h : ∀ x ∈ P, fit x = false) : (P ++ S).find? fit = S.find? fit := by
  rw [List.find?_append, List.find?_eq_none.2 fun x hx => by rw [h x hx]; simp]; rfl
end Go.Qu
