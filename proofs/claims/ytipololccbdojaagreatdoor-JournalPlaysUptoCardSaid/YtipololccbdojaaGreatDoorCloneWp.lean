/-
  What a call of each function comes to (definitions 'wp_..', reckoned by a program out of the model's code), and that it is sound ('ok_..'). Written by program (sv.py).
-/
import Derived.Test.YtipololccbdojaaGreatDoorSvCode
import Derived.Test.YtipololccbdojaaGreatDoorProg
import Derived.KernelRfl
namespace Go.Proofs.YtipololccbdojaaGreatDoor
open Go Go.Sv
set_option linter.unusedVariables false

/-- bytes.Clone -/
def wp_bytes_Clone (b : Option Addr) (bn : Nat) (bc : Nat) (w : World) (K : Value → World → Prop) : Prop :=
  Sif (Option.isNone b) (K (Value.slice none (0 : Nat) (0 : Nat)) w) (newB w [] (5 : Nat) fun (a : Addr) (w1 : World) => ∃ (p : Option Addr), ∃ (n : Nat), ∃ (c : Nat), ∃ (w2 : World), Sem.run Tryz.prog (Builtin.append_ (Array.mk [(23 : Nat), (23 : Nat)]) (23 : Nat) (Array.mk [Value.slice (some a) (0 : Nat) (0 : Nat), Value.slice b bn bc])) w1 = Result.ok (Value.slice p n c) w2 ∧ K (Value.slice p n c) w2)
set_option maxRecDepth 100000 in
theorem eq_bytes_Clone (b : Option Addr) (bn : Nat) (bc : Nat) (w : World) (K : Value → World → Prop) : wpF Tryz.prog none Tryz.f115 (Ann.two Ann.leaf (Ann.two (Ann.two Ann.leaf (Ann.two (Ann.two Ann.leaf Ann.leaf) Ann.leaf)) (Ann.two Ann.leaf Ann.leaf))) [Value.slice b bn bc] w K = wp_bytes_Clone b bn bc w K := by kernel_rfl
theorem ok_bytes_Clone {b : Option Addr} {bn : Nat} {bc : Nat} {w : World} {K : Value → World → Prop} (h : wp_bytes_Clone b bn bc w K) : callP Tryz.prog 115 [.slice b bn bc] w K :=
  calls_of Tryz.func115 ((eq_bytes_Clone b bn bc w K).symm ▸ h)

end Go.Proofs.YtipololccbdojaaGreatDoor
