/-
  What a call of each function comes to (definitions 'wp_..', reckoned by a program out of the model's code), and that it is sound ('ok_..'). Written by program (sv.py).
-/
import Derived.Test.YtlfhjkgdlclddaaGreatDoorPx32
import Derived.Test.YtlfhjkgdlclddaaGreatDoorProg
import Derived.KernelRfl
set_option linter.unusedVariables false
set_option linter.unusedSimpArgs false
namespace Go.Proofs.YtlfhjkgdlclddaaGreatDoor
open Go Go.Sv
set_option maxRecDepth 100000
variable {w:World} {K:Value->World->Prop} {KP:List PanicEntry->World->Prop}
theorem qX{a_0 a_1 a_2 a_3:Int}{a_4:Option Addr}{a_4n a_4c:Nat}{a_5:Option Addr}{a_5n a_5c:Nat}{b_0 b_1 b_2 b_3:Int}{b_4:Option Addr}{b_4n b_4c:Nat}{b_5:Option Addr}{b_5n b_5c:Nat}(h:bP w [ii a_0,ii a_1,ii a_2,ii a_3,.slice a_4 a_4n a_4c,.slice a_5 a_5n a_5c] 26 λa w1=>bP w1 [ii b_0,ii b_1,ii b_2,ii b_3,.slice b_4 b_4n b_4c,.slice b_5 b_5n b_5c] 26 λa1 w2=>∃n,ci w2 ((a.add 2).add 0) n/\∃n1,ci w2 ((a.add 2).add 1) n1/\∃p n2 c,cs w2 ((a.add 2).add 2) p n2 c/\∃p1 n3 c1,cs w2 ((a.add 2).add 3) p1 n3 c1/\∃n4,ci w2 ((a1.add 2).add 0) n4/\∃n5,ci w2 ((a1.add 2).add 1) n5/\∃p2 n6 c2,cs w2 ((a1.add 2).add 2) p2 n6 c2/\∃p3 n7 c3,cs w2 ((a1.add 2).add 3) p3 n7 c3/\cP 19 [.agg #[ii n,ii n1,.slice p n2 c,.slice p1 n3 c1],.agg #[ii n4,ii n5,.slice p2 n6 c2,.slice p3 n7 c3]] w2 λv w3=>∃b,v=.bool b/\aS b (∃n8,ci w3 (a.add 0) n8/\∃n9,ci w3 (a1.add 0) n9/\aS (n8 == n9) (∃n10,ci w3 (a.add 1) n10/\∃n11,ci w3 (a1.add 1) n11/\K (.bool (n10 == n11)) w3) (K (.bool false) w3)) (K (.bool false) w3)):cP 16 [.agg #[ii a_0,ii a_1,ii a_2,ii a_3,.slice a_4 a_4n a_4c,.slice a_5 a_5n a_5c],.agg #[ii b_0,ii b_1,ii b_2,ii b_3,.slice b_4 b_4n b_4c,.slice b_5 b_5n b_5c]] w K:=fQ Tryz.func16 (tn 3 L0) (by kernel_rfl) h
end Go.Proofs.YtlfhjkgdlclddaaGreatDoor
