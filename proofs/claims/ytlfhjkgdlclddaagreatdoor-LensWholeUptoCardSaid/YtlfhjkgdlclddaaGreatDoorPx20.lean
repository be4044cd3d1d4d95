/-
  What a call of each function comes to (definitions 'wp_..', reckoned by a program out of the model's code), and that it is sound ('ok_..'). Written by program (sv.py).
-/
import Derived.Test.YtlfhjkgdlclddaaGreatDoorPx19
import Derived.Test.YtlfhjkgdlclddaaGreatDoorProg
import Derived.KernelRfl
set_option linter.unusedVariables false
set_option linter.unusedSimpArgs false
namespace Go.Proofs.YtlfhjkgdlclddaaGreatDoor
open Go Go.Sv
set_option maxRecDepth 100000
variable {w:World} {K:Value->World->Prop} {KP:List PanicEntry->World->Prop}
def jG(cap0 cap1 cap2:Option Addr)(w:World)(K:World->Prop):Prop :=
 true=true/\K w
theorem vH(cap0 cap1 cap2:Option Addr)(w:World)(K:World->Prop):wpR Tryz.prog Tryz.f86 (.two .leaf (.two (.two .leaf (.two (.meet [] (.two .leaf (.two .leaf .leaf))) (.draw [0,1,3,2,4,5,6,7]))) .leaf)) [Value.pointer cap0,Value.pointer cap1,Value.pointer cap2] Value.nilIface w K=jG cap0 cap1 cap2 w K:=by kernel_rfl
theorem vD{cap0 cap1 cap2:Option Addr}{w:World}{K:World->Prop}{u:FrameMode}(hu:(dG u).1=Value.nilIface)(hwp:jG cap0 cap1 cap2 w K):jX Tryz.prog 86 [.pointer cap0,.pointer cap1,.pointer cap2] u w λu1 w1=>u1=(dG u).2/\K w1 :=
 uP Tryz.func86 (by rw[hu];exact(vH cap0 cap1 cap2 w K).symm▸hwp)
def jF(cap0 cap1 cap2:Option Addr)(at0 e0:Int)(w:World)(K:World->Prop):Prop :=
 true=true/\∃n n1 b,Sem.run Tryz.prog (Instr.typeAssert (.iface (115:TypeId) (.agg #[.int .i64 at0,.int .i64 e0])) 20 115 true) w=Result.ok (.tuple #[.agg #[.int .i64 n,.int .i64 n1],.bool b]) w/\bP w [.int .i64 0,.int .i64 0] 115 λa w1=>st w1 (a.add 0) (.int .i64 n) λw2=>st w2 (a.add 1) (.int .i64 n1) λw3=>∃(J:World->Prop),(∀w4,J w4->∃n2,w4.drew.cell? (a.add 0)=some (.int .i64 n2)/\∃n3,w4.drew.cell? (a.add 1)=some (.int .i64 n3)/\nn cap0 λa1=>st w4.drew (a1.add 0) (.int .i64 0) λw5=>st w5 (a1.add 1) (.int .u64 0) λw6=>st w6 (a1.add 2) (.string (ByteArray.mk #[])) λw7=>st w7 (a1.add 3) (.slice none 0 0) λw8=>st w8 (a1.add 4) (.int .i64 0) λw9=>(∃n4,w9.cell? (a.add 1)=some (.int .i64 n4)/\Value.int .i64 n4=.int .i64 n3)/\(∃n4,w9.cell? (a.add 0)=some (.int .i64 n4)/\Value.int .i64 n4=.int .i64 n2)/\nn cap1 λa2=>st w9 (a2.add 0) (.int .i64 n2) λw10=>(∃n4,w10.cell? (a.add 1)=some (.int .i64 n4)/\Value.int .i64 n4=.int .i64 n3)/\nn cap2 λa3=>st w10 (a3.add 0) (.int .i64 n3) λw11=>K w11)/\aS (!b) False (J w3)
theorem vG(cap0 cap1 cap2:Option Addr)(at0 e0:Int)(w:World)(K:World->Prop):wpR Tryz.prog Tryz.f86 (.two .leaf (.two (.two .leaf (.two (.meet [] (.two .leaf (.two .leaf .leaf))) (.draw [0,1,3,2,4,5,6,7]))) .leaf)) [Value.pointer cap0,Value.pointer cap1,Value.pointer cap2] (Value.iface (115:TypeId) (Value.agg #[Value.int .i64 at0,Value.int .i64 e0])) w K=jF cap0 cap1 cap2 at0 e0 w K:=by kernel_rfl
theorem vC{cap0 cap1 cap2:Option Addr}{at0 e0:Int}{w:World}{K:World->Prop}{u:FrameMode}(hu:(dG u).1=(Value.iface (115:TypeId) (Value.agg #[Value.int IntKind.i64 at0,Value.int IntKind.i64 e0])))(hwp:jF cap0 cap1 cap2 at0 e0 w K):jX Tryz.prog 86 [.pointer cap0,.pointer cap1,.pointer cap2] u w λu1 w1=>u1=(dG u).2/\K w1 :=
 uP Tryz.func86 (by rw[hu];exact(vG cap0 cap1 cap2 at0 e0 w K).symm▸hwp)
def mG(b:Option Addr)(bn bc:Nat)(at_:Int)(w:World)(K:Value->World->Prop):Prop :=
 bP w [.int .i64 0,.int .u64 0,.string (ByteArray.mk #[]),.slice none 0 0,.int .i64 0] 83 λa w1 =>
 bP w1 [.int .i64 0] 3 λa1 w2 =>
 bP w2 [.int .i64 0] 28 λa2 w3 =>
 aS (!decide (at_<0))
 (aS (decide (at_>(↑bn:Int))) (st w3 (a.add 0) (.int .i64 0) λw4=>st w4 (a.add 1) (.int .u64 0) λw5=>st w5 (a.add 2) (.string (ByteArray.mk #[])) λw6=>st w6 (a.add 3) (.slice none 0 0) λw7=>st w7 (a.add 4) (.int .i64 0) λw8=>st w8 (a1.add 0) (.int .i64 0) λw9=>st w9 (a2.add 0) (.int .i64 1) λw10=>∃n,w10.cell? (a.add 0)=some (.int .i64 n)/\∃n1,w10.cell? (a.add 1)=some (.int .u64 n1)/\∃s,w10.cell? (a.add 2)=some (.string s)/\∃p n2 c,w10.cell? (a.add 3)=some (.slice p n2 c)/\∃n3,w10.cell? (a.add 4)=some (.int .i64 n3)/\∃n4,w10.cell? a1=some (.int .i64 n4)/\∃n5,w10.cell? a2=some (.int .i64 n5)/\K (.tuple #[.agg #[.int .i64 n,.int .u64 n1,.string s,.slice p n2 c,.int .i64 n3],.int .i64 n4,.int .i64 n5]) w10)
 (bP w3 [.slice b bn bc,.int .i64 at_,.int .i64 (↑bn:Int),.int .i64 (-1)] 113 λa3 w4 =>
 dL Tryz.prog 87 [.pointer (some a3),.int .i64 1] w4
 (λv w5 =>
 ∃n n1,
 ∃s p,
 ∃n2 c n3,
 v=.agg #[.int .i64 n,.int .u64 n1,.string s,.slice p n2 c,.int .i64 n3] /\
 st w5 (a.add 0) (.int .i64 n) λw6 =>
 st w6 (a.add 1) (.int .u64 n1) λw7 =>
 st w7 (a.add 2) (.string s) λw8 =>
 st w8 (a.add 3) (.slice p n2 c) λw9 =>
 st w9 (a.add 4) (.int .i64 n3) λw10 =>
 ∃(J:World->Prop),
 (∀w11,J w11->∃n4,w11.drew.cell? (a.add 0)=some (.int .i64 n4)/\∃n5,w11.drew.cell? (a.add 1)=some (.int .u64 n5)/\∃s1,w11.drew.cell? (a.add 2)=some (.string s1)/\∃p1 n6 c1,w11.drew.cell? (a.add 3)=some (.slice p1 n6 c1)/\∃n7,w11.drew.cell? (a.add 4)=some (.int .i64 n7)/\∃n8,w11.drew.cell? (a3.add 1)=some (.int .i64 n8)/\st w11.drew (a.add 0) (.int .i64 n4) λw12=>st w12 (a.add 1) (.int .u64 n5) λw13=>st w13 (a.add 2) (.string s1) λw14=>st w14 (a.add 3) (.slice p1 n6 c1) λw15=>st w15 (a.add 4) (.int .i64 n7) λw16=>(∃n9,w16.cell? (a3.add 1)=some (.int .i64 n9)/\Value.int .i64 n9=.int .i64 n8)/\st w16 (a1.add 0) (.int .i64 n8) λw17=>st w17 (a2.add 0) (.int .i64 0) λw18=>aK9 Tryz.prog 86 [.pointer (some a),.pointer (some a1),.pointer (some a2)] w18 λw19=>∃n9,w19.cell? (a.add 0)=some (.int .i64 n9)/\∃n10,w19.cell? (a.add 1)=some (.int .u64 n10)/\∃s2,w19.cell? (a.add 2)=some (.string s2)/\∃p2 n11 c2,w19.cell? (a.add 3)=some (.slice p2 n11 c2)/\∃n12,w19.cell? (a.add 4)=some (.int .i64 n12)/\∃n13,w19.cell? a1=some (.int .i64 n13)/\∃n14,w19.cell? a2=some (.int .i64 n14)/\K (.tuple #[.agg #[.int .i64 n9,.int .u64 n10,.string s2,.slice p2 n11 c2,.int .i64 n12],.int .i64 n13,.int .i64 n14]) w19) /\
 ∃n4,w10.cell? (a3.add 1)=some (.int .i64 n4)/\aS (decide (IntKind.wrap .i64 (n4-at_)>1048576)) (dL Tryz.prog 88 [.int .i64 at_,.int .i64 2] w10 (λv1 w11=>v1=.tuple #[]/\J w11) λ(ch:List PanicEntry) (w11:World)=>jX Tryz.prog 86 [.pointer (some a),.pointer (some a1),.pointer (some a2)] (FrameMode.panicking ch) w11 λ(u':FrameMode) (w12:World)=>settle u'=FrameMode.returning/\∃n5,w12.cell? (a.add 0)=some (.int .i64 n5)/\∃n6,w12.cell? (a.add 1)=some (.int .u64 n6)/\∃s1,w12.cell? (a.add 2)=some (.string s1)/\∃p1 n7 c1,w12.cell? (a.add 3)=some (.slice p1 n7 c1)/\∃n8,w12.cell? (a.add 4)=some (.int .i64 n8)/\∃n9,w12.cell? a1=some (.int .i64 n9)/\∃n10,w12.cell? a2=some (.int .i64 n10)/\K (.tuple #[.agg #[.int .i64 n5,.int .u64 n6,.string s1,.slice p1 n7 c1,.int .i64 n8],.int .i64 n9,.int .i64 n10]) w12) (J w10))
 λ(ch:List PanicEntry) (w5:World)=>jX Tryz.prog 86 [.pointer (some a),.pointer (some a1),.pointer (some a2)] (FrameMode.panicking ch) w5 λ(u':FrameMode) (w6:World)=>settle u'=FrameMode.returning/\∃n,w6.cell? (a.add 0)=some (.int .i64 n)/\∃n1,w6.cell? (a.add 1)=some (.int .u64 n1)/\∃s,w6.cell? (a.add 2)=some (.string s)/\∃p n2 c,w6.cell? (a.add 3)=some (.slice p n2 c)/\∃n3,w6.cell? (a.add 4)=some (.int .i64 n3)/\∃n4,w6.cell? a1=some (.int .i64 n4)/\∃n5,w6.cell? a2=some (.int .i64 n5)/\K (.tuple #[.agg #[.int .i64 n,.int .u64 n1,.string s,.slice p n2 c,.int .i64 n3],.int .i64 n4,.int .i64 n5]) w6))
 (st w3 (a.add 0) (.int .i64 0) λw4=>st w4 (a.add 1) (.int .u64 0) λw5=>st w5 (a.add 2) (.string (ByteArray.mk #[])) λw6=>st w6 (a.add 3) (.slice none 0 0) λw7=>st w7 (a.add 4) (.int .i64 0) λw8=>st w8 (a1.add 0) (.int .i64 0) λw9=>st w9 (a2.add 0) (.int .i64 1) λw10=>∃n,w10.cell? (a.add 0)=some (.int .i64 n)/\∃n1,w10.cell? (a.add 1)=some (.int .u64 n1)/\∃s,w10.cell? (a.add 2)=some (.string s)/\∃p n2 c,w10.cell? (a.add 3)=some (.slice p n2 c)/\∃n3,w10.cell? (a.add 4)=some (.int .i64 n3)/\∃n4,w10.cell? a1=some (.int .i64 n4)/\∃n5,w10.cell? a2=some (.int .i64 n5)/\K (.tuple #[.agg #[.int .i64 n,.int .u64 n1,.string s,.slice p n2 c,.int .i64 n3],.int .i64 n4,.int .i64 n5]) w10)
theorem aBo(b:Option Addr)(bn bc:Nat)(at_:Int)(w:World)(K:Value->World->Prop):aUf Tryz.prog Tryz.f59 [.leaf,.two .leaf (.two (.two .leaf .leaf) .leaf),.leaf,.leaf,.two .leaf (.two (.meet [] (.two .leaf (.two .leaf .leaf))) (.two (.draw [1,2,3,0,4,5,6,7]) .leaf))] [Value.slice b bn bc,Value.int .i64 at_] w K=mG b bn bc at_ w K:=by kernel_rfl
theorem aBk{b:Option Addr}{bn bc:Nat}{at_:Int}{w:World}{K:Value->World->Prop}(hwp:mG b bn bc at_ w K):bK Tryz.prog 59 [.slice b bn bc,.int .i64 at_] w K :=
 aHe Tryz.func59 ((aBo b bn bc at_ w K).symm▸hwp)
end Go.Proofs.YtlfhjkgdlclddaaGreatDoor
