/-
  What a call of each function comes to (definitions 'wp_..', reckoned by a program out of the model's code), and that it is sound ('ok_..'). Written by program (sv.py).
-/
import Derived.Test.YtlfhjkgdlclddaaGreatDoorPx13
import Derived.Test.YtlfhjkgdlclddaaGreatDoorProg
import Derived.KernelRfl
set_option linter.unusedVariables false
set_option linter.unusedSimpArgs false
namespace Go.Proofs.YtlfhjkgdlclddaaGreatDoor
open Go Go.Sv
set_option maxRecDepth 100000
variable {w:World} {K:Value->World->Prop} {KP:List PanicEntry->World->Prop}
def kI(cap0 cap1 cap2:Option Addr)(w:World)(K:World->Prop):Prop :=
 true=true/\K w
theorem yA(cap0 cap1 cap2:Option Addr)(w:World)(K:World->Prop):wpR Tryz.prog Tryz.f105 (.two .leaf (.two (.two .leaf (.two (.meet [] (.two .leaf (.two .leaf .leaf))) (.draw [0,1,3,2,4,5,6,7]))) .leaf)) [Value.pointer cap0,Value.pointer cap1,Value.pointer cap2] Value.nilIface w K=kI cap0 cap1 cap2 w K:=by kernel_rfl
theorem xJ{cap0 cap1 cap2:Option Addr}{w:World}{K:World->Prop}{u:FrameMode}(hu:(dG u).1=Value.nilIface)(hwp:kI cap0 cap1 cap2 w K):jX Tryz.prog 105 [.pointer cap0,.pointer cap1,.pointer cap2] u w λu1 w1=>u1=(dG u).2/\K w1 :=
 uP Tryz.func105 (by rw[hu];exact(yA cap0 cap1 cap2 w K).symm▸hwp)
def kH(cap0 cap1 cap2:Option Addr)(at0 e0:Int)(w:World)(K:World->Prop):Prop :=
 true=true/\∃n n1 b,Sem.run Tryz.prog (Instr.typeAssert (.iface (139:TypeId) (.agg #[.int .i64 at0,.int .i64 e0])) 20 139 true) w=Result.ok (.tuple #[.agg #[.int .i64 n,.int .i64 n1],.bool b]) w/\bP w [.int .i64 0,.int .i64 0] 139 λa w1=>st w1 (a.add 0) (.int .i64 n) λw2=>st w2 (a.add 1) (.int .i64 n1) λw3=>∃(J:World->Prop),(∀w4,J w4->∃n2,w4.drew.cell? (a.add 0)=some (.int .i64 n2)/\∃n3,w4.drew.cell? (a.add 1)=some (.int .i64 n3)/\nn cap0 λa1=>st w4.drew (a1.add 0) (.int .i64 0) λw5=>st w5 (a1.add 1) (.int .u64 0) λw6=>st w6 (a1.add 2) (.string (ByteArray.mk #[])) λw7=>st w7 (a1.add 3) (.slice none 0 0) λw8=>st w8 (a1.add 4) (.int .i64 0) λw9=>(∃n4,w9.cell? (a.add 1)=some (.int .i64 n4)/\Value.int .i64 n4=.int .i64 n3)/\(∃n4,w9.cell? (a.add 0)=some (.int .i64 n4)/\Value.int .i64 n4=.int .i64 n2)/\nn cap1 λa2=>st w9 (a2.add 0) (.int .i64 n2) λw10=>(∃n4,w10.cell? (a.add 1)=some (.int .i64 n4)/\Value.int .i64 n4=.int .i64 n3)/\nn cap2 λa3=>st w10 (a3.add 0) (.int .i64 n3) λw11=>K w11)/\aS (!b) False (J w3)
theorem xZ(cap0 cap1 cap2:Option Addr)(at0 e0:Int)(w:World)(K:World->Prop):wpR Tryz.prog Tryz.f105 (.two .leaf (.two (.two .leaf (.two (.meet [] (.two .leaf (.two .leaf .leaf))) (.draw [0,1,3,2,4,5,6,7]))) .leaf)) [Value.pointer cap0,Value.pointer cap1,Value.pointer cap2] (Value.iface (139:TypeId) (Value.agg #[Value.int .i64 at0,Value.int .i64 e0])) w K=kH cap0 cap1 cap2 at0 e0 w K:=by kernel_rfl
theorem xI{cap0 cap1 cap2:Option Addr}{at0 e0:Int}{w:World}{K:World->Prop}{u:FrameMode}(hu:(dG u).1=(Value.iface (139:TypeId) (Value.agg #[Value.int IntKind.i64 at0,Value.int IntKind.i64 e0])))(hwp:kH cap0 cap1 cap2 at0 e0 w K):jX Tryz.prog 105 [.pointer cap0,.pointer cap1,.pointer cap2] u w λu1 w1=>u1=(dG u).2/\K w1 :=
 uP Tryz.func105 (by rw[hu];exact(xZ cap0 cap1 cap2 at0 e0 w K).symm▸hwp)
def oO(text:ByteArray)(w:World)(K:Value->World->Prop):Prop :=
 bP w [.int .i64 0,.int .u64 0,.string (ByteArray.mk #[]),.slice none 0 0,.int .i64 0] 83 λa w1 =>
 bP w1 [.int .i64 0] 3 λa1 w2 =>
 bP w2 [.int .i64 0] 28 λa2 w3 =>
 aS (decide ((↑(ByteArray.size text):Int)>1048576)) (st w3 (a.add 0) (.int .i64 0) λw4=>st w4 (a.add 1) (.int .u64 0) λw5=>st w5 (a.add 2) (.string (ByteArray.mk #[])) λw6=>st w6 (a.add 3) (.slice none 0 0) λw7=>st w7 (a.add 4) (.int .i64 0) λw8=>st w8 (a1.add 0) (.int .i64 0) λw9=>st w9 (a2.add 0) (.int .i64 2) λw10=>∃n,w10.cell? (a.add 0)=some (.int .i64 n)/\∃n1,w10.cell? (a.add 1)=some (.int .u64 n1)/\∃s,w10.cell? (a.add 2)=some (.string s)/\∃p n2 c,w10.cell? (a.add 3)=some (.slice p n2 c)/\∃n3,w10.cell? (a.add 4)=some (.int .i64 n3)/\∃n4,w10.cell? a1=some (.int .i64 n4)/\∃n5,w10.cell? a2=some (.int .i64 n5)/\K (.tuple #[.agg #[.int .i64 n,.int .u64 n1,.string s,.slice p n2 c,.int .i64 n3],.int .i64 n4,.int .i64 n5]) w10)
 (bP w3 [.string text,.int .i64 0,.int .i64 0,.int .i64 0,.string (ByteArray.mk #[])] 145 λa3 w4 =>
 dL Tryz.prog 106 [.pointer (some a3)] w4
 (λv w5 =>
 ∃n n1 s,
 v=.agg #[.int .i64 n,.int .i64 n1,.string s] /\
 dL Tryz.prog 107 [.pointer (some a3),.int .i64 1] w5
 (λv1 w6 =>
 ∃n2 n3,
 ∃s1 p,
 ∃n4 c n5,
 v1=.agg #[.int .i64 n2,.int .u64 n3,.string s1,.slice p n4 c,.int .i64 n5] /\
 st w6 (a.add 0) (.int .i64 n2) λw7 =>
 st w7 (a.add 1) (.int .u64 n3) λw8 =>
 st w8 (a.add 2) (.string s1) λw9 =>
 st w9 (a.add 3) (.slice p n4 c) λw10 =>
 st w10 (a.add 4) (.int .i64 n5) λw11 =>
 ∃(J:World->Prop),
 (∀w12,J w12->∃n6,w12.cell? (a.add 0)=some (.int .i64 n6)/\∃n7,w12.cell? (a.add 1)=some (.int .u64 n7)/\∃s2,w12.cell? (a.add 2)=some (.string s2)/\∃p1 n8 c1,w12.cell? (a.add 3)=some (.slice p1 n8 c1)/\∃n9,w12.cell? (a.add 4)=some (.int .i64 n9)/\st w12 (a.add 0) (.int .i64 n6) λw13=>st w13 (a.add 1) (.int .u64 n7) λw14=>st w14 (a.add 2) (.string s2) λw15=>st w15 (a.add 3) (.slice p1 n8 c1) λw16=>st w16 (a.add 4) (.int .i64 n9) λw17=>st w17 (a1.add 0) (.int .i64 0) λw18=>st w18 (a2.add 0) (.int .i64 0) λw19=>aK9 Tryz.prog 105 [.pointer (some a),.pointer (some a1),.pointer (some a2)] w19 λw20=>∃n10,w20.cell? (a.add 0)=some (.int .i64 n10)/\∃n11,w20.cell? (a.add 1)=some (.int .u64 n11)/\∃s3,w20.cell? (a.add 2)=some (.string s3)/\∃p2 n12 c2,w20.cell? (a.add 3)=some (.slice p2 n12 c2)/\∃n13,w20.cell? (a.add 4)=some (.int .i64 n13)/\∃n14,w20.cell? a1=some (.int .i64 n14)/\∃n15,w20.cell? a2=some (.int .i64 n15)/\K (.tuple #[.agg #[.int .i64 n10,.int .u64 n11,.string s3,.slice p2 n12 c2,.int .i64 n13],.int .i64 n14,.int .i64 n15]) w20) /\
 ∃n6,w11.cell? ((a3.add 2).add 0)=some (.int .i64 n6)/\aS (n6 != 0) (dL Tryz.prog 108 [.pointer (some a3),.int .i64 44] w11 (λv2 w12=>v2=.tuple #[]/\J w12) λ(ch:List PanicEntry) (w12:World)=>jX Tryz.prog 105 [.pointer (some a),.pointer (some a1),.pointer (some a2)] (FrameMode.panicking ch) w12 λ(u':FrameMode) (w13:World)=>settle u'=FrameMode.returning/\∃n7,w13.cell? (a.add 0)=some (.int .i64 n7)/\∃n8,w13.cell? (a.add 1)=some (.int .u64 n8)/\∃s2,w13.cell? (a.add 2)=some (.string s2)/\∃p1 n9 c1,w13.cell? (a.add 3)=some (.slice p1 n9 c1)/\∃n10,w13.cell? (a.add 4)=some (.int .i64 n10)/\∃n11,w13.cell? a1=some (.int .i64 n11)/\∃n12,w13.cell? a2=some (.int .i64 n12)/\K (.tuple #[.agg #[.int .i64 n7,.int .u64 n8,.string s2,.slice p1 n9 c1,.int .i64 n10],.int .i64 n11,.int .i64 n12]) w13) (J w11))
 λ(ch:List PanicEntry) (w6:World)=>jX Tryz.prog 105 [.pointer (some a),.pointer (some a1),.pointer (some a2)] (FrameMode.panicking ch) w6 λ(u':FrameMode) (w7:World)=>settle u'=FrameMode.returning/\∃n2,w7.cell? (a.add 0)=some (.int .i64 n2)/\∃n3,w7.cell? (a.add 1)=some (.int .u64 n3)/\∃s1,w7.cell? (a.add 2)=some (.string s1)/\∃p n4 c,w7.cell? (a.add 3)=some (.slice p n4 c)/\∃n5,w7.cell? (a.add 4)=some (.int .i64 n5)/\∃n6,w7.cell? a1=some (.int .i64 n6)/\∃n7,w7.cell? a2=some (.int .i64 n7)/\K (.tuple #[.agg #[.int .i64 n2,.int .u64 n3,.string s1,.slice p n4 c,.int .i64 n5],.int .i64 n6,.int .i64 n7]) w7)
 λ(ch:List PanicEntry) (w5:World)=>jX Tryz.prog 105 [.pointer (some a),.pointer (some a1),.pointer (some a2)] (FrameMode.panicking ch) w5 λ(u':FrameMode) (w6:World)=>settle u'=FrameMode.returning/\∃n,w6.cell? (a.add 0)=some (.int .i64 n)/\∃n1,w6.cell? (a.add 1)=some (.int .u64 n1)/\∃s,w6.cell? (a.add 2)=some (.string s)/\∃p n2 c,w6.cell? (a.add 3)=some (.slice p n2 c)/\∃n3,w6.cell? (a.add 4)=some (.int .i64 n3)/\∃n4,w6.cell? a1=some (.int .i64 n4)/\∃n5,w6.cell? a2=some (.int .i64 n5)/\K (.tuple #[.agg #[.int .i64 n,.int .u64 n1,.string s,.slice p n2 c,.int .i64 n3],.int .i64 n4,.int .i64 n5]) w6)
theorem aFu(text:ByteArray)(w:World)(K:Value->World->Prop):aUf Tryz.prog Tryz.f71 [.leaf,.two .leaf (.two (.two .leaf .leaf) .leaf),.leaf,.two .leaf (.two .leaf (.two .leaf (.two (.meet [] (.two .leaf (.two .leaf .leaf))) (.two .leaf .leaf))))] [Value.string text] w K=oO text w K:=by kernel_rfl
theorem aFh{text:ByteArray}{w:World}{K:Value->World->Prop}(hwp:oO text w K):bK Tryz.prog 71 [.string text] w K :=
 aHe Tryz.func71 ((aFu text w K).symm▸hwp)
end Go.Proofs.YtlfhjkgdlclddaaGreatDoor
