/-
  What a call of each function comes to (definitions 'wp_..', reckoned by a program out of the model's code), and that it is sound ('ok_..'). Written by program (sv.py).
-/
import Derived.Test.YtnacobknngidkaaGreatDoorPy11
import Derived.Test.YtnacobknngidkaaGreatDoorProg
import Derived.KernelRfl
set_option linter.unusedVariables false
set_option linter.unusedSimpArgs false
namespace Go.Proofs.YtnacobknngidkaaGreatDoor
open Go Go.Sv
set_option linter.unusedVariables false
set_option maxRecDepth 100000
def wp_note_reader_step (r:Option Addr) (w:World) (K:Value→World→Prop):Prop :=
 newB w [.int .i64 0,.int .i64 0,.string (ByteArray.mk #[])] 69 fun a w1 =>
 nn r fun a1 =>
 ∃ n,
 w1.cell? ((a1.add 2).add 0)=some (.int .i64 n) ∧
 ∃ n1,
 w1.cell? ((a1.add 2).add 1)=some (.int .i64 n1) ∧
 ∃ s,
 w1.cell? ((a1.add 2).add 2)=some (.string s) ∧
 newB w1 [.int .i64 0,.int .i64 0,.string (ByteArray.mk #[])] 69 fun a2 w2 =>
 st w2 (a2.add 0) (.int .i64 n) fun w3 =>
 st w3 (a2.add 1) (.int .i64 n1) fun w4 =>
 st w4 (a2.add 2) (.string s) fun w5 =>
 ∃ (J:World→Prop),
 (∀ w6,J w6 →
 nn r fun a3 =>
 ∃ n2,
 w6.cell? (a3.add 1)=some (.int .i64 n2) ∧
 nn r fun a4 =>
 st w6 ((a4.add 2).add 0) (.int .i64 0) fun w7 =>
 st w7 ((a4.add 2).add 1) (.int .i64 n2) fun w8 =>
 st w8 ((a4.add 2).add 2) (.string (ByteArray.mk #[])) fun w9 =>
 nn r fun a5 =>
 nn r fun a6 =>
 ∃ n3,
 w9.drew.cell? (a5.add 1)=some (.int .i64 n3) ∧
 ∃ s1,
 w9.drew.cell? (a6.add 0)=some (.string s1) ∧
 Sif (n3 == (↑(ByteArray.size s1):Int)) (∃ n4,w9.drew.cell? (a2.add 0)=some (.int .i64 n4)∧∃ n5,w9.drew.cell? (a2.add 1)=some (.int .i64 n5)∧∃ s2,w9.drew.cell? (a2.add 2)=some (.string s2)∧st w9.drew (a.add 0) (.int .i64 n4) fun w10=>st w10 (a.add 1) (.int .i64 n5) fun w11=>st w11 (a.add 2) (.string s2) fun w12=>∃ n6,w12.cell? (a.add 0)=some (.int .i64 n6)∧∃ n7,w12.cell? (a.add 1)=some (.int .i64 n7)∧∃ s3,w12.cell? (a.add 2)=some (.string s3)∧K (.agg #[.int .i64 n6,.int .i64 n7,.string s3]) w12)
 (nn r fun a7 =>
 nn r fun a8 =>
 ∃ s2,
 w9.drew.drew.cell? (a7.add 0)=some (.string s2) ∧
 ∃ n4,
 w9.drew.drew.cell? (a8.add 1)=some (.int .i64 n4) ∧
 0≤n4 ∧
 n4≤(↑(ByteArray.size s2):Int) ∧
 ∃ (J1:Int→World→Prop),
 (∀ n5 w10,J1 n5 w10→nn r fun a9=>∃ n6,w10.cell? (a9.add 1)=some (.int .i64 n6)∧nn r fun a10=>st w10 ((a10.add 1).add 0) (.int .i64 (IntKind.wrap .i64 (n6+n5))) fun w11=>∃ n7,w11.cell? (a2.add 0)=some (.int .i64 n7)∧∃ n8,w11.cell? (a2.add 1)=some (.int .i64 n8)∧∃ s3,w11.cell? (a2.add 2)=some (.string s3)∧st w11 (a.add 0) (.int .i64 n7) fun w12=>st w12 (a.add 1) (.int .i64 n8) fun w13=>st w13 (a.add 2) (.string s3) fun w14=>∃ n9,w14.cell? (a.add 0)=some (.int .i64 n9)∧∃ n10,w14.cell? (a.add 1)=some (.int .i64 n10)∧∃ s4,w14.cell? (a.add 2)=some (.string s4)∧K (.agg #[.int .i64 n9,.int .i64 n10,.string s4]) w14) ∧
 (0:Int)≤0 ∧
 0<(↑(ByteArray.size (ByteArray.extract s2 (Int.toNat n4) (ByteArray.size s2))):Int) ∧
 nameI (byteAt (ByteArray.extract s2 (Int.toNat n4) (ByteArray.size s2)) 0) fun n5 =>
 Sif (n5 == 34) (callP Tryz.prog 58 [.string (ByteArray.extract s2 (Int.toNat n4) (ByteArray.size s2))] w9.drew.drew fun v w10=>∃ s3 n6,v=.tuple #[.string s3,.int .i64 n6]∧Sif (n6 == 0) (nn r fun a9=>st w10 (Addr.add ((a9.add 2).add 0) 0) (.int .i64 4) fun w11=>nn r fun a10=>st w11 (Addr.add ((a10.add 2).add 2) 0) (.string (ByteArray.mk #[(34:UInt8)])) fun w12=>J1 1 w12) (nn r fun a9=>st w10 (Addr.add ((a9.add 2).add 0) 0) (.int .i64 2) fun w11=>nn r fun a10=>st w11 (Addr.add ((a10.add 2).add 2) 0) (.string s3) fun w12=>J1 n6 w12))
 (callP Tryz.prog 68 [.string (ByteArray.mk #[(91:UInt8),(93:UInt8),(123:UInt8),(125:UInt8),(40:UInt8),(41:UInt8),(58:UInt8),(44:UInt8)]),.int .u8 n5] w9.drew.drew fun v w10 =>
 ∃ n6,v=.int .i64 n6∧Sif (decide (n6≥0)) ((0:Int)≤1∧1≤(↑(ByteArray.size (ByteArray.extract s2 (Int.toNat n4) (ByteArray.size s2))):Int)∧nn r fun a9=>st w10.drew (Addr.add ((a9.add 2).add 0) 0) (.int .i64 3) fun w11=>nn r fun a10=>st w11 (Addr.add ((a10.add 2).add 2) 0) (.string (ByteArray.extract (ByteArray.extract s2 (Int.toNat n4) (ByteArray.size s2)) 0 1)) fun w12=>J1 1 w12) (callP Tryz.prog 69 [.int .u8 n5] w10 fun v1 w11=>∃ b,v1=.bool b∧Sif b (∃ (I:Nat→Int→World→Prop),(∃ m,I m 1 w11)∧∀ m n7 w12,I m n7 w12→∃ (J2:World→Prop),(∀ w13,J2 w13→nameI (IntKind.wrap .i64 (n7+1)) fun n8=>∃ m',m'<m∧I m' n8 w13)∧Sif (decide (n7<(↑(ByteArray.size (ByteArray.extract s2 (Int.toNat n4) (ByteArray.size s2))):Int))) (0≤n7∧n7<(↑(ByteArray.size (ByteArray.extract s2 (Int.toNat n4) (ByteArray.size s2))):Int)∧callP Tryz.prog 69 [.int .u8 (byteAt (ByteArray.extract s2 (Int.toNat n4) (ByteArray.size s2)) (Int.toNat n7))] w12 fun v2 w13=>∃ b1,v2=.bool b1∧Sif b1 (J2 w13) (0≤n7∧n7≤(↑(ByteArray.size (ByteArray.extract s2 (Int.toNat n4) (ByteArray.size s2))):Int)∧nn r fun a9=>st w13.drew (Addr.add ((a9.add 2).add 0) 0) (.int .i64 1) fun w14=>nn r fun a10=>st w14 (Addr.add ((a10.add 2).add 2) 0) (.string (ByteArray.extract (ByteArray.extract s2 (Int.toNat n4) (ByteArray.size s2)) 0 (Int.toNat n7))) fun w15=>J1 n7 w15)) (0≤n7∧n7≤(↑(ByteArray.size (ByteArray.extract s2 (Int.toNat n4) (ByteArray.size s2))):Int)∧nn r fun a9=>st w12.drew (Addr.add ((a9.add 2).add 0) 0) (.int .i64 1) fun w13=>nn r fun a10=>st w13 (Addr.add ((a10.add 2).add 2) 0) (.string (ByteArray.extract (ByteArray.extract s2 (Int.toNat n4) (ByteArray.size s2)) 0 (Int.toNat n7))) fun w14=>J1 n7 w14)) (nn r fun a9=>st w11 (Addr.add ((a9.add 2).add 0) 0) (.int .i64 4) fun w12=>J1 1 w12))))) ∧
 ∃ (I:Nat→World→Prop),(∃ m,I m w5)∧∀ m w6,I m w6→nn r fun a3=>nn r fun a4=>∃ n2,w6.drew.cell? (a3.add 1)=some (.int .i64 n2)∧∃ s1,w6.drew.cell? (a4.add 0)=some (.string s1)∧Sif (decide (n2<(↑(ByteArray.size s1):Int))) (∃ (J1:World→Prop),(∀ w7,J1 w7→nn r fun a5=>∃ n3,w7.cell? (a5.add 1)=some (.int .i64 n3)∧nn r fun a6=>st w7 ((a6.add 1).add 0) (.int .i64 (IntKind.wrap .i64 (n3+1))) fun w8=>∃ m',m'<m∧I m' w8)∧nn r fun a5=>nn r fun a6=>∃ s2,w6.drew.drew.cell? (a5.add 0)=some (.string s2)∧∃ n3,w6.drew.drew.cell? (a6.add 1)=some (.int .i64 n3)∧0≤n3∧n3<(↑(ByteArray.size s2):Int)∧∃ (J2:Bool→World→Prop),(∀ b w7,J2 b w7→Sif b (J1 w7) (Sif (byteAt s2 (Int.toNat n3) == 35) (nn r fun a7=>nn r fun a8=>∃ s3,w7.drew.cell? (a7.add 0)=some (.string s3)∧∃ n4,w7.drew.cell? (a8.add 1)=some (.int .i64 n4)∧0≤n4∧n4≤(↑(ByteArray.size s3):Int)∧callP Tryz.prog 68 [.string (ByteArray.extract s3 (Int.toNat n4) (ByteArray.size s3)),.int .u8 10] w7.drew fun v w8=>∃ n5,v=.int .i64 n5∧Sif (decide (n5<0)) (nn r fun a9=>∃ s4,w8.cell? (a9.add 0)=some (.string s4)∧nn r fun a10=>st w8 ((a10.add 1).add 0) (.int .i64 (↑(ByteArray.size s4):Int)) fun w9=>J w9) (nn r fun a9=>∃ n6,w8.cell? (a9.add 1)=some (.int .i64 n6)∧nn r fun a10=>st w8 ((a10.add 1).add 0) (.int .i64 (IntKind.wrap .i64 (n6+n5))) fun w9=>J1 w9)) (J w7)))∧Sif (byteAt s2 (Int.toNat n3) == 32) (J2 (byteAt s2 (Int.toNat n3) == 32) w6.drew.drew) (Sif (byteAt s2 (Int.toNat n3) == 9) (J2 (byteAt s2 (Int.toNat n3) == 9) w6.drew.drew) (Sif (byteAt s2 (Int.toNat n3) == 10) (J2 (byteAt s2 (Int.toNat n3) == 10) w6.drew.drew) (J2 (byteAt s2 (Int.toNat n3) == 13) w6.drew.drew)))) (J w6.drew)
theorem ok_note_reader_step {r:Option Addr} {w:World} {K:Value→World→Prop} (hwp:wp_note_reader_step r w K):callP Tryz.prog 41 [.pointer r] w K :=
 calls_of Tryz.func41 ((by kernel_rfl:wpF Tryz.prog none Tryz.f41 (.two .leaf (.two (.two .leaf (.two .leaf (.two (.meet [] (.two (.loop [] (.two (.two (.draw [0,1,2,4,5,6,3,7,8,9]) (.two .leaf .leaf)) (.two (.meet [] (.two (.two (.draw [0,1,2,4,5,6,3,7,8]) (.two (.two (.meet [(40,.cell .bool)] (.two .leaf (.two .leaf (.two .leaf (.two .leaf (.two .leaf (.two .leaf .leaf))))))) (.two .leaf (.two .leaf (.two (.two (.draw [0,1,2,4,5,6,3,7,8,9,10]) (.two (.two .leaf (.two (.two .leaf .leaf) .leaf)) .leaf)) .leaf)))) .leaf)) .leaf)) .leaf))) .leaf)) (.two .leaf (.two (.two (.draw [0,1,2,4,5,6,3,7,8,9]) (.two (.two .leaf .leaf) .leaf)) (.two (.draw [0,1,2,4,5,6,3,7,8,9]) (.two .leaf (.two (.meet [(6,.cell (.int .i64))] (.two .leaf (.two (.two .leaf (.two (.two .leaf (.two (.two .leaf (.two (.two .leaf (.two .leaf .leaf)) .leaf)) .leaf)) (.two .leaf (.two (.draw [0,1,2,3,4,5,6,7,8,9,10,11]) (.two .leaf (.two (.two (.two (.loop [(6,.cell (.int .i64))] (.two (.meet [] (.two .leaf (.two .leaf .leaf))) (.two .leaf .leaf))) .leaf) (.draw [0,1,2,3,4,5,6,7,8,9,10,11,12])) .leaf)))))) .leaf))) (.two .leaf (.two .leaf .leaf)))))))))) .leaf)) [Value.pointer r] w K=wp_note_reader_step r w K).symm▸hwp)
def wp_note_reader_refuse (r:Option Addr) (e:Int) (KP:List PanicEntry→World→Prop) (w:World) (K:Value→World→Prop):Prop :=
 ∃ (J:Int→World→Prop),(∀ n w1,J n w1→nn r fun a=>∃ n1,w1.cell? ((a.add 2).add 1)=some (.int .i64 n1)∧callX Tryz.prog 78 [.int .i64 n1,.int .i64 n] w1 (fun v w2=>v=.tuple #[]∧K (.tuple #[]) w2) fun (a1:List PanicEntry) (w2:World)=>KP a1 w2)∧nn r fun a=>∃ n,w.cell? ((a.add 2).add 0)=some (.int .i64 n)∧Sif (n == 4) (nn r fun a1=>∃ s,w.cell? ((a1.add 2).add 2)=some (.string s)∧Sif (!ByteArray.toList s == ByteArray.toList (ByteArray.mk #[])) (J 42 w) (J e w)) (J e w)
theorem ok_note_reader_refuse {r:Option Addr} {e:Int} {KP:List PanicEntry→World→Prop} {w:World} {K:Value→World→Prop} (hwp:wp_note_reader_refuse r e KP w K):callX Tryz.prog 43 [.pointer r,.int .i64 e] w K KP :=
 callsX_of Tryz.func43 ((by kernel_rfl:wpF Tryz.prog (some KP) Tryz.f43 (.two (.meet [(1,.cell (.int .i64))] (.two .leaf (.two .leaf .leaf))) .leaf) [Value.pointer r,Value.int .i64 e] w K=wp_note_reader_refuse r e KP w K).symm▸hwp)
def wp_note_reader_is (r:Option Addr) (sign:ByteArray) (w:World) (K:Value→World→Prop):Prop :=
 nn r fun a=>∃ n,w.cell? ((a.add 2).add 0)=some (.int .i64 n)∧Sif (n == 3) (nn r fun a1=>∃ s,w.cell? ((a1.add 2).add 2)=some (.string s)∧K (.bool (ByteArray.toList s == ByteArray.toList sign)) w) (K (.bool false) w)
theorem ok_note_reader_is {r:Option Addr} {sign:ByteArray} {w:World} {K:Value→World→Prop} (hwp:wp_note_reader_is r sign w K):callP Tryz.prog 115 [.pointer r,.string sign] w K :=
 calls_of Tryz.func115 ((by kernel_rfl:wpF Tryz.prog none Tryz.f115 (.two .leaf (.two .leaf .leaf)) [Value.pointer r,Value.string sign] w K=wp_note_reader_is r sign w K).symm▸hwp)
def wp_note_reader_closing (r:Option Addr) (w:World) (K:Value→World→Prop):Prop :=
 nn r fun a=>∃ n,w.cell? ((a.add 2).add 0)=some (.int .i64 n)∧Sif (!n == 0) (callP Tryz.prog 115 [.pointer r,.string (ByteArray.mk #[(93:UInt8)])] w fun v w1=>∃ b,v=.bool b∧Sif (!b) (callP Tryz.prog 115 [.pointer r,.string (ByteArray.mk #[(125:UInt8)])] w1 fun v1 w2=>∃ b1,v1=.bool b1∧Sif (!b1) (callP Tryz.prog 115 [.pointer r,.string (ByteArray.mk #[(41:UInt8)])] w2 fun v2 w3=>∃ b2,v2=.bool b2∧K (.bool b2) w3) (K (.bool true) w2)) (K (.bool true) w1)) (K (.bool true) w)
theorem ok_note_reader_closing {r:Option Addr} {w:World} {K:Value→World→Prop} (hwp:wp_note_reader_closing r w K):callP Tryz.prog 71 [.pointer r] w K :=
 calls_of Tryz.func71 ((by kernel_rfl:wpF Tryz.prog none Tryz.f71 (.two .leaf (.two .leaf .leaf)) [Value.pointer r] w K=wp_note_reader_closing r w K).symm▸hwp)
def wp_note_reader_want (r:Option Addr) (sign:ByteArray) (KP:List PanicEntry→World→Prop) (w:World) (K:Value→World→Prop):Prop :=
 ∃ (J:World→Prop),(∀ w1,J w1→callX Tryz.prog 41 [.pointer r] w1 (fun v w2=>∃ n n1 s,v=.agg #[.int .i64 n,.int .i64 n1,.string s]∧K (.tuple #[]) w2) fun (a:List PanicEntry) (w2:World)=>KP a w2)∧callX Tryz.prog 115 [.pointer r,.string sign] w (fun v w1=>∃ b,v=.bool b∧Sif (!b) (∃ (J1:World→Prop),(∀ w2,J1 w2→callX Tryz.prog 43 [.pointer r,.int .i64 40] w2 (fun v1 w3=>v1=.tuple #[]∧J w3) fun (a:List PanicEntry) (w3:World)=>KP a w3)∧callX Tryz.prog 71 [.pointer r] w1 (fun v1 w2=>∃ b1,v1=.bool b1∧Sif b1 (callX Tryz.prog 43 [.pointer r,.int .i64 43] w2 (fun v2 w3=>v2=.tuple #[]∧J1 w3) fun (a:List PanicEntry) (w3:World)=>KP a w3) (J1 w2)) fun (a:List PanicEntry) (w2:World)=>KP a w2) (J w1)) fun (a:List PanicEntry) (w1:World)=>KP a w1
theorem ok_note_reader_want {r:Option Addr} {sign:ByteArray} {KP:List PanicEntry→World→Prop} {w:World} {K:Value→World→Prop} (hwp:wp_note_reader_want r sign KP w K):callX Tryz.prog 76 [.pointer r,.string sign] w K KP :=
 callsX_of Tryz.func76 ((by kernel_rfl:wpF Tryz.prog (some KP) Tryz.f76 (.two (.meet [] (.two .leaf (.two (.two (.meet [] (.two .leaf (.two .leaf .leaf))) .leaf) .leaf))) .leaf) [Value.pointer r,Value.string sign] w K=wp_note_reader_want r sign KP w K).symm▸hwp)
def wp_note_reader_integer (r:Option Addr) (bits:Int) (signed:Bool) (KP:List PanicEntry→World→Prop) (w:World) (K:Value→World→Prop):Prop :=
 nn r fun a =>
 ∃ s,
 w.cell? ((a.add 2).add 2)=some (.string s) ∧
 ∃ (J:World→Prop),
 (∀ w1,J w1→Sif signed (callX Tryz.prog 159 [.string s,.int .i64 10,.int .i64 bits] w1 (fun v w2=>∃ n v1,v=.tuple #[.int .i64 n,v1]∧∃ (J1:World→Prop),(∀ w3,J1 w3→callX Tryz.prog 41 [.pointer r] w3 (fun v2 w4=>∃ n1 n2 s1,v2=.agg #[.int .i64 n1,.int .i64 n2,.string s1]∧nameI (IntKind.wrap IntKind.u64 n) fun n3=>K (.int .u64 n3) w4) fun (a1:List PanicEntry) (w4:World)=>KP a1 w4)∧isI v1=true∧Sif (!isNilI v1) (callX Tryz.prog 43 [.pointer r,.int .i64 41] w2 (fun v2 w3=>v2=.tuple #[]∧J1 w3) fun (a1:List PanicEntry) (w3:World)=>KP a1 w3) (J1 w2)) fun (a1:List PanicEntry) (w2:World)=>KP a1 w2) (callX Tryz.prog 160 [.string s,.int .i64 10,.int .i64 bits] w1 (fun v w2=>∃ n v1,v=.tuple #[.int .u64 n,v1]∧∃ (J1:World→Prop),(∀ w3,J1 w3→callX Tryz.prog 41 [.pointer r] w3 (fun v2 w4=>∃ n1 n2 s1,v2=.agg #[.int .i64 n1,.int .i64 n2,.string s1]∧K (.int .u64 n) w4) fun (a1:List PanicEntry) (w4:World)=>KP a1 w4)∧isI v1=true∧Sif (!isNilI v1) (callX Tryz.prog 43 [.pointer r,.int .i64 41] w2 (fun v2 w3=>v2=.tuple #[]∧J1 w3) fun (a1:List PanicEntry) (w3:World)=>KP a1 w3) (J1 w2)) fun (a1:List PanicEntry) (w2:World)=>KP a1 w2)) ∧
 nn r fun a1=>∃ n,w.cell? ((a1.add 2).add 0)=some (.int .i64 n)∧Sif (!n != 1) (Sif (!ByteArray.toList s == ByteArray.toList (ByteArray.mk #[(48:UInt8)])) (callX Tryz.prog 158 [.string s,.string (ByteArray.mk #[(45:UInt8)])] w (fun v w1=>∃ s1,v=.string s1∧callX Tryz.prog 52 [.string s1,.string (ByteArray.mk #[(48:UInt8)])] w1 (fun v1 w2=>∃ b,v1=.bool b∧Sif b (callX Tryz.prog 43 [.pointer r,.int .i64 41] w2 (fun v2 w3=>v2=.tuple #[]∧J w3) fun (a2:List PanicEntry) (w3:World)=>KP a2 w3) (J w2)) fun (a2:List PanicEntry) (w2:World)=>KP a2 w2) fun (a2:List PanicEntry) (w1:World)=>KP a2 w1) (J w)) (callX Tryz.prog 43 [.pointer r,.int .i64 41] w (fun v w1=>v=.tuple #[]∧J w1) fun (a2:List PanicEntry) (w1:World)=>KP a2 w1)
theorem ok_note_reader_integer {r:Option Addr} {bits:Int} {signed:Bool} {KP:List PanicEntry→World→Prop} {w:World} {K:Value→World→Prop} (hwp:wp_note_reader_integer r bits signed KP w K):callX Tryz.prog 119 [.pointer r,.int .i64 bits,.bool signed] w K KP :=
 callsX_of Tryz.func119 ((by kernel_rfl:wpF Tryz.prog (some KP) Tryz.f119 (.two .leaf (.two .leaf (.two (.meet [] (.two .leaf (.two .leaf .leaf))) (.two (.two .leaf (.two (.two .leaf (.two (.meet [] (.two .leaf (.two .leaf .leaf))) (.two .leaf (.two .leaf .leaf)))) .leaf)) (.two .leaf (.two (.meet [] (.two .leaf (.two .leaf .leaf))) (.two .leaf (.two .leaf .leaf)))))))) [Value.pointer r,Value.int .i64 bits,Value.bool signed] w K=wp_note_reader_integer r bits signed KP w K).symm▸hwp)
def wp_note_reader_digits (r:Option Addr) (many:Int) (KP:List PanicEntry→World→Prop) (w:World) (K:Value→World→Prop):Prop :=
 nn r fun a =>
 ∃ s,
 w.cell? ((a.add 2).add 2)=some (.string s) ∧
 ∃ (J:World→Prop),
 (∀ w1,J w1→(2:Int)≠(0:Int)∧∃ p n,∃ c w2,Sem.run Tryz.prog (Instr.makeSlice 55 (.int .i64 (IntKind.wrap .i64 (Int.tdiv many 2))) (.int .i64 (IntKind.wrap .i64 (Int.tdiv many 2)))) w1=Result.ok (.slice p n c) w2∧∃ (I:Nat→Int→World→Prop),(∃ m,I m 0 w2)∧∀ m n1 w3,I m n1 w3→Sif (decide (n1<(↑n:Int))) (0≤IntKind.wrap .i64 (2*n1)∧IntKind.wrap .i64 (2*n1)<(↑(ByteArray.size s):Int)∧0≤IntKind.wrap .i64 (IntKind.wrap .i64 (2*n1)+1)∧IntKind.wrap .i64 (IntKind.wrap .i64 (2*n1)+1)<(↑(ByteArray.size s):Int)∧callX Tryz.prog 134 [.int .u8 (byteAt s (Int.toNat (IntKind.wrap .i64 (2*n1))))] w3.drew (fun v w4=>∃ n2,v=.int .i64 n2∧(0:Int)≤4∧callX Tryz.prog 134 [.int .u8 (byteAt s (Int.toNat (IntKind.wrap .i64 (IntKind.wrap .i64 (2*n1)+1))))] w4 (fun v1 w5=>∃ n3,v1=.int .i64 n3∧0≤n1∧n1<(↑n:Int)∧nn p fun a1=>st w5 (Addr.add (a1.add (Int.toNat n1*1)) 0) (.int .u8 (IntKind.wrap IntKind.u8 (bitsV BinOp.or IntKind.i64 (IntKind.wrap .i64 (n2*(2:Int)^(4:Nat))) n3))) fun w6=>∃ m',m'<m∧I m' (IntKind.wrap .i64 (n1+1)) w6) fun (a1:List PanicEntry) (w5:World)=>KP a1 w5) fun (a1:List PanicEntry) (w4:World)=>KP a1 w4) (callX Tryz.prog 41 [.pointer r] w3 (fun v w4=>∃ n2 n3 s1,v=.agg #[.int .i64 n2,.int .i64 n3,.string s1]∧K (.slice p n c) w4) fun (a1:List PanicEntry) (w4:World)=>KP a1 w4)) ∧
 nn r fun a1=>∃ n,w.cell? ((a1.add 2).add 0)=some (.int .i64 n)∧Sif (!n != 1) (Sif (!(↑(ByteArray.size s):Int) != many) (callX Tryz.prog 161 [.string s,.string (ByteArray.mk #[(48:UInt8),(49:UInt8),(50:UInt8),(51:UInt8),(52:UInt8),(53:UInt8),(54:UInt8),(55:UInt8),(56:UInt8),(57:UInt8),(97:UInt8),(98:UInt8),(99:UInt8),(100:UInt8),(101:UInt8),(102:UInt8)])] w (fun v w1=>∃ s1,v=.string s1∧Sif (!ByteArray.toList s1 == ByteArray.toList (ByteArray.mk #[])) (callX Tryz.prog 43 [.pointer r,.int .i64 41] w1 (fun v1 w2=>v1=.tuple #[]∧J w2) fun (a2:List PanicEntry) (w2:World)=>KP a2 w2) (J w1)) fun (a2:List PanicEntry) (w1:World)=>KP a2 w1) (callX Tryz.prog 43 [.pointer r,.int .i64 41] w (fun v w1=>v=.tuple #[]∧J w1) fun (a2:List PanicEntry) (w1:World)=>KP a2 w1)) (callX Tryz.prog 43 [.pointer r,.int .i64 41] w (fun v w1=>v=.tuple #[]∧J w1) fun (a2:List PanicEntry) (w1:World)=>KP a2 w1)
theorem ok_note_reader_digits {r:Option Addr} {many:Int} {KP:List PanicEntry→World→Prop} {w:World} {K:Value→World→Prop} (hwp:wp_note_reader_digits r many KP w K):callX Tryz.prog 122 [.pointer r,.int .i64 many] w K KP :=
 callsX_of Tryz.func122 ((by kernel_rfl:wpF Tryz.prog (some KP) Tryz.f122 (.two .leaf (.two .leaf (.two (.meet [] (.two .leaf (.two .leaf .leaf))) (.two .leaf (.two (.two .leaf (.two (.loop [(37,.cell (.int .i64))] (.two .leaf (.two (.two .leaf .leaf) (.two (.two (.two .leaf (.draw [0,1,2,3,4,5,8,9,10,11,12,6,7,13,14,15,16,17])) .leaf) .leaf)))) .leaf)) (.two .leaf (.two .leaf .leaf))))))) [Value.pointer r,Value.int .i64 many] w K=wp_note_reader_digits r many KP w K).symm▸hwp)
def wp_note_reader_said (r:Option Addr) (kind:Int) (KP:List PanicEntry→World→Prop) (w:World) (K:Value→World→Prop):Prop :=
 newB w [.int .i64 0,.int .u64 0,.string (ByteArray.mk #[]),.slice none 0 0,.int .i64 0] 26 fun a w1 =>
 nn r fun a1 =>
 ∃ s,
 w1.cell? ((a1.add 2).add 2)=some (.string s) ∧
 ∃ (J:World→Prop),
 (∀ w2,J w2→callX Tryz.prog 41 [.pointer r] w2 (fun v w3=>∃ n n1 s1,v=.agg #[.int .i64 n,.int .i64 n1,.string s1]∧st w3 (a.add 0) (.int .i64 kind) fun w4=>st w4 (a.add 1) (.int .u64 0) fun w5=>st w5 (a.add 2) (.string s) fun w6=>st w6 (a.add 3) (.slice none 0 0) fun w7=>st w7 (a.add 4) (.int .i64 0) fun w8=>∃ n2,w8.cell? (a.add 0)=some (.int .i64 n2)∧∃ n3,w8.cell? (a.add 1)=some (.int .u64 n3)∧∃ s2,w8.cell? (a.add 2)=some (.string s2)∧∃ p n4 c,w8.cell? (a.add 3)=some (.slice p n4 c)∧∃ n5,w8.cell? (a.add 4)=some (.int .i64 n5)∧K (.agg #[.int .i64 n2,.int .u64 n3,.string s2,.slice p n4 c,.int .i64 n5]) w8) fun (a2:List PanicEntry) (w3:World)=>KP a2 w3) ∧
 nn r fun a2=>∃ n,w1.cell? ((a2.add 2).add 0)=some (.int .i64 n)∧Sif (n != 2) (callX Tryz.prog 43 [.pointer r,.int .i64 42] w1 (fun v w2=>v=.tuple #[]∧J w2) fun (a3:List PanicEntry) (w2:World)=>KP a3 w2) (Sif (kind == 19) (callX Tryz.prog 116 [.string s] w1 (fun v w2=>∃ n1,v=.int .i64 n1∧Sif (!decide (n1≥0)) (Sif (kind == 20) (callX Tryz.prog 117 [.string s] w2 (fun v1 w3=>∃ n2,v1=.int .i64 n2∧Sif (decide (n2≥0)) (callX Tryz.prog 43 [.pointer r,.int .i64 22] w3 (fun v2 w4=>v2=.tuple #[]∧J w4) fun (a3:List PanicEntry) (w4:World)=>KP a3 w4) (J w3)) fun (a3:List PanicEntry) (w3:World)=>KP a3 w3) (J w2)) (callX Tryz.prog 43 [.pointer r,.int .i64 22] w2 (fun v1 w3=>v1=.tuple #[]∧J w3) fun (a3:List PanicEntry) (w3:World)=>KP a3 w3)) fun (a3:List PanicEntry) (w2:World)=>KP a3 w2) (Sif (kind == 20) (callX Tryz.prog 117 [.string s] w1 (fun v w2=>∃ n1,v=.int .i64 n1∧Sif (decide (n1≥0)) (callX Tryz.prog 43 [.pointer r,.int .i64 22] w2 (fun v1 w3=>v1=.tuple #[]∧J w3) fun (a3:List PanicEntry) (w3:World)=>KP a3 w3) (J w2)) fun (a3:List PanicEntry) (w2:World)=>KP a3 w2) (J w1)))
theorem ok_note_reader_said {r:Option Addr} {kind:Int} {KP:List PanicEntry→World→Prop} {w:World} {K:Value→World→Prop} (hwp:wp_note_reader_said r kind KP w K):callX Tryz.prog 72 [.pointer r,.int .i64 kind] w K KP :=
 callsX_of Tryz.func72 ((by kernel_rfl:wpF Tryz.prog (some KP) Tryz.f72 (.two .leaf (.two .leaf (.two (.meet [] (.two (.two .leaf (.two .leaf (.two .leaf (.two .leaf .leaf)))) .leaf)) (.two .leaf (.two .leaf .leaf))))) [Value.pointer r,Value.int .i64 kind] w K=wp_note_reader_said r kind KP w K).symm▸hwp)
def wp_note_reader_value (r:Option Addr) (depth:Int) (KP:List PanicEntry→World→Prop) (w:World) (K:Value→World→Prop):Prop :=
 newB w [.int .i64 0,.int .u64 0,.string (ByteArray.mk #[]),.slice none 0 0,.int .i64 0] 26 fun a w1 =>
 nn r fun a1 =>
 ∃ n,
 w1.cell? ((a1.add 2).add 0)=some (.int .i64 n) ∧
 ∃ n1,
 w1.cell? ((a1.add 2).add 1)=some (.int .i64 n1) ∧
 ∃ s,
 w1.cell? ((a1.add 2).add 2)=some (.string s) ∧
 newB w1 [.int .i64 0,.int .i64 0,.string (ByteArray.mk #[])] 69 fun a2 w2 =>
 st w2 (a2.add 0) (.int .i64 n) fun w3 =>
 st w3 (a2.add 1) (.int .i64 n1) fun w4 =>
 st w4 (a2.add 2) (.string s) fun w5 =>
 callX Tryz.prog 70 [.pointer r] w5
 (fun v w6 =>
 ∃ n2 b,
 v=.tuple #[.int .i64 n2,.bool b] ∧
 ∃ (J:World→Prop),
 (∀ w7,J w7 →
 Sif (n2 == 19) (callX Tryz.prog 72 [.pointer r,.int .i64 n2] w7 (fun v1 w8=>∃ n3 n4,∃ s1 p,∃ n5 c n6,v1=.agg #[.int .i64 n3,.int .u64 n4,.string s1,.slice p n5 c,.int .i64 n6]∧st w8 (a.add 0) (.int .i64 n3) fun w9=>st w9 (a.add 1) (.int .u64 n4) fun w10=>st w10 (a.add 2) (.string s1) fun w11=>st w11 (a.add 3) (.slice p n5 c) fun w12=>st w12 (a.add 4) (.int .i64 n6) fun w13=>∃ n7,w13.cell? (a.add 0)=some (.int .i64 n7)∧∃ n8,w13.cell? (a.add 1)=some (.int .u64 n8)∧∃ s2,w13.cell? (a.add 2)=some (.string s2)∧∃ p1 n9 c1,w13.cell? (a.add 3)=some (.slice p1 n9 c1)∧∃ n10,w13.cell? (a.add 4)=some (.int .i64 n10)∧K (.agg #[.int .i64 n7,.int .u64 n8,.string s2,.slice p1 n9 c1,.int .i64 n10]) w13) fun (a3:List PanicEntry) (w8:World)=>KP a3 w8)
 (callX Tryz.prog 41 [.pointer r] w7
 (fun v1 w8 =>
 ∃ n3 n4 s1,
 v1=.agg #[.int .i64 n3,.int .i64 n4,.string s1] ∧
 newB w8 [.int .i64 0,.int .u64 0,.string (ByteArray.mk #[]),.slice none 0 0,.int .i64 0] 26 fun a3 w9 =>
 st w9 (a3.add 0) (.int .i64 n2) fun w10 =>
 st w10 (a3.add 1) (.int .u64 0) fun w11 =>
 st w11 (a3.add 2) (.string (ByteArray.mk #[])) fun w12 =>
 st w12 (a3.add 3) (.slice none 0 0) fun w13 =>
 st w13 (a3.add 4) (.int .i64 0) fun w14 =>
 ∃ (J1:World→Prop),
 (∀ w15,J1 w15→∃ n5,w15.cell? (a3.add 0)=some (.int .i64 n5)∧∃ n6,w15.cell? (a3.add 1)=some (.int .u64 n6)∧∃ s2,w15.cell? (a3.add 2)=some (.string s2)∧∃ p n7 c,w15.cell? (a3.add 3)=some (.slice p n7 c)∧∃ n8,w15.cell? (a3.add 4)=some (.int .i64 n8)∧st w15 (a.add 0) (.int .i64 n5) fun w16=>st w16 (a.add 1) (.int .u64 n6) fun w17=>st w17 (a.add 2) (.string s2) fun w18=>st w18 (a.add 3) (.slice p n7 c) fun w19=>st w19 (a.add 4) (.int .i64 n8) fun w20=>∃ n9,w20.cell? (a.add 0)=some (.int .i64 n9)∧∃ n10,w20.cell? (a.add 1)=some (.int .u64 n10)∧∃ s3,w20.cell? (a.add 2)=some (.string s3)∧∃ p1 n11 c1,w20.cell? (a.add 3)=some (.slice p1 n11 c1)∧∃ n12,w20.cell? (a.add 4)=some (.int .i64 n12)∧K (.agg #[.int .i64 n9,.int .u64 n10,.string s3,.slice p1 n11 c1,.int .i64 n12]) w20) ∧
 Sif (n2 == 1) (∃ s2,w14.cell? (a2.add 2)=some (.string s2)∧Sif (ByteArray.toList s2 == ByteArray.toList (ByteArray.mk #[(116:UInt8),(114:UInt8),(117:UInt8),(101:UInt8)])) (st w14 ((a3.add 1).add 0) (.int .u64 1) fun w15=>J1 w15) (J1 w14))
 (∃ (J2:Bool→World→Prop),
 (∀ b1 w15,J2 b1 w15 →
 Sif b1 (callX Tryz.prog 72 [.pointer r,.int .i64 n2] w15 (fun v2 w16=>∃ n5 n6,∃ s2 p,∃ n7 c n8,v2=.agg #[.int .i64 n5,.int .u64 n6,.string s2,.slice p n7 c,.int .i64 n8]∧st w16 (a3.add 0) (.int .i64 n5) fun w17=>st w17 (a3.add 1) (.int .u64 n6) fun w18=>st w18 (a3.add 2) (.string s2) fun w19=>st w19 (a3.add 3) (.slice p n7 c) fun w20=>st w20 (a3.add 4) (.int .i64 n8) fun w21=>J1 w21) fun (a4:List PanicEntry) (w16:World)=>KP a4 w16)
 (Sif (n2 == 21) (callX Tryz.prog 73 [.pointer r,.int .i64 depth,.int .i64 (-1)] w15 (fun v2 w16=>∃ p n5 c,v2=.slice p n5 c∧st w16 ((a3.add 3).add 0) (.slice p n5 c) fun w17=>J1 w17) fun (a4:List PanicEntry) (w16:World)=>KP a4 w16)
 (Sif (n2 == 22) (∃ n5,w15.cell? (a2.add 1)=some (.int .i64 n5)∧callX Tryz.prog 74 [.pointer r,.int .i64 n5,.int .i64 depth] w15 (fun v2 w16=>∃ p n6 c,v2=.slice p n6 c∧st w16 ((a3.add 3).add 0) (.slice p n6 c) fun w17=>J1 w17) fun (a4:List PanicEntry) (w16:World)=>KP a4 w16)
 (Sif (n2 == 23) (callX Tryz.prog 75 [.pointer r] w15 (fun v2 w16=>∃ n5,v2=.int .i64 n5∧st w16 ((a3.add 4).add 0) (.int .i64 n5) fun w17=>∃ n6,w17.cell? (a3.add 4)=some (.int .i64 n6)∧callX Tryz.prog 73 [.pointer r,.int .i64 depth,.int .i64 n6] w17 (fun v3 w18=>∃ p n7 c,v3=.slice p n7 c∧st w18 ((a3.add 3).add 0) (.slice p n7 c) fun w19=>J1 w19) fun (a4:List PanicEntry) (w18:World)=>KP a4 w18) fun (a4:List PanicEntry) (w16:World)=>KP a4 w16)
 (Sif (n2 == 24)
 (callX Tryz.prog 42 [.pointer r,.int .i64 (IntKind.wrap .i64 (depth+1))] w15
 (fun v2 w16 =>
 ∃ n5 n6,
 ∃ s2 p,
 ∃ n7 c n8,
 v2=.agg #[.int .i64 n5,.int .u64 n6,.string s2,.slice p n7 c,.int .i64 n8] ∧
 newB w16 [.int .i64 0,.int .u64 0,.string (ByteArray.mk #[]),.slice none 0 0,.int .i64 0] 26 fun a4 w17 =>
 st w17 (a4.add 0) (.int .i64 n5) fun w18=>st w18 (a4.add 1) (.int .u64 n6) fun w19=>st w19 (a4.add 2) (.string s2) fun w20=>st w20 (a4.add 3) (.slice p n7 c) fun w21=>st w21 (a4.add 4) (.int .i64 n8) fun w22=>∃ n9,w22.drew.cell? (a4.add 0)=some (.int .i64 n9)∧∃ n10,w22.drew.cell? (a4.add 1)=some (.int .u64 n10)∧∃ s3,w22.drew.cell? (a4.add 2)=some (.string s3)∧∃ p1 n11 c1,w22.drew.cell? (a4.add 3)=some (.slice p1 n11 c1)∧∃ n12,w22.drew.cell? (a4.add 4)=some (.int .i64 n12)∧callX Tryz.prog 42 [.pointer r,.int .i64 (IntKind.wrap .i64 (depth+1))] w22.drew (fun v3 w23=>∃ n13 n14,∃ s4 p2,∃ n15 c2 n16,v3=.agg #[.int .i64 n13,.int .u64 n14,.string s4,.slice p2 n15 c2,.int .i64 n16]∧(∃ n17,w23.cell? (a4.add 0)=some (.int .i64 n17)∧∃ n18,w23.cell? (a4.add 1)=some (.int .u64 n18)∧∃ s5,w23.cell? (a4.add 2)=some (.string s5)∧∃ p3 n19 c3,w23.cell? (a4.add 3)=some (.slice p3 n19 c3)∧∃ n20,w23.cell? (a4.add 4)=some (.int .i64 n20)∧Value.agg #[.int .i64 n17,.int .u64 n18,.string s5,.slice p3 n19 c3,.int .i64 n20]=.agg #[.int .i64 n9,.int .u64 n10,.string s3,.slice p1 n11 c1,.int .i64 n12])∧newB w23 [.int .i64 n9,.int .u64 n10,.string s3,.slice p1 n11 c1,.int .i64 n12,.int .i64 n13,.int .u64 n14,.string s4,.slice p2 n15 c2,.int .i64 n16] 26 fun a5 w24=>st w24 ((a3.add 3).add 0) (.slice (some a5) 2 2) fun w25=>callX Tryz.prog 76 [.pointer r,.string (ByteArray.mk #[(41:UInt8)])] w25 (fun v4 w26=>v4=.tuple #[]∧J1 w26) fun (a6:List PanicEntry) (w26:World)=>KP a6 w26) fun (a5:List PanicEntry) (w23:World)=>KP a5 w23)
 fun (a4:List PanicEntry) (w16:World)=>KP a4 w16)
 (Sif (n2 == 0) (J1 w15) (callX Tryz.prog 77 [.pointer r,.pointer (some a3)] w15 (fun v2 w16=>v2=.tuple #[]∧J1 w16) fun (a4:List PanicEntry) (w16:World)=>KP a4 w16))))))) ∧
 Sif (n2 == 18) (J2 (n2 == 18) w14) (J2 (n2 == 20) w14)))
 fun (a3:List PanicEntry) (w8:World)=>KP a3 w8)) ∧
 Sif b (Sif (decide (depth>32)) (callX Tryz.prog 43 [.pointer r,.int .i64 26] w6 (fun v1 w7=>v1=.tuple #[]∧J w7) fun (a3:List PanicEntry) (w7:World)=>KP a3 w7) (Sif b (J w6) (callX Tryz.prog 71 [.pointer r] w6 (fun v1 w7=>∃ b1,v1=.bool b1∧Sif b1 (∃ n3,w7.cell? (a2.add 0)=some (.int .i64 n3)∧Sif (!n3 != 0) (Sif (decide (depth>1)) (callX Tryz.prog 43 [.pointer r,.int .i64 43] w7 (fun v2 w8=>v2=.tuple #[]∧J w8) fun (a3:List PanicEntry) (w8:World)=>KP a3 w8) (callX Tryz.prog 43 [.pointer r,.int .i64 40] w7 (fun v2 w8=>v2=.tuple #[]∧J w8) fun (a3:List PanicEntry) (w8:World)=>KP a3 w8)) (callX Tryz.prog 43 [.pointer r,.int .i64 43] w7 (fun v2 w8=>v2=.tuple #[]∧J w8) fun (a3:List PanicEntry) (w8:World)=>KP a3 w8)) (callX Tryz.prog 43 [.pointer r,.int .i64 40] w7 (fun v2 w8=>v2=.tuple #[]∧J w8) fun (a3:List PanicEntry) (w8:World)=>KP a3 w8)) fun (a3:List PanicEntry) (w7:World)=>KP a3 w7))) (Sif b (J w6) (callX Tryz.prog 71 [.pointer r] w6 (fun v1 w7=>∃ b1,v1=.bool b1∧Sif b1 (∃ n3,w7.cell? (a2.add 0)=some (.int .i64 n3)∧Sif (!n3 != 0) (Sif (decide (depth>1)) (callX Tryz.prog 43 [.pointer r,.int .i64 43] w7 (fun v2 w8=>v2=.tuple #[]∧J w8) fun (a3:List PanicEntry) (w8:World)=>KP a3 w8) (callX Tryz.prog 43 [.pointer r,.int .i64 40] w7 (fun v2 w8=>v2=.tuple #[]∧J w8) fun (a3:List PanicEntry) (w8:World)=>KP a3 w8)) (callX Tryz.prog 43 [.pointer r,.int .i64 43] w7 (fun v2 w8=>v2=.tuple #[]∧J w8) fun (a3:List PanicEntry) (w8:World)=>KP a3 w8)) (callX Tryz.prog 43 [.pointer r,.int .i64 40] w7 (fun v2 w8=>v2=.tuple #[]∧J w8) fun (a3:List PanicEntry) (w8:World)=>KP a3 w8)) fun (a3:List PanicEntry) (w7:World)=>KP a3 w7)))
 fun (a3:List PanicEntry) (w6:World)=>KP a3 w6
theorem ok_note_reader_value {r:Option Addr} {depth:Int} {KP:List PanicEntry→World→Prop} {w:World} {K:Value→World→Prop} (hwp:wp_note_reader_value r depth KP w K):callX Tryz.prog 42 [.pointer r,.int .i64 depth] w K KP :=
 callsX_of Tryz.func42 ((by kernel_rfl:wpF Tryz.prog (some KP) Tryz.f42 (.two .leaf (.two .leaf (.two .leaf (.two (.meet [] (.two (.two .leaf (.two .leaf (.two .leaf (.two .leaf (.two .leaf (.two .leaf .leaf)))))) .leaf)) (.two (.two .leaf (.two (.two .leaf .leaf) .leaf)) (.two .leaf (.two .leaf (.two (.meet [] (.two .leaf (.two (.two .leaf (.two (.two .leaf (.two .leaf .leaf)) (.two (.meet [(63,.cell .bool)] (.two .leaf (.two .leaf .leaf))) (.two .leaf (.two .leaf (.two .leaf (.two .leaf (.two .leaf (.two .leaf (.two (.two .leaf .leaf) (.two .leaf (.two (.two .leaf (.two (.draw [1,2,3,0,4,5,6,7]) .leaf)) (.two .leaf (.two .leaf .leaf)))))))))))))) .leaf))) (.two .leaf .leaf))))))))) [Value.pointer r,Value.int .i64 depth] w K=wp_note_reader_value r depth KP w K).symm▸hwp)
def wp_note_reader_begins (r:Option Addr) (w:World) (K:Value→World→Prop):Prop :=
 nn r fun a =>
 ∃ n,
 w.cell? ((a.add 2).add 0)=some (.int .i64 n) ∧
 ∃ n1,
 w.cell? ((a.add 2).add 1)=some (.int .i64 n1) ∧
 ∃ s,
 w.cell? ((a.add 2).add 2)=some (.string s) ∧
 newB w [.int .i64 0,.int .i64 0,.string (ByteArray.mk #[])] 69 fun a1 w1=>st w1 (a1.add 0) (.int .i64 n) fun w2=>st w2 (a1.add 1) (.int .i64 n1) fun w3=>st w3 (a1.add 2) (.string s) fun w4=>∃ n2,w4.cell? (a1.add 0)=some (.int .i64 n2)∧Sif (n2 == 2) (K (.tuple #[.int .i64 19,.bool true]) w4) (Sif (n2 == 3) (∃ s1,w4.cell? (a1.add 2)=some (.string s1)∧(0:Int)≤0∧0<(↑(ByteArray.size s1):Int)∧callP Tryz.prog 68 [.string (ByteArray.mk #[(91:UInt8),(123:UInt8),(40:UInt8)]),.int .u8 (byteAt s1 0)] w4 fun v w5=>∃ n3,v=.int .i64 n3∧0≤IntKind.wrap .i64 (n3+1)∧IntKind.wrap .i64 (n3+1)<(↑4:Int)∧∃ n4,[Value.int .i64 0,.int .i64 21,.int .i64 22,.int .i64 24][Int.toNat (IntKind.wrap .i64 (n3+1))]?=some (.int .i64 n4)∧K (.tuple #[.int .i64 n4,.bool (decide (n3≥0))]) w5) (Sif (n2 == 1) (∃ (J:World→Prop),(∀ w5,J w5→∃ s1,w5.cell? (a1.add 2)=some (.string s1)∧callP Tryz.prog 114 [.string s1] w5 fun v w6=>∃ n3 b,v=.tuple #[.int .i64 n3,.bool b]∧∃ (J1:Bool→World→Prop),(∀ b1 w7,J1 b1 w7→Sif b1 (K (.tuple #[.int .i64 0,.bool false]) w7) (K (.tuple #[.int .i64 n3,.bool b]) w7))∧Sif (n3 == 1) (J1 (n3 == 1) w6) (Sif (n3 == 19) (J1 (n3 == 19) w6) (Sif (n3 == 21) (J1 (n3 == 21) w6) (Sif (n3 == 22) (J1 (n3 == 22) w6) (J1 (n3 == 24) w6)))))∧∃ s1,w4.cell? (a1.add 2)=some (.string s1)∧Sif (!ByteArray.toList s1 == ByteArray.toList (ByteArray.mk #[(116:UInt8),(114:UInt8),(117:UInt8),(101:UInt8)])) (∃ s2,w4.cell? (a1.add 2)=some (.string s2)∧Sif (ByteArray.toList s2 == ByteArray.toList (ByteArray.mk #[(102:UInt8),(97:UInt8),(108:UInt8),(115:UInt8),(101:UInt8)])) (K (.tuple #[.int .i64 1,.bool true]) w4) (J w4)) (K (.tuple #[.int .i64 1,.bool true]) w4)) (K (.tuple #[.int .i64 0,.bool false]) w4)))
theorem ok_note_reader_begins {r:Option Addr} {w:World} {K:Value→World→Prop} (hwp:wp_note_reader_begins r w K):callP Tryz.prog 70 [.pointer r] w K :=
 calls_of Tryz.func70 ((by kernel_rfl:wpF Tryz.prog none Tryz.f70 (.two .leaf (.two (.two .leaf (.two .leaf (.two (.two .leaf (.two (.two .leaf .leaf) (.two .leaf (.two (.two .leaf (.two .leaf .leaf)) (.two .leaf (.two (.two (.meet [] (.two .leaf (.two (.two .leaf .leaf) .leaf))) (.two .leaf (.two (.two .leaf (.two (.two (.meet [(45,.cell .bool)] (.two .leaf (.two .leaf (.two .leaf (.two .leaf (.two .leaf (.two .leaf (.two .leaf (.two .leaf .leaf))))))))) (.two (.two .leaf .leaf) .leaf)) .leaf)) (.two .leaf .leaf)))) .leaf)))))) .leaf))) (.two .leaf .leaf))) [Value.pointer r] w K=wp_note_reader_begins r w K).symm▸hwp)
def wp_note_reader_number (r v:Option Addr) (KP:List PanicEntry→World→Prop) (w:World) (K:Value→World→Prop):Prop :=
 nn r fun a =>
 ∃ n,
 w.cell? ((a.add 2).add 0)=some (.int .i64 n) ∧
 ∃ n1,
 w.cell? ((a.add 2).add 1)=some (.int .i64 n1) ∧
 ∃ s,
 w.cell? ((a.add 2).add 2)=some (.string s) ∧
 newB w [.int .i64 0,.int .i64 0,.string (ByteArray.mk #[])] 69 fun a1 w1 =>
 st w1 (a1.add 0) (.int .i64 n) fun w2 =>
 st w2 (a1.add 1) (.int .i64 n1) fun w3 =>
 st w3 (a1.add 2) (.string s) fun w4 =>
 nn v fun a2 =>
 ∃ n2,
 w4.cell? (a2.add 0)=some (.int .i64 n2) ∧
 Sif (n2 == 2) (callX Tryz.prog 119 [.pointer r,.int .i64 8,.bool false] w4 (fun v1 w5=>∃ n3,v1=.int .u64 n3∧nn v fun a3=>st w5 ((a3.add 1).add 0) (.int .u64 n3) fun w6=>K (.tuple #[]) w6) fun (a3:List PanicEntry) (w5:World)=>KP a3 w5)
 (Sif (n2 == 3) (callX Tryz.prog 119 [.pointer r,.int .i64 16,.bool false] w4 (fun v1 w5=>∃ n3,v1=.int .u64 n3∧nn v fun a3=>st w5 ((a3.add 1).add 0) (.int .u64 n3) fun w6=>K (.tuple #[]) w6) fun (a3:List PanicEntry) (w5:World)=>KP a3 w5)
 (Sif (n2 == 4) (callX Tryz.prog 119 [.pointer r,.int .i64 32,.bool false] w4 (fun v1 w5=>∃ n3,v1=.int .u64 n3∧nn v fun a3=>st w5 ((a3.add 1).add 0) (.int .u64 n3) fun w6=>K (.tuple #[]) w6) fun (a3:List PanicEntry) (w5:World)=>KP a3 w5)
 (Sif (n2 == 5) (callX Tryz.prog 119 [.pointer r,.int .i64 64,.bool false] w4 (fun v1 w5=>∃ n3,v1=.int .u64 n3∧nn v fun a3=>st w5 ((a3.add 1).add 0) (.int .u64 n3) fun w6=>K (.tuple #[]) w6) fun (a3:List PanicEntry) (w5:World)=>KP a3 w5)
 (Sif (n2 == 6) (callX Tryz.prog 119 [.pointer r,.int .i64 8,.bool true] w4 (fun v1 w5=>∃ n3,v1=.int .u64 n3∧nn v fun a3=>st w5 ((a3.add 1).add 0) (.int .u64 n3) fun w6=>K (.tuple #[]) w6) fun (a3:List PanicEntry) (w5:World)=>KP a3 w5)
 (Sif (n2 == 7) (callX Tryz.prog 119 [.pointer r,.int .i64 16,.bool true] w4 (fun v1 w5=>∃ n3,v1=.int .u64 n3∧nn v fun a3=>st w5 ((a3.add 1).add 0) (.int .u64 n3) fun w6=>K (.tuple #[]) w6) fun (a3:List PanicEntry) (w5:World)=>KP a3 w5)
 (Sif (n2 == 8) (callX Tryz.prog 119 [.pointer r,.int .i64 32,.bool true] w4 (fun v1 w5=>∃ n3,v1=.int .u64 n3∧nn v fun a3=>st w5 ((a3.add 1).add 0) (.int .u64 n3) fun w6=>K (.tuple #[]) w6) fun (a3:List PanicEntry) (w5:World)=>KP a3 w5)
 (∃ (J:Bool→World→Prop),
 (∀ b w5,J b w5 →
 Sif b (callX Tryz.prog 119 [.pointer r,.int .i64 64,.bool true] w5 (fun v1 w6=>∃ n3,v1=.int .u64 n3∧nn v fun a3=>st w6 ((a3.add 1).add 0) (.int .u64 n3) fun w7=>K (.tuple #[]) w7) fun (a3:List PanicEntry) (w6:World)=>KP a3 w6)
 (Sif (n2 == 15) (callX Tryz.prog 119 [.pointer r,.int .i64 32,.bool false] w5 (fun v1 w6=>∃ n3,v1=.int .u64 n3∧nn v fun a3=>st w6 ((a3.add 1).add 0) (.int .u64 n3) fun w7=>nn v fun a4=>∃ n4,w7.cell? (a4.add 1)=some (.int .u64 n4)∧callX Tryz.prog 120 [.int .i32 (IntKind.wrap IntKind.i32 n4)] w7 (fun v2 w8=>∃ b1,v2=.bool b1∧Sif (!b1) (∃ n5,w8.cell? (a1.add 1)=some (.int .i64 n5)∧callX Tryz.prog 78 [.int .i64 n5,.int .i64 41] w8 (fun v3 w9=>v3=.tuple #[]∧K (.tuple #[]) w9) fun (a5:List PanicEntry) (w9:World)=>KP a5 w9) (K (.tuple #[]) w8)) fun (a5:List PanicEntry) (w8:World)=>KP a5 w8) fun (a3:List PanicEntry) (w6:World)=>KP a3 w6)
 (∃ (J1:Bool→World→Prop),(∀ b1 w6,J1 b1 w6→Sif b1 (callX Tryz.prog 122 [.pointer r,.int .i64 8] w6 (fun v1 w7=>∃ p n3 c,v1=.slice p n3 c∧callX Tryz.prog 121 [.slice p n3 c,.int .i64 0,.int .i64 4] w7 (fun v2 w8=>∃ n4 n5,v2=.tuple #[.int .u64 n4,.int .i64 n5]∧nn v fun a3=>st w8 ((a3.add 1).add 0) (.int .u64 n4) fun w9=>K (.tuple #[]) w9) fun (a3:List PanicEntry) (w8:World)=>KP a3 w8) fun (a3:List PanicEntry) (w7:World)=>KP a3 w7) (∃ (J2:Bool→World→Prop),(∀ b2 w7,J2 b2 w7→Sif b2 (callX Tryz.prog 122 [.pointer r,.int .i64 16] w7 (fun v1 w8=>∃ p n3 c,v1=.slice p n3 c∧callX Tryz.prog 121 [.slice p n3 c,.int .i64 0,.int .i64 8] w8 (fun v2 w9=>∃ n4 n5,v2=.tuple #[.int .u64 n4,.int .i64 n5]∧nn v fun a3=>st w9 ((a3.add 1).add 0) (.int .u64 n4) fun w10=>K (.tuple #[]) w10) fun (a3:List PanicEntry) (w9:World)=>KP a3 w9) fun (a3:List PanicEntry) (w8:World)=>KP a3 w8) (callX Tryz.prog 122 [.pointer r,.int .i64 32] w7 (fun v1 w8=>∃ p n3 c,v1=.slice p n3 c∧∃ s1,Sem.run Tryz.prog (convert 55 9 (.slice p n3 c)) w8=Result.ok (.string s1) w8∧nn v fun a3=>st w8 ((a3.add 2).add 0) (.string s1) fun w9=>K (.tuple #[]) w9) fun (a3:List PanicEntry) (w8:World)=>KP a3 w8))∧Sif (n2 == 11) (J2 (n2 == 11) w6) (J2 (n2 == 13) w6)))∧Sif (n2 == 10) (J1 (n2 == 10) w5) (J1 (n2 == 12) w5)))) ∧
 Sif (n2 == 9) (J (n2 == 9) w4) (J (n2 == 16) w4))))))))
theorem ok_note_reader_number {r v:Option Addr} {KP:List PanicEntry→World→Prop} {w:World} {K:Value→World→Prop} (hwp:wp_note_reader_number r v KP w K):callX Tryz.prog 77 [.pointer r,.pointer v] w K KP :=
 callsX_of Tryz.func77 ((by kernel_rfl:wpF Tryz.prog (some KP) Tryz.f77 (.two .leaf (.two .leaf (.two (.two .leaf (.two .leaf (.two .leaf (.two .leaf (.two .leaf (.two .leaf (.two .leaf (.two .leaf (.two .leaf (.two .leaf (.two .leaf (.two .leaf (.two .leaf (.two .leaf (.two (.meet [(68,.cell .bool)] (.two .leaf (.two .leaf .leaf))) (.two .leaf (.two .leaf (.two (.two .leaf (.two .leaf (.two .leaf .leaf))) (.two (.meet [(93,.cell .bool)] (.two .leaf (.two .leaf .leaf))) (.two .leaf (.two (.meet [(105,.cell .bool)] (.two .leaf (.two .leaf .leaf))) (.two .leaf .leaf)))))))))))))))))))))) .leaf))) [Value.pointer r,Value.pointer v] w K=wp_note_reader_number r v KP w K).symm▸hwp)
def wp_note_reader_elem (r:Option Addr) (KP:List PanicEntry→World→Prop) (w:World) (K:Value→World→Prop):Prop :=
 nn r fun a=>∃ s,w.cell? ((a.add 2).add 2)=some (.string s)∧callX Tryz.prog 114 [.string s] w (fun v w1=>∃ n b,v=.tuple #[.int .i64 n,.bool b]∧∃ (J:World→Prop),(∀ w2,J w2→callX Tryz.prog 41 [.pointer r] w2 (fun v1 w3=>∃ n1 n2 s1,v1=.agg #[.int .i64 n1,.int .i64 n2,.string s1]∧∃ (J1:World→Prop),(∀ w4,J1 w4→callX Tryz.prog 41 [.pointer r] w4 (fun v2 w5=>∃ n3 n4 s2,v2=.agg #[.int .i64 n3,.int .i64 n4,.string s2]∧K (.int .i64 n) w5) fun (a1:List PanicEntry) (w5:World)=>KP a1 w5)∧callX Tryz.prog 115 [.pointer r,.string (ByteArray.mk #[(91:UInt8)])] w3 (fun v2 w4=>∃ b1,v2=.bool b1∧Sif (!b1) (callX Tryz.prog 43 [.pointer r,.int .i64 40] w4 (fun v3 w5=>v3=.tuple #[]∧J1 w5) fun (a1:List PanicEntry) (w5:World)=>KP a1 w5) (J1 w4)) fun (a1:List PanicEntry) (w4:World)=>KP a1 w4) fun (a1:List PanicEntry) (w3:World)=>KP a1 w3)∧nn r fun a1=>∃ n1,w1.cell? ((a1.add 2).add 0)=some (.int .i64 n1)∧Sif (!n1 != 1) (Sif (!b) (callX Tryz.prog 43 [.pointer r,.int .i64 40] w1 (fun v1 w2=>v1=.tuple #[]∧J w2) fun (a2:List PanicEntry) (w2:World)=>KP a2 w2) (Sif (!n == 0) (Sif (n == 24) (callX Tryz.prog 43 [.pointer r,.int .i64 24] w1 (fun v1 w2=>v1=.tuple #[]∧J w2) fun (a2:List PanicEntry) (w2:World)=>KP a2 w2) (J w1)) (callX Tryz.prog 43 [.pointer r,.int .i64 24] w1 (fun v1 w2=>v1=.tuple #[]∧J w2) fun (a2:List PanicEntry) (w2:World)=>KP a2 w2))) (callX Tryz.prog 43 [.pointer r,.int .i64 40] w1 (fun v1 w2=>v1=.tuple #[]∧J w2) fun (a2:List PanicEntry) (w2:World)=>KP a2 w2)) fun (a1:List PanicEntry) (w1:World)=>KP a1 w1
theorem ok_note_reader_elem {r:Option Addr} {KP:List PanicEntry→World→Prop} {w:World} {K:Value→World→Prop} (hwp:wp_note_reader_elem r KP w K):callX Tryz.prog 75 [.pointer r] w K KP :=
 callsX_of Tryz.func75 ((by kernel_rfl:wpF Tryz.prog (some KP) Tryz.f75 (.two .leaf (.two .leaf (.two (.meet [] (.two (.two .leaf (.two .leaf (.two .leaf (.two .leaf .leaf)))) .leaf)) (.two .leaf (.two (.meet [] (.two .leaf (.two .leaf .leaf))) (.two .leaf (.two .leaf .leaf))))))) [Value.pointer r] w K=wp_note_reader_elem r KP w K).symm▸hwp)
def wp_note_reader_elements (r:Option Addr) (depth elem:Int) (KP:List PanicEntry→World→Prop) (w:World) (K:Value→World→Prop):Prop :=
 ∃ (I:Nat→Option Addr→Nat→Nat→World→Prop),
 (∃ m,I m none 0 0 w) ∧
 ∀ m p n c w1,I m p n c w1 →
 callX Tryz.prog 115 [.pointer r,.string (ByteArray.mk #[(93:UInt8)])] w1
 (fun v w2=>∃ b,v=.bool b∧Sif (!b) (nn r fun a=>∃ n1,w2.cell? ((a.add 2).add 1)=some (.int .i64 n1)∧callX Tryz.prog 42 [.pointer r,.int .i64 (IntKind.wrap .i64 (depth+1))] w2 (fun v1 w3=>∃ n2 n3,∃ s p1,∃ n4 c1 n5,v1=.agg #[.int .i64 n2,.int .u64 n3,.string s,.slice p1 n4 c1,.int .i64 n5]∧newB w3 [.int .i64 0,.int .u64 0,.string (ByteArray.mk #[]),.slice none 0 0,.int .i64 0] 26 fun a1 w4=>st w4 (a1.add 0) (.int .i64 n2) fun w5=>st w5 (a1.add 1) (.int .u64 n3) fun w6=>st w6 (a1.add 2) (.string s) fun w7=>st w7 (a1.add 3) (.slice p1 n4 c1) fun w8=>st w8 (a1.add 4) (.int .i64 n5) fun w9=>∃ (J:World→Prop),(∀ w10,J w10→∃ n6,w10.cell? (a1.add 0)=some (.int .i64 n6)∧∃ n7,w10.cell? (a1.add 1)=some (.int .u64 n7)∧∃ s1,w10.cell? (a1.add 2)=some (.string s1)∧∃ p2 n8 c2,w10.cell? (a1.add 3)=some (.slice p2 n8 c2)∧∃ n9,w10.cell? (a1.add 4)=some (.int .i64 n9)∧newB w10 [.int .i64 n6,.int .u64 n7,.string s1,.slice p2 n8 c2,.int .i64 n9] 26 fun a2 w11=>∃ p3 n10,∃ c3 w12,Sem.run Tryz.prog (Builtin.append_ #[24,24] 24 #[.slice p n c,.slice (some a2) 1 1]) w11=Result.ok (.slice p3 n10 c3) w12∧∃ m',m'<m∧I m' p3 n10 c3 w12)∧Sif (decide (elem≥0)) (∃ n6,w9.cell? (a1.add 0)=some (.int .i64 n6)∧Sif (n6 != elem) (callX Tryz.prog 78 [.int .i64 n1,.int .i64 24] w9 (fun v2 w10=>v2=.tuple #[]∧J w10) fun (a2:List PanicEntry) (w10:World)=>KP a2 w10) (J w9)) (J w9)) fun (a1:List PanicEntry) (w3:World)=>KP a1 w3) (callX Tryz.prog 41 [.pointer r] w2 (fun v1 w3=>∃ n1 n2 s,v1=.agg #[.int .i64 n1,.int .i64 n2,.string s]∧K (.slice p n c) w3) fun (a:List PanicEntry) (w3:World)=>KP a w3))
 fun (a:List PanicEntry) (w2:World)=>KP a w2
theorem ok_note_reader_elements {r:Option Addr} {depth elem:Int} {KP:List PanicEntry→World→Prop} {w:World} {K:Value→World→Prop} (hwp:wp_note_reader_elements r depth elem KP w K):callX Tryz.prog 73 [.pointer r,.int .i64 depth,.int .i64 elem] w K KP :=
 callsX_of Tryz.func73 ((by kernel_rfl:wpF Tryz.prog (some KP) Tryz.f73 (.two .leaf (.two .leaf (.two (.two (.loop [(7,.cell .slice)] (.two (.two .leaf (.two .leaf .leaf)) (.two (.two .leaf (.two .leaf (.two (.meet [] (.two .leaf (.two .leaf .leaf))) .leaf))) .leaf))) .leaf) (.two .leaf (.two .leaf .leaf))))) [Value.pointer r,Value.int .i64 depth,Value.int .i64 elem] w K=wp_note_reader_elements r depth elem KP w K).symm▸hwp)
def wp_note_reader_pairs (r:Option Addr) (open_ depth:Int) (KP:List PanicEntry→World→Prop) (w:World) (K:Value→World→Prop):Prop :=
 callX Tryz.prog 115 [.pointer r,.string (ByteArray.mk #[(125:UInt8)])] w
 (fun v w1 =>
 ∃ b,
 v=.bool b ∧
 ∃ (I:Nat→Option Addr→Nat→Nat→Bool→World→Prop),
 (∃ m,I m none 0 0 (!b) w1) ∧
 ∀ m p n c b1 w2,I m p n c b1 w2 →
 Sif b1
 (callX Tryz.prog 42 [.pointer r,.int .i64 (IntKind.wrap .i64 (depth+1))] w2
 (fun v1 w3 =>
 ∃ n1 n2,
 ∃ s p1,
 ∃ n3 c1 n4,
 v1=.agg #[.int .i64 n1,.int .u64 n2,.string s,.slice p1 n3 c1,.int .i64 n4] ∧
 newB w3 [.int .i64 0,.int .u64 0,.string (ByteArray.mk #[]),.slice none 0 0,.int .i64 0] 26 fun a w4 =>
 st w4 (a.add 0) (.int .i64 n1) fun w5 =>
 st w5 (a.add 1) (.int .u64 n2) fun w6 =>
 st w6 (a.add 2) (.string s) fun w7 =>
 st w7 (a.add 3) (.slice p1 n3 c1) fun w8 =>
 st w8 (a.add 4) (.int .i64 n4) fun w9 =>
 callX Tryz.prog 76 [.pointer r,.string (ByteArray.mk #[(58:UInt8)])] w9
 (fun v2 w10 =>
 v2=.tuple #[] ∧
 ∃ n5,
 w10.drew.cell? (a.add 0)=some (.int .i64 n5) ∧
 ∃ n6,w10.drew.cell? (a.add 1)=some (.int .u64 n6)∧∃ s1,w10.drew.cell? (a.add 2)=some (.string s1)∧∃ p2 n7 c2,w10.drew.cell? (a.add 3)=some (.slice p2 n7 c2)∧∃ n8,w10.drew.cell? (a.add 4)=some (.int .i64 n8)∧callX Tryz.prog 42 [.pointer r,.int .i64 (IntKind.wrap .i64 (depth+1))] w10.drew (fun v3 w11=>∃ n9 n10,∃ s2 p3,∃ n11 c3 n12,v3=.agg #[.int .i64 n9,.int .u64 n10,.string s2,.slice p3 n11 c3,.int .i64 n12]∧(∃ n13,w11.cell? (a.add 0)=some (.int .i64 n13)∧∃ n14,w11.cell? (a.add 1)=some (.int .u64 n14)∧∃ s3,w11.cell? (a.add 2)=some (.string s3)∧∃ p4 n15 c4,w11.cell? (a.add 3)=some (.slice p4 n15 c4)∧∃ n16,w11.cell? (a.add 4)=some (.int .i64 n16)∧Value.agg #[.int .i64 n13,.int .u64 n14,.string s3,.slice p4 n15 c4,.int .i64 n16]=.agg #[.int .i64 n5,.int .u64 n6,.string s1,.slice p2 n7 c2,.int .i64 n8])∧newB w11 [.int .i64 n5,.int .u64 n6,.string s1,.slice p2 n7 c2,.int .i64 n8,.int .i64 n9,.int .u64 n10,.string s2,.slice p3 n11 c3,.int .i64 n12] 26 fun a1 w12=>∃ p4 n13,∃ c4 w13,Sem.run Tryz.prog (Builtin.append_ #[24,24] 24 #[.slice p n c,.slice (some a1) 2 2]) w12=Result.ok (.slice p4 n13 c4) w13∧callX Tryz.prog 115 [.pointer r,.string (ByteArray.mk #[(44:UInt8)])] w13 (fun v4 w14=>∃ b2,v4=.bool b2∧Sif b2 (callX Tryz.prog 41 [.pointer r] w14 (fun v5 w15=>∃ n14 n15 s3,v5=.agg #[.int .i64 n14,.int .i64 n15,.string s3]∧∃ m',m'<m∧I m' p4 n13 c4 b2 w15) fun (a2:List PanicEntry) (w15:World)=>KP a2 w15) (∃ m',m'<m∧I m' p4 n13 c4 b2 w14)) fun (a2:List PanicEntry) (w14:World)=>KP a2 w14) fun (a1:List PanicEntry) (w11:World)=>KP a1 w11)
 fun (a1:List PanicEntry) (w10:World)=>KP a1 w10)
 fun (a:List PanicEntry) (w3:World)=>KP a w3)
 (callX Tryz.prog 76 [.pointer r,.string (ByteArray.mk #[(125:UInt8)])] w2
 (fun v1 w3 =>
 v1=.tuple #[] ∧
 ∃ (J:World→Prop),
 (∀ w4,J w4→∃ (I1:Nat→Int→World→Prop),(∃ m1,I1 m1 0 w4)∧∀ m1 n1 w5,I1 m1 n1 w5→Sif (decide (n1<(↑n:Int))) (∃ (I2:Nat→Int→World→Prop),(∃ m2,I2 m2 0 w5)∧∀ m2 n2 w6,I2 m2 n2 w6→Sif (decide (n2<n1)) (∃ (J1:World→Prop),(∀ w7,J1 w7→nameI (IntKind.wrap .i64 (n2+2)) fun n3=>∃ m',m'<m2∧I2 m' n3 w7)∧0≤n1∧n1<(↑n:Int)∧nn p fun a=>0≤n2∧n2<(↑n:Int)∧nn p fun a1=>∃ n3,w6.drew.cell? (Addr.add (a.add (Int.toNat n1*5)) 0)=some (.int .i64 n3)∧∃ n4,w6.drew.cell? (Addr.add (a.add (Int.toNat n1*5)) 1)=some (.int .u64 n4)∧∃ s,w6.drew.cell? (Addr.add (a.add (Int.toNat n1*5)) 2)=some (.string s)∧∃ p1 n5 c1,w6.drew.cell? (Addr.add (a.add (Int.toNat n1*5)) 3)=some (.slice p1 n5 c1)∧∃ n6,w6.drew.cell? (Addr.add (a.add (Int.toNat n1*5)) 4)=some (.int .i64 n6)∧∃ n7,w6.drew.cell? (Addr.add (a1.add (Int.toNat n2*5)) 0)=some (.int .i64 n7)∧∃ n8,w6.drew.cell? (Addr.add (a1.add (Int.toNat n2*5)) 1)=some (.int .u64 n8)∧∃ s1,w6.drew.cell? (Addr.add (a1.add (Int.toNat n2*5)) 2)=some (.string s1)∧∃ p2 n9 c2,w6.drew.cell? (Addr.add (a1.add (Int.toNat n2*5)) 3)=some (.slice p2 n9 c2)∧∃ n10,w6.drew.cell? (Addr.add (a1.add (Int.toNat n2*5)) 4)=some (.int .i64 n10)∧callX Tryz.prog 118 [.agg #[.int .i64 n3,.int .u64 n4,.string s,.slice p1 n5 c1,.int .i64 n6],.agg #[.int .i64 n7,.int .u64 n8,.string s1,.slice p2 n9 c2,.int .i64 n10]] w6.drew (fun v2 w7=>∃ b2,v2=.bool b2∧Sif b2 (callX Tryz.prog 78 [.int .i64 open_,.int .i64 23] w7 (fun v3 w8=>v3=.tuple #[]∧J1 w8) fun (a2:List PanicEntry) (w8:World)=>KP a2 w8) (J1 w7)) fun (a2:List PanicEntry) (w7:World)=>KP a2 w7) (nameI (IntKind.wrap .i64 (n1+2)) fun n3=>∃ m',m'<m1∧I1 m' n3 w6)) (K (.slice p n c) w5)) ∧
 Sif (decide ((↑n:Int)>2048)) (callX Tryz.prog 78 [.int .i64 open_,.int .i64 23] w3 (fun v2 w4=>v2=.tuple #[]∧J w4) fun (a:List PanicEntry) (w4:World)=>KP a w4) (J w3))
 fun (a:List PanicEntry) (w3:World)=>KP a w3))
 fun (a:List PanicEntry) (w1:World)=>KP a w1
theorem ok_note_reader_pairs {r:Option Addr} {open_ depth:Int} {KP:List PanicEntry→World→Prop} {w:World} {K:Value→World→Prop} (hwp:wp_note_reader_pairs r open_ depth KP w K):callX Tryz.prog 74 [.pointer r,.int .i64 open_,.int .i64 depth] w K KP :=
 callsX_of Tryz.func74 ((by kernel_rfl:wpF Tryz.prog (some KP) Tryz.f74 (.two .leaf (.two .leaf (.two (.two .leaf (.two (.loop [(7,.cell .slice),(8,.cell .bool)] (.two (.two .leaf (.two .leaf .leaf)) (.two (.two .leaf (.two .leaf (.two (.draw [0,2,3,4,1,5,6,7,8]) (.two .leaf (.two .leaf (.two .leaf .leaf)))))) .leaf))) .leaf)) (.two .leaf (.two (.meet [] (.two .leaf (.two .leaf .leaf))) (.two (.two .leaf (.two (.loop [(10,.cell (.int .i64))] (.two (.two .leaf (.two .leaf .leaf)) (.two (.two (.two .leaf (.two (.loop [(11,.cell (.int .i64))] (.two (.two .leaf (.two .leaf .leaf)) (.two (.meet [] (.two (.two (.draw [0,1,2,4,5,6,3,7,8]) (.two .leaf .leaf)) .leaf)) .leaf))) .leaf)) .leaf) .leaf))) .leaf)) (.two .leaf .leaf))))))) [Value.pointer r,Value.int .i64 open_,Value.int .i64 depth] w K=wp_note_reader_pairs r open_ depth KP w K).symm▸hwp)
def wp_note_fail (at_ e:Int) (KP:List PanicEntry→World→Prop) (w:World) (K:Value→World→Prop):Prop :=
 KP [PanicEntry.mk (.iface 65 (.agg #[.int .i64 at_,.int .i64 e])) false false] w
theorem ok_note_fail {at_ e:Int} {KP:List PanicEntry→World→Prop} {w:World} {K:Value→World→Prop} (hwp:wp_note_fail at_ e KP w K):callX Tryz.prog 78 [.int .i64 at_,.int .i64 e] w K KP :=
 callsX_of Tryz.func78 ((by kernel_rfl:wpF Tryz.prog (some KP) Tryz.f78 .leaf [Value.int .i64 at_,Value.int .i64 e] w K=wp_note_fail at_ e KP w K).symm▸hwp)
end Go.Proofs.YtnacobknngidkaaGreatDoor
