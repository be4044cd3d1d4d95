/-
  DERIVED: THE SHELF's CONTRACTS AT THIS DUMP, IN PLAIN WORDS (tools/lay-plain.mjs out of 'YtlfhjkgdlclddaaGreatDoorShelf.lean', which tools/lay-shelf.mjs wrote): THE SAME DECLARATIONS UNDER THE SAME NAMES: 'import', 'namespace', 'open', 'def', 'theorem' AND NOTHING ELSE: no command of the shelf's: FOR A HAND-IN. Each laying: the table of numbers ('.._ren') and one theorem, a field a fact of the dump's own or the kernel's comparison; each contract: ONE APPLICATION. note.Quote: any bytes as a word in quotes. The document's characters (longshoreref01): what its functions answer.
-/
import Derived.Test.YtlfhjkgdlclddaaGreatDoorPx6
import Derived.Shelf.Strings.Builder1
import Derived.Shelf.Strings.Trim
import Derived.Shelf.Small.Utf8
import Derived.Shelf.Small.Bits
import Derived.Shelf.Small.Strs
import Derived.Shelf.Small.Wraps
import Derived.Shelf.Strings.BuilderF
import Derived.Shelf.Strings.BuilderK
import Derived.Shelf.Strings.BuilderRune
import Derived.Shelf.Utf8.AppendRunePlain
import Derived.Shelf.Utf8.RuneCount
import Derived.Shelf.Strconv.Atoi
import Derived.Shelf.Strconv.Itoa0
import Derived.Shelf.Strconv.Itoa1
import Derived.Shelf.LaysM
import Derived.Shelf.Strconv.Itoa2
import Derived.Shelf.Strconv.Itoa3
import Derived.Shelf.Strconv.Itoa4
import Derived.Shelf.Strconv.AtoiErrFast
import Derived.Shelf.Strconv.ParseIntEmpty
import Derived.Shelf.Strconv.AtoiFail
import Derived.Shelf.Strconv.Clone
import Derived.Shelf.Strconv.SyntaxError
import Derived.Shelf.LaysC
import Derived.Shelf.Strconv.ToError
import Derived.Shelf.Strconv.Lower
import Derived.Shelf.Strconv.ParseUint10
import Derived.Shelf.Strconv.ParseUint10Empty
import Derived.Shelf.Strconv.ParseUint10Any
import Derived.Shelf.Strconv.ParseInt10
import Derived.Shelf.Strconv.AtoiLong
import Derived.Shelf.Strconv.AtoiInnerAll
import Derived.Shelf.Strconv.RangeError
import Derived.Shelf.Strconv.ToErrorRange
import Derived.Shelf.Strconv.AtoiAll
import Derived.Shelf.Strconv.ParseUintEmpty
import Derived.Shelf.Strconv.ParseUint10b64
import Derived.Shelf.Strconv.ParseUint10b32
import Derived.Shelf.Strconv.ParseUint10b16
import Derived.Shelf.Strconv.ParseUint10b8
import Derived.Shelf.Strconv.ParseUint10At
import Derived.Shelf.Strconv.ParseInt10At64
import Derived.Shelf.Strconv.ParseInt10At32
import Derived.Shelf.Strconv.ParseInt10At16
import Derived.Shelf.Strconv.ParseInt10At8
import Derived.Shelf.Strconv.ParseInt10All
import Derived.Shelf.Strconv.ParseIntPublic10
import Derived.Shelf.Strconv.ErrVarParseInt
import Derived.Ground.MpProg
import Derived.Shelf.Pu.ParseUintPublic10
import Derived.Shelf.Pu.ErrVarParseUint
import Derived.Shelf.Strings.Search1
import Derived.Shelf.Strings.Search2
import Derived.Shelf.Strings.Search3
import Derived.Shelf.Strings.Count
import Derived.Shelf.Strings.Shaped
import Derived.Shelf.Strings.Prefix
import Derived.Shelf.Strings.Split
import Derived.Shelf.Strings.SplitShaped
import Derived.Shelf.Unicode.Decode
import Derived.Shelf.Strings.Runes
import Derived.Shelf.Strings.RuneCount
import Derived.Shelf.Strings.AsciiSet
import Derived.Shelf.Strings.Explode
import Derived.Shelf.Unicode.DecodeSlow
import Derived.Shelf.Unicode.DecodeAny
import Derived.Shelf.Unicode.DecodeLast
import Derived.Shelf.Strings.BuilderCap
import Derived.Ground.Names2Prog
import Derived.Shelf.Slices.SearchI
import Derived.Test.YtlfhjkgdlclddaaGreatDoorProg
import Derived.Lib.OthersKept
import Derived.Laws.IdiomStrings
import Derived.Laws.RangeString
set_option linter.unusedVariables false
set_option linter.unusedSimpArgs false
namespace Go.Proofs
open Go.Shelf
def Tryz.lays118_ren:Go.Shelf.Ren:=⟨fun|118=>56|n=>n,fun|21=>21|3=>3|4=>4|n=>n,fun|n=>n⟩
theorem Tryz.lays118:Go.Proofs.Lays.n118 Tryz.prog Tryz.lays118_ren:=by constructor<;>first|kernel_rfl|(intro w;kernel_rfl)|(constructor<;>first|kernel_rfl|(intro w;kernel_rfl)|(constructor<;>first|kernel_rfl|(intro w;kernel_rfl)))
def Tryz.lays119_ren:Go.Shelf.Ren:=⟨fun|119=>211|n=>n,fun|21=>21|4=>4|n=>n,fun|n=>n⟩
theorem Tryz.lays119:Go.Proofs.Lays.n119 Tryz.prog Tryz.lays119_ren:=by constructor<;>first|kernel_rfl|(intro w;kernel_rfl)|(constructor<;>first|kernel_rfl|(intro w;kernel_rfl)|(constructor<;>first|kernel_rfl|(intro w;kernel_rfl)))
def Tryz.lays106_ren:Go.Shelf.Ren:=⟨fun|106=>280|213=>299|265=>306|n=>n,fun|9=>9|3=>3|n=>n,fun|n=>n⟩
theorem Tryz.lays106:Go.Proofs.Lays.n106 Tryz.prog Tryz.lays106_ren:=by constructor<;>first|kernel_rfl|(intro w;kernel_rfl)|(constructor<;>first|kernel_rfl|(intro w;kernel_rfl)|(constructor<;>first|kernel_rfl|(intro w;kernel_rfl)))
def Tryz.lays137_ren:Go.Shelf.Ren:=⟨fun|137=>145|217=>204|266=>264|n=>n,fun|9=>9|5=>5|3=>3|n=>n,fun|n=>n⟩
theorem Tryz.lays137:Go.Proofs.Lays.n137 Tryz.prog Tryz.lays137_ren:=by constructor<;>first|kernel_rfl|(intro w;kernel_rfl)|(constructor<;>first|kernel_rfl|(intro w;kernel_rfl)|(constructor<;>first|kernel_rfl|(intro w;kernel_rfl)))
def Tryz.lays103_ren:Go.Shelf.Ren:=⟨fun|103=>37|210=>67|206=>84|n=>n,fun|9=>9|4=>4|24=>65|3=>3|n=>n,fun|n=>n⟩
theorem Tryz.lays103:Go.Proofs.Lays.n103 Tryz.prog Tryz.lays103_ren:=by constructor<;>first|kernel_rfl|(intro w;kernel_rfl)|(constructor<;>first|kernel_rfl|(intro w;kernel_rfl)|(constructor<;>first|kernel_rfl|(intro w;kernel_rfl)))
def Tryz.lays121_ren:Go.Shelf.Ren:=⟨fun|121=>131|214=>193|n=>n,fun|4=>4|9=>9|n=>n,fun|n=>n⟩
theorem Tryz.lays121:Go.Proofs.Lays.n121 Tryz.prog Tryz.lays121_ren:=by constructor<;>first|kernel_rfl|(intro w;kernel_rfl)|(constructor<;>first|kernel_rfl|(intro w;kernel_rfl)|(constructor<;>first|kernel_rfl|(intro w;kernel_rfl)))
def Tryz.lays122_ren:Go.Shelf.Ren:=⟨fun|122=>278|215=>297|n=>n,fun|3=>3|4=>4|n=>n,fun|n=>n⟩
theorem Tryz.lays122:Go.Proofs.Lays.n122 Tryz.prog Tryz.lays122_ren:=by constructor<;>first|kernel_rfl|(intro w;kernel_rfl)|(constructor<;>first|kernel_rfl|(intro w;kernel_rfl)|(constructor<;>first|kernel_rfl|(intro w;kernel_rfl)))
def Tryz.lays283_ren:Go.Shelf.Ren:=⟨fun|283=>113|n=>n,fun|3=>3|9=>9|4=>4|n=>n,fun|n=>n⟩
theorem Tryz.lays283:Go.Proofs.Lays.n283 Tryz.prog Tryz.lays283_ren:=by constructor<;>first|kernel_rfl|(intro w;kernel_rfl)|(constructor<;>first|kernel_rfl|(intro w;kernel_rfl)|(constructor<;>first|kernel_rfl|(intro w;kernel_rfl)))
def Tryz.laysM284_ren:Go.Shelf.Ren:=⟨fun|284=>114|129=>166|317=>165|318=>167|n=>n,fun|53=>80|3=>3|212=>205|0=>0|4=>4|46=>73|5=>5|9=>9|n=>n,fun|17=>0|n=>n⟩
theorem Tryz.laysM284:Go.Proofs.LaysM.n284 Tryz.prog Tryz.laysM284_ren:=by constructor<;>first|kernel_rfl|(intro w;kernel_rfl)|(constructor<;>first|kernel_rfl|(intro w;kernel_rfl)|(constructor<;>first|kernel_rfl|(intro w;kernel_rfl)))
def Tryz.lays285_ren:Go.Shelf.Ren:=⟨fun|285=>115|n=>n,fun|37=>22|53=>80|3=>3|4=>4|51=>165|9=>9|5=>5|0=>0|n=>n,fun|n=>n⟩
theorem Tryz.lays285:Go.Proofs.Lays.n285 Tryz.prog Tryz.lays285_ren:=by constructor<;>first|kernel_rfl|(intro w;kernel_rfl)|(constructor<;>first|kernel_rfl|(intro w;kernel_rfl)|(constructor<;>first|kernel_rfl|(intro w;kernel_rfl)))
def Tryz.laysM171_ren:Go.Shelf.Ren:=⟨fun|171=>22|243=>45|246=>75|283=>113|284=>114|285=>115|286=>116|129=>166|317=>165|318=>167|319=>168|320=>169|337=>220|338=>221|n=>n,fun|3=>3|9=>9|2=>2|4=>4|171=>151|0=>0|53=>80|37=>22|5=>5|173=>154|212=>205|51=>165|20=>20|213=>206|46=>73|232=>266|233=>267|n=>n,fun|17=>0|18=>6|19=>7|n=>n⟩
theorem Tryz.laysM171:Go.Proofs.LaysM.n171 Tryz.prog Tryz.laysM171_ren:=by constructor<;>first|kernel_rfl|(intro w;kernel_rfl)|(constructor<;>first|kernel_rfl|(intro w;kernel_rfl)|(constructor<;>first|kernel_rfl|(intro w;kernel_rfl)))
def Tryz.laysM173_ren:Go.Shelf.Ren:=⟨fun|173=>194|246=>75|283=>113|284=>114|285=>115|286=>116|129=>166|317=>165|318=>167|319=>168|320=>169|337=>220|338=>221|n=>n,fun|2=>2|3=>3|9=>9|4=>4|171=>151|0=>0|53=>80|37=>22|5=>5|173=>154|212=>205|51=>165|20=>20|213=>206|46=>73|232=>266|233=>267|n=>n,fun|17=>0|18=>6|19=>7|n=>n⟩
theorem Tryz.laysM173:Go.Proofs.LaysM.n173 Tryz.prog Tryz.laysM173_ren:=by constructor<;>first|kernel_rfl|(intro w;kernel_rfl)|(constructor<;>first|kernel_rfl|(intro w;kernel_rfl)|(constructor<;>first|kernel_rfl|(intro w;kernel_rfl)))
def Tryz.laysC174_ren:Go.Shelf.Ren:=⟨fun|174=>267|247=>139|245=>103|287=>199|279=>140|280=>141|281=>142|282=>143|321=>262|322=>263|316=>200|171=>22|205=>201|243=>45|246=>75|283=>113|284=>114|285=>115|286=>116|129=>166|317=>165|318=>167|319=>168|320=>169|337=>220|338=>221|n=>n,fun|9=>9|3=>3|2=>2|75=>61|85=>183|4=>4|167=>182|5=>5|53=>80|175=>222|46=>73|168=>185|37=>22|0=>0|210=>225|21=>21|127=>95|145=>261|143=>259|171=>151|173=>154|212=>205|51=>165|20=>20|213=>206|232=>266|233=>267|80=>59|n=>n,fun|15=>1|16=>2|17=>0|18=>6|19=>7|n=>n⟩
theorem Tryz.laysC174:Go.Proofs.LaysC.n174 Tryz.prog Tryz.laysC174_ren:=by constructor<;>first|kernel_rfl|(intro w;kernel_rfl)|(constructor<;>first|kernel_rfl|(intro w;kernel_rfl)|(constructor<;>first|kernel_rfl|(intro w;kernel_rfl)))
def Tryz.laysPu14_ren:Go.Shelf.Ren:=⟨fun|14=>268|16=>199|17=>103|19=>262|20=>263|21=>140|22=>141|23=>142|24=>143|25=>200|27=>22|26=>201|28=>45|29=>75|30=>113|31=>114|32=>115|33=>116|35=>166|34=>165|36=>167|37=>168|38=>169|39=>220|40=>221|n=>n,fun|9=>9|3=>3|22=>80|24=>61|25=>222|4=>4|34=>182|5=>5|36=>73|37=>22|0=>0|39=>185|21=>21|44=>225|47=>95|50=>261|48=>259|2=>2|52=>151|55=>154|59=>205|60=>165|20=>20|61=>206|65=>266|66=>267|67=>59|n=>n,fun|0=>1|1=>2|2=>0|3=>6|4=>7|n=>n⟩
theorem Tryz.laysPu14:Go.Proofs.LaysPu.n14 Tryz.prog Tryz.laysPu14_ren:=by constructor<;>first|kernel_rfl|(intro w;kernel_rfl)|(constructor<;>first|kernel_rfl|(intro w;kernel_rfl)|(constructor<;>first|kernel_rfl|(intro w;kernel_rfl)))
def Tryz.lays99_ren:Go.Shelf.Ren:=⟨fun|99=>57|206=>84|n=>n,fun|9=>9|4=>4|3=>3|n=>n,fun|n=>n⟩
theorem Tryz.lays99:Go.Proofs.Lays.n99 Tryz.prog Tryz.lays99_ren:=by constructor<;>first|kernel_rfl|(intro w;kernel_rfl)|(constructor<;>first|kernel_rfl|(intro w;kernel_rfl)|(constructor<;>first|kernel_rfl|(intro w;kernel_rfl)))
def Tryz.lays101_ren:Go.Shelf.Ren:=⟨fun|101=>266|208=>283|206=>84|n=>n,fun|9=>9|4=>4|3=>3|n=>n,fun|n=>n⟩
theorem Tryz.lays101:Go.Proofs.Lays.n101 Tryz.prog Tryz.lays101_ren:=by constructor<;>first|kernel_rfl|(intro w;kernel_rfl)|(constructor<;>first|kernel_rfl|(intro w;kernel_rfl)|(constructor<;>first|kernel_rfl|(intro w;kernel_rfl)))
def Tryz.lays197_ren:Go.Shelf.Ren:=⟨fun|197=>137|260=>197|n=>n,fun|9=>9|21=>21|3=>3|4=>4|5=>5|105=>179|119=>254|0=>0|46=>73|139=>257|138=>256|n=>n,fun|3=>4|4=>5|n=>n⟩
theorem Tryz.lays197:Go.Proofs.Lays.n197 Tryz.prog Tryz.lays197_ren:=by constructor<;>first|kernel_rfl|(intro w;kernel_rfl)|(constructor<;>first|kernel_rfl|(intro w;kernel_rfl)|(constructor<;>first|kernel_rfl|(intro w;kernel_rfl)))
theorem Tryz.utf8_RuneLen(r:Int)(w:World) :
 Calls Tryz.prog 56 #[.int .i32 r] w λe w'=>e=.returned (.int .i64 (Lib.runeLen r))/\w'=w:=Any.utf8_RuneLen Tryz.lays118 r w
theorem Tryz.utf8_ValidRune(r:Int)(w:World) :
 Calls Tryz.prog 211 #[.int .i32 r] w λe w'=>e=.returned (.bool (Lib.validRune r))/\w'=w:=Any.utf8_ValidRune Tryz.lays119 r w
open Go.RowKit in
theorem Tryz.strings_Compare(a b:ByteArray)(w:World) :
 Calls Tryz.prog 280 #[.string a,.string b] w λe w'=>e=.returned (.int .i64 (Lib.compareBytes a.data.toList b.data.toList))/\w'=w:=Any.strings_Compare Tryz.lays106 a b w
open Go.RowKit in
theorem Tryz.strings_IndexByte(s:ByteArray)(c:Int)(w:World) :
 Calls Tryz.prog 145 #[.string s,.int .u8 c] w λe w'=>e=.returned (.int .i64 (Lib.indexByte s.data.toList c.toNat.toUInt8))/\w'=w:=Any.strings_IndexByte Tryz.lays137 s c w
open Go.RowKit in
theorem Tryz.strings_CutPrefix(s p:ByteArray)(w:World) :
 Calls Tryz.prog 37 #[.string s,.string p] w λe w'=>e=.returned (.tuple #[.string ⟨(Lib.trimPrefix s.data.toList p.data.toList).toArray⟩,.bool (Lib.hasPrefix s.data.toList p.data.toList)])/\w'=w:=Any.strings_CutPrefix Tryz.lays103 s p w
open Go.RowKit in
theorem Tryz.strconv_FormatBool(b:Bool)(w:World) :
 Calls Tryz.prog 131 #[.bool b] w λe w'=>e=.returned (.string ⟨(Lib.formatBool b).toArray⟩)/\w'=w:=Any.strconv_FormatBool Tryz.lays121 b w
open Go.RowKit in
theorem Tryz.cmp_Compare_int(x y:Int)(w:World) :
 Calls Tryz.prog 278 #[.int .i64 x,.int .i64 y] w λe w'=>e=.returned (.int .i64 (Lib.compareInt x y))/\w'=w:=Any.cmp_Compare_int Tryz.lays122 x y w
open Go.RowKit in
open Go.Lib in
theorem Tryz.internal_strconv_small(i:Nat)(h:i<100)(w:World) :
 Calls Tryz.prog 113 #[.int .i64 i] w λe w'=>e=.returned (.string ⟨(Lib.decDigits i).toArray⟩)/\w'=w:=Any.internal_strconv_small Tryz.lays283 i h w
open Go.Lib in
theorem Tryz.internal_strconv_numDigits(u:Nat)(h1:1<=u)(h2:u<18446744073709551616)(w:World)(htab:Lib.TabIs Tryz.prog w "internal/strconv.uint64pow10" .u64 Lib.pow10Tab) :
 Calls Tryz.prog 114 #[.int .u64 u] w λe w'=>e=.returned (.int .i64 (Lib.nDigits u))/\w'=w:=Any.internal_strconv_numDigits Tryz.laysM284 u h1 h2 w htab
open Go.RowKit Go.Sort Go.Lib in
theorem Tryz.internal_strconv_formatBase10(blk off cap:Nat)(u:Nat)(d:Array UInt8)(w:World)(hH:Holds (λ(b:UInt8)=>Value.int .u8 (b.toNat:Int)) w blk off d)(hu:u<10^d.size)(hu64:u<18446744073709551616)(hsz:d.size<4611686018427387904) :
 Calls Tryz.prog 115 #[.slice (some ⟨blk,off,none⟩) d.size cap,.int .u64 u] w λe w' =>
  e=.returned (.tuple #[])/\∃(n v':Nat) (dk:Array UInt8),w'=(putRow (λ(b:UInt8)=>Value.int .u8 (b.toNat:Int)) w blk off dk).drewN n/\FmtInv d.size u 0 v' dk:=Any.internal_strconv_formatBase10 Tryz.lays285 blk off cap u d w hH hu hu64 hsz
open Go.RowKit Go.Sort Go.Lib in
theorem Tryz.strconv_Itoa(n:Int)(h0:-9223372036854775808<=n)(h1:n<=9223372036854775807)(w:World)(htab:Lib.TabIs Tryz.prog w "internal/strconv.uint64pow10" .u64 Lib.pow10Tab) :
 Calls Tryz.prog 22 #[.int .i64 n] w λe w'=>e=.returned (.string ⟨(Lib.itoa n).toArray⟩)/\∃k os,w'=grow (w.drewN k) os:=Any.strconv_Itoa Tryz.laysM171 n h0 h1 w htab
open Go.RowKit Go.Sort Go.Lib in
theorem Tryz.strconv_FormatInt_10(n:Int)(h0:-9223372036854775808<=n)(h1:n<=9223372036854775807)(w:World)(htab:Lib.TabIs Tryz.prog w "internal/strconv.uint64pow10" .u64 Lib.pow10Tab) :
 Calls Tryz.prog 194 #[.int .i64 n,.int .i64 10] w λe w'=>e=.returned (.string ⟨(Lib.itoa n).toArray⟩)/\∃k os,w'=grow (w.drewN k) os:=Any.strconv_FormatInt_10 Tryz.laysM173 n h0 h1 w htab
open Go.RowKit Go.Lib in
theorem Tryz.strings_HasPrefix(s p:ByteArray)(w:World) :
 Calls Tryz.prog 57 #[.string s,.string p] w λe w'=>e=.returned (.bool (Lib.hasPrefix s.data.toList p.data.toList))/\w'=w:=Any.strings_HasPrefix Tryz.lays99 s p w
open Go.RowKit Go.Lib in
theorem Tryz.strings_TrimPrefix(s p:ByteArray)(w:World) :
 Calls Tryz.prog 266 #[.string s,.string p] w λe w'=>e=.returned (.string ⟨(Lib.trimPrefix s.data.toList p.data.toList).toArray⟩)/\w'=w:=Any.strings_TrimPrefix Tryz.lays101 s p w
open Go.RowKit Go.Lib in
theorem Tryz.utf8_DecodeRuneInString(s:ByteArray)(w:World)(hT:Lib.Utf8Tabs 4 5 w) :
 Calls Tryz.prog 137 #[.string s] w λe w'=>e=.returned (.tuple #[.int .i32 (Lib.decodeGo s).1,.int .i64 (Lib.decodeGo s).2])/\Below w.heap.size w w':=Any.utf8_DecodeRuneInString Tryz.lays197 s w hT
end Go.Proofs
namespace Go.Proofs.YtlfhjkgdlclddaaGreatDoor
open Go Go.Sv Go.RowKit Go.Note
theorem wX(s:ByteArray)(w:World):∃c w',(convert 9 22 (.string s)).run Tryz.prog w=.ok (.slice (some ⟨w.heap.size,0,none⟩) s.size c) w'/\(∃cs:List Value,blk w' w.heap.size=some cs/\∀(j:Nat) (x:UInt8),s.data.toList[j]?=some x->cs[j]?=some (Value.int .u8 (x.toNat:Int)))/\Ch (λ_=>False) w w'/\w'.heap.size=w.heap.size+1:=by
 refine⟨_,_,run_bytes_of_string (P:=Tryz.prog) w 9 22 5 s dN fD iL,⟨(bytesRow s (grownCap w s.size 0 5)).toList,?_,?_⟩,(Ch.drew w).trans' (eV w.drew _),by simp⟩
 ·have:(w.drew.alloc (.cells (bytesRow s (grownCap w s.size 0 5)) 5 ((bytesRow s (grownCap w s.size 0 5)).size,(bytesRow s (grownCap w s.size 0 5)).size+1))).heap[w.heap.size]?=_:=heap_alloc_new w.drew _;unfold blk;rw[this];simp
 ·intro j x hx;rw[Array.getElem?_toList];have hj:j<s.data.toList.length:=(List.getElem?_eq_some_iff.1 hx).1;have hj':j<s.data.size:=by simpa using hj
  rw[bytesRow_at s _ j hj'];rw[aK hj]at hx;have:s.data.toList[j]=s.data[j]:=by simp
  rw[this]at hx;rw[bC hx]
abbrev aU4:ByteArray:=ByteArray.mk (Array.mk [(48:UInt8),(49:UInt8),(50:UInt8),(51:UInt8),(52:UInt8),(53:UInt8),(54:UInt8),(55:UInt8),(56:UInt8),(57:UInt8),(97:UInt8),(98:UInt8),(99:UInt8),(100:UInt8),(101:UInt8),(102:UInt8)])
theorem aOc(n:Nat)(h:n<16):cH aU4 n=((kW n).toNat:Int):=by
 have:∀n:Fin 16,cH aU4 n.val=((kW n.val).toNat:Int):=by decide +kernel
 exact this ⟨n,h⟩
theorem aWo(x:UInt8):Int.fdiv (x.toNat:Int) ((2:Int)^(4:Nat))=((x.toNat / 16:Nat):Int):=by
 rw[cJ _ (by decide)];rfl
theorem aWn(x:UInt8):cL .and .u8 (x.toNat:Int) 15=((x.toNat%16:Nat):Int):=by
 have h:∀x:Fin 256,cL .and .u8 (x.val:Int) 15=((x.val%16:Nat):Int):=by decide +kernel
 exact h ⟨x.toNat,x.toNat_lt⟩
theorem BAt.gcells{w:World}{T:TypeId}{b:Nat}{l:List UInt8}{g:Option Nat}(h:BAt w T b l g):∀k,g=some k->∃T' cs fz,w.heap[k]?=some (.cells cs T' fz):=by
 obtain⟨p,v,_,_,h3,h4,_⟩:=h;intro k hk;rcases h3.2 with⟨rfl,_⟩|⟨g',cap,cur,rfl,_,hg,_⟩
 ·rw[<-h4]at hk;cases hk
 ·rw[<-h4]at hk;have:g'=k:=bC hk;subst this;exact⟨_,_,_,hg⟩
theorem BW.trans{w w1 w2:World}{T:TypeId}{b:Nat}{l2:List UInt8}{g g1:Option Nat}(h0:b<w.heap.size)(c1:Ch (λk=>k=b\/g=some k) w w1)(hg1:∀k,g1=some k->g=some k\/w.heap.size<=k)(h2:BW w1 w2 T b l2 g1):BW w w2 T b l2 g:=by
 obtain⟨g2,B2,n2,c2⟩:=h2;refine⟨g2,B2,λk hk=>?_,c1.trans c2 λx hx hs=>?_⟩
 ·rcases n2 k hk with h|h
  ·exact hg1 k h
  ·exact .inr (Nat.le_trans c1.size h)
 ·rcases hs with h|h
  ·exact .inl h
  ·rcases hg1 x h with h|h
   ·exact .inr h
   ·omega
theorem aM6(a b:List UInt8):xY (a++b)=xY a++xY b:=by
 induction a with
 | nil=>rfl
 | cons x a ih=>simp[xY,ih]
theorem aVe{s:ByteArray}{n n3:Int}{w7:World}{b:Nat}{T:TypeId}{l:List UInt8}{g:Option Nat}{p k:Nat}(hn:n=(p:Int))(hn3:n3=(k:Int))(hp:p+k<=s.size)(hs:s.size<=2^40)(hB:BAt w7 T b l g)(hT:BT T)(hl:l.length+4*k<=2^45){F:World->Prop}
 (hF:∀w',BW w7 w' T b (l++xY ((s.data.toList.drop p).take k)) g->F w') :
 (0:Int)<=IntKind.wrap IntKind.i64 (n+n3)/\IntKind.wrap IntKind.i64 (n+n3)<=(↑(ByteArray.size s):Int)/\(0:Int)<=n/\n<=IntKind.wrap IntKind.i64 (n+n3)/\∃(p1:Option Addr),∃(n4:Nat),∃(c:Nat),∃(w8:World),Sem.run Tryz.prog (convert 9 22 (Value.string (ByteArray.extract s (Int.toNat n) (Int.toNat (IntKind.wrap IntKind.i64 (n+n3)))))) w7=Result.ok (Value.slice p1 n4 c) w8/\∃(I1:Nat->Int->World->Prop),(∃(m1:Nat),I1 m1 (0:Int) w8)/\∀(m1:Nat) (n5:Int) (w9:World),I1 m1 n5 w9->aS (decide (n5<(↑n4:Int))) ((0:Int)<=n5/\n5<(↑n4:Int)/\nn p1 λ(a1:Addr)=>∃(n6:Int),World.cell? w9 (Addr.add a1 (Int.toNat n5*(1:Nat)))=some (Value.int IntKind.u8 n6)/\bK Tryz.prog 35 [Value.pointer (some ⟨b,0,none⟩),Value.string (ByteArray.mk (Array.mk [(92:UInt8),(120:UInt8)]))] w9 λ(v3:Value) (w10:World)=>∃(n7:Int),∃(v4:Value),v3=Value.tuple (Array.mk [Value.int IntKind.i64 n7,v4])/\(0:Int)<=(4:Int)/\(0:Int)<=Int.fdiv n6 ((2:Int)^(4:Nat))/\Int.fdiv n6 ((2:Int)^(4:Nat))<(↑(16:Nat):Int)/\bK Tryz.prog 36 [Value.pointer (some ⟨b,0,none⟩),Value.int IntKind.u8 (cH aU4 (Int.toNat (Int.fdiv n6 ((2:Int)^(4:Nat)))))] w10 λ(v5:Value) (w11:World)=>∃(v6:Value),v5=v6/\(0:Int)<=cL BinOp.and IntKind.u8 n6 (15:Int)/\cL BinOp.and IntKind.u8 n6 (15:Int)<(↑(16:Nat):Int)/\bK Tryz.prog 36 [Value.pointer (some ⟨b,0,none⟩),Value.int IntKind.u8 (cH aU4 (Int.toNat (cL BinOp.and IntKind.u8 n6 (15:Int))))] w11 λ(v7:Value) (w12:World)=>∃(v8:Value),v7=v8/\∃(m':Nat),m'<m1/\I1 m' (IntKind.wrap IntKind.i64 (n5+(1:Int))) w12) (F w9):=by
 subst hn hn3;rw[aW (n:=(p:Int)+(k:Int))];refine⟨by omega,by omega,by omega,by omega,?_⟩;rw[show((p:Int)+(k:Int)).toNat=p+k by omega,aM];obtain⟨c,w8,r1,⟨cs,b1,g1⟩,c1,z1⟩:=wX (s.extract p (p+k)) w7;refine⟨_,_,c,w8,r1,?_⟩;have hsz:(s.extract p (p+k)).size=k:=by rw[ByteArray.size_extract];omega
 have hdat:(s.extract p (p+k)).data.toList=(s.data.toList.drop p).take k:=by
  rw[ByteArray.data_extract];simp[Array.toList_extract,List.extract_eq_take_drop]
 rw[hsz];rw[hdat]at g1;generalize hP:(s.data.toList.drop p).take k=P at g1 hF;have hPl:P.length=k:=by
  have:s.data.size=s.size:=rfl;rw[<-hP,aU,aN,Array.length_toList];omega
 have hb:=hB.lt;have hgl:=hB.glt;refine⟨λm1 n5 w9=>∃i g',n5=((i:Nat):Int)/\i<=k/\m1=k-i/\BAt w9 T b (l++xY (P.take i)) g'/\(∀q,g'=some q->g=some q\/w8.heap.size<=q)/\Ch (λq=>q=b\/g=some q) w7 w9/\blk w9 w7.heap.size=some cs/\w8.heap.size<=w9.heap.size,⟨k,0,g,rfl,by omega,rfl,?_,λq hq=>.inl hq,c1.mono λ_ _ h=>h.elim,b1,aQ _⟩,?_⟩
 ·rw[List.take_zero,xY,List.append_nil];exact hB.ch c1 (λh=>h) λ_ _ h=>h
 rintro m1 n5 w9 ⟨i,g',rfl,hi,rfl,B9,n9,c9,b9,z9⟩;refine aC (λh=>?_) (λh=>?_)
 ·have hik:i<k:=by have:=aB h;omega
  have hx:P[i]?=some P[i]:=aK (by omega);generalize P[i]=x at hx;refine⟨by omega,by omega,?_⟩;simp only[nn];refine⟨(x.toNat:Int),?_,?_⟩
  ·rw[add_at,eA b9,aM,aL,Nat.mul_one];exact g1 i x hx
  have hlen:(l++xY (P.take i)).length<=2^45:=by
   rw[aG,aOj,aU];omega
  have hb9:=B9.lt;refine iW B9 hT _ (by show(l++xY (P.take i)).length+2<=2^46;omega) λw10 B10=>⟨_,_,rfl,by omega,?_⟩;rw[aWo,aWn];have hx256:=x.toNat_lt;refine⟨by omega,by omega,?_⟩;rw[aM,aOc _ (by omega)];obtain⟨g10,A10,n10,c10⟩:=B10;refine gG A10 hT _ (by rw[aG];show(l++xY (P.take i)).length+2+1<=2^46;omega) λw11 B11=>⟨_,rfl,by omega,by omega,?_⟩;rw[aM,aOc _ (by omega)];obtain⟨g11,A11,n11,c11⟩:=B11;refine gG A11 hT _ (by rw[aG,aG];show(l++xY (P.take i)).length+2+1+1<=2^46;omega) λw12 B12=>⟨_,rfl,?_⟩;have B13:=BW.trans hb9 c10 n10 (BW.trans A10.lt c11 n11 B12);obtain⟨g12,A12,n12,c12⟩:=B13;refine⟨k-(i+1),by omega,i+1,g12,?_,by omega,rfl,?_,?_,?_,?_,?_⟩
  ·rw[aW (n:=(i:Int)+1)];omega
  ·have e:l++xY (P.take (i+1))=l++xY (P.take i)++(ByteArray.mk (Array.mk [(92:UInt8),(120:UInt8)])).data.toList++[kW (x.toNat / 16)]++[kW (x.toNat%16)]:=by
    rw[kG,hx];simp[aM6,xY]
   rw[e];exact A12
  ·intro q hq;rcases n12 q hq with h|h
   ·exact n9 q h
   ·exact .inr (by omega)
  ·refine c9.trans c12 λy hy hs=>?_;rcases hs with h|h
   ·exact .inl h
   ·rcases n9 y h with h|h
    ·exact .inr h
    ·omega
  ·rw[c12.blk (aH b9) ?_]
   ·exact b9
   ·rintro(h|h)
    ·omega
    ·rcases n9 _ h with h|h
     ·have:=hgl _ h;omega
     ·omega
  ·have:=c12.size;omega
 ·have:i=k:=by have:=aA h;omega
  subst this;rw[aY (by omega)]at B9;exact hF w9 ⟨g',B9,λq hq=>(n9 q hq).imp id λh=>by omega,c9⟩
theorem aJs{l:List UInt8}{r n:Nat}(h:aNk l r n):Lib.runeLen (r:Int)=(n:Int):=by
 obtain⟨_,_,h3,h4,h5⟩:=h;unfold Lib.runeLen;rcases h5 with⟨rfl,h,_⟩|⟨rfl,h,h',_⟩|⟨rfl,h,h'⟩|⟨rfl,h⟩
 ·rw[aD,aF];rfl
 ·rw[aD,aD,aF];rfl
 ·rw[aD,aD,aD,aD,aF];rfl
 ·rw[aD,aD,aD,aD,aD,aF];rfl
attribute [local irreducible] aS
theorem tX{w:World}(s:ByteArray)(hs:s.size<=2^40){K:Value->World->Prop}
 (hk:∀w',Ch (λ_=>False) w w'->K (.string ⟨(cA s.data.toList).toArray⟩) w'):bK Tryz.prog 28 [.string s] w K:=by
 apply aFf;unfold bP;have hB0:BAt (w.alloc (.cells [Value.pointer none,Value.slice none 0 0].toArray 56)) TB w.heap.size [] none:=BAt.new;have c0:Ch (λ_=>False) w (w.alloc (.cells [Value.pointer none,Value.slice none 0 0].toArray 56)):=eV w _;have z0:(w.alloc (.cells [Value.pointer none,Value.slice none 0 0].toArray 56)).heap.size=w.heap.size+1:=by simp
 generalize w.alloc (.cells [Value.pointer none,Value.slice none 0 0].toArray 56)=w1 at hB0 c0 z0 ⊢;have hT:BT TB:=.inl rfl;refine gG hB0 hT 34 (by simp) λw2 B2=>⟨_,rfl,?_⟩;obtain⟨g2,A2,n2,c2⟩:=B2;have c2':Ch (λ_=>False) w w2:=c0.trans c2 λx hx hs=>by
  rcases hs with h|h
  ·omega
  ·cases h
 have n2':∀k,g2=some k->w.heap.size<=k:=λk hk=>by
  rcases n2 k hk with h|h
  ·cases h
  ·omega
 refine⟨_,_,run_range_string (P:=Tryz.prog) w2 _ s dN,?_⟩;have i3:(w2.iter s 0).heap[w2.heap.size]?=some (.stringIter s 0):=heap_alloc_new w2 _;have c3:Ch (λ_=>False) w2 (w2.iter s 0):=eV w2 _;have z3:(w2.iter s 0).heap.size=w2.heap.size+1:=by simp[World.iter]
 have A3:=A2.ch c3 (λh=>h) λ_ _ h=>h;generalize w2.iter s 0=w3 at i3 c3 z3 A3 ⊢;generalize hit:w2.heap.size=it at i3 z3 ⊢;have hgit:∀k,g2=some k->k<it:=λk hk=>by rw[<-hit];exact A2.glt k hk
 have hbit:w.heap.size<it:=by rw[<-hit];exact A2.lt
 refine⟨λm w4=>∃pos out g,pos<=s.size/\m=s.size-pos/\w4.heap[it]?=some (.stringIter s pos)/\BAt w4 TB w.heap.size out g/\(∀k,g=some k->w.heap.size<=k)/\Ch (λ_=>False) w w4/\out.length<=4*pos+1/\out++qb (s.data.toList.drop pos)=34::qb s.data.toList,
  ⟨s.size,0,[34],g2,by omega,rfl,i3,A3,n2',c2'.trans' c3,by simp,by simp⟩,?_⟩
 rintro m w4 ⟨pos,out,g,hpos,rfl,i4,A4,n4,c4,hlen,heq⟩;have hgne:∀k,g=some k->k≠it:=by
  rintro k hk rfl;obtain⟨T',cs,fz,e⟩:=A4.gcells k hk;rw[i4]at e;cases e
 by_cases hp:pos<s.size
 ·right;obtain⟨l,hl⟩:∃l,l=s.data.toList.drop pos:=⟨_,rfl⟩;have hll:l.length=s.size-pos:=by rw[hl,aN,Array.length_toList];rfl
  have hlne:l≠[]:=λe=>by rw[e]at hll;simp at hll;omega
  obtain⟨r,n,hdec,hsp⟩:∃r n,Utf8.decode s pos=(r,n)/\((chr l=0/\r=65533/\n=1)\/(aNk l r n/\n≠0)):=by
   rcases tT hp with⟨h1,h2⟩|⟨r,n,h1,h2,h3⟩
   ·exact⟨_,_,h2,.inl ⟨by rw[hl];exact h1,rfl,rfl⟩⟩
   ·exact⟨_,_,h1,.inr ⟨by rw[hl];exact h2,h3⟩⟩
  obtain⟨hw,hcase⟩:=aJ6 hlne hsp;have hn:=aBr l hlne;have hn1:=nH l;rw[hw]at hn hn1;have hnx:=Lib.run_next_any_at (P:=Tryz.prog) w4 it s pos 3 i4 hp;rw[hdec]at hnx;refine⟨(pos:Int),(r:Int),_,hnx,?_⟩;have i5:(w4.iterAt it s (pos+n)).heap[it]?=some (.stringIter s (pos+n)):=Lib.iterAt_heap w4 it s pos _ i4;have c5:Ch (·=it) w4 (w4.iterAt it s (pos+n)):=⟨rfl,rfl,rfl,by rw[Lib.iterAt_size];exact aQ _,λk _ hn=>Lib.iterAt_other w4 it k s _ hn⟩;have A5:BAt (w4.iterAt it s (pos+n)) TB w.heap.size out g:=A4.ch c5 (by omega) λk hk=>hgne k hk;dsimp only;generalize w4.iterAt it s (pos+n)=w5 at i5 c5 A5 ⊢
  -- what ends a round
  have fin:∀w' ys,ys=fK (l.take n)->BW w5 w' TB w.heap.size (out++ys) g->∃m',m'<s.size-pos/\∃pos' out' g',pos'<=s.size/\m'=s.size-pos'/\w'.heap[it]?=some (.stringIter s pos')/\BAt w' TB w.heap.size out' g'/\(∀k,g'=some k->w.heap.size<=k)/\Ch (λ_=>False) w w'/\out'.length<=4*pos'+1/\out'++qb (s.data.toList.drop pos')=34::qb s.data.toList:=by
   rintro w' ys hys ⟨g',A',n',c'⟩;refine⟨s.size-(pos+n),by omega,pos+n,out++ys,g',by omega,rfl,?_,A',?_,?_,?_,?_⟩
   ·have hlt5:it<w5.heap.size:=gL i5;rw[c'.keep it hlt5 ?_]
    ·exact i5
    ·rintro(h|h)
     ·omega
     ·exact hgne it h rfl
   ·intro k hk;rcases n' k hk with h|h
    ·exact n4 k h
    ·have:=c5.size;have:=c4.size;omega
   ·refine(c4.trans c5 λx hx hs=>?_).trans c' λx hx hs=>?_
    ·omega
    ·rcases hs with h|h
     ·omega
     ·have:=n4 x h;omega
   ·rw[aG,hys];have:=(aCq (l.take n)).2 (by
     intro e;have:=congrArg List.length e;rw[aU]at this;simp only[bN]at this;omega)
    rw[aU]at this;omega
   ·rw[<-heq,aP,hys,<-hl,aBw l hlne,hw,hl,List.drop_drop]
  have hr31:r<2^31:=by
   rcases hsp with⟨_,h,_⟩|⟨⟨_,_,_,h,_⟩,_⟩<;>omega
  refine(Tryz.utf8_RuneLen (r:Int) w5).mono ?_;rintro e w' ⟨rfl,rfl⟩;refine⟨_,rfl,_,rfl,?_⟩
  -- how wide the piece is, as the program has it
  have esc_done:fK (l.take n)=xY (l.take n)->∀w'',BW w' w'' TB w.heap.size (out++xY ((s.data.toList.drop pos).take n)) g->_:=λhe w'' hb=>fin w'' _ he.symm (by rw[hl];exact hb);refine⟨λn3 w7=>w7=w'/\n3=(n:Int),?_,?_⟩
  ·rintro n3 w7 ⟨rfl,rfl⟩;rcases hcase with⟨hr,hq,he⟩|⟨rfl,hq⟩|⟨h34,h92,h10,hr,hq,he,hv1,hv2⟩|⟨h34,h92,h10,hr,hq⟩
   ·have bs:∀(F:World->Prop),(∀w9,BW w7 w9 TB w.heap.size (out++fK (l.take n)) g->F w9)->bK Tryz.prog 36 [.pointer (some ⟨w.heap.size,0,none⟩),.int .u8 92] w7 λv3 w8=>∃v4,v3=v4/\bK Tryz.prog 58 [.pointer (some ⟨w.heap.size,0,none⟩),.int .i32 (r:Int)] w8 λv5 w9=>∃n4 v6,v5=.tuple #[.int .i64 n4,v6]/\F w9:=by
     intro F hF;refine gG A5 hT 92 (by omega) λw8 B8=>⟨_,rfl,?_⟩;obtain⟨g8,A8,n8,c8⟩:=B8;refine yN A8 hT r (by omega) (by omega) (by rw[aG];show out.length+1+4<=_;omega) λw9 n9 B9=>⟨_,_,rfl,hF w9 ?_⟩;rw[he]at B9;have:=BW.trans A5.lt c8 n8 B9;rw[hq]
     rwa [aP]at this
    have hfin:=bs _ (λw9 B9=>fin w9 _ rfl B9);rcases hr with rfl|rfl
    ·exact aC (λh=>absurd h (by decide)) λ_=>hfin
    ·exact aC (λ_=>aC (λ_=>hfin) λh=>absurd h (by decide)) λh=>absurd h (by decide)
   ·refine aC (λ_=>?_) λh=>absurd h (by decide);refine aC (λh=>absurd h (by decide)) λ_=>?_;refine aC (λ_=>?_) λh=>absurd h (by decide);refine iW A5 hT _ (by show out.length+2<=_;omega) λw8 B8=>⟨_,_,rfl,?_⟩;exact fin w8 _ hq.symm B8
   ·have wr0:∀(F:World->Prop),(∀w8,BW w7 w8 TB w.heap.size (out++l.take n) g->F w8)->bK Tryz.prog 58 [.pointer (some ⟨w.heap.size,0,none⟩),.int .i32 (r:Int)] w7 λv3 w8=>∃n4 v4,v3=.tuple #[.int .i64 n4,v4]/\F w8 :=
     λF hF=>yN A5 hT r hv1 hv2 (by omega) λw8 n9 B8=>⟨_,_,rfl,hF w8 (by rw[he]at B8;exact B8)⟩
    have wr:=wr0 _ (λw8 B8=>fin w8 _ hq.symm B8);refine aC (λ_=>?_) (λh=>by simp at h;omega);refine aC (λh=>by simp at h;omega) (λ_=>?_);refine aC (λh=>by simp at h;omega) (λ_=>?_);refine aC (λ_=>?_) (λh=>by simp at h;omega);refine aC (λh=>?_) (λ_=>wr);refine aC (λ_=>?_) (λh2=>by simp at h h2;omega);exact aC (λ_=>wr) (λh2=>by simp at h h2;omega)
   ·have leaf:=λF hF=>aVe (n:=(pos:Int)) (n3:=(n:Int)) (p:=pos) (k:=n) (s:=s) (F:=F) rfl rfl (by omega) hs A5 hT (by omega) hF;have lf:=leaf _ (λw9 B9=>fin w9 _ hq.symm (by rw[hl];exact B9));refine aC (λ_=>?_) (λh=>by simp at h;omega);refine aC (λh=>by simp at h;omega) (λ_=>?_);refine aC (λh=>by simp at h;omega) (λ_=>?_);refine aC (λh=>?_) (λh=>?_)
    ·refine aC (λh2=>?_) (λh2=>by simp at h h2;omega);refine aC (λh3=>?_) (λh3=>lf);exact aC (λh4=>by simp at h h2 h3 h4;omega) (λh4=>lf)
    ·refine aC (λh3=>by simp at h h3;omega) (λh3=>lf)
  ·refine aC (λh=>?_) (λh=>?_)
   ·have hr:r=65533:=by simp at h;omega
    refine⟨by omega,by omega,?_⟩;rw[aM];refine(Tryz.strings_HasPrefix _ _ _).mono ?_;rintro e w'' ⟨rfl,rfl⟩;refine⟨_,rfl,_,rfl,?_⟩;have hext:(s.extract pos s.size).data.toList=l:=by
     rw[hl,ByteArray.data_extract,Array.toList_extract,List.extract_eq_take_drop,aY];rw[aN,Array.length_toList];exact aQ _
    rw[hext];rcases hsp with⟨h1,h2,h3⟩|⟨h1,h2⟩
    ·have hf:Lib.hasPrefix l (ByteArray.mk (Array.mk [(239:UInt8),(191:UInt8),(189:UInt8)])).data.toList=false:=by
      cases hb:Lib.hasPrefix l (ByteArray.mk (Array.mk [(239:UInt8),(191:UInt8),(189:UInt8)])).data.toList with
      | false=>rfl
      | true =>
       obtain⟨t,ht⟩:=List.isPrefixOf_iff_prefix.1 hb;have ht':l=239::191::189::t:=ht.symm;rw[lP,ht']at h1;have e0:ch (239::191::189::t) 0=239:=rfl;have e1:ch (239::191::189::t) 1=191:=rfl;have e2:ch (239::191::189::t) 2=189:=rfl;rw[e0,e1,e2]at h1;simp at h1
     rw[hf];exact aC (λ_=>⟨rfl,by omega⟩) (λh=>by cases h)
    ·have hf:Lib.hasPrefix l (ByteArray.mk (Array.mk [(239:UInt8),(191:UInt8),(189:UInt8)])).data.toList=true:=by
      have hn3:n=3:=by
       obtain⟨_,_,_,_,h5⟩:=h1;rcases h5 with⟨_,h,_⟩|⟨_,_,h,_⟩|⟨h,_⟩|⟨_,h⟩<;>omega
      have e:=h1.2.1;rw[hn3,hr]at e;have e2:Lib.encodeRune ((65533:Nat):Int)=[239,191,189]:=by decide +kernel
      rw[e2]at e;exact List.isPrefixOf_iff_prefix.2 ⟨l.drop 3,by
       conv=>rhs;rw[<-List.take_append_drop 3 l,<-e]
       ⟩
     rw[hf];refine aC (λh=>by cases h) (λ_=>⟨rfl,?_⟩);exact aJs h1
   ·rcases hsp with⟨h1,h2,h3⟩|⟨h1,h2⟩
    ·simp at h;omega
    ·exact⟨rfl,aJs h1⟩
 ·left;refine⟨_,Lib.run_next_end_at w4 it s pos _ i4 hp,?_⟩;have:pos=s.size:=by omega
  subst this;rw[bW (by simp),aCt,List.append_nil]at heq;refine gG A4 hT 34 (by omega) λw5 B5=>⟨_,rfl,?_⟩;obtain⟨g5,A5,n5,c5⟩:=B5;refine uR A5 (by rw[aG];show out.length+1<=_;omega) λw6 c6=>⟨_,rfl,?_⟩;have e:out++[34]=cA s.data.toList:=by rw[heq];rfl
  rw[e];refine hk w6 ((c4.trans c5 λx hx hs=>?_).trans c6 λx hx hs=>?_)
  ·rcases hs with h|h
   ·omega
   ·have:=n4 x h;omega
  ·rcases n5 x hs with h|h
   ·have:=n4 x h;omega
   ·have:=c4.size;omega
end Go.Proofs.YtlfhjkgdlclddaaGreatDoor
namespace Go.Proofs.YtlfhjkgdlclddaaGreatDoor
open Go Go.Sv Go.Note
theorem eZ{s:ByteArray}{n:Nat}{x:UInt8}(h:s.data.toList[n]?=some x):cH s n=(x.toNat:Int):=by
 simp[cH,List.getD,h]
theorem aIn(s:ByteArray){n:Nat}(h:n<s.size):∃x,s.data.toList[n]?=some x :=
 ⟨_,aK (by simpa using h)⟩
def aUd(ok:Bool)(r:Int):Prop:=(ok=true->r=-1)/\(ok=false->0<=r)
end Go.Proofs.YtlfhjkgdlclddaaGreatDoor
