/-
  DERIVED: THE SHELF's CONTRACTS AT THIS DUMP, IN PLAIN WORDS (tools/lay-plain.mjs out of 'YtnmlmicmhpkbeaaGreatDoorShelf.lean', which tools/lay-shelf.mjs wrote): THE SAME DECLARATIONS UNDER THE SAME NAMES: 'import', 'namespace', 'open', 'def', 'theorem' AND NOTHING ELSE: no command of the shelf's: FOR A HAND-IN. Each laying: the table of numbers ('.._ren') and one theorem, a field a fact of the dump's own or the kernel's comparison; each contract: ONE APPLICATION. Taken together for one seat (rawpack.py): what other texts prove of values, texts, builders.
-/
import Derived.Test.YtnmlmicmhpkbeaaGreatDoorPz5
import Derived.Shelf.Strings.Builder1
import Derived.Shelf.Strings.Builder2
import Derived.Shelf.Small.Utf8
import Derived.Shelf.Small.Bits
import Derived.Shelf.Small.Strs
import Derived.Shelf.Small.Wraps
import Derived.Shelf.Strings.BuilderF
import Derived.Shelf.Strings.BuilderK
import Derived.Shelf.Strings.BuilderRune
import Derived.Shelf.Utf8.AppendRunePlain
import Derived.Shelf.Utf8.RuneCount
import Derived.Shelf.Strings.Builder2Cap
import Derived.Shelf.Strconv.Itoa0
import Derived.Shelf.Strconv.Itoa1
import Derived.Shelf.LaysM
import Derived.Shelf.Strconv.Itoa2
import Derived.Shelf.Strconv.Itoa3
import Derived.Shelf.Strconv.Itoa4
import Derived.Shelf.Strconv.ParseIntEmpty
import Derived.Shelf.Strconv.Clone
import Derived.Shelf.Strconv.SyntaxError
import Derived.Shelf.LaysC
import Derived.Shelf.Strconv.ToError
import Derived.Shelf.Strconv.Lower
import Derived.Shelf.Strconv.ParseUint10
import Derived.Shelf.Strconv.ParseUint10Empty
import Derived.Shelf.Strconv.ParseUint10Any
import Derived.Shelf.Strconv.ParseInt10
import Derived.Shelf.Strconv.RangeError
import Derived.Shelf.Strconv.ToErrorRange
import Derived.Shelf.Strconv.ParseUintEmpty
import Derived.Shelf.Strconv.ParseUint10b64
import Derived.Shelf.Strconv.ParseUint10b32
import Derived.Shelf.Strconv.ParseUint10b16
import Derived.Shelf.Strconv.ParseUint10b8
import Derived.Shelf.Strconv.ParseUint10At
import Derived.Shelf.Strconv.ParseInt10At64
import Derived.Shelf.Strconv.ParseInt10At32
import Derived.Shelf.Strconv.ParseInt10At16
import Derived.Shelf.Strconv.ParseInt10At8
import Derived.Shelf.Strconv.ParseInt10All
import Derived.Shelf.Strconv.ParseIntPublic10
import Derived.Shelf.Strconv.ErrVarParseInt
import Derived.Shelf.Strings.Search1
import Derived.Shelf.Strings.Search2
import Derived.Shelf.Strings.Search3
import Derived.Shelf.Strings.Count
import Derived.Shelf.Strings.Shaped
import Derived.Shelf.Strings.Prefix
import Derived.Shelf.Strings.Split
import Derived.Shelf.Strings.Replace
import Derived.Shelf.Strings.SplitShaped
import Derived.Shelf.Unicode.Latin
import Derived.Shelf.Unicode.Decode
import Derived.Shelf.Strings.RuneCount
import Derived.Shelf.Bits.Mul64
import Derived.Shelf.Unicode.DecodeSlow
import Derived.Shelf.Unicode.DecodeAny
import Derived.Shelf.Unicode.CaseLookup
import Derived.Shelf.Unicode.CaseConvert
import Derived.Shelf.Unicode.CaseTo
import Derived.Shelf.Unicode.CaseLaid
import Derived.Shelf.Strings.BuilderCap
import Derived.Ground.Names2Prog
import Derived.Shelf.Slices.SearchI
import Derived.Test.YtnmlmicmhpkbeaaGreatDoorProg
import Derived.Lib.RuneBytes
import GoSem.Core.Utf8
import Derived.Lib.Builder
import Derived.Lib.UnsafeStr
import Derived.Laws.AppendOwn
import Derived.Lib.AppendStr
import Derived.Lib.OthersKept
import Derived.Laws.IdiomStrings
import Derived.Laws.RangeString
set_option linter.unusedVariables false
set_option linter.unusedSimpArgs false
namespace Go.Proofs
open Go.Shelf
def Tryz.lays119_ren:Go.Shelf.Ren:=⟨fun | 119=>52 | n=>n,fun | 21=>21 | 4=>4 | n=>n,fun | n=>n⟩
theorem Tryz.lays119:Go.Proofs.Lays.n119 Tryz.prog Tryz.lays119_ren:=by constructor<;>first|kernel_rfl|(intro w;kernel_rfl)|(constructor<;>first|kernel_rfl|(intro w;kernel_rfl)|(constructor<;>first|kernel_rfl|(intro w;kernel_rfl)))
def Tryz.lays106_ren:Go.Shelf.Ren:=⟨fun | 106=>195 | 213=>228 | 265=>274 | n=>n,fun | 9=>9 | 3=>3 | n=>n,fun | n=>n⟩
theorem Tryz.lays106:Go.Proofs.Lays.n106 Tryz.prog Tryz.lays106_ren:=by constructor<;>first|kernel_rfl|(intro w;kernel_rfl)|(constructor<;>first|kernel_rfl|(intro w;kernel_rfl)|(constructor<;>first|kernel_rfl|(intro w;kernel_rfl)))
def Tryz.lays137_ren:Go.Shelf.Ren:=⟨fun | 137=>105 | 217=>157 | 266=>196 | n=>n,fun | 9=>9 | 5=>5 | 3=>3 | n=>n,fun | n=>n⟩
theorem Tryz.lays137:Go.Proofs.Lays.n137 Tryz.prog Tryz.lays137_ren:=by constructor<;>first|kernel_rfl|(intro w;kernel_rfl)|(constructor<;>first|kernel_rfl|(intro w;kernel_rfl)|(constructor<;>first|kernel_rfl|(intro w;kernel_rfl)))
def Tryz.lays121_ren:Go.Shelf.Ren:=⟨fun | 121=>127 | 214=>171 | n=>n,fun | 4=>4 | 9=>9 | n=>n,fun | n=>n⟩
theorem Tryz.lays121:Go.Proofs.Lays.n121 Tryz.prog Tryz.lays121_ren:=by constructor<;>first|kernel_rfl|(intro w;kernel_rfl)|(constructor<;>first|kernel_rfl|(intro w;kernel_rfl)|(constructor<;>first|kernel_rfl|(intro w;kernel_rfl)))
def Tryz.lays122_ren:Go.Shelf.Ren:=⟨fun | 122=>267 | 215=>316 | n=>n,fun | 3=>3 | 4=>4 | n=>n,fun | n=>n⟩
theorem Tryz.lays122:Go.Proofs.Lays.n122 Tryz.prog Tryz.lays122_ren:=by constructor<;>first|kernel_rfl|(intro w;kernel_rfl)|(constructor<;>first|kernel_rfl|(intro w;kernel_rfl)|(constructor<;>first|kernel_rfl|(intro w;kernel_rfl)))
def Tryz.laysM173_ren:Go.Shelf.Ren:=⟨fun | 173=>112 | 246=>164 | 283=>200 | 284=>201 | 285=>202 | 286=>203 | 129=>237 | 317=>236 | 318=>238 | 319=>239 | 320=>240 | 337=>278 | 338=>279 | n=>n,fun | 2=>2 | 3=>3 | 9=>9 | 4=>4 | 171=>210 | 0=>0 | 53=>22 | 37=>66 | 5=>5 | 173=>213 | 212=>243 | 51=>169 | 20=>20 | 213=>244 | 46=>138 | 232=>251 | 233=>304 | n=>n,fun | 17=>4 | 18=>7 | 19=>8 | n=>n⟩
theorem Tryz.laysM173:Go.Proofs.LaysM.n173 Tryz.prog Tryz.laysM173_ren:=by constructor<;>first|kernel_rfl|(intro w;kernel_rfl)|(constructor<;>first|kernel_rfl|(intro w;kernel_rfl)|(constructor<;>first|kernel_rfl|(intro w;kernel_rfl)))
def Tryz.lays99_ren:Go.Shelf.Ren:=⟨fun | 99=>160 | 206=>197 | n=>n,fun | 9=>9 | 4=>4 | 3=>3 | n=>n,fun | n=>n⟩
theorem Tryz.lays99:Go.Proofs.Lays.n99 Tryz.prog Tryz.lays99_ren:=by constructor<;>first|kernel_rfl|(intro w;kernel_rfl)|(constructor<;>first|kernel_rfl|(intro w;kernel_rfl)|(constructor<;>first|kernel_rfl|(intro w;kernel_rfl)))
def Tryz.lays197_ren:Go.Shelf.Ren:=⟨fun | 197=>131 | 260=>176 | n=>n,fun | 9=>9 | 21=>21 | 3=>3 | 4=>4 | 5=>5 | 105=>160 | 119=>222 | 0=>0 | 46=>138 | 139=>225 | 138=>224 | n=>n,fun | 3=>1 | 4=>2 | n=>n⟩
theorem Tryz.lays197:Go.Proofs.Lays.n197 Tryz.prog Tryz.lays197_ren:=by constructor<;>first|kernel_rfl|(intro w;kernel_rfl)|(constructor<;>first|kernel_rfl|(intro w;kernel_rfl)|(constructor<;>first|kernel_rfl|(intro w;kernel_rfl)))
theorem Tryz.utf8_ValidRune (r:Int) (w:World) :
 Calls Tryz.prog 52 #[.int .i32 r] w fun e w'=>e=.returned (.bool (Lib.validRune r))∧w'=w:=Any.utf8_ValidRune Tryz.lays119 r w
open Go.RowKit in
theorem Tryz.strings_Compare (a b:ByteArray) (w:World) :
 Calls Tryz.prog 195 #[.string a,.string b] w fun e w'=>e=.returned (.int .i64 (Lib.compareBytes a.data.toList b.data.toList))∧w'=w:=Any.strings_Compare Tryz.lays106 a b w
open Go.RowKit in
theorem Tryz.strings_IndexByte (s:ByteArray) (c:Int) (w:World) :
 Calls Tryz.prog 105 #[.string s,.int .u8 c] w fun e w'=>e=.returned (.int .i64 (Lib.indexByte s.data.toList c.toNat.toUInt8))∧w'=w:=Any.strings_IndexByte Tryz.lays137 s c w
open Go.RowKit in
theorem Tryz.strconv_FormatBool (b:Bool) (w:World) :
 Calls Tryz.prog 127 #[.bool b] w fun e w'=>e=.returned (.string ⟨(Lib.formatBool b).toArray⟩)∧w'=w:=Any.strconv_FormatBool Tryz.lays121 b w
open Go.RowKit in
theorem Tryz.cmp_Compare_int (x y:Int) (w:World) :
 Calls Tryz.prog 267 #[.int .i64 x,.int .i64 y] w fun e w'=>e=.returned (.int .i64 (Lib.compareInt x y))∧w'=w:=Any.cmp_Compare_int Tryz.lays122 x y w
open Go.RowKit in
open Go.Lib in
open Go.Lib in
open Go.RowKit Go.Sort Go.Lib in
open Go.RowKit Go.Sort Go.Lib in
theorem Tryz.strconv_FormatInt_10 (n:Int) (h0:-9223372036854775808≤n) (h1:n≤9223372036854775807) (w:World) (htab:Lib.TabIs Tryz.prog w "internal/strconv.uint64pow10" .u64 Lib.pow10Tab) :
 Calls Tryz.prog 112 #[.int .i64 n,.int .i64 10] w fun e w'=>e=.returned (.string ⟨(Lib.itoa n).toArray⟩)∧∃ k os,w'=grow (w.drewN k) os:=Any.strconv_FormatInt_10 Tryz.laysM173 n h0 h1 w htab
open Go.RowKit Go.Lib in
theorem Tryz.strings_HasPrefix (s p:ByteArray) (w:World) :
 Calls Tryz.prog 160 #[.string s,.string p] w fun e w'=>e=.returned (.bool (Lib.hasPrefix s.data.toList p.data.toList))∧w'=w:=Any.strings_HasPrefix Tryz.lays99 s p w
open Go.RowKit Go.Lib in
theorem Tryz.utf8_DecodeRuneInString (s:ByteArray) (w:World) (hT:Lib.Utf8Tabs 1 2 w) :
 Calls Tryz.prog 131 #[.string s] w fun e w'=>e=.returned (.tuple #[.int .i32 (Lib.decodeGo s).1,.int .i64 (Lib.decodeGo s).2])∧Below w.heap.size w w':=Any.utf8_DecodeRuneInString Tryz.lays197 s w hT
end Go.Proofs
namespace Go.Note
open Go
set_option linter.unusedVariables false
abbrev Bs:=List UInt8
def inB (l:Bs) (i a b:Nat):Bool :=
 match l[i]? with
 | some x=>decide (a≤x.toNat) && decide (x.toNat≤b)
 | none=>false
def chr (l:Bs):Nat :=
 if inB l 0 0 127 then 1
 else if inB l 0 194 223 && inB l 1 128 191 then 2
 else if inB l 0 224 224 && inB l 1 160 191 && inB l 2 128 191 || inB l 0 225 236 && inB l 1 128 191 && inB l 2 128 191 || inB l 0 237 237 && inB l 1 128 159 && inB l 2 128 191 || inB l 0 238 239 && inB l 1 128 191 && inB l 2 128 191 then 3
 else if inB l 0 240 240 && inB l 1 144 191 && inB l 2 128 191 && inB l 3 128 191 || inB l 0 241 243 && inB l 1 128 191 && inB l 2 128 191 && inB l 3 128 191 || inB l 0 244 244 && inB l 1 128 143 && inB l 2 128 191 && inB l 3 128 191 then 4
 else 0
theorem inB_iff (l:Bs) (i a b:Nat):inB l i a b=true↔∃ x,l[i]?=some x∧a≤x.toNat∧x.toNat≤b:=by
 unfold inB
 cases l[i]?<;>simp
theorem chr_le (l:Bs):chr l≤l.length∧chr l≤4:=by
 have lt:∀ i a b,inB l i a b=true→i<l.length:=fun i a b h=>by
  obtain ⟨x,hx,_⟩:=(inB_iff l i a b).1 h
  exact (List.getElem?_eq_some_iff.1 hx).1
 unfold chr
 split
 ·have:=lt _ _ _ (by assumption); omega
 ·split
  ·rename_i h; simp only [Bool.and_eq_true] at h
   have:=lt _ _ _ h.2; omega
  ·split
   ·rename_i h; simp only [Bool.or_eq_true,Bool.and_eq_true] at h
    have:2<l.length:=by
     rcases h with ((h | h) | h) | h<;>exact lt _ _ _ h.2
    omega
   ·split
    ·rename_i h; simp only [Bool.or_eq_true,Bool.and_eq_true] at h
     have:3<l.length:=by
      rcases h with (h | h) | h<;>exact lt _ _ _ h.2
     omega
    ·omega
def Says (l:Bs) (r n:Nat):Prop :=
 n=chr l∧Lib.encodeRune r=l.take n∧(r<55296∨57343<r)∧r≤1114111 ∧
 ((n=1∧r<128∧l.head?.map (·.toNat)=some r)∨(n=2∧128≤r∧r≤2047∧∃ a b t,l=a::b::t∧r=(a.toNat-192)*64+(b.toNat-128)∧194≤a.toNat∧a.toNat≤223∧128≤b.toNat∧b.toNat≤191)∨(n=3∧2048≤r∧r≤65535)∨(n=4∧65536≤r))
theorem get_at {s:ByteArray} {i k:Nat} {x:UInt8} (h:(s.data.toList.drop i)[k]?=some x):s.get! (i+k)=x∧i+k<s.size:=by
 rw [List.getElem?_drop] at h
 have hlt:i+k<s.data.toList.length:=(List.getElem?_eq_some_iff.1 h).1
 have hlt':i+k<s.data.size:=by simpa using hlt
 refine ⟨?_,hlt'⟩
 rw [List.getElem?_eq_getElem hlt] at h
 have:s.data.toList[i+k]=s.data[i+k]:=by simp
 rw [this] at h
 simp only [ByteArray.get!]
 rw [getElem!_pos s.data (i+k) hlt']
 exact Option.some.inj h
theorem get_none {s:ByteArray} {i k:Nat} (h:(s.data.toList.drop i)[k]?=none):¬ i+k<s.size:=by
 rw [List.getElem?_drop,List.getElem?_eq_none_iff] at h
 have:s.data.toList.length=s.size:=by simp
 omega
theorem u8eq {x:Int} {a:UInt8} (h:x=(a.toNat:Int)):x.toNat.toUInt8=a:=by
 subst h; simp
theorem ite_c {α:Type} {p q:Prop} [Decidable p] [Decidable q] {x x' y y':α} (h:p↔q) (hx:q→x=x') (hy:¬ q→y=y'):(if p then x else y)=if q then x' else y':=by
 by_cases hp:p
 ·rw [if_pos hp,if_pos (h.1 hp)]; exact hx (h.1 hp)
 ·rw [if_neg hp,if_neg (fun hq=>hp (h.2 hq))]; exact hy fun hq=>hp (h.2 hq)
def ch (l:Bs) (k:Nat):Nat:=match l[k]? with | some x=>x.toNat | none=>256
theorem ch_some {l:Bs} {k:Nat} {x:UInt8} (h:l[k]?=some x):ch l k=x.toNat:=by simp [ch,h]
theorem inB_ch (l:Bs) (k a b:Nat) (hb:b<256):inB l k a b=(decide (a≤ch l k) && decide (ch l k≤b)):=by
 unfold inB ch
 cases l[k]? with
 | some x=>rfl
 | none=>simp; omega
theorem chr_ch (l:Bs):chr l =
 if ch l 0≤127 then 1
 else if 194≤ch l 0∧ch l 0≤223∧128≤ch l 1∧ch l 1≤191 then 2
 else if (ch l 0=224∧160≤ch l 1∧ch l 1≤191∨225≤ch l 0∧ch l 0≤236∧128≤ch l 1∧ch l 1≤191∨ch l 0=237∧128≤ch l 1∧ch l 1≤159∨238≤ch l 0∧ch l 0≤239∧128≤ch l 1∧ch l 1≤191)∧128≤ch l 2∧ch l 2≤191 then 3
 else if (ch l 0=240∧144≤ch l 1∧ch l 1≤191∨241≤ch l 0∧ch l 0≤243∧128≤ch l 1∧ch l 1≤191∨ch l 0=244∧128≤ch l 1∧ch l 1≤143)∧128≤ch l 2∧ch l 2≤191∧128≤ch l 3∧ch l 3≤191 then 4
 else 0:=by
 unfold chr
 simp only [inB_ch l _ _ _ (show 127<256 by omega),inB_ch l _ _ _ (show 223<256 by omega),inB_ch l _ _ _ (show 191<256 by omega),inB_ch l _ _ _ (show 224<256 by omega),inB_ch l _ _ _ (show 236<256 by omega),inB_ch l _ _ _ (show 237<256 by omega),inB_ch l _ _ _ (show 239<256 by omega),inB_ch l _ _ _ (show 240<256 by omega),inB_ch l _ _ _ (show 243<256 by omega),inB_ch l _ _ _ (show 244<256 by omega),inB_ch l _ _ _ (show 159<256 by omega),inB_ch l _ _ _ (show 143<256 by omega)]
 simp only [Bool.and_eq_true,Bool.or_eq_true,decide_eq_true_eq,Nat.zero_le,true_and]
 generalize ch l 0=a
 generalize ch l 1=b
 generalize ch l 2=c
 generalize ch l 3=d
 have cg:∀ {p q:Prop} [Decidable p] [Decidable q] {x y y':Nat},(p↔q)→y=y'→(if p then x else y)=if q then x else y':=by
  intro p q _ _ x y y' h hy
  subst hy
  by_cases hp:p
  ·rw [if_pos hp,if_pos (h.1 hp)]
  ·rw [if_neg hp,if_neg (fun hq=>hp (h.2 hq))]
 exact cg (by omega) (cg (by omega) (cg (by omega) (cg (by omega) rfl)))
theorem decode_ch {s:ByteArray} {i:Nat} (hi:i<s.size) {l:Bs} (hl:l=s.data.toList.drop i):Utf8.decode s i =
 if ch l 0<128 then (ch l 0,1)
 else if ch l 0 / 32=6∧ch l 1 / 64=2 then
  if (ch l 0%32)*64+ch l 1%64≥128 then ((ch l 0%32)*64+ch l 1%64,2) else (65533,1)
 else if ch l 0 / 16=14∧ch l 1 / 64=2∧ch l 2 / 64=2 then
  if (ch l 0%16)*4096+(ch l 1%64)*64+ch l 2%64≥2048∧((ch l 0%16)*4096+(ch l 1%64)*64+ch l 2%64<55296∨57343<(ch l 0%16)*4096+(ch l 1%64)*64+ch l 2%64) then ((ch l 0%16)*4096+(ch l 1%64)*64+ch l 2%64,3) else (65533,1)
 else if ch l 0 / 8=30∧ch l 1 / 64=2∧ch l 2 / 64=2∧ch l 3 / 64=2 then
  if (ch l 0%8)*262144+(ch l 1%64)*4096+(ch l 2%64)*64+ch l 3%64≥65536∧(ch l 0%8)*262144+(ch l 1%64)*4096+(ch l 2%64)*64+ch l 3%64≤1114111 then ((ch l 0%8)*262144+(ch l 1%64)*4096+(ch l 2%64)*64+ch l 3%64,4) else (65533,1)
 else (65533,1):=by
 have h0:(s.get! (i+0)).toNat=ch l 0:=by
  have:∃ a,(s.data.toList.drop i)[0]?=some a:=by
   rw [List.getElem?_drop]
   have:i+0<s.data.toList.length:=by simpa using hi
   exact ⟨_,List.getElem?_eq_getElem this⟩
  obtain ⟨a,ha⟩:=this
  rw [hl,ch_some ha,(get_at ha).1]
 have hk:∀ k,(decide (i+k<s.size) && (s.get! (i+k)).toNat / 64 == 2)=decide (ch l k / 64=2)∧(ch l k / 64=2→(s.get! (i+k)).toNat=ch l k):=by
  intro k
  cases h:(s.data.toList.drop i)[k]? with
  | some x =>
   obtain ⟨e1,e2⟩:=get_at h
   rw [hl,ch_some h,e1]
   refine ⟨?_,fun _=>rfl⟩
   simp [e2,beq_iff_eq]
   rfl
  | none =>
   have:=get_none h
   have e:ch l k=256:=by rw [hl]; simp [ch,h]
   rw [e]
   simp [this]
 have g1:=(hk 1).2
 have g2:=(hk 2).2
 have g3:=(hk 3).2
 unfold Utf8.decode
 simp only [h0,(hk _).1,Utf8.runeError,Utf8.valid]
 generalize (s.get! (i+1)).toNat=x1 at g1 ⊢
 generalize (s.get! (i+2)).toNat=x2 at g2 ⊢
 generalize (s.get! (i+3)).toNat=x3 at g3 ⊢
 generalize ch l 0=a
 generalize ch l 1=b at g1 ⊢
 generalize ch l 2=c at g2 ⊢
 generalize ch l 3=d at g3 ⊢
 refine ite_c Iff.rfl (fun _=>rfl) fun _=>?_
 refine ite_c (by simp) (fun h=>?_) fun _=>?_
 ·rw [g1 h.2]
 refine ite_c (by simp [and_assoc]) (fun h=>?_) fun _=>?_
 ·rw [g1 h.2.1,g2 h.2.2]
  refine ite_c ?_ (fun _=>rfl) fun _=>rfl
  simp
  omega
 refine ite_c (by simp [and_assoc]) (fun h=>?_) fun _=>rfl
 rw [g1 h.2.1,g2 h.2.2.1,g3 h.2.2.2]
 refine ite_c ?_ (fun _=>rfl) fun _=>rfl
 simp
 omega
theorem decode_says {s:ByteArray} {i:Nat} (hi:i<s.size):(chr (s.data.toList.drop i)=0∧Utf8.decode s i=(65533,1))∨∃ r n,Utf8.decode s i=(r,n)∧Says (s.data.toList.drop i) r n∧n≠0:=by
 obtain ⟨l,hl⟩:∃ l,l=s.data.toList.drop i:=⟨_,rfl⟩
 rw [decode_ch hi hl,← hl]
 have hc:=chr_ch l
 have hx:∀ k,ch l k<256→∃ x,l[k]?=some x∧ch l k=x.toNat:=by
  intro k h
  unfold ch at h ⊢
  cases hk:l[k]? with
  | some x=>exact ⟨x,rfl,rfl⟩
  | none=>rw [hk] at h; simp at h
 have tk:∀ (k:Nat) (x:UInt8),l[k]?=some x→l.take (k+1)=l.take k++[x]:=by
  intro k x h
  rw [List.take_add_one,h]; rfl
 clear hl
 have z0:ch l 0≤256:=by
  unfold ch; split
  ·have:=(by assumption:UInt8).toNat_lt; omega
  ·omega
 by_cases c1:ch l 0≤127
 ·rw [if_pos c1] at hc
  rw [if_pos (by omega)]
  obtain ⟨x,h0,e0⟩:=hx 0 (by omega)
  refine .inr ⟨_,_,rfl,⟨hc.symm,?_,by omega,by omega,.inl ⟨rfl,by omega,?_⟩⟩,by omega⟩
  ·rw [tk 0 x h0,e0]
   unfold Lib.encodeRune
   rw [Lib.encodeRuneZ_one (by omega) (by omega)]
   simp
  ·rw [e0,List.head?_eq_getElem?,h0]; rfl
 rw [if_neg c1] at hc
 rw [if_neg (by omega)]
 by_cases c2:194≤ch l 0∧ch l 0≤223∧128≤ch l 1∧ch l 1≤191
 ·rw [if_pos c2] at hc
  rw [if_pos (by omega),if_pos (by omega)]
  obtain ⟨x,h0,e0⟩:=hx 0 (by omega)
  obtain ⟨y,h1,e1⟩:=hx 1 (by omega)
  refine .inr ⟨_,_,rfl,⟨hc.symm,?_,by omega,by omega,.inr (.inl ⟨rfl,by omega,by omega,?_⟩)⟩,by omega⟩
  ·rw [tk 1 y h1,tk 0 x h0,e0,e1]
   rw [e0,e1] at c2
   unfold Lib.encodeRune
   rw [Lib.encodeRuneZ_two (by omega) (by omega)]
   simp only [List.map_cons,List.map_nil,List.take_zero,List.nil_append,List.cons_append]
   rw [u8eq (a:=x) (by omega),u8eq (a:=y) (by omega)]
  ·rw [e0,e1] at c2 ⊢
   have:l=x::y::l.drop 2:=by
    rw [← List.take_append_drop 2 l]
    rw [tk 1 y h1,tk 0 x h0]
    simp
   exact ⟨x,y,l.drop 2,this,by omega,by omega,by omega,by omega,by omega⟩
 rw [if_neg c2] at hc
 by_cases c3:(ch l 0=224∧160≤ch l 1∧ch l 1≤191∨225≤ch l 0∧ch l 0≤236∧128≤ch l 1∧ch l 1≤191∨ch l 0=237∧128≤ch l 1∧ch l 1≤159∨238≤ch l 0∧ch l 0≤239∧128≤ch l 1∧ch l 1≤191)∧128≤ch l 2∧ch l 2≤191
 ·rw [if_pos c3] at hc
  rw [if_neg (by omega),if_pos (by omega),if_pos (by omega)]
  obtain ⟨x,h0,e0⟩:=hx 0 (by omega)
  obtain ⟨y,h1,e1⟩:=hx 1 (by omega)
  obtain ⟨z,h2,e2⟩:=hx 2 (by omega)
  rw [e0,e1,e2] at c3
  refine .inr ⟨_,_,rfl,⟨hc.symm,?_,by omega,by omega,.inr (.inr (.inl ⟨rfl,by omega,by omega⟩))⟩,by omega⟩
  rw [tk 2 z h2,tk 1 y h1,tk 0 x h0,e0,e1,e2]
  unfold Lib.encodeRune
  rw [Lib.encodeRuneZ_three (by omega)]
  simp only [List.map_cons,List.map_nil,List.take_zero,List.nil_append,List.cons_append]
  rw [u8eq (a:=x) (by omega),u8eq (a:=y) (by omega),u8eq (a:=z) (by omega)]
 rw [if_neg c3] at hc
 by_cases c4:(ch l 0=240∧144≤ch l 1∧ch l 1≤191∨241≤ch l 0∧ch l 0≤243∧128≤ch l 1∧ch l 1≤191∨ch l 0=244∧128≤ch l 1∧ch l 1≤143)∧128≤ch l 2∧ch l 2≤191∧128≤ch l 3∧ch l 3≤191
 ·rw [if_pos c4] at hc
  rw [if_neg (by omega),if_neg (by omega),if_pos (by omega),if_pos (by omega)]
  obtain ⟨x,h0,e0⟩:=hx 0 (by omega)
  obtain ⟨y,h1,e1⟩:=hx 1 (by omega)
  obtain ⟨z,h2,e2⟩:=hx 2 (by omega)
  obtain ⟨u,h3,e3⟩:=hx 3 (by omega)
  rw [e0,e1,e2,e3] at c4
  refine .inr ⟨_,_,rfl,⟨hc.symm,?_,by omega,by omega,.inr (.inr (.inr ⟨rfl,by omega⟩))⟩,by omega⟩
  rw [tk 3 u h3,tk 2 z h2,tk 1 y h1,tk 0 x h0,e0,e1,e2,e3]
  unfold Lib.encodeRune
  rw [Lib.encodeRuneZ_four (by omega) (by omega)]
  simp only [List.map_cons,List.map_nil,List.take_zero,List.nil_append,List.cons_append]
  rw [u8eq (a:=x) (by omega),u8eq (a:=y) (by omega),u8eq (a:=z) (by omega),u8eq (a:=u) (by omega)]
 rw [if_neg c4] at hc
 refine .inl ⟨hc,?_⟩
 by_cases d2:ch l 0 / 32=6∧ch l 1 / 64=2
 ·rw [if_pos d2,if_neg (by omega)]
 rw [if_neg d2]
 by_cases d3:ch l 0 / 16=14∧ch l 1 / 64=2∧ch l 2 / 64=2
 ·rw [if_pos d3,if_neg (by omega)]
 rw [if_neg d3]
 by_cases d4:ch l 0 / 8=30∧ch l 1 / 64=2∧ch l 2 / 64=2∧ch l 3 / 64=2
 ·rw [if_pos d4,if_neg (by omega)]
 rw [if_neg d4]
def wide (l:Bs):Nat:=max 1 (chr l)
theorem wide_pos (l:Bs):1≤wide l:=by unfold wide; omega
theorem wide_le (l:Bs) (h:l≠[]):wide l≤l.length∧wide l≤4:=by
 have:=chr_le l
 have:0<l.length:=List.length_pos_iff.2 h
 unfold wide; omega
def textF:Nat→Bs→Bool
 | 0,_=>true
 | f+1,l=>if l=[] then true else if chr l=0 then false else textF f (l.drop (chr l))
def textB (l:Bs):Bool:=textF l.length l
theorem textF_fuel:∀ (f g:Nat) (l:Bs),l.length≤f→l.length≤g→textF f l=textF g l
 | 0,0,l,_,_=>rfl
 | 0,g+1,l,h,_=>by
  have:l=[]:=List.eq_nil_of_length_eq_zero (by omega)
  subst this; rfl
 | f+1,0,l,_,h=>by
  have:l=[]:=List.eq_nil_of_length_eq_zero (by omega)
  subst this; rfl
 | f+1,g+1,l,h1,h2=>by
  unfold textF
  split
  ·rfl
  ·split
   ·rfl
   ·rename_i h h0
    have:0<l.length:=List.length_pos_iff.2 h
    rw [textF_fuel f g _ (by rw [List.length_drop]; omega) (by rw [List.length_drop]; omega)]
theorem textB_nil:textB []=true:=rfl
theorem textB_cons (l:Bs) (h:l≠[]):textB l=(decide (chr l≠0) && textB (l.drop (chr l))):=by
 have hp:0<l.length:=List.length_pos_iff.2 h
 unfold textB
 obtain ⟨n,hn⟩:∃ n,l.length=n+1:=⟨l.length-1,by omega⟩
 rw [hn]
 conv=>lhs; unfold textF
 rw [if_neg h]
 by_cases h0:chr l=0
 ·simp [h0]
 ·rw [if_neg h0,textF_fuel n _ _ (by rw [List.length_drop]; omega) (Nat.le_refl _)]
  simp [h0]
def asciiB (l:Bs):Bool:=l.all fun x=>decide (x.toNat≤127)
def unhex (x:UInt8) (capitals:Bool):Option Nat :=
 if 48≤x.toNat∧x.toNat≤57 then some (x.toNat-48)
 else if 97≤x.toNat∧x.toNat≤102 then some (x.toNat-87)
 else if capitals=true∧65≤x.toNat∧x.toNat≤70 then some (x.toNat-55)
 else none
def slashed:Bs→Option (UInt8 × Nat)
 | []=>none
 | x::l =>
  if x=34∨x=92 then some (x,2)
  else if x=110 then some (10,2)
  else if x=120 then
   match l with
   | a::b::_=>(match unhex a true,unhex b true with
    | some m,some n=>some ((16*m+n).toUInt8,4)
    | _,_=>none)
   | _=>none
  else none
def item:Bs→Option (Bs × Nat)
 | []=>none
 | x::l =>
  if x=92 then (slashed l).map fun p=>([p.1],p.2)
  else if x.toNat<32∨chr (x::l)=0 then none
  else some ((x::l).take (chr (x::l)),chr (x::l))
def wordF:Nat→Bs→Option (Bs × Nat)
 | 0,_=>none
 | f+1,l =>
  match l with
  | []=>none
  | x::_ =>
   if x=34 then some ([],1)
   else match item l with
    | none=>none
    | some (y,n)=>(wordF f (l.drop n)).map fun p=>(y++p.1,n+p.2)
def wordB:Bs→Option (Bs × Nat)
 | []=>none
 | x::l=>if x=34 then (wordF (l.length+1) l).map fun p=>(p.1,p.2+1) else none
def wd (l:Bs):Option (Bs × Nat):=wordF (l.length+1) l
end Go.Note
namespace Go.Note
open Go
set_option linter.unusedVariables false
def blankC (x:UInt8):Bool:=decide (x=32) || decide (x=9) || decide (x=10) || decide (x=13)
def skipN:Bool→Bs→Nat
 | _,[]=>0
 | c,x::l =>
  if c=false∧blankC x=false∧x≠35 then 0
  else 1+skipN (if x=10 then false else if x=35 then true else c) l
def letterC (x:UInt8):Bool:=(decide (97≤x.toNat) && decide (x.toNat≤122)) || (decide (48≤x.toNat) && decide (x.toNat≤57)) || decide (x=45)
def nameN:Bs→Nat
 | []=>0
 | x::l=>if letterC x then 1+nameN l else 0
def signC (x:UInt8):Bool:=[91,93,123,125,40,41,58,44].contains x
structure Tok where
 kind:Nat
 beg:Nat
 fin:Nat
 text:Bs
def next (s:Bs) (from_:Nat):Tok :=
 let at_:=from_+skipN false (s.drop from_)
 match s.drop at_ with
 | []=>⟨0,s.length,s.length,[]⟩
 | x::l =>
  if x=34 then (match wordB (x::l) with
   | none=>⟨5,at_,at_+1,[]⟩
   | some p=>⟨2,at_,at_+p.2,p.1⟩)
  else if signC x then ⟨3,at_,at_+1,[x]⟩
  else if letterC x then ⟨1,at_,at_+nameN (x::l),(x::l).take (nameN (x::l))⟩
  else ⟨4,at_,at_+1,[x]⟩
end Go.Note
namespace Go.Note
open Go
set_option linter.unusedVariables false
inductive M where
 | mk (k:Int) (n:Nat) (t:Bs) (e:Int) (l:List M)
def M.k:M→Int | .mk k _ _ _ _=>k
def M.n:M→Nat | .mk _ n _ _ _=>n
def M.t:M→Bs | .mk _ _ t _ _=>t
def M.e:M→Int | .mk _ _ _ e _=>e
def M.l:M→List M | .mk _ _ _ _ l=>l
theorem M.lt_of_mem {k:Int} {n:Nat} {t:Bs} {e:Int} {l:List M} {x:M} (h:x∈l):SizeOf.sizeOf x<SizeOf.sizeOf (M.mk k n t e l):=by
 have:=List.sizeOf_lt_of_mem h
 simp only [M.mk.sizeOf_spec]; omega
theorem M.ind {P:M→Prop} (h:∀ k n t e l,(∀ x∈l,P x)→P (.mk k n t e l)):∀ m,P m
 | .mk k n t e l=>h k n t e l fun x hx=>M.ind h x
termination_by m=>SizeOf.sizeOf m
decreasing_by exact M.lt_of_mem hx
mutual
def M.eq:M→M→Bool
 | .mk k n t e l,.mk k' n' t' e' l'=>decide (k=k') && decide (n=n') && decide (t=t') && decide (e=e') && M.eqL l l'
def M.eqL:List M→List M→Bool
 | [],[]=>true
 | x::l,y::l'=>M.eq x y && M.eqL l l'
 | [],_::_=>false
 | _::_,[]=>false
end
theorem M.eqL_of {l:List M} (h:∀ x∈l,∀ b,M.eq x b=true↔x=b):∀ l',M.eqL l l'=true↔l=l':=by
 induction l with
 | nil=>intro l'; cases l'<;>simp [M.eqL]
 | cons x l ih =>
  intro l'
  cases l' with
  | nil=>simp [M.eqL]
  | cons y l'=>simp [M.eqL,h x (by simp) y,ih (fun x hx=>h x (by simp [hx])) l']
theorem M.eq_iff:∀ a b:M,M.eq a b=true↔a=b:=by
 refine M.ind fun k n t e l ih=>?_
 rintro ⟨k',n',t',e',l'⟩
 simp [M.eq,M.eqL_of ih,and_assoc]
instance:DecidableEq M:=fun a b=>decidable_of_iff _ (M.eq_iff a b)
mutual
def M.wt:M→Nat
 | .mk _ _ t _ l=>1+t.length / 64+M.wtL l
def M.wtL:List M→Nat
 | []=>0
 | x::l=>M.wt x+M.wtL l
end
theorem M.wtL_sum (l:List M):M.wtL l=(l.map M.wt).sum:=by
 induction l with
 | nil=>rfl
 | cons x l ih=>simp [M.wtL,ih]
theorem M.wt_mk (k:Int) (n:Nat) (t:Bs) (e:Int) (l:List M):M.wt (.mk k n t e l)=1+t.length / 64+(l.map M.wt).sum:=by
 rw [M.wt,M.wtL_sum]
def numK (k:Int):Bool:=decide (1≤k) && decide (k≤16) && decide (k≠14)
def textK (k:Int):Bool:=decide (k=14) || (decide (17≤k) && decide (k≤20))
def listK (k:Int):Bool:=decide (21≤k)
def M.extra (m:M):Bool:=(!numK m.k && decide (m.n≠0)) || (!textK m.k && decide (m.t≠[])) || (!listK m.k && decide (m.l≠[])) || (decide (m.k≠23) && decide (m.e≠0))
def sgn (n b:Nat):Bool:=decide (n<2^(b-1)) || decide (2^64-2^(b-1)≤n)
def M.num (m:M):Bool :=
 if m.k=1 then decide (m.n≤1)
 else if m.k=2 then decide (m.n≤255)
 else if m.k=3 then decide (m.n≤65535)
 else if m.k=4∨m.k=10∨m.k=12 then decide (m.n≤4294967295)
 else if m.k=6 then sgn m.n 8
 else if m.k=7 then sgn m.n 16
 else if m.k=8 then sgn m.n 32
 else if m.k=15 then decide (m.n≤1114111) && (decide (m.n<55296) || decide (57343<m.n))
 else true
def M.txt (m:M):Bool :=
 if m.k=14∨m.k=17 then decide (m.t.length=16)
 else if m.k=19 then textB m.t
 else if m.k=20 then asciiB m.t
 else true
theorem M.num_mk (k:Int) (n:Nat) (t:Bs) (e:Int) (l:List M):M.num (.mk k n t e l) =
 if k=1 then decide (n≤1)
 else if k=2 then decide (n≤255)
 else if k=3 then decide (n≤65535)
 else if k=4∨k=10∨k=12 then decide (n≤4294967295)
 else if k=6 then sgn n 8
 else if k=7 then sgn n 16
 else if k=8 then sgn n 32
 else if k=15 then decide (n≤1114111) && (decide (n<55296) || decide (57343<n))
 else true:=rfl
theorem M.txt_mk (k:Int) (n:Nat) (t:Bs) (e:Int) (l:List M):M.txt (.mk k n t e l) =
 if k=14∨k=17 then decide (t.length=16)
 else if k=19 then textB t
 else if k=20 then asciiB t
 else true:=rfl
theorem M.extra_mk (k:Int) (n:Nat) (t:Bs) (e:Int) (l:List M):M.extra (.mk k n t e l)=((!numK k && decide (n≠0)) || (!textK k && decide (t≠[])) || (!listK k && decide (l≠[])) || (decide (k≠23) && decide (e≠0))):=rfl
def keysOf:List M→List M
 | []=>[]
 | [x]=>[x]
 | x::_::l=>x::keysOf l
def mapOk (l:List M):Bool:=decide (l.length%2=0) && decide (l.length / 2≤1024) && decide (keysOf l).Nodup
def arrOk (e:Int) (l:List M):Bool:=decide (0<e) && decide (e<24) && l.all fun x=>decide (x.k=e)
def M.own (d:Nat) (m:M):Nat :=
 if m.k<0∨25≤m.k then 20
 else if 32<d then 26
 else if m.extra then 25
 else if m.num=false then 21
 else if m.txt=false then 22
 else if m.k=22∧mapOk m.l=false then 23
 else if m.k=23∧arrOk m.e m.l=false then 24
 else if m.k=24∧m.l.length≠2 then 27
 else 0
theorem M.own_mk (d:Nat) (k:Int) (n:Nat) (t:Bs) (e:Int) (l:List M):M.own d (.mk k n t e l) =
 if k<0∨25≤k then 20
 else if 32<d then 26
 else if M.extra (.mk k n t e l)=true then 25
 else if M.num (.mk k n t e l)=false then 21
 else if M.txt (.mk k n t e l)=false then 22
 else if k=22∧mapOk l=false then 23
 else if k=23∧arrOk e l=false then 24
 else if k=24∧l.length≠2 then 27
 else 0:=rfl
mutual
def M.check:Nat→M→Nat
 | d,.mk k n t e l=>if M.own d (.mk k n t e l)≠0 then M.own d (.mk k n t e l) else M.checkL (d+1) l
def M.checkL:Nat→List M→Nat
 | _,[]=>0
 | d,x::l=>if M.check d x≠0 then M.check d x else M.checkL d l
end
theorem M.checkL_iff (d:Nat) (l:List M):M.checkL d l=0↔∀ x∈l,M.check d x=0:=by
 induction l with
 | nil=>simp [M.checkL]
 | cons x l ih =>
  unfold M.checkL
  by_cases h:M.check d x=0
  ·rw [if_neg (by simp [h]),ih]; simp [h]
  ·rw [if_pos h]; simp [h]
theorem M.check_iff (d:Nat) (m:M):M.check d m=0↔M.own d m=0∧∀ x∈m.l,M.check (d+1) x=0:=by
 obtain ⟨k,n,t,e,l⟩:=m
 rw [M.check]
 by_cases h:M.own d (.mk k n t e l)=0
 ·rw [if_neg (by simp [h]),M.checkL_iff]; simp only [h,M.l,true_and]
 ·rw [if_pos h]; simp [h]
end Go.Note
namespace Go.Note
open Go
set_option linter.unusedVariables false
def names:List Bs:=[[110,117,108,108],[98,111,111,108],[117,98,121,116,101],[117,115,104,111,114,116],[117,105,110,116],[117,108,111,110,103],[98,121,116,101],[115,104,111,114,116],[105,110,116],[108,111,110,103],[102,108,111,97,116],[100,111,117,98,108,101],[100,101,99,51,50],[100,101,99,54,52],[100,101,99,49,50,56],[99,104,97,114],[116,105,109,101],[117,117,105,100],[98,105,110,97,114,121],[115,116,114,105,110,103],[115,121,109,98,111,108],[108,105,115,116],[109,97,112],[97,114,114,97,121],[100,101,115,99,114,105,98,101,100]]
inductive Fd (α:Type) where
 | ok (x:α) (fin:Nat)
 | bad (beg:Nat) (e:Nat)
def amiss {α:Type} (t:Tok) (e:Nat):Fd α:=.bad t.beg (if t.kind=5 then 42 else e)
def Tok.is (t:Tok) (c:UInt8):Bool:=decide (t.kind=3) && decide (t.text=[c])
def closes (t:Tok):Bool:=t.is 93 || t.is 125 || t.is 41
def wanted {α:Type} (t:Tok):Fd α:=if t.kind=0∨closes t=true then amiss t 43 else amiss t 40
def digitC (x:UInt8):Bool:=decide (48≤x.toNat) && decide (x.toNat≤57)
def elemsF (rd:Nat→Fd M) (s:Bs) (elem:Option Nat):Nat→Nat→List M→Fd (List M)
 | 0,_,_=>.bad 0 0
 | f+1,at_,acc =>
  let t:=next s at_
  if t.is 93 then .ok acc t.fin
  else match rd at_ with
   | .bad a e=>.bad a e
   | .ok m a=>match elem with
    | none=>elemsF rd s elem f a (acc++[m])
    | some k=>if m.k=(k:Int) then elemsF rd s elem f a (acc++[m]) else amiss t 24
def listed (rd:Nat→Fd M) (s:Bs) (elem:Option Nat) (at_:Nat):Fd M :=
 match elemsF rd s elem (s.length+1) at_ [] with
 | .bad a e=>.bad a e
 | .ok l a=>match elem with
  | none=>.ok (.mk 21 0 [] 0 l) a
  | some k=>.ok (.mk 23 0 [] k l) a
end Go.Note
namespace Go.Note
open Go
set_option linter.unusedVariables false
def Fence (l:Bs):Prop:=∀ x,l.head?=some x→letterC x=false
theorem Fence.nil:Fence []:=fun _ h=>by simp at h
theorem Fence.cons {x:UInt8} {l:Bs} (h:letterC x=false):Fence (x::l):=fun y hy=>by
 simp only [List.head?_cons,Option.some.injEq] at hy
 rw [← hy]; exact h
theorem own_ok {d:Nat} {m:M} (h:m.own d=0):0≤m.k∧m.k<25∧d≤32∧m.extra=false∧m.num=true∧m.txt=true∧(m.k=22→mapOk m.l=true)∧(m.k=23→arrOk m.e m.l=true)∧(m.k=24→m.l.length=2):=by
 unfold M.own at h
 split at h
 ·cases h
 ·split at h
  ·cases h
  ·split at h
   ·cases h
   ·split at h
    ·cases h
    ·split at h
     ·cases h
     ·split at h
      ·cases h
      ·split at h
       ·cases h
       ·split at h
        ·cases h
        ·rename_i h1 h2 h3 h4 h5 h6 h7 h8
         simp only [Bool.not_eq_true,Bool.not_eq_false,not_and,Decidable.not_not] at *
         exact ⟨by omega,by omega,by omega,h3,h4,h5,h6,h7,h8⟩
end Go.Note
namespace Go.Note
open Go
set_option linter.unusedVariables false
inductive M.fits:M→Prop where
 | mk {k:Int} {n:Nat} {t:Bs} {e:Int} {l:List M}:n<18446744073709551616→(∀ x∈l,M.fits x)→M.fits (.mk k n t e l)
end Go.Note
namespace Go.Note
open Go
set_option linter.unusedVariables false
mutual
def M.sz:M→Nat
 | .mk _ _ t _ l=>1+t.length+M.szL l
def M.szL:List M→Nat
 | []=>0
 | x::l=>M.sz x+M.szL l
end
theorem M.szL_sum (l:List M):M.szL l=(l.map M.sz).sum:=by
 induction l with
 | nil=>rfl
 | cons x l ih=>simp [M.szL,ih]
theorem M.sz_mk (k:Int) (n:Nat) (t:Bs) (e:Int) (l:List M):M.sz (.mk k n t e l)=1+t.length+(l.map M.sz).sum:=by
 rw [M.sz,M.szL_sum]
def GoodL (d n:Nat) (l:List M):Prop:=(∀ x∈l,x.check (33-d)=0)∧(∀ x∈l,x.fits)∧(l.map M.sz).sum≤n
theorem GoodL.mono {d n k:Nat} {l:List M} (h:GoodL d n l) (hk:n≤k):GoodL d k l:=⟨h.1,h.2.1,by have:=h.2.2; omega⟩
end Go.Note
namespace Go.Proofs.YtnmlmicmhpkbeaaGreatDoor
open Go Go.Sv Go.Note
set_option linter.unusedVariables false
inductive MV where
 | mk (k:Int) (n:Nat) (t:Bs) (s:SL) (e:Int) (l:List MV)
def MV.k:MV→Int | .mk k _ _ _ _ _=>k
def MV.n:MV→Nat | .mk _ n _ _ _ _=>n
def MV.t:MV→Bs | .mk _ _ t _ _ _=>t
def MV.s:MV→SL | .mk _ _ _ s _ _=>s
def MV.e:MV→Int | .mk _ _ _ _ e _=>e
def MV.l:MV→List MV | .mk _ _ _ _ _ l=>l
theorem MV.k_mk (k:Int) (n:Nat) (t:Bs) (s:SL) (e:Int) (l:List MV):(MV.mk k n t s e l).k=k:=rfl
theorem MV.n_mk (k:Int) (n:Nat) (t:Bs) (s:SL) (e:Int) (l:List MV):(MV.mk k n t s e l).n=n:=rfl
theorem MV.t_mk (k:Int) (n:Nat) (t:Bs) (s:SL) (e:Int) (l:List MV):(MV.mk k n t s e l).t=t:=rfl
theorem MV.s_mk (k:Int) (n:Nat) (t:Bs) (s:SL) (e:Int) (l:List MV):(MV.mk k n t s e l).s=s:=rfl
theorem MV.e_mk (k:Int) (n:Nat) (t:Bs) (s:SL) (e:Int) (l:List MV):(MV.mk k n t s e l).e=e:=rfl
theorem MV.l_mk (k:Int) (n:Nat) (t:Bs) (s:SL) (e:Int) (l:List MV):(MV.mk k n t s e l).l=l:=rfl
abbrev str (t:Bs):ByteArray:=⟨t.toArray⟩
def MV.g:MV→List Value
 | .mk k n t s e _=>[.int .i64 k,.int .u64 (n:Int),.string ⟨t.toArray⟩,.slice s.p s.n s.c,.int .i64 e]
def MV.v (x:MV):Value:=.agg x.g.toArray
mutual
def MV.m:MV→M
 | .mk k n t _ e l=>.mk k n t e (MV.mL l)
def MV.mL:List MV→List M
 | []=>[]
 | x::l=>MV.m x::MV.mL l
end
mutual
def MV.B:MV→List Nat
 | .mk _ _ _ s _ l=>s.own.toList++MV.BL l
def MV.BL:List MV→List Nat
 | []=>[]
 | x::l=>MV.B x++MV.BL l
end
theorem MV.mL_map (l:List MV):MV.mL l=l.map MV.m:=by
 induction l with
 | nil=>rfl
 | cons x l ih=>simp [MV.mL,ih]
theorem MV.BL_flat (l:List MV):MV.BL l=l.flatMap MV.B:=by
 induction l with
 | nil=>rfl
 | cons x l ih=>simp [MV.BL,ih]
theorem MV.m_mk (k:Int) (n:Nat) (t:Bs) (s:SL) (e:Int) (l:List MV):(MV.mk k n t s e l).m=.mk k n t e (l.map MV.m):=by rw [MV.m,MV.mL_map]
theorem MV.B_mk (k:Int) (n:Nat) (t:Bs) (s:SL) (e:Int) (l:List MV):(MV.mk k n t s e l).B=s.own.toList++l.flatMap MV.B:=by rw [MV.B,MV.BL_flat]
theorem MV.glen (x:MV):x.g.length=5:=by cases x; rfl
theorem MV.gone (x:MV):∀ v∈x.g,oneV v=true:=by
 cases x
 intro v hv
 simp only [MV.g,List.mem_cons,List.not_mem_nil,or_false] at hv
 rcases hv with h | h | h | h | h<;>rw [h]<;>rfl
theorem MV.lt_of_mem {k:Int} {n:Nat} {t:Bs} {s:SL} {e:Int} {l:List MV} {x:MV} (h:x∈l):SizeOf.sizeOf x<SizeOf.sizeOf (MV.mk k n t s e l):=by
 have:=List.sizeOf_lt_of_mem h
 simp only [MV.mk.sizeOf_spec]; omega
theorem MV.ind {P:MV→Prop} (h:∀ k n t s e l,(∀ x∈l,P x)→P (.mk k n t s e l)):∀ m,P m
 | .mk k n t s e l=>h k n t s e l fun x hx=>MV.ind h x
termination_by m=>SizeOf.sizeOf m
decreasing_by exact MV.lt_of_mem hx
inductive VR (Q:Nat→Prop) (w:World):MV→Prop where
 | mk {k:Int} {n:Nat} {t:Bs} {s:SL} {e:Int} {l:List MV}:l.length=s.n→s.n≤2^46→Rd w s.p s.n 5 (l.flatMap MV.g)→(∀ a,s.p=some a→s.n*5≠0→Q a.block)→(∀ x∈l,VR Q w x)→VR Q w (.mk k n t s e l)
theorem VR.ch {Q S:Nat→Prop} {w w':World} (hc:Ch S w w') (hn:∀ b,Q b→¬ S b):∀ x:MV,VR Q w x→VR Q w' x:=by
 refine MV.ind fun k n t s e l ih=>?_
 intro h
 cases h with
 | mk h1 h2 h3 h4 h5 =>
  exact .mk h1 h2 (h3.ch hc fun a ha h0=>hn _ (h4 a ha h0)) h4 fun x hx=>ih x hx (h5 x hx)
theorem VR.ch0 {Q:Nat→Prop} {w w':World} (hc:Ch (fun _=>False) w w') {x:MV} (h:VR Q w x):VR Q w' x:=VR.ch hc (fun _ _ h=>h) x h
theorem VR.mono {Q Q':Nat→Prop} {w:World} (hq:∀ b,Q b→Q' b):∀ x:MV,VR Q w x→VR Q' w x:=by
 refine MV.ind fun k n t s e l ih=>?_
 intro h
 cases h with
 | mk h1 h2 h3 h4 h5 =>
  exact .mk h1 h2 h3 (fun a ha h0=>hq _ (h4 a ha h0)) fun x hx=>ih x hx (h5 x hx)
theorem VR.inv {Q:Nat→Prop} {w:World} {x:MV} (h:VR Q w x):x.l.length=x.s.n∧x.s.n≤2^46∧Rd w x.s.p x.s.n 5 (x.l.flatMap MV.g)∧(∀ a,x.s.p=some a→x.s.n*5≠0→Q a.block)∧∀ y∈x.l,VR Q w y:=by
 cases h with
 | mk h1 h2 h3 h4 h5=>exact ⟨h1,h2,h3,h4,h5⟩
theorem VR.lt {Q:Nat→Prop} {w:World}:∀ x:MV,VR Q w x→VR (fun b=>Q b∧b<w.heap.size) w x:=by
 refine MV.ind fun k n t s e l ih=>?_
 intro h
 cases h with
 | mk h1 h2 h3 h4 h5 =>
  exact .mk h1 h2 h3 (fun a ha h0=>⟨h4 a ha h0,h3.lt a ha h0⟩) fun x hx=>ih x hx (h5 x hx)
def At (w:World) (b o:Nat) (x:MV):Prop:=∀ j v,x.g[j]?=some v→w.cell? ⟨b,o+j,none⟩=some v
theorem At.ch {S:Nat→Prop} {w w':World} {b o:Nat} {x:MV} (h:At w b o x) (hc:Ch S w w') (hn:¬ S b):At w' b o x:=fun j v hv=>by
 have h1:=h j v hv
 have hlt:b<w.heap.size:=by
  obtain ⟨cs,h2,_⟩:∃ cs,cellsAt w b=some cs∧cs[o+j]?=some v:=by
   unfold World.cell? at h1
   unfold cellsAt
   simp only at h1
   split at h1
   ·rename_i c t fz hh
    exact ⟨c.toList,by rw [hh],by simpa using h1⟩
   ·cases h1
  exact cells_lt h2
 have e:w'.cell? ⟨b,o+j,none⟩=w.cell? ⟨b,o+j,none⟩:=World.cell?_of_block (a:=⟨b,o+j,none⟩) (hc.keep b hlt hn)
 rw [e]; exact h1
theorem At.blk {w:World} {b:Nat} {x:MV} (h:blk w b=some x.g):At w b 0 x:=fun j v hv=>by rw [cell_blk h,Nat.zero_add]; exact hv
theorem VR.at {Q:Nat→Prop} {w:World} {x y:MV} (h:VR Q w x) {i:Nat} (hi:x.l[i]?=some y):∃ b o,x.s.p=some ⟨b,o,none⟩∧Q b∧At w b (o+i*5) y:=by
 obtain ⟨h1,h2,h3,h4,h5⟩:=h.inv
 obtain ⟨b,o,hp,ha⟩:=h3.at MV.glen hi (by decide)
 have hil:i<x.l.length:=(List.getElem?_eq_some_iff.1 hi).1
 exact ⟨b,o,hp,h4 _ hp (by omega),ha⟩
theorem rd5 {w:World} {b o:Nat} {x:MV} {K:Int→Int→ByteArray→Option Addr→Nat→Nat→Int→Prop} (h:At w b o x) (hk:K x.k (x.n:Int) ⟨x.t.toArray⟩ x.s.p x.s.n x.s.c x.e) :
 ∃ n,w.cell? ⟨b,o+0,none⟩=some (.int .i64 n)∧∃ n1,w.cell? ⟨b,o+1,none⟩=some (.int .u64 n1)∧∃ s,w.cell? ⟨b,o+2,none⟩=some (.string s)∧∃ p n2 c,w.cell? ⟨b,o+3,none⟩=some (.slice p n2 c)∧∃ n3,w.cell? ⟨b,o+4,none⟩=some (.int .i64 n3)∧K n n1 s p n2 c n3:=by
 cases x
 exact ⟨_,h 0 _ rfl,_,h 1 _ rfl,_,h 2 _ rfl,_,_,_,h 3 _ rfl,_,h 4 _ rfl,hk⟩
theorem At.k0 {w:World} {b o:Nat} {x:MV} (h:At w b o x):w.cell? ⟨b,o+0,none⟩=some (.int .i64 x.k):=by cases x; exact h 0 _ rfl
theorem At.n1 {w:World} {b o:Nat} {x:MV} (h:At w b o x):w.cell? ⟨b,o+1,none⟩=some (.int .u64 (x.n:Int)):=by cases x; exact h 1 _ rfl
theorem At.t2 {w:World} {b o:Nat} {x:MV} (h:At w b o x):w.cell? ⟨b,o+2,none⟩=some (.string ⟨x.t.toArray⟩):=by cases x; exact h 2 _ rfl
theorem At.s3 {w:World} {b o:Nat} {x:MV} (h:At w b o x):w.cell? ⟨b,o+3,none⟩=some (.slice x.s.p x.s.n x.s.c):=by cases x; exact h 3 _ rfl
theorem At.e4 {w:World} {b o:Nat} {x:MV} (h:At w b o x):w.cell? ⟨b,o+4,none⟩=some (.int .i64 x.e):=by cases x; exact h 4 _ rfl
theorem vv (x:MV):Value.agg (Array.mk [.int .i64 x.k,.int .u64 (x.n:Int),.string ⟨x.t.toArray⟩,.slice x.s.p x.s.n x.s.c,.int .i64 x.e])=x.v:=by cases x; rfl
theorem boxV {w:World} {x:MV} {t:TypeId} {K:Addr→World→Prop} (hk:∀ w',blk w' w.heap.size=some x.g→At w' w.heap.size 0 x→Ch (fun _=>False) w w'→w'.heap.size=w.heap.size+1→K ⟨w.heap.size,0,none⟩ w'):newB w x.g t K :=
 newB_blk fun w1 b1 c1 z1=>hk w1 b1 (At.blk b1) c1 (by omega)
inductive VO (w:World):MV→Prop where
 | mk {k:Int} {n:Nat} {t:Bs} {s:SL} {e:Int} {l:List MV}:l.length=s.n→s.n≤2^46→Ow w s.p s.n s.c 5 (l.flatMap MV.g) s.own→(∀ x∈l,VO w x)→(s.own.toList++l.flatMap MV.B).Nodup→VO w (.mk k n t s e l)
theorem VO.inv {w:World} {x:MV} (h:VO w x):x.l.length=x.s.n∧x.s.n≤2^46∧Ow w x.s.p x.s.n x.s.c 5 (x.l.flatMap MV.g) x.s.own∧(∀ y∈x.l,VO w y)∧x.B.Nodup:=by
 cases h with
 | mk h1 h2 h3 h4 h5=>exact ⟨h1,h2,h3,h4,by rw [MV.B_mk]; exact h5⟩
theorem VO.ch {S:Nat→Prop} {w w':World} (hc:Ch S w w'):∀ x:MV,VO w x→(∀ b∈x.B,¬ S b)→VO w' x:=by
 refine MV.ind fun k n t s e l ih=>?_
 intro h hn
 rw [MV.B_mk] at hn
 cases h with
 | mk h1 h2 h3 h4 h5 =>
  refine .mk h1 h2 (h3.ch hc fun b hb=>hn b (by simp [hb])) (fun x hx=>ih x hx (h4 x hx) fun b hb=>hn b ?_) h5
  exact List.mem_append.2 (.inr (List.mem_flatMap.2 ⟨x,hx,hb⟩))
theorem VO.lt {w:World}:∀ x:MV,VO w x→∀ b∈x.B,b<w.heap.size:=by
 refine MV.ind fun k n t s e l ih=>?_
 intro h b hb
 rw [MV.B_mk] at hb
 cases h with
 | mk h1 h2 h3 h4 h5 =>
  rcases List.mem_append.1 hb with hb | hb
  ·exact h3.blt b (by simpa [Option.mem_toList] using hb)
  ·obtain ⟨x,hx,hb⟩:=List.mem_flatMap.1 hb
   exact ih x hx (h4 x hx) b hb
def VE:El MV where
 g:=MV.g
 sz:=5
 B:=MV.B
 Ok:=VO
 glen:=MV.glen
 gone:=MV.gone
 ch h hc hn:=VO.ch hc _ h hn
 lt h:=VO.lt _ h
 nd h:=h.inv.2.2.2.2
theorem ow_block {w:World} {p:Option Addr} {n c sz:Nat} {xs:List Value} {b:Option Nat} (h:Ow w p n c sz xs b):∀ a,p=some a→n*sz≠0→b=some a.block:=by
 intro a ha h0
 obtain ⟨_,h2,h3⟩:=h
 rcases h3 with ⟨h3,h4⟩ | ⟨k,o,cs,h3,h4,_⟩
 ·have:n*sz≤c*sz:=Nat.mul_le_mul_right _ h2
  omega
 ·rw [h4] at ha; cases ha; exact h3
theorem VO.vr {w:World}:∀ x:MV,VO w x→∀ Q:Nat→Prop,(∀ b∈x.B,Q b)→VR Q w x:=by
 refine MV.ind fun k n t s e l ih=>?_
 intro h Q hq
 rw [MV.B_mk] at hq
 cases h with
 | mk h1 h2 h3 h4 h5 =>
  refine .mk h1 h2 h3.rd (fun a ha h0=>hq _ ?_) fun x hx=>ih x hx (h4 x hx) Q fun b hb=>hq b ?_
  ·have:=ow_block h3 a ha h0
   simp [this]
  ·exact List.mem_append.2 (.inr (List.mem_flatMap.2 ⟨x,hx,hb⟩))
theorem VO.vr' {w:World} {x:MV} (h:VO w x):VR (·∈x.B) w x:=VO.vr x h _ fun _ h=>h
theorem VO.none {w:World} {k:Int} {n:Nat} {t:Bs} {e:Int}:VO w (.mk k n t ⟨none,0,0,none⟩ e []):=.mk rfl (by decide) (by simpa using Ow.nil) (by simp) (by simp)
end Go.Proofs.YtnmlmicmhpkbeaaGreatDoor
namespace Go.Proofs.YtnmlmicmhpkbeaaGreatDoor
open Go Go.Sv Go.Note
set_option linter.unusedVariables false
attribute [local irreducible] Sif
theorem bs_eq (a b:Bs):((ByteArray.mk a.toArray).toList == (ByteArray.mk b.toArray).toList)=decide (a=b):=by
 rw [ByteArray.toList_eq,ByteArray.toList_eq]
 by_cases h:a=b
 ·subst h; simp
 ·simp [h]
theorem int_bne (a b:Int):(a != b)=!decide (a=b):=by
 by_cases h:a=b<;>simp [h]
theorem mL_eq {a b:List MV}:a.map MV.m=b.map MV.m↔a.length=b.length∧∀ i,i<a.length→∀ x y,a[i]?=some x→b[i]?=some y→x.m=y.m:=by
 constructor
 ·intro h
  have hl:a.length=b.length:=by simpa using congrArg List.length h
  refine ⟨hl,fun i hi x y hx hy=>?_⟩
  have:=congrArg (fun l=>l[i]?) h
  simp only [List.getElem?_map,hx,hy,Option.map_some,Option.some.injEq] at this
  exact this
 ·rintro ⟨hl,h⟩
  apply List.ext_getElem?
  intro i
  simp only [List.getElem?_map]
  by_cases hi:i<a.length
  ·have hx:a[i]?=some a[i]:=List.getElem?_eq_getElem hi
   have hy:b[i]?=some b[i]:=List.getElem?_eq_getElem (by omega)
   rw [hx,hy]
   simp [h i hi _ _ hx hy]
  ·rw [List.getElem?_eq_none (by omega),List.getElem?_eq_none (by omega)]
theorem rEqual_ok {Q Q':Nat→Prop}:∀ (x y:MV) {w:World} {K:Value→World→Prop},VR Q w x→VR Q' w y→(∀ w',Ch (fun _=>False) w w'→K (.bool (decide (x.m=y.m))) w') →
 callP Tryz.prog 22 [x.v,y.v] w K:=by
 refine MV.ind fun k n t s e l ih=>?_
 rintro ⟨k',n',t',s',e',l'⟩ w K hx hy hk
 apply ok_longshoreref02_Equal
 refine boxV (x:=.mk k n t s e l) fun w1 b1 a1 c1 z1=>boxV (x:=.mk k' n' t' s' e' l') fun w2 b2 a2 c2 z2=>?_
 have a1':=a1.ch c2 id
 have c12:=c1.trans' c2
 simp only [add_at]
 rw [MV.m_mk,MV.m_mk] at hk
 have hl1:=hx.inv.1
 have hl2:=hy.inv.1
 have hs1:=hx.inv.2.1
 simp only [MV.l_mk,MV.s_mk] at hl1 hl2 hs1
 have no:¬ (M.mk k n t e (l.map MV.m)=M.mk k' n' t' e' (l'.map MV.m))→K (.bool false) w2:=fun h=>by
  have:=hk w2 c12
  rwa [decide_eq_false h] at this
 refine ⟨fun w3=>w3=w2∧k=k'∧n=n'∧t=t'∧e=e'∧s.n=s'.n,?_,?_⟩
 ·rintro w3 ⟨rfl,rfl,rfl,rfl,rfl,hn⟩
  refine ⟨fun m i w4=>∃ j:Nat,i=(j:Int)∧m=s.n-j∧j≤s.n∧Ch (fun _=>False) w3 w4∧∀ q,q<j→∀ x y,l[q]?=some x→l'[q]?=some y→x.m=y.m,⟨s.n,0,rfl,rfl,Nat.zero_le _,Ch.refl _ _,fun q hq=>by omega⟩,?_⟩
  rintro m i w4 ⟨j,rfl,rfl,hj,c4,hall⟩
  have c34:=c12.trans' c4
  refine ⟨_,_,_,(a1'.ch c4 id).s3,?_⟩
  simp only [MV.s_mk]
  refine Sif_cases (fun h=>?_) (fun h=>?_)
  ·have hjl:j<s.n:=by have:=of_decide_eq_true h; omega
   obtain ⟨x,hxi⟩:∃ x,l[j]?=some x:=⟨l[j]'(by omega),List.getElem?_eq_getElem _⟩
   obtain ⟨y,hyi⟩:∃ y,l'[j]?=some y:=⟨l'[j]'(by omega),List.getElem?_eq_getElem _⟩
   have hX:=hx.ch0 (c34.trans' (Ch.drew _))
   have hY:=hy.ch0 (c34.trans' (Ch.drew _))
   obtain ⟨bx,ox,px,_,ax⟩:=hX.at (i:=j) hxi
   obtain ⟨by',oy,py,_,ay⟩:=hY.at (i:=j) hyi
   simp only [MV.s_mk] at px py
   refine ⟨_,_,_,(a1'.ch (c4.trans' (Ch.drew _)) id).s3,by omega,by simp only [MV.s_mk]; omega,?_⟩
   simp only [MV.s_mk,px]
   show nn (some _) _
   simp only [nn,add_at,Int.toNat_natCast]
   refine rd5 ax ?_
   refine ⟨_,_,_,(a2.ch (c4.trans' (Ch.drew _)) id).s3,by omega,by simp only [MV.s_mk]; omega,?_⟩
   simp only [MV.s_mk,py,add_at,Int.toNat_natCast]
   refine rd5 ay ?_
   have vx:=hX.inv.2.2.2.2 x (List.mem_of_getElem? hxi)
   have vy:=hY.inv.2.2.2.2 y (List.mem_of_getElem? hyi)
   rw [vv x,vv y]
   refine ih x (List.mem_of_getElem? hxi) y vx vy fun w5 c5=>⟨_,rfl,?_⟩
   ·refine Sif_cases (fun h=>?_) (fun h=>?_)
    ·rw [Bool.not_eq_true'] at h
     have h:=of_decide_eq_false h
     have:=hk w5 ((c34.trans' (Ch.drew _)).trans' c5)
     rw [decide_eq_false] at this
     ·exact this
     ·intro he
      simp only [M.mk.injEq] at he
      exact h ((mL_eq.1 he.2.2.2.2).2 j (by omega) x y hxi hyi)
    ·rw [Bool.not_eq_false'] at h
     have hxy:=of_decide_eq_true h
     simp only [nameI]
     rw [wrap_id (n:=(j:Int)+1) (by omega) (by omega)]
     refine ⟨s.n-(j+1),by omega,j+1,by omega,rfl,by omega,(c4.trans' (Ch.drew _)).trans' c5,fun q hq a b ha hb=>?_⟩
     by_cases hqj:q=j
     ·subst hqj
      rw [hxi] at ha; rw [hyi] at hb
      cases ha; cases hb; exact hxy
     ·exact hall q (by omega) a b ha hb
  ·have hjl:j=s.n:=by have:=of_decide_eq_false h; omega
   have:=hk w4 c34
   rw [decide_eq_true] at this
   ·exact this
   ·simp only [M.mk.injEq,true_and]
    exact mL_eq.2 ⟨by omega,fun q hq=>hall q (by omega)⟩
 ·refine ⟨_,a1'.k0,_,a2.k0,?_⟩
  simp only [MV.k_mk,int_bne,Bool.not_not]
  refine Sif_cases (fun hk1=>?_) (fun h=>no fun he=>?_)
  ·have hk1:=of_decide_eq_true hk1
   refine ⟨_,a1'.n1,_,a2.n1,?_⟩
   simp only [MV.n_mk]
   refine Sif_cases (fun hn1=>?_) (fun h=>no fun he=>?_)
   ·have hn1:n=n':=by have:=of_decide_eq_true hn1; omega
    refine ⟨_,a1'.t2,_,a2.t2,?_⟩
    simp only [MV.t_mk]
    rw [bs_eq]
    refine Sif_cases (fun ht1=>?_) (fun h=>no fun he=>?_)
    ·have ht1:t=t':=by simpa using ht1
     refine ⟨_,a1'.e4,_,a2.e4,?_⟩
     simp only [MV.e_mk]
     refine Sif_cases (fun he1=>?_) (fun h=>no fun he=>?_)
     ·have he1:=of_decide_eq_true he1
      refine ⟨_,_,_,a1'.s3,_,_,_,a2.s3,?_⟩
      simp only [MV.s_mk]
      refine Sif_cases (fun h=>no fun he=>?_) (fun h=>?_)
      ·simp only [M.mk.injEq] at he
       have:=(mL_eq.1 he.2.2.2.2).1
       rw [Bool.not_eq_true'] at h
       have h:=of_decide_eq_false h
       omega
      ·have hs1:s.n=s'.n:=by
        rw [Bool.not_eq_false'] at h
        have h:=of_decide_eq_true h
        omega
       exact ⟨by trivial,hk1,hn1,ht1,he1,hs1⟩
     ·simp only [M.mk.injEq] at he
      exact of_decide_eq_false h he.2.2.2.1
    ·simp only [M.mk.injEq] at he
     rw [he.2.2.1] at h; simp at h
   ·simp only [M.mk.injEq] at he
    exact of_decide_eq_false h (by omega)
  ·simp only [M.mk.injEq] at he
   exact of_decide_eq_false h he.1
theorem wt_mk (k:Int) (n:Nat) (t:Bs) (s:SL) (e:Int) (l:List MV):(MV.mk k n t s e l).m.wt=1+t.length / 64+(l.map fun x=>x.m.wt).sum:=by
 rw [MV.m_mk,M.wt_mk,List.map_map]; rfl
theorem sum_take {α:Type} (f:α→Nat) {l:List α} {j:Nat} {y:α} (h:l[j]?=some y):((l.take (j+1)).map f).sum=((l.take j).map f).sum+f y:=by
 rw [List.take_add_one,h]; simp
theorem sum_take_le {α:Type} (f:α→Nat) (l:List α) (j:Nat):((l.take j).map f).sum≤(l.map f).sum:=by
 conv=>rhs; rw [← List.take_append_drop j l]
 rw [List.map_append,List.sum_append]; omega
theorem weigh_ok:∀ (x:MV) {Q:Nat→Prop} {c:Nat} {w:World} {K:Value→World→Prop},VR Q w x→x.m.wt≤2^60→c≤100000→(∀ (d:Nat) w',Ch (fun _=>False) w w'→((x.m.wt+c≤100000∧d=x.m.wt+c)∨(100000<x.m.wt+c∧100000<d))→K (.int .i64 (d:Int)) w') →
 callP Tryz.prog 91 [x.v,.int .i64 (c:Int)] w K:=by
 refine MV.ind fun k n t s e l ih=>?_
 intro Q c w K hx hwt hc hk
 apply ok_longshoreref02_weigh
 refine boxV (x:=.mk k n t s e l) fun w1 b1 a1 c1 z1=>?_
 simp only [add_at]
 rw [wt_mk] at hwt hk
 have hl1:l.length=s.n:=hx.inv.1
 have hs1:s.n≤2^46:=hx.inv.2.1
 have hsum:∀ j,((l.take j).map fun x=>x.m.wt).sum≤(l.map fun x=>x.m.wt).sum:=sum_take_le _ l
 refine ⟨_,a1.t2,by decide,?_⟩
 simp only [MV.t_mk,nameI]
 have hsz:(ByteArray.mk t.toArray).size=t.length:=by simp [ByteArray.size]
 rw [hsz]
 have hdiv:Int.tdiv (t.length:Int) 64=((t.length / 64:Nat):Int):=by
  rw [Int.tdiv_eq_ediv_of_nonneg (by omega)]; rfl
 rw [hdiv,wrap_id (n:=(c:Int)+1) (by omega) (by omega),wrap_id (n:=((t.length / 64:Nat):Int)) (by omega) (by omega),wrap_id (by omega) (by omega)]
 refine ⟨fun m n2 n3 w2=>∃ j d:Nat,n3=(j:Int)∧n2=(d:Int)∧m=s.n-j∧j≤s.n∧Ch (fun _=>False) w1 w2∧((d=c+1+t.length / 64+((l.take j).map fun x=>x.m.wt).sum)∨(100000<d∧100000<c+1+t.length / 64+(l.map fun x=>x.m.wt).sum)),
  ⟨s.n,0,c+1+t.length / 64,rfl,by omega,rfl,Nat.zero_le _,Ch.refl _ _,.inl (by simp)⟩,?_⟩
 rintro m n2 n3 w2 ⟨j,d,rfl,rfl,rfl,hj,c2,hd⟩
 have c12:=c1.trans' c2
 have fin:¬ j<s.n∨100000<d→K (.int .i64 (d:Int)) w2:=by
  intro h
  refine hk d w2 c12 ?_
  have hall:¬ j<s.n→((l.take j).map fun x=>x.m.wt).sum=(l.map fun x=>x.m.wt).sum:=fun h=>by rw [List.take_of_length_le (by omega)]
  have:=hsum j
  rcases h with h | h
  ·have:=hall h; omega
  ·omega
 refine ⟨fun w3=>w3=w2∧j<s.n∧d≤100000,?_,_,_,_,(a1.ch c2 id).s3,?_⟩
 ·rintro w3 ⟨rfl,hjl,hd100⟩
  obtain ⟨x,hxi⟩:∃ x,l[j]?=some x:=⟨l[j]'(by omega),List.getElem?_eq_getElem _⟩
  have hX:=hx.ch0 c12
  obtain ⟨bx,ox,px,_,ax⟩:=hX.at (i:=j) hxi
  simp only [MV.s_mk] at px
  refine ⟨_,_,_,(a1.ch c2 id).s3,by omega,by simp only [MV.s_mk]; omega,?_⟩
  simp only [MV.s_mk,px,nn,add_at,Int.toNat_natCast]
  refine rd5 ax ?_
  have hsx:=sum_take (fun x:MV=>x.m.wt) hxi
  have hs2:=hsum (j+1)
  rw [vv x]
  refine ih x (List.mem_of_getElem? hxi) (hX.inv.2.2.2.2 x (List.mem_of_getElem? hxi)) (by omega) hd100 fun d' w4 c4 hd'=>⟨_,rfl,?_⟩
  rw [wrap_id (n:=(j:Int)+1) (by omega) (by omega)]
  refine ⟨s.n-(j+1),by omega,j+1,d',by omega,rfl,rfl,by omega,c2.trans' c4,?_⟩
  omega
 ·simp only [MV.s_mk]
  refine Sif_cases (fun h=>?_) (fun h=>fin (.inl (by have:=of_decide_eq_false h; omega)))
  have h:=of_decide_eq_true h
  refine Sif_cases (fun h2=>⟨by trivial,by omega,by have:=of_decide_eq_true h2; omega⟩) (fun h2=>fin (.inr (by have:=of_decide_eq_false h2; omega)))
theorem Great_ok {x:MV} {Q:Nat→Prop} {w:World} {K:Value→World→Prop} (hx:VR Q w x) (hwt:x.m.wt≤2^60) (hk:∀ w',Ch (fun _=>False) w w'→K (.bool (decide (100000<x.m.wt))) w') :
 callP Tryz.prog 61 [x.v] w K:=by
 obtain ⟨k,n,t,s,e,l⟩:=x
 apply ok_longshoreref02_Great
 refine boxV (x:=.mk k n t s e l) fun w1 b1 a1 c1 z1=>?_
 simp only [add_at]
 refine rd5 a1 ?_
 rw [vv]
 refine weigh_ok _ (c:=0) (hx.ch0 c1) hwt (by omega) fun d w2 c2 hd=>⟨_,rfl,?_⟩
 have:=hk w2 (c1.trans' c2)
 have e:decide ((d:Int)>100000)=decide (100000<(MV.mk k n t s e l).m.wt):=by
  apply decide_eq_decide.2
  omega
 rw [e]; exact this
end Go.Proofs.YtnmlmicmhpkbeaaGreatDoor
namespace Go.Proofs.YtnmlmicmhpkbeaaGreatDoor
open Go Go.Sv Go.RowKit
set_option linter.unusedVariables false
def TB:TypeId:=68
def TPr:TypeId:=70
def BAt (w:World) (T:TypeId) (b:Nat) (l:List UInt8) (g:Option Nat):Prop :=
 ∃ p v,w.heap[b]?=some (.cells #[.pointer p,v] T (0,0))∧(p=none∨p=some ⟨b,0,none⟩)∧w.ownsRow 0 5 1 v l.length (bytesV l)∧v.ownBlock=g∧g≠some b∧(l=[]→v=.slice none 0 0)
def BT (T:TypeId):Prop:=T=TB∨T=TPr
theorem uBytes:Tryz.prog.underlying 66=some (.slice 5):=by kernel_rfl
theorem uString:Tryz.prog.underlying 9=some .string:=by kernel_rfl
theorem iByte:(Tryz.prog.info? 5).map (fun i=>(i.zero,i.size,i.bytes))=some (some (.int .u8 0),1,1):=by kernel_rfl
theorem grown_ch {w w':World} {row:Option Nat} (h:w.grownBy w' row):Ch (fun k=>row=some k) w w' :=
 ⟨h.os,h.tape,h.output,h.size,fun b hb hn=>h.block b hb fun e=>hn e.symm⟩
theorem ch_grown {w w':World} {S:Nat→Prop} (h:Ch S w w') {row:Option Nat} (hs:∀ k,k<w.heap.size→S k→row=some k):w.grownBy w' row :=
 ⟨h.os,h.tape,h.output,h.size,fun k hk hn=>h.keep k hk fun hS=>hn (hs k hk hS).symm⟩
theorem BAt.lt {w:World} {T:TypeId} {b:Nat} {l:List UInt8} {g:Option Nat} (h:BAt w T b l g):b<w.heap.size:=by
 obtain ⟨p,v,h1,_⟩:=h; exact lt_of_heap h1
theorem BAt.glt {w:World} {T:TypeId} {b:Nat} {l:List UInt8} {g:Option Nat} (h:BAt w T b l g):∀ k,g=some k→k<w.heap.size:=by
 obtain ⟨p,v,_,_,h3,h4,_⟩:=h
 intro k hk
 exact (h3.lt k (h4.trans hk)).2
theorem BAt.ch {w w':World} {T:TypeId} {b:Nat} {l:List UInt8} {g:Option Nat} {S:Nat→Prop} (h:BAt w T b l g) (hc:Ch S w w') (hb:¬ S b) (hg:∀ k,g=some k→¬ S k):BAt w' T b l g:=by
 have hl:=h.lt
 have hgl:=h.glt
 obtain ⟨p,v,h1,h2,h3,h4,h5,h6⟩:=h
 refine ⟨p,v,by rw [hc.keep b hl hb]; exact h1,h2,?_,h4,h5,h6⟩
 refine ⟨h3.1,?_⟩
 rcases h3.2 with hn | ⟨g',cap,cur,rfl,hb',hgg,rest⟩
 ·exact .inl hn
 ·have e:g=some g':=by rw [← h4]; rfl
  exact .inr ⟨g',cap,cur,rfl,hb',by rw [hc.keep g' (lt_of_heap hgg) (hg g' e)]; exact hgg,rest⟩
theorem BAt.new {w:World} {T:TypeId}:BAt (w.alloc (.cells #[.pointer none,.slice none 0 0] T)) T w.heap.size [] none :=
 ⟨none,.slice none 0 0,heap_alloc_new w _,.inl rfl,World.ownsRow_nil _ _ _ _,rfl,by simp,fun _=>rfl⟩
theorem heap_cell {w:World} {b:Nat} {x y:Value} {T:TypeId} {fz:Nat × Nat} (h:w.heap[b]?=some (.cells #[x,y] T fz)):w.cell? ⟨b,0,none⟩=some x∧w.cell? ⟨b,1,none⟩=some y:=by
 constructor<;>simp [World.cell?,h]
theorem heap_blk {w:World} {b:Nat} {x y:Value} {T:TypeId} (h:w.heap[b]?=some (.cells #[x,y] T (0,0))):blk w b=some [x,y]:=by
 simp [blk,h]
theorem st_two {w:World} {b:Nat} {x y v:Value} {T:TypeId} (h:w.heap[b]?=some (.cells #[x,y] T (0,0))) {K:World→Prop} (i:Nat) (hi:i<2)
 (hk:∀ w',w'.heap[b]?=some (.cells (#[x,y].setIfInBounds i v) T (0,0))→Ch (·=b) w w'→w'.heap.size=w.heap.size→K w'):Sv.st w ⟨b,i,none⟩ v K:=by
 refine ⟨?_,frozen_blk (heap_blk h) (by simpa using hi),hk _ ?_ (setCell_ch w b i v) (by simp)⟩
 ·rw [cell_blk (heap_blk h)]
  match i,hi with
  | 0,_=>rfl
  | 1,_=>rfl
 ·simp only [World.setCell,Array.getElem?_modify,if_true,h,Option.map_some]
  have hi2:i<#[x,y].size:=by simpa using hi
  congr 2
theorem BAt.keep {w w':World} {T:TypeId} {b:Nat} {l:List UInt8} {g:Option Nat} {p:Option Addr} {v:Value} (h3:w.ownsRow 0 5 1 v l.length (bytesV l)) (h4:v.ownBlock=g) (h5:g≠some b) (h6:l=[]→v=.slice none 0 0)
 (hp:p=none∨p=some ⟨b,0,none⟩) (hc:Ch (·=b) w w') (hb:w'.heap[b]?=some (.cells #[.pointer p,v] T (0,0))):BAt w' T b l g :=
 ⟨p,v,hb,hp,h3.kept (ch_grown hc (row:=some b) fun k _ hk=>by rw [hk]) (.inr (by rw [h4]; exact h5)),h4,h5,h6⟩
theorem copyCheck_ok {w:World} {T:TypeId} {b:Nat} {l:List UInt8} {g:Option Nat} (hB:BAt w T b l g) (hT:BT T) {K:Value→World→Prop}
 (hk:∀ w',BAt w' T b l g→Ch (·=b) w w'→w'.heap.size=w.heap.size→K (.tuple #[]) w'):callP Tryz.prog 170 [.pointer (some ⟨b,0,none⟩)] w K:=by
 apply ok_strings_Builder_copyCheck
 have hB':=hB
 obtain ⟨p,v,h1,h2,h3,h4,h5,h6⟩:=hB
 obtain ⟨c0,c1⟩:=heap_cell h1
 have hsh:w.shape? b=some (T,2):=by simp [World.shape?,h1]
 refine ⟨p,by simpa [Addr.add] using c0,?_⟩
 have hptr:Tryz.prog.underlying 65=some (.pointer 68):=by kernel_rfl
 have hun:Tryz.prog.underlying 217=some .unsafePointer:=by kernel_rfl
 obtain ⟨j,hj,hjs⟩:=Option.map_eq_some_iff.1 (show (Tryz.prog.info? 68).map (·.size)=some 2 by kernel_rfl)
 rcases h2 with rfl | rfl
 ·refine Sif_true ?_
  have hlies:liesAt Tryz.prog Tryz.prog.depth T (2 / Tryz.prog.cellsOf T) 0 68 1=true:=by
   rcases hT with rfl | rfl<;>kernel_rfl
  refine ⟨_,Lib.run_to_unsafe w ⟨b,0,none⟩ hptr hun hj (by omega) hsh (by show 0<2; omega),?_⟩
  refine ⟨.pointer (some ⟨b,0,none⟩),w,?_,?_⟩
  ·rw [run_callFunc_extern Tryz.func207 (by kernel_rfl) (by kernel_rfl) (by kernel_rfl) (e:=Extern.AbiNoEscape.same) (by kernel_rfl),Lib.run_noEscape]
   rfl
  refine ⟨_,rfl,_,Lib.run_from_unsafe w ⟨b,0,none⟩ hun hptr hj hsh hlies,?_⟩
  simp only [nn,add_at]
  refine st_two h1 0 (by decide) fun w' b' c' z'=>hk w' ?_ c' z'
  exact BAt.keep h3 h4 h5 h6 (.inr rfl) c' (by simpa using b')
 ·refine Sif_false ?_
  refine ⟨_,by simpa [Addr.add] using c0,?_⟩
  refine ⟨false,?_,Sif_false (hk w hB' (Ch.refl _ _) rfl)⟩
  intro x y
  have e:=Lib.run_neq_ptr_same (P:=Tryz.prog) w ⟨b,0,none⟩ hptr hj
  simp only [Sem.run_bind,eqGuard_at_pointer,Sem.run_pure,Result.andThen_ok]
  exact e
def BW (w w':World) (T:TypeId) (b:Nat) (l:List UInt8) (g:Option Nat):Prop :=
 ∃ g',BAt w' T b l g'∧(∀ k,g'=some k→g=some k∨w.heap.size≤k)∧Ch (fun k=>k=b∨g=some k) w w'
theorem ow_of {w:World} {v:Value} {n:Nat} {xs:List Value} (h:w.ownsRow 0 5 1 v n xs):∃ p c,v=.slice p n c∧Ow w p n c 1 xs v.ownBlock:=by
 obtain ⟨h1,h2⟩:=h
 rcases h2 with ⟨rfl,rfl⟩ | ⟨g,cap,cur,rfl,_,hg,hn,_,hs,ht⟩
 ·exact ⟨none,0,rfl,h1,Nat.le_refl _,.inl ⟨rfl,rfl⟩⟩
 ·refine ⟨some ⟨g,0,none⟩,cap,rfl,h1,hn,.inr ⟨g,0,cur.toList,rfl,rfl,?_,by simp [hs],by simpa using ht⟩⟩
  simp [blk,hg]
theorem append_own {w:World} {v:Value} {n:Nat} {xs:List Value} (hown:w.ownsRow 0 5 1 v n xs) {T2:TypeId} {x:Value} {m:Nat} {ys:List Value} (hs:Src Tryz.prog 1 T2 x m ys w) (h1:n+m≤2^47) {ty:TypeId}
 (hkit:∃ v' w',(Builtin.append_ #[66,T2] ty #[v,x]).run Tryz.prog w=.ok v' w'∧w'.ownsRow 0 5 1 v' (n+m) (xs++ys)∧w.grownBy w' v.ownBlock∧(v'=.slice none 0 0↔v=.slice none 0 0∧m=0)) :
 ∃ p' c' w',(Builtin.append_ #[66,T2] ty #[v,x]).run Tryz.prog w=.ok (.slice p' (n+m) c') w'∧w'.ownsRow 0 5 1 (.slice p' (n+m) c') (n+m) (xs++ys)∧w.grownBy w' v.ownBlock∧(∀ k,(Value.slice p' (n+m) c').ownBlock=some k→v.ownBlock=some k∨w.heap.size≤k)∧(Value.slice p' (n+m) c'=.slice none 0 0↔v=.slice none 0 0∧m=0):=by
 obtain ⟨v',w',r1,r2,r3,r4⟩:=hkit
 obtain ⟨p,c,rfl,ho⟩:=ow_of hown
 obtain ⟨inf,hi,hi2⟩:=Option.map_eq_some_iff.1 iByte
 simp only [Prod.mk.injEq] at hi2
 obtain ⟨hz,hsz,hby⟩:=hi2
 obtain ⟨p',c',w2,b',q1,q2,q3⟩:=append_run (ty:=ty) uBytes hi hz (by rw [hsz]; rfl) (by rw [hsz]; exact ho) (by rw [hsz]; exact hs) h1 (by rw [hby]; omega)
 rw [r1] at q1
 injection q1 with e1 e2
 subst e1; subst e2
 refine ⟨p',c',w',r1,r2,r3,fun k hk=>?_,r4⟩
 rcases q3 with ⟨_,_,_,rfl,_⟩ | ⟨_,_,rfl,_⟩
 ·left
  cases p' with
  | none=>cases hk
  | some a=>exact hk
 ·right
  simp only [Value.ownBlock,Option.some.injEq] at hk
  omega
theorem append_slice {w:World} {v:Value} {n:Nat} {xs:List Value} (hown:w.ownsRow 0 5 1 v n xs) {b m c:Nat} {ys:List Value} (hb:blk w b=some ys) (hm:ys.length=m) (hone:∀ u∈ys,oneV u=true) (h1:n+m≤2^46) {ty:TypeId} :
 ∃ p' c' w',(Builtin.append_ #[66,66] ty #[v,.slice (some ⟨b,0,none⟩) m c]).run Tryz.prog w=.ok (.slice p' (n+m) c') w'∧w'.ownsRow 0 5 1 (.slice p' (n+m) c') (n+m) (xs++ys)∧w.grownBy w' v.ownBlock∧(∀ k,(Value.slice p' (n+m) c').ownBlock=some k→v.ownBlock=some k∨w.heap.size≤k)∧(Value.slice p' (n+m) c'=.slice none 0 0↔v=.slice none 0 0∧m=0):=by
 obtain ⟨inf,hi,hi2⟩:=Option.map_eq_some_iff.1 iByte
 simp only [Prod.mk.injEq] at hi2
 obtain ⟨hz,hsz,hby⟩:=hi2
 refine append_own hown (Src.of_rd uBytes ⟨by omega,.inr ⟨b,0,ys,rfl,blk_cells hb,by omega,by rw [List.drop_zero,List.take_of_length_le (by omega)]⟩⟩ hone) (by omega) ?_
 obtain ⟨v',w',r1,r2,r3,r4⟩:=run_append_own (P:=Tryz.prog) w 0 66 ty 5 inf (.int .u8 0) 1 1 uBytes hi hz hsz hby rfl (by omega) v n xs hown ⟨b,0,none⟩ m c ys (by omega)
  (fun j u hj=>by rw [add_at,Nat.zero_add,cell_blk hb]; exact hj) (fun u hu=>by rw [oneCell_of]; exact hone u hu) (by unfold maxLen; omega) (by omega) (by omega)
 exact ⟨v',w',r1,r2,r3,r4⟩
theorem append_str {w:World} {v:Value} {n:Nat} {xs:List Value} (hown:w.ownsRow 0 5 1 v n xs) (s:ByteArray) (h1:n+s.size≤2^46) {ty:TypeId} :
 ∃ p' c' w',(Builtin.append_ #[66,9] ty #[v,.string s]).run Tryz.prog w=.ok (.slice p' (n+s.size) c') w'∧w'.ownsRow 0 5 1 (.slice p' (n+s.size) c') (n+s.size) (xs++bytesV s.data.toList)∧w.grownBy w' v.ownBlock∧(∀ k,(Value.slice p' (n+s.size) c').ownBlock=some k→v.ownBlock=some k∨w.heap.size≤k)∧(Value.slice p' (n+s.size) c'=.slice none 0 0↔v=.slice none 0 0∧s.size=0):=by
 obtain ⟨inf,hi,hi2⟩:=Option.map_eq_some_iff.1 iByte
 simp only [Prod.mk.injEq] at hi2
 obtain ⟨hz,hsz,hby⟩:=hi2
 refine append_own hown (Src.ofString (w:=w) uString s) (by omega) ?_
 obtain ⟨v',w',r1,r2,r3,r4⟩:=Lib.run_append_own_string (P:=Tryz.prog) w 0 66 9 ty 5 inf uBytes uString hi hz hsz hby v n xs hown s (by unfold maxLen; omega) (by omega) (by omega)
 exact ⟨v',w',r1,r2,r3,r4⟩
theorem write_fin {w w1 w2 w3:World} {T:TypeId} {b:Nat} {l':List UInt8} {g:Option Nat} {p:Option Addr} {v v':Value} (hb:b<w.heap.size) (hgl:∀ k,g=some k→k<w.heap.size)
 (h1:w1.heap[b]?=some (.cells #[.pointer p,v] T (0,0))) (hp:p=none∨p=some ⟨b,0,none⟩) (hv:v.ownBlock=g) (hg:g≠some b) (c1:Ch (·=b) w w1) (c2:Ch (fun _=>False) w1 w2) (g3:w2.grownBy w3 v.ownBlock)
 (ho:w3.ownsRow 0 5 1 v' l'.length (bytesV l')) (hv':∀ k,v'.ownBlock=some k→v.ownBlock=some k∨w2.heap.size≤k) (h6:l'=[]→v'=.slice none 0 0) {K:World→Prop} (hk:∀ w',BW w w' T b l' g→K w'):Sv.st w3 ⟨b,1,none⟩ v' K:=by
 have hb1:b<w1.heap.size:=lt_of_heap h1
 have h3:w3.heap[b]?=some (.cells #[.pointer p,v] T (0,0)):=by
  rw [g3.block b (Nat.lt_of_lt_of_le hb1 c2.size) (by rw [hv]; exact hg.symm),c2.keep b hb1 (fun h=>h)]
  exact h1
 refine st_two h3 1 (by decide) fun w4 b4 c4 z4=>hk w4 ?_
 have hne:v'.ownBlock≠some b:=fun e=>by
  rcases hv' b e with h | h
  ·exact hg (hv.symm.trans h)
  ·have:=c2.size; omega
 have hsz:w.heap.size≤w2.heap.size:=Nat.le_trans c1.size c2.size
 refine ⟨v'.ownBlock,BAt.keep ho rfl hne h6 hp c4 (by simpa using b4),fun k hk=>(hv' k hk).imp (fun h=>hv.symm.trans h) fun h=>by omega,?_⟩
 refine ((((c1.mono fun _ _ h=>Or.inl h).trans' (c2.mono fun _ _ h=>h.elim)).trans' ((grown_ch g3).mono fun _ _ h=>Or.inr (by rw [← hv]; exact h))).trans' (c4.mono fun _ _ h=>Or.inl h))
theorem WriteByte_ok {w:World} {T:TypeId} {b:Nat} {l:List UInt8} {g:Option Nat} (hB:BAt w T b l g) (hT:BT T) (c:UInt8) (hl:l.length+1≤2^46) {K:Value→World→Prop}
 (hk:∀ w',BW w w' T b (l++[c]) g→K .nilIface w'):callP Tryz.prog 159 [.pointer (some ⟨b,0,none⟩),.int .u8 (c.toNat:Int)] w K:=by
 apply ok_strings_Builder_WriteByte
 refine copyCheck_ok hB hT fun w1 B1 c1 z1=>⟨rfl,?_⟩
 have hlt:=hB.lt
 have hgl:=hB.glt
 obtain ⟨p,v,h1,h2,h3,h4,h5,h6⟩:=B1
 obtain ⟨d0,d1⟩:=heap_cell h1
 simp only [nn,add_at]
 obtain ⟨q,cq,rfl,_⟩:=ow_of h3
 refine ⟨q,_,cq,d1,?_⟩
 refine newB_blk fun w2 b2 c2 z2=>?_
 have h3':=h3.kept (ch_grown c2 (row:=none) fun _ _ h=>h.elim) (by cases hv:(Value.slice q l.length cq).ownBlock<;>simp)
 obtain ⟨p',c',w3,r1,r2,r3,r4,r5⟩:=append_slice (ty:=66) (c:=1) h3' b2 rfl (by intro u hu; simp only [List.mem_singleton] at hu; subst hu; rfl) (by simpa using hl)
 refine ⟨p',_,c',w3,r1,?_⟩
 refine write_fin (l':=l++[c]) hlt hgl h1 h2 h4 h5 c1 c2 r3 ?_ r4 (fun h=>by simp at h) hk
 rw [List.length_append,bytesV_append]
 exact r2
theorem WriteString_ok {w:World} {T:TypeId} {b:Nat} {l:List UInt8} {g:Option Nat} (hB:BAt w T b l g) (hT:BT T) (s:ByteArray) (hl:l.length+s.size≤2^46) {K:Value→World→Prop}
 (hk:∀ w',BW w w' T b (l++s.data.toList) g→K (.tuple #[.int .i64 (s.size:Int),.nilIface]) w'):callP Tryz.prog 126 [.pointer (some ⟨b,0,none⟩),.string s] w K:=by
 apply ok_strings_Builder_WriteString
 refine copyCheck_ok hB hT fun w1 B1 c1 z1=>⟨rfl,?_⟩
 have hlt:=hB.lt
 have hgl:=hB.glt
 obtain ⟨p,v,h1,h2,h3,h4,h5,h6⟩:=B1
 obtain ⟨d0,d1⟩:=heap_cell h1
 simp only [nn,add_at]
 obtain ⟨q,cq,rfl,_⟩:=ow_of h3
 refine ⟨q,_,cq,d1,?_⟩
 obtain ⟨p',c',w3,r1,r2,r3,r4,r5⟩:=append_str (ty:=66) h3 s hl
 refine ⟨p',_,c',w3,r1,?_⟩
 refine write_fin (l':=l++s.data.toList) hlt hgl h1 h2 h4 h5 c1 (Ch.refl _ _) r3 ?_ r4 (fun h=>by
  obtain ⟨e1,e2⟩:=List.append_eq_nil_iff.1 h
  exact r5.2 ⟨h6 e1,by have:=congrArg List.length e2; simpa using this⟩) fun w' hw=>by simpa only [nameI] using hk w' hw
 rw [List.length_append,bytesV_append,Array.length_toList]
 exact r2
theorem wrap_u8 (x:Nat):IntKind.wrap .u8 (x:Int)=((x%256:Nat):Int):=by
 unfold IntKind.wrap
 simp [IntKind.bits,IntKind.signed]
attribute [local irreducible] Sif
theorem Len_ok {w:World} {T:TypeId} {b:Nat} {l:List UInt8} {g:Option Nat} (hB:BAt w T b l g) {K:Value→World→Prop}
 (hk:K (.int .i64 (l.length:Int)) w):callP Tryz.prog 39 [.pointer (some ⟨b,0,none⟩)] w K:=by
 apply ok_strings_Builder_Len
 obtain ⟨p,v,h1,h2,h3,h4,h5,h6⟩:=hB
 obtain ⟨d0,d1⟩:=heap_cell h1
 obtain ⟨q,cq,rfl,_⟩:=ow_of h3
 simp only [nn,add_at]
 exact ⟨q,_,cq,d1,hk⟩
theorem String_ok {w:World} {T:TypeId} {b:Nat} {l:List UInt8} {g:Option Nat} (hB:BAt w T b l g) (hl:l.length≤2^46) {K:Value→World→Prop}
 (hk:∀ w',Ch (fun k=>g=some k) w w'→K (.string ⟨l.toArray⟩) w'):callP Tryz.prog 40 [.pointer (some ⟨b,0,none⟩)] w K:=by
 apply ok_strings_Builder_String
 obtain ⟨p,v,h1,h2,h3,h4,h5,h6⟩:=hB
 obtain ⟨d0,d1⟩:=heap_cell h1
 simp only [nn,add_at]
 by_cases hl0:l=[]
 ·have hv:=h6 hl0
  subst hv hl0
  refine ⟨none,0,0,d1,none,rfl,none,0,0,d1,ByteArray.mk #[],w.drew,rfl,?_⟩
  exact hk w.drew (Ch.drew w)
 ·rcases h3.2 with ⟨rfl,hl1⟩ | ⟨g',cap,cur,rfl,_,hg,hn,hcm,hs,ht⟩
  ·exact absurd (List.eq_nil_of_length_eq_zero hl1) hl0
  ·have hpos:0<l.length:=List.length_pos_iff.2 hl0
   refine ⟨some ⟨g',0,none⟩,_,cap,d1,?_⟩
   refine ⟨_,Lib.run_unsafeSliceData_row _ _ _ _ _ _ (by omega),_,_,_,d1,?_⟩
   have hg':w.drew.heap[g']?=some (.cells cur 5 (0,0)):=hg
   have hUS:=Lib.run_unsafeString_row (P:=Tryz.prog) w.drew 114 3 9 5 (by kernel_rfl) (by kernel_rfl) g' cur.size (by unfold World.shape?; rw [hg']) l hl0 (by omega) (by omega)
    (fun j x hx=>by
      have:=h3.cells (g:=g') rfl j (.int .u8 x.toNat) (by simp [bytesV,hx])
      exact this)
   refine ⟨_,_,hUS,hk _ ?_⟩
   have:g=some g':=by rw [← h4]; rfl
   subst this
   unfold World.freeze
   split
   ·exact (Ch.drew w)
   ·refine ⟨rfl,rfl,rfl,by simp,fun b hb hn=>?_⟩
    simp only [Array.getElem?_modify]
    rw [if_neg (fun e=>hn (congrArg some e))]
    rfl
end Go.Proofs.YtnmlmicmhpkbeaaGreatDoor
namespace Go.Proofs.YtnmlmicmhpkbeaaGreatDoor
open Go Go.Sv Go.RowKit Go.Note
set_option linter.unusedVariables false
theorem BW.trans {w w1 w2:World} {T:TypeId} {b:Nat} {l2:List UInt8} {g g1:Option Nat} (h0:b<w.heap.size) (c1:Ch (fun k=>k=b∨g=some k) w w1) (hg1:∀ k,g1=some k→g=some k∨w.heap.size≤k) (h2:BW w1 w2 T b l2 g1):BW w w2 T b l2 g:=by
 obtain ⟨g2,B2,n2,c2⟩:=h2
 refine ⟨g2,B2,fun k hk=>?_,c1.trans c2 fun x hx hs=>?_⟩
 ·rcases n2 k hk with h | h
  ·exact hg1 k h
  ·exact .inr (Nat.le_trans c1.size h)
 ·rcases hs with h | h
  ·exact .inl h
  ·rcases hg1 x h with h | h
   ·exact .inr h
   ·omega
attribute [local irreducible] Sif
end Go.Proofs.YtnmlmicmhpkbeaaGreatDoor
