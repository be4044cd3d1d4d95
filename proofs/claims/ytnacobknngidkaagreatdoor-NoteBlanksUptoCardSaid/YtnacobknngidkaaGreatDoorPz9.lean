/-
  DERIVED: THE SHELF's CONTRACTS AT THIS DUMP, IN PLAIN WORDS (tools/lay-plain.mjs out of 'YtnacobknngidkaaGreatDoorShelf.lean', which tools/lay-shelf.mjs wrote): THE SAME DECLARATIONS UNDER THE SAME NAMES: 'import', 'namespace', 'open', 'def', 'theorem' AND NOTHING ELSE: no command of the shelf's: FOR A HAND-IN. Each laying: the table of numbers ('.._ren') and one theorem, a field a fact of the dump's own or the kernel's comparison; each contract: ONE APPLICATION. note.Quote: any bytes as a word in quotes. The document's characters (longshoreref01): what its functions answer.
-/
import Derived.Test.YtnacobknngidkaaGreatDoorPz8
import Derived.Shelf.Strings.Builder1
import Derived.Shelf.Strings.Trim
import Derived.Shelf.Small.Utf8
import Derived.Shelf.Small.Strs
import Derived.Shelf.Small.Wraps
import Derived.Shelf.Strings.BuilderF
import Derived.Shelf.Strings.BuilderK
import Derived.Shelf.Strings.BuilderRune
import Derived.Shelf.Utf8.AppendRunePlain
import Derived.Shelf.Strconv.Itoa0
import Derived.Shelf.Strconv.Itoa1
import Derived.Shelf.LaysM
import Derived.Shelf.Strconv.Itoa2
import Derived.Shelf.Strconv.Itoa3
import Derived.Shelf.Strconv.Itoa4
import Derived.Shelf.Strconv.ParseIntEmpty
import Derived.Shelf.Strconv.Clone
import Derived.Shelf.Strconv.SyntaxError
import Derived.Shelf.LaysC
import Derived.Shelf.Strconv.ToError
import Derived.Shelf.Strconv.Lower
import Derived.Shelf.Strconv.ParseUint10
import Derived.Shelf.Strconv.ParseUint10Empty
import Derived.Shelf.Strconv.ParseUint10Any
import Derived.Shelf.Strconv.ParseInt10
import Derived.Shelf.Strconv.RangeError
import Derived.Shelf.Strconv.ToErrorRange
import Derived.Shelf.Strconv.ParseUintEmpty
import Derived.Shelf.Strconv.ParseUint10b64
import Derived.Shelf.Strconv.ParseUint10b32
import Derived.Shelf.Strconv.ParseUint10b16
import Derived.Shelf.Strconv.ParseUint10b8
import Derived.Shelf.Strconv.ParseUint10At
import Derived.Shelf.Strconv.ParseInt10At64
import Derived.Shelf.Strconv.ParseInt10At32
import Derived.Shelf.Strconv.ParseInt10At16
import Derived.Shelf.Strconv.ParseInt10At8
import Derived.Shelf.Strconv.ParseInt10All
import Derived.Shelf.Strconv.ParseIntPublic10
import Derived.Shelf.Strconv.ErrVarParseInt
import Derived.Ground.MpProg
import Derived.Shelf.Pu.ParseUintPublic10
import Derived.Shelf.Pu.ErrVarParseUint
import Derived.Shelf.Strings.Search1
import Derived.Shelf.Strings.Prefix
import Derived.Shelf.Strings.Runes
import Derived.Shelf.Strings.AsciiSet
import Derived.Shelf.Unicode.DecodeSlow
import Derived.Shelf.Unicode.DecodeAny
import Derived.Shelf.Strings.BuilderCap
import Derived.Test.YtnacobknngidkaaGreatDoorProg
import Derived.Lib.OthersKept
import Derived.Laws.IdiomStrings
import Derived.Laws.RangeString
set_option linter.unusedVariables false
set_option linter.unusedSimpArgs false
namespace Go.Proofs
open Go.Shelf
def Tryz.lays118_ren : Go.Shelf.Ren := ⟨fun | 118 => 51 | n => n, fun | 21 => 21 | 3 => 3 | 4 => 4 | n => n, fun | n => n⟩
theorem Tryz.lays118 : Go.Proofs.Lays.n118 Tryz.prog Tryz.lays118_ren := {
  mixed := by kernel_rfl
  f118 := Tryz.func51.trans (congrArg some (by kernel_rfl))
  t3 := Tryz.underlying3
  a3 := Tryz.isAgg3
  z3 := Tryz.sizeOf3
  v3 := Tryz.zeroValue3
  t4 := Tryz.underlying4
  a4 := Tryz.isAgg4
  z4 := Tryz.sizeOf4
  v4 := Tryz.zeroValue4
  t21 := Tryz.underlying21
  a21 := Tryz.isAgg21
  z21 := Tryz.sizeOf21
  v21 := Tryz.zeroValue21 }
def Tryz.lays119_ren : Go.Shelf.Ren := ⟨fun | 119 => 120 | n => n, fun | 21 => 21 | 4 => 4 | n => n, fun | n => n⟩
theorem Tryz.lays119 : Go.Proofs.Lays.n119 Tryz.prog Tryz.lays119_ren := {
  mixed := by kernel_rfl
  f119 := Tryz.func120.trans (congrArg some (by kernel_rfl))
  t4 := Tryz.underlying4
  a4 := Tryz.isAgg4
  z4 := Tryz.sizeOf4
  v4 := Tryz.zeroValue4
  t21 := Tryz.underlying21
  a21 := Tryz.isAgg21
  z21 := Tryz.sizeOf21
  v21 := Tryz.zeroValue21 }
def Tryz.lays106_ren : Go.Shelf.Ren := ⟨fun | 106 => 170 | 213 => 203 | 265 => 223 | n => n, fun | 9 => 9 | 3 => 3 | n => n, fun | n => n⟩
theorem Tryz.lays106 : Go.Proofs.Lays.n106 Tryz.prog Tryz.lays106_ren := {
  mixed := by kernel_rfl
  f106 := Tryz.func170.trans (congrArg some (by kernel_rfl))
  f213 := Tryz.func203.trans (congrArg some (by kernel_rfl))
  f265 := Tryz.func223.trans (congrArg some (by kernel_rfl))
  t3 := Tryz.underlying3
  a3 := Tryz.isAgg3
  z3 := Tryz.sizeOf3
  v3 := Tryz.zeroValue3
  t9 := Tryz.underlying9
  a9 := Tryz.isAgg9
  z9 := Tryz.sizeOf9
  v9 := Tryz.zeroValue9 }
def Tryz.lays137_ren : Go.Shelf.Ren := ⟨fun | 137 => 68 | 217 => 113 | 266 => 156 | n => n, fun | 9 => 9 | 5 => 5 | 3 => 3 | n => n, fun | n => n⟩
theorem Tryz.lays137 : Go.Proofs.Lays.n137 Tryz.prog Tryz.lays137_ren := {
  mixed := by kernel_rfl
  f137 := Tryz.func68.trans (congrArg some (by kernel_rfl))
  f217 := Tryz.func113.trans (congrArg some (by kernel_rfl))
  f266 := Tryz.func156.trans (congrArg some (by kernel_rfl))
  t3 := Tryz.underlying3
  a3 := Tryz.isAgg3
  z3 := Tryz.sizeOf3
  v3 := Tryz.zeroValue3
  t5 := Tryz.underlying5
  a5 := Tryz.isAgg5
  z5 := Tryz.sizeOf5
  v5 := Tryz.zeroValue5
  t9 := Tryz.underlying9
  a9 := Tryz.isAgg9
  z9 := Tryz.sizeOf9
  v9 := Tryz.zeroValue9 }
def Tryz.lays121_ren : Go.Shelf.Ren := ⟨fun | 121 => 62 | 214 => 105 | n => n, fun | 4 => 4 | 9 => 9 | n => n, fun | n => n⟩
theorem Tryz.lays121 : Go.Proofs.Lays.n121 Tryz.prog Tryz.lays121_ren := {
  mixed := by kernel_rfl
  f121 := Tryz.func62.trans (congrArg some (by kernel_rfl))
  f214 := Tryz.func105.trans (congrArg some (by kernel_rfl))
  t4 := Tryz.underlying4
  a4 := Tryz.isAgg4
  z4 := Tryz.sizeOf4
  v4 := Tryz.zeroValue4
  t9 := Tryz.underlying9
  a9 := Tryz.isAgg9
  z9 := Tryz.sizeOf9
  v9 := Tryz.zeroValue9 }
def Tryz.lays122_ren : Go.Shelf.Ren := ⟨fun | 122 => 168 | 215 => 201 | n => n, fun | 3 => 3 | 4 => 4 | n => n, fun | n => n⟩
theorem Tryz.lays122 : Go.Proofs.Lays.n122 Tryz.prog Tryz.lays122_ren := {
  mixed := by kernel_rfl
  f122 := Tryz.func168.trans (congrArg some (by kernel_rfl))
  f215 := Tryz.func201.trans (congrArg some (by kernel_rfl))
  t3 := Tryz.underlying3
  a3 := Tryz.isAgg3
  z3 := Tryz.sizeOf3
  v3 := Tryz.zeroValue3
  t4 := Tryz.underlying4
  a4 := Tryz.isAgg4
  z4 := Tryz.sizeOf4
  v4 := Tryz.zeroValue4 }
def Tryz.lays283_ren : Go.Shelf.Ren := ⟨fun | 283 => 173 | n => n, fun | 3 => 3 | 9 => 9 | 4 => 4 | n => n, fun | n => n⟩
theorem Tryz.lays283 : Go.Proofs.Lays.n283 Tryz.prog Tryz.lays283_ren := {
  mixed := by kernel_rfl
  f283 := Tryz.func173.trans (congrArg some (by kernel_rfl))
  t3 := Tryz.underlying3
  a3 := Tryz.isAgg3
  z3 := Tryz.sizeOf3
  v3 := Tryz.zeroValue3
  t4 := Tryz.underlying4
  a4 := Tryz.isAgg4
  z4 := Tryz.sizeOf4
  v4 := Tryz.zeroValue4
  t9 := Tryz.underlying9
  a9 := Tryz.isAgg9
  z9 := Tryz.sizeOf9
  v9 := Tryz.zeroValue9 }
def Tryz.laysM284_ren : Go.Shelf.Ren := ⟨fun | 284 => 174 | 129 => 200 | 317 => 204 | 318 => 205 | n => n, fun | 53 => 23 | 3 => 3 | 212 => 207 | 0 => 0 | 4 => 4 | 46 => 91 | 5 => 5 | 9 => 9 | n => n, fun | 17 => 3 | n => n⟩
theorem Tryz.laysM284 : Go.Proofs.LaysM.n284 Tryz.prog Tryz.laysM284_ren := {
  mixed := by kernel_rfl
  f129 := Tryz.func200.trans (congrArg some (by kernel_rfl))
  f284 := Tryz.func174.trans (congrArg some (by kernel_rfl))
  f317 := Tryz.func204.trans (congrArg some (by kernel_rfl))
  f318 := Tryz.func205.trans (congrArg some (by kernel_rfl))
  t0 := Tryz.underlying0
  a0 := Tryz.isAgg0
  z0 := Tryz.sizeOf0
  v0 := Tryz.zeroValue0
  t3 := Tryz.underlying3
  a3 := Tryz.isAgg3
  z3 := Tryz.sizeOf3
  v3 := Tryz.zeroValue3
  t4 := Tryz.underlying4
  a4 := Tryz.isAgg4
  z4 := Tryz.sizeOf4
  v4 := Tryz.zeroValue4
  t5 := Tryz.underlying5
  a5 := Tryz.isAgg5
  z5 := Tryz.sizeOf5
  v5 := Tryz.zeroValue5
  t9 := Tryz.underlying9
  a9 := Tryz.isAgg9
  z9 := Tryz.sizeOf9
  v9 := Tryz.zeroValue9
  t46 := Tryz.underlying91
  a46 := Tryz.isAgg91
  z46 := Tryz.sizeOf91
  v46 := Tryz.zeroValue91
  t53 := Tryz.underlying23
  a53 := Tryz.isAgg23
  z53 := Tryz.sizeOf23
  v53 := Tryz.zeroValue23
  t212 := Tryz.underlying207
  a212 := Tryz.isAgg207
  z212 := Tryz.sizeOf207
  v212 := Tryz.zeroValue207
  g17 := by kernel_rfl
  i0 := by kernel_rfl
  i3 := by kernel_rfl
  i4 := by kernel_rfl
  i5 := by kernel_rfl
  i9 := by kernel_rfl
  i46 := by kernel_rfl
  i53 := by kernel_rfl
  i212 := by kernel_rfl
  m17 := by kernel_rfl }
def Tryz.lays285_ren : Go.Shelf.Ren := ⟨fun | 285 => 175 | n => n, fun | 37 => 55 | 53 => 23 | 3 => 3 | 4 => 4 | 51 => 149 | 9 => 9 | 5 => 5 | 0 => 0 | n => n, fun | n => n⟩
theorem Tryz.lays285 : Go.Proofs.Lays.n285 Tryz.prog Tryz.lays285_ren := {
  mixed := by kernel_rfl
  f285 := Tryz.func175.trans (congrArg some (by kernel_rfl))
  t0 := Tryz.underlying0
  a0 := Tryz.isAgg0
  z0 := Tryz.sizeOf0
  v0 := Tryz.zeroValue0
  t3 := Tryz.underlying3
  a3 := Tryz.isAgg3
  z3 := Tryz.sizeOf3
  v3 := Tryz.zeroValue3
  t4 := Tryz.underlying4
  a4 := Tryz.isAgg4
  z4 := Tryz.sizeOf4
  v4 := Tryz.zeroValue4
  t5 := Tryz.underlying5
  a5 := Tryz.isAgg5
  z5 := Tryz.sizeOf5
  v5 := Tryz.zeroValue5
  t9 := Tryz.underlying9
  a9 := Tryz.isAgg9
  z9 := Tryz.sizeOf9
  v9 := Tryz.zeroValue9
  t37 := Tryz.underlying55
  a37 := Tryz.isAgg55
  z37 := Tryz.sizeOf55
  v37 := Tryz.zeroValue55
  t51 := Tryz.underlying149
  a51 := Tryz.isAgg149
  z51 := Tryz.sizeOf149
  v51 := Tryz.zeroValue149
  t53 := Tryz.underlying23
  a53 := Tryz.isAgg23
  z53 := Tryz.sizeOf23
  v53 := Tryz.zeroValue23 }
def Tryz.laysM173_ren : Go.Shelf.Ren := ⟨fun | 173 => 106 | 246 => 143 | 283 => 173 | 284 => 174 | 285 => 175 | 286 => 176 | 129 => 200 | 317 => 204 | 318 => 205 | 319 => 206 | 320 => 207 | 337 => 224 | 338 => 225 | n => n, fun | 2 => 2 | 3 => 3 | 9 => 9 | 4 => 4 | 171 => 183 | 0 => 0 | 53 => 23 | 37 => 55 | 5 => 5 | 173 => 186 | 212 => 207 | 51 => 149 | 20 => 20 | 213 => 208 | 46 => 91 | 232 => 228 | 233 => 229 | n => n, fun | 17 => 3 | 18 => 6 | 19 => 7 | n => n⟩
theorem Tryz.laysM173 : Go.Proofs.LaysM.n173 Tryz.prog Tryz.laysM173_ren := {
  mixed := by kernel_rfl
  f129 := Tryz.func200.trans (congrArg some (by kernel_rfl))
  f173 := Tryz.func106.trans (congrArg some (by kernel_rfl))
  f246 := Tryz.func143.trans (congrArg some (by kernel_rfl))
  f283 := Tryz.func173.trans (congrArg some (by kernel_rfl))
  f284 := Tryz.func174.trans (congrArg some (by kernel_rfl))
  f285 := Tryz.func175.trans (congrArg some (by kernel_rfl))
  f286 := Tryz.func176.trans (congrArg some (by kernel_rfl))
  f317 := Tryz.func204.trans (congrArg some (by kernel_rfl))
  f318 := Tryz.func205.trans (congrArg some (by kernel_rfl))
  f319 := Tryz.func206.trans (congrArg some (by kernel_rfl))
  f320 := Tryz.func207.trans (congrArg some (by kernel_rfl))
  f337 := Tryz.func224.trans (congrArg some (by kernel_rfl))
  f338 := Tryz.func225.trans (congrArg some (by kernel_rfl))
  t0 := Tryz.underlying0
  a0 := Tryz.isAgg0
  z0 := Tryz.sizeOf0
  v0 := Tryz.zeroValue0
  t2 := Tryz.underlying2
  a2 := Tryz.isAgg2
  z2 := Tryz.sizeOf2
  v2 := Tryz.zeroValue2
  t3 := Tryz.underlying3
  a3 := Tryz.isAgg3
  z3 := Tryz.sizeOf3
  v3 := Tryz.zeroValue3
  t4 := Tryz.underlying4
  a4 := Tryz.isAgg4
  z4 := Tryz.sizeOf4
  v4 := Tryz.zeroValue4
  t5 := Tryz.underlying5
  a5 := Tryz.isAgg5
  z5 := Tryz.sizeOf5
  v5 := Tryz.zeroValue5
  t9 := Tryz.underlying9
  a9 := Tryz.isAgg9
  z9 := Tryz.sizeOf9
  v9 := Tryz.zeroValue9
  t20 := Tryz.underlying20
  a20 := Tryz.isAgg20
  z20 := Tryz.sizeOf20
  v20 := Tryz.zeroValue20
  t37 := Tryz.underlying55
  a37 := Tryz.isAgg55
  z37 := Tryz.sizeOf55
  v37 := Tryz.zeroValue55
  t46 := Tryz.underlying91
  a46 := Tryz.isAgg91
  z46 := Tryz.sizeOf91
  v46 := Tryz.zeroValue91
  t51 := Tryz.underlying149
  a51 := Tryz.isAgg149
  z51 := Tryz.sizeOf149
  v51 := Tryz.zeroValue149
  t53 := Tryz.underlying23
  a53 := Tryz.isAgg23
  z53 := Tryz.sizeOf23
  v53 := Tryz.zeroValue23
  t171 := Tryz.underlying183
  a171 := Tryz.isAgg183
  z171 := Tryz.sizeOf183
  v171 := Tryz.zeroValue183
  t173 := Tryz.underlying186
  a173 := Tryz.isAgg186
  z173 := Tryz.sizeOf186
  v173 := Tryz.zeroValue186
  t212 := Tryz.underlying207
  a212 := Tryz.isAgg207
  z212 := Tryz.sizeOf207
  v212 := Tryz.zeroValue207
  t213 := Tryz.underlying208
  a213 := Tryz.isAgg208
  z213 := Tryz.sizeOf208
  t232 := Tryz.underlying228
  a232 := Tryz.isAgg228
  z232 := Tryz.sizeOf228
  v232 := Tryz.zeroValue228
  t233 := Tryz.underlying229
  a233 := Tryz.isAgg229
  z233 := Tryz.sizeOf229
  v233 := Tryz.zeroValue229
  g17 := by kernel_rfl
  g18 := by kernel_rfl
  g19 := by kernel_rfl
  i0 := by kernel_rfl
  i2 := by kernel_rfl
  i3 := by kernel_rfl
  i4 := by kernel_rfl
  i5 := by kernel_rfl
  i9 := by kernel_rfl
  i20 := by kernel_rfl
  i37 := by kernel_rfl
  i46 := by kernel_rfl
  i51 := by kernel_rfl
  i53 := by kernel_rfl
  i171 := by kernel_rfl
  i173 := by kernel_rfl
  i212 := by kernel_rfl
  i232 := by kernel_rfl
  i233 := by kernel_rfl
  m17 := by kernel_rfl
  m18 := by kernel_rfl
  m19 := by kernel_rfl }
def Tryz.laysC174_ren : Go.Shelf.Ren := ⟨fun | 174 => 159 | 247 => 181 | 245 => 182 | 287 => 183 | 279 => 209 | 280 => 210 | 281 => 211 | 282 => 212 | 321 => 213 | 322 => 214 | 316 => 226 | 171 => 228 | 205 => 227 | 243 => 232 | 246 => 143 | 283 => 173 | 284 => 174 | 285 => 175 | 286 => 176 | 129 => 200 | 317 => 204 | 318 => 205 | 319 => 206 | 320 => 207 | 337 => 224 | 338 => 225 | n => n, fun | 9 => 9 | 3 => 3 | 2 => 2 | 75 => 85 | 85 => 164 | 4 => 4 | 167 => 209 | 5 => 5 | 53 => 23 | 175 => 166 | 46 => 91 | 168 => 210 | 37 => 55 | 0 => 0 | 210 => 222 | 21 => 21 | 127 => 103 | 145 => 232 | 143 => 230 | 171 => 183 | 173 => 186 | 212 => 207 | 51 => 149 | 20 => 20 | 213 => 208 | 232 => 228 | 233 => 229 | 80 => 61 | n => n, fun | 15 => 4 | 16 => 5 | 17 => 3 | 18 => 6 | 19 => 7 | n => n⟩
theorem Tryz.laysC174 : Go.Proofs.LaysC.n174 Tryz.prog Tryz.laysC174_ren := {
  mixed := by kernel_rfl
  f129 := Tryz.func200.trans (congrArg some (by kernel_rfl))
  f171 := Tryz.func228.trans (congrArg some (by kernel_rfl))
  f174 := Tryz.func159.trans (congrArg some (by kernel_rfl))
  f205 := Tryz.func227.trans (congrArg some (by kernel_rfl))
  f243 := Tryz.func232.trans (congrArg some (by kernel_rfl))
  f245 := Tryz.func182.trans (congrArg some (by kernel_rfl))
  f246 := Tryz.func143.trans (congrArg some (by kernel_rfl))
  f247 := Tryz.func181.trans (congrArg some (by kernel_rfl))
  f279 := Tryz.func209.trans (congrArg some (by kernel_rfl))
  f280 := Tryz.func210.trans (congrArg some (by kernel_rfl))
  f281 := Tryz.func211.trans (congrArg some (by kernel_rfl))
  f282 := Tryz.func212.trans (congrArg some (by kernel_rfl))
  f283 := Tryz.func173.trans (congrArg some (by kernel_rfl))
  f284 := Tryz.func174.trans (congrArg some (by kernel_rfl))
  f285 := Tryz.func175.trans (congrArg some (by kernel_rfl))
  f286 := Tryz.func176.trans (congrArg some (by kernel_rfl))
  f287 := Tryz.func183.trans (congrArg some (by kernel_rfl))
  f316 := Tryz.func226.trans (congrArg some (by kernel_rfl))
  f317 := Tryz.func204.trans (congrArg some (by kernel_rfl))
  f318 := Tryz.func205.trans (congrArg some (by kernel_rfl))
  f319 := Tryz.func206.trans (congrArg some (by kernel_rfl))
  f320 := Tryz.func207.trans (congrArg some (by kernel_rfl))
  f321 := Tryz.func213.trans (congrArg some (by kernel_rfl))
  f322 := Tryz.func214.trans (congrArg some (by kernel_rfl))
  f337 := Tryz.func224.trans (congrArg some (by kernel_rfl))
  f338 := Tryz.func225.trans (congrArg some (by kernel_rfl))
  t0 := Tryz.underlying0
  a0 := Tryz.isAgg0
  z0 := Tryz.sizeOf0
  v0 := Tryz.zeroValue0
  t2 := Tryz.underlying2
  a2 := Tryz.isAgg2
  z2 := Tryz.sizeOf2
  v2 := Tryz.zeroValue2
  t3 := Tryz.underlying3
  a3 := Tryz.isAgg3
  z3 := Tryz.sizeOf3
  v3 := Tryz.zeroValue3
  t4 := Tryz.underlying4
  a4 := Tryz.isAgg4
  z4 := Tryz.sizeOf4
  v4 := Tryz.zeroValue4
  t5 := Tryz.underlying5
  a5 := Tryz.isAgg5
  z5 := Tryz.sizeOf5
  v5 := Tryz.zeroValue5
  t9 := Tryz.underlying9
  a9 := Tryz.isAgg9
  z9 := Tryz.sizeOf9
  v9 := Tryz.zeroValue9
  t20 := Tryz.underlying20
  a20 := Tryz.isAgg20
  z20 := Tryz.sizeOf20
  v20 := Tryz.zeroValue20
  t21 := Tryz.underlying21
  a21 := Tryz.isAgg21
  z21 := Tryz.sizeOf21
  v21 := Tryz.zeroValue21
  t37 := Tryz.underlying55
  a37 := Tryz.isAgg55
  z37 := Tryz.sizeOf55
  v37 := Tryz.zeroValue55
  t46 := Tryz.underlying91
  a46 := Tryz.isAgg91
  z46 := Tryz.sizeOf91
  v46 := Tryz.zeroValue91
  t51 := Tryz.underlying149
  a51 := Tryz.isAgg149
  z51 := Tryz.sizeOf149
  v51 := Tryz.zeroValue149
  t53 := Tryz.underlying23
  a53 := Tryz.isAgg23
  z53 := Tryz.sizeOf23
  v53 := Tryz.zeroValue23
  t75 := Tryz.underlying85
  a75 := Tryz.isAgg85
  z75 := Tryz.sizeOf85
  v75 := Tryz.zeroValue85
  t85 := Tryz.underlying164
  a85 := Tryz.isAgg164
  z85 := Tryz.sizeOf164
  v85 := Tryz.zeroValue164
  t127 := Tryz.underlying103
  a127 := Tryz.isAgg103
  z127 := Tryz.sizeOf103
  v127 := Tryz.zeroValue103
  t143 := Tryz.underlying230
  a143 := Tryz.isAgg230
  z143 := Tryz.sizeOf230
  v143 := Tryz.zeroValue230
  t145 := Tryz.underlying232
  a145 := Tryz.isAgg232
  z145 := Tryz.sizeOf232
  v145 := Tryz.zeroValue232
  t167 := Tryz.underlying209
  a167 := Tryz.isAgg209
  z167 := Tryz.sizeOf209
  v167 := Tryz.zeroValue209
  t168 := Tryz.underlying210
  a168 := Tryz.isAgg210
  z168 := Tryz.sizeOf210
  v168 := Tryz.zeroValue210
  t171 := Tryz.underlying183
  a171 := Tryz.isAgg183
  z171 := Tryz.sizeOf183
  v171 := Tryz.zeroValue183
  t173 := Tryz.underlying186
  a173 := Tryz.isAgg186
  z173 := Tryz.sizeOf186
  v173 := Tryz.zeroValue186
  t175 := Tryz.underlying166
  a175 := Tryz.isAgg166
  z175 := Tryz.sizeOf166
  v175 := Tryz.zeroValue166
  t210 := Tryz.underlying222
  a210 := Tryz.isAgg222
  z210 := Tryz.sizeOf222
  v210 := Tryz.zeroValue222
  t212 := Tryz.underlying207
  a212 := Tryz.isAgg207
  z212 := Tryz.sizeOf207
  v212 := Tryz.zeroValue207
  t213 := Tryz.underlying208
  a213 := Tryz.isAgg208
  z213 := Tryz.sizeOf208
  t232 := Tryz.underlying228
  a232 := Tryz.isAgg228
  z232 := Tryz.sizeOf228
  v232 := Tryz.zeroValue228
  t233 := Tryz.underlying229
  a233 := Tryz.isAgg229
  z233 := Tryz.sizeOf229
  v233 := Tryz.zeroValue229
  g15 := by kernel_rfl
  g16 := by kernel_rfl
  g17 := by kernel_rfl
  g18 := by kernel_rfl
  g19 := by kernel_rfl
  t80 := Tryz.underlying61
  a80 := Tryz.isAgg61
  z80 := Tryz.sizeOf61
  v80 := Tryz.zeroValue61
  i0 := by kernel_rfl
  i2 := by kernel_rfl
  i3 := by kernel_rfl
  i4 := by kernel_rfl
  i5 := by kernel_rfl
  i9 := by kernel_rfl
  i20 := by kernel_rfl
  i21 := by kernel_rfl
  i37 := by kernel_rfl
  i46 := by kernel_rfl
  i51 := by kernel_rfl
  i53 := by kernel_rfl
  i75 := by kernel_rfl
  i80 := by kernel_rfl
  i85 := by kernel_rfl
  i127 := by kernel_rfl
  i143 := by kernel_rfl
  i145 := by kernel_rfl
  i167 := by kernel_rfl
  i168 := by kernel_rfl
  i171 := by kernel_rfl
  i173 := by kernel_rfl
  i175 := by kernel_rfl
  i210 := by kernel_rfl
  i212 := by kernel_rfl
  i232 := by kernel_rfl
  i233 := by kernel_rfl
  m15 := by kernel_rfl
  m16 := by kernel_rfl
  m17 := by kernel_rfl
  m18 := by kernel_rfl
  m19 := by kernel_rfl
  c0 := by kernel_rfl
  c2 := by kernel_rfl
  c3 := by kernel_rfl
  c4 := by kernel_rfl
  c5 := by kernel_rfl
  c9 := by kernel_rfl
  c20 := by kernel_rfl
  c21 := by kernel_rfl
  c37 := by kernel_rfl
  c46 := by kernel_rfl
  c51 := by kernel_rfl
  c53 := by kernel_rfl
  c75 := by kernel_rfl
  c80 := by kernel_rfl
  c85 := by kernel_rfl
  c127 := by kernel_rfl
  c143 := by kernel_rfl
  c145 := by kernel_rfl
  c167 := by kernel_rfl
  c168 := by kernel_rfl
  c171 := by kernel_rfl
  c173 := by kernel_rfl
  c175 := by kernel_rfl
  c210 := by kernel_rfl
  c212 := by kernel_rfl
  c213 := by kernel_rfl
  c232 := by kernel_rfl
  c233 := by kernel_rfl }
def Tryz.laysPu14_ren : Go.Shelf.Ren := ⟨fun | 14 => 160 | 16 => 183 | 17 => 182 | 19 => 213 | 20 => 214 | 21 => 209 | 22 => 210 | 23 => 211 | 24 => 212 | 25 => 226 | 27 => 228 | 26 => 227 | 28 => 232 | 29 => 143 | 30 => 173 | 31 => 174 | 32 => 175 | 33 => 176 | 35 => 200 | 34 => 204 | 36 => 205 | 37 => 206 | 38 => 207 | 39 => 224 | 40 => 225 | n => n, fun | 9 => 9 | 3 => 3 | 22 => 23 | 24 => 85 | 25 => 166 | 4 => 4 | 34 => 209 | 5 => 5 | 36 => 91 | 37 => 55 | 0 => 0 | 39 => 210 | 21 => 21 | 44 => 222 | 47 => 103 | 50 => 232 | 48 => 230 | 2 => 2 | 52 => 183 | 55 => 186 | 59 => 207 | 60 => 149 | 20 => 20 | 61 => 208 | 65 => 228 | 66 => 229 | 67 => 61 | n => n, fun | 0 => 4 | 1 => 5 | 2 => 3 | 3 => 6 | 4 => 7 | n => n⟩
theorem Tryz.laysPu14 : Go.Proofs.LaysPu.n14 Tryz.prog Tryz.laysPu14_ren := {
  mixed := by kernel_rfl
  f14 := Tryz.func160.trans (congrArg some (by kernel_rfl))
  f16 := Tryz.func183.trans (congrArg some (by kernel_rfl))
  f17 := Tryz.func182.trans (congrArg some (by kernel_rfl))
  f19 := Tryz.func213.trans (congrArg some (by kernel_rfl))
  f20 := Tryz.func214.trans (congrArg some (by kernel_rfl))
  f21 := Tryz.func209.trans (congrArg some (by kernel_rfl))
  f22 := Tryz.func210.trans (congrArg some (by kernel_rfl))
  f23 := Tryz.func211.trans (congrArg some (by kernel_rfl))
  f24 := Tryz.func212.trans (congrArg some (by kernel_rfl))
  f25 := Tryz.func226.trans (congrArg some (by kernel_rfl))
  f26 := Tryz.func227.trans (congrArg some (by kernel_rfl))
  f27 := Tryz.func228.trans (congrArg some (by kernel_rfl))
  f28 := Tryz.func232.trans (congrArg some (by kernel_rfl))
  f29 := Tryz.func143.trans (congrArg some (by kernel_rfl))
  f30 := Tryz.func173.trans (congrArg some (by kernel_rfl))
  f31 := Tryz.func174.trans (congrArg some (by kernel_rfl))
  f32 := Tryz.func175.trans (congrArg some (by kernel_rfl))
  f33 := Tryz.func176.trans (congrArg some (by kernel_rfl))
  f34 := Tryz.func204.trans (congrArg some (by kernel_rfl))
  f35 := Tryz.func200.trans (congrArg some (by kernel_rfl))
  f36 := Tryz.func205.trans (congrArg some (by kernel_rfl))
  f37 := Tryz.func206.trans (congrArg some (by kernel_rfl))
  f38 := Tryz.func207.trans (congrArg some (by kernel_rfl))
  f39 := Tryz.func224.trans (congrArg some (by kernel_rfl))
  f40 := Tryz.func225.trans (congrArg some (by kernel_rfl))
  t0 := Tryz.underlying0
  a0 := Tryz.isAgg0
  z0 := Tryz.sizeOf0
  v0 := Tryz.zeroValue0
  i0 := by kernel_rfl
  t2 := Tryz.underlying2
  a2 := Tryz.isAgg2
  z2 := Tryz.sizeOf2
  v2 := Tryz.zeroValue2
  i2 := by kernel_rfl
  t3 := Tryz.underlying3
  a3 := Tryz.isAgg3
  z3 := Tryz.sizeOf3
  v3 := Tryz.zeroValue3
  i3 := by kernel_rfl
  t4 := Tryz.underlying4
  a4 := Tryz.isAgg4
  z4 := Tryz.sizeOf4
  v4 := Tryz.zeroValue4
  i4 := by kernel_rfl
  t5 := Tryz.underlying5
  a5 := Tryz.isAgg5
  z5 := Tryz.sizeOf5
  v5 := Tryz.zeroValue5
  i5 := by kernel_rfl
  t9 := Tryz.underlying9
  a9 := Tryz.isAgg9
  z9 := Tryz.sizeOf9
  v9 := Tryz.zeroValue9
  i9 := by kernel_rfl
  t20 := Tryz.underlying20
  a20 := Tryz.isAgg20
  z20 := Tryz.sizeOf20
  v20 := Tryz.zeroValue20
  i20 := by kernel_rfl
  t21 := Tryz.underlying21
  a21 := Tryz.isAgg21
  z21 := Tryz.sizeOf21
  v21 := Tryz.zeroValue21
  i21 := by kernel_rfl
  t22 := Tryz.underlying23
  a22 := Tryz.isAgg23
  z22 := Tryz.sizeOf23
  v22 := Tryz.zeroValue23
  i22 := by kernel_rfl
  t24 := Tryz.underlying85
  a24 := Tryz.isAgg85
  z24 := Tryz.sizeOf85
  v24 := Tryz.zeroValue85
  i24 := by kernel_rfl
  t25 := Tryz.underlying166
  a25 := Tryz.isAgg166
  z25 := Tryz.sizeOf166
  v25 := Tryz.zeroValue166
  i25 := by kernel_rfl
  t34 := Tryz.underlying209
  a34 := Tryz.isAgg209
  z34 := Tryz.sizeOf209
  v34 := Tryz.zeroValue209
  i34 := by kernel_rfl
  c34 := by kernel_rfl
  t36 := Tryz.underlying91
  a36 := Tryz.isAgg91
  z36 := Tryz.sizeOf91
  v36 := Tryz.zeroValue91
  i36 := by kernel_rfl
  t37 := Tryz.underlying55
  a37 := Tryz.isAgg55
  z37 := Tryz.sizeOf55
  v37 := Tryz.zeroValue55
  i37 := by kernel_rfl
  t39 := Tryz.underlying210
  a39 := Tryz.isAgg210
  z39 := Tryz.sizeOf210
  v39 := Tryz.zeroValue210
  i39 := by kernel_rfl
  t44 := Tryz.underlying222
  a44 := Tryz.isAgg222
  z44 := Tryz.sizeOf222
  v44 := Tryz.zeroValue222
  i44 := by kernel_rfl
  t47 := Tryz.underlying103
  a47 := Tryz.isAgg103
  z47 := Tryz.sizeOf103
  v47 := Tryz.zeroValue103
  i47 := by kernel_rfl
  t48 := Tryz.underlying230
  a48 := Tryz.isAgg230
  z48 := Tryz.sizeOf230
  v48 := Tryz.zeroValue230
  i48 := by kernel_rfl
  t50 := Tryz.underlying232
  a50 := Tryz.isAgg232
  z50 := Tryz.sizeOf232
  v50 := Tryz.zeroValue232
  i50 := by kernel_rfl
  t52 := Tryz.underlying183
  a52 := Tryz.isAgg183
  z52 := Tryz.sizeOf183
  v52 := Tryz.zeroValue183
  i52 := by kernel_rfl
  t55 := Tryz.underlying186
  a55 := Tryz.isAgg186
  z55 := Tryz.sizeOf186
  v55 := Tryz.zeroValue186
  i55 := by kernel_rfl
  t59 := Tryz.underlying207
  a59 := Tryz.isAgg207
  z59 := Tryz.sizeOf207
  v59 := Tryz.zeroValue207
  i59 := by kernel_rfl
  t60 := Tryz.underlying149
  a60 := Tryz.isAgg149
  z60 := Tryz.sizeOf149
  v60 := Tryz.zeroValue149
  i60 := by kernel_rfl
  t61 := Tryz.underlying208
  a61 := Tryz.isAgg208
  z61 := Tryz.sizeOf208
  t65 := Tryz.underlying228
  a65 := Tryz.isAgg228
  z65 := Tryz.sizeOf228
  v65 := Tryz.zeroValue228
  i65 := by kernel_rfl
  t66 := Tryz.underlying229
  a66 := Tryz.isAgg229
  z66 := Tryz.sizeOf229
  v66 := Tryz.zeroValue229
  i66 := by kernel_rfl
  t67 := Tryz.underlying61
  a67 := Tryz.isAgg61
  z67 := Tryz.sizeOf61
  v67 := Tryz.zeroValue61
  i67 := by kernel_rfl
  g0 := by kernel_rfl
  m0 := by kernel_rfl
  g1 := by kernel_rfl
  m1 := by kernel_rfl
  g2 := by kernel_rfl
  m2 := by kernel_rfl
  g3 := by kernel_rfl
  m3 := by kernel_rfl
  g4 := by kernel_rfl
  m4 := by kernel_rfl }
def Tryz.lays99_ren : Go.Shelf.Ren := ⟨fun | 99 => 52 | 206 => 90 | n => n, fun | 9 => 9 | 4 => 4 | 3 => 3 | n => n, fun | n => n⟩
theorem Tryz.lays99 : Go.Proofs.Lays.n99 Tryz.prog Tryz.lays99_ren := {
  mixed := by kernel_rfl
  f99 := Tryz.func52.trans (congrArg some (by kernel_rfl))
  f206 := Tryz.func90.trans (congrArg some (by kernel_rfl))
  t3 := Tryz.underlying3
  a3 := Tryz.isAgg3
  z3 := Tryz.sizeOf3
  v3 := Tryz.zeroValue3
  t4 := Tryz.underlying4
  a4 := Tryz.isAgg4
  z4 := Tryz.sizeOf4
  v4 := Tryz.zeroValue4
  t9 := Tryz.underlying9
  a9 := Tryz.isAgg9
  z9 := Tryz.sizeOf9
  v9 := Tryz.zeroValue9 }
def Tryz.lays101_ren : Go.Shelf.Ren := ⟨fun | 101 => 158 | 208 => 180 | 206 => 90 | n => n, fun | 9 => 9 | 4 => 4 | 3 => 3 | n => n, fun | n => n⟩
theorem Tryz.lays101 : Go.Proofs.Lays.n101 Tryz.prog Tryz.lays101_ren := {
  mixed := by kernel_rfl
  f101 := Tryz.func158.trans (congrArg some (by kernel_rfl))
  f206 := Tryz.func90.trans (congrArg some (by kernel_rfl))
  f208 := Tryz.func180.trans (congrArg some (by kernel_rfl))
  t3 := Tryz.underlying3
  a3 := Tryz.isAgg3
  z3 := Tryz.sizeOf3
  v3 := Tryz.zeroValue3
  t4 := Tryz.underlying4
  a4 := Tryz.isAgg4
  z4 := Tryz.sizeOf4
  v4 := Tryz.zeroValue4
  t9 := Tryz.underlying9
  a9 := Tryz.isAgg9
  z9 := Tryz.sizeOf9
  v9 := Tryz.zeroValue9 }
def Tryz.lays197_ren : Go.Shelf.Ren := ⟨fun | 197 => 96 | 260 => 135 | n => n, fun | 9 => 9 | 21 => 21 | 3 => 3 | 4 => 4 | 5 => 5 | 105 => 124 | 119 => 171 | 0 => 0 | 46 => 91 | 139 => 174 | 138 => 173 | n => n, fun | 3 => 0 | 4 => 1 | n => n⟩
theorem Tryz.lays197 : Go.Proofs.Lays.n197 Tryz.prog Tryz.lays197_ren := {
  mixed := by kernel_rfl
  f197 := Tryz.func96.trans (congrArg some (by kernel_rfl))
  f260 := Tryz.func135.trans (congrArg some (by kernel_rfl))
  t0 := Tryz.underlying0
  a0 := Tryz.isAgg0
  z0 := Tryz.sizeOf0
  v0 := Tryz.zeroValue0
  t3 := Tryz.underlying3
  a3 := Tryz.isAgg3
  z3 := Tryz.sizeOf3
  v3 := Tryz.zeroValue3
  t4 := Tryz.underlying4
  a4 := Tryz.isAgg4
  z4 := Tryz.sizeOf4
  v4 := Tryz.zeroValue4
  t5 := Tryz.underlying5
  a5 := Tryz.isAgg5
  z5 := Tryz.sizeOf5
  v5 := Tryz.zeroValue5
  t9 := Tryz.underlying9
  a9 := Tryz.isAgg9
  z9 := Tryz.sizeOf9
  v9 := Tryz.zeroValue9
  t21 := Tryz.underlying21
  a21 := Tryz.isAgg21
  z21 := Tryz.sizeOf21
  v21 := Tryz.zeroValue21
  t46 := Tryz.underlying91
  a46 := Tryz.isAgg91
  z46 := Tryz.sizeOf91
  v46 := Tryz.zeroValue91
  t105 := Tryz.underlying124
  a105 := Tryz.isAgg124
  z105 := Tryz.sizeOf124
  v105 := Tryz.zeroValue124
  t119 := Tryz.underlying171
  a119 := Tryz.isAgg171
  z119 := Tryz.sizeOf171
  t138 := Tryz.underlying173
  a138 := Tryz.isAgg173
  z138 := Tryz.sizeOf173
  v138 := Tryz.zeroValue173
  t139 := Tryz.underlying174
  a139 := Tryz.isAgg174
  z139 := Tryz.sizeOf174
  v139 := Tryz.zeroValue174
  g3 := by kernel_rfl
  g4 := by kernel_rfl }
theorem Tryz.utf8_RuneLen (r : Int) (w : World) :
    Calls Tryz.prog 51 #[.int .i32 r] w fun e w' => e = .returned (.int .i64 (Lib.runeLen r)) ∧ w' = w := Any.utf8_RuneLen Tryz.lays118 r w
theorem Tryz.utf8_ValidRune (r : Int) (w : World) :
    Calls Tryz.prog 120 #[.int .i32 r] w fun e w' => e = .returned (.bool (Lib.validRune r)) ∧ w' = w := Any.utf8_ValidRune Tryz.lays119 r w
open Go.RowKit in
theorem Tryz.strings_Compare (a b : ByteArray) (w : World) :
    Calls Tryz.prog 170 #[.string a, .string b] w fun e w' => e = .returned (.int .i64 (Lib.compareBytes a.data.toList b.data.toList)) ∧ w' = w := Any.strings_Compare Tryz.lays106 a b w
open Go.RowKit in
theorem Tryz.strings_IndexByte (s : ByteArray) (c : Int) (w : World) :
    Calls Tryz.prog 68 #[.string s, .int .u8 c] w fun e w' => e = .returned (.int .i64 (Lib.indexByte s.data.toList c.toNat.toUInt8)) ∧ w' = w := Any.strings_IndexByte Tryz.lays137 s c w
open Go.RowKit in
theorem Tryz.strconv_FormatBool (b : Bool) (w : World) :
    Calls Tryz.prog 62 #[.bool b] w fun e w' => e = .returned (.string ⟨(Lib.formatBool b).toArray⟩) ∧ w' = w := Any.strconv_FormatBool Tryz.lays121 b w
open Go.RowKit in
theorem Tryz.cmp_Compare_int (x y : Int) (w : World) :
    Calls Tryz.prog 168 #[.int .i64 x, .int .i64 y] w fun e w' => e = .returned (.int .i64 (Lib.compareInt x y)) ∧ w' = w := Any.cmp_Compare_int Tryz.lays122 x y w
open Go.RowKit in
open Go.Lib in
theorem Tryz.internal_strconv_small (i : Nat) (h : i < 100) (w : World) :
    Calls Tryz.prog 173 #[.int .i64 i] w fun e w' => e = .returned (.string ⟨(Lib.decDigits i).toArray⟩) ∧ w' = w := Any.internal_strconv_small Tryz.lays283 i h w
open Go.Lib in
theorem Tryz.internal_strconv_numDigits (u : Nat) (h1 : 1 ≤ u) (h2 : u < 18446744073709551616) (w : World) (htab : Lib.TabIs Tryz.prog w "internal/strconv.uint64pow10" .u64 Lib.pow10Tab) :
    Calls Tryz.prog 174 #[.int .u64 u] w fun e w' => e = .returned (.int .i64 (Lib.nDigits u)) ∧ w' = w := Any.internal_strconv_numDigits Tryz.laysM284 u h1 h2 w htab
open Go.RowKit Go.Sort Go.Lib in
theorem Tryz.internal_strconv_formatBase10 (blk off cap : Nat) (u : Nat) (d : Array UInt8) (w : World) (hH : Holds (fun (b : UInt8) => Value.int .u8 (b.toNat : Int)) w blk off d) (hu : u < 10 ^ d.size) (hu64 : u < 18446744073709551616) (hsz : d.size < 4611686018427387904) :
    Calls Tryz.prog 175 #[.slice (some ⟨blk, off, none⟩) d.size cap, .int .u64 u] w fun e w' =>
      e = .returned (.tuple #[]) ∧ ∃ (n v' : Nat) (dk : Array UInt8), w' = (putRow (fun (b : UInt8) => Value.int .u8 (b.toNat : Int)) w blk off dk).drewN n ∧ FmtInv d.size u 0 v' dk := Any.internal_strconv_formatBase10 Tryz.lays285 blk off cap u d w hH hu hu64 hsz
open Go.RowKit Go.Sort Go.Lib in
theorem Tryz.strconv_FormatInt_10 (n : Int) (h0 : -9223372036854775808 ≤ n) (h1 : n ≤ 9223372036854775807) (w : World) (htab : Lib.TabIs Tryz.prog w "internal/strconv.uint64pow10" .u64 Lib.pow10Tab) :
    Calls Tryz.prog 106 #[.int .i64 n, .int .i64 10] w fun e w' => e = .returned (.string ⟨(Lib.itoa n).toArray⟩) ∧ ∃ k os, w' = grow (w.drewN k) os := Any.strconv_FormatInt_10 Tryz.laysM173 n h0 h1 w htab
open Go.RowKit in
theorem Tryz.strconv_ParseInt_10_at64_ok (s : ByteArray) (hmax : s.size ≤ 9223372036854775806) (v : Int) (h : Lib.parseIntB 64 s.data.toList = .ok v) (w : World) :
    Calls Tryz.prog 159 #[.string s, .int .i64 10, .int .i64 64] w fun e w' => e = .returned (.tuple #[.int .i64 v, .nilIface]) ∧ (w' = w ∨ ∃ t, w' = Lib.bytesWorld w 5 t) := Any.strconv_ParseInt_10_at64_ok Tryz.laysC174 s hmax v h w
open Go.RowKit in
theorem Tryz.strconv_ParseInt_10_at64_syntax (s : ByteArray) (hlim : s.size ≤ 281474976710656) (h : Lib.parseIntB 64 s.data.toList = Lib.parseIntB 64 []) (ev : Value) (w : World) (hv : w.cell? ⟨4, 0, none⟩ = some ev) (hev : ev = .nilIface ∨ ∃ te pe, ev = .iface te pe) :
    Calls Tryz.prog 159 #[.string s, .int .i64 10, .int .i64 64] w fun e w' => ∃ N, e = .returned (.tuple #[.int .i64 (0), .iface 210 (.pointer (some ⟨N, 0, none⟩))]) ∧ w.heap.size ≤ N ∧ w'.heap[N]? = some (.cells #[.string ⟨#[80, 97, 114, 115, 101, 73, 110, 116]⟩, .string s, ev] 222 (0, 0)) ∧ Below w.heap.size w w' := Any.strconv_ParseInt_10_at64_syntax Tryz.laysC174 s hlim h ev w hv hev
open Go.RowKit in
theorem Tryz.strconv_ParseInt_10_at64_range (s : ByteArray) (hlim : s.size ≤ 281474976710656) (h : Lib.parseIntB 64 s.data.toList = .range) (ev : Value) (w : World) (hv : w.cell? ⟨5, 0, none⟩ = some ev) (hev : ev = .nilIface ∨ ∃ te pe, ev = .iface te pe) :
    Calls Tryz.prog 159 #[.string s, .int .i64 10, .int .i64 64] w fun e w' => ∃ N, e = .returned (.tuple #[.int .i64 (Lib.intSat 64 s.data.toList), .iface 210 (.pointer (some ⟨N, 0, none⟩))]) ∧ w.heap.size ≤ N ∧ w'.heap[N]? = some (.cells #[.string ⟨#[80, 97, 114, 115, 101, 73, 110, 116]⟩, .string s, ev] 222 (0, 0)) ∧ Below w.heap.size w w' := Any.strconv_ParseInt_10_at64_range Tryz.laysC174 s hlim h ev w hv hev
open Go.RowKit in
theorem Tryz.strconv_ParseInt_10_at32_ok (s : ByteArray) (hmax : s.size ≤ 9223372036854775806) (v : Int) (h : Lib.parseIntB 32 s.data.toList = .ok v) (w : World) :
    Calls Tryz.prog 159 #[.string s, .int .i64 10, .int .i64 32] w fun e w' => e = .returned (.tuple #[.int .i64 v, .nilIface]) ∧ (w' = w ∨ ∃ t, w' = Lib.bytesWorld w 5 t) := Any.strconv_ParseInt_10_at32_ok Tryz.laysC174 s hmax v h w
open Go.RowKit in
theorem Tryz.strconv_ParseInt_10_at32_syntax (s : ByteArray) (hlim : s.size ≤ 281474976710656) (h : Lib.parseIntB 32 s.data.toList = Lib.parseIntB 32 []) (ev : Value) (w : World) (hv : w.cell? ⟨4, 0, none⟩ = some ev) (hev : ev = .nilIface ∨ ∃ te pe, ev = .iface te pe) :
    Calls Tryz.prog 159 #[.string s, .int .i64 10, .int .i64 32] w fun e w' => ∃ N, e = .returned (.tuple #[.int .i64 (0), .iface 210 (.pointer (some ⟨N, 0, none⟩))]) ∧ w.heap.size ≤ N ∧ w'.heap[N]? = some (.cells #[.string ⟨#[80, 97, 114, 115, 101, 73, 110, 116]⟩, .string s, ev] 222 (0, 0)) ∧ Below w.heap.size w w' := Any.strconv_ParseInt_10_at32_syntax Tryz.laysC174 s hlim h ev w hv hev
open Go.RowKit in
theorem Tryz.strconv_ParseInt_10_at32_range (s : ByteArray) (hlim : s.size ≤ 281474976710656) (h : Lib.parseIntB 32 s.data.toList = .range) (ev : Value) (w : World) (hv : w.cell? ⟨5, 0, none⟩ = some ev) (hev : ev = .nilIface ∨ ∃ te pe, ev = .iface te pe) :
    Calls Tryz.prog 159 #[.string s, .int .i64 10, .int .i64 32] w fun e w' => ∃ N, e = .returned (.tuple #[.int .i64 (Lib.intSat 32 s.data.toList), .iface 210 (.pointer (some ⟨N, 0, none⟩))]) ∧ w.heap.size ≤ N ∧ w'.heap[N]? = some (.cells #[.string ⟨#[80, 97, 114, 115, 101, 73, 110, 116]⟩, .string s, ev] 222 (0, 0)) ∧ Below w.heap.size w w' := Any.strconv_ParseInt_10_at32_range Tryz.laysC174 s hlim h ev w hv hev
open Go.RowKit in
theorem Tryz.strconv_ParseInt_10_at16_ok (s : ByteArray) (hmax : s.size ≤ 9223372036854775806) (v : Int) (h : Lib.parseIntB 16 s.data.toList = .ok v) (w : World) :
    Calls Tryz.prog 159 #[.string s, .int .i64 10, .int .i64 16] w fun e w' => e = .returned (.tuple #[.int .i64 v, .nilIface]) ∧ (w' = w ∨ ∃ t, w' = Lib.bytesWorld w 5 t) := Any.strconv_ParseInt_10_at16_ok Tryz.laysC174 s hmax v h w
open Go.RowKit in
theorem Tryz.strconv_ParseInt_10_at16_syntax (s : ByteArray) (hlim : s.size ≤ 281474976710656) (h : Lib.parseIntB 16 s.data.toList = Lib.parseIntB 16 []) (ev : Value) (w : World) (hv : w.cell? ⟨4, 0, none⟩ = some ev) (hev : ev = .nilIface ∨ ∃ te pe, ev = .iface te pe) :
    Calls Tryz.prog 159 #[.string s, .int .i64 10, .int .i64 16] w fun e w' => ∃ N, e = .returned (.tuple #[.int .i64 (0), .iface 210 (.pointer (some ⟨N, 0, none⟩))]) ∧ w.heap.size ≤ N ∧ w'.heap[N]? = some (.cells #[.string ⟨#[80, 97, 114, 115, 101, 73, 110, 116]⟩, .string s, ev] 222 (0, 0)) ∧ Below w.heap.size w w' := Any.strconv_ParseInt_10_at16_syntax Tryz.laysC174 s hlim h ev w hv hev
open Go.RowKit in
theorem Tryz.strconv_ParseInt_10_at16_range (s : ByteArray) (hlim : s.size ≤ 281474976710656) (h : Lib.parseIntB 16 s.data.toList = .range) (ev : Value) (w : World) (hv : w.cell? ⟨5, 0, none⟩ = some ev) (hev : ev = .nilIface ∨ ∃ te pe, ev = .iface te pe) :
    Calls Tryz.prog 159 #[.string s, .int .i64 10, .int .i64 16] w fun e w' => ∃ N, e = .returned (.tuple #[.int .i64 (Lib.intSat 16 s.data.toList), .iface 210 (.pointer (some ⟨N, 0, none⟩))]) ∧ w.heap.size ≤ N ∧ w'.heap[N]? = some (.cells #[.string ⟨#[80, 97, 114, 115, 101, 73, 110, 116]⟩, .string s, ev] 222 (0, 0)) ∧ Below w.heap.size w w' := Any.strconv_ParseInt_10_at16_range Tryz.laysC174 s hlim h ev w hv hev
open Go.RowKit in
theorem Tryz.strconv_ParseInt_10_at8_ok (s : ByteArray) (hmax : s.size ≤ 9223372036854775806) (v : Int) (h : Lib.parseIntB 8 s.data.toList = .ok v) (w : World) :
    Calls Tryz.prog 159 #[.string s, .int .i64 10, .int .i64 8] w fun e w' => e = .returned (.tuple #[.int .i64 v, .nilIface]) ∧ (w' = w ∨ ∃ t, w' = Lib.bytesWorld w 5 t) := Any.strconv_ParseInt_10_at8_ok Tryz.laysC174 s hmax v h w
open Go.RowKit in
theorem Tryz.strconv_ParseInt_10_at8_syntax (s : ByteArray) (hlim : s.size ≤ 281474976710656) (h : Lib.parseIntB 8 s.data.toList = Lib.parseIntB 8 []) (ev : Value) (w : World) (hv : w.cell? ⟨4, 0, none⟩ = some ev) (hev : ev = .nilIface ∨ ∃ te pe, ev = .iface te pe) :
    Calls Tryz.prog 159 #[.string s, .int .i64 10, .int .i64 8] w fun e w' => ∃ N, e = .returned (.tuple #[.int .i64 (0), .iface 210 (.pointer (some ⟨N, 0, none⟩))]) ∧ w.heap.size ≤ N ∧ w'.heap[N]? = some (.cells #[.string ⟨#[80, 97, 114, 115, 101, 73, 110, 116]⟩, .string s, ev] 222 (0, 0)) ∧ Below w.heap.size w w' := Any.strconv_ParseInt_10_at8_syntax Tryz.laysC174 s hlim h ev w hv hev
open Go.RowKit in
theorem Tryz.strconv_ParseInt_10_at8_range (s : ByteArray) (hlim : s.size ≤ 281474976710656) (h : Lib.parseIntB 8 s.data.toList = .range) (ev : Value) (w : World) (hv : w.cell? ⟨5, 0, none⟩ = some ev) (hev : ev = .nilIface ∨ ∃ te pe, ev = .iface te pe) :
    Calls Tryz.prog 159 #[.string s, .int .i64 10, .int .i64 8] w fun e w' => ∃ N, e = .returned (.tuple #[.int .i64 (Lib.intSat 8 s.data.toList), .iface 210 (.pointer (some ⟨N, 0, none⟩))]) ∧ w.heap.size ≤ N ∧ w'.heap[N]? = some (.cells #[.string ⟨#[80, 97, 114, 115, 101, 73, 110, 116]⟩, .string s, ev] 222 (0, 0)) ∧ Below w.heap.size w w' := Any.strconv_ParseInt_10_at8_range Tryz.laysC174 s hlim h ev w hv hev
open Go.RowKit in
theorem Tryz.strconv_ParseUint_10_at64_ok (s : ByteArray) (hmax : s.size ≤ 9223372036854775806) (u : Nat) (h : Lib.parseUintB 64 s.data.toList = .ok u) (w : World) :
    Calls Tryz.prog 160 #[.string s, .int .i64 10, .int .i64 64] w fun e w' => e = .returned (.tuple #[.int .u64 u, .nilIface]) ∧ (w' = w ∨ w' = Lib.bytesWorld w 5 s) := Any.strconv_ParseUint_10_at64_ok Tryz.laysPu14 s hmax u h w
open Go.RowKit in
theorem Tryz.strconv_ParseUint_10_at64_syntax (s : ByteArray) (hlim : s.size ≤ 281474976710656) (h : Lib.parseUintB 64 s.data.toList = Lib.parseUintB 64 []) (ev : Value) (w : World) (hv : w.cell? ⟨4, 0, none⟩ = some ev) (hev : ev = .nilIface ∨ ∃ te pe, ev = .iface te pe) :
    Calls Tryz.prog 160 #[.string s, .int .i64 10, .int .i64 64] w fun e w' => ∃ N, e = .returned (.tuple #[.int .u64 0, .iface 210 (.pointer (some ⟨N, 0, none⟩))]) ∧ w.heap.size ≤ N ∧ w'.heap[N]? = some (.cells #[.string ⟨#[80, 97, 114, 115, 101, 85, 105, 110, 116]⟩, .string s, ev] 222 (0, 0)) ∧ Below w.heap.size w w' := Any.strconv_ParseUint_10_at64_syntax Tryz.laysPu14 s hlim h ev w hv hev
open Go.RowKit in
theorem Tryz.strconv_ParseUint_10_at64_range (s : ByteArray) (hlim : s.size ≤ 281474976710656) (h : Lib.parseUintB 64 s.data.toList = .range) (ev : Value) (w : World) (hv : w.cell? ⟨5, 0, none⟩ = some ev) (hev : ev = .nilIface ∨ ∃ te pe, ev = .iface te pe) :
    Calls Tryz.prog 160 #[.string s, .int .i64 10, .int .i64 64] w fun e w' => ∃ N, e = .returned (.tuple #[.int .u64 18446744073709551615, .iface 210 (.pointer (some ⟨N, 0, none⟩))]) ∧ w.heap.size ≤ N ∧ w'.heap[N]? = some (.cells #[.string ⟨#[80, 97, 114, 115, 101, 85, 105, 110, 116]⟩, .string s, ev] 222 (0, 0)) ∧ Below w.heap.size w w' := Any.strconv_ParseUint_10_at64_range Tryz.laysPu14 s hlim h ev w hv hev
open Go.RowKit in
theorem Tryz.strconv_ParseUint_10_at32_ok (s : ByteArray) (hmax : s.size ≤ 9223372036854775806) (u : Nat) (h : Lib.parseUintB 32 s.data.toList = .ok u) (w : World) :
    Calls Tryz.prog 160 #[.string s, .int .i64 10, .int .i64 32] w fun e w' => e = .returned (.tuple #[.int .u64 u, .nilIface]) ∧ (w' = w ∨ w' = Lib.bytesWorld w 5 s) := Any.strconv_ParseUint_10_at32_ok Tryz.laysPu14 s hmax u h w
open Go.RowKit in
theorem Tryz.strconv_ParseUint_10_at32_syntax (s : ByteArray) (hlim : s.size ≤ 281474976710656) (h : Lib.parseUintB 32 s.data.toList = Lib.parseUintB 32 []) (ev : Value) (w : World) (hv : w.cell? ⟨4, 0, none⟩ = some ev) (hev : ev = .nilIface ∨ ∃ te pe, ev = .iface te pe) :
    Calls Tryz.prog 160 #[.string s, .int .i64 10, .int .i64 32] w fun e w' => ∃ N, e = .returned (.tuple #[.int .u64 0, .iface 210 (.pointer (some ⟨N, 0, none⟩))]) ∧ w.heap.size ≤ N ∧ w'.heap[N]? = some (.cells #[.string ⟨#[80, 97, 114, 115, 101, 85, 105, 110, 116]⟩, .string s, ev] 222 (0, 0)) ∧ Below w.heap.size w w' := Any.strconv_ParseUint_10_at32_syntax Tryz.laysPu14 s hlim h ev w hv hev
open Go.RowKit in
theorem Tryz.strconv_ParseUint_10_at32_range (s : ByteArray) (hlim : s.size ≤ 281474976710656) (h : Lib.parseUintB 32 s.data.toList = .range) (ev : Value) (w : World) (hv : w.cell? ⟨5, 0, none⟩ = some ev) (hev : ev = .nilIface ∨ ∃ te pe, ev = .iface te pe) :
    Calls Tryz.prog 160 #[.string s, .int .i64 10, .int .i64 32] w fun e w' => ∃ N, e = .returned (.tuple #[.int .u64 4294967295, .iface 210 (.pointer (some ⟨N, 0, none⟩))]) ∧ w.heap.size ≤ N ∧ w'.heap[N]? = some (.cells #[.string ⟨#[80, 97, 114, 115, 101, 85, 105, 110, 116]⟩, .string s, ev] 222 (0, 0)) ∧ Below w.heap.size w w' := Any.strconv_ParseUint_10_at32_range Tryz.laysPu14 s hlim h ev w hv hev
open Go.RowKit in
theorem Tryz.strconv_ParseUint_10_at16_ok (s : ByteArray) (hmax : s.size ≤ 9223372036854775806) (u : Nat) (h : Lib.parseUintB 16 s.data.toList = .ok u) (w : World) :
    Calls Tryz.prog 160 #[.string s, .int .i64 10, .int .i64 16] w fun e w' => e = .returned (.tuple #[.int .u64 u, .nilIface]) ∧ (w' = w ∨ w' = Lib.bytesWorld w 5 s) := Any.strconv_ParseUint_10_at16_ok Tryz.laysPu14 s hmax u h w
open Go.RowKit in
theorem Tryz.strconv_ParseUint_10_at16_syntax (s : ByteArray) (hlim : s.size ≤ 281474976710656) (h : Lib.parseUintB 16 s.data.toList = Lib.parseUintB 16 []) (ev : Value) (w : World) (hv : w.cell? ⟨4, 0, none⟩ = some ev) (hev : ev = .nilIface ∨ ∃ te pe, ev = .iface te pe) :
    Calls Tryz.prog 160 #[.string s, .int .i64 10, .int .i64 16] w fun e w' => ∃ N, e = .returned (.tuple #[.int .u64 0, .iface 210 (.pointer (some ⟨N, 0, none⟩))]) ∧ w.heap.size ≤ N ∧ w'.heap[N]? = some (.cells #[.string ⟨#[80, 97, 114, 115, 101, 85, 105, 110, 116]⟩, .string s, ev] 222 (0, 0)) ∧ Below w.heap.size w w' := Any.strconv_ParseUint_10_at16_syntax Tryz.laysPu14 s hlim h ev w hv hev
open Go.RowKit in
theorem Tryz.strconv_ParseUint_10_at16_range (s : ByteArray) (hlim : s.size ≤ 281474976710656) (h : Lib.parseUintB 16 s.data.toList = .range) (ev : Value) (w : World) (hv : w.cell? ⟨5, 0, none⟩ = some ev) (hev : ev = .nilIface ∨ ∃ te pe, ev = .iface te pe) :
    Calls Tryz.prog 160 #[.string s, .int .i64 10, .int .i64 16] w fun e w' => ∃ N, e = .returned (.tuple #[.int .u64 65535, .iface 210 (.pointer (some ⟨N, 0, none⟩))]) ∧ w.heap.size ≤ N ∧ w'.heap[N]? = some (.cells #[.string ⟨#[80, 97, 114, 115, 101, 85, 105, 110, 116]⟩, .string s, ev] 222 (0, 0)) ∧ Below w.heap.size w w' := Any.strconv_ParseUint_10_at16_range Tryz.laysPu14 s hlim h ev w hv hev
open Go.RowKit in
theorem Tryz.strconv_ParseUint_10_at8_ok (s : ByteArray) (hmax : s.size ≤ 9223372036854775806) (u : Nat) (h : Lib.parseUintB 8 s.data.toList = .ok u) (w : World) :
    Calls Tryz.prog 160 #[.string s, .int .i64 10, .int .i64 8] w fun e w' => e = .returned (.tuple #[.int .u64 u, .nilIface]) ∧ (w' = w ∨ w' = Lib.bytesWorld w 5 s) := Any.strconv_ParseUint_10_at8_ok Tryz.laysPu14 s hmax u h w
open Go.RowKit in
theorem Tryz.strconv_ParseUint_10_at8_syntax (s : ByteArray) (hlim : s.size ≤ 281474976710656) (h : Lib.parseUintB 8 s.data.toList = Lib.parseUintB 8 []) (ev : Value) (w : World) (hv : w.cell? ⟨4, 0, none⟩ = some ev) (hev : ev = .nilIface ∨ ∃ te pe, ev = .iface te pe) :
    Calls Tryz.prog 160 #[.string s, .int .i64 10, .int .i64 8] w fun e w' => ∃ N, e = .returned (.tuple #[.int .u64 0, .iface 210 (.pointer (some ⟨N, 0, none⟩))]) ∧ w.heap.size ≤ N ∧ w'.heap[N]? = some (.cells #[.string ⟨#[80, 97, 114, 115, 101, 85, 105, 110, 116]⟩, .string s, ev] 222 (0, 0)) ∧ Below w.heap.size w w' := Any.strconv_ParseUint_10_at8_syntax Tryz.laysPu14 s hlim h ev w hv hev
open Go.RowKit in
theorem Tryz.strconv_ParseUint_10_at8_range (s : ByteArray) (hlim : s.size ≤ 281474976710656) (h : Lib.parseUintB 8 s.data.toList = .range) (ev : Value) (w : World) (hv : w.cell? ⟨5, 0, none⟩ = some ev) (hev : ev = .nilIface ∨ ∃ te pe, ev = .iface te pe) :
    Calls Tryz.prog 160 #[.string s, .int .i64 10, .int .i64 8] w fun e w' => ∃ N, e = .returned (.tuple #[.int .u64 255, .iface 210 (.pointer (some ⟨N, 0, none⟩))]) ∧ w.heap.size ≤ N ∧ w'.heap[N]? = some (.cells #[.string ⟨#[80, 97, 114, 115, 101, 85, 105, 110, 116]⟩, .string s, ev] 222 (0, 0)) ∧ Below w.heap.size w w' := Any.strconv_ParseUint_10_at8_range Tryz.laysPu14 s hlim h ev w hv hev
open Go.RowKit Go.Lib in
theorem Tryz.strings_HasPrefix (s p : ByteArray) (w : World) :
    Calls Tryz.prog 52 #[.string s, .string p] w fun e w' => e = .returned (.bool (Lib.hasPrefix s.data.toList p.data.toList)) ∧ w' = w := Any.strings_HasPrefix Tryz.lays99 s p w
open Go.RowKit Go.Lib in
theorem Tryz.strings_TrimPrefix (s p : ByteArray) (w : World) :
    Calls Tryz.prog 158 #[.string s, .string p] w fun e w' => e = .returned (.string ⟨(Lib.trimPrefix s.data.toList p.data.toList).toArray⟩) ∧ w' = w := Any.strings_TrimPrefix Tryz.lays101 s p w
open Go.RowKit Go.Lib in
theorem Tryz.utf8_DecodeRuneInString (s : ByteArray) (w : World) (hT : Lib.Utf8Tabs 0 1 w) :
    Calls Tryz.prog 96 #[.string s] w fun e w' => e = .returned (.tuple #[.int .i32 (Lib.decodeGo s).1, .int .i64 (Lib.decodeGo s).2]) ∧ Below w.heap.size w w' := Any.utf8_DecodeRuneInString Tryz.lays197 s w hT
end Go.Proofs
namespace Go.Proofs.YtnacobknngidkaaGreatDoor
open Go Go.Sv Go.RowKit Go.Note
set_option linter.unusedVariables false
theorem strBytes_run (s : ByteArray) (w : World) : ∃ c w', (convert 9 55 (.string s)).run Tryz.prog w = .ok (.slice (some ⟨w.heap.size, 0, none⟩) s.size c) w' ∧ (∃ cs : List Value, blk w' w.heap.size = some cs ∧ ∀ (j : Nat) (x : UInt8), s.data.toList[j]? = some x → cs[j]? = some (Value.int .u8 (x.toNat : Int))) ∧ Ch (fun _ => False) w w' ∧ w'.heap.size = w.heap.size + 1 := by
  refine ⟨_, _, run_bytes_of_string (P := Tryz.prog) w 9 55 5 s uString uBytes uByte, ⟨(bytesRow s (grownCap w s.size 0 5)).toList, ?_, ?_⟩, (Ch.drew w).trans' (alloc_ch w.drew _), by simp⟩
  · have : (w.drew.alloc (.cells (bytesRow s (grownCap w s.size 0 5)) 5 ((bytesRow s (grownCap w s.size 0 5)).size, (bytesRow s (grownCap w s.size 0 5)).size + 1))).heap[w.heap.size]? = _ := heap_alloc_new w.drew _
    unfold blk
    rw [this]
    simp
  · intro j x hx
    rw [Array.getElem?_toList]
    have hj : j < s.data.toList.length := (List.getElem?_eq_some_iff.1 hx).1
    have hj' : j < s.data.size := by simpa using hj
    rw [bytesRow_at s _ j hj']
    rw [List.getElem?_eq_getElem hj] at hx
    have : s.data.toList[j] = s.data[j] := by simp
    rw [this] at hx
    rw [Option.some.inj hx]
abbrev hexS : ByteArray := ByteArray.mk (Array.mk [(48 : UInt8), (49 : UInt8), (50 : UInt8), (51 : UInt8), (52 : UInt8), (53 : UInt8), (54 : UInt8), (55 : UInt8), (56 : UInt8), (57 : UInt8), (97 : UInt8), (98 : UInt8), (99 : UInt8), (100 : UInt8), (101 : UInt8), (102 : UInt8)])
theorem hexS_at (n : Nat) (h : n < 16) : byteAt hexS n = ((hexD n).toNat : Int) := by
  have : ∀ n : Fin 16, byteAt hexS n.val = ((hexD n.val).toNat : Int) := by decide +kernel
  exact this ⟨n, h⟩
theorem nib_hi (x : UInt8) : Int.fdiv (x.toNat : Int) ((2 : Int) ^ (4 : Nat)) = ((x.toNat / 16 : Nat) : Int) := by
  rw [Int.fdiv_eq_ediv_of_nonneg _ (by decide)]; rfl
theorem nib_lo (x : UInt8) : bitsV .and .u8 (x.toNat : Int) 15 = ((x.toNat % 16 : Nat) : Int) := by
  have h : ∀ x : Fin 256, bitsV .and .u8 (x.val : Int) 15 = ((x.val % 16 : Nat) : Int) := by decide +kernel
  exact h ⟨x.toNat, x.toNat_lt⟩
theorem BAt.gcells {w : World} {T : TypeId} {b : Nat} {l : List UInt8} {g : Option Nat} (h : BAt w T b l g) : ∀ k, g = some k → ∃ T' cs fz, w.heap[k]? = some (.cells cs T' fz) := by
  obtain ⟨p, v, _, _, h3, h4, _⟩ := h
  intro k hk
  rcases h3.2 with ⟨rfl, _⟩ | ⟨g', cap, cur, rfl, _, hg, _⟩
  · rw [← h4] at hk; cases hk
  · rw [← h4] at hk
    have : g' = k := Option.some.inj hk
    subst this
    exact ⟨_, _, _, hg⟩
theorem BW.trans {w w1 w2 : World} {T : TypeId} {b : Nat} {l2 : List UInt8} {g g1 : Option Nat} (h0 : b < w.heap.size) (c1 : Ch (fun k => k = b ∨ g = some k) w w1) (hg1 : ∀ k, g1 = some k → g = some k ∨ w.heap.size ≤ k) (h2 : BW w1 w2 T b l2 g1) : BW w w2 T b l2 g := by
  obtain ⟨g2, B2, n2, c2⟩ := h2
  refine ⟨g2, B2, fun k hk => ?_, c1.trans c2 fun x hx hs => ?_⟩
  · rcases n2 k hk with h | h
    · exact hg1 k h
    · exact .inr (Nat.le_trans c1.size h)
  · rcases hs with h | h
    · exact .inl h
    · rcases hg1 x h with h | h
      · exact .inr h
      · omega
theorem esc_append (a b : List UInt8) : esc (a ++ b) = esc a ++ esc b := by
  induction a with
  | nil => rfl
  | cons x a ih => simp [esc, ih]
theorem escLeaf {s : ByteArray} {n n3 : Int} {w7 : World} {b : Nat} {T : TypeId} {l : List UInt8} {g : Option Nat} {p k : Nat} (hn : n = (p : Int)) (hn3 : n3 = (k : Int)) (hp : p + k ≤ s.size) (hs : s.size ≤ 2 ^ 40) (hB : BAt w7 T b l g) (hT : BT T) (hl : l.length + 4 * k ≤ 2 ^ 45) {F : World → Prop}
    (hF : ∀ w', BW w7 w' T b (l ++ esc ((s.data.toList.drop p).take k)) g → F w') :
    (0 : Int) ≤ IntKind.wrap IntKind.i64 (n + n3) ∧ IntKind.wrap IntKind.i64 (n + n3) ≤ (↑(ByteArray.size s) : Int) ∧ (0 : Int) ≤ n ∧ n ≤ IntKind.wrap IntKind.i64 (n + n3) ∧ ∃ (p1 : Option Addr), ∃ (n4 : Nat), ∃ (c : Nat), ∃ (w8 : World), Sem.run Tryz.prog (convert 9 55 (Value.string (ByteArray.extract s (Int.toNat n) (Int.toNat (IntKind.wrap IntKind.i64 (n + n3)))))) w7 = Result.ok (Value.slice p1 n4 c) w8 ∧ ∃ (I1 : Nat → Int → World → Prop), (∃ (m1 : Nat), I1 m1 (0 : Int) w8) ∧ ∀ (m1 : Nat) (n5 : Int) (w9 : World), I1 m1 n5 w9 → Sif (decide (n5 < (↑n4 : Int))) ((0 : Int) ≤ n5 ∧ n5 < (↑n4 : Int) ∧ nn p1 fun (a1 : Addr) => ∃ (n6 : Int), World.cell? w9 (Addr.add a1 (Int.toNat n5 * (1 : Nat))) = some (Value.int IntKind.u8 n6) ∧ callP Tryz.prog 54 [Value.pointer (some ⟨b, 0, none⟩), Value.string (ByteArray.mk (Array.mk [(92 : UInt8), (120 : UInt8)]))] w9 fun (v3 : Value) (w10 : World) => ∃ (n7 : Int), ∃ (v4 : Value), v3 = Value.tuple (Array.mk [Value.int IntKind.i64 n7, v4]) ∧ (0 : Int) ≤ (4 : Int) ∧ (0 : Int) ≤ Int.fdiv n6 ((2 : Int) ^ (4 : Nat)) ∧ Int.fdiv n6 ((2 : Int) ^ (4 : Nat)) < (↑(16 : Nat) : Int) ∧ callP Tryz.prog 50 [Value.pointer (some ⟨b, 0, none⟩), Value.int IntKind.u8 (byteAt hexS (Int.toNat (Int.fdiv n6 ((2 : Int) ^ (4 : Nat)))))] w10 fun (v5 : Value) (w11 : World) => ∃ (v6 : Value), v5 = v6 ∧ (0 : Int) ≤ bitsV BinOp.and IntKind.u8 n6 (15 : Int) ∧ bitsV BinOp.and IntKind.u8 n6 (15 : Int) < (↑(16 : Nat) : Int) ∧ callP Tryz.prog 50 [Value.pointer (some ⟨b, 0, none⟩), Value.int IntKind.u8 (byteAt hexS (Int.toNat (bitsV BinOp.and IntKind.u8 n6 (15 : Int))))] w11 fun (v7 : Value) (w12 : World) => ∃ (v8 : Value), v7 = v8 ∧ ∃ (m' : Nat), m' < m1 ∧ I1 m' (IntKind.wrap IntKind.i64 (n5 + (1 : Int))) w12) (F w9) := by
  subst hn hn3
  rw [wrap_id (n := (p : Int) + (k : Int)) (by omega) (by omega)]
  refine ⟨by omega, by omega, by omega, by omega, ?_⟩
  rw [show ((p : Int) + (k : Int)).toNat = p + k by omega, Int.toNat_natCast]
  obtain ⟨c, w8, r1, ⟨cs, b1, g1⟩, c1, z1⟩ := strBytes_run (s.extract p (p + k)) w7
  refine ⟨_, _, c, w8, r1, ?_⟩
  have hsz : (s.extract p (p + k)).size = k := by rw [ByteArray.size_extract]; omega
  have hdat : (s.extract p (p + k)).data.toList = (s.data.toList.drop p).take k := by
    rw [ByteArray.data_extract]
    simp [Array.toList_extract, List.extract_eq_take_drop]
  rw [hsz]
  rw [hdat] at g1
  generalize hP : (s.data.toList.drop p).take k = P at g1 hF
  have hPl : P.length = k := by
    have : s.data.size = s.size := rfl
    rw [← hP, List.length_take, List.length_drop, Array.length_toList]; omega
  have hb := hB.lt
  have hgl := hB.glt
  refine ⟨fun m1 n5 w9 => ∃ i g', n5 = ((i : Nat) : Int) ∧ i ≤ k ∧ m1 = k - i ∧ BAt w9 T b (l ++ esc (P.take i)) g' ∧ (∀ q, g' = some q → g = some q ∨ w8.heap.size ≤ q) ∧ Ch (fun q => q = b ∨ g = some q) w7 w9 ∧ blk w9 w7.heap.size = some cs ∧ w8.heap.size ≤ w9.heap.size, ⟨k, 0, g, rfl, by omega, rfl, ?_, fun q hq => .inl hq, c1.mono fun _ _ h => h.elim, b1, Nat.le_refl _⟩, ?_⟩
  · rw [List.take_zero, esc, List.append_nil]
    exact hB.ch c1 (fun h => h) fun _ _ h => h
  rintro m1 n5 w9 ⟨i, g', rfl, hi, rfl, B9, n9, c9, b9, z9⟩
  refine Sif_cases (fun h => ?_) (fun h => ?_)
  · have hik : i < k := by have := of_decide_eq_true h; omega
    have hx : P[i]? = some P[i] := List.getElem?_eq_getElem (by omega)
    generalize P[i] = x at hx
    refine ⟨by omega, by omega, ?_⟩
    simp only [nn]
    refine ⟨(x.toNat : Int), ?_, ?_⟩
    · rw [add_at, cell_blk b9, Int.toNat_natCast, Nat.zero_add, Nat.mul_one]
      exact g1 i x hx
    have hlen : (l ++ esc (P.take i)).length ≤ 2 ^ 45 := by
      rw [List.length_append, esc_len, List.length_take]; omega
    have hb9 := B9.lt
    refine WriteString_ok B9 hT _ (by show (l ++ esc (P.take i)).length + 2 ≤ 2 ^ 46; omega) fun w10 B10 => ⟨_, _, rfl, by omega, ?_⟩
    rw [nib_hi, nib_lo]
    have hx256 := x.toNat_lt
    refine ⟨by omega, by omega, ?_⟩
    rw [Int.toNat_natCast, hexS_at _ (by omega)]
    obtain ⟨g10, A10, n10, c10⟩ := B10
    refine WriteByte_ok A10 hT _ (by rw [List.length_append]; show (l ++ esc (P.take i)).length + 2 + 1 ≤ 2 ^ 46; omega) fun w11 B11 => ⟨_, rfl, by omega, by omega, ?_⟩
    rw [Int.toNat_natCast, hexS_at _ (by omega)]
    obtain ⟨g11, A11, n11, c11⟩ := B11
    refine WriteByte_ok A11 hT _ (by rw [List.length_append, List.length_append]; show (l ++ esc (P.take i)).length + 2 + 1 + 1 ≤ 2 ^ 46; omega) fun w12 B12 => ⟨_, rfl, ?_⟩
    have B13 := BW.trans hb9 c10 n10 (BW.trans A10.lt c11 n11 B12)
    obtain ⟨g12, A12, n12, c12⟩ := B13
    refine ⟨k - (i + 1), by omega, i + 1, g12, ?_, by omega, rfl, ?_, ?_, ?_, ?_, ?_⟩
    · rw [wrap_id (n := (i : Int) + 1) (by omega) (by omega)]; omega
    · have e : l ++ esc (P.take (i + 1)) = l ++ esc (P.take i) ++ (ByteArray.mk (Array.mk [(92 : UInt8), (120 : UInt8)])).data.toList ++ [hexD (x.toNat / 16)] ++ [hexD (x.toNat % 16)] := by
        rw [List.take_add_one, hx]
        simp [esc_append, esc]
      rw [e]
      exact A12
    · intro q hq
      rcases n12 q hq with h | h
      · exact n9 q h
      · exact .inr (by omega)
    · refine c9.trans c12 fun y hy hs => ?_
      rcases hs with h | h
      · exact .inl h
      · rcases n9 y h with h | h
        · exact .inr h
        · omega
    · rw [c12.blk (blk_lt b9) ?_]
      · exact b9
      · rintro (h | h)
        · omega
        · rcases n9 _ h with h | h
          · have := hgl _ h; omega
          · omega
    · have := c12.size; omega
  · have : i = k := by have := of_decide_eq_false h; omega
    subst this
    rw [List.take_of_length_le (by omega)] at B9
    exact hF w9 ⟨g', B9, fun q hq => (n9 q hq).imp id fun h => by omega, c9⟩
theorem says_len {l : List UInt8} {r n : Nat} (h : Says l r n) : Lib.runeLen (r : Int) = (n : Int) := by
  obtain ⟨_, _, h3, h4, h5⟩ := h
  unfold Lib.runeLen
  rcases h5 with ⟨rfl, h, _⟩ | ⟨rfl, h, h', _⟩ | ⟨rfl, h, h'⟩ | ⟨rfl, h⟩
  · rw [if_neg (by omega), if_pos (by omega)]; rfl
  · rw [if_neg (by omega), if_neg (by omega), if_pos (by omega)]; rfl
  · rw [if_neg (by omega), if_neg (by omega), if_neg (by omega), if_neg (by omega), if_pos (by omega)]; rfl
  · rw [if_neg (by omega), if_neg (by omega), if_neg (by omega), if_neg (by omega), if_neg (by omega), if_pos (by omega)]; rfl
attribute [local irreducible] Sif
theorem Quote_ok {w : World} (s : ByteArray) (hs : s.size ≤ 2 ^ 40) {K : Value → World → Prop}
    (hk : ∀ w', Ch (fun _ => False) w w' → K (.string ⟨(quoteB s.data.toList).toArray⟩) w') : callP Tryz.prog 26 [.string s] w K := by
  apply ok_note_Quote
  unfold wp_note_Quote
  unfold newB
  have hB0 : BAt (w.alloc (.cells [Value.pointer none, Value.slice none 0 0].toArray 57)) TB w.heap.size [] none := BAt.new
  have c0 : Ch (fun _ => False) w (w.alloc (.cells [Value.pointer none, Value.slice none 0 0].toArray 57)) := alloc_ch w _
  have z0 : (w.alloc (.cells [Value.pointer none, Value.slice none 0 0].toArray 57)).heap.size = w.heap.size + 1 := by simp
  generalize w.alloc (.cells [Value.pointer none, Value.slice none 0 0].toArray 57) = w1 at hB0 c0 z0 ⊢
  have hT : BT TB := .inl rfl
  refine WriteByte_ok hB0 hT 34 (by simp) fun w2 B2 => ⟨_, rfl, ?_⟩
  obtain ⟨g2, A2, n2, c2⟩ := B2
  have c2' : Ch (fun _ => False) w w2 := c0.trans c2 fun x hx hs => by
    rcases hs with h | h
    · omega
    · cases h
  have n2' : ∀ k, g2 = some k → w.heap.size ≤ k := fun k hk => by
    rcases n2 k hk with h | h
    · cases h
    · omega
  refine ⟨_, _, run_range_string (P := Tryz.prog) w2 _ s uString, ?_⟩
  have i3 : (w2.iter s 0).heap[w2.heap.size]? = some (.stringIter s 0) := heap_alloc_new w2 _
  have c3 : Ch (fun _ => False) w2 (w2.iter s 0) := alloc_ch w2 _
  have z3 : (w2.iter s 0).heap.size = w2.heap.size + 1 := by simp [World.iter]
  have A3 := A2.ch c3 (fun h => h) fun _ _ h => h
  generalize w2.iter s 0 = w3 at i3 c3 z3 A3 ⊢
  generalize hit : w2.heap.size = it at i3 z3 ⊢
  have hgit : ∀ k, g2 = some k → k < it := fun k hk => by rw [← hit]; exact A2.glt k hk
  have hbit : w.heap.size < it := by rw [← hit]; exact A2.lt
  refine ⟨fun m w4 => ∃ pos out g, pos ≤ s.size ∧ m = s.size - pos ∧ w4.heap[it]? = some (.stringIter s pos) ∧ BAt w4 TB w.heap.size out g ∧ (∀ k, g = some k → w.heap.size ≤ k) ∧ Ch (fun _ => False) w w4 ∧ out.length ≤ 4 * pos + 1 ∧ out ++ qb (s.data.toList.drop pos) = 34 :: qb s.data.toList,
    ⟨s.size, 0, [34], g2, by omega, rfl, i3, A3, n2', c2'.trans' c3, by simp, by simp⟩, ?_⟩
  rintro m w4 ⟨pos, out, g, hpos, rfl, i4, A4, n4, c4, hlen, heq⟩
  have hgne : ∀ k, g = some k → k ≠ it := by
    rintro k hk rfl
    obtain ⟨T', cs, fz, e⟩ := A4.gcells k hk
    rw [i4] at e; cases e
  by_cases hp : pos < s.size
  · right
    obtain ⟨l, hl⟩ : ∃ l, l = s.data.toList.drop pos := ⟨_, rfl⟩
    have hll : l.length = s.size - pos := by rw [hl, List.length_drop, Array.length_toList]; rfl
    have hlne : l ≠ [] := fun e => by rw [e] at hll; simp at hll; omega
    obtain ⟨r, n, hdec, hsp⟩ : ∃ r n, Utf8.decode s pos = (r, n) ∧ ((chr l = 0 ∧ r = 65533 ∧ n = 1) ∨ (Says l r n ∧ n ≠ 0)) := by
      rcases decode_says hp with ⟨h1, h2⟩ | ⟨r, n, h1, h2, h3⟩
      · exact ⟨_, _, h2, .inl ⟨by rw [hl]; exact h1, rfl, rfl⟩⟩
      · exact ⟨_, _, h1, .inr ⟨by rw [hl]; exact h2, h3⟩⟩
    obtain ⟨hw, hcase⟩ := piece_cases hlne hsp
    have hn := wide_le l hlne
    have hn1 := wide_pos l
    rw [hw] at hn hn1
    have hnx := Lib.run_next_any_at (P := Tryz.prog) w4 it s pos 3 i4 hp
    rw [hdec] at hnx
    refine ⟨(pos : Int), (r : Int), _, hnx, ?_⟩
    have i5 : (w4.iterAt it s (pos + n)).heap[it]? = some (.stringIter s (pos + n)) := Lib.iterAt_heap w4 it s pos _ i4
    have c5 : Ch (· = it) w4 (w4.iterAt it s (pos + n)) := ⟨rfl, rfl, rfl, by rw [Lib.iterAt_size]; exact Nat.le_refl _, fun k _ hn => Lib.iterAt_other w4 it k s _ hn⟩
    have A5 : BAt (w4.iterAt it s (pos + n)) TB w.heap.size out g := A4.ch c5 (by omega) fun k hk => hgne k hk
    dsimp only
    generalize w4.iterAt it s (pos + n) = w5 at i5 c5 A5 ⊢
    -- what ends a round
    have fin : ∀ w' ys, ys = qpiece (l.take n) → BW w5 w' TB w.heap.size (out ++ ys) g → ∃ m', m' < s.size - pos ∧ ∃ pos' out' g', pos' ≤ s.size ∧ m' = s.size - pos' ∧ w'.heap[it]? = some (.stringIter s pos') ∧ BAt w' TB w.heap.size out' g' ∧ (∀ k, g' = some k → w.heap.size ≤ k) ∧ Ch (fun _ => False) w w' ∧ out'.length ≤ 4 * pos' + 1 ∧ out' ++ qb (s.data.toList.drop pos') = 34 :: qb s.data.toList := by
      rintro w' ys hys ⟨g', A', n', c'⟩
      refine ⟨s.size - (pos + n), by omega, pos + n, out ++ ys, g', by omega, rfl, ?_, A', ?_, ?_, ?_, ?_⟩
      · have hlt5 : it < w5.heap.size := lt_of_heap i5
        rw [c'.keep it hlt5 ?_]
        · exact i5
        · rintro (h | h)
          · omega
          · exact hgne it h rfl
      · intro k hk
        rcases n' k hk with h | h
        · exact n4 k h
        · have := c5.size; have := c4.size; omega
      · refine (c4.trans c5 fun x hx hs => ?_).trans c' fun x hx hs => ?_
        · omega
        · rcases hs with h | h
          · omega
          · have := n4 x h; omega
      · rw [List.length_append, hys]
        have := (qpiece_len (l.take n)).2 (by
          intro e
          have := congrArg List.length e
          rw [List.length_take] at this
          simp only [List.length_nil] at this; omega)
        rw [List.length_take] at this
        omega
      · rw [← heq, List.append_assoc, hys, ← hl, qb_cons l hlne, hw, hl, List.drop_drop]
    have hr31 : r < 2 ^ 31 := by
      rcases hsp with ⟨_, h, _⟩ | ⟨⟨_, _, _, h, _⟩, _⟩ <;> omega
    refine (Tryz.utf8_RuneLen (r : Int) w5).mono ?_
    rintro e w' ⟨rfl, rfl⟩
    refine ⟨_, rfl, _, rfl, ?_⟩
    -- how wide the piece is, as the program has it
    have esc_done : qpiece (l.take n) = esc (l.take n) → ∀ w'', BW w' w'' TB w.heap.size (out ++ esc ((s.data.toList.drop pos).take n)) g → _ := fun he w'' hb => fin w'' _ he.symm (by rw [hl]; exact hb)
    refine ⟨fun n3 w7 => w7 = w' ∧ n3 = (n : Int), ?_, ?_⟩
    · rintro n3 w7 ⟨rfl, rfl⟩
      rcases hcase with ⟨hr, hq, he⟩ | ⟨rfl, hq⟩ | ⟨h34, h92, h10, hr, hq, he, hv1, hv2⟩ | ⟨h34, h92, h10, hr, hq⟩
      · have bs : ∀ (F : World → Prop), (∀ w9, BW w7 w9 TB w.heap.size (out ++ qpiece (l.take n)) g → F w9) → callP Tryz.prog 50 [.pointer (some ⟨w.heap.size, 0, none⟩), .int .u8 92] w7 fun v3 w8 => ∃ v4, v3 = v4 ∧ callP Tryz.prog 53 [.pointer (some ⟨w.heap.size, 0, none⟩), .int .i32 (r : Int)] w8 fun v5 w9 => ∃ n4 v6, v5 = .tuple #[.int .i64 n4, v6] ∧ F w9 := by
          intro F hF
          refine WriteByte_ok A5 hT 92 (by omega) fun w8 B8 => ⟨_, rfl, ?_⟩
          obtain ⟨g8, A8, n8, c8⟩ := B8
          refine WriteRune_ok A8 hT r (by omega) (by omega) (by rw [List.length_append]; show out.length + 1 + 4 ≤ _; omega) fun w9 n9 B9 => ⟨_, _, rfl, hF w9 ?_⟩
          rw [he] at B9
          have := BW.trans A5.lt c8 n8 B9
          rw [hq]
          rwa [List.append_assoc] at this
        have hfin := bs _ (fun w9 B9 => fin w9 _ rfl B9)
        rcases hr with rfl | rfl
        · exact Sif_cases (fun h => absurd h (by decide)) fun _ => hfin
        · exact Sif_cases (fun _ => Sif_cases (fun _ => hfin) fun h => absurd h (by decide)) fun h => absurd h (by decide)
      · refine Sif_cases (fun _ => ?_) fun h => absurd h (by decide)
        refine Sif_cases (fun h => absurd h (by decide)) fun _ => ?_
        refine Sif_cases (fun _ => ?_) fun h => absurd h (by decide)
        refine WriteString_ok A5 hT _ (by show out.length + 2 ≤ _; omega) fun w8 B8 => ⟨_, _, rfl, ?_⟩
        exact fin w8 _ hq.symm B8
      · have wr0 : ∀ (F : World → Prop), (∀ w8, BW w7 w8 TB w.heap.size (out ++ l.take n) g → F w8) → callP Tryz.prog 53 [.pointer (some ⟨w.heap.size, 0, none⟩), .int .i32 (r : Int)] w7 fun v3 w8 => ∃ n4 v4, v3 = .tuple #[.int .i64 n4, v4] ∧ F w8 :=
          fun F hF => WriteRune_ok A5 hT r hv1 hv2 (by omega) fun w8 n9 B8 => ⟨_, _, rfl, hF w8 (by rw [he] at B8; exact B8)⟩
        have wr := wr0 _ (fun w8 B8 => fin w8 _ hq.symm B8)
        refine Sif_cases (fun _ => ?_) (fun h => by simp at h; omega)
        refine Sif_cases (fun h => by simp at h; omega) (fun _ => ?_)
        refine Sif_cases (fun h => by simp at h; omega) (fun _ => ?_)
        refine Sif_cases (fun _ => ?_) (fun h => by simp at h; omega)
        refine Sif_cases (fun h => ?_) (fun _ => wr)
        refine Sif_cases (fun _ => ?_) (fun h2 => by simp at h h2; omega)
        exact Sif_cases (fun _ => wr) (fun h2 => by simp at h h2; omega)
      · have leaf := fun F hF => escLeaf (n := (pos : Int)) (n3 := (n : Int)) (p := pos) (k := n) (s := s) (F := F) rfl rfl (by omega) hs A5 hT (by omega) hF
        have lf := leaf _ (fun w9 B9 => fin w9 _ hq.symm (by rw [hl]; exact B9))
        refine Sif_cases (fun _ => ?_) (fun h => by simp at h; omega)
        refine Sif_cases (fun h => by simp at h; omega) (fun _ => ?_)
        refine Sif_cases (fun h => by simp at h; omega) (fun _ => ?_)
        refine Sif_cases (fun h => ?_) (fun h => ?_)
        · refine Sif_cases (fun h2 => ?_) (fun h2 => by simp at h h2; omega)
          refine Sif_cases (fun h3 => ?_) (fun h3 => lf)
          exact Sif_cases (fun h4 => by simp at h h2 h3 h4; omega) (fun h4 => lf)
        · refine Sif_cases (fun h3 => by simp at h h3; omega) (fun h3 => lf)
    · refine Sif_cases (fun h => ?_) (fun h => ?_)
      · have hr : r = 65533 := by simp at h; omega
        refine ⟨by omega, by omega, ?_⟩
        rw [Int.toNat_natCast]
        refine (Tryz.strings_HasPrefix _ _ _).mono ?_
        rintro e w'' ⟨rfl, rfl⟩
        refine ⟨_, rfl, _, rfl, ?_⟩
        have hext : (s.extract pos s.size).data.toList = l := by
          rw [hl, ByteArray.data_extract, Array.toList_extract, List.extract_eq_take_drop, List.take_of_length_le]
          rw [List.length_drop, Array.length_toList]
          exact Nat.le_refl _
        rw [hext]
        rcases hsp with ⟨h1, h2, h3⟩ | ⟨h1, h2⟩
        · have hf : Lib.hasPrefix l (ByteArray.mk (Array.mk [(239 : UInt8), (191 : UInt8), (189 : UInt8)])).data.toList = false := by
            cases hb : Lib.hasPrefix l (ByteArray.mk (Array.mk [(239 : UInt8), (191 : UInt8), (189 : UInt8)])).data.toList with
            | false => rfl
            | true =>
              obtain ⟨t, ht⟩ := List.isPrefixOf_iff_prefix.1 hb
              have ht' : l = 239 :: 191 :: 189 :: t := ht.symm
              rw [chr_ch, ht'] at h1
              have e0 : ch (239 :: 191 :: 189 :: t) 0 = 239 := rfl
              have e1 : ch (239 :: 191 :: 189 :: t) 1 = 191 := rfl
              have e2 : ch (239 :: 191 :: 189 :: t) 2 = 189 := rfl
              rw [e0, e1, e2] at h1
              simp at h1
          rw [hf]
          exact Sif_cases (fun _ => ⟨rfl, by omega⟩) (fun h => by cases h)
        · have hf : Lib.hasPrefix l (ByteArray.mk (Array.mk [(239 : UInt8), (191 : UInt8), (189 : UInt8)])).data.toList = true := by
            have hn3 : n = 3 := by
              obtain ⟨_, _, _, _, h5⟩ := h1
              rcases h5 with ⟨_, h, _⟩ | ⟨_, _, h, _⟩ | ⟨h, _⟩ | ⟨_, h⟩ <;> omega
            have e := h1.2.1
            rw [hn3, hr] at e
            have e2 : Lib.encodeRune ((65533 : Nat) : Int) = [239, 191, 189] := by decide +kernel
            rw [e2] at e
            exact List.isPrefixOf_iff_prefix.2 ⟨l.drop 3, by
              conv => rhs; rw [← List.take_append_drop 3 l, ← e]
              ⟩
          rw [hf]
          refine Sif_cases (fun h => by cases h) (fun _ => ⟨rfl, ?_⟩)
          exact says_len h1
      · rcases hsp with ⟨h1, h2, h3⟩ | ⟨h1, h2⟩
        · simp at h; omega
        · exact ⟨rfl, says_len h1⟩
  · left
    refine ⟨_, Lib.run_next_end_at w4 it s pos _ i4 hp, ?_⟩
    have : pos = s.size := by omega
    subst this
    rw [List.drop_of_length_le (by simp), qb_nil, List.append_nil] at heq
    refine WriteByte_ok A4 hT 34 (by omega) fun w5 B5 => ⟨_, rfl, ?_⟩
    obtain ⟨g5, A5, n5, c5⟩ := B5
    refine String_ok A5 (by rw [List.length_append]; show out.length + 1 ≤ _; omega) fun w6 c6 => ⟨_, rfl, ?_⟩
    have e : out ++ [34] = quoteB s.data.toList := by rw [heq]; rfl
    rw [e]
    refine hk w6 ((c4.trans c5 fun x hx hs => ?_).trans c6 fun x hx hs => ?_)
    · rcases hs with h | h
      · omega
      · have := n4 x h; omega
    · rcases n5 x hs with h | h
      · have := n4 x h; omega
      · have := c4.size; omega
end Go.Proofs.YtnacobknngidkaaGreatDoor
namespace Go.Proofs.YtnacobknngidkaaGreatDoor
open Go Go.Sv Go.Note
set_option linter.unusedVariables false
theorem byteAt_get {s : ByteArray} {n : Nat} {x : UInt8} (h : s.data.toList[n]? = some x) : byteAt s n = (x.toNat : Int) := by
  simp [byteAt, List.getD, h]
theorem get_lt (s : ByteArray) {n : Nat} (h : n < s.size) : ∃ x, s.data.toList[n]? = some x :=
  ⟨_, List.getElem?_eq_getElem (by simpa using h)⟩
theorem get_ge (s : ByteArray) {n : Nat} (h : ¬ n < s.size) : s.data.toList[n]? = none := by
  rw [List.getElem?_eq_none_iff, Array.length_toList]
  exact Nat.le_of_not_lt h
theorem inB_drop (l : Bs) (at_ k a b : Nat) : inB (l.drop at_) k a b = inB l (at_ + k) a b := by
  unfold inB; rw [List.getElem?_drop]
theorem within_ok {s : ByteArray} {at_ a b : Nat} (hs : at_ ≤ 2 ^ 50) {w : World} {K : Value → World → Prop} (hk : K (.bool (inB s.data.toList at_ a b)) w) :
    callP Tryz.prog 92 [.string s, .int .i64 (at_ : Int), .int .i64 (a : Int), .int .i64 (b : Int)] w K := by
  apply ok_longshoreref01_within
  unfold wp_longshoreref01_within
  refine Sif_cases (fun _ => ?_) (fun h => by simp at h)
  refine Sif_cases (fun h => ?_) (fun h => ?_)
  · have hlt : at_ < s.size := by have := of_decide_eq_true h; omega
    obtain ⟨x, hx⟩ := get_lt s hlt
    refine ⟨by omega, by omega, ?_⟩
    have hb := x.toNat_lt
    rw [Int.toNat_natCast, byteAt_get hx, wrap_id (by omega) (by omega)]
    have e : inB s.data.toList at_ a b = (decide (a ≤ x.toNat) && decide (x.toNat ≤ b)) := by simp [inB, hx]
    rw [e] at hk
    refine Sif_cases (fun h1 => ?_) (fun h1 => ?_)
    · refine ⟨by omega, by omega, ?_⟩
      have h2 : a ≤ x.toNat := by have := of_decide_eq_true h1; omega
      have e2 : decide ((x.toNat : Int) ≤ (b : Int)) = decide (x.toNat ≤ b) := by rw [decide_eq_decide]; omega
      rw [e2]
      simpa [h2] using hk
    · have h2 : ¬ a ≤ x.toNat := by have := of_decide_eq_false h1; omega
      simpa [h2] using hk
  · have hge : ¬ at_ < s.size := by have := of_decide_eq_false h; omega
    have e : inB s.data.toList at_ a b = false := by simp [inB, get_ge s hge]
    rw [e] at hk
    exact hk
def tailB (l : Bs) (at_ : Nat) : Nat → Bool
  | 0 => true
  | n + 1 => inB l at_ 128 191 && tailB l (at_ + 1) n
theorem tail_ok {s : ByteArray} {at_ n : Nat} (hs : at_ + n ≤ 2 ^ 50) {w : World} {K : Value → World → Prop} (hk : K (.bool (tailB s.data.toList at_ n)) w) :
    callP Tryz.prog 132 [.string s, .int .i64 (at_ : Int), .int .i64 (n : Int)] w K := by
  apply ok_longshoreref01_tail
  unfold wp_longshoreref01_tail
  refine ⟨fun m i w' => ∃ k, k ≤ n ∧ i = (k : Int) ∧ m = n - k ∧ w' = w ∧ tailB s.data.toList at_ n = tailB s.data.toList (at_ + k) (n - k), ⟨n, 0, by omega, rfl, by omega, rfl, rfl⟩, ?_⟩
  rintro m i w' ⟨k, hk1, rfl, rfl, rfl, he⟩
  refine Sif_cases (fun h => ?_) (fun h => ?_)
  · have hlt : k < n := by have := of_decide_eq_true h; omega
    rw [wrap_id (by omega) (by omega), show ((at_ : Int) + (k : Int)) = ((at_ + k : Nat) : Int) by omega]
    refine within_ok (a := 128) (b := 191) (by omega) ⟨_, rfl, ?_⟩
    obtain ⟨q, hq⟩ : ∃ q, n - k = q + 1 := ⟨n - k - 1, by omega⟩
    have he2 : tailB s.data.toList (at_ + k) (q + 1) = (inB s.data.toList (at_ + k) 128 191 && tailB s.data.toList (at_ + k + 1) q) := rfl
    rw [hq, he2] at he
    refine Sif_cases (fun h2 => ?_) (fun h2 => ?_)
    · have h3 : inB s.data.toList (at_ + k) 128 191 = false := by simpa using h2
      rw [h3, Bool.false_and] at he
      rw [he] at hk; exact hk
    · have h3 : inB s.data.toList (at_ + k) 128 191 = true := by simpa using h2
      rw [h3, Bool.true_and] at he
      simp only [nameI]
      refine ⟨n - (k + 1), by omega, k + 1, by omega, ?_, rfl, by trivial, ?_⟩
      · rw [wrap_id (n := (k : Int) + 1) (by omega) (by omega)]; omega
      · rw [he, show n - (k + 1) = q by omega]; rfl
  · have : k = n := by have := of_decide_eq_false h; omega
    subst this
    rw [Nat.sub_self] at he
    rw [he] at hk; exact hk
def pairB (l : Bs) (at_ a b c d more : Nat) : Bool := inB l at_ a b && (inB l (at_ + 1) c d && tailB l (at_ + 2) more)
theorem pair_ok {s : ByteArray} {at_ a b c d more : Nat} (hs : at_ + 2 + more ≤ 2 ^ 50) {w : World} {K : Value → World → Prop} (hk : K (.bool (pairB s.data.toList at_ a b c d more)) w) :
    callP Tryz.prog 93 [.string s, .int .i64 (at_ : Int), .int .i64 (a : Int), .int .i64 (b : Int), .int .i64 (c : Int), .int .i64 (d : Int), .int .i64 (more : Int)] w K := by
  apply ok_longshoreref01_pair
  unfold wp_longshoreref01_pair
  refine within_ok (by omega) ⟨_, rfl, ?_⟩
  rw [wrap_id (n := (at_ : Int) + 1) (by omega) (by omega), wrap_id (n := (at_ : Int) + 2) (by omega) (by omega)]
  rw [show (at_ : Int) + 1 = ((at_ + 1 : Nat) : Int) by omega, show (at_ : Int) + 2 = ((at_ + 2 : Nat) : Int) by omega]
  refine within_ok (by omega) ⟨_, rfl, ?_⟩
  refine tail_ok (by omega) ⟨_, rfl, ?_⟩
  unfold pairB at hk
  cases h1 : inB s.data.toList at_ a b <;> cases h2 : inB s.data.toList (at_ + 1) c d <;> rw [h1, h2] at hk <;> simpa [Sif] using hk
theorem chr_pair (l : Bs) (at_ : Nat) : chr (l.drop at_) =
    if inB l at_ 0 127 then 1
    else if pairB l at_ 194 223 128 191 0 then 2
    else if pairB l at_ 224 224 160 191 1 || pairB l at_ 225 236 128 191 1 || pairB l at_ 237 237 128 159 1 || pairB l at_ 238 239 128 191 1 then 3
    else if pairB l at_ 240 240 144 191 2 || pairB l at_ 241 243 128 191 2 || pairB l at_ 244 244 128 143 2 then 4
    else 0 := by
  unfold chr pairB
  simp only [inB_drop, tailB, Nat.add_zero, Bool.and_true, Bool.and_assoc]
theorem Character_ok {s : ByteArray} {at_ : Nat} (hs : at_ ≤ 2 ^ 49) {w : World} {K : Value → World → Prop} (hk : K (.int .i64 (chr (s.data.toList.drop at_) : Int)) w) :
    callP Tryz.prog 55 [.string s, .int .i64 (at_ : Int)] w K := by
  apply ok_longshoreref01_Character
  unfold wp_longshoreref01_Character
  rw [chr_pair] at hk
  refine within_ok (a := 0) (b := 127) (by omega) ⟨_, rfl, ?_⟩
  cases h1 : inB s.data.toList at_ 0 127
  · rw [h1] at hk
    refine pair_ok (a := 194) (b := 223) (c := 128) (d := 191) (more := 0) (by omega) ⟨_, rfl, ?_⟩
    cases h2 : pairB s.data.toList at_ 194 223 128 191 0
    · rw [h2] at hk
      refine pair_ok (a := 224) (b := 224) (c := 160) (d := 191) (more := 1) (by omega) ⟨_, rfl, ?_⟩
      refine pair_ok (a := 225) (b := 236) (c := 128) (d := 191) (more := 1) (by omega) ⟨_, rfl, ?_⟩
      refine pair_ok (a := 237) (b := 237) (c := 128) (d := 159) (more := 1) (by omega) ⟨_, rfl, ?_⟩
      refine pair_ok (a := 238) (b := 239) (c := 128) (d := 191) (more := 1) (by omega) ⟨_, rfl, ?_⟩
      refine ⟨fun w' => w' = w ∧ (pairB s.data.toList at_ 224 224 160 191 1 || pairB s.data.toList at_ 225 236 128 191 1 || pairB s.data.toList at_ 237 237 128 159 1 || pairB s.data.toList at_ 238 239 128 191 1) = false, ?_, ?_⟩
      · rintro w' ⟨rfl, h3⟩
        rw [h3] at hk
        refine pair_ok (a := 240) (b := 240) (c := 144) (d := 191) (more := 2) (by omega) ⟨_, rfl, ?_⟩
        refine pair_ok (a := 241) (b := 243) (c := 128) (d := 191) (more := 2) (by omega) ⟨_, rfl, ?_⟩
        refine pair_ok (a := 244) (b := 244) (c := 128) (d := 143) (more := 2) (by omega) ⟨_, rfl, ?_⟩
        refine ⟨fun w2 => w2 = w' ∧ (pairB s.data.toList at_ 240 240 144 191 2 || pairB s.data.toList at_ 241 243 128 191 2 || pairB s.data.toList at_ 244 244 128 143 2) = false, ?_, ?_⟩
        · rintro w2 ⟨rfl, h4⟩
          rw [h4] at hk; exact hk
        · cases e1 : pairB s.data.toList at_ 240 240 144 191 2 <;> cases e2 : pairB s.data.toList at_ 241 243 128 191 2 <;> cases e3 : pairB s.data.toList at_ 244 244 128 143 2 <;> simp [Sif] <;> (try (rw [e1, e2, e3] at hk; exact hk))
      · cases e1 : pairB s.data.toList at_ 224 224 160 191 1 <;> cases e2 : pairB s.data.toList at_ 225 236 128 191 1 <;> cases e3 : pairB s.data.toList at_ 237 237 128 159 1 <;> cases e4 : pairB s.data.toList at_ 238 239 128 191 1 <;> simp [Sif] <;> (try (rw [e1, e2, e3, e4] at hk; exact hk))
    · rw [h2] at hk; exact hk
  · rw [h1] at hk; exact hk
def Place (ok : Bool) (r : Int) : Prop := (ok = true → r = -1) ∧ (ok = false → 0 ≤ r)
theorem Utf8_ok {s : ByteArray} (hs : s.size ≤ 2 ^ 48) {w : World} {K : Value → World → Prop} (hk : ∀ r, Place (textB s.data.toList) r → K (.int .i64 r) w) :
    callP Tryz.prog 29 [.string s] w K := by
  apply ok_longshoreref01_Utf8
  unfold wp_longshoreref01_Utf8
  have hlen : s.data.toList.length = s.size := by rw [Array.length_toList]; rfl
  refine ⟨fun m i w' => ∃ k, k ≤ s.size ∧ i = (k : Int) ∧ m = s.size - k ∧ w' = w ∧ textB s.data.toList = textB (s.data.toList.drop k), ⟨s.size, 0, by omega, rfl, by omega, rfl, by rw [List.drop_zero]⟩, ?_⟩
  rintro m i w' ⟨k, hk1, rfl, rfl, rfl, he⟩
  refine Sif_cases (fun h => ?_) (fun h => ?_)
  · have hlt : k < s.size := by have := of_decide_eq_true h; omega
    refine Character_ok (by omega) ⟨_, rfl, ?_⟩
    have hne : s.data.toList.drop k ≠ [] := fun e => by
      have := congrArg List.length e
      rw [List.length_drop, hlen] at this
      simp only [List.length_nil] at this; omega
    have hle := chr_le (s.data.toList.drop k)
    rw [List.length_drop, hlen] at hle
    rw [textB_cons _ hne] at he
    refine Sif_cases (fun h1 => ?_) (fun h1 => ?_)
    · have h0 : chr (s.data.toList.drop k) = 0 := by have := of_decide_eq_true h1; omega
      rw [h0] at he
      simp at he
      exact hk _ ⟨fun h => (by rw [he] at h; cases h), fun _ => by omega⟩
    · have h0 : chr (s.data.toList.drop k) ≠ 0 := by have := of_decide_eq_false h1; omega
      simp only [nameI]
      refine ⟨s.size - (k + chr (s.data.toList.drop k)), by omega, k + chr (s.data.toList.drop k), by omega, ?_, rfl, by trivial, ?_⟩
      · rw [wrap_id (n := (k : Int) + _) (by omega) (by omega)]; omega
      · rw [he, List.drop_drop]; simp [h0]
  · have : k = s.size := by have := of_decide_eq_false h; omega
    subst this
    rw [List.drop_of_length_le (by omega), textB_nil] at he
    exact hk _ ⟨fun _ => rfl, fun h => by rw [he] at h; cases h⟩
end Go.Proofs.YtnacobknngidkaaGreatDoor
