import Derived.Shelf.Strings.Builder1
import Derived.Shelf.Strings.Trim
import Derived.Shelf.Small.Utf8
import Derived.Shelf.Small.Strs
import Derived.Shelf.Strings.BuilderF
import Derived.Shelf.Strings.BuilderK
import Derived.Shelf.Utf8.RuneCount
import Derived.Shelf.Strconv.Atoi
import Derived.Shelf.Strconv.Itoa0
import Derived.Shelf.Strconv.Itoa1
import Derived.Shelf.LaysM
import Derived.Shelf.Strconv.Itoa2
import Derived.Shelf.Strconv.Itoa3
import Derived.Shelf.Strconv.AtoiErrFast
import Derived.Shelf.Strconv.ParseIntEmpty
import Derived.Shelf.Strconv.AtoiFail
import Derived.Shelf.Strconv.Clone
import Derived.Shelf.Strconv.SyntaxError
import Derived.Shelf.LaysC
import Derived.Shelf.Strconv.ToError
import Derived.Shelf.Strconv.Lower
import Derived.Shelf.Strconv.ParseUint10
import Derived.Shelf.Strconv.ParseUint10Empty
import Derived.Shelf.Strconv.ParseUint10Any
import Derived.Shelf.Strconv.ParseInt10
import Derived.Shelf.Strconv.AtoiLong
import Derived.Shelf.Strconv.AtoiInnerAll
import Derived.Shelf.Strconv.RangeError
import Derived.Shelf.Strconv.ToErrorRange
import Derived.Shelf.Strconv.AtoiAll
import Derived.Shelf.Strconv.ParseUintEmpty
import Derived.Shelf.Strconv.ParseUint10b64
import Derived.Shelf.Strconv.ParseUint10b32
import Derived.Shelf.Strconv.ParseUint10b16
import Derived.Shelf.Strconv.ParseUint10b8
import Derived.Shelf.Strings.Search1
import Derived.Shelf.Strings.Search2
import Derived.Shelf.Strings.Search3
import Derived.Shelf.Strings.Count
import Derived.Shelf.Strings.Shaped
import Derived.Shelf.Strings.Prefix
import Derived.Shelf.Strings.Split
import Derived.Shelf.Strings.SplitShaped
import Derived.Shelf.Unicode.Decode
import Derived.Shelf.Strings.Runes
import Derived.Shelf.Strings.RuneCount
import Derived.Shelf.Strings.IndexAny
import Derived.Shelf.Strings.AsciiSet
import Derived.Shelf.Strings.IndexAnyAll
import Derived.Shelf.Strings.Explode
import Derived.Shelf.Unicode.DecodeSlow
import Derived.Shelf.Unicode.DecodeAny
import Derived.Shelf.Unicode.DecodeLast
import Derived.Test.YtgmejigjajcbfaaDoorProg
import Derived.Test.YtgmejigjajcbfaaDoorChecked
import Derived.Test.YtgmejigjajcbfaaDoorD68
import Derived.Lib.MapLaws
import Derived.Laws.RangeString
import Derived.Lib.IndexAny
namespace Go.Proofs
open Go.Shelf
def Tryd.lays160_ren : Go.Shelf.Ren := ⟨fun | 160 => 50 | 232 => 60 | 231 => 59 | 227 => 46 | 234 => 62 | 233 => 61 | 236 => 64 | 235 => 63 | 228 => 47 | 271 => 71 | 151 => 70 | 197 => 19 | 120 => 77 | 152 => 44 | 260 => 30 | 137 => 52 | 119 => 57 | 224 => 55 | 225 => 54 | 217 => 53 | 266 => 67 | n => n, fun | 9 => 9 | 4 => 4 | 3 => 3 | 5 => 5 | 117 => 98 | 116 => 97 | 0 => 0 | 124 => 103 | 21 => 21 | 105 => 61 | 46 => 67 | 119 => 87 | 139 => 90 | 138 => 89 | n => n, fun | 3 => 0 | 4 => 1 | n => n⟩
theorem Tryd.lays160 : Go.Proofs.Lays.n160 Tryd.prog Tryd.lays160_ren := {
  mixed := by kernel_rfl
  f119 := Tryd.func57.trans (congrArg some (by kernel_rfl))
  f120 := Tryd.func77.trans (congrArg some (by kernel_rfl))
  f137 := Tryd.func52.trans (congrArg some (by kernel_rfl))
  f151 := Tryd.func70.trans (congrArg some (by kernel_rfl))
  f152 := Tryd.func44.trans (congrArg some (by kernel_rfl))
  f160 := Tryd.func50.trans (congrArg some (by kernel_rfl))
  f197 := Tryd.func19.trans (congrArg some (by kernel_rfl))
  f217 := Tryd.func53.trans (congrArg some (by kernel_rfl))
  f224 := Tryd.func55.trans (congrArg some (by kernel_rfl))
  f225 := Tryd.func54.trans (congrArg some (by kernel_rfl))
  f227 := Tryd.func46.trans (congrArg some (by kernel_rfl))
  f228 := Tryd.func47.trans (congrArg some (by kernel_rfl))
  f231 := Tryd.func59.trans (congrArg some (by kernel_rfl))
  f232 := Tryd.func60.trans (congrArg some (by kernel_rfl))
  f233 := Tryd.func61.trans (congrArg some (by kernel_rfl))
  f234 := Tryd.func62.trans (congrArg some (by kernel_rfl))
  f235 := Tryd.func63.trans (congrArg some (by kernel_rfl))
  f236 := Tryd.func64.trans (congrArg some (by kernel_rfl))
  f260 := Tryd.func30.trans (congrArg some (by kernel_rfl))
  f266 := Tryd.func67.trans (congrArg some (by kernel_rfl))
  f271 := Tryd.func71.trans (congrArg some (by kernel_rfl))
  t0 := Tryd.underlying0
  a0 := Tryd.isAgg0
  z0 := Tryd.sizeOf0
  v0 := Tryd.zeroValue0
  t3 := Tryd.underlying3
  a3 := Tryd.isAgg3
  z3 := Tryd.sizeOf3
  v3 := Tryd.zeroValue3
  t4 := Tryd.underlying4
  a4 := Tryd.isAgg4
  z4 := Tryd.sizeOf4
  v4 := Tryd.zeroValue4
  t5 := Tryd.underlying5
  a5 := Tryd.isAgg5
  z5 := Tryd.sizeOf5
  v5 := Tryd.zeroValue5
  t9 := Tryd.underlying9
  a9 := Tryd.isAgg9
  z9 := Tryd.sizeOf9
  v9 := Tryd.zeroValue9
  t21 := Tryd.underlying21
  a21 := Tryd.isAgg21
  z21 := Tryd.sizeOf21
  v21 := Tryd.zeroValue21
  t46 := Tryd.underlying67
  a46 := Tryd.isAgg67
  z46 := Tryd.sizeOf67
  v46 := Tryd.zeroValue67
  t105 := Tryd.underlying61
  a105 := Tryd.isAgg61
  z105 := Tryd.sizeOf61
  v105 := Tryd.zeroValue61
  t116 := Tryd.underlying97
  a116 := Tryd.isAgg97
  z116 := Tryd.sizeOf97
  t117 := Tryd.underlying98
  a117 := Tryd.isAgg98
  z117 := Tryd.sizeOf98
  v117 := Tryd.zeroValue98
  t119 := Tryd.underlying87
  a119 := Tryd.isAgg87
  z119 := Tryd.sizeOf87
  t124 := Tryd.underlying103
  a124 := Tryd.isAgg103
  z124 := Tryd.sizeOf103
  v124 := Tryd.zeroValue103
  t138 := Tryd.underlying89
  a138 := Tryd.isAgg89
  z138 := Tryd.sizeOf89
  v138 := Tryd.zeroValue89
  t139 := Tryd.underlying90
  a139 := Tryd.isAgg90
  z139 := Tryd.sizeOf90
  v139 := Tryd.zeroValue90
  g3 := by kernel_rfl
  g4 := by kernel_rfl }
def Tryd.lays137_ren : Go.Shelf.Ren := ⟨fun | 137 => 52 | 217 => 53 | 266 => 67 | n => n, fun | 9 => 9 | 5 => 5 | 3 => 3 | n => n, fun | n => n⟩
theorem Tryd.lays137 : Go.Proofs.Lays.n137 Tryd.prog Tryd.lays137_ren := {
  mixed := by kernel_rfl
  f137 := Tryd.func52.trans (congrArg some (by kernel_rfl))
  f217 := Tryd.func53.trans (congrArg some (by kernel_rfl))
  f266 := Tryd.func67.trans (congrArg some (by kernel_rfl))
  t3 := Tryd.underlying3
  a3 := Tryd.isAgg3
  z3 := Tryd.sizeOf3
  v3 := Tryd.zeroValue3
  t5 := Tryd.underlying5
  a5 := Tryd.isAgg5
  z5 := Tryd.sizeOf5
  v5 := Tryd.zeroValue5
  t9 := Tryd.underlying9
  a9 := Tryd.isAgg9
  z9 := Tryd.sizeOf9
  v9 := Tryd.zeroValue9 }
open Go.RowKit in
theorem Tryd.strings_IndexByte (s : ByteArray) (c : Int) (w : World) :
    Calls Tryd.prog 52 #[.string s, .int .u8 c] w fun e w' => e = .returned (.int .i64 (Lib.indexByte s.data.toList c.toNat.toUInt8)) ∧ w' = w := Any.strings_IndexByte Tryd.lays137 s c w
def Tryd.lays172_ren : Go.Shelf.Ren := ⟨fun | 172 => 51 | 244 => 65 | 245 => 66 | 247 => 72 | 279 => 73 | 280 => 74 | 281 => 75 | 282 => 76 | 287 => 78 | 316 => 79 | 171 => 81 | 205 => 80 | 321 => 82 | 322 => 83 | 243 => 84 | 246 => 85 | 283 => 86 | 284 => 87 | 285 => 88 | 286 => 89 | 129 => 91 | 317 => 90 | 318 => 92 | 319 => 93 | 320 => 94 | 337 => 95 | 338 => 96 | n => n, fun | 9 => 9 | 3 => 3 | 75 => 58 | 76 => 63 | 4 => 4 | 5 => 5 | 167 => 110 | 37 => 54 | 0 => 0 | 85 => 111 | 2 => 2 | 168 => 113 | 53 => 116 | 175 => 117 | 46 => 67 | 210 => 120 | 127 => 77 | 145 => 126 | 143 => 124 | 21 => 21 | 171 => 128 | 173 => 131 | 212 => 134 | 51 => 91 | 20 => 20 | 213 => 135 | 232 => 138 | 233 => 139 | 80 => 68 | n => n, fun | 15 => 3 | 16 => 4 | 17 => 5 | 18 => 6 | 19 => 7 | n => n⟩
def Tryd.laysC172_ren : Go.Shelf.Ren := ⟨fun | 172 => 51 | 244 => 65 | 245 => 66 | 247 => 72 | 279 => 73 | 280 => 74 | 281 => 75 | 282 => 76 | 287 => 78 | 316 => 79 | 171 => 81 | 205 => 80 | 321 => 82 | 322 => 83 | 243 => 84 | 246 => 85 | 283 => 86 | 284 => 87 | 285 => 88 | 286 => 89 | 129 => 91 | 317 => 90 | 318 => 92 | 319 => 93 | 320 => 94 | 337 => 95 | 338 => 96 | n => n, fun | 9 => 9 | 3 => 3 | 75 => 58 | 76 => 63 | 4 => 4 | 5 => 5 | 167 => 110 | 37 => 54 | 0 => 0 | 85 => 111 | 2 => 2 | 168 => 113 | 53 => 116 | 175 => 117 | 46 => 67 | 210 => 120 | 127 => 77 | 145 => 126 | 143 => 124 | 21 => 21 | 171 => 128 | 173 => 131 | 212 => 134 | 51 => 91 | 20 => 20 | 213 => 135 | 232 => 138 | 233 => 139 | 80 => 68 | n => n, fun | 15 => 3 | 16 => 4 | 17 => 5 | 18 => 6 | 19 => 7 | n => n⟩
theorem Tryd.laysC172 : Go.Proofs.LaysC.n172 Tryd.prog Tryd.laysC172_ren := {
  mixed := by kernel_rfl
  f129 := Tryd.func91.trans (congrArg some (by kernel_rfl))
  f171 := Tryd.func81.trans (congrArg some (by kernel_rfl))
  f172 := Tryd.func51.trans (congrArg some (by kernel_rfl))
  f205 := Tryd.func80.trans (congrArg some (by kernel_rfl))
  f243 := Tryd.func84.trans (congrArg some (by kernel_rfl))
  f244 := Tryd.func65.trans (congrArg some (by kernel_rfl))
  f245 := Tryd.func66.trans (congrArg some (by kernel_rfl))
  f246 := Tryd.func85.trans (congrArg some (by kernel_rfl))
  f247 := Tryd.func72.trans (congrArg some (by kernel_rfl))
  f279 := Tryd.func73.trans (congrArg some (by kernel_rfl))
  f280 := Tryd.func74.trans (congrArg some (by kernel_rfl))
  f281 := Tryd.func75.trans (congrArg some (by kernel_rfl))
  f282 := Tryd.func76.trans (congrArg some (by kernel_rfl))
  f283 := Tryd.func86.trans (congrArg some (by kernel_rfl))
  f284 := Tryd.func87.trans (congrArg some (by kernel_rfl))
  f285 := Tryd.func88.trans (congrArg some (by kernel_rfl))
  f286 := Tryd.func89.trans (congrArg some (by kernel_rfl))
  f287 := Tryd.func78.trans (congrArg some (by kernel_rfl))
  f316 := Tryd.func79.trans (congrArg some (by kernel_rfl))
  f317 := Tryd.func90.trans (congrArg some (by kernel_rfl))
  f318 := Tryd.func92.trans (congrArg some (by kernel_rfl))
  f319 := Tryd.func93.trans (congrArg some (by kernel_rfl))
  f320 := Tryd.func94.trans (congrArg some (by kernel_rfl))
  f321 := Tryd.func82.trans (congrArg some (by kernel_rfl))
  f322 := Tryd.func83.trans (congrArg some (by kernel_rfl))
  f337 := Tryd.func95.trans (congrArg some (by kernel_rfl))
  f338 := Tryd.func96.trans (congrArg some (by kernel_rfl))
  t0 := Tryd.underlying0
  a0 := Tryd.isAgg0
  z0 := Tryd.sizeOf0
  v0 := Tryd.zeroValue0
  t2 := Tryd.underlying2
  a2 := Tryd.isAgg2
  z2 := Tryd.sizeOf2
  v2 := Tryd.zeroValue2
  t3 := Tryd.underlying3
  a3 := Tryd.isAgg3
  z3 := Tryd.sizeOf3
  v3 := Tryd.zeroValue3
  t4 := Tryd.underlying4
  a4 := Tryd.isAgg4
  z4 := Tryd.sizeOf4
  v4 := Tryd.zeroValue4
  t5 := Tryd.underlying5
  a5 := Tryd.isAgg5
  z5 := Tryd.sizeOf5
  v5 := Tryd.zeroValue5
  t9 := Tryd.underlying9
  a9 := Tryd.isAgg9
  z9 := Tryd.sizeOf9
  v9 := Tryd.zeroValue9
  t20 := Tryd.underlying20
  a20 := Tryd.isAgg20
  z20 := Tryd.sizeOf20
  v20 := Tryd.zeroValue20
  t21 := Tryd.underlying21
  a21 := Tryd.isAgg21
  z21 := Tryd.sizeOf21
  v21 := Tryd.zeroValue21
  t37 := Tryd.underlying54
  a37 := Tryd.isAgg54
  z37 := Tryd.sizeOf54
  v37 := Tryd.zeroValue54
  t46 := Tryd.underlying67
  a46 := Tryd.isAgg67
  z46 := Tryd.sizeOf67
  v46 := Tryd.zeroValue67
  t51 := Tryd.underlying91
  a51 := Tryd.isAgg91
  z51 := Tryd.sizeOf91
  v51 := Tryd.zeroValue91
  t53 := Tryd.underlying116
  a53 := Tryd.isAgg116
  z53 := Tryd.sizeOf116
  v53 := Tryd.zeroValue116
  t75 := Tryd.underlying58
  a75 := Tryd.isAgg58
  z75 := Tryd.sizeOf58
  v75 := Tryd.zeroValue58
  t76 := Tryd.underlying63
  a76 := Tryd.isAgg63
  z76 := Tryd.sizeOf63
  v76 := Tryd.zeroValue63
  t85 := Tryd.underlying111
  a85 := Tryd.isAgg111
  z85 := Tryd.sizeOf111
  v85 := Tryd.zeroValue111
  t127 := Tryd.underlying77
  a127 := Tryd.isAgg77
  z127 := Tryd.sizeOf77
  v127 := Tryd.zeroValue77
  t143 := Tryd.underlying124
  a143 := Tryd.isAgg124
  z143 := Tryd.sizeOf124
  v143 := Tryd.zeroValue124
  t145 := Tryd.underlying126
  a145 := Tryd.isAgg126
  z145 := Tryd.sizeOf126
  v145 := Tryd.zeroValue126
  t167 := Tryd.underlying110
  a167 := Tryd.isAgg110
  z167 := Tryd.sizeOf110
  v167 := Tryd.zeroValue110
  t168 := Tryd.underlying113
  a168 := Tryd.isAgg113
  z168 := Tryd.sizeOf113
  v168 := Tryd.zeroValue113
  t171 := Tryd.underlying128
  a171 := Tryd.isAgg128
  z171 := Tryd.sizeOf128
  v171 := Tryd.zeroValue128
  t173 := Tryd.underlying131
  a173 := Tryd.isAgg131
  z173 := Tryd.sizeOf131
  v173 := Tryd.zeroValue131
  t175 := Tryd.underlying117
  a175 := Tryd.isAgg117
  z175 := Tryd.sizeOf117
  v175 := Tryd.zeroValue117
  t210 := Tryd.underlying120
  a210 := Tryd.isAgg120
  z210 := Tryd.sizeOf120
  v210 := Tryd.zeroValue120
  t212 := Tryd.underlying134
  a212 := Tryd.isAgg134
  z212 := Tryd.sizeOf134
  v212 := Tryd.zeroValue134
  t213 := Tryd.underlying135
  a213 := Tryd.isAgg135
  z213 := Tryd.sizeOf135
  t232 := Tryd.underlying138
  a232 := Tryd.isAgg138
  z232 := Tryd.sizeOf138
  v232 := Tryd.zeroValue138
  t233 := Tryd.underlying139
  a233 := Tryd.isAgg139
  z233 := Tryd.sizeOf139
  v233 := Tryd.zeroValue139
  g15 := by kernel_rfl
  g16 := by kernel_rfl
  g17 := by kernel_rfl
  g18 := by kernel_rfl
  g19 := by kernel_rfl
  t80 := Tryd.underlying68
  a80 := Tryd.isAgg68
  z80 := Tryd.sizeOf68
  v80 := Tryd.zeroValue68
  i0 := by kernel_rfl
  i2 := by kernel_rfl
  i3 := by kernel_rfl
  i4 := by kernel_rfl
  i5 := by kernel_rfl
  i9 := by kernel_rfl
  i20 := by kernel_rfl
  i21 := by kernel_rfl
  i37 := by kernel_rfl
  i46 := by kernel_rfl
  i51 := by kernel_rfl
  i53 := by kernel_rfl
  i75 := by kernel_rfl
  i76 := by kernel_rfl
  i80 := by kernel_rfl
  i85 := by kernel_rfl
  i127 := by kernel_rfl
  i143 := by kernel_rfl
  i145 := by kernel_rfl
  i167 := by kernel_rfl
  i168 := by kernel_rfl
  i171 := by kernel_rfl
  i173 := by kernel_rfl
  i175 := by kernel_rfl
  i210 := by kernel_rfl
  i212 := by kernel_rfl
  i232 := by kernel_rfl
  i233 := by kernel_rfl
  m15 := by kernel_rfl
  m16 := by kernel_rfl
  m17 := by kernel_rfl
  m18 := by kernel_rfl
  m19 := by kernel_rfl
  c0 := by kernel_rfl
  c2 := by kernel_rfl
  c3 := by kernel_rfl
  c4 := by kernel_rfl
  c5 := by kernel_rfl
  c9 := by kernel_rfl
  c20 := by kernel_rfl
  c21 := by kernel_rfl
  c37 := by kernel_rfl
  c46 := by kernel_rfl
  c51 := by kernel_rfl
  c53 := by kernel_rfl
  c75 := by kernel_rfl
  c76 := by kernel_rfl
  c80 := by kernel_rfl
  c85 := by kernel_rfl
  c127 := by kernel_rfl
  c143 := by kernel_rfl
  c145 := by kernel_rfl
  c167 := by kernel_rfl
  c168 := by kernel_rfl
  c171 := by kernel_rfl
  c173 := by kernel_rfl
  c175 := by kernel_rfl
  c210 := by kernel_rfl
  c212 := by kernel_rfl
  c213 := by kernel_rfl
  c232 := by kernel_rfl
  c233 := by kernel_rfl }
def Tryd.lays146_ren : Go.Shelf.Ren := ⟨fun | 146 => 14 | 221 => 24 | 268 => 32 | 138 => 33 | 143 => 34 | 195 => 41 | 197 => 19 | 218 => 42 | 219 => 43 | 260 => 30 | 217 => 53 | 225 => 54 | 224 => 55 | 267 => 56 | 266 => 67 | 314 => 68 | n => n, fun | 9 => 9 | 31 => 24 | 3 => 3 | 4 => 4 | 0 => 0 | 105 => 61 | 21 => 21 | 5 => 5 | 46 => 67 | 119 => 87 | 139 => 90 | 138 => 89 | 146 => 107 | 51 => 91 | n => n, fun | 1 => 2 | 3 => 0 | 4 => 1 | n => n⟩
theorem Tryd.lays146 : Go.Proofs.Lays.n146 Tryd.prog Tryd.lays146_ren := {
  mixed := by kernel_rfl
  f138 := Tryd.func33.trans (congrArg some (by kernel_rfl))
  f143 := Tryd.func34.trans (congrArg some (by kernel_rfl))
  f146 := Tryd.func14.trans (congrArg some (by kernel_rfl))
  f195 := Tryd.func41.trans (congrArg some (by kernel_rfl))
  f197 := Tryd.func19.trans (congrArg some (by kernel_rfl))
  f217 := Tryd.func53.trans (congrArg some (by kernel_rfl))
  f218 := Tryd.func42.trans (congrArg some (by kernel_rfl))
  f219 := Tryd.func43.trans (congrArg some (by kernel_rfl))
  f221 := Tryd.func24.trans (congrArg some (by kernel_rfl))
  f224 := Tryd.func55.trans (congrArg some (by kernel_rfl))
  f225 := Tryd.func54.trans (congrArg some (by kernel_rfl))
  f260 := Tryd.func30.trans (congrArg some (by kernel_rfl))
  f266 := Tryd.func67.trans (congrArg some (by kernel_rfl))
  f267 := Tryd.func56.trans (congrArg some (by kernel_rfl))
  f268 := Tryd.func32.trans (congrArg some (by kernel_rfl))
  f314 := Tryd.func68.trans (congrArg some (by kernel_rfl))
  t0 := Tryd.underlying0
  a0 := Tryd.isAgg0
  z0 := Tryd.sizeOf0
  v0 := Tryd.zeroValue0
  t3 := Tryd.underlying3
  a3 := Tryd.isAgg3
  z3 := Tryd.sizeOf3
  v3 := Tryd.zeroValue3
  t4 := Tryd.underlying4
  a4 := Tryd.isAgg4
  z4 := Tryd.sizeOf4
  v4 := Tryd.zeroValue4
  t5 := Tryd.underlying5
  a5 := Tryd.isAgg5
  z5 := Tryd.sizeOf5
  v5 := Tryd.zeroValue5
  t9 := Tryd.underlying9
  a9 := Tryd.isAgg9
  z9 := Tryd.sizeOf9
  v9 := Tryd.zeroValue9
  t21 := Tryd.underlying21
  a21 := Tryd.isAgg21
  z21 := Tryd.sizeOf21
  v21 := Tryd.zeroValue21
  t31 := Tryd.underlying24
  a31 := Tryd.isAgg24
  z31 := Tryd.sizeOf24
  v31 := Tryd.zeroValue24
  t46 := Tryd.underlying67
  a46 := Tryd.isAgg67
  z46 := Tryd.sizeOf67
  v46 := Tryd.zeroValue67
  t51 := Tryd.underlying91
  a51 := Tryd.isAgg91
  z51 := Tryd.sizeOf91
  v51 := Tryd.zeroValue91
  t105 := Tryd.underlying61
  a105 := Tryd.isAgg61
  z105 := Tryd.sizeOf61
  v105 := Tryd.zeroValue61
  t119 := Tryd.underlying87
  a119 := Tryd.isAgg87
  z119 := Tryd.sizeOf87
  t138 := Tryd.underlying89
  a138 := Tryd.isAgg89
  z138 := Tryd.sizeOf89
  v138 := Tryd.zeroValue89
  t139 := Tryd.underlying90
  a139 := Tryd.isAgg90
  z139 := Tryd.sizeOf90
  v139 := Tryd.zeroValue90
  t146 := Tryd.underlying107
  a146 := Tryd.isAgg107
  z146 := Tryd.sizeOf107
  v146 := Tryd.zeroValue107
  g1 := by kernel_rfl
  g3 := by kernel_rfl
  g4 := by kernel_rfl }
open Go.RowKit Go.Lib in
theorem Tryd.strings_Split (s sep : ByteArray) (m : Int) (w : World) (hs : s.size < 4294967281) (hm : w.cell? ⟨2, 0, none⟩ = some (.int .i64 m)) (h1 : 1 ≤ sep.size) :
    Calls Tryd.prog 14 #[.string s, .string sep] w fun e w' =>
      e = .returned (.slice (some ⟨w.heap.size, 0, none⟩) (Lib.countB s sep + 1) (Lib.countB s sep + 1)) ∧ w' = w.alloc (.cells ((Lib.splitB sep 0 (Lib.countB s sep) s).map Value.string).toArray 9) := Any.strings_Split Tryd.lays146 (by kernel_rfl) s sep m w hs hm h1
def Tryd.lays197_ren : Go.Shelf.Ren := ⟨fun | 197 => 19 | 260 => 30 | n => n, fun | 9 => 9 | 21 => 21 | 3 => 3 | 4 => 4 | 5 => 5 | 105 => 61 | 119 => 87 | 0 => 0 | 46 => 67 | 139 => 90 | 138 => 89 | n => n, fun | 3 => 0 | 4 => 1 | n => n⟩
theorem Tryd.lays197 : Go.Proofs.Lays.n197 Tryd.prog Tryd.lays197_ren := {
  mixed := by kernel_rfl
  f197 := Tryd.func19.trans (congrArg some (by kernel_rfl))
  f260 := Tryd.func30.trans (congrArg some (by kernel_rfl))
  t0 := Tryd.underlying0
  a0 := Tryd.isAgg0
  z0 := Tryd.sizeOf0
  v0 := Tryd.zeroValue0
  t3 := Tryd.underlying3
  a3 := Tryd.isAgg3
  z3 := Tryd.sizeOf3
  v3 := Tryd.zeroValue3
  t4 := Tryd.underlying4
  a4 := Tryd.isAgg4
  z4 := Tryd.sizeOf4
  v4 := Tryd.zeroValue4
  t5 := Tryd.underlying5
  a5 := Tryd.isAgg5
  z5 := Tryd.sizeOf5
  v5 := Tryd.zeroValue5
  t9 := Tryd.underlying9
  a9 := Tryd.isAgg9
  z9 := Tryd.sizeOf9
  v9 := Tryd.zeroValue9
  t21 := Tryd.underlying21
  a21 := Tryd.isAgg21
  z21 := Tryd.sizeOf21
  v21 := Tryd.zeroValue21
  t46 := Tryd.underlying67
  a46 := Tryd.isAgg67
  z46 := Tryd.sizeOf67
  v46 := Tryd.zeroValue67
  t105 := Tryd.underlying61
  a105 := Tryd.isAgg61
  z105 := Tryd.sizeOf61
  v105 := Tryd.zeroValue61
  t119 := Tryd.underlying87
  a119 := Tryd.isAgg87
  z119 := Tryd.sizeOf87
  t138 := Tryd.underlying89
  a138 := Tryd.isAgg89
  z138 := Tryd.sizeOf89
  v138 := Tryd.zeroValue89
  t139 := Tryd.underlying90
  a139 := Tryd.isAgg90
  z139 := Tryd.sizeOf90
  v139 := Tryd.zeroValue90
  g3 := by kernel_rfl
  g4 := by kernel_rfl }
def Tryd.lays153_ren : Go.Shelf.Ren := ⟨fun | 153 => 35 | 152 => 44 | 226 => 45 | 227 => 46 | 228 => 47 | 137 => 52 | 119 => 57 | 224 => 55 | 225 => 54 | 217 => 53 | 266 => 67 | n => n, fun | 9 => 9 | 3 => 3 | 4 => 4 | 5 => 5 | 21 => 21 | 117 => 98 | 116 => 97 | 0 => 0 | 46 => 67 | 124 => 103 | n => n, fun | n => n⟩
theorem Tryd.lays153 : Go.Proofs.Lays.n153 Tryd.prog Tryd.lays153_ren := {
  mixed := by kernel_rfl
  f119 := Tryd.func57.trans (congrArg some (by kernel_rfl))
  f137 := Tryd.func52.trans (congrArg some (by kernel_rfl))
  f152 := Tryd.func44.trans (congrArg some (by kernel_rfl))
  f153 := Tryd.func35.trans (congrArg some (by kernel_rfl))
  f217 := Tryd.func53.trans (congrArg some (by kernel_rfl))
  f224 := Tryd.func55.trans (congrArg some (by kernel_rfl))
  f225 := Tryd.func54.trans (congrArg some (by kernel_rfl))
  f226 := Tryd.func45.trans (congrArg some (by kernel_rfl))
  f227 := Tryd.func46.trans (congrArg some (by kernel_rfl))
  f228 := Tryd.func47.trans (congrArg some (by kernel_rfl))
  f266 := Tryd.func67.trans (congrArg some (by kernel_rfl))
  t0 := Tryd.underlying0
  a0 := Tryd.isAgg0
  z0 := Tryd.sizeOf0
  v0 := Tryd.zeroValue0
  t3 := Tryd.underlying3
  a3 := Tryd.isAgg3
  z3 := Tryd.sizeOf3
  v3 := Tryd.zeroValue3
  t4 := Tryd.underlying4
  a4 := Tryd.isAgg4
  z4 := Tryd.sizeOf4
  v4 := Tryd.zeroValue4
  t5 := Tryd.underlying5
  a5 := Tryd.isAgg5
  z5 := Tryd.sizeOf5
  v5 := Tryd.zeroValue5
  t9 := Tryd.underlying9
  a9 := Tryd.isAgg9
  z9 := Tryd.sizeOf9
  v9 := Tryd.zeroValue9
  t21 := Tryd.underlying21
  a21 := Tryd.isAgg21
  z21 := Tryd.sizeOf21
  v21 := Tryd.zeroValue21
  t46 := Tryd.underlying67
  a46 := Tryd.isAgg67
  z46 := Tryd.sizeOf67
  v46 := Tryd.zeroValue67
  t116 := Tryd.underlying97
  a116 := Tryd.isAgg97
  z116 := Tryd.sizeOf97
  t117 := Tryd.underlying98
  a117 := Tryd.isAgg98
  z117 := Tryd.sizeOf98
  v117 := Tryd.zeroValue98
  t124 := Tryd.underlying103
  a124 := Tryd.isAgg103
  z124 := Tryd.sizeOf103
  v124 := Tryd.zeroValue103 }
open Go.RowKit Go.Lib in
theorem Tryd.utf8_DecodeRuneInString (s : ByteArray) (w : World) (hT : Lib.Utf8Tabs 0 1 w) :
    Calls Tryd.prog 19 #[.string s] w fun e w' => e = .returned (.tuple #[.int .i32 (Lib.decodeGo s).1, .int .i64 (Lib.decodeGo s).2]) ∧ Below w.heap.size w w' := Any.utf8_DecodeRuneInString Tryd.lays197 s w hT
end Go.Proofs

set_option linter.unusedVariables false
set_option linter.unusedSimpArgs false
namespace Go.Proofs.YtgmejigjajcbfaaDoor.Ia
open Go Go.Det Go.RowKit
theorem gmix : Tryd.prog.follows .mixedOrders = true := by kernel_rfl
theorem us9 : Tryd.prog.underlying 9 = some .string := by kernel_rfl
def R_3 (r : Int) (n : Nat) (H : Hp) (v : Value) : Prop := v = .int .i64 r
theorem R_3.mono {r : Int} {m n : Nat} {H B : Hp} {v : Value} (hm : m ≤ n) (h : Abv n H B) (k : R_3 r n H v) : R_3 r m B v := by
  exact k
def R_21_3 (r : Int × Int) (n : Nat) (H : Hp) (v : Value) : Prop := v = .tuple ⟨[.int .i32 r.1, .int .i64 r.2]⟩
theorem R_21_3.mono {r : Int × Int} {m n : Nat} {H B : Hp} {v : Value} (hm : m ≤ n) (h : Abv n H B) (k : R_21_3 r n H v) : R_21_3 r m B v := by
  exact k
def R_4 (r : Bool) (n : Nat) (H : Hp) (v : Value) : Prop := v = .bool r
theorem R_4.mono {r : Bool} {m n : Nat} {H B : Hp} {v : Value} (hm : m ≤ n) (h : Abv n H B) (k : R_4 r n H v) : R_4 r m B v := by
  exact k
def f52 (x0 : List UInt8) (x1 : Int) : Option Int := some (Lib.indexByte x0 x1.toNat.toUInt8)
theorem f52_ok {H : Hp} {x0 : List UInt8} {x1 : Int} {r : Int} (hp : f52 x0 x1 = some r) : SCall Tryd.prog 52 [.string (bs x0), .int .u8 x1] H (Ret fun v H' => Ext H H' ∧ R_3 r H.next H' v) := by
  obtain rfl := Option.some.inj hp
  refine (SCall.ofCallsL (v := .int .i64 (Lib.indexByte x0 x1.toNat.toUInt8)) (fun w hL => ?_) rfl rfl H).mono fun _ _ ⟨_, h1, h2, h3⟩ => by subst h2 h3; exact ⟨_, h1, Ext.refl _, rfl⟩
  exact (Tryd.strings_IndexByte (bs x0) x1 w).mono fun e w' ⟨h1, h2⟩ => ⟨h1, h2 ▸ Below.refl _ _⟩
end Go.Proofs.YtgmejigjajcbfaaDoor.Ia

set_option linter.unusedVariables false
set_option linter.unusedSimpArgs false
namespace Go.Proofs.YtgmejigjajcbfaaDoor.Ia
open Go Go.Det Go.RowKit
noncomputable section
/-! 57 unicode/utf8.ValidRune -/
def f57 (x0 : Int) : Option Bool :=
  (if 0 ≤ x0 then
    if x0 < 55296 then
      some (Sum.inl (true : Bool))
    else
      if 57343 < x0 then
        if x0 ≤ 1114111 then
          some (Sum.inl (true : Bool))
        else
          some (Sum.inr ())
      else
        some (Sum.inr ())
  else
    if 57343 < x0 then
      if x0 ≤ 1114111 then
        some (Sum.inl (true : Bool))
      else
        some (Sum.inr ())
    else
      some (Sum.inr ())).bind fun s => match s with
    | .inl st => some st
    | .inr _ => 
      some false
set_option maxRecDepth 20000 in
theorem f57_ok {H : Hp} {x0 : Int} {r : Bool} (hp : f57 x0 = some r) :
    SCall Tryd.prog 57 [.int .i32 x0] H (Ret fun v H' => Ext H H' ∧ R_4 r H.next H' v) := by
  unfold f57 at hp
  replace hp := topS hp
  refine SCall.g Tryd.func57 rfl rfl rfl rfl rfl (l := [(0, .v (.int .i32 x0))]) (fun _ => rfl) (fun B abB => ?_)
  refine WJ.adv 7 rfl ?_
  obtain ⟨K1, hK1, hp⟩ : ∃ K, K = _ ∧ Option.bind _ K = some r := ⟨_, rfl, cutS hp⟩
  refine WJ.cut 3 (α := Unit) (fun y => []) (fun y => []) (fun y => []) (fun y => B) (fun y => K1 ((Sum.inr ())) = some r) ?_ (fun j1 => ?_)
  · rintro u hp
    subst hK1
    show WJ _ _ _ B [] _ _ ⟨[], [], true, 0⟩
    obtain rfl := endS (show some _ = some r from hp)
    exact WJ.rt 204 rfl rfl rfl (fun ids H' fr => ⟨fr.ext0, rfl⟩)
  · refine WJ.ci 202 hp rfl rfl rfl rfl rfl rfl rfl rfl rfl (fun hc5 hp => ?_) (fun hc5 hp => ?_)
    · refine WJ.ci 202 hp rfl rfl rfl rfl rfl rfl rfl rfl rfl (fun hc8 hp => ?_) (fun hc8 hp => ?_)
      · subst hK1
        obtain rfl := endS (show some _ = some r from hp)
        exact WJ.rt 208 rfl rfl rfl (fun ids H' fr => ⟨fr.ext0, rfl⟩)
      · refine WJ.ci 207 hp rfl rfl rfl rfl rfl rfl rfl rfl rfl (fun hc12 hp => ?_) (fun hc12 hp => ?_)
        · refine WJ.ci 202 hp rfl rfl rfl rfl rfl rfl rfl rfl rfl (fun hc15 hp => ?_) (fun hc15 hp => ?_)
          · subst hK1
            obtain rfl := endS (show some _ = some r from hp)
            exact WJ.rt 208 rfl rfl rfl (fun ids H' fr => ⟨fr.ext0, rfl⟩)
          · exact WJ.goto 6 (j1 () hp) rfl rfl (by exact trivial) rfl rfl rfl
        · exact WJ.goto 9 (j1 () hp) rfl rfl (by exact trivial) rfl rfl rfl
    · refine WJ.ci 210 hp rfl rfl rfl rfl rfl rfl rfl rfl rfl (fun hc12 hp => ?_) (fun hc12 hp => ?_)
      · refine WJ.ci 202 hp rfl rfl rfl rfl rfl rfl rfl rfl rfl (fun hc15 hp => ?_) (fun hc15 hp => ?_)
        · subst hK1
          obtain rfl := endS (show some _ = some r from hp)
          exact WJ.rt 208 rfl rfl rfl (fun ids H' fr => ⟨fr.ext0, rfl⟩)
        · exact WJ.goto 6 (j1 () hp) rfl rfl (by exact trivial) rfl rfl rfl
      · exact WJ.goto 9 (j1 () hp) rfl rfl (by exact trivial) rfl rfl rfl
/-! 55 internal/bytealg.Cutover -/
def f55 (x0 : Int) : Option Int :=
  some (IntKind.i64.wrap ((IntKind.i64.wrap (x0 + 16)).tdiv 8))
set_option maxRecDepth 20000 in
theorem f55_ok {H : Hp} {x0 : Int} {r : Int} (hp : f55 x0 = some r) :
    SCall Tryd.prog 55 [.int .i64 x0] H (Ret fun v H' => Ext H H' ∧ R_3 r H.next H' v) := by
  unfold f55 at hp
  replace hp := topS hp
  refine SCall.g Tryd.func55 rfl rfl rfl rfl rfl (l := [(0, .v (.int .i64 x0))]) (fun _ => rfl) (fun B abB => ?_)
  refine WJ.hd (v := .int .i64 (IntKind.i64.wrap ((IntKind.i64.wrap (x0 + 16)).tdiv 8))) 208 rfl rfl rfl rfl (fun ids H' fr => opD_bin rfl (evV_eq _ _ _ _ _ rfl) (evV_eq _ _ _ _ _ rfl) (bin_quo (by decide))) rfl ?_
  obtain rfl := endS (show some _ = some r from hp)
  exact WJ.rt 202 rfl rfl rfl (fun ids H' fr => ⟨fr.ext0, rfl⟩)
/-! 44 strings.IndexRune -/
def f44_l1 (x0 : List UInt8) : Nat → Nat → Option ((Int) ⊕ (Unit))
  | 0, _ => none
  | n + 1, p0 =>
    if p0 < x0.length then
      if (decL x0 p0) = 65533 then
        some (Sum.inl (((p0 : Nat) : Int) : Int))
      else
        f44_l1 x0 n (p0 + decN x0 p0)
    else
      some (Sum.inr ())

def f44_l3 (x0 : List UInt8) (x1 : Int) (x9_4 : Int) : Nat → Int → Option (Unit)
  | 0, _ => none
  | n + 1, x12 =>
    if x12 < ((encR x1).length : Int) then
      ((rd x0 (IntKind.i64.wrap (x9_4 - x12))).bind fun b58 =>
      (rd (encR x1) (IntKind.i64.wrap ((IntKind.i64.wrap (((encR x1).length : Int) - 1)) - x12))).bind fun b63 =>
      if ((b58.toNat : Nat) : Int) = ((b63.toNat : Nat) : Int) then
        some (())
      else
        none).bind fun _ =>
        f44_l3 x0 x1 x9_4 n (IntKind.i64.wrap (x12 + 1))
    else
      some (())

def f44_l2 (k : Nat) (x0 : List UInt8) (x1 : Int) : Nat → Int → Option ((Int) ⊕ (Unit))
  | 0, _ => none
  | n + 1, x9 =>
    if x9 < (x0.length : Int) then
      ((rd x0 x9).bind fun b29 =>
      (rd (encR x1) (IntKind.i64.wrap (((encR x1).length : Int) - 1))).bind fun b32 =>
      if ((b29.toNat : Nat) : Int) = ((b32.toNat : Nat) : Int) then
        some (Sum.inr x9)
      else
        (sub x0 (IntKind.i64.wrap (x9 + 1)) (x0.length : Int)).bind fun s37 =>
        (rd (encR x1) (IntKind.i64.wrap (((encR x1).length : Int) - 1))).bind fun b40 =>
        (f52 s37 ((b40.toNat : Nat) : Int)).bind fun t41 =>
        if t41 < 0 then
          some (Sum.inl ((-1) : Int))
        else
          some (Sum.inr (IntKind.i64.wrap (x9 + (IntKind.i64.wrap (t41 + 1)))))).bind fun s => match s with
        | .inl st => some (Sum.inl st)
        | .inr x9_4 => 
          (f44_l3 x0 x1 x9_4 k 1).bind fun _ =>
            some (Sum.inl (IntKind.i64.wrap (x9_4 - (IntKind.i64.wrap (((encR x1).length : Int) - 1))) : Int))
    else
      some (Sum.inr ())

def f44_l4 (x0 : List UInt8) : Nat → Nat → Option ((Int) ⊕ (Unit))
  | 0, _ => none
  | n + 1, p0 =>
    if p0 < x0.length then
      if (decL x0 p0) = 65533 then
        some (Sum.inl (((p0 : Nat) : Int) : Int))
      else
        f44_l4 x0 n (p0 + decN x0 p0)
    else
      some (Sum.inr ())

def f44_l6 (x0 : List UInt8) (x1 : Int) (x9_9 : Int) : Nat → Int → Option (Unit)
  | 0, _ => none
  | n + 1, x12 =>
    if x12 < ((encR x1).length : Int) then
      ((rd x0 (IntKind.i64.wrap (x9_9 - x12))).bind fun b58 =>
      (rd (encR x1) (IntKind.i64.wrap ((IntKind.i64.wrap (((encR x1).length : Int) - 1)) - x12))).bind fun b63 =>
      if ((b58.toNat : Nat) : Int) = ((b63.toNat : Nat) : Int) then
        some (())
      else
        none).bind fun _ =>
        f44_l6 x0 x1 x9_9 n (IntKind.i64.wrap (x12 + 1))
    else
      some (())

def f44_l5 (k : Nat) (x0 : List UInt8) (x1 : Int) : Nat → Int → Option ((Int) ⊕ (Unit))
  | 0, _ => none
  | n + 1, x9 =>
    if x9 < (x0.length : Int) then
      ((rd x0 x9).bind fun b29 =>
      (rd (encR x1) (IntKind.i64.wrap (((encR x1).length : Int) - 1))).bind fun b32 =>
      if ((b29.toNat : Nat) : Int) = ((b32.toNat : Nat) : Int) then
        some (Sum.inr x9)
      else
        (sub x0 (IntKind.i64.wrap (x9 + 1)) (x0.length : Int)).bind fun s37 =>
        (rd (encR x1) (IntKind.i64.wrap (((encR x1).length : Int) - 1))).bind fun b40 =>
        (f52 s37 ((b40.toNat : Nat) : Int)).bind fun t41 =>
        if t41 < 0 then
          some (Sum.inl ((-1) : Int))
        else
          some (Sum.inr (IntKind.i64.wrap (x9 + (IntKind.i64.wrap (t41 + 1)))))).bind fun s => match s with
        | .inl st => some (Sum.inl st)
        | .inr x9_9 => 
          (f44_l6 x0 x1 x9_9 k 1).bind fun _ =>
            some (Sum.inl (IntKind.i64.wrap (x9_9 - (IntKind.i64.wrap (((encR x1).length : Int) - 1))) : Int))
    else
      some (Sum.inr ())

def f44 (k : Nat) (x0 : List UInt8) (x1 : Int) : Option Int :=
  if 0 ≤ x1 then
    if x1 < 128 then
      (f52 x0 (IntKind.u8.wrap x1)).bind fun t170 =>
      some t170
    else
      if x1 = 65533 then
        (f44_l1 x0 k 0).bind fun s => match s with
          | .inl st => some st
          | .inr _ => 
            some (-1)
      else
        (f57 x1).bind fun t185 =>
        if t185 then
          (f44_l2 k x0 x1 k (IntKind.i64.wrap (((encR x1).length : Int) - 1))).bind fun s => match s with
            | .inl st => some st
            | .inr _ => 
              some (-1)
        else
          some (-1)
  else
    if x1 = 65533 then
      (f44_l4 x0 k 0).bind fun s => match s with
        | .inl st => some st
        | .inr _ => 
          some (-1)
    else
      (f57 x1).bind fun t185 =>
      if t185 then
        (f44_l5 k x0 x1 k (IntKind.i64.wrap (((encR x1).length : Int) - 1))).bind fun s => match s with
          | .inl st => some st
          | .inr _ => 
            some (-1)
      else
        some (-1)
set_option maxRecDepth 20000 in
theorem f44_ok {k : Nat} {H : Hp} {x0 : List UInt8} {x1 : Int} {r : Int} (hp : f44 k x0 x1 = some r) :
    SCall Tryd.prog 44 [.string (bs x0), .int .i32 x1] H (Ret fun v H' => Ext H H' ∧ R_3 r H.next H' v) := by
  unfold f44 at hp
  replace hp := topS hp
  refine SCall.g Tryd.func44 rfl rfl rfl rfl rfl (l := [(0, .v (.string (bs x0))), (1, .v (.int .i32 x1))]) (fun _ => rfl) (fun B abB => ?_)
  refine WJ.ci 208 hp rfl rfl rfl rfl rfl rfl rfl rfl rfl (fun hc162 hp => ?_) (fun hc162 hp => ?_)
  · refine WJ.ci 202 hp rfl rfl rfl rfl rfl rfl rfl rfl rfl (fun hc165 hp => ?_) (fun hc165 hp => ?_)
    · obtain ⟨t170, e170, hp⟩ := bindS hp
      refine WJ.cl 209 (R := R_3 t170) (fun hm h k => R_3.mono hm h k) rfl (fun ids H' fr => f52_ok e170) ?_
      rintro v B1 ⟨abB1, ivB1⟩ rfl
      refine ⟨_, rfl, ?_⟩
      obtain rfl := endS (show some _ = some r from hp)
      exact WJ.rt 202 rfl rfl rfl (fun ids H' fr => ⟨fr.ext0, rfl⟩)
    · refine WJ.ci 207 hp rfl rfl rfl rfl rfl rfl rfl rfl rfl (fun hc173 hp => ?_) (fun hc173 hp => ?_)
      · refine WJ.rg 207 rfl rfl rfl rfl rfl us9 rfl ?_
        rintro b175 B2 ⟨abB2, ivB2⟩ h0175 it175
        refine ⟨_, rfl, ?_⟩
        refine WJ.adv 2 rfl ?_
        obtain ⟨K2, hK2, hp⟩ : ∃ K, K = _ ∧ Option.bind _ K = some r := ⟨_, rfl, cutS hp⟩
        refine WJ.cut 2 (α := Hp) (fun y => []) (fun y => []) (fun y => []) (fun y => y) (fun y => K2 (Sum.inr ()) = some r) ?_ (fun j2 => ?_)
        · rintro B5 hp
          subst hK2
          show WJ _ _ _ B5 [] _ _ ⟨[], [], true, 0⟩
          obtain rfl := endS (show some _ = some r from hp)
          exact WJ.rt 204 rfl rfl rfl (fun ids H' fr => ⟨fr.ext0, rfl⟩)
        · refine WJ.lp 200 (α := Nat × Nat × Hp) (fun y => [(175, .v (.pointer (some ⟨b175, 0, none⟩)))]) (fun y => []) (fun y => []) (fun y => y.2.2) (fun y => y.1) (fun y => Option.bind (f44_l1 x0 y.1 y.2.1) K2 = some r ∧ y.2.2.get b175 = some (.iter (bs x0) y.2.1)) (k, 0, B2) rfl ⟨hp, it175⟩ (by exact ⟨rfl, trivial⟩) rfl rfl rfl ?_
          rintro ⟨n, p0, B3⟩ ⟨hp, it175⟩ ih2
          show WJ _ _ _ B3 [] _ _ ⟨[(175, .v (.pointer (some ⟨b175, 0, none⟩)))], [], true, 0⟩
          replace hp : Option.bind (f44_l1 x0 n p0) K2 = some r := hp
          cases n with
          | zero => rw [f44_l1] at hp; exact (noS hp).elim
          | succ n =>
            rw [f44_l1] at hp
            refine WJ.nx 202 hp rfl rfl rfl rfl rfl rfl it175 h0175 rfl rfl (fun hp B4 abB4 neB4 it_new => ?_) (fun hp => ?_)
            · replace it175 := it_new
              refine WJ.ci 216 hp rfl rfl rfl rfl rfl rfl rfl rfl rfl (fun hc181 hp => ?_) (fun hc181 hp => ?_)
              · subst hK2
                obtain rfl := endS (show some _ = some r from hp)
                exact WJ.rt 207 rfl rfl rfl (fun ids H' fr => ⟨fr.ext0, rfl⟩)
              · exact WJ.ag 204 rfl (by exact ⟨rfl, trivial⟩) rfl rfl rfl (ih2 (n, (p0 + decN x0 p0), B4) ⟨hp, it175⟩ (Nat.lt_succ_self _))
            · exact WJ.goto 5 (j2 B3 hp) rfl rfl (by exact trivial) rfl rfl rfl
      · obtain ⟨t185, e185, hp⟩ := bindS hp
        refine WJ.cl 206 (R := R_4 t185) (fun hm h k => R_4.mono hm h k) rfl (fun ids H' fr => f57_ok e185) ?_
        rintro v B6 ⟨abB6, ivB6⟩ rfl
        refine ⟨_, rfl, ?_⟩
        cases t185
        · replace hp := (itS hp).2 Bool.false_ne_true
          obtain rfl := endS (show some _ = some r from hp)
          exact WJ.rt 208 rfl rfl rfl (fun ids H' fr => ⟨fr.ext0, rfl⟩)
        · replace hp := (itS hp).1 rfl
          refine WJ.adv 9 rfl ?_
          rw [enc_eq]
          refine WJ.adv 20 rfl ?_
          obtain ⟨K3, hK3, hp⟩ : ∃ K, K = _ ∧ Option.bind _ K = some r := ⟨_, rfl, cutS hp⟩
          refine WJ.cut 2 (α := Hp) (fun y => []) (fun y => []) (fun y => []) (fun y => y) (fun y => K3 (Sum.inr ()) = some r) ?_ (fun j3 => ?_)
          · rintro B10 hp
            subst hK3
            show WJ _ _ _ B10 [] _ _ ⟨[], [], true, 0⟩
            obtain rfl := endS (show some _ = some r from hp)
            exact WJ.rt 205 rfl rfl rfl (fun ids H' fr => ⟨fr.ext0, rfl⟩)
          · refine WJ.lp 200 (α := Nat × Int × Hp) (fun y => [(0, .v (.string (bs x0))), (7, .v (.string (bs (encR x1)))), (8, .v (.int .i64 (IntKind.i64.wrap ((((encR x1).length : Nat) : Int) - 1)))), (9, .v (.int .i64 y.2.1))]) (fun y => []) (fun y => []) (fun y => y.2.2) (fun y => y.1) (fun y => Option.bind (f44_l2 k x0 x1 y.1 y.2.1) K3 = some r) (k, IntKind.i64.wrap ((((encR x1).length : Nat) : Int) - 1), B6) rfl hp (by exact ⟨rfl, rfl, rfl, rfl, trivial⟩) rfl rfl rfl ?_
            rintro ⟨n, x9, B7⟩ hp ih3
            show WJ _ _ _ B7 [] _ _ ⟨[(0, .v (.string (bs x0))), (7, .v (.string (bs (encR x1)))), (8, .v (.int .i64 (IntKind.i64.wrap ((((encR x1).length : Nat) : Int) - 1)))), (9, .v (.int .i64 x9))], [], true, 0⟩
            replace hp : Option.bind (f44_l2 k x0 x1 n x9) K3 = some r := hp
            cases n with
            | zero => rw [f44_l2] at hp; exact (noS hp).elim
            | succ n =>
              rw [f44_l2] at hp
              refine WJ.ci 206 hp rfl rfl rfl rfl rfl rfl rfl rfl rfl (fun hc26 hp => ?_) (fun hc26 hp => ?_)
              · refine WJ.adv 7 rfl ?_
                obtain ⟨K4, hK4, hp⟩ : ∃ K, K = _ ∧ Option.bind _ K = some r := ⟨_, rfl, cutS hp⟩
                refine WJ.cut 2 (α := Int × Hp) (fun y => [(0, .v (.string (bs x0))), (7, .v (.string (bs (encR x1)))), (8, .v (.int .i64 (IntKind.i64.wrap ((((encR x1).length : Nat) : Int) - 1)))), (9, .v (.int .i64 y.1))]) (fun y => []) (fun y => []) (fun y => y.2) (fun y => K4 ((Sum.inr y.1)) = some r) ?_ (fun j4 => ?_)
                · rintro ⟨x9_4, B9⟩ hp
                  subst hK4
                  show WJ _ _ _ B9 [] _ _ ⟨[(0, .v (.string (bs x0))), (7, .v (.string (bs (encR x1)))), (8, .v (.int .i64 (IntKind.i64.wrap ((((encR x1).length : Nat) : Int) - 1)))), (9, .v (.int .i64 x9_4))], [], true, 0⟩
                  refine WJ.adv 6 rfl ?_
                  obtain ⟨K5, hK5, hp⟩ : ∃ K, K = _ ∧ Option.bind _ K = some r := ⟨_, rfl, cutS hp⟩
                  refine WJ.cut 2 (α := Unit) (fun y => [(8, .v (.int .i64 (IntKind.i64.wrap ((((encR x1).length : Nat) : Int) - 1)))), (9, .v (.int .i64 x9_4))]) (fun y => []) (fun y => []) (fun y => B9) (fun y => K5 (()) = some r) ?_ (fun j5 => ?_)
                  · rintro u hp
                    subst hK5
                    show WJ _ _ _ B9 [] _ _ ⟨[(8, .v (.int .i64 (IntKind.i64.wrap ((((encR x1).length : Nat) : Int) - 1)))), (9, .v (.int .i64 x9_4))], [], true, 0⟩
                    subst hK3
                    obtain rfl := endS (show some _ = some r from hp)
                    exact WJ.rt 208 rfl rfl rfl (fun ids H' fr => ⟨fr.ext0, rfl⟩)
                  · refine WJ.lp 200 (α := Nat × Int) (fun y => [(0, .v (.string (bs x0))), (7, .v (.string (bs (encR x1)))), (8, .v (.int .i64 (IntKind.i64.wrap ((((encR x1).length : Nat) : Int) - 1)))), (9, .v (.int .i64 x9_4)), (12, .v (.int .i64 y.2))]) (fun y => []) (fun y => []) (fun y => B9) (fun y => y.1) (fun y => Option.bind (f44_l3 x0 x1 x9_4 y.1 y.2) K5 = some r) (k, 1) rfl hp (by exact ⟨rfl, rfl, rfl, rfl, rfl, trivial⟩) rfl rfl rfl ?_
                    rintro ⟨n5, x12⟩ hp ih5
                    show WJ _ _ _ B9 [] _ _ ⟨[(0, .v (.string (bs x0))), (7, .v (.string (bs (encR x1)))), (8, .v (.int .i64 (IntKind.i64.wrap ((((encR x1).length : Nat) : Int) - 1)))), (9, .v (.int .i64 x9_4)), (12, .v (.int .i64 x12))], [], true, 0⟩
                    replace hp : Option.bind (f44_l3 x0 x1 x9_4 n5 x12) K5 = some r := hp
                    cases n5 with
                    | zero => rw [f44_l3] at hp; exact (noS hp).elim
                    | succ n5 =>
                      rw [f44_l3] at hp
                      refine WJ.ci 206 hp rfl rfl rfl rfl rfl rfl rfl rfl rfl (fun hc51 hp => ?_) (fun hc51 hp => ?_)
                      · refine WJ.adv 6 rfl ?_
                        obtain ⟨K6, hK6, hp⟩ : ∃ K, K = _ ∧ Option.bind _ K = some r := ⟨_, rfl, cutS hp⟩
                        refine WJ.cut 3 (α := Unit) (fun y => [(0, .v (.string (bs x0))), (7, .v (.string (bs (encR x1)))), (8, .v (.int .i64 (IntKind.i64.wrap ((((encR x1).length : Nat) : Int) - 1)))), (9, .v (.int .i64 x9_4)), (12, .v (.int .i64 x12))]) (fun y => []) (fun y => []) (fun y => B9) (fun y => K6 ((())) = some r) ?_ (fun j6 => ?_)
                        · rintro u hp
                          subst hK6
                          show WJ _ _ _ B9 [] _ _ ⟨[(0, .v (.string (bs x0))), (7, .v (.string (bs (encR x1)))), (8, .v (.int .i64 (IntKind.i64.wrap ((((encR x1).length : Nat) : Int) - 1)))), (9, .v (.int .i64 x9_4)), (12, .v (.int .i64 x12))], [], true, 0⟩
                          exact WJ.ag 205 rfl (by exact ⟨rfl, rfl, rfl, rfl, rfl, trivial⟩) rfl rfl rfl (ih5 (n5, IntKind.i64.wrap (x12 + 1)) hp (Nat.lt_succ_self _))
                        · refine WJ.dr 200 rfl gmix (by kernel_rfl) (by kernel_rfl) rfl ?_
                          obtain ⟨b58, e58, hp⟩ := bindS hp
                          refine WD.hd (v := .int .u8 ((b58.toNat : Nat) : Int)) rfl rfl rfl rfl (fun _ _ _ _ _ => side_no) (fun ids H' fr => opD_index rfl (evV_eq _ _ _ _ _ rfl) (evV_eq _ _ _ _ _ rfl) (sidx us9 e58)) rfl ?_
                          obtain ⟨b63, e63, hp⟩ := bindS hp
                          refine WD.hd (v := .int .u8 ((b63.toNat : Nat) : Int)) rfl rfl rfl rfl (fun _ _ _ _ _ => side_no) (fun ids H' fr => opD_index rfl (evV_eq _ _ _ _ _ rfl) (evV_eq _ _ _ _ _ rfl) (sidx us9 e63)) rfl ?_
                          refine WD.cn hp rfl rfl rfl rfl rfl rfl rfl rfl rfl (fun hc64 hp => ?_) (fun hc64 hp => ?_)
                          · refine WD.done rfl ?_
                            exact (noS hp).elim
                          · refine WD.done rfl ?_
                            exact WJ.goto 3 (j6 () hp) rfl rfl (by exact ⟨rfl, rfl, rfl, rfl, rfl, trivial⟩) rfl rfl rfl
                      · exact WJ.goto 3 (j5 () hp) rfl rfl (by exact ⟨rfl, rfl, trivial⟩) rfl rfl rfl
                · refine WJ.dr 200 rfl gmix (by kernel_rfl) (by kernel_rfl) rfl ?_
                  obtain ⟨b29, e29, hp⟩ := bindS hp
                  refine WD.hd (v := .int .u8 ((b29.toNat : Nat) : Int)) rfl rfl rfl rfl (fun _ _ _ _ _ => side_no) (fun ids H' fr => opD_index rfl (evV_eq _ _ _ _ _ rfl) (evV_eq _ _ _ _ _ rfl) (sidx us9 e29)) rfl ?_
                  obtain ⟨b32, e32, hp⟩ := bindS hp
                  refine WD.hd (v := .int .u8 ((b32.toNat : Nat) : Int)) rfl rfl rfl rfl (fun _ _ _ _ _ => side_no) (fun ids H' fr => opD_index rfl (evV_eq _ _ _ _ _ rfl) (evV_eq _ _ _ _ _ rfl) (sidx us9 e32)) rfl ?_
                  refine WD.cn hp rfl rfl rfl rfl rfl rfl rfl rfl rfl (fun hc33 hp => ?_) (fun hc33 hp => ?_)
                  · refine WD.done rfl ?_
                    refine WJ.dr 202 rfl gmix (by kernel_rfl) (by kernel_rfl) rfl ?_
                    obtain ⟨s37, e37, hp⟩ := bindS hp
                    refine WD.hd (v := .string (bs s37)) rfl rfl rfl rfl (fun _ _ _ _ _ => side_no) (fun ids H' fr => opD_sl rfl (evV_eq _ _ _ _ _ rfl) (evV_eq _ _ _ _ _ rfl) (sliceD_l us9 e37)) rfl ?_
                    obtain ⟨b40, e40, hp⟩ := bindS hp
                    refine WD.hd (v := .int .u8 ((b40.toNat : Nat) : Int)) rfl rfl rfl rfl (fun _ _ _ _ _ => side_no) (fun ids H' fr => opD_index rfl (evV_eq _ _ _ _ _ rfl) (evV_eq _ _ _ _ _ rfl) (sidx us9 e40)) rfl ?_
                    obtain ⟨t41, e41, hp⟩ := bindS hp
                    refine WD.cl (R := R_3 t41) (fun hm h k => R_3.mono hm h k) rfl (fun ids H' fr => f52_ok e41) ?_
                    rintro v B8 ⟨abB8, ivB8⟩ rfl
                    refine ⟨_, rfl, ?_⟩
                    refine WD.done rfl ?_
                    refine WJ.ci 204 hp rfl rfl rfl rfl rfl rfl rfl rfl rfl (fun hc43 hp => ?_) (fun hc43 hp => ?_)
                    · subst hK4
                      subst hK3
                      obtain rfl := endS (show some _ = some r from hp)
                      exact WJ.rt 206 rfl rfl rfl (fun ids H' fr => ⟨fr.ext0, rfl⟩)
                    · exact WJ.goto 10 (j4 (IntKind.i64.wrap (x9 + (IntKind.i64.wrap (t41 + 1))), B8) hp) rfl rfl (by exact ⟨rfl, rfl, rfl, rfl, trivial⟩) rfl rfl rfl
                  · refine WD.done rfl ?_
                    exact WJ.goto 2 (j4 (x9, B7) hp) rfl rfl (by exact ⟨rfl, rfl, rfl, rfl, trivial⟩) rfl rfl rfl
              · exact WJ.goto 3 (j3 B7 hp) rfl rfl (by exact trivial) rfl rfl rfl
  · refine WJ.ci 210 hp rfl rfl rfl rfl rfl rfl rfl rfl rfl (fun hc173 hp => ?_) (fun hc173 hp => ?_)
    · refine WJ.rg 207 rfl rfl rfl rfl rfl us9 rfl ?_
      rintro b175 B11 ⟨abB11, ivB11⟩ h0175 it175
      refine ⟨_, rfl, ?_⟩
      refine WJ.adv 2 rfl ?_
      obtain ⟨K7, hK7, hp⟩ : ∃ K, K = _ ∧ Option.bind _ K = some r := ⟨_, rfl, cutS hp⟩
      refine WJ.cut 2 (α := Hp) (fun y => []) (fun y => []) (fun y => []) (fun y => y) (fun y => K7 (Sum.inr ()) = some r) ?_ (fun j7 => ?_)
      · rintro B14 hp
        subst hK7
        show WJ _ _ _ B14 [] _ _ ⟨[], [], true, 0⟩
        obtain rfl := endS (show some _ = some r from hp)
        exact WJ.rt 204 rfl rfl rfl (fun ids H' fr => ⟨fr.ext0, rfl⟩)
      · refine WJ.lp 200 (α := Nat × Nat × Hp) (fun y => [(175, .v (.pointer (some ⟨b175, 0, none⟩)))]) (fun y => []) (fun y => []) (fun y => y.2.2) (fun y => y.1) (fun y => Option.bind (f44_l4 x0 y.1 y.2.1) K7 = some r ∧ y.2.2.get b175 = some (.iter (bs x0) y.2.1)) (k, 0, B11) rfl ⟨hp, it175⟩ (by exact ⟨rfl, trivial⟩) rfl rfl rfl ?_
        rintro ⟨n, p0, B12⟩ ⟨hp, it175⟩ ih7
        show WJ _ _ _ B12 [] _ _ ⟨[(175, .v (.pointer (some ⟨b175, 0, none⟩)))], [], true, 0⟩
        replace hp : Option.bind (f44_l4 x0 n p0) K7 = some r := hp
        cases n with
        | zero => rw [f44_l4] at hp; exact (noS hp).elim
        | succ n =>
          rw [f44_l4] at hp
          refine WJ.nx 202 hp rfl rfl rfl rfl rfl rfl it175 h0175 rfl rfl (fun hp B13 abB13 neB13 it_new => ?_) (fun hp => ?_)
          · replace it175 := it_new
            refine WJ.ci 216 hp rfl rfl rfl rfl rfl rfl rfl rfl rfl (fun hc181 hp => ?_) (fun hc181 hp => ?_)
            · subst hK7
              obtain rfl := endS (show some _ = some r from hp)
              exact WJ.rt 207 rfl rfl rfl (fun ids H' fr => ⟨fr.ext0, rfl⟩)
            · exact WJ.ag 204 rfl (by exact ⟨rfl, trivial⟩) rfl rfl rfl (ih7 (n, (p0 + decN x0 p0), B13) ⟨hp, it175⟩ (Nat.lt_succ_self _))
          · exact WJ.goto 5 (j7 B12 hp) rfl rfl (by exact trivial) rfl rfl rfl
    · obtain ⟨t185, e185, hp⟩ := bindS hp
      refine WJ.cl 206 (R := R_4 t185) (fun hm h k => R_4.mono hm h k) rfl (fun ids H' fr => f57_ok e185) ?_
      rintro v B15 ⟨abB15, ivB15⟩ rfl
      refine ⟨_, rfl, ?_⟩
      cases t185
      · replace hp := (itS hp).2 Bool.false_ne_true
        obtain rfl := endS (show some _ = some r from hp)
        exact WJ.rt 208 rfl rfl rfl (fun ids H' fr => ⟨fr.ext0, rfl⟩)
      · replace hp := (itS hp).1 rfl
        refine WJ.adv 9 rfl ?_
        rw [enc_eq]
        refine WJ.adv 20 rfl ?_
        obtain ⟨K8, hK8, hp⟩ : ∃ K, K = _ ∧ Option.bind _ K = some r := ⟨_, rfl, cutS hp⟩
        refine WJ.cut 2 (α := Hp) (fun y => []) (fun y => []) (fun y => []) (fun y => y) (fun y => K8 (Sum.inr ()) = some r) ?_ (fun j8 => ?_)
        · rintro B19 hp
          subst hK8
          show WJ _ _ _ B19 [] _ _ ⟨[], [], true, 0⟩
          obtain rfl := endS (show some _ = some r from hp)
          exact WJ.rt 205 rfl rfl rfl (fun ids H' fr => ⟨fr.ext0, rfl⟩)
        · refine WJ.lp 200 (α := Nat × Int × Hp) (fun y => [(0, .v (.string (bs x0))), (7, .v (.string (bs (encR x1)))), (8, .v (.int .i64 (IntKind.i64.wrap ((((encR x1).length : Nat) : Int) - 1)))), (9, .v (.int .i64 y.2.1))]) (fun y => []) (fun y => []) (fun y => y.2.2) (fun y => y.1) (fun y => Option.bind (f44_l5 k x0 x1 y.1 y.2.1) K8 = some r) (k, IntKind.i64.wrap ((((encR x1).length : Nat) : Int) - 1), B15) rfl hp (by exact ⟨rfl, rfl, rfl, rfl, trivial⟩) rfl rfl rfl ?_
          rintro ⟨n, x9, B16⟩ hp ih8
          show WJ _ _ _ B16 [] _ _ ⟨[(0, .v (.string (bs x0))), (7, .v (.string (bs (encR x1)))), (8, .v (.int .i64 (IntKind.i64.wrap ((((encR x1).length : Nat) : Int) - 1)))), (9, .v (.int .i64 x9))], [], true, 0⟩
          replace hp : Option.bind (f44_l5 k x0 x1 n x9) K8 = some r := hp
          cases n with
          | zero => rw [f44_l5] at hp; exact (noS hp).elim
          | succ n =>
            rw [f44_l5] at hp
            refine WJ.ci 206 hp rfl rfl rfl rfl rfl rfl rfl rfl rfl (fun hc26 hp => ?_) (fun hc26 hp => ?_)
            · refine WJ.adv 7 rfl ?_
              obtain ⟨K9, hK9, hp⟩ : ∃ K, K = _ ∧ Option.bind _ K = some r := ⟨_, rfl, cutS hp⟩
              refine WJ.cut 2 (α := Int × Hp) (fun y => [(0, .v (.string (bs x0))), (7, .v (.string (bs (encR x1)))), (8, .v (.int .i64 (IntKind.i64.wrap ((((encR x1).length : Nat) : Int) - 1)))), (9, .v (.int .i64 y.1))]) (fun y => []) (fun y => []) (fun y => y.2) (fun y => K9 ((Sum.inr y.1)) = some r) ?_ (fun j9 => ?_)
              · rintro ⟨x9_9, B18⟩ hp
                subst hK9
                show WJ _ _ _ B18 [] _ _ ⟨[(0, .v (.string (bs x0))), (7, .v (.string (bs (encR x1)))), (8, .v (.int .i64 (IntKind.i64.wrap ((((encR x1).length : Nat) : Int) - 1)))), (9, .v (.int .i64 x9_9))], [], true, 0⟩
                refine WJ.adv 6 rfl ?_
                obtain ⟨K10, hK10, hp⟩ : ∃ K, K = _ ∧ Option.bind _ K = some r := ⟨_, rfl, cutS hp⟩
                refine WJ.cut 2 (α := Unit) (fun y => [(8, .v (.int .i64 (IntKind.i64.wrap ((((encR x1).length : Nat) : Int) - 1)))), (9, .v (.int .i64 x9_9))]) (fun y => []) (fun y => []) (fun y => B18) (fun y => K10 (()) = some r) ?_ (fun j10 => ?_)
                · rintro u hp
                  subst hK10
                  show WJ _ _ _ B18 [] _ _ ⟨[(8, .v (.int .i64 (IntKind.i64.wrap ((((encR x1).length : Nat) : Int) - 1)))), (9, .v (.int .i64 x9_9))], [], true, 0⟩
                  subst hK8
                  obtain rfl := endS (show some _ = some r from hp)
                  exact WJ.rt 208 rfl rfl rfl (fun ids H' fr => ⟨fr.ext0, rfl⟩)
                · refine WJ.lp 200 (α := Nat × Int) (fun y => [(0, .v (.string (bs x0))), (7, .v (.string (bs (encR x1)))), (8, .v (.int .i64 (IntKind.i64.wrap ((((encR x1).length : Nat) : Int) - 1)))), (9, .v (.int .i64 x9_9)), (12, .v (.int .i64 y.2))]) (fun y => []) (fun y => []) (fun y => B18) (fun y => y.1) (fun y => Option.bind (f44_l6 x0 x1 x9_9 y.1 y.2) K10 = some r) (k, 1) rfl hp (by exact ⟨rfl, rfl, rfl, rfl, rfl, trivial⟩) rfl rfl rfl ?_
                  rintro ⟨n10, x12⟩ hp ih10
                  show WJ _ _ _ B18 [] _ _ ⟨[(0, .v (.string (bs x0))), (7, .v (.string (bs (encR x1)))), (8, .v (.int .i64 (IntKind.i64.wrap ((((encR x1).length : Nat) : Int) - 1)))), (9, .v (.int .i64 x9_9)), (12, .v (.int .i64 x12))], [], true, 0⟩
                  replace hp : Option.bind (f44_l6 x0 x1 x9_9 n10 x12) K10 = some r := hp
                  cases n10 with
                  | zero => rw [f44_l6] at hp; exact (noS hp).elim
                  | succ n10 =>
                    rw [f44_l6] at hp
                    refine WJ.ci 206 hp rfl rfl rfl rfl rfl rfl rfl rfl rfl (fun hc51 hp => ?_) (fun hc51 hp => ?_)
                    · refine WJ.adv 6 rfl ?_
                      obtain ⟨K11, hK11, hp⟩ : ∃ K, K = _ ∧ Option.bind _ K = some r := ⟨_, rfl, cutS hp⟩
                      refine WJ.cut 3 (α := Unit) (fun y => [(0, .v (.string (bs x0))), (7, .v (.string (bs (encR x1)))), (8, .v (.int .i64 (IntKind.i64.wrap ((((encR x1).length : Nat) : Int) - 1)))), (9, .v (.int .i64 x9_9)), (12, .v (.int .i64 x12))]) (fun y => []) (fun y => []) (fun y => B18) (fun y => K11 ((())) = some r) ?_ (fun j11 => ?_)
                      · rintro u hp
                        subst hK11
                        show WJ _ _ _ B18 [] _ _ ⟨[(0, .v (.string (bs x0))), (7, .v (.string (bs (encR x1)))), (8, .v (.int .i64 (IntKind.i64.wrap ((((encR x1).length : Nat) : Int) - 1)))), (9, .v (.int .i64 x9_9)), (12, .v (.int .i64 x12))], [], true, 0⟩
                        exact WJ.ag 205 rfl (by exact ⟨rfl, rfl, rfl, rfl, rfl, trivial⟩) rfl rfl rfl (ih10 (n10, IntKind.i64.wrap (x12 + 1)) hp (Nat.lt_succ_self _))
                      · refine WJ.dr 200 rfl gmix (by kernel_rfl) (by kernel_rfl) rfl ?_
                        obtain ⟨b58, e58, hp⟩ := bindS hp
                        refine WD.hd (v := .int .u8 ((b58.toNat : Nat) : Int)) rfl rfl rfl rfl (fun _ _ _ _ _ => side_no) (fun ids H' fr => opD_index rfl (evV_eq _ _ _ _ _ rfl) (evV_eq _ _ _ _ _ rfl) (sidx us9 e58)) rfl ?_
                        obtain ⟨b63, e63, hp⟩ := bindS hp
                        refine WD.hd (v := .int .u8 ((b63.toNat : Nat) : Int)) rfl rfl rfl rfl (fun _ _ _ _ _ => side_no) (fun ids H' fr => opD_index rfl (evV_eq _ _ _ _ _ rfl) (evV_eq _ _ _ _ _ rfl) (sidx us9 e63)) rfl ?_
                        refine WD.cn hp rfl rfl rfl rfl rfl rfl rfl rfl rfl (fun hc64 hp => ?_) (fun hc64 hp => ?_)
                        · refine WD.done rfl ?_
                          exact (noS hp).elim
                        · refine WD.done rfl ?_
                          exact WJ.goto 3 (j11 () hp) rfl rfl (by exact ⟨rfl, rfl, rfl, rfl, rfl, trivial⟩) rfl rfl rfl
                    · exact WJ.goto 3 (j10 () hp) rfl rfl (by exact ⟨rfl, rfl, trivial⟩) rfl rfl rfl
              · refine WJ.dr 200 rfl gmix (by kernel_rfl) (by kernel_rfl) rfl ?_
                obtain ⟨b29, e29, hp⟩ := bindS hp
                refine WD.hd (v := .int .u8 ((b29.toNat : Nat) : Int)) rfl rfl rfl rfl (fun _ _ _ _ _ => side_no) (fun ids H' fr => opD_index rfl (evV_eq _ _ _ _ _ rfl) (evV_eq _ _ _ _ _ rfl) (sidx us9 e29)) rfl ?_
                obtain ⟨b32, e32, hp⟩ := bindS hp
                refine WD.hd (v := .int .u8 ((b32.toNat : Nat) : Int)) rfl rfl rfl rfl (fun _ _ _ _ _ => side_no) (fun ids H' fr => opD_index rfl (evV_eq _ _ _ _ _ rfl) (evV_eq _ _ _ _ _ rfl) (sidx us9 e32)) rfl ?_
                refine WD.cn hp rfl rfl rfl rfl rfl rfl rfl rfl rfl (fun hc33 hp => ?_) (fun hc33 hp => ?_)
                · refine WD.done rfl ?_
                  refine WJ.dr 202 rfl gmix (by kernel_rfl) (by kernel_rfl) rfl ?_
                  obtain ⟨s37, e37, hp⟩ := bindS hp
                  refine WD.hd (v := .string (bs s37)) rfl rfl rfl rfl (fun _ _ _ _ _ => side_no) (fun ids H' fr => opD_sl rfl (evV_eq _ _ _ _ _ rfl) (evV_eq _ _ _ _ _ rfl) (sliceD_l us9 e37)) rfl ?_
                  obtain ⟨b40, e40, hp⟩ := bindS hp
                  refine WD.hd (v := .int .u8 ((b40.toNat : Nat) : Int)) rfl rfl rfl rfl (fun _ _ _ _ _ => side_no) (fun ids H' fr => opD_index rfl (evV_eq _ _ _ _ _ rfl) (evV_eq _ _ _ _ _ rfl) (sidx us9 e40)) rfl ?_
                  obtain ⟨t41, e41, hp⟩ := bindS hp
                  refine WD.cl (R := R_3 t41) (fun hm h k => R_3.mono hm h k) rfl (fun ids H' fr => f52_ok e41) ?_
                  rintro v B17 ⟨abB17, ivB17⟩ rfl
                  refine ⟨_, rfl, ?_⟩
                  refine WD.done rfl ?_
                  refine WJ.ci 204 hp rfl rfl rfl rfl rfl rfl rfl rfl rfl (fun hc43 hp => ?_) (fun hc43 hp => ?_)
                  · subst hK9
                    subst hK8
                    obtain rfl := endS (show some _ = some r from hp)
                    exact WJ.rt 206 rfl rfl rfl (fun ids H' fr => ⟨fr.ext0, rfl⟩)
                  · exact WJ.goto 10 (j9 (IntKind.i64.wrap (x9 + (IntKind.i64.wrap (t41 + 1))), B17) hp) rfl rfl (by exact ⟨rfl, rfl, rfl, rfl, trivial⟩) rfl rfl rfl
                · refine WD.done rfl ?_
                  exact WJ.goto 2 (j9 (x9, B16) hp) rfl rfl (by exact ⟨rfl, rfl, rfl, rfl, trivial⟩) rfl rfl rfl
            · exact WJ.goto 3 (j8 B16 hp) rfl rfl (by exact trivial) rfl rfl rfl
/-! 45 strings.shouldUseASCIISet -/
def f45 (x0 : Int) : Option Bool :=
  (some (decide (x0 > 8))).bind fun t4 =>
  some t4
set_option maxRecDepth 20000 in
theorem f45_ok {H : Hp} {x0 : Int} {r : Bool} (hp : f45 x0 = some r) :
    SCall Tryd.prog 45 [.int .i64 x0] H (Ret fun v H' => Ext H H' ∧ R_4 r H.next H' v) := by
  unfold f45 at hp
  replace hp := topS hp
  refine SCall.g Tryd.func45 rfl rfl rfl rfl rfl (l := [(0, .v (.int .i64 x0))]) (fun _ => rfl) (fun B abB => ?_)
  obtain ⟨t4, e4, hp⟩ := bindS hp
  refine WJ.cv 207 (b := t4) (H0 := ⟨.nil, 0, 0⟩) rfl rfl rfl rfl rfl rfl (by rw [← endS e4]; exact rfl) rfl ?_
  obtain rfl := endS (show some _ = some r from hp)
  exact WJ.rt 202 rfl rfl rfl (fun ids H' fr => ⟨fr.ext0, rfl⟩)
/-! 35 strings.IndexAny -/
def f35_l1 (k : Nat) (x0 : List UInt8) (x1 : List UInt8) : Nat → Nat → Option ((Int) ⊕ (Unit))
  | 0, _ => none
  | n + 1, p0 =>
    if p0 < x0.length then
      (f44 k x1 (decL x0 p0)).bind fun t52 =>
      if t52 ≥ 0 then
        some (Sum.inl (((p0 : Nat) : Int) : Int))
      else
        f35_l1 k x0 x1 n (p0 + decN x0 p0)
    else
      some (Sum.inr ())

def f35 (k : Nat) (x0 : List UInt8) (x1 : List UInt8) : Option Int :=
  if x1 = ([] : List UInt8) then
    some (-1)
  else
    if (x1.length : Int) = 1 then
      (rd x1 0).bind fun b17 =>
      (if (IntKind.i32.wrap ((b17.toNat : Nat) : Int)) ≥ 128 then
        some ((65533 : Int))
      else
        some ((IntKind.i32.wrap ((b17.toNat : Nat) : Int)))).bind fun x5_12 =>
        (f44 k x0 x5_12).bind fun t23 =>
        some t23
    else
      (f45 (x0.length : Int)).bind fun t26 =>
      (if t26 then
        none
      else
        some (())).bind fun _ =>
        (f35_l1 k x0 x1 k 0).bind fun s => match s with
          | .inl st => some st
          | .inr _ => 
            some (-1)
set_option maxRecDepth 20000 in
theorem f35_ok {k : Nat} {H : Hp} {x0 : List UInt8} {x1 : List UInt8} {r : Int} (hp : f35 k x0 x1 = some r) :
    SCall Tryd.prog 35 [.string (bs x0), .string (bs x1)] H (Ret fun v H' => Ext H H' ∧ R_3 r H.next H' v) := by
  unfold f35 at hp
  replace hp := topS hp
  refine SCall.g Tryd.func35 rfl rfl rfl rfl rfl (l := [(0, .v (.string (bs x0))), (1, .v (.string (bs x1)))]) (fun _ => rfl) (fun B abB => ?_)
  refine WJ.ci 208 hp rfl rfl rfl rfl rfl rfl (opD_streq rfl rfl rfl) rfl rfl (fun hc12 hp => ?_) (fun hc12 hp => ?_)
  · obtain rfl := endS (show some _ = some r from hp)
    exact WJ.rt 206 rfl rfl rfl (fun ids H' fr => ⟨fr.ext0, rfl⟩)
  · refine WJ.ci 208 hp rfl rfl rfl rfl rfl rfl rfl rfl rfl (fun hc15 hp => ?_) (fun hc15 hp => ?_)
    · obtain ⟨b17, e17, hp⟩ := bindS hp
      refine WJ.hd (v := .int .u8 ((b17.toNat : Nat) : Int)) 205 rfl rfl rfl rfl (fun ids H' fr => opD_index rfl (evV_eq _ _ _ _ _ rfl) (evV_eq _ _ _ _ _ rfl) (sidx us9 e17)) rfl ?_
      refine WJ.adv 5 rfl ?_
      obtain ⟨K12, hK12, hp⟩ : ∃ K, K = _ ∧ Option.bind _ K = some r := ⟨_, rfl, cutS hp⟩
      refine WJ.cut 2 (α := Int) (fun y => [(0, .v (.string (bs x0))), (5, .v (.int .i32 y))]) (fun y => []) (fun y => []) (fun y => B) (fun y => K12 ((y)) = some r) ?_ (fun j12 => ?_)
      · rintro x5_12 hp
        subst hK12
        show WJ _ _ _ B [] _ _ ⟨[(0, .v (.string (bs x0))), (5, .v (.int .i32 x5_12))], [], true, 0⟩
        obtain ⟨t23, e23, hp⟩ := bindS hp
        refine WJ.cl 204 (R := R_3 t23) (fun hm h k => R_3.mono hm h k) rfl (fun ids H' fr => f44_ok e23) ?_
        rintro v B1 ⟨abB1, ivB1⟩ rfl
        refine ⟨_, rfl, ?_⟩
        obtain rfl := endS (show some _ = some r from hp)
        exact WJ.rt 202 rfl rfl rfl (fun ids H' fr => ⟨fr.ext0, rfl⟩)
      · refine WJ.ci 202 hp rfl rfl rfl rfl rfl rfl rfl rfl rfl (fun hc20 hp => ?_) (fun hc20 hp => ?_)
        · exact WJ.goto 5 (j12 65533 hp) rfl rfl (by exact ⟨rfl, rfl, trivial⟩) rfl rfl rfl
        · exact WJ.goto 3 (j12 (IntKind.i32.wrap ((b17.toNat : Nat) : Int)) hp) rfl rfl (by exact ⟨rfl, rfl, trivial⟩) rfl rfl rfl
    · obtain ⟨t26, e26, hp⟩ := bindS hp
      refine WJ.cl 208 (R := R_4 t26) (fun hm h k => R_4.mono hm h k) rfl (fun ids H' fr => f45_ok e26) ?_
      rintro v B2 ⟨abB2, ivB2⟩ rfl
      refine ⟨_, rfl, ?_⟩
      refine WJ.adv 1 rfl ?_
      obtain ⟨K13, hK13, hp⟩ : ∃ K, K = _ ∧ Option.bind _ K = some r := ⟨_, rfl, cutS hp⟩
      refine WJ.cut 1 (α := Hp) (fun y => [(0, .v (.string (bs x0))), (1, .v (.string (bs x1)))]) (fun y => []) (fun y => []) (fun y => y) (fun y => K13 ((())) = some r) ?_ (fun j13 => ?_)
      · rintro B3 hp
        subst hK13
        show WJ _ _ _ B3 [] _ _ ⟨[(0, .v (.string (bs x0))), (1, .v (.string (bs x1)))], [], true, 0⟩
        refine WJ.rg 204 rfl rfl rfl rfl rfl us9 rfl ?_
        rintro b45 B4 ⟨abB4, ivB4⟩ h045 it45
        refine ⟨_, rfl, ?_⟩
        refine WJ.adv 2 rfl ?_
        obtain ⟨K14, hK14, hp⟩ : ∃ K, K = _ ∧ Option.bind _ K = some r := ⟨_, rfl, cutS hp⟩
        refine WJ.cut 2 (α := Hp) (fun y => []) (fun y => []) (fun y => []) (fun y => y) (fun y => K14 (Sum.inr ()) = some r) ?_ (fun j14 => ?_)
        · rintro B8 hp
          subst hK14
          show WJ _ _ _ B8 [] _ _ ⟨[], [], true, 0⟩
          obtain rfl := endS (show some _ = some r from hp)
          exact WJ.rt 204 rfl rfl rfl (fun ids H' fr => ⟨fr.ext0, rfl⟩)
        · refine WJ.lp 200 (α := Nat × Nat × Hp) (fun y => [(1, .v (.string (bs x1))), (45, .v (.pointer (some ⟨b45, 0, none⟩)))]) (fun y => []) (fun y => []) (fun y => y.2.2) (fun y => y.1) (fun y => Option.bind (f35_l1 k x0 x1 y.1 y.2.1) K14 = some r ∧ y.2.2.get b45 = some (.iter (bs x0) y.2.1)) (k, 0, B4) rfl ⟨hp, it45⟩ (by exact ⟨rfl, rfl, trivial⟩) rfl rfl rfl ?_
          rintro ⟨n, p0, B5⟩ ⟨hp, it45⟩ ih14
          show WJ _ _ _ B5 [] _ _ ⟨[(1, .v (.string (bs x1))), (45, .v (.pointer (some ⟨b45, 0, none⟩)))], [], true, 0⟩
          replace hp : Option.bind (f35_l1 k x0 x1 n p0) K14 = some r := hp
          cases n with
          | zero => rw [f35_l1] at hp; exact (noS hp).elim
          | succ n =>
            rw [f35_l1] at hp
            refine WJ.nx 202 hp rfl rfl rfl rfl rfl rfl it45 h045 rfl rfl (fun hp B6 abB6 neB6 it_new => ?_) (fun hp => ?_)
            · replace it45 := it_new
              obtain ⟨t52, e52, hp⟩ := bindS hp
              refine WJ.cl 217 (R := R_3 t52) (fun hm h k => R_3.mono hm h k) rfl (fun ids H' fr => f44_ok e52) ?_
              rintro v B7 ⟨abB7, ivB7⟩ rfl
              refine ⟨_, rfl, ?_⟩
              replace it45 := ivB7 _ _ it45
              refine WJ.ci 200 hp rfl rfl rfl rfl rfl rfl rfl rfl rfl (fun hc53 hp => ?_) (fun hc53 hp => ?_)
              · subst hK14
                obtain rfl := endS (show some _ = some r from hp)
                exact WJ.rt 207 rfl rfl rfl (fun ids H' fr => ⟨fr.ext0, rfl⟩)
              · exact WJ.ag 204 rfl (by exact ⟨rfl, rfl, trivial⟩) rfl rfl rfl (ih14 (n, (p0 + decN x0 p0), B7) ⟨hp, it45⟩ (Nat.lt_succ_self _))
            · exact WJ.goto 5 (j14 B5 hp) rfl rfl (by exact trivial) rfl rfl rfl
      · cases t26
        · replace hp := (itS hp).2 Bool.false_ne_true
          exact WJ.goto 2 (j13 B2 hp) rfl rfl (by exact ⟨rfl, rfl, trivial⟩) rfl rfl rfl
        · replace hp := (itS hp).1 rfl
          exact (noS hp).elim
end
end Go.Proofs.YtgmejigjajcbfaaDoor.Ia

set_option linter.unusedVariables false
set_option linter.unusedSimpArgs false
namespace Go.Proofs.YtgmejigjajcbfaaDoor
open Go Go.Det Go.RowKit
theorem w64 {x : Int} (h1 : -9223372036854775808 ≤ x) (h2 : x ≤ 9223372036854775807) : IntKind.i64.wrap x = x := by rw [IntKind.wrap_i64]; omega
/-! The runes of a text -/
theorem decL_eq (s : List UInt8) (p : Nat) : decL s p = ((Lib.decodeL (s.drop p)).1 : Int) := by
  have := Lib.decodeL_drop (bs s) p
  unfold decL; rw [← this]
theorem decN_eq (s : List UInt8) (p : Nat) : decN s p = (Lib.decodeL (s.drop p)).2 := by
  have := Lib.decodeL_drop (bs s) p
  unfold decN; rw [← this]
theorem go_eq {l : List UInt8} (h : l ≠ []) : Lib.decodeGo (bs l) = Lib.decodeL l := by
  unfold Lib.decodeGo
  rw [if_neg (by intro q; exact h (List.length_eq_zero_iff.1 q))]
  exact (Lib.decodeL_drop (bs l) 0).symm
theorem enA (r : Nat) (v : Utf8.valid (r : Int) = true) (c1 : r < 128) : (Utf8.encode (r : Int)).data.toList = List.map (fun x => x.toNat.toUInt8) [(r : Int)] := by simp [Utf8.encode, v, c1]
theorem enB (r : Nat) (v : Utf8.valid (r : Int) = true) (c1 : ¬ r < 128) (c2 : r < 2048) : (Utf8.encode (r : Int)).data.toList = List.map (fun x => x.toNat.toUInt8) [192 + (r : Int) / 64, 128 + (r : Int) % 64] := by
  have e1 : (192 + (r : Int) / 64).toNat = 192 + r / 64 := by omega
  have e2 : (128 + (r : Int) % 64).toNat = 128 + r % 64 := by omega
  simp [Utf8.encode, v, c1, c2, e1, e2]
theorem enC (r : Nat) (v : Utf8.valid (r : Int) = true) (c1 : ¬ r < 128) (c2 : ¬ r < 2048) (c3 : r < 65536) : (Utf8.encode (r : Int)).data.toList = List.map (fun x => x.toNat.toUInt8) [224 + (r : Int) / 4096, 128 + (r : Int) / 64 % 64, 128 + (r : Int) % 64] := by
  have e1 : (224 + (r : Int) / 4096).toNat = 224 + r / 4096 := by omega
  have e2 : (128 + (r : Int) / 64 % 64).toNat = 128 + r / 64 % 64 := by omega
  have e3 : (128 + (r : Int) % 64).toNat = 128 + r % 64 := by omega
  simp [Utf8.encode, v, c1, c2, c3, e1, e2, e3]
theorem enD (r : Nat) (v : Utf8.valid (r : Int) = true) (c1 : ¬ r < 128) (c2 : ¬ r < 2048) (c3 : ¬ r < 65536) : (Utf8.encode (r : Int)).data.toList = List.map (fun x => x.toNat.toUInt8) [240 + (r : Int) / 262144, 128 + (r : Int) / 4096 % 64, 128 + (r : Int) / 64 % 64, 128 + (r : Int) % 64] := by
  have e0 : (240 + (r : Int) / 262144).toNat = 240 + r / 262144 := by omega
  have e1 : (128 + (r : Int) / 4096 % 64).toNat = 128 + r / 4096 % 64 := by omega
  have e2 : (128 + (r : Int) / 64 % 64).toNat = 128 + r / 64 % 64 := by omega
  have e3 : (128 + (r : Int) % 64).toNat = 128 + r % 64 := by omega
  simp [Utf8.encode, v, c1, c2, c3, e0, e1, e2, e3]
theorem encR_of {n : Int} {l : List UInt8} (h : (Utf8.encode n).data.toList = l) : encR n = l := h
theorem rune_of {n : Int} {z : List Int} (h : Lib.encodeRuneZ n = z) : Lib.encodeRune n = List.map (fun x => x.toNat.toUInt8) z := by subst h; rfl
theorem encR_enc (r : Nat) (h : r < 55296 ∨ 57344 ≤ r ∧ r ≤ 1114111) : encR (r : Int) = Lib.encodeRune (r : Int) := by
  have v : Utf8.valid (r : Int) = true := by simp [Utf8.valid]; omega
  have key : ∀ l, Lib.encodeRuneZ (r : Int) = l → (Utf8.encode (r : Int)).data.toList = List.map (fun x => x.toNat.toUInt8) l → encR (r : Int) = Lib.encodeRune (r : Int) := fun l e1 e2 => (encR_of e2).trans (rune_of e1).symm
  by_cases c1 : r < 128
  · exact key _ (Lib.encodeRuneZ_one (by omega) (by omega)) (enA r v c1)
  · by_cases c2 : r < 2048
    · exact key _ (Lib.encodeRuneZ_two (by omega) (by omega)) (enB r v c1 c2)
    · by_cases c3 : r < 65536
      · exact key _ (Lib.encodeRuneZ_three (by omega)) (enC r v c1 c2 c3)
      · exact key _ (Lib.encodeRuneZ_four (by omega) (by omega)) (enD r v c1 c2 c3)
/-- How a text that is not empty begins. -/
inductive Sh (b : UInt8) (t : List UInt8) : Prop where
  | a (h : b.toNat < 128) (e : Lib.decodeL (b :: t) = (b.toNat, 1))
  | b (r n : Nat) (h : 194 ≤ b.toNat) (e : Lib.decodeL (b :: t) = (r, n)) (h1 : 2 ≤ n) (h2 : n ≤ 4) (h3 : n ≤ (b :: t).length) (h4 : 128 ≤ r) (h5 : r ≤ 1114111) (h6 : r < 160 → n = 2 ∧ ∃ c u, t = c :: u ∧ 128 ≤ c.toNat ∧ c.toNat < 160) (h7 : encR (r : Int) = (b :: t).take n) (h8 : Lib.runeLen (r : Int) = n)
  | c (h : 128 ≤ b.toNat) (e : Lib.decodeL (b :: t) = (65533, 1)) (h1 : (b :: t).take 3 ≠ [239, 191, 189])
theorem shape (b : UInt8) (t : List UInt8) : Sh b t := by
  have k0 := b.toNat_lt
  have hb0 : ((b :: t).getD 0 0).toNat = b.toNat := rfl
  have hlen : (b :: t).length = t.length + 1 := rfl
  have k1 := ((b :: t).getD 1 0).toNat_lt
  have k2 := ((b :: t).getD 2 0).toNat_lt
  have k3 := ((b :: t).getD 3 0).toNat_lt
  have hN := Lib.decodeL_N (b :: t)
  have hle := Lib.decodeL_le (b :: t) (by simp)
  have hsh := Lib.decodeN_shape (b :: t).length ((b :: t).getD 0 0).toNat ((b :: t).getD 1 0).toNat ((b :: t).getD 2 0).toNat ((b :: t).getD 3 0).toNat
  rw [hb0] at hN hsh
  have enc : ∀ r n, Lib.decodeL (b :: t) = (r, n) → ¬ (r = 65533 ∧ n = 1) → (r < 55296 ∨ 57344 ≤ r ∧ r ≤ 1114111) → encR (r : Int) = (b :: t).take n := by
    intro r n e hv hr
    rw [encR_enc r hr]
    have := Lib.encode_decode (b :: t) (by simp) (by rw [e]; exact hv)
    rw [e] at this; exact this
  have rl : ∀ r n : Nat, Lib.decodeL (b :: t) = (r, n) → r ≠ 65533 → Lib.runeLen (r : Int) = n := by
    intro r n e hr
    have := Lib.runeLen_decode (b :: t) (by rw [e]; exact hr)
    rw [e] at this; exact this
  rcases hsh with ⟨c, e⟩ | ⟨c1, c2, c3, cv, e⟩ | ⟨c1, c2, c3, c4, cv, cs, e⟩ | ⟨c1, c2, c3, c4, c5, cv, cw, e⟩ | e
  · exact .a c (by rw [hN, e])
  · have e' := hN.trans e
    refine .b _ 2 (by omega) e' (by omega) (by omega) (by omega) (by omega) (by omega) (fun q => ⟨rfl, ?_⟩) (enc _ _ e' (by omega) (by omega)) (rl _ _ e' (by omega))
    cases t with
    | nil => simp at c2
    | cons c u =>
      have : ((b :: c :: u).getD 1 0).toNat = c.toNat := rfl
      rw [this] at c3 cv q
      exact ⟨c, u, rfl, by omega, by omega⟩
  · have e' := hN.trans e
    refine .b _ 3 (by omega) e' (by omega) (by omega) (by omega) (by omega) (by omega) (fun q => by omega) (enc _ _ e' (by omega) (by omega)) ?_
    unfold Lib.runeLen
    repeat' split
    all_goals omega
  · have e' := hN.trans e
    refine .b _ 4 (by omega) e' (by omega) (by omega) (by omega) (by omega) (by omega) (fun q => by omega) (enc _ _ e' (by omega) (by omega)) (rl _ _ e' (by omega))
  · have e' := hN.trans e
    by_cases h : b.toNat < 128
    · have := Lib.decodeN_ascii (b :: t).length b.toNat ((b :: t).getD 1 0).toNat ((b :: t).getD 2 0).toNat ((b :: t).getD 3 0).toNat h
      exact .a h (by rw [hN, this])
    · refine .c (by omega) e' fun q => ?_
      rcases t with _ | ⟨c, _ | ⟨d, u⟩⟩
      · simp at q
      · simp at q
      · simp only [List.take_succ_cons, List.take_zero, List.cons.injEq, and_true] at q
        obtain ⟨rfl, rfl, rfl⟩ := q
        have h1 : Lib.decodeL (239 :: 191 :: 189 :: u) = (65533, 3) := by
          rw [Lib.decodeL_N]
          show Lib.decodeN (u.length + 3) 239 191 189 _ = _
          unfold Lib.decodeN
          simp
        rw [e'] at h1; cases h1
theorem dec_asc {s : List UInt8} {p : Nat} {b : UInt8} (h : s[p]? = some b) (hb : b.toNat < 128) : decL s p = (b.toNat : Int) ∧ decN s p = 1 := by
  obtain ⟨hl, e⟩ := List.getElem?_eq_some_iff.1 h
  have h1 : p < (bs s).size := by show p < s.toArray.size; simpa using hl
  have h2 : (bs s)[p]'h1 = b := by rw [← e]; show s.toArray[p]'(by simpa using hl) = _; simp
  have h3 := decode_ascii (bs s) p h1 (by rw [h2]; exact hb)
  unfold decL decN
  rw [h3, h2]
  exact ⟨rfl, rfl⟩
theorem dec_big {s : List UInt8} {p : Nat} {b : UInt8} (h : s[p]? = some b) (hb : 128 ≤ b.toNat) : 128 ≤ decL s p := by
  obtain ⟨hl, e⟩ := List.getElem?_eq_some_iff.1 h
  have hg : ((bs s).get! (p + 0)).toNat = b.toNat := by
    rw [Nat.add_zero]
    have : (bs s).get! p = b := by
      rw [← e]
      show s.toArray[p]! = _
      rw [getElem!_pos s.toArray p (by simpa using hl)]
      simp
    rw [this]
  unfold decL Utf8.decode
  simp only [hg, Utf8.runeError]
  repeat' split
  all_goals first
    | omega
    | (simp_all; done)
    | (rename_i q; simp only [Bool.and_eq_true, decide_eq_true_eq, ge_iff_le] at q; simp only; omega)
theorem take_big {b : UInt8} {t : List UInt8} {r m : Nat} (e : Lib.decodeL (b :: t) = (r, m)) (hm : 2 ≤ m) (hl : m ≤ (b :: t).length) : ∀ x ∈ (b :: t).take m, 128 ≤ x.toNat := by
  have key : ∀ k, k < m → 128 ≤ ((b :: t).getD k 0).toNat := by
    rw [Lib.decodeL_N] at e
    intro k hk
    rcases Lib.decodeN_shape (b :: t).length ((b :: t).getD 0 0).toNat ((b :: t).getD 1 0).toNat ((b :: t).getD 2 0).toNat ((b :: t).getD 3 0).toNat with ⟨c, e'⟩ | ⟨k1, k2, k3, cv, e'⟩ | ⟨k1, k2, k3, k4, cv, cs, e'⟩ | ⟨k1, k2, k3, k4, k5, cv, cw, e'⟩ | e'
    · rw [e'] at e; cases e; omega
    · rw [e'] at e; cases e
      rcases (by omega : k = 0 ∨ k = 1) with rfl | rfl <;> omega
    · rw [e'] at e; cases e
      rcases (by omega : k = 0 ∨ k = 1 ∨ k = 2) with rfl | rfl | rfl <;> omega
    · rw [e'] at e; cases e
      rcases (by omega : k = 0 ∨ k = 1 ∨ k = 2 ∨ k = 3) with rfl | rfl | rfl | rfl <;> omega
    · rw [e'] at e; cases e; omega
  intro x hx
  obtain ⟨k, hk⟩ := List.getElem?_of_mem hx
  have hkm : k < m := by
    have := lt_of_get hk
    rw [List.length_take] at this; omega
  rw [List.getElem?_take_of_lt hkm] at hk
  have h := key k hkm
  simp only [List.getD, hk, Option.getD_some] at h
  exact h
/-! strings.IndexAny at two blanks -/
theorem ia_l1 : Ia.f44_l1 [32, 9] 2000 0 = some (.inr ()) := by kernel_rfl
theorem ia_f92 (r : Int) : ∃ v, Ia.f57 r = some v := by
  unfold Ia.f57
  repeat' split
  all_goals exact ⟨_, rfl⟩
theorem f44_na {r : Nat} {l : List UInt8} (hr : 128 ≤ r) (he : encR (r : Int) = l) (h2 : 2 ≤ l.length) (h4 : l.length ≤ 4) (hb : ∀ x ∈ l, 128 ≤ x.toNat) : Ia.f44 2000 [32, 9] (r : Int) = some (-1) := by
  unfold Ia.f44
  rw [if_pos (by omega), if_neg (by omega)]
  by_cases hf : (r : Int) = 65533
  · rw [if_pos hf, ia_l1]; rfl
  · rw [if_neg hf]
    obtain ⟨v, hv⟩ := ia_f92 (r : Int)
    rw [hv]
    simp only [Option.bind_some]
    cases v with
    | false => rfl
    | true =>
      have hw : IntKind.i64.wrap ((l.length : Int) - 1) = ((l.length - 1 : Nat) : Int) := by rw [w64 (by omega) (by omega)]; omega
      rw [if_pos rfl, he, hw, Ia.f44_l2, he]
      by_cases q : l.length = 2
      · rw [q]
        obtain ⟨y, hy⟩ : ∃ y, l[1]? = some y := ⟨l[1], List.getElem?_eq_getElem (by omega)⟩
        have hy2 := hb y (List.mem_of_getElem? hy)
        rw [if_pos (by decide)]
        rw [show IntKind.i64.wrap (((2 : Nat) : Int) - 1) = ((1 : Nat) : Int) from by decide, show ((2 - 1 : Nat) : Int) = ((1 : Nat) : Int) from rfl, rd_nat, rd_nat, hy]
        have h9 : ([32, 9] : List UInt8)[1]? = some 9 := rfl
        have hs : sub ([32, 9] : List UInt8) (IntKind.i64.wrap (((1 : Nat) : Int) + 1)) ((([32, 9] : List UInt8).length : Nat) : Int) = some [] := by decide
        have hn : ¬ (((9 : UInt8).toNat : Nat) : Int) = ((y.toNat : Nat) : Int) := by
          show ¬ ((9 : Nat) : Int) = _
          omega
        simp only [h9, Option.bind_some, if_neg hn, hs]
        rfl
      · rw [if_neg (by simp only [List.length_cons, List.length_nil]; omega)]
        rfl
theorem ia_loop (s : List UInt8) (h8 : s.length ≤ 8) : ∀ (n p : Nat), p ≤ s.length → s.length < n + p → Lib.NoAny s [32, 9] p →
    Ia.f35_l1 2000 s [32, 9] n p = some (if 0 ≤ Lib.indexAny s [32, 9] then .inl (Lib.indexAny s [32, 9]) else .inr ())
  | 0, p, h1, h2, h3 => by omega
  | n + 1, p, h1, h2, h3 => by
    rw [Ia.f35_l1]
    by_cases hp : p < s.length
    · rw [if_pos hp]
      obtain ⟨b, hb⟩ : ∃ b, s[p]? = some b := ⟨s[p], List.getElem?_eq_getElem hp⟩
      have hd : s.drop p = b :: s.drop (p + 1) := by
        obtain ⟨hl, e⟩ := List.getElem?_eq_some_iff.1 hb
        rw [List.drop_eq_getElem_cons hl, e]
      have hlen : (b :: s.drop (p + 1)).length = s.length - p := by rw [← hd, List.length_drop]
      have big : ∀ (m : Nat), 1 ≤ m → (∀ x ∈ (b :: s.drop (p + 1)).take m, 128 ≤ x.toNat) → Lib.NoAny s [32, 9] (p + m) := by
        intro m hm hx j c hj hc
        by_cases q : j < p
        · exact h3 j c q hc
        · have : (s.drop p)[j - p]? = some c := by rw [List.getElem?_drop, show p + (j - p) = j by omega]; exact hc
          rw [hd] at this
          have h5 := hx c (by
            refine List.mem_of_getElem? (i := j - p) ?_
            rw [List.getElem?_take_of_lt (by omega)]; exact this)
          have e1 : c ≠ 32 := fun e => by subst e; exact absurd h5 (by decide)
          have e2 : c ≠ 9 := fun e => by subst e; exact absurd h5 (by decide)
          simp [e1, e2]
      rw [decL_eq, decN_eq, hd]
      cases shape b (s.drop (p + 1)) with
      | a h e =>
        rw [e]
        have h85 : Ia.f44 2000 [32, 9] ((b.toNat : Nat) : Int) = some (Lib.indexByte [32, 9] b) := by
          unfold Ia.f44 Ia.f52
          have hw : IntKind.u8.wrap ((b.toNat : Nat) : Int) = ((b.toNat : Nat) : Int) := by rw [IntKind.wrap_u8]; omega
          rw [if_pos (by omega), if_pos (by omega), hw, Int.toNat_natCast]
          have : b.toNat.toUInt8 = b := by simp
          rw [this]; rfl
        simp only [h85, Option.bind_some]
        have hc := Lib.contains_iff_indexByte [32, 9] b
        by_cases q : Lib.indexByte [32, 9] b ≥ 0
        · rw [if_pos q]
          have hi := Lib.indexAny_hit h3 hb (by rw [hc]; exact decide_eq_true q)
          rw [hi, if_pos (by omega)]
        · rw [if_neg q]
          exact ia_loop s h8 n (p + 1) (by omega) (by omega) (h3.succ hb (by rw [hc]; exact decide_eq_false q))
      | b r m h e k1 k2 k3 k4 k5 k6 k7 k8 =>
        rw [e]
        have hx := take_big e k1 k3
        rw [f44_na k4 k7 (by rw [List.length_take]; omega) (by rw [List.length_take]; omega) hx]
        simp only [Option.bind_some]
        rw [if_neg (by decide)]
        exact ia_loop s h8 n (p + m) (by omega) (by omega) (big m (by omega) hx)
      | c h e k1 =>
        rw [e]
        have hx : ∀ x ∈ (b :: s.drop (p + 1)).take 1, 128 ≤ x.toNat := by
          intro x hx
          simp at hx
          subst hx; exact h
        have h33 : Ia.f44 2000 [32, 9] ((65533 : Nat) : Int) = some (-1) := by
          unfold Ia.f44
          rw [if_pos (by omega), if_neg (by omega), if_pos (by omega), ia_l1]; rfl
        simp only [h33, Option.bind_some]
        rw [if_neg (by decide)]
        exact ia_loop s h8 n (p + 1) (by omega) (by omega) (big 1 (by omega) hx)
    · rw [if_neg hp]
      have : p = s.length := by omega
      subst this
      rw [Lib.indexAny_none h3]; rfl
theorem ia67 {s : List UInt8} (h8 : s.length ≤ 8) : Ia.f35 2000 s [32, 9] = some (Lib.indexAny s [32, 9]) := by
  unfold Ia.f35 Ia.f45
  have h := ia_loop s h8 2000 0 (by omega) (by omega) (Lib.NoAny.zero _ _)
  have hg := Lib.indexAny_ge [32, 9] s
  rw [if_neg (by simp), if_neg (by decide)]
  have hd : decide ((s.length : Int) > 8) = false := decide_eq_false (by omega)
  simp only [Option.bind_some, hd, h]
  by_cases q : 0 ≤ Lib.indexAny s [32, 9]
  · rw [if_pos q]; rfl
  · rw [if_neg q, show Lib.indexAny s [32, 9] = -1 by omega]; rfl
end Go.Proofs.YtgmejigjajcbfaaDoor
