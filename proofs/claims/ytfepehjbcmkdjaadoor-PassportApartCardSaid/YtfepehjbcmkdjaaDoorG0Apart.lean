/-
  Contracts of Go's library, laid for this program: numbers read, an index, buffers of bytes.
-/
import Derived.Test.YtfepehjbcmkdjaaDoorProg
import Derived.Shelf.Strconv.AtoiAll
import Derived.Shelf.Strconv.Itoa4
import Derived.Shelf.LaysM
import Derived.Shelf.Strings.Search2
import Derived.Shelf.Bytes.WriteByte
import Derived.Shelf.Bytes.WriteString
import Derived.Shelf.Bytes.Bytes
import Derived.WalkKit
import Derived.WalkSpells
import Derived.WalkLawsBesides
import Derived.Deep.QuietTactic
import Derived.BigQuiet
import Derived.Lib.Hide
import Derived.Deep.RegionHeld3
import Derived.OrdersIn
set_option linter.unusedSimpArgs false
set_option linter.unusedVariables false
namespace Go.Proofs.YtfepehjbcmkdjaaDoor
open Go.Shelf
def laysM171_ren : Go.Shelf.Ren := ⟨fun | 171 => 60 | 243 => 72 | 246 => 40 | 283 => 49 | 284 => 50 | 285 => 51 | 286 => 52 | 129 => 62 | 317 => 61 | 318 => 63 | 319 => 64 | 320 => 65 | 337 => 73 | 338 => 74 | n => n, fun | 3 => 3 | 9 => 9 | 2 => 2 | 4 => 4 | 171 => 97 | 0 => 0 | 53 => 24 | 37 => 22 | 5 => 5 | 173 => 100 | 212 => 108 | 51 => 109 | 20 => 20 | 213 => 110 | 46 => 89 | 232 => 125 | 233 => 126 | n => n, fun | 17 => 1 | 18 => 3 | 19 => 4 | n => n⟩
theorem laysM171 : Go.Proofs.LaysM.n171 Tryd.prog laysM171_ren := {
  mixed := by kernel_rfl
  f129 := Tryd.func62.trans (congrArg some (by kernel_rfl))
  f171 := Tryd.func60.trans (congrArg some (by kernel_rfl))
  f243 := Tryd.func72.trans (congrArg some (by kernel_rfl))
  f246 := Tryd.func40.trans (congrArg some (by kernel_rfl))
  f283 := Tryd.func49.trans (congrArg some (by kernel_rfl))
  f284 := Tryd.func50.trans (congrArg some (by kernel_rfl))
  f285 := Tryd.func51.trans (congrArg some (by kernel_rfl))
  f286 := Tryd.func52.trans (congrArg some (by kernel_rfl))
  f317 := Tryd.func61.trans (congrArg some (by kernel_rfl))
  f318 := Tryd.func63.trans (congrArg some (by kernel_rfl))
  f319 := Tryd.func64.trans (congrArg some (by kernel_rfl))
  f320 := Tryd.func65.trans (congrArg some (by kernel_rfl))
  f337 := Tryd.func73.trans (congrArg some (by kernel_rfl))
  f338 := Tryd.func74.trans (congrArg some (by kernel_rfl))
  t0 := Tryd.underlying0
  a0 := Tryd.isAgg0
  z0 := Tryd.sizeOf0
  v0 := Tryd.zeroValue0
  t2 := Tryd.underlying2
  a2 := Tryd.isAgg2
  z2 := Tryd.sizeOf2
  v2 := Tryd.zeroValue2
  t3 := Tryd.underlying3
  a3 := Tryd.isAgg3
  z3 := Tryd.sizeOf3
  v3 := Tryd.zeroValue3
  t4 := Tryd.underlying4
  a4 := Tryd.isAgg4
  z4 := Tryd.sizeOf4
  v4 := Tryd.zeroValue4
  t5 := Tryd.underlying5
  a5 := Tryd.isAgg5
  z5 := Tryd.sizeOf5
  v5 := Tryd.zeroValue5
  t9 := Tryd.underlying9
  a9 := Tryd.isAgg9
  z9 := Tryd.sizeOf9
  v9 := Tryd.zeroValue9
  t20 := Tryd.underlying20
  a20 := Tryd.isAgg20
  z20 := Tryd.sizeOf20
  v20 := Tryd.zeroValue20
  t37 := Tryd.underlying22
  a37 := Tryd.isAgg22
  z37 := Tryd.sizeOf22
  v37 := Tryd.zeroValue22
  t46 := Tryd.underlying89
  a46 := Tryd.isAgg89
  z46 := Tryd.sizeOf89
  v46 := Tryd.zeroValue89
  t51 := Tryd.underlying109
  a51 := Tryd.isAgg109
  z51 := Tryd.sizeOf109
  v51 := Tryd.zeroValue109
  t53 := Tryd.underlying24
  a53 := Tryd.isAgg24
  z53 := Tryd.sizeOf24
  v53 := Tryd.zeroValue24
  t171 := Tryd.underlying97
  a171 := Tryd.isAgg97
  z171 := Tryd.sizeOf97
  v171 := Tryd.zeroValue97
  t173 := Tryd.underlying100
  a173 := Tryd.isAgg100
  z173 := Tryd.sizeOf100
  v173 := Tryd.zeroValue100
  t212 := Tryd.underlying108
  a212 := Tryd.isAgg108
  z212 := Tryd.sizeOf108
  v212 := Tryd.zeroValue108
  t213 := Tryd.underlying110
  a213 := Tryd.isAgg110
  z213 := Tryd.sizeOf110
  t232 := Tryd.underlying125
  a232 := Tryd.isAgg125
  z232 := Tryd.sizeOf125
  v232 := Tryd.zeroValue125
  t233 := Tryd.underlying126
  a233 := Tryd.isAgg126
  z233 := Tryd.sizeOf126
  v233 := Tryd.zeroValue126
  g17 := by kernel_rfl
  g18 := by kernel_rfl
  g19 := by kernel_rfl
  i0 := by kernel_rfl
  i2 := by kernel_rfl
  i3 := by kernel_rfl
  i4 := by kernel_rfl
  i5 := by kernel_rfl
  i9 := by kernel_rfl
  i20 := by kernel_rfl
  i37 := by kernel_rfl
  i46 := by kernel_rfl
  i51 := by kernel_rfl
  i53 := by kernel_rfl
  i171 := by kernel_rfl
  i173 := by kernel_rfl
  i212 := by kernel_rfl
  i232 := by kernel_rfl
  i233 := by kernel_rfl
  m17 := by kernel_rfl
  m18 := by kernel_rfl
  m19 := by kernel_rfl }
def laysM179_ren : Go.Shelf.Ren := ⟨fun | 179 => 35 | 251 => 46 | 252 => 47 | 181 => 55 | 184 => 56 | 290 => 57 | 324 => 68 | n => n, fun | 130 => 90 | 5 => 5 | 75 => 74 | 0 => 0 | 93 => 72 | 91 => 70 | 3 => 3 | 131 => 91 | 4 => 4 | 37 => 22 | 20 => 20 | 80 => 86 | 9 => 9 | n => n, fun | 14 => 0 | n => n⟩
theorem laysM179 : Go.Proofs.LaysM.n179 Tryd.prog laysM179_ren := {
  mixed := by kernel_rfl
  f179 := Tryd.func35.trans (congrArg some (by kernel_rfl))
  f181 := Tryd.func55.trans (congrArg some (by kernel_rfl))
  f184 := Tryd.func56.trans (congrArg some (by kernel_rfl))
  f251 := Tryd.func46.trans (congrArg some (by kernel_rfl))
  f252 := Tryd.func47.trans (congrArg some (by kernel_rfl))
  f290 := Tryd.func57.trans (congrArg some (by kernel_rfl))
  f324 := Tryd.func68.trans (congrArg some (by kernel_rfl))
  t0 := Tryd.underlying0
  a0 := Tryd.isAgg0
  z0 := Tryd.sizeOf0
  v0 := Tryd.zeroValue0
  t3 := Tryd.underlying3
  a3 := Tryd.isAgg3
  z3 := Tryd.sizeOf3
  v3 := Tryd.zeroValue3
  t4 := Tryd.underlying4
  a4 := Tryd.isAgg4
  z4 := Tryd.sizeOf4
  v4 := Tryd.zeroValue4
  t5 := Tryd.underlying5
  a5 := Tryd.isAgg5
  z5 := Tryd.sizeOf5
  v5 := Tryd.zeroValue5
  t20 := Tryd.underlying20
  a20 := Tryd.isAgg20
  z20 := Tryd.sizeOf20
  v20 := Tryd.zeroValue20
  t37 := Tryd.underlying22
  a37 := Tryd.isAgg22
  z37 := Tryd.sizeOf22
  v37 := Tryd.zeroValue22
  t75 := Tryd.underlying74
  a75 := Tryd.isAgg74
  z75 := Tryd.sizeOf74
  v75 := Tryd.zeroValue74
  t91 := Tryd.underlying70
  a91 := Tryd.isAgg70
  z91 := Tryd.sizeOf70
  v91 := Tryd.zeroValue70
  t93 := Tryd.underlying72
  a93 := Tryd.isAgg72
  z93 := Tryd.sizeOf72
  v93 := Tryd.zeroValue72
  t130 := Tryd.underlying90
  a130 := Tryd.isAgg90
  z130 := Tryd.sizeOf90
  v130 := Tryd.zeroValue90
  t131 := Tryd.underlying91
  a131 := Tryd.isAgg91
  z131 := Tryd.sizeOf91
  v131 := Tryd.zeroValue91
  g14 := by kernel_rfl
  t9 := Tryd.underlying9
  a9 := Tryd.isAgg9
  z9 := Tryd.sizeOf9
  v9 := Tryd.zeroValue9
  t80 := Tryd.underlying86
  a80 := Tryd.isAgg86
  z80 := Tryd.sizeOf86
  v80 := Tryd.zeroValue86
  i0 := by kernel_rfl
  i3 := by kernel_rfl
  i4 := by kernel_rfl
  i5 := by kernel_rfl
  i9 := by kernel_rfl
  i20 := by kernel_rfl
  i37 := by kernel_rfl
  i75 := by kernel_rfl
  i80 := by kernel_rfl
  i91 := by kernel_rfl
  i93 := by kernel_rfl
  i130 := by kernel_rfl
  i131 := by kernel_rfl
  m14 := by kernel_rfl }
def laysM178_ren : Go.Shelf.Ren := ⟨fun | 178 => 36 | 251 => 46 | 252 => 47 | 181 => 55 | 184 => 56 | 290 => 57 | 324 => 68 | n => n, fun | 130 => 90 | 9 => 9 | 3 => 3 | 75 => 74 | 0 => 0 | 93 => 72 | 91 => 70 | 131 => 91 | 4 => 4 | 37 => 22 | 20 => 20 | 80 => 86 | 5 => 5 | n => n, fun | 14 => 0 | n => n⟩
theorem laysM178 : Go.Proofs.LaysM.n178 Tryd.prog laysM178_ren := {
  mixed := by kernel_rfl
  f178 := Tryd.func36.trans (congrArg some (by kernel_rfl))
  f181 := Tryd.func55.trans (congrArg some (by kernel_rfl))
  f184 := Tryd.func56.trans (congrArg some (by kernel_rfl))
  f251 := Tryd.func46.trans (congrArg some (by kernel_rfl))
  f252 := Tryd.func47.trans (congrArg some (by kernel_rfl))
  f290 := Tryd.func57.trans (congrArg some (by kernel_rfl))
  f324 := Tryd.func68.trans (congrArg some (by kernel_rfl))
  t0 := Tryd.underlying0
  a0 := Tryd.isAgg0
  z0 := Tryd.sizeOf0
  v0 := Tryd.zeroValue0
  t3 := Tryd.underlying3
  a3 := Tryd.isAgg3
  z3 := Tryd.sizeOf3
  v3 := Tryd.zeroValue3
  t4 := Tryd.underlying4
  a4 := Tryd.isAgg4
  z4 := Tryd.sizeOf4
  v4 := Tryd.zeroValue4
  t9 := Tryd.underlying9
  a9 := Tryd.isAgg9
  z9 := Tryd.sizeOf9
  v9 := Tryd.zeroValue9
  t20 := Tryd.underlying20
  a20 := Tryd.isAgg20
  z20 := Tryd.sizeOf20
  v20 := Tryd.zeroValue20
  t37 := Tryd.underlying22
  a37 := Tryd.isAgg22
  z37 := Tryd.sizeOf22
  v37 := Tryd.zeroValue22
  t75 := Tryd.underlying74
  a75 := Tryd.isAgg74
  z75 := Tryd.sizeOf74
  v75 := Tryd.zeroValue74
  t91 := Tryd.underlying70
  a91 := Tryd.isAgg70
  z91 := Tryd.sizeOf70
  v91 := Tryd.zeroValue70
  t93 := Tryd.underlying72
  a93 := Tryd.isAgg72
  z93 := Tryd.sizeOf72
  v93 := Tryd.zeroValue72
  t130 := Tryd.underlying90
  a130 := Tryd.isAgg90
  z130 := Tryd.sizeOf90
  v130 := Tryd.zeroValue90
  t131 := Tryd.underlying91
  a131 := Tryd.isAgg91
  z131 := Tryd.sizeOf91
  v131 := Tryd.zeroValue91
  g14 := by kernel_rfl
  t5 := Tryd.underlying5
  a5 := Tryd.isAgg5
  z5 := Tryd.sizeOf5
  v5 := Tryd.zeroValue5
  t80 := Tryd.underlying86
  a80 := Tryd.isAgg86
  z80 := Tryd.sizeOf86
  v80 := Tryd.zeroValue86
  i0 := by kernel_rfl
  i3 := by kernel_rfl
  i4 := by kernel_rfl
  i5 := by kernel_rfl
  i9 := by kernel_rfl
  i20 := by kernel_rfl
  i37 := by kernel_rfl
  i75 := by kernel_rfl
  i80 := by kernel_rfl
  i91 := by kernel_rfl
  i93 := by kernel_rfl
  i130 := by kernel_rfl
  i131 := by kernel_rfl
  m14 := by kernel_rfl }
def laysM183_ren : Go.Shelf.Ren := ⟨fun | 183 => 37 | n => n, fun | 130 => 90 | 37 => 22 | 0 => 0 | 93 => 72 | 3 => 3 | 5 => 5 | 91 => 70 | n => n, fun | n => n⟩
theorem laysM183 : Go.Proofs.LaysM.n183 Tryd.prog laysM183_ren := {
  mixed := by kernel_rfl
  f183 := Tryd.func37.trans (congrArg some (by kernel_rfl))
  t0 := Tryd.underlying0
  a0 := Tryd.isAgg0
  z0 := Tryd.sizeOf0
  v0 := Tryd.zeroValue0
  t3 := Tryd.underlying3
  a3 := Tryd.isAgg3
  z3 := Tryd.sizeOf3
  v3 := Tryd.zeroValue3
  t37 := Tryd.underlying22
  a37 := Tryd.isAgg22
  z37 := Tryd.sizeOf22
  v37 := Tryd.zeroValue22
  t93 := Tryd.underlying72
  a93 := Tryd.isAgg72
  z93 := Tryd.sizeOf72
  v93 := Tryd.zeroValue72
  t130 := Tryd.underlying90
  a130 := Tryd.isAgg90
  z130 := Tryd.sizeOf90
  v130 := Tryd.zeroValue90
  t5 := Tryd.underlying5
  a5 := Tryd.isAgg5
  z5 := Tryd.sizeOf5
  v5 := Tryd.zeroValue5
  t91 := Tryd.underlying70
  a91 := Tryd.isAgg70
  z91 := Tryd.sizeOf70
  v91 := Tryd.zeroValue70
  i0 := by kernel_rfl
  i3 := by kernel_rfl
  i5 := by kernel_rfl
  i37 := by kernel_rfl
  i91 := by kernel_rfl
  i93 := by kernel_rfl
  i130 := by kernel_rfl }
def laysC172_ren : Go.Shelf.Ren := ⟨fun | 172 => 59 | 244 => 70 | 245 => 71 | 247 => 76 | 279 => 77 | 280 => 78 | 281 => 79 | 282 => 80 | 287 => 85 | 316 => 86 | 171 => 60 | 205 => 87 | 321 => 90 | 322 => 91 | 243 => 72 | 246 => 40 | 283 => 49 | 284 => 50 | 285 => 51 | 286 => 52 | 129 => 62 | 317 => 61 | 318 => 63 | 319 => 64 | 320 => 65 | 337 => 73 | 338 => 74 | n => n, fun | 9 => 9 | 3 => 3 | 75 => 74 | 76 => 78 | 4 => 4 | 5 => 5 | 167 => 119 | 37 => 22 | 0 => 0 | 85 => 120 | 2 => 2 | 168 => 122 | 53 => 24 | 175 => 128 | 46 => 89 | 210 => 132 | 127 => 102 | 145 => 139 | 143 => 137 | 21 => 21 | 171 => 97 | 173 => 100 | 212 => 108 | 51 => 109 | 20 => 20 | 213 => 110 | 232 => 125 | 233 => 126 | 80 => 86 | n => n, fun | 15 => 5 | 16 => 6 | 17 => 1 | 18 => 3 | 19 => 4 | n => n⟩
theorem laysC172 : Go.Proofs.LaysC.n172 Tryd.prog laysC172_ren := {
  mixed := by kernel_rfl
  f129 := Tryd.func62.trans (congrArg some (by kernel_rfl))
  f171 := Tryd.func60.trans (congrArg some (by kernel_rfl))
  f172 := Tryd.func59.trans (congrArg some (by kernel_rfl))
  f205 := Tryd.func87.trans (congrArg some (by kernel_rfl))
  f243 := Tryd.func72.trans (congrArg some (by kernel_rfl))
  f244 := Tryd.func70.trans (congrArg some (by kernel_rfl))
  f245 := Tryd.func71.trans (congrArg some (by kernel_rfl))
  f246 := Tryd.func40.trans (congrArg some (by kernel_rfl))
  f247 := Tryd.func76.trans (congrArg some (by kernel_rfl))
  f279 := Tryd.func77.trans (congrArg some (by kernel_rfl))
  f280 := Tryd.func78.trans (congrArg some (by kernel_rfl))
  f281 := Tryd.func79.trans (congrArg some (by kernel_rfl))
  f282 := Tryd.func80.trans (congrArg some (by kernel_rfl))
  f283 := Tryd.func49.trans (congrArg some (by kernel_rfl))
  f284 := Tryd.func50.trans (congrArg some (by kernel_rfl))
  f285 := Tryd.func51.trans (congrArg some (by kernel_rfl))
  f286 := Tryd.func52.trans (congrArg some (by kernel_rfl))
  f287 := Tryd.func85.trans (congrArg some (by kernel_rfl))
  f316 := Tryd.func86.trans (congrArg some (by kernel_rfl))
  f317 := Tryd.func61.trans (congrArg some (by kernel_rfl))
  f318 := Tryd.func63.trans (congrArg some (by kernel_rfl))
  f319 := Tryd.func64.trans (congrArg some (by kernel_rfl))
  f320 := Tryd.func65.trans (congrArg some (by kernel_rfl))
  f321 := Tryd.func90.trans (congrArg some (by kernel_rfl))
  f322 := Tryd.func91.trans (congrArg some (by kernel_rfl))
  f337 := Tryd.func73.trans (congrArg some (by kernel_rfl))
  f338 := Tryd.func74.trans (congrArg some (by kernel_rfl))
  t0 := Tryd.underlying0
  a0 := Tryd.isAgg0
  z0 := Tryd.sizeOf0
  v0 := Tryd.zeroValue0
  t2 := Tryd.underlying2
  a2 := Tryd.isAgg2
  z2 := Tryd.sizeOf2
  v2 := Tryd.zeroValue2
  t3 := Tryd.underlying3
  a3 := Tryd.isAgg3
  z3 := Tryd.sizeOf3
  v3 := Tryd.zeroValue3
  t4 := Tryd.underlying4
  a4 := Tryd.isAgg4
  z4 := Tryd.sizeOf4
  v4 := Tryd.zeroValue4
  t5 := Tryd.underlying5
  a5 := Tryd.isAgg5
  z5 := Tryd.sizeOf5
  v5 := Tryd.zeroValue5
  t9 := Tryd.underlying9
  a9 := Tryd.isAgg9
  z9 := Tryd.sizeOf9
  v9 := Tryd.zeroValue9
  t20 := Tryd.underlying20
  a20 := Tryd.isAgg20
  z20 := Tryd.sizeOf20
  v20 := Tryd.zeroValue20
  t21 := Tryd.underlying21
  a21 := Tryd.isAgg21
  z21 := Tryd.sizeOf21
  v21 := Tryd.zeroValue21
  t37 := Tryd.underlying22
  a37 := Tryd.isAgg22
  z37 := Tryd.sizeOf22
  v37 := Tryd.zeroValue22
  t46 := Tryd.underlying89
  a46 := Tryd.isAgg89
  z46 := Tryd.sizeOf89
  v46 := Tryd.zeroValue89
  t51 := Tryd.underlying109
  a51 := Tryd.isAgg109
  z51 := Tryd.sizeOf109
  v51 := Tryd.zeroValue109
  t53 := Tryd.underlying24
  a53 := Tryd.isAgg24
  z53 := Tryd.sizeOf24
  v53 := Tryd.zeroValue24
  t75 := Tryd.underlying74
  a75 := Tryd.isAgg74
  z75 := Tryd.sizeOf74
  v75 := Tryd.zeroValue74
  t76 := Tryd.underlying78
  a76 := Tryd.isAgg78
  z76 := Tryd.sizeOf78
  v76 := Tryd.zeroValue78
  t85 := Tryd.underlying120
  a85 := Tryd.isAgg120
  z85 := Tryd.sizeOf120
  v85 := Tryd.zeroValue120
  t127 := Tryd.underlying102
  a127 := Tryd.isAgg102
  z127 := Tryd.sizeOf102
  v127 := Tryd.zeroValue102
  t143 := Tryd.underlying137
  a143 := Tryd.isAgg137
  z143 := Tryd.sizeOf137
  v143 := Tryd.zeroValue137
  t145 := Tryd.underlying139
  a145 := Tryd.isAgg139
  z145 := Tryd.sizeOf139
  v145 := Tryd.zeroValue139
  t167 := Tryd.underlying119
  a167 := Tryd.isAgg119
  z167 := Tryd.sizeOf119
  v167 := Tryd.zeroValue119
  t168 := Tryd.underlying122
  a168 := Tryd.isAgg122
  z168 := Tryd.sizeOf122
  v168 := Tryd.zeroValue122
  t171 := Tryd.underlying97
  a171 := Tryd.isAgg97
  z171 := Tryd.sizeOf97
  v171 := Tryd.zeroValue97
  t173 := Tryd.underlying100
  a173 := Tryd.isAgg100
  z173 := Tryd.sizeOf100
  v173 := Tryd.zeroValue100
  t175 := Tryd.underlying128
  a175 := Tryd.isAgg128
  z175 := Tryd.sizeOf128
  v175 := Tryd.zeroValue128
  t210 := Tryd.underlying132
  a210 := Tryd.isAgg132
  z210 := Tryd.sizeOf132
  v210 := Tryd.zeroValue132
  t212 := Tryd.underlying108
  a212 := Tryd.isAgg108
  z212 := Tryd.sizeOf108
  v212 := Tryd.zeroValue108
  t213 := Tryd.underlying110
  a213 := Tryd.isAgg110
  z213 := Tryd.sizeOf110
  t232 := Tryd.underlying125
  a232 := Tryd.isAgg125
  z232 := Tryd.sizeOf125
  v232 := Tryd.zeroValue125
  t233 := Tryd.underlying126
  a233 := Tryd.isAgg126
  z233 := Tryd.sizeOf126
  v233 := Tryd.zeroValue126
  g15 := by kernel_rfl
  g16 := by kernel_rfl
  g17 := by kernel_rfl
  g18 := by kernel_rfl
  g19 := by kernel_rfl
  t80 := Tryd.underlying86
  a80 := Tryd.isAgg86
  z80 := Tryd.sizeOf86
  v80 := Tryd.zeroValue86
  i0 := by kernel_rfl
  i2 := by kernel_rfl
  i3 := by kernel_rfl
  i4 := by kernel_rfl
  i5 := by kernel_rfl
  i9 := by kernel_rfl
  i20 := by kernel_rfl
  i21 := by kernel_rfl
  i37 := by kernel_rfl
  i46 := by kernel_rfl
  i51 := by kernel_rfl
  i53 := by kernel_rfl
  i75 := by kernel_rfl
  i76 := by kernel_rfl
  i80 := by kernel_rfl
  i85 := by kernel_rfl
  i127 := by kernel_rfl
  i143 := by kernel_rfl
  i145 := by kernel_rfl
  i167 := by kernel_rfl
  i168 := by kernel_rfl
  i171 := by kernel_rfl
  i173 := by kernel_rfl
  i175 := by kernel_rfl
  i210 := by kernel_rfl
  i212 := by kernel_rfl
  i232 := by kernel_rfl
  i233 := by kernel_rfl
  m15 := by kernel_rfl
  m16 := by kernel_rfl
  m17 := by kernel_rfl
  m18 := by kernel_rfl
  m19 := by kernel_rfl
  c0 := by kernel_rfl
  c2 := by kernel_rfl
  c3 := by kernel_rfl
  c4 := by kernel_rfl
  c5 := by kernel_rfl
  c9 := by kernel_rfl
  c20 := by kernel_rfl
  c21 := by kernel_rfl
  c37 := by kernel_rfl
  c46 := by kernel_rfl
  c51 := by kernel_rfl
  c53 := by kernel_rfl
  c75 := by kernel_rfl
  c76 := by kernel_rfl
  c80 := by kernel_rfl
  c85 := by kernel_rfl
  c127 := by kernel_rfl
  c143 := by kernel_rfl
  c145 := by kernel_rfl
  c167 := by kernel_rfl
  c168 := by kernel_rfl
  c171 := by kernel_rfl
  c173 := by kernel_rfl
  c175 := by kernel_rfl
  c210 := by kernel_rfl
  c212 := by kernel_rfl
  c213 := by kernel_rfl
  c232 := by kernel_rfl
  c233 := by kernel_rfl }
def lays219_ren : Go.Shelf.Ren := ⟨fun | 219 => 75 | 217 => 81 | 225 => 82 | 224 => 83 | 267 => 84 | 266 => 88 | 314 => 89 | n => n, fun | 9 => 9 | 3 => 3 | 4 => 4 | 5 => 5 | 46 => 89 | 146 => 134 | 51 => 109 | n => n, fun | 1 => 2 | n => n⟩
theorem lays219 : Go.Proofs.Lays.n219 Tryd.prog lays219_ren := {
  mixed := by kernel_rfl
  f217 := Tryd.func81.trans (congrArg some (by kernel_rfl))
  f219 := Tryd.func75.trans (congrArg some (by kernel_rfl))
  f224 := Tryd.func83.trans (congrArg some (by kernel_rfl))
  f225 := Tryd.func82.trans (congrArg some (by kernel_rfl))
  f266 := Tryd.func88.trans (congrArg some (by kernel_rfl))
  f267 := Tryd.func84.trans (congrArg some (by kernel_rfl))
  f314 := Tryd.func89.trans (congrArg some (by kernel_rfl))
  t3 := Tryd.underlying3
  a3 := Tryd.isAgg3
  z3 := Tryd.sizeOf3
  v3 := Tryd.zeroValue3
  t4 := Tryd.underlying4
  a4 := Tryd.isAgg4
  z4 := Tryd.sizeOf4
  v4 := Tryd.zeroValue4
  t5 := Tryd.underlying5
  a5 := Tryd.isAgg5
  z5 := Tryd.sizeOf5
  v5 := Tryd.zeroValue5
  t9 := Tryd.underlying9
  a9 := Tryd.isAgg9
  z9 := Tryd.sizeOf9
  v9 := Tryd.zeroValue9
  t46 := Tryd.underlying89
  a46 := Tryd.isAgg89
  z46 := Tryd.sizeOf89
  v46 := Tryd.zeroValue89
  t51 := Tryd.underlying109
  a51 := Tryd.isAgg109
  z51 := Tryd.sizeOf109
  v51 := Tryd.zeroValue109
  t146 := Tryd.underlying134
  a146 := Tryd.isAgg134
  z146 := Tryd.sizeOf134
  v146 := Tryd.zeroValue134
  g1 := by kernel_rfl }
end Go.Proofs.YtfepehjbcmkdjaaDoor

/-
  Small facts on worlds that every walk of this claim uses.
-/
set_option linter.unusedSimpArgs false
set_option linter.unusedVariables false
namespace Go.Proofs.YtfepehjbcmkdjaaDoor
open Go.RowKit

/-! Contracts that leave the world alone, in a region that draws its order (behind a draw, or behind two). -/
theorem quiet_left {P : Program} {f : FuncId} {args : Array Value} {w : World} {n : Nat} {v : Value}
    (h : Calls P f args (w.drewN n) fun e w' => e = .returned v ∧ w.drewN n = w') : Calls P f args (w.drewN n) fun e w'' => e = .returned v ∧ ∃ m, w'' = w.drewN m :=
  h.mono fun _ _ ⟨he, hm⟩ => ⟨he, n, hm.symm⟩
theorem quiet_add_left {P : Program} {f : FuncId} {args : Array Value} {w : World} {a n : Nat} {v : Value}
    (h : Calls P f args (w.drewN (a + n)) fun e w' => e = .returned v ∧ w.drewN (a + n) = w') :
    Calls P f args (w.drewN (a + n)) fun e w'' => e = .returned v ∧ ∃ m, w'' = w.drewN (a + m) :=
  h.mono fun _ _ ⟨he, hm⟩ => ⟨he, n, hm.symm⟩

/-! What a call leaves of memory. -/
theorem bcell {W w1 : World} (hb : Below W.heap.size W w1) : (∀ b o, b < W.heap.size → w1.cell? ⟨b, o, none⟩ = W.cell? ⟨b, o, none⟩) ∧ (∀ b o, b < W.heap.size → w1.frozen? ⟨b, o, none⟩ = W.frozen? ⟨b, o, none⟩) :=
  ⟨fun b o h => hb.cell (p := ⟨b, o, none⟩) h, fun b o h => hb.frozen (p := ⟨b, o, none⟩) h⟩
theorem bAlloc {w b : World} (h : Below w.heap.size w b) (o : Obj) : Below w.heap.size w (b.alloc o) := h.alloc h.size o
theorem bStep {w b c : World} (h : Below w.heap.size w b) (k : Below b.heap.size b c) : Below w.heap.size w c := h.trans (k.mono h.size)
theorem bSet {w b : World} (h : Below w.heap.size w b) {p : Addr} (hp : w.heap.size ≤ p.block) (v : Value) : Below w.heap.size w (b.setCell p v) := h.setCell hp v
theorem bDrew {B : Nat} {w b : World} (h : Below B w b) : Below B w b.drew := h.drew
theorem bDrewN {B : Nat} {w b : World} {n : Nat} (h : Below B w b) : Below B w (b.drewN n) := ⟨h.os, h.tape, h.output, h.size, h.block⟩

/-! A block that is known whole: behind a store, a new block, a draw. -/
theorem blk_set {w : World} {b o : Nat} {v : Value} {cs : Array Value} {t : TypeId} {fr : Nat × Nat} (h : w.heap[b]? = some (.cells cs t fr)) :
    (w.setCell ⟨b, o, none⟩ v).heap[b]? = some (.cells (cs.setIfInBounds o v) t fr) := by
  simp [World.setCell, Array.getElem?_modify, h]
theorem blk_set_other {w : World} {b : Nat} {p : Addr} {v : Value} {x : Obj} (h : w.heap[b]? = some x) (hne : b ≠ p.block) : (w.setCell p v).heap[b]? = some x :=
  (Below.heap_setCell w p v b hne).trans h
theorem blk_lt {w : World} {b : Nat} {x : Obj} (h : w.heap[b]? = some x) : b < w.heap.size := by
  rcases Nat.lt_or_ge b w.heap.size with h1 | h1
  · exact h1
  · rw [Array.getElem?_eq_none h1] at h; cases h
theorem blk_alloc {w : World} {b : Nat} {o x : Obj} (h : w.heap[b]? = some x) : (w.alloc o).heap[b]? = some x :=
  (Below.heap_alloc w o b (blk_lt h)).trans h
theorem blk_new (w : World) (o : Obj) : (w.alloc o).heap[w.heap.size]? = some o := by
  show (w.heap.push o)[w.heap.size]? = _
  simp
theorem blk_below {B : Nat} {w w1 : World} {b : Nat} {x : Obj} (h : w.heap[b]? = some x) (hb : Below B w w1) (hB : b < B) : w1.heap[b]? = some x := (hb.block b hB).trans h
theorem blk_step {w w1 : World} {b : Nat} {x : Obj} (h : w.heap[b]? = some x) (hb : Below w.heap.size w w1) : w1.heap[b]? = some x := blk_below h hb (blk_lt h)
theorem blk_cell {w : World} {b o : Nat} {cs : Array Value} {t : TypeId} {fr : Nat × Nat} {v : Value} (h : w.heap[b]? = some (.cells cs t fr)) (hv : cs[o]? = some v) : w.cell? ⟨b, o, none⟩ = some v := by
  simp [World.cell?, h, hv]
theorem blk_free {w : World} {b o : Nat} {cs : Array Value} {t : TypeId} (h : w.heap[b]? = some (.cells cs t (0, 0))) : w.frozen? ⟨b, o, none⟩ = false := by
  simp [World.frozen?, h]

/-! Facts on cells that a region keeps: behind a call, a new block, a draw. -/
theorem cell_lt {W : World} {p : Addr} {v : Value} (h : W.cell? p = some v) : p.block < W.heap.size := by
  rcases Nat.lt_or_ge p.block W.heap.size with h1 | h1
  · exact h1
  · simp [World.cell?, Array.getElem?_eq_none h1] at h
theorem cell_step {W w2 : World} {p : Addr} {v : Value} (h : W.cell? p = some v) (hb : Below W.heap.size W w2) : w2.cell? p = some v := (hb.cell (cell_lt h)).trans h
theorem free_step {W w2 : World} {p : Addr} {v : Value} (h : W.cell? p = some v) (hf : W.frozen? p = false) (hb : Below W.heap.size W w2) : w2.frozen? p = false := (hb.frozen (cell_lt h)).trans hf
theorem cell_of_set {W : World} {a p : Addr} {v x : Value} (h : (W.setCell a v).cell? p = some x) : ∃ y, W.cell? p = some y := by
  cases hy : W.cell? p with
  | some y => exact ⟨y, rfl⟩
  | none =>
    exfalso
    revert h hy
    unfold World.cell? World.setCell
    simp only [Array.getElem?_modify]
    by_cases e : a.block = p.block
    · rw [if_pos e]
      cases W.heap[p.block]? with
      | none => simp
      | some o =>
        cases o <;> try simp
        rename_i c t f
        by_cases hp : p.spot.isSome = true <;> by_cases ha : a.spot.isSome = true <;> simp_all
        all_goals
          intros
          rcases Nat.lt_or_ge p.off c.size with h1 | h1
          · first | exact h1 | simp_all
          · simp_all
    · rw [if_neg e]
      intro h1 h2
      simp_all
/-- A box of two cells at r that will be written: whatever it holds. -/
def ResBox (r : Nat) (W : World) : Prop := (∃ x0 x1, W.cell? ⟨r, 0, none⟩ = some x0 ∧ W.cell? ⟨r, 1, none⟩ = some x1) ∧ W.frozen? ⟨r, 0, none⟩ = false ∧ W.frozen? ⟨r, 1, none⟩ = false
theorem ResBox.step {W w2 : World} {r : Nat} (h : ResBox r W) (hb : Below W.heap.size W w2) : ResBox r w2 := by
  obtain ⟨⟨x0, x1, h1, h2⟩, h3, h4⟩ := h
  exact ⟨⟨x0, x1, cell_step h1 hb, cell_step h2 hb⟩, free_step h1 h3 hb, free_step h2 h4 hb⟩
theorem ResBox.set {W : World} {r : Nat} (h : ResBox r W) (v0 v1 : Value) : ResBox r ((W.setCell ⟨r, 0, none⟩ v0).setCell ⟨r, 1, none⟩ v1) := by
  obtain ⟨⟨x0, x1, h1, h2⟩, h3, h4⟩ := h
  refine ⟨⟨v0, v1, ?_, ?_⟩, ?_, ?_⟩ <;> go_simp
/-- A parameter's box of two cells at b, and the result's box of two cells at r. -/
def Box1 (w : World) (b r : Nat) (v0 v1 : Value) (W : World) : Prop :=
  W.cell? ⟨b, 0, none⟩ = some v0 ∧ W.cell? ⟨b, 1, none⟩ = some v1 ∧ ResBox r W ∧ Below w.heap.size w W
theorem Box1.step {w W w2 : World} {b r : Nat} {v0 v1 : Value} (h : Box1 w b r v0 v1 W) (hb : Below W.heap.size W w2) : Box1 w b r v0 v1 w2 := by
  obtain ⟨h1, h2, h3, h7⟩ := h
  exact ⟨cell_step h1 hb, cell_step h2 hb, h3.step hb, bStep h7 hb⟩
theorem Box1.alloc {w W : World} {b r : Nat} {v0 v1 : Value} (h : Box1 w b r v0 v1 W) (o : Obj) : Box1 w b r v0 v1 (W.alloc o) := h.step ((Below.refl _ _).alloc (Nat.le_refl _) o)
theorem Box1.drew {w W : World} {b r : Nat} {v0 v1 : Value} (h : Box1 w b r v0 v1 W) : Box1 w b r v0 v1 W.drew := h.step (Below.refl _ _).drew
theorem cell_set_far {W : World} {b r o o' : Nat} {v x : Value} (h : W.cell? ⟨b, o, none⟩ = some x) (hne : b ≠ r) : (W.setCell ⟨r, o', none⟩ v).cell? ⟨b, o, none⟩ = some x :=
  (World.cell?_of_block (w := W) (Below.heap_setCell W _ _ _ hne)).trans h
theorem Box1.set {w W : World} {b r : Nat} {v0 v1 : Value} (h : Box1 w b r v0 v1 W) (hr : w.heap.size ≤ r) (hne : b ≠ r) (x0 x1 : Value) : Box1 w b r v0 v1 ((W.setCell ⟨r, 0, none⟩ x0).setCell ⟨r, 1, none⟩ x1) := by
  obtain ⟨h1, h2, h3, h7⟩ := h
  exact ⟨cell_set_far (cell_set_far h1 hne) hne, cell_set_far (cell_set_far h2 hne) hne, h3.set x0 x1, bSet (bSet h7 hr _) hr _⟩
/-- Two parameters' boxes at b, c, and the result's at r. -/
def Box2 (w : World) (b c r : Nat) (v0 v1 x0 x1 : Value) (W : World) : Prop :=
  W.cell? ⟨b, 0, none⟩ = some v0 ∧ W.cell? ⟨b, 1, none⟩ = some v1 ∧ W.cell? ⟨c, 0, none⟩ = some x0 ∧ W.cell? ⟨c, 1, none⟩ = some x1 ∧ ResBox r W ∧ Below w.heap.size w W
theorem Box2.step {w W w2 : World} {b c r : Nat} {v0 v1 x0 x1 : Value} (h : Box2 w b c r v0 v1 x0 x1 W) (hb : Below W.heap.size W w2) : Box2 w b c r v0 v1 x0 x1 w2 := by
  obtain ⟨h1, h2, k1, k2, h3, h7⟩ := h
  exact ⟨cell_step h1 hb, cell_step h2 hb, cell_step k1 hb, cell_step k2 hb, h3.step hb, bStep h7 hb⟩
theorem Box2.alloc {w W : World} {b c r : Nat} {v0 v1 x0 x1 : Value} (h : Box2 w b c r v0 v1 x0 x1 W) (o : Obj) : Box2 w b c r v0 v1 x0 x1 (W.alloc o) := h.step ((Below.refl _ _).alloc (Nat.le_refl _) o)
theorem Box2.drew {w W : World} {b c r : Nat} {v0 v1 x0 x1 : Value} (h : Box2 w b c r v0 v1 x0 x1 W) : Box2 w b c r v0 v1 x0 x1 W.drew := h.step (Below.refl _ _).drew
theorem Box2.set {w W : World} {b c r : Nat} {v0 v1 y0 y1 : Value} (h : Box2 w b c r v0 v1 y0 y1 W) (hr : w.heap.size ≤ r) (hne : b ≠ r) (hne2 : c ≠ r) (x0 x1 : Value) : Box2 w b c r v0 v1 y0 y1 ((W.setCell ⟨r, 0, none⟩ x0).setCell ⟨r, 1, none⟩ x1) := by
  obtain ⟨h1, h2, h4, h5, h3, h7⟩ := h
  exact ⟨cell_set_far (cell_set_far h1 hne) hne, cell_set_far (cell_set_far h2 hne) hne, cell_set_far (cell_set_far h4 hne2) hne2, cell_set_far (cell_set_far h5 hne2) hne2, h3.set x0 x1, bSet (bSet h7 hr _) hr _⟩

end Go.Proofs.YtfepehjbcmkdjaaDoor

/-
  Small facts on worlds, continued.
-/
set_option linter.unusedSimpArgs false
set_option linter.unusedVariables false
namespace Go.Proofs.YtfepehjbcmkdjaaDoor
open Go.RowKit

/-! The same, the step first: for 'by assumption' in this order. -/
theorem cellS {W w2 : World} {p : Addr} {v : Value} (hb : Below W.heap.size W w2) (h : W.cell? p = some v) : w2.cell? p = some v := cell_step h hb
theorem cellA {W : World} {o : Obj} {p : Addr} {v : Value} (h : W.cell? p = some v) : (W.alloc o).cell? p = some v := cell_step h ((Below.refl _ _).alloc (Nat.le_refl _) o)
theorem cellD {W : World} {p : Addr} {v : Value} (h : W.cell? p = some v) : W.drew.cell? p = some v := h
theorem freeS {W w2 : World} {p : Addr} {v : Value} (hb : Below W.heap.size W w2) (h : W.cell? p = some v) (hf : W.frozen? p = false) : w2.frozen? p = false := free_step h hf hb
theorem freeA {W : World} {o : Obj} {p : Addr} {v : Value} (h : W.cell? p = some v) (hf : W.frozen? p = false) : (W.alloc o).frozen? p = false := free_step h hf ((Below.refl _ _).alloc (Nat.le_refl _) o)
theorem freeD {W : World} {p : Addr} (h : W.frozen? p = false) : W.drew.frozen? p = false := h
theorem bStepF {w b c : World} (k : Below b.heap.size b c) (h : Below w.heap.size w b) : Below w.heap.size w c := bStep h k

end Go.Proofs.YtfepehjbcmkdjaaDoor

/-
  A region that draws its order, by one condition on what has been carried out: each operation is walked once, from whatever state meets the condition.
-/
set_option linter.unusedSimpArgs false
set_option linter.unusedVariables false
namespace Go.Proofs.YtfepehjbcmkdjaaDoor
open Go.RowKit

section
variable {P : Program} {ops : Array Oper} {Q : Exit → Act → World → Prop}

/-- Every operation waits for earlier ones alone. -/
def early (ops : Array Oper) : Bool := (List.range ops.size).all fun i => ((ops[i]?).map (·.after.all fun e => !Region.binds .any e || decide (e.on < i))).getD true

theorem all_listed {l : Array Bool} (hsz : l.size = ops.size) (he : early ops = true) (h : Region.ready .any ops l = []) : ∀ i, i < ops.size → l.getD i true = true := by
  intro i
  induction i using Nat.strongRecOn with
  | _ i ih =>
    intro hi
    cases hl : l.getD i true with
    | true => rfl
    | false =>
      exfalso
      have hr : i ∈ Region.ready .any ops l := by
        unfold Region.ready
        rw [List.mem_filter]
        refine ⟨List.mem_range.2 hi, ?_⟩
        have ho : ops[i]? = some ops[i] := Array.getElem?_eq_getElem hi
        rw [hl, ho]
        simp only [Bool.not_false, Bool.true_and, Option.map_some, Option.getD_some]
        rw [Array.all_eq_true']
        intro e hem
        have h1 := List.all_eq_true.1 he i (List.mem_range.2 hi)
        rw [ho] at h1
        simp only [Option.map_some, Option.getD_some] at h1
        rw [Array.all_eq_true'] at h1
        have h2 := h1 e hem
        cases hb : Region.binds .any e with
        | false => simp
        | true =>
          rw [hb] at h2
          simp at h2
          have h3 := ih e.on h2 (by omega)
          have : l.getD e.on false = true := by
            rw [Array.getD_eq_getD_getElem?] at h3 ⊢
            cases hx : l[e.on]? with
            | some x => rw [hx] at h3; simpa using h3
            | none =>
              exfalso
              rw [Array.getElem?_eq_none_iff] at hx
              omega
          simp [this]
      rw [h] at hr
      exact absurd hr (by simp)

/-- How many are still to come. -/
def left (l : Array Bool) : Nat := l.toList.count false
theorem left_set {l : Array Bool} {i : Nat} (hi : i < l.size) (h : l.getD i true = false) : left (l.setIfInBounds i true) + 1 = left l := by
  obtain ⟨l⟩ := l
  simp only [left, List.setIfInBounds_toArray]
  have hi' : i < l.length := by simpa using hi
  have h' : l[i] = false := by
    rw [Array.getD_eq_getD_getElem?] at h
    simpa [hi'] using h
  rw [List.count_set hi']
  have hc : 0 < List.count false l := List.count_pos_iff.2 (h' ▸ List.getElem_mem hi')
  simp [h']
  omega
theorem ready_iff {md : Region.Mode} {l : Array Bool} {i : Nat} (h : i ∈ Region.ready md ops l) :
    i < ops.size ∧ l.getD i true = false ∧ ∀ o, ops[i]? = some o → (o.after.all fun e => !Region.binds md e || l.getD e.on false) = true := by
  unfold Region.ready at h
  rw [List.mem_filter] at h
  obtain ⟨h1, h2⟩ := h
  rw [Bool.and_eq_true] at h2
  refine ⟨List.mem_range.1 h1, by simpa using h2.1, fun o ho => ?_⟩
  have h3 := h2.2
  rw [ho] at h3
  simpa using h3

theorem any_inv (he : early ops = true) (I : Array Bool → Act → World → Prop) (hsz : ∀ l a w, I l a w → l.size = ops.size)
    (step : ∀ i o, ops[i]? = some o → ∀ l a w, I l a w → l.getD i true = false → (o.after.all fun e => !Region.binds .any e || l.getD e.on false) = true → wpOp P ops Q i (I (l.setIfInBounds i true)) a w)
    (done : ∀ l a w, I l a w → (∀ i, i < ops.size → l.getD i true = true) → Q .normal a w) :
    ∀ fuel l a w, I l a w → left l ≤ fuel → wpAny P .any ops Q fuel l a w := by
  intro fuel
  induction fuel with
  | zero =>
    intro l a w hI hf
    have hr : Region.ready .any ops l = [] := by
      rw [List.eq_nil_iff_forall_not_mem]
      intro i hi
      obtain ⟨h1, h2, _⟩ := ready_iff hi
      have := left_set (by rw [hsz l a w hI]; exact h1) h2
      omega
    exact ⟨hr, done l a w hI (all_listed (hsz l a w hI) he hr)⟩
  | succ n ih =>
    intro l a w hI hf
    refine ⟨fun hr => done l a w hI (all_listed (hsz l a w hI) he hr), fun i hi => ?_⟩
    obtain ⟨h1, h2, h3⟩ := ready_iff hi
    have ho : ops[i]? = some ops[i] := Array.getElem?_eq_getElem h1
    have hl := left_set (by rw [hsz l a w hI]; exact h1) h2
    exact wpOp_mono (fun a' w' h' => ih _ a' w' h' (by omega)) (step i _ ho l a w hI h2 (h3 _ ho))

theorem left_new (n : Nat) : left (Array.replicate n false) = n := by simp [left]

/-- THE RULE: a condition I on which operations have been carried out, the frame and the world. -/
theorem region_inv {id : Nat} {a : Act} {w : World} (hm : P.follows .mixedOrders = true) (he : early ops = true) (I : Array Bool → Act → World → Prop) (h0 : I (Array.replicate ops.size false) a w.drew) (hsz : ∀ l a w, I l a w → l.size = ops.size)
    (step : ∀ i o, ops[i]? = some o → ∀ l a w, I l a w → l.getD i true = false → (o.after.all fun e => !Region.binds .any e || l.getD e.on false) = true → wpOp P ops Q i (I (l.setIfInBounds i true)) a w)
    (done : ∀ l a w, I l a w → (∀ i, i < ops.size → l.getD i true = true) → Q .normal a w) : (Code.region id ops true).wp P Q a w :=
  wp_region_any hm (any_inv he I hsz step done ops.size _ _ _ h0 (by rw [left_new]; exact Nat.le_refl _))

theorem wpOp_plain {i : Nat} {o : Oper} {K : Act → World → Prop} {a : Act} {w : World} (hi : ops[i]? = some o) (hg : o.guard = none) (h : o.wp P a w K Q) : wpOp P ops Q i K a w := by
  unfold wpOp
  rw [hi]
  simp only [Region.wanted, hg, if_true]
  exact .inl h

end
end Go.Proofs.YtfepehjbcmkdjaaDoor

/-
  The rule of XInv for frames that are written out: what a region's operations have left in their slots; boxes that it makes.
-/
set_option linter.unusedSimpArgs false
set_option linter.unusedVariables false
namespace Go.Proofs.YtfepehjbcmkdjaaDoor
open Go.RowKit

/-- A frame with some slots written. -/
def updAll (a : Act) : List (Nat × Value) → Act
  | [] => a
  | (d, v) :: l => (updAll a l).put (some d) v

/-- A box that a region makes (b: it is made; d: it is filled). -/
def BoxF (b d : Bool) (s : Value) (base : Nat) (z c : Array Value) (T : TypeId) (W : World) : Prop :=
  b = true → ∃ r, s = .pointer (some ⟨r, 0, none⟩) ∧ base ≤ r ∧ W.heap[r]? = some (.cells (if d = true then c else z) T (0, 0))
theorem BoxF.step {b d : Bool} {s : Value} {base : Nat} {z c : Array Value} {T : TypeId} {W W2 : World} (h : BoxF b d s base z c T W) (hb : Below W.heap.size W W2) : BoxF b d s base z c T W2 := fun e => by
  obtain ⟨r, h1, h2, h3⟩ := h e
  exact ⟨r, h1, h2, blk_step h3 hb⟩
theorem BoxF.no {d : Bool} {s : Value} {base : Nat} {z c : Array Value} {T : TypeId} {W : World} : BoxF false d s base z c T W := fun e => by cases e
theorem BoxF.new {base : Nat} {z c : Array Value} {T : TypeId} {W : World} (hb : base ≤ W.heap.size) : BoxF true false (.pointer (some ⟨W.heap.size, 0, none⟩)) base z c T (W.alloc (.cells z T)) := fun _ =>
  ⟨_, rfl, hb, by simpa using blk_new W (.cells z T)⟩
theorem BoxF.setFar {b d : Bool} {q : Nat} {s : Value} {base : Nat} {z c : Array Value} {T : TypeId} {W : World} (h : BoxF b d s base z c T W) (hne : b = true → s ≠ .pointer (some ⟨q, 0, none⟩)) (o : Nat) (v : Value) : BoxF b d s base z c T (W.setCell ⟨q, o, none⟩ v) := fun e => by
  obtain ⟨r, h1, h2, h3⟩ := h e
  refine ⟨r, h1, h2, blk_set_other h3 (fun c => ?_)⟩
  exact hne e (by rw [h1]; simp at c; rw [c])
/-- Two boxes of one region are two. -/
def Apart (b b' : Bool) (s s' : Value) : Prop := b = true → b' = true → s ≠ s'
theorem Apart.no {b' : Bool} {s s' : Value} : Apart false b' s s' := fun e => by cases e
theorem Apart.no' {b : Bool} {s s' : Value} : Apart b false s s' := fun _ e => by cases e
theorem Apart.symm {b b' : Bool} {s s' : Value} (h : Apart b b' s s') : Apart b' b s' s := fun e e' c => h e' e c.symm
theorem Apart.new {b' d' : Bool} {s' : Value} {base : Nat} {z c : Array Value} {T : TypeId} {W : World} (h : BoxF b' d' s' base z c T W) : Apart true b' (.pointer (some ⟨W.heap.size, 0, none⟩)) s' := fun _ e c => by
  obtain ⟨r, h1, h2, h3⟩ := h e
  have := blk_lt h3
  rw [h1] at c
  simp at c

section
variable {P : Program} {ops : Array Oper} {Q : Exit → Act → World → Prop}
theorem step_to {i : Nat} {K : Act → World → Prop} {a : Act} {w : World} {a' : Act} {w' : World} (h : ∀ K' : Act → World → Prop, K' a' w' → wpOp P ops Q i K' a w) (hk : K a' w') : wpOp P ops Q i K a w := h K hk
theorem step_ex {i : Nat} {K : Act → World → Prop} {a : Act} {w : World} (C : Act → World → Prop) (h : ∀ K' : Act → World → Prop, (∀ a' w', C a' w' → K' a' w') → wpOp P ops Q i K' a w) (hk : ∀ a' w', C a' w' → K a' w') : wpOp P ops Q i K a w := h K hk
end

end Go.Proofs.YtfepehjbcmkdjaaDoor

/-
  Inside a fence: a region that draws its order, of operations that read, and one call, and one operation behind it: one walk of each operation, from whatever others have been carried out.
-/
set_option linter.unusedSimpArgs false
set_option linter.unusedVariables false
namespace Go.Proofs.YtfepehjbcmkdjaaDoor
open Go.RowKit

section
variable {F : Fence} {n : Nat} {P : Program} {ops : Array Oper} {Q : Exit → Act → World → Prop}

/-- What an operation waits for. -/
def waits (ops : Array Oper) (i : Nat) : List Nat := ((ops[i]?).map fun o => (o.after.toList.filter (Region.binds .any)).map (·.on)).getD []
def ancs (ops : Array Oper) : Nat → Nat → List Nat
  | 0, _ => []
  | f + 1, i => waits ops i ++ (waits ops i).flatMap (ancs ops f)
def Shut (ops : Array Oper) (l : Array Bool) : Prop := ∀ i, l.getD i false = true → ∀ j ∈ waits ops i, l.getD j false = true
theorem Shut.anc {l : Array Bool} (h : Shut ops l) : ∀ f i, l.getD i false = true → ∀ j ∈ ancs ops f i, l.getD j false = true := by
  intro f
  induction f with
  | zero => intro i _ j hj; cases hj
  | succ f ih =>
    intro i hi j hj
    rcases List.mem_append.1 hj with hj | hj
    · exact h i hi j hj
    · obtain ⟨k, hk, hkj⟩ := List.mem_flatMap.1 hj
      exact ih k (h i hi k hk) j hkj
theorem waits_ok {l : Array Bool} {i : Nat} {o : Oper} (ho : ops[i]? = some o) (h : (o.after.all fun e => !Region.binds .any e || l.getD e.on false) = true) : ∀ j ∈ waits ops i, l.getD j false = true := by
  intro j hj
  unfold waits at hj
  rw [ho] at hj
  simp only [Option.map_some, Option.getD_some] at hj
  obtain ⟨e, he, rfl⟩ := List.mem_map.1 hj
  obtain ⟨he1, he2⟩ := List.mem_filter.1 he
  rw [Array.all_eq_true'] at h
  have := h e (by simpa using he1)
  rw [he2] at this
  simpa using this
theorem getD_tf {l : Array Bool} {i : Nat} (h : l.getD i true = false) : l.getD i false = false := by
  rw [Array.getD_eq_getD_getElem?] at h ⊢
  cases hx : l[i]? with
  | none => rw [hx] at h; simp at h
  | some x => rw [hx] at h; simpa using h
theorem getD_ft {l : Array Bool} {i : Nat} (hi : i < l.size) (h : l.getD i false = true) : l.getD i true = true := by
  rw [Array.getD_eq_getD_getElem?] at h ⊢
  rw [Array.getElem?_eq_getElem hi] at h ⊢
  simpa using h
theorem getD_tt {l : Array Bool} {i : Nat} (hi : i < l.size) (h : l.getD i true = true) : l.getD i false = true := by
  rw [Array.getD_eq_getD_getElem?] at h ⊢
  rw [Array.getElem?_eq_getElem hi] at h ⊢
  simpa using h
theorem getD_set1 {l : Array Bool} {i j : Nat} {b : Bool} (hi : i < l.size) : (l.setIfInBounds i true).getD j b = if i = j then true else l.getD j b := by
  rw [Array.getD_eq_getD_getElem?, Array.getD_eq_getD_getElem?, Array.getElem?_setIfInBounds]
  split
  · simp [hi]
  · rfl
theorem Shut.set {l : Array Bool} {i : Nat} (h : Shut ops l) (hi : i < l.size) (hw : ∀ j ∈ waits ops i, l.getD j false = true) : Shut ops (l.setIfInBounds i true) := by
  intro k hk j hj
  rw [getD_set1 hi] at hk ⊢
  split
  · rfl
  · by_cases e : i = k
    · subst e; exact hw j hj
    · rw [if_neg e] at hk
      exact h k hk j hj

theorem any_invIn (he : early ops = true) (I : Array Bool → Act → World → Prop) (hsz : ∀ l a w, I l a w → l.size = ops.size)
    (step : ∀ i o, ops[i]? = some o → ∀ l a w, I l a w → l.getD i true = false → (o.after.all fun e => !Region.binds .any e || l.getD e.on false) = true → wpOpIn F n P ops Q i (I (l.setIfInBounds i true)) a w)
    (done : ∀ l a w, I l a w → (∀ i, i < ops.size → l.getD i true = true) → Q .normal a w) :
    ∀ fuel l a w, I l a w → left l ≤ fuel → wpAnyIn F n P .any ops Q fuel l a w := by
  intro fuel
  induction fuel with
  | zero =>
    intro l a w hI hf
    have hr : Region.ready .any ops l = [] := by
      rw [List.eq_nil_iff_forall_not_mem]
      intro i hi
      obtain ⟨h1, h2, _⟩ := ready_iff hi
      have := left_set (by rw [hsz l a w hI]; exact h1) h2
      omega
    exact ⟨hr, done l a w hI (all_listed (hsz l a w hI) he hr)⟩
  | succ n ih =>
    intro l a w hI hf
    refine ⟨fun hr => done l a w hI (all_listed (hsz l a w hI) he hr), fun i hi => ?_⟩
    obtain ⟨h1, h2, h3⟩ := ready_iff hi
    have ho : ops[i]? = some ops[i] := Array.getElem?_eq_getElem h1
    have hl := left_set (by rw [hsz l a w hI]; exact h1) h2
    exact wpOpIn_mono (fun a' w' h' => ih _ a' w' h' (by omega)) (step i _ ho l a w hI h2 (h3 _ ho))

/-- THE RULE: N operations that read alone; the call; what stands behind it. -/
theorem regionIn_head {id : Nat} {a : Act} {w : World} (N : Nat) (hm : P.follows .mixedOrders = true) (he : early ops = true) (hs0 : ops.size = N + 2)
    (hA : ((List.range N).all fun j => (ancs ops 6 N).contains j) = true) (hB : (waits ops (N + 1)).contains N = true) (I : Array Bool → Act → Prop) (h0 : I (Array.replicate ops.size false) a)
    (step : ∀ i o, i < N → ops[i]? = some o → ∀ l a, I l a → l.size = ops.size → l.getD i true = false → (o.after.all fun e => !Region.binds .any e || l.getD e.on false) = true →
      wpOpIn F n P ops Q i (fun a' w' => w' = w.drew ∧ I (l.setIfInBounds i true) a') a w.drew)
    (tail : ∀ l a, I l a → l.size = ops.size → (∀ j, j < N → l.getD j true = true) → wpOpIn F n P ops Q N (fun a1 w1 => wpOpIn F n P ops Q (N + 1) (fun a2 w2 => Q .normal a2 w2) a1 w1) a w.drew) :
    (Code.region id ops true).wpIn F n P Q a w := by
  have hA' : ∀ j, j < N → j ∈ ancs ops 6 N := fun j hj => by simpa using List.all_eq_true.1 hA j (List.mem_range.2 hj)
  have hB' : N ∈ waits ops (N + 1) := by simpa using hB
  refine wpIn_region_any hm (any_invIn he (fun l a w' => l.size = ops.size ∧ Shut ops l ∧ ((l.getD N true = false ∧ l.getD (N + 1) true = false ∧ w' = w.drew ∧ I l a) ∨
    (l.getD N false = true ∧ l.getD (N + 1) true = false ∧ wpOpIn F n P ops Q (N + 1) (fun a2 w2 => Q .normal a2 w2) a w') ∨ (l.getD N false = true ∧ l.getD (N + 1) false = true ∧ Q .normal a w'))) (fun l a w h => h.1) ?_ ?_ ops.size _ _ _ ?_ (by rw [left_new]; exact Nat.le_refl _))
  · rintro i o ho l a w' ⟨hs, hS, hJ⟩ hl hd
    have hio : i < ops.size := (Array.getElem?_eq_some_iff.1 ho).1
    have hil : i < l.size := by rw [hs]; exact hio
    have hw := waits_ok ho hd
    have hS2 := hS.set hil hw
    have hs2 : (l.setIfInBounds i true).size = ops.size := by simpa using hs
    have hi3 : i < N ∨ i = N ∨ i = N + 1 := by omega
    rcases hi3 with hi | rfl | rfl
    · rcases hJ with ⟨j1, j2, rfl, j3⟩ | ⟨j1, _⟩ | ⟨j1, _⟩
      · refine wpOpIn_mono ?_ (step i o hi ho l a j3 hs hl hd)
        rintro a' w'' ⟨rfl, h⟩
        refine ⟨hs2, hS2, Or.inl ⟨?_, ?_, rfl, h⟩⟩
        · rw [getD_set1 hil, if_neg (by omega)]; exact j1
        · rw [getD_set1 hil, if_neg (by omega)]; exact j2
      · exact absurd (hS.anc 6 N j1 i (hA' i hi)) (by rw [getD_tf hl]; decide)
      · exact absurd (hS.anc 6 N j1 i (hA' i hi)) (by rw [getD_tf hl]; decide)
    · rcases hJ with ⟨j1, j2, rfl, j3⟩ | ⟨j1, _⟩ | ⟨j1, _⟩
      · have hall : ∀ j, j < i → l.getD j true = true := by
          intro j hj
          have := hS2.anc 6 i (by rw [getD_set1 hil, if_pos rfl]) j (hA' j hj)
          rw [getD_set1 hil, if_neg (by omega)] at this
          exact getD_ft (by omega) this
        refine wpOpIn_mono ?_ (tail l a j3 hs hall)
        intro a' w'' h
        refine ⟨hs2, hS2, Or.inr (Or.inl ⟨?_, ?_, h⟩)⟩
        · rw [getD_set1 hil, if_pos rfl]
        · rw [getD_set1 hil, if_neg (by omega)]; exact j2
      · exact absurd j1 (by rw [getD_tf hl]; decide)
      · exact absurd j1 (by rw [getD_tf hl]; decide)
    · have hN := hw N hB'
      rcases hJ with ⟨j1, _⟩ | ⟨j1, j2, j3⟩ | ⟨_, j1, _⟩
      · exact absurd hN (by rw [getD_tf j1]; decide)
      · refine wpOpIn_mono ?_ j3
        intro a' w'' h
        refine ⟨hs2, hS2, Or.inr (Or.inr ⟨?_, ?_, h⟩)⟩
        · rw [getD_set1 hil, if_neg (by omega)]; exact j1
        · rw [getD_set1 hil, if_pos rfl]
      · exact absurd j1 (by rw [getD_tf hl]; decide)
  · rintro l a w' ⟨hs, hS, hJ⟩ hall
    rcases hJ with ⟨j1, _⟩ | ⟨_, j1, _⟩ | ⟨_, _, j⟩
    · rw [hall N (by omega)] at j1; cases j1
    · rw [hall (N + 1) (by omega)] at j1; cases j1
    · exact j
  · refine ⟨by simp, fun i hi => ?_, Or.inl ⟨?_, ?_, rfl, h0⟩⟩
    · rw [Array.getD_eq_getD_getElem?] at hi
      by_cases h : i < ops.size
      · simp [h] at hi
      · simp [h] at hi
    · simp [Array.getD_eq_getD_getElem?, hs0]
    · simp [Array.getD_eq_getD_getElem?, hs0]

theorem wpOpIn_plain {i : Nat} {o : Oper} {K : Act → World → Prop} {a : Act} {w : World} (hi : ops[i]? = some o) (hg : o.guard = none) (h : o.wpIn F n P a w K Q) : wpOpIn F n P ops Q i K a w := by
  unfold wpOpIn
  rw [hi]
  simp only [Region.wanted, hg, if_true]
  exact h
theorem step_in {i : Nat} {K : Act → World → Prop} {a : Act} {w : World} {a' : Act} {w' : World} (h : ∀ K' : Act → World → Prop, K' a' w' → wpOpIn F n P ops Q i K' a w) (hk : K a' w') : wpOpIn F n P ops Q i K a w := h K hk
end

end Go.Proofs.YtfepehjbcmkdjaaDoor
