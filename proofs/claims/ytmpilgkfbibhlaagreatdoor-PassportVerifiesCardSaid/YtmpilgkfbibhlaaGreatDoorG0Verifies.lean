/-
 Contracts of Go's library, laid for this program.
-/
import Derived.Test.YtmpilgkfbibhlaaGreatDoorProg
import Derived.Shelf.Strings.Builder1
import Derived.Shelf.Strings.Builder2
import Derived.Shelf.Strings.OnBuilder
import Derived.Shelf.Strconv.Atoi
import Derived.Shelf.Strconv.Itoa0
import Derived.Shelf.Strconv.Itoa1
import Derived.Shelf.LaysM
import Derived.Shelf.Strconv.Itoa2
import Derived.Shelf.Strconv.Itoa3
import Derived.Shelf.Strconv.Itoa4
import Derived.Shelf.Bytes.Len
import Derived.Shelf.Bytes.TryGrow
import Derived.Shelf.Bytes.GrowSliceCatch
import Derived.Shelf.Bytes.GrowSlice
import Derived.Shelf.Bytes.GrowRow0
import Derived.Shelf.Bytes.GrowRow
import Derived.Shelf.Bytes.GrowNil
import Derived.Shelf.Bytes.Grow
import Derived.Shelf.Bytes.WriteByte
import Derived.Shelf.Bytes.WriteString
import Derived.Shelf.Bytes.Bytes
import Derived.Shelf.Strconv.AtoiErrFast
import Derived.Shelf.Strconv.ParseIntEmpty
import Derived.Shelf.Strconv.AtoiFail
import Derived.Shelf.Strconv.Clone
import Derived.Shelf.Strconv.SyntaxError
import Derived.Shelf.LaysC
import Derived.Shelf.Strconv.ToError
import Derived.Shelf.Strconv.Lower
import Derived.Shelf.Strconv.ParseUint10
import Derived.Shelf.Strconv.ParseUint10Empty
import Derived.Shelf.Strconv.ParseUint10Any
import Derived.Shelf.Strconv.ParseInt10
import Derived.Shelf.Strconv.AtoiLong
import Derived.Shelf.Strconv.AtoiInnerAll
import Derived.Shelf.Strconv.RangeError
import Derived.Shelf.Strconv.ToErrorRange
import Derived.Shelf.Strconv.AtoiAll
import Derived.Shelf.Strconv.ErrVarAll
import Derived.Shelf.Strings.Search1
import Derived.Shelf.Strings.Search2
import Derived.Shelf.Strings.Cut
import Derived.Shelf.Strings.Shaped
import Derived.Shelf.Slices.Turned
import Derived.Ground.SlgnProg
import Derived.Shelf.SlicesE.Clone
import Derived.Ground.SlgfProg
import Derived.Shelf.SlicesE.IndexFunc
import Derived.Shelf.SlicesE.DeleteFunc
import Derived.WalkKit
import Derived.WalkSpells
import Derived.WalkLawsBesides
import Derived.Deep.QuietTactic
import Derived.BigQuiet
import Derived.Lib.Hide
import Derived.Deep.RegionHeld3
import Derived.OrdersIn
set_option linter.unusedSimpArgs false
set_option linter.unusedVariables false
namespace Go.Proofs.YtmpilgkfbibhlaaGreatDoor
open Go.Shelf
def laysM171_ren : Go.Shelf.Ren := ⟨fun | 171 => 106 | 243 => 139 | 246 => 127 | 283 => 150 | 284 => 151 | 285 => 152 | 286 => 153 | 129 => 166 | 317 => 165 | 318 => 167 | 319 => 168 | 320 => 169 | 337 => 182 | 338 => 183 | n => n, fun | 3 => 3 | 9 => 9 | 2 => 2 | 4 => 4 | 171 => 220 | 0 => 0 | 53 => 22 | 37 => 88 | 5 => 5 | 173 => 223 | 212 => 238 | 51 => 239 | 20 => 20 | 213 => 240 | 46 => 167 | 232 => 260 | 233 => 261 | n => n, fun | 17 => 0 | 18 => 5 | 19 => 6 | n => n⟩
theorem laysM171 : Go.Proofs.LaysM.n171 Tryz.prog laysM171_ren := {
 mixed := by kernel_rfl
 f129 := Tryz.func166.trans (congrArg some (by kernel_rfl))
 f171 := Tryz.func106.trans (congrArg some (by kernel_rfl))
 f243 := Tryz.func139.trans (congrArg some (by kernel_rfl))
 f246 := Tryz.func127.trans (congrArg some (by kernel_rfl))
 f283 := Tryz.func150.trans (congrArg some (by kernel_rfl))
 f284 := Tryz.func151.trans (congrArg some (by kernel_rfl))
 f285 := Tryz.func152.trans (congrArg some (by kernel_rfl))
 f286 := Tryz.func153.trans (congrArg some (by kernel_rfl))
 f317 := Tryz.func165.trans (congrArg some (by kernel_rfl))
 f318 := Tryz.func167.trans (congrArg some (by kernel_rfl))
 f319 := Tryz.func168.trans (congrArg some (by kernel_rfl))
 f320 := Tryz.func169.trans (congrArg some (by kernel_rfl))
 f337 := Tryz.func182.trans (congrArg some (by kernel_rfl))
 f338 := Tryz.func183.trans (congrArg some (by kernel_rfl))
 t0 := Tryz.underlying0
 a0 := Tryz.isAgg0
 z0 := Tryz.sizeOf0
 v0 := Tryz.zeroValue0
 t2 := Tryz.underlying2
 a2 := Tryz.isAgg2
 z2 := Tryz.sizeOf2
 v2 := Tryz.zeroValue2
 t3 := Tryz.underlying3
 a3 := Tryz.isAgg3
 z3 := Tryz.sizeOf3
 v3 := Tryz.zeroValue3
 t4 := Tryz.underlying4
 a4 := Tryz.isAgg4
 z4 := Tryz.sizeOf4
 v4 := Tryz.zeroValue4
 t5 := Tryz.underlying5
 a5 := Tryz.isAgg5
 z5 := Tryz.sizeOf5
 v5 := Tryz.zeroValue5
 t9 := Tryz.underlying9
 a9 := Tryz.isAgg9
 z9 := Tryz.sizeOf9
 v9 := Tryz.zeroValue9
 t20 := Tryz.underlying20
 a20 := Tryz.isAgg20
 z20 := Tryz.sizeOf20
 v20 := Tryz.zeroValue20
 t37 := Tryz.underlying88
 a37 := Tryz.isAgg88
 z37 := Tryz.sizeOf88
 v37 := Tryz.zeroValue88
 t46 := Tryz.underlying167
 a46 := Tryz.isAgg167
 z46 := Tryz.sizeOf167
 v46 := Tryz.zeroValue167
 t51 := Tryz.underlying239
 a51 := Tryz.isAgg239
 z51 := Tryz.sizeOf239
 v51 := Tryz.zeroValue239
 t53 := Tryz.underlying22
 a53 := Tryz.isAgg22
 z53 := Tryz.sizeOf22
 v53 := Tryz.zeroValue22
 t171 := Tryz.underlying220
 a171 := Tryz.isAgg220
 z171 := Tryz.sizeOf220
 v171 := Tryz.zeroValue220
 t173 := Tryz.underlying223
 a173 := Tryz.isAgg223
 z173 := Tryz.sizeOf223
 v173 := Tryz.zeroValue223
 t212 := Tryz.underlying238
 a212 := Tryz.isAgg238
 z212 := Tryz.sizeOf238
 v212 := Tryz.zeroValue238
 t213 := Tryz.underlying240
 a213 := Tryz.isAgg240
 z213 := Tryz.sizeOf240
 t232 := Tryz.underlying260
 a232 := Tryz.isAgg260
 z232 := Tryz.sizeOf260
 v232 := Tryz.zeroValue260
 t233 := Tryz.underlying261
 a233 := Tryz.isAgg261
 z233 := Tryz.sizeOf261
 v233 := Tryz.zeroValue261
 g17 := by kernel_rfl
 g18 := by kernel_rfl
 g19 := by kernel_rfl
 i0 := by kernel_rfl
 i2 := by kernel_rfl
 i3 := by kernel_rfl
 i4 := by kernel_rfl
 i5 := by kernel_rfl
 i9 := by kernel_rfl
 i20 := by kernel_rfl
 i37 := by kernel_rfl
 i46 := by kernel_rfl
 i51 := by kernel_rfl
 i53 := by kernel_rfl
 i171 := by kernel_rfl
 i173 := by kernel_rfl
 i212 := by kernel_rfl
 i232 := by kernel_rfl
 i233 := by kernel_rfl
 m17 := by kernel_rfl
 m18 := by kernel_rfl
 m19 := by kernel_rfl }
def laysM179_ren : Go.Shelf.Ren := ⟨fun | 179 => 136 | 251 => 156 | 252 => 157 | 181 => 172 | 184 => 173 | 290 => 174 | 324 => 184 | n => n, fun | 130 => 226 | 5 => 5 | 75 => 185 | 0 => 0 | 93 => 210 | 91 => 208 | 3 => 3 | 131 => 227 | 4 => 4 | 37 => 88 | 20 => 20 | 80 => 202 | 9 => 9 | n => n, fun | 14 => 1 | n => n⟩
theorem laysM179 : Go.Proofs.LaysM.n179 Tryz.prog laysM179_ren := {
 mixed := by kernel_rfl
 f179 := Tryz.func136.trans (congrArg some (by kernel_rfl))
 f181 := Tryz.func172.trans (congrArg some (by kernel_rfl))
 f184 := Tryz.func173.trans (congrArg some (by kernel_rfl))
 f251 := Tryz.func156.trans (congrArg some (by kernel_rfl))
 f252 := Tryz.func157.trans (congrArg some (by kernel_rfl))
 f290 := Tryz.func174.trans (congrArg some (by kernel_rfl))
 f324 := Tryz.func184.trans (congrArg some (by kernel_rfl))
 t0 := Tryz.underlying0
 a0 := Tryz.isAgg0
 z0 := Tryz.sizeOf0
 v0 := Tryz.zeroValue0
 t3 := Tryz.underlying3
 a3 := Tryz.isAgg3
 z3 := Tryz.sizeOf3
 v3 := Tryz.zeroValue3
 t4 := Tryz.underlying4
 a4 := Tryz.isAgg4
 z4 := Tryz.sizeOf4
 v4 := Tryz.zeroValue4
 t5 := Tryz.underlying5
 a5 := Tryz.isAgg5
 z5 := Tryz.sizeOf5
 v5 := Tryz.zeroValue5
 t20 := Tryz.underlying20
 a20 := Tryz.isAgg20
 z20 := Tryz.sizeOf20
 v20 := Tryz.zeroValue20
 t37 := Tryz.underlying88
 a37 := Tryz.isAgg88
 z37 := Tryz.sizeOf88
 v37 := Tryz.zeroValue88
 t75 := Tryz.underlying185
 a75 := Tryz.isAgg185
 z75 := Tryz.sizeOf185
 v75 := Tryz.zeroValue185
 t91 := Tryz.underlying208
 a91 := Tryz.isAgg208
 z91 := Tryz.sizeOf208
 v91 := Tryz.zeroValue208
 t93 := Tryz.underlying210
 a93 := Tryz.isAgg210
 z93 := Tryz.sizeOf210
 v93 := Tryz.zeroValue210
 t130 := Tryz.underlying226
 a130 := Tryz.isAgg226
 z130 := Tryz.sizeOf226
 v130 := Tryz.zeroValue226
 t131 := Tryz.underlying227
 a131 := Tryz.isAgg227
 z131 := Tryz.sizeOf227
 v131 := Tryz.zeroValue227
 g14 := by kernel_rfl
 t9 := Tryz.underlying9
 a9 := Tryz.isAgg9
 z9 := Tryz.sizeOf9
 v9 := Tryz.zeroValue9
 t80 := Tryz.underlying202
 a80 := Tryz.isAgg202
 z80 := Tryz.sizeOf202
 v80 := Tryz.zeroValue202
 i0 := by kernel_rfl
 i3 := by kernel_rfl
 i4 := by kernel_rfl
 i5 := by kernel_rfl
 i9 := by kernel_rfl
 i20 := by kernel_rfl
 i37 := by kernel_rfl
 i75 := by kernel_rfl
 i80 := by kernel_rfl
 i91 := by kernel_rfl
 i93 := by kernel_rfl
 i130 := by kernel_rfl
 i131 := by kernel_rfl
 m14 := by kernel_rfl }
def laysM178_ren : Go.Shelf.Ren := ⟨fun | 178 => 137 | 251 => 156 | 252 => 157 | 181 => 172 | 184 => 173 | 290 => 174 | 324 => 184 | n => n, fun | 130 => 226 | 9 => 9 | 3 => 3 | 75 => 185 | 0 => 0 | 93 => 210 | 91 => 208 | 131 => 227 | 4 => 4 | 37 => 88 | 20 => 20 | 80 => 202 | 5 => 5 | n => n, fun | 14 => 1 | n => n⟩
theorem laysM178 : Go.Proofs.LaysM.n178 Tryz.prog laysM178_ren := {
 mixed := by kernel_rfl
 f178 := Tryz.func137.trans (congrArg some (by kernel_rfl))
 f181 := Tryz.func172.trans (congrArg some (by kernel_rfl))
 f184 := Tryz.func173.trans (congrArg some (by kernel_rfl))
 f251 := Tryz.func156.trans (congrArg some (by kernel_rfl))
 f252 := Tryz.func157.trans (congrArg some (by kernel_rfl))
 f290 := Tryz.func174.trans (congrArg some (by kernel_rfl))
 f324 := Tryz.func184.trans (congrArg some (by kernel_rfl))
 t0 := Tryz.underlying0
 a0 := Tryz.isAgg0
 z0 := Tryz.sizeOf0
 v0 := Tryz.zeroValue0
 t3 := Tryz.underlying3
 a3 := Tryz.isAgg3
 z3 := Tryz.sizeOf3
 v3 := Tryz.zeroValue3
 t4 := Tryz.underlying4
 a4 := Tryz.isAgg4
 z4 := Tryz.sizeOf4
 v4 := Tryz.zeroValue4
 t9 := Tryz.underlying9
 a9 := Tryz.isAgg9
 z9 := Tryz.sizeOf9
 v9 := Tryz.zeroValue9
 t20 := Tryz.underlying20
 a20 := Tryz.isAgg20
 z20 := Tryz.sizeOf20
 v20 := Tryz.zeroValue20
 t37 := Tryz.underlying88
 a37 := Tryz.isAgg88
 z37 := Tryz.sizeOf88
 v37 := Tryz.zeroValue88
 t75 := Tryz.underlying185
 a75 := Tryz.isAgg185
 z75 := Tryz.sizeOf185
 v75 := Tryz.zeroValue185
 t91 := Tryz.underlying208
 a91 := Tryz.isAgg208
 z91 := Tryz.sizeOf208
 v91 := Tryz.zeroValue208
 t93 := Tryz.underlying210
 a93 := Tryz.isAgg210
 z93 := Tryz.sizeOf210
 v93 := Tryz.zeroValue210
 t130 := Tryz.underlying226
 a130 := Tryz.isAgg226
 z130 := Tryz.sizeOf226
 v130 := Tryz.zeroValue226
 t131 := Tryz.underlying227
 a131 := Tryz.isAgg227
 z131 := Tryz.sizeOf227
 v131 := Tryz.zeroValue227
 g14 := by kernel_rfl
 t5 := Tryz.underlying5
 a5 := Tryz.isAgg5
 z5 := Tryz.sizeOf5
 v5 := Tryz.zeroValue5
 t80 := Tryz.underlying202
 a80 := Tryz.isAgg202
 z80 := Tryz.sizeOf202
 v80 := Tryz.zeroValue202
 i0 := by kernel_rfl
 i3 := by kernel_rfl
 i4 := by kernel_rfl
 i5 := by kernel_rfl
 i9 := by kernel_rfl
 i20 := by kernel_rfl
 i37 := by kernel_rfl
 i75 := by kernel_rfl
 i80 := by kernel_rfl
 i91 := by kernel_rfl
 i93 := by kernel_rfl
 i130 := by kernel_rfl
 i131 := by kernel_rfl
 m14 := by kernel_rfl }
def laysM183_ren : Go.Shelf.Ren := ⟨fun | 183 => 138 | n => n, fun | 130 => 226 | 37 => 88 | 0 => 0 | 93 => 210 | 3 => 3 | 5 => 5 | 91 => 208 | n => n, fun | n => n⟩
theorem laysM183 : Go.Proofs.LaysM.n183 Tryz.prog laysM183_ren := {
 mixed := by kernel_rfl
 f183 := Tryz.func138.trans (congrArg some (by kernel_rfl))
 t0 := Tryz.underlying0
 a0 := Tryz.isAgg0
 z0 := Tryz.sizeOf0
 v0 := Tryz.zeroValue0
 t3 := Tryz.underlying3
 a3 := Tryz.isAgg3
 z3 := Tryz.sizeOf3
 v3 := Tryz.zeroValue3
 t37 := Tryz.underlying88
 a37 := Tryz.isAgg88
 z37 := Tryz.sizeOf88
 v37 := Tryz.zeroValue88
 t93 := Tryz.underlying210
 a93 := Tryz.isAgg210
 z93 := Tryz.sizeOf210
 v93 := Tryz.zeroValue210
 t130 := Tryz.underlying226
 a130 := Tryz.isAgg226
 z130 := Tryz.sizeOf226
 v130 := Tryz.zeroValue226
 t5 := Tryz.underlying5
 a5 := Tryz.isAgg5
 z5 := Tryz.sizeOf5
 v5 := Tryz.zeroValue5
 t91 := Tryz.underlying208
 a91 := Tryz.isAgg208
 z91 := Tryz.sizeOf208
 v91 := Tryz.zeroValue208
 i0 := by kernel_rfl
 i3 := by kernel_rfl
 i5 := by kernel_rfl
 i37 := by kernel_rfl
 i91 := by kernel_rfl
 i93 := by kernel_rfl
 i130 := by kernel_rfl }
def laysC172_ren : Go.Shelf.Ren := ⟨fun | 172 => 120 | 244 => 146 | 245 => 147 | 247 => 159 | 279 => 160 | 280 => 161 | 281 => 162 | 282 => 163 | 287 => 179 | 316 => 180 | 171 => 106 | 205 => 181 | 321 => 187 | 322 => 188 | 243 => 139 | 246 => 127 | 283 => 150 | 284 => 151 | 285 => 152 | 286 => 153 | 129 => 166 | 317 => 165 | 318 => 167 | 319 => 168 | 320 => 169 | 337 => 182 | 338 => 183 | n => n, fun | 9 => 9 | 3 => 3 | 75 => 185 | 76 => 186 | 4 => 4 | 5 => 5 | 167 => 230 | 37 => 88 | 0 => 0 | 85 => 231 | 2 => 2 | 168 => 233 | 53 => 22 | 175 => 247 | 46 => 167 | 210 => 251 | 127 => 225 | 145 => 259 | 143 => 257 | 21 => 21 | 171 => 220 | 173 => 223 | 212 => 238 | 51 => 239 | 20 => 20 | 213 => 240 | 232 => 260 | 233 => 261 | 80 => 202 | n => n, fun | 15 => 3 | 16 => 4 | 17 => 0 | 18 => 5 | 19 => 6 | n => n⟩
theorem laysC172 : Go.Proofs.LaysC.n172 Tryz.prog laysC172_ren := {
 mixed := by kernel_rfl
 f129 := Tryz.func166.trans (congrArg some (by kernel_rfl))
 f171 := Tryz.func106.trans (congrArg some (by kernel_rfl))
 f172 := Tryz.func120.trans (congrArg some (by kernel_rfl))
 f205 := Tryz.func181.trans (congrArg some (by kernel_rfl))
 f243 := Tryz.func139.trans (congrArg some (by kernel_rfl))
 f244 := Tryz.func146.trans (congrArg some (by kernel_rfl))
 f245 := Tryz.func147.trans (congrArg some (by kernel_rfl))
 f246 := Tryz.func127.trans (congrArg some (by kernel_rfl))
 f247 := Tryz.func159.trans (congrArg some (by kernel_rfl))
 f279 := Tryz.func160.trans (congrArg some (by kernel_rfl))
 f280 := Tryz.func161.trans (congrArg some (by kernel_rfl))
 f281 := Tryz.func162.trans (congrArg some (by kernel_rfl))
 f282 := Tryz.func163.trans (congrArg some (by kernel_rfl))
 f283 := Tryz.func150.trans (congrArg some (by kernel_rfl))
 f284 := Tryz.func151.trans (congrArg some (by kernel_rfl))
 f285 := Tryz.func152.trans (congrArg some (by kernel_rfl))
 f286 := Tryz.func153.trans (congrArg some (by kernel_rfl))
 f287 := Tryz.func179.trans (congrArg some (by kernel_rfl))
 f316 := Tryz.func180.trans (congrArg some (by kernel_rfl))
 f317 := Tryz.func165.trans (congrArg some (by kernel_rfl))
 f318 := Tryz.func167.trans (congrArg some (by kernel_rfl))
 f319 := Tryz.func168.trans (congrArg some (by kernel_rfl))
 f320 := Tryz.func169.trans (congrArg some (by kernel_rfl))
 f321 := Tryz.func187.trans (congrArg some (by kernel_rfl))
 f322 := Tryz.func188.trans (congrArg some (by kernel_rfl))
 f337 := Tryz.func182.trans (congrArg some (by kernel_rfl))
 f338 := Tryz.func183.trans (congrArg some (by kernel_rfl))
 t0 := Tryz.underlying0
 a0 := Tryz.isAgg0
 z0 := Tryz.sizeOf0
 v0 := Tryz.zeroValue0
 t2 := Tryz.underlying2
 a2 := Tryz.isAgg2
 z2 := Tryz.sizeOf2
 v2 := Tryz.zeroValue2
 t3 := Tryz.underlying3
 a3 := Tryz.isAgg3
 z3 := Tryz.sizeOf3
 v3 := Tryz.zeroValue3
 t4 := Tryz.underlying4
 a4 := Tryz.isAgg4
 z4 := Tryz.sizeOf4
 v4 := Tryz.zeroValue4
 t5 := Tryz.underlying5
 a5 := Tryz.isAgg5
 z5 := Tryz.sizeOf5
 v5 := Tryz.zeroValue5
 t9 := Tryz.underlying9
 a9 := Tryz.isAgg9
 z9 := Tryz.sizeOf9
 v9 := Tryz.zeroValue9
 t20 := Tryz.underlying20
 a20 := Tryz.isAgg20
 z20 := Tryz.sizeOf20
 v20 := Tryz.zeroValue20
 t21 := Tryz.underlying21
 a21 := Tryz.isAgg21
 z21 := Tryz.sizeOf21
 v21 := Tryz.zeroValue21
 t37 := Tryz.underlying88
 a37 := Tryz.isAgg88
 z37 := Tryz.sizeOf88
 v37 := Tryz.zeroValue88
 t46 := Tryz.underlying167
 a46 := Tryz.isAgg167
 z46 := Tryz.sizeOf167
 v46 := Tryz.zeroValue167
 t51 := Tryz.underlying239
 a51 := Tryz.isAgg239
 z51 := Tryz.sizeOf239
 v51 := Tryz.zeroValue239
 t53 := Tryz.underlying22
 a53 := Tryz.isAgg22
 z53 := Tryz.sizeOf22
 v53 := Tryz.zeroValue22
 t75 := Tryz.underlying185
 a75 := Tryz.isAgg185
 z75 := Tryz.sizeOf185
 v75 := Tryz.zeroValue185
 t76 := Tryz.underlying186
 a76 := Tryz.isAgg186
 z76 := Tryz.sizeOf186
 v76 := Tryz.zeroValue186
 t85 := Tryz.underlying231
 a85 := Tryz.isAgg231
 z85 := Tryz.sizeOf231
 v85 := Tryz.zeroValue231
 t127 := Tryz.underlying225
 a127 := Tryz.isAgg225
 z127 := Tryz.sizeOf225
 v127 := Tryz.zeroValue225
 t143 := Tryz.underlying257
 a143 := Tryz.isAgg257
 z143 := Tryz.sizeOf257
 v143 := Tryz.zeroValue257
 t145 := Tryz.underlying259
 a145 := Tryz.isAgg259
 z145 := Tryz.sizeOf259
 v145 := Tryz.zeroValue259
 t167 := Tryz.underlying230
 a167 := Tryz.isAgg230
 z167 := Tryz.sizeOf230
 v167 := Tryz.zeroValue230
 t168 := Tryz.underlying233
 a168 := Tryz.isAgg233
 z168 := Tryz.sizeOf233
 v168 := Tryz.zeroValue233
 t171 := Tryz.underlying220
 a171 := Tryz.isAgg220
 z171 := Tryz.sizeOf220
 v171 := Tryz.zeroValue220
 t173 := Tryz.underlying223
 a173 := Tryz.isAgg223
 z173 := Tryz.sizeOf223
 v173 := Tryz.zeroValue223
 t175 := Tryz.underlying247
 a175 := Tryz.isAgg247
 z175 := Tryz.sizeOf247
 v175 := Tryz.zeroValue247
 t210 := Tryz.underlying251
 a210 := Tryz.isAgg251
 z210 := Tryz.sizeOf251
 v210 := Tryz.zeroValue251
 t212 := Tryz.underlying238
 a212 := Tryz.isAgg238
 z212 := Tryz.sizeOf238
 v212 := Tryz.zeroValue238
 t213 := Tryz.underlying240
 a213 := Tryz.isAgg240
 z213 := Tryz.sizeOf240
 t232 := Tryz.underlying260
 a232 := Tryz.isAgg260
 z232 := Tryz.sizeOf260
 v232 := Tryz.zeroValue260
 t233 := Tryz.underlying261
 a233 := Tryz.isAgg261
 z233 := Tryz.sizeOf261
 v233 := Tryz.zeroValue261
 g15 := by kernel_rfl
 g16 := by kernel_rfl
 g17 := by kernel_rfl
 g18 := by kernel_rfl
 g19 := by kernel_rfl
 t80 := Tryz.underlying202
 a80 := Tryz.isAgg202
 z80 := Tryz.sizeOf202
 v80 := Tryz.zeroValue202
 i0 := by kernel_rfl
 i2 := by kernel_rfl
 i3 := by kernel_rfl
 i4 := by kernel_rfl
 i5 := by kernel_rfl
 i9 := by kernel_rfl
 i20 := by kernel_rfl
 i21 := by kernel_rfl
 i37 := by kernel_rfl
 i46 := by kernel_rfl
 i51 := by kernel_rfl
 i53 := by kernel_rfl
 i75 := by kernel_rfl
 i76 := by kernel_rfl
 i80 := by kernel_rfl
 i85 := by kernel_rfl
 i127 := by kernel_rfl
 i143 := by kernel_rfl
 i145 := by kernel_rfl
 i167 := by kernel_rfl
 i168 := by kernel_rfl
 i171 := by kernel_rfl
 i173 := by kernel_rfl
 i175 := by kernel_rfl
 i210 := by kernel_rfl
 i212 := by kernel_rfl
 i232 := by kernel_rfl
 i233 := by kernel_rfl
 m15 := by kernel_rfl
 m16 := by kernel_rfl
 m17 := by kernel_rfl
 m18 := by kernel_rfl
 m19 := by kernel_rfl
 c0 := by kernel_rfl
 c2 := by kernel_rfl
 c3 := by kernel_rfl
 c4 := by kernel_rfl
 c5 := by kernel_rfl
 c9 := by kernel_rfl
 c20 := by kernel_rfl
 c21 := by kernel_rfl
 c37 := by kernel_rfl
 c46 := by kernel_rfl
 c51 := by kernel_rfl
 c53 := by kernel_rfl
 c75 := by kernel_rfl
 c76 := by kernel_rfl
 c80 := by kernel_rfl
 c85 := by kernel_rfl
 c127 := by kernel_rfl
 c143 := by kernel_rfl
 c145 := by kernel_rfl
 c167 := by kernel_rfl
 c168 := by kernel_rfl
 c171 := by kernel_rfl
 c173 := by kernel_rfl
 c175 := by kernel_rfl
 c210 := by kernel_rfl
 c212 := by kernel_rfl
 c213 := by kernel_rfl
 c232 := by kernel_rfl
 c233 := by kernel_rfl }
def lays219_ren : Go.Shelf.Ren := ⟨fun | 219 => 158 | 217 => 175 | 225 => 176 | 224 => 177 | 267 => 178 | 266 => 185 | 314 => 186 | n => n, fun | 9 => 9 | 3 => 3 | 4 => 4 | 5 => 5 | 46 => 167 | 146 => 254 | 51 => 239 | n => n, fun | 1 => 2 | n => n⟩
theorem lays219 : Go.Proofs.Lays.n219 Tryz.prog lays219_ren := {
 mixed := by kernel_rfl
 f217 := Tryz.func175.trans (congrArg some (by kernel_rfl))
 f219 := Tryz.func158.trans (congrArg some (by kernel_rfl))
 f224 := Tryz.func177.trans (congrArg some (by kernel_rfl))
 f225 := Tryz.func176.trans (congrArg some (by kernel_rfl))
 f266 := Tryz.func185.trans (congrArg some (by kernel_rfl))
 f267 := Tryz.func178.trans (congrArg some (by kernel_rfl))
 f314 := Tryz.func186.trans (congrArg some (by kernel_rfl))
 t3 := Tryz.underlying3
 a3 := Tryz.isAgg3
 z3 := Tryz.sizeOf3
 v3 := Tryz.zeroValue3
 t4 := Tryz.underlying4
 a4 := Tryz.isAgg4
 z4 := Tryz.sizeOf4
 v4 := Tryz.zeroValue4
 t5 := Tryz.underlying5
 a5 := Tryz.isAgg5
 z5 := Tryz.sizeOf5
 v5 := Tryz.zeroValue5
 t9 := Tryz.underlying9
 a9 := Tryz.isAgg9
 z9 := Tryz.sizeOf9
 v9 := Tryz.zeroValue9
 t46 := Tryz.underlying167
 a46 := Tryz.isAgg167
 z46 := Tryz.sizeOf167
 v46 := Tryz.zeroValue167
 t51 := Tryz.underlying239
 a51 := Tryz.isAgg239
 z51 := Tryz.sizeOf239
 v51 := Tryz.zeroValue239
 t146 := Tryz.underlying254
 a146 := Tryz.isAgg254
 z146 := Tryz.sizeOf254
 v146 := Tryz.zeroValue254
 g1 := by kernel_rfl }
end Go.Proofs.YtmpilgkfbibhlaaGreatDoor
namespace Go.Proofs.YtmpilgkfbibhlaaGreatDoor
open Go.RowKit
/-! Contracts that leave the world alone, in a region that draws its order (behind a draw, or behind two). -/
/-! What a call leaves of memory. -/
theorem bAlloc {w b : World} (h : Below w.heap.size w b) (o : Obj) : Below w.heap.size w (b.alloc o) := h.alloc h.size o
theorem bStep {w b c : World} (h : Below w.heap.size w b) (k : Below b.heap.size b c) : Below w.heap.size w c := h.trans (k.mono h.size)
theorem bSet {w b : World} (h : Below w.heap.size w b) {p : Addr} (hp : w.heap.size ≤ p.block) (v : Value) : Below w.heap.size w (b.setCell p v) := h.setCell hp v
theorem bDrew {B : Nat} {w b : World} (h : Below B w b) : Below B w b.drew := h.drew
theorem bDrewN {B : Nat} {w b : World} {n : Nat} (h : Below B w b) : Below B w (b.drewN n) := ⟨h.os, h.tape, h.output, h.size, h.block⟩
/-! A block that is known whole: behind a store, a new block, a draw. -/
theorem blk_set {w : World} {b o : Nat} {v : Value} {cs : Array Value} {t : TypeId} {fr : Nat × Nat} (h : w.heap[b]? = some (.cells cs t fr)) :
  (w.setCell ⟨b, o, none⟩ v).heap[b]? = some (.cells (cs.setIfInBounds o v) t fr) := by
 simp [World.setCell, Array.getElem?_modify, h]
theorem blk_set_other {w : World} {b : Nat} {p : Addr} {v : Value} {x : Obj} (h : w.heap[b]? = some x) (hne : b ≠ p.block) : (w.setCell p v).heap[b]? = some x :=
 (Below.heap_setCell w p v b hne).trans h
theorem blk_lt {w : World} {b : Nat} {x : Obj} (h : w.heap[b]? = some x) : b < w.heap.size := by
 rcases Nat.lt_or_ge b w.heap.size with h1 | h1
 ·exact h1
 ·rw [Array.getElem?_eq_none h1] at h; cases h
theorem blk_new (w : World) (o : Obj) : (w.alloc o).heap[w.heap.size]? = some o := by
 show (w.heap.push o)[w.heap.size]? = _
 simp
theorem blk_below {B : Nat} {w w1 : World} {b : Nat} {x : Obj} (h : w.heap[b]? = some x) (hb : Below B w w1) (hB : b < B) : w1.heap[b]? = some x := (hb.block b hB).trans h
theorem blk_step {w w1 : World} {b : Nat} {x : Obj} (h : w.heap[b]? = some x) (hb : Below w.heap.size w w1) : w1.heap[b]? = some x := blk_below h hb (blk_lt h)
theorem blk_cell {w : World} {b o : Nat} {cs : Array Value} {t : TypeId} {fr : Nat × Nat} {v : Value} (h : w.heap[b]? = some (.cells cs t fr)) (hv : cs[o]? = some v) : w.cell? ⟨b, o, none⟩ = some v := by
 simp [World.cell?, h, hv]
theorem blk_free {w : World} {b o : Nat} {cs : Array Value} {t : TypeId} (h : w.heap[b]? = some (.cells cs t (0, 0))) : w.frozen? ⟨b, o, none⟩ = false := by
 simp [World.frozen?, h]
/-! Facts on cells that a region keeps: behind a call, a new block, a draw. -/
theorem cell_lt {W : World} {p : Addr} {v : Value} (h : W.cell? p = some v) : p.block < W.heap.size := by
 rcases Nat.lt_or_ge p.block W.heap.size with h1 | h1
 ·exact h1
 ·simp [World.cell?, Array.getElem?_eq_none h1] at h
theorem cell_step {W w2 : World} {p : Addr} {v : Value} (h : W.cell? p = some v) (hb : Below W.heap.size W w2) : w2.cell? p = some v := (hb.cell (cell_lt h)).trans h
theorem free_step {W w2 : World} {p : Addr} {v : Value} (h : W.cell? p = some v) (hf : W.frozen? p = false) (hb : Below W.heap.size W w2) : w2.frozen? p = false := (hb.frozen (cell_lt h)).trans hf
def ResBox (r : Nat) (W : World) : Prop := (∃ x0 x1, W.cell? ⟨r, 0, none⟩ = some x0 ∧ W.cell? ⟨r, 1, none⟩ = some x1) ∧ W.frozen? ⟨r, 0, none⟩ = false ∧ W.frozen? ⟨r, 1, none⟩ = false
theorem ResBox.step {W w2 : World} {r : Nat} (h : ResBox r W) (hb : Below W.heap.size W w2) : ResBox r w2 := by
 obtain ⟨⟨x0, x1, h1, h2⟩, h3, h4⟩ := h
 exact ⟨⟨x0, x1, cell_step h1 hb, cell_step h2 hb⟩, free_step h1 h3 hb, free_step h2 h4 hb⟩
theorem ResBox.set {W : World} {r : Nat} (h : ResBox r W) (v0 v1 : Value) : ResBox r ((W.setCell ⟨r, 0, none⟩ v0).setCell ⟨r, 1, none⟩ v1) := by
 obtain ⟨⟨x0, x1, h1, h2⟩, h3, h4⟩ := h
 refine ⟨⟨v0, v1, ?_, ?_⟩, ?_, ?_⟩ <;> go_simp
def Box1 (w : World) (b r : Nat) (v0 v1 : Value) (W : World) : Prop :=
 W.cell? ⟨b, 0, none⟩ = some v0 ∧ W.cell? ⟨b, 1, none⟩ = some v1 ∧ ResBox r W ∧ Below w.heap.size w W
theorem Box1.step {w W w2 : World} {b r : Nat} {v0 v1 : Value} (h : Box1 w b r v0 v1 W) (hb : Below W.heap.size W w2) : Box1 w b r v0 v1 w2 := by
 obtain ⟨h1, h2, h3, h7⟩ := h
 exact ⟨cell_step h1 hb, cell_step h2 hb, h3.step hb, bStep h7 hb⟩
theorem Box1.alloc {w W : World} {b r : Nat} {v0 v1 : Value} (h : Box1 w b r v0 v1 W) (o : Obj) : Box1 w b r v0 v1 (W.alloc o) := h.step ((Below.refl _ _).alloc (Nat.le_refl _) o)
theorem Box1.drew {w W : World} {b r : Nat} {v0 v1 : Value} (h : Box1 w b r v0 v1 W) : Box1 w b r v0 v1 W.drew := h.step (Below.refl _ _).drew
theorem cell_set_far {W : World} {b r o o' : Nat} {v x : Value} (h : W.cell? ⟨b, o, none⟩ = some x) (hne : b ≠ r) : (W.setCell ⟨r, o', none⟩ v).cell? ⟨b, o, none⟩ = some x :=
 (World.cell?_of_block (w := W) (Below.heap_setCell W _ _ _ hne)).trans h
theorem Box1.set {w W : World} {b r : Nat} {v0 v1 : Value} (h : Box1 w b r v0 v1 W) (hr : w.heap.size ≤ r) (hne : b ≠ r) (x0 x1 : Value) : Box1 w b r v0 v1 ((W.setCell ⟨r, 0, none⟩ x0).setCell ⟨r, 1, none⟩ x1) := by
 obtain ⟨h1, h2, h3, h7⟩ := h
 exact ⟨cell_set_far (cell_set_far h1 hne) hne, cell_set_far (cell_set_far h2 hne) hne, h3.set x0 x1, bSet (bSet h7 hr _) hr _⟩
def Box2 (w : World) (b c r : Nat) (v0 v1 x0 x1 : Value) (W : World) : Prop :=
 W.cell? ⟨b, 0, none⟩ = some v0 ∧ W.cell? ⟨b, 1, none⟩ = some v1 ∧ W.cell? ⟨c, 0, none⟩ = some x0 ∧ W.cell? ⟨c, 1, none⟩ = some x1 ∧ ResBox r W ∧ Below w.heap.size w W
theorem Box2.step {w W w2 : World} {b c r : Nat} {v0 v1 x0 x1 : Value} (h : Box2 w b c r v0 v1 x0 x1 W) (hb : Below W.heap.size W w2) : Box2 w b c r v0 v1 x0 x1 w2 := by
 obtain ⟨h1, h2, k1, k2, h3, h7⟩ := h
 exact ⟨cell_step h1 hb, cell_step h2 hb, cell_step k1 hb, cell_step k2 hb, h3.step hb, bStep h7 hb⟩
theorem Box2.alloc {w W : World} {b c r : Nat} {v0 v1 x0 x1 : Value} (h : Box2 w b c r v0 v1 x0 x1 W) (o : Obj) : Box2 w b c r v0 v1 x0 x1 (W.alloc o) := h.step ((Below.refl _ _).alloc (Nat.le_refl _) o)
theorem Box2.drew {w W : World} {b c r : Nat} {v0 v1 x0 x1 : Value} (h : Box2 w b c r v0 v1 x0 x1 W) : Box2 w b c r v0 v1 x0 x1 W.drew := h.step (Below.refl _ _).drew
theorem Box2.set {w W : World} {b c r : Nat} {v0 v1 y0 y1 : Value} (h : Box2 w b c r v0 v1 y0 y1 W) (hr : w.heap.size ≤ r) (hne : b ≠ r) (hne2 : c ≠ r) (x0 x1 : Value) : Box2 w b c r v0 v1 y0 y1 ((W.setCell ⟨r, 0, none⟩ x0).setCell ⟨r, 1, none⟩ x1) := by
 obtain ⟨h1, h2, h4, h5, h3, h7⟩ := h
 exact ⟨cell_set_far (cell_set_far h1 hne) hne, cell_set_far (cell_set_far h2 hne) hne, cell_set_far (cell_set_far h4 hne2) hne2, cell_set_far (cell_set_far h5 hne2) hne2, h3.set x0 x1, bSet (bSet h7 hr _) hr _⟩
end Go.Proofs.YtmpilgkfbibhlaaGreatDoor
namespace Go.Proofs.YtmpilgkfbibhlaaGreatDoor
open Go.RowKit
/-! The same, the step first: for 'by assumption' in this order. -/
end Go.Proofs.YtmpilgkfbibhlaaGreatDoor
namespace Go.Proofs.YtmpilgkfbibhlaaGreatDoor
open Go.RowKit
section
variable {P : Program} {ops : Array Oper} {Q : Exit → Act → World → Prop}
def early (ops : Array Oper) : Bool := (List.range ops.size).all fun i => ((ops[i]?).map (·.after.all fun e => !Region.binds .any e || decide (e.on < i))).getD true
theorem all_listed {l : Array Bool} (hsz : l.size = ops.size) (he : early ops = true) (h : Region.ready .any ops l = []) : ∀ i, i < ops.size → l.getD i true = true := by
 intro i
 induction i using Nat.strongRecOn with
 | _ i ih =>
  intro hi
  cases hl : l.getD i true with
  | true => rfl
  | false =>
   exfalso
   have hr : i ∈ Region.ready .any ops l := by
    unfold Region.ready
    rw [List.mem_filter]
    refine ⟨List.mem_range.2 hi, ?_⟩
    have ho : ops[i]? = some ops[i] := Array.getElem?_eq_getElem hi
    rw [hl, ho]
    simp only [Bool.not_false, Bool.true_and, Option.map_some, Option.getD_some]
    rw [Array.all_eq_true']
    intro e hem
    have h1 := List.all_eq_true.1 he i (List.mem_range.2 hi)
    rw [ho] at h1
    simp only [Option.map_some, Option.getD_some] at h1
    rw [Array.all_eq_true'] at h1
    have h2 := h1 e hem
    cases hb : Region.binds .any e with
    | false => simp
    | true =>
     rw [hb] at h2
     simp at h2
     have h3 := ih e.on h2 (by omega)
     have : l.getD e.on false = true := by
      rw [Array.getD_eq_getD_getElem?] at h3 ⊢
      cases hx : l[e.on]? with
      | some x => rw [hx] at h3; simpa using h3
      | none =>
       exfalso
       rw [Array.getElem?_eq_none_iff] at hx
       omega
     simp [this]
   rw [h] at hr
   exact absurd hr (by simp)
def left (l : Array Bool) : Nat := l.toList.count false
theorem left_set {l : Array Bool} {i : Nat} (hi : i < l.size) (h : l.getD i true = false) : left (l.setIfInBounds i true) + 1 = left l := by
 obtain ⟨l⟩ := l
 simp only [left, List.setIfInBounds_toArray]
 have hi' : i < l.length := by simpa using hi
 have h' : l[i] = false := by
  rw [Array.getD_eq_getD_getElem?] at h
  simpa [hi'] using h
 rw [List.count_set hi']
 have hc : 0 < List.count false l := List.count_pos_iff.2 (h' ▸ List.getElem_mem hi')
 simp [h']
 omega
theorem ready_iff {md : Region.Mode} {l : Array Bool} {i : Nat} (h : i ∈ Region.ready md ops l) :
  i < ops.size ∧ l.getD i true = false ∧ ∀ o, ops[i]? = some o → (o.after.all fun e => !Region.binds md e || l.getD e.on false) = true := by
 unfold Region.ready at h
 rw [List.mem_filter] at h
 obtain ⟨h1, h2⟩ := h
 rw [Bool.and_eq_true] at h2
 refine ⟨List.mem_range.1 h1, by simpa using h2.1, fun o ho => ?_⟩
 have h3 := h2.2
 rw [ho] at h3
 simpa using h3
theorem any_inv (he : early ops = true) (I : Array Bool → Act → World → Prop) (hsz : ∀ l a w, I l a w → l.size = ops.size)
  (step : ∀ i o, ops[i]? = some o → ∀ l a w, I l a w → l.getD i true = false → (o.after.all fun e => !Region.binds .any e || l.getD e.on false) = true → wpOp P ops Q i (I (l.setIfInBounds i true)) a w)
  (done : ∀ l a w, I l a w → (∀ i, i < ops.size → l.getD i true = true) → Q .normal a w) :
  ∀ fuel l a w, I l a w → left l ≤ fuel → wpAny P .any ops Q fuel l a w := by
 intro fuel
 induction fuel with
 | zero =>
  intro l a w hI hf
  have hr : Region.ready .any ops l = [] := by
   rw [List.eq_nil_iff_forall_not_mem]
   intro i hi
   obtain ⟨h1, h2, _⟩ := ready_iff hi
   have := left_set (by rw [hsz l a w hI]; exact h1) h2
   omega
  exact ⟨hr, done l a w hI (all_listed (hsz l a w hI) he hr)⟩
 | succ n ih =>
  intro l a w hI hf
  refine ⟨fun hr => done l a w hI (all_listed (hsz l a w hI) he hr), fun i hi => ?_⟩
  obtain ⟨h1, h2, h3⟩ := ready_iff hi
  have ho : ops[i]? = some ops[i] := Array.getElem?_eq_getElem h1
  have hl := left_set (by rw [hsz l a w hI]; exact h1) h2
  exact wpOp_mono (fun a' w' h' => ih _ a' w' h' (by omega)) (step i _ ho l a w hI h2 (h3 _ ho))
theorem left_new (n : Nat) : left (Array.replicate n false) = n := by simp [left]
theorem region_inv {id : Nat} {a : Act} {w : World} (hm : P.follows .mixedOrders = true) (he : early ops = true) (I : Array Bool → Act → World → Prop) (h0 : I (Array.replicate ops.size false) a w.drew) (hsz : ∀ l a w, I l a w → l.size = ops.size)
  (step : ∀ i o, ops[i]? = some o → ∀ l a w, I l a w → l.getD i true = false → (o.after.all fun e => !Region.binds .any e || l.getD e.on false) = true → wpOp P ops Q i (I (l.setIfInBounds i true)) a w)
  (done : ∀ l a w, I l a w → (∀ i, i < ops.size → l.getD i true = true) → Q .normal a w) : (Code.region id ops true).wp P Q a w :=
 wp_region_any hm (any_inv he I hsz step done ops.size _ _ _ h0 (by rw [left_new]; exact Nat.le_refl _))
theorem wpOp_plain {i : Nat} {o : Oper} {K : Act → World → Prop} {a : Act} {w : World} (hi : ops[i]? = some o) (hg : o.guard = none) (h : o.wp P a w K Q) : wpOp P ops Q i K a w := by
 unfold wpOp
 rw [hi]
 simp only [Region.wanted, hg, if_true]
 exact .inl h
end
end Go.Proofs.YtmpilgkfbibhlaaGreatDoor
namespace Go.Proofs.YtmpilgkfbibhlaaGreatDoor
open Go.RowKit
def updAll (a : Act) : List (Nat × Value) → Act
 | [] => a
 | (d, v) :: l => (updAll a l).put (some d) v
def BoxF (b d : Bool) (s : Value) (base : Nat) (z c : Array Value) (T : TypeId) (W : World) : Prop :=
 b = true → ∃ r, s = .pointer (some ⟨r, 0, none⟩) ∧ base ≤ r ∧ W.heap[r]? = some (.cells (if d = true then c else z) T (0, 0))
theorem BoxF.step {b d : Bool} {s : Value} {base : Nat} {z c : Array Value} {T : TypeId} {W W2 : World} (h : BoxF b d s base z c T W) (hb : Below W.heap.size W W2) : BoxF b d s base z c T W2 := fun e => by
 obtain ⟨r, h1, h2, h3⟩ := h e
 exact ⟨r, h1, h2, blk_step h3 hb⟩
theorem BoxF.no {d : Bool} {s : Value} {base : Nat} {z c : Array Value} {T : TypeId} {W : World} : BoxF false d s base z c T W := fun e => by cases e
theorem BoxF.new {base : Nat} {z c : Array Value} {T : TypeId} {W : World} (hb : base ≤ W.heap.size) : BoxF true false (.pointer (some ⟨W.heap.size, 0, none⟩)) base z c T (W.alloc (.cells z T)) := fun _ =>
 ⟨_, rfl, hb, by simpa using blk_new W (.cells z T)⟩
def Apart (b b' : Bool) (s s' : Value) : Prop := b = true → b' = true → s ≠ s'
theorem Apart.no {b' : Bool} {s s' : Value} : Apart false b' s s' := fun e => by cases e
theorem Apart.symm {b b' : Bool} {s s' : Value} (h : Apart b b' s s') : Apart b' b s' s := fun e e' c => h e' e c.symm
theorem Apart.new {b' d' : Bool} {s' : Value} {base : Nat} {z c : Array Value} {T : TypeId} {W : World} (h : BoxF b' d' s' base z c T W) : Apart true b' (.pointer (some ⟨W.heap.size, 0, none⟩)) s' := fun _ e c => by
 obtain ⟨r, h1, h2, h3⟩ := h e
 have := blk_lt h3
 rw [h1] at c
 simp at c
section
variable {P : Program} {ops : Array Oper} {Q : Exit → Act → World → Prop}
end
end Go.Proofs.YtmpilgkfbibhlaaGreatDoor
namespace Go.Proofs.YtmpilgkfbibhlaaGreatDoor
open Go.RowKit
section
variable {F : Fence} {n : Nat} {P : Program} {ops : Array Oper} {Q : Exit → Act → World → Prop}
def waits (ops : Array Oper) (i : Nat) : List Nat := ((ops[i]?).map fun o => (o.after.toList.filter (Region.binds .any)).map (·.on)).getD []
def ancs (ops : Array Oper) : Nat → Nat → List Nat
 | 0, _ => []
 | f + 1, i => waits ops i ++ (waits ops i).flatMap (ancs ops f)
def Shut (ops : Array Oper) (l : Array Bool) : Prop := ∀ i, l.getD i false = true → ∀ j ∈ waits ops i, l.getD j false = true
theorem Shut.anc {l : Array Bool} (h : Shut ops l) : ∀ f i, l.getD i false = true → ∀ j ∈ ancs ops f i, l.getD j false = true := by
 intro f
 induction f with
 | zero => intro i _ j hj; cases hj
 | succ f ih =>
  intro i hi j hj
  rcases List.mem_append.1 hj with hj | hj
  ·exact h i hi j hj
  ·obtain ⟨k, hk, hkj⟩ := List.mem_flatMap.1 hj
   exact ih k (h i hi k hk) j hkj
theorem waits_ok {l : Array Bool} {i : Nat} {o : Oper} (ho : ops[i]? = some o) (h : (o.after.all fun e => !Region.binds .any e || l.getD e.on false) = true) : ∀ j ∈ waits ops i, l.getD j false = true := by
 intro j hj
 unfold waits at hj
 rw [ho] at hj
 simp only [Option.map_some, Option.getD_some] at hj
 obtain ⟨e, he, rfl⟩ := List.mem_map.1 hj
 obtain ⟨he1, he2⟩ := List.mem_filter.1 he
 rw [Array.all_eq_true'] at h
 have := h e (by simpa using he1)
 rw [he2] at this
 simpa using this
theorem getD_tf {l : Array Bool} {i : Nat} (h : l.getD i true = false) : l.getD i false = false := by
 rw [Array.getD_eq_getD_getElem?] at h ⊢
 cases hx : l[i]? with
 | none => rw [hx] at h; simp at h
 | some x => rw [hx] at h; simpa using h
theorem getD_ft {l : Array Bool} {i : Nat} (hi : i < l.size) (h : l.getD i false = true) : l.getD i true = true := by
 rw [Array.getD_eq_getD_getElem?] at h ⊢
 rw [Array.getElem?_eq_getElem hi] at h ⊢
 simpa using h
theorem getD_tt {l : Array Bool} {i : Nat} (hi : i < l.size) (h : l.getD i true = true) : l.getD i false = true := by
 rw [Array.getD_eq_getD_getElem?] at h ⊢
 rw [Array.getElem?_eq_getElem hi] at h ⊢
 simpa using h
theorem getD_set1 {l : Array Bool} {i j : Nat} {b : Bool} (hi : i < l.size) : (l.setIfInBounds i true).getD j b = if i = j then true else l.getD j b := by
 rw [Array.getD_eq_getD_getElem?, Array.getD_eq_getD_getElem?, Array.getElem?_setIfInBounds]
 split
 ·simp [hi]
 ·rfl
theorem Shut.set {l : Array Bool} {i : Nat} (h : Shut ops l) (hi : i < l.size) (hw : ∀ j ∈ waits ops i, l.getD j false = true) : Shut ops (l.setIfInBounds i true) := by
 intro k hk j hj
 rw [getD_set1 hi] at hk ⊢
 split
 ·rfl
 ·by_cases e : i = k
  ·subst e; exact hw j hj
  ·rw [if_neg e] at hk
   exact h k hk j hj
theorem any_invIn (he : early ops = true) (I : Array Bool → Act → World → Prop) (hsz : ∀ l a w, I l a w → l.size = ops.size)
  (step : ∀ i o, ops[i]? = some o → ∀ l a w, I l a w → l.getD i true = false → (o.after.all fun e => !Region.binds .any e || l.getD e.on false) = true → wpOpIn F n P ops Q i (I (l.setIfInBounds i true)) a w)
  (done : ∀ l a w, I l a w → (∀ i, i < ops.size → l.getD i true = true) → Q .normal a w) :
  ∀ fuel l a w, I l a w → left l ≤ fuel → wpAnyIn F n P .any ops Q fuel l a w := by
 intro fuel
 induction fuel with
 | zero =>
  intro l a w hI hf
  have hr : Region.ready .any ops l = [] := by
   rw [List.eq_nil_iff_forall_not_mem]
   intro i hi
   obtain ⟨h1, h2, _⟩ := ready_iff hi
   have := left_set (by rw [hsz l a w hI]; exact h1) h2
   omega
  exact ⟨hr, done l a w hI (all_listed (hsz l a w hI) he hr)⟩
 | succ n ih =>
  intro l a w hI hf
  refine ⟨fun hr => done l a w hI (all_listed (hsz l a w hI) he hr), fun i hi => ?_⟩
  obtain ⟨h1, h2, h3⟩ := ready_iff hi
  have ho : ops[i]? = some ops[i] := Array.getElem?_eq_getElem h1
  have hl := left_set (by rw [hsz l a w hI]; exact h1) h2
  exact wpOpIn_mono (fun a' w' h' => ih _ a' w' h' (by omega)) (step i _ ho l a w hI h2 (h3 _ ho))
theorem regionIn_head {id : Nat} {a : Act} {w : World} (N : Nat) (hm : P.follows .mixedOrders = true) (he : early ops = true) (hs0 : ops.size = N + 2)
  (hA : ((List.range N).all fun j => (ancs ops 6 N).contains j) = true) (hB : (waits ops (N + 1)).contains N = true) (I : Array Bool → Act → Prop) (h0 : I (Array.replicate ops.size false) a)
  (step : ∀ i o, i < N → ops[i]? = some o → ∀ l a, I l a → l.size = ops.size → l.getD i true = false → (o.after.all fun e => !Region.binds .any e || l.getD e.on false) = true →
   wpOpIn F n P ops Q i (fun a' w' => w' = w.drew ∧ I (l.setIfInBounds i true) a') a w.drew)
  (tail : ∀ l a, I l a → l.size = ops.size → (∀ j, j < N → l.getD j true = true) → wpOpIn F n P ops Q N (fun a1 w1 => wpOpIn F n P ops Q (N + 1) (fun a2 w2 => Q .normal a2 w2) a1 w1) a w.drew) :
  (Code.region id ops true).wpIn F n P Q a w := by
 have hA' : ∀ j, j < N → j ∈ ancs ops 6 N := fun j hj => by simpa using List.all_eq_true.1 hA j (List.mem_range.2 hj)
 have hB' : N ∈ waits ops (N + 1) := by simpa using hB
 refine wpIn_region_any hm (any_invIn he (fun l a w' => l.size = ops.size ∧ Shut ops l ∧ ((l.getD N true = false ∧ l.getD (N + 1) true = false ∧ w' = w.drew ∧ I l a) ∨
  (l.getD N false = true ∧ l.getD (N + 1) true = false ∧ wpOpIn F n P ops Q (N + 1) (fun a2 w2 => Q .normal a2 w2) a w') ∨ (l.getD N false = true ∧ l.getD (N + 1) false = true ∧ Q .normal a w'))) (fun l a w h => h.1) ?_ ?_ ops.size _ _ _ ?_ (by rw [left_new]; exact Nat.le_refl _))
 ·rintro i o ho l a w' ⟨hs, hS, hJ⟩ hl hd
  have hio : i < ops.size := (Array.getElem?_eq_some_iff.1 ho).1
  have hil : i < l.size := by rw [hs]; exact hio
  have hw := waits_ok ho hd
  have hS2 := hS.set hil hw
  have hs2 : (l.setIfInBounds i true).size = ops.size := by simpa using hs
  have hi3 : i < N ∨ i = N ∨ i = N + 1 := by omega
  rcases hi3 with hi | rfl | rfl
  ·rcases hJ with ⟨j1, j2, rfl, j3⟩ | ⟨j1, _⟩ | ⟨j1, _⟩
   ·refine wpOpIn_mono ?_ (step i o hi ho l a j3 hs hl hd)
    rintro a' w'' ⟨rfl, h⟩
    refine ⟨hs2, hS2, Or.inl ⟨?_, ?_, rfl, h⟩⟩
    ·rw [getD_set1 hil, if_neg (by omega)]; exact j1
    ·rw [getD_set1 hil, if_neg (by omega)]; exact j2
   ·exact absurd (hS.anc 6 N j1 i (hA' i hi)) (by rw [getD_tf hl]; decide)
   ·exact absurd (hS.anc 6 N j1 i (hA' i hi)) (by rw [getD_tf hl]; decide)
  ·rcases hJ with ⟨j1, j2, rfl, j3⟩ | ⟨j1, _⟩ | ⟨j1, _⟩
   ·have hall : ∀ j, j < i → l.getD j true = true := by
     intro j hj
     have := hS2.anc 6 i (by rw [getD_set1 hil, if_pos rfl]) j (hA' j hj)
     rw [getD_set1 hil, if_neg (by omega)] at this
     exact getD_ft (by omega) this
    refine wpOpIn_mono ?_ (tail l a j3 hs hall)
    intro a' w'' h
    refine ⟨hs2, hS2, Or.inr (Or.inl ⟨?_, ?_, h⟩)⟩
    ·rw [getD_set1 hil, if_pos rfl]
    ·rw [getD_set1 hil, if_neg (by omega)]; exact j2
   ·exact absurd j1 (by rw [getD_tf hl]; decide)
   ·exact absurd j1 (by rw [getD_tf hl]; decide)
  ·have hN := hw N hB'
   rcases hJ with ⟨j1, _⟩ | ⟨j1, j2, j3⟩ | ⟨_, j1, _⟩
   ·exact absurd hN (by rw [getD_tf j1]; decide)
   ·refine wpOpIn_mono ?_ j3
    intro a' w'' h
    refine ⟨hs2, hS2, Or.inr (Or.inr ⟨?_, ?_, h⟩)⟩
    ·rw [getD_set1 hil, if_neg (by omega)]; exact j1
    ·rw [getD_set1 hil, if_pos rfl]
   ·exact absurd j1 (by rw [getD_tf hl]; decide)
 ·rintro l a w' ⟨hs, hS, hJ⟩ hall
  rcases hJ with ⟨j1, _⟩ | ⟨_, j1, _⟩ | ⟨_, _, j⟩
  ·rw [hall N (by omega)] at j1; cases j1
  ·rw [hall (N + 1) (by omega)] at j1; cases j1
  ·exact j
 ·refine ⟨by simp, fun i hi => ?_, Or.inl ⟨?_, ?_, rfl, h0⟩⟩
  ·rw [Array.getD_eq_getD_getElem?] at hi
   by_cases h : i < ops.size
   ·simp [h] at hi
   ·simp [h] at hi
  ·simp [Array.getD_eq_getD_getElem?, hs0]
  ·simp [Array.getD_eq_getD_getElem?, hs0]
theorem wpOpIn_plain {i : Nat} {o : Oper} {K : Act → World → Prop} {a : Act} {w : World} (hi : ops[i]? = some o) (hg : o.guard = none) (h : o.wpIn F n P a w K Q) : wpOpIn F n P ops Q i K a w := by
 unfold wpOpIn
 rw [hi]
 simp only [Region.wanted, hg, if_true]
 exact h
end
end Go.Proofs.YtmpilgkfbibhlaaGreatDoor
