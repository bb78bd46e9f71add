/-
 Sums of words at a point, modulo a prime: how many points two different messages can share.
-/
import Derived.KernelRfl
import Derived.Test.YtmpilgkfbibhlaaGreatDoorProg
import Derived.Shelf.Strings.Builder1
import Derived.Shelf.Strings.Builder2
import Derived.Shelf.Strings.OnBuilder
import Derived.Shelf.Strconv.Atoi
import Derived.Shelf.Strconv.Itoa0
import Derived.Shelf.Strconv.Itoa1
import Derived.Shelf.LaysM
import Derived.Shelf.Strconv.Itoa2
import Derived.Shelf.Strconv.Itoa3
import Derived.Shelf.Strconv.Itoa4
import Derived.Shelf.Bytes.Len
import Derived.Shelf.Bytes.TryGrow
import Derived.Shelf.Bytes.GrowSliceCatch
import Derived.Shelf.Bytes.GrowSlice
import Derived.Shelf.Bytes.GrowRow0
import Derived.Shelf.Bytes.GrowRow
import Derived.Shelf.Bytes.GrowNil
import Derived.Shelf.Bytes.Grow
import Derived.Shelf.Bytes.WriteByte
import Derived.Shelf.Bytes.WriteString
import Derived.Shelf.Bytes.Bytes
import Derived.Shelf.Strconv.AtoiErrFast
import Derived.Shelf.Strconv.ParseIntEmpty
import Derived.Shelf.Strconv.AtoiFail
import Derived.Shelf.Strconv.Clone
import Derived.Shelf.Strconv.SyntaxError
import Derived.Shelf.LaysC
import Derived.Shelf.Strconv.ToError
import Derived.Shelf.Strconv.Lower
import Derived.Shelf.Strconv.ParseUint10
import Derived.Shelf.Strconv.ParseUint10Empty
import Derived.Shelf.Strconv.ParseUint10Any
import Derived.Shelf.Strconv.ParseInt10
import Derived.Shelf.Strconv.AtoiLong
import Derived.Shelf.Strconv.AtoiInnerAll
import Derived.Shelf.Strconv.RangeError
import Derived.Shelf.Strconv.ToErrorRange
import Derived.Shelf.Strconv.AtoiAll
import Derived.Shelf.Strconv.ErrVarAll
import Derived.Shelf.Strings.Search1
import Derived.Shelf.Strings.Search2
import Derived.Shelf.Strings.Cut
import Derived.Shelf.Strings.Shaped
import Derived.Shelf.Slices.Turned
import Derived.Ground.SlgnProg
import Derived.Shelf.SlicesE.Clone
import Derived.Ground.SlgfProg
import Derived.Shelf.SlicesE.IndexFunc
import Derived.Shelf.SlicesE.DeleteFunc
set_option linter.unusedSimpArgs false
set_option linter.unusedVariables false
namespace Go.Proofs.YtmpilgkfbibhlaaGreatDoor
def horner (p x : Nat) (ws : List Nat) : Nat := ws.foldl (fun s w => (s + w) * x % p) 0
def nv (x : Nat) : List Nat → Nat
 | [] => 0
 | c :: cs => (c + nv x cs) * x
theorem mod_step (p a c x : Nat) : (a % p + c) * x % p = (a + c) * x % p := by
 rw [Nat.mul_mod, Nat.mod_add_mod, ← Nat.mul_mod]
theorem horner_rev (p x : Nat) (rs : List Nat) : horner p x rs.reverse = nv x rs % p := by
 induction rs with
 | nil => simp [horner, nv]
 | cons c cs ih =>
  unfold horner at ih ⊢
  rw [List.reverse_cons, List.foldl_append, ih]
  simp only [List.foldl_cons, List.foldl_nil, nv]
  rw [mod_step, Nat.add_comm]
theorem horner_eq (p x : Nat) (ws : List Nat) : horner p x ws = nv x ws.reverse % p := by
 rw [← horner_rev, List.reverse_reverse]
theorem horner_lt {p : Nat} (hp : 0 < p) (x : Nat) (ws : List Nat) : horner p x ws < p := by rw [horner_eq]; exact Nat.mod_lt _ hp
/-! Roots. -/
def ev (x : Int) : List Int → Int
 | [] => 0
 | c :: cs => c + x * ev x cs
/-! Differences. -/
end Go.Proofs.YtmpilgkfbibhlaaGreatDoor
namespace Go.Proofs.YtmpilgkfbibhlaaGreatDoor
def bt (m : List Nat) (q : Nat) : Nat := if q < m.length then m.getD q 0 else if q = m.length then 1 else 0
def wdTo (b : Nat) (m : List Nat) (i : Nat) : Nat → Nat
 | 0 => 0
 | j + 1 => 256 * wdTo b m i j + bt m (i * b + j)
def wd (b : Nat) (m : List Nat) (i : Nat) : Nat := wdTo b m i b
def wn (b : Nat) (m : List Nat) : Nat := m.length / b + 2
def wx (b : Nat) (m : List Nat) : Nat → Nat
 | 0 => 1
 | i + 1 => wd b m i
def words (b : Nat) (m : List Nat) : List Nat := (List.range (wn b m)).map (wx b m)
def dig (p b x : Nat) (m : List Nat) : Nat := horner p x (words b m)
def Byt (m : List Nat) : Prop := ∀ k, m.getD k 0 < 256
theorem bt_lt {m : List Nat} (h : Byt m) (q : Nat) : bt m q < 256 := by
 unfold bt
 split
 ·exact h q
 ·split <;> omega
theorem wdTo_lt {m : List Nat} (h : Byt m) (b i : Nat) : ∀ j, wdTo b m i j < 256 ^ j
 | 0 => by simp [wdTo]
 | j + 1 => by
  have h1 := wdTo_lt h b i j
  have h2 := bt_lt h (i * b + j)
  rw [wdTo, Nat.pow_succ]
  omega
theorem wd_lt {m : List Nat} (h : Byt m) {b : Nat} (hb : b ≤ 3) (i : Nat) : wd b m i < 16777216 :=
 Nat.lt_of_lt_of_le (wdTo_lt h b i b) (Nat.pow_le_pow_right (n := 256) (by decide) hb)
theorem wdTo_small {m : List Nat} (h : Byt m) {b j : Nat} (hb : b ≤ 3) (hj : j < b) (i : Nat) : wdTo b m i j < 65536 :=
 Nat.lt_of_lt_of_le (wdTo_lt h b i j) (Nat.pow_le_pow_right (n := 256) (by decide) (by omega : j ≤ 2))
theorem wx_lt {m : List Nat} (h : Byt m) {b : Nat} (hb : b ≤ 3) : ∀ i, wx b m i < 16777216
 | 0 => by show 1 < 16777216; decide
 | i + 1 => wd_lt h hb i
theorem horner_snoc (p x : Nat) (ws : List Nat) (c : Nat) : horner p x (ws ++ [c]) = (horner p x ws + c) * x % p := by
 unfold horner
 rw [List.foldl_append]; rfl
end Go.Proofs.YtmpilgkfbibhlaaGreatDoor
namespace Go.Proofs.YtmpilgkfbibhlaaGreatDoor
open Go.Shelf
def laysM171_ren : Go.Shelf.Ren := ⟨fun | 171 => 106 | 243 => 139 | 246 => 127 | 283 => 150 | 284 => 151 | 285 => 152 | 286 => 153 | 129 => 166 | 317 => 165 | 318 => 167 | 319 => 168 | 320 => 169 | 337 => 182 | 338 => 183 | n => n, fun | 3 => 3 | 9 => 9 | 2 => 2 | 4 => 4 | 171 => 220 | 0 => 0 | 53 => 22 | 37 => 88 | 5 => 5 | 173 => 223 | 212 => 238 | 51 => 239 | 20 => 20 | 213 => 240 | 46 => 167 | 232 => 260 | 233 => 261 | n => n, fun | 17 => 0 | 18 => 5 | 19 => 6 | n => n⟩
theorem laysM171 : Go.Proofs.LaysM.n171 Tryz.prog laysM171_ren := {
 mixed := by kernel_rfl
 f129 := Tryz.func166.trans (congrArg some (by kernel_rfl))
 f171 := Tryz.func106.trans (congrArg some (by kernel_rfl))
 f243 := Tryz.func139.trans (congrArg some (by kernel_rfl))
 f246 := Tryz.func127.trans (congrArg some (by kernel_rfl))
 f283 := Tryz.func150.trans (congrArg some (by kernel_rfl))
 f284 := Tryz.func151.trans (congrArg some (by kernel_rfl))
 f285 := Tryz.func152.trans (congrArg some (by kernel_rfl))
 f286 := Tryz.func153.trans (congrArg some (by kernel_rfl))
 f317 := Tryz.func165.trans (congrArg some (by kernel_rfl))
 f318 := Tryz.func167.trans (congrArg some (by kernel_rfl))
 f319 := Tryz.func168.trans (congrArg some (by kernel_rfl))
 f320 := Tryz.func169.trans (congrArg some (by kernel_rfl))
 f337 := Tryz.func182.trans (congrArg some (by kernel_rfl))
 f338 := Tryz.func183.trans (congrArg some (by kernel_rfl))
 t0 := Tryz.underlying0
 a0 := Tryz.isAgg0
 z0 := Tryz.sizeOf0
 v0 := Tryz.zeroValue0
 t2 := Tryz.underlying2
 a2 := Tryz.isAgg2
 z2 := Tryz.sizeOf2
 v2 := Tryz.zeroValue2
 t3 := Tryz.underlying3
 a3 := Tryz.isAgg3
 z3 := Tryz.sizeOf3
 v3 := Tryz.zeroValue3
 t4 := Tryz.underlying4
 a4 := Tryz.isAgg4
 z4 := Tryz.sizeOf4
 v4 := Tryz.zeroValue4
 t5 := Tryz.underlying5
 a5 := Tryz.isAgg5
 z5 := Tryz.sizeOf5
 v5 := Tryz.zeroValue5
 t9 := Tryz.underlying9
 a9 := Tryz.isAgg9
 z9 := Tryz.sizeOf9
 v9 := Tryz.zeroValue9
 t20 := Tryz.underlying20
 a20 := Tryz.isAgg20
 z20 := Tryz.sizeOf20
 v20 := Tryz.zeroValue20
 t37 := Tryz.underlying88
 a37 := Tryz.isAgg88
 z37 := Tryz.sizeOf88
 v37 := Tryz.zeroValue88
 t46 := Tryz.underlying167
 a46 := Tryz.isAgg167
 z46 := Tryz.sizeOf167
 v46 := Tryz.zeroValue167
 t51 := Tryz.underlying239
 a51 := Tryz.isAgg239
 z51 := Tryz.sizeOf239
 v51 := Tryz.zeroValue239
 t53 := Tryz.underlying22
 a53 := Tryz.isAgg22
 z53 := Tryz.sizeOf22
 v53 := Tryz.zeroValue22
 t171 := Tryz.underlying220
 a171 := Tryz.isAgg220
 z171 := Tryz.sizeOf220
 v171 := Tryz.zeroValue220
 t173 := Tryz.underlying223
 a173 := Tryz.isAgg223
 z173 := Tryz.sizeOf223
 v173 := Tryz.zeroValue223
 t212 := Tryz.underlying238
 a212 := Tryz.isAgg238
 z212 := Tryz.sizeOf238
 v212 := Tryz.zeroValue238
 t213 := Tryz.underlying240
 a213 := Tryz.isAgg240
 z213 := Tryz.sizeOf240
 t232 := Tryz.underlying260
 a232 := Tryz.isAgg260
 z232 := Tryz.sizeOf260
 v232 := Tryz.zeroValue260
 t233 := Tryz.underlying261
 a233 := Tryz.isAgg261
 z233 := Tryz.sizeOf261
 v233 := Tryz.zeroValue261
 g17 := by kernel_rfl
 g18 := by kernel_rfl
 g19 := by kernel_rfl
 i0 := by kernel_rfl
 i2 := by kernel_rfl
 i3 := by kernel_rfl
 i4 := by kernel_rfl
 i5 := by kernel_rfl
 i9 := by kernel_rfl
 i20 := by kernel_rfl
 i37 := by kernel_rfl
 i46 := by kernel_rfl
 i51 := by kernel_rfl
 i53 := by kernel_rfl
 i171 := by kernel_rfl
 i173 := by kernel_rfl
 i212 := by kernel_rfl
 i232 := by kernel_rfl
 i233 := by kernel_rfl
 m17 := by kernel_rfl
 m18 := by kernel_rfl
 m19 := by kernel_rfl }
def laysM179_ren : Go.Shelf.Ren := ⟨fun | 179 => 136 | 251 => 156 | 252 => 157 | 181 => 172 | 184 => 173 | 290 => 174 | 324 => 184 | n => n, fun | 130 => 226 | 5 => 5 | 75 => 185 | 0 => 0 | 93 => 210 | 91 => 208 | 3 => 3 | 131 => 227 | 4 => 4 | 37 => 88 | 20 => 20 | 80 => 202 | 9 => 9 | n => n, fun | 14 => 1 | n => n⟩
theorem laysM179 : Go.Proofs.LaysM.n179 Tryz.prog laysM179_ren := {
 mixed := by kernel_rfl
 f179 := Tryz.func136.trans (congrArg some (by kernel_rfl))
 f181 := Tryz.func172.trans (congrArg some (by kernel_rfl))
 f184 := Tryz.func173.trans (congrArg some (by kernel_rfl))
 f251 := Tryz.func156.trans (congrArg some (by kernel_rfl))
 f252 := Tryz.func157.trans (congrArg some (by kernel_rfl))
 f290 := Tryz.func174.trans (congrArg some (by kernel_rfl))
 f324 := Tryz.func184.trans (congrArg some (by kernel_rfl))
 t0 := Tryz.underlying0
 a0 := Tryz.isAgg0
 z0 := Tryz.sizeOf0
 v0 := Tryz.zeroValue0
 t3 := Tryz.underlying3
 a3 := Tryz.isAgg3
 z3 := Tryz.sizeOf3
 v3 := Tryz.zeroValue3
 t4 := Tryz.underlying4
 a4 := Tryz.isAgg4
 z4 := Tryz.sizeOf4
 v4 := Tryz.zeroValue4
 t5 := Tryz.underlying5
 a5 := Tryz.isAgg5
 z5 := Tryz.sizeOf5
 v5 := Tryz.zeroValue5
 t20 := Tryz.underlying20
 a20 := Tryz.isAgg20
 z20 := Tryz.sizeOf20
 v20 := Tryz.zeroValue20
 t37 := Tryz.underlying88
 a37 := Tryz.isAgg88
 z37 := Tryz.sizeOf88
 v37 := Tryz.zeroValue88
 t75 := Tryz.underlying185
 a75 := Tryz.isAgg185
 z75 := Tryz.sizeOf185
 v75 := Tryz.zeroValue185
 t91 := Tryz.underlying208
 a91 := Tryz.isAgg208
 z91 := Tryz.sizeOf208
 v91 := Tryz.zeroValue208
 t93 := Tryz.underlying210
 a93 := Tryz.isAgg210
 z93 := Tryz.sizeOf210
 v93 := Tryz.zeroValue210
 t130 := Tryz.underlying226
 a130 := Tryz.isAgg226
 z130 := Tryz.sizeOf226
 v130 := Tryz.zeroValue226
 t131 := Tryz.underlying227
 a131 := Tryz.isAgg227
 z131 := Tryz.sizeOf227
 v131 := Tryz.zeroValue227
 g14 := by kernel_rfl
 t9 := Tryz.underlying9
 a9 := Tryz.isAgg9
 z9 := Tryz.sizeOf9
 v9 := Tryz.zeroValue9
 t80 := Tryz.underlying202
 a80 := Tryz.isAgg202
 z80 := Tryz.sizeOf202
 v80 := Tryz.zeroValue202
 i0 := by kernel_rfl
 i3 := by kernel_rfl
 i4 := by kernel_rfl
 i5 := by kernel_rfl
 i9 := by kernel_rfl
 i20 := by kernel_rfl
 i37 := by kernel_rfl
 i75 := by kernel_rfl
 i80 := by kernel_rfl
 i91 := by kernel_rfl
 i93 := by kernel_rfl
 i130 := by kernel_rfl
 i131 := by kernel_rfl
 m14 := by kernel_rfl }
def laysM178_ren : Go.Shelf.Ren := ⟨fun | 178 => 137 | 251 => 156 | 252 => 157 | 181 => 172 | 184 => 173 | 290 => 174 | 324 => 184 | n => n, fun | 130 => 226 | 9 => 9 | 3 => 3 | 75 => 185 | 0 => 0 | 93 => 210 | 91 => 208 | 131 => 227 | 4 => 4 | 37 => 88 | 20 => 20 | 80 => 202 | 5 => 5 | n => n, fun | 14 => 1 | n => n⟩
theorem laysM178 : Go.Proofs.LaysM.n178 Tryz.prog laysM178_ren := {
 mixed := by kernel_rfl
 f178 := Tryz.func137.trans (congrArg some (by kernel_rfl))
 f181 := Tryz.func172.trans (congrArg some (by kernel_rfl))
 f184 := Tryz.func173.trans (congrArg some (by kernel_rfl))
 f251 := Tryz.func156.trans (congrArg some (by kernel_rfl))
 f252 := Tryz.func157.trans (congrArg some (by kernel_rfl))
 f290 := Tryz.func174.trans (congrArg some (by kernel_rfl))
 f324 := Tryz.func184.trans (congrArg some (by kernel_rfl))
 t0 := Tryz.underlying0
 a0 := Tryz.isAgg0
 z0 := Tryz.sizeOf0
 v0 := Tryz.zeroValue0
 t3 := Tryz.underlying3
 a3 := Tryz.isAgg3
 z3 := Tryz.sizeOf3
 v3 := Tryz.zeroValue3
 t4 := Tryz.underlying4
 a4 := Tryz.isAgg4
 z4 := Tryz.sizeOf4
 v4 := Tryz.zeroValue4
 t9 := Tryz.underlying9
 a9 := Tryz.isAgg9
 z9 := Tryz.sizeOf9
 v9 := Tryz.zeroValue9
 t20 := Tryz.underlying20
 a20 := Tryz.isAgg20
 z20 := Tryz.sizeOf20
 v20 := Tryz.zeroValue20
 t37 := Tryz.underlying88
 a37 := Tryz.isAgg88
 z37 := Tryz.sizeOf88
 v37 := Tryz.zeroValue88
 t75 := Tryz.underlying185
 a75 := Tryz.isAgg185
 z75 := Tryz.sizeOf185
 v75 := Tryz.zeroValue185
 t91 := Tryz.underlying208
 a91 := Tryz.isAgg208
 z91 := Tryz.sizeOf208
 v91 := Tryz.zeroValue208
 t93 := Tryz.underlying210
 a93 := Tryz.isAgg210
 z93 := Tryz.sizeOf210
 v93 := Tryz.zeroValue210
 t130 := Tryz.underlying226
 a130 := Tryz.isAgg226
 z130 := Tryz.sizeOf226
 v130 := Tryz.zeroValue226
 t131 := Tryz.underlying227
 a131 := Tryz.isAgg227
 z131 := Tryz.sizeOf227
 v131 := Tryz.zeroValue227
 g14 := by kernel_rfl
 t5 := Tryz.underlying5
 a5 := Tryz.isAgg5
 z5 := Tryz.sizeOf5
 v5 := Tryz.zeroValue5
 t80 := Tryz.underlying202
 a80 := Tryz.isAgg202
 z80 := Tryz.sizeOf202
 v80 := Tryz.zeroValue202
 i0 := by kernel_rfl
 i3 := by kernel_rfl
 i4 := by kernel_rfl
 i5 := by kernel_rfl
 i9 := by kernel_rfl
 i20 := by kernel_rfl
 i37 := by kernel_rfl
 i75 := by kernel_rfl
 i80 := by kernel_rfl
 i91 := by kernel_rfl
 i93 := by kernel_rfl
 i130 := by kernel_rfl
 i131 := by kernel_rfl
 m14 := by kernel_rfl }
def laysM183_ren : Go.Shelf.Ren := ⟨fun | 183 => 138 | n => n, fun | 130 => 226 | 37 => 88 | 0 => 0 | 93 => 210 | 3 => 3 | 5 => 5 | 91 => 208 | n => n, fun | n => n⟩
theorem laysM183 : Go.Proofs.LaysM.n183 Tryz.prog laysM183_ren := {
 mixed := by kernel_rfl
 f183 := Tryz.func138.trans (congrArg some (by kernel_rfl))
 t0 := Tryz.underlying0
 a0 := Tryz.isAgg0
 z0 := Tryz.sizeOf0
 v0 := Tryz.zeroValue0
 t3 := Tryz.underlying3
 a3 := Tryz.isAgg3
 z3 := Tryz.sizeOf3
 v3 := Tryz.zeroValue3
 t37 := Tryz.underlying88
 a37 := Tryz.isAgg88
 z37 := Tryz.sizeOf88
 v37 := Tryz.zeroValue88
 t93 := Tryz.underlying210
 a93 := Tryz.isAgg210
 z93 := Tryz.sizeOf210
 v93 := Tryz.zeroValue210
 t130 := Tryz.underlying226
 a130 := Tryz.isAgg226
 z130 := Tryz.sizeOf226
 v130 := Tryz.zeroValue226
 t5 := Tryz.underlying5
 a5 := Tryz.isAgg5
 z5 := Tryz.sizeOf5
 v5 := Tryz.zeroValue5
 t91 := Tryz.underlying208
 a91 := Tryz.isAgg208
 z91 := Tryz.sizeOf208
 v91 := Tryz.zeroValue208
 i0 := by kernel_rfl
 i3 := by kernel_rfl
 i5 := by kernel_rfl
 i37 := by kernel_rfl
 i91 := by kernel_rfl
 i93 := by kernel_rfl
 i130 := by kernel_rfl }
def laysC172_ren : Go.Shelf.Ren := ⟨fun | 172 => 120 | 244 => 146 | 245 => 147 | 247 => 159 | 279 => 160 | 280 => 161 | 281 => 162 | 282 => 163 | 287 => 179 | 316 => 180 | 171 => 106 | 205 => 181 | 321 => 187 | 322 => 188 | 243 => 139 | 246 => 127 | 283 => 150 | 284 => 151 | 285 => 152 | 286 => 153 | 129 => 166 | 317 => 165 | 318 => 167 | 319 => 168 | 320 => 169 | 337 => 182 | 338 => 183 | n => n, fun | 9 => 9 | 3 => 3 | 75 => 185 | 76 => 186 | 4 => 4 | 5 => 5 | 167 => 230 | 37 => 88 | 0 => 0 | 85 => 231 | 2 => 2 | 168 => 233 | 53 => 22 | 175 => 247 | 46 => 167 | 210 => 251 | 127 => 225 | 145 => 259 | 143 => 257 | 21 => 21 | 171 => 220 | 173 => 223 | 212 => 238 | 51 => 239 | 20 => 20 | 213 => 240 | 232 => 260 | 233 => 261 | 80 => 202 | n => n, fun | 15 => 3 | 16 => 4 | 17 => 0 | 18 => 5 | 19 => 6 | n => n⟩
theorem laysC172 : Go.Proofs.LaysC.n172 Tryz.prog laysC172_ren := {
 mixed := by kernel_rfl
 f129 := Tryz.func166.trans (congrArg some (by kernel_rfl))
 f171 := Tryz.func106.trans (congrArg some (by kernel_rfl))
 f172 := Tryz.func120.trans (congrArg some (by kernel_rfl))
 f205 := Tryz.func181.trans (congrArg some (by kernel_rfl))
 f243 := Tryz.func139.trans (congrArg some (by kernel_rfl))
 f244 := Tryz.func146.trans (congrArg some (by kernel_rfl))
 f245 := Tryz.func147.trans (congrArg some (by kernel_rfl))
 f246 := Tryz.func127.trans (congrArg some (by kernel_rfl))
 f247 := Tryz.func159.trans (congrArg some (by kernel_rfl))
 f279 := Tryz.func160.trans (congrArg some (by kernel_rfl))
 f280 := Tryz.func161.trans (congrArg some (by kernel_rfl))
 f281 := Tryz.func162.trans (congrArg some (by kernel_rfl))
 f282 := Tryz.func163.trans (congrArg some (by kernel_rfl))
 f283 := Tryz.func150.trans (congrArg some (by kernel_rfl))
 f284 := Tryz.func151.trans (congrArg some (by kernel_rfl))
 f285 := Tryz.func152.trans (congrArg some (by kernel_rfl))
 f286 := Tryz.func153.trans (congrArg some (by kernel_rfl))
 f287 := Tryz.func179.trans (congrArg some (by kernel_rfl))
 f316 := Tryz.func180.trans (congrArg some (by kernel_rfl))
 f317 := Tryz.func165.trans (congrArg some (by kernel_rfl))
 f318 := Tryz.func167.trans (congrArg some (by kernel_rfl))
 f319 := Tryz.func168.trans (congrArg some (by kernel_rfl))
 f320 := Tryz.func169.trans (congrArg some (by kernel_rfl))
 f321 := Tryz.func187.trans (congrArg some (by kernel_rfl))
 f322 := Tryz.func188.trans (congrArg some (by kernel_rfl))
 f337 := Tryz.func182.trans (congrArg some (by kernel_rfl))
 f338 := Tryz.func183.trans (congrArg some (by kernel_rfl))
 t0 := Tryz.underlying0
 a0 := Tryz.isAgg0
 z0 := Tryz.sizeOf0
 v0 := Tryz.zeroValue0
 t2 := Tryz.underlying2
 a2 := Tryz.isAgg2
 z2 := Tryz.sizeOf2
 v2 := Tryz.zeroValue2
 t3 := Tryz.underlying3
 a3 := Tryz.isAgg3
 z3 := Tryz.sizeOf3
 v3 := Tryz.zeroValue3
 t4 := Tryz.underlying4
 a4 := Tryz.isAgg4
 z4 := Tryz.sizeOf4
 v4 := Tryz.zeroValue4
 t5 := Tryz.underlying5
 a5 := Tryz.isAgg5
 z5 := Tryz.sizeOf5
 v5 := Tryz.zeroValue5
 t9 := Tryz.underlying9
 a9 := Tryz.isAgg9
 z9 := Tryz.sizeOf9
 v9 := Tryz.zeroValue9
 t20 := Tryz.underlying20
 a20 := Tryz.isAgg20
 z20 := Tryz.sizeOf20
 v20 := Tryz.zeroValue20
 t21 := Tryz.underlying21
 a21 := Tryz.isAgg21
 z21 := Tryz.sizeOf21
 v21 := Tryz.zeroValue21
 t37 := Tryz.underlying88
 a37 := Tryz.isAgg88
 z37 := Tryz.sizeOf88
 v37 := Tryz.zeroValue88
 t46 := Tryz.underlying167
 a46 := Tryz.isAgg167
 z46 := Tryz.sizeOf167
 v46 := Tryz.zeroValue167
 t51 := Tryz.underlying239
 a51 := Tryz.isAgg239
 z51 := Tryz.sizeOf239
 v51 := Tryz.zeroValue239
 t53 := Tryz.underlying22
 a53 := Tryz.isAgg22
 z53 := Tryz.sizeOf22
 v53 := Tryz.zeroValue22
 t75 := Tryz.underlying185
 a75 := Tryz.isAgg185
 z75 := Tryz.sizeOf185
 v75 := Tryz.zeroValue185
 t76 := Tryz.underlying186
 a76 := Tryz.isAgg186
 z76 := Tryz.sizeOf186
 v76 := Tryz.zeroValue186
 t85 := Tryz.underlying231
 a85 := Tryz.isAgg231
 z85 := Tryz.sizeOf231
 v85 := Tryz.zeroValue231
 t127 := Tryz.underlying225
 a127 := Tryz.isAgg225
 z127 := Tryz.sizeOf225
 v127 := Tryz.zeroValue225
 t143 := Tryz.underlying257
 a143 := Tryz.isAgg257
 z143 := Tryz.sizeOf257
 v143 := Tryz.zeroValue257
 t145 := Tryz.underlying259
 a145 := Tryz.isAgg259
 z145 := Tryz.sizeOf259
 v145 := Tryz.zeroValue259
 t167 := Tryz.underlying230
 a167 := Tryz.isAgg230
 z167 := Tryz.sizeOf230
 v167 := Tryz.zeroValue230
 t168 := Tryz.underlying233
 a168 := Tryz.isAgg233
 z168 := Tryz.sizeOf233
 v168 := Tryz.zeroValue233
 t171 := Tryz.underlying220
 a171 := Tryz.isAgg220
 z171 := Tryz.sizeOf220
 v171 := Tryz.zeroValue220
 t173 := Tryz.underlying223
 a173 := Tryz.isAgg223
 z173 := Tryz.sizeOf223
 v173 := Tryz.zeroValue223
 t175 := Tryz.underlying247
 a175 := Tryz.isAgg247
 z175 := Tryz.sizeOf247
 v175 := Tryz.zeroValue247
 t210 := Tryz.underlying251
 a210 := Tryz.isAgg251
 z210 := Tryz.sizeOf251
 v210 := Tryz.zeroValue251
 t212 := Tryz.underlying238
 a212 := Tryz.isAgg238
 z212 := Tryz.sizeOf238
 v212 := Tryz.zeroValue238
 t213 := Tryz.underlying240
 a213 := Tryz.isAgg240
 z213 := Tryz.sizeOf240
 t232 := Tryz.underlying260
 a232 := Tryz.isAgg260
 z232 := Tryz.sizeOf260
 v232 := Tryz.zeroValue260
 t233 := Tryz.underlying261
 a233 := Tryz.isAgg261
 z233 := Tryz.sizeOf261
 v233 := Tryz.zeroValue261
 g15 := by kernel_rfl
 g16 := by kernel_rfl
 g17 := by kernel_rfl
 g18 := by kernel_rfl
 g19 := by kernel_rfl
 t80 := Tryz.underlying202
 a80 := Tryz.isAgg202
 z80 := Tryz.sizeOf202
 v80 := Tryz.zeroValue202
 i0 := by kernel_rfl
 i2 := by kernel_rfl
 i3 := by kernel_rfl
 i4 := by kernel_rfl
 i5 := by kernel_rfl
 i9 := by kernel_rfl
 i20 := by kernel_rfl
 i21 := by kernel_rfl
 i37 := by kernel_rfl
 i46 := by kernel_rfl
 i51 := by kernel_rfl
 i53 := by kernel_rfl
 i75 := by kernel_rfl
 i76 := by kernel_rfl
 i80 := by kernel_rfl
 i85 := by kernel_rfl
 i127 := by kernel_rfl
 i143 := by kernel_rfl
 i145 := by kernel_rfl
 i167 := by kernel_rfl
 i168 := by kernel_rfl
 i171 := by kernel_rfl
 i173 := by kernel_rfl
 i175 := by kernel_rfl
 i210 := by kernel_rfl
 i212 := by kernel_rfl
 i232 := by kernel_rfl
 i233 := by kernel_rfl
 m15 := by kernel_rfl
 m16 := by kernel_rfl
 m17 := by kernel_rfl
 m18 := by kernel_rfl
 m19 := by kernel_rfl
 c0 := by kernel_rfl
 c2 := by kernel_rfl
 c3 := by kernel_rfl
 c4 := by kernel_rfl
 c5 := by kernel_rfl
 c9 := by kernel_rfl
 c20 := by kernel_rfl
 c21 := by kernel_rfl
 c37 := by kernel_rfl
 c46 := by kernel_rfl
 c51 := by kernel_rfl
 c53 := by kernel_rfl
 c75 := by kernel_rfl
 c76 := by kernel_rfl
 c80 := by kernel_rfl
 c85 := by kernel_rfl
 c127 := by kernel_rfl
 c143 := by kernel_rfl
 c145 := by kernel_rfl
 c167 := by kernel_rfl
 c168 := by kernel_rfl
 c171 := by kernel_rfl
 c173 := by kernel_rfl
 c175 := by kernel_rfl
 c210 := by kernel_rfl
 c212 := by kernel_rfl
 c213 := by kernel_rfl
 c232 := by kernel_rfl
 c233 := by kernel_rfl }
def lays219_ren : Go.Shelf.Ren := ⟨fun | 219 => 158 | 217 => 175 | 225 => 176 | 224 => 177 | 267 => 178 | 266 => 185 | 314 => 186 | n => n, fun | 9 => 9 | 3 => 3 | 4 => 4 | 5 => 5 | 46 => 167 | 146 => 254 | 51 => 239 | n => n, fun | 1 => 2 | n => n⟩
theorem lays219 : Go.Proofs.Lays.n219 Tryz.prog lays219_ren := {
 mixed := by kernel_rfl
 f217 := Tryz.func175.trans (congrArg some (by kernel_rfl))
 f219 := Tryz.func158.trans (congrArg some (by kernel_rfl))
 f224 := Tryz.func177.trans (congrArg some (by kernel_rfl))
 f225 := Tryz.func176.trans (congrArg some (by kernel_rfl))
 f266 := Tryz.func185.trans (congrArg some (by kernel_rfl))
 f267 := Tryz.func178.trans (congrArg some (by kernel_rfl))
 f314 := Tryz.func186.trans (congrArg some (by kernel_rfl))
 t3 := Tryz.underlying3
 a3 := Tryz.isAgg3
 z3 := Tryz.sizeOf3
 v3 := Tryz.zeroValue3
 t4 := Tryz.underlying4
 a4 := Tryz.isAgg4
 z4 := Tryz.sizeOf4
 v4 := Tryz.zeroValue4
 t5 := Tryz.underlying5
 a5 := Tryz.isAgg5
 z5 := Tryz.sizeOf5
 v5 := Tryz.zeroValue5
 t9 := Tryz.underlying9
 a9 := Tryz.isAgg9
 z9 := Tryz.sizeOf9
 v9 := Tryz.zeroValue9
 t46 := Tryz.underlying167
 a46 := Tryz.isAgg167
 z46 := Tryz.sizeOf167
 v46 := Tryz.zeroValue167
 t51 := Tryz.underlying239
 a51 := Tryz.isAgg239
 z51 := Tryz.sizeOf239
 v51 := Tryz.zeroValue239
 t146 := Tryz.underlying254
 a146 := Tryz.isAgg254
 z146 := Tryz.sizeOf254
 v146 := Tryz.zeroValue254
 g1 := by kernel_rfl }
end Go.Proofs.YtmpilgkfbibhlaaGreatDoor
