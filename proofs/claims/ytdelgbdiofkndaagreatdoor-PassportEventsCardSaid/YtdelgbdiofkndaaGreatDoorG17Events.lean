/-
  Contracts of Go's library, laid for this program.
-/
import Derived.Test.YtdelgbdiofkndaaGreatDoorProg
import Derived.Shelf.Strings.Builder1
import Derived.Shelf.Strings.Builder2
import Derived.Shelf.Strings.OnBuilder
import Derived.Shelf.Utf8.RuneCount
import Derived.Shelf.Strconv.Atoi
import Derived.Shelf.Strconv.Itoa0
import Derived.Shelf.Strconv.Itoa1
import Derived.Shelf.LaysM
import Derived.Shelf.Strconv.Itoa2
import Derived.Shelf.Strconv.Itoa3
import Derived.Shelf.Strconv.Itoa4
import Derived.Shelf.Bytes.Len
import Derived.Shelf.Bytes.TryGrow
import Derived.Shelf.Bytes.GrowSliceCatch
import Derived.Shelf.Bytes.GrowSlice
import Derived.Shelf.Bytes.GrowRow0
import Derived.Shelf.Bytes.GrowRow
import Derived.Shelf.Bytes.GrowNil
import Derived.Shelf.Bytes.Grow
import Derived.Shelf.Bytes.WriteByte
import Derived.Shelf.Bytes.WriteString
import Derived.Shelf.Bytes.Bytes
import Derived.Shelf.Strconv.AtoiErrFast
import Derived.Shelf.Strconv.ParseIntEmpty
import Derived.Shelf.Strconv.AtoiFail
import Derived.Shelf.Strconv.Clone
import Derived.Shelf.Strconv.SyntaxError
import Derived.Shelf.LaysC
import Derived.Shelf.Strconv.ToError
import Derived.Shelf.Strconv.Lower
import Derived.Shelf.Strconv.ParseUint10
import Derived.Shelf.Strconv.ParseUint10Empty
import Derived.Shelf.Strconv.ParseUint10Any
import Derived.Shelf.Strconv.ParseInt10
import Derived.Shelf.Strconv.AtoiLong
import Derived.Shelf.Strconv.AtoiInnerAll
import Derived.Shelf.Strconv.RangeError
import Derived.Shelf.Strconv.ToErrorRange
import Derived.Shelf.Strconv.AtoiAll
import Derived.Shelf.Strconv.ErrVarAll
import Derived.Shelf.Strconv.ParseUintEmpty
import Derived.Shelf.Strconv.ParseUint10b64
import Derived.Shelf.Strconv.ParseUint10b32
import Derived.Shelf.Strconv.ParseUint10b16
import Derived.Shelf.Strconv.ParseUint10b8
import Derived.Shelf.Strconv.ParseUint10At
import Derived.Shelf.Strconv.ParseInt10At64
import Derived.Shelf.Strconv.ParseInt10At32
import Derived.Shelf.Strconv.ParseInt10At16
import Derived.Shelf.Strconv.ParseInt10At8
import Derived.Shelf.Strconv.ParseInt10All
import Derived.Shelf.Strconv.ParseIntPublic10
import Derived.Shelf.Strconv.ErrVarParseInt
import Derived.Shelf.Strings.Search1
import Derived.Shelf.Strings.Search2
import Derived.Shelf.Strings.Search3
import Derived.Shelf.Strings.Cut
import Derived.Shelf.Strings.Count
import Derived.Shelf.Strings.Shaped
import Derived.Shelf.Strings.Split
import Derived.Shelf.Strings.SplitShaped
import Derived.Shelf.Unicode.Decode
import Derived.Shelf.Strings.RuneCount
import Derived.Shelf.Strings.Explode
import Derived.Shelf.Unicode.DecodeSlow
import Derived.Shelf.Unicode.DecodeAny
import Derived.Test.YtdelgbdiofkndaaGreatDoorG11Events
import Derived.Lib.ParseIntB
import Derived.Lib.IndexLaws
import Derived.Lib.IndexMore
import Derived.Lib.ItoaLen
import Derived.Test.YtdelgbdiofkndaaGreatDoorG2Events
import Derived.Test.YtdelgbdiofkndaaGreatDoorG3Events
import Derived.Lib.AtoiErrMem
import Derived.Test.YtdelgbdiofkndaaGreatDoorG0Events
import Derived.Deep.QuietTactic
set_option linter.unusedSimpArgs false
set_option linter.unusedVariables false
namespace Go.Proofs.YtdelgbdiofkndaaGreatDoor
open Go.Shelf
def laysC174_ren : Go.Shelf.Ren := ⟨fun | 174 => 27 | 247 => 48 | 245 => 49 | 287 => 63 | 279 => 64 | 280 => 65 | 281 => 66 | 282 => 67 | 321 => 86 | 322 => 87 | 316 => 88 | 171 => 74 | 205 => 89 | 243 => 93 | 246 => 42 | 283 => 54 | 284 => 55 | 285 => 56 | 286 => 57 | 129 => 76 | 317 => 75 | 318 => 77 | 319 => 78 | 320 => 79 | 337 => 94 | 338 => 95 | n => n, fun | 9 => 9 | 3 => 3 | 2 => 2 | 75 => 54 | 85 => 55 | 4 => 4 | 167 => 106 | 5 => 5 | 53 => 37 | 175 => 107 | 46 => 109 | 168 => 110 | 37 => 26 | 0 => 0 | 210 => 134 | 21 => 21 | 127 => 103 | 145 => 139 | 143 => 137 | 171 => 98 | 173 => 101 | 212 => 119 | 51 => 120 | 20 => 20 | 213 => 121 | 232 => 140 | 233 => 141 | 80 => 86 | n => n, fun | 15 => 2 | 16 => 3 | 17 => 1 | 18 => 5 | 19 => 6 | n => n⟩
theorem laysC174 : Go.Proofs.LaysC.n174 Tryz.prog laysC174_ren := {
  mixed := by kernel_rfl
  f129 := Tryz.func76.trans (congrArg some (by kernel_rfl))
  f171 := Tryz.func74.trans (congrArg some (by kernel_rfl))
  f174 := Tryz.func27.trans (congrArg some (by kernel_rfl))
  f205 := Tryz.func89.trans (congrArg some (by kernel_rfl))
  f243 := Tryz.func93.trans (congrArg some (by kernel_rfl))
  f245 := Tryz.func49.trans (congrArg some (by kernel_rfl))
  f246 := Tryz.func42.trans (congrArg some (by kernel_rfl))
  f247 := Tryz.func48.trans (congrArg some (by kernel_rfl))
  f279 := Tryz.func64.trans (congrArg some (by kernel_rfl))
  f280 := Tryz.func65.trans (congrArg some (by kernel_rfl))
  f281 := Tryz.func66.trans (congrArg some (by kernel_rfl))
  f282 := Tryz.func67.trans (congrArg some (by kernel_rfl))
  f283 := Tryz.func54.trans (congrArg some (by kernel_rfl))
  f284 := Tryz.func55.trans (congrArg some (by kernel_rfl))
  f285 := Tryz.func56.trans (congrArg some (by kernel_rfl))
  f286 := Tryz.func57.trans (congrArg some (by kernel_rfl))
  f287 := Tryz.func63.trans (congrArg some (by kernel_rfl))
  f316 := Tryz.func88.trans (congrArg some (by kernel_rfl))
  f317 := Tryz.func75.trans (congrArg some (by kernel_rfl))
  f318 := Tryz.func77.trans (congrArg some (by kernel_rfl))
  f319 := Tryz.func78.trans (congrArg some (by kernel_rfl))
  f320 := Tryz.func79.trans (congrArg some (by kernel_rfl))
  f321 := Tryz.func86.trans (congrArg some (by kernel_rfl))
  f322 := Tryz.func87.trans (congrArg some (by kernel_rfl))
  f337 := Tryz.func94.trans (congrArg some (by kernel_rfl))
  f338 := Tryz.func95.trans (congrArg some (by kernel_rfl))
  t0 := Tryz.underlying0
  a0 := Tryz.isAgg0
  z0 := Tryz.sizeOf0
  v0 := Tryz.zeroValue0
  t2 := Tryz.underlying2
  a2 := Tryz.isAgg2
  z2 := Tryz.sizeOf2
  v2 := Tryz.zeroValue2
  t3 := Tryz.underlying3
  a3 := Tryz.isAgg3
  z3 := Tryz.sizeOf3
  v3 := Tryz.zeroValue3
  t4 := Tryz.underlying4
  a4 := Tryz.isAgg4
  z4 := Tryz.sizeOf4
  v4 := Tryz.zeroValue4
  t5 := Tryz.underlying5
  a5 := Tryz.isAgg5
  z5 := Tryz.sizeOf5
  v5 := Tryz.zeroValue5
  t9 := Tryz.underlying9
  a9 := Tryz.isAgg9
  z9 := Tryz.sizeOf9
  v9 := Tryz.zeroValue9
  t20 := Tryz.underlying20
  a20 := Tryz.isAgg20
  z20 := Tryz.sizeOf20
  v20 := Tryz.zeroValue20
  t21 := Tryz.underlying21
  a21 := Tryz.isAgg21
  z21 := Tryz.sizeOf21
  v21 := Tryz.zeroValue21
  t37 := Tryz.underlying26
  a37 := Tryz.isAgg26
  z37 := Tryz.sizeOf26
  v37 := Tryz.zeroValue26
  t46 := Tryz.underlying109
  a46 := Tryz.isAgg109
  z46 := Tryz.sizeOf109
  v46 := Tryz.zeroValue109
  t51 := Tryz.underlying120
  a51 := Tryz.isAgg120
  z51 := Tryz.sizeOf120
  v51 := Tryz.zeroValue120
  t53 := Tryz.underlying37
  a53 := Tryz.isAgg37
  z53 := Tryz.sizeOf37
  v53 := Tryz.zeroValue37
  t75 := Tryz.underlying54
  a75 := Tryz.isAgg54
  z75 := Tryz.sizeOf54
  v75 := Tryz.zeroValue54
  t85 := Tryz.underlying55
  a85 := Tryz.isAgg55
  z85 := Tryz.sizeOf55
  v85 := Tryz.zeroValue55
  t127 := Tryz.underlying103
  a127 := Tryz.isAgg103
  z127 := Tryz.sizeOf103
  v127 := Tryz.zeroValue103
  t143 := Tryz.underlying137
  a143 := Tryz.isAgg137
  z143 := Tryz.sizeOf137
  v143 := Tryz.zeroValue137
  t145 := Tryz.underlying139
  a145 := Tryz.isAgg139
  z145 := Tryz.sizeOf139
  v145 := Tryz.zeroValue139
  t167 := Tryz.underlying106
  a167 := Tryz.isAgg106
  z167 := Tryz.sizeOf106
  v167 := Tryz.zeroValue106
  t168 := Tryz.underlying110
  a168 := Tryz.isAgg110
  z168 := Tryz.sizeOf110
  v168 := Tryz.zeroValue110
  t171 := Tryz.underlying98
  a171 := Tryz.isAgg98
  z171 := Tryz.sizeOf98
  v171 := Tryz.zeroValue98
  t173 := Tryz.underlying101
  a173 := Tryz.isAgg101
  z173 := Tryz.sizeOf101
  v173 := Tryz.zeroValue101
  t175 := Tryz.underlying107
  a175 := Tryz.isAgg107
  z175 := Tryz.sizeOf107
  v175 := Tryz.zeroValue107
  t210 := Tryz.underlying134
  a210 := Tryz.isAgg134
  z210 := Tryz.sizeOf134
  v210 := Tryz.zeroValue134
  t212 := Tryz.underlying119
  a212 := Tryz.isAgg119
  z212 := Tryz.sizeOf119
  v212 := Tryz.zeroValue119
  t213 := Tryz.underlying121
  a213 := Tryz.isAgg121
  z213 := Tryz.sizeOf121
  t232 := Tryz.underlying140
  a232 := Tryz.isAgg140
  z232 := Tryz.sizeOf140
  v232 := Tryz.zeroValue140
  t233 := Tryz.underlying141
  a233 := Tryz.isAgg141
  z233 := Tryz.sizeOf141
  v233 := Tryz.zeroValue141
  g15 := by kernel_rfl
  g16 := by kernel_rfl
  g17 := by kernel_rfl
  g18 := by kernel_rfl
  g19 := by kernel_rfl
  t80 := Tryz.underlying86
  a80 := Tryz.isAgg86
  z80 := Tryz.sizeOf86
  v80 := Tryz.zeroValue86
  i0 := by kernel_rfl
  i2 := by kernel_rfl
  i3 := by kernel_rfl
  i4 := by kernel_rfl
  i5 := by kernel_rfl
  i9 := by kernel_rfl
  i20 := by kernel_rfl
  i21 := by kernel_rfl
  i37 := by kernel_rfl
  i46 := by kernel_rfl
  i51 := by kernel_rfl
  i53 := by kernel_rfl
  i75 := by kernel_rfl
  i80 := by kernel_rfl
  i85 := by kernel_rfl
  i127 := by kernel_rfl
  i143 := by kernel_rfl
  i145 := by kernel_rfl
  i167 := by kernel_rfl
  i168 := by kernel_rfl
  i171 := by kernel_rfl
  i173 := by kernel_rfl
  i175 := by kernel_rfl
  i210 := by kernel_rfl
  i212 := by kernel_rfl
  i232 := by kernel_rfl
  i233 := by kernel_rfl
  m15 := by kernel_rfl
  m16 := by kernel_rfl
  m17 := by kernel_rfl
  m18 := by kernel_rfl
  m19 := by kernel_rfl
  c0 := by kernel_rfl
  c2 := by kernel_rfl
  c3 := by kernel_rfl
  c4 := by kernel_rfl
  c5 := by kernel_rfl
  c9 := by kernel_rfl
  c20 := by kernel_rfl
  c21 := by kernel_rfl
  c37 := by kernel_rfl
  c46 := by kernel_rfl
  c51 := by kernel_rfl
  c53 := by kernel_rfl
  c75 := by kernel_rfl
  c80 := by kernel_rfl
  c85 := by kernel_rfl
  c127 := by kernel_rfl
  c143 := by kernel_rfl
  c145 := by kernel_rfl
  c167 := by kernel_rfl
  c168 := by kernel_rfl
  c171 := by kernel_rfl
  c173 := by kernel_rfl
  c175 := by kernel_rfl
  c210 := by kernel_rfl
  c212 := by kernel_rfl
  c213 := by kernel_rfl
  c232 := by kernel_rfl
  c233 := by kernel_rfl }
def lays146_ren : Go.Shelf.Ren := ⟨fun | 146 => 25 | 221 => 47 | 268 => 60 | 138 => 61 | 143 => 62 | 195 => 82 | 197 => 83 | 218 => 84 | 219 => 85 | 260 => 96 | 217 => 97 | 225 => 98 | 224 => 99 | 267 => 100 | 266 => 101 | 314 => 102 | n => n, fun | 9 => 9 | 31 => 47 | 3 => 3 | 4 => 4 | 0 => 0 | 105 => 128 | 21 => 21 | 5 => 5 | 46 => 109 | 119 => 142 | 139 => 145 | 138 => 144 | 146 => 146 | 51 => 120 | n => n, fun | 1 => 4 | 3 => 7 | 4 => 8 | n => n⟩
theorem lays146 : Go.Proofs.Lays.n146 Tryz.prog lays146_ren := {
  mixed := by kernel_rfl
  f138 := Tryz.func61.trans (congrArg some (by kernel_rfl))
  f143 := Tryz.func62.trans (congrArg some (by kernel_rfl))
  f146 := Tryz.func25.trans (congrArg some (by kernel_rfl))
  f195 := Tryz.func82.trans (congrArg some (by kernel_rfl))
  f197 := Tryz.func83.trans (congrArg some (by kernel_rfl))
  f217 := Tryz.func97.trans (congrArg some (by kernel_rfl))
  f218 := Tryz.func84.trans (congrArg some (by kernel_rfl))
  f219 := Tryz.func85.trans (congrArg some (by kernel_rfl))
  f221 := Tryz.func47.trans (congrArg some (by kernel_rfl))
  f224 := Tryz.func99.trans (congrArg some (by kernel_rfl))
  f225 := Tryz.func98.trans (congrArg some (by kernel_rfl))
  f260 := Tryz.func96.trans (congrArg some (by kernel_rfl))
  f266 := Tryz.func101.trans (congrArg some (by kernel_rfl))
  f267 := Tryz.func100.trans (congrArg some (by kernel_rfl))
  f268 := Tryz.func60.trans (congrArg some (by kernel_rfl))
  f314 := Tryz.func102.trans (congrArg some (by kernel_rfl))
  t0 := Tryz.underlying0
  a0 := Tryz.isAgg0
  z0 := Tryz.sizeOf0
  v0 := Tryz.zeroValue0
  t3 := Tryz.underlying3
  a3 := Tryz.isAgg3
  z3 := Tryz.sizeOf3
  v3 := Tryz.zeroValue3
  t4 := Tryz.underlying4
  a4 := Tryz.isAgg4
  z4 := Tryz.sizeOf4
  v4 := Tryz.zeroValue4
  t5 := Tryz.underlying5
  a5 := Tryz.isAgg5
  z5 := Tryz.sizeOf5
  v5 := Tryz.zeroValue5
  t9 := Tryz.underlying9
  a9 := Tryz.isAgg9
  z9 := Tryz.sizeOf9
  v9 := Tryz.zeroValue9
  t21 := Tryz.underlying21
  a21 := Tryz.isAgg21
  z21 := Tryz.sizeOf21
  v21 := Tryz.zeroValue21
  t31 := Tryz.underlying47
  a31 := Tryz.isAgg47
  z31 := Tryz.sizeOf47
  v31 := Tryz.zeroValue47
  t46 := Tryz.underlying109
  a46 := Tryz.isAgg109
  z46 := Tryz.sizeOf109
  v46 := Tryz.zeroValue109
  t51 := Tryz.underlying120
  a51 := Tryz.isAgg120
  z51 := Tryz.sizeOf120
  v51 := Tryz.zeroValue120
  t105 := Tryz.underlying128
  a105 := Tryz.isAgg128
  z105 := Tryz.sizeOf128
  v105 := Tryz.zeroValue128
  t119 := Tryz.underlying142
  a119 := Tryz.isAgg142
  z119 := Tryz.sizeOf142
  t138 := Tryz.underlying144
  a138 := Tryz.isAgg144
  z138 := Tryz.sizeOf144
  v138 := Tryz.zeroValue144
  t139 := Tryz.underlying145
  a139 := Tryz.isAgg145
  z139 := Tryz.sizeOf145
  v139 := Tryz.zeroValue145
  t146 := Tryz.underlying146
  a146 := Tryz.isAgg146
  z146 := Tryz.sizeOf146
  v146 := Tryz.zeroValue146
  g1 := by kernel_rfl
  g3 := by kernel_rfl
  g4 := by kernel_rfl }
end Go.Proofs.YtdelgbdiofkndaaGreatDoor

/-
  Decimal numbers and spans as texts: the plain law.
-/
set_option linter.unusedSimpArgs false
set_option linter.unusedVariables false
namespace Go.Proofs.YtdelgbdiofkndaaGreatDoor

theorem dec_lt {u k : Nat} (h : (Lib.decDigits u).length ≤ k) : u < 10 ^ k := by
  rw [Lib.decDigits_length] at h
  exact Nat.lt_of_lt_of_le (Lib.lt_pow_nDigits u) (Nat.pow_le_pow_right (by decide) h)
theorem dec_le : ∀ {k u : Nat}, 1 ≤ k → u < 10 ^ k → (Lib.decDigits u).length ≤ k
  | 0, _, h, _ => absurd h (by decide)
  | k + 1, u, _, h => by
    by_cases hu : u < 10
    · rw [Lib.decDigits_one hu]; simp
    · rw [dec_step hu]
      have hk : 1 ≤ k := by
        rcases Nat.eq_zero_or_pos k with rfl | hk
        · simp at h; omega
        · exact hk
      have := dec_le hk (u := u / 10) (by rw [Nat.pow_succ] at h; omega)
      simp only [List.length_append, List.length_cons, List.length_nil]
      omega
theorem itoa_cases (n : Int) : (∃ u : Nat, n = u ∧ Lib.itoa n = Lib.decDigits u) ∨ (∃ u : Nat, 1 ≤ u ∧ n = -(u : Int) ∧ Lib.itoa n = 45 :: Lib.decDigits u) := by
  rcases Int.lt_or_le n 0 with h | h
  · obtain ⟨u, hu⟩ := Int.eq_ofNat_of_zero_le (show 0 ≤ -n by omega)
    have e : n = -(u : Int) := by omega
    exact .inr ⟨u, by omega, e, by rw [e]; exact Lib.itoa_neg u (by omega)⟩
  · obtain ⟨u, hu⟩ := Int.eq_ofNat_of_zero_le h
    exact .inl ⟨u, hu, by rw [hu]; exact Lib.itoa_nonneg u⟩
theorem dec_head {u : Nat} {c : UInt8} {r : List UInt8} (h : Lib.decDigits u = c :: r) : 48 ≤ c.toNat ∧ c.toNat ≤ 57 := dec_plain u c (by rw [h]; exact List.mem_cons_self ..)
theorem itoa_all {n : Int} : ∀ c ∈ Lib.itoa n, c.toNat = 45 ∨ (48 ≤ c.toNat ∧ c.toNat ≤ 57) := by
  intro c hc
  rcases itoa_cases n with ⟨u, -, e⟩ | ⟨u, -, -, e⟩
  · rw [e] at hc; exact .inr (dec_plain u c hc)
  · rw [e] at hc
    rcases List.mem_cons.1 hc with rfl | hc
    · exact .inl rfl
    · exact .inr (dec_plain u c hc)
theorem itoa_ne' (n : Int) : Lib.itoa n ≠ [] := by
  rcases itoa_cases n with ⟨u, -, e⟩ | ⟨u, -, -, e⟩
  · rw [e]; exact dec_ne u
  · rw [e]; simp
theorem itoaI {m n : Int} (h : Lib.itoa m = Lib.itoa n) : m = n := by
  rcases itoa_cases m with ⟨u, e1, e2⟩ | ⟨u, -, e1, e2⟩ <;> rcases itoa_cases n with ⟨v, f1, f2⟩ | ⟨v, -, f1, f2⟩ <;> rw [e2, f2] at h
  · have := dec_inj h; omega
  · have := dec_head h; exact absurd this.1 (by decide)
  · have := dec_head h.symm; exact absurd this.1 (by decide)
  · have := dec_inj (List.cons.inj h).2; omega
theorem itoa_len {n : Int} {k : Nat} (h1 : -(10 ^ k : Nat) < n) (h2 : n < (10 ^ k : Nat)) (hk : 1 ≤ k) : (Lib.itoa n).length ≤ k + 1 := by
  rcases itoa_cases n with ⟨u, e1, e2⟩ | ⟨u, -, e1, e2⟩
  · rw [e2]; have := dec_le hk (u := u) (by omega); omega
  · rw [e2]; have := dec_le hk (u := u) (by omega); simp only [List.length_cons]; omega
theorem itoa_small {n : Int} {k : Nat} (h : (Lib.itoa n).length ≤ k) : -(10 ^ k : Nat) < n ∧ n < (10 ^ k : Nat) := by
  rcases itoa_cases n with ⟨u, e1, e2⟩ | ⟨u, -, e1, e2⟩
  · rw [e2] at h; have := dec_lt h; omega
  · rw [e2] at h
    have : u < 10 ^ k := dec_lt (by simp only [List.length_cons] at h; omega)
    omega

/-! strconv.ParseInt at a decimal number. -/
theorem pM_dec {M u : Nat} (hM : M ≤ 18446744073709551615) (hu : u ≤ M) (r : List UInt8) : Lib.parseUintM M 0 (Lib.decDigits u ++ r) = Lib.parseUintM M u r := by
  induction u using Nat.strongRecOn generalizing r with
  | ind u ih =>
    have h48 : ∀ d, d < 10 → (UInt8.ofNat (48 + d)).toNat = 48 + d := fun d hd => dig_nat hd
    by_cases h : u < 10
    · rw [Lib.decDigits_one h, List.singleton_append, Lib.parseUintM, h48 u h]
      rw [if_pos ⟨by omega, by omega⟩, if_neg (by decide), if_neg (by omega)]
      congr 1; omega
    · rw [dec_step h, List.append_assoc, ih (u / 10) (by omega) (by omega), List.singleton_append, Lib.parseUintM, h48 (u % 10) (by omega)]
      rw [if_pos ⟨by omega, by omega⟩, if_neg (by omega), if_neg (by omega)]
      congr 1; omega
theorem pU_dec {u : Nat} (hu : u ≤ 18446744073709551615) : Lib.parseUintB 64 (Lib.decDigits u) = .ok u := by
  unfold Lib.parseUintB
  rw [if_neg (dec_ne u)]
  have := pM_dec (M := 18446744073709551615) (by decide) hu []
  rw [List.append_nil] at this
  exact this
theorem parse_itoa {n : Int} (h1 : -9223372036854775808 ≤ n) (h2 : n ≤ 9223372036854775807) : Lib.parseIntB 64 (Lib.itoa n) = .ok n := by
  rcases itoa_cases n with ⟨u, e1, e2⟩ | ⟨u, hu, e1, e2⟩
  · rw [e2]
    cases hd : Lib.decDigits u with
    | nil => exact absurd hd (dec_ne u)
    | cons c r =>
      have hc := dec_head hd
      unfold Lib.parseIntB
      have k1 : ¬ (c.toNat = 43 ∨ c.toNat = 45) := by omega
      have k2 : ¬ c.toNat = 45 := by omega
      simp only [if_neg k1]
      rw [← hd, pU_dec (by omega)]
      simp only [k2, not_false_eq_true, true_and, false_and, if_false]
      rw [if_neg (by show ¬ 9223372036854775808 ≤ u; omega)]
      rw [e1]
  · rw [e2]
    unfold Lib.parseIntB
    have k2 : (45 : UInt8).toNat = 45 := rfl
    simp only [k2, or_true, if_true]
    rw [pU_dec (by omega)]
    simp only [not_true_eq_false, false_and, true_and, if_true, if_false]
    rw [if_neg (by show ¬ 9223372036854775808 < u; omega)]
    rw [e1]
theorem parse_bd {l : List UInt8} {v : Int} (h : Lib.parseIntB 64 l = .ok v) : -9223372036854775808 ≤ v ∧ v ≤ 9223372036854775807 := by
  unfold Lib.parseIntB at h
  cases l with
  | nil => cases h
  | cons c r =>
    dsimp only at h
    split at h
    · cases h
    · cases h
    · rename_i u hu
      split at h
      · cases h
      · rename_i h1
        split at h
        · cases h
        · rename_i h2
          injection h with h
          by_cases hn : c.toNat = 45
          · rw [if_pos hn] at h
            have : ¬ 9223372036854775808 < u := fun q => h2 ⟨hn, q⟩
            omega
          · rw [if_neg hn] at h
            have : ¬ 9223372036854775808 ≤ u := fun q => h1 ⟨hn, q⟩
            omega
/-- The number that a text is, if it is one. -/
def rd (l : List UInt8) : Option Int := match Lib.parseIntB 64 l with
  | .ok v => if Lib.itoa v = l then some v else none
  | _ => none
theorem rd_iff {l : List UInt8} {v : Int} : rd l = some v ↔ (Lib.itoa v = l ∧ -9223372036854775808 ≤ v ∧ v ≤ 9223372036854775807) := by
  constructor
  · intro h
    unfold rd at h
    split at h
    · rename_i u hu
      split at h
      · rename_i he
        obtain rfl := Option.some.inj h
        exact ⟨he, parse_bd hu⟩
      · cases h
    · cases h
  · rintro ⟨rfl, h1, h2⟩
    unfold rd
    rw [parse_itoa h1 h2]
    simp

/-! The reference's Number. -/
def nvF (l : List UInt8) : Nat := l.foldl (fun s c => if 48 ≤ c.toNat ∧ c.toNat ≤ 57 then 10 * s + (c.toNat - 48) else s) 0
def sv (l : List UInt8) : Int := if l.head? = some 45 then -(nvF l : Int) else nvF l
theorem nvF_snoc (l : List UInt8) (c : UInt8) : nvF (l ++ [c]) = if 48 ≤ c.toNat ∧ c.toNat ≤ 57 then 10 * nvF l + (c.toNat - 48) else nvF l := by simp [nvF]
theorem fold_lt : ∀ (l : List UInt8) (s : Nat), l.foldl (fun s c => if 48 ≤ c.toNat ∧ c.toNat ≤ 57 then 10 * s + (c.toNat - 48) else s) s < (s + 1) * 10 ^ l.length
  | [], s => by simp
  | c :: l, s => by
    rw [List.foldl_cons]
    refine Nat.lt_of_lt_of_le (fold_lt l _) ?_
    rw [List.length_cons, Nat.pow_succ, Nat.mul_comm (10 ^ l.length) 10, ← Nat.mul_assoc]
    refine Nat.mul_le_mul_right _ ?_
    split <;> omega
theorem nvF_lt (l : List UInt8) : nvF l < 10 ^ l.length := by have := fold_lt l 0; simpa [nvF] using this
theorem nvF_dec (u : Nat) : nvF (Lib.decDigits u) = u := by
  have h : ∀ (l : List UInt8), (∀ c ∈ l, 48 ≤ c.toNat ∧ c.toNat ≤ 57) → ∀ s, l.foldl (fun s c => if 48 ≤ c.toNat ∧ c.toNat ≤ 57 then 10 * s + (c.toNat - 48) else s) s = l.foldl (fun s c => 10 * s + (c.toNat - 48)) s := by
    intro l
    induction l with
    | nil => intro _ s; rfl
    | cons c l ih =>
      intro hl s
      rw [List.foldl_cons, List.foldl_cons, if_pos (hl c (List.mem_cons_self ..))]
      exact ih (fun d hd => hl d (List.mem_cons_of_mem _ hd)) _
  unfold nvF
  rw [h _ (dec_plain u) 0]
  exact dval_dec u
theorem sv_itoa (n : Int) : sv (Lib.itoa n) = n := by
  rcases itoa_cases n with ⟨u, e1, e2⟩ | ⟨u, -, e1, e2⟩
  · rw [e2]
    unfold sv
    rw [nvF_dec, if_neg ?_, e1]
    intro h
    cases hd : Lib.decDigits u with
    | nil => exact absurd hd (dec_ne u)
    | cons c r =>
      rw [hd] at h
      have hc := dec_head hd
      simp only [List.head?_cons, Option.some.injEq] at h
      rw [h] at hc
      exact absurd hc.1 (by decide)
  · rw [e2]
    unfold sv
    rw [if_pos (show (45 :: Lib.decDigits u).head? = some 45 from rfl), e1]
    have : nvF (45 :: Lib.decDigits u) = nvF (Lib.decDigits u) := by simp [nvF]
    rw [this, nvF_dec]
/-- What Number answers: whether a text of at most 14 characters is a number. -/
def isN (l : List UInt8) : Bool := decide (l.length ≤ 14) && decide (Lib.itoa (sv l) = l)
theorem isN_iff {l : List UInt8} : isN l = true ↔ l.length ≤ 14 ∧ Lib.itoa (sv l) = l := by unfold isN; simp
theorem isN_itoa {n : Int} (h : (Lib.itoa n).length ≤ 14) : isN (Lib.itoa n) = true := isN_iff.2 ⟨h, by rw [sv_itoa]⟩

/-! Spans. -/
def okP (p : Int × Int) : Prop := -1099511627776 ≤ p.1 ∧ p.1 ≤ p.2 ∧ p.2 ≤ 1099511627776
def txtP (p : Int × Int) : List UInt8 := Lib.itoa p.1 ++ 46 :: 46 :: Lib.itoa p.2
theorem no46 {n : Int} : ∀ c ∈ Lib.itoa n, c ≠ 46 := fun c hc e => by
  have := itoa_all c hc
  rw [e] at this
  revert this
  decide
theorem split46 : ∀ {x y a b : List UInt8}, (∀ c ∈ x, c ≠ 46) → (∀ c ∈ y, c ≠ 46) → x ++ 46 :: a = y ++ 46 :: b → x = y ∧ a = b
  | [], [], _, _, _, _, h => ⟨rfl, (List.cons.inj h).2⟩
  | [], c :: y, _, _, _, hy, h => by
    rw [List.nil_append, List.cons_append] at h
    exact absurd (List.cons.inj h).1.symm (hy c (List.mem_cons_self ..))
  | c :: x, [], _, _, hx, _, h => by
    rw [List.nil_append, List.cons_append] at h
    exact absurd (List.cons.inj h).1 (hx c (List.mem_cons_self ..))
  | c :: x, d :: y, _, _, hx, hy, h => by
    rw [List.cons_append, List.cons_append] at h
    obtain ⟨h1, h2⟩ := List.cons.inj h
    obtain ⟨e1, e2⟩ := split46 (fun z hz => hx z (List.mem_cons_of_mem _ hz)) (fun z hz => hy z (List.mem_cons_of_mem _ hz)) h2
    exact ⟨by rw [h1, e1], e2⟩
theorem txtP_inj {p q : Int × Int} (h : txtP p = txtP q) : p = q := by
  unfold txtP at h
  obtain ⟨e1, e2⟩ := split46 (fun c hc => no46 c hc) (fun c hc => no46 c hc) h
  have := itoaI e1
  have := itoaI (List.cons.inj e2).2
  exact Prod.ext (by assumption) (by assumption)
theorem okP_len {n : Int} (h1 : -1099511627776 ≤ n) (h2 : n ≤ 1099511627776) : (Lib.itoa n).length ≤ 14 := itoa_len (k := 13) (by omega) (by omega) (by decide)
open Classical in
noncomputable def parS (l : List UInt8) : Option (Int × Int) := if h : ∃ p, okP p ∧ l = txtP p then some h.choose else none
theorem parS_some {p : Int × Int} (h : okP p) : parS (txtP p) = some p := by
  have hx : ∃ q, okP q ∧ txtP p = txtP q := ⟨p, h, rfl⟩
  unfold parS
  rw [dif_pos hx]
  exact congrArg some (txtP_inj hx.choose_spec.2).symm
theorem parS_none {l : List UInt8} (h : ∀ p, okP p → l ≠ txtP p) : parS l = none := by
  unfold parS
  rw [dif_neg]
  rintro ⟨p, h1, h2⟩
  exact h p h1 h2
/-- Two dots at a place. -/
theorem occ_iff {l : List UInt8} {i : Nat} : Lib.occAt l [46, 46] i = true ↔ ∃ r, l.drop i = 46 :: 46 :: r := by
  unfold Lib.occAt
  rw [List.isPrefixOf_iff_prefix]
  constructor
  · rintro ⟨r, h⟩; exact ⟨r, h.symm⟩
  · rintro ⟨r, h⟩; exact ⟨r, h.symm⟩
theorem occ_txt {l : List UInt8} {i : Nat} {r : List UInt8} (h : l.drop i = 46 :: 46 :: r) (hi : i ≤ l.length) : l = l.take i ++ 46 :: 46 :: r := by
  conv => lhs; rw [← List.take_append_drop i l]
  rw [h]
theorem noOcc_txt {p : Int × Int} {j : Nat} (h : j < (Lib.itoa p.1).length) : Lib.occAt (txtP p) [46, 46] j = false := by
  cases ho : Lib.occAt (txtP p) [46, 46] j
  · rfl
  · exfalso
    obtain ⟨r, hr⟩ := occ_iff.1 ho
    have h1 : (txtP p)[j]? = some 46 := by
      have : ((txtP p).drop j)[0]? = some 46 := by rw [hr]; rfl
      simpa using this
    unfold txtP at h1
    rw [List.getElem?_append_left h] at h1
    have := List.mem_of_getElem? h1
    exact no46 46 this rfl
theorem cut_txt (p : Int × Int) : Lib.cut (txtP p) [46, 46] = (Lib.itoa p.1, Lib.itoa p.2, true) := by
  have hi : Lib.index (txtP p) [46, 46] = (Lib.itoa p.1).length := Lib.index_first (by unfold txtP; simp) (occ_iff.2 ⟨Lib.itoa p.2, by unfold txtP; simp⟩) (fun j hj => noOcc_txt hj)
  unfold Lib.cut
  rw [hi, if_pos (by omega)]
  unfold txtP
  simp
theorem cut_is {l : List UInt8} (h : (Lib.cut l [46, 46]).2.2 = true) : l = (Lib.cut l [46, 46]).1 ++ 46 :: 46 :: (Lib.cut l [46, 46]).2.1 := by
  unfold Lib.cut at h ⊢
  split at h
  · rename_i h0
    rcases Lib.index_spec l [46, 46] with ⟨h1, -⟩ | ⟨i, h1, h2, h3, -⟩
    · omega
    · rw [if_pos h0, h1]
      obtain ⟨r, hr⟩ := occ_iff.1 h3
      simp only [Int.toNat_natCast, List.length_cons, List.length_nil]
      have e : l.drop (i + (0 + 1 + 1)) = r := by
        rw [show i + (0 + 1 + 1) = i + 2 from rfl, ← List.drop_drop, hr]; rfl
      rw [e]
      exact occ_txt hr h2
  · cases h
/-- What Parse makes of a text. -/
theorem par_cut {l a b : List UInt8} {f : Bool} (h : Lib.cut l [46, 46] = (a, b, f)) :
    parS l = (if f = true then (match rd a, rd b with | some x, some y => if -1099511627776 ≤ x ∧ x ≤ y ∧ y ≤ 1099511627776 then some (x, y) else none | _, _ => none) else none) := by
  by_cases hx : ∃ p, okP p ∧ l = txtP p
  · obtain ⟨p, hp, rfl⟩ := hx
    rw [cut_txt] at h
    obtain ⟨rfl, h2⟩ := Prod.mk.inj h
    obtain ⟨rfl, rfl⟩ := Prod.mk.inj h2
    have b1 := hp.1; have b2 := hp.2.1; have b3 := hp.2.2
    rw [parS_some hp, if_pos rfl, (rd_iff (v := p.1)).2 ⟨rfl, by omega, by omega⟩, (rd_iff (v := p.2)).2 ⟨rfl, by omega, by omega⟩]
    dsimp only
    rw [if_pos ⟨b1, b2, b3⟩]
  · rw [parS_none (fun p h1 h2 => hx ⟨p, h1, h2⟩)]
    by_cases hf : f = true
    · rw [if_pos hf]
      split
      · rename_i x y hx1 hy1
        split
        · rename_i hv
          exfalso
          have hc := cut_is (l := l) (by rw [h]; exact hf)
          rw [h] at hc
          exact hx ⟨(x, y), hv, by rw [hc]; unfold txtP; rw [(rd_iff.1 hx1).1, (rd_iff.1 hy1).1]⟩
        · rfl
      · rfl
    · rw [if_neg hf]
end Go.Proofs.YtdelgbdiofkndaaGreatDoor

/-
  Strings and lists of bytes; strconv.ParseInt.
-/
set_option linter.unusedSimpArgs false
set_option linter.unusedVariables false
namespace Go.Proofs.YtdelgbdiofkndaaGreatDoor
open Sx Go.RowKit
theorem ba_inj {a b : ByteArray} (h : a.data.toList = b.data.toList) : a = b := by
  obtain ⟨⟨x⟩⟩ := a
  obtain ⟨⟨y⟩⟩ := b
  have h' : x = y := h
  rw [h']
theorem ba_of {s : ByteArray} {l : List UInt8} (h : l = s.data.toList) : s = ⟨l.toArray⟩ := ba_inj (by rw [h])
theorem ba_nl {a b : ByteArray} (h : ¬ a = b) : ¬ a.toList = b.toList := fun e => h (ba_inj (by rwa [Lib.toList_data, Lib.toList_data] at e))
theorem parse_any (s : ByteArray) (w : World) (hs : s.size ≤ 1000000) (hG : GlobP w) :
    Calls Tryz.prog 27 #[.string s, .int .i64 10, .int .i64 64] w fun e w' => (∃ v x, e = .returned (.tuple #[.int .i64 v, x]) ∧ ((Lib.parseIntB 64 s.data.toList = .ok v ∧ x = .nilIface) ∨ ((∀ u, Lib.parseIntB 64 s.data.toList ≠ .ok u) ∧ -9223372036854775808 ≤ v ∧ v ≤ 9223372036854775807 ∧ ∃ t p, x = .iface t p))) ∧ Below w.heap.size w w' := by
  obtain ⟨-, ⟨t1, v1, h1⟩, ⟨t2, v2, h2⟩, -⟩ := hG
  have k1 := World.var?_cell rngG_is h1 0
  have k2 := World.var?_cell synG_is h2 0
  rcases hn : Lib.parseIntB 64 s.data.toList with v | _ | _
  · refine (Any.strconv_ParseInt_10_at64_ok laysC174 s (by omega) v hn w).mono fun e w' h => ?_
    obtain ⟨rfl, hw⟩ := h
    refine ⟨⟨v, _, rfl, Or.inl ⟨rfl, rfl⟩⟩, ?_⟩
    rcases hw with rfl | ⟨t, rfl⟩
    · exact Below.refl _ _
    · exact Lib.bytesWorld_below _ _ _
  · refine (Any.strconv_ParseInt_10_at64_syntax laysC174 s (by omega) hn _ w (by rw [show laysC174_ren.g 15 = synG by kernel_rfl]; simpa using k2) (Or.inr ⟨_, _, rfl⟩)).mono fun e w' h => ?_
    obtain ⟨N, rfl, -, -, hb⟩ := h
    refine ⟨⟨0, _, rfl, Or.inr ⟨?_, ?_, ?_, _, _, rfl⟩⟩, hb⟩
    · intro u h; cases h
    · decide
    · decide
  · refine (Any.strconv_ParseInt_10_at64_range laysC174 s (by omega) hn _ w (by rw [show laysC174_ren.g 16 = rngG by kernel_rfl]; simpa using k1) (Or.inr ⟨_, _, rfl⟩)).mono fun e w' h => ?_
    obtain ⟨N, rfl, -, -, hb⟩ := h
    refine ⟨⟨Lib.intSat 64 s.data.toList, _, rfl, Or.inr ⟨?_, ?_, ?_, _, _, rfl⟩⟩, hb⟩
    · intro u h; cases h
    · unfold Lib.intSat; split <;> decide
    · unfold Lib.intSat; split <;> decide
end Go.Proofs.YtdelgbdiofkndaaGreatDoor

/-
  The reference's Name.
-/
set_option linter.unusedSimpArgs false
set_option linter.unusedVariables false
namespace Go.Proofs.YtdelgbdiofkndaaGreatDoor
open Sx Go.RowKit
set_option maxHeartbeats 2000000 in
set_option maxRecDepth 20000 in
theorem RName_any (s : ByteArray) (w : World) : Calls Tryz.prog 32 #[.string s] w fun e w' => e = .returned (.bool (nameB s)) ∧ Below w.heap.size w w' := by
  by_cases h1 : 1 ≤ s.size ∧ s.size ≤ 20
  · obtain ⟨h1, h2⟩ := h1
    have h1' : ¬ (s.size : Int) < 1 := by omega
    have h2' : ¬ 20 < (s.size : Int) := by omega
    have hnb : nameB s = s.data.toList.all okc := by unfold nameB; rw [decide_eq_true ⟨h1, h2⟩, Bool.true_and]
    obtain ⟨R, hR⟩ : ∃ R, s.data.toList.all okc = R := ⟨_, rfl⟩
    rw [hnb, hR]
    have HR := Lib.hid hR
    have hlen := Lib.hid (show s.data.toList.length = s.size from (Lib.size_eq s).symm)
    clear hR hnb
    go_enter Tryz.func32, Tryz.ntmps32
    go_wp2_with fail
    go_loopw [3] (fun i wr => ∃ k : Nat, k ≤ s.size ∧ i = .int .i64 k ∧ Hid ((s.data.toList.take k).all okc = true) ∧ Below w.heap.size w wr) (fun i _ => s.size - (intOf i).toNat)
    case atStart => exact ⟨0, Nat.zero_le _, rfl, by simp [Hid], (by repeat' (first | exact Below.refl _ _ | assumption | apply bDrewN | apply bDrew | apply bAlloc | (refine bSet ?_ ?_ _) | (refine bStep ?_ (by assumption)) | omega | (simp <;> omega)))⟩
    case round =>
      obtain ⟨k, hk, rfl, HQ, kB⟩ := hrel
      have i1 : (0 : Int) ≤ (k : Int) := by omega
      by_cases hlt : k < s.size
      · have hlt3 : (k : Int) < s.size := by omega
        have hlt2 : k < s.data.toList.length := by rw [hlen.out]; exact hlt
        have hget : s.data.toList[k] = s[k] := Array.getElem_toList _
        have HS := Lib.hid (show okc s[k] = true → (s.data.toList.take (k + 1)).all okc = true from fun h => by
          rw [List.take_succ_eq_append_getElem hlt2, List.all_append, HQ.out, hget]
          simp [h])
        have HN := Lib.hid (show okc s[k] = false → R = false from fun h => by
          rw [← HR.out, List.all_eq_false]
          exact ⟨s[k], by rw [← hget]; exact List.getElem_mem _, by simp [h]⟩)
        have hoc : okc s[k] = decide (97 ≤ s[k].toNat ∧ s[k].toNat ≤ 122 ∨ 48 ≤ s[k].toNat ∧ s[k].toNat ≤ 57) := rfl
        rw [hoc] at HS HN
        clear hoc hget HQ
        by_cases hok : 97 ≤ s[k].toNat ∧ s[k].toNat ≤ 122 ∨ 48 ≤ s[k].toNat ∧ s[k].toNat ≤ 57
        · have HX := Lib.hid (HS.out (decide_eq_true hok))
          have hok' : (97 ≤ (s[k].toNat : Int) ∧ (s[k].toNat : Int) ≤ 122) ∨ ((s[k].toNat : Int) < 97 ∧ 48 ≤ (s[k].toNat : Int) ∧ (s[k].toNat : Int) ≤ 57) := by omega
          clear hok HS HN
          rcases hok' with ⟨q1, q2⟩ | ⟨q0, q1, q2⟩
          all_goals
            go_wp2_with fail
            go_roundw
            case rel => exact ⟨k + 1, by omega, by push_cast; rfl, HX, kB⟩
            case measure => (simp [intOf]; omega)
        · have HN2 := Lib.hid (HN.out (decide_eq_false hok))
          have hok' : (97 ≤ (s[k].toNat : Int) ∧ 122 < (s[k].toNat : Int) ∧ 48 ≤ (s[k].toNat : Int) ∧ 57 < (s[k].toNat : Int)) ∨ ((s[k].toNat : Int) < 97 ∧ 48 ≤ (s[k].toNat : Int) ∧ 57 < (s[k].toNat : Int)) ∨ ((s[k].toNat : Int) < 97 ∧ (s[k].toNat : Int) < 48) := by omega
          clear hok HS HN
          rcases hok' with ⟨q1, q2, q3, q4⟩ | ⟨q1, q2, q3⟩ | ⟨q1, q2⟩
          · have d1 : decide ((s[k].toNat : Int) ≤ 122) = false := by simp; omega
            have d2 : decide ((s[k].toNat : Int) ≤ 57) = false := by simp; omega
            go_wp2_with fail
            exact bodyPost_ret (v := .bool false) (by simp only [results, Tryz.results32]; go_simp) rfl ⟨by rw [HN2.out], kB⟩
          · have d2 : decide ((s[k].toNat : Int) ≤ 57) = false := by simp; omega
            go_wp2_with fail
            exact bodyPost_ret (v := .bool false) (by simp only [results, Tryz.results32]; go_simp) rfl ⟨by rw [HN2.out], kB⟩
          · have d2 : decide (48 ≤ (s[k].toNat : Int)) = false := by simp; omega
            go_wp2_with fail
            exact bodyPost_ret (v := .bool false) (by simp only [results, Tryz.results32]; go_simp) rfl ⟨by rw [HN2.out], kB⟩
      · obtain rfl : k = s.size := by omega
        have HN2 := Lib.hid (show R = true by
          have := HQ.out
          rw [List.take_of_length_le (by rw [hlen.out]; exact Nat.le_refl _), HR.out] at this
          exact this)
        clear HQ hlt hk
        go_wp2_with fail
        exact bodyPost_ret (v := .bool true) (by simp only [results, Tryz.results32]; go_simp) rfl ⟨by rw [HN2.out], kB⟩
  · have hnb : nameB s = false := by unfold nameB; rw [decide_eq_false h1, Bool.false_and]
    rw [hnb]
    have h2 : (s.size : Int) < 1 ∨ (1 ≤ (s.size : Int) ∧ 20 < (s.size : Int)) := by omega
    clear h1 hnb
    rcases h2 with h2 | ⟨h2, h3⟩
    all_goals
      go_enter Tryz.func32, Tryz.ntmps32
      go_wp2_with fail
      exact bodyPost_ret (v := .bool false) (by simp only [results, Tryz.results32]; go_simp) rfl ⟨rfl, (by repeat' (first | exact Below.refl _ _ | assumption | apply bDrewN | apply bDrew | apply bAlloc | (refine bSet ?_ ?_ _) | (refine bStep ?_ (by assumption)) | omega | (simp <;> omega)))⟩
end Go.Proofs.YtdelgbdiofkndaaGreatDoor

/-
  Drawn regions with calls: the class of the worlds behind a world.
-/
set_option linter.unusedSimpArgs false
set_option linter.unusedVariables false
namespace Go.Proofs.YtdelgbdiofkndaaGreatDoor
open Go.RowKit
def WStep (w : World) : Type := { W : World // Below w.heap.size w W }
instance (w : World) : Nonempty (WStep w) := ⟨⟨w, Below.refl _ _⟩⟩
theorem wp_region_step {P : Program} {id : Nat} {Q : Exit → Act → World → Prop} {a : Act} {w : World} {l : List Oper} (hm : P.follows .mixedOrders = true) (hB : Region.lexB .any l.toArray = true)
    (h : wpQuiet P l.toArray (fun W => ∃ s : WStep w, W = s.1) (fun a' => ∀ w', (∃ s : WStep w, w' = s.1) → Q .normal a' w') l a) : (Code.region id l.toArray true).wp P Q a w :=
  wp_region_quiet (C := fun W => ∃ s : WStep w, W = s.1) hm hB ⟨⟨w.drew, (Below.refl _ _).drew⟩, rfl⟩ (by simpa using h)
/-- A contract for each world behind w. -/
theorem step_call {P : Program} {f : FuncId} {args : Array Value} {w : World} {v : Value} (s : WStep w) (h : Calls P f args s.1 fun e w' => e = .returned v ∧ Below s.1.heap.size s.1 w') :
    Calls P f args s.1 fun e w' => e = .returned v ∧ ∃ t : WStep w, w' = t.1 := h.mono fun _ w' q => ⟨q.1, ⟨w', bStep s.2 q.2⟩, rfl⟩
end Go.Proofs.YtdelgbdiofkndaaGreatDoor

/-
  The reference's Digits and Number.
-/
set_option linter.unusedSimpArgs false
set_option linter.unusedVariables false
namespace Go.Proofs.YtdelgbdiofkndaaGreatDoor
open Sx Go.RowKit
theorem ba_app (a b : List UInt8) : (ByteArray.mk a.toArray) ++ (ByteArray.mk b.toArray) = ⟨(a ++ b).toArray⟩ := ba_inj (by simp)
theorem dig_one {d : Nat} (h : d < 10) : Lib.decDigits d = [UInt8.ofNat (48 + d)] := Lib.decDigits_one h
set_option maxHeartbeats 1000000 in
set_option maxRecDepth 20000 in
theorem Digits_small (u : Nat) (h : u < 10) (w : World) : Calls Tryz.prog 24 #[.int .i64 (u : Int)] w fun e w' => e = .returned (.string ⟨(Lib.decDigits u).toArray⟩) ∧ Below w.heap.size w w' := by
  rw [dig_one h]
  have hc : u = 0 ∨ u = 1 ∨ u = 2 ∨ u = 3 ∨ u = 4 ∨ u = 5 ∨ u = 6 ∨ u = 7 ∨ u = 8 ∨ u = 9 := by omega
  rcases hc with rfl | rfl | rfl | rfl | rfl | rfl | rfl | rfl | rfl | rfl
  all_goals
    clear h
    go_enter Tryz.func24, Tryz.ntmps24
    go_wp2_with fail
    go_ret
    exact ⟨by first | rfl | decide +kernel, (by repeat' (first | exact Below.refl _ _ | assumption | apply bDrewN | apply bDrew | apply bAlloc | (refine bSet ?_ ?_ _) | (refine bStep ?_ (by assumption)) | omega | (simp <;> omega)))⟩
set_option maxHeartbeats 1000000 in
set_option maxRecDepth 20000 in
theorem Digits_nat : ∀ (u : Nat), u < 9223372036854775808 → ∀ w : World, Calls Tryz.prog 24 #[.int .i64 (u : Int)] w fun e w' => e = .returned (.string ⟨(Lib.decDigits u).toArray⟩) ∧ Below w.heap.size w w' := by
  intro u
  induction u using Nat.strongRecOn with
  | ind u ih =>
    intro hu w
    by_cases h : u < 10
    · exact Digits_small u h w
    · have C1 := ih (u / 10) (by omega) (by omega)
      have C2 := ih (u % 10) (by omega) (by omega)
      rw [dec_step h]
      rw [dig_one (show u % 10 < 10 by omega)] at C2
      have hl := dec_le (k := 19) (u := u / 10) (by decide) (by omega)
      have e1 : ((u / 10 : Nat) : Int) = (u : Int) / 10 := by omega
      have e2 : ((u % 10 : Nat) : Int) = (u : Int) % 10 := by omega
      rw [e1] at C1
      rw [e2] at C2
      have h1 : ¬ (u : Int) < 0 := by omega
      have h2 : 9 < (u : Int) := by omega
      generalize Lib.decDigits (u / 10) = x at *
      generalize UInt8.ofNat (48 + u % 10) = c at *
      have h3 : ¬ 9223372036854775807 < x.length + 1 := by omega
      have h4 : x.length + 1 ≤ 9223372036854775807 := by omega
      have K1 := Lib.hid C1
      have K2 := Lib.hid C2
      clear ih h hl C1 C2 e1 e2
      go_enter Tryz.func24, Tryz.ntmps24
      go_wp2_with (go_at_call 24; first
        | (with_reducible refine (K1.out _).mono ?_; rintro e w1 ⟨rfl, hb1⟩)
        | (with_reducible refine (K2.out _).mono ?_; rintro e w2 ⟨rfl, hb2⟩))
      go_ret
      exact ⟨by rw [← ba_app]; rfl, (by repeat' (first | exact Below.refl _ _ | assumption | apply bDrewN | apply bDrew | apply bAlloc | (refine bSet ?_ ?_ _) | (refine bStep ?_ (by assumption)) | omega | (simp <;> omega)))⟩
set_option maxHeartbeats 1000000 in
set_option maxRecDepth 20000 in
theorem Digits_any (n : Int) (h0 : -9223372036854775808 < n) (h1 : n ≤ 9223372036854775807) (w : World) : Calls Tryz.prog 24 #[.int .i64 n] w fun e w' => e = .returned (.string ⟨(Lib.itoa n).toArray⟩) ∧ Below w.heap.size w w' := by
  rcases itoa_cases n with ⟨u, rfl, e⟩ | ⟨u, hu, rfl, e⟩
  · rw [e]; exact Digits_nat u (by omega) w
  · rw [e]
    have C := Lib.hid (Digits_nat u (by omega))
    have h2 : -(u : Int) < 0 := by omega
    have e1 : IntKind.i64.wrap (u : Int) = u := Go.IntWalk.i64_in _ ⟨by omega, by omega⟩
    have hl := dec_le (k := 19) (u := u) (by decide) (by omega)
    generalize Lib.decDigits u = x at *
    have h3 : ¬ 9223372036854775807 < 1 + x.length := by omega
    have h4 : 1 + x.length ≤ 9223372036854775807 := by omega
    clear e hl
    go_enter Tryz.func24, Tryz.ntmps24
    go_wp2_with (go_at_call 24; refine (C.out _).mono ?_; rintro e w1 ⟨rfl, hb1⟩)
    go_ret
    exact ⟨by rw [show (45 :: x) = [45] ++ x from rfl, ← ba_app]; rfl, (by repeat' (first | exact Below.refl _ _ | assumption | apply bDrewN | apply bDrew | apply bAlloc | (refine bSet ?_ ?_ _) | (refine bStep ?_ (by assumption)) | omega | (simp <;> omega)))⟩
set_option maxHeartbeats 2000000 in
set_option maxRecDepth 20000 in
theorem Number_any (s : ByteArray) (w : World) : Calls Tryz.prog 29 #[.string s] w fun e w' => (∃ v, e = .returned (.tuple #[.int .i64 v, .bool (isN s.data.toList)]) ∧ (isN s.data.toList = true → v = sv s.data.toList)) ∧ Below w.heap.size w w' := by
  have hsz : s.data.toList.length = s.size := (Lib.size_eq s).symm
  by_cases h14 : s.size ≤ 14
  · have h1 : (s.size : Int) ≤ 14 := by omega
    have hlt : Hid (∀ k, nvF (s.data.toList.take k) < 100000000000000) := fun k => by
      have h2 := nvF_lt (s.data.toList.take k)
      refine Nat.lt_of_lt_of_le h2 ?_
      exact Nat.le_trans (Nat.pow_le_pow_right (by decide) (by rw [List.length_take]; omega)) (show 10 ^ 14 ≤ 100000000000000 by decide)
    go_enter Tryz.func29, Tryz.ntmps29
    go_wp2_with fail
    go_loopw [4, 5] (fun n i wr => ∃ k : Nat, k ≤ s.size ∧ i = .int .i64 k ∧ n = .int .i64 (nvF (s.data.toList.take k) : Nat) ∧ Below w.heap.size w wr) (fun _ i _ => s.size - (intOf i).toNat)
    case atStart => exact ⟨0, by omega, rfl, by simp [nvF], (by repeat' (first | exact Below.refl _ _ | assumption | apply bDrewN | apply bDrew | apply bAlloc | (refine bSet ?_ ?_ _) | (refine bStep ?_ (by assumption)) | omega | (simp <;> omega)))⟩
    case round =>
      obtain ⟨k, hk, rfl, rfl, kB⟩ := hrel
      by_cases hk2 : k < s.size
      · have hk3 : (k : Int) < s.size := by omega
        have hkl : k < s.data.toList.length := by omega
        have hget : s.data.toList[k]'hkl = s[k] := Array.getElem_toList _
        have hnx : nvF (s.data.toList.take (k + 1)) = if 48 ≤ s[k].toNat ∧ s[k].toNat ≤ 57 then 10 * nvF (s.data.toList.take k) + (s[k].toNat - 48) else nvF (s.data.toList.take k) := by
          rw [List.take_succ_eq_append_getElem hkl, nvF_snoc, hget]
        have hl0 := hlt.out k
        have hl1 := hlt.out (k + 1)
        clear hget
        have hc : s[k].toNat < 256 := s[k].toNat_lt
        generalize hm1 : nvF (s.data.toList.take (k + 1)) = m1 at *
        generalize hm0 : nvF (s.data.toList.take k) = m at *
        have HM1 := Lib.hid hm1
        clear hm1 hm0
        by_cases hd : 48 ≤ s[k].toNat ∧ s[k].toNat ≤ 57
        · rw [if_pos hd] at hnx
          have hd1 : (48 : Int) ≤ (s[k].toNat : Int) := by omega
          have hd2 : (s[k].toNat : Int) ≤ 57 := by omega
          have HN := Lib.hid hnx
          have HD := Lib.hid hd
          clear hnx hd
          go_wp2_with fail
          refine ⟨⟨k + 1, by omega, by push_cast; rfl, ?_, kB⟩, by simp [intOf]; omega⟩
          rw [HM1.out, HN.out]
          have := HD.out
          congr 1
          omega
        · rw [if_neg hd] at hnx
          have HN := Lib.hid hnx
          clear hnx
          have hd1 : (s[k].toNat : Int) < 48 ∨ (48 ≤ (s[k].toNat : Int) ∧ 57 < (s[k].toNat : Int)) := by omega
          clear hd
          rcases hd1 with hd1 | ⟨hd1, hd2⟩
          all_goals
            go_wp2_with fail
            refine ⟨⟨k + 1, by omega, by push_cast; rfl, ?_, kB⟩, by simp [intOf]; omega⟩
            rw [HM1.out, HN.out]
      · obtain rfl : k = s.size := by omega
        have e : s.data.toList.take s.size = s.data.toList := List.take_of_length_le (by omega)
        rw [e]
        have hl0 := hlt.out s.size
        rw [e] at hl0
        clear e hlt hk hk2
        have hN : isN s.data.toList = decide (Lib.itoa (sv s.data.toList) = s.data.toList) := by unfold isN; rw [decide_eq_true (show s.data.toList.length ≤ 14 by omega), Bool.true_and]
        have hbd : -100000000000000 < sv s.data.toList ∧ sv s.data.toList < 100000000000000 := by
          unfold sv; split <;> omega
        have CD := Lib.hid (fun W => Digits_any (sv s.data.toList) (by omega) (by omega) W)
        clear hbd
        cases hl : s.data.toList with
        | nil =>
          obtain rfl : s = ⟨#[]⟩ := ba_inj (by rw [hl])
          have e1 : sv (ByteArray.mk #[]).data.toList = 0 := by rfl
          have e2 : nvF [] = 0 := by rfl
          have e3 : decide (Lib.itoa (sv []) = []) = false := decide_eq_false (itoa_ne' _)
          rw [show nvF (ByteArray.mk #[]).data.toList = 0 from rfl]
          have HN := Lib.hid (show isN (ByteArray.mk #[]).data.toList = false from hN.trans e3)
          rw [e1] at CD
          have e4 : (ByteArray.mk (Lib.itoa 0).toArray) = ⟨#[48]⟩ := by rw [show Lib.itoa 0 = [48] by rw [show (0 : Int) = ((0 : Nat) : Int) from rfl, Lib.itoa_nonneg, Lib.decDigits_one (by decide)]; rfl]
          rw [e4] at CD
          clear e1 e2 e3 e4 hl hl0 hsz h14 h1 hN
          go_wp2_with (go_at_call 24; with_reducible refine (CD.out _).mono ?_; rintro e w1 ⟨rfl, hb1⟩)
          exact bodyPost_ret (v := .tuple #[.int .i64 0, .bool false]) (by simp only [results, Tryz.results29]; go_simp) rfl ⟨⟨0, by rw [HN.out], fun h => by rw [HN.out] at h; cases h⟩, (by repeat' (first | exact Below.refl _ _ | assumption | apply bDrewN | apply bDrew | apply bAlloc | (refine bSet ?_ ?_ _) | (refine bStep ?_ (by assumption)) | omega | (simp <;> omega)))⟩
        | cons c r =>
          have hz : 0 < s.size := by rw [← hsz, hl]; simp
          have h0 : s[0]'hz = c := by
            have q : s.data.toList[0]'(by rw [hl]; simp) = s[0]'hz := Array.getElem_toList _
            rw [← q]
            simp [hl]
          have hz2 : 0 < (s.size : Int) := by omega
          have hn1 : ¬ s.toList = [] := by rw [Lib.toList_data, hl]; simp
          have hn3 : s.toList.isEmpty = false := by rw [Lib.toList_data, hl]; rfl
          have hn2 : ¬ s = ⟨#[]⟩ := fun q => by rw [q] at hl; cases hl
          have hsv : (c.toNat = 45 ∧ sv (c :: r) = -(nvF (c :: r) : Int)) ∨ (c.toNat ≠ 45 ∧ sv (c :: r) = nvF (c :: r)) := by
            unfold sv
            by_cases hc : c = 45
            · subst hc; exact .inl ⟨rfl, by simp⟩
            · exact .inr ⟨fun q => hc (UInt8.toNat_inj.1 q), by simp [hc]⟩
          rw [hl] at CD hl0 hN
          generalize hm : nvF (c :: r) = m at *
          have hS : Hid (∀ v, sv (c :: r) = v → sv (c :: r) = v) := fun _ h => h
          by_cases he : Lib.itoa (sv (c :: r)) = c :: r
          · have HN := Lib.hid (show isN s.data.toList = true from by rw [hl, hN, decide_eq_true he])
            have es : (ByteArray.mk (c :: r).toArray) = s := ba_inj (by rw [hl])
            rw [he, es] at CD
            rcases hsv with ⟨hc, hv⟩ | ⟨hc, hv⟩
            · have hc2 : ((s[0]'hz).toNat : Int) = 45 := by rw [h0]; omega
              rw [hv] at CD
              have HV := Lib.hid (show -(m : Int) = sv s.data.toList from by rw [hl]; exact hv.symm)
              clear hl es he hm hv hc h0 hS hN
              go_wp2_with (go_at_call 24; with_reducible refine (CD.out _).mono ?_; rintro e w1 ⟨rfl, hb1⟩)
              exact bodyPost_ret (v := .tuple #[.int .i64 (-(m : Int)), .bool true]) (by simp only [results, Tryz.results29]; go_simp) rfl ⟨⟨_, by rw [HN.out], fun _ => HV.out⟩, (by repeat' (first | exact Below.refl _ _ | assumption | apply bDrewN | apply bDrew | apply bAlloc | (refine bSet ?_ ?_ _) | (refine bStep ?_ (by assumption)) | omega | (simp <;> omega)))⟩
            · have hc2 : ¬ ((s[0]'hz).toNat : Int) = 45 := by rw [h0]; omega
              have hc3 : (((s[0]'hz).toNat : Int) == 45) = false := beq_false_of_ne hc2
              rw [hv] at CD
              have HV := Lib.hid (show (m : Int) = sv s.data.toList from by rw [hl]; exact hv.symm)
              clear hl es he hm hv hc h0 hS hN
              go_wp2_with (go_at_call 24; with_reducible refine (CD.out _).mono ?_; rintro e w1 ⟨rfl, hb1⟩)
              exact bodyPost_ret (v := .tuple #[.int .i64 (m : Int), .bool true]) (by simp only [results, Tryz.results29]; go_simp) rfl ⟨⟨_, by rw [HN.out], fun _ => HV.out⟩, (by repeat' (first | exact Below.refl _ _ | assumption | apply bDrewN | apply bDrew | apply bAlloc | (refine bSet ?_ ?_ _) | (refine bStep ?_ (by assumption)) | omega | (simp <;> omega)))⟩
          · have HN := Lib.hid (show isN s.data.toList = false from by rw [hl, hN, decide_eq_false he])
            have hne : ¬ (ByteArray.mk (Lib.itoa (sv (c :: r))).toArray).toList = s.toList := ba_nl fun e => he (by have q := congrArg (fun b : ByteArray => b.data.toList) e; simpa [hl] using q)
            generalize (ByteArray.mk (Lib.itoa (sv (c :: r))).toArray) = t at *
            rcases hsv with ⟨hc, hv⟩ | ⟨hc, hv⟩
            · have hc2 : ((s[0]'hz).toNat : Int) = 45 := by rw [h0]; omega
              rw [hv] at CD
              clear hl he hm hv hc h0 hS hN
              go_wp2_with (go_at_call 24; with_reducible refine (CD.out _).mono ?_; rintro e w1 ⟨rfl, hb1⟩)
              exact bodyPost_ret (v := .tuple #[.int .i64 (-(m : Int)), .bool false]) (by simp only [results, Tryz.results29]; go_simp) rfl ⟨⟨_, by rw [HN.out], fun h => by rw [HN.out] at h; cases h⟩, (by repeat' (first | exact Below.refl _ _ | assumption | apply bDrewN | apply bDrew | apply bAlloc | (refine bSet ?_ ?_ _) | (refine bStep ?_ (by assumption)) | omega | (simp <;> omega)))⟩
            · have hc2 : ¬ ((s[0]'hz).toNat : Int) = 45 := by rw [h0]; omega
              have hc3 : (((s[0]'hz).toNat : Int) == 45) = false := beq_false_of_ne hc2
              rw [hv] at CD
              clear hl he hm hv hc h0 hS hN
              go_wp2_with (go_at_call 24; with_reducible refine (CD.out _).mono ?_; rintro e w1 ⟨rfl, hb1⟩)
              exact bodyPost_ret (v := .tuple #[.int .i64 (m : Int), .bool false]) (by simp only [results, Tryz.results29]; go_simp) rfl ⟨⟨_, by rw [HN.out], fun h => by rw [HN.out] at h; cases h⟩, (by repeat' (first | exact Below.refl _ _ | assumption | apply bDrewN | apply bDrew | apply bAlloc | (refine bSet ?_ ?_ _) | (refine bStep ?_ (by assumption)) | omega | (simp <;> omega)))⟩
  · have h1 : 14 < (s.size : Int) := by omega
    have hn : isN s.data.toList = false := by unfold isN; rw [hsz, decide_eq_false h14]; rfl
    rw [hn]
    clear h14 hn hsz
    go_enter Tryz.func29, Tryz.ntmps29
    go_wp2_with fail
    exact bodyPost_ret (v := .tuple #[.int .i64 0, .bool false]) (by simp only [results, Tryz.results29]; go_simp) rfl ⟨⟨0, rfl, fun h => by cases h⟩, (by repeat' (first | exact Below.refl _ _ | assumption | apply bDrewN | apply bDrew | apply bAlloc | (refine bSet ?_ ?_ _) | (refine bStep ?_ (by assumption)) | omega | (simp <;> omega)))⟩
end Go.Proofs.YtdelgbdiofkndaaGreatDoor
