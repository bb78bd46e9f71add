/-
 Contracts of Go's library, laid for this program.
-/
import Derived.Test.YtmpilgkfbibhlaaGreatDoorProg
import Derived.Shelf.Strings.Builder1
import Derived.Shelf.Strings.Builder2
import Derived.Shelf.Strings.OnBuilder
import Derived.Shelf.Strconv.Atoi
import Derived.Shelf.Strconv.Itoa0
import Derived.Shelf.Strconv.Itoa1
import Derived.Shelf.LaysM
import Derived.Shelf.Strconv.Itoa2
import Derived.Shelf.Strconv.Itoa3
import Derived.Shelf.Strconv.Itoa4
import Derived.Shelf.Bytes.Len
import Derived.Shelf.Bytes.TryGrow
import Derived.Shelf.Bytes.GrowSliceCatch
import Derived.Shelf.Bytes.GrowSlice
import Derived.Shelf.Bytes.GrowRow0
import Derived.Shelf.Bytes.GrowRow
import Derived.Shelf.Bytes.GrowNil
import Derived.Shelf.Bytes.Grow
import Derived.Shelf.Bytes.WriteByte
import Derived.Shelf.Bytes.WriteString
import Derived.Shelf.Bytes.Bytes
import Derived.Shelf.Strconv.AtoiErrFast
import Derived.Shelf.Strconv.ParseIntEmpty
import Derived.Shelf.Strconv.AtoiFail
import Derived.Shelf.Strconv.Clone
import Derived.Shelf.Strconv.SyntaxError
import Derived.Shelf.LaysC
import Derived.Shelf.Strconv.ToError
import Derived.Shelf.Strconv.Lower
import Derived.Shelf.Strconv.ParseUint10
import Derived.Shelf.Strconv.ParseUint10Empty
import Derived.Shelf.Strconv.ParseUint10Any
import Derived.Shelf.Strconv.ParseInt10
import Derived.Shelf.Strconv.AtoiLong
import Derived.Shelf.Strconv.AtoiInnerAll
import Derived.Shelf.Strconv.RangeError
import Derived.Shelf.Strconv.ToErrorRange
import Derived.Shelf.Strconv.AtoiAll
import Derived.Shelf.Strconv.ErrVarAll
import Derived.Shelf.Strings.Search1
import Derived.Shelf.Strings.Search2
import Derived.Shelf.Strings.Cut
import Derived.Shelf.Strings.Shaped
import Derived.Shelf.Slices.Turned
import Derived.Ground.SlgnProg
import Derived.Shelf.SlicesE.Clone
import Derived.Ground.SlgfProg
import Derived.Shelf.SlicesE.IndexFunc
import Derived.Shelf.SlicesE.DeleteFunc
import Derived.Test.YtmpilgkfbibhlaaGreatDoorG11R
import Derived.Lib.AppendIntMem
import Derived.Test.YtmpilgkfbibhlaaGreatDoorG10R
set_option linter.unusedSimpArgs false
set_option linter.unusedVariables false
namespace Go.Proofs.YtmpilgkfbibhlaaGreatDoor
open Go.Shelf
def lays156_ren : Go.Shelf.Ren := ⟨fun | 156 => 89 | 165 => 128 | 166 => 129 | 169 => 130 | 240 => 154 | 241 => 155 | 276 => 170 | 277 => 171 | n => n, fun | 31 => 47 | 9 => 9 | 3 => 3 | 4 => 4 | 0 => 0 | 20 => 20 | 72 => 200 | 76 => 186 | 70 => 198 | 37 => 88 | 75 => 185 | 127 => 225 | 164 => 242 | 5 => 5 | 80 => 202 | n => n, fun | n => n⟩
theorem lays156 : Go.Proofs.Lays.n156 Tryz.prog lays156_ren := {
 mixed := by kernel_rfl
 f156 := Tryz.func89.trans (congrArg some (by kernel_rfl))
 f165 := Tryz.func128.trans (congrArg some (by kernel_rfl))
 f166 := Tryz.func129.trans (congrArg some (by kernel_rfl))
 f169 := Tryz.func130.trans (congrArg some (by kernel_rfl))
 f240 := Tryz.func154.trans (congrArg some (by kernel_rfl))
 f241 := Tryz.func155.trans (congrArg some (by kernel_rfl))
 f276 := Tryz.func170.trans (congrArg some (by kernel_rfl))
 f277 := Tryz.func171.trans (congrArg some (by kernel_rfl))
 t0 := Tryz.underlying0
 a0 := Tryz.isAgg0
 z0 := Tryz.sizeOf0
 v0 := Tryz.zeroValue0
 t3 := Tryz.underlying3
 a3 := Tryz.isAgg3
 z3 := Tryz.sizeOf3
 v3 := Tryz.zeroValue3
 t4 := Tryz.underlying4
 a4 := Tryz.isAgg4
 z4 := Tryz.sizeOf4
 v4 := Tryz.zeroValue4
 t9 := Tryz.underlying9
 a9 := Tryz.isAgg9
 z9 := Tryz.sizeOf9
 v9 := Tryz.zeroValue9
 t20 := Tryz.underlying20
 a20 := Tryz.isAgg20
 z20 := Tryz.sizeOf20
 v20 := Tryz.zeroValue20
 t31 := Tryz.underlying47
 a31 := Tryz.isAgg47
 z31 := Tryz.sizeOf47
 v31 := Tryz.zeroValue47
 t37 := Tryz.underlying88
 a37 := Tryz.isAgg88
 z37 := Tryz.sizeOf88
 v37 := Tryz.zeroValue88
 t70 := Tryz.underlying198
 a70 := Tryz.isAgg198
 z70 := Tryz.sizeOf198
 v70 := Tryz.zeroValue198
 t72 := Tryz.underlying200
 a72 := Tryz.isAgg200
 z72 := Tryz.sizeOf200
 v72 := Tryz.zeroValue200
 t75 := Tryz.underlying185
 a75 := Tryz.isAgg185
 z75 := Tryz.sizeOf185
 v75 := Tryz.zeroValue185
 t76 := Tryz.underlying186
 a76 := Tryz.isAgg186
 z76 := Tryz.sizeOf186
 v76 := Tryz.zeroValue186
 t127 := Tryz.underlying225
 a127 := Tryz.isAgg225
 z127 := Tryz.sizeOf225
 v127 := Tryz.zeroValue225
 t164 := Tryz.underlying242
 a164 := Tryz.isAgg242
 z164 := Tryz.sizeOf242
 v164 := Tryz.zeroValue242 }
theorem Builder_Extra_156 : Builder.Extra Tryz.prog lays156_ren := {
 sizeBuilder := by kernel_rfl
 liesBuilder := by kernel_rfl
 t5 := Tryz.underlying5
 a5 := Tryz.isAgg5
 z5 := Tryz.sizeOf5
 v5 := Tryz.zeroValue5
 infoByte := by kernel_rfl
 cellsByte := by kernel_rfl
 sizeByte := by kernel_rfl
 neB5 := by decide }
def laysM173_ren : Go.Shelf.Ren := ⟨fun | 173 => 88 | 246 => 127 | 283 => 150 | 284 => 151 | 285 => 152 | 286 => 153 | 129 => 166 | 317 => 165 | 318 => 167 | 319 => 168 | 320 => 169 | 337 => 182 | 338 => 183 | n => n, fun | 2 => 2 | 3 => 3 | 9 => 9 | 4 => 4 | 171 => 220 | 0 => 0 | 53 => 22 | 37 => 88 | 5 => 5 | 173 => 223 | 212 => 238 | 51 => 239 | 20 => 20 | 213 => 240 | 46 => 167 | 232 => 260 | 233 => 261 | n => n, fun | 17 => 0 | 18 => 5 | 19 => 6 | n => n⟩
theorem laysM173 : Go.Proofs.LaysM.n173 Tryz.prog laysM173_ren := {
 mixed := by kernel_rfl
 f129 := Tryz.func166.trans (congrArg some (by kernel_rfl))
 f173 := Tryz.func88.trans (congrArg some (by kernel_rfl))
 f246 := Tryz.func127.trans (congrArg some (by kernel_rfl))
 f283 := Tryz.func150.trans (congrArg some (by kernel_rfl))
 f284 := Tryz.func151.trans (congrArg some (by kernel_rfl))
 f285 := Tryz.func152.trans (congrArg some (by kernel_rfl))
 f286 := Tryz.func153.trans (congrArg some (by kernel_rfl))
 f317 := Tryz.func165.trans (congrArg some (by kernel_rfl))
 f318 := Tryz.func167.trans (congrArg some (by kernel_rfl))
 f319 := Tryz.func168.trans (congrArg some (by kernel_rfl))
 f320 := Tryz.func169.trans (congrArg some (by kernel_rfl))
 f337 := Tryz.func182.trans (congrArg some (by kernel_rfl))
 f338 := Tryz.func183.trans (congrArg some (by kernel_rfl))
 t0 := Tryz.underlying0
 a0 := Tryz.isAgg0
 z0 := Tryz.sizeOf0
 v0 := Tryz.zeroValue0
 t2 := Tryz.underlying2
 a2 := Tryz.isAgg2
 z2 := Tryz.sizeOf2
 v2 := Tryz.zeroValue2
 t3 := Tryz.underlying3
 a3 := Tryz.isAgg3
 z3 := Tryz.sizeOf3
 v3 := Tryz.zeroValue3
 t4 := Tryz.underlying4
 a4 := Tryz.isAgg4
 z4 := Tryz.sizeOf4
 v4 := Tryz.zeroValue4
 t5 := Tryz.underlying5
 a5 := Tryz.isAgg5
 z5 := Tryz.sizeOf5
 v5 := Tryz.zeroValue5
 t9 := Tryz.underlying9
 a9 := Tryz.isAgg9
 z9 := Tryz.sizeOf9
 v9 := Tryz.zeroValue9
 t20 := Tryz.underlying20
 a20 := Tryz.isAgg20
 z20 := Tryz.sizeOf20
 v20 := Tryz.zeroValue20
 t37 := Tryz.underlying88
 a37 := Tryz.isAgg88
 z37 := Tryz.sizeOf88
 v37 := Tryz.zeroValue88
 t46 := Tryz.underlying167
 a46 := Tryz.isAgg167
 z46 := Tryz.sizeOf167
 v46 := Tryz.zeroValue167
 t51 := Tryz.underlying239
 a51 := Tryz.isAgg239
 z51 := Tryz.sizeOf239
 v51 := Tryz.zeroValue239
 t53 := Tryz.underlying22
 a53 := Tryz.isAgg22
 z53 := Tryz.sizeOf22
 v53 := Tryz.zeroValue22
 t171 := Tryz.underlying220
 a171 := Tryz.isAgg220
 z171 := Tryz.sizeOf220
 v171 := Tryz.zeroValue220
 t173 := Tryz.underlying223
 a173 := Tryz.isAgg223
 z173 := Tryz.sizeOf223
 v173 := Tryz.zeroValue223
 t212 := Tryz.underlying238
 a212 := Tryz.isAgg238
 z212 := Tryz.sizeOf238
 v212 := Tryz.zeroValue238
 t213 := Tryz.underlying240
 a213 := Tryz.isAgg240
 z213 := Tryz.sizeOf240
 t232 := Tryz.underlying260
 a232 := Tryz.isAgg260
 z232 := Tryz.sizeOf260
 v232 := Tryz.zeroValue260
 t233 := Tryz.underlying261
 a233 := Tryz.isAgg261
 z233 := Tryz.sizeOf261
 v233 := Tryz.zeroValue261
 g17 := by kernel_rfl
 g18 := by kernel_rfl
 g19 := by kernel_rfl
 i0 := by kernel_rfl
 i2 := by kernel_rfl
 i3 := by kernel_rfl
 i4 := by kernel_rfl
 i5 := by kernel_rfl
 i9 := by kernel_rfl
 i20 := by kernel_rfl
 i37 := by kernel_rfl
 i46 := by kernel_rfl
 i51 := by kernel_rfl
 i53 := by kernel_rfl
 i171 := by kernel_rfl
 i173 := by kernel_rfl
 i212 := by kernel_rfl
 i232 := by kernel_rfl
 i233 := by kernel_rfl
 m17 := by kernel_rfl
 m18 := by kernel_rfl
 m19 := by kernel_rfl }
end Go.Proofs.YtmpilgkfbibhlaaGreatDoor
namespace Go.Proofs.YtmpilgkfbibhlaaGreatDoor
open Sx Go.RowKit
theorem fmt_any (n : Int) (h0 : -9223372036854775808 ≤ n) (h1 : n ≤ 9223372036854775807) (w : World) (hG : GlobP w) :
  Calls Tryz.prog 88 #[.int .i64 n, .int .i64 10] w fun e w' => e = .returned (.string ⟨(Lib.itoa n).toArray⟩) ∧ Below w.heap.size w w' := by
 refine (Any.strconv_FormatInt_10 laysM173 n h0 h1 w hG.tab).mono fun e w' => ?_
 rintro ⟨rfl, k, os, rfl⟩
 exact ⟨rfl, Lib.below_grow _ _ (Nat.le_refl _) _ _⟩
theorem join_any (bk o c : Nat) (xs : List ByteArray) (sep : ByteArray) (w : World) (hcells : ∀ (j : Nat) x, xs[j]? = some x → w.cell? ⟨bk, o + j, none⟩ = some (.string x)) (hbk : bk < w.heap.size) (hN : xs.length ≤ 140737488355328) (hcap : xs.length ≤ c) (hlen : (Lib.join (xs.map (·.data.toList)) sep.data.toList).length ≤ 140737488355328) :
  Calls Tryz.prog 89 #[.slice (some ⟨bk, o, none⟩) xs.length c, .string sep] w fun e w' => e = .returned (.string ⟨(Lib.join (xs.map (·.data.toList)) sep.data.toList).toArray⟩) ∧ Below w.heap.size w w' :=
 Any.strings_Join lays156 Builder_Extra_156 bk o c xs sep w hcells hbk hN hcap hlen
end Go.Proofs.YtmpilgkfbibhlaaGreatDoor
namespace Go.Proofs.YtmpilgkfbibhlaaGreatDoor
open Go.RowKit
theorem BytV.at_ {a : Option Addr} {m : List Nat} {W : World} (h : BytV a m W) : BytAt a m W.heap.size W.heap.size W := fun hn => by
 obtain ⟨b, off, rfl, h1, h2⟩ := h hn
 exact ⟨b, off, rfl, ⟨h1, by omega⟩, h2⟩
theorem digest_any (p b x bf off cap : Nat) (a : Option Addr) (m : List Nat) (w : World) (hp0 : 0 < p) (hp : p < 2147483648) (hx : x < 2147483648) (hb1 : 1 ≤ b) (hb3 : b ≤ 3) (hB : Byt m) (hlen : m.length ≤ 2000)
  (hbf : bf < w.heap.size) (hP : w.cell? ⟨bf, off, none⟩ = some (.int .u64 p)) (hQ : w.cell? ⟨bf, off + 1, none⟩ = some (.int .i64 b)) (hA : BytV a m w) :
  Calls Tryz.prog 41 #[.pointer (some ⟨bf, off, none⟩), .int .u64 x, .slice a m.length cap] w fun e w' => e = .returned (.int .u64 (dig p b x m)) ∧ Below w.heap.size w w' :=
 callsIn_wide.1 (digest_in p b x bf off cap a m w hp0 hp hx hb1 hb3 hB hlen hbf hP hQ hA.at_)
set_option maxHeartbeats 1000000 in
set_option maxRecDepth 20000 in
theorem Digest_any (n : Int) (x c : Nat) (a : Option Addr) (m : List Nat) (w : World) (hx : x < 18446744073709551616) (hB : Byt m) (hlen : m.length ≤ 2000) (hA : BytV a m w) :
  Calls Tryz.prog 36 #[.int .i64 n, .int .u64 x, .slice a m.length c] w fun e w' => e = .returned (.tuple #[.int .u64 (digR n x m).1, .int .i64 (digR n x m).2]) ∧ Below w.heap.size w w' := by
 unfold digR
 rcases fi_cases n with ⟨hn, hf⟩ | ⟨i, hi, rfl, hf⟩
 ·rw [hf]
  have C := Lib.hid (fun w => fieldOf_none n hn w)
  clear hn hf
  go_enter Tryz.func36, Tryz.ntmps36
  go_wp2_with (go_at_call 86; refine (C.out _).mono ?_; rintro e w1 ⟨rfl, hb⟩)
  exact bodyPost_ret (v := .tuple #[.int .u64 0, .int .i64 2]) (by simp only [results, Tryz.results36]; go_simp) rfl ⟨rfl, (by repeat' (first | exact Below.refl _ _ | assumption | apply bDrewN | apply bDrew | apply bAlloc | (refine bSet ?_ ?_ _) | (refine bStep ?_ (by assumption)) | omega | (simp <;> omega)))⟩
 ·rw [hf]
  have C := Lib.hid (fun w => fieldOf_some i hi w)
  have hp := prim_bd i
  dsimp only
  have HA := Lib.hid hA
  have hi3 : i + 1 ≤ 3 := by omega
  have hi1 : 1 ≤ i + 1 := by omega
  have HD := Lib.hid (fun (bf off : Nat) (w1 : World) (hbf : bf < w1.heap.size) h1 h2 h3 (h4 : x < prim i) => digest_any (prim i) (i + 1) x bf off c a m w1 (by omega) hp.2 (by omega) hi1 hi3 hB hlen hbf h1 h2 h3)
  clear hA hf hi3 hi1 hi
  generalize dig (prim i) (i + 1) x m = D at *
  generalize hP : prim i = P at *
  generalize i + 1 = b at *
  by_cases h1 : 1000 < m.length
  ·rw [if_pos h1]
   have h1' : 1000 < (m.length : Int) := by omega
   generalize m.length = L at *
   go_enter Tryz.func36, Tryz.ntmps36
   go_wp2_with (go_at_call 86; refine (C.out _).mono ?_; rintro e w1 ⟨B, off, rfl, hB1, hB2, hc1, hc2, hb⟩)
   exact bodyPost_ret (v := .tuple #[.int .u64 0, .int .i64 7]) (by simp only [results, Tryz.results36]; go_simp) rfl ⟨rfl, (by repeat' (first | exact Below.refl _ _ | assumption | apply bDrewN | apply bDrew | apply bAlloc | (refine bSet ?_ ?_ _) | (refine bStep ?_ (by assumption)) | omega | (simp <;> omega)))⟩
  ·rw [if_neg h1]
   have h1' : (m.length : Int) ≤ 1000 := by omega
   by_cases h2 : x < 1 ∨ P ≤ x
   ·rw [if_pos h2]
    have h2' : (x : Int) < 1 ∨ (1 ≤ (x : Int) ∧ (P : Int) ≤ x) := by omega
    clear h2 h1 HD
    rcases h2' with h2 | ⟨h2, h3⟩
    all_goals
     go_enter Tryz.func36, Tryz.ntmps36
     go_wp2_with (go_at_call 86; refine (C.out _).mono ?_; rintro e w1 ⟨B, off, rfl, hB1, hB2, hc1, hc2, hb⟩)
     exact bodyPost_ret (v := .tuple #[.int .u64 0, .int .i64 3]) (by simp only [results, Tryz.results36]; go_simp) rfl ⟨rfl, (by repeat' (first | exact Below.refl _ _ | assumption | apply bDrewN | apply bDrew | apply bAlloc | (refine bSet ?_ ?_ _) | (refine bStep ?_ (by assumption)) | omega | (simp <;> omega)))⟩
   ·rw [if_neg h2]
    have h2' : 1 ≤ (x : Int) := by omega
    have h3 : (x : Int) < P := by omega
    have h4 : x < P := by omega
    clear h2 h1
    go_enter Tryz.func36, Tryz.ntmps36
    go_wp2_with (first | (go_at_call 86; refine (C.out _).mono ?_; rintro e w1 ⟨B, off, rfl, hB1, hB2, hc1, hc2, hb⟩) | (go_at_call 41; refine (HD.out _ _ _ hB2 hc1 hc2 (HA.out.step hb) h4).mono ?_; rintro e w2 ⟨rfl, hb2⟩))
    exact bodyPost_ret (v := .tuple #[.int .u64 D, .int .i64 0]) (by simp only [results, Tryz.results36]; go_simp) rfl ⟨rfl, (by repeat' (first | exact Below.refl _ _ | assumption | apply bDrewN | apply bDrew | apply bAlloc | (refine bSet ?_ ?_ _) | (refine bStep ?_ (by assumption)) | omega | (simp <;> omega)))⟩
end Go.Proofs.YtmpilgkfbibhlaaGreatDoor
