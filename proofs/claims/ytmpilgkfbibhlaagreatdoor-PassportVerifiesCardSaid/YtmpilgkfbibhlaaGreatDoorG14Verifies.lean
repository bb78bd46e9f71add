/-
 The reference's raw: the walk.
-/
import Derived.Test.YtmpilgkfbibhlaaGreatDoorG13Verifies
import Derived.Deep.Cut
import Derived.RowKit
import Derived.Lib.Strings
import Derived.Lib.ItoaNum
import Derived.Test.YtmpilgkfbibhlaaGreatDoorG1Verifies
import Derived.Test.YtmpilgkfbibhlaaGreatDoorG11Verifies
import Derived.Test.YtmpilgkfbibhlaaGreatDoorG12Verifies
import Derived.Test.YtmpilgkfbibhlaaGreatDoorProg
import Derived.Shelf.Strings.Builder1
import Derived.Shelf.Strings.Builder2
import Derived.Shelf.Strings.OnBuilder
import Derived.Shelf.Strconv.Atoi
import Derived.Shelf.Strconv.Itoa0
import Derived.Shelf.Strconv.Itoa1
import Derived.Shelf.LaysM
import Derived.Shelf.Strconv.Itoa2
import Derived.Shelf.Strconv.Itoa3
import Derived.Shelf.Strconv.Itoa4
import Derived.Shelf.Bytes.Len
import Derived.Shelf.Bytes.TryGrow
import Derived.Shelf.Bytes.GrowSliceCatch
import Derived.Shelf.Bytes.GrowSlice
import Derived.Shelf.Bytes.GrowRow0
import Derived.Shelf.Bytes.GrowRow
import Derived.Shelf.Bytes.GrowNil
import Derived.Shelf.Bytes.Grow
import Derived.Shelf.Bytes.WriteByte
import Derived.Shelf.Bytes.WriteString
import Derived.Shelf.Bytes.Bytes
import Derived.Shelf.Strconv.AtoiErrFast
import Derived.Shelf.Strconv.ParseIntEmpty
import Derived.Shelf.Strconv.AtoiFail
import Derived.Shelf.Strconv.Clone
import Derived.Shelf.Strconv.SyntaxError
import Derived.Shelf.LaysC
import Derived.Shelf.Strconv.ToError
import Derived.Shelf.Strconv.Lower
import Derived.Shelf.Strconv.ParseUint10
import Derived.Shelf.Strconv.ParseUint10Empty
import Derived.Shelf.Strconv.ParseUint10Any
import Derived.Shelf.Strconv.ParseInt10
import Derived.Shelf.Strconv.AtoiLong
import Derived.Shelf.Strconv.AtoiInnerAll
import Derived.Shelf.Strconv.RangeError
import Derived.Shelf.Strconv.ToErrorRange
import Derived.Shelf.Strconv.AtoiAll
import Derived.Shelf.Strconv.ErrVarAll
import Derived.Shelf.Strings.Search1
import Derived.Shelf.Strings.Search2
import Derived.Shelf.Strings.Cut
import Derived.Shelf.Strings.Shaped
import Derived.Shelf.Slices.Turned
import Derived.Shelf.Slices.Clone
import Derived.Ground.Names2Prog
import Derived.Ground.SlgnProg
import Derived.Shelf.SlicesE.Clone
import Derived.Ground.SlgfProg
import Derived.Shelf.SlicesE.IndexFunc
import Derived.Shelf.SlicesE.DeleteFunc
import Derived.Test.YtmpilgkfbibhlaaGreatDoorG2Verifies
set_option linter.unusedSimpArgs false
set_option linter.unusedVariables false
namespace Go.Proofs.YtmpilgkfbibhlaaGreatDoor
open Go.RowKit Mr
theorem big8 (n : Nat) (hn : n ≤ 1099511627776) (W : World) : Calls Tryz.prog 141 #[.int .u64 n, .int .i64 8] W fun e w' => e = .returned (.slice (some ⟨W.heap.size, 0, none⟩) 8 8) ∧ w'.heap[W.heap.size]? = some (.cells (byC (b8 n)).toArray 5 (0, 0)) ∧ Below W.heap.size W w' := by
 have h := big_any n 8 (by omega) (by decide) (by decide) W
 rw [bigL_8] at h
 exact h
theorem arr_at (l : List Value) : ∀ (j : Nat) (u : Value), l[j]? = some u → l.toArray[j]? = some u := fun j u h => by simpa using h
set_option maxHeartbeats 4000000 in
set_option maxRecDepth 20000 in
theorem rraw_any (k t a b : Nat) (nm ot : ByteArray) (w : World) (hk : k ≤ 9) (ht : t ≤ 1099511627776) (ha : a ≤ 1099511627776) (hb : b ≤ 1099511627776) (hs1 : nm.size ≤ 100) (hs2 : ot.size ≤ 100) :
  Calls Tryz.prog 142 #[.agg #[.int .i64 k, .int .i64 t, .int .i64 a, .int .i64 b, .string nm, .string ot]] w fun e w' => ∃ v, e = .returned v ∧ RawU w w.heap.size w.heap.size (.cells #[.int .i64 k, .int .i64 t, .int .i64 a, .int .i64 b, .string nm, .string ot] 29) (k :: (b8 t ++ (b8 a ++ (b8 b ++ (nm.size :: (nm.data.toList.map UInt8.toNat ++ (ot.size :: ot.data.toList.map UInt8.toNat))))))) v w' := by
 have C1 := Lib.hid (big8 t ht)
 have C2 := Lib.hid (big8 a ha)
 have C3 := Lib.hid (big8 b hb)
 have R0 : Hid (∀ v0 v1 v2, RawT w w.heap.size w.heap.size (.cells #[.int .i64 k, .int .i64 t, .int .i64 a, .int .i64 b, .string nm, .string ot] 29) [k] (b8 t) false false false v0 v1 v2 (w.alloc (.cells #[.int .i64 k, .int .i64 t, .int .i64 a, .int .i64 b, .string nm, .string ot] 29)).drew) := fun v0 v1 v2 =>
  RawT.start (L := updF (fun _ => none) w.heap.size (some (.cells #[.int .i64 k, .int .i64 t, .int .i64 a, .int .i64 b, .string nm, .string ot] 29))) (MR.start (Nat.le_refl _) Mr.bAl (by simp) (fun p o e => by
   by_cases c : p = w.heap.size
   ·subst c; rw [updF_at] at e; cases e; exact blk_new w _
   ·rw [updF_ne c] at e; cases e)) updF_at
 go_enter Tryz.func142, Tryz.ntmps142
 go_upto_region 1 with fail
 refine region_effs 9 12 [(3, 7), (7, 11), (8, 12)] [(none, []), (none, []), (none, []), (some 0, []), (none, []), (none, []), (none, []), (some 1, []), (some 2, [0, 1])] [(4, (.pointer (some ⟨w.heap.size, 0, none⟩))), (5, (.int .i64 (k : Int))), (6, (.int .u8 (k : Int))), (8, (.pointer (some ⟨w.heap.size, 1, none⟩))), (9, (.int .i64 (t : Int))), (10, (.int .u64 (t : Int)))] (fun bsE vsE W => RawT w w.heap.size w.heap.size (.cells #[.int .i64 k, .int .i64 t, .int .i64 a, .int .i64 b, .string nm, .string ot] 29) [k] (b8 t) (bsE.getD 0 false) (bsE.getD 1 false) (bsE.getD 2 false) (vsE.getD 0 undef) (vsE.getD 1 undef) (vsE.getD 2 undef) W) (by kernel_rfl) (by kernel_rfl) rfl (by kernel_rfl) (by kernel_rfl) (by simp) (by rfl) ?h0 ?each ?tail
 case h0 =>
  intro vsE hlv
  obtain ⟨v0, vsE0, rfl, hlv0⟩ := len_one hlv
  obtain ⟨v1, vsE1, rfl, hlv1⟩ := len_one hlv0
  obtain ⟨v2, vsE2, rfl, hlv2⟩ := len_one hlv1
  obtain rfl := len_nil hlv2
  exact R0.out v0 v1 v2
 case each =>
  simp only [List.take_succ_cons, List.take_zero, AllE]
  refine ⟨⟨4, (.pointer (some ⟨w.heap.size, 0, none⟩)), rfl, by kernel_rfl, ?_⟩, ⟨5, (.int .i64 (k : Int)), rfl, by kernel_rfl, ?_⟩, ⟨6, (.int .u8 (k : Int)), rfl, by kernel_rfl, ?_⟩, ⟨7, rfl, ?q4_3⟩, ⟨8, (.pointer (some ⟨w.heap.size, 1, none⟩)), rfl, by kernel_rfl, ?_⟩, ⟨9, (.int .i64 (t : Int)), rfl, by kernel_rfl, ?_⟩, ⟨10, (.int .u64 (t : Int)), rfl, by kernel_rfl, ?_⟩, ⟨11, rfl, ?q4_7⟩, ⟨12, rfl, ?q4_8⟩, trivial⟩
  case q4_3 =>
   intro bsE vsE W hlb hlv hnd hbk h
   obtain ⟨b0, bsE0, rfl, hlb0⟩ := len_one hlb
   obtain ⟨v0, vsE0, rfl, hlv0⟩ := len_one hlv
   obtain ⟨b1, bsE1, rfl, hlb1⟩ := len_one hlb0
   obtain ⟨v1, vsE1, rfl, hlv1⟩ := len_one hlv0
   obtain ⟨b2, bsE2, rfl, hlb2⟩ := len_one hlb1
   obtain ⟨v2, vsE2, rfl, hlv2⟩ := len_one hlv1
   obtain rfl := len_nil hlb2
   obtain rfl := len_nil hlv2
   obtain rfl : b0 = false := hbk
   replace h : RawT w w.heap.size w.heap.size (.cells #[.int .i64 k, .int .i64 t, .int .i64 a, .int .i64 b, .string nm, .string ot] 29) [k] (b8 t) false b1 b2 v0 v1 v2 W := h
   clear hnd
   have HST := Lib.hid h
   have hb0 := h.bel.size; obtain ⟨g0, g1, g2, g3, g4, g5, gl⟩ := ev_cells h.box
   intro K Q hK
   simp only [putE, updAll, Act.put, List.setIfInBounds_toArray, List.set_cons_zero, List.set_cons_succ, List.set_nil] at hK ⊢
   go_wp2_with fail
   all_goals (first | exact hK _ _ h.mk0 | exact h.mk0)
  case q4_7 =>
   intro bsE vsE W hlb hlv hnd hbk h
   obtain ⟨b0, bsE0, rfl, hlb0⟩ := len_one hlb
   obtain ⟨v0, vsE0, rfl, hlv0⟩ := len_one hlv
   obtain ⟨b1, bsE1, rfl, hlb1⟩ := len_one hlb0
   obtain ⟨v1, vsE1, rfl, hlv1⟩ := len_one hlv0
   obtain ⟨b2, bsE2, rfl, hlb2⟩ := len_one hlb1
   obtain ⟨v2, vsE2, rfl, hlv2⟩ := len_one hlv1
   obtain rfl := len_nil hlb2
   obtain rfl := len_nil hlv2
   obtain rfl : b1 = false := hbk
   replace h : RawT w w.heap.size w.heap.size (.cells #[.int .i64 k, .int .i64 t, .int .i64 a, .int .i64 b, .string nm, .string ot] 29) [k] (b8 t) b0 false b2 v0 v1 v2 W := h
   clear hnd
   have HST := Lib.hid h
   have hb0 := h.bel.size; obtain ⟨g0, g1, g2, g3, g4, g5, gl⟩ := ev_cells h.box
   intro K Q hK
   simp only [putE, updAll, Act.put, List.setIfInBounds_toArray, List.set_cons_zero, List.set_cons_succ, List.set_nil] at hK ⊢
   go_wp2_with (go_at_call 141; refine (C1.out _).mono ?_; rintro e w1 ⟨rfl, hp, hb1⟩)
   all_goals (have hm := h.mk1 (c := 8) hb1 hp rfl (arr_at _))
   all_goals (first | exact hK _ _ hm | exact hm)
  case q4_8 =>
   intro bsE vsE W hlb hlv hnd hbk h
   obtain ⟨b0, bsE0, rfl, hlb0⟩ := len_one hlb
   obtain ⟨v0, vsE0, rfl, hlv0⟩ := len_one hlv
   obtain ⟨b1, bsE1, rfl, hlb1⟩ := len_one hlb0
   obtain ⟨v1, vsE1, rfl, hlv1⟩ := len_one hlv0
   obtain ⟨b2, bsE2, rfl, hlb2⟩ := len_one hlb1
   obtain ⟨v2, vsE2, rfl, hlv2⟩ := len_one hlv1
   obtain rfl := len_nil hlb2
   obtain rfl := len_nil hlv2
   obtain rfl : b0 = true := hnd 0 (by simp)
   obtain rfl : b1 = true := hnd 1 (by simp)
   obtain rfl : b2 = false := hbk
   replace h : RawT w w.heap.size w.heap.size (.cells #[.int .i64 k, .int .i64 t, .int .i64 a, .int .i64 b, .string nm, .string ot] 29) [k] (b8 t) true true false v0 v1 v2 W := h
   clear hnd
   have HST := Lib.hid h
   skip
   intro K Q hK
   simp only [putE, updAll, Act.put, List.setIfInBounds_toArray, List.set_cons_zero, List.set_cons_succ, List.set_nil] at hK ⊢
   refine h.app2 (.tmp 7) (.tmp 11) rfl rfl rfl (by simp [b8]) ?_
   intro v' W' k
   first | exact hK _ _ k | exact k
  all_goals
   intro bsE vsE W hlb hlv hnd h
   obtain ⟨b0, bsE0, rfl, hlb0⟩ := len_one hlb
   obtain ⟨v0, vsE0, rfl, hlv0⟩ := len_one hlv
   obtain ⟨b1, bsE1, rfl, hlb1⟩ := len_one hlb0
   obtain ⟨v1, vsE1, rfl, hlv1⟩ := len_one hlv0
   obtain ⟨b2, bsE2, rfl, hlb2⟩ := len_one hlb1
   obtain ⟨v2, vsE2, rfl, hlv2⟩ := len_one hlv1
   obtain rfl := len_nil hlb2
   obtain rfl := len_nil hlv2
   replace h : RawT w w.heap.size w.heap.size (.cells #[.int .i64 k, .int .i64 t, .int .i64 a, .int .i64 b, .string nm, .string ot] 29) [k] (b8 t) b0 b1 b2 v0 v1 v2 W := h
   clear hnd
   have HST := Lib.hid h
   have hb0 := h.bel.size; obtain ⟨g0, g1, g2, g3, g4, g5, gl⟩ := ev_cells h.box
   intro K Q hK
   simp only [putE, updAll, Act.put, List.setIfInBounds_toArray, List.set_cons_zero, List.set_cons_succ, List.set_nil] at hK ⊢
   go_wp2_with (fail)
   all_goals (first | exact hK _ (by first | exact h | exact h.step (by repeat' (first | exact Below.refl _ _ | apply bDrewN | apply bDrew))) | exact (by first | exact h | exact h.step (by repeat' (first | exact Below.refl _ _ | apply bDrewN | apply bDrew))))
 case tail =>
  intro vsE W hlv h
  obtain ⟨v0, vsE0, rfl, hlv0⟩ := len_one hlv
  obtain ⟨v1, vsE1, rfl, hlv1⟩ := len_one hlv0
  obtain ⟨v2, vsE2, rfl, hlv2⟩ := len_one hlv1
  obtain rfl := len_nil hlv2
  replace h : RawT w w.heap.size w.heap.size (.cells #[.int .i64 k, .int .i64 t, .int .i64 a, .int .i64 b, .string nm, .string ot] 29) [k] (b8 t) true true true v0 v1 v2 W := h
  have HST := Lib.hid h
  have P2 := Lib.hid h.fin
  refine wpOp_plain rfl rfl ?_
  simp only [putE, updAll, Act.put, List.setIfInBounds_toArray, List.set_cons_zero, List.set_cons_succ, List.set_nil]
  clear h HST R0
  generalize hR1 : [k] ++ b8 t = R1 at *
  have HR1 := Lib.hid hR1
  clear hR1
  have HL1 := Lib.hid (show R1.length ≤ 10 by rw [← HR1.out]; simp [b8])
  generalize v2 = vq1 at *
  go_upto_region 2 with fail
  refine region_effs 11 12 [(4, 17), (5, 18), (9, 22), (10, 23)] [(none, []), (none, []), (none, []), (none, []), (some 0, []), (some 1, [0]), (none, []), (none, []), (none, []), (some 2, []), (some 3, [1, 2])] [(13, vq1), (14, (.pointer (some ⟨w.heap.size, 2, none⟩))), (15, (.int .i64 (a : Int))), (16, (.int .u64 (a : Int))), (19, (.pointer (some ⟨w.heap.size, 3, none⟩))), (20, (.int .i64 (b : Int))), (21, (.int .u64 (b : Int)))] (fun bsE vsE W => RawS w w.heap.size w.heap.size (.cells #[.int .i64 k, .int .i64 t, .int .i64 a, .int .i64 b, .string nm, .string ot] 29) (R1) (b8 a) (b8 b) vq1 (bsE.getD 0 false) (bsE.getD 1 false) (bsE.getD 2 false) (bsE.getD 3 false) (vsE.getD 0 undef) (vsE.getD 1 undef) (vsE.getD 2 undef) (vsE.getD 3 undef) W) (by kernel_rfl) (by kernel_rfl) rfl (by kernel_rfl) (by kernel_rfl) (by simp) (by rfl) ?h0 ?each ?tail
  case h0 =>
   intro vsE hlv
   obtain ⟨v0, vsE0, rfl, hlv0⟩ := len_one hlv
   obtain ⟨v1, vsE1, rfl, hlv1⟩ := len_one hlv0
   obtain ⟨v2, vsE2, rfl, hlv2⟩ := len_one hlv1
   obtain ⟨v3, vsE3, rfl, hlv3⟩ := len_one hlv2
   obtain rfl := len_nil hlv3
   exact RawS.start P2.out
  case each =>
   simp only [List.take_succ_cons, List.take_zero, AllE]
   refine ⟨⟨13, vq1, rfl, by kernel_rfl, ?_⟩, ⟨14, (.pointer (some ⟨w.heap.size, 2, none⟩)), rfl, by kernel_rfl, ?_⟩, ⟨15, (.int .i64 (a : Int)), rfl, by kernel_rfl, ?_⟩, ⟨16, (.int .u64 (a : Int)), rfl, by kernel_rfl, ?_⟩, ⟨17, rfl, ?q3_4⟩, ⟨18, rfl, ?q3_5⟩, ⟨19, (.pointer (some ⟨w.heap.size, 3, none⟩)), rfl, by kernel_rfl, ?_⟩, ⟨20, (.int .i64 (b : Int)), rfl, by kernel_rfl, ?_⟩, ⟨21, (.int .u64 (b : Int)), rfl, by kernel_rfl, ?_⟩, ⟨22, rfl, ?q3_9⟩, ⟨23, rfl, ?q3_10⟩, trivial⟩
   case q3_4 =>
    intro bsE vsE W hlb hlv hnd hbk h
    obtain ⟨b0, bsE0, rfl, hlb0⟩ := len_one hlb
    obtain ⟨v0, vsE0, rfl, hlv0⟩ := len_one hlv
    obtain ⟨b1, bsE1, rfl, hlb1⟩ := len_one hlb0
    obtain ⟨v1, vsE1, rfl, hlv1⟩ := len_one hlv0
    obtain ⟨b2, bsE2, rfl, hlb2⟩ := len_one hlb1
    obtain ⟨v2, vsE2, rfl, hlv2⟩ := len_one hlv1
    obtain ⟨b3, bsE3, rfl, hlb3⟩ := len_one hlb2
    obtain ⟨v3, vsE3, rfl, hlv3⟩ := len_one hlv2
    obtain rfl := len_nil hlb3
    obtain rfl := len_nil hlv3
    obtain rfl : b0 = false := hbk
    replace h : RawS w w.heap.size w.heap.size (.cells #[.int .i64 k, .int .i64 t, .int .i64 a, .int .i64 b, .string nm, .string ot] 29) (R1) (b8 a) (b8 b) vq1 false b1 b2 b3 v0 v1 v2 v3 W := h
    clear hnd
    have HST := Lib.hid h
    have hb0 := h.bel.size; obtain ⟨g0, g1, g2, g3, g4, g5, gl⟩ := ev_cells h.box
    intro K Q hK
    simp only [putE, updAll, Act.put, List.setIfInBounds_toArray, List.set_cons_zero, List.set_cons_succ, List.set_nil] at hK ⊢
    go_wp2_with (go_at_call 141; refine (C2.out _).mono ?_; rintro e w1 ⟨rfl, hp, hb1⟩)
    all_goals (have hm := h.mk0 (c := 8) hb1 hp rfl (arr_at _))
    all_goals (first | exact hK _ _ hm | exact hm)
   case q3_5 =>
    intro bsE vsE W hlb hlv hnd hbk h
    obtain ⟨b0, bsE0, rfl, hlb0⟩ := len_one hlb
    obtain ⟨v0, vsE0, rfl, hlv0⟩ := len_one hlv
    obtain ⟨b1, bsE1, rfl, hlb1⟩ := len_one hlb0
    obtain ⟨v1, vsE1, rfl, hlv1⟩ := len_one hlv0
    obtain ⟨b2, bsE2, rfl, hlb2⟩ := len_one hlb1
    obtain ⟨v2, vsE2, rfl, hlv2⟩ := len_one hlv1
    obtain ⟨b3, bsE3, rfl, hlb3⟩ := len_one hlb2
    obtain ⟨v3, vsE3, rfl, hlv3⟩ := len_one hlv2
    obtain rfl := len_nil hlb3
    obtain rfl := len_nil hlv3
    obtain rfl : b0 = true := hnd 0 (by simp)
    obtain rfl : b1 = false := hbk
    replace h : RawS w w.heap.size w.heap.size (.cells #[.int .i64 k, .int .i64 t, .int .i64 a, .int .i64 b, .string nm, .string ot] 29) (R1) (b8 a) (b8 b) vq1 true false b2 b3 v0 v1 v2 v3 W := h
    clear hnd
    have HST := Lib.hid h
    obtain rfl := h.n1
    intro K Q hK
    simp only [putE, updAll, Act.put, List.setIfInBounds_toArray, List.set_cons_zero, List.set_cons_succ, List.set_nil] at hK ⊢
    refine h.app1 (.tmp 13) (.tmp 17) rfl rfl rfl (by have := HL1.out; simp [b8]; omega) ?_
    intro v' W' k
    first | exact hK _ _ k | exact k
   case q3_9 =>
    intro bsE vsE W hlb hlv hnd hbk h
    obtain ⟨b0, bsE0, rfl, hlb0⟩ := len_one hlb
    obtain ⟨v0, vsE0, rfl, hlv0⟩ := len_one hlv
    obtain ⟨b1, bsE1, rfl, hlb1⟩ := len_one hlb0
    obtain ⟨v1, vsE1, rfl, hlv1⟩ := len_one hlv0
    obtain ⟨b2, bsE2, rfl, hlb2⟩ := len_one hlb1
    obtain ⟨v2, vsE2, rfl, hlv2⟩ := len_one hlv1
    obtain ⟨b3, bsE3, rfl, hlb3⟩ := len_one hlb2
    obtain ⟨v3, vsE3, rfl, hlv3⟩ := len_one hlv2
    obtain rfl := len_nil hlb3
    obtain rfl := len_nil hlv3
    obtain rfl : b2 = false := hbk
    replace h : RawS w w.heap.size w.heap.size (.cells #[.int .i64 k, .int .i64 t, .int .i64 a, .int .i64 b, .string nm, .string ot] 29) (R1) (b8 a) (b8 b) vq1 b0 b1 false b3 v0 v1 v2 v3 W := h
    clear hnd
    have HST := Lib.hid h
    have hb0 := h.bel.size; obtain ⟨g0, g1, g2, g3, g4, g5, gl⟩ := ev_cells h.box
    intro K Q hK
    simp only [putE, updAll, Act.put, List.setIfInBounds_toArray, List.set_cons_zero, List.set_cons_succ, List.set_nil] at hK ⊢
    go_wp2_with (go_at_call 141; refine (C3.out _).mono ?_; rintro e w1 ⟨rfl, hp, hb1⟩)
    all_goals (have hm := h.mk2 (c := 8) hb1 hp rfl (arr_at _))
    all_goals (first | exact hK _ _ hm | exact hm)
   case q3_10 =>
    intro bsE vsE W hlb hlv hnd hbk h
    obtain ⟨b0, bsE0, rfl, hlb0⟩ := len_one hlb
    obtain ⟨v0, vsE0, rfl, hlv0⟩ := len_one hlv
    obtain ⟨b1, bsE1, rfl, hlb1⟩ := len_one hlb0
    obtain ⟨v1, vsE1, rfl, hlv1⟩ := len_one hlv0
    obtain ⟨b2, bsE2, rfl, hlb2⟩ := len_one hlb1
    obtain ⟨v2, vsE2, rfl, hlv2⟩ := len_one hlv1
    obtain ⟨b3, bsE3, rfl, hlb3⟩ := len_one hlb2
    obtain ⟨v3, vsE3, rfl, hlv3⟩ := len_one hlv2
    obtain rfl := len_nil hlb3
    obtain rfl := len_nil hlv3
    obtain rfl : b1 = true := hnd 1 (by simp)
    obtain rfl : b2 = true := hnd 2 (by simp)
    obtain rfl : b3 = false := hbk
    replace h : RawS w w.heap.size w.heap.size (.cells #[.int .i64 k, .int .i64 t, .int .i64 a, .int .i64 b, .string nm, .string ot] 29) (R1) (b8 a) (b8 b) vq1 b0 true true false v0 v1 v2 v3 W := h
    clear hnd
    have HST := Lib.hid h
    skip
    intro K Q hK
    simp only [putE, updAll, Act.put, List.setIfInBounds_toArray, List.set_cons_zero, List.set_cons_succ, List.set_nil] at hK ⊢
    refine h.app3 (.tmp 18) (.tmp 22) rfl rfl rfl (by have := HL1.out; simp [b8]; omega) ?_
    intro v' W' k
    first | exact hK _ _ k | exact k
   all_goals
    intro bsE vsE W hlb hlv hnd h
    obtain ⟨b0, bsE0, rfl, hlb0⟩ := len_one hlb
    obtain ⟨v0, vsE0, rfl, hlv0⟩ := len_one hlv
    obtain ⟨b1, bsE1, rfl, hlb1⟩ := len_one hlb0
    obtain ⟨v1, vsE1, rfl, hlv1⟩ := len_one hlv0
    obtain ⟨b2, bsE2, rfl, hlb2⟩ := len_one hlb1
    obtain ⟨v2, vsE2, rfl, hlv2⟩ := len_one hlv1
    obtain ⟨b3, bsE3, rfl, hlb3⟩ := len_one hlb2
    obtain ⟨v3, vsE3, rfl, hlv3⟩ := len_one hlv2
    obtain rfl := len_nil hlb3
    obtain rfl := len_nil hlv3
    replace h : RawS w w.heap.size w.heap.size (.cells #[.int .i64 k, .int .i64 t, .int .i64 a, .int .i64 b, .string nm, .string ot] 29) (R1) (b8 a) (b8 b) vq1 b0 b1 b2 b3 v0 v1 v2 v3 W := h
    clear hnd
    have HST := Lib.hid h
    have hb0 := h.bel.size; obtain ⟨g0, g1, g2, g3, g4, g5, gl⟩ := ev_cells h.box
    intro K Q hK
    simp only [putE, updAll, Act.put, List.setIfInBounds_toArray, List.set_cons_zero, List.set_cons_succ, List.set_nil] at hK ⊢
    go_wp2_with (fail)
    all_goals (first | exact hK _ (by first | exact h | exact h.step (by repeat' (first | exact Below.refl _ _ | apply bDrewN | apply bDrew))) | exact (by first | exact h | exact h.step (by repeat' (first | exact Below.refl _ _ | apply bDrewN | apply bDrew))))
  case tail =>
   intro vsE W hlv h
   obtain ⟨v0, vsE0, rfl, hlv0⟩ := len_one hlv
   obtain ⟨v1, vsE1, rfl, hlv1⟩ := len_one hlv0
   obtain ⟨v2, vsE2, rfl, hlv2⟩ := len_one hlv1
   obtain ⟨v3, vsE3, rfl, hlv3⟩ := len_one hlv2
   obtain rfl := len_nil hlv3
   replace h : RawS w w.heap.size w.heap.size (.cells #[.int .i64 k, .int .i64 t, .int .i64 a, .int .i64 b, .string nm, .string ot] 29) (R1) (b8 a) (b8 b) vq1 true true true true v0 v1 v2 v3 W := h
   have HST := Lib.hid h
   have P3 := Lib.hid h.fin
   refine wpOp_plain rfl rfl ?_
   simp only [putE, updAll, Act.put, List.setIfInBounds_toArray, List.set_cons_zero, List.set_cons_succ, List.set_nil]
   clear h HST P2
   generalize hR2 : R1 ++ b8 a ++ b8 b = R2 at *
   have HR2 := Lib.hid hR2
   clear hR2
   have HL2 := Lib.hid (show R2.length ≤ 50 by rw [← HR2.out]; simp [b8]; have := HL1.out; omega)
   generalize v3 = vq2 at *
   go_upto_region 3 with fail
   refine region_effs 11 12 [(5, 29), (6, 30), (9, 33), (10, 34)] [(none, []), (none, []), (none, []), (none, []), (none, []), (some 0, []), (some 1, [0]), (none, []), (none, []), (some 2, []), (some 3, [1, 2])] [(24, vq2), (25, (.pointer (some ⟨w.heap.size, 4, none⟩))), (26, (.string nm)), (27, (.int .i64 (nm.size : Int))), (28, (.int .u8 (nm.size : Int))), (31, (.pointer (some ⟨w.heap.size, 4, none⟩))), (32, (.string nm))] (fun bsE vsE W => RawS w w.heap.size w.heap.size (.cells #[.int .i64 k, .int .i64 t, .int .i64 a, .int .i64 b, .string nm, .string ot] 29) (R2) ([nm.size]) (nm.data.toList.map UInt8.toNat) vq2 (bsE.getD 0 false) (bsE.getD 1 false) (bsE.getD 2 false) (bsE.getD 3 false) (vsE.getD 0 undef) (vsE.getD 1 undef) (vsE.getD 2 undef) (vsE.getD 3 undef) W) (by kernel_rfl) (by kernel_rfl) rfl (by kernel_rfl) (by kernel_rfl) (by simp) (by rfl) ?h0 ?each ?tail
   case h0 =>
    intro vsE hlv
    obtain ⟨v0, vsE0, rfl, hlv0⟩ := len_one hlv
    obtain ⟨v1, vsE1, rfl, hlv1⟩ := len_one hlv0
    obtain ⟨v2, vsE2, rfl, hlv2⟩ := len_one hlv1
    obtain ⟨v3, vsE3, rfl, hlv3⟩ := len_one hlv2
    obtain rfl := len_nil hlv3
    exact RawS.start P3.out
   case each =>
    simp only [List.take_succ_cons, List.take_zero, AllE]
    refine ⟨⟨24, vq2, rfl, by kernel_rfl, ?_⟩, ⟨25, (.pointer (some ⟨w.heap.size, 4, none⟩)), rfl, by kernel_rfl, ?_⟩, ⟨26, (.string nm), rfl, by kernel_rfl, ?_⟩, ⟨27, (.int .i64 (nm.size : Int)), rfl, by kernel_rfl, ?_⟩, ⟨28, (.int .u8 (nm.size : Int)), rfl, by kernel_rfl, ?_⟩, ⟨29, rfl, ?q2_5⟩, ⟨30, rfl, ?q2_6⟩, ⟨31, (.pointer (some ⟨w.heap.size, 4, none⟩)), rfl, by kernel_rfl, ?_⟩, ⟨32, (.string nm), rfl, by kernel_rfl, ?_⟩, ⟨33, rfl, ?q2_9⟩, ⟨34, rfl, ?q2_10⟩, trivial⟩
    case q2_5 =>
     intro bsE vsE W hlb hlv hnd hbk h
     obtain ⟨b0, bsE0, rfl, hlb0⟩ := len_one hlb
     obtain ⟨v0, vsE0, rfl, hlv0⟩ := len_one hlv
     obtain ⟨b1, bsE1, rfl, hlb1⟩ := len_one hlb0
     obtain ⟨v1, vsE1, rfl, hlv1⟩ := len_one hlv0
     obtain ⟨b2, bsE2, rfl, hlb2⟩ := len_one hlb1
     obtain ⟨v2, vsE2, rfl, hlv2⟩ := len_one hlv1
     obtain ⟨b3, bsE3, rfl, hlb3⟩ := len_one hlb2
     obtain ⟨v3, vsE3, rfl, hlv3⟩ := len_one hlv2
     obtain rfl := len_nil hlb3
     obtain rfl := len_nil hlv3
     obtain rfl : b0 = false := hbk
     replace h : RawS w w.heap.size w.heap.size (.cells #[.int .i64 k, .int .i64 t, .int .i64 a, .int .i64 b, .string nm, .string ot] 29) (R2) ([nm.size]) (nm.data.toList.map UInt8.toNat) vq2 false b1 b2 b3 v0 v1 v2 v3 W := h
     clear hnd
     have HST := Lib.hid h
     have hb0 := h.bel.size; obtain ⟨g0, g1, g2, g3, g4, g5, gl⟩ := ev_cells h.box
     intro K Q hK
     simp only [putE, updAll, Act.put, List.setIfInBounds_toArray, List.set_cons_zero, List.set_cons_succ, List.set_nil] at hK ⊢
     go_wp2_with fail
     all_goals (have hm := h.mk0 (c := 1) Mr.bAl (blk_new W (.cells #[.int .u8 (nm.size : Int)] 5)) rfl (by intro j u hj; simpa [byC] using hj))
     all_goals (first | exact hK _ _ hm | exact hm)
    case q2_6 =>
     intro bsE vsE W hlb hlv hnd hbk h
     obtain ⟨b0, bsE0, rfl, hlb0⟩ := len_one hlb
     obtain ⟨v0, vsE0, rfl, hlv0⟩ := len_one hlv
     obtain ⟨b1, bsE1, rfl, hlb1⟩ := len_one hlb0
     obtain ⟨v1, vsE1, rfl, hlv1⟩ := len_one hlv0
     obtain ⟨b2, bsE2, rfl, hlb2⟩ := len_one hlb1
     obtain ⟨v2, vsE2, rfl, hlv2⟩ := len_one hlv1
     obtain ⟨b3, bsE3, rfl, hlb3⟩ := len_one hlb2
     obtain ⟨v3, vsE3, rfl, hlv3⟩ := len_one hlv2
     obtain rfl := len_nil hlb3
     obtain rfl := len_nil hlv3
     obtain rfl : b0 = true := hnd 0 (by simp)
     obtain rfl : b1 = false := hbk
     replace h : RawS w w.heap.size w.heap.size (.cells #[.int .i64 k, .int .i64 t, .int .i64 a, .int .i64 b, .string nm, .string ot] 29) (R2) ([nm.size]) (nm.data.toList.map UInt8.toNat) vq2 true false b2 b3 v0 v1 v2 v3 W := h
     clear hnd
     have HST := Lib.hid h
     obtain rfl := h.n1
     intro K Q hK
     simp only [putE, updAll, Act.put, List.setIfInBounds_toArray, List.set_cons_zero, List.set_cons_succ, List.set_nil] at hK ⊢
     refine h.app1 (.tmp 24) (.tmp 29) rfl rfl rfl (by have := HL2.out; simp [← Lib.size_eq]; omega) ?_
     intro v' W' k
     first | exact hK _ _ k | exact k
    case q2_9 =>
     intro bsE vsE W hlb hlv hnd hbk h
     obtain ⟨b0, bsE0, rfl, hlb0⟩ := len_one hlb
     obtain ⟨v0, vsE0, rfl, hlv0⟩ := len_one hlv
     obtain ⟨b1, bsE1, rfl, hlb1⟩ := len_one hlb0
     obtain ⟨v1, vsE1, rfl, hlv1⟩ := len_one hlv0
     obtain ⟨b2, bsE2, rfl, hlb2⟩ := len_one hlb1
     obtain ⟨v2, vsE2, rfl, hlv2⟩ := len_one hlv1
     obtain ⟨b3, bsE3, rfl, hlb3⟩ := len_one hlb2
     obtain ⟨v3, vsE3, rfl, hlv3⟩ := len_one hlv2
     obtain rfl := len_nil hlb3
     obtain rfl := len_nil hlv3
     obtain rfl : b2 = false := hbk
     replace h : RawS w w.heap.size w.heap.size (.cells #[.int .i64 k, .int .i64 t, .int .i64 a, .int .i64 b, .string nm, .string ot] 29) (R2) ([nm.size]) (nm.data.toList.map UInt8.toNat) vq2 b0 b1 false b3 v0 v1 v2 v3 W := h
     clear hnd
     have HST := Lib.hid h
     have hb0 := h.bel.size; obtain ⟨g0, g1, g2, g3, g4, g5, gl⟩ := ev_cells h.box
     intro K Q hK
     simp only [putE, updAll, Act.put, List.setIfInBounds_toArray, List.set_cons_zero, List.set_cons_succ, List.set_nil] at hK ⊢
     have hcv := run_bytes_of_string (P := Tryz.prog) W 9 88 5 nm Tryz.underlying9 Tryz.underlying88 Tryz.underlying5
     have hm := h.mk2 (c := grownCap W nm.size 0 5) (w2 := W.drew.alloc (.cells (bytesRow nm (grownCap W nm.size 0 5)) 5 ((bytesRow nm (grownCap W nm.size 0 5)).size, (bytesRow nm (grownCap W nm.size 0 5)).size + 1))) (((Below.refl _ _).drew).alloc (Nat.le_refl _) _) (blk_new W.drew _) (show nm.size = (nm.data.toList.map UInt8.toNat).length by rw [List.length_map, ← Lib.size_eq]) (str_cells nm _)
     generalize bytesRow nm (grownCap W nm.size 0 5) = C at *
     generalize grownCap W nm.size 0 5 = cp at *
     go_wp2_with fail
     all_goals (first | exact hK _ _ hm | exact hm)
    case q2_10 =>
     intro bsE vsE W hlb hlv hnd hbk h
     obtain ⟨b0, bsE0, rfl, hlb0⟩ := len_one hlb
     obtain ⟨v0, vsE0, rfl, hlv0⟩ := len_one hlv
     obtain ⟨b1, bsE1, rfl, hlb1⟩ := len_one hlb0
     obtain ⟨v1, vsE1, rfl, hlv1⟩ := len_one hlv0
     obtain ⟨b2, bsE2, rfl, hlb2⟩ := len_one hlb1
     obtain ⟨v2, vsE2, rfl, hlv2⟩ := len_one hlv1
     obtain ⟨b3, bsE3, rfl, hlb3⟩ := len_one hlb2
     obtain ⟨v3, vsE3, rfl, hlv3⟩ := len_one hlv2
     obtain rfl := len_nil hlb3
     obtain rfl := len_nil hlv3
     obtain rfl : b1 = true := hnd 1 (by simp)
     obtain rfl : b2 = true := hnd 2 (by simp)
     obtain rfl : b3 = false := hbk
     replace h : RawS w w.heap.size w.heap.size (.cells #[.int .i64 k, .int .i64 t, .int .i64 a, .int .i64 b, .string nm, .string ot] 29) (R2) ([nm.size]) (nm.data.toList.map UInt8.toNat) vq2 b0 true true false v0 v1 v2 v3 W := h
     clear hnd
     have HST := Lib.hid h
     skip
     intro K Q hK
     simp only [putE, updAll, Act.put, List.setIfInBounds_toArray, List.set_cons_zero, List.set_cons_succ, List.set_nil] at hK ⊢
     refine h.app3 (.tmp 30) (.tmp 33) rfl rfl rfl (by have := HL2.out; simp [← Lib.size_eq]; omega) ?_
     intro v' W' k
     first | exact hK _ _ k | exact k
    all_goals
     intro bsE vsE W hlb hlv hnd h
     obtain ⟨b0, bsE0, rfl, hlb0⟩ := len_one hlb
     obtain ⟨v0, vsE0, rfl, hlv0⟩ := len_one hlv
     obtain ⟨b1, bsE1, rfl, hlb1⟩ := len_one hlb0
     obtain ⟨v1, vsE1, rfl, hlv1⟩ := len_one hlv0
     obtain ⟨b2, bsE2, rfl, hlb2⟩ := len_one hlb1
     obtain ⟨v2, vsE2, rfl, hlv2⟩ := len_one hlv1
     obtain ⟨b3, bsE3, rfl, hlb3⟩ := len_one hlb2
     obtain ⟨v3, vsE3, rfl, hlv3⟩ := len_one hlv2
     obtain rfl := len_nil hlb3
     obtain rfl := len_nil hlv3
     replace h : RawS w w.heap.size w.heap.size (.cells #[.int .i64 k, .int .i64 t, .int .i64 a, .int .i64 b, .string nm, .string ot] 29) (R2) ([nm.size]) (nm.data.toList.map UInt8.toNat) vq2 b0 b1 b2 b3 v0 v1 v2 v3 W := h
     clear hnd
     have HST := Lib.hid h
     have hb0 := h.bel.size; obtain ⟨g0, g1, g2, g3, g4, g5, gl⟩ := ev_cells h.box
     intro K Q hK
     simp only [putE, updAll, Act.put, List.setIfInBounds_toArray, List.set_cons_zero, List.set_cons_succ, List.set_nil] at hK ⊢
     go_wp2_with (fail)
     all_goals (first | exact hK _ (by first | exact h | exact h.step (by repeat' (first | exact Below.refl _ _ | apply bDrewN | apply bDrew))) | exact (by first | exact h | exact h.step (by repeat' (first | exact Below.refl _ _ | apply bDrewN | apply bDrew))))
   case tail =>
    intro vsE W hlv h
    obtain ⟨v0, vsE0, rfl, hlv0⟩ := len_one hlv
    obtain ⟨v1, vsE1, rfl, hlv1⟩ := len_one hlv0
    obtain ⟨v2, vsE2, rfl, hlv2⟩ := len_one hlv1
    obtain ⟨v3, vsE3, rfl, hlv3⟩ := len_one hlv2
    obtain rfl := len_nil hlv3
    replace h : RawS w w.heap.size w.heap.size (.cells #[.int .i64 k, .int .i64 t, .int .i64 a, .int .i64 b, .string nm, .string ot] 29) (R2) ([nm.size]) (nm.data.toList.map UInt8.toNat) vq2 true true true true v0 v1 v2 v3 W := h
    have HST := Lib.hid h
    have P4 := Lib.hid h.fin
    refine wpOp_plain rfl rfl ?_
    simp only [putE, updAll, Act.put, List.setIfInBounds_toArray, List.set_cons_zero, List.set_cons_succ, List.set_nil]
    clear h HST P3
    generalize hR3 : R2 ++ [nm.size] ++ nm.data.toList.map UInt8.toNat = R3 at *
    have HR3 := Lib.hid hR3
    clear hR3
    have HL3 := Lib.hid (show R3.length ≤ 200 by have := HL2.out; rw [← HR3.out]; simp [← Lib.size_eq]; omega)
    generalize v3 = vq3 at *
    go_upto_region 4 with fail
    refine region_effs 11 12 [(5, 40), (6, 41), (9, 44), (10, 45)] [(none, []), (none, []), (none, []), (none, []), (none, []), (some 0, []), (some 1, [0]), (none, []), (none, []), (some 2, []), (some 3, [1, 2])] [(35, vq3), (36, (.pointer (some ⟨w.heap.size, 5, none⟩))), (37, (.string ot)), (38, (.int .i64 (ot.size : Int))), (39, (.int .u8 (ot.size : Int))), (42, (.pointer (some ⟨w.heap.size, 5, none⟩))), (43, (.string ot))] (fun bsE vsE W => RawS w w.heap.size w.heap.size (.cells #[.int .i64 k, .int .i64 t, .int .i64 a, .int .i64 b, .string nm, .string ot] 29) (R3) ([ot.size]) (ot.data.toList.map UInt8.toNat) vq3 (bsE.getD 0 false) (bsE.getD 1 false) (bsE.getD 2 false) (bsE.getD 3 false) (vsE.getD 0 undef) (vsE.getD 1 undef) (vsE.getD 2 undef) (vsE.getD 3 undef) W) (by kernel_rfl) (by kernel_rfl) rfl (by kernel_rfl) (by kernel_rfl) (by simp) (by rfl) ?h0 ?each ?tail
    case h0 =>
     intro vsE hlv
     obtain ⟨v0, vsE0, rfl, hlv0⟩ := len_one hlv
     obtain ⟨v1, vsE1, rfl, hlv1⟩ := len_one hlv0
     obtain ⟨v2, vsE2, rfl, hlv2⟩ := len_one hlv1
     obtain ⟨v3, vsE3, rfl, hlv3⟩ := len_one hlv2
     obtain rfl := len_nil hlv3
     exact RawS.start P4.out
    case each =>
     simp only [List.take_succ_cons, List.take_zero, AllE]
     refine ⟨⟨35, vq3, rfl, by kernel_rfl, ?_⟩, ⟨36, (.pointer (some ⟨w.heap.size, 5, none⟩)), rfl, by kernel_rfl, ?_⟩, ⟨37, (.string ot), rfl, by kernel_rfl, ?_⟩, ⟨38, (.int .i64 (ot.size : Int)), rfl, by kernel_rfl, ?_⟩, ⟨39, (.int .u8 (ot.size : Int)), rfl, by kernel_rfl, ?_⟩, ⟨40, rfl, ?q1_5⟩, ⟨41, rfl, ?q1_6⟩, ⟨42, (.pointer (some ⟨w.heap.size, 5, none⟩)), rfl, by kernel_rfl, ?_⟩, ⟨43, (.string ot), rfl, by kernel_rfl, ?_⟩, ⟨44, rfl, ?q1_9⟩, ⟨45, rfl, ?q1_10⟩, trivial⟩
     case q1_5 =>
      intro bsE vsE W hlb hlv hnd hbk h
      obtain ⟨b0, bsE0, rfl, hlb0⟩ := len_one hlb
      obtain ⟨v0, vsE0, rfl, hlv0⟩ := len_one hlv
      obtain ⟨b1, bsE1, rfl, hlb1⟩ := len_one hlb0
      obtain ⟨v1, vsE1, rfl, hlv1⟩ := len_one hlv0
      obtain ⟨b2, bsE2, rfl, hlb2⟩ := len_one hlb1
      obtain ⟨v2, vsE2, rfl, hlv2⟩ := len_one hlv1
      obtain ⟨b3, bsE3, rfl, hlb3⟩ := len_one hlb2
      obtain ⟨v3, vsE3, rfl, hlv3⟩ := len_one hlv2
      obtain rfl := len_nil hlb3
      obtain rfl := len_nil hlv3
      obtain rfl : b0 = false := hbk
      replace h : RawS w w.heap.size w.heap.size (.cells #[.int .i64 k, .int .i64 t, .int .i64 a, .int .i64 b, .string nm, .string ot] 29) (R3) ([ot.size]) (ot.data.toList.map UInt8.toNat) vq3 false b1 b2 b3 v0 v1 v2 v3 W := h
      clear hnd
      have HST := Lib.hid h
      have hb0 := h.bel.size; obtain ⟨g0, g1, g2, g3, g4, g5, gl⟩ := ev_cells h.box
      intro K Q hK
      simp only [putE, updAll, Act.put, List.setIfInBounds_toArray, List.set_cons_zero, List.set_cons_succ, List.set_nil] at hK ⊢
      go_wp2_with fail
      all_goals (have hm := h.mk0 (c := 1) Mr.bAl (blk_new W (.cells #[.int .u8 (ot.size : Int)] 5)) rfl (by intro j u hj; simpa [byC] using hj))
      all_goals (first | exact hK _ _ hm | exact hm)
     case q1_6 =>
      intro bsE vsE W hlb hlv hnd hbk h
      obtain ⟨b0, bsE0, rfl, hlb0⟩ := len_one hlb
      obtain ⟨v0, vsE0, rfl, hlv0⟩ := len_one hlv
      obtain ⟨b1, bsE1, rfl, hlb1⟩ := len_one hlb0
      obtain ⟨v1, vsE1, rfl, hlv1⟩ := len_one hlv0
      obtain ⟨b2, bsE2, rfl, hlb2⟩ := len_one hlb1
      obtain ⟨v2, vsE2, rfl, hlv2⟩ := len_one hlv1
      obtain ⟨b3, bsE3, rfl, hlb3⟩ := len_one hlb2
      obtain ⟨v3, vsE3, rfl, hlv3⟩ := len_one hlv2
      obtain rfl := len_nil hlb3
      obtain rfl := len_nil hlv3
      obtain rfl : b0 = true := hnd 0 (by simp)
      obtain rfl : b1 = false := hbk
      replace h : RawS w w.heap.size w.heap.size (.cells #[.int .i64 k, .int .i64 t, .int .i64 a, .int .i64 b, .string nm, .string ot] 29) (R3) ([ot.size]) (ot.data.toList.map UInt8.toNat) vq3 true false b2 b3 v0 v1 v2 v3 W := h
      clear hnd
      have HST := Lib.hid h
      obtain rfl := h.n1
      intro K Q hK
      simp only [putE, updAll, Act.put, List.setIfInBounds_toArray, List.set_cons_zero, List.set_cons_succ, List.set_nil] at hK ⊢
      refine h.app1 (.tmp 35) (.tmp 40) rfl rfl rfl (by have := HL3.out; simp [← Lib.size_eq]; omega) ?_
      intro v' W' k
      first | exact hK _ _ k | exact k
     case q1_9 =>
      intro bsE vsE W hlb hlv hnd hbk h
      obtain ⟨b0, bsE0, rfl, hlb0⟩ := len_one hlb
      obtain ⟨v0, vsE0, rfl, hlv0⟩ := len_one hlv
      obtain ⟨b1, bsE1, rfl, hlb1⟩ := len_one hlb0
      obtain ⟨v1, vsE1, rfl, hlv1⟩ := len_one hlv0
      obtain ⟨b2, bsE2, rfl, hlb2⟩ := len_one hlb1
      obtain ⟨v2, vsE2, rfl, hlv2⟩ := len_one hlv1
      obtain ⟨b3, bsE3, rfl, hlb3⟩ := len_one hlb2
      obtain ⟨v3, vsE3, rfl, hlv3⟩ := len_one hlv2
      obtain rfl := len_nil hlb3
      obtain rfl := len_nil hlv3
      obtain rfl : b2 = false := hbk
      replace h : RawS w w.heap.size w.heap.size (.cells #[.int .i64 k, .int .i64 t, .int .i64 a, .int .i64 b, .string nm, .string ot] 29) (R3) ([ot.size]) (ot.data.toList.map UInt8.toNat) vq3 b0 b1 false b3 v0 v1 v2 v3 W := h
      clear hnd
      have HST := Lib.hid h
      have hb0 := h.bel.size; obtain ⟨g0, g1, g2, g3, g4, g5, gl⟩ := ev_cells h.box
      intro K Q hK
      simp only [putE, updAll, Act.put, List.setIfInBounds_toArray, List.set_cons_zero, List.set_cons_succ, List.set_nil] at hK ⊢
      have hcv := run_bytes_of_string (P := Tryz.prog) W 9 88 5 ot Tryz.underlying9 Tryz.underlying88 Tryz.underlying5
      have hm := h.mk2 (c := grownCap W ot.size 0 5) (w2 := W.drew.alloc (.cells (bytesRow ot (grownCap W ot.size 0 5)) 5 ((bytesRow ot (grownCap W ot.size 0 5)).size, (bytesRow ot (grownCap W ot.size 0 5)).size + 1))) (((Below.refl _ _).drew).alloc (Nat.le_refl _) _) (blk_new W.drew _) (show ot.size = (ot.data.toList.map UInt8.toNat).length by rw [List.length_map, ← Lib.size_eq]) (str_cells ot _)
      generalize bytesRow ot (grownCap W ot.size 0 5) = C at *
      generalize grownCap W ot.size 0 5 = cp at *
      go_wp2_with fail
      all_goals (first | exact hK _ _ hm | exact hm)
     case q1_10 =>
      intro bsE vsE W hlb hlv hnd hbk h
      obtain ⟨b0, bsE0, rfl, hlb0⟩ := len_one hlb
      obtain ⟨v0, vsE0, rfl, hlv0⟩ := len_one hlv
      obtain ⟨b1, bsE1, rfl, hlb1⟩ := len_one hlb0
      obtain ⟨v1, vsE1, rfl, hlv1⟩ := len_one hlv0
      obtain ⟨b2, bsE2, rfl, hlb2⟩ := len_one hlb1
      obtain ⟨v2, vsE2, rfl, hlv2⟩ := len_one hlv1
      obtain ⟨b3, bsE3, rfl, hlb3⟩ := len_one hlb2
      obtain ⟨v3, vsE3, rfl, hlv3⟩ := len_one hlv2
      obtain rfl := len_nil hlb3
      obtain rfl := len_nil hlv3
      obtain rfl : b1 = true := hnd 1 (by simp)
      obtain rfl : b2 = true := hnd 2 (by simp)
      obtain rfl : b3 = false := hbk
      replace h : RawS w w.heap.size w.heap.size (.cells #[.int .i64 k, .int .i64 t, .int .i64 a, .int .i64 b, .string nm, .string ot] 29) (R3) ([ot.size]) (ot.data.toList.map UInt8.toNat) vq3 b0 true true false v0 v1 v2 v3 W := h
      clear hnd
      have HST := Lib.hid h
      skip
      intro K Q hK
      simp only [putE, updAll, Act.put, List.setIfInBounds_toArray, List.set_cons_zero, List.set_cons_succ, List.set_nil] at hK ⊢
      refine h.app3 (.tmp 41) (.tmp 44) rfl rfl rfl (by have := HL3.out; simp [← Lib.size_eq]; omega) ?_
      intro v' W' k
      first | exact hK _ _ k | exact k
     all_goals
      intro bsE vsE W hlb hlv hnd h
      obtain ⟨b0, bsE0, rfl, hlb0⟩ := len_one hlb
      obtain ⟨v0, vsE0, rfl, hlv0⟩ := len_one hlv
      obtain ⟨b1, bsE1, rfl, hlb1⟩ := len_one hlb0
      obtain ⟨v1, vsE1, rfl, hlv1⟩ := len_one hlv0
      obtain ⟨b2, bsE2, rfl, hlb2⟩ := len_one hlb1
      obtain ⟨v2, vsE2, rfl, hlv2⟩ := len_one hlv1
      obtain ⟨b3, bsE3, rfl, hlb3⟩ := len_one hlb2
      obtain ⟨v3, vsE3, rfl, hlv3⟩ := len_one hlv2
      obtain rfl := len_nil hlb3
      obtain rfl := len_nil hlv3
      replace h : RawS w w.heap.size w.heap.size (.cells #[.int .i64 k, .int .i64 t, .int .i64 a, .int .i64 b, .string nm, .string ot] 29) (R3) ([ot.size]) (ot.data.toList.map UInt8.toNat) vq3 b0 b1 b2 b3 v0 v1 v2 v3 W := h
      clear hnd
      have HST := Lib.hid h
      have hb0 := h.bel.size; obtain ⟨g0, g1, g2, g3, g4, g5, gl⟩ := ev_cells h.box
      intro K Q hK
      simp only [putE, updAll, Act.put, List.setIfInBounds_toArray, List.set_cons_zero, List.set_cons_succ, List.set_nil] at hK ⊢
      go_wp2_with (fail)
      all_goals (first | exact hK _ (by first | exact h | exact h.step (by repeat' (first | exact Below.refl _ _ | apply bDrewN | apply bDrew))) | exact (by first | exact h | exact h.step (by repeat' (first | exact Below.refl _ _ | apply bDrewN | apply bDrew))))
    case tail =>
     intro vsE W hlv h
     obtain ⟨v0, vsE0, rfl, hlv0⟩ := len_one hlv
     obtain ⟨v1, vsE1, rfl, hlv1⟩ := len_one hlv0
     obtain ⟨v2, vsE2, rfl, hlv2⟩ := len_one hlv1
     obtain ⟨v3, vsE3, rfl, hlv3⟩ := len_one hlv2
     obtain rfl := len_nil hlv3
     replace h : RawS w w.heap.size w.heap.size (.cells #[.int .i64 k, .int .i64 t, .int .i64 a, .int .i64 b, .string nm, .string ot] 29) (R3) ([ot.size]) (ot.data.toList.map UInt8.toNat) vq3 true true true true v0 v1 v2 v3 W := h
     have HST := Lib.hid h
     have P5 := Lib.hid h.fin
     refine wpOp_plain rfl rfl ?_
     simp only [putE, updAll, Act.put, List.setIfInBounds_toArray, List.set_cons_zero, List.set_cons_succ, List.set_nil]
     go_wp2_with fail
     exact bodyPost_ret (v := v3) (by simp only [results, Tryz.results142]; go_simp) rfl ⟨v3, rfl, by have h5 := P5.out; rw [← HR3.out, ← HR2.out, ← HR1.out] at h5; simpa only [List.append_assoc, List.cons_append, List.nil_append] using h5⟩
end Go.Proofs.YtmpilgkfbibhlaaGreatDoor
namespace Go.Proofs.YtmpilgkfbibhlaaGreatDoor
open Go
abbrev Evt := Int × Int × Int × Int × ByteArray × ByteArray
def eqT (a b : ByteArray) : Bool := a.toList == b.toList
theorem eqT_iff {a b : ByteArray} : eqT a b = true ↔ a = b := by
 unfold eqT
 rw [Lib.toList_data, Lib.toList_data]
 constructor
 ·intro h
  have h' : a.data.toList = b.data.toList := by simpa using h
  obtain ⟨⟨x⟩⟩ := a
  obtain ⟨⟨y⟩⟩ := b
  have h'' : x = y := h'
  rw [h'']
 ·rintro rfl; simp
def modN (nm : ByteArray) (i : Nat) : ByteArray := nm ++ ⟨#[58]⟩ ++ ⟨(Lib.itoa (i : Int)).toArray⟩
def dropT (l : List ByteArray) (s : ByteArray) : List ByteArray := l.filter fun t => !(eqT t s)
def hasT (l : List ByteArray) (s : ByteArray) : Bool := l.any fun t => eqT t s
def modStep (name : ByteArray) (l : List ByteArray) : Evt → List ByteArray
 | (k, _, _, b, nm, _) => if k = 1 then l ++ (List.range b.toNat).map (modN name) else if k = 5 then l ++ [nm] else if k = 6 then dropT l nm else l
def opnStep (l : List ByteArray) : Evt → List ByteArray
 | (k, _, _, _, nm, _) => if k = 7 then l ++ [nm] else if k = 8 then dropT l nm else l
def modsOf (name : ByteArray) (h : List Evt) : List ByteArray := h.foldl (modStep name) []
def opnsOf (h : List Evt) : List ByteArray := h.foldl opnStep []
def ruleB (name : ByteArray) (ms os : List ByteArray) : Evt → Bool
 | (k, _, _, _, nm, ot) => if k = 1 then false else if k = 5 then !(hasT ms nm) && decide (ms.length < 32) && !(eqT ot name) else if k = 6 then hasT ms nm && !(eqT ot name) else
   if k = 7 then !(hasT os nm) else if k = 8 then hasT os nm else if k = 9 then decide (ms.length = 0) else true
def canR (name : ByteArray) (h : List Evt) (e : Evt) : Bool := match h.getLast? with
 | none => decide (e.1 = 1)
 | some z => !(decide (e.1 = 1)) && !(decide (e.2.1 < z.2.1)) && !(decide (z.1 = 9)) && ruleB name (modsOf name h) (opnsOf h) e
theorem snocInd {α : Type} {p : List α → Prop} (h0 : p []) (h1 : ∀ l a, p l → p (l ++ [a])) : ∀ l, p l := by
 have key : ∀ l : List α, p l.reverse := by
  intro l
  induction l with
  | nil => exact h0
  | cons a l ih => rw [List.reverse_cons]; exact h1 _ _ ih
 intro l
 have := key l.reverse
 rwa [List.reverse_reverse] at this
structure LifeS where
 n : Nat
 at_ : Int
 made : Evt
 ms : List ByteArray
 os : List ByteArray
 thr : Int
 hot : Int
 tst : Bool
 tes : Int
 fau : Int
 mov : Int
 scr : Bool
def evt0 : Evt := (0, 0, 0, 0, ⟨#[]⟩, ⟨#[]⟩)
def life0 : LifeS := ⟨0, 0, evt0, [], [], 0, 0, false, 0, 0, 0, false⟩
def LifeS.add (name : ByteArray) (x : LifeS) (e : Evt) : LifeS :=
 {n := x.n + 1, at_ := e.2.1, made := if e.1 = 1 then e else x.made, ms := modStep name x.ms e, os := opnStep x.os e,
  thr := if e.1 = 2 then x.thr + e.2.2.1 else x.thr, hot := if e.1 = 2 then x.hot + e.2.2.2.1 else x.hot,
  tst := if e.1 = 3 then true else x.tst, tes := if e.1 = 3 then e.2.2.1 else x.tes, fau := if e.1 = 4 then x.fau + 1 else x.fau,
  mov := if e.1 = 5 then x.mov + 1 else if e.1 = 6 then x.mov + 1 else x.mov, scr := if e.1 = 9 then true else x.scr }
def lifeOf (name : ByteArray) (h : List Evt) : LifeS := h.foldl (LifeS.add name) life0
def canP (name : ByteArray) (x : LifeS) (e : Evt) : Bool :=
 if x.n = 0 then decide (e.1 = 1) else if e.2.1 < x.at_ then false else if x.scr = true then false else ruleB name x.ms x.os e
theorem lifeOf_snoc (name : ByteArray) (h : List Evt) (e : Evt) : lifeOf name (h ++ [e]) = (lifeOf name h).add name e := by
 unfold lifeOf; rw [List.foldl_append]; rfl
theorem life_n (name : ByteArray) : ∀ h, (lifeOf name h).n = h.length := by
 refine snocInd rfl fun h e ih => ?_
 rw [lifeOf_snoc, List.length_append]; show _ + 1 = _; rw [ih]; rfl
theorem life_ms (name : ByteArray) : ∀ h, (lifeOf name h).ms = modsOf name h := by
 refine snocInd rfl fun h e ih => ?_
 rw [lifeOf_snoc]; unfold modsOf; rw [List.foldl_append]; show modStep _ _ _ = _; rw [ih]; rfl
theorem life_os (name : ByteArray) : ∀ h, (lifeOf name h).os = opnsOf h := by
 refine snocInd rfl fun h e ih => ?_
 rw [lifeOf_snoc]; unfold opnsOf; rw [List.foldl_append]; show opnStep _ _ = _; rw [ih]; rfl
def LegH (name : ByteArray) (h : List Evt) : Prop := ∀ g e r, h = g ++ e :: r → canR name g e = true
theorem LegH.nil (name : ByteArray) : LegH name [] := fun g e r h => by simp at h
theorem LegH.snoc {name : ByteArray} {h : List Evt} {e : Evt} (hh : LegH name h) (he : canR name h e = true) : LegH name (h ++ [e]) := by
 intro g e2 r hg
 rcases List.eq_nil_or_concat r with rfl | ⟨r', z, rfl⟩
 ·have := List.append_inj' hg rfl
  obtain ⟨rfl, e3⟩ := this
  obtain rfl : e = e2 := by simpa using e3
  exact he
 ·have h2 : h ++ [e] = (g ++ e2 :: r') ++ [z] := by rw [hg]; simp
  have := List.append_inj' h2 rfl
  exact hh g e2 r' this.1
theorem LegH.init {name : ByteArray} {h : List Evt} {e : Evt} (hh : LegH name (h ++ [e])) : LegH name h := fun g e2 r hg => hh g e2 (r ++ [e]) (by rw [hg]; simp)
theorem LegH.last {name : ByteArray} {h : List Evt} {e : Evt} (hh : LegH name (h ++ [e])) : canR name h e = true := hh h e [] rfl
theorem life_last {name : ByteArray} : ∀ (h : List Evt) {z : Evt}, LegH name h → h.getLast? = some z → (lifeOf name h).at_ = z.2.1 ∧ (lifeOf name h).scr = decide (z.1 = 9) := by
 refine snocInd (fun _ hz => by cases hz) fun h e ih => ?_
 ·intro z hl hz
  obtain rfl : e = z := by simpa using hz
  rw [lifeOf_snoc]
  refine ⟨rfl, ?_⟩
  show (if e.1 = 9 then true else (lifeOf name h).scr) = _
  by_cases c : e.1 = 9
  ·rw [if_pos c, decide_eq_true c]
  ·rw [if_neg c, decide_eq_false c]
   have hc := hl.last
   unfold canR at hc
   cases hg : h.getLast? with
   | none =>
    obtain rfl : h = [] := by simpa using hg
    rfl
   | some y =>
    rw [hg] at hc
    simp only [Bool.and_eq_true, Bool.not_eq_true', decide_eq_false_iff_not] at hc
    rw [(ih hl.init hg).2, decide_eq_false hc.1.2]
theorem can_same {name : ByteArray} {h : List Evt} (hl : LegH name h) (e : Evt) : canP name (lifeOf name h) e = canR name h e := by
 unfold canP canR
 rw [life_n, life_ms, life_os]
 cases hg : h.getLast? with
 | none =>
  obtain rfl : h = [] := by simpa using hg
  rfl
 | some z =>
  have hn : h ≠ [] := by rintro rfl; cases hg
  have hlen : ¬ h.length = 0 := fun c => hn (List.length_eq_zero_iff.1 c)
  rw [if_neg hlen, (life_last h hl hg).1, (life_last h hl hg).2]
  dsimp only
  by_cases c1 : e.2.1 < z.2.1
  ·simp [c1]
  ·by_cases c2 : z.1 = 9
   ·simp [c2]
   ·by_cases c3 : e.1 = 1
    ·obtain ⟨k, t, a, b, nm, ot⟩ := e
     dsimp only at c3
     subst c3
     simp [ruleB]
    ·simp [c1, c2, c3]
end Go.Proofs.YtmpilgkfbibhlaaGreatDoor
namespace Go.Proofs.YtmpilgkfbibhlaaGreatDoor
open Go
abbrev Ent := Evt × Int × Int × Nat × Nat
abbrev Bk := Nat × List Nat
def P31 : Nat := 2147483647
def okX : Evt → Bool
 | (k, t, a, b, nm, ot) => okE k t a b nm ot
def bytX : Evt → List Nat
 | (k, t, a, b, nm, ot) => bytesE (evL k t a b nm ot)
def msgE (head : Nat) (e : Evt) (by_ : Nat) : List Nat := bigL head 4 ++ bytX e ++ [by_ % 256]
def headD (pt : Nat) (m : List Nat) : Nat := dig P31 3 pt m
def beginE (pt : Nat) (name : ByteArray) : Nat := headD pt (name.data.toList.map UInt8.toNat)
def nextE (pt : Nat) (bks : List Bk) (head : Nat) (e : Evt) (by_ pad : Nat) : Ent :=
 (e, by_, pad, headD pt (msgE head e by_), (headD (bks.getD by_ (0, [])).1 (msgE head e by_) + (bks.getD by_ (0, [])).2.getD pad 0) % P31)
def headOf (pt : Nat) (name : ByteArray) (pre : List Ent) : Nat := match pre.getLast? with
 | none => beginE pt name
 | some y => y.2.2.2.1
def pairIn (pre : List Ent) (b p : Int) : Bool := pre.any fun y => y.2.1 == b && y.2.2.1 == p
def inBook (bks : List Bk) (b p : Int) : Bool := decide (0 ≤ b ∧ b < bks.length ∧ 0 ≤ p ∧ p < (bks.getD b.toNat (0, [])).2.length)
def rightB (pt : Nat) (bks : List Bk) (name : ByteArray) (pre : List Ent) (x : Ent) : Bool :=
 okX x.1 && canR name (pre.map (·.1)) x.1 && inBook bks x.2.1 x.2.2.1 && !(pairIn pre x.2.1 x.2.2.1) && decide (nextE pt bks (headOf pt name pre) x.1 x.2.1.toNat x.2.2.1.toNat = x)
def AllR (pt : Nat) (bks : List Bk) (name : ByteArray) (l : List Ent) (n : Nat) : Prop := ∀ i, i < n → ∃ x, l[i]? = some x ∧ rightB pt bks name (l.take i) x = true
def verN (pt : Nat) (bks : List Bk) (name : ByteArray) : List Ent → List Ent → Nat
 | pre, [] => pre.length
 | pre, x :: r => if rightB pt bks name pre x = true then verN pt bks name (pre ++ [x]) r else pre.length
theorem verN_stop {pt : Nat} {bks : List Bk} {name : ByteArray} {pre r : List Ent} {x : Ent} (h : rightB pt bks name pre x = false) : verN pt bks name pre (x :: r) = pre.length := by
 unfold verN; rw [h]; rfl
theorem verN_go {pt : Nat} {bks : List Bk} {name : ByteArray} {pre r : List Ent} {x : Ent} (h : rightB pt bks name pre x = true) : verN pt bks name pre (x :: r) = verN pt bks name (pre ++ [x]) r := by
 conv => lhs; unfold verN
 rw [h]; rfl
def badBk : Bk → Bool
 | (p, ps) => decide (p < 1) || decide (P31 ≤ p) || decide (5000 < ps.length) || ps.any fun n => decide (P31 ≤ n)
def secR (pt : Nat) (bks : List Bk) : Int := if pt < 1 ∨ P31 ≤ pt then 3 else if bks.length < 1 ∨ 8 < bks.length ∨ bks.any badBk = true then 2 else 0
def evsOf (l : List Ent) : List Evt := l.map (·.1)
end Go.Proofs.YtmpilgkfbibhlaaGreatDoor
namespace Go.Proofs.YtmpilgkfbibhlaaGreatDoor
open Go.Shelf
def lays110_ren : Go.Shelf.Ren := ⟨fun | 110 => 99 | 109 => 135 | n => n, fun | 31 => 47 | 9 => 9 | 4 => 4 | 3 => 3 | 0 => 0 | n => n, fun | n => n⟩
theorem lays110 : Go.Proofs.Lays.n110 Tryz.prog lays110_ren := {
 mixed := by kernel_rfl
 f109 := Tryz.func135.trans (congrArg some (by kernel_rfl))
 f110 := Tryz.func99.trans (congrArg some (by kernel_rfl))
 t0 := Tryz.underlying0
 a0 := Tryz.isAgg0
 z0 := Tryz.sizeOf0
 v0 := Tryz.zeroValue0
 t3 := Tryz.underlying3
 a3 := Tryz.isAgg3
 z3 := Tryz.sizeOf3
 v3 := Tryz.zeroValue3
 t4 := Tryz.underlying4
 a4 := Tryz.isAgg4
 z4 := Tryz.sizeOf4
 v4 := Tryz.zeroValue4
 t9 := Tryz.underlying9
 a9 := Tryz.isAgg9
 z9 := Tryz.sizeOf9
 v9 := Tryz.zeroValue9
 t31 := Tryz.underlying47
 a31 := Tryz.isAgg47
 z31 := Tryz.sizeOf47
 v31 := Tryz.zeroValue47 }
def laysNm216_ren : Go.Shelf.Ren := ⟨fun | 16 => 71 | n => n, fun | 24 => 47 | 9 => 9 | 4 => 4 | n => n, fun | n => n⟩
theorem laysNm216 : Go.Proofs.Lays2.n16 Tryz.prog laysNm216_ren := {
 mixed := by kernel_rfl
 f16 := Tryz.func71.trans (congrArg some (by kernel_rfl))
 t4 := Tryz.underlying4
 a4 := Tryz.isAgg4
 z4 := Tryz.sizeOf4
 v4 := Tryz.zeroValue4
 t9 := Tryz.underlying9
 a9 := Tryz.isAgg9
 z9 := Tryz.sizeOf9
 v9 := Tryz.zeroValue9
 t24 := Tryz.underlying47
 a24 := Tryz.isAgg47
 z24 := Tryz.sizeOf47
 v24 := Tryz.zeroValue47
 i9 := by kernel_rfl }
def laysSlE041_f71_ren : Go.Shelf.Ren := ⟨fun | 41 => 71 | n => n, fun | 22 => 47 | 23 => 9 | 4 => 4 | n => n, fun | n => n⟩
theorem laysSlE041_f71 : Go.Proofs.SlLaysE0.n41 Tryz.prog laysSlE041_f71_ren := {
 mixed := by kernel_rfl
 f41 := ⟨Tryz.f71.name, by decide, Tryz.func71.trans (congrArg some (by kernel_rfl))⟩
 t4 := Tryz.underlying4
 a4 := Tryz.isAgg4
 z4 := Tryz.sizeOf4
 v4 := Tryz.zeroValue4
 t22 := Tryz.underlying47
 a22 := Tryz.isAgg47
 z22 := Tryz.sizeOf47
 v22 := Tryz.zeroValue47 }
def laysSlH8_f93_ren : Go.Shelf.Ren := ⟨fun | 8 => 93 | 6 => 132 | n => n, fun | 22 => 83 | 23 => 22 | 25 => 157 | 4 => 4 | 3 => 3 | 0 => 0 | n => n, fun | n => n⟩
theorem laysSlH8_f93 : Go.Proofs.SlLaysH.n8 Tryz.prog laysSlH8_f93_ren := {
 mixed := by kernel_rfl
 f6 := ⟨Tryz.f132.name, by decide, Tryz.func132.trans (congrArg some (by kernel_rfl))⟩
 f8 := ⟨Tryz.f93.name, by decide, Tryz.func93.trans (congrArg some (by kernel_rfl))⟩
 t0 := Tryz.underlying0
 a0 := Tryz.isAgg0
 z0 := Tryz.sizeOf0
 v0 := Tryz.zeroValue0
 t3 := Tryz.underlying3
 a3 := Tryz.isAgg3
 z3 := Tryz.sizeOf3
 v3 := Tryz.zeroValue3
 t4 := Tryz.underlying4
 a4 := Tryz.isAgg4
 z4 := Tryz.sizeOf4
 v4 := Tryz.zeroValue4
 t22 := Tryz.underlying83
 a22 := Tryz.isAgg83
 z22 := Tryz.sizeOf83
 v22 := Tryz.zeroValue83
 a23 := Tryz.isAgg22
 z23 := Tryz.sizeOf22
 t25 := Tryz.underlying157
 a25 := Tryz.isAgg157
 z25 := Tryz.sizeOf157
 v25 := Tryz.zeroValue157 }
def laysSlH10_f90_ren : Go.Shelf.Ren := ⟨fun | 10 => 90 | 6 => 131 | n => n, fun | 22 => 47 | 23 => 9 | 25 => 56 | 3 => 3 | 4 => 4 | 0 => 0 | n => n, fun | n => n⟩
theorem laysSlH10_f90 : Go.Proofs.SlLaysH.n10 Tryz.prog laysSlH10_f90_ren := {
 mixed := by kernel_rfl
 f6 := ⟨Tryz.f131.name, by decide, Tryz.func131.trans (congrArg some (by kernel_rfl))⟩
 f10 := ⟨Tryz.f90.name, by decide, Tryz.func90.trans (congrArg some (by kernel_rfl))⟩
 t0 := Tryz.underlying0
 a0 := Tryz.isAgg0
 z0 := Tryz.sizeOf0
 v0 := Tryz.zeroValue0
 t3 := Tryz.underlying3
 a3 := Tryz.isAgg3
 z3 := Tryz.sizeOf3
 v3 := Tryz.zeroValue3
 t4 := Tryz.underlying4
 a4 := Tryz.isAgg4
 z4 := Tryz.sizeOf4
 v4 := Tryz.zeroValue4
 t22 := Tryz.underlying47
 a22 := Tryz.isAgg47
 z22 := Tryz.sizeOf47
 v22 := Tryz.zeroValue47
 a23 := Tryz.isAgg9
 z23 := Tryz.sizeOf9
 t25 := Tryz.underlying56
 a25 := Tryz.isAgg56
 z25 := Tryz.sizeOf56
 v25 := Tryz.zeroValue56 }
end Go.Proofs.YtmpilgkfbibhlaaGreatDoor
namespace Go.Proofs.YtmpilgkfbibhlaaGreatDoor
open Go.RowKit
def PadV (v : Value) (ns : List Nat) (W : World) : Prop := ∃ a c, v = .slice a ns.length c ∧ (ns ≠ [] → ∃ b off, a = some ⟨b, off, none⟩ ∧ b < W.heap.size ∧ ∀ (k n : Nat), ns[k]? = some n → W.cell? ⟨b, off + k, none⟩ = some (.int .u64 (n : Int)))
theorem PadV.step {v : Value} {ns : List Nat} {W w2 : World} (h : PadV v ns W) (hb : Below W.heap.size W w2) : PadV v ns w2 := by
 obtain ⟨a, c, h1, h2⟩ := h
 refine ⟨a, c, h1, fun hn => ?_⟩
 obtain ⟨b, off, e1, e2, e3⟩ := h2 hn
 exact ⟨b, off, e1, Nat.lt_of_lt_of_le e2 hb.size, fun k n hk => cell_step (e3 k n hk) hb⟩
def BksAt (a : Option Addr) (bks : List Bk) (W : World) : Prop := bks ≠ [] → ∃ b off, a = some ⟨b, off, none⟩ ∧ b < W.heap.size ∧ ∀ (k : Nat) (bk : Bk), bks[k]? = some bk → W.cell? ⟨b, off + k * 2, none⟩ = some (.int .u64 (bk.1 : Int)) ∧ ∃ vp, W.cell? ⟨b, off + k * 2 + 1, none⟩ = some vp ∧ PadV vp bk.2 W
theorem BksAt.step {a : Option Addr} {bks : List Bk} {W w2 : World} (h : BksAt a bks W) (hb : Below W.heap.size W w2) : BksAt a bks w2 := by
 intro hn
 obtain ⟨b, off, e1, e2, e3⟩ := h hn
 refine ⟨b, off, e1, Nat.lt_of_lt_of_le e2 hb.size, fun k bk hk => ?_⟩
 obtain ⟨q1, vp, q2, q3⟩ := e3 k bk hk
 exact ⟨cell_step q1 hb, vp, cell_step q2 hb, q3.step hb⟩
theorem pred94_any (x B : Nat) (W : World) (hc : W.cell? ⟨B, 0, none⟩ = some (.int .u64 2147483647)) :
  Calls Tryz.prog 94 #[.int .u64 (x : Int), .pointer (some ⟨B, 0, none⟩)] W fun e w' => e = .returned (.bool (decide (P31 ≤ x))) ∧ ∃ q, w' = W.drewN q := by
 have hd : decide (P31 ≤ x) = decide ((x : Int) ≥ 2147483647) := by rw [decide_eq_decide]; unfold P31; omega
 rw [hd]
 go_enter Tryz.func94, Tryz.ntmps94
 go_wp2_with fail
 go_ret
 exact ⟨rfl, 0, rfl⟩
theorem padsBad_any {v : Value} {ns : List Nat} {w : World} (B : Nat) (h : PadV v ns w) (hl : ns.length ≤ 1000000) (hB : B < w.heap.size) (hc : w.cell? ⟨B, 0, none⟩ = some (.int .u64 2147483647)) :
  Calls Tryz.prog 93 #[v, .func (.func 94) #[] #[.pointer (some ⟨B, 0, none⟩)]] w fun e w' => e = .returned (.bool (ns.any fun n => decide (P31 ≤ n))) ∧ Below w.heap.size w w' := by
 have eg : ∀ args w, (callFunc 94 args).run Tryz.prog w = .ok (.enter 94 args) w := enters_of Tryz.func94 (by kernel_rfl) rfl
 obtain ⟨a, c, rfl, h2⟩ := h
 by_cases hn : ns = []
 ·subst hn
  exact (AnyE.slices_ContainsFunc_empty laysSlH8_f93 a c _ w).mono fun e w' q => ⟨q.1, by rw [q.2]; exact Below.refl _ _⟩
 ·obtain ⟨b, off, rfl, -, h3⟩ := h2 hn
  have h4 := AnyE.slices_ContainsFunc laysSlH8_f93 (fun n : Nat => Value.int .u64 (n : Int)) (fun n => decide (P31 ≤ n)) 94 #[.pointer (some ⟨B, 0, none⟩)] eg b off ns.length c ns w
   (fun W x hW => pred94_any x B W ((hW.cell (p := ⟨B, 0, none⟩) hB).trans hc)) (Nat.le_refl _) (by omega) (fun j hj => by rw [h3 j _ (List.getElem?_eq_getElem hj)]; rw [getElem!_pos ns j hj])
  rw [List.take_of_length_le (Nat.le_refl _)] at h4
  exact h4.mono fun e w' q => ⟨q.1, by obtain ⟨n, e⟩ := q.2; rw [e]; exact bDrewN (Below.refl _ _)⟩
set_option maxHeartbeats 2000000 in
set_option maxRecDepth 20000 in
theorem badBk_any (bk : Bk) (vp : Value) (B : Nat) (w : World) (h : PadV vp bk.2 w) (hl : bk.2.length ≤ 1000000) (hB : B < w.heap.size) (hc : w.cell? ⟨B, 0, none⟩ = some (.int .u64 2147483647)) :
  Calls Tryz.prog 92 #[.agg #[.int .u64 (bk.1 : Int), vp], .pointer (some ⟨B, 0, none⟩)] w fun e w' => e = .returned (.bool (badBk bk)) ∧ Below w.heap.size w w' := by
 obtain ⟨p, ps⟩ := bk
 dsimp only at h hl ⊢
 rw [show badBk (p, ps) = (decide (p < 1) || decide (P31 ≤ p) || decide (5000 < ps.length) || ps.any fun n => decide (P31 ≤ n)) from rfl]
 have CX := Lib.hid (padsBad_any B (h.step (Mr.bAl (o := .cells #[.int .u64 (p : Int), vp] 85))) hl (by simp; omega) (by rw [← hc]; exact Mr.bAl.cell (p := ⟨B, 0, none⟩) hB))
 obtain ⟨a, c, rfl, -⟩ := h
 generalize (ps.any fun n => decide (P31 ≤ n)) = r at *
 by_cases c1 : p < 1
 ·rw [decide_eq_true c1]
  have d1 : (p : Int) < 1 := by omega
  clear c1 hl CX
  go_enter Tryz.func92, Tryz.ntmps92
  go_wp2_with fail
  exact bodyPost_ret (v := .bool true) (by simp only [results, Tryz.results92]; go_simp) rfl ⟨rfl, (by repeat' (first | exact Below.refl _ _ | assumption | apply bDrewN | apply bDrew | apply bAlloc | (refine bSet ?_ ?_ _) | (refine bStep ?_ (by assumption)) | omega | (simp <;> omega)))⟩
 ·rw [decide_eq_false c1]
  have d1 : ¬ (p : Int) < 1 := by omega
  by_cases c2 : P31 ≤ p
  ·rw [decide_eq_true c2]
   have d2 : (2147483647 : Int) ≤ p := by unfold P31 at c2; omega
   clear c1 c2 hl CX
   go_enter Tryz.func92, Tryz.ntmps92
   go_wp2_with fail
   exact bodyPost_ret (v := .bool true) (by simp only [results, Tryz.results92]; go_simp) rfl ⟨rfl, (by repeat' (first | exact Below.refl _ _ | assumption | apply bDrewN | apply bDrew | apply bAlloc | (refine bSet ?_ ?_ _) | (refine bStep ?_ (by assumption)) | omega | (simp <;> omega)))⟩
  ·rw [decide_eq_false c2]
   have d2 : ¬ (2147483647 : Int) ≤ p := by unfold P31 at c2; omega
   by_cases c3 : 5000 < ps.length
   ·rw [decide_eq_true c3]
    have d3 : (5000 : Int) < ps.length := by omega
    clear c1 c2 c3 hl CX
    go_enter Tryz.func92, Tryz.ntmps92
    go_wp2_with fail
    exact bodyPost_ret (v := .bool true) (by simp only [results, Tryz.results92]; go_simp) rfl ⟨rfl, (by repeat' (first | exact Below.refl _ _ | assumption | apply bDrewN | apply bDrew | apply bAlloc | (refine bSet ?_ ?_ _) | (refine bStep ?_ (by assumption)) | omega | (simp <;> omega)))⟩
   ·rw [decide_eq_false c3]
    have d3 : ¬ (5000 : Int) < ps.length := by omega
    clear c1 c2 c3 hl
    go_enter Tryz.func92, Tryz.ntmps92
    go_wp2_with (go_at_call 93; refine CX.out.mono ?_; rintro e w1 ⟨rfl, hb1⟩)
    exact bodyPost_ret (v := .bool r) (by simp only [results, Tryz.results92]; go_simp) rfl ⟨by simp, bStep Mr.bAl hb1⟩
end Go.Proofs.YtmpilgkfbibhlaaGreatDoor
namespace Go.Proofs.YtmpilgkfbibhlaaGreatDoor
open Go.RowKit
theorem any_take {bks : List Bk} {i : Nat} {bk : Bk} (h : (bks.take i).any badBk = false) (hk : bks[i]? = some bk) (hb : badBk bk = false) : (bks.take (i + 1)).any badBk = false := by
 rw [List.take_add_one, hk, List.any_append, h]
 simpa using hb
theorem any_at {bks : List Bk} {i : Nat} {bk : Bk} (hk : bks[i]? = some bk) (hb : badBk bk = true) : bks.any badBk = true := List.any_eq_true.2 ⟨bk, List.mem_of_getElem? hk, hb⟩
set_option maxHeartbeats 2000000 in
theorem idxB_any {a : Option Addr} {bks : List Bk} {w : World} (c B : Nat) (h : BksAt a bks w) (hl : bks.length ≤ 1000000 ∧ ∀ bk ∈ bks, bk.2.length ≤ 1000000) (hB : B < w.heap.size) (hc : w.cell? ⟨B, 0, none⟩ = some (.int .u64 2147483647)) :
  Calls Tryz.prog 133 #[.slice a bks.length c, .func (.func 92) #[] #[.pointer (some ⟨B, 0, none⟩)]] w fun e w' => ∃ i : Int, e = .returned (.int .i64 i) ∧ (decide (i ≥ 0) = bks.any badBk) ∧ Below w.heap.size w w' := by
 have H := Lib.hid h
 have HC := Lib.hid (And.intro hB hc)
 have HL := Lib.hid hl.2
 have hl1 := hl.1
 clear h hB hc hl
 go_enter Tryz.func133, Tryz.ntmps133
 go_wp2_with fail
 go_loopw [8] (fun ix wr => ∃ i : Nat, i ≤ bks.length ∧ ix = .int .i64 i ∧ Hid ((bks.take i).any badBk = false) ∧ Hid (Below w.heap.size w wr)) (fun ix _ => bks.length - (intOf ix).toNat)
 case atStart => exact ⟨0, by omega, rfl, rfl, Below.refl _ _⟩
 case round =>
  obtain ⟨i, hi, rfl, HT, HW⟩ := hrel
  by_cases hc : i < bks.length
  ·have c1 : (i : Int) < bks.length := by omega
   have c0 : (0 : Int) ≤ i := by omega
   obtain ⟨bk, hk⟩ : ∃ bk, bks[i]? = some bk := ⟨bks[i], List.getElem?_eq_getElem hc⟩
   obtain ⟨b, off, rfl, hb0, hcs⟩ := (H.out.step HW.out) (by rintro rfl; simp at hc)
   obtain ⟨g0, vp, g1, hp⟩ := hcs i bk hk
   have CB := Lib.hid (badBk_any bk vp B wr hp (HL.out bk (List.mem_of_getElem? hk)) (Nat.lt_of_lt_of_le HC.out.1 HW.out.size) (cell_step HC.out.2 HW.out))
   have HKK := Lib.hid hk
   clear hcs hp hk hc
   cases hbd : badBk bk
   ·rw [hbd] at CB
    have HBD := Lib.hid hbd
    clear hbd
    go_wp2_with (go_at_call 92; refine CB.out.mono ?_; rintro e w1 ⟨rfl, hb1⟩)
    exact ⟨⟨i + 1, by omega, by push_cast; rfl, any_take HT.out HKK.out HBD.out, bStep HW.out hb1⟩, by simp [intOf]; omega⟩
   ·rw [hbd] at CB
    have HBD := Lib.hid hbd
    clear hbd
    go_wp2_with (go_at_call 92; refine CB.out.mono ?_; rintro e w1 ⟨rfl, hb1⟩)
    exact bodyPost_ret (v := .int .i64 (i : Int)) (by simp only [results, Tryz.results133]; go_simp) rfl ⟨i, rfl, by rw [any_at HKK.out HBD.out]; exact decide_eq_true (by omega), bStep HW.out hb1⟩
  ·obtain rfl : i = bks.length := by omega
   clear hc
   go_wp2_with fail
   exact bodyPost_ret (v := .int .i64 (-1)) (by simp only [results, Tryz.results133]; go_simp) rfl ⟨-1, rfl, by have q := HT.out; rw [List.take_of_length_le (Nat.le_refl _)] at q; rw [q]; rfl, HW.out⟩
set_option maxHeartbeats 2000000 in
theorem hasBad_any {a : Option Addr} {bks : List Bk} {w : World} (c B : Nat) (h : BksAt a bks w) (hl : bks.length ≤ 1000000 ∧ ∀ bk ∈ bks, bk.2.length ≤ 1000000) (hB : B < w.heap.size) (hc : w.cell? ⟨B, 0, none⟩ = some (.int .u64 2147483647)) :
  Calls Tryz.prog 95 #[.slice a bks.length c, .func (.func 92) #[] #[.pointer (some ⟨B, 0, none⟩)]] w fun e w' => e = .returned (.bool (bks.any badBk)) ∧ Below w.heap.size w w' := by
 have CI := Lib.hid (idxB_any c B h hl hB hc)
 clear h hl hB hc
 generalize bks.any badBk = r at *
 generalize bks.length = n at *
 go_enter Tryz.func95, Tryz.ntmps95
 go_wp2_with (go_at_call 133; refine CI.out.mono ?_; rintro e w1 ⟨i, rfl, hi, hb1⟩; have HI := Lib.hid hi; clear hi)
 exact bodyPost_ret (v := .bool (decide (i ≥ 0))) (by simp only [results, Tryz.results95]; go_simp) rfl ⟨by rw [HI.out], hb1⟩
theorem large_any (w : World) : Calls Tryz.prog 40 #[] w fun e w' => ∃ B off, e = .returned (.pointer (some ⟨B, off, none⟩)) ∧ w.heap.size ≤ B ∧ B < w'.heap.size ∧ w'.cell? ⟨B, off, none⟩ = some (.int .u64 2147483647) ∧ w'.cell? ⟨B, off + 1, none⟩ = some (.int .i64 3) ∧ Below w.heap.size w w' := by
 have CF := Lib.hid (fieldOf_some 2 (by decide) w)
 go_enter Tryz.func40, Tryz.ntmps40
 go_wp2_with (go_at_call 86; refine CF.out.mono ?_; rintro e w1 ⟨B, off, rfl, h1, h2, h3, h4, hb⟩)
 exact bodyPost_ret (v := .pointer (some ⟨B, off, none⟩)) (by simp only [results, Tryz.results40]; go_simp) rfl ⟨B, off, rfl, h1, h2, h3, h4, hb⟩
end Go.Proofs.YtmpilgkfbibhlaaGreatDoor
