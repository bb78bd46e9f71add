/-
  The reference's raw: the walk.
-/
import Derived.Test.YtdelgbdiofkndaaGreatDoorG15Events
set_option linter.unusedSimpArgs false
set_option linter.unusedVariables false
namespace Go.Proofs.YtdelgbdiofkndaaGreatDoor
open Go.RowKit Mr
theorem big8 (n : Nat) (hn : n ≤ 1099511627776) (W : World) : Calls Tryz.prog 39 #[.int .u64 n, .int .i64 8] W fun e w' => e = .returned (.slice (some ⟨W.heap.size, 0, none⟩) 8 8) ∧ w'.heap[W.heap.size]? = some (.cells (byC (b8 n)).toArray 5 (0, 0)) ∧ Below W.heap.size W w' := by
  have h := big_any n 8 (by omega) (by decide) (by decide) W
  rw [bigL_8] at h
  exact h
theorem arr_at (l : List Value) : ∀ (j : Nat) (u : Value), l[j]? = some u → l.toArray[j]? = some u := fun j u h => by simpa using h
set_option maxHeartbeats 4000000 in
set_option maxRecDepth 20000 in
theorem rraw_any (k t a b : Nat) (nm ot : ByteArray) (w : World) (hk : k ≤ 9) (ht : t ≤ 1099511627776) (ha : a ≤ 1099511627776) (hb : b ≤ 1099511627776) (hs1 : nm.size ≤ 100) (hs2 : ot.size ≤ 100) :
    Calls Tryz.prog 17 #[.agg #[.int .i64 k, .int .i64 t, .int .i64 a, .int .i64 b, .string nm, .string ot]] w fun e w' => ∃ v, e = .returned v ∧ RawU w w.heap.size w.heap.size (.cells #[.int .i64 k, .int .i64 t, .int .i64 a, .int .i64 b, .string nm, .string ot] 23) (k :: (b8 t ++ (b8 a ++ (b8 b ++ (nm.size :: (nm.data.toList.map UInt8.toNat ++ (ot.size :: ot.data.toList.map UInt8.toNat))))))) v w' := by
  have C1 := Lib.hid (big8 t ht)
  have C2 := Lib.hid (big8 a ha)
  have C3 := Lib.hid (big8 b hb)
  have R0 : Hid (∀ v0 v1 v2, RawT w w.heap.size w.heap.size (.cells #[.int .i64 k, .int .i64 t, .int .i64 a, .int .i64 b, .string nm, .string ot] 23) [k] (b8 t) false false false v0 v1 v2 (w.alloc (.cells #[.int .i64 k, .int .i64 t, .int .i64 a, .int .i64 b, .string nm, .string ot] 23)).drew) := fun v0 v1 v2 =>
    RawT.start (L := updF (fun _ => none) w.heap.size (some (.cells #[.int .i64 k, .int .i64 t, .int .i64 a, .int .i64 b, .string nm, .string ot] 23))) (MR.start (Nat.le_refl _) Mr.bAl (by simp) (fun p o e => by
      by_cases c : p = w.heap.size
      · subst c; rw [updF_at] at e; cases e; exact blk_new w _
      · rw [updF_ne c] at e; cases e)) updF_at
  go_enter Tryz.func17, Tryz.ntmps17
  go_upto_region 1 with fail
  refine region_effs 9 12 [(3, 7), (7, 11), (8, 12)] [(none, []), (none, []), (none, []), (some 0, []), (none, []), (none, []), (none, []), (some 1, []), (some 2, [0, 1])] [(4, (.pointer (some ⟨w.heap.size, 0, none⟩))), (5, (.int .i64 (k : Int))), (6, (.int .u8 (k : Int))), (8, (.pointer (some ⟨w.heap.size, 1, none⟩))), (9, (.int .i64 (t : Int))), (10, (.int .u64 (t : Int)))] (fun bsE vsE W => RawT w w.heap.size w.heap.size (.cells #[.int .i64 k, .int .i64 t, .int .i64 a, .int .i64 b, .string nm, .string ot] 23) [k] (b8 t) (bsE.getD 0 false) (bsE.getD 1 false) (bsE.getD 2 false) (vsE.getD 0 undef) (vsE.getD 1 undef) (vsE.getD 2 undef) W) (by kernel_rfl) (by kernel_rfl) rfl (by kernel_rfl) (by kernel_rfl) (by simp) (by rfl) ?h0 ?each ?tail
  case h0 =>
    intro vsE hlv
    obtain ⟨v0, vsE0, rfl, hlv0⟩ := len_one hlv
    obtain ⟨v1, vsE1, rfl, hlv1⟩ := len_one hlv0
    obtain ⟨v2, vsE2, rfl, hlv2⟩ := len_one hlv1
    obtain rfl := len_nil hlv2
    exact R0.out v0 v1 v2
  case each =>
    simp only [List.take_succ_cons, List.take_zero, AllE]
    refine ⟨?_, ?_, ?_, ?_, ?_, ?_, ?_, ?_, ?_, trivial⟩
    · refine ⟨4, (.pointer (some ⟨w.heap.size, 0, none⟩)), rfl, by kernel_rfl, ?_⟩
      intro bsE vsE W hlb hlv hnd h
      obtain ⟨b0, bsE0, rfl, hlb0⟩ := len_one hlb
      obtain ⟨v0, vsE0, rfl, hlv0⟩ := len_one hlv
      obtain ⟨b1, bsE1, rfl, hlb1⟩ := len_one hlb0
      obtain ⟨v1, vsE1, rfl, hlv1⟩ := len_one hlv0
      obtain ⟨b2, bsE2, rfl, hlb2⟩ := len_one hlb1
      obtain ⟨v2, vsE2, rfl, hlv2⟩ := len_one hlv1
      obtain rfl := len_nil hlb2
      obtain rfl := len_nil hlv2
      replace h : RawT w w.heap.size w.heap.size (.cells #[.int .i64 k, .int .i64 t, .int .i64 a, .int .i64 b, .string nm, .string ot] 23) [k] (b8 t) b0 b1 b2 v0 v1 v2 W := h
      clear hnd
      have HST := Lib.hid h
      have hb0 := h.bel.size; obtain ⟨g0, g1, g2, g3, g4, g5, gl⟩ := ev_cells h.box
      intro K Q hK
      simp only [putE, updAll, Act.put, List.setIfInBounds_toArray, List.set_cons_zero, List.set_cons_succ, List.set_nil] at hK ⊢
      go_wp2_with (fail)
      all_goals (first | exact hK _ (by first | exact h | exact h.step (by repeat' (first | exact Below.refl _ _ | apply bDrewN | apply bDrew))) | exact (by first | exact h | exact h.step (by repeat' (first | exact Below.refl _ _ | apply bDrewN | apply bDrew))))
    · refine ⟨5, (.int .i64 (k : Int)), rfl, by kernel_rfl, ?_⟩
      intro bsE vsE W hlb hlv hnd h
      obtain ⟨b0, bsE0, rfl, hlb0⟩ := len_one hlb
      obtain ⟨v0, vsE0, rfl, hlv0⟩ := len_one hlv
      obtain ⟨b1, bsE1, rfl, hlb1⟩ := len_one hlb0
      obtain ⟨v1, vsE1, rfl, hlv1⟩ := len_one hlv0
      obtain ⟨b2, bsE2, rfl, hlb2⟩ := len_one hlb1
      obtain ⟨v2, vsE2, rfl, hlv2⟩ := len_one hlv1
      obtain rfl := len_nil hlb2
      obtain rfl := len_nil hlv2
      replace h : RawT w w.heap.size w.heap.size (.cells #[.int .i64 k, .int .i64 t, .int .i64 a, .int .i64 b, .string nm, .string ot] 23) [k] (b8 t) b0 b1 b2 v0 v1 v2 W := h
      clear hnd
      have HST := Lib.hid h
      have hb0 := h.bel.size; obtain ⟨g0, g1, g2, g3, g4, g5, gl⟩ := ev_cells h.box
      intro K Q hK
      simp only [putE, updAll, Act.put, List.setIfInBounds_toArray, List.set_cons_zero, List.set_cons_succ, List.set_nil] at hK ⊢
      go_wp2_with (fail)
      all_goals (first | exact hK _ (by first | exact h | exact h.step (by repeat' (first | exact Below.refl _ _ | apply bDrewN | apply bDrew))) | exact (by first | exact h | exact h.step (by repeat' (first | exact Below.refl _ _ | apply bDrewN | apply bDrew))))
    · refine ⟨6, (.int .u8 (k : Int)), rfl, by kernel_rfl, ?_⟩
      intro bsE vsE W hlb hlv hnd h
      obtain ⟨b0, bsE0, rfl, hlb0⟩ := len_one hlb
      obtain ⟨v0, vsE0, rfl, hlv0⟩ := len_one hlv
      obtain ⟨b1, bsE1, rfl, hlb1⟩ := len_one hlb0
      obtain ⟨v1, vsE1, rfl, hlv1⟩ := len_one hlv0
      obtain ⟨b2, bsE2, rfl, hlb2⟩ := len_one hlb1
      obtain ⟨v2, vsE2, rfl, hlv2⟩ := len_one hlv1
      obtain rfl := len_nil hlb2
      obtain rfl := len_nil hlv2
      replace h : RawT w w.heap.size w.heap.size (.cells #[.int .i64 k, .int .i64 t, .int .i64 a, .int .i64 b, .string nm, .string ot] 23) [k] (b8 t) b0 b1 b2 v0 v1 v2 W := h
      clear hnd
      have HST := Lib.hid h
      have hb0 := h.bel.size; obtain ⟨g0, g1, g2, g3, g4, g5, gl⟩ := ev_cells h.box
      intro K Q hK
      simp only [putE, updAll, Act.put, List.setIfInBounds_toArray, List.set_cons_zero, List.set_cons_succ, List.set_nil] at hK ⊢
      go_wp2_with (fail)
      all_goals (first | exact hK _ (by first | exact h | exact h.step (by repeat' (first | exact Below.refl _ _ | apply bDrewN | apply bDrew))) | exact (by first | exact h | exact h.step (by repeat' (first | exact Below.refl _ _ | apply bDrewN | apply bDrew))))
    · refine ⟨7, rfl, ?_⟩
      intro bsE vsE W hlb hlv hnd hbk h
      obtain ⟨b0, bsE0, rfl, hlb0⟩ := len_one hlb
      obtain ⟨v0, vsE0, rfl, hlv0⟩ := len_one hlv
      obtain ⟨b1, bsE1, rfl, hlb1⟩ := len_one hlb0
      obtain ⟨v1, vsE1, rfl, hlv1⟩ := len_one hlv0
      obtain ⟨b2, bsE2, rfl, hlb2⟩ := len_one hlb1
      obtain ⟨v2, vsE2, rfl, hlv2⟩ := len_one hlv1
      obtain rfl := len_nil hlb2
      obtain rfl := len_nil hlv2
      obtain rfl : b0 = false := hbk
      replace h : RawT w w.heap.size w.heap.size (.cells #[.int .i64 k, .int .i64 t, .int .i64 a, .int .i64 b, .string nm, .string ot] 23) [k] (b8 t) false b1 b2 v0 v1 v2 W := h
      clear hnd
      have HST := Lib.hid h
      have hb0 := h.bel.size; obtain ⟨g0, g1, g2, g3, g4, g5, gl⟩ := ev_cells h.box
      intro K Q hK
      simp only [putE, updAll, Act.put, List.setIfInBounds_toArray, List.set_cons_zero, List.set_cons_succ, List.set_nil] at hK ⊢
      go_wp2_with fail
      all_goals (first | exact hK _ _ h.mk0 | exact h.mk0)
    · refine ⟨8, (.pointer (some ⟨w.heap.size, 1, none⟩)), rfl, by kernel_rfl, ?_⟩
      intro bsE vsE W hlb hlv hnd h
      obtain ⟨b0, bsE0, rfl, hlb0⟩ := len_one hlb
      obtain ⟨v0, vsE0, rfl, hlv0⟩ := len_one hlv
      obtain ⟨b1, bsE1, rfl, hlb1⟩ := len_one hlb0
      obtain ⟨v1, vsE1, rfl, hlv1⟩ := len_one hlv0
      obtain ⟨b2, bsE2, rfl, hlb2⟩ := len_one hlb1
      obtain ⟨v2, vsE2, rfl, hlv2⟩ := len_one hlv1
      obtain rfl := len_nil hlb2
      obtain rfl := len_nil hlv2
      replace h : RawT w w.heap.size w.heap.size (.cells #[.int .i64 k, .int .i64 t, .int .i64 a, .int .i64 b, .string nm, .string ot] 23) [k] (b8 t) b0 b1 b2 v0 v1 v2 W := h
      clear hnd
      have HST := Lib.hid h
      have hb0 := h.bel.size; obtain ⟨g0, g1, g2, g3, g4, g5, gl⟩ := ev_cells h.box
      intro K Q hK
      simp only [putE, updAll, Act.put, List.setIfInBounds_toArray, List.set_cons_zero, List.set_cons_succ, List.set_nil] at hK ⊢
      go_wp2_with (fail)
      all_goals (first | exact hK _ (by first | exact h | exact h.step (by repeat' (first | exact Below.refl _ _ | apply bDrewN | apply bDrew))) | exact (by first | exact h | exact h.step (by repeat' (first | exact Below.refl _ _ | apply bDrewN | apply bDrew))))
    · refine ⟨9, (.int .i64 (t : Int)), rfl, by kernel_rfl, ?_⟩
      intro bsE vsE W hlb hlv hnd h
      obtain ⟨b0, bsE0, rfl, hlb0⟩ := len_one hlb
      obtain ⟨v0, vsE0, rfl, hlv0⟩ := len_one hlv
      obtain ⟨b1, bsE1, rfl, hlb1⟩ := len_one hlb0
      obtain ⟨v1, vsE1, rfl, hlv1⟩ := len_one hlv0
      obtain ⟨b2, bsE2, rfl, hlb2⟩ := len_one hlb1
      obtain ⟨v2, vsE2, rfl, hlv2⟩ := len_one hlv1
      obtain rfl := len_nil hlb2
      obtain rfl := len_nil hlv2
      replace h : RawT w w.heap.size w.heap.size (.cells #[.int .i64 k, .int .i64 t, .int .i64 a, .int .i64 b, .string nm, .string ot] 23) [k] (b8 t) b0 b1 b2 v0 v1 v2 W := h
      clear hnd
      have HST := Lib.hid h
      have hb0 := h.bel.size; obtain ⟨g0, g1, g2, g3, g4, g5, gl⟩ := ev_cells h.box
      intro K Q hK
      simp only [putE, updAll, Act.put, List.setIfInBounds_toArray, List.set_cons_zero, List.set_cons_succ, List.set_nil] at hK ⊢
      go_wp2_with (fail)
      all_goals (first | exact hK _ (by first | exact h | exact h.step (by repeat' (first | exact Below.refl _ _ | apply bDrewN | apply bDrew))) | exact (by first | exact h | exact h.step (by repeat' (first | exact Below.refl _ _ | apply bDrewN | apply bDrew))))
    · refine ⟨10, (.int .u64 (t : Int)), rfl, by kernel_rfl, ?_⟩
      intro bsE vsE W hlb hlv hnd h
      obtain ⟨b0, bsE0, rfl, hlb0⟩ := len_one hlb
      obtain ⟨v0, vsE0, rfl, hlv0⟩ := len_one hlv
      obtain ⟨b1, bsE1, rfl, hlb1⟩ := len_one hlb0
      obtain ⟨v1, vsE1, rfl, hlv1⟩ := len_one hlv0
      obtain ⟨b2, bsE2, rfl, hlb2⟩ := len_one hlb1
      obtain ⟨v2, vsE2, rfl, hlv2⟩ := len_one hlv1
      obtain rfl := len_nil hlb2
      obtain rfl := len_nil hlv2
      replace h : RawT w w.heap.size w.heap.size (.cells #[.int .i64 k, .int .i64 t, .int .i64 a, .int .i64 b, .string nm, .string ot] 23) [k] (b8 t) b0 b1 b2 v0 v1 v2 W := h
      clear hnd
      have HST := Lib.hid h
      have hb0 := h.bel.size; obtain ⟨g0, g1, g2, g3, g4, g5, gl⟩ := ev_cells h.box
      intro K Q hK
      simp only [putE, updAll, Act.put, List.setIfInBounds_toArray, List.set_cons_zero, List.set_cons_succ, List.set_nil] at hK ⊢
      go_wp2_with (fail)
      all_goals (first | exact hK _ (by first | exact h | exact h.step (by repeat' (first | exact Below.refl _ _ | apply bDrewN | apply bDrew))) | exact (by first | exact h | exact h.step (by repeat' (first | exact Below.refl _ _ | apply bDrewN | apply bDrew))))
    · refine ⟨11, rfl, ?_⟩
      intro bsE vsE W hlb hlv hnd hbk h
      obtain ⟨b0, bsE0, rfl, hlb0⟩ := len_one hlb
      obtain ⟨v0, vsE0, rfl, hlv0⟩ := len_one hlv
      obtain ⟨b1, bsE1, rfl, hlb1⟩ := len_one hlb0
      obtain ⟨v1, vsE1, rfl, hlv1⟩ := len_one hlv0
      obtain ⟨b2, bsE2, rfl, hlb2⟩ := len_one hlb1
      obtain ⟨v2, vsE2, rfl, hlv2⟩ := len_one hlv1
      obtain rfl := len_nil hlb2
      obtain rfl := len_nil hlv2
      obtain rfl : b1 = false := hbk
      replace h : RawT w w.heap.size w.heap.size (.cells #[.int .i64 k, .int .i64 t, .int .i64 a, .int .i64 b, .string nm, .string ot] 23) [k] (b8 t) b0 false b2 v0 v1 v2 W := h
      clear hnd
      have HST := Lib.hid h
      have hb0 := h.bel.size; obtain ⟨g0, g1, g2, g3, g4, g5, gl⟩ := ev_cells h.box
      intro K Q hK
      simp only [putE, updAll, Act.put, List.setIfInBounds_toArray, List.set_cons_zero, List.set_cons_succ, List.set_nil] at hK ⊢
      go_wp2_with (go_at_call 39; refine (C1.out _).mono ?_; rintro e w1 ⟨rfl, hp, hb1⟩)
      all_goals (have hm := h.mk1 (c := 8) hb1 hp rfl (arr_at _))
      all_goals (first | exact hK _ _ hm | exact hm)
    · refine ⟨12, rfl, ?_⟩
      intro bsE vsE W hlb hlv hnd hbk h
      obtain ⟨b0, bsE0, rfl, hlb0⟩ := len_one hlb
      obtain ⟨v0, vsE0, rfl, hlv0⟩ := len_one hlv
      obtain ⟨b1, bsE1, rfl, hlb1⟩ := len_one hlb0
      obtain ⟨v1, vsE1, rfl, hlv1⟩ := len_one hlv0
      obtain ⟨b2, bsE2, rfl, hlb2⟩ := len_one hlb1
      obtain ⟨v2, vsE2, rfl, hlv2⟩ := len_one hlv1
      obtain rfl := len_nil hlb2
      obtain rfl := len_nil hlv2
      obtain rfl : b0 = true := hnd 0 (by simp)
      obtain rfl : b1 = true := hnd 1 (by simp)
      obtain rfl : b2 = false := hbk
      replace h : RawT w w.heap.size w.heap.size (.cells #[.int .i64 k, .int .i64 t, .int .i64 a, .int .i64 b, .string nm, .string ot] 23) [k] (b8 t) true true false v0 v1 v2 W := h
      clear hnd
      have HST := Lib.hid h
      skip
      intro K Q hK
      simp only [putE, updAll, Act.put, List.setIfInBounds_toArray, List.set_cons_zero, List.set_cons_succ, List.set_nil] at hK ⊢
      refine h.app2 (.tmp 7) (.tmp 11) rfl rfl rfl (by simp [b8]) ?_
      intro v' W' k
      first | exact hK _ _ k | exact k
  case tail =>
    intro vsE W hlv h
    obtain ⟨v0, vsE0, rfl, hlv0⟩ := len_one hlv
    obtain ⟨v1, vsE1, rfl, hlv1⟩ := len_one hlv0
    obtain ⟨v2, vsE2, rfl, hlv2⟩ := len_one hlv1
    obtain rfl := len_nil hlv2
    replace h : RawT w w.heap.size w.heap.size (.cells #[.int .i64 k, .int .i64 t, .int .i64 a, .int .i64 b, .string nm, .string ot] 23) [k] (b8 t) true true true v0 v1 v2 W := h
    have HST := Lib.hid h
    have P2 := Lib.hid h.fin
    refine wpOp_plain rfl rfl ?_
    simp only [putE, updAll, Act.put, List.setIfInBounds_toArray, List.set_cons_zero, List.set_cons_succ, List.set_nil]
    clear h HST R0
    generalize hR1 : [k] ++ b8 t = R1 at *
    have HR1 := Lib.hid hR1
    clear hR1
    have HL1 := Lib.hid (show R1.length ≤ 10 by rw [← HR1.out]; simp [b8])
    generalize v2 = vq1 at *
    go_upto_region 2 with fail
    refine region_effs 11 12 [(4, 17), (5, 18), (9, 22), (10, 23)] [(none, []), (none, []), (none, []), (none, []), (some 0, []), (some 1, [0]), (none, []), (none, []), (none, []), (some 2, []), (some 3, [1, 2])] [(13, vq1), (14, (.pointer (some ⟨w.heap.size, 2, none⟩))), (15, (.int .i64 (a : Int))), (16, (.int .u64 (a : Int))), (19, (.pointer (some ⟨w.heap.size, 3, none⟩))), (20, (.int .i64 (b : Int))), (21, (.int .u64 (b : Int)))] (fun bsE vsE W => RawS w w.heap.size w.heap.size (.cells #[.int .i64 k, .int .i64 t, .int .i64 a, .int .i64 b, .string nm, .string ot] 23) (R1) (b8 a) (b8 b) vq1 (bsE.getD 0 false) (bsE.getD 1 false) (bsE.getD 2 false) (bsE.getD 3 false) (vsE.getD 0 undef) (vsE.getD 1 undef) (vsE.getD 2 undef) (vsE.getD 3 undef) W) (by kernel_rfl) (by kernel_rfl) rfl (by kernel_rfl) (by kernel_rfl) (by simp) (by rfl) ?h0 ?each ?tail
    case h0 =>
      intro vsE hlv
      obtain ⟨v0, vsE0, rfl, hlv0⟩ := len_one hlv
      obtain ⟨v1, vsE1, rfl, hlv1⟩ := len_one hlv0
      obtain ⟨v2, vsE2, rfl, hlv2⟩ := len_one hlv1
      obtain ⟨v3, vsE3, rfl, hlv3⟩ := len_one hlv2
      obtain rfl := len_nil hlv3
      exact RawS.start P2.out
    case each =>
      simp only [List.take_succ_cons, List.take_zero, AllE]
      refine ⟨?_, ?_, ?_, ?_, ?_, ?_, ?_, ?_, ?_, ?_, ?_, trivial⟩
      · refine ⟨13, vq1, rfl, by kernel_rfl, ?_⟩
        intro bsE vsE W hlb hlv hnd h
        obtain ⟨b0, bsE0, rfl, hlb0⟩ := len_one hlb
        obtain ⟨v0, vsE0, rfl, hlv0⟩ := len_one hlv
        obtain ⟨b1, bsE1, rfl, hlb1⟩ := len_one hlb0
        obtain ⟨v1, vsE1, rfl, hlv1⟩ := len_one hlv0
        obtain ⟨b2, bsE2, rfl, hlb2⟩ := len_one hlb1
        obtain ⟨v2, vsE2, rfl, hlv2⟩ := len_one hlv1
        obtain ⟨b3, bsE3, rfl, hlb3⟩ := len_one hlb2
        obtain ⟨v3, vsE3, rfl, hlv3⟩ := len_one hlv2
        obtain rfl := len_nil hlb3
        obtain rfl := len_nil hlv3
        replace h : RawS w w.heap.size w.heap.size (.cells #[.int .i64 k, .int .i64 t, .int .i64 a, .int .i64 b, .string nm, .string ot] 23) (R1) (b8 a) (b8 b) vq1 b0 b1 b2 b3 v0 v1 v2 v3 W := h
        clear hnd
        have HST := Lib.hid h
        have hb0 := h.bel.size; obtain ⟨g0, g1, g2, g3, g4, g5, gl⟩ := ev_cells h.box
        intro K Q hK
        simp only [putE, updAll, Act.put, List.setIfInBounds_toArray, List.set_cons_zero, List.set_cons_succ, List.set_nil] at hK ⊢
        go_wp2_with (fail)
        all_goals (first | exact hK _ (by first | exact h | exact h.step (by repeat' (first | exact Below.refl _ _ | apply bDrewN | apply bDrew))) | exact (by first | exact h | exact h.step (by repeat' (first | exact Below.refl _ _ | apply bDrewN | apply bDrew))))
      · refine ⟨14, (.pointer (some ⟨w.heap.size, 2, none⟩)), rfl, by kernel_rfl, ?_⟩
        intro bsE vsE W hlb hlv hnd h
        obtain ⟨b0, bsE0, rfl, hlb0⟩ := len_one hlb
        obtain ⟨v0, vsE0, rfl, hlv0⟩ := len_one hlv
        obtain ⟨b1, bsE1, rfl, hlb1⟩ := len_one hlb0
        obtain ⟨v1, vsE1, rfl, hlv1⟩ := len_one hlv0
        obtain ⟨b2, bsE2, rfl, hlb2⟩ := len_one hlb1
        obtain ⟨v2, vsE2, rfl, hlv2⟩ := len_one hlv1
        obtain ⟨b3, bsE3, rfl, hlb3⟩ := len_one hlb2
        obtain ⟨v3, vsE3, rfl, hlv3⟩ := len_one hlv2
        obtain rfl := len_nil hlb3
        obtain rfl := len_nil hlv3
        replace h : RawS w w.heap.size w.heap.size (.cells #[.int .i64 k, .int .i64 t, .int .i64 a, .int .i64 b, .string nm, .string ot] 23) (R1) (b8 a) (b8 b) vq1 b0 b1 b2 b3 v0 v1 v2 v3 W := h
        clear hnd
        have HST := Lib.hid h
        have hb0 := h.bel.size; obtain ⟨g0, g1, g2, g3, g4, g5, gl⟩ := ev_cells h.box
        intro K Q hK
        simp only [putE, updAll, Act.put, List.setIfInBounds_toArray, List.set_cons_zero, List.set_cons_succ, List.set_nil] at hK ⊢
        go_wp2_with (fail)
        all_goals (first | exact hK _ (by first | exact h | exact h.step (by repeat' (first | exact Below.refl _ _ | apply bDrewN | apply bDrew))) | exact (by first | exact h | exact h.step (by repeat' (first | exact Below.refl _ _ | apply bDrewN | apply bDrew))))
      · refine ⟨15, (.int .i64 (a : Int)), rfl, by kernel_rfl, ?_⟩
        intro bsE vsE W hlb hlv hnd h
        obtain ⟨b0, bsE0, rfl, hlb0⟩ := len_one hlb
        obtain ⟨v0, vsE0, rfl, hlv0⟩ := len_one hlv
        obtain ⟨b1, bsE1, rfl, hlb1⟩ := len_one hlb0
        obtain ⟨v1, vsE1, rfl, hlv1⟩ := len_one hlv0
        obtain ⟨b2, bsE2, rfl, hlb2⟩ := len_one hlb1
        obtain ⟨v2, vsE2, rfl, hlv2⟩ := len_one hlv1
        obtain ⟨b3, bsE3, rfl, hlb3⟩ := len_one hlb2
        obtain ⟨v3, vsE3, rfl, hlv3⟩ := len_one hlv2
        obtain rfl := len_nil hlb3
        obtain rfl := len_nil hlv3
        replace h : RawS w w.heap.size w.heap.size (.cells #[.int .i64 k, .int .i64 t, .int .i64 a, .int .i64 b, .string nm, .string ot] 23) (R1) (b8 a) (b8 b) vq1 b0 b1 b2 b3 v0 v1 v2 v3 W := h
        clear hnd
        have HST := Lib.hid h
        have hb0 := h.bel.size; obtain ⟨g0, g1, g2, g3, g4, g5, gl⟩ := ev_cells h.box
        intro K Q hK
        simp only [putE, updAll, Act.put, List.setIfInBounds_toArray, List.set_cons_zero, List.set_cons_succ, List.set_nil] at hK ⊢
        go_wp2_with (fail)
        all_goals (first | exact hK _ (by first | exact h | exact h.step (by repeat' (first | exact Below.refl _ _ | apply bDrewN | apply bDrew))) | exact (by first | exact h | exact h.step (by repeat' (first | exact Below.refl _ _ | apply bDrewN | apply bDrew))))
      · refine ⟨16, (.int .u64 (a : Int)), rfl, by kernel_rfl, ?_⟩
        intro bsE vsE W hlb hlv hnd h
        obtain ⟨b0, bsE0, rfl, hlb0⟩ := len_one hlb
        obtain ⟨v0, vsE0, rfl, hlv0⟩ := len_one hlv
        obtain ⟨b1, bsE1, rfl, hlb1⟩ := len_one hlb0
        obtain ⟨v1, vsE1, rfl, hlv1⟩ := len_one hlv0
        obtain ⟨b2, bsE2, rfl, hlb2⟩ := len_one hlb1
        obtain ⟨v2, vsE2, rfl, hlv2⟩ := len_one hlv1
        obtain ⟨b3, bsE3, rfl, hlb3⟩ := len_one hlb2
        obtain ⟨v3, vsE3, rfl, hlv3⟩ := len_one hlv2
        obtain rfl := len_nil hlb3
        obtain rfl := len_nil hlv3
        replace h : RawS w w.heap.size w.heap.size (.cells #[.int .i64 k, .int .i64 t, .int .i64 a, .int .i64 b, .string nm, .string ot] 23) (R1) (b8 a) (b8 b) vq1 b0 b1 b2 b3 v0 v1 v2 v3 W := h
        clear hnd
        have HST := Lib.hid h
        have hb0 := h.bel.size; obtain ⟨g0, g1, g2, g3, g4, g5, gl⟩ := ev_cells h.box
        intro K Q hK
        simp only [putE, updAll, Act.put, List.setIfInBounds_toArray, List.set_cons_zero, List.set_cons_succ, List.set_nil] at hK ⊢
        go_wp2_with (fail)
        all_goals (first | exact hK _ (by first | exact h | exact h.step (by repeat' (first | exact Below.refl _ _ | apply bDrewN | apply bDrew))) | exact (by first | exact h | exact h.step (by repeat' (first | exact Below.refl _ _ | apply bDrewN | apply bDrew))))
      · refine ⟨17, rfl, ?_⟩
        intro bsE vsE W hlb hlv hnd hbk h
        obtain ⟨b0, bsE0, rfl, hlb0⟩ := len_one hlb
        obtain ⟨v0, vsE0, rfl, hlv0⟩ := len_one hlv
        obtain ⟨b1, bsE1, rfl, hlb1⟩ := len_one hlb0
        obtain ⟨v1, vsE1, rfl, hlv1⟩ := len_one hlv0
        obtain ⟨b2, bsE2, rfl, hlb2⟩ := len_one hlb1
        obtain ⟨v2, vsE2, rfl, hlv2⟩ := len_one hlv1
        obtain ⟨b3, bsE3, rfl, hlb3⟩ := len_one hlb2
        obtain ⟨v3, vsE3, rfl, hlv3⟩ := len_one hlv2
        obtain rfl := len_nil hlb3
        obtain rfl := len_nil hlv3
        obtain rfl : b0 = false := hbk
        replace h : RawS w w.heap.size w.heap.size (.cells #[.int .i64 k, .int .i64 t, .int .i64 a, .int .i64 b, .string nm, .string ot] 23) (R1) (b8 a) (b8 b) vq1 false b1 b2 b3 v0 v1 v2 v3 W := h
        clear hnd
        have HST := Lib.hid h
        have hb0 := h.bel.size; obtain ⟨g0, g1, g2, g3, g4, g5, gl⟩ := ev_cells h.box
        intro K Q hK
        simp only [putE, updAll, Act.put, List.setIfInBounds_toArray, List.set_cons_zero, List.set_cons_succ, List.set_nil] at hK ⊢
        go_wp2_with (go_at_call 39; refine (C2.out _).mono ?_; rintro e w1 ⟨rfl, hp, hb1⟩)
        all_goals (have hm := h.mk0 (c := 8) hb1 hp rfl (arr_at _))
        all_goals (first | exact hK _ _ hm | exact hm)
      · refine ⟨18, rfl, ?_⟩
        intro bsE vsE W hlb hlv hnd hbk h
        obtain ⟨b0, bsE0, rfl, hlb0⟩ := len_one hlb
        obtain ⟨v0, vsE0, rfl, hlv0⟩ := len_one hlv
        obtain ⟨b1, bsE1, rfl, hlb1⟩ := len_one hlb0
        obtain ⟨v1, vsE1, rfl, hlv1⟩ := len_one hlv0
        obtain ⟨b2, bsE2, rfl, hlb2⟩ := len_one hlb1
        obtain ⟨v2, vsE2, rfl, hlv2⟩ := len_one hlv1
        obtain ⟨b3, bsE3, rfl, hlb3⟩ := len_one hlb2
        obtain ⟨v3, vsE3, rfl, hlv3⟩ := len_one hlv2
        obtain rfl := len_nil hlb3
        obtain rfl := len_nil hlv3
        obtain rfl : b0 = true := hnd 0 (by simp)
        obtain rfl : b1 = false := hbk
        replace h : RawS w w.heap.size w.heap.size (.cells #[.int .i64 k, .int .i64 t, .int .i64 a, .int .i64 b, .string nm, .string ot] 23) (R1) (b8 a) (b8 b) vq1 true false b2 b3 v0 v1 v2 v3 W := h
        clear hnd
        have HST := Lib.hid h
        obtain rfl := h.n1
        intro K Q hK
        simp only [putE, updAll, Act.put, List.setIfInBounds_toArray, List.set_cons_zero, List.set_cons_succ, List.set_nil] at hK ⊢
        refine h.app1 (.tmp 13) (.tmp 17) rfl rfl rfl (by have := HL1.out; simp [b8]; omega) ?_
        intro v' W' k
        first | exact hK _ _ k | exact k
      · refine ⟨19, (.pointer (some ⟨w.heap.size, 3, none⟩)), rfl, by kernel_rfl, ?_⟩
        intro bsE vsE W hlb hlv hnd h
        obtain ⟨b0, bsE0, rfl, hlb0⟩ := len_one hlb
        obtain ⟨v0, vsE0, rfl, hlv0⟩ := len_one hlv
        obtain ⟨b1, bsE1, rfl, hlb1⟩ := len_one hlb0
        obtain ⟨v1, vsE1, rfl, hlv1⟩ := len_one hlv0
        obtain ⟨b2, bsE2, rfl, hlb2⟩ := len_one hlb1
        obtain ⟨v2, vsE2, rfl, hlv2⟩ := len_one hlv1
        obtain ⟨b3, bsE3, rfl, hlb3⟩ := len_one hlb2
        obtain ⟨v3, vsE3, rfl, hlv3⟩ := len_one hlv2
        obtain rfl := len_nil hlb3
        obtain rfl := len_nil hlv3
        replace h : RawS w w.heap.size w.heap.size (.cells #[.int .i64 k, .int .i64 t, .int .i64 a, .int .i64 b, .string nm, .string ot] 23) (R1) (b8 a) (b8 b) vq1 b0 b1 b2 b3 v0 v1 v2 v3 W := h
        clear hnd
        have HST := Lib.hid h
        have hb0 := h.bel.size; obtain ⟨g0, g1, g2, g3, g4, g5, gl⟩ := ev_cells h.box
        intro K Q hK
        simp only [putE, updAll, Act.put, List.setIfInBounds_toArray, List.set_cons_zero, List.set_cons_succ, List.set_nil] at hK ⊢
        go_wp2_with (fail)
        all_goals (first | exact hK _ (by first | exact h | exact h.step (by repeat' (first | exact Below.refl _ _ | apply bDrewN | apply bDrew))) | exact (by first | exact h | exact h.step (by repeat' (first | exact Below.refl _ _ | apply bDrewN | apply bDrew))))
      · refine ⟨20, (.int .i64 (b : Int)), rfl, by kernel_rfl, ?_⟩
        intro bsE vsE W hlb hlv hnd h
        obtain ⟨b0, bsE0, rfl, hlb0⟩ := len_one hlb
        obtain ⟨v0, vsE0, rfl, hlv0⟩ := len_one hlv
        obtain ⟨b1, bsE1, rfl, hlb1⟩ := len_one hlb0
        obtain ⟨v1, vsE1, rfl, hlv1⟩ := len_one hlv0
        obtain ⟨b2, bsE2, rfl, hlb2⟩ := len_one hlb1
        obtain ⟨v2, vsE2, rfl, hlv2⟩ := len_one hlv1
        obtain ⟨b3, bsE3, rfl, hlb3⟩ := len_one hlb2
        obtain ⟨v3, vsE3, rfl, hlv3⟩ := len_one hlv2
        obtain rfl := len_nil hlb3
        obtain rfl := len_nil hlv3
        replace h : RawS w w.heap.size w.heap.size (.cells #[.int .i64 k, .int .i64 t, .int .i64 a, .int .i64 b, .string nm, .string ot] 23) (R1) (b8 a) (b8 b) vq1 b0 b1 b2 b3 v0 v1 v2 v3 W := h
        clear hnd
        have HST := Lib.hid h
        have hb0 := h.bel.size; obtain ⟨g0, g1, g2, g3, g4, g5, gl⟩ := ev_cells h.box
        intro K Q hK
        simp only [putE, updAll, Act.put, List.setIfInBounds_toArray, List.set_cons_zero, List.set_cons_succ, List.set_nil] at hK ⊢
        go_wp2_with (fail)
        all_goals (first | exact hK _ (by first | exact h | exact h.step (by repeat' (first | exact Below.refl _ _ | apply bDrewN | apply bDrew))) | exact (by first | exact h | exact h.step (by repeat' (first | exact Below.refl _ _ | apply bDrewN | apply bDrew))))
      · refine ⟨21, (.int .u64 (b : Int)), rfl, by kernel_rfl, ?_⟩
        intro bsE vsE W hlb hlv hnd h
        obtain ⟨b0, bsE0, rfl, hlb0⟩ := len_one hlb
        obtain ⟨v0, vsE0, rfl, hlv0⟩ := len_one hlv
        obtain ⟨b1, bsE1, rfl, hlb1⟩ := len_one hlb0
        obtain ⟨v1, vsE1, rfl, hlv1⟩ := len_one hlv0
        obtain ⟨b2, bsE2, rfl, hlb2⟩ := len_one hlb1
        obtain ⟨v2, vsE2, rfl, hlv2⟩ := len_one hlv1
        obtain ⟨b3, bsE3, rfl, hlb3⟩ := len_one hlb2
        obtain ⟨v3, vsE3, rfl, hlv3⟩ := len_one hlv2
        obtain rfl := len_nil hlb3
        obtain rfl := len_nil hlv3
        replace h : RawS w w.heap.size w.heap.size (.cells #[.int .i64 k, .int .i64 t, .int .i64 a, .int .i64 b, .string nm, .string ot] 23) (R1) (b8 a) (b8 b) vq1 b0 b1 b2 b3 v0 v1 v2 v3 W := h
        clear hnd
        have HST := Lib.hid h
        have hb0 := h.bel.size; obtain ⟨g0, g1, g2, g3, g4, g5, gl⟩ := ev_cells h.box
        intro K Q hK
        simp only [putE, updAll, Act.put, List.setIfInBounds_toArray, List.set_cons_zero, List.set_cons_succ, List.set_nil] at hK ⊢
        go_wp2_with (fail)
        all_goals (first | exact hK _ (by first | exact h | exact h.step (by repeat' (first | exact Below.refl _ _ | apply bDrewN | apply bDrew))) | exact (by first | exact h | exact h.step (by repeat' (first | exact Below.refl _ _ | apply bDrewN | apply bDrew))))
      · refine ⟨22, rfl, ?_⟩
        intro bsE vsE W hlb hlv hnd hbk h
        obtain ⟨b0, bsE0, rfl, hlb0⟩ := len_one hlb
        obtain ⟨v0, vsE0, rfl, hlv0⟩ := len_one hlv
        obtain ⟨b1, bsE1, rfl, hlb1⟩ := len_one hlb0
        obtain ⟨v1, vsE1, rfl, hlv1⟩ := len_one hlv0
        obtain ⟨b2, bsE2, rfl, hlb2⟩ := len_one hlb1
        obtain ⟨v2, vsE2, rfl, hlv2⟩ := len_one hlv1
        obtain ⟨b3, bsE3, rfl, hlb3⟩ := len_one hlb2
        obtain ⟨v3, vsE3, rfl, hlv3⟩ := len_one hlv2
        obtain rfl := len_nil hlb3
        obtain rfl := len_nil hlv3
        obtain rfl : b2 = false := hbk
        replace h : RawS w w.heap.size w.heap.size (.cells #[.int .i64 k, .int .i64 t, .int .i64 a, .int .i64 b, .string nm, .string ot] 23) (R1) (b8 a) (b8 b) vq1 b0 b1 false b3 v0 v1 v2 v3 W := h
        clear hnd
        have HST := Lib.hid h
        have hb0 := h.bel.size; obtain ⟨g0, g1, g2, g3, g4, g5, gl⟩ := ev_cells h.box
        intro K Q hK
        simp only [putE, updAll, Act.put, List.setIfInBounds_toArray, List.set_cons_zero, List.set_cons_succ, List.set_nil] at hK ⊢
        go_wp2_with (go_at_call 39; refine (C3.out _).mono ?_; rintro e w1 ⟨rfl, hp, hb1⟩)
        all_goals (have hm := h.mk2 (c := 8) hb1 hp rfl (arr_at _))
        all_goals (first | exact hK _ _ hm | exact hm)
      · refine ⟨23, rfl, ?_⟩
        intro bsE vsE W hlb hlv hnd hbk h
        obtain ⟨b0, bsE0, rfl, hlb0⟩ := len_one hlb
        obtain ⟨v0, vsE0, rfl, hlv0⟩ := len_one hlv
        obtain ⟨b1, bsE1, rfl, hlb1⟩ := len_one hlb0
        obtain ⟨v1, vsE1, rfl, hlv1⟩ := len_one hlv0
        obtain ⟨b2, bsE2, rfl, hlb2⟩ := len_one hlb1
        obtain ⟨v2, vsE2, rfl, hlv2⟩ := len_one hlv1
        obtain ⟨b3, bsE3, rfl, hlb3⟩ := len_one hlb2
        obtain ⟨v3, vsE3, rfl, hlv3⟩ := len_one hlv2
        obtain rfl := len_nil hlb3
        obtain rfl := len_nil hlv3
        obtain rfl : b1 = true := hnd 1 (by simp)
        obtain rfl : b2 = true := hnd 2 (by simp)
        obtain rfl : b3 = false := hbk
        replace h : RawS w w.heap.size w.heap.size (.cells #[.int .i64 k, .int .i64 t, .int .i64 a, .int .i64 b, .string nm, .string ot] 23) (R1) (b8 a) (b8 b) vq1 b0 true true false v0 v1 v2 v3 W := h
        clear hnd
        have HST := Lib.hid h
        skip
        intro K Q hK
        simp only [putE, updAll, Act.put, List.setIfInBounds_toArray, List.set_cons_zero, List.set_cons_succ, List.set_nil] at hK ⊢
        refine h.app3 (.tmp 18) (.tmp 22) rfl rfl rfl (by have := HL1.out; simp [b8]; omega) ?_
        intro v' W' k
        first | exact hK _ _ k | exact k
    case tail =>
      intro vsE W hlv h
      obtain ⟨v0, vsE0, rfl, hlv0⟩ := len_one hlv
      obtain ⟨v1, vsE1, rfl, hlv1⟩ := len_one hlv0
      obtain ⟨v2, vsE2, rfl, hlv2⟩ := len_one hlv1
      obtain ⟨v3, vsE3, rfl, hlv3⟩ := len_one hlv2
      obtain rfl := len_nil hlv3
      replace h : RawS w w.heap.size w.heap.size (.cells #[.int .i64 k, .int .i64 t, .int .i64 a, .int .i64 b, .string nm, .string ot] 23) (R1) (b8 a) (b8 b) vq1 true true true true v0 v1 v2 v3 W := h
      have HST := Lib.hid h
      have P3 := Lib.hid h.fin
      refine wpOp_plain rfl rfl ?_
      simp only [putE, updAll, Act.put, List.setIfInBounds_toArray, List.set_cons_zero, List.set_cons_succ, List.set_nil]
      clear h HST P2
      generalize hR2 : R1 ++ b8 a ++ b8 b = R2 at *
      have HR2 := Lib.hid hR2
      clear hR2
      have HL2 := Lib.hid (show R2.length ≤ 50 by rw [← HR2.out]; simp [b8]; have := HL1.out; omega)
      generalize v3 = vq2 at *
      go_upto_region 3 with fail
      refine region_effs 11 12 [(5, 29), (6, 30), (9, 33), (10, 34)] [(none, []), (none, []), (none, []), (none, []), (none, []), (some 0, []), (some 1, [0]), (none, []), (none, []), (some 2, []), (some 3, [1, 2])] [(24, vq2), (25, (.pointer (some ⟨w.heap.size, 4, none⟩))), (26, (.string nm)), (27, (.int .i64 (nm.size : Int))), (28, (.int .u8 (nm.size : Int))), (31, (.pointer (some ⟨w.heap.size, 4, none⟩))), (32, (.string nm))] (fun bsE vsE W => RawS w w.heap.size w.heap.size (.cells #[.int .i64 k, .int .i64 t, .int .i64 a, .int .i64 b, .string nm, .string ot] 23) (R2) ([nm.size]) (nm.data.toList.map UInt8.toNat) vq2 (bsE.getD 0 false) (bsE.getD 1 false) (bsE.getD 2 false) (bsE.getD 3 false) (vsE.getD 0 undef) (vsE.getD 1 undef) (vsE.getD 2 undef) (vsE.getD 3 undef) W) (by kernel_rfl) (by kernel_rfl) rfl (by kernel_rfl) (by kernel_rfl) (by simp) (by rfl) ?h0 ?each ?tail
      case h0 =>
        intro vsE hlv
        obtain ⟨v0, vsE0, rfl, hlv0⟩ := len_one hlv
        obtain ⟨v1, vsE1, rfl, hlv1⟩ := len_one hlv0
        obtain ⟨v2, vsE2, rfl, hlv2⟩ := len_one hlv1
        obtain ⟨v3, vsE3, rfl, hlv3⟩ := len_one hlv2
        obtain rfl := len_nil hlv3
        exact RawS.start P3.out
      case each =>
        simp only [List.take_succ_cons, List.take_zero, AllE]
        refine ⟨?_, ?_, ?_, ?_, ?_, ?_, ?_, ?_, ?_, ?_, ?_, trivial⟩
        · refine ⟨24, vq2, rfl, by kernel_rfl, ?_⟩
          intro bsE vsE W hlb hlv hnd h
          obtain ⟨b0, bsE0, rfl, hlb0⟩ := len_one hlb
          obtain ⟨v0, vsE0, rfl, hlv0⟩ := len_one hlv
          obtain ⟨b1, bsE1, rfl, hlb1⟩ := len_one hlb0
          obtain ⟨v1, vsE1, rfl, hlv1⟩ := len_one hlv0
          obtain ⟨b2, bsE2, rfl, hlb2⟩ := len_one hlb1
          obtain ⟨v2, vsE2, rfl, hlv2⟩ := len_one hlv1
          obtain ⟨b3, bsE3, rfl, hlb3⟩ := len_one hlb2
          obtain ⟨v3, vsE3, rfl, hlv3⟩ := len_one hlv2
          obtain rfl := len_nil hlb3
          obtain rfl := len_nil hlv3
          replace h : RawS w w.heap.size w.heap.size (.cells #[.int .i64 k, .int .i64 t, .int .i64 a, .int .i64 b, .string nm, .string ot] 23) (R2) ([nm.size]) (nm.data.toList.map UInt8.toNat) vq2 b0 b1 b2 b3 v0 v1 v2 v3 W := h
          clear hnd
          have HST := Lib.hid h
          have hb0 := h.bel.size; obtain ⟨g0, g1, g2, g3, g4, g5, gl⟩ := ev_cells h.box
          intro K Q hK
          simp only [putE, updAll, Act.put, List.setIfInBounds_toArray, List.set_cons_zero, List.set_cons_succ, List.set_nil] at hK ⊢
          go_wp2_with (fail)
          all_goals (first | exact hK _ (by first | exact h | exact h.step (by repeat' (first | exact Below.refl _ _ | apply bDrewN | apply bDrew))) | exact (by first | exact h | exact h.step (by repeat' (first | exact Below.refl _ _ | apply bDrewN | apply bDrew))))
        · refine ⟨25, (.pointer (some ⟨w.heap.size, 4, none⟩)), rfl, by kernel_rfl, ?_⟩
          intro bsE vsE W hlb hlv hnd h
          obtain ⟨b0, bsE0, rfl, hlb0⟩ := len_one hlb
          obtain ⟨v0, vsE0, rfl, hlv0⟩ := len_one hlv
          obtain ⟨b1, bsE1, rfl, hlb1⟩ := len_one hlb0
          obtain ⟨v1, vsE1, rfl, hlv1⟩ := len_one hlv0
          obtain ⟨b2, bsE2, rfl, hlb2⟩ := len_one hlb1
          obtain ⟨v2, vsE2, rfl, hlv2⟩ := len_one hlv1
          obtain ⟨b3, bsE3, rfl, hlb3⟩ := len_one hlb2
          obtain ⟨v3, vsE3, rfl, hlv3⟩ := len_one hlv2
          obtain rfl := len_nil hlb3
          obtain rfl := len_nil hlv3
          replace h : RawS w w.heap.size w.heap.size (.cells #[.int .i64 k, .int .i64 t, .int .i64 a, .int .i64 b, .string nm, .string ot] 23) (R2) ([nm.size]) (nm.data.toList.map UInt8.toNat) vq2 b0 b1 b2 b3 v0 v1 v2 v3 W := h
          clear hnd
          have HST := Lib.hid h
          have hb0 := h.bel.size; obtain ⟨g0, g1, g2, g3, g4, g5, gl⟩ := ev_cells h.box
          intro K Q hK
          simp only [putE, updAll, Act.put, List.setIfInBounds_toArray, List.set_cons_zero, List.set_cons_succ, List.set_nil] at hK ⊢
          go_wp2_with (fail)
          all_goals (first | exact hK _ (by first | exact h | exact h.step (by repeat' (first | exact Below.refl _ _ | apply bDrewN | apply bDrew))) | exact (by first | exact h | exact h.step (by repeat' (first | exact Below.refl _ _ | apply bDrewN | apply bDrew))))
        · refine ⟨26, (.string nm), rfl, by kernel_rfl, ?_⟩
          intro bsE vsE W hlb hlv hnd h
          obtain ⟨b0, bsE0, rfl, hlb0⟩ := len_one hlb
          obtain ⟨v0, vsE0, rfl, hlv0⟩ := len_one hlv
          obtain ⟨b1, bsE1, rfl, hlb1⟩ := len_one hlb0
          obtain ⟨v1, vsE1, rfl, hlv1⟩ := len_one hlv0
          obtain ⟨b2, bsE2, rfl, hlb2⟩ := len_one hlb1
          obtain ⟨v2, vsE2, rfl, hlv2⟩ := len_one hlv1
          obtain ⟨b3, bsE3, rfl, hlb3⟩ := len_one hlb2
          obtain ⟨v3, vsE3, rfl, hlv3⟩ := len_one hlv2
          obtain rfl := len_nil hlb3
          obtain rfl := len_nil hlv3
          replace h : RawS w w.heap.size w.heap.size (.cells #[.int .i64 k, .int .i64 t, .int .i64 a, .int .i64 b, .string nm, .string ot] 23) (R2) ([nm.size]) (nm.data.toList.map UInt8.toNat) vq2 b0 b1 b2 b3 v0 v1 v2 v3 W := h
          clear hnd
          have HST := Lib.hid h
          have hb0 := h.bel.size; obtain ⟨g0, g1, g2, g3, g4, g5, gl⟩ := ev_cells h.box
          intro K Q hK
          simp only [putE, updAll, Act.put, List.setIfInBounds_toArray, List.set_cons_zero, List.set_cons_succ, List.set_nil] at hK ⊢
          go_wp2_with (fail)
          all_goals (first | exact hK _ (by first | exact h | exact h.step (by repeat' (first | exact Below.refl _ _ | apply bDrewN | apply bDrew))) | exact (by first | exact h | exact h.step (by repeat' (first | exact Below.refl _ _ | apply bDrewN | apply bDrew))))
        · refine ⟨27, (.int .i64 (nm.size : Int)), rfl, by kernel_rfl, ?_⟩
          intro bsE vsE W hlb hlv hnd h
          obtain ⟨b0, bsE0, rfl, hlb0⟩ := len_one hlb
          obtain ⟨v0, vsE0, rfl, hlv0⟩ := len_one hlv
          obtain ⟨b1, bsE1, rfl, hlb1⟩ := len_one hlb0
          obtain ⟨v1, vsE1, rfl, hlv1⟩ := len_one hlv0
          obtain ⟨b2, bsE2, rfl, hlb2⟩ := len_one hlb1
          obtain ⟨v2, vsE2, rfl, hlv2⟩ := len_one hlv1
          obtain ⟨b3, bsE3, rfl, hlb3⟩ := len_one hlb2
          obtain ⟨v3, vsE3, rfl, hlv3⟩ := len_one hlv2
          obtain rfl := len_nil hlb3
          obtain rfl := len_nil hlv3
          replace h : RawS w w.heap.size w.heap.size (.cells #[.int .i64 k, .int .i64 t, .int .i64 a, .int .i64 b, .string nm, .string ot] 23) (R2) ([nm.size]) (nm.data.toList.map UInt8.toNat) vq2 b0 b1 b2 b3 v0 v1 v2 v3 W := h
          clear hnd
          have HST := Lib.hid h
          have hb0 := h.bel.size; obtain ⟨g0, g1, g2, g3, g4, g5, gl⟩ := ev_cells h.box
          intro K Q hK
          simp only [putE, updAll, Act.put, List.setIfInBounds_toArray, List.set_cons_zero, List.set_cons_succ, List.set_nil] at hK ⊢
          go_wp2_with (fail)
          all_goals (first | exact hK _ (by first | exact h | exact h.step (by repeat' (first | exact Below.refl _ _ | apply bDrewN | apply bDrew))) | exact (by first | exact h | exact h.step (by repeat' (first | exact Below.refl _ _ | apply bDrewN | apply bDrew))))
        · refine ⟨28, (.int .u8 (nm.size : Int)), rfl, by kernel_rfl, ?_⟩
          intro bsE vsE W hlb hlv hnd h
          obtain ⟨b0, bsE0, rfl, hlb0⟩ := len_one hlb
          obtain ⟨v0, vsE0, rfl, hlv0⟩ := len_one hlv
          obtain ⟨b1, bsE1, rfl, hlb1⟩ := len_one hlb0
          obtain ⟨v1, vsE1, rfl, hlv1⟩ := len_one hlv0
          obtain ⟨b2, bsE2, rfl, hlb2⟩ := len_one hlb1
          obtain ⟨v2, vsE2, rfl, hlv2⟩ := len_one hlv1
          obtain ⟨b3, bsE3, rfl, hlb3⟩ := len_one hlb2
          obtain ⟨v3, vsE3, rfl, hlv3⟩ := len_one hlv2
          obtain rfl := len_nil hlb3
          obtain rfl := len_nil hlv3
          replace h : RawS w w.heap.size w.heap.size (.cells #[.int .i64 k, .int .i64 t, .int .i64 a, .int .i64 b, .string nm, .string ot] 23) (R2) ([nm.size]) (nm.data.toList.map UInt8.toNat) vq2 b0 b1 b2 b3 v0 v1 v2 v3 W := h
          clear hnd
          have HST := Lib.hid h
          have hb0 := h.bel.size; obtain ⟨g0, g1, g2, g3, g4, g5, gl⟩ := ev_cells h.box
          intro K Q hK
          simp only [putE, updAll, Act.put, List.setIfInBounds_toArray, List.set_cons_zero, List.set_cons_succ, List.set_nil] at hK ⊢
          go_wp2_with (fail)
          all_goals (first | exact hK _ (by first | exact h | exact h.step (by repeat' (first | exact Below.refl _ _ | apply bDrewN | apply bDrew))) | exact (by first | exact h | exact h.step (by repeat' (first | exact Below.refl _ _ | apply bDrewN | apply bDrew))))
        · refine ⟨29, rfl, ?_⟩
          intro bsE vsE W hlb hlv hnd hbk h
          obtain ⟨b0, bsE0, rfl, hlb0⟩ := len_one hlb
          obtain ⟨v0, vsE0, rfl, hlv0⟩ := len_one hlv
          obtain ⟨b1, bsE1, rfl, hlb1⟩ := len_one hlb0
          obtain ⟨v1, vsE1, rfl, hlv1⟩ := len_one hlv0
          obtain ⟨b2, bsE2, rfl, hlb2⟩ := len_one hlb1
          obtain ⟨v2, vsE2, rfl, hlv2⟩ := len_one hlv1
          obtain ⟨b3, bsE3, rfl, hlb3⟩ := len_one hlb2
          obtain ⟨v3, vsE3, rfl, hlv3⟩ := len_one hlv2
          obtain rfl := len_nil hlb3
          obtain rfl := len_nil hlv3
          obtain rfl : b0 = false := hbk
          replace h : RawS w w.heap.size w.heap.size (.cells #[.int .i64 k, .int .i64 t, .int .i64 a, .int .i64 b, .string nm, .string ot] 23) (R2) ([nm.size]) (nm.data.toList.map UInt8.toNat) vq2 false b1 b2 b3 v0 v1 v2 v3 W := h
          clear hnd
          have HST := Lib.hid h
          have hb0 := h.bel.size; obtain ⟨g0, g1, g2, g3, g4, g5, gl⟩ := ev_cells h.box
          intro K Q hK
          simp only [putE, updAll, Act.put, List.setIfInBounds_toArray, List.set_cons_zero, List.set_cons_succ, List.set_nil] at hK ⊢
          go_wp2_with fail
          all_goals (have hm := h.mk0 (c := 1) Mr.bAl (blk_new W (.cells #[.int .u8 (nm.size : Int)] 5)) rfl (by intro j u hj; simpa [byC] using hj))
          all_goals (first | exact hK _ _ hm | exact hm)
        · refine ⟨30, rfl, ?_⟩
          intro bsE vsE W hlb hlv hnd hbk h
          obtain ⟨b0, bsE0, rfl, hlb0⟩ := len_one hlb
          obtain ⟨v0, vsE0, rfl, hlv0⟩ := len_one hlv
          obtain ⟨b1, bsE1, rfl, hlb1⟩ := len_one hlb0
          obtain ⟨v1, vsE1, rfl, hlv1⟩ := len_one hlv0
          obtain ⟨b2, bsE2, rfl, hlb2⟩ := len_one hlb1
          obtain ⟨v2, vsE2, rfl, hlv2⟩ := len_one hlv1
          obtain ⟨b3, bsE3, rfl, hlb3⟩ := len_one hlb2
          obtain ⟨v3, vsE3, rfl, hlv3⟩ := len_one hlv2
          obtain rfl := len_nil hlb3
          obtain rfl := len_nil hlv3
          obtain rfl : b0 = true := hnd 0 (by simp)
          obtain rfl : b1 = false := hbk
          replace h : RawS w w.heap.size w.heap.size (.cells #[.int .i64 k, .int .i64 t, .int .i64 a, .int .i64 b, .string nm, .string ot] 23) (R2) ([nm.size]) (nm.data.toList.map UInt8.toNat) vq2 true false b2 b3 v0 v1 v2 v3 W := h
          clear hnd
          have HST := Lib.hid h
          obtain rfl := h.n1
          intro K Q hK
          simp only [putE, updAll, Act.put, List.setIfInBounds_toArray, List.set_cons_zero, List.set_cons_succ, List.set_nil] at hK ⊢
          refine h.app1 (.tmp 24) (.tmp 29) rfl rfl rfl (by have := HL2.out; simp [← Lib.size_eq]; omega) ?_
          intro v' W' k
          first | exact hK _ _ k | exact k
        · refine ⟨31, (.pointer (some ⟨w.heap.size, 4, none⟩)), rfl, by kernel_rfl, ?_⟩
          intro bsE vsE W hlb hlv hnd h
          obtain ⟨b0, bsE0, rfl, hlb0⟩ := len_one hlb
          obtain ⟨v0, vsE0, rfl, hlv0⟩ := len_one hlv
          obtain ⟨b1, bsE1, rfl, hlb1⟩ := len_one hlb0
          obtain ⟨v1, vsE1, rfl, hlv1⟩ := len_one hlv0
          obtain ⟨b2, bsE2, rfl, hlb2⟩ := len_one hlb1
          obtain ⟨v2, vsE2, rfl, hlv2⟩ := len_one hlv1
          obtain ⟨b3, bsE3, rfl, hlb3⟩ := len_one hlb2
          obtain ⟨v3, vsE3, rfl, hlv3⟩ := len_one hlv2
          obtain rfl := len_nil hlb3
          obtain rfl := len_nil hlv3
          replace h : RawS w w.heap.size w.heap.size (.cells #[.int .i64 k, .int .i64 t, .int .i64 a, .int .i64 b, .string nm, .string ot] 23) (R2) ([nm.size]) (nm.data.toList.map UInt8.toNat) vq2 b0 b1 b2 b3 v0 v1 v2 v3 W := h
          clear hnd
          have HST := Lib.hid h
          have hb0 := h.bel.size; obtain ⟨g0, g1, g2, g3, g4, g5, gl⟩ := ev_cells h.box
          intro K Q hK
          simp only [putE, updAll, Act.put, List.setIfInBounds_toArray, List.set_cons_zero, List.set_cons_succ, List.set_nil] at hK ⊢
          go_wp2_with (fail)
          all_goals (first | exact hK _ (by first | exact h | exact h.step (by repeat' (first | exact Below.refl _ _ | apply bDrewN | apply bDrew))) | exact (by first | exact h | exact h.step (by repeat' (first | exact Below.refl _ _ | apply bDrewN | apply bDrew))))
        · refine ⟨32, (.string nm), rfl, by kernel_rfl, ?_⟩
          intro bsE vsE W hlb hlv hnd h
          obtain ⟨b0, bsE0, rfl, hlb0⟩ := len_one hlb
          obtain ⟨v0, vsE0, rfl, hlv0⟩ := len_one hlv
          obtain ⟨b1, bsE1, rfl, hlb1⟩ := len_one hlb0
          obtain ⟨v1, vsE1, rfl, hlv1⟩ := len_one hlv0
          obtain ⟨b2, bsE2, rfl, hlb2⟩ := len_one hlb1
          obtain ⟨v2, vsE2, rfl, hlv2⟩ := len_one hlv1
          obtain ⟨b3, bsE3, rfl, hlb3⟩ := len_one hlb2
          obtain ⟨v3, vsE3, rfl, hlv3⟩ := len_one hlv2
          obtain rfl := len_nil hlb3
          obtain rfl := len_nil hlv3
          replace h : RawS w w.heap.size w.heap.size (.cells #[.int .i64 k, .int .i64 t, .int .i64 a, .int .i64 b, .string nm, .string ot] 23) (R2) ([nm.size]) (nm.data.toList.map UInt8.toNat) vq2 b0 b1 b2 b3 v0 v1 v2 v3 W := h
          clear hnd
          have HST := Lib.hid h
          have hb0 := h.bel.size; obtain ⟨g0, g1, g2, g3, g4, g5, gl⟩ := ev_cells h.box
          intro K Q hK
          simp only [putE, updAll, Act.put, List.setIfInBounds_toArray, List.set_cons_zero, List.set_cons_succ, List.set_nil] at hK ⊢
          go_wp2_with (fail)
          all_goals (first | exact hK _ (by first | exact h | exact h.step (by repeat' (first | exact Below.refl _ _ | apply bDrewN | apply bDrew))) | exact (by first | exact h | exact h.step (by repeat' (first | exact Below.refl _ _ | apply bDrewN | apply bDrew))))
        · refine ⟨33, rfl, ?_⟩
          intro bsE vsE W hlb hlv hnd hbk h
          obtain ⟨b0, bsE0, rfl, hlb0⟩ := len_one hlb
          obtain ⟨v0, vsE0, rfl, hlv0⟩ := len_one hlv
          obtain ⟨b1, bsE1, rfl, hlb1⟩ := len_one hlb0
          obtain ⟨v1, vsE1, rfl, hlv1⟩ := len_one hlv0
          obtain ⟨b2, bsE2, rfl, hlb2⟩ := len_one hlb1
          obtain ⟨v2, vsE2, rfl, hlv2⟩ := len_one hlv1
          obtain ⟨b3, bsE3, rfl, hlb3⟩ := len_one hlb2
          obtain ⟨v3, vsE3, rfl, hlv3⟩ := len_one hlv2
          obtain rfl := len_nil hlb3
          obtain rfl := len_nil hlv3
          obtain rfl : b2 = false := hbk
          replace h : RawS w w.heap.size w.heap.size (.cells #[.int .i64 k, .int .i64 t, .int .i64 a, .int .i64 b, .string nm, .string ot] 23) (R2) ([nm.size]) (nm.data.toList.map UInt8.toNat) vq2 b0 b1 false b3 v0 v1 v2 v3 W := h
          clear hnd
          have HST := Lib.hid h
          have hb0 := h.bel.size; obtain ⟨g0, g1, g2, g3, g4, g5, gl⟩ := ev_cells h.box
          intro K Q hK
          simp only [putE, updAll, Act.put, List.setIfInBounds_toArray, List.set_cons_zero, List.set_cons_succ, List.set_nil] at hK ⊢
          have hcv := run_bytes_of_string (P := Tryz.prog) W 9 26 5 nm Tryz.underlying9 Tryz.underlying26 Tryz.underlying5
          have hm := h.mk2 (c := grownCap W nm.size 0 5) (w2 := W.drew.alloc (.cells (bytesRow nm (grownCap W nm.size 0 5)) 5 ((bytesRow nm (grownCap W nm.size 0 5)).size, (bytesRow nm (grownCap W nm.size 0 5)).size + 1))) (((Below.refl _ _).drew).alloc (Nat.le_refl _) _) (blk_new W.drew _) (show nm.size = (nm.data.toList.map UInt8.toNat).length by rw [List.length_map, ← Lib.size_eq]) (str_cells nm _)
          generalize bytesRow nm (grownCap W nm.size 0 5) = C at *
          generalize grownCap W nm.size 0 5 = cp at *
          go_wp2_with fail
          all_goals (first | exact hK _ _ hm | exact hm)
        · refine ⟨34, rfl, ?_⟩
          intro bsE vsE W hlb hlv hnd hbk h
          obtain ⟨b0, bsE0, rfl, hlb0⟩ := len_one hlb
          obtain ⟨v0, vsE0, rfl, hlv0⟩ := len_one hlv
          obtain ⟨b1, bsE1, rfl, hlb1⟩ := len_one hlb0
          obtain ⟨v1, vsE1, rfl, hlv1⟩ := len_one hlv0
          obtain ⟨b2, bsE2, rfl, hlb2⟩ := len_one hlb1
          obtain ⟨v2, vsE2, rfl, hlv2⟩ := len_one hlv1
          obtain ⟨b3, bsE3, rfl, hlb3⟩ := len_one hlb2
          obtain ⟨v3, vsE3, rfl, hlv3⟩ := len_one hlv2
          obtain rfl := len_nil hlb3
          obtain rfl := len_nil hlv3
          obtain rfl : b1 = true := hnd 1 (by simp)
          obtain rfl : b2 = true := hnd 2 (by simp)
          obtain rfl : b3 = false := hbk
          replace h : RawS w w.heap.size w.heap.size (.cells #[.int .i64 k, .int .i64 t, .int .i64 a, .int .i64 b, .string nm, .string ot] 23) (R2) ([nm.size]) (nm.data.toList.map UInt8.toNat) vq2 b0 true true false v0 v1 v2 v3 W := h
          clear hnd
          have HST := Lib.hid h
          skip
          intro K Q hK
          simp only [putE, updAll, Act.put, List.setIfInBounds_toArray, List.set_cons_zero, List.set_cons_succ, List.set_nil] at hK ⊢
          refine h.app3 (.tmp 30) (.tmp 33) rfl rfl rfl (by have := HL2.out; simp [← Lib.size_eq]; omega) ?_
          intro v' W' k
          first | exact hK _ _ k | exact k
      case tail =>
        intro vsE W hlv h
        obtain ⟨v0, vsE0, rfl, hlv0⟩ := len_one hlv
        obtain ⟨v1, vsE1, rfl, hlv1⟩ := len_one hlv0
        obtain ⟨v2, vsE2, rfl, hlv2⟩ := len_one hlv1
        obtain ⟨v3, vsE3, rfl, hlv3⟩ := len_one hlv2
        obtain rfl := len_nil hlv3
        replace h : RawS w w.heap.size w.heap.size (.cells #[.int .i64 k, .int .i64 t, .int .i64 a, .int .i64 b, .string nm, .string ot] 23) (R2) ([nm.size]) (nm.data.toList.map UInt8.toNat) vq2 true true true true v0 v1 v2 v3 W := h
        have HST := Lib.hid h
        have P4 := Lib.hid h.fin
        refine wpOp_plain rfl rfl ?_
        simp only [putE, updAll, Act.put, List.setIfInBounds_toArray, List.set_cons_zero, List.set_cons_succ, List.set_nil]
        clear h HST P3
        generalize hR3 : R2 ++ [nm.size] ++ nm.data.toList.map UInt8.toNat = R3 at *
        have HR3 := Lib.hid hR3
        clear hR3
        have HL3 := Lib.hid (show R3.length ≤ 200 by have := HL2.out; rw [← HR3.out]; simp [← Lib.size_eq]; omega)
        generalize v3 = vq3 at *
        go_upto_region 4 with fail
        refine region_effs 11 12 [(5, 40), (6, 41), (9, 44), (10, 45)] [(none, []), (none, []), (none, []), (none, []), (none, []), (some 0, []), (some 1, [0]), (none, []), (none, []), (some 2, []), (some 3, [1, 2])] [(35, vq3), (36, (.pointer (some ⟨w.heap.size, 5, none⟩))), (37, (.string ot)), (38, (.int .i64 (ot.size : Int))), (39, (.int .u8 (ot.size : Int))), (42, (.pointer (some ⟨w.heap.size, 5, none⟩))), (43, (.string ot))] (fun bsE vsE W => RawS w w.heap.size w.heap.size (.cells #[.int .i64 k, .int .i64 t, .int .i64 a, .int .i64 b, .string nm, .string ot] 23) (R3) ([ot.size]) (ot.data.toList.map UInt8.toNat) vq3 (bsE.getD 0 false) (bsE.getD 1 false) (bsE.getD 2 false) (bsE.getD 3 false) (vsE.getD 0 undef) (vsE.getD 1 undef) (vsE.getD 2 undef) (vsE.getD 3 undef) W) (by kernel_rfl) (by kernel_rfl) rfl (by kernel_rfl) (by kernel_rfl) (by simp) (by rfl) ?h0 ?each ?tail
        case h0 =>
          intro vsE hlv
          obtain ⟨v0, vsE0, rfl, hlv0⟩ := len_one hlv
          obtain ⟨v1, vsE1, rfl, hlv1⟩ := len_one hlv0
          obtain ⟨v2, vsE2, rfl, hlv2⟩ := len_one hlv1
          obtain ⟨v3, vsE3, rfl, hlv3⟩ := len_one hlv2
          obtain rfl := len_nil hlv3
          exact RawS.start P4.out
        case each =>
          simp only [List.take_succ_cons, List.take_zero, AllE]
          refine ⟨?_, ?_, ?_, ?_, ?_, ?_, ?_, ?_, ?_, ?_, ?_, trivial⟩
          · refine ⟨35, vq3, rfl, by kernel_rfl, ?_⟩
            intro bsE vsE W hlb hlv hnd h
            obtain ⟨b0, bsE0, rfl, hlb0⟩ := len_one hlb
            obtain ⟨v0, vsE0, rfl, hlv0⟩ := len_one hlv
            obtain ⟨b1, bsE1, rfl, hlb1⟩ := len_one hlb0
            obtain ⟨v1, vsE1, rfl, hlv1⟩ := len_one hlv0
            obtain ⟨b2, bsE2, rfl, hlb2⟩ := len_one hlb1
            obtain ⟨v2, vsE2, rfl, hlv2⟩ := len_one hlv1
            obtain ⟨b3, bsE3, rfl, hlb3⟩ := len_one hlb2
            obtain ⟨v3, vsE3, rfl, hlv3⟩ := len_one hlv2
            obtain rfl := len_nil hlb3
            obtain rfl := len_nil hlv3
            replace h : RawS w w.heap.size w.heap.size (.cells #[.int .i64 k, .int .i64 t, .int .i64 a, .int .i64 b, .string nm, .string ot] 23) (R3) ([ot.size]) (ot.data.toList.map UInt8.toNat) vq3 b0 b1 b2 b3 v0 v1 v2 v3 W := h
            clear hnd
            have HST := Lib.hid h
            have hb0 := h.bel.size; obtain ⟨g0, g1, g2, g3, g4, g5, gl⟩ := ev_cells h.box
            intro K Q hK
            simp only [putE, updAll, Act.put, List.setIfInBounds_toArray, List.set_cons_zero, List.set_cons_succ, List.set_nil] at hK ⊢
            go_wp2_with (fail)
            all_goals (first | exact hK _ (by first | exact h | exact h.step (by repeat' (first | exact Below.refl _ _ | apply bDrewN | apply bDrew))) | exact (by first | exact h | exact h.step (by repeat' (first | exact Below.refl _ _ | apply bDrewN | apply bDrew))))
          · refine ⟨36, (.pointer (some ⟨w.heap.size, 5, none⟩)), rfl, by kernel_rfl, ?_⟩
            intro bsE vsE W hlb hlv hnd h
            obtain ⟨b0, bsE0, rfl, hlb0⟩ := len_one hlb
            obtain ⟨v0, vsE0, rfl, hlv0⟩ := len_one hlv
            obtain ⟨b1, bsE1, rfl, hlb1⟩ := len_one hlb0
            obtain ⟨v1, vsE1, rfl, hlv1⟩ := len_one hlv0
            obtain ⟨b2, bsE2, rfl, hlb2⟩ := len_one hlb1
            obtain ⟨v2, vsE2, rfl, hlv2⟩ := len_one hlv1
            obtain ⟨b3, bsE3, rfl, hlb3⟩ := len_one hlb2
            obtain ⟨v3, vsE3, rfl, hlv3⟩ := len_one hlv2
            obtain rfl := len_nil hlb3
            obtain rfl := len_nil hlv3
            replace h : RawS w w.heap.size w.heap.size (.cells #[.int .i64 k, .int .i64 t, .int .i64 a, .int .i64 b, .string nm, .string ot] 23) (R3) ([ot.size]) (ot.data.toList.map UInt8.toNat) vq3 b0 b1 b2 b3 v0 v1 v2 v3 W := h
            clear hnd
            have HST := Lib.hid h
            have hb0 := h.bel.size; obtain ⟨g0, g1, g2, g3, g4, g5, gl⟩ := ev_cells h.box
            intro K Q hK
            simp only [putE, updAll, Act.put, List.setIfInBounds_toArray, List.set_cons_zero, List.set_cons_succ, List.set_nil] at hK ⊢
            go_wp2_with (fail)
            all_goals (first | exact hK _ (by first | exact h | exact h.step (by repeat' (first | exact Below.refl _ _ | apply bDrewN | apply bDrew))) | exact (by first | exact h | exact h.step (by repeat' (first | exact Below.refl _ _ | apply bDrewN | apply bDrew))))
          · refine ⟨37, (.string ot), rfl, by kernel_rfl, ?_⟩
            intro bsE vsE W hlb hlv hnd h
            obtain ⟨b0, bsE0, rfl, hlb0⟩ := len_one hlb
            obtain ⟨v0, vsE0, rfl, hlv0⟩ := len_one hlv
            obtain ⟨b1, bsE1, rfl, hlb1⟩ := len_one hlb0
            obtain ⟨v1, vsE1, rfl, hlv1⟩ := len_one hlv0
            obtain ⟨b2, bsE2, rfl, hlb2⟩ := len_one hlb1
            obtain ⟨v2, vsE2, rfl, hlv2⟩ := len_one hlv1
            obtain ⟨b3, bsE3, rfl, hlb3⟩ := len_one hlb2
            obtain ⟨v3, vsE3, rfl, hlv3⟩ := len_one hlv2
            obtain rfl := len_nil hlb3
            obtain rfl := len_nil hlv3
            replace h : RawS w w.heap.size w.heap.size (.cells #[.int .i64 k, .int .i64 t, .int .i64 a, .int .i64 b, .string nm, .string ot] 23) (R3) ([ot.size]) (ot.data.toList.map UInt8.toNat) vq3 b0 b1 b2 b3 v0 v1 v2 v3 W := h
            clear hnd
            have HST := Lib.hid h
            have hb0 := h.bel.size; obtain ⟨g0, g1, g2, g3, g4, g5, gl⟩ := ev_cells h.box
            intro K Q hK
            simp only [putE, updAll, Act.put, List.setIfInBounds_toArray, List.set_cons_zero, List.set_cons_succ, List.set_nil] at hK ⊢
            go_wp2_with (fail)
            all_goals (first | exact hK _ (by first | exact h | exact h.step (by repeat' (first | exact Below.refl _ _ | apply bDrewN | apply bDrew))) | exact (by first | exact h | exact h.step (by repeat' (first | exact Below.refl _ _ | apply bDrewN | apply bDrew))))
          · refine ⟨38, (.int .i64 (ot.size : Int)), rfl, by kernel_rfl, ?_⟩
            intro bsE vsE W hlb hlv hnd h
            obtain ⟨b0, bsE0, rfl, hlb0⟩ := len_one hlb
            obtain ⟨v0, vsE0, rfl, hlv0⟩ := len_one hlv
            obtain ⟨b1, bsE1, rfl, hlb1⟩ := len_one hlb0
            obtain ⟨v1, vsE1, rfl, hlv1⟩ := len_one hlv0
            obtain ⟨b2, bsE2, rfl, hlb2⟩ := len_one hlb1
            obtain ⟨v2, vsE2, rfl, hlv2⟩ := len_one hlv1
            obtain ⟨b3, bsE3, rfl, hlb3⟩ := len_one hlb2
            obtain ⟨v3, vsE3, rfl, hlv3⟩ := len_one hlv2
            obtain rfl := len_nil hlb3
            obtain rfl := len_nil hlv3
            replace h : RawS w w.heap.size w.heap.size (.cells #[.int .i64 k, .int .i64 t, .int .i64 a, .int .i64 b, .string nm, .string ot] 23) (R3) ([ot.size]) (ot.data.toList.map UInt8.toNat) vq3 b0 b1 b2 b3 v0 v1 v2 v3 W := h
            clear hnd
            have HST := Lib.hid h
            have hb0 := h.bel.size; obtain ⟨g0, g1, g2, g3, g4, g5, gl⟩ := ev_cells h.box
            intro K Q hK
            simp only [putE, updAll, Act.put, List.setIfInBounds_toArray, List.set_cons_zero, List.set_cons_succ, List.set_nil] at hK ⊢
            go_wp2_with (fail)
            all_goals (first | exact hK _ (by first | exact h | exact h.step (by repeat' (first | exact Below.refl _ _ | apply bDrewN | apply bDrew))) | exact (by first | exact h | exact h.step (by repeat' (first | exact Below.refl _ _ | apply bDrewN | apply bDrew))))
          · refine ⟨39, (.int .u8 (ot.size : Int)), rfl, by kernel_rfl, ?_⟩
            intro bsE vsE W hlb hlv hnd h
            obtain ⟨b0, bsE0, rfl, hlb0⟩ := len_one hlb
            obtain ⟨v0, vsE0, rfl, hlv0⟩ := len_one hlv
            obtain ⟨b1, bsE1, rfl, hlb1⟩ := len_one hlb0
            obtain ⟨v1, vsE1, rfl, hlv1⟩ := len_one hlv0
            obtain ⟨b2, bsE2, rfl, hlb2⟩ := len_one hlb1
            obtain ⟨v2, vsE2, rfl, hlv2⟩ := len_one hlv1
            obtain ⟨b3, bsE3, rfl, hlb3⟩ := len_one hlb2
            obtain ⟨v3, vsE3, rfl, hlv3⟩ := len_one hlv2
            obtain rfl := len_nil hlb3
            obtain rfl := len_nil hlv3
            replace h : RawS w w.heap.size w.heap.size (.cells #[.int .i64 k, .int .i64 t, .int .i64 a, .int .i64 b, .string nm, .string ot] 23) (R3) ([ot.size]) (ot.data.toList.map UInt8.toNat) vq3 b0 b1 b2 b3 v0 v1 v2 v3 W := h
            clear hnd
            have HST := Lib.hid h
            have hb0 := h.bel.size; obtain ⟨g0, g1, g2, g3, g4, g5, gl⟩ := ev_cells h.box
            intro K Q hK
            simp only [putE, updAll, Act.put, List.setIfInBounds_toArray, List.set_cons_zero, List.set_cons_succ, List.set_nil] at hK ⊢
            go_wp2_with (fail)
            all_goals (first | exact hK _ (by first | exact h | exact h.step (by repeat' (first | exact Below.refl _ _ | apply bDrewN | apply bDrew))) | exact (by first | exact h | exact h.step (by repeat' (first | exact Below.refl _ _ | apply bDrewN | apply bDrew))))
          · refine ⟨40, rfl, ?_⟩
            intro bsE vsE W hlb hlv hnd hbk h
            obtain ⟨b0, bsE0, rfl, hlb0⟩ := len_one hlb
            obtain ⟨v0, vsE0, rfl, hlv0⟩ := len_one hlv
            obtain ⟨b1, bsE1, rfl, hlb1⟩ := len_one hlb0
            obtain ⟨v1, vsE1, rfl, hlv1⟩ := len_one hlv0
            obtain ⟨b2, bsE2, rfl, hlb2⟩ := len_one hlb1
            obtain ⟨v2, vsE2, rfl, hlv2⟩ := len_one hlv1
            obtain ⟨b3, bsE3, rfl, hlb3⟩ := len_one hlb2
            obtain ⟨v3, vsE3, rfl, hlv3⟩ := len_one hlv2
            obtain rfl := len_nil hlb3
            obtain rfl := len_nil hlv3
            obtain rfl : b0 = false := hbk
            replace h : RawS w w.heap.size w.heap.size (.cells #[.int .i64 k, .int .i64 t, .int .i64 a, .int .i64 b, .string nm, .string ot] 23) (R3) ([ot.size]) (ot.data.toList.map UInt8.toNat) vq3 false b1 b2 b3 v0 v1 v2 v3 W := h
            clear hnd
            have HST := Lib.hid h
            have hb0 := h.bel.size; obtain ⟨g0, g1, g2, g3, g4, g5, gl⟩ := ev_cells h.box
            intro K Q hK
            simp only [putE, updAll, Act.put, List.setIfInBounds_toArray, List.set_cons_zero, List.set_cons_succ, List.set_nil] at hK ⊢
            go_wp2_with fail
            all_goals (have hm := h.mk0 (c := 1) Mr.bAl (blk_new W (.cells #[.int .u8 (ot.size : Int)] 5)) rfl (by intro j u hj; simpa [byC] using hj))
            all_goals (first | exact hK _ _ hm | exact hm)
          · refine ⟨41, rfl, ?_⟩
            intro bsE vsE W hlb hlv hnd hbk h
            obtain ⟨b0, bsE0, rfl, hlb0⟩ := len_one hlb
            obtain ⟨v0, vsE0, rfl, hlv0⟩ := len_one hlv
            obtain ⟨b1, bsE1, rfl, hlb1⟩ := len_one hlb0
            obtain ⟨v1, vsE1, rfl, hlv1⟩ := len_one hlv0
            obtain ⟨b2, bsE2, rfl, hlb2⟩ := len_one hlb1
            obtain ⟨v2, vsE2, rfl, hlv2⟩ := len_one hlv1
            obtain ⟨b3, bsE3, rfl, hlb3⟩ := len_one hlb2
            obtain ⟨v3, vsE3, rfl, hlv3⟩ := len_one hlv2
            obtain rfl := len_nil hlb3
            obtain rfl := len_nil hlv3
            obtain rfl : b0 = true := hnd 0 (by simp)
            obtain rfl : b1 = false := hbk
            replace h : RawS w w.heap.size w.heap.size (.cells #[.int .i64 k, .int .i64 t, .int .i64 a, .int .i64 b, .string nm, .string ot] 23) (R3) ([ot.size]) (ot.data.toList.map UInt8.toNat) vq3 true false b2 b3 v0 v1 v2 v3 W := h
            clear hnd
            have HST := Lib.hid h
            obtain rfl := h.n1
            intro K Q hK
            simp only [putE, updAll, Act.put, List.setIfInBounds_toArray, List.set_cons_zero, List.set_cons_succ, List.set_nil] at hK ⊢
            refine h.app1 (.tmp 35) (.tmp 40) rfl rfl rfl (by have := HL3.out; simp [← Lib.size_eq]; omega) ?_
            intro v' W' k
            first | exact hK _ _ k | exact k
          · refine ⟨42, (.pointer (some ⟨w.heap.size, 5, none⟩)), rfl, by kernel_rfl, ?_⟩
            intro bsE vsE W hlb hlv hnd h
            obtain ⟨b0, bsE0, rfl, hlb0⟩ := len_one hlb
            obtain ⟨v0, vsE0, rfl, hlv0⟩ := len_one hlv
            obtain ⟨b1, bsE1, rfl, hlb1⟩ := len_one hlb0
            obtain ⟨v1, vsE1, rfl, hlv1⟩ := len_one hlv0
            obtain ⟨b2, bsE2, rfl, hlb2⟩ := len_one hlb1
            obtain ⟨v2, vsE2, rfl, hlv2⟩ := len_one hlv1
            obtain ⟨b3, bsE3, rfl, hlb3⟩ := len_one hlb2
            obtain ⟨v3, vsE3, rfl, hlv3⟩ := len_one hlv2
            obtain rfl := len_nil hlb3
            obtain rfl := len_nil hlv3
            replace h : RawS w w.heap.size w.heap.size (.cells #[.int .i64 k, .int .i64 t, .int .i64 a, .int .i64 b, .string nm, .string ot] 23) (R3) ([ot.size]) (ot.data.toList.map UInt8.toNat) vq3 b0 b1 b2 b3 v0 v1 v2 v3 W := h
            clear hnd
            have HST := Lib.hid h
            have hb0 := h.bel.size; obtain ⟨g0, g1, g2, g3, g4, g5, gl⟩ := ev_cells h.box
            intro K Q hK
            simp only [putE, updAll, Act.put, List.setIfInBounds_toArray, List.set_cons_zero, List.set_cons_succ, List.set_nil] at hK ⊢
            go_wp2_with (fail)
            all_goals (first | exact hK _ (by first | exact h | exact h.step (by repeat' (first | exact Below.refl _ _ | apply bDrewN | apply bDrew))) | exact (by first | exact h | exact h.step (by repeat' (first | exact Below.refl _ _ | apply bDrewN | apply bDrew))))
          · refine ⟨43, (.string ot), rfl, by kernel_rfl, ?_⟩
            intro bsE vsE W hlb hlv hnd h
            obtain ⟨b0, bsE0, rfl, hlb0⟩ := len_one hlb
            obtain ⟨v0, vsE0, rfl, hlv0⟩ := len_one hlv
            obtain ⟨b1, bsE1, rfl, hlb1⟩ := len_one hlb0
            obtain ⟨v1, vsE1, rfl, hlv1⟩ := len_one hlv0
            obtain ⟨b2, bsE2, rfl, hlb2⟩ := len_one hlb1
            obtain ⟨v2, vsE2, rfl, hlv2⟩ := len_one hlv1
            obtain ⟨b3, bsE3, rfl, hlb3⟩ := len_one hlb2
            obtain ⟨v3, vsE3, rfl, hlv3⟩ := len_one hlv2
            obtain rfl := len_nil hlb3
            obtain rfl := len_nil hlv3
            replace h : RawS w w.heap.size w.heap.size (.cells #[.int .i64 k, .int .i64 t, .int .i64 a, .int .i64 b, .string nm, .string ot] 23) (R3) ([ot.size]) (ot.data.toList.map UInt8.toNat) vq3 b0 b1 b2 b3 v0 v1 v2 v3 W := h
            clear hnd
            have HST := Lib.hid h
            have hb0 := h.bel.size; obtain ⟨g0, g1, g2, g3, g4, g5, gl⟩ := ev_cells h.box
            intro K Q hK
            simp only [putE, updAll, Act.put, List.setIfInBounds_toArray, List.set_cons_zero, List.set_cons_succ, List.set_nil] at hK ⊢
            go_wp2_with (fail)
            all_goals (first | exact hK _ (by first | exact h | exact h.step (by repeat' (first | exact Below.refl _ _ | apply bDrewN | apply bDrew))) | exact (by first | exact h | exact h.step (by repeat' (first | exact Below.refl _ _ | apply bDrewN | apply bDrew))))
          · refine ⟨44, rfl, ?_⟩
            intro bsE vsE W hlb hlv hnd hbk h
            obtain ⟨b0, bsE0, rfl, hlb0⟩ := len_one hlb
            obtain ⟨v0, vsE0, rfl, hlv0⟩ := len_one hlv
            obtain ⟨b1, bsE1, rfl, hlb1⟩ := len_one hlb0
            obtain ⟨v1, vsE1, rfl, hlv1⟩ := len_one hlv0
            obtain ⟨b2, bsE2, rfl, hlb2⟩ := len_one hlb1
            obtain ⟨v2, vsE2, rfl, hlv2⟩ := len_one hlv1
            obtain ⟨b3, bsE3, rfl, hlb3⟩ := len_one hlb2
            obtain ⟨v3, vsE3, rfl, hlv3⟩ := len_one hlv2
            obtain rfl := len_nil hlb3
            obtain rfl := len_nil hlv3
            obtain rfl : b2 = false := hbk
            replace h : RawS w w.heap.size w.heap.size (.cells #[.int .i64 k, .int .i64 t, .int .i64 a, .int .i64 b, .string nm, .string ot] 23) (R3) ([ot.size]) (ot.data.toList.map UInt8.toNat) vq3 b0 b1 false b3 v0 v1 v2 v3 W := h
            clear hnd
            have HST := Lib.hid h
            have hb0 := h.bel.size; obtain ⟨g0, g1, g2, g3, g4, g5, gl⟩ := ev_cells h.box
            intro K Q hK
            simp only [putE, updAll, Act.put, List.setIfInBounds_toArray, List.set_cons_zero, List.set_cons_succ, List.set_nil] at hK ⊢
            have hcv := run_bytes_of_string (P := Tryz.prog) W 9 26 5 ot Tryz.underlying9 Tryz.underlying26 Tryz.underlying5
            have hm := h.mk2 (c := grownCap W ot.size 0 5) (w2 := W.drew.alloc (.cells (bytesRow ot (grownCap W ot.size 0 5)) 5 ((bytesRow ot (grownCap W ot.size 0 5)).size, (bytesRow ot (grownCap W ot.size 0 5)).size + 1))) (((Below.refl _ _).drew).alloc (Nat.le_refl _) _) (blk_new W.drew _) (show ot.size = (ot.data.toList.map UInt8.toNat).length by rw [List.length_map, ← Lib.size_eq]) (str_cells ot _)
            generalize bytesRow ot (grownCap W ot.size 0 5) = C at *
            generalize grownCap W ot.size 0 5 = cp at *
            go_wp2_with fail
            all_goals (first | exact hK _ _ hm | exact hm)
          · refine ⟨45, rfl, ?_⟩
            intro bsE vsE W hlb hlv hnd hbk h
            obtain ⟨b0, bsE0, rfl, hlb0⟩ := len_one hlb
            obtain ⟨v0, vsE0, rfl, hlv0⟩ := len_one hlv
            obtain ⟨b1, bsE1, rfl, hlb1⟩ := len_one hlb0
            obtain ⟨v1, vsE1, rfl, hlv1⟩ := len_one hlv0
            obtain ⟨b2, bsE2, rfl, hlb2⟩ := len_one hlb1
            obtain ⟨v2, vsE2, rfl, hlv2⟩ := len_one hlv1
            obtain ⟨b3, bsE3, rfl, hlb3⟩ := len_one hlb2
            obtain ⟨v3, vsE3, rfl, hlv3⟩ := len_one hlv2
            obtain rfl := len_nil hlb3
            obtain rfl := len_nil hlv3
            obtain rfl : b1 = true := hnd 1 (by simp)
            obtain rfl : b2 = true := hnd 2 (by simp)
            obtain rfl : b3 = false := hbk
            replace h : RawS w w.heap.size w.heap.size (.cells #[.int .i64 k, .int .i64 t, .int .i64 a, .int .i64 b, .string nm, .string ot] 23) (R3) ([ot.size]) (ot.data.toList.map UInt8.toNat) vq3 b0 true true false v0 v1 v2 v3 W := h
            clear hnd
            have HST := Lib.hid h
            skip
            intro K Q hK
            simp only [putE, updAll, Act.put, List.setIfInBounds_toArray, List.set_cons_zero, List.set_cons_succ, List.set_nil] at hK ⊢
            refine h.app3 (.tmp 41) (.tmp 44) rfl rfl rfl (by have := HL3.out; simp [← Lib.size_eq]; omega) ?_
            intro v' W' k
            first | exact hK _ _ k | exact k
        case tail =>
          intro vsE W hlv h
          obtain ⟨v0, vsE0, rfl, hlv0⟩ := len_one hlv
          obtain ⟨v1, vsE1, rfl, hlv1⟩ := len_one hlv0
          obtain ⟨v2, vsE2, rfl, hlv2⟩ := len_one hlv1
          obtain ⟨v3, vsE3, rfl, hlv3⟩ := len_one hlv2
          obtain rfl := len_nil hlv3
          replace h : RawS w w.heap.size w.heap.size (.cells #[.int .i64 k, .int .i64 t, .int .i64 a, .int .i64 b, .string nm, .string ot] 23) (R3) ([ot.size]) (ot.data.toList.map UInt8.toNat) vq3 true true true true v0 v1 v2 v3 W := h
          have HST := Lib.hid h
          have P5 := Lib.hid h.fin
          refine wpOp_plain rfl rfl ?_
          simp only [putE, updAll, Act.put, List.setIfInBounds_toArray, List.set_cons_zero, List.set_cons_succ, List.set_nil]
          go_wp2_with fail
          exact bodyPost_ret (v := v3) (by simp only [results, Tryz.results17]; go_simp) rfl ⟨v3, rfl, by have h5 := P5.out; rw [← HR3.out, ← HR2.out, ← HR1.out] at h5; simpa only [List.append_assoc, List.cons_append, List.nil_append] using h5⟩
end Go.Proofs.YtdelgbdiofkndaaGreatDoor
