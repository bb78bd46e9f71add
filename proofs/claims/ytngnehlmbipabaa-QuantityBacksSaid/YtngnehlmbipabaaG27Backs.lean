/-
  Image, at a valid curve and a valid span.
-/
import Derived.Test.YtngnehlmbipabaaG26Backs
set_option linter.unusedSimpArgs false
set_option linter.unusedVariables false
namespace Go.Proofs.Ytngnehlmbipabaa
open Go.RowKit
/-- What Image holds on to. -/
structure ImS (w : World) (sx sy : Value) (s1 s2 x y : Int) (b : Bool) (W : World) : Prop where
  bel : Below w.heap.size w W
  cb : W.heap[w.heap.size]? = some (.cells #[sx, sy] 24)
  sb : W.heap[w.heap.size + 1]? = some (.cells #[.int .i64 s1, .int .i64 s2] 40)
  rb : W.heap[w.heap.size + 2]? = some (.cells #[.int .i64 (bif b then x else 0), .int .i64 (bif b then y else 0)] 40)
section
variable {w W w2 : World} {sx sy : Value} {s1 s2 x y : Int} {b : Bool}
theorem ImS.step (h : ImS w sx sy s1 s2 x y b W) (hb : Below W.heap.size W w2) : ImS w sx sy s1 s2 x y b w2 :=
  ⟨bStep h.bel hb, blk_step h.cb hb, blk_step h.sb hb, blk_step h.rb hb⟩
theorem ImS.put (h : ImS w sx sy s1 s2 x y false W) : ImS w sx sy s1 s2 x y true ((W.setCell ⟨w.heap.size + 2, 0, none⟩ (.int .i64 x)).setCell ⟨w.heap.size + 2, 1, none⟩ (.int .i64 y)) :=
  ⟨(h.bel.setCell (p := ⟨w.heap.size + 2, 0, none⟩) (by show w.heap.size ≤ w.heap.size + 2; omega) _).setCell (p := ⟨w.heap.size + 2, 1, none⟩) (by show w.heap.size ≤ w.heap.size + 2; omega) _,
   blk_set_other (blk_set_other h.cb (by show w.heap.size ≠ w.heap.size + 2; omega)) (by show w.heap.size ≠ w.heap.size + 2; omega),
   blk_set_other (blk_set_other h.sb (by show w.heap.size + 1 ≠ w.heap.size + 2; omega)) (by show w.heap.size + 1 ≠ w.heap.size + 2; omega),
   (blk_set ((blk_set h.rb).trans rfl)).trans rfl⟩
end
set_option maxHeartbeats 4000000 in
set_option maxRecDepth 20000 in
theorem Image_ok (bu ou cu bv ov cv : Nat) (xs ys : List Int) (s1 s2 : Int) (w : World) (hC : checkC xs ys = 0) (hs : okS (s1, s2) = true) (hA : IntAt (some ⟨bu, ou, none⟩) xs w) (hB : IntAt (some ⟨bv, ov, none⟩) ys w) :
    Calls Try.prog 18 #[.agg #[(.slice (some ⟨bu, ou, none⟩) xs.length cu), (.slice (some ⟨bv, ov, none⟩) xs.length cv)], .agg #[.int .i64 s1, .int .i64 s2]] w fun e w' => e = .returned (.tuple #[.agg #[.int .i64 (valS xs ys s1).1, .int .i64 (valS xs ys s2).2], .int .i64 0]) ∧ Below w.heap.size w w' := by
  have hg := checkC_good hC
  have p1 := hg.1.1.1
  have C := Lib.hid (fun W h1 h2 => CheckCurve_any (some ⟨bu, ou, none⟩) (some ⟨bv, ov, none⟩) cu cv xs ys W (by have := hg.2; omega) (by have := hg.2; omega) h1 h2)
  rw [hC, ← p1] at C
  have hS := okS_bd hs
  have V1 := Lib.hid (fun W h1 h2 => value_any bu ou cu bv ov cv xs ys s1 W hC ((isQ_iff _).2 (by omega)) h1 h2)
  have V2 := Lib.hid (fun W h1 h2 => value_any bu ou cu bv ov cv xs ys s2 W hC ((isQ_iff _).2 (by omega)) h1 h2)
  have HA := Lib.hid hA
  have HB := Lib.hid hB
  have BX := Lib.hid (three_boxesV (w := w) (o1 := .cells #[(.slice (some ⟨bu, ou, none⟩) xs.length cu), (.slice (some ⟨bv, ov, none⟩) xs.length cv)] 24) (o2 := .cells #[.int .i64 s1, .int .i64 s2] 40) (o3 := .cells #[.int .i64 0, .int .i64 0] 40))
  generalize valS xs ys s1 = a at *
  generalize valS xs ys s2 = c at *
  obtain ⟨a1, a2⟩ := a
  obtain ⟨c1, c2⟩ := c
  have VX := Lib.hid (fun (W : World) (g : Nat) (h0 : W.cell? ⟨g, 0, none⟩ = some (.int .i64 s1)) (h1 : W.cell? ⟨g, 1, none⟩ = some (.int .i64 s2)) => valid_row (.slice (some ⟨g, 0, none⟩) 1 1) [(s1, s2)] W (by simp) ⟨_, _, rfl, fun _ => ⟨g, 0, rfl, cell_lt h0, fun j hj => by
    obtain rfl : j = 0 := by simpa using hj
    exact ⟨h0, h1⟩⟩⟩)
  rw [show [(s1, s2)].all okS = true from by simp [hs]] at VX
  clear hg p1 hA hB hC hs hS
  go_enter Try.func18, Try.ntmps18
  go_upto_region 6 with (first
    | (go_at_call 12; refine (C.out _ (HA.out.step (by repeat' (first | exact Below.refl _ _ | assumption | apply bDrewN | apply bDrew | apply bAlloc | (refine bSet ?_ ?_ _) | (refine bStep ?_ (by assumption)) | omega | (simp <;> omega)))) (HB.out.step (by repeat' (first | exact Below.refl _ _ | assumption | apply bDrewN | apply bDrew | apply bAlloc | (refine bSet ?_ ?_ _) | (refine bStep ?_ (by assumption)) | omega | (simp <;> omega))))).mono ?_; rintro e w1 ⟨rfl, hb1⟩; obtain ⟨d0, d1, k0⟩ := cv_open (blk_step BX.out.1 hb1); obtain ⟨d2, d3, k1⟩ := cv_open (blk_step BX.out.2.1 hb1); obtain ⟨d4, d5, f4, f5, k2⟩ := cv_openS (blk_step BX.out.2.2 hb1))
    | (go_at_call 54; refine (VX.out _ _ (blk_cell (blk_new _ _) rfl) (blk_cell (blk_new _ _) rfl)).mono ?_; rintro e w2 ⟨rfl, hb2⟩))
  have hb12 : Below w1.heap.size w1 w2 := bStep bAlZu hb2
  have kW2 : Below w.heap.size w w2 := (by repeat' (first | exact Below.refl _ _ | assumption | apply bDrewN | apply bDrew | apply bAlloc | (refine bSet ?_ ?_ _) | (refine bStep ?_ (by assumption)) | omega | (simp <;> omega)))
  have P0 : ImS w (.slice (some ⟨bu, ou, none⟩) xs.length cu) (.slice (some ⟨bv, ov, none⟩) xs.length cv) s1 s2 a1 c2 false w2 := ⟨kW2, blk_step (blk_step BX.out.1 hb1) hb12, blk_step (blk_step BX.out.2.1 hb1) hb12, blk_step (blk_step BX.out.2.2 hb1) hb12⟩
  have HP := Lib.hid P0
  clear d0 d1 k0 d2 d3 k1 d4 d5 f4 f5 k2 hb1 hb2 hb12 BX VX C P0 kW2
  refine region_all 13 8 29 [(11, 29)] [(none, []), (none, []), (none, []), (none, []), (none, []), (none, []), (none, []), (none, []), (none, []), (none, []), (none, []), (some 0, []), (none, [])] [(18, (.agg #[(.slice (some ⟨bu, ou, none⟩) xs.length cu), (.slice (some ⟨bv, ov, none⟩) xs.length cv)])), (19, (.pointer (some ⟨w.heap.size + 1, 0, none⟩))), (20, (.int .i64 s1)), (21, (.agg #[.int .i64 a1, .int .i64 a2])), (22, (.int .i64 a1)), (23, (.agg #[(.slice (some ⟨bu, ou, none⟩) xs.length cu), (.slice (some ⟨bv, ov, none⟩) xs.length cv)])), (24, (.pointer (some ⟨w.heap.size + 1, 1, none⟩))), (25, (.int .i64 s2)), (26, (.agg #[.int .i64 c1, .int .i64 c2])), (27, (.int .i64 c2)), (28, (.agg #[.int .i64 a1, .int .i64 c2])), (5, (.int .i64 0))] (fun bsE vsE W => ImS w (.slice (some ⟨bu, ou, none⟩) xs.length cu) (.slice (some ⟨bv, ov, none⟩) xs.length cv) s1 s2 a1 c2 (bsE.getD 0 false) W) (by kernel_rfl) (by kernel_rfl) rfl rfl (by kernel_rfl) (by rfl) ?h0 ?each ?done
  case h0 =>
    intro vsE hlv
    obtain ⟨v0, vsE0, rfl, hlv0⟩ := len_one hlv
    obtain rfl := len_nil hlv0
    exact HP.out.step (by first | assumption | (repeat' (first | exact Below.refl _ _ | apply bDrewN | apply bDrew)))
  case each =>
    simp only [AllE]
    refine ⟨?_, ?_, ?_, ?_, ?_, ?_, ?_, ?_, ?_, ?_, ?_, ?_, ?_, trivial⟩
    · refine ⟨18, (.agg #[(.slice (some ⟨bu, ou, none⟩) xs.length cu), (.slice (some ⟨bv, ov, none⟩) xs.length cv)]), rfl, by kernel_rfl, ?_⟩
      intro bsE vsE W hlb hlv hnd h
      obtain ⟨b0, bsE0, rfl, hlb0⟩ := len_one hlb
      obtain ⟨v0, vsE0, rfl, hlv0⟩ := len_one hlv
      obtain rfl := len_nil hlb0
      obtain rfl := len_nil hlv0
      replace h : ImS w (.slice (some ⟨bu, ou, none⟩) xs.length cu) (.slice (some ⟨bv, ov, none⟩) xs.length cv) s1 s2 a1 c2 b0 W := h
      clear hnd
      have HST := Lib.hid h
      obtain ⟨t0, t1, t2⟩ := cv_open h.cb; obtain ⟨t3, t4, t5⟩ := cv_open h.sb
      intro K Q hK
      simp only [putE, updAll, Act.put, List.setIfInBounds_toArray, List.set_cons_zero, List.set_cons_succ, List.set_nil] at hK ⊢
      go_wp2_with (fail)
      all_goals (first | exact hK _ (by first | exact h | exact h.step (by first | assumption | (repeat' (first | exact Below.refl _ _ | apply bDrewN | apply bDrew)))) | exact (by first | exact h | exact h.step (by first | assumption | (repeat' (first | exact Below.refl _ _ | apply bDrewN | apply bDrew)))))
    · refine ⟨19, (.pointer (some ⟨w.heap.size + 1, 0, none⟩)), rfl, by kernel_rfl, ?_⟩
      intro bsE vsE W hlb hlv hnd h
      obtain ⟨b0, bsE0, rfl, hlb0⟩ := len_one hlb
      obtain ⟨v0, vsE0, rfl, hlv0⟩ := len_one hlv
      obtain rfl := len_nil hlb0
      obtain rfl := len_nil hlv0
      replace h : ImS w (.slice (some ⟨bu, ou, none⟩) xs.length cu) (.slice (some ⟨bv, ov, none⟩) xs.length cv) s1 s2 a1 c2 b0 W := h
      clear hnd
      have HST := Lib.hid h
      obtain ⟨t0, t1, t2⟩ := cv_open h.cb; obtain ⟨t3, t4, t5⟩ := cv_open h.sb
      intro K Q hK
      simp only [putE, updAll, Act.put, List.setIfInBounds_toArray, List.set_cons_zero, List.set_cons_succ, List.set_nil] at hK ⊢
      go_wp2_with (fail)
      all_goals (first | exact hK _ (by first | exact h | exact h.step (by first | assumption | (repeat' (first | exact Below.refl _ _ | apply bDrewN | apply bDrew)))) | exact (by first | exact h | exact h.step (by first | assumption | (repeat' (first | exact Below.refl _ _ | apply bDrewN | apply bDrew)))))
    · refine ⟨20, (.int .i64 s1), rfl, by kernel_rfl, ?_⟩
      intro bsE vsE W hlb hlv hnd h
      obtain ⟨b0, bsE0, rfl, hlb0⟩ := len_one hlb
      obtain ⟨v0, vsE0, rfl, hlv0⟩ := len_one hlv
      obtain rfl := len_nil hlb0
      obtain rfl := len_nil hlv0
      replace h : ImS w (.slice (some ⟨bu, ou, none⟩) xs.length cu) (.slice (some ⟨bv, ov, none⟩) xs.length cv) s1 s2 a1 c2 b0 W := h
      clear hnd
      have HST := Lib.hid h
      obtain ⟨t0, t1, t2⟩ := cv_open h.cb; obtain ⟨t3, t4, t5⟩ := cv_open h.sb
      intro K Q hK
      simp only [putE, updAll, Act.put, List.setIfInBounds_toArray, List.set_cons_zero, List.set_cons_succ, List.set_nil] at hK ⊢
      go_wp2_with (fail)
      all_goals (first | exact hK _ (by first | exact h | exact h.step (by first | assumption | (repeat' (first | exact Below.refl _ _ | apply bDrewN | apply bDrew)))) | exact (by first | exact h | exact h.step (by first | assumption | (repeat' (first | exact Below.refl _ _ | apply bDrewN | apply bDrew)))))
    · refine ⟨21, (.agg #[.int .i64 a1, .int .i64 a2]), rfl, by kernel_rfl, ?_⟩
      intro bsE vsE W hlb hlv hnd h
      obtain ⟨b0, bsE0, rfl, hlb0⟩ := len_one hlb
      obtain ⟨v0, vsE0, rfl, hlv0⟩ := len_one hlv
      obtain rfl := len_nil hlb0
      obtain rfl := len_nil hlv0
      replace h : ImS w (.slice (some ⟨bu, ou, none⟩) xs.length cu) (.slice (some ⟨bv, ov, none⟩) xs.length cv) s1 s2 a1 c2 b0 W := h
      clear hnd
      have HST := Lib.hid h
      obtain ⟨t0, t1, t2⟩ := cv_open h.cb; obtain ⟨t3, t4, t5⟩ := cv_open h.sb
      intro K Q hK
      simp only [putE, updAll, Act.put, List.setIfInBounds_toArray, List.set_cons_zero, List.set_cons_succ, List.set_nil] at hK ⊢
      go_wp2_with ((first | (go_at_call 53; refine (V1.out _ (HA.out.step HST.out.bel) (HB.out.step HST.out.bel)).mono ?_; rintro e w3 ⟨rfl, hb3⟩) | fail))
      all_goals (first | exact hK _ (by first | exact h | exact h.step (by first | assumption | (repeat' (first | exact Below.refl _ _ | apply bDrewN | apply bDrew)))) | exact (by first | exact h | exact h.step (by first | assumption | (repeat' (first | exact Below.refl _ _ | apply bDrewN | apply bDrew)))))
    · refine ⟨22, (.int .i64 a1), rfl, by kernel_rfl, ?_⟩
      intro bsE vsE W hlb hlv hnd h
      obtain ⟨b0, bsE0, rfl, hlb0⟩ := len_one hlb
      obtain ⟨v0, vsE0, rfl, hlv0⟩ := len_one hlv
      obtain rfl := len_nil hlb0
      obtain rfl := len_nil hlv0
      replace h : ImS w (.slice (some ⟨bu, ou, none⟩) xs.length cu) (.slice (some ⟨bv, ov, none⟩) xs.length cv) s1 s2 a1 c2 b0 W := h
      clear hnd
      have HST := Lib.hid h
      obtain ⟨t0, t1, t2⟩ := cv_open h.cb; obtain ⟨t3, t4, t5⟩ := cv_open h.sb
      intro K Q hK
      simp only [putE, updAll, Act.put, List.setIfInBounds_toArray, List.set_cons_zero, List.set_cons_succ, List.set_nil] at hK ⊢
      go_wp2_with (fail)
      all_goals (first | exact hK _ (by first | exact h | exact h.step (by first | assumption | (repeat' (first | exact Below.refl _ _ | apply bDrewN | apply bDrew)))) | exact (by first | exact h | exact h.step (by first | assumption | (repeat' (first | exact Below.refl _ _ | apply bDrewN | apply bDrew)))))
    · refine ⟨23, (.agg #[(.slice (some ⟨bu, ou, none⟩) xs.length cu), (.slice (some ⟨bv, ov, none⟩) xs.length cv)]), rfl, by kernel_rfl, ?_⟩
      intro bsE vsE W hlb hlv hnd h
      obtain ⟨b0, bsE0, rfl, hlb0⟩ := len_one hlb
      obtain ⟨v0, vsE0, rfl, hlv0⟩ := len_one hlv
      obtain rfl := len_nil hlb0
      obtain rfl := len_nil hlv0
      replace h : ImS w (.slice (some ⟨bu, ou, none⟩) xs.length cu) (.slice (some ⟨bv, ov, none⟩) xs.length cv) s1 s2 a1 c2 b0 W := h
      clear hnd
      have HST := Lib.hid h
      obtain ⟨t0, t1, t2⟩ := cv_open h.cb; obtain ⟨t3, t4, t5⟩ := cv_open h.sb
      intro K Q hK
      simp only [putE, updAll, Act.put, List.setIfInBounds_toArray, List.set_cons_zero, List.set_cons_succ, List.set_nil] at hK ⊢
      go_wp2_with (fail)
      all_goals (first | exact hK _ (by first | exact h | exact h.step (by first | assumption | (repeat' (first | exact Below.refl _ _ | apply bDrewN | apply bDrew)))) | exact (by first | exact h | exact h.step (by first | assumption | (repeat' (first | exact Below.refl _ _ | apply bDrewN | apply bDrew)))))
    · refine ⟨24, (.pointer (some ⟨w.heap.size + 1, 1, none⟩)), rfl, by kernel_rfl, ?_⟩
      intro bsE vsE W hlb hlv hnd h
      obtain ⟨b0, bsE0, rfl, hlb0⟩ := len_one hlb
      obtain ⟨v0, vsE0, rfl, hlv0⟩ := len_one hlv
      obtain rfl := len_nil hlb0
      obtain rfl := len_nil hlv0
      replace h : ImS w (.slice (some ⟨bu, ou, none⟩) xs.length cu) (.slice (some ⟨bv, ov, none⟩) xs.length cv) s1 s2 a1 c2 b0 W := h
      clear hnd
      have HST := Lib.hid h
      obtain ⟨t0, t1, t2⟩ := cv_open h.cb; obtain ⟨t3, t4, t5⟩ := cv_open h.sb
      intro K Q hK
      simp only [putE, updAll, Act.put, List.setIfInBounds_toArray, List.set_cons_zero, List.set_cons_succ, List.set_nil] at hK ⊢
      go_wp2_with (fail)
      all_goals (first | exact hK _ (by first | exact h | exact h.step (by first | assumption | (repeat' (first | exact Below.refl _ _ | apply bDrewN | apply bDrew)))) | exact (by first | exact h | exact h.step (by first | assumption | (repeat' (first | exact Below.refl _ _ | apply bDrewN | apply bDrew)))))
    · refine ⟨25, (.int .i64 s2), rfl, by kernel_rfl, ?_⟩
      intro bsE vsE W hlb hlv hnd h
      obtain ⟨b0, bsE0, rfl, hlb0⟩ := len_one hlb
      obtain ⟨v0, vsE0, rfl, hlv0⟩ := len_one hlv
      obtain rfl := len_nil hlb0
      obtain rfl := len_nil hlv0
      replace h : ImS w (.slice (some ⟨bu, ou, none⟩) xs.length cu) (.slice (some ⟨bv, ov, none⟩) xs.length cv) s1 s2 a1 c2 b0 W := h
      clear hnd
      have HST := Lib.hid h
      obtain ⟨t0, t1, t2⟩ := cv_open h.cb; obtain ⟨t3, t4, t5⟩ := cv_open h.sb
      intro K Q hK
      simp only [putE, updAll, Act.put, List.setIfInBounds_toArray, List.set_cons_zero, List.set_cons_succ, List.set_nil] at hK ⊢
      go_wp2_with (fail)
      all_goals (first | exact hK _ (by first | exact h | exact h.step (by first | assumption | (repeat' (first | exact Below.refl _ _ | apply bDrewN | apply bDrew)))) | exact (by first | exact h | exact h.step (by first | assumption | (repeat' (first | exact Below.refl _ _ | apply bDrewN | apply bDrew)))))
    · refine ⟨26, (.agg #[.int .i64 c1, .int .i64 c2]), rfl, by kernel_rfl, ?_⟩
      intro bsE vsE W hlb hlv hnd h
      obtain ⟨b0, bsE0, rfl, hlb0⟩ := len_one hlb
      obtain ⟨v0, vsE0, rfl, hlv0⟩ := len_one hlv
      obtain rfl := len_nil hlb0
      obtain rfl := len_nil hlv0
      replace h : ImS w (.slice (some ⟨bu, ou, none⟩) xs.length cu) (.slice (some ⟨bv, ov, none⟩) xs.length cv) s1 s2 a1 c2 b0 W := h
      clear hnd
      have HST := Lib.hid h
      obtain ⟨t0, t1, t2⟩ := cv_open h.cb; obtain ⟨t3, t4, t5⟩ := cv_open h.sb
      intro K Q hK
      simp only [putE, updAll, Act.put, List.setIfInBounds_toArray, List.set_cons_zero, List.set_cons_succ, List.set_nil] at hK ⊢
      go_wp2_with ((first | (go_at_call 53; refine (V2.out _ (HA.out.step HST.out.bel) (HB.out.step HST.out.bel)).mono ?_; rintro e w3 ⟨rfl, hb3⟩) | fail))
      all_goals (first | exact hK _ (by first | exact h | exact h.step (by first | assumption | (repeat' (first | exact Below.refl _ _ | apply bDrewN | apply bDrew)))) | exact (by first | exact h | exact h.step (by first | assumption | (repeat' (first | exact Below.refl _ _ | apply bDrewN | apply bDrew)))))
    · refine ⟨27, (.int .i64 c2), rfl, by kernel_rfl, ?_⟩
      intro bsE vsE W hlb hlv hnd h
      obtain ⟨b0, bsE0, rfl, hlb0⟩ := len_one hlb
      obtain ⟨v0, vsE0, rfl, hlv0⟩ := len_one hlv
      obtain rfl := len_nil hlb0
      obtain rfl := len_nil hlv0
      replace h : ImS w (.slice (some ⟨bu, ou, none⟩) xs.length cu) (.slice (some ⟨bv, ov, none⟩) xs.length cv) s1 s2 a1 c2 b0 W := h
      clear hnd
      have HST := Lib.hid h
      obtain ⟨t0, t1, t2⟩ := cv_open h.cb; obtain ⟨t3, t4, t5⟩ := cv_open h.sb
      intro K Q hK
      simp only [putE, updAll, Act.put, List.setIfInBounds_toArray, List.set_cons_zero, List.set_cons_succ, List.set_nil] at hK ⊢
      go_wp2_with (fail)
      all_goals (first | exact hK _ (by first | exact h | exact h.step (by first | assumption | (repeat' (first | exact Below.refl _ _ | apply bDrewN | apply bDrew)))) | exact (by first | exact h | exact h.step (by first | assumption | (repeat' (first | exact Below.refl _ _ | apply bDrewN | apply bDrew)))))
    · refine ⟨28, (.agg #[.int .i64 a1, .int .i64 c2]), rfl, by kernel_rfl, ?_⟩
      intro bsE vsE W hlb hlv hnd h
      obtain ⟨b0, bsE0, rfl, hlb0⟩ := len_one hlb
      obtain ⟨v0, vsE0, rfl, hlv0⟩ := len_one hlv
      obtain rfl := len_nil hlb0
      obtain rfl := len_nil hlv0
      replace h : ImS w (.slice (some ⟨bu, ou, none⟩) xs.length cu) (.slice (some ⟨bv, ov, none⟩) xs.length cv) s1 s2 a1 c2 b0 W := h
      clear hnd
      have HST := Lib.hid h
      obtain ⟨t0, t1, t2⟩ := cv_open h.cb; obtain ⟨t3, t4, t5⟩ := cv_open h.sb
      intro K Q hK
      simp only [putE, updAll, Act.put, List.setIfInBounds_toArray, List.set_cons_zero, List.set_cons_succ, List.set_nil] at hK ⊢
      go_wp2_with (fail)
      all_goals (first | exact hK _ (by first | exact h | exact h.step (by first | assumption | (repeat' (first | exact Below.refl _ _ | apply bDrewN | apply bDrew)))) | exact (by first | exact h | exact h.step (by first | assumption | (repeat' (first | exact Below.refl _ _ | apply bDrewN | apply bDrew)))))
    · refine Or.inr ⟨rfl, ?_⟩
      intro bsE vsE W hlb hlv hnd hbk h
      obtain ⟨b0, bsE0, rfl, hlb0⟩ := len_one hlb
      obtain ⟨v0, vsE0, rfl, hlv0⟩ := len_one hlv
      obtain rfl := len_nil hlb0
      obtain rfl := len_nil hlv0
      obtain rfl : b0 = false := hbk
      replace h : ImS w (.slice (some ⟨bu, ou, none⟩) xs.length cu) (.slice (some ⟨bv, ov, none⟩) xs.length cv) s1 s2 a1 c2 false W := h
      clear hnd
      have HST := Lib.hid h
      obtain ⟨t0, t1, t2, t3, t4⟩ := cv_openS h.rb
      intro K Q hK
      simp only [putE, updAll, Act.put, List.setIfInBounds_toArray, List.set_cons_zero, List.set_cons_succ, List.set_nil] at hK ⊢
      go_wp2_with fail
      all_goals (first | exact hK _ h.put | exact h.put)
    · refine ⟨5, (.int .i64 0), rfl, by kernel_rfl, ?_⟩
      intro bsE vsE W hlb hlv hnd h
      obtain ⟨b0, bsE0, rfl, hlb0⟩ := len_one hlb
      obtain ⟨v0, vsE0, rfl, hlv0⟩ := len_one hlv
      obtain rfl := len_nil hlb0
      obtain rfl := len_nil hlv0
      replace h : ImS w (.slice (some ⟨bu, ou, none⟩) xs.length cu) (.slice (some ⟨bv, ov, none⟩) xs.length cv) s1 s2 a1 c2 b0 W := h
      clear hnd
      have HST := Lib.hid h
      obtain ⟨t0, t1, t2⟩ := cv_open h.cb; obtain ⟨t3, t4, t5⟩ := cv_open h.sb
      intro K Q hK
      simp only [putE, updAll, Act.put, List.setIfInBounds_toArray, List.set_cons_zero, List.set_cons_succ, List.set_nil] at hK ⊢
      go_wp2_with (fail)
      all_goals (first | exact hK _ (by first | exact h | exact h.step (by first | assumption | (repeat' (first | exact Below.refl _ _ | apply bDrewN | apply bDrew)))) | exact (by first | exact h | exact h.step (by first | assumption | (repeat' (first | exact Below.refl _ _ | apply bDrewN | apply bDrew)))))
  case done =>
    intro vsE W hlv h
    obtain ⟨v0, vsE0, rfl, hlv0⟩ := len_one hlv
    obtain rfl := len_nil hlv0
    replace h : ImS w (.slice (some ⟨bu, ou, none⟩) xs.length cu) (.slice (some ⟨bv, ov, none⟩) xs.length cv) s1 s2 a1 c2 true W := h
    have HST := Lib.hid h
    obtain ⟨t0, t1, t2⟩ := cv_open h.rb
    have hbl := h.bel
    simp only [putE, updAll, Act.put, List.setIfInBounds_toArray, List.set_cons_zero, List.set_cons_succ, List.set_nil]
    go_wp2_with fail
    exact bodyPost_ret (v := .tuple #[.agg #[.int .i64 a1, .int .i64 c2], .int .i64 0]) (by simp only [results, Try.results18]; go_simp) rfl ⟨rfl, (by repeat' (first | exact Below.refl _ _ | assumption | apply bDrewN | apply bDrew | apply bAlloc | (refine bSet ?_ ?_ _) | (refine bStep ?_ (by assumption)) | omega | (simp <;> omega)))⟩
end Go.Proofs.Ytngnehlmbipabaa
