/-
  The walk of Blend.
-/
import Derived.Test.YtkldlmbccdfjdaaG6Boxes
import Derived.Test.YtkldlmbccdfjdaaG3Boxes
import Derived.Test.YtkldlmbccdfjdaaG1Boxes
import Derived.Test.YtkldlmbccdfjdaaG2Boxes
set_option linter.unusedSimpArgs false
set_option linter.unusedVariables false
namespace Go.Proofs.Ytkldlmbccdfjdaa
open Go.RowKit

def bmix (y v n k : Int) : Int := y + dn (v - y) n k
def blendRow (ys vs : List Int) (n k : Int) : List Int := (List.range ys.length).map fun j => bmix (ys.getD j 0) (vs.getD j 0) n k
theorem blendRow_len (ys vs : List Int) (n k : Int) : (blendRow ys vs n k).length = ys.length := by simp [blendRow]
theorem blendRow_at {ys vs : List Int} {n k : Int} {j : Nat} (h : j < ys.length) : (blendRow ys vs n k).getD j 0 = bmix (ys.getD j 0) (vs.getD j 0) n k := by
  simp [blendRow, List.getD_eq_getElem?_getD, List.getElem?_eq_getElem, h]
def curvesS (xs ys us vs : List Int) : Int := if checkC xs ys = 6 ∨ checkC us vs = 6 then 6 else if checkC xs ys ≠ 0 ∨ checkC us vs ≠ 0 then 2 else 0
/-- What Blend returns. -/
def blendS (xs ys us vs : List Int) (n k : Int) : (List Int × List Int) × Int :=
  if curvesS xs ys us vs ≠ 0 then (([], []), curvesS xs ys us vs) else if xs ≠ us then (([], []), 20)
  else if ¬ (isDen k = true ∧ 0 ≤ n ∧ n ≤ k) then (([], []), 2) else ((xs, blendRow ys vs n k), 0)
/-- The first k numbers have been mixed. -/
def mixRow (ys vs zs : List Int) (n d : Int) (k : Nat) : Prop := zs.length = ys.length ∧ ∀ j, zs.getD j 0 = if j < k ∧ j < ys.length then bmix (ys.getD j 0) (vs.getD j 0) n d else ys.getD j 0
theorem mixRow.zero {ys vs : List Int} {n d : Int} : mixRow ys vs ys n d 0 := ⟨rfl, fun j => by simp⟩
theorem mixRow.at_ {ys vs zs : List Int} {n d : Int} {k : Nat} (h : mixRow ys vs zs n d k) : zs.getD k 0 = ys.getD k 0 := by rw [h.2 k, if_neg (by omega)]
theorem mixRow.next {ys vs zs : List Int} {n d : Int} {k : Nat} (h : mixRow ys vs zs n d k) (hk : k < ys.length) : mixRow ys vs (zs.set k (bmix (ys.getD k 0) (vs.getD k 0) n d)) n d (k + 1) := by
  refine ⟨by rw [List.length_set]; exact h.1, fun j => ?_⟩
  rw [getDI_set (by rw [h.1]; exact hk), h.2 j]
  by_cases e : k = j
  · subst e
    rw [if_pos rfl, if_pos ⟨by omega, hk⟩]
  · rw [if_neg e]
    by_cases e2 : j < k ∧ j < ys.length
    · rw [if_pos e2, if_pos ⟨by omega, e2.2⟩]
    · rw [if_neg e2, if_neg (by omega)]
theorem mixRow.all {ys vs zs : List Int} {n d : Int} {k : Nat} (h : mixRow ys vs zs n d k) (hk : ys.length ≤ k) : zs = blendRow ys vs n d := by
  refine ints_eq (by rw [h.1, blendRow_len]) fun j hj => ?_
  have hj' : j < ys.length := by have := h.1; omega
  rw [h.2 j, if_pos ⟨by omega, hj'⟩, blendRow_at hj']
theorem mixRow.drop0 {ys zs : List Int} {n d : Int} (h : mixRow ys ys zs n d 0) : True := trivial

set_option maxHeartbeats 4000000 in
set_option maxRecDepth 20000 in
theorem Blend_bad (pa pb pc pd : Option Addr) (ca cb cc cd : Nat) (xs ys us vs : List Int) (E F n k : Int) (w : World) (hEF : (E = 0 ∨ E = 2 ∨ E = 6) ∧ (F = 0 ∨ F = 2 ∨ F = 6)) (hbad : E ≠ 0 ∨ F ≠ 0)
    (hx : xs.length ≤ 1000000) (hy : ys.length ≤ 1000000) (hu : us.length ≤ 1000000) (hv : vs.length ≤ 1000000) (hA : IntAt pa xs w) (hB : IntAt pb ys w) (hC : IntAt pc us w) (hD : IntAt pd vs w) (hE : checkC xs ys = E) (hF : checkC us vs = F) :
    Calls Try.prog 10 #[.agg #[.slice pa xs.length ca, .slice pb ys.length cb], .agg #[.slice pc us.length cc, .slice pd vs.length cd], .int .i64 n, .int .i64 k] w fun e w' => e = .returned (.tuple #[.agg #[.slice none 0 0, .slice none 0 0], .int .i64 (if E = 6 ∨ F = 6 then 6 else 2)]) ∧ Below w.heap.size w w' := by
  have CE := Lib.hid (fun w h1 h2 => CheckCurve_any pa pb ca cb xs ys w hx hy h1 h2)
  have CF := Lib.hid (fun w h1 h2 => CheckCurve_any pc pd cc cd us vs w hu hv h1 h2)
  rw [hE] at CE
  rw [hF] at CF
  have HA := Lib.hid hA
  have HB := Lib.hid hB
  have HC := Lib.hid hC
  have HD := Lib.hid hD
  clear hA hB hC hD hE hF
  generalize hR : (if E = 6 ∨ F = 6 then (6 : Int) else 2) = R
  go_enter Try.func10, Try.ntmps10
  go_upto_region 1 with fail
  have HS := Lib.hid (show Kf w (w.heap.size + 3) [(w.heap.size, 0, (.slice pa xs.length ca)), (w.heap.size, 1, (.slice pb ys.length cb)), (w.heap.size + 1, 0, (.slice pc us.length cc)), (w.heap.size + 1, 1, (.slice pd vs.length cd)), (w.heap.size + 2, 0, (.slice none 0 0)), (w.heap.size + 2, 1, (.slice none 0 0))] (w.heap.size + 2) (((w.alloc (Obj.cells #[(.slice pa xs.length ca), (.slice pb ys.length cb)] 24)).alloc (Obj.cells #[(.slice pc us.length cc), (.slice pd vs.length cd)] 24)).alloc (Obj.cells #[(.slice none 0 0), (.slice none 0 0)] 24)) from ⟨((((((Cs.nil (by omega) (by repeat' (first | exact Below.refl _ _ | assumption | apply bDrewN | apply bDrew | apply bAlloc | (refine bSet ?_ ?_ _) | (refine bStep ?_ (by assumption)) | omega | (simp <;> omega)))).cons (by go_simp) (by omega)).cons (by go_simp) (by omega)).cons (by go_simp) (by omega)).cons (by go_simp) (by omega)).cons (by go_simp) (by omega)).cons (by go_simp) (by omega), by omega, _, _, by simpa using blk_new ((w.alloc _).alloc _) _⟩)
  go_cut [10, 11] (fun s10 s11 W => s10 = .int .i64 E ∧ s11 = .int .i64 F ∧ Kf w (w.heap.size + 3) [(w.heap.size, 0, (.slice pa xs.length ca)), (w.heap.size, 1, (.slice pb ys.length cb)), (w.heap.size + 1, 0, (.slice pc us.length cc)), (w.heap.size + 1, 1, (.slice pd vs.length cd)), (w.heap.size + 2, 0, (.slice none 0 0)), (w.heap.size + 2, 1, (.slice none 0 0))] (w.heap.size + 2) W)
  case first =>
    generalize hA0 : (Act.mk _ _) = A0
    refine region_inv (by kernel_rfl) (by kernel_rfl) (fun l a W => ∃ (b0 b1 b2 b3 b4 b5 : Bool) (v14 v15 v16 v17 v10 v11 : Value), l = #[b0, b1, b2, b3, b4, b5] ∧ a = updAll A0 [(14, v14), (15, v15), (16, v16), (17, v17), (10, v10), (11, v11)] ∧ (b0 = true → v14 = (.agg #[(.slice pa xs.length ca), (.slice pb ys.length cb)])) ∧ (b1 = true → v15 = (.int .i64 E)) ∧ (b2 = true → v16 = (.agg #[(.slice pc us.length cc), (.slice pd vs.length cd)])) ∧ (b3 = true → v17 = (.int .i64 F)) ∧ (b4 = true → v10 = (.int .i64 E)) ∧ (b5 = true → v11 = (.int .i64 F)) ∧ Kf w (w.heap.size + 3) [(w.heap.size, 0, (.slice pa xs.length ca)), (w.heap.size, 1, (.slice pb ys.length cb)), (w.heap.size + 1, 0, (.slice pc us.length cc)), (w.heap.size + 1, 1, (.slice pd vs.length cd)), (w.heap.size + 2, 0, (.slice none 0 0)), (w.heap.size + 2, 1, (.slice none 0 0))] (w.heap.size + 2) W ∧ w.heap.size ≤ W.heap.size) ?h0 ?hsz ?step ?done
    case h0 =>
      refine ⟨false, false, false, false, false, false, A0.tmps.getD 14 undef, A0.tmps.getD 15 undef, A0.tmps.getD 16 undef, A0.tmps.getD 17 undef, A0.tmps.getD 10 undef, A0.tmps.getD 11 undef, by rfl, ?_, by simp, by simp, by simp, by simp, by simp, by simp, HS.out.drew, (by first | omega | (simp; omega) | simp)⟩
      rw [← hA0]
      simp [updAll, Act.put]
    case hsz =>
      rintro l a W ⟨b0, b1, b2, b3, b4, b5, v14, v15, v16, v17, v10, v11, rfl, -⟩
      rfl
    case step =>
      intro iop oop hopi lst act W hInv hlst hdep
      obtain ⟨b0, b1, b2, b3, b4, b5, v14, v15, v16, v17, v10, v11, rfl, rfl, f0, f1, f2, f3, f4, f5, hM, hz⟩ := hInv
      have hi8 : iop < 6 := (Array.getElem?_eq_some_iff.1 hopi).1
      have hi9 : iop = 0 ∨ iop = 1 ∨ iop = 2 ∨ iop = 3 ∨ iop = 4 ∨ iop = 5 := by omega
      rcases hi9 with rfl | rfl | rfl | rfl | rfl | rfl
      · obtain rfl : b0 = false := by simpa using hlst
        obtain rfl := Option.some.inj (show some _ = some oop from hopi)
        refine step_to (a' := (updAll A0 [(14, v14), (15, v15), (16, v16), (17, v17), (10, v10), (11, v11)]).put (some 14) ((.agg #[(.slice pa xs.length ca), (.slice pb ys.length cb)]))) (w' := W) ?_ ?_
        · intro K' hK'
          subst hA0
          have c0 := hM.at_ (show (w.heap.size, 0, (.slice pa xs.length ca)) ∈ _ from by simp); have c1 := hM.at_ (show (w.heap.size, 1, (.slice pb ys.length cb)) ∈ _ from by simp); have c2 := hM.at_ (show (w.heap.size + 1, 0, (.slice pc us.length cc)) ∈ _ from by simp); have c3 := hM.at_ (show (w.heap.size + 1, 1, (.slice pd vs.length cd)) ∈ _ from by simp); have c4 := hM.at_ (show (w.heap.size + 2, 0, (.slice none 0 0)) ∈ _ from by simp); have c5 := hM.at_ (show (w.heap.size + 2, 1, (.slice none 0 0)) ∈ _ from by simp)
          refine wpOp_plain rfl rfl ?_
          simp only [updAll, Act.put, List.setIfInBounds_toArray, List.set_cons_zero, List.set_cons_succ] at hK' ⊢
          go_wp2
          exact hK'
        · refine ⟨true, b1, b2, b3, b4, b5, _, v15, v16, v17, v10, v11, by rfl, ?_, fun _ => rfl, f1, f2, f3, f4, f5, hM, hz⟩
          rw [← hA0]
          simp [updAll, Act.put]
      · obtain rfl : b1 = false := by simpa using hlst
        obtain rfl := Option.some.inj (show some _ = some oop from hopi)
        obtain rfl : b0 = true := by
          rcases Bool.eq_false_or_eq_true b0 with hbb | hbb
          · exact hbb
          · exfalso; subst hbb; revert hdep; simp [Region.binds]
        have e0 := f0 rfl
        subst e0
        refine step_ex (fun a' w' => a' = (updAll A0 [(14, (.agg #[(.slice pa xs.length ca), (.slice pb ys.length cb)])), (15, v15), (16, v16), (17, v17), (10, v10), (11, v11)]).put (some 15) ((.int .i64 E)) ∧ Below W.heap.size W w') ?_ ?_
        · intro K' hK'
          subst hA0
          have c0 := hM.at_ (show (w.heap.size, 0, (.slice pa xs.length ca)) ∈ _ from by simp); have c1 := hM.at_ (show (w.heap.size, 1, (.slice pb ys.length cb)) ∈ _ from by simp); have c2 := hM.at_ (show (w.heap.size + 1, 0, (.slice pc us.length cc)) ∈ _ from by simp); have c3 := hM.at_ (show (w.heap.size + 1, 1, (.slice pd vs.length cd)) ∈ _ from by simp); have c4 := hM.at_ (show (w.heap.size + 2, 0, (.slice none 0 0)) ∈ _ from by simp); have c5 := hM.at_ (show (w.heap.size + 2, 1, (.slice none 0 0)) ∈ _ from by simp)
          refine wpOp_plain rfl rfl ?_
          simp only [updAll, Act.put, List.setIfInBounds_toArray, List.set_cons_zero, List.set_cons_succ] at hK' ⊢
          go_wp2_with (go_at_call 12; refine (CE.out _ (HA.out.step (by first | exact hM.bel | exact bStep hM.bel (Below.refl _ _).drew)) (HB.out.step (by first | exact hM.bel | exact bStep hM.bel (Below.refl _ _).drew))).mono ?_; rintro e w1 ⟨rfl, hb1⟩)
          all_goals (first | exact ⟨rfl, hb1⟩ | exact hK' _ _ ⟨rfl, hb1⟩)
        · rintro a' w' ⟨rfl, hb1⟩
          refine ⟨true, true, b2, b3, b4, b5, (.agg #[(.slice pa xs.length ca), (.slice pb ys.length cb)]), _, v16, v17, v10, v11, by rfl, ?_, fun _ => rfl, fun _ => rfl, f2, f3, f4, f5, hM.step hb1, Nat.le_trans hz hb1.size⟩
          rw [← hA0]
          simp [updAll, Act.put]
      · obtain rfl : b2 = false := by simpa using hlst
        obtain rfl := Option.some.inj (show some _ = some oop from hopi)
        refine step_to (a' := (updAll A0 [(14, v14), (15, v15), (16, v16), (17, v17), (10, v10), (11, v11)]).put (some 16) ((.agg #[(.slice pc us.length cc), (.slice pd vs.length cd)]))) (w' := W) ?_ ?_
        · intro K' hK'
          subst hA0
          have c0 := hM.at_ (show (w.heap.size, 0, (.slice pa xs.length ca)) ∈ _ from by simp); have c1 := hM.at_ (show (w.heap.size, 1, (.slice pb ys.length cb)) ∈ _ from by simp); have c2 := hM.at_ (show (w.heap.size + 1, 0, (.slice pc us.length cc)) ∈ _ from by simp); have c3 := hM.at_ (show (w.heap.size + 1, 1, (.slice pd vs.length cd)) ∈ _ from by simp); have c4 := hM.at_ (show (w.heap.size + 2, 0, (.slice none 0 0)) ∈ _ from by simp); have c5 := hM.at_ (show (w.heap.size + 2, 1, (.slice none 0 0)) ∈ _ from by simp)
          refine wpOp_plain rfl rfl ?_
          simp only [updAll, Act.put, List.setIfInBounds_toArray, List.set_cons_zero, List.set_cons_succ] at hK' ⊢
          go_wp2
          exact hK'
        · refine ⟨b0, b1, true, b3, b4, b5, v14, v15, _, v17, v10, v11, by rfl, ?_, f0, f1, fun _ => rfl, f3, f4, f5, hM, hz⟩
          rw [← hA0]
          simp [updAll, Act.put]
      · obtain rfl : b3 = false := by simpa using hlst
        obtain rfl := Option.some.inj (show some _ = some oop from hopi)
        obtain rfl : b2 = true := by
          rcases Bool.eq_false_or_eq_true b2 with hbb | hbb
          · exact hbb
          · exfalso; subst hbb; revert hdep; simp [Region.binds]
        have e2 := f2 rfl
        subst e2
        refine step_ex (fun a' w' => a' = (updAll A0 [(14, v14), (15, v15), (16, (.agg #[(.slice pc us.length cc), (.slice pd vs.length cd)])), (17, v17), (10, v10), (11, v11)]).put (some 17) ((.int .i64 F)) ∧ Below W.heap.size W w') ?_ ?_
        · intro K' hK'
          subst hA0
          have c0 := hM.at_ (show (w.heap.size, 0, (.slice pa xs.length ca)) ∈ _ from by simp); have c1 := hM.at_ (show (w.heap.size, 1, (.slice pb ys.length cb)) ∈ _ from by simp); have c2 := hM.at_ (show (w.heap.size + 1, 0, (.slice pc us.length cc)) ∈ _ from by simp); have c3 := hM.at_ (show (w.heap.size + 1, 1, (.slice pd vs.length cd)) ∈ _ from by simp); have c4 := hM.at_ (show (w.heap.size + 2, 0, (.slice none 0 0)) ∈ _ from by simp); have c5 := hM.at_ (show (w.heap.size + 2, 1, (.slice none 0 0)) ∈ _ from by simp)
          refine wpOp_plain rfl rfl ?_
          simp only [updAll, Act.put, List.setIfInBounds_toArray, List.set_cons_zero, List.set_cons_succ] at hK' ⊢
          go_wp2_with (go_at_call 12; refine (CF.out _ (HC.out.step (by first | exact hM.bel | exact bStep hM.bel (Below.refl _ _).drew)) (HD.out.step (by first | exact hM.bel | exact bStep hM.bel (Below.refl _ _).drew))).mono ?_; rintro e w1 ⟨rfl, hb1⟩)
          all_goals (first | exact ⟨rfl, hb1⟩ | exact hK' _ _ ⟨rfl, hb1⟩)
        · rintro a' w' ⟨rfl, hb1⟩
          refine ⟨b0, b1, true, true, b4, b5, v14, v15, (.agg #[(.slice pc us.length cc), (.slice pd vs.length cd)]), _, v10, v11, by rfl, ?_, f0, f1, fun _ => rfl, fun _ => rfl, f4, f5, hM.step hb1, Nat.le_trans hz hb1.size⟩
          rw [← hA0]
          simp [updAll, Act.put]
      · obtain rfl : b4 = false := by simpa using hlst
        obtain rfl := Option.some.inj (show some _ = some oop from hopi)
        obtain rfl : b1 = true := by
          rcases Bool.eq_false_or_eq_true b1 with hbb | hbb
          · exact hbb
          · exfalso; subst hbb; revert hdep; simp [Region.binds]
        have e1 := f1 rfl
        subst e1
        refine step_to (a' := (updAll A0 [(14, v14), (15, (.int .i64 E)), (16, v16), (17, v17), (10, v10), (11, v11)]).put (some 10) ((.int .i64 E))) (w' := W) ?_ ?_
        · intro K' hK'
          subst hA0
          have c0 := hM.at_ (show (w.heap.size, 0, (.slice pa xs.length ca)) ∈ _ from by simp); have c1 := hM.at_ (show (w.heap.size, 1, (.slice pb ys.length cb)) ∈ _ from by simp); have c2 := hM.at_ (show (w.heap.size + 1, 0, (.slice pc us.length cc)) ∈ _ from by simp); have c3 := hM.at_ (show (w.heap.size + 1, 1, (.slice pd vs.length cd)) ∈ _ from by simp); have c4 := hM.at_ (show (w.heap.size + 2, 0, (.slice none 0 0)) ∈ _ from by simp); have c5 := hM.at_ (show (w.heap.size + 2, 1, (.slice none 0 0)) ∈ _ from by simp)
          refine wpOp_plain rfl rfl ?_
          simp only [updAll, Act.put, List.setIfInBounds_toArray, List.set_cons_zero, List.set_cons_succ] at hK' ⊢
          go_wp2
          exact hK'
        · refine ⟨b0, true, b2, b3, true, b5, v14, (.int .i64 E), v16, v17, _, v11, by rfl, ?_, f0, fun _ => rfl, f2, f3, fun _ => rfl, f5, hM, hz⟩
          rw [← hA0]
          simp [updAll, Act.put]
      · obtain rfl : b5 = false := by simpa using hlst
        obtain rfl := Option.some.inj (show some _ = some oop from hopi)
        obtain rfl : b3 = true := by
          rcases Bool.eq_false_or_eq_true b3 with hbb | hbb
          · exact hbb
          · exfalso; subst hbb; revert hdep; simp [Region.binds]
        have e3 := f3 rfl
        subst e3
        refine step_to (a' := (updAll A0 [(14, v14), (15, v15), (16, v16), (17, (.int .i64 F)), (10, v10), (11, v11)]).put (some 11) ((.int .i64 F))) (w' := W) ?_ ?_
        · intro K' hK'
          subst hA0
          have c0 := hM.at_ (show (w.heap.size, 0, (.slice pa xs.length ca)) ∈ _ from by simp); have c1 := hM.at_ (show (w.heap.size, 1, (.slice pb ys.length cb)) ∈ _ from by simp); have c2 := hM.at_ (show (w.heap.size + 1, 0, (.slice pc us.length cc)) ∈ _ from by simp); have c3 := hM.at_ (show (w.heap.size + 1, 1, (.slice pd vs.length cd)) ∈ _ from by simp); have c4 := hM.at_ (show (w.heap.size + 2, 0, (.slice none 0 0)) ∈ _ from by simp); have c5 := hM.at_ (show (w.heap.size + 2, 1, (.slice none 0 0)) ∈ _ from by simp)
          refine wpOp_plain rfl rfl ?_
          simp only [updAll, Act.put, List.setIfInBounds_toArray, List.set_cons_zero, List.set_cons_succ] at hK' ⊢
          go_wp2
          exact hK'
        · refine ⟨b0, b1, b2, true, b4, true, v14, v15, v16, (.int .i64 F), v10, _, by rfl, ?_, f0, f1, f2, fun _ => rfl, f4, fun _ => rfl, hM, hz⟩
          rw [← hA0]
          simp [updAll, Act.put]
    case done =>
      rintro l a W ⟨b0, b1, b2, b3, b4, b5, v14, v15, v16, v17, v10, v11, rfl, rfl, f0, f1, f2, f3, f4, f5, hM, hz⟩ hall
      obtain rfl : b0 = true := by simpa using hall 0 (by decide)
      obtain rfl : b1 = true := by simpa using hall 1 (by decide)
      obtain rfl : b2 = true := by simpa using hall 2 (by decide)
      obtain rfl : b3 = true := by simpa using hall 3 (by decide)
      obtain rfl : b4 = true := by simpa using hall 4 (by decide)
      obtain rfl : b5 = true := by simpa using hall 5 (by decide)
      have e0 := f0 rfl
      subst e0
      have e1 := f1 rfl
      subst e1
      have e2 := f2 rfl
      subst e2
      have e3 := f3 rfl
      subst e3
      have e4 := f4 rfl
      subst e4
      have e5 := f5 rfl
      subst e5
      subst hA0
      simp only [updAll, Act.put, List.setIfInBounds_toArray, List.set_cons_zero, List.set_cons_succ]
      go_wp2_with fail
      go_meet
      exact ⟨rfl, rfl, hM⟩
  case rest =>
    obtain ⟨rfl, rfl, hM⟩ := hcut
    have c0 := hM.at_ (show (w.heap.size, 0, (.slice pa xs.length ca)) ∈ _ from by simp); have c1 := hM.at_ (show (w.heap.size, 1, (.slice pb ys.length cb)) ∈ _ from by simp); have c2 := hM.at_ (show (w.heap.size + 1, 0, (.slice pc us.length cc)) ∈ _ from by simp); have c3 := hM.at_ (show (w.heap.size + 1, 1, (.slice pd vs.length cd)) ∈ _ from by simp); have c4 := hM.at_ (show (w.heap.size + 2, 0, (.slice none 0 0)) ∈ _ from by simp); have c5 := hM.at_ (show (w.heap.size + 2, 1, (.slice none 0 0)) ∈ _ from by simp)
    have fr0 := hM.free (o := 0)
    have fr1 := hM.free (o := 1)
    have hbel := hM.bel
    have HK := Lib.hid hM
    clear hM HS
    clear CE CF HA HB HC HD hx hy hu hv
    obtain ⟨rfl | rfl | rfl, rfl | rfl | rfl⟩ := hEF
    · exact absurd hbad (by decide)
    all_goals
      clear hbad
      simp at hR
      subst hR
      go_wp2_with fail
      first
        | exact bodyPost_ret (v := .tuple #[.agg #[.slice none 0 0, .slice none 0 0], .int .i64 6]) (by simp only [results, Try.results10]; go_simp) rfl ⟨rfl, (by repeat' (first | exact Below.refl _ _ | assumption | apply bDrewN | apply bDrew | apply bAlloc | (refine bSet ?_ ?_ _) | (refine bStep ?_ (by assumption)) | omega | (simp <;> omega)))⟩
        | exact bodyPost_ret (v := .tuple #[.agg #[.slice none 0 0, .slice none 0 0], .int .i64 2]) (by simp only [results, Try.results10]; go_simp) rfl ⟨rfl, (by repeat' (first | exact Below.refl _ _ | assumption | apply bDrewN | apply bDrew | apply bAlloc | (refine bSet ?_ ?_ _) | (refine bStep ?_ (by assumption)) | omega | (simp <;> omega)))⟩



end Go.Proofs.Ytkldlmbccdfjdaa

/-
  A region that draws its order: operations whose values are known, at most two whose values are not (a slice that is built, an append), and one at the end. Each is carried out in the frame that all of them leave.
-/
set_option linter.unusedSimpArgs false
set_option linter.unusedVariables false
namespace Go.Proofs.Ytkldlmbccdfjdaa
open Go.RowKit

section
variable {P : Program} {ops : Array Oper} {Q : Exit → Act → World → Prop}

theorem put_inj {y : Act} {d : Nat} {v v' : Value} (hd : d < y.tmps.size) (h : y.put (some d) v = y.put (some d) v') : v = v' := by
  have := congrArg (fun a : Act => a.tmps[d]?) h
  simpa [Act.put, Array.getElem?_setIfInBounds, hd] using this
theorem upon_congr {o : Oper} {x y : Act} {d : Nat} {C : Value → World → Prop} {r : Result Next} (hd : o.dst = some d) (hy : d < y.tmps.size)
    (h : o.upon P y (fun a' w' => ∃ v, a' = y.put (some d) v ∧ C v w') (fun _ _ _ => False) r) : o.upon P x (fun a' w' => ∃ v, a' = x.put (some d) v ∧ C v w') Q r := by
  cases r with
  | ok n w' =>
    cases n with
    | value v =>
      simp only [Oper.upon, hd] at h ⊢
      obtain ⟨v', e, hC⟩ := h
      rw [← put_inj hy e] at hC
      exact ⟨v, rfl, hC⟩
    | skip =>
      simp only [Oper.upon, hd] at h ⊢
      obtain ⟨v', e, hC⟩ := h
      rw [← put_inj hy e] at hC
      exact ⟨_, rfl, hC⟩
    | «defer» df =>
      simp only [Oper.upon, hd] at h
      obtain ⟨v', e, hC⟩ := h
      have := congrArg Act.defers e
      simp [Act.put] at this
    | enter f args =>
      simp only [Oper.upon, hd] at h ⊢
      refine h.mono fun e w'' he => ?_
      cases e with
      | returned v =>
        obtain ⟨v', e, hC⟩ := he
        rw [← put_inj hy e] at hC
        exact ⟨_, rfl, hC⟩
      | panicked c => exact absurd he id
      | outgrown => obtain ⟨_, _, hf⟩ := he; exact absurd hf id
    | row rw_ args =>
      simp only [Oper.upon, hd] at h ⊢
      refine h.mono fun v w'' he => ?_
      obtain ⟨v', e, hC⟩ := he
      rw [← put_inj hy e] at hC
      exact ⟨_, rfl, hC⟩
    | _ => exact absurd h id
  | halt hh w' =>
    cases hh <;> exact absurd h id

def chainB (ops : Array Oper) (N e1 e2 u1 u2 : Nat) : Bool := (List.range N).all fun i => match ops[i]? with
  | none => false
  | some o => o.guard.isNone && plainOp o.op && o.dst.isSome && (o.op.operands.all fun x => match x with
      | .tmp t => decide (t ≠ u2) && (decide (t = u1) || (List.range N).all fun j => decide (dstOf ops j ≠ some t) || (waits ops i).contains j)
      | _ => true) && ((List.range N).all fun j => decide (j = i) || decide (dstOf ops j ≠ dstOf ops i)) &&
      (if i = e1 then decide (dstOf ops i = some u1) else if i = e2 then decide (dstOf ops i = some u2) else decide (dstOf ops i ≠ some u1) && decide (dstOf ops i ≠ some u2))
structure ChainAt (ops : Array Oper) (N e1 e2 u1 u2 i : Nat) (o : Oper) : Prop where
  guard : o.guard = none
  sel : ∀ cs b, o.op ≠ .select cs b
  dst : ∃ d, o.dst = some d
  looks2 : ∀ t, Operand.tmp t ∈ o.op.operands → t ≠ u2
  looks : ∀ t, Operand.tmp t ∈ o.op.operands → t = u1 ∨ ∀ j, j < N → dstOf ops j = some t → j ∈ waits ops i
  one : ∀ j, j < N → j ≠ i → dstOf ops j ≠ dstOf ops i
  at1 : i = e1 → dstOf ops i = some u1
  at2 : i ≠ e1 → i = e2 → dstOf ops i = some u2
  at0 : i ≠ e1 → i ≠ e2 → dstOf ops i ≠ some u1 ∧ dstOf ops i ≠ some u2
theorem chain_at {N e1 e2 u1 u2 i : Nat} {o : Oper} (h : chainB ops N e1 e2 u1 u2 = true) (hi : i < N) (ho : ops[i]? = some o) : ChainAt ops N e1 e2 u1 u2 i o := by
  have h1 := List.all_eq_true.1 h i (List.mem_range.2 hi)
  rw [ho] at h1
  simp only [Bool.and_eq_true] at h1
  obtain ⟨⟨⟨⟨⟨h1, h2⟩, h3⟩, h4⟩, h5⟩, h6⟩ := h1
  have hk : ∀ t, Operand.tmp t ∈ o.op.operands → t ≠ u2 ∧ (t = u1 ∨ ∀ j, j < N → dstOf ops j = some t → j ∈ waits ops i) := by
    intro t ht
    rw [Array.all_eq_true'] at h4
    have h7 := h4 (.tmp t) ht
    simp only [Bool.and_eq_true, Bool.or_eq_true, decide_eq_true_eq] at h7
    refine ⟨h7.1, ?_⟩
    rcases h7.2 with h8 | h8
    · exact Or.inl h8
    · refine Or.inr fun j hj hd => ?_
      have h9 := List.all_eq_true.1 h8 j (List.mem_range.2 hj)
      simp only [Bool.or_eq_true, decide_eq_true_eq] at h9
      rcases h9 with h9 | h9
      · exact absurd hd h9
      · simpa using h9
  refine ⟨by simpa using h1, ?_, Option.isSome_iff_exists.1 h3, fun t ht => (hk t ht).1, fun t ht => (hk t ht).2, ?_, ?_, ?_, ?_⟩
  · intro cs b e; rw [e] at h2; simp [plainOp] at h2
  · intro j hj hne
    have h6 := List.all_eq_true.1 h5 j (List.mem_range.2 hj)
    simp only [Bool.or_eq_true, decide_eq_true_eq] at h6
    rcases h6 with h6 | h6
    · exact absurd h6 hne
    · exact h6
  · intro e; rw [if_pos e] at h6; simpa using h6
  · intro e e'; rw [if_neg e, if_pos e'] at h6; simpa using h6
  · intro e e'; rw [if_neg e, if_neg e'] at h6; simpa using h6

/-- What is asked of the operations whose values are known. -/
def AllRd (Ob : Oper → Prop) (e1 e2 : Nat) : Nat → List Oper → Prop
  | _, [] => True
  | i, o :: l => (i ≠ e1 → i ≠ e2 → Ob o) ∧ AllRd Ob e1 e2 (i + 1) l
theorem AllRd.at_ {Ob : Oper → Prop} {e1 e2 : Nat} : ∀ {l : List Oper} {k : Nat}, AllRd Ob e1 e2 k l → ∀ (i : Nat) (o : Oper), l[i]? = some o → k + i ≠ e1 → k + i ≠ e2 → Ob o := by
  intro l
  induction l with
  | nil => intro _ _ i o h; simp at h
  | cons x l ih =>
    intro k h i o ho n1 n2
    cases i with
    | zero => simp at ho; subst ho; exact h.1 n1 n2
    | succ i => exact ih h.2 i o (by simpa using ho) (by omega) (by omega)
def RdOb (P : Program) (St : Bool → Bool → Value → Value → World → Prop) (AF : Act) (u1 : Nat) (o : Oper) : Prop :=
  ∃ d v, o.dst = some d ∧ AF.tmps[d]? = some v ∧ ∀ b1 b2 v1 v2 W, St b1 b2 v1 v2 W → ∀ (K : Act → World → Prop) (Q : Exit → Act → World → Prop), (∀ W', St b1 b2 v1 v2 W' → K ((AF.put (some u1) v1).put (some d) v) W') → o.wp P (AF.put (some u1) v1) W K Q

theorem put_at (a : Act) (d t : Nat) (v : Value) : (a.put (some d) v).tmps[t]? = if d = t then (if d < a.tmps.size then some v else none) else a.tmps[t]? := by
  simp only [Act.put, Array.getElem?_setIfInBounds]
theorem actGet_of {a : Act} {t : Nat} (h : t < a.tmps.size) : a.tmps[t]? = some (a.tmps.getD t undef) := by
  rw [Array.getD_eq_getD_getElem?, Array.getElem?_eq_getElem h]; rfl
theorem actGet_none {a : Act} {t : Nat} (h : ¬ t < a.tmps.size) : a.tmps[t]? = none := by
  rw [Array.getElem?_eq_none_iff]; omega

theorem act_ext {p q : Act} (h1 : p.tmps = q.tmps) (h2 : p.defers = q.defers) : p = q := by
  obtain ⟨a, b⟩ := p
  obtain ⟨c, d⟩ := q
  dsimp only at h1 h2
  rw [h1, h2]

/-- THE RULE. -/
theorem region_chain {id : Nat} {a : Act} {w : World} (N e1 e2 u1 u2 f : Nat) (vals : List (Nat × Value)) (St : Bool → Bool → Value → Value → World → Prop) (hm : P.follows .mixedOrders = true) (he : early ops = true) (hs0 : ops.size = N + 1)
    (hA : ((List.range N).all fun j => (ancs ops f N).contains j) = true) (hE : (decide (N < e2) || ((waits ops e2).contains e1) && decide (e1 < e2)) = true) (hH : chainB ops N e1 e2 u1 u2 = true) (hN1 : e1 ≠ N) (hN2 : e2 ≠ N) (hu : u1 ≠ u2) (hsu1 : e1 < N → u1 < a.tmps.size) (hsu2 : e2 < N → u2 < a.tmps.size)
    (hds : vals.map (fun p => some p.1) = ((List.range N).filter fun i => decide (i ≠ e1) && decide (i ≠ e2)).map (dstOf ops))
    (h0 : ∀ v1 v2, St false false v1 v2 w.drew) (reads : AllRd (RdOb P St (updAll a vals) u1) e1 e2 0 (ops.toList.take N))
    (eff1 : ∀ o, ops[e1]? = some o → ∀ v1 v2 W, St false false v1 v2 W → ∀ (K : Act → World → Prop) (Q : Exit → Act → World → Prop), (∀ v W', St true false v v2 W' → K (((updAll a vals).put (some u1) v1).put (some u1) v) W') → o.wp P ((updAll a vals).put (some u1) v1) W K Q)
    (eff2 : ∀ o, ops[e2]? = some o → ∀ v1 v2 W, St true false v1 v2 W → ∀ (K : Act → World → Prop) (Q : Exit → Act → World → Prop), (∀ v W', St true true v1 v W' → K (((updAll a vals).put (some u1) v1).put (some u2) v) W') → o.wp P ((updAll a vals).put (some u1) v1) W K Q)
    (tail : ∀ v1 v2 W, St (decide (e1 < N)) (decide (e2 < N)) v1 v2 W → wpOp P ops Q N (fun a2 w2 => Q .normal a2 w2) (((updAll a vals).put (some u1) v1).put (some u2) v2) W) :
    (Code.region id ops true).wp P Q a w := by
  have hA' : ∀ j, j < N → j ∈ ancs ops f N := fun j hj => by simpa using List.all_eq_true.1 hA j (List.mem_range.2 hj)
  have hsame : ∀ t, (∀ j, j < N → j ≠ e1 → j ≠ e2 → dstOf ops j ≠ some t) → (updAll a vals).tmps[t]? = a.tmps[t]? := fun t ht => updAll_same _ _ _ fun p hp e => by
    have h1 : some p.1 ∈ vals.map (fun p => some p.1) := List.mem_map.2 ⟨p, hp, rfl⟩
    rw [hds] at h1
    obtain ⟨j, hj, hjd⟩ := List.mem_map.1 h1
    obtain ⟨hj1, hj2⟩ := List.mem_filter.1 hj
    simp only [Bool.and_eq_true, decide_eq_true_eq] at hj2
    exact ht j (List.mem_range.1 hj1) hj2.1 hj2.2 (by rw [hjd, e])
  have hdf : (updAll a vals).defers = a.defers := updAll_defers _ _
  have hsz : (updAll a vals).tmps.size = a.tmps.size := updAll_size _ _
  have hval : ∀ i o, i < N → ops[i]? = some o → i ≠ e1 → i ≠ e2 → RdOb P St (updAll a vals) u1 o := fun i o hi ho n1 n2 => reads.at_ i o (by
    rw [List.getElem?_take_of_lt hi, Array.getElem?_toList]; exact ho) (by omega) (by omega)
  generalize updAll a vals = AF at *
  refine region_inv hm he (fun l x W => l.size = ops.size ∧ Shut ops l ∧ ((l.getD N false = true ∧ Q .normal x W) ∨ (l.getD N true = false ∧ x.defers = a.defers ∧ x.tmps.size = a.tmps.size ∧
    (∀ j, j < N → j ≠ e1 → j ≠ e2 → l.getD j false = true → ∀ t, dstOf ops j = some t → x.tmps[t]? = AF.tmps[t]?) ∧
    (∀ t, (∀ j, j < N → dstOf ops j = some t → l.getD j false = false) → x.tmps[t]? = a.tmps[t]?) ∧ St (l.getD e1 false) (l.getD e2 false) (x.tmps.getD u1 undef) (x.tmps.getD u2 undef) W))) ?_ (fun l a w h => h.1) ?_ ?_
  · refine ⟨by simp, ?_, Or.inr ⟨?_, rfl, rfl, fun j hj _ _ h => ?_, fun _ _ => rfl, ?_⟩⟩
    · intro i hi
      rw [Array.getD_eq_getD_getElem?] at hi
      by_cases h : i < ops.size <;> simp [h] at hi
    · rw [Array.getD_eq_getD_getElem?]; simp [hs0]
    · rw [Array.getD_eq_getD_getElem?] at h
      simp [hs0, show j < N + 1 by omega] at h
    · have e : ∀ k, (Array.replicate ops.size false).getD k false = false := by
        intro k
        rw [Array.getD_eq_getD_getElem?]
        by_cases h : k < ops.size <;> simp [h]
      rw [e, e]
      exact h0 _ _
  · rintro i o ho l x W ⟨hs, hS, hJ⟩ hl hd
    have hio : i < ops.size := (Array.getElem?_eq_some_iff.1 ho).1
    have hil : i < l.size := by rw [hs]; exact hio
    have hw := waits_ok ho hd
    have hS2 := hS.set hil hw
    have hs2 : (l.setIfInBounds i true).size = ops.size := by simpa using hs
    rcases hJ with ⟨j1, _⟩ | ⟨jN, x1, x2, x3, x4, x5⟩
    · rcases Nat.lt_or_ge i N with hi | hi
      · exact absurd (hS.anc f N j1 i (hA' i hi)) (by rw [getD_tf hl]; decide)
      · obtain rfl : i = N := by omega
        exact absurd j1 (by rw [getD_tf hl]; decide)
    rcases Nat.lt_or_ge i N with hi | hi
    · have hC := chain_at hH hi ho
      obtain ⟨d, hd1⟩ := hC.dst
      have hdi : dstOf ops i = some d := by unfold dstOf; rw [ho]; exact hd1
      -- the operands look alike
      have hev : ∀ y ∈ o.op.operands, x.eval y = (AF.put (some u1) (x.tmps.getD u1 undef)).eval y := by
        intro y hy
        refine eval_same fun t ht => ?_
        subst ht
        have n2 := hC.looks2 t hy
        rw [put_at]
        by_cases c1 : u1 = t
        · rw [if_pos c1]
          subst c1
          by_cases hlt : u1 < x.tmps.size
          · rw [if_pos (by rw [hsz, ← x2]; exact hlt), actGet_of hlt]
          · rw [if_neg (by rw [hsz, ← x2]; exact hlt), actGet_none hlt]
        · rw [if_neg c1]
          rcases hC.looks t hy with c2 | c2
          · exact absurd c2.symm c1
          by_cases hc : ∃ j, j < N ∧ dstOf ops j = some t
          · obtain ⟨j, hj, hjt⟩ := hc
            have hoj : ops[j]? = some ops[j] := Array.getElem?_eq_getElem (by omega)
            have hCj := chain_at hH hj hoj
            have m1 : j ≠ e1 := fun e => by have := hCj.at1 e; rw [hjt] at this; exact c1 (Option.some.inj this).symm
            have m2 : j ≠ e2 := fun e => by have := hCj.at2 m1 e; rw [hjt] at this; exact n2 (Option.some.inj this)
            exact x3 j hj m1 m2 (hw j (c2 j hj hjt)) t hjt
          · have hno : ∀ j, j < N → dstOf ops j ≠ some t := fun j hj e => hc ⟨j, hj, e⟩
            rw [x4 t (fun j hj e => absurd e (hno j hj)), hsame t (fun j hj _ _ => hno j hj)]
      have hex := execOp_congr o hC.sel hev
      by_cases hdlt : d < a.tmps.size
      · have hlt : d < x.tmps.size := by rw [x2]; exact hdlt
        have hAFlt : d < (AF.put (some u1) (x.tmps.getD u1 undef)).tmps.size := by simpa [Act.put, hsz] using hdlt
        -- the frame and the flags behind it
        have hput : ∀ (C : Value → World → Prop), (∀ (K : Act → World → Prop) (Q : Exit → Act → World → Prop), (∀ v W', C v W' → K ((AF.put (some u1) (x.tmps.getD u1 undef)).put (some d) v) W') → o.wp P (AF.put (some u1) (x.tmps.getD u1 undef)) W K Q) → wpOp P ops Q i (fun a' w' => ∃ v, a' = x.put (some d) v ∧ C v w') x W := by
          intro C hC2
          unfold wpOp
          rw [ho]
          simp only [Region.wanted, hC.guard, if_true]
          refine Or.inl ?_
          have h1 := hC2 (fun a' w' => ∃ v, a' = (AF.put (some u1) (x.tmps.getD u1 undef)).put (some d) v ∧ C v w') (fun _ _ _ => False) (fun v W' h => ⟨v, rfl, h⟩)
          unfold Oper.wp at h1 ⊢
          rw [hex]
          exact upon_congr hd1 hAFlt h1
        have hfr : ∀ v W', (i ≠ e1 → i ≠ e2 → AF.tmps[d]? = some v) → St ((l.setIfInBounds i true).getD e1 false) ((l.setIfInBounds i true).getD e2 false) ((x.put (some d) v).tmps.getD u1 undef) ((x.put (some d) v).tmps.getD u2 undef) W' →
            ((l.setIfInBounds i true).size = ops.size ∧ Shut ops (l.setIfInBounds i true) ∧ (((l.setIfInBounds i true).getD N false = true ∧ Q .normal (x.put (some d) v) W') ∨ ((l.setIfInBounds i true).getD N true = false ∧ (x.put (some d) v).defers = a.defers ∧ (x.put (some d) v).tmps.size = a.tmps.size ∧
    (∀ j, j < N → j ≠ e1 → j ≠ e2 → (l.setIfInBounds i true).getD j false = true → ∀ t, dstOf ops j = some t → (x.put (some d) v).tmps[t]? = AF.tmps[t]?) ∧
    (∀ t, (∀ j, j < N → dstOf ops j = some t → (l.setIfInBounds i true).getD j false = false) → (x.put (some d) v).tmps[t]? = a.tmps[t]?) ∧ St ((l.setIfInBounds i true).getD e1 false) ((l.setIfInBounds i true).getD e2 false) ((x.put (some d) v).tmps.getD u1 undef) ((x.put (some d) v).tmps.getD u2 undef) W'))) := by
          intro v W' hv hSt
          refine ⟨hs2, hS2, Or.inr ⟨?_, x1, by simpa [Act.put] using x2, ?_, ?_, hSt⟩⟩
          · rw [getD_set1 hil, if_neg (by omega)]; exact jN
          · intro j hj m1 m2 hjl t hjt
            rw [put_at]
            by_cases e : d = t
            · subst e
              rw [if_pos rfl, if_pos hlt]
              have hji : j = i := Classical.byContradiction fun c => hC.one j hj c (by rw [hjt, hdi])
              subst hji
              exact (hv m1 m2).symm
            · rw [if_neg e]
              have hji : j ≠ i := fun c => by subst c; rw [hdi] at hjt; exact e (Option.some.inj hjt)
              rw [getD_set1 hil, if_neg (fun c => hji c.symm)] at hjl
              exact x3 j hj m1 m2 hjl t hjt
          · intro t ht
            rw [put_at]
            have hdt : d ≠ t := fun c => by
              subst c
              have := ht i hi hdi
              rw [getD_set1 hil, if_pos rfl] at this
              cases this
            rw [if_neg hdt]
            refine x4 t fun j hj hjt => ?_
            have := ht j hj hjt
            rw [getD_set1 hil] at this
            split at this
            · cases this
            · exact this
        have hgd : ∀ (v : Value) (t : Nat), (x.put (some d) v).tmps.getD t undef = if d = t then v else x.tmps.getD t undef := by
          intro v t
          rw [Array.getD_eq_getD_getElem?, put_at]
          by_cases e : d = t
          · rw [if_pos e, if_pos e, if_pos hlt]; rfl
          · rw [if_neg e, if_neg e, Array.getD_eq_getD_getElem?]
        by_cases c1 : i = e1
        · subst c1
          have hd2 := hC.at1 rfl
          rw [hdi] at hd2
          obtain rfl : d = u1 := Option.some.inj hd2
          have hb1 : l.getD i false = false := getD_tf hl
          have hb2 : l.getD e2 false = false := by
            cases hb : l.getD e2 false with
            | false => rfl
            | true =>
              exfalso
              simp only [Bool.or_eq_true, Bool.and_eq_true, decide_eq_true_eq] at hE
              rcases hE with hE | hE
              · rw [Array.getD_eq_getD_getElem?, Array.getElem?_eq_none_iff.2 (by omega)] at hb
                cases hb
              · have := hS e2 hb i (by simpa using hE.1)
                rw [hb1] at this; cases this
          rw [hb1, hb2] at x5
          refine wpOp_mono ?_ (hput (fun v W' => St true false v (x.tmps.getD u2 undef) W') (fun K Q hK => eff1 o ho _ _ W x5 K Q hK))
          rintro a' w' ⟨v, rfl, hv⟩
          refine hfr v w' (fun c => absurd rfl c) ?_
          rw [getD_set1 hil, if_pos rfl, getD_set1 hil, hgd, hgd, if_pos rfl, if_neg hu]
          have : ¬ i = e2 := fun e => by
            simp only [Bool.or_eq_true, Bool.and_eq_true, decide_eq_true_eq] at hE
            omega
          rw [if_neg this, hb2]
          exact hv
        · by_cases c2 : i = e2
          · subst c2
            have hd2 := hC.at2 c1 rfl
            rw [hdi] at hd2
            obtain rfl : d = u2 := Option.some.inj hd2
            have hb2 : l.getD i false = false := getD_tf hl
            have hb1 : l.getD e1 false = true := by
              simp only [Bool.or_eq_true, Bool.and_eq_true, decide_eq_true_eq] at hE
              rcases hE with hE | hE
              · omega
              · exact hw e1 (by simpa using hE.1)
            rw [hb1, hb2] at x5
            refine wpOp_mono ?_ (hput (fun v W' => St true true (x.tmps.getD u1 undef) v W') (fun K Q hK => eff2 o ho _ _ W x5 K Q hK))
            rintro a' w' ⟨v, rfl, hv⟩
            refine hfr v w' (fun _ c => absurd rfl c) ?_
            rw [getD_set1 hil, getD_set1 hil, if_pos rfl, hgd, hgd, if_pos rfl, if_neg (Ne.symm hu), if_neg c1, hb1]
            exact hv
          · obtain ⟨d', v, g1, g2, g3⟩ := hval i o hi ho c1 c2
            rw [hd1] at g1
            obtain rfl : d = d' := Option.some.inj g1
            obtain ⟨k1, k2⟩ := hC.at0 c1 c2
            rw [hdi] at k1 k2
            have k1' : d ≠ u1 := fun e => k1 (by rw [e])
            have k2' : d ≠ u2 := fun e => k2 (by rw [e])
            refine wpOp_mono ?_ (hput (fun v' W' => v' = v ∧ St (l.getD e1 false) (l.getD e2 false) (x.tmps.getD u1 undef) (x.tmps.getD u2 undef) W') (fun K Q hK => g3 _ _ _ _ W x5 K Q (fun W' h => hK v W' ⟨rfl, h⟩)))
            rintro a' w' ⟨v', rfl, rfl, hv⟩
            refine hfr v' w' (fun _ _ => g2) ?_
            rw [getD_set1 hil, getD_set1 hil, hgd, hgd, if_neg k1', if_neg k2', if_neg c1, if_neg c2]
            exact hv
      · -- no such slot: cannot be
        exfalso
        by_cases c1 : i = e1
        · have hd2 := hC.at1 c1
          rw [hdi] at hd2
          have := hsu1 (by omega)
          rw [← Option.some.inj hd2] at this
          exact hdlt this
        · by_cases c2 : i = e2
          · have hd2 := hC.at2 c1 c2
            rw [hdi] at hd2
            have := hsu2 (by omega)
            rw [← Option.some.inj hd2] at this
            exact hdlt this
          · obtain ⟨d', v, g1, g2, g3⟩ := hval i o hi ho c1 c2
            rw [hd1] at g1
            obtain rfl : d = d' := Option.some.inj g1
            have := (Array.getElem?_eq_some_iff.1 g2).1
            rw [hsz] at this
            exact hdlt this
    · obtain rfl : i = N := by omega
      have hall : ∀ j, j < i → l.getD j false = true := by
        intro j hj
        have := hS2.anc f i (by rw [getD_set1 hil, if_pos rfl]) j (hA' j hj)
        rwa [getD_set1 hil, if_neg (by omega)] at this
      have hfl : ∀ e, e ≠ i → l.getD e false = decide (e < i) := by
        intro e hne
        rcases Nat.lt_or_ge e i with h | h
        · rw [hall e h]; simp [h]
        · rw [Array.getD_eq_getD_getElem?, Array.getElem?_eq_none_iff.2 (by omega)]
          simp; omega
      rw [hfl e1 hN1, hfl e2 hN2] at x5
      have hx : x = ((AF.put (some u1) (x.tmps.getD u1 undef)).put (some u2) (x.tmps.getD u2 undef)) := by
        have e1' : x.tmps = ((AF.put (some u1) (x.tmps.getD u1 undef)).put (some u2) (x.tmps.getD u2 undef)).tmps := by
          refine Array.ext_getElem? fun t => ?_
          have hs3 : (AF.put (some u1) (x.tmps.getD u1 undef)).tmps.size = x.tmps.size := by rw [x2, ← hsz]; simp [Act.put]
          rw [put_at, hs3]
          by_cases c2 : u2 = t
          · subst c2
            rw [if_pos rfl]
            by_cases hlt : u2 < x.tmps.size
            · rw [if_pos hlt, actGet_of hlt]
            · rw [if_neg hlt, actGet_none hlt]
          · rw [if_neg c2, put_at, hsz, ← x2]
            by_cases c1 : u1 = t
            · subst c1
              rw [if_pos rfl]
              by_cases hlt : u1 < x.tmps.size
              · rw [if_pos hlt, actGet_of hlt]
              · rw [if_neg hlt, actGet_none hlt]
            · rw [if_neg c1]
              by_cases hc : ∃ j, j < i ∧ dstOf ops j = some t
              · obtain ⟨j, hj, hjt⟩ := hc
                have hoj : ops[j]? = some ops[j] := Array.getElem?_eq_getElem (by omega)
                have hCj := chain_at hH hj hoj
                have m1 : j ≠ e1 := fun e => by have := hCj.at1 e; rw [hjt] at this; exact c1 (Option.some.inj this).symm
                have m2 : j ≠ e2 := fun e => by have := hCj.at2 m1 e; rw [hjt] at this; exact c2 (Option.some.inj this).symm
                exact x3 j hj m1 m2 (hall j hj) t hjt
              · have hno : ∀ j, j < i → dstOf ops j ≠ some t := fun j hj e => hc ⟨j, hj, e⟩
                rw [x4 t (fun j hj e => absurd e (hno j hj)), hsame t (fun j hj _ _ => hno j hj)]
        have e2' : x.defers = ((AF.put (some u1) (x.tmps.getD u1 undef)).put (some u2) (x.tmps.getD u2 undef)).defers := by rw [x1, ← hdf]; rfl
        exact act_ext e1' e2'
      have ht := tail _ _ W x5
      rw [← hx] at ht
      refine wpOp_mono ?_ ht
      intro a' w' h
      exact ⟨hs2, hS2, Or.inl ⟨by rw [getD_set1 hil, if_pos rfl], h⟩⟩
  · rintro l x W ⟨hs, hS, hJ⟩ hall
    rcases hJ with ⟨_, j⟩ | ⟨j, _⟩
    · exact j
    · rw [hall N (by omega)] at j; cases j
end

end Go.Proofs.Ytkldlmbccdfjdaa

/-
  Move and curves of the reference.
-/
set_option linter.unusedSimpArgs false
set_option linter.unusedVariables false
namespace Go.Proofs.Ytkldlmbccdfjdaa
open Go.RowKit
theorem cv_open {b : Nat} {x y : Value} {W : World} {T : TypeId} (h : W.heap[b]? = some (.cells #[x, y] T)) : W.cell? ⟨b, 0, none⟩ = some x ∧ W.cell? ⟨b, 1, none⟩ = some y ∧ b < W.heap.size :=
  ⟨blk_cell h rfl, blk_cell h rfl, blk_lt h⟩
theorem cv_openF {b : Nat} {x y : Value} {W : World} {T : TypeId} (h : W.heap[b]? = some (.cells #[x, y] T)) : W.cell? ⟨b, 0, none⟩ = some x ∧ W.cell? ⟨b, 1, none⟩ = some y ∧ W.frozen? ⟨b, 0, none⟩ = false ∧ W.frozen? ⟨b, 1, none⟩ = false ∧ b < W.heap.size :=
  ⟨blk_cell h rfl, blk_cell h rfl, blk_free h, blk_free h, blk_lt h⟩
theorem wp_append_own_at {P : Program} (w : World) {o : Oper} {a : Act} {K : Act → World → Prop} {Q : Exit → Act → World → Prop} (s x : Operand) (t : TypeId)
    (ho : o.op = .call { callee := .builtin .append, args := #[s, x], argTypes := #[t, t] }) (base : Nat) (e : TypeId) (i : TypeInfo) (z : Value) (size bytes : Nat) (ht : P.underlying t = some (.slice e)) (hi : P.info? e = some i) (hz : i.zero = some z)
    (hsize : i.size = size) (hby : i.bytes = bytes) (hzs : z.cells.size = size) (hsz : 0 < size) (v : Value) (n : Nat) (xs : List Value) (hs : a.eval s = v) (hown : w.ownsRow base e size v n xs)
    (ad : Addr) (m c : Nat) (news : List Value) (hx : a.eval x = .slice (some ad) m c) (hl : news.length = m * size) (hnews : ∀ (j : Nat) (u : Value), news[j]? = some u → w.cell? (ad.add j) = some u) (h1 : ∀ u ∈ news, u.oneCell' = true)
    (h63 : n + m ≤ maxLen) (hbytes : (n + m) * bytes ≤ 140737488355328) (hbase : base ≤ w.heap.size)
    (h : ∀ v' w', w'.ownsRow base e size v' (n + m) (xs ++ news) → w.grownBy w' v.ownBlock → (v'.ownBlock = v.ownBlock ∨ v'.ownBlock = some w.heap.size) → K (a.put o.dst v') w') : o.wp P a w K Q := by
  obtain ⟨v', w', hr, h2, h3, h4, h5⟩ := run_append_own_at (P := P) w base t o.type e i z size bytes ht hi hz hsize hby hzs hsz v n xs hown ad m c news hl hnews h1 h63 hbytes hbase
  unfold Oper.wp execOp
  simp only [ho, resolve, invoke, builtin, Sem.run_bind, Sem.run_pure, Result.andThen_ok, List.map_toArray, List.map_cons, List.map_nil, hs, hx, hr]
  exact h v' w' h2 h3 h5
theorem one_cellI {W : World} {g : Nat} {x : Int} (h : W.cell? ⟨g, 0, none⟩ = some (.int .i64 x)) : ∀ (j : Nat) (u : Value), [Value.int .i64 x][j]? = some u → W.cell? ((⟨g, 0, none⟩ : Addr).add j) = some u := by
  intro j u hj
  match j, hj with
  | 0, hj => simp at hj; subst hj; simpa [Addr.add] using h
theorem bAl'' {W : World} {o : Obj} : Below W.heap.size W (W.alloc o) := (Below.refl _ _).alloc (Nat.le_refl _) _
/-- The state of a region that makes a number and appends it to a row of a curve. -/
structure StQ (w : World) (L : List (Nat × Obj)) (R C B : Nat) (cs : Array Value) (vr : Value) (rs : List Int) (vo : Value) (os : List Int) (x : Int) (b1 b2 : Bool) (v1 v2 : Value) (W : World) : Prop where
  hB : w.heap.size ≤ R ∧ R < B ∧ w.heap.size ≤ C ∧ C < B ∧ R ≠ C
  hL : ∀ p ∈ L, p.1 < B ∧ p.1 ≠ R ∧ p.1 ≠ C
  bel : Below w.heap.size w W
  sz : B ≤ W.heap.size
  rb : W.heap[R]? = some (.cells #[.slice none 0 0, .slice none 0 0] 24)
  cb : W.heap[C]? = some (.cells cs 24)
  sb : ∀ p ∈ L, W.heap[p.1]? = some p.2
  oo : IntOwn W B vo os
  far : Far vr vo
  own : b2 = false → IntOwn W B vr rs
  blt : b1 = true → b2 = false → ∃ g, v1 = .slice (some ⟨g, 0, none⟩) 1 1 ∧ W.cell? ⟨g, 0, none⟩ = some (.int .i64 x)
  app : b2 = true → IntOwn W B v2 (rs ++ [x]) ∧ Far v2 vo
section
variable {w W w2 : World} {L : List (Nat × Obj)} {R C B : Nat} {cs : Array Value} {vx vy vr vo v1 v2 : Value} {xs ys rs os : List Int} {x : Int} {b1 b2 : Bool}
theorem CuQ.startX (h : CuQ w L R C B vx vy xs ys W) : StQ w L R C B #[vx, vy] vx xs vy ys x false false v1 v2 W.drew :=
  ⟨h.hB, h.hL, h.bel.drew, h.sz, h.rb, h.cb, h.sb, h.oy, h.far, fun _ => h.ox, (fun e => by cases e), (fun e => by cases e)⟩
theorem CuQ.startY (h : CuQ w L R C B vx vy xs ys W) : StQ w L R C B #[vx, vy] vy ys vx xs x false false v1 v2 W.drew :=
  ⟨h.hB, h.hL, h.bel.drew, h.sz, h.rb, h.cb, h.sb, h.ox, h.far.symm, fun _ => h.oy, (fun e => by cases e), (fun e => by cases e)⟩
theorem StQ.step (h : StQ w L R C B cs vr rs vo os x b1 b2 v1 v2 W) (hb : Below W.heap.size W w2) : StQ w L R C B cs vr rs vo os x b1 b2 v1 v2 w2 :=
  ⟨h.hB, h.hL, bStep h.bel hb, Nat.le_trans h.sz hb.size, blk_step h.rb hb, blk_step h.cb hb, fun p hp => blk_step (h.sb p hp) hb, h.oo.step hb, h.far, fun e => (h.own e).step hb, fun e e' => by
    obtain ⟨g, q1, q2⟩ := h.blt e e'
    exact ⟨g, q1, cell_step q2 hb⟩, fun e => ⟨(h.app e).1.step hb, (h.app e).2⟩⟩
theorem StQ.built {T : TypeId} (h : StQ w L R C B cs vr rs vo os x false false v1 v2 W) : StQ w L R C B cs vr rs vo os x true false (.slice (some ⟨W.heap.size, 0, none⟩) 1 1) v2 (W.alloc (.cells #[.int .i64 x] T)) := by
  have k := h.step (bAl'' (o := .cells #[.int .i64 x] T))
  exact ⟨k.hB, k.hL, k.bel, k.sz, k.rb, k.cb, k.sb, k.oo, k.far, k.own, fun _ _ => ⟨_, rfl, blk_cell (blk_new W _) rfl⟩, (fun e => by cases e)⟩
theorem StQ.added {v' : Value} {w' : World} (h : StQ w L R C B cs vr rs vo os x true false v1 v2 W) (ho : w'.ownsRow B 2 1 v' (rs.length + 1) (flatI rs ++ [.int .i64 x])) (hg : W.grownBy w' vr.ownBlock) (hat : v'.ownBlock = vr.ownBlock ∨ v'.ownBlock = some W.heap.size) : StQ w L R C B cs vr rs vo os x true true v1 v' w' := by
  have hB := h.hB
  have hr := own_ge (h.own rfl)
  have hlt : ∀ b, b < B → some b ≠ vr.ownBlock := fun b hb e => by have := hr _ e.symm; omega
  refine ⟨h.hB, h.hL, h.bel.grown hg (by have := h.bel.size; omega) fun k hk => by have := hr k hk; omega, Nat.le_trans h.sz hg.size, blk_grown h.rb hg (hlt _ (by omega)), blk_grown h.cb hg (hlt _ (by omega)), fun p hp => blk_grown (h.sb p hp) hg (hlt _ (h.hL p hp).1), World.ownsRow.kept h.oo hg h.far.symm.ne, h.far, (fun e => by cases e), (fun _ e => by cases e), fun _ => ⟨IntOwn.more ho, fun k e1 e2 => ?_⟩⟩
  rcases hat with e | e
  · exact h.far k (e.symm.trans e1) e2
  · have := (h.oo.lt k e2).2
    rw [e] at e1
    simp at e1
    omega
theorem StQ.finX (h : StQ w L R C B #[vx, vy] vx xs vy ys x true true v1 v2 W) : CuQ w L R C B v2 vy (xs ++ [x]) ys (W.setCell ⟨C, 0, none⟩ v2) := by
  have hB := h.hB
  exact ⟨h.hB, h.hL, h.bel.setCell (by show w.heap.size ≤ C; omega) _, by simpa using h.sz, blk_set_other h.rb (by show R ≠ C; omega), (blk_set h.cb).trans rfl, fun p hp => blk_set_other (h.sb p hp) (by show p.1 ≠ C; exact (h.hL p hp).2.2), own_keep (h.app rfl).1 (by omega), own_keep h.oo (by omega), (h.app rfl).2⟩
theorem StQ.finY (h : StQ w L R C B #[vx, vy] vy ys vx xs x true true v1 v2 W) : CuQ w L R C B vx v2 xs (ys ++ [x]) (W.setCell ⟨C, 1, none⟩ v2) := by
  have hB := h.hB
  exact ⟨h.hB, h.hL, h.bel.setCell (by show w.heap.size ≤ C; omega) _, by simpa using h.sz, blk_set_other h.rb (by show R ≠ C; omega), (blk_set h.cb).trans rfl, fun p hp => blk_set_other (h.sb p hp) (by show p.1 ≠ C; exact (h.hL p hp).2.2), own_keep h.oo (by omega), own_keep (h.app rfl).1 (by omega), (h.app rfl).2.symm⟩
theorem StQ.lim (h : StQ w L R C B cs vr rs vo os x b1 b2 v1 v2 W) : w.heap.size ≤ R ∧ R < B ∧ C < B ∧ B ≤ W.heap.size := ⟨h.hB.1, h.hB.2.1, h.hB.2.2.2.1, h.sz⟩
theorem StQ.cell {a b : Value} (h : StQ w L R C B #[a, b] vr rs vo os x b1 b2 v1 v2 W) : W.cell? ⟨C, 0, none⟩ = some a ∧ W.cell? ⟨C, 1, none⟩ = some b ∧ W.frozen? ⟨C, 0, none⟩ = false ∧ W.frozen? ⟨C, 1, none⟩ = false ∧ C < W.heap.size :=
  ⟨blk_cell h.cb rfl, blk_cell h.cb rfl, blk_free h.cb, blk_free h.cb, blk_lt h.cb⟩
theorem StQ.row {v : Value} {b o : Nat} (h : StQ w L R C B cs vr rs vo os x b1 b2 v1 v2 W) (hc : w.cell? ⟨b, o, none⟩ = some v) : W.cell? ⟨b, o, none⟩ = some v := (h.bel.cell (p := ⟨b, o, none⟩) (cell_lt hc)).trans hc
theorem CuQ.row {v : Value} {b o : Nat} (h : CuQ w L R C B vx vy xs ys W) (hc : w.cell? ⟨b, o, none⟩ = some v) : W.cell? ⟨b, o, none⟩ = some v := (h.bel.cell (p := ⟨b, o, none⟩) (cell_lt hc)).trans hc
end
theorem take_more {xs : List Int} {k : Nat} (h : k < xs.length) : xs.take (k + 1) = xs.take k ++ [xs.getD k 0] := by
  rw [List.take_succ_eq_append_getElem h, List.getD_eq_getElem?_getD, List.getElem?_eq_getElem h]
  rfl
/-- A row of numbers, cell by cell, at its own addresses. -/
theorem int_cells {a : Option Addr} {xs : List Int} {w : World} (h : IntAt a xs w) (hn : xs ≠ []) : ∃ b o, a = some ⟨b, o, none⟩ ∧ ∀ k, k < xs.length → w.cell? ⟨b, o + k, none⟩ = some (.int .i64 (xs.getD k 0)) := by
  obtain ⟨b, o, rfl, h1, h2⟩ := h hn
  exact ⟨b, o, rfl, h2⟩
set_option maxHeartbeats 4000000 in
set_option maxRecDepth 20000 in
theorem RMove_any (a b : Option Addr) (ca cb : Nat) (xs ys : List Int) (dx dy : Int) (w : World) (hx : xs.length ≤ 1000000) (hy : ys.length ≤ 1000000) (hA : IntAt a xs w) (hB : IntAt b ys w) :
    Calls Try.prog 8 #[.agg #[.slice a xs.length ca, .slice b ys.length cb], .int .i64 dx, .int .i64 dy] w fun e w' => ∃ v u, e = .returned (.tuple #[.agg #[v, u], .int .i64 (moveS xs ys dx dy).2]) ∧ (IntRow v (moveS xs ys dx dy).1.1 w' ∧ IntRow u (moveS xs ys dx dy).1.2 w') ∧ Below w.heap.size w w' := by
  have CC := Lib.hid (fun w h1 h2 => RCheckCurve_any a b ca cb xs ys w hx hy h1 h2)
  have HA := Lib.hid hA
  have HB := Lib.hid hB
  clear hA hB
  have NIL : ∀ W : World, IntRow (.slice none 0 0) [] W ∧ IntRow (.slice none 0 0) [] W := fun W => ⟨⟨none, 0, rfl, fun h => absurd rfl h⟩, ⟨none, 0, rfl, fun h => absurd rfl h⟩⟩
  have HNIL := Lib.hid NIL
  clear NIL
  by_cases h1 : checkC xs ys = 0
  · by_cases h2 : isQ dx = true ∧ isQ dy = true
    · obtain ⟨⟨hpre, hris⟩, h64⟩ := checkC_good h1
      rw [h1] at CC
      obtain ⟨h3, h4⟩ := h2
      obtain ⟨p1, p2, p3, p4⟩ := hpre
      have hm : moveS xs ys dx dy = if moveOk xs ys dx dy xs.length then ((xs.map (· + dx), ys.map (· + dy)), 0) else (([], []), 4) := by
        unfold moveS; rw [if_neg (by simp [h1]), if_neg (fun h => h ⟨h3, h4⟩)]
      have HM := Lib.hid hm
      have HL := Lib.hid p1
      have hne : xs ≠ [] := fun e => by rw [e] at p2; simp at p2
      have hne2 : ys ≠ [] := fun e => by rw [e] at p1; rw [p1] at p2; simp at p2
      have HQ := Lib.hid (show (∀ k, -1099511627776 ≤ xs.getD k 0 ∧ xs.getD k 0 ≤ 1099511627776) ∧ (∀ k, -1099511627776 ≤ ys.getD k 0 ∧ ys.getD k 0 ≤ 1099511627776) from ⟨allQ_getD p3, allQ_getD p4⟩)
      have bx := (isQ_iff _).1 h3
      have by_ := (isQ_iff _).1 h4
      rw [← p1] at CC ⊢
      obtain ⟨ba, oa, rfl, fx⟩ := int_cells HA.out hne
      obtain ⟨bb, ob, rfl, fy⟩ := int_cells HB.out hne2
      have FX := Lib.hid fx
      have FY := Lib.hid fy
      generalize moveS xs ys dx dy = R' at *
      clear hm h1 p1 p3 p4 hris fx fy hne hne2
      obtain ⟨j0, hj, hy0, hy1, hy2⟩ := info_parts infoI
      have B0 := Lib.hid (blk_alloc (o := .cells #[.slice none 0 0, .slice none 0 0] 24) (blk_new w (.cells #[(.slice (some ⟨ba, oa, none⟩) xs.length ca), (.slice (some ⟨bb, ob, none⟩) xs.length cb)] 24)))
      have R0 := Lib.hid (blk_new (w.alloc (.cells #[(.slice (some ⟨ba, oa, none⟩) xs.length ca), (.slice (some ⟨bb, ob, none⟩) xs.length cb)] 24)) (.cells #[.slice none 0 0, .slice none 0 0] 24))
      rw [World.size_alloc] at R0
      go_enter Try.func8, Try.ntmps8
      go_wp2_with (first
        | (go_at_call 41; refine (CC.out _ (HA.out.step (by repeat' (first | exact Below.refl _ _ | assumption | apply bDrewN | apply bDrew | apply bAlloc | (refine bSet ?_ ?_ _) | (refine bStep ?_ (by assumption)) | omega | (simp <;> omega)))) (HB.out.step (by repeat' (first | exact Below.refl _ _ | assumption | apply bDrewN | apply bDrew | apply bAlloc | (refine bSet ?_ ?_ _) | (refine bStep ?_ (by assumption)) | omega | (simp <;> omega))))).mono ?_; rintro e w1 ⟨rfl, hb1⟩; replace B0 := Lib.hid (blk_step B0.out hb1); replace R0 := Lib.hid (blk_step R0.out hb1); obtain ⟨c0, c1, k0⟩ := cv_open B0.out; obtain ⟨c2, c3, c4, c5, k1⟩ := cv_openF R0.out)
        | (go_at_call 42; refine (Is_any _ _).mono ?_; rintro e w' ⟨rfl, rfl⟩))
      have P0 : CuQ w [(w.heap.size, .cells #[(.slice (some ⟨ba, oa, none⟩) xs.length ca), (.slice (some ⟨bb, ob, none⟩) xs.length cb)] 24)] (w.heap.size + 1) w1.heap.size (w1.heap.size + 1) (.slice none 0 0) (.slice none 0 0) [] [] (w1.alloc (.cells #[.slice none 0 0, .slice none 0 0] 24)) := by
        have hb0 : Below w.heap.size w w1 := (by repeat' (first | exact Below.refl _ _ | assumption | apply bDrewN | apply bDrew | apply bAlloc | (refine bSet ?_ ?_ _) | (refine bStep ?_ (by assumption)) | omega | (simp <;> omega)))
        have hs1 := hb0.size
        refine ⟨by omega, ?_, bAlloc hb0 _, by simp, blk_alloc R0.out, blk_new _ _, ?_, IntOwn.nil, IntOwn.nil, Far.nil⟩
        · intro p hp
          obtain rfl := List.mem_singleton.1 hp
          exact ⟨by show w.heap.size < _; omega, by show w.heap.size ≠ _; omega, by show w.heap.size ≠ _; omega⟩
        · intro p hp
          obtain rfl := List.mem_singleton.1 hp
          exact blk_alloc B0.out
      replace P0 := Lib.hid P0
      obtain ⟨C, hC⟩ : ∃ C, C = w1.heap.size := ⟨_, rfl⟩
      obtain ⟨R, hR⟩ : ∃ R, R = w.heap.size + 1 := ⟨_, rfl⟩
      obtain ⟨B, hBe⟩ : ∃ B, B = w1.heap.size + 1 := ⟨_, rfl⟩
      rw [← hC, ← hR, show C + 1 = B by omega] at P0
      rw [← hC, ← hR]
      clear B0 R0 c0 c1 c2 c3 c4 c5 CC hC hR hBe
      go_loopw [10] (fun i wr => ∃ (k : Nat) (vx vy : Value), k ≤ xs.length ∧ i = .int .i64 k ∧ Hid (moveOk xs ys dx dy k) ∧ Hid (CuQ w [(w.heap.size, .cells #[(.slice (some ⟨ba, oa, none⟩) xs.length ca), (.slice (some ⟨bb, ob, none⟩) xs.length cb)] 24)] R C B vx vy ((xs.take k).map (· + dx)) ((ys.take k).map (· + dy)) wr)) (fun i _ => xs.length - (intOf i).toNat)
      case atStart => exact ⟨0, _, _, by omega, rfl, (fun k hk => absurd hk (by omega)), Lib.hid (by simpa using P0.out)⟩
      case round =>
        obtain ⟨k, vx, vy, hk, rfl, HO, P0'⟩ := hrel
        clear P0
        have P0 := P0'
        clear P0'
        obtain ⟨r0, r1, r2, r3, r4, r5, r6, r7, r8, r9⟩ := P0.out.open_
        obtain ⟨c0, c1, k0⟩ := cv_open (P0.out.sb _ (List.mem_singleton.2 rfl))
        have i1 : (0 : Int) ≤ (k : Int) := by omega
        by_cases hlt : k < xs.length
        · have hlt2 : (k : Int) < xs.length := by omega
          have hly : k < ys.length := by rw [← HL.out]; exact hlt
          have HX := Lib.hid (FX.out k hlt)
          have HY := Lib.hid (FY.out k hly)
          have q1 := HQ.out.1 k
          have q2 := HQ.out.2 k
          have HT := Lib.hid (take_more hlt)
          have HT2 := Lib.hid (take_more hly)
          have HN := Lib.hid (show isQ (xs.getD k 0 + dx) = true → isQ (ys.getD k 0 + dy) = true → moveOk xs ys dx dy (k + 1) from fun a b j hj => by
            rcases Nat.lt_or_ge j k with h' | h'
            · exact HO j h'
            · obtain rfl : j = k := by omega
              exact ⟨a, b⟩)
          have HF := Lib.hid (show (isQ (xs.getD k 0 + dx) = false ∨ isQ (ys.getD k 0 + dy) = false) → R' = (([], []), 4) from fun h => by
            rw [HM.out, if_neg]
            intro hh
            have := hh k hlt
            rcases h with h | h
            · exact absurd (h.symm.trans this.1) (by decide)
            · exact absurd (h.symm.trans this.2) (by decide))
          have hln : Hid (((xs.take k).map (· + dx)).length ≤ 64 ∧ ((ys.take k).map (· + dy)).length ≤ 64) := by
            unfold Hid
            simp only [List.length_map, List.length_take]
            omega
          have s1 := P0.out.row HX.out
          have s2 := P0.out.row HY.out
          have HT3 := Lib.hid (show (xs.take (k + 1)).map (· + dx) = (xs.take k).map (· + dx) ++ [xs.getD k 0 + dx] by rw [HT.out]; simp)
          have HT4 := Lib.hid (show (ys.take (k + 1)).map (· + dy) = (ys.take k).map (· + dy) ++ [ys.getD k 0 + dy] by rw [HT2.out]; simp)
          clear HT HT2 HO HQ FX FY hly HM
          generalize (xs.take k).map (· + dx) = RX at *
          generalize (ys.take k).map (· + dy) = RY at *
          generalize xs.getD k 0 = x at *
          generalize ys.getD k 0 = y at *
          have a1 : IntKind.i64.wrap (x + dx) = x + dx := Go.IntWalk.i64_in _ ⟨by omega, by omega⟩
          have a2 : IntKind.i64.wrap (y + dy) = y + dy := Go.IntWalk.i64_in _ ⟨by omega, by omega⟩
          by_cases b1 : isQ (x + dx) = true
          · by_cases b2 : isQ (y + dy) = true
            · have HN2 := Lib.hid (HN.out b1 b2)
              clear HN HF
              go_upto_region 12 with (go_at_call 42; refine (Is_any _ _).mono ?_; rintro e w' ⟨rfl, rfl⟩)
              refine region_chain 12 9 10 63 64 16 [(54, (.pointer (some ⟨C, 0, none⟩))), (55, vx), (56, (.pointer (some ⟨w.heap.size, 0, none⟩))), (57, (.slice (some ⟨ba, oa, none⟩) xs.length ca)), (58, (.int .i64 (k : Int))), (59, (.pointer (some ⟨ba, oa + k, none⟩))), (60, (.int .i64 x)), (61, (.int .i64 dx)), (62, (.int .i64 (x + dx))), (65, (.pointer (some ⟨C, 0, none⟩)))] (StQ w [(w.heap.size, .cells #[(.slice (some ⟨ba, oa, none⟩) xs.length ca), (.slice (some ⟨bb, ob, none⟩) xs.length cb)] 24)] R C B #[vx, vy] vx RX vy RY (x + dx)) (by kernel_rfl) (by kernel_rfl) rfl (by kernel_rfl) (by kernel_rfl) (by kernel_rfl) (by decide) (by decide) (by decide) (fun _ => by simp) (fun _ => by simp) (by rfl) ?h0 ?reads ?eff1 ?eff2 ?tail
              case h0 =>
                intro v1 v2
                exact P0.out.startX
              case reads =>
                simp only [List.take_succ_cons, List.take_zero, AllRd]
                refine ⟨?_, ?_, ?_, ?_, ?_, ?_, ?_, ?_, ?_, ?_, ?_, ?_, trivial⟩
                · (intro hn1 hn2; clear hn1 hn2; refine ⟨54, (.pointer (some ⟨C, 0, none⟩)), rfl, by kernel_rfl, ?_⟩; intro b1 b2 v1 v2 W h; have HST := Lib.hid h; obtain ⟨g0, g1, g2, g3, g4⟩ := h.cell; obtain ⟨f0, f1, f2⟩ := cv_open (h.sb _ (List.mem_singleton.2 rfl)); have g5 := h.row HX.out; have hlim := h.lim; intro K Q hK; simp only [updAll, Act.put, List.setIfInBounds_toArray, List.set_cons_zero, List.set_cons_succ, List.set_nil] at hK ⊢; go_wp2_with (fail); all_goals (first | exact hK _ (by first | exact h | exact h.step (by repeat' (first | exact Below.refl _ _ | apply bDrewN | apply bDrew))) | exact (by first | exact h | exact h.step (by repeat' (first | exact Below.refl _ _ | apply bDrewN | apply bDrew)))))
                · (intro hn1 hn2; clear hn1 hn2; refine ⟨55, vx, rfl, by kernel_rfl, ?_⟩; intro b1 b2 v1 v2 W h; have HST := Lib.hid h; obtain ⟨g0, g1, g2, g3, g4⟩ := h.cell; obtain ⟨f0, f1, f2⟩ := cv_open (h.sb _ (List.mem_singleton.2 rfl)); have g5 := h.row HX.out; have hlim := h.lim; intro K Q hK; simp only [updAll, Act.put, List.setIfInBounds_toArray, List.set_cons_zero, List.set_cons_succ, List.set_nil] at hK ⊢; go_wp2_with (fail); all_goals (first | exact hK _ (by first | exact h | exact h.step (by repeat' (first | exact Below.refl _ _ | apply bDrewN | apply bDrew))) | exact (by first | exact h | exact h.step (by repeat' (first | exact Below.refl _ _ | apply bDrewN | apply bDrew)))))
                · (intro hn1 hn2; clear hn1 hn2; refine ⟨56, (.pointer (some ⟨w.heap.size, 0, none⟩)), rfl, by kernel_rfl, ?_⟩; intro b1 b2 v1 v2 W h; have HST := Lib.hid h; obtain ⟨g0, g1, g2, g3, g4⟩ := h.cell; obtain ⟨f0, f1, f2⟩ := cv_open (h.sb _ (List.mem_singleton.2 rfl)); have g5 := h.row HX.out; have hlim := h.lim; intro K Q hK; simp only [updAll, Act.put, List.setIfInBounds_toArray, List.set_cons_zero, List.set_cons_succ, List.set_nil] at hK ⊢; go_wp2_with (fail); all_goals (first | exact hK _ (by first | exact h | exact h.step (by repeat' (first | exact Below.refl _ _ | apply bDrewN | apply bDrew))) | exact (by first | exact h | exact h.step (by repeat' (first | exact Below.refl _ _ | apply bDrewN | apply bDrew)))))
                · (intro hn1 hn2; clear hn1 hn2; refine ⟨57, (.slice (some ⟨ba, oa, none⟩) xs.length ca), rfl, by kernel_rfl, ?_⟩; intro b1 b2 v1 v2 W h; have HST := Lib.hid h; obtain ⟨g0, g1, g2, g3, g4⟩ := h.cell; obtain ⟨f0, f1, f2⟩ := cv_open (h.sb _ (List.mem_singleton.2 rfl)); have g5 := h.row HX.out; have hlim := h.lim; intro K Q hK; simp only [updAll, Act.put, List.setIfInBounds_toArray, List.set_cons_zero, List.set_cons_succ, List.set_nil] at hK ⊢; go_wp2_with (fail); all_goals (first | exact hK _ (by first | exact h | exact h.step (by repeat' (first | exact Below.refl _ _ | apply bDrewN | apply bDrew))) | exact (by first | exact h | exact h.step (by repeat' (first | exact Below.refl _ _ | apply bDrewN | apply bDrew)))))
                · (intro hn1 hn2; clear hn1 hn2; refine ⟨58, (.int .i64 (k : Int)), rfl, by kernel_rfl, ?_⟩; intro b1 b2 v1 v2 W h; have HST := Lib.hid h; obtain ⟨g0, g1, g2, g3, g4⟩ := h.cell; obtain ⟨f0, f1, f2⟩ := cv_open (h.sb _ (List.mem_singleton.2 rfl)); have g5 := h.row HX.out; have hlim := h.lim; intro K Q hK; simp only [updAll, Act.put, List.setIfInBounds_toArray, List.set_cons_zero, List.set_cons_succ, List.set_nil] at hK ⊢; go_wp2_with (fail); all_goals (first | exact hK _ (by first | exact h | exact h.step (by repeat' (first | exact Below.refl _ _ | apply bDrewN | apply bDrew))) | exact (by first | exact h | exact h.step (by repeat' (first | exact Below.refl _ _ | apply bDrewN | apply bDrew)))))
                · (intro hn1 hn2; clear hn1 hn2; refine ⟨59, (.pointer (some ⟨ba, oa + k, none⟩)), rfl, by kernel_rfl, ?_⟩; intro b1 b2 v1 v2 W h; have HST := Lib.hid h; obtain ⟨g0, g1, g2, g3, g4⟩ := h.cell; obtain ⟨f0, f1, f2⟩ := cv_open (h.sb _ (List.mem_singleton.2 rfl)); have g5 := h.row HX.out; have hlim := h.lim; intro K Q hK; simp only [updAll, Act.put, List.setIfInBounds_toArray, List.set_cons_zero, List.set_cons_succ, List.set_nil] at hK ⊢; go_wp2_with (fail); all_goals (first | exact hK _ (by first | exact h | exact h.step (by repeat' (first | exact Below.refl _ _ | apply bDrewN | apply bDrew))) | exact (by first | exact h | exact h.step (by repeat' (first | exact Below.refl _ _ | apply bDrewN | apply bDrew)))))
                · (intro hn1 hn2; clear hn1 hn2; refine ⟨60, (.int .i64 x), rfl, by kernel_rfl, ?_⟩; intro b1 b2 v1 v2 W h; have HST := Lib.hid h; obtain ⟨g0, g1, g2, g3, g4⟩ := h.cell; obtain ⟨f0, f1, f2⟩ := cv_open (h.sb _ (List.mem_singleton.2 rfl)); have g5 := h.row HX.out; have hlim := h.lim; intro K Q hK; simp only [updAll, Act.put, List.setIfInBounds_toArray, List.set_cons_zero, List.set_cons_succ, List.set_nil] at hK ⊢; go_wp2_with (fail); all_goals (first | exact hK _ (by first | exact h | exact h.step (by repeat' (first | exact Below.refl _ _ | apply bDrewN | apply bDrew))) | exact (by first | exact h | exact h.step (by repeat' (first | exact Below.refl _ _ | apply bDrewN | apply bDrew)))))
                · (intro hn1 hn2; clear hn1 hn2; refine ⟨61, (.int .i64 dx), rfl, by kernel_rfl, ?_⟩; intro b1 b2 v1 v2 W h; have HST := Lib.hid h; obtain ⟨g0, g1, g2, g3, g4⟩ := h.cell; obtain ⟨f0, f1, f2⟩ := cv_open (h.sb _ (List.mem_singleton.2 rfl)); have g5 := h.row HX.out; have hlim := h.lim; intro K Q hK; simp only [updAll, Act.put, List.setIfInBounds_toArray, List.set_cons_zero, List.set_cons_succ, List.set_nil] at hK ⊢; go_wp2_with (fail); all_goals (first | exact hK _ (by first | exact h | exact h.step (by repeat' (first | exact Below.refl _ _ | apply bDrewN | apply bDrew))) | exact (by first | exact h | exact h.step (by repeat' (first | exact Below.refl _ _ | apply bDrewN | apply bDrew)))))
                · (intro hn1 hn2; clear hn1 hn2; refine ⟨62, (.int .i64 (x + dx)), rfl, by kernel_rfl, ?_⟩; intro b1 b2 v1 v2 W h; have HST := Lib.hid h; obtain ⟨g0, g1, g2, g3, g4⟩ := h.cell; obtain ⟨f0, f1, f2⟩ := cv_open (h.sb _ (List.mem_singleton.2 rfl)); have g5 := h.row HX.out; have hlim := h.lim; intro K Q hK; simp only [updAll, Act.put, List.setIfInBounds_toArray, List.set_cons_zero, List.set_cons_succ, List.set_nil] at hK ⊢; go_wp2_with (fail); all_goals (first | exact hK _ (by first | exact h | exact h.step (by repeat' (first | exact Below.refl _ _ | apply bDrewN | apply bDrew))) | exact (by first | exact h | exact h.step (by repeat' (first | exact Below.refl _ _ | apply bDrewN | apply bDrew)))))
                · intro hn1 hn2; exact absurd rfl hn1
                · intro hn1 hn2; exact absurd rfl hn2
                · (intro hn1 hn2; clear hn1 hn2; refine ⟨65, (.pointer (some ⟨C, 0, none⟩)), rfl, by kernel_rfl, ?_⟩; intro b1 b2 v1 v2 W h; have HST := Lib.hid h; obtain ⟨g0, g1, g2, g3, g4⟩ := h.cell; obtain ⟨f0, f1, f2⟩ := cv_open (h.sb _ (List.mem_singleton.2 rfl)); have g5 := h.row HX.out; have hlim := h.lim; intro K Q hK; simp only [updAll, Act.put, List.setIfInBounds_toArray, List.set_cons_zero, List.set_cons_succ, List.set_nil] at hK ⊢; go_wp2_with (fail); all_goals (first | exact hK _ (by first | exact h | exact h.step (by repeat' (first | exact Below.refl _ _ | apply bDrewN | apply bDrew))) | exact (by first | exact h | exact h.step (by repeat' (first | exact Below.refl _ _ | apply bDrewN | apply bDrew)))))
              case eff1 =>
                intro o ho
                obtain rfl := Option.some.inj (show some _ = some o from ho)
                intro v1 v2 W h; have HST := Lib.hid h; obtain ⟨g0, g1, g2, g3, g4⟩ := h.cell; obtain ⟨f0, f1, f2⟩ := cv_open (h.sb _ (List.mem_singleton.2 rfl)); have g5 := h.row HX.out; have hlim := h.lim; intro K Q hK; simp only [updAll, Act.put, List.setIfInBounds_toArray, List.set_cons_zero, List.set_cons_succ, List.set_nil] at hK ⊢
                go_wp2_with fail
                first | exact hK _ _ h.built | exact h.built
              case eff2 =>
                intro o ho
                obtain rfl := Option.some.inj (show some _ = some o from ho)
                intro v1 v2 W h; have HST := Lib.hid h; obtain ⟨g0, g1, g2, g3, g4⟩ := h.cell; obtain ⟨f0, f1, f2⟩ := cv_open (h.sb _ (List.mem_singleton.2 rfl)); have g5 := h.row HX.out; have hlim := h.lim; intro K Q hK; simp only [updAll, Act.put, List.setIfInBounds_toArray, List.set_cons_zero, List.set_cons_succ, List.set_nil] at hK ⊢
                obtain ⟨g, rfl, hg⟩ := h.blt rfl rfl
                refine wp_append_own_at _ (.tmp 55) (.tmp 63) 22 rfl B 2 j0 (.int .i64 0) 1 8 Try.underlying22 hj hy0 hy1 hy2 rfl (by decide) _ _ _ rfl (h.own rfl) ⟨g, 0, none⟩ 1 1 [.int .i64 _] rfl rfl (one_cellI hg) (one_one _) (by have := hln.out; unfold maxLen; omega) (by have := hln.out; omega) (by have := h.lim; omega) ?_
                intro v' w' hown' hgrow hat
                first | exact hK _ _ (h.added hown' hgrow hat) | exact h.added hown' hgrow hat
              case tail =>
                intro v1 v2 W h; have HST := Lib.hid h; obtain ⟨g0, g1, g2, g3, g4⟩ := h.cell; obtain ⟨f0, f1, f2⟩ := cv_open (h.sb _ (List.mem_singleton.2 rfl)); have g5 := h.row HX.out; have hlim := h.lim
                refine wpOp_plain rfl rfl ?_
                simp only [updAll, Act.put, List.setIfInBounds_toArray, List.set_cons_zero, List.set_cons_succ, List.set_nil]
                obtain ⟨gv, cv, rfl, -, -⟩ := (h.app rfl).1.blk (by simp)
                go_upto_region 13 with fail
                clear P0
                have P0 := h.finX
                simp only [List.length_append, List.length_singleton] at P0
                replace P0 := Lib.hid P0
                clear h HST
                refine region_chain 12 9 10 75 76 16 [(66, (.pointer (some ⟨C, 1, none⟩))), (67, vy), (68, (.pointer (some ⟨w.heap.size, 1, none⟩))), (69, (.slice (some ⟨bb, ob, none⟩) xs.length cb)), (70, (.int .i64 (k : Int))), (71, (.pointer (some ⟨bb, ob + k, none⟩))), (72, (.int .i64 y)), (73, (.int .i64 dy)), (74, (.int .i64 (y + dy))), (77, (.pointer (some ⟨C, 1, none⟩)))] (StQ w [(w.heap.size, .cells #[(.slice (some ⟨ba, oa, none⟩) xs.length ca), (.slice (some ⟨bb, ob, none⟩) xs.length cb)] 24)] R C B #[(.slice (some ⟨gv, 0, none⟩) (RX.length + 1) cv), vy] vy RY (.slice (some ⟨gv, 0, none⟩) (RX.length + 1) cv) (RX ++ [x + dx]) (y + dy)) (by kernel_rfl) (by kernel_rfl) rfl (by kernel_rfl) (by kernel_rfl) (by kernel_rfl) (by decide) (by decide) (by decide) (fun _ => by simp) (fun _ => by simp) (by rfl) ?h0 ?reads ?eff1 ?eff2 ?tail
                case h0 =>
                  intro v1 v2
                  exact P0.out.startY
                case reads =>
                  simp only [List.take_succ_cons, List.take_zero, AllRd]
                  refine ⟨?_, ?_, ?_, ?_, ?_, ?_, ?_, ?_, ?_, ?_, ?_, ?_, trivial⟩
                  · (intro hn1 hn2; clear hn1 hn2; refine ⟨66, (.pointer (some ⟨C, 1, none⟩)), rfl, by kernel_rfl, ?_⟩; intro b1 b2 v1 v2 W h; have HST := Lib.hid h; obtain ⟨g0, g1, g2, g3, g4⟩ := h.cell; obtain ⟨f0, f1, f2⟩ := cv_open (h.sb _ (List.mem_singleton.2 rfl)); have g5 := h.row HY.out; have hlim := h.lim; intro K Q hK; simp only [updAll, Act.put, List.setIfInBounds_toArray, List.set_cons_zero, List.set_cons_succ, List.set_nil] at hK ⊢; go_wp2_with (fail); all_goals (first | exact hK _ (by first | exact h | exact h.step (by repeat' (first | exact Below.refl _ _ | apply bDrewN | apply bDrew))) | exact (by first | exact h | exact h.step (by repeat' (first | exact Below.refl _ _ | apply bDrewN | apply bDrew)))))
                  · (intro hn1 hn2; clear hn1 hn2; refine ⟨67, vy, rfl, by kernel_rfl, ?_⟩; intro b1 b2 v1 v2 W h; have HST := Lib.hid h; obtain ⟨g0, g1, g2, g3, g4⟩ := h.cell; obtain ⟨f0, f1, f2⟩ := cv_open (h.sb _ (List.mem_singleton.2 rfl)); have g5 := h.row HY.out; have hlim := h.lim; intro K Q hK; simp only [updAll, Act.put, List.setIfInBounds_toArray, List.set_cons_zero, List.set_cons_succ, List.set_nil] at hK ⊢; go_wp2_with (fail); all_goals (first | exact hK _ (by first | exact h | exact h.step (by repeat' (first | exact Below.refl _ _ | apply bDrewN | apply bDrew))) | exact (by first | exact h | exact h.step (by repeat' (first | exact Below.refl _ _ | apply bDrewN | apply bDrew)))))
                  · (intro hn1 hn2; clear hn1 hn2; refine ⟨68, (.pointer (some ⟨w.heap.size, 1, none⟩)), rfl, by kernel_rfl, ?_⟩; intro b1 b2 v1 v2 W h; have HST := Lib.hid h; obtain ⟨g0, g1, g2, g3, g4⟩ := h.cell; obtain ⟨f0, f1, f2⟩ := cv_open (h.sb _ (List.mem_singleton.2 rfl)); have g5 := h.row HY.out; have hlim := h.lim; intro K Q hK; simp only [updAll, Act.put, List.setIfInBounds_toArray, List.set_cons_zero, List.set_cons_succ, List.set_nil] at hK ⊢; go_wp2_with (fail); all_goals (first | exact hK _ (by first | exact h | exact h.step (by repeat' (first | exact Below.refl _ _ | apply bDrewN | apply bDrew))) | exact (by first | exact h | exact h.step (by repeat' (first | exact Below.refl _ _ | apply bDrewN | apply bDrew)))))
                  · (intro hn1 hn2; clear hn1 hn2; refine ⟨69, (.slice (some ⟨bb, ob, none⟩) xs.length cb), rfl, by kernel_rfl, ?_⟩; intro b1 b2 v1 v2 W h; have HST := Lib.hid h; obtain ⟨g0, g1, g2, g3, g4⟩ := h.cell; obtain ⟨f0, f1, f2⟩ := cv_open (h.sb _ (List.mem_singleton.2 rfl)); have g5 := h.row HY.out; have hlim := h.lim; intro K Q hK; simp only [updAll, Act.put, List.setIfInBounds_toArray, List.set_cons_zero, List.set_cons_succ, List.set_nil] at hK ⊢; go_wp2_with (fail); all_goals (first | exact hK _ (by first | exact h | exact h.step (by repeat' (first | exact Below.refl _ _ | apply bDrewN | apply bDrew))) | exact (by first | exact h | exact h.step (by repeat' (first | exact Below.refl _ _ | apply bDrewN | apply bDrew)))))
                  · (intro hn1 hn2; clear hn1 hn2; refine ⟨70, (.int .i64 (k : Int)), rfl, by kernel_rfl, ?_⟩; intro b1 b2 v1 v2 W h; have HST := Lib.hid h; obtain ⟨g0, g1, g2, g3, g4⟩ := h.cell; obtain ⟨f0, f1, f2⟩ := cv_open (h.sb _ (List.mem_singleton.2 rfl)); have g5 := h.row HY.out; have hlim := h.lim; intro K Q hK; simp only [updAll, Act.put, List.setIfInBounds_toArray, List.set_cons_zero, List.set_cons_succ, List.set_nil] at hK ⊢; go_wp2_with (fail); all_goals (first | exact hK _ (by first | exact h | exact h.step (by repeat' (first | exact Below.refl _ _ | apply bDrewN | apply bDrew))) | exact (by first | exact h | exact h.step (by repeat' (first | exact Below.refl _ _ | apply bDrewN | apply bDrew)))))
                  · (intro hn1 hn2; clear hn1 hn2; refine ⟨71, (.pointer (some ⟨bb, ob + k, none⟩)), rfl, by kernel_rfl, ?_⟩; intro b1 b2 v1 v2 W h; have HST := Lib.hid h; obtain ⟨g0, g1, g2, g3, g4⟩ := h.cell; obtain ⟨f0, f1, f2⟩ := cv_open (h.sb _ (List.mem_singleton.2 rfl)); have g5 := h.row HY.out; have hlim := h.lim; intro K Q hK; simp only [updAll, Act.put, List.setIfInBounds_toArray, List.set_cons_zero, List.set_cons_succ, List.set_nil] at hK ⊢; go_wp2_with (fail); all_goals (first | exact hK _ (by first | exact h | exact h.step (by repeat' (first | exact Below.refl _ _ | apply bDrewN | apply bDrew))) | exact (by first | exact h | exact h.step (by repeat' (first | exact Below.refl _ _ | apply bDrewN | apply bDrew)))))
                  · (intro hn1 hn2; clear hn1 hn2; refine ⟨72, (.int .i64 y), rfl, by kernel_rfl, ?_⟩; intro b1 b2 v1 v2 W h; have HST := Lib.hid h; obtain ⟨g0, g1, g2, g3, g4⟩ := h.cell; obtain ⟨f0, f1, f2⟩ := cv_open (h.sb _ (List.mem_singleton.2 rfl)); have g5 := h.row HY.out; have hlim := h.lim; intro K Q hK; simp only [updAll, Act.put, List.setIfInBounds_toArray, List.set_cons_zero, List.set_cons_succ, List.set_nil] at hK ⊢; go_wp2_with (fail); all_goals (first | exact hK _ (by first | exact h | exact h.step (by repeat' (first | exact Below.refl _ _ | apply bDrewN | apply bDrew))) | exact (by first | exact h | exact h.step (by repeat' (first | exact Below.refl _ _ | apply bDrewN | apply bDrew)))))
                  · (intro hn1 hn2; clear hn1 hn2; refine ⟨73, (.int .i64 dy), rfl, by kernel_rfl, ?_⟩; intro b1 b2 v1 v2 W h; have HST := Lib.hid h; obtain ⟨g0, g1, g2, g3, g4⟩ := h.cell; obtain ⟨f0, f1, f2⟩ := cv_open (h.sb _ (List.mem_singleton.2 rfl)); have g5 := h.row HY.out; have hlim := h.lim; intro K Q hK; simp only [updAll, Act.put, List.setIfInBounds_toArray, List.set_cons_zero, List.set_cons_succ, List.set_nil] at hK ⊢; go_wp2_with (fail); all_goals (first | exact hK _ (by first | exact h | exact h.step (by repeat' (first | exact Below.refl _ _ | apply bDrewN | apply bDrew))) | exact (by first | exact h | exact h.step (by repeat' (first | exact Below.refl _ _ | apply bDrewN | apply bDrew)))))
                  · (intro hn1 hn2; clear hn1 hn2; refine ⟨74, (.int .i64 (y + dy)), rfl, by kernel_rfl, ?_⟩; intro b1 b2 v1 v2 W h; have HST := Lib.hid h; obtain ⟨g0, g1, g2, g3, g4⟩ := h.cell; obtain ⟨f0, f1, f2⟩ := cv_open (h.sb _ (List.mem_singleton.2 rfl)); have g5 := h.row HY.out; have hlim := h.lim; intro K Q hK; simp only [updAll, Act.put, List.setIfInBounds_toArray, List.set_cons_zero, List.set_cons_succ, List.set_nil] at hK ⊢; go_wp2_with (fail); all_goals (first | exact hK _ (by first | exact h | exact h.step (by repeat' (first | exact Below.refl _ _ | apply bDrewN | apply bDrew))) | exact (by first | exact h | exact h.step (by repeat' (first | exact Below.refl _ _ | apply bDrewN | apply bDrew)))))
                  · intro hn1 hn2; exact absurd rfl hn1
                  · intro hn1 hn2; exact absurd rfl hn2
                  · (intro hn1 hn2; clear hn1 hn2; refine ⟨77, (.pointer (some ⟨C, 1, none⟩)), rfl, by kernel_rfl, ?_⟩; intro b1 b2 v1 v2 W h; have HST := Lib.hid h; obtain ⟨g0, g1, g2, g3, g4⟩ := h.cell; obtain ⟨f0, f1, f2⟩ := cv_open (h.sb _ (List.mem_singleton.2 rfl)); have g5 := h.row HY.out; have hlim := h.lim; intro K Q hK; simp only [updAll, Act.put, List.setIfInBounds_toArray, List.set_cons_zero, List.set_cons_succ, List.set_nil] at hK ⊢; go_wp2_with (fail); all_goals (first | exact hK _ (by first | exact h | exact h.step (by repeat' (first | exact Below.refl _ _ | apply bDrewN | apply bDrew))) | exact (by first | exact h | exact h.step (by repeat' (first | exact Below.refl _ _ | apply bDrewN | apply bDrew)))))
                case eff1 =>
                  intro o ho
                  obtain rfl := Option.some.inj (show some _ = some o from ho)
                  intro v1 v2 W h; have HST := Lib.hid h; obtain ⟨g0, g1, g2, g3, g4⟩ := h.cell; obtain ⟨f0, f1, f2⟩ := cv_open (h.sb _ (List.mem_singleton.2 rfl)); have g5 := h.row HY.out; have hlim := h.lim; intro K Q hK; simp only [updAll, Act.put, List.setIfInBounds_toArray, List.set_cons_zero, List.set_cons_succ, List.set_nil] at hK ⊢
                  go_wp2_with fail
                  first | exact hK _ _ h.built | exact h.built
                case eff2 =>
                  intro o ho
                  obtain rfl := Option.some.inj (show some _ = some o from ho)
                  intro v1 v2 W h; have HST := Lib.hid h; obtain ⟨g0, g1, g2, g3, g4⟩ := h.cell; obtain ⟨f0, f1, f2⟩ := cv_open (h.sb _ (List.mem_singleton.2 rfl)); have g5 := h.row HY.out; have hlim := h.lim; intro K Q hK; simp only [updAll, Act.put, List.setIfInBounds_toArray, List.set_cons_zero, List.set_cons_succ, List.set_nil] at hK ⊢
                  obtain ⟨g, rfl, hg⟩ := h.blt rfl rfl
                  refine wp_append_own_at _ (.tmp 67) (.tmp 75) 22 rfl B 2 j0 (.int .i64 0) 1 8 Try.underlying22 hj hy0 hy1 hy2 rfl (by decide) _ _ _ rfl (h.own rfl) ⟨g, 0, none⟩ 1 1 [.int .i64 _] rfl rfl (one_cellI hg) (one_one _) (by have := hln.out; unfold maxLen; omega) (by have := hln.out; omega) (by have := h.lim; omega) ?_
                  intro v' w' hown' hgrow hat
                  first | exact hK _ _ (h.added hown' hgrow hat) | exact h.added hown' hgrow hat
                case tail =>
                  intro v1 v2 W h; have HST := Lib.hid h; obtain ⟨g0, g1, g2, g3, g4⟩ := h.cell; obtain ⟨f0, f1, f2⟩ := cv_open (h.sb _ (List.mem_singleton.2 rfl)); have g5 := h.row HY.out; have hlim := h.lim
                  refine wpOp_plain rfl rfl ?_
                  simp only [updAll, Act.put, List.setIfInBounds_toArray, List.set_cons_zero, List.set_cons_succ, List.set_nil]
                  obtain ⟨gv, cv, rfl, -, -⟩ := (h.app rfl).1.blk (by simp)
                  go_wp2_with fail
                  go_roundw
                  case rel => exact ⟨k + 1, _, _, by omega, by push_cast; rfl, HN2.out, by unfold Hid; rw [HT3.out, HT4.out]; (have q := h.finY); simp only [List.length_append, List.length_singleton] at q; exact q⟩
                  case measure => (simp [intOf]; omega)
            · obtain b2 : isQ (y + dy) = false := by simpa using b2
              have hR := HF.out (Or.inr b2)
              subst hR
              clear HN HF HX HY HT3 HT4
              go_wp2_with (go_at_call 42; refine (Is_any _ _).mono ?_; rintro e w' ⟨rfl, rfl⟩)
              exact bodyPost_ret (v := .tuple #[.agg #[.slice none 0 0, .slice none 0 0], .int .i64 4]) (by simp only [results, Try.results8]; go_simp) rfl ⟨_, _, rfl, HNIL.out _, bSet (bSet P0.out.bel (by have := P0.out.hB; show w.heap.size ≤ R; omega) _) (by have := P0.out.hB; show w.heap.size ≤ R; omega) _⟩
          · obtain b1 : isQ (x + dx) = false := by simpa using b1
            have hR := HF.out (Or.inl b1)
            subst hR
            clear HN HF HX HY HT3 HT4
            go_wp2_with (go_at_call 42; refine (Is_any _ _).mono ?_; rintro e w' ⟨rfl, rfl⟩)
            exact bodyPost_ret (v := .tuple #[.agg #[.slice none 0 0, .slice none 0 0], .int .i64 4]) (by simp only [results, Try.results8]; go_simp) rfl ⟨_, _, rfl, HNIL.out _, bSet (bSet P0.out.bel (by have := P0.out.hB; show w.heap.size ≤ R; omega) _) (by have := P0.out.hB; show w.heap.size ≤ R; omega) _⟩
        · have hR : R' = (((xs.take k).map (· + dx), (ys.take k).map (· + dy)), 0) := by
            rw [HM.out, if_pos (show moveOk xs ys dx dy xs.length from fun j hj => HO j (by omega)), List.take_of_length_le (by omega), List.take_of_length_le (by have := HL.out; omega)]
          generalize (xs.take k).map (· + dx) = RX at *
          generalize (ys.take k).map (· + dy) = RY at *
          subst hR
          have hle : ¬ (k : Int) < xs.length := by omega
          obtain ⟨a1, d1, rfl, -⟩ := P0.out.ox.row
          obtain ⟨a2, d2, rfl, -⟩ := P0.out.oy.row
          clear HO HQ FX FY HM
          go_wp2_with fail
          exact bodyPost_ret (v := .tuple #[.agg #[.slice a1 RX.length d1, .slice a2 RY.length d2], .int .i64 0]) (by simp only [results, Try.results8]; go_simp) rfl ⟨_, _, rfl, P0.out.done, bSet (bSet P0.out.bel (by have := P0.out.hB; show w.heap.size ≤ R; omega) _) (by have := P0.out.hB; show w.heap.size ≤ R; omega) _⟩
    · have hm : moveS xs ys dx dy = (([], []), 2) := by unfold moveS; rw [if_neg (by simp [h1]), if_pos h2]
      rw [hm]
      rw [h1] at CC
      have h3 : isQ dx = false ∨ (isQ dx = true ∧ isQ dy = false) := by
        cases h : isQ dx <;> cases h' : isQ dy <;> simp [h, h'] at h2 ⊢
      clear hm h1 h2 hx hy
      rcases h3 with h3 | ⟨h3, h4⟩
      all_goals
        go_enter Try.func8, Try.ntmps8
        go_wp2_with (first | (go_at_call 41; refine (CC.out _ (HA.out.step (by repeat' (first | exact Below.refl _ _ | assumption | apply bDrewN | apply bDrew | apply bAlloc | (refine bSet ?_ ?_ _) | (refine bStep ?_ (by assumption)) | omega | (simp <;> omega)))) (HB.out.step (by repeat' (first | exact Below.refl _ _ | assumption | apply bDrewN | apply bDrew | apply bAlloc | (refine bSet ?_ ?_ _) | (refine bStep ?_ (by assumption)) | omega | (simp <;> omega))))).mono ?_; rintro e w1 ⟨rfl, hb1⟩; obtain ⟨hcw1, hfw1⟩ := bcell hb1; have hzw1 := Below.size hb1; (try simp at hzw1); have hzw10 : w.heap.size < w1.heap.size := (by omega); have hzw11 : w.heap.size + 1 < w1.heap.size := (by omega)) | (go_at_call 42; refine (Is_any _ _).mono ?_; rintro e w' ⟨rfl, rfl⟩))
        exact bodyPost_ret (v := .tuple #[.agg #[.slice none 0 0, .slice none 0 0], .int .i64 2]) (by simp only [results, Try.results8]; go_simp) rfl ⟨_, _, rfl, HNIL.out _, (by repeat' (first | exact Below.refl _ _ | assumption | apply bDrewN | apply bDrew | apply bAlloc | (refine bSet ?_ ?_ _) | (refine bStep ?_ (by assumption)) | omega | (simp <;> omega)))⟩
  · have hm : moveS xs ys dx dy = (([], []), checkC xs ys) := if_pos h1
    rw [hm]
    generalize checkC xs ys = r at *
    clear hm hx hy
    go_enter Try.func8, Try.ntmps8
    go_wp2_with (go_at_call 41; refine (CC.out _ (HA.out.step (by repeat' (first | exact Below.refl _ _ | assumption | apply bDrewN | apply bDrew | apply bAlloc | (refine bSet ?_ ?_ _) | (refine bStep ?_ (by assumption)) | omega | (simp <;> omega)))) (HB.out.step (by repeat' (first | exact Below.refl _ _ | assumption | apply bDrewN | apply bDrew | apply bAlloc | (refine bSet ?_ ?_ _) | (refine bStep ?_ (by assumption)) | omega | (simp <;> omega))))).mono ?_; rintro e w1 ⟨rfl, hb1⟩; obtain ⟨hcw1, hfw1⟩ := bcell hb1; have hzw1 := Below.size hb1; (try simp at hzw1); have hzw10 : w.heap.size < w1.heap.size := (by omega); have hzw11 : w.heap.size + 1 < w1.heap.size := (by omega))
    exact bodyPost_ret (v := .tuple #[.agg #[.slice none 0 0, .slice none 0 0], .int .i64 r]) (by simp only [results, Try.results8]; go_simp) rfl ⟨_, _, rfl, HNIL.out _, (by repeat' (first | exact Below.refl _ _ | assumption | apply bDrewN | apply bDrew | apply bAlloc | (refine bSet ?_ ?_ _) | (refine bStep ?_ (by assumption)) | omega | (simp <;> omega)))⟩

end Go.Proofs.Ytkldlmbccdfjdaa

/-
  The reference's check, CheckBox, BoxHas, BoxInside, boxes.
-/
set_option linter.unusedSimpArgs false
set_option linter.unusedVariables false
namespace Go.Proofs.Ytkldlmbccdfjdaa
open Go.RowKit
theorem getD_at {α : Type} {l : List α} {k : Nat} {d : α} (h : k < l.length) : l.getD k d = l[k] := by simp [List.getD, List.getElem?_eq_getElem h]
theorem all_ok {l : List (Int × Int)} : l.all okS = true ↔ ∀ k, k < l.length → okS (l.getD k (0, 0)) = true := by
  rw [List.all_eq_true]
  constructor
  · intro h k hk
    rw [getD_at hk]
    exact h _ (List.getElem_mem hk)
  · intro h s hs
    obtain ⟨k, hk, rfl⟩ := List.getElem_of_mem hs
    have := h k hk
    rwa [getD_at hk] at this
set_option maxHeartbeats 2000000 in
set_option maxRecDepth 20000 in
theorem Rcheck_row (v : Value) (l : List (Int × Int)) (w : World) (hl : l.length ≤ 9223372036854775807) (hv : SpRow v l w) :
    Calls Try.prog 60 #[v] w fun e w' => e = .returned (.int .i64 (if l.all okS = true then 0 else 2)) ∧ Below w.heap.size w w' := by
  obtain ⟨a, ca, rfl, hA⟩ := hv
  have hg1 : Hid ((∀ k, k < l.length → okS (l.getD k (0, 0)) = true) → (if l.all okS = true then (0 : Int) else 2) = 0) := fun h => if_pos (all_ok.2 h)
  have hg2 : Hid (∀ k, k < l.length → okS (l.getD k (0, 0)) = false → (if l.all okS = true then (0 : Int) else 2) = 2) := fun k hk h => if_neg fun h' => by
    have := all_ok.1 h' k hk
    rw [h] at this
    cases this
  generalize (if l.all okS = true then (0 : Int) else 2) = r at *
  have HA := Lib.hid hA
  clear hA
  go_enter Try.func60, Try.ntmps60
  go_wp2_with fail
  go_loopw [3] (fun i wr => ∃ k : Nat, k ≤ l.length ∧ i = .int .i64 k ∧ Hid (Below w.heap.size w wr) ∧ Hid (∀ j, j < k → okS (l.getD j (0, 0)) = true)) (fun i _ => l.length - (intOf i).toNat)
  case atStart => exact ⟨0, by omega, rfl, Below.refl _ _, fun j hj => by omega⟩
  case round =>
    obtain ⟨k, hk, rfl, HB, HI⟩ := hrel
    by_cases hlt : k < l.length
    · obtain ⟨bu, ou, rfl, hc⟩ := (HA.out.step HB.out) (fun h => by rw [h] at hlt; simp at hlt)
      obtain ⟨q1, q2⟩ := hc.at_ hlt
      have hgk : l.getD k (0, 0) = l[k] := getD_at hlt
      have hlt2 : (k : Int) < l.length := by omega
      have HI2 : Hid (okS l[k] = true → ∀ j, j < k + 1 → okS (l.getD j (0, 0)) = true) := by
        intro h j hj
        rcases Nat.lt_or_ge j k with h' | h'
        · exact HI.out j h'
        · obtain rfl : j = k := by omega
          rw [hgk]; exact h
      have HN2 : Hid (okS l[k] = false → r = 2) := fun h => hg2.out k hlt (by rw [hgk]; exact h)
      clear hc hgk HI hg1 hg2
      generalize l[k] = x at *
      obtain ⟨x1, x2⟩ := x
      dsimp only at *
      cases hx : okS (x1, x2)
      · have hr := HN2.out hx
        subst hr
        clear HI2 HN2
        have hb := HB.out
        go_wp2_with (go_at_call 86; refine (Valid_any _ _ _).mono ?_; rw [hx]; rintro e w1 ⟨rfl, hb1⟩)
        go_ret
        exact ⟨rfl, (by repeat' (first | exact Below.refl _ _ | assumption | apply bDrewN | apply bDrew | apply bAlloc | (refine bSet ?_ ?_ _) | (refine bStep ?_ (by assumption)) | omega | (simp <;> omega)))⟩
      · have HI3 := Lib.hid (HI2.out hx)
        clear HI2 HN2
        have hb := HB.out
        go_wp2_with (go_at_call 86; refine (Valid_any _ _ _).mono ?_; rw [hx]; rintro e w1 ⟨rfl, hb1⟩)
        go_roundw
        case rel => exact ⟨k + 1, by omega, by push_cast; rfl, bStep hb hb1, HI3.out⟩
        case measure => (simp [intOf]; omega)
    · have hr := hg1.out (fun j hj => HI.out j (by omega))
      subst hr
      have hle : ¬ (k : Int) < l.length := by omega
      have hb := HB.out
      go_wp2_with fail
      go_ret
      exact ⟨rfl, (by repeat' (first | exact Below.refl _ _ | assumption | apply bDrewN | apply bDrew | apply bAlloc | (refine bSet ?_ ?_ _) | (refine bStep ?_ (by assumption)) | omega | (simp <;> omega)))⟩
set_option maxHeartbeats 1000000 in
theorem RCheckBox_row (v : Value) (l : List (Int × Int)) (w : World) (hl : l.length ≤ 9223372036854775807) (hv : SpRow v l w) :
    Calls Try.prog 20 #[v] w fun e w' => e = .returned (.int .i64 (checkB l)) ∧ Below w.heap.size w w' := by
  have C := Lib.hid (fun w h => Rcheck_row v l w hl h)
  have HV := Lib.hid hv
  obtain ⟨a, ca, rfl, -⟩ := hv
  unfold checkB
  by_cases h : 8 < l.length
  · rw [if_pos h]
    have h' : (8 : Int) < l.length := by omega
    clear h
    go_enter Try.func20, Try.ntmps20
    go_wp2_with fail
    go_ret
    exact ⟨rfl, (by repeat' (first | exact Below.refl _ _ | assumption | apply bDrewN | apply bDrew | apply bAlloc | (refine bSet ?_ ?_ _) | (refine bStep ?_ (by assumption)) | omega | (simp <;> omega)))⟩
  · rw [if_neg h]
    have h' : ¬ (8 : Int) < l.length := by omega
    generalize (if l.all okS = true then (0 : Int) else 2) = r at *
    clear h
    go_enter Try.func20, Try.ntmps20
    go_wp2_with (go_at_call 60; refine (C.out _ HV.out).mono ?_; rintro e w1 ⟨rfl, hb1⟩)
    go_ret
    exact ⟨rfl, (by repeat' (first | exact Below.refl _ _ | assumption | apply bDrewN | apply bDrew | apply bAlloc | (refine bSet ?_ ?_ _) | (refine bStep ?_ (by assumption)) | omega | (simp <;> omega)))⟩
def boxesS (l m : List (Int × Int)) : Int := if 8 < max l.length m.length then 6 else if ¬ (l.all okS = true ∧ m.all okS = true) then 2 else if l.length ≠ m.length then 20 else 0
set_option maxHeartbeats 1000000 in
theorem Rboxes_row (v u : Value) (l m : List (Int × Int)) (w : World) (hl : l.length ≤ 1000000) (hm : m.length ≤ 1000000) (hv : SpRow v l w) (hu : SpRow u m w) :
    Calls Try.prog 68 #[v, u] w fun e w' => e = .returned (.int .i64 (boxesS l m)) ∧ Below w.heap.size w w' := by
  have C := Lib.hid (fun w h => Rcheck_row v l w (by omega) h)
  have D := Lib.hid (fun w h => Rcheck_row u m w (by omega) h)
  have HV := Lib.hid hv
  have HU := Lib.hid hu
  obtain ⟨a, ca, rfl, -⟩ := hv
  obtain ⟨b, cb, rfl, -⟩ := hu
  unfold boxesS
  by_cases h : 8 < max l.length m.length
  · rw [if_pos h]
    have h' : 8 < (l.length : Int) ∨ ((l.length : Int) ≤ 8 ∧ 8 < (m.length : Int)) := by omega
    clear h
    rcases h' with h1 | ⟨h1, h2⟩
    all_goals
      go_enter Try.func68, Try.ntmps68
      go_wp2_with fail
      go_ret
      exact ⟨rfl, (by repeat' (first | exact Below.refl _ _ | assumption | apply bDrewN | apply bDrew | apply bAlloc | (refine bSet ?_ ?_ _) | (refine bStep ?_ (by assumption)) | omega | (simp <;> omega)))⟩
  · rw [if_neg h]
    have h1 : (l.length : Int) ≤ 8 := by omega
    have h2 : (m.length : Int) ≤ 8 := by omega
    clear h
    cases hx : l.all okS <;> cases hy : m.all okS
    all_goals rw [hx] at C; rw [hy] at D
    all_goals simp only [Bool.false_eq_true, if_false, if_true, false_and, and_false, not_false_iff, not_true, and_self] at C D ⊢
    · go_enter Try.func68, Try.ntmps68
      go_wp2_with (go_at_call 60; first | (with_reducible refine (C.out _ (HV.out.step (by repeat' (first | exact Below.refl _ _ | assumption | apply bDrewN | apply bDrew | apply bAlloc | (refine bSet ?_ ?_ _) | (refine bStep ?_ (by assumption)) | omega | (simp <;> omega))))).mono ?_; rintro e w1 ⟨rfl, hb1⟩) | (with_reducible refine (D.out _ (HU.out.step (by repeat' (first | exact Below.refl _ _ | assumption | apply bDrewN | apply bDrew | apply bAlloc | (refine bSet ?_ ?_ _) | (refine bStep ?_ (by assumption)) | omega | (simp <;> omega))))).mono ?_; rintro e w2 ⟨rfl, hb2⟩))
      go_ret
      exact ⟨rfl, (by repeat' (first | exact Below.refl _ _ | assumption | apply bDrewN | apply bDrew | apply bAlloc | (refine bSet ?_ ?_ _) | (refine bStep ?_ (by assumption)) | omega | (simp <;> omega)))⟩
    · go_enter Try.func68, Try.ntmps68
      go_wp2_with (go_at_call 60; first | (with_reducible refine (C.out _ (HV.out.step (by repeat' (first | exact Below.refl _ _ | assumption | apply bDrewN | apply bDrew | apply bAlloc | (refine bSet ?_ ?_ _) | (refine bStep ?_ (by assumption)) | omega | (simp <;> omega))))).mono ?_; rintro e w1 ⟨rfl, hb1⟩) | (with_reducible refine (D.out _ (HU.out.step (by repeat' (first | exact Below.refl _ _ | assumption | apply bDrewN | apply bDrew | apply bAlloc | (refine bSet ?_ ?_ _) | (refine bStep ?_ (by assumption)) | omega | (simp <;> omega))))).mono ?_; rintro e w2 ⟨rfl, hb2⟩))
      go_ret
      exact ⟨rfl, (by repeat' (first | exact Below.refl _ _ | assumption | apply bDrewN | apply bDrew | apply bAlloc | (refine bSet ?_ ?_ _) | (refine bStep ?_ (by assumption)) | omega | (simp <;> omega)))⟩
    · go_enter Try.func68, Try.ntmps68
      go_wp2_with (go_at_call 60; first | (with_reducible refine (C.out _ (HV.out.step (by repeat' (first | exact Below.refl _ _ | assumption | apply bDrewN | apply bDrew | apply bAlloc | (refine bSet ?_ ?_ _) | (refine bStep ?_ (by assumption)) | omega | (simp <;> omega))))).mono ?_; rintro e w1 ⟨rfl, hb1⟩) | (with_reducible refine (D.out _ (HU.out.step (by repeat' (first | exact Below.refl _ _ | assumption | apply bDrewN | apply bDrew | apply bAlloc | (refine bSet ?_ ?_ _) | (refine bStep ?_ (by assumption)) | omega | (simp <;> omega))))).mono ?_; rintro e w2 ⟨rfl, hb2⟩))
      go_ret
      exact ⟨rfl, (by repeat' (first | exact Below.refl _ _ | assumption | apply bDrewN | apply bDrew | apply bAlloc | (refine bSet ?_ ?_ _) | (refine bStep ?_ (by assumption)) | omega | (simp <;> omega)))⟩
    · by_cases h3 : l.length = m.length
      · rw [if_neg (fun h => h h3)]
        have h4 : (l.length : Int) = m.length := by omega
        have H3 := Lib.hid h3
        rw [h3] at h1
        clear h4
        rw [h3] at HV C ⊢
        go_enter Try.func68, Try.ntmps68
        go_wp2_with (go_at_call 60; first | (with_reducible refine (C.out _ (HV.out.step (by repeat' (first | exact Below.refl _ _ | assumption | apply bDrewN | apply bDrew | apply bAlloc | (refine bSet ?_ ?_ _) | (refine bStep ?_ (by assumption)) | omega | (simp <;> omega))))).mono ?_; rintro e w1 ⟨rfl, hb1⟩) | (with_reducible refine (D.out _ (HU.out.step (by repeat' (first | exact Below.refl _ _ | assumption | apply bDrewN | apply bDrew | apply bAlloc | (refine bSet ?_ ?_ _) | (refine bStep ?_ (by assumption)) | omega | (simp <;> omega))))).mono ?_; rintro e w2 ⟨rfl, hb2⟩))
        go_ret
        exact ⟨rfl, (by repeat' (first | exact Below.refl _ _ | assumption | apply bDrewN | apply bDrew | apply bAlloc | (refine bSet ?_ ?_ _) | (refine bStep ?_ (by assumption)) | omega | (simp <;> omega)))⟩
      · rw [if_pos h3]
        have h4 : ¬ (l.length : Int) = m.length := by omega
        go_enter Try.func68, Try.ntmps68
        go_wp2_with (go_at_call 60; first | (with_reducible refine (C.out _ (HV.out.step (by repeat' (first | exact Below.refl _ _ | assumption | apply bDrewN | apply bDrew | apply bAlloc | (refine bSet ?_ ?_ _) | (refine bStep ?_ (by assumption)) | omega | (simp <;> omega))))).mono ?_; rintro e w1 ⟨rfl, hb1⟩) | (with_reducible refine (D.out _ (HU.out.step (by repeat' (first | exact Below.refl _ _ | assumption | apply bDrewN | apply bDrew | apply bAlloc | (refine bSet ?_ ?_ _) | (refine bStep ?_ (by assumption)) | omega | (simp <;> omega))))).mono ?_; rintro e w2 ⟨rfl, hb2⟩))
        go_ret
        exact ⟨rfl, (by repeat' (first | exact Below.refl _ _ | assumption | apply bDrewN | apply bDrew | apply bAlloc | (refine bSet ?_ ?_ _) | (refine bStep ?_ (by assumption)) | omega | (simp <;> omega)))⟩
end Go.Proofs.Ytkldlmbccdfjdaa

/-
  The reference's BoxHas and BoxInside.
-/
set_option linter.unusedSimpArgs false
set_option linter.unusedVariables false
namespace Go.Proofs.Ytkldlmbccdfjdaa
open Go.RowKit
set_option maxHeartbeats 2000000 in
set_option maxRecDepth 20000 in
theorem RBoxHas_row (v u : Value) (l : List (Int × Int)) (m : List Int) (w : World) (hl : l.length ≤ 1000000) (hm : m.length ≤ 1000000) (hv : SpRow v l w) (hu : IntRow u m w) :
    Calls Try.prog 22 #[v, u] w fun e w' => e = .returned (.bool (boxHasS l m)) ∧ Below w.heap.size w w' := by
  have C := Lib.hid (fun w h => RCheckBox_row v l w (by omega) h)
  have HV := Lib.hid hv
  obtain ⟨a, ca, rfl, hA⟩ := hv
  obtain ⟨b, cb, rfl, hB⟩ := hu
  have hno : ¬ (m.length = l.length ∧ checkB l = 0) → boxHasS l m = false := by
    intro h
    unfold boxHasS
    rw [decide_eq_false_iff_not]
    exact fun q => h ⟨q.1, q.2.1⟩
  by_cases h1 : checkB l = 0
  · by_cases h3 : l.length = m.length
    · have hg1 : Hid ((∀ j, j < l.length → hasS (l.getD j (0, 0)) (m.getD j 0) = true) → boxHasS l m = true) := fun h => by
        unfold boxHasS
        rw [decide_eq_true_eq]
        exact ⟨h3.symm, h1, h⟩
      have hg2 : Hid (∀ j, j < l.length → hasS (l.getD j (0, 0)) (m.getD j 0) = false → boxHasS l m = false) := fun j hj h => by
        unfold boxHasS
        rw [decide_eq_false_iff_not]
        intro q
        have := q.2.2 j hj
        rw [h] at this
        cases this
      generalize boxHasS l m = r at *
      rw [h1] at C
      skip
      have H3 := Lib.hid h3
      rw [← h3]
      skip
      have HA := Lib.hid hA
      have HB := Lib.hid hB
      clear hA hB h1 h3 hno hm
      go_enter Try.func22, Try.ntmps22
      go_wp2_with (go_at_call 20; refine (C.out _ (HV.out.step (by repeat' (first | exact Below.refl _ _ | assumption | apply bDrewN | apply bDrew | apply bAlloc | (refine bSet ?_ ?_ _) | (refine bStep ?_ (by assumption)) | omega | (simp <;> omega))))).mono ?_; rintro e w1 ⟨rfl, hb1⟩)
      have hbw : Below w.heap.size w w1 := (by repeat' (first | exact Below.refl _ _ | assumption | apply bDrewN | apply bDrew | apply bAlloc | (refine bSet ?_ ?_ _) | (refine bStep ?_ (by assumption)) | omega | (simp <;> omega)))
      go_loopw [5] (fun i wr => ∃ k : Nat, k ≤ l.length ∧ i = .int .i64 k ∧ Hid (Below w.heap.size w wr) ∧ Hid (∀ j, j < k → hasS (l.getD j (0, 0)) (m.getD j 0) = true)) (fun i _ => l.length - (intOf i).toNat)
      case atStart => exact ⟨0, by omega, rfl, hbw, fun j hj => by omega⟩
      case round =>
        obtain ⟨k, hk, rfl, HW, HI⟩ := hrel
        by_cases hlt : k < l.length
        · have hlm : k < m.length := by rw [← H3.out]; exact hlt
          obtain ⟨bu, ou, rfl, hc⟩ := (HA.out.step HW.out) (fun h => by rw [h] at hlt; simp at hlt)
          obtain ⟨bv, ov, rfl, p1⟩ := (HB.out.step HW.out).at_ hlm
          obtain ⟨q1, q2⟩ := hc.at_ hlt
          skip
          have hlt2 : (k : Int) < l.length := by omega
          have hEk : hasS (l.getD k (0, 0)) (m.getD k 0) = hasS l[k] m[k] := by rw [getD_at hlt, getD_at hlm]
          have HI2 : Hid (hasS l[k] m[k] = true → ∀ j, j < k + 1 → hasS (l.getD j (0, 0)) (m.getD j 0) = true) := by
            intro h j hj
            rcases Nat.lt_or_ge j k with h' | h'
            · exact HI.out j h'
            · obtain rfl : j = k := by omega
              rw [hEk]; exact h
          have HN2 : Hid (hasS l[k] m[k] = false → r = false) := fun h => hg2.out k hlt (by rw [hEk]; exact h)
          clear hEk HI hg1 hg2 hc
          generalize l[k] = x at *
          generalize m[k] = y at *
          obtain ⟨x1, x2⟩ := x
          skip
          dsimp only at *
          have hS1 : ∀ s : WStep wr, s.1.cell? ⟨bu, ou + k * 2, none⟩ = some (.int .i64 x1) := fun s => cell_step q1 s.2
          have hS2 : ∀ s : WStep wr, s.1.cell? ⟨bu, ou + k * 2 + 1, none⟩ = some (.int .i64 x2) := fun s => cell_step q2 s.2
          have hS3 : ∀ s : WStep wr, s.1.cell? ⟨bv, ov + k, none⟩ = some (.int .i64 y) := fun s => cell_step p1 s.2
          skip
          have CX : ∀ (r0 : Bool), hasS (x1, x2) y = r0 → ∀ s : WStep wr, Calls Try.prog 63 #[.agg #[.int .i64 x1, .int .i64 x2], .int .i64 y] s.1 fun e w' => e = .returned (.bool r0) ∧ ∃ t : WStep wr, w' = t.1 := fun r0 h0 s => by
            have h := RHas_any (x1, x2) y s.1
            rw [h0] at h
            exact step_call s h
          have hb := HW.out
          cases hx : hasS (x1, x2) y
          · have hr := HN2.out hx
            subst hr
            have CZ := Lib.hid (CX _ hx)
            clear HI2 HN2 CX hx
            go_wp2_with fail
            refine wp_region_step (by kernel_rfl) (by kernel_rfl) ?_
            repeat (quiet_step (with_reducible exact CZ.out _))
            refine wpQuiet_nil ?_
            intro _ hw'
            obtain ⟨⟨W2, hW2⟩, hw''⟩ := hw'
            dsimp only at hw''
            subst hw''
            go_wp2_with fail
            go_ret
            exact ⟨rfl, bStep hb hW2⟩
          · have HI3 := Lib.hid (HI2.out hx)
            have CZ := Lib.hid (CX _ hx)
            clear HI2 HN2 CX hx
            go_wp2_with fail
            refine wp_region_step (by kernel_rfl) (by kernel_rfl) ?_
            repeat (quiet_step (with_reducible exact CZ.out _))
            refine wpQuiet_nil ?_
            intro _ hw'
            obtain ⟨⟨W2, hW2⟩, hw''⟩ := hw'
            dsimp only at hw''
            subst hw''
            go_wp2_with fail
            go_roundw
            case rel => exact ⟨k + 1, by omega, by push_cast; rfl, bStep hb hW2, HI3.out⟩
            case measure => (simp [intOf]; omega)
        · have hr := hg1.out (fun j hj => HI.out j (by omega))
          subst hr
          have hle : ¬ (k : Int) < l.length := by omega
          have hb := HW.out
          go_wp2_with fail
          go_ret
          exact ⟨rfl, (by repeat' (first | exact Below.refl _ _ | assumption | apply bDrewN | apply bDrew | apply bAlloc | (refine bSet ?_ ?_ _) | (refine bStep ?_ (by assumption)) | omega | (simp <;> omega)))⟩
    · have hr := hno (fun q => h3 q.1.symm)
      rw [hr]
      rw [h1] at C
      skip
      have h4 : ¬ (l.length : Int) = m.length := by omega
      clear hr hno hA hB hm h1 
      go_enter Try.func22, Try.ntmps22
      go_wp2_with (go_at_call 20; refine (C.out _ (HV.out.step (by repeat' (first | exact Below.refl _ _ | assumption | apply bDrewN | apply bDrew | apply bAlloc | (refine bSet ?_ ?_ _) | (refine bStep ?_ (by assumption)) | omega | (simp <;> omega))))).mono ?_; rintro e w1 ⟨rfl, hb1⟩)
      go_ret
      exact ⟨rfl, (by repeat' (first | exact Below.refl _ _ | assumption | apply bDrewN | apply bDrew | apply bAlloc | (refine bSet ?_ ?_ _) | (refine bStep ?_ (by assumption)) | omega | (simp <;> omega)))⟩
  · have hr := hno (fun q => h1 q.2)
    rw [hr]
    generalize checkB l = z at *
    clear hr hno hA hB
    go_enter Try.func22, Try.ntmps22
    go_wp2_with (go_at_call 20; refine (C.out _ (HV.out.step (by repeat' (first | exact Below.refl _ _ | assumption | apply bDrewN | apply bDrew | apply bAlloc | (refine bSet ?_ ?_ _) | (refine bStep ?_ (by assumption)) | omega | (simp <;> omega))))).mono ?_; rintro e w1 ⟨rfl, hb1⟩)
    go_ret
    exact ⟨rfl, (by repeat' (first | exact Below.refl _ _ | assumption | apply bDrewN | apply bDrew | apply bAlloc | (refine bSet ?_ ?_ _) | (refine bStep ?_ (by assumption)) | omega | (simp <;> omega)))⟩
set_option maxHeartbeats 2000000 in
set_option maxRecDepth 20000 in
theorem RBoxInside_row (v u : Value) (l : List (Int × Int)) (m : List (Int × Int)) (w : World) (hl : l.length ≤ 1000000) (hm : m.length ≤ 1000000) (hv : SpRow v l w) (hu : SpRow u m w) :
    Calls Try.prog 24 #[v, u] w fun e w' => e = .returned (.bool (allS insideS l m)) ∧ Below w.heap.size w w' := by
  have C := Lib.hid (fun w h => RCheckBox_row v l w (by omega) h)
  have D := Lib.hid (fun w h => RCheckBox_row u m w (by omega) h)
  have HU := Lib.hid hu
  have HV := Lib.hid hv
  obtain ⟨a, ca, rfl, hA⟩ := hv
  obtain ⟨b, cb, rfl, hB⟩ := hu
  have hno : ¬ (checkB l = 0 ∧ checkB m = 0 ∧ l.length = m.length) → allS insideS l m = false := by
    intro h
    unfold allS
    rw [decide_eq_false_iff_not]
    exact fun q => h ⟨q.1, q.2.1, q.2.2.1⟩
  by_cases h1 : checkB l = 0
  · by_cases h2 : checkB m = 0
    · by_cases h3 : l.length = m.length
      · have hg1 : Hid ((∀ j, j < l.length → insideS (l.getD j (0, 0)) (m.getD j (0, 0)) = true) → allS insideS l m = true) := fun h => by
          unfold allS
          rw [decide_eq_true_eq]
          exact ⟨h1, h2, h3, h⟩
        have hg2 : Hid (∀ j, j < l.length → insideS (l.getD j (0, 0)) (m.getD j (0, 0)) = false → allS insideS l m = false) := fun j hj h => by
          unfold allS
          rw [decide_eq_false_iff_not]
          intro q
          have := q.2.2.2 j hj
          rw [h] at this
          cases this
        generalize allS insideS l m = r at *
        rw [h1] at C
        rw [h2] at D
        have H3 := Lib.hid h3
        rw [← h3]
        rw [← h3] at HU D
        have HA := Lib.hid hA
        have HB := Lib.hid hB
        clear hA hB h1 h2 h3 hno hm
        go_enter Try.func24, Try.ntmps24
        go_wp2_with (go_at_call 20; first | (with_reducible refine (C.out _ (HV.out.step (by repeat' (first | exact Below.refl _ _ | assumption | apply bDrewN | apply bDrew | apply bAlloc | (refine bSet ?_ ?_ _) | (refine bStep ?_ (by assumption)) | omega | (simp <;> omega))))).mono ?_; rintro e w1 ⟨rfl, hb1⟩) | (with_reducible refine (D.out _ (HU.out.step (by repeat' (first | exact Below.refl _ _ | assumption | apply bDrewN | apply bDrew | apply bAlloc | (refine bSet ?_ ?_ _) | (refine bStep ?_ (by assumption)) | omega | (simp <;> omega))))).mono ?_; rintro e w2 ⟨rfl, hb2⟩))
        have hbw : Below w.heap.size w w2 := (by repeat' (first | exact Below.refl _ _ | assumption | apply bDrewN | apply bDrew | apply bAlloc | (refine bSet ?_ ?_ _) | (refine bStep ?_ (by assumption)) | omega | (simp <;> omega)))
        go_loopw [5] (fun i wr => ∃ k : Nat, k ≤ l.length ∧ i = .int .i64 k ∧ Hid (Below w.heap.size w wr) ∧ Hid (∀ j, j < k → insideS (l.getD j (0, 0)) (m.getD j (0, 0)) = true)) (fun i _ => l.length - (intOf i).toNat)
        case atStart => exact ⟨0, by omega, rfl, hbw, fun j hj => by omega⟩
        case round =>
          obtain ⟨k, hk, rfl, HW, HI⟩ := hrel
          by_cases hlt : k < l.length
          · have hlm : k < m.length := by rw [← H3.out]; exact hlt
            obtain ⟨bu, ou, rfl, hc⟩ := (HA.out.step HW.out) (fun h => by rw [h] at hlt; simp at hlt)
            obtain ⟨bv, ov, rfl, hd⟩ := (HB.out.step HW.out) (fun h => by rw [h] at hlm; simp at hlm)
            obtain ⟨q1, q2⟩ := hc.at_ hlt
            obtain ⟨p1, p2⟩ := hd.at_ hlm
            have hlt2 : (k : Int) < l.length := by omega
            have hEk : insideS (l.getD k (0, 0)) (m.getD k (0, 0)) = insideS l[k] m[k] := by rw [getD_at hlt, getD_at hlm]
            have HI2 : Hid (insideS l[k] m[k] = true → ∀ j, j < k + 1 → insideS (l.getD j (0, 0)) (m.getD j (0, 0)) = true) := by
              intro h j hj
              rcases Nat.lt_or_ge j k with h' | h'
              · exact HI.out j h'
              · obtain rfl : j = k := by omega
                rw [hEk]; exact h
            have HN2 : Hid (insideS l[k] m[k] = false → r = false) := fun h => hg2.out k hlt (by rw [hEk]; exact h)
            clear hEk HI hg1 hg2 hd hc
            generalize l[k] = x at *
            generalize m[k] = y at *
            obtain ⟨x1, x2⟩ := x
            obtain ⟨y1, y2⟩ := y
            dsimp only at *
            have hS1 : ∀ s : WStep wr, s.1.cell? ⟨bu, ou + k * 2, none⟩ = some (.int .i64 x1) := fun s => cell_step q1 s.2
            have hS2 : ∀ s : WStep wr, s.1.cell? ⟨bu, ou + k * 2 + 1, none⟩ = some (.int .i64 x2) := fun s => cell_step q2 s.2
            have hS3 : ∀ s : WStep wr, s.1.cell? ⟨bv, ov + k * 2, none⟩ = some (.int .i64 y1) := fun s => cell_step p1 s.2
            have hS4 : ∀ s : WStep wr, s.1.cell? ⟨bv, ov + k * 2 + 1, none⟩ = some (.int .i64 y2) := fun s => cell_step p2 s.2
            have CX : ∀ (r0 : Bool), insideS (x1, x2) (y1, y2) = r0 → ∀ s : WStep wr, Calls Try.prog 65 #[.agg #[.int .i64 x1, .int .i64 x2], .agg #[.int .i64 y1, .int .i64 y2]] s.1 fun e w' => e = .returned (.bool r0) ∧ ∃ t : WStep wr, w' = t.1 := fun r0 h0 s => by
              have h := RInside_any (x1, x2) (y1, y2) s.1
              rw [h0] at h
              exact step_call s h
            have hb := HW.out
            cases hx : insideS (x1, x2) (y1, y2)
            · have hr := HN2.out hx
              subst hr
              have CZ := Lib.hid (CX _ hx)
              clear HI2 HN2 CX hx
              go_wp2_with fail
              refine wp_region_step (by kernel_rfl) (by kernel_rfl) ?_
              repeat (quiet_step (with_reducible exact CZ.out _))
              refine wpQuiet_nil ?_
              intro _ hw'
              obtain ⟨⟨W2, hW2⟩, hw''⟩ := hw'
              dsimp only at hw''
              subst hw''
              go_wp2_with fail
              go_ret
              exact ⟨rfl, bStep hb hW2⟩
            · have HI3 := Lib.hid (HI2.out hx)
              have CZ := Lib.hid (CX _ hx)
              clear HI2 HN2 CX hx
              go_wp2_with fail
              refine wp_region_step (by kernel_rfl) (by kernel_rfl) ?_
              repeat (quiet_step (with_reducible exact CZ.out _))
              refine wpQuiet_nil ?_
              intro _ hw'
              obtain ⟨⟨W2, hW2⟩, hw''⟩ := hw'
              dsimp only at hw''
              subst hw''
              go_wp2_with fail
              go_roundw
              case rel => exact ⟨k + 1, by omega, by push_cast; rfl, bStep hb hW2, HI3.out⟩
              case measure => (simp [intOf]; omega)
          · have hr := hg1.out (fun j hj => HI.out j (by omega))
            subst hr
            have hle : ¬ (k : Int) < l.length := by omega
            have hb := HW.out
            go_wp2_with fail
            go_ret
            exact ⟨rfl, (by repeat' (first | exact Below.refl _ _ | assumption | apply bDrewN | apply bDrew | apply bAlloc | (refine bSet ?_ ?_ _) | (refine bStep ?_ (by assumption)) | omega | (simp <;> omega)))⟩
      · have hr := hno (fun q => h3 q.2.2)
        rw [hr]
        rw [h1] at C
        rw [h2] at D
        have h4 : ¬ (l.length : Int) = m.length := by omega
        clear hr hno hA hB hm h1 h2
        go_enter Try.func24, Try.ntmps24
        go_wp2_with (go_at_call 20; first | (with_reducible refine (C.out _ (HV.out.step (by repeat' (first | exact Below.refl _ _ | assumption | apply bDrewN | apply bDrew | apply bAlloc | (refine bSet ?_ ?_ _) | (refine bStep ?_ (by assumption)) | omega | (simp <;> omega))))).mono ?_; rintro e w1 ⟨rfl, hb1⟩) | (with_reducible refine (D.out _ (HU.out.step (by repeat' (first | exact Below.refl _ _ | assumption | apply bDrewN | apply bDrew | apply bAlloc | (refine bSet ?_ ?_ _) | (refine bStep ?_ (by assumption)) | omega | (simp <;> omega))))).mono ?_; rintro e w2 ⟨rfl, hb2⟩))
        go_ret
        exact ⟨rfl, (by repeat' (first | exact Below.refl _ _ | assumption | apply bDrewN | apply bDrew | apply bAlloc | (refine bSet ?_ ?_ _) | (refine bStep ?_ (by assumption)) | omega | (simp <;> omega)))⟩
    · have hr := hno (fun q => h2 q.2.1)
      rw [hr]
      rw [h1] at C
      generalize checkB m = z at *
      clear hr hno hA hB h1
      go_enter Try.func24, Try.ntmps24
      go_wp2_with (go_at_call 20; first | (with_reducible refine (C.out _ (HV.out.step (by repeat' (first | exact Below.refl _ _ | assumption | apply bDrewN | apply bDrew | apply bAlloc | (refine bSet ?_ ?_ _) | (refine bStep ?_ (by assumption)) | omega | (simp <;> omega))))).mono ?_; rintro e w1 ⟨rfl, hb1⟩) | (with_reducible refine (D.out _ (HU.out.step (by repeat' (first | exact Below.refl _ _ | assumption | apply bDrewN | apply bDrew | apply bAlloc | (refine bSet ?_ ?_ _) | (refine bStep ?_ (by assumption)) | omega | (simp <;> omega))))).mono ?_; rintro e w2 ⟨rfl, hb2⟩))
      go_ret
      exact ⟨rfl, (by repeat' (first | exact Below.refl _ _ | assumption | apply bDrewN | apply bDrew | apply bAlloc | (refine bSet ?_ ?_ _) | (refine bStep ?_ (by assumption)) | omega | (simp <;> omega)))⟩
  · have hr := hno (fun q => h1 q.1)
    rw [hr]
    generalize checkB l = z at *
    clear hr hno hA hB
    go_enter Try.func24, Try.ntmps24
    go_wp2_with (go_at_call 20; first | (with_reducible refine (C.out _ (HV.out.step (by repeat' (first | exact Below.refl _ _ | assumption | apply bDrewN | apply bDrew | apply bAlloc | (refine bSet ?_ ?_ _) | (refine bStep ?_ (by assumption)) | omega | (simp <;> omega))))).mono ?_; rintro e w1 ⟨rfl, hb1⟩) | (with_reducible refine (D.out _ (HU.out.step (by repeat' (first | exact Below.refl _ _ | assumption | apply bDrewN | apply bDrew | apply bAlloc | (refine bSet ?_ ?_ _) | (refine bStep ?_ (by assumption)) | omega | (simp <;> omega))))).mono ?_; rintro e w2 ⟨rfl, hb2⟩))
    go_ret
    exact ⟨rfl, (by repeat' (first | exact Below.refl _ _ | assumption | apply bDrewN | apply bDrew | apply bAlloc | (refine bSet ?_ ?_ _) | (refine bStep ?_ (by assumption)) | omega | (simp <;> omega)))⟩
end Go.Proofs.Ytkldlmbccdfjdaa

/-
  A region that draws its order: operations whose values are known, any number of others (calls, allocations, appends), and one at the end. Each is carried out in the frame that all of them leave.
-/
set_option linter.unusedSimpArgs false
set_option linter.unusedVariables false
namespace Go.Proofs.Ytkldlmbccdfjdaa
open Go.RowKit

section
variable {P : Program} {ops : Array Oper} {Q : Exit → Act → World → Prop}

theorem getD_someE {a : Act} {t : Nat} (h : t < a.tmps.size) : a.tmps[t]? = some (a.tmps.getD t undef) := by
  rw [Array.getD_eq_getD_getElem?, Array.getElem?_eq_getElem h]; rfl
theorem getD_noneE {a : Act} {t : Nat} (h : ¬ t < a.tmps.size) : a.tmps[t]? = none := by
  rw [Array.getElem?_eq_none_iff]; omega
def putE (a : Act) : List (Nat × Nat) → List Value → Act
  | e :: E, v :: vs => (putE a E vs).put (some e.2) v
  | _, _ => a
theorem putE_size (a : Act) : ∀ (E : List (Nat × Nat)) (vs : List Value), (putE a E vs).tmps.size = a.tmps.size
  | [], _ => by simp [putE]
  | _ :: _, [] => by simp [putE]
  | e :: E, v :: vs => by
    have := putE_size a E vs
    simpa [putE, Act.put] using this
theorem putE_defers (a : Act) : ∀ (E : List (Nat × Nat)) (vs : List Value), (putE a E vs).defers = a.defers
  | [], _ => by simp [putE]
  | _ :: _, [] => by simp [putE]
  | e :: E, v :: vs => by
    have := putE_defers a E vs
    simpa [putE, Act.put] using this
theorem putE_get (a x : Act) (hs : a.tmps.size = x.tmps.size) : ∀ (E : List (Nat × Nat)) (t : Nat), (putE a E (E.map fun e => x.tmps.getD e.2 undef)).tmps[t]? = if t ∈ E.map (·.2) then x.tmps[t]? else a.tmps[t]?
  | [], t => by simp [putE]
  | e :: E, t => by
    have ih := putE_get a x hs E t
    simp only [List.map_cons, putE]
    rw [put_at, putE_size]
    by_cases c : e.2 = t
    · subst c
      rw [if_pos rfl, if_pos (List.mem_cons_self ..)]
      by_cases hlt : e.2 < x.tmps.size
      · rw [if_pos (by omega), getD_someE hlt]
      · rw [if_neg (by omega), getD_noneE hlt]
    · rw [if_neg c, ih]
      have : (t ∈ e.2 :: E.map (·.2)) ↔ t ∈ E.map (·.2) := by
        rw [List.mem_cons]
        exact ⟨fun h => h.resolve_left (fun h => c h.symm), Or.inr⟩
      by_cases m : t ∈ E.map (·.2)
      · rw [if_pos m, if_pos (this.2 m)]
      · rw [if_neg m, if_neg (fun h => m (this.1 h))]

/-- What is asked of a plan: for each operation whether it is an effect (and which), and the effects that are known to be behind it. -/
def efB (ops : Array Oper) (N f : Nat) (E : List (Nat × Nat)) (plan : List (Option Nat × List Nat)) : Bool :=
  ((List.range N).all fun i => match ops[i]?, plan[i]? with
  | some o, some p => o.guard.isNone && plainOp o.op && o.dst.isSome && (o.op.operands.all fun x => match x with
      | .tmp t => (E.map (·.2)).contains t || (List.range N).all fun j => decide (dstOf ops j ≠ some t) || (waits ops i).contains j
      | _ => true) && ((List.range N).all fun j => decide (j = i) || decide (dstOf ops j ≠ dstOf ops i)) &&
      (p.2.all fun k => match E[k]? with | some e => (waits ops i).contains e.1 || (waits ops i).any fun j => (ancs ops f j).contains e.1 | none => false) &&
      (match p.1 with | none => E.all fun e => decide (e.1 ≠ i) | some k => (match E[k]? with | some e => decide (e.1 = i) | none => false))
  | _, _ => false) &&
  ((List.range E.length).all fun k => match E[k]? with | some e => decide (e.1 < N) && decide (dstOf ops e.1 = some e.2) && decide ((plan[e.1]?).map (·.1) = some (some k)) | none => false)
structure EfAt (ops : Array Oper) (N f : Nat) (E : List (Nat × Nat)) (plan : List (Option Nat × List Nat)) (i : Nat) (o : Oper) (p : Option Nat × List Nat) : Prop where
  plan : plan[i]? = some p
  guard : o.guard = none
  sel : ∀ cs b, o.op ≠ .select cs b
  dst : ∃ d, o.dst = some d
  looks : ∀ t, Operand.tmp t ∈ o.op.operands → t ∈ E.map (·.2) ∨ ∀ j, j < N → dstOf ops j = some t → j ∈ waits ops i
  one : ∀ j, j < N → j ≠ i → dstOf ops j ≠ dstOf ops i
  need : ∀ k ∈ p.2, ∃ e, E[k]? = some e ∧ (e.1 ∈ waits ops i ∨ ∃ j ∈ waits ops i, e.1 ∈ ancs ops f j)
  no : p.1 = none → ∀ e ∈ E, e.1 ≠ i
  yes : ∀ k, p.1 = some k → ∃ e, E[k]? = some e ∧ e.1 = i
theorem ef_at {N f i : Nat} {E : List (Nat × Nat)} {plan : List (Option Nat × List Nat)} {o : Oper} (h : efB ops N f E plan = true) (hi : i < N) (ho : ops[i]? = some o) : ∃ p, EfAt ops N f E plan i o p := by
  unfold efB at h
  rw [Bool.and_eq_true] at h
  have h1 := List.all_eq_true.1 h.1 i (List.mem_range.2 hi)
  rw [ho] at h1
  cases hp : plan[i]? with
  | none => rw [hp] at h1; cases h1
  | some p =>
    rw [hp] at h1
    simp only [Bool.and_eq_true] at h1
    obtain ⟨⟨⟨⟨⟨⟨h1, h2⟩, h3⟩, h4⟩, h5⟩, h6⟩, h7⟩ := h1
    refine ⟨p, hp, by simpa using h1, ?_, Option.isSome_iff_exists.1 h3, ?_, ?_, ?_, ?_, ?_⟩
    · intro cs b e; rw [e] at h2; simp [plainOp] at h2
    · intro t ht
      rw [Array.all_eq_true'] at h4
      have h8 := h4 (.tmp t) ht
      simp only [Bool.or_eq_true] at h8
      rcases h8 with h8 | h8
      · exact Or.inl (by simpa using h8)
      · refine Or.inr fun j hj hd => ?_
        have h9 := List.all_eq_true.1 h8 j (List.mem_range.2 hj)
        simp only [Bool.or_eq_true, decide_eq_true_eq] at h9
        rcases h9 with h9 | h9
        · exact absurd hd h9
        · simpa using h9
    · intro j hj hne
      have h8 := List.all_eq_true.1 h5 j (List.mem_range.2 hj)
      simp only [Bool.or_eq_true, decide_eq_true_eq] at h8
      rcases h8 with h8 | h8
      · exact absurd h8 hne
      · exact h8
    · intro k hk
      have h8 := List.all_eq_true.1 h6 k hk
      cases he : E[k]? with
      | none => rw [he] at h8; cases h8
      | some e =>
        rw [he] at h8
        simp only [Bool.or_eq_true, List.any_eq_true] at h8
        refine ⟨e, rfl, ?_⟩
        rcases h8 with h8 | ⟨j, h8, h9⟩
        · exact Or.inl (by simpa using h8)
        · exact Or.inr ⟨j, h8, by simpa using h9⟩
    · intro hn e he
      rw [hn] at h7
      simpa using List.all_eq_true.1 h7 e he
    · intro k hk
      rw [hk] at h7
      simp only at h7
      cases he : E[k]? with
      | none => rw [he] at h7; cases h7
      | some e => rw [he] at h7; exact ⟨e, rfl, by simpa using h7⟩
theorem ef_eff {N f k : Nat} {E : List (Nat × Nat)} {plan : List (Option Nat × List Nat)} {e : Nat × Nat} (h : efB ops N f E plan = true) (he : E[k]? = some e) : e.1 < N ∧ dstOf ops e.1 = some e.2 ∧ (plan[e.1]?).map (·.1) = some (some k) := by
  unfold efB at h
  rw [Bool.and_eq_true] at h
  have hk : k < E.length := (List.getElem?_eq_some_iff.1 he).1
  have h1 := List.all_eq_true.1 h.2 k (List.mem_range.2 hk)
  rw [he] at h1
  simp only [Bool.and_eq_true, decide_eq_true_eq] at h1
  exact ⟨h1.1.1, h1.1.2, h1.2⟩

/-- What is asked of an operation whose value is known. -/
def RdE (P : Program) (St : List Bool → List Value → World → Prop) (AF : Act) (E : List (Nat × Nat)) (need : List Nat) (o : Oper) : Prop :=
  ∃ d v, o.dst = some d ∧ AF.tmps[d]? = some v ∧ ∀ bs vs W, bs.length = E.length → vs.length = E.length → (∀ k ∈ need, bs.getD k false = true) → St bs vs W →
    ∀ (K : Act → World → Prop) (Q : Exit → Act → World → Prop), (∀ W', St bs vs W' → K ((putE AF E vs).put (some d) v) W') → o.wp P (putE AF E vs) W K Q
/-- What is asked of an effect. -/
def EfE (P : Program) (St : List Bool → List Value → World → Prop) (AF : Act) (E : List (Nat × Nat)) (k : Nat) (need : List Nat) (o : Oper) : Prop :=
  ∃ d, o.dst = some d ∧ ∀ bs vs W, bs.length = E.length → vs.length = E.length → (∀ k ∈ need, bs.getD k false = true) → bs.getD k false = false → St bs vs W →
    ∀ (K : Act → World → Prop) (Q : Exit → Act → World → Prop), (∀ v W', St (bs.set k true) (vs.set k v) W' → K ((putE AF E vs).put (some d) v) W') → o.wp P (putE AF E vs) W K Q
def AllE (R : List Nat → Oper → Prop) (F : Nat → List Nat → Oper → Prop) : List (Option Nat × List Nat) → List Oper → Prop
  | (none, nd) :: ks, o :: l => R nd o ∧ AllE R F ks l
  | (some k, nd) :: ks, o :: l => F k nd o ∧ AllE R F ks l
  | _, _ => True
theorem AllE.at_ {R : List Nat → Oper → Prop} {F : Nat → List Nat → Oper → Prop} : ∀ {ks : List (Option Nat × List Nat)} {l : List Oper}, AllE R F ks l → ∀ (i : Nat) (o : Oper) (p : Option Nat × List Nat), l[i]? = some o → ks[i]? = some p → (match p.1 with | none => R p.2 o | some k => F k p.2 o)
  | [], _, _, i, o, p, _, hp => by simp at hp
  | _ :: _, [], _, i, o, p, ho, _ => by simp at ho
  | (none, nd) :: ks, x :: l, h, 0, o, p, ho, hp => by
    simp only [List.getElem?_cons_zero, Option.some.injEq] at ho hp
    subst ho hp
    exact h.1
  | (some k, nd) :: ks, x :: l, h, 0, o, p, ho, hp => by
    simp only [List.getElem?_cons_zero, Option.some.injEq] at ho hp
    subst ho hp
    exact h.1
  | (none, nd) :: ks, x :: l, h, i + 1, o, p, ho, hp => AllE.at_ (ks := ks) (l := l) h.2 i o p (by simpa using ho) (by simpa using hp)
  | (some k, nd) :: ks, x :: l, h, i + 1, o, p, ho, hp => AllE.at_ (ks := ks) (l := l) h.2 i o p (by simpa using ho) (by simpa using hp)

theorem shut_anc {l : Array Bool} (hS : Shut ops l) {i f : Nat} {e : Nat} (hw : ∀ j ∈ waits ops i, l.getD j false = true) (h : e ∈ waits ops i ∨ ∃ j ∈ waits ops i, e ∈ ancs ops f j) : l.getD e false = true := by
  rcases h with h | ⟨j, hj, h⟩
  · exact hw e h
  · exact hS.anc f j (hw j hj) e h

/-- THE RULE. -/
theorem region_effs {id : Nat} {a : Act} {w : World} (N f : Nat) (E : List (Nat × Nat)) (plan : List (Option Nat × List Nat)) (vals : List (Nat × Value)) (St : List Bool → List Value → World → Prop) (hm : P.follows .mixedOrders = true) (he : early ops = true) (hs0 : ops.size = N + 1)
    (hA : ((List.range N).all fun j => (ancs ops f N).contains j) = true) (hH : efB ops N f E plan = true) (hsu : ∀ e ∈ E, e.2 < a.tmps.size)
    (hds : vals.map (fun p => some p.1) = ((List.range N).filter fun i => E.all fun e => decide (e.1 ≠ i)).map (dstOf ops))
    (h0 : ∀ vs, vs.length = E.length → St (E.map fun _ => false) vs w.drew) (each : AllE (RdE P St (updAll a vals) E) (EfE P St (updAll a vals) E) plan (ops.toList.take N))
    (tail : ∀ vs W, vs.length = E.length → St (E.map fun _ => true) vs W → wpOp P ops Q N (fun a2 w2 => Q .normal a2 w2) (putE (updAll a vals) E vs) W) :
    (Code.region id ops true).wp P Q a w := by
  have hA' : ∀ j, j < N → j ∈ ancs ops f N := fun j hj => by simpa using List.all_eq_true.1 hA j (List.mem_range.2 hj)
  have hidx : ∀ j, (E.all fun e => decide (e.1 ≠ j)) = true ↔ ∀ e ∈ E, e.1 ≠ j := fun j => by simp
  have hsame : ∀ t, (∀ j, j < N → (∀ e ∈ E, e.1 ≠ j) → dstOf ops j ≠ some t) → (updAll a vals).tmps[t]? = a.tmps[t]? := fun t ht => updAll_same _ _ _ fun p hp e => by
    have h1 : some p.1 ∈ vals.map (fun p => some p.1) := List.mem_map.2 ⟨p, hp, rfl⟩
    rw [hds] at h1
    obtain ⟨j, hj, hjd⟩ := List.mem_map.1 h1
    obtain ⟨hj1, hj2⟩ := List.mem_filter.1 hj
    exact ht j (List.mem_range.1 hj1) ((hidx j).1 hj2) (by rw [hjd, e])
  have hdf : (updAll a vals).defers = a.defers := updAll_defers _ _
  have hsz : (updAll a vals).tmps.size = a.tmps.size := updAll_size _ _
  have hob : ∀ i o p, i < N → ops[i]? = some o → plan[i]? = some p → (match p.1 with | none => RdE P St (updAll a vals) E p.2 o | some k => EfE P St (updAll a vals) E k p.2 o) := fun i o p hi ho hp => each.at_ i o p (by
    rw [List.getElem?_take_of_lt hi, Array.getElem?_toList]; exact ho) hp
  clear each
  generalize updAll a vals = AF at *
  refine region_inv hm he (fun l x W => l.size = ops.size ∧ Shut ops l ∧ ((l.getD N false = true ∧ Q .normal x W) ∨ (l.getD N true = false ∧ x.defers = a.defers ∧ x.tmps.size = a.tmps.size ∧
    (∀ j, j < N → (∀ e ∈ E, e.1 ≠ j) → l.getD j false = true → ∀ t, dstOf ops j = some t → x.tmps[t]? = AF.tmps[t]?) ∧
    (∀ t, (∀ j, j < N → dstOf ops j = some t → l.getD j false = false) → x.tmps[t]? = a.tmps[t]?) ∧ St (E.map fun e => l.getD e.1 false) (E.map fun e => x.tmps.getD e.2 undef) W))) ?_ (fun l a w h => h.1) ?_ ?_
  · refine ⟨by simp, ?_, Or.inr ⟨?_, rfl, rfl, fun j hj _ h => ?_, fun _ _ => rfl, ?_⟩⟩
    · intro i hi
      rw [Array.getD_eq_getD_getElem?] at hi
      by_cases h : i < ops.size <;> simp [h] at hi
    · rw [Array.getD_eq_getD_getElem?]; simp [hs0]
    · rw [Array.getD_eq_getD_getElem?] at h
      simp [hs0, show j < N + 1 by omega] at h
    · have e : ∀ k, (Array.replicate ops.size false).getD k false = false := by
        intro k
        rw [Array.getD_eq_getD_getElem?]
        by_cases h : k < ops.size <;> simp [h]
      simp only [e]
      exact h0 _ (by simp)
  · rintro i o ho l x W ⟨hs, hS, hJ⟩ hl hd
    have hio : i < ops.size := (Array.getElem?_eq_some_iff.1 ho).1
    have hil : i < l.size := by rw [hs]; exact hio
    have hw := waits_ok ho hd
    have hS2 := hS.set hil hw
    have hs2 : (l.setIfInBounds i true).size = ops.size := by simpa using hs
    rcases hJ with ⟨j1, _⟩ | ⟨jN, x1, x2, x3, x4, x5⟩
    · rcases Nat.lt_or_ge i N with hi | hi
      · exact absurd (hS.anc f N j1 i (hA' i hi)) (by rw [getD_tf hl]; decide)
      · obtain rfl : i = N := by omega
        exact absurd j1 (by rw [getD_tf hl]; decide)
    have hFx := putE_get AF x (by rw [hsz, x2]) E
    rcases Nat.lt_or_ge i N with hi | hi
    · obtain ⟨p, hC⟩ := ef_at hH hi ho
      obtain ⟨d, hd1⟩ := hC.dst
      have hdi : dstOf ops i = some d := by unfold dstOf; rw [ho]; exact hd1
      have hev : ∀ y ∈ o.op.operands, x.eval y = (putE AF E (E.map fun e => x.tmps.getD e.2 undef)).eval y := by
        intro y hy
        refine eval_same fun t ht => ?_
        subst ht
        rw [hFx]
        by_cases c1 : t ∈ E.map (·.2)
        · rw [if_pos c1]
        · rw [if_neg c1]
          rcases hC.looks t hy with c2 | c2
          · exact absurd c2 c1
          by_cases hc : ∃ j, j < N ∧ dstOf ops j = some t
          · obtain ⟨j, hj, hjt⟩ := hc
            refine x3 j hj (fun e heE hej => c1 ?_) (hw j (c2 j hj hjt)) t hjt
            obtain ⟨k, hk⟩ := List.getElem?_of_mem heE
            have q := (ef_eff hH hk).2.1
            rw [hej, hjt] at q
            exact List.mem_map.2 ⟨e, heE, (Option.some.inj q).symm⟩
          · have hno : ∀ j, j < N → dstOf ops j ≠ some t := fun j hj e => hc ⟨j, hj, e⟩
            rw [x4 t (fun j hj e => absurd e (hno j hj)), hsame t (fun j hj _ => hno j hj)]
      have hex := execOp_congr o hC.sel hev
      have hneed : ∀ k ∈ p.2, (E.map fun e => l.getD e.1 false).getD k false = true := by
        intro k hk
        obtain ⟨e, he1, he2⟩ := hC.need k hk
        rw [List.getD_eq_getElem?_getD, List.getElem?_map, he1]
        exact shut_anc hS hw he2
      have hput : d < a.tmps.size → ∀ (C : Value → World → Prop), (∀ (K : Act → World → Prop) (Q : Exit → Act → World → Prop), (∀ v W', C v W' → K ((putE AF E (E.map fun e => x.tmps.getD e.2 undef)).put (some d) v) W') → o.wp P (putE AF E (E.map fun e => x.tmps.getD e.2 undef)) W K Q) → wpOp P ops Q i (fun a' w' => ∃ v, a' = x.put (some d) v ∧ C v w') x W := by
        intro hdlt C hC2
        unfold wpOp
        rw [ho]
        simp only [Region.wanted, hC.guard, if_true]
        refine Or.inl ?_
        have h1 := hC2 (fun a' w' => ∃ v, a' = (putE AF E (E.map fun e => x.tmps.getD e.2 undef)).put (some d) v ∧ C v w') (fun _ _ _ => False) (fun v W' h => ⟨v, rfl, h⟩)
        unfold Oper.wp at h1 ⊢
        rw [hex]
        exact upon_congr hd1 (by rw [putE_size, hsz]; exact hdlt) h1
      have hgd : d < a.tmps.size → ∀ (v : Value) (t : Nat), (x.put (some d) v).tmps.getD t undef = if d = t then v else x.tmps.getD t undef := by
        intro hdlt v t
        rw [Array.getD_eq_getD_getElem?, put_at]
        by_cases e : d = t
        · rw [if_pos e, if_pos e, if_pos (by rw [x2]; exact hdlt)]; rfl
        · rw [if_neg e, if_neg e, Array.getD_eq_getD_getElem?]
      have hfr : d < a.tmps.size → ∀ v W', (p.1 = none → AF.tmps[d]? = some v) → St (E.map fun e => (l.setIfInBounds i true).getD e.1 false) (E.map fun e => (x.put (some d) v).tmps.getD e.2 undef) W' →
          ((l.setIfInBounds i true).size = ops.size ∧ Shut ops (l.setIfInBounds i true) ∧ (((l.setIfInBounds i true).getD N false = true ∧ Q .normal (x.put (some d) v) W') ∨ ((l.setIfInBounds i true).getD N true = false ∧ (x.put (some d) v).defers = a.defers ∧ (x.put (some d) v).tmps.size = a.tmps.size ∧
    (∀ j, j < N → (∀ e ∈ E, e.1 ≠ j) → (l.setIfInBounds i true).getD j false = true → ∀ t, dstOf ops j = some t → (x.put (some d) v).tmps[t]? = AF.tmps[t]?) ∧
    (∀ t, (∀ j, j < N → dstOf ops j = some t → (l.setIfInBounds i true).getD j false = false) → (x.put (some d) v).tmps[t]? = a.tmps[t]?) ∧ St (E.map fun e => (l.setIfInBounds i true).getD e.1 false) (E.map fun e => (x.put (some d) v).tmps.getD e.2 undef) W'))) := by
        intro hdlt v W' hv hSt
        have hlt : d < x.tmps.size := by rw [x2]; exact hdlt
        refine ⟨hs2, hS2, Or.inr ⟨?_, x1, by simpa [Act.put] using x2, ?_, ?_, hSt⟩⟩
        · rw [getD_set1 hil, if_neg (by omega)]; exact jN
        · intro j hj m1 hjl t hjt
          rw [put_at]
          by_cases e : d = t
          · subst e
            rw [if_pos rfl, if_pos hlt]
            have hji : j = i := Classical.byContradiction fun c => hC.one j hj c (by rw [hjt, hdi])
            subst hji
            refine (hv ?_).symm
            cases hp : p.1 with
            | none => rfl
            | some k => obtain ⟨e, he1, he2⟩ := hC.yes k hp; exact absurd he2 (m1 e (List.mem_of_getElem? he1))
          · rw [if_neg e]
            have hji : j ≠ i := fun c => by subst c; rw [hdi] at hjt; exact e (Option.some.inj hjt)
            rw [getD_set1 hil, if_neg (fun c => hji c.symm)] at hjl
            exact x3 j hj m1 hjl t hjt
        · intro t ht
          rw [put_at]
          have hdt : d ≠ t := fun c => by
            subst c
            have := ht i hi hdi
            rw [getD_set1 hil, if_pos rfl] at this
            cases this
          rw [if_neg hdt]
          refine x4 t fun j hj hjt => ?_
          have := ht j hj hjt
          rw [getD_set1 hil] at this
          split at this
          · cases this
          · exact this
      have hO := hob i o p hi ho hC.plan
      obtain ⟨pk, nd⟩ := p
      cases pk with
      | none =>
        obtain ⟨d', v, g1, g2, g3⟩ := hO
        rw [hd1] at g1
        obtain rfl : d = d' := Option.some.inj g1
        have hdlt : d < a.tmps.size := by
          have := (Array.getElem?_eq_some_iff.1 g2).1
          rw [hsz] at this
          exact this
        have hE := hC.no rfl
        refine wpOp_mono ?_ (hput hdlt (fun v' W' => v' = v ∧ St (E.map fun e => l.getD e.1 false) (E.map fun e => x.tmps.getD e.2 undef) W') (fun K Q hK => g3 _ _ W (by simp) (by simp) hneed x5 K Q (fun W' h => hK v W' ⟨rfl, h⟩)))
        rintro a' w' ⟨v', rfl, rfl, hv⟩
        refine hfr hdlt v' w' (fun _ => g2) ?_
        have q1 : (E.map fun e => (l.setIfInBounds i true).getD e.1 false) = E.map fun e => l.getD e.1 false := List.map_congr_left fun e he => by
          rw [getD_set1 hil, if_neg (fun c => hE e he c.symm)]
        have q2 : (E.map fun e => (x.put (some d) v').tmps.getD e.2 undef) = E.map fun e => x.tmps.getD e.2 undef := List.map_congr_left fun e he => by
          obtain ⟨k, hk⟩ := List.getElem?_of_mem he
          have q := ef_eff hH hk
          rw [hgd hdlt, if_neg (fun c => hC.one e.1 q.1 (hE e he) (by rw [q.2.1, hdi, c]))]
        rw [q1, q2]
        exact hv
      | some k =>
        obtain ⟨d', g1, g3⟩ := hO
        rw [hd1] at g1
        obtain rfl : d = d' := Option.some.inj g1
        obtain ⟨ek, hk, hek⟩ := hC.yes k rfl
        have qk := ef_eff hH hk
        have hde : d = ek.2 := by
          have := qk.2.1
          rw [hek, hdi] at this
          exact Option.some.inj this
        have hdlt : d < a.tmps.size := by rw [hde]; exact hsu ek (List.mem_of_getElem? hk)
        have hbk : (E.map fun e => l.getD e.1 false).getD k false = false := by
          rw [List.getD_eq_getElem?_getD, List.getElem?_map, hk]
          show l.getD ek.1 false = false
          rw [hek]
          exact getD_tf hl
        refine wpOp_mono ?_ (hput hdlt (fun v' W' => St ((E.map fun e => l.getD e.1 false).set k true) ((E.map fun e => x.tmps.getD e.2 undef).set k v') W') (fun K Q hK => g3 _ _ W (by simp) (by simp) hneed hbk x5 K Q hK))
        rintro a' w' ⟨v', rfl, hv⟩
        refine hfr hdlt v' w' (fun c => by cases c) ?_
        have hkl : k < E.length := (List.getElem?_eq_some_iff.1 hk).1
        have hm : ∀ m e, E[m]? = some e → e.1 = i → m = k := by
          intro m e hme h
          have q := (ef_eff hH hme).2.2
          have q' := qk.2.2
          rw [h] at q
          rw [hek, q] at q'
          exact Option.some.inj (Option.some.inj q')
        have q1 : (E.map fun e => (l.setIfInBounds i true).getD e.1 false) = (E.map fun e => l.getD e.1 false).set k true := by
          refine List.ext_getElem? fun m => ?_
          rw [List.getElem?_set, List.getElem?_map, List.getElem?_map]
          cases hE : E[m]? with
          | none =>
            have : E.length ≤ m := List.getElem?_eq_none_iff.1 hE
            rw [if_neg (by omega)]; rfl
          | some e =>
            simp only [Option.map_some]
            rw [getD_set1 hil]
            by_cases c : k = m
            · subst c
              rw [hk] at hE
              obtain rfl := Option.some.inj hE
              rw [if_pos hek.symm, if_pos rfl, if_pos (by simpa using hkl)]
            · rw [if_neg (fun h => c (hm m e hE h.symm).symm), if_neg c]
        have q2 : (E.map fun e => (x.put (some d) v').tmps.getD e.2 undef) = (E.map fun e => x.tmps.getD e.2 undef).set k v' := by
          refine List.ext_getElem? fun m => ?_
          rw [List.getElem?_set, List.getElem?_map, List.getElem?_map]
          cases hE : E[m]? with
          | none =>
            have : E.length ≤ m := List.getElem?_eq_none_iff.1 hE
            rw [if_neg (by omega)]; rfl
          | some e =>
            simp only [Option.map_some]
            rw [hgd hdlt]
            by_cases c : k = m
            · subst c
              rw [hk] at hE
              obtain rfl := Option.some.inj hE
              rw [if_pos hde, if_pos rfl, if_pos (by simpa using hkl)]
            · have hne : e.1 ≠ i := fun h => c (hm m e hE h).symm
              have q := ef_eff hH hE
              rw [if_neg (fun h => hC.one e.1 q.1 hne (by rw [q.2.1, hdi, h])), if_neg c]
        rw [q1, q2]
        exact hv
    · obtain rfl : i = N := by omega
      have hall : ∀ j, j < i → l.getD j false = true := by
        intro j hj
        have := hS2.anc f i (by rw [getD_set1 hil, if_pos rfl]) j (hA' j hj)
        rwa [getD_set1 hil, if_neg (by omega)] at this
      have q1 : (E.map fun e => l.getD e.1 false) = E.map fun _ => true := List.map_congr_left fun e he => by
        obtain ⟨k, hk⟩ := List.getElem?_of_mem he
        exact hall e.1 (ef_eff hH hk).1
      rw [q1] at x5
      have hx : x = putE AF E (E.map fun e => x.tmps.getD e.2 undef) := by
        refine act_ext (Array.ext_getElem? fun t => ?_) (by rw [putE_defers, hdf, x1])
        rw [hFx]
        by_cases c1 : t ∈ E.map (·.2)
        · rw [if_pos c1]
        · rw [if_neg c1]
          by_cases hc : ∃ j, j < i ∧ dstOf ops j = some t
          · obtain ⟨j, hj, hjt⟩ := hc
            refine x3 j hj (fun e heE hej => c1 ?_) (hall j hj) t hjt
            obtain ⟨k, hk⟩ := List.getElem?_of_mem heE
            have q := (ef_eff hH hk).2.1
            rw [hej, hjt] at q
            exact List.mem_map.2 ⟨e, heE, (Option.some.inj q).symm⟩
          · have hno : ∀ j, j < i → dstOf ops j ≠ some t := fun j hj e => hc ⟨j, hj, e⟩
            rw [x4 t (fun j hj e => absurd e (hno j hj)), hsame t (fun j hj _ => hno j hj)]
      have ht := tail _ W (by simp) x5
      rw [← hx] at ht
      refine wpOp_mono ?_ ht
      intro a' w' h
      exact ⟨hs2, hS2, Or.inl ⟨by rw [getD_set1 hil, if_pos rfl], h⟩⟩
  · rintro l x W ⟨hs, hS, hJ⟩ hall
    rcases hJ with ⟨_, j⟩ | ⟨j, _⟩
    · exact j
    · rw [hall N (by omega)] at j; cases j

theorem len_one {α : Type} {n : Nat} {l : List α} (h : l.length = n + 1) : ∃ x m, l = x :: m ∧ m.length = n := by
  cases l with
  | nil => simp at h
  | cons x m => exact ⟨x, m, rfl, by simpa using h⟩
theorem len_nil {α : Type} {l : List α} (h : l.length = 0) : l = [] := List.length_eq_zero_iff.1 h
end

end Go.Proofs.Ytkldlmbccdfjdaa
