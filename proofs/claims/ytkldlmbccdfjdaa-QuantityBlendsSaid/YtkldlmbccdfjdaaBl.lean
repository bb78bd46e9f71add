/-
  The walk of Blend.
-/
import Derived.Test.YtkldlmbccdfjdaaMv
set_option linter.unusedSimpArgs false
set_option linter.unusedVariables false
namespace Go.Proofs.Ytkldlmbccdfjdaa
open Go.RowKit

def bmix (y v n k : Int) : Int := y + dn (v - y) n k
def blendRow (ys vs : List Int) (n k : Int) : List Int := (List.range ys.length).map fun j => bmix (ys.getD j 0) (vs.getD j 0) n k
theorem blendRow_len (ys vs : List Int) (n k : Int) : (blendRow ys vs n k).length = ys.length := by simp [blendRow]
theorem blendRow_at {ys vs : List Int} {n k : Int} {j : Nat} (h : j < ys.length) : (blendRow ys vs n k).getD j 0 = bmix (ys.getD j 0) (vs.getD j 0) n k := by
  simp [blendRow, List.getD_eq_getElem?_getD, List.getElem?_eq_getElem, h]
def curvesS (xs ys us vs : List Int) : Int := if checkC xs ys = 6 ∨ checkC us vs = 6 then 6 else if checkC xs ys ≠ 0 ∨ checkC us vs ≠ 0 then 2 else 0
/-- What Blend returns. -/
def blendS (xs ys us vs : List Int) (n k : Int) : (List Int × List Int) × Int :=
  if curvesS xs ys us vs ≠ 0 then (([], []), curvesS xs ys us vs) else if xs ≠ us then (([], []), 20)
  else if ¬ (isDen k = true ∧ 0 ≤ n ∧ n ≤ k) then (([], []), 2) else ((xs, blendRow ys vs n k), 0)
/-- The first k numbers have been mixed. -/
def mixRow (ys vs zs : List Int) (n d : Int) (k : Nat) : Prop := zs.length = ys.length ∧ ∀ j, zs.getD j 0 = if j < k ∧ j < ys.length then bmix (ys.getD j 0) (vs.getD j 0) n d else ys.getD j 0
theorem mixRow.zero {ys vs : List Int} {n d : Int} : mixRow ys vs ys n d 0 := ⟨rfl, fun j => by simp⟩
theorem mixRow.at_ {ys vs zs : List Int} {n d : Int} {k : Nat} (h : mixRow ys vs zs n d k) : zs.getD k 0 = ys.getD k 0 := by rw [h.2 k, if_neg (by omega)]
theorem mixRow.next {ys vs zs : List Int} {n d : Int} {k : Nat} (h : mixRow ys vs zs n d k) (hk : k < ys.length) : mixRow ys vs (zs.set k (bmix (ys.getD k 0) (vs.getD k 0) n d)) n d (k + 1) := by
  refine ⟨by rw [List.length_set]; exact h.1, fun j => ?_⟩
  rw [getDI_set (by rw [h.1]; exact hk), h.2 j]
  by_cases e : k = j
  · subst e
    rw [if_pos rfl, if_pos ⟨by omega, hk⟩]
  · rw [if_neg e]
    by_cases e2 : j < k ∧ j < ys.length
    · rw [if_pos e2, if_pos ⟨by omega, e2.2⟩]
    · rw [if_neg e2, if_neg (by omega)]
theorem mixRow.all {ys vs zs : List Int} {n d : Int} {k : Nat} (h : mixRow ys vs zs n d k) (hk : ys.length ≤ k) : zs = blendRow ys vs n d := by
  refine ints_eq (by rw [h.1, blendRow_len]) fun j hj => ?_
  have hj' : j < ys.length := by have := h.1; omega
  rw [h.2 j, if_pos ⟨by omega, hj'⟩, blendRow_at hj']
theorem mixRow.drop0 {ys zs : List Int} {n d : Int} (h : mixRow ys ys zs n d 0) : True := trivial

set_option maxHeartbeats 4000000 in
set_option maxRecDepth 20000 in
theorem Blend_bad (pa pb pc pd : Option Addr) (ca cb cc cd : Nat) (xs ys us vs : List Int) (E F n k : Int) (w : World) (hEF : (E = 0 ∨ E = 2 ∨ E = 6) ∧ (F = 0 ∨ F = 2 ∨ F = 6)) (hbad : E ≠ 0 ∨ F ≠ 0)
    (hx : xs.length ≤ 1000000) (hy : ys.length ≤ 1000000) (hu : us.length ≤ 1000000) (hv : vs.length ≤ 1000000) (hA : IntAt pa xs w) (hB : IntAt pb ys w) (hC : IntAt pc us w) (hD : IntAt pd vs w) (hE : checkC xs ys = E) (hF : checkC us vs = F) :
    Calls Try.prog 10 #[.agg #[.slice pa xs.length ca, .slice pb ys.length cb], .agg #[.slice pc us.length cc, .slice pd vs.length cd], .int .i64 n, .int .i64 k] w fun e w' => e = .returned (.tuple #[.agg #[.slice none 0 0, .slice none 0 0], .int .i64 (if E = 6 ∨ F = 6 then 6 else 2)]) ∧ Below w.heap.size w w' := by
  have CE := Lib.hid (fun w h1 h2 => CheckCurve_any pa pb ca cb xs ys w hx hy h1 h2)
  have CF := Lib.hid (fun w h1 h2 => CheckCurve_any pc pd cc cd us vs w hu hv h1 h2)
  rw [hE] at CE
  rw [hF] at CF
  have HA := Lib.hid hA
  have HB := Lib.hid hB
  have HC := Lib.hid hC
  have HD := Lib.hid hD
  clear hA hB hC hD hE hF
  generalize hR : (if E = 6 ∨ F = 6 then (6 : Int) else 2) = R
  go_enter Try.func10, Try.ntmps10
  go_upto_region 1 with fail
  have HS := Lib.hid (show Kf w (w.heap.size + 3) [(w.heap.size, 0, (.slice pa xs.length ca)), (w.heap.size, 1, (.slice pb ys.length cb)), (w.heap.size + 1, 0, (.slice pc us.length cc)), (w.heap.size + 1, 1, (.slice pd vs.length cd)), (w.heap.size + 2, 0, (.slice none 0 0)), (w.heap.size + 2, 1, (.slice none 0 0))] (w.heap.size + 2) (((w.alloc (Obj.cells #[(.slice pa xs.length ca), (.slice pb ys.length cb)] 24)).alloc (Obj.cells #[(.slice pc us.length cc), (.slice pd vs.length cd)] 24)).alloc (Obj.cells #[(.slice none 0 0), (.slice none 0 0)] 24)) from ⟨((((((Cs.nil (by omega) (by repeat' (first | exact Below.refl _ _ | assumption | apply bDrewN | apply bDrew | apply bAlloc | (refine bSet ?_ ?_ _) | (refine bStep ?_ (by assumption)) | omega | (simp <;> omega)))).cons (by go_simp) (by omega)).cons (by go_simp) (by omega)).cons (by go_simp) (by omega)).cons (by go_simp) (by omega)).cons (by go_simp) (by omega)).cons (by go_simp) (by omega), by omega, _, _, by simpa using blk_new ((w.alloc _).alloc _) _⟩)
  go_cut [10, 11] (fun s10 s11 W => s10 = .int .i64 E ∧ s11 = .int .i64 F ∧ Kf w (w.heap.size + 3) [(w.heap.size, 0, (.slice pa xs.length ca)), (w.heap.size, 1, (.slice pb ys.length cb)), (w.heap.size + 1, 0, (.slice pc us.length cc)), (w.heap.size + 1, 1, (.slice pd vs.length cd)), (w.heap.size + 2, 0, (.slice none 0 0)), (w.heap.size + 2, 1, (.slice none 0 0))] (w.heap.size + 2) W)
  case first =>
    generalize hA0 : (Act.mk _ _) = A0
    refine region_inv (by kernel_rfl) (by kernel_rfl) (fun l a W => ∃ (b0 b1 b2 b3 b4 b5 : Bool) (v14 v15 v16 v17 v10 v11 : Value), l = #[b0, b1, b2, b3, b4, b5] ∧ a = updAll A0 [(14, v14), (15, v15), (16, v16), (17, v17), (10, v10), (11, v11)] ∧ (b0 = true → v14 = (.agg #[(.slice pa xs.length ca), (.slice pb ys.length cb)])) ∧ (b1 = true → v15 = (.int .i64 E)) ∧ (b2 = true → v16 = (.agg #[(.slice pc us.length cc), (.slice pd vs.length cd)])) ∧ (b3 = true → v17 = (.int .i64 F)) ∧ (b4 = true → v10 = (.int .i64 E)) ∧ (b5 = true → v11 = (.int .i64 F)) ∧ Kf w (w.heap.size + 3) [(w.heap.size, 0, (.slice pa xs.length ca)), (w.heap.size, 1, (.slice pb ys.length cb)), (w.heap.size + 1, 0, (.slice pc us.length cc)), (w.heap.size + 1, 1, (.slice pd vs.length cd)), (w.heap.size + 2, 0, (.slice none 0 0)), (w.heap.size + 2, 1, (.slice none 0 0))] (w.heap.size + 2) W ∧ w.heap.size ≤ W.heap.size) ?h0 ?hsz ?step ?done
    case h0 =>
      refine ⟨false, false, false, false, false, false, A0.tmps.getD 14 undef, A0.tmps.getD 15 undef, A0.tmps.getD 16 undef, A0.tmps.getD 17 undef, A0.tmps.getD 10 undef, A0.tmps.getD 11 undef, by rfl, ?_, by simp, by simp, by simp, by simp, by simp, by simp, HS.out.drew, (by first | omega | (simp; omega) | simp)⟩
      rw [← hA0]
      simp [updAll, Act.put]
    case hsz =>
      rintro l a W ⟨b0, b1, b2, b3, b4, b5, v14, v15, v16, v17, v10, v11, rfl, -⟩
      rfl
    case step =>
      intro iop oop hopi lst act W hInv hlst hdep
      obtain ⟨b0, b1, b2, b3, b4, b5, v14, v15, v16, v17, v10, v11, rfl, rfl, f0, f1, f2, f3, f4, f5, hM, hz⟩ := hInv
      have hi8 : iop < 6 := (Array.getElem?_eq_some_iff.1 hopi).1
      have hi9 : iop = 0 ∨ iop = 1 ∨ iop = 2 ∨ iop = 3 ∨ iop = 4 ∨ iop = 5 := by omega
      rcases hi9 with rfl | rfl | rfl | rfl | rfl | rfl
      · obtain rfl : b0 = false := by simpa using hlst
        obtain rfl := Option.some.inj (show some _ = some oop from hopi)
        refine step_to (a' := (updAll A0 [(14, v14), (15, v15), (16, v16), (17, v17), (10, v10), (11, v11)]).put (some 14) ((.agg #[(.slice pa xs.length ca), (.slice pb ys.length cb)]))) (w' := W) ?_ ?_
        · intro K' hK'
          subst hA0
          have c0 := hM.at_ (show (w.heap.size, 0, (.slice pa xs.length ca)) ∈ _ from by simp); have c1 := hM.at_ (show (w.heap.size, 1, (.slice pb ys.length cb)) ∈ _ from by simp); have c2 := hM.at_ (show (w.heap.size + 1, 0, (.slice pc us.length cc)) ∈ _ from by simp); have c3 := hM.at_ (show (w.heap.size + 1, 1, (.slice pd vs.length cd)) ∈ _ from by simp); have c4 := hM.at_ (show (w.heap.size + 2, 0, (.slice none 0 0)) ∈ _ from by simp); have c5 := hM.at_ (show (w.heap.size + 2, 1, (.slice none 0 0)) ∈ _ from by simp)
          refine wpOp_plain rfl rfl ?_
          simp only [updAll, Act.put, List.setIfInBounds_toArray, List.set_cons_zero, List.set_cons_succ] at hK' ⊢
          go_wp2
          exact hK'
        · refine ⟨true, b1, b2, b3, b4, b5, _, v15, v16, v17, v10, v11, by rfl, ?_, fun _ => rfl, f1, f2, f3, f4, f5, hM, hz⟩
          rw [← hA0]
          simp [updAll, Act.put]
      · obtain rfl : b1 = false := by simpa using hlst
        obtain rfl := Option.some.inj (show some _ = some oop from hopi)
        obtain rfl : b0 = true := by
          rcases Bool.eq_false_or_eq_true b0 with hbb | hbb
          · exact hbb
          · exfalso; subst hbb; revert hdep; simp [Region.binds]
        have e0 := f0 rfl
        subst e0
        refine step_ex (fun a' w' => a' = (updAll A0 [(14, (.agg #[(.slice pa xs.length ca), (.slice pb ys.length cb)])), (15, v15), (16, v16), (17, v17), (10, v10), (11, v11)]).put (some 15) ((.int .i64 E)) ∧ Below W.heap.size W w') ?_ ?_
        · intro K' hK'
          subst hA0
          have c0 := hM.at_ (show (w.heap.size, 0, (.slice pa xs.length ca)) ∈ _ from by simp); have c1 := hM.at_ (show (w.heap.size, 1, (.slice pb ys.length cb)) ∈ _ from by simp); have c2 := hM.at_ (show (w.heap.size + 1, 0, (.slice pc us.length cc)) ∈ _ from by simp); have c3 := hM.at_ (show (w.heap.size + 1, 1, (.slice pd vs.length cd)) ∈ _ from by simp); have c4 := hM.at_ (show (w.heap.size + 2, 0, (.slice none 0 0)) ∈ _ from by simp); have c5 := hM.at_ (show (w.heap.size + 2, 1, (.slice none 0 0)) ∈ _ from by simp)
          refine wpOp_plain rfl rfl ?_
          simp only [updAll, Act.put, List.setIfInBounds_toArray, List.set_cons_zero, List.set_cons_succ] at hK' ⊢
          go_wp2_with (go_at_call 12; refine (CE.out _ (HA.out.step (by first | exact hM.bel | exact bStep hM.bel (Below.refl _ _).drew)) (HB.out.step (by first | exact hM.bel | exact bStep hM.bel (Below.refl _ _).drew))).mono ?_; rintro e w1 ⟨rfl, hb1⟩)
          all_goals (first | exact ⟨rfl, hb1⟩ | exact hK' _ _ ⟨rfl, hb1⟩)
        · rintro a' w' ⟨rfl, hb1⟩
          refine ⟨true, true, b2, b3, b4, b5, (.agg #[(.slice pa xs.length ca), (.slice pb ys.length cb)]), _, v16, v17, v10, v11, by rfl, ?_, fun _ => rfl, fun _ => rfl, f2, f3, f4, f5, hM.step hb1, Nat.le_trans hz hb1.size⟩
          rw [← hA0]
          simp [updAll, Act.put]
      · obtain rfl : b2 = false := by simpa using hlst
        obtain rfl := Option.some.inj (show some _ = some oop from hopi)
        refine step_to (a' := (updAll A0 [(14, v14), (15, v15), (16, v16), (17, v17), (10, v10), (11, v11)]).put (some 16) ((.agg #[(.slice pc us.length cc), (.slice pd vs.length cd)]))) (w' := W) ?_ ?_
        · intro K' hK'
          subst hA0
          have c0 := hM.at_ (show (w.heap.size, 0, (.slice pa xs.length ca)) ∈ _ from by simp); have c1 := hM.at_ (show (w.heap.size, 1, (.slice pb ys.length cb)) ∈ _ from by simp); have c2 := hM.at_ (show (w.heap.size + 1, 0, (.slice pc us.length cc)) ∈ _ from by simp); have c3 := hM.at_ (show (w.heap.size + 1, 1, (.slice pd vs.length cd)) ∈ _ from by simp); have c4 := hM.at_ (show (w.heap.size + 2, 0, (.slice none 0 0)) ∈ _ from by simp); have c5 := hM.at_ (show (w.heap.size + 2, 1, (.slice none 0 0)) ∈ _ from by simp)
          refine wpOp_plain rfl rfl ?_
          simp only [updAll, Act.put, List.setIfInBounds_toArray, List.set_cons_zero, List.set_cons_succ] at hK' ⊢
          go_wp2
          exact hK'
        · refine ⟨b0, b1, true, b3, b4, b5, v14, v15, _, v17, v10, v11, by rfl, ?_, f0, f1, fun _ => rfl, f3, f4, f5, hM, hz⟩
          rw [← hA0]
          simp [updAll, Act.put]
      · obtain rfl : b3 = false := by simpa using hlst
        obtain rfl := Option.some.inj (show some _ = some oop from hopi)
        obtain rfl : b2 = true := by
          rcases Bool.eq_false_or_eq_true b2 with hbb | hbb
          · exact hbb
          · exfalso; subst hbb; revert hdep; simp [Region.binds]
        have e2 := f2 rfl
        subst e2
        refine step_ex (fun a' w' => a' = (updAll A0 [(14, v14), (15, v15), (16, (.agg #[(.slice pc us.length cc), (.slice pd vs.length cd)])), (17, v17), (10, v10), (11, v11)]).put (some 17) ((.int .i64 F)) ∧ Below W.heap.size W w') ?_ ?_
        · intro K' hK'
          subst hA0
          have c0 := hM.at_ (show (w.heap.size, 0, (.slice pa xs.length ca)) ∈ _ from by simp); have c1 := hM.at_ (show (w.heap.size, 1, (.slice pb ys.length cb)) ∈ _ from by simp); have c2 := hM.at_ (show (w.heap.size + 1, 0, (.slice pc us.length cc)) ∈ _ from by simp); have c3 := hM.at_ (show (w.heap.size + 1, 1, (.slice pd vs.length cd)) ∈ _ from by simp); have c4 := hM.at_ (show (w.heap.size + 2, 0, (.slice none 0 0)) ∈ _ from by simp); have c5 := hM.at_ (show (w.heap.size + 2, 1, (.slice none 0 0)) ∈ _ from by simp)
          refine wpOp_plain rfl rfl ?_
          simp only [updAll, Act.put, List.setIfInBounds_toArray, List.set_cons_zero, List.set_cons_succ] at hK' ⊢
          go_wp2_with (go_at_call 12; refine (CF.out _ (HC.out.step (by first | exact hM.bel | exact bStep hM.bel (Below.refl _ _).drew)) (HD.out.step (by first | exact hM.bel | exact bStep hM.bel (Below.refl _ _).drew))).mono ?_; rintro e w1 ⟨rfl, hb1⟩)
          all_goals (first | exact ⟨rfl, hb1⟩ | exact hK' _ _ ⟨rfl, hb1⟩)
        · rintro a' w' ⟨rfl, hb1⟩
          refine ⟨b0, b1, true, true, b4, b5, v14, v15, (.agg #[(.slice pc us.length cc), (.slice pd vs.length cd)]), _, v10, v11, by rfl, ?_, f0, f1, fun _ => rfl, fun _ => rfl, f4, f5, hM.step hb1, Nat.le_trans hz hb1.size⟩
          rw [← hA0]
          simp [updAll, Act.put]
      · obtain rfl : b4 = false := by simpa using hlst
        obtain rfl := Option.some.inj (show some _ = some oop from hopi)
        obtain rfl : b1 = true := by
          rcases Bool.eq_false_or_eq_true b1 with hbb | hbb
          · exact hbb
          · exfalso; subst hbb; revert hdep; simp [Region.binds]
        have e1 := f1 rfl
        subst e1
        refine step_to (a' := (updAll A0 [(14, v14), (15, (.int .i64 E)), (16, v16), (17, v17), (10, v10), (11, v11)]).put (some 10) ((.int .i64 E))) (w' := W) ?_ ?_
        · intro K' hK'
          subst hA0
          have c0 := hM.at_ (show (w.heap.size, 0, (.slice pa xs.length ca)) ∈ _ from by simp); have c1 := hM.at_ (show (w.heap.size, 1, (.slice pb ys.length cb)) ∈ _ from by simp); have c2 := hM.at_ (show (w.heap.size + 1, 0, (.slice pc us.length cc)) ∈ _ from by simp); have c3 := hM.at_ (show (w.heap.size + 1, 1, (.slice pd vs.length cd)) ∈ _ from by simp); have c4 := hM.at_ (show (w.heap.size + 2, 0, (.slice none 0 0)) ∈ _ from by simp); have c5 := hM.at_ (show (w.heap.size + 2, 1, (.slice none 0 0)) ∈ _ from by simp)
          refine wpOp_plain rfl rfl ?_
          simp only [updAll, Act.put, List.setIfInBounds_toArray, List.set_cons_zero, List.set_cons_succ] at hK' ⊢
          go_wp2
          exact hK'
        · refine ⟨b0, true, b2, b3, true, b5, v14, (.int .i64 E), v16, v17, _, v11, by rfl, ?_, f0, fun _ => rfl, f2, f3, fun _ => rfl, f5, hM, hz⟩
          rw [← hA0]
          simp [updAll, Act.put]
      · obtain rfl : b5 = false := by simpa using hlst
        obtain rfl := Option.some.inj (show some _ = some oop from hopi)
        obtain rfl : b3 = true := by
          rcases Bool.eq_false_or_eq_true b3 with hbb | hbb
          · exact hbb
          · exfalso; subst hbb; revert hdep; simp [Region.binds]
        have e3 := f3 rfl
        subst e3
        refine step_to (a' := (updAll A0 [(14, v14), (15, v15), (16, v16), (17, (.int .i64 F)), (10, v10), (11, v11)]).put (some 11) ((.int .i64 F))) (w' := W) ?_ ?_
        · intro K' hK'
          subst hA0
          have c0 := hM.at_ (show (w.heap.size, 0, (.slice pa xs.length ca)) ∈ _ from by simp); have c1 := hM.at_ (show (w.heap.size, 1, (.slice pb ys.length cb)) ∈ _ from by simp); have c2 := hM.at_ (show (w.heap.size + 1, 0, (.slice pc us.length cc)) ∈ _ from by simp); have c3 := hM.at_ (show (w.heap.size + 1, 1, (.slice pd vs.length cd)) ∈ _ from by simp); have c4 := hM.at_ (show (w.heap.size + 2, 0, (.slice none 0 0)) ∈ _ from by simp); have c5 := hM.at_ (show (w.heap.size + 2, 1, (.slice none 0 0)) ∈ _ from by simp)
          refine wpOp_plain rfl rfl ?_
          simp only [updAll, Act.put, List.setIfInBounds_toArray, List.set_cons_zero, List.set_cons_succ] at hK' ⊢
          go_wp2
          exact hK'
        · refine ⟨b0, b1, b2, true, b4, true, v14, v15, v16, (.int .i64 F), v10, _, by rfl, ?_, f0, f1, f2, fun _ => rfl, f4, fun _ => rfl, hM, hz⟩
          rw [← hA0]
          simp [updAll, Act.put]
    case done =>
      rintro l a W ⟨b0, b1, b2, b3, b4, b5, v14, v15, v16, v17, v10, v11, rfl, rfl, f0, f1, f2, f3, f4, f5, hM, hz⟩ hall
      obtain rfl : b0 = true := by simpa using hall 0 (by decide)
      obtain rfl : b1 = true := by simpa using hall 1 (by decide)
      obtain rfl : b2 = true := by simpa using hall 2 (by decide)
      obtain rfl : b3 = true := by simpa using hall 3 (by decide)
      obtain rfl : b4 = true := by simpa using hall 4 (by decide)
      obtain rfl : b5 = true := by simpa using hall 5 (by decide)
      have e0 := f0 rfl
      subst e0
      have e1 := f1 rfl
      subst e1
      have e2 := f2 rfl
      subst e2
      have e3 := f3 rfl
      subst e3
      have e4 := f4 rfl
      subst e4
      have e5 := f5 rfl
      subst e5
      subst hA0
      simp only [updAll, Act.put, List.setIfInBounds_toArray, List.set_cons_zero, List.set_cons_succ]
      go_wp2_with fail
      go_meet
      exact ⟨rfl, rfl, hM⟩
  case rest =>
    obtain ⟨rfl, rfl, hM⟩ := hcut
    have c0 := hM.at_ (show (w.heap.size, 0, (.slice pa xs.length ca)) ∈ _ from by simp); have c1 := hM.at_ (show (w.heap.size, 1, (.slice pb ys.length cb)) ∈ _ from by simp); have c2 := hM.at_ (show (w.heap.size + 1, 0, (.slice pc us.length cc)) ∈ _ from by simp); have c3 := hM.at_ (show (w.heap.size + 1, 1, (.slice pd vs.length cd)) ∈ _ from by simp); have c4 := hM.at_ (show (w.heap.size + 2, 0, (.slice none 0 0)) ∈ _ from by simp); have c5 := hM.at_ (show (w.heap.size + 2, 1, (.slice none 0 0)) ∈ _ from by simp)
    have fr0 := hM.free (o := 0)
    have fr1 := hM.free (o := 1)
    have hbel := hM.bel
    have HK := Lib.hid hM
    clear hM HS
    clear CE CF HA HB HC HD hx hy hu hv
    obtain ⟨rfl | rfl | rfl, rfl | rfl | rfl⟩ := hEF
    · exact absurd hbad (by decide)
    all_goals
      clear hbad
      simp at hR
      subst hR
      go_wp2_with fail
      first
        | exact bodyPost_ret (v := .tuple #[.agg #[.slice none 0 0, .slice none 0 0], .int .i64 6]) (by simp only [results, Try.results10]; go_simp) rfl ⟨rfl, (by repeat' (first | exact Below.refl _ _ | assumption | apply bDrewN | apply bDrew | apply bAlloc | (refine bSet ?_ ?_ _) | (refine bStep ?_ (by assumption)) | omega | (simp <;> omega)))⟩
        | exact bodyPost_ret (v := .tuple #[.agg #[.slice none 0 0, .slice none 0 0], .int .i64 2]) (by simp only [results, Try.results10]; go_simp) rfl ⟨rfl, (by repeat' (first | exact Below.refl _ _ | assumption | apply bDrewN | apply bDrew | apply bAlloc | (refine bSet ?_ ?_ _) | (refine bStep ?_ (by assumption)) | omega | (simp <;> omega)))⟩



end Go.Proofs.Ytkldlmbccdfjdaa
