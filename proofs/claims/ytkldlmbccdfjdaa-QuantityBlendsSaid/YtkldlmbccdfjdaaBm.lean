/-
  The walk of Blend, where both curves are valid.
-/
import Derived.Test.YtkldlmbccdfjdaaBl
import Derived.Test.YtkldlmbccdfjdaaCh
set_option linter.unusedSimpArgs false
set_option linter.unusedVariables false
namespace Go.Proofs.Ytkldlmbccdfjdaa
open Go.RowKit

theorem Kf.lt {w W : World} {B p : Nat} {l : List (Nat × Nat × Value)} (h : Kf w B l p W) : p < W.heap.size := by
  obtain ⟨h1, h2, cur, T, h3⟩ := h
  exact blk_lt h3
theorem bmix_wrap {y v n k : Int} (hy : -1099511627776 ≤ y ∧ y ≤ 1099511627776) (hk : k ≠ 0) : -9223372036854775808 ≤ bmix y v n k ∧ bmix y v n k ≤ 9223372036854775807 := by
  have := dn_bd (v - y) n k hk
  unfold bmix
  omega

set_option maxHeartbeats 4000000 in
set_option maxRecDepth 20000 in
theorem Blend_fine (pa pb pc pd : Option Addr) (ca cb cc cd : Nat) (xs ys us vs : List Int) (n k : Int) (w : World)
    (hx : xs.length ≤ 1000000) (hy : ys.length ≤ 1000000) (hu : us.length ≤ 1000000) (hv : vs.length ≤ 1000000) (hA : IntAt pa xs w) (hB : IntAt pb ys w) (hC : IntAt pc us w) (hD : IntAt pd vs w) (hE : checkC xs ys = 0) (hF : checkC us vs = 0) :
    Calls Try.prog 10 #[.agg #[.slice pa xs.length ca, .slice pb ys.length cb], .agg #[.slice pc us.length cc, .slice pd vs.length cd], .int .i64 n, .int .i64 k] w fun e w' => ∃ v u, e = .returned (.tuple #[.agg #[v, u], .int .i64 (blendS xs ys us vs n k).2]) ∧ CuOut w.heap.size v u (blendS xs ys us vs n k).1.1 (blendS xs ys us vs n k).1.2 w' ∧ Below w.heap.size w w' := by
  have CE := Lib.hid (fun w h1 h2 => CheckCurve_any pa pb ca cb xs ys w hx hy h1 h2)
  have CF := Lib.hid (fun w h1 h2 => CheckCurve_any pc pd cc cd us vs w hu hv h1 h2)
  have CQ := Lib.hid (fun w h1 h2 => EqualI_row pa pc ca cc xs us w hx hu h1 h2)
  have hc0 : curvesS xs ys us vs = 0 := by simp [curvesS, hE, hF]
  have hb : blendS xs ys us vs n k = if xs ≠ us then (([], []), 20) else if ¬ (isDen k = true ∧ 0 ≤ n ∧ n ≤ k) then (([], []), 2) else ((xs, blendRow ys vs n k), 0) := by
    unfold blendS; rw [hc0, if_neg (by simp)]
  obtain ⟨⟨⟨l1, l2, l3, l4⟩, -⟩, h64⟩ := checkC_good hE
  obtain ⟨⟨⟨m1, m2, m3, m4⟩, -⟩, -⟩ := checkC_good hF
  rw [hE] at CE
  rw [hF] at CF
  have HA := Lib.hid hA
  have HB := Lib.hid hB
  have HC := Lib.hid hC
  have HD := Lib.hid hD
  have HCQ := Lib.hid (show True from trivial)
  clear hA hB hC hD hE hF hc0
  by_cases h1 : xs = us
  · have q1 : decide (xs = us) = true := by simp [h1]
    rw [q1] at CQ
    subst h1
    rw [if_neg (by simp)] at hb
    rw [← m1] at CF ⊢
    rw [← l1] at CE ⊢
    have HL := Lib.hid (show ys.length = xs.length ∧ vs.length = xs.length from ⟨l1.symm, m1.symm⟩)
    have HQ := Lib.hid (show (∀ k, -1099511627776 ≤ ys.getD k 0 ∧ ys.getD k 0 ≤ 1099511627776) ∧ (∀ k, -1099511627776 ≤ vs.getD k 0 ∧ vs.getD k 0 ≤ 1099511627776) from ⟨allQ_getD l4, allQ_getD m4⟩)
    have hne : xs ≠ [] := fun e => by rw [e] at l2; simp at l2
    have hne2 : ys ≠ [] := fun e => by rw [e] at l1; rw [l1] at l2; simp at l2
    clear l1 l3 l4 m1 m3 m4 m2 q1
    by_cases h2 : isDen k = true ∧ 0 ≤ n ∧ n ≤ k
    · rw [if_neg (fun h => h h2)] at hb
      rw [hb]
      clear hb
      obtain ⟨a1, a2, a3⟩ := h2
      have hk0 := (isDen_iff _).1 a1
      have K1 := Lib.hid (fun w h => CloneI_row pa ca xs w hx h)
      have K2 := Lib.hid (fun w h => CloneI_row pb cb ys w hy h)
      rw [HL.out.1] at K2
      obtain ⟨bb, ob, rfl, -⟩ := id (HB.out hne2)
      obtain ⟨bd, od, rfl, -⟩ := id (HD.out (fun e => by have := HL.out.2; rw [e] at this; simp at this; omega))
      have HDN := Lib.hid (fun j w => down_any (vs.getD j 0 - ys.getD j 0) n k w (by have := HQ.out.1 j; have := HQ.out.2 j; omega) (by have := HQ.out.1 j; have := HQ.out.2 j; omega) (by omega) (by omega) (by omega) (by omega) (by omega))
      go_enter Try.func10, Try.ntmps10
      go_upto_region 1 with fail
      have HS := Lib.hid (show Kf w (w.heap.size + 3) [(w.heap.size, 0, (.slice pa xs.length ca)), (w.heap.size, 1, (.slice (some ⟨bb, ob, none⟩) xs.length cb)), (w.heap.size + 1, 0, (.slice pc xs.length cc)), (w.heap.size + 1, 1, (.slice (some ⟨bd, od, none⟩) xs.length cd)), (w.heap.size + 2, 0, (.slice none 0 0)), (w.heap.size + 2, 1, (.slice none 0 0))] (w.heap.size + 2) (((w.alloc (Obj.cells #[(.slice pa xs.length ca), (.slice (some ⟨bb, ob, none⟩) xs.length cb)] 24)).alloc (Obj.cells #[(.slice pc xs.length cc), (.slice (some ⟨bd, od, none⟩) xs.length cd)] 24)).alloc (Obj.cells #[(.slice none 0 0), (.slice none 0 0)] 24)) from ⟨((((((Cs.nil (by omega) (by repeat' (first | exact Below.refl _ _ | assumption | apply bDrewN | apply bDrew | apply bAlloc | (refine bSet ?_ ?_ _) | (refine bStep ?_ (by assumption)) | omega | (simp <;> omega)))).cons (by go_simp) (by omega)).cons (by go_simp) (by omega)).cons (by go_simp) (by omega)).cons (by go_simp) (by omega)).cons (by go_simp) (by omega)).cons (by go_simp) (by omega), by omega, _, _, by simpa using blk_new ((w.alloc _).alloc _) _⟩)
      go_cut [10, 11] (fun s10 s11 W => s10 = .int .i64 0 ∧ s11 = .int .i64 0 ∧ Kf w (w.heap.size + 3) [(w.heap.size, 0, (.slice pa xs.length ca)), (w.heap.size, 1, (.slice (some ⟨bb, ob, none⟩) xs.length cb)), (w.heap.size + 1, 0, (.slice pc xs.length cc)), (w.heap.size + 1, 1, (.slice (some ⟨bd, od, none⟩) xs.length cd)), (w.heap.size + 2, 0, (.slice none 0 0)), (w.heap.size + 2, 1, (.slice none 0 0))] (w.heap.size + 2) W)
      case first =>
        generalize hA0 : (Act.mk _ _) = A0
        refine region_inv (by kernel_rfl) (by kernel_rfl) (fun l a W => ∃ (b0 b1 b2 b3 b4 b5 : Bool) (v14 v15 v16 v17 v10 v11 : Value), l = #[b0, b1, b2, b3, b4, b5] ∧ a = updAll A0 [(14, v14), (15, v15), (16, v16), (17, v17), (10, v10), (11, v11)] ∧ (b0 = true → v14 = (.agg #[(.slice pa xs.length ca), (.slice (some ⟨bb, ob, none⟩) xs.length cb)])) ∧ (b1 = true → v15 = (.int .i64 0)) ∧ (b2 = true → v16 = (.agg #[(.slice pc xs.length cc), (.slice (some ⟨bd, od, none⟩) xs.length cd)])) ∧ (b3 = true → v17 = (.int .i64 0)) ∧ (b4 = true → v10 = (.int .i64 0)) ∧ (b5 = true → v11 = (.int .i64 0)) ∧ Kf w (w.heap.size + 3) [(w.heap.size, 0, (.slice pa xs.length ca)), (w.heap.size, 1, (.slice (some ⟨bb, ob, none⟩) xs.length cb)), (w.heap.size + 1, 0, (.slice pc xs.length cc)), (w.heap.size + 1, 1, (.slice (some ⟨bd, od, none⟩) xs.length cd)), (w.heap.size + 2, 0, (.slice none 0 0)), (w.heap.size + 2, 1, (.slice none 0 0))] (w.heap.size + 2) W ∧ w.heap.size ≤ W.heap.size) ?h0 ?hsz ?step ?done
        case h0 =>
          refine ⟨false, false, false, false, false, false, A0.tmps.getD 14 undef, A0.tmps.getD 15 undef, A0.tmps.getD 16 undef, A0.tmps.getD 17 undef, A0.tmps.getD 10 undef, A0.tmps.getD 11 undef, by rfl, ?_, by simp, by simp, by simp, by simp, by simp, by simp, HS.out.drew, (by first | omega | (simp; omega) | simp)⟩
          rw [← hA0]
          simp [updAll, Act.put]
        case hsz =>
          rintro l a W ⟨b0, b1, b2, b3, b4, b5, v14, v15, v16, v17, v10, v11, rfl, -⟩
          rfl
        case step =>
          intro iop oop hopi lst act W hInv hlst hdep
          obtain ⟨b0, b1, b2, b3, b4, b5, v14, v15, v16, v17, v10, v11, rfl, rfl, f0, f1, f2, f3, f4, f5, hM, hz⟩ := hInv
          have hi8 : iop < 6 := (Array.getElem?_eq_some_iff.1 hopi).1
          have hi9 : iop = 0 ∨ iop = 1 ∨ iop = 2 ∨ iop = 3 ∨ iop = 4 ∨ iop = 5 := by omega
          rcases hi9 with rfl | rfl | rfl | rfl | rfl | rfl
          · obtain rfl : b0 = false := by simpa using hlst
            obtain rfl := Option.some.inj (show some _ = some oop from hopi)
            refine step_to (a' := (updAll A0 [(14, v14), (15, v15), (16, v16), (17, v17), (10, v10), (11, v11)]).put (some 14) ((.agg #[(.slice pa xs.length ca), (.slice (some ⟨bb, ob, none⟩) xs.length cb)]))) (w' := W) ?_ ?_
            · intro K' hK'
              subst hA0
              have c0 := hM.at_ (show (w.heap.size, 0, (.slice pa xs.length ca)) ∈ _ from by simp); have c1 := hM.at_ (show (w.heap.size, 1, (.slice (some ⟨bb, ob, none⟩) xs.length cb)) ∈ _ from by simp); have c2 := hM.at_ (show (w.heap.size + 1, 0, (.slice pc xs.length cc)) ∈ _ from by simp); have c3 := hM.at_ (show (w.heap.size + 1, 1, (.slice (some ⟨bd, od, none⟩) xs.length cd)) ∈ _ from by simp); have c4 := hM.at_ (show (w.heap.size + 2, 0, (.slice none 0 0)) ∈ _ from by simp); have c5 := hM.at_ (show (w.heap.size + 2, 1, (.slice none 0 0)) ∈ _ from by simp)
              refine wpOp_plain rfl rfl ?_
              simp only [updAll, Act.put, List.setIfInBounds_toArray, List.set_cons_zero, List.set_cons_succ] at hK' ⊢
              go_wp2
              exact hK'
            · refine ⟨true, b1, b2, b3, b4, b5, _, v15, v16, v17, v10, v11, by rfl, ?_, fun _ => rfl, f1, f2, f3, f4, f5, hM, hz⟩
              rw [← hA0]
              simp [updAll, Act.put]
          · obtain rfl : b1 = false := by simpa using hlst
            obtain rfl := Option.some.inj (show some _ = some oop from hopi)
            obtain rfl : b0 = true := by
              rcases Bool.eq_false_or_eq_true b0 with hbb | hbb
              · exact hbb
              · exfalso; subst hbb; revert hdep; simp [Region.binds]
            have e0 := f0 rfl
            subst e0
            refine step_ex (fun a' w' => a' = (updAll A0 [(14, (.agg #[(.slice pa xs.length ca), (.slice (some ⟨bb, ob, none⟩) xs.length cb)])), (15, v15), (16, v16), (17, v17), (10, v10), (11, v11)]).put (some 15) ((.int .i64 0)) ∧ Below W.heap.size W w') ?_ ?_
            · intro K' hK'
              subst hA0
              have c0 := hM.at_ (show (w.heap.size, 0, (.slice pa xs.length ca)) ∈ _ from by simp); have c1 := hM.at_ (show (w.heap.size, 1, (.slice (some ⟨bb, ob, none⟩) xs.length cb)) ∈ _ from by simp); have c2 := hM.at_ (show (w.heap.size + 1, 0, (.slice pc xs.length cc)) ∈ _ from by simp); have c3 := hM.at_ (show (w.heap.size + 1, 1, (.slice (some ⟨bd, od, none⟩) xs.length cd)) ∈ _ from by simp); have c4 := hM.at_ (show (w.heap.size + 2, 0, (.slice none 0 0)) ∈ _ from by simp); have c5 := hM.at_ (show (w.heap.size + 2, 1, (.slice none 0 0)) ∈ _ from by simp)
              refine wpOp_plain rfl rfl ?_
              simp only [updAll, Act.put, List.setIfInBounds_toArray, List.set_cons_zero, List.set_cons_succ] at hK' ⊢
              go_wp2_with (go_at_call 12; refine (CE.out _ (HA.out.step (by first | exact hM.bel | exact bStep hM.bel (Below.refl _ _).drew)) (HB.out.step (by first | exact hM.bel | exact bStep hM.bel (Below.refl _ _).drew))).mono ?_; rintro e w1 ⟨rfl, hb1⟩)
              all_goals (first | exact ⟨rfl, hb1⟩ | exact hK' _ _ ⟨rfl, hb1⟩)
            · rintro a' w' ⟨rfl, hb1⟩
              refine ⟨true, true, b2, b3, b4, b5, (.agg #[(.slice pa xs.length ca), (.slice (some ⟨bb, ob, none⟩) xs.length cb)]), _, v16, v17, v10, v11, by rfl, ?_, fun _ => rfl, fun _ => rfl, f2, f3, f4, f5, hM.step hb1, Nat.le_trans hz hb1.size⟩
              rw [← hA0]
              simp [updAll, Act.put]
          · obtain rfl : b2 = false := by simpa using hlst
            obtain rfl := Option.some.inj (show some _ = some oop from hopi)
            refine step_to (a' := (updAll A0 [(14, v14), (15, v15), (16, v16), (17, v17), (10, v10), (11, v11)]).put (some 16) ((.agg #[(.slice pc xs.length cc), (.slice (some ⟨bd, od, none⟩) xs.length cd)]))) (w' := W) ?_ ?_
            · intro K' hK'
              subst hA0
              have c0 := hM.at_ (show (w.heap.size, 0, (.slice pa xs.length ca)) ∈ _ from by simp); have c1 := hM.at_ (show (w.heap.size, 1, (.slice (some ⟨bb, ob, none⟩) xs.length cb)) ∈ _ from by simp); have c2 := hM.at_ (show (w.heap.size + 1, 0, (.slice pc xs.length cc)) ∈ _ from by simp); have c3 := hM.at_ (show (w.heap.size + 1, 1, (.slice (some ⟨bd, od, none⟩) xs.length cd)) ∈ _ from by simp); have c4 := hM.at_ (show (w.heap.size + 2, 0, (.slice none 0 0)) ∈ _ from by simp); have c5 := hM.at_ (show (w.heap.size + 2, 1, (.slice none 0 0)) ∈ _ from by simp)
              refine wpOp_plain rfl rfl ?_
              simp only [updAll, Act.put, List.setIfInBounds_toArray, List.set_cons_zero, List.set_cons_succ] at hK' ⊢
              go_wp2
              exact hK'
            · refine ⟨b0, b1, true, b3, b4, b5, v14, v15, _, v17, v10, v11, by rfl, ?_, f0, f1, fun _ => rfl, f3, f4, f5, hM, hz⟩
              rw [← hA0]
              simp [updAll, Act.put]
          · obtain rfl : b3 = false := by simpa using hlst
            obtain rfl := Option.some.inj (show some _ = some oop from hopi)
            obtain rfl : b2 = true := by
              rcases Bool.eq_false_or_eq_true b2 with hbb | hbb
              · exact hbb
              · exfalso; subst hbb; revert hdep; simp [Region.binds]
            have e2 := f2 rfl
            subst e2
            refine step_ex (fun a' w' => a' = (updAll A0 [(14, v14), (15, v15), (16, (.agg #[(.slice pc xs.length cc), (.slice (some ⟨bd, od, none⟩) xs.length cd)])), (17, v17), (10, v10), (11, v11)]).put (some 17) ((.int .i64 0)) ∧ Below W.heap.size W w') ?_ ?_
            · intro K' hK'
              subst hA0
              have c0 := hM.at_ (show (w.heap.size, 0, (.slice pa xs.length ca)) ∈ _ from by simp); have c1 := hM.at_ (show (w.heap.size, 1, (.slice (some ⟨bb, ob, none⟩) xs.length cb)) ∈ _ from by simp); have c2 := hM.at_ (show (w.heap.size + 1, 0, (.slice pc xs.length cc)) ∈ _ from by simp); have c3 := hM.at_ (show (w.heap.size + 1, 1, (.slice (some ⟨bd, od, none⟩) xs.length cd)) ∈ _ from by simp); have c4 := hM.at_ (show (w.heap.size + 2, 0, (.slice none 0 0)) ∈ _ from by simp); have c5 := hM.at_ (show (w.heap.size + 2, 1, (.slice none 0 0)) ∈ _ from by simp)
              refine wpOp_plain rfl rfl ?_
              simp only [updAll, Act.put, List.setIfInBounds_toArray, List.set_cons_zero, List.set_cons_succ] at hK' ⊢
              go_wp2_with (go_at_call 12; refine (CF.out _ (HC.out.step (by first | exact hM.bel | exact bStep hM.bel (Below.refl _ _).drew)) (HD.out.step (by first | exact hM.bel | exact bStep hM.bel (Below.refl _ _).drew))).mono ?_; rintro e w1 ⟨rfl, hb1⟩)
              all_goals (first | exact ⟨rfl, hb1⟩ | exact hK' _ _ ⟨rfl, hb1⟩)
            · rintro a' w' ⟨rfl, hb1⟩
              refine ⟨b0, b1, true, true, b4, b5, v14, v15, (.agg #[(.slice pc xs.length cc), (.slice (some ⟨bd, od, none⟩) xs.length cd)]), _, v10, v11, by rfl, ?_, f0, f1, fun _ => rfl, fun _ => rfl, f4, f5, hM.step hb1, Nat.le_trans hz hb1.size⟩
              rw [← hA0]
              simp [updAll, Act.put]
          · obtain rfl : b4 = false := by simpa using hlst
            obtain rfl := Option.some.inj (show some _ = some oop from hopi)
            obtain rfl : b1 = true := by
              rcases Bool.eq_false_or_eq_true b1 with hbb | hbb
              · exact hbb
              · exfalso; subst hbb; revert hdep; simp [Region.binds]
            have e1 := f1 rfl
            subst e1
            refine step_to (a' := (updAll A0 [(14, v14), (15, (.int .i64 0)), (16, v16), (17, v17), (10, v10), (11, v11)]).put (some 10) ((.int .i64 0))) (w' := W) ?_ ?_
            · intro K' hK'
              subst hA0
              have c0 := hM.at_ (show (w.heap.size, 0, (.slice pa xs.length ca)) ∈ _ from by simp); have c1 := hM.at_ (show (w.heap.size, 1, (.slice (some ⟨bb, ob, none⟩) xs.length cb)) ∈ _ from by simp); have c2 := hM.at_ (show (w.heap.size + 1, 0, (.slice pc xs.length cc)) ∈ _ from by simp); have c3 := hM.at_ (show (w.heap.size + 1, 1, (.slice (some ⟨bd, od, none⟩) xs.length cd)) ∈ _ from by simp); have c4 := hM.at_ (show (w.heap.size + 2, 0, (.slice none 0 0)) ∈ _ from by simp); have c5 := hM.at_ (show (w.heap.size + 2, 1, (.slice none 0 0)) ∈ _ from by simp)
              refine wpOp_plain rfl rfl ?_
              simp only [updAll, Act.put, List.setIfInBounds_toArray, List.set_cons_zero, List.set_cons_succ] at hK' ⊢
              go_wp2
              exact hK'
            · refine ⟨b0, true, b2, b3, true, b5, v14, (.int .i64 0), v16, v17, _, v11, by rfl, ?_, f0, fun _ => rfl, f2, f3, fun _ => rfl, f5, hM, hz⟩
              rw [← hA0]
              simp [updAll, Act.put]
          · obtain rfl : b5 = false := by simpa using hlst
            obtain rfl := Option.some.inj (show some _ = some oop from hopi)
            obtain rfl : b3 = true := by
              rcases Bool.eq_false_or_eq_true b3 with hbb | hbb
              · exact hbb
              · exfalso; subst hbb; revert hdep; simp [Region.binds]
            have e3 := f3 rfl
            subst e3
            refine step_to (a' := (updAll A0 [(14, v14), (15, v15), (16, v16), (17, (.int .i64 0)), (10, v10), (11, v11)]).put (some 11) ((.int .i64 0))) (w' := W) ?_ ?_
            · intro K' hK'
              subst hA0
              have c0 := hM.at_ (show (w.heap.size, 0, (.slice pa xs.length ca)) ∈ _ from by simp); have c1 := hM.at_ (show (w.heap.size, 1, (.slice (some ⟨bb, ob, none⟩) xs.length cb)) ∈ _ from by simp); have c2 := hM.at_ (show (w.heap.size + 1, 0, (.slice pc xs.length cc)) ∈ _ from by simp); have c3 := hM.at_ (show (w.heap.size + 1, 1, (.slice (some ⟨bd, od, none⟩) xs.length cd)) ∈ _ from by simp); have c4 := hM.at_ (show (w.heap.size + 2, 0, (.slice none 0 0)) ∈ _ from by simp); have c5 := hM.at_ (show (w.heap.size + 2, 1, (.slice none 0 0)) ∈ _ from by simp)
              refine wpOp_plain rfl rfl ?_
              simp only [updAll, Act.put, List.setIfInBounds_toArray, List.set_cons_zero, List.set_cons_succ] at hK' ⊢
              go_wp2
              exact hK'
            · refine ⟨b0, b1, b2, true, b4, true, v14, v15, v16, (.int .i64 0), v10, _, by rfl, ?_, f0, f1, f2, fun _ => rfl, f4, fun _ => rfl, hM, hz⟩
              rw [← hA0]
              simp [updAll, Act.put]
        case done =>
          rintro l a W ⟨b0, b1, b2, b3, b4, b5, v14, v15, v16, v17, v10, v11, rfl, rfl, f0, f1, f2, f3, f4, f5, hM, hz⟩ hall
          obtain rfl : b0 = true := by simpa using hall 0 (by decide)
          obtain rfl : b1 = true := by simpa using hall 1 (by decide)
          obtain rfl : b2 = true := by simpa using hall 2 (by decide)
          obtain rfl : b3 = true := by simpa using hall 3 (by decide)
          obtain rfl : b4 = true := by simpa using hall 4 (by decide)
          obtain rfl : b5 = true := by simpa using hall 5 (by decide)
          have e0 := f0 rfl
          subst e0
          have e1 := f1 rfl
          subst e1
          have e2 := f2 rfl
          subst e2
          have e3 := f3 rfl
          subst e3
          have e4 := f4 rfl
          subst e4
          have e5 := f5 rfl
          subst e5
          subst hA0
          simp only [updAll, Act.put, List.setIfInBounds_toArray, List.set_cons_zero, List.set_cons_succ]
          go_wp2_with fail
          go_meet
          exact ⟨rfl, rfl, hM⟩
      case rest =>
        obtain ⟨rfl, rfl, hM⟩ := hcut
        have c0 := hM.at_ (show (w.heap.size, 0, (.slice pa xs.length ca)) ∈ _ from by simp); have c1 := hM.at_ (show (w.heap.size, 1, (.slice (some ⟨bb, ob, none⟩) xs.length cb)) ∈ _ from by simp); have c2 := hM.at_ (show (w.heap.size + 1, 0, (.slice pc xs.length cc)) ∈ _ from by simp); have c3 := hM.at_ (show (w.heap.size + 1, 1, (.slice (some ⟨bd, od, none⟩) xs.length cd)) ∈ _ from by simp); have c4 := hM.at_ (show (w.heap.size + 2, 0, (.slice none 0 0)) ∈ _ from by simp); have c5 := hM.at_ (show (w.heap.size + 2, 1, (.slice none 0 0)) ∈ _ from by simp)
        have fr0 := hM.free (o := 0)
        have fr1 := hM.free (o := 1)
        have hbel := hM.bel
        have hsz3 := hM.lt
        have HK := Lib.hid hM
        clear hM HS
        clear CE CF
        go_upto_region 10 with (first | (go_at_call 44; refine (CQ.out _ (HA.out.step (by first | assumption | exact bStep hbel (by repeat' (first | exact Below.refl _ _ | apply bDrewN | apply bDrew)))) (HC.out.step (by first | assumption | exact bStep hbel (by repeat' (first | exact Below.refl _ _ | apply bDrewN | apply bDrew))))).mono ?_; rintro e w1 ⟨rfl, hb1⟩; obtain ⟨hcw1, hfw1⟩ := bcell hb1; have hzw1 := Below.size hb1) | (go_at_call 45; refine (below_any _ _).mono ?_; rintro e w' ⟨rfl, rfl⟩))
        have HS := Lib.hid (HK.out.step hb1)
        obtain ⟨x0, x1, x2, x3, x4, x5⟩ : True ∧ True ∧ True ∧ True ∧ True ∧ True := ⟨trivial, trivial, trivial, trivial, trivial, trivial⟩
        clear x0 x1 x2 x3 x4 x5 HK CQ c0 c1 c2 c3 c4 c5 fr0 fr1 hcw1 hfw1 hb1 hbel
        have hsz := HS.out.bel.size
        go_cut [12] (fun s12 W => ∃ r gx cx gy cy : Nat, s12 = .pointer (some ⟨r, 0, none⟩) ∧ CuBox (w.heap.size + 3) r gx cx gy cy xs ys W ∧ Kf w (w.heap.size + 3) [(w.heap.size, 0, (.slice pa xs.length ca)), (w.heap.size, 1, (.slice (some ⟨bb, ob, none⟩) xs.length cb)), (w.heap.size + 1, 0, (.slice pc xs.length cc)), (w.heap.size + 1, 1, (.slice (some ⟨bd, od, none⟩) xs.length cd)), (w.heap.size + 2, 0, (.slice none 0 0)), (w.heap.size + 2, 1, (.slice none 0 0))] (w.heap.size + 2) W)
        case first =>
          generalize hA0 : (Act.mk _ _) = A0
          refine region_inv (by kernel_rfl) (by kernel_rfl) (fun l a W => ∃ (b0 b1 b2 b3 b4 b5 b6 b7 b8 : Bool) (v56 v57 v58 v59 v60 v61 v62 v12 : Value), l = #[b0, b1, b2, b3, b4, b5, b6, b7, b8] ∧ a = updAll A0 [(56, v56), (57, v57), (58, v58), (59, v59), (60, v60), (61, v61), (62, v62), (12, v12)] ∧ (b0 = true → v56 = (.pointer (some ⟨w.heap.size, 0, none⟩))) ∧ (b1 = true → v57 = (.slice pa xs.length ca)) ∧ (b3 = true → v59 = (.pointer (some ⟨w.heap.size, 1, none⟩))) ∧ (b4 = true → v60 = (.slice (some ⟨bb, ob, none⟩) xs.length cb)) ∧ Kf w (w.heap.size + 3) [(w.heap.size, 0, (.slice pa xs.length ca)), (w.heap.size, 1, (.slice (some ⟨bb, ob, none⟩) xs.length cb)), (w.heap.size + 1, 0, (.slice pc xs.length cc)), (w.heap.size + 1, 1, (.slice (some ⟨bd, od, none⟩) xs.length cd)), (w.heap.size + 2, 0, (.slice none 0 0)), (w.heap.size + 2, 1, (.slice none 0 0))] (w.heap.size + 2) W ∧ w.heap.size + 3 ≤ W.heap.size ∧ Clo (w.heap.size + 3) xs ys b2 b5 b6 b7 b8 v58 v61 v62 v12 W) ?h0 ?hsz ?step ?done
          case h0 =>
            refine ⟨false, false, false, false, false, false, false, false, false, A0.tmps.getD 56 undef, A0.tmps.getD 57 undef, A0.tmps.getD 58 undef, A0.tmps.getD 59 undef, A0.tmps.getD 60 undef, A0.tmps.getD 61 undef, A0.tmps.getD 62 undef, A0.tmps.getD 12 undef, by rfl, ?_, by simp, by simp, by simp, by simp, (HS.out).drew, (by first | omega | (simp; omega) | simp), Clo.new⟩
            rw [← hA0]
            simp [updAll, Act.put]
          case hsz =>
            rintro l a W ⟨b0, b1, b2, b3, b4, b5, b6, b7, b8, v56, v57, v58, v59, v60, v61, v62, v12, rfl, -⟩
            rfl
          case step =>
            intro iop oop hopi lst act W hInv hlst hdep
            obtain ⟨b0, b1, b2, b3, b4, b5, b6, b7, b8, v56, v57, v58, v59, v60, v61, v62, v12, rfl, rfl, f0, f1, f3, f4, hM, hz, hC⟩ := hInv
            have hi8 : iop < 9 := (Array.getElem?_eq_some_iff.1 hopi).1
            have hi9 : iop = 0 ∨ iop = 1 ∨ iop = 2 ∨ iop = 3 ∨ iop = 4 ∨ iop = 5 ∨ iop = 6 ∨ iop = 7 ∨ iop = 8 := by omega
            rcases hi9 with rfl | rfl | rfl | rfl | rfl | rfl | rfl | rfl | rfl
            · obtain rfl : b0 = false := by simpa using hlst
              obtain rfl := Option.some.inj (show some _ = some oop from hopi)
              refine step_to (a' := (updAll A0 [(56, v56), (57, v57), (58, v58), (59, v59), (60, v60), (61, v61), (62, v62), (12, v12)]).put (some 56) ((.pointer (some ⟨w.heap.size, 0, none⟩)))) (w' := W) ?_ ?_
              · intro K' hK'
                subst hA0
                have c0 := hM.at_ (show (w.heap.size, 0, (.slice pa xs.length ca)) ∈ _ from by simp); have c1 := hM.at_ (show (w.heap.size, 1, (.slice (some ⟨bb, ob, none⟩) xs.length cb)) ∈ _ from by simp); have c2 := hM.at_ (show (w.heap.size + 1, 0, (.slice pc xs.length cc)) ∈ _ from by simp); have c3 := hM.at_ (show (w.heap.size + 1, 1, (.slice (some ⟨bd, od, none⟩) xs.length cd)) ∈ _ from by simp); have c4 := hM.at_ (show (w.heap.size + 2, 0, (.slice none 0 0)) ∈ _ from by simp); have c5 := hM.at_ (show (w.heap.size + 2, 1, (.slice none 0 0)) ∈ _ from by simp)
                refine wpOp_plain rfl rfl ?_
                simp only [updAll, Act.put, List.setIfInBounds_toArray, List.set_cons_zero, List.set_cons_succ] at hK' ⊢
                go_wp2
                exact hK'
              · refine ⟨true, b1, b2, b3, b4, b5, b6, b7, b8, _, v57, v58, v59, v60, v61, v62, v12, by rfl, ?_, fun _ => rfl, f1, f3, f4, hM, hz, hC⟩
                rw [← hA0]
                simp [updAll, Act.put]
            · obtain rfl : b1 = false := by simpa using hlst
              obtain rfl := Option.some.inj (show some _ = some oop from hopi)
              obtain rfl : b0 = true := by
                rcases Bool.eq_false_or_eq_true b0 with hbb | hbb
                · exact hbb
                · exfalso; subst hbb; revert hdep; simp [Region.binds]
              have e0 := f0 rfl
              subst e0
              refine step_to (a' := (updAll A0 [(56, (.pointer (some ⟨w.heap.size, 0, none⟩))), (57, v57), (58, v58), (59, v59), (60, v60), (61, v61), (62, v62), (12, v12)]).put (some 57) ((.slice pa xs.length ca))) (w' := W) ?_ ?_
              · intro K' hK'
                subst hA0
                have c0 := hM.at_ (show (w.heap.size, 0, (.slice pa xs.length ca)) ∈ _ from by simp); have c1 := hM.at_ (show (w.heap.size, 1, (.slice (some ⟨bb, ob, none⟩) xs.length cb)) ∈ _ from by simp); have c2 := hM.at_ (show (w.heap.size + 1, 0, (.slice pc xs.length cc)) ∈ _ from by simp); have c3 := hM.at_ (show (w.heap.size + 1, 1, (.slice (some ⟨bd, od, none⟩) xs.length cd)) ∈ _ from by simp); have c4 := hM.at_ (show (w.heap.size + 2, 0, (.slice none 0 0)) ∈ _ from by simp); have c5 := hM.at_ (show (w.heap.size + 2, 1, (.slice none 0 0)) ∈ _ from by simp)
                refine wpOp_plain rfl rfl ?_
                simp only [updAll, Act.put, List.setIfInBounds_toArray, List.set_cons_zero, List.set_cons_succ] at hK' ⊢
                go_wp2
                exact hK'
              · refine ⟨true, true, b2, b3, b4, b5, b6, b7, b8, (.pointer (some ⟨w.heap.size, 0, none⟩)), _, v58, v59, v60, v61, v62, v12, by rfl, ?_, fun _ => rfl, fun _ => rfl, f3, f4, hM, hz, hC⟩
                rw [← hA0]
                simp [updAll, Act.put]
            · obtain rfl : b2 = false := by simpa using hlst
              obtain rfl := Option.some.inj (show some _ = some oop from hopi)
              obtain rfl : b1 = true := by
                rcases Bool.eq_false_or_eq_true b1 with hbb | hbb
                · exact hbb
                · exfalso; subst hbb; revert hdep; simp [Region.binds]
              have e1 := f1 rfl
              subst e1
              refine step_ex (fun a' w' => ∃ x', a' = (updAll A0 [(56, v56), (57, (.slice pa xs.length ca)), (58, v58), (59, v59), (60, v60), (61, v61), (62, v62), (12, v12)]).put (some 58) x' ∧ IntOwn w' W.heap.size x' xs ∧ Below W.heap.size W w') ?_ ?_
              · intro K' hK'
                subst hA0
                have c0 := hM.at_ (show (w.heap.size, 0, (.slice pa xs.length ca)) ∈ _ from by simp); have c1 := hM.at_ (show (w.heap.size, 1, (.slice (some ⟨bb, ob, none⟩) xs.length cb)) ∈ _ from by simp); have c2 := hM.at_ (show (w.heap.size + 1, 0, (.slice pc xs.length cc)) ∈ _ from by simp); have c3 := hM.at_ (show (w.heap.size + 1, 1, (.slice (some ⟨bd, od, none⟩) xs.length cd)) ∈ _ from by simp); have c4 := hM.at_ (show (w.heap.size + 2, 0, (.slice none 0 0)) ∈ _ from by simp); have c5 := hM.at_ (show (w.heap.size + 2, 1, (.slice none 0 0)) ∈ _ from by simp)
                refine wpOp_plain rfl rfl ?_
                simp only [updAll, Act.put, List.setIfInBounds_toArray, List.set_cons_zero, List.set_cons_succ] at hK' ⊢
                go_wp2_with (go_at_call 40; refine (K1.out _ (HA.out.step (by first | exact hM.bel | exact bStep hM.bel (Below.refl _ _).drew))).mono ?_; rintro e w1 ⟨x', rfl, ox, hb1⟩)
                all_goals (first | exact ⟨_, rfl, ox, hb1⟩ | exact hK' _ _ ⟨_, rfl, ox, hb1⟩)
              · rintro a' w' ⟨x', rfl, ox, hb1⟩
                refine ⟨b0, true, true, b3, b4, b5, b6, b7, b8, v56, (.slice pa xs.length ca), _, v59, v60, v61, v62, v12, by rfl, ?_, f0, fun _ => rfl, f3, f4, hM.step hb1, Nat.le_trans hz hb1.size, hC.mkX hne hz hb1 ox⟩
                rw [← hA0]
                simp [updAll, Act.put]
            · obtain rfl : b3 = false := by simpa using hlst
              obtain rfl := Option.some.inj (show some _ = some oop from hopi)
              refine step_to (a' := (updAll A0 [(56, v56), (57, v57), (58, v58), (59, v59), (60, v60), (61, v61), (62, v62), (12, v12)]).put (some 59) ((.pointer (some ⟨w.heap.size, 1, none⟩)))) (w' := W) ?_ ?_
              · intro K' hK'
                subst hA0
                have c0 := hM.at_ (show (w.heap.size, 0, (.slice pa xs.length ca)) ∈ _ from by simp); have c1 := hM.at_ (show (w.heap.size, 1, (.slice (some ⟨bb, ob, none⟩) xs.length cb)) ∈ _ from by simp); have c2 := hM.at_ (show (w.heap.size + 1, 0, (.slice pc xs.length cc)) ∈ _ from by simp); have c3 := hM.at_ (show (w.heap.size + 1, 1, (.slice (some ⟨bd, od, none⟩) xs.length cd)) ∈ _ from by simp); have c4 := hM.at_ (show (w.heap.size + 2, 0, (.slice none 0 0)) ∈ _ from by simp); have c5 := hM.at_ (show (w.heap.size + 2, 1, (.slice none 0 0)) ∈ _ from by simp)
                refine wpOp_plain rfl rfl ?_
                simp only [updAll, Act.put, List.setIfInBounds_toArray, List.set_cons_zero, List.set_cons_succ] at hK' ⊢
                go_wp2
                exact hK'
              · refine ⟨b0, b1, b2, true, b4, b5, b6, b7, b8, v56, v57, v58, _, v60, v61, v62, v12, by rfl, ?_, f0, f1, fun _ => rfl, f4, hM, hz, hC⟩
                rw [← hA0]
                simp [updAll, Act.put]
            · obtain rfl : b4 = false := by simpa using hlst
              obtain rfl := Option.some.inj (show some _ = some oop from hopi)
              obtain rfl : b3 = true := by
                rcases Bool.eq_false_or_eq_true b3 with hbb | hbb
                · exact hbb
                · exfalso; subst hbb; revert hdep; simp [Region.binds]
              have e3 := f3 rfl
              subst e3
              refine step_to (a' := (updAll A0 [(56, v56), (57, v57), (58, v58), (59, (.pointer (some ⟨w.heap.size, 1, none⟩))), (60, v60), (61, v61), (62, v62), (12, v12)]).put (some 60) ((.slice (some ⟨bb, ob, none⟩) xs.length cb))) (w' := W) ?_ ?_
              · intro K' hK'
                subst hA0
                have c0 := hM.at_ (show (w.heap.size, 0, (.slice pa xs.length ca)) ∈ _ from by simp); have c1 := hM.at_ (show (w.heap.size, 1, (.slice (some ⟨bb, ob, none⟩) xs.length cb)) ∈ _ from by simp); have c2 := hM.at_ (show (w.heap.size + 1, 0, (.slice pc xs.length cc)) ∈ _ from by simp); have c3 := hM.at_ (show (w.heap.size + 1, 1, (.slice (some ⟨bd, od, none⟩) xs.length cd)) ∈ _ from by simp); have c4 := hM.at_ (show (w.heap.size + 2, 0, (.slice none 0 0)) ∈ _ from by simp); have c5 := hM.at_ (show (w.heap.size + 2, 1, (.slice none 0 0)) ∈ _ from by simp)
                refine wpOp_plain rfl rfl ?_
                simp only [updAll, Act.put, List.setIfInBounds_toArray, List.set_cons_zero, List.set_cons_succ] at hK' ⊢
                go_wp2
                exact hK'
              · refine ⟨b0, b1, b2, true, true, b5, b6, b7, b8, v56, v57, v58, (.pointer (some ⟨w.heap.size, 1, none⟩)), _, v61, v62, v12, by rfl, ?_, f0, f1, fun _ => rfl, fun _ => rfl, hM, hz, hC⟩
                rw [← hA0]
                simp [updAll, Act.put]
            · obtain rfl : b5 = false := by simpa using hlst
              obtain rfl := Option.some.inj (show some _ = some oop from hopi)
              obtain rfl : b4 = true := by
                rcases Bool.eq_false_or_eq_true b4 with hbb | hbb
                · exact hbb
                · exfalso; subst hbb; revert hdep; simp [Region.binds]
              have e4 := f4 rfl
              subst e4
              refine step_ex (fun a' w' => ∃ x', a' = (updAll A0 [(56, v56), (57, v57), (58, v58), (59, v59), (60, (.slice (some ⟨bb, ob, none⟩) xs.length cb)), (61, v61), (62, v62), (12, v12)]).put (some 61) x' ∧ IntOwn w' W.heap.size x' ys ∧ Below W.heap.size W w') ?_ ?_
              · intro K' hK'
                subst hA0
                have c0 := hM.at_ (show (w.heap.size, 0, (.slice pa xs.length ca)) ∈ _ from by simp); have c1 := hM.at_ (show (w.heap.size, 1, (.slice (some ⟨bb, ob, none⟩) xs.length cb)) ∈ _ from by simp); have c2 := hM.at_ (show (w.heap.size + 1, 0, (.slice pc xs.length cc)) ∈ _ from by simp); have c3 := hM.at_ (show (w.heap.size + 1, 1, (.slice (some ⟨bd, od, none⟩) xs.length cd)) ∈ _ from by simp); have c4 := hM.at_ (show (w.heap.size + 2, 0, (.slice none 0 0)) ∈ _ from by simp); have c5 := hM.at_ (show (w.heap.size + 2, 1, (.slice none 0 0)) ∈ _ from by simp)
                refine wpOp_plain rfl rfl ?_
                simp only [updAll, Act.put, List.setIfInBounds_toArray, List.set_cons_zero, List.set_cons_succ] at hK' ⊢
                go_wp2_with (go_at_call 40; refine (K2.out _ (HB.out.step (by first | exact hM.bel | exact bStep hM.bel (Below.refl _ _).drew))).mono ?_; rintro e w1 ⟨x', rfl, ox, hb1⟩)
                all_goals (first | exact ⟨_, rfl, ox, hb1⟩ | exact hK' _ _ ⟨_, rfl, ox, hb1⟩)
              · rintro a' w' ⟨x', rfl, ox, hb1⟩
                refine ⟨b0, b1, b2, b3, true, true, b6, b7, b8, v56, v57, v58, v59, (.slice (some ⟨bb, ob, none⟩) xs.length cb), _, v62, v12, by rfl, ?_, f0, f1, f3, fun _ => rfl, hM.step hb1, Nat.le_trans hz hb1.size, hC.mkY hne2 hz hb1 ox⟩
                rw [← hA0]
                simp [updAll, Act.put]
            · obtain rfl : b6 = false := by simpa using hlst
              obtain rfl := Option.some.inj (show some _ = some oop from hopi)
              obtain rfl : b2 = true := by
                rcases Bool.eq_false_or_eq_true b2 with hbb | hbb
                · exact hbb
                · exfalso; subst hbb; revert hdep; simp [Region.binds]
              obtain rfl : b5 = true := by
                rcases Bool.eq_false_or_eq_true b5 with hbb | hbb
                · exact hbb
                · exfalso; subst hbb; revert hdep; simp [Region.binds]
              refine step_to (a' := (updAll A0 [(56, v56), (57, v57), (58, v58), (59, v59), (60, v60), (61, v61), (62, v62), (12, v12)]).put (some 62) (.agg #[v58, v61])) (w' := W) ?_ ?_
              · intro K' hK'
                subst hA0
                obtain ⟨g1, c1, -, er1, -⟩ := hC.gx
                obtain ⟨g2, c2, -, er2, -⟩ := hC.gy
                subst er1 er2
                refine wpOp_plain rfl rfl ?_
                simp only [updAll, Act.put, List.setIfInBounds_toArray, List.set_cons_zero, List.set_cons_succ] at hK' ⊢
                go_wp2
                exact hK'
              · refine ⟨b0, b1, true, b3, b4, true, true, b7, b8, v56, v57, v58, v59, v60, v61, _, v12, by rfl, ?_, f0, f1, f3, f4, hM, hz, hC.mkA⟩
                rw [← hA0]
                simp [updAll, Act.put]
            · obtain rfl : b7 = false := by simpa using hlst
              obtain rfl := Option.some.inj (show some _ = some oop from hopi)
              refine step_to (a' := (updAll A0 [(56, v56), (57, v57), (58, v58), (59, v59), (60, v60), (61, v61), (62, v62), (12, v12)]).put (some 12) (.pointer (some ⟨W.heap.size, 0, none⟩))) (w' := W.alloc (.cells zCurve 24)) ?_ ?_
              · intro K' hK'
                subst hA0
                refine wpOp_plain rfl rfl ?_
                unfold zCurve at hK'
                simp only [updAll, Act.put, List.setIfInBounds_toArray, List.set_cons_zero, List.set_cons_succ] at hK' ⊢
                go_wp2
                exact hK'
              · refine ⟨b0, b1, b2, b3, b4, b5, b6, true, b8, v56, v57, v58, v59, v60, v61, v62, _, by rfl, ?_, f0, f1, f3, f4, hM.alloc, (by first | omega | (simp; omega) | simp), hC.mkS hz⟩
                rw [← hA0]
                simp [updAll, Act.put]
            · obtain rfl : b8 = false := by simpa using hlst
              obtain rfl := Option.some.inj (show some _ = some oop from hopi)
              obtain rfl : b7 = true := by
                rcases Bool.eq_false_or_eq_true b7 with hbb | hbb
                · exact hbb
                · exfalso; subst hbb; revert hdep; simp [Region.binds]
              obtain rfl : b6 = true := by
                rcases Bool.eq_false_or_eq_true b6 with hbb | hbb
                · exact hbb
                · exfalso; subst hbb; revert hdep; simp [Region.binds]
              obtain rfl : b2 = true := (hC.2.2.2.1 rfl).1
              obtain rfl : b5 = true := (hC.2.2.2.1 rfl).2.1
              have eA := hC.agg
              subst eA
              obtain ⟨r, er, hr2, hr3⟩ := hC.box
              subst er
              simp only [Bool.false_eq_true, if_false, zCurve] at hr3
              refine step_to (a' := updAll A0 [(56, v56), (57, v57), (58, v58), (59, v59), (60, v60), (61, v61), (62, .agg #[v58, v61]), (12, (.pointer (some ⟨r, 0, none⟩)))]) (w' := ((W.setCell ⟨r, 0, none⟩ v58).setCell ⟨r, 1, none⟩ v61)) ?_ ?_
              · intro K' hK'
                subst hA0
                obtain ⟨g1, c1, -, er1, -⟩ := hC.gx
                obtain ⟨g2, c2, -, er2, -⟩ := hC.gy
                subst er1 er2
                have q0 := blk_cell (o := 0) hr3 rfl
                have p0 := blk_free (o := 0) hr3
                have q1 := blk_cell (o := 1) hr3 rfl
                have p1 := blk_free (o := 1) hr3
                refine wpOp_plain rfl rfl ?_
                simp only [updAll, Act.put, List.setIfInBounds_toArray, List.set_cons_zero, List.set_cons_succ] at hK' ⊢
                go_wp2
                exact hK'
              · exact ⟨_, _, _, _, _, _, _, _, _, _, _, _, _, _, _, _, _, by rfl, rfl, f0, f1, f3, f4, (hM.set hr2).set hr2, by simpa using hz, hC.mkSt⟩
          case done =>
            rintro l a W ⟨b0, b1, b2, b3, b4, b5, b6, b7, b8, v56, v57, v58, v59, v60, v61, v62, v12, rfl, rfl, f0, f1, f3, f4, hM, hz, hC⟩ hall
            obtain rfl : b0 = true := by simpa using hall 0 (by decide)
            obtain rfl : b1 = true := by simpa using hall 1 (by decide)
            obtain rfl : b2 = true := by simpa using hall 2 (by decide)
            obtain rfl : b3 = true := by simpa using hall 3 (by decide)
            obtain rfl : b4 = true := by simpa using hall 4 (by decide)
            obtain rfl : b5 = true := by simpa using hall 5 (by decide)
            obtain rfl : b6 = true := by simpa using hall 6 (by decide)
            obtain rfl : b7 = true := by simpa using hall 7 (by decide)
            obtain rfl : b8 = true := by simpa using hall 8 (by decide)
            obtain ⟨r, gx, cx, gy, cy, er, hBox⟩ := hC.fin
            subst er
            subst hA0
            simp only [updAll, Act.put, List.setIfInBounds_toArray, List.set_cons_zero, List.set_cons_succ]
            go_wp2_with fail
            go_meet
            exact ⟨r, gx, cx, gy, cy, rfl, hBox, hM⟩
        case rest =>
          obtain ⟨r, gx, cx, gy, cy, rfl, hBox, hM⟩ := hcut
          clear HS hsz hzw1 hsz3
          obtain ⟨e1, e2, -, -, d1, d2, d3, d4, d5, d6⟩ := id hBox
          have c0 := hM.at_ (show (w.heap.size, 0, (.slice pa xs.length ca)) ∈ _ from by simp); have c1 := hM.at_ (show (w.heap.size, 1, (.slice (some ⟨bb, ob, none⟩) xs.length cb)) ∈ _ from by simp); have c2 := hM.at_ (show (w.heap.size + 1, 0, (.slice pc xs.length cc)) ∈ _ from by simp); have c3 := hM.at_ (show (w.heap.size + 1, 1, (.slice (some ⟨bd, od, none⟩) xs.length cd)) ∈ _ from by simp); have c4 := hM.at_ (show (w.heap.size + 2, 0, (.slice none 0 0)) ∈ _ from by simp); have c5 := hM.at_ (show (w.heap.size + 2, 1, (.slice none 0 0)) ∈ _ from by simp)
          rw [HL.out.1] at e2
          have HX := Lib.hid hBox
          have HKeep := Lib.hid hM
          clear hBox hM
          go_wp2_with fail
          go_loopw [66] (fun i wr => ∃ (j : Nat) (zs : List Int), j ≤ xs.length ∧ i = .int .i64 j ∧ mixRow ys vs zs n k j ∧ CuBox (w.heap.size + 3) r gx cx gy cy xs zs wr ∧ Kf w (w.heap.size + 3) [(w.heap.size, 0, (.slice pa xs.length ca)), (w.heap.size, 1, (.slice (some ⟨bb, ob, none⟩) xs.length cb)), (w.heap.size + 1, 0, (.slice pc xs.length cc)), (w.heap.size + 1, 1, (.slice (some ⟨bd, od, none⟩) xs.length cd)), (w.heap.size + 2, 0, (.slice none 0 0)), (w.heap.size + 2, 1, (.slice none 0 0))] (w.heap.size + 2) wr) (fun i _ => xs.length - (intOf i).toNat)
          case atStart => exact ⟨0, ys, by omega, rfl, mixRow.zero, HX.out.step (by first | exact Below.refl _ _ | exact (Below.refl _ _).drew), HKeep.out.step (by first | exact Below.refl _ _ | exact (Below.refl _ _).drew)⟩
          case round =>
            obtain ⟨j, zs, hj, rfl, hz, hBox, hM⟩ := hrel
            clear HX HKeep c0 c1 c2 c3 c4 c5 e1 e2
            obtain ⟨e1, e2, f1, f2, -⟩ := id hBox
            rw [hz.1, HL.out.1] at e2
            have c0 := hM.at_ (show (w.heap.size, 0, (.slice pa xs.length ca)) ∈ _ from by simp); have c1 := hM.at_ (show (w.heap.size, 1, (.slice (some ⟨bb, ob, none⟩) xs.length cb)) ∈ _ from by simp); have c2 := hM.at_ (show (w.heap.size + 1, 0, (.slice pc xs.length cc)) ∈ _ from by simp); have c3 := hM.at_ (show (w.heap.size + 1, 1, (.slice (some ⟨bd, od, none⟩) xs.length cd)) ∈ _ from by simp); have c4 := hM.at_ (show (w.heap.size + 2, 0, (.slice none 0 0)) ∈ _ from by simp); have c5 := hM.at_ (show (w.heap.size + 2, 1, (.slice none 0 0)) ∈ _ from by simp)
            have HX := Lib.hid hBox
            have hbel := hM.bel
            have HK := Lib.hid hM
            by_cases hlt : j < xs.length
            · have hly : j < ys.length := by rw [HL.out.1]; exact hlt
              have hlv : j < vs.length := by rw [HL.out.2]; exact hlt
              obtain ⟨g3, g4⟩ := f2.cells (show j < zs.length by rw [hz.1]; exact hly)
              rw [hz.at_] at g3
              obtain ⟨_, _, ee, hlt1, -⟩ := id (HB.out hne2)
              cases ee
              obtain ⟨_, _, ee, hlt2, -⟩ := id (HD.out (fun e => by rw [e] at hlv; simp at hlv))
              cases ee
              obtain ⟨_, _, ee, r1⟩ := (HB.out.step hbel).at_ hly
              cases ee
              obtain ⟨_, _, ee, r2⟩ := (HD.out.step hbel).at_ hlv
              cases ee
              rw [show ys[j] = ys.getD j 0 by simp [List.getD_eq_getElem?_getD, List.getElem?_eq_getElem hly]] at r1
              rw [show vs[j] = vs.getD j 0 by simp [List.getD_eq_getElem?_getD, List.getElem?_eq_getElem hlv]] at r2
              have z1 := HQ.out.1 j
              have z2 := HQ.out.2 j
              have HD1 := Lib.hid (HDN.out j)
              have hwr := bmix_wrap (y := ys.getD j 0) (v := vs.getD j 0) (n := n) (k := k) z1 (by omega)
              have HZ2 := Lib.hid (hz.next hly)
              have HX2 := Lib.hid (show ∀ W, CuBox (w.heap.size + 3) r gx cx gy cy xs zs W → CuBox (w.heap.size + 3) r gx cx gy cy xs (zs.set j (bmix (ys.getD j 0) (vs.getD j 0) n k)) (W.setCell ⟨gy, j, none⟩ (.int .i64 (bmix (ys.getD j 0) (vs.getD j 0) n k))) from fun W h => h.setY (by rw [hz.1]; exact hly))
              clear hz HQ hBox hM f1 f2 hly hlv HDN
              unfold bmix at hwr HZ2 HX2
              generalize ys.getD j 0 = y1 at *
              generalize vs.getD j 0 = v1 at *
              have a4 : IntKind.i64.wrap (v1 - y1) = v1 - y1 := Go.IntWalk.i64_in _ ⟨by omega, by omega⟩
              generalize hx1 : v1 - y1 = x1 at *
              generalize dn x1 n k = q1 at *
              have a5 : IntKind.i64.wrap (y1 + q1) = y1 + q1 := Go.IntWalk.i64_in _ ⟨by omega, by omega⟩
              have i1 : (0 : Int) ≤ (j : Int) := by omega
              have i2 : (j : Int) < xs.length := by omega
              clear hne hne2 hwr
              go_upto_region 14 with fail

              refine region_chain 21 100 101 1000 1001 8 [(69, (.pointer (some ⟨r, 1, none⟩))), (70, (.slice (some ⟨gy, 0, none⟩) xs.length cy)), (71, (.int .i64 (j : Int))), (72, (.pointer (some ⟨gy, j, none⟩))), (73, (.int .i64 y1)), (74, (.pointer (some ⟨w.heap.size + 1, 1, none⟩))), (75, (.slice (some ⟨bd, od, none⟩) xs.length cd)), (76, (.int .i64 (j : Int))), (77, (.pointer (some ⟨bd, od + j, none⟩))), (78, (.int .i64 v1)), (79, (.pointer (some ⟨w.heap.size, 1, none⟩))), (80, (.slice (some ⟨bb, ob, none⟩) xs.length cb)), (81, (.int .i64 (j : Int))), (82, (.pointer (some ⟨bb, ob + j, none⟩))), (83, (.int .i64 y1)), (84, (.int .i64 x1)), (85, (.int .i64 n)), (86, (.int .i64 k)), (87, (.int .i64 q1)), (88, (.int .i64 (y1 + q1))), (89, (.pointer (some ⟨gy, j, none⟩)))] (fun _ _ _ _ W => ∃ m, W = wr.drewN m) (by kernel_rfl) (by kernel_rfl) rfl (by kernel_rfl) (by kernel_rfl) (by kernel_rfl) (by decide) (by decide) (by decide) (fun h => absurd h (by decide)) (fun h => absurd h (by decide)) (by rfl) ?h0 ?reads ?eff1 ?eff2 ?tail
              case h0 =>
                intro v1 v2
                exact ⟨1, by first | rfl | simp⟩
              case reads =>
                simp only [List.take_succ_cons, List.take_zero, AllRd]
                refine ⟨?_, ?_, ?_, ?_, ?_, ?_, ?_, ?_, ?_, ?_, ?_, ?_, ?_, ?_, ?_, ?_, ?_, ?_, ?_, ?_, ?_, trivial⟩
                · (intro hn1 hn2; clear hn1 hn2; refine ⟨69, (.pointer (some ⟨r, 1, none⟩)), rfl, by kernel_rfl, ?_⟩; intro b1 b2 v1 v2 W h; have HST := Lib.hid h; obtain ⟨m, rfl⟩ := h; intro K Q hK; simp only [updAll, Act.put, List.setIfInBounds_toArray, List.set_cons_zero, List.set_cons_succ, List.set_nil] at hK ⊢; go_wp2_with (go_at_call 46; refine (HD1.out _).mono ?_; rintro e w' ⟨rfl, kk, rfl⟩); all_goals (first | exact hK _ (by first | exact ⟨_, rfl⟩ | exact ⟨_, by simp⟩ | exact ⟨_, by first | exact Go.World.drewN_drewN .. | (simp; rfl)⟩) | exact (by first | exact ⟨_, rfl⟩ | exact ⟨_, by simp⟩ | exact ⟨_, by first | exact Go.World.drewN_drewN .. | (simp; rfl)⟩)))
                · (intro hn1 hn2; clear hn1 hn2; refine ⟨70, (.slice (some ⟨gy, 0, none⟩) xs.length cy), rfl, by kernel_rfl, ?_⟩; intro b1 b2 v1 v2 W h; have HST := Lib.hid h; obtain ⟨m, rfl⟩ := h; intro K Q hK; simp only [updAll, Act.put, List.setIfInBounds_toArray, List.set_cons_zero, List.set_cons_succ, List.set_nil] at hK ⊢; go_wp2_with (go_at_call 46; refine (HD1.out _).mono ?_; rintro e w' ⟨rfl, kk, rfl⟩); all_goals (first | exact hK _ (by first | exact ⟨_, rfl⟩ | exact ⟨_, by simp⟩ | exact ⟨_, by first | exact Go.World.drewN_drewN .. | (simp; rfl)⟩) | exact (by first | exact ⟨_, rfl⟩ | exact ⟨_, by simp⟩ | exact ⟨_, by first | exact Go.World.drewN_drewN .. | (simp; rfl)⟩)))
                · (intro hn1 hn2; clear hn1 hn2; refine ⟨71, (.int .i64 (j : Int)), rfl, by kernel_rfl, ?_⟩; intro b1 b2 v1 v2 W h; have HST := Lib.hid h; obtain ⟨m, rfl⟩ := h; intro K Q hK; simp only [updAll, Act.put, List.setIfInBounds_toArray, List.set_cons_zero, List.set_cons_succ, List.set_nil] at hK ⊢; go_wp2_with (go_at_call 46; refine (HD1.out _).mono ?_; rintro e w' ⟨rfl, kk, rfl⟩); all_goals (first | exact hK _ (by first | exact ⟨_, rfl⟩ | exact ⟨_, by simp⟩ | exact ⟨_, by first | exact Go.World.drewN_drewN .. | (simp; rfl)⟩) | exact (by first | exact ⟨_, rfl⟩ | exact ⟨_, by simp⟩ | exact ⟨_, by first | exact Go.World.drewN_drewN .. | (simp; rfl)⟩)))
                · (intro hn1 hn2; clear hn1 hn2; refine ⟨72, (.pointer (some ⟨gy, j, none⟩)), rfl, by kernel_rfl, ?_⟩; intro b1 b2 v1 v2 W h; have HST := Lib.hid h; obtain ⟨m, rfl⟩ := h; intro K Q hK; simp only [updAll, Act.put, List.setIfInBounds_toArray, List.set_cons_zero, List.set_cons_succ, List.set_nil] at hK ⊢; go_wp2_with (go_at_call 46; refine (HD1.out _).mono ?_; rintro e w' ⟨rfl, kk, rfl⟩); all_goals (first | exact hK _ (by first | exact ⟨_, rfl⟩ | exact ⟨_, by simp⟩ | exact ⟨_, by first | exact Go.World.drewN_drewN .. | (simp; rfl)⟩) | exact (by first | exact ⟨_, rfl⟩ | exact ⟨_, by simp⟩ | exact ⟨_, by first | exact Go.World.drewN_drewN .. | (simp; rfl)⟩)))
                · (intro hn1 hn2; clear hn1 hn2; refine ⟨73, (.int .i64 y1), rfl, by kernel_rfl, ?_⟩; intro b1 b2 v1 v2 W h; have HST := Lib.hid h; obtain ⟨m, rfl⟩ := h; intro K Q hK; simp only [updAll, Act.put, List.setIfInBounds_toArray, List.set_cons_zero, List.set_cons_succ, List.set_nil] at hK ⊢; go_wp2_with (go_at_call 46; refine (HD1.out _).mono ?_; rintro e w' ⟨rfl, kk, rfl⟩); all_goals (first | exact hK _ (by first | exact ⟨_, rfl⟩ | exact ⟨_, by simp⟩ | exact ⟨_, by first | exact Go.World.drewN_drewN .. | (simp; rfl)⟩) | exact (by first | exact ⟨_, rfl⟩ | exact ⟨_, by simp⟩ | exact ⟨_, by first | exact Go.World.drewN_drewN .. | (simp; rfl)⟩)))
                · (intro hn1 hn2; clear hn1 hn2; refine ⟨74, (.pointer (some ⟨w.heap.size + 1, 1, none⟩)), rfl, by kernel_rfl, ?_⟩; intro b1 b2 v1 v2 W h; have HST := Lib.hid h; obtain ⟨m, rfl⟩ := h; intro K Q hK; simp only [updAll, Act.put, List.setIfInBounds_toArray, List.set_cons_zero, List.set_cons_succ, List.set_nil] at hK ⊢; go_wp2_with (go_at_call 46; refine (HD1.out _).mono ?_; rintro e w' ⟨rfl, kk, rfl⟩); all_goals (first | exact hK _ (by first | exact ⟨_, rfl⟩ | exact ⟨_, by simp⟩ | exact ⟨_, by first | exact Go.World.drewN_drewN .. | (simp; rfl)⟩) | exact (by first | exact ⟨_, rfl⟩ | exact ⟨_, by simp⟩ | exact ⟨_, by first | exact Go.World.drewN_drewN .. | (simp; rfl)⟩)))
                · (intro hn1 hn2; clear hn1 hn2; refine ⟨75, (.slice (some ⟨bd, od, none⟩) xs.length cd), rfl, by kernel_rfl, ?_⟩; intro b1 b2 v1 v2 W h; have HST := Lib.hid h; obtain ⟨m, rfl⟩ := h; intro K Q hK; simp only [updAll, Act.put, List.setIfInBounds_toArray, List.set_cons_zero, List.set_cons_succ, List.set_nil] at hK ⊢; go_wp2_with (go_at_call 46; refine (HD1.out _).mono ?_; rintro e w' ⟨rfl, kk, rfl⟩); all_goals (first | exact hK _ (by first | exact ⟨_, rfl⟩ | exact ⟨_, by simp⟩ | exact ⟨_, by first | exact Go.World.drewN_drewN .. | (simp; rfl)⟩) | exact (by first | exact ⟨_, rfl⟩ | exact ⟨_, by simp⟩ | exact ⟨_, by first | exact Go.World.drewN_drewN .. | (simp; rfl)⟩)))
                · (intro hn1 hn2; clear hn1 hn2; refine ⟨76, (.int .i64 (j : Int)), rfl, by kernel_rfl, ?_⟩; intro b1 b2 v1 v2 W h; have HST := Lib.hid h; obtain ⟨m, rfl⟩ := h; intro K Q hK; simp only [updAll, Act.put, List.setIfInBounds_toArray, List.set_cons_zero, List.set_cons_succ, List.set_nil] at hK ⊢; go_wp2_with (go_at_call 46; refine (HD1.out _).mono ?_; rintro e w' ⟨rfl, kk, rfl⟩); all_goals (first | exact hK _ (by first | exact ⟨_, rfl⟩ | exact ⟨_, by simp⟩ | exact ⟨_, by first | exact Go.World.drewN_drewN .. | (simp; rfl)⟩) | exact (by first | exact ⟨_, rfl⟩ | exact ⟨_, by simp⟩ | exact ⟨_, by first | exact Go.World.drewN_drewN .. | (simp; rfl)⟩)))
                · (intro hn1 hn2; clear hn1 hn2; refine ⟨77, (.pointer (some ⟨bd, od + j, none⟩)), rfl, by kernel_rfl, ?_⟩; intro b1 b2 v1 v2 W h; have HST := Lib.hid h; obtain ⟨m, rfl⟩ := h; intro K Q hK; simp only [updAll, Act.put, List.setIfInBounds_toArray, List.set_cons_zero, List.set_cons_succ, List.set_nil] at hK ⊢; go_wp2_with (go_at_call 46; refine (HD1.out _).mono ?_; rintro e w' ⟨rfl, kk, rfl⟩); all_goals (first | exact hK _ (by first | exact ⟨_, rfl⟩ | exact ⟨_, by simp⟩ | exact ⟨_, by first | exact Go.World.drewN_drewN .. | (simp; rfl)⟩) | exact (by first | exact ⟨_, rfl⟩ | exact ⟨_, by simp⟩ | exact ⟨_, by first | exact Go.World.drewN_drewN .. | (simp; rfl)⟩)))
                · (intro hn1 hn2; clear hn1 hn2; refine ⟨78, (.int .i64 v1), rfl, by kernel_rfl, ?_⟩; intro b1 b2 v1 v2 W h; have HST := Lib.hid h; obtain ⟨m, rfl⟩ := h; intro K Q hK; simp only [updAll, Act.put, List.setIfInBounds_toArray, List.set_cons_zero, List.set_cons_succ, List.set_nil] at hK ⊢; go_wp2_with (go_at_call 46; refine (HD1.out _).mono ?_; rintro e w' ⟨rfl, kk, rfl⟩); all_goals (first | exact hK _ (by first | exact ⟨_, rfl⟩ | exact ⟨_, by simp⟩ | exact ⟨_, by first | exact Go.World.drewN_drewN .. | (simp; rfl)⟩) | exact (by first | exact ⟨_, rfl⟩ | exact ⟨_, by simp⟩ | exact ⟨_, by first | exact Go.World.drewN_drewN .. | (simp; rfl)⟩)))
                · (intro hn1 hn2; clear hn1 hn2; refine ⟨79, (.pointer (some ⟨w.heap.size, 1, none⟩)), rfl, by kernel_rfl, ?_⟩; intro b1 b2 v1 v2 W h; have HST := Lib.hid h; obtain ⟨m, rfl⟩ := h; intro K Q hK; simp only [updAll, Act.put, List.setIfInBounds_toArray, List.set_cons_zero, List.set_cons_succ, List.set_nil] at hK ⊢; go_wp2_with (go_at_call 46; refine (HD1.out _).mono ?_; rintro e w' ⟨rfl, kk, rfl⟩); all_goals (first | exact hK _ (by first | exact ⟨_, rfl⟩ | exact ⟨_, by simp⟩ | exact ⟨_, by first | exact Go.World.drewN_drewN .. | (simp; rfl)⟩) | exact (by first | exact ⟨_, rfl⟩ | exact ⟨_, by simp⟩ | exact ⟨_, by first | exact Go.World.drewN_drewN .. | (simp; rfl)⟩)))
                · (intro hn1 hn2; clear hn1 hn2; refine ⟨80, (.slice (some ⟨bb, ob, none⟩) xs.length cb), rfl, by kernel_rfl, ?_⟩; intro b1 b2 v1 v2 W h; have HST := Lib.hid h; obtain ⟨m, rfl⟩ := h; intro K Q hK; simp only [updAll, Act.put, List.setIfInBounds_toArray, List.set_cons_zero, List.set_cons_succ, List.set_nil] at hK ⊢; go_wp2_with (go_at_call 46; refine (HD1.out _).mono ?_; rintro e w' ⟨rfl, kk, rfl⟩); all_goals (first | exact hK _ (by first | exact ⟨_, rfl⟩ | exact ⟨_, by simp⟩ | exact ⟨_, by first | exact Go.World.drewN_drewN .. | (simp; rfl)⟩) | exact (by first | exact ⟨_, rfl⟩ | exact ⟨_, by simp⟩ | exact ⟨_, by first | exact Go.World.drewN_drewN .. | (simp; rfl)⟩)))
                · (intro hn1 hn2; clear hn1 hn2; refine ⟨81, (.int .i64 (j : Int)), rfl, by kernel_rfl, ?_⟩; intro b1 b2 v1 v2 W h; have HST := Lib.hid h; obtain ⟨m, rfl⟩ := h; intro K Q hK; simp only [updAll, Act.put, List.setIfInBounds_toArray, List.set_cons_zero, List.set_cons_succ, List.set_nil] at hK ⊢; go_wp2_with (go_at_call 46; refine (HD1.out _).mono ?_; rintro e w' ⟨rfl, kk, rfl⟩); all_goals (first | exact hK _ (by first | exact ⟨_, rfl⟩ | exact ⟨_, by simp⟩ | exact ⟨_, by first | exact Go.World.drewN_drewN .. | (simp; rfl)⟩) | exact (by first | exact ⟨_, rfl⟩ | exact ⟨_, by simp⟩ | exact ⟨_, by first | exact Go.World.drewN_drewN .. | (simp; rfl)⟩)))
                · (intro hn1 hn2; clear hn1 hn2; refine ⟨82, (.pointer (some ⟨bb, ob + j, none⟩)), rfl, by kernel_rfl, ?_⟩; intro b1 b2 v1 v2 W h; have HST := Lib.hid h; obtain ⟨m, rfl⟩ := h; intro K Q hK; simp only [updAll, Act.put, List.setIfInBounds_toArray, List.set_cons_zero, List.set_cons_succ, List.set_nil] at hK ⊢; go_wp2_with (go_at_call 46; refine (HD1.out _).mono ?_; rintro e w' ⟨rfl, kk, rfl⟩); all_goals (first | exact hK _ (by first | exact ⟨_, rfl⟩ | exact ⟨_, by simp⟩ | exact ⟨_, by first | exact Go.World.drewN_drewN .. | (simp; rfl)⟩) | exact (by first | exact ⟨_, rfl⟩ | exact ⟨_, by simp⟩ | exact ⟨_, by first | exact Go.World.drewN_drewN .. | (simp; rfl)⟩)))
                · (intro hn1 hn2; clear hn1 hn2; refine ⟨83, (.int .i64 y1), rfl, by kernel_rfl, ?_⟩; intro b1 b2 v1 v2 W h; have HST := Lib.hid h; obtain ⟨m, rfl⟩ := h; intro K Q hK; simp only [updAll, Act.put, List.setIfInBounds_toArray, List.set_cons_zero, List.set_cons_succ, List.set_nil] at hK ⊢; go_wp2_with (go_at_call 46; refine (HD1.out _).mono ?_; rintro e w' ⟨rfl, kk, rfl⟩); all_goals (first | exact hK _ (by first | exact ⟨_, rfl⟩ | exact ⟨_, by simp⟩ | exact ⟨_, by first | exact Go.World.drewN_drewN .. | (simp; rfl)⟩) | exact (by first | exact ⟨_, rfl⟩ | exact ⟨_, by simp⟩ | exact ⟨_, by first | exact Go.World.drewN_drewN .. | (simp; rfl)⟩)))
                · (intro hn1 hn2; clear hn1 hn2; refine ⟨84, (.int .i64 x1), rfl, by kernel_rfl, ?_⟩; intro b1 b2 v1 v2 W h; have HST := Lib.hid h; obtain ⟨m, rfl⟩ := h; intro K Q hK; simp only [updAll, Act.put, List.setIfInBounds_toArray, List.set_cons_zero, List.set_cons_succ, List.set_nil] at hK ⊢; go_wp2_with (go_at_call 46; refine (HD1.out _).mono ?_; rintro e w' ⟨rfl, kk, rfl⟩); all_goals (first | exact hK _ (by first | exact ⟨_, rfl⟩ | exact ⟨_, by simp⟩ | exact ⟨_, by first | exact Go.World.drewN_drewN .. | (simp; rfl)⟩) | exact (by first | exact ⟨_, rfl⟩ | exact ⟨_, by simp⟩ | exact ⟨_, by first | exact Go.World.drewN_drewN .. | (simp; rfl)⟩)))
                · (intro hn1 hn2; clear hn1 hn2; refine ⟨85, (.int .i64 n), rfl, by kernel_rfl, ?_⟩; intro b1 b2 v1 v2 W h; have HST := Lib.hid h; obtain ⟨m, rfl⟩ := h; intro K Q hK; simp only [updAll, Act.put, List.setIfInBounds_toArray, List.set_cons_zero, List.set_cons_succ, List.set_nil] at hK ⊢; go_wp2_with (go_at_call 46; refine (HD1.out _).mono ?_; rintro e w' ⟨rfl, kk, rfl⟩); all_goals (first | exact hK _ (by first | exact ⟨_, rfl⟩ | exact ⟨_, by simp⟩ | exact ⟨_, by first | exact Go.World.drewN_drewN .. | (simp; rfl)⟩) | exact (by first | exact ⟨_, rfl⟩ | exact ⟨_, by simp⟩ | exact ⟨_, by first | exact Go.World.drewN_drewN .. | (simp; rfl)⟩)))
                · (intro hn1 hn2; clear hn1 hn2; refine ⟨86, (.int .i64 k), rfl, by kernel_rfl, ?_⟩; intro b1 b2 v1 v2 W h; have HST := Lib.hid h; obtain ⟨m, rfl⟩ := h; intro K Q hK; simp only [updAll, Act.put, List.setIfInBounds_toArray, List.set_cons_zero, List.set_cons_succ, List.set_nil] at hK ⊢; go_wp2_with (go_at_call 46; refine (HD1.out _).mono ?_; rintro e w' ⟨rfl, kk, rfl⟩); all_goals (first | exact hK _ (by first | exact ⟨_, rfl⟩ | exact ⟨_, by simp⟩ | exact ⟨_, by first | exact Go.World.drewN_drewN .. | (simp; rfl)⟩) | exact (by first | exact ⟨_, rfl⟩ | exact ⟨_, by simp⟩ | exact ⟨_, by first | exact Go.World.drewN_drewN .. | (simp; rfl)⟩)))
                · (intro hn1 hn2; clear hn1 hn2; refine ⟨87, (.int .i64 q1), rfl, by kernel_rfl, ?_⟩; intro b1 b2 v1 v2 W h; have HST := Lib.hid h; obtain ⟨m, rfl⟩ := h; intro K Q hK; simp only [updAll, Act.put, List.setIfInBounds_toArray, List.set_cons_zero, List.set_cons_succ, List.set_nil] at hK ⊢; go_wp2_with (go_at_call 46; refine (HD1.out _).mono ?_; rintro e w' ⟨rfl, kk, rfl⟩); all_goals (first | exact hK _ (by first | exact ⟨_, rfl⟩ | exact ⟨_, by simp⟩ | exact ⟨_, by first | exact Go.World.drewN_drewN .. | (simp; rfl)⟩) | exact (by first | exact ⟨_, rfl⟩ | exact ⟨_, by simp⟩ | exact ⟨_, by first | exact Go.World.drewN_drewN .. | (simp; rfl)⟩)))
                · (intro hn1 hn2; clear hn1 hn2; refine ⟨88, (.int .i64 (y1 + q1)), rfl, by kernel_rfl, ?_⟩; intro b1 b2 v1 v2 W h; have HST := Lib.hid h; obtain ⟨m, rfl⟩ := h; intro K Q hK; simp only [updAll, Act.put, List.setIfInBounds_toArray, List.set_cons_zero, List.set_cons_succ, List.set_nil] at hK ⊢; go_wp2_with (go_at_call 46; refine (HD1.out _).mono ?_; rintro e w' ⟨rfl, kk, rfl⟩); all_goals (first | exact hK _ (by first | exact ⟨_, rfl⟩ | exact ⟨_, by simp⟩ | exact ⟨_, by first | exact Go.World.drewN_drewN .. | (simp; rfl)⟩) | exact (by first | exact ⟨_, rfl⟩ | exact ⟨_, by simp⟩ | exact ⟨_, by first | exact Go.World.drewN_drewN .. | (simp; rfl)⟩)))
                · (intro hn1 hn2; clear hn1 hn2; refine ⟨89, (.pointer (some ⟨gy, j, none⟩)), rfl, by kernel_rfl, ?_⟩; intro b1 b2 v1 v2 W h; have HST := Lib.hid h; obtain ⟨m, rfl⟩ := h; intro K Q hK; simp only [updAll, Act.put, List.setIfInBounds_toArray, List.set_cons_zero, List.set_cons_succ, List.set_nil] at hK ⊢; go_wp2_with (go_at_call 46; refine (HD1.out _).mono ?_; rintro e w' ⟨rfl, kk, rfl⟩); all_goals (first | exact hK _ (by first | exact ⟨_, rfl⟩ | exact ⟨_, by simp⟩ | exact ⟨_, by first | exact Go.World.drewN_drewN .. | (simp; rfl)⟩) | exact (by first | exact ⟨_, rfl⟩ | exact ⟨_, by simp⟩ | exact ⟨_, by first | exact Go.World.drewN_drewN .. | (simp; rfl)⟩)))
              case eff1 =>
                intro o ho
                cases ho
              case eff2 =>
                intro o ho
                cases ho
              case tail =>
                intro v1 v2 W h; have HST := Lib.hid h; obtain ⟨m, rfl⟩ := h
                refine wpOp_plain rfl rfl ?_
                simp only [updAll, Act.put, List.setIfInBounds_toArray, List.set_cons_zero, List.set_cons_succ, List.set_nil]
                go_wp2_with fail
                go_wp2_with fail
                go_roundw
                case rel => exact ⟨j + 1, _, by omega, by go_num, HZ2.out, HX2.out _ (HX.out.step (bDrewN (Below.refl _ _))), (HK.out.step (bDrewN (Below.refl _ _))).set d5⟩
                case measure => (simp [intOf]; omega)
            · have hR : zs = blendRow ys vs n k := hz.all (by rw [HL.out.1]; omega)
              have fr0 := HK.out.free (o := 0)
              have fr1 := HK.out.free (o := 1)
              have n1 : gx ≠ w.heap.size + 2 := by omega
              have n2 : gy ≠ w.heap.size + 2 := by omega
              have hOut := Lib.hid (show ∀ a b, CuOut w.heap.size (.slice (some ⟨gx, 0, none⟩) xs.length cx) (.slice (some ⟨gy, 0, none⟩) xs.length cy) xs (blendRow ys vs n k) ((wr.setCell ⟨w.heap.size + 2, 0, none⟩ a).setCell ⟨w.heap.size + 2, 1, none⟩ b) from fun a b => by
                rw [← hR]
                refine Or.inr ⟨gx, cx, gy, cy, rfl, by rw [hz.1, HL.out.1], by omega, by omega, d1, (f1.far n1).far n1, (f2.far n2).far n2⟩)
              clear hne hne2 f1 f2 hz HQ hBox hM hR HDN
              go_wp2_with fail
              exact bodyPost_ret (v := .tuple #[.agg #[.slice (some ⟨gx, 0, none⟩) xs.length cx, .slice (some ⟨gy, 0, none⟩) xs.length cy], .int .i64 0]) (by simp only [results, Try.results10]; go_simp) rfl ⟨_, _, rfl, hOut.out _ _, (by repeat' (first | exact Below.refl _ _ | assumption | apply bDrewN | apply bDrew | apply bAlloc | (refine bSet ?_ ?_ _) | (refine bStep ?_ (by assumption)) | omega | (simp <;> omega)))⟩
    · have q2 : isDen k = false ∨ (isDen k = true ∧ n < 0) ∨ (isDen k = true ∧ 0 ≤ n ∧ k < n) := by
        cases hk : isDen k
        · exact Or.inl rfl
        · rw [hk] at h2
          have h9 : ¬ (0 ≤ n ∧ n ≤ k) := fun h => h2 ⟨rfl, h⟩
          rcases Int.lt_or_le n 0 with h8 | h8
          · exact Or.inr (Or.inl ⟨rfl, h8⟩)
          · exact Or.inr (Or.inr ⟨rfl, h8, by omega⟩)
      rw [if_pos h2] at hb
      rw [hb]
      clear hb h2 HL HQ hne hne2
      go_enter Try.func10, Try.ntmps10
      go_upto_region 1 with fail
      have HS := Lib.hid (show Kf w (w.heap.size + 3) [(w.heap.size, 0, (.slice pa xs.length ca)), (w.heap.size, 1, (.slice pb xs.length cb)), (w.heap.size + 1, 0, (.slice pc xs.length cc)), (w.heap.size + 1, 1, (.slice pd xs.length cd)), (w.heap.size + 2, 0, (.slice none 0 0)), (w.heap.size + 2, 1, (.slice none 0 0))] (w.heap.size + 2) (((w.alloc (Obj.cells #[(.slice pa xs.length ca), (.slice pb xs.length cb)] 24)).alloc (Obj.cells #[(.slice pc xs.length cc), (.slice pd xs.length cd)] 24)).alloc (Obj.cells #[(.slice none 0 0), (.slice none 0 0)] 24)) from ⟨((((((Cs.nil (by omega) (by repeat' (first | exact Below.refl _ _ | assumption | apply bDrewN | apply bDrew | apply bAlloc | (refine bSet ?_ ?_ _) | (refine bStep ?_ (by assumption)) | omega | (simp <;> omega)))).cons (by go_simp) (by omega)).cons (by go_simp) (by omega)).cons (by go_simp) (by omega)).cons (by go_simp) (by omega)).cons (by go_simp) (by omega)).cons (by go_simp) (by omega), by omega, _, _, by simpa using blk_new ((w.alloc _).alloc _) _⟩)
      go_cut [10, 11] (fun s10 s11 W => s10 = .int .i64 0 ∧ s11 = .int .i64 0 ∧ Kf w (w.heap.size + 3) [(w.heap.size, 0, (.slice pa xs.length ca)), (w.heap.size, 1, (.slice pb xs.length cb)), (w.heap.size + 1, 0, (.slice pc xs.length cc)), (w.heap.size + 1, 1, (.slice pd xs.length cd)), (w.heap.size + 2, 0, (.slice none 0 0)), (w.heap.size + 2, 1, (.slice none 0 0))] (w.heap.size + 2) W)
      case first =>
        generalize hA0 : (Act.mk _ _) = A0
        refine region_inv (by kernel_rfl) (by kernel_rfl) (fun l a W => ∃ (b0 b1 b2 b3 b4 b5 : Bool) (v14 v15 v16 v17 v10 v11 : Value), l = #[b0, b1, b2, b3, b4, b5] ∧ a = updAll A0 [(14, v14), (15, v15), (16, v16), (17, v17), (10, v10), (11, v11)] ∧ (b0 = true → v14 = (.agg #[(.slice pa xs.length ca), (.slice pb xs.length cb)])) ∧ (b1 = true → v15 = (.int .i64 0)) ∧ (b2 = true → v16 = (.agg #[(.slice pc xs.length cc), (.slice pd xs.length cd)])) ∧ (b3 = true → v17 = (.int .i64 0)) ∧ (b4 = true → v10 = (.int .i64 0)) ∧ (b5 = true → v11 = (.int .i64 0)) ∧ Kf w (w.heap.size + 3) [(w.heap.size, 0, (.slice pa xs.length ca)), (w.heap.size, 1, (.slice pb xs.length cb)), (w.heap.size + 1, 0, (.slice pc xs.length cc)), (w.heap.size + 1, 1, (.slice pd xs.length cd)), (w.heap.size + 2, 0, (.slice none 0 0)), (w.heap.size + 2, 1, (.slice none 0 0))] (w.heap.size + 2) W ∧ w.heap.size ≤ W.heap.size) ?h0 ?hsz ?step ?done
        case h0 =>
          refine ⟨false, false, false, false, false, false, A0.tmps.getD 14 undef, A0.tmps.getD 15 undef, A0.tmps.getD 16 undef, A0.tmps.getD 17 undef, A0.tmps.getD 10 undef, A0.tmps.getD 11 undef, by rfl, ?_, by simp, by simp, by simp, by simp, by simp, by simp, HS.out.drew, (by first | omega | (simp; omega) | simp)⟩
          rw [← hA0]
          simp [updAll, Act.put]
        case hsz =>
          rintro l a W ⟨b0, b1, b2, b3, b4, b5, v14, v15, v16, v17, v10, v11, rfl, -⟩
          rfl
        case step =>
          intro iop oop hopi lst act W hInv hlst hdep
          obtain ⟨b0, b1, b2, b3, b4, b5, v14, v15, v16, v17, v10, v11, rfl, rfl, f0, f1, f2, f3, f4, f5, hM, hz⟩ := hInv
          have hi8 : iop < 6 := (Array.getElem?_eq_some_iff.1 hopi).1
          have hi9 : iop = 0 ∨ iop = 1 ∨ iop = 2 ∨ iop = 3 ∨ iop = 4 ∨ iop = 5 := by omega
          rcases hi9 with rfl | rfl | rfl | rfl | rfl | rfl
          · obtain rfl : b0 = false := by simpa using hlst
            obtain rfl := Option.some.inj (show some _ = some oop from hopi)
            refine step_to (a' := (updAll A0 [(14, v14), (15, v15), (16, v16), (17, v17), (10, v10), (11, v11)]).put (some 14) ((.agg #[(.slice pa xs.length ca), (.slice pb xs.length cb)]))) (w' := W) ?_ ?_
            · intro K' hK'
              subst hA0
              have c0 := hM.at_ (show (w.heap.size, 0, (.slice pa xs.length ca)) ∈ _ from by simp); have c1 := hM.at_ (show (w.heap.size, 1, (.slice pb xs.length cb)) ∈ _ from by simp); have c2 := hM.at_ (show (w.heap.size + 1, 0, (.slice pc xs.length cc)) ∈ _ from by simp); have c3 := hM.at_ (show (w.heap.size + 1, 1, (.slice pd xs.length cd)) ∈ _ from by simp); have c4 := hM.at_ (show (w.heap.size + 2, 0, (.slice none 0 0)) ∈ _ from by simp); have c5 := hM.at_ (show (w.heap.size + 2, 1, (.slice none 0 0)) ∈ _ from by simp)
              refine wpOp_plain rfl rfl ?_
              simp only [updAll, Act.put, List.setIfInBounds_toArray, List.set_cons_zero, List.set_cons_succ] at hK' ⊢
              go_wp2
              exact hK'
            · refine ⟨true, b1, b2, b3, b4, b5, _, v15, v16, v17, v10, v11, by rfl, ?_, fun _ => rfl, f1, f2, f3, f4, f5, hM, hz⟩
              rw [← hA0]
              simp [updAll, Act.put]
          · obtain rfl : b1 = false := by simpa using hlst
            obtain rfl := Option.some.inj (show some _ = some oop from hopi)
            obtain rfl : b0 = true := by
              rcases Bool.eq_false_or_eq_true b0 with hbb | hbb
              · exact hbb
              · exfalso; subst hbb; revert hdep; simp [Region.binds]
            have e0 := f0 rfl
            subst e0
            refine step_ex (fun a' w' => a' = (updAll A0 [(14, (.agg #[(.slice pa xs.length ca), (.slice pb xs.length cb)])), (15, v15), (16, v16), (17, v17), (10, v10), (11, v11)]).put (some 15) ((.int .i64 0)) ∧ Below W.heap.size W w') ?_ ?_
            · intro K' hK'
              subst hA0
              have c0 := hM.at_ (show (w.heap.size, 0, (.slice pa xs.length ca)) ∈ _ from by simp); have c1 := hM.at_ (show (w.heap.size, 1, (.slice pb xs.length cb)) ∈ _ from by simp); have c2 := hM.at_ (show (w.heap.size + 1, 0, (.slice pc xs.length cc)) ∈ _ from by simp); have c3 := hM.at_ (show (w.heap.size + 1, 1, (.slice pd xs.length cd)) ∈ _ from by simp); have c4 := hM.at_ (show (w.heap.size + 2, 0, (.slice none 0 0)) ∈ _ from by simp); have c5 := hM.at_ (show (w.heap.size + 2, 1, (.slice none 0 0)) ∈ _ from by simp)
              refine wpOp_plain rfl rfl ?_
              simp only [updAll, Act.put, List.setIfInBounds_toArray, List.set_cons_zero, List.set_cons_succ] at hK' ⊢
              go_wp2_with (go_at_call 12; refine (CE.out _ (HA.out.step (by first | exact hM.bel | exact bStep hM.bel (Below.refl _ _).drew)) (HB.out.step (by first | exact hM.bel | exact bStep hM.bel (Below.refl _ _).drew))).mono ?_; rintro e w1 ⟨rfl, hb1⟩)
              all_goals (first | exact ⟨rfl, hb1⟩ | exact hK' _ _ ⟨rfl, hb1⟩)
            · rintro a' w' ⟨rfl, hb1⟩
              refine ⟨true, true, b2, b3, b4, b5, (.agg #[(.slice pa xs.length ca), (.slice pb xs.length cb)]), _, v16, v17, v10, v11, by rfl, ?_, fun _ => rfl, fun _ => rfl, f2, f3, f4, f5, hM.step hb1, Nat.le_trans hz hb1.size⟩
              rw [← hA0]
              simp [updAll, Act.put]
          · obtain rfl : b2 = false := by simpa using hlst
            obtain rfl := Option.some.inj (show some _ = some oop from hopi)
            refine step_to (a' := (updAll A0 [(14, v14), (15, v15), (16, v16), (17, v17), (10, v10), (11, v11)]).put (some 16) ((.agg #[(.slice pc xs.length cc), (.slice pd xs.length cd)]))) (w' := W) ?_ ?_
            · intro K' hK'
              subst hA0
              have c0 := hM.at_ (show (w.heap.size, 0, (.slice pa xs.length ca)) ∈ _ from by simp); have c1 := hM.at_ (show (w.heap.size, 1, (.slice pb xs.length cb)) ∈ _ from by simp); have c2 := hM.at_ (show (w.heap.size + 1, 0, (.slice pc xs.length cc)) ∈ _ from by simp); have c3 := hM.at_ (show (w.heap.size + 1, 1, (.slice pd xs.length cd)) ∈ _ from by simp); have c4 := hM.at_ (show (w.heap.size + 2, 0, (.slice none 0 0)) ∈ _ from by simp); have c5 := hM.at_ (show (w.heap.size + 2, 1, (.slice none 0 0)) ∈ _ from by simp)
              refine wpOp_plain rfl rfl ?_
              simp only [updAll, Act.put, List.setIfInBounds_toArray, List.set_cons_zero, List.set_cons_succ] at hK' ⊢
              go_wp2
              exact hK'
            · refine ⟨b0, b1, true, b3, b4, b5, v14, v15, _, v17, v10, v11, by rfl, ?_, f0, f1, fun _ => rfl, f3, f4, f5, hM, hz⟩
              rw [← hA0]
              simp [updAll, Act.put]
          · obtain rfl : b3 = false := by simpa using hlst
            obtain rfl := Option.some.inj (show some _ = some oop from hopi)
            obtain rfl : b2 = true := by
              rcases Bool.eq_false_or_eq_true b2 with hbb | hbb
              · exact hbb
              · exfalso; subst hbb; revert hdep; simp [Region.binds]
            have e2 := f2 rfl
            subst e2
            refine step_ex (fun a' w' => a' = (updAll A0 [(14, v14), (15, v15), (16, (.agg #[(.slice pc xs.length cc), (.slice pd xs.length cd)])), (17, v17), (10, v10), (11, v11)]).put (some 17) ((.int .i64 0)) ∧ Below W.heap.size W w') ?_ ?_
            · intro K' hK'
              subst hA0
              have c0 := hM.at_ (show (w.heap.size, 0, (.slice pa xs.length ca)) ∈ _ from by simp); have c1 := hM.at_ (show (w.heap.size, 1, (.slice pb xs.length cb)) ∈ _ from by simp); have c2 := hM.at_ (show (w.heap.size + 1, 0, (.slice pc xs.length cc)) ∈ _ from by simp); have c3 := hM.at_ (show (w.heap.size + 1, 1, (.slice pd xs.length cd)) ∈ _ from by simp); have c4 := hM.at_ (show (w.heap.size + 2, 0, (.slice none 0 0)) ∈ _ from by simp); have c5 := hM.at_ (show (w.heap.size + 2, 1, (.slice none 0 0)) ∈ _ from by simp)
              refine wpOp_plain rfl rfl ?_
              simp only [updAll, Act.put, List.setIfInBounds_toArray, List.set_cons_zero, List.set_cons_succ] at hK' ⊢
              go_wp2_with (go_at_call 12; refine (CF.out _ (HC.out.step (by first | exact hM.bel | exact bStep hM.bel (Below.refl _ _).drew)) (HD.out.step (by first | exact hM.bel | exact bStep hM.bel (Below.refl _ _).drew))).mono ?_; rintro e w1 ⟨rfl, hb1⟩)
              all_goals (first | exact ⟨rfl, hb1⟩ | exact hK' _ _ ⟨rfl, hb1⟩)
            · rintro a' w' ⟨rfl, hb1⟩
              refine ⟨b0, b1, true, true, b4, b5, v14, v15, (.agg #[(.slice pc xs.length cc), (.slice pd xs.length cd)]), _, v10, v11, by rfl, ?_, f0, f1, fun _ => rfl, fun _ => rfl, f4, f5, hM.step hb1, Nat.le_trans hz hb1.size⟩
              rw [← hA0]
              simp [updAll, Act.put]
          · obtain rfl : b4 = false := by simpa using hlst
            obtain rfl := Option.some.inj (show some _ = some oop from hopi)
            obtain rfl : b1 = true := by
              rcases Bool.eq_false_or_eq_true b1 with hbb | hbb
              · exact hbb
              · exfalso; subst hbb; revert hdep; simp [Region.binds]
            have e1 := f1 rfl
            subst e1
            refine step_to (a' := (updAll A0 [(14, v14), (15, (.int .i64 0)), (16, v16), (17, v17), (10, v10), (11, v11)]).put (some 10) ((.int .i64 0))) (w' := W) ?_ ?_
            · intro K' hK'
              subst hA0
              have c0 := hM.at_ (show (w.heap.size, 0, (.slice pa xs.length ca)) ∈ _ from by simp); have c1 := hM.at_ (show (w.heap.size, 1, (.slice pb xs.length cb)) ∈ _ from by simp); have c2 := hM.at_ (show (w.heap.size + 1, 0, (.slice pc xs.length cc)) ∈ _ from by simp); have c3 := hM.at_ (show (w.heap.size + 1, 1, (.slice pd xs.length cd)) ∈ _ from by simp); have c4 := hM.at_ (show (w.heap.size + 2, 0, (.slice none 0 0)) ∈ _ from by simp); have c5 := hM.at_ (show (w.heap.size + 2, 1, (.slice none 0 0)) ∈ _ from by simp)
              refine wpOp_plain rfl rfl ?_
              simp only [updAll, Act.put, List.setIfInBounds_toArray, List.set_cons_zero, List.set_cons_succ] at hK' ⊢
              go_wp2
              exact hK'
            · refine ⟨b0, true, b2, b3, true, b5, v14, (.int .i64 0), v16, v17, _, v11, by rfl, ?_, f0, fun _ => rfl, f2, f3, fun _ => rfl, f5, hM, hz⟩
              rw [← hA0]
              simp [updAll, Act.put]
          · obtain rfl : b5 = false := by simpa using hlst
            obtain rfl := Option.some.inj (show some _ = some oop from hopi)
            obtain rfl : b3 = true := by
              rcases Bool.eq_false_or_eq_true b3 with hbb | hbb
              · exact hbb
              · exfalso; subst hbb; revert hdep; simp [Region.binds]
            have e3 := f3 rfl
            subst e3
            refine step_to (a' := (updAll A0 [(14, v14), (15, v15), (16, v16), (17, (.int .i64 0)), (10, v10), (11, v11)]).put (some 11) ((.int .i64 0))) (w' := W) ?_ ?_
            · intro K' hK'
              subst hA0
              have c0 := hM.at_ (show (w.heap.size, 0, (.slice pa xs.length ca)) ∈ _ from by simp); have c1 := hM.at_ (show (w.heap.size, 1, (.slice pb xs.length cb)) ∈ _ from by simp); have c2 := hM.at_ (show (w.heap.size + 1, 0, (.slice pc xs.length cc)) ∈ _ from by simp); have c3 := hM.at_ (show (w.heap.size + 1, 1, (.slice pd xs.length cd)) ∈ _ from by simp); have c4 := hM.at_ (show (w.heap.size + 2, 0, (.slice none 0 0)) ∈ _ from by simp); have c5 := hM.at_ (show (w.heap.size + 2, 1, (.slice none 0 0)) ∈ _ from by simp)
              refine wpOp_plain rfl rfl ?_
              simp only [updAll, Act.put, List.setIfInBounds_toArray, List.set_cons_zero, List.set_cons_succ] at hK' ⊢
              go_wp2
              exact hK'
            · refine ⟨b0, b1, b2, true, b4, true, v14, v15, v16, (.int .i64 0), v10, _, by rfl, ?_, f0, f1, f2, fun _ => rfl, f4, fun _ => rfl, hM, hz⟩
              rw [← hA0]
              simp [updAll, Act.put]
        case done =>
          rintro l a W ⟨b0, b1, b2, b3, b4, b5, v14, v15, v16, v17, v10, v11, rfl, rfl, f0, f1, f2, f3, f4, f5, hM, hz⟩ hall
          obtain rfl : b0 = true := by simpa using hall 0 (by decide)
          obtain rfl : b1 = true := by simpa using hall 1 (by decide)
          obtain rfl : b2 = true := by simpa using hall 2 (by decide)
          obtain rfl : b3 = true := by simpa using hall 3 (by decide)
          obtain rfl : b4 = true := by simpa using hall 4 (by decide)
          obtain rfl : b5 = true := by simpa using hall 5 (by decide)
          have e0 := f0 rfl
          subst e0
          have e1 := f1 rfl
          subst e1
          have e2 := f2 rfl
          subst e2
          have e3 := f3 rfl
          subst e3
          have e4 := f4 rfl
          subst e4
          have e5 := f5 rfl
          subst e5
          subst hA0
          simp only [updAll, Act.put, List.setIfInBounds_toArray, List.set_cons_zero, List.set_cons_succ]
          go_wp2_with fail
          go_meet
          exact ⟨rfl, rfl, hM⟩
      case rest =>
        obtain ⟨rfl, rfl, hM⟩ := hcut
        have c0 := hM.at_ (show (w.heap.size, 0, (.slice pa xs.length ca)) ∈ _ from by simp); have c1 := hM.at_ (show (w.heap.size, 1, (.slice pb xs.length cb)) ∈ _ from by simp); have c2 := hM.at_ (show (w.heap.size + 1, 0, (.slice pc xs.length cc)) ∈ _ from by simp); have c3 := hM.at_ (show (w.heap.size + 1, 1, (.slice pd xs.length cd)) ∈ _ from by simp); have c4 := hM.at_ (show (w.heap.size + 2, 0, (.slice none 0 0)) ∈ _ from by simp); have c5 := hM.at_ (show (w.heap.size + 2, 1, (.slice none 0 0)) ∈ _ from by simp)
        have fr0 := hM.free (o := 0)
        have fr1 := hM.free (o := 1)
        have hbel := hM.bel
        have hsz3 := hM.lt
        have HK := Lib.hid hM
        clear hM HS
        rcases q2 with q2 | ⟨q2, q3⟩ | ⟨q2, q3, q4⟩
        all_goals
          go_wp2_with (first | (go_at_call 44; refine (CQ.out _ (HA.out.step (by first | assumption | exact bStep hbel (by repeat' (first | exact Below.refl _ _ | apply bDrewN | apply bDrew)))) (HC.out.step (by first | assumption | exact bStep hbel (by repeat' (first | exact Below.refl _ _ | apply bDrewN | apply bDrew))))).mono ?_; rintro e w1 ⟨rfl, hb1⟩; obtain ⟨hcw1, hfw1⟩ := bcell hb1; have hzw1 := Below.size hb1; have fr0 := (HK.out.step hb1).free (o := 0); have fr1 := (HK.out.step hb1).free (o := 1)) | (go_at_call 45; refine (below_any _ _).mono ?_; rintro e w' ⟨rfl, rfl⟩))
          exact bodyPost_ret (v := .tuple #[.agg #[.slice none 0 0, .slice none 0 0], .int .i64 2]) (by simp only [results, Try.results10]; go_simp) rfl ⟨_, _, rfl, CuOut.nil, (by repeat' (first | exact Below.refl _ _ | assumption | apply bDrewN | apply bDrew | apply bAlloc | (refine bSet ?_ ?_ _) | (refine bStep ?_ (by assumption)) | omega | (simp <;> omega)))⟩
  · have q1 : decide (xs = us) = false := by simp [h1]
    rw [q1] at CQ
    rw [if_pos h1] at hb
    rw [hb]
    clear hb q1 h1 l2 m2 l3 l4 m3 m4
    rw [← m1] at CF ⊢
    rw [← l1] at CE ⊢
    clear l1 m1
    go_enter Try.func10, Try.ntmps10
    go_upto_region 1 with fail
    have HS := Lib.hid (show Kf w (w.heap.size + 3) [(w.heap.size, 0, (.slice pa xs.length ca)), (w.heap.size, 1, (.slice pb xs.length cb)), (w.heap.size + 1, 0, (.slice pc us.length cc)), (w.heap.size + 1, 1, (.slice pd us.length cd)), (w.heap.size + 2, 0, (.slice none 0 0)), (w.heap.size + 2, 1, (.slice none 0 0))] (w.heap.size + 2) (((w.alloc (Obj.cells #[(.slice pa xs.length ca), (.slice pb xs.length cb)] 24)).alloc (Obj.cells #[(.slice pc us.length cc), (.slice pd us.length cd)] 24)).alloc (Obj.cells #[(.slice none 0 0), (.slice none 0 0)] 24)) from ⟨((((((Cs.nil (by omega) (by repeat' (first | exact Below.refl _ _ | assumption | apply bDrewN | apply bDrew | apply bAlloc | (refine bSet ?_ ?_ _) | (refine bStep ?_ (by assumption)) | omega | (simp <;> omega)))).cons (by go_simp) (by omega)).cons (by go_simp) (by omega)).cons (by go_simp) (by omega)).cons (by go_simp) (by omega)).cons (by go_simp) (by omega)).cons (by go_simp) (by omega), by omega, _, _, by simpa using blk_new ((w.alloc _).alloc _) _⟩)
    go_cut [10, 11] (fun s10 s11 W => s10 = .int .i64 0 ∧ s11 = .int .i64 0 ∧ Kf w (w.heap.size + 3) [(w.heap.size, 0, (.slice pa xs.length ca)), (w.heap.size, 1, (.slice pb xs.length cb)), (w.heap.size + 1, 0, (.slice pc us.length cc)), (w.heap.size + 1, 1, (.slice pd us.length cd)), (w.heap.size + 2, 0, (.slice none 0 0)), (w.heap.size + 2, 1, (.slice none 0 0))] (w.heap.size + 2) W)
    case first =>
      generalize hA0 : (Act.mk _ _) = A0
      refine region_inv (by kernel_rfl) (by kernel_rfl) (fun l a W => ∃ (b0 b1 b2 b3 b4 b5 : Bool) (v14 v15 v16 v17 v10 v11 : Value), l = #[b0, b1, b2, b3, b4, b5] ∧ a = updAll A0 [(14, v14), (15, v15), (16, v16), (17, v17), (10, v10), (11, v11)] ∧ (b0 = true → v14 = (.agg #[(.slice pa xs.length ca), (.slice pb xs.length cb)])) ∧ (b1 = true → v15 = (.int .i64 0)) ∧ (b2 = true → v16 = (.agg #[(.slice pc us.length cc), (.slice pd us.length cd)])) ∧ (b3 = true → v17 = (.int .i64 0)) ∧ (b4 = true → v10 = (.int .i64 0)) ∧ (b5 = true → v11 = (.int .i64 0)) ∧ Kf w (w.heap.size + 3) [(w.heap.size, 0, (.slice pa xs.length ca)), (w.heap.size, 1, (.slice pb xs.length cb)), (w.heap.size + 1, 0, (.slice pc us.length cc)), (w.heap.size + 1, 1, (.slice pd us.length cd)), (w.heap.size + 2, 0, (.slice none 0 0)), (w.heap.size + 2, 1, (.slice none 0 0))] (w.heap.size + 2) W ∧ w.heap.size ≤ W.heap.size) ?h0 ?hsz ?step ?done
      case h0 =>
        refine ⟨false, false, false, false, false, false, A0.tmps.getD 14 undef, A0.tmps.getD 15 undef, A0.tmps.getD 16 undef, A0.tmps.getD 17 undef, A0.tmps.getD 10 undef, A0.tmps.getD 11 undef, by rfl, ?_, by simp, by simp, by simp, by simp, by simp, by simp, HS.out.drew, (by first | omega | (simp; omega) | simp)⟩
        rw [← hA0]
        simp [updAll, Act.put]
      case hsz =>
        rintro l a W ⟨b0, b1, b2, b3, b4, b5, v14, v15, v16, v17, v10, v11, rfl, -⟩
        rfl
      case step =>
        intro iop oop hopi lst act W hInv hlst hdep
        obtain ⟨b0, b1, b2, b3, b4, b5, v14, v15, v16, v17, v10, v11, rfl, rfl, f0, f1, f2, f3, f4, f5, hM, hz⟩ := hInv
        have hi8 : iop < 6 := (Array.getElem?_eq_some_iff.1 hopi).1
        have hi9 : iop = 0 ∨ iop = 1 ∨ iop = 2 ∨ iop = 3 ∨ iop = 4 ∨ iop = 5 := by omega
        rcases hi9 with rfl | rfl | rfl | rfl | rfl | rfl
        · obtain rfl : b0 = false := by simpa using hlst
          obtain rfl := Option.some.inj (show some _ = some oop from hopi)
          refine step_to (a' := (updAll A0 [(14, v14), (15, v15), (16, v16), (17, v17), (10, v10), (11, v11)]).put (some 14) ((.agg #[(.slice pa xs.length ca), (.slice pb xs.length cb)]))) (w' := W) ?_ ?_
          · intro K' hK'
            subst hA0
            have c0 := hM.at_ (show (w.heap.size, 0, (.slice pa xs.length ca)) ∈ _ from by simp); have c1 := hM.at_ (show (w.heap.size, 1, (.slice pb xs.length cb)) ∈ _ from by simp); have c2 := hM.at_ (show (w.heap.size + 1, 0, (.slice pc us.length cc)) ∈ _ from by simp); have c3 := hM.at_ (show (w.heap.size + 1, 1, (.slice pd us.length cd)) ∈ _ from by simp); have c4 := hM.at_ (show (w.heap.size + 2, 0, (.slice none 0 0)) ∈ _ from by simp); have c5 := hM.at_ (show (w.heap.size + 2, 1, (.slice none 0 0)) ∈ _ from by simp)
            refine wpOp_plain rfl rfl ?_
            simp only [updAll, Act.put, List.setIfInBounds_toArray, List.set_cons_zero, List.set_cons_succ] at hK' ⊢
            go_wp2
            exact hK'
          · refine ⟨true, b1, b2, b3, b4, b5, _, v15, v16, v17, v10, v11, by rfl, ?_, fun _ => rfl, f1, f2, f3, f4, f5, hM, hz⟩
            rw [← hA0]
            simp [updAll, Act.put]
        · obtain rfl : b1 = false := by simpa using hlst
          obtain rfl := Option.some.inj (show some _ = some oop from hopi)
          obtain rfl : b0 = true := by
            rcases Bool.eq_false_or_eq_true b0 with hbb | hbb
            · exact hbb
            · exfalso; subst hbb; revert hdep; simp [Region.binds]
          have e0 := f0 rfl
          subst e0
          refine step_ex (fun a' w' => a' = (updAll A0 [(14, (.agg #[(.slice pa xs.length ca), (.slice pb xs.length cb)])), (15, v15), (16, v16), (17, v17), (10, v10), (11, v11)]).put (some 15) ((.int .i64 0)) ∧ Below W.heap.size W w') ?_ ?_
          · intro K' hK'
            subst hA0
            have c0 := hM.at_ (show (w.heap.size, 0, (.slice pa xs.length ca)) ∈ _ from by simp); have c1 := hM.at_ (show (w.heap.size, 1, (.slice pb xs.length cb)) ∈ _ from by simp); have c2 := hM.at_ (show (w.heap.size + 1, 0, (.slice pc us.length cc)) ∈ _ from by simp); have c3 := hM.at_ (show (w.heap.size + 1, 1, (.slice pd us.length cd)) ∈ _ from by simp); have c4 := hM.at_ (show (w.heap.size + 2, 0, (.slice none 0 0)) ∈ _ from by simp); have c5 := hM.at_ (show (w.heap.size + 2, 1, (.slice none 0 0)) ∈ _ from by simp)
            refine wpOp_plain rfl rfl ?_
            simp only [updAll, Act.put, List.setIfInBounds_toArray, List.set_cons_zero, List.set_cons_succ] at hK' ⊢
            go_wp2_with (go_at_call 12; refine (CE.out _ (HA.out.step (by first | exact hM.bel | exact bStep hM.bel (Below.refl _ _).drew)) (HB.out.step (by first | exact hM.bel | exact bStep hM.bel (Below.refl _ _).drew))).mono ?_; rintro e w1 ⟨rfl, hb1⟩)
            all_goals (first | exact ⟨rfl, hb1⟩ | exact hK' _ _ ⟨rfl, hb1⟩)
          · rintro a' w' ⟨rfl, hb1⟩
            refine ⟨true, true, b2, b3, b4, b5, (.agg #[(.slice pa xs.length ca), (.slice pb xs.length cb)]), _, v16, v17, v10, v11, by rfl, ?_, fun _ => rfl, fun _ => rfl, f2, f3, f4, f5, hM.step hb1, Nat.le_trans hz hb1.size⟩
            rw [← hA0]
            simp [updAll, Act.put]
        · obtain rfl : b2 = false := by simpa using hlst
          obtain rfl := Option.some.inj (show some _ = some oop from hopi)
          refine step_to (a' := (updAll A0 [(14, v14), (15, v15), (16, v16), (17, v17), (10, v10), (11, v11)]).put (some 16) ((.agg #[(.slice pc us.length cc), (.slice pd us.length cd)]))) (w' := W) ?_ ?_
          · intro K' hK'
            subst hA0
            have c0 := hM.at_ (show (w.heap.size, 0, (.slice pa xs.length ca)) ∈ _ from by simp); have c1 := hM.at_ (show (w.heap.size, 1, (.slice pb xs.length cb)) ∈ _ from by simp); have c2 := hM.at_ (show (w.heap.size + 1, 0, (.slice pc us.length cc)) ∈ _ from by simp); have c3 := hM.at_ (show (w.heap.size + 1, 1, (.slice pd us.length cd)) ∈ _ from by simp); have c4 := hM.at_ (show (w.heap.size + 2, 0, (.slice none 0 0)) ∈ _ from by simp); have c5 := hM.at_ (show (w.heap.size + 2, 1, (.slice none 0 0)) ∈ _ from by simp)
            refine wpOp_plain rfl rfl ?_
            simp only [updAll, Act.put, List.setIfInBounds_toArray, List.set_cons_zero, List.set_cons_succ] at hK' ⊢
            go_wp2
            exact hK'
          · refine ⟨b0, b1, true, b3, b4, b5, v14, v15, _, v17, v10, v11, by rfl, ?_, f0, f1, fun _ => rfl, f3, f4, f5, hM, hz⟩
            rw [← hA0]
            simp [updAll, Act.put]
        · obtain rfl : b3 = false := by simpa using hlst
          obtain rfl := Option.some.inj (show some _ = some oop from hopi)
          obtain rfl : b2 = true := by
            rcases Bool.eq_false_or_eq_true b2 with hbb | hbb
            · exact hbb
            · exfalso; subst hbb; revert hdep; simp [Region.binds]
          have e2 := f2 rfl
          subst e2
          refine step_ex (fun a' w' => a' = (updAll A0 [(14, v14), (15, v15), (16, (.agg #[(.slice pc us.length cc), (.slice pd us.length cd)])), (17, v17), (10, v10), (11, v11)]).put (some 17) ((.int .i64 0)) ∧ Below W.heap.size W w') ?_ ?_
          · intro K' hK'
            subst hA0
            have c0 := hM.at_ (show (w.heap.size, 0, (.slice pa xs.length ca)) ∈ _ from by simp); have c1 := hM.at_ (show (w.heap.size, 1, (.slice pb xs.length cb)) ∈ _ from by simp); have c2 := hM.at_ (show (w.heap.size + 1, 0, (.slice pc us.length cc)) ∈ _ from by simp); have c3 := hM.at_ (show (w.heap.size + 1, 1, (.slice pd us.length cd)) ∈ _ from by simp); have c4 := hM.at_ (show (w.heap.size + 2, 0, (.slice none 0 0)) ∈ _ from by simp); have c5 := hM.at_ (show (w.heap.size + 2, 1, (.slice none 0 0)) ∈ _ from by simp)
            refine wpOp_plain rfl rfl ?_
            simp only [updAll, Act.put, List.setIfInBounds_toArray, List.set_cons_zero, List.set_cons_succ] at hK' ⊢
            go_wp2_with (go_at_call 12; refine (CF.out _ (HC.out.step (by first | exact hM.bel | exact bStep hM.bel (Below.refl _ _).drew)) (HD.out.step (by first | exact hM.bel | exact bStep hM.bel (Below.refl _ _).drew))).mono ?_; rintro e w1 ⟨rfl, hb1⟩)
            all_goals (first | exact ⟨rfl, hb1⟩ | exact hK' _ _ ⟨rfl, hb1⟩)
          · rintro a' w' ⟨rfl, hb1⟩
            refine ⟨b0, b1, true, true, b4, b5, v14, v15, (.agg #[(.slice pc us.length cc), (.slice pd us.length cd)]), _, v10, v11, by rfl, ?_, f0, f1, fun _ => rfl, fun _ => rfl, f4, f5, hM.step hb1, Nat.le_trans hz hb1.size⟩
            rw [← hA0]
            simp [updAll, Act.put]
        · obtain rfl : b4 = false := by simpa using hlst
          obtain rfl := Option.some.inj (show some _ = some oop from hopi)
          obtain rfl : b1 = true := by
            rcases Bool.eq_false_or_eq_true b1 with hbb | hbb
            · exact hbb
            · exfalso; subst hbb; revert hdep; simp [Region.binds]
          have e1 := f1 rfl
          subst e1
          refine step_to (a' := (updAll A0 [(14, v14), (15, (.int .i64 0)), (16, v16), (17, v17), (10, v10), (11, v11)]).put (some 10) ((.int .i64 0))) (w' := W) ?_ ?_
          · intro K' hK'
            subst hA0
            have c0 := hM.at_ (show (w.heap.size, 0, (.slice pa xs.length ca)) ∈ _ from by simp); have c1 := hM.at_ (show (w.heap.size, 1, (.slice pb xs.length cb)) ∈ _ from by simp); have c2 := hM.at_ (show (w.heap.size + 1, 0, (.slice pc us.length cc)) ∈ _ from by simp); have c3 := hM.at_ (show (w.heap.size + 1, 1, (.slice pd us.length cd)) ∈ _ from by simp); have c4 := hM.at_ (show (w.heap.size + 2, 0, (.slice none 0 0)) ∈ _ from by simp); have c5 := hM.at_ (show (w.heap.size + 2, 1, (.slice none 0 0)) ∈ _ from by simp)
            refine wpOp_plain rfl rfl ?_
            simp only [updAll, Act.put, List.setIfInBounds_toArray, List.set_cons_zero, List.set_cons_succ] at hK' ⊢
            go_wp2
            exact hK'
          · refine ⟨b0, true, b2, b3, true, b5, v14, (.int .i64 0), v16, v17, _, v11, by rfl, ?_, f0, fun _ => rfl, f2, f3, fun _ => rfl, f5, hM, hz⟩
            rw [← hA0]
            simp [updAll, Act.put]
        · obtain rfl : b5 = false := by simpa using hlst
          obtain rfl := Option.some.inj (show some _ = some oop from hopi)
          obtain rfl : b3 = true := by
            rcases Bool.eq_false_or_eq_true b3 with hbb | hbb
            · exact hbb
            · exfalso; subst hbb; revert hdep; simp [Region.binds]
          have e3 := f3 rfl
          subst e3
          refine step_to (a' := (updAll A0 [(14, v14), (15, v15), (16, v16), (17, (.int .i64 0)), (10, v10), (11, v11)]).put (some 11) ((.int .i64 0))) (w' := W) ?_ ?_
          · intro K' hK'
            subst hA0
            have c0 := hM.at_ (show (w.heap.size, 0, (.slice pa xs.length ca)) ∈ _ from by simp); have c1 := hM.at_ (show (w.heap.size, 1, (.slice pb xs.length cb)) ∈ _ from by simp); have c2 := hM.at_ (show (w.heap.size + 1, 0, (.slice pc us.length cc)) ∈ _ from by simp); have c3 := hM.at_ (show (w.heap.size + 1, 1, (.slice pd us.length cd)) ∈ _ from by simp); have c4 := hM.at_ (show (w.heap.size + 2, 0, (.slice none 0 0)) ∈ _ from by simp); have c5 := hM.at_ (show (w.heap.size + 2, 1, (.slice none 0 0)) ∈ _ from by simp)
            refine wpOp_plain rfl rfl ?_
            simp only [updAll, Act.put, List.setIfInBounds_toArray, List.set_cons_zero, List.set_cons_succ] at hK' ⊢
            go_wp2
            exact hK'
          · refine ⟨b0, b1, b2, true, b4, true, v14, v15, v16, (.int .i64 0), v10, _, by rfl, ?_, f0, f1, f2, fun _ => rfl, f4, fun _ => rfl, hM, hz⟩
            rw [← hA0]
            simp [updAll, Act.put]
      case done =>
        rintro l a W ⟨b0, b1, b2, b3, b4, b5, v14, v15, v16, v17, v10, v11, rfl, rfl, f0, f1, f2, f3, f4, f5, hM, hz⟩ hall
        obtain rfl : b0 = true := by simpa using hall 0 (by decide)
        obtain rfl : b1 = true := by simpa using hall 1 (by decide)
        obtain rfl : b2 = true := by simpa using hall 2 (by decide)
        obtain rfl : b3 = true := by simpa using hall 3 (by decide)
        obtain rfl : b4 = true := by simpa using hall 4 (by decide)
        obtain rfl : b5 = true := by simpa using hall 5 (by decide)
        have e0 := f0 rfl
        subst e0
        have e1 := f1 rfl
        subst e1
        have e2 := f2 rfl
        subst e2
        have e3 := f3 rfl
        subst e3
        have e4 := f4 rfl
        subst e4
        have e5 := f5 rfl
        subst e5
        subst hA0
        simp only [updAll, Act.put, List.setIfInBounds_toArray, List.set_cons_zero, List.set_cons_succ]
        go_wp2_with fail
        go_meet
        exact ⟨rfl, rfl, hM⟩
    case rest =>
      obtain ⟨rfl, rfl, hM⟩ := hcut
      have c0 := hM.at_ (show (w.heap.size, 0, (.slice pa xs.length ca)) ∈ _ from by simp); have c1 := hM.at_ (show (w.heap.size, 1, (.slice pb xs.length cb)) ∈ _ from by simp); have c2 := hM.at_ (show (w.heap.size + 1, 0, (.slice pc us.length cc)) ∈ _ from by simp); have c3 := hM.at_ (show (w.heap.size + 1, 1, (.slice pd us.length cd)) ∈ _ from by simp); have c4 := hM.at_ (show (w.heap.size + 2, 0, (.slice none 0 0)) ∈ _ from by simp); have c5 := hM.at_ (show (w.heap.size + 2, 1, (.slice none 0 0)) ∈ _ from by simp)
      have fr0 := hM.free (o := 0)
      have fr1 := hM.free (o := 1)
      have hbel := hM.bel
      have hsz3 := hM.lt
      have HK := Lib.hid hM
      clear hM HS
      go_wp2_with (first | (go_at_call 44; refine (CQ.out _ (HA.out.step (by first | assumption | exact bStep hbel (by repeat' (first | exact Below.refl _ _ | apply bDrewN | apply bDrew)))) (HC.out.step (by first | assumption | exact bStep hbel (by repeat' (first | exact Below.refl _ _ | apply bDrewN | apply bDrew))))).mono ?_; rintro e w1 ⟨rfl, hb1⟩; obtain ⟨hcw1, hfw1⟩ := bcell hb1; have hzw1 := Below.size hb1; have fr0 := (HK.out.step hb1).free (o := 0); have fr1 := (HK.out.step hb1).free (o := 1)))
      exact bodyPost_ret (v := .tuple #[.agg #[.slice none 0 0, .slice none 0 0], .int .i64 20]) (by simp only [results, Try.results10]; go_simp) rfl ⟨_, _, rfl, CuOut.nil, (by repeat' (first | exact Below.refl _ _ | assumption | apply bDrewN | apply bDrew | apply bAlloc | (refine bSet ?_ ?_ _) | (refine bStep ?_ (by assumption)) | omega | (simp <;> omega)))⟩


end Go.Proofs.Ytkldlmbccdfjdaa
