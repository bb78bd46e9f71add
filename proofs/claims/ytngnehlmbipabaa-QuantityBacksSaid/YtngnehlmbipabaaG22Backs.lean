/-
  The walk of Blend.
-/
import Derived.Test.YtngnehlmbipabaaG19Backs
import Derived.Test.YtngnehlmbipabaaG21Backs
import Derived.Test.YtngnehlmbipabaaG20Backs
set_option linter.unusedSimpArgs false
set_option linter.unusedVariables false
namespace Go.Proofs.Ytngnehlmbipabaa
open Go.RowKit

def bmix (y v n k : Int) : Int := y + dn (v - y) n k
def blendRow (ys vs : List Int) (n k : Int) : List Int := (List.range ys.length).map fun j => bmix (ys.getD j 0) (vs.getD j 0) n k
theorem blendRow_len (ys vs : List Int) (n k : Int) : (blendRow ys vs n k).length = ys.length := by simp [blendRow]
theorem blendRow_at {ys vs : List Int} {n k : Int} {j : Nat} (h : j < ys.length) : (blendRow ys vs n k).getD j 0 = bmix (ys.getD j 0) (vs.getD j 0) n k := by
  simp [blendRow, List.getD_eq_getElem?_getD, List.getElem?_eq_getElem, h]
def curvesS (xs ys us vs : List Int) : Int := if checkC xs ys = 6 ∨ checkC us vs = 6 then 6 else if checkC xs ys ≠ 0 ∨ checkC us vs ≠ 0 then 2 else 0
/-- What Blend returns. -/
def blendS (xs ys us vs : List Int) (n k : Int) : (List Int × List Int) × Int :=
  if curvesS xs ys us vs ≠ 0 then (([], []), curvesS xs ys us vs) else if xs ≠ us then (([], []), 20)
  else if ¬ (isDen k = true ∧ 0 ≤ n ∧ n ≤ k) then (([], []), 2) else ((xs, blendRow ys vs n k), 0)
/-- The first k numbers have been mixed. -/
def mixRow (ys vs zs : List Int) (n d : Int) (k : Nat) : Prop := zs.length = ys.length ∧ ∀ j, zs.getD j 0 = if j < k ∧ j < ys.length then bmix (ys.getD j 0) (vs.getD j 0) n d else ys.getD j 0
theorem mixRow.zero {ys vs : List Int} {n d : Int} : mixRow ys vs ys n d 0 := ⟨rfl, fun j => by simp⟩
theorem mixRow.at_ {ys vs zs : List Int} {n d : Int} {k : Nat} (h : mixRow ys vs zs n d k) : zs.getD k 0 = ys.getD k 0 := by rw [h.2 k, if_neg (by omega)]
theorem mixRow.next {ys vs zs : List Int} {n d : Int} {k : Nat} (h : mixRow ys vs zs n d k) (hk : k < ys.length) : mixRow ys vs (zs.set k (bmix (ys.getD k 0) (vs.getD k 0) n d)) n d (k + 1) := by
  refine ⟨by rw [List.length_set]; exact h.1, fun j => ?_⟩
  rw [getDI_set (by rw [h.1]; exact hk), h.2 j]
  by_cases e : k = j
  · subst e
    rw [if_pos rfl, if_pos ⟨by omega, hk⟩]
  · rw [if_neg e]
    by_cases e2 : j < k ∧ j < ys.length
    · rw [if_pos e2, if_pos ⟨by omega, e2.2⟩]
    · rw [if_neg e2, if_neg (by omega)]
theorem mixRow.all {ys vs zs : List Int} {n d : Int} {k : Nat} (h : mixRow ys vs zs n d k) (hk : ys.length ≤ k) : zs = blendRow ys vs n d := by
  refine ints_eq (by rw [h.1, blendRow_len]) fun j hj => ?_
  have hj' : j < ys.length := by have := h.1; omega
  rw [h.2 j, if_pos ⟨by omega, hj'⟩, blendRow_at hj']
theorem mixRow.drop0 {ys zs : List Int} {n d : Int} (h : mixRow ys ys zs n d 0) : True := trivial

set_option maxHeartbeats 4000000 in
set_option maxRecDepth 20000 in
theorem Blend_bad (pa pb pc pd : Option Addr) (ca cb cc cd : Nat) (xs ys us vs : List Int) (E F n k : Int) (w : World) (hEF : (E = 0 ∨ E = 2 ∨ E = 6) ∧ (F = 0 ∨ F = 2 ∨ F = 6)) (hbad : E ≠ 0 ∨ F ≠ 0)
    (hx : xs.length ≤ 1000000) (hy : ys.length ≤ 1000000) (hu : us.length ≤ 1000000) (hv : vs.length ≤ 1000000) (hA : IntAt pa xs w) (hB : IntAt pb ys w) (hC : IntAt pc us w) (hD : IntAt pd vs w) (hE : checkC xs ys = E) (hF : checkC us vs = F) :
    Calls Try.prog 10 #[.agg #[.slice pa xs.length ca, .slice pb ys.length cb], .agg #[.slice pc us.length cc, .slice pd vs.length cd], .int .i64 n, .int .i64 k] w fun e w' => e = .returned (.tuple #[.agg #[.slice none 0 0, .slice none 0 0], .int .i64 (if E = 6 ∨ F = 6 then 6 else 2)]) ∧ Below w.heap.size w w' := by
  have CE := Lib.hid (fun w h1 h2 => CheckCurve_any pa pb ca cb xs ys w hx hy h1 h2)
  have CF := Lib.hid (fun w h1 h2 => CheckCurve_any pc pd cc cd us vs w hu hv h1 h2)
  rw [hE] at CE
  rw [hF] at CF
  have HA := Lib.hid hA
  have HB := Lib.hid hB
  have HC := Lib.hid hC
  have HD := Lib.hid hD
  clear hA hB hC hD hE hF
  generalize hR : (if E = 6 ∨ F = 6 then (6 : Int) else 2) = R
  go_enter Try.func10, Try.ntmps10
  go_upto_region 1 with fail
  have HS := Lib.hid (show Kf w (w.heap.size + 3) [(w.heap.size, 0, (.slice pa xs.length ca)), (w.heap.size, 1, (.slice pb ys.length cb)), (w.heap.size + 1, 0, (.slice pc us.length cc)), (w.heap.size + 1, 1, (.slice pd vs.length cd)), (w.heap.size + 2, 0, (.slice none 0 0)), (w.heap.size + 2, 1, (.slice none 0 0))] (w.heap.size + 2) (((w.alloc (Obj.cells #[(.slice pa xs.length ca), (.slice pb ys.length cb)] 24)).alloc (Obj.cells #[(.slice pc us.length cc), (.slice pd vs.length cd)] 24)).alloc (Obj.cells #[(.slice none 0 0), (.slice none 0 0)] 24)) from ⟨((((((Cs.nil (by omega) (by repeat' (first | exact Below.refl _ _ | assumption | apply bDrewN | apply bDrew | apply bAlloc | (refine bSet ?_ ?_ _) | (refine bStep ?_ (by assumption)) | omega | (simp <;> omega)))).cons (by go_simp) (by omega)).cons (by go_simp) (by omega)).cons (by go_simp) (by omega)).cons (by go_simp) (by omega)).cons (by go_simp) (by omega)).cons (by go_simp) (by omega), by omega, _, _, by simpa using blk_new ((w.alloc _).alloc _) _⟩)
  go_cut [10, 11] (fun s10 s11 W => s10 = .int .i64 E ∧ s11 = .int .i64 F ∧ Kf w (w.heap.size + 3) [(w.heap.size, 0, (.slice pa xs.length ca)), (w.heap.size, 1, (.slice pb ys.length cb)), (w.heap.size + 1, 0, (.slice pc us.length cc)), (w.heap.size + 1, 1, (.slice pd vs.length cd)), (w.heap.size + 2, 0, (.slice none 0 0)), (w.heap.size + 2, 1, (.slice none 0 0))] (w.heap.size + 2) W)
  case first =>
    generalize hA0 : (Act.mk _ _) = A0
    refine region_inv (by kernel_rfl) (by kernel_rfl) (fun l a W => ∃ (b0 b1 b2 b3 b4 b5 : Bool) (v14 v15 v16 v17 v10 v11 : Value), l = #[b0, b1, b2, b3, b4, b5] ∧ a = updAll A0 [(14, v14), (15, v15), (16, v16), (17, v17), (10, v10), (11, v11)] ∧ (b0 = true → v14 = (.agg #[(.slice pa xs.length ca), (.slice pb ys.length cb)])) ∧ (b1 = true → v15 = (.int .i64 E)) ∧ (b2 = true → v16 = (.agg #[(.slice pc us.length cc), (.slice pd vs.length cd)])) ∧ (b3 = true → v17 = (.int .i64 F)) ∧ (b4 = true → v10 = (.int .i64 E)) ∧ (b5 = true → v11 = (.int .i64 F)) ∧ Kf w (w.heap.size + 3) [(w.heap.size, 0, (.slice pa xs.length ca)), (w.heap.size, 1, (.slice pb ys.length cb)), (w.heap.size + 1, 0, (.slice pc us.length cc)), (w.heap.size + 1, 1, (.slice pd vs.length cd)), (w.heap.size + 2, 0, (.slice none 0 0)), (w.heap.size + 2, 1, (.slice none 0 0))] (w.heap.size + 2) W ∧ w.heap.size ≤ W.heap.size) ?h0 ?hsz ?step ?done
    case h0 =>
      refine ⟨false, false, false, false, false, false, A0.tmps.getD 14 undef, A0.tmps.getD 15 undef, A0.tmps.getD 16 undef, A0.tmps.getD 17 undef, A0.tmps.getD 10 undef, A0.tmps.getD 11 undef, by rfl, ?_, by simp, by simp, by simp, by simp, by simp, by simp, HS.out.drew, (by first | omega | (simp; omega) | simp)⟩
      rw [← hA0]
      simp [updAll, Act.put]
    case hsz =>
      rintro l a W ⟨b0, b1, b2, b3, b4, b5, v14, v15, v16, v17, v10, v11, rfl, -⟩
      rfl
    case step =>
      intro iop oop hopi lst act W hInv hlst hdep
      obtain ⟨b0, b1, b2, b3, b4, b5, v14, v15, v16, v17, v10, v11, rfl, rfl, f0, f1, f2, f3, f4, f5, hM, hz⟩ := hInv
      have hi8 : iop < 6 := (Array.getElem?_eq_some_iff.1 hopi).1
      have hi9 : iop = 0 ∨ iop = 1 ∨ iop = 2 ∨ iop = 3 ∨ iop = 4 ∨ iop = 5 := by omega
      rcases hi9 with rfl | rfl | rfl | rfl | rfl | rfl
      · obtain rfl : b0 = false := by simpa using hlst
        obtain rfl := Option.some.inj (show some _ = some oop from hopi)
        refine step_to (a' := (updAll A0 [(14, v14), (15, v15), (16, v16), (17, v17), (10, v10), (11, v11)]).put (some 14) ((.agg #[(.slice pa xs.length ca), (.slice pb ys.length cb)]))) (w' := W) ?_ ?_
        · intro K' hK'
          subst hA0
          have c0 := hM.at_ (show (w.heap.size, 0, (.slice pa xs.length ca)) ∈ _ from by simp); have c1 := hM.at_ (show (w.heap.size, 1, (.slice pb ys.length cb)) ∈ _ from by simp); have c2 := hM.at_ (show (w.heap.size + 1, 0, (.slice pc us.length cc)) ∈ _ from by simp); have c3 := hM.at_ (show (w.heap.size + 1, 1, (.slice pd vs.length cd)) ∈ _ from by simp); have c4 := hM.at_ (show (w.heap.size + 2, 0, (.slice none 0 0)) ∈ _ from by simp); have c5 := hM.at_ (show (w.heap.size + 2, 1, (.slice none 0 0)) ∈ _ from by simp)
          refine wpOp_plain rfl rfl ?_
          simp only [updAll, Act.put, List.setIfInBounds_toArray, List.set_cons_zero, List.set_cons_succ] at hK' ⊢
          go_wp2
          exact hK'
        · refine ⟨true, b1, b2, b3, b4, b5, _, v15, v16, v17, v10, v11, by rfl, ?_, fun _ => rfl, f1, f2, f3, f4, f5, hM, hz⟩
          rw [← hA0]
          simp [updAll, Act.put]
      · obtain rfl : b1 = false := by simpa using hlst
        obtain rfl := Option.some.inj (show some _ = some oop from hopi)
        obtain rfl : b0 = true := by
          rcases Bool.eq_false_or_eq_true b0 with hbb | hbb
          · exact hbb
          · exfalso; subst hbb; revert hdep; simp [Region.binds]
        have e0 := f0 rfl
        subst e0
        refine step_ex (fun a' w' => a' = (updAll A0 [(14, (.agg #[(.slice pa xs.length ca), (.slice pb ys.length cb)])), (15, v15), (16, v16), (17, v17), (10, v10), (11, v11)]).put (some 15) ((.int .i64 E)) ∧ Below W.heap.size W w') ?_ ?_
        · intro K' hK'
          subst hA0
          have c0 := hM.at_ (show (w.heap.size, 0, (.slice pa xs.length ca)) ∈ _ from by simp); have c1 := hM.at_ (show (w.heap.size, 1, (.slice pb ys.length cb)) ∈ _ from by simp); have c2 := hM.at_ (show (w.heap.size + 1, 0, (.slice pc us.length cc)) ∈ _ from by simp); have c3 := hM.at_ (show (w.heap.size + 1, 1, (.slice pd vs.length cd)) ∈ _ from by simp); have c4 := hM.at_ (show (w.heap.size + 2, 0, (.slice none 0 0)) ∈ _ from by simp); have c5 := hM.at_ (show (w.heap.size + 2, 1, (.slice none 0 0)) ∈ _ from by simp)
          refine wpOp_plain rfl rfl ?_
          simp only [updAll, Act.put, List.setIfInBounds_toArray, List.set_cons_zero, List.set_cons_succ] at hK' ⊢
          go_wp2_with (go_at_call 12; refine (CE.out _ (HA.out.step (by first | exact hM.bel | exact bStep hM.bel (Below.refl _ _).drew)) (HB.out.step (by first | exact hM.bel | exact bStep hM.bel (Below.refl _ _).drew))).mono ?_; rintro e w1 ⟨rfl, hb1⟩)
          all_goals (first | exact ⟨rfl, hb1⟩ | exact hK' _ _ ⟨rfl, hb1⟩)
        · rintro a' w' ⟨rfl, hb1⟩
          refine ⟨true, true, b2, b3, b4, b5, (.agg #[(.slice pa xs.length ca), (.slice pb ys.length cb)]), _, v16, v17, v10, v11, by rfl, ?_, fun _ => rfl, fun _ => rfl, f2, f3, f4, f5, hM.step hb1, Nat.le_trans hz hb1.size⟩
          rw [← hA0]
          simp [updAll, Act.put]
      · obtain rfl : b2 = false := by simpa using hlst
        obtain rfl := Option.some.inj (show some _ = some oop from hopi)
        refine step_to (a' := (updAll A0 [(14, v14), (15, v15), (16, v16), (17, v17), (10, v10), (11, v11)]).put (some 16) ((.agg #[(.slice pc us.length cc), (.slice pd vs.length cd)]))) (w' := W) ?_ ?_
        · intro K' hK'
          subst hA0
          have c0 := hM.at_ (show (w.heap.size, 0, (.slice pa xs.length ca)) ∈ _ from by simp); have c1 := hM.at_ (show (w.heap.size, 1, (.slice pb ys.length cb)) ∈ _ from by simp); have c2 := hM.at_ (show (w.heap.size + 1, 0, (.slice pc us.length cc)) ∈ _ from by simp); have c3 := hM.at_ (show (w.heap.size + 1, 1, (.slice pd vs.length cd)) ∈ _ from by simp); have c4 := hM.at_ (show (w.heap.size + 2, 0, (.slice none 0 0)) ∈ _ from by simp); have c5 := hM.at_ (show (w.heap.size + 2, 1, (.slice none 0 0)) ∈ _ from by simp)
          refine wpOp_plain rfl rfl ?_
          simp only [updAll, Act.put, List.setIfInBounds_toArray, List.set_cons_zero, List.set_cons_succ] at hK' ⊢
          go_wp2
          exact hK'
        · refine ⟨b0, b1, true, b3, b4, b5, v14, v15, _, v17, v10, v11, by rfl, ?_, f0, f1, fun _ => rfl, f3, f4, f5, hM, hz⟩
          rw [← hA0]
          simp [updAll, Act.put]
      · obtain rfl : b3 = false := by simpa using hlst
        obtain rfl := Option.some.inj (show some _ = some oop from hopi)
        obtain rfl : b2 = true := by
          rcases Bool.eq_false_or_eq_true b2 with hbb | hbb
          · exact hbb
          · exfalso; subst hbb; revert hdep; simp [Region.binds]
        have e2 := f2 rfl
        subst e2
        refine step_ex (fun a' w' => a' = (updAll A0 [(14, v14), (15, v15), (16, (.agg #[(.slice pc us.length cc), (.slice pd vs.length cd)])), (17, v17), (10, v10), (11, v11)]).put (some 17) ((.int .i64 F)) ∧ Below W.heap.size W w') ?_ ?_
        · intro K' hK'
          subst hA0
          have c0 := hM.at_ (show (w.heap.size, 0, (.slice pa xs.length ca)) ∈ _ from by simp); have c1 := hM.at_ (show (w.heap.size, 1, (.slice pb ys.length cb)) ∈ _ from by simp); have c2 := hM.at_ (show (w.heap.size + 1, 0, (.slice pc us.length cc)) ∈ _ from by simp); have c3 := hM.at_ (show (w.heap.size + 1, 1, (.slice pd vs.length cd)) ∈ _ from by simp); have c4 := hM.at_ (show (w.heap.size + 2, 0, (.slice none 0 0)) ∈ _ from by simp); have c5 := hM.at_ (show (w.heap.size + 2, 1, (.slice none 0 0)) ∈ _ from by simp)
          refine wpOp_plain rfl rfl ?_
          simp only [updAll, Act.put, List.setIfInBounds_toArray, List.set_cons_zero, List.set_cons_succ] at hK' ⊢
          go_wp2_with (go_at_call 12; refine (CF.out _ (HC.out.step (by first | exact hM.bel | exact bStep hM.bel (Below.refl _ _).drew)) (HD.out.step (by first | exact hM.bel | exact bStep hM.bel (Below.refl _ _).drew))).mono ?_; rintro e w1 ⟨rfl, hb1⟩)
          all_goals (first | exact ⟨rfl, hb1⟩ | exact hK' _ _ ⟨rfl, hb1⟩)
        · rintro a' w' ⟨rfl, hb1⟩
          refine ⟨b0, b1, true, true, b4, b5, v14, v15, (.agg #[(.slice pc us.length cc), (.slice pd vs.length cd)]), _, v10, v11, by rfl, ?_, f0, f1, fun _ => rfl, fun _ => rfl, f4, f5, hM.step hb1, Nat.le_trans hz hb1.size⟩
          rw [← hA0]
          simp [updAll, Act.put]
      · obtain rfl : b4 = false := by simpa using hlst
        obtain rfl := Option.some.inj (show some _ = some oop from hopi)
        obtain rfl : b1 = true := by
          rcases Bool.eq_false_or_eq_true b1 with hbb | hbb
          · exact hbb
          · exfalso; subst hbb; revert hdep; simp [Region.binds]
        have e1 := f1 rfl
        subst e1
        refine step_to (a' := (updAll A0 [(14, v14), (15, (.int .i64 E)), (16, v16), (17, v17), (10, v10), (11, v11)]).put (some 10) ((.int .i64 E))) (w' := W) ?_ ?_
        · intro K' hK'
          subst hA0
          have c0 := hM.at_ (show (w.heap.size, 0, (.slice pa xs.length ca)) ∈ _ from by simp); have c1 := hM.at_ (show (w.heap.size, 1, (.slice pb ys.length cb)) ∈ _ from by simp); have c2 := hM.at_ (show (w.heap.size + 1, 0, (.slice pc us.length cc)) ∈ _ from by simp); have c3 := hM.at_ (show (w.heap.size + 1, 1, (.slice pd vs.length cd)) ∈ _ from by simp); have c4 := hM.at_ (show (w.heap.size + 2, 0, (.slice none 0 0)) ∈ _ from by simp); have c5 := hM.at_ (show (w.heap.size + 2, 1, (.slice none 0 0)) ∈ _ from by simp)
          refine wpOp_plain rfl rfl ?_
          simp only [updAll, Act.put, List.setIfInBounds_toArray, List.set_cons_zero, List.set_cons_succ] at hK' ⊢
          go_wp2
          exact hK'
        · refine ⟨b0, true, b2, b3, true, b5, v14, (.int .i64 E), v16, v17, _, v11, by rfl, ?_, f0, fun _ => rfl, f2, f3, fun _ => rfl, f5, hM, hz⟩
          rw [← hA0]
          simp [updAll, Act.put]
      · obtain rfl : b5 = false := by simpa using hlst
        obtain rfl := Option.some.inj (show some _ = some oop from hopi)
        obtain rfl : b3 = true := by
          rcases Bool.eq_false_or_eq_true b3 with hbb | hbb
          · exact hbb
          · exfalso; subst hbb; revert hdep; simp [Region.binds]
        have e3 := f3 rfl
        subst e3
        refine step_to (a' := (updAll A0 [(14, v14), (15, v15), (16, v16), (17, (.int .i64 F)), (10, v10), (11, v11)]).put (some 11) ((.int .i64 F))) (w' := W) ?_ ?_
        · intro K' hK'
          subst hA0
          have c0 := hM.at_ (show (w.heap.size, 0, (.slice pa xs.length ca)) ∈ _ from by simp); have c1 := hM.at_ (show (w.heap.size, 1, (.slice pb ys.length cb)) ∈ _ from by simp); have c2 := hM.at_ (show (w.heap.size + 1, 0, (.slice pc us.length cc)) ∈ _ from by simp); have c3 := hM.at_ (show (w.heap.size + 1, 1, (.slice pd vs.length cd)) ∈ _ from by simp); have c4 := hM.at_ (show (w.heap.size + 2, 0, (.slice none 0 0)) ∈ _ from by simp); have c5 := hM.at_ (show (w.heap.size + 2, 1, (.slice none 0 0)) ∈ _ from by simp)
          refine wpOp_plain rfl rfl ?_
          simp only [updAll, Act.put, List.setIfInBounds_toArray, List.set_cons_zero, List.set_cons_succ] at hK' ⊢
          go_wp2
          exact hK'
        · refine ⟨b0, b1, b2, true, b4, true, v14, v15, v16, (.int .i64 F), v10, _, by rfl, ?_, f0, f1, f2, fun _ => rfl, f4, fun _ => rfl, hM, hz⟩
          rw [← hA0]
          simp [updAll, Act.put]
    case done =>
      rintro l a W ⟨b0, b1, b2, b3, b4, b5, v14, v15, v16, v17, v10, v11, rfl, rfl, f0, f1, f2, f3, f4, f5, hM, hz⟩ hall
      obtain rfl : b0 = true := by simpa using hall 0 (by decide)
      obtain rfl : b1 = true := by simpa using hall 1 (by decide)
      obtain rfl : b2 = true := by simpa using hall 2 (by decide)
      obtain rfl : b3 = true := by simpa using hall 3 (by decide)
      obtain rfl : b4 = true := by simpa using hall 4 (by decide)
      obtain rfl : b5 = true := by simpa using hall 5 (by decide)
      have e0 := f0 rfl
      subst e0
      have e1 := f1 rfl
      subst e1
      have e2 := f2 rfl
      subst e2
      have e3 := f3 rfl
      subst e3
      have e4 := f4 rfl
      subst e4
      have e5 := f5 rfl
      subst e5
      subst hA0
      simp only [updAll, Act.put, List.setIfInBounds_toArray, List.set_cons_zero, List.set_cons_succ]
      go_wp2_with fail
      go_meet
      exact ⟨rfl, rfl, hM⟩
  case rest =>
    obtain ⟨rfl, rfl, hM⟩ := hcut
    have c0 := hM.at_ (show (w.heap.size, 0, (.slice pa xs.length ca)) ∈ _ from by simp); have c1 := hM.at_ (show (w.heap.size, 1, (.slice pb ys.length cb)) ∈ _ from by simp); have c2 := hM.at_ (show (w.heap.size + 1, 0, (.slice pc us.length cc)) ∈ _ from by simp); have c3 := hM.at_ (show (w.heap.size + 1, 1, (.slice pd vs.length cd)) ∈ _ from by simp); have c4 := hM.at_ (show (w.heap.size + 2, 0, (.slice none 0 0)) ∈ _ from by simp); have c5 := hM.at_ (show (w.heap.size + 2, 1, (.slice none 0 0)) ∈ _ from by simp)
    have fr0 := hM.free (o := 0)
    have fr1 := hM.free (o := 1)
    have hbel := hM.bel
    have HK := Lib.hid hM
    clear hM HS
    clear CE CF HA HB HC HD hx hy hu hv
    obtain ⟨rfl | rfl | rfl, rfl | rfl | rfl⟩ := hEF
    · exact absurd hbad (by decide)
    all_goals
      clear hbad
      simp at hR
      subst hR
      go_wp2_with fail
      first
        | exact bodyPost_ret (v := .tuple #[.agg #[.slice none 0 0, .slice none 0 0], .int .i64 6]) (by simp only [results, Try.results10]; go_simp) rfl ⟨rfl, (by repeat' (first | exact Below.refl _ _ | assumption | apply bDrewN | apply bDrew | apply bAlloc | (refine bSet ?_ ?_ _) | (refine bStep ?_ (by assumption)) | omega | (simp <;> omega)))⟩
        | exact bodyPost_ret (v := .tuple #[.agg #[.slice none 0 0, .slice none 0 0], .int .i64 2]) (by simp only [results, Try.results10]; go_simp) rfl ⟨rfl, (by repeat' (first | exact Below.refl _ _ | assumption | apply bDrewN | apply bDrew | apply bAlloc | (refine bSet ?_ ?_ _) | (refine bStep ?_ (by assumption)) | omega | (simp <;> omega)))⟩



end Go.Proofs.Ytngnehlmbipabaa

/-
  Move and curves of the reference.
-/
set_option linter.unusedSimpArgs false
set_option linter.unusedVariables false
namespace Go.Proofs.Ytngnehlmbipabaa
open Go.RowKit
theorem cv_open {b : Nat} {x y : Value} {W : World} {T : TypeId} (h : W.heap[b]? = some (.cells #[x, y] T)) : W.cell? ⟨b, 0, none⟩ = some x ∧ W.cell? ⟨b, 1, none⟩ = some y ∧ b < W.heap.size :=
  ⟨blk_cell h rfl, blk_cell h rfl, blk_lt h⟩
theorem cv_openF {b : Nat} {x y : Value} {W : World} {T : TypeId} (h : W.heap[b]? = some (.cells #[x, y] T)) : W.cell? ⟨b, 0, none⟩ = some x ∧ W.cell? ⟨b, 1, none⟩ = some y ∧ W.frozen? ⟨b, 0, none⟩ = false ∧ W.frozen? ⟨b, 1, none⟩ = false ∧ b < W.heap.size :=
  ⟨blk_cell h rfl, blk_cell h rfl, blk_free h, blk_free h, blk_lt h⟩
theorem wp_append_own_at {P : Program} (w : World) {o : Oper} {a : Act} {K : Act → World → Prop} {Q : Exit → Act → World → Prop} (s x : Operand) (t : TypeId)
    (ho : o.op = .call { callee := .builtin .append, args := #[s, x], argTypes := #[t, t] }) (base : Nat) (e : TypeId) (i : TypeInfo) (z : Value) (size bytes : Nat) (ht : P.underlying t = some (.slice e)) (hi : P.info? e = some i) (hz : i.zero = some z)
    (hsize : i.size = size) (hby : i.bytes = bytes) (hzs : z.cells.size = size) (hsz : 0 < size) (v : Value) (n : Nat) (xs : List Value) (hs : a.eval s = v) (hown : w.ownsRow base e size v n xs)
    (ad : Addr) (m c : Nat) (news : List Value) (hx : a.eval x = .slice (some ad) m c) (hl : news.length = m * size) (hnews : ∀ (j : Nat) (u : Value), news[j]? = some u → w.cell? (ad.add j) = some u) (h1 : ∀ u ∈ news, u.oneCell' = true)
    (h63 : n + m ≤ maxLen) (hbytes : (n + m) * bytes ≤ 140737488355328) (hbase : base ≤ w.heap.size)
    (h : ∀ v' w', w'.ownsRow base e size v' (n + m) (xs ++ news) → w.grownBy w' v.ownBlock → (v'.ownBlock = v.ownBlock ∨ v'.ownBlock = some w.heap.size) → K (a.put o.dst v') w') : o.wp P a w K Q := by
  obtain ⟨v', w', hr, h2, h3, h4, h5⟩ := run_append_own_at (P := P) w base t o.type e i z size bytes ht hi hz hsize hby hzs hsz v n xs hown ad m c news hl hnews h1 h63 hbytes hbase
  unfold Oper.wp execOp
  simp only [ho, resolve, invoke, builtin, Sem.run_bind, Sem.run_pure, Result.andThen_ok, List.map_toArray, List.map_cons, List.map_nil, hs, hx, hr]
  exact h v' w' h2 h3 h5
theorem one_cellI {W : World} {g : Nat} {x : Int} (h : W.cell? ⟨g, 0, none⟩ = some (.int .i64 x)) : ∀ (j : Nat) (u : Value), [Value.int .i64 x][j]? = some u → W.cell? ((⟨g, 0, none⟩ : Addr).add j) = some u := by
  intro j u hj
  match j, hj with
  | 0, hj => simp at hj; subst hj; simpa [Addr.add] using h
theorem bAl'' {W : World} {o : Obj} : Below W.heap.size W (W.alloc o) := (Below.refl _ _).alloc (Nat.le_refl _) _
/-- The state of a region that makes a number and appends it to a row of a curve. -/
structure StQ (w : World) (L : List (Nat × Obj)) (R C B : Nat) (cs : Array Value) (vr : Value) (rs : List Int) (vo : Value) (os : List Int) (x : Int) (b1 b2 : Bool) (v1 v2 : Value) (W : World) : Prop where
  hB : w.heap.size ≤ R ∧ R < B ∧ w.heap.size ≤ C ∧ C < B ∧ R ≠ C
  hL : ∀ p ∈ L, p.1 < B ∧ p.1 ≠ R ∧ p.1 ≠ C
  bel : Below w.heap.size w W
  sz : B ≤ W.heap.size
  rb : W.heap[R]? = some (.cells #[.slice none 0 0, .slice none 0 0] 24)
  cb : W.heap[C]? = some (.cells cs 24)
  sb : ∀ p ∈ L, W.heap[p.1]? = some p.2
  oo : IntOwn W B vo os
  far : Far vr vo
  own : b2 = false → IntOwn W B vr rs
  blt : b1 = true → b2 = false → ∃ g, v1 = .slice (some ⟨g, 0, none⟩) 1 1 ∧ W.cell? ⟨g, 0, none⟩ = some (.int .i64 x)
  app : b2 = true → IntOwn W B v2 (rs ++ [x]) ∧ Far v2 vo
section
variable {w W w2 : World} {L : List (Nat × Obj)} {R C B : Nat} {cs : Array Value} {vx vy vr vo v1 v2 : Value} {xs ys rs os : List Int} {x : Int} {b1 b2 : Bool}
theorem CuQ.startX (h : CuQ w L R C B vx vy xs ys W) : StQ w L R C B #[vx, vy] vx xs vy ys x false false v1 v2 W.drew :=
  ⟨h.hB, h.hL, h.bel.drew, h.sz, h.rb, h.cb, h.sb, h.oy, h.far, fun _ => h.ox, (fun e => by cases e), (fun e => by cases e)⟩
theorem CuQ.startY (h : CuQ w L R C B vx vy xs ys W) : StQ w L R C B #[vx, vy] vy ys vx xs x false false v1 v2 W.drew :=
  ⟨h.hB, h.hL, h.bel.drew, h.sz, h.rb, h.cb, h.sb, h.ox, h.far.symm, fun _ => h.oy, (fun e => by cases e), (fun e => by cases e)⟩
theorem StQ.step (h : StQ w L R C B cs vr rs vo os x b1 b2 v1 v2 W) (hb : Below W.heap.size W w2) : StQ w L R C B cs vr rs vo os x b1 b2 v1 v2 w2 :=
  ⟨h.hB, h.hL, bStep h.bel hb, Nat.le_trans h.sz hb.size, blk_step h.rb hb, blk_step h.cb hb, fun p hp => blk_step (h.sb p hp) hb, h.oo.step hb, h.far, fun e => (h.own e).step hb, fun e e' => by
    obtain ⟨g, q1, q2⟩ := h.blt e e'
    exact ⟨g, q1, cell_step q2 hb⟩, fun e => ⟨(h.app e).1.step hb, (h.app e).2⟩⟩
theorem StQ.built {T : TypeId} (h : StQ w L R C B cs vr rs vo os x false false v1 v2 W) : StQ w L R C B cs vr rs vo os x true false (.slice (some ⟨W.heap.size, 0, none⟩) 1 1) v2 (W.alloc (.cells #[.int .i64 x] T)) := by
  have k := h.step (bAl'' (o := .cells #[.int .i64 x] T))
  exact ⟨k.hB, k.hL, k.bel, k.sz, k.rb, k.cb, k.sb, k.oo, k.far, k.own, fun _ _ => ⟨_, rfl, blk_cell (blk_new W _) rfl⟩, (fun e => by cases e)⟩
theorem StQ.added {v' : Value} {w' : World} (h : StQ w L R C B cs vr rs vo os x true false v1 v2 W) (ho : w'.ownsRow B 2 1 v' (rs.length + 1) (flatI rs ++ [.int .i64 x])) (hg : W.grownBy w' vr.ownBlock) (hat : v'.ownBlock = vr.ownBlock ∨ v'.ownBlock = some W.heap.size) : StQ w L R C B cs vr rs vo os x true true v1 v' w' := by
  have hB := h.hB
  have hr := own_ge (h.own rfl)
  have hlt : ∀ b, b < B → some b ≠ vr.ownBlock := fun b hb e => by have := hr _ e.symm; omega
  refine ⟨h.hB, h.hL, h.bel.grown hg (by have := h.bel.size; omega) fun k hk => by have := hr k hk; omega, Nat.le_trans h.sz hg.size, blk_grown h.rb hg (hlt _ (by omega)), blk_grown h.cb hg (hlt _ (by omega)), fun p hp => blk_grown (h.sb p hp) hg (hlt _ (h.hL p hp).1), World.ownsRow.kept h.oo hg h.far.symm.ne, h.far, (fun e => by cases e), (fun _ e => by cases e), fun _ => ⟨IntOwn.more ho, fun k e1 e2 => ?_⟩⟩
  rcases hat with e | e
  · exact h.far k (e.symm.trans e1) e2
  · have := (h.oo.lt k e2).2
    rw [e] at e1
    simp at e1
    omega
theorem StQ.finX (h : StQ w L R C B #[vx, vy] vx xs vy ys x true true v1 v2 W) : CuQ w L R C B v2 vy (xs ++ [x]) ys (W.setCell ⟨C, 0, none⟩ v2) := by
  have hB := h.hB
  exact ⟨h.hB, h.hL, h.bel.setCell (by show w.heap.size ≤ C; omega) _, by simpa using h.sz, blk_set_other h.rb (by show R ≠ C; omega), (blk_set h.cb).trans rfl, fun p hp => blk_set_other (h.sb p hp) (by show p.1 ≠ C; exact (h.hL p hp).2.2), own_keep (h.app rfl).1 (by omega), own_keep h.oo (by omega), (h.app rfl).2⟩
theorem StQ.finY (h : StQ w L R C B #[vx, vy] vy ys vx xs x true true v1 v2 W) : CuQ w L R C B vx v2 xs (ys ++ [x]) (W.setCell ⟨C, 1, none⟩ v2) := by
  have hB := h.hB
  exact ⟨h.hB, h.hL, h.bel.setCell (by show w.heap.size ≤ C; omega) _, by simpa using h.sz, blk_set_other h.rb (by show R ≠ C; omega), (blk_set h.cb).trans rfl, fun p hp => blk_set_other (h.sb p hp) (by show p.1 ≠ C; exact (h.hL p hp).2.2), own_keep h.oo (by omega), own_keep (h.app rfl).1 (by omega), (h.app rfl).2.symm⟩
theorem StQ.lim (h : StQ w L R C B cs vr rs vo os x b1 b2 v1 v2 W) : w.heap.size ≤ R ∧ R < B ∧ C < B ∧ B ≤ W.heap.size := ⟨h.hB.1, h.hB.2.1, h.hB.2.2.2.1, h.sz⟩
theorem StQ.cell {a b : Value} (h : StQ w L R C B #[a, b] vr rs vo os x b1 b2 v1 v2 W) : W.cell? ⟨C, 0, none⟩ = some a ∧ W.cell? ⟨C, 1, none⟩ = some b ∧ W.frozen? ⟨C, 0, none⟩ = false ∧ W.frozen? ⟨C, 1, none⟩ = false ∧ C < W.heap.size :=
  ⟨blk_cell h.cb rfl, blk_cell h.cb rfl, blk_free h.cb, blk_free h.cb, blk_lt h.cb⟩
theorem StQ.row {v : Value} {b o : Nat} (h : StQ w L R C B cs vr rs vo os x b1 b2 v1 v2 W) (hc : w.cell? ⟨b, o, none⟩ = some v) : W.cell? ⟨b, o, none⟩ = some v := (h.bel.cell (p := ⟨b, o, none⟩) (cell_lt hc)).trans hc
theorem CuQ.row {v : Value} {b o : Nat} (h : CuQ w L R C B vx vy xs ys W) (hc : w.cell? ⟨b, o, none⟩ = some v) : W.cell? ⟨b, o, none⟩ = some v := (h.bel.cell (p := ⟨b, o, none⟩) (cell_lt hc)).trans hc
end
theorem take_more {xs : List Int} {k : Nat} (h : k < xs.length) : xs.take (k + 1) = xs.take k ++ [xs.getD k 0] := by
  rw [List.take_succ_eq_append_getElem h, List.getD_eq_getElem?_getD, List.getElem?_eq_getElem h]
  rfl
/-- A row of numbers, cell by cell, at its own addresses. -/
theorem int_cells {a : Option Addr} {xs : List Int} {w : World} (h : IntAt a xs w) (hn : xs ≠ []) : ∃ b o, a = some ⟨b, o, none⟩ ∧ ∀ k, k < xs.length → w.cell? ⟨b, o + k, none⟩ = some (.int .i64 (xs.getD k 0)) := by
  obtain ⟨b, o, rfl, h1, h2⟩ := h hn
  exact ⟨b, o, rfl, h2⟩
set_option maxHeartbeats 4000000 in
set_option maxRecDepth 20000 in
theorem RMove_any (a b : Option Addr) (ca cb : Nat) (xs ys : List Int) (dx dy : Int) (w : World) (hx : xs.length ≤ 1000000) (hy : ys.length ≤ 1000000) (hA : IntAt a xs w) (hB : IntAt b ys w) :
    Calls Try.prog 8 #[.agg #[.slice a xs.length ca, .slice b ys.length cb], .int .i64 dx, .int .i64 dy] w fun e w' => ∃ v u, e = .returned (.tuple #[.agg #[v, u], .int .i64 (moveS xs ys dx dy).2]) ∧ (IntRow v (moveS xs ys dx dy).1.1 w' ∧ IntRow u (moveS xs ys dx dy).1.2 w') ∧ Below w.heap.size w w' := by
  have CC := Lib.hid (fun w h1 h2 => RCheckCurve_any a b ca cb xs ys w hx hy h1 h2)
  have HA := Lib.hid hA
  have HB := Lib.hid hB
  clear hA hB
  have NIL : ∀ W : World, IntRow (.slice none 0 0) [] W ∧ IntRow (.slice none 0 0) [] W := fun W => ⟨⟨none, 0, rfl, fun h => absurd rfl h⟩, ⟨none, 0, rfl, fun h => absurd rfl h⟩⟩
  have HNIL := Lib.hid NIL
  clear NIL
  by_cases h1 : checkC xs ys = 0
  · by_cases h2 : isQ dx = true ∧ isQ dy = true
    · obtain ⟨⟨hpre, hris⟩, h64⟩ := checkC_good h1
      rw [h1] at CC
      obtain ⟨h3, h4⟩ := h2
      obtain ⟨p1, p2, p3, p4⟩ := hpre
      have hm : moveS xs ys dx dy = if moveOk xs ys dx dy xs.length then ((xs.map (· + dx), ys.map (· + dy)), 0) else (([], []), 4) := by
        unfold moveS; rw [if_neg (by simp [h1]), if_neg (fun h => h ⟨h3, h4⟩)]
      have HM := Lib.hid hm
      have HL := Lib.hid p1
      have hne : xs ≠ [] := fun e => by rw [e] at p2; simp at p2
      have hne2 : ys ≠ [] := fun e => by rw [e] at p1; rw [p1] at p2; simp at p2
      have HQ := Lib.hid (show (∀ k, -1099511627776 ≤ xs.getD k 0 ∧ xs.getD k 0 ≤ 1099511627776) ∧ (∀ k, -1099511627776 ≤ ys.getD k 0 ∧ ys.getD k 0 ≤ 1099511627776) from ⟨allQ_getD p3, allQ_getD p4⟩)
      have bx := (isQ_iff _).1 h3
      have by_ := (isQ_iff _).1 h4
      rw [← p1] at CC ⊢
      obtain ⟨ba, oa, rfl, fx⟩ := int_cells HA.out hne
      obtain ⟨bb, ob, rfl, fy⟩ := int_cells HB.out hne2
      have FX := Lib.hid fx
      have FY := Lib.hid fy
      generalize moveS xs ys dx dy = R' at *
      clear hm h1 p1 p3 p4 hris fx fy hne hne2
      obtain ⟨j0, hj, hy0, hy1, hy2⟩ := info_parts infoI
      have B0 := Lib.hid (blk_alloc (o := .cells #[.slice none 0 0, .slice none 0 0] 24) (blk_new w (.cells #[(.slice (some ⟨ba, oa, none⟩) xs.length ca), (.slice (some ⟨bb, ob, none⟩) xs.length cb)] 24)))
      have R0 := Lib.hid (blk_new (w.alloc (.cells #[(.slice (some ⟨ba, oa, none⟩) xs.length ca), (.slice (some ⟨bb, ob, none⟩) xs.length cb)] 24)) (.cells #[.slice none 0 0, .slice none 0 0] 24))
      rw [World.size_alloc] at R0
      go_enter Try.func8, Try.ntmps8
      go_wp2_with (first
        | (go_at_call 41; refine (CC.out _ (HA.out.step (by repeat' (first | exact Below.refl _ _ | assumption | apply bDrewN | apply bDrew | apply bAlloc | (refine bSet ?_ ?_ _) | (refine bStep ?_ (by assumption)) | omega | (simp <;> omega)))) (HB.out.step (by repeat' (first | exact Below.refl _ _ | assumption | apply bDrewN | apply bDrew | apply bAlloc | (refine bSet ?_ ?_ _) | (refine bStep ?_ (by assumption)) | omega | (simp <;> omega))))).mono ?_; rintro e w1 ⟨rfl, hb1⟩; replace B0 := Lib.hid (blk_step B0.out hb1); replace R0 := Lib.hid (blk_step R0.out hb1); obtain ⟨c0, c1, k0⟩ := cv_open B0.out; obtain ⟨c2, c3, c4, c5, k1⟩ := cv_openF R0.out)
        | (go_at_call 42; refine (Is_any _ _).mono ?_; rintro e w' ⟨rfl, rfl⟩))
      have P0 : CuQ w [(w.heap.size, .cells #[(.slice (some ⟨ba, oa, none⟩) xs.length ca), (.slice (some ⟨bb, ob, none⟩) xs.length cb)] 24)] (w.heap.size + 1) w1.heap.size (w1.heap.size + 1) (.slice none 0 0) (.slice none 0 0) [] [] (w1.alloc (.cells #[.slice none 0 0, .slice none 0 0] 24)) := by
        have hb0 : Below w.heap.size w w1 := (by repeat' (first | exact Below.refl _ _ | assumption | apply bDrewN | apply bDrew | apply bAlloc | (refine bSet ?_ ?_ _) | (refine bStep ?_ (by assumption)) | omega | (simp <;> omega)))
        have hs1 := hb0.size
        refine ⟨by omega, ?_, bAlloc hb0 _, by simp, blk_alloc R0.out, blk_new _ _, ?_, IntOwn.nil, IntOwn.nil, Far.nil⟩
        · intro p hp
          obtain rfl := List.mem_singleton.1 hp
          exact ⟨by show w.heap.size < _; omega, by show w.heap.size ≠ _; omega, by show w.heap.size ≠ _; omega⟩
        · intro p hp
          obtain rfl := List.mem_singleton.1 hp
          exact blk_alloc B0.out
      replace P0 := Lib.hid P0
      obtain ⟨C, hC⟩ : ∃ C, C = w1.heap.size := ⟨_, rfl⟩
      obtain ⟨R, hR⟩ : ∃ R, R = w.heap.size + 1 := ⟨_, rfl⟩
      obtain ⟨B, hBe⟩ : ∃ B, B = w1.heap.size + 1 := ⟨_, rfl⟩
      rw [← hC, ← hR, show C + 1 = B by omega] at P0
      rw [← hC, ← hR]
      clear B0 R0 c0 c1 c2 c3 c4 c5 CC hC hR hBe
      go_loopw [10] (fun i wr => ∃ (k : Nat) (vx vy : Value), k ≤ xs.length ∧ i = .int .i64 k ∧ Hid (moveOk xs ys dx dy k) ∧ Hid (CuQ w [(w.heap.size, .cells #[(.slice (some ⟨ba, oa, none⟩) xs.length ca), (.slice (some ⟨bb, ob, none⟩) xs.length cb)] 24)] R C B vx vy ((xs.take k).map (· + dx)) ((ys.take k).map (· + dy)) wr)) (fun i _ => xs.length - (intOf i).toNat)
      case atStart => exact ⟨0, _, _, by omega, rfl, (fun k hk => absurd hk (by omega)), Lib.hid (by simpa using P0.out)⟩
      case round =>
        obtain ⟨k, vx, vy, hk, rfl, HO, P0'⟩ := hrel
        clear P0
        have P0 := P0'
        clear P0'
        obtain ⟨r0, r1, r2, r3, r4, r5, r6, r7, r8, r9⟩ := P0.out.open_
        obtain ⟨c0, c1, k0⟩ := cv_open (P0.out.sb _ (List.mem_singleton.2 rfl))
        have i1 : (0 : Int) ≤ (k : Int) := by omega
        by_cases hlt : k < xs.length
        · have hlt2 : (k : Int) < xs.length := by omega
          have hly : k < ys.length := by rw [← HL.out]; exact hlt
          have HX := Lib.hid (FX.out k hlt)
          have HY := Lib.hid (FY.out k hly)
          have q1 := HQ.out.1 k
          have q2 := HQ.out.2 k
          have HT := Lib.hid (take_more hlt)
          have HT2 := Lib.hid (take_more hly)
          have HN := Lib.hid (show isQ (xs.getD k 0 + dx) = true → isQ (ys.getD k 0 + dy) = true → moveOk xs ys dx dy (k + 1) from fun a b j hj => by
            rcases Nat.lt_or_ge j k with h' | h'
            · exact HO j h'
            · obtain rfl : j = k := by omega
              exact ⟨a, b⟩)
          have HF := Lib.hid (show (isQ (xs.getD k 0 + dx) = false ∨ isQ (ys.getD k 0 + dy) = false) → R' = (([], []), 4) from fun h => by
            rw [HM.out, if_neg]
            intro hh
            have := hh k hlt
            rcases h with h | h
            · exact absurd (h.symm.trans this.1) (by decide)
            · exact absurd (h.symm.trans this.2) (by decide))
          have hln : Hid (((xs.take k).map (· + dx)).length ≤ 64 ∧ ((ys.take k).map (· + dy)).length ≤ 64) := by
            unfold Hid
            simp only [List.length_map, List.length_take]
            omega
          have s1 := P0.out.row HX.out
          have s2 := P0.out.row HY.out
          have HT3 := Lib.hid (show (xs.take (k + 1)).map (· + dx) = (xs.take k).map (· + dx) ++ [xs.getD k 0 + dx] by rw [HT.out]; simp)
          have HT4 := Lib.hid (show (ys.take (k + 1)).map (· + dy) = (ys.take k).map (· + dy) ++ [ys.getD k 0 + dy] by rw [HT2.out]; simp)
          clear HT HT2 HO HQ FX FY hly HM
          generalize (xs.take k).map (· + dx) = RX at *
          generalize (ys.take k).map (· + dy) = RY at *
          generalize xs.getD k 0 = x at *
          generalize ys.getD k 0 = y at *
          have a1 : IntKind.i64.wrap (x + dx) = x + dx := Go.IntWalk.i64_in _ ⟨by omega, by omega⟩
          have a2 : IntKind.i64.wrap (y + dy) = y + dy := Go.IntWalk.i64_in _ ⟨by omega, by omega⟩
          by_cases b1 : isQ (x + dx) = true
          · by_cases b2 : isQ (y + dy) = true
            · have HN2 := Lib.hid (HN.out b1 b2)
              clear HN HF
              go_upto_region 12 with (go_at_call 42; refine (Is_any _ _).mono ?_; rintro e w' ⟨rfl, rfl⟩)
              refine region_chain 12 9 10 63 64 16 [(54, (.pointer (some ⟨C, 0, none⟩))), (55, vx), (56, (.pointer (some ⟨w.heap.size, 0, none⟩))), (57, (.slice (some ⟨ba, oa, none⟩) xs.length ca)), (58, (.int .i64 (k : Int))), (59, (.pointer (some ⟨ba, oa + k, none⟩))), (60, (.int .i64 x)), (61, (.int .i64 dx)), (62, (.int .i64 (x + dx))), (65, (.pointer (some ⟨C, 0, none⟩)))] (StQ w [(w.heap.size, .cells #[(.slice (some ⟨ba, oa, none⟩) xs.length ca), (.slice (some ⟨bb, ob, none⟩) xs.length cb)] 24)] R C B #[vx, vy] vx RX vy RY (x + dx)) (by kernel_rfl) (by kernel_rfl) rfl (by kernel_rfl) (by kernel_rfl) (by kernel_rfl) (by decide) (by decide) (by decide) (fun _ => by simp) (fun _ => by simp) (by rfl) ?h0 ?reads ?eff1 ?eff2 ?tail
              case h0 =>
                intro v1 v2
                exact P0.out.startX
              case reads =>
                simp only [List.take_succ_cons, List.take_zero, AllRd]
                refine ⟨?_, ?_, ?_, ?_, ?_, ?_, ?_, ?_, ?_, ?_, ?_, ?_, trivial⟩
                · (intro hn1 hn2; clear hn1 hn2; refine ⟨54, (.pointer (some ⟨C, 0, none⟩)), rfl, by kernel_rfl, ?_⟩; intro b1 b2 v1 v2 W h; have HST := Lib.hid h; obtain ⟨g0, g1, g2, g3, g4⟩ := h.cell; obtain ⟨f0, f1, f2⟩ := cv_open (h.sb _ (List.mem_singleton.2 rfl)); have g5 := h.row HX.out; have hlim := h.lim; intro K Q hK; simp only [updAll, Act.put, List.setIfInBounds_toArray, List.set_cons_zero, List.set_cons_succ, List.set_nil] at hK ⊢; go_wp2_with (fail); all_goals (first | exact hK _ (by first | exact h | exact h.step (by repeat' (first | exact Below.refl _ _ | apply bDrewN | apply bDrew))) | exact (by first | exact h | exact h.step (by repeat' (first | exact Below.refl _ _ | apply bDrewN | apply bDrew)))))
                · (intro hn1 hn2; clear hn1 hn2; refine ⟨55, vx, rfl, by kernel_rfl, ?_⟩; intro b1 b2 v1 v2 W h; have HST := Lib.hid h; obtain ⟨g0, g1, g2, g3, g4⟩ := h.cell; obtain ⟨f0, f1, f2⟩ := cv_open (h.sb _ (List.mem_singleton.2 rfl)); have g5 := h.row HX.out; have hlim := h.lim; intro K Q hK; simp only [updAll, Act.put, List.setIfInBounds_toArray, List.set_cons_zero, List.set_cons_succ, List.set_nil] at hK ⊢; go_wp2_with (fail); all_goals (first | exact hK _ (by first | exact h | exact h.step (by repeat' (first | exact Below.refl _ _ | apply bDrewN | apply bDrew))) | exact (by first | exact h | exact h.step (by repeat' (first | exact Below.refl _ _ | apply bDrewN | apply bDrew)))))
                · (intro hn1 hn2; clear hn1 hn2; refine ⟨56, (.pointer (some ⟨w.heap.size, 0, none⟩)), rfl, by kernel_rfl, ?_⟩; intro b1 b2 v1 v2 W h; have HST := Lib.hid h; obtain ⟨g0, g1, g2, g3, g4⟩ := h.cell; obtain ⟨f0, f1, f2⟩ := cv_open (h.sb _ (List.mem_singleton.2 rfl)); have g5 := h.row HX.out; have hlim := h.lim; intro K Q hK; simp only [updAll, Act.put, List.setIfInBounds_toArray, List.set_cons_zero, List.set_cons_succ, List.set_nil] at hK ⊢; go_wp2_with (fail); all_goals (first | exact hK _ (by first | exact h | exact h.step (by repeat' (first | exact Below.refl _ _ | apply bDrewN | apply bDrew))) | exact (by first | exact h | exact h.step (by repeat' (first | exact Below.refl _ _ | apply bDrewN | apply bDrew)))))
                · (intro hn1 hn2; clear hn1 hn2; refine ⟨57, (.slice (some ⟨ba, oa, none⟩) xs.length ca), rfl, by kernel_rfl, ?_⟩; intro b1 b2 v1 v2 W h; have HST := Lib.hid h; obtain ⟨g0, g1, g2, g3, g4⟩ := h.cell; obtain ⟨f0, f1, f2⟩ := cv_open (h.sb _ (List.mem_singleton.2 rfl)); have g5 := h.row HX.out; have hlim := h.lim; intro K Q hK; simp only [updAll, Act.put, List.setIfInBounds_toArray, List.set_cons_zero, List.set_cons_succ, List.set_nil] at hK ⊢; go_wp2_with (fail); all_goals (first | exact hK _ (by first | exact h | exact h.step (by repeat' (first | exact Below.refl _ _ | apply bDrewN | apply bDrew))) | exact (by first | exact h | exact h.step (by repeat' (first | exact Below.refl _ _ | apply bDrewN | apply bDrew)))))
                · (intro hn1 hn2; clear hn1 hn2; refine ⟨58, (.int .i64 (k : Int)), rfl, by kernel_rfl, ?_⟩; intro b1 b2 v1 v2 W h; have HST := Lib.hid h; obtain ⟨g0, g1, g2, g3, g4⟩ := h.cell; obtain ⟨f0, f1, f2⟩ := cv_open (h.sb _ (List.mem_singleton.2 rfl)); have g5 := h.row HX.out; have hlim := h.lim; intro K Q hK; simp only [updAll, Act.put, List.setIfInBounds_toArray, List.set_cons_zero, List.set_cons_succ, List.set_nil] at hK ⊢; go_wp2_with (fail); all_goals (first | exact hK _ (by first | exact h | exact h.step (by repeat' (first | exact Below.refl _ _ | apply bDrewN | apply bDrew))) | exact (by first | exact h | exact h.step (by repeat' (first | exact Below.refl _ _ | apply bDrewN | apply bDrew)))))
                · (intro hn1 hn2; clear hn1 hn2; refine ⟨59, (.pointer (some ⟨ba, oa + k, none⟩)), rfl, by kernel_rfl, ?_⟩; intro b1 b2 v1 v2 W h; have HST := Lib.hid h; obtain ⟨g0, g1, g2, g3, g4⟩ := h.cell; obtain ⟨f0, f1, f2⟩ := cv_open (h.sb _ (List.mem_singleton.2 rfl)); have g5 := h.row HX.out; have hlim := h.lim; intro K Q hK; simp only [updAll, Act.put, List.setIfInBounds_toArray, List.set_cons_zero, List.set_cons_succ, List.set_nil] at hK ⊢; go_wp2_with (fail); all_goals (first | exact hK _ (by first | exact h | exact h.step (by repeat' (first | exact Below.refl _ _ | apply bDrewN | apply bDrew))) | exact (by first | exact h | exact h.step (by repeat' (first | exact Below.refl _ _ | apply bDrewN | apply bDrew)))))
                · (intro hn1 hn2; clear hn1 hn2; refine ⟨60, (.int .i64 x), rfl, by kernel_rfl, ?_⟩; intro b1 b2 v1 v2 W h; have HST := Lib.hid h; obtain ⟨g0, g1, g2, g3, g4⟩ := h.cell; obtain ⟨f0, f1, f2⟩ := cv_open (h.sb _ (List.mem_singleton.2 rfl)); have g5 := h.row HX.out; have hlim := h.lim; intro K Q hK; simp only [updAll, Act.put, List.setIfInBounds_toArray, List.set_cons_zero, List.set_cons_succ, List.set_nil] at hK ⊢; go_wp2_with (fail); all_goals (first | exact hK _ (by first | exact h | exact h.step (by repeat' (first | exact Below.refl _ _ | apply bDrewN | apply bDrew))) | exact (by first | exact h | exact h.step (by repeat' (first | exact Below.refl _ _ | apply bDrewN | apply bDrew)))))
                · (intro hn1 hn2; clear hn1 hn2; refine ⟨61, (.int .i64 dx), rfl, by kernel_rfl, ?_⟩; intro b1 b2 v1 v2 W h; have HST := Lib.hid h; obtain ⟨g0, g1, g2, g3, g4⟩ := h.cell; obtain ⟨f0, f1, f2⟩ := cv_open (h.sb _ (List.mem_singleton.2 rfl)); have g5 := h.row HX.out; have hlim := h.lim; intro K Q hK; simp only [updAll, Act.put, List.setIfInBounds_toArray, List.set_cons_zero, List.set_cons_succ, List.set_nil] at hK ⊢; go_wp2_with (fail); all_goals (first | exact hK _ (by first | exact h | exact h.step (by repeat' (first | exact Below.refl _ _ | apply bDrewN | apply bDrew))) | exact (by first | exact h | exact h.step (by repeat' (first | exact Below.refl _ _ | apply bDrewN | apply bDrew)))))
                · (intro hn1 hn2; clear hn1 hn2; refine ⟨62, (.int .i64 (x + dx)), rfl, by kernel_rfl, ?_⟩; intro b1 b2 v1 v2 W h; have HST := Lib.hid h; obtain ⟨g0, g1, g2, g3, g4⟩ := h.cell; obtain ⟨f0, f1, f2⟩ := cv_open (h.sb _ (List.mem_singleton.2 rfl)); have g5 := h.row HX.out; have hlim := h.lim; intro K Q hK; simp only [updAll, Act.put, List.setIfInBounds_toArray, List.set_cons_zero, List.set_cons_succ, List.set_nil] at hK ⊢; go_wp2_with (fail); all_goals (first | exact hK _ (by first | exact h | exact h.step (by repeat' (first | exact Below.refl _ _ | apply bDrewN | apply bDrew))) | exact (by first | exact h | exact h.step (by repeat' (first | exact Below.refl _ _ | apply bDrewN | apply bDrew)))))
                · intro hn1 hn2; exact absurd rfl hn1
                · intro hn1 hn2; exact absurd rfl hn2
                · (intro hn1 hn2; clear hn1 hn2; refine ⟨65, (.pointer (some ⟨C, 0, none⟩)), rfl, by kernel_rfl, ?_⟩; intro b1 b2 v1 v2 W h; have HST := Lib.hid h; obtain ⟨g0, g1, g2, g3, g4⟩ := h.cell; obtain ⟨f0, f1, f2⟩ := cv_open (h.sb _ (List.mem_singleton.2 rfl)); have g5 := h.row HX.out; have hlim := h.lim; intro K Q hK; simp only [updAll, Act.put, List.setIfInBounds_toArray, List.set_cons_zero, List.set_cons_succ, List.set_nil] at hK ⊢; go_wp2_with (fail); all_goals (first | exact hK _ (by first | exact h | exact h.step (by repeat' (first | exact Below.refl _ _ | apply bDrewN | apply bDrew))) | exact (by first | exact h | exact h.step (by repeat' (first | exact Below.refl _ _ | apply bDrewN | apply bDrew)))))
              case eff1 =>
                intro o ho
                obtain rfl := Option.some.inj (show some _ = some o from ho)
                intro v1 v2 W h; have HST := Lib.hid h; obtain ⟨g0, g1, g2, g3, g4⟩ := h.cell; obtain ⟨f0, f1, f2⟩ := cv_open (h.sb _ (List.mem_singleton.2 rfl)); have g5 := h.row HX.out; have hlim := h.lim; intro K Q hK; simp only [updAll, Act.put, List.setIfInBounds_toArray, List.set_cons_zero, List.set_cons_succ, List.set_nil] at hK ⊢
                go_wp2_with fail
                first | exact hK _ _ h.built | exact h.built
              case eff2 =>
                intro o ho
                obtain rfl := Option.some.inj (show some _ = some o from ho)
                intro v1 v2 W h; have HST := Lib.hid h; obtain ⟨g0, g1, g2, g3, g4⟩ := h.cell; obtain ⟨f0, f1, f2⟩ := cv_open (h.sb _ (List.mem_singleton.2 rfl)); have g5 := h.row HX.out; have hlim := h.lim; intro K Q hK; simp only [updAll, Act.put, List.setIfInBounds_toArray, List.set_cons_zero, List.set_cons_succ, List.set_nil] at hK ⊢
                obtain ⟨g, rfl, hg⟩ := h.blt rfl rfl
                refine wp_append_own_at _ (.tmp 55) (.tmp 63) 22 rfl B 2 j0 (.int .i64 0) 1 8 Try.underlying22 hj hy0 hy1 hy2 rfl (by decide) _ _ _ rfl (h.own rfl) ⟨g, 0, none⟩ 1 1 [.int .i64 _] rfl rfl (one_cellI hg) (one_one _) (by have := hln.out; unfold maxLen; omega) (by have := hln.out; omega) (by have := h.lim; omega) ?_
                intro v' w' hown' hgrow hat
                first | exact hK _ _ (h.added hown' hgrow hat) | exact h.added hown' hgrow hat
              case tail =>
                intro v1 v2 W h; have HST := Lib.hid h; obtain ⟨g0, g1, g2, g3, g4⟩ := h.cell; obtain ⟨f0, f1, f2⟩ := cv_open (h.sb _ (List.mem_singleton.2 rfl)); have g5 := h.row HX.out; have hlim := h.lim
                refine wpOp_plain rfl rfl ?_
                simp only [updAll, Act.put, List.setIfInBounds_toArray, List.set_cons_zero, List.set_cons_succ, List.set_nil]
                obtain ⟨gv, cv, rfl, -, -⟩ := (h.app rfl).1.blk (by simp)
                go_upto_region 13 with fail
                clear P0
                have P0 := h.finX
                simp only [List.length_append, List.length_singleton] at P0
                replace P0 := Lib.hid P0
                clear h HST
                refine region_chain 12 9 10 75 76 16 [(66, (.pointer (some ⟨C, 1, none⟩))), (67, vy), (68, (.pointer (some ⟨w.heap.size, 1, none⟩))), (69, (.slice (some ⟨bb, ob, none⟩) xs.length cb)), (70, (.int .i64 (k : Int))), (71, (.pointer (some ⟨bb, ob + k, none⟩))), (72, (.int .i64 y)), (73, (.int .i64 dy)), (74, (.int .i64 (y + dy))), (77, (.pointer (some ⟨C, 1, none⟩)))] (StQ w [(w.heap.size, .cells #[(.slice (some ⟨ba, oa, none⟩) xs.length ca), (.slice (some ⟨bb, ob, none⟩) xs.length cb)] 24)] R C B #[(.slice (some ⟨gv, 0, none⟩) (RX.length + 1) cv), vy] vy RY (.slice (some ⟨gv, 0, none⟩) (RX.length + 1) cv) (RX ++ [x + dx]) (y + dy)) (by kernel_rfl) (by kernel_rfl) rfl (by kernel_rfl) (by kernel_rfl) (by kernel_rfl) (by decide) (by decide) (by decide) (fun _ => by simp) (fun _ => by simp) (by rfl) ?h0 ?reads ?eff1 ?eff2 ?tail
                case h0 =>
                  intro v1 v2
                  exact P0.out.startY
                case reads =>
                  simp only [List.take_succ_cons, List.take_zero, AllRd]
                  refine ⟨?_, ?_, ?_, ?_, ?_, ?_, ?_, ?_, ?_, ?_, ?_, ?_, trivial⟩
                  · (intro hn1 hn2; clear hn1 hn2; refine ⟨66, (.pointer (some ⟨C, 1, none⟩)), rfl, by kernel_rfl, ?_⟩; intro b1 b2 v1 v2 W h; have HST := Lib.hid h; obtain ⟨g0, g1, g2, g3, g4⟩ := h.cell; obtain ⟨f0, f1, f2⟩ := cv_open (h.sb _ (List.mem_singleton.2 rfl)); have g5 := h.row HY.out; have hlim := h.lim; intro K Q hK; simp only [updAll, Act.put, List.setIfInBounds_toArray, List.set_cons_zero, List.set_cons_succ, List.set_nil] at hK ⊢; go_wp2_with (fail); all_goals (first | exact hK _ (by first | exact h | exact h.step (by repeat' (first | exact Below.refl _ _ | apply bDrewN | apply bDrew))) | exact (by first | exact h | exact h.step (by repeat' (first | exact Below.refl _ _ | apply bDrewN | apply bDrew)))))
                  · (intro hn1 hn2; clear hn1 hn2; refine ⟨67, vy, rfl, by kernel_rfl, ?_⟩; intro b1 b2 v1 v2 W h; have HST := Lib.hid h; obtain ⟨g0, g1, g2, g3, g4⟩ := h.cell; obtain ⟨f0, f1, f2⟩ := cv_open (h.sb _ (List.mem_singleton.2 rfl)); have g5 := h.row HY.out; have hlim := h.lim; intro K Q hK; simp only [updAll, Act.put, List.setIfInBounds_toArray, List.set_cons_zero, List.set_cons_succ, List.set_nil] at hK ⊢; go_wp2_with (fail); all_goals (first | exact hK _ (by first | exact h | exact h.step (by repeat' (first | exact Below.refl _ _ | apply bDrewN | apply bDrew))) | exact (by first | exact h | exact h.step (by repeat' (first | exact Below.refl _ _ | apply bDrewN | apply bDrew)))))
                  · (intro hn1 hn2; clear hn1 hn2; refine ⟨68, (.pointer (some ⟨w.heap.size, 1, none⟩)), rfl, by kernel_rfl, ?_⟩; intro b1 b2 v1 v2 W h; have HST := Lib.hid h; obtain ⟨g0, g1, g2, g3, g4⟩ := h.cell; obtain ⟨f0, f1, f2⟩ := cv_open (h.sb _ (List.mem_singleton.2 rfl)); have g5 := h.row HY.out; have hlim := h.lim; intro K Q hK; simp only [updAll, Act.put, List.setIfInBounds_toArray, List.set_cons_zero, List.set_cons_succ, List.set_nil] at hK ⊢; go_wp2_with (fail); all_goals (first | exact hK _ (by first | exact h | exact h.step (by repeat' (first | exact Below.refl _ _ | apply bDrewN | apply bDrew))) | exact (by first | exact h | exact h.step (by repeat' (first | exact Below.refl _ _ | apply bDrewN | apply bDrew)))))
                  · (intro hn1 hn2; clear hn1 hn2; refine ⟨69, (.slice (some ⟨bb, ob, none⟩) xs.length cb), rfl, by kernel_rfl, ?_⟩; intro b1 b2 v1 v2 W h; have HST := Lib.hid h; obtain ⟨g0, g1, g2, g3, g4⟩ := h.cell; obtain ⟨f0, f1, f2⟩ := cv_open (h.sb _ (List.mem_singleton.2 rfl)); have g5 := h.row HY.out; have hlim := h.lim; intro K Q hK; simp only [updAll, Act.put, List.setIfInBounds_toArray, List.set_cons_zero, List.set_cons_succ, List.set_nil] at hK ⊢; go_wp2_with (fail); all_goals (first | exact hK _ (by first | exact h | exact h.step (by repeat' (first | exact Below.refl _ _ | apply bDrewN | apply bDrew))) | exact (by first | exact h | exact h.step (by repeat' (first | exact Below.refl _ _ | apply bDrewN | apply bDrew)))))
                  · (intro hn1 hn2; clear hn1 hn2; refine ⟨70, (.int .i64 (k : Int)), rfl, by kernel_rfl, ?_⟩; intro b1 b2 v1 v2 W h; have HST := Lib.hid h; obtain ⟨g0, g1, g2, g3, g4⟩ := h.cell; obtain ⟨f0, f1, f2⟩ := cv_open (h.sb _ (List.mem_singleton.2 rfl)); have g5 := h.row HY.out; have hlim := h.lim; intro K Q hK; simp only [updAll, Act.put, List.setIfInBounds_toArray, List.set_cons_zero, List.set_cons_succ, List.set_nil] at hK ⊢; go_wp2_with (fail); all_goals (first | exact hK _ (by first | exact h | exact h.step (by repeat' (first | exact Below.refl _ _ | apply bDrewN | apply bDrew))) | exact (by first | exact h | exact h.step (by repeat' (first | exact Below.refl _ _ | apply bDrewN | apply bDrew)))))
                  · (intro hn1 hn2; clear hn1 hn2; refine ⟨71, (.pointer (some ⟨bb, ob + k, none⟩)), rfl, by kernel_rfl, ?_⟩; intro b1 b2 v1 v2 W h; have HST := Lib.hid h; obtain ⟨g0, g1, g2, g3, g4⟩ := h.cell; obtain ⟨f0, f1, f2⟩ := cv_open (h.sb _ (List.mem_singleton.2 rfl)); have g5 := h.row HY.out; have hlim := h.lim; intro K Q hK; simp only [updAll, Act.put, List.setIfInBounds_toArray, List.set_cons_zero, List.set_cons_succ, List.set_nil] at hK ⊢; go_wp2_with (fail); all_goals (first | exact hK _ (by first | exact h | exact h.step (by repeat' (first | exact Below.refl _ _ | apply bDrewN | apply bDrew))) | exact (by first | exact h | exact h.step (by repeat' (first | exact Below.refl _ _ | apply bDrewN | apply bDrew)))))
                  · (intro hn1 hn2; clear hn1 hn2; refine ⟨72, (.int .i64 y), rfl, by kernel_rfl, ?_⟩; intro b1 b2 v1 v2 W h; have HST := Lib.hid h; obtain ⟨g0, g1, g2, g3, g4⟩ := h.cell; obtain ⟨f0, f1, f2⟩ := cv_open (h.sb _ (List.mem_singleton.2 rfl)); have g5 := h.row HY.out; have hlim := h.lim; intro K Q hK; simp only [updAll, Act.put, List.setIfInBounds_toArray, List.set_cons_zero, List.set_cons_succ, List.set_nil] at hK ⊢; go_wp2_with (fail); all_goals (first | exact hK _ (by first | exact h | exact h.step (by repeat' (first | exact Below.refl _ _ | apply bDrewN | apply bDrew))) | exact (by first | exact h | exact h.step (by repeat' (first | exact Below.refl _ _ | apply bDrewN | apply bDrew)))))
                  · (intro hn1 hn2; clear hn1 hn2; refine ⟨73, (.int .i64 dy), rfl, by kernel_rfl, ?_⟩; intro b1 b2 v1 v2 W h; have HST := Lib.hid h; obtain ⟨g0, g1, g2, g3, g4⟩ := h.cell; obtain ⟨f0, f1, f2⟩ := cv_open (h.sb _ (List.mem_singleton.2 rfl)); have g5 := h.row HY.out; have hlim := h.lim; intro K Q hK; simp only [updAll, Act.put, List.setIfInBounds_toArray, List.set_cons_zero, List.set_cons_succ, List.set_nil] at hK ⊢; go_wp2_with (fail); all_goals (first | exact hK _ (by first | exact h | exact h.step (by repeat' (first | exact Below.refl _ _ | apply bDrewN | apply bDrew))) | exact (by first | exact h | exact h.step (by repeat' (first | exact Below.refl _ _ | apply bDrewN | apply bDrew)))))
                  · (intro hn1 hn2; clear hn1 hn2; refine ⟨74, (.int .i64 (y + dy)), rfl, by kernel_rfl, ?_⟩; intro b1 b2 v1 v2 W h; have HST := Lib.hid h; obtain ⟨g0, g1, g2, g3, g4⟩ := h.cell; obtain ⟨f0, f1, f2⟩ := cv_open (h.sb _ (List.mem_singleton.2 rfl)); have g5 := h.row HY.out; have hlim := h.lim; intro K Q hK; simp only [updAll, Act.put, List.setIfInBounds_toArray, List.set_cons_zero, List.set_cons_succ, List.set_nil] at hK ⊢; go_wp2_with (fail); all_goals (first | exact hK _ (by first | exact h | exact h.step (by repeat' (first | exact Below.refl _ _ | apply bDrewN | apply bDrew))) | exact (by first | exact h | exact h.step (by repeat' (first | exact Below.refl _ _ | apply bDrewN | apply bDrew)))))
                  · intro hn1 hn2; exact absurd rfl hn1
                  · intro hn1 hn2; exact absurd rfl hn2
                  · (intro hn1 hn2; clear hn1 hn2; refine ⟨77, (.pointer (some ⟨C, 1, none⟩)), rfl, by kernel_rfl, ?_⟩; intro b1 b2 v1 v2 W h; have HST := Lib.hid h; obtain ⟨g0, g1, g2, g3, g4⟩ := h.cell; obtain ⟨f0, f1, f2⟩ := cv_open (h.sb _ (List.mem_singleton.2 rfl)); have g5 := h.row HY.out; have hlim := h.lim; intro K Q hK; simp only [updAll, Act.put, List.setIfInBounds_toArray, List.set_cons_zero, List.set_cons_succ, List.set_nil] at hK ⊢; go_wp2_with (fail); all_goals (first | exact hK _ (by first | exact h | exact h.step (by repeat' (first | exact Below.refl _ _ | apply bDrewN | apply bDrew))) | exact (by first | exact h | exact h.step (by repeat' (first | exact Below.refl _ _ | apply bDrewN | apply bDrew)))))
                case eff1 =>
                  intro o ho
                  obtain rfl := Option.some.inj (show some _ = some o from ho)
                  intro v1 v2 W h; have HST := Lib.hid h; obtain ⟨g0, g1, g2, g3, g4⟩ := h.cell; obtain ⟨f0, f1, f2⟩ := cv_open (h.sb _ (List.mem_singleton.2 rfl)); have g5 := h.row HY.out; have hlim := h.lim; intro K Q hK; simp only [updAll, Act.put, List.setIfInBounds_toArray, List.set_cons_zero, List.set_cons_succ, List.set_nil] at hK ⊢
                  go_wp2_with fail
                  first | exact hK _ _ h.built | exact h.built
                case eff2 =>
                  intro o ho
                  obtain rfl := Option.some.inj (show some _ = some o from ho)
                  intro v1 v2 W h; have HST := Lib.hid h; obtain ⟨g0, g1, g2, g3, g4⟩ := h.cell; obtain ⟨f0, f1, f2⟩ := cv_open (h.sb _ (List.mem_singleton.2 rfl)); have g5 := h.row HY.out; have hlim := h.lim; intro K Q hK; simp only [updAll, Act.put, List.setIfInBounds_toArray, List.set_cons_zero, List.set_cons_succ, List.set_nil] at hK ⊢
                  obtain ⟨g, rfl, hg⟩ := h.blt rfl rfl
                  refine wp_append_own_at _ (.tmp 67) (.tmp 75) 22 rfl B 2 j0 (.int .i64 0) 1 8 Try.underlying22 hj hy0 hy1 hy2 rfl (by decide) _ _ _ rfl (h.own rfl) ⟨g, 0, none⟩ 1 1 [.int .i64 _] rfl rfl (one_cellI hg) (one_one _) (by have := hln.out; unfold maxLen; omega) (by have := hln.out; omega) (by have := h.lim; omega) ?_
                  intro v' w' hown' hgrow hat
                  first | exact hK _ _ (h.added hown' hgrow hat) | exact h.added hown' hgrow hat
                case tail =>
                  intro v1 v2 W h; have HST := Lib.hid h; obtain ⟨g0, g1, g2, g3, g4⟩ := h.cell; obtain ⟨f0, f1, f2⟩ := cv_open (h.sb _ (List.mem_singleton.2 rfl)); have g5 := h.row HY.out; have hlim := h.lim
                  refine wpOp_plain rfl rfl ?_
                  simp only [updAll, Act.put, List.setIfInBounds_toArray, List.set_cons_zero, List.set_cons_succ, List.set_nil]
                  obtain ⟨gv, cv, rfl, -, -⟩ := (h.app rfl).1.blk (by simp)
                  go_wp2_with fail
                  go_roundw
                  case rel => exact ⟨k + 1, _, _, by omega, by push_cast; rfl, HN2.out, by unfold Hid; rw [HT3.out, HT4.out]; (have q := h.finY); simp only [List.length_append, List.length_singleton] at q; exact q⟩
                  case measure => (simp [intOf]; omega)
            · obtain b2 : isQ (y + dy) = false := by simpa using b2
              have hR := HF.out (Or.inr b2)
              subst hR
              clear HN HF HX HY HT3 HT4
              go_wp2_with (go_at_call 42; refine (Is_any _ _).mono ?_; rintro e w' ⟨rfl, rfl⟩)
              exact bodyPost_ret (v := .tuple #[.agg #[.slice none 0 0, .slice none 0 0], .int .i64 4]) (by simp only [results, Try.results8]; go_simp) rfl ⟨_, _, rfl, HNIL.out _, bSet (bSet P0.out.bel (by have := P0.out.hB; show w.heap.size ≤ R; omega) _) (by have := P0.out.hB; show w.heap.size ≤ R; omega) _⟩
          · obtain b1 : isQ (x + dx) = false := by simpa using b1
            have hR := HF.out (Or.inl b1)
            subst hR
            clear HN HF HX HY HT3 HT4
            go_wp2_with (go_at_call 42; refine (Is_any _ _).mono ?_; rintro e w' ⟨rfl, rfl⟩)
            exact bodyPost_ret (v := .tuple #[.agg #[.slice none 0 0, .slice none 0 0], .int .i64 4]) (by simp only [results, Try.results8]; go_simp) rfl ⟨_, _, rfl, HNIL.out _, bSet (bSet P0.out.bel (by have := P0.out.hB; show w.heap.size ≤ R; omega) _) (by have := P0.out.hB; show w.heap.size ≤ R; omega) _⟩
        · have hR : R' = (((xs.take k).map (· + dx), (ys.take k).map (· + dy)), 0) := by
            rw [HM.out, if_pos (show moveOk xs ys dx dy xs.length from fun j hj => HO j (by omega)), List.take_of_length_le (by omega), List.take_of_length_le (by have := HL.out; omega)]
          generalize (xs.take k).map (· + dx) = RX at *
          generalize (ys.take k).map (· + dy) = RY at *
          subst hR
          have hle : ¬ (k : Int) < xs.length := by omega
          obtain ⟨a1, d1, rfl, -⟩ := P0.out.ox.row
          obtain ⟨a2, d2, rfl, -⟩ := P0.out.oy.row
          clear HO HQ FX FY HM
          go_wp2_with fail
          exact bodyPost_ret (v := .tuple #[.agg #[.slice a1 RX.length d1, .slice a2 RY.length d2], .int .i64 0]) (by simp only [results, Try.results8]; go_simp) rfl ⟨_, _, rfl, P0.out.done, bSet (bSet P0.out.bel (by have := P0.out.hB; show w.heap.size ≤ R; omega) _) (by have := P0.out.hB; show w.heap.size ≤ R; omega) _⟩
    · have hm : moveS xs ys dx dy = (([], []), 2) := by unfold moveS; rw [if_neg (by simp [h1]), if_pos h2]
      rw [hm]
      rw [h1] at CC
      have h3 : isQ dx = false ∨ (isQ dx = true ∧ isQ dy = false) := by
        cases h : isQ dx <;> cases h' : isQ dy <;> simp [h, h'] at h2 ⊢
      clear hm h1 h2 hx hy
      rcases h3 with h3 | ⟨h3, h4⟩
      all_goals
        go_enter Try.func8, Try.ntmps8
        go_wp2_with (first | (go_at_call 41; refine (CC.out _ (HA.out.step (by repeat' (first | exact Below.refl _ _ | assumption | apply bDrewN | apply bDrew | apply bAlloc | (refine bSet ?_ ?_ _) | (refine bStep ?_ (by assumption)) | omega | (simp <;> omega)))) (HB.out.step (by repeat' (first | exact Below.refl _ _ | assumption | apply bDrewN | apply bDrew | apply bAlloc | (refine bSet ?_ ?_ _) | (refine bStep ?_ (by assumption)) | omega | (simp <;> omega))))).mono ?_; rintro e w1 ⟨rfl, hb1⟩; obtain ⟨hcw1, hfw1⟩ := bcell hb1; have hzw1 := Below.size hb1; (try simp at hzw1); have hzw10 : w.heap.size < w1.heap.size := (by omega); have hzw11 : w.heap.size + 1 < w1.heap.size := (by omega)) | (go_at_call 42; refine (Is_any _ _).mono ?_; rintro e w' ⟨rfl, rfl⟩))
        exact bodyPost_ret (v := .tuple #[.agg #[.slice none 0 0, .slice none 0 0], .int .i64 2]) (by simp only [results, Try.results8]; go_simp) rfl ⟨_, _, rfl, HNIL.out _, (by repeat' (first | exact Below.refl _ _ | assumption | apply bDrewN | apply bDrew | apply bAlloc | (refine bSet ?_ ?_ _) | (refine bStep ?_ (by assumption)) | omega | (simp <;> omega)))⟩
  · have hm : moveS xs ys dx dy = (([], []), checkC xs ys) := if_pos h1
    rw [hm]
    generalize checkC xs ys = r at *
    clear hm hx hy
    go_enter Try.func8, Try.ntmps8
    go_wp2_with (go_at_call 41; refine (CC.out _ (HA.out.step (by repeat' (first | exact Below.refl _ _ | assumption | apply bDrewN | apply bDrew | apply bAlloc | (refine bSet ?_ ?_ _) | (refine bStep ?_ (by assumption)) | omega | (simp <;> omega)))) (HB.out.step (by repeat' (first | exact Below.refl _ _ | assumption | apply bDrewN | apply bDrew | apply bAlloc | (refine bSet ?_ ?_ _) | (refine bStep ?_ (by assumption)) | omega | (simp <;> omega))))).mono ?_; rintro e w1 ⟨rfl, hb1⟩; obtain ⟨hcw1, hfw1⟩ := bcell hb1; have hzw1 := Below.size hb1; (try simp at hzw1); have hzw10 : w.heap.size < w1.heap.size := (by omega); have hzw11 : w.heap.size + 1 < w1.heap.size := (by omega))
    exact bodyPost_ret (v := .tuple #[.agg #[.slice none 0 0, .slice none 0 0], .int .i64 r]) (by simp only [results, Try.results8]; go_simp) rfl ⟨_, _, rfl, HNIL.out _, (by repeat' (first | exact Below.refl _ _ | assumption | apply bDrewN | apply bDrew | apply bAlloc | (refine bSet ?_ ?_ _) | (refine bStep ?_ (by assumption)) | omega | (simp <;> omega)))⟩

end Go.Proofs.Ytngnehlmbipabaa
